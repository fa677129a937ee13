/-
  The functions, as Gx tells them (printed by gen.py).
-/
import Derived.Test.YtbfaapoaimoimaaXSh1
set_option linter.unusedVariables false
namespace Go.Gx
abbrev R_Z49 : Type := Option ((Bool × Unit) × (Unit))
abbrev C_Z49 : Type := (List (Int × Int × List Int)) → List Int → List Int → Bool → List Int → R_Z49
abbrev T_Z49_L0 : Type := List Int × ((List (Int × Int × List Int)) × List Int × List Int × Bool × Unit) × Int × Unit
def B_Z49_L0b (k : Nat) (c_s_isKey : C_s_isKey) (again0 : T_Z49_L0 → R_Z49) (list : List Int) (m_Nodes : List (Int × Int × List Int)) (m_Stack m_Memo : List Int) (m_Done : Bool) (i : Int) : R_Z49 :=
  bif decide (i < (len list)) then
    chk (inb i list.length) <|
    chk (inb (rdx (0 : Int) list i) m_Nodes.length) <|
    (c_s_isKey ((rdx ((0 : Int), ((0 : Int), ([] : List Int))) m_Nodes (rdx (0 : Int) list i)).1) (((rdx ((0 : Int), ((0 : Int), ([] : List Int))) m_Nodes (rdx (0 : Int) list i)).2).1)).bind fun r20 =>
    bif (!r20.1.1) then
      some ((false, ()), ())
    else
      again0 (list, (m_Nodes, m_Stack, m_Memo, m_Done, ()), w64 (i + 2), ())
  else
    some (((((len list).tmod 2) == 0), ()), ())
def B_Z49_L0 (k : Nat) (c_s_isKey : C_s_isKey) (n : Nat) (t : T_Z49_L0) : R_Z49 :=
  lfix n (fun again t => B_Z49_L0b k c_s_isKey again t.1 t.2.1.1 t.2.1.2.1 t.2.1.2.2.1 t.2.1.2.2.2.1 t.2.2.1) t
def B_Z49 (k : Nat) (c_s_isKey : C_s_isKey) (m_0 : List (Int × Int × List Int)) (m_1 m_2 : List Int) (m_3 : Bool) (list : List Int) : R_Z49 :=
  B_Z49_L0 k c_s_isKey k (list, (m_0, m_1, m_2, m_3, ()), 0, ())
def F_Z49 : Nat → C_Z49
  | 0, _, _, _, _, _ => none
  | k + 1, m_0, m_1, m_2, m_3, list => B_Z49 k (F_s_isKey k) m_0 m_1 m_2 m_3 list
theorem tot_Z49 {m_0 m_1 m_2 m_3 list : _} {Q : _ → Prop} (h : Tot (fun σ => B_Z49 (σ 0) (F_s_isKey (σ 0)) m_0 m_1 m_2 m_3 list) Q) : Tot (fun σ => F_Z49 (σ 0) m_0 m_1 m_2 m_3 list) Q :=
  Tot.call (F := fun k => F_Z49 k m_0 m_1 m_2 m_3 list) (B := fun k => B_Z49 k (F_s_isKey k) m_0 m_1 m_2 m_3 list) (fun k => rfl) h
abbrev A_Z49_L0 (Z : Type) : Type := List Int → (List (Int × Int × List Int)) → List Int → List Int → Bool → Int → Z
abbrev u_Z49_L0 {Z : Type} (f : A_Z49_L0 Z) (t : T_Z49_L0) : Z := f t.1 t.2.1.1 t.2.1.2.1 t.2.1.2.2.1 t.2.1.2.2.2.1 t.2.2.1
theorem loop_Z49_L0 {Q : A_Z49_L0 (((Bool × Unit) × (Unit)) → Prop)} (I : A_Z49_L0 Prop) (μ : A_Z49_L0 Nat)
    (step : ∀ a0 a1 a2 a3 a4 a5, I a0 a1 a2 a3 a4 a5 → ∀ again : (Nat → Nat) → T_Z49_L0 → R_Z49, Dep 2 again → (∀ y0 y1 y2 y3 y4 y5, I y0 y1 y2 y3 y4 y5 → μ y0 y1 y2 y3 y4 y5 < μ a0 a1 a2 a3 a4 a5 → Tot (fun σ => again σ (y0, (y1, y2, y3, y4, ()), y5, ())) (Q y0 y1 y2 y3 y4 y5)) →
      Tot (fun σ => B_Z49_L0b (σ 0) (F_s_isKey (σ 0)) (again σ) a0 a1 a2 a3 a4 a5) (Q a0 a1 a2 a3 a4 a5)) :
    ∀ a0 a1 a2 a3 a4 a5, I a0 a1 a2 a3 a4 a5 → Tot (fun σ => B_Z49_L0 (σ 0) (F_s_isKey (σ 0)) (σ 0) (a0, (a1, a2, a3, a4, ()), a5, ())) (Q a0 a1 a2 a3 a4 a5) := fun a0 a1 a2 a3 a4 a5 => Tot.loop0 (L := fun k => B_Z49_L0 k (F_s_isKey k)) (B := fun k g => u_Z49_L0 (B_Z49_L0b k (F_s_isKey k) g)) (Q := u_Z49_L0 Q) (fun _ _ _ => rfl) (u_Z49_L0 I) (u_Z49_L0 μ)
    (fun t ht again hag h => step t.1 t.2.1.1 t.2.1.2.1 t.2.1.2.2.1 t.2.1.2.2.2.1 t.2.2.1 ht again hag fun y0 y1 y2 y3 y4 y5 => h (y0, (y1, y2, y3, y4, ()), y5, ())) (a0, (a1, a2, a3, a4, ()), a5, ())
abbrev R_Z65 : Type := Option ((((List (Int × Int × List Int)) × List Int × List Int × Bool × Unit) × Unit) × (Unit))
abbrev C_Z65 : Type := (List (Int × Int × List Int)) → List Int → List Int → Bool → Int → Int → Int → R_Z65
abbrev T_Z65_L0 : Type := Int × Int × Int × (Unit × Unit × Unit × Bool × Unit) × List Int × Int × ((List (Int × Int × List Int) × Nat) × List Int × List Int × Bool × Unit) × Unit
def B_Z65_L0b (k : Nat) (c_Z68 : C_Z68) (again0 : T_Z65_L0 → R_Z65) (dict key value : Int) (t8_Done : Bool) (kids : List Int) (i : Int) (m_Nodes : List (Int × Int × List Int) × Nat) (m_Stack m_Memo : List Int) (m_Done : Bool) : R_Z65 :=
  bif decide (i < (len kids)) then
    chk (inb i kids.length) <|
    chk (decide (i.toNat < kids.length)) <|
    chk (inb (kids.getD i.toNat (0 : Int)) m_Nodes.1.length) <|
    chk (decide ((kids.getD i.toNat (0 : Int)).toNat < m_Nodes.1.length)) <|
    chk (inb key m_Nodes.1.length) <|
    chk (decide (key.toNat < m_Nodes.1.length)) <|
    (c_Z68 ((m_Nodes.1.getD ((kids.getD i.toNat (0 : Int)).toNat) ((0 : Int), ((0 : Int), ([] : List Int)))).1) (((m_Nodes.1.getD ((kids.getD i.toNat (0 : Int)).toNat) ((0 : Int), ((0 : Int), ([] : List Int)))).2).1) ((m_Nodes.1.getD key.toNat ((0 : Int), ((0 : Int), ([] : List Int)))).1) (((m_Nodes.1.getD key.toNat ((0 : Int), ((0 : Int), ([] : List Int)))).2).1)).bind fun r36 =>
    bif r36.1.1 then
      chk (inb (w64 (i + 1)) kids.length) <|
      chk (decide ((w64 (i + 1)).toNat < kids.length)) <|
      some ((((m_Nodes.1.set m_Nodes.2 ((m_Nodes.1.getD m_Nodes.2 ((0 : Int), ((0 : Int), ([] : List Int)))).1, (((m_Nodes.1.getD m_Nodes.2 ((0 : Int), ((0 : Int), ([] : List Int)))).2).1, (kids.set ((w64 (i + 1)).toNat) value)))), m_Stack, m_Memo, m_Done, ()), ()), ())
    else
      again0 (dict, key, value, ((), (), (), t8_Done, ()), kids, w64 (i + 2), ((m_Nodes.1, m_Nodes.2), m_Stack, m_Memo, m_Done, ()), ())
  else
    chk (room kids.length ([key, value]).length) <|
    chk (inb dict m_Nodes.1.length) <|
    chk (decide (dict.toNat = m_Nodes.2)) <|
    some ((((m_Nodes.1.set dict.toNat ((m_Nodes.1.getD dict.toNat ((0 : Int), ((0 : Int), ([] : List Int)))).1, (((m_Nodes.1.getD dict.toNat ((0 : Int), ((0 : Int), ([] : List Int)))).2).1, (kids ++ [key, value])))), m_Stack, m_Memo, m_Done, ()), ()), ())
def B_Z65_L0 (k : Nat) (c_Z68 : C_Z68) (n : Nat) (t : T_Z65_L0) : R_Z65 :=
  lfix n (fun again t => B_Z65_L0b k c_Z68 again t.1 t.2.1 t.2.2.1 t.2.2.2.1.2.2.2.1 t.2.2.2.2.1 t.2.2.2.2.2.1 t.2.2.2.2.2.2.1.1 t.2.2.2.2.2.2.1.2.1 t.2.2.2.2.2.2.1.2.2.1 t.2.2.2.2.2.2.1.2.2.2.1) t
def B_Z65 (k : Nat) (c_Z68 : C_Z68) (m_0 : List (Int × Int × List Int)) (m_1 m_2 : List Int) (m_3 : Bool) (dict key value : Int) : R_Z65 :=
  chk (inb dict m_0.length) <|
  chk (decide (dict.toNat < m_0.length)) <|
  B_Z65_L0 k c_Z68 k (dict, key, value, ((), (), (), false, ()), ((m_0.getD dict.toNat ((0 : Int), ((0 : Int), ([] : List Int)))).2).2, 0, ((m_0, dict.toNat), m_1, m_2, m_3, ()), ())
def F_Z65 : Nat → C_Z65
  | 0, _, _, _, _, _, _, _ => none
  | k + 1, m_0, m_1, m_2, m_3, dict, key, value => B_Z65 k (F_Z68 k) m_0 m_1 m_2 m_3 dict key value
theorem tot_Z65 {m_0 m_1 m_2 m_3 dict key value : _} {Q : _ → Prop} (h : Tot (fun σ => B_Z65 (σ 0) (F_Z68 (σ 0)) m_0 m_1 m_2 m_3 dict key value) Q) : Tot (fun σ => F_Z65 (σ 0) m_0 m_1 m_2 m_3 dict key value) Q :=
  Tot.call (F := fun k => F_Z65 k m_0 m_1 m_2 m_3 dict key value) (B := fun k => B_Z65 k (F_Z68 k) m_0 m_1 m_2 m_3 dict key value) (fun k => rfl) h
abbrev A_Z65_L0 (Z : Type) : Type := Int → Int → Int → Bool → List Int → Int → (List (Int × Int × List Int) × Nat) → List Int → List Int → Bool → Z
abbrev u_Z65_L0 {Z : Type} (f : A_Z65_L0 Z) (t : T_Z65_L0) : Z := f t.1 t.2.1 t.2.2.1 t.2.2.2.1.2.2.2.1 t.2.2.2.2.1 t.2.2.2.2.2.1 t.2.2.2.2.2.2.1.1 t.2.2.2.2.2.2.1.2.1 t.2.2.2.2.2.2.1.2.2.1 t.2.2.2.2.2.2.1.2.2.2.1
theorem loop_Z65_L0 {Q : A_Z65_L0 (((((List (Int × Int × List Int)) × List Int × List Int × Bool × Unit) × Unit) × (Unit)) → Prop)} (I : A_Z65_L0 Prop) (μ : A_Z65_L0 Nat)
    (step : ∀ a0 a1 a2 a3 a4 a5 a6 a7 a8 a9, I a0 a1 a2 a3 a4 a5 a6 a7 a8 a9 → ∀ again : (Nat → Nat) → T_Z65_L0 → R_Z65, Dep 2 again → (∀ y0 y1 y2 y3 y4 y5 y6 y7 y8 y9, I y0 y1 y2 y3 y4 y5 y6 y7 y8 y9 → μ y0 y1 y2 y3 y4 y5 y6 y7 y8 y9 < μ a0 a1 a2 a3 a4 a5 a6 a7 a8 a9 → Tot (fun σ => again σ (y0, y1, y2, ((), (), (), y3, ()), y4, y5, (y6, y7, y8, y9, ()), ())) (Q y0 y1 y2 y3 y4 y5 y6 y7 y8 y9)) →
      Tot (fun σ => B_Z65_L0b (σ 0) (F_Z68 (σ 0)) (again σ) a0 a1 a2 a3 a4 a5 a6 a7 a8 a9) (Q a0 a1 a2 a3 a4 a5 a6 a7 a8 a9)) :
    ∀ a0 a1 a2 a3 a4 a5 a6 a7 a8 a9, I a0 a1 a2 a3 a4 a5 a6 a7 a8 a9 → Tot (fun σ => B_Z65_L0 (σ 0) (F_Z68 (σ 0)) (σ 0) (a0, a1, a2, ((), (), (), a3, ()), a4, a5, (a6, a7, a8, a9, ()), ())) (Q a0 a1 a2 a3 a4 a5 a6 a7 a8 a9) := fun a0 a1 a2 a3 a4 a5 a6 a7 a8 a9 => Tot.loop0 (L := fun k => B_Z65_L0 k (F_Z68 k)) (B := fun k g => u_Z65_L0 (B_Z65_L0b k (F_Z68 k) g)) (Q := u_Z65_L0 Q) (fun _ _ _ => rfl) (u_Z65_L0 I) (u_Z65_L0 μ)
    (fun t ht again hag h => step t.1 t.2.1 t.2.2.1 t.2.2.2.1.2.2.2.1 t.2.2.2.2.1 t.2.2.2.2.2.1 t.2.2.2.2.2.2.1.1 t.2.2.2.2.2.2.1.2.1 t.2.2.2.2.2.2.1.2.2.1 t.2.2.2.2.2.2.1.2.2.2.1 ht again hag fun y0 y1 y2 y3 y4 y5 y6 y7 y8 y9 => h (y0, y1, y2, ((), (), (), y3, ()), y4, y5, (y6, y7, y8, y9, ()), ())) (a0, a1, a2, ((), (), (), a3, ()), a4, a5, (a6, a7, a8, a9, ()), ())
abbrev R_Z54 : Type := Option ((((List (Int × Int × List Int)) × List Int × List Int × Bool × Unit) × Bool × Unit) × (Unit))
abbrev C_Z54 : Type := (List (Int × Int × List Int)) → List Int → List Int → Bool → Int → Int → R_Z54
abbrev T_Z54_L1 : Type := ((List (Int × Int × List Int)) × List Int × List Int × Bool × Unit) × (Unit × Unit × Unit × Bool × Unit) × List Int × Int × Int × Unit
def B_Z54_J2 (k : Nat) (c_s_markAt : C_s_markAt) (c_Z50 : C_Z50) (c_s_drop : C_s_drop) (c_s_top : C_s_top) (c_s_push : C_s_push) (c_s_kindOf : C_s_kindOf) (c_Z49 : C_Z49) (c_Z65 : C_Z65) (m_Nodes : List (Int × Int × List Int)) (m_Stack m_Memo : List Int) (m_Done t4_Done : Bool) : R_Z54 :=
  some (((m_Nodes, m_Stack, m_Memo, m_Done, ()), true, ()), ())
def B_Z54_L1b (k : Nat) (c_s_markAt : C_s_markAt) (c_Z50 : C_Z50) (c_s_drop : C_s_drop) (c_s_top : C_s_top) (c_s_push : C_s_push) (c_s_kindOf : C_s_kindOf) (c_Z49 : C_Z49) (c_Z65 : C_Z65) (again1 : T_Z54_L1 → R_Z54) (m_Nodes : List (Int × Int × List Int)) (m_Stack m_Memo : List Int) (m_Done t4_Done : Bool) (list : List Int) (below i : Int) : R_Z54 :=
  bif decide (i < (len list)) then
    chk (inb i list.length) <|
    chk (decide (i.toNat < list.length)) <|
    chk (inb (w64 (i + 1)) list.length) <|
    chk (decide ((w64 (i + 1)).toNat < list.length)) <|
    (c_Z65 m_Nodes m_Stack m_Memo m_Done below (list.getD i.toNat (0 : Int)) (list.getD ((w64 (i + 1)).toNat) (0 : Int))).bind fun r86 =>
    again1 ((r86.1.1.1, r86.1.1.2.1, r86.1.1.2.2.1, r86.1.1.2.2.2.1, ()), ((), (), (), t4_Done, ()), list, below, w64 (i + 2), ())
  else
    jn (fun t => B_Z54_J2 k c_s_markAt c_Z50 c_s_drop c_s_top c_s_push c_s_kindOf c_Z49 c_Z65 t.1.1 t.1.2.1 t.1.2.2.1 t.1.2.2.2.1 t.2.1.2.2.2.1) ((m_Nodes, m_Stack, m_Memo, m_Done, ()), ((), (), (), t4_Done, ()), ())
def B_Z54_L1 (k : Nat) (c_s_markAt : C_s_markAt) (c_Z50 : C_Z50) (c_s_drop : C_s_drop) (c_s_top : C_s_top) (c_s_push : C_s_push) (c_s_kindOf : C_s_kindOf) (c_Z49 : C_Z49) (c_Z65 : C_Z65) (n : Nat) (t : T_Z54_L1) : R_Z54 :=
  lfix n (fun again t => B_Z54_L1b k c_s_markAt c_Z50 c_s_drop c_s_top c_s_push c_s_kindOf c_Z49 c_Z65 again t.1.1 t.1.2.1 t.1.2.2.1 t.1.2.2.2.1 t.2.1.2.2.2.1 t.2.2.1 t.2.2.2.1 t.2.2.2.2.1) t
def B_Z54_J0 (k : Nat) (c_s_markAt : C_s_markAt) (c_Z50 : C_Z50) (c_s_drop : C_s_drop) (c_s_top : C_s_top) (c_s_push : C_s_push) (c_s_kindOf : C_s_kindOf) (c_Z49 : C_Z49) (c_Z65 : C_Z65) (m_Nodes : List (Int × Int × List Int)) (m_Stack m_Memo : List Int) (m_Done t4_Done : Bool) (list : List Int) (below : Int) (t67 : Bool) : R_Z54 :=
  bif t67 then
    some (((m_Nodes, m_Stack, m_Memo, m_Done, ()), false, ()), ())
  else
    B_Z54_L1 k c_s_markAt c_Z50 c_s_drop c_s_top c_s_push c_s_kindOf c_Z49 c_Z65 k ((m_Nodes, m_Stack, m_Memo, m_Done, ()), ((), (), (), t4_Done, ()), list, below, 0, ())
def B_Z54 (k : Nat) (c_s_markAt : C_s_markAt) (c_Z50 : C_Z50) (c_s_drop : C_s_drop) (c_s_top : C_s_top) (c_s_push : C_s_push) (c_s_kindOf : C_s_kindOf) (c_Z49 : C_Z49) (c_Z65 : C_Z65) (m_0 : List (Int × Int × List Int)) (m_1 m_2 : List Int) (m_3 : Bool) (o_0 o_1 : Int) : R_Z54 :=
  (c_s_markAt m_0 m_1 m_2 m_3).bind fun r11 =>
  bif decide (r11.1.1 < 0) then
    some (((m_0, m_1, m_2, m_3, ()), false, ()), ())
  else
    chk (cutb (w64 (r11.1.1 + 1)) (len m_1) m_1.length) <|
    (c_Z50 ((m_1.take ((len m_1).toNat)).drop ((w64 (r11.1.1 + 1)).toNat))).bind fun r20 =>
    (c_s_drop m_0 m_1 m_2 m_3 (w64 ((len r20.1.1) + 1))).bind fun r25 =>
    (c_s_top r25.1.1.1 r25.1.1.2.1 r25.1.1.2.2.1 r25.1.1.2.2.2.1 0).bind fun r27 =>
    bif (o_0 == 3) then
      (c_s_push r25.1.1.1 r25.1.1.2.1 r25.1.1.2.2.1 r25.1.1.2.2.2.1 2 0 r20.1.1).bind fun r35 =>
      some (((r35.1.1.1, r35.1.1.2.1, r35.1.1.2.2.1, r35.1.1.2.2.2.1, ()), true, ()), ())
    else
      bif (o_0 == 9) then
        (c_s_kindOf r25.1.1.1 r25.1.1.2.1 r25.1.1.2.2.1 r25.1.1.2.2.2.1 r27.1.1).bind fun r40 =>
        bif (r40.1.1 != 3) then
          some (((r25.1.1.1, r25.1.1.2.1, r25.1.1.2.2.1, r25.1.1.2.2.2.1, ()), false, ()), ())
        else
          chk (inb r27.1.1 r25.1.1.1.length) <|
          chk (decide (r27.1.1.toNat < r25.1.1.1.length)) <|
          chk (room (((r25.1.1.1.getD r27.1.1.toNat ((0 : Int), ((0 : Int), ([] : List Int)))).2).2).length r20.1.1.length) <|
          chk (inb r27.1.1 r25.1.1.1.length) <|
          chk (decide (r27.1.1.toNat = r27.1.1.toNat)) <|
          let w1 : List (Int × Int × List Int) := (r25.1.1.1.set r27.1.1.toNat ((r25.1.1.1.getD r27.1.1.toNat ((0 : Int), ((0 : Int), ([] : List Int)))).1, (((r25.1.1.1.getD r27.1.1.toNat ((0 : Int), ((0 : Int), ([] : List Int)))).2).1, (((r25.1.1.1.getD r27.1.1.toNat ((0 : Int), ((0 : Int), ([] : List Int)))).2).2 ++ r20.1.1))))
          jn (fun t => B_Z54_J2 k c_s_markAt c_Z50 c_s_drop c_s_top c_s_push c_s_kindOf c_Z49 c_Z65 t.1.1 t.1.2.1 t.1.2.2.1 t.1.2.2.2.1 t.2.1.2.2.2.1) ((w1, r25.1.1.2.1, r25.1.1.2.2.1, r25.1.1.2.2.2.1, ()), ((), (), (), false, ()), ())
      else
        bif (o_0 == 12) then
          (c_s_kindOf r25.1.1.1 r25.1.1.2.1 r25.1.1.2.2.1 r25.1.1.2.2.2.1 r27.1.1).bind fun r60 =>
          bif (r60.1.1 != 4) then
            jn (fun t => B_Z54_J0 k c_s_markAt c_Z50 c_s_drop c_s_top c_s_push c_s_kindOf c_Z49 c_Z65 t.1.1 t.1.2.1 t.1.2.2.1 t.1.2.2.2.1 t.2.1.2.2.2.1 t.2.2.1 t.2.2.2.1 t.2.2.2.2.1) ((r25.1.1.1, r25.1.1.2.1, r25.1.1.2.2.1, r25.1.1.2.2.2.1, ()), ((), (), (), false, ()), r20.1.1, r27.1.1, true, ())
          else
            (c_Z49 r25.1.1.1 r25.1.1.2.1 r25.1.1.2.2.1 r25.1.1.2.2.2.1 r20.1.1).bind fun r65 =>
            jn (fun t => B_Z54_J0 k c_s_markAt c_Z50 c_s_drop c_s_top c_s_push c_s_kindOf c_Z49 c_Z65 t.1.1 t.1.2.1 t.1.2.2.1 t.1.2.2.2.1 t.2.1.2.2.2.1 t.2.2.1 t.2.2.2.1 t.2.2.2.2.1) ((r25.1.1.1, r25.1.1.2.1, r25.1.1.2.2.1, r25.1.1.2.2.2.1, ()), ((), (), (), false, ()), r20.1.1, r27.1.1, (!r65.1.1), ())
        else
          jn (fun t => B_Z54_J2 k c_s_markAt c_Z50 c_s_drop c_s_top c_s_push c_s_kindOf c_Z49 c_Z65 t.1.1 t.1.2.1 t.1.2.2.1 t.1.2.2.2.1 t.2.1.2.2.2.1) ((r25.1.1.1, r25.1.1.2.1, r25.1.1.2.2.1, r25.1.1.2.2.2.1, ()), ((), (), (), false, ()), ())
def F_Z54 : Nat → C_Z54
  | 0, _, _, _, _, _, _ => none
  | k + 1, m_0, m_1, m_2, m_3, o_0, o_1 => B_Z54 k (F_s_markAt k) (F_Z50 k) (F_s_drop k) (F_s_top k) (F_s_push k) (F_s_kindOf k) (F_Z49 k) (F_Z65 k) m_0 m_1 m_2 m_3 o_0 o_1
theorem tot_Z54 {m_0 m_1 m_2 m_3 o_0 o_1 : _} {Q : _ → Prop} (h : Tot (fun σ => B_Z54 (σ 0) (F_s_markAt (σ 0)) (F_Z50 (σ 0)) (F_s_drop (σ 0)) (F_s_top (σ 0)) (F_s_push (σ 0)) (F_s_kindOf (σ 0)) (F_Z49 (σ 0)) (F_Z65 (σ 0)) m_0 m_1 m_2 m_3 o_0 o_1) Q) : Tot (fun σ => F_Z54 (σ 0) m_0 m_1 m_2 m_3 o_0 o_1) Q :=
  Tot.call (F := fun k => F_Z54 k m_0 m_1 m_2 m_3 o_0 o_1) (B := fun k => B_Z54 k (F_s_markAt k) (F_Z50 k) (F_s_drop k) (F_s_top k) (F_s_push k) (F_s_kindOf k) (F_Z49 k) (F_Z65 k) m_0 m_1 m_2 m_3 o_0 o_1) (fun k => rfl) h
abbrev A_Z54_L1 (Z : Type) : Type := (List (Int × Int × List Int)) → List Int → List Int → Bool → Bool → List Int → Int → Int → Z
abbrev u_Z54_L1 {Z : Type} (f : A_Z54_L1 Z) (t : T_Z54_L1) : Z := f t.1.1 t.1.2.1 t.1.2.2.1 t.1.2.2.2.1 t.2.1.2.2.2.1 t.2.2.1 t.2.2.2.1 t.2.2.2.2.1
theorem loop_Z54_L1 {Q : A_Z54_L1 (((((List (Int × Int × List Int)) × List Int × List Int × Bool × Unit) × Bool × Unit) × (Unit)) → Prop)} (I : A_Z54_L1 Prop) (μ : A_Z54_L1 Nat)
    (step : ∀ a0 a1 a2 a3 a4 a5 a6 a7, I a0 a1 a2 a3 a4 a5 a6 a7 → ∀ again : (Nat → Nat) → T_Z54_L1 → R_Z54, Dep 2 again → (∀ y0 y1 y2 y3 y4 y5 y6 y7, I y0 y1 y2 y3 y4 y5 y6 y7 → μ y0 y1 y2 y3 y4 y5 y6 y7 < μ a0 a1 a2 a3 a4 a5 a6 a7 → Tot (fun σ => again σ ((y0, y1, y2, y3, ()), ((), (), (), y4, ()), y5, y6, y7, ())) (Q y0 y1 y2 y3 y4 y5 y6 y7)) →
      Tot (fun σ => B_Z54_L1b (σ 0) (F_s_markAt (σ 0)) (F_Z50 (σ 0)) (F_s_drop (σ 0)) (F_s_top (σ 0)) (F_s_push (σ 0)) (F_s_kindOf (σ 0)) (F_Z49 (σ 0)) (F_Z65 (σ 0)) (again σ) a0 a1 a2 a3 a4 a5 a6 a7) (Q a0 a1 a2 a3 a4 a5 a6 a7)) :
    ∀ a0 a1 a2 a3 a4 a5 a6 a7, I a0 a1 a2 a3 a4 a5 a6 a7 → Tot (fun σ => B_Z54_L1 (σ 0) (F_s_markAt (σ 0)) (F_Z50 (σ 0)) (F_s_drop (σ 0)) (F_s_top (σ 0)) (F_s_push (σ 0)) (F_s_kindOf (σ 0)) (F_Z49 (σ 0)) (F_Z65 (σ 0)) (σ 0) ((a0, a1, a2, a3, ()), ((), (), (), a4, ()), a5, a6, a7, ())) (Q a0 a1 a2 a3 a4 a5 a6 a7) := fun a0 a1 a2 a3 a4 a5 a6 a7 => Tot.loop0 (L := fun k => B_Z54_L1 k (F_s_markAt k) (F_Z50 k) (F_s_drop k) (F_s_top k) (F_s_push k) (F_s_kindOf k) (F_Z49 k) (F_Z65 k)) (B := fun k g => u_Z54_L1 (B_Z54_L1b k (F_s_markAt k) (F_Z50 k) (F_s_drop k) (F_s_top k) (F_s_push k) (F_s_kindOf k) (F_Z49 k) (F_Z65 k) g)) (Q := u_Z54_L1 Q) (fun _ _ _ => rfl) (u_Z54_L1 I) (u_Z54_L1 μ)
    (fun t ht again hag h => step t.1.1 t.1.2.1 t.1.2.2.1 t.1.2.2.2.1 t.2.1.2.2.2.1 t.2.2.1 t.2.2.2.1 t.2.2.2.2.1 ht again hag fun y0 y1 y2 y3 y4 y5 y6 y7 => h ((y0, y1, y2, y3, ()), ((), (), (), y4, ()), y5, y6, y7, ())) ((a0, a1, a2, a3, ()), ((), (), (), a4, ()), a5, a6, a7, ())
abbrev R_Z60 : Type := Option ((((List (Int × Int × List Int)) × List Int × List Int × Bool × Unit) × Bool × Unit) × (Unit))
abbrev C_Z60 : Type := (List (Int × Int × List Int)) → List Int → List Int → Bool → Int → Int → R_Z60
def B_Z60_J0 (k : Nat) (c_s_top : C_s_top) (c_s_drop : C_s_drop) (c_s_push : C_s_push) (c_s_kindOf : C_s_kindOf) (c_s_isKey : C_s_isKey) (c_Z65 : C_Z65) (m_Nodes : List (Int × Int × List Int)) (m_Stack m_Memo : List Int) (m_Done t4_Done : Bool) (a b c : Int) (t81 : Bool) : R_Z60 :=
  bif t81 then
    some (((m_Nodes, m_Stack, m_Memo, m_Done, ()), false, ()), ())
  else
    (c_Z65 m_Nodes m_Stack m_Memo m_Done c b a).bind fun r87 =>
    (c_s_drop r87.1.1.1 r87.1.1.2.1 r87.1.1.2.2.1 r87.1.1.2.2.2.1 2).bind fun r88 =>
    some (((r88.1.1.1, r88.1.1.2.1, r88.1.1.2.2.1, r88.1.1.2.2.2.1, ()), true, ()), ())
def B_Z60_J1 (k : Nat) (c_s_top : C_s_top) (c_s_drop : C_s_drop) (c_s_push : C_s_push) (c_s_kindOf : C_s_kindOf) (c_s_isKey : C_s_isKey) (c_Z65 : C_Z65) (m_Nodes : List (Int × Int × List Int)) (m_Stack m_Memo : List Int) (m_Done t4_Done : Bool) (a b : Int) (t104 : Bool) : R_Z60 :=
  bif t104 then
    some (((m_Nodes, m_Stack, m_Memo, m_Done, ()), false, ()), ())
  else
    chk (inb b m_Nodes.length) <|
    chk (decide (b.toNat < m_Nodes.length)) <|
    (c_s_drop (m_Nodes.set b.toNat ((m_Nodes.getD b.toNat ((0 : Int), ((0 : Int), ([] : List Int)))).1, (((m_Nodes.getD b.toNat ((0 : Int), ((0 : Int), ([] : List Int)))).2).1, [a]))) m_Stack m_Memo m_Done 1).bind fun r114 =>
    some (((r114.1.1.1, r114.1.1.2.1, r114.1.1.2.2.1, r114.1.1.2.2.2.1, ()), true, ()), ())
def B_Z60 (k : Nat) (c_s_top : C_s_top) (c_s_drop : C_s_drop) (c_s_push : C_s_push) (c_s_kindOf : C_s_kindOf) (c_s_isKey : C_s_isKey) (c_Z65 : C_Z65) (m_0 : List (Int × Int × List Int)) (m_1 m_2 : List Int) (m_3 : Bool) (o_0 o_1 : Int) : R_Z60 :=
  (c_s_top m_0 m_1 m_2 m_3 0).bind fun r10 =>
  (c_s_top m_0 m_1 m_2 m_3 1).bind fun r12 =>
  (c_s_top m_0 m_1 m_2 m_3 2).bind fun r14 =>
  bif decide (r10.1.1 < 0) then
    some (((m_0, m_1, m_2, m_3, ()), false, ()), ())
  else
    bif (o_0 == 5) then
      (c_s_drop m_0 m_1 m_2 m_3 1).bind fun r23 =>
      (c_s_push r23.1.1.1 r23.1.1.2.1 r23.1.1.2.2.1 r23.1.1.2.2.2.1 2 0 ([r10.1.1])).bind fun r27 =>
      some (((r27.1.1.1, r27.1.1.2.1, r27.1.1.2.2.1, r27.1.1.2.2.2.1, ()), true, ()), ())
    else
      bif (o_0 == 6) then
        bif decide (r12.1.1 < 0) then
          some (((m_0, m_1, m_2, m_3, ()), false, ()), ())
        else
          (c_s_drop m_0 m_1 m_2 m_3 2).bind fun r34 =>
          (c_s_push r34.1.1.1 r34.1.1.2.1 r34.1.1.2.2.1 r34.1.1.2.2.2.1 2 0 ([r12.1.1, r10.1.1])).bind fun r39 =>
          some (((r39.1.1.1, r39.1.1.2.1, r39.1.1.2.2.1, r39.1.1.2.2.2.1, ()), true, ()), ())
      else
        bif (o_0 == 8) then
          (c_s_kindOf m_0 m_1 m_2 m_3 r12.1.1).bind fun r44 =>
          bif (r44.1.1 != 3) then
            some (((m_0, m_1, m_2, m_3, ()), false, ()), ())
          else
            chk (inb r12.1.1 m_0.length) <|
            chk (decide (r12.1.1.toNat < m_0.length)) <|
            chk (room (((m_0.getD r12.1.1.toNat ((0 : Int), ((0 : Int), ([] : List Int)))).2).2).length ([r10.1.1]).length) <|
            chk (inb r12.1.1 m_0.length) <|
            chk (decide (r12.1.1.toNat = r12.1.1.toNat)) <|
            let w0 : List (Int × Int × List Int) := (m_0.set r12.1.1.toNat ((m_0.getD r12.1.1.toNat ((0 : Int), ((0 : Int), ([] : List Int)))).1, (((m_0.getD r12.1.1.toNat ((0 : Int), ((0 : Int), ([] : List Int)))).2).1, (((m_0.getD r12.1.1.toNat ((0 : Int), ((0 : Int), ([] : List Int)))).2).2 ++ [r10.1.1]))))
            (c_s_drop w0 m_1 m_2 m_3 1).bind fun r62 =>
            some (((r62.1.1.1, r62.1.1.2.1, r62.1.1.2.2.1, r62.1.1.2.2.2.1, ()), true, ()), ())
        else
          bif (o_0 == 11) then
            bif decide (r12.1.1 < 0) then
              jn (fun t => B_Z60_J0 k c_s_top c_s_drop c_s_push c_s_kindOf c_s_isKey c_Z65 t.1.1 t.1.2.1 t.1.2.2.1 t.1.2.2.2.1 t.2.1.2.2.2.1 t.2.2.1 t.2.2.2.1 t.2.2.2.2.1 t.2.2.2.2.2.1) ((m_0, m_1, m_2, m_3, ()), ((), (), (), false, ()), r10.1.1, r12.1.1, r14.1.1, true, ())
            else
              (c_s_kindOf m_0 m_1 m_2 m_3 r14.1.1).bind fun r70 =>
              bif (r70.1.1 != 4) then
                jn (fun t => B_Z60_J0 k c_s_top c_s_drop c_s_push c_s_kindOf c_s_isKey c_Z65 t.1.1 t.1.2.1 t.1.2.2.1 t.1.2.2.2.1 t.2.1.2.2.2.1 t.2.2.1 t.2.2.2.1 t.2.2.2.2.1 t.2.2.2.2.2.1) ((m_0, m_1, m_2, m_3, ()), ((), (), (), false, ()), r10.1.1, r12.1.1, r14.1.1, true, ())
              else
                chk (inb r12.1.1 m_0.length) <|
                chk (decide (r12.1.1.toNat < m_0.length)) <|
                (c_s_isKey ((m_0.getD r12.1.1.toNat ((0 : Int), ((0 : Int), ([] : List Int)))).1) (((m_0.getD r12.1.1.toNat ((0 : Int), ((0 : Int), ([] : List Int)))).2).1)).bind fun r79 =>
                jn (fun t => B_Z60_J0 k c_s_top c_s_drop c_s_push c_s_kindOf c_s_isKey c_Z65 t.1.1 t.1.2.1 t.1.2.2.1 t.1.2.2.2.1 t.2.1.2.2.2.1 t.2.2.1 t.2.2.2.1 t.2.2.2.2.1 t.2.2.2.2.2.1) ((m_0, m_1, m_2, m_3, ()), ((), (), (), false, ()), r10.1.1, r12.1.1, r14.1.1, (!r79.1.1), ())
          else
            bif (o_0 == 14) then
              (c_s_kindOf m_0 m_1 m_2 m_3 r12.1.1).bind fun r93 =>
              bif (r93.1.1 != 5) then
                jn (fun t => B_Z60_J1 k c_s_top c_s_drop c_s_push c_s_kindOf c_s_isKey c_Z65 t.1.1 t.1.2.1 t.1.2.2.1 t.1.2.2.2.1 t.2.1.2.2.2.1 t.2.2.1 t.2.2.2.1 t.2.2.2.2.1) ((m_0, m_1, m_2, m_3, ()), ((), (), (), false, ()), r10.1.1, r12.1.1, true, ())
              else
                chk (inb r12.1.1 m_0.length) <|
                chk (decide (r12.1.1.toNat < m_0.length)) <|
                let v103 : Bool := decide ((len (((m_0.getD r12.1.1.toNat ((0 : Int), ((0 : Int), ([] : List Int)))).2).2)) > 0)
                let w2 : List (Int × Int × List Int) := (m_0.set r12.1.1.toNat ((m_0.getD r12.1.1.toNat ((0 : Int), ((0 : Int), ([] : List Int)))).1, (((m_0.getD r12.1.1.toNat ((0 : Int), ((0 : Int), ([] : List Int)))).2).1, ((m_0.getD r12.1.1.toNat ((0 : Int), ((0 : Int), ([] : List Int)))).2).2)))
                jn (fun t => B_Z60_J1 k c_s_top c_s_drop c_s_push c_s_kindOf c_s_isKey c_Z65 t.1.1 t.1.2.1 t.1.2.2.1 t.1.2.2.2.1 t.2.1.2.2.2.1 t.2.2.1 t.2.2.2.1 t.2.2.2.2.1) ((w2, m_1, m_2, m_3, ()), ((), (), (), false, ()), r10.1.1, r12.1.1, v103, ())
            else
              bif (o_0 == 15) then
                chk (inb o_1 m_2.length) <|
                chk (decide (o_1.toNat < m_2.length)) <|
                some (((m_0, m_1, (m_2.set o_1.toNat r10.1.1), m_3, ()), true, ()), ())
              else
                bif (o_0 == 17) then
                  (c_s_drop m_0 m_1 m_2 m_3 1).bind fun r127 =>
                  some (((r127.1.1.1, r127.1.1.2.1, r127.1.1.2.2.1, r127.1.1.2.2.2.1, ()), true, ()), ())
                else
                  some (((m_0, m_1, m_2, true, ()), ((len m_1) == 1), ()), ())
def F_Z60 : Nat → C_Z60
  | 0, _, _, _, _, _, _ => none
  | k + 1, m_0, m_1, m_2, m_3, o_0, o_1 => B_Z60 k (F_s_top k) (F_s_drop k) (F_s_push k) (F_s_kindOf k) (F_s_isKey k) (F_Z65 k) m_0 m_1 m_2 m_3 o_0 o_1
theorem tot_Z60 {m_0 m_1 m_2 m_3 o_0 o_1 : _} {Q : _ → Prop} (h : Tot (fun σ => B_Z60 (σ 0) (F_s_top (σ 0)) (F_s_drop (σ 0)) (F_s_push (σ 0)) (F_s_kindOf (σ 0)) (F_s_isKey (σ 0)) (F_Z65 (σ 0)) m_0 m_1 m_2 m_3 o_0 o_1) Q) : Tot (fun σ => F_Z60 (σ 0) m_0 m_1 m_2 m_3 o_0 o_1) Q :=
  Tot.call (F := fun k => F_Z60 k m_0 m_1 m_2 m_3 o_0 o_1) (B := fun k => B_Z60 k (F_s_top k) (F_s_drop k) (F_s_push k) (F_s_kindOf k) (F_s_isKey k) (F_Z65 k) m_0 m_1 m_2 m_3 o_0 o_1) (fun k => rfl) h
abbrev R_s_step : Type := Option ((((Option (List (Int × Int × List Int))) × Option (List Int) × Option (List Int) × Bool × Unit) × Bool × Unit) × (Unit))
abbrev C_s_step : Type := (List (Int × Int × List Int)) → List Int → List Int → Bool → Int → Int → R_s_step
def B_s_step_J1 (k : Nat) (c_s_push : C_s_push) (c_Z54 : C_Z54) (c_Z60 : C_Z60) (m_Nodes : List (Int × Int × List Int)) (m_Stack m_Memo : List Int) (m_Done t4_Done : Bool) : R_s_step :=
  bif decide ((len m_Nodes) ≤ 300) then
    some ((((some m_Nodes), (some m_Stack), (some m_Memo), m_Done, ()), decide ((len m_Stack) ≤ 300), ()), ())
  else
    some ((((some m_Nodes), (some m_Stack), (some m_Memo), m_Done, ()), false, ()), ())
def B_s_step_J0 (k : Nat) (c_s_push : C_s_push) (c_Z54 : C_Z54) (c_Z60 : C_Z60) (m_Nodes : List (Int × Int × List Int)) (m_Stack m_Memo : List Int) (m_Done : Bool) (o_Code o_Arg : Int) (t4_Done t89 : Bool) : R_s_step :=
  bif t89 then
    (c_Z54 m_Nodes m_Stack m_Memo m_Done o_Code o_Arg).bind fun r97 =>
    bif (!r97.1.2.1) then
      some (((none, none, none, m_Done, ()), false, ()), ())
    else
      jn (fun t => B_s_step_J1 k c_s_push c_Z54 c_Z60 t.1.1 t.1.2.1 t.1.2.2.1 t.1.2.2.2.1 t.2.1.2.2.2.1) ((r97.1.1.1, r97.1.1.2.1, r97.1.1.2.2.1, r97.1.1.2.2.2.1, ()), ((), (), (), t4_Done, ()), ())
  else
    (c_Z60 m_Nodes m_Stack m_Memo m_Done o_Code o_Arg).bind fun r18 =>
    bif (!r18.1.2.1) then
      some (((none, none, none, m_Done, ()), false, ()), ())
    else
      jn (fun t => B_s_step_J1 k c_s_push c_Z54 c_Z60 t.1.1 t.1.2.1 t.1.2.2.1 t.1.2.2.2.1 t.2.1.2.2.2.1) ((r18.1.1.1, r18.1.1.2.1, r18.1.1.2.2.1, r18.1.1.2.2.2.1, ()), ((), (), (), t4_Done, ()), ())
def B_s_step (k : Nat) (c_s_push : C_s_push) (c_Z54 : C_Z54) (c_Z60 : C_Z60) (m_0 : List (Int × Int × List Int)) (m_1 m_2 : List Int) (m_3 : Bool) (o_0 o_1 : Int) : R_s_step :=
  bif m_3 then
    some ((((some m_0), (some m_1), (some m_2), m_3, ()), false, ()), ())
  else
    bif (o_0 == 0) then
      (c_s_push m_0 m_1 m_2 m_3 0 o_1 ([])).bind fun r31 =>
      jn (fun t => B_s_step_J1 k c_s_push c_Z54 c_Z60 t.1.1 t.1.2.1 t.1.2.2.1 t.1.2.2.2.1 t.2.1.2.2.2.1) ((r31.1.1.1, r31.1.1.2.1, r31.1.1.2.2.1, r31.1.1.2.2.2.1, ()), ((), (), (), false, ()), ())
    else
      bif (o_0 == 1) then
        (c_s_push m_0 m_1 m_2 m_3 1 o_1 ([])).bind fun r38 =>
        jn (fun t => B_s_step_J1 k c_s_push c_Z54 c_Z60 t.1.1 t.1.2.1 t.1.2.2.1 t.1.2.2.2.1 t.2.1.2.2.2.1) ((r38.1.1.1, r38.1.1.2.1, r38.1.1.2.2.1, r38.1.1.2.2.2.1, ()), ((), (), (), false, ()), ())
      else
        bif (o_0 == 4) then
          (c_s_push m_0 m_1 m_2 m_3 2 0 ([])).bind fun r43 =>
          jn (fun t => B_s_step_J1 k c_s_push c_Z54 c_Z60 t.1.1 t.1.2.1 t.1.2.2.1 t.1.2.2.2.1 t.2.1.2.2.2.1) ((r43.1.1.1, r43.1.1.2.1, r43.1.1.2.2.1, r43.1.1.2.2.2.1, ()), ((), (), (), false, ()), ())
        else
          bif (o_0 == 7) then
            (c_s_push m_0 m_1 m_2 m_3 3 0 ([])).bind fun r48 =>
            jn (fun t => B_s_step_J1 k c_s_push c_Z54 c_Z60 t.1.1 t.1.2.1 t.1.2.2.1 t.1.2.2.2.1 t.2.1.2.2.2.1) ((r48.1.1.1, r48.1.1.2.1, r48.1.1.2.2.1, r48.1.1.2.2.2.1, ()), ((), (), (), false, ()), ())
          else
            bif (o_0 == 10) then
              (c_s_push m_0 m_1 m_2 m_3 4 0 ([])).bind fun r53 =>
              jn (fun t => B_s_step_J1 k c_s_push c_Z54 c_Z60 t.1.1 t.1.2.1 t.1.2.2.1 t.1.2.2.2.1 t.2.1.2.2.2.1) ((r53.1.1.1, r53.1.1.2.1, r53.1.1.2.2.1, r53.1.1.2.2.2.1, ()), ((), (), (), false, ()), ())
            else
              bif (o_0 == 13) then
                (c_s_push m_0 m_1 m_2 m_3 5 o_1 ([])).bind fun r60 =>
                jn (fun t => B_s_step_J1 k c_s_push c_Z54 c_Z60 t.1.1 t.1.2.1 t.1.2.2.1 t.1.2.2.2.1 t.2.1.2.2.2.1) ((r60.1.1.1, r60.1.1.2.1, r60.1.1.2.2.1, r60.1.1.2.2.2.1, ()), ((), (), (), false, ()), ())
              else
                bif (o_0 == 2) then
                  chk (room m_1.length ([(-1)]).length) <|
                  jn (fun t => B_s_step_J1 k c_s_push c_Z54 c_Z60 t.1.1 t.1.2.1 t.1.2.2.1 t.1.2.2.2.1 t.2.1.2.2.2.1) ((m_0, (m_1 ++ [(-1)]), m_2, m_3, ()), ((), (), (), false, ()), ())
                else
                  bif (o_0 == 16) then
                    chk (inb o_1 m_2.length) <|
                    chk (decide (o_1.toNat < m_2.length)) <|
                    bif decide ((m_2.getD o_1.toNat (0 : Int)) < 0) then
                      some ((((some m_0), (some m_1), (some m_2), m_3, ()), false, ()), ())
                    else
                      chk (inb o_1 m_2.length) <|
                      chk (decide (o_1.toNat < m_2.length)) <|
                      chk (room m_1.length ([(m_2.getD o_1.toNat (0 : Int))]).length) <|
                      jn (fun t => B_s_step_J1 k c_s_push c_Z54 c_Z60 t.1.1 t.1.2.1 t.1.2.2.1 t.1.2.2.2.1 t.2.1.2.2.2.1) ((m_0, (m_1 ++ [(m_2.getD o_1.toNat (0 : Int))]), m_2, m_3, ()), ((), (), (), false, ()), ())
                  else
                    bif (o_0 == 3) then
                      jn (fun t => B_s_step_J0 k c_s_push c_Z54 c_Z60 t.1.1 t.1.2.1 t.1.2.2.1 t.1.2.2.2.1 t.2.1.1 t.2.1.2.1 t.2.2.1.2.2.2.1 t.2.2.2.1) ((m_0, m_1, m_2, m_3, ()), (o_0, o_1, ()), ((), (), (), false, ()), (o_0 == 3), ())
                    else
                      bif (o_0 == 9) then
                        jn (fun t => B_s_step_J0 k c_s_push c_Z54 c_Z60 t.1.1 t.1.2.1 t.1.2.2.1 t.1.2.2.2.1 t.2.1.1 t.2.1.2.1 t.2.2.1.2.2.2.1 t.2.2.2.1) ((m_0, m_1, m_2, m_3, ()), (o_0, o_1, ()), ((), (), (), false, ()), (o_0 == 9), ())
                      else
                        bif (o_0 == 12) then
                          jn (fun t => B_s_step_J0 k c_s_push c_Z54 c_Z60 t.1.1 t.1.2.1 t.1.2.2.1 t.1.2.2.2.1 t.2.1.1 t.2.1.2.1 t.2.2.1.2.2.2.1 t.2.2.2.1) ((m_0, m_1, m_2, m_3, ()), (o_0, o_1, ()), ((), (), (), false, ()), (o_0 == 12), ())
                        else
                          jn (fun t => B_s_step_J0 k c_s_push c_Z54 c_Z60 t.1.1 t.1.2.1 t.1.2.2.1 t.1.2.2.2.1 t.2.1.1 t.2.1.2.1 t.2.2.1.2.2.2.1 t.2.2.2.1) ((m_0, m_1, m_2, m_3, ()), (o_0, o_1, ()), ((), (), (), false, ()), (o_0 == 18), ())
def F_s_step : Nat → C_s_step
  | 0, _, _, _, _, _, _ => none
  | k + 1, m_0, m_1, m_2, m_3, o_0, o_1 => B_s_step k (F_s_push k) (F_Z54 k) (F_Z60 k) m_0 m_1 m_2 m_3 o_0 o_1
theorem tot_s_step {m_0 m_1 m_2 m_3 o_0 o_1 : _} {Q : _ → Prop} (h : Tot (fun σ => B_s_step (σ 0) (F_s_push (σ 0)) (F_Z54 (σ 0)) (F_Z60 (σ 0)) m_0 m_1 m_2 m_3 o_0 o_1) Q) : Tot (fun σ => F_s_step (σ 0) m_0 m_1 m_2 m_3 o_0 o_1) Q :=
  Tot.call (F := fun k => F_s_step k m_0 m_1 m_2 m_3 o_0 o_1) (B := fun k => B_s_step k (F_s_push k) (F_Z54 k) (F_Z60 k) m_0 m_1 m_2 m_3 o_0 o_1) (fun k => rfl) h
abbrev R_s_run : Type := Option ((((List (Int × Int × List Int)) × List Int × List Int × Bool × Unit) × Int × Unit) × (Unit))
abbrev C_s_run : Type := (List (Int × Int × List Int)) → List Int → List Int → Bool → (List (Int × Int)) → R_s_run
abbrev T_s_run_L0 : Type := (List (Int × Int)) × ((List (Int × Int × List Int)) × List Int × List Int × Bool × Unit) × (Unit × Unit × Unit × Bool × Unit) × Int × Unit
def B_s_run_L0b (k : Nat) (c_Z18 : C_Z18) (c_s_step : C_s_step) (again0 : T_s_run_L0 → R_s_run) (ops : List (Int × Int)) (m_Nodes : List (Int × Int × List Int)) (m_Stack m_Memo : List Int) (m_Done t4_Done : Bool) (i : Int) : R_s_run :=
  bif decide (i < (len ops)) then
    (c_Z18 m_Nodes m_Stack m_Memo m_Done).bind fun r17 =>
    chk (inb i ops.length) <|
    (c_s_step r17.1.1.1 r17.1.1.2.1 r17.1.1.2.2.1 r17.1.1.2.2.2.1 ((rdx ((0 : Int), (0 : Int)) ops i).1) ((rdx ((0 : Int), (0 : Int)) ops i).2)).bind fun r22 =>
    bif (!r22.1.2.1) then
      some (((m_Nodes, m_Stack, m_Memo, m_Done, ()), i, ()), ())
    else
      (r22.1.1.1).bind fun p3 =>
      (r22.1.1.2.1).bind fun p4 =>
      (r22.1.1.2.2.1).bind fun p5 =>
      again0 (ops, (p3, p4, p5, r22.1.1.2.2.2.1, ()), ((), (), (), t4_Done, ()), w64 (i + 1), ())
  else
    some (((m_Nodes, m_Stack, m_Memo, m_Done, ()), len ops, ()), ())
def B_s_run_L0 (k : Nat) (c_Z18 : C_Z18) (c_s_step : C_s_step) (n : Nat) (t : T_s_run_L0) : R_s_run :=
  lfix n (fun again t => B_s_run_L0b k c_Z18 c_s_step again t.1 t.2.1.1 t.2.1.2.1 t.2.1.2.2.1 t.2.1.2.2.2.1 t.2.2.1.2.2.2.1 t.2.2.2.1) t
def B_s_run (k : Nat) (c_Z18 : C_Z18) (c_s_step : C_s_step) (m_0 : List (Int × Int × List Int)) (m_1 m_2 : List Int) (m_3 : Bool) (ops : List (Int × Int)) : R_s_run :=
  B_s_run_L0 k c_Z18 c_s_step k (ops, (m_0, m_1, m_2, m_3, ()), ((), (), (), false, ()), 0, ())
def F_s_run : Nat → C_s_run
  | 0, _, _, _, _, _ => none
  | k + 1, m_0, m_1, m_2, m_3, ops => B_s_run k (F_Z18 k) (F_s_step k) m_0 m_1 m_2 m_3 ops
theorem tot_s_run {m_0 m_1 m_2 m_3 ops : _} {Q : _ → Prop} (h : Tot (fun σ => B_s_run (σ 0) (F_Z18 (σ 0)) (F_s_step (σ 0)) m_0 m_1 m_2 m_3 ops) Q) : Tot (fun σ => F_s_run (σ 0) m_0 m_1 m_2 m_3 ops) Q :=
  Tot.call (F := fun k => F_s_run k m_0 m_1 m_2 m_3 ops) (B := fun k => B_s_run k (F_Z18 k) (F_s_step k) m_0 m_1 m_2 m_3 ops) (fun k => rfl) h
abbrev A_s_run_L0 (Z : Type) : Type := (List (Int × Int)) → (List (Int × Int × List Int)) → List Int → List Int → Bool → Bool → Int → Z
abbrev u_s_run_L0 {Z : Type} (f : A_s_run_L0 Z) (t : T_s_run_L0) : Z := f t.1 t.2.1.1 t.2.1.2.1 t.2.1.2.2.1 t.2.1.2.2.2.1 t.2.2.1.2.2.2.1 t.2.2.2.1
theorem loop_s_run_L0 {Q : A_s_run_L0 (((((List (Int × Int × List Int)) × List Int × List Int × Bool × Unit) × Int × Unit) × (Unit)) → Prop)} (I : A_s_run_L0 Prop) (μ : A_s_run_L0 Nat)
    (step : ∀ a0 a1 a2 a3 a4 a5 a6, I a0 a1 a2 a3 a4 a5 a6 → ∀ again : (Nat → Nat) → T_s_run_L0 → R_s_run, Dep 2 again → (∀ y0 y1 y2 y3 y4 y5 y6, I y0 y1 y2 y3 y4 y5 y6 → μ y0 y1 y2 y3 y4 y5 y6 < μ a0 a1 a2 a3 a4 a5 a6 → Tot (fun σ => again σ (y0, (y1, y2, y3, y4, ()), ((), (), (), y5, ()), y6, ())) (Q y0 y1 y2 y3 y4 y5 y6)) →
      Tot (fun σ => B_s_run_L0b (σ 0) (F_Z18 (σ 0)) (F_s_step (σ 0)) (again σ) a0 a1 a2 a3 a4 a5 a6) (Q a0 a1 a2 a3 a4 a5 a6)) :
    ∀ a0 a1 a2 a3 a4 a5 a6, I a0 a1 a2 a3 a4 a5 a6 → Tot (fun σ => B_s_run_L0 (σ 0) (F_Z18 (σ 0)) (F_s_step (σ 0)) (σ 0) (a0, (a1, a2, a3, a4, ()), ((), (), (), a5, ()), a6, ())) (Q a0 a1 a2 a3 a4 a5 a6) := fun a0 a1 a2 a3 a4 a5 a6 => Tot.loop0 (L := fun k => B_s_run_L0 k (F_Z18 k) (F_s_step k)) (B := fun k g => u_s_run_L0 (B_s_run_L0b k (F_Z18 k) (F_s_step k) g)) (Q := u_s_run_L0 Q) (fun _ _ _ => rfl) (u_s_run_L0 I) (u_s_run_L0 μ)
    (fun t ht again hag h => step t.1 t.2.1.1 t.2.1.2.1 t.2.1.2.2.1 t.2.1.2.2.2.1 t.2.2.1.2.2.2.1 t.2.2.2.1 ht again hag fun y0 y1 y2 y3 y4 y5 y6 => h (y0, (y1, y2, y3, y4, ()), ((), (), (), y5, ()), y6, ())) (a0, (a1, a2, a3, a4, ()), ((), (), (), a5, ()), a6, ())
abbrev R_s_built : Type := Option ((((List (Int × Int × List Int)) × Int × Unit) × Unit) × (Unit))
abbrev C_s_built : Type := (List (Int × Int × List Int)) → List Int → List Int → Bool → R_s_built
def B_s_built (k : Nat) (c_Z18 : C_Z18) (m_0 : List (Int × Int × List Int)) (m_1 m_2 : List Int) (m_3 : Bool) : R_s_built :=
  (c_Z18 m_0 m_1 m_2 m_3).bind fun r4 =>
  chk (inb 0 m_1.length) <|
  some (((r4.1.1.1, (rdx (0 : Int) m_1 0), ()), ()), ())
def F_s_built : Nat → C_s_built
  | 0, _, _, _, _ => none
  | k + 1, m_0, m_1, m_2, m_3 => B_s_built k (F_Z18 k) m_0 m_1 m_2 m_3
theorem tot_s_built {m_0 m_1 m_2 m_3 : _} {Q : _ → Prop} (h : Tot (fun σ => B_s_built (σ 0) (F_Z18 (σ 0)) m_0 m_1 m_2 m_3) Q) : Tot (fun σ => F_s_built (σ 0) m_0 m_1 m_2 m_3) Q :=
  Tot.call (F := fun k => F_s_built k m_0 m_1 m_2 m_3) (B := fun k => B_s_built k (F_Z18 k) m_0 m_1 m_2 m_3) (fun k => rfl) h
abbrev R_Z32 : Type := Option ((((List (Int × Int × List Int)) × Int × Unit) × Bool × Unit) × (Unit))
abbrev C_Z32 : Type := (List (Int × Int)) → R_Z32
def B_Z32_J0 (k : Nat) (c_Z51 : C_Z51) (c_Z25 : C_Z25) (c_s_run : C_s_run) (c_s_built : C_s_built) (t2_Root : Int) (m_Nodes : List (Int × Int × List Int)) (m_Stack m_Memo : List Int) (m_Done t24 : Bool) : R_Z32 :=
  bif t24 then
    some ((([], 0, ()), false, ()), ())
  else
    (c_s_built m_Nodes m_Stack m_Memo m_Done).bind fun r27 =>
    some (((r27.1.1.1, r27.1.1.2.1, ()), true, ()), ())
def B_Z32 (k : Nat) (c_Z51 : C_Z51) (c_Z25 : C_Z25) (c_s_run : C_s_run) (c_s_built : C_s_built) (ops : List (Int × Int)) : R_Z32 :=
  (c_Z51 ops).bind fun r7 =>
  bif (!r7.1.1) then
    some ((([], 0, ()), false, ()), ())
  else
    (c_Z25).bind fun r11 =>
    (c_s_run ([]) ([]) r11.1.1.2.2.1 r11.1.1.2.2.2.1 ops).bind fun r13 =>
    bif decide (r13.1.2.1 < (len ops)) then
      jn (fun t => B_Z32_J0 k c_Z51 c_Z25 c_s_run c_s_built t.1.2.1 t.2.1.1 t.2.1.2.1 t.2.1.2.2.1 t.2.1.2.2.2.1 t.2.2.1) (((), 0, ()), (r13.1.1.1, r13.1.1.2.1, r13.1.1.2.2.1, r13.1.1.2.2.2.1, ()), true, ())
    else
      jn (fun t => B_Z32_J0 k c_Z51 c_Z25 c_s_run c_s_built t.1.2.1 t.2.1.1 t.2.1.2.1 t.2.1.2.2.1 t.2.1.2.2.2.1 t.2.2.1) (((), 0, ()), (r13.1.1.1, r13.1.1.2.1, r13.1.1.2.2.1, r13.1.1.2.2.2.1, ()), (!r13.1.1.2.2.2.1), ())
def F_Z32 : Nat → C_Z32
  | 0, _ => none
  | k + 1, ops => B_Z32 k (F_Z51 k) (F_Z25 k) (F_s_run k) (F_s_built k) ops
theorem tot_Z32 {ops : _} {Q : _ → Prop} (h : Tot (fun σ => B_Z32 (σ 0) (F_Z51 (σ 0)) (F_Z25 (σ 0)) (F_s_run (σ 0)) (F_s_built (σ 0)) ops) Q) : Tot (fun σ => F_Z32 (σ 0) ops) Q :=
  Tot.call (F := fun k => F_Z32 k ops) (B := fun k => B_Z32 k (F_Z51 k) (F_Z25 k) (F_s_run k) (F_s_built k) ops) (fun k => rfl) h
abbrev R_s_code : Type := Option ((List Int × List Int × Unit) × (Unit))
abbrev C_s_code : Type := (List (Int × Int × List Int)) → Int → Int → List Int → List Int → R_s_code
abbrev T_s_code_L1 : Type := List Int × List Int × ((List (Int × Int × List Int)) × Int × Unit) × (Int × Int × List Int × Unit) × Int × Unit
def B_s_code_L1b (k : Nat) (c_Z64 : C_Z64) (c_Z50 : C_Z50) (c_s_code : C_s_code) (again1 : T_s_code_L1 → R_s_code) (out met : List Int) (g_Nodes : List (Int × Int × List Int)) (g_Root n_Kind n_Value : Int) (n_Kids : List Int) (i : Int) : R_s_code :=
  bif decide (i < (len n_Kids)) then
    chk (inb i n_Kids.length) <|
    (c_s_code g_Nodes g_Root (rdx (0 : Int) n_Kids i) out met).bind fun r64 =>
    again1 (r64.1.1, r64.1.2.1, (g_Nodes, g_Root, ()), (n_Kind, n_Value, n_Kids, ()), w64 (i + 1), ())
  else
    some ((out, met, ()), ())
def B_s_code_L1 (k : Nat) (c_Z64 : C_Z64) (c_Z50 : C_Z50) (c_s_code : C_s_code) (n : Nat) (t : T_s_code_L1) : R_s_code :=
  lfix n (fun again t => B_s_code_L1b k c_Z64 c_Z50 c_s_code again t.1 t.2.1 t.2.2.1.1 t.2.2.1.2.1 t.2.2.2.1.1 t.2.2.2.1.2.1 t.2.2.2.1.2.2.1 t.2.2.2.2.1) t
def B_s_code_J0 (k : Nat) (c_Z64 : C_Z64) (c_Z50 : C_Z50) (c_s_code : C_s_code) (out met : List Int) (g_Nodes : List (Int × Int × List Int)) (g_Root n_Kind n_Value : Int) (n_Kids : List Int) : R_s_code :=
  B_s_code_L1 k c_Z64 c_Z50 c_s_code k (out, met, (g_Nodes, g_Root, ()), (n_Kind, n_Value, n_Kids, ()), 0, ())
def B_s_code (k : Nat) (c_Z64 : C_Z64) (c_Z50 : C_Z50) (c_s_code : C_s_code) (g_0 : List (Int × Int × List Int)) (g_1 at1 : Int) (out met : List Int) : R_s_code :=
  chk (inb at1 g_0.length) <|
  (c_Z64 met at1).bind fun r20 =>
  bif decide (r20.1.1 ≥ 0) then
    (c_Z50 out).bind fun r24 =>
    chk (room r24.1.1.length ([(-1), r20.1.1]).length) <|
    some (((r24.1.1 ++ [(-1), r20.1.1]), met, ()), ())
  else
    (c_Z50 out).bind fun r30 =>
    chk (room r30.1.1.length ([(rdx ((0 : Int), ((0 : Int), ([] : List Int))) g_0 at1).1, ((rdx ((0 : Int), ((0 : Int), ([] : List Int))) g_0 at1).2).1, len (((rdx ((0 : Int), ((0 : Int), ([] : List Int))) g_0 at1).2).2)]).length) <|
    bif (((rdx ((0 : Int), ((0 : Int), ([] : List Int))) g_0 at1).1) != 0) then
      (c_Z50 met).bind fun r44 =>
      chk (room r44.1.1.length ([at1]).length) <|
      jn (fun t => B_s_code_J0 k c_Z64 c_Z50 c_s_code t.1 t.2.1 t.2.2.1.1 t.2.2.1.2.1 t.2.2.2.1.1 t.2.2.2.1.2.1 t.2.2.2.1.2.2.1) ((r30.1.1 ++ [(rdx ((0 : Int), ((0 : Int), ([] : List Int))) g_0 at1).1, ((rdx ((0 : Int), ((0 : Int), ([] : List Int))) g_0 at1).2).1, len (((rdx ((0 : Int), ((0 : Int), ([] : List Int))) g_0 at1).2).2)]), (r44.1.1 ++ [at1]), (g_0, g_1, ()), ((rdx ((0 : Int), ((0 : Int), ([] : List Int))) g_0 at1).1, ((rdx ((0 : Int), ((0 : Int), ([] : List Int))) g_0 at1).2).1, ((rdx ((0 : Int), ((0 : Int), ([] : List Int))) g_0 at1).2).2, ()), ())
    else
      jn (fun t => B_s_code_J0 k c_Z64 c_Z50 c_s_code t.1 t.2.1 t.2.2.1.1 t.2.2.1.2.1 t.2.2.2.1.1 t.2.2.2.1.2.1 t.2.2.2.1.2.2.1) ((r30.1.1 ++ [(rdx ((0 : Int), ((0 : Int), ([] : List Int))) g_0 at1).1, ((rdx ((0 : Int), ((0 : Int), ([] : List Int))) g_0 at1).2).1, len (((rdx ((0 : Int), ((0 : Int), ([] : List Int))) g_0 at1).2).2)]), met, (g_0, g_1, ()), ((rdx ((0 : Int), ((0 : Int), ([] : List Int))) g_0 at1).1, ((rdx ((0 : Int), ((0 : Int), ([] : List Int))) g_0 at1).2).1, ((rdx ((0 : Int), ((0 : Int), ([] : List Int))) g_0 at1).2).2, ()), ())
def F_s_code : Nat → C_s_code
  | 0, _, _, _, _, _ => none
  | k + 1, g_0, g_1, at1, out, met => B_s_code k (F_Z64 k) (F_Z50 k) (F_s_code k) g_0 g_1 at1 out met
theorem F_s_code_succ (k : Nat) (g_0 : List (Int × Int × List Int)) (g_1 : Int) (at1 : Int) (out : List Int) (met : List Int) : F_s_code (k + 1) g_0 g_1 at1 out met = B_s_code k (F_Z64 k) (F_Z50 k) (F_s_code k) g_0 g_1 at1 out met := by rw [F_s_code]
theorem tot_s_code {g_0 g_1 at1 out met : _} {Q : _ → Prop} (h : Tot (fun σ => B_s_code (σ 0) (F_Z64 (σ 0)) (F_Z50 (σ 0)) (F_s_code (σ 0)) g_0 g_1 at1 out met) Q) : Tot (fun σ => F_s_code (σ 0) g_0 g_1 at1 out met) Q :=
  Tot.call (F := fun k => F_s_code k g_0 g_1 at1 out met) (B := fun k => B_s_code k (F_Z64 k) (F_Z50 k) (F_s_code k) g_0 g_1 at1 out met) (fun k => F_s_code_succ k g_0 g_1 at1 out met) h
abbrev A_s_code_L1 (Z : Type) : Type := List Int → List Int → (List (Int × Int × List Int)) → Int → Int → Int → List Int → Int → Z
abbrev u_s_code_L1 {Z : Type} (f : A_s_code_L1 Z) (t : T_s_code_L1) : Z := f t.1 t.2.1 t.2.2.1.1 t.2.2.1.2.1 t.2.2.2.1.1 t.2.2.2.1.2.1 t.2.2.2.1.2.2.1 t.2.2.2.2.1
theorem loop_s_code_L1 {Q : A_s_code_L1 (((List Int × List Int × Unit) × (Unit)) → Prop)} (I : A_s_code_L1 Prop) (μ : A_s_code_L1 Nat)
    (step : ∀ a0 a1 a2 a3 a4 a5 a6 a7, I a0 a1 a2 a3 a4 a5 a6 a7 → ∀ again : (Nat → Nat) → T_s_code_L1 → R_s_code, Dep 2 again → (∀ y0 y1 y2 y3 y4 y5 y6 y7, I y0 y1 y2 y3 y4 y5 y6 y7 → μ y0 y1 y2 y3 y4 y5 y6 y7 < μ a0 a1 a2 a3 a4 a5 a6 a7 → Tot (fun σ => again σ (y0, y1, (y2, y3, ()), (y4, y5, y6, ()), y7, ())) (Q y0 y1 y2 y3 y4 y5 y6 y7)) →
      Tot (fun σ => B_s_code_L1b (σ 0) (F_Z64 (σ 0)) (F_Z50 (σ 0)) (F_s_code (σ 0)) (again σ) a0 a1 a2 a3 a4 a5 a6 a7) (Q a0 a1 a2 a3 a4 a5 a6 a7)) :
    ∀ a0 a1 a2 a3 a4 a5 a6 a7, I a0 a1 a2 a3 a4 a5 a6 a7 → Tot (fun σ => B_s_code_L1 (σ 0) (F_Z64 (σ 0)) (F_Z50 (σ 0)) (F_s_code (σ 0)) (σ 0) (a0, a1, (a2, a3, ()), (a4, a5, a6, ()), a7, ())) (Q a0 a1 a2 a3 a4 a5 a6 a7) := fun a0 a1 a2 a3 a4 a5 a6 a7 => Tot.loop0 (L := fun k => B_s_code_L1 k (F_Z64 k) (F_Z50 k) (F_s_code k)) (B := fun k g => u_s_code_L1 (B_s_code_L1b k (F_Z64 k) (F_Z50 k) (F_s_code k) g)) (Q := u_s_code_L1 Q) (fun _ _ _ => rfl) (u_s_code_L1 I) (u_s_code_L1 μ)
    (fun t ht again hag h => step t.1 t.2.1 t.2.2.1.1 t.2.2.1.2.1 t.2.2.2.1.1 t.2.2.2.1.2.1 t.2.2.2.1.2.2.1 t.2.2.2.2.1 ht again hag fun y0 y1 y2 y3 y4 y5 y6 y7 => h (y0, y1, (y2, y3, ()), (y4, y5, y6, ()), y7, ())) (a0, a1, (a2, a3, ()), (a4, a5, a6, ()), a7, ())
abbrev R_s_codeOf : Type := Option ((List Int × Unit) × (Unit))
abbrev C_s_codeOf : Type := (List (Int × Int × List Int)) → Int → R_s_codeOf
def B_s_codeOf (k : Nat) (c_s_code : C_s_code) (g_0 : List (Int × Int × List Int)) (g_1 : Int) : R_s_codeOf :=
  (c_s_code g_0 g_1 g_1 ([]) ([])).bind fun r11 =>
  some ((r11.1.1, ()), ())
def F_s_codeOf : Nat → C_s_codeOf
  | 0, _, _ => none
  | k + 1, g_0, g_1 => B_s_codeOf k (F_s_code k) g_0 g_1
theorem tot_s_codeOf {g_0 g_1 : _} {Q : _ → Prop} (h : Tot (fun σ => B_s_codeOf (σ 0) (F_s_code (σ 0)) g_0 g_1) Q) : Tot (fun σ => F_s_codeOf (σ 0) g_0 g_1) Q :=
  Tot.call (F := fun k => F_s_codeOf k g_0 g_1) (B := fun k => B_s_codeOf k (F_s_code k) g_0 g_1) (fun k => rfl) h
abbrev R_Z35 : Type := Option ((List Int × Bool × Unit) × (Unit))
abbrev C_Z35 : Type := (List (Int × Int)) → R_Z35
def B_Z35 (k : Nat) (c_Z32 : C_Z32) (c_s_codeOf : C_s_codeOf) (ops : List (Int × Int)) : R_Z35 :=
  (c_Z32 ops).bind fun r8 =>
  bif (!r8.1.2.1) then
    some (([], false, ()), ())
  else
    (c_s_codeOf r8.1.1.1 r8.1.1.2.1).bind fun r14 =>
    some ((r14.1.1, true, ()), ())
def F_Z35 : Nat → C_Z35
  | 0, _ => none
  | k + 1, ops => B_Z35 k (F_Z32 k) (F_s_codeOf k) ops
theorem tot_Z35 {ops : _} {Q : _ → Prop} (h : Tot (fun σ => B_Z35 (σ 0) (F_Z32 (σ 0)) (F_s_codeOf (σ 0)) ops) Q) : Tot (fun σ => F_Z35 (σ 0) ops) Q :=
  Tot.call (F := fun k => F_Z35 k ops) (B := fun k => B_Z35 k (F_Z32 k) (F_s_codeOf k) ops) (fun k => rfl) h
abbrev R_Z34 : Type := Option ((Bool × Unit) × (Unit))
abbrev C_Z34 : Type := List Int → List Int → R_Z34
abbrev T_Z34_L0 : Type := List Int × List Int × Int × Unit
def B_Z34_L0b (k : Nat) (again0 : T_Z34_L0 → R_Z34) (a b : List Int) (i : Int) : R_Z34 :=
  bif decide (i < (len a)) then
    chk (inb i a.length) <|
    chk (inb i b.length) <|
    bif ((rdx (0 : Int) a i) != (rdx (0 : Int) b i)) then
      some ((false, ()), ())
    else
      again0 (a, b, w64 (i + 1), ())
  else
    some ((true, ()), ())
def B_Z34_L0 (k : Nat) (n : Nat) (t : T_Z34_L0) : R_Z34 :=
  lfix n (fun again t => B_Z34_L0b k again t.1 t.2.1 t.2.2.1) t
def B_Z34 (k : Nat) (a b : List Int) : R_Z34 :=
  bif ((len a) != (len b)) then
    some ((false, ()), ())
  else
    B_Z34_L0 k k (a, b, 0, ())
def F_Z34 : Nat → C_Z34
  | 0, _, _ => none
  | k + 1, a, b => B_Z34 k a b
theorem tot_Z34 {a b : _} {Q : _ → Prop} (h : Tot (fun σ => B_Z34 (σ 0) a b) Q) : Tot (fun σ => F_Z34 (σ 0) a b) Q :=
  Tot.call (F := fun k => F_Z34 k a b) (B := fun k => B_Z34 k a b) (fun k => rfl) h
abbrev A_Z34_L0 (Z : Type) : Type := List Int → List Int → Int → Z
abbrev u_Z34_L0 {Z : Type} (f : A_Z34_L0 Z) (t : T_Z34_L0) : Z := f t.1 t.2.1 t.2.2.1
theorem loop_Z34_L0 {Q : A_Z34_L0 (((Bool × Unit) × (Unit)) → Prop)} (I : A_Z34_L0 Prop) (μ : A_Z34_L0 Nat)
    (step : ∀ a0 a1 a2, I a0 a1 a2 → ∀ again : (Nat → Nat) → T_Z34_L0 → R_Z34, Dep 2 again → (∀ y0 y1 y2, I y0 y1 y2 → μ y0 y1 y2 < μ a0 a1 a2 → Tot (fun σ => again σ (y0, y1, y2, ())) (Q y0 y1 y2)) →
      Tot (fun σ => B_Z34_L0b (σ 0) (again σ) a0 a1 a2) (Q a0 a1 a2)) :
    ∀ a0 a1 a2, I a0 a1 a2 → Tot (fun σ => B_Z34_L0 (σ 0) (σ 0) (a0, a1, a2, ())) (Q a0 a1 a2) := fun a0 a1 a2 => Tot.loop0 (L := fun k => B_Z34_L0 k) (B := fun k g => u_Z34_L0 (B_Z34_L0b k g)) (Q := u_Z34_L0 Q) (fun _ _ _ => rfl) (u_Z34_L0 I) (u_Z34_L0 μ)
    (fun t ht again hag h => step t.1 t.2.1 t.2.2.1 ht again hag fun y0 y1 y2 => h (y0, y1, y2, ())) (a0, a1, a2, ())
abbrev R_Z11 : Type := Option ((Bool × Unit) × ((Int × Unit) × Unit))
abbrev C_Z11 : Type := Int → Int → R_Z11
def B_Z11 (k : Nat) (k0 t1 : Int) : R_Z11 :=
  bif decide (k0 < 0) then
    some ((true, ()), ((t1, ()), ()))
  else
    some ((decide (k0 ≥ t1), ()), ((t1, ()), ()))
def F_Z11 : Nat → C_Z11
  | 0, _, _ => none
  | k + 1, k0, t1 => B_Z11 k k0 t1
theorem tot_Z11 {k0 t1 : _} {Q : _ → Prop} (h : Tot (fun σ => B_Z11 (σ 0) k0 t1) Q) : Tot (fun σ => F_Z11 (σ 0) k0 t1) Q :=
  Tot.call (F := fun k => F_Z11 k k0 t1) (B := fun k => B_Z11 k k0 t1) (fun k => rfl) h
abbrev R_Z1 : Type := Option ((Int × Unit) × ((Int × Unit) × Unit))
abbrev C_Z1 : Type := List Int → Int → R_Z1
abbrev T_Z1_L0 : Type := List Int × (Int × Unit) × Int × Int × Unit
def B_Z1_L0b (k : Nat) (c_Z11 : C_Z11) (again0 : T_Z1_L0 → R_Z1) (s : List Int) (f t7 t8 : Int) : R_Z1 :=
  bif decide (t8 < t7) then
    chk (inb t8 s.length) <|
    (c_Z11 (rdx (0 : Int) s t8) f).bind fun r16 =>
    bif r16.1.1 then
      some ((t8, ()), ((r16.2.1.1, ()), ()))
    else
      again0 (s, (r16.2.1.1, ()), t7, w64 (t8 + 1), ())
  else
    some (((-1), ()), ((f, ()), ()))
def B_Z1_L0 (k : Nat) (c_Z11 : C_Z11) (n : Nat) (t : T_Z1_L0) : R_Z1 :=
  lfix n (fun again t => B_Z1_L0b k c_Z11 again t.1 t.2.1.1 t.2.2.1 t.2.2.2.1) t
def B_Z1 (k : Nat) (c_Z11 : C_Z11) (s : List Int) (f : Int) : R_Z1 :=
  B_Z1_L0 k c_Z11 k (s, (f, ()), len s, 0, ())
def F_Z1 : Nat → C_Z1
  | 0, _, _ => none
  | k + 1, s, f => B_Z1 k (F_Z11 k) s f
theorem tot_Z1 {s f : _} {Q : _ → Prop} (h : Tot (fun σ => B_Z1 (σ 0) (F_Z11 (σ 0)) s f) Q) : Tot (fun σ => F_Z1 (σ 0) s f) Q :=
  Tot.call (F := fun k => F_Z1 k s f) (B := fun k => B_Z1 k (F_Z11 k) s f) (fun k => rfl) h
abbrev A_Z1_L0 (Z : Type) : Type := List Int → Int → Int → Int → Z
abbrev u_Z1_L0 {Z : Type} (f : A_Z1_L0 Z) (t : T_Z1_L0) : Z := f t.1 t.2.1.1 t.2.2.1 t.2.2.2.1
theorem loop_Z1_L0 {Q : A_Z1_L0 (((Int × Unit) × ((Int × Unit) × Unit)) → Prop)} (I : A_Z1_L0 Prop) (μ : A_Z1_L0 Nat)
    (step : ∀ a0 a1 a2 a3, I a0 a1 a2 a3 → ∀ again : (Nat → Nat) → T_Z1_L0 → R_Z1, Dep 2 again → (∀ y0 y1 y2 y3, I y0 y1 y2 y3 → μ y0 y1 y2 y3 < μ a0 a1 a2 a3 → Tot (fun σ => again σ (y0, (y1, ()), y2, y3, ())) (Q y0 y1 y2 y3)) →
      Tot (fun σ => B_Z1_L0b (σ 0) (F_Z11 (σ 0)) (again σ) a0 a1 a2 a3) (Q a0 a1 a2 a3)) :
    ∀ a0 a1 a2 a3, I a0 a1 a2 a3 → Tot (fun σ => B_Z1_L0 (σ 0) (F_Z11 (σ 0)) (σ 0) (a0, (a1, ()), a2, a3, ())) (Q a0 a1 a2 a3) := fun a0 a1 a2 a3 => Tot.loop0 (L := fun k => B_Z1_L0 k (F_Z11 k)) (B := fun k g => u_Z1_L0 (B_Z1_L0b k (F_Z11 k) g)) (Q := u_Z1_L0 Q) (fun _ _ _ => rfl) (u_Z1_L0 I) (u_Z1_L0 μ)
    (fun t ht again hag h => step t.1 t.2.1.1 t.2.2.1 t.2.2.2.1 ht again hag fun y0 y1 y2 y3 => h (y0, (y1, ()), y2, y3, ())) (a0, (a1, ()), a2, a3, ())
abbrev R_Z0 : Type := Option ((Bool × Unit) × ((Int × Unit) × Unit))
abbrev C_Z0 : Type := List Int → Int → R_Z0
def B_Z0 (k : Nat) (c_Z1 : C_Z1) (s : List Int) (f : Int) : R_Z0 :=
  (c_Z1 s f).bind fun r7 =>
  some ((decide (r7.1.1 ≥ 0), ()), ((r7.2.1.1, ()), ()))
def F_Z0 : Nat → C_Z0
  | 0, _, _ => none
  | k + 1, s, f => B_Z0 k (F_Z1 k) s f
theorem tot_Z0 {s f : _} {Q : _ → Prop} (h : Tot (fun σ => B_Z0 (σ 0) (F_Z1 (σ 0)) s f) Q) : Tot (fun σ => F_Z0 (σ 0) s f) Q :=
  Tot.call (F := fun k => F_Z0 k s f) (B := fun k => B_Z0 k (F_Z1 k) s f) (fun k => rfl) h
abbrev R_i_nodeOk : Type := Option ((Bool × Unit) × (Unit))
abbrev C_i_nodeOk : Type := (List (Int × Int × List Int)) → Int → Int → List Int → R_i_nodeOk
abbrev T_i_nodeOk_L2 : Type := (List (Int × Int × List Int)) × (Int × Int × List Int × Unit) × Int × Unit
def B_i_nodeOk_J1 (k : Nat) (c_Z58 : C_Z58) (again2 : T_i_nodeOk_L2 → R_i_nodeOk) (nodes : List (Int × Int × List Int)) (x_Kind x_Value : Int) (x_Kids : List Int) (i : Int) (t97 : Bool) : R_i_nodeOk :=
  bif t97 then
    some ((false, ()), ())
  else
    again2 (nodes, (x_Kind, x_Value, x_Kids, ()), w64 (i + 2), ())
def B_i_nodeOk_L2b (k : Nat) (c_Z58 : C_Z58) (again2 : T_i_nodeOk_L2 → R_i_nodeOk) (nodes : List (Int × Int × List Int)) (x_Kind x_Value : Int) (x_Kids : List Int) (i : Int) : R_i_nodeOk :=
  bif decide (i < (len x_Kids)) then
    chk (inb i x_Kids.length) <|
    chk (inb (rdx (0 : Int) x_Kids i) nodes.length) <|
    let v82 : Bool := decide (((rdx ((0 : Int), ((0 : Int), ([] : List Int))) nodes (rdx (0 : Int) x_Kids i)).1) > 1)
    bif v82 then
      jn (fun t => B_i_nodeOk_J1 k c_Z58 again2 t.1 t.2.1.1 t.2.1.2.1 t.2.1.2.2.1 t.2.2.1 t.2.2.2.1) (nodes, (x_Kind, x_Value, x_Kids, ()), i, true, ())
    else
      let v86 : Bool := decide (((rdx ((0 : Int), ((0 : Int), ([] : List Int))) nodes (rdx (0 : Int) x_Kids i)).1) < 0)
      bif v86 then
        jn (fun t => B_i_nodeOk_J1 k c_Z58 again2 t.1 t.2.1.1 t.2.1.2.1 t.2.1.2.2.1 t.2.2.1 t.2.2.2.1) (nodes, (x_Kind, x_Value, x_Kids, ()), i, true, ())
      else
        chk (cutb 0 i x_Kids.length) <|
        (c_Z58 nodes (sub x_Kids 0 i) ((rdx ((0 : Int), ((0 : Int), ([] : List Int))) nodes (rdx (0 : Int) x_Kids i)).1) (((rdx ((0 : Int), ((0 : Int), ([] : List Int))) nodes (rdx (0 : Int) x_Kids i)).2).1)).bind fun r95 =>
        jn (fun t => B_i_nodeOk_J1 k c_Z58 again2 t.1 t.2.1.1 t.2.1.2.1 t.2.1.2.2.1 t.2.2.1 t.2.2.2.1) (nodes, (x_Kind, x_Value, x_Kids, ()), i, decide (r95.1.1 ≥ 0), ())
  else
    bif (x_Value == 0) then
      some (((((len x_Kids).tmod 2) == 0), ()), ())
    else
      some ((false, ()), ())
def B_i_nodeOk_L2 (k : Nat) (c_Z58 : C_Z58) (n : Nat) (t : T_i_nodeOk_L2) : R_i_nodeOk :=
  lfix n (fun again t => B_i_nodeOk_L2b k c_Z58 again t.1 t.2.1.1 t.2.1.2.1 t.2.1.2.2.1 t.2.2.1) t
def B_i_nodeOk_J0 (k : Nat) (c_Z58 : C_Z58) (nodes : List (Int × Int × List Int)) (x_Kind x_Value : Int) (x_Kids : List Int) (t8 : Int) (t41 : Bool) : R_i_nodeOk :=
  bif t41 then
    some (((x_Value == 0), ()), ())
  else
    bif (t8 == 5) then
      bif decide (x_Value ≥ 0) then
        bif decide (x_Value ≤ 9) then
          some ((decide ((len x_Kids) ≤ 1), ()), ())
        else
          some ((false, ()), ())
      else
        some ((false, ()), ())
    else
      bif (t8 == 4) then
        B_i_nodeOk_L2 k c_Z58 k (nodes, (x_Kind, x_Value, x_Kids, ()), 0, ())
      else
        some ((false, ()), ())
def B_i_nodeOk (k : Nat) (c_Z58 : C_Z58) (nodes : List (Int × Int × List Int)) (x_0 x_1 : Int) (x_2 : List Int) : R_i_nodeOk :=
  bif (x_0 == 0) then
    bif decide (x_1 ≥ 0) then
      bif decide (x_1 ≤ 999) then
        some ((((len x_2) == 0), ()), ())
      else
        some ((false, ()), ())
    else
      some ((false, ()), ())
  else
    bif (x_0 == 1) then
      bif decide (x_1 ≥ 0) then
        bif decide (x_1 ≤ 9) then
          some ((((len x_2) == 0), ()), ())
        else
          some ((false, ()), ())
      else
        some ((false, ()), ())
    else
      bif (x_0 == 2) then
        jn (fun t => B_i_nodeOk_J0 k c_Z58 t.1 t.2.1.1 t.2.1.2.1 t.2.1.2.2.1 t.2.2.1 t.2.2.2.1) (nodes, (x_0, x_1, x_2, ()), x_0, (x_0 == 2), ())
      else
        jn (fun t => B_i_nodeOk_J0 k c_Z58 t.1 t.2.1.1 t.2.1.2.1 t.2.1.2.2.1 t.2.2.1 t.2.2.2.1) (nodes, (x_0, x_1, x_2, ()), x_0, (x_0 == 3), ())
def F_i_nodeOk : Nat → C_i_nodeOk
  | 0, _, _, _, _ => none
  | k + 1, nodes, x_0, x_1, x_2 => B_i_nodeOk k (F_Z58 k) nodes x_0 x_1 x_2
theorem tot_i_nodeOk {nodes x_0 x_1 x_2 : _} {Q : _ → Prop} (h : Tot (fun σ => B_i_nodeOk (σ 0) (F_Z58 (σ 0)) nodes x_0 x_1 x_2) Q) : Tot (fun σ => F_i_nodeOk (σ 0) nodes x_0 x_1 x_2) Q :=
  Tot.call (F := fun k => F_i_nodeOk k nodes x_0 x_1 x_2) (B := fun k => B_i_nodeOk k (F_Z58 k) nodes x_0 x_1 x_2) (fun k => rfl) h
abbrev A_i_nodeOk_L2 (Z : Type) : Type := (List (Int × Int × List Int)) → Int → Int → List Int → Int → Z
abbrev u_i_nodeOk_L2 {Z : Type} (f : A_i_nodeOk_L2 Z) (t : T_i_nodeOk_L2) : Z := f t.1 t.2.1.1 t.2.1.2.1 t.2.1.2.2.1 t.2.2.1
theorem loop_i_nodeOk_L2 {Q : A_i_nodeOk_L2 (((Bool × Unit) × (Unit)) → Prop)} (I : A_i_nodeOk_L2 Prop) (μ : A_i_nodeOk_L2 Nat)
    (step : ∀ a0 a1 a2 a3 a4, I a0 a1 a2 a3 a4 → ∀ again : (Nat → Nat) → T_i_nodeOk_L2 → R_i_nodeOk, Dep 2 again → (∀ y0 y1 y2 y3 y4, I y0 y1 y2 y3 y4 → μ y0 y1 y2 y3 y4 < μ a0 a1 a2 a3 a4 → Tot (fun σ => again σ (y0, (y1, y2, y3, ()), y4, ())) (Q y0 y1 y2 y3 y4)) →
      Tot (fun σ => B_i_nodeOk_L2b (σ 0) (F_Z58 (σ 0)) (again σ) a0 a1 a2 a3 a4) (Q a0 a1 a2 a3 a4)) :
    ∀ a0 a1 a2 a3 a4, I a0 a1 a2 a3 a4 → Tot (fun σ => B_i_nodeOk_L2 (σ 0) (F_Z58 (σ 0)) (σ 0) (a0, (a1, a2, a3, ()), a4, ())) (Q a0 a1 a2 a3 a4) := fun a0 a1 a2 a3 a4 => Tot.loop0 (L := fun k => B_i_nodeOk_L2 k (F_Z58 k)) (B := fun k g => u_i_nodeOk_L2 (B_i_nodeOk_L2b k (F_Z58 k) g)) (Q := u_i_nodeOk_L2 Q) (fun _ _ _ => rfl) (u_i_nodeOk_L2 I) (u_i_nodeOk_L2 μ)
    (fun t ht again hag h => step t.1 t.2.1.1 t.2.1.2.1 t.2.1.2.2.1 t.2.2.1 ht again hag fun y0 y1 y2 y3 y4 => h (y0, (y1, y2, y3, ()), y4, ())) (a0, (a1, a2, a3, ()), a4, ())
abbrev R_Z8 : Type := Option ((Bool × Unit) × (Unit))
abbrev C_Z8 : Type := Int → Int → List Int → R_Z8
def B_Z8 (k : Nat) (x_0 x_1 : Int) (x_2 : List Int) : R_Z8 :=
  some (((x_0 == 2), ()), ())
def F_Z8 : Nat → C_Z8
  | 0, _, _, _ => none
  | k + 1, x_0, x_1, x_2 => B_Z8 k x_0 x_1 x_2
theorem tot_Z8 {x_0 x_1 x_2 : _} {Q : _ → Prop} (h : Tot (fun σ => B_Z8 (σ 0) x_0 x_1 x_2) Q) : Tot (fun σ => F_Z8 (σ 0) x_0 x_1 x_2) Q :=
  Tot.call (F := fun k => F_Z8 k x_0 x_1 x_2) (B := fun k => B_Z8 k x_0 x_1 x_2) (fun k => rfl) h
abbrev R_Z3 : Type := Option ((Bool × Unit) × (Unit))
abbrev C_Z3 : Type := (List (Int × Int × List Int)) → Int → R_Z3
abbrev T_Z3_L2 : Type := (List (Int × Int × List Int)) × Int × Unit × (List (Int × Bool)) × List Int × List Int × Int × Int × Unit
abbrev T_Z3_L3 : Type := (List (Int × Int × List Int)) × Int × Unit × (List (Int × Bool)) × List Int × Unit
def B_Z3_J1 (k : Nat) (c_Z8 : C_Z8) (again2 : T_Z3_L2 → R_Z3) (nodes : List (Int × Int × List Int)) (from1 : Int) (seen : List (Int × Bool)) (list t33 : List Int) (t34 t35 : Int) : R_Z3 :=
  again2 (nodes, from1, (), seen, list, t33, t34, w64 (t35 + 1), ())
def B_Z3_J0 (k : Nat) (c_Z8 : C_Z8) (again2 : T_Z3_L2 → R_Z3) (nodes : List (Int × Int × List Int)) (from1 : Int) (seen : List (Int × Bool)) (list : List Int) (k11 : Int) (t33 : List Int) (t34 t35 : Int) (t53 : Bool) : R_Z3 :=
  bif t53 then
    chk (room list.length ([k11]).length) <|
    jn (fun t => B_Z3_J1 k c_Z8 again2 t.1 t.2.1 t.2.2.2.1 t.2.2.2.2.1 t.2.2.2.2.2.1 t.2.2.2.2.2.2.1 t.2.2.2.2.2.2.2.1) (nodes, from1, (), (mput seen k11 true), (list ++ [k11]), t33, t34, t35, ())
  else
    jn (fun t => B_Z3_J1 k c_Z8 again2 t.1 t.2.1 t.2.2.2.1 t.2.2.2.2.1 t.2.2.2.2.2.1 t.2.2.2.2.2.2.1 t.2.2.2.2.2.2.2.1) (nodes, from1, (), seen, list, t33, t34, t35, ())
def B_Z3_L2b (k : Nat) (c_Z8 : C_Z8) (again3 : T_Z3_L3 → R_Z3) (again2 : T_Z3_L2 → R_Z3) (nodes : List (Int × Int × List Int)) (from1 : Int) (seen : List (Int × Bool)) (list t33 : List Int) (t34 t35 : Int) : R_Z3 :=
  bif decide (t35 < t34) then
    chk (inb t35 t33.length) <|
    bif ((rdx (0 : Int) t33 t35) == from1) then
      some ((true, ()), ())
    else
      chk (inb (rdx (0 : Int) t33 t35) nodes.length) <|
      (c_Z8 ((rdx ((0 : Int), ((0 : Int), ([] : List Int))) nodes (rdx (0 : Int) t33 t35)).1) (((rdx ((0 : Int), ((0 : Int), ([] : List Int))) nodes (rdx (0 : Int) t33 t35)).2).1) (((rdx ((0 : Int), ((0 : Int), ([] : List Int))) nodes (rdx (0 : Int) t33 t35)).2).2)).bind fun r47 =>
      bif r47.1.1 then
        jn (fun t => B_Z3_J0 k c_Z8 again2 t.1 t.2.1 t.2.2.2.1 t.2.2.2.2.1 t.2.2.2.2.2.1 t.2.2.2.2.2.2.1 t.2.2.2.2.2.2.2.1 t.2.2.2.2.2.2.2.2.1 t.2.2.2.2.2.2.2.2.2.1) (nodes, from1, (), seen, list, (rdx (0 : Int) t33 t35), t33, t34, t35, (!((mfind seen (rdx (0 : Int) t33 t35)).getD false)), ())
      else
        jn (fun t => B_Z3_J0 k c_Z8 again2 t.1 t.2.1 t.2.2.2.1 t.2.2.2.2.1 t.2.2.2.2.2.1 t.2.2.2.2.2.2.1 t.2.2.2.2.2.2.2.1 t.2.2.2.2.2.2.2.2.1 t.2.2.2.2.2.2.2.2.2.1) (nodes, from1, (), seen, list, (rdx (0 : Int) t33 t35), t33, t34, t35, false, ())
  else
    again3 (nodes, from1, (), seen, list, ())
def B_Z3_L2 (k : Nat) (c_Z8 : C_Z8) (again3 : T_Z3_L3 → R_Z3) (n : Nat) (t : T_Z3_L2) : R_Z3 :=
  lfix n (fun again t => B_Z3_L2b k c_Z8 again3 again t.1 t.2.1 t.2.2.2.1 t.2.2.2.2.1 t.2.2.2.2.2.1 t.2.2.2.2.2.2.1 t.2.2.2.2.2.2.2.1) t
def B_Z3_L3b (k : Nat) (c_Z8 : C_Z8) (again3 : T_Z3_L3 → R_Z3) (nodes : List (Int × Int × List Int)) (from1 : Int) (seen : List (Int × Bool)) (list : List Int) : R_Z3 :=
  bif decide ((len list) > 0) then
    chk (inb (w64 ((len list) - 1)) list.length) <|
    chk (decide ((w64 ((len list) - 1)).toNat < list.length)) <|
    chk (cutb 0 (w64 ((len list) - 1)) list.length) <|
    chk (inb (list.getD ((w64 ((len list) - 1)).toNat) (0 : Int)) nodes.length) <|
    let v34 : Int := len (((rdx ((0 : Int), ((0 : Int), ([] : List Int))) nodes (list.getD ((w64 ((len list) - 1)).toNat) (0 : Int))).2).2)
    B_Z3_L2 k c_Z8 again3 k (nodes, from1, (), seen, (list.take ((w64 ((len list) - 1)).toNat)), ((rdx ((0 : Int), ((0 : Int), ([] : List Int))) nodes (list.getD ((w64 ((len list) - 1)).toNat) (0 : Int))).2).2, v34, 0, ())
  else
    some ((false, ()), ())
def B_Z3_L3 (k : Nat) (c_Z8 : C_Z8) (n : Nat) (t : T_Z3_L3) : R_Z3 :=
  lfix n (fun again t => B_Z3_L3b k c_Z8 again t.1 t.2.1 t.2.2.2.1 t.2.2.2.2.1) t
def B_Z3 (k : Nat) (c_Z8 : C_Z8) (nodes : List (Int × Int × List Int)) (from1 : Int) : R_Z3 :=
  B_Z3_L3 k c_Z8 k (nodes, from1, (), ([] : List (Int × Bool)), [from1], ())
def F_Z3 : Nat → C_Z3
  | 0, _, _ => none
  | k + 1, nodes, from1 => B_Z3 k (F_Z8 k) nodes from1
theorem tot_Z3 {nodes from1 : _} {Q : _ → Prop} (h : Tot (fun σ => B_Z3 (σ 0) (F_Z8 (σ 0)) nodes from1) Q) : Tot (fun σ => F_Z3 (σ 0) nodes from1) Q :=
  Tot.call (F := fun k => F_Z3 k nodes from1) (B := fun k => B_Z3 k (F_Z8 k) nodes from1) (fun k => rfl) h
abbrev A_Z3_L2 (Z : Type) : Type := (List (Int × Int × List Int)) → Int → (List (Int × Bool)) → List Int → List Int → Int → Int → Z
abbrev u_Z3_L2 {Z : Type} (f : A_Z3_L2 Z) (t : T_Z3_L2) : Z := f t.1 t.2.1 t.2.2.2.1 t.2.2.2.2.1 t.2.2.2.2.2.1 t.2.2.2.2.2.2.1 t.2.2.2.2.2.2.2.1
theorem loop_Z3_L2 {again3 : (Nat → Nat) → T_Z3_L3 → R_Z3} (hag3 : Dep 2 again3) {Q : A_Z3_L2 (((Bool × Unit) × (Unit)) → Prop)} (I : A_Z3_L2 Prop) (μ : A_Z3_L2 Nat)
    (step : ∀ a0 a1 a2 a3 a4 a5 a6, I a0 a1 a2 a3 a4 a5 a6 → ∀ again : (Nat → Nat) → T_Z3_L2 → R_Z3, Dep 3 again → (∀ y0 y1 y2 y3 y4 y5 y6, I y0 y1 y2 y3 y4 y5 y6 → μ y0 y1 y2 y3 y4 y5 y6 < μ a0 a1 a2 a3 a4 a5 a6 → Tot (fun σ => again σ (y0, y1, (), y2, y3, y4, y5, y6, ())) (Q y0 y1 y2 y3 y4 y5 y6)) →
      Tot (fun σ => B_Z3_L2b (σ 0) (F_Z8 (σ 0)) (again3 σ) (again σ) a0 a1 a2 a3 a4 a5 a6) (Q a0 a1 a2 a3 a4 a5 a6)) :
    ∀ a0 a1 a2 a3 a4 a5 a6, I a0 a1 a2 a3 a4 a5 a6 → Tot (fun σ => B_Z3_L2 (σ 0) (F_Z8 (σ 0)) (again3 σ) (σ 0) (a0, a1, (), a2, a3, a4, a5, a6, ())) (Q a0 a1 a2 a3 a4 a5 a6) := fun a0 a1 a2 a3 a4 a5 a6 => Tot.loop (L := fun σ n t => B_Z3_L2 (σ 0) (F_Z8 (σ 0)) (again3 σ) n t) (B := fun σ g => u_Z3_L2 (B_Z3_L2b (σ 0) (F_Z8 (σ 0)) (again3 σ) g)) (Q := u_Z3_L2 Q) 2 (by decide)
    (fun s s' h => by have e0 : s 0 = s' 0 := h 0 (by decide); simp only [e0, hag3 s s' h]) (fun s s' h => by have e0 : s 0 = s' 0 := h 0 (by decide); simp only [e0, hag3 s s' h]) (fun _ _ _ => rfl) (u_Z3_L2 I) (u_Z3_L2 μ)
    (fun t ht again hag h => step t.1 t.2.1 t.2.2.2.1 t.2.2.2.2.1 t.2.2.2.2.2.1 t.2.2.2.2.2.2.1 t.2.2.2.2.2.2.2.1 ht again hag fun y0 y1 y2 y3 y4 y5 y6 => h (y0, y1, (), y2, y3, y4, y5, y6, ())) (a0, a1, (), a2, a3, a4, a5, a6, ())
abbrev A_Z3_L3 (Z : Type) : Type := (List (Int × Int × List Int)) → Int → (List (Int × Bool)) → List Int → Z
abbrev u_Z3_L3 {Z : Type} (f : A_Z3_L3 Z) (t : T_Z3_L3) : Z := f t.1 t.2.1 t.2.2.2.1 t.2.2.2.2.1
theorem loop_Z3_L3 {Q : A_Z3_L3 (((Bool × Unit) × (Unit)) → Prop)} (I : A_Z3_L3 Prop) (μ : A_Z3_L3 Nat)
    (step : ∀ a0 a1 a2 a3, I a0 a1 a2 a3 → ∀ again : (Nat → Nat) → T_Z3_L3 → R_Z3, Dep 2 again → (∀ y0 y1 y2 y3, I y0 y1 y2 y3 → μ y0 y1 y2 y3 < μ a0 a1 a2 a3 → Tot (fun σ => again σ (y0, y1, (), y2, y3, ())) (Q y0 y1 y2 y3)) →
      Tot (fun σ => B_Z3_L3b (σ 0) (F_Z8 (σ 0)) (again σ) a0 a1 a2 a3) (Q a0 a1 a2 a3)) :
    ∀ a0 a1 a2 a3, I a0 a1 a2 a3 → Tot (fun σ => B_Z3_L3 (σ 0) (F_Z8 (σ 0)) (σ 0) (a0, a1, (), a2, a3, ())) (Q a0 a1 a2 a3) := fun a0 a1 a2 a3 => Tot.loop0 (L := fun k => B_Z3_L3 k (F_Z8 k)) (B := fun k g => u_Z3_L3 (B_Z3_L3b k (F_Z8 k) g)) (Q := u_Z3_L3 Q) (fun _ _ _ => rfl) (u_Z3_L3 I) (u_Z3_L3 μ)
    (fun t ht again hag h => step t.1 t.2.1 t.2.2.2.1 t.2.2.2.2.1 ht again hag fun y0 y1 y2 y3 => h (y0, y1, (), y2, y3, ())) (a0, a1, (), a2, a3, ())
abbrev R_Z23 : Type := Option ((Bool × Unit) × (Unit))
abbrev C_Z23 : Type := (List (Int × Int × List Int)) → Int → R_Z23
abbrev T_Z23_L5 : Type := ((List (Int × Int × List Int)) × Int × Unit) × Int × Int × Unit
abbrev T_Z23_L3 : Type := ((List (Int × Int × List Int)) × Int × Unit) × (List (Int × Int × List Int)) × Int × Int × Unit
abbrev T_Z23_L2 : Type := ((List (Int × Int × List Int)) × Int × Unit) × (Int × Unit) × (List (Int × Int × List Int)) × Int × Int × Unit
def B_Z23_J1 (k : Nat) (c_Z0 : C_Z0) (c_i_nodeOk : C_i_nodeOk) (c_Z3 : C_Z3) (again2 : T_Z23_L2 → R_Z23) (g_Nodes : List (Int × Int × List Int)) (g_Root n3 : Int) (t30 : List (Int × Int × List Int)) (t31 t32 : Int) (t45 : Bool) : R_Z23 :=
  bif t45 then
    some ((false, ()), ())
  else
    again2 ((g_Nodes, g_Root, ()), (n3, ()), t30, t31, w64 (t32 + 1), ())
def B_Z23_J4 (k : Nat) (c_Z0 : C_Z0) (c_i_nodeOk : C_i_nodeOk) (c_Z3 : C_Z3) (again5 : T_Z23_L5 → R_Z23) (g_Nodes : List (Int × Int × List Int)) (g_Root t62 t63 : Int) (t78 : Bool) : R_Z23 :=
  bif t78 then
    some ((false, ()), ())
  else
    again5 ((g_Nodes, g_Root, ()), t62, w64 (t63 + 1), ())
def B_Z23_L5b (k : Nat) (c_Z0 : C_Z0) (c_i_nodeOk : C_i_nodeOk) (c_Z3 : C_Z3) (again5 : T_Z23_L5 → R_Z23) (g_Nodes : List (Int × Int × List Int)) (g_Root t62 t63 : Int) : R_Z23 :=
  bif decide (t63 < t62) then
    chk (inb t63 g_Nodes.length) <|
    bif (((rdx ((0 : Int), ((0 : Int), ([] : List Int))) g_Nodes t63).1) == 2) then
      (c_Z3 g_Nodes t63).bind fun r77 =>
      jn (fun t => B_Z23_J4 k c_Z0 c_i_nodeOk c_Z3 again5 t.1.1 t.1.2.1 t.2.1 t.2.2.1 t.2.2.2.1) ((g_Nodes, g_Root, ()), t62, t63, r77.1.1, ())
    else
      jn (fun t => B_Z23_J4 k c_Z0 c_i_nodeOk c_Z3 again5 t.1.1 t.1.2.1 t.2.1 t.2.2.1 t.2.2.2.1) ((g_Nodes, g_Root, ()), t62, t63, false, ())
  else
    some ((true, ()), ())
def B_Z23_L5 (k : Nat) (c_Z0 : C_Z0) (c_i_nodeOk : C_i_nodeOk) (c_Z3 : C_Z3) (n : Nat) (t : T_Z23_L5) : R_Z23 :=
  lfix n (fun again t => B_Z23_L5b k c_Z0 c_i_nodeOk c_Z3 again t.1.1 t.1.2.1 t.2.1 t.2.2.1) t
def B_Z23_L3b (k : Nat) (c_Z0 : C_Z0) (c_i_nodeOk : C_i_nodeOk) (c_Z3 : C_Z3) (again3 : T_Z23_L3 → R_Z23) (g_Nodes : List (Int × Int × List Int)) (g_Root : Int) (t48 : List (Int × Int × List Int)) (t49 t50 : Int) : R_Z23 :=
  bif decide (t50 < t49) then
    chk (inb t50 t48.length) <|
    (c_i_nodeOk g_Nodes ((rdx ((0 : Int), ((0 : Int), ([] : List Int))) t48 t50).1) (((rdx ((0 : Int), ((0 : Int), ([] : List Int))) t48 t50).2).1) (((rdx ((0 : Int), ((0 : Int), ([] : List Int))) t48 t50).2).2)).bind fun r57 =>
    bif (!r57.1.1) then
      some ((false, ()), ())
    else
      again3 ((g_Nodes, g_Root, ()), t48, t49, w64 (t50 + 1), ())
  else
    B_Z23_L5 k c_Z0 c_i_nodeOk c_Z3 k ((g_Nodes, g_Root, ()), len g_Nodes, 0, ())
def B_Z23_L3 (k : Nat) (c_Z0 : C_Z0) (c_i_nodeOk : C_i_nodeOk) (c_Z3 : C_Z3) (n : Nat) (t : T_Z23_L3) : R_Z23 :=
  lfix n (fun again t => B_Z23_L3b k c_Z0 c_i_nodeOk c_Z3 again t.1.1 t.1.2.1 t.2.1 t.2.2.1 t.2.2.2.1) t
def B_Z23_L2b (k : Nat) (c_Z0 : C_Z0) (c_i_nodeOk : C_i_nodeOk) (c_Z3 : C_Z3) (again2 : T_Z23_L2 → R_Z23) (g_Nodes : List (Int × Int × List Int)) (g_Root n3 : Int) (t30 : List (Int × Int × List Int)) (t31 t32 : Int) : R_Z23 :=
  bif decide (t32 < t31) then
    chk (inb t32 t30.length) <|
    bif decide ((len (((rdx ((0 : Int), ((0 : Int), ([] : List Int))) t30 t32).2).2)) > 6) then
      jn (fun t => B_Z23_J1 k c_Z0 c_i_nodeOk c_Z3 again2 t.1.1 t.1.2.1 t.2.1.1 t.2.2.1 t.2.2.2.1 t.2.2.2.2.1 t.2.2.2.2.2.1) ((g_Nodes, g_Root, ()), (n3, ()), t30, t31, t32, true, ())
    else
      (c_Z0 (((rdx ((0 : Int), ((0 : Int), ([] : List Int))) t30 t32).2).2) n3).bind fun r44 =>
      jn (fun t => B_Z23_J1 k c_Z0 c_i_nodeOk c_Z3 again2 t.1.1 t.1.2.1 t.2.1.1 t.2.2.1 t.2.2.2.1 t.2.2.2.2.1 t.2.2.2.2.2.1) ((g_Nodes, g_Root, ()), (r44.2.1.1, ()), t30, t31, t32, r44.1.1, ())
  else
    B_Z23_L3 k c_Z0 c_i_nodeOk c_Z3 k ((g_Nodes, g_Root, ()), g_Nodes, len g_Nodes, 0, ())
def B_Z23_L2 (k : Nat) (c_Z0 : C_Z0) (c_i_nodeOk : C_i_nodeOk) (c_Z3 : C_Z3) (n : Nat) (t : T_Z23_L2) : R_Z23 :=
  lfix n (fun again t => B_Z23_L2b k c_Z0 c_i_nodeOk c_Z3 again t.1.1 t.1.2.1 t.2.1.1 t.2.2.1 t.2.2.2.1 t.2.2.2.2.1) t
def B_Z23_J0 (k : Nat) (c_Z0 : C_Z0) (c_i_nodeOk : C_i_nodeOk) (c_Z3 : C_Z3) (g_Nodes : List (Int × Int × List Int)) (g_Root n3 : Int) (t28 : Bool) : R_Z23 :=
  bif t28 then
    some ((false, ()), ())
  else
    B_Z23_L2 k c_Z0 c_i_nodeOk c_Z3 k ((g_Nodes, g_Root, ()), (n3, ()), g_Nodes, len g_Nodes, 0, ())
def B_Z23 (k : Nat) (c_Z0 : C_Z0) (c_i_nodeOk : C_i_nodeOk) (c_Z3 : C_Z3) (g_0 : List (Int × Int × List Int)) (g_1 : Int) : R_Z23 :=
  bif decide ((len g_0) < 1) then
    jn (fun t => B_Z23_J0 k c_Z0 c_i_nodeOk c_Z3 t.1.1 t.1.2.1 t.2.1.1 t.2.2.1) ((g_0, g_1, ()), (len g_0, ()), true, ())
  else
    bif decide ((len g_0) > 12) then
      jn (fun t => B_Z23_J0 k c_Z0 c_i_nodeOk c_Z3 t.1.1 t.1.2.1 t.2.1.1 t.2.2.1) ((g_0, g_1, ()), (len g_0, ()), true, ())
    else
      bif decide (g_1 < 0) then
        jn (fun t => B_Z23_J0 k c_Z0 c_i_nodeOk c_Z3 t.1.1 t.1.2.1 t.2.1.1 t.2.2.1) ((g_0, g_1, ()), (len g_0, ()), true, ())
      else
        jn (fun t => B_Z23_J0 k c_Z0 c_i_nodeOk c_Z3 t.1.1 t.1.2.1 t.2.1.1 t.2.2.1) ((g_0, g_1, ()), (len g_0, ()), decide (g_1 ≥ (len g_0)), ())
def F_Z23 : Nat → C_Z23
  | 0, _, _ => none
  | k + 1, g_0, g_1 => B_Z23 k (F_Z0 k) (F_i_nodeOk k) (F_Z3 k) g_0 g_1
theorem tot_Z23 {g_0 g_1 : _} {Q : _ → Prop} (h : Tot (fun σ => B_Z23 (σ 0) (F_Z0 (σ 0)) (F_i_nodeOk (σ 0)) (F_Z3 (σ 0)) g_0 g_1) Q) : Tot (fun σ => F_Z23 (σ 0) g_0 g_1) Q :=
  Tot.call (F := fun k => F_Z23 k g_0 g_1) (B := fun k => B_Z23 k (F_Z0 k) (F_i_nodeOk k) (F_Z3 k) g_0 g_1) (fun k => rfl) h
abbrev A_Z23_L5 (Z : Type) : Type := (List (Int × Int × List Int)) → Int → Int → Int → Z
abbrev u_Z23_L5 {Z : Type} (f : A_Z23_L5 Z) (t : T_Z23_L5) : Z := f t.1.1 t.1.2.1 t.2.1 t.2.2.1
theorem loop_Z23_L5 {Q : A_Z23_L5 (((Bool × Unit) × (Unit)) → Prop)} (I : A_Z23_L5 Prop) (μ : A_Z23_L5 Nat)
    (step : ∀ a0 a1 a2 a3, I a0 a1 a2 a3 → ∀ again : (Nat → Nat) → T_Z23_L5 → R_Z23, Dep 2 again → (∀ y0 y1 y2 y3, I y0 y1 y2 y3 → μ y0 y1 y2 y3 < μ a0 a1 a2 a3 → Tot (fun σ => again σ ((y0, y1, ()), y2, y3, ())) (Q y0 y1 y2 y3)) →
      Tot (fun σ => B_Z23_L5b (σ 0) (F_Z0 (σ 0)) (F_i_nodeOk (σ 0)) (F_Z3 (σ 0)) (again σ) a0 a1 a2 a3) (Q a0 a1 a2 a3)) :
    ∀ a0 a1 a2 a3, I a0 a1 a2 a3 → Tot (fun σ => B_Z23_L5 (σ 0) (F_Z0 (σ 0)) (F_i_nodeOk (σ 0)) (F_Z3 (σ 0)) (σ 0) ((a0, a1, ()), a2, a3, ())) (Q a0 a1 a2 a3) := fun a0 a1 a2 a3 => Tot.loop0 (L := fun k => B_Z23_L5 k (F_Z0 k) (F_i_nodeOk k) (F_Z3 k)) (B := fun k g => u_Z23_L5 (B_Z23_L5b k (F_Z0 k) (F_i_nodeOk k) (F_Z3 k) g)) (Q := u_Z23_L5 Q) (fun _ _ _ => rfl) (u_Z23_L5 I) (u_Z23_L5 μ)
    (fun t ht again hag h => step t.1.1 t.1.2.1 t.2.1 t.2.2.1 ht again hag fun y0 y1 y2 y3 => h ((y0, y1, ()), y2, y3, ())) ((a0, a1, ()), a2, a3, ())
abbrev A_Z23_L3 (Z : Type) : Type := (List (Int × Int × List Int)) → Int → (List (Int × Int × List Int)) → Int → Int → Z
abbrev u_Z23_L3 {Z : Type} (f : A_Z23_L3 Z) (t : T_Z23_L3) : Z := f t.1.1 t.1.2.1 t.2.1 t.2.2.1 t.2.2.2.1
theorem loop_Z23_L3 {Q : A_Z23_L3 (((Bool × Unit) × (Unit)) → Prop)} (I : A_Z23_L3 Prop) (μ : A_Z23_L3 Nat)
    (step : ∀ a0 a1 a2 a3 a4, I a0 a1 a2 a3 a4 → ∀ again : (Nat → Nat) → T_Z23_L3 → R_Z23, Dep 2 again → (∀ y0 y1 y2 y3 y4, I y0 y1 y2 y3 y4 → μ y0 y1 y2 y3 y4 < μ a0 a1 a2 a3 a4 → Tot (fun σ => again σ ((y0, y1, ()), y2, y3, y4, ())) (Q y0 y1 y2 y3 y4)) →
      Tot (fun σ => B_Z23_L3b (σ 0) (F_Z0 (σ 0)) (F_i_nodeOk (σ 0)) (F_Z3 (σ 0)) (again σ) a0 a1 a2 a3 a4) (Q a0 a1 a2 a3 a4)) :
    ∀ a0 a1 a2 a3 a4, I a0 a1 a2 a3 a4 → Tot (fun σ => B_Z23_L3 (σ 0) (F_Z0 (σ 0)) (F_i_nodeOk (σ 0)) (F_Z3 (σ 0)) (σ 0) ((a0, a1, ()), a2, a3, a4, ())) (Q a0 a1 a2 a3 a4) := fun a0 a1 a2 a3 a4 => Tot.loop0 (L := fun k => B_Z23_L3 k (F_Z0 k) (F_i_nodeOk k) (F_Z3 k)) (B := fun k g => u_Z23_L3 (B_Z23_L3b k (F_Z0 k) (F_i_nodeOk k) (F_Z3 k) g)) (Q := u_Z23_L3 Q) (fun _ _ _ => rfl) (u_Z23_L3 I) (u_Z23_L3 μ)
    (fun t ht again hag h => step t.1.1 t.1.2.1 t.2.1 t.2.2.1 t.2.2.2.1 ht again hag fun y0 y1 y2 y3 y4 => h ((y0, y1, ()), y2, y3, y4, ())) ((a0, a1, ()), a2, a3, a4, ())
abbrev A_Z23_L2 (Z : Type) : Type := (List (Int × Int × List Int)) → Int → Int → (List (Int × Int × List Int)) → Int → Int → Z
abbrev u_Z23_L2 {Z : Type} (f : A_Z23_L2 Z) (t : T_Z23_L2) : Z := f t.1.1 t.1.2.1 t.2.1.1 t.2.2.1 t.2.2.2.1 t.2.2.2.2.1
theorem loop_Z23_L2 {Q : A_Z23_L2 (((Bool × Unit) × (Unit)) → Prop)} (I : A_Z23_L2 Prop) (μ : A_Z23_L2 Nat)
    (step : ∀ a0 a1 a2 a3 a4 a5, I a0 a1 a2 a3 a4 a5 → ∀ again : (Nat → Nat) → T_Z23_L2 → R_Z23, Dep 2 again → (∀ y0 y1 y2 y3 y4 y5, I y0 y1 y2 y3 y4 y5 → μ y0 y1 y2 y3 y4 y5 < μ a0 a1 a2 a3 a4 a5 → Tot (fun σ => again σ ((y0, y1, ()), (y2, ()), y3, y4, y5, ())) (Q y0 y1 y2 y3 y4 y5)) →
      Tot (fun σ => B_Z23_L2b (σ 0) (F_Z0 (σ 0)) (F_i_nodeOk (σ 0)) (F_Z3 (σ 0)) (again σ) a0 a1 a2 a3 a4 a5) (Q a0 a1 a2 a3 a4 a5)) :
    ∀ a0 a1 a2 a3 a4 a5, I a0 a1 a2 a3 a4 a5 → Tot (fun σ => B_Z23_L2 (σ 0) (F_Z0 (σ 0)) (F_i_nodeOk (σ 0)) (F_Z3 (σ 0)) (σ 0) ((a0, a1, ()), (a2, ()), a3, a4, a5, ())) (Q a0 a1 a2 a3 a4 a5) := fun a0 a1 a2 a3 a4 a5 => Tot.loop0 (L := fun k => B_Z23_L2 k (F_Z0 k) (F_i_nodeOk k) (F_Z3 k)) (B := fun k g => u_Z23_L2 (B_Z23_L2b k (F_Z0 k) (F_i_nodeOk k) (F_Z3 k) g)) (Q := u_Z23_L2 Q) (fun _ _ _ => rfl) (u_Z23_L2 I) (u_Z23_L2 μ)
    (fun t ht again hag h => step t.1.1 t.1.2.1 t.2.1.1 t.2.2.1 t.2.2.2.1 t.2.2.2.2.1 ht again hag fun y0 y1 y2 y3 y4 y5 => h ((y0, y1, ()), (y2, ()), y3, y4, y5, ())) ((a0, a1, ()), (a2, ()), a3, a4, a5, ())
abbrev R_i_CodeOf : Type := Option ((List Int × Unit) × (Unit))
abbrev C_i_CodeOf : Type := (List (Int × Int × List Int)) → Int → R_i_CodeOf
def B_i_CodeOf (k : Nat) (c_Z23 : C_Z23) (c_Z62 : C_Z62) (g_0 : List (Int × Int × List Int)) (g_1 : Int) : R_i_CodeOf :=
  (c_Z23 g_0 g_1).bind fun r4 =>
  bif (!r4.1.1) then
    some (([], ()), ())
  else
    (c_Z62 g_0 ([g_1])).bind fun r11 =>
    some ((r11.1.1, ()), ())
def F_i_CodeOf : Nat → C_i_CodeOf
  | 0, _, _ => none
  | k + 1, g_0, g_1 => B_i_CodeOf k (F_Z23 k) (F_Z62 k) g_0 g_1
theorem tot_i_CodeOf {g_0 g_1 : _} {Q : _ → Prop} (h : Tot (fun σ => B_i_CodeOf (σ 0) (F_Z23 (σ 0)) (F_Z62 (σ 0)) g_0 g_1) Q) : Tot (fun σ => F_i_CodeOf (σ 0) g_0 g_1) Q :=
  Tot.call (F := fun k => F_i_CodeOf k g_0 g_1) (B := fun k => B_i_CodeOf k (F_Z23 k) (F_Z62 k) g_0 g_1) (fun k => rfl) h
abbrev R_Z17 : Type := Option ((Bool × Unit) × (Unit))
abbrev C_Z17 : Type := List Int → R_Z17
def B_Z17_J0 (k : Nat) (c_Z5 : C_Z5) (c_Z48 : C_Z48) (c_Z35 : C_Z35) (c_Z34 : C_Z34) (c_Z33 : C_Z33) (c_Z23 : C_Z23) (c_i_CodeOf : C_i_CodeOf) (ops : List (Int × Int)) (out : List Int) (ok : Bool) (want : List Int) (told t37 : Bool) : R_Z17 :=
  bif t37 then
    (c_Z34 out want).bind fun r40 =>
    bif r40.1.1 then
      some (((ok == told), ()), ())
    else
      some ((false, ()), ())
  else
    (c_Z33 ops).bind fun r48 =>
    bif r48.1.2.1 then
      (c_Z23 r48.1.1.1 r48.1.1.2.1).bind fun r54 =>
      bif (!r54.1.1) then
        chk (inb 0 out.length) <|
        chk (decide ((0 : Int).toNat < out.length)) <|
        chk (inb r48.1.1.2.1 r48.1.1.1.length) <|
        chk (decide (r48.1.1.2.1.toNat < r48.1.1.1.length)) <|
        let v74 : Bool := ((out.getD ((0 : Int).toNat) (0 : Int)) == ((r48.1.1.1.getD r48.1.1.2.1.toNat ((0 : Int), ((0 : Int), ([] : List Int)))).1))
        some ((v74, ()), ())
      else
        (c_i_CodeOf r48.1.1.1 r48.1.1.2.1).bind fun r58 =>
        (c_Z34 r58.1.1 out).bind fun r60 =>
        bif r60.1.1 then
          chk (inb 0 out.length) <|
          chk (decide ((0 : Int).toNat < out.length)) <|
          chk (inb r48.1.1.2.1 r48.1.1.1.length) <|
          chk (decide (r48.1.1.2.1.toNat < r48.1.1.1.length)) <|
          let v74 : Bool := ((out.getD ((0 : Int).toNat) (0 : Int)) == ((r48.1.1.1.getD r48.1.1.2.1.toNat ((0 : Int), ((0 : Int), ([] : List Int)))).1))
          some ((v74, ()), ())
        else
          some ((false, ()), ())
    else
      some ((false, ()), ())
def B_Z17 (k : Nat) (c_Z5 : C_Z5) (c_Z48 : C_Z48) (c_Z35 : C_Z35) (c_Z34 : C_Z34) (c_Z33 : C_Z33) (c_Z23 : C_Z23) (c_i_CodeOf : C_i_CodeOf) (code : List Int) : R_Z17 :=
  bif decide ((len code) > 1048576) then
    some ((true, ()), ())
  else
    (c_Z5 code).bind fun r14 =>
    (c_Z48 r14.1.1).bind fun r17 =>
    (c_Z35 r14.1.1).bind fun r22 =>
    (c_Z34 r17.1.1 r22.1.1).bind fun r27 =>
    bif (!r27.1.1) then
      jn (fun t => B_Z17_J0 k c_Z5 c_Z48 c_Z35 c_Z34 c_Z33 c_Z23 c_i_CodeOf t.1 t.2.1 t.2.2.1 t.2.2.2.1 t.2.2.2.2.1 t.2.2.2.2.2.1) (r14.1.1, r17.1.1, r17.1.2.1, r22.1.1, r22.1.2.1, true, ())
    else
      bif (!(r17.1.2.1 == r22.1.2.1)) then
        jn (fun t => B_Z17_J0 k c_Z5 c_Z48 c_Z35 c_Z34 c_Z33 c_Z23 c_i_CodeOf t.1 t.2.1 t.2.2.1 t.2.2.2.1 t.2.2.2.2.1 t.2.2.2.2.2.1) (r14.1.1, r17.1.1, r17.1.2.1, r22.1.1, r22.1.2.1, true, ())
      else
        jn (fun t => B_Z17_J0 k c_Z5 c_Z48 c_Z35 c_Z34 c_Z33 c_Z23 c_i_CodeOf t.1 t.2.1 t.2.2.1 t.2.2.2.1 t.2.2.2.2.1 t.2.2.2.2.2.1) (r14.1.1, r17.1.1, r17.1.2.1, r22.1.1, r22.1.2.1, (!r17.1.2.1), ())
def F_Z17 : Nat → C_Z17
  | 0, _ => none
  | k + 1, code => B_Z17 k (F_Z5 k) (F_Z48 k) (F_Z35 k) (F_Z34 k) (F_Z33 k) (F_Z23 k) (F_i_CodeOf k) code
theorem tot_Z17 {code : _} {Q : _ → Prop} (h : Tot (fun σ => B_Z17 (σ 0) (F_Z5 (σ 0)) (F_Z48 (σ 0)) (F_Z35 (σ 0)) (F_Z34 (σ 0)) (F_Z33 (σ 0)) (F_Z23 (σ 0)) (F_i_CodeOf (σ 0)) code) Q) : Tot (fun σ => F_Z17 (σ 0) code) Q :=
  Tot.call (F := fun k => F_Z17 k code) (B := fun k => B_Z17 k (F_Z5 k) (F_Z48 k) (F_Z35 k) (F_Z34 k) (F_Z33 k) (F_Z23 k) (F_i_CodeOf k) code) (fun k => rfl) h
end Go.Gx

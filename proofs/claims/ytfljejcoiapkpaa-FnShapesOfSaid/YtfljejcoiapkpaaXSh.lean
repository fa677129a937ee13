/-
  The functions, as Gx tells them (printed by gen.py).
-/
import Derived.Test.YtfljejcoiapkpaaXSh1
set_option linter.unusedVariables false
namespace Go.Gx
abbrev T_l_FnShapesOf_L2 : Type := (List Int × List Bool × List Int × List Int × Bool × Unit) × Int × ((List (Int × Int × List Int)) × List Int × List Int × Bool × Unit) × Int × Int × Unit
def B_l_FnShapesOf_J1 (k : Nat) (c_s_DrawShapesOf : C_s_DrawShapesOf) (c_i_ShapesOf : C_i_ShapesOf) (c_s_ShapesOf : C_s_ShapesOf) (c_l_equalShapes : C_l_equalShapes) (c_i_RunOps : C_i_RunOps) (c_l_equalInts : C_l_equalInts) (again2 : T_l_FnShapesOf_L2 → R_l_FnShapesOf) (s_Kinds : List Int) (s_Full : List Bool) (s_Stack s_Memo : List Int) (s_Done : Bool) (n5 : Int) (m_Nodes : List (Int × Int × List Int)) (m_Stack m_Memo : List Int) (m_Done : Bool) (k9 i : Int) (t95 : Bool) : R_l_FnShapesOf :=
  bif t95 then
    some ((false, ()), ())
  else
    again2 ((s_Kinds, s_Full, s_Stack, s_Memo, s_Done, ()), n5, (m_Nodes, m_Stack, m_Memo, m_Done, ()), k9, w64 (i + 1), ())
def B_l_FnShapesOf_L2b (k : Nat) (c_s_DrawShapesOf : C_s_DrawShapesOf) (c_i_ShapesOf : C_i_ShapesOf) (c_s_ShapesOf : C_s_ShapesOf) (c_l_equalShapes : C_l_equalShapes) (c_i_RunOps : C_i_RunOps) (c_l_equalInts : C_l_equalInts) (again2 : T_l_FnShapesOf_L2 → R_l_FnShapesOf) (s_Kinds : List Int) (s_Full : List Bool) (s_Stack s_Memo : List Int) (s_Done : Bool) (n5 : Int) (m_Nodes : List (Int × Int × List Int)) (m_Stack m_Memo : List Int) (m_Done : Bool) (k9 i : Int) : R_l_FnShapesOf :=
  bif decide (i < (len m_Nodes)) then
    chk (inb i s_Kinds.length) <|
    chk (decide (i.toNat < s_Kinds.length)) <|
    chk (inb i m_Nodes.length) <|
    chk (decide (i.toNat < m_Nodes.length)) <|
    let v70 : Bool := ((s_Kinds.getD i.toNat (0 : Int)) != ((m_Nodes.getD i.toNat ((0 : Int), ((0 : Int), ([] : List Int)))).1))
    bif v70 then
      jn (fun t => B_l_FnShapesOf_J1 k c_s_DrawShapesOf c_i_ShapesOf c_s_ShapesOf c_l_equalShapes c_i_RunOps c_l_equalInts again2 t.1.1 t.1.2.1 t.1.2.2.1 t.1.2.2.2.1 t.1.2.2.2.2.1 t.2.1 t.2.2.1.1 t.2.2.1.2.1 t.2.2.1.2.2.1 t.2.2.1.2.2.2.1 t.2.2.2.1 t.2.2.2.2.1 t.2.2.2.2.2.1) ((s_Kinds, s_Full, s_Stack, s_Memo, s_Done, ()), n5, (m_Nodes, m_Stack, m_Memo, m_Done, ()), k9, i, true, ())
    else
      chk (inb i s_Full.length) <|
      chk (decide (i.toNat < s_Full.length)) <|
      chk (inb i m_Nodes.length) <|
      chk (decide (i.toNat < m_Nodes.length)) <|
      bif (((m_Nodes.getD i.toNat ((0 : Int), ((0 : Int), ([] : List Int)))).1) == 5) then
        chk (inb i m_Nodes.length) <|
        chk (decide (i.toNat < m_Nodes.length)) <|
        let v94 : Bool := (!((s_Full.getD i.toNat false) == ((len (((m_Nodes.getD i.toNat ((0 : Int), ((0 : Int), ([] : List Int)))).2).2)) == 1)))
        jn (fun t => B_l_FnShapesOf_J1 k c_s_DrawShapesOf c_i_ShapesOf c_s_ShapesOf c_l_equalShapes c_i_RunOps c_l_equalInts again2 t.1.1 t.1.2.1 t.1.2.2.1 t.1.2.2.2.1 t.1.2.2.2.2.1 t.2.1 t.2.2.1.1 t.2.2.1.2.1 t.2.2.1.2.2.1 t.2.2.1.2.2.2.1 t.2.2.2.1 t.2.2.2.2.1 t.2.2.2.2.2.1) ((s_Kinds, s_Full, s_Stack, s_Memo, s_Done, ()), n5, ((m_Nodes.set i.toNat ((m_Nodes.getD i.toNat ((0 : Int), ((0 : Int), ([] : List Int)))).1, (((m_Nodes.getD i.toNat ((0 : Int), ((0 : Int), ([] : List Int)))).2).1, ((m_Nodes.getD i.toNat ((0 : Int), ((0 : Int), ([] : List Int)))).2).2))), m_Stack, m_Memo, m_Done, ()), k9, i, v94, ())
      else
        jn (fun t => B_l_FnShapesOf_J1 k c_s_DrawShapesOf c_i_ShapesOf c_s_ShapesOf c_l_equalShapes c_i_RunOps c_l_equalInts again2 t.1.1 t.1.2.1 t.1.2.2.1 t.1.2.2.2.1 t.1.2.2.2.2.1 t.2.1 t.2.2.1.1 t.2.2.1.2.1 t.2.2.1.2.2.1 t.2.2.1.2.2.2.1 t.2.2.2.1 t.2.2.2.2.1 t.2.2.2.2.2.1) ((s_Kinds, s_Full, s_Stack, s_Memo, s_Done, ()), n5, (m_Nodes, m_Stack, m_Memo, m_Done, ()), k9, i, (!((s_Full.getD i.toNat false) == false)), ())
  else
    bif (n5 == k9) then
      (c_l_equalInts s_Stack m_Stack).bind fun r104 =>
      bif r104.1.1 then
        (c_l_equalInts s_Memo m_Memo).bind fun r111 =>
        bif r111.1.1 then
          bif (s_Done == m_Done) then
            some ((((len s_Kinds) == (len m_Nodes)), ()), ())
          else
            some ((false, ()), ())
        else
          some ((false, ()), ())
      else
        some ((false, ()), ())
    else
      some ((false, ()), ())
def B_l_FnShapesOf_L2 (k : Nat) (c_s_DrawShapesOf : C_s_DrawShapesOf) (c_i_ShapesOf : C_i_ShapesOf) (c_s_ShapesOf : C_s_ShapesOf) (c_l_equalShapes : C_l_equalShapes) (c_i_RunOps : C_i_RunOps) (c_l_equalInts : C_l_equalInts) (n : Nat) (t : T_l_FnShapesOf_L2) : R_l_FnShapesOf :=
  lfix n (fun again t => B_l_FnShapesOf_L2b k c_s_DrawShapesOf c_i_ShapesOf c_s_ShapesOf c_l_equalShapes c_i_RunOps c_l_equalInts again t.1.1 t.1.2.1 t.1.2.2.1 t.1.2.2.2.1 t.1.2.2.2.2.1 t.2.1 t.2.2.1.1 t.2.2.1.2.1 t.2.2.1.2.2.1 t.2.2.1.2.2.2.1 t.2.2.2.1 t.2.2.2.2.1) t
def B_l_FnShapesOf_J0 (k : Nat) (c_s_DrawShapesOf : C_s_DrawShapesOf) (c_i_ShapesOf : C_i_ShapesOf) (c_s_ShapesOf : C_s_ShapesOf) (c_l_equalShapes : C_l_equalShapes) (c_i_RunOps : C_i_RunOps) (c_l_equalInts : C_l_equalInts) (ops : List (Int × Int)) (s_Kinds : List Int) (s_Full : List Bool) (s_Stack s_Memo : List Int) (s_Done : Bool) (n5 : Int) (x_Kinds : List Int) (x_Full : List Bool) (x_Stack x_Memo : List Int) (x_Done : Bool) (y : Int) (t38 : Bool) : R_l_FnShapesOf :=
  bif t38 then
    (c_l_equalShapes s_Kinds s_Full s_Stack s_Memo s_Done x_Kinds x_Full x_Stack x_Memo x_Done).bind fun r41 =>
    bif r41.1.1 then
      some (((n5 == y), ()), ())
    else
      some ((false, ()), ())
  else
    (c_i_RunOps ops).bind fun r49 =>
    B_l_FnShapesOf_L2 k c_s_DrawShapesOf c_i_ShapesOf c_s_ShapesOf c_l_equalShapes c_i_RunOps c_l_equalInts k ((s_Kinds, s_Full, s_Stack, s_Memo, s_Done, ()), n5, (r49.1.1.1, r49.1.1.2.1, r49.1.1.2.2.1, r49.1.1.2.2.2.1, ()), r49.1.2.1, 0, ())
def B_l_FnShapesOf (k : Nat) (c_s_DrawShapesOf : C_s_DrawShapesOf) (c_i_ShapesOf : C_i_ShapesOf) (c_s_ShapesOf : C_s_ShapesOf) (c_l_equalShapes : C_l_equalShapes) (c_i_RunOps : C_i_RunOps) (c_l_equalInts : C_l_equalInts) (code : List Int) : R_l_FnShapesOf :=
  bif decide ((len code) > 1048576) then
    some ((true, ()), ())
  else
    (c_s_DrawShapesOf code).bind fun r15 =>
    (c_i_ShapesOf r15.1.1).bind fun r18 =>
    (c_s_ShapesOf r15.1.1).bind fun r23 =>
    (c_l_equalShapes r18.1.1.1 r18.1.1.2.1 r18.1.1.2.2.1 r18.1.1.2.2.2.1 r18.1.1.2.2.2.2.1 r23.1.1.1 r23.1.1.2.1 r23.1.1.2.2.1 r23.1.1.2.2.2.1 r23.1.1.2.2.2.2.1).bind fun r28 =>
    bif (!r28.1.1) then
      jn (fun t => B_l_FnShapesOf_J0 k c_s_DrawShapesOf c_i_ShapesOf c_s_ShapesOf c_l_equalShapes c_i_RunOps c_l_equalInts t.1 t.2.1.1 t.2.1.2.1 t.2.1.2.2.1 t.2.1.2.2.2.1 t.2.1.2.2.2.2.1 t.2.2.1 t.2.2.2.1.1 t.2.2.2.1.2.1 t.2.2.2.1.2.2.1 t.2.2.2.1.2.2.2.1 t.2.2.2.1.2.2.2.2.1 t.2.2.2.2.1 t.2.2.2.2.2.1) (r15.1.1, (r18.1.1.1, r18.1.1.2.1, r18.1.1.2.2.1, r18.1.1.2.2.2.1, r18.1.1.2.2.2.2.1, ()), r18.1.2.1, (r23.1.1.1, r23.1.1.2.1, r23.1.1.2.2.1, r23.1.1.2.2.2.1, r23.1.1.2.2.2.2.1, ()), r23.1.2.1, true, ())
    else
      bif (r18.1.2.1 != r23.1.2.1) then
        jn (fun t => B_l_FnShapesOf_J0 k c_s_DrawShapesOf c_i_ShapesOf c_s_ShapesOf c_l_equalShapes c_i_RunOps c_l_equalInts t.1 t.2.1.1 t.2.1.2.1 t.2.1.2.2.1 t.2.1.2.2.2.1 t.2.1.2.2.2.2.1 t.2.2.1 t.2.2.2.1.1 t.2.2.2.1.2.1 t.2.2.2.1.2.2.1 t.2.2.2.1.2.2.2.1 t.2.2.2.1.2.2.2.2.1 t.2.2.2.2.1 t.2.2.2.2.2.1) (r15.1.1, (r18.1.1.1, r18.1.1.2.1, r18.1.1.2.2.1, r18.1.1.2.2.2.1, r18.1.1.2.2.2.2.1, ()), r18.1.2.1, (r23.1.1.1, r23.1.1.2.1, r23.1.1.2.2.1, r23.1.1.2.2.2.1, r23.1.1.2.2.2.2.1, ()), r23.1.2.1, true, ())
      else
        jn (fun t => B_l_FnShapesOf_J0 k c_s_DrawShapesOf c_i_ShapesOf c_s_ShapesOf c_l_equalShapes c_i_RunOps c_l_equalInts t.1 t.2.1.1 t.2.1.2.1 t.2.1.2.2.1 t.2.1.2.2.2.1 t.2.1.2.2.2.2.1 t.2.2.1 t.2.2.2.1.1 t.2.2.2.1.2.1 t.2.2.2.1.2.2.1 t.2.2.2.1.2.2.2.1 t.2.2.2.1.2.2.2.2.1 t.2.2.2.2.1 t.2.2.2.2.2.1) (r15.1.1, (r18.1.1.1, r18.1.1.2.1, r18.1.1.2.2.1, r18.1.1.2.2.2.1, r18.1.1.2.2.2.2.1, ()), r18.1.2.1, (r23.1.1.1, r23.1.1.2.1, r23.1.1.2.2.1, r23.1.1.2.2.2.1, r23.1.1.2.2.2.2.1, ()), r23.1.2.1, decide (r18.1.2.1 < 0), ())
def F_l_FnShapesOf : Nat → C_l_FnShapesOf
  | 0, _ => none
  | k + 1, code => B_l_FnShapesOf k (F_s_DrawShapesOf k) (F_i_ShapesOf k) (F_s_ShapesOf k) (F_l_equalShapes k) (F_i_RunOps k) (F_l_equalInts k) code
theorem tot_l_FnShapesOf {code : _} {Q : _ → Prop} (h : Tot (fun σ => B_l_FnShapesOf (σ 0) (F_s_DrawShapesOf (σ 0)) (F_i_ShapesOf (σ 0)) (F_s_ShapesOf (σ 0)) (F_l_equalShapes (σ 0)) (F_i_RunOps (σ 0)) (F_l_equalInts (σ 0)) code) Q) : Tot (fun σ => F_l_FnShapesOf (σ 0) code) Q :=
  Tot.call (F := fun k => F_l_FnShapesOf k code) (B := fun k => B_l_FnShapesOf k (F_s_DrawShapesOf k) (F_i_ShapesOf k) (F_s_ShapesOf k) (F_l_equalShapes k) (F_i_RunOps k) (F_l_equalInts k) code) (fun k => rfl) h
abbrev A_l_FnShapesOf_L2 (Z : Type) : Type := List Int → List Bool → List Int → List Int → Bool → Int → (List (Int × Int × List Int)) → List Int → List Int → Bool → Int → Int → Z
abbrev u_l_FnShapesOf_L2 {Z : Type} (f : A_l_FnShapesOf_L2 Z) (t : T_l_FnShapesOf_L2) : Z := f t.1.1 t.1.2.1 t.1.2.2.1 t.1.2.2.2.1 t.1.2.2.2.2.1 t.2.1 t.2.2.1.1 t.2.2.1.2.1 t.2.2.1.2.2.1 t.2.2.1.2.2.2.1 t.2.2.2.1 t.2.2.2.2.1
theorem loop_l_FnShapesOf_L2 {Q : A_l_FnShapesOf_L2 (((Bool × Unit) × (Unit)) → Prop)} (I : A_l_FnShapesOf_L2 Prop) (μ : A_l_FnShapesOf_L2 Nat)
    (step : ∀ a0 a1 a2 a3 a4 a5 a6 a7 a8 a9 a10 a11, I a0 a1 a2 a3 a4 a5 a6 a7 a8 a9 a10 a11 → ∀ again : (Nat → Nat) → T_l_FnShapesOf_L2 → R_l_FnShapesOf, Dep 2 again → (∀ y0 y1 y2 y3 y4 y5 y6 y7 y8 y9 y10 y11, I y0 y1 y2 y3 y4 y5 y6 y7 y8 y9 y10 y11 → μ y0 y1 y2 y3 y4 y5 y6 y7 y8 y9 y10 y11 < μ a0 a1 a2 a3 a4 a5 a6 a7 a8 a9 a10 a11 → Tot (fun σ => again σ ((y0, y1, y2, y3, y4, ()), y5, (y6, y7, y8, y9, ()), y10, y11, ())) (Q y0 y1 y2 y3 y4 y5 y6 y7 y8 y9 y10 y11)) →
      Tot (fun σ => B_l_FnShapesOf_L2b (σ 0) (F_s_DrawShapesOf (σ 0)) (F_i_ShapesOf (σ 0)) (F_s_ShapesOf (σ 0)) (F_l_equalShapes (σ 0)) (F_i_RunOps (σ 0)) (F_l_equalInts (σ 0)) (again σ) a0 a1 a2 a3 a4 a5 a6 a7 a8 a9 a10 a11) (Q a0 a1 a2 a3 a4 a5 a6 a7 a8 a9 a10 a11)) :
    ∀ a0 a1 a2 a3 a4 a5 a6 a7 a8 a9 a10 a11, I a0 a1 a2 a3 a4 a5 a6 a7 a8 a9 a10 a11 → Tot (fun σ => B_l_FnShapesOf_L2 (σ 0) (F_s_DrawShapesOf (σ 0)) (F_i_ShapesOf (σ 0)) (F_s_ShapesOf (σ 0)) (F_l_equalShapes (σ 0)) (F_i_RunOps (σ 0)) (F_l_equalInts (σ 0)) (σ 0) ((a0, a1, a2, a3, a4, ()), a5, (a6, a7, a8, a9, ()), a10, a11, ())) (Q a0 a1 a2 a3 a4 a5 a6 a7 a8 a9 a10 a11) := fun a0 a1 a2 a3 a4 a5 a6 a7 a8 a9 a10 a11 => Tot.loop0 (L := fun k => B_l_FnShapesOf_L2 k (F_s_DrawShapesOf k) (F_i_ShapesOf k) (F_s_ShapesOf k) (F_l_equalShapes k) (F_i_RunOps k) (F_l_equalInts k)) (B := fun k g => u_l_FnShapesOf_L2 (B_l_FnShapesOf_L2b k (F_s_DrawShapesOf k) (F_i_ShapesOf k) (F_s_ShapesOf k) (F_l_equalShapes k) (F_i_RunOps k) (F_l_equalInts k) g)) (Q := u_l_FnShapesOf_L2 Q) (fun _ _ _ => rfl) (u_l_FnShapesOf_L2 I) (u_l_FnShapesOf_L2 μ)
    (fun t ht again hag h => step t.1.1 t.1.2.1 t.1.2.2.1 t.1.2.2.2.1 t.1.2.2.2.2.1 t.2.1 t.2.2.1.1 t.2.2.1.2.1 t.2.2.1.2.2.1 t.2.2.1.2.2.2.1 t.2.2.2.1 t.2.2.2.2.1 ht again hag fun y0 y1 y2 y3 y4 y5 y6 y7 y8 y9 y10 y11 => h ((y0, y1, y2, y3, y4, ()), y5, (y6, y7, y8, y9, ()), y10, y11, ())) ((a0, a1, a2, a3, a4, ()), a5, (a6, a7, a8, a9, ()), a10, a11, ())
end Go.Gx

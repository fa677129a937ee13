/-
  The functions, as Gx tells them (printed by gen.py).
-/
import Derived.Test.YtfljejcoiapkpaaXSh1
set_option linter.unusedVariables false
namespace Go.Gx
abbrev T_s_stepMark_L1 : Type := ((List (Int × Int × List Int)) × List Int × List Int × Bool × Unit) × (Unit × Unit × Unit × Bool × Unit) × List Int × Int × Int × Unit
def B_s_stepMark_J2 (k : Nat) (c_s_markAt : C_s_markAt) (c_s_copyInts : C_s_copyInts) (c_s_drop : C_s_drop) (c_s_top : C_s_top) (c_s_push : C_s_push) (c_s_kindOf : C_s_kindOf) (c_s_goodKeys : C_s_goodKeys) (c_s_putItem : C_s_putItem) (m_Nodes : List (Int × Int × List Int)) (m_Stack m_Memo : List Int) (m_Done t4_Done : Bool) : R_s_stepMark :=
  some (((m_Nodes, m_Stack, m_Memo, m_Done, ()), true, ()), ())
def B_s_stepMark_L1b (k : Nat) (c_s_markAt : C_s_markAt) (c_s_copyInts : C_s_copyInts) (c_s_drop : C_s_drop) (c_s_top : C_s_top) (c_s_push : C_s_push) (c_s_kindOf : C_s_kindOf) (c_s_goodKeys : C_s_goodKeys) (c_s_putItem : C_s_putItem) (again1 : T_s_stepMark_L1 → R_s_stepMark) (m_Nodes : List (Int × Int × List Int)) (m_Stack m_Memo : List Int) (m_Done t4_Done : Bool) (list : List Int) (below i : Int) : R_s_stepMark :=
  bif decide (i < (len list)) then
    chk (inb i list.length) <|
    chk (decide (i.toNat < list.length)) <|
    chk (inb (w64 (i + 1)) list.length) <|
    chk (decide ((w64 (i + 1)).toNat < list.length)) <|
    (c_s_putItem m_Nodes m_Stack m_Memo m_Done below (list.getD i.toNat (0 : Int)) (list.getD ((w64 (i + 1)).toNat) (0 : Int))).bind fun r86 =>
    again1 ((r86.1.1.1, r86.1.1.2.1, r86.1.1.2.2.1, r86.1.1.2.2.2.1, ()), ((), (), (), t4_Done, ()), list, below, w64 (i + 2), ())
  else
    jn (fun t => B_s_stepMark_J2 k c_s_markAt c_s_copyInts c_s_drop c_s_top c_s_push c_s_kindOf c_s_goodKeys c_s_putItem t.1.1 t.1.2.1 t.1.2.2.1 t.1.2.2.2.1 t.2.1.2.2.2.1) ((m_Nodes, m_Stack, m_Memo, m_Done, ()), ((), (), (), t4_Done, ()), ())
def B_s_stepMark_L1 (k : Nat) (c_s_markAt : C_s_markAt) (c_s_copyInts : C_s_copyInts) (c_s_drop : C_s_drop) (c_s_top : C_s_top) (c_s_push : C_s_push) (c_s_kindOf : C_s_kindOf) (c_s_goodKeys : C_s_goodKeys) (c_s_putItem : C_s_putItem) (n : Nat) (t : T_s_stepMark_L1) : R_s_stepMark :=
  lfix n (fun again t => B_s_stepMark_L1b k c_s_markAt c_s_copyInts c_s_drop c_s_top c_s_push c_s_kindOf c_s_goodKeys c_s_putItem again t.1.1 t.1.2.1 t.1.2.2.1 t.1.2.2.2.1 t.2.1.2.2.2.1 t.2.2.1 t.2.2.2.1 t.2.2.2.2.1) t
def B_s_stepMark_J0 (k : Nat) (c_s_markAt : C_s_markAt) (c_s_copyInts : C_s_copyInts) (c_s_drop : C_s_drop) (c_s_top : C_s_top) (c_s_push : C_s_push) (c_s_kindOf : C_s_kindOf) (c_s_goodKeys : C_s_goodKeys) (c_s_putItem : C_s_putItem) (m_Nodes : List (Int × Int × List Int)) (m_Stack m_Memo : List Int) (m_Done t4_Done : Bool) (list : List Int) (below : Int) (t67 : Bool) : R_s_stepMark :=
  bif t67 then
    some (((m_Nodes, m_Stack, m_Memo, m_Done, ()), false, ()), ())
  else
    B_s_stepMark_L1 k c_s_markAt c_s_copyInts c_s_drop c_s_top c_s_push c_s_kindOf c_s_goodKeys c_s_putItem k ((m_Nodes, m_Stack, m_Memo, m_Done, ()), ((), (), (), t4_Done, ()), list, below, 0, ())
def B_s_stepMark (k : Nat) (c_s_markAt : C_s_markAt) (c_s_copyInts : C_s_copyInts) (c_s_drop : C_s_drop) (c_s_top : C_s_top) (c_s_push : C_s_push) (c_s_kindOf : C_s_kindOf) (c_s_goodKeys : C_s_goodKeys) (c_s_putItem : C_s_putItem) (m_0 : List (Int × Int × List Int)) (m_1 m_2 : List Int) (m_3 : Bool) (o_0 o_1 : Int) : R_s_stepMark :=
  (c_s_markAt m_0 m_1 m_2 m_3).bind fun r11 =>
  bif decide (r11.1.1 < 0) then
    some (((m_0, m_1, m_2, m_3, ()), false, ()), ())
  else
    chk (cutb (w64 (r11.1.1 + 1)) (len m_1) m_1.length) <|
    (c_s_copyInts ((m_1.take ((len m_1).toNat)).drop ((w64 (r11.1.1 + 1)).toNat))).bind fun r20 =>
    (c_s_drop m_0 m_1 m_2 m_3 (w64 ((len r20.1.1) + 1))).bind fun r25 =>
    (c_s_top r25.1.1.1 r25.1.1.2.1 r25.1.1.2.2.1 r25.1.1.2.2.2.1 0).bind fun r27 =>
    bif (o_0 == 3) then
      (c_s_push r25.1.1.1 r25.1.1.2.1 r25.1.1.2.2.1 r25.1.1.2.2.2.1 2 0 r20.1.1).bind fun r35 =>
      some (((r35.1.1.1, r35.1.1.2.1, r35.1.1.2.2.1, r35.1.1.2.2.2.1, ()), true, ()), ())
    else
      bif (o_0 == 9) then
        (c_s_kindOf r25.1.1.1 r25.1.1.2.1 r25.1.1.2.2.1 r25.1.1.2.2.2.1 r27.1.1).bind fun r40 =>
        bif (r40.1.1 != 3) then
          some (((r25.1.1.1, r25.1.1.2.1, r25.1.1.2.2.1, r25.1.1.2.2.2.1, ()), false, ()), ())
        else
          chk (inb r27.1.1 r25.1.1.1.length) <|
          chk (decide (r27.1.1.toNat < r25.1.1.1.length)) <|
          chk (room (((r25.1.1.1.getD r27.1.1.toNat ((0 : Int), ((0 : Int), ([] : List Int)))).2).2).length r20.1.1.length) <|
          chk (inb r27.1.1 r25.1.1.1.length) <|
          chk (decide (r27.1.1.toNat = r27.1.1.toNat)) <|
          let w1 : List (Int × Int × List Int) := (r25.1.1.1.set r27.1.1.toNat ((r25.1.1.1.getD r27.1.1.toNat ((0 : Int), ((0 : Int), ([] : List Int)))).1, (((r25.1.1.1.getD r27.1.1.toNat ((0 : Int), ((0 : Int), ([] : List Int)))).2).1, (((r25.1.1.1.getD r27.1.1.toNat ((0 : Int), ((0 : Int), ([] : List Int)))).2).2 ++ r20.1.1))))
          jn (fun t => B_s_stepMark_J2 k c_s_markAt c_s_copyInts c_s_drop c_s_top c_s_push c_s_kindOf c_s_goodKeys c_s_putItem t.1.1 t.1.2.1 t.1.2.2.1 t.1.2.2.2.1 t.2.1.2.2.2.1) ((w1, r25.1.1.2.1, r25.1.1.2.2.1, r25.1.1.2.2.2.1, ()), ((), (), (), false, ()), ())
      else
        bif (o_0 == 12) then
          (c_s_kindOf r25.1.1.1 r25.1.1.2.1 r25.1.1.2.2.1 r25.1.1.2.2.2.1 r27.1.1).bind fun r60 =>
          bif (r60.1.1 != 4) then
            jn (fun t => B_s_stepMark_J0 k c_s_markAt c_s_copyInts c_s_drop c_s_top c_s_push c_s_kindOf c_s_goodKeys c_s_putItem t.1.1 t.1.2.1 t.1.2.2.1 t.1.2.2.2.1 t.2.1.2.2.2.1 t.2.2.1 t.2.2.2.1 t.2.2.2.2.1) ((r25.1.1.1, r25.1.1.2.1, r25.1.1.2.2.1, r25.1.1.2.2.2.1, ()), ((), (), (), false, ()), r20.1.1, r27.1.1, true, ())
          else
            (c_s_goodKeys r25.1.1.1 r25.1.1.2.1 r25.1.1.2.2.1 r25.1.1.2.2.2.1 r20.1.1).bind fun r65 =>
            jn (fun t => B_s_stepMark_J0 k c_s_markAt c_s_copyInts c_s_drop c_s_top c_s_push c_s_kindOf c_s_goodKeys c_s_putItem t.1.1 t.1.2.1 t.1.2.2.1 t.1.2.2.2.1 t.2.1.2.2.2.1 t.2.2.1 t.2.2.2.1 t.2.2.2.2.1) ((r25.1.1.1, r25.1.1.2.1, r25.1.1.2.2.1, r25.1.1.2.2.2.1, ()), ((), (), (), false, ()), r20.1.1, r27.1.1, (!r65.1.1), ())
        else
          jn (fun t => B_s_stepMark_J2 k c_s_markAt c_s_copyInts c_s_drop c_s_top c_s_push c_s_kindOf c_s_goodKeys c_s_putItem t.1.1 t.1.2.1 t.1.2.2.1 t.1.2.2.2.1 t.2.1.2.2.2.1) ((r25.1.1.1, r25.1.1.2.1, r25.1.1.2.2.1, r25.1.1.2.2.2.1, ()), ((), (), (), false, ()), ())
def F_s_stepMark : Nat → C_s_stepMark
  | 0, _, _, _, _, _, _ => none
  | k + 1, m_0, m_1, m_2, m_3, o_0, o_1 => B_s_stepMark k (F_s_markAt k) (F_s_copyInts k) (F_s_drop k) (F_s_top k) (F_s_push k) (F_s_kindOf k) (F_s_goodKeys k) (F_s_putItem k) m_0 m_1 m_2 m_3 o_0 o_1
theorem tot_s_stepMark {m_0 m_1 m_2 m_3 o_0 o_1 : _} {Q : _ → Prop} (h : Tot (fun σ => B_s_stepMark (σ 0) (F_s_markAt (σ 0)) (F_s_copyInts (σ 0)) (F_s_drop (σ 0)) (F_s_top (σ 0)) (F_s_push (σ 0)) (F_s_kindOf (σ 0)) (F_s_goodKeys (σ 0)) (F_s_putItem (σ 0)) m_0 m_1 m_2 m_3 o_0 o_1) Q) : Tot (fun σ => F_s_stepMark (σ 0) m_0 m_1 m_2 m_3 o_0 o_1) Q :=
  Tot.call (F := fun k => F_s_stepMark k m_0 m_1 m_2 m_3 o_0 o_1) (B := fun k => B_s_stepMark k (F_s_markAt k) (F_s_copyInts k) (F_s_drop k) (F_s_top k) (F_s_push k) (F_s_kindOf k) (F_s_goodKeys k) (F_s_putItem k) m_0 m_1 m_2 m_3 o_0 o_1) (fun k => rfl) h
abbrev A_s_stepMark_L1 (Z : Type) : Type := (List (Int × Int × List Int)) → List Int → List Int → Bool → Bool → List Int → Int → Int → Z
abbrev u_s_stepMark_L1 {Z : Type} (f : A_s_stepMark_L1 Z) (t : T_s_stepMark_L1) : Z := f t.1.1 t.1.2.1 t.1.2.2.1 t.1.2.2.2.1 t.2.1.2.2.2.1 t.2.2.1 t.2.2.2.1 t.2.2.2.2.1
theorem loop_s_stepMark_L1 {Q : A_s_stepMark_L1 (((((List (Int × Int × List Int)) × List Int × List Int × Bool × Unit) × Bool × Unit) × (Unit)) → Prop)} (I : A_s_stepMark_L1 Prop) (μ : A_s_stepMark_L1 Nat)
    (step : ∀ a0 a1 a2 a3 a4 a5 a6 a7, I a0 a1 a2 a3 a4 a5 a6 a7 → ∀ again : (Nat → Nat) → T_s_stepMark_L1 → R_s_stepMark, Dep 2 again → (∀ y0 y1 y2 y3 y4 y5 y6 y7, I y0 y1 y2 y3 y4 y5 y6 y7 → μ y0 y1 y2 y3 y4 y5 y6 y7 < μ a0 a1 a2 a3 a4 a5 a6 a7 → Tot (fun σ => again σ ((y0, y1, y2, y3, ()), ((), (), (), y4, ()), y5, y6, y7, ())) (Q y0 y1 y2 y3 y4 y5 y6 y7)) →
      Tot (fun σ => B_s_stepMark_L1b (σ 0) (F_s_markAt (σ 0)) (F_s_copyInts (σ 0)) (F_s_drop (σ 0)) (F_s_top (σ 0)) (F_s_push (σ 0)) (F_s_kindOf (σ 0)) (F_s_goodKeys (σ 0)) (F_s_putItem (σ 0)) (again σ) a0 a1 a2 a3 a4 a5 a6 a7) (Q a0 a1 a2 a3 a4 a5 a6 a7)) :
    ∀ a0 a1 a2 a3 a4 a5 a6 a7, I a0 a1 a2 a3 a4 a5 a6 a7 → Tot (fun σ => B_s_stepMark_L1 (σ 0) (F_s_markAt (σ 0)) (F_s_copyInts (σ 0)) (F_s_drop (σ 0)) (F_s_top (σ 0)) (F_s_push (σ 0)) (F_s_kindOf (σ 0)) (F_s_goodKeys (σ 0)) (F_s_putItem (σ 0)) (σ 0) ((a0, a1, a2, a3, ()), ((), (), (), a4, ()), a5, a6, a7, ())) (Q a0 a1 a2 a3 a4 a5 a6 a7) := fun a0 a1 a2 a3 a4 a5 a6 a7 => Tot.loop0 (L := fun k => B_s_stepMark_L1 k (F_s_markAt k) (F_s_copyInts k) (F_s_drop k) (F_s_top k) (F_s_push k) (F_s_kindOf k) (F_s_goodKeys k) (F_s_putItem k)) (B := fun k g => u_s_stepMark_L1 (B_s_stepMark_L1b k (F_s_markAt k) (F_s_copyInts k) (F_s_drop k) (F_s_top k) (F_s_push k) (F_s_kindOf k) (F_s_goodKeys k) (F_s_putItem k) g)) (Q := u_s_stepMark_L1 Q) (fun _ _ _ => rfl) (u_s_stepMark_L1 I) (u_s_stepMark_L1 μ)
    (fun t ht again hag h => step t.1.1 t.1.2.1 t.1.2.2.1 t.1.2.2.2.1 t.2.1.2.2.2.1 t.2.2.1 t.2.2.2.1 t.2.2.2.2.1 ht again hag fun y0 y1 y2 y3 y4 y5 y6 y7 => h ((y0, y1, y2, y3, ()), ((), (), (), y4, ()), y5, y6, y7, ())) ((a0, a1, a2, a3, ()), ((), (), (), a4, ()), a5, a6, a7, ())
abbrev R_s_stepTop : Type := Option ((((List (Int × Int × List Int)) × List Int × List Int × Bool × Unit) × Bool × Unit) × (Unit))
abbrev C_s_stepTop : Type := (List (Int × Int × List Int)) → List Int → List Int → Bool → Int → Int → R_s_stepTop
def B_s_stepTop_J0 (k : Nat) (c_s_top : C_s_top) (c_s_drop : C_s_drop) (c_s_push : C_s_push) (c_s_kindOf : C_s_kindOf) (c_s_isKey : C_s_isKey) (c_s_putItem : C_s_putItem) (m_Nodes : List (Int × Int × List Int)) (m_Stack m_Memo : List Int) (m_Done t4_Done : Bool) (a b c : Int) (t81 : Bool) : R_s_stepTop :=
  bif t81 then
    some (((m_Nodes, m_Stack, m_Memo, m_Done, ()), false, ()), ())
  else
    (c_s_putItem m_Nodes m_Stack m_Memo m_Done c b a).bind fun r87 =>
    (c_s_drop r87.1.1.1 r87.1.1.2.1 r87.1.1.2.2.1 r87.1.1.2.2.2.1 2).bind fun r88 =>
    some (((r88.1.1.1, r88.1.1.2.1, r88.1.1.2.2.1, r88.1.1.2.2.2.1, ()), true, ()), ())
def B_s_stepTop_J1 (k : Nat) (c_s_top : C_s_top) (c_s_drop : C_s_drop) (c_s_push : C_s_push) (c_s_kindOf : C_s_kindOf) (c_s_isKey : C_s_isKey) (c_s_putItem : C_s_putItem) (m_Nodes : List (Int × Int × List Int)) (m_Stack m_Memo : List Int) (m_Done t4_Done : Bool) (a b : Int) (t104 : Bool) : R_s_stepTop :=
  bif t104 then
    some (((m_Nodes, m_Stack, m_Memo, m_Done, ()), false, ()), ())
  else
    chk (inb b m_Nodes.length) <|
    chk (decide (b.toNat < m_Nodes.length)) <|
    (c_s_drop (m_Nodes.set b.toNat ((m_Nodes.getD b.toNat ((0 : Int), ((0 : Int), ([] : List Int)))).1, (((m_Nodes.getD b.toNat ((0 : Int), ((0 : Int), ([] : List Int)))).2).1, [a]))) m_Stack m_Memo m_Done 1).bind fun r114 =>
    some (((r114.1.1.1, r114.1.1.2.1, r114.1.1.2.2.1, r114.1.1.2.2.2.1, ()), true, ()), ())
def B_s_stepTop (k : Nat) (c_s_top : C_s_top) (c_s_drop : C_s_drop) (c_s_push : C_s_push) (c_s_kindOf : C_s_kindOf) (c_s_isKey : C_s_isKey) (c_s_putItem : C_s_putItem) (m_0 : List (Int × Int × List Int)) (m_1 m_2 : List Int) (m_3 : Bool) (o_0 o_1 : Int) : R_s_stepTop :=
  (c_s_top m_0 m_1 m_2 m_3 0).bind fun r10 =>
  (c_s_top m_0 m_1 m_2 m_3 1).bind fun r12 =>
  (c_s_top m_0 m_1 m_2 m_3 2).bind fun r14 =>
  bif decide (r10.1.1 < 0) then
    some (((m_0, m_1, m_2, m_3, ()), false, ()), ())
  else
    bif (o_0 == 5) then
      (c_s_drop m_0 m_1 m_2 m_3 1).bind fun r23 =>
      (c_s_push r23.1.1.1 r23.1.1.2.1 r23.1.1.2.2.1 r23.1.1.2.2.2.1 2 0 ([r10.1.1])).bind fun r27 =>
      some (((r27.1.1.1, r27.1.1.2.1, r27.1.1.2.2.1, r27.1.1.2.2.2.1, ()), true, ()), ())
    else
      bif (o_0 == 6) then
        bif decide (r12.1.1 < 0) then
          some (((m_0, m_1, m_2, m_3, ()), false, ()), ())
        else
          (c_s_drop m_0 m_1 m_2 m_3 2).bind fun r34 =>
          (c_s_push r34.1.1.1 r34.1.1.2.1 r34.1.1.2.2.1 r34.1.1.2.2.2.1 2 0 ([r12.1.1, r10.1.1])).bind fun r39 =>
          some (((r39.1.1.1, r39.1.1.2.1, r39.1.1.2.2.1, r39.1.1.2.2.2.1, ()), true, ()), ())
      else
        bif (o_0 == 8) then
          (c_s_kindOf m_0 m_1 m_2 m_3 r12.1.1).bind fun r44 =>
          bif (r44.1.1 != 3) then
            some (((m_0, m_1, m_2, m_3, ()), false, ()), ())
          else
            chk (inb r12.1.1 m_0.length) <|
            chk (decide (r12.1.1.toNat < m_0.length)) <|
            chk (room (((m_0.getD r12.1.1.toNat ((0 : Int), ((0 : Int), ([] : List Int)))).2).2).length ([r10.1.1]).length) <|
            chk (inb r12.1.1 m_0.length) <|
            chk (decide (r12.1.1.toNat = r12.1.1.toNat)) <|
            let w0 : List (Int × Int × List Int) := (m_0.set r12.1.1.toNat ((m_0.getD r12.1.1.toNat ((0 : Int), ((0 : Int), ([] : List Int)))).1, (((m_0.getD r12.1.1.toNat ((0 : Int), ((0 : Int), ([] : List Int)))).2).1, (((m_0.getD r12.1.1.toNat ((0 : Int), ((0 : Int), ([] : List Int)))).2).2 ++ [r10.1.1]))))
            (c_s_drop w0 m_1 m_2 m_3 1).bind fun r62 =>
            some (((r62.1.1.1, r62.1.1.2.1, r62.1.1.2.2.1, r62.1.1.2.2.2.1, ()), true, ()), ())
        else
          bif (o_0 == 11) then
            bif decide (r12.1.1 < 0) then
              jn (fun t => B_s_stepTop_J0 k c_s_top c_s_drop c_s_push c_s_kindOf c_s_isKey c_s_putItem t.1.1 t.1.2.1 t.1.2.2.1 t.1.2.2.2.1 t.2.1.2.2.2.1 t.2.2.1 t.2.2.2.1 t.2.2.2.2.1 t.2.2.2.2.2.1) ((m_0, m_1, m_2, m_3, ()), ((), (), (), false, ()), r10.1.1, r12.1.1, r14.1.1, true, ())
            else
              (c_s_kindOf m_0 m_1 m_2 m_3 r14.1.1).bind fun r70 =>
              bif (r70.1.1 != 4) then
                jn (fun t => B_s_stepTop_J0 k c_s_top c_s_drop c_s_push c_s_kindOf c_s_isKey c_s_putItem t.1.1 t.1.2.1 t.1.2.2.1 t.1.2.2.2.1 t.2.1.2.2.2.1 t.2.2.1 t.2.2.2.1 t.2.2.2.2.1 t.2.2.2.2.2.1) ((m_0, m_1, m_2, m_3, ()), ((), (), (), false, ()), r10.1.1, r12.1.1, r14.1.1, true, ())
              else
                chk (inb r12.1.1 m_0.length) <|
                chk (decide (r12.1.1.toNat < m_0.length)) <|
                (c_s_isKey ((m_0.getD r12.1.1.toNat ((0 : Int), ((0 : Int), ([] : List Int)))).1) (((m_0.getD r12.1.1.toNat ((0 : Int), ((0 : Int), ([] : List Int)))).2).1)).bind fun r79 =>
                jn (fun t => B_s_stepTop_J0 k c_s_top c_s_drop c_s_push c_s_kindOf c_s_isKey c_s_putItem t.1.1 t.1.2.1 t.1.2.2.1 t.1.2.2.2.1 t.2.1.2.2.2.1 t.2.2.1 t.2.2.2.1 t.2.2.2.2.1 t.2.2.2.2.2.1) ((m_0, m_1, m_2, m_3, ()), ((), (), (), false, ()), r10.1.1, r12.1.1, r14.1.1, (!r79.1.1), ())
          else
            bif (o_0 == 14) then
              (c_s_kindOf m_0 m_1 m_2 m_3 r12.1.1).bind fun r93 =>
              bif (r93.1.1 != 5) then
                jn (fun t => B_s_stepTop_J1 k c_s_top c_s_drop c_s_push c_s_kindOf c_s_isKey c_s_putItem t.1.1 t.1.2.1 t.1.2.2.1 t.1.2.2.2.1 t.2.1.2.2.2.1 t.2.2.1 t.2.2.2.1 t.2.2.2.2.1) ((m_0, m_1, m_2, m_3, ()), ((), (), (), false, ()), r10.1.1, r12.1.1, true, ())
              else
                chk (inb r12.1.1 m_0.length) <|
                chk (decide (r12.1.1.toNat < m_0.length)) <|
                let v103 : Bool := decide ((len (((m_0.getD r12.1.1.toNat ((0 : Int), ((0 : Int), ([] : List Int)))).2).2)) > 0)
                let w2 : List (Int × Int × List Int) := (m_0.set r12.1.1.toNat ((m_0.getD r12.1.1.toNat ((0 : Int), ((0 : Int), ([] : List Int)))).1, (((m_0.getD r12.1.1.toNat ((0 : Int), ((0 : Int), ([] : List Int)))).2).1, ((m_0.getD r12.1.1.toNat ((0 : Int), ((0 : Int), ([] : List Int)))).2).2)))
                jn (fun t => B_s_stepTop_J1 k c_s_top c_s_drop c_s_push c_s_kindOf c_s_isKey c_s_putItem t.1.1 t.1.2.1 t.1.2.2.1 t.1.2.2.2.1 t.2.1.2.2.2.1 t.2.2.1 t.2.2.2.1 t.2.2.2.2.1) ((w2, m_1, m_2, m_3, ()), ((), (), (), false, ()), r10.1.1, r12.1.1, v103, ())
            else
              bif (o_0 == 15) then
                chk (inb o_1 m_2.length) <|
                chk (decide (o_1.toNat < m_2.length)) <|
                some (((m_0, m_1, (m_2.set o_1.toNat r10.1.1), m_3, ()), true, ()), ())
              else
                bif (o_0 == 17) then
                  (c_s_drop m_0 m_1 m_2 m_3 1).bind fun r127 =>
                  some (((r127.1.1.1, r127.1.1.2.1, r127.1.1.2.2.1, r127.1.1.2.2.2.1, ()), true, ()), ())
                else
                  some (((m_0, m_1, m_2, true, ()), ((len m_1) == 1), ()), ())
def F_s_stepTop : Nat → C_s_stepTop
  | 0, _, _, _, _, _, _ => none
  | k + 1, m_0, m_1, m_2, m_3, o_0, o_1 => B_s_stepTop k (F_s_top k) (F_s_drop k) (F_s_push k) (F_s_kindOf k) (F_s_isKey k) (F_s_putItem k) m_0 m_1 m_2 m_3 o_0 o_1
theorem tot_s_stepTop {m_0 m_1 m_2 m_3 o_0 o_1 : _} {Q : _ → Prop} (h : Tot (fun σ => B_s_stepTop (σ 0) (F_s_top (σ 0)) (F_s_drop (σ 0)) (F_s_push (σ 0)) (F_s_kindOf (σ 0)) (F_s_isKey (σ 0)) (F_s_putItem (σ 0)) m_0 m_1 m_2 m_3 o_0 o_1) Q) : Tot (fun σ => F_s_stepTop (σ 0) m_0 m_1 m_2 m_3 o_0 o_1) Q :=
  Tot.call (F := fun k => F_s_stepTop k m_0 m_1 m_2 m_3 o_0 o_1) (B := fun k => B_s_stepTop k (F_s_top k) (F_s_drop k) (F_s_push k) (F_s_kindOf k) (F_s_isKey k) (F_s_putItem k) m_0 m_1 m_2 m_3 o_0 o_1) (fun k => rfl) h
abbrev R_s_step : Type := Option ((((Option (List (Int × Int × List Int))) × Option (List Int) × Option (List Int) × Bool × Unit) × Bool × Unit) × (Unit))
abbrev C_s_step : Type := (List (Int × Int × List Int)) → List Int → List Int → Bool → Int → Int → R_s_step
def B_s_step_J1 (k : Nat) (c_s_push : C_s_push) (c_s_stepMark : C_s_stepMark) (c_s_stepTop : C_s_stepTop) (m_Nodes : List (Int × Int × List Int)) (m_Stack m_Memo : List Int) (m_Done t4_Done : Bool) : R_s_step :=
  bif decide ((len m_Nodes) ≤ 300) then
    some ((((some m_Nodes), (some m_Stack), (some m_Memo), m_Done, ()), decide ((len m_Stack) ≤ 300), ()), ())
  else
    some ((((some m_Nodes), (some m_Stack), (some m_Memo), m_Done, ()), false, ()), ())
def B_s_step_J0 (k : Nat) (c_s_push : C_s_push) (c_s_stepMark : C_s_stepMark) (c_s_stepTop : C_s_stepTop) (m_Nodes : List (Int × Int × List Int)) (m_Stack m_Memo : List Int) (m_Done : Bool) (o_Code o_Arg : Int) (t4_Done t89 : Bool) : R_s_step :=
  bif t89 then
    (c_s_stepMark m_Nodes m_Stack m_Memo m_Done o_Code o_Arg).bind fun r97 =>
    bif (!r97.1.2.1) then
      some (((none, none, none, m_Done, ()), false, ()), ())
    else
      jn (fun t => B_s_step_J1 k c_s_push c_s_stepMark c_s_stepTop t.1.1 t.1.2.1 t.1.2.2.1 t.1.2.2.2.1 t.2.1.2.2.2.1) ((r97.1.1.1, r97.1.1.2.1, r97.1.1.2.2.1, r97.1.1.2.2.2.1, ()), ((), (), (), t4_Done, ()), ())
  else
    (c_s_stepTop m_Nodes m_Stack m_Memo m_Done o_Code o_Arg).bind fun r18 =>
    bif (!r18.1.2.1) then
      some (((none, none, none, m_Done, ()), false, ()), ())
    else
      jn (fun t => B_s_step_J1 k c_s_push c_s_stepMark c_s_stepTop t.1.1 t.1.2.1 t.1.2.2.1 t.1.2.2.2.1 t.2.1.2.2.2.1) ((r18.1.1.1, r18.1.1.2.1, r18.1.1.2.2.1, r18.1.1.2.2.2.1, ()), ((), (), (), t4_Done, ()), ())
def B_s_step (k : Nat) (c_s_push : C_s_push) (c_s_stepMark : C_s_stepMark) (c_s_stepTop : C_s_stepTop) (m_0 : List (Int × Int × List Int)) (m_1 m_2 : List Int) (m_3 : Bool) (o_0 o_1 : Int) : R_s_step :=
  bif m_3 then
    some ((((some m_0), (some m_1), (some m_2), m_3, ()), false, ()), ())
  else
    bif (o_0 == 0) then
      (c_s_push m_0 m_1 m_2 m_3 0 o_1 ([])).bind fun r31 =>
      jn (fun t => B_s_step_J1 k c_s_push c_s_stepMark c_s_stepTop t.1.1 t.1.2.1 t.1.2.2.1 t.1.2.2.2.1 t.2.1.2.2.2.1) ((r31.1.1.1, r31.1.1.2.1, r31.1.1.2.2.1, r31.1.1.2.2.2.1, ()), ((), (), (), false, ()), ())
    else
      bif (o_0 == 1) then
        (c_s_push m_0 m_1 m_2 m_3 1 o_1 ([])).bind fun r38 =>
        jn (fun t => B_s_step_J1 k c_s_push c_s_stepMark c_s_stepTop t.1.1 t.1.2.1 t.1.2.2.1 t.1.2.2.2.1 t.2.1.2.2.2.1) ((r38.1.1.1, r38.1.1.2.1, r38.1.1.2.2.1, r38.1.1.2.2.2.1, ()), ((), (), (), false, ()), ())
      else
        bif (o_0 == 4) then
          (c_s_push m_0 m_1 m_2 m_3 2 0 ([])).bind fun r43 =>
          jn (fun t => B_s_step_J1 k c_s_push c_s_stepMark c_s_stepTop t.1.1 t.1.2.1 t.1.2.2.1 t.1.2.2.2.1 t.2.1.2.2.2.1) ((r43.1.1.1, r43.1.1.2.1, r43.1.1.2.2.1, r43.1.1.2.2.2.1, ()), ((), (), (), false, ()), ())
        else
          bif (o_0 == 7) then
            (c_s_push m_0 m_1 m_2 m_3 3 0 ([])).bind fun r48 =>
            jn (fun t => B_s_step_J1 k c_s_push c_s_stepMark c_s_stepTop t.1.1 t.1.2.1 t.1.2.2.1 t.1.2.2.2.1 t.2.1.2.2.2.1) ((r48.1.1.1, r48.1.1.2.1, r48.1.1.2.2.1, r48.1.1.2.2.2.1, ()), ((), (), (), false, ()), ())
          else
            bif (o_0 == 10) then
              (c_s_push m_0 m_1 m_2 m_3 4 0 ([])).bind fun r53 =>
              jn (fun t => B_s_step_J1 k c_s_push c_s_stepMark c_s_stepTop t.1.1 t.1.2.1 t.1.2.2.1 t.1.2.2.2.1 t.2.1.2.2.2.1) ((r53.1.1.1, r53.1.1.2.1, r53.1.1.2.2.1, r53.1.1.2.2.2.1, ()), ((), (), (), false, ()), ())
            else
              bif (o_0 == 13) then
                (c_s_push m_0 m_1 m_2 m_3 5 o_1 ([])).bind fun r60 =>
                jn (fun t => B_s_step_J1 k c_s_push c_s_stepMark c_s_stepTop t.1.1 t.1.2.1 t.1.2.2.1 t.1.2.2.2.1 t.2.1.2.2.2.1) ((r60.1.1.1, r60.1.1.2.1, r60.1.1.2.2.1, r60.1.1.2.2.2.1, ()), ((), (), (), false, ()), ())
              else
                bif (o_0 == 2) then
                  chk (room m_1.length ([(-1)]).length) <|
                  jn (fun t => B_s_step_J1 k c_s_push c_s_stepMark c_s_stepTop t.1.1 t.1.2.1 t.1.2.2.1 t.1.2.2.2.1 t.2.1.2.2.2.1) ((m_0, (m_1 ++ [(-1)]), m_2, m_3, ()), ((), (), (), false, ()), ())
                else
                  bif (o_0 == 16) then
                    chk (inb o_1 m_2.length) <|
                    chk (decide (o_1.toNat < m_2.length)) <|
                    bif decide ((m_2.getD o_1.toNat (0 : Int)) < 0) then
                      some ((((some m_0), (some m_1), (some m_2), m_3, ()), false, ()), ())
                    else
                      chk (inb o_1 m_2.length) <|
                      chk (decide (o_1.toNat < m_2.length)) <|
                      chk (room m_1.length ([(m_2.getD o_1.toNat (0 : Int))]).length) <|
                      jn (fun t => B_s_step_J1 k c_s_push c_s_stepMark c_s_stepTop t.1.1 t.1.2.1 t.1.2.2.1 t.1.2.2.2.1 t.2.1.2.2.2.1) ((m_0, (m_1 ++ [(m_2.getD o_1.toNat (0 : Int))]), m_2, m_3, ()), ((), (), (), false, ()), ())
                  else
                    bif (o_0 == 3) then
                      jn (fun t => B_s_step_J0 k c_s_push c_s_stepMark c_s_stepTop t.1.1 t.1.2.1 t.1.2.2.1 t.1.2.2.2.1 t.2.1.1 t.2.1.2.1 t.2.2.1.2.2.2.1 t.2.2.2.1) ((m_0, m_1, m_2, m_3, ()), (o_0, o_1, ()), ((), (), (), false, ()), (o_0 == 3), ())
                    else
                      bif (o_0 == 9) then
                        jn (fun t => B_s_step_J0 k c_s_push c_s_stepMark c_s_stepTop t.1.1 t.1.2.1 t.1.2.2.1 t.1.2.2.2.1 t.2.1.1 t.2.1.2.1 t.2.2.1.2.2.2.1 t.2.2.2.1) ((m_0, m_1, m_2, m_3, ()), (o_0, o_1, ()), ((), (), (), false, ()), (o_0 == 9), ())
                      else
                        bif (o_0 == 12) then
                          jn (fun t => B_s_step_J0 k c_s_push c_s_stepMark c_s_stepTop t.1.1 t.1.2.1 t.1.2.2.1 t.1.2.2.2.1 t.2.1.1 t.2.1.2.1 t.2.2.1.2.2.2.1 t.2.2.2.1) ((m_0, m_1, m_2, m_3, ()), (o_0, o_1, ()), ((), (), (), false, ()), (o_0 == 12), ())
                        else
                          jn (fun t => B_s_step_J0 k c_s_push c_s_stepMark c_s_stepTop t.1.1 t.1.2.1 t.1.2.2.1 t.1.2.2.2.1 t.2.1.1 t.2.1.2.1 t.2.2.1.2.2.2.1 t.2.2.2.1) ((m_0, m_1, m_2, m_3, ()), (o_0, o_1, ()), ((), (), (), false, ()), (o_0 == 18), ())
def F_s_step : Nat → C_s_step
  | 0, _, _, _, _, _, _ => none
  | k + 1, m_0, m_1, m_2, m_3, o_0, o_1 => B_s_step k (F_s_push k) (F_s_stepMark k) (F_s_stepTop k) m_0 m_1 m_2 m_3 o_0 o_1
theorem tot_s_step {m_0 m_1 m_2 m_3 o_0 o_1 : _} {Q : _ → Prop} (h : Tot (fun σ => B_s_step (σ 0) (F_s_push (σ 0)) (F_s_stepMark (σ 0)) (F_s_stepTop (σ 0)) m_0 m_1 m_2 m_3 o_0 o_1) Q) : Tot (fun σ => F_s_step (σ 0) m_0 m_1 m_2 m_3 o_0 o_1) Q :=
  Tot.call (F := fun k => F_s_step k m_0 m_1 m_2 m_3 o_0 o_1) (B := fun k => B_s_step k (F_s_push k) (F_s_stepMark k) (F_s_stepTop k) m_0 m_1 m_2 m_3 o_0 o_1) (fun k => rfl) h
abbrev R_s_run : Type := Option ((((List (Int × Int × List Int)) × List Int × List Int × Bool × Unit) × Int × Unit) × (Unit))
abbrev C_s_run : Type := (List (Int × Int × List Int)) → List Int → List Int → Bool → (List (Int × Int)) → R_s_run
abbrev T_s_run_L0 : Type := (List (Int × Int)) × ((List (Int × Int × List Int)) × List Int × List Int × Bool × Unit) × (Unit × Unit × Unit × Bool × Unit) × Int × Unit
def B_s_run_L0b (k : Nat) (c_s_copyMachine : C_s_copyMachine) (c_s_step : C_s_step) (again0 : T_s_run_L0 → R_s_run) (ops : List (Int × Int)) (m_Nodes : List (Int × Int × List Int)) (m_Stack m_Memo : List Int) (m_Done t4_Done : Bool) (i : Int) : R_s_run :=
  bif decide (i < (len ops)) then
    (c_s_copyMachine m_Nodes m_Stack m_Memo m_Done).bind fun r17 =>
    chk (inb i ops.length) <|
    (c_s_step r17.1.1.1 r17.1.1.2.1 r17.1.1.2.2.1 r17.1.1.2.2.2.1 ((rdx ((0 : Int), (0 : Int)) ops i).1) ((rdx ((0 : Int), (0 : Int)) ops i).2)).bind fun r22 =>
    bif (!r22.1.2.1) then
      some (((m_Nodes, m_Stack, m_Memo, m_Done, ()), i, ()), ())
    else
      (r22.1.1.1).bind fun p3 =>
      (r22.1.1.2.1).bind fun p4 =>
      (r22.1.1.2.2.1).bind fun p5 =>
      again0 (ops, (p3, p4, p5, r22.1.1.2.2.2.1, ()), ((), (), (), t4_Done, ()), w64 (i + 1), ())
  else
    some (((m_Nodes, m_Stack, m_Memo, m_Done, ()), len ops, ()), ())
def B_s_run_L0 (k : Nat) (c_s_copyMachine : C_s_copyMachine) (c_s_step : C_s_step) (n : Nat) (t : T_s_run_L0) : R_s_run :=
  lfix n (fun again t => B_s_run_L0b k c_s_copyMachine c_s_step again t.1 t.2.1.1 t.2.1.2.1 t.2.1.2.2.1 t.2.1.2.2.2.1 t.2.2.1.2.2.2.1 t.2.2.2.1) t
def B_s_run (k : Nat) (c_s_copyMachine : C_s_copyMachine) (c_s_step : C_s_step) (m_0 : List (Int × Int × List Int)) (m_1 m_2 : List Int) (m_3 : Bool) (ops : List (Int × Int)) : R_s_run :=
  B_s_run_L0 k c_s_copyMachine c_s_step k (ops, (m_0, m_1, m_2, m_3, ()), ((), (), (), false, ()), 0, ())
def F_s_run : Nat → C_s_run
  | 0, _, _, _, _, _ => none
  | k + 1, m_0, m_1, m_2, m_3, ops => B_s_run k (F_s_copyMachine k) (F_s_step k) m_0 m_1 m_2 m_3 ops
theorem tot_s_run {m_0 m_1 m_2 m_3 ops : _} {Q : _ → Prop} (h : Tot (fun σ => B_s_run (σ 0) (F_s_copyMachine (σ 0)) (F_s_step (σ 0)) m_0 m_1 m_2 m_3 ops) Q) : Tot (fun σ => F_s_run (σ 0) m_0 m_1 m_2 m_3 ops) Q :=
  Tot.call (F := fun k => F_s_run k m_0 m_1 m_2 m_3 ops) (B := fun k => B_s_run k (F_s_copyMachine k) (F_s_step k) m_0 m_1 m_2 m_3 ops) (fun k => rfl) h
abbrev A_s_run_L0 (Z : Type) : Type := (List (Int × Int)) → (List (Int × Int × List Int)) → List Int → List Int → Bool → Bool → Int → Z
abbrev u_s_run_L0 {Z : Type} (f : A_s_run_L0 Z) (t : T_s_run_L0) : Z := f t.1 t.2.1.1 t.2.1.2.1 t.2.1.2.2.1 t.2.1.2.2.2.1 t.2.2.1.2.2.2.1 t.2.2.2.1
theorem loop_s_run_L0 {Q : A_s_run_L0 (((((List (Int × Int × List Int)) × List Int × List Int × Bool × Unit) × Int × Unit) × (Unit)) → Prop)} (I : A_s_run_L0 Prop) (μ : A_s_run_L0 Nat)
    (step : ∀ a0 a1 a2 a3 a4 a5 a6, I a0 a1 a2 a3 a4 a5 a6 → ∀ again : (Nat → Nat) → T_s_run_L0 → R_s_run, Dep 2 again → (∀ y0 y1 y2 y3 y4 y5 y6, I y0 y1 y2 y3 y4 y5 y6 → μ y0 y1 y2 y3 y4 y5 y6 < μ a0 a1 a2 a3 a4 a5 a6 → Tot (fun σ => again σ (y0, (y1, y2, y3, y4, ()), ((), (), (), y5, ()), y6, ())) (Q y0 y1 y2 y3 y4 y5 y6)) →
      Tot (fun σ => B_s_run_L0b (σ 0) (F_s_copyMachine (σ 0)) (F_s_step (σ 0)) (again σ) a0 a1 a2 a3 a4 a5 a6) (Q a0 a1 a2 a3 a4 a5 a6)) :
    ∀ a0 a1 a2 a3 a4 a5 a6, I a0 a1 a2 a3 a4 a5 a6 → Tot (fun σ => B_s_run_L0 (σ 0) (F_s_copyMachine (σ 0)) (F_s_step (σ 0)) (σ 0) (a0, (a1, a2, a3, a4, ()), ((), (), (), a5, ()), a6, ())) (Q a0 a1 a2 a3 a4 a5 a6) := fun a0 a1 a2 a3 a4 a5 a6 => Tot.loop0 (L := fun k => B_s_run_L0 k (F_s_copyMachine k) (F_s_step k)) (B := fun k g => u_s_run_L0 (B_s_run_L0b k (F_s_copyMachine k) (F_s_step k) g)) (Q := u_s_run_L0 Q) (fun _ _ _ => rfl) (u_s_run_L0 I) (u_s_run_L0 μ)
    (fun t ht again hag h => step t.1 t.2.1.1 t.2.1.2.1 t.2.1.2.2.1 t.2.1.2.2.2.1 t.2.2.1.2.2.2.1 t.2.2.2.1 ht again hag fun y0 y1 y2 y3 y4 y5 y6 => h (y0, (y1, y2, y3, y4, ()), ((), (), (), y5, ()), y6, ())) (a0, (a1, a2, a3, a4, ()), ((), (), (), a5, ()), a6, ())
abbrev R_s_RunOps : Type := Option ((((List (Int × Int × List Int)) × List Int × List Int × Bool × Unit) × Int × Unit) × (Unit))
abbrev C_s_RunOps : Type := (List (Int × Int)) → R_s_RunOps
def B_s_RunOps (k : Nat) (c_s_validOps : C_s_validOps) (c_s_newMachine : C_s_newMachine) (c_s_run : C_s_run) (ops : List (Int × Int)) : R_s_RunOps :=
  (c_s_validOps ops).bind fun r5 =>
  bif (!r5.1.1) then
    some ((([], [], [], false, ()), (-1), ()), ())
  else
    (c_s_newMachine).bind fun r8 =>
    (c_s_run ([]) ([]) r8.1.1.2.2.1 r8.1.1.2.2.2.1 ops).bind fun r10 =>
    some (((r10.1.1.1, r10.1.1.2.1, r10.1.1.2.2.1, r10.1.1.2.2.2.1, ()), r10.1.2.1, ()), ())
def F_s_RunOps : Nat → C_s_RunOps
  | 0, _ => none
  | k + 1, ops => B_s_RunOps k (F_s_validOps k) (F_s_newMachine k) (F_s_run k) ops
theorem tot_s_RunOps {ops : _} {Q : _ → Prop} (h : Tot (fun σ => B_s_RunOps (σ 0) (F_s_validOps (σ 0)) (F_s_newMachine (σ 0)) (F_s_run (σ 0)) ops) Q) : Tot (fun σ => F_s_RunOps (σ 0) ops) Q :=
  Tot.call (F := fun k => F_s_RunOps k ops) (B := fun k => B_s_RunOps k (F_s_validOps k) (F_s_newMachine k) (F_s_run k) ops) (fun k => rfl) h
abbrev R_l_equalInts : Type := Option ((Bool × Unit) × (Unit))
abbrev C_l_equalInts : Type := List Int → List Int → R_l_equalInts
abbrev T_l_equalInts_L0 : Type := List Int × List Int × Int × Unit
def B_l_equalInts_L0b (k : Nat) (again0 : T_l_equalInts_L0 → R_l_equalInts) (a b : List Int) (i : Int) : R_l_equalInts :=
  bif decide (i < (len a)) then
    chk (inb i a.length) <|
    chk (inb i b.length) <|
    bif ((rdx (0 : Int) a i) != (rdx (0 : Int) b i)) then
      some ((false, ()), ())
    else
      again0 (a, b, w64 (i + 1), ())
  else
    some ((true, ()), ())
def B_l_equalInts_L0 (k : Nat) (n : Nat) (t : T_l_equalInts_L0) : R_l_equalInts :=
  lfix n (fun again t => B_l_equalInts_L0b k again t.1 t.2.1 t.2.2.1) t
def B_l_equalInts (k : Nat) (a b : List Int) : R_l_equalInts :=
  bif ((len a) != (len b)) then
    some ((false, ()), ())
  else
    B_l_equalInts_L0 k k (a, b, 0, ())
def F_l_equalInts : Nat → C_l_equalInts
  | 0, _, _ => none
  | k + 1, a, b => B_l_equalInts k a b
theorem tot_l_equalInts {a b : _} {Q : _ → Prop} (h : Tot (fun σ => B_l_equalInts (σ 0) a b) Q) : Tot (fun σ => F_l_equalInts (σ 0) a b) Q :=
  Tot.call (F := fun k => F_l_equalInts k a b) (B := fun k => B_l_equalInts k a b) (fun k => rfl) h
abbrev A_l_equalInts_L0 (Z : Type) : Type := List Int → List Int → Int → Z
abbrev u_l_equalInts_L0 {Z : Type} (f : A_l_equalInts_L0 Z) (t : T_l_equalInts_L0) : Z := f t.1 t.2.1 t.2.2.1
theorem loop_l_equalInts_L0 {Q : A_l_equalInts_L0 (((Bool × Unit) × (Unit)) → Prop)} (I : A_l_equalInts_L0 Prop) (μ : A_l_equalInts_L0 Nat)
    (step : ∀ a0 a1 a2, I a0 a1 a2 → ∀ again : (Nat → Nat) → T_l_equalInts_L0 → R_l_equalInts, Dep 2 again → (∀ y0 y1 y2, I y0 y1 y2 → μ y0 y1 y2 < μ a0 a1 a2 → Tot (fun σ => again σ (y0, y1, y2, ())) (Q y0 y1 y2)) →
      Tot (fun σ => B_l_equalInts_L0b (σ 0) (again σ) a0 a1 a2) (Q a0 a1 a2)) :
    ∀ a0 a1 a2, I a0 a1 a2 → Tot (fun σ => B_l_equalInts_L0 (σ 0) (σ 0) (a0, a1, a2, ())) (Q a0 a1 a2) := fun a0 a1 a2 => Tot.loop0 (L := fun k => B_l_equalInts_L0 k) (B := fun k g => u_l_equalInts_L0 (B_l_equalInts_L0b k g)) (Q := u_l_equalInts_L0 Q) (fun _ _ _ => rfl) (u_l_equalInts_L0 I) (u_l_equalInts_L0 μ)
    (fun t ht again hag h => step t.1 t.2.1 t.2.2.1 ht again hag fun y0 y1 y2 => h (y0, y1, y2, ())) (a0, a1, a2, ())
abbrev R_l_equalNodes : Type := Option ((Bool × Unit) × (Unit))
abbrev C_l_equalNodes : Type := (List (Int × Int × List Int)) → (List (Int × Int × List Int)) → R_l_equalNodes
abbrev T_l_equalNodes_L1 : Type := (List (Int × Int × List Int)) × (List (Int × Int × List Int)) × Int × Unit
def B_l_equalNodes_J0 (k : Nat) (c_l_equalInts : C_l_equalInts) (again1 : T_l_equalNodes_L1 → R_l_equalNodes) (a b : List (Int × Int × List Int)) (i : Int) (t54 : Bool) : R_l_equalNodes :=
  bif t54 then
    some ((false, ()), ())
  else
    again1 (a, b, w64 (i + 1), ())
def B_l_equalNodes_L1b (k : Nat) (c_l_equalInts : C_l_equalInts) (again1 : T_l_equalNodes_L1 → R_l_equalNodes) (a b : List (Int × Int × List Int)) (i : Int) : R_l_equalNodes :=
  bif decide (i < (len a)) then
    chk (inb i a.length) <|
    chk (inb i b.length) <|
    let v27 : Bool := (((rdx ((0 : Int), ((0 : Int), ([] : List Int))) a i).1) != ((rdx ((0 : Int), ((0 : Int), ([] : List Int))) b i).1))
    bif v27 then
      jn (fun t => B_l_equalNodes_J0 k c_l_equalInts again1 t.1 t.2.1 t.2.2.1 t.2.2.2.1) (a, b, i, true, ())
    else
      chk (inb i a.length) <|
      chk (inb i b.length) <|
      let v39 : Bool := ((((rdx ((0 : Int), ((0 : Int), ([] : List Int))) a i).2).1) != (((rdx ((0 : Int), ((0 : Int), ([] : List Int))) b i).2).1))
      bif v39 then
        jn (fun t => B_l_equalNodes_J0 k c_l_equalInts again1 t.1 t.2.1 t.2.2.1 t.2.2.2.1) (a, b, i, true, ())
      else
        chk (inb i a.length) <|
        chk (inb i b.length) <|
        (c_l_equalInts (((rdx ((0 : Int), ((0 : Int), ([] : List Int))) a i).2).2) (((rdx ((0 : Int), ((0 : Int), ([] : List Int))) b i).2).2)).bind fun r52 =>
        jn (fun t => B_l_equalNodes_J0 k c_l_equalInts again1 t.1 t.2.1 t.2.2.1 t.2.2.2.1) (a, b, i, (!r52.1.1), ())
  else
    some ((true, ()), ())
def B_l_equalNodes_L1 (k : Nat) (c_l_equalInts : C_l_equalInts) (n : Nat) (t : T_l_equalNodes_L1) : R_l_equalNodes :=
  lfix n (fun again t => B_l_equalNodes_L1b k c_l_equalInts again t.1 t.2.1 t.2.2.1) t
def B_l_equalNodes (k : Nat) (c_l_equalInts : C_l_equalInts) (a b : List (Int × Int × List Int)) : R_l_equalNodes :=
  bif ((len a) != (len b)) then
    some ((false, ()), ())
  else
    B_l_equalNodes_L1 k c_l_equalInts k (a, b, 0, ())
def F_l_equalNodes : Nat → C_l_equalNodes
  | 0, _, _ => none
  | k + 1, a, b => B_l_equalNodes k (F_l_equalInts k) a b
theorem tot_l_equalNodes {a b : _} {Q : _ → Prop} (h : Tot (fun σ => B_l_equalNodes (σ 0) (F_l_equalInts (σ 0)) a b) Q) : Tot (fun σ => F_l_equalNodes (σ 0) a b) Q :=
  Tot.call (F := fun k => F_l_equalNodes k a b) (B := fun k => B_l_equalNodes k (F_l_equalInts k) a b) (fun k => rfl) h
abbrev A_l_equalNodes_L1 (Z : Type) : Type := (List (Int × Int × List Int)) → (List (Int × Int × List Int)) → Int → Z
abbrev u_l_equalNodes_L1 {Z : Type} (f : A_l_equalNodes_L1 Z) (t : T_l_equalNodes_L1) : Z := f t.1 t.2.1 t.2.2.1
theorem loop_l_equalNodes_L1 {Q : A_l_equalNodes_L1 (((Bool × Unit) × (Unit)) → Prop)} (I : A_l_equalNodes_L1 Prop) (μ : A_l_equalNodes_L1 Nat)
    (step : ∀ a0 a1 a2, I a0 a1 a2 → ∀ again : (Nat → Nat) → T_l_equalNodes_L1 → R_l_equalNodes, Dep 2 again → (∀ y0 y1 y2, I y0 y1 y2 → μ y0 y1 y2 < μ a0 a1 a2 → Tot (fun σ => again σ (y0, y1, y2, ())) (Q y0 y1 y2)) →
      Tot (fun σ => B_l_equalNodes_L1b (σ 0) (F_l_equalInts (σ 0)) (again σ) a0 a1 a2) (Q a0 a1 a2)) :
    ∀ a0 a1 a2, I a0 a1 a2 → Tot (fun σ => B_l_equalNodes_L1 (σ 0) (F_l_equalInts (σ 0)) (σ 0) (a0, a1, a2, ())) (Q a0 a1 a2) := fun a0 a1 a2 => Tot.loop0 (L := fun k => B_l_equalNodes_L1 k (F_l_equalInts k)) (B := fun k g => u_l_equalNodes_L1 (B_l_equalNodes_L1b k (F_l_equalInts k) g)) (Q := u_l_equalNodes_L1 Q) (fun _ _ _ => rfl) (u_l_equalNodes_L1 I) (u_l_equalNodes_L1 μ)
    (fun t ht again hag h => step t.1 t.2.1 t.2.2.1 ht again hag fun y0 y1 y2 => h (y0, y1, y2, ())) (a0, a1, a2, ())
abbrev R_l_equalMachine : Type := Option ((Bool × Unit) × (Unit))
abbrev C_l_equalMachine : Type := (List (Int × Int × List Int)) → List Int → List Int → Bool → (List (Int × Int × List Int)) → List Int → List Int → Bool → R_l_equalMachine
def B_l_equalMachine (k : Nat) (c_l_equalNodes : C_l_equalNodes) (c_l_equalInts : C_l_equalInts) (a_0 : List (Int × Int × List Int)) (a_1 a_2 : List Int) (a_3 : Bool) (b_0 : List (Int × Int × List Int)) (b_1 b_2 : List Int) (b_3 : Bool) : R_l_equalMachine :=
  (c_l_equalNodes a_0 b_0).bind fun r9 =>
  bif r9.1.1 then
    (c_l_equalInts a_1 b_1).bind fun r15 =>
    bif r15.1.1 then
      (c_l_equalInts a_2 b_2).bind fun r22 =>
      bif r22.1.1 then
        some (((a_3 == b_3), ()), ())
      else
        some ((false, ()), ())
    else
      some ((false, ()), ())
  else
    some ((false, ()), ())
def F_l_equalMachine : Nat → C_l_equalMachine
  | 0, _, _, _, _, _, _, _, _ => none
  | k + 1, a_0, a_1, a_2, a_3, b_0, b_1, b_2, b_3 => B_l_equalMachine k (F_l_equalNodes k) (F_l_equalInts k) a_0 a_1 a_2 a_3 b_0 b_1 b_2 b_3
theorem tot_l_equalMachine {a_0 a_1 a_2 a_3 b_0 b_1 b_2 b_3 : _} {Q : _ → Prop} (h : Tot (fun σ => B_l_equalMachine (σ 0) (F_l_equalNodes (σ 0)) (F_l_equalInts (σ 0)) a_0 a_1 a_2 a_3 b_0 b_1 b_2 b_3) Q) : Tot (fun σ => F_l_equalMachine (σ 0) a_0 a_1 a_2 a_3 b_0 b_1 b_2 b_3) Q :=
  Tot.call (F := fun k => F_l_equalMachine k a_0 a_1 a_2 a_3 b_0 b_1 b_2 b_3) (B := fun k => B_l_equalMachine k (F_l_equalNodes k) (F_l_equalInts k) a_0 a_1 a_2 a_3 b_0 b_1 b_2 b_3) (fun k => rfl) h
abbrev R_i_ValidMachine : Type := Option ((Bool × Unit) × (Unit))
abbrev C_i_ValidMachine : Type := (List (Int × Int × List Int)) → List Int → List Int → Bool → R_i_ValidMachine
abbrev T_i_ValidMachine_L5 : Type := ((List (Int × Int × List Int)) × List Int × List Int × Bool × Unit) × Int × (Int × Int × List Int × Unit) × (List (Int × Int × List Int)) × Int × Int × List Int × Int × Int × Unit
abbrev T_i_ValidMachine_L6 : Type := ((List (Int × Int × List Int)) × List Int × List Int × Bool × Unit) × Int × (List (Int × Int × List Int)) × Int × Int × Unit
abbrev T_i_ValidMachine_L2 : Type := ((List (Int × Int × List Int)) × List Int × List Int × Bool × Unit) × Int × List Int × Int × Int × Unit
def B_i_ValidMachine_J1 (k : Nat) (c_slices_Clone_int_int : C_slices_Clone_int_int) (again2 : T_i_ValidMachine_L2 → R_i_ValidMachine) (m_Nodes : List (Int × Int × List Int)) (m_Stack m_Memo : List Int) (m_Done : Bool) (n3 : Int) (t49 : List Int) (t50 t51 : Int) (t61 : Bool) : R_i_ValidMachine :=
  bif t61 then
    some ((false, ()), ())
  else
    again2 ((m_Nodes, m_Stack, m_Memo, m_Done, ()), n3, t49, t50, w64 (t51 + 1), ())
def B_i_ValidMachine_J4 (k : Nat) (c_slices_Clone_int_int : C_slices_Clone_int_int) (again5 : T_i_ValidMachine_L5 → R_i_ValidMachine) (m_Nodes : List (Int × Int × List Int)) (m_Stack m_Memo : List Int) (m_Done : Bool) (n3 x_Kind x_Value : Int) (x_Kids : List Int) (t64 : List (Int × Int × List Int)) (t65 t66 : Int) (t112 : List Int) (t113 t114 : Int) (t144 : Bool) : R_i_ValidMachine :=
  bif t144 then
    some ((false, ()), ())
  else
    again5 ((m_Nodes, m_Stack, m_Memo, m_Done, ()), n3, (x_Kind, x_Value, x_Kids, ()), t64, t65, t66, t112, t113, w64 (t114 + 1), ())
def B_i_ValidMachine_L5b (k : Nat) (c_slices_Clone_int_int : C_slices_Clone_int_int) (again6 : T_i_ValidMachine_L6 → R_i_ValidMachine) (again5 : T_i_ValidMachine_L5 → R_i_ValidMachine) (m_Nodes : List (Int × Int × List Int)) (m_Stack m_Memo : List Int) (m_Done : Bool) (n3 x_Kind x_Value : Int) (x_Kids : List Int) (t64 : List (Int × Int × List Int)) (t65 t66 : Int) (t112 : List Int) (t113 t114 : Int) : R_i_ValidMachine :=
  bif decide (t114 < t113) then
    chk (inb t114 t112.length) <|
    bif decide ((rdx (0 : Int) t112 t114) < 0) then
      jn (fun t => B_i_ValidMachine_J4 k c_slices_Clone_int_int again5 t.1.1 t.1.2.1 t.1.2.2.1 t.1.2.2.2.1 t.2.1 t.2.2.1.1 t.2.2.1.2.1 t.2.2.1.2.2.1 t.2.2.2.1 t.2.2.2.2.1 t.2.2.2.2.2.1 t.2.2.2.2.2.2.1 t.2.2.2.2.2.2.2.1 t.2.2.2.2.2.2.2.2.1 t.2.2.2.2.2.2.2.2.2.1) ((m_Nodes, m_Stack, m_Memo, m_Done, ()), n3, (x_Kind, x_Value, x_Kids, ()), t64, t65, t66, t112, t113, t114, true, ())
    else
      bif decide ((rdx (0 : Int) t112 t114) ≥ n3) then
        jn (fun t => B_i_ValidMachine_J4 k c_slices_Clone_int_int again5 t.1.1 t.1.2.1 t.1.2.2.1 t.1.2.2.2.1 t.2.1 t.2.2.1.1 t.2.2.1.2.1 t.2.2.1.2.2.1 t.2.2.2.1 t.2.2.2.2.1 t.2.2.2.2.2.1 t.2.2.2.2.2.2.1 t.2.2.2.2.2.2.2.1 t.2.2.2.2.2.2.2.2.1 t.2.2.2.2.2.2.2.2.2.1) ((m_Nodes, m_Stack, m_Memo, m_Done, ()), n3, (x_Kind, x_Value, x_Kids, ()), t64, t65, t66, t112, t113, t114, true, ())
      else
        bif (x_Kind == 4) then
          bif ((t114.tmod 2) == 0) then
            chk (inb (rdx (0 : Int) t112 t114) m_Nodes.length) <|
            let v142 : Bool := decide (((rdx ((0 : Int), ((0 : Int), ([] : List Int))) m_Nodes (rdx (0 : Int) t112 t114)).1) > 1)
            jn (fun t => B_i_ValidMachine_J4 k c_slices_Clone_int_int again5 t.1.1 t.1.2.1 t.1.2.2.1 t.1.2.2.2.1 t.2.1 t.2.2.1.1 t.2.2.1.2.1 t.2.2.1.2.2.1 t.2.2.2.1 t.2.2.2.2.1 t.2.2.2.2.2.1 t.2.2.2.2.2.2.1 t.2.2.2.2.2.2.2.1 t.2.2.2.2.2.2.2.2.1 t.2.2.2.2.2.2.2.2.2.1) ((m_Nodes, m_Stack, m_Memo, m_Done, ()), n3, (x_Kind, x_Value, x_Kids, ()), t64, t65, t66, t112, t113, t114, v142, ())
          else
            jn (fun t => B_i_ValidMachine_J4 k c_slices_Clone_int_int again5 t.1.1 t.1.2.1 t.1.2.2.1 t.1.2.2.2.1 t.2.1 t.2.2.1.1 t.2.2.1.2.1 t.2.2.1.2.2.1 t.2.2.2.1 t.2.2.2.2.1 t.2.2.2.2.2.1 t.2.2.2.2.2.2.1 t.2.2.2.2.2.2.2.1 t.2.2.2.2.2.2.2.2.1 t.2.2.2.2.2.2.2.2.2.1) ((m_Nodes, m_Stack, m_Memo, m_Done, ()), n3, (x_Kind, x_Value, x_Kids, ()), t64, t65, t66, t112, t113, t114, false, ())
        else
          jn (fun t => B_i_ValidMachine_J4 k c_slices_Clone_int_int again5 t.1.1 t.1.2.1 t.1.2.2.1 t.1.2.2.2.1 t.2.1 t.2.2.1.1 t.2.2.1.2.1 t.2.2.1.2.2.1 t.2.2.2.1 t.2.2.2.2.1 t.2.2.2.2.2.1 t.2.2.2.2.2.2.1 t.2.2.2.2.2.2.2.1 t.2.2.2.2.2.2.2.2.1 t.2.2.2.2.2.2.2.2.2.1) ((m_Nodes, m_Stack, m_Memo, m_Done, ()), n3, (x_Kind, x_Value, x_Kids, ()), t64, t65, t66, t112, t113, t114, false, ())
  else
    again6 ((m_Nodes, m_Stack, m_Memo, m_Done, ()), n3, t64, t65, w64 (t66 + 1), ())
def B_i_ValidMachine_L5 (k : Nat) (c_slices_Clone_int_int : C_slices_Clone_int_int) (again6 : T_i_ValidMachine_L6 → R_i_ValidMachine) (n : Nat) (t : T_i_ValidMachine_L5) : R_i_ValidMachine :=
  lfix n (fun again t => B_i_ValidMachine_L5b k c_slices_Clone_int_int again6 again t.1.1 t.1.2.1 t.1.2.2.1 t.1.2.2.2.1 t.2.1 t.2.2.1.1 t.2.2.1.2.1 t.2.2.1.2.2.1 t.2.2.2.1 t.2.2.2.2.1 t.2.2.2.2.2.1 t.2.2.2.2.2.2.1 t.2.2.2.2.2.2.2.1 t.2.2.2.2.2.2.2.2.1) t
def B_i_ValidMachine_J3 (k : Nat) (c_slices_Clone_int_int : C_slices_Clone_int_int) (again6 : T_i_ValidMachine_L6 → R_i_ValidMachine) (m_Nodes : List (Int × Int × List Int)) (m_Stack m_Memo : List Int) (m_Done : Bool) (n3 x_Kind x_Value : Int) (x_Kids : List Int) (t64 : List (Int × Int × List Int)) (t65 t66 : Int) (t110 : Bool) : R_i_ValidMachine :=
  bif t110 then
    some ((false, ()), ())
  else
    B_i_ValidMachine_L5 k c_slices_Clone_int_int again6 k ((m_Nodes, m_Stack, m_Memo, m_Done, ()), n3, (x_Kind, x_Value, x_Kids, ()), t64, t65, t66, x_Kids, len x_Kids, 0, ())
def B_i_ValidMachine_L6b (k : Nat) (c_slices_Clone_int_int : C_slices_Clone_int_int) (again6 : T_i_ValidMachine_L6 → R_i_ValidMachine) (m_Nodes : List (Int × Int × List Int)) (m_Stack m_Memo : List Int) (m_Done : Bool) (n3 : Int) (t64 : List (Int × Int × List Int)) (t65 t66 : Int) : R_i_ValidMachine :=
  bif decide (t66 < t65) then
    chk (inb t66 t64.length) <|
    bif decide (((rdx ((0 : Int), ((0 : Int), ([] : List Int))) t64 t66).1) < 0) then
      jn (fun t => B_i_ValidMachine_J3 k c_slices_Clone_int_int again6 t.1.1 t.1.2.1 t.1.2.2.1 t.1.2.2.2.1 t.2.1 t.2.2.1.1 t.2.2.1.2.1 t.2.2.1.2.2.1 t.2.2.2.1 t.2.2.2.2.1 t.2.2.2.2.2.1 t.2.2.2.2.2.2.1) ((m_Nodes, m_Stack, m_Memo, m_Done, ()), n3, ((rdx ((0 : Int), ((0 : Int), ([] : List Int))) t64 t66).1, ((rdx ((0 : Int), ((0 : Int), ([] : List Int))) t64 t66).2).1, ((rdx ((0 : Int), ((0 : Int), ([] : List Int))) t64 t66).2).2, ()), t64, t65, t66, true, ())
    else
      bif decide (((rdx ((0 : Int), ((0 : Int), ([] : List Int))) t64 t66).1) > 5) then
        jn (fun t => B_i_ValidMachine_J3 k c_slices_Clone_int_int again6 t.1.1 t.1.2.1 t.1.2.2.1 t.1.2.2.2.1 t.2.1 t.2.2.1.1 t.2.2.1.2.1 t.2.2.1.2.2.1 t.2.2.2.1 t.2.2.2.2.1 t.2.2.2.2.2.1 t.2.2.2.2.2.2.1) ((m_Nodes, m_Stack, m_Memo, m_Done, ()), n3, ((rdx ((0 : Int), ((0 : Int), ([] : List Int))) t64 t66).1, ((rdx ((0 : Int), ((0 : Int), ([] : List Int))) t64 t66).2).1, ((rdx ((0 : Int), ((0 : Int), ([] : List Int))) t64 t66).2).2, ()), t64, t65, t66, true, ())
      else
        bif decide ((((rdx ((0 : Int), ((0 : Int), ([] : List Int))) t64 t66).2).1) < 0) then
          jn (fun t => B_i_ValidMachine_J3 k c_slices_Clone_int_int again6 t.1.1 t.1.2.1 t.1.2.2.1 t.1.2.2.2.1 t.2.1 t.2.2.1.1 t.2.2.1.2.1 t.2.2.1.2.2.1 t.2.2.2.1 t.2.2.2.2.1 t.2.2.2.2.2.1 t.2.2.2.2.2.2.1) ((m_Nodes, m_Stack, m_Memo, m_Done, ()), n3, ((rdx ((0 : Int), ((0 : Int), ([] : List Int))) t64 t66).1, ((rdx ((0 : Int), ((0 : Int), ([] : List Int))) t64 t66).2).1, ((rdx ((0 : Int), ((0 : Int), ([] : List Int))) t64 t66).2).2, ()), t64, t65, t66, true, ())
        else
          bif decide ((((rdx ((0 : Int), ((0 : Int), ([] : List Int))) t64 t66).2).1) > 999) then
            jn (fun t => B_i_ValidMachine_J3 k c_slices_Clone_int_int again6 t.1.1 t.1.2.1 t.1.2.2.1 t.1.2.2.2.1 t.2.1 t.2.2.1.1 t.2.2.1.2.1 t.2.2.1.2.2.1 t.2.2.2.1 t.2.2.2.2.1 t.2.2.2.2.2.1 t.2.2.2.2.2.2.1) ((m_Nodes, m_Stack, m_Memo, m_Done, ()), n3, ((rdx ((0 : Int), ((0 : Int), ([] : List Int))) t64 t66).1, ((rdx ((0 : Int), ((0 : Int), ([] : List Int))) t64 t66).2).1, ((rdx ((0 : Int), ((0 : Int), ([] : List Int))) t64 t66).2).2, ()), t64, t65, t66, true, ())
          else
            bif (((rdx ((0 : Int), ((0 : Int), ([] : List Int))) t64 t66).1) == 5) then
              bif decide ((len (((rdx ((0 : Int), ((0 : Int), ([] : List Int))) t64 t66).2).2)) > 1) then
                jn (fun t => B_i_ValidMachine_J3 k c_slices_Clone_int_int again6 t.1.1 t.1.2.1 t.1.2.2.1 t.1.2.2.2.1 t.2.1 t.2.2.1.1 t.2.2.1.2.1 t.2.2.1.2.2.1 t.2.2.2.1 t.2.2.2.2.1 t.2.2.2.2.2.1 t.2.2.2.2.2.2.1) ((m_Nodes, m_Stack, m_Memo, m_Done, ()), n3, ((rdx ((0 : Int), ((0 : Int), ([] : List Int))) t64 t66).1, ((rdx ((0 : Int), ((0 : Int), ([] : List Int))) t64 t66).2).1, ((rdx ((0 : Int), ((0 : Int), ([] : List Int))) t64 t66).2).2, ()), t64, t65, t66, true, ())
              else
                bif (((rdx ((0 : Int), ((0 : Int), ([] : List Int))) t64 t66).1) == 4) then
                  jn (fun t => B_i_ValidMachine_J3 k c_slices_Clone_int_int again6 t.1.1 t.1.2.1 t.1.2.2.1 t.1.2.2.2.1 t.2.1 t.2.2.1.1 t.2.2.1.2.1 t.2.2.1.2.2.1 t.2.2.2.1 t.2.2.2.2.1 t.2.2.2.2.2.1 t.2.2.2.2.2.2.1) ((m_Nodes, m_Stack, m_Memo, m_Done, ()), n3, ((rdx ((0 : Int), ((0 : Int), ([] : List Int))) t64 t66).1, ((rdx ((0 : Int), ((0 : Int), ([] : List Int))) t64 t66).2).1, ((rdx ((0 : Int), ((0 : Int), ([] : List Int))) t64 t66).2).2, ()), t64, t65, t66, (((len (((rdx ((0 : Int), ((0 : Int), ([] : List Int))) t64 t66).2).2)).tmod 2) != 0), ())
                else
                  jn (fun t => B_i_ValidMachine_J3 k c_slices_Clone_int_int again6 t.1.1 t.1.2.1 t.1.2.2.1 t.1.2.2.2.1 t.2.1 t.2.2.1.1 t.2.2.1.2.1 t.2.2.1.2.2.1 t.2.2.2.1 t.2.2.2.2.1 t.2.2.2.2.2.1 t.2.2.2.2.2.2.1) ((m_Nodes, m_Stack, m_Memo, m_Done, ()), n3, ((rdx ((0 : Int), ((0 : Int), ([] : List Int))) t64 t66).1, ((rdx ((0 : Int), ((0 : Int), ([] : List Int))) t64 t66).2).1, ((rdx ((0 : Int), ((0 : Int), ([] : List Int))) t64 t66).2).2, ()), t64, t65, t66, false, ())
            else
              bif (((rdx ((0 : Int), ((0 : Int), ([] : List Int))) t64 t66).1) == 4) then
                jn (fun t => B_i_ValidMachine_J3 k c_slices_Clone_int_int again6 t.1.1 t.1.2.1 t.1.2.2.1 t.1.2.2.2.1 t.2.1 t.2.2.1.1 t.2.2.1.2.1 t.2.2.1.2.2.1 t.2.2.2.1 t.2.2.2.2.1 t.2.2.2.2.2.1 t.2.2.2.2.2.2.1) ((m_Nodes, m_Stack, m_Memo, m_Done, ()), n3, ((rdx ((0 : Int), ((0 : Int), ([] : List Int))) t64 t66).1, ((rdx ((0 : Int), ((0 : Int), ([] : List Int))) t64 t66).2).1, ((rdx ((0 : Int), ((0 : Int), ([] : List Int))) t64 t66).2).2, ()), t64, t65, t66, (((len (((rdx ((0 : Int), ((0 : Int), ([] : List Int))) t64 t66).2).2)).tmod 2) != 0), ())
              else
                jn (fun t => B_i_ValidMachine_J3 k c_slices_Clone_int_int again6 t.1.1 t.1.2.1 t.1.2.2.1 t.1.2.2.2.1 t.2.1 t.2.2.1.1 t.2.2.1.2.1 t.2.2.1.2.2.1 t.2.2.2.1 t.2.2.2.2.1 t.2.2.2.2.2.1 t.2.2.2.2.2.2.1) ((m_Nodes, m_Stack, m_Memo, m_Done, ()), n3, ((rdx ((0 : Int), ((0 : Int), ([] : List Int))) t64 t66).1, ((rdx ((0 : Int), ((0 : Int), ([] : List Int))) t64 t66).2).1, ((rdx ((0 : Int), ((0 : Int), ([] : List Int))) t64 t66).2).2, ()), t64, t65, t66, false, ())
  else
    some ((true, ()), ())
def B_i_ValidMachine_L6 (k : Nat) (c_slices_Clone_int_int : C_slices_Clone_int_int) (n : Nat) (t : T_i_ValidMachine_L6) : R_i_ValidMachine :=
  lfix n (fun again t => B_i_ValidMachine_L6b k c_slices_Clone_int_int again t.1.1 t.1.2.1 t.1.2.2.1 t.1.2.2.2.1 t.2.1 t.2.2.1 t.2.2.2.1 t.2.2.2.2.1) t
def B_i_ValidMachine_L2b (k : Nat) (c_slices_Clone_int_int : C_slices_Clone_int_int) (again2 : T_i_ValidMachine_L2 → R_i_ValidMachine) (m_Nodes : List (Int × Int × List Int)) (m_Stack m_Memo : List Int) (m_Done : Bool) (n3 : Int) (t49 : List Int) (t50 t51 : Int) : R_i_ValidMachine :=
  bif decide (t51 < t50) then
    chk (inb t51 t49.length) <|
    chk (decide (t51.toNat < t49.length)) <|
    bif decide ((t49.getD t51.toNat (0 : Int)) < (-1)) then
      jn (fun t => B_i_ValidMachine_J1 k c_slices_Clone_int_int again2 t.1.1 t.1.2.1 t.1.2.2.1 t.1.2.2.2.1 t.2.1 t.2.2.1 t.2.2.2.1 t.2.2.2.2.1 t.2.2.2.2.2.1) ((m_Nodes, m_Stack, m_Memo, m_Done, ()), n3, t49, t50, t51, true, ())
    else
      jn (fun t => B_i_ValidMachine_J1 k c_slices_Clone_int_int again2 t.1.1 t.1.2.1 t.1.2.2.1 t.1.2.2.2.1 t.2.1 t.2.2.1 t.2.2.2.1 t.2.2.2.2.1 t.2.2.2.2.2.1) ((m_Nodes, m_Stack, m_Memo, m_Done, ()), n3, t49, t50, t51, decide ((t49.getD t51.toNat (0 : Int)) ≥ n3), ())
  else
    B_i_ValidMachine_L6 k c_slices_Clone_int_int k ((m_Nodes, m_Stack, m_Memo, m_Done, ()), n3, m_Nodes, len m_Nodes, 0, ())
def B_i_ValidMachine_L2 (k : Nat) (c_slices_Clone_int_int : C_slices_Clone_int_int) (n : Nat) (t : T_i_ValidMachine_L2) : R_i_ValidMachine :=
  lfix n (fun again t => B_i_ValidMachine_L2b k c_slices_Clone_int_int again t.1.1 t.1.2.1 t.1.2.2.1 t.1.2.2.2.1 t.2.1 t.2.2.1 t.2.2.2.1 t.2.2.2.2.1) t
def B_i_ValidMachine_J0 (k : Nat) (c_slices_Clone_int_int : C_slices_Clone_int_int) (m_Nodes : List (Int × Int × List Int)) (m_Stack m_Memo : List Int) (m_Done : Bool) (n3 : Int) (t43 : Bool) : R_i_ValidMachine :=
  bif t43 then
    some ((false, ()), ())
  else
    (c_slices_Clone_int_int m_Stack).bind fun r46 =>
    chk (room r46.1.1.length m_Memo.length) <|
    B_i_ValidMachine_L2 k c_slices_Clone_int_int k ((m_Nodes, m_Stack, m_Memo, m_Done, ()), n3, (r46.1.1 ++ m_Memo), len (r46.1.1 ++ m_Memo), 0, ())
def B_i_ValidMachine (k : Nat) (c_slices_Clone_int_int : C_slices_Clone_int_int) (m_0 : List (Int × Int × List Int)) (m_1 m_2 : List Int) (m_3 : Bool) : R_i_ValidMachine :=
  bif decide ((len m_0) > 300) then
    jn (fun t => B_i_ValidMachine_J0 k c_slices_Clone_int_int t.1.1 t.1.2.1 t.1.2.2.1 t.1.2.2.2.1 t.2.1 t.2.2.1) ((m_0, m_1, m_2, m_3, ()), len m_0, true, ())
  else
    bif decide ((len m_1) > 300) then
      jn (fun t => B_i_ValidMachine_J0 k c_slices_Clone_int_int t.1.1 t.1.2.1 t.1.2.2.1 t.1.2.2.2.1 t.2.1 t.2.2.1) ((m_0, m_1, m_2, m_3, ()), len m_0, true, ())
    else
      bif ((len m_2) != 20) then
        jn (fun t => B_i_ValidMachine_J0 k c_slices_Clone_int_int t.1.1 t.1.2.1 t.1.2.2.1 t.1.2.2.2.1 t.2.1 t.2.2.1) ((m_0, m_1, m_2, m_3, ()), len m_0, true, ())
      else
        bif m_3 then
          bif ((len m_1) != 1) then
            jn (fun t => B_i_ValidMachine_J0 k c_slices_Clone_int_int t.1.1 t.1.2.1 t.1.2.2.1 t.1.2.2.2.1 t.2.1 t.2.2.1) ((m_0, m_1, m_2, m_3, ()), len m_0, true, ())
          else
            chk (inb 0 m_1.length) <|
            jn (fun t => B_i_ValidMachine_J0 k c_slices_Clone_int_int t.1.1 t.1.2.1 t.1.2.2.1 t.1.2.2.2.1 t.2.1 t.2.2.1) ((m_0, m_1, m_2, m_3, ()), len m_0, decide ((rdx (0 : Int) m_1 0) < 0), ())
        else
          jn (fun t => B_i_ValidMachine_J0 k c_slices_Clone_int_int t.1.1 t.1.2.1 t.1.2.2.1 t.1.2.2.2.1 t.2.1 t.2.2.1) ((m_0, m_1, m_2, m_3, ()), len m_0, false, ())
def F_i_ValidMachine : Nat → C_i_ValidMachine
  | 0, _, _, _, _ => none
  | k + 1, m_0, m_1, m_2, m_3 => B_i_ValidMachine k (F_slices_Clone_int_int k) m_0 m_1 m_2 m_3
theorem tot_i_ValidMachine {m_0 m_1 m_2 m_3 : _} {Q : _ → Prop} (h : Tot (fun σ => B_i_ValidMachine (σ 0) (F_slices_Clone_int_int (σ 0)) m_0 m_1 m_2 m_3) Q) : Tot (fun σ => F_i_ValidMachine (σ 0) m_0 m_1 m_2 m_3) Q :=
  Tot.call (F := fun k => F_i_ValidMachine k m_0 m_1 m_2 m_3) (B := fun k => B_i_ValidMachine k (F_slices_Clone_int_int k) m_0 m_1 m_2 m_3) (fun k => rfl) h
abbrev A_i_ValidMachine_L5 (Z : Type) : Type := (List (Int × Int × List Int)) → List Int → List Int → Bool → Int → Int → Int → List Int → (List (Int × Int × List Int)) → Int → Int → List Int → Int → Int → Z
abbrev u_i_ValidMachine_L5 {Z : Type} (f : A_i_ValidMachine_L5 Z) (t : T_i_ValidMachine_L5) : Z := f t.1.1 t.1.2.1 t.1.2.2.1 t.1.2.2.2.1 t.2.1 t.2.2.1.1 t.2.2.1.2.1 t.2.2.1.2.2.1 t.2.2.2.1 t.2.2.2.2.1 t.2.2.2.2.2.1 t.2.2.2.2.2.2.1 t.2.2.2.2.2.2.2.1 t.2.2.2.2.2.2.2.2.1
theorem loop_i_ValidMachine_L5 {again6 : (Nat → Nat) → T_i_ValidMachine_L6 → R_i_ValidMachine} (hag6 : Dep 2 again6) {Q : A_i_ValidMachine_L5 (((Bool × Unit) × (Unit)) → Prop)} (I : A_i_ValidMachine_L5 Prop) (μ : A_i_ValidMachine_L5 Nat)
    (step : ∀ a0 a1 a2 a3 a4 a5 a6 a7 a8 a9 a10 a11 a12 a13, I a0 a1 a2 a3 a4 a5 a6 a7 a8 a9 a10 a11 a12 a13 → ∀ again : (Nat → Nat) → T_i_ValidMachine_L5 → R_i_ValidMachine, Dep 3 again → (∀ y0 y1 y2 y3 y4 y5 y6 y7 y8 y9 y10 y11 y12 y13, I y0 y1 y2 y3 y4 y5 y6 y7 y8 y9 y10 y11 y12 y13 → μ y0 y1 y2 y3 y4 y5 y6 y7 y8 y9 y10 y11 y12 y13 < μ a0 a1 a2 a3 a4 a5 a6 a7 a8 a9 a10 a11 a12 a13 → Tot (fun σ => again σ ((y0, y1, y2, y3, ()), y4, (y5, y6, y7, ()), y8, y9, y10, y11, y12, y13, ())) (Q y0 y1 y2 y3 y4 y5 y6 y7 y8 y9 y10 y11 y12 y13)) →
      Tot (fun σ => B_i_ValidMachine_L5b (σ 0) (F_slices_Clone_int_int (σ 0)) (again6 σ) (again σ) a0 a1 a2 a3 a4 a5 a6 a7 a8 a9 a10 a11 a12 a13) (Q a0 a1 a2 a3 a4 a5 a6 a7 a8 a9 a10 a11 a12 a13)) :
    ∀ a0 a1 a2 a3 a4 a5 a6 a7 a8 a9 a10 a11 a12 a13, I a0 a1 a2 a3 a4 a5 a6 a7 a8 a9 a10 a11 a12 a13 → Tot (fun σ => B_i_ValidMachine_L5 (σ 0) (F_slices_Clone_int_int (σ 0)) (again6 σ) (σ 0) ((a0, a1, a2, a3, ()), a4, (a5, a6, a7, ()), a8, a9, a10, a11, a12, a13, ())) (Q a0 a1 a2 a3 a4 a5 a6 a7 a8 a9 a10 a11 a12 a13) := fun a0 a1 a2 a3 a4 a5 a6 a7 a8 a9 a10 a11 a12 a13 => Tot.loop (L := fun σ n t => B_i_ValidMachine_L5 (σ 0) (F_slices_Clone_int_int (σ 0)) (again6 σ) n t) (B := fun σ g => u_i_ValidMachine_L5 (B_i_ValidMachine_L5b (σ 0) (F_slices_Clone_int_int (σ 0)) (again6 σ) g)) (Q := u_i_ValidMachine_L5 Q) 2 (by decide)
    (fun s s' h => by have e0 : s 0 = s' 0 := h 0 (by decide); simp only [e0, hag6 s s' h]) (fun s s' h => by have e0 : s 0 = s' 0 := h 0 (by decide); simp only [e0, hag6 s s' h]) (fun _ _ _ => rfl) (u_i_ValidMachine_L5 I) (u_i_ValidMachine_L5 μ)
    (fun t ht again hag h => step t.1.1 t.1.2.1 t.1.2.2.1 t.1.2.2.2.1 t.2.1 t.2.2.1.1 t.2.2.1.2.1 t.2.2.1.2.2.1 t.2.2.2.1 t.2.2.2.2.1 t.2.2.2.2.2.1 t.2.2.2.2.2.2.1 t.2.2.2.2.2.2.2.1 t.2.2.2.2.2.2.2.2.1 ht again hag fun y0 y1 y2 y3 y4 y5 y6 y7 y8 y9 y10 y11 y12 y13 => h ((y0, y1, y2, y3, ()), y4, (y5, y6, y7, ()), y8, y9, y10, y11, y12, y13, ())) ((a0, a1, a2, a3, ()), a4, (a5, a6, a7, ()), a8, a9, a10, a11, a12, a13, ())
abbrev A_i_ValidMachine_L6 (Z : Type) : Type := (List (Int × Int × List Int)) → List Int → List Int → Bool → Int → (List (Int × Int × List Int)) → Int → Int → Z
abbrev u_i_ValidMachine_L6 {Z : Type} (f : A_i_ValidMachine_L6 Z) (t : T_i_ValidMachine_L6) : Z := f t.1.1 t.1.2.1 t.1.2.2.1 t.1.2.2.2.1 t.2.1 t.2.2.1 t.2.2.2.1 t.2.2.2.2.1
theorem loop_i_ValidMachine_L6 {Q : A_i_ValidMachine_L6 (((Bool × Unit) × (Unit)) → Prop)} (I : A_i_ValidMachine_L6 Prop) (μ : A_i_ValidMachine_L6 Nat)
    (step : ∀ a0 a1 a2 a3 a4 a5 a6 a7, I a0 a1 a2 a3 a4 a5 a6 a7 → ∀ again : (Nat → Nat) → T_i_ValidMachine_L6 → R_i_ValidMachine, Dep 2 again → (∀ y0 y1 y2 y3 y4 y5 y6 y7, I y0 y1 y2 y3 y4 y5 y6 y7 → μ y0 y1 y2 y3 y4 y5 y6 y7 < μ a0 a1 a2 a3 a4 a5 a6 a7 → Tot (fun σ => again σ ((y0, y1, y2, y3, ()), y4, y5, y6, y7, ())) (Q y0 y1 y2 y3 y4 y5 y6 y7)) →
      Tot (fun σ => B_i_ValidMachine_L6b (σ 0) (F_slices_Clone_int_int (σ 0)) (again σ) a0 a1 a2 a3 a4 a5 a6 a7) (Q a0 a1 a2 a3 a4 a5 a6 a7)) :
    ∀ a0 a1 a2 a3 a4 a5 a6 a7, I a0 a1 a2 a3 a4 a5 a6 a7 → Tot (fun σ => B_i_ValidMachine_L6 (σ 0) (F_slices_Clone_int_int (σ 0)) (σ 0) ((a0, a1, a2, a3, ()), a4, a5, a6, a7, ())) (Q a0 a1 a2 a3 a4 a5 a6 a7) := fun a0 a1 a2 a3 a4 a5 a6 a7 => Tot.loop0 (L := fun k => B_i_ValidMachine_L6 k (F_slices_Clone_int_int k)) (B := fun k g => u_i_ValidMachine_L6 (B_i_ValidMachine_L6b k (F_slices_Clone_int_int k) g)) (Q := u_i_ValidMachine_L6 Q) (fun _ _ _ => rfl) (u_i_ValidMachine_L6 I) (u_i_ValidMachine_L6 μ)
    (fun t ht again hag h => step t.1.1 t.1.2.1 t.1.2.2.1 t.1.2.2.2.1 t.2.1 t.2.2.1 t.2.2.2.1 t.2.2.2.2.1 ht again hag fun y0 y1 y2 y3 y4 y5 y6 y7 => h ((y0, y1, y2, y3, ()), y4, y5, y6, y7, ())) ((a0, a1, a2, a3, ()), a4, a5, a6, a7, ())
abbrev A_i_ValidMachine_L2 (Z : Type) : Type := (List (Int × Int × List Int)) → List Int → List Int → Bool → Int → List Int → Int → Int → Z
abbrev u_i_ValidMachine_L2 {Z : Type} (f : A_i_ValidMachine_L2 Z) (t : T_i_ValidMachine_L2) : Z := f t.1.1 t.1.2.1 t.1.2.2.1 t.1.2.2.2.1 t.2.1 t.2.2.1 t.2.2.2.1 t.2.2.2.2.1
theorem loop_i_ValidMachine_L2 {Q : A_i_ValidMachine_L2 (((Bool × Unit) × (Unit)) → Prop)} (I : A_i_ValidMachine_L2 Prop) (μ : A_i_ValidMachine_L2 Nat)
    (step : ∀ a0 a1 a2 a3 a4 a5 a6 a7, I a0 a1 a2 a3 a4 a5 a6 a7 → ∀ again : (Nat → Nat) → T_i_ValidMachine_L2 → R_i_ValidMachine, Dep 2 again → (∀ y0 y1 y2 y3 y4 y5 y6 y7, I y0 y1 y2 y3 y4 y5 y6 y7 → μ y0 y1 y2 y3 y4 y5 y6 y7 < μ a0 a1 a2 a3 a4 a5 a6 a7 → Tot (fun σ => again σ ((y0, y1, y2, y3, ()), y4, y5, y6, y7, ())) (Q y0 y1 y2 y3 y4 y5 y6 y7)) →
      Tot (fun σ => B_i_ValidMachine_L2b (σ 0) (F_slices_Clone_int_int (σ 0)) (again σ) a0 a1 a2 a3 a4 a5 a6 a7) (Q a0 a1 a2 a3 a4 a5 a6 a7)) :
    ∀ a0 a1 a2 a3 a4 a5 a6 a7, I a0 a1 a2 a3 a4 a5 a6 a7 → Tot (fun σ => B_i_ValidMachine_L2 (σ 0) (F_slices_Clone_int_int (σ 0)) (σ 0) ((a0, a1, a2, a3, ()), a4, a5, a6, a7, ())) (Q a0 a1 a2 a3 a4 a5 a6 a7) := fun a0 a1 a2 a3 a4 a5 a6 a7 => Tot.loop0 (L := fun k => B_i_ValidMachine_L2 k (F_slices_Clone_int_int k)) (B := fun k g => u_i_ValidMachine_L2 (B_i_ValidMachine_L2b k (F_slices_Clone_int_int k) g)) (Q := u_i_ValidMachine_L2 Q) (fun _ _ _ => rfl) (u_i_ValidMachine_L2 I) (u_i_ValidMachine_L2 μ)
    (fun t ht again hag h => step t.1.1 t.1.2.1 t.1.2.2.1 t.1.2.2.2.1 t.2.1 t.2.2.1 t.2.2.2.1 t.2.2.2.2.1 ht again hag fun y0 y1 y2 y3 y4 y5 y6 y7 => h ((y0, y1, y2, y3, ()), y4, y5, y6, y7, ())) ((a0, a1, a2, a3, ()), a4, a5, a6, a7, ())
abbrev R_i_StepMachine : Type := Option ((((List (Int × Int × List Int)) × List Int × List Int × Bool × Unit) × Bool × Unit) × (Unit))
abbrev C_i_StepMachine : Type := (List (Int × Int × List Int)) → List Int → List Int → Bool → Int → Int → R_i_StepMachine
def B_i_StepMachine_J0 (k : Nat) (c_i_ValidMachine : C_i_ValidMachine) (c_i_opOk : C_i_opOk) (c_i_copyMachine : C_i_copyMachine) (c_i_Machine_step : C_i_Machine_step) (m_Nodes : List (Int × Int × List Int)) (m_Stack m_Memo : List Int) (m_Done : Bool) (o_Code o_Arg : Int) (t4_Done t14 : Bool) : R_i_StepMachine :=
  bif t14 then
    some ((([], [], [], false, ()), false, ()), ())
  else
    (c_i_copyMachine m_Nodes m_Stack m_Memo m_Done).bind fun r17 =>
    (c_i_Machine_step r17.1.1.1 r17.1.1.2.1 r17.1.1.2.2.1 r17.1.1.2.2.2.1 o_Code o_Arg).bind fun r19 =>
    bif (!r19.1.1) then
      some ((([], [], [], false, ()), false, ()), ())
    else
      (r19.2.1.1).bind fun p1 =>
      (c_i_copyMachine p1 r19.2.1.2.1 r19.2.1.2.2.1 r19.2.1.2.2.2.1).bind fun r23 =>
      some (((r23.1.1.1, r23.1.1.2.1, r23.1.1.2.2.1, r23.1.1.2.2.2.1, ()), true, ()), ())
def B_i_StepMachine (k : Nat) (c_i_ValidMachine : C_i_ValidMachine) (c_i_opOk : C_i_opOk) (c_i_copyMachine : C_i_copyMachine) (c_i_Machine_step : C_i_Machine_step) (m_0 : List (Int × Int × List Int)) (m_1 m_2 : List Int) (m_3 : Bool) (o_0 o_1 : Int) : R_i_StepMachine :=
  (c_i_ValidMachine m_0 m_1 m_2 m_3).bind fun r8 =>
  bif (!r8.1.1) then
    jn (fun t => B_i_StepMachine_J0 k c_i_ValidMachine c_i_opOk c_i_copyMachine c_i_Machine_step t.1.1 t.1.2.1 t.1.2.2.1 t.1.2.2.2.1 t.2.1.1 t.2.1.2.1 t.2.2.1.2.2.2.1 t.2.2.2.1) ((m_0, m_1, m_2, m_3, ()), (o_0, o_1, ()), ((), (), (), false, ()), true, ())
  else
    (c_i_opOk o_0 o_1).bind fun r12 =>
    jn (fun t => B_i_StepMachine_J0 k c_i_ValidMachine c_i_opOk c_i_copyMachine c_i_Machine_step t.1.1 t.1.2.1 t.1.2.2.1 t.1.2.2.2.1 t.2.1.1 t.2.1.2.1 t.2.2.1.2.2.2.1 t.2.2.2.1) ((m_0, m_1, m_2, m_3, ()), (o_0, o_1, ()), ((), (), (), false, ()), (!r12.1.1), ())
def F_i_StepMachine : Nat → C_i_StepMachine
  | 0, _, _, _, _, _, _ => none
  | k + 1, m_0, m_1, m_2, m_3, o_0, o_1 => B_i_StepMachine k (F_i_ValidMachine k) (F_i_opOk k) (F_i_copyMachine k) (F_i_Machine_step k) m_0 m_1 m_2 m_3 o_0 o_1
theorem tot_i_StepMachine {m_0 m_1 m_2 m_3 o_0 o_1 : _} {Q : _ → Prop} (h : Tot (fun σ => B_i_StepMachine (σ 0) (F_i_ValidMachine (σ 0)) (F_i_opOk (σ 0)) (F_i_copyMachine (σ 0)) (F_i_Machine_step (σ 0)) m_0 m_1 m_2 m_3 o_0 o_1) Q) : Tot (fun σ => F_i_StepMachine (σ 0) m_0 m_1 m_2 m_3 o_0 o_1) Q :=
  Tot.call (F := fun k => F_i_StepMachine k m_0 m_1 m_2 m_3 o_0 o_1) (B := fun k => B_i_StepMachine k (F_i_ValidMachine k) (F_i_opOk k) (F_i_copyMachine k) (F_i_Machine_step k) m_0 m_1 m_2 m_3 o_0 o_1) (fun k => rfl) h
abbrev R_l_FnRunOpsCut : Type := Option ((Bool × Unit) × (Unit))
abbrev C_l_FnRunOpsCut : Type := List Int → R_l_FnRunOpsCut
def B_l_FnRunOpsCut_J1 (k : Nat) (c_s_DrawRunOps : C_s_DrawRunOps) (c_i_RunOps : C_i_RunOps) (c_s_RunOps : C_s_RunOps) (c_l_equalMachine : C_l_equalMachine) (c_i_StepMachine : C_i_StepMachine) (m_Nodes : List (Int × Int × List Int)) (m_Stack m_Memo : List Int) (m_Done : Bool) (n5 : Int) (again_Nodes : List (Int × Int × List Int)) (again_Stack again_Memo : List Int) (again_Done : Bool) (k9 : Int) : R_l_FnRunOpsCut :=
  bif (k9 == n5) then
    (c_l_equalMachine again_Nodes again_Stack again_Memo again_Done m_Nodes m_Stack m_Memo m_Done).bind fun r75 =>
    some ((r75.1.1, ()), ())
  else
    some ((false, ()), ())
def B_l_FnRunOpsCut_J0 (k : Nat) (c_s_DrawRunOps : C_s_DrawRunOps) (c_i_RunOps : C_i_RunOps) (c_s_RunOps : C_s_RunOps) (c_l_equalMachine : C_l_equalMachine) (c_i_StepMachine : C_i_StepMachine) (ops : List (Int × Int)) (m_Nodes : List (Int × Int × List Int)) (m_Stack m_Memo : List Int) (m_Done : Bool) (n5 : Int) (x_Nodes : List (Int × Int × List Int)) (x_Stack x_Memo : List Int) (x_Done : Bool) (y : Int) (t39 : Bool) : R_l_FnRunOpsCut :=
  bif t39 then
    (c_l_equalMachine m_Nodes m_Stack m_Memo m_Done x_Nodes x_Stack x_Memo x_Done).bind fun r42 =>
    bif r42.1.1 then
      some (((n5 == y), ()), ())
    else
      some ((false, ()), ())
  else
    chk (cutb 0 n5 ops.length) <|
    (c_i_RunOps ((ops.take n5.toNat).drop 0)).bind fun r52 =>
    bif decide (n5 < (len ops)) then
      chk (inb n5 ops.length) <|
      chk (decide (n5.toNat < ops.length)) <|
      (c_i_StepMachine m_Nodes m_Stack m_Memo m_Done ((ops.getD n5.toNat ((0 : Int), (0 : Int))).1) ((ops.getD n5.toNat ((0 : Int), (0 : Int))).2)).bind fun r65 =>
      bif r65.1.2.1 then
        some ((false, ()), ())
      else
        jn (fun t => B_l_FnRunOpsCut_J1 k c_s_DrawRunOps c_i_RunOps c_s_RunOps c_l_equalMachine c_i_StepMachine t.1.1 t.1.2.1 t.1.2.2.1 t.1.2.2.2.1 t.2.1 t.2.2.1.1 t.2.2.1.2.1 t.2.2.1.2.2.1 t.2.2.1.2.2.2.1 t.2.2.2.1) ((m_Nodes, m_Stack, m_Memo, m_Done, ()), n5, (r52.1.1.1, r52.1.1.2.1, r52.1.1.2.2.1, r52.1.1.2.2.2.1, ()), r52.1.2.1, ())
    else
      jn (fun t => B_l_FnRunOpsCut_J1 k c_s_DrawRunOps c_i_RunOps c_s_RunOps c_l_equalMachine c_i_StepMachine t.1.1 t.1.2.1 t.1.2.2.1 t.1.2.2.2.1 t.2.1 t.2.2.1.1 t.2.2.1.2.1 t.2.2.1.2.2.1 t.2.2.1.2.2.2.1 t.2.2.2.1) ((m_Nodes, m_Stack, m_Memo, m_Done, ()), n5, (r52.1.1.1, r52.1.1.2.1, r52.1.1.2.2.1, r52.1.1.2.2.2.1, ()), r52.1.2.1, ())
def B_l_FnRunOpsCut (k : Nat) (c_s_DrawRunOps : C_s_DrawRunOps) (c_i_RunOps : C_i_RunOps) (c_s_RunOps : C_s_RunOps) (c_l_equalMachine : C_l_equalMachine) (c_i_StepMachine : C_i_StepMachine) (code : List Int) : R_l_FnRunOpsCut :=
  bif decide ((len code) > 1048576) then
    some ((true, ()), ())
  else
    (c_s_DrawRunOps code).bind fun r16 =>
    (c_i_RunOps r16.1.1).bind fun r19 =>
    (c_s_RunOps r16.1.1).bind fun r24 =>
    (c_l_equalMachine r19.1.1.1 r19.1.1.2.1 r19.1.1.2.2.1 r19.1.1.2.2.2.1 r24.1.1.1 r24.1.1.2.1 r24.1.1.2.2.1 r24.1.1.2.2.2.1).bind fun r29 =>
    bif (!r29.1.1) then
      jn (fun t => B_l_FnRunOpsCut_J0 k c_s_DrawRunOps c_i_RunOps c_s_RunOps c_l_equalMachine c_i_StepMachine t.1 t.2.1.1 t.2.1.2.1 t.2.1.2.2.1 t.2.1.2.2.2.1 t.2.2.1 t.2.2.2.1.1 t.2.2.2.1.2.1 t.2.2.2.1.2.2.1 t.2.2.2.1.2.2.2.1 t.2.2.2.2.1 t.2.2.2.2.2.1) (r16.1.1, (r19.1.1.1, r19.1.1.2.1, r19.1.1.2.2.1, r19.1.1.2.2.2.1, ()), r19.1.2.1, (r24.1.1.1, r24.1.1.2.1, r24.1.1.2.2.1, r24.1.1.2.2.2.1, ()), r24.1.2.1, true, ())
    else
      bif (r19.1.2.1 != r24.1.2.1) then
        jn (fun t => B_l_FnRunOpsCut_J0 k c_s_DrawRunOps c_i_RunOps c_s_RunOps c_l_equalMachine c_i_StepMachine t.1 t.2.1.1 t.2.1.2.1 t.2.1.2.2.1 t.2.1.2.2.2.1 t.2.2.1 t.2.2.2.1.1 t.2.2.2.1.2.1 t.2.2.2.1.2.2.1 t.2.2.2.1.2.2.2.1 t.2.2.2.2.1 t.2.2.2.2.2.1) (r16.1.1, (r19.1.1.1, r19.1.1.2.1, r19.1.1.2.2.1, r19.1.1.2.2.2.1, ()), r19.1.2.1, (r24.1.1.1, r24.1.1.2.1, r24.1.1.2.2.1, r24.1.1.2.2.2.1, ()), r24.1.2.1, true, ())
      else
        jn (fun t => B_l_FnRunOpsCut_J0 k c_s_DrawRunOps c_i_RunOps c_s_RunOps c_l_equalMachine c_i_StepMachine t.1 t.2.1.1 t.2.1.2.1 t.2.1.2.2.1 t.2.1.2.2.2.1 t.2.2.1 t.2.2.2.1.1 t.2.2.2.1.2.1 t.2.2.2.1.2.2.1 t.2.2.2.1.2.2.2.1 t.2.2.2.2.1 t.2.2.2.2.2.1) (r16.1.1, (r19.1.1.1, r19.1.1.2.1, r19.1.1.2.2.1, r19.1.1.2.2.2.1, ()), r19.1.2.1, (r24.1.1.1, r24.1.1.2.1, r24.1.1.2.2.1, r24.1.1.2.2.2.1, ()), r24.1.2.1, decide (r19.1.2.1 < 0), ())
def F_l_FnRunOpsCut : Nat → C_l_FnRunOpsCut
  | 0, _ => none
  | k + 1, code => B_l_FnRunOpsCut k (F_s_DrawRunOps k) (F_i_RunOps k) (F_s_RunOps k) (F_l_equalMachine k) (F_i_StepMachine k) code
theorem tot_l_FnRunOpsCut {code : _} {Q : _ → Prop} (h : Tot (fun σ => B_l_FnRunOpsCut (σ 0) (F_s_DrawRunOps (σ 0)) (F_i_RunOps (σ 0)) (F_s_RunOps (σ 0)) (F_l_equalMachine (σ 0)) (F_i_StepMachine (σ 0)) code) Q) : Tot (fun σ => F_l_FnRunOpsCut (σ 0) code) Q :=
  Tot.call (F := fun k => F_l_FnRunOpsCut k code) (B := fun k => B_l_FnRunOpsCut k (F_s_DrawRunOps k) (F_i_RunOps k) (F_s_RunOps k) (F_l_equalMachine k) (F_i_StepMachine k) code) (fun k => rfl) h
end Go.Gx

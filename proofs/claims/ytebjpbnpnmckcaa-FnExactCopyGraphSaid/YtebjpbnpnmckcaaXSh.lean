/-
  The functions, as Gx tells them (printed by gen.py).
-/
import Derived.Test.YtebjpbnpnmckcaaXSh1
set_option linter.unusedVariables false
namespace Go.Gx
def B_Z23_J0 (k : Nat) (c_Z9 : C_Z9) (c_Z10 : C_Z10) (c_Z16 : C_Z16) (c_Z8 : C_Z8) (c_Z17 : C_Z17) (c_Z21 : C_Z21) (c_Z22 : C_Z22) (m_Nodes : List (Int × Int × List Int)) (m_Stack m_Memo : List Int) (m_Done : Bool) (kids : List Int) (t183 : Bool) (x : Option Nat) : R_Z23 :=
  bif t183 then
    some ((false, ()), (((true, m_Nodes), m_Stack, m_Memo, m_Done, ()), ()))
  else
    (x).bind fun p9 =>
    chk (decide (p9 < m_Nodes.length)) <|
    some ((true, ()), (((true, (m_Nodes.set p9 ((m_Nodes.getD p9 ((0 : Int), ((0 : Int), ([] : List Int)))).1, (((m_Nodes.getD p9 ((0 : Int), ((0 : Int), ([] : List Int)))).2).1, kids)))), m_Stack, m_Memo, m_Done, ()), ()))
def B_Z23_J1 (k : Nat) (c_Z9 : C_Z9) (c_Z10 : C_Z10) (c_Z16 : C_Z16) (c_Z8 : C_Z8) (c_Z17 : C_Z17) (c_Z21 : C_Z21) (c_Z22 : C_Z22) (m_Nodes : List (Int × Int × List Int)) (m_Stack m_Memo : List Int) (m_Done : Bool) : R_Z23 :=
  some ((m_Done, ()), (((true, m_Nodes), m_Stack, m_Memo, m_Done, ()), ()))
def B_Z23 (k : Nat) (c_Z9 : C_Z9) (c_Z10 : C_Z10) (c_Z16 : C_Z16) (c_Z8 : C_Z8) (c_Z17 : C_Z17) (c_Z21 : C_Z21) (c_Z22 : C_Z22) (m_Nodes : List (Int × Int × List Int)) (m_Stack m_Memo : List Int) (m_Done : Bool) (o_0 o_1 : Int) : R_Z23 :=
  (c_Z9 m_Nodes m_Stack m_Memo m_Done).bind fun r23 =>
  bif (o_0 == 0) then
    (c_Z10 r23.2.1.1 r23.2.1.2.1 r23.2.1.2.2.1 r23.2.1.2.2.2.1 0 o_1 ([])).bind fun r31 =>
    some ((r31.1.1, ()), (((false, r31.2.1.1), r31.2.1.2.1, r31.2.1.2.2.1, r31.2.1.2.2.2.1, ()), ()))
  else
    bif (o_0 == 1) then
      (c_Z10 r23.2.1.1 r23.2.1.2.1 r23.2.1.2.2.1 r23.2.1.2.2.2.1 1 o_1 ([])).bind fun r37 =>
      some ((r37.1.1, ()), (((false, r37.2.1.1), r37.2.1.2.1, r37.2.1.2.2.1, r37.2.1.2.2.2.1, ()), ()))
    else
      bif (o_0 == 13) then
        (c_Z10 r23.2.1.1 r23.2.1.2.1 r23.2.1.2.2.1 r23.2.1.2.2.2.1 5 o_1 ([])).bind fun r43 =>
        some ((r43.1.1, ()), (((false, r43.2.1.1), r43.2.1.2.1, r43.2.1.2.2.1, r43.2.1.2.2.2.1, ()), ()))
      else
        bif (o_0 == 4) then
          (c_Z10 r23.2.1.1 r23.2.1.2.1 r23.2.1.2.2.1 r23.2.1.2.2.2.1 2 0 ([])).bind fun r47 =>
          some ((r47.1.1, ()), (((false, r47.2.1.1), r47.2.1.2.1, r47.2.1.2.2.1, r47.2.1.2.2.2.1, ()), ()))
        else
          bif (o_0 == 7) then
            (c_Z10 r23.2.1.1 r23.2.1.2.1 r23.2.1.2.2.1 r23.2.1.2.2.2.1 3 0 ([])).bind fun r51 =>
            some ((r51.1.1, ()), (((false, r51.2.1.1), r51.2.1.2.1, r51.2.1.2.2.1, r51.2.1.2.2.2.1, ()), ()))
          else
            bif (o_0 == 10) then
              (c_Z10 r23.2.1.1 r23.2.1.2.1 r23.2.1.2.2.1 r23.2.1.2.2.2.1 4 0 ([])).bind fun r55 =>
              some ((r55.1.1, ()), (((false, r55.2.1.1), r55.2.1.2.1, r55.2.1.2.2.1, r55.2.1.2.2.2.1, ()), ()))
            else
              bif (o_0 == 2) then
                (c_Z16 r23.2.1.1 r23.2.1.2.1 r23.2.1.2.2.1 r23.2.1.2.2.2.1 (-1)).bind fun r59 =>
                some ((r59.1.1, ()), (((true, r59.2.1.1), r59.2.1.2.1, r59.2.1.2.2.1, r59.2.1.2.2.2.1, ()), ()))
              else
                bif (o_0 == 3) then
                  (c_Z8 r23.2.1.1 r23.2.1.2.1 r23.2.1.2.2.1 r23.2.1.2.2.2.1).bind fun r64 =>
                  bif r64.1.2.1 then
                    (c_Z10 r64.2.1.1 r64.2.1.2.1 r64.2.1.2.2.1 r64.2.1.2.2.2.1 2 0 r64.1.1).bind fun r71 =>
                    some ((r71.1.1, ()), (((false, r71.2.1.1), r71.2.1.2.1, r71.2.1.2.2.1, r71.2.1.2.2.2.1, ()), ()))
                  else
                    some ((false, ()), (((true, r64.2.1.1), r64.2.1.2.1, r64.2.1.2.2.1, r64.2.1.2.2.2.1, ()), ()))
                else
                  bif (o_0 == 5) then
                    bif decide (r23.1.1 ≥ 1) then
                      (c_Z17 r23.2.1.1 r23.2.1.2.1 r23.2.1.2.2.1 r23.2.1.2.2.2.1 1).bind fun r80 =>
                      (c_Z10 r80.2.1.1 r80.2.1.2.1 r80.2.1.2.2.1 r80.2.1.2.2.2.1 2 0 r80.1.1).bind fun r81 =>
                      some ((r81.1.1, ()), (((false, r81.2.1.1), r81.2.1.2.1, r81.2.1.2.2.1, r81.2.1.2.2.2.1, ()), ()))
                    else
                      some ((false, ()), (((true, r23.2.1.1), r23.2.1.2.1, r23.2.1.2.2.1, r23.2.1.2.2.2.1, ()), ()))
                  else
                    bif (o_0 == 6) then
                      bif decide (r23.1.1 ≥ 2) then
                        (c_Z17 r23.2.1.1 r23.2.1.2.1 r23.2.1.2.2.1 r23.2.1.2.2.2.1 2).bind fun r90 =>
                        (c_Z10 r90.2.1.1 r90.2.1.2.1 r90.2.1.2.2.1 r90.2.1.2.2.2.1 2 0 r90.1.1).bind fun r91 =>
                        some ((r91.1.1, ()), (((false, r91.2.1.1), r91.2.1.2.1, r91.2.1.2.2.1, r91.2.1.2.2.2.1, ()), ()))
                      else
                        some ((false, ()), (((true, r23.2.1.1), r23.2.1.2.1, r23.2.1.2.2.1, r23.2.1.2.2.2.1, ()), ()))
                    else
                      bif (o_0 == 8) then
                        bif decide (r23.1.1 < 2) then
                          some ((false, ()), (((true, r23.2.1.1), r23.2.1.2.1, r23.2.1.2.2.1, r23.2.1.2.2.2.1, ()), ()))
                        else
                          (c_Z17 r23.2.1.1 r23.2.1.2.1 r23.2.1.2.2.1 r23.2.1.2.2.2.1 1).bind fun r98 =>
                          (c_Z21 r98.2.1.1 r98.2.1.2.1 r98.2.1.2.2.1 r98.2.1.2.2.2.1 3).bind fun r101 =>
                          bif r101.1.2.1 then
                            (r101.1.1).bind fun p0 =>
                            chk (decide (p0 < r101.2.1.1.length)) <|
                            chk (room (((r101.2.1.1.getD p0 ((0 : Int), ((0 : Int), ([] : List Int)))).2).2).length r98.1.1.length) <|
                            (r101.1.1).bind fun p1 =>
                            chk (decide (p1 = p0)) <|
                            let w2 : List (Int × Int × List Int) := (r101.2.1.1.set p1 ((r101.2.1.1.getD p1 ((0 : Int), ((0 : Int), ([] : List Int)))).1, (((r101.2.1.1.getD p1 ((0 : Int), ((0 : Int), ([] : List Int)))).2).1, (((r101.2.1.1.getD p0 ((0 : Int), ((0 : Int), ([] : List Int)))).2).2 ++ r98.1.1))))
                            some ((r101.1.2.1, ()), (((true, w2), r101.2.1.2.1, r101.2.1.2.2.1, r101.2.1.2.2.2.1, ()), ()))
                          else
                            some ((r101.1.2.1, ()), (((true, r101.2.1.1), r101.2.1.2.1, r101.2.1.2.2.1, r101.2.1.2.2.2.1, ()), ()))
                      else
                        bif (o_0 == 9) then
                          (c_Z8 r23.2.1.1 r23.2.1.2.1 r23.2.1.2.2.1 r23.2.1.2.2.2.1).bind fun r119 =>
                          bif (!r119.1.2.1) then
                            some ((false, ()), (((true, r119.2.1.1), r119.2.1.2.1, r119.2.1.2.2.1, r119.2.1.2.2.2.1, ()), ()))
                          else
                            (c_Z21 r119.2.1.1 r119.2.1.2.1 r119.2.1.2.2.1 r119.2.1.2.2.2.1 3).bind fun r126 =>
                            bif r126.1.2.1 then
                              (r126.1.1).bind fun p3 =>
                              chk (decide (p3 < r126.2.1.1.length)) <|
                              chk (room (((r126.2.1.1.getD p3 ((0 : Int), ((0 : Int), ([] : List Int)))).2).2).length r119.1.1.length) <|
                              (r126.1.1).bind fun p4 =>
                              chk (decide (p4 = p3)) <|
                              let w5 : List (Int × Int × List Int) := (r126.2.1.1.set p4 ((r126.2.1.1.getD p4 ((0 : Int), ((0 : Int), ([] : List Int)))).1, (((r126.2.1.1.getD p4 ((0 : Int), ((0 : Int), ([] : List Int)))).2).1, (((r126.2.1.1.getD p3 ((0 : Int), ((0 : Int), ([] : List Int)))).2).2 ++ r119.1.1))))
                              some ((r126.1.2.1, ()), (((true, w5), r126.2.1.2.1, r126.2.1.2.2.1, r126.2.1.2.2.2.1, ()), ()))
                            else
                              some ((r126.1.2.1, ()), (((true, r126.2.1.1), r126.2.1.2.1, r126.2.1.2.2.1, r126.2.1.2.2.2.1, ()), ()))
                        else
                          bif (o_0 == 11) then
                            bif decide (r23.1.1 ≥ 3) then
                              (c_Z17 r23.2.1.1 r23.2.1.2.1 r23.2.1.2.2.1 r23.2.1.2.2.2.1 2).bind fun r147 =>
                              (c_Z22 r147.2.1.1 r147.2.1.2.1 r147.2.1.2.2.1 r147.2.1.2.2.2.1 r147.1.1).bind fun r148 =>
                              some ((r148.1.1, ()), (((true, r148.2.1.1), r148.2.1.2.1, r148.2.1.2.2.1, r148.2.1.2.2.2.1, ()), ()))
                            else
                              some ((false, ()), (((true, r23.2.1.1), r23.2.1.2.1, r23.2.1.2.2.1, r23.2.1.2.2.2.1, ()), ()))
                          else
                            bif (o_0 == 12) then
                              (c_Z8 r23.2.1.1 r23.2.1.2.1 r23.2.1.2.2.1 r23.2.1.2.2.2.1).bind fun r154 =>
                              bif r154.1.2.1 then
                                (c_Z22 r154.2.1.1 r154.2.1.2.1 r154.2.1.2.2.1 r154.2.1.2.2.2.1 r154.1.1).bind fun r161 =>
                                some ((r161.1.1, ()), (((true, r161.2.1.1), r161.2.1.2.1, r161.2.1.2.2.1, r161.2.1.2.2.2.1, ()), ()))
                              else
                                some ((false, ()), (((true, r154.2.1.1), r154.2.1.2.1, r154.2.1.2.2.1, r154.2.1.2.2.2.1, ()), ()))
                            else
                              bif (o_0 == 14) then
                                bif decide (r23.1.1 < 2) then
                                  some ((false, ()), (((true, r23.2.1.1), r23.2.1.2.1, r23.2.1.2.2.1, r23.2.1.2.2.2.1, ()), ()))
                                else
                                  (c_Z17 r23.2.1.1 r23.2.1.2.1 r23.2.1.2.2.1 r23.2.1.2.2.2.1 1).bind fun r168 =>
                                  (c_Z21 r168.2.1.1 r168.2.1.2.1 r168.2.1.2.2.1 r168.2.1.2.2.2.1 5).bind fun r171 =>
                                  bif (!r171.1.2.1) then
                                    jn (fun t => B_Z23_J0 k c_Z9 c_Z10 c_Z16 c_Z8 c_Z17 c_Z21 c_Z22 t.1.1 t.1.2.1 t.1.2.2.1 t.1.2.2.2.1 t.2.1 t.2.2.1 t.2.2.2.1) ((r171.2.1.1, r171.2.1.2.1, r171.2.1.2.2.1, r171.2.1.2.2.2.1, ()), r168.1.1, true, r171.1.1, ())
                                  else
                                    (r171.1.1).bind fun p10 =>
                                    chk (decide (p10 < r171.2.1.1.length)) <|
                                    jn (fun t => B_Z23_J0 k c_Z9 c_Z10 c_Z16 c_Z8 c_Z17 c_Z21 c_Z22 t.1.1 t.1.2.1 t.1.2.2.1 t.1.2.2.2.1 t.2.1 t.2.2.1 t.2.2.2.1) (((r171.2.1.1.set p10 ((r171.2.1.1.getD p10 ((0 : Int), ((0 : Int), ([] : List Int)))).1, (((r171.2.1.1.getD p10 ((0 : Int), ((0 : Int), ([] : List Int)))).2).1, ((r171.2.1.1.getD p10 ((0 : Int), ((0 : Int), ([] : List Int)))).2).2))), r171.2.1.2.1, r171.2.1.2.2.1, r171.2.1.2.2.2.1, ()), r168.1.1, decide ((len (((r171.2.1.1.getD p10 ((0 : Int), ((0 : Int), ([] : List Int)))).2).2)) > 0), r171.1.1, ())
                              else
                                bif (o_0 == 15) then
                                  bif decide (r23.1.1 < 1) then
                                    some ((false, ()), (((true, r23.2.1.1), r23.2.1.2.1, r23.2.1.2.2.1, r23.2.1.2.2.2.1, ()), ()))
                                  else
                                    chk (inb (w64 ((len r23.2.1.2.1) - 1)) r23.2.1.2.1.length) <|
                                    chk (decide ((w64 ((len r23.2.1.2.1) - 1)).toNat < r23.2.1.2.1.length)) <|
                                    chk (inb o_1 r23.2.1.2.2.1.length) <|
                                    chk (decide (o_1.toNat < r23.2.1.2.2.1.length)) <|
                                    some ((true, ()), (((true, r23.2.1.1), r23.2.1.2.1, (r23.2.1.2.2.1.set o_1.toNat (r23.2.1.2.1.getD ((w64 ((len r23.2.1.2.1) - 1)).toNat) (0 : Int))), r23.2.1.2.2.2.1, ()), ()))
                                else
                                  bif (o_0 == 16) then
                                    chk (inb o_1 r23.2.1.2.2.1.length) <|
                                    chk (decide (o_1.toNat < r23.2.1.2.2.1.length)) <|
                                    bif decide ((r23.2.1.2.2.1.getD o_1.toNat (0 : Int)) ≥ 0) then
                                      chk (inb o_1 r23.2.1.2.2.1.length) <|
                                      chk (decide (o_1.toNat < r23.2.1.2.2.1.length)) <|
                                      (c_Z16 r23.2.1.1 r23.2.1.2.1 r23.2.1.2.2.1 r23.2.1.2.2.2.1 (r23.2.1.2.2.1.getD o_1.toNat (0 : Int))).bind fun r232 =>
                                      some ((r232.1.1, ()), (((true, r232.2.1.1), r232.2.1.2.1, r232.2.1.2.2.1, r232.2.1.2.2.2.1, ()), ()))
                                    else
                                      some ((false, ()), (((true, r23.2.1.1), r23.2.1.2.1, r23.2.1.2.2.1, r23.2.1.2.2.2.1, ()), ()))
                                  else
                                    bif (o_0 == 17) then
                                      bif decide (r23.1.1 < 1) then
                                        some ((false, ()), (((true, r23.2.1.1), r23.2.1.2.1, r23.2.1.2.2.1, r23.2.1.2.2.2.1, ()), ()))
                                      else
                                        (c_Z17 r23.2.1.1 r23.2.1.2.1 r23.2.1.2.2.1 r23.2.1.2.2.2.1 1).bind fun r239 =>
                                        some ((true, ()), (((true, r239.2.1.1), r239.2.1.2.1, r239.2.1.2.2.1, r239.2.1.2.2.2.1, ()), ()))
                                    else
                                      bif (o_0 == 18) then
                                        (c_Z8 r23.2.1.1 r23.2.1.2.1 r23.2.1.2.2.1 r23.2.1.2.2.2.1).bind fun r244 =>
                                        some ((r244.1.2.1, ()), (((true, r244.2.1.1), r244.2.1.2.1, r244.2.1.2.2.1, r244.2.1.2.2.2.1, ()), ()))
                                      else
                                        bif ((len r23.2.1.2.1) == 1) then
                                          jn (fun t => B_Z23_J1 k c_Z9 c_Z10 c_Z16 c_Z8 c_Z17 c_Z21 c_Z22 t.1.1 t.1.2.1 t.1.2.2.1 t.1.2.2.2.1) ((r23.2.1.1, r23.2.1.2.1, r23.2.1.2.2.1, (r23.1.1 == 1), ()), ())
                                        else
                                          jn (fun t => B_Z23_J1 k c_Z9 c_Z10 c_Z16 c_Z8 c_Z17 c_Z21 c_Z22 t.1.1 t.1.2.1 t.1.2.2.1 t.1.2.2.2.1) ((r23.2.1.1, r23.2.1.2.1, r23.2.1.2.2.1, false, ()), ())
def F_Z23 : Nat → C_Z23
  | 0, _, _, _, _, _, _ => none
  | k + 1, m_Nodes, m_Stack, m_Memo, m_Done, o_0, o_1 => B_Z23 k (F_Z9 k) (F_Z10 k) (F_Z16 k) (F_Z8 k) (F_Z17 k) (F_Z21 k) (F_Z22 k) m_Nodes m_Stack m_Memo m_Done o_0 o_1
theorem tot_Z23 {m_Nodes m_Stack m_Memo m_Done o_0 o_1 : _} {Q : _ → Prop} (h : Tot (fun σ => B_Z23 (σ 0) (F_Z9 (σ 0)) (F_Z10 (σ 0)) (F_Z16 (σ 0)) (F_Z8 (σ 0)) (F_Z17 (σ 0)) (F_Z21 (σ 0)) (F_Z22 (σ 0)) m_Nodes m_Stack m_Memo m_Done o_0 o_1) Q) : Tot (fun σ => F_Z23 (σ 0) m_Nodes m_Stack m_Memo m_Done o_0 o_1) Q :=
  Tot.call (F := fun k => F_Z23 k m_Nodes m_Stack m_Memo m_Done o_0 o_1) (B := fun k => B_Z23 k (F_Z9 k) (F_Z10 k) (F_Z16 k) (F_Z8 k) (F_Z17 k) (F_Z21 k) (F_Z22 k) m_Nodes m_Stack m_Memo m_Done o_0 o_1) (fun k => rfl) h
abbrev R_Z11 : Type := Option ((Bool × Unit) × (((Option (List (Int × Int × List Int))) × List Int × List Int × Bool × Unit) × Unit))
abbrev C_Z11 : Type := (List (Int × Int × List Int)) → List Int → List Int → Bool → Int → Int → R_Z11
def B_Z11 (k : Nat) (c_Z5 : C_Z5) (c_Z23 : C_Z23) (m_Nodes : List (Int × Int × List Int)) (m_Stack m_Memo : List Int) (m_Done : Bool) (o_0 o_1 : Int) : R_Z11 :=
  (c_Z5 m_Stack).bind fun r15 =>
  bif (!m_Done) then
    (c_Z23 m_Nodes m_Stack m_Memo m_Done o_0 o_1).bind fun r24 =>
    bif r24.1.1 then
      some ((true, ()), (((some r24.2.1.1.2), r24.2.1.2.1, r24.2.1.2.2.1, r24.2.1.2.2.2.1, ()), ()))
    else
      some ((false, ()), (((bif r24.2.1.1.1 then some r24.2.1.1.2 else none), r15.1.1, r24.2.1.2.2.1, r24.2.1.2.2.2.1, ()), ()))
  else
    some ((false, ()), (((some m_Nodes), r15.1.1, m_Memo, m_Done, ()), ()))
def F_Z11 : Nat → C_Z11
  | 0, _, _, _, _, _, _ => none
  | k + 1, m_Nodes, m_Stack, m_Memo, m_Done, o_0, o_1 => B_Z11 k (F_Z5 k) (F_Z23 k) m_Nodes m_Stack m_Memo m_Done o_0 o_1
theorem tot_Z11 {m_Nodes m_Stack m_Memo m_Done o_0 o_1 : _} {Q : _ → Prop} (h : Tot (fun σ => B_Z11 (σ 0) (F_Z5 (σ 0)) (F_Z23 (σ 0)) m_Nodes m_Stack m_Memo m_Done o_0 o_1) Q) : Tot (fun σ => F_Z11 (σ 0) m_Nodes m_Stack m_Memo m_Done o_0 o_1) Q :=
  Tot.call (F := fun k => F_Z11 k m_Nodes m_Stack m_Memo m_Done o_0 o_1) (B := fun k => B_Z11 k (F_Z5 k) (F_Z23 k) m_Nodes m_Stack m_Memo m_Done o_0 o_1) (fun k => rfl) h
abbrev R_Z34 : Type := Option (((List (Int × Int × List Int)) × Unit) × (Unit))
abbrev C_Z34 : Type := (List (Int × Int × List Int)) → R_Z34
abbrev T_Z34_L0 : Type := (List (Int × Int × List Int)) × (List (Int × Int × List Int)) × Int × Int × Unit
def B_Z34_L0b (k : Nat) (c_Z5 : C_Z5) (again0 : T_Z34_L0 → R_Z34) (out t7 : List (Int × Int × List Int)) (t8 t9 : Int) : R_Z34 :=
  bif decide (t9 < t8) then
    chk (inb t9 t7.length) <|
    (c_Z5 (((rdx ((0 : Int), ((0 : Int), ([] : List Int))) t7 t9).2).2)).bind fun r20 =>
    chk (room out.length ([((rdx ((0 : Int), ((0 : Int), ([] : List Int))) t7 t9).1, (((rdx ((0 : Int), ((0 : Int), ([] : List Int))) t7 t9).2).1, r20.1.1))]).length) <|
    again0 ((out ++ [((rdx ((0 : Int), ((0 : Int), ([] : List Int))) t7 t9).1, (((rdx ((0 : Int), ((0 : Int), ([] : List Int))) t7 t9).2).1, r20.1.1))]), t7, t8, w64 (t9 + 1), ())
  else
    some ((out, ()), ())
def B_Z34_L0 (k : Nat) (c_Z5 : C_Z5) (n : Nat) (t : T_Z34_L0) : R_Z34 :=
  lfix n (fun again t => B_Z34_L0b k c_Z5 again t.1 t.2.1 t.2.2.1 t.2.2.2.1) t
def B_Z34 (k : Nat) (c_Z5 : C_Z5) (nodes : List (Int × Int × List Int)) : R_Z34 :=
  B_Z34_L0 k c_Z5 k ([], nodes, len nodes, 0, ())
def F_Z34 : Nat → C_Z34
  | 0, _ => none
  | k + 1, nodes => B_Z34 k (F_Z5 k) nodes
theorem tot_Z34 {nodes : _} {Q : _ → Prop} (h : Tot (fun σ => B_Z34 (σ 0) (F_Z5 (σ 0)) nodes) Q) : Tot (fun σ => F_Z34 (σ 0) nodes) Q :=
  Tot.call (F := fun k => F_Z34 k nodes) (B := fun k => B_Z34 k (F_Z5 k) nodes) (fun k => rfl) h
abbrev A_Z34_L0 (Z : Type) : Type := (List (Int × Int × List Int)) → (List (Int × Int × List Int)) → Int → Int → Z
abbrev u_Z34_L0 {Z : Type} (f : A_Z34_L0 Z) (t : T_Z34_L0) : Z := f t.1 t.2.1 t.2.2.1 t.2.2.2.1
theorem loop_Z34_L0 {Q : A_Z34_L0 ((((List (Int × Int × List Int)) × Unit) × (Unit)) → Prop)} (I : A_Z34_L0 Prop) (μ : A_Z34_L0 Nat)
    (step : ∀ a0 a1 a2 a3, I a0 a1 a2 a3 → ∀ again : (Nat → Nat) → T_Z34_L0 → R_Z34, Dep 2 again → (∀ y0 y1 y2 y3, I y0 y1 y2 y3 → μ y0 y1 y2 y3 < μ a0 a1 a2 a3 → Tot (fun σ => again σ (y0, y1, y2, y3, ())) (Q y0 y1 y2 y3)) →
      Tot (fun σ => B_Z34_L0b (σ 0) (F_Z5 (σ 0)) (again σ) a0 a1 a2 a3) (Q a0 a1 a2 a3)) :
    ∀ a0 a1 a2 a3, I a0 a1 a2 a3 → Tot (fun σ => B_Z34_L0 (σ 0) (F_Z5 (σ 0)) (σ 0) (a0, a1, a2, a3, ())) (Q a0 a1 a2 a3) := fun a0 a1 a2 a3 => Tot.loop0 (L := fun k => B_Z34_L0 k (F_Z5 k)) (B := fun k g => u_Z34_L0 (B_Z34_L0b k (F_Z5 k) g)) (Q := u_Z34_L0 Q) (fun _ _ _ => rfl) (u_Z34_L0 I) (u_Z34_L0 μ)
    (fun t ht again hag h => step t.1 t.2.1 t.2.2.1 t.2.2.2.1 ht again hag fun y0 y1 y2 y3 => h (y0, y1, y2, y3, ())) (a0, a1, a2, a3, ())
abbrev R_Z19 : Type := Option ((((List (Int × Int × List Int)) × List Int × List Int × Bool × Unit) × Unit) × (Unit))
abbrev C_Z19 : Type := (List (Int × Int × List Int)) → List Int → List Int → Bool → R_Z19
def B_Z19 (k : Nat) (c_Z34 : C_Z34) (c_Z5 : C_Z5) (m_0 : List (Int × Int × List Int)) (m_1 m_2 : List Int) (m_3 : Bool) : R_Z19 :=
  (c_Z34 m_0).bind fun r5 =>
  (c_Z5 m_1).bind fun r8 =>
  (c_Z5 m_2).bind fun r11 =>
  some (((r5.1.1, r8.1.1, r11.1.1, m_3, ()), ()), ())
def F_Z19 : Nat → C_Z19
  | 0, _, _, _, _ => none
  | k + 1, m_0, m_1, m_2, m_3 => B_Z19 k (F_Z34 k) (F_Z5 k) m_0 m_1 m_2 m_3
theorem tot_Z19 {m_0 m_1 m_2 m_3 : _} {Q : _ → Prop} (h : Tot (fun σ => B_Z19 (σ 0) (F_Z34 (σ 0)) (F_Z5 (σ 0)) m_0 m_1 m_2 m_3) Q) : Tot (fun σ => F_Z19 (σ 0) m_0 m_1 m_2 m_3) Q :=
  Tot.call (F := fun k => F_Z19 k m_0 m_1 m_2 m_3) (B := fun k => B_Z19 k (F_Z34 k) (F_Z5 k) m_0 m_1 m_2 m_3) (fun k => rfl) h
abbrev R_Z14 : Type := Option ((Unit) × (Unit))
abbrev C_Z14 : Type := (List (Int × Int × List Int)) → List Int → List Int → Bool → R_Z14
def B_Z14 (k : Nat) (t0_0 : List (Int × Int × List Int)) (t0_1 t0_2 : List Int) (t0_3 : Bool) : R_Z14 :=
  some ((), ())
def F_Z14 : Nat → C_Z14
  | 0, _, _, _, _ => none
  | k + 1, t0_0, t0_1, t0_2, t0_3 => B_Z14 k t0_0 t0_1 t0_2 t0_3
theorem tot_Z14 {t0_0 t0_1 t0_2 t0_3 : _} {Q : _ → Prop} (h : Tot (fun σ => B_Z14 (σ 0) t0_0 t0_1 t0_2 t0_3) Q) : Tot (fun σ => F_Z14 (σ 0) t0_0 t0_1 t0_2 t0_3) Q :=
  Tot.call (F := fun k => F_Z14 k t0_0 t0_1 t0_2 t0_3) (B := fun k => B_Z14 k t0_0 t0_1 t0_2 t0_3) (fun k => rfl) h
abbrev R_Z3 : Type := Option ((((List (Int × Int × List Int)) × List Int × List Int × Bool × Unit) × Int × Unit) × (Unit))
abbrev C_Z3 : Type := (List (Int × Int)) → R_Z3
abbrev T_Z3_L0 : Type := (List (Int × Int)) × Unit × (Unit × Unit × Unit × Bool × Unit) × ((List (Int × Int × List Int)) × List Int × List Int × Bool × Unit) × (List (Int × Int)) × Int × Int × Unit
def B_Z3_L0b (k : Nat) (c_Z24 : C_Z24) (c_Z11 : C_Z11) (c_Z19 : C_Z19) (c_Z14 : C_Z14) (again0 : T_Z3_L0 → R_Z3) (ops : List (Int × Int)) (t4_Done : Bool) (m_Nodes : List (Int × Int × List Int)) (m_Stack m_Memo : List Int) (m_Done : Bool) (t10 : List (Int × Int)) (t11 t12 : Int) : R_Z3 :=
  bif decide (t12 < t11) then
    chk (inb t12 t10.length) <|
    (c_Z11 m_Nodes m_Stack m_Memo m_Done ((rdx ((0 : Int), (0 : Int)) t10 t12).1) ((rdx ((0 : Int), (0 : Int)) t10 t12).2)).bind fun r18 =>
    bif (!r18.1.1) then
      (r18.2.1.1).bind fun p25 =>
      (c_Z19 p25 r18.2.1.2.1 r18.2.1.2.2.1 r18.2.1.2.2.2.1).bind fun r21 =>
      some (((r21.1.1.1, r21.1.1.2.1, r21.1.1.2.2.1, r21.1.1.2.2.2.1, ()), t12, ()), ())
    else
      (r18.2.1.1).bind fun p26 =>
      (c_Z14 p26 r18.2.1.2.1 r18.2.1.2.2.1 r18.2.1.2.2.2.1).bind fun r25 =>
      (r18.2.1.1).bind fun p27 =>
      again0 (ops, (), ((), (), (), t4_Done, ()), (p27, r18.2.1.2.1, r18.2.1.2.2.1, r18.2.1.2.2.2.1, ()), t10, t11, w64 (t12 + 1), ())
  else
    (c_Z19 m_Nodes m_Stack m_Memo m_Done).bind fun r28 =>
    some (((r28.1.1.1, r28.1.1.2.1, r28.1.1.2.2.1, r28.1.1.2.2.2.1, ()), len ops, ()), ())
def B_Z3_L0 (k : Nat) (c_Z24 : C_Z24) (c_Z11 : C_Z11) (c_Z19 : C_Z19) (c_Z14 : C_Z14) (n : Nat) (t : T_Z3_L0) : R_Z3 :=
  lfix n (fun again t => B_Z3_L0b k c_Z24 c_Z11 c_Z19 c_Z14 again t.1 t.2.2.1.2.2.2.1 t.2.2.2.1.1 t.2.2.2.1.2.1 t.2.2.2.1.2.2.1 t.2.2.2.1.2.2.2.1 t.2.2.2.2.1 t.2.2.2.2.2.1 t.2.2.2.2.2.2.1) t
def B_Z3 (k : Nat) (c_Z24 : C_Z24) (c_Z11 : C_Z11) (c_Z19 : C_Z19) (c_Z14 : C_Z14) (ops : List (Int × Int)) : R_Z3 :=
  (c_Z24 0).bind fun r9 =>
  B_Z3_L0 k c_Z24 c_Z11 c_Z19 c_Z14 k (ops, (), ((), (), (), false, ()), (r9.1.1.1, [], r9.1.1.2.2.1, r9.1.1.2.2.2.1, ()), ops, len ops, 0, ())
def F_Z3 : Nat → C_Z3
  | 0, _ => none
  | k + 1, ops => B_Z3 k (F_Z24 k) (F_Z11 k) (F_Z19 k) (F_Z14 k) ops
theorem tot_Z3 {ops : _} {Q : _ → Prop} (h : Tot (fun σ => B_Z3 (σ 0) (F_Z24 (σ 0)) (F_Z11 (σ 0)) (F_Z19 (σ 0)) (F_Z14 (σ 0)) ops) Q) : Tot (fun σ => F_Z3 (σ 0) ops) Q :=
  Tot.call (F := fun k => F_Z3 k ops) (B := fun k => B_Z3 k (F_Z24 k) (F_Z11 k) (F_Z19 k) (F_Z14 k) ops) (fun k => rfl) h
abbrev A_Z3_L0 (Z : Type) : Type := (List (Int × Int)) → Bool → (List (Int × Int × List Int)) → List Int → List Int → Bool → (List (Int × Int)) → Int → Int → Z
abbrev u_Z3_L0 {Z : Type} (f : A_Z3_L0 Z) (t : T_Z3_L0) : Z := f t.1 t.2.2.1.2.2.2.1 t.2.2.2.1.1 t.2.2.2.1.2.1 t.2.2.2.1.2.2.1 t.2.2.2.1.2.2.2.1 t.2.2.2.2.1 t.2.2.2.2.2.1 t.2.2.2.2.2.2.1
theorem loop_Z3_L0 {Q : A_Z3_L0 (((((List (Int × Int × List Int)) × List Int × List Int × Bool × Unit) × Int × Unit) × (Unit)) → Prop)} (I : A_Z3_L0 Prop) (μ : A_Z3_L0 Nat)
    (step : ∀ a0 a1 a2 a3 a4 a5 a6 a7 a8, I a0 a1 a2 a3 a4 a5 a6 a7 a8 → ∀ again : (Nat → Nat) → T_Z3_L0 → R_Z3, Dep 2 again → (∀ y0 y1 y2 y3 y4 y5 y6 y7 y8, I y0 y1 y2 y3 y4 y5 y6 y7 y8 → μ y0 y1 y2 y3 y4 y5 y6 y7 y8 < μ a0 a1 a2 a3 a4 a5 a6 a7 a8 → Tot (fun σ => again σ (y0, (), ((), (), (), y1, ()), (y2, y3, y4, y5, ()), y6, y7, y8, ())) (Q y0 y1 y2 y3 y4 y5 y6 y7 y8)) →
      Tot (fun σ => B_Z3_L0b (σ 0) (F_Z24 (σ 0)) (F_Z11 (σ 0)) (F_Z19 (σ 0)) (F_Z14 (σ 0)) (again σ) a0 a1 a2 a3 a4 a5 a6 a7 a8) (Q a0 a1 a2 a3 a4 a5 a6 a7 a8)) :
    ∀ a0 a1 a2 a3 a4 a5 a6 a7 a8, I a0 a1 a2 a3 a4 a5 a6 a7 a8 → Tot (fun σ => B_Z3_L0 (σ 0) (F_Z24 (σ 0)) (F_Z11 (σ 0)) (F_Z19 (σ 0)) (F_Z14 (σ 0)) (σ 0) (a0, (), ((), (), (), a1, ()), (a2, a3, a4, a5, ()), a6, a7, a8, ())) (Q a0 a1 a2 a3 a4 a5 a6 a7 a8) := fun a0 a1 a2 a3 a4 a5 a6 a7 a8 => Tot.loop0 (L := fun k => B_Z3_L0 k (F_Z24 k) (F_Z11 k) (F_Z19 k) (F_Z14 k)) (B := fun k g => u_Z3_L0 (B_Z3_L0b k (F_Z24 k) (F_Z11 k) (F_Z19 k) (F_Z14 k) g)) (Q := u_Z3_L0 Q) (fun _ _ _ => rfl) (u_Z3_L0 I) (u_Z3_L0 μ)
    (fun t ht again hag h => step t.1 t.2.2.1.2.2.2.1 t.2.2.2.1.1 t.2.2.2.1.2.1 t.2.2.2.1.2.2.1 t.2.2.2.1.2.2.2.1 t.2.2.2.2.1 t.2.2.2.2.2.1 t.2.2.2.2.2.2.1 ht again hag fun y0 y1 y2 y3 y4 y5 y6 y7 y8 => h (y0, (), ((), (), (), y1, ()), (y2, y3, y4, y5, ()), y6, y7, y8, ())) (a0, (), ((), (), (), a1, ()), (a2, a3, a4, a5, ()), a6, a7, a8, ())
abbrev R_Z31 : Type := Option ((((List (Int × Int × List Int)) × Int × Unit) × Bool × Unit) × (Unit))
abbrev C_Z31 : Type := (List (Int × Int)) → R_Z31
def B_Z31_J0 (k : Nat) (c_Z49 : C_Z49) (c_Z3 : C_Z3) (t2_Root : Int) (m_Nodes : List (Int × Int × List Int)) (m_Stack m_Memo : List Int) (m_Done t23 : Bool) : R_Z31 :=
  bif t23 then
    some ((([], 0, ()), false, ()), ())
  else
    chk (inb 0 m_Stack.length) <|
    chk (decide ((0 : Int).toNat < m_Stack.length)) <|
    some (((m_Nodes, (m_Stack.getD ((0 : Int).toNat) (0 : Int)), ()), true, ()), ())
def B_Z31 (k : Nat) (c_Z49 : C_Z49) (c_Z3 : C_Z3) (ops : List (Int × Int)) : R_Z31 :=
  (c_Z49 ops).bind fun r7 =>
  bif (!r7.1.1) then
    some ((([], 0, ()), false, ()), ())
  else
    (c_Z3 ops).bind fun r12 =>
    bif decide (r12.1.2.1 < (len ops)) then
      jn (fun t => B_Z31_J0 k c_Z49 c_Z3 t.1.2.1 t.2.1.1 t.2.1.2.1 t.2.1.2.2.1 t.2.1.2.2.2.1 t.2.2.1) (((), 0, ()), (r12.1.1.1, r12.1.1.2.1, r12.1.1.2.2.1, r12.1.1.2.2.2.1, ()), true, ())
    else
      jn (fun t => B_Z31_J0 k c_Z49 c_Z3 t.1.2.1 t.2.1.1 t.2.1.2.1 t.2.1.2.2.1 t.2.1.2.2.2.1 t.2.2.1) (((), 0, ()), (r12.1.1.1, r12.1.1.2.1, r12.1.1.2.2.1, r12.1.1.2.2.2.1, ()), (!r12.1.1.2.2.2.1), ())
def F_Z31 : Nat → C_Z31
  | 0, _ => none
  | k + 1, ops => B_Z31 k (F_Z49 k) (F_Z3 k) ops
theorem tot_Z31 {ops : _} {Q : _ → Prop} (h : Tot (fun σ => B_Z31 (σ 0) (F_Z49 (σ 0)) (F_Z3 (σ 0)) ops) Q) : Tot (fun σ => F_Z31 (σ 0) ops) Q :=
  Tot.call (F := fun k => F_Z31 k ops) (B := fun k => B_Z31 k (F_Z49 k) (F_Z3 k) ops) (fun k => rfl) h
abbrev R_Z40 : Type := Option ((Unit) × (((List (Int × Bool)) × Unit) × (List Int × Unit) × ((List (Int × Int × List Int)) × Int × Unit) × (Unit × Unit) × Unit))
abbrev C_Z40 : Type := Int → (List (Int × Bool)) → List Int → (List (Int × Int × List Int)) → Int → R_Z40
abbrev T_Z40_L0 : Type := ((List (Int × Bool)) × Unit) × (List Int × Unit) × ((List (Int × Int × List Int)) × Int × Unit) × (Unit × Unit) × List Int × Int × Int × Unit
def B_Z40_L0b (k : Nat) (c_Z40 : C_Z40) (again0 : T_Z40_L0 → R_Z40) (t1 : List (Int × Bool)) (t2 : List Int) (t3_Nodes : List (Int × Int × List Int)) (t3_Root : Int) (t22 : List Int) (t23 t24 : Int) : R_Z40 :=
  bif decide (t24 < t23) then
    chk (inb t24 t22.length) <|
    (c_Z40 (rdx (0 : Int) t22 t24) t1 t2 t3_Nodes t3_Root).bind fun r30 =>
    again0 ((r30.2.1.1, ()), (r30.2.2.1.1, ()), (r30.2.2.2.1.1, r30.2.2.2.1.2.1, ()), ((), ()), t22, t23, w64 (t24 + 1), ())
  else
    some ((), ((t1, ()), (t2, ()), (t3_Nodes, t3_Root, ()), ((), ()), ()))
def B_Z40_L0 (k : Nat) (c_Z40 : C_Z40) (n : Nat) (t : T_Z40_L0) : R_Z40 :=
  lfix n (fun again t => B_Z40_L0b k c_Z40 again t.1.1 t.2.1.1 t.2.2.1.1 t.2.2.1.2.1 t.2.2.2.2.1 t.2.2.2.2.2.1 t.2.2.2.2.2.2.1) t
def B_Z40 (k : Nat) (c_Z40 : C_Z40) (i : Int) (t1 : List (Int × Bool)) (t2 : List Int) (t3_Nodes : List (Int × Int × List Int)) (t3_Root : Int) : R_Z40 :=
  bif ((mfind t1 i).getD false) then
    some ((), ((t1, ()), (t2, ()), (t3_Nodes, t3_Root, ()), ((), ()), ()))
  else
    chk (room t2.length ([i]).length) <|
    chk (inb i t3_Nodes.length) <|
    B_Z40_L0 k c_Z40 k (((mput t1 i true), ()), ((t2 ++ [i]), ()), (t3_Nodes, t3_Root, ()), ((), ()), ((rdx ((0 : Int), ((0 : Int), ([] : List Int))) t3_Nodes i).2).2, len (((rdx ((0 : Int), ((0 : Int), ([] : List Int))) t3_Nodes i).2).2), 0, ())
def F_Z40 : Nat → C_Z40
  | 0, _, _, _, _, _ => none
  | k + 1, i, t1, t2, t3_Nodes, t3_Root => B_Z40 k (F_Z40 k) i t1 t2 t3_Nodes t3_Root
theorem F_Z40_succ (k : Nat) (i : Int) (t1 : List (Int × Bool)) (t2 : List Int) (t3_Nodes : List (Int × Int × List Int)) (t3_Root : Int) : F_Z40 (k + 1) i t1 t2 t3_Nodes t3_Root = B_Z40 k (F_Z40 k) i t1 t2 t3_Nodes t3_Root := by rw [F_Z40]
theorem tot_Z40 {i t1 t2 t3_Nodes t3_Root : _} {Q : _ → Prop} (h : Tot (fun σ => B_Z40 (σ 0) (F_Z40 (σ 0)) i t1 t2 t3_Nodes t3_Root) Q) : Tot (fun σ => F_Z40 (σ 0) i t1 t2 t3_Nodes t3_Root) Q :=
  Tot.call (F := fun k => F_Z40 k i t1 t2 t3_Nodes t3_Root) (B := fun k => B_Z40 k (F_Z40 k) i t1 t2 t3_Nodes t3_Root) (fun k => F_Z40_succ k i t1 t2 t3_Nodes t3_Root) h
abbrev A_Z40_L0 (Z : Type) : Type := (List (Int × Bool)) → List Int → (List (Int × Int × List Int)) → Int → List Int → Int → Int → Z
abbrev u_Z40_L0 {Z : Type} (f : A_Z40_L0 Z) (t : T_Z40_L0) : Z := f t.1.1 t.2.1.1 t.2.2.1.1 t.2.2.1.2.1 t.2.2.2.2.1 t.2.2.2.2.2.1 t.2.2.2.2.2.2.1
theorem loop_Z40_L0 {Q : A_Z40_L0 (((Unit) × (((List (Int × Bool)) × Unit) × (List Int × Unit) × ((List (Int × Int × List Int)) × Int × Unit) × (Unit × Unit) × Unit)) → Prop)} (I : A_Z40_L0 Prop) (μ : A_Z40_L0 Nat)
    (step : ∀ a0 a1 a2 a3 a4 a5 a6, I a0 a1 a2 a3 a4 a5 a6 → ∀ again : (Nat → Nat) → T_Z40_L0 → R_Z40, Dep 2 again → (∀ y0 y1 y2 y3 y4 y5 y6, I y0 y1 y2 y3 y4 y5 y6 → μ y0 y1 y2 y3 y4 y5 y6 < μ a0 a1 a2 a3 a4 a5 a6 → Tot (fun σ => again σ ((y0, ()), (y1, ()), (y2, y3, ()), ((), ()), y4, y5, y6, ())) (Q y0 y1 y2 y3 y4 y5 y6)) →
      Tot (fun σ => B_Z40_L0b (σ 0) (F_Z40 (σ 0)) (again σ) a0 a1 a2 a3 a4 a5 a6) (Q a0 a1 a2 a3 a4 a5 a6)) :
    ∀ a0 a1 a2 a3 a4 a5 a6, I a0 a1 a2 a3 a4 a5 a6 → Tot (fun σ => B_Z40_L0 (σ 0) (F_Z40 (σ 0)) (σ 0) ((a0, ()), (a1, ()), (a2, a3, ()), ((), ()), a4, a5, a6, ())) (Q a0 a1 a2 a3 a4 a5 a6) := fun a0 a1 a2 a3 a4 a5 a6 => Tot.loop0 (L := fun k => B_Z40_L0 k (F_Z40 k)) (B := fun k g => u_Z40_L0 (B_Z40_L0b k (F_Z40 k) g)) (Q := u_Z40_L0 Q) (fun _ _ _ => rfl) (u_Z40_L0 I) (u_Z40_L0 μ)
    (fun t ht again hag h => step t.1.1 t.2.1.1 t.2.2.1.1 t.2.2.1.2.1 t.2.2.2.2.1 t.2.2.2.2.2.1 t.2.2.2.2.2.2.1 ht again hag fun y0 y1 y2 y3 y4 y5 y6 => h ((y0, ()), (y1, ()), (y2, y3, ()), ((), ()), y4, y5, y6, ())) ((a0, ()), (a1, ()), (a2, a3, ()), ((), ()), a4, a5, a6, ())
abbrev R_Z64 : Type := Option ((List Int × Unit) × (Unit))
abbrev C_Z64 : Type := (List (Int × Int × List Int)) → Int → R_Z64
def B_Z64 (k : Nat) (c_Z40 : C_Z40) (g_0 : List (Int × Int × List Int)) (g_1 : Int) : R_Z64 :=
  (c_Z40 g_1 ([] : List (Int × Bool)) ([]) g_0 g_1).bind fun r12 =>
  some ((r12.2.2.1.1, ()), ())
def F_Z64 : Nat → C_Z64
  | 0, _, _ => none
  | k + 1, g_0, g_1 => B_Z64 k (F_Z40 k) g_0 g_1
theorem tot_Z64 {g_0 g_1 : _} {Q : _ → Prop} (h : Tot (fun σ => B_Z64 (σ 0) (F_Z40 (σ 0)) g_0 g_1) Q) : Tot (fun σ => F_Z64 (σ 0) g_0 g_1) Q :=
  Tot.call (F := fun k => F_Z64 k g_0 g_1) (B := fun k => B_Z64 k (F_Z40 k) g_0 g_1) (fun k => rfl) h
abbrev R_i_mapped : Type := Option (((Int × Int × List Int × Unit) × Unit) × (Unit))
abbrev C_i_mapped : Type := Int → Int → List Int → List Int → R_i_mapped
abbrev T_i_mapped_L0 : Type := List Int × (Int × Int × Unit × Unit) × (Int × Int × List Int × Unit) × List Int × Int × Int × Unit
def B_i_mapped_L0b (k : Nat) (again0 : T_i_mapped_L0 → R_i_mapped) (order : List Int) (t4_Kind t4_Value out_Kind out_Value : Int) (out_Kids t14 : List Int) (t15 t16 : Int) : R_i_mapped :=
  bif decide (t16 < t15) then
    chk (inb t16 t14.length) <|
    chk (inb (rdx (0 : Int) t14 t16) order.length) <|
    chk (room out_Kids.length ([(rdx (0 : Int) order (rdx (0 : Int) t14 t16))]).length) <|
    again0 (order, (t4_Kind, t4_Value, (), ()), (out_Kind, out_Value, (out_Kids ++ [(rdx (0 : Int) order (rdx (0 : Int) t14 t16))]), ()), t14, t15, w64 (t16 + 1), ())
  else
    some (((out_Kind, out_Value, out_Kids, ()), ()), ())
def B_i_mapped_L0 (k : Nat) (n : Nat) (t : T_i_mapped_L0) : R_i_mapped :=
  lfix n (fun again t => B_i_mapped_L0b k again t.1 t.2.1.1 t.2.1.2.1 t.2.2.1.1 t.2.2.1.2.1 t.2.2.1.2.2.1 t.2.2.2.1 t.2.2.2.2.1 t.2.2.2.2.2.1) t
def B_i_mapped (k : Nat) (x_0 x_1 : Int) (x_2 order : List Int) : R_i_mapped :=
  B_i_mapped_L0 k k (order, (0, 0, (), ()), (x_0, x_1, [], ()), x_2, len x_2, 0, ())
def F_i_mapped : Nat → C_i_mapped
  | 0, _, _, _, _ => none
  | k + 1, x_0, x_1, x_2, order => B_i_mapped k x_0 x_1 x_2 order
theorem tot_i_mapped {x_0 x_1 x_2 order : _} {Q : _ → Prop} (h : Tot (fun σ => B_i_mapped (σ 0) x_0 x_1 x_2 order) Q) : Tot (fun σ => F_i_mapped (σ 0) x_0 x_1 x_2 order) Q :=
  Tot.call (F := fun k => F_i_mapped k x_0 x_1 x_2 order) (B := fun k => B_i_mapped k x_0 x_1 x_2 order) (fun k => rfl) h
abbrev A_i_mapped_L0 (Z : Type) : Type := List Int → Int → Int → Int → Int → List Int → List Int → Int → Int → Z
abbrev u_i_mapped_L0 {Z : Type} (f : A_i_mapped_L0 Z) (t : T_i_mapped_L0) : Z := f t.1 t.2.1.1 t.2.1.2.1 t.2.2.1.1 t.2.2.1.2.1 t.2.2.1.2.2.1 t.2.2.2.1 t.2.2.2.2.1 t.2.2.2.2.2.1
theorem loop_i_mapped_L0 {Q : A_i_mapped_L0 ((((Int × Int × List Int × Unit) × Unit) × (Unit)) → Prop)} (I : A_i_mapped_L0 Prop) (μ : A_i_mapped_L0 Nat)
    (step : ∀ a0 a1 a2 a3 a4 a5 a6 a7 a8, I a0 a1 a2 a3 a4 a5 a6 a7 a8 → ∀ again : (Nat → Nat) → T_i_mapped_L0 → R_i_mapped, Dep 2 again → (∀ y0 y1 y2 y3 y4 y5 y6 y7 y8, I y0 y1 y2 y3 y4 y5 y6 y7 y8 → μ y0 y1 y2 y3 y4 y5 y6 y7 y8 < μ a0 a1 a2 a3 a4 a5 a6 a7 a8 → Tot (fun σ => again σ (y0, (y1, y2, (), ()), (y3, y4, y5, ()), y6, y7, y8, ())) (Q y0 y1 y2 y3 y4 y5 y6 y7 y8)) →
      Tot (fun σ => B_i_mapped_L0b (σ 0) (again σ) a0 a1 a2 a3 a4 a5 a6 a7 a8) (Q a0 a1 a2 a3 a4 a5 a6 a7 a8)) :
    ∀ a0 a1 a2 a3 a4 a5 a6 a7 a8, I a0 a1 a2 a3 a4 a5 a6 a7 a8 → Tot (fun σ => B_i_mapped_L0 (σ 0) (σ 0) (a0, (a1, a2, (), ()), (a3, a4, a5, ()), a6, a7, a8, ())) (Q a0 a1 a2 a3 a4 a5 a6 a7 a8) := fun a0 a1 a2 a3 a4 a5 a6 a7 a8 => Tot.loop0 (L := fun k => B_i_mapped_L0 k) (B := fun k g => u_i_mapped_L0 (B_i_mapped_L0b k g)) (Q := u_i_mapped_L0 Q) (fun _ _ _ => rfl) (u_i_mapped_L0 I) (u_i_mapped_L0 μ)
    (fun t ht again hag h => step t.1 t.2.1.1 t.2.1.2.1 t.2.2.1.1 t.2.2.1.2.1 t.2.2.1.2.2.1 t.2.2.2.1 t.2.2.2.2.1 t.2.2.2.2.2.1 ht again hag fun y0 y1 y2 y3 y4 y5 y6 y7 y8 => h (y0, (y1, y2, (), ()), (y3, y4, y5, ()), y6, y7, y8, ())) (a0, (a1, a2, (), ()), (a3, a4, a5, ()), a6, a7, a8, ())
abbrev R_i_pruned : Type := Option ((((List (Int × Int × List Int)) × Int × Unit) × Unit) × (Unit))
abbrev C_i_pruned : Type := (List (Int × Int × List Int)) → Int → R_i_pruned
abbrev T_i_pruned_L1 : Type := ((List (Int × Int × List Int)) × Int × Unit) × (Unit × Int × Unit) × List Int × ((List (Int × Int × List Int)) × Int × Unit) × List Int × Int × Int × Unit
abbrev T_i_pruned_L0 : Type := ((List (Int × Int × List Int)) × Int × Unit) × (Unit × Int × Unit) × List Int × List Int × Int × Int × Unit × Unit
def B_i_pruned_L1b (k : Nat) (c_Z64 : C_Z64) (c_i_mapped : C_i_mapped) (again1 : T_i_pruned_L1 → R_i_pruned) (g_Nodes : List (Int × Int × List Int)) (g_Root t2_Root : Int) (order : List Int) (out_Nodes : List (Int × Int × List Int)) (out_Root : Int) (t29 : List Int) (t30 t31 : Int) : R_i_pruned :=
  bif decide (t31 < t30) then
    chk (inb t31 t29.length) <|
    chk (decide (t31.toNat < t29.length)) <|
    chk (inb (t29.getD t31.toNat (0 : Int)) g_Nodes.length) <|
    (c_i_mapped ((rdx ((0 : Int), ((0 : Int), ([] : List Int))) g_Nodes (t29.getD t31.toNat (0 : Int))).1) (((rdx ((0 : Int), ((0 : Int), ([] : List Int))) g_Nodes (t29.getD t31.toNat (0 : Int))).2).1) (((rdx ((0 : Int), ((0 : Int), ([] : List Int))) g_Nodes (t29.getD t31.toNat (0 : Int))).2).2) order).bind fun r43 =>
    chk (room out_Nodes.length ([(r43.1.1.1, (r43.1.1.2.1, r43.1.1.2.2.1))]).length) <|
    again1 ((g_Nodes, g_Root, ()), ((), t2_Root, ()), order, ((out_Nodes ++ [(r43.1.1.1, (r43.1.1.2.1, r43.1.1.2.2.1))]), out_Root, ()), t29, t30, w64 (t31 + 1), ())
  else
    some (((out_Nodes, out_Root, ()), ()), ())
def B_i_pruned_L1 (k : Nat) (c_Z64 : C_Z64) (c_i_mapped : C_i_mapped) (n : Nat) (t : T_i_pruned_L1) : R_i_pruned :=
  lfix n (fun again t => B_i_pruned_L1b k c_Z64 c_i_mapped again t.1.1 t.1.2.1 t.2.1.2.1 t.2.2.1 t.2.2.2.1.1 t.2.2.2.1.2.1 t.2.2.2.2.1 t.2.2.2.2.2.1 t.2.2.2.2.2.2.1) t
def B_i_pruned_L0b (k : Nat) (c_Z64 : C_Z64) (c_i_mapped : C_i_mapped) (again0 : T_i_pruned_L0 → R_i_pruned) (g_Nodes : List (Int × Int × List Int)) (g_Root t2_Root : Int) (list order : List Int) (t17 t18 : Int) : R_i_pruned :=
  bif decide (t18 < t17) then
    chk (inb t18 list.length) <|
    chk (decide (t18.toNat < list.length)) <|
    chk (inb (list.getD t18.toNat (0 : Int)) order.length) <|
    chk (decide ((list.getD t18.toNat (0 : Int)).toNat < order.length)) <|
    again0 ((g_Nodes, g_Root, ()), ((), t2_Root, ()), list, (order.set ((list.getD t18.toNat (0 : Int)).toNat) t18), t17, w64 (t18 + 1), (), ())
  else
    B_i_pruned_L1 k c_Z64 c_i_mapped k ((g_Nodes, g_Root, ()), ((), t2_Root, ()), order, ([], 0, ()), list, len list, 0, ())
def B_i_pruned_L0 (k : Nat) (c_Z64 : C_Z64) (c_i_mapped : C_i_mapped) (n : Nat) (t : T_i_pruned_L0) : R_i_pruned :=
  lfix n (fun again t => B_i_pruned_L0b k c_Z64 c_i_mapped again t.1.1 t.1.2.1 t.2.1.2.1 t.2.2.1 t.2.2.2.1 t.2.2.2.2.1 t.2.2.2.2.2.1) t
def B_i_pruned (k : Nat) (c_Z64 : C_Z64) (c_i_mapped : C_i_mapped) (g_0 : List (Int × Int × List Int)) (g_1 : Int) : R_i_pruned :=
  (c_Z64 g_0 g_1).bind fun r11 =>
  chk ((decide (0 ≤ (len g_0) ∧ (len g_0) ≤ (lim : Int)) && ((len g_0) == (len g_0)))) <|
  B_i_pruned_L0 k c_Z64 c_i_mapped k ((g_0, g_1, ()), ((), 0, ()), r11.1.1, (List.replicate (len g_0).toNat (0 : Int)), len r11.1.1, 0, (), ())
def F_i_pruned : Nat → C_i_pruned
  | 0, _, _ => none
  | k + 1, g_0, g_1 => B_i_pruned k (F_Z64 k) (F_i_mapped k) g_0 g_1
theorem tot_i_pruned {g_0 g_1 : _} {Q : _ → Prop} (h : Tot (fun σ => B_i_pruned (σ 0) (F_Z64 (σ 0)) (F_i_mapped (σ 0)) g_0 g_1) Q) : Tot (fun σ => F_i_pruned (σ 0) g_0 g_1) Q :=
  Tot.call (F := fun k => F_i_pruned k g_0 g_1) (B := fun k => B_i_pruned k (F_Z64 k) (F_i_mapped k) g_0 g_1) (fun k => rfl) h
abbrev A_i_pruned_L1 (Z : Type) : Type := (List (Int × Int × List Int)) → Int → Int → List Int → (List (Int × Int × List Int)) → Int → List Int → Int → Int → Z
abbrev u_i_pruned_L1 {Z : Type} (f : A_i_pruned_L1 Z) (t : T_i_pruned_L1) : Z := f t.1.1 t.1.2.1 t.2.1.2.1 t.2.2.1 t.2.2.2.1.1 t.2.2.2.1.2.1 t.2.2.2.2.1 t.2.2.2.2.2.1 t.2.2.2.2.2.2.1
theorem loop_i_pruned_L1 {Q : A_i_pruned_L1 (((((List (Int × Int × List Int)) × Int × Unit) × Unit) × (Unit)) → Prop)} (I : A_i_pruned_L1 Prop) (μ : A_i_pruned_L1 Nat)
    (step : ∀ a0 a1 a2 a3 a4 a5 a6 a7 a8, I a0 a1 a2 a3 a4 a5 a6 a7 a8 → ∀ again : (Nat → Nat) → T_i_pruned_L1 → R_i_pruned, Dep 2 again → (∀ y0 y1 y2 y3 y4 y5 y6 y7 y8, I y0 y1 y2 y3 y4 y5 y6 y7 y8 → μ y0 y1 y2 y3 y4 y5 y6 y7 y8 < μ a0 a1 a2 a3 a4 a5 a6 a7 a8 → Tot (fun σ => again σ ((y0, y1, ()), ((), y2, ()), y3, (y4, y5, ()), y6, y7, y8, ())) (Q y0 y1 y2 y3 y4 y5 y6 y7 y8)) →
      Tot (fun σ => B_i_pruned_L1b (σ 0) (F_Z64 (σ 0)) (F_i_mapped (σ 0)) (again σ) a0 a1 a2 a3 a4 a5 a6 a7 a8) (Q a0 a1 a2 a3 a4 a5 a6 a7 a8)) :
    ∀ a0 a1 a2 a3 a4 a5 a6 a7 a8, I a0 a1 a2 a3 a4 a5 a6 a7 a8 → Tot (fun σ => B_i_pruned_L1 (σ 0) (F_Z64 (σ 0)) (F_i_mapped (σ 0)) (σ 0) ((a0, a1, ()), ((), a2, ()), a3, (a4, a5, ()), a6, a7, a8, ())) (Q a0 a1 a2 a3 a4 a5 a6 a7 a8) := fun a0 a1 a2 a3 a4 a5 a6 a7 a8 => Tot.loop0 (L := fun k => B_i_pruned_L1 k (F_Z64 k) (F_i_mapped k)) (B := fun k g => u_i_pruned_L1 (B_i_pruned_L1b k (F_Z64 k) (F_i_mapped k) g)) (Q := u_i_pruned_L1 Q) (fun _ _ _ => rfl) (u_i_pruned_L1 I) (u_i_pruned_L1 μ)
    (fun t ht again hag h => step t.1.1 t.1.2.1 t.2.1.2.1 t.2.2.1 t.2.2.2.1.1 t.2.2.2.1.2.1 t.2.2.2.2.1 t.2.2.2.2.2.1 t.2.2.2.2.2.2.1 ht again hag fun y0 y1 y2 y3 y4 y5 y6 y7 y8 => h ((y0, y1, ()), ((), y2, ()), y3, (y4, y5, ()), y6, y7, y8, ())) ((a0, a1, ()), ((), a2, ()), a3, (a4, a5, ()), a6, a7, a8, ())
abbrev A_i_pruned_L0 (Z : Type) : Type := (List (Int × Int × List Int)) → Int → Int → List Int → List Int → Int → Int → Z
abbrev u_i_pruned_L0 {Z : Type} (f : A_i_pruned_L0 Z) (t : T_i_pruned_L0) : Z := f t.1.1 t.1.2.1 t.2.1.2.1 t.2.2.1 t.2.2.2.1 t.2.2.2.2.1 t.2.2.2.2.2.1
theorem loop_i_pruned_L0 {Q : A_i_pruned_L0 (((((List (Int × Int × List Int)) × Int × Unit) × Unit) × (Unit)) → Prop)} (I : A_i_pruned_L0 Prop) (μ : A_i_pruned_L0 Nat)
    (step : ∀ a0 a1 a2 a3 a4 a5 a6, I a0 a1 a2 a3 a4 a5 a6 → ∀ again : (Nat → Nat) → T_i_pruned_L0 → R_i_pruned, Dep 2 again → (∀ y0 y1 y2 y3 y4 y5 y6, I y0 y1 y2 y3 y4 y5 y6 → μ y0 y1 y2 y3 y4 y5 y6 < μ a0 a1 a2 a3 a4 a5 a6 → Tot (fun σ => again σ ((y0, y1, ()), ((), y2, ()), y3, y4, y5, y6, (), ())) (Q y0 y1 y2 y3 y4 y5 y6)) →
      Tot (fun σ => B_i_pruned_L0b (σ 0) (F_Z64 (σ 0)) (F_i_mapped (σ 0)) (again σ) a0 a1 a2 a3 a4 a5 a6) (Q a0 a1 a2 a3 a4 a5 a6)) :
    ∀ a0 a1 a2 a3 a4 a5 a6, I a0 a1 a2 a3 a4 a5 a6 → Tot (fun σ => B_i_pruned_L0 (σ 0) (F_Z64 (σ 0)) (F_i_mapped (σ 0)) (σ 0) ((a0, a1, ()), ((), a2, ()), a3, a4, a5, a6, (), ())) (Q a0 a1 a2 a3 a4 a5 a6) := fun a0 a1 a2 a3 a4 a5 a6 => Tot.loop0 (L := fun k => B_i_pruned_L0 k (F_Z64 k) (F_i_mapped k)) (B := fun k g => u_i_pruned_L0 (B_i_pruned_L0b k (F_Z64 k) (F_i_mapped k) g)) (Q := u_i_pruned_L0 Q) (fun _ _ _ => rfl) (u_i_pruned_L0 I) (u_i_pruned_L0 μ)
    (fun t ht again hag h => step t.1.1 t.1.2.1 t.2.1.2.1 t.2.2.1 t.2.2.2.1 t.2.2.2.2.1 t.2.2.2.2.2.1 ht again hag fun y0 y1 y2 y3 y4 y5 y6 => h ((y0, y1, ()), ((), y2, ()), y3, y4, y5, y6, (), ())) ((a0, a1, ()), ((), a2, ()), a3, a4, a5, a6, (), ())
abbrev R_Z43 : Type := Option ((((List (Int × Int × List Int)) × Int × Unit) × Bool × Unit) × (Unit))
abbrev C_Z43 : Type := (List (Int × Int × List Int)) → Int → R_Z43
def B_Z43 (k : Nat) (c_Z32 : C_Z32) (c_Z31 : C_Z31) (c_i_pruned : C_i_pruned) (g_0 : List (Int × Int × List Int)) (g_1 : Int) : R_Z43 :=
  (c_Z32 g_0 g_1 0).bind fun r8 =>
  bif r8.1.1.2 then
    some ((([], 0, ()), false, ()), ())
  else
    (c_Z31 r8.1.1.1).bind fun r14 =>
    bif (!r14.1.2.1) then
      some ((([], 0, ()), false, ()), ())
    else
      (c_i_pruned r14.1.1.1 r14.1.1.2.1).bind fun r21 =>
      some (((r21.1.1.1, r21.1.1.2.1, ()), true, ()), ())
def F_Z43 : Nat → C_Z43
  | 0, _, _ => none
  | k + 1, g_0, g_1 => B_Z43 k (F_Z32 k) (F_Z31 k) (F_i_pruned k) g_0 g_1
theorem tot_Z43 {g_0 g_1 : _} {Q : _ → Prop} (h : Tot (fun σ => B_Z43 (σ 0) (F_Z32 (σ 0)) (F_Z31 (σ 0)) (F_i_pruned (σ 0)) g_0 g_1) Q) : Tot (fun σ => F_Z43 (σ 0) g_0 g_1) Q :=
  Tot.call (F := fun k => F_Z43 k g_0 g_1) (B := fun k => B_Z43 k (F_Z32 k) (F_Z31 k) (F_i_pruned k) g_0 g_1) (fun k => rfl) h
abbrev R_l_eqIntS : Type := Option ((Bool × Unit) × (Unit))
abbrev C_l_eqIntS : Type := List Int → List Int → R_l_eqIntS
abbrev T_l_eqIntS_L0 : Type := List Int × List Int × Int × Unit
def B_l_eqIntS_L0b (k : Nat) (again0 : T_l_eqIntS_L0 → R_l_eqIntS) (a b : List Int) (i : Int) : R_l_eqIntS :=
  bif decide (i < (len a)) then
    chk (inb i a.length) <|
    chk (inb i b.length) <|
    bif ((rdx (0 : Int) a i) != (rdx (0 : Int) b i)) then
      some ((false, ()), ())
    else
      again0 (a, b, w64 (i + 1), ())
  else
    some ((true, ()), ())
def B_l_eqIntS_L0 (k : Nat) (n : Nat) (t : T_l_eqIntS_L0) : R_l_eqIntS :=
  lfix n (fun again t => B_l_eqIntS_L0b k again t.1 t.2.1 t.2.2.1) t
def B_l_eqIntS (k : Nat) (a b : List Int) : R_l_eqIntS :=
  bif ((len a) != (len b)) then
    some ((false, ()), ())
  else
    B_l_eqIntS_L0 k k (a, b, 0, ())
def F_l_eqIntS : Nat → C_l_eqIntS
  | 0, _, _ => none
  | k + 1, a, b => B_l_eqIntS k a b
theorem tot_l_eqIntS {a b : _} {Q : _ → Prop} (h : Tot (fun σ => B_l_eqIntS (σ 0) a b) Q) : Tot (fun σ => F_l_eqIntS (σ 0) a b) Q :=
  Tot.call (F := fun k => F_l_eqIntS k a b) (B := fun k => B_l_eqIntS k a b) (fun k => rfl) h
abbrev A_l_eqIntS_L0 (Z : Type) : Type := List Int → List Int → Int → Z
abbrev u_l_eqIntS_L0 {Z : Type} (f : A_l_eqIntS_L0 Z) (t : T_l_eqIntS_L0) : Z := f t.1 t.2.1 t.2.2.1
theorem loop_l_eqIntS_L0 {Q : A_l_eqIntS_L0 (((Bool × Unit) × (Unit)) → Prop)} (I : A_l_eqIntS_L0 Prop) (μ : A_l_eqIntS_L0 Nat)
    (step : ∀ a0 a1 a2, I a0 a1 a2 → ∀ again : (Nat → Nat) → T_l_eqIntS_L0 → R_l_eqIntS, Dep 2 again → (∀ y0 y1 y2, I y0 y1 y2 → μ y0 y1 y2 < μ a0 a1 a2 → Tot (fun σ => again σ (y0, y1, y2, ())) (Q y0 y1 y2)) →
      Tot (fun σ => B_l_eqIntS_L0b (σ 0) (again σ) a0 a1 a2) (Q a0 a1 a2)) :
    ∀ a0 a1 a2, I a0 a1 a2 → Tot (fun σ => B_l_eqIntS_L0 (σ 0) (σ 0) (a0, a1, a2, ())) (Q a0 a1 a2) := fun a0 a1 a2 => Tot.loop0 (L := fun k => B_l_eqIntS_L0 k) (B := fun k g => u_l_eqIntS_L0 (B_l_eqIntS_L0b k g)) (Q := u_l_eqIntS_L0 Q) (fun _ _ _ => rfl) (u_l_eqIntS_L0 I) (u_l_eqIntS_L0 μ)
    (fun t ht again hag h => step t.1 t.2.1 t.2.2.1 ht again hag fun y0 y1 y2 => h (y0, y1, y2, ())) (a0, a1, a2, ())
abbrev R_l_eqNode : Type := Option ((Bool × Unit) × (Unit))
abbrev C_l_eqNode : Type := Int → Int → List Int → Int → Int → List Int → R_l_eqNode
def B_l_eqNode (k : Nat) (c_l_eqIntS : C_l_eqIntS) (a_0 a_1 : Int) (a_2 : List Int) (b_0 b_1 : Int) (b_2 : List Int) : R_l_eqNode :=
  bif (a_0 != b_0) then
    some ((false, ()), ())
  else
    bif (a_1 != b_1) then
      some ((false, ()), ())
    else
      (c_l_eqIntS a_2 b_2).bind fun r19 =>
      bif (!r19.1.1) then
        some ((false, ()), ())
      else
        some ((true, ()), ())
def F_l_eqNode : Nat → C_l_eqNode
  | 0, _, _, _, _, _, _ => none
  | k + 1, a_0, a_1, a_2, b_0, b_1, b_2 => B_l_eqNode k (F_l_eqIntS k) a_0 a_1 a_2 b_0 b_1 b_2
theorem tot_l_eqNode {a_0 a_1 a_2 b_0 b_1 b_2 : _} {Q : _ → Prop} (h : Tot (fun σ => B_l_eqNode (σ 0) (F_l_eqIntS (σ 0)) a_0 a_1 a_2 b_0 b_1 b_2) Q) : Tot (fun σ => F_l_eqNode (σ 0) a_0 a_1 a_2 b_0 b_1 b_2) Q :=
  Tot.call (F := fun k => F_l_eqNode k a_0 a_1 a_2 b_0 b_1 b_2) (B := fun k => B_l_eqNode k (F_l_eqIntS k) a_0 a_1 a_2 b_0 b_1 b_2) (fun k => rfl) h
abbrev R_Z54 : Type := Option ((Bool × Unit) × (Unit))
abbrev C_Z54 : Type := (List (Int × Int × List Int)) → (List (Int × Int × List Int)) → R_Z54
abbrev T_Z54_L0 : Type := (List (Int × Int × List Int)) × (List (Int × Int × List Int)) × Int × Unit
def B_Z54_L0b (k : Nat) (c_l_eqNode : C_l_eqNode) (again0 : T_Z54_L0 → R_Z54) (a b : List (Int × Int × List Int)) (i : Int) : R_Z54 :=
  bif decide (i < (len a)) then
    chk (inb i a.length) <|
    chk (inb i b.length) <|
    (c_l_eqNode ((rdx ((0 : Int), ((0 : Int), ([] : List Int))) a i).1) (((rdx ((0 : Int), ((0 : Int), ([] : List Int))) a i).2).1) (((rdx ((0 : Int), ((0 : Int), ([] : List Int))) a i).2).2) ((rdx ((0 : Int), ((0 : Int), ([] : List Int))) b i).1) (((rdx ((0 : Int), ((0 : Int), ([] : List Int))) b i).2).1) (((rdx ((0 : Int), ((0 : Int), ([] : List Int))) b i).2).2)).bind fun r25 =>
    bif (!r25.1.1) then
      some ((false, ()), ())
    else
      again0 (a, b, w64 (i + 1), ())
  else
    some ((true, ()), ())
def B_Z54_L0 (k : Nat) (c_l_eqNode : C_l_eqNode) (n : Nat) (t : T_Z54_L0) : R_Z54 :=
  lfix n (fun again t => B_Z54_L0b k c_l_eqNode again t.1 t.2.1 t.2.2.1) t
def B_Z54 (k : Nat) (c_l_eqNode : C_l_eqNode) (a b : List (Int × Int × List Int)) : R_Z54 :=
  bif ((len a) != (len b)) then
    some ((false, ()), ())
  else
    B_Z54_L0 k c_l_eqNode k (a, b, 0, ())
def F_Z54 : Nat → C_Z54
  | 0, _, _ => none
  | k + 1, a, b => B_Z54 k (F_l_eqNode k) a b
theorem tot_Z54 {a b : _} {Q : _ → Prop} (h : Tot (fun σ => B_Z54 (σ 0) (F_l_eqNode (σ 0)) a b) Q) : Tot (fun σ => F_Z54 (σ 0) a b) Q :=
  Tot.call (F := fun k => F_Z54 k a b) (B := fun k => B_Z54 k (F_l_eqNode k) a b) (fun k => rfl) h
abbrev A_Z54_L0 (Z : Type) : Type := (List (Int × Int × List Int)) → (List (Int × Int × List Int)) → Int → Z
abbrev u_Z54_L0 {Z : Type} (f : A_Z54_L0 Z) (t : T_Z54_L0) : Z := f t.1 t.2.1 t.2.2.1
theorem loop_Z54_L0 {Q : A_Z54_L0 (((Bool × Unit) × (Unit)) → Prop)} (I : A_Z54_L0 Prop) (μ : A_Z54_L0 Nat)
    (step : ∀ a0 a1 a2, I a0 a1 a2 → ∀ again : (Nat → Nat) → T_Z54_L0 → R_Z54, Dep 2 again → (∀ y0 y1 y2, I y0 y1 y2 → μ y0 y1 y2 < μ a0 a1 a2 → Tot (fun σ => again σ (y0, y1, y2, ())) (Q y0 y1 y2)) →
      Tot (fun σ => B_Z54_L0b (σ 0) (F_l_eqNode (σ 0)) (again σ) a0 a1 a2) (Q a0 a1 a2)) :
    ∀ a0 a1 a2, I a0 a1 a2 → Tot (fun σ => B_Z54_L0 (σ 0) (F_l_eqNode (σ 0)) (σ 0) (a0, a1, a2, ())) (Q a0 a1 a2) := fun a0 a1 a2 => Tot.loop0 (L := fun k => B_Z54_L0 k (F_l_eqNode k)) (B := fun k g => u_Z54_L0 (B_Z54_L0b k (F_l_eqNode k) g)) (Q := u_Z54_L0 Q) (fun _ _ _ => rfl) (u_Z54_L0 I) (u_Z54_L0 μ)
    (fun t ht again hag h => step t.1 t.2.1 t.2.2.1 ht again hag fun y0 y1 y2 => h (y0, y1, y2, ())) (a0, a1, a2, ())
abbrev R_Z57 : Type := Option ((Bool × Unit) × (Unit))
abbrev C_Z57 : Type := (List (Int × Int × List Int)) → Int → (List (Int × Int × List Int)) → Int → R_Z57
def B_Z57 (k : Nat) (c_Z54 : C_Z54) (a_0 : List (Int × Int × List Int)) (a_1 : Int) (b_0 : List (Int × Int × List Int)) (b_1 : Int) : R_Z57 :=
  (c_Z54 a_0 b_0).bind fun r9 =>
  bif (!r9.1.1) then
    some ((false, ()), ())
  else
    bif (a_1 != b_1) then
      some ((false, ()), ())
    else
      some ((true, ()), ())
def F_Z57 : Nat → C_Z57
  | 0, _, _, _, _ => none
  | k + 1, a_0, a_1, b_0, b_1 => B_Z57 k (F_Z54 k) a_0 a_1 b_0 b_1
theorem tot_Z57 {a_0 a_1 b_0 b_1 : _} {Q : _ → Prop} (h : Tot (fun σ => B_Z57 (σ 0) (F_Z54 (σ 0)) a_0 a_1 b_0 b_1) Q) : Tot (fun σ => F_Z57 (σ 0) a_0 a_1 b_0 b_1) Q :=
  Tot.call (F := fun k => F_Z57 k a_0 a_1 b_0 b_1) (B := fun k => B_Z57 k (F_Z54 k) a_0 a_1 b_0 b_1) (fun k => rfl) h
abbrev R_Z50 : Type := Option ((Int × Unit) × (List Int × Unit))
abbrev C_Z50 : Type := List Int → Int → R_Z50
abbrev T_Z50_L0 : Type := List Int × Int × Int × Unit
def B_Z50_L0b (k : Nat) (again0 : T_Z50_L0 → R_Z50) (a : List Int) (k1 i : Int) : R_Z50 :=
  bif decide (i < (len a)) then
    chk (inb i a.length) <|
    chk (decide (i.toNat < a.length)) <|
    again0 ((a.set i.toNat k1), w64 (k1 + 1), w64 (i + 1), ())
  else
    some ((k1, ()), (a, ()))
def B_Z50_L0 (k : Nat) (n : Nat) (t : T_Z50_L0) : R_Z50 :=
  lfix n (fun again t => B_Z50_L0b k again t.1 t.2.1 t.2.2.1) t
def B_Z50 (k : Nat) (a : List Int) (k1 : Int) : R_Z50 :=
  B_Z50_L0 k k (a, k1, 0, ())
def F_Z50 : Nat → C_Z50
  | 0, _, _ => none
  | k + 1, a, k1 => B_Z50 k a k1
theorem tot_Z50 {a k1 : _} {Q : _ → Prop} (h : Tot (fun σ => B_Z50 (σ 0) a k1) Q) : Tot (fun σ => F_Z50 (σ 0) a k1) Q :=
  Tot.call (F := fun k => F_Z50 k a k1) (B := fun k => B_Z50 k a k1) (fun k => rfl) h
abbrev A_Z50_L0 (Z : Type) : Type := List Int → Int → Int → Z
abbrev u_Z50_L0 {Z : Type} (f : A_Z50_L0 Z) (t : T_Z50_L0) : Z := f t.1 t.2.1 t.2.2.1
theorem loop_Z50_L0 {Q : A_Z50_L0 (((Int × Unit) × (List Int × Unit)) → Prop)} (I : A_Z50_L0 Prop) (μ : A_Z50_L0 Nat)
    (step : ∀ a0 a1 a2, I a0 a1 a2 → ∀ again : (Nat → Nat) → T_Z50_L0 → R_Z50, Dep 2 again → (∀ y0 y1 y2, I y0 y1 y2 → μ y0 y1 y2 < μ a0 a1 a2 → Tot (fun σ => again σ (y0, y1, y2, ())) (Q y0 y1 y2)) →
      Tot (fun σ => B_Z50_L0b (σ 0) (again σ) a0 a1 a2) (Q a0 a1 a2)) :
    ∀ a0 a1 a2, I a0 a1 a2 → Tot (fun σ => B_Z50_L0 (σ 0) (σ 0) (a0, a1, a2, ())) (Q a0 a1 a2) := fun a0 a1 a2 => Tot.loop0 (L := fun k => B_Z50_L0 k) (B := fun k g => u_Z50_L0 (B_Z50_L0b k g)) (Q := u_Z50_L0 Q) (fun _ _ _ => rfl) (u_Z50_L0 I) (u_Z50_L0 μ)
    (fun t ht again hag h => step t.1 t.2.1 t.2.2.1 ht again hag fun y0 y1 y2 => h (y0, y1, y2, ())) (a0, a1, a2, ())
abbrev R_Z42 : Type := Option ((Int × Unit) × ((List (Int × Int × List Int)) × Unit))
abbrev C_Z42 : Type := (List (Int × Int × List Int)) → Int → R_Z42
abbrev T_Z42_L0 : Type := (List (Int × Int × List Int)) × Int × Int × Unit
def B_Z42_L0b (k : Nat) (c_Z50 : C_Z50) (again0 : T_Z42_L0 → R_Z42) (a : List (Int × Int × List Int)) (k1 i : Int) : R_Z42 :=
  bif decide (i < (len a)) then
    chk (inb i a.length) <|
    chk (decide (i.toNat < a.length)) <|
    chk (inb i (a.set i.toNat (k1, (a.getD i.toNat ((0 : Int), ((0 : Int), ([] : List Int)))).2)).length) <|
    chk (decide (i.toNat < (a.set i.toNat (k1, (a.getD i.toNat ((0 : Int), ((0 : Int), ([] : List Int)))).2)).length)) <|
    let w1 : List (Int × Int × List Int) := ((a.set i.toNat (k1, (a.getD i.toNat ((0 : Int), ((0 : Int), ([] : List Int)))).2)).set i.toNat (((a.set i.toNat (k1, (a.getD i.toNat ((0 : Int), ((0 : Int), ([] : List Int)))).2)).getD i.toNat ((0 : Int), ((0 : Int), ([] : List Int)))).1, (w64 (k1 + 1), (((a.set i.toNat (k1, (a.getD i.toNat ((0 : Int), ((0 : Int), ([] : List Int)))).2)).getD i.toNat ((0 : Int), ((0 : Int), ([] : List Int)))).2).2)))
    chk (inb i w1.length) <|
    chk (decide (i.toNat < w1.length)) <|
    (c_Z50 (((w1.getD i.toNat ((0 : Int), ((0 : Int), ([] : List Int)))).2).2) (w64 ((w64 (k1 + 1)) + 1))).bind fun r32 =>
    again0 ((w1.set i.toNat ((w1.getD i.toNat ((0 : Int), ((0 : Int), ([] : List Int)))).1, (((w1.getD i.toNat ((0 : Int), ((0 : Int), ([] : List Int)))).2).1, r32.2.1))), r32.1.1, w64 (i + 1), ())
  else
    some ((k1, ()), (a, ()))
def B_Z42_L0 (k : Nat) (c_Z50 : C_Z50) (n : Nat) (t : T_Z42_L0) : R_Z42 :=
  lfix n (fun again t => B_Z42_L0b k c_Z50 again t.1 t.2.1 t.2.2.1) t
def B_Z42 (k : Nat) (c_Z50 : C_Z50) (a : List (Int × Int × List Int)) (k1 : Int) : R_Z42 :=
  B_Z42_L0 k c_Z50 k (a, k1, 0, ())
def F_Z42 : Nat → C_Z42
  | 0, _, _ => none
  | k + 1, a, k1 => B_Z42 k (F_Z50 k) a k1
theorem tot_Z42 {a k1 : _} {Q : _ → Prop} (h : Tot (fun σ => B_Z42 (σ 0) (F_Z50 (σ 0)) a k1) Q) : Tot (fun σ => F_Z42 (σ 0) a k1) Q :=
  Tot.call (F := fun k => F_Z42 k a k1) (B := fun k => B_Z42 k (F_Z50 k) a k1) (fun k => rfl) h
abbrev A_Z42_L0 (Z : Type) : Type := (List (Int × Int × List Int)) → Int → Int → Z
abbrev u_Z42_L0 {Z : Type} (f : A_Z42_L0 Z) (t : T_Z42_L0) : Z := f t.1 t.2.1 t.2.2.1
theorem loop_Z42_L0 {Q : A_Z42_L0 (((Int × Unit) × ((List (Int × Int × List Int)) × Unit)) → Prop)} (I : A_Z42_L0 Prop) (μ : A_Z42_L0 Nat)
    (step : ∀ a0 a1 a2, I a0 a1 a2 → ∀ again : (Nat → Nat) → T_Z42_L0 → R_Z42, Dep 2 again → (∀ y0 y1 y2, I y0 y1 y2 → μ y0 y1 y2 < μ a0 a1 a2 → Tot (fun σ => again σ (y0, y1, y2, ())) (Q y0 y1 y2)) →
      Tot (fun σ => B_Z42_L0b (σ 0) (F_Z50 (σ 0)) (again σ) a0 a1 a2) (Q a0 a1 a2)) :
    ∀ a0 a1 a2, I a0 a1 a2 → Tot (fun σ => B_Z42_L0 (σ 0) (F_Z50 (σ 0)) (σ 0) (a0, a1, a2, ())) (Q a0 a1 a2) := fun a0 a1 a2 => Tot.loop0 (L := fun k => B_Z42_L0 k (F_Z50 k)) (B := fun k g => u_Z42_L0 (B_Z42_L0b k (F_Z50 k) g)) (Q := u_Z42_L0 Q) (fun _ _ _ => rfl) (u_Z42_L0 I) (u_Z42_L0 μ)
    (fun t ht again hag h => step t.1 t.2.1 t.2.2.1 ht again hag fun y0 y1 y2 => h (y0, y1, y2, ())) (a0, a1, a2, ())
abbrev R_Z46 : Type := Option ((Int × Unit) × (((List (Int × Int × List Int)) × Int × Unit) × Unit))
abbrev C_Z46 : Type := (List (Int × Int × List Int)) → Int → Int → R_Z46
def B_Z46 (k : Nat) (c_Z42 : C_Z42) (a_0 : List (Int × Int × List Int)) (a_1 k1 : Int) : R_Z46 :=
  (c_Z42 a_0 k1).bind fun r8 =>
  some ((r8.1.1, ()), ((r8.2.1, a_1, ()), ()))
def F_Z46 : Nat → C_Z46
  | 0, _, _, _ => none
  | k + 1, a_0, a_1, k1 => B_Z46 k (F_Z42 k) a_0 a_1 k1
theorem tot_Z46 {a_0 a_1 k1 : _} {Q : _ → Prop} (h : Tot (fun σ => B_Z46 (σ 0) (F_Z42 (σ 0)) a_0 a_1 k1) Q) : Tot (fun σ => F_Z46 (σ 0) a_0 a_1 k1) Q :=
  Tot.call (F := fun k => F_Z46 k a_0 a_1 k1) (B := fun k => B_Z46 k (F_Z42 k) a_0 a_1 k1) (fun k => rfl) h
abbrev R_Z47 : Type := Option ((Int × Unit) × (Unit))
abbrev C_Z47 : Type := List Int → Int → R_Z47
abbrev T_Z47_L0 : Type := List Int × Int × Int × Unit
def B_Z47_L0b (k : Nat) (again0 : T_Z47_L0 → R_Z47) (a : List Int) (k1 i : Int) : R_Z47 :=
  bif decide (i < (len a)) then
    chk (inb i a.length) <|
    bif ((rdx (0 : Int) a i) != k1) then
      some (((-1), ()), ())
    else
      again0 (a, w64 (k1 + 1), w64 (i + 1), ())
  else
    some ((k1, ()), ())
def B_Z47_L0 (k : Nat) (n : Nat) (t : T_Z47_L0) : R_Z47 :=
  lfix n (fun again t => B_Z47_L0b k again t.1 t.2.1 t.2.2.1) t
def B_Z47 (k : Nat) (a : List Int) (k1 : Int) : R_Z47 :=
  B_Z47_L0 k k (a, k1, 0, ())
def F_Z47 : Nat → C_Z47
  | 0, _, _ => none
  | k + 1, a, k1 => B_Z47 k a k1
theorem tot_Z47 {a k1 : _} {Q : _ → Prop} (h : Tot (fun σ => B_Z47 (σ 0) a k1) Q) : Tot (fun σ => F_Z47 (σ 0) a k1) Q :=
  Tot.call (F := fun k => F_Z47 k a k1) (B := fun k => B_Z47 k a k1) (fun k => rfl) h
abbrev A_Z47_L0 (Z : Type) : Type := List Int → Int → Int → Z
abbrev u_Z47_L0 {Z : Type} (f : A_Z47_L0 Z) (t : T_Z47_L0) : Z := f t.1 t.2.1 t.2.2.1
theorem loop_Z47_L0 {Q : A_Z47_L0 (((Int × Unit) × (Unit)) → Prop)} (I : A_Z47_L0 Prop) (μ : A_Z47_L0 Nat)
    (step : ∀ a0 a1 a2, I a0 a1 a2 → ∀ again : (Nat → Nat) → T_Z47_L0 → R_Z47, Dep 2 again → (∀ y0 y1 y2, I y0 y1 y2 → μ y0 y1 y2 < μ a0 a1 a2 → Tot (fun σ => again σ (y0, y1, y2, ())) (Q y0 y1 y2)) →
      Tot (fun σ => B_Z47_L0b (σ 0) (again σ) a0 a1 a2) (Q a0 a1 a2)) :
    ∀ a0 a1 a2, I a0 a1 a2 → Tot (fun σ => B_Z47_L0 (σ 0) (σ 0) (a0, a1, a2, ())) (Q a0 a1 a2) := fun a0 a1 a2 => Tot.loop0 (L := fun k => B_Z47_L0 k) (B := fun k g => u_Z47_L0 (B_Z47_L0b k g)) (Q := u_Z47_L0 Q) (fun _ _ _ => rfl) (u_Z47_L0 I) (u_Z47_L0 μ)
    (fun t ht again hag h => step t.1 t.2.1 t.2.2.1 ht again hag fun y0 y1 y2 => h (y0, y1, y2, ())) (a0, a1, a2, ())
abbrev R_Z35 : Type := Option ((Int × Unit) × (Unit))
abbrev C_Z35 : Type := (List (Int × Int × List Int)) → Int → R_Z35
abbrev T_Z35_L0 : Type := (List (Int × Int × List Int)) × Int × Int × Unit
def B_Z35_L0b (k : Nat) (c_Z47 : C_Z47) (again0 : T_Z35_L0 → R_Z35) (a : List (Int × Int × List Int)) (k1 i : Int) : R_Z35 :=
  bif decide (i < (len a)) then
    chk (inb i a.length) <|
    bif (((rdx ((0 : Int), ((0 : Int), ([] : List Int))) a i).1) != k1) then
      some (((-1), ()), ())
    else
      chk (inb i a.length) <|
      bif ((((rdx ((0 : Int), ((0 : Int), ([] : List Int))) a i).2).1) != (w64 (k1 + 1))) then
        some (((-1), ()), ())
      else
        chk (inb i a.length) <|
        (c_Z47 (((rdx ((0 : Int), ((0 : Int), ([] : List Int))) a i).2).2) (w64 ((w64 (k1 + 1)) + 1))).bind fun r36 =>
        bif decide (r36.1.1 < 0) then
          some (((-1), ()), ())
        else
          again0 (a, r36.1.1, w64 (i + 1), ())
  else
    some ((k1, ()), ())
def B_Z35_L0 (k : Nat) (c_Z47 : C_Z47) (n : Nat) (t : T_Z35_L0) : R_Z35 :=
  lfix n (fun again t => B_Z35_L0b k c_Z47 again t.1 t.2.1 t.2.2.1) t
def B_Z35 (k : Nat) (c_Z47 : C_Z47) (a : List (Int × Int × List Int)) (k1 : Int) : R_Z35 :=
  B_Z35_L0 k c_Z47 k (a, k1, 0, ())
def F_Z35 : Nat → C_Z35
  | 0, _, _ => none
  | k + 1, a, k1 => B_Z35 k (F_Z47 k) a k1
theorem tot_Z35 {a k1 : _} {Q : _ → Prop} (h : Tot (fun σ => B_Z35 (σ 0) (F_Z47 (σ 0)) a k1) Q) : Tot (fun σ => F_Z35 (σ 0) a k1) Q :=
  Tot.call (F := fun k => F_Z35 k a k1) (B := fun k => B_Z35 k (F_Z47 k) a k1) (fun k => rfl) h
abbrev A_Z35_L0 (Z : Type) : Type := (List (Int × Int × List Int)) → Int → Int → Z
abbrev u_Z35_L0 {Z : Type} (f : A_Z35_L0 Z) (t : T_Z35_L0) : Z := f t.1 t.2.1 t.2.2.1
theorem loop_Z35_L0 {Q : A_Z35_L0 (((Int × Unit) × (Unit)) → Prop)} (I : A_Z35_L0 Prop) (μ : A_Z35_L0 Nat)
    (step : ∀ a0 a1 a2, I a0 a1 a2 → ∀ again : (Nat → Nat) → T_Z35_L0 → R_Z35, Dep 2 again → (∀ y0 y1 y2, I y0 y1 y2 → μ y0 y1 y2 < μ a0 a1 a2 → Tot (fun σ => again σ (y0, y1, y2, ())) (Q y0 y1 y2)) →
      Tot (fun σ => B_Z35_L0b (σ 0) (F_Z47 (σ 0)) (again σ) a0 a1 a2) (Q a0 a1 a2)) :
    ∀ a0 a1 a2, I a0 a1 a2 → Tot (fun σ => B_Z35_L0 (σ 0) (F_Z47 (σ 0)) (σ 0) (a0, a1, a2, ())) (Q a0 a1 a2) := fun a0 a1 a2 => Tot.loop0 (L := fun k => B_Z35_L0 k (F_Z47 k)) (B := fun k g => u_Z35_L0 (B_Z35_L0b k (F_Z47 k) g)) (Q := u_Z35_L0 Q) (fun _ _ _ => rfl) (u_Z35_L0 I) (u_Z35_L0 μ)
    (fun t ht again hag h => step t.1 t.2.1 t.2.2.1 ht again hag fun y0 y1 y2 => h (y0, y1, y2, ())) (a0, a1, a2, ())
abbrev R_Z38 : Type := Option ((Int × Unit) × (Unit))
abbrev C_Z38 : Type := (List (Int × Int × List Int)) → Int → Int → R_Z38
def B_Z38 (k : Nat) (c_Z35 : C_Z35) (a_0 : List (Int × Int × List Int)) (a_1 k1 : Int) : R_Z38 :=
  (c_Z35 a_0 k1).bind fun r8 =>
  bif decide (r8.1.1 < 0) then
    some (((-1), ()), ())
  else
    some ((r8.1.1, ()), ())
def F_Z38 : Nat → C_Z38
  | 0, _, _, _ => none
  | k + 1, a_0, a_1, k1 => B_Z38 k (F_Z35 k) a_0 a_1 k1
theorem tot_Z38 {a_0 a_1 k1 : _} {Q : _ → Prop} (h : Tot (fun σ => B_Z38 (σ 0) (F_Z35 (σ 0)) a_0 a_1 k1) Q) : Tot (fun σ => F_Z38 (σ 0) a_0 a_1 k1) Q :=
  Tot.call (F := fun k => F_Z38 k a_0 a_1 k1) (B := fun k => B_Z38 k (F_Z35 k) a_0 a_1 k1) (fun k => rfl) h
abbrev R_Z6 : Type := Option ((Bool × Unit) × (Unit))
abbrev C_Z6 : Type := (List (Int × Int × List Int)) → Int → R_Z6
def B_Z6_J2 (k : Nat) (c_Z68 : C_Z68) (c_Z71 : C_Z71) (c_Z37 : C_Z37) (c_Z43 : C_Z43) (c_Z57 : C_Z57) (c_Z46 : C_Z46) (c_Z38 : C_Z38) (g0_Nodes : List (Int × Int × List Int)) (g0_Root m : Int) (t87 : Bool) : R_Z6 :=
  bif t87 then
    some ((false, ()), ())
  else
    (c_Z38 g0_Nodes g0_Root 1).bind fun r90 =>
    bif decide (r90.1.1 < 0) then
      some ((false, ()), ())
    else
      bif (r90.1.1 != m) then
        some ((false, ()), ())
      else
        some ((true, ()), ())
def B_Z6_J1 (k : Nat) (c_Z68 : C_Z68) (c_Z71 : C_Z71) (c_Z37 : C_Z37) (c_Z43 : C_Z43) (c_Z57 : C_Z57) (c_Z46 : C_Z46) (c_Z38 : C_Z38) (aG_Nodes : List (Int × Int × List Int)) (aG_Root : Int) (w0_Nodes : List (Int × Int × Option (List Int))) (w0_Root : Int) (w1 : Bool) (g0_Nodes : List (Int × Int × List Int)) (g0_Root : Int) (t61 : Bool) : R_Z6 :=
  bif t61 then
    some ((false, ()), ())
  else
    (c_Z46 g0_Nodes g0_Root 1).bind fun r64 =>
    (c_Z38 r64.2.1.1 g0_Root 1).bind fun r67 =>
    bif decide (r67.1.1 < 0) then
      some ((false, ()), ())
    else
      bif (r67.1.1 != r64.1.1) then
        some ((false, ()), ())
      else
        (c_Z71 aG_Nodes aG_Root).bind fun r75 =>
        (c_Z43 r75.1.1.1 r75.1.1.2.1).bind fun r76 =>
        (c_Z57 r76.1.1.1 r76.1.1.2.1 (w0_Nodes.map (fun p => (p.1, (p.2.1, p.2.2.getD [])))) w0_Root).bind fun r81 =>
        bif (!r81.1.1) then
          jn (fun t => B_Z6_J2 k c_Z68 c_Z71 c_Z37 c_Z43 c_Z57 c_Z46 c_Z38 t.1.1 t.1.2.1 t.2.1 t.2.2.1) ((r64.2.1.1, g0_Root, ()), r64.1.1, true, ())
        else
          jn (fun t => B_Z6_J2 k c_Z68 c_Z71 c_Z37 c_Z43 c_Z57 c_Z46 c_Z38 t.1.1 t.1.2.1 t.2.1 t.2.2.1) ((r64.2.1.1, g0_Root, ()), r64.1.1, (!(r76.1.2.1 == w1)), ())
def B_Z6_J0 (k : Nat) (c_Z68 : C_Z68) (c_Z71 : C_Z71) (c_Z37 : C_Z37) (c_Z43 : C_Z43) (c_Z57 : C_Z57) (c_Z46 : C_Z46) (c_Z38 : C_Z38) (aG_Nodes : List (Int × Int × List Int)) (aG_Root : Int) (w0_Nodes : List (Int × Int × Option (List Int))) (w0_Root : Int) (w1 : Bool) (x0_Nodes : List (Int × Int × List Int)) (x0_Root : Int) (g0_Nodes : List (Int × Int × List Int)) (g0_Root : Int) (g1 t40 : Bool) : R_Z6 :=
  bif t40 then
    some ((false, ()), ())
  else
    (c_Z71 aG_Nodes aG_Root).bind fun r43 =>
    (c_Z57 x0_Nodes x0_Root r43.1.1.1 r43.1.1.2.1).bind fun r44 =>
    bif (!r44.1.1) then
      some ((false, ()), ())
    else
      (c_Z46 x0_Nodes x0_Root 1).bind fun r48 =>
      bif decide (r48.1.1 < 0) then
        jn (fun t => B_Z6_J1 k c_Z68 c_Z71 c_Z37 c_Z43 c_Z57 c_Z46 c_Z38 t.1.1 t.1.2.1 t.2.1.1 t.2.1.2.1 t.2.2.1 t.2.2.2.1.1 t.2.2.2.1.2.1 t.2.2.2.2.1) ((aG_Nodes, aG_Root, ()), (w0_Nodes, w0_Root, ()), w1, (g0_Nodes, g0_Root, ()), true, ())
      else
        (c_Z57 g0_Nodes g0_Root (w0_Nodes.map (fun p => (p.1, (p.2.1, p.2.2.getD [])))) w0_Root).bind fun r54 =>
        bif (!r54.1.1) then
          jn (fun t => B_Z6_J1 k c_Z68 c_Z71 c_Z37 c_Z43 c_Z57 c_Z46 c_Z38 t.1.1 t.1.2.1 t.2.1.1 t.2.1.2.1 t.2.2.1 t.2.2.2.1.1 t.2.2.2.1.2.1 t.2.2.2.2.1) ((aG_Nodes, aG_Root, ()), (w0_Nodes, w0_Root, ()), w1, (g0_Nodes, g0_Root, ()), true, ())
        else
          jn (fun t => B_Z6_J1 k c_Z68 c_Z71 c_Z37 c_Z43 c_Z57 c_Z46 c_Z38 t.1.1 t.1.2.1 t.2.1.1 t.2.1.2.1 t.2.2.1 t.2.2.2.1.1 t.2.2.2.1.2.1 t.2.2.2.2.1) ((aG_Nodes, aG_Root, ()), (w0_Nodes, w0_Root, ()), w1, (g0_Nodes, g0_Root, ()), (!(g1 == w1)), ())
def B_Z6 (k : Nat) (c_Z68 : C_Z68) (c_Z71 : C_Z71) (c_Z37 : C_Z37) (c_Z43 : C_Z43) (c_Z57 : C_Z57) (c_Z46 : C_Z46) (c_Z38 : C_Z38) (aG_0 : List (Int × Int × List Int)) (aG_1 : Int) : R_Z6 :=
  (c_Z68 aG_0 aG_1 1048576).bind fun r16 =>
  bif decide (r16.1.1 < 0) then
    some ((true, ()), ())
  else
    (c_Z71 aG_0 aG_1).bind fun r21 =>
    (c_Z37 r21.1.1.1 r21.1.1.2.1).bind fun r22 =>
    (c_Z71 aG_0 aG_1).bind fun r26 =>
    (c_Z43 r26.1.1.1 r26.1.1.2.1).bind fun r29 =>
    (c_Z57 r29.1.1.1 r29.1.1.2.1 (r22.1.1.1.map (fun p => (p.1, (p.2.1, p.2.2.getD [])))) r22.1.1.2.1).bind fun r34 =>
    bif (!r34.1.1) then
      jn (fun t => B_Z6_J0 k c_Z68 c_Z71 c_Z37 c_Z43 c_Z57 c_Z46 c_Z38 t.1.1 t.1.2.1 t.2.1.1 t.2.1.2.1 t.2.2.1 t.2.2.2.1.1 t.2.2.2.1.2.1 t.2.2.2.2.1.1 t.2.2.2.2.1.2.1 t.2.2.2.2.2.1 t.2.2.2.2.2.2.1) ((aG_0, aG_1, ()), (r22.1.1.1, r22.1.1.2.1, ()), r22.1.2.1, (r26.1.1.1, r26.1.1.2.1, ()), (r29.1.1.1, r29.1.1.2.1, ()), r29.1.2.1, true, ())
    else
      jn (fun t => B_Z6_J0 k c_Z68 c_Z71 c_Z37 c_Z43 c_Z57 c_Z46 c_Z38 t.1.1 t.1.2.1 t.2.1.1 t.2.1.2.1 t.2.2.1 t.2.2.2.1.1 t.2.2.2.1.2.1 t.2.2.2.2.1.1 t.2.2.2.2.1.2.1 t.2.2.2.2.2.1 t.2.2.2.2.2.2.1) ((aG_0, aG_1, ()), (r22.1.1.1, r22.1.1.2.1, ()), r22.1.2.1, (r26.1.1.1, r26.1.1.2.1, ()), (r29.1.1.1, r29.1.1.2.1, ()), r29.1.2.1, (!(r29.1.2.1 == r22.1.2.1)), ())
def F_Z6 : Nat → C_Z6
  | 0, _, _ => none
  | k + 1, aG_0, aG_1 => B_Z6 k (F_Z68 k) (F_Z71 k) (F_Z37 k) (F_Z43 k) (F_Z57 k) (F_Z46 k) (F_Z38 k) aG_0 aG_1
theorem tot_Z6 {aG_0 aG_1 : _} {Q : _ → Prop} (h : Tot (fun σ => B_Z6 (σ 0) (F_Z68 (σ 0)) (F_Z71 (σ 0)) (F_Z37 (σ 0)) (F_Z43 (σ 0)) (F_Z57 (σ 0)) (F_Z46 (σ 0)) (F_Z38 (σ 0)) aG_0 aG_1) Q) : Tot (fun σ => F_Z6 (σ 0) aG_0 aG_1) Q :=
  Tot.call (F := fun k => F_Z6 k aG_0 aG_1) (B := fun k => B_Z6 k (F_Z68 k) (F_Z71 k) (F_Z37 k) (F_Z43 k) (F_Z57 k) (F_Z46 k) (F_Z38 k) aG_0 aG_1) (fun k => rfl) h
end Go.Gx

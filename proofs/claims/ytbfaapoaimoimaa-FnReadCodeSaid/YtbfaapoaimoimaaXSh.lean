/-
  The functions, as Gx tells them (printed by gen.py).
-/
import Derived.Test.YtbfaapoaimoimaaXSh1
set_option linter.unusedVariables false
namespace Go.Gx
abbrev T_Z56_L0 : Type := ((List (Int × Int × List Int)) × Unit) × (List Int × Unit) × ((List (Int × Int)) × Unit) × (Unit × Unit) × List Int × Int × Int × Unit
def B_Z56_L0b (k : Nat) (c_Z33 : C_Z33) (again0 : T_Z56_L0 → R_Z56) (nodes : List (Int × Int × List Int)) (out : List Int) (numbers : List (Int × Int)) (t13 : List Int) (t14 t15 : Int) : R_Z56 :=
  bif decide (t15 < t14) then
    chk (inb t15 t13.length) <|
    (c_Z33 (rdx (0 : Int) t13 t15) numbers out nodes).bind fun r21 =>
    again0 ((r21.2.2.2.1.1, ()), (r21.2.2.1.1, ()), (r21.2.1.1, ()), ((), ()), t13, t14, w64 (t15 + 1), ())
  else
    some ((out, ()), ())
def B_Z56_L0 (k : Nat) (c_Z33 : C_Z33) (n : Nat) (t : T_Z56_L0) : R_Z56 :=
  lfix n (fun again t => B_Z56_L0b k c_Z33 again t.1.1 t.2.1.1 t.2.2.1.1 t.2.2.2.2.1 t.2.2.2.2.2.1 t.2.2.2.2.2.2.1) t
def B_Z56 (k : Nat) (c_Z33 : C_Z33) (nodes : List (Int × Int × List Int)) (roots : List Int) : R_Z56 :=
  B_Z56_L0 k c_Z33 k ((nodes, ()), ([], ()), (([] : List (Int × Int)), ()), ((), ()), roots, len roots, 0, ())
def F_Z56 : Nat → C_Z56
  | 0, _, _ => none
  | k + 1, nodes, roots => B_Z56 k (F_Z33 k) nodes roots
theorem tot_Z56 {nodes roots : _} {Q : _ → Prop} (h : Tot (fun σ => B_Z56 (σ 0) (F_Z33 (σ 0)) nodes roots) Q) : Tot (fun σ => F_Z56 (σ 0) nodes roots) Q :=
  Tot.call (F := fun k => F_Z56 k nodes roots) (B := fun k => B_Z56 k (F_Z33 k) nodes roots) (fun k => rfl) h
abbrev A_Z56_L0 (Z : Type) : Type := (List (Int × Int × List Int)) → List Int → (List (Int × Int)) → List Int → Int → Int → Z
abbrev u_Z56_L0 {Z : Type} (f : A_Z56_L0 Z) (t : T_Z56_L0) : Z := f t.1.1 t.2.1.1 t.2.2.1.1 t.2.2.2.2.1 t.2.2.2.2.2.1 t.2.2.2.2.2.2.1
theorem loop_Z56_L0 {Q : A_Z56_L0 (((List Int × Unit) × (Unit)) → Prop)} (I : A_Z56_L0 Prop) (μ : A_Z56_L0 Nat)
    (step : ∀ a0 a1 a2 a3 a4 a5, I a0 a1 a2 a3 a4 a5 → ∀ again : (Nat → Nat) → T_Z56_L0 → R_Z56, Dep 2 again → (∀ y0 y1 y2 y3 y4 y5, I y0 y1 y2 y3 y4 y5 → μ y0 y1 y2 y3 y4 y5 < μ a0 a1 a2 a3 a4 a5 → Tot (fun σ => again σ ((y0, ()), (y1, ()), (y2, ()), ((), ()), y3, y4, y5, ())) (Q y0 y1 y2 y3 y4 y5)) →
      Tot (fun σ => B_Z56_L0b (σ 0) (F_Z33 (σ 0)) (again σ) a0 a1 a2 a3 a4 a5) (Q a0 a1 a2 a3 a4 a5)) :
    ∀ a0 a1 a2 a3 a4 a5, I a0 a1 a2 a3 a4 a5 → Tot (fun σ => B_Z56_L0 (σ 0) (F_Z33 (σ 0)) (σ 0) ((a0, ()), (a1, ()), (a2, ()), ((), ()), a3, a4, a5, ())) (Q a0 a1 a2 a3 a4 a5) := fun a0 a1 a2 a3 a4 a5 => Tot.loop0 (L := fun k => B_Z56_L0 k (F_Z33 k)) (B := fun k g => u_Z56_L0 (B_Z56_L0b k (F_Z33 k) g)) (Q := u_Z56_L0 Q) (fun _ _ _ => rfl) (u_Z56_L0 I) (u_Z56_L0 μ)
    (fun t ht again hag h => step t.1.1 t.2.1.1 t.2.2.1.1 t.2.2.2.2.1 t.2.2.2.2.2.1 t.2.2.2.2.2.2.1 ht again hag fun y0 y1 y2 y3 y4 y5 => h ((y0, ()), (y1, ()), (y2, ()), ((), ()), y3, y4, y5, ())) ((a0, ()), (a1, ()), (a2, ()), ((), ()), a3, a4, a5, ())
abbrev R_Z45 : Type := Option ((List Int × Unit) × (Unit))
abbrev C_Z45 : Type := (List (Int × Int)) → R_Z45
def B_Z45 (k : Nat) (c_Z48 : C_Z48) (c_Z43 : C_Z43) (c_Z56 : C_Z56) (ops : List (Int × Int)) : R_Z45 :=
  (c_Z48 ops).bind fun r7 =>
  bif (!r7.1.1) then
    some (([], ()), ())
  else
    (c_Z43 ops).bind fun r11 =>
    (c_Z56 r11.1.1.1 r11.1.2.1).bind fun r18 =>
    some ((r18.1.1, ()), ())
def F_Z45 : Nat → C_Z45
  | 0, _ => none
  | k + 1, ops => B_Z45 k (F_Z48 k) (F_Z43 k) (F_Z56 k) ops
theorem tot_Z45 {ops : _} {Q : _ → Prop} (h : Tot (fun σ => B_Z45 (σ 0) (F_Z48 (σ 0)) (F_Z43 (σ 0)) (F_Z56 (σ 0)) ops) Q) : Tot (fun σ => F_Z45 (σ 0) ops) Q :=
  Tot.call (F := fun k => F_Z45 k ops) (B := fun k => B_Z45 k (F_Z48 k) (F_Z43 k) (F_Z56 k) ops) (fun k => rfl) h
abbrev R_Z26 : Type := Option (((Unit × Unit × List Int × Bool × Unit) × Unit) × (Unit))
abbrev C_Z26 : Type := R_Z26
abbrev T_Z26_L0 : Type := (Unit × Unit × Unit × Bool × Unit) × (Unit × Unit × List Int × Bool × Unit) × Int × Unit
def B_Z26_L0b (k : Nat) (again0 : T_Z26_L0 → R_Z26) (t0_Done : Bool) (m_Memo : List Int) (m_Done : Bool) (i : Int) : R_Z26 :=
  bif decide (i < 20) then
    chk (room m_Memo.length ([(-1)]).length) <|
    again0 (((), (), (), t0_Done, ()), ((), (), (m_Memo ++ [(-1)]), m_Done, ()), w64 (i + 1), ())
  else
    some ((((), (), m_Memo, m_Done, ()), ()), ())
def B_Z26_L0 (k : Nat) (n : Nat) (t : T_Z26_L0) : R_Z26 :=
  lfix n (fun again t => B_Z26_L0b k again t.1.2.2.2.1 t.2.1.2.2.1 t.2.1.2.2.2.1 t.2.2.1) t
def B_Z26 (k : Nat) : R_Z26 :=
  B_Z26_L0 k k (((), (), (), false, ()), ((), (), [], false, ()), 0, ())
def F_Z26 : Nat → C_Z26
  | 0 => none
  | k + 1 => B_Z26 k
theorem tot_Z26 {Q : _ → Prop} (h : Tot (fun σ => B_Z26 (σ 0)) Q) : Tot (fun σ => F_Z26 (σ 0)) Q :=
  Tot.call (F := fun k => F_Z26 k) (B := fun k => B_Z26 k) (fun k => rfl) h
abbrev A_Z26_L0 (Z : Type) : Type := Bool → List Int → Bool → Int → Z
abbrev u_Z26_L0 {Z : Type} (f : A_Z26_L0 Z) (t : T_Z26_L0) : Z := f t.1.2.2.2.1 t.2.1.2.2.1 t.2.1.2.2.2.1 t.2.2.1
theorem loop_Z26_L0 {Q : A_Z26_L0 ((((Unit × Unit × List Int × Bool × Unit) × Unit) × (Unit)) → Prop)} (I : A_Z26_L0 Prop) (μ : A_Z26_L0 Nat)
    (step : ∀ a0 a1 a2 a3, I a0 a1 a2 a3 → ∀ again : (Nat → Nat) → T_Z26_L0 → R_Z26, Dep 2 again → (∀ y0 y1 y2 y3, I y0 y1 y2 y3 → μ y0 y1 y2 y3 < μ a0 a1 a2 a3 → Tot (fun σ => again σ (((), (), (), y0, ()), ((), (), y1, y2, ()), y3, ())) (Q y0 y1 y2 y3)) →
      Tot (fun σ => B_Z26_L0b (σ 0) (again σ) a0 a1 a2 a3) (Q a0 a1 a2 a3)) :
    ∀ a0 a1 a2 a3, I a0 a1 a2 a3 → Tot (fun σ => B_Z26_L0 (σ 0) (σ 0) (((), (), (), a0, ()), ((), (), a1, a2, ()), a3, ())) (Q a0 a1 a2 a3) := fun a0 a1 a2 a3 => Tot.loop0 (L := fun k => B_Z26_L0 k) (B := fun k g => u_Z26_L0 (B_Z26_L0b k g)) (Q := u_Z26_L0 Q) (fun _ _ _ => rfl) (u_Z26_L0 I) (u_Z26_L0 μ)
    (fun t ht again hag h => step t.1.2.2.2.1 t.2.1.2.2.1 t.2.1.2.2.2.1 t.2.2.1 ht again hag fun y0 y1 y2 y3 => h (((), (), (), y0, ()), ((), (), y1, y2, ()), y3, ())) (((), (), (), a0, ()), ((), (), a1, a2, ()), a3, ())
abbrev R_Z10 : Type := Option ((((List (Int × Int × List Int)) × List Int × List Int × Bool × Unit) × Unit) × (Unit))
abbrev C_Z10 : Type := (List (Int × Int × List Int)) → List Int → List Int → Bool → R_Z10
abbrev T_Z10_L0 : Type := ((List (Int × Int × List Int)) × List Int × List Int × Bool × Unit) × (Unit × Unit × Unit × Bool × Unit) × ((List (Int × Int × List Int)) × List Int × List Int × Bool × Unit) × Int × Unit
def B_Z10_L0b (k : Nat) (c_Z44 : C_Z44) (again0 : T_Z10_L0 → R_Z10) (m_Nodes : List (Int × Int × List Int)) (m_Stack m_Memo : List Int) (m_Done t2_Done : Bool) (out_Nodes : List (Int × Int × List Int)) (out_Stack out_Memo : List Int) (out_Done : Bool) (i : Int) : R_Z10 :=
  bif decide (i < (len m_Nodes)) then
    chk (inb i m_Nodes.length) <|
    chk (inb i m_Nodes.length) <|
    chk (inb i m_Nodes.length) <|
    (c_Z44 (((rdx ((0 : Int), ((0 : Int), ([] : List Int))) m_Nodes i).2).2)).bind fun r41 =>
    chk (room out_Nodes.length ([((rdx ((0 : Int), ((0 : Int), ([] : List Int))) m_Nodes i).1, (((rdx ((0 : Int), ((0 : Int), ([] : List Int))) m_Nodes i).2).1, r41.1.1))]).length) <|
    again0 ((m_Nodes, m_Stack, m_Memo, m_Done, ()), ((), (), (), t2_Done, ()), ((out_Nodes ++ [((rdx ((0 : Int), ((0 : Int), ([] : List Int))) m_Nodes i).1, (((rdx ((0 : Int), ((0 : Int), ([] : List Int))) m_Nodes i).2).1, r41.1.1))]), out_Stack, out_Memo, out_Done, ()), w64 (i + 1), ())
  else
    some (((out_Nodes, out_Stack, out_Memo, out_Done, ()), ()), ())
def B_Z10_L0 (k : Nat) (c_Z44 : C_Z44) (n : Nat) (t : T_Z10_L0) : R_Z10 :=
  lfix n (fun again t => B_Z10_L0b k c_Z44 again t.1.1 t.1.2.1 t.1.2.2.1 t.1.2.2.2.1 t.2.1.2.2.2.1 t.2.2.1.1 t.2.2.1.2.1 t.2.2.1.2.2.1 t.2.2.1.2.2.2.1 t.2.2.2.1) t
def B_Z10 (k : Nat) (c_Z44 : C_Z44) (m_0 : List (Int × Int × List Int)) (m_1 m_2 : List Int) (m_3 : Bool) : R_Z10 :=
  (c_Z44 m_1).bind fun r7 =>
  (c_Z44 m_2).bind fun r10 =>
  B_Z10_L0 k c_Z44 k ((m_0, m_1, m_2, m_3, ()), ((), (), (), false, ()), ([], r7.1.1, r10.1.1, m_3, ()), 0, ())
def F_Z10 : Nat → C_Z10
  | 0, _, _, _, _ => none
  | k + 1, m_0, m_1, m_2, m_3 => B_Z10 k (F_Z44 k) m_0 m_1 m_2 m_3
theorem tot_Z10 {m_0 m_1 m_2 m_3 : _} {Q : _ → Prop} (h : Tot (fun σ => B_Z10 (σ 0) (F_Z44 (σ 0)) m_0 m_1 m_2 m_3) Q) : Tot (fun σ => F_Z10 (σ 0) m_0 m_1 m_2 m_3) Q :=
  Tot.call (F := fun k => F_Z10 k m_0 m_1 m_2 m_3) (B := fun k => B_Z10 k (F_Z44 k) m_0 m_1 m_2 m_3) (fun k => rfl) h
abbrev A_Z10_L0 (Z : Type) : Type := (List (Int × Int × List Int)) → List Int → List Int → Bool → Bool → (List (Int × Int × List Int)) → List Int → List Int → Bool → Int → Z
abbrev u_Z10_L0 {Z : Type} (f : A_Z10_L0 Z) (t : T_Z10_L0) : Z := f t.1.1 t.1.2.1 t.1.2.2.1 t.1.2.2.2.1 t.2.1.2.2.2.1 t.2.2.1.1 t.2.2.1.2.1 t.2.2.1.2.2.1 t.2.2.1.2.2.2.1 t.2.2.2.1
theorem loop_Z10_L0 {Q : A_Z10_L0 (((((List (Int × Int × List Int)) × List Int × List Int × Bool × Unit) × Unit) × (Unit)) → Prop)} (I : A_Z10_L0 Prop) (μ : A_Z10_L0 Nat)
    (step : ∀ a0 a1 a2 a3 a4 a5 a6 a7 a8 a9, I a0 a1 a2 a3 a4 a5 a6 a7 a8 a9 → ∀ again : (Nat → Nat) → T_Z10_L0 → R_Z10, Dep 2 again → (∀ y0 y1 y2 y3 y4 y5 y6 y7 y8 y9, I y0 y1 y2 y3 y4 y5 y6 y7 y8 y9 → μ y0 y1 y2 y3 y4 y5 y6 y7 y8 y9 < μ a0 a1 a2 a3 a4 a5 a6 a7 a8 a9 → Tot (fun σ => again σ ((y0, y1, y2, y3, ()), ((), (), (), y4, ()), (y5, y6, y7, y8, ()), y9, ())) (Q y0 y1 y2 y3 y4 y5 y6 y7 y8 y9)) →
      Tot (fun σ => B_Z10_L0b (σ 0) (F_Z44 (σ 0)) (again σ) a0 a1 a2 a3 a4 a5 a6 a7 a8 a9) (Q a0 a1 a2 a3 a4 a5 a6 a7 a8 a9)) :
    ∀ a0 a1 a2 a3 a4 a5 a6 a7 a8 a9, I a0 a1 a2 a3 a4 a5 a6 a7 a8 a9 → Tot (fun σ => B_Z10_L0 (σ 0) (F_Z44 (σ 0)) (σ 0) ((a0, a1, a2, a3, ()), ((), (), (), a4, ()), (a5, a6, a7, a8, ()), a9, ())) (Q a0 a1 a2 a3 a4 a5 a6 a7 a8 a9) := fun a0 a1 a2 a3 a4 a5 a6 a7 a8 a9 => Tot.loop0 (L := fun k => B_Z10_L0 k (F_Z44 k)) (B := fun k g => u_Z10_L0 (B_Z10_L0b k (F_Z44 k) g)) (Q := u_Z10_L0 Q) (fun _ _ _ => rfl) (u_Z10_L0 I) (u_Z10_L0 μ)
    (fun t ht again hag h => step t.1.1 t.1.2.1 t.1.2.2.1 t.1.2.2.2.1 t.2.1.2.2.2.1 t.2.2.1.1 t.2.2.1.2.1 t.2.2.1.2.2.1 t.2.2.1.2.2.2.1 t.2.2.2.1 ht again hag fun y0 y1 y2 y3 y4 y5 y6 y7 y8 y9 => h ((y0, y1, y2, y3, ()), ((), (), (), y4, ()), (y5, y6, y7, y8, ()), y9, ())) ((a0, a1, a2, a3, ()), ((), (), (), a4, ()), (a5, a6, a7, a8, ()), a9, ())
abbrev R_s_push : Type := Option ((((List (Int × Int × List Int)) × List Int × List Int × Bool × Unit) × Unit) × (Unit))
abbrev C_s_push : Type := (List (Int × Int × List Int)) → List Int → List Int → Bool → Int → Int → List Int → R_s_push
def B_s_push (k : Nat) (m_0 : List (Int × Int × List Int)) (m_1 m_2 : List Int) (m_3 : Bool) (n_0 n_1 : Int) (n_2 : List Int) : R_s_push :=
  chk (room m_0.length ([(n_0, (n_1, n_2))]).length) <|
  chk (room m_1.length ([w64 ((len (m_0 ++ [(n_0, (n_1, n_2))])) - 1)]).length) <|
  some ((((m_0 ++ [(n_0, (n_1, n_2))]), (m_1 ++ [w64 ((len (m_0 ++ [(n_0, (n_1, n_2))])) - 1)]), m_2, m_3, ()), ()), ())
def F_s_push : Nat → C_s_push
  | 0, _, _, _, _, _, _, _ => none
  | k + 1, m_0, m_1, m_2, m_3, n_0, n_1, n_2 => B_s_push k m_0 m_1 m_2 m_3 n_0 n_1 n_2
theorem tot_s_push {m_0 m_1 m_2 m_3 n_0 n_1 n_2 : _} {Q : _ → Prop} (h : Tot (fun σ => B_s_push (σ 0) m_0 m_1 m_2 m_3 n_0 n_1 n_2) Q) : Tot (fun σ => F_s_push (σ 0) m_0 m_1 m_2 m_3 n_0 n_1 n_2) Q :=
  Tot.call (F := fun k => F_s_push k m_0 m_1 m_2 m_3 n_0 n_1 n_2) (B := fun k => B_s_push k m_0 m_1 m_2 m_3 n_0 n_1 n_2) (fun k => rfl) h
abbrev R_s_markAt : Type := Option ((Int × Unit) × (Unit))
abbrev C_s_markAt : Type := (List (Int × Int × List Int)) → List Int → List Int → Bool → R_s_markAt
abbrev T_s_markAt_L0 : Type := ((List (Int × Int × List Int)) × List Int × List Int × Bool × Unit) × Int × Unit
def B_s_markAt_L0b (k : Nat) (again0 : T_s_markAt_L0 → R_s_markAt) (m_Nodes : List (Int × Int × List Int)) (m_Stack m_Memo : List Int) (m_Done : Bool) (i : Int) : R_s_markAt :=
  bif decide (i ≥ 0) then
    chk (inb i m_Stack.length) <|
    bif decide ((rdx (0 : Int) m_Stack i) < 0) then
      some ((i, ()), ())
    else
      again0 ((m_Nodes, m_Stack, m_Memo, m_Done, ()), w64 (i - 1), ())
  else
    some (((-1), ()), ())
def B_s_markAt_L0 (k : Nat) (n : Nat) (t : T_s_markAt_L0) : R_s_markAt :=
  lfix n (fun again t => B_s_markAt_L0b k again t.1.1 t.1.2.1 t.1.2.2.1 t.1.2.2.2.1 t.2.1) t
def B_s_markAt (k : Nat) (m_0 : List (Int × Int × List Int)) (m_1 m_2 : List Int) (m_3 : Bool) : R_s_markAt :=
  B_s_markAt_L0 k k ((m_0, m_1, m_2, m_3, ()), w64 ((len m_1) - 1), ())
def F_s_markAt : Nat → C_s_markAt
  | 0, _, _, _, _ => none
  | k + 1, m_0, m_1, m_2, m_3 => B_s_markAt k m_0 m_1 m_2 m_3
theorem tot_s_markAt {m_0 m_1 m_2 m_3 : _} {Q : _ → Prop} (h : Tot (fun σ => B_s_markAt (σ 0) m_0 m_1 m_2 m_3) Q) : Tot (fun σ => F_s_markAt (σ 0) m_0 m_1 m_2 m_3) Q :=
  Tot.call (F := fun k => F_s_markAt k m_0 m_1 m_2 m_3) (B := fun k => B_s_markAt k m_0 m_1 m_2 m_3) (fun k => rfl) h
abbrev A_s_markAt_L0 (Z : Type) : Type := (List (Int × Int × List Int)) → List Int → List Int → Bool → Int → Z
abbrev u_s_markAt_L0 {Z : Type} (f : A_s_markAt_L0 Z) (t : T_s_markAt_L0) : Z := f t.1.1 t.1.2.1 t.1.2.2.1 t.1.2.2.2.1 t.2.1
theorem loop_s_markAt_L0 {Q : A_s_markAt_L0 (((Int × Unit) × (Unit)) → Prop)} (I : A_s_markAt_L0 Prop) (μ : A_s_markAt_L0 Nat)
    (step : ∀ a0 a1 a2 a3 a4, I a0 a1 a2 a3 a4 → ∀ again : (Nat → Nat) → T_s_markAt_L0 → R_s_markAt, Dep 2 again → (∀ y0 y1 y2 y3 y4, I y0 y1 y2 y3 y4 → μ y0 y1 y2 y3 y4 < μ a0 a1 a2 a3 a4 → Tot (fun σ => again σ ((y0, y1, y2, y3, ()), y4, ())) (Q y0 y1 y2 y3 y4)) →
      Tot (fun σ => B_s_markAt_L0b (σ 0) (again σ) a0 a1 a2 a3 a4) (Q a0 a1 a2 a3 a4)) :
    ∀ a0 a1 a2 a3 a4, I a0 a1 a2 a3 a4 → Tot (fun σ => B_s_markAt_L0 (σ 0) (σ 0) ((a0, a1, a2, a3, ()), a4, ())) (Q a0 a1 a2 a3 a4) := fun a0 a1 a2 a3 a4 => Tot.loop0 (L := fun k => B_s_markAt_L0 k) (B := fun k g => u_s_markAt_L0 (B_s_markAt_L0b k g)) (Q := u_s_markAt_L0 Q) (fun _ _ _ => rfl) (u_s_markAt_L0 I) (u_s_markAt_L0 μ)
    (fun t ht again hag h => step t.1.1 t.1.2.1 t.1.2.2.1 t.1.2.2.2.1 t.2.1 ht again hag fun y0 y1 y2 y3 y4 => h ((y0, y1, y2, y3, ()), y4, ())) ((a0, a1, a2, a3, ()), a4, ())
abbrev R_s_drop : Type := Option ((((List (Int × Int × List Int)) × List Int × List Int × Bool × Unit) × Unit) × (Unit))
abbrev C_s_drop : Type := (List (Int × Int × List Int)) → List Int → List Int → Bool → Int → R_s_drop
def B_s_drop (k : Nat) (m_0 : List (Int × Int × List Int)) (m_1 m_2 : List Int) (m_3 : Bool) (many : Int) : R_s_drop :=
  chk (cutb 0 (w64 ((len m_1) - many)) m_1.length) <|
  some (((m_0, (m_1.take ((w64 ((len m_1) - many)).toNat)), m_2, m_3, ()), ()), ())
def F_s_drop : Nat → C_s_drop
  | 0, _, _, _, _, _ => none
  | k + 1, m_0, m_1, m_2, m_3, many => B_s_drop k m_0 m_1 m_2 m_3 many
theorem tot_s_drop {m_0 m_1 m_2 m_3 many : _} {Q : _ → Prop} (h : Tot (fun σ => B_s_drop (σ 0) m_0 m_1 m_2 m_3 many) Q) : Tot (fun σ => F_s_drop (σ 0) m_0 m_1 m_2 m_3 many) Q :=
  Tot.call (F := fun k => F_s_drop k m_0 m_1 m_2 m_3 many) (B := fun k => B_s_drop k m_0 m_1 m_2 m_3 many) (fun k => rfl) h
abbrev R_s_top : Type := Option ((Int × Unit) × (Unit))
abbrev C_s_top : Type := (List (Int × Int × List Int)) → List Int → List Int → Bool → Int → R_s_top
def B_s_top (k : Nat) (m_0 : List (Int × Int × List Int)) (m_1 m_2 : List Int) (m_3 : Bool) (deep : Int) : R_s_top :=
  bif decide ((w64 ((w64 ((len m_1) - 1)) - deep)) < 0) then
    some (((-1), ()), ())
  else
    chk (inb (w64 ((w64 ((len m_1) - 1)) - deep)) m_1.length) <|
    some (((rdx (0 : Int) m_1 (w64 ((w64 ((len m_1) - 1)) - deep))), ()), ())
def F_s_top : Nat → C_s_top
  | 0, _, _, _, _, _ => none
  | k + 1, m_0, m_1, m_2, m_3, deep => B_s_top k m_0 m_1 m_2 m_3 deep
theorem tot_s_top {m_0 m_1 m_2 m_3 deep : _} {Q : _ → Prop} (h : Tot (fun σ => B_s_top (σ 0) m_0 m_1 m_2 m_3 deep) Q) : Tot (fun σ => F_s_top (σ 0) m_0 m_1 m_2 m_3 deep) Q :=
  Tot.call (F := fun k => F_s_top k m_0 m_1 m_2 m_3 deep) (B := fun k => B_s_top k m_0 m_1 m_2 m_3 deep) (fun k => rfl) h
abbrev R_s_kindOf : Type := Option ((Int × Unit) × (Unit))
abbrev C_s_kindOf : Type := (List (Int × Int × List Int)) → List Int → List Int → Bool → Int → R_s_kindOf
def B_s_kindOf (k : Nat) (m_0 : List (Int × Int × List Int)) (m_1 m_2 : List Int) (m_3 : Bool) (at1 : Int) : R_s_kindOf :=
  bif decide (at1 < 0) then
    some (((-1), ()), ())
  else
    chk (inb at1 m_0.length) <|
    some (((rdx ((0 : Int), ((0 : Int), ([] : List Int))) m_0 at1).1, ()), ())
def F_s_kindOf : Nat → C_s_kindOf
  | 0, _, _, _, _, _ => none
  | k + 1, m_0, m_1, m_2, m_3, at1 => B_s_kindOf k m_0 m_1 m_2 m_3 at1
theorem tot_s_kindOf {m_0 m_1 m_2 m_3 at1 : _} {Q : _ → Prop} (h : Tot (fun σ => B_s_kindOf (σ 0) m_0 m_1 m_2 m_3 at1) Q) : Tot (fun σ => F_s_kindOf (σ 0) m_0 m_1 m_2 m_3 at1) Q :=
  Tot.call (F := fun k => F_s_kindOf k m_0 m_1 m_2 m_3 at1) (B := fun k => B_s_kindOf k m_0 m_1 m_2 m_3 at1) (fun k => rfl) h
abbrev R_Z52 : Type := Option ((Bool × Unit) × (Unit))
abbrev C_Z52 : Type := (List (Int × Int × List Int)) → List Int → List Int → Bool → List Int → R_Z52
abbrev T_Z52_L0 : Type := List Int × ((List (Int × Int × List Int)) × List Int × List Int × Bool × Unit) × Int × Unit
def B_Z52_L0b (k : Nat) (c_s_isKey : C_s_isKey) (again0 : T_Z52_L0 → R_Z52) (list : List Int) (m_Nodes : List (Int × Int × List Int)) (m_Stack m_Memo : List Int) (m_Done : Bool) (i : Int) : R_Z52 :=
  bif decide (i < (len list)) then
    chk (inb i list.length) <|
    chk (inb (rdx (0 : Int) list i) m_Nodes.length) <|
    (c_s_isKey ((rdx ((0 : Int), ((0 : Int), ([] : List Int))) m_Nodes (rdx (0 : Int) list i)).1) (((rdx ((0 : Int), ((0 : Int), ([] : List Int))) m_Nodes (rdx (0 : Int) list i)).2).1)).bind fun r20 =>
    bif (!r20.1.1) then
      some ((false, ()), ())
    else
      again0 (list, (m_Nodes, m_Stack, m_Memo, m_Done, ()), w64 (i + 2), ())
  else
    some (((((len list).tmod 2) == 0), ()), ())
def B_Z52_L0 (k : Nat) (c_s_isKey : C_s_isKey) (n : Nat) (t : T_Z52_L0) : R_Z52 :=
  lfix n (fun again t => B_Z52_L0b k c_s_isKey again t.1 t.2.1.1 t.2.1.2.1 t.2.1.2.2.1 t.2.1.2.2.2.1 t.2.2.1) t
def B_Z52 (k : Nat) (c_s_isKey : C_s_isKey) (m_0 : List (Int × Int × List Int)) (m_1 m_2 : List Int) (m_3 : Bool) (list : List Int) : R_Z52 :=
  B_Z52_L0 k c_s_isKey k (list, (m_0, m_1, m_2, m_3, ()), 0, ())
def F_Z52 : Nat → C_Z52
  | 0, _, _, _, _, _ => none
  | k + 1, m_0, m_1, m_2, m_3, list => B_Z52 k (F_s_isKey k) m_0 m_1 m_2 m_3 list
theorem tot_Z52 {m_0 m_1 m_2 m_3 list : _} {Q : _ → Prop} (h : Tot (fun σ => B_Z52 (σ 0) (F_s_isKey (σ 0)) m_0 m_1 m_2 m_3 list) Q) : Tot (fun σ => F_Z52 (σ 0) m_0 m_1 m_2 m_3 list) Q :=
  Tot.call (F := fun k => F_Z52 k m_0 m_1 m_2 m_3 list) (B := fun k => B_Z52 k (F_s_isKey k) m_0 m_1 m_2 m_3 list) (fun k => rfl) h
abbrev A_Z52_L0 (Z : Type) : Type := List Int → (List (Int × Int × List Int)) → List Int → List Int → Bool → Int → Z
abbrev u_Z52_L0 {Z : Type} (f : A_Z52_L0 Z) (t : T_Z52_L0) : Z := f t.1 t.2.1.1 t.2.1.2.1 t.2.1.2.2.1 t.2.1.2.2.2.1 t.2.2.1
theorem loop_Z52_L0 {Q : A_Z52_L0 (((Bool × Unit) × (Unit)) → Prop)} (I : A_Z52_L0 Prop) (μ : A_Z52_L0 Nat)
    (step : ∀ a0 a1 a2 a3 a4 a5, I a0 a1 a2 a3 a4 a5 → ∀ again : (Nat → Nat) → T_Z52_L0 → R_Z52, Dep 2 again → (∀ y0 y1 y2 y3 y4 y5, I y0 y1 y2 y3 y4 y5 → μ y0 y1 y2 y3 y4 y5 < μ a0 a1 a2 a3 a4 a5 → Tot (fun σ => again σ (y0, (y1, y2, y3, y4, ()), y5, ())) (Q y0 y1 y2 y3 y4 y5)) →
      Tot (fun σ => B_Z52_L0b (σ 0) (F_s_isKey (σ 0)) (again σ) a0 a1 a2 a3 a4 a5) (Q a0 a1 a2 a3 a4 a5)) :
    ∀ a0 a1 a2 a3 a4 a5, I a0 a1 a2 a3 a4 a5 → Tot (fun σ => B_Z52_L0 (σ 0) (F_s_isKey (σ 0)) (σ 0) (a0, (a1, a2, a3, a4, ()), a5, ())) (Q a0 a1 a2 a3 a4 a5) := fun a0 a1 a2 a3 a4 a5 => Tot.loop0 (L := fun k => B_Z52_L0 k (F_s_isKey k)) (B := fun k g => u_Z52_L0 (B_Z52_L0b k (F_s_isKey k) g)) (Q := u_Z52_L0 Q) (fun _ _ _ => rfl) (u_Z52_L0 I) (u_Z52_L0 μ)
    (fun t ht again hag h => step t.1 t.2.1.1 t.2.1.2.1 t.2.1.2.2.1 t.2.1.2.2.2.1 t.2.2.1 ht again hag fun y0 y1 y2 y3 y4 y5 => h (y0, (y1, y2, y3, y4, ()), y5, ())) (a0, (a1, a2, a3, a4, ()), a5, ())
abbrev R_Z66 : Type := Option ((((List (Int × Int × List Int)) × List Int × List Int × Bool × Unit) × Unit) × (Unit))
abbrev C_Z66 : Type := (List (Int × Int × List Int)) → List Int → List Int → Bool → Int → Int → Int → R_Z66
abbrev T_Z66_L0 : Type := Int × Int × Int × (Unit × Unit × Unit × Bool × Unit) × List Int × Int × ((List (Int × Int × List Int) × Nat) × List Int × List Int × Bool × Unit) × Unit
def B_Z66_L0b (k : Nat) (c_Z55 : C_Z55) (again0 : T_Z66_L0 → R_Z66) (dict key value : Int) (t8_Done : Bool) (kids : List Int) (i : Int) (m_Nodes : List (Int × Int × List Int) × Nat) (m_Stack m_Memo : List Int) (m_Done : Bool) : R_Z66 :=
  bif decide (i < (len kids)) then
    chk (inb i kids.length) <|
    chk (decide (i.toNat < kids.length)) <|
    chk (inb (kids.getD i.toNat (0 : Int)) m_Nodes.1.length) <|
    chk (decide ((kids.getD i.toNat (0 : Int)).toNat < m_Nodes.1.length)) <|
    chk (inb key m_Nodes.1.length) <|
    chk (decide (key.toNat < m_Nodes.1.length)) <|
    (c_Z55 ((m_Nodes.1.getD ((kids.getD i.toNat (0 : Int)).toNat) ((0 : Int), ((0 : Int), ([] : List Int)))).1) (((m_Nodes.1.getD ((kids.getD i.toNat (0 : Int)).toNat) ((0 : Int), ((0 : Int), ([] : List Int)))).2).1) ((m_Nodes.1.getD key.toNat ((0 : Int), ((0 : Int), ([] : List Int)))).1) (((m_Nodes.1.getD key.toNat ((0 : Int), ((0 : Int), ([] : List Int)))).2).1)).bind fun r36 =>
    bif r36.1.1 then
      chk (inb (w64 (i + 1)) kids.length) <|
      chk (decide ((w64 (i + 1)).toNat < kids.length)) <|
      some ((((m_Nodes.1.set m_Nodes.2 ((m_Nodes.1.getD m_Nodes.2 ((0 : Int), ((0 : Int), ([] : List Int)))).1, (((m_Nodes.1.getD m_Nodes.2 ((0 : Int), ((0 : Int), ([] : List Int)))).2).1, (kids.set ((w64 (i + 1)).toNat) value)))), m_Stack, m_Memo, m_Done, ()), ()), ())
    else
      again0 (dict, key, value, ((), (), (), t8_Done, ()), kids, w64 (i + 2), ((m_Nodes.1, m_Nodes.2), m_Stack, m_Memo, m_Done, ()), ())
  else
    chk (room kids.length ([key, value]).length) <|
    chk (inb dict m_Nodes.1.length) <|
    chk (decide (dict.toNat = m_Nodes.2)) <|
    some ((((m_Nodes.1.set dict.toNat ((m_Nodes.1.getD dict.toNat ((0 : Int), ((0 : Int), ([] : List Int)))).1, (((m_Nodes.1.getD dict.toNat ((0 : Int), ((0 : Int), ([] : List Int)))).2).1, (kids ++ [key, value])))), m_Stack, m_Memo, m_Done, ()), ()), ())
def B_Z66_L0 (k : Nat) (c_Z55 : C_Z55) (n : Nat) (t : T_Z66_L0) : R_Z66 :=
  lfix n (fun again t => B_Z66_L0b k c_Z55 again t.1 t.2.1 t.2.2.1 t.2.2.2.1.2.2.2.1 t.2.2.2.2.1 t.2.2.2.2.2.1 t.2.2.2.2.2.2.1.1 t.2.2.2.2.2.2.1.2.1 t.2.2.2.2.2.2.1.2.2.1 t.2.2.2.2.2.2.1.2.2.2.1) t
def B_Z66 (k : Nat) (c_Z55 : C_Z55) (m_0 : List (Int × Int × List Int)) (m_1 m_2 : List Int) (m_3 : Bool) (dict key value : Int) : R_Z66 :=
  chk (inb dict m_0.length) <|
  chk (decide (dict.toNat < m_0.length)) <|
  B_Z66_L0 k c_Z55 k (dict, key, value, ((), (), (), false, ()), ((m_0.getD dict.toNat ((0 : Int), ((0 : Int), ([] : List Int)))).2).2, 0, ((m_0, dict.toNat), m_1, m_2, m_3, ()), ())
def F_Z66 : Nat → C_Z66
  | 0, _, _, _, _, _, _, _ => none
  | k + 1, m_0, m_1, m_2, m_3, dict, key, value => B_Z66 k (F_Z55 k) m_0 m_1 m_2 m_3 dict key value
theorem tot_Z66 {m_0 m_1 m_2 m_3 dict key value : _} {Q : _ → Prop} (h : Tot (fun σ => B_Z66 (σ 0) (F_Z55 (σ 0)) m_0 m_1 m_2 m_3 dict key value) Q) : Tot (fun σ => F_Z66 (σ 0) m_0 m_1 m_2 m_3 dict key value) Q :=
  Tot.call (F := fun k => F_Z66 k m_0 m_1 m_2 m_3 dict key value) (B := fun k => B_Z66 k (F_Z55 k) m_0 m_1 m_2 m_3 dict key value) (fun k => rfl) h
abbrev A_Z66_L0 (Z : Type) : Type := Int → Int → Int → Bool → List Int → Int → (List (Int × Int × List Int) × Nat) → List Int → List Int → Bool → Z
abbrev u_Z66_L0 {Z : Type} (f : A_Z66_L0 Z) (t : T_Z66_L0) : Z := f t.1 t.2.1 t.2.2.1 t.2.2.2.1.2.2.2.1 t.2.2.2.2.1 t.2.2.2.2.2.1 t.2.2.2.2.2.2.1.1 t.2.2.2.2.2.2.1.2.1 t.2.2.2.2.2.2.1.2.2.1 t.2.2.2.2.2.2.1.2.2.2.1
theorem loop_Z66_L0 {Q : A_Z66_L0 (((((List (Int × Int × List Int)) × List Int × List Int × Bool × Unit) × Unit) × (Unit)) → Prop)} (I : A_Z66_L0 Prop) (μ : A_Z66_L0 Nat)
    (step : ∀ a0 a1 a2 a3 a4 a5 a6 a7 a8 a9, I a0 a1 a2 a3 a4 a5 a6 a7 a8 a9 → ∀ again : (Nat → Nat) → T_Z66_L0 → R_Z66, Dep 2 again → (∀ y0 y1 y2 y3 y4 y5 y6 y7 y8 y9, I y0 y1 y2 y3 y4 y5 y6 y7 y8 y9 → μ y0 y1 y2 y3 y4 y5 y6 y7 y8 y9 < μ a0 a1 a2 a3 a4 a5 a6 a7 a8 a9 → Tot (fun σ => again σ (y0, y1, y2, ((), (), (), y3, ()), y4, y5, (y6, y7, y8, y9, ()), ())) (Q y0 y1 y2 y3 y4 y5 y6 y7 y8 y9)) →
      Tot (fun σ => B_Z66_L0b (σ 0) (F_Z55 (σ 0)) (again σ) a0 a1 a2 a3 a4 a5 a6 a7 a8 a9) (Q a0 a1 a2 a3 a4 a5 a6 a7 a8 a9)) :
    ∀ a0 a1 a2 a3 a4 a5 a6 a7 a8 a9, I a0 a1 a2 a3 a4 a5 a6 a7 a8 a9 → Tot (fun σ => B_Z66_L0 (σ 0) (F_Z55 (σ 0)) (σ 0) (a0, a1, a2, ((), (), (), a3, ()), a4, a5, (a6, a7, a8, a9, ()), ())) (Q a0 a1 a2 a3 a4 a5 a6 a7 a8 a9) := fun a0 a1 a2 a3 a4 a5 a6 a7 a8 a9 => Tot.loop0 (L := fun k => B_Z66_L0 k (F_Z55 k)) (B := fun k g => u_Z66_L0 (B_Z66_L0b k (F_Z55 k) g)) (Q := u_Z66_L0 Q) (fun _ _ _ => rfl) (u_Z66_L0 I) (u_Z66_L0 μ)
    (fun t ht again hag h => step t.1 t.2.1 t.2.2.1 t.2.2.2.1.2.2.2.1 t.2.2.2.2.1 t.2.2.2.2.2.1 t.2.2.2.2.2.2.1.1 t.2.2.2.2.2.2.1.2.1 t.2.2.2.2.2.2.1.2.2.1 t.2.2.2.2.2.2.1.2.2.2.1 ht again hag fun y0 y1 y2 y3 y4 y5 y6 y7 y8 y9 => h (y0, y1, y2, ((), (), (), y3, ()), y4, y5, (y6, y7, y8, y9, ()), ())) (a0, a1, a2, ((), (), (), a3, ()), a4, a5, (a6, a7, a8, a9, ()), ())
abbrev R_Z51 : Type := Option ((((List (Int × Int × List Int)) × List Int × List Int × Bool × Unit) × Bool × Unit) × (Unit))
abbrev C_Z51 : Type := (List (Int × Int × List Int)) → List Int → List Int → Bool → Int → Int → R_Z51
abbrev T_Z51_L1 : Type := ((List (Int × Int × List Int)) × List Int × List Int × Bool × Unit) × (Unit × Unit × Unit × Bool × Unit) × List Int × Int × Int × Unit
def B_Z51_J2 (k : Nat) (c_s_markAt : C_s_markAt) (c_Z44 : C_Z44) (c_s_drop : C_s_drop) (c_s_top : C_s_top) (c_s_push : C_s_push) (c_s_kindOf : C_s_kindOf) (c_Z52 : C_Z52) (c_Z66 : C_Z66) (m_Nodes : List (Int × Int × List Int)) (m_Stack m_Memo : List Int) (m_Done t4_Done : Bool) : R_Z51 :=
  some (((m_Nodes, m_Stack, m_Memo, m_Done, ()), true, ()), ())
def B_Z51_L1b (k : Nat) (c_s_markAt : C_s_markAt) (c_Z44 : C_Z44) (c_s_drop : C_s_drop) (c_s_top : C_s_top) (c_s_push : C_s_push) (c_s_kindOf : C_s_kindOf) (c_Z52 : C_Z52) (c_Z66 : C_Z66) (again1 : T_Z51_L1 → R_Z51) (m_Nodes : List (Int × Int × List Int)) (m_Stack m_Memo : List Int) (m_Done t4_Done : Bool) (list : List Int) (below i : Int) : R_Z51 :=
  bif decide (i < (len list)) then
    chk (inb i list.length) <|
    chk (decide (i.toNat < list.length)) <|
    chk (inb (w64 (i + 1)) list.length) <|
    chk (decide ((w64 (i + 1)).toNat < list.length)) <|
    (c_Z66 m_Nodes m_Stack m_Memo m_Done below (list.getD i.toNat (0 : Int)) (list.getD ((w64 (i + 1)).toNat) (0 : Int))).bind fun r86 =>
    again1 ((r86.1.1.1, r86.1.1.2.1, r86.1.1.2.2.1, r86.1.1.2.2.2.1, ()), ((), (), (), t4_Done, ()), list, below, w64 (i + 2), ())
  else
    jn (fun t => B_Z51_J2 k c_s_markAt c_Z44 c_s_drop c_s_top c_s_push c_s_kindOf c_Z52 c_Z66 t.1.1 t.1.2.1 t.1.2.2.1 t.1.2.2.2.1 t.2.1.2.2.2.1) ((m_Nodes, m_Stack, m_Memo, m_Done, ()), ((), (), (), t4_Done, ()), ())
def B_Z51_L1 (k : Nat) (c_s_markAt : C_s_markAt) (c_Z44 : C_Z44) (c_s_drop : C_s_drop) (c_s_top : C_s_top) (c_s_push : C_s_push) (c_s_kindOf : C_s_kindOf) (c_Z52 : C_Z52) (c_Z66 : C_Z66) (n : Nat) (t : T_Z51_L1) : R_Z51 :=
  lfix n (fun again t => B_Z51_L1b k c_s_markAt c_Z44 c_s_drop c_s_top c_s_push c_s_kindOf c_Z52 c_Z66 again t.1.1 t.1.2.1 t.1.2.2.1 t.1.2.2.2.1 t.2.1.2.2.2.1 t.2.2.1 t.2.2.2.1 t.2.2.2.2.1) t
def B_Z51_J0 (k : Nat) (c_s_markAt : C_s_markAt) (c_Z44 : C_Z44) (c_s_drop : C_s_drop) (c_s_top : C_s_top) (c_s_push : C_s_push) (c_s_kindOf : C_s_kindOf) (c_Z52 : C_Z52) (c_Z66 : C_Z66) (m_Nodes : List (Int × Int × List Int)) (m_Stack m_Memo : List Int) (m_Done t4_Done : Bool) (list : List Int) (below : Int) (t67 : Bool) : R_Z51 :=
  bif t67 then
    some (((m_Nodes, m_Stack, m_Memo, m_Done, ()), false, ()), ())
  else
    B_Z51_L1 k c_s_markAt c_Z44 c_s_drop c_s_top c_s_push c_s_kindOf c_Z52 c_Z66 k ((m_Nodes, m_Stack, m_Memo, m_Done, ()), ((), (), (), t4_Done, ()), list, below, 0, ())
def B_Z51 (k : Nat) (c_s_markAt : C_s_markAt) (c_Z44 : C_Z44) (c_s_drop : C_s_drop) (c_s_top : C_s_top) (c_s_push : C_s_push) (c_s_kindOf : C_s_kindOf) (c_Z52 : C_Z52) (c_Z66 : C_Z66) (m_0 : List (Int × Int × List Int)) (m_1 m_2 : List Int) (m_3 : Bool) (o_0 o_1 : Int) : R_Z51 :=
  (c_s_markAt m_0 m_1 m_2 m_3).bind fun r11 =>
  bif decide (r11.1.1 < 0) then
    some (((m_0, m_1, m_2, m_3, ()), false, ()), ())
  else
    chk (cutb (w64 (r11.1.1 + 1)) (len m_1) m_1.length) <|
    (c_Z44 ((m_1.take ((len m_1).toNat)).drop ((w64 (r11.1.1 + 1)).toNat))).bind fun r20 =>
    (c_s_drop m_0 m_1 m_2 m_3 (w64 ((len r20.1.1) + 1))).bind fun r25 =>
    (c_s_top r25.1.1.1 r25.1.1.2.1 r25.1.1.2.2.1 r25.1.1.2.2.2.1 0).bind fun r27 =>
    bif (o_0 == 3) then
      (c_s_push r25.1.1.1 r25.1.1.2.1 r25.1.1.2.2.1 r25.1.1.2.2.2.1 2 0 r20.1.1).bind fun r35 =>
      some (((r35.1.1.1, r35.1.1.2.1, r35.1.1.2.2.1, r35.1.1.2.2.2.1, ()), true, ()), ())
    else
      bif (o_0 == 9) then
        (c_s_kindOf r25.1.1.1 r25.1.1.2.1 r25.1.1.2.2.1 r25.1.1.2.2.2.1 r27.1.1).bind fun r40 =>
        bif (r40.1.1 != 3) then
          some (((r25.1.1.1, r25.1.1.2.1, r25.1.1.2.2.1, r25.1.1.2.2.2.1, ()), false, ()), ())
        else
          chk (inb r27.1.1 r25.1.1.1.length) <|
          chk (decide (r27.1.1.toNat < r25.1.1.1.length)) <|
          chk (room (((r25.1.1.1.getD r27.1.1.toNat ((0 : Int), ((0 : Int), ([] : List Int)))).2).2).length r20.1.1.length) <|
          chk (inb r27.1.1 r25.1.1.1.length) <|
          chk (decide (r27.1.1.toNat = r27.1.1.toNat)) <|
          let w1 : List (Int × Int × List Int) := (r25.1.1.1.set r27.1.1.toNat ((r25.1.1.1.getD r27.1.1.toNat ((0 : Int), ((0 : Int), ([] : List Int)))).1, (((r25.1.1.1.getD r27.1.1.toNat ((0 : Int), ((0 : Int), ([] : List Int)))).2).1, (((r25.1.1.1.getD r27.1.1.toNat ((0 : Int), ((0 : Int), ([] : List Int)))).2).2 ++ r20.1.1))))
          jn (fun t => B_Z51_J2 k c_s_markAt c_Z44 c_s_drop c_s_top c_s_push c_s_kindOf c_Z52 c_Z66 t.1.1 t.1.2.1 t.1.2.2.1 t.1.2.2.2.1 t.2.1.2.2.2.1) ((w1, r25.1.1.2.1, r25.1.1.2.2.1, r25.1.1.2.2.2.1, ()), ((), (), (), false, ()), ())
      else
        bif (o_0 == 12) then
          (c_s_kindOf r25.1.1.1 r25.1.1.2.1 r25.1.1.2.2.1 r25.1.1.2.2.2.1 r27.1.1).bind fun r60 =>
          bif (r60.1.1 != 4) then
            jn (fun t => B_Z51_J0 k c_s_markAt c_Z44 c_s_drop c_s_top c_s_push c_s_kindOf c_Z52 c_Z66 t.1.1 t.1.2.1 t.1.2.2.1 t.1.2.2.2.1 t.2.1.2.2.2.1 t.2.2.1 t.2.2.2.1 t.2.2.2.2.1) ((r25.1.1.1, r25.1.1.2.1, r25.1.1.2.2.1, r25.1.1.2.2.2.1, ()), ((), (), (), false, ()), r20.1.1, r27.1.1, true, ())
          else
            (c_Z52 r25.1.1.1 r25.1.1.2.1 r25.1.1.2.2.1 r25.1.1.2.2.2.1 r20.1.1).bind fun r65 =>
            jn (fun t => B_Z51_J0 k c_s_markAt c_Z44 c_s_drop c_s_top c_s_push c_s_kindOf c_Z52 c_Z66 t.1.1 t.1.2.1 t.1.2.2.1 t.1.2.2.2.1 t.2.1.2.2.2.1 t.2.2.1 t.2.2.2.1 t.2.2.2.2.1) ((r25.1.1.1, r25.1.1.2.1, r25.1.1.2.2.1, r25.1.1.2.2.2.1, ()), ((), (), (), false, ()), r20.1.1, r27.1.1, (!r65.1.1), ())
        else
          jn (fun t => B_Z51_J2 k c_s_markAt c_Z44 c_s_drop c_s_top c_s_push c_s_kindOf c_Z52 c_Z66 t.1.1 t.1.2.1 t.1.2.2.1 t.1.2.2.2.1 t.2.1.2.2.2.1) ((r25.1.1.1, r25.1.1.2.1, r25.1.1.2.2.1, r25.1.1.2.2.2.1, ()), ((), (), (), false, ()), ())
def F_Z51 : Nat → C_Z51
  | 0, _, _, _, _, _, _ => none
  | k + 1, m_0, m_1, m_2, m_3, o_0, o_1 => B_Z51 k (F_s_markAt k) (F_Z44 k) (F_s_drop k) (F_s_top k) (F_s_push k) (F_s_kindOf k) (F_Z52 k) (F_Z66 k) m_0 m_1 m_2 m_3 o_0 o_1
theorem tot_Z51 {m_0 m_1 m_2 m_3 o_0 o_1 : _} {Q : _ → Prop} (h : Tot (fun σ => B_Z51 (σ 0) (F_s_markAt (σ 0)) (F_Z44 (σ 0)) (F_s_drop (σ 0)) (F_s_top (σ 0)) (F_s_push (σ 0)) (F_s_kindOf (σ 0)) (F_Z52 (σ 0)) (F_Z66 (σ 0)) m_0 m_1 m_2 m_3 o_0 o_1) Q) : Tot (fun σ => F_Z51 (σ 0) m_0 m_1 m_2 m_3 o_0 o_1) Q :=
  Tot.call (F := fun k => F_Z51 k m_0 m_1 m_2 m_3 o_0 o_1) (B := fun k => B_Z51 k (F_s_markAt k) (F_Z44 k) (F_s_drop k) (F_s_top k) (F_s_push k) (F_s_kindOf k) (F_Z52 k) (F_Z66 k) m_0 m_1 m_2 m_3 o_0 o_1) (fun k => rfl) h
abbrev A_Z51_L1 (Z : Type) : Type := (List (Int × Int × List Int)) → List Int → List Int → Bool → Bool → List Int → Int → Int → Z
abbrev u_Z51_L1 {Z : Type} (f : A_Z51_L1 Z) (t : T_Z51_L1) : Z := f t.1.1 t.1.2.1 t.1.2.2.1 t.1.2.2.2.1 t.2.1.2.2.2.1 t.2.2.1 t.2.2.2.1 t.2.2.2.2.1
theorem loop_Z51_L1 {Q : A_Z51_L1 (((((List (Int × Int × List Int)) × List Int × List Int × Bool × Unit) × Bool × Unit) × (Unit)) → Prop)} (I : A_Z51_L1 Prop) (μ : A_Z51_L1 Nat)
    (step : ∀ a0 a1 a2 a3 a4 a5 a6 a7, I a0 a1 a2 a3 a4 a5 a6 a7 → ∀ again : (Nat → Nat) → T_Z51_L1 → R_Z51, Dep 2 again → (∀ y0 y1 y2 y3 y4 y5 y6 y7, I y0 y1 y2 y3 y4 y5 y6 y7 → μ y0 y1 y2 y3 y4 y5 y6 y7 < μ a0 a1 a2 a3 a4 a5 a6 a7 → Tot (fun σ => again σ ((y0, y1, y2, y3, ()), ((), (), (), y4, ()), y5, y6, y7, ())) (Q y0 y1 y2 y3 y4 y5 y6 y7)) →
      Tot (fun σ => B_Z51_L1b (σ 0) (F_s_markAt (σ 0)) (F_Z44 (σ 0)) (F_s_drop (σ 0)) (F_s_top (σ 0)) (F_s_push (σ 0)) (F_s_kindOf (σ 0)) (F_Z52 (σ 0)) (F_Z66 (σ 0)) (again σ) a0 a1 a2 a3 a4 a5 a6 a7) (Q a0 a1 a2 a3 a4 a5 a6 a7)) :
    ∀ a0 a1 a2 a3 a4 a5 a6 a7, I a0 a1 a2 a3 a4 a5 a6 a7 → Tot (fun σ => B_Z51_L1 (σ 0) (F_s_markAt (σ 0)) (F_Z44 (σ 0)) (F_s_drop (σ 0)) (F_s_top (σ 0)) (F_s_push (σ 0)) (F_s_kindOf (σ 0)) (F_Z52 (σ 0)) (F_Z66 (σ 0)) (σ 0) ((a0, a1, a2, a3, ()), ((), (), (), a4, ()), a5, a6, a7, ())) (Q a0 a1 a2 a3 a4 a5 a6 a7) := fun a0 a1 a2 a3 a4 a5 a6 a7 => Tot.loop0 (L := fun k => B_Z51_L1 k (F_s_markAt k) (F_Z44 k) (F_s_drop k) (F_s_top k) (F_s_push k) (F_s_kindOf k) (F_Z52 k) (F_Z66 k)) (B := fun k g => u_Z51_L1 (B_Z51_L1b k (F_s_markAt k) (F_Z44 k) (F_s_drop k) (F_s_top k) (F_s_push k) (F_s_kindOf k) (F_Z52 k) (F_Z66 k) g)) (Q := u_Z51_L1 Q) (fun _ _ _ => rfl) (u_Z51_L1 I) (u_Z51_L1 μ)
    (fun t ht again hag h => step t.1.1 t.1.2.1 t.1.2.2.1 t.1.2.2.2.1 t.2.1.2.2.2.1 t.2.2.1 t.2.2.2.1 t.2.2.2.2.1 ht again hag fun y0 y1 y2 y3 y4 y5 y6 y7 => h ((y0, y1, y2, y3, ()), ((), (), (), y4, ()), y5, y6, y7, ())) ((a0, a1, a2, a3, ()), ((), (), (), a4, ()), a5, a6, a7, ())
abbrev R_Z68 : Type := Option ((((List (Int × Int × List Int)) × List Int × List Int × Bool × Unit) × Bool × Unit) × (Unit))
abbrev C_Z68 : Type := (List (Int × Int × List Int)) → List Int → List Int → Bool → Int → Int → R_Z68
def B_Z68_J0 (k : Nat) (c_s_top : C_s_top) (c_s_drop : C_s_drop) (c_s_push : C_s_push) (c_s_kindOf : C_s_kindOf) (c_s_isKey : C_s_isKey) (c_Z66 : C_Z66) (m_Nodes : List (Int × Int × List Int)) (m_Stack m_Memo : List Int) (m_Done t4_Done : Bool) (a b c : Int) (t81 : Bool) : R_Z68 :=
  bif t81 then
    some (((m_Nodes, m_Stack, m_Memo, m_Done, ()), false, ()), ())
  else
    (c_Z66 m_Nodes m_Stack m_Memo m_Done c b a).bind fun r87 =>
    (c_s_drop r87.1.1.1 r87.1.1.2.1 r87.1.1.2.2.1 r87.1.1.2.2.2.1 2).bind fun r88 =>
    some (((r88.1.1.1, r88.1.1.2.1, r88.1.1.2.2.1, r88.1.1.2.2.2.1, ()), true, ()), ())
def B_Z68_J1 (k : Nat) (c_s_top : C_s_top) (c_s_drop : C_s_drop) (c_s_push : C_s_push) (c_s_kindOf : C_s_kindOf) (c_s_isKey : C_s_isKey) (c_Z66 : C_Z66) (m_Nodes : List (Int × Int × List Int)) (m_Stack m_Memo : List Int) (m_Done t4_Done : Bool) (a b : Int) (t104 : Bool) : R_Z68 :=
  bif t104 then
    some (((m_Nodes, m_Stack, m_Memo, m_Done, ()), false, ()), ())
  else
    chk (inb b m_Nodes.length) <|
    chk (decide (b.toNat < m_Nodes.length)) <|
    (c_s_drop (m_Nodes.set b.toNat ((m_Nodes.getD b.toNat ((0 : Int), ((0 : Int), ([] : List Int)))).1, (((m_Nodes.getD b.toNat ((0 : Int), ((0 : Int), ([] : List Int)))).2).1, [a]))) m_Stack m_Memo m_Done 1).bind fun r114 =>
    some (((r114.1.1.1, r114.1.1.2.1, r114.1.1.2.2.1, r114.1.1.2.2.2.1, ()), true, ()), ())
def B_Z68 (k : Nat) (c_s_top : C_s_top) (c_s_drop : C_s_drop) (c_s_push : C_s_push) (c_s_kindOf : C_s_kindOf) (c_s_isKey : C_s_isKey) (c_Z66 : C_Z66) (m_0 : List (Int × Int × List Int)) (m_1 m_2 : List Int) (m_3 : Bool) (o_0 o_1 : Int) : R_Z68 :=
  (c_s_top m_0 m_1 m_2 m_3 0).bind fun r10 =>
  (c_s_top m_0 m_1 m_2 m_3 1).bind fun r12 =>
  (c_s_top m_0 m_1 m_2 m_3 2).bind fun r14 =>
  bif decide (r10.1.1 < 0) then
    some (((m_0, m_1, m_2, m_3, ()), false, ()), ())
  else
    bif (o_0 == 5) then
      (c_s_drop m_0 m_1 m_2 m_3 1).bind fun r23 =>
      (c_s_push r23.1.1.1 r23.1.1.2.1 r23.1.1.2.2.1 r23.1.1.2.2.2.1 2 0 ([r10.1.1])).bind fun r27 =>
      some (((r27.1.1.1, r27.1.1.2.1, r27.1.1.2.2.1, r27.1.1.2.2.2.1, ()), true, ()), ())
    else
      bif (o_0 == 6) then
        bif decide (r12.1.1 < 0) then
          some (((m_0, m_1, m_2, m_3, ()), false, ()), ())
        else
          (c_s_drop m_0 m_1 m_2 m_3 2).bind fun r34 =>
          (c_s_push r34.1.1.1 r34.1.1.2.1 r34.1.1.2.2.1 r34.1.1.2.2.2.1 2 0 ([r12.1.1, r10.1.1])).bind fun r39 =>
          some (((r39.1.1.1, r39.1.1.2.1, r39.1.1.2.2.1, r39.1.1.2.2.2.1, ()), true, ()), ())
      else
        bif (o_0 == 8) then
          (c_s_kindOf m_0 m_1 m_2 m_3 r12.1.1).bind fun r44 =>
          bif (r44.1.1 != 3) then
            some (((m_0, m_1, m_2, m_3, ()), false, ()), ())
          else
            chk (inb r12.1.1 m_0.length) <|
            chk (decide (r12.1.1.toNat < m_0.length)) <|
            chk (room (((m_0.getD r12.1.1.toNat ((0 : Int), ((0 : Int), ([] : List Int)))).2).2).length ([r10.1.1]).length) <|
            chk (inb r12.1.1 m_0.length) <|
            chk (decide (r12.1.1.toNat = r12.1.1.toNat)) <|
            let w0 : List (Int × Int × List Int) := (m_0.set r12.1.1.toNat ((m_0.getD r12.1.1.toNat ((0 : Int), ((0 : Int), ([] : List Int)))).1, (((m_0.getD r12.1.1.toNat ((0 : Int), ((0 : Int), ([] : List Int)))).2).1, (((m_0.getD r12.1.1.toNat ((0 : Int), ((0 : Int), ([] : List Int)))).2).2 ++ [r10.1.1]))))
            (c_s_drop w0 m_1 m_2 m_3 1).bind fun r62 =>
            some (((r62.1.1.1, r62.1.1.2.1, r62.1.1.2.2.1, r62.1.1.2.2.2.1, ()), true, ()), ())
        else
          bif (o_0 == 11) then
            bif decide (r12.1.1 < 0) then
              jn (fun t => B_Z68_J0 k c_s_top c_s_drop c_s_push c_s_kindOf c_s_isKey c_Z66 t.1.1 t.1.2.1 t.1.2.2.1 t.1.2.2.2.1 t.2.1.2.2.2.1 t.2.2.1 t.2.2.2.1 t.2.2.2.2.1 t.2.2.2.2.2.1) ((m_0, m_1, m_2, m_3, ()), ((), (), (), false, ()), r10.1.1, r12.1.1, r14.1.1, true, ())
            else
              (c_s_kindOf m_0 m_1 m_2 m_3 r14.1.1).bind fun r70 =>
              bif (r70.1.1 != 4) then
                jn (fun t => B_Z68_J0 k c_s_top c_s_drop c_s_push c_s_kindOf c_s_isKey c_Z66 t.1.1 t.1.2.1 t.1.2.2.1 t.1.2.2.2.1 t.2.1.2.2.2.1 t.2.2.1 t.2.2.2.1 t.2.2.2.2.1 t.2.2.2.2.2.1) ((m_0, m_1, m_2, m_3, ()), ((), (), (), false, ()), r10.1.1, r12.1.1, r14.1.1, true, ())
              else
                chk (inb r12.1.1 m_0.length) <|
                chk (decide (r12.1.1.toNat < m_0.length)) <|
                (c_s_isKey ((m_0.getD r12.1.1.toNat ((0 : Int), ((0 : Int), ([] : List Int)))).1) (((m_0.getD r12.1.1.toNat ((0 : Int), ((0 : Int), ([] : List Int)))).2).1)).bind fun r79 =>
                jn (fun t => B_Z68_J0 k c_s_top c_s_drop c_s_push c_s_kindOf c_s_isKey c_Z66 t.1.1 t.1.2.1 t.1.2.2.1 t.1.2.2.2.1 t.2.1.2.2.2.1 t.2.2.1 t.2.2.2.1 t.2.2.2.2.1 t.2.2.2.2.2.1) ((m_0, m_1, m_2, m_3, ()), ((), (), (), false, ()), r10.1.1, r12.1.1, r14.1.1, (!r79.1.1), ())
          else
            bif (o_0 == 14) then
              (c_s_kindOf m_0 m_1 m_2 m_3 r12.1.1).bind fun r93 =>
              bif (r93.1.1 != 5) then
                jn (fun t => B_Z68_J1 k c_s_top c_s_drop c_s_push c_s_kindOf c_s_isKey c_Z66 t.1.1 t.1.2.1 t.1.2.2.1 t.1.2.2.2.1 t.2.1.2.2.2.1 t.2.2.1 t.2.2.2.1 t.2.2.2.2.1) ((m_0, m_1, m_2, m_3, ()), ((), (), (), false, ()), r10.1.1, r12.1.1, true, ())
              else
                chk (inb r12.1.1 m_0.length) <|
                chk (decide (r12.1.1.toNat < m_0.length)) <|
                let v103 : Bool := decide ((len (((m_0.getD r12.1.1.toNat ((0 : Int), ((0 : Int), ([] : List Int)))).2).2)) > 0)
                let w2 : List (Int × Int × List Int) := (m_0.set r12.1.1.toNat ((m_0.getD r12.1.1.toNat ((0 : Int), ((0 : Int), ([] : List Int)))).1, (((m_0.getD r12.1.1.toNat ((0 : Int), ((0 : Int), ([] : List Int)))).2).1, ((m_0.getD r12.1.1.toNat ((0 : Int), ((0 : Int), ([] : List Int)))).2).2)))
                jn (fun t => B_Z68_J1 k c_s_top c_s_drop c_s_push c_s_kindOf c_s_isKey c_Z66 t.1.1 t.1.2.1 t.1.2.2.1 t.1.2.2.2.1 t.2.1.2.2.2.1 t.2.2.1 t.2.2.2.1 t.2.2.2.2.1) ((w2, m_1, m_2, m_3, ()), ((), (), (), false, ()), r10.1.1, r12.1.1, v103, ())
            else
              bif (o_0 == 15) then
                chk (inb o_1 m_2.length) <|
                chk (decide (o_1.toNat < m_2.length)) <|
                some (((m_0, m_1, (m_2.set o_1.toNat r10.1.1), m_3, ()), true, ()), ())
              else
                bif (o_0 == 17) then
                  (c_s_drop m_0 m_1 m_2 m_3 1).bind fun r127 =>
                  some (((r127.1.1.1, r127.1.1.2.1, r127.1.1.2.2.1, r127.1.1.2.2.2.1, ()), true, ()), ())
                else
                  some (((m_0, m_1, m_2, true, ()), ((len m_1) == 1), ()), ())
def F_Z68 : Nat → C_Z68
  | 0, _, _, _, _, _, _ => none
  | k + 1, m_0, m_1, m_2, m_3, o_0, o_1 => B_Z68 k (F_s_top k) (F_s_drop k) (F_s_push k) (F_s_kindOf k) (F_s_isKey k) (F_Z66 k) m_0 m_1 m_2 m_3 o_0 o_1
theorem tot_Z68 {m_0 m_1 m_2 m_3 o_0 o_1 : _} {Q : _ → Prop} (h : Tot (fun σ => B_Z68 (σ 0) (F_s_top (σ 0)) (F_s_drop (σ 0)) (F_s_push (σ 0)) (F_s_kindOf (σ 0)) (F_s_isKey (σ 0)) (F_Z66 (σ 0)) m_0 m_1 m_2 m_3 o_0 o_1) Q) : Tot (fun σ => F_Z68 (σ 0) m_0 m_1 m_2 m_3 o_0 o_1) Q :=
  Tot.call (F := fun k => F_Z68 k m_0 m_1 m_2 m_3 o_0 o_1) (B := fun k => B_Z68 k (F_s_top k) (F_s_drop k) (F_s_push k) (F_s_kindOf k) (F_s_isKey k) (F_Z66 k) m_0 m_1 m_2 m_3 o_0 o_1) (fun k => rfl) h
abbrev R_s_step : Type := Option ((((Option (List (Int × Int × List Int))) × Option (List Int) × Option (List Int) × Bool × Unit) × Bool × Unit) × (Unit))
abbrev C_s_step : Type := (List (Int × Int × List Int)) → List Int → List Int → Bool → Int → Int → R_s_step
def B_s_step_J1 (k : Nat) (c_s_push : C_s_push) (c_Z51 : C_Z51) (c_Z68 : C_Z68) (m_Nodes : List (Int × Int × List Int)) (m_Stack m_Memo : List Int) (m_Done t4_Done : Bool) : R_s_step :=
  bif decide ((len m_Nodes) ≤ 300) then
    some ((((some m_Nodes), (some m_Stack), (some m_Memo), m_Done, ()), decide ((len m_Stack) ≤ 300), ()), ())
  else
    some ((((some m_Nodes), (some m_Stack), (some m_Memo), m_Done, ()), false, ()), ())
def B_s_step_J0 (k : Nat) (c_s_push : C_s_push) (c_Z51 : C_Z51) (c_Z68 : C_Z68) (m_Nodes : List (Int × Int × List Int)) (m_Stack m_Memo : List Int) (m_Done : Bool) (o_Code o_Arg : Int) (t4_Done t89 : Bool) : R_s_step :=
  bif t89 then
    (c_Z51 m_Nodes m_Stack m_Memo m_Done o_Code o_Arg).bind fun r97 =>
    bif (!r97.1.2.1) then
      some (((none, none, none, m_Done, ()), false, ()), ())
    else
      jn (fun t => B_s_step_J1 k c_s_push c_Z51 c_Z68 t.1.1 t.1.2.1 t.1.2.2.1 t.1.2.2.2.1 t.2.1.2.2.2.1) ((r97.1.1.1, r97.1.1.2.1, r97.1.1.2.2.1, r97.1.1.2.2.2.1, ()), ((), (), (), t4_Done, ()), ())
  else
    (c_Z68 m_Nodes m_Stack m_Memo m_Done o_Code o_Arg).bind fun r18 =>
    bif (!r18.1.2.1) then
      some (((none, none, none, m_Done, ()), false, ()), ())
    else
      jn (fun t => B_s_step_J1 k c_s_push c_Z51 c_Z68 t.1.1 t.1.2.1 t.1.2.2.1 t.1.2.2.2.1 t.2.1.2.2.2.1) ((r18.1.1.1, r18.1.1.2.1, r18.1.1.2.2.1, r18.1.1.2.2.2.1, ()), ((), (), (), t4_Done, ()), ())
def B_s_step (k : Nat) (c_s_push : C_s_push) (c_Z51 : C_Z51) (c_Z68 : C_Z68) (m_0 : List (Int × Int × List Int)) (m_1 m_2 : List Int) (m_3 : Bool) (o_0 o_1 : Int) : R_s_step :=
  bif m_3 then
    some ((((some m_0), (some m_1), (some m_2), m_3, ()), false, ()), ())
  else
    bif (o_0 == 0) then
      (c_s_push m_0 m_1 m_2 m_3 0 o_1 ([])).bind fun r31 =>
      jn (fun t => B_s_step_J1 k c_s_push c_Z51 c_Z68 t.1.1 t.1.2.1 t.1.2.2.1 t.1.2.2.2.1 t.2.1.2.2.2.1) ((r31.1.1.1, r31.1.1.2.1, r31.1.1.2.2.1, r31.1.1.2.2.2.1, ()), ((), (), (), false, ()), ())
    else
      bif (o_0 == 1) then
        (c_s_push m_0 m_1 m_2 m_3 1 o_1 ([])).bind fun r38 =>
        jn (fun t => B_s_step_J1 k c_s_push c_Z51 c_Z68 t.1.1 t.1.2.1 t.1.2.2.1 t.1.2.2.2.1 t.2.1.2.2.2.1) ((r38.1.1.1, r38.1.1.2.1, r38.1.1.2.2.1, r38.1.1.2.2.2.1, ()), ((), (), (), false, ()), ())
      else
        bif (o_0 == 4) then
          (c_s_push m_0 m_1 m_2 m_3 2 0 ([])).bind fun r43 =>
          jn (fun t => B_s_step_J1 k c_s_push c_Z51 c_Z68 t.1.1 t.1.2.1 t.1.2.2.1 t.1.2.2.2.1 t.2.1.2.2.2.1) ((r43.1.1.1, r43.1.1.2.1, r43.1.1.2.2.1, r43.1.1.2.2.2.1, ()), ((), (), (), false, ()), ())
        else
          bif (o_0 == 7) then
            (c_s_push m_0 m_1 m_2 m_3 3 0 ([])).bind fun r48 =>
            jn (fun t => B_s_step_J1 k c_s_push c_Z51 c_Z68 t.1.1 t.1.2.1 t.1.2.2.1 t.1.2.2.2.1 t.2.1.2.2.2.1) ((r48.1.1.1, r48.1.1.2.1, r48.1.1.2.2.1, r48.1.1.2.2.2.1, ()), ((), (), (), false, ()), ())
          else
            bif (o_0 == 10) then
              (c_s_push m_0 m_1 m_2 m_3 4 0 ([])).bind fun r53 =>
              jn (fun t => B_s_step_J1 k c_s_push c_Z51 c_Z68 t.1.1 t.1.2.1 t.1.2.2.1 t.1.2.2.2.1 t.2.1.2.2.2.1) ((r53.1.1.1, r53.1.1.2.1, r53.1.1.2.2.1, r53.1.1.2.2.2.1, ()), ((), (), (), false, ()), ())
            else
              bif (o_0 == 13) then
                (c_s_push m_0 m_1 m_2 m_3 5 o_1 ([])).bind fun r60 =>
                jn (fun t => B_s_step_J1 k c_s_push c_Z51 c_Z68 t.1.1 t.1.2.1 t.1.2.2.1 t.1.2.2.2.1 t.2.1.2.2.2.1) ((r60.1.1.1, r60.1.1.2.1, r60.1.1.2.2.1, r60.1.1.2.2.2.1, ()), ((), (), (), false, ()), ())
              else
                bif (o_0 == 2) then
                  chk (room m_1.length ([(-1)]).length) <|
                  jn (fun t => B_s_step_J1 k c_s_push c_Z51 c_Z68 t.1.1 t.1.2.1 t.1.2.2.1 t.1.2.2.2.1 t.2.1.2.2.2.1) ((m_0, (m_1 ++ [(-1)]), m_2, m_3, ()), ((), (), (), false, ()), ())
                else
                  bif (o_0 == 16) then
                    chk (inb o_1 m_2.length) <|
                    chk (decide (o_1.toNat < m_2.length)) <|
                    bif decide ((m_2.getD o_1.toNat (0 : Int)) < 0) then
                      some ((((some m_0), (some m_1), (some m_2), m_3, ()), false, ()), ())
                    else
                      chk (inb o_1 m_2.length) <|
                      chk (decide (o_1.toNat < m_2.length)) <|
                      chk (room m_1.length ([(m_2.getD o_1.toNat (0 : Int))]).length) <|
                      jn (fun t => B_s_step_J1 k c_s_push c_Z51 c_Z68 t.1.1 t.1.2.1 t.1.2.2.1 t.1.2.2.2.1 t.2.1.2.2.2.1) ((m_0, (m_1 ++ [(m_2.getD o_1.toNat (0 : Int))]), m_2, m_3, ()), ((), (), (), false, ()), ())
                  else
                    bif (o_0 == 3) then
                      jn (fun t => B_s_step_J0 k c_s_push c_Z51 c_Z68 t.1.1 t.1.2.1 t.1.2.2.1 t.1.2.2.2.1 t.2.1.1 t.2.1.2.1 t.2.2.1.2.2.2.1 t.2.2.2.1) ((m_0, m_1, m_2, m_3, ()), (o_0, o_1, ()), ((), (), (), false, ()), (o_0 == 3), ())
                    else
                      bif (o_0 == 9) then
                        jn (fun t => B_s_step_J0 k c_s_push c_Z51 c_Z68 t.1.1 t.1.2.1 t.1.2.2.1 t.1.2.2.2.1 t.2.1.1 t.2.1.2.1 t.2.2.1.2.2.2.1 t.2.2.2.1) ((m_0, m_1, m_2, m_3, ()), (o_0, o_1, ()), ((), (), (), false, ()), (o_0 == 9), ())
                      else
                        bif (o_0 == 12) then
                          jn (fun t => B_s_step_J0 k c_s_push c_Z51 c_Z68 t.1.1 t.1.2.1 t.1.2.2.1 t.1.2.2.2.1 t.2.1.1 t.2.1.2.1 t.2.2.1.2.2.2.1 t.2.2.2.1) ((m_0, m_1, m_2, m_3, ()), (o_0, o_1, ()), ((), (), (), false, ()), (o_0 == 12), ())
                        else
                          jn (fun t => B_s_step_J0 k c_s_push c_Z51 c_Z68 t.1.1 t.1.2.1 t.1.2.2.1 t.1.2.2.2.1 t.2.1.1 t.2.1.2.1 t.2.2.1.2.2.2.1 t.2.2.2.1) ((m_0, m_1, m_2, m_3, ()), (o_0, o_1, ()), ((), (), (), false, ()), (o_0 == 18), ())
def F_s_step : Nat → C_s_step
  | 0, _, _, _, _, _, _ => none
  | k + 1, m_0, m_1, m_2, m_3, o_0, o_1 => B_s_step k (F_s_push k) (F_Z51 k) (F_Z68 k) m_0 m_1 m_2 m_3 o_0 o_1
theorem tot_s_step {m_0 m_1 m_2 m_3 o_0 o_1 : _} {Q : _ → Prop} (h : Tot (fun σ => B_s_step (σ 0) (F_s_push (σ 0)) (F_Z51 (σ 0)) (F_Z68 (σ 0)) m_0 m_1 m_2 m_3 o_0 o_1) Q) : Tot (fun σ => F_s_step (σ 0) m_0 m_1 m_2 m_3 o_0 o_1) Q :=
  Tot.call (F := fun k => F_s_step k m_0 m_1 m_2 m_3 o_0 o_1) (B := fun k => B_s_step k (F_s_push k) (F_Z51 k) (F_Z68 k) m_0 m_1 m_2 m_3 o_0 o_1) (fun k => rfl) h
abbrev R_s_many : Type := Option ((((List (Int × Int × List Int)) × List Int × List Int × Bool × Unit) × List Int × Int × Unit) × (Unit))
abbrev C_s_many : Type := (List (Int × Int)) → R_s_many
abbrev T_s_many_L4 : Type := (List (Int × Int)) × (Unit × Unit × Unit × Bool × Unit) × ((List (Int × Int × List Int)) × List Int × List Int × Bool × Unit) × ((List (Int × Int × List Int)) × List Int × List Int × Bool × Unit) × List Int × Int × Int × Unit
def B_s_many_J5 (k : Nat) (c_Z26 : C_Z26) (c_Z10 : C_Z10) (c_s_step : C_s_step) (t2_Done : Bool) (saved_Nodes : List (Int × Int × List Int)) (saved_Stack saved_Memo : List Int) (saved_Done : Bool) (roots : List Int) (end8 : Int) : R_s_many :=
  some (((saved_Nodes, saved_Stack, saved_Memo, saved_Done, ()), roots, end8, ()), ())
def B_s_many_J3 (k : Nat) (c_Z26 : C_Z26) (c_Z10 : C_Z10) (c_s_step : C_s_step) (again4 : T_s_many_L4 → R_s_many) (ops : List (Int × Int)) (t2_Done : Bool) (m_Nodes : List (Int × Int × List Int)) (m_Stack m_Memo : List Int) (m_Done : Bool) (saved_Nodes : List (Int × Int × List Int)) (saved_Stack saved_Memo : List Int) (saved_Done : Bool) (roots : List Int) (end8 i : Int) : R_s_many :=
  again4 (ops, ((), (), (), t2_Done, ()), (m_Nodes, m_Stack, m_Memo, m_Done, ()), (saved_Nodes, saved_Stack, saved_Memo, saved_Done, ()), roots, end8, w64 (i + 1), ())
def B_s_many_J2 (k : Nat) (c_Z26 : C_Z26) (c_Z10 : C_Z10) (c_s_step : C_s_step) (again4 : T_s_many_L4 → R_s_many) (ops : List (Int × Int)) (t2_Done : Bool) (m_Nodes : List (Int × Int × List Int)) (m_Stack m_Memo : List Int) (m_Done : Bool) (saved_Nodes : List (Int × Int × List Int)) (saved_Stack saved_Memo : List Int) (saved_Done : Bool) (roots : List Int) (i : Int) : R_s_many :=
  jn (fun t => B_s_many_J3 k c_Z26 c_Z10 c_s_step again4 t.1 t.2.1.2.2.2.1 t.2.2.1.1 t.2.2.1.2.1 t.2.2.1.2.2.1 t.2.2.1.2.2.2.1 t.2.2.2.1.1 t.2.2.2.1.2.1 t.2.2.2.1.2.2.1 t.2.2.2.1.2.2.2.1 t.2.2.2.2.1 t.2.2.2.2.2.1 t.2.2.2.2.2.2.1) (ops, ((), (), (), t2_Done, ()), (m_Nodes, m_Stack, m_Memo, m_Done, ()), (m_Nodes, m_Stack, m_Memo, m_Done, ()), roots, w64 (i + 1), i, ())
def B_s_many_J1 (k : Nat) (c_Z26 : C_Z26) (c_Z10 : C_Z10) (c_s_step : C_s_step) (again4 : T_s_many_L4 → R_s_many) (ops : List (Int × Int)) (t2_Done : Bool) (m_Nodes : List (Int × Int × List Int)) (m_Stack m_Memo : List Int) (m_Done : Bool) (saved_Nodes : List (Int × Int × List Int)) (saved_Stack saved_Memo : List Int) (saved_Done : Bool) (roots : List Int) (end8 i : Int) : R_s_many :=
  bif m_Done then
    chk (inb 0 m_Stack.length) <|
    chk (room roots.length ([(rdx (0 : Int) m_Stack 0)]).length) <|
    jn (fun t => B_s_many_J2 k c_Z26 c_Z10 c_s_step again4 t.1 t.2.1.2.2.2.1 t.2.2.1.1 t.2.2.1.2.1 t.2.2.1.2.2.1 t.2.2.1.2.2.2.1 t.2.2.2.1.1 t.2.2.2.1.2.1 t.2.2.2.1.2.2.1 t.2.2.2.1.2.2.2.1 t.2.2.2.2.1 t.2.2.2.2.2.1) (ops, ((), (), (), t2_Done, ()), (m_Nodes, [], m_Memo, false, ()), (saved_Nodes, saved_Stack, saved_Memo, saved_Done, ()), (roots ++ [(rdx (0 : Int) m_Stack 0)]), i, ())
  else
    jn (fun t => B_s_many_J3 k c_Z26 c_Z10 c_s_step again4 t.1 t.2.1.2.2.2.1 t.2.2.1.1 t.2.2.1.2.1 t.2.2.1.2.2.1 t.2.2.1.2.2.2.1 t.2.2.2.1.1 t.2.2.2.1.2.1 t.2.2.2.1.2.2.1 t.2.2.2.1.2.2.2.1 t.2.2.2.2.1 t.2.2.2.2.2.1 t.2.2.2.2.2.2.1) (ops, ((), (), (), t2_Done, ()), (m_Nodes, m_Stack, m_Memo, m_Done, ()), (saved_Nodes, saved_Stack, saved_Memo, saved_Done, ()), roots, end8, i, ())
def B_s_many_L4b (k : Nat) (c_Z26 : C_Z26) (c_Z10 : C_Z10) (c_s_step : C_s_step) (again4 : T_s_many_L4 → R_s_many) (ops : List (Int × Int)) (t2_Done : Bool) (m_Nodes : List (Int × Int × List Int)) (m_Stack m_Memo : List Int) (m_Done : Bool) (saved_Nodes : List (Int × Int × List Int)) (saved_Stack saved_Memo : List Int) (saved_Done : Bool) (roots : List Int) (end8 i : Int) : R_s_many :=
  bif decide (i < (len ops)) then
    (c_Z10 m_Nodes m_Stack m_Memo m_Done).bind fun r23 =>
    chk (inb i ops.length) <|
    (c_s_step r23.1.1.1 r23.1.1.2.1 r23.1.1.2.2.1 r23.1.1.2.2.2.1 ((rdx ((0 : Int), (0 : Int)) ops i).1) ((rdx ((0 : Int), (0 : Int)) ops i).2)).bind fun r28 =>
    bif (!r28.1.2.1) then
      jn (fun t => B_s_many_J5 k c_Z26 c_Z10 c_s_step t.1.2.2.2.1 t.2.1.1 t.2.1.2.1 t.2.1.2.2.1 t.2.1.2.2.2.1 t.2.2.1 t.2.2.2.1) (((), (), (), t2_Done, ()), (saved_Nodes, saved_Stack, saved_Memo, saved_Done, ()), roots, end8, ())
    else
      (r28.1.1.1).bind fun p69 =>
      (r28.1.1.2.1).bind fun p70 =>
      (r28.1.1.2.2.1).bind fun p71 =>
      jn (fun t => B_s_many_J1 k c_Z26 c_Z10 c_s_step again4 t.1 t.2.1.2.2.2.1 t.2.2.1.1 t.2.2.1.2.1 t.2.2.1.2.2.1 t.2.2.1.2.2.2.1 t.2.2.2.1.1 t.2.2.2.1.2.1 t.2.2.2.1.2.2.1 t.2.2.2.1.2.2.2.1 t.2.2.2.2.1 t.2.2.2.2.2.1 t.2.2.2.2.2.2.1) (ops, ((), (), (), t2_Done, ()), (p69, p70, p71, r28.1.1.2.2.2.1, ()), (saved_Nodes, saved_Stack, saved_Memo, saved_Done, ()), roots, end8, i, ())
  else
    jn (fun t => B_s_many_J5 k c_Z26 c_Z10 c_s_step t.1.2.2.2.1 t.2.1.1 t.2.1.2.1 t.2.1.2.2.1 t.2.1.2.2.2.1 t.2.2.1 t.2.2.2.1) (((), (), (), t2_Done, ()), (saved_Nodes, saved_Stack, saved_Memo, saved_Done, ()), roots, end8, ())
def B_s_many_L4 (k : Nat) (c_Z26 : C_Z26) (c_Z10 : C_Z10) (c_s_step : C_s_step) (n : Nat) (t : T_s_many_L4) : R_s_many :=
  lfix n (fun again t => B_s_many_L4b k c_Z26 c_Z10 c_s_step again t.1 t.2.1.2.2.2.1 t.2.2.1.1 t.2.2.1.2.1 t.2.2.1.2.2.1 t.2.2.1.2.2.2.1 t.2.2.2.1.1 t.2.2.2.1.2.1 t.2.2.2.1.2.2.1 t.2.2.2.1.2.2.2.1 t.2.2.2.2.1 t.2.2.2.2.2.1 t.2.2.2.2.2.2.1) t
def B_s_many_J0 (k : Nat) (c_Z26 : C_Z26) (c_Z10 : C_Z10) (c_s_step : C_s_step) (ops : List (Int × Int)) (t2_Done : Bool) (m_Memo : List Int) (m_Done : Bool) : R_s_many :=
  B_s_many_L4 k c_Z26 c_Z10 c_s_step k (ops, ((), (), (), t2_Done, ()), ([], [], m_Memo, m_Done, ()), ([], [], m_Memo, m_Done, ()), [], 0, 0, ())
def B_s_many (k : Nat) (c_Z26 : C_Z26) (c_Z10 : C_Z10) (c_s_step : C_s_step) (ops : List (Int × Int)) : R_s_many :=
  (c_Z26).bind fun r12 =>
  jn (fun t => B_s_many_J0 k c_Z26 c_Z10 c_s_step t.1 t.2.1.2.2.2.1 t.2.2.1.2.2.1 t.2.2.1.2.2.2.1) (ops, ((), (), (), false, ()), ((), (), r12.1.1.2.2.1, r12.1.1.2.2.2.1, ()), ())
def F_s_many : Nat → C_s_many
  | 0, _ => none
  | k + 1, ops => B_s_many k (F_Z26 k) (F_Z10 k) (F_s_step k) ops
theorem tot_s_many {ops : _} {Q : _ → Prop} (h : Tot (fun σ => B_s_many (σ 0) (F_Z26 (σ 0)) (F_Z10 (σ 0)) (F_s_step (σ 0)) ops) Q) : Tot (fun σ => F_s_many (σ 0) ops) Q :=
  Tot.call (F := fun k => F_s_many k ops) (B := fun k => B_s_many k (F_Z26 k) (F_Z10 k) (F_s_step k) ops) (fun k => rfl) h
abbrev A_s_many_L4 (Z : Type) : Type := (List (Int × Int)) → Bool → (List (Int × Int × List Int)) → List Int → List Int → Bool → (List (Int × Int × List Int)) → List Int → List Int → Bool → List Int → Int → Int → Z
abbrev u_s_many_L4 {Z : Type} (f : A_s_many_L4 Z) (t : T_s_many_L4) : Z := f t.1 t.2.1.2.2.2.1 t.2.2.1.1 t.2.2.1.2.1 t.2.2.1.2.2.1 t.2.2.1.2.2.2.1 t.2.2.2.1.1 t.2.2.2.1.2.1 t.2.2.2.1.2.2.1 t.2.2.2.1.2.2.2.1 t.2.2.2.2.1 t.2.2.2.2.2.1 t.2.2.2.2.2.2.1
theorem loop_s_many_L4 {Q : A_s_many_L4 (((((List (Int × Int × List Int)) × List Int × List Int × Bool × Unit) × List Int × Int × Unit) × (Unit)) → Prop)} (I : A_s_many_L4 Prop) (μ : A_s_many_L4 Nat)
    (step : ∀ a0 a1 a2 a3 a4 a5 a6 a7 a8 a9 a10 a11 a12, I a0 a1 a2 a3 a4 a5 a6 a7 a8 a9 a10 a11 a12 → ∀ again : (Nat → Nat) → T_s_many_L4 → R_s_many, Dep 2 again → (∀ y0 y1 y2 y3 y4 y5 y6 y7 y8 y9 y10 y11 y12, I y0 y1 y2 y3 y4 y5 y6 y7 y8 y9 y10 y11 y12 → μ y0 y1 y2 y3 y4 y5 y6 y7 y8 y9 y10 y11 y12 < μ a0 a1 a2 a3 a4 a5 a6 a7 a8 a9 a10 a11 a12 → Tot (fun σ => again σ (y0, ((), (), (), y1, ()), (y2, y3, y4, y5, ()), (y6, y7, y8, y9, ()), y10, y11, y12, ())) (Q y0 y1 y2 y3 y4 y5 y6 y7 y8 y9 y10 y11 y12)) →
      Tot (fun σ => B_s_many_L4b (σ 0) (F_Z26 (σ 0)) (F_Z10 (σ 0)) (F_s_step (σ 0)) (again σ) a0 a1 a2 a3 a4 a5 a6 a7 a8 a9 a10 a11 a12) (Q a0 a1 a2 a3 a4 a5 a6 a7 a8 a9 a10 a11 a12)) :
    ∀ a0 a1 a2 a3 a4 a5 a6 a7 a8 a9 a10 a11 a12, I a0 a1 a2 a3 a4 a5 a6 a7 a8 a9 a10 a11 a12 → Tot (fun σ => B_s_many_L4 (σ 0) (F_Z26 (σ 0)) (F_Z10 (σ 0)) (F_s_step (σ 0)) (σ 0) (a0, ((), (), (), a1, ()), (a2, a3, a4, a5, ()), (a6, a7, a8, a9, ()), a10, a11, a12, ())) (Q a0 a1 a2 a3 a4 a5 a6 a7 a8 a9 a10 a11 a12) := fun a0 a1 a2 a3 a4 a5 a6 a7 a8 a9 a10 a11 a12 => Tot.loop0 (L := fun k => B_s_many_L4 k (F_Z26 k) (F_Z10 k) (F_s_step k)) (B := fun k g => u_s_many_L4 (B_s_many_L4b k (F_Z26 k) (F_Z10 k) (F_s_step k) g)) (Q := u_s_many_L4 Q) (fun _ _ _ => rfl) (u_s_many_L4 I) (u_s_many_L4 μ)
    (fun t ht again hag h => step t.1 t.2.1.2.2.2.1 t.2.2.1.1 t.2.2.1.2.1 t.2.2.1.2.2.1 t.2.2.1.2.2.2.1 t.2.2.2.1.1 t.2.2.2.1.2.1 t.2.2.2.1.2.2.1 t.2.2.2.1.2.2.2.1 t.2.2.2.2.1 t.2.2.2.2.2.1 t.2.2.2.2.2.2.1 ht again hag fun y0 y1 y2 y3 y4 y5 y6 y7 y8 y9 y10 y11 y12 => h (y0, ((), (), (), y1, ()), (y2, y3, y4, y5, ()), (y6, y7, y8, y9, ()), y10, y11, y12, ())) (a0, ((), (), (), a1, ()), (a2, a3, a4, a5, ()), (a6, a7, a8, a9, ()), a10, a11, a12, ())
abbrev R_s_code : Type := Option ((List Int × List Int × Unit) × (Unit))
abbrev C_s_code : Type := (List (Int × Int × List Int)) → Int → Int → List Int → List Int → R_s_code
abbrev T_s_code_L1 : Type := List Int × List Int × ((List (Int × Int × List Int)) × Int × Unit) × (Int × Int × List Int × Unit) × Int × Unit
def B_s_code_L1b (k : Nat) (c_Z59 : C_Z59) (c_Z44 : C_Z44) (c_s_code : C_s_code) (again1 : T_s_code_L1 → R_s_code) (out met : List Int) (g_Nodes : List (Int × Int × List Int)) (g_Root n_Kind n_Value : Int) (n_Kids : List Int) (i : Int) : R_s_code :=
  bif decide (i < (len n_Kids)) then
    chk (inb i n_Kids.length) <|
    (c_s_code g_Nodes g_Root (rdx (0 : Int) n_Kids i) out met).bind fun r64 =>
    again1 (r64.1.1, r64.1.2.1, (g_Nodes, g_Root, ()), (n_Kind, n_Value, n_Kids, ()), w64 (i + 1), ())
  else
    some ((out, met, ()), ())
def B_s_code_L1 (k : Nat) (c_Z59 : C_Z59) (c_Z44 : C_Z44) (c_s_code : C_s_code) (n : Nat) (t : T_s_code_L1) : R_s_code :=
  lfix n (fun again t => B_s_code_L1b k c_Z59 c_Z44 c_s_code again t.1 t.2.1 t.2.2.1.1 t.2.2.1.2.1 t.2.2.2.1.1 t.2.2.2.1.2.1 t.2.2.2.1.2.2.1 t.2.2.2.2.1) t
def B_s_code_J0 (k : Nat) (c_Z59 : C_Z59) (c_Z44 : C_Z44) (c_s_code : C_s_code) (out met : List Int) (g_Nodes : List (Int × Int × List Int)) (g_Root n_Kind n_Value : Int) (n_Kids : List Int) : R_s_code :=
  B_s_code_L1 k c_Z59 c_Z44 c_s_code k (out, met, (g_Nodes, g_Root, ()), (n_Kind, n_Value, n_Kids, ()), 0, ())
def B_s_code (k : Nat) (c_Z59 : C_Z59) (c_Z44 : C_Z44) (c_s_code : C_s_code) (g_0 : List (Int × Int × List Int)) (g_1 at1 : Int) (out met : List Int) : R_s_code :=
  chk (inb at1 g_0.length) <|
  (c_Z59 met at1).bind fun r20 =>
  bif decide (r20.1.1 ≥ 0) then
    (c_Z44 out).bind fun r24 =>
    chk (room r24.1.1.length ([(-1), r20.1.1]).length) <|
    some (((r24.1.1 ++ [(-1), r20.1.1]), met, ()), ())
  else
    (c_Z44 out).bind fun r30 =>
    chk (room r30.1.1.length ([(rdx ((0 : Int), ((0 : Int), ([] : List Int))) g_0 at1).1, ((rdx ((0 : Int), ((0 : Int), ([] : List Int))) g_0 at1).2).1, len (((rdx ((0 : Int), ((0 : Int), ([] : List Int))) g_0 at1).2).2)]).length) <|
    bif (((rdx ((0 : Int), ((0 : Int), ([] : List Int))) g_0 at1).1) != 0) then
      (c_Z44 met).bind fun r44 =>
      chk (room r44.1.1.length ([at1]).length) <|
      jn (fun t => B_s_code_J0 k c_Z59 c_Z44 c_s_code t.1 t.2.1 t.2.2.1.1 t.2.2.1.2.1 t.2.2.2.1.1 t.2.2.2.1.2.1 t.2.2.2.1.2.2.1) ((r30.1.1 ++ [(rdx ((0 : Int), ((0 : Int), ([] : List Int))) g_0 at1).1, ((rdx ((0 : Int), ((0 : Int), ([] : List Int))) g_0 at1).2).1, len (((rdx ((0 : Int), ((0 : Int), ([] : List Int))) g_0 at1).2).2)]), (r44.1.1 ++ [at1]), (g_0, g_1, ()), ((rdx ((0 : Int), ((0 : Int), ([] : List Int))) g_0 at1).1, ((rdx ((0 : Int), ((0 : Int), ([] : List Int))) g_0 at1).2).1, ((rdx ((0 : Int), ((0 : Int), ([] : List Int))) g_0 at1).2).2, ()), ())
    else
      jn (fun t => B_s_code_J0 k c_Z59 c_Z44 c_s_code t.1 t.2.1 t.2.2.1.1 t.2.2.1.2.1 t.2.2.2.1.1 t.2.2.2.1.2.1 t.2.2.2.1.2.2.1) ((r30.1.1 ++ [(rdx ((0 : Int), ((0 : Int), ([] : List Int))) g_0 at1).1, ((rdx ((0 : Int), ((0 : Int), ([] : List Int))) g_0 at1).2).1, len (((rdx ((0 : Int), ((0 : Int), ([] : List Int))) g_0 at1).2).2)]), met, (g_0, g_1, ()), ((rdx ((0 : Int), ((0 : Int), ([] : List Int))) g_0 at1).1, ((rdx ((0 : Int), ((0 : Int), ([] : List Int))) g_0 at1).2).1, ((rdx ((0 : Int), ((0 : Int), ([] : List Int))) g_0 at1).2).2, ()), ())
def F_s_code : Nat → C_s_code
  | 0, _, _, _, _, _ => none
  | k + 1, g_0, g_1, at1, out, met => B_s_code k (F_Z59 k) (F_Z44 k) (F_s_code k) g_0 g_1 at1 out met
theorem F_s_code_succ (k : Nat) (g_0 : List (Int × Int × List Int)) (g_1 : Int) (at1 : Int) (out : List Int) (met : List Int) : F_s_code (k + 1) g_0 g_1 at1 out met = B_s_code k (F_Z59 k) (F_Z44 k) (F_s_code k) g_0 g_1 at1 out met := by rw [F_s_code]
theorem tot_s_code {g_0 g_1 at1 out met : _} {Q : _ → Prop} (h : Tot (fun σ => B_s_code (σ 0) (F_Z59 (σ 0)) (F_Z44 (σ 0)) (F_s_code (σ 0)) g_0 g_1 at1 out met) Q) : Tot (fun σ => F_s_code (σ 0) g_0 g_1 at1 out met) Q :=
  Tot.call (F := fun k => F_s_code k g_0 g_1 at1 out met) (B := fun k => B_s_code k (F_Z59 k) (F_Z44 k) (F_s_code k) g_0 g_1 at1 out met) (fun k => F_s_code_succ k g_0 g_1 at1 out met) h
abbrev A_s_code_L1 (Z : Type) : Type := List Int → List Int → (List (Int × Int × List Int)) → Int → Int → Int → List Int → Int → Z
abbrev u_s_code_L1 {Z : Type} (f : A_s_code_L1 Z) (t : T_s_code_L1) : Z := f t.1 t.2.1 t.2.2.1.1 t.2.2.1.2.1 t.2.2.2.1.1 t.2.2.2.1.2.1 t.2.2.2.1.2.2.1 t.2.2.2.2.1
theorem loop_s_code_L1 {Q : A_s_code_L1 (((List Int × List Int × Unit) × (Unit)) → Prop)} (I : A_s_code_L1 Prop) (μ : A_s_code_L1 Nat)
    (step : ∀ a0 a1 a2 a3 a4 a5 a6 a7, I a0 a1 a2 a3 a4 a5 a6 a7 → ∀ again : (Nat → Nat) → T_s_code_L1 → R_s_code, Dep 2 again → (∀ y0 y1 y2 y3 y4 y5 y6 y7, I y0 y1 y2 y3 y4 y5 y6 y7 → μ y0 y1 y2 y3 y4 y5 y6 y7 < μ a0 a1 a2 a3 a4 a5 a6 a7 → Tot (fun σ => again σ (y0, y1, (y2, y3, ()), (y4, y5, y6, ()), y7, ())) (Q y0 y1 y2 y3 y4 y5 y6 y7)) →
      Tot (fun σ => B_s_code_L1b (σ 0) (F_Z59 (σ 0)) (F_Z44 (σ 0)) (F_s_code (σ 0)) (again σ) a0 a1 a2 a3 a4 a5 a6 a7) (Q a0 a1 a2 a3 a4 a5 a6 a7)) :
    ∀ a0 a1 a2 a3 a4 a5 a6 a7, I a0 a1 a2 a3 a4 a5 a6 a7 → Tot (fun σ => B_s_code_L1 (σ 0) (F_Z59 (σ 0)) (F_Z44 (σ 0)) (F_s_code (σ 0)) (σ 0) (a0, a1, (a2, a3, ()), (a4, a5, a6, ()), a7, ())) (Q a0 a1 a2 a3 a4 a5 a6 a7) := fun a0 a1 a2 a3 a4 a5 a6 a7 => Tot.loop0 (L := fun k => B_s_code_L1 k (F_Z59 k) (F_Z44 k) (F_s_code k)) (B := fun k g => u_s_code_L1 (B_s_code_L1b k (F_Z59 k) (F_Z44 k) (F_s_code k) g)) (Q := u_s_code_L1 Q) (fun _ _ _ => rfl) (u_s_code_L1 I) (u_s_code_L1 μ)
    (fun t ht again hag h => step t.1 t.2.1 t.2.2.1.1 t.2.2.1.2.1 t.2.2.2.1.1 t.2.2.2.1.2.1 t.2.2.2.1.2.2.1 t.2.2.2.2.1 ht again hag fun y0 y1 y2 y3 y4 y5 y6 y7 => h (y0, y1, (y2, y3, ()), (y4, y5, y6, ()), y7, ())) (a0, a1, (a2, a3, ()), (a4, a5, a6, ()), a7, ())
abbrev R_Z49 : Type := Option ((List Int × Unit) × (Unit))
abbrev C_Z49 : Type := (List (Int × Int × List Int)) → Int → List Int → R_Z49
abbrev T_Z49_L0 : Type := List Int × ((List (Int × Int × List Int)) × Int × Unit) × List Int × List Int × Int × Unit
def B_Z49_L0b (k : Nat) (c_s_code : C_s_code) (again0 : T_Z49_L0 → R_Z49) (roots : List Int) (g_Nodes : List (Int × Int × List Int)) (g_Root : Int) (out met : List Int) (i : Int) : R_Z49 :=
  bif decide (i < (len roots)) then
    chk (inb i roots.length) <|
    (c_s_code g_Nodes g_Root (rdx (0 : Int) roots i) out met).bind fun r24 =>
    again0 (roots, (g_Nodes, g_Root, ()), r24.1.1, r24.1.2.1, w64 (i + 1), ())
  else
    some ((out, ()), ())
def B_Z49_L0 (k : Nat) (c_s_code : C_s_code) (n : Nat) (t : T_Z49_L0) : R_Z49 :=
  lfix n (fun again t => B_Z49_L0b k c_s_code again t.1 t.2.1.1 t.2.1.2.1 t.2.2.1 t.2.2.2.1 t.2.2.2.2.1) t
def B_Z49 (k : Nat) (c_s_code : C_s_code) (g_0 : List (Int × Int × List Int)) (g_1 : Int) (roots : List Int) : R_Z49 :=
  B_Z49_L0 k c_s_code k (roots, (g_0, g_1, ()), [], [], 0, ())
def F_Z49 : Nat → C_Z49
  | 0, _, _, _ => none
  | k + 1, g_0, g_1, roots => B_Z49 k (F_s_code k) g_0 g_1 roots
theorem tot_Z49 {g_0 g_1 roots : _} {Q : _ → Prop} (h : Tot (fun σ => B_Z49 (σ 0) (F_s_code (σ 0)) g_0 g_1 roots) Q) : Tot (fun σ => F_Z49 (σ 0) g_0 g_1 roots) Q :=
  Tot.call (F := fun k => F_Z49 k g_0 g_1 roots) (B := fun k => B_Z49 k (F_s_code k) g_0 g_1 roots) (fun k => rfl) h
abbrev A_Z49_L0 (Z : Type) : Type := List Int → (List (Int × Int × List Int)) → Int → List Int → List Int → Int → Z
abbrev u_Z49_L0 {Z : Type} (f : A_Z49_L0 Z) (t : T_Z49_L0) : Z := f t.1 t.2.1.1 t.2.1.2.1 t.2.2.1 t.2.2.2.1 t.2.2.2.2.1
theorem loop_Z49_L0 {Q : A_Z49_L0 (((List Int × Unit) × (Unit)) → Prop)} (I : A_Z49_L0 Prop) (μ : A_Z49_L0 Nat)
    (step : ∀ a0 a1 a2 a3 a4 a5, I a0 a1 a2 a3 a4 a5 → ∀ again : (Nat → Nat) → T_Z49_L0 → R_Z49, Dep 2 again → (∀ y0 y1 y2 y3 y4 y5, I y0 y1 y2 y3 y4 y5 → μ y0 y1 y2 y3 y4 y5 < μ a0 a1 a2 a3 a4 a5 → Tot (fun σ => again σ (y0, (y1, y2, ()), y3, y4, y5, ())) (Q y0 y1 y2 y3 y4 y5)) →
      Tot (fun σ => B_Z49_L0b (σ 0) (F_s_code (σ 0)) (again σ) a0 a1 a2 a3 a4 a5) (Q a0 a1 a2 a3 a4 a5)) :
    ∀ a0 a1 a2 a3 a4 a5, I a0 a1 a2 a3 a4 a5 → Tot (fun σ => B_Z49_L0 (σ 0) (F_s_code (σ 0)) (σ 0) (a0, (a1, a2, ()), a3, a4, a5, ())) (Q a0 a1 a2 a3 a4 a5) := fun a0 a1 a2 a3 a4 a5 => Tot.loop0 (L := fun k => B_Z49_L0 k (F_s_code k)) (B := fun k g => u_Z49_L0 (B_Z49_L0b k (F_s_code k) g)) (Q := u_Z49_L0 Q) (fun _ _ _ => rfl) (u_Z49_L0 I) (u_Z49_L0 μ)
    (fun t ht again hag h => step t.1 t.2.1.1 t.2.1.2.1 t.2.2.1 t.2.2.2.1 t.2.2.2.2.1 ht again hag fun y0 y1 y2 y3 y4 y5 => h (y0, (y1, y2, ()), y3, y4, y5, ())) (a0, (a1, a2, ()), a3, a4, a5, ())
abbrev R_Z53 : Type := Option ((List Int × Unit) × (Unit))
abbrev C_Z53 : Type := (List (Int × Int)) → R_Z53
def B_Z53 (k : Nat) (c_Z46 : C_Z46) (c_s_many : C_s_many) (c_Z49 : C_Z49) (ops : List (Int × Int)) : R_Z53 :=
  (c_Z46 ops).bind fun r7 =>
  bif (!r7.1.1) then
    some (([], ()), ())
  else
    (c_s_many ops).bind fun r11 =>
    (c_Z49 r11.1.1.1 0 r11.1.2.1).bind fun r19 =>
    some ((r19.1.1, ()), ())
def F_Z53 : Nat → C_Z53
  | 0, _ => none
  | k + 1, ops => B_Z53 k (F_Z46 k) (F_s_many k) (F_Z49 k) ops
theorem tot_Z53 {ops : _} {Q : _ → Prop} (h : Tot (fun σ => B_Z53 (σ 0) (F_Z46 (σ 0)) (F_s_many (σ 0)) (F_Z49 (σ 0)) ops) Q) : Tot (fun σ => F_Z53 (σ 0) ops) Q :=
  Tot.call (F := fun k => F_Z53 k ops) (B := fun k => B_Z53 k (F_Z46 k) (F_s_many k) (F_Z49 k) ops) (fun k => rfl) h
abbrev R_Z36 : Type := Option ((Bool × Unit) × (Unit))
abbrev C_Z36 : Type := List Int → List Int → R_Z36
abbrev T_Z36_L0 : Type := List Int × List Int × Int × Unit
def B_Z36_L0b (k : Nat) (again0 : T_Z36_L0 → R_Z36) (a b : List Int) (i : Int) : R_Z36 :=
  bif decide (i < (len a)) then
    chk (inb i a.length) <|
    chk (inb i b.length) <|
    bif ((rdx (0 : Int) a i) != (rdx (0 : Int) b i)) then
      some ((false, ()), ())
    else
      again0 (a, b, w64 (i + 1), ())
  else
    some ((true, ()), ())
def B_Z36_L0 (k : Nat) (n : Nat) (t : T_Z36_L0) : R_Z36 :=
  lfix n (fun again t => B_Z36_L0b k again t.1 t.2.1 t.2.2.1) t
def B_Z36 (k : Nat) (a b : List Int) : R_Z36 :=
  bif ((len a) != (len b)) then
    some ((false, ()), ())
  else
    B_Z36_L0 k k (a, b, 0, ())
def F_Z36 : Nat → C_Z36
  | 0, _, _ => none
  | k + 1, a, b => B_Z36 k a b
theorem tot_Z36 {a b : _} {Q : _ → Prop} (h : Tot (fun σ => B_Z36 (σ 0) a b) Q) : Tot (fun σ => F_Z36 (σ 0) a b) Q :=
  Tot.call (F := fun k => F_Z36 k a b) (B := fun k => B_Z36 k a b) (fun k => rfl) h
abbrev A_Z36_L0 (Z : Type) : Type := List Int → List Int → Int → Z
abbrev u_Z36_L0 {Z : Type} (f : A_Z36_L0 Z) (t : T_Z36_L0) : Z := f t.1 t.2.1 t.2.2.1
theorem loop_Z36_L0 {Q : A_Z36_L0 (((Bool × Unit) × (Unit)) → Prop)} (I : A_Z36_L0 Prop) (μ : A_Z36_L0 Nat)
    (step : ∀ a0 a1 a2, I a0 a1 a2 → ∀ again : (Nat → Nat) → T_Z36_L0 → R_Z36, Dep 2 again → (∀ y0 y1 y2, I y0 y1 y2 → μ y0 y1 y2 < μ a0 a1 a2 → Tot (fun σ => again σ (y0, y1, y2, ())) (Q y0 y1 y2)) →
      Tot (fun σ => B_Z36_L0b (σ 0) (again σ) a0 a1 a2) (Q a0 a1 a2)) :
    ∀ a0 a1 a2, I a0 a1 a2 → Tot (fun σ => B_Z36_L0 (σ 0) (σ 0) (a0, a1, a2, ())) (Q a0 a1 a2) := fun a0 a1 a2 => Tot.loop0 (L := fun k => B_Z36_L0 k) (B := fun k g => u_Z36_L0 (B_Z36_L0b k g)) (Q := u_Z36_L0 Q) (fun _ _ _ => rfl) (u_Z36_L0 I) (u_Z36_L0 μ)
    (fun t ht again hag h => step t.1 t.2.1 t.2.2.1 ht again hag fun y0 y1 y2 => h (y0, y1, y2, ())) (a0, a1, a2, ())
abbrev R_Z11 : Type := Option ((((List (Int × Int × List Int)) × List Int × List Int × Bool × Unit) × Unit) × (Unit))
abbrev C_Z11 : Type := (List (Int × Int × List Int)) → List Int → List Int → Bool → R_Z11
def B_Z11 (k : Nat) (c_Z30 : C_Z30) (c_Z1 : C_Z1) (m_0 : List (Int × Int × List Int)) (m_1 m_2 : List Int) (m_3 : Bool) : R_Z11 :=
  (c_Z30 m_0).bind fun r5 =>
  (c_Z1 m_1).bind fun r8 =>
  (c_Z1 m_2).bind fun r11 =>
  some (((r5.1.1, r8.1.1, r11.1.1, m_3, ()), ()), ())
def F_Z11 : Nat → C_Z11
  | 0, _, _, _, _ => none
  | k + 1, m_0, m_1, m_2, m_3 => B_Z11 k (F_Z30 k) (F_Z1 k) m_0 m_1 m_2 m_3
theorem tot_Z11 {m_0 m_1 m_2 m_3 : _} {Q : _ → Prop} (h : Tot (fun σ => B_Z11 (σ 0) (F_Z30 (σ 0)) (F_Z1 (σ 0)) m_0 m_1 m_2 m_3) Q) : Tot (fun σ => F_Z11 (σ 0) m_0 m_1 m_2 m_3) Q :=
  Tot.call (F := fun k => F_Z11 k m_0 m_1 m_2 m_3) (B := fun k => B_Z11 k (F_Z30 k) (F_Z1 k) m_0 m_1 m_2 m_3) (fun k => rfl) h
abbrev R_Z4 : Type := Option ((Unit) × (Unit))
abbrev C_Z4 : Type := (List (Int × Int × List Int)) → List Int → List Int → Bool → R_Z4
def B_Z4 (k : Nat) (t0_0 : List (Int × Int × List Int)) (t0_1 t0_2 : List Int) (t0_3 : Bool) : R_Z4 :=
  some ((), ())
def F_Z4 : Nat → C_Z4
  | 0, _, _, _, _ => none
  | k + 1, t0_0, t0_1, t0_2, t0_3 => B_Z4 k t0_0 t0_1 t0_2 t0_3
theorem tot_Z4 {t0_0 t0_1 t0_2 t0_3 : _} {Q : _ → Prop} (h : Tot (fun σ => B_Z4 (σ 0) t0_0 t0_1 t0_2 t0_3) Q) : Tot (fun σ => F_Z4 (σ 0) t0_0 t0_1 t0_2 t0_3) Q :=
  Tot.call (F := fun k => F_Z4 k t0_0 t0_1 t0_2 t0_3) (B := fun k => B_Z4 k t0_0 t0_1 t0_2 t0_3) (fun k => rfl) h
abbrev R_Z0 : Type := Option ((((List (Int × Int × List Int)) × List Int × List Int × Bool × Unit) × Int × Unit) × (Unit))
abbrev C_Z0 : Type := (List (Int × Int)) → R_Z0
abbrev T_Z0_L0 : Type := (List (Int × Int)) × Unit × (Unit × Unit × Unit × Bool × Unit) × ((List (Int × Int × List Int)) × List Int × List Int × Bool × Unit) × (List (Int × Int)) × Int × Int × Unit
def B_Z0_L0b (k : Nat) (c_Z23 : C_Z23) (c_Z8 : C_Z8) (c_Z11 : C_Z11) (c_Z4 : C_Z4) (again0 : T_Z0_L0 → R_Z0) (ops : List (Int × Int)) (t4_Done : Bool) (m_Nodes : List (Int × Int × List Int)) (m_Stack m_Memo : List Int) (m_Done : Bool) (t10 : List (Int × Int)) (t11 t12 : Int) : R_Z0 :=
  bif decide (t12 < t11) then
    chk (inb t12 t10.length) <|
    (c_Z8 m_Nodes m_Stack m_Memo m_Done ((rdx ((0 : Int), (0 : Int)) t10 t12).1) ((rdx ((0 : Int), (0 : Int)) t10 t12).2)).bind fun r18 =>
    bif (!r18.1.1) then
      (r18.2.1.1).bind fun p25 =>
      (c_Z11 p25 r18.2.1.2.1 r18.2.1.2.2.1 r18.2.1.2.2.2.1).bind fun r21 =>
      some (((r21.1.1.1, r21.1.1.2.1, r21.1.1.2.2.1, r21.1.1.2.2.2.1, ()), t12, ()), ())
    else
      (r18.2.1.1).bind fun p26 =>
      (c_Z4 p26 r18.2.1.2.1 r18.2.1.2.2.1 r18.2.1.2.2.2.1).bind fun r25 =>
      (r18.2.1.1).bind fun p27 =>
      again0 (ops, (), ((), (), (), t4_Done, ()), (p27, r18.2.1.2.1, r18.2.1.2.2.1, r18.2.1.2.2.2.1, ()), t10, t11, w64 (t12 + 1), ())
  else
    (c_Z11 m_Nodes m_Stack m_Memo m_Done).bind fun r28 =>
    some (((r28.1.1.1, r28.1.1.2.1, r28.1.1.2.2.1, r28.1.1.2.2.2.1, ()), len ops, ()), ())
def B_Z0_L0 (k : Nat) (c_Z23 : C_Z23) (c_Z8 : C_Z8) (c_Z11 : C_Z11) (c_Z4 : C_Z4) (n : Nat) (t : T_Z0_L0) : R_Z0 :=
  lfix n (fun again t => B_Z0_L0b k c_Z23 c_Z8 c_Z11 c_Z4 again t.1 t.2.2.1.2.2.2.1 t.2.2.2.1.1 t.2.2.2.1.2.1 t.2.2.2.1.2.2.1 t.2.2.2.1.2.2.2.1 t.2.2.2.2.1 t.2.2.2.2.2.1 t.2.2.2.2.2.2.1) t
def B_Z0 (k : Nat) (c_Z23 : C_Z23) (c_Z8 : C_Z8) (c_Z11 : C_Z11) (c_Z4 : C_Z4) (ops : List (Int × Int)) : R_Z0 :=
  (c_Z23 0).bind fun r9 =>
  B_Z0_L0 k c_Z23 c_Z8 c_Z11 c_Z4 k (ops, (), ((), (), (), false, ()), (r9.1.1.1, [], r9.1.1.2.2.1, r9.1.1.2.2.2.1, ()), ops, len ops, 0, ())
def F_Z0 : Nat → C_Z0
  | 0, _ => none
  | k + 1, ops => B_Z0 k (F_Z23 k) (F_Z8 k) (F_Z11 k) (F_Z4 k) ops
theorem tot_Z0 {ops : _} {Q : _ → Prop} (h : Tot (fun σ => B_Z0 (σ 0) (F_Z23 (σ 0)) (F_Z8 (σ 0)) (F_Z11 (σ 0)) (F_Z4 (σ 0)) ops) Q) : Tot (fun σ => F_Z0 (σ 0) ops) Q :=
  Tot.call (F := fun k => F_Z0 k ops) (B := fun k => B_Z0 k (F_Z23 k) (F_Z8 k) (F_Z11 k) (F_Z4 k) ops) (fun k => rfl) h
abbrev A_Z0_L0 (Z : Type) : Type := (List (Int × Int)) → Bool → (List (Int × Int × List Int)) → List Int → List Int → Bool → (List (Int × Int)) → Int → Int → Z
abbrev u_Z0_L0 {Z : Type} (f : A_Z0_L0 Z) (t : T_Z0_L0) : Z := f t.1 t.2.2.1.2.2.2.1 t.2.2.2.1.1 t.2.2.2.1.2.1 t.2.2.2.1.2.2.1 t.2.2.2.1.2.2.2.1 t.2.2.2.2.1 t.2.2.2.2.2.1 t.2.2.2.2.2.2.1
theorem loop_Z0_L0 {Q : A_Z0_L0 (((((List (Int × Int × List Int)) × List Int × List Int × Bool × Unit) × Int × Unit) × (Unit)) → Prop)} (I : A_Z0_L0 Prop) (μ : A_Z0_L0 Nat)
    (step : ∀ a0 a1 a2 a3 a4 a5 a6 a7 a8, I a0 a1 a2 a3 a4 a5 a6 a7 a8 → ∀ again : (Nat → Nat) → T_Z0_L0 → R_Z0, Dep 2 again → (∀ y0 y1 y2 y3 y4 y5 y6 y7 y8, I y0 y1 y2 y3 y4 y5 y6 y7 y8 → μ y0 y1 y2 y3 y4 y5 y6 y7 y8 < μ a0 a1 a2 a3 a4 a5 a6 a7 a8 → Tot (fun σ => again σ (y0, (), ((), (), (), y1, ()), (y2, y3, y4, y5, ()), y6, y7, y8, ())) (Q y0 y1 y2 y3 y4 y5 y6 y7 y8)) →
      Tot (fun σ => B_Z0_L0b (σ 0) (F_Z23 (σ 0)) (F_Z8 (σ 0)) (F_Z11 (σ 0)) (F_Z4 (σ 0)) (again σ) a0 a1 a2 a3 a4 a5 a6 a7 a8) (Q a0 a1 a2 a3 a4 a5 a6 a7 a8)) :
    ∀ a0 a1 a2 a3 a4 a5 a6 a7 a8, I a0 a1 a2 a3 a4 a5 a6 a7 a8 → Tot (fun σ => B_Z0_L0 (σ 0) (F_Z23 (σ 0)) (F_Z8 (σ 0)) (F_Z11 (σ 0)) (F_Z4 (σ 0)) (σ 0) (a0, (), ((), (), (), a1, ()), (a2, a3, a4, a5, ()), a6, a7, a8, ())) (Q a0 a1 a2 a3 a4 a5 a6 a7 a8) := fun a0 a1 a2 a3 a4 a5 a6 a7 a8 => Tot.loop0 (L := fun k => B_Z0_L0 k (F_Z23 k) (F_Z8 k) (F_Z11 k) (F_Z4 k)) (B := fun k g => u_Z0_L0 (B_Z0_L0b k (F_Z23 k) (F_Z8 k) (F_Z11 k) (F_Z4 k) g)) (Q := u_Z0_L0 Q) (fun _ _ _ => rfl) (u_Z0_L0 I) (u_Z0_L0 μ)
    (fun t ht again hag h => step t.1 t.2.2.1.2.2.2.1 t.2.2.2.1.1 t.2.2.2.1.2.1 t.2.2.2.1.2.2.1 t.2.2.2.1.2.2.2.1 t.2.2.2.2.1 t.2.2.2.2.2.1 t.2.2.2.2.2.2.1 ht again hag fun y0 y1 y2 y3 y4 y5 y6 y7 y8 => h (y0, (), ((), (), (), y1, ()), (y2, y3, y4, y5, ()), y6, y7, y8, ())) (a0, (), ((), (), (), a1, ()), (a2, a3, a4, a5, ()), a6, a7, a8, ())
abbrev R_Z24 : Type := Option ((((List (Int × Int × List Int)) × Int × Unit) × Bool × Unit) × (Unit))
abbrev C_Z24 : Type := (List (Int × Int)) → R_Z24
def B_Z24_J0 (k : Nat) (c_Z48 : C_Z48) (c_Z0 : C_Z0) (t2_Root : Int) (m_Nodes : List (Int × Int × List Int)) (m_Stack m_Memo : List Int) (m_Done t23 : Bool) : R_Z24 :=
  bif t23 then
    some ((([], 0, ()), false, ()), ())
  else
    chk (inb 0 m_Stack.length) <|
    chk (decide ((0 : Int).toNat < m_Stack.length)) <|
    some (((m_Nodes, (m_Stack.getD ((0 : Int).toNat) (0 : Int)), ()), true, ()), ())
def B_Z24 (k : Nat) (c_Z48 : C_Z48) (c_Z0 : C_Z0) (ops : List (Int × Int)) : R_Z24 :=
  (c_Z48 ops).bind fun r7 =>
  bif (!r7.1.1) then
    some ((([], 0, ()), false, ()), ())
  else
    (c_Z0 ops).bind fun r12 =>
    bif decide (r12.1.2.1 < (len ops)) then
      jn (fun t => B_Z24_J0 k c_Z48 c_Z0 t.1.2.1 t.2.1.1 t.2.1.2.1 t.2.1.2.2.1 t.2.1.2.2.2.1 t.2.2.1) (((), 0, ()), (r12.1.1.1, r12.1.1.2.1, r12.1.1.2.2.1, r12.1.1.2.2.2.1, ()), true, ())
    else
      jn (fun t => B_Z24_J0 k c_Z48 c_Z0 t.1.2.1 t.2.1.1 t.2.1.2.1 t.2.1.2.2.1 t.2.1.2.2.2.1 t.2.2.1) (((), 0, ()), (r12.1.1.1, r12.1.1.2.1, r12.1.1.2.2.1, r12.1.1.2.2.2.1, ()), (!r12.1.1.2.2.2.1), ())
def F_Z24 : Nat → C_Z24
  | 0, _ => none
  | k + 1, ops => B_Z24 k (F_Z48 k) (F_Z0 k) ops
theorem tot_Z24 {ops : _} {Q : _ → Prop} (h : Tot (fun σ => B_Z24 (σ 0) (F_Z48 (σ 0)) (F_Z0 (σ 0)) ops) Q) : Tot (fun σ => F_Z24 (σ 0) ops) Q :=
  Tot.call (F := fun k => F_Z24 k ops) (B := fun k => B_Z24 k (F_Z48 k) (F_Z0 k) ops) (fun k => rfl) h
abbrev R_Z42 : Type := Option ((List Int × Bool × Unit) × (Unit))
abbrev C_Z42 : Type := (List (Int × Int)) → R_Z42
def B_Z42 (k : Nat) (c_Z24 : C_Z24) (c_Z56 : C_Z56) (ops : List (Int × Int)) : R_Z42 :=
  (c_Z24 ops).bind fun r8 =>
  bif (!r8.1.2.1) then
    some (([], false, ()), ())
  else
    (c_Z56 r8.1.1.1 ([r8.1.1.2.1])).bind fun r18 =>
    some ((r18.1.1, true, ()), ())
def F_Z42 : Nat → C_Z42
  | 0, _ => none
  | k + 1, ops => B_Z42 k (F_Z24 k) (F_Z56 k) ops
theorem tot_Z42 {ops : _} {Q : _ → Prop} (h : Tot (fun σ => B_Z42 (σ 0) (F_Z24 (σ 0)) (F_Z56 (σ 0)) ops) Q) : Tot (fun σ => F_Z42 (σ 0) ops) Q :=
  Tot.call (F := fun k => F_Z42 k ops) (B := fun k => B_Z42 k (F_Z24 k) (F_Z56 k) ops) (fun k => rfl) h
abbrev R_Z16 : Type := Option ((Bool × Unit) × (Unit))
abbrev C_Z16 : Type := List Int → R_Z16
def B_Z16_J0 (k : Nat) (c_Z9 : C_Z9) (c_Z45 : C_Z45) (c_Z53 : C_Z53) (c_Z36 : C_Z36) (c_Z48 : C_Z48) (c_Z42 : C_Z42) (ops : List (Int × Int)) (out : List Int) (t23 : Bool) : R_Z16 :=
  bif t23 then
    (c_Z53 ops).bind fun r26 =>
    (c_Z36 out r26.1.1).bind fun r27 =>
    some ((r27.1.1, ()), ())
  else
    (c_Z42 ops).bind fun r30 =>
    bif (!r30.1.2.1) then
      some ((true, ()), ())
    else
      (c_Z36 r30.1.1 out).bind fun r38 =>
      some ((r38.1.1, ()), ())
def B_Z16 (k : Nat) (c_Z9 : C_Z9) (c_Z45 : C_Z45) (c_Z53 : C_Z53) (c_Z36 : C_Z36) (c_Z48 : C_Z48) (c_Z42 : C_Z42) (code : List Int) : R_Z16 :=
  bif decide ((len code) > 1048576) then
    some ((true, ()), ())
  else
    (c_Z9 code).bind fun r11 =>
    (c_Z45 r11.1.1).bind fun r13 =>
    (c_Z53 r11.1.1).bind fun r16 =>
    (c_Z36 r13.1.1 r16.1.1).bind fun r17 =>
    bif (!r17.1.1) then
      jn (fun t => B_Z16_J0 k c_Z9 c_Z45 c_Z53 c_Z36 c_Z48 c_Z42 t.1 t.2.1 t.2.2.1) (r11.1.1, r13.1.1, true, ())
    else
      (c_Z48 r11.1.1).bind fun r21 =>
      jn (fun t => B_Z16_J0 k c_Z9 c_Z45 c_Z53 c_Z36 c_Z48 c_Z42 t.1 t.2.1 t.2.2.1) (r11.1.1, r13.1.1, (!r21.1.1), ())
def F_Z16 : Nat → C_Z16
  | 0, _ => none
  | k + 1, code => B_Z16 k (F_Z9 k) (F_Z45 k) (F_Z53 k) (F_Z36 k) (F_Z48 k) (F_Z42 k) code
theorem tot_Z16 {code : _} {Q : _ → Prop} (h : Tot (fun σ => B_Z16 (σ 0) (F_Z9 (σ 0)) (F_Z45 (σ 0)) (F_Z53 (σ 0)) (F_Z36 (σ 0)) (F_Z48 (σ 0)) (F_Z42 (σ 0)) code) Q) : Tot (fun σ => F_Z16 (σ 0) code) Q :=
  Tot.call (F := fun k => F_Z16 k code) (B := fun k => B_Z16 k (F_Z9 k) (F_Z45 k) (F_Z53 k) (F_Z36 k) (F_Z48 k) (F_Z42 k) code) (fun k => rfl) h
end Go.Gx

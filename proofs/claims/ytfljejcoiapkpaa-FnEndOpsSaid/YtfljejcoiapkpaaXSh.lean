/-
  The functions, as Gx tells them (printed by gen.py).
-/
import Derived.Test.YtfljejcoiapkpaaXSh1
set_option linter.unusedVariables false
namespace Go.Gx
abbrev A_i_running__i_CutOps_1_L0 (Z : Type) : Type := (List (Int × Int)) → Bool → (List (Int × Int × List Int)) → List Int → List Int → Bool → (List (Int × Int)) → Int → Int → Z
abbrev u_i_running__i_CutOps_1_L0 {Z : Type} (f : A_i_running__i_CutOps_1_L0 Z) (t : T_i_running__i_CutOps_1_L0) : Z := f t.1 t.2.2.1.2.2.2.1 t.2.2.2.1.1 t.2.2.2.1.2.1 t.2.2.2.1.2.2.1 t.2.2.2.1.2.2.2.1 t.2.2.2.2.1 t.2.2.2.2.2.1 t.2.2.2.2.2.2.1
theorem loop_i_running__i_CutOps_1_L0 {Q : A_i_running__i_CutOps_1_L0 (((((List (Int × Int × List Int)) × List Int × List Int × Bool × Unit) × Int × Unit) × (Unit)) → Prop)} (I : A_i_running__i_CutOps_1_L0 Prop) (μ : A_i_running__i_CutOps_1_L0 Nat)
    (step : ∀ a0 a1 a2 a3 a4 a5 a6 a7 a8, I a0 a1 a2 a3 a4 a5 a6 a7 a8 → ∀ again : (Nat → Nat) → T_i_running__i_CutOps_1_L0 → R_i_running__i_CutOps_1, Dep 2 again → (∀ y0 y1 y2 y3 y4 y5 y6 y7 y8, I y0 y1 y2 y3 y4 y5 y6 y7 y8 → μ y0 y1 y2 y3 y4 y5 y6 y7 y8 < μ a0 a1 a2 a3 a4 a5 a6 a7 a8 → Tot (fun σ => again σ (y0, (), ((), (), (), y1, ()), (y2, y3, y4, y5, ()), y6, y7, y8, ())) (Q y0 y1 y2 y3 y4 y5 y6 y7 y8)) →
      Tot (fun σ => B_i_running__i_CutOps_1_L0b (σ 0) (F_i_NewMachine (σ 0)) (F_i_Machine_step (σ 0)) (F_i_copyMachine (σ 0)) (F_i_CutOps_1 (σ 0)) (again σ) a0 a1 a2 a3 a4 a5 a6 a7 a8) (Q a0 a1 a2 a3 a4 a5 a6 a7 a8)) :
    ∀ a0 a1 a2 a3 a4 a5 a6 a7 a8, I a0 a1 a2 a3 a4 a5 a6 a7 a8 → Tot (fun σ => B_i_running__i_CutOps_1_L0 (σ 0) (F_i_NewMachine (σ 0)) (F_i_Machine_step (σ 0)) (F_i_copyMachine (σ 0)) (F_i_CutOps_1 (σ 0)) (σ 0) (a0, (), ((), (), (), a1, ()), (a2, a3, a4, a5, ()), a6, a7, a8, ())) (Q a0 a1 a2 a3 a4 a5 a6 a7 a8) := fun a0 a1 a2 a3 a4 a5 a6 a7 a8 => Tot.loop0 (L := fun k => B_i_running__i_CutOps_1_L0 k (F_i_NewMachine k) (F_i_Machine_step k) (F_i_copyMachine k) (F_i_CutOps_1 k)) (B := fun k g => u_i_running__i_CutOps_1_L0 (B_i_running__i_CutOps_1_L0b k (F_i_NewMachine k) (F_i_Machine_step k) (F_i_copyMachine k) (F_i_CutOps_1 k) g)) (Q := u_i_running__i_CutOps_1_L0 Q) (fun _ _ _ => rfl) (u_i_running__i_CutOps_1_L0 I) (u_i_running__i_CutOps_1_L0 μ)
    (fun t ht again hag h => step t.1 t.2.2.1.2.2.2.1 t.2.2.2.1.1 t.2.2.2.1.2.1 t.2.2.2.1.2.2.1 t.2.2.2.1.2.2.2.1 t.2.2.2.2.1 t.2.2.2.2.2.1 t.2.2.2.2.2.2.1 ht again hag fun y0 y1 y2 y3 y4 y5 y6 y7 y8 => h (y0, (), ((), (), (), y1, ()), (y2, y3, y4, y5, ()), y6, y7, y8, ())) (a0, (), ((), (), (), a1, ()), (a2, a3, a4, a5, ()), a6, a7, a8, ())
abbrev R_slices_Clone_impl_Op_impl_Op : Type := Option (((List (Int × Int)) × Unit) × (Unit))
abbrev C_slices_Clone_impl_Op_impl_Op : Type := (List (Int × Int)) → R_slices_Clone_impl_Op_impl_Op
def B_slices_Clone_impl_Op_impl_Op (k : Nat) (s : List (Int × Int)) : R_slices_Clone_impl_Op_impl_Op :=
  chk (room ([] : List (Int × Int)).length s.length) <|
  some ((s, ()), ())
def F_slices_Clone_impl_Op_impl_Op : Nat → C_slices_Clone_impl_Op_impl_Op
  | 0, _ => none
  | k + 1, s => B_slices_Clone_impl_Op_impl_Op k s
theorem tot_slices_Clone_impl_Op_impl_Op {s : _} {Q : _ → Prop} (h : Tot (fun σ => B_slices_Clone_impl_Op_impl_Op (σ 0) s) Q) : Tot (fun σ => F_slices_Clone_impl_Op_impl_Op (σ 0) s) Q :=
  Tot.call (F := fun k => F_slices_Clone_impl_Op_impl_Op k s) (B := fun k => B_slices_Clone_impl_Op_impl_Op k s) (fun k => rfl) h
abbrev R_i_CutOps : Type := Option (((List (Int × Int)) × Unit) × (Unit))
abbrev C_i_CutOps : Type := (List (Int × Int)) → R_i_CutOps
def B_i_CutOps (k : Nat) (c_i_ValidOps : C_i_ValidOps) (c_i_running__i_CutOps_1 : C_i_running__i_CutOps_1) (c_slices_Clone_impl_Op_impl_Op : C_slices_Clone_impl_Op_impl_Op) (ops : List (Int × Int)) : R_i_CutOps :=
  (c_i_ValidOps ops).bind fun r6 =>
  bif (!r6.1.1) then
    some (([], ()), ())
  else
    (c_i_running__i_CutOps_1 ops).bind fun r10 =>
    chk (cutb 0 r10.1.2.1 ops.length) <|
    (c_slices_Clone_impl_Op_impl_Op (sub ops 0 r10.1.2.1)).bind fun r16 =>
    some ((r16.1.1, ()), ())
def F_i_CutOps : Nat → C_i_CutOps
  | 0, _ => none
  | k + 1, ops => B_i_CutOps k (F_i_ValidOps k) (F_i_running__i_CutOps_1 k) (F_slices_Clone_impl_Op_impl_Op k) ops
theorem tot_i_CutOps {ops : _} {Q : _ → Prop} (h : Tot (fun σ => B_i_CutOps (σ 0) (F_i_ValidOps (σ 0)) (F_i_running__i_CutOps_1 (σ 0)) (F_slices_Clone_impl_Op_impl_Op (σ 0)) ops) Q) : Tot (fun σ => F_i_CutOps (σ 0) ops) Q :=
  Tot.call (F := fun k => F_i_CutOps k ops) (B := fun k => B_i_CutOps k (F_i_ValidOps k) (F_i_running__i_CutOps_1 k) (F_slices_Clone_impl_Op_impl_Op k) ops) (fun k => rfl) h
abbrev R_l_joinOps : Type := Option (((List (Int × Int)) × Unit) × (Unit))
abbrev C_l_joinOps : Type := (List (Int × Int)) → (List (Int × Int)) → R_l_joinOps
def B_l_joinOps (k : Nat) (a b : List (Int × Int)) : R_l_joinOps :=
  chk (room ([] : List (Int × Int)).length a.length) <|
  chk (room a.length b.length) <|
  some (((a ++ b), ()), ())
def F_l_joinOps : Nat → C_l_joinOps
  | 0, _, _ => none
  | k + 1, a, b => B_l_joinOps k a b
theorem tot_l_joinOps {a b : _} {Q : _ → Prop} (h : Tot (fun σ => B_l_joinOps (σ 0) a b) Q) : Tot (fun σ => F_l_joinOps (σ 0) a b) Q :=
  Tot.call (F := fun k => F_l_joinOps k a b) (B := fun k => B_l_joinOps k a b) (fun k => rfl) h
abbrev R_i_BuildGraph_1 : Type := Option ((Unit) × (Unit))
abbrev C_i_BuildGraph_1 : Type := (List (Int × Int × List Int)) → List Int → List Int → Bool → R_i_BuildGraph_1
def B_i_BuildGraph_1 (k : Nat) (t0_0 : List (Int × Int × List Int)) (t0_1 t0_2 : List Int) (t0_3 : Bool) : R_i_BuildGraph_1 :=
  some ((), ())
def F_i_BuildGraph_1 : Nat → C_i_BuildGraph_1
  | 0, _, _, _, _ => none
  | k + 1, t0_0, t0_1, t0_2, t0_3 => B_i_BuildGraph_1 k t0_0 t0_1 t0_2 t0_3
theorem tot_i_BuildGraph_1 {t0_0 t0_1 t0_2 t0_3 : _} {Q : _ → Prop} (h : Tot (fun σ => B_i_BuildGraph_1 (σ 0) t0_0 t0_1 t0_2 t0_3) Q) : Tot (fun σ => F_i_BuildGraph_1 (σ 0) t0_0 t0_1 t0_2 t0_3) Q :=
  Tot.call (F := fun k => F_i_BuildGraph_1 k t0_0 t0_1 t0_2 t0_3) (B := fun k => B_i_BuildGraph_1 k t0_0 t0_1 t0_2 t0_3) (fun k => rfl) h
abbrev R_i_running__i_BuildGraph_1 : Type := Option ((((List (Int × Int × List Int)) × List Int × List Int × Bool × Unit) × Int × Unit) × (Unit))
abbrev C_i_running__i_BuildGraph_1 : Type := (List (Int × Int)) → R_i_running__i_BuildGraph_1
abbrev T_i_running__i_BuildGraph_1_L0 : Type := (List (Int × Int)) × Unit × (Unit × Unit × Unit × Bool × Unit) × ((List (Int × Int × List Int)) × List Int × List Int × Bool × Unit) × (List (Int × Int)) × Int × Int × Unit
def B_i_running__i_BuildGraph_1_L0b (k : Nat) (c_i_NewMachine : C_i_NewMachine) (c_i_Machine_step : C_i_Machine_step) (c_i_copyMachine : C_i_copyMachine) (c_i_BuildGraph_1 : C_i_BuildGraph_1) (again0 : T_i_running__i_BuildGraph_1_L0 → R_i_running__i_BuildGraph_1) (ops : List (Int × Int)) (t4_Done : Bool) (m_Nodes : List (Int × Int × List Int)) (m_Stack m_Memo : List Int) (m_Done : Bool) (t10 : List (Int × Int)) (t11 t12 : Int) : R_i_running__i_BuildGraph_1 :=
  bif decide (t12 < t11) then
    chk (inb t12 t10.length) <|
    (c_i_Machine_step m_Nodes m_Stack m_Memo m_Done ((rdx ((0 : Int), (0 : Int)) t10 t12).1) ((rdx ((0 : Int), (0 : Int)) t10 t12).2)).bind fun r18 =>
    bif (!r18.1.1) then
      (r18.2.1.1).bind fun p25 =>
      (c_i_copyMachine p25 r18.2.1.2.1 r18.2.1.2.2.1 r18.2.1.2.2.2.1).bind fun r21 =>
      some (((r21.1.1.1, r21.1.1.2.1, r21.1.1.2.2.1, r21.1.1.2.2.2.1, ()), t12, ()), ())
    else
      (r18.2.1.1).bind fun p26 =>
      (c_i_BuildGraph_1 p26 r18.2.1.2.1 r18.2.1.2.2.1 r18.2.1.2.2.2.1).bind fun r25 =>
      (r18.2.1.1).bind fun p27 =>
      again0 (ops, (), ((), (), (), t4_Done, ()), (p27, r18.2.1.2.1, r18.2.1.2.2.1, r18.2.1.2.2.2.1, ()), t10, t11, w64 (t12 + 1), ())
  else
    (c_i_copyMachine m_Nodes m_Stack m_Memo m_Done).bind fun r28 =>
    some (((r28.1.1.1, r28.1.1.2.1, r28.1.1.2.2.1, r28.1.1.2.2.2.1, ()), len ops, ()), ())
def B_i_running__i_BuildGraph_1_L0 (k : Nat) (c_i_NewMachine : C_i_NewMachine) (c_i_Machine_step : C_i_Machine_step) (c_i_copyMachine : C_i_copyMachine) (c_i_BuildGraph_1 : C_i_BuildGraph_1) (n : Nat) (t : T_i_running__i_BuildGraph_1_L0) : R_i_running__i_BuildGraph_1 :=
  lfix n (fun again t => B_i_running__i_BuildGraph_1_L0b k c_i_NewMachine c_i_Machine_step c_i_copyMachine c_i_BuildGraph_1 again t.1 t.2.2.1.2.2.2.1 t.2.2.2.1.1 t.2.2.2.1.2.1 t.2.2.2.1.2.2.1 t.2.2.2.1.2.2.2.1 t.2.2.2.2.1 t.2.2.2.2.2.1 t.2.2.2.2.2.2.1) t
def B_i_running__i_BuildGraph_1 (k : Nat) (c_i_NewMachine : C_i_NewMachine) (c_i_Machine_step : C_i_Machine_step) (c_i_copyMachine : C_i_copyMachine) (c_i_BuildGraph_1 : C_i_BuildGraph_1) (ops : List (Int × Int)) : R_i_running__i_BuildGraph_1 :=
  (c_i_NewMachine 0).bind fun r9 =>
  B_i_running__i_BuildGraph_1_L0 k c_i_NewMachine c_i_Machine_step c_i_copyMachine c_i_BuildGraph_1 k (ops, (), ((), (), (), false, ()), (r9.1.1.1, [], r9.1.1.2.2.1, r9.1.1.2.2.2.1, ()), ops, len ops, 0, ())
def F_i_running__i_BuildGraph_1 : Nat → C_i_running__i_BuildGraph_1
  | 0, _ => none
  | k + 1, ops => B_i_running__i_BuildGraph_1 k (F_i_NewMachine k) (F_i_Machine_step k) (F_i_copyMachine k) (F_i_BuildGraph_1 k) ops
theorem tot_i_running__i_BuildGraph_1 {ops : _} {Q : _ → Prop} (h : Tot (fun σ => B_i_running__i_BuildGraph_1 (σ 0) (F_i_NewMachine (σ 0)) (F_i_Machine_step (σ 0)) (F_i_copyMachine (σ 0)) (F_i_BuildGraph_1 (σ 0)) ops) Q) : Tot (fun σ => F_i_running__i_BuildGraph_1 (σ 0) ops) Q :=
  Tot.call (F := fun k => F_i_running__i_BuildGraph_1 k ops) (B := fun k => B_i_running__i_BuildGraph_1 k (F_i_NewMachine k) (F_i_Machine_step k) (F_i_copyMachine k) (F_i_BuildGraph_1 k) ops) (fun k => rfl) h
abbrev A_i_running__i_BuildGraph_1_L0 (Z : Type) : Type := (List (Int × Int)) → Bool → (List (Int × Int × List Int)) → List Int → List Int → Bool → (List (Int × Int)) → Int → Int → Z
abbrev u_i_running__i_BuildGraph_1_L0 {Z : Type} (f : A_i_running__i_BuildGraph_1_L0 Z) (t : T_i_running__i_BuildGraph_1_L0) : Z := f t.1 t.2.2.1.2.2.2.1 t.2.2.2.1.1 t.2.2.2.1.2.1 t.2.2.2.1.2.2.1 t.2.2.2.1.2.2.2.1 t.2.2.2.2.1 t.2.2.2.2.2.1 t.2.2.2.2.2.2.1
theorem loop_i_running__i_BuildGraph_1_L0 {Q : A_i_running__i_BuildGraph_1_L0 (((((List (Int × Int × List Int)) × List Int × List Int × Bool × Unit) × Int × Unit) × (Unit)) → Prop)} (I : A_i_running__i_BuildGraph_1_L0 Prop) (μ : A_i_running__i_BuildGraph_1_L0 Nat)
    (step : ∀ a0 a1 a2 a3 a4 a5 a6 a7 a8, I a0 a1 a2 a3 a4 a5 a6 a7 a8 → ∀ again : (Nat → Nat) → T_i_running__i_BuildGraph_1_L0 → R_i_running__i_BuildGraph_1, Dep 2 again → (∀ y0 y1 y2 y3 y4 y5 y6 y7 y8, I y0 y1 y2 y3 y4 y5 y6 y7 y8 → μ y0 y1 y2 y3 y4 y5 y6 y7 y8 < μ a0 a1 a2 a3 a4 a5 a6 a7 a8 → Tot (fun σ => again σ (y0, (), ((), (), (), y1, ()), (y2, y3, y4, y5, ()), y6, y7, y8, ())) (Q y0 y1 y2 y3 y4 y5 y6 y7 y8)) →
      Tot (fun σ => B_i_running__i_BuildGraph_1_L0b (σ 0) (F_i_NewMachine (σ 0)) (F_i_Machine_step (σ 0)) (F_i_copyMachine (σ 0)) (F_i_BuildGraph_1 (σ 0)) (again σ) a0 a1 a2 a3 a4 a5 a6 a7 a8) (Q a0 a1 a2 a3 a4 a5 a6 a7 a8)) :
    ∀ a0 a1 a2 a3 a4 a5 a6 a7 a8, I a0 a1 a2 a3 a4 a5 a6 a7 a8 → Tot (fun σ => B_i_running__i_BuildGraph_1_L0 (σ 0) (F_i_NewMachine (σ 0)) (F_i_Machine_step (σ 0)) (F_i_copyMachine (σ 0)) (F_i_BuildGraph_1 (σ 0)) (σ 0) (a0, (), ((), (), (), a1, ()), (a2, a3, a4, a5, ()), a6, a7, a8, ())) (Q a0 a1 a2 a3 a4 a5 a6 a7 a8) := fun a0 a1 a2 a3 a4 a5 a6 a7 a8 => Tot.loop0 (L := fun k => B_i_running__i_BuildGraph_1_L0 k (F_i_NewMachine k) (F_i_Machine_step k) (F_i_copyMachine k) (F_i_BuildGraph_1 k)) (B := fun k g => u_i_running__i_BuildGraph_1_L0 (B_i_running__i_BuildGraph_1_L0b k (F_i_NewMachine k) (F_i_Machine_step k) (F_i_copyMachine k) (F_i_BuildGraph_1 k) g)) (Q := u_i_running__i_BuildGraph_1_L0 Q) (fun _ _ _ => rfl) (u_i_running__i_BuildGraph_1_L0 I) (u_i_running__i_BuildGraph_1_L0 μ)
    (fun t ht again hag h => step t.1 t.2.2.1.2.2.2.1 t.2.2.2.1.1 t.2.2.2.1.2.1 t.2.2.2.1.2.2.1 t.2.2.2.1.2.2.2.1 t.2.2.2.2.1 t.2.2.2.2.2.1 t.2.2.2.2.2.2.1 ht again hag fun y0 y1 y2 y3 y4 y5 y6 y7 y8 => h (y0, (), ((), (), (), y1, ()), (y2, y3, y4, y5, ()), y6, y7, y8, ())) (a0, (), ((), (), (), a1, ()), (a2, a3, a4, a5, ()), a6, a7, a8, ())
abbrev R_i_BuildGraph : Type := Option ((((List (Int × Int × List Int)) × Int × Unit) × Bool × Unit) × (Unit))
abbrev C_i_BuildGraph : Type := (List (Int × Int)) → R_i_BuildGraph
def B_i_BuildGraph_J0 (k : Nat) (c_i_ValidOps : C_i_ValidOps) (c_i_running__i_BuildGraph_1 : C_i_running__i_BuildGraph_1) (t2_Root : Int) (m_Nodes : List (Int × Int × List Int)) (m_Stack m_Memo : List Int) (m_Done t23 : Bool) : R_i_BuildGraph :=
  bif t23 then
    some ((([], 0, ()), false, ()), ())
  else
    chk (inb 0 m_Stack.length) <|
    chk (decide ((0 : Int).toNat < m_Stack.length)) <|
    some (((m_Nodes, (m_Stack.getD ((0 : Int).toNat) (0 : Int)), ()), true, ()), ())
def B_i_BuildGraph (k : Nat) (c_i_ValidOps : C_i_ValidOps) (c_i_running__i_BuildGraph_1 : C_i_running__i_BuildGraph_1) (ops : List (Int × Int)) : R_i_BuildGraph :=
  (c_i_ValidOps ops).bind fun r7 =>
  bif (!r7.1.1) then
    some ((([], 0, ()), false, ()), ())
  else
    (c_i_running__i_BuildGraph_1 ops).bind fun r12 =>
    bif decide (r12.1.2.1 < (len ops)) then
      jn (fun t => B_i_BuildGraph_J0 k c_i_ValidOps c_i_running__i_BuildGraph_1 t.1.2.1 t.2.1.1 t.2.1.2.1 t.2.1.2.2.1 t.2.1.2.2.2.1 t.2.2.1) (((), 0, ()), (r12.1.1.1, r12.1.1.2.1, r12.1.1.2.2.1, r12.1.1.2.2.2.1, ()), true, ())
    else
      jn (fun t => B_i_BuildGraph_J0 k c_i_ValidOps c_i_running__i_BuildGraph_1 t.1.2.1 t.2.1.1 t.2.1.2.1 t.2.1.2.2.1 t.2.1.2.2.2.1 t.2.2.1) (((), 0, ()), (r12.1.1.1, r12.1.1.2.1, r12.1.1.2.2.1, r12.1.1.2.2.2.1, ()), (!r12.1.1.2.2.2.1), ())
def F_i_BuildGraph : Nat → C_i_BuildGraph
  | 0, _ => none
  | k + 1, ops => B_i_BuildGraph k (F_i_ValidOps k) (F_i_running__i_BuildGraph_1 k) ops
theorem tot_i_BuildGraph {ops : _} {Q : _ → Prop} (h : Tot (fun σ => B_i_BuildGraph (σ 0) (F_i_ValidOps (σ 0)) (F_i_running__i_BuildGraph_1 (σ 0)) ops) Q) : Tot (fun σ => F_i_BuildGraph (σ 0) ops) Q :=
  Tot.call (F := fun k => F_i_BuildGraph k ops) (B := fun k => B_i_BuildGraph k (F_i_ValidOps k) (F_i_running__i_BuildGraph_1 k) ops) (fun k => rfl) h
abbrev R_i_IsWhole : Type := Option ((Bool × Unit) × (Unit))
abbrev C_i_IsWhole : Type := (List (Int × Int)) → R_i_IsWhole
def B_i_IsWhole (k : Nat) (c_i_BuildGraph : C_i_BuildGraph) (ops : List (Int × Int)) : R_i_IsWhole :=
  (c_i_BuildGraph ops).bind fun r7 =>
  some ((r7.1.2.1, ()), ())
def F_i_IsWhole : Nat → C_i_IsWhole
  | 0, _ => none
  | k + 1, ops => B_i_IsWhole k (F_i_BuildGraph k) ops
theorem tot_i_IsWhole {ops : _} {Q : _ → Prop} (h : Tot (fun σ => B_i_IsWhole (σ 0) (F_i_BuildGraph (σ 0)) ops) Q) : Tot (fun σ => F_i_IsWhole (σ 0) ops) Q :=
  Tot.call (F := fun k => F_i_IsWhole k ops) (B := fun k => B_i_IsWhole k (F_i_BuildGraph k) ops) (fun k => rfl) h
abbrev R_l_FnEndOps : Type := Option ((Bool × Unit) × (Unit))
abbrev C_l_FnEndOps : Type := List Int → R_l_FnEndOps
def B_l_FnEndOps_J0 (k : Nat) (c_s_DrawEndOps : C_s_DrawEndOps) (c_i_EndOps : C_i_EndOps) (c_s_EndOps : C_s_EndOps) (c_l_equalOps : C_l_equalOps) (c_i_CutOps : C_i_CutOps) (c_l_joinOps : C_l_joinOps) (c_i_IsWhole : C_i_IsWhole) (ops out : List (Int × Int)) (ok : Bool) (want : List (Int × Int)) (told t37 : Bool) : R_l_FnEndOps :=
  bif t37 then
    (c_l_equalOps out want).bind fun r40 =>
    bif r40.1.1 then
      some (((ok == told), ()), ())
    else
      some ((false, ()), ())
  else
    (c_i_CutOps ops).bind fun r47 =>
    (c_l_joinOps r47.1.1 out).bind fun r50 =>
    (c_i_IsWhole r50.1.1).bind fun r52 =>
    bif r52.1.1 then
      (c_i_IsWhole r47.1.1).bind fun r58 =>
      some (((((len out) == 0) == r58.1.1), ()), ())
    else
      some ((false, ()), ())
def B_l_FnEndOps (k : Nat) (c_s_DrawEndOps : C_s_DrawEndOps) (c_i_EndOps : C_i_EndOps) (c_s_EndOps : C_s_EndOps) (c_l_equalOps : C_l_equalOps) (c_i_CutOps : C_i_CutOps) (c_l_joinOps : C_l_joinOps) (c_i_IsWhole : C_i_IsWhole) (code : List Int) : R_l_FnEndOps :=
  bif decide ((len code) > 1048576) then
    some ((true, ()), ())
  else
    (c_s_DrawEndOps code).bind fun r14 =>
    (c_i_EndOps r14.1.1).bind fun r17 =>
    (c_s_EndOps r14.1.1).bind fun r22 =>
    (c_l_equalOps r17.1.1 r22.1.1).bind fun r27 =>
    bif (!r27.1.1) then
      jn (fun t => B_l_FnEndOps_J0 k c_s_DrawEndOps c_i_EndOps c_s_EndOps c_l_equalOps c_i_CutOps c_l_joinOps c_i_IsWhole t.1 t.2.1 t.2.2.1 t.2.2.2.1 t.2.2.2.2.1 t.2.2.2.2.2.1) (r14.1.1, r17.1.1, r17.1.2.1, r22.1.1, r22.1.2.1, true, ())
    else
      bif (!(r17.1.2.1 == r22.1.2.1)) then
        jn (fun t => B_l_FnEndOps_J0 k c_s_DrawEndOps c_i_EndOps c_s_EndOps c_l_equalOps c_i_CutOps c_l_joinOps c_i_IsWhole t.1 t.2.1 t.2.2.1 t.2.2.2.1 t.2.2.2.2.1 t.2.2.2.2.2.1) (r14.1.1, r17.1.1, r17.1.2.1, r22.1.1, r22.1.2.1, true, ())
      else
        jn (fun t => B_l_FnEndOps_J0 k c_s_DrawEndOps c_i_EndOps c_s_EndOps c_l_equalOps c_i_CutOps c_l_joinOps c_i_IsWhole t.1 t.2.1 t.2.2.1 t.2.2.2.1 t.2.2.2.2.1 t.2.2.2.2.2.1) (r14.1.1, r17.1.1, r17.1.2.1, r22.1.1, r22.1.2.1, (!r17.1.2.1), ())
def F_l_FnEndOps : Nat → C_l_FnEndOps
  | 0, _ => none
  | k + 1, code => B_l_FnEndOps k (F_s_DrawEndOps k) (F_i_EndOps k) (F_s_EndOps k) (F_l_equalOps k) (F_i_CutOps k) (F_l_joinOps k) (F_i_IsWhole k) code
theorem tot_l_FnEndOps {code : _} {Q : _ → Prop} (h : Tot (fun σ => B_l_FnEndOps (σ 0) (F_s_DrawEndOps (σ 0)) (F_i_EndOps (σ 0)) (F_s_EndOps (σ 0)) (F_l_equalOps (σ 0)) (F_i_CutOps (σ 0)) (F_l_joinOps (σ 0)) (F_i_IsWhole (σ 0)) code) Q) : Tot (fun σ => F_l_FnEndOps (σ 0) code) Q :=
  Tot.call (F := fun k => F_l_FnEndOps k code) (B := fun k => B_l_FnEndOps k (F_s_DrawEndOps k) (F_i_EndOps k) (F_s_EndOps k) (F_l_equalOps k) (F_i_CutOps k) (F_l_joinOps k) (F_i_IsWhole k) code) (fun k => rfl) h
end Go.Gx

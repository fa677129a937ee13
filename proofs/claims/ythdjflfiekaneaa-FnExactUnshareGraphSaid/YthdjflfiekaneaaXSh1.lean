/-
  The functions, as Gx tells them (printed by gen.py).
-/
import Derived.Test.YthdjflfiekaneaaXGpart4
set_option linter.unusedVariables false
namespace Go.Gx
abbrev R_l_szIntS : Type := Option ((Int × Unit) × (Unit))
abbrev C_l_szIntS : Type := List Int → Int → R_l_szIntS
def B_l_szIntS (k : Nat) (a : List Int) (left : Int) : R_l_szIntS :=
  bif decide ((w64 (left - (len a))) < 0) then
    some (((-1), ()), ())
  else
    some ((w64 (left - (len a)), ()), ())
def F_l_szIntS : Nat → C_l_szIntS
  | 0, _, _ => none
  | k + 1, a, left => B_l_szIntS k a left
theorem tot_l_szIntS {a left : _} {Q : _ → Prop} (h : Tot (fun σ => B_l_szIntS (σ 0) a left) Q) : Tot (fun σ => F_l_szIntS (σ 0) a left) Q :=
  Tot.call (F := fun k => F_l_szIntS k a left) (B := fun k => B_l_szIntS k a left) (fun k => rfl) h
abbrev R_l_szNode : Type := Option ((Int × Unit) × (Unit))
abbrev C_l_szNode : Type := Int → Int → List Int → Int → R_l_szNode
def B_l_szNode (k : Nat) (c_l_szIntS : C_l_szIntS) (a_0 a_1 : Int) (a_2 : List Int) (left : Int) : R_l_szNode :=
  (c_l_szIntS a_2 left).bind fun r8 =>
  bif decide (r8.1.1 < 0) then
    some (((-1), ()), ())
  else
    some ((r8.1.1, ()), ())
def F_l_szNode : Nat → C_l_szNode
  | 0, _, _, _, _ => none
  | k + 1, a_0, a_1, a_2, left => B_l_szNode k (F_l_szIntS k) a_0 a_1 a_2 left
theorem tot_l_szNode {a_0 a_1 a_2 left : _} {Q : _ → Prop} (h : Tot (fun σ => B_l_szNode (σ 0) (F_l_szIntS (σ 0)) a_0 a_1 a_2 left) Q) : Tot (fun σ => F_l_szNode (σ 0) a_0 a_1 a_2 left) Q :=
  Tot.call (F := fun k => F_l_szNode k a_0 a_1 a_2 left) (B := fun k => B_l_szNode k (F_l_szIntS k) a_0 a_1 a_2 left) (fun k => rfl) h
abbrev R_Z56 : Type := Option ((Int × Unit) × (Unit))
abbrev C_Z56 : Type := (List (Int × Int × List Int)) → Int → R_Z56
abbrev T_Z56_L0 : Type := (List (Int × Int × List Int)) × Int × Int × Unit
def B_Z56_L0b (k : Nat) (c_l_szNode : C_l_szNode) (again0 : T_Z56_L0 → R_Z56) (a : List (Int × Int × List Int)) (left i : Int) : R_Z56 :=
  bif decide (i < (len a)) then
    chk (inb i a.length) <|
    (c_l_szNode ((rdx ((0 : Int), ((0 : Int), ([] : List Int))) a i).1) (((rdx ((0 : Int), ((0 : Int), ([] : List Int))) a i).2).1) (((rdx ((0 : Int), ((0 : Int), ([] : List Int))) a i).2).2) left).bind fun r23 =>
    bif decide (r23.1.1 < 0) then
      some (((-1), ()), ())
    else
      again0 (a, r23.1.1, w64 (i + 1), ())
  else
    some ((left, ()), ())
def B_Z56_L0 (k : Nat) (c_l_szNode : C_l_szNode) (n : Nat) (t : T_Z56_L0) : R_Z56 :=
  lfix n (fun again t => B_Z56_L0b k c_l_szNode again t.1 t.2.1 t.2.2.1) t
def B_Z56 (k : Nat) (c_l_szNode : C_l_szNode) (a : List (Int × Int × List Int)) (left : Int) : R_Z56 :=
  bif decide ((w64 (left - (len a))) < 0) then
    some (((-1), ()), ())
  else
    B_Z56_L0 k c_l_szNode k (a, w64 (left - (len a)), 0, ())
def F_Z56 : Nat → C_Z56
  | 0, _, _ => none
  | k + 1, a, left => B_Z56 k (F_l_szNode k) a left
theorem tot_Z56 {a left : _} {Q : _ → Prop} (h : Tot (fun σ => B_Z56 (σ 0) (F_l_szNode (σ 0)) a left) Q) : Tot (fun σ => F_Z56 (σ 0) a left) Q :=
  Tot.call (F := fun k => F_Z56 k a left) (B := fun k => B_Z56 k (F_l_szNode k) a left) (fun k => rfl) h
abbrev A_Z56_L0 (Z : Type) : Type := (List (Int × Int × List Int)) → Int → Int → Z
abbrev u_Z56_L0 {Z : Type} (f : A_Z56_L0 Z) (t : T_Z56_L0) : Z := f t.1 t.2.1 t.2.2.1
theorem loop_Z56_L0 {Q : A_Z56_L0 (((Int × Unit) × (Unit)) → Prop)} (I : A_Z56_L0 Prop) (μ : A_Z56_L0 Nat)
    (step : ∀ a0 a1 a2, I a0 a1 a2 → ∀ again : (Nat → Nat) → T_Z56_L0 → R_Z56, Dep 2 again → (∀ y0 y1 y2, I y0 y1 y2 → μ y0 y1 y2 < μ a0 a1 a2 → Tot (fun σ => again σ (y0, y1, y2, ())) (Q y0 y1 y2)) →
      Tot (fun σ => B_Z56_L0b (σ 0) (F_l_szNode (σ 0)) (again σ) a0 a1 a2) (Q a0 a1 a2)) :
    ∀ a0 a1 a2, I a0 a1 a2 → Tot (fun σ => B_Z56_L0 (σ 0) (F_l_szNode (σ 0)) (σ 0) (a0, a1, a2, ())) (Q a0 a1 a2) := fun a0 a1 a2 => Tot.loop0 (L := fun k => B_Z56_L0 k (F_l_szNode k)) (B := fun k g => u_Z56_L0 (B_Z56_L0b k (F_l_szNode k) g)) (Q := u_Z56_L0 Q) (fun _ _ _ => rfl) (u_Z56_L0 I) (u_Z56_L0 μ)
    (fun t ht again hag h => step t.1 t.2.1 t.2.2.1 ht again hag fun y0 y1 y2 => h (y0, y1, y2, ())) (a0, a1, a2, ())
abbrev R_Z51 : Type := Option ((Int × Unit) × (Unit))
abbrev C_Z51 : Type := (List (Int × Int × List Int)) → Int → Int → R_Z51
def B_Z51 (k : Nat) (c_Z56 : C_Z56) (a_0 : List (Int × Int × List Int)) (a_1 left : Int) : R_Z51 :=
  (c_Z56 a_0 left).bind fun r8 =>
  bif decide (r8.1.1 < 0) then
    some (((-1), ()), ())
  else
    some ((r8.1.1, ()), ())
def F_Z51 : Nat → C_Z51
  | 0, _, _, _ => none
  | k + 1, a_0, a_1, left => B_Z51 k (F_Z56 k) a_0 a_1 left
theorem tot_Z51 {a_0 a_1 left : _} {Q : _ → Prop} (h : Tot (fun σ => B_Z51 (σ 0) (F_Z56 (σ 0)) a_0 a_1 left) Q) : Tot (fun σ => F_Z51 (σ 0) a_0 a_1 left) Q :=
  Tot.call (F := fun k => F_Z51 k a_0 a_1 left) (B := fun k => B_Z51 k (F_Z56 k) a_0 a_1 left) (fun k => rfl) h
abbrev R_l_toIntS : Type := Option ((List Int × Unit) × (Unit))
abbrev C_l_toIntS : Type := List Int → R_l_toIntS
abbrev T_l_toIntS_L0 : Type := List Int × List Int × Int × Unit
def B_l_toIntS_L0b (k : Nat) (again0 : T_l_toIntS_L0 → R_l_toIntS) (a out : List Int) (i : Int) : R_l_toIntS :=
  bif decide (i < (len a)) then
    chk (inb i a.length) <|
    chk (inb i out.length) <|
    chk (decide (i.toNat < out.length)) <|
    again0 (a, (out.set i.toNat (rdx (0 : Int) a i)), w64 (i + 1), ())
  else
    some ((out, ()), ())
def B_l_toIntS_L0 (k : Nat) (n : Nat) (t : T_l_toIntS_L0) : R_l_toIntS :=
  lfix n (fun again t => B_l_toIntS_L0b k again t.1 t.2.1 t.2.2.1) t
def B_l_toIntS (k : Nat) (a : List Int) : R_l_toIntS :=
  chk ((decide (0 ≤ (len a) ∧ (len a) ≤ (lim : Int)) && ((len a) == (len a)))) <|
  B_l_toIntS_L0 k k (a, (List.replicate (len a).toNat (0 : Int)), 0, ())
def F_l_toIntS : Nat → C_l_toIntS
  | 0, _ => none
  | k + 1, a => B_l_toIntS k a
theorem tot_l_toIntS {a : _} {Q : _ → Prop} (h : Tot (fun σ => B_l_toIntS (σ 0) a) Q) : Tot (fun σ => F_l_toIntS (σ 0) a) Q :=
  Tot.call (F := fun k => F_l_toIntS k a) (B := fun k => B_l_toIntS k a) (fun k => rfl) h
abbrev A_l_toIntS_L0 (Z : Type) : Type := List Int → List Int → Int → Z
abbrev u_l_toIntS_L0 {Z : Type} (f : A_l_toIntS_L0 Z) (t : T_l_toIntS_L0) : Z := f t.1 t.2.1 t.2.2.1
theorem loop_l_toIntS_L0 {Q : A_l_toIntS_L0 (((List Int × Unit) × (Unit)) → Prop)} (I : A_l_toIntS_L0 Prop) (μ : A_l_toIntS_L0 Nat)
    (step : ∀ a0 a1 a2, I a0 a1 a2 → ∀ again : (Nat → Nat) → T_l_toIntS_L0 → R_l_toIntS, Dep 2 again → (∀ y0 y1 y2, I y0 y1 y2 → μ y0 y1 y2 < μ a0 a1 a2 → Tot (fun σ => again σ (y0, y1, y2, ())) (Q y0 y1 y2)) →
      Tot (fun σ => B_l_toIntS_L0b (σ 0) (again σ) a0 a1 a2) (Q a0 a1 a2)) :
    ∀ a0 a1 a2, I a0 a1 a2 → Tot (fun σ => B_l_toIntS_L0 (σ 0) (σ 0) (a0, a1, a2, ())) (Q a0 a1 a2) := fun a0 a1 a2 => Tot.loop0 (L := fun k => B_l_toIntS_L0 k) (B := fun k g => u_l_toIntS_L0 (B_l_toIntS_L0b k g)) (Q := u_l_toIntS_L0 Q) (fun _ _ _ => rfl) (u_l_toIntS_L0 I) (u_l_toIntS_L0 μ)
    (fun t ht again hag h => step t.1 t.2.1 t.2.2.1 ht again hag fun y0 y1 y2 => h (y0, y1, y2, ())) (a0, a1, a2, ())
abbrev R_l_toNode : Type := Option (((Int × Int × List Int × Unit) × Unit) × (Unit))
abbrev C_l_toNode : Type := Int → Int → List Int → R_l_toNode
def B_l_toNode (k : Nat) (c_l_toIntS : C_l_toIntS) (a_0 a_1 : Int) (a_2 : List Int) : R_l_toNode :=
  (c_l_toIntS a_2).bind fun r12 =>
  some (((a_0, a_1, r12.1.1, ()), ()), ())
def F_l_toNode : Nat → C_l_toNode
  | 0, _, _, _ => none
  | k + 1, a_0, a_1, a_2 => B_l_toNode k (F_l_toIntS k) a_0 a_1 a_2
theorem tot_l_toNode {a_0 a_1 a_2 : _} {Q : _ → Prop} (h : Tot (fun σ => B_l_toNode (σ 0) (F_l_toIntS (σ 0)) a_0 a_1 a_2) Q) : Tot (fun σ => F_l_toNode (σ 0) a_0 a_1 a_2) Q :=
  Tot.call (F := fun k => F_l_toNode k a_0 a_1 a_2) (B := fun k => B_l_toNode k (F_l_toIntS k) a_0 a_1 a_2) (fun k => rfl) h
abbrev R_Z58 : Type := Option (((List (Int × Int × List Int)) × Unit) × (Unit))
abbrev C_Z58 : Type := (List (Int × Int × List Int)) → R_Z58
abbrev T_Z58_L0 : Type := (List (Int × Int × List Int)) × (List (Int × Int × List Int)) × Int × Unit
def B_Z58_L0b (k : Nat) (c_l_toNode : C_l_toNode) (again0 : T_Z58_L0 → R_Z58) (a out : List (Int × Int × List Int)) (i : Int) : R_Z58 :=
  bif decide (i < (len a)) then
    chk (inb i a.length) <|
    (c_l_toNode ((rdx ((0 : Int), ((0 : Int), ([] : List Int))) a i).1) (((rdx ((0 : Int), ((0 : Int), ([] : List Int))) a i).2).1) (((rdx ((0 : Int), ((0 : Int), ([] : List Int))) a i).2).2)).bind fun r20 =>
    chk (inb i out.length) <|
    chk (decide (i.toNat < out.length)) <|
    again0 (a, (out.set i.toNat (r20.1.1.1, (r20.1.1.2.1, r20.1.1.2.2.1))), w64 (i + 1), ())
  else
    some ((out, ()), ())
def B_Z58_L0 (k : Nat) (c_l_toNode : C_l_toNode) (n : Nat) (t : T_Z58_L0) : R_Z58 :=
  lfix n (fun again t => B_Z58_L0b k c_l_toNode again t.1 t.2.1 t.2.2.1) t
def B_Z58 (k : Nat) (c_l_toNode : C_l_toNode) (a : List (Int × Int × List Int)) : R_Z58 :=
  chk ((decide (0 ≤ (len a) ∧ (len a) ≤ (lim : Int)) && ((len a) == (len a)))) <|
  B_Z58_L0 k c_l_toNode k (a, (List.replicate (len a).toNat ((0 : Int), ((0 : Int), ([] : List Int)))), 0, ())
def F_Z58 : Nat → C_Z58
  | 0, _ => none
  | k + 1, a => B_Z58 k (F_l_toNode k) a
theorem tot_Z58 {a : _} {Q : _ → Prop} (h : Tot (fun σ => B_Z58 (σ 0) (F_l_toNode (σ 0)) a) Q) : Tot (fun σ => F_Z58 (σ 0) a) Q :=
  Tot.call (F := fun k => F_Z58 k a) (B := fun k => B_Z58 k (F_l_toNode k) a) (fun k => rfl) h
abbrev A_Z58_L0 (Z : Type) : Type := (List (Int × Int × List Int)) → (List (Int × Int × List Int)) → Int → Z
abbrev u_Z58_L0 {Z : Type} (f : A_Z58_L0 Z) (t : T_Z58_L0) : Z := f t.1 t.2.1 t.2.2.1
theorem loop_Z58_L0 {Q : A_Z58_L0 ((((List (Int × Int × List Int)) × Unit) × (Unit)) → Prop)} (I : A_Z58_L0 Prop) (μ : A_Z58_L0 Nat)
    (step : ∀ a0 a1 a2, I a0 a1 a2 → ∀ again : (Nat → Nat) → T_Z58_L0 → R_Z58, Dep 2 again → (∀ y0 y1 y2, I y0 y1 y2 → μ y0 y1 y2 < μ a0 a1 a2 → Tot (fun σ => again σ (y0, y1, y2, ())) (Q y0 y1 y2)) →
      Tot (fun σ => B_Z58_L0b (σ 0) (F_l_toNode (σ 0)) (again σ) a0 a1 a2) (Q a0 a1 a2)) :
    ∀ a0 a1 a2, I a0 a1 a2 → Tot (fun σ => B_Z58_L0 (σ 0) (F_l_toNode (σ 0)) (σ 0) (a0, a1, a2, ())) (Q a0 a1 a2) := fun a0 a1 a2 => Tot.loop0 (L := fun k => B_Z58_L0 k (F_l_toNode k)) (B := fun k g => u_Z58_L0 (B_Z58_L0b k (F_l_toNode k) g)) (Q := u_Z58_L0 Q) (fun _ _ _ => rfl) (u_Z58_L0 I) (u_Z58_L0 μ)
    (fun t ht again hag h => step t.1 t.2.1 t.2.2.1 ht again hag fun y0 y1 y2 => h (y0, y1, y2, ())) (a0, a1, a2, ())
abbrev R_Z52 : Type := Option ((((List (Int × Int × List Int)) × Int × Unit) × Unit) × (Unit))
abbrev C_Z52 : Type := (List (Int × Int × List Int)) → Int → R_Z52
def B_Z52 (k : Nat) (c_Z58 : C_Z58) (a_0 : List (Int × Int × List Int)) (a_1 : Int) : R_Z52 :=
  (c_Z58 a_0).bind fun r6 =>
  some (((r6.1.1, a_1, ()), ()), ())
def F_Z52 : Nat → C_Z52
  | 0, _, _ => none
  | k + 1, a_0, a_1 => B_Z52 k (F_Z58 k) a_0 a_1
theorem tot_Z52 {a_0 a_1 : _} {Q : _ → Prop} (h : Tot (fun σ => B_Z52 (σ 0) (F_Z58 (σ 0)) a_0 a_1) Q) : Tot (fun σ => F_Z52 (σ 0) a_0 a_1) Q :=
  Tot.call (F := fun k => F_Z52 k a_0 a_1) (B := fun k => B_Z52 k (F_Z58 k) a_0 a_1) (fun k => rfl) h
abbrev R_Z53 : Type := Option ((Bool × Unit) × (Unit))
abbrev C_Z53 : Type := Int → Int → Int → R_Z53
def B_Z53 (k : Nat) (n0 low high : Int) : R_Z53 :=
  bif decide (low ≤ n0) then
    some ((decide (n0 ≤ high), ()), ())
  else
    some ((false, ()), ())
def F_Z53 : Nat → C_Z53
  | 0, _, _, _ => none
  | k + 1, n0, low, high => B_Z53 k n0 low high
theorem tot_Z53 {n0 low high : _} {Q : _ → Prop} (h : Tot (fun σ => B_Z53 (σ 0) n0 low high) Q) : Tot (fun σ => F_Z53 (σ 0) n0 low high) Q :=
  Tot.call (F := fun k => F_Z53 k n0 low high) (B := fun k => B_Z53 k n0 low high) (fun k => rfl) h
abbrev R_s_allIn : Type := Option ((Bool × Unit) × (Unit))
abbrev C_s_allIn : Type := List Int → Int → Int → R_s_allIn
abbrev T_s_allIn_L0 : Type := List Int × Int × Int × Int × Unit
def B_s_allIn_L0b (k : Nat) (c_Z53 : C_Z53) (again0 : T_s_allIn_L0 → R_s_allIn) (list : List Int) (low high i : Int) : R_s_allIn :=
  bif decide (i < (len list)) then
    chk (inb i list.length) <|
    (c_Z53 (rdx (0 : Int) list i) low high).bind fun r20 =>
    bif (!r20.1.1) then
      some ((false, ()), ())
    else
      again0 (list, low, high, w64 (i + 1), ())
  else
    some ((true, ()), ())
def B_s_allIn_L0 (k : Nat) (c_Z53 : C_Z53) (n : Nat) (t : T_s_allIn_L0) : R_s_allIn :=
  lfix n (fun again t => B_s_allIn_L0b k c_Z53 again t.1 t.2.1 t.2.2.1 t.2.2.2.1) t
def B_s_allIn (k : Nat) (c_Z53 : C_Z53) (list : List Int) (low high : Int) : R_s_allIn :=
  B_s_allIn_L0 k c_Z53 k (list, low, high, 0, ())
def F_s_allIn : Nat → C_s_allIn
  | 0, _, _, _ => none
  | k + 1, list, low, high => B_s_allIn k (F_Z53 k) list low high
theorem tot_s_allIn {list low high : _} {Q : _ → Prop} (h : Tot (fun σ => B_s_allIn (σ 0) (F_Z53 (σ 0)) list low high) Q) : Tot (fun σ => F_s_allIn (σ 0) list low high) Q :=
  Tot.call (F := fun k => F_s_allIn k list low high) (B := fun k => B_s_allIn k (F_Z53 k) list low high) (fun k => rfl) h
abbrev A_s_allIn_L0 (Z : Type) : Type := List Int → Int → Int → Int → Z
abbrev u_s_allIn_L0 {Z : Type} (f : A_s_allIn_L0 Z) (t : T_s_allIn_L0) : Z := f t.1 t.2.1 t.2.2.1 t.2.2.2.1
theorem loop_s_allIn_L0 {Q : A_s_allIn_L0 (((Bool × Unit) × (Unit)) → Prop)} (I : A_s_allIn_L0 Prop) (μ : A_s_allIn_L0 Nat)
    (step : ∀ a0 a1 a2 a3, I a0 a1 a2 a3 → ∀ again : (Nat → Nat) → T_s_allIn_L0 → R_s_allIn, Dep 2 again → (∀ y0 y1 y2 y3, I y0 y1 y2 y3 → μ y0 y1 y2 y3 < μ a0 a1 a2 a3 → Tot (fun σ => again σ (y0, y1, y2, y3, ())) (Q y0 y1 y2 y3)) →
      Tot (fun σ => B_s_allIn_L0b (σ 0) (F_Z53 (σ 0)) (again σ) a0 a1 a2 a3) (Q a0 a1 a2 a3)) :
    ∀ a0 a1 a2 a3, I a0 a1 a2 a3 → Tot (fun σ => B_s_allIn_L0 (σ 0) (F_Z53 (σ 0)) (σ 0) (a0, a1, a2, a3, ())) (Q a0 a1 a2 a3) := fun a0 a1 a2 a3 => Tot.loop0 (L := fun k => B_s_allIn_L0 k (F_Z53 k)) (B := fun k g => u_s_allIn_L0 (B_s_allIn_L0b k (F_Z53 k) g)) (Q := u_s_allIn_L0 Q) (fun _ _ _ => rfl) (u_s_allIn_L0 I) (u_s_allIn_L0 μ)
    (fun t ht again hag h => step t.1 t.2.1 t.2.2.1 t.2.2.2.1 ht again hag fun y0 y1 y2 y3 => h (y0, y1, y2, y3, ())) (a0, a1, a2, a3, ())
abbrev R_s_isKey : Type := Option ((Bool × Unit) × (Unit))
abbrev C_s_isKey : Type := Int → Int → R_s_isKey
def B_s_isKey (k : Nat) (n_0 n_1 : Int) : R_s_isKey :=
  bif (n_0 == 0) then
    some ((true, ()), ())
  else
    some (((n_0 == 1), ()), ())
def F_s_isKey : Nat → C_s_isKey
  | 0, _, _ => none
  | k + 1, n_0, n_1 => B_s_isKey k n_0 n_1
theorem tot_s_isKey {n_0 n_1 : _} {Q : _ → Prop} (h : Tot (fun σ => B_s_isKey (σ 0) n_0 n_1) Q) : Tot (fun σ => F_s_isKey (σ 0) n_0 n_1) Q :=
  Tot.call (F := fun k => F_s_isKey k n_0 n_1) (B := fun k => B_s_isKey k n_0 n_1) (fun k => rfl) h
abbrev R_Z59 : Type := Option ((Bool × Unit) × (Unit))
abbrev C_Z59 : Type := Int → Int → Int → Int → R_Z59
def B_Z59 (k : Nat) (a_0 a_1 b_0 b_1 : Int) : R_Z59 :=
  bif (a_0 == b_0) then
    some (((a_1 == b_1), ()), ())
  else
    some ((false, ()), ())
def F_Z59 : Nat → C_Z59
  | 0, _, _, _, _ => none
  | k + 1, a_0, a_1, b_0, b_1 => B_Z59 k a_0 a_1 b_0 b_1
theorem tot_Z59 {a_0 a_1 b_0 b_1 : _} {Q : _ → Prop} (h : Tot (fun σ => B_Z59 (σ 0) a_0 a_1 b_0 b_1) Q) : Tot (fun σ => F_Z59 (σ 0) a_0 a_1 b_0 b_1) Q :=
  Tot.call (F := fun k => F_Z59 k a_0 a_1 b_0 b_1) (B := fun k => B_Z59 k a_0 a_1 b_0 b_1) (fun k => rfl) h
abbrev R_Z39 : Type := Option ((Bool × Unit) × (Unit))
abbrev C_Z39 : Type := (List (Int × Int × List Int)) → Int → Int → Int → List Int → R_Z39
abbrev T_Z39_L0 : Type := ((List (Int × Int × List Int)) × Int × Unit) × (Int × Int × List Int × Unit) × Int × Int × Unit
abbrev T_Z39_L1 : Type := ((List (Int × Int × List Int)) × Int × Unit) × (Int × Int × List Int × Unit) × Int × Unit
def B_Z39_L0b (k : Nat) (c_s_isKey : C_s_isKey) (c_Z59 : C_Z59) (again1 : T_Z39_L1 → R_Z39) (again0 : T_Z39_L0 → R_Z39) (g_Nodes : List (Int × Int × List Int)) (g_Root n_Kind n_Value : Int) (n_Kids : List Int) (i k6 : Int) : R_Z39 :=
  bif decide (k6 < i) then
    chk (inb i n_Kids.length) <|
    chk (inb (rdx (0 : Int) n_Kids i) g_Nodes.length) <|
    chk (inb k6 n_Kids.length) <|
    chk (inb (rdx (0 : Int) n_Kids k6) g_Nodes.length) <|
    (c_Z59 ((rdx ((0 : Int), ((0 : Int), ([] : List Int))) g_Nodes (rdx (0 : Int) n_Kids i)).1) (((rdx ((0 : Int), ((0 : Int), ([] : List Int))) g_Nodes (rdx (0 : Int) n_Kids i)).2).1) ((rdx ((0 : Int), ((0 : Int), ([] : List Int))) g_Nodes (rdx (0 : Int) n_Kids k6)).1) (((rdx ((0 : Int), ((0 : Int), ([] : List Int))) g_Nodes (rdx (0 : Int) n_Kids k6)).2).1)).bind fun r48 =>
    bif r48.1.1 then
      some ((false, ()), ())
    else
      again0 ((g_Nodes, g_Root, ()), (n_Kind, n_Value, n_Kids, ()), i, w64 (k6 + 2), ())
  else
    again1 ((g_Nodes, g_Root, ()), (n_Kind, n_Value, n_Kids, ()), w64 (i + 2), ())
def B_Z39_L0 (k : Nat) (c_s_isKey : C_s_isKey) (c_Z59 : C_Z59) (again1 : T_Z39_L1 → R_Z39) (n : Nat) (t : T_Z39_L0) : R_Z39 :=
  lfix n (fun again t => B_Z39_L0b k c_s_isKey c_Z59 again1 again t.1.1 t.1.2.1 t.2.1.1 t.2.1.2.1 t.2.1.2.2.1 t.2.2.1 t.2.2.2.1) t
def B_Z39_L1b (k : Nat) (c_s_isKey : C_s_isKey) (c_Z59 : C_Z59) (again1 : T_Z39_L1 → R_Z39) (g_Nodes : List (Int × Int × List Int)) (g_Root n_Kind n_Value : Int) (n_Kids : List Int) (i : Int) : R_Z39 :=
  bif decide (i < (len n_Kids)) then
    chk (inb i n_Kids.length) <|
    chk (inb (rdx (0 : Int) n_Kids i) g_Nodes.length) <|
    (c_s_isKey ((rdx ((0 : Int), ((0 : Int), ([] : List Int))) g_Nodes (rdx (0 : Int) n_Kids i)).1) (((rdx ((0 : Int), ((0 : Int), ([] : List Int))) g_Nodes (rdx (0 : Int) n_Kids i)).2).1)).bind fun r23 =>
    bif (!r23.1.1) then
      some ((false, ()), ())
    else
      B_Z39_L0 k c_s_isKey c_Z59 again1 k ((g_Nodes, g_Root, ()), (n_Kind, n_Value, n_Kids, ()), i, 0, ())
  else
    some (((((len n_Kids).tmod 2) == 0), ()), ())
def B_Z39_L1 (k : Nat) (c_s_isKey : C_s_isKey) (c_Z59 : C_Z59) (n : Nat) (t : T_Z39_L1) : R_Z39 :=
  lfix n (fun again t => B_Z39_L1b k c_s_isKey c_Z59 again t.1.1 t.1.2.1 t.2.1.1 t.2.1.2.1 t.2.1.2.2.1 t.2.2.1) t
def B_Z39 (k : Nat) (c_s_isKey : C_s_isKey) (c_Z59 : C_Z59) (g_0 : List (Int × Int × List Int)) (g_1 n_0 n_1 : Int) (n_2 : List Int) : R_Z39 :=
  B_Z39_L1 k c_s_isKey c_Z59 k ((g_0, g_1, ()), (n_0, n_1, n_2, ()), 0, ())
def F_Z39 : Nat → C_Z39
  | 0, _, _, _, _, _ => none
  | k + 1, g_0, g_1, n_0, n_1, n_2 => B_Z39 k (F_s_isKey k) (F_Z59 k) g_0 g_1 n_0 n_1 n_2
theorem tot_Z39 {g_0 g_1 n_0 n_1 n_2 : _} {Q : _ → Prop} (h : Tot (fun σ => B_Z39 (σ 0) (F_s_isKey (σ 0)) (F_Z59 (σ 0)) g_0 g_1 n_0 n_1 n_2) Q) : Tot (fun σ => F_Z39 (σ 0) g_0 g_1 n_0 n_1 n_2) Q :=
  Tot.call (F := fun k => F_Z39 k g_0 g_1 n_0 n_1 n_2) (B := fun k => B_Z39 k (F_s_isKey k) (F_Z59 k) g_0 g_1 n_0 n_1 n_2) (fun k => rfl) h
abbrev A_Z39_L0 (Z : Type) : Type := (List (Int × Int × List Int)) → Int → Int → Int → List Int → Int → Int → Z
abbrev u_Z39_L0 {Z : Type} (f : A_Z39_L0 Z) (t : T_Z39_L0) : Z := f t.1.1 t.1.2.1 t.2.1.1 t.2.1.2.1 t.2.1.2.2.1 t.2.2.1 t.2.2.2.1
theorem loop_Z39_L0 {again1 : (Nat → Nat) → T_Z39_L1 → R_Z39} (hag1 : Dep 2 again1) {Q : A_Z39_L0 (((Bool × Unit) × (Unit)) → Prop)} (I : A_Z39_L0 Prop) (μ : A_Z39_L0 Nat)
    (step : ∀ a0 a1 a2 a3 a4 a5 a6, I a0 a1 a2 a3 a4 a5 a6 → ∀ again : (Nat → Nat) → T_Z39_L0 → R_Z39, Dep 3 again → (∀ y0 y1 y2 y3 y4 y5 y6, I y0 y1 y2 y3 y4 y5 y6 → μ y0 y1 y2 y3 y4 y5 y6 < μ a0 a1 a2 a3 a4 a5 a6 → Tot (fun σ => again σ ((y0, y1, ()), (y2, y3, y4, ()), y5, y6, ())) (Q y0 y1 y2 y3 y4 y5 y6)) →
      Tot (fun σ => B_Z39_L0b (σ 0) (F_s_isKey (σ 0)) (F_Z59 (σ 0)) (again1 σ) (again σ) a0 a1 a2 a3 a4 a5 a6) (Q a0 a1 a2 a3 a4 a5 a6)) :
    ∀ a0 a1 a2 a3 a4 a5 a6, I a0 a1 a2 a3 a4 a5 a6 → Tot (fun σ => B_Z39_L0 (σ 0) (F_s_isKey (σ 0)) (F_Z59 (σ 0)) (again1 σ) (σ 0) ((a0, a1, ()), (a2, a3, a4, ()), a5, a6, ())) (Q a0 a1 a2 a3 a4 a5 a6) := fun a0 a1 a2 a3 a4 a5 a6 => Tot.loop (L := fun σ n t => B_Z39_L0 (σ 0) (F_s_isKey (σ 0)) (F_Z59 (σ 0)) (again1 σ) n t) (B := fun σ g => u_Z39_L0 (B_Z39_L0b (σ 0) (F_s_isKey (σ 0)) (F_Z59 (σ 0)) (again1 σ) g)) (Q := u_Z39_L0 Q) 2 (by decide)
    (fun s s' h => by have e0 : s 0 = s' 0 := h 0 (by decide); simp only [e0, hag1 s s' h]) (fun s s' h => by have e0 : s 0 = s' 0 := h 0 (by decide); simp only [e0, hag1 s s' h]) (fun _ _ _ => rfl) (u_Z39_L0 I) (u_Z39_L0 μ)
    (fun t ht again hag h => step t.1.1 t.1.2.1 t.2.1.1 t.2.1.2.1 t.2.1.2.2.1 t.2.2.1 t.2.2.2.1 ht again hag fun y0 y1 y2 y3 y4 y5 y6 => h ((y0, y1, ()), (y2, y3, y4, ()), y5, y6, ())) ((a0, a1, ()), (a2, a3, a4, ()), a5, a6, ())
abbrev A_Z39_L1 (Z : Type) : Type := (List (Int × Int × List Int)) → Int → Int → Int → List Int → Int → Z
abbrev u_Z39_L1 {Z : Type} (f : A_Z39_L1 Z) (t : T_Z39_L1) : Z := f t.1.1 t.1.2.1 t.2.1.1 t.2.1.2.1 t.2.1.2.2.1 t.2.2.1
theorem loop_Z39_L1 {Q : A_Z39_L1 (((Bool × Unit) × (Unit)) → Prop)} (I : A_Z39_L1 Prop) (μ : A_Z39_L1 Nat)
    (step : ∀ a0 a1 a2 a3 a4 a5, I a0 a1 a2 a3 a4 a5 → ∀ again : (Nat → Nat) → T_Z39_L1 → R_Z39, Dep 2 again → (∀ y0 y1 y2 y3 y4 y5, I y0 y1 y2 y3 y4 y5 → μ y0 y1 y2 y3 y4 y5 < μ a0 a1 a2 a3 a4 a5 → Tot (fun σ => again σ ((y0, y1, ()), (y2, y3, y4, ()), y5, ())) (Q y0 y1 y2 y3 y4 y5)) →
      Tot (fun σ => B_Z39_L1b (σ 0) (F_s_isKey (σ 0)) (F_Z59 (σ 0)) (again σ) a0 a1 a2 a3 a4 a5) (Q a0 a1 a2 a3 a4 a5)) :
    ∀ a0 a1 a2 a3 a4 a5, I a0 a1 a2 a3 a4 a5 → Tot (fun σ => B_Z39_L1 (σ 0) (F_s_isKey (σ 0)) (F_Z59 (σ 0)) (σ 0) ((a0, a1, ()), (a2, a3, a4, ()), a5, ())) (Q a0 a1 a2 a3 a4 a5) := fun a0 a1 a2 a3 a4 a5 => Tot.loop0 (L := fun k => B_Z39_L1 k (F_s_isKey k) (F_Z59 k)) (B := fun k g => u_Z39_L1 (B_Z39_L1b k (F_s_isKey k) (F_Z59 k) g)) (Q := u_Z39_L1 Q) (fun _ _ _ => rfl) (u_Z39_L1 I) (u_Z39_L1 μ)
    (fun t ht again hag h => step t.1.1 t.1.2.1 t.2.1.1 t.2.1.2.1 t.2.1.2.2.1 t.2.2.1 ht again hag fun y0 y1 y2 y3 y4 y5 => h ((y0, y1, ()), (y2, y3, y4, ()), y5, ())) ((a0, a1, ()), (a2, a3, a4, ()), a5, ())
abbrev R_Z36 : Type := Option ((Bool × Unit) × (Unit))
abbrev C_Z36 : Type := (List (Int × Int × List Int)) → Int → Int → Int → List Int → R_Z36
def B_Z36_J1 (k : Nat) (c_s_allIn : C_s_allIn) (c_Z53 : C_Z53) (c_Z39 : C_Z39) (g_Nodes : List (Int × Int × List Int)) (g_Root n_Kind n_Value : Int) (n_Kids : List Int) (t20 : Int) (t43 : Bool) : R_Z36 :=
  bif t43 then
    some (((n_Value == 0), ()), ())
  else
    bif (t20 == 4) then
      bif (n_Value == 0) then
        (c_Z39 g_Nodes g_Root n_Kind n_Value n_Kids).bind fun r57 =>
        some ((r57.1.1, ()), ())
      else
        some ((false, ()), ())
    else
      bif (t20 == 5) then
        (c_Z53 n_Value 0 9).bind fun r63 =>
        bif r63.1.1 then
          some ((decide ((len n_Kids) ≤ 1), ()), ())
        else
          some ((false, ()), ())
      else
        some ((false, ()), ())
def B_Z36_J0 (k : Nat) (c_s_allIn : C_s_allIn) (c_Z53 : C_Z53) (c_Z39 : C_Z39) (g_Nodes : List (Int × Int × List Int)) (g_Root n_Kind n_Value : Int) (n_Kids : List Int) (t18 : Bool) : R_Z36 :=
  bif t18 then
    some ((false, ()), ())
  else
    bif (n_Kind == 0) then
      (c_Z53 n_Value 0 999).bind fun r25 =>
      bif r25.1.1 then
        some ((((len n_Kids) == 0), ()), ())
      else
        some ((false, ()), ())
    else
      bif (n_Kind == 1) then
        (c_Z53 n_Value 0 9).bind fun r36 =>
        bif r36.1.1 then
          some ((((len n_Kids) == 0), ()), ())
        else
          some ((false, ()), ())
      else
        bif (n_Kind == 2) then
          jn (fun t => B_Z36_J1 k c_s_allIn c_Z53 c_Z39 t.1.1 t.1.2.1 t.2.1.1 t.2.1.2.1 t.2.1.2.2.1 t.2.2.1 t.2.2.2.1) ((g_Nodes, g_Root, ()), (n_Kind, n_Value, n_Kids, ()), n_Kind, (n_Kind == 2), ())
        else
          jn (fun t => B_Z36_J1 k c_s_allIn c_Z53 c_Z39 t.1.1 t.1.2.1 t.2.1.1 t.2.1.2.1 t.2.1.2.2.1 t.2.2.1 t.2.2.2.1) ((g_Nodes, g_Root, ()), (n_Kind, n_Value, n_Kids, ()), n_Kind, (n_Kind == 3), ())
def B_Z36 (k : Nat) (c_s_allIn : C_s_allIn) (c_Z53 : C_Z53) (c_Z39 : C_Z39) (g_0 : List (Int × Int × List Int)) (g_1 n_0 n_1 : Int) (n_2 : List Int) : R_Z36 :=
  bif decide ((len n_2) > 6) then
    jn (fun t => B_Z36_J0 k c_s_allIn c_Z53 c_Z39 t.1.1 t.1.2.1 t.2.1.1 t.2.1.2.1 t.2.1.2.2.1 t.2.2.1) ((g_0, g_1, ()), (n_0, n_1, n_2, ()), true, ())
  else
    (c_s_allIn n_2 0 (w64 ((len g_0) - 1))).bind fun r16 =>
    jn (fun t => B_Z36_J0 k c_s_allIn c_Z53 c_Z39 t.1.1 t.1.2.1 t.2.1.1 t.2.1.2.1 t.2.1.2.2.1 t.2.2.1) ((g_0, g_1, ()), (n_0, n_1, n_2, ()), (!r16.1.1), ())
def F_Z36 : Nat → C_Z36
  | 0, _, _, _, _, _ => none
  | k + 1, g_0, g_1, n_0, n_1, n_2 => B_Z36 k (F_s_allIn k) (F_Z53 k) (F_Z39 k) g_0 g_1 n_0 n_1 n_2
theorem tot_Z36 {g_0 g_1 n_0 n_1 n_2 : _} {Q : _ → Prop} (h : Tot (fun σ => B_Z36 (σ 0) (F_s_allIn (σ 0)) (F_Z53 (σ 0)) (F_Z39 (σ 0)) g_0 g_1 n_0 n_1 n_2) Q) : Tot (fun σ => F_Z36 (σ 0) g_0 g_1 n_0 n_1 n_2) Q :=
  Tot.call (F := fun k => F_Z36 k g_0 g_1 n_0 n_1 n_2) (B := fun k => B_Z36 k (F_s_allIn k) (F_Z53 k) (F_Z39 k) g_0 g_1 n_0 n_1 n_2) (fun k => rfl) h
abbrev R_Z47 : Type := Option ((List Int × Unit) × (Unit))
abbrev C_Z47 : Type := List Int → R_Z47
def B_Z47 (k : Nat) (list : List Int) : R_Z47 :=
  chk (room ([] : List Int).length list.length) <|
  some ((list, ()), ())
def F_Z47 : Nat → C_Z47
  | 0, _ => none
  | k + 1, list => B_Z47 k list
theorem tot_Z47 {list : _} {Q : _ → Prop} (h : Tot (fun σ => B_Z47 (σ 0) list) Q) : Tot (fun σ => F_Z47 (σ 0) list) Q :=
  Tot.call (F := fun k => F_Z47 k list) (B := fun k => B_Z47 k list) (fun k => rfl) h
abbrev R_Z54 : Type := Option ((Int × Unit) × (Unit))
abbrev C_Z54 : Type := List Int → Int → R_Z54
abbrev T_Z54_L0 : Type := List Int × Int × Int × Unit
def B_Z54_L0b (k : Nat) (again0 : T_Z54_L0 → R_Z54) (list : List Int) (n1 i : Int) : R_Z54 :=
  bif decide (i < (len list)) then
    chk (inb i list.length) <|
    bif ((rdx (0 : Int) list i) == n1) then
      some ((i, ()), ())
    else
      again0 (list, n1, w64 (i + 1), ())
  else
    some (((-1), ()), ())
def B_Z54_L0 (k : Nat) (n : Nat) (t : T_Z54_L0) : R_Z54 :=
  lfix n (fun again t => B_Z54_L0b k again t.1 t.2.1 t.2.2.1) t
def B_Z54 (k : Nat) (list : List Int) (n1 : Int) : R_Z54 :=
  B_Z54_L0 k k (list, n1, 0, ())
def F_Z54 : Nat → C_Z54
  | 0, _, _ => none
  | k + 1, list, n1 => B_Z54 k list n1
theorem tot_Z54 {list n1 : _} {Q : _ → Prop} (h : Tot (fun σ => B_Z54 (σ 0) list n1) Q) : Tot (fun σ => F_Z54 (σ 0) list n1) Q :=
  Tot.call (F := fun k => F_Z54 k list n1) (B := fun k => B_Z54 k list n1) (fun k => rfl) h
abbrev A_Z54_L0 (Z : Type) : Type := List Int → Int → Int → Z
abbrev u_Z54_L0 {Z : Type} (f : A_Z54_L0 Z) (t : T_Z54_L0) : Z := f t.1 t.2.1 t.2.2.1
theorem loop_Z54_L0 {Q : A_Z54_L0 (((Int × Unit) × (Unit)) → Prop)} (I : A_Z54_L0 Prop) (μ : A_Z54_L0 Nat)
    (step : ∀ a0 a1 a2, I a0 a1 a2 → ∀ again : (Nat → Nat) → T_Z54_L0 → R_Z54, Dep 2 again → (∀ y0 y1 y2, I y0 y1 y2 → μ y0 y1 y2 < μ a0 a1 a2 → Tot (fun σ => again σ (y0, y1, y2, ())) (Q y0 y1 y2)) →
      Tot (fun σ => B_Z54_L0b (σ 0) (again σ) a0 a1 a2) (Q a0 a1 a2)) :
    ∀ a0 a1 a2, I a0 a1 a2 → Tot (fun σ => B_Z54_L0 (σ 0) (σ 0) (a0, a1, a2, ())) (Q a0 a1 a2) := fun a0 a1 a2 => Tot.loop0 (L := fun k => B_Z54_L0 k) (B := fun k g => u_Z54_L0 (B_Z54_L0b k g)) (Q := u_Z54_L0 Q) (fun _ _ _ => rfl) (u_Z54_L0 I) (u_Z54_L0 μ)
    (fun t ht again hag h => step t.1 t.2.1 t.2.2.1 ht again hag fun y0 y1 y2 => h (y0, y1, y2, ())) (a0, a1, a2, ())
abbrev R_Z32 : Type := Option ((List Int × Unit) × (Unit))
abbrev C_Z32 : Type := (List (Int × Int × List Int)) → Int → Int → R_Z32
abbrev T_Z32_L1 : Type := ((List (Int × Int × List Int)) × Int × Unit) × List Int × List Int × Int × Unit
def B_Z32_J0 (k : Nat) (c_Z47 : C_Z47) (c_Z54 : C_Z54) (again1 : T_Z32_L1 → R_Z32) (g_Nodes : List (Int × Int × List Int)) (g_Root : Int) (out list : List Int) (k7 : Int) : R_Z32 :=
  again1 ((g_Nodes, g_Root, ()), out, list, w64 (k7 + 1), ())
def B_Z32_L1b (k : Nat) (c_Z47 : C_Z47) (c_Z54 : C_Z54) (again1 : T_Z32_L1 → R_Z32) (g_Nodes : List (Int × Int × List Int)) (g_Root : Int) (out list : List Int) (k7 : Int) : R_Z32 :=
  bif decide (k7 < (len list)) then
    chk (inb k7 list.length) <|
    chk (decide (k7.toNat < list.length)) <|
    (c_Z54 out (list.getD k7.toNat (0 : Int))).bind fun r27 =>
    bif decide (r27.1.1 < 0) then
      chk (inb k7 list.length) <|
      chk (decide (k7.toNat < list.length)) <|
      chk (room out.length ([(list.getD k7.toNat (0 : Int))]).length) <|
      chk (inb k7 list.length) <|
      chk (decide (k7.toNat < list.length)) <|
      chk (inb (list.getD k7.toNat (0 : Int)) g_Nodes.length) <|
      let v45 : Bool := (((rdx ((0 : Int), ((0 : Int), ([] : List Int))) g_Nodes (list.getD k7.toNat (0 : Int))).1) == 2)
      bif v45 then
        chk (inb k7 list.length) <|
        chk (decide (k7.toNat < list.length)) <|
        chk (inb (list.getD k7.toNat (0 : Int)) g_Nodes.length) <|
        chk (room list.length (((rdx ((0 : Int), ((0 : Int), ([] : List Int))) g_Nodes (list.getD k7.toNat (0 : Int))).2).2).length) <|
        jn (fun t => B_Z32_J0 k c_Z47 c_Z54 again1 t.1.1 t.1.2.1 t.2.1 t.2.2.1 t.2.2.2.1) ((g_Nodes, g_Root, ()), (out ++ [(list.getD k7.toNat (0 : Int))]), (list ++ ((rdx ((0 : Int), ((0 : Int), ([] : List Int))) g_Nodes (list.getD k7.toNat (0 : Int))).2).2), k7, ())
      else
        jn (fun t => B_Z32_J0 k c_Z47 c_Z54 again1 t.1.1 t.1.2.1 t.2.1 t.2.2.1 t.2.2.2.1) ((g_Nodes, g_Root, ()), (out ++ [(list.getD k7.toNat (0 : Int))]), list, k7, ())
    else
      jn (fun t => B_Z32_J0 k c_Z47 c_Z54 again1 t.1.1 t.1.2.1 t.2.1 t.2.2.1 t.2.2.2.1) ((g_Nodes, g_Root, ()), out, list, k7, ())
  else
    some ((out, ()), ())
def B_Z32_L1 (k : Nat) (c_Z47 : C_Z47) (c_Z54 : C_Z54) (n : Nat) (t : T_Z32_L1) : R_Z32 :=
  lfix n (fun again t => B_Z32_L1b k c_Z47 c_Z54 again t.1.1 t.1.2.1 t.2.1 t.2.2.1 t.2.2.2.1) t
def B_Z32 (k : Nat) (c_Z47 : C_Z47) (c_Z54 : C_Z54) (g_0 : List (Int × Int × List Int)) (g_1 at1 : Int) : R_Z32 :=
  chk (inb at1 g_0.length) <|
  (c_Z47 (((rdx ((0 : Int), ((0 : Int), ([] : List Int))) g_0 at1).2).2)).bind fun r15 =>
  B_Z32_L1 k c_Z47 c_Z54 k ((g_0, g_1, ()), [], r15.1.1, 0, ())
def F_Z32 : Nat → C_Z32
  | 0, _, _, _ => none
  | k + 1, g_0, g_1, at1 => B_Z32 k (F_Z47 k) (F_Z54 k) g_0 g_1 at1
theorem tot_Z32 {g_0 g_1 at1 : _} {Q : _ → Prop} (h : Tot (fun σ => B_Z32 (σ 0) (F_Z47 (σ 0)) (F_Z54 (σ 0)) g_0 g_1 at1) Q) : Tot (fun σ => F_Z32 (σ 0) g_0 g_1 at1) Q :=
  Tot.call (F := fun k => F_Z32 k g_0 g_1 at1) (B := fun k => B_Z32 k (F_Z47 k) (F_Z54 k) g_0 g_1 at1) (fun k => rfl) h
abbrev A_Z32_L1 (Z : Type) : Type := (List (Int × Int × List Int)) → Int → List Int → List Int → Int → Z
abbrev u_Z32_L1 {Z : Type} (f : A_Z32_L1 Z) (t : T_Z32_L1) : Z := f t.1.1 t.1.2.1 t.2.1 t.2.2.1 t.2.2.2.1
theorem loop_Z32_L1 {Q : A_Z32_L1 (((List Int × Unit) × (Unit)) → Prop)} (I : A_Z32_L1 Prop) (μ : A_Z32_L1 Nat)
    (step : ∀ a0 a1 a2 a3 a4, I a0 a1 a2 a3 a4 → ∀ again : (Nat → Nat) → T_Z32_L1 → R_Z32, Dep 2 again → (∀ y0 y1 y2 y3 y4, I y0 y1 y2 y3 y4 → μ y0 y1 y2 y3 y4 < μ a0 a1 a2 a3 a4 → Tot (fun σ => again σ ((y0, y1, ()), y2, y3, y4, ())) (Q y0 y1 y2 y3 y4)) →
      Tot (fun σ => B_Z32_L1b (σ 0) (F_Z47 (σ 0)) (F_Z54 (σ 0)) (again σ) a0 a1 a2 a3 a4) (Q a0 a1 a2 a3 a4)) :
    ∀ a0 a1 a2 a3 a4, I a0 a1 a2 a3 a4 → Tot (fun σ => B_Z32_L1 (σ 0) (F_Z47 (σ 0)) (F_Z54 (σ 0)) (σ 0) ((a0, a1, ()), a2, a3, a4, ())) (Q a0 a1 a2 a3 a4) := fun a0 a1 a2 a3 a4 => Tot.loop0 (L := fun k => B_Z32_L1 k (F_Z47 k) (F_Z54 k)) (B := fun k g => u_Z32_L1 (B_Z32_L1b k (F_Z47 k) (F_Z54 k) g)) (Q := u_Z32_L1 Q) (fun _ _ _ => rfl) (u_Z32_L1 I) (u_Z32_L1 μ)
    (fun t ht again hag h => step t.1.1 t.1.2.1 t.2.1 t.2.2.1 t.2.2.2.1 ht again hag fun y0 y1 y2 y3 y4 => h ((y0, y1, ()), y2, y3, y4, ())) ((a0, a1, ()), a2, a3, a4, ())
abbrev R_Z30 : Type := Option ((Bool × Unit) × (Unit))
abbrev C_Z30 : Type := (List (Int × Int × List Int)) → Int → R_Z30
abbrev T_Z30_L3 : Type := ((List (Int × Int × List Int)) × Int × Unit) × Int × Unit
abbrev T_Z30_L1 : Type := ((List (Int × Int × List Int)) × Int × Unit) × Int × Unit
def B_Z30_J2 (k : Nat) (c_Z53 : C_Z53) (c_Z36 : C_Z36) (c_Z32 : C_Z32) (c_Z54 : C_Z54) (again3 : T_Z30_L3 → R_Z30) (g_Nodes : List (Int × Int × List Int)) (g_Root i : Int) (t56 : Bool) : R_Z30 :=
  bif t56 then
    some ((false, ()), ())
  else
    again3 ((g_Nodes, g_Root, ()), w64 (i + 1), ())
def B_Z30_L3b (k : Nat) (c_Z53 : C_Z53) (c_Z36 : C_Z36) (c_Z32 : C_Z32) (c_Z54 : C_Z54) (again3 : T_Z30_L3 → R_Z30) (g_Nodes : List (Int × Int × List Int)) (g_Root i : Int) : R_Z30 :=
  bif decide (i < (len g_Nodes)) then
    chk (inb i g_Nodes.length) <|
    bif (((rdx ((0 : Int), ((0 : Int), ([] : List Int))) g_Nodes i).1) == 2) then
      (c_Z32 g_Nodes g_Root i).bind fun r52 =>
      (c_Z54 r52.1.1 i).bind fun r54 =>
      jn (fun t => B_Z30_J2 k c_Z53 c_Z36 c_Z32 c_Z54 again3 t.1.1 t.1.2.1 t.2.1 t.2.2.1) ((g_Nodes, g_Root, ()), i, decide (r54.1.1 ≥ 0), ())
    else
      jn (fun t => B_Z30_J2 k c_Z53 c_Z36 c_Z32 c_Z54 again3 t.1.1 t.1.2.1 t.2.1 t.2.2.1) ((g_Nodes, g_Root, ()), i, false, ())
  else
    some ((true, ()), ())
def B_Z30_L3 (k : Nat) (c_Z53 : C_Z53) (c_Z36 : C_Z36) (c_Z32 : C_Z32) (c_Z54 : C_Z54) (n : Nat) (t : T_Z30_L3) : R_Z30 :=
  lfix n (fun again t => B_Z30_L3b k c_Z53 c_Z36 c_Z32 c_Z54 again t.1.1 t.1.2.1 t.2.1) t
def B_Z30_L1b (k : Nat) (c_Z53 : C_Z53) (c_Z36 : C_Z36) (c_Z32 : C_Z32) (c_Z54 : C_Z54) (again1 : T_Z30_L1 → R_Z30) (g_Nodes : List (Int × Int × List Int)) (g_Root i : Int) : R_Z30 :=
  bif decide (i < (len g_Nodes)) then
    chk (inb i g_Nodes.length) <|
    (c_Z36 g_Nodes g_Root ((rdx ((0 : Int), ((0 : Int), ([] : List Int))) g_Nodes i).1) (((rdx ((0 : Int), ((0 : Int), ([] : List Int))) g_Nodes i).2).1) (((rdx ((0 : Int), ((0 : Int), ([] : List Int))) g_Nodes i).2).2)).bind fun r33 =>
    bif (!r33.1.1) then
      some ((false, ()), ())
    else
      again1 ((g_Nodes, g_Root, ()), w64 (i + 1), ())
  else
    B_Z30_L3 k c_Z53 c_Z36 c_Z32 c_Z54 k ((g_Nodes, g_Root, ()), 0, ())
def B_Z30_L1 (k : Nat) (c_Z53 : C_Z53) (c_Z36 : C_Z36) (c_Z32 : C_Z32) (c_Z54 : C_Z54) (n : Nat) (t : T_Z30_L1) : R_Z30 :=
  lfix n (fun again t => B_Z30_L1b k c_Z53 c_Z36 c_Z32 c_Z54 again t.1.1 t.1.2.1 t.2.1) t
def B_Z30_J0 (k : Nat) (c_Z53 : C_Z53) (c_Z36 : C_Z36) (c_Z32 : C_Z32) (c_Z54 : C_Z54) (g_Nodes : List (Int × Int × List Int)) (g_Root : Int) (t19 : Bool) : R_Z30 :=
  bif t19 then
    some ((false, ()), ())
  else
    B_Z30_L1 k c_Z53 c_Z36 c_Z32 c_Z54 k ((g_Nodes, g_Root, ()), 0, ())
def B_Z30 (k : Nat) (c_Z53 : C_Z53) (c_Z36 : C_Z36) (c_Z32 : C_Z32) (c_Z54 : C_Z54) (g_0 : List (Int × Int × List Int)) (g_1 : Int) : R_Z30 :=
  (c_Z53 (len g_0) 1 12).bind fun r8 =>
  bif (!r8.1.1) then
    jn (fun t => B_Z30_J0 k c_Z53 c_Z36 c_Z32 c_Z54 t.1.1 t.1.2.1 t.2.1) ((g_0, g_1, ()), true, ())
  else
    (c_Z53 g_1 0 (w64 ((len g_0) - 1))).bind fun r17 =>
    jn (fun t => B_Z30_J0 k c_Z53 c_Z36 c_Z32 c_Z54 t.1.1 t.1.2.1 t.2.1) ((g_0, g_1, ()), (!r17.1.1), ())
def F_Z30 : Nat → C_Z30
  | 0, _, _ => none
  | k + 1, g_0, g_1 => B_Z30 k (F_Z53 k) (F_Z36 k) (F_Z32 k) (F_Z54 k) g_0 g_1
theorem tot_Z30 {g_0 g_1 : _} {Q : _ → Prop} (h : Tot (fun σ => B_Z30 (σ 0) (F_Z53 (σ 0)) (F_Z36 (σ 0)) (F_Z32 (σ 0)) (F_Z54 (σ 0)) g_0 g_1) Q) : Tot (fun σ => F_Z30 (σ 0) g_0 g_1) Q :=
  Tot.call (F := fun k => F_Z30 k g_0 g_1) (B := fun k => B_Z30 k (F_Z53 k) (F_Z36 k) (F_Z32 k) (F_Z54 k) g_0 g_1) (fun k => rfl) h
abbrev A_Z30_L3 (Z : Type) : Type := (List (Int × Int × List Int)) → Int → Int → Z
abbrev u_Z30_L3 {Z : Type} (f : A_Z30_L3 Z) (t : T_Z30_L3) : Z := f t.1.1 t.1.2.1 t.2.1
theorem loop_Z30_L3 {Q : A_Z30_L3 (((Bool × Unit) × (Unit)) → Prop)} (I : A_Z30_L3 Prop) (μ : A_Z30_L3 Nat)
    (step : ∀ a0 a1 a2, I a0 a1 a2 → ∀ again : (Nat → Nat) → T_Z30_L3 → R_Z30, Dep 2 again → (∀ y0 y1 y2, I y0 y1 y2 → μ y0 y1 y2 < μ a0 a1 a2 → Tot (fun σ => again σ ((y0, y1, ()), y2, ())) (Q y0 y1 y2)) →
      Tot (fun σ => B_Z30_L3b (σ 0) (F_Z53 (σ 0)) (F_Z36 (σ 0)) (F_Z32 (σ 0)) (F_Z54 (σ 0)) (again σ) a0 a1 a2) (Q a0 a1 a2)) :
    ∀ a0 a1 a2, I a0 a1 a2 → Tot (fun σ => B_Z30_L3 (σ 0) (F_Z53 (σ 0)) (F_Z36 (σ 0)) (F_Z32 (σ 0)) (F_Z54 (σ 0)) (σ 0) ((a0, a1, ()), a2, ())) (Q a0 a1 a2) := fun a0 a1 a2 => Tot.loop0 (L := fun k => B_Z30_L3 k (F_Z53 k) (F_Z36 k) (F_Z32 k) (F_Z54 k)) (B := fun k g => u_Z30_L3 (B_Z30_L3b k (F_Z53 k) (F_Z36 k) (F_Z32 k) (F_Z54 k) g)) (Q := u_Z30_L3 Q) (fun _ _ _ => rfl) (u_Z30_L3 I) (u_Z30_L3 μ)
    (fun t ht again hag h => step t.1.1 t.1.2.1 t.2.1 ht again hag fun y0 y1 y2 => h ((y0, y1, ()), y2, ())) ((a0, a1, ()), a2, ())
abbrev A_Z30_L1 (Z : Type) : Type := (List (Int × Int × List Int)) → Int → Int → Z
abbrev u_Z30_L1 {Z : Type} (f : A_Z30_L1 Z) (t : T_Z30_L1) : Z := f t.1.1 t.1.2.1 t.2.1
theorem loop_Z30_L1 {Q : A_Z30_L1 (((Bool × Unit) × (Unit)) → Prop)} (I : A_Z30_L1 Prop) (μ : A_Z30_L1 Nat)
    (step : ∀ a0 a1 a2, I a0 a1 a2 → ∀ again : (Nat → Nat) → T_Z30_L1 → R_Z30, Dep 2 again → (∀ y0 y1 y2, I y0 y1 y2 → μ y0 y1 y2 < μ a0 a1 a2 → Tot (fun σ => again σ ((y0, y1, ()), y2, ())) (Q y0 y1 y2)) →
      Tot (fun σ => B_Z30_L1b (σ 0) (F_Z53 (σ 0)) (F_Z36 (σ 0)) (F_Z32 (σ 0)) (F_Z54 (σ 0)) (again σ) a0 a1 a2) (Q a0 a1 a2)) :
    ∀ a0 a1 a2, I a0 a1 a2 → Tot (fun σ => B_Z30_L1 (σ 0) (F_Z53 (σ 0)) (F_Z36 (σ 0)) (F_Z32 (σ 0)) (F_Z54 (σ 0)) (σ 0) ((a0, a1, ()), a2, ())) (Q a0 a1 a2) := fun a0 a1 a2 => Tot.loop0 (L := fun k => B_Z30_L1 k (F_Z53 k) (F_Z36 k) (F_Z32 k) (F_Z54 k)) (B := fun k g => u_Z30_L1 (B_Z30_L1b k (F_Z53 k) (F_Z36 k) (F_Z32 k) (F_Z54 k) g)) (Q := u_Z30_L1 Q) (fun _ _ _ => rfl) (u_Z30_L1 I) (u_Z30_L1 μ)
    (fun t ht again hag h => step t.1.1 t.1.2.1 t.2.1 ht again hag fun y0 y1 y2 => h ((y0, y1, ()), y2, ())) ((a0, a1, ()), a2, ())
abbrev R_s_reach : Type := Option ((List Int × Unit) × (Unit))
abbrev C_s_reach : Type := (List (Int × Int × List Int)) → Int → Int → List Int → R_s_reach
abbrev T_s_reach_L0 : Type := Int × List Int × ((List (Int × Int × List Int)) × Int × Unit) × Int × Unit
def B_s_reach_L0b (k : Nat) (c_Z54 : C_Z54) (c_Z47 : C_Z47) (c_s_reach : C_s_reach) (again0 : T_s_reach_L0 → R_s_reach) (at1 : Int) (met : List Int) (g_Nodes : List (Int × Int × List Int)) (g_Root i : Int) : R_s_reach :=
  chk (inb at1 g_Nodes.length) <|
  bif decide (i < (len (((rdx ((0 : Int), ((0 : Int), ([] : List Int))) g_Nodes at1).2).2))) then
    chk (inb at1 g_Nodes.length) <|
    chk (inb i (((rdx ((0 : Int), ((0 : Int), ([] : List Int))) g_Nodes at1).2).2).length) <|
    (c_s_reach g_Nodes g_Root (rdx (0 : Int) (((rdx ((0 : Int), ((0 : Int), ([] : List Int))) g_Nodes at1).2).2) i) met).bind fun r40 =>
    again0 (at1, r40.1.1, (g_Nodes, g_Root, ()), w64 (i + 1), ())
  else
    some ((met, ()), ())
def B_s_reach_L0 (k : Nat) (c_Z54 : C_Z54) (c_Z47 : C_Z47) (c_s_reach : C_s_reach) (n : Nat) (t : T_s_reach_L0) : R_s_reach :=
  lfix n (fun again t => B_s_reach_L0b k c_Z54 c_Z47 c_s_reach again t.1 t.2.1 t.2.2.1.1 t.2.2.1.2.1 t.2.2.2.1) t
def B_s_reach (k : Nat) (c_Z54 : C_Z54) (c_Z47 : C_Z47) (c_s_reach : C_s_reach) (g_0 : List (Int × Int × List Int)) (g_1 at1 : Int) (met : List Int) : R_s_reach :=
  (c_Z54 met at1).bind fun r10 =>
  bif decide (r10.1.1 ≥ 0) then
    some ((met, ()), ())
  else
    (c_Z47 met).bind fun r14 =>
    chk (room r14.1.1.length ([at1]).length) <|
    B_s_reach_L0 k c_Z54 c_Z47 c_s_reach k (at1, (r14.1.1 ++ [at1]), (g_0, g_1, ()), 0, ())
def F_s_reach : Nat → C_s_reach
  | 0, _, _, _, _ => none
  | k + 1, g_0, g_1, at1, met => B_s_reach k (F_Z54 k) (F_Z47 k) (F_s_reach k) g_0 g_1 at1 met
theorem F_s_reach_succ (k : Nat) (g_0 : List (Int × Int × List Int)) (g_1 : Int) (at1 : Int) (met : List Int) : F_s_reach (k + 1) g_0 g_1 at1 met = B_s_reach k (F_Z54 k) (F_Z47 k) (F_s_reach k) g_0 g_1 at1 met := by rw [F_s_reach]
theorem tot_s_reach {g_0 g_1 at1 met : _} {Q : _ → Prop} (h : Tot (fun σ => B_s_reach (σ 0) (F_Z54 (σ 0)) (F_Z47 (σ 0)) (F_s_reach (σ 0)) g_0 g_1 at1 met) Q) : Tot (fun σ => F_s_reach (σ 0) g_0 g_1 at1 met) Q :=
  Tot.call (F := fun k => F_s_reach k g_0 g_1 at1 met) (B := fun k => B_s_reach k (F_Z54 k) (F_Z47 k) (F_s_reach k) g_0 g_1 at1 met) (fun k => F_s_reach_succ k g_0 g_1 at1 met) h
abbrev A_s_reach_L0 (Z : Type) : Type := Int → List Int → (List (Int × Int × List Int)) → Int → Int → Z
abbrev u_s_reach_L0 {Z : Type} (f : A_s_reach_L0 Z) (t : T_s_reach_L0) : Z := f t.1 t.2.1 t.2.2.1.1 t.2.2.1.2.1 t.2.2.2.1
theorem loop_s_reach_L0 {Q : A_s_reach_L0 (((List Int × Unit) × (Unit)) → Prop)} (I : A_s_reach_L0 Prop) (μ : A_s_reach_L0 Nat)
    (step : ∀ a0 a1 a2 a3 a4, I a0 a1 a2 a3 a4 → ∀ again : (Nat → Nat) → T_s_reach_L0 → R_s_reach, Dep 2 again → (∀ y0 y1 y2 y3 y4, I y0 y1 y2 y3 y4 → μ y0 y1 y2 y3 y4 < μ a0 a1 a2 a3 a4 → Tot (fun σ => again σ (y0, y1, (y2, y3, ()), y4, ())) (Q y0 y1 y2 y3 y4)) →
      Tot (fun σ => B_s_reach_L0b (σ 0) (F_Z54 (σ 0)) (F_Z47 (σ 0)) (F_s_reach (σ 0)) (again σ) a0 a1 a2 a3 a4) (Q a0 a1 a2 a3 a4)) :
    ∀ a0 a1 a2 a3 a4, I a0 a1 a2 a3 a4 → Tot (fun σ => B_s_reach_L0 (σ 0) (F_Z54 (σ 0)) (F_Z47 (σ 0)) (F_s_reach (σ 0)) (σ 0) (a0, a1, (a2, a3, ()), a4, ())) (Q a0 a1 a2 a3 a4) := fun a0 a1 a2 a3 a4 => Tot.loop0 (L := fun k => B_s_reach_L0 k (F_Z54 k) (F_Z47 k) (F_s_reach k)) (B := fun k g => u_s_reach_L0 (B_s_reach_L0b k (F_Z54 k) (F_Z47 k) (F_s_reach k) g)) (Q := u_s_reach_L0 Q) (fun _ _ _ => rfl) (u_s_reach_L0 I) (u_s_reach_L0 μ)
    (fun t ht again hag h => step t.1 t.2.1 t.2.2.1.1 t.2.2.1.2.1 t.2.2.2.1 ht again hag fun y0 y1 y2 y3 y4 => h (y0, y1, (y2, y3, ()), y4, ())) (a0, a1, (a2, a3, ()), a4, ())
abbrev R_Z57 : Type := Option ((Bool × Unit) × (Unit))
abbrev C_Z57 : Type := (List (Int × Int × List Int)) → Int → Int → R_Z57
abbrev T_Z57_L0 : Type := Int × ((List (Int × Int × List Int)) × Int × Unit) × List Int × Int × Unit
def B_Z57_L0b (k : Nat) (c_s_reach : C_s_reach) (c_Z54 : C_Z54) (again0 : T_Z57_L0 → R_Z57) (at1 : Int) (g_Nodes : List (Int × Int × List Int)) (g_Root : Int) (met : List Int) (i : Int) : R_Z57 :=
  chk (inb at1 g_Nodes.length) <|
  bif decide (i < (len (((rdx ((0 : Int), ((0 : Int), ([] : List Int))) g_Nodes at1).2).2))) then
    chk (inb at1 g_Nodes.length) <|
    chk (inb i (((rdx ((0 : Int), ((0 : Int), ([] : List Int))) g_Nodes at1).2).2).length) <|
    (c_s_reach g_Nodes g_Root (rdx (0 : Int) (((rdx ((0 : Int), ((0 : Int), ([] : List Int))) g_Nodes at1).2).2) i) met).bind fun r30 =>
    again0 (at1, (g_Nodes, g_Root, ()), r30.1.1, w64 (i + 1), ())
  else
    (c_Z54 met at1).bind fun r33 =>
    some ((decide (r33.1.1 ≥ 0), ()), ())
def B_Z57_L0 (k : Nat) (c_s_reach : C_s_reach) (c_Z54 : C_Z54) (n : Nat) (t : T_Z57_L0) : R_Z57 :=
  lfix n (fun again t => B_Z57_L0b k c_s_reach c_Z54 again t.1 t.2.1.1 t.2.1.2.1 t.2.2.1 t.2.2.2.1) t
def B_Z57 (k : Nat) (c_s_reach : C_s_reach) (c_Z54 : C_Z54) (g_0 : List (Int × Int × List Int)) (g_1 at1 : Int) : R_Z57 :=
  B_Z57_L0 k c_s_reach c_Z54 k (at1, (g_0, g_1, ()), [], 0, ())
def F_Z57 : Nat → C_Z57
  | 0, _, _, _ => none
  | k + 1, g_0, g_1, at1 => B_Z57 k (F_s_reach k) (F_Z54 k) g_0 g_1 at1
theorem tot_Z57 {g_0 g_1 at1 : _} {Q : _ → Prop} (h : Tot (fun σ => B_Z57 (σ 0) (F_s_reach (σ 0)) (F_Z54 (σ 0)) g_0 g_1 at1) Q) : Tot (fun σ => F_Z57 (σ 0) g_0 g_1 at1) Q :=
  Tot.call (F := fun k => F_Z57 k g_0 g_1 at1) (B := fun k => B_Z57 k (F_s_reach k) (F_Z54 k) g_0 g_1 at1) (fun k => rfl) h
abbrev A_Z57_L0 (Z : Type) : Type := Int → (List (Int × Int × List Int)) → Int → List Int → Int → Z
abbrev u_Z57_L0 {Z : Type} (f : A_Z57_L0 Z) (t : T_Z57_L0) : Z := f t.1 t.2.1.1 t.2.1.2.1 t.2.2.1 t.2.2.2.1
theorem loop_Z57_L0 {Q : A_Z57_L0 (((Bool × Unit) × (Unit)) → Prop)} (I : A_Z57_L0 Prop) (μ : A_Z57_L0 Nat)
    (step : ∀ a0 a1 a2 a3 a4, I a0 a1 a2 a3 a4 → ∀ again : (Nat → Nat) → T_Z57_L0 → R_Z57, Dep 2 again → (∀ y0 y1 y2 y3 y4, I y0 y1 y2 y3 y4 → μ y0 y1 y2 y3 y4 < μ a0 a1 a2 a3 a4 → Tot (fun σ => again σ (y0, (y1, y2, ()), y3, y4, ())) (Q y0 y1 y2 y3 y4)) →
      Tot (fun σ => B_Z57_L0b (σ 0) (F_s_reach (σ 0)) (F_Z54 (σ 0)) (again σ) a0 a1 a2 a3 a4) (Q a0 a1 a2 a3 a4)) :
    ∀ a0 a1 a2 a3 a4, I a0 a1 a2 a3 a4 → Tot (fun σ => B_Z57_L0 (σ 0) (F_s_reach (σ 0)) (F_Z54 (σ 0)) (σ 0) (a0, (a1, a2, ()), a3, a4, ())) (Q a0 a1 a2 a3 a4) := fun a0 a1 a2 a3 a4 => Tot.loop0 (L := fun k => B_Z57_L0 k (F_s_reach k) (F_Z54 k)) (B := fun k g => u_Z57_L0 (B_Z57_L0b k (F_s_reach k) (F_Z54 k) g)) (Q := u_Z57_L0 Q) (fun _ _ _ => rfl) (u_Z57_L0 I) (u_Z57_L0 μ)
    (fun t ht again hag h => step t.1 t.2.1.1 t.2.1.2.1 t.2.2.1 t.2.2.2.1 ht again hag fun y0 y1 y2 y3 y4 => h (y0, (y1, y2, ()), y3, y4, ())) (a0, (a1, a2, ()), a3, a4, ())
abbrev R_Z43 : Type := Option ((List Int × Unit) × (Unit))
abbrev C_Z43 : Type := (List (Int × Int × List Int)) → Int → R_Z43
abbrev T_Z43_L2 : Type := ((List (Int × Int × List Int)) × Int × Unit) × List Int × List Int × Int × Unit
def B_Z43_J1 (k : Nat) (c_Z30 : C_Z30) (c_s_reach : C_s_reach) (c_Z54 : C_Z54) (c_Z57 : C_Z57) (again2 : T_Z43_L2 → R_Z43) (g_Nodes : List (Int × Int × List Int)) (g_Root : Int) (out list : List Int) (i : Int) : R_Z43 :=
  again2 ((g_Nodes, g_Root, ()), out, list, w64 (i + 1), ())
def B_Z43_J0 (k : Nat) (c_Z30 : C_Z30) (c_s_reach : C_s_reach) (c_Z54 : C_Z54) (c_Z57 : C_Z57) (again2 : T_Z43_L2 → R_Z43) (g_Nodes : List (Int × Int × List Int)) (g_Root : Int) (out list : List Int) (i : Int) (t30 : Bool) : R_Z43 :=
  bif t30 then
    chk (room out.length ([i]).length) <|
    jn (fun t => B_Z43_J1 k c_Z30 c_s_reach c_Z54 c_Z57 again2 t.1.1 t.1.2.1 t.2.1 t.2.2.1 t.2.2.2.1) ((g_Nodes, g_Root, ()), (out ++ [i]), list, i, ())
  else
    jn (fun t => B_Z43_J1 k c_Z30 c_s_reach c_Z54 c_Z57 again2 t.1.1 t.1.2.1 t.2.1 t.2.2.1 t.2.2.2.1) ((g_Nodes, g_Root, ()), out, list, i, ())
def B_Z43_L2b (k : Nat) (c_Z30 : C_Z30) (c_s_reach : C_s_reach) (c_Z54 : C_Z54) (c_Z57 : C_Z57) (again2 : T_Z43_L2 → R_Z43) (g_Nodes : List (Int × Int × List Int)) (g_Root : Int) (out list : List Int) (i : Int) : R_Z43 :=
  bif decide (i < (len g_Nodes)) then
    (c_Z54 list i).bind fun r24 =>
    bif decide (r24.1.1 ≥ 0) then
      (c_Z57 g_Nodes g_Root i).bind fun r29 =>
      jn (fun t => B_Z43_J0 k c_Z30 c_s_reach c_Z54 c_Z57 again2 t.1.1 t.1.2.1 t.2.1 t.2.2.1 t.2.2.2.1 t.2.2.2.2.1) ((g_Nodes, g_Root, ()), out, list, i, r29.1.1, ())
    else
      jn (fun t => B_Z43_J0 k c_Z30 c_s_reach c_Z54 c_Z57 again2 t.1.1 t.1.2.1 t.2.1 t.2.2.1 t.2.2.2.1 t.2.2.2.2.1) ((g_Nodes, g_Root, ()), out, list, i, false, ())
  else
    some ((out, ()), ())
def B_Z43_L2 (k : Nat) (c_Z30 : C_Z30) (c_s_reach : C_s_reach) (c_Z54 : C_Z54) (c_Z57 : C_Z57) (n : Nat) (t : T_Z43_L2) : R_Z43 :=
  lfix n (fun again t => B_Z43_L2b k c_Z30 c_s_reach c_Z54 c_Z57 again t.1.1 t.1.2.1 t.2.1 t.2.2.1 t.2.2.2.1) t
def B_Z43 (k : Nat) (c_Z30 : C_Z30) (c_s_reach : C_s_reach) (c_Z54 : C_Z54) (c_Z57 : C_Z57) (g_0 : List (Int × Int × List Int)) (g_1 : Int) : R_Z43 :=
  (c_Z30 g_0 g_1).bind fun r7 =>
  bif (!r7.1.1) then
    some (([], ()), ())
  else
    (c_s_reach g_0 g_1 g_1 ([])).bind fun r14 =>
    B_Z43_L2 k c_Z30 c_s_reach c_Z54 c_Z57 k ((g_0, g_1, ()), [], r14.1.1, 0, ())
def F_Z43 : Nat → C_Z43
  | 0, _, _ => none
  | k + 1, g_0, g_1 => B_Z43 k (F_Z30 k) (F_s_reach k) (F_Z54 k) (F_Z57 k) g_0 g_1
theorem tot_Z43 {g_0 g_1 : _} {Q : _ → Prop} (h : Tot (fun σ => B_Z43 (σ 0) (F_Z30 (σ 0)) (F_s_reach (σ 0)) (F_Z54 (σ 0)) (F_Z57 (σ 0)) g_0 g_1) Q) : Tot (fun σ => F_Z43 (σ 0) g_0 g_1) Q :=
  Tot.call (F := fun k => F_Z43 k g_0 g_1) (B := fun k => B_Z43 k (F_Z30 k) (F_s_reach k) (F_Z54 k) (F_Z57 k) g_0 g_1) (fun k => rfl) h
abbrev A_Z43_L2 (Z : Type) : Type := (List (Int × Int × List Int)) → Int → List Int → List Int → Int → Z
abbrev u_Z43_L2 {Z : Type} (f : A_Z43_L2 Z) (t : T_Z43_L2) : Z := f t.1.1 t.1.2.1 t.2.1 t.2.2.1 t.2.2.2.1
theorem loop_Z43_L2 {Q : A_Z43_L2 (((List Int × Unit) × (Unit)) → Prop)} (I : A_Z43_L2 Prop) (μ : A_Z43_L2 Nat)
    (step : ∀ a0 a1 a2 a3 a4, I a0 a1 a2 a3 a4 → ∀ again : (Nat → Nat) → T_Z43_L2 → R_Z43, Dep 2 again → (∀ y0 y1 y2 y3 y4, I y0 y1 y2 y3 y4 → μ y0 y1 y2 y3 y4 < μ a0 a1 a2 a3 a4 → Tot (fun σ => again σ ((y0, y1, ()), y2, y3, y4, ())) (Q y0 y1 y2 y3 y4)) →
      Tot (fun σ => B_Z43_L2b (σ 0) (F_Z30 (σ 0)) (F_s_reach (σ 0)) (F_Z54 (σ 0)) (F_Z57 (σ 0)) (again σ) a0 a1 a2 a3 a4) (Q a0 a1 a2 a3 a4)) :
    ∀ a0 a1 a2 a3 a4, I a0 a1 a2 a3 a4 → Tot (fun σ => B_Z43_L2 (σ 0) (F_Z30 (σ 0)) (F_s_reach (σ 0)) (F_Z54 (σ 0)) (F_Z57 (σ 0)) (σ 0) ((a0, a1, ()), a2, a3, a4, ())) (Q a0 a1 a2 a3 a4) := fun a0 a1 a2 a3 a4 => Tot.loop0 (L := fun k => B_Z43_L2 k (F_Z30 k) (F_s_reach k) (F_Z54 k) (F_Z57 k)) (B := fun k g => u_Z43_L2 (B_Z43_L2b k (F_Z30 k) (F_s_reach k) (F_Z54 k) (F_Z57 k) g)) (Q := u_Z43_L2 Q) (fun _ _ _ => rfl) (u_Z43_L2 I) (u_Z43_L2 μ)
    (fun t ht again hag h => step t.1.1 t.1.2.1 t.2.1 t.2.2.1 t.2.2.2.1 ht again hag fun y0 y1 y2 y3 y4 => h ((y0, y1, ()), y2, y3, y4, ())) ((a0, a1, ()), a2, a3, a4, ())
abbrev R_Z45 : Type := Option ((Int × Unit) × (Unit))
abbrev C_Z45 : Type := (List (Int × Int × List Int)) → Int → Int → Int → R_Z45
abbrev T_Z45_L1 : Type := Int × Int × ((List (Int × Int × List Int)) × Int × Unit) × Int × Int × Unit
def B_Z45_J0 (k : Nat) (c_Z45 : C_Z45) (again1 : T_Z45_L1 → R_Z45) (at1 most : Int) (g_Nodes : List (Int × Int × List Int)) (g_Root n7 i : Int) (t22 : Bool) : R_Z45 :=
  bif t22 then
    chk (inb at1 g_Nodes.length) <|
    chk (inb i (((rdx ((0 : Int), ((0 : Int), ([] : List Int))) g_Nodes at1).2).2).length) <|
    (c_Z45 g_Nodes g_Root (rdx (0 : Int) (((rdx ((0 : Int), ((0 : Int), ([] : List Int))) g_Nodes at1).2).2) i) (w64 (most - n7))).bind fun r39 =>
    again1 (at1, most, (g_Nodes, g_Root, ()), w64 (n7 + r39.1.1), w64 (i + 1), ())
  else
    some (((if most < n7 then most else n7), ()), ())
def B_Z45_L1b (k : Nat) (c_Z45 : C_Z45) (again1 : T_Z45_L1 → R_Z45) (at1 most : Int) (g_Nodes : List (Int × Int × List Int)) (g_Root n7 i : Int) : R_Z45 :=
  chk (inb at1 g_Nodes.length) <|
  bif decide (i < (len (((rdx ((0 : Int), ((0 : Int), ([] : List Int))) g_Nodes at1).2).2))) then
    jn (fun t => B_Z45_J0 k c_Z45 again1 t.1 t.2.1 t.2.2.1.1 t.2.2.1.2.1 t.2.2.2.1 t.2.2.2.2.1 t.2.2.2.2.2.1) (at1, most, (g_Nodes, g_Root, ()), n7, i, decide (n7 < most), ())
  else
    jn (fun t => B_Z45_J0 k c_Z45 again1 t.1 t.2.1 t.2.2.1.1 t.2.2.1.2.1 t.2.2.2.1 t.2.2.2.2.1 t.2.2.2.2.2.1) (at1, most, (g_Nodes, g_Root, ()), n7, i, false, ())
def B_Z45_L1 (k : Nat) (c_Z45 : C_Z45) (n : Nat) (t : T_Z45_L1) : R_Z45 :=
  lfix n (fun again t => B_Z45_L1b k c_Z45 again t.1 t.2.1 t.2.2.1.1 t.2.2.1.2.1 t.2.2.2.1 t.2.2.2.2.1) t
def B_Z45 (k : Nat) (c_Z45 : C_Z45) (g_0 : List (Int × Int × List Int)) (g_1 at1 most : Int) : R_Z45 :=
  B_Z45_L1 k c_Z45 k (at1, most, (g_0, g_1, ()), 1, 0, ())
def F_Z45 : Nat → C_Z45
  | 0, _, _, _, _ => none
  | k + 1, g_0, g_1, at1, most => B_Z45 k (F_Z45 k) g_0 g_1 at1 most
theorem F_Z45_succ (k : Nat) (g_0 : List (Int × Int × List Int)) (g_1 : Int) (at1 : Int) (most : Int) : F_Z45 (k + 1) g_0 g_1 at1 most = B_Z45 k (F_Z45 k) g_0 g_1 at1 most := by rw [F_Z45]
theorem tot_Z45 {g_0 g_1 at1 most : _} {Q : _ → Prop} (h : Tot (fun σ => B_Z45 (σ 0) (F_Z45 (σ 0)) g_0 g_1 at1 most) Q) : Tot (fun σ => F_Z45 (σ 0) g_0 g_1 at1 most) Q :=
  Tot.call (F := fun k => F_Z45 k g_0 g_1 at1 most) (B := fun k => B_Z45 k (F_Z45 k) g_0 g_1 at1 most) (fun k => F_Z45_succ k g_0 g_1 at1 most) h
abbrev A_Z45_L1 (Z : Type) : Type := Int → Int → (List (Int × Int × List Int)) → Int → Int → Int → Z
abbrev u_Z45_L1 {Z : Type} (f : A_Z45_L1 Z) (t : T_Z45_L1) : Z := f t.1 t.2.1 t.2.2.1.1 t.2.2.1.2.1 t.2.2.2.1 t.2.2.2.2.1
theorem loop_Z45_L1 {Q : A_Z45_L1 (((Int × Unit) × (Unit)) → Prop)} (I : A_Z45_L1 Prop) (μ : A_Z45_L1 Nat)
    (step : ∀ a0 a1 a2 a3 a4 a5, I a0 a1 a2 a3 a4 a5 → ∀ again : (Nat → Nat) → T_Z45_L1 → R_Z45, Dep 2 again → (∀ y0 y1 y2 y3 y4 y5, I y0 y1 y2 y3 y4 y5 → μ y0 y1 y2 y3 y4 y5 < μ a0 a1 a2 a3 a4 a5 → Tot (fun σ => again σ (y0, y1, (y2, y3, ()), y4, y5, ())) (Q y0 y1 y2 y3 y4 y5)) →
      Tot (fun σ => B_Z45_L1b (σ 0) (F_Z45 (σ 0)) (again σ) a0 a1 a2 a3 a4 a5) (Q a0 a1 a2 a3 a4 a5)) :
    ∀ a0 a1 a2 a3 a4 a5, I a0 a1 a2 a3 a4 a5 → Tot (fun σ => B_Z45_L1 (σ 0) (F_Z45 (σ 0)) (σ 0) (a0, a1, (a2, a3, ()), a4, a5, ())) (Q a0 a1 a2 a3 a4 a5) := fun a0 a1 a2 a3 a4 a5 => Tot.loop0 (L := fun k => B_Z45_L1 k (F_Z45 k)) (B := fun k g => u_Z45_L1 (B_Z45_L1b k (F_Z45 k) g)) (Q := u_Z45_L1 Q) (fun _ _ _ => rfl) (u_Z45_L1 I) (u_Z45_L1 μ)
    (fun t ht again hag h => step t.1 t.2.1 t.2.2.1.1 t.2.2.1.2.1 t.2.2.2.1 t.2.2.2.2.1 ht again hag fun y0 y1 y2 y3 y4 y5 => h (y0, y1, (y2, y3, ()), y4, y5, ())) (a0, a1, (a2, a3, ()), a4, a5, ())
abbrev R_s_unfold : Type := Option (((List (Int × Int × Option (List Int))) × Int × Unit) × (Unit))
abbrev C_s_unfold : Type := (List (Int × Int × List Int)) → Int → Int → (List (Int × Int × Option (List Int))) → R_s_unfold
abbrev T_s_unfold_L0 : Type := Int × (List (Int × Int × Option (List Int))) × ((List (Int × Int × List Int)) × Int × Unit) × Int × List Int × Int × Unit
def B_s_unfold_L0b (k : Nat) (c_s_unfold : C_s_unfold) (again0 : T_s_unfold_L0 → R_s_unfold) (at1 : Int) (nodes : List (Int × Int × Option (List Int))) (g_Nodes : List (Int × Int × List Int)) (g_Root me : Int) (kids : List Int) (i : Int) : R_s_unfold :=
  chk (inb at1 g_Nodes.length) <|
  bif decide (i < (len (((rdx ((0 : Int), ((0 : Int), ([] : List Int))) g_Nodes at1).2).2))) then
    chk (inb at1 g_Nodes.length) <|
    chk (inb i (((rdx ((0 : Int), ((0 : Int), ([] : List Int))) g_Nodes at1).2).2).length) <|
    (c_s_unfold g_Nodes g_Root (rdx (0 : Int) (((rdx ((0 : Int), ((0 : Int), ([] : List Int))) g_Nodes at1).2).2) i) nodes).bind fun r55 =>
    chk (room kids.length ([r55.1.2.1]).length) <|
    again0 (at1, r55.1.1, (g_Nodes, g_Root, ()), me, (kids ++ [r55.1.2.1]), w64 (i + 1), ())
  else
    chk (inb me nodes.length) <|
    chk (decide (me.toNat < nodes.length)) <|
    some (((nodes.set me.toNat ((nodes.getD me.toNat ((0 : Int), ((0 : Int), (none : Option (List Int))))).1, (((nodes.getD me.toNat ((0 : Int), ((0 : Int), (none : Option (List Int))))).2).1, (some kids)))), me, ()), ())
def B_s_unfold_L0 (k : Nat) (c_s_unfold : C_s_unfold) (n : Nat) (t : T_s_unfold_L0) : R_s_unfold :=
  lfix n (fun again t => B_s_unfold_L0b k c_s_unfold again t.1 t.2.1 t.2.2.1.1 t.2.2.1.2.1 t.2.2.2.1 t.2.2.2.2.1 t.2.2.2.2.2.1) t
def B_s_unfold (k : Nat) (c_s_unfold : C_s_unfold) (g_0 : List (Int × Int × List Int)) (g_1 at1 : Int) (nodes : List (Int × Int × Option (List Int))) : R_s_unfold :=
  chk (inb at1 g_0.length) <|
  chk (inb at1 g_0.length) <|
  chk (room nodes.length ([((rdx ((0 : Int), ((0 : Int), ([] : List Int))) g_0 at1).1, (((rdx ((0 : Int), ((0 : Int), ([] : List Int))) g_0 at1).2).1, (none : Option (List Int))))]).length) <|
  B_s_unfold_L0 k c_s_unfold k (at1, (nodes ++ [((rdx ((0 : Int), ((0 : Int), ([] : List Int))) g_0 at1).1, (((rdx ((0 : Int), ((0 : Int), ([] : List Int))) g_0 at1).2).1, (none : Option (List Int))))]), (g_0, g_1, ()), len nodes, [], 0, ())
def F_s_unfold : Nat → C_s_unfold
  | 0, _, _, _, _ => none
  | k + 1, g_0, g_1, at1, nodes => B_s_unfold k (F_s_unfold k) g_0 g_1 at1 nodes
theorem F_s_unfold_succ (k : Nat) (g_0 : List (Int × Int × List Int)) (g_1 : Int) (at1 : Int) (nodes : List (Int × Int × Option (List Int))) : F_s_unfold (k + 1) g_0 g_1 at1 nodes = B_s_unfold k (F_s_unfold k) g_0 g_1 at1 nodes := by rw [F_s_unfold]
theorem tot_s_unfold {g_0 g_1 at1 nodes : _} {Q : _ → Prop} (h : Tot (fun σ => B_s_unfold (σ 0) (F_s_unfold (σ 0)) g_0 g_1 at1 nodes) Q) : Tot (fun σ => F_s_unfold (σ 0) g_0 g_1 at1 nodes) Q :=
  Tot.call (F := fun k => F_s_unfold k g_0 g_1 at1 nodes) (B := fun k => B_s_unfold k (F_s_unfold k) g_0 g_1 at1 nodes) (fun k => F_s_unfold_succ k g_0 g_1 at1 nodes) h
abbrev A_s_unfold_L0 (Z : Type) : Type := Int → (List (Int × Int × Option (List Int))) → (List (Int × Int × List Int)) → Int → Int → List Int → Int → Z
abbrev u_s_unfold_L0 {Z : Type} (f : A_s_unfold_L0 Z) (t : T_s_unfold_L0) : Z := f t.1 t.2.1 t.2.2.1.1 t.2.2.1.2.1 t.2.2.2.1 t.2.2.2.2.1 t.2.2.2.2.2.1
theorem loop_s_unfold_L0 {Q : A_s_unfold_L0 ((((List (Int × Int × Option (List Int))) × Int × Unit) × (Unit)) → Prop)} (I : A_s_unfold_L0 Prop) (μ : A_s_unfold_L0 Nat)
    (step : ∀ a0 a1 a2 a3 a4 a5 a6, I a0 a1 a2 a3 a4 a5 a6 → ∀ again : (Nat → Nat) → T_s_unfold_L0 → R_s_unfold, Dep 2 again → (∀ y0 y1 y2 y3 y4 y5 y6, I y0 y1 y2 y3 y4 y5 y6 → μ y0 y1 y2 y3 y4 y5 y6 < μ a0 a1 a2 a3 a4 a5 a6 → Tot (fun σ => again σ (y0, y1, (y2, y3, ()), y4, y5, y6, ())) (Q y0 y1 y2 y3 y4 y5 y6)) →
      Tot (fun σ => B_s_unfold_L0b (σ 0) (F_s_unfold (σ 0)) (again σ) a0 a1 a2 a3 a4 a5 a6) (Q a0 a1 a2 a3 a4 a5 a6)) :
    ∀ a0 a1 a2 a3 a4 a5 a6, I a0 a1 a2 a3 a4 a5 a6 → Tot (fun σ => B_s_unfold_L0 (σ 0) (F_s_unfold (σ 0)) (σ 0) (a0, a1, (a2, a3, ()), a4, a5, a6, ())) (Q a0 a1 a2 a3 a4 a5 a6) := fun a0 a1 a2 a3 a4 a5 a6 => Tot.loop0 (L := fun k => B_s_unfold_L0 k (F_s_unfold k)) (B := fun k g => u_s_unfold_L0 (B_s_unfold_L0b k (F_s_unfold k) g)) (Q := u_s_unfold_L0 Q) (fun _ _ _ => rfl) (u_s_unfold_L0 I) (u_s_unfold_L0 μ)
    (fun t ht again hag h => step t.1 t.2.1 t.2.2.1.1 t.2.2.1.2.1 t.2.2.2.1 t.2.2.2.2.1 t.2.2.2.2.2.1 ht again hag fun y0 y1 y2 y3 y4 y5 y6 => h (y0, y1, (y2, y3, ()), y4, y5, y6, ())) (a0, a1, (a2, a3, ()), a4, a5, a6, ())
abbrev R_Z24 : Type := Option ((((List (Int × Int × Option (List Int))) × Int × Unit) × Bool × Unit) × (Unit))
abbrev C_Z24 : Type := (List (Int × Int × List Int)) → Int → R_Z24
def B_Z24_J0 (k : Nat) (c_Z30 : C_Z30) (c_Z43 : C_Z43) (c_Z45 : C_Z45) (c_s_unfold : C_s_unfold) (g_Nodes : List (Int × Int × List Int)) (g_Root t2_Root : Int) (t21 : Bool) : R_Z24 :=
  bif t21 then
    some ((([], 0, ()), false, ()), ())
  else
    (c_s_unfold g_Nodes g_Root g_Root ([])).bind fun r28 =>
    some (((r28.1.1, 0, ()), true, ()), ())
def B_Z24 (k : Nat) (c_Z30 : C_Z30) (c_Z43 : C_Z43) (c_Z45 : C_Z45) (c_s_unfold : C_s_unfold) (g_0 : List (Int × Int × List Int)) (g_1 : Int) : R_Z24 :=
  (c_Z30 g_0 g_1).bind fun r7 =>
  bif (!r7.1.1) then
    jn (fun t => B_Z24_J0 k c_Z30 c_Z43 c_Z45 c_s_unfold t.1.1 t.1.2.1 t.2.1.2.1 t.2.2.1) ((g_0, g_1, ()), ((), 0, ()), true, ())
  else
    (c_Z43 g_0 g_1).bind fun r11 =>
    bif decide ((len r11.1.1) > 0) then
      jn (fun t => B_Z24_J0 k c_Z30 c_Z43 c_Z45 c_s_unfold t.1.1 t.1.2.1 t.2.1.2.1 t.2.2.1) ((g_0, g_1, ()), ((), 0, ()), true, ())
    else
      (c_Z45 g_0 g_1 g_1 5000).bind fun r19 =>
      jn (fun t => B_Z24_J0 k c_Z30 c_Z43 c_Z45 c_s_unfold t.1.1 t.1.2.1 t.2.1.2.1 t.2.2.1) ((g_0, g_1, ()), ((), 0, ()), decide (r19.1.1 > 12), ())
def F_Z24 : Nat → C_Z24
  | 0, _, _ => none
  | k + 1, g_0, g_1 => B_Z24 k (F_Z30 k) (F_Z43 k) (F_Z45 k) (F_s_unfold k) g_0 g_1
theorem tot_Z24 {g_0 g_1 : _} {Q : _ → Prop} (h : Tot (fun σ => B_Z24 (σ 0) (F_Z30 (σ 0)) (F_Z43 (σ 0)) (F_Z45 (σ 0)) (F_s_unfold (σ 0)) g_0 g_1) Q) : Tot (fun σ => F_Z24 (σ 0) g_0 g_1) Q :=
  Tot.call (F := fun k => F_Z24 k g_0 g_1) (B := fun k => B_Z24 k (F_Z30 k) (F_Z43 k) (F_Z45 k) (F_s_unfold k) g_0 g_1) (fun k => rfl) h
abbrev R_Z23 : Type := Option ((Bool × Unit) × ((Int × Unit) × Unit))
abbrev C_Z23 : Type := Int → Int → R_Z23
def B_Z23 (k : Nat) (k0 t1 : Int) : R_Z23 :=
  bif decide (k0 < 0) then
    some ((true, ()), ((t1, ()), ()))
  else
    some ((decide (k0 ≥ t1), ()), ((t1, ()), ()))
def F_Z23 : Nat → C_Z23
  | 0, _, _ => none
  | k + 1, k0, t1 => B_Z23 k k0 t1
theorem tot_Z23 {k0 t1 : _} {Q : _ → Prop} (h : Tot (fun σ => B_Z23 (σ 0) k0 t1) Q) : Tot (fun σ => F_Z23 (σ 0) k0 t1) Q :=
  Tot.call (F := fun k => F_Z23 k k0 t1) (B := fun k => B_Z23 k k0 t1) (fun k => rfl) h
abbrev R_Z1 : Type := Option ((Int × Unit) × ((Int × Unit) × Unit))
abbrev C_Z1 : Type := List Int → Int → R_Z1
abbrev T_Z1_L0 : Type := List Int × (Int × Unit) × Int × Int × Unit
def B_Z1_L0b (k : Nat) (c_Z23 : C_Z23) (again0 : T_Z1_L0 → R_Z1) (s : List Int) (f t7 t8 : Int) : R_Z1 :=
  bif decide (t8 < t7) then
    chk (inb t8 s.length) <|
    (c_Z23 (rdx (0 : Int) s t8) f).bind fun r16 =>
    bif r16.1.1 then
      some ((t8, ()), ((r16.2.1.1, ()), ()))
    else
      again0 (s, (r16.2.1.1, ()), t7, w64 (t8 + 1), ())
  else
    some (((-1), ()), ((f, ()), ()))
def B_Z1_L0 (k : Nat) (c_Z23 : C_Z23) (n : Nat) (t : T_Z1_L0) : R_Z1 :=
  lfix n (fun again t => B_Z1_L0b k c_Z23 again t.1 t.2.1.1 t.2.2.1 t.2.2.2.1) t
def B_Z1 (k : Nat) (c_Z23 : C_Z23) (s : List Int) (f : Int) : R_Z1 :=
  B_Z1_L0 k c_Z23 k (s, (f, ()), len s, 0, ())
def F_Z1 : Nat → C_Z1
  | 0, _, _ => none
  | k + 1, s, f => B_Z1 k (F_Z23 k) s f
theorem tot_Z1 {s f : _} {Q : _ → Prop} (h : Tot (fun σ => B_Z1 (σ 0) (F_Z23 (σ 0)) s f) Q) : Tot (fun σ => F_Z1 (σ 0) s f) Q :=
  Tot.call (F := fun k => F_Z1 k s f) (B := fun k => B_Z1 k (F_Z23 k) s f) (fun k => rfl) h
abbrev A_Z1_L0 (Z : Type) : Type := List Int → Int → Int → Int → Z
abbrev u_Z1_L0 {Z : Type} (f : A_Z1_L0 Z) (t : T_Z1_L0) : Z := f t.1 t.2.1.1 t.2.2.1 t.2.2.2.1
theorem loop_Z1_L0 {Q : A_Z1_L0 (((Int × Unit) × ((Int × Unit) × Unit)) → Prop)} (I : A_Z1_L0 Prop) (μ : A_Z1_L0 Nat)
    (step : ∀ a0 a1 a2 a3, I a0 a1 a2 a3 → ∀ again : (Nat → Nat) → T_Z1_L0 → R_Z1, Dep 2 again → (∀ y0 y1 y2 y3, I y0 y1 y2 y3 → μ y0 y1 y2 y3 < μ a0 a1 a2 a3 → Tot (fun σ => again σ (y0, (y1, ()), y2, y3, ())) (Q y0 y1 y2 y3)) →
      Tot (fun σ => B_Z1_L0b (σ 0) (F_Z23 (σ 0)) (again σ) a0 a1 a2 a3) (Q a0 a1 a2 a3)) :
    ∀ a0 a1 a2 a3, I a0 a1 a2 a3 → Tot (fun σ => B_Z1_L0 (σ 0) (F_Z23 (σ 0)) (σ 0) (a0, (a1, ()), a2, a3, ())) (Q a0 a1 a2 a3) := fun a0 a1 a2 a3 => Tot.loop0 (L := fun k => B_Z1_L0 k (F_Z23 k)) (B := fun k g => u_Z1_L0 (B_Z1_L0b k (F_Z23 k) g)) (Q := u_Z1_L0 Q) (fun _ _ _ => rfl) (u_Z1_L0 I) (u_Z1_L0 μ)
    (fun t ht again hag h => step t.1 t.2.1.1 t.2.2.1 t.2.2.2.1 ht again hag fun y0 y1 y2 y3 => h (y0, (y1, ()), y2, y3, ())) (a0, (a1, ()), a2, a3, ())
abbrev R_Z0 : Type := Option ((Bool × Unit) × ((Int × Unit) × Unit))
abbrev C_Z0 : Type := List Int → Int → R_Z0
def B_Z0 (k : Nat) (c_Z1 : C_Z1) (s : List Int) (f : Int) : R_Z0 :=
  (c_Z1 s f).bind fun r7 =>
  some ((decide (r7.1.1 ≥ 0), ()), ((r7.2.1.1, ()), ()))
def F_Z0 : Nat → C_Z0
  | 0, _, _ => none
  | k + 1, s, f => B_Z0 k (F_Z1 k) s f
theorem tot_Z0 {s f : _} {Q : _ → Prop} (h : Tot (fun σ => B_Z0 (σ 0) (F_Z1 (σ 0)) s f) Q) : Tot (fun σ => F_Z0 (σ 0) s f) Q :=
  Tot.call (F := fun k => F_Z0 k s f) (B := fun k => B_Z0 k (F_Z1 k) s f) (fun k => rfl) h
abbrev R_Z49 : Type := Option ((Int × Unit) × (Unit))
abbrev C_Z49 : Type := (List (Int × Int × List Int)) → List Int → Int → Int → R_Z49
abbrev T_Z49_L1 : Type := (List (Int × Int × List Int)) × List Int × (Int × Int × Unit × Unit) × Int × Unit
def B_Z49_J0 (k : Nat) (again1 : T_Z49_L1 → R_Z49) (nodes : List (Int × Int × List Int)) (kids : List Int) (key_Kind key_Value i : Int) (t33 : Bool) : R_Z49 :=
  bif t33 then
    some ((i, ()), ())
  else
    again1 (nodes, kids, (key_Kind, key_Value, (), ()), w64 (i + 2), ())
def B_Z49_L1b (k : Nat) (again1 : T_Z49_L1 → R_Z49) (nodes : List (Int × Int × List Int)) (kids : List Int) (key_Kind key_Value i : Int) : R_Z49 :=
  bif decide (i < (len kids)) then
    chk (inb i kids.length) <|
    chk (inb (rdx (0 : Int) kids i) nodes.length) <|
    let v26 : Bool := (((rdx ((0 : Int), ((0 : Int), ([] : List Int))) nodes (rdx (0 : Int) kids i)).1) == key_Kind)
    bif v26 then
      let v32 : Bool := ((((rdx ((0 : Int), ((0 : Int), ([] : List Int))) nodes (rdx (0 : Int) kids i)).2).1) == key_Value)
      jn (fun t => B_Z49_J0 k again1 t.1 t.2.1 t.2.2.1.1 t.2.2.1.2.1 t.2.2.2.1 t.2.2.2.2.1) (nodes, kids, (key_Kind, key_Value, (), ()), i, v32, ())
    else
      jn (fun t => B_Z49_J0 k again1 t.1 t.2.1 t.2.2.1.1 t.2.2.1.2.1 t.2.2.2.1 t.2.2.2.2.1) (nodes, kids, (key_Kind, key_Value, (), ()), i, false, ())
  else
    some (((-1), ()), ())
def B_Z49_L1 (k : Nat) (n : Nat) (t : T_Z49_L1) : R_Z49 :=
  lfix n (fun again t => B_Z49_L1b k again t.1 t.2.1 t.2.2.1.1 t.2.2.1.2.1 t.2.2.2.1) t
def B_Z49 (k : Nat) (nodes : List (Int × Int × List Int)) (kids : List Int) (key_0 key_1 : Int) : R_Z49 :=
  B_Z49_L1 k k (nodes, kids, (key_0, key_1, (), ()), 0, ())
def F_Z49 : Nat → C_Z49
  | 0, _, _, _, _ => none
  | k + 1, nodes, kids, key_0, key_1 => B_Z49 k nodes kids key_0 key_1
theorem tot_Z49 {nodes kids key_0 key_1 : _} {Q : _ → Prop} (h : Tot (fun σ => B_Z49 (σ 0) nodes kids key_0 key_1) Q) : Tot (fun σ => F_Z49 (σ 0) nodes kids key_0 key_1) Q :=
  Tot.call (F := fun k => F_Z49 k nodes kids key_0 key_1) (B := fun k => B_Z49 k nodes kids key_0 key_1) (fun k => rfl) h
abbrev A_Z49_L1 (Z : Type) : Type := (List (Int × Int × List Int)) → List Int → Int → Int → Int → Z
abbrev u_Z49_L1 {Z : Type} (f : A_Z49_L1 Z) (t : T_Z49_L1) : Z := f t.1 t.2.1 t.2.2.1.1 t.2.2.1.2.1 t.2.2.2.1
theorem loop_Z49_L1 {Q : A_Z49_L1 (((Int × Unit) × (Unit)) → Prop)} (I : A_Z49_L1 Prop) (μ : A_Z49_L1 Nat)
    (step : ∀ a0 a1 a2 a3 a4, I a0 a1 a2 a3 a4 → ∀ again : (Nat → Nat) → T_Z49_L1 → R_Z49, Dep 2 again → (∀ y0 y1 y2 y3 y4, I y0 y1 y2 y3 y4 → μ y0 y1 y2 y3 y4 < μ a0 a1 a2 a3 a4 → Tot (fun σ => again σ (y0, y1, (y2, y3, (), ()), y4, ())) (Q y0 y1 y2 y3 y4)) →
      Tot (fun σ => B_Z49_L1b (σ 0) (again σ) a0 a1 a2 a3 a4) (Q a0 a1 a2 a3 a4)) :
    ∀ a0 a1 a2 a3 a4, I a0 a1 a2 a3 a4 → Tot (fun σ => B_Z49_L1 (σ 0) (σ 0) (a0, a1, (a2, a3, (), ()), a4, ())) (Q a0 a1 a2 a3 a4) := fun a0 a1 a2 a3 a4 => Tot.loop0 (L := fun k => B_Z49_L1 k) (B := fun k g => u_Z49_L1 (B_Z49_L1b k g)) (Q := u_Z49_L1 Q) (fun _ _ _ => rfl) (u_Z49_L1 I) (u_Z49_L1 μ)
    (fun t ht again hag h => step t.1 t.2.1 t.2.2.1.1 t.2.2.1.2.1 t.2.2.2.1 ht again hag fun y0 y1 y2 y3 y4 => h (y0, y1, (y2, y3, (), ()), y4, ())) (a0, a1, (a2, a3, (), ()), a4, ())
abbrev R_i_nodeOk : Type := Option ((Bool × Unit) × (Unit))
abbrev C_i_nodeOk : Type := (List (Int × Int × List Int)) → Int → Int → List Int → R_i_nodeOk
abbrev T_i_nodeOk_L2 : Type := (List (Int × Int × List Int)) × (Int × Int × List Int × Unit) × Int × Unit
def B_i_nodeOk_J1 (k : Nat) (c_Z49 : C_Z49) (again2 : T_i_nodeOk_L2 → R_i_nodeOk) (nodes : List (Int × Int × List Int)) (x_Kind x_Value : Int) (x_Kids : List Int) (i : Int) (t97 : Bool) : R_i_nodeOk :=
  bif t97 then
    some ((false, ()), ())
  else
    again2 (nodes, (x_Kind, x_Value, x_Kids, ()), w64 (i + 2), ())
def B_i_nodeOk_L2b (k : Nat) (c_Z49 : C_Z49) (again2 : T_i_nodeOk_L2 → R_i_nodeOk) (nodes : List (Int × Int × List Int)) (x_Kind x_Value : Int) (x_Kids : List Int) (i : Int) : R_i_nodeOk :=
  bif decide (i < (len x_Kids)) then
    chk (inb i x_Kids.length) <|
    chk (inb (rdx (0 : Int) x_Kids i) nodes.length) <|
    let v82 : Bool := decide (((rdx ((0 : Int), ((0 : Int), ([] : List Int))) nodes (rdx (0 : Int) x_Kids i)).1) > 1)
    bif v82 then
      jn (fun t => B_i_nodeOk_J1 k c_Z49 again2 t.1 t.2.1.1 t.2.1.2.1 t.2.1.2.2.1 t.2.2.1 t.2.2.2.1) (nodes, (x_Kind, x_Value, x_Kids, ()), i, true, ())
    else
      let v86 : Bool := decide (((rdx ((0 : Int), ((0 : Int), ([] : List Int))) nodes (rdx (0 : Int) x_Kids i)).1) < 0)
      bif v86 then
        jn (fun t => B_i_nodeOk_J1 k c_Z49 again2 t.1 t.2.1.1 t.2.1.2.1 t.2.1.2.2.1 t.2.2.1 t.2.2.2.1) (nodes, (x_Kind, x_Value, x_Kids, ()), i, true, ())
      else
        chk (cutb 0 i x_Kids.length) <|
        (c_Z49 nodes (sub x_Kids 0 i) ((rdx ((0 : Int), ((0 : Int), ([] : List Int))) nodes (rdx (0 : Int) x_Kids i)).1) (((rdx ((0 : Int), ((0 : Int), ([] : List Int))) nodes (rdx (0 : Int) x_Kids i)).2).1)).bind fun r95 =>
        jn (fun t => B_i_nodeOk_J1 k c_Z49 again2 t.1 t.2.1.1 t.2.1.2.1 t.2.1.2.2.1 t.2.2.1 t.2.2.2.1) (nodes, (x_Kind, x_Value, x_Kids, ()), i, decide (r95.1.1 ≥ 0), ())
  else
    bif (x_Value == 0) then
      some (((((len x_Kids).tmod 2) == 0), ()), ())
    else
      some ((false, ()), ())
def B_i_nodeOk_L2 (k : Nat) (c_Z49 : C_Z49) (n : Nat) (t : T_i_nodeOk_L2) : R_i_nodeOk :=
  lfix n (fun again t => B_i_nodeOk_L2b k c_Z49 again t.1 t.2.1.1 t.2.1.2.1 t.2.1.2.2.1 t.2.2.1) t
def B_i_nodeOk_J0 (k : Nat) (c_Z49 : C_Z49) (nodes : List (Int × Int × List Int)) (x_Kind x_Value : Int) (x_Kids : List Int) (t8 : Int) (t41 : Bool) : R_i_nodeOk :=
  bif t41 then
    some (((x_Value == 0), ()), ())
  else
    bif (t8 == 5) then
      bif decide (x_Value ≥ 0) then
        bif decide (x_Value ≤ 9) then
          some ((decide ((len x_Kids) ≤ 1), ()), ())
        else
          some ((false, ()), ())
      else
        some ((false, ()), ())
    else
      bif (t8 == 4) then
        B_i_nodeOk_L2 k c_Z49 k (nodes, (x_Kind, x_Value, x_Kids, ()), 0, ())
      else
        some ((false, ()), ())
def B_i_nodeOk (k : Nat) (c_Z49 : C_Z49) (nodes : List (Int × Int × List Int)) (x_0 x_1 : Int) (x_2 : List Int) : R_i_nodeOk :=
  bif (x_0 == 0) then
    bif decide (x_1 ≥ 0) then
      bif decide (x_1 ≤ 999) then
        some ((((len x_2) == 0), ()), ())
      else
        some ((false, ()), ())
    else
      some ((false, ()), ())
  else
    bif (x_0 == 1) then
      bif decide (x_1 ≥ 0) then
        bif decide (x_1 ≤ 9) then
          some ((((len x_2) == 0), ()), ())
        else
          some ((false, ()), ())
      else
        some ((false, ()), ())
    else
      bif (x_0 == 2) then
        jn (fun t => B_i_nodeOk_J0 k c_Z49 t.1 t.2.1.1 t.2.1.2.1 t.2.1.2.2.1 t.2.2.1 t.2.2.2.1) (nodes, (x_0, x_1, x_2, ()), x_0, (x_0 == 2), ())
      else
        jn (fun t => B_i_nodeOk_J0 k c_Z49 t.1 t.2.1.1 t.2.1.2.1 t.2.1.2.2.1 t.2.2.1 t.2.2.2.1) (nodes, (x_0, x_1, x_2, ()), x_0, (x_0 == 3), ())
def F_i_nodeOk : Nat → C_i_nodeOk
  | 0, _, _, _, _ => none
  | k + 1, nodes, x_0, x_1, x_2 => B_i_nodeOk k (F_Z49 k) nodes x_0 x_1 x_2
theorem tot_i_nodeOk {nodes x_0 x_1 x_2 : _} {Q : _ → Prop} (h : Tot (fun σ => B_i_nodeOk (σ 0) (F_Z49 (σ 0)) nodes x_0 x_1 x_2) Q) : Tot (fun σ => F_i_nodeOk (σ 0) nodes x_0 x_1 x_2) Q :=
  Tot.call (F := fun k => F_i_nodeOk k nodes x_0 x_1 x_2) (B := fun k => B_i_nodeOk k (F_Z49 k) nodes x_0 x_1 x_2) (fun k => rfl) h
abbrev A_i_nodeOk_L2 (Z : Type) : Type := (List (Int × Int × List Int)) → Int → Int → List Int → Int → Z
abbrev u_i_nodeOk_L2 {Z : Type} (f : A_i_nodeOk_L2 Z) (t : T_i_nodeOk_L2) : Z := f t.1 t.2.1.1 t.2.1.2.1 t.2.1.2.2.1 t.2.2.1
theorem loop_i_nodeOk_L2 {Q : A_i_nodeOk_L2 (((Bool × Unit) × (Unit)) → Prop)} (I : A_i_nodeOk_L2 Prop) (μ : A_i_nodeOk_L2 Nat)
    (step : ∀ a0 a1 a2 a3 a4, I a0 a1 a2 a3 a4 → ∀ again : (Nat → Nat) → T_i_nodeOk_L2 → R_i_nodeOk, Dep 2 again → (∀ y0 y1 y2 y3 y4, I y0 y1 y2 y3 y4 → μ y0 y1 y2 y3 y4 < μ a0 a1 a2 a3 a4 → Tot (fun σ => again σ (y0, (y1, y2, y3, ()), y4, ())) (Q y0 y1 y2 y3 y4)) →
      Tot (fun σ => B_i_nodeOk_L2b (σ 0) (F_Z49 (σ 0)) (again σ) a0 a1 a2 a3 a4) (Q a0 a1 a2 a3 a4)) :
    ∀ a0 a1 a2 a3 a4, I a0 a1 a2 a3 a4 → Tot (fun σ => B_i_nodeOk_L2 (σ 0) (F_Z49 (σ 0)) (σ 0) (a0, (a1, a2, a3, ()), a4, ())) (Q a0 a1 a2 a3 a4) := fun a0 a1 a2 a3 a4 => Tot.loop0 (L := fun k => B_i_nodeOk_L2 k (F_Z49 k)) (B := fun k g => u_i_nodeOk_L2 (B_i_nodeOk_L2b k (F_Z49 k) g)) (Q := u_i_nodeOk_L2 Q) (fun _ _ _ => rfl) (u_i_nodeOk_L2 I) (u_i_nodeOk_L2 μ)
    (fun t ht again hag h => step t.1 t.2.1.1 t.2.1.2.1 t.2.1.2.2.1 t.2.2.1 ht again hag fun y0 y1 y2 y3 y4 => h (y0, (y1, y2, y3, ()), y4, ())) (a0, (a1, a2, a3, ()), a4, ())
abbrev R_Z25 : Type := Option ((Bool × Unit) × (Unit))
abbrev C_Z25 : Type := Int → Int → List Int → R_Z25
def B_Z25 (k : Nat) (x_0 x_1 : Int) (x_2 : List Int) : R_Z25 :=
  some (((x_0 == 2), ()), ())
def F_Z25 : Nat → C_Z25
  | 0, _, _, _ => none
  | k + 1, x_0, x_1, x_2 => B_Z25 k x_0 x_1 x_2
theorem tot_Z25 {x_0 x_1 x_2 : _} {Q : _ → Prop} (h : Tot (fun σ => B_Z25 (σ 0) x_0 x_1 x_2) Q) : Tot (fun σ => F_Z25 (σ 0) x_0 x_1 x_2) Q :=
  Tot.call (F := fun k => F_Z25 k x_0 x_1 x_2) (B := fun k => B_Z25 k x_0 x_1 x_2) (fun k => rfl) h
abbrev R_Z12 : Type := Option ((Bool × Unit) × (Unit))
abbrev C_Z12 : Type := (List (Int × Int × List Int)) → Int → R_Z12
abbrev T_Z12_L2 : Type := (List (Int × Int × List Int)) × Int × Unit × (List (Int × Bool)) × List Int × List Int × Int × Int × Unit
abbrev T_Z12_L3 : Type := (List (Int × Int × List Int)) × Int × Unit × (List (Int × Bool)) × List Int × Unit
def B_Z12_J1 (k : Nat) (c_Z25 : C_Z25) (again2 : T_Z12_L2 → R_Z12) (nodes : List (Int × Int × List Int)) (from1 : Int) (seen : List (Int × Bool)) (list t33 : List Int) (t34 t35 : Int) : R_Z12 :=
  again2 (nodes, from1, (), seen, list, t33, t34, w64 (t35 + 1), ())
def B_Z12_J0 (k : Nat) (c_Z25 : C_Z25) (again2 : T_Z12_L2 → R_Z12) (nodes : List (Int × Int × List Int)) (from1 : Int) (seen : List (Int × Bool)) (list : List Int) (k11 : Int) (t33 : List Int) (t34 t35 : Int) (t53 : Bool) : R_Z12 :=
  bif t53 then
    chk (room list.length ([k11]).length) <|
    jn (fun t => B_Z12_J1 k c_Z25 again2 t.1 t.2.1 t.2.2.2.1 t.2.2.2.2.1 t.2.2.2.2.2.1 t.2.2.2.2.2.2.1 t.2.2.2.2.2.2.2.1) (nodes, from1, (), (mput seen k11 true), (list ++ [k11]), t33, t34, t35, ())
  else
    jn (fun t => B_Z12_J1 k c_Z25 again2 t.1 t.2.1 t.2.2.2.1 t.2.2.2.2.1 t.2.2.2.2.2.1 t.2.2.2.2.2.2.1 t.2.2.2.2.2.2.2.1) (nodes, from1, (), seen, list, t33, t34, t35, ())
def B_Z12_L2b (k : Nat) (c_Z25 : C_Z25) (again3 : T_Z12_L3 → R_Z12) (again2 : T_Z12_L2 → R_Z12) (nodes : List (Int × Int × List Int)) (from1 : Int) (seen : List (Int × Bool)) (list t33 : List Int) (t34 t35 : Int) : R_Z12 :=
  bif decide (t35 < t34) then
    chk (inb t35 t33.length) <|
    bif ((rdx (0 : Int) t33 t35) == from1) then
      some ((true, ()), ())
    else
      chk (inb (rdx (0 : Int) t33 t35) nodes.length) <|
      (c_Z25 ((rdx ((0 : Int), ((0 : Int), ([] : List Int))) nodes (rdx (0 : Int) t33 t35)).1) (((rdx ((0 : Int), ((0 : Int), ([] : List Int))) nodes (rdx (0 : Int) t33 t35)).2).1) (((rdx ((0 : Int), ((0 : Int), ([] : List Int))) nodes (rdx (0 : Int) t33 t35)).2).2)).bind fun r47 =>
      bif r47.1.1 then
        jn (fun t => B_Z12_J0 k c_Z25 again2 t.1 t.2.1 t.2.2.2.1 t.2.2.2.2.1 t.2.2.2.2.2.1 t.2.2.2.2.2.2.1 t.2.2.2.2.2.2.2.1 t.2.2.2.2.2.2.2.2.1 t.2.2.2.2.2.2.2.2.2.1) (nodes, from1, (), seen, list, (rdx (0 : Int) t33 t35), t33, t34, t35, (!((mfind seen (rdx (0 : Int) t33 t35)).getD false)), ())
      else
        jn (fun t => B_Z12_J0 k c_Z25 again2 t.1 t.2.1 t.2.2.2.1 t.2.2.2.2.1 t.2.2.2.2.2.1 t.2.2.2.2.2.2.1 t.2.2.2.2.2.2.2.1 t.2.2.2.2.2.2.2.2.1 t.2.2.2.2.2.2.2.2.2.1) (nodes, from1, (), seen, list, (rdx (0 : Int) t33 t35), t33, t34, t35, false, ())
  else
    again3 (nodes, from1, (), seen, list, ())
def B_Z12_L2 (k : Nat) (c_Z25 : C_Z25) (again3 : T_Z12_L3 → R_Z12) (n : Nat) (t : T_Z12_L2) : R_Z12 :=
  lfix n (fun again t => B_Z12_L2b k c_Z25 again3 again t.1 t.2.1 t.2.2.2.1 t.2.2.2.2.1 t.2.2.2.2.2.1 t.2.2.2.2.2.2.1 t.2.2.2.2.2.2.2.1) t
def B_Z12_L3b (k : Nat) (c_Z25 : C_Z25) (again3 : T_Z12_L3 → R_Z12) (nodes : List (Int × Int × List Int)) (from1 : Int) (seen : List (Int × Bool)) (list : List Int) : R_Z12 :=
  bif decide ((len list) > 0) then
    chk (inb (w64 ((len list) - 1)) list.length) <|
    chk (decide ((w64 ((len list) - 1)).toNat < list.length)) <|
    chk (cutb 0 (w64 ((len list) - 1)) list.length) <|
    chk (inb (list.getD ((w64 ((len list) - 1)).toNat) (0 : Int)) nodes.length) <|
    let v34 : Int := len (((rdx ((0 : Int), ((0 : Int), ([] : List Int))) nodes (list.getD ((w64 ((len list) - 1)).toNat) (0 : Int))).2).2)
    B_Z12_L2 k c_Z25 again3 k (nodes, from1, (), seen, (list.take ((w64 ((len list) - 1)).toNat)), ((rdx ((0 : Int), ((0 : Int), ([] : List Int))) nodes (list.getD ((w64 ((len list) - 1)).toNat) (0 : Int))).2).2, v34, 0, ())
  else
    some ((false, ()), ())
def B_Z12_L3 (k : Nat) (c_Z25 : C_Z25) (n : Nat) (t : T_Z12_L3) : R_Z12 :=
  lfix n (fun again t => B_Z12_L3b k c_Z25 again t.1 t.2.1 t.2.2.2.1 t.2.2.2.2.1) t
def B_Z12 (k : Nat) (c_Z25 : C_Z25) (nodes : List (Int × Int × List Int)) (from1 : Int) : R_Z12 :=
  B_Z12_L3 k c_Z25 k (nodes, from1, (), ([] : List (Int × Bool)), [from1], ())
def F_Z12 : Nat → C_Z12
  | 0, _, _ => none
  | k + 1, nodes, from1 => B_Z12 k (F_Z25 k) nodes from1
theorem tot_Z12 {nodes from1 : _} {Q : _ → Prop} (h : Tot (fun σ => B_Z12 (σ 0) (F_Z25 (σ 0)) nodes from1) Q) : Tot (fun σ => F_Z12 (σ 0) nodes from1) Q :=
  Tot.call (F := fun k => F_Z12 k nodes from1) (B := fun k => B_Z12 k (F_Z25 k) nodes from1) (fun k => rfl) h
abbrev A_Z12_L2 (Z : Type) : Type := (List (Int × Int × List Int)) → Int → (List (Int × Bool)) → List Int → List Int → Int → Int → Z
abbrev u_Z12_L2 {Z : Type} (f : A_Z12_L2 Z) (t : T_Z12_L2) : Z := f t.1 t.2.1 t.2.2.2.1 t.2.2.2.2.1 t.2.2.2.2.2.1 t.2.2.2.2.2.2.1 t.2.2.2.2.2.2.2.1
theorem loop_Z12_L2 {again3 : (Nat → Nat) → T_Z12_L3 → R_Z12} (hag3 : Dep 2 again3) {Q : A_Z12_L2 (((Bool × Unit) × (Unit)) → Prop)} (I : A_Z12_L2 Prop) (μ : A_Z12_L2 Nat)
    (step : ∀ a0 a1 a2 a3 a4 a5 a6, I a0 a1 a2 a3 a4 a5 a6 → ∀ again : (Nat → Nat) → T_Z12_L2 → R_Z12, Dep 3 again → (∀ y0 y1 y2 y3 y4 y5 y6, I y0 y1 y2 y3 y4 y5 y6 → μ y0 y1 y2 y3 y4 y5 y6 < μ a0 a1 a2 a3 a4 a5 a6 → Tot (fun σ => again σ (y0, y1, (), y2, y3, y4, y5, y6, ())) (Q y0 y1 y2 y3 y4 y5 y6)) →
      Tot (fun σ => B_Z12_L2b (σ 0) (F_Z25 (σ 0)) (again3 σ) (again σ) a0 a1 a2 a3 a4 a5 a6) (Q a0 a1 a2 a3 a4 a5 a6)) :
    ∀ a0 a1 a2 a3 a4 a5 a6, I a0 a1 a2 a3 a4 a5 a6 → Tot (fun σ => B_Z12_L2 (σ 0) (F_Z25 (σ 0)) (again3 σ) (σ 0) (a0, a1, (), a2, a3, a4, a5, a6, ())) (Q a0 a1 a2 a3 a4 a5 a6) := fun a0 a1 a2 a3 a4 a5 a6 => Tot.loop (L := fun σ n t => B_Z12_L2 (σ 0) (F_Z25 (σ 0)) (again3 σ) n t) (B := fun σ g => u_Z12_L2 (B_Z12_L2b (σ 0) (F_Z25 (σ 0)) (again3 σ) g)) (Q := u_Z12_L2 Q) 2 (by decide)
    (fun s s' h => by have e0 : s 0 = s' 0 := h 0 (by decide); simp only [e0, hag3 s s' h]) (fun s s' h => by have e0 : s 0 = s' 0 := h 0 (by decide); simp only [e0, hag3 s s' h]) (fun _ _ _ => rfl) (u_Z12_L2 I) (u_Z12_L2 μ)
    (fun t ht again hag h => step t.1 t.2.1 t.2.2.2.1 t.2.2.2.2.1 t.2.2.2.2.2.1 t.2.2.2.2.2.2.1 t.2.2.2.2.2.2.2.1 ht again hag fun y0 y1 y2 y3 y4 y5 y6 => h (y0, y1, (), y2, y3, y4, y5, y6, ())) (a0, a1, (), a2, a3, a4, a5, a6, ())
abbrev A_Z12_L3 (Z : Type) : Type := (List (Int × Int × List Int)) → Int → (List (Int × Bool)) → List Int → Z
abbrev u_Z12_L3 {Z : Type} (f : A_Z12_L3 Z) (t : T_Z12_L3) : Z := f t.1 t.2.1 t.2.2.2.1 t.2.2.2.2.1
theorem loop_Z12_L3 {Q : A_Z12_L3 (((Bool × Unit) × (Unit)) → Prop)} (I : A_Z12_L3 Prop) (μ : A_Z12_L3 Nat)
    (step : ∀ a0 a1 a2 a3, I a0 a1 a2 a3 → ∀ again : (Nat → Nat) → T_Z12_L3 → R_Z12, Dep 2 again → (∀ y0 y1 y2 y3, I y0 y1 y2 y3 → μ y0 y1 y2 y3 < μ a0 a1 a2 a3 → Tot (fun σ => again σ (y0, y1, (), y2, y3, ())) (Q y0 y1 y2 y3)) →
      Tot (fun σ => B_Z12_L3b (σ 0) (F_Z25 (σ 0)) (again σ) a0 a1 a2 a3) (Q a0 a1 a2 a3)) :
    ∀ a0 a1 a2 a3, I a0 a1 a2 a3 → Tot (fun σ => B_Z12_L3 (σ 0) (F_Z25 (σ 0)) (σ 0) (a0, a1, (), a2, a3, ())) (Q a0 a1 a2 a3) := fun a0 a1 a2 a3 => Tot.loop0 (L := fun k => B_Z12_L3 k (F_Z25 k)) (B := fun k g => u_Z12_L3 (B_Z12_L3b k (F_Z25 k) g)) (Q := u_Z12_L3 Q) (fun _ _ _ => rfl) (u_Z12_L3 I) (u_Z12_L3 μ)
    (fun t ht again hag h => step t.1 t.2.1 t.2.2.2.1 t.2.2.2.2.1 ht again hag fun y0 y1 y2 y3 => h (y0, y1, (), y2, y3, ())) (a0, a1, (), a2, a3, ())
abbrev R_Z28 : Type := Option ((Bool × Unit) × (Unit))
abbrev C_Z28 : Type := (List (Int × Int × List Int)) → Int → R_Z28
abbrev T_Z28_L5 : Type := ((List (Int × Int × List Int)) × Int × Unit) × Int × Int × Unit
abbrev T_Z28_L3 : Type := ((List (Int × Int × List Int)) × Int × Unit) × (List (Int × Int × List Int)) × Int × Int × Unit
abbrev T_Z28_L2 : Type := ((List (Int × Int × List Int)) × Int × Unit) × (Int × Unit) × (List (Int × Int × List Int)) × Int × Int × Unit
def B_Z28_J1 (k : Nat) (c_Z0 : C_Z0) (c_i_nodeOk : C_i_nodeOk) (c_Z12 : C_Z12) (again2 : T_Z28_L2 → R_Z28) (g_Nodes : List (Int × Int × List Int)) (g_Root n3 : Int) (t30 : List (Int × Int × List Int)) (t31 t32 : Int) (t45 : Bool) : R_Z28 :=
  bif t45 then
    some ((false, ()), ())
  else
    again2 ((g_Nodes, g_Root, ()), (n3, ()), t30, t31, w64 (t32 + 1), ())
def B_Z28_J4 (k : Nat) (c_Z0 : C_Z0) (c_i_nodeOk : C_i_nodeOk) (c_Z12 : C_Z12) (again5 : T_Z28_L5 → R_Z28) (g_Nodes : List (Int × Int × List Int)) (g_Root t62 t63 : Int) (t78 : Bool) : R_Z28 :=
  bif t78 then
    some ((false, ()), ())
  else
    again5 ((g_Nodes, g_Root, ()), t62, w64 (t63 + 1), ())
def B_Z28_L5b (k : Nat) (c_Z0 : C_Z0) (c_i_nodeOk : C_i_nodeOk) (c_Z12 : C_Z12) (again5 : T_Z28_L5 → R_Z28) (g_Nodes : List (Int × Int × List Int)) (g_Root t62 t63 : Int) : R_Z28 :=
  bif decide (t63 < t62) then
    chk (inb t63 g_Nodes.length) <|
    bif (((rdx ((0 : Int), ((0 : Int), ([] : List Int))) g_Nodes t63).1) == 2) then
      (c_Z12 g_Nodes t63).bind fun r77 =>
      jn (fun t => B_Z28_J4 k c_Z0 c_i_nodeOk c_Z12 again5 t.1.1 t.1.2.1 t.2.1 t.2.2.1 t.2.2.2.1) ((g_Nodes, g_Root, ()), t62, t63, r77.1.1, ())
    else
      jn (fun t => B_Z28_J4 k c_Z0 c_i_nodeOk c_Z12 again5 t.1.1 t.1.2.1 t.2.1 t.2.2.1 t.2.2.2.1) ((g_Nodes, g_Root, ()), t62, t63, false, ())
  else
    some ((true, ()), ())
def B_Z28_L5 (k : Nat) (c_Z0 : C_Z0) (c_i_nodeOk : C_i_nodeOk) (c_Z12 : C_Z12) (n : Nat) (t : T_Z28_L5) : R_Z28 :=
  lfix n (fun again t => B_Z28_L5b k c_Z0 c_i_nodeOk c_Z12 again t.1.1 t.1.2.1 t.2.1 t.2.2.1) t
def B_Z28_L3b (k : Nat) (c_Z0 : C_Z0) (c_i_nodeOk : C_i_nodeOk) (c_Z12 : C_Z12) (again3 : T_Z28_L3 → R_Z28) (g_Nodes : List (Int × Int × List Int)) (g_Root : Int) (t48 : List (Int × Int × List Int)) (t49 t50 : Int) : R_Z28 :=
  bif decide (t50 < t49) then
    chk (inb t50 t48.length) <|
    (c_i_nodeOk g_Nodes ((rdx ((0 : Int), ((0 : Int), ([] : List Int))) t48 t50).1) (((rdx ((0 : Int), ((0 : Int), ([] : List Int))) t48 t50).2).1) (((rdx ((0 : Int), ((0 : Int), ([] : List Int))) t48 t50).2).2)).bind fun r57 =>
    bif (!r57.1.1) then
      some ((false, ()), ())
    else
      again3 ((g_Nodes, g_Root, ()), t48, t49, w64 (t50 + 1), ())
  else
    B_Z28_L5 k c_Z0 c_i_nodeOk c_Z12 k ((g_Nodes, g_Root, ()), len g_Nodes, 0, ())
def B_Z28_L3 (k : Nat) (c_Z0 : C_Z0) (c_i_nodeOk : C_i_nodeOk) (c_Z12 : C_Z12) (n : Nat) (t : T_Z28_L3) : R_Z28 :=
  lfix n (fun again t => B_Z28_L3b k c_Z0 c_i_nodeOk c_Z12 again t.1.1 t.1.2.1 t.2.1 t.2.2.1 t.2.2.2.1) t
def B_Z28_L2b (k : Nat) (c_Z0 : C_Z0) (c_i_nodeOk : C_i_nodeOk) (c_Z12 : C_Z12) (again2 : T_Z28_L2 → R_Z28) (g_Nodes : List (Int × Int × List Int)) (g_Root n3 : Int) (t30 : List (Int × Int × List Int)) (t31 t32 : Int) : R_Z28 :=
  bif decide (t32 < t31) then
    chk (inb t32 t30.length) <|
    bif decide ((len (((rdx ((0 : Int), ((0 : Int), ([] : List Int))) t30 t32).2).2)) > 6) then
      jn (fun t => B_Z28_J1 k c_Z0 c_i_nodeOk c_Z12 again2 t.1.1 t.1.2.1 t.2.1.1 t.2.2.1 t.2.2.2.1 t.2.2.2.2.1 t.2.2.2.2.2.1) ((g_Nodes, g_Root, ()), (n3, ()), t30, t31, t32, true, ())
    else
      (c_Z0 (((rdx ((0 : Int), ((0 : Int), ([] : List Int))) t30 t32).2).2) n3).bind fun r44 =>
      jn (fun t => B_Z28_J1 k c_Z0 c_i_nodeOk c_Z12 again2 t.1.1 t.1.2.1 t.2.1.1 t.2.2.1 t.2.2.2.1 t.2.2.2.2.1 t.2.2.2.2.2.1) ((g_Nodes, g_Root, ()), (r44.2.1.1, ()), t30, t31, t32, r44.1.1, ())
  else
    B_Z28_L3 k c_Z0 c_i_nodeOk c_Z12 k ((g_Nodes, g_Root, ()), g_Nodes, len g_Nodes, 0, ())
def B_Z28_L2 (k : Nat) (c_Z0 : C_Z0) (c_i_nodeOk : C_i_nodeOk) (c_Z12 : C_Z12) (n : Nat) (t : T_Z28_L2) : R_Z28 :=
  lfix n (fun again t => B_Z28_L2b k c_Z0 c_i_nodeOk c_Z12 again t.1.1 t.1.2.1 t.2.1.1 t.2.2.1 t.2.2.2.1 t.2.2.2.2.1) t
def B_Z28_J0 (k : Nat) (c_Z0 : C_Z0) (c_i_nodeOk : C_i_nodeOk) (c_Z12 : C_Z12) (g_Nodes : List (Int × Int × List Int)) (g_Root n3 : Int) (t28 : Bool) : R_Z28 :=
  bif t28 then
    some ((false, ()), ())
  else
    B_Z28_L2 k c_Z0 c_i_nodeOk c_Z12 k ((g_Nodes, g_Root, ()), (n3, ()), g_Nodes, len g_Nodes, 0, ())
def B_Z28 (k : Nat) (c_Z0 : C_Z0) (c_i_nodeOk : C_i_nodeOk) (c_Z12 : C_Z12) (g_0 : List (Int × Int × List Int)) (g_1 : Int) : R_Z28 :=
  bif decide ((len g_0) < 1) then
    jn (fun t => B_Z28_J0 k c_Z0 c_i_nodeOk c_Z12 t.1.1 t.1.2.1 t.2.1.1 t.2.2.1) ((g_0, g_1, ()), (len g_0, ()), true, ())
  else
    bif decide ((len g_0) > 12) then
      jn (fun t => B_Z28_J0 k c_Z0 c_i_nodeOk c_Z12 t.1.1 t.1.2.1 t.2.1.1 t.2.2.1) ((g_0, g_1, ()), (len g_0, ()), true, ())
    else
      bif decide (g_1 < 0) then
        jn (fun t => B_Z28_J0 k c_Z0 c_i_nodeOk c_Z12 t.1.1 t.1.2.1 t.2.1.1 t.2.2.1) ((g_0, g_1, ()), (len g_0, ()), true, ())
      else
        jn (fun t => B_Z28_J0 k c_Z0 c_i_nodeOk c_Z12 t.1.1 t.1.2.1 t.2.1.1 t.2.2.1) ((g_0, g_1, ()), (len g_0, ()), decide (g_1 ≥ (len g_0)), ())
def F_Z28 : Nat → C_Z28
  | 0, _, _ => none
  | k + 1, g_0, g_1 => B_Z28 k (F_Z0 k) (F_i_nodeOk k) (F_Z12 k) g_0 g_1
theorem tot_Z28 {g_0 g_1 : _} {Q : _ → Prop} (h : Tot (fun σ => B_Z28 (σ 0) (F_Z0 (σ 0)) (F_i_nodeOk (σ 0)) (F_Z12 (σ 0)) g_0 g_1) Q) : Tot (fun σ => F_Z28 (σ 0) g_0 g_1) Q :=
  Tot.call (F := fun k => F_Z28 k g_0 g_1) (B := fun k => B_Z28 k (F_Z0 k) (F_i_nodeOk k) (F_Z12 k) g_0 g_1) (fun k => rfl) h
abbrev A_Z28_L5 (Z : Type) : Type := (List (Int × Int × List Int)) → Int → Int → Int → Z
abbrev u_Z28_L5 {Z : Type} (f : A_Z28_L5 Z) (t : T_Z28_L5) : Z := f t.1.1 t.1.2.1 t.2.1 t.2.2.1
theorem loop_Z28_L5 {Q : A_Z28_L5 (((Bool × Unit) × (Unit)) → Prop)} (I : A_Z28_L5 Prop) (μ : A_Z28_L5 Nat)
    (step : ∀ a0 a1 a2 a3, I a0 a1 a2 a3 → ∀ again : (Nat → Nat) → T_Z28_L5 → R_Z28, Dep 2 again → (∀ y0 y1 y2 y3, I y0 y1 y2 y3 → μ y0 y1 y2 y3 < μ a0 a1 a2 a3 → Tot (fun σ => again σ ((y0, y1, ()), y2, y3, ())) (Q y0 y1 y2 y3)) →
      Tot (fun σ => B_Z28_L5b (σ 0) (F_Z0 (σ 0)) (F_i_nodeOk (σ 0)) (F_Z12 (σ 0)) (again σ) a0 a1 a2 a3) (Q a0 a1 a2 a3)) :
    ∀ a0 a1 a2 a3, I a0 a1 a2 a3 → Tot (fun σ => B_Z28_L5 (σ 0) (F_Z0 (σ 0)) (F_i_nodeOk (σ 0)) (F_Z12 (σ 0)) (σ 0) ((a0, a1, ()), a2, a3, ())) (Q a0 a1 a2 a3) := fun a0 a1 a2 a3 => Tot.loop0 (L := fun k => B_Z28_L5 k (F_Z0 k) (F_i_nodeOk k) (F_Z12 k)) (B := fun k g => u_Z28_L5 (B_Z28_L5b k (F_Z0 k) (F_i_nodeOk k) (F_Z12 k) g)) (Q := u_Z28_L5 Q) (fun _ _ _ => rfl) (u_Z28_L5 I) (u_Z28_L5 μ)
    (fun t ht again hag h => step t.1.1 t.1.2.1 t.2.1 t.2.2.1 ht again hag fun y0 y1 y2 y3 => h ((y0, y1, ()), y2, y3, ())) ((a0, a1, ()), a2, a3, ())
abbrev A_Z28_L3 (Z : Type) : Type := (List (Int × Int × List Int)) → Int → (List (Int × Int × List Int)) → Int → Int → Z
abbrev u_Z28_L3 {Z : Type} (f : A_Z28_L3 Z) (t : T_Z28_L3) : Z := f t.1.1 t.1.2.1 t.2.1 t.2.2.1 t.2.2.2.1
theorem loop_Z28_L3 {Q : A_Z28_L3 (((Bool × Unit) × (Unit)) → Prop)} (I : A_Z28_L3 Prop) (μ : A_Z28_L3 Nat)
    (step : ∀ a0 a1 a2 a3 a4, I a0 a1 a2 a3 a4 → ∀ again : (Nat → Nat) → T_Z28_L3 → R_Z28, Dep 2 again → (∀ y0 y1 y2 y3 y4, I y0 y1 y2 y3 y4 → μ y0 y1 y2 y3 y4 < μ a0 a1 a2 a3 a4 → Tot (fun σ => again σ ((y0, y1, ()), y2, y3, y4, ())) (Q y0 y1 y2 y3 y4)) →
      Tot (fun σ => B_Z28_L3b (σ 0) (F_Z0 (σ 0)) (F_i_nodeOk (σ 0)) (F_Z12 (σ 0)) (again σ) a0 a1 a2 a3 a4) (Q a0 a1 a2 a3 a4)) :
    ∀ a0 a1 a2 a3 a4, I a0 a1 a2 a3 a4 → Tot (fun σ => B_Z28_L3 (σ 0) (F_Z0 (σ 0)) (F_i_nodeOk (σ 0)) (F_Z12 (σ 0)) (σ 0) ((a0, a1, ()), a2, a3, a4, ())) (Q a0 a1 a2 a3 a4) := fun a0 a1 a2 a3 a4 => Tot.loop0 (L := fun k => B_Z28_L3 k (F_Z0 k) (F_i_nodeOk k) (F_Z12 k)) (B := fun k g => u_Z28_L3 (B_Z28_L3b k (F_Z0 k) (F_i_nodeOk k) (F_Z12 k) g)) (Q := u_Z28_L3 Q) (fun _ _ _ => rfl) (u_Z28_L3 I) (u_Z28_L3 μ)
    (fun t ht again hag h => step t.1.1 t.1.2.1 t.2.1 t.2.2.1 t.2.2.2.1 ht again hag fun y0 y1 y2 y3 y4 => h ((y0, y1, ()), y2, y3, y4, ())) ((a0, a1, ()), a2, a3, a4, ())
abbrev A_Z28_L2 (Z : Type) : Type := (List (Int × Int × List Int)) → Int → Int → (List (Int × Int × List Int)) → Int → Int → Z
abbrev u_Z28_L2 {Z : Type} (f : A_Z28_L2 Z) (t : T_Z28_L2) : Z := f t.1.1 t.1.2.1 t.2.1.1 t.2.2.1 t.2.2.2.1 t.2.2.2.2.1
theorem loop_Z28_L2 {Q : A_Z28_L2 (((Bool × Unit) × (Unit)) → Prop)} (I : A_Z28_L2 Prop) (μ : A_Z28_L2 Nat)
    (step : ∀ a0 a1 a2 a3 a4 a5, I a0 a1 a2 a3 a4 a5 → ∀ again : (Nat → Nat) → T_Z28_L2 → R_Z28, Dep 2 again → (∀ y0 y1 y2 y3 y4 y5, I y0 y1 y2 y3 y4 y5 → μ y0 y1 y2 y3 y4 y5 < μ a0 a1 a2 a3 a4 a5 → Tot (fun σ => again σ ((y0, y1, ()), (y2, ()), y3, y4, y5, ())) (Q y0 y1 y2 y3 y4 y5)) →
      Tot (fun σ => B_Z28_L2b (σ 0) (F_Z0 (σ 0)) (F_i_nodeOk (σ 0)) (F_Z12 (σ 0)) (again σ) a0 a1 a2 a3 a4 a5) (Q a0 a1 a2 a3 a4 a5)) :
    ∀ a0 a1 a2 a3 a4 a5, I a0 a1 a2 a3 a4 a5 → Tot (fun σ => B_Z28_L2 (σ 0) (F_Z0 (σ 0)) (F_i_nodeOk (σ 0)) (F_Z12 (σ 0)) (σ 0) ((a0, a1, ()), (a2, ()), a3, a4, a5, ())) (Q a0 a1 a2 a3 a4 a5) := fun a0 a1 a2 a3 a4 a5 => Tot.loop0 (L := fun k => B_Z28_L2 k (F_Z0 k) (F_i_nodeOk k) (F_Z12 k)) (B := fun k g => u_Z28_L2 (B_Z28_L2b k (F_Z0 k) (F_i_nodeOk k) (F_Z12 k) g)) (Q := u_Z28_L2 Q) (fun _ _ _ => rfl) (u_Z28_L2 I) (u_Z28_L2 μ)
    (fun t ht again hag h => step t.1.1 t.1.2.1 t.2.1.1 t.2.2.1 t.2.2.2.1 t.2.2.2.2.1 ht again hag fun y0 y1 y2 y3 y4 y5 => h ((y0, y1, ()), (y2, ()), y3, y4, y5, ())) ((a0, a1, ()), (a2, ()), a3, a4, a5, ())
abbrev R_Z33 : Type := Option ((Unit) × (((List (Int × Bool)) × Unit) × (List Int × Unit) × ((List (Int × Int × List Int)) × Int × Unit) × (Unit × Unit) × Unit))
abbrev C_Z33 : Type := Int → (List (Int × Bool)) → List Int → (List (Int × Int × List Int)) → Int → R_Z33
abbrev T_Z33_L0 : Type := ((List (Int × Bool)) × Unit) × (List Int × Unit) × ((List (Int × Int × List Int)) × Int × Unit) × (Unit × Unit) × List Int × Int × Int × Unit
def B_Z33_L0b (k : Nat) (c_Z33 : C_Z33) (again0 : T_Z33_L0 → R_Z33) (t1 : List (Int × Bool)) (t2 : List Int) (t3_Nodes : List (Int × Int × List Int)) (t3_Root : Int) (t22 : List Int) (t23 t24 : Int) : R_Z33 :=
  bif decide (t24 < t23) then
    chk (inb t24 t22.length) <|
    (c_Z33 (rdx (0 : Int) t22 t24) t1 t2 t3_Nodes t3_Root).bind fun r30 =>
    again0 ((r30.2.1.1, ()), (r30.2.2.1.1, ()), (r30.2.2.2.1.1, r30.2.2.2.1.2.1, ()), ((), ()), t22, t23, w64 (t24 + 1), ())
  else
    some ((), ((t1, ()), (t2, ()), (t3_Nodes, t3_Root, ()), ((), ()), ()))
def B_Z33_L0 (k : Nat) (c_Z33 : C_Z33) (n : Nat) (t : T_Z33_L0) : R_Z33 :=
  lfix n (fun again t => B_Z33_L0b k c_Z33 again t.1.1 t.2.1.1 t.2.2.1.1 t.2.2.1.2.1 t.2.2.2.2.1 t.2.2.2.2.2.1 t.2.2.2.2.2.2.1) t
def B_Z33 (k : Nat) (c_Z33 : C_Z33) (i : Int) (t1 : List (Int × Bool)) (t2 : List Int) (t3_Nodes : List (Int × Int × List Int)) (t3_Root : Int) : R_Z33 :=
  bif ((mfind t1 i).getD false) then
    some ((), ((t1, ()), (t2, ()), (t3_Nodes, t3_Root, ()), ((), ()), ()))
  else
    chk (room t2.length ([i]).length) <|
    chk (inb i t3_Nodes.length) <|
    B_Z33_L0 k c_Z33 k (((mput t1 i true), ()), ((t2 ++ [i]), ()), (t3_Nodes, t3_Root, ()), ((), ()), ((rdx ((0 : Int), ((0 : Int), ([] : List Int))) t3_Nodes i).2).2, len (((rdx ((0 : Int), ((0 : Int), ([] : List Int))) t3_Nodes i).2).2), 0, ())
def F_Z33 : Nat → C_Z33
  | 0, _, _, _, _, _ => none
  | k + 1, i, t1, t2, t3_Nodes, t3_Root => B_Z33 k (F_Z33 k) i t1 t2 t3_Nodes t3_Root
theorem F_Z33_succ (k : Nat) (i : Int) (t1 : List (Int × Bool)) (t2 : List Int) (t3_Nodes : List (Int × Int × List Int)) (t3_Root : Int) : F_Z33 (k + 1) i t1 t2 t3_Nodes t3_Root = B_Z33 k (F_Z33 k) i t1 t2 t3_Nodes t3_Root := by rw [F_Z33]
theorem tot_Z33 {i t1 t2 t3_Nodes t3_Root : _} {Q : _ → Prop} (h : Tot (fun σ => B_Z33 (σ 0) (F_Z33 (σ 0)) i t1 t2 t3_Nodes t3_Root) Q) : Tot (fun σ => F_Z33 (σ 0) i t1 t2 t3_Nodes t3_Root) Q :=
  Tot.call (F := fun k => F_Z33 k i t1 t2 t3_Nodes t3_Root) (B := fun k => B_Z33 k (F_Z33 k) i t1 t2 t3_Nodes t3_Root) (fun k => F_Z33_succ k i t1 t2 t3_Nodes t3_Root) h
abbrev A_Z33_L0 (Z : Type) : Type := (List (Int × Bool)) → List Int → (List (Int × Int × List Int)) → Int → List Int → Int → Int → Z
abbrev u_Z33_L0 {Z : Type} (f : A_Z33_L0 Z) (t : T_Z33_L0) : Z := f t.1.1 t.2.1.1 t.2.2.1.1 t.2.2.1.2.1 t.2.2.2.2.1 t.2.2.2.2.2.1 t.2.2.2.2.2.2.1
theorem loop_Z33_L0 {Q : A_Z33_L0 (((Unit) × (((List (Int × Bool)) × Unit) × (List Int × Unit) × ((List (Int × Int × List Int)) × Int × Unit) × (Unit × Unit) × Unit)) → Prop)} (I : A_Z33_L0 Prop) (μ : A_Z33_L0 Nat)
    (step : ∀ a0 a1 a2 a3 a4 a5 a6, I a0 a1 a2 a3 a4 a5 a6 → ∀ again : (Nat → Nat) → T_Z33_L0 → R_Z33, Dep 2 again → (∀ y0 y1 y2 y3 y4 y5 y6, I y0 y1 y2 y3 y4 y5 y6 → μ y0 y1 y2 y3 y4 y5 y6 < μ a0 a1 a2 a3 a4 a5 a6 → Tot (fun σ => again σ ((y0, ()), (y1, ()), (y2, y3, ()), ((), ()), y4, y5, y6, ())) (Q y0 y1 y2 y3 y4 y5 y6)) →
      Tot (fun σ => B_Z33_L0b (σ 0) (F_Z33 (σ 0)) (again σ) a0 a1 a2 a3 a4 a5 a6) (Q a0 a1 a2 a3 a4 a5 a6)) :
    ∀ a0 a1 a2 a3 a4 a5 a6, I a0 a1 a2 a3 a4 a5 a6 → Tot (fun σ => B_Z33_L0 (σ 0) (F_Z33 (σ 0)) (σ 0) ((a0, ()), (a1, ()), (a2, a3, ()), ((), ()), a4, a5, a6, ())) (Q a0 a1 a2 a3 a4 a5 a6) := fun a0 a1 a2 a3 a4 a5 a6 => Tot.loop0 (L := fun k => B_Z33_L0 k (F_Z33 k)) (B := fun k g => u_Z33_L0 (B_Z33_L0b k (F_Z33 k) g)) (Q := u_Z33_L0 Q) (fun _ _ _ => rfl) (u_Z33_L0 I) (u_Z33_L0 μ)
    (fun t ht again hag h => step t.1.1 t.2.1.1 t.2.2.1.1 t.2.2.1.2.1 t.2.2.2.2.1 t.2.2.2.2.2.1 t.2.2.2.2.2.2.1 ht again hag fun y0 y1 y2 y3 y4 y5 y6 => h ((y0, ()), (y1, ()), (y2, y3, ()), ((), ()), y4, y5, y6, ())) ((a0, ()), (a1, ()), (a2, a3, ()), ((), ()), a4, a5, a6, ())
abbrev R_Z55 : Type := Option ((List Int × Unit) × (Unit))
abbrev C_Z55 : Type := (List (Int × Int × List Int)) → Int → R_Z55
def B_Z55 (k : Nat) (c_Z33 : C_Z33) (g_0 : List (Int × Int × List Int)) (g_1 : Int) : R_Z55 :=
  (c_Z33 g_1 ([] : List (Int × Bool)) ([]) g_0 g_1).bind fun r12 =>
  some ((r12.2.2.1.1, ()), ())
def F_Z55 : Nat → C_Z55
  | 0, _, _ => none
  | k + 1, g_0, g_1 => B_Z55 k (F_Z33 k) g_0 g_1
theorem tot_Z55 {g_0 g_1 : _} {Q : _ → Prop} (h : Tot (fun σ => B_Z55 (σ 0) (F_Z33 (σ 0)) g_0 g_1) Q) : Tot (fun σ => F_Z55 (σ 0) g_0 g_1) Q :=
  Tot.call (F := fun k => F_Z55 k g_0 g_1) (B := fun k => B_Z55 k (F_Z33 k) g_0 g_1) (fun k => rfl) h
abbrev R_Z27 : Type := Option ((Bool × Unit) × (Unit))
abbrev C_Z27 : Type := Int → Int → List Int → R_Z27
def B_Z27 (k : Nat) (t0_0 t0_1 : Int) (t0_2 : List Int) : R_Z27 :=
  some ((true, ()), ())
def F_Z27 : Nat → C_Z27
  | 0, _, _, _ => none
  | k + 1, t0_0, t0_1, t0_2 => B_Z27 k t0_0 t0_1 t0_2
theorem tot_Z27 {t0_0 t0_1 t0_2 : _} {Q : _ → Prop} (h : Tot (fun σ => B_Z27 (σ 0) t0_0 t0_1 t0_2) Q) : Tot (fun σ => F_Z27 (σ 0) t0_0 t0_1 t0_2) Q :=
  Tot.call (F := fun k => F_Z27 k t0_0 t0_1 t0_2) (B := fun k => B_Z27 k t0_0 t0_1 t0_2) (fun k => rfl) h
abbrev R_Z16 : Type := Option ((Bool × Unit) × (Unit))
abbrev C_Z16 : Type := (List (Int × Int × List Int)) → Int → R_Z16
abbrev T_Z16_L2 : Type := (List (Int × Int × List Int)) × Int × Unit × (List (Int × Bool)) × List Int × List Int × Int × Int × Unit
abbrev T_Z16_L3 : Type := (List (Int × Int × List Int)) × Int × Unit × (List (Int × Bool)) × List Int × Unit
def B_Z16_J1 (k : Nat) (c_Z27 : C_Z27) (again2 : T_Z16_L2 → R_Z16) (nodes : List (Int × Int × List Int)) (from1 : Int) (seen : List (Int × Bool)) (list t33 : List Int) (t34 t35 : Int) : R_Z16 :=
  again2 (nodes, from1, (), seen, list, t33, t34, w64 (t35 + 1), ())
def B_Z16_J0 (k : Nat) (c_Z27 : C_Z27) (again2 : T_Z16_L2 → R_Z16) (nodes : List (Int × Int × List Int)) (from1 : Int) (seen : List (Int × Bool)) (list : List Int) (k11 : Int) (t33 : List Int) (t34 t35 : Int) (t53 : Bool) : R_Z16 :=
  bif t53 then
    chk (room list.length ([k11]).length) <|
    jn (fun t => B_Z16_J1 k c_Z27 again2 t.1 t.2.1 t.2.2.2.1 t.2.2.2.2.1 t.2.2.2.2.2.1 t.2.2.2.2.2.2.1 t.2.2.2.2.2.2.2.1) (nodes, from1, (), (mput seen k11 true), (list ++ [k11]), t33, t34, t35, ())
  else
    jn (fun t => B_Z16_J1 k c_Z27 again2 t.1 t.2.1 t.2.2.2.1 t.2.2.2.2.1 t.2.2.2.2.2.1 t.2.2.2.2.2.2.1 t.2.2.2.2.2.2.2.1) (nodes, from1, (), seen, list, t33, t34, t35, ())
def B_Z16_L2b (k : Nat) (c_Z27 : C_Z27) (again3 : T_Z16_L3 → R_Z16) (again2 : T_Z16_L2 → R_Z16) (nodes : List (Int × Int × List Int)) (from1 : Int) (seen : List (Int × Bool)) (list t33 : List Int) (t34 t35 : Int) : R_Z16 :=
  bif decide (t35 < t34) then
    chk (inb t35 t33.length) <|
    bif ((rdx (0 : Int) t33 t35) == from1) then
      some ((true, ()), ())
    else
      chk (inb (rdx (0 : Int) t33 t35) nodes.length) <|
      (c_Z27 ((rdx ((0 : Int), ((0 : Int), ([] : List Int))) nodes (rdx (0 : Int) t33 t35)).1) (((rdx ((0 : Int), ((0 : Int), ([] : List Int))) nodes (rdx (0 : Int) t33 t35)).2).1) (((rdx ((0 : Int), ((0 : Int), ([] : List Int))) nodes (rdx (0 : Int) t33 t35)).2).2)).bind fun r47 =>
      bif r47.1.1 then
        jn (fun t => B_Z16_J0 k c_Z27 again2 t.1 t.2.1 t.2.2.2.1 t.2.2.2.2.1 t.2.2.2.2.2.1 t.2.2.2.2.2.2.1 t.2.2.2.2.2.2.2.1 t.2.2.2.2.2.2.2.2.1 t.2.2.2.2.2.2.2.2.2.1) (nodes, from1, (), seen, list, (rdx (0 : Int) t33 t35), t33, t34, t35, (!((mfind seen (rdx (0 : Int) t33 t35)).getD false)), ())
      else
        jn (fun t => B_Z16_J0 k c_Z27 again2 t.1 t.2.1 t.2.2.2.1 t.2.2.2.2.1 t.2.2.2.2.2.1 t.2.2.2.2.2.2.1 t.2.2.2.2.2.2.2.1 t.2.2.2.2.2.2.2.2.1 t.2.2.2.2.2.2.2.2.2.1) (nodes, from1, (), seen, list, (rdx (0 : Int) t33 t35), t33, t34, t35, false, ())
  else
    again3 (nodes, from1, (), seen, list, ())
def B_Z16_L2 (k : Nat) (c_Z27 : C_Z27) (again3 : T_Z16_L3 → R_Z16) (n : Nat) (t : T_Z16_L2) : R_Z16 :=
  lfix n (fun again t => B_Z16_L2b k c_Z27 again3 again t.1 t.2.1 t.2.2.2.1 t.2.2.2.2.1 t.2.2.2.2.2.1 t.2.2.2.2.2.2.1 t.2.2.2.2.2.2.2.1) t
def B_Z16_L3b (k : Nat) (c_Z27 : C_Z27) (again3 : T_Z16_L3 → R_Z16) (nodes : List (Int × Int × List Int)) (from1 : Int) (seen : List (Int × Bool)) (list : List Int) : R_Z16 :=
  bif decide ((len list) > 0) then
    chk (inb (w64 ((len list) - 1)) list.length) <|
    chk (decide ((w64 ((len list) - 1)).toNat < list.length)) <|
    chk (cutb 0 (w64 ((len list) - 1)) list.length) <|
    chk (inb (list.getD ((w64 ((len list) - 1)).toNat) (0 : Int)) nodes.length) <|
    let v34 : Int := len (((rdx ((0 : Int), ((0 : Int), ([] : List Int))) nodes (list.getD ((w64 ((len list) - 1)).toNat) (0 : Int))).2).2)
    B_Z16_L2 k c_Z27 again3 k (nodes, from1, (), seen, (list.take ((w64 ((len list) - 1)).toNat)), ((rdx ((0 : Int), ((0 : Int), ([] : List Int))) nodes (list.getD ((w64 ((len list) - 1)).toNat) (0 : Int))).2).2, v34, 0, ())
  else
    some ((false, ()), ())
def B_Z16_L3 (k : Nat) (c_Z27 : C_Z27) (n : Nat) (t : T_Z16_L3) : R_Z16 :=
  lfix n (fun again t => B_Z16_L3b k c_Z27 again t.1 t.2.1 t.2.2.2.1 t.2.2.2.2.1) t
def B_Z16 (k : Nat) (c_Z27 : C_Z27) (nodes : List (Int × Int × List Int)) (from1 : Int) : R_Z16 :=
  B_Z16_L3 k c_Z27 k (nodes, from1, (), ([] : List (Int × Bool)), [from1], ())
def F_Z16 : Nat → C_Z16
  | 0, _, _ => none
  | k + 1, nodes, from1 => B_Z16 k (F_Z27 k) nodes from1
theorem tot_Z16 {nodes from1 : _} {Q : _ → Prop} (h : Tot (fun σ => B_Z16 (σ 0) (F_Z27 (σ 0)) nodes from1) Q) : Tot (fun σ => F_Z16 (σ 0) nodes from1) Q :=
  Tot.call (F := fun k => F_Z16 k nodes from1) (B := fun k => B_Z16 k (F_Z27 k) nodes from1) (fun k => rfl) h
abbrev A_Z16_L2 (Z : Type) : Type := (List (Int × Int × List Int)) → Int → (List (Int × Bool)) → List Int → List Int → Int → Int → Z
abbrev u_Z16_L2 {Z : Type} (f : A_Z16_L2 Z) (t : T_Z16_L2) : Z := f t.1 t.2.1 t.2.2.2.1 t.2.2.2.2.1 t.2.2.2.2.2.1 t.2.2.2.2.2.2.1 t.2.2.2.2.2.2.2.1
theorem loop_Z16_L2 {again3 : (Nat → Nat) → T_Z16_L3 → R_Z16} (hag3 : Dep 2 again3) {Q : A_Z16_L2 (((Bool × Unit) × (Unit)) → Prop)} (I : A_Z16_L2 Prop) (μ : A_Z16_L2 Nat)
    (step : ∀ a0 a1 a2 a3 a4 a5 a6, I a0 a1 a2 a3 a4 a5 a6 → ∀ again : (Nat → Nat) → T_Z16_L2 → R_Z16, Dep 3 again → (∀ y0 y1 y2 y3 y4 y5 y6, I y0 y1 y2 y3 y4 y5 y6 → μ y0 y1 y2 y3 y4 y5 y6 < μ a0 a1 a2 a3 a4 a5 a6 → Tot (fun σ => again σ (y0, y1, (), y2, y3, y4, y5, y6, ())) (Q y0 y1 y2 y3 y4 y5 y6)) →
      Tot (fun σ => B_Z16_L2b (σ 0) (F_Z27 (σ 0)) (again3 σ) (again σ) a0 a1 a2 a3 a4 a5 a6) (Q a0 a1 a2 a3 a4 a5 a6)) :
    ∀ a0 a1 a2 a3 a4 a5 a6, I a0 a1 a2 a3 a4 a5 a6 → Tot (fun σ => B_Z16_L2 (σ 0) (F_Z27 (σ 0)) (again3 σ) (σ 0) (a0, a1, (), a2, a3, a4, a5, a6, ())) (Q a0 a1 a2 a3 a4 a5 a6) := fun a0 a1 a2 a3 a4 a5 a6 => Tot.loop (L := fun σ n t => B_Z16_L2 (σ 0) (F_Z27 (σ 0)) (again3 σ) n t) (B := fun σ g => u_Z16_L2 (B_Z16_L2b (σ 0) (F_Z27 (σ 0)) (again3 σ) g)) (Q := u_Z16_L2 Q) 2 (by decide)
    (fun s s' h => by have e0 : s 0 = s' 0 := h 0 (by decide); simp only [e0, hag3 s s' h]) (fun s s' h => by have e0 : s 0 = s' 0 := h 0 (by decide); simp only [e0, hag3 s s' h]) (fun _ _ _ => rfl) (u_Z16_L2 I) (u_Z16_L2 μ)
    (fun t ht again hag h => step t.1 t.2.1 t.2.2.2.1 t.2.2.2.2.1 t.2.2.2.2.2.1 t.2.2.2.2.2.2.1 t.2.2.2.2.2.2.2.1 ht again hag fun y0 y1 y2 y3 y4 y5 y6 => h (y0, y1, (), y2, y3, y4, y5, y6, ())) (a0, a1, (), a2, a3, a4, a5, a6, ())
abbrev A_Z16_L3 (Z : Type) : Type := (List (Int × Int × List Int)) → Int → (List (Int × Bool)) → List Int → Z
abbrev u_Z16_L3 {Z : Type} (f : A_Z16_L3 Z) (t : T_Z16_L3) : Z := f t.1 t.2.1 t.2.2.2.1 t.2.2.2.2.1
theorem loop_Z16_L3 {Q : A_Z16_L3 (((Bool × Unit) × (Unit)) → Prop)} (I : A_Z16_L3 Prop) (μ : A_Z16_L3 Nat)
    (step : ∀ a0 a1 a2 a3, I a0 a1 a2 a3 → ∀ again : (Nat → Nat) → T_Z16_L3 → R_Z16, Dep 2 again → (∀ y0 y1 y2 y3, I y0 y1 y2 y3 → μ y0 y1 y2 y3 < μ a0 a1 a2 a3 → Tot (fun σ => again σ (y0, y1, (), y2, y3, ())) (Q y0 y1 y2 y3)) →
      Tot (fun σ => B_Z16_L3b (σ 0) (F_Z27 (σ 0)) (again σ) a0 a1 a2 a3) (Q a0 a1 a2 a3)) :
    ∀ a0 a1 a2 a3, I a0 a1 a2 a3 → Tot (fun σ => B_Z16_L3 (σ 0) (F_Z27 (σ 0)) (σ 0) (a0, a1, (), a2, a3, ())) (Q a0 a1 a2 a3) := fun a0 a1 a2 a3 => Tot.loop0 (L := fun k => B_Z16_L3 k (F_Z27 k)) (B := fun k g => u_Z16_L3 (B_Z16_L3b k (F_Z27 k) g)) (Q := u_Z16_L3 Q) (fun _ _ _ => rfl) (u_Z16_L3 I) (u_Z16_L3 μ)
    (fun t ht again hag h => step t.1 t.2.1 t.2.2.2.1 t.2.2.2.2.1 ht again hag fun y0 y1 y2 y3 => h (y0, y1, (), y2, y3, ())) (a0, a1, (), a2, a3, ())
abbrev R_Z46 : Type := Option ((Int × Unit) × (Unit))
abbrev C_Z46 : Type := Int → R_Z46
def B_Z46_J2 (k : Nat) (x n2 : Int) : R_Z46 :=
  chk (inb (wu8 (x)) (ByteArray.mk #[0, 1, 2, 2, 3, 3, 3, 3, 4, 4, 4, 4, 4, 4, 4, 4, 5, 5, 5, 5, 5, 5, 5, 5, 5, 5, 5, 5, 5, 5, 5, 5, 6, 6, 6, 6, 6, 6, 6, 6, 6, 6, 6, 6, 6, 6, 6, 6, 6, 6, 6, 6, 6, 6, 6, 6, 6, 6, 6, 6, 6, 6, 6, 6, 7, 7, 7, 7, 7, 7, 7, 7, 7, 7, 7, 7, 7, 7, 7, 7, 7, 7, 7, 7, 7, 7, 7, 7, 7, 7, 7, 7, 7, 7, 7, 7, 7, 7, 7, 7, 7, 7, 7, 7, 7, 7, 7, 7, 7, 7, 7, 7, 7, 7, 7, 7, 7, 7, 7, 7, 7, 7, 7, 7, 7, 7, 7, 7, 8, 8, 8, 8, 8, 8, 8, 8, 8, 8, 8, 8, 8, 8, 8, 8, 8, 8, 8, 8, 8, 8, 8, 8, 8, 8, 8, 8, 8, 8, 8, 8, 8, 8, 8, 8, 8, 8, 8, 8, 8, 8, 8, 8, 8, 8, 8, 8, 8, 8, 8, 8, 8, 8, 8, 8, 8, 8, 8, 8, 8, 8, 8, 8, 8, 8, 8, 8, 8, 8, 8, 8, 8, 8, 8, 8, 8, 8, 8, 8, 8, 8, 8, 8, 8, 8, 8, 8, 8, 8, 8, 8, 8, 8, 8, 8, 8, 8, 8, 8, 8, 8, 8, 8, 8, 8, 8, 8, 8, 8, 8, 8, 8, 8, 8, 8, 8, 8, 8, 8, 8, 8, 8, 8, 8, 8, 8, 8]).size) <|
  let v22 : Int := (btx (ByteArray.mk #[0, 1, 2, 2, 3, 3, 3, 3, 4, 4, 4, 4, 4, 4, 4, 4, 5, 5, 5, 5, 5, 5, 5, 5, 5, 5, 5, 5, 5, 5, 5, 5, 6, 6, 6, 6, 6, 6, 6, 6, 6, 6, 6, 6, 6, 6, 6, 6, 6, 6, 6, 6, 6, 6, 6, 6, 6, 6, 6, 6, 6, 6, 6, 6, 7, 7, 7, 7, 7, 7, 7, 7, 7, 7, 7, 7, 7, 7, 7, 7, 7, 7, 7, 7, 7, 7, 7, 7, 7, 7, 7, 7, 7, 7, 7, 7, 7, 7, 7, 7, 7, 7, 7, 7, 7, 7, 7, 7, 7, 7, 7, 7, 7, 7, 7, 7, 7, 7, 7, 7, 7, 7, 7, 7, 7, 7, 7, 7, 8, 8, 8, 8, 8, 8, 8, 8, 8, 8, 8, 8, 8, 8, 8, 8, 8, 8, 8, 8, 8, 8, 8, 8, 8, 8, 8, 8, 8, 8, 8, 8, 8, 8, 8, 8, 8, 8, 8, 8, 8, 8, 8, 8, 8, 8, 8, 8, 8, 8, 8, 8, 8, 8, 8, 8, 8, 8, 8, 8, 8, 8, 8, 8, 8, 8, 8, 8, 8, 8, 8, 8, 8, 8, 8, 8, 8, 8, 8, 8, 8, 8, 8, 8, 8, 8, 8, 8, 8, 8, 8, 8, 8, 8, 8, 8, 8, 8, 8, 8, 8, 8, 8, 8, 8, 8, 8, 8, 8, 8, 8, 8, 8, 8, 8, 8, 8, 8, 8, 8, 8, 8, 8, 8, 8, 8, 8, 8]) (wu8 (x)))
  some ((w64 (n2 + (w64 (v22))), ()), ())
def B_Z46_J1 (k : Nat) (x n2 : Int) : R_Z46 :=
  bif decide (x ≥ 256) then
    jn (fun t => B_Z46_J2 k t.1 t.2.1) ((shrK .u64 x 8), w64 (n2 + 8), ())
  else
    jn (fun t => B_Z46_J2 k t.1 t.2.1) (x, n2, ())
def B_Z46_J0 (k : Nat) (x n2 : Int) : R_Z46 :=
  bif decide (x ≥ 65536) then
    jn (fun t => B_Z46_J1 k t.1 t.2.1) ((shrK .u64 x 16), w64 (n2 + 16), ())
  else
    jn (fun t => B_Z46_J1 k t.1 t.2.1) (x, n2, ())
def B_Z46 (k : Nat) (x : Int) : R_Z46 :=
  bif decide (x ≥ 4294967296) then
    jn (fun t => B_Z46_J0 k t.1 t.2.1) ((shrK .u64 x 32), 32, ())
  else
    jn (fun t => B_Z46_J0 k t.1 t.2.1) (x, 0, ())
def F_Z46 : Nat → C_Z46
  | 0, _ => none
  | k + 1, x => B_Z46 k x
theorem tot_Z46 {x : _} {Q : _ → Prop} (h : Tot (fun σ => B_Z46 (σ 0) x) Q) : Tot (fun σ => F_Z46 (σ 0) x) Q :=
  Tot.call (F := fun k => F_Z46 k x) (B := fun k => B_Z46 k x) (fun k => rfl) h
abbrev R_bits_Len : Type := Option ((Int × Unit) × (Unit))
abbrev C_bits_Len : Type := Int → R_bits_Len
def B_bits_Len (k : Nat) (c_Z46 : C_Z46) (x : Int) : R_bits_Len :=
  (c_Z46 x).bind fun r7 =>
  some ((r7.1.1, ()), ())
def F_bits_Len : Nat → C_bits_Len
  | 0, _ => none
  | k + 1, x => B_bits_Len k (F_Z46 k) x
theorem tot_bits_Len {x : _} {Q : _ → Prop} (h : Tot (fun σ => B_bits_Len (σ 0) (F_Z46 (σ 0)) x) Q) : Tot (fun σ => F_bits_Len (σ 0) x) Q :=
  Tot.call (F := fun k => F_bits_Len k x) (B := fun k => B_bits_Len k (F_Z46 k) x) (fun k => rfl) h
abbrev R_Z26 : Type := Option ((Bool × Unit) × (Unit))
abbrev C_Z26 : Type := Int → R_Z26
def B_Z26 (k : Nat) (x : Int) : R_Z26 :=
  some (((x != x), ()), ())
def F_Z26 : Nat → C_Z26
  | 0, _ => none
  | k + 1, x => B_Z26 k x
theorem tot_Z26 {x : _} {Q : _ → Prop} (h : Tot (fun σ => B_Z26 (σ 0) x) Q) : Tot (fun σ => F_Z26 (σ 0) x) Q :=
  Tot.call (F := fun k => F_Z26 k x) (B := fun k => B_Z26 k x) (fun k => rfl) h
abbrev R_Z29 : Type := Option ((Bool × Unit) × (Unit))
abbrev C_Z29 : Type := Int → Int → R_Z29
def B_Z29 (k : Nat) (c_Z26 : C_Z26) (x y : Int) : R_Z29 :=
  (c_Z26 x).bind fun r6 =>
  bif r6.1.1 then
    (c_Z26 y).bind fun r9 =>
    bif (!r9.1.1) then
      some ((true, ()), ())
    else
      some ((decide (x < y), ()), ())
  else
    some ((decide (x < y), ()), ())
def F_Z29 : Nat → C_Z29
  | 0, _, _ => none
  | k + 1, x, y => B_Z29 k (F_Z26 k) x y
theorem tot_Z29 {x y : _} {Q : _ → Prop} (h : Tot (fun σ => B_Z29 (σ 0) (F_Z26 (σ 0)) x y) Q) : Tot (fun σ => F_Z29 (σ 0) x y) Q :=
  Tot.call (F := fun k => F_Z29 k x y) (B := fun k => B_Z29 k (F_Z26 k) x y) (fun k => rfl) h
abbrev R_Z6 : Type := Option ((Unit) × (List Int × Unit))
abbrev C_Z6 : Type := List Int → Int → Int → R_Z6
abbrev T_Z6_L1 : Type := List Int × Int × Int × Int × Int × Unit
abbrev T_Z6_L2 : Type := List Int × Int × Int × Int × Unit
def B_Z6_J0 (k : Nat) (c_Z29 : C_Z29) (again1 : T_Z6_L1 → R_Z6) (again2 : T_Z6_L2 → R_Z6) (data : List Int) (a b i j : Int) (t30 : Bool) : R_Z6 :=
  bif t30 then
    chk (inb (w64 (j - 1)) data.length) <|
    chk (decide ((w64 (j - 1)).toNat < data.length)) <|
    chk (inb j data.length) <|
    chk (decide (j.toNat < data.length)) <|
    chk (inb j data.length) <|
    chk (decide (j.toNat < data.length)) <|
    chk (inb (w64 (j - 1)) (data.set j.toNat (data.getD ((w64 (j - 1)).toNat) (0 : Int))).length) <|
    chk (decide ((w64 (j - 1)).toNat < (data.set j.toNat (data.getD ((w64 (j - 1)).toNat) (0 : Int))).length)) <|
    again1 (((data.set j.toNat (data.getD ((w64 (j - 1)).toNat) (0 : Int))).set ((w64 (j - 1)).toNat) (data.getD j.toNat (0 : Int))), a, b, i, w64 (j - 1), ())
  else
    again2 (data, a, b, w64 (i + 1), ())
def B_Z6_L1b (k : Nat) (c_Z29 : C_Z29) (again2 : T_Z6_L2 → R_Z6) (again1 : T_Z6_L1 → R_Z6) (data : List Int) (a b i j : Int) : R_Z6 :=
  bif decide (j > a) then
    chk (inb j data.length) <|
    chk (decide (j.toNat < data.length)) <|
    chk (inb (w64 (j - 1)) data.length) <|
    chk (decide ((w64 (j - 1)).toNat < data.length)) <|
    (c_Z29 (data.getD j.toNat (0 : Int)) (data.getD ((w64 (j - 1)).toNat) (0 : Int))).bind fun r29 =>
    jn (fun t => B_Z6_J0 k c_Z29 again1 again2 t.1 t.2.1 t.2.2.1 t.2.2.2.1 t.2.2.2.2.1 t.2.2.2.2.2.1) (data, a, b, i, j, r29.1.1, ())
  else
    jn (fun t => B_Z6_J0 k c_Z29 again1 again2 t.1 t.2.1 t.2.2.1 t.2.2.2.1 t.2.2.2.2.1 t.2.2.2.2.2.1) (data, a, b, i, j, false, ())
def B_Z6_L1 (k : Nat) (c_Z29 : C_Z29) (again2 : T_Z6_L2 → R_Z6) (n : Nat) (t : T_Z6_L1) : R_Z6 :=
  lfix n (fun again t => B_Z6_L1b k c_Z29 again2 again t.1 t.2.1 t.2.2.1 t.2.2.2.1 t.2.2.2.2.1) t
def B_Z6_L2b (k : Nat) (c_Z29 : C_Z29) (again2 : T_Z6_L2 → R_Z6) (data : List Int) (a b i : Int) : R_Z6 :=
  bif decide (i < b) then
    B_Z6_L1 k c_Z29 again2 k (data, a, b, i, i, ())
  else
    some ((), (data, ()))
def B_Z6_L2 (k : Nat) (c_Z29 : C_Z29) (n : Nat) (t : T_Z6_L2) : R_Z6 :=
  lfix n (fun again t => B_Z6_L2b k c_Z29 again t.1 t.2.1 t.2.2.1 t.2.2.2.1) t
def B_Z6 (k : Nat) (c_Z29 : C_Z29) (data : List Int) (a b : Int) : R_Z6 :=
  B_Z6_L2 k c_Z29 k (data, a, b, w64 (a + 1), ())
def F_Z6 : Nat → C_Z6
  | 0, _, _, _ => none
  | k + 1, data, a, b => B_Z6 k (F_Z29 k) data a b
theorem tot_Z6 {data a b : _} {Q : _ → Prop} (h : Tot (fun σ => B_Z6 (σ 0) (F_Z29 (σ 0)) data a b) Q) : Tot (fun σ => F_Z6 (σ 0) data a b) Q :=
  Tot.call (F := fun k => F_Z6 k data a b) (B := fun k => B_Z6 k (F_Z29 k) data a b) (fun k => rfl) h
abbrev A_Z6_L1 (Z : Type) : Type := List Int → Int → Int → Int → Int → Z
abbrev u_Z6_L1 {Z : Type} (f : A_Z6_L1 Z) (t : T_Z6_L1) : Z := f t.1 t.2.1 t.2.2.1 t.2.2.2.1 t.2.2.2.2.1
theorem loop_Z6_L1 {again2 : (Nat → Nat) → T_Z6_L2 → R_Z6} (hag2 : Dep 2 again2) {Q : A_Z6_L1 (((Unit) × (List Int × Unit)) → Prop)} (I : A_Z6_L1 Prop) (μ : A_Z6_L1 Nat)
    (step : ∀ a0 a1 a2 a3 a4, I a0 a1 a2 a3 a4 → ∀ again : (Nat → Nat) → T_Z6_L1 → R_Z6, Dep 3 again → (∀ y0 y1 y2 y3 y4, I y0 y1 y2 y3 y4 → μ y0 y1 y2 y3 y4 < μ a0 a1 a2 a3 a4 → Tot (fun σ => again σ (y0, y1, y2, y3, y4, ())) (Q y0 y1 y2 y3 y4)) →
      Tot (fun σ => B_Z6_L1b (σ 0) (F_Z29 (σ 0)) (again2 σ) (again σ) a0 a1 a2 a3 a4) (Q a0 a1 a2 a3 a4)) :
    ∀ a0 a1 a2 a3 a4, I a0 a1 a2 a3 a4 → Tot (fun σ => B_Z6_L1 (σ 0) (F_Z29 (σ 0)) (again2 σ) (σ 0) (a0, a1, a2, a3, a4, ())) (Q a0 a1 a2 a3 a4) := fun a0 a1 a2 a3 a4 => Tot.loop (L := fun σ n t => B_Z6_L1 (σ 0) (F_Z29 (σ 0)) (again2 σ) n t) (B := fun σ g => u_Z6_L1 (B_Z6_L1b (σ 0) (F_Z29 (σ 0)) (again2 σ) g)) (Q := u_Z6_L1 Q) 2 (by decide)
    (fun s s' h => by have e0 : s 0 = s' 0 := h 0 (by decide); simp only [e0, hag2 s s' h]) (fun s s' h => by have e0 : s 0 = s' 0 := h 0 (by decide); simp only [e0, hag2 s s' h]) (fun _ _ _ => rfl) (u_Z6_L1 I) (u_Z6_L1 μ)
    (fun t ht again hag h => step t.1 t.2.1 t.2.2.1 t.2.2.2.1 t.2.2.2.2.1 ht again hag fun y0 y1 y2 y3 y4 => h (y0, y1, y2, y3, y4, ())) (a0, a1, a2, a3, a4, ())
abbrev A_Z6_L2 (Z : Type) : Type := List Int → Int → Int → Int → Z
abbrev u_Z6_L2 {Z : Type} (f : A_Z6_L2 Z) (t : T_Z6_L2) : Z := f t.1 t.2.1 t.2.2.1 t.2.2.2.1
theorem loop_Z6_L2 {Q : A_Z6_L2 (((Unit) × (List Int × Unit)) → Prop)} (I : A_Z6_L2 Prop) (μ : A_Z6_L2 Nat)
    (step : ∀ a0 a1 a2 a3, I a0 a1 a2 a3 → ∀ again : (Nat → Nat) → T_Z6_L2 → R_Z6, Dep 2 again → (∀ y0 y1 y2 y3, I y0 y1 y2 y3 → μ y0 y1 y2 y3 < μ a0 a1 a2 a3 → Tot (fun σ => again σ (y0, y1, y2, y3, ())) (Q y0 y1 y2 y3)) →
      Tot (fun σ => B_Z6_L2b (σ 0) (F_Z29 (σ 0)) (again σ) a0 a1 a2 a3) (Q a0 a1 a2 a3)) :
    ∀ a0 a1 a2 a3, I a0 a1 a2 a3 → Tot (fun σ => B_Z6_L2 (σ 0) (F_Z29 (σ 0)) (σ 0) (a0, a1, a2, a3, ())) (Q a0 a1 a2 a3) := fun a0 a1 a2 a3 => Tot.loop0 (L := fun k => B_Z6_L2 k (F_Z29 k)) (B := fun k g => u_Z6_L2 (B_Z6_L2b k (F_Z29 k) g)) (Q := u_Z6_L2 Q) (fun _ _ _ => rfl) (u_Z6_L2 I) (u_Z6_L2 μ)
    (fun t ht again hag h => step t.1 t.2.1 t.2.2.1 t.2.2.2.1 ht again hag fun y0 y1 y2 y3 => h (y0, y1, y2, y3, ())) (a0, a1, a2, a3, ())
abbrev R_Z11 : Type := Option ((Unit) × (List Int × Unit))
abbrev C_Z11 : Type := List Int → Int → Int → Int → R_Z11
abbrev T_Z11_L2 : Type := List Int × Int × Int × Int × Unit
def B_Z11_J1 (k : Nat) (c_Z29 : C_Z29) (again2 : T_Z11_L2 → R_Z11) (data : List Int) (hi first root child : Int) : R_Z11 :=
  chk (inb (w64 (first + root)) data.length) <|
  chk (decide ((w64 (first + root)).toNat < data.length)) <|
  chk (inb (w64 (first + child)) data.length) <|
  chk (decide ((w64 (first + child)).toNat < data.length)) <|
  (c_Z29 (data.getD ((w64 (first + root)).toNat) (0 : Int)) (data.getD ((w64 (first + child)).toNat) (0 : Int))).bind fun r51 =>
  bif (!r51.1.1) then
    some ((), (data, ()))
  else
    chk (inb (w64 (first + child)) data.length) <|
    chk (decide ((w64 (first + child)).toNat < data.length)) <|
    chk (inb (w64 (first + root)) data.length) <|
    chk (decide ((w64 (first + root)).toNat < data.length)) <|
    chk (inb (w64 (first + root)) data.length) <|
    chk (decide ((w64 (first + root)).toNat < data.length)) <|
    chk (inb (w64 (first + child)) (data.set ((w64 (first + root)).toNat) (data.getD ((w64 (first + child)).toNat) (0 : Int))).length) <|
    chk (decide ((w64 (first + child)).toNat < (data.set ((w64 (first + root)).toNat) (data.getD ((w64 (first + child)).toNat) (0 : Int))).length)) <|
    again2 (((data.set ((w64 (first + root)).toNat) (data.getD ((w64 (first + child)).toNat) (0 : Int))).set ((w64 (first + child)).toNat) (data.getD ((w64 (first + root)).toNat) (0 : Int))), hi, first, child, ())
def B_Z11_J0 (k : Nat) (c_Z29 : C_Z29) (again2 : T_Z11_L2 → R_Z11) (data : List Int) (hi first root child : Int) (t36 : Bool) : R_Z11 :=
  bif t36 then
    jn (fun t => B_Z11_J1 k c_Z29 again2 t.1 t.2.1 t.2.2.1 t.2.2.2.1 t.2.2.2.2.1) (data, hi, first, root, w64 (child + 1), ())
  else
    jn (fun t => B_Z11_J1 k c_Z29 again2 t.1 t.2.1 t.2.2.1 t.2.2.2.1 t.2.2.2.2.1) (data, hi, first, root, child, ())
def B_Z11_L2b (k : Nat) (c_Z29 : C_Z29) (again2 : T_Z11_L2 → R_Z11) (data : List Int) (hi first root : Int) : R_Z11 :=
  bif decide ((w64 ((w64 (2 * root)) + 1)) ≥ hi) then
    some ((), (data, ()))
  else
    bif decide ((w64 ((w64 ((w64 (2 * root)) + 1)) + 1)) < hi) then
      chk (inb (w64 (first + (w64 ((w64 (2 * root)) + 1)))) data.length) <|
      chk (decide ((w64 (first + (w64 ((w64 (2 * root)) + 1)))).toNat < data.length)) <|
      chk (inb (w64 ((w64 (first + (w64 ((w64 (2 * root)) + 1)))) + 1)) data.length) <|
      chk (decide ((w64 ((w64 (first + (w64 ((w64 (2 * root)) + 1)))) + 1)).toNat < data.length)) <|
      (c_Z29 (data.getD ((w64 (first + (w64 ((w64 (2 * root)) + 1)))).toNat) (0 : Int)) (data.getD ((w64 ((w64 (first + (w64 ((w64 (2 * root)) + 1)))) + 1)).toNat) (0 : Int))).bind fun r35 =>
      jn (fun t => B_Z11_J0 k c_Z29 again2 t.1 t.2.1 t.2.2.1 t.2.2.2.1 t.2.2.2.2.1 t.2.2.2.2.2.1) (data, hi, first, root, w64 ((w64 (2 * root)) + 1), r35.1.1, ())
    else
      jn (fun t => B_Z11_J0 k c_Z29 again2 t.1 t.2.1 t.2.2.1 t.2.2.2.1 t.2.2.2.2.1 t.2.2.2.2.2.1) (data, hi, first, root, w64 ((w64 (2 * root)) + 1), false, ())
def B_Z11_L2 (k : Nat) (c_Z29 : C_Z29) (n : Nat) (t : T_Z11_L2) : R_Z11 :=
  lfix n (fun again t => B_Z11_L2b k c_Z29 again t.1 t.2.1 t.2.2.1 t.2.2.2.1) t
def B_Z11 (k : Nat) (c_Z29 : C_Z29) (data : List Int) (lo hi first : Int) : R_Z11 :=
  B_Z11_L2 k c_Z29 k (data, hi, first, lo, ())
def F_Z11 : Nat → C_Z11
  | 0, _, _, _, _ => none
  | k + 1, data, lo, hi, first => B_Z11 k (F_Z29 k) data lo hi first
theorem tot_Z11 {data lo hi first : _} {Q : _ → Prop} (h : Tot (fun σ => B_Z11 (σ 0) (F_Z29 (σ 0)) data lo hi first) Q) : Tot (fun σ => F_Z11 (σ 0) data lo hi first) Q :=
  Tot.call (F := fun k => F_Z11 k data lo hi first) (B := fun k => B_Z11 k (F_Z29 k) data lo hi first) (fun k => rfl) h
abbrev A_Z11_L2 (Z : Type) : Type := List Int → Int → Int → Int → Z
abbrev u_Z11_L2 {Z : Type} (f : A_Z11_L2 Z) (t : T_Z11_L2) : Z := f t.1 t.2.1 t.2.2.1 t.2.2.2.1
theorem loop_Z11_L2 {Q : A_Z11_L2 (((Unit) × (List Int × Unit)) → Prop)} (I : A_Z11_L2 Prop) (μ : A_Z11_L2 Nat)
    (step : ∀ a0 a1 a2 a3, I a0 a1 a2 a3 → ∀ again : (Nat → Nat) → T_Z11_L2 → R_Z11, Dep 2 again → (∀ y0 y1 y2 y3, I y0 y1 y2 y3 → μ y0 y1 y2 y3 < μ a0 a1 a2 a3 → Tot (fun σ => again σ (y0, y1, y2, y3, ())) (Q y0 y1 y2 y3)) →
      Tot (fun σ => B_Z11_L2b (σ 0) (F_Z29 (σ 0)) (again σ) a0 a1 a2 a3) (Q a0 a1 a2 a3)) :
    ∀ a0 a1 a2 a3, I a0 a1 a2 a3 → Tot (fun σ => B_Z11_L2 (σ 0) (F_Z29 (σ 0)) (σ 0) (a0, a1, a2, a3, ())) (Q a0 a1 a2 a3) := fun a0 a1 a2 a3 => Tot.loop0 (L := fun k => B_Z11_L2 k (F_Z29 k)) (B := fun k g => u_Z11_L2 (B_Z11_L2b k (F_Z29 k) g)) (Q := u_Z11_L2 Q) (fun _ _ _ => rfl) (u_Z11_L2 I) (u_Z11_L2 μ)
    (fun t ht again hag h => step t.1 t.2.1 t.2.2.1 t.2.2.2.1 ht again hag fun y0 y1 y2 y3 => h (y0, y1, y2, y3, ())) (a0, a1, a2, a3, ())
abbrev R_Z10 : Type := Option ((Unit) × (List Int × Unit))
abbrev C_Z10 : Type := List Int → Int → Int → R_Z10
abbrev T_Z10_L1 : Type := List Int × Int × Int × Int × Unit
abbrev T_Z10_L0 : Type := List Int × Int × Int × Int × Int × Unit
def B_Z10_L1b (k : Nat) (c_Z11 : C_Z11) (again1 : T_Z10_L1 → R_Z10) (data : List Int) (first lo i : Int) : R_Z10 :=
  bif decide (i ≥ 0) then
    chk (inb (w64 (first + i)) data.length) <|
    chk (decide ((w64 (first + i)).toNat < data.length)) <|
    chk (inb first data.length) <|
    chk (decide (first.toNat < data.length)) <|
    chk (inb first data.length) <|
    chk (decide (first.toNat < data.length)) <|
    chk (inb (w64 (first + i)) (data.set first.toNat (data.getD ((w64 (first + i)).toNat) (0 : Int))).length) <|
    chk (decide ((w64 (first + i)).toNat < (data.set first.toNat (data.getD ((w64 (first + i)).toNat) (0 : Int))).length)) <|
    (c_Z11 ((data.set first.toNat (data.getD ((w64 (first + i)).toNat) (0 : Int))).set ((w64 (first + i)).toNat) (data.getD first.toNat (0 : Int))) lo i first).bind fun r55 =>
    again1 (r55.2.1, first, lo, w64 (i - 1), ())
  else
    some ((), (data, ()))
def B_Z10_L1 (k : Nat) (c_Z11 : C_Z11) (n : Nat) (t : T_Z10_L1) : R_Z10 :=
  lfix n (fun again t => B_Z10_L1b k c_Z11 again t.1 t.2.1 t.2.2.1 t.2.2.2.1) t
def B_Z10_L0b (k : Nat) (c_Z11 : C_Z11) (again0 : T_Z10_L0 → R_Z10) (data : List Int) (first lo hi i : Int) : R_Z10 :=
  bif decide (i ≥ 0) then
    (c_Z11 data i hi first).bind fun r26 =>
    again0 (r26.2.1, first, lo, hi, w64 (i - 1), ())
  else
    B_Z10_L1 k c_Z11 k (data, first, lo, w64 (hi - 1), ())
def B_Z10_L0 (k : Nat) (c_Z11 : C_Z11) (n : Nat) (t : T_Z10_L0) : R_Z10 :=
  lfix n (fun again t => B_Z10_L0b k c_Z11 again t.1 t.2.1 t.2.2.1 t.2.2.2.1 t.2.2.2.2.1) t
def B_Z10 (k : Nat) (c_Z11 : C_Z11) (data : List Int) (a b : Int) : R_Z10 :=
  B_Z10_L0 k c_Z11 k (data, a, 0, w64 (b - a), w64 ((w64 ((w64 (b - a)) - 1)).tdiv 2), ())
def F_Z10 : Nat → C_Z10
  | 0, _, _, _ => none
  | k + 1, data, a, b => B_Z10 k (F_Z11 k) data a b
theorem tot_Z10 {data a b : _} {Q : _ → Prop} (h : Tot (fun σ => B_Z10 (σ 0) (F_Z11 (σ 0)) data a b) Q) : Tot (fun σ => F_Z10 (σ 0) data a b) Q :=
  Tot.call (F := fun k => F_Z10 k data a b) (B := fun k => B_Z10 k (F_Z11 k) data a b) (fun k => rfl) h
abbrev A_Z10_L1 (Z : Type) : Type := List Int → Int → Int → Int → Z
abbrev u_Z10_L1 {Z : Type} (f : A_Z10_L1 Z) (t : T_Z10_L1) : Z := f t.1 t.2.1 t.2.2.1 t.2.2.2.1
theorem loop_Z10_L1 {Q : A_Z10_L1 (((Unit) × (List Int × Unit)) → Prop)} (I : A_Z10_L1 Prop) (μ : A_Z10_L1 Nat)
    (step : ∀ a0 a1 a2 a3, I a0 a1 a2 a3 → ∀ again : (Nat → Nat) → T_Z10_L1 → R_Z10, Dep 2 again → (∀ y0 y1 y2 y3, I y0 y1 y2 y3 → μ y0 y1 y2 y3 < μ a0 a1 a2 a3 → Tot (fun σ => again σ (y0, y1, y2, y3, ())) (Q y0 y1 y2 y3)) →
      Tot (fun σ => B_Z10_L1b (σ 0) (F_Z11 (σ 0)) (again σ) a0 a1 a2 a3) (Q a0 a1 a2 a3)) :
    ∀ a0 a1 a2 a3, I a0 a1 a2 a3 → Tot (fun σ => B_Z10_L1 (σ 0) (F_Z11 (σ 0)) (σ 0) (a0, a1, a2, a3, ())) (Q a0 a1 a2 a3) := fun a0 a1 a2 a3 => Tot.loop0 (L := fun k => B_Z10_L1 k (F_Z11 k)) (B := fun k g => u_Z10_L1 (B_Z10_L1b k (F_Z11 k) g)) (Q := u_Z10_L1 Q) (fun _ _ _ => rfl) (u_Z10_L1 I) (u_Z10_L1 μ)
    (fun t ht again hag h => step t.1 t.2.1 t.2.2.1 t.2.2.2.1 ht again hag fun y0 y1 y2 y3 => h (y0, y1, y2, y3, ())) (a0, a1, a2, a3, ())
abbrev A_Z10_L0 (Z : Type) : Type := List Int → Int → Int → Int → Int → Z
abbrev u_Z10_L0 {Z : Type} (f : A_Z10_L0 Z) (t : T_Z10_L0) : Z := f t.1 t.2.1 t.2.2.1 t.2.2.2.1 t.2.2.2.2.1
theorem loop_Z10_L0 {Q : A_Z10_L0 (((Unit) × (List Int × Unit)) → Prop)} (I : A_Z10_L0 Prop) (μ : A_Z10_L0 Nat)
    (step : ∀ a0 a1 a2 a3 a4, I a0 a1 a2 a3 a4 → ∀ again : (Nat → Nat) → T_Z10_L0 → R_Z10, Dep 2 again → (∀ y0 y1 y2 y3 y4, I y0 y1 y2 y3 y4 → μ y0 y1 y2 y3 y4 < μ a0 a1 a2 a3 a4 → Tot (fun σ => again σ (y0, y1, y2, y3, y4, ())) (Q y0 y1 y2 y3 y4)) →
      Tot (fun σ => B_Z10_L0b (σ 0) (F_Z11 (σ 0)) (again σ) a0 a1 a2 a3 a4) (Q a0 a1 a2 a3 a4)) :
    ∀ a0 a1 a2 a3 a4, I a0 a1 a2 a3 a4 → Tot (fun σ => B_Z10_L0 (σ 0) (F_Z11 (σ 0)) (σ 0) (a0, a1, a2, a3, a4, ())) (Q a0 a1 a2 a3 a4) := fun a0 a1 a2 a3 a4 => Tot.loop0 (L := fun k => B_Z10_L0 k (F_Z11 k)) (B := fun k g => u_Z10_L0 (B_Z10_L0b k (F_Z11 k) g)) (Q := u_Z10_L0 Q) (fun _ _ _ => rfl) (u_Z10_L0 I) (u_Z10_L0 μ)
    (fun t ht again hag h => step t.1 t.2.1 t.2.2.1 t.2.2.2.1 t.2.2.2.2.1 ht again hag fun y0 y1 y2 y3 y4 => h (y0, y1, y2, y3, y4, ())) (a0, a1, a2, a3, a4, ())
abbrev R_Z17 : Type := Option ((Int × Unit) × (Unit))
abbrev C_Z17 : Type := Int → R_Z17
def B_Z17 (k : Nat) (c_bits_Len : C_bits_Len) (length : Int) : R_Z17 :=
  (c_bits_Len (IntKind.wrap .u64 (length))).bind fun r5 =>
  chk (decide (0 ≤ r5.1.1)) <|
  some (((shlK .u64 1 r5.1.1), ()), ())
def F_Z17 : Nat → C_Z17
  | 0, _ => none
  | k + 1, length => B_Z17 k (F_bits_Len k) length
theorem tot_Z17 {length : _} {Q : _ → Prop} (h : Tot (fun σ => B_Z17 (σ 0) (F_bits_Len (σ 0)) length) Q) : Tot (fun σ => F_Z17 (σ 0) length) Q :=
  Tot.call (F := fun k => F_Z17 k length) (B := fun k => B_Z17 k (F_bits_Len k) length) (fun k => rfl) h
abbrev R_Z19 : Type := Option ((Int × Unit) × ((Int × Unit) × Unit))
abbrev C_Z19 : Type := Int → R_Z19
def B_Z19 (k : Nat) (r : Int) : R_Z19 :=
  let v27 : Int := (shlK .u64 (xorK .u64 (xorK .u64 r (shlK .u64 r 13)) (shrK .u64 (xorK .u64 r (shlK .u64 r 13)) 7)) 17)
  let v28 : Int := (xorK .u64 (xorK .u64 (xorK .u64 r (shlK .u64 r 13)) (shrK .u64 (xorK .u64 r (shlK .u64 r 13)) 7)) v27)
  some ((v28, ()), ((v28, ()), ()))
def F_Z19 : Nat → C_Z19
  | 0, _ => none
  | k + 1, r => B_Z19 k r
theorem tot_Z19 {r : _} {Q : _ → Prop} (h : Tot (fun σ => B_Z19 (σ 0) r) Q) : Tot (fun σ => F_Z19 (σ 0) r) Q :=
  Tot.call (F := fun k => F_Z19 k r) (B := fun k => B_Z19 k r) (fun k => rfl) h
abbrev R_Z5 : Type := Option ((Unit) × (List Int × Unit))
abbrev C_Z5 : Type := List Int → Int → Int → R_Z5
abbrev T_Z5_L1 : Type := List Int × Int × Int × (Int × Unit) × Int × Int × Unit
def B_Z5_J0 (k : Nat) (c_Z17 : C_Z17) (c_Z19 : C_Z19) (again1 : T_Z5_L1 → R_Z5) (data : List Int) (a length random modulus idx other : Int) : R_Z5 :=
  chk (inb (w64 (a + other)) data.length) <|
  chk (decide ((w64 (a + other)).toNat < data.length)) <|
  chk (inb idx data.length) <|
  chk (decide (idx.toNat < data.length)) <|
  chk (inb idx data.length) <|
  chk (decide (idx.toNat < data.length)) <|
  chk (inb (w64 (a + other)) (data.set idx.toNat (data.getD ((w64 (a + other)).toNat) (0 : Int))).length) <|
  chk (decide ((w64 (a + other)).toNat < (data.set idx.toNat (data.getD ((w64 (a + other)).toNat) (0 : Int))).length)) <|
  again1 (((data.set idx.toNat (data.getD ((w64 (a + other)).toNat) (0 : Int))).set ((w64 (a + other)).toNat) (data.getD idx.toNat (0 : Int))), a, length, (random, ()), modulus, w64 (idx + 1), ())
def B_Z5_L1b (k : Nat) (c_Z17 : C_Z17) (c_Z19 : C_Z19) (again1 : T_Z5_L1 → R_Z5) (data : List Int) (a length random modulus idx : Int) : R_Z5 :=
  bif decide (idx ≤ (w64 ((w64 (a + (w64 ((w64 (length.tdiv 4)) * 2)))) + 1))) then
    (c_Z19 random).bind fun r36 =>
    bif decide ((w64 ((andK .u64 r36.1.1 (IntKind.wrap .u64 (modulus - 1))))) ≥ length) then
      jn (fun t => B_Z5_J0 k c_Z17 c_Z19 again1 t.1 t.2.1 t.2.2.1 t.2.2.2.1.1 t.2.2.2.2.1 t.2.2.2.2.2.1 t.2.2.2.2.2.2.1) (data, a, length, (r36.2.1.1, ()), modulus, idx, w64 ((w64 ((andK .u64 r36.1.1 (IntKind.wrap .u64 (modulus - 1))))) - length), ())
    else
      jn (fun t => B_Z5_J0 k c_Z17 c_Z19 again1 t.1 t.2.1 t.2.2.1 t.2.2.2.1.1 t.2.2.2.2.1 t.2.2.2.2.2.1 t.2.2.2.2.2.2.1) (data, a, length, (r36.2.1.1, ()), modulus, idx, w64 ((andK .u64 r36.1.1 (IntKind.wrap .u64 (modulus - 1)))), ())
  else
    some ((), (data, ()))
def B_Z5_L1 (k : Nat) (c_Z17 : C_Z17) (c_Z19 : C_Z19) (n : Nat) (t : T_Z5_L1) : R_Z5 :=
  lfix n (fun again t => B_Z5_L1b k c_Z17 c_Z19 again t.1 t.2.1 t.2.2.1 t.2.2.2.1.1 t.2.2.2.2.1 t.2.2.2.2.2.1) t
def B_Z5 (k : Nat) (c_Z17 : C_Z17) (c_Z19 : C_Z19) (data : List Int) (a b : Int) : R_Z5 :=
  bif decide ((w64 (b - a)) ≥ 8) then
    (c_Z17 (w64 (b - a))).bind fun r19 =>
    B_Z5_L1 k c_Z17 c_Z19 k (data, a, w64 (b - a), (IntKind.wrap .u64 (w64 (b - a)), ()), r19.1.1, w64 ((w64 (a + (w64 ((w64 ((w64 (b - a)).tdiv 4)) * 2)))) - 1), ())
  else
    some ((), (data, ()))
def F_Z5 : Nat → C_Z5
  | 0, _, _, _ => none
  | k + 1, data, a, b => B_Z5 k (F_Z17 k) (F_Z19 k) data a b
theorem tot_Z5 {data a b : _} {Q : _ → Prop} (h : Tot (fun σ => B_Z5 (σ 0) (F_Z17 (σ 0)) (F_Z19 (σ 0)) data a b) Q) : Tot (fun σ => F_Z5 (σ 0) data a b) Q :=
  Tot.call (F := fun k => F_Z5 k data a b) (B := fun k => B_Z5 k (F_Z17 k) (F_Z19 k) data a b) (fun k => rfl) h
abbrev A_Z5_L1 (Z : Type) : Type := List Int → Int → Int → Int → Int → Int → Z
abbrev u_Z5_L1 {Z : Type} (f : A_Z5_L1 Z) (t : T_Z5_L1) : Z := f t.1 t.2.1 t.2.2.1 t.2.2.2.1.1 t.2.2.2.2.1 t.2.2.2.2.2.1
theorem loop_Z5_L1 {Q : A_Z5_L1 (((Unit) × (List Int × Unit)) → Prop)} (I : A_Z5_L1 Prop) (μ : A_Z5_L1 Nat)
    (step : ∀ a0 a1 a2 a3 a4 a5, I a0 a1 a2 a3 a4 a5 → ∀ again : (Nat → Nat) → T_Z5_L1 → R_Z5, Dep 2 again → (∀ y0 y1 y2 y3 y4 y5, I y0 y1 y2 y3 y4 y5 → μ y0 y1 y2 y3 y4 y5 < μ a0 a1 a2 a3 a4 a5 → Tot (fun σ => again σ (y0, y1, y2, (y3, ()), y4, y5, ())) (Q y0 y1 y2 y3 y4 y5)) →
      Tot (fun σ => B_Z5_L1b (σ 0) (F_Z17 (σ 0)) (F_Z19 (σ 0)) (again σ) a0 a1 a2 a3 a4 a5) (Q a0 a1 a2 a3 a4 a5)) :
    ∀ a0 a1 a2 a3 a4 a5, I a0 a1 a2 a3 a4 a5 → Tot (fun σ => B_Z5_L1 (σ 0) (F_Z17 (σ 0)) (F_Z19 (σ 0)) (σ 0) (a0, a1, a2, (a3, ()), a4, a5, ())) (Q a0 a1 a2 a3 a4 a5) := fun a0 a1 a2 a3 a4 a5 => Tot.loop0 (L := fun k => B_Z5_L1 k (F_Z17 k) (F_Z19 k)) (B := fun k g => u_Z5_L1 (B_Z5_L1b k (F_Z17 k) (F_Z19 k) g)) (Q := u_Z5_L1 Q) (fun _ _ _ => rfl) (u_Z5_L1 I) (u_Z5_L1 μ)
    (fun t ht again hag h => step t.1 t.2.1 t.2.2.1 t.2.2.2.1.1 t.2.2.2.2.1 t.2.2.2.2.2.1 ht again hag fun y0 y1 y2 y3 y4 y5 => h (y0, y1, y2, (y3, ()), y4, y5, ())) (a0, a1, a2, (a3, ()), a4, a5, ())
abbrev R_Z14 : Type := Option ((Int × Int × Unit) × ((Int × Unit) × Unit))
abbrev C_Z14 : Type := List Int → Int → Int → Int → R_Z14
def B_Z14 (k : Nat) (c_Z29 : C_Z29) (data : List Int) (a b swaps : Int) : R_Z14 :=
  chk (inb b data.length) <|
  chk (inb a data.length) <|
  (c_Z29 (rdx (0 : Int) data b) (rdx (0 : Int) data a)).bind fun r18 =>
  bif r18.1.1 then
    some ((b, a, ()), ((w64 (swaps + 1), ()), ()))
  else
    some ((a, b, ()), ((swaps, ()), ()))
def F_Z14 : Nat → C_Z14
  | 0, _, _, _, _ => none
  | k + 1, data, a, b, swaps => B_Z14 k (F_Z29 k) data a b swaps
theorem tot_Z14 {data a b swaps : _} {Q : _ → Prop} (h : Tot (fun σ => B_Z14 (σ 0) (F_Z29 (σ 0)) data a b swaps) Q) : Tot (fun σ => F_Z14 (σ 0) data a b swaps) Q :=
  Tot.call (F := fun k => F_Z14 k data a b swaps) (B := fun k => B_Z14 k (F_Z29 k) data a b swaps) (fun k => rfl) h
abbrev R_Z15 : Type := Option ((Int × Unit) × ((Int × Unit) × Unit))
abbrev C_Z15 : Type := List Int → Int → Int → Int → Int → R_Z15
def B_Z15 (k : Nat) (c_Z14 : C_Z14) (data : List Int) (a b c swaps : Int) : R_Z15 :=
  (c_Z14 data a b swaps).bind fun r16 =>
  (c_Z14 data r16.1.2.1 c r16.2.1.1).bind fun r24 =>
  (c_Z14 data r16.1.1 r24.1.1 r24.2.1.1).bind fun r32 =>
  some ((r32.1.2.1, ()), ((r32.2.1.1, ()), ()))
def F_Z15 : Nat → C_Z15
  | 0, _, _, _, _, _ => none
  | k + 1, data, a, b, c, swaps => B_Z15 k (F_Z14 k) data a b c swaps
theorem tot_Z15 {data a b c swaps : _} {Q : _ → Prop} (h : Tot (fun σ => B_Z15 (σ 0) (F_Z14 (σ 0)) data a b c swaps) Q) : Tot (fun σ => F_Z15 (σ 0) data a b c swaps) Q :=
  Tot.call (F := fun k => F_Z15 k data a b c swaps) (B := fun k => B_Z15 k (F_Z14 k) data a b c swaps) (fun k => rfl) h
abbrev R_Z4 : Type := Option ((Int × Unit) × ((Int × Unit) × Unit))
abbrev C_Z4 : Type := List Int → Int → Int → R_Z4
def B_Z4 (k : Nat) (c_Z15 : C_Z15) (data : List Int) (a swaps : Int) : R_Z4 :=
  (c_Z15 data (w64 (a - 1)) a (w64 (a + 1)) swaps).bind fun r14 =>
  some ((r14.1.1, ()), ((r14.2.1.1, ()), ()))
def F_Z4 : Nat → C_Z4
  | 0, _, _, _ => none
  | k + 1, data, a, swaps => B_Z4 k (F_Z15 k) data a swaps
theorem tot_Z4 {data a swaps : _} {Q : _ → Prop} (h : Tot (fun σ => B_Z4 (σ 0) (F_Z15 (σ 0)) data a swaps) Q) : Tot (fun σ => F_Z4 (σ 0) data a swaps) Q :=
  Tot.call (F := fun k => F_Z4 k data a swaps) (B := fun k => B_Z4 k (F_Z15 k) data a swaps) (fun k => rfl) h
abbrev R_Z8 : Type := Option ((Int × Int × Unit) × (Unit))
abbrev C_Z8 : Type := List Int → Int → Int → R_Z8
def B_Z8_J1 (k : Nat) (c_Z4 : C_Z4) (c_Z15 : C_Z15) (swaps j : Int) : R_Z8 :=
  bif (swaps == 0) then
    some ((j, 1, ()), ())
  else
    bif (swaps == 12) then
      some ((j, 2, ()), ())
    else
      some ((j, 0, ()), ())
def B_Z8_J0 (k : Nat) (c_Z4 : C_Z4) (c_Z15 : C_Z15) (data : List Int) (swaps i j k12 : Int) : R_Z8 :=
  (c_Z15 data i j k12 swaps).bind fun r48 =>
  jn (fun t => B_Z8_J1 k c_Z4 c_Z15 t.1.1 t.2.1) ((r48.2.1.1, ()), r48.1.1, ())
def B_Z8 (k : Nat) (c_Z4 : C_Z4) (c_Z15 : C_Z15) (data : List Int) (a b : Int) : R_Z8 :=
  bif decide ((w64 (b - a)) ≥ 8) then
    bif decide ((w64 (b - a)) ≥ 50) then
      (c_Z4 data (w64 (a + (w64 ((w64 ((w64 (b - a)).tdiv 4)) * 1)))) 0).bind fun r37 =>
      (c_Z4 data (w64 (a + (w64 ((w64 ((w64 (b - a)).tdiv 4)) * 2)))) r37.2.1.1).bind fun r40 =>
      (c_Z4 data (w64 (a + (w64 ((w64 ((w64 (b - a)).tdiv 4)) * 3)))) r40.2.1.1).bind fun r43 =>
      jn (fun t => B_Z8_J0 k c_Z4 c_Z15 t.1 t.2.1.1 t.2.2.1 t.2.2.2.1 t.2.2.2.2.1) (data, (r43.2.1.1, ()), r37.1.1, r40.1.1, r43.1.1, ())
    else
      jn (fun t => B_Z8_J0 k c_Z4 c_Z15 t.1 t.2.1.1 t.2.2.1 t.2.2.2.1 t.2.2.2.2.1) (data, (0, ()), w64 (a + (w64 ((w64 ((w64 (b - a)).tdiv 4)) * 1))), w64 (a + (w64 ((w64 ((w64 (b - a)).tdiv 4)) * 2))), w64 (a + (w64 ((w64 ((w64 (b - a)).tdiv 4)) * 3))), ())
  else
    jn (fun t => B_Z8_J1 k c_Z4 c_Z15 t.1.1 t.2.1) ((0, ()), w64 (a + (w64 ((w64 ((w64 (b - a)).tdiv 4)) * 2))), ())
def F_Z8 : Nat → C_Z8
  | 0, _, _, _ => none
  | k + 1, data, a, b => B_Z8 k (F_Z4 k) (F_Z15 k) data a b
theorem tot_Z8 {data a b : _} {Q : _ → Prop} (h : Tot (fun σ => B_Z8 (σ 0) (F_Z4 (σ 0)) (F_Z15 (σ 0)) data a b) Q) : Tot (fun σ => F_Z8 (σ 0) data a b) Q :=
  Tot.call (F := fun k => F_Z8 k data a b) (B := fun k => B_Z8 k (F_Z4 k) (F_Z15 k) data a b) (fun k => rfl) h
abbrev R_Z7 : Type := Option ((Unit) × (List Int × Unit))
abbrev C_Z7 : Type := List Int → Int → Int → R_Z7
abbrev T_Z7_L0 : Type := List Int × Int × Int × Unit
def B_Z7_L0b (k : Nat) (again0 : T_Z7_L0 → R_Z7) (data : List Int) (i j : Int) : R_Z7 :=
  bif decide (i < j) then
    chk (inb j data.length) <|
    chk (decide (j.toNat < data.length)) <|
    chk (inb i data.length) <|
    chk (decide (i.toNat < data.length)) <|
    chk (inb i data.length) <|
    chk (decide (i.toNat < data.length)) <|
    chk (inb j (data.set i.toNat (data.getD j.toNat (0 : Int))).length) <|
    chk (decide (j.toNat < (data.set i.toNat (data.getD j.toNat (0 : Int))).length)) <|
    again0 (((data.set i.toNat (data.getD j.toNat (0 : Int))).set j.toNat (data.getD i.toNat (0 : Int))), w64 (i + 1), w64 (j - 1), ())
  else
    some ((), (data, ()))
def B_Z7_L0 (k : Nat) (n : Nat) (t : T_Z7_L0) : R_Z7 :=
  lfix n (fun again t => B_Z7_L0b k again t.1 t.2.1 t.2.2.1) t
def B_Z7 (k : Nat) (data : List Int) (a b : Int) : R_Z7 :=
  B_Z7_L0 k k (data, a, w64 (b - 1), ())
def F_Z7 : Nat → C_Z7
  | 0, _, _, _ => none
  | k + 1, data, a, b => B_Z7 k data a b
theorem tot_Z7 {data a b : _} {Q : _ → Prop} (h : Tot (fun σ => B_Z7 (σ 0) data a b) Q) : Tot (fun σ => F_Z7 (σ 0) data a b) Q :=
  Tot.call (F := fun k => F_Z7 k data a b) (B := fun k => B_Z7 k data a b) (fun k => rfl) h
abbrev A_Z7_L0 (Z : Type) : Type := List Int → Int → Int → Z
abbrev u_Z7_L0 {Z : Type} (f : A_Z7_L0 Z) (t : T_Z7_L0) : Z := f t.1 t.2.1 t.2.2.1
theorem loop_Z7_L0 {Q : A_Z7_L0 (((Unit) × (List Int × Unit)) → Prop)} (I : A_Z7_L0 Prop) (μ : A_Z7_L0 Nat)
    (step : ∀ a0 a1 a2, I a0 a1 a2 → ∀ again : (Nat → Nat) → T_Z7_L0 → R_Z7, Dep 2 again → (∀ y0 y1 y2, I y0 y1 y2 → μ y0 y1 y2 < μ a0 a1 a2 → Tot (fun σ => again σ (y0, y1, y2, ())) (Q y0 y1 y2)) →
      Tot (fun σ => B_Z7_L0b (σ 0) (again σ) a0 a1 a2) (Q a0 a1 a2)) :
    ∀ a0 a1 a2, I a0 a1 a2 → Tot (fun σ => B_Z7_L0 (σ 0) (σ 0) (a0, a1, a2, ())) (Q a0 a1 a2) := fun a0 a1 a2 => Tot.loop0 (L := fun k => B_Z7_L0 k) (B := fun k g => u_Z7_L0 (B_Z7_L0b k g)) (Q := u_Z7_L0 Q) (fun _ _ _ => rfl) (u_Z7_L0 I) (u_Z7_L0 μ)
    (fun t ht again hag h => step t.1 t.2.1 t.2.2.1 ht again hag fun y0 y1 y2 => h (y0, y1, y2, ())) (a0, a1, a2, ())
abbrev R_Z2 : Type := Option ((Bool × Unit) × (List Int × Unit))
abbrev C_Z2 : Type := List Int → Int → Int → R_Z2
abbrev T_Z2_L4 : Type := List Int × Int × Int × Int × Int × Int × Unit
abbrev T_Z2_L2 : Type := List Int × Int × Int × Int × Int × Int × Unit
abbrev T_Z2_L1 : Type := List Int × Int × Int × Int × Int × Unit
abbrev T_Z2_L6 : Type := List Int × Int × Int × Int × Int × Unit
def B_Z2_J5 (k : Nat) (c_Z29 : C_Z29) (again6 : T_Z2_L6 → R_Z2) (data : List Int) (a b i j : Int) : R_Z2 :=
  again6 (data, a, b, i, w64 (j + 1), ())
def B_Z2_L4b (k : Nat) (c_Z29 : C_Z29) (again6 : T_Z2_L6 → R_Z2) (again4 : T_Z2_L4 → R_Z2) (data : List Int) (a b i j j10 : Int) : R_Z2 :=
  bif decide (j10 < b) then
    chk (inb j10 data.length) <|
    chk (decide (j10.toNat < data.length)) <|
    chk (inb (w64 (j10 - 1)) data.length) <|
    chk (decide ((w64 (j10 - 1)).toNat < data.length)) <|
    (c_Z29 (data.getD j10.toNat (0 : Int)) (data.getD ((w64 (j10 - 1)).toNat) (0 : Int))).bind fun r115 =>
    bif (!r115.1.1) then
      jn (fun t => B_Z2_J5 k c_Z29 again6 t.1 t.2.1 t.2.2.1 t.2.2.2.1 t.2.2.2.2.1) (data, a, b, i, j, ())
    else
      chk (inb (w64 (j10 - 1)) data.length) <|
      chk (decide ((w64 (j10 - 1)).toNat < data.length)) <|
      chk (inb j10 data.length) <|
      chk (decide (j10.toNat < data.length)) <|
      chk (inb j10 data.length) <|
      chk (decide (j10.toNat < data.length)) <|
      chk (inb (w64 (j10 - 1)) (data.set j10.toNat (data.getD ((w64 (j10 - 1)).toNat) (0 : Int))).length) <|
      chk (decide ((w64 (j10 - 1)).toNat < (data.set j10.toNat (data.getD ((w64 (j10 - 1)).toNat) (0 : Int))).length)) <|
      again4 (((data.set j10.toNat (data.getD ((w64 (j10 - 1)).toNat) (0 : Int))).set ((w64 (j10 - 1)).toNat) (data.getD j10.toNat (0 : Int))), a, b, i, j, w64 (j10 + 1), ())
  else
    jn (fun t => B_Z2_J5 k c_Z29 again6 t.1 t.2.1 t.2.2.1 t.2.2.2.1 t.2.2.2.2.1) (data, a, b, i, j, ())
def B_Z2_L4 (k : Nat) (c_Z29 : C_Z29) (again6 : T_Z2_L6 → R_Z2) (n : Nat) (t : T_Z2_L4) : R_Z2 :=
  lfix n (fun again t => B_Z2_L4b k c_Z29 again6 again t.1 t.2.1 t.2.2.1 t.2.2.2.1 t.2.2.2.2.1 t.2.2.2.2.2.1) t
def B_Z2_J3 (k : Nat) (c_Z29 : C_Z29) (again6 : T_Z2_L6 → R_Z2) (data : List Int) (a b i j : Int) : R_Z2 :=
  bif decide ((w64 (b - i)) ≥ 2) then
    B_Z2_L4 k c_Z29 again6 k (data, a, b, i, j, w64 (i + 1), ())
  else
    jn (fun t => B_Z2_J5 k c_Z29 again6 t.1 t.2.1 t.2.2.1 t.2.2.2.1 t.2.2.2.2.1) (data, a, b, i, j, ())
def B_Z2_L2b (k : Nat) (c_Z29 : C_Z29) (again6 : T_Z2_L6 → R_Z2) (again2 : T_Z2_L2 → R_Z2) (data : List Int) (a b i j j9 : Int) : R_Z2 :=
  bif decide (j9 ≥ 1) then
    chk (inb j9 data.length) <|
    chk (decide (j9.toNat < data.length)) <|
    chk (inb (w64 (j9 - 1)) data.length) <|
    chk (decide ((w64 (j9 - 1)).toNat < data.length)) <|
    (c_Z29 (data.getD j9.toNat (0 : Int)) (data.getD ((w64 (j9 - 1)).toNat) (0 : Int))).bind fun r77 =>
    bif (!r77.1.1) then
      jn (fun t => B_Z2_J3 k c_Z29 again6 t.1 t.2.1 t.2.2.1 t.2.2.2.1 t.2.2.2.2.1) (data, a, b, i, j, ())
    else
      chk (inb (w64 (j9 - 1)) data.length) <|
      chk (decide ((w64 (j9 - 1)).toNat < data.length)) <|
      chk (inb j9 data.length) <|
      chk (decide (j9.toNat < data.length)) <|
      chk (inb j9 data.length) <|
      chk (decide (j9.toNat < data.length)) <|
      chk (inb (w64 (j9 - 1)) (data.set j9.toNat (data.getD ((w64 (j9 - 1)).toNat) (0 : Int))).length) <|
      chk (decide ((w64 (j9 - 1)).toNat < (data.set j9.toNat (data.getD ((w64 (j9 - 1)).toNat) (0 : Int))).length)) <|
      again2 (((data.set j9.toNat (data.getD ((w64 (j9 - 1)).toNat) (0 : Int))).set ((w64 (j9 - 1)).toNat) (data.getD j9.toNat (0 : Int))), a, b, i, j, w64 (j9 - 1), ())
  else
    jn (fun t => B_Z2_J3 k c_Z29 again6 t.1 t.2.1 t.2.2.1 t.2.2.2.1 t.2.2.2.2.1) (data, a, b, i, j, ())
def B_Z2_L2 (k : Nat) (c_Z29 : C_Z29) (again6 : T_Z2_L6 → R_Z2) (n : Nat) (t : T_Z2_L2) : R_Z2 :=
  lfix n (fun again t => B_Z2_L2b k c_Z29 again6 again t.1 t.2.1 t.2.2.1 t.2.2.2.1 t.2.2.2.2.1 t.2.2.2.2.2.1) t
def B_Z2_J0 (k : Nat) (c_Z29 : C_Z29) (again1 : T_Z2_L1 → R_Z2) (again6 : T_Z2_L6 → R_Z2) (data : List Int) (a b i j : Int) (t32 : Bool) : R_Z2 :=
  bif t32 then
    again1 (data, a, b, w64 (i + 1), j, ())
  else
    bif (i == b) then
      some ((true, ()), (data, ()))
    else
      bif decide ((w64 (b - a)) < 50) then
        some ((false, ()), (data, ()))
      else
        chk (inb (w64 (i - 1)) data.length) <|
        chk (decide ((w64 (i - 1)).toNat < data.length)) <|
        chk (inb i data.length) <|
        chk (decide (i.toNat < data.length)) <|
        chk (inb i data.length) <|
        chk (decide (i.toNat < data.length)) <|
        chk (inb (w64 (i - 1)) (data.set i.toNat (data.getD ((w64 (i - 1)).toNat) (0 : Int))).length) <|
        chk (decide ((w64 (i - 1)).toNat < (data.set i.toNat (data.getD ((w64 (i - 1)).toNat) (0 : Int))).length)) <|
        bif decide ((w64 (i - a)) ≥ 2) then
          B_Z2_L2 k c_Z29 again6 k (((data.set i.toNat (data.getD ((w64 (i - 1)).toNat) (0 : Int))).set ((w64 (i - 1)).toNat) (data.getD i.toNat (0 : Int))), a, b, i, j, w64 (i - 1), ())
        else
          jn (fun t => B_Z2_J3 k c_Z29 again6 t.1 t.2.1 t.2.2.1 t.2.2.2.1 t.2.2.2.2.1) (((data.set i.toNat (data.getD ((w64 (i - 1)).toNat) (0 : Int))).set ((w64 (i - 1)).toNat) (data.getD i.toNat (0 : Int))), a, b, i, j, ())
def B_Z2_L1b (k : Nat) (c_Z29 : C_Z29) (again6 : T_Z2_L6 → R_Z2) (again1 : T_Z2_L1 → R_Z2) (data : List Int) (a b i j : Int) : R_Z2 :=
  bif decide (i < b) then
    chk (inb i data.length) <|
    chk (decide (i.toNat < data.length)) <|
    chk (inb (w64 (i - 1)) data.length) <|
    chk (decide ((w64 (i - 1)).toNat < data.length)) <|
    (c_Z29 (data.getD i.toNat (0 : Int)) (data.getD ((w64 (i - 1)).toNat) (0 : Int))).bind fun r30 =>
    jn (fun t => B_Z2_J0 k c_Z29 again1 again6 t.1 t.2.1 t.2.2.1 t.2.2.2.1 t.2.2.2.2.1 t.2.2.2.2.2.1) (data, a, b, i, j, (!r30.1.1), ())
  else
    jn (fun t => B_Z2_J0 k c_Z29 again1 again6 t.1 t.2.1 t.2.2.1 t.2.2.2.1 t.2.2.2.2.1 t.2.2.2.2.2.1) (data, a, b, i, j, false, ())
def B_Z2_L1 (k : Nat) (c_Z29 : C_Z29) (again6 : T_Z2_L6 → R_Z2) (n : Nat) (t : T_Z2_L1) : R_Z2 :=
  lfix n (fun again t => B_Z2_L1b k c_Z29 again6 again t.1 t.2.1 t.2.2.1 t.2.2.2.1 t.2.2.2.2.1) t
def B_Z2_L6b (k : Nat) (c_Z29 : C_Z29) (again6 : T_Z2_L6 → R_Z2) (data : List Int) (a b i j : Int) : R_Z2 :=
  bif decide (j < 5) then
    B_Z2_L1 k c_Z29 again6 k (data, a, b, i, j, ())
  else
    some ((false, ()), (data, ()))
def B_Z2_L6 (k : Nat) (c_Z29 : C_Z29) (n : Nat) (t : T_Z2_L6) : R_Z2 :=
  lfix n (fun again t => B_Z2_L6b k c_Z29 again t.1 t.2.1 t.2.2.1 t.2.2.2.1 t.2.2.2.2.1) t
def B_Z2 (k : Nat) (c_Z29 : C_Z29) (data : List Int) (a b : Int) : R_Z2 :=
  B_Z2_L6 k c_Z29 k (data, a, b, w64 (a + 1), 0, ())
def F_Z2 : Nat → C_Z2
  | 0, _, _, _ => none
  | k + 1, data, a, b => B_Z2 k (F_Z29 k) data a b
theorem tot_Z2 {data a b : _} {Q : _ → Prop} (h : Tot (fun σ => B_Z2 (σ 0) (F_Z29 (σ 0)) data a b) Q) : Tot (fun σ => F_Z2 (σ 0) data a b) Q :=
  Tot.call (F := fun k => F_Z2 k data a b) (B := fun k => B_Z2 k (F_Z29 k) data a b) (fun k => rfl) h
abbrev A_Z2_L4 (Z : Type) : Type := List Int → Int → Int → Int → Int → Int → Z
abbrev u_Z2_L4 {Z : Type} (f : A_Z2_L4 Z) (t : T_Z2_L4) : Z := f t.1 t.2.1 t.2.2.1 t.2.2.2.1 t.2.2.2.2.1 t.2.2.2.2.2.1
theorem loop_Z2_L4 {again6 : (Nat → Nat) → T_Z2_L6 → R_Z2} (hag6 : Dep 2 again6) {Q : A_Z2_L4 (((Bool × Unit) × (List Int × Unit)) → Prop)} (I : A_Z2_L4 Prop) (μ : A_Z2_L4 Nat)
    (step : ∀ a0 a1 a2 a3 a4 a5, I a0 a1 a2 a3 a4 a5 → ∀ again : (Nat → Nat) → T_Z2_L4 → R_Z2, Dep 3 again → (∀ y0 y1 y2 y3 y4 y5, I y0 y1 y2 y3 y4 y5 → μ y0 y1 y2 y3 y4 y5 < μ a0 a1 a2 a3 a4 a5 → Tot (fun σ => again σ (y0, y1, y2, y3, y4, y5, ())) (Q y0 y1 y2 y3 y4 y5)) →
      Tot (fun σ => B_Z2_L4b (σ 0) (F_Z29 (σ 0)) (again6 σ) (again σ) a0 a1 a2 a3 a4 a5) (Q a0 a1 a2 a3 a4 a5)) :
    ∀ a0 a1 a2 a3 a4 a5, I a0 a1 a2 a3 a4 a5 → Tot (fun σ => B_Z2_L4 (σ 0) (F_Z29 (σ 0)) (again6 σ) (σ 0) (a0, a1, a2, a3, a4, a5, ())) (Q a0 a1 a2 a3 a4 a5) := fun a0 a1 a2 a3 a4 a5 => Tot.loop (L := fun σ n t => B_Z2_L4 (σ 0) (F_Z29 (σ 0)) (again6 σ) n t) (B := fun σ g => u_Z2_L4 (B_Z2_L4b (σ 0) (F_Z29 (σ 0)) (again6 σ) g)) (Q := u_Z2_L4 Q) 2 (by decide)
    (fun s s' h => by have e0 : s 0 = s' 0 := h 0 (by decide); simp only [e0, hag6 s s' h]) (fun s s' h => by have e0 : s 0 = s' 0 := h 0 (by decide); simp only [e0, hag6 s s' h]) (fun _ _ _ => rfl) (u_Z2_L4 I) (u_Z2_L4 μ)
    (fun t ht again hag h => step t.1 t.2.1 t.2.2.1 t.2.2.2.1 t.2.2.2.2.1 t.2.2.2.2.2.1 ht again hag fun y0 y1 y2 y3 y4 y5 => h (y0, y1, y2, y3, y4, y5, ())) (a0, a1, a2, a3, a4, a5, ())
abbrev A_Z2_L2 (Z : Type) : Type := List Int → Int → Int → Int → Int → Int → Z
abbrev u_Z2_L2 {Z : Type} (f : A_Z2_L2 Z) (t : T_Z2_L2) : Z := f t.1 t.2.1 t.2.2.1 t.2.2.2.1 t.2.2.2.2.1 t.2.2.2.2.2.1
theorem loop_Z2_L2 {again6 : (Nat → Nat) → T_Z2_L6 → R_Z2} (hag6 : Dep 2 again6) {Q : A_Z2_L2 (((Bool × Unit) × (List Int × Unit)) → Prop)} (I : A_Z2_L2 Prop) (μ : A_Z2_L2 Nat)
    (step : ∀ a0 a1 a2 a3 a4 a5, I a0 a1 a2 a3 a4 a5 → ∀ again : (Nat → Nat) → T_Z2_L2 → R_Z2, Dep 3 again → (∀ y0 y1 y2 y3 y4 y5, I y0 y1 y2 y3 y4 y5 → μ y0 y1 y2 y3 y4 y5 < μ a0 a1 a2 a3 a4 a5 → Tot (fun σ => again σ (y0, y1, y2, y3, y4, y5, ())) (Q y0 y1 y2 y3 y4 y5)) →
      Tot (fun σ => B_Z2_L2b (σ 0) (F_Z29 (σ 0)) (again6 σ) (again σ) a0 a1 a2 a3 a4 a5) (Q a0 a1 a2 a3 a4 a5)) :
    ∀ a0 a1 a2 a3 a4 a5, I a0 a1 a2 a3 a4 a5 → Tot (fun σ => B_Z2_L2 (σ 0) (F_Z29 (σ 0)) (again6 σ) (σ 0) (a0, a1, a2, a3, a4, a5, ())) (Q a0 a1 a2 a3 a4 a5) := fun a0 a1 a2 a3 a4 a5 => Tot.loop (L := fun σ n t => B_Z2_L2 (σ 0) (F_Z29 (σ 0)) (again6 σ) n t) (B := fun σ g => u_Z2_L2 (B_Z2_L2b (σ 0) (F_Z29 (σ 0)) (again6 σ) g)) (Q := u_Z2_L2 Q) 2 (by decide)
    (fun s s' h => by have e0 : s 0 = s' 0 := h 0 (by decide); simp only [e0, hag6 s s' h]) (fun s s' h => by have e0 : s 0 = s' 0 := h 0 (by decide); simp only [e0, hag6 s s' h]) (fun _ _ _ => rfl) (u_Z2_L2 I) (u_Z2_L2 μ)
    (fun t ht again hag h => step t.1 t.2.1 t.2.2.1 t.2.2.2.1 t.2.2.2.2.1 t.2.2.2.2.2.1 ht again hag fun y0 y1 y2 y3 y4 y5 => h (y0, y1, y2, y3, y4, y5, ())) (a0, a1, a2, a3, a4, a5, ())
abbrev A_Z2_L1 (Z : Type) : Type := List Int → Int → Int → Int → Int → Z
abbrev u_Z2_L1 {Z : Type} (f : A_Z2_L1 Z) (t : T_Z2_L1) : Z := f t.1 t.2.1 t.2.2.1 t.2.2.2.1 t.2.2.2.2.1
theorem loop_Z2_L1 {again6 : (Nat → Nat) → T_Z2_L6 → R_Z2} (hag6 : Dep 2 again6) {Q : A_Z2_L1 (((Bool × Unit) × (List Int × Unit)) → Prop)} (I : A_Z2_L1 Prop) (μ : A_Z2_L1 Nat)
    (step : ∀ a0 a1 a2 a3 a4, I a0 a1 a2 a3 a4 → ∀ again : (Nat → Nat) → T_Z2_L1 → R_Z2, Dep 3 again → (∀ y0 y1 y2 y3 y4, I y0 y1 y2 y3 y4 → μ y0 y1 y2 y3 y4 < μ a0 a1 a2 a3 a4 → Tot (fun σ => again σ (y0, y1, y2, y3, y4, ())) (Q y0 y1 y2 y3 y4)) →
      Tot (fun σ => B_Z2_L1b (σ 0) (F_Z29 (σ 0)) (again6 σ) (again σ) a0 a1 a2 a3 a4) (Q a0 a1 a2 a3 a4)) :
    ∀ a0 a1 a2 a3 a4, I a0 a1 a2 a3 a4 → Tot (fun σ => B_Z2_L1 (σ 0) (F_Z29 (σ 0)) (again6 σ) (σ 0) (a0, a1, a2, a3, a4, ())) (Q a0 a1 a2 a3 a4) := fun a0 a1 a2 a3 a4 => Tot.loop (L := fun σ n t => B_Z2_L1 (σ 0) (F_Z29 (σ 0)) (again6 σ) n t) (B := fun σ g => u_Z2_L1 (B_Z2_L1b (σ 0) (F_Z29 (σ 0)) (again6 σ) g)) (Q := u_Z2_L1 Q) 2 (by decide)
    (fun s s' h => by have e0 : s 0 = s' 0 := h 0 (by decide); simp only [e0, hag6 s s' h]) (fun s s' h => by have e0 : s 0 = s' 0 := h 0 (by decide); simp only [e0, hag6 s s' h]) (fun _ _ _ => rfl) (u_Z2_L1 I) (u_Z2_L1 μ)
    (fun t ht again hag h => step t.1 t.2.1 t.2.2.1 t.2.2.2.1 t.2.2.2.2.1 ht again hag fun y0 y1 y2 y3 y4 => h (y0, y1, y2, y3, y4, ())) (a0, a1, a2, a3, a4, ())
abbrev A_Z2_L6 (Z : Type) : Type := List Int → Int → Int → Int → Int → Z
abbrev u_Z2_L6 {Z : Type} (f : A_Z2_L6 Z) (t : T_Z2_L6) : Z := f t.1 t.2.1 t.2.2.1 t.2.2.2.1 t.2.2.2.2.1
theorem loop_Z2_L6 {Q : A_Z2_L6 (((Bool × Unit) × (List Int × Unit)) → Prop)} (I : A_Z2_L6 Prop) (μ : A_Z2_L6 Nat)
    (step : ∀ a0 a1 a2 a3 a4, I a0 a1 a2 a3 a4 → ∀ again : (Nat → Nat) → T_Z2_L6 → R_Z2, Dep 2 again → (∀ y0 y1 y2 y3 y4, I y0 y1 y2 y3 y4 → μ y0 y1 y2 y3 y4 < μ a0 a1 a2 a3 a4 → Tot (fun σ => again σ (y0, y1, y2, y3, y4, ())) (Q y0 y1 y2 y3 y4)) →
      Tot (fun σ => B_Z2_L6b (σ 0) (F_Z29 (σ 0)) (again σ) a0 a1 a2 a3 a4) (Q a0 a1 a2 a3 a4)) :
    ∀ a0 a1 a2 a3 a4, I a0 a1 a2 a3 a4 → Tot (fun σ => B_Z2_L6 (σ 0) (F_Z29 (σ 0)) (σ 0) (a0, a1, a2, a3, a4, ())) (Q a0 a1 a2 a3 a4) := fun a0 a1 a2 a3 a4 => Tot.loop0 (L := fun k => B_Z2_L6 k (F_Z29 k)) (B := fun k g => u_Z2_L6 (B_Z2_L6b k (F_Z29 k) g)) (Q := u_Z2_L6 Q) (fun _ _ _ => rfl) (u_Z2_L6 I) (u_Z2_L6 μ)
    (fun t ht again hag h => step t.1 t.2.1 t.2.2.1 t.2.2.2.1 t.2.2.2.2.1 ht again hag fun y0 y1 y2 y3 y4 => h (y0, y1, y2, y3, y4, ())) (a0, a1, a2, a3, a4, ())
abbrev R_Z3 : Type := Option ((Int × Unit) × (List Int × Unit))
abbrev C_Z3 : Type := List Int → Int → Int → Int → R_Z3
abbrev T_Z3_L3 : Type := List Int × Int × Int × Int × Unit
abbrev T_Z3_L1 : Type := List Int × Int × Int × Int × Unit
abbrev T_Z3_L4 : Type := List Int × Int × Int × Int × Unit
def B_Z3_J2 (k : Nat) (c_Z29 : C_Z29) (again3 : T_Z3_L3 → R_Z3) (again4 : T_Z3_L4 → R_Z3) (data : List Int) (a i j : Int) (t59 : Bool) : R_Z3 :=
  bif t59 then
    again3 (data, a, i, w64 (j - 1), ())
  else
    bif decide (i > j) then
      some ((i, ()), (data, ()))
    else
      chk (inb j data.length) <|
      chk (decide (j.toNat < data.length)) <|
      chk (inb i data.length) <|
      chk (decide (i.toNat < data.length)) <|
      chk (inb i data.length) <|
      chk (decide (i.toNat < data.length)) <|
      chk (inb j (data.set i.toNat (data.getD j.toNat (0 : Int))).length) <|
      chk (decide (j.toNat < (data.set i.toNat (data.getD j.toNat (0 : Int))).length)) <|
      again4 (((data.set i.toNat (data.getD j.toNat (0 : Int))).set j.toNat (data.getD i.toNat (0 : Int))), a, w64 (i + 1), w64 (j - 1), ())
def B_Z3_L3b (k : Nat) (c_Z29 : C_Z29) (again4 : T_Z3_L4 → R_Z3) (again3 : T_Z3_L3 → R_Z3) (data : List Int) (a i j : Int) : R_Z3 :=
  bif decide (i ≤ j) then
    chk (inb a data.length) <|
    chk (decide (a.toNat < data.length)) <|
    chk (inb j data.length) <|
    chk (decide (j.toNat < data.length)) <|
    (c_Z29 (data.getD a.toNat (0 : Int)) (data.getD j.toNat (0 : Int))).bind fun r58 =>
    jn (fun t => B_Z3_J2 k c_Z29 again3 again4 t.1 t.2.1 t.2.2.1 t.2.2.2.1 t.2.2.2.2.1) (data, a, i, j, r58.1.1, ())
  else
    jn (fun t => B_Z3_J2 k c_Z29 again3 again4 t.1 t.2.1 t.2.2.1 t.2.2.2.1 t.2.2.2.2.1) (data, a, i, j, false, ())
def B_Z3_L3 (k : Nat) (c_Z29 : C_Z29) (again4 : T_Z3_L4 → R_Z3) (n : Nat) (t : T_Z3_L3) : R_Z3 :=
  lfix n (fun again t => B_Z3_L3b k c_Z29 again4 again t.1 t.2.1 t.2.2.1 t.2.2.2.1) t
def B_Z3_J0 (k : Nat) (c_Z29 : C_Z29) (again1 : T_Z3_L1 → R_Z3) (again4 : T_Z3_L4 → R_Z3) (data : List Int) (a i j : Int) (t43 : Bool) : R_Z3 :=
  bif t43 then
    again1 (data, a, w64 (i + 1), j, ())
  else
    B_Z3_L3 k c_Z29 again4 k (data, a, i, j, ())
def B_Z3_L1b (k : Nat) (c_Z29 : C_Z29) (again4 : T_Z3_L4 → R_Z3) (again1 : T_Z3_L1 → R_Z3) (data : List Int) (a i j : Int) : R_Z3 :=
  bif decide (i ≤ j) then
    chk (inb a data.length) <|
    chk (decide (a.toNat < data.length)) <|
    chk (inb i data.length) <|
    chk (decide (i.toNat < data.length)) <|
    (c_Z29 (data.getD a.toNat (0 : Int)) (data.getD i.toNat (0 : Int))).bind fun r41 =>
    jn (fun t => B_Z3_J0 k c_Z29 again1 again4 t.1 t.2.1 t.2.2.1 t.2.2.2.1 t.2.2.2.2.1) (data, a, i, j, (!r41.1.1), ())
  else
    jn (fun t => B_Z3_J0 k c_Z29 again1 again4 t.1 t.2.1 t.2.2.1 t.2.2.2.1 t.2.2.2.2.1) (data, a, i, j, false, ())
def B_Z3_L1 (k : Nat) (c_Z29 : C_Z29) (again4 : T_Z3_L4 → R_Z3) (n : Nat) (t : T_Z3_L1) : R_Z3 :=
  lfix n (fun again t => B_Z3_L1b k c_Z29 again4 again t.1 t.2.1 t.2.2.1 t.2.2.2.1) t
def B_Z3_L4b (k : Nat) (c_Z29 : C_Z29) (again4 : T_Z3_L4 → R_Z3) (data : List Int) (a i j : Int) : R_Z3 :=
  B_Z3_L1 k c_Z29 again4 k (data, a, i, j, ())
def B_Z3_L4 (k : Nat) (c_Z29 : C_Z29) (n : Nat) (t : T_Z3_L4) : R_Z3 :=
  lfix n (fun again t => B_Z3_L4b k c_Z29 again t.1 t.2.1 t.2.2.1 t.2.2.2.1) t
def B_Z3 (k : Nat) (c_Z29 : C_Z29) (data : List Int) (a b pivot : Int) : R_Z3 :=
  chk (inb pivot data.length) <|
  chk (decide (pivot.toNat < data.length)) <|
  chk (inb a data.length) <|
  chk (decide (a.toNat < data.length)) <|
  chk (inb a data.length) <|
  chk (decide (a.toNat < data.length)) <|
  chk (inb pivot (data.set a.toNat (data.getD pivot.toNat (0 : Int))).length) <|
  chk (decide (pivot.toNat < (data.set a.toNat (data.getD pivot.toNat (0 : Int))).length)) <|
  B_Z3_L4 k c_Z29 k (((data.set a.toNat (data.getD pivot.toNat (0 : Int))).set pivot.toNat (data.getD a.toNat (0 : Int))), a, w64 (a + 1), w64 (b - 1), ())
def F_Z3 : Nat → C_Z3
  | 0, _, _, _, _ => none
  | k + 1, data, a, b, pivot => B_Z3 k (F_Z29 k) data a b pivot
theorem tot_Z3 {data a b pivot : _} {Q : _ → Prop} (h : Tot (fun σ => B_Z3 (σ 0) (F_Z29 (σ 0)) data a b pivot) Q) : Tot (fun σ => F_Z3 (σ 0) data a b pivot) Q :=
  Tot.call (F := fun k => F_Z3 k data a b pivot) (B := fun k => B_Z3 k (F_Z29 k) data a b pivot) (fun k => rfl) h
abbrev A_Z3_L3 (Z : Type) : Type := List Int → Int → Int → Int → Z
abbrev u_Z3_L3 {Z : Type} (f : A_Z3_L3 Z) (t : T_Z3_L3) : Z := f t.1 t.2.1 t.2.2.1 t.2.2.2.1
theorem loop_Z3_L3 {again4 : (Nat → Nat) → T_Z3_L4 → R_Z3} (hag4 : Dep 2 again4) {Q : A_Z3_L3 (((Int × Unit) × (List Int × Unit)) → Prop)} (I : A_Z3_L3 Prop) (μ : A_Z3_L3 Nat)
    (step : ∀ a0 a1 a2 a3, I a0 a1 a2 a3 → ∀ again : (Nat → Nat) → T_Z3_L3 → R_Z3, Dep 3 again → (∀ y0 y1 y2 y3, I y0 y1 y2 y3 → μ y0 y1 y2 y3 < μ a0 a1 a2 a3 → Tot (fun σ => again σ (y0, y1, y2, y3, ())) (Q y0 y1 y2 y3)) →
      Tot (fun σ => B_Z3_L3b (σ 0) (F_Z29 (σ 0)) (again4 σ) (again σ) a0 a1 a2 a3) (Q a0 a1 a2 a3)) :
    ∀ a0 a1 a2 a3, I a0 a1 a2 a3 → Tot (fun σ => B_Z3_L3 (σ 0) (F_Z29 (σ 0)) (again4 σ) (σ 0) (a0, a1, a2, a3, ())) (Q a0 a1 a2 a3) := fun a0 a1 a2 a3 => Tot.loop (L := fun σ n t => B_Z3_L3 (σ 0) (F_Z29 (σ 0)) (again4 σ) n t) (B := fun σ g => u_Z3_L3 (B_Z3_L3b (σ 0) (F_Z29 (σ 0)) (again4 σ) g)) (Q := u_Z3_L3 Q) 2 (by decide)
    (fun s s' h => by have e0 : s 0 = s' 0 := h 0 (by decide); simp only [e0, hag4 s s' h]) (fun s s' h => by have e0 : s 0 = s' 0 := h 0 (by decide); simp only [e0, hag4 s s' h]) (fun _ _ _ => rfl) (u_Z3_L3 I) (u_Z3_L3 μ)
    (fun t ht again hag h => step t.1 t.2.1 t.2.2.1 t.2.2.2.1 ht again hag fun y0 y1 y2 y3 => h (y0, y1, y2, y3, ())) (a0, a1, a2, a3, ())
abbrev A_Z3_L1 (Z : Type) : Type := List Int → Int → Int → Int → Z
abbrev u_Z3_L1 {Z : Type} (f : A_Z3_L1 Z) (t : T_Z3_L1) : Z := f t.1 t.2.1 t.2.2.1 t.2.2.2.1
theorem loop_Z3_L1 {again4 : (Nat → Nat) → T_Z3_L4 → R_Z3} (hag4 : Dep 2 again4) {Q : A_Z3_L1 (((Int × Unit) × (List Int × Unit)) → Prop)} (I : A_Z3_L1 Prop) (μ : A_Z3_L1 Nat)
    (step : ∀ a0 a1 a2 a3, I a0 a1 a2 a3 → ∀ again : (Nat → Nat) → T_Z3_L1 → R_Z3, Dep 3 again → (∀ y0 y1 y2 y3, I y0 y1 y2 y3 → μ y0 y1 y2 y3 < μ a0 a1 a2 a3 → Tot (fun σ => again σ (y0, y1, y2, y3, ())) (Q y0 y1 y2 y3)) →
      Tot (fun σ => B_Z3_L1b (σ 0) (F_Z29 (σ 0)) (again4 σ) (again σ) a0 a1 a2 a3) (Q a0 a1 a2 a3)) :
    ∀ a0 a1 a2 a3, I a0 a1 a2 a3 → Tot (fun σ => B_Z3_L1 (σ 0) (F_Z29 (σ 0)) (again4 σ) (σ 0) (a0, a1, a2, a3, ())) (Q a0 a1 a2 a3) := fun a0 a1 a2 a3 => Tot.loop (L := fun σ n t => B_Z3_L1 (σ 0) (F_Z29 (σ 0)) (again4 σ) n t) (B := fun σ g => u_Z3_L1 (B_Z3_L1b (σ 0) (F_Z29 (σ 0)) (again4 σ) g)) (Q := u_Z3_L1 Q) 2 (by decide)
    (fun s s' h => by have e0 : s 0 = s' 0 := h 0 (by decide); simp only [e0, hag4 s s' h]) (fun s s' h => by have e0 : s 0 = s' 0 := h 0 (by decide); simp only [e0, hag4 s s' h]) (fun _ _ _ => rfl) (u_Z3_L1 I) (u_Z3_L1 μ)
    (fun t ht again hag h => step t.1 t.2.1 t.2.2.1 t.2.2.2.1 ht again hag fun y0 y1 y2 y3 => h (y0, y1, y2, y3, ())) (a0, a1, a2, a3, ())
abbrev A_Z3_L4 (Z : Type) : Type := List Int → Int → Int → Int → Z
abbrev u_Z3_L4 {Z : Type} (f : A_Z3_L4 Z) (t : T_Z3_L4) : Z := f t.1 t.2.1 t.2.2.1 t.2.2.2.1
theorem loop_Z3_L4 {Q : A_Z3_L4 (((Int × Unit) × (List Int × Unit)) → Prop)} (I : A_Z3_L4 Prop) (μ : A_Z3_L4 Nat)
    (step : ∀ a0 a1 a2 a3, I a0 a1 a2 a3 → ∀ again : (Nat → Nat) → T_Z3_L4 → R_Z3, Dep 2 again → (∀ y0 y1 y2 y3, I y0 y1 y2 y3 → μ y0 y1 y2 y3 < μ a0 a1 a2 a3 → Tot (fun σ => again σ (y0, y1, y2, y3, ())) (Q y0 y1 y2 y3)) →
      Tot (fun σ => B_Z3_L4b (σ 0) (F_Z29 (σ 0)) (again σ) a0 a1 a2 a3) (Q a0 a1 a2 a3)) :
    ∀ a0 a1 a2 a3, I a0 a1 a2 a3 → Tot (fun σ => B_Z3_L4 (σ 0) (F_Z29 (σ 0)) (σ 0) (a0, a1, a2, a3, ())) (Q a0 a1 a2 a3) := fun a0 a1 a2 a3 => Tot.loop0 (L := fun k => B_Z3_L4 k (F_Z29 k)) (B := fun k g => u_Z3_L4 (B_Z3_L4b k (F_Z29 k) g)) (Q := u_Z3_L4 Q) (fun _ _ _ => rfl) (u_Z3_L4 I) (u_Z3_L4 μ)
    (fun t ht again hag h => step t.1 t.2.1 t.2.2.1 t.2.2.2.1 ht again hag fun y0 y1 y2 y3 => h (y0, y1, y2, y3, ())) (a0, a1, a2, a3, ())
abbrev R_Z9 : Type := Option ((Int × Bool × Unit) × (List Int × Unit))
abbrev C_Z9 : Type := List Int → Int → Int → Int → R_Z9
abbrev T_Z9_L7 : Type := List Int × Int × Int × Int × Unit
abbrev T_Z9_L5 : Type := List Int × Int × Int × Int × Unit
abbrev T_Z9_L8 : Type := List Int × Int × Int × Int × Unit
abbrev T_Z9_L3 : Type := List Int × Int × Int × Int × Unit
abbrev T_Z9_L1 : Type := List Int × Int × Int × Int × Unit
def B_Z9_J6 (k : Nat) (c_Z29 : C_Z29) (again7 : T_Z9_L7 → R_Z9) (again8 : T_Z9_L8 → R_Z9) (data : List Int) (a i j : Int) (t129 : Bool) : R_Z9 :=
  bif t129 then
    again7 (data, a, i, w64 (j - 1), ())
  else
    bif decide (i > j) then
      chk (inb a data.length) <|
      chk (decide (a.toNat < data.length)) <|
      chk (inb j data.length) <|
      chk (decide (j.toNat < data.length)) <|
      chk (inb j data.length) <|
      chk (decide (j.toNat < data.length)) <|
      chk (inb a (data.set j.toNat (data.getD a.toNat (0 : Int))).length) <|
      chk (decide (a.toNat < (data.set j.toNat (data.getD a.toNat (0 : Int))).length)) <|
      some ((j, false, ()), (((data.set j.toNat (data.getD a.toNat (0 : Int))).set a.toNat (data.getD j.toNat (0 : Int))), ()))
    else
      chk (inb j data.length) <|
      chk (decide (j.toNat < data.length)) <|
      chk (inb i data.length) <|
      chk (decide (i.toNat < data.length)) <|
      chk (inb i data.length) <|
      chk (decide (i.toNat < data.length)) <|
      chk (inb j (data.set i.toNat (data.getD j.toNat (0 : Int))).length) <|
      chk (decide (j.toNat < (data.set i.toNat (data.getD j.toNat (0 : Int))).length)) <|
      again8 (((data.set i.toNat (data.getD j.toNat (0 : Int))).set j.toNat (data.getD i.toNat (0 : Int))), a, w64 (i + 1), w64 (j - 1), ())
def B_Z9_L7b (k : Nat) (c_Z29 : C_Z29) (again8 : T_Z9_L8 → R_Z9) (again7 : T_Z9_L7 → R_Z9) (data : List Int) (a i j : Int) : R_Z9 :=
  bif decide (i ≤ j) then
    chk (inb j data.length) <|
    chk (decide (j.toNat < data.length)) <|
    chk (inb a data.length) <|
    chk (decide (a.toNat < data.length)) <|
    (c_Z29 (data.getD j.toNat (0 : Int)) (data.getD a.toNat (0 : Int))).bind fun r127 =>
    jn (fun t => B_Z9_J6 k c_Z29 again7 again8 t.1 t.2.1 t.2.2.1 t.2.2.2.1 t.2.2.2.2.1) (data, a, i, j, (!r127.1.1), ())
  else
    jn (fun t => B_Z9_J6 k c_Z29 again7 again8 t.1 t.2.1 t.2.2.1 t.2.2.2.1 t.2.2.2.2.1) (data, a, i, j, false, ())
def B_Z9_L7 (k : Nat) (c_Z29 : C_Z29) (again8 : T_Z9_L8 → R_Z9) (n : Nat) (t : T_Z9_L7) : R_Z9 :=
  lfix n (fun again t => B_Z9_L7b k c_Z29 again8 again t.1 t.2.1 t.2.2.1 t.2.2.2.1) t
def B_Z9_J4 (k : Nat) (c_Z29 : C_Z29) (again5 : T_Z9_L5 → R_Z9) (again8 : T_Z9_L8 → R_Z9) (data : List Int) (a i j : Int) (t112 : Bool) : R_Z9 :=
  bif t112 then
    again5 (data, a, w64 (i + 1), j, ())
  else
    B_Z9_L7 k c_Z29 again8 k (data, a, i, j, ())
def B_Z9_L5b (k : Nat) (c_Z29 : C_Z29) (again8 : T_Z9_L8 → R_Z9) (again5 : T_Z9_L5 → R_Z9) (data : List Int) (a i j : Int) : R_Z9 :=
  bif decide (i ≤ j) then
    chk (inb i data.length) <|
    chk (decide (i.toNat < data.length)) <|
    chk (inb a data.length) <|
    chk (decide (a.toNat < data.length)) <|
    (c_Z29 (data.getD i.toNat (0 : Int)) (data.getD a.toNat (0 : Int))).bind fun r111 =>
    jn (fun t => B_Z9_J4 k c_Z29 again5 again8 t.1 t.2.1 t.2.2.1 t.2.2.2.1 t.2.2.2.2.1) (data, a, i, j, r111.1.1, ())
  else
    jn (fun t => B_Z9_J4 k c_Z29 again5 again8 t.1 t.2.1 t.2.2.1 t.2.2.2.1 t.2.2.2.2.1) (data, a, i, j, false, ())
def B_Z9_L5 (k : Nat) (c_Z29 : C_Z29) (again8 : T_Z9_L8 → R_Z9) (n : Nat) (t : T_Z9_L5) : R_Z9 :=
  lfix n (fun again t => B_Z9_L5b k c_Z29 again8 again t.1 t.2.1 t.2.2.1 t.2.2.2.1) t
def B_Z9_L8b (k : Nat) (c_Z29 : C_Z29) (again8 : T_Z9_L8 → R_Z9) (data : List Int) (a i j : Int) : R_Z9 :=
  B_Z9_L5 k c_Z29 again8 k (data, a, i, j, ())
def B_Z9_L8 (k : Nat) (c_Z29 : C_Z29) (n : Nat) (t : T_Z9_L8) : R_Z9 :=
  lfix n (fun again t => B_Z9_L8b k c_Z29 again t.1 t.2.1 t.2.2.1 t.2.2.2.1) t
def B_Z9_J2 (k : Nat) (c_Z29 : C_Z29) (again3 : T_Z9_L3 → R_Z9) (data : List Int) (a i j : Int) (t60 : Bool) : R_Z9 :=
  bif t60 then
    again3 (data, a, i, w64 (j - 1), ())
  else
    bif decide (i > j) then
      chk (inb a data.length) <|
      chk (decide (a.toNat < data.length)) <|
      chk (inb j data.length) <|
      chk (decide (j.toNat < data.length)) <|
      chk (inb j data.length) <|
      chk (decide (j.toNat < data.length)) <|
      chk (inb a (data.set j.toNat (data.getD a.toNat (0 : Int))).length) <|
      chk (decide (a.toNat < (data.set j.toNat (data.getD a.toNat (0 : Int))).length)) <|
      some ((j, true, ()), (((data.set j.toNat (data.getD a.toNat (0 : Int))).set a.toNat (data.getD j.toNat (0 : Int))), ()))
    else
      chk (inb j data.length) <|
      chk (decide (j.toNat < data.length)) <|
      chk (inb i data.length) <|
      chk (decide (i.toNat < data.length)) <|
      chk (inb i data.length) <|
      chk (decide (i.toNat < data.length)) <|
      chk (inb j (data.set i.toNat (data.getD j.toNat (0 : Int))).length) <|
      chk (decide (j.toNat < (data.set i.toNat (data.getD j.toNat (0 : Int))).length)) <|
      B_Z9_L8 k c_Z29 k (((data.set i.toNat (data.getD j.toNat (0 : Int))).set j.toNat (data.getD i.toNat (0 : Int))), a, w64 (i + 1), w64 (j - 1), ())
def B_Z9_L3b (k : Nat) (c_Z29 : C_Z29) (again3 : T_Z9_L3 → R_Z9) (data : List Int) (a i j : Int) : R_Z9 :=
  bif decide (i ≤ j) then
    chk (inb j data.length) <|
    chk (decide (j.toNat < data.length)) <|
    chk (inb a data.length) <|
    chk (decide (a.toNat < data.length)) <|
    (c_Z29 (data.getD j.toNat (0 : Int)) (data.getD a.toNat (0 : Int))).bind fun r58 =>
    jn (fun t => B_Z9_J2 k c_Z29 again3 t.1 t.2.1 t.2.2.1 t.2.2.2.1 t.2.2.2.2.1) (data, a, i, j, (!r58.1.1), ())
  else
    jn (fun t => B_Z9_J2 k c_Z29 again3 t.1 t.2.1 t.2.2.1 t.2.2.2.1 t.2.2.2.2.1) (data, a, i, j, false, ())
def B_Z9_L3 (k : Nat) (c_Z29 : C_Z29) (n : Nat) (t : T_Z9_L3) : R_Z9 :=
  lfix n (fun again t => B_Z9_L3b k c_Z29 again t.1 t.2.1 t.2.2.1 t.2.2.2.1) t
def B_Z9_J0 (k : Nat) (c_Z29 : C_Z29) (again1 : T_Z9_L1 → R_Z9) (data : List Int) (a i j : Int) (t43 : Bool) : R_Z9 :=
  bif t43 then
    again1 (data, a, w64 (i + 1), j, ())
  else
    B_Z9_L3 k c_Z29 k (data, a, i, j, ())
def B_Z9_L1b (k : Nat) (c_Z29 : C_Z29) (again1 : T_Z9_L1 → R_Z9) (data : List Int) (a i j : Int) : R_Z9 :=
  bif decide (i ≤ j) then
    chk (inb i data.length) <|
    chk (decide (i.toNat < data.length)) <|
    chk (inb a data.length) <|
    chk (decide (a.toNat < data.length)) <|
    (c_Z29 (data.getD i.toNat (0 : Int)) (data.getD a.toNat (0 : Int))).bind fun r42 =>
    jn (fun t => B_Z9_J0 k c_Z29 again1 t.1 t.2.1 t.2.2.1 t.2.2.2.1 t.2.2.2.2.1) (data, a, i, j, r42.1.1, ())
  else
    jn (fun t => B_Z9_J0 k c_Z29 again1 t.1 t.2.1 t.2.2.1 t.2.2.2.1 t.2.2.2.2.1) (data, a, i, j, false, ())
def B_Z9_L1 (k : Nat) (c_Z29 : C_Z29) (n : Nat) (t : T_Z9_L1) : R_Z9 :=
  lfix n (fun again t => B_Z9_L1b k c_Z29 again t.1 t.2.1 t.2.2.1 t.2.2.2.1) t
def B_Z9 (k : Nat) (c_Z29 : C_Z29) (data : List Int) (a b pivot : Int) : R_Z9 :=
  chk (inb pivot data.length) <|
  chk (decide (pivot.toNat < data.length)) <|
  chk (inb a data.length) <|
  chk (decide (a.toNat < data.length)) <|
  chk (inb a data.length) <|
  chk (decide (a.toNat < data.length)) <|
  chk (inb pivot (data.set a.toNat (data.getD pivot.toNat (0 : Int))).length) <|
  chk (decide (pivot.toNat < (data.set a.toNat (data.getD pivot.toNat (0 : Int))).length)) <|
  B_Z9_L1 k c_Z29 k (((data.set a.toNat (data.getD pivot.toNat (0 : Int))).set pivot.toNat (data.getD a.toNat (0 : Int))), a, w64 (a + 1), w64 (b - 1), ())
def F_Z9 : Nat → C_Z9
  | 0, _, _, _, _ => none
  | k + 1, data, a, b, pivot => B_Z9 k (F_Z29 k) data a b pivot
theorem tot_Z9 {data a b pivot : _} {Q : _ → Prop} (h : Tot (fun σ => B_Z9 (σ 0) (F_Z29 (σ 0)) data a b pivot) Q) : Tot (fun σ => F_Z9 (σ 0) data a b pivot) Q :=
  Tot.call (F := fun k => F_Z9 k data a b pivot) (B := fun k => B_Z9 k (F_Z29 k) data a b pivot) (fun k => rfl) h
abbrev A_Z9_L7 (Z : Type) : Type := List Int → Int → Int → Int → Z
abbrev u_Z9_L7 {Z : Type} (f : A_Z9_L7 Z) (t : T_Z9_L7) : Z := f t.1 t.2.1 t.2.2.1 t.2.2.2.1
theorem loop_Z9_L7 {again8 : (Nat → Nat) → T_Z9_L8 → R_Z9} (hag8 : Dep 2 again8) {Q : A_Z9_L7 (((Int × Bool × Unit) × (List Int × Unit)) → Prop)} (I : A_Z9_L7 Prop) (μ : A_Z9_L7 Nat)
    (step : ∀ a0 a1 a2 a3, I a0 a1 a2 a3 → ∀ again : (Nat → Nat) → T_Z9_L7 → R_Z9, Dep 3 again → (∀ y0 y1 y2 y3, I y0 y1 y2 y3 → μ y0 y1 y2 y3 < μ a0 a1 a2 a3 → Tot (fun σ => again σ (y0, y1, y2, y3, ())) (Q y0 y1 y2 y3)) →
      Tot (fun σ => B_Z9_L7b (σ 0) (F_Z29 (σ 0)) (again8 σ) (again σ) a0 a1 a2 a3) (Q a0 a1 a2 a3)) :
    ∀ a0 a1 a2 a3, I a0 a1 a2 a3 → Tot (fun σ => B_Z9_L7 (σ 0) (F_Z29 (σ 0)) (again8 σ) (σ 0) (a0, a1, a2, a3, ())) (Q a0 a1 a2 a3) := fun a0 a1 a2 a3 => Tot.loop (L := fun σ n t => B_Z9_L7 (σ 0) (F_Z29 (σ 0)) (again8 σ) n t) (B := fun σ g => u_Z9_L7 (B_Z9_L7b (σ 0) (F_Z29 (σ 0)) (again8 σ) g)) (Q := u_Z9_L7 Q) 2 (by decide)
    (fun s s' h => by have e0 : s 0 = s' 0 := h 0 (by decide); simp only [e0, hag8 s s' h]) (fun s s' h => by have e0 : s 0 = s' 0 := h 0 (by decide); simp only [e0, hag8 s s' h]) (fun _ _ _ => rfl) (u_Z9_L7 I) (u_Z9_L7 μ)
    (fun t ht again hag h => step t.1 t.2.1 t.2.2.1 t.2.2.2.1 ht again hag fun y0 y1 y2 y3 => h (y0, y1, y2, y3, ())) (a0, a1, a2, a3, ())
abbrev A_Z9_L5 (Z : Type) : Type := List Int → Int → Int → Int → Z
abbrev u_Z9_L5 {Z : Type} (f : A_Z9_L5 Z) (t : T_Z9_L5) : Z := f t.1 t.2.1 t.2.2.1 t.2.2.2.1
theorem loop_Z9_L5 {again8 : (Nat → Nat) → T_Z9_L8 → R_Z9} (hag8 : Dep 2 again8) {Q : A_Z9_L5 (((Int × Bool × Unit) × (List Int × Unit)) → Prop)} (I : A_Z9_L5 Prop) (μ : A_Z9_L5 Nat)
    (step : ∀ a0 a1 a2 a3, I a0 a1 a2 a3 → ∀ again : (Nat → Nat) → T_Z9_L5 → R_Z9, Dep 3 again → (∀ y0 y1 y2 y3, I y0 y1 y2 y3 → μ y0 y1 y2 y3 < μ a0 a1 a2 a3 → Tot (fun σ => again σ (y0, y1, y2, y3, ())) (Q y0 y1 y2 y3)) →
      Tot (fun σ => B_Z9_L5b (σ 0) (F_Z29 (σ 0)) (again8 σ) (again σ) a0 a1 a2 a3) (Q a0 a1 a2 a3)) :
    ∀ a0 a1 a2 a3, I a0 a1 a2 a3 → Tot (fun σ => B_Z9_L5 (σ 0) (F_Z29 (σ 0)) (again8 σ) (σ 0) (a0, a1, a2, a3, ())) (Q a0 a1 a2 a3) := fun a0 a1 a2 a3 => Tot.loop (L := fun σ n t => B_Z9_L5 (σ 0) (F_Z29 (σ 0)) (again8 σ) n t) (B := fun σ g => u_Z9_L5 (B_Z9_L5b (σ 0) (F_Z29 (σ 0)) (again8 σ) g)) (Q := u_Z9_L5 Q) 2 (by decide)
    (fun s s' h => by have e0 : s 0 = s' 0 := h 0 (by decide); simp only [e0, hag8 s s' h]) (fun s s' h => by have e0 : s 0 = s' 0 := h 0 (by decide); simp only [e0, hag8 s s' h]) (fun _ _ _ => rfl) (u_Z9_L5 I) (u_Z9_L5 μ)
    (fun t ht again hag h => step t.1 t.2.1 t.2.2.1 t.2.2.2.1 ht again hag fun y0 y1 y2 y3 => h (y0, y1, y2, y3, ())) (a0, a1, a2, a3, ())
abbrev A_Z9_L8 (Z : Type) : Type := List Int → Int → Int → Int → Z
abbrev u_Z9_L8 {Z : Type} (f : A_Z9_L8 Z) (t : T_Z9_L8) : Z := f t.1 t.2.1 t.2.2.1 t.2.2.2.1
theorem loop_Z9_L8 {Q : A_Z9_L8 (((Int × Bool × Unit) × (List Int × Unit)) → Prop)} (I : A_Z9_L8 Prop) (μ : A_Z9_L8 Nat)
    (step : ∀ a0 a1 a2 a3, I a0 a1 a2 a3 → ∀ again : (Nat → Nat) → T_Z9_L8 → R_Z9, Dep 2 again → (∀ y0 y1 y2 y3, I y0 y1 y2 y3 → μ y0 y1 y2 y3 < μ a0 a1 a2 a3 → Tot (fun σ => again σ (y0, y1, y2, y3, ())) (Q y0 y1 y2 y3)) →
      Tot (fun σ => B_Z9_L8b (σ 0) (F_Z29 (σ 0)) (again σ) a0 a1 a2 a3) (Q a0 a1 a2 a3)) :
    ∀ a0 a1 a2 a3, I a0 a1 a2 a3 → Tot (fun σ => B_Z9_L8 (σ 0) (F_Z29 (σ 0)) (σ 0) (a0, a1, a2, a3, ())) (Q a0 a1 a2 a3) := fun a0 a1 a2 a3 => Tot.loop0 (L := fun k => B_Z9_L8 k (F_Z29 k)) (B := fun k g => u_Z9_L8 (B_Z9_L8b k (F_Z29 k) g)) (Q := u_Z9_L8 Q) (fun _ _ _ => rfl) (u_Z9_L8 I) (u_Z9_L8 μ)
    (fun t ht again hag h => step t.1 t.2.1 t.2.2.1 t.2.2.2.1 ht again hag fun y0 y1 y2 y3 => h (y0, y1, y2, y3, ())) (a0, a1, a2, a3, ())
abbrev A_Z9_L3 (Z : Type) : Type := List Int → Int → Int → Int → Z
abbrev u_Z9_L3 {Z : Type} (f : A_Z9_L3 Z) (t : T_Z9_L3) : Z := f t.1 t.2.1 t.2.2.1 t.2.2.2.1
theorem loop_Z9_L3 {Q : A_Z9_L3 (((Int × Bool × Unit) × (List Int × Unit)) → Prop)} (I : A_Z9_L3 Prop) (μ : A_Z9_L3 Nat)
    (step : ∀ a0 a1 a2 a3, I a0 a1 a2 a3 → ∀ again : (Nat → Nat) → T_Z9_L3 → R_Z9, Dep 2 again → (∀ y0 y1 y2 y3, I y0 y1 y2 y3 → μ y0 y1 y2 y3 < μ a0 a1 a2 a3 → Tot (fun σ => again σ (y0, y1, y2, y3, ())) (Q y0 y1 y2 y3)) →
      Tot (fun σ => B_Z9_L3b (σ 0) (F_Z29 (σ 0)) (again σ) a0 a1 a2 a3) (Q a0 a1 a2 a3)) :
    ∀ a0 a1 a2 a3, I a0 a1 a2 a3 → Tot (fun σ => B_Z9_L3 (σ 0) (F_Z29 (σ 0)) (σ 0) (a0, a1, a2, a3, ())) (Q a0 a1 a2 a3) := fun a0 a1 a2 a3 => Tot.loop0 (L := fun k => B_Z9_L3 k (F_Z29 k)) (B := fun k g => u_Z9_L3 (B_Z9_L3b k (F_Z29 k) g)) (Q := u_Z9_L3 Q) (fun _ _ _ => rfl) (u_Z9_L3 I) (u_Z9_L3 μ)
    (fun t ht again hag h => step t.1 t.2.1 t.2.2.1 t.2.2.2.1 ht again hag fun y0 y1 y2 y3 => h (y0, y1, y2, y3, ())) (a0, a1, a2, a3, ())
abbrev A_Z9_L1 (Z : Type) : Type := List Int → Int → Int → Int → Z
abbrev u_Z9_L1 {Z : Type} (f : A_Z9_L1 Z) (t : T_Z9_L1) : Z := f t.1 t.2.1 t.2.2.1 t.2.2.2.1
theorem loop_Z9_L1 {Q : A_Z9_L1 (((Int × Bool × Unit) × (List Int × Unit)) → Prop)} (I : A_Z9_L1 Prop) (μ : A_Z9_L1 Nat)
    (step : ∀ a0 a1 a2 a3, I a0 a1 a2 a3 → ∀ again : (Nat → Nat) → T_Z9_L1 → R_Z9, Dep 2 again → (∀ y0 y1 y2 y3, I y0 y1 y2 y3 → μ y0 y1 y2 y3 < μ a0 a1 a2 a3 → Tot (fun σ => again σ (y0, y1, y2, y3, ())) (Q y0 y1 y2 y3)) →
      Tot (fun σ => B_Z9_L1b (σ 0) (F_Z29 (σ 0)) (again σ) a0 a1 a2 a3) (Q a0 a1 a2 a3)) :
    ∀ a0 a1 a2 a3, I a0 a1 a2 a3 → Tot (fun σ => B_Z9_L1 (σ 0) (F_Z29 (σ 0)) (σ 0) (a0, a1, a2, a3, ())) (Q a0 a1 a2 a3) := fun a0 a1 a2 a3 => Tot.loop0 (L := fun k => B_Z9_L1 k (F_Z29 k)) (B := fun k g => u_Z9_L1 (B_Z9_L1b k (F_Z29 k) g)) (Q := u_Z9_L1 Q) (fun _ _ _ => rfl) (u_Z9_L1 I) (u_Z9_L1 μ)
    (fun t ht again hag h => step t.1 t.2.1 t.2.2.1 t.2.2.2.1 ht again hag fun y0 y1 y2 y3 => h (y0, y1, y2, y3, ())) (a0, a1, a2, a3, ())
abbrev R_Z13 : Type := Option ((Unit) × (List Int × Unit))
abbrev C_Z13 : Type := List Int → Int → Int → Int → R_Z13
abbrev T_Z13_L5 : Type := List Int × Int × Int × Int × Bool × Bool × Unit
def B_Z13_J4 (k : Nat) (c_Z6 : C_Z6) (c_Z10 : C_Z10) (c_Z5 : C_Z5) (c_Z8 : C_Z8) (c_Z7 : C_Z7) (c_Z2 : C_Z2) (c_Z29 : C_Z29) (c_Z3 : C_Z3) (c_Z9 : C_Z9) (c_Z13 : C_Z13) (again5 : T_Z13_L5 → R_Z13) (data : List Int) (a b limit : Int) (wasBalanced wasPartitioned : Bool) (length pivot : Int) (t87 : Bool) : R_Z13 :=
  bif t87 then
    (c_Z3 data a b pivot).bind fun r92 =>
    again5 (r92.2.1, r92.1.1, b, limit, wasBalanced, wasPartitioned, ())
  else
    (c_Z9 data a b pivot).bind fun r99 =>
    bif decide ((w64 (r99.1.1 - a)) < (w64 (b - r99.1.1))) then
      (c_Z13 r99.2.1 a r99.1.1 limit).bind fun r121 =>
      again5 (r121.2.1, w64 (r99.1.1 + 1), b, limit, decide ((w64 (r99.1.1 - a)) ≥ (w64 (length.tdiv 8))), r99.1.2.1, ())
    else
      (c_Z13 r99.2.1 (w64 (r99.1.1 + 1)) b limit).bind fun r132 =>
      again5 (r132.2.1, a, r99.1.1, limit, decide ((w64 (b - r99.1.1)) ≥ (w64 (length.tdiv 8))), r99.1.2.1, ())
def B_Z13_J3 (k : Nat) (c_Z6 : C_Z6) (c_Z10 : C_Z10) (c_Z5 : C_Z5) (c_Z8 : C_Z8) (c_Z7 : C_Z7) (c_Z2 : C_Z2) (c_Z29 : C_Z29) (c_Z3 : C_Z3) (c_Z9 : C_Z9) (c_Z13 : C_Z13) (again5 : T_Z13_L5 → R_Z13) (data : List Int) (a b limit : Int) (wasBalanced wasPartitioned : Bool) (length pivot : Int) : R_Z13 :=
  bif decide (a > 0) then
    chk (inb (w64 (a - 1)) data.length) <|
    chk (decide ((w64 (a - 1)).toNat < data.length)) <|
    chk (inb pivot data.length) <|
    chk (decide (pivot.toNat < data.length)) <|
    (c_Z29 (data.getD ((w64 (a - 1)).toNat) (0 : Int)) (data.getD pivot.toNat (0 : Int))).bind fun r85 =>
    jn (fun t => B_Z13_J4 k c_Z6 c_Z10 c_Z5 c_Z8 c_Z7 c_Z2 c_Z29 c_Z3 c_Z9 c_Z13 again5 t.1 t.2.1 t.2.2.1 t.2.2.2.1 t.2.2.2.2.1 t.2.2.2.2.2.1 t.2.2.2.2.2.2.1 t.2.2.2.2.2.2.2.1 t.2.2.2.2.2.2.2.2.1) (data, a, b, limit, wasBalanced, wasPartitioned, length, pivot, (!r85.1.1), ())
  else
    jn (fun t => B_Z13_J4 k c_Z6 c_Z10 c_Z5 c_Z8 c_Z7 c_Z2 c_Z29 c_Z3 c_Z9 c_Z13 again5 t.1 t.2.1 t.2.2.1 t.2.2.2.1 t.2.2.2.2.1 t.2.2.2.2.2.1 t.2.2.2.2.2.2.1 t.2.2.2.2.2.2.2.1 t.2.2.2.2.2.2.2.2.1) (data, a, b, limit, wasBalanced, wasPartitioned, length, pivot, false, ())
def B_Z13_J2 (k : Nat) (c_Z6 : C_Z6) (c_Z10 : C_Z10) (c_Z5 : C_Z5) (c_Z8 : C_Z8) (c_Z7 : C_Z7) (c_Z2 : C_Z2) (c_Z29 : C_Z29) (c_Z3 : C_Z3) (c_Z9 : C_Z9) (c_Z13 : C_Z13) (again5 : T_Z13_L5 → R_Z13) (data : List Int) (a b limit : Int) (wasBalanced wasPartitioned : Bool) (length pivot : Int) (t68 : Bool) : R_Z13 :=
  bif t68 then
    (c_Z2 data a b).bind fun r72 =>
    bif r72.1.1 then
      some ((), (r72.2.1, ()))
    else
      jn (fun t => B_Z13_J3 k c_Z6 c_Z10 c_Z5 c_Z8 c_Z7 c_Z2 c_Z29 c_Z3 c_Z9 c_Z13 again5 t.1 t.2.1 t.2.2.1 t.2.2.2.1 t.2.2.2.2.1 t.2.2.2.2.2.1 t.2.2.2.2.2.2.1 t.2.2.2.2.2.2.2.1) (r72.2.1, a, b, limit, wasBalanced, wasPartitioned, length, pivot, ())
  else
    jn (fun t => B_Z13_J3 k c_Z6 c_Z10 c_Z5 c_Z8 c_Z7 c_Z2 c_Z29 c_Z3 c_Z9 c_Z13 again5 t.1 t.2.1 t.2.2.1 t.2.2.2.1 t.2.2.2.2.1 t.2.2.2.2.2.1 t.2.2.2.2.2.2.1 t.2.2.2.2.2.2.2.1) (data, a, b, limit, wasBalanced, wasPartitioned, length, pivot, ())
def B_Z13_J1 (k : Nat) (c_Z6 : C_Z6) (c_Z10 : C_Z10) (c_Z5 : C_Z5) (c_Z8 : C_Z8) (c_Z7 : C_Z7) (c_Z2 : C_Z2) (c_Z29 : C_Z29) (c_Z3 : C_Z3) (c_Z9 : C_Z9) (c_Z13 : C_Z13) (again5 : T_Z13_L5 → R_Z13) (data : List Int) (a b limit : Int) (wasBalanced wasPartitioned : Bool) (length pivot hint : Int) : R_Z13 :=
  bif wasBalanced then
    bif wasPartitioned then
      jn (fun t => B_Z13_J2 k c_Z6 c_Z10 c_Z5 c_Z8 c_Z7 c_Z2 c_Z29 c_Z3 c_Z9 c_Z13 again5 t.1 t.2.1 t.2.2.1 t.2.2.2.1 t.2.2.2.2.1 t.2.2.2.2.2.1 t.2.2.2.2.2.2.1 t.2.2.2.2.2.2.2.1 t.2.2.2.2.2.2.2.2.1) (data, a, b, limit, wasBalanced, wasPartitioned, length, pivot, (hint == 1), ())
    else
      jn (fun t => B_Z13_J2 k c_Z6 c_Z10 c_Z5 c_Z8 c_Z7 c_Z2 c_Z29 c_Z3 c_Z9 c_Z13 again5 t.1 t.2.1 t.2.2.1 t.2.2.2.1 t.2.2.2.2.1 t.2.2.2.2.2.1 t.2.2.2.2.2.2.1 t.2.2.2.2.2.2.2.1 t.2.2.2.2.2.2.2.2.1) (data, a, b, limit, wasBalanced, wasPartitioned, length, pivot, false, ())
  else
    jn (fun t => B_Z13_J2 k c_Z6 c_Z10 c_Z5 c_Z8 c_Z7 c_Z2 c_Z29 c_Z3 c_Z9 c_Z13 again5 t.1 t.2.1 t.2.2.1 t.2.2.2.1 t.2.2.2.2.1 t.2.2.2.2.2.1 t.2.2.2.2.2.2.1 t.2.2.2.2.2.2.2.1 t.2.2.2.2.2.2.2.2.1) (data, a, b, limit, wasBalanced, wasPartitioned, length, pivot, false, ())
def B_Z13_J0 (k : Nat) (c_Z6 : C_Z6) (c_Z10 : C_Z10) (c_Z5 : C_Z5) (c_Z8 : C_Z8) (c_Z7 : C_Z7) (c_Z2 : C_Z2) (c_Z29 : C_Z29) (c_Z3 : C_Z3) (c_Z9 : C_Z9) (c_Z13 : C_Z13) (again5 : T_Z13_L5 → R_Z13) (data : List Int) (a b limit : Int) (wasBalanced wasPartitioned : Bool) (length : Int) : R_Z13 :=
  (c_Z8 data a b).bind fun r46 =>
  bif (r46.1.2.1 == 2) then
    (c_Z7 data a b).bind fun r54 =>
    jn (fun t => B_Z13_J1 k c_Z6 c_Z10 c_Z5 c_Z8 c_Z7 c_Z2 c_Z29 c_Z3 c_Z9 c_Z13 again5 t.1 t.2.1 t.2.2.1 t.2.2.2.1 t.2.2.2.2.1 t.2.2.2.2.2.1 t.2.2.2.2.2.2.1 t.2.2.2.2.2.2.2.1 t.2.2.2.2.2.2.2.2.1) (r54.2.1, a, b, limit, wasBalanced, wasPartitioned, length, w64 ((w64 (b - 1)) - (w64 (r46.1.1 - a))), 1, ())
  else
    jn (fun t => B_Z13_J1 k c_Z6 c_Z10 c_Z5 c_Z8 c_Z7 c_Z2 c_Z29 c_Z3 c_Z9 c_Z13 again5 t.1 t.2.1 t.2.2.1 t.2.2.2.1 t.2.2.2.2.1 t.2.2.2.2.2.1 t.2.2.2.2.2.2.1 t.2.2.2.2.2.2.2.1 t.2.2.2.2.2.2.2.2.1) (data, a, b, limit, wasBalanced, wasPartitioned, length, r46.1.1, r46.1.2.1, ())
def B_Z13_L5b (k : Nat) (c_Z6 : C_Z6) (c_Z10 : C_Z10) (c_Z5 : C_Z5) (c_Z8 : C_Z8) (c_Z7 : C_Z7) (c_Z2 : C_Z2) (c_Z29 : C_Z29) (c_Z3 : C_Z3) (c_Z9 : C_Z9) (c_Z13 : C_Z13) (again5 : T_Z13_L5 → R_Z13) (data : List Int) (a b limit : Int) (wasBalanced wasPartitioned : Bool) : R_Z13 :=
  bif decide ((w64 (b - a)) ≤ 12) then
    (c_Z6 data a b).bind fun r27 =>
    some ((), (r27.2.1, ()))
  else
    bif (limit == 0) then
      (c_Z10 data a b).bind fun r33 =>
      some ((), (r33.2.1, ()))
    else
      bif (!wasBalanced) then
        (c_Z5 data a b).bind fun r39 =>
        jn (fun t => B_Z13_J0 k c_Z6 c_Z10 c_Z5 c_Z8 c_Z7 c_Z2 c_Z29 c_Z3 c_Z9 c_Z13 again5 t.1 t.2.1 t.2.2.1 t.2.2.2.1 t.2.2.2.2.1 t.2.2.2.2.2.1 t.2.2.2.2.2.2.1) (r39.2.1, a, b, w64 (limit - 1), wasBalanced, wasPartitioned, w64 (b - a), ())
      else
        jn (fun t => B_Z13_J0 k c_Z6 c_Z10 c_Z5 c_Z8 c_Z7 c_Z2 c_Z29 c_Z3 c_Z9 c_Z13 again5 t.1 t.2.1 t.2.2.1 t.2.2.2.1 t.2.2.2.2.1 t.2.2.2.2.2.1 t.2.2.2.2.2.2.1) (data, a, b, limit, wasBalanced, wasPartitioned, w64 (b - a), ())
def B_Z13_L5 (k : Nat) (c_Z6 : C_Z6) (c_Z10 : C_Z10) (c_Z5 : C_Z5) (c_Z8 : C_Z8) (c_Z7 : C_Z7) (c_Z2 : C_Z2) (c_Z29 : C_Z29) (c_Z3 : C_Z3) (c_Z9 : C_Z9) (c_Z13 : C_Z13) (n : Nat) (t : T_Z13_L5) : R_Z13 :=
  lfix n (fun again t => B_Z13_L5b k c_Z6 c_Z10 c_Z5 c_Z8 c_Z7 c_Z2 c_Z29 c_Z3 c_Z9 c_Z13 again t.1 t.2.1 t.2.2.1 t.2.2.2.1 t.2.2.2.2.1 t.2.2.2.2.2.1) t
def B_Z13 (k : Nat) (c_Z6 : C_Z6) (c_Z10 : C_Z10) (c_Z5 : C_Z5) (c_Z8 : C_Z8) (c_Z7 : C_Z7) (c_Z2 : C_Z2) (c_Z29 : C_Z29) (c_Z3 : C_Z3) (c_Z9 : C_Z9) (c_Z13 : C_Z13) (data : List Int) (a b limit : Int) : R_Z13 :=
  B_Z13_L5 k c_Z6 c_Z10 c_Z5 c_Z8 c_Z7 c_Z2 c_Z29 c_Z3 c_Z9 c_Z13 k (data, a, b, limit, true, true, ())
def F_Z13 : Nat → C_Z13
  | 0, _, _, _, _ => none
  | k + 1, data, a, b, limit => B_Z13 k (F_Z6 k) (F_Z10 k) (F_Z5 k) (F_Z8 k) (F_Z7 k) (F_Z2 k) (F_Z29 k) (F_Z3 k) (F_Z9 k) (F_Z13 k) data a b limit
theorem F_Z13_succ (k : Nat) (data : List Int) (a : Int) (b : Int) (limit : Int) : F_Z13 (k + 1) data a b limit = B_Z13 k (F_Z6 k) (F_Z10 k) (F_Z5 k) (F_Z8 k) (F_Z7 k) (F_Z2 k) (F_Z29 k) (F_Z3 k) (F_Z9 k) (F_Z13 k) data a b limit := by rw [F_Z13]
theorem tot_Z13 {data a b limit : _} {Q : _ → Prop} (h : Tot (fun σ => B_Z13 (σ 0) (F_Z6 (σ 0)) (F_Z10 (σ 0)) (F_Z5 (σ 0)) (F_Z8 (σ 0)) (F_Z7 (σ 0)) (F_Z2 (σ 0)) (F_Z29 (σ 0)) (F_Z3 (σ 0)) (F_Z9 (σ 0)) (F_Z13 (σ 0)) data a b limit) Q) : Tot (fun σ => F_Z13 (σ 0) data a b limit) Q :=
  Tot.call (F := fun k => F_Z13 k data a b limit) (B := fun k => B_Z13 k (F_Z6 k) (F_Z10 k) (F_Z5 k) (F_Z8 k) (F_Z7 k) (F_Z2 k) (F_Z29 k) (F_Z3 k) (F_Z9 k) (F_Z13 k) data a b limit) (fun k => F_Z13_succ k data a b limit) h
abbrev A_Z13_L5 (Z : Type) : Type := List Int → Int → Int → Int → Bool → Bool → Z
abbrev u_Z13_L5 {Z : Type} (f : A_Z13_L5 Z) (t : T_Z13_L5) : Z := f t.1 t.2.1 t.2.2.1 t.2.2.2.1 t.2.2.2.2.1 t.2.2.2.2.2.1
theorem loop_Z13_L5 {Q : A_Z13_L5 (((Unit) × (List Int × Unit)) → Prop)} (I : A_Z13_L5 Prop) (μ : A_Z13_L5 Nat)
    (step : ∀ a0 a1 a2 a3 a4 a5, I a0 a1 a2 a3 a4 a5 → ∀ again : (Nat → Nat) → T_Z13_L5 → R_Z13, Dep 2 again → (∀ y0 y1 y2 y3 y4 y5, I y0 y1 y2 y3 y4 y5 → μ y0 y1 y2 y3 y4 y5 < μ a0 a1 a2 a3 a4 a5 → Tot (fun σ => again σ (y0, y1, y2, y3, y4, y5, ())) (Q y0 y1 y2 y3 y4 y5)) →
      Tot (fun σ => B_Z13_L5b (σ 0) (F_Z6 (σ 0)) (F_Z10 (σ 0)) (F_Z5 (σ 0)) (F_Z8 (σ 0)) (F_Z7 (σ 0)) (F_Z2 (σ 0)) (F_Z29 (σ 0)) (F_Z3 (σ 0)) (F_Z9 (σ 0)) (F_Z13 (σ 0)) (again σ) a0 a1 a2 a3 a4 a5) (Q a0 a1 a2 a3 a4 a5)) :
    ∀ a0 a1 a2 a3 a4 a5, I a0 a1 a2 a3 a4 a5 → Tot (fun σ => B_Z13_L5 (σ 0) (F_Z6 (σ 0)) (F_Z10 (σ 0)) (F_Z5 (σ 0)) (F_Z8 (σ 0)) (F_Z7 (σ 0)) (F_Z2 (σ 0)) (F_Z29 (σ 0)) (F_Z3 (σ 0)) (F_Z9 (σ 0)) (F_Z13 (σ 0)) (σ 0) (a0, a1, a2, a3, a4, a5, ())) (Q a0 a1 a2 a3 a4 a5) := fun a0 a1 a2 a3 a4 a5 => Tot.loop0 (L := fun k => B_Z13_L5 k (F_Z6 k) (F_Z10 k) (F_Z5 k) (F_Z8 k) (F_Z7 k) (F_Z2 k) (F_Z29 k) (F_Z3 k) (F_Z9 k) (F_Z13 k)) (B := fun k g => u_Z13_L5 (B_Z13_L5b k (F_Z6 k) (F_Z10 k) (F_Z5 k) (F_Z8 k) (F_Z7 k) (F_Z2 k) (F_Z29 k) (F_Z3 k) (F_Z9 k) (F_Z13 k) g)) (Q := u_Z13_L5 Q) (fun _ _ _ => rfl) (u_Z13_L5 I) (u_Z13_L5 μ)
    (fun t ht again hag h => step t.1 t.2.1 t.2.2.1 t.2.2.2.1 t.2.2.2.2.1 t.2.2.2.2.2.1 ht again hag fun y0 y1 y2 y3 y4 y5 => h (y0, y1, y2, y3, y4, y5, ())) (a0, a1, a2, a3, a4, a5, ())
abbrev R_Z20 : Type := Option ((Unit) × (List Int × Unit))
abbrev C_Z20 : Type := List Int → R_Z20
def B_Z20 (k : Nat) (c_bits_Len : C_bits_Len) (c_Z13 : C_Z13) (x : List Int) : R_Z20 :=
  (c_bits_Len (IntKind.wrap .u64 (len x))).bind fun r9 =>
  (c_Z13 x 0 (len x) r9.1.1).bind fun r10 =>
  some ((), (r10.2.1, ()))
def F_Z20 : Nat → C_Z20
  | 0, _ => none
  | k + 1, x => B_Z20 k (F_bits_Len k) (F_Z13 k) x
theorem tot_Z20 {x : _} {Q : _ → Prop} (h : Tot (fun σ => B_Z20 (σ 0) (F_bits_Len (σ 0)) (F_Z13 (σ 0)) x) Q) : Tot (fun σ => F_Z20 (σ 0) x) Q :=
  Tot.call (F := fun k => F_Z20 k x) (B := fun k => B_Z20 k (F_bits_Len k) (F_Z13 k) x) (fun k => rfl) h
abbrev R_Z44 : Type := Option ((List Int × Unit) × (Unit))
abbrev C_Z44 : Type := (List (Int × Int × List Int)) → Int → R_Z44
abbrev T_Z44_L1 : Type := ((List (Int × Int × List Int)) × Int × Unit) × List Int × List Int × Int × Int × Unit
def B_Z44_J0 (k : Nat) (c_Z28 : C_Z28) (c_Z55 : C_Z55) (c_Z16 : C_Z16) (c_Z20 : C_Z20) (again1 : T_Z44_L1 → R_Z44) (g_Nodes : List (Int × Int × List Int)) (g_Root : Int) (out t11 : List Int) (t12 t13 : Int) : R_Z44 :=
  again1 ((g_Nodes, g_Root, ()), out, t11, t12, w64 (t13 + 1), ())
def B_Z44_L1b (k : Nat) (c_Z28 : C_Z28) (c_Z55 : C_Z55) (c_Z16 : C_Z16) (c_Z20 : C_Z20) (again1 : T_Z44_L1 → R_Z44) (g_Nodes : List (Int × Int × List Int)) (g_Root : Int) (out t11 : List Int) (t12 t13 : Int) : R_Z44 :=
  bif decide (t13 < t12) then
    chk (inb t13 t11.length) <|
    chk (decide (t13.toNat < t11.length)) <|
    (c_Z16 g_Nodes (t11.getD t13.toNat (0 : Int))).bind fun r20 =>
    bif r20.1.1 then
      chk (room out.length ([(t11.getD t13.toNat (0 : Int))]).length) <|
      jn (fun t => B_Z44_J0 k c_Z28 c_Z55 c_Z16 c_Z20 again1 t.1.1 t.1.2.1 t.2.1 t.2.2.1 t.2.2.2.1 t.2.2.2.2.1) ((g_Nodes, g_Root, ()), (out ++ [(t11.getD t13.toNat (0 : Int))]), t11, t12, t13, ())
    else
      jn (fun t => B_Z44_J0 k c_Z28 c_Z55 c_Z16 c_Z20 again1 t.1.1 t.1.2.1 t.2.1 t.2.2.1 t.2.2.2.1 t.2.2.2.2.1) ((g_Nodes, g_Root, ()), out, t11, t12, t13, ())
  else
    (c_Z20 out).bind fun r27 =>
    some ((r27.2.1, ()), ())
def B_Z44_L1 (k : Nat) (c_Z28 : C_Z28) (c_Z55 : C_Z55) (c_Z16 : C_Z16) (c_Z20 : C_Z20) (n : Nat) (t : T_Z44_L1) : R_Z44 :=
  lfix n (fun again t => B_Z44_L1b k c_Z28 c_Z55 c_Z16 c_Z20 again t.1.1 t.1.2.1 t.2.1 t.2.2.1 t.2.2.2.1 t.2.2.2.2.1) t
def B_Z44 (k : Nat) (c_Z28 : C_Z28) (c_Z55 : C_Z55) (c_Z16 : C_Z16) (c_Z20 : C_Z20) (g_0 : List (Int × Int × List Int)) (g_1 : Int) : R_Z44 :=
  (c_Z28 g_0 g_1).bind fun r7 =>
  bif (!r7.1.1) then
    some (([], ()), ())
  else
    (c_Z55 g_0 g_1).bind fun r11 =>
    B_Z44_L1 k c_Z28 c_Z55 c_Z16 c_Z20 k ((g_0, g_1, ()), [], r11.1.1, len r11.1.1, 0, ())
def F_Z44 : Nat → C_Z44
  | 0, _, _ => none
  | k + 1, g_0, g_1 => B_Z44 k (F_Z28 k) (F_Z55 k) (F_Z16 k) (F_Z20 k) g_0 g_1
theorem tot_Z44 {g_0 g_1 : _} {Q : _ → Prop} (h : Tot (fun σ => B_Z44 (σ 0) (F_Z28 (σ 0)) (F_Z55 (σ 0)) (F_Z16 (σ 0)) (F_Z20 (σ 0)) g_0 g_1) Q) : Tot (fun σ => F_Z44 (σ 0) g_0 g_1) Q :=
  Tot.call (F := fun k => F_Z44 k g_0 g_1) (B := fun k => B_Z44 k (F_Z28 k) (F_Z55 k) (F_Z16 k) (F_Z20 k) g_0 g_1) (fun k => rfl) h
abbrev A_Z44_L1 (Z : Type) : Type := (List (Int × Int × List Int)) → Int → List Int → List Int → Int → Int → Z
abbrev u_Z44_L1 {Z : Type} (f : A_Z44_L1 Z) (t : T_Z44_L1) : Z := f t.1.1 t.1.2.1 t.2.1 t.2.2.1 t.2.2.2.1 t.2.2.2.2.1
theorem loop_Z44_L1 {Q : A_Z44_L1 (((List Int × Unit) × (Unit)) → Prop)} (I : A_Z44_L1 Prop) (μ : A_Z44_L1 Nat)
    (step : ∀ a0 a1 a2 a3 a4 a5, I a0 a1 a2 a3 a4 a5 → ∀ again : (Nat → Nat) → T_Z44_L1 → R_Z44, Dep 2 again → (∀ y0 y1 y2 y3 y4 y5, I y0 y1 y2 y3 y4 y5 → μ y0 y1 y2 y3 y4 y5 < μ a0 a1 a2 a3 a4 a5 → Tot (fun σ => again σ ((y0, y1, ()), y2, y3, y4, y5, ())) (Q y0 y1 y2 y3 y4 y5)) →
      Tot (fun σ => B_Z44_L1b (σ 0) (F_Z28 (σ 0)) (F_Z55 (σ 0)) (F_Z16 (σ 0)) (F_Z20 (σ 0)) (again σ) a0 a1 a2 a3 a4 a5) (Q a0 a1 a2 a3 a4 a5)) :
    ∀ a0 a1 a2 a3 a4 a5, I a0 a1 a2 a3 a4 a5 → Tot (fun σ => B_Z44_L1 (σ 0) (F_Z28 (σ 0)) (F_Z55 (σ 0)) (F_Z16 (σ 0)) (F_Z20 (σ 0)) (σ 0) ((a0, a1, ()), a2, a3, a4, a5, ())) (Q a0 a1 a2 a3 a4 a5) := fun a0 a1 a2 a3 a4 a5 => Tot.loop0 (L := fun k => B_Z44_L1 k (F_Z28 k) (F_Z55 k) (F_Z16 k) (F_Z20 k)) (B := fun k g => u_Z44_L1 (B_Z44_L1b k (F_Z28 k) (F_Z55 k) (F_Z16 k) (F_Z20 k) g)) (Q := u_Z44_L1 Q) (fun _ _ _ => rfl) (u_Z44_L1 I) (u_Z44_L1 μ)
    (fun t ht again hag h => step t.1.1 t.1.2.1 t.2.1 t.2.2.1 t.2.2.2.1 t.2.2.2.2.1 ht again hag fun y0 y1 y2 y3 y4 y5 => h ((y0, y1, ()), y2, y3, y4, y5, ())) ((a0, a1, ()), a2, a3, a4, a5, ())
abbrev R_Z31 : Type := Option ((Int × Unit) × (((List (Int × Int × List Int)) × Int × Unit) × (Unit × Unit) × Unit))
abbrev C_Z31 : Type := Int → (List (Int × Int × List Int)) → Int → R_Z31
abbrev T_Z31_L0 : Type := ((List (Int × Int × List Int)) × Int × Unit) × (Unit × Unit) × Int × List Int × Int × Int × Unit
def B_Z31_L0b (k : Nat) (c_Z31 : C_Z31) (again0 : T_Z31_L0 → R_Z31) (t1_Nodes : List (Int × Int × List Int)) (t1_Root n5 : Int) (t13 : List Int) (t14 t15 : Int) : R_Z31 :=
  bif decide (t15 < t14) then
    chk (inb t15 t13.length) <|
    (c_Z31 (rdx (0 : Int) t13 t15) t1_Nodes t1_Root).bind fun r22 =>
    bif ((if w64 (n5 + r22.1.1) < 5000 then w64 (n5 + r22.1.1) else 5000) == 5000) then
      some (((if w64 (n5 + r22.1.1) < 5000 then w64 (n5 + r22.1.1) else 5000), ()), ((r22.2.1.1, r22.2.1.2.1, ()), ((), ()), ()))
    else
      again0 ((r22.2.1.1, r22.2.1.2.1, ()), ((), ()), (if w64 (n5 + r22.1.1) < 5000 then w64 (n5 + r22.1.1) else 5000), t13, t14, w64 (t15 + 1), ())
  else
    some ((n5, ()), ((t1_Nodes, t1_Root, ()), ((), ()), ()))
def B_Z31_L0 (k : Nat) (c_Z31 : C_Z31) (n : Nat) (t : T_Z31_L0) : R_Z31 :=
  lfix n (fun again t => B_Z31_L0b k c_Z31 again t.1.1 t.1.2.1 t.2.2.1 t.2.2.2.1 t.2.2.2.2.1 t.2.2.2.2.2.1) t
def B_Z31 (k : Nat) (c_Z31 : C_Z31) (i : Int) (t1_Nodes : List (Int × Int × List Int)) (t1_Root : Int) : R_Z31 :=
  chk (inb i t1_Nodes.length) <|
  B_Z31_L0 k c_Z31 k ((t1_Nodes, t1_Root, ()), ((), ()), 1, ((rdx ((0 : Int), ((0 : Int), ([] : List Int))) t1_Nodes i).2).2, len (((rdx ((0 : Int), ((0 : Int), ([] : List Int))) t1_Nodes i).2).2), 0, ())
def F_Z31 : Nat → C_Z31
  | 0, _, _, _ => none
  | k + 1, i, t1_Nodes, t1_Root => B_Z31 k (F_Z31 k) i t1_Nodes t1_Root
theorem F_Z31_succ (k : Nat) (i : Int) (t1_Nodes : List (Int × Int × List Int)) (t1_Root : Int) : F_Z31 (k + 1) i t1_Nodes t1_Root = B_Z31 k (F_Z31 k) i t1_Nodes t1_Root := by rw [F_Z31]
theorem tot_Z31 {i t1_Nodes t1_Root : _} {Q : _ → Prop} (h : Tot (fun σ => B_Z31 (σ 0) (F_Z31 (σ 0)) i t1_Nodes t1_Root) Q) : Tot (fun σ => F_Z31 (σ 0) i t1_Nodes t1_Root) Q :=
  Tot.call (F := fun k => F_Z31 k i t1_Nodes t1_Root) (B := fun k => B_Z31 k (F_Z31 k) i t1_Nodes t1_Root) (fun k => F_Z31_succ k i t1_Nodes t1_Root) h
abbrev A_Z31_L0 (Z : Type) : Type := (List (Int × Int × List Int)) → Int → Int → List Int → Int → Int → Z
abbrev u_Z31_L0 {Z : Type} (f : A_Z31_L0 Z) (t : T_Z31_L0) : Z := f t.1.1 t.1.2.1 t.2.2.1 t.2.2.2.1 t.2.2.2.2.1 t.2.2.2.2.2.1
theorem loop_Z31_L0 {Q : A_Z31_L0 (((Int × Unit) × (((List (Int × Int × List Int)) × Int × Unit) × (Unit × Unit) × Unit)) → Prop)} (I : A_Z31_L0 Prop) (μ : A_Z31_L0 Nat)
    (step : ∀ a0 a1 a2 a3 a4 a5, I a0 a1 a2 a3 a4 a5 → ∀ again : (Nat → Nat) → T_Z31_L0 → R_Z31, Dep 2 again → (∀ y0 y1 y2 y3 y4 y5, I y0 y1 y2 y3 y4 y5 → μ y0 y1 y2 y3 y4 y5 < μ a0 a1 a2 a3 a4 a5 → Tot (fun σ => again σ ((y0, y1, ()), ((), ()), y2, y3, y4, y5, ())) (Q y0 y1 y2 y3 y4 y5)) →
      Tot (fun σ => B_Z31_L0b (σ 0) (F_Z31 (σ 0)) (again σ) a0 a1 a2 a3 a4 a5) (Q a0 a1 a2 a3 a4 a5)) :
    ∀ a0 a1 a2 a3 a4 a5, I a0 a1 a2 a3 a4 a5 → Tot (fun σ => B_Z31_L0 (σ 0) (F_Z31 (σ 0)) (σ 0) ((a0, a1, ()), ((), ()), a2, a3, a4, a5, ())) (Q a0 a1 a2 a3 a4 a5) := fun a0 a1 a2 a3 a4 a5 => Tot.loop0 (L := fun k => B_Z31_L0 k (F_Z31 k)) (B := fun k g => u_Z31_L0 (B_Z31_L0b k (F_Z31 k) g)) (Q := u_Z31_L0 Q) (fun _ _ _ => rfl) (u_Z31_L0 I) (u_Z31_L0 μ)
    (fun t ht again hag h => step t.1.1 t.1.2.1 t.2.2.1 t.2.2.2.1 t.2.2.2.2.1 t.2.2.2.2.2.1 ht again hag fun y0 y1 y2 y3 y4 y5 => h ((y0, y1, ()), ((), ()), y2, y3, y4, y5, ())) ((a0, a1, ()), ((), ()), a2, a3, a4, a5, ())
abbrev R_Z41 : Type := Option ((Int × Unit) × (Unit))
abbrev C_Z41 : Type := (List (Int × Int × List Int)) → Int → R_Z41
def B_Z41 (k : Nat) (c_Z28 : C_Z28) (c_Z44 : C_Z44) (c_Z31 : C_Z31) (g_0 : List (Int × Int × List Int)) (g_1 : Int) : R_Z41 :=
  (c_Z28 g_0 g_1).bind fun r5 =>
  bif (!r5.1.1) then
    some (((-1), ()), ())
  else
    (c_Z44 g_0 g_1).bind fun r8 =>
    bif decide ((len r8.1.1) > 0) then
      some ((5000, ()), ())
    else
      (c_Z31 g_1 g_0 g_1).bind fun r15 =>
      some ((r15.1.1, ()), ())
def F_Z41 : Nat → C_Z41
  | 0, _, _ => none
  | k + 1, g_0, g_1 => B_Z41 k (F_Z28 k) (F_Z44 k) (F_Z31 k) g_0 g_1
theorem tot_Z41 {g_0 g_1 : _} {Q : _ → Prop} (h : Tot (fun σ => B_Z41 (σ 0) (F_Z28 (σ 0)) (F_Z44 (σ 0)) (F_Z31 (σ 0)) g_0 g_1) Q) : Tot (fun σ => F_Z41 (σ 0) g_0 g_1) Q :=
  Tot.call (F := fun k => F_Z41 k g_0 g_1) (B := fun k => B_Z41 k (F_Z28 k) (F_Z44 k) (F_Z31 k) g_0 g_1) (fun k => rfl) h
abbrev R_Z21 : Type := Option ((Int × Unit) × (((List (Int × Int × Option (List Int))) × Int × Unit) × ((List (Int × Int × List Int)) × Int × Unit) × (Unit × Unit) × Unit))
abbrev C_Z21 : Type := Int → (List (Int × Int × Option (List Int))) → Int → (List (Int × Int × List Int)) → Int → R_Z21
abbrev T_Z21_L0 : Type := ((List (Int × Int × Option (List Int))) × Int × Unit) × ((List (Int × Int × List Int)) × Int × Unit) × (Unit × Unit) × Int × List Int × List Int × Int × Int × Unit
def B_Z21_L0b (k : Nat) (c_Z21 : C_Z21) (again0 : T_Z21_L0 → R_Z21) (t1_Nodes : List (Int × Int × Option (List Int))) (t1_Root : Int) (t2_Nodes : List (Int × Int × List Int)) (t2_Root at6 : Int) (kids t31 : List Int) (t32 t33 : Int) : R_Z21 :=
  bif decide (t33 < t32) then
    chk (inb t33 t31.length) <|
    (c_Z21 (rdx (0 : Int) t31 t33) t1_Nodes t1_Root t2_Nodes t2_Root).bind fun r40 =>
    chk (room kids.length ([r40.1.1]).length) <|
    again0 ((r40.2.1.1, r40.2.1.2.1, ()), (r40.2.2.1.1, r40.2.2.1.2.1, ()), ((), ()), at6, (kids ++ [r40.1.1]), t31, t32, w64 (t33 + 1), ())
  else
    chk (inb at6 t1_Nodes.length) <|
    chk (decide (at6.toNat < t1_Nodes.length)) <|
    some ((at6, ()), (((t1_Nodes.set at6.toNat ((t1_Nodes.getD at6.toNat ((0 : Int), ((0 : Int), (none : Option (List Int))))).1, (((t1_Nodes.getD at6.toNat ((0 : Int), ((0 : Int), (none : Option (List Int))))).2).1, (some kids)))), t1_Root, ()), (t2_Nodes, t2_Root, ()), ((), ()), ()))
def B_Z21_L0 (k : Nat) (c_Z21 : C_Z21) (n : Nat) (t : T_Z21_L0) : R_Z21 :=
  lfix n (fun again t => B_Z21_L0b k c_Z21 again t.1.1 t.1.2.1 t.2.1.1 t.2.1.2.1 t.2.2.2.1 t.2.2.2.2.1 t.2.2.2.2.2.1 t.2.2.2.2.2.2.1 t.2.2.2.2.2.2.2.1) t
def B_Z21 (k : Nat) (c_Z21 : C_Z21) (i : Int) (t1_Nodes : List (Int × Int × Option (List Int))) (t1_Root : Int) (t2_Nodes : List (Int × Int × List Int)) (t2_Root : Int) : R_Z21 :=
  chk (inb i t2_Nodes.length) <|
  chk (room t1_Nodes.length ([((rdx ((0 : Int), ((0 : Int), ([] : List Int))) t2_Nodes i).1, (((rdx ((0 : Int), ((0 : Int), ([] : List Int))) t2_Nodes i).2).1, (none : Option (List Int))))]).length) <|
  B_Z21_L0 k c_Z21 k (((t1_Nodes ++ [((rdx ((0 : Int), ((0 : Int), ([] : List Int))) t2_Nodes i).1, (((rdx ((0 : Int), ((0 : Int), ([] : List Int))) t2_Nodes i).2).1, (none : Option (List Int))))]), t1_Root, ()), (t2_Nodes, t2_Root, ()), ((), ()), len t1_Nodes, [], ((rdx ((0 : Int), ((0 : Int), ([] : List Int))) t2_Nodes i).2).2, len (((rdx ((0 : Int), ((0 : Int), ([] : List Int))) t2_Nodes i).2).2), 0, ())
def F_Z21 : Nat → C_Z21
  | 0, _, _, _, _, _ => none
  | k + 1, i, t1_Nodes, t1_Root, t2_Nodes, t2_Root => B_Z21 k (F_Z21 k) i t1_Nodes t1_Root t2_Nodes t2_Root
theorem F_Z21_succ (k : Nat) (i : Int) (t1_Nodes : List (Int × Int × Option (List Int))) (t1_Root : Int) (t2_Nodes : List (Int × Int × List Int)) (t2_Root : Int) : F_Z21 (k + 1) i t1_Nodes t1_Root t2_Nodes t2_Root = B_Z21 k (F_Z21 k) i t1_Nodes t1_Root t2_Nodes t2_Root := by rw [F_Z21]
theorem tot_Z21 {i t1_Nodes t1_Root t2_Nodes t2_Root : _} {Q : _ → Prop} (h : Tot (fun σ => B_Z21 (σ 0) (F_Z21 (σ 0)) i t1_Nodes t1_Root t2_Nodes t2_Root) Q) : Tot (fun σ => F_Z21 (σ 0) i t1_Nodes t1_Root t2_Nodes t2_Root) Q :=
  Tot.call (F := fun k => F_Z21 k i t1_Nodes t1_Root t2_Nodes t2_Root) (B := fun k => B_Z21 k (F_Z21 k) i t1_Nodes t1_Root t2_Nodes t2_Root) (fun k => F_Z21_succ k i t1_Nodes t1_Root t2_Nodes t2_Root) h
abbrev A_Z21_L0 (Z : Type) : Type := (List (Int × Int × Option (List Int))) → Int → (List (Int × Int × List Int)) → Int → Int → List Int → List Int → Int → Int → Z
abbrev u_Z21_L0 {Z : Type} (f : A_Z21_L0 Z) (t : T_Z21_L0) : Z := f t.1.1 t.1.2.1 t.2.1.1 t.2.1.2.1 t.2.2.2.1 t.2.2.2.2.1 t.2.2.2.2.2.1 t.2.2.2.2.2.2.1 t.2.2.2.2.2.2.2.1
theorem loop_Z21_L0 {Q : A_Z21_L0 (((Int × Unit) × (((List (Int × Int × Option (List Int))) × Int × Unit) × ((List (Int × Int × List Int)) × Int × Unit) × (Unit × Unit) × Unit)) → Prop)} (I : A_Z21_L0 Prop) (μ : A_Z21_L0 Nat)
    (step : ∀ a0 a1 a2 a3 a4 a5 a6 a7 a8, I a0 a1 a2 a3 a4 a5 a6 a7 a8 → ∀ again : (Nat → Nat) → T_Z21_L0 → R_Z21, Dep 2 again → (∀ y0 y1 y2 y3 y4 y5 y6 y7 y8, I y0 y1 y2 y3 y4 y5 y6 y7 y8 → μ y0 y1 y2 y3 y4 y5 y6 y7 y8 < μ a0 a1 a2 a3 a4 a5 a6 a7 a8 → Tot (fun σ => again σ ((y0, y1, ()), (y2, y3, ()), ((), ()), y4, y5, y6, y7, y8, ())) (Q y0 y1 y2 y3 y4 y5 y6 y7 y8)) →
      Tot (fun σ => B_Z21_L0b (σ 0) (F_Z21 (σ 0)) (again σ) a0 a1 a2 a3 a4 a5 a6 a7 a8) (Q a0 a1 a2 a3 a4 a5 a6 a7 a8)) :
    ∀ a0 a1 a2 a3 a4 a5 a6 a7 a8, I a0 a1 a2 a3 a4 a5 a6 a7 a8 → Tot (fun σ => B_Z21_L0 (σ 0) (F_Z21 (σ 0)) (σ 0) ((a0, a1, ()), (a2, a3, ()), ((), ()), a4, a5, a6, a7, a8, ())) (Q a0 a1 a2 a3 a4 a5 a6 a7 a8) := fun a0 a1 a2 a3 a4 a5 a6 a7 a8 => Tot.loop0 (L := fun k => B_Z21_L0 k (F_Z21 k)) (B := fun k g => u_Z21_L0 (B_Z21_L0b k (F_Z21 k) g)) (Q := u_Z21_L0 Q) (fun _ _ _ => rfl) (u_Z21_L0 I) (u_Z21_L0 μ)
    (fun t ht again hag h => step t.1.1 t.1.2.1 t.2.1.1 t.2.1.2.1 t.2.2.2.1 t.2.2.2.2.1 t.2.2.2.2.2.1 t.2.2.2.2.2.2.1 t.2.2.2.2.2.2.2.1 ht again hag fun y0 y1 y2 y3 y4 y5 y6 y7 y8 => h ((y0, y1, ()), (y2, y3, ()), ((), ()), y4, y5, y6, y7, y8, ())) ((a0, a1, ()), (a2, a3, ()), ((), ()), a4, a5, a6, a7, a8, ())
abbrev R_Z22 : Type := Option ((((List (Int × Int × Option (List Int))) × Int × Unit) × Bool × Unit) × (Unit))
abbrev C_Z22 : Type := (List (Int × Int × List Int)) → Int → R_Z22
def B_Z22_J0 (k : Nat) (c_Z28 : C_Z28) (c_Z44 : C_Z44) (c_Z41 : C_Z41) (c_Z21 : C_Z21) (g_Nodes : List (Int × Int × List Int)) (g_Root t2_Root : Int) (t19 : Bool) : R_Z22 :=
  bif t19 then
    some ((([], 0, ()), false, ()), ())
  else
    (c_Z21 g_Root ([]) 0 g_Nodes g_Root).bind fun r26 =>
    some (((r26.2.1.1, r26.2.1.2.1, ()), true, ()), ())
def B_Z22 (k : Nat) (c_Z28 : C_Z28) (c_Z44 : C_Z44) (c_Z41 : C_Z41) (c_Z21 : C_Z21) (g_0 : List (Int × Int × List Int)) (g_1 : Int) : R_Z22 :=
  (c_Z28 g_0 g_1).bind fun r7 =>
  bif (!r7.1.1) then
    jn (fun t => B_Z22_J0 k c_Z28 c_Z44 c_Z41 c_Z21 t.1.1 t.1.2.1 t.2.1.2.1 t.2.2.1) ((g_0, g_1, ()), ((), 0, ()), true, ())
  else
    (c_Z44 g_0 g_1).bind fun r11 =>
    bif decide ((len r11.1.1) > 0) then
      jn (fun t => B_Z22_J0 k c_Z28 c_Z44 c_Z41 c_Z21 t.1.1 t.1.2.1 t.2.1.2.1 t.2.2.1) ((g_0, g_1, ()), ((), 0, ()), true, ())
    else
      (c_Z41 g_0 g_1).bind fun r17 =>
      jn (fun t => B_Z22_J0 k c_Z28 c_Z44 c_Z41 c_Z21 t.1.1 t.1.2.1 t.2.1.2.1 t.2.2.1) ((g_0, g_1, ()), ((), 0, ()), decide (r17.1.1 > 12), ())
def F_Z22 : Nat → C_Z22
  | 0, _, _ => none
  | k + 1, g_0, g_1 => B_Z22 k (F_Z28 k) (F_Z44 k) (F_Z41 k) (F_Z21 k) g_0 g_1
theorem tot_Z22 {g_0 g_1 : _} {Q : _ → Prop} (h : Tot (fun σ => B_Z22 (σ 0) (F_Z28 (σ 0)) (F_Z44 (σ 0)) (F_Z41 (σ 0)) (F_Z21 (σ 0)) g_0 g_1) Q) : Tot (fun σ => F_Z22 (σ 0) g_0 g_1) Q :=
  Tot.call (F := fun k => F_Z22 k g_0 g_1) (B := fun k => B_Z22 k (F_Z28 k) (F_Z44 k) (F_Z41 k) (F_Z21 k) g_0 g_1) (fun k => rfl) h
abbrev R_l_eqIntS : Type := Option ((Bool × Unit) × (Unit))
abbrev C_l_eqIntS : Type := List Int → List Int → R_l_eqIntS
abbrev T_l_eqIntS_L0 : Type := List Int × List Int × Int × Unit
def B_l_eqIntS_L0b (k : Nat) (again0 : T_l_eqIntS_L0 → R_l_eqIntS) (a b : List Int) (i : Int) : R_l_eqIntS :=
  bif decide (i < (len a)) then
    chk (inb i a.length) <|
    chk (inb i b.length) <|
    bif ((rdx (0 : Int) a i) != (rdx (0 : Int) b i)) then
      some ((false, ()), ())
    else
      again0 (a, b, w64 (i + 1), ())
  else
    some ((true, ()), ())
def B_l_eqIntS_L0 (k : Nat) (n : Nat) (t : T_l_eqIntS_L0) : R_l_eqIntS :=
  lfix n (fun again t => B_l_eqIntS_L0b k again t.1 t.2.1 t.2.2.1) t
def B_l_eqIntS (k : Nat) (a b : List Int) : R_l_eqIntS :=
  bif ((len a) != (len b)) then
    some ((false, ()), ())
  else
    B_l_eqIntS_L0 k k (a, b, 0, ())
def F_l_eqIntS : Nat → C_l_eqIntS
  | 0, _, _ => none
  | k + 1, a, b => B_l_eqIntS k a b
theorem tot_l_eqIntS {a b : _} {Q : _ → Prop} (h : Tot (fun σ => B_l_eqIntS (σ 0) a b) Q) : Tot (fun σ => F_l_eqIntS (σ 0) a b) Q :=
  Tot.call (F := fun k => F_l_eqIntS k a b) (B := fun k => B_l_eqIntS k a b) (fun k => rfl) h
abbrev A_l_eqIntS_L0 (Z : Type) : Type := List Int → List Int → Int → Z
abbrev u_l_eqIntS_L0 {Z : Type} (f : A_l_eqIntS_L0 Z) (t : T_l_eqIntS_L0) : Z := f t.1 t.2.1 t.2.2.1
theorem loop_l_eqIntS_L0 {Q : A_l_eqIntS_L0 (((Bool × Unit) × (Unit)) → Prop)} (I : A_l_eqIntS_L0 Prop) (μ : A_l_eqIntS_L0 Nat)
    (step : ∀ a0 a1 a2, I a0 a1 a2 → ∀ again : (Nat → Nat) → T_l_eqIntS_L0 → R_l_eqIntS, Dep 2 again → (∀ y0 y1 y2, I y0 y1 y2 → μ y0 y1 y2 < μ a0 a1 a2 → Tot (fun σ => again σ (y0, y1, y2, ())) (Q y0 y1 y2)) →
      Tot (fun σ => B_l_eqIntS_L0b (σ 0) (again σ) a0 a1 a2) (Q a0 a1 a2)) :
    ∀ a0 a1 a2, I a0 a1 a2 → Tot (fun σ => B_l_eqIntS_L0 (σ 0) (σ 0) (a0, a1, a2, ())) (Q a0 a1 a2) := fun a0 a1 a2 => Tot.loop0 (L := fun k => B_l_eqIntS_L0 k) (B := fun k g => u_l_eqIntS_L0 (B_l_eqIntS_L0b k g)) (Q := u_l_eqIntS_L0 Q) (fun _ _ _ => rfl) (u_l_eqIntS_L0 I) (u_l_eqIntS_L0 μ)
    (fun t ht again hag h => step t.1 t.2.1 t.2.2.1 ht again hag fun y0 y1 y2 => h (y0, y1, y2, ())) (a0, a1, a2, ())
abbrev R_l_eqNode : Type := Option ((Bool × Unit) × (Unit))
abbrev C_l_eqNode : Type := Int → Int → List Int → Int → Int → List Int → R_l_eqNode
def B_l_eqNode (k : Nat) (c_l_eqIntS : C_l_eqIntS) (a_0 a_1 : Int) (a_2 : List Int) (b_0 b_1 : Int) (b_2 : List Int) : R_l_eqNode :=
  bif (a_0 != b_0) then
    some ((false, ()), ())
  else
    bif (a_1 != b_1) then
      some ((false, ()), ())
    else
      (c_l_eqIntS a_2 b_2).bind fun r19 =>
      bif (!r19.1.1) then
        some ((false, ()), ())
      else
        some ((true, ()), ())
def F_l_eqNode : Nat → C_l_eqNode
  | 0, _, _, _, _, _, _ => none
  | k + 1, a_0, a_1, a_2, b_0, b_1, b_2 => B_l_eqNode k (F_l_eqIntS k) a_0 a_1 a_2 b_0 b_1 b_2
theorem tot_l_eqNode {a_0 a_1 a_2 b_0 b_1 b_2 : _} {Q : _ → Prop} (h : Tot (fun σ => B_l_eqNode (σ 0) (F_l_eqIntS (σ 0)) a_0 a_1 a_2 b_0 b_1 b_2) Q) : Tot (fun σ => F_l_eqNode (σ 0) a_0 a_1 a_2 b_0 b_1 b_2) Q :=
  Tot.call (F := fun k => F_l_eqNode k a_0 a_1 a_2 b_0 b_1 b_2) (B := fun k => B_l_eqNode k (F_l_eqIntS k) a_0 a_1 a_2 b_0 b_1 b_2) (fun k => rfl) h
abbrev R_Z48 : Type := Option ((Bool × Unit) × (Unit))
abbrev C_Z48 : Type := (List (Int × Int × List Int)) → (List (Int × Int × List Int)) → R_Z48
abbrev T_Z48_L0 : Type := (List (Int × Int × List Int)) × (List (Int × Int × List Int)) × Int × Unit
def B_Z48_L0b (k : Nat) (c_l_eqNode : C_l_eqNode) (again0 : T_Z48_L0 → R_Z48) (a b : List (Int × Int × List Int)) (i : Int) : R_Z48 :=
  bif decide (i < (len a)) then
    chk (inb i a.length) <|
    chk (inb i b.length) <|
    (c_l_eqNode ((rdx ((0 : Int), ((0 : Int), ([] : List Int))) a i).1) (((rdx ((0 : Int), ((0 : Int), ([] : List Int))) a i).2).1) (((rdx ((0 : Int), ((0 : Int), ([] : List Int))) a i).2).2) ((rdx ((0 : Int), ((0 : Int), ([] : List Int))) b i).1) (((rdx ((0 : Int), ((0 : Int), ([] : List Int))) b i).2).1) (((rdx ((0 : Int), ((0 : Int), ([] : List Int))) b i).2).2)).bind fun r25 =>
    bif (!r25.1.1) then
      some ((false, ()), ())
    else
      again0 (a, b, w64 (i + 1), ())
  else
    some ((true, ()), ())
def B_Z48_L0 (k : Nat) (c_l_eqNode : C_l_eqNode) (n : Nat) (t : T_Z48_L0) : R_Z48 :=
  lfix n (fun again t => B_Z48_L0b k c_l_eqNode again t.1 t.2.1 t.2.2.1) t
def B_Z48 (k : Nat) (c_l_eqNode : C_l_eqNode) (a b : List (Int × Int × List Int)) : R_Z48 :=
  bif ((len a) != (len b)) then
    some ((false, ()), ())
  else
    B_Z48_L0 k c_l_eqNode k (a, b, 0, ())
def F_Z48 : Nat → C_Z48
  | 0, _, _ => none
  | k + 1, a, b => B_Z48 k (F_l_eqNode k) a b
theorem tot_Z48 {a b : _} {Q : _ → Prop} (h : Tot (fun σ => B_Z48 (σ 0) (F_l_eqNode (σ 0)) a b) Q) : Tot (fun σ => F_Z48 (σ 0) a b) Q :=
  Tot.call (F := fun k => F_Z48 k a b) (B := fun k => B_Z48 k (F_l_eqNode k) a b) (fun k => rfl) h
end Go.Gx

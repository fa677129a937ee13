/-
  The functions, as Gx tells them (printed by gen.py).
-/
import Derived.Test.YtebjpbnpnmckcaaXGpart4
set_option linter.unusedVariables false
namespace Go.Gx
abbrev R_l_szIntS : Type := Option ((Int × Unit) × (Unit))
abbrev C_l_szIntS : Type := List Int → Int → R_l_szIntS
def B_l_szIntS (k : Nat) (a : List Int) (left : Int) : R_l_szIntS :=
  bif decide ((w64 (left - (len a))) < 0) then
    some (((-1), ()), ())
  else
    some ((w64 (left - (len a)), ()), ())
def F_l_szIntS : Nat → C_l_szIntS
  | 0, _, _ => none
  | k + 1, a, left => B_l_szIntS k a left
theorem tot_l_szIntS {a left : _} {Q : _ → Prop} (h : Tot (fun σ => B_l_szIntS (σ 0) a left) Q) : Tot (fun σ => F_l_szIntS (σ 0) a left) Q :=
  Tot.call (F := fun k => F_l_szIntS k a left) (B := fun k => B_l_szIntS k a left) (fun k => rfl) h
abbrev R_l_szNode : Type := Option ((Int × Unit) × (Unit))
abbrev C_l_szNode : Type := Int → Int → List Int → Int → R_l_szNode
def B_l_szNode (k : Nat) (c_l_szIntS : C_l_szIntS) (a_0 a_1 : Int) (a_2 : List Int) (left : Int) : R_l_szNode :=
  (c_l_szIntS a_2 left).bind fun r8 =>
  bif decide (r8.1.1 < 0) then
    some (((-1), ()), ())
  else
    some ((r8.1.1, ()), ())
def F_l_szNode : Nat → C_l_szNode
  | 0, _, _, _, _ => none
  | k + 1, a_0, a_1, a_2, left => B_l_szNode k (F_l_szIntS k) a_0 a_1 a_2 left
theorem tot_l_szNode {a_0 a_1 a_2 left : _} {Q : _ → Prop} (h : Tot (fun σ => B_l_szNode (σ 0) (F_l_szIntS (σ 0)) a_0 a_1 a_2 left) Q) : Tot (fun σ => F_l_szNode (σ 0) a_0 a_1 a_2 left) Q :=
  Tot.call (F := fun k => F_l_szNode k a_0 a_1 a_2 left) (B := fun k => B_l_szNode k (F_l_szIntS k) a_0 a_1 a_2 left) (fun k => rfl) h
abbrev R_Z59 : Type := Option ((Int × Unit) × (Unit))
abbrev C_Z59 : Type := (List (Int × Int × List Int)) → Int → R_Z59
abbrev T_Z59_L0 : Type := (List (Int × Int × List Int)) × Int × Int × Unit
def B_Z59_L0b (k : Nat) (c_l_szNode : C_l_szNode) (again0 : T_Z59_L0 → R_Z59) (a : List (Int × Int × List Int)) (left i : Int) : R_Z59 :=
  bif decide (i < (len a)) then
    chk (inb i a.length) <|
    (c_l_szNode ((rdx ((0 : Int), ((0 : Int), ([] : List Int))) a i).1) (((rdx ((0 : Int), ((0 : Int), ([] : List Int))) a i).2).1) (((rdx ((0 : Int), ((0 : Int), ([] : List Int))) a i).2).2) left).bind fun r23 =>
    bif decide (r23.1.1 < 0) then
      some (((-1), ()), ())
    else
      again0 (a, r23.1.1, w64 (i + 1), ())
  else
    some ((left, ()), ())
def B_Z59_L0 (k : Nat) (c_l_szNode : C_l_szNode) (n : Nat) (t : T_Z59_L0) : R_Z59 :=
  lfix n (fun again t => B_Z59_L0b k c_l_szNode again t.1 t.2.1 t.2.2.1) t
def B_Z59 (k : Nat) (c_l_szNode : C_l_szNode) (a : List (Int × Int × List Int)) (left : Int) : R_Z59 :=
  bif decide ((w64 (left - (len a))) < 0) then
    some (((-1), ()), ())
  else
    B_Z59_L0 k c_l_szNode k (a, w64 (left - (len a)), 0, ())
def F_Z59 : Nat → C_Z59
  | 0, _, _ => none
  | k + 1, a, left => B_Z59 k (F_l_szNode k) a left
theorem tot_Z59 {a left : _} {Q : _ → Prop} (h : Tot (fun σ => B_Z59 (σ 0) (F_l_szNode (σ 0)) a left) Q) : Tot (fun σ => F_Z59 (σ 0) a left) Q :=
  Tot.call (F := fun k => F_Z59 k a left) (B := fun k => B_Z59 k (F_l_szNode k) a left) (fun k => rfl) h
abbrev A_Z59_L0 (Z : Type) : Type := (List (Int × Int × List Int)) → Int → Int → Z
abbrev u_Z59_L0 {Z : Type} (f : A_Z59_L0 Z) (t : T_Z59_L0) : Z := f t.1 t.2.1 t.2.2.1
theorem loop_Z59_L0 {Q : A_Z59_L0 (((Int × Unit) × (Unit)) → Prop)} (I : A_Z59_L0 Prop) (μ : A_Z59_L0 Nat)
    (step : ∀ a0 a1 a2, I a0 a1 a2 → ∀ again : (Nat → Nat) → T_Z59_L0 → R_Z59, Dep 2 again → (∀ y0 y1 y2, I y0 y1 y2 → μ y0 y1 y2 < μ a0 a1 a2 → Tot (fun σ => again σ (y0, y1, y2, ())) (Q y0 y1 y2)) →
      Tot (fun σ => B_Z59_L0b (σ 0) (F_l_szNode (σ 0)) (again σ) a0 a1 a2) (Q a0 a1 a2)) :
    ∀ a0 a1 a2, I a0 a1 a2 → Tot (fun σ => B_Z59_L0 (σ 0) (F_l_szNode (σ 0)) (σ 0) (a0, a1, a2, ())) (Q a0 a1 a2) := fun a0 a1 a2 => Tot.loop0 (L := fun k => B_Z59_L0 k (F_l_szNode k)) (B := fun k g => u_Z59_L0 (B_Z59_L0b k (F_l_szNode k) g)) (Q := u_Z59_L0 Q) (fun _ _ _ => rfl) (u_Z59_L0 I) (u_Z59_L0 μ)
    (fun t ht again hag h => step t.1 t.2.1 t.2.2.1 ht again hag fun y0 y1 y2 => h (y0, y1, y2, ())) (a0, a1, a2, ())
abbrev R_Z68 : Type := Option ((Int × Unit) × (Unit))
abbrev C_Z68 : Type := (List (Int × Int × List Int)) → Int → Int → R_Z68
def B_Z68 (k : Nat) (c_Z59 : C_Z59) (a_0 : List (Int × Int × List Int)) (a_1 left : Int) : R_Z68 :=
  (c_Z59 a_0 left).bind fun r8 =>
  bif decide (r8.1.1 < 0) then
    some (((-1), ()), ())
  else
    some ((r8.1.1, ()), ())
def F_Z68 : Nat → C_Z68
  | 0, _, _, _ => none
  | k + 1, a_0, a_1, left => B_Z68 k (F_Z59 k) a_0 a_1 left
theorem tot_Z68 {a_0 a_1 left : _} {Q : _ → Prop} (h : Tot (fun σ => B_Z68 (σ 0) (F_Z59 (σ 0)) a_0 a_1 left) Q) : Tot (fun σ => F_Z68 (σ 0) a_0 a_1 left) Q :=
  Tot.call (F := fun k => F_Z68 k a_0 a_1 left) (B := fun k => B_Z68 k (F_Z59 k) a_0 a_1 left) (fun k => rfl) h
abbrev R_l_toIntS : Type := Option ((List Int × Unit) × (Unit))
abbrev C_l_toIntS : Type := List Int → R_l_toIntS
abbrev T_l_toIntS_L0 : Type := List Int × List Int × Int × Unit
def B_l_toIntS_L0b (k : Nat) (again0 : T_l_toIntS_L0 → R_l_toIntS) (a out : List Int) (i : Int) : R_l_toIntS :=
  bif decide (i < (len a)) then
    chk (inb i a.length) <|
    chk (inb i out.length) <|
    chk (decide (i.toNat < out.length)) <|
    again0 (a, (out.set i.toNat (rdx (0 : Int) a i)), w64 (i + 1), ())
  else
    some ((out, ()), ())
def B_l_toIntS_L0 (k : Nat) (n : Nat) (t : T_l_toIntS_L0) : R_l_toIntS :=
  lfix n (fun again t => B_l_toIntS_L0b k again t.1 t.2.1 t.2.2.1) t
def B_l_toIntS (k : Nat) (a : List Int) : R_l_toIntS :=
  chk ((decide (0 ≤ (len a) ∧ (len a) ≤ (lim : Int)) && ((len a) == (len a)))) <|
  B_l_toIntS_L0 k k (a, (List.replicate (len a).toNat (0 : Int)), 0, ())
def F_l_toIntS : Nat → C_l_toIntS
  | 0, _ => none
  | k + 1, a => B_l_toIntS k a
theorem tot_l_toIntS {a : _} {Q : _ → Prop} (h : Tot (fun σ => B_l_toIntS (σ 0) a) Q) : Tot (fun σ => F_l_toIntS (σ 0) a) Q :=
  Tot.call (F := fun k => F_l_toIntS k a) (B := fun k => B_l_toIntS k a) (fun k => rfl) h
abbrev A_l_toIntS_L0 (Z : Type) : Type := List Int → List Int → Int → Z
abbrev u_l_toIntS_L0 {Z : Type} (f : A_l_toIntS_L0 Z) (t : T_l_toIntS_L0) : Z := f t.1 t.2.1 t.2.2.1
theorem loop_l_toIntS_L0 {Q : A_l_toIntS_L0 (((List Int × Unit) × (Unit)) → Prop)} (I : A_l_toIntS_L0 Prop) (μ : A_l_toIntS_L0 Nat)
    (step : ∀ a0 a1 a2, I a0 a1 a2 → ∀ again : (Nat → Nat) → T_l_toIntS_L0 → R_l_toIntS, Dep 2 again → (∀ y0 y1 y2, I y0 y1 y2 → μ y0 y1 y2 < μ a0 a1 a2 → Tot (fun σ => again σ (y0, y1, y2, ())) (Q y0 y1 y2)) →
      Tot (fun σ => B_l_toIntS_L0b (σ 0) (again σ) a0 a1 a2) (Q a0 a1 a2)) :
    ∀ a0 a1 a2, I a0 a1 a2 → Tot (fun σ => B_l_toIntS_L0 (σ 0) (σ 0) (a0, a1, a2, ())) (Q a0 a1 a2) := fun a0 a1 a2 => Tot.loop0 (L := fun k => B_l_toIntS_L0 k) (B := fun k g => u_l_toIntS_L0 (B_l_toIntS_L0b k g)) (Q := u_l_toIntS_L0 Q) (fun _ _ _ => rfl) (u_l_toIntS_L0 I) (u_l_toIntS_L0 μ)
    (fun t ht again hag h => step t.1 t.2.1 t.2.2.1 ht again hag fun y0 y1 y2 => h (y0, y1, y2, ())) (a0, a1, a2, ())
abbrev R_l_toNode : Type := Option (((Int × Int × List Int × Unit) × Unit) × (Unit))
abbrev C_l_toNode : Type := Int → Int → List Int → R_l_toNode
def B_l_toNode (k : Nat) (c_l_toIntS : C_l_toIntS) (a_0 a_1 : Int) (a_2 : List Int) : R_l_toNode :=
  (c_l_toIntS a_2).bind fun r12 =>
  some (((a_0, a_1, r12.1.1, ()), ()), ())
def F_l_toNode : Nat → C_l_toNode
  | 0, _, _, _ => none
  | k + 1, a_0, a_1, a_2 => B_l_toNode k (F_l_toIntS k) a_0 a_1 a_2
theorem tot_l_toNode {a_0 a_1 a_2 : _} {Q : _ → Prop} (h : Tot (fun σ => B_l_toNode (σ 0) (F_l_toIntS (σ 0)) a_0 a_1 a_2) Q) : Tot (fun σ => F_l_toNode (σ 0) a_0 a_1 a_2) Q :=
  Tot.call (F := fun k => F_l_toNode k a_0 a_1 a_2) (B := fun k => B_l_toNode k (F_l_toIntS k) a_0 a_1 a_2) (fun k => rfl) h
abbrev R_Z58 : Type := Option (((List (Int × Int × List Int)) × Unit) × (Unit))
abbrev C_Z58 : Type := (List (Int × Int × List Int)) → R_Z58
abbrev T_Z58_L0 : Type := (List (Int × Int × List Int)) × (List (Int × Int × List Int)) × Int × Unit
def B_Z58_L0b (k : Nat) (c_l_toNode : C_l_toNode) (again0 : T_Z58_L0 → R_Z58) (a out : List (Int × Int × List Int)) (i : Int) : R_Z58 :=
  bif decide (i < (len a)) then
    chk (inb i a.length) <|
    (c_l_toNode ((rdx ((0 : Int), ((0 : Int), ([] : List Int))) a i).1) (((rdx ((0 : Int), ((0 : Int), ([] : List Int))) a i).2).1) (((rdx ((0 : Int), ((0 : Int), ([] : List Int))) a i).2).2)).bind fun r20 =>
    chk (inb i out.length) <|
    chk (decide (i.toNat < out.length)) <|
    again0 (a, (out.set i.toNat (r20.1.1.1, (r20.1.1.2.1, r20.1.1.2.2.1))), w64 (i + 1), ())
  else
    some ((out, ()), ())
def B_Z58_L0 (k : Nat) (c_l_toNode : C_l_toNode) (n : Nat) (t : T_Z58_L0) : R_Z58 :=
  lfix n (fun again t => B_Z58_L0b k c_l_toNode again t.1 t.2.1 t.2.2.1) t
def B_Z58 (k : Nat) (c_l_toNode : C_l_toNode) (a : List (Int × Int × List Int)) : R_Z58 :=
  chk ((decide (0 ≤ (len a) ∧ (len a) ≤ (lim : Int)) && ((len a) == (len a)))) <|
  B_Z58_L0 k c_l_toNode k (a, (List.replicate (len a).toNat ((0 : Int), ((0 : Int), ([] : List Int)))), 0, ())
def F_Z58 : Nat → C_Z58
  | 0, _ => none
  | k + 1, a => B_Z58 k (F_l_toNode k) a
theorem tot_Z58 {a : _} {Q : _ → Prop} (h : Tot (fun σ => B_Z58 (σ 0) (F_l_toNode (σ 0)) a) Q) : Tot (fun σ => F_Z58 (σ 0) a) Q :=
  Tot.call (F := fun k => F_Z58 k a) (B := fun k => B_Z58 k (F_l_toNode k) a) (fun k => rfl) h
abbrev A_Z58_L0 (Z : Type) : Type := (List (Int × Int × List Int)) → (List (Int × Int × List Int)) → Int → Z
abbrev u_Z58_L0 {Z : Type} (f : A_Z58_L0 Z) (t : T_Z58_L0) : Z := f t.1 t.2.1 t.2.2.1
theorem loop_Z58_L0 {Q : A_Z58_L0 ((((List (Int × Int × List Int)) × Unit) × (Unit)) → Prop)} (I : A_Z58_L0 Prop) (μ : A_Z58_L0 Nat)
    (step : ∀ a0 a1 a2, I a0 a1 a2 → ∀ again : (Nat → Nat) → T_Z58_L0 → R_Z58, Dep 2 again → (∀ y0 y1 y2, I y0 y1 y2 → μ y0 y1 y2 < μ a0 a1 a2 → Tot (fun σ => again σ (y0, y1, y2, ())) (Q y0 y1 y2)) →
      Tot (fun σ => B_Z58_L0b (σ 0) (F_l_toNode (σ 0)) (again σ) a0 a1 a2) (Q a0 a1 a2)) :
    ∀ a0 a1 a2, I a0 a1 a2 → Tot (fun σ => B_Z58_L0 (σ 0) (F_l_toNode (σ 0)) (σ 0) (a0, a1, a2, ())) (Q a0 a1 a2) := fun a0 a1 a2 => Tot.loop0 (L := fun k => B_Z58_L0 k (F_l_toNode k)) (B := fun k g => u_Z58_L0 (B_Z58_L0b k (F_l_toNode k) g)) (Q := u_Z58_L0 Q) (fun _ _ _ => rfl) (u_Z58_L0 I) (u_Z58_L0 μ)
    (fun t ht again hag h => step t.1 t.2.1 t.2.2.1 ht again hag fun y0 y1 y2 => h (y0, y1, y2, ())) (a0, a1, a2, ())
abbrev R_Z71 : Type := Option ((((List (Int × Int × List Int)) × Int × Unit) × Unit) × (Unit))
abbrev C_Z71 : Type := (List (Int × Int × List Int)) → Int → R_Z71
def B_Z71 (k : Nat) (c_Z58 : C_Z58) (a_0 : List (Int × Int × List Int)) (a_1 : Int) : R_Z71 :=
  (c_Z58 a_0).bind fun r6 =>
  some (((r6.1.1, a_1, ()), ()), ())
def F_Z71 : Nat → C_Z71
  | 0, _, _ => none
  | k + 1, a_0, a_1 => B_Z71 k (F_Z58 k) a_0 a_1
theorem tot_Z71 {a_0 a_1 : _} {Q : _ → Prop} (h : Tot (fun σ => B_Z71 (σ 0) (F_Z58 (σ 0)) a_0 a_1) Q) : Tot (fun σ => F_Z71 (σ 0) a_0 a_1) Q :=
  Tot.call (F := fun k => F_Z71 k a_0 a_1) (B := fun k => B_Z71 k (F_Z58 k) a_0 a_1) (fun k => rfl) h
abbrev R_Z56 : Type := Option ((Bool × Unit) × (Unit))
abbrev C_Z56 : Type := Int → Int → Int → R_Z56
def B_Z56 (k : Nat) (n0 low high : Int) : R_Z56 :=
  bif decide (low ≤ n0) then
    some ((decide (n0 ≤ high), ()), ())
  else
    some ((false, ()), ())
def F_Z56 : Nat → C_Z56
  | 0, _, _, _ => none
  | k + 1, n0, low, high => B_Z56 k n0 low high
theorem tot_Z56 {n0 low high : _} {Q : _ → Prop} (h : Tot (fun σ => B_Z56 (σ 0) n0 low high) Q) : Tot (fun σ => F_Z56 (σ 0) n0 low high) Q :=
  Tot.call (F := fun k => F_Z56 k n0 low high) (B := fun k => B_Z56 k n0 low high) (fun k => rfl) h
abbrev R_s_allIn : Type := Option ((Bool × Unit) × (Unit))
abbrev C_s_allIn : Type := List Int → Int → Int → R_s_allIn
abbrev T_s_allIn_L0 : Type := List Int × Int × Int × Int × Unit
def B_s_allIn_L0b (k : Nat) (c_Z56 : C_Z56) (again0 : T_s_allIn_L0 → R_s_allIn) (list : List Int) (low high i : Int) : R_s_allIn :=
  bif decide (i < (len list)) then
    chk (inb i list.length) <|
    (c_Z56 (rdx (0 : Int) list i) low high).bind fun r20 =>
    bif (!r20.1.1) then
      some ((false, ()), ())
    else
      again0 (list, low, high, w64 (i + 1), ())
  else
    some ((true, ()), ())
def B_s_allIn_L0 (k : Nat) (c_Z56 : C_Z56) (n : Nat) (t : T_s_allIn_L0) : R_s_allIn :=
  lfix n (fun again t => B_s_allIn_L0b k c_Z56 again t.1 t.2.1 t.2.2.1 t.2.2.2.1) t
def B_s_allIn (k : Nat) (c_Z56 : C_Z56) (list : List Int) (low high : Int) : R_s_allIn :=
  B_s_allIn_L0 k c_Z56 k (list, low, high, 0, ())
def F_s_allIn : Nat → C_s_allIn
  | 0, _, _, _ => none
  | k + 1, list, low, high => B_s_allIn k (F_Z56 k) list low high
theorem tot_s_allIn {list low high : _} {Q : _ → Prop} (h : Tot (fun σ => B_s_allIn (σ 0) (F_Z56 (σ 0)) list low high) Q) : Tot (fun σ => F_s_allIn (σ 0) list low high) Q :=
  Tot.call (F := fun k => F_s_allIn k list low high) (B := fun k => B_s_allIn k (F_Z56 k) list low high) (fun k => rfl) h
abbrev A_s_allIn_L0 (Z : Type) : Type := List Int → Int → Int → Int → Z
abbrev u_s_allIn_L0 {Z : Type} (f : A_s_allIn_L0 Z) (t : T_s_allIn_L0) : Z := f t.1 t.2.1 t.2.2.1 t.2.2.2.1
theorem loop_s_allIn_L0 {Q : A_s_allIn_L0 (((Bool × Unit) × (Unit)) → Prop)} (I : A_s_allIn_L0 Prop) (μ : A_s_allIn_L0 Nat)
    (step : ∀ a0 a1 a2 a3, I a0 a1 a2 a3 → ∀ again : (Nat → Nat) → T_s_allIn_L0 → R_s_allIn, Dep 2 again → (∀ y0 y1 y2 y3, I y0 y1 y2 y3 → μ y0 y1 y2 y3 < μ a0 a1 a2 a3 → Tot (fun σ => again σ (y0, y1, y2, y3, ())) (Q y0 y1 y2 y3)) →
      Tot (fun σ => B_s_allIn_L0b (σ 0) (F_Z56 (σ 0)) (again σ) a0 a1 a2 a3) (Q a0 a1 a2 a3)) :
    ∀ a0 a1 a2 a3, I a0 a1 a2 a3 → Tot (fun σ => B_s_allIn_L0 (σ 0) (F_Z56 (σ 0)) (σ 0) (a0, a1, a2, a3, ())) (Q a0 a1 a2 a3) := fun a0 a1 a2 a3 => Tot.loop0 (L := fun k => B_s_allIn_L0 k (F_Z56 k)) (B := fun k g => u_s_allIn_L0 (B_s_allIn_L0b k (F_Z56 k) g)) (Q := u_s_allIn_L0 Q) (fun _ _ _ => rfl) (u_s_allIn_L0 I) (u_s_allIn_L0 μ)
    (fun t ht again hag h => step t.1 t.2.1 t.2.2.1 t.2.2.2.1 ht again hag fun y0 y1 y2 y3 => h (y0, y1, y2, y3, ())) (a0, a1, a2, a3, ())
abbrev R_s_isKey : Type := Option ((Bool × Unit) × (Unit))
abbrev C_s_isKey : Type := Int → Int → R_s_isKey
def B_s_isKey (k : Nat) (n_0 n_1 : Int) : R_s_isKey :=
  bif (n_0 == 0) then
    some ((true, ()), ())
  else
    some (((n_0 == 1), ()), ())
def F_s_isKey : Nat → C_s_isKey
  | 0, _, _ => none
  | k + 1, n_0, n_1 => B_s_isKey k n_0 n_1
theorem tot_s_isKey {n_0 n_1 : _} {Q : _ → Prop} (h : Tot (fun σ => B_s_isKey (σ 0) n_0 n_1) Q) : Tot (fun σ => F_s_isKey (σ 0) n_0 n_1) Q :=
  Tot.call (F := fun k => F_s_isKey k n_0 n_1) (B := fun k => B_s_isKey k n_0 n_1) (fun k => rfl) h
abbrev R_Z55 : Type := Option ((Bool × Unit) × (Unit))
abbrev C_Z55 : Type := Int → Int → Int → Int → R_Z55
def B_Z55 (k : Nat) (a_0 a_1 b_0 b_1 : Int) : R_Z55 :=
  bif (a_0 == b_0) then
    some (((a_1 == b_1), ()), ())
  else
    some ((false, ()), ())
def F_Z55 : Nat → C_Z55
  | 0, _, _, _, _ => none
  | k + 1, a_0, a_1, b_0, b_1 => B_Z55 k a_0 a_1 b_0 b_1
theorem tot_Z55 {a_0 a_1 b_0 b_1 : _} {Q : _ → Prop} (h : Tot (fun σ => B_Z55 (σ 0) a_0 a_1 b_0 b_1) Q) : Tot (fun σ => F_Z55 (σ 0) a_0 a_1 b_0 b_1) Q :=
  Tot.call (F := fun k => F_Z55 k a_0 a_1 b_0 b_1) (B := fun k => B_Z55 k a_0 a_1 b_0 b_1) (fun k => rfl) h
abbrev R_Z36 : Type := Option ((Bool × Unit) × (Unit))
abbrev C_Z36 : Type := (List (Int × Int × List Int)) → Int → Int → Int → List Int → R_Z36
abbrev T_Z36_L0 : Type := ((List (Int × Int × List Int)) × Int × Unit) × (Int × Int × List Int × Unit) × Int × Int × Unit
abbrev T_Z36_L1 : Type := ((List (Int × Int × List Int)) × Int × Unit) × (Int × Int × List Int × Unit) × Int × Unit
def B_Z36_L0b (k : Nat) (c_s_isKey : C_s_isKey) (c_Z55 : C_Z55) (again1 : T_Z36_L1 → R_Z36) (again0 : T_Z36_L0 → R_Z36) (g_Nodes : List (Int × Int × List Int)) (g_Root n_Kind n_Value : Int) (n_Kids : List Int) (i k6 : Int) : R_Z36 :=
  bif decide (k6 < i) then
    chk (inb i n_Kids.length) <|
    chk (inb (rdx (0 : Int) n_Kids i) g_Nodes.length) <|
    chk (inb k6 n_Kids.length) <|
    chk (inb (rdx (0 : Int) n_Kids k6) g_Nodes.length) <|
    (c_Z55 ((rdx ((0 : Int), ((0 : Int), ([] : List Int))) g_Nodes (rdx (0 : Int) n_Kids i)).1) (((rdx ((0 : Int), ((0 : Int), ([] : List Int))) g_Nodes (rdx (0 : Int) n_Kids i)).2).1) ((rdx ((0 : Int), ((0 : Int), ([] : List Int))) g_Nodes (rdx (0 : Int) n_Kids k6)).1) (((rdx ((0 : Int), ((0 : Int), ([] : List Int))) g_Nodes (rdx (0 : Int) n_Kids k6)).2).1)).bind fun r48 =>
    bif r48.1.1 then
      some ((false, ()), ())
    else
      again0 ((g_Nodes, g_Root, ()), (n_Kind, n_Value, n_Kids, ()), i, w64 (k6 + 2), ())
  else
    again1 ((g_Nodes, g_Root, ()), (n_Kind, n_Value, n_Kids, ()), w64 (i + 2), ())
def B_Z36_L0 (k : Nat) (c_s_isKey : C_s_isKey) (c_Z55 : C_Z55) (again1 : T_Z36_L1 → R_Z36) (n : Nat) (t : T_Z36_L0) : R_Z36 :=
  lfix n (fun again t => B_Z36_L0b k c_s_isKey c_Z55 again1 again t.1.1 t.1.2.1 t.2.1.1 t.2.1.2.1 t.2.1.2.2.1 t.2.2.1 t.2.2.2.1) t
def B_Z36_L1b (k : Nat) (c_s_isKey : C_s_isKey) (c_Z55 : C_Z55) (again1 : T_Z36_L1 → R_Z36) (g_Nodes : List (Int × Int × List Int)) (g_Root n_Kind n_Value : Int) (n_Kids : List Int) (i : Int) : R_Z36 :=
  bif decide (i < (len n_Kids)) then
    chk (inb i n_Kids.length) <|
    chk (inb (rdx (0 : Int) n_Kids i) g_Nodes.length) <|
    (c_s_isKey ((rdx ((0 : Int), ((0 : Int), ([] : List Int))) g_Nodes (rdx (0 : Int) n_Kids i)).1) (((rdx ((0 : Int), ((0 : Int), ([] : List Int))) g_Nodes (rdx (0 : Int) n_Kids i)).2).1)).bind fun r23 =>
    bif (!r23.1.1) then
      some ((false, ()), ())
    else
      B_Z36_L0 k c_s_isKey c_Z55 again1 k ((g_Nodes, g_Root, ()), (n_Kind, n_Value, n_Kids, ()), i, 0, ())
  else
    some (((((len n_Kids).tmod 2) == 0), ()), ())
def B_Z36_L1 (k : Nat) (c_s_isKey : C_s_isKey) (c_Z55 : C_Z55) (n : Nat) (t : T_Z36_L1) : R_Z36 :=
  lfix n (fun again t => B_Z36_L1b k c_s_isKey c_Z55 again t.1.1 t.1.2.1 t.2.1.1 t.2.1.2.1 t.2.1.2.2.1 t.2.2.1) t
def B_Z36 (k : Nat) (c_s_isKey : C_s_isKey) (c_Z55 : C_Z55) (g_0 : List (Int × Int × List Int)) (g_1 n_0 n_1 : Int) (n_2 : List Int) : R_Z36 :=
  B_Z36_L1 k c_s_isKey c_Z55 k ((g_0, g_1, ()), (n_0, n_1, n_2, ()), 0, ())
def F_Z36 : Nat → C_Z36
  | 0, _, _, _, _, _ => none
  | k + 1, g_0, g_1, n_0, n_1, n_2 => B_Z36 k (F_s_isKey k) (F_Z55 k) g_0 g_1 n_0 n_1 n_2
theorem tot_Z36 {g_0 g_1 n_0 n_1 n_2 : _} {Q : _ → Prop} (h : Tot (fun σ => B_Z36 (σ 0) (F_s_isKey (σ 0)) (F_Z55 (σ 0)) g_0 g_1 n_0 n_1 n_2) Q) : Tot (fun σ => F_Z36 (σ 0) g_0 g_1 n_0 n_1 n_2) Q :=
  Tot.call (F := fun k => F_Z36 k g_0 g_1 n_0 n_1 n_2) (B := fun k => B_Z36 k (F_s_isKey k) (F_Z55 k) g_0 g_1 n_0 n_1 n_2) (fun k => rfl) h
abbrev A_Z36_L0 (Z : Type) : Type := (List (Int × Int × List Int)) → Int → Int → Int → List Int → Int → Int → Z
abbrev u_Z36_L0 {Z : Type} (f : A_Z36_L0 Z) (t : T_Z36_L0) : Z := f t.1.1 t.1.2.1 t.2.1.1 t.2.1.2.1 t.2.1.2.2.1 t.2.2.1 t.2.2.2.1
theorem loop_Z36_L0 {again1 : (Nat → Nat) → T_Z36_L1 → R_Z36} (hag1 : Dep 2 again1) {Q : A_Z36_L0 (((Bool × Unit) × (Unit)) → Prop)} (I : A_Z36_L0 Prop) (μ : A_Z36_L0 Nat)
    (step : ∀ a0 a1 a2 a3 a4 a5 a6, I a0 a1 a2 a3 a4 a5 a6 → ∀ again : (Nat → Nat) → T_Z36_L0 → R_Z36, Dep 3 again → (∀ y0 y1 y2 y3 y4 y5 y6, I y0 y1 y2 y3 y4 y5 y6 → μ y0 y1 y2 y3 y4 y5 y6 < μ a0 a1 a2 a3 a4 a5 a6 → Tot (fun σ => again σ ((y0, y1, ()), (y2, y3, y4, ()), y5, y6, ())) (Q y0 y1 y2 y3 y4 y5 y6)) →
      Tot (fun σ => B_Z36_L0b (σ 0) (F_s_isKey (σ 0)) (F_Z55 (σ 0)) (again1 σ) (again σ) a0 a1 a2 a3 a4 a5 a6) (Q a0 a1 a2 a3 a4 a5 a6)) :
    ∀ a0 a1 a2 a3 a4 a5 a6, I a0 a1 a2 a3 a4 a5 a6 → Tot (fun σ => B_Z36_L0 (σ 0) (F_s_isKey (σ 0)) (F_Z55 (σ 0)) (again1 σ) (σ 0) ((a0, a1, ()), (a2, a3, a4, ()), a5, a6, ())) (Q a0 a1 a2 a3 a4 a5 a6) := fun a0 a1 a2 a3 a4 a5 a6 => Tot.loop (L := fun σ n t => B_Z36_L0 (σ 0) (F_s_isKey (σ 0)) (F_Z55 (σ 0)) (again1 σ) n t) (B := fun σ g => u_Z36_L0 (B_Z36_L0b (σ 0) (F_s_isKey (σ 0)) (F_Z55 (σ 0)) (again1 σ) g)) (Q := u_Z36_L0 Q) 2 (by decide)
    (fun s s' h => by have e0 : s 0 = s' 0 := h 0 (by decide); simp only [e0, hag1 s s' h]) (fun s s' h => by have e0 : s 0 = s' 0 := h 0 (by decide); simp only [e0, hag1 s s' h]) (fun _ _ _ => rfl) (u_Z36_L0 I) (u_Z36_L0 μ)
    (fun t ht again hag h => step t.1.1 t.1.2.1 t.2.1.1 t.2.1.2.1 t.2.1.2.2.1 t.2.2.1 t.2.2.2.1 ht again hag fun y0 y1 y2 y3 y4 y5 y6 => h ((y0, y1, ()), (y2, y3, y4, ()), y5, y6, ())) ((a0, a1, ()), (a2, a3, a4, ()), a5, a6, ())
abbrev A_Z36_L1 (Z : Type) : Type := (List (Int × Int × List Int)) → Int → Int → Int → List Int → Int → Z
abbrev u_Z36_L1 {Z : Type} (f : A_Z36_L1 Z) (t : T_Z36_L1) : Z := f t.1.1 t.1.2.1 t.2.1.1 t.2.1.2.1 t.2.1.2.2.1 t.2.2.1
theorem loop_Z36_L1 {Q : A_Z36_L1 (((Bool × Unit) × (Unit)) → Prop)} (I : A_Z36_L1 Prop) (μ : A_Z36_L1 Nat)
    (step : ∀ a0 a1 a2 a3 a4 a5, I a0 a1 a2 a3 a4 a5 → ∀ again : (Nat → Nat) → T_Z36_L1 → R_Z36, Dep 2 again → (∀ y0 y1 y2 y3 y4 y5, I y0 y1 y2 y3 y4 y5 → μ y0 y1 y2 y3 y4 y5 < μ a0 a1 a2 a3 a4 a5 → Tot (fun σ => again σ ((y0, y1, ()), (y2, y3, y4, ()), y5, ())) (Q y0 y1 y2 y3 y4 y5)) →
      Tot (fun σ => B_Z36_L1b (σ 0) (F_s_isKey (σ 0)) (F_Z55 (σ 0)) (again σ) a0 a1 a2 a3 a4 a5) (Q a0 a1 a2 a3 a4 a5)) :
    ∀ a0 a1 a2 a3 a4 a5, I a0 a1 a2 a3 a4 a5 → Tot (fun σ => B_Z36_L1 (σ 0) (F_s_isKey (σ 0)) (F_Z55 (σ 0)) (σ 0) ((a0, a1, ()), (a2, a3, a4, ()), a5, ())) (Q a0 a1 a2 a3 a4 a5) := fun a0 a1 a2 a3 a4 a5 => Tot.loop0 (L := fun k => B_Z36_L1 k (F_s_isKey k) (F_Z55 k)) (B := fun k g => u_Z36_L1 (B_Z36_L1b k (F_s_isKey k) (F_Z55 k) g)) (Q := u_Z36_L1 Q) (fun _ _ _ => rfl) (u_Z36_L1 I) (u_Z36_L1 μ)
    (fun t ht again hag h => step t.1.1 t.1.2.1 t.2.1.1 t.2.1.2.1 t.2.1.2.2.1 t.2.2.1 ht again hag fun y0 y1 y2 y3 y4 y5 => h ((y0, y1, ()), (y2, y3, y4, ()), y5, ())) ((a0, a1, ()), (a2, a3, a4, ()), a5, ())
abbrev R_Z45 : Type := Option ((Bool × Unit) × (Unit))
abbrev C_Z45 : Type := (List (Int × Int × List Int)) → Int → Int → Int → List Int → R_Z45
def B_Z45_J1 (k : Nat) (c_s_allIn : C_s_allIn) (c_Z56 : C_Z56) (c_Z36 : C_Z36) (g_Nodes : List (Int × Int × List Int)) (g_Root n_Kind n_Value : Int) (n_Kids : List Int) (t20 : Int) (t43 : Bool) : R_Z45 :=
  bif t43 then
    some (((n_Value == 0), ()), ())
  else
    bif (t20 == 4) then
      bif (n_Value == 0) then
        (c_Z36 g_Nodes g_Root n_Kind n_Value n_Kids).bind fun r57 =>
        some ((r57.1.1, ()), ())
      else
        some ((false, ()), ())
    else
      bif (t20 == 5) then
        (c_Z56 n_Value 0 9).bind fun r63 =>
        bif r63.1.1 then
          some ((decide ((len n_Kids) ≤ 1), ()), ())
        else
          some ((false, ()), ())
      else
        some ((false, ()), ())
def B_Z45_J0 (k : Nat) (c_s_allIn : C_s_allIn) (c_Z56 : C_Z56) (c_Z36 : C_Z36) (g_Nodes : List (Int × Int × List Int)) (g_Root n_Kind n_Value : Int) (n_Kids : List Int) (t18 : Bool) : R_Z45 :=
  bif t18 then
    some ((false, ()), ())
  else
    bif (n_Kind == 0) then
      (c_Z56 n_Value 0 999).bind fun r25 =>
      bif r25.1.1 then
        some ((((len n_Kids) == 0), ()), ())
      else
        some ((false, ()), ())
    else
      bif (n_Kind == 1) then
        (c_Z56 n_Value 0 9).bind fun r36 =>
        bif r36.1.1 then
          some ((((len n_Kids) == 0), ()), ())
        else
          some ((false, ()), ())
      else
        bif (n_Kind == 2) then
          jn (fun t => B_Z45_J1 k c_s_allIn c_Z56 c_Z36 t.1.1 t.1.2.1 t.2.1.1 t.2.1.2.1 t.2.1.2.2.1 t.2.2.1 t.2.2.2.1) ((g_Nodes, g_Root, ()), (n_Kind, n_Value, n_Kids, ()), n_Kind, (n_Kind == 2), ())
        else
          jn (fun t => B_Z45_J1 k c_s_allIn c_Z56 c_Z36 t.1.1 t.1.2.1 t.2.1.1 t.2.1.2.1 t.2.1.2.2.1 t.2.2.1 t.2.2.2.1) ((g_Nodes, g_Root, ()), (n_Kind, n_Value, n_Kids, ()), n_Kind, (n_Kind == 3), ())
def B_Z45 (k : Nat) (c_s_allIn : C_s_allIn) (c_Z56 : C_Z56) (c_Z36 : C_Z36) (g_0 : List (Int × Int × List Int)) (g_1 n_0 n_1 : Int) (n_2 : List Int) : R_Z45 :=
  bif decide ((len n_2) > 6) then
    jn (fun t => B_Z45_J0 k c_s_allIn c_Z56 c_Z36 t.1.1 t.1.2.1 t.2.1.1 t.2.1.2.1 t.2.1.2.2.1 t.2.2.1) ((g_0, g_1, ()), (n_0, n_1, n_2, ()), true, ())
  else
    (c_s_allIn n_2 0 (w64 ((len g_0) - 1))).bind fun r16 =>
    jn (fun t => B_Z45_J0 k c_s_allIn c_Z56 c_Z36 t.1.1 t.1.2.1 t.2.1.1 t.2.1.2.1 t.2.1.2.2.1 t.2.2.1) ((g_0, g_1, ()), (n_0, n_1, n_2, ()), (!r16.1.1), ())
def F_Z45 : Nat → C_Z45
  | 0, _, _, _, _, _ => none
  | k + 1, g_0, g_1, n_0, n_1, n_2 => B_Z45 k (F_s_allIn k) (F_Z56 k) (F_Z36 k) g_0 g_1 n_0 n_1 n_2
theorem tot_Z45 {g_0 g_1 n_0 n_1 n_2 : _} {Q : _ → Prop} (h : Tot (fun σ => B_Z45 (σ 0) (F_s_allIn (σ 0)) (F_Z56 (σ 0)) (F_Z36 (σ 0)) g_0 g_1 n_0 n_1 n_2) Q) : Tot (fun σ => F_Z45 (σ 0) g_0 g_1 n_0 n_1 n_2) Q :=
  Tot.call (F := fun k => F_Z45 k g_0 g_1 n_0 n_1 n_2) (B := fun k => B_Z45 k (F_s_allIn k) (F_Z56 k) (F_Z36 k) g_0 g_1 n_0 n_1 n_2) (fun k => rfl) h
abbrev R_Z48 : Type := Option ((List Int × Unit) × (Unit))
abbrev C_Z48 : Type := List Int → R_Z48
def B_Z48 (k : Nat) (list : List Int) : R_Z48 :=
  chk (room ([] : List Int).length list.length) <|
  some ((list, ()), ())
def F_Z48 : Nat → C_Z48
  | 0, _ => none
  | k + 1, list => B_Z48 k list
theorem tot_Z48 {list : _} {Q : _ → Prop} (h : Tot (fun σ => B_Z48 (σ 0) list) Q) : Tot (fun σ => F_Z48 (σ 0) list) Q :=
  Tot.call (F := fun k => F_Z48 k list) (B := fun k => B_Z48 k list) (fun k => rfl) h
abbrev R_Z67 : Type := Option ((Int × Unit) × (Unit))
abbrev C_Z67 : Type := List Int → Int → R_Z67
abbrev T_Z67_L0 : Type := List Int × Int × Int × Unit
def B_Z67_L0b (k : Nat) (again0 : T_Z67_L0 → R_Z67) (list : List Int) (n1 i : Int) : R_Z67 :=
  bif decide (i < (len list)) then
    chk (inb i list.length) <|
    bif ((rdx (0 : Int) list i) == n1) then
      some ((i, ()), ())
    else
      again0 (list, n1, w64 (i + 1), ())
  else
    some (((-1), ()), ())
def B_Z67_L0 (k : Nat) (n : Nat) (t : T_Z67_L0) : R_Z67 :=
  lfix n (fun again t => B_Z67_L0b k again t.1 t.2.1 t.2.2.1) t
def B_Z67 (k : Nat) (list : List Int) (n1 : Int) : R_Z67 :=
  B_Z67_L0 k k (list, n1, 0, ())
def F_Z67 : Nat → C_Z67
  | 0, _, _ => none
  | k + 1, list, n1 => B_Z67 k list n1
theorem tot_Z67 {list n1 : _} {Q : _ → Prop} (h : Tot (fun σ => B_Z67 (σ 0) list n1) Q) : Tot (fun σ => F_Z67 (σ 0) list n1) Q :=
  Tot.call (F := fun k => F_Z67 k list n1) (B := fun k => B_Z67 k list n1) (fun k => rfl) h
abbrev A_Z67_L0 (Z : Type) : Type := List Int → Int → Int → Z
abbrev u_Z67_L0 {Z : Type} (f : A_Z67_L0 Z) (t : T_Z67_L0) : Z := f t.1 t.2.1 t.2.2.1
theorem loop_Z67_L0 {Q : A_Z67_L0 (((Int × Unit) × (Unit)) → Prop)} (I : A_Z67_L0 Prop) (μ : A_Z67_L0 Nat)
    (step : ∀ a0 a1 a2, I a0 a1 a2 → ∀ again : (Nat → Nat) → T_Z67_L0 → R_Z67, Dep 2 again → (∀ y0 y1 y2, I y0 y1 y2 → μ y0 y1 y2 < μ a0 a1 a2 → Tot (fun σ => again σ (y0, y1, y2, ())) (Q y0 y1 y2)) →
      Tot (fun σ => B_Z67_L0b (σ 0) (again σ) a0 a1 a2) (Q a0 a1 a2)) :
    ∀ a0 a1 a2, I a0 a1 a2 → Tot (fun σ => B_Z67_L0 (σ 0) (σ 0) (a0, a1, a2, ())) (Q a0 a1 a2) := fun a0 a1 a2 => Tot.loop0 (L := fun k => B_Z67_L0 k) (B := fun k g => u_Z67_L0 (B_Z67_L0b k g)) (Q := u_Z67_L0 Q) (fun _ _ _ => rfl) (u_Z67_L0 I) (u_Z67_L0 μ)
    (fun t ht again hag h => step t.1 t.2.1 t.2.2.1 ht again hag fun y0 y1 y2 => h (y0, y1, y2, ())) (a0, a1, a2, ())
abbrev R_Z30 : Type := Option ((List Int × Unit) × (Unit))
abbrev C_Z30 : Type := (List (Int × Int × List Int)) → Int → Int → R_Z30
abbrev T_Z30_L1 : Type := ((List (Int × Int × List Int)) × Int × Unit) × List Int × List Int × Int × Unit
def B_Z30_J0 (k : Nat) (c_Z48 : C_Z48) (c_Z67 : C_Z67) (again1 : T_Z30_L1 → R_Z30) (g_Nodes : List (Int × Int × List Int)) (g_Root : Int) (out list : List Int) (k7 : Int) : R_Z30 :=
  again1 ((g_Nodes, g_Root, ()), out, list, w64 (k7 + 1), ())
def B_Z30_L1b (k : Nat) (c_Z48 : C_Z48) (c_Z67 : C_Z67) (again1 : T_Z30_L1 → R_Z30) (g_Nodes : List (Int × Int × List Int)) (g_Root : Int) (out list : List Int) (k7 : Int) : R_Z30 :=
  bif decide (k7 < (len list)) then
    chk (inb k7 list.length) <|
    chk (decide (k7.toNat < list.length)) <|
    (c_Z67 out (list.getD k7.toNat (0 : Int))).bind fun r27 =>
    bif decide (r27.1.1 < 0) then
      chk (inb k7 list.length) <|
      chk (decide (k7.toNat < list.length)) <|
      chk (room out.length ([(list.getD k7.toNat (0 : Int))]).length) <|
      chk (inb k7 list.length) <|
      chk (decide (k7.toNat < list.length)) <|
      chk (inb (list.getD k7.toNat (0 : Int)) g_Nodes.length) <|
      let v45 : Bool := (((rdx ((0 : Int), ((0 : Int), ([] : List Int))) g_Nodes (list.getD k7.toNat (0 : Int))).1) == 2)
      bif v45 then
        chk (inb k7 list.length) <|
        chk (decide (k7.toNat < list.length)) <|
        chk (inb (list.getD k7.toNat (0 : Int)) g_Nodes.length) <|
        chk (room list.length (((rdx ((0 : Int), ((0 : Int), ([] : List Int))) g_Nodes (list.getD k7.toNat (0 : Int))).2).2).length) <|
        jn (fun t => B_Z30_J0 k c_Z48 c_Z67 again1 t.1.1 t.1.2.1 t.2.1 t.2.2.1 t.2.2.2.1) ((g_Nodes, g_Root, ()), (out ++ [(list.getD k7.toNat (0 : Int))]), (list ++ ((rdx ((0 : Int), ((0 : Int), ([] : List Int))) g_Nodes (list.getD k7.toNat (0 : Int))).2).2), k7, ())
      else
        jn (fun t => B_Z30_J0 k c_Z48 c_Z67 again1 t.1.1 t.1.2.1 t.2.1 t.2.2.1 t.2.2.2.1) ((g_Nodes, g_Root, ()), (out ++ [(list.getD k7.toNat (0 : Int))]), list, k7, ())
    else
      jn (fun t => B_Z30_J0 k c_Z48 c_Z67 again1 t.1.1 t.1.2.1 t.2.1 t.2.2.1 t.2.2.2.1) ((g_Nodes, g_Root, ()), out, list, k7, ())
  else
    some ((out, ()), ())
def B_Z30_L1 (k : Nat) (c_Z48 : C_Z48) (c_Z67 : C_Z67) (n : Nat) (t : T_Z30_L1) : R_Z30 :=
  lfix n (fun again t => B_Z30_L1b k c_Z48 c_Z67 again t.1.1 t.1.2.1 t.2.1 t.2.2.1 t.2.2.2.1) t
def B_Z30 (k : Nat) (c_Z48 : C_Z48) (c_Z67 : C_Z67) (g_0 : List (Int × Int × List Int)) (g_1 at1 : Int) : R_Z30 :=
  chk (inb at1 g_0.length) <|
  (c_Z48 (((rdx ((0 : Int), ((0 : Int), ([] : List Int))) g_0 at1).2).2)).bind fun r15 =>
  B_Z30_L1 k c_Z48 c_Z67 k ((g_0, g_1, ()), [], r15.1.1, 0, ())
def F_Z30 : Nat → C_Z30
  | 0, _, _, _ => none
  | k + 1, g_0, g_1, at1 => B_Z30 k (F_Z48 k) (F_Z67 k) g_0 g_1 at1
theorem tot_Z30 {g_0 g_1 at1 : _} {Q : _ → Prop} (h : Tot (fun σ => B_Z30 (σ 0) (F_Z48 (σ 0)) (F_Z67 (σ 0)) g_0 g_1 at1) Q) : Tot (fun σ => F_Z30 (σ 0) g_0 g_1 at1) Q :=
  Tot.call (F := fun k => F_Z30 k g_0 g_1 at1) (B := fun k => B_Z30 k (F_Z48 k) (F_Z67 k) g_0 g_1 at1) (fun k => rfl) h
abbrev A_Z30_L1 (Z : Type) : Type := (List (Int × Int × List Int)) → Int → List Int → List Int → Int → Z
abbrev u_Z30_L1 {Z : Type} (f : A_Z30_L1 Z) (t : T_Z30_L1) : Z := f t.1.1 t.1.2.1 t.2.1 t.2.2.1 t.2.2.2.1
theorem loop_Z30_L1 {Q : A_Z30_L1 (((List Int × Unit) × (Unit)) → Prop)} (I : A_Z30_L1 Prop) (μ : A_Z30_L1 Nat)
    (step : ∀ a0 a1 a2 a3 a4, I a0 a1 a2 a3 a4 → ∀ again : (Nat → Nat) → T_Z30_L1 → R_Z30, Dep 2 again → (∀ y0 y1 y2 y3 y4, I y0 y1 y2 y3 y4 → μ y0 y1 y2 y3 y4 < μ a0 a1 a2 a3 a4 → Tot (fun σ => again σ ((y0, y1, ()), y2, y3, y4, ())) (Q y0 y1 y2 y3 y4)) →
      Tot (fun σ => B_Z30_L1b (σ 0) (F_Z48 (σ 0)) (F_Z67 (σ 0)) (again σ) a0 a1 a2 a3 a4) (Q a0 a1 a2 a3 a4)) :
    ∀ a0 a1 a2 a3 a4, I a0 a1 a2 a3 a4 → Tot (fun σ => B_Z30_L1 (σ 0) (F_Z48 (σ 0)) (F_Z67 (σ 0)) (σ 0) ((a0, a1, ()), a2, a3, a4, ())) (Q a0 a1 a2 a3 a4) := fun a0 a1 a2 a3 a4 => Tot.loop0 (L := fun k => B_Z30_L1 k (F_Z48 k) (F_Z67 k)) (B := fun k g => u_Z30_L1 (B_Z30_L1b k (F_Z48 k) (F_Z67 k) g)) (Q := u_Z30_L1 Q) (fun _ _ _ => rfl) (u_Z30_L1 I) (u_Z30_L1 μ)
    (fun t ht again hag h => step t.1.1 t.1.2.1 t.2.1 t.2.2.1 t.2.2.2.1 ht again hag fun y0 y1 y2 y3 y4 => h ((y0, y1, ()), y2, y3, y4, ())) ((a0, a1, ()), a2, a3, a4, ())
abbrev R_Z26 : Type := Option ((Bool × Unit) × (Unit))
abbrev C_Z26 : Type := (List (Int × Int × List Int)) → Int → R_Z26
abbrev T_Z26_L3 : Type := ((List (Int × Int × List Int)) × Int × Unit) × Int × Unit
abbrev T_Z26_L1 : Type := ((List (Int × Int × List Int)) × Int × Unit) × Int × Unit
def B_Z26_J2 (k : Nat) (c_Z56 : C_Z56) (c_Z45 : C_Z45) (c_Z30 : C_Z30) (c_Z67 : C_Z67) (again3 : T_Z26_L3 → R_Z26) (g_Nodes : List (Int × Int × List Int)) (g_Root i : Int) (t56 : Bool) : R_Z26 :=
  bif t56 then
    some ((false, ()), ())
  else
    again3 ((g_Nodes, g_Root, ()), w64 (i + 1), ())
def B_Z26_L3b (k : Nat) (c_Z56 : C_Z56) (c_Z45 : C_Z45) (c_Z30 : C_Z30) (c_Z67 : C_Z67) (again3 : T_Z26_L3 → R_Z26) (g_Nodes : List (Int × Int × List Int)) (g_Root i : Int) : R_Z26 :=
  bif decide (i < (len g_Nodes)) then
    chk (inb i g_Nodes.length) <|
    bif (((rdx ((0 : Int), ((0 : Int), ([] : List Int))) g_Nodes i).1) == 2) then
      (c_Z30 g_Nodes g_Root i).bind fun r52 =>
      (c_Z67 r52.1.1 i).bind fun r54 =>
      jn (fun t => B_Z26_J2 k c_Z56 c_Z45 c_Z30 c_Z67 again3 t.1.1 t.1.2.1 t.2.1 t.2.2.1) ((g_Nodes, g_Root, ()), i, decide (r54.1.1 ≥ 0), ())
    else
      jn (fun t => B_Z26_J2 k c_Z56 c_Z45 c_Z30 c_Z67 again3 t.1.1 t.1.2.1 t.2.1 t.2.2.1) ((g_Nodes, g_Root, ()), i, false, ())
  else
    some ((true, ()), ())
def B_Z26_L3 (k : Nat) (c_Z56 : C_Z56) (c_Z45 : C_Z45) (c_Z30 : C_Z30) (c_Z67 : C_Z67) (n : Nat) (t : T_Z26_L3) : R_Z26 :=
  lfix n (fun again t => B_Z26_L3b k c_Z56 c_Z45 c_Z30 c_Z67 again t.1.1 t.1.2.1 t.2.1) t
def B_Z26_L1b (k : Nat) (c_Z56 : C_Z56) (c_Z45 : C_Z45) (c_Z30 : C_Z30) (c_Z67 : C_Z67) (again1 : T_Z26_L1 → R_Z26) (g_Nodes : List (Int × Int × List Int)) (g_Root i : Int) : R_Z26 :=
  bif decide (i < (len g_Nodes)) then
    chk (inb i g_Nodes.length) <|
    (c_Z45 g_Nodes g_Root ((rdx ((0 : Int), ((0 : Int), ([] : List Int))) g_Nodes i).1) (((rdx ((0 : Int), ((0 : Int), ([] : List Int))) g_Nodes i).2).1) (((rdx ((0 : Int), ((0 : Int), ([] : List Int))) g_Nodes i).2).2)).bind fun r33 =>
    bif (!r33.1.1) then
      some ((false, ()), ())
    else
      again1 ((g_Nodes, g_Root, ()), w64 (i + 1), ())
  else
    B_Z26_L3 k c_Z56 c_Z45 c_Z30 c_Z67 k ((g_Nodes, g_Root, ()), 0, ())
def B_Z26_L1 (k : Nat) (c_Z56 : C_Z56) (c_Z45 : C_Z45) (c_Z30 : C_Z30) (c_Z67 : C_Z67) (n : Nat) (t : T_Z26_L1) : R_Z26 :=
  lfix n (fun again t => B_Z26_L1b k c_Z56 c_Z45 c_Z30 c_Z67 again t.1.1 t.1.2.1 t.2.1) t
def B_Z26_J0 (k : Nat) (c_Z56 : C_Z56) (c_Z45 : C_Z45) (c_Z30 : C_Z30) (c_Z67 : C_Z67) (g_Nodes : List (Int × Int × List Int)) (g_Root : Int) (t19 : Bool) : R_Z26 :=
  bif t19 then
    some ((false, ()), ())
  else
    B_Z26_L1 k c_Z56 c_Z45 c_Z30 c_Z67 k ((g_Nodes, g_Root, ()), 0, ())
def B_Z26 (k : Nat) (c_Z56 : C_Z56) (c_Z45 : C_Z45) (c_Z30 : C_Z30) (c_Z67 : C_Z67) (g_0 : List (Int × Int × List Int)) (g_1 : Int) : R_Z26 :=
  (c_Z56 (len g_0) 1 12).bind fun r8 =>
  bif (!r8.1.1) then
    jn (fun t => B_Z26_J0 k c_Z56 c_Z45 c_Z30 c_Z67 t.1.1 t.1.2.1 t.2.1) ((g_0, g_1, ()), true, ())
  else
    (c_Z56 g_1 0 (w64 ((len g_0) - 1))).bind fun r17 =>
    jn (fun t => B_Z26_J0 k c_Z56 c_Z45 c_Z30 c_Z67 t.1.1 t.1.2.1 t.2.1) ((g_0, g_1, ()), (!r17.1.1), ())
def F_Z26 : Nat → C_Z26
  | 0, _, _ => none
  | k + 1, g_0, g_1 => B_Z26 k (F_Z56 k) (F_Z45 k) (F_Z30 k) (F_Z67 k) g_0 g_1
theorem tot_Z26 {g_0 g_1 : _} {Q : _ → Prop} (h : Tot (fun σ => B_Z26 (σ 0) (F_Z56 (σ 0)) (F_Z45 (σ 0)) (F_Z30 (σ 0)) (F_Z67 (σ 0)) g_0 g_1) Q) : Tot (fun σ => F_Z26 (σ 0) g_0 g_1) Q :=
  Tot.call (F := fun k => F_Z26 k g_0 g_1) (B := fun k => B_Z26 k (F_Z56 k) (F_Z45 k) (F_Z30 k) (F_Z67 k) g_0 g_1) (fun k => rfl) h
abbrev A_Z26_L3 (Z : Type) : Type := (List (Int × Int × List Int)) → Int → Int → Z
abbrev u_Z26_L3 {Z : Type} (f : A_Z26_L3 Z) (t : T_Z26_L3) : Z := f t.1.1 t.1.2.1 t.2.1
theorem loop_Z26_L3 {Q : A_Z26_L3 (((Bool × Unit) × (Unit)) → Prop)} (I : A_Z26_L3 Prop) (μ : A_Z26_L3 Nat)
    (step : ∀ a0 a1 a2, I a0 a1 a2 → ∀ again : (Nat → Nat) → T_Z26_L3 → R_Z26, Dep 2 again → (∀ y0 y1 y2, I y0 y1 y2 → μ y0 y1 y2 < μ a0 a1 a2 → Tot (fun σ => again σ ((y0, y1, ()), y2, ())) (Q y0 y1 y2)) →
      Tot (fun σ => B_Z26_L3b (σ 0) (F_Z56 (σ 0)) (F_Z45 (σ 0)) (F_Z30 (σ 0)) (F_Z67 (σ 0)) (again σ) a0 a1 a2) (Q a0 a1 a2)) :
    ∀ a0 a1 a2, I a0 a1 a2 → Tot (fun σ => B_Z26_L3 (σ 0) (F_Z56 (σ 0)) (F_Z45 (σ 0)) (F_Z30 (σ 0)) (F_Z67 (σ 0)) (σ 0) ((a0, a1, ()), a2, ())) (Q a0 a1 a2) := fun a0 a1 a2 => Tot.loop0 (L := fun k => B_Z26_L3 k (F_Z56 k) (F_Z45 k) (F_Z30 k) (F_Z67 k)) (B := fun k g => u_Z26_L3 (B_Z26_L3b k (F_Z56 k) (F_Z45 k) (F_Z30 k) (F_Z67 k) g)) (Q := u_Z26_L3 Q) (fun _ _ _ => rfl) (u_Z26_L3 I) (u_Z26_L3 μ)
    (fun t ht again hag h => step t.1.1 t.1.2.1 t.2.1 ht again hag fun y0 y1 y2 => h ((y0, y1, ()), y2, ())) ((a0, a1, ()), a2, ())
abbrev A_Z26_L1 (Z : Type) : Type := (List (Int × Int × List Int)) → Int → Int → Z
abbrev u_Z26_L1 {Z : Type} (f : A_Z26_L1 Z) (t : T_Z26_L1) : Z := f t.1.1 t.1.2.1 t.2.1
theorem loop_Z26_L1 {Q : A_Z26_L1 (((Bool × Unit) × (Unit)) → Prop)} (I : A_Z26_L1 Prop) (μ : A_Z26_L1 Nat)
    (step : ∀ a0 a1 a2, I a0 a1 a2 → ∀ again : (Nat → Nat) → T_Z26_L1 → R_Z26, Dep 2 again → (∀ y0 y1 y2, I y0 y1 y2 → μ y0 y1 y2 < μ a0 a1 a2 → Tot (fun σ => again σ ((y0, y1, ()), y2, ())) (Q y0 y1 y2)) →
      Tot (fun σ => B_Z26_L1b (σ 0) (F_Z56 (σ 0)) (F_Z45 (σ 0)) (F_Z30 (σ 0)) (F_Z67 (σ 0)) (again σ) a0 a1 a2) (Q a0 a1 a2)) :
    ∀ a0 a1 a2, I a0 a1 a2 → Tot (fun σ => B_Z26_L1 (σ 0) (F_Z56 (σ 0)) (F_Z45 (σ 0)) (F_Z30 (σ 0)) (F_Z67 (σ 0)) (σ 0) ((a0, a1, ()), a2, ())) (Q a0 a1 a2) := fun a0 a1 a2 => Tot.loop0 (L := fun k => B_Z26_L1 k (F_Z56 k) (F_Z45 k) (F_Z30 k) (F_Z67 k)) (B := fun k g => u_Z26_L1 (B_Z26_L1b k (F_Z56 k) (F_Z45 k) (F_Z30 k) (F_Z67 k) g)) (Q := u_Z26_L1 Q) (fun _ _ _ => rfl) (u_Z26_L1 I) (u_Z26_L1 μ)
    (fun t ht again hag h => step t.1.1 t.1.2.1 t.2.1 ht again hag fun y0 y1 y2 => h ((y0, y1, ()), y2, ())) ((a0, a1, ()), a2, ())
abbrev R_Z44 : Type := Option ((List Int × Unit) × (Unit))
abbrev C_Z44 : Type := (List (Int × Int × List Int)) → Int → R_Z44
abbrev T_Z44_L0 : Type := ((List (Int × Int × List Int)) × Int × Unit) × List Int × Int × Unit
def B_Z44_L0b (k : Nat) (again0 : T_Z44_L0 → R_Z44) (g_Nodes : List (Int × Int × List Int)) (g_Root : Int) (out : List Int) (i : Int) : R_Z44 :=
  bif decide (i < (len g_Nodes)) then
    chk (room out.length ([(-1)]).length) <|
    again0 ((g_Nodes, g_Root, ()), (out ++ [(-1)]), w64 (i + 1), ())
  else
    some ((out, ()), ())
def B_Z44_L0 (k : Nat) (n : Nat) (t : T_Z44_L0) : R_Z44 :=
  lfix n (fun again t => B_Z44_L0b k again t.1.1 t.1.2.1 t.2.1 t.2.2.1) t
def B_Z44 (k : Nat) (g_0 : List (Int × Int × List Int)) (g_1 : Int) : R_Z44 :=
  B_Z44_L0 k k ((g_0, g_1, ()), [], 0, ())
def F_Z44 : Nat → C_Z44
  | 0, _, _ => none
  | k + 1, g_0, g_1 => B_Z44 k g_0 g_1
theorem tot_Z44 {g_0 g_1 : _} {Q : _ → Prop} (h : Tot (fun σ => B_Z44 (σ 0) g_0 g_1) Q) : Tot (fun σ => F_Z44 (σ 0) g_0 g_1) Q :=
  Tot.call (F := fun k => F_Z44 k g_0 g_1) (B := fun k => B_Z44 k g_0 g_1) (fun k => rfl) h
abbrev A_Z44_L0 (Z : Type) : Type := (List (Int × Int × List Int)) → Int → List Int → Int → Z
abbrev u_Z44_L0 {Z : Type} (f : A_Z44_L0 Z) (t : T_Z44_L0) : Z := f t.1.1 t.1.2.1 t.2.1 t.2.2.1
theorem loop_Z44_L0 {Q : A_Z44_L0 (((List Int × Unit) × (Unit)) → Prop)} (I : A_Z44_L0 Prop) (μ : A_Z44_L0 Nat)
    (step : ∀ a0 a1 a2 a3, I a0 a1 a2 a3 → ∀ again : (Nat → Nat) → T_Z44_L0 → R_Z44, Dep 2 again → (∀ y0 y1 y2 y3, I y0 y1 y2 y3 → μ y0 y1 y2 y3 < μ a0 a1 a2 a3 → Tot (fun σ => again σ ((y0, y1, ()), y2, y3, ())) (Q y0 y1 y2 y3)) →
      Tot (fun σ => B_Z44_L0b (σ 0) (again σ) a0 a1 a2 a3) (Q a0 a1 a2 a3)) :
    ∀ a0 a1 a2 a3, I a0 a1 a2 a3 → Tot (fun σ => B_Z44_L0 (σ 0) (σ 0) ((a0, a1, ()), a2, a3, ())) (Q a0 a1 a2 a3) := fun a0 a1 a2 a3 => Tot.loop0 (L := fun k => B_Z44_L0 k) (B := fun k g => u_Z44_L0 (B_Z44_L0b k g)) (Q := u_Z44_L0 Q) (fun _ _ _ => rfl) (u_Z44_L0 I) (u_Z44_L0 μ)
    (fun t ht again hag h => step t.1.1 t.1.2.1 t.2.1 t.2.2.1 ht again hag fun y0 y1 y2 y3 => h ((y0, y1, ()), y2, y3, ())) ((a0, a1, ()), a2, a3, ())
abbrev R_s_emit : Type := Option (((List (Int × Int)) × Unit) × (Unit))
abbrev C_s_emit : Type := (List (Int × Int)) → (List (Int × Int)) → R_s_emit
def B_s_emit (k : Nat) (ops more1 : List (Int × Int)) : R_s_emit :=
  chk (room ([] : List (Int × Int)).length ops.length) <|
  chk (room ops.length more1.length) <|
  some (((ops ++ more1), ()), ())
def F_s_emit : Nat → C_s_emit
  | 0, _, _ => none
  | k + 1, ops, more1 => B_s_emit k ops more1
theorem tot_s_emit {ops more1 : _} {Q : _ → Prop} (h : Tot (fun σ => B_s_emit (σ 0) ops more1) Q) : Tot (fun σ => F_s_emit (σ 0) ops more1) Q :=
  Tot.call (F := fun k => F_s_emit k ops more1) (B := fun k => B_s_emit k ops more1) (fun k => rfl) h
abbrev R_s_memoed : Type := Option (((List (Int × Int)) × List Int × Unit) × (Unit))
abbrev C_s_memoed : Type := (List (Int × Int)) → List Int → Int → R_s_memoed
abbrev T_s_memoed_L1 : Type := (List (Int × Int)) × List Int × Int × Int × Int × Unit
def B_s_memoed_J0 (k : Nat) (c_Z48 : C_Z48) (c_s_emit : C_s_emit) (again1 : T_s_memoed_L1 → R_s_memoed) (ops : List (Int × Int)) (memo : List Int) (at2 next i : Int) : R_s_memoed :=
  again1 (ops, memo, at2, next, w64 (i + 1), ())
def B_s_memoed_L1b (k : Nat) (c_Z48 : C_Z48) (c_s_emit : C_s_emit) (again1 : T_s_memoed_L1 → R_s_memoed) (ops : List (Int × Int)) (memo : List Int) (at2 next i : Int) : R_s_memoed :=
  bif decide (i < (len memo)) then
    chk (inb i memo.length) <|
    bif decide ((rdx (0 : Int) memo i) ≥ 0) then
      jn (fun t => B_s_memoed_J0 k c_Z48 c_s_emit again1 t.1 t.2.1 t.2.2.1 t.2.2.2.1 t.2.2.2.2.1) (ops, memo, at2, w64 (next + 1), i, ())
    else
      jn (fun t => B_s_memoed_J0 k c_Z48 c_s_emit again1 t.1 t.2.1 t.2.2.1 t.2.2.2.1 t.2.2.2.2.1) (ops, memo, at2, next, i, ())
  else
    (c_Z48 memo).bind fun r24 =>
    chk (inb at2 r24.1.1.length) <|
    chk (decide (at2.toNat < r24.1.1.length)) <|
    (c_s_emit ops ([(15, next)])).bind fun r33 =>
    some ((r33.1.1, (r24.1.1.set at2.toNat next), ()), ())
def B_s_memoed_L1 (k : Nat) (c_Z48 : C_Z48) (c_s_emit : C_s_emit) (n : Nat) (t : T_s_memoed_L1) : R_s_memoed :=
  lfix n (fun again t => B_s_memoed_L1b k c_Z48 c_s_emit again t.1 t.2.1 t.2.2.1 t.2.2.2.1 t.2.2.2.2.1) t
def B_s_memoed (k : Nat) (c_Z48 : C_Z48) (c_s_emit : C_s_emit) (ops : List (Int × Int)) (memo : List Int) (at2 : Int) : R_s_memoed :=
  B_s_memoed_L1 k c_Z48 c_s_emit k (ops, memo, at2, 0, 0, ())
def F_s_memoed : Nat → C_s_memoed
  | 0, _, _, _ => none
  | k + 1, ops, memo, at2 => B_s_memoed k (F_Z48 k) (F_s_emit k) ops memo at2
theorem tot_s_memoed {ops memo at2 : _} {Q : _ → Prop} (h : Tot (fun σ => B_s_memoed (σ 0) (F_Z48 (σ 0)) (F_s_emit (σ 0)) ops memo at2) Q) : Tot (fun σ => F_s_memoed (σ 0) ops memo at2) Q :=
  Tot.call (F := fun k => F_s_memoed k ops memo at2) (B := fun k => B_s_memoed k (F_Z48 k) (F_s_emit k) ops memo at2) (fun k => rfl) h
abbrev A_s_memoed_L1 (Z : Type) : Type := (List (Int × Int)) → List Int → Int → Int → Int → Z
abbrev u_s_memoed_L1 {Z : Type} (f : A_s_memoed_L1 Z) (t : T_s_memoed_L1) : Z := f t.1 t.2.1 t.2.2.1 t.2.2.2.1 t.2.2.2.2.1
theorem loop_s_memoed_L1 {Q : A_s_memoed_L1 ((((List (Int × Int)) × List Int × Unit) × (Unit)) → Prop)} (I : A_s_memoed_L1 Prop) (μ : A_s_memoed_L1 Nat)
    (step : ∀ a0 a1 a2 a3 a4, I a0 a1 a2 a3 a4 → ∀ again : (Nat → Nat) → T_s_memoed_L1 → R_s_memoed, Dep 2 again → (∀ y0 y1 y2 y3 y4, I y0 y1 y2 y3 y4 → μ y0 y1 y2 y3 y4 < μ a0 a1 a2 a3 a4 → Tot (fun σ => again σ (y0, y1, y2, y3, y4, ())) (Q y0 y1 y2 y3 y4)) →
      Tot (fun σ => B_s_memoed_L1b (σ 0) (F_Z48 (σ 0)) (F_s_emit (σ 0)) (again σ) a0 a1 a2 a3 a4) (Q a0 a1 a2 a3 a4)) :
    ∀ a0 a1 a2 a3 a4, I a0 a1 a2 a3 a4 → Tot (fun σ => B_s_memoed_L1 (σ 0) (F_Z48 (σ 0)) (F_s_emit (σ 0)) (σ 0) (a0, a1, a2, a3, a4, ())) (Q a0 a1 a2 a3 a4) := fun a0 a1 a2 a3 a4 => Tot.loop0 (L := fun k => B_s_memoed_L1 k (F_Z48 k) (F_s_emit k)) (B := fun k g => u_s_memoed_L1 (B_s_memoed_L1b k (F_Z48 k) (F_s_emit k) g)) (Q := u_s_memoed_L1 Q) (fun _ _ _ => rfl) (u_s_memoed_L1 I) (u_s_memoed_L1 μ)
    (fun t ht again hag h => step t.1 t.2.1 t.2.2.1 t.2.2.2.1 t.2.2.2.2.1 ht again hag fun y0 y1 y2 y3 y4 => h (y0, y1, y2, y3, y4, ())) (a0, a1, a2, a3, a4, ())
abbrev R_Z70 : Type := Option (((List (Int × Int)) × List Int × Unit) × (Unit))
abbrev C_Z70 : Type := (List (Int × Int × List Int)) → Int → Int → List Int → (List (Int × Int)) → List Int → R_Z70
abbrev R_Z39 : Type := Option (((List (Int × Int)) × List Int × Unit) × (Unit))
abbrev C_Z39 : Type := (List (Int × Int × List Int)) → Int → Int → Int → (List (Int × Int)) → List Int → R_Z39
abbrev R_s_fill : Type := Option (((List (Int × Int)) × List Int × Unit) × (Unit))
abbrev C_s_fill : Type := (List (Int × Int × List Int)) → Int → Int → List Int → Int → Int → Int → (List (Int × Int)) → List Int → R_s_fill
abbrev R_s_save : Type := Option (((List (Int × Int)) × List Int × Unit) × (Unit))
abbrev C_s_save : Type := (List (Int × Int × List Int)) → Int → Int → Int → (List (Int × Int)) → List Int → R_s_save
abbrev T_Z70_L0 : Type := Int × List Int × (List (Int × Int)) × List Int × ((List (Int × Int × List Int)) × Int × Unit) × Int × Unit
def B_Z70_L0b (k : Nat) (c_s_save : C_s_save) (again0 : T_Z70_L0 → R_Z70) (level : Int) (list : List Int) (ops : List (Int × Int)) (memo : List Int) (g_Nodes : List (Int × Int × List Int)) (g_Root i : Int) : R_Z70 :=
  bif decide (i < (len list)) then
    chk (inb i list.length) <|
    (c_s_save g_Nodes g_Root level (rdx (0 : Int) list i) ops memo).bind fun r28 =>
    again0 (level, list, r28.1.1, r28.1.2.1, (g_Nodes, g_Root, ()), w64 (i + 1), ())
  else
    some ((ops, memo, ()), ())
def B_Z70_L0 (k : Nat) (c_s_save : C_s_save) (n : Nat) (t : T_Z70_L0) : R_Z70 :=
  lfix n (fun again t => B_Z70_L0b k c_s_save again t.1 t.2.1 t.2.2.1 t.2.2.2.1 t.2.2.2.2.1.1 t.2.2.2.2.1.2.1 t.2.2.2.2.2.1) t
def B_Z70 (k : Nat) (c_s_save : C_s_save) (g_0 : List (Int × Int × List Int)) (g_1 level : Int) (list : List Int) (ops : List (Int × Int)) (memo : List Int) : R_Z70 :=
  B_Z70_L0 k c_s_save k (level, list, ops, memo, (g_0, g_1, ()), 0, ())
abbrev T_Z39_L3 : Type := Int × (List (Int × Int)) × List Int × List Int × Bool × Int × Unit
def B_Z39_J4 (k : Nat) (c_s_emit : C_s_emit) (c_s_memoed : C_s_memoed) (c_Z70 : C_Z70) (at2 : Int) (ops : List (Int × Int)) (memo : List Int) : R_Z39 :=
  chk (inb at2 memo.length) <|
  (c_s_emit ops ([(16, (rdx (0 : Int) memo at2))])).bind fun r87 =>
  some ((r87.1.1, memo, ()), ())
def B_Z39_J2 (k : Nat) (c_s_emit : C_s_emit) (c_s_memoed : C_s_memoed) (c_Z70 : C_Z70) (again3 : T_Z39_L3 → R_Z39) (at2 : Int) (ops : List (Int × Int)) (memo kids : List Int) (short : Bool) (i : Int) (t67 : Bool) : R_Z39 :=
  bif t67 then
    (c_s_emit ops ([(17, 0)])).bind fun r73 =>
    again3 (at2, r73.1.1, memo, kids, short, w64 (i + 1), ())
  else
    bif (!short) then
      (c_s_emit ops ([(18, 0)])).bind fun r79 =>
      jn (fun t => B_Z39_J4 k c_s_emit c_s_memoed c_Z70 t.1 t.2.1 t.2.2.1) (at2, r79.1.1, memo, ())
    else
      jn (fun t => B_Z39_J4 k c_s_emit c_s_memoed c_Z70 t.1 t.2.1 t.2.2.1) (at2, ops, memo, ())
def B_Z39_L3b (k : Nat) (c_s_emit : C_s_emit) (c_s_memoed : C_s_memoed) (c_Z70 : C_Z70) (again3 : T_Z39_L3 → R_Z39) (at2 : Int) (ops : List (Int × Int)) (memo kids : List Int) (short : Bool) (i : Int) : R_Z39 :=
  bif decide (i < (len kids)) then
    jn (fun t => B_Z39_J2 k c_s_emit c_s_memoed c_Z70 again3 t.1 t.2.1 t.2.2.1 t.2.2.2.1 t.2.2.2.2.1 t.2.2.2.2.2.1 t.2.2.2.2.2.2.1) (at2, ops, memo, kids, short, i, short, ())
  else
    jn (fun t => B_Z39_J2 k c_s_emit c_s_memoed c_Z70 again3 t.1 t.2.1 t.2.2.1 t.2.2.2.1 t.2.2.2.2.1 t.2.2.2.2.2.1 t.2.2.2.2.2.2.1) (at2, ops, memo, kids, short, i, false, ())
def B_Z39_L3 (k : Nat) (c_s_emit : C_s_emit) (c_s_memoed : C_s_memoed) (c_Z70 : C_Z70) (n : Nat) (t : T_Z39_L3) : R_Z39 :=
  lfix n (fun again t => B_Z39_L3b k c_s_emit c_s_memoed c_Z70 again t.1 t.2.1 t.2.2.1 t.2.2.2.1 t.2.2.2.2.1 t.2.2.2.2.2.1) t
def B_Z39_J5 (k : Nat) (c_s_emit : C_s_emit) (c_s_memoed : C_s_memoed) (c_Z70 : C_Z70) (at2 : Int) (ops : List (Int × Int)) (memo : List Int) (c : Int) : R_Z39 :=
  (c_s_emit ops ([(c, 0)])).bind fun r97 =>
  (c_s_memoed r97.1.1 memo at2).bind fun r100 =>
  some ((r100.1.1, r100.1.2.1, ()), ())
def B_Z39_J1 (k : Nat) (c_s_emit : C_s_emit) (c_s_memoed : C_s_memoed) (c_Z70 : C_Z70) (level at2 : Int) (ops : List (Int × Int)) (memo : List Int) (g_Nodes : List (Int × Int × List Int)) (g_Root : Int) (kids : List Int) (short : Bool) : R_Z39 :=
  (c_Z70 g_Nodes g_Root level kids ops memo).bind fun r53 =>
  chk (inb at2 r53.1.2.1.length) <|
  bif decide ((rdx (0 : Int) r53.1.2.1 at2) ≥ 0) then
    B_Z39_L3 k c_s_emit c_s_memoed c_Z70 k (at2, r53.1.1, r53.1.2.1, kids, short, 0, ())
  else
    bif short then
      jn (fun t => B_Z39_J5 k c_s_emit c_s_memoed c_Z70 t.1 t.2.1 t.2.2.1 t.2.2.2.1) (at2, r53.1.1, r53.1.2.1, w64 (4 + (len kids)), ())
    else
      jn (fun t => B_Z39_J5 k c_s_emit c_s_memoed c_Z70 t.1 t.2.1 t.2.2.1 t.2.2.2.1) (at2, r53.1.1, r53.1.2.1, 3, ())
def B_Z39_J0 (k : Nat) (c_s_emit : C_s_emit) (c_s_memoed : C_s_memoed) (c_Z70 : C_Z70) (level at2 : Int) (ops : List (Int × Int)) (memo : List Int) (g_Nodes : List (Int × Int × List Int)) (g_Root : Int) (kids : List Int) (short : Bool) : R_Z39 :=
  bif (!short) then
    (c_s_emit ops ([(2, 0)])).bind fun r46 =>
    jn (fun t => B_Z39_J1 k c_s_emit c_s_memoed c_Z70 t.1 t.2.1 t.2.2.1 t.2.2.2.1 t.2.2.2.2.1.1 t.2.2.2.2.1.2.1 t.2.2.2.2.2.1 t.2.2.2.2.2.2.1) (level, at2, r46.1.1, memo, (g_Nodes, g_Root, ()), kids, short, ())
  else
    jn (fun t => B_Z39_J1 k c_s_emit c_s_memoed c_Z70 t.1 t.2.1 t.2.2.1 t.2.2.2.1 t.2.2.2.2.1.1 t.2.2.2.2.1.2.1 t.2.2.2.2.2.1 t.2.2.2.2.2.2.1) (level, at2, ops, memo, (g_Nodes, g_Root, ()), kids, short, ())
def B_Z39 (k : Nat) (c_s_emit : C_s_emit) (c_s_memoed : C_s_memoed) (c_Z70 : C_Z70) (g_0 : List (Int × Int × List Int)) (g_1 level at2 : Int) (ops : List (Int × Int)) (memo : List Int) : R_Z39 :=
  chk (inb at2 g_0.length) <|
  bif ((len (((rdx ((0 : Int), ((0 : Int), ([] : List Int))) g_0 at2).2).2)) == 0) then
    (c_s_emit ops ([(4, 0)])).bind fun r28 =>
    (c_s_memoed r28.1.1 memo at2).bind fun r31 =>
    some ((r31.1.1, r31.1.2.1, ()), ())
  else
    bif decide (level > 0) then
      jn (fun t => B_Z39_J0 k c_s_emit c_s_memoed c_Z70 t.1 t.2.1 t.2.2.1 t.2.2.2.1 t.2.2.2.2.1.1 t.2.2.2.2.1.2.1 t.2.2.2.2.2.1 t.2.2.2.2.2.2.1) (level, at2, ops, memo, (g_0, g_1, ()), ((rdx ((0 : Int), ((0 : Int), ([] : List Int))) g_0 at2).2).2, decide ((len (((rdx ((0 : Int), ((0 : Int), ([] : List Int))) g_0 at2).2).2)) ≤ 2), ())
    else
      jn (fun t => B_Z39_J0 k c_s_emit c_s_memoed c_Z70 t.1 t.2.1 t.2.2.1 t.2.2.2.1 t.2.2.2.2.1.1 t.2.2.2.2.1.2.1 t.2.2.2.2.2.1 t.2.2.2.2.2.2.1) (level, at2, ops, memo, (g_0, g_1, ()), ((rdx ((0 : Int), ((0 : Int), ([] : List Int))) g_0 at2).2).2, false, ())
abbrev T_s_fill_L1 : Type := Int × List Int × Int × Int × (List (Int × Int)) × List Int × ((List (Int × Int × List Int)) × Int × Unit) × Int × Unit
def B_s_fill_L1b (k : Nat) (c_s_emit : C_s_emit) (c_Z70 : C_Z70) (again1 : T_s_fill_L1 → R_s_fill) (level : Int) (kids : List Int) (each one : Int) (ops : List (Int × Int)) (memo : List Int) (g_Nodes : List (Int × Int × List Int)) (g_Root i : Int) : R_s_fill :=
  bif decide (i < (len kids)) then
    chk (cutb i (w64 (i + each)) kids.length) <|
    (c_Z70 g_Nodes g_Root level (sub kids i (w64 (i + each))) ops memo).bind fun r64 =>
    (c_s_emit r64.1.1 ([(one, 0)])).bind fun r71 =>
    again1 (level, kids, each, one, r71.1.1, r64.1.2.1, (g_Nodes, g_Root, ()), w64 (i + each), ())
  else
    some ((ops, memo, ()), ())
def B_s_fill_L1 (k : Nat) (c_s_emit : C_s_emit) (c_Z70 : C_Z70) (n : Nat) (t : T_s_fill_L1) : R_s_fill :=
  lfix n (fun again t => B_s_fill_L1b k c_s_emit c_Z70 again t.1 t.2.1 t.2.2.1 t.2.2.2.1 t.2.2.2.2.1 t.2.2.2.2.2.1 t.2.2.2.2.2.2.1.1 t.2.2.2.2.2.2.1.2.1 t.2.2.2.2.2.2.2.1) t
def B_s_fill_J0 (k : Nat) (c_s_emit : C_s_emit) (c_Z70 : C_Z70) (level : Int) (kids : List Int) (each one all : Int) (ops : List (Int × Int)) (memo : List Int) (g_Nodes : List (Int × Int × List Int)) (g_Root : Int) (t26 : Bool) : R_s_fill :=
  bif t26 then
    (c_s_emit ops ([(2, 0)])).bind fun r30 =>
    (c_Z70 g_Nodes g_Root level kids r30.1.1 memo).bind fun r37 =>
    (c_s_emit r37.1.1 ([(all, 0)])).bind fun r44 =>
    some ((r44.1.1, r37.1.2.1, ()), ())
  else
    B_s_fill_L1 k c_s_emit c_Z70 k (level, kids, each, one, ops, memo, (g_Nodes, g_Root, ()), 0, ())
def B_s_fill (k : Nat) (c_s_emit : C_s_emit) (c_Z70 : C_Z70) (g_0 : List (Int × Int × List Int)) (g_1 level : Int) (kids : List Int) (each one all : Int) (ops : List (Int × Int)) (memo : List Int) : R_s_fill :=
  bif decide (level > 0) then
    jn (fun t => B_s_fill_J0 k c_s_emit c_Z70 t.1 t.2.1 t.2.2.1 t.2.2.2.1 t.2.2.2.2.1 t.2.2.2.2.2.1 t.2.2.2.2.2.2.1 t.2.2.2.2.2.2.2.1.1 t.2.2.2.2.2.2.2.1.2.1 t.2.2.2.2.2.2.2.2.1) (level, kids, each, one, all, ops, memo, (g_0, g_1, ()), decide ((len kids) > each), ())
  else
    jn (fun t => B_s_fill_J0 k c_s_emit c_Z70 t.1 t.2.1 t.2.2.1 t.2.2.2.1 t.2.2.2.2.1 t.2.2.2.2.2.1 t.2.2.2.2.2.2.1 t.2.2.2.2.2.2.2.1.1 t.2.2.2.2.2.2.2.1.2.1 t.2.2.2.2.2.2.2.2.1) (level, kids, each, one, all, ops, memo, (g_0, g_1, ()), false, ())
def B_s_save_J0 (k : Nat) (c_s_emit : C_s_emit) (c_s_memoed : C_s_memoed) (c_Z39 : C_Z39) (c_s_fill : C_s_fill) (c_Z70 : C_Z70) (ops : List (Int × Int)) (memo : List Int) : R_s_save :=
  some ((ops, memo, ()), ())
def B_s_save (k : Nat) (c_s_emit : C_s_emit) (c_s_memoed : C_s_memoed) (c_Z39 : C_Z39) (c_s_fill : C_s_fill) (c_Z70 : C_Z70) (g_0 : List (Int × Int × List Int)) (g_1 level at2 : Int) (ops : List (Int × Int)) (memo : List Int) : R_s_save :=
  chk (inb at2 g_0.length) <|
  chk (inb at2 memo.length) <|
  bif decide ((rdx (0 : Int) memo at2) ≥ 0) then
    chk (inb at2 memo.length) <|
    (c_s_emit ops ([(16, (rdx (0 : Int) memo at2))])).bind fun r30 =>
    some ((r30.1.1, memo, ()), ())
  else
    bif (((rdx ((0 : Int), ((0 : Int), ([] : List Int))) g_0 at2).1) == 0) then
      (c_s_emit ops ([(0, ((rdx ((0 : Int), ((0 : Int), ([] : List Int))) g_0 at2).2).1)])).bind fun r41 =>
      some ((r41.1.1, memo, ()), ())
    else
      bif (((rdx ((0 : Int), ((0 : Int), ([] : List Int))) g_0 at2).1) == 1) then
        (c_s_emit ops ([(1, ((rdx ((0 : Int), ((0 : Int), ([] : List Int))) g_0 at2).2).1)])).bind fun r50 =>
        (c_s_memoed r50.1.1 memo at2).bind fun r53 =>
        some ((r53.1.1, r53.1.2.1, ()), ())
      else
        bif (((rdx ((0 : Int), ((0 : Int), ([] : List Int))) g_0 at2).1) == 2) then
          (c_Z39 g_0 g_1 level at2 ops memo).bind fun r63 =>
          some ((r63.1.1, r63.1.2.1, ()), ())
        else
          bif (((rdx ((0 : Int), ((0 : Int), ([] : List Int))) g_0 at2).1) == 3) then
            (c_s_emit ops ([(7, 0)])).bind fun r72 =>
            (c_s_memoed r72.1.1 memo at2).bind fun r75 =>
            (c_s_fill g_0 g_1 level (((rdx ((0 : Int), ((0 : Int), ([] : List Int))) g_0 at2).2).2) 1 8 9 r75.1.1 r75.1.2.1).bind fun r84 =>
            some ((r84.1.1, r84.1.2.1, ()), ())
          else
            bif (((rdx ((0 : Int), ((0 : Int), ([] : List Int))) g_0 at2).1) == 4) then
              (c_s_emit ops ([(10, 0)])).bind fun r93 =>
              (c_s_memoed r93.1.1 memo at2).bind fun r96 =>
              (c_s_fill g_0 g_1 level (((rdx ((0 : Int), ((0 : Int), ([] : List Int))) g_0 at2).2).2) 2 11 12 r96.1.1 r96.1.2.1).bind fun r105 =>
              some ((r105.1.1, r105.1.2.1, ()), ())
            else
              (c_s_emit ops ([(13, ((rdx ((0 : Int), ((0 : Int), ([] : List Int))) g_0 at2).2).1)])).bind fun r114 =>
              (c_s_memoed r114.1.1 memo at2).bind fun r117 =>
              (c_Z70 g_0 g_1 level (((rdx ((0 : Int), ((0 : Int), ([] : List Int))) g_0 at2).2).2) r117.1.1 r117.1.2.1).bind fun r127 =>
              bif decide ((len (((rdx ((0 : Int), ((0 : Int), ([] : List Int))) g_0 at2).2).2)) > 0) then
                (c_s_emit r127.1.1 ([(14, 0)])).bind fun r137 =>
                jn (fun t => B_s_save_J0 k c_s_emit c_s_memoed c_Z39 c_s_fill c_Z70 t.1 t.2.1) (r137.1.1, r127.1.2.1, ())
              else
                jn (fun t => B_s_save_J0 k c_s_emit c_s_memoed c_Z39 c_s_fill c_Z70 t.1 t.2.1) (r127.1.1, r127.1.2.1, ())
mutual
def F_Z70 : Nat → C_Z70
  | 0, _, _, _, _, _, _ => none
  | k + 1, g_0, g_1, level, list, ops, memo => B_Z70 k (F_s_save k) g_0 g_1 level list ops memo
def F_Z39 : Nat → C_Z39
  | 0, _, _, _, _, _, _ => none
  | k + 1, g_0, g_1, level, at2, ops, memo => B_Z39 k (F_s_emit k) (F_s_memoed k) (F_Z70 k) g_0 g_1 level at2 ops memo
def F_s_fill : Nat → C_s_fill
  | 0, _, _, _, _, _, _, _, _, _ => none
  | k + 1, g_0, g_1, level, kids, each, one, all, ops, memo => B_s_fill k (F_s_emit k) (F_Z70 k) g_0 g_1 level kids each one all ops memo
def F_s_save : Nat → C_s_save
  | 0, _, _, _, _, _, _ => none
  | k + 1, g_0, g_1, level, at2, ops, memo => B_s_save k (F_s_emit k) (F_s_memoed k) (F_Z39 k) (F_s_fill k) (F_Z70 k) g_0 g_1 level at2 ops memo
end
theorem F_Z70_succ (k : Nat) (g_0 : List (Int × Int × List Int)) (g_1 : Int) (level : Int) (list : List Int) (ops : List (Int × Int)) (memo : List Int) : F_Z70 (k + 1) g_0 g_1 level list ops memo = B_Z70 k (F_s_save k) g_0 g_1 level list ops memo := by rw [F_Z70]
theorem tot_Z70 {g_0 g_1 level list ops memo : _} {Q : _ → Prop} (h : Tot (fun σ => B_Z70 (σ 0) (F_s_save (σ 0)) g_0 g_1 level list ops memo) Q) : Tot (fun σ => F_Z70 (σ 0) g_0 g_1 level list ops memo) Q :=
  Tot.call (F := fun k => F_Z70 k g_0 g_1 level list ops memo) (B := fun k => B_Z70 k (F_s_save k) g_0 g_1 level list ops memo) (fun k => F_Z70_succ k g_0 g_1 level list ops memo) h
abbrev A_Z70_L0 (Z : Type) : Type := Int → List Int → (List (Int × Int)) → List Int → (List (Int × Int × List Int)) → Int → Int → Z
abbrev u_Z70_L0 {Z : Type} (f : A_Z70_L0 Z) (t : T_Z70_L0) : Z := f t.1 t.2.1 t.2.2.1 t.2.2.2.1 t.2.2.2.2.1.1 t.2.2.2.2.1.2.1 t.2.2.2.2.2.1
theorem loop_Z70_L0 {Q : A_Z70_L0 ((((List (Int × Int)) × List Int × Unit) × (Unit)) → Prop)} (I : A_Z70_L0 Prop) (μ : A_Z70_L0 Nat)
    (step : ∀ a0 a1 a2 a3 a4 a5 a6, I a0 a1 a2 a3 a4 a5 a6 → ∀ again : (Nat → Nat) → T_Z70_L0 → R_Z70, Dep 2 again → (∀ y0 y1 y2 y3 y4 y5 y6, I y0 y1 y2 y3 y4 y5 y6 → μ y0 y1 y2 y3 y4 y5 y6 < μ a0 a1 a2 a3 a4 a5 a6 → Tot (fun σ => again σ (y0, y1, y2, y3, (y4, y5, ()), y6, ())) (Q y0 y1 y2 y3 y4 y5 y6)) →
      Tot (fun σ => B_Z70_L0b (σ 0) (F_s_save (σ 0)) (again σ) a0 a1 a2 a3 a4 a5 a6) (Q a0 a1 a2 a3 a4 a5 a6)) :
    ∀ a0 a1 a2 a3 a4 a5 a6, I a0 a1 a2 a3 a4 a5 a6 → Tot (fun σ => B_Z70_L0 (σ 0) (F_s_save (σ 0)) (σ 0) (a0, a1, a2, a3, (a4, a5, ()), a6, ())) (Q a0 a1 a2 a3 a4 a5 a6) := fun a0 a1 a2 a3 a4 a5 a6 => Tot.loop0 (L := fun k => B_Z70_L0 k (F_s_save k)) (B := fun k g => u_Z70_L0 (B_Z70_L0b k (F_s_save k) g)) (Q := u_Z70_L0 Q) (fun _ _ _ => rfl) (u_Z70_L0 I) (u_Z70_L0 μ)
    (fun t ht again hag h => step t.1 t.2.1 t.2.2.1 t.2.2.2.1 t.2.2.2.2.1.1 t.2.2.2.2.1.2.1 t.2.2.2.2.2.1 ht again hag fun y0 y1 y2 y3 y4 y5 y6 => h (y0, y1, y2, y3, (y4, y5, ()), y6, ())) (a0, a1, a2, a3, (a4, a5, ()), a6, ())
theorem F_Z39_succ (k : Nat) (g_0 : List (Int × Int × List Int)) (g_1 : Int) (level : Int) (at2 : Int) (ops : List (Int × Int)) (memo : List Int) : F_Z39 (k + 1) g_0 g_1 level at2 ops memo = B_Z39 k (F_s_emit k) (F_s_memoed k) (F_Z70 k) g_0 g_1 level at2 ops memo := by rw [F_Z39]
theorem tot_Z39 {g_0 g_1 level at2 ops memo : _} {Q : _ → Prop} (h : Tot (fun σ => B_Z39 (σ 0) (F_s_emit (σ 0)) (F_s_memoed (σ 0)) (F_Z70 (σ 0)) g_0 g_1 level at2 ops memo) Q) : Tot (fun σ => F_Z39 (σ 0) g_0 g_1 level at2 ops memo) Q :=
  Tot.call (F := fun k => F_Z39 k g_0 g_1 level at2 ops memo) (B := fun k => B_Z39 k (F_s_emit k) (F_s_memoed k) (F_Z70 k) g_0 g_1 level at2 ops memo) (fun k => F_Z39_succ k g_0 g_1 level at2 ops memo) h
abbrev A_Z39_L3 (Z : Type) : Type := Int → (List (Int × Int)) → List Int → List Int → Bool → Int → Z
abbrev u_Z39_L3 {Z : Type} (f : A_Z39_L3 Z) (t : T_Z39_L3) : Z := f t.1 t.2.1 t.2.2.1 t.2.2.2.1 t.2.2.2.2.1 t.2.2.2.2.2.1
theorem loop_Z39_L3 {Q : A_Z39_L3 ((((List (Int × Int)) × List Int × Unit) × (Unit)) → Prop)} (I : A_Z39_L3 Prop) (μ : A_Z39_L3 Nat)
    (step : ∀ a0 a1 a2 a3 a4 a5, I a0 a1 a2 a3 a4 a5 → ∀ again : (Nat → Nat) → T_Z39_L3 → R_Z39, Dep 2 again → (∀ y0 y1 y2 y3 y4 y5, I y0 y1 y2 y3 y4 y5 → μ y0 y1 y2 y3 y4 y5 < μ a0 a1 a2 a3 a4 a5 → Tot (fun σ => again σ (y0, y1, y2, y3, y4, y5, ())) (Q y0 y1 y2 y3 y4 y5)) →
      Tot (fun σ => B_Z39_L3b (σ 0) (F_s_emit (σ 0)) (F_s_memoed (σ 0)) (F_Z70 (σ 0)) (again σ) a0 a1 a2 a3 a4 a5) (Q a0 a1 a2 a3 a4 a5)) :
    ∀ a0 a1 a2 a3 a4 a5, I a0 a1 a2 a3 a4 a5 → Tot (fun σ => B_Z39_L3 (σ 0) (F_s_emit (σ 0)) (F_s_memoed (σ 0)) (F_Z70 (σ 0)) (σ 0) (a0, a1, a2, a3, a4, a5, ())) (Q a0 a1 a2 a3 a4 a5) := fun a0 a1 a2 a3 a4 a5 => Tot.loop0 (L := fun k => B_Z39_L3 k (F_s_emit k) (F_s_memoed k) (F_Z70 k)) (B := fun k g => u_Z39_L3 (B_Z39_L3b k (F_s_emit k) (F_s_memoed k) (F_Z70 k) g)) (Q := u_Z39_L3 Q) (fun _ _ _ => rfl) (u_Z39_L3 I) (u_Z39_L3 μ)
    (fun t ht again hag h => step t.1 t.2.1 t.2.2.1 t.2.2.2.1 t.2.2.2.2.1 t.2.2.2.2.2.1 ht again hag fun y0 y1 y2 y3 y4 y5 => h (y0, y1, y2, y3, y4, y5, ())) (a0, a1, a2, a3, a4, a5, ())
theorem F_s_fill_succ (k : Nat) (g_0 : List (Int × Int × List Int)) (g_1 : Int) (level : Int) (kids : List Int) (each : Int) (one : Int) (all : Int) (ops : List (Int × Int)) (memo : List Int) : F_s_fill (k + 1) g_0 g_1 level kids each one all ops memo = B_s_fill k (F_s_emit k) (F_Z70 k) g_0 g_1 level kids each one all ops memo := by rw [F_s_fill]
theorem tot_s_fill {g_0 g_1 level kids each one all ops memo : _} {Q : _ → Prop} (h : Tot (fun σ => B_s_fill (σ 0) (F_s_emit (σ 0)) (F_Z70 (σ 0)) g_0 g_1 level kids each one all ops memo) Q) : Tot (fun σ => F_s_fill (σ 0) g_0 g_1 level kids each one all ops memo) Q :=
  Tot.call (F := fun k => F_s_fill k g_0 g_1 level kids each one all ops memo) (B := fun k => B_s_fill k (F_s_emit k) (F_Z70 k) g_0 g_1 level kids each one all ops memo) (fun k => F_s_fill_succ k g_0 g_1 level kids each one all ops memo) h
abbrev A_s_fill_L1 (Z : Type) : Type := Int → List Int → Int → Int → (List (Int × Int)) → List Int → (List (Int × Int × List Int)) → Int → Int → Z
abbrev u_s_fill_L1 {Z : Type} (f : A_s_fill_L1 Z) (t : T_s_fill_L1) : Z := f t.1 t.2.1 t.2.2.1 t.2.2.2.1 t.2.2.2.2.1 t.2.2.2.2.2.1 t.2.2.2.2.2.2.1.1 t.2.2.2.2.2.2.1.2.1 t.2.2.2.2.2.2.2.1
theorem loop_s_fill_L1 {Q : A_s_fill_L1 ((((List (Int × Int)) × List Int × Unit) × (Unit)) → Prop)} (I : A_s_fill_L1 Prop) (μ : A_s_fill_L1 Nat)
    (step : ∀ a0 a1 a2 a3 a4 a5 a6 a7 a8, I a0 a1 a2 a3 a4 a5 a6 a7 a8 → ∀ again : (Nat → Nat) → T_s_fill_L1 → R_s_fill, Dep 2 again → (∀ y0 y1 y2 y3 y4 y5 y6 y7 y8, I y0 y1 y2 y3 y4 y5 y6 y7 y8 → μ y0 y1 y2 y3 y4 y5 y6 y7 y8 < μ a0 a1 a2 a3 a4 a5 a6 a7 a8 → Tot (fun σ => again σ (y0, y1, y2, y3, y4, y5, (y6, y7, ()), y8, ())) (Q y0 y1 y2 y3 y4 y5 y6 y7 y8)) →
      Tot (fun σ => B_s_fill_L1b (σ 0) (F_s_emit (σ 0)) (F_Z70 (σ 0)) (again σ) a0 a1 a2 a3 a4 a5 a6 a7 a8) (Q a0 a1 a2 a3 a4 a5 a6 a7 a8)) :
    ∀ a0 a1 a2 a3 a4 a5 a6 a7 a8, I a0 a1 a2 a3 a4 a5 a6 a7 a8 → Tot (fun σ => B_s_fill_L1 (σ 0) (F_s_emit (σ 0)) (F_Z70 (σ 0)) (σ 0) (a0, a1, a2, a3, a4, a5, (a6, a7, ()), a8, ())) (Q a0 a1 a2 a3 a4 a5 a6 a7 a8) := fun a0 a1 a2 a3 a4 a5 a6 a7 a8 => Tot.loop0 (L := fun k => B_s_fill_L1 k (F_s_emit k) (F_Z70 k)) (B := fun k g => u_s_fill_L1 (B_s_fill_L1b k (F_s_emit k) (F_Z70 k) g)) (Q := u_s_fill_L1 Q) (fun _ _ _ => rfl) (u_s_fill_L1 I) (u_s_fill_L1 μ)
    (fun t ht again hag h => step t.1 t.2.1 t.2.2.1 t.2.2.2.1 t.2.2.2.2.1 t.2.2.2.2.2.1 t.2.2.2.2.2.2.1.1 t.2.2.2.2.2.2.1.2.1 t.2.2.2.2.2.2.2.1 ht again hag fun y0 y1 y2 y3 y4 y5 y6 y7 y8 => h (y0, y1, y2, y3, y4, y5, (y6, y7, ()), y8, ())) (a0, a1, a2, a3, a4, a5, (a6, a7, ()), a8, ())
theorem F_s_save_succ (k : Nat) (g_0 : List (Int × Int × List Int)) (g_1 : Int) (level : Int) (at2 : Int) (ops : List (Int × Int)) (memo : List Int) : F_s_save (k + 1) g_0 g_1 level at2 ops memo = B_s_save k (F_s_emit k) (F_s_memoed k) (F_Z39 k) (F_s_fill k) (F_Z70 k) g_0 g_1 level at2 ops memo := by rw [F_s_save]
theorem tot_s_save {g_0 g_1 level at2 ops memo : _} {Q : _ → Prop} (h : Tot (fun σ => B_s_save (σ 0) (F_s_emit (σ 0)) (F_s_memoed (σ 0)) (F_Z39 (σ 0)) (F_s_fill (σ 0)) (F_Z70 (σ 0)) g_0 g_1 level at2 ops memo) Q) : Tot (fun σ => F_s_save (σ 0) g_0 g_1 level at2 ops memo) Q :=
  Tot.call (F := fun k => F_s_save k g_0 g_1 level at2 ops memo) (B := fun k => B_s_save k (F_s_emit k) (F_s_memoed k) (F_Z39 k) (F_s_fill k) (F_Z70 k) g_0 g_1 level at2 ops memo) (fun k => F_s_save_succ k g_0 g_1 level at2 ops memo) h
abbrev R_Z65 : Type := Option (((List (Int × Int)) × Unit) × (Unit))
abbrev C_Z65 : Type := (List (Int × Int × List Int)) → Int → Int → R_Z65
def B_Z65 (k : Nat) (c_Z44 : C_Z44) (c_s_save : C_s_save) (c_s_emit : C_s_emit) (g_0 : List (Int × Int × List Int)) (g_1 level : Int) : R_Z65 :=
  (c_Z44 g_0 g_1).bind fun r14 =>
  (c_s_save g_0 g_1 level g_1 ([]) r14.1.1).bind fun r15 =>
  (c_s_emit r15.1.1 ([(19, 0)])).bind fun r21 =>
  some ((r21.1.1, ()), ())
def F_Z65 : Nat → C_Z65
  | 0, _, _, _ => none
  | k + 1, g_0, g_1, level => B_Z65 k (F_Z44 k) (F_s_save k) (F_s_emit k) g_0 g_1 level
theorem tot_Z65 {g_0 g_1 level : _} {Q : _ → Prop} (h : Tot (fun σ => B_Z65 (σ 0) (F_Z44 (σ 0)) (F_s_save (σ 0)) (F_s_emit (σ 0)) g_0 g_1 level) Q) : Tot (fun σ => F_Z65 (σ 0) g_0 g_1 level) Q :=
  Tot.call (F := fun k => F_Z65 k g_0 g_1 level) (B := fun k => B_Z65 k (F_Z44 k) (F_s_save k) (F_s_emit k) g_0 g_1 level) (fun k => rfl) h
abbrev R_s_argOf : Type := Option ((Int × Unit) × (Unit))
abbrev C_s_argOf : Type := Int → R_s_argOf
def B_s_argOf_J0 (k : Nat) (t10 : Bool) : R_s_argOf :=
  bif t10 then
    some ((19, ()), ())
  else
    some (((-1), ()), ())
def B_s_argOf (k : Nat) (c : Int) : R_s_argOf :=
  bif (c == 0) then
    some ((999, ()), ())
  else
    bif (c == 1) then
      some ((9, ()), ())
    else
      bif (c == 13) then
        some ((9, ()), ())
      else
        bif (c == 15) then
          jn (fun t => B_s_argOf_J0 k t.1) ((c == 15), ())
        else
          jn (fun t => B_s_argOf_J0 k t.1) ((c == 16), ())
def F_s_argOf : Nat → C_s_argOf
  | 0, _ => none
  | k + 1, c => B_s_argOf k c
theorem tot_s_argOf {c : _} {Q : _ → Prop} (h : Tot (fun σ => B_s_argOf (σ 0) c) Q) : Tot (fun σ => F_s_argOf (σ 0) c) Q :=
  Tot.call (F := fun k => F_s_argOf k c) (B := fun k => B_s_argOf k c) (fun k => rfl) h
abbrev R_Z62 : Type := Option ((Bool × Unit) × (Unit))
abbrev C_Z62 : Type := Int → Int → R_Z62
def B_Z62 (k : Nat) (c_s_argOf : C_s_argOf) (c_Z56 : C_Z56) (o_0 o_1 : Int) : R_Z62 :=
  (c_s_argOf o_0).bind fun r6 =>
  (c_Z56 o_0 0 19).bind fun r9 =>
  bif r9.1.1 then
    bif decide (r6.1.1 < 0) then
      bif (o_1 == 0) then
        some ((true, ()), ())
      else
        bif decide (r6.1.1 ≥ 0) then
          (c_Z56 o_1 0 r6.1.1).bind fun r25 =>
          some ((r25.1.1, ()), ())
        else
          some ((false, ()), ())
    else
      bif decide (r6.1.1 ≥ 0) then
        (c_Z56 o_1 0 r6.1.1).bind fun r25 =>
        some ((r25.1.1, ()), ())
      else
        some ((false, ()), ())
  else
    some ((false, ()), ())
def F_Z62 : Nat → C_Z62
  | 0, _, _ => none
  | k + 1, o_0, o_1 => B_Z62 k (F_s_argOf k) (F_Z56 k) o_0 o_1
theorem tot_Z62 {o_0 o_1 : _} {Q : _ → Prop} (h : Tot (fun σ => B_Z62 (σ 0) (F_s_argOf (σ 0)) (F_Z56 (σ 0)) o_0 o_1) Q) : Tot (fun σ => F_Z62 (σ 0) o_0 o_1) Q :=
  Tot.call (F := fun k => F_Z62 k o_0 o_1) (B := fun k => B_Z62 k (F_s_argOf k) (F_Z56 k) o_0 o_1) (fun k => rfl) h
abbrev R_Z51 : Type := Option ((Bool × Unit) × (Unit))
abbrev C_Z51 : Type := (List (Int × Int)) → R_Z51
abbrev T_Z51_L0 : Type := (List (Int × Int)) × Int × Unit
def B_Z51_L0b (k : Nat) (c_Z62 : C_Z62) (again0 : T_Z51_L0 → R_Z51) (ops : List (Int × Int)) (i : Int) : R_Z51 :=
  bif decide (i < (len ops)) then
    chk (inb i ops.length) <|
    (c_Z62 ((rdx ((0 : Int), (0 : Int)) ops i).1) ((rdx ((0 : Int), (0 : Int)) ops i).2)).bind fun r14 =>
    bif (!r14.1.1) then
      some ((false, ()), ())
    else
      again0 (ops, w64 (i + 1), ())
  else
    some ((decide ((len ops) ≤ 300), ()), ())
def B_Z51_L0 (k : Nat) (c_Z62 : C_Z62) (n : Nat) (t : T_Z51_L0) : R_Z51 :=
  lfix n (fun again t => B_Z51_L0b k c_Z62 again t.1 t.2.1) t
def B_Z51 (k : Nat) (c_Z62 : C_Z62) (ops : List (Int × Int)) : R_Z51 :=
  B_Z51_L0 k c_Z62 k (ops, 0, ())
def F_Z51 : Nat → C_Z51
  | 0, _ => none
  | k + 1, ops => B_Z51 k (F_Z62 k) ops
theorem tot_Z51 {ops : _} {Q : _ → Prop} (h : Tot (fun σ => B_Z51 (σ 0) (F_Z62 (σ 0)) ops) Q) : Tot (fun σ => F_Z51 (σ 0) ops) Q :=
  Tot.call (F := fun k => F_Z51 k ops) (B := fun k => B_Z51 k (F_Z62 k) ops) (fun k => rfl) h
abbrev A_Z51_L0 (Z : Type) : Type := (List (Int × Int)) → Int → Z
abbrev u_Z51_L0 {Z : Type} (f : A_Z51_L0 Z) (t : T_Z51_L0) : Z := f t.1 t.2.1
theorem loop_Z51_L0 {Q : A_Z51_L0 (((Bool × Unit) × (Unit)) → Prop)} (I : A_Z51_L0 Prop) (μ : A_Z51_L0 Nat)
    (step : ∀ a0 a1, I a0 a1 → ∀ again : (Nat → Nat) → T_Z51_L0 → R_Z51, Dep 2 again → (∀ y0 y1, I y0 y1 → μ y0 y1 < μ a0 a1 → Tot (fun σ => again σ (y0, y1, ())) (Q y0 y1)) →
      Tot (fun σ => B_Z51_L0b (σ 0) (F_Z62 (σ 0)) (again σ) a0 a1) (Q a0 a1)) :
    ∀ a0 a1, I a0 a1 → Tot (fun σ => B_Z51_L0 (σ 0) (F_Z62 (σ 0)) (σ 0) (a0, a1, ())) (Q a0 a1) := fun a0 a1 => Tot.loop0 (L := fun k => B_Z51_L0 k (F_Z62 k)) (B := fun k g => u_Z51_L0 (B_Z51_L0b k (F_Z62 k) g)) (Q := u_Z51_L0 Q) (fun _ _ _ => rfl) (u_Z51_L0 I) (u_Z51_L0 μ)
    (fun t ht again hag h => step t.1 t.2.1 ht again hag fun y0 y1 => h (y0, y1, ())) (a0, a1, ())
abbrev R_Z28 : Type := Option (((Unit × Unit × List Int × Bool × Unit) × Unit) × (Unit))
abbrev C_Z28 : Type := R_Z28
abbrev T_Z28_L0 : Type := (Unit × Unit × Unit × Bool × Unit) × (Unit × Unit × List Int × Bool × Unit) × Int × Unit
def B_Z28_L0b (k : Nat) (again0 : T_Z28_L0 → R_Z28) (t0_Done : Bool) (m_Memo : List Int) (m_Done : Bool) (i : Int) : R_Z28 :=
  bif decide (i < 20) then
    chk (room m_Memo.length ([(-1)]).length) <|
    again0 (((), (), (), t0_Done, ()), ((), (), (m_Memo ++ [(-1)]), m_Done, ()), w64 (i + 1), ())
  else
    some ((((), (), m_Memo, m_Done, ()), ()), ())
def B_Z28_L0 (k : Nat) (n : Nat) (t : T_Z28_L0) : R_Z28 :=
  lfix n (fun again t => B_Z28_L0b k again t.1.2.2.2.1 t.2.1.2.2.1 t.2.1.2.2.2.1 t.2.2.1) t
def B_Z28 (k : Nat) : R_Z28 :=
  B_Z28_L0 k k (((), (), (), false, ()), ((), (), [], false, ()), 0, ())
def F_Z28 : Nat → C_Z28
  | 0 => none
  | k + 1 => B_Z28 k
theorem tot_Z28 {Q : _ → Prop} (h : Tot (fun σ => B_Z28 (σ 0)) Q) : Tot (fun σ => F_Z28 (σ 0)) Q :=
  Tot.call (F := fun k => F_Z28 k) (B := fun k => B_Z28 k) (fun k => rfl) h
abbrev A_Z28_L0 (Z : Type) : Type := Bool → List Int → Bool → Int → Z
abbrev u_Z28_L0 {Z : Type} (f : A_Z28_L0 Z) (t : T_Z28_L0) : Z := f t.1.2.2.2.1 t.2.1.2.2.1 t.2.1.2.2.2.1 t.2.2.1
theorem loop_Z28_L0 {Q : A_Z28_L0 ((((Unit × Unit × List Int × Bool × Unit) × Unit) × (Unit)) → Prop)} (I : A_Z28_L0 Prop) (μ : A_Z28_L0 Nat)
    (step : ∀ a0 a1 a2 a3, I a0 a1 a2 a3 → ∀ again : (Nat → Nat) → T_Z28_L0 → R_Z28, Dep 2 again → (∀ y0 y1 y2 y3, I y0 y1 y2 y3 → μ y0 y1 y2 y3 < μ a0 a1 a2 a3 → Tot (fun σ => again σ (((), (), (), y0, ()), ((), (), y1, y2, ()), y3, ())) (Q y0 y1 y2 y3)) →
      Tot (fun σ => B_Z28_L0b (σ 0) (again σ) a0 a1 a2 a3) (Q a0 a1 a2 a3)) :
    ∀ a0 a1 a2 a3, I a0 a1 a2 a3 → Tot (fun σ => B_Z28_L0 (σ 0) (σ 0) (((), (), (), a0, ()), ((), (), a1, a2, ()), a3, ())) (Q a0 a1 a2 a3) := fun a0 a1 a2 a3 => Tot.loop0 (L := fun k => B_Z28_L0 k) (B := fun k g => u_Z28_L0 (B_Z28_L0b k g)) (Q := u_Z28_L0 Q) (fun _ _ _ => rfl) (u_Z28_L0 I) (u_Z28_L0 μ)
    (fun t ht again hag h => step t.1.2.2.2.1 t.2.1.2.2.1 t.2.1.2.2.2.1 t.2.2.1 ht again hag fun y0 y1 y2 y3 => h (((), (), (), y0, ()), ((), (), y1, y2, ()), y3, ())) (((), (), (), a0, ()), ((), (), a1, a2, ()), a3, ())
abbrev R_Z20 : Type := Option ((((List (Int × Int × List Int)) × List Int × List Int × Bool × Unit) × Unit) × (Unit))
abbrev C_Z20 : Type := (List (Int × Int × List Int)) → List Int → List Int → Bool → R_Z20
abbrev T_Z20_L0 : Type := ((List (Int × Int × List Int)) × List Int × List Int × Bool × Unit) × (Unit × Unit × Unit × Bool × Unit) × ((List (Int × Int × List Int)) × List Int × List Int × Bool × Unit) × Int × Unit
def B_Z20_L0b (k : Nat) (c_Z48 : C_Z48) (again0 : T_Z20_L0 → R_Z20) (m_Nodes : List (Int × Int × List Int)) (m_Stack m_Memo : List Int) (m_Done t2_Done : Bool) (out_Nodes : List (Int × Int × List Int)) (out_Stack out_Memo : List Int) (out_Done : Bool) (i : Int) : R_Z20 :=
  bif decide (i < (len m_Nodes)) then
    chk (inb i m_Nodes.length) <|
    chk (inb i m_Nodes.length) <|
    chk (inb i m_Nodes.length) <|
    (c_Z48 (((rdx ((0 : Int), ((0 : Int), ([] : List Int))) m_Nodes i).2).2)).bind fun r41 =>
    chk (room out_Nodes.length ([((rdx ((0 : Int), ((0 : Int), ([] : List Int))) m_Nodes i).1, (((rdx ((0 : Int), ((0 : Int), ([] : List Int))) m_Nodes i).2).1, r41.1.1))]).length) <|
    again0 ((m_Nodes, m_Stack, m_Memo, m_Done, ()), ((), (), (), t2_Done, ()), ((out_Nodes ++ [((rdx ((0 : Int), ((0 : Int), ([] : List Int))) m_Nodes i).1, (((rdx ((0 : Int), ((0 : Int), ([] : List Int))) m_Nodes i).2).1, r41.1.1))]), out_Stack, out_Memo, out_Done, ()), w64 (i + 1), ())
  else
    some (((out_Nodes, out_Stack, out_Memo, out_Done, ()), ()), ())
def B_Z20_L0 (k : Nat) (c_Z48 : C_Z48) (n : Nat) (t : T_Z20_L0) : R_Z20 :=
  lfix n (fun again t => B_Z20_L0b k c_Z48 again t.1.1 t.1.2.1 t.1.2.2.1 t.1.2.2.2.1 t.2.1.2.2.2.1 t.2.2.1.1 t.2.2.1.2.1 t.2.2.1.2.2.1 t.2.2.1.2.2.2.1 t.2.2.2.1) t
def B_Z20 (k : Nat) (c_Z48 : C_Z48) (m_0 : List (Int × Int × List Int)) (m_1 m_2 : List Int) (m_3 : Bool) : R_Z20 :=
  (c_Z48 m_1).bind fun r7 =>
  (c_Z48 m_2).bind fun r10 =>
  B_Z20_L0 k c_Z48 k ((m_0, m_1, m_2, m_3, ()), ((), (), (), false, ()), ([], r7.1.1, r10.1.1, m_3, ()), 0, ())
def F_Z20 : Nat → C_Z20
  | 0, _, _, _, _ => none
  | k + 1, m_0, m_1, m_2, m_3 => B_Z20 k (F_Z48 k) m_0 m_1 m_2 m_3
theorem tot_Z20 {m_0 m_1 m_2 m_3 : _} {Q : _ → Prop} (h : Tot (fun σ => B_Z20 (σ 0) (F_Z48 (σ 0)) m_0 m_1 m_2 m_3) Q) : Tot (fun σ => F_Z20 (σ 0) m_0 m_1 m_2 m_3) Q :=
  Tot.call (F := fun k => F_Z20 k m_0 m_1 m_2 m_3) (B := fun k => B_Z20 k (F_Z48 k) m_0 m_1 m_2 m_3) (fun k => rfl) h
abbrev A_Z20_L0 (Z : Type) : Type := (List (Int × Int × List Int)) → List Int → List Int → Bool → Bool → (List (Int × Int × List Int)) → List Int → List Int → Bool → Int → Z
abbrev u_Z20_L0 {Z : Type} (f : A_Z20_L0 Z) (t : T_Z20_L0) : Z := f t.1.1 t.1.2.1 t.1.2.2.1 t.1.2.2.2.1 t.2.1.2.2.2.1 t.2.2.1.1 t.2.2.1.2.1 t.2.2.1.2.2.1 t.2.2.1.2.2.2.1 t.2.2.2.1
theorem loop_Z20_L0 {Q : A_Z20_L0 (((((List (Int × Int × List Int)) × List Int × List Int × Bool × Unit) × Unit) × (Unit)) → Prop)} (I : A_Z20_L0 Prop) (μ : A_Z20_L0 Nat)
    (step : ∀ a0 a1 a2 a3 a4 a5 a6 a7 a8 a9, I a0 a1 a2 a3 a4 a5 a6 a7 a8 a9 → ∀ again : (Nat → Nat) → T_Z20_L0 → R_Z20, Dep 2 again → (∀ y0 y1 y2 y3 y4 y5 y6 y7 y8 y9, I y0 y1 y2 y3 y4 y5 y6 y7 y8 y9 → μ y0 y1 y2 y3 y4 y5 y6 y7 y8 y9 < μ a0 a1 a2 a3 a4 a5 a6 a7 a8 a9 → Tot (fun σ => again σ ((y0, y1, y2, y3, ()), ((), (), (), y4, ()), (y5, y6, y7, y8, ()), y9, ())) (Q y0 y1 y2 y3 y4 y5 y6 y7 y8 y9)) →
      Tot (fun σ => B_Z20_L0b (σ 0) (F_Z48 (σ 0)) (again σ) a0 a1 a2 a3 a4 a5 a6 a7 a8 a9) (Q a0 a1 a2 a3 a4 a5 a6 a7 a8 a9)) :
    ∀ a0 a1 a2 a3 a4 a5 a6 a7 a8 a9, I a0 a1 a2 a3 a4 a5 a6 a7 a8 a9 → Tot (fun σ => B_Z20_L0 (σ 0) (F_Z48 (σ 0)) (σ 0) ((a0, a1, a2, a3, ()), ((), (), (), a4, ()), (a5, a6, a7, a8, ()), a9, ())) (Q a0 a1 a2 a3 a4 a5 a6 a7 a8 a9) := fun a0 a1 a2 a3 a4 a5 a6 a7 a8 a9 => Tot.loop0 (L := fun k => B_Z20_L0 k (F_Z48 k)) (B := fun k g => u_Z20_L0 (B_Z20_L0b k (F_Z48 k) g)) (Q := u_Z20_L0 Q) (fun _ _ _ => rfl) (u_Z20_L0 I) (u_Z20_L0 μ)
    (fun t ht again hag h => step t.1.1 t.1.2.1 t.1.2.2.1 t.1.2.2.2.1 t.2.1.2.2.2.1 t.2.2.1.1 t.2.2.1.2.1 t.2.2.1.2.2.1 t.2.2.1.2.2.2.1 t.2.2.2.1 ht again hag fun y0 y1 y2 y3 y4 y5 y6 y7 y8 y9 => h ((y0, y1, y2, y3, ()), ((), (), (), y4, ()), (y5, y6, y7, y8, ()), y9, ())) ((a0, a1, a2, a3, ()), ((), (), (), a4, ()), (a5, a6, a7, a8, ()), a9, ())
abbrev R_s_push : Type := Option ((((List (Int × Int × List Int)) × List Int × List Int × Bool × Unit) × Unit) × (Unit))
abbrev C_s_push : Type := (List (Int × Int × List Int)) → List Int → List Int → Bool → Int → Int → List Int → R_s_push
def B_s_push (k : Nat) (m_0 : List (Int × Int × List Int)) (m_1 m_2 : List Int) (m_3 : Bool) (n_0 n_1 : Int) (n_2 : List Int) : R_s_push :=
  chk (room m_0.length ([(n_0, (n_1, n_2))]).length) <|
  chk (room m_1.length ([w64 ((len (m_0 ++ [(n_0, (n_1, n_2))])) - 1)]).length) <|
  some ((((m_0 ++ [(n_0, (n_1, n_2))]), (m_1 ++ [w64 ((len (m_0 ++ [(n_0, (n_1, n_2))])) - 1)]), m_2, m_3, ()), ()), ())
def F_s_push : Nat → C_s_push
  | 0, _, _, _, _, _, _, _ => none
  | k + 1, m_0, m_1, m_2, m_3, n_0, n_1, n_2 => B_s_push k m_0 m_1 m_2 m_3 n_0 n_1 n_2
theorem tot_s_push {m_0 m_1 m_2 m_3 n_0 n_1 n_2 : _} {Q : _ → Prop} (h : Tot (fun σ => B_s_push (σ 0) m_0 m_1 m_2 m_3 n_0 n_1 n_2) Q) : Tot (fun σ => F_s_push (σ 0) m_0 m_1 m_2 m_3 n_0 n_1 n_2) Q :=
  Tot.call (F := fun k => F_s_push k m_0 m_1 m_2 m_3 n_0 n_1 n_2) (B := fun k => B_s_push k m_0 m_1 m_2 m_3 n_0 n_1 n_2) (fun k => rfl) h
abbrev R_s_markAt : Type := Option ((Int × Unit) × (Unit))
abbrev C_s_markAt : Type := (List (Int × Int × List Int)) → List Int → List Int → Bool → R_s_markAt
abbrev T_s_markAt_L0 : Type := ((List (Int × Int × List Int)) × List Int × List Int × Bool × Unit) × Int × Unit
def B_s_markAt_L0b (k : Nat) (again0 : T_s_markAt_L0 → R_s_markAt) (m_Nodes : List (Int × Int × List Int)) (m_Stack m_Memo : List Int) (m_Done : Bool) (i : Int) : R_s_markAt :=
  bif decide (i ≥ 0) then
    chk (inb i m_Stack.length) <|
    bif decide ((rdx (0 : Int) m_Stack i) < 0) then
      some ((i, ()), ())
    else
      again0 ((m_Nodes, m_Stack, m_Memo, m_Done, ()), w64 (i - 1), ())
  else
    some (((-1), ()), ())
def B_s_markAt_L0 (k : Nat) (n : Nat) (t : T_s_markAt_L0) : R_s_markAt :=
  lfix n (fun again t => B_s_markAt_L0b k again t.1.1 t.1.2.1 t.1.2.2.1 t.1.2.2.2.1 t.2.1) t
def B_s_markAt (k : Nat) (m_0 : List (Int × Int × List Int)) (m_1 m_2 : List Int) (m_3 : Bool) : R_s_markAt :=
  B_s_markAt_L0 k k ((m_0, m_1, m_2, m_3, ()), w64 ((len m_1) - 1), ())
def F_s_markAt : Nat → C_s_markAt
  | 0, _, _, _, _ => none
  | k + 1, m_0, m_1, m_2, m_3 => B_s_markAt k m_0 m_1 m_2 m_3
theorem tot_s_markAt {m_0 m_1 m_2 m_3 : _} {Q : _ → Prop} (h : Tot (fun σ => B_s_markAt (σ 0) m_0 m_1 m_2 m_3) Q) : Tot (fun σ => F_s_markAt (σ 0) m_0 m_1 m_2 m_3) Q :=
  Tot.call (F := fun k => F_s_markAt k m_0 m_1 m_2 m_3) (B := fun k => B_s_markAt k m_0 m_1 m_2 m_3) (fun k => rfl) h
abbrev A_s_markAt_L0 (Z : Type) : Type := (List (Int × Int × List Int)) → List Int → List Int → Bool → Int → Z
abbrev u_s_markAt_L0 {Z : Type} (f : A_s_markAt_L0 Z) (t : T_s_markAt_L0) : Z := f t.1.1 t.1.2.1 t.1.2.2.1 t.1.2.2.2.1 t.2.1
theorem loop_s_markAt_L0 {Q : A_s_markAt_L0 (((Int × Unit) × (Unit)) → Prop)} (I : A_s_markAt_L0 Prop) (μ : A_s_markAt_L0 Nat)
    (step : ∀ a0 a1 a2 a3 a4, I a0 a1 a2 a3 a4 → ∀ again : (Nat → Nat) → T_s_markAt_L0 → R_s_markAt, Dep 2 again → (∀ y0 y1 y2 y3 y4, I y0 y1 y2 y3 y4 → μ y0 y1 y2 y3 y4 < μ a0 a1 a2 a3 a4 → Tot (fun σ => again σ ((y0, y1, y2, y3, ()), y4, ())) (Q y0 y1 y2 y3 y4)) →
      Tot (fun σ => B_s_markAt_L0b (σ 0) (again σ) a0 a1 a2 a3 a4) (Q a0 a1 a2 a3 a4)) :
    ∀ a0 a1 a2 a3 a4, I a0 a1 a2 a3 a4 → Tot (fun σ => B_s_markAt_L0 (σ 0) (σ 0) ((a0, a1, a2, a3, ()), a4, ())) (Q a0 a1 a2 a3 a4) := fun a0 a1 a2 a3 a4 => Tot.loop0 (L := fun k => B_s_markAt_L0 k) (B := fun k g => u_s_markAt_L0 (B_s_markAt_L0b k g)) (Q := u_s_markAt_L0 Q) (fun _ _ _ => rfl) (u_s_markAt_L0 I) (u_s_markAt_L0 μ)
    (fun t ht again hag h => step t.1.1 t.1.2.1 t.1.2.2.1 t.1.2.2.2.1 t.2.1 ht again hag fun y0 y1 y2 y3 y4 => h ((y0, y1, y2, y3, ()), y4, ())) ((a0, a1, a2, a3, ()), a4, ())
abbrev R_s_drop : Type := Option ((((List (Int × Int × List Int)) × List Int × List Int × Bool × Unit) × Unit) × (Unit))
abbrev C_s_drop : Type := (List (Int × Int × List Int)) → List Int → List Int → Bool → Int → R_s_drop
def B_s_drop (k : Nat) (m_0 : List (Int × Int × List Int)) (m_1 m_2 : List Int) (m_3 : Bool) (many : Int) : R_s_drop :=
  chk (cutb 0 (w64 ((len m_1) - many)) m_1.length) <|
  some (((m_0, (m_1.take ((w64 ((len m_1) - many)).toNat)), m_2, m_3, ()), ()), ())
def F_s_drop : Nat → C_s_drop
  | 0, _, _, _, _, _ => none
  | k + 1, m_0, m_1, m_2, m_3, many => B_s_drop k m_0 m_1 m_2 m_3 many
theorem tot_s_drop {m_0 m_1 m_2 m_3 many : _} {Q : _ → Prop} (h : Tot (fun σ => B_s_drop (σ 0) m_0 m_1 m_2 m_3 many) Q) : Tot (fun σ => F_s_drop (σ 0) m_0 m_1 m_2 m_3 many) Q :=
  Tot.call (F := fun k => F_s_drop k m_0 m_1 m_2 m_3 many) (B := fun k => B_s_drop k m_0 m_1 m_2 m_3 many) (fun k => rfl) h
abbrev R_s_top : Type := Option ((Int × Unit) × (Unit))
abbrev C_s_top : Type := (List (Int × Int × List Int)) → List Int → List Int → Bool → Int → R_s_top
def B_s_top (k : Nat) (m_0 : List (Int × Int × List Int)) (m_1 m_2 : List Int) (m_3 : Bool) (deep : Int) : R_s_top :=
  bif decide ((w64 ((w64 ((len m_1) - 1)) - deep)) < 0) then
    some (((-1), ()), ())
  else
    chk (inb (w64 ((w64 ((len m_1) - 1)) - deep)) m_1.length) <|
    some (((rdx (0 : Int) m_1 (w64 ((w64 ((len m_1) - 1)) - deep))), ()), ())
def F_s_top : Nat → C_s_top
  | 0, _, _, _, _, _ => none
  | k + 1, m_0, m_1, m_2, m_3, deep => B_s_top k m_0 m_1 m_2 m_3 deep
theorem tot_s_top {m_0 m_1 m_2 m_3 deep : _} {Q : _ → Prop} (h : Tot (fun σ => B_s_top (σ 0) m_0 m_1 m_2 m_3 deep) Q) : Tot (fun σ => F_s_top (σ 0) m_0 m_1 m_2 m_3 deep) Q :=
  Tot.call (F := fun k => F_s_top k m_0 m_1 m_2 m_3 deep) (B := fun k => B_s_top k m_0 m_1 m_2 m_3 deep) (fun k => rfl) h
abbrev R_s_kindOf : Type := Option ((Int × Unit) × (Unit))
abbrev C_s_kindOf : Type := (List (Int × Int × List Int)) → List Int → List Int → Bool → Int → R_s_kindOf
def B_s_kindOf (k : Nat) (m_0 : List (Int × Int × List Int)) (m_1 m_2 : List Int) (m_3 : Bool) (at1 : Int) : R_s_kindOf :=
  bif decide (at1 < 0) then
    some (((-1), ()), ())
  else
    chk (inb at1 m_0.length) <|
    some (((rdx ((0 : Int), ((0 : Int), ([] : List Int))) m_0 at1).1, ()), ())
def F_s_kindOf : Nat → C_s_kindOf
  | 0, _, _, _, _, _ => none
  | k + 1, m_0, m_1, m_2, m_3, at1 => B_s_kindOf k m_0 m_1 m_2 m_3 at1
theorem tot_s_kindOf {m_0 m_1 m_2 m_3 at1 : _} {Q : _ → Prop} (h : Tot (fun σ => B_s_kindOf (σ 0) m_0 m_1 m_2 m_3 at1) Q) : Tot (fun σ => F_s_kindOf (σ 0) m_0 m_1 m_2 m_3 at1) Q :=
  Tot.call (F := fun k => F_s_kindOf k m_0 m_1 m_2 m_3 at1) (B := fun k => B_s_kindOf k m_0 m_1 m_2 m_3 at1) (fun k => rfl) h
abbrev R_Z52 : Type := Option ((Bool × Unit) × (Unit))
abbrev C_Z52 : Type := (List (Int × Int × List Int)) → List Int → List Int → Bool → List Int → R_Z52
abbrev T_Z52_L0 : Type := List Int × ((List (Int × Int × List Int)) × List Int × List Int × Bool × Unit) × Int × Unit
def B_Z52_L0b (k : Nat) (c_s_isKey : C_s_isKey) (again0 : T_Z52_L0 → R_Z52) (list : List Int) (m_Nodes : List (Int × Int × List Int)) (m_Stack m_Memo : List Int) (m_Done : Bool) (i : Int) : R_Z52 :=
  bif decide (i < (len list)) then
    chk (inb i list.length) <|
    chk (inb (rdx (0 : Int) list i) m_Nodes.length) <|
    (c_s_isKey ((rdx ((0 : Int), ((0 : Int), ([] : List Int))) m_Nodes (rdx (0 : Int) list i)).1) (((rdx ((0 : Int), ((0 : Int), ([] : List Int))) m_Nodes (rdx (0 : Int) list i)).2).1)).bind fun r20 =>
    bif (!r20.1.1) then
      some ((false, ()), ())
    else
      again0 (list, (m_Nodes, m_Stack, m_Memo, m_Done, ()), w64 (i + 2), ())
  else
    some (((((len list).tmod 2) == 0), ()), ())
def B_Z52_L0 (k : Nat) (c_s_isKey : C_s_isKey) (n : Nat) (t : T_Z52_L0) : R_Z52 :=
  lfix n (fun again t => B_Z52_L0b k c_s_isKey again t.1 t.2.1.1 t.2.1.2.1 t.2.1.2.2.1 t.2.1.2.2.2.1 t.2.2.1) t
def B_Z52 (k : Nat) (c_s_isKey : C_s_isKey) (m_0 : List (Int × Int × List Int)) (m_1 m_2 : List Int) (m_3 : Bool) (list : List Int) : R_Z52 :=
  B_Z52_L0 k c_s_isKey k (list, (m_0, m_1, m_2, m_3, ()), 0, ())
def F_Z52 : Nat → C_Z52
  | 0, _, _, _, _, _ => none
  | k + 1, m_0, m_1, m_2, m_3, list => B_Z52 k (F_s_isKey k) m_0 m_1 m_2 m_3 list
theorem tot_Z52 {m_0 m_1 m_2 m_3 list : _} {Q : _ → Prop} (h : Tot (fun σ => B_Z52 (σ 0) (F_s_isKey (σ 0)) m_0 m_1 m_2 m_3 list) Q) : Tot (fun σ => F_Z52 (σ 0) m_0 m_1 m_2 m_3 list) Q :=
  Tot.call (F := fun k => F_Z52 k m_0 m_1 m_2 m_3 list) (B := fun k => B_Z52 k (F_s_isKey k) m_0 m_1 m_2 m_3 list) (fun k => rfl) h
abbrev A_Z52_L0 (Z : Type) : Type := List Int → (List (Int × Int × List Int)) → List Int → List Int → Bool → Int → Z
abbrev u_Z52_L0 {Z : Type} (f : A_Z52_L0 Z) (t : T_Z52_L0) : Z := f t.1 t.2.1.1 t.2.1.2.1 t.2.1.2.2.1 t.2.1.2.2.2.1 t.2.2.1
theorem loop_Z52_L0 {Q : A_Z52_L0 (((Bool × Unit) × (Unit)) → Prop)} (I : A_Z52_L0 Prop) (μ : A_Z52_L0 Nat)
    (step : ∀ a0 a1 a2 a3 a4 a5, I a0 a1 a2 a3 a4 a5 → ∀ again : (Nat → Nat) → T_Z52_L0 → R_Z52, Dep 2 again → (∀ y0 y1 y2 y3 y4 y5, I y0 y1 y2 y3 y4 y5 → μ y0 y1 y2 y3 y4 y5 < μ a0 a1 a2 a3 a4 a5 → Tot (fun σ => again σ (y0, (y1, y2, y3, y4, ()), y5, ())) (Q y0 y1 y2 y3 y4 y5)) →
      Tot (fun σ => B_Z52_L0b (σ 0) (F_s_isKey (σ 0)) (again σ) a0 a1 a2 a3 a4 a5) (Q a0 a1 a2 a3 a4 a5)) :
    ∀ a0 a1 a2 a3 a4 a5, I a0 a1 a2 a3 a4 a5 → Tot (fun σ => B_Z52_L0 (σ 0) (F_s_isKey (σ 0)) (σ 0) (a0, (a1, a2, a3, a4, ()), a5, ())) (Q a0 a1 a2 a3 a4 a5) := fun a0 a1 a2 a3 a4 a5 => Tot.loop0 (L := fun k => B_Z52_L0 k (F_s_isKey k)) (B := fun k g => u_Z52_L0 (B_Z52_L0b k (F_s_isKey k) g)) (Q := u_Z52_L0 Q) (fun _ _ _ => rfl) (u_Z52_L0 I) (u_Z52_L0 μ)
    (fun t ht again hag h => step t.1 t.2.1.1 t.2.1.2.1 t.2.1.2.2.1 t.2.1.2.2.2.1 t.2.2.1 ht again hag fun y0 y1 y2 y3 y4 y5 => h (y0, (y1, y2, y3, y4, ()), y5, ())) (a0, (a1, a2, a3, a4, ()), a5, ())
abbrev R_Z69 : Type := Option ((((List (Int × Int × List Int)) × List Int × List Int × Bool × Unit) × Unit) × (Unit))
abbrev C_Z69 : Type := (List (Int × Int × List Int)) → List Int → List Int → Bool → Int → Int → Int → R_Z69
abbrev T_Z69_L0 : Type := Int × Int × Int × (Unit × Unit × Unit × Bool × Unit) × List Int × Int × ((List (Int × Int × List Int) × Nat) × List Int × List Int × Bool × Unit) × Unit
def B_Z69_L0b (k : Nat) (c_Z55 : C_Z55) (again0 : T_Z69_L0 → R_Z69) (dict key value : Int) (t8_Done : Bool) (kids : List Int) (i : Int) (m_Nodes : List (Int × Int × List Int) × Nat) (m_Stack m_Memo : List Int) (m_Done : Bool) : R_Z69 :=
  bif decide (i < (len kids)) then
    chk (inb i kids.length) <|
    chk (decide (i.toNat < kids.length)) <|
    chk (inb (kids.getD i.toNat (0 : Int)) m_Nodes.1.length) <|
    chk (decide ((kids.getD i.toNat (0 : Int)).toNat < m_Nodes.1.length)) <|
    chk (inb key m_Nodes.1.length) <|
    chk (decide (key.toNat < m_Nodes.1.length)) <|
    (c_Z55 ((m_Nodes.1.getD ((kids.getD i.toNat (0 : Int)).toNat) ((0 : Int), ((0 : Int), ([] : List Int)))).1) (((m_Nodes.1.getD ((kids.getD i.toNat (0 : Int)).toNat) ((0 : Int), ((0 : Int), ([] : List Int)))).2).1) ((m_Nodes.1.getD key.toNat ((0 : Int), ((0 : Int), ([] : List Int)))).1) (((m_Nodes.1.getD key.toNat ((0 : Int), ((0 : Int), ([] : List Int)))).2).1)).bind fun r36 =>
    bif r36.1.1 then
      chk (inb (w64 (i + 1)) kids.length) <|
      chk (decide ((w64 (i + 1)).toNat < kids.length)) <|
      some ((((m_Nodes.1.set m_Nodes.2 ((m_Nodes.1.getD m_Nodes.2 ((0 : Int), ((0 : Int), ([] : List Int)))).1, (((m_Nodes.1.getD m_Nodes.2 ((0 : Int), ((0 : Int), ([] : List Int)))).2).1, (kids.set ((w64 (i + 1)).toNat) value)))), m_Stack, m_Memo, m_Done, ()), ()), ())
    else
      again0 (dict, key, value, ((), (), (), t8_Done, ()), kids, w64 (i + 2), ((m_Nodes.1, m_Nodes.2), m_Stack, m_Memo, m_Done, ()), ())
  else
    chk (room kids.length ([key, value]).length) <|
    chk (inb dict m_Nodes.1.length) <|
    chk (decide (dict.toNat = m_Nodes.2)) <|
    some ((((m_Nodes.1.set dict.toNat ((m_Nodes.1.getD dict.toNat ((0 : Int), ((0 : Int), ([] : List Int)))).1, (((m_Nodes.1.getD dict.toNat ((0 : Int), ((0 : Int), ([] : List Int)))).2).1, (kids ++ [key, value])))), m_Stack, m_Memo, m_Done, ()), ()), ())
def B_Z69_L0 (k : Nat) (c_Z55 : C_Z55) (n : Nat) (t : T_Z69_L0) : R_Z69 :=
  lfix n (fun again t => B_Z69_L0b k c_Z55 again t.1 t.2.1 t.2.2.1 t.2.2.2.1.2.2.2.1 t.2.2.2.2.1 t.2.2.2.2.2.1 t.2.2.2.2.2.2.1.1 t.2.2.2.2.2.2.1.2.1 t.2.2.2.2.2.2.1.2.2.1 t.2.2.2.2.2.2.1.2.2.2.1) t
def B_Z69 (k : Nat) (c_Z55 : C_Z55) (m_0 : List (Int × Int × List Int)) (m_1 m_2 : List Int) (m_3 : Bool) (dict key value : Int) : R_Z69 :=
  chk (inb dict m_0.length) <|
  chk (decide (dict.toNat < m_0.length)) <|
  B_Z69_L0 k c_Z55 k (dict, key, value, ((), (), (), false, ()), ((m_0.getD dict.toNat ((0 : Int), ((0 : Int), ([] : List Int)))).2).2, 0, ((m_0, dict.toNat), m_1, m_2, m_3, ()), ())
def F_Z69 : Nat → C_Z69
  | 0, _, _, _, _, _, _, _ => none
  | k + 1, m_0, m_1, m_2, m_3, dict, key, value => B_Z69 k (F_Z55 k) m_0 m_1 m_2 m_3 dict key value
theorem tot_Z69 {m_0 m_1 m_2 m_3 dict key value : _} {Q : _ → Prop} (h : Tot (fun σ => B_Z69 (σ 0) (F_Z55 (σ 0)) m_0 m_1 m_2 m_3 dict key value) Q) : Tot (fun σ => F_Z69 (σ 0) m_0 m_1 m_2 m_3 dict key value) Q :=
  Tot.call (F := fun k => F_Z69 k m_0 m_1 m_2 m_3 dict key value) (B := fun k => B_Z69 k (F_Z55 k) m_0 m_1 m_2 m_3 dict key value) (fun k => rfl) h
abbrev A_Z69_L0 (Z : Type) : Type := Int → Int → Int → Bool → List Int → Int → (List (Int × Int × List Int) × Nat) → List Int → List Int → Bool → Z
abbrev u_Z69_L0 {Z : Type} (f : A_Z69_L0 Z) (t : T_Z69_L0) : Z := f t.1 t.2.1 t.2.2.1 t.2.2.2.1.2.2.2.1 t.2.2.2.2.1 t.2.2.2.2.2.1 t.2.2.2.2.2.2.1.1 t.2.2.2.2.2.2.1.2.1 t.2.2.2.2.2.2.1.2.2.1 t.2.2.2.2.2.2.1.2.2.2.1
theorem loop_Z69_L0 {Q : A_Z69_L0 (((((List (Int × Int × List Int)) × List Int × List Int × Bool × Unit) × Unit) × (Unit)) → Prop)} (I : A_Z69_L0 Prop) (μ : A_Z69_L0 Nat)
    (step : ∀ a0 a1 a2 a3 a4 a5 a6 a7 a8 a9, I a0 a1 a2 a3 a4 a5 a6 a7 a8 a9 → ∀ again : (Nat → Nat) → T_Z69_L0 → R_Z69, Dep 2 again → (∀ y0 y1 y2 y3 y4 y5 y6 y7 y8 y9, I y0 y1 y2 y3 y4 y5 y6 y7 y8 y9 → μ y0 y1 y2 y3 y4 y5 y6 y7 y8 y9 < μ a0 a1 a2 a3 a4 a5 a6 a7 a8 a9 → Tot (fun σ => again σ (y0, y1, y2, ((), (), (), y3, ()), y4, y5, (y6, y7, y8, y9, ()), ())) (Q y0 y1 y2 y3 y4 y5 y6 y7 y8 y9)) →
      Tot (fun σ => B_Z69_L0b (σ 0) (F_Z55 (σ 0)) (again σ) a0 a1 a2 a3 a4 a5 a6 a7 a8 a9) (Q a0 a1 a2 a3 a4 a5 a6 a7 a8 a9)) :
    ∀ a0 a1 a2 a3 a4 a5 a6 a7 a8 a9, I a0 a1 a2 a3 a4 a5 a6 a7 a8 a9 → Tot (fun σ => B_Z69_L0 (σ 0) (F_Z55 (σ 0)) (σ 0) (a0, a1, a2, ((), (), (), a3, ()), a4, a5, (a6, a7, a8, a9, ()), ())) (Q a0 a1 a2 a3 a4 a5 a6 a7 a8 a9) := fun a0 a1 a2 a3 a4 a5 a6 a7 a8 a9 => Tot.loop0 (L := fun k => B_Z69_L0 k (F_Z55 k)) (B := fun k g => u_Z69_L0 (B_Z69_L0b k (F_Z55 k) g)) (Q := u_Z69_L0 Q) (fun _ _ _ => rfl) (u_Z69_L0 I) (u_Z69_L0 μ)
    (fun t ht again hag h => step t.1 t.2.1 t.2.2.1 t.2.2.2.1.2.2.2.1 t.2.2.2.2.1 t.2.2.2.2.2.1 t.2.2.2.2.2.2.1.1 t.2.2.2.2.2.2.1.2.1 t.2.2.2.2.2.2.1.2.2.1 t.2.2.2.2.2.2.1.2.2.2.1 ht again hag fun y0 y1 y2 y3 y4 y5 y6 y7 y8 y9 => h (y0, y1, y2, ((), (), (), y3, ()), y4, y5, (y6, y7, y8, y9, ()), ())) (a0, a1, a2, ((), (), (), a3, ()), a4, a5, (a6, a7, a8, a9, ()), ())
abbrev R_Z53 : Type := Option ((((List (Int × Int × List Int)) × List Int × List Int × Bool × Unit) × Bool × Unit) × (Unit))
abbrev C_Z53 : Type := (List (Int × Int × List Int)) → List Int → List Int → Bool → Int → Int → R_Z53
abbrev T_Z53_L1 : Type := ((List (Int × Int × List Int)) × List Int × List Int × Bool × Unit) × (Unit × Unit × Unit × Bool × Unit) × List Int × Int × Int × Unit
def B_Z53_J2 (k : Nat) (c_s_markAt : C_s_markAt) (c_Z48 : C_Z48) (c_s_drop : C_s_drop) (c_s_top : C_s_top) (c_s_push : C_s_push) (c_s_kindOf : C_s_kindOf) (c_Z52 : C_Z52) (c_Z69 : C_Z69) (m_Nodes : List (Int × Int × List Int)) (m_Stack m_Memo : List Int) (m_Done t4_Done : Bool) : R_Z53 :=
  some (((m_Nodes, m_Stack, m_Memo, m_Done, ()), true, ()), ())
def B_Z53_L1b (k : Nat) (c_s_markAt : C_s_markAt) (c_Z48 : C_Z48) (c_s_drop : C_s_drop) (c_s_top : C_s_top) (c_s_push : C_s_push) (c_s_kindOf : C_s_kindOf) (c_Z52 : C_Z52) (c_Z69 : C_Z69) (again1 : T_Z53_L1 → R_Z53) (m_Nodes : List (Int × Int × List Int)) (m_Stack m_Memo : List Int) (m_Done t4_Done : Bool) (list : List Int) (below i : Int) : R_Z53 :=
  bif decide (i < (len list)) then
    chk (inb i list.length) <|
    chk (decide (i.toNat < list.length)) <|
    chk (inb (w64 (i + 1)) list.length) <|
    chk (decide ((w64 (i + 1)).toNat < list.length)) <|
    (c_Z69 m_Nodes m_Stack m_Memo m_Done below (list.getD i.toNat (0 : Int)) (list.getD ((w64 (i + 1)).toNat) (0 : Int))).bind fun r86 =>
    again1 ((r86.1.1.1, r86.1.1.2.1, r86.1.1.2.2.1, r86.1.1.2.2.2.1, ()), ((), (), (), t4_Done, ()), list, below, w64 (i + 2), ())
  else
    jn (fun t => B_Z53_J2 k c_s_markAt c_Z48 c_s_drop c_s_top c_s_push c_s_kindOf c_Z52 c_Z69 t.1.1 t.1.2.1 t.1.2.2.1 t.1.2.2.2.1 t.2.1.2.2.2.1) ((m_Nodes, m_Stack, m_Memo, m_Done, ()), ((), (), (), t4_Done, ()), ())
def B_Z53_L1 (k : Nat) (c_s_markAt : C_s_markAt) (c_Z48 : C_Z48) (c_s_drop : C_s_drop) (c_s_top : C_s_top) (c_s_push : C_s_push) (c_s_kindOf : C_s_kindOf) (c_Z52 : C_Z52) (c_Z69 : C_Z69) (n : Nat) (t : T_Z53_L1) : R_Z53 :=
  lfix n (fun again t => B_Z53_L1b k c_s_markAt c_Z48 c_s_drop c_s_top c_s_push c_s_kindOf c_Z52 c_Z69 again t.1.1 t.1.2.1 t.1.2.2.1 t.1.2.2.2.1 t.2.1.2.2.2.1 t.2.2.1 t.2.2.2.1 t.2.2.2.2.1) t
def B_Z53_J0 (k : Nat) (c_s_markAt : C_s_markAt) (c_Z48 : C_Z48) (c_s_drop : C_s_drop) (c_s_top : C_s_top) (c_s_push : C_s_push) (c_s_kindOf : C_s_kindOf) (c_Z52 : C_Z52) (c_Z69 : C_Z69) (m_Nodes : List (Int × Int × List Int)) (m_Stack m_Memo : List Int) (m_Done t4_Done : Bool) (list : List Int) (below : Int) (t67 : Bool) : R_Z53 :=
  bif t67 then
    some (((m_Nodes, m_Stack, m_Memo, m_Done, ()), false, ()), ())
  else
    B_Z53_L1 k c_s_markAt c_Z48 c_s_drop c_s_top c_s_push c_s_kindOf c_Z52 c_Z69 k ((m_Nodes, m_Stack, m_Memo, m_Done, ()), ((), (), (), t4_Done, ()), list, below, 0, ())
def B_Z53 (k : Nat) (c_s_markAt : C_s_markAt) (c_Z48 : C_Z48) (c_s_drop : C_s_drop) (c_s_top : C_s_top) (c_s_push : C_s_push) (c_s_kindOf : C_s_kindOf) (c_Z52 : C_Z52) (c_Z69 : C_Z69) (m_0 : List (Int × Int × List Int)) (m_1 m_2 : List Int) (m_3 : Bool) (o_0 o_1 : Int) : R_Z53 :=
  (c_s_markAt m_0 m_1 m_2 m_3).bind fun r11 =>
  bif decide (r11.1.1 < 0) then
    some (((m_0, m_1, m_2, m_3, ()), false, ()), ())
  else
    chk (cutb (w64 (r11.1.1 + 1)) (len m_1) m_1.length) <|
    (c_Z48 ((m_1.take ((len m_1).toNat)).drop ((w64 (r11.1.1 + 1)).toNat))).bind fun r20 =>
    (c_s_drop m_0 m_1 m_2 m_3 (w64 ((len r20.1.1) + 1))).bind fun r25 =>
    (c_s_top r25.1.1.1 r25.1.1.2.1 r25.1.1.2.2.1 r25.1.1.2.2.2.1 0).bind fun r27 =>
    bif (o_0 == 3) then
      (c_s_push r25.1.1.1 r25.1.1.2.1 r25.1.1.2.2.1 r25.1.1.2.2.2.1 2 0 r20.1.1).bind fun r35 =>
      some (((r35.1.1.1, r35.1.1.2.1, r35.1.1.2.2.1, r35.1.1.2.2.2.1, ()), true, ()), ())
    else
      bif (o_0 == 9) then
        (c_s_kindOf r25.1.1.1 r25.1.1.2.1 r25.1.1.2.2.1 r25.1.1.2.2.2.1 r27.1.1).bind fun r40 =>
        bif (r40.1.1 != 3) then
          some (((r25.1.1.1, r25.1.1.2.1, r25.1.1.2.2.1, r25.1.1.2.2.2.1, ()), false, ()), ())
        else
          chk (inb r27.1.1 r25.1.1.1.length) <|
          chk (decide (r27.1.1.toNat < r25.1.1.1.length)) <|
          chk (room (((r25.1.1.1.getD r27.1.1.toNat ((0 : Int), ((0 : Int), ([] : List Int)))).2).2).length r20.1.1.length) <|
          chk (inb r27.1.1 r25.1.1.1.length) <|
          chk (decide (r27.1.1.toNat = r27.1.1.toNat)) <|
          let w1 : List (Int × Int × List Int) := (r25.1.1.1.set r27.1.1.toNat ((r25.1.1.1.getD r27.1.1.toNat ((0 : Int), ((0 : Int), ([] : List Int)))).1, (((r25.1.1.1.getD r27.1.1.toNat ((0 : Int), ((0 : Int), ([] : List Int)))).2).1, (((r25.1.1.1.getD r27.1.1.toNat ((0 : Int), ((0 : Int), ([] : List Int)))).2).2 ++ r20.1.1))))
          jn (fun t => B_Z53_J2 k c_s_markAt c_Z48 c_s_drop c_s_top c_s_push c_s_kindOf c_Z52 c_Z69 t.1.1 t.1.2.1 t.1.2.2.1 t.1.2.2.2.1 t.2.1.2.2.2.1) ((w1, r25.1.1.2.1, r25.1.1.2.2.1, r25.1.1.2.2.2.1, ()), ((), (), (), false, ()), ())
      else
        bif (o_0 == 12) then
          (c_s_kindOf r25.1.1.1 r25.1.1.2.1 r25.1.1.2.2.1 r25.1.1.2.2.2.1 r27.1.1).bind fun r60 =>
          bif (r60.1.1 != 4) then
            jn (fun t => B_Z53_J0 k c_s_markAt c_Z48 c_s_drop c_s_top c_s_push c_s_kindOf c_Z52 c_Z69 t.1.1 t.1.2.1 t.1.2.2.1 t.1.2.2.2.1 t.2.1.2.2.2.1 t.2.2.1 t.2.2.2.1 t.2.2.2.2.1) ((r25.1.1.1, r25.1.1.2.1, r25.1.1.2.2.1, r25.1.1.2.2.2.1, ()), ((), (), (), false, ()), r20.1.1, r27.1.1, true, ())
          else
            (c_Z52 r25.1.1.1 r25.1.1.2.1 r25.1.1.2.2.1 r25.1.1.2.2.2.1 r20.1.1).bind fun r65 =>
            jn (fun t => B_Z53_J0 k c_s_markAt c_Z48 c_s_drop c_s_top c_s_push c_s_kindOf c_Z52 c_Z69 t.1.1 t.1.2.1 t.1.2.2.1 t.1.2.2.2.1 t.2.1.2.2.2.1 t.2.2.1 t.2.2.2.1 t.2.2.2.2.1) ((r25.1.1.1, r25.1.1.2.1, r25.1.1.2.2.1, r25.1.1.2.2.2.1, ()), ((), (), (), false, ()), r20.1.1, r27.1.1, (!r65.1.1), ())
        else
          jn (fun t => B_Z53_J2 k c_s_markAt c_Z48 c_s_drop c_s_top c_s_push c_s_kindOf c_Z52 c_Z69 t.1.1 t.1.2.1 t.1.2.2.1 t.1.2.2.2.1 t.2.1.2.2.2.1) ((r25.1.1.1, r25.1.1.2.1, r25.1.1.2.2.1, r25.1.1.2.2.2.1, ()), ((), (), (), false, ()), ())
def F_Z53 : Nat → C_Z53
  | 0, _, _, _, _, _, _ => none
  | k + 1, m_0, m_1, m_2, m_3, o_0, o_1 => B_Z53 k (F_s_markAt k) (F_Z48 k) (F_s_drop k) (F_s_top k) (F_s_push k) (F_s_kindOf k) (F_Z52 k) (F_Z69 k) m_0 m_1 m_2 m_3 o_0 o_1
theorem tot_Z53 {m_0 m_1 m_2 m_3 o_0 o_1 : _} {Q : _ → Prop} (h : Tot (fun σ => B_Z53 (σ 0) (F_s_markAt (σ 0)) (F_Z48 (σ 0)) (F_s_drop (σ 0)) (F_s_top (σ 0)) (F_s_push (σ 0)) (F_s_kindOf (σ 0)) (F_Z52 (σ 0)) (F_Z69 (σ 0)) m_0 m_1 m_2 m_3 o_0 o_1) Q) : Tot (fun σ => F_Z53 (σ 0) m_0 m_1 m_2 m_3 o_0 o_1) Q :=
  Tot.call (F := fun k => F_Z53 k m_0 m_1 m_2 m_3 o_0 o_1) (B := fun k => B_Z53 k (F_s_markAt k) (F_Z48 k) (F_s_drop k) (F_s_top k) (F_s_push k) (F_s_kindOf k) (F_Z52 k) (F_Z69 k) m_0 m_1 m_2 m_3 o_0 o_1) (fun k => rfl) h
abbrev A_Z53_L1 (Z : Type) : Type := (List (Int × Int × List Int)) → List Int → List Int → Bool → Bool → List Int → Int → Int → Z
abbrev u_Z53_L1 {Z : Type} (f : A_Z53_L1 Z) (t : T_Z53_L1) : Z := f t.1.1 t.1.2.1 t.1.2.2.1 t.1.2.2.2.1 t.2.1.2.2.2.1 t.2.2.1 t.2.2.2.1 t.2.2.2.2.1
theorem loop_Z53_L1 {Q : A_Z53_L1 (((((List (Int × Int × List Int)) × List Int × List Int × Bool × Unit) × Bool × Unit) × (Unit)) → Prop)} (I : A_Z53_L1 Prop) (μ : A_Z53_L1 Nat)
    (step : ∀ a0 a1 a2 a3 a4 a5 a6 a7, I a0 a1 a2 a3 a4 a5 a6 a7 → ∀ again : (Nat → Nat) → T_Z53_L1 → R_Z53, Dep 2 again → (∀ y0 y1 y2 y3 y4 y5 y6 y7, I y0 y1 y2 y3 y4 y5 y6 y7 → μ y0 y1 y2 y3 y4 y5 y6 y7 < μ a0 a1 a2 a3 a4 a5 a6 a7 → Tot (fun σ => again σ ((y0, y1, y2, y3, ()), ((), (), (), y4, ()), y5, y6, y7, ())) (Q y0 y1 y2 y3 y4 y5 y6 y7)) →
      Tot (fun σ => B_Z53_L1b (σ 0) (F_s_markAt (σ 0)) (F_Z48 (σ 0)) (F_s_drop (σ 0)) (F_s_top (σ 0)) (F_s_push (σ 0)) (F_s_kindOf (σ 0)) (F_Z52 (σ 0)) (F_Z69 (σ 0)) (again σ) a0 a1 a2 a3 a4 a5 a6 a7) (Q a0 a1 a2 a3 a4 a5 a6 a7)) :
    ∀ a0 a1 a2 a3 a4 a5 a6 a7, I a0 a1 a2 a3 a4 a5 a6 a7 → Tot (fun σ => B_Z53_L1 (σ 0) (F_s_markAt (σ 0)) (F_Z48 (σ 0)) (F_s_drop (σ 0)) (F_s_top (σ 0)) (F_s_push (σ 0)) (F_s_kindOf (σ 0)) (F_Z52 (σ 0)) (F_Z69 (σ 0)) (σ 0) ((a0, a1, a2, a3, ()), ((), (), (), a4, ()), a5, a6, a7, ())) (Q a0 a1 a2 a3 a4 a5 a6 a7) := fun a0 a1 a2 a3 a4 a5 a6 a7 => Tot.loop0 (L := fun k => B_Z53_L1 k (F_s_markAt k) (F_Z48 k) (F_s_drop k) (F_s_top k) (F_s_push k) (F_s_kindOf k) (F_Z52 k) (F_Z69 k)) (B := fun k g => u_Z53_L1 (B_Z53_L1b k (F_s_markAt k) (F_Z48 k) (F_s_drop k) (F_s_top k) (F_s_push k) (F_s_kindOf k) (F_Z52 k) (F_Z69 k) g)) (Q := u_Z53_L1 Q) (fun _ _ _ => rfl) (u_Z53_L1 I) (u_Z53_L1 μ)
    (fun t ht again hag h => step t.1.1 t.1.2.1 t.1.2.2.1 t.1.2.2.2.1 t.2.1.2.2.2.1 t.2.2.1 t.2.2.2.1 t.2.2.2.2.1 ht again hag fun y0 y1 y2 y3 y4 y5 y6 y7 => h ((y0, y1, y2, y3, ()), ((), (), (), y4, ()), y5, y6, y7, ())) ((a0, a1, a2, a3, ()), ((), (), (), a4, ()), a5, a6, a7, ())
abbrev R_Z60 : Type := Option ((((List (Int × Int × List Int)) × List Int × List Int × Bool × Unit) × Bool × Unit) × (Unit))
abbrev C_Z60 : Type := (List (Int × Int × List Int)) → List Int → List Int → Bool → Int → Int → R_Z60
def B_Z60_J0 (k : Nat) (c_s_top : C_s_top) (c_s_drop : C_s_drop) (c_s_push : C_s_push) (c_s_kindOf : C_s_kindOf) (c_s_isKey : C_s_isKey) (c_Z69 : C_Z69) (m_Nodes : List (Int × Int × List Int)) (m_Stack m_Memo : List Int) (m_Done t4_Done : Bool) (a b c : Int) (t81 : Bool) : R_Z60 :=
  bif t81 then
    some (((m_Nodes, m_Stack, m_Memo, m_Done, ()), false, ()), ())
  else
    (c_Z69 m_Nodes m_Stack m_Memo m_Done c b a).bind fun r87 =>
    (c_s_drop r87.1.1.1 r87.1.1.2.1 r87.1.1.2.2.1 r87.1.1.2.2.2.1 2).bind fun r88 =>
    some (((r88.1.1.1, r88.1.1.2.1, r88.1.1.2.2.1, r88.1.1.2.2.2.1, ()), true, ()), ())
def B_Z60_J1 (k : Nat) (c_s_top : C_s_top) (c_s_drop : C_s_drop) (c_s_push : C_s_push) (c_s_kindOf : C_s_kindOf) (c_s_isKey : C_s_isKey) (c_Z69 : C_Z69) (m_Nodes : List (Int × Int × List Int)) (m_Stack m_Memo : List Int) (m_Done t4_Done : Bool) (a b : Int) (t104 : Bool) : R_Z60 :=
  bif t104 then
    some (((m_Nodes, m_Stack, m_Memo, m_Done, ()), false, ()), ())
  else
    chk (inb b m_Nodes.length) <|
    chk (decide (b.toNat < m_Nodes.length)) <|
    (c_s_drop (m_Nodes.set b.toNat ((m_Nodes.getD b.toNat ((0 : Int), ((0 : Int), ([] : List Int)))).1, (((m_Nodes.getD b.toNat ((0 : Int), ((0 : Int), ([] : List Int)))).2).1, [a]))) m_Stack m_Memo m_Done 1).bind fun r114 =>
    some (((r114.1.1.1, r114.1.1.2.1, r114.1.1.2.2.1, r114.1.1.2.2.2.1, ()), true, ()), ())
def B_Z60 (k : Nat) (c_s_top : C_s_top) (c_s_drop : C_s_drop) (c_s_push : C_s_push) (c_s_kindOf : C_s_kindOf) (c_s_isKey : C_s_isKey) (c_Z69 : C_Z69) (m_0 : List (Int × Int × List Int)) (m_1 m_2 : List Int) (m_3 : Bool) (o_0 o_1 : Int) : R_Z60 :=
  (c_s_top m_0 m_1 m_2 m_3 0).bind fun r10 =>
  (c_s_top m_0 m_1 m_2 m_3 1).bind fun r12 =>
  (c_s_top m_0 m_1 m_2 m_3 2).bind fun r14 =>
  bif decide (r10.1.1 < 0) then
    some (((m_0, m_1, m_2, m_3, ()), false, ()), ())
  else
    bif (o_0 == 5) then
      (c_s_drop m_0 m_1 m_2 m_3 1).bind fun r23 =>
      (c_s_push r23.1.1.1 r23.1.1.2.1 r23.1.1.2.2.1 r23.1.1.2.2.2.1 2 0 ([r10.1.1])).bind fun r27 =>
      some (((r27.1.1.1, r27.1.1.2.1, r27.1.1.2.2.1, r27.1.1.2.2.2.1, ()), true, ()), ())
    else
      bif (o_0 == 6) then
        bif decide (r12.1.1 < 0) then
          some (((m_0, m_1, m_2, m_3, ()), false, ()), ())
        else
          (c_s_drop m_0 m_1 m_2 m_3 2).bind fun r34 =>
          (c_s_push r34.1.1.1 r34.1.1.2.1 r34.1.1.2.2.1 r34.1.1.2.2.2.1 2 0 ([r12.1.1, r10.1.1])).bind fun r39 =>
          some (((r39.1.1.1, r39.1.1.2.1, r39.1.1.2.2.1, r39.1.1.2.2.2.1, ()), true, ()), ())
      else
        bif (o_0 == 8) then
          (c_s_kindOf m_0 m_1 m_2 m_3 r12.1.1).bind fun r44 =>
          bif (r44.1.1 != 3) then
            some (((m_0, m_1, m_2, m_3, ()), false, ()), ())
          else
            chk (inb r12.1.1 m_0.length) <|
            chk (decide (r12.1.1.toNat < m_0.length)) <|
            chk (room (((m_0.getD r12.1.1.toNat ((0 : Int), ((0 : Int), ([] : List Int)))).2).2).length ([r10.1.1]).length) <|
            chk (inb r12.1.1 m_0.length) <|
            chk (decide (r12.1.1.toNat = r12.1.1.toNat)) <|
            let w0 : List (Int × Int × List Int) := (m_0.set r12.1.1.toNat ((m_0.getD r12.1.1.toNat ((0 : Int), ((0 : Int), ([] : List Int)))).1, (((m_0.getD r12.1.1.toNat ((0 : Int), ((0 : Int), ([] : List Int)))).2).1, (((m_0.getD r12.1.1.toNat ((0 : Int), ((0 : Int), ([] : List Int)))).2).2 ++ [r10.1.1]))))
            (c_s_drop w0 m_1 m_2 m_3 1).bind fun r62 =>
            some (((r62.1.1.1, r62.1.1.2.1, r62.1.1.2.2.1, r62.1.1.2.2.2.1, ()), true, ()), ())
        else
          bif (o_0 == 11) then
            bif decide (r12.1.1 < 0) then
              jn (fun t => B_Z60_J0 k c_s_top c_s_drop c_s_push c_s_kindOf c_s_isKey c_Z69 t.1.1 t.1.2.1 t.1.2.2.1 t.1.2.2.2.1 t.2.1.2.2.2.1 t.2.2.1 t.2.2.2.1 t.2.2.2.2.1 t.2.2.2.2.2.1) ((m_0, m_1, m_2, m_3, ()), ((), (), (), false, ()), r10.1.1, r12.1.1, r14.1.1, true, ())
            else
              (c_s_kindOf m_0 m_1 m_2 m_3 r14.1.1).bind fun r70 =>
              bif (r70.1.1 != 4) then
                jn (fun t => B_Z60_J0 k c_s_top c_s_drop c_s_push c_s_kindOf c_s_isKey c_Z69 t.1.1 t.1.2.1 t.1.2.2.1 t.1.2.2.2.1 t.2.1.2.2.2.1 t.2.2.1 t.2.2.2.1 t.2.2.2.2.1 t.2.2.2.2.2.1) ((m_0, m_1, m_2, m_3, ()), ((), (), (), false, ()), r10.1.1, r12.1.1, r14.1.1, true, ())
              else
                chk (inb r12.1.1 m_0.length) <|
                chk (decide (r12.1.1.toNat < m_0.length)) <|
                (c_s_isKey ((m_0.getD r12.1.1.toNat ((0 : Int), ((0 : Int), ([] : List Int)))).1) (((m_0.getD r12.1.1.toNat ((0 : Int), ((0 : Int), ([] : List Int)))).2).1)).bind fun r79 =>
                jn (fun t => B_Z60_J0 k c_s_top c_s_drop c_s_push c_s_kindOf c_s_isKey c_Z69 t.1.1 t.1.2.1 t.1.2.2.1 t.1.2.2.2.1 t.2.1.2.2.2.1 t.2.2.1 t.2.2.2.1 t.2.2.2.2.1 t.2.2.2.2.2.1) ((m_0, m_1, m_2, m_3, ()), ((), (), (), false, ()), r10.1.1, r12.1.1, r14.1.1, (!r79.1.1), ())
          else
            bif (o_0 == 14) then
              (c_s_kindOf m_0 m_1 m_2 m_3 r12.1.1).bind fun r93 =>
              bif (r93.1.1 != 5) then
                jn (fun t => B_Z60_J1 k c_s_top c_s_drop c_s_push c_s_kindOf c_s_isKey c_Z69 t.1.1 t.1.2.1 t.1.2.2.1 t.1.2.2.2.1 t.2.1.2.2.2.1 t.2.2.1 t.2.2.2.1 t.2.2.2.2.1) ((m_0, m_1, m_2, m_3, ()), ((), (), (), false, ()), r10.1.1, r12.1.1, true, ())
              else
                chk (inb r12.1.1 m_0.length) <|
                chk (decide (r12.1.1.toNat < m_0.length)) <|
                let v103 : Bool := decide ((len (((m_0.getD r12.1.1.toNat ((0 : Int), ((0 : Int), ([] : List Int)))).2).2)) > 0)
                let w2 : List (Int × Int × List Int) := (m_0.set r12.1.1.toNat ((m_0.getD r12.1.1.toNat ((0 : Int), ((0 : Int), ([] : List Int)))).1, (((m_0.getD r12.1.1.toNat ((0 : Int), ((0 : Int), ([] : List Int)))).2).1, ((m_0.getD r12.1.1.toNat ((0 : Int), ((0 : Int), ([] : List Int)))).2).2)))
                jn (fun t => B_Z60_J1 k c_s_top c_s_drop c_s_push c_s_kindOf c_s_isKey c_Z69 t.1.1 t.1.2.1 t.1.2.2.1 t.1.2.2.2.1 t.2.1.2.2.2.1 t.2.2.1 t.2.2.2.1 t.2.2.2.2.1) ((w2, m_1, m_2, m_3, ()), ((), (), (), false, ()), r10.1.1, r12.1.1, v103, ())
            else
              bif (o_0 == 15) then
                chk (inb o_1 m_2.length) <|
                chk (decide (o_1.toNat < m_2.length)) <|
                some (((m_0, m_1, (m_2.set o_1.toNat r10.1.1), m_3, ()), true, ()), ())
              else
                bif (o_0 == 17) then
                  (c_s_drop m_0 m_1 m_2 m_3 1).bind fun r127 =>
                  some (((r127.1.1.1, r127.1.1.2.1, r127.1.1.2.2.1, r127.1.1.2.2.2.1, ()), true, ()), ())
                else
                  some (((m_0, m_1, m_2, true, ()), ((len m_1) == 1), ()), ())
def F_Z60 : Nat → C_Z60
  | 0, _, _, _, _, _, _ => none
  | k + 1, m_0, m_1, m_2, m_3, o_0, o_1 => B_Z60 k (F_s_top k) (F_s_drop k) (F_s_push k) (F_s_kindOf k) (F_s_isKey k) (F_Z69 k) m_0 m_1 m_2 m_3 o_0 o_1
theorem tot_Z60 {m_0 m_1 m_2 m_3 o_0 o_1 : _} {Q : _ → Prop} (h : Tot (fun σ => B_Z60 (σ 0) (F_s_top (σ 0)) (F_s_drop (σ 0)) (F_s_push (σ 0)) (F_s_kindOf (σ 0)) (F_s_isKey (σ 0)) (F_Z69 (σ 0)) m_0 m_1 m_2 m_3 o_0 o_1) Q) : Tot (fun σ => F_Z60 (σ 0) m_0 m_1 m_2 m_3 o_0 o_1) Q :=
  Tot.call (F := fun k => F_Z60 k m_0 m_1 m_2 m_3 o_0 o_1) (B := fun k => B_Z60 k (F_s_top k) (F_s_drop k) (F_s_push k) (F_s_kindOf k) (F_s_isKey k) (F_Z69 k) m_0 m_1 m_2 m_3 o_0 o_1) (fun k => rfl) h
abbrev R_s_step : Type := Option ((((Option (List (Int × Int × List Int))) × Option (List Int) × Option (List Int) × Bool × Unit) × Bool × Unit) × (Unit))
abbrev C_s_step : Type := (List (Int × Int × List Int)) → List Int → List Int → Bool → Int → Int → R_s_step
def B_s_step_J1 (k : Nat) (c_s_push : C_s_push) (c_Z53 : C_Z53) (c_Z60 : C_Z60) (m_Nodes : List (Int × Int × List Int)) (m_Stack m_Memo : List Int) (m_Done t4_Done : Bool) : R_s_step :=
  bif decide ((len m_Nodes) ≤ 300) then
    some ((((some m_Nodes), (some m_Stack), (some m_Memo), m_Done, ()), decide ((len m_Stack) ≤ 300), ()), ())
  else
    some ((((some m_Nodes), (some m_Stack), (some m_Memo), m_Done, ()), false, ()), ())
def B_s_step_J0 (k : Nat) (c_s_push : C_s_push) (c_Z53 : C_Z53) (c_Z60 : C_Z60) (m_Nodes : List (Int × Int × List Int)) (m_Stack m_Memo : List Int) (m_Done : Bool) (o_Code o_Arg : Int) (t4_Done t89 : Bool) : R_s_step :=
  bif t89 then
    (c_Z53 m_Nodes m_Stack m_Memo m_Done o_Code o_Arg).bind fun r97 =>
    bif (!r97.1.2.1) then
      some (((none, none, none, m_Done, ()), false, ()), ())
    else
      jn (fun t => B_s_step_J1 k c_s_push c_Z53 c_Z60 t.1.1 t.1.2.1 t.1.2.2.1 t.1.2.2.2.1 t.2.1.2.2.2.1) ((r97.1.1.1, r97.1.1.2.1, r97.1.1.2.2.1, r97.1.1.2.2.2.1, ()), ((), (), (), t4_Done, ()), ())
  else
    (c_Z60 m_Nodes m_Stack m_Memo m_Done o_Code o_Arg).bind fun r18 =>
    bif (!r18.1.2.1) then
      some (((none, none, none, m_Done, ()), false, ()), ())
    else
      jn (fun t => B_s_step_J1 k c_s_push c_Z53 c_Z60 t.1.1 t.1.2.1 t.1.2.2.1 t.1.2.2.2.1 t.2.1.2.2.2.1) ((r18.1.1.1, r18.1.1.2.1, r18.1.1.2.2.1, r18.1.1.2.2.2.1, ()), ((), (), (), t4_Done, ()), ())
def B_s_step (k : Nat) (c_s_push : C_s_push) (c_Z53 : C_Z53) (c_Z60 : C_Z60) (m_0 : List (Int × Int × List Int)) (m_1 m_2 : List Int) (m_3 : Bool) (o_0 o_1 : Int) : R_s_step :=
  bif m_3 then
    some ((((some m_0), (some m_1), (some m_2), m_3, ()), false, ()), ())
  else
    bif (o_0 == 0) then
      (c_s_push m_0 m_1 m_2 m_3 0 o_1 ([])).bind fun r31 =>
      jn (fun t => B_s_step_J1 k c_s_push c_Z53 c_Z60 t.1.1 t.1.2.1 t.1.2.2.1 t.1.2.2.2.1 t.2.1.2.2.2.1) ((r31.1.1.1, r31.1.1.2.1, r31.1.1.2.2.1, r31.1.1.2.2.2.1, ()), ((), (), (), false, ()), ())
    else
      bif (o_0 == 1) then
        (c_s_push m_0 m_1 m_2 m_3 1 o_1 ([])).bind fun r38 =>
        jn (fun t => B_s_step_J1 k c_s_push c_Z53 c_Z60 t.1.1 t.1.2.1 t.1.2.2.1 t.1.2.2.2.1 t.2.1.2.2.2.1) ((r38.1.1.1, r38.1.1.2.1, r38.1.1.2.2.1, r38.1.1.2.2.2.1, ()), ((), (), (), false, ()), ())
      else
        bif (o_0 == 4) then
          (c_s_push m_0 m_1 m_2 m_3 2 0 ([])).bind fun r43 =>
          jn (fun t => B_s_step_J1 k c_s_push c_Z53 c_Z60 t.1.1 t.1.2.1 t.1.2.2.1 t.1.2.2.2.1 t.2.1.2.2.2.1) ((r43.1.1.1, r43.1.1.2.1, r43.1.1.2.2.1, r43.1.1.2.2.2.1, ()), ((), (), (), false, ()), ())
        else
          bif (o_0 == 7) then
            (c_s_push m_0 m_1 m_2 m_3 3 0 ([])).bind fun r48 =>
            jn (fun t => B_s_step_J1 k c_s_push c_Z53 c_Z60 t.1.1 t.1.2.1 t.1.2.2.1 t.1.2.2.2.1 t.2.1.2.2.2.1) ((r48.1.1.1, r48.1.1.2.1, r48.1.1.2.2.1, r48.1.1.2.2.2.1, ()), ((), (), (), false, ()), ())
          else
            bif (o_0 == 10) then
              (c_s_push m_0 m_1 m_2 m_3 4 0 ([])).bind fun r53 =>
              jn (fun t => B_s_step_J1 k c_s_push c_Z53 c_Z60 t.1.1 t.1.2.1 t.1.2.2.1 t.1.2.2.2.1 t.2.1.2.2.2.1) ((r53.1.1.1, r53.1.1.2.1, r53.1.1.2.2.1, r53.1.1.2.2.2.1, ()), ((), (), (), false, ()), ())
            else
              bif (o_0 == 13) then
                (c_s_push m_0 m_1 m_2 m_3 5 o_1 ([])).bind fun r60 =>
                jn (fun t => B_s_step_J1 k c_s_push c_Z53 c_Z60 t.1.1 t.1.2.1 t.1.2.2.1 t.1.2.2.2.1 t.2.1.2.2.2.1) ((r60.1.1.1, r60.1.1.2.1, r60.1.1.2.2.1, r60.1.1.2.2.2.1, ()), ((), (), (), false, ()), ())
              else
                bif (o_0 == 2) then
                  chk (room m_1.length ([(-1)]).length) <|
                  jn (fun t => B_s_step_J1 k c_s_push c_Z53 c_Z60 t.1.1 t.1.2.1 t.1.2.2.1 t.1.2.2.2.1 t.2.1.2.2.2.1) ((m_0, (m_1 ++ [(-1)]), m_2, m_3, ()), ((), (), (), false, ()), ())
                else
                  bif (o_0 == 16) then
                    chk (inb o_1 m_2.length) <|
                    chk (decide (o_1.toNat < m_2.length)) <|
                    bif decide ((m_2.getD o_1.toNat (0 : Int)) < 0) then
                      some ((((some m_0), (some m_1), (some m_2), m_3, ()), false, ()), ())
                    else
                      chk (inb o_1 m_2.length) <|
                      chk (decide (o_1.toNat < m_2.length)) <|
                      chk (room m_1.length ([(m_2.getD o_1.toNat (0 : Int))]).length) <|
                      jn (fun t => B_s_step_J1 k c_s_push c_Z53 c_Z60 t.1.1 t.1.2.1 t.1.2.2.1 t.1.2.2.2.1 t.2.1.2.2.2.1) ((m_0, (m_1 ++ [(m_2.getD o_1.toNat (0 : Int))]), m_2, m_3, ()), ((), (), (), false, ()), ())
                  else
                    bif (o_0 == 3) then
                      jn (fun t => B_s_step_J0 k c_s_push c_Z53 c_Z60 t.1.1 t.1.2.1 t.1.2.2.1 t.1.2.2.2.1 t.2.1.1 t.2.1.2.1 t.2.2.1.2.2.2.1 t.2.2.2.1) ((m_0, m_1, m_2, m_3, ()), (o_0, o_1, ()), ((), (), (), false, ()), (o_0 == 3), ())
                    else
                      bif (o_0 == 9) then
                        jn (fun t => B_s_step_J0 k c_s_push c_Z53 c_Z60 t.1.1 t.1.2.1 t.1.2.2.1 t.1.2.2.2.1 t.2.1.1 t.2.1.2.1 t.2.2.1.2.2.2.1 t.2.2.2.1) ((m_0, m_1, m_2, m_3, ()), (o_0, o_1, ()), ((), (), (), false, ()), (o_0 == 9), ())
                      else
                        bif (o_0 == 12) then
                          jn (fun t => B_s_step_J0 k c_s_push c_Z53 c_Z60 t.1.1 t.1.2.1 t.1.2.2.1 t.1.2.2.2.1 t.2.1.1 t.2.1.2.1 t.2.2.1.2.2.2.1 t.2.2.2.1) ((m_0, m_1, m_2, m_3, ()), (o_0, o_1, ()), ((), (), (), false, ()), (o_0 == 12), ())
                        else
                          jn (fun t => B_s_step_J0 k c_s_push c_Z53 c_Z60 t.1.1 t.1.2.1 t.1.2.2.1 t.1.2.2.2.1 t.2.1.1 t.2.1.2.1 t.2.2.1.2.2.2.1 t.2.2.2.1) ((m_0, m_1, m_2, m_3, ()), (o_0, o_1, ()), ((), (), (), false, ()), (o_0 == 18), ())
def F_s_step : Nat → C_s_step
  | 0, _, _, _, _, _, _ => none
  | k + 1, m_0, m_1, m_2, m_3, o_0, o_1 => B_s_step k (F_s_push k) (F_Z53 k) (F_Z60 k) m_0 m_1 m_2 m_3 o_0 o_1
theorem tot_s_step {m_0 m_1 m_2 m_3 o_0 o_1 : _} {Q : _ → Prop} (h : Tot (fun σ => B_s_step (σ 0) (F_s_push (σ 0)) (F_Z53 (σ 0)) (F_Z60 (σ 0)) m_0 m_1 m_2 m_3 o_0 o_1) Q) : Tot (fun σ => F_s_step (σ 0) m_0 m_1 m_2 m_3 o_0 o_1) Q :=
  Tot.call (F := fun k => F_s_step k m_0 m_1 m_2 m_3 o_0 o_1) (B := fun k => B_s_step k (F_s_push k) (F_Z53 k) (F_Z60 k) m_0 m_1 m_2 m_3 o_0 o_1) (fun k => rfl) h
abbrev R_s_run : Type := Option ((((List (Int × Int × List Int)) × List Int × List Int × Bool × Unit) × Int × Unit) × (Unit))
abbrev C_s_run : Type := (List (Int × Int × List Int)) → List Int → List Int → Bool → (List (Int × Int)) → R_s_run
abbrev T_s_run_L0 : Type := (List (Int × Int)) × ((List (Int × Int × List Int)) × List Int × List Int × Bool × Unit) × (Unit × Unit × Unit × Bool × Unit) × Int × Unit
def B_s_run_L0b (k : Nat) (c_Z20 : C_Z20) (c_s_step : C_s_step) (again0 : T_s_run_L0 → R_s_run) (ops : List (Int × Int)) (m_Nodes : List (Int × Int × List Int)) (m_Stack m_Memo : List Int) (m_Done t4_Done : Bool) (i : Int) : R_s_run :=
  bif decide (i < (len ops)) then
    (c_Z20 m_Nodes m_Stack m_Memo m_Done).bind fun r17 =>
    chk (inb i ops.length) <|
    (c_s_step r17.1.1.1 r17.1.1.2.1 r17.1.1.2.2.1 r17.1.1.2.2.2.1 ((rdx ((0 : Int), (0 : Int)) ops i).1) ((rdx ((0 : Int), (0 : Int)) ops i).2)).bind fun r22 =>
    bif (!r22.1.2.1) then
      some (((m_Nodes, m_Stack, m_Memo, m_Done, ()), i, ()), ())
    else
      (r22.1.1.1).bind fun p3 =>
      (r22.1.1.2.1).bind fun p4 =>
      (r22.1.1.2.2.1).bind fun p5 =>
      again0 (ops, (p3, p4, p5, r22.1.1.2.2.2.1, ()), ((), (), (), t4_Done, ()), w64 (i + 1), ())
  else
    some (((m_Nodes, m_Stack, m_Memo, m_Done, ()), len ops, ()), ())
def B_s_run_L0 (k : Nat) (c_Z20 : C_Z20) (c_s_step : C_s_step) (n : Nat) (t : T_s_run_L0) : R_s_run :=
  lfix n (fun again t => B_s_run_L0b k c_Z20 c_s_step again t.1 t.2.1.1 t.2.1.2.1 t.2.1.2.2.1 t.2.1.2.2.2.1 t.2.2.1.2.2.2.1 t.2.2.2.1) t
def B_s_run (k : Nat) (c_Z20 : C_Z20) (c_s_step : C_s_step) (m_0 : List (Int × Int × List Int)) (m_1 m_2 : List Int) (m_3 : Bool) (ops : List (Int × Int)) : R_s_run :=
  B_s_run_L0 k c_Z20 c_s_step k (ops, (m_0, m_1, m_2, m_3, ()), ((), (), (), false, ()), 0, ())
def F_s_run : Nat → C_s_run
  | 0, _, _, _, _, _ => none
  | k + 1, m_0, m_1, m_2, m_3, ops => B_s_run k (F_Z20 k) (F_s_step k) m_0 m_1 m_2 m_3 ops
theorem tot_s_run {m_0 m_1 m_2 m_3 ops : _} {Q : _ → Prop} (h : Tot (fun σ => B_s_run (σ 0) (F_Z20 (σ 0)) (F_s_step (σ 0)) m_0 m_1 m_2 m_3 ops) Q) : Tot (fun σ => F_s_run (σ 0) m_0 m_1 m_2 m_3 ops) Q :=
  Tot.call (F := fun k => F_s_run k m_0 m_1 m_2 m_3 ops) (B := fun k => B_s_run k (F_Z20 k) (F_s_step k) m_0 m_1 m_2 m_3 ops) (fun k => rfl) h
abbrev A_s_run_L0 (Z : Type) : Type := (List (Int × Int)) → (List (Int × Int × List Int)) → List Int → List Int → Bool → Bool → Int → Z
abbrev u_s_run_L0 {Z : Type} (f : A_s_run_L0 Z) (t : T_s_run_L0) : Z := f t.1 t.2.1.1 t.2.1.2.1 t.2.1.2.2.1 t.2.1.2.2.2.1 t.2.2.1.2.2.2.1 t.2.2.2.1
theorem loop_s_run_L0 {Q : A_s_run_L0 (((((List (Int × Int × List Int)) × List Int × List Int × Bool × Unit) × Int × Unit) × (Unit)) → Prop)} (I : A_s_run_L0 Prop) (μ : A_s_run_L0 Nat)
    (step : ∀ a0 a1 a2 a3 a4 a5 a6, I a0 a1 a2 a3 a4 a5 a6 → ∀ again : (Nat → Nat) → T_s_run_L0 → R_s_run, Dep 2 again → (∀ y0 y1 y2 y3 y4 y5 y6, I y0 y1 y2 y3 y4 y5 y6 → μ y0 y1 y2 y3 y4 y5 y6 < μ a0 a1 a2 a3 a4 a5 a6 → Tot (fun σ => again σ (y0, (y1, y2, y3, y4, ()), ((), (), (), y5, ()), y6, ())) (Q y0 y1 y2 y3 y4 y5 y6)) →
      Tot (fun σ => B_s_run_L0b (σ 0) (F_Z20 (σ 0)) (F_s_step (σ 0)) (again σ) a0 a1 a2 a3 a4 a5 a6) (Q a0 a1 a2 a3 a4 a5 a6)) :
    ∀ a0 a1 a2 a3 a4 a5 a6, I a0 a1 a2 a3 a4 a5 a6 → Tot (fun σ => B_s_run_L0 (σ 0) (F_Z20 (σ 0)) (F_s_step (σ 0)) (σ 0) (a0, (a1, a2, a3, a4, ()), ((), (), (), a5, ()), a6, ())) (Q a0 a1 a2 a3 a4 a5 a6) := fun a0 a1 a2 a3 a4 a5 a6 => Tot.loop0 (L := fun k => B_s_run_L0 k (F_Z20 k) (F_s_step k)) (B := fun k g => u_s_run_L0 (B_s_run_L0b k (F_Z20 k) (F_s_step k) g)) (Q := u_s_run_L0 Q) (fun _ _ _ => rfl) (u_s_run_L0 I) (u_s_run_L0 μ)
    (fun t ht again hag h => step t.1 t.2.1.1 t.2.1.2.1 t.2.1.2.2.1 t.2.1.2.2.2.1 t.2.2.1.2.2.2.1 t.2.2.2.1 ht again hag fun y0 y1 y2 y3 y4 y5 y6 => h (y0, (y1, y2, y3, y4, ()), ((), (), (), y5, ()), y6, ())) (a0, (a1, a2, a3, a4, ()), ((), (), (), a5, ()), a6, ())
abbrev R_s_built : Type := Option ((((List (Int × Int × List Int)) × Int × Unit) × Unit) × (Unit))
abbrev C_s_built : Type := (List (Int × Int × List Int)) → List Int → List Int → Bool → R_s_built
def B_s_built (k : Nat) (c_Z20 : C_Z20) (m_0 : List (Int × Int × List Int)) (m_1 m_2 : List Int) (m_3 : Bool) : R_s_built :=
  (c_Z20 m_0 m_1 m_2 m_3).bind fun r4 =>
  chk (inb 0 m_1.length) <|
  some (((r4.1.1.1, (rdx (0 : Int) m_1 0), ()), ()), ())
def F_s_built : Nat → C_s_built
  | 0, _, _, _, _ => none
  | k + 1, m_0, m_1, m_2, m_3 => B_s_built k (F_Z20 k) m_0 m_1 m_2 m_3
theorem tot_s_built {m_0 m_1 m_2 m_3 : _} {Q : _ → Prop} (h : Tot (fun σ => B_s_built (σ 0) (F_Z20 (σ 0)) m_0 m_1 m_2 m_3) Q) : Tot (fun σ => F_s_built (σ 0) m_0 m_1 m_2 m_3) Q :=
  Tot.call (F := fun k => F_s_built k m_0 m_1 m_2 m_3) (B := fun k => B_s_built k (F_Z20 k) m_0 m_1 m_2 m_3) (fun k => rfl) h
abbrev R_Z33 : Type := Option ((((List (Int × Int × List Int)) × Int × Unit) × Bool × Unit) × (Unit))
abbrev C_Z33 : Type := (List (Int × Int)) → R_Z33
def B_Z33_J0 (k : Nat) (c_Z51 : C_Z51) (c_Z28 : C_Z28) (c_s_run : C_s_run) (c_s_built : C_s_built) (t2_Root : Int) (m_Nodes : List (Int × Int × List Int)) (m_Stack m_Memo : List Int) (m_Done t24 : Bool) : R_Z33 :=
  bif t24 then
    some ((([], 0, ()), false, ()), ())
  else
    (c_s_built m_Nodes m_Stack m_Memo m_Done).bind fun r27 =>
    some (((r27.1.1.1, r27.1.1.2.1, ()), true, ()), ())
def B_Z33 (k : Nat) (c_Z51 : C_Z51) (c_Z28 : C_Z28) (c_s_run : C_s_run) (c_s_built : C_s_built) (ops : List (Int × Int)) : R_Z33 :=
  (c_Z51 ops).bind fun r7 =>
  bif (!r7.1.1) then
    some ((([], 0, ()), false, ()), ())
  else
    (c_Z28).bind fun r11 =>
    (c_s_run ([]) ([]) r11.1.1.2.2.1 r11.1.1.2.2.2.1 ops).bind fun r13 =>
    bif decide (r13.1.2.1 < (len ops)) then
      jn (fun t => B_Z33_J0 k c_Z51 c_Z28 c_s_run c_s_built t.1.2.1 t.2.1.1 t.2.1.2.1 t.2.1.2.2.1 t.2.1.2.2.2.1 t.2.2.1) (((), 0, ()), (r13.1.1.1, r13.1.1.2.1, r13.1.1.2.2.1, r13.1.1.2.2.2.1, ()), true, ())
    else
      jn (fun t => B_Z33_J0 k c_Z51 c_Z28 c_s_run c_s_built t.1.2.1 t.2.1.1 t.2.1.2.1 t.2.1.2.2.1 t.2.1.2.2.2.1 t.2.2.1) (((), 0, ()), (r13.1.1.1, r13.1.1.2.1, r13.1.1.2.2.1, r13.1.1.2.2.2.1, ()), (!r13.1.1.2.2.2.1), ())
def F_Z33 : Nat → C_Z33
  | 0, _ => none
  | k + 1, ops => B_Z33 k (F_Z51 k) (F_Z28 k) (F_s_run k) (F_s_built k) ops
theorem tot_Z33 {ops : _} {Q : _ → Prop} (h : Tot (fun σ => B_Z33 (σ 0) (F_Z51 (σ 0)) (F_Z28 (σ 0)) (F_s_run (σ 0)) (F_s_built (σ 0)) ops) Q) : Tot (fun σ => F_Z33 (σ 0) ops) Q :=
  Tot.call (F := fun k => F_Z33 k ops) (B := fun k => B_Z33 k (F_Z51 k) (F_Z28 k) (F_s_run k) (F_s_built k) ops) (fun k => rfl) h
abbrev R_s_reach : Type := Option ((List Int × Unit) × (Unit))
abbrev C_s_reach : Type := (List (Int × Int × List Int)) → Int → Int → List Int → R_s_reach
abbrev T_s_reach_L0 : Type := Int × List Int × ((List (Int × Int × List Int)) × Int × Unit) × Int × Unit
def B_s_reach_L0b (k : Nat) (c_Z67 : C_Z67) (c_Z48 : C_Z48) (c_s_reach : C_s_reach) (again0 : T_s_reach_L0 → R_s_reach) (at1 : Int) (met : List Int) (g_Nodes : List (Int × Int × List Int)) (g_Root i : Int) : R_s_reach :=
  chk (inb at1 g_Nodes.length) <|
  bif decide (i < (len (((rdx ((0 : Int), ((0 : Int), ([] : List Int))) g_Nodes at1).2).2))) then
    chk (inb at1 g_Nodes.length) <|
    chk (inb i (((rdx ((0 : Int), ((0 : Int), ([] : List Int))) g_Nodes at1).2).2).length) <|
    (c_s_reach g_Nodes g_Root (rdx (0 : Int) (((rdx ((0 : Int), ((0 : Int), ([] : List Int))) g_Nodes at1).2).2) i) met).bind fun r40 =>
    again0 (at1, r40.1.1, (g_Nodes, g_Root, ()), w64 (i + 1), ())
  else
    some ((met, ()), ())
def B_s_reach_L0 (k : Nat) (c_Z67 : C_Z67) (c_Z48 : C_Z48) (c_s_reach : C_s_reach) (n : Nat) (t : T_s_reach_L0) : R_s_reach :=
  lfix n (fun again t => B_s_reach_L0b k c_Z67 c_Z48 c_s_reach again t.1 t.2.1 t.2.2.1.1 t.2.2.1.2.1 t.2.2.2.1) t
def B_s_reach (k : Nat) (c_Z67 : C_Z67) (c_Z48 : C_Z48) (c_s_reach : C_s_reach) (g_0 : List (Int × Int × List Int)) (g_1 at1 : Int) (met : List Int) : R_s_reach :=
  (c_Z67 met at1).bind fun r10 =>
  bif decide (r10.1.1 ≥ 0) then
    some ((met, ()), ())
  else
    (c_Z48 met).bind fun r14 =>
    chk (room r14.1.1.length ([at1]).length) <|
    B_s_reach_L0 k c_Z67 c_Z48 c_s_reach k (at1, (r14.1.1 ++ [at1]), (g_0, g_1, ()), 0, ())
def F_s_reach : Nat → C_s_reach
  | 0, _, _, _, _ => none
  | k + 1, g_0, g_1, at1, met => B_s_reach k (F_Z67 k) (F_Z48 k) (F_s_reach k) g_0 g_1 at1 met
theorem F_s_reach_succ (k : Nat) (g_0 : List (Int × Int × List Int)) (g_1 : Int) (at1 : Int) (met : List Int) : F_s_reach (k + 1) g_0 g_1 at1 met = B_s_reach k (F_Z67 k) (F_Z48 k) (F_s_reach k) g_0 g_1 at1 met := by rw [F_s_reach]
theorem tot_s_reach {g_0 g_1 at1 met : _} {Q : _ → Prop} (h : Tot (fun σ => B_s_reach (σ 0) (F_Z67 (σ 0)) (F_Z48 (σ 0)) (F_s_reach (σ 0)) g_0 g_1 at1 met) Q) : Tot (fun σ => F_s_reach (σ 0) g_0 g_1 at1 met) Q :=
  Tot.call (F := fun k => F_s_reach k g_0 g_1 at1 met) (B := fun k => B_s_reach k (F_Z67 k) (F_Z48 k) (F_s_reach k) g_0 g_1 at1 met) (fun k => F_s_reach_succ k g_0 g_1 at1 met) h
abbrev A_s_reach_L0 (Z : Type) : Type := Int → List Int → (List (Int × Int × List Int)) → Int → Int → Z
abbrev u_s_reach_L0 {Z : Type} (f : A_s_reach_L0 Z) (t : T_s_reach_L0) : Z := f t.1 t.2.1 t.2.2.1.1 t.2.2.1.2.1 t.2.2.2.1
theorem loop_s_reach_L0 {Q : A_s_reach_L0 (((List Int × Unit) × (Unit)) → Prop)} (I : A_s_reach_L0 Prop) (μ : A_s_reach_L0 Nat)
    (step : ∀ a0 a1 a2 a3 a4, I a0 a1 a2 a3 a4 → ∀ again : (Nat → Nat) → T_s_reach_L0 → R_s_reach, Dep 2 again → (∀ y0 y1 y2 y3 y4, I y0 y1 y2 y3 y4 → μ y0 y1 y2 y3 y4 < μ a0 a1 a2 a3 a4 → Tot (fun σ => again σ (y0, y1, (y2, y3, ()), y4, ())) (Q y0 y1 y2 y3 y4)) →
      Tot (fun σ => B_s_reach_L0b (σ 0) (F_Z67 (σ 0)) (F_Z48 (σ 0)) (F_s_reach (σ 0)) (again σ) a0 a1 a2 a3 a4) (Q a0 a1 a2 a3 a4)) :
    ∀ a0 a1 a2 a3 a4, I a0 a1 a2 a3 a4 → Tot (fun σ => B_s_reach_L0 (σ 0) (F_Z67 (σ 0)) (F_Z48 (σ 0)) (F_s_reach (σ 0)) (σ 0) (a0, a1, (a2, a3, ()), a4, ())) (Q a0 a1 a2 a3 a4) := fun a0 a1 a2 a3 a4 => Tot.loop0 (L := fun k => B_s_reach_L0 k (F_Z67 k) (F_Z48 k) (F_s_reach k)) (B := fun k g => u_s_reach_L0 (B_s_reach_L0b k (F_Z67 k) (F_Z48 k) (F_s_reach k) g)) (Q := u_s_reach_L0 Q) (fun _ _ _ => rfl) (u_s_reach_L0 I) (u_s_reach_L0 μ)
    (fun t ht again hag h => step t.1 t.2.1 t.2.2.1.1 t.2.2.1.2.1 t.2.2.2.1 ht again hag fun y0 y1 y2 y3 y4 => h (y0, y1, (y2, y3, ()), y4, ())) (a0, a1, (a2, a3, ()), a4, ())
abbrev R_s_pruned : Type := Option ((((List (Int × Int × Option (List Int))) × Int × Unit) × Unit) × (Unit))
abbrev C_s_pruned : Type := (List (Int × Int × List Int)) → Int → R_s_pruned
abbrev T_s_pruned_L0 : Type := ((List (Int × Int × List Int)) × Int × Unit) × (Unit × Int × Unit) × List Int × ((List (Int × Int × Option (List Int))) × Int × Unit) × Int × (Int × Int × List Int × Unit) × (Int × Int × List Int × Unit) × Int × Unit
abbrev T_s_pruned_L1 : Type := ((List (Int × Int × List Int)) × Int × Unit) × (Unit × Int × Unit) × List Int × ((List (Int × Int × Option (List Int))) × Int × Unit) × Int × Unit
def B_s_pruned_L0b (k : Nat) (c_s_reach : C_s_reach) (c_Z67 : C_Z67) (again1 : T_s_pruned_L1 → R_s_pruned) (again0 : T_s_pruned_L0 → R_s_pruned) (g_Nodes : List (Int × Int × List Int)) (g_Root t2_Root : Int) (list : List Int) (out_Nodes : List (Int × Int × Option (List Int))) (out_Root i n_Kind n_Value : Int) (n_Kids : List Int) (m_Kind m_Value : Int) (m_Kids : List Int) (k8 : Int) : R_s_pruned :=
  bif decide (k8 < (len n_Kids)) then
    chk (inb k8 n_Kids.length) <|
    (c_Z67 list (rdx (0 : Int) n_Kids k8)).bind fun r49 =>
    chk (room m_Kids.length ([r49.1.1]).length) <|
    again0 ((g_Nodes, g_Root, ()), ((), t2_Root, ()), list, (out_Nodes, out_Root, ()), i, (n_Kind, n_Value, n_Kids, ()), (m_Kind, m_Value, (m_Kids ++ [r49.1.1]), ()), w64 (k8 + 1), ())
  else
    chk (room out_Nodes.length ([(m_Kind, (m_Value, (some m_Kids)))]).length) <|
    again1 ((g_Nodes, g_Root, ()), ((), t2_Root, ()), list, ((out_Nodes ++ [(m_Kind, (m_Value, (some m_Kids)))]), out_Root, ()), w64 (i + 1), ())
def B_s_pruned_L0 (k : Nat) (c_s_reach : C_s_reach) (c_Z67 : C_Z67) (again1 : T_s_pruned_L1 → R_s_pruned) (n : Nat) (t : T_s_pruned_L0) : R_s_pruned :=
  lfix n (fun again t => B_s_pruned_L0b k c_s_reach c_Z67 again1 again t.1.1 t.1.2.1 t.2.1.2.1 t.2.2.1 t.2.2.2.1.1 t.2.2.2.1.2.1 t.2.2.2.2.1 t.2.2.2.2.2.1.1 t.2.2.2.2.2.1.2.1 t.2.2.2.2.2.1.2.2.1 t.2.2.2.2.2.2.1.1 t.2.2.2.2.2.2.1.2.1 t.2.2.2.2.2.2.1.2.2.1 t.2.2.2.2.2.2.2.1) t
def B_s_pruned_L1b (k : Nat) (c_s_reach : C_s_reach) (c_Z67 : C_Z67) (again1 : T_s_pruned_L1 → R_s_pruned) (g_Nodes : List (Int × Int × List Int)) (g_Root t2_Root : Int) (list : List Int) (out_Nodes : List (Int × Int × Option (List Int))) (out_Root i : Int) : R_s_pruned :=
  bif decide (i < (len list)) then
    chk (inb i list.length) <|
    chk (inb (rdx (0 : Int) list i) g_Nodes.length) <|
    B_s_pruned_L0 k c_s_reach c_Z67 again1 k ((g_Nodes, g_Root, ()), ((), t2_Root, ()), list, (out_Nodes, out_Root, ()), i, ((rdx ((0 : Int), ((0 : Int), ([] : List Int))) g_Nodes (rdx (0 : Int) list i)).1, ((rdx ((0 : Int), ((0 : Int), ([] : List Int))) g_Nodes (rdx (0 : Int) list i)).2).1, ((rdx ((0 : Int), ((0 : Int), ([] : List Int))) g_Nodes (rdx (0 : Int) list i)).2).2, ()), ((rdx ((0 : Int), ((0 : Int), ([] : List Int))) g_Nodes (rdx (0 : Int) list i)).1, ((rdx ((0 : Int), ((0 : Int), ([] : List Int))) g_Nodes (rdx (0 : Int) list i)).2).1, [], ()), 0, ())
  else
    some (((out_Nodes, out_Root, ()), ()), ())
def B_s_pruned_L1 (k : Nat) (c_s_reach : C_s_reach) (c_Z67 : C_Z67) (n : Nat) (t : T_s_pruned_L1) : R_s_pruned :=
  lfix n (fun again t => B_s_pruned_L1b k c_s_reach c_Z67 again t.1.1 t.1.2.1 t.2.1.2.1 t.2.2.1 t.2.2.2.1.1 t.2.2.2.1.2.1 t.2.2.2.2.1) t
def B_s_pruned (k : Nat) (c_s_reach : C_s_reach) (c_Z67 : C_Z67) (g_0 : List (Int × Int × List Int)) (g_1 : Int) : R_s_pruned :=
  (c_s_reach g_0 g_1 g_1 ([])).bind fun r13 =>
  B_s_pruned_L1 k c_s_reach c_Z67 k ((g_0, g_1, ()), ((), 0, ()), r13.1.1, ([], 0, ()), 0, ())
def F_s_pruned : Nat → C_s_pruned
  | 0, _, _ => none
  | k + 1, g_0, g_1 => B_s_pruned k (F_s_reach k) (F_Z67 k) g_0 g_1
theorem tot_s_pruned {g_0 g_1 : _} {Q : _ → Prop} (h : Tot (fun σ => B_s_pruned (σ 0) (F_s_reach (σ 0)) (F_Z67 (σ 0)) g_0 g_1) Q) : Tot (fun σ => F_s_pruned (σ 0) g_0 g_1) Q :=
  Tot.call (F := fun k => F_s_pruned k g_0 g_1) (B := fun k => B_s_pruned k (F_s_reach k) (F_Z67 k) g_0 g_1) (fun k => rfl) h
abbrev A_s_pruned_L0 (Z : Type) : Type := (List (Int × Int × List Int)) → Int → Int → List Int → (List (Int × Int × Option (List Int))) → Int → Int → Int → Int → List Int → Int → Int → List Int → Int → Z
abbrev u_s_pruned_L0 {Z : Type} (f : A_s_pruned_L0 Z) (t : T_s_pruned_L0) : Z := f t.1.1 t.1.2.1 t.2.1.2.1 t.2.2.1 t.2.2.2.1.1 t.2.2.2.1.2.1 t.2.2.2.2.1 t.2.2.2.2.2.1.1 t.2.2.2.2.2.1.2.1 t.2.2.2.2.2.1.2.2.1 t.2.2.2.2.2.2.1.1 t.2.2.2.2.2.2.1.2.1 t.2.2.2.2.2.2.1.2.2.1 t.2.2.2.2.2.2.2.1
theorem loop_s_pruned_L0 {again1 : (Nat → Nat) → T_s_pruned_L1 → R_s_pruned} (hag1 : Dep 2 again1) {Q : A_s_pruned_L0 (((((List (Int × Int × Option (List Int))) × Int × Unit) × Unit) × (Unit)) → Prop)} (I : A_s_pruned_L0 Prop) (μ : A_s_pruned_L0 Nat)
    (step : ∀ a0 a1 a2 a3 a4 a5 a6 a7 a8 a9 a10 a11 a12 a13, I a0 a1 a2 a3 a4 a5 a6 a7 a8 a9 a10 a11 a12 a13 → ∀ again : (Nat → Nat) → T_s_pruned_L0 → R_s_pruned, Dep 3 again → (∀ y0 y1 y2 y3 y4 y5 y6 y7 y8 y9 y10 y11 y12 y13, I y0 y1 y2 y3 y4 y5 y6 y7 y8 y9 y10 y11 y12 y13 → μ y0 y1 y2 y3 y4 y5 y6 y7 y8 y9 y10 y11 y12 y13 < μ a0 a1 a2 a3 a4 a5 a6 a7 a8 a9 a10 a11 a12 a13 → Tot (fun σ => again σ ((y0, y1, ()), ((), y2, ()), y3, (y4, y5, ()), y6, (y7, y8, y9, ()), (y10, y11, y12, ()), y13, ())) (Q y0 y1 y2 y3 y4 y5 y6 y7 y8 y9 y10 y11 y12 y13)) →
      Tot (fun σ => B_s_pruned_L0b (σ 0) (F_s_reach (σ 0)) (F_Z67 (σ 0)) (again1 σ) (again σ) a0 a1 a2 a3 a4 a5 a6 a7 a8 a9 a10 a11 a12 a13) (Q a0 a1 a2 a3 a4 a5 a6 a7 a8 a9 a10 a11 a12 a13)) :
    ∀ a0 a1 a2 a3 a4 a5 a6 a7 a8 a9 a10 a11 a12 a13, I a0 a1 a2 a3 a4 a5 a6 a7 a8 a9 a10 a11 a12 a13 → Tot (fun σ => B_s_pruned_L0 (σ 0) (F_s_reach (σ 0)) (F_Z67 (σ 0)) (again1 σ) (σ 0) ((a0, a1, ()), ((), a2, ()), a3, (a4, a5, ()), a6, (a7, a8, a9, ()), (a10, a11, a12, ()), a13, ())) (Q a0 a1 a2 a3 a4 a5 a6 a7 a8 a9 a10 a11 a12 a13) := fun a0 a1 a2 a3 a4 a5 a6 a7 a8 a9 a10 a11 a12 a13 => Tot.loop (L := fun σ n t => B_s_pruned_L0 (σ 0) (F_s_reach (σ 0)) (F_Z67 (σ 0)) (again1 σ) n t) (B := fun σ g => u_s_pruned_L0 (B_s_pruned_L0b (σ 0) (F_s_reach (σ 0)) (F_Z67 (σ 0)) (again1 σ) g)) (Q := u_s_pruned_L0 Q) 2 (by decide)
    (fun s s' h => by have e0 : s 0 = s' 0 := h 0 (by decide); simp only [e0, hag1 s s' h]) (fun s s' h => by have e0 : s 0 = s' 0 := h 0 (by decide); simp only [e0, hag1 s s' h]) (fun _ _ _ => rfl) (u_s_pruned_L0 I) (u_s_pruned_L0 μ)
    (fun t ht again hag h => step t.1.1 t.1.2.1 t.2.1.2.1 t.2.2.1 t.2.2.2.1.1 t.2.2.2.1.2.1 t.2.2.2.2.1 t.2.2.2.2.2.1.1 t.2.2.2.2.2.1.2.1 t.2.2.2.2.2.1.2.2.1 t.2.2.2.2.2.2.1.1 t.2.2.2.2.2.2.1.2.1 t.2.2.2.2.2.2.1.2.2.1 t.2.2.2.2.2.2.2.1 ht again hag fun y0 y1 y2 y3 y4 y5 y6 y7 y8 y9 y10 y11 y12 y13 => h ((y0, y1, ()), ((), y2, ()), y3, (y4, y5, ()), y6, (y7, y8, y9, ()), (y10, y11, y12, ()), y13, ())) ((a0, a1, ()), ((), a2, ()), a3, (a4, a5, ()), a6, (a7, a8, a9, ()), (a10, a11, a12, ()), a13, ())
abbrev A_s_pruned_L1 (Z : Type) : Type := (List (Int × Int × List Int)) → Int → Int → List Int → (List (Int × Int × Option (List Int))) → Int → Int → Z
abbrev u_s_pruned_L1 {Z : Type} (f : A_s_pruned_L1 Z) (t : T_s_pruned_L1) : Z := f t.1.1 t.1.2.1 t.2.1.2.1 t.2.2.1 t.2.2.2.1.1 t.2.2.2.1.2.1 t.2.2.2.2.1
theorem loop_s_pruned_L1 {Q : A_s_pruned_L1 (((((List (Int × Int × Option (List Int))) × Int × Unit) × Unit) × (Unit)) → Prop)} (I : A_s_pruned_L1 Prop) (μ : A_s_pruned_L1 Nat)
    (step : ∀ a0 a1 a2 a3 a4 a5 a6, I a0 a1 a2 a3 a4 a5 a6 → ∀ again : (Nat → Nat) → T_s_pruned_L1 → R_s_pruned, Dep 2 again → (∀ y0 y1 y2 y3 y4 y5 y6, I y0 y1 y2 y3 y4 y5 y6 → μ y0 y1 y2 y3 y4 y5 y6 < μ a0 a1 a2 a3 a4 a5 a6 → Tot (fun σ => again σ ((y0, y1, ()), ((), y2, ()), y3, (y4, y5, ()), y6, ())) (Q y0 y1 y2 y3 y4 y5 y6)) →
      Tot (fun σ => B_s_pruned_L1b (σ 0) (F_s_reach (σ 0)) (F_Z67 (σ 0)) (again σ) a0 a1 a2 a3 a4 a5 a6) (Q a0 a1 a2 a3 a4 a5 a6)) :
    ∀ a0 a1 a2 a3 a4 a5 a6, I a0 a1 a2 a3 a4 a5 a6 → Tot (fun σ => B_s_pruned_L1 (σ 0) (F_s_reach (σ 0)) (F_Z67 (σ 0)) (σ 0) ((a0, a1, ()), ((), a2, ()), a3, (a4, a5, ()), a6, ())) (Q a0 a1 a2 a3 a4 a5 a6) := fun a0 a1 a2 a3 a4 a5 a6 => Tot.loop0 (L := fun k => B_s_pruned_L1 k (F_s_reach k) (F_Z67 k)) (B := fun k g => u_s_pruned_L1 (B_s_pruned_L1b k (F_s_reach k) (F_Z67 k) g)) (Q := u_s_pruned_L1 Q) (fun _ _ _ => rfl) (u_s_pruned_L1 I) (u_s_pruned_L1 μ)
    (fun t ht again hag h => step t.1.1 t.1.2.1 t.2.1.2.1 t.2.2.1 t.2.2.2.1.1 t.2.2.2.1.2.1 t.2.2.2.2.1 ht again hag fun y0 y1 y2 y3 y4 y5 y6 => h ((y0, y1, ()), ((), y2, ()), y3, (y4, y5, ()), y6, ())) ((a0, a1, ()), ((), a2, ()), a3, (a4, a5, ()), a6, ())
abbrev R_Z37 : Type := Option ((((List (Int × Int × Option (List Int))) × Int × Unit) × Bool × Unit) × (Unit))
abbrev C_Z37 : Type := (List (Int × Int × List Int)) → Int → R_Z37
def B_Z37_J0 (k : Nat) (c_Z26 : C_Z26) (c_Z65 : C_Z65) (c_Z33 : C_Z33) (c_s_pruned : C_s_pruned) (g_Nodes : List (Int × Int × List Int)) (g_Root t2_Root : Int) (t14 : Bool) : R_Z37 :=
  bif t14 then
    some ((([], 0, ()), false, ()), ())
  else
    (c_Z65 g_Nodes g_Root 0).bind fun r18 =>
    (c_Z33 r18.1.1).bind fun r19 =>
    bif (!r19.1.2.1) then
      some ((([], 0, ()), false, ()), ())
    else
      (c_s_pruned r19.1.1.1 r19.1.1.2.1).bind fun r26 =>
      some (((r26.1.1.1, r26.1.1.2.1, ()), true, ()), ())
def B_Z37 (k : Nat) (c_Z26 : C_Z26) (c_Z65 : C_Z65) (c_Z33 : C_Z33) (c_s_pruned : C_s_pruned) (g_0 : List (Int × Int × List Int)) (g_1 : Int) : R_Z37 :=
  (c_Z26 g_0 g_1).bind fun r7 =>
  bif (!r7.1.1) then
    jn (fun t => B_Z37_J0 k c_Z26 c_Z65 c_Z33 c_s_pruned t.1.1 t.1.2.1 t.2.1.2.1 t.2.2.1) ((g_0, g_1, ()), ((), 0, ()), true, ())
  else
    (c_Z65 g_0 g_1 0).bind fun r11 =>
    jn (fun t => B_Z37_J0 k c_Z26 c_Z65 c_Z33 c_s_pruned t.1.1 t.1.2.1 t.2.1.2.1 t.2.2.1) ((g_0, g_1, ()), ((), 0, ()), decide ((len r11.1.1) > 300), ())
def F_Z37 : Nat → C_Z37
  | 0, _, _ => none
  | k + 1, g_0, g_1 => B_Z37 k (F_Z26 k) (F_Z65 k) (F_Z33 k) (F_s_pruned k) g_0 g_1
theorem tot_Z37 {g_0 g_1 : _} {Q : _ → Prop} (h : Tot (fun σ => B_Z37 (σ 0) (F_Z26 (σ 0)) (F_Z65 (σ 0)) (F_Z33 (σ 0)) (F_s_pruned (σ 0)) g_0 g_1) Q) : Tot (fun σ => F_Z37 (σ 0) g_0 g_1) Q :=
  Tot.call (F := fun k => F_Z37 k g_0 g_1) (B := fun k => B_Z37 k (F_Z26 k) (F_Z65 k) (F_Z33 k) (F_s_pruned k) g_0 g_1) (fun k => rfl) h
abbrev R_Z18 : Type := Option ((Bool × Unit) × ((Int × Unit) × Unit))
abbrev C_Z18 : Type := Int → Int → R_Z18
def B_Z18 (k : Nat) (k0 t1 : Int) : R_Z18 :=
  bif decide (k0 < 0) then
    some ((true, ()), ((t1, ()), ()))
  else
    some ((decide (k0 ≥ t1), ()), ((t1, ()), ()))
def F_Z18 : Nat → C_Z18
  | 0, _, _ => none
  | k + 1, k0, t1 => B_Z18 k k0 t1
theorem tot_Z18 {k0 t1 : _} {Q : _ → Prop} (h : Tot (fun σ => B_Z18 (σ 0) k0 t1) Q) : Tot (fun σ => F_Z18 (σ 0) k0 t1) Q :=
  Tot.call (F := fun k => F_Z18 k k0 t1) (B := fun k => B_Z18 k k0 t1) (fun k => rfl) h
abbrev R_Z1 : Type := Option ((Int × Unit) × ((Int × Unit) × Unit))
abbrev C_Z1 : Type := List Int → Int → R_Z1
abbrev T_Z1_L0 : Type := List Int × (Int × Unit) × Int × Int × Unit
def B_Z1_L0b (k : Nat) (c_Z18 : C_Z18) (again0 : T_Z1_L0 → R_Z1) (s : List Int) (f t7 t8 : Int) : R_Z1 :=
  bif decide (t8 < t7) then
    chk (inb t8 s.length) <|
    (c_Z18 (rdx (0 : Int) s t8) f).bind fun r16 =>
    bif r16.1.1 then
      some ((t8, ()), ((r16.2.1.1, ()), ()))
    else
      again0 (s, (r16.2.1.1, ()), t7, w64 (t8 + 1), ())
  else
    some (((-1), ()), ((f, ()), ()))
def B_Z1_L0 (k : Nat) (c_Z18 : C_Z18) (n : Nat) (t : T_Z1_L0) : R_Z1 :=
  lfix n (fun again t => B_Z1_L0b k c_Z18 again t.1 t.2.1.1 t.2.2.1 t.2.2.2.1) t
def B_Z1 (k : Nat) (c_Z18 : C_Z18) (s : List Int) (f : Int) : R_Z1 :=
  B_Z1_L0 k c_Z18 k (s, (f, ()), len s, 0, ())
def F_Z1 : Nat → C_Z1
  | 0, _, _ => none
  | k + 1, s, f => B_Z1 k (F_Z18 k) s f
theorem tot_Z1 {s f : _} {Q : _ → Prop} (h : Tot (fun σ => B_Z1 (σ 0) (F_Z18 (σ 0)) s f) Q) : Tot (fun σ => F_Z1 (σ 0) s f) Q :=
  Tot.call (F := fun k => F_Z1 k s f) (B := fun k => B_Z1 k (F_Z18 k) s f) (fun k => rfl) h
abbrev A_Z1_L0 (Z : Type) : Type := List Int → Int → Int → Int → Z
abbrev u_Z1_L0 {Z : Type} (f : A_Z1_L0 Z) (t : T_Z1_L0) : Z := f t.1 t.2.1.1 t.2.2.1 t.2.2.2.1
theorem loop_Z1_L0 {Q : A_Z1_L0 (((Int × Unit) × ((Int × Unit) × Unit)) → Prop)} (I : A_Z1_L0 Prop) (μ : A_Z1_L0 Nat)
    (step : ∀ a0 a1 a2 a3, I a0 a1 a2 a3 → ∀ again : (Nat → Nat) → T_Z1_L0 → R_Z1, Dep 2 again → (∀ y0 y1 y2 y3, I y0 y1 y2 y3 → μ y0 y1 y2 y3 < μ a0 a1 a2 a3 → Tot (fun σ => again σ (y0, (y1, ()), y2, y3, ())) (Q y0 y1 y2 y3)) →
      Tot (fun σ => B_Z1_L0b (σ 0) (F_Z18 (σ 0)) (again σ) a0 a1 a2 a3) (Q a0 a1 a2 a3)) :
    ∀ a0 a1 a2 a3, I a0 a1 a2 a3 → Tot (fun σ => B_Z1_L0 (σ 0) (F_Z18 (σ 0)) (σ 0) (a0, (a1, ()), a2, a3, ())) (Q a0 a1 a2 a3) := fun a0 a1 a2 a3 => Tot.loop0 (L := fun k => B_Z1_L0 k (F_Z18 k)) (B := fun k g => u_Z1_L0 (B_Z1_L0b k (F_Z18 k) g)) (Q := u_Z1_L0 Q) (fun _ _ _ => rfl) (u_Z1_L0 I) (u_Z1_L0 μ)
    (fun t ht again hag h => step t.1 t.2.1.1 t.2.2.1 t.2.2.2.1 ht again hag fun y0 y1 y2 y3 => h (y0, (y1, ()), y2, y3, ())) (a0, (a1, ()), a2, a3, ())
abbrev R_Z0 : Type := Option ((Bool × Unit) × ((Int × Unit) × Unit))
abbrev C_Z0 : Type := List Int → Int → R_Z0
def B_Z0 (k : Nat) (c_Z1 : C_Z1) (s : List Int) (f : Int) : R_Z0 :=
  (c_Z1 s f).bind fun r7 =>
  some ((decide (r7.1.1 ≥ 0), ()), ((r7.2.1.1, ()), ()))
def F_Z0 : Nat → C_Z0
  | 0, _, _ => none
  | k + 1, s, f => B_Z0 k (F_Z1 k) s f
theorem tot_Z0 {s f : _} {Q : _ → Prop} (h : Tot (fun σ => B_Z0 (σ 0) (F_Z1 (σ 0)) s f) Q) : Tot (fun σ => F_Z0 (σ 0) s f) Q :=
  Tot.call (F := fun k => F_Z0 k s f) (B := fun k => B_Z0 k (F_Z1 k) s f) (fun k => rfl) h
abbrev R_Z63 : Type := Option ((Int × Unit) × (Unit))
abbrev C_Z63 : Type := (List (Int × Int × List Int)) → List Int → Int → Int → R_Z63
abbrev T_Z63_L1 : Type := (List (Int × Int × List Int)) × List Int × (Int × Int × Unit × Unit) × Int × Unit
def B_Z63_J0 (k : Nat) (again1 : T_Z63_L1 → R_Z63) (nodes : List (Int × Int × List Int)) (kids : List Int) (key_Kind key_Value i : Int) (t33 : Bool) : R_Z63 :=
  bif t33 then
    some ((i, ()), ())
  else
    again1 (nodes, kids, (key_Kind, key_Value, (), ()), w64 (i + 2), ())
def B_Z63_L1b (k : Nat) (again1 : T_Z63_L1 → R_Z63) (nodes : List (Int × Int × List Int)) (kids : List Int) (key_Kind key_Value i : Int) : R_Z63 :=
  bif decide (i < (len kids)) then
    chk (inb i kids.length) <|
    chk (inb (rdx (0 : Int) kids i) nodes.length) <|
    let v26 : Bool := (((rdx ((0 : Int), ((0 : Int), ([] : List Int))) nodes (rdx (0 : Int) kids i)).1) == key_Kind)
    bif v26 then
      let v32 : Bool := ((((rdx ((0 : Int), ((0 : Int), ([] : List Int))) nodes (rdx (0 : Int) kids i)).2).1) == key_Value)
      jn (fun t => B_Z63_J0 k again1 t.1 t.2.1 t.2.2.1.1 t.2.2.1.2.1 t.2.2.2.1 t.2.2.2.2.1) (nodes, kids, (key_Kind, key_Value, (), ()), i, v32, ())
    else
      jn (fun t => B_Z63_J0 k again1 t.1 t.2.1 t.2.2.1.1 t.2.2.1.2.1 t.2.2.2.1 t.2.2.2.2.1) (nodes, kids, (key_Kind, key_Value, (), ()), i, false, ())
  else
    some (((-1), ()), ())
def B_Z63_L1 (k : Nat) (n : Nat) (t : T_Z63_L1) : R_Z63 :=
  lfix n (fun again t => B_Z63_L1b k again t.1 t.2.1 t.2.2.1.1 t.2.2.1.2.1 t.2.2.2.1) t
def B_Z63 (k : Nat) (nodes : List (Int × Int × List Int)) (kids : List Int) (key_0 key_1 : Int) : R_Z63 :=
  B_Z63_L1 k k (nodes, kids, (key_0, key_1, (), ()), 0, ())
def F_Z63 : Nat → C_Z63
  | 0, _, _, _, _ => none
  | k + 1, nodes, kids, key_0, key_1 => B_Z63 k nodes kids key_0 key_1
theorem tot_Z63 {nodes kids key_0 key_1 : _} {Q : _ → Prop} (h : Tot (fun σ => B_Z63 (σ 0) nodes kids key_0 key_1) Q) : Tot (fun σ => F_Z63 (σ 0) nodes kids key_0 key_1) Q :=
  Tot.call (F := fun k => F_Z63 k nodes kids key_0 key_1) (B := fun k => B_Z63 k nodes kids key_0 key_1) (fun k => rfl) h
abbrev A_Z63_L1 (Z : Type) : Type := (List (Int × Int × List Int)) → List Int → Int → Int → Int → Z
abbrev u_Z63_L1 {Z : Type} (f : A_Z63_L1 Z) (t : T_Z63_L1) : Z := f t.1 t.2.1 t.2.2.1.1 t.2.2.1.2.1 t.2.2.2.1
theorem loop_Z63_L1 {Q : A_Z63_L1 (((Int × Unit) × (Unit)) → Prop)} (I : A_Z63_L1 Prop) (μ : A_Z63_L1 Nat)
    (step : ∀ a0 a1 a2 a3 a4, I a0 a1 a2 a3 a4 → ∀ again : (Nat → Nat) → T_Z63_L1 → R_Z63, Dep 2 again → (∀ y0 y1 y2 y3 y4, I y0 y1 y2 y3 y4 → μ y0 y1 y2 y3 y4 < μ a0 a1 a2 a3 a4 → Tot (fun σ => again σ (y0, y1, (y2, y3, (), ()), y4, ())) (Q y0 y1 y2 y3 y4)) →
      Tot (fun σ => B_Z63_L1b (σ 0) (again σ) a0 a1 a2 a3 a4) (Q a0 a1 a2 a3 a4)) :
    ∀ a0 a1 a2 a3 a4, I a0 a1 a2 a3 a4 → Tot (fun σ => B_Z63_L1 (σ 0) (σ 0) (a0, a1, (a2, a3, (), ()), a4, ())) (Q a0 a1 a2 a3 a4) := fun a0 a1 a2 a3 a4 => Tot.loop0 (L := fun k => B_Z63_L1 k) (B := fun k g => u_Z63_L1 (B_Z63_L1b k g)) (Q := u_Z63_L1 Q) (fun _ _ _ => rfl) (u_Z63_L1 I) (u_Z63_L1 μ)
    (fun t ht again hag h => step t.1 t.2.1 t.2.2.1.1 t.2.2.1.2.1 t.2.2.2.1 ht again hag fun y0 y1 y2 y3 y4 => h (y0, y1, (y2, y3, (), ()), y4, ())) (a0, a1, (a2, a3, (), ()), a4, ())
abbrev R_i_nodeOk : Type := Option ((Bool × Unit) × (Unit))
abbrev C_i_nodeOk : Type := (List (Int × Int × List Int)) → Int → Int → List Int → R_i_nodeOk
abbrev T_i_nodeOk_L2 : Type := (List (Int × Int × List Int)) × (Int × Int × List Int × Unit) × Int × Unit
def B_i_nodeOk_J1 (k : Nat) (c_Z63 : C_Z63) (again2 : T_i_nodeOk_L2 → R_i_nodeOk) (nodes : List (Int × Int × List Int)) (x_Kind x_Value : Int) (x_Kids : List Int) (i : Int) (t97 : Bool) : R_i_nodeOk :=
  bif t97 then
    some ((false, ()), ())
  else
    again2 (nodes, (x_Kind, x_Value, x_Kids, ()), w64 (i + 2), ())
def B_i_nodeOk_L2b (k : Nat) (c_Z63 : C_Z63) (again2 : T_i_nodeOk_L2 → R_i_nodeOk) (nodes : List (Int × Int × List Int)) (x_Kind x_Value : Int) (x_Kids : List Int) (i : Int) : R_i_nodeOk :=
  bif decide (i < (len x_Kids)) then
    chk (inb i x_Kids.length) <|
    chk (inb (rdx (0 : Int) x_Kids i) nodes.length) <|
    let v82 : Bool := decide (((rdx ((0 : Int), ((0 : Int), ([] : List Int))) nodes (rdx (0 : Int) x_Kids i)).1) > 1)
    bif v82 then
      jn (fun t => B_i_nodeOk_J1 k c_Z63 again2 t.1 t.2.1.1 t.2.1.2.1 t.2.1.2.2.1 t.2.2.1 t.2.2.2.1) (nodes, (x_Kind, x_Value, x_Kids, ()), i, true, ())
    else
      let v86 : Bool := decide (((rdx ((0 : Int), ((0 : Int), ([] : List Int))) nodes (rdx (0 : Int) x_Kids i)).1) < 0)
      bif v86 then
        jn (fun t => B_i_nodeOk_J1 k c_Z63 again2 t.1 t.2.1.1 t.2.1.2.1 t.2.1.2.2.1 t.2.2.1 t.2.2.2.1) (nodes, (x_Kind, x_Value, x_Kids, ()), i, true, ())
      else
        chk (cutb 0 i x_Kids.length) <|
        (c_Z63 nodes (sub x_Kids 0 i) ((rdx ((0 : Int), ((0 : Int), ([] : List Int))) nodes (rdx (0 : Int) x_Kids i)).1) (((rdx ((0 : Int), ((0 : Int), ([] : List Int))) nodes (rdx (0 : Int) x_Kids i)).2).1)).bind fun r95 =>
        jn (fun t => B_i_nodeOk_J1 k c_Z63 again2 t.1 t.2.1.1 t.2.1.2.1 t.2.1.2.2.1 t.2.2.1 t.2.2.2.1) (nodes, (x_Kind, x_Value, x_Kids, ()), i, decide (r95.1.1 ≥ 0), ())
  else
    bif (x_Value == 0) then
      some (((((len x_Kids).tmod 2) == 0), ()), ())
    else
      some ((false, ()), ())
def B_i_nodeOk_L2 (k : Nat) (c_Z63 : C_Z63) (n : Nat) (t : T_i_nodeOk_L2) : R_i_nodeOk :=
  lfix n (fun again t => B_i_nodeOk_L2b k c_Z63 again t.1 t.2.1.1 t.2.1.2.1 t.2.1.2.2.1 t.2.2.1) t
def B_i_nodeOk_J0 (k : Nat) (c_Z63 : C_Z63) (nodes : List (Int × Int × List Int)) (x_Kind x_Value : Int) (x_Kids : List Int) (t8 : Int) (t41 : Bool) : R_i_nodeOk :=
  bif t41 then
    some (((x_Value == 0), ()), ())
  else
    bif (t8 == 5) then
      bif decide (x_Value ≥ 0) then
        bif decide (x_Value ≤ 9) then
          some ((decide ((len x_Kids) ≤ 1), ()), ())
        else
          some ((false, ()), ())
      else
        some ((false, ()), ())
    else
      bif (t8 == 4) then
        B_i_nodeOk_L2 k c_Z63 k (nodes, (x_Kind, x_Value, x_Kids, ()), 0, ())
      else
        some ((false, ()), ())
def B_i_nodeOk (k : Nat) (c_Z63 : C_Z63) (nodes : List (Int × Int × List Int)) (x_0 x_1 : Int) (x_2 : List Int) : R_i_nodeOk :=
  bif (x_0 == 0) then
    bif decide (x_1 ≥ 0) then
      bif decide (x_1 ≤ 999) then
        some ((((len x_2) == 0), ()), ())
      else
        some ((false, ()), ())
    else
      some ((false, ()), ())
  else
    bif (x_0 == 1) then
      bif decide (x_1 ≥ 0) then
        bif decide (x_1 ≤ 9) then
          some ((((len x_2) == 0), ()), ())
        else
          some ((false, ()), ())
      else
        some ((false, ()), ())
    else
      bif (x_0 == 2) then
        jn (fun t => B_i_nodeOk_J0 k c_Z63 t.1 t.2.1.1 t.2.1.2.1 t.2.1.2.2.1 t.2.2.1 t.2.2.2.1) (nodes, (x_0, x_1, x_2, ()), x_0, (x_0 == 2), ())
      else
        jn (fun t => B_i_nodeOk_J0 k c_Z63 t.1 t.2.1.1 t.2.1.2.1 t.2.1.2.2.1 t.2.2.1 t.2.2.2.1) (nodes, (x_0, x_1, x_2, ()), x_0, (x_0 == 3), ())
def F_i_nodeOk : Nat → C_i_nodeOk
  | 0, _, _, _, _ => none
  | k + 1, nodes, x_0, x_1, x_2 => B_i_nodeOk k (F_Z63 k) nodes x_0 x_1 x_2
theorem tot_i_nodeOk {nodes x_0 x_1 x_2 : _} {Q : _ → Prop} (h : Tot (fun σ => B_i_nodeOk (σ 0) (F_Z63 (σ 0)) nodes x_0 x_1 x_2) Q) : Tot (fun σ => F_i_nodeOk (σ 0) nodes x_0 x_1 x_2) Q :=
  Tot.call (F := fun k => F_i_nodeOk k nodes x_0 x_1 x_2) (B := fun k => B_i_nodeOk k (F_Z63 k) nodes x_0 x_1 x_2) (fun k => rfl) h
abbrev A_i_nodeOk_L2 (Z : Type) : Type := (List (Int × Int × List Int)) → Int → Int → List Int → Int → Z
abbrev u_i_nodeOk_L2 {Z : Type} (f : A_i_nodeOk_L2 Z) (t : T_i_nodeOk_L2) : Z := f t.1 t.2.1.1 t.2.1.2.1 t.2.1.2.2.1 t.2.2.1
theorem loop_i_nodeOk_L2 {Q : A_i_nodeOk_L2 (((Bool × Unit) × (Unit)) → Prop)} (I : A_i_nodeOk_L2 Prop) (μ : A_i_nodeOk_L2 Nat)
    (step : ∀ a0 a1 a2 a3 a4, I a0 a1 a2 a3 a4 → ∀ again : (Nat → Nat) → T_i_nodeOk_L2 → R_i_nodeOk, Dep 2 again → (∀ y0 y1 y2 y3 y4, I y0 y1 y2 y3 y4 → μ y0 y1 y2 y3 y4 < μ a0 a1 a2 a3 a4 → Tot (fun σ => again σ (y0, (y1, y2, y3, ()), y4, ())) (Q y0 y1 y2 y3 y4)) →
      Tot (fun σ => B_i_nodeOk_L2b (σ 0) (F_Z63 (σ 0)) (again σ) a0 a1 a2 a3 a4) (Q a0 a1 a2 a3 a4)) :
    ∀ a0 a1 a2 a3 a4, I a0 a1 a2 a3 a4 → Tot (fun σ => B_i_nodeOk_L2 (σ 0) (F_Z63 (σ 0)) (σ 0) (a0, (a1, a2, a3, ()), a4, ())) (Q a0 a1 a2 a3 a4) := fun a0 a1 a2 a3 a4 => Tot.loop0 (L := fun k => B_i_nodeOk_L2 k (F_Z63 k)) (B := fun k g => u_i_nodeOk_L2 (B_i_nodeOk_L2b k (F_Z63 k) g)) (Q := u_i_nodeOk_L2 Q) (fun _ _ _ => rfl) (u_i_nodeOk_L2 I) (u_i_nodeOk_L2 μ)
    (fun t ht again hag h => step t.1 t.2.1.1 t.2.1.2.1 t.2.1.2.2.1 t.2.2.1 ht again hag fun y0 y1 y2 y3 y4 => h (y0, (y1, y2, y3, ()), y4, ())) (a0, (a1, a2, a3, ()), a4, ())
abbrev R_Z15 : Type := Option ((Bool × Unit) × (Unit))
abbrev C_Z15 : Type := Int → Int → List Int → R_Z15
def B_Z15 (k : Nat) (x_0 x_1 : Int) (x_2 : List Int) : R_Z15 :=
  some (((x_0 == 2), ()), ())
def F_Z15 : Nat → C_Z15
  | 0, _, _, _ => none
  | k + 1, x_0, x_1, x_2 => B_Z15 k x_0 x_1 x_2
theorem tot_Z15 {x_0 x_1 x_2 : _} {Q : _ → Prop} (h : Tot (fun σ => B_Z15 (σ 0) x_0 x_1 x_2) Q) : Tot (fun σ => F_Z15 (σ 0) x_0 x_1 x_2) Q :=
  Tot.call (F := fun k => F_Z15 k x_0 x_1 x_2) (B := fun k => B_Z15 k x_0 x_1 x_2) (fun k => rfl) h
abbrev R_Z4 : Type := Option ((Bool × Unit) × (Unit))
abbrev C_Z4 : Type := (List (Int × Int × List Int)) → Int → R_Z4
abbrev T_Z4_L2 : Type := (List (Int × Int × List Int)) × Int × Unit × (List (Int × Bool)) × List Int × List Int × Int × Int × Unit
abbrev T_Z4_L3 : Type := (List (Int × Int × List Int)) × Int × Unit × (List (Int × Bool)) × List Int × Unit
def B_Z4_J1 (k : Nat) (c_Z15 : C_Z15) (again2 : T_Z4_L2 → R_Z4) (nodes : List (Int × Int × List Int)) (from1 : Int) (seen : List (Int × Bool)) (list t33 : List Int) (t34 t35 : Int) : R_Z4 :=
  again2 (nodes, from1, (), seen, list, t33, t34, w64 (t35 + 1), ())
def B_Z4_J0 (k : Nat) (c_Z15 : C_Z15) (again2 : T_Z4_L2 → R_Z4) (nodes : List (Int × Int × List Int)) (from1 : Int) (seen : List (Int × Bool)) (list : List Int) (k11 : Int) (t33 : List Int) (t34 t35 : Int) (t53 : Bool) : R_Z4 :=
  bif t53 then
    chk (room list.length ([k11]).length) <|
    jn (fun t => B_Z4_J1 k c_Z15 again2 t.1 t.2.1 t.2.2.2.1 t.2.2.2.2.1 t.2.2.2.2.2.1 t.2.2.2.2.2.2.1 t.2.2.2.2.2.2.2.1) (nodes, from1, (), (mput seen k11 true), (list ++ [k11]), t33, t34, t35, ())
  else
    jn (fun t => B_Z4_J1 k c_Z15 again2 t.1 t.2.1 t.2.2.2.1 t.2.2.2.2.1 t.2.2.2.2.2.1 t.2.2.2.2.2.2.1 t.2.2.2.2.2.2.2.1) (nodes, from1, (), seen, list, t33, t34, t35, ())
def B_Z4_L2b (k : Nat) (c_Z15 : C_Z15) (again3 : T_Z4_L3 → R_Z4) (again2 : T_Z4_L2 → R_Z4) (nodes : List (Int × Int × List Int)) (from1 : Int) (seen : List (Int × Bool)) (list t33 : List Int) (t34 t35 : Int) : R_Z4 :=
  bif decide (t35 < t34) then
    chk (inb t35 t33.length) <|
    bif ((rdx (0 : Int) t33 t35) == from1) then
      some ((true, ()), ())
    else
      chk (inb (rdx (0 : Int) t33 t35) nodes.length) <|
      (c_Z15 ((rdx ((0 : Int), ((0 : Int), ([] : List Int))) nodes (rdx (0 : Int) t33 t35)).1) (((rdx ((0 : Int), ((0 : Int), ([] : List Int))) nodes (rdx (0 : Int) t33 t35)).2).1) (((rdx ((0 : Int), ((0 : Int), ([] : List Int))) nodes (rdx (0 : Int) t33 t35)).2).2)).bind fun r47 =>
      bif r47.1.1 then
        jn (fun t => B_Z4_J0 k c_Z15 again2 t.1 t.2.1 t.2.2.2.1 t.2.2.2.2.1 t.2.2.2.2.2.1 t.2.2.2.2.2.2.1 t.2.2.2.2.2.2.2.1 t.2.2.2.2.2.2.2.2.1 t.2.2.2.2.2.2.2.2.2.1) (nodes, from1, (), seen, list, (rdx (0 : Int) t33 t35), t33, t34, t35, (!((mfind seen (rdx (0 : Int) t33 t35)).getD false)), ())
      else
        jn (fun t => B_Z4_J0 k c_Z15 again2 t.1 t.2.1 t.2.2.2.1 t.2.2.2.2.1 t.2.2.2.2.2.1 t.2.2.2.2.2.2.1 t.2.2.2.2.2.2.2.1 t.2.2.2.2.2.2.2.2.1 t.2.2.2.2.2.2.2.2.2.1) (nodes, from1, (), seen, list, (rdx (0 : Int) t33 t35), t33, t34, t35, false, ())
  else
    again3 (nodes, from1, (), seen, list, ())
def B_Z4_L2 (k : Nat) (c_Z15 : C_Z15) (again3 : T_Z4_L3 → R_Z4) (n : Nat) (t : T_Z4_L2) : R_Z4 :=
  lfix n (fun again t => B_Z4_L2b k c_Z15 again3 again t.1 t.2.1 t.2.2.2.1 t.2.2.2.2.1 t.2.2.2.2.2.1 t.2.2.2.2.2.2.1 t.2.2.2.2.2.2.2.1) t
def B_Z4_L3b (k : Nat) (c_Z15 : C_Z15) (again3 : T_Z4_L3 → R_Z4) (nodes : List (Int × Int × List Int)) (from1 : Int) (seen : List (Int × Bool)) (list : List Int) : R_Z4 :=
  bif decide ((len list) > 0) then
    chk (inb (w64 ((len list) - 1)) list.length) <|
    chk (decide ((w64 ((len list) - 1)).toNat < list.length)) <|
    chk (cutb 0 (w64 ((len list) - 1)) list.length) <|
    chk (inb (list.getD ((w64 ((len list) - 1)).toNat) (0 : Int)) nodes.length) <|
    let v34 : Int := len (((rdx ((0 : Int), ((0 : Int), ([] : List Int))) nodes (list.getD ((w64 ((len list) - 1)).toNat) (0 : Int))).2).2)
    B_Z4_L2 k c_Z15 again3 k (nodes, from1, (), seen, (list.take ((w64 ((len list) - 1)).toNat)), ((rdx ((0 : Int), ((0 : Int), ([] : List Int))) nodes (list.getD ((w64 ((len list) - 1)).toNat) (0 : Int))).2).2, v34, 0, ())
  else
    some ((false, ()), ())
def B_Z4_L3 (k : Nat) (c_Z15 : C_Z15) (n : Nat) (t : T_Z4_L3) : R_Z4 :=
  lfix n (fun again t => B_Z4_L3b k c_Z15 again t.1 t.2.1 t.2.2.2.1 t.2.2.2.2.1) t
def B_Z4 (k : Nat) (c_Z15 : C_Z15) (nodes : List (Int × Int × List Int)) (from1 : Int) : R_Z4 :=
  B_Z4_L3 k c_Z15 k (nodes, from1, (), ([] : List (Int × Bool)), [from1], ())
def F_Z4 : Nat → C_Z4
  | 0, _, _ => none
  | k + 1, nodes, from1 => B_Z4 k (F_Z15 k) nodes from1
theorem tot_Z4 {nodes from1 : _} {Q : _ → Prop} (h : Tot (fun σ => B_Z4 (σ 0) (F_Z15 (σ 0)) nodes from1) Q) : Tot (fun σ => F_Z4 (σ 0) nodes from1) Q :=
  Tot.call (F := fun k => F_Z4 k nodes from1) (B := fun k => B_Z4 k (F_Z15 k) nodes from1) (fun k => rfl) h
abbrev A_Z4_L2 (Z : Type) : Type := (List (Int × Int × List Int)) → Int → (List (Int × Bool)) → List Int → List Int → Int → Int → Z
abbrev u_Z4_L2 {Z : Type} (f : A_Z4_L2 Z) (t : T_Z4_L2) : Z := f t.1 t.2.1 t.2.2.2.1 t.2.2.2.2.1 t.2.2.2.2.2.1 t.2.2.2.2.2.2.1 t.2.2.2.2.2.2.2.1
theorem loop_Z4_L2 {again3 : (Nat → Nat) → T_Z4_L3 → R_Z4} (hag3 : Dep 2 again3) {Q : A_Z4_L2 (((Bool × Unit) × (Unit)) → Prop)} (I : A_Z4_L2 Prop) (μ : A_Z4_L2 Nat)
    (step : ∀ a0 a1 a2 a3 a4 a5 a6, I a0 a1 a2 a3 a4 a5 a6 → ∀ again : (Nat → Nat) → T_Z4_L2 → R_Z4, Dep 3 again → (∀ y0 y1 y2 y3 y4 y5 y6, I y0 y1 y2 y3 y4 y5 y6 → μ y0 y1 y2 y3 y4 y5 y6 < μ a0 a1 a2 a3 a4 a5 a6 → Tot (fun σ => again σ (y0, y1, (), y2, y3, y4, y5, y6, ())) (Q y0 y1 y2 y3 y4 y5 y6)) →
      Tot (fun σ => B_Z4_L2b (σ 0) (F_Z15 (σ 0)) (again3 σ) (again σ) a0 a1 a2 a3 a4 a5 a6) (Q a0 a1 a2 a3 a4 a5 a6)) :
    ∀ a0 a1 a2 a3 a4 a5 a6, I a0 a1 a2 a3 a4 a5 a6 → Tot (fun σ => B_Z4_L2 (σ 0) (F_Z15 (σ 0)) (again3 σ) (σ 0) (a0, a1, (), a2, a3, a4, a5, a6, ())) (Q a0 a1 a2 a3 a4 a5 a6) := fun a0 a1 a2 a3 a4 a5 a6 => Tot.loop (L := fun σ n t => B_Z4_L2 (σ 0) (F_Z15 (σ 0)) (again3 σ) n t) (B := fun σ g => u_Z4_L2 (B_Z4_L2b (σ 0) (F_Z15 (σ 0)) (again3 σ) g)) (Q := u_Z4_L2 Q) 2 (by decide)
    (fun s s' h => by have e0 : s 0 = s' 0 := h 0 (by decide); simp only [e0, hag3 s s' h]) (fun s s' h => by have e0 : s 0 = s' 0 := h 0 (by decide); simp only [e0, hag3 s s' h]) (fun _ _ _ => rfl) (u_Z4_L2 I) (u_Z4_L2 μ)
    (fun t ht again hag h => step t.1 t.2.1 t.2.2.2.1 t.2.2.2.2.1 t.2.2.2.2.2.1 t.2.2.2.2.2.2.1 t.2.2.2.2.2.2.2.1 ht again hag fun y0 y1 y2 y3 y4 y5 y6 => h (y0, y1, (), y2, y3, y4, y5, y6, ())) (a0, a1, (), a2, a3, a4, a5, a6, ())
abbrev A_Z4_L3 (Z : Type) : Type := (List (Int × Int × List Int)) → Int → (List (Int × Bool)) → List Int → Z
abbrev u_Z4_L3 {Z : Type} (f : A_Z4_L3 Z) (t : T_Z4_L3) : Z := f t.1 t.2.1 t.2.2.2.1 t.2.2.2.2.1
theorem loop_Z4_L3 {Q : A_Z4_L3 (((Bool × Unit) × (Unit)) → Prop)} (I : A_Z4_L3 Prop) (μ : A_Z4_L3 Nat)
    (step : ∀ a0 a1 a2 a3, I a0 a1 a2 a3 → ∀ again : (Nat → Nat) → T_Z4_L3 → R_Z4, Dep 2 again → (∀ y0 y1 y2 y3, I y0 y1 y2 y3 → μ y0 y1 y2 y3 < μ a0 a1 a2 a3 → Tot (fun σ => again σ (y0, y1, (), y2, y3, ())) (Q y0 y1 y2 y3)) →
      Tot (fun σ => B_Z4_L3b (σ 0) (F_Z15 (σ 0)) (again σ) a0 a1 a2 a3) (Q a0 a1 a2 a3)) :
    ∀ a0 a1 a2 a3, I a0 a1 a2 a3 → Tot (fun σ => B_Z4_L3 (σ 0) (F_Z15 (σ 0)) (σ 0) (a0, a1, (), a2, a3, ())) (Q a0 a1 a2 a3) := fun a0 a1 a2 a3 => Tot.loop0 (L := fun k => B_Z4_L3 k (F_Z15 k)) (B := fun k g => u_Z4_L3 (B_Z4_L3b k (F_Z15 k) g)) (Q := u_Z4_L3 Q) (fun _ _ _ => rfl) (u_Z4_L3 I) (u_Z4_L3 μ)
    (fun t ht again hag h => step t.1 t.2.1 t.2.2.2.1 t.2.2.2.2.1 ht again hag fun y0 y1 y2 y3 => h (y0, y1, (), y2, y3, ())) (a0, a1, (), a2, a3, ())
abbrev R_Z25 : Type := Option ((Bool × Unit) × (Unit))
abbrev C_Z25 : Type := (List (Int × Int × List Int)) → Int → R_Z25
abbrev T_Z25_L5 : Type := ((List (Int × Int × List Int)) × Int × Unit) × Int × Int × Unit
abbrev T_Z25_L3 : Type := ((List (Int × Int × List Int)) × Int × Unit) × (List (Int × Int × List Int)) × Int × Int × Unit
abbrev T_Z25_L2 : Type := ((List (Int × Int × List Int)) × Int × Unit) × (Int × Unit) × (List (Int × Int × List Int)) × Int × Int × Unit
def B_Z25_J1 (k : Nat) (c_Z0 : C_Z0) (c_i_nodeOk : C_i_nodeOk) (c_Z4 : C_Z4) (again2 : T_Z25_L2 → R_Z25) (g_Nodes : List (Int × Int × List Int)) (g_Root n3 : Int) (t30 : List (Int × Int × List Int)) (t31 t32 : Int) (t45 : Bool) : R_Z25 :=
  bif t45 then
    some ((false, ()), ())
  else
    again2 ((g_Nodes, g_Root, ()), (n3, ()), t30, t31, w64 (t32 + 1), ())
def B_Z25_J4 (k : Nat) (c_Z0 : C_Z0) (c_i_nodeOk : C_i_nodeOk) (c_Z4 : C_Z4) (again5 : T_Z25_L5 → R_Z25) (g_Nodes : List (Int × Int × List Int)) (g_Root t62 t63 : Int) (t78 : Bool) : R_Z25 :=
  bif t78 then
    some ((false, ()), ())
  else
    again5 ((g_Nodes, g_Root, ()), t62, w64 (t63 + 1), ())
def B_Z25_L5b (k : Nat) (c_Z0 : C_Z0) (c_i_nodeOk : C_i_nodeOk) (c_Z4 : C_Z4) (again5 : T_Z25_L5 → R_Z25) (g_Nodes : List (Int × Int × List Int)) (g_Root t62 t63 : Int) : R_Z25 :=
  bif decide (t63 < t62) then
    chk (inb t63 g_Nodes.length) <|
    bif (((rdx ((0 : Int), ((0 : Int), ([] : List Int))) g_Nodes t63).1) == 2) then
      (c_Z4 g_Nodes t63).bind fun r77 =>
      jn (fun t => B_Z25_J4 k c_Z0 c_i_nodeOk c_Z4 again5 t.1.1 t.1.2.1 t.2.1 t.2.2.1 t.2.2.2.1) ((g_Nodes, g_Root, ()), t62, t63, r77.1.1, ())
    else
      jn (fun t => B_Z25_J4 k c_Z0 c_i_nodeOk c_Z4 again5 t.1.1 t.1.2.1 t.2.1 t.2.2.1 t.2.2.2.1) ((g_Nodes, g_Root, ()), t62, t63, false, ())
  else
    some ((true, ()), ())
def B_Z25_L5 (k : Nat) (c_Z0 : C_Z0) (c_i_nodeOk : C_i_nodeOk) (c_Z4 : C_Z4) (n : Nat) (t : T_Z25_L5) : R_Z25 :=
  lfix n (fun again t => B_Z25_L5b k c_Z0 c_i_nodeOk c_Z4 again t.1.1 t.1.2.1 t.2.1 t.2.2.1) t
def B_Z25_L3b (k : Nat) (c_Z0 : C_Z0) (c_i_nodeOk : C_i_nodeOk) (c_Z4 : C_Z4) (again3 : T_Z25_L3 → R_Z25) (g_Nodes : List (Int × Int × List Int)) (g_Root : Int) (t48 : List (Int × Int × List Int)) (t49 t50 : Int) : R_Z25 :=
  bif decide (t50 < t49) then
    chk (inb t50 t48.length) <|
    (c_i_nodeOk g_Nodes ((rdx ((0 : Int), ((0 : Int), ([] : List Int))) t48 t50).1) (((rdx ((0 : Int), ((0 : Int), ([] : List Int))) t48 t50).2).1) (((rdx ((0 : Int), ((0 : Int), ([] : List Int))) t48 t50).2).2)).bind fun r57 =>
    bif (!r57.1.1) then
      some ((false, ()), ())
    else
      again3 ((g_Nodes, g_Root, ()), t48, t49, w64 (t50 + 1), ())
  else
    B_Z25_L5 k c_Z0 c_i_nodeOk c_Z4 k ((g_Nodes, g_Root, ()), len g_Nodes, 0, ())
def B_Z25_L3 (k : Nat) (c_Z0 : C_Z0) (c_i_nodeOk : C_i_nodeOk) (c_Z4 : C_Z4) (n : Nat) (t : T_Z25_L3) : R_Z25 :=
  lfix n (fun again t => B_Z25_L3b k c_Z0 c_i_nodeOk c_Z4 again t.1.1 t.1.2.1 t.2.1 t.2.2.1 t.2.2.2.1) t
def B_Z25_L2b (k : Nat) (c_Z0 : C_Z0) (c_i_nodeOk : C_i_nodeOk) (c_Z4 : C_Z4) (again2 : T_Z25_L2 → R_Z25) (g_Nodes : List (Int × Int × List Int)) (g_Root n3 : Int) (t30 : List (Int × Int × List Int)) (t31 t32 : Int) : R_Z25 :=
  bif decide (t32 < t31) then
    chk (inb t32 t30.length) <|
    bif decide ((len (((rdx ((0 : Int), ((0 : Int), ([] : List Int))) t30 t32).2).2)) > 6) then
      jn (fun t => B_Z25_J1 k c_Z0 c_i_nodeOk c_Z4 again2 t.1.1 t.1.2.1 t.2.1.1 t.2.2.1 t.2.2.2.1 t.2.2.2.2.1 t.2.2.2.2.2.1) ((g_Nodes, g_Root, ()), (n3, ()), t30, t31, t32, true, ())
    else
      (c_Z0 (((rdx ((0 : Int), ((0 : Int), ([] : List Int))) t30 t32).2).2) n3).bind fun r44 =>
      jn (fun t => B_Z25_J1 k c_Z0 c_i_nodeOk c_Z4 again2 t.1.1 t.1.2.1 t.2.1.1 t.2.2.1 t.2.2.2.1 t.2.2.2.2.1 t.2.2.2.2.2.1) ((g_Nodes, g_Root, ()), (r44.2.1.1, ()), t30, t31, t32, r44.1.1, ())
  else
    B_Z25_L3 k c_Z0 c_i_nodeOk c_Z4 k ((g_Nodes, g_Root, ()), g_Nodes, len g_Nodes, 0, ())
def B_Z25_L2 (k : Nat) (c_Z0 : C_Z0) (c_i_nodeOk : C_i_nodeOk) (c_Z4 : C_Z4) (n : Nat) (t : T_Z25_L2) : R_Z25 :=
  lfix n (fun again t => B_Z25_L2b k c_Z0 c_i_nodeOk c_Z4 again t.1.1 t.1.2.1 t.2.1.1 t.2.2.1 t.2.2.2.1 t.2.2.2.2.1) t
def B_Z25_J0 (k : Nat) (c_Z0 : C_Z0) (c_i_nodeOk : C_i_nodeOk) (c_Z4 : C_Z4) (g_Nodes : List (Int × Int × List Int)) (g_Root n3 : Int) (t28 : Bool) : R_Z25 :=
  bif t28 then
    some ((false, ()), ())
  else
    B_Z25_L2 k c_Z0 c_i_nodeOk c_Z4 k ((g_Nodes, g_Root, ()), (n3, ()), g_Nodes, len g_Nodes, 0, ())
def B_Z25 (k : Nat) (c_Z0 : C_Z0) (c_i_nodeOk : C_i_nodeOk) (c_Z4 : C_Z4) (g_0 : List (Int × Int × List Int)) (g_1 : Int) : R_Z25 :=
  bif decide ((len g_0) < 1) then
    jn (fun t => B_Z25_J0 k c_Z0 c_i_nodeOk c_Z4 t.1.1 t.1.2.1 t.2.1.1 t.2.2.1) ((g_0, g_1, ()), (len g_0, ()), true, ())
  else
    bif decide ((len g_0) > 12) then
      jn (fun t => B_Z25_J0 k c_Z0 c_i_nodeOk c_Z4 t.1.1 t.1.2.1 t.2.1.1 t.2.2.1) ((g_0, g_1, ()), (len g_0, ()), true, ())
    else
      bif decide (g_1 < 0) then
        jn (fun t => B_Z25_J0 k c_Z0 c_i_nodeOk c_Z4 t.1.1 t.1.2.1 t.2.1.1 t.2.2.1) ((g_0, g_1, ()), (len g_0, ()), true, ())
      else
        jn (fun t => B_Z25_J0 k c_Z0 c_i_nodeOk c_Z4 t.1.1 t.1.2.1 t.2.1.1 t.2.2.1) ((g_0, g_1, ()), (len g_0, ()), decide (g_1 ≥ (len g_0)), ())
def F_Z25 : Nat → C_Z25
  | 0, _, _ => none
  | k + 1, g_0, g_1 => B_Z25 k (F_Z0 k) (F_i_nodeOk k) (F_Z4 k) g_0 g_1
theorem tot_Z25 {g_0 g_1 : _} {Q : _ → Prop} (h : Tot (fun σ => B_Z25 (σ 0) (F_Z0 (σ 0)) (F_i_nodeOk (σ 0)) (F_Z4 (σ 0)) g_0 g_1) Q) : Tot (fun σ => F_Z25 (σ 0) g_0 g_1) Q :=
  Tot.call (F := fun k => F_Z25 k g_0 g_1) (B := fun k => B_Z25 k (F_Z0 k) (F_i_nodeOk k) (F_Z4 k) g_0 g_1) (fun k => rfl) h
abbrev A_Z25_L5 (Z : Type) : Type := (List (Int × Int × List Int)) → Int → Int → Int → Z
abbrev u_Z25_L5 {Z : Type} (f : A_Z25_L5 Z) (t : T_Z25_L5) : Z := f t.1.1 t.1.2.1 t.2.1 t.2.2.1
theorem loop_Z25_L5 {Q : A_Z25_L5 (((Bool × Unit) × (Unit)) → Prop)} (I : A_Z25_L5 Prop) (μ : A_Z25_L5 Nat)
    (step : ∀ a0 a1 a2 a3, I a0 a1 a2 a3 → ∀ again : (Nat → Nat) → T_Z25_L5 → R_Z25, Dep 2 again → (∀ y0 y1 y2 y3, I y0 y1 y2 y3 → μ y0 y1 y2 y3 < μ a0 a1 a2 a3 → Tot (fun σ => again σ ((y0, y1, ()), y2, y3, ())) (Q y0 y1 y2 y3)) →
      Tot (fun σ => B_Z25_L5b (σ 0) (F_Z0 (σ 0)) (F_i_nodeOk (σ 0)) (F_Z4 (σ 0)) (again σ) a0 a1 a2 a3) (Q a0 a1 a2 a3)) :
    ∀ a0 a1 a2 a3, I a0 a1 a2 a3 → Tot (fun σ => B_Z25_L5 (σ 0) (F_Z0 (σ 0)) (F_i_nodeOk (σ 0)) (F_Z4 (σ 0)) (σ 0) ((a0, a1, ()), a2, a3, ())) (Q a0 a1 a2 a3) := fun a0 a1 a2 a3 => Tot.loop0 (L := fun k => B_Z25_L5 k (F_Z0 k) (F_i_nodeOk k) (F_Z4 k)) (B := fun k g => u_Z25_L5 (B_Z25_L5b k (F_Z0 k) (F_i_nodeOk k) (F_Z4 k) g)) (Q := u_Z25_L5 Q) (fun _ _ _ => rfl) (u_Z25_L5 I) (u_Z25_L5 μ)
    (fun t ht again hag h => step t.1.1 t.1.2.1 t.2.1 t.2.2.1 ht again hag fun y0 y1 y2 y3 => h ((y0, y1, ()), y2, y3, ())) ((a0, a1, ()), a2, a3, ())
abbrev A_Z25_L3 (Z : Type) : Type := (List (Int × Int × List Int)) → Int → (List (Int × Int × List Int)) → Int → Int → Z
abbrev u_Z25_L3 {Z : Type} (f : A_Z25_L3 Z) (t : T_Z25_L3) : Z := f t.1.1 t.1.2.1 t.2.1 t.2.2.1 t.2.2.2.1
theorem loop_Z25_L3 {Q : A_Z25_L3 (((Bool × Unit) × (Unit)) → Prop)} (I : A_Z25_L3 Prop) (μ : A_Z25_L3 Nat)
    (step : ∀ a0 a1 a2 a3 a4, I a0 a1 a2 a3 a4 → ∀ again : (Nat → Nat) → T_Z25_L3 → R_Z25, Dep 2 again → (∀ y0 y1 y2 y3 y4, I y0 y1 y2 y3 y4 → μ y0 y1 y2 y3 y4 < μ a0 a1 a2 a3 a4 → Tot (fun σ => again σ ((y0, y1, ()), y2, y3, y4, ())) (Q y0 y1 y2 y3 y4)) →
      Tot (fun σ => B_Z25_L3b (σ 0) (F_Z0 (σ 0)) (F_i_nodeOk (σ 0)) (F_Z4 (σ 0)) (again σ) a0 a1 a2 a3 a4) (Q a0 a1 a2 a3 a4)) :
    ∀ a0 a1 a2 a3 a4, I a0 a1 a2 a3 a4 → Tot (fun σ => B_Z25_L3 (σ 0) (F_Z0 (σ 0)) (F_i_nodeOk (σ 0)) (F_Z4 (σ 0)) (σ 0) ((a0, a1, ()), a2, a3, a4, ())) (Q a0 a1 a2 a3 a4) := fun a0 a1 a2 a3 a4 => Tot.loop0 (L := fun k => B_Z25_L3 k (F_Z0 k) (F_i_nodeOk k) (F_Z4 k)) (B := fun k g => u_Z25_L3 (B_Z25_L3b k (F_Z0 k) (F_i_nodeOk k) (F_Z4 k) g)) (Q := u_Z25_L3 Q) (fun _ _ _ => rfl) (u_Z25_L3 I) (u_Z25_L3 μ)
    (fun t ht again hag h => step t.1.1 t.1.2.1 t.2.1 t.2.2.1 t.2.2.2.1 ht again hag fun y0 y1 y2 y3 y4 => h ((y0, y1, ()), y2, y3, y4, ())) ((a0, a1, ()), a2, a3, a4, ())
abbrev A_Z25_L2 (Z : Type) : Type := (List (Int × Int × List Int)) → Int → Int → (List (Int × Int × List Int)) → Int → Int → Z
abbrev u_Z25_L2 {Z : Type} (f : A_Z25_L2 Z) (t : T_Z25_L2) : Z := f t.1.1 t.1.2.1 t.2.1.1 t.2.2.1 t.2.2.2.1 t.2.2.2.2.1
theorem loop_Z25_L2 {Q : A_Z25_L2 (((Bool × Unit) × (Unit)) → Prop)} (I : A_Z25_L2 Prop) (μ : A_Z25_L2 Nat)
    (step : ∀ a0 a1 a2 a3 a4 a5, I a0 a1 a2 a3 a4 a5 → ∀ again : (Nat → Nat) → T_Z25_L2 → R_Z25, Dep 2 again → (∀ y0 y1 y2 y3 y4 y5, I y0 y1 y2 y3 y4 y5 → μ y0 y1 y2 y3 y4 y5 < μ a0 a1 a2 a3 a4 a5 → Tot (fun σ => again σ ((y0, y1, ()), (y2, ()), y3, y4, y5, ())) (Q y0 y1 y2 y3 y4 y5)) →
      Tot (fun σ => B_Z25_L2b (σ 0) (F_Z0 (σ 0)) (F_i_nodeOk (σ 0)) (F_Z4 (σ 0)) (again σ) a0 a1 a2 a3 a4 a5) (Q a0 a1 a2 a3 a4 a5)) :
    ∀ a0 a1 a2 a3 a4 a5, I a0 a1 a2 a3 a4 a5 → Tot (fun σ => B_Z25_L2 (σ 0) (F_Z0 (σ 0)) (F_i_nodeOk (σ 0)) (F_Z4 (σ 0)) (σ 0) ((a0, a1, ()), (a2, ()), a3, a4, a5, ())) (Q a0 a1 a2 a3 a4 a5) := fun a0 a1 a2 a3 a4 a5 => Tot.loop0 (L := fun k => B_Z25_L2 k (F_Z0 k) (F_i_nodeOk k) (F_Z4 k)) (B := fun k g => u_Z25_L2 (B_Z25_L2b k (F_Z0 k) (F_i_nodeOk k) (F_Z4 k) g)) (Q := u_Z25_L2 Q) (fun _ _ _ => rfl) (u_Z25_L2 I) (u_Z25_L2 μ)
    (fun t ht again hag h => step t.1.1 t.1.2.1 t.2.1.1 t.2.2.1 t.2.2.2.1 t.2.2.2.2.1 ht again hag fun y0 y1 y2 y3 y4 y5 => h ((y0, y1, ()), (y2, ()), y3, y4, y5, ())) ((a0, a1, ()), (a2, ()), a3, a4, a5, ())
abbrev R_Z41 : Type := Option ((Unit) × (((List (Int × Int × List Int)) × Int × (List (Int × Int)) × (List (Int × Int)) × Unit) × Unit))
abbrev C_Z41 : Type := (List (Int × Int × List Int)) → Int → (List (Int × Int)) → (List (Int × Int)) → Int → Int → R_Z41
def B_Z41 (k : Nat) (w_nodes : List (Int × Int × List Int)) (w_level : Int) (w_memo w_ops : List (Int × Int)) (code arg : Int) : R_Z41 :=
  chk (room w_ops.length ([(code, arg)]).length) <|
  some ((), ((w_nodes, w_level, w_memo, (w_ops ++ [(code, arg)]), ()), ()))
def F_Z41 : Nat → C_Z41
  | 0, _, _, _, _, _, _ => none
  | k + 1, w_nodes, w_level, w_memo, w_ops, code, arg => B_Z41 k w_nodes w_level w_memo w_ops code arg
theorem tot_Z41 {w_nodes w_level w_memo w_ops code arg : _} {Q : _ → Prop} (h : Tot (fun σ => B_Z41 (σ 0) w_nodes w_level w_memo w_ops code arg) Q) : Tot (fun σ => F_Z41 (σ 0) w_nodes w_level w_memo w_ops code arg) Q :=
  Tot.call (F := fun k => F_Z41 k w_nodes w_level w_memo w_ops code arg) (B := fun k => B_Z41 k w_nodes w_level w_memo w_ops code arg) (fun k => rfl) h
abbrev R_Z29 : Type := Option ((Unit) × (((List (Int × Int × List Int)) × Int × (List (Int × Int)) × (List (Int × Int)) × Unit) × Unit))
abbrev C_Z29 : Type := (List (Int × Int × List Int)) → Int → (List (Int × Int)) → (List (Int × Int)) → Int → R_Z29
def B_Z29 (k : Nat) (c_Z41 : C_Z41) (w_nodes : List (Int × Int × List Int)) (w_level : Int) (w_memo w_ops : List (Int × Int)) (i : Int) : R_Z29 :=
  (c_Z41 w_nodes w_level (mput w_memo i (w_memo.length : Int)) w_ops 15 ((mfind (mput w_memo i (w_memo.length : Int)) i).getD (0 : Int))).bind fun r21 =>
  some ((), ((r21.2.1.1, r21.2.1.2.1, r21.2.1.2.2.1, r21.2.1.2.2.2.1, ()), ()))
def F_Z29 : Nat → C_Z29
  | 0, _, _, _, _, _ => none
  | k + 1, w_nodes, w_level, w_memo, w_ops, i => B_Z29 k (F_Z41 k) w_nodes w_level w_memo w_ops i
theorem tot_Z29 {w_nodes w_level w_memo w_ops i : _} {Q : _ → Prop} (h : Tot (fun σ => B_Z29 (σ 0) (F_Z41 (σ 0)) w_nodes w_level w_memo w_ops i) Q) : Tot (fun σ => F_Z29 (σ 0) w_nodes w_level w_memo w_ops i) Q :=
  Tot.call (F := fun k => F_Z29 k w_nodes w_level w_memo w_ops i) (B := fun k => B_Z29 k (F_Z41 k) w_nodes w_level w_memo w_ops i) (fun k => rfl) h
abbrev R_Z27 : Type := Option ((Unit) × (((List (Int × Int × List Int)) × Int × (List (Int × Int)) × (List (Int × Int)) × Unit) × Unit))
abbrev C_Z27 : Type := (List (Int × Int × List Int)) → Int → (List (Int × Int)) → (List (Int × Int)) → List Int → R_Z27
abbrev R_Z7 : Type := Option ((Unit) × (((List (Int × Int × List Int)) × Int × (List (Int × Int)) × (List (Int × Int)) × Unit) × Unit))
abbrev C_Z7 : Type := (List (Int × Int × List Int)) → Int → (List (Int × Int)) → (List (Int × Int)) → List Int → Int → Int → Int → R_Z7
abbrev R_Z13 : Type := Option ((Unit) × (((List (Int × Int × List Int)) × Int × (List (Int × Int)) × (List (Int × Int)) × Unit) × Unit))
abbrev C_Z13 : Type := (List (Int × Int × List Int)) → Int → (List (Int × Int)) → (List (Int × Int)) → Int → List Int → R_Z13
abbrev R_Z12 : Type := Option ((Unit) × (((List (Int × Int × List Int)) × Int × (List (Int × Int)) × (List (Int × Int)) × Unit) × Unit))
abbrev C_Z12 : Type := (List (Int × Int × List Int)) → Int → (List (Int × Int)) → (List (Int × Int)) → Int → R_Z12
abbrev T_Z27_L0 : Type := ((List (Int × Int × List Int)) × Int × (List (Int × Int)) × (List (Int × Int)) × Unit) × List Int × Int × Int × Unit
def B_Z27_L0b (k : Nat) (c_Z12 : C_Z12) (again0 : T_Z27_L0 → R_Z27) (w_nodes : List (Int × Int × List Int)) (w_level : Int) (w_memo w_ops : List (Int × Int)) (t6 : List Int) (t7 t8 : Int) : R_Z27 :=
  bif decide (t8 < t7) then
    chk (inb t8 t6.length) <|
    (c_Z12 w_nodes w_level w_memo w_ops (rdx (0 : Int) t6 t8)).bind fun r14 =>
    again0 ((r14.2.1.1, r14.2.1.2.1, r14.2.1.2.2.1, r14.2.1.2.2.2.1, ()), t6, t7, w64 (t8 + 1), ())
  else
    some ((), ((w_nodes, w_level, w_memo, w_ops, ()), ()))
def B_Z27_L0 (k : Nat) (c_Z12 : C_Z12) (n : Nat) (t : T_Z27_L0) : R_Z27 :=
  lfix n (fun again t => B_Z27_L0b k c_Z12 again t.1.1 t.1.2.1 t.1.2.2.1 t.1.2.2.2.1 t.2.1 t.2.2.1 t.2.2.2.1) t
def B_Z27 (k : Nat) (c_Z12 : C_Z12) (w_nodes : List (Int × Int × List Int)) (w_level : Int) (w_memo w_ops : List (Int × Int)) (list : List Int) : R_Z27 :=
  B_Z27_L0 k c_Z12 k ((w_nodes, w_level, w_memo, w_ops, ()), list, len list, 0, ())
abbrev T_Z7_L1 : Type := ((List (Int × Int × List Int)) × Int × (List (Int × Int)) × (List (Int × Int)) × Unit) × List Int × Int × Int × Int × Unit
def B_Z7_L1b (k : Nat) (c_Z41 : C_Z41) (c_Z27 : C_Z27) (again1 : T_Z7_L1 → R_Z7) (w_nodes : List (Int × Int × List Int)) (w_level : Int) (w_memo w_ops : List (Int × Int)) (kids : List Int) (each one i : Int) : R_Z7 :=
  bif decide (i < (len kids)) then
    chk (cutb i (w64 (i + each)) kids.length) <|
    (c_Z27 w_nodes w_level w_memo w_ops (sub kids i (w64 (i + each)))).bind fun r44 =>
    (c_Z41 r44.2.1.1 r44.2.1.2.1 r44.2.1.2.2.1 r44.2.1.2.2.2.1 one 0).bind fun r47 =>
    again1 ((r47.2.1.1, r47.2.1.2.1, r47.2.1.2.2.1, r47.2.1.2.2.2.1, ()), kids, each, one, w64 (i + each), ())
  else
    some ((), ((w_nodes, w_level, w_memo, w_ops, ()), ()))
def B_Z7_L1 (k : Nat) (c_Z41 : C_Z41) (c_Z27 : C_Z27) (n : Nat) (t : T_Z7_L1) : R_Z7 :=
  lfix n (fun again t => B_Z7_L1b k c_Z41 c_Z27 again t.1.1 t.1.2.1 t.1.2.2.1 t.1.2.2.2.1 t.2.1 t.2.2.1 t.2.2.2.1 t.2.2.2.2.1) t
def B_Z7_J0 (k : Nat) (c_Z41 : C_Z41) (c_Z27 : C_Z27) (w_nodes : List (Int × Int × List Int)) (w_level : Int) (w_memo w_ops : List (Int × Int)) (kids : List Int) (each one many : Int) (t21 : Bool) : R_Z7 :=
  bif t21 then
    (c_Z41 w_nodes w_level w_memo w_ops 2 0).bind fun r23 =>
    (c_Z27 r23.2.1.1 r23.2.1.2.1 r23.2.1.2.2.1 r23.2.1.2.2.2.1 kids).bind fun r26 =>
    (c_Z41 r26.2.1.1 r26.2.1.2.1 r26.2.1.2.2.1 r26.2.1.2.2.2.1 many 0).bind fun r29 =>
    some ((), ((r29.2.1.1, r29.2.1.2.1, r29.2.1.2.2.1, r29.2.1.2.2.2.1, ()), ()))
  else
    B_Z7_L1 k c_Z41 c_Z27 k ((w_nodes, w_level, w_memo, w_ops, ()), kids, each, one, 0, ())
def B_Z7 (k : Nat) (c_Z41 : C_Z41) (c_Z27 : C_Z27) (w_nodes : List (Int × Int × List Int)) (w_level : Int) (w_memo w_ops : List (Int × Int)) (kids : List Int) (each one many : Int) : R_Z7 :=
  bif (w_level == 1) then
    jn (fun t => B_Z7_J0 k c_Z41 c_Z27 t.1.1 t.1.2.1 t.1.2.2.1 t.1.2.2.2.1 t.2.1 t.2.2.1 t.2.2.2.1 t.2.2.2.2.1 t.2.2.2.2.2.1) ((w_nodes, w_level, w_memo, w_ops, ()), kids, each, one, many, decide ((len kids) > each), ())
  else
    jn (fun t => B_Z7_J0 k c_Z41 c_Z27 t.1.1 t.1.2.1 t.1.2.2.1 t.1.2.2.2.1 t.2.1 t.2.2.1 t.2.2.2.1 t.2.2.2.2.1 t.2.2.2.2.2.1) ((w_nodes, w_level, w_memo, w_ops, ()), kids, each, one, many, false, ())
abbrev T_Z13_L2 : Type := ((List (Int × Int × List Int)) × Int × (List (Int × Int)) × (List (Int × Int)) × Unit) × Int × Int × Int × Unit
def B_Z13_J3 (k : Nat) (c_Z41 : C_Z41) (c_Z29 : C_Z29) (c_Z27 : C_Z27) (w_nodes : List (Int × Int × List Int)) (w_level : Int) (w_memo w_ops : List (Int × Int)) (place : Int) : R_Z13 :=
  (c_Z41 w_nodes w_level w_memo w_ops 16 place).bind fun r56 =>
  some ((), ((r56.2.1.1, r56.2.1.2.1, r56.2.1.2.2.1, r56.2.1.2.2.2.1, ()), ()))
def B_Z13_L2b (k : Nat) (c_Z41 : C_Z41) (c_Z29 : C_Z29) (c_Z27 : C_Z27) (again2 : T_Z13_L2 → R_Z13) (w_nodes : List (Int × Int × List Int)) (w_level : Int) (w_memo w_ops : List (Int × Int)) (place t46 t47 : Int) : R_Z13 :=
  bif decide (t47 < t46) then
    (c_Z41 w_nodes w_level w_memo w_ops 17 0).bind fun r50 =>
    again2 ((r50.2.1.1, r50.2.1.2.1, r50.2.1.2.2.1, r50.2.1.2.2.2.1, ()), place, t46, w64 (t47 + 1), ())
  else
    jn (fun t => B_Z13_J3 k c_Z41 c_Z29 c_Z27 t.1.1 t.1.2.1 t.1.2.2.1 t.1.2.2.2.1 t.2.1) ((w_nodes, w_level, w_memo, w_ops, ()), place, ())
def B_Z13_L2 (k : Nat) (c_Z41 : C_Z41) (c_Z29 : C_Z29) (c_Z27 : C_Z27) (n : Nat) (t : T_Z13_L2) : R_Z13 :=
  lfix n (fun again t => B_Z13_L2b k c_Z41 c_Z29 c_Z27 again t.1.1 t.1.2.1 t.1.2.2.1 t.1.2.2.2.1 t.2.1 t.2.2.1 t.2.2.2.1) t
def B_Z13_J4 (k : Nat) (c_Z41 : C_Z41) (c_Z29 : C_Z29) (c_Z27 : C_Z27) (w_nodes : List (Int × Int × List Int)) (w_level : Int) (w_memo w_ops : List (Int × Int)) (i : Int) : R_Z13 :=
  (c_Z29 w_nodes w_level w_memo w_ops i).bind fun r72 =>
  some ((), ((r72.2.1.1, r72.2.1.2.1, r72.2.1.2.2.1, r72.2.1.2.2.2.1, ()), ()))
def B_Z13_J1 (k : Nat) (c_Z41 : C_Z41) (c_Z29 : C_Z29) (c_Z27 : C_Z27) (w_nodes : List (Int × Int × List Int)) (w_level : Int) (w_memo w_ops : List (Int × Int)) (i : Int) (kids : List Int) (short : Bool) : R_Z13 :=
  (c_Z27 w_nodes w_level w_memo w_ops kids).bind fun r33 =>
  bif (mfind r33.2.1.2.2.1 i).isSome then
    bif short then
      B_Z13_L2 k c_Z41 c_Z29 c_Z27 k ((r33.2.1.1, r33.2.1.2.1, r33.2.1.2.2.1, r33.2.1.2.2.2.1, ()), ((mfind r33.2.1.2.2.1 i).getD (0 : Int)), len kids, 0, ())
    else
      (c_Z41 r33.2.1.1 r33.2.1.2.1 r33.2.1.2.2.1 r33.2.1.2.2.2.1 18 0).bind fun r53 =>
      jn (fun t => B_Z13_J3 k c_Z41 c_Z29 c_Z27 t.1.1 t.1.2.1 t.1.2.2.1 t.1.2.2.2.1 t.2.1) ((r53.2.1.1, r53.2.1.2.1, r53.2.1.2.2.1, r53.2.1.2.2.2.1, ()), ((mfind r33.2.1.2.2.1 i).getD (0 : Int)), ())
  else
    bif (!short) then
      (c_Z41 r33.2.1.1 r33.2.1.2.1 r33.2.1.2.2.1 r33.2.1.2.2.2.1 3 0).bind fun r63 =>
      jn (fun t => B_Z13_J4 k c_Z41 c_Z29 c_Z27 t.1.1 t.1.2.1 t.1.2.2.1 t.1.2.2.2.1 t.2.1) ((r63.2.1.1, r63.2.1.2.1, r63.2.1.2.2.1, r63.2.1.2.2.2.1, ()), i, ())
    else
      bif ((len kids) == 1) then
        (c_Z41 r33.2.1.1 r33.2.1.2.1 r33.2.1.2.2.1 r33.2.1.2.2.2.1 5 0).bind fun r69 =>
        jn (fun t => B_Z13_J4 k c_Z41 c_Z29 c_Z27 t.1.1 t.1.2.1 t.1.2.2.1 t.1.2.2.2.1 t.2.1) ((r69.2.1.1, r69.2.1.2.1, r69.2.1.2.2.1, r69.2.1.2.2.2.1, ()), i, ())
      else
        (c_Z41 r33.2.1.1 r33.2.1.2.1 r33.2.1.2.2.1 r33.2.1.2.2.2.1 6 0).bind fun r58 =>
        jn (fun t => B_Z13_J4 k c_Z41 c_Z29 c_Z27 t.1.1 t.1.2.1 t.1.2.2.1 t.1.2.2.2.1 t.2.1) ((r58.2.1.1, r58.2.1.2.1, r58.2.1.2.2.1, r58.2.1.2.2.2.1, ()), i, ())
def B_Z13_J0 (k : Nat) (c_Z41 : C_Z41) (c_Z29 : C_Z29) (c_Z27 : C_Z27) (w_nodes : List (Int × Int × List Int)) (w_level : Int) (w_memo w_ops : List (Int × Int)) (i : Int) (kids : List Int) (short : Bool) : R_Z13 :=
  bif (!short) then
    (c_Z41 w_nodes w_level w_memo w_ops 2 0).bind fun r30 =>
    jn (fun t => B_Z13_J1 k c_Z41 c_Z29 c_Z27 t.1.1 t.1.2.1 t.1.2.2.1 t.1.2.2.2.1 t.2.1 t.2.2.1 t.2.2.2.1) ((r30.2.1.1, r30.2.1.2.1, r30.2.1.2.2.1, r30.2.1.2.2.2.1, ()), i, kids, short, ())
  else
    jn (fun t => B_Z13_J1 k c_Z41 c_Z29 c_Z27 t.1.1 t.1.2.1 t.1.2.2.1 t.1.2.2.2.1 t.2.1 t.2.2.1 t.2.2.2.1) ((w_nodes, w_level, w_memo, w_ops, ()), i, kids, short, ())
def B_Z13 (k : Nat) (c_Z41 : C_Z41) (c_Z29 : C_Z29) (c_Z27 : C_Z27) (w_nodes : List (Int × Int × List Int)) (w_level : Int) (w_memo w_ops : List (Int × Int)) (i : Int) (kids : List Int) : R_Z13 :=
  bif ((len kids) == 0) then
    (c_Z41 w_nodes w_level w_memo w_ops 4 0).bind fun r13 =>
    (c_Z29 r13.2.1.1 r13.2.1.2.1 r13.2.1.2.2.1 r13.2.1.2.2.2.1 i).bind fun r16 =>
    some ((), ((r16.2.1.1, r16.2.1.2.1, r16.2.1.2.2.1, r16.2.1.2.2.2.1, ()), ()))
  else
    bif (w_level == 1) then
      jn (fun t => B_Z13_J0 k c_Z41 c_Z29 c_Z27 t.1.1 t.1.2.1 t.1.2.2.1 t.1.2.2.2.1 t.2.1 t.2.2.1 t.2.2.2.1) ((w_nodes, w_level, w_memo, w_ops, ()), i, kids, decide ((len kids) ≤ 2), ())
    else
      jn (fun t => B_Z13_J0 k c_Z41 c_Z29 c_Z27 t.1.1 t.1.2.1 t.1.2.2.1 t.1.2.2.2.1 t.2.1 t.2.2.1 t.2.2.2.1) ((w_nodes, w_level, w_memo, w_ops, ()), i, kids, false, ())
def B_Z12 (k : Nat) (c_Z41 : C_Z41) (c_Z29 : C_Z29) (c_Z7 : C_Z7) (c_Z12 : C_Z12) (c_Z13 : C_Z13) (w_nodes : List (Int × Int × List Int)) (w_level : Int) (w_memo w_ops : List (Int × Int)) (i : Int) : R_Z12 :=
  bif (mfind w_memo i).isSome then
    (c_Z41 w_nodes w_level w_memo w_ops 16 ((mfind w_memo i).getD (0 : Int))).bind fun r19 =>
    some ((), ((r19.2.1.1, r19.2.1.2.1, r19.2.1.2.2.1, r19.2.1.2.2.2.1, ()), ()))
  else
    chk (inb i w_nodes.length) <|
    bif (((rdx ((0 : Int), ((0 : Int), ([] : List Int))) w_nodes i).1) == 0) then
      (c_Z41 w_nodes w_level w_memo w_ops 0 (((rdx ((0 : Int), ((0 : Int), ([] : List Int))) w_nodes i).2).1)).bind fun r39 =>
      some ((), ((r39.2.1.1, r39.2.1.2.1, r39.2.1.2.2.1, r39.2.1.2.2.2.1, ()), ()))
    else
      bif (((rdx ((0 : Int), ((0 : Int), ([] : List Int))) w_nodes i).1) == 1) then
        (c_Z41 w_nodes w_level w_memo w_ops 1 (((rdx ((0 : Int), ((0 : Int), ([] : List Int))) w_nodes i).2).1)).bind fun r45 =>
        (c_Z29 r45.2.1.1 r45.2.1.2.1 r45.2.1.2.2.1 r45.2.1.2.2.2.1 i).bind fun r48 =>
        some ((), ((r48.2.1.1, r48.2.1.2.1, r48.2.1.2.2.1, r48.2.1.2.2.2.1, ()), ()))
      else
        bif (((rdx ((0 : Int), ((0 : Int), ([] : List Int))) w_nodes i).1) == 3) then
          (c_Z41 w_nodes w_level w_memo w_ops 7 0).bind fun r52 =>
          (c_Z29 r52.2.1.1 r52.2.1.2.1 r52.2.1.2.2.1 r52.2.1.2.2.2.1 i).bind fun r55 =>
          (c_Z7 r55.2.1.1 r55.2.1.2.1 r55.2.1.2.2.1 r55.2.1.2.2.2.1 (((rdx ((0 : Int), ((0 : Int), ([] : List Int))) w_nodes i).2).2) 1 8 9).bind fun r59 =>
          some ((), ((r59.2.1.1, r59.2.1.2.1, r59.2.1.2.2.1, r59.2.1.2.2.2.1, ()), ()))
        else
          bif (((rdx ((0 : Int), ((0 : Int), ([] : List Int))) w_nodes i).1) == 4) then
            (c_Z41 w_nodes w_level w_memo w_ops 10 0).bind fun r63 =>
            (c_Z29 r63.2.1.1 r63.2.1.2.1 r63.2.1.2.2.1 r63.2.1.2.2.2.1 i).bind fun r66 =>
            (c_Z7 r66.2.1.1 r66.2.1.2.1 r66.2.1.2.2.1 r66.2.1.2.2.2.1 (((rdx ((0 : Int), ((0 : Int), ([] : List Int))) w_nodes i).2).2) 2 11 12).bind fun r70 =>
            some ((), ((r70.2.1.1, r70.2.1.2.1, r70.2.1.2.2.1, r70.2.1.2.2.2.1, ()), ()))
          else
            bif (((rdx ((0 : Int), ((0 : Int), ([] : List Int))) w_nodes i).1) == 5) then
              (c_Z41 w_nodes w_level w_memo w_ops 13 (((rdx ((0 : Int), ((0 : Int), ([] : List Int))) w_nodes i).2).1)).bind fun r76 =>
              (c_Z29 r76.2.1.1 r76.2.1.2.1 r76.2.1.2.2.1 r76.2.1.2.2.2.1 i).bind fun r79 =>
              bif decide ((len (((rdx ((0 : Int), ((0 : Int), ([] : List Int))) w_nodes i).2).2)) > 0) then
                chk (inb 0 (((rdx ((0 : Int), ((0 : Int), ([] : List Int))) w_nodes i).2).2).length) <|
                (c_Z12 r79.2.1.1 r79.2.1.2.1 r79.2.1.2.2.1 r79.2.1.2.2.2.1 (rdx (0 : Int) (((rdx ((0 : Int), ((0 : Int), ([] : List Int))) w_nodes i).2).2) 0)).bind fun r89 =>
                (c_Z41 r89.2.1.1 r89.2.1.2.1 r89.2.1.2.2.1 r89.2.1.2.2.2.1 14 0).bind fun r91 =>
                some ((), ((r91.2.1.1, r91.2.1.2.1, r91.2.1.2.2.1, r91.2.1.2.2.2.1, ()), ()))
              else
                some ((), ((r79.2.1.1, r79.2.1.2.1, r79.2.1.2.2.1, r79.2.1.2.2.2.1, ()), ()))
            else
              (c_Z13 w_nodes w_level w_memo w_ops i (((rdx ((0 : Int), ((0 : Int), ([] : List Int))) w_nodes i).2).2)).bind fun r33 =>
              some ((), ((r33.2.1.1, r33.2.1.2.1, r33.2.1.2.2.1, r33.2.1.2.2.2.1, ()), ()))
mutual
def F_Z27 : Nat → C_Z27
  | 0, _, _, _, _, _ => none
  | k + 1, w_nodes, w_level, w_memo, w_ops, list => B_Z27 k (F_Z12 k) w_nodes w_level w_memo w_ops list
def F_Z7 : Nat → C_Z7
  | 0, _, _, _, _, _, _, _, _ => none
  | k + 1, w_nodes, w_level, w_memo, w_ops, kids, each, one, many => B_Z7 k (F_Z41 k) (F_Z27 k) w_nodes w_level w_memo w_ops kids each one many
def F_Z13 : Nat → C_Z13
  | 0, _, _, _, _, _, _ => none
  | k + 1, w_nodes, w_level, w_memo, w_ops, i, kids => B_Z13 k (F_Z41 k) (F_Z29 k) (F_Z27 k) w_nodes w_level w_memo w_ops i kids
def F_Z12 : Nat → C_Z12
  | 0, _, _, _, _, _ => none
  | k + 1, w_nodes, w_level, w_memo, w_ops, i => B_Z12 k (F_Z41 k) (F_Z29 k) (F_Z7 k) (F_Z12 k) (F_Z13 k) w_nodes w_level w_memo w_ops i
end
theorem F_Z27_succ (k : Nat) (w_nodes : List (Int × Int × List Int)) (w_level : Int) (w_memo : List (Int × Int)) (w_ops : List (Int × Int)) (list : List Int) : F_Z27 (k + 1) w_nodes w_level w_memo w_ops list = B_Z27 k (F_Z12 k) w_nodes w_level w_memo w_ops list := by rw [F_Z27]
theorem tot_Z27 {w_nodes w_level w_memo w_ops list : _} {Q : _ → Prop} (h : Tot (fun σ => B_Z27 (σ 0) (F_Z12 (σ 0)) w_nodes w_level w_memo w_ops list) Q) : Tot (fun σ => F_Z27 (σ 0) w_nodes w_level w_memo w_ops list) Q :=
  Tot.call (F := fun k => F_Z27 k w_nodes w_level w_memo w_ops list) (B := fun k => B_Z27 k (F_Z12 k) w_nodes w_level w_memo w_ops list) (fun k => F_Z27_succ k w_nodes w_level w_memo w_ops list) h
abbrev A_Z27_L0 (Z : Type) : Type := (List (Int × Int × List Int)) → Int → (List (Int × Int)) → (List (Int × Int)) → List Int → Int → Int → Z
abbrev u_Z27_L0 {Z : Type} (f : A_Z27_L0 Z) (t : T_Z27_L0) : Z := f t.1.1 t.1.2.1 t.1.2.2.1 t.1.2.2.2.1 t.2.1 t.2.2.1 t.2.2.2.1
theorem loop_Z27_L0 {Q : A_Z27_L0 (((Unit) × (((List (Int × Int × List Int)) × Int × (List (Int × Int)) × (List (Int × Int)) × Unit) × Unit)) → Prop)} (I : A_Z27_L0 Prop) (μ : A_Z27_L0 Nat)
    (step : ∀ a0 a1 a2 a3 a4 a5 a6, I a0 a1 a2 a3 a4 a5 a6 → ∀ again : (Nat → Nat) → T_Z27_L0 → R_Z27, Dep 2 again → (∀ y0 y1 y2 y3 y4 y5 y6, I y0 y1 y2 y3 y4 y5 y6 → μ y0 y1 y2 y3 y4 y5 y6 < μ a0 a1 a2 a3 a4 a5 a6 → Tot (fun σ => again σ ((y0, y1, y2, y3, ()), y4, y5, y6, ())) (Q y0 y1 y2 y3 y4 y5 y6)) →
      Tot (fun σ => B_Z27_L0b (σ 0) (F_Z12 (σ 0)) (again σ) a0 a1 a2 a3 a4 a5 a6) (Q a0 a1 a2 a3 a4 a5 a6)) :
    ∀ a0 a1 a2 a3 a4 a5 a6, I a0 a1 a2 a3 a4 a5 a6 → Tot (fun σ => B_Z27_L0 (σ 0) (F_Z12 (σ 0)) (σ 0) ((a0, a1, a2, a3, ()), a4, a5, a6, ())) (Q a0 a1 a2 a3 a4 a5 a6) := fun a0 a1 a2 a3 a4 a5 a6 => Tot.loop0 (L := fun k => B_Z27_L0 k (F_Z12 k)) (B := fun k g => u_Z27_L0 (B_Z27_L0b k (F_Z12 k) g)) (Q := u_Z27_L0 Q) (fun _ _ _ => rfl) (u_Z27_L0 I) (u_Z27_L0 μ)
    (fun t ht again hag h => step t.1.1 t.1.2.1 t.1.2.2.1 t.1.2.2.2.1 t.2.1 t.2.2.1 t.2.2.2.1 ht again hag fun y0 y1 y2 y3 y4 y5 y6 => h ((y0, y1, y2, y3, ()), y4, y5, y6, ())) ((a0, a1, a2, a3, ()), a4, a5, a6, ())
theorem F_Z7_succ (k : Nat) (w_nodes : List (Int × Int × List Int)) (w_level : Int) (w_memo : List (Int × Int)) (w_ops : List (Int × Int)) (kids : List Int) (each : Int) (one : Int) (many : Int) : F_Z7 (k + 1) w_nodes w_level w_memo w_ops kids each one many = B_Z7 k (F_Z41 k) (F_Z27 k) w_nodes w_level w_memo w_ops kids each one many := by rw [F_Z7]
theorem tot_Z7 {w_nodes w_level w_memo w_ops kids each one many : _} {Q : _ → Prop} (h : Tot (fun σ => B_Z7 (σ 0) (F_Z41 (σ 0)) (F_Z27 (σ 0)) w_nodes w_level w_memo w_ops kids each one many) Q) : Tot (fun σ => F_Z7 (σ 0) w_nodes w_level w_memo w_ops kids each one many) Q :=
  Tot.call (F := fun k => F_Z7 k w_nodes w_level w_memo w_ops kids each one many) (B := fun k => B_Z7 k (F_Z41 k) (F_Z27 k) w_nodes w_level w_memo w_ops kids each one many) (fun k => F_Z7_succ k w_nodes w_level w_memo w_ops kids each one many) h
abbrev A_Z7_L1 (Z : Type) : Type := (List (Int × Int × List Int)) → Int → (List (Int × Int)) → (List (Int × Int)) → List Int → Int → Int → Int → Z
abbrev u_Z7_L1 {Z : Type} (f : A_Z7_L1 Z) (t : T_Z7_L1) : Z := f t.1.1 t.1.2.1 t.1.2.2.1 t.1.2.2.2.1 t.2.1 t.2.2.1 t.2.2.2.1 t.2.2.2.2.1
theorem loop_Z7_L1 {Q : A_Z7_L1 (((Unit) × (((List (Int × Int × List Int)) × Int × (List (Int × Int)) × (List (Int × Int)) × Unit) × Unit)) → Prop)} (I : A_Z7_L1 Prop) (μ : A_Z7_L1 Nat)
    (step : ∀ a0 a1 a2 a3 a4 a5 a6 a7, I a0 a1 a2 a3 a4 a5 a6 a7 → ∀ again : (Nat → Nat) → T_Z7_L1 → R_Z7, Dep 2 again → (∀ y0 y1 y2 y3 y4 y5 y6 y7, I y0 y1 y2 y3 y4 y5 y6 y7 → μ y0 y1 y2 y3 y4 y5 y6 y7 < μ a0 a1 a2 a3 a4 a5 a6 a7 → Tot (fun σ => again σ ((y0, y1, y2, y3, ()), y4, y5, y6, y7, ())) (Q y0 y1 y2 y3 y4 y5 y6 y7)) →
      Tot (fun σ => B_Z7_L1b (σ 0) (F_Z41 (σ 0)) (F_Z27 (σ 0)) (again σ) a0 a1 a2 a3 a4 a5 a6 a7) (Q a0 a1 a2 a3 a4 a5 a6 a7)) :
    ∀ a0 a1 a2 a3 a4 a5 a6 a7, I a0 a1 a2 a3 a4 a5 a6 a7 → Tot (fun σ => B_Z7_L1 (σ 0) (F_Z41 (σ 0)) (F_Z27 (σ 0)) (σ 0) ((a0, a1, a2, a3, ()), a4, a5, a6, a7, ())) (Q a0 a1 a2 a3 a4 a5 a6 a7) := fun a0 a1 a2 a3 a4 a5 a6 a7 => Tot.loop0 (L := fun k => B_Z7_L1 k (F_Z41 k) (F_Z27 k)) (B := fun k g => u_Z7_L1 (B_Z7_L1b k (F_Z41 k) (F_Z27 k) g)) (Q := u_Z7_L1 Q) (fun _ _ _ => rfl) (u_Z7_L1 I) (u_Z7_L1 μ)
    (fun t ht again hag h => step t.1.1 t.1.2.1 t.1.2.2.1 t.1.2.2.2.1 t.2.1 t.2.2.1 t.2.2.2.1 t.2.2.2.2.1 ht again hag fun y0 y1 y2 y3 y4 y5 y6 y7 => h ((y0, y1, y2, y3, ()), y4, y5, y6, y7, ())) ((a0, a1, a2, a3, ()), a4, a5, a6, a7, ())
theorem F_Z13_succ (k : Nat) (w_nodes : List (Int × Int × List Int)) (w_level : Int) (w_memo : List (Int × Int)) (w_ops : List (Int × Int)) (i : Int) (kids : List Int) : F_Z13 (k + 1) w_nodes w_level w_memo w_ops i kids = B_Z13 k (F_Z41 k) (F_Z29 k) (F_Z27 k) w_nodes w_level w_memo w_ops i kids := by rw [F_Z13]
theorem tot_Z13 {w_nodes w_level w_memo w_ops i kids : _} {Q : _ → Prop} (h : Tot (fun σ => B_Z13 (σ 0) (F_Z41 (σ 0)) (F_Z29 (σ 0)) (F_Z27 (σ 0)) w_nodes w_level w_memo w_ops i kids) Q) : Tot (fun σ => F_Z13 (σ 0) w_nodes w_level w_memo w_ops i kids) Q :=
  Tot.call (F := fun k => F_Z13 k w_nodes w_level w_memo w_ops i kids) (B := fun k => B_Z13 k (F_Z41 k) (F_Z29 k) (F_Z27 k) w_nodes w_level w_memo w_ops i kids) (fun k => F_Z13_succ k w_nodes w_level w_memo w_ops i kids) h
theorem F_Z12_succ (k : Nat) (w_nodes : List (Int × Int × List Int)) (w_level : Int) (w_memo : List (Int × Int)) (w_ops : List (Int × Int)) (i : Int) : F_Z12 (k + 1) w_nodes w_level w_memo w_ops i = B_Z12 k (F_Z41 k) (F_Z29 k) (F_Z7 k) (F_Z12 k) (F_Z13 k) w_nodes w_level w_memo w_ops i := by rw [F_Z12]
theorem tot_Z12 {w_nodes w_level w_memo w_ops i : _} {Q : _ → Prop} (h : Tot (fun σ => B_Z12 (σ 0) (F_Z41 (σ 0)) (F_Z29 (σ 0)) (F_Z7 (σ 0)) (F_Z12 (σ 0)) (F_Z13 (σ 0)) w_nodes w_level w_memo w_ops i) Q) : Tot (fun σ => F_Z12 (σ 0) w_nodes w_level w_memo w_ops i) Q :=
  Tot.call (F := fun k => F_Z12 k w_nodes w_level w_memo w_ops i) (B := fun k => B_Z12 k (F_Z41 k) (F_Z29 k) (F_Z7 k) (F_Z12 k) (F_Z13 k) w_nodes w_level w_memo w_ops i) (fun k => F_Z12_succ k w_nodes w_level w_memo w_ops i) h
abbrev R_Z2 : Type := Option (((List (Int × Int)) × Unit) × (Unit))
abbrev C_Z2 : Type := (List (Int × Int)) → R_Z2
def B_Z2 (k : Nat) (s : List (Int × Int)) : R_Z2 :=
  chk ((((len s) == (len s)) && cutb 0 (len s) s.length)) <|
  some (((sub s 0 (len s)), ()), ())
def F_Z2 : Nat → C_Z2
  | 0, _ => none
  | k + 1, s => B_Z2 k s
theorem tot_Z2 {s : _} {Q : _ → Prop} (h : Tot (fun σ => B_Z2 (σ 0) s) Q) : Tot (fun σ => F_Z2 (σ 0) s) Q :=
  Tot.call (F := fun k => F_Z2 k s) (B := fun k => B_Z2 k s) (fun k => rfl) h
abbrev R_Z66 : Type := Option (((List (Int × Int) × Bool) × Unit) × (Unit))
abbrev C_Z66 : Type := (List (Int × Int × List Int)) → Int → List Int → Int → R_Z66
abbrev T_Z66_L0 : Type := ((List (Int × Int × List Int)) × Int × (List (Int × Int)) × (List (Int × Int)) × Unit) × List Int × Int × Int × Unit
def B_Z66_L0b (k : Nat) (c_Z12 : C_Z12) (c_Z41 : C_Z41) (c_Z2 : C_Z2) (again0 : T_Z66_L0 → R_Z66) (w_nodes : List (Int × Int × List Int)) (w_level : Int) (w_memo w_ops : List (Int × Int)) (t16 : List Int) (t17 t18 : Int) : R_Z66 :=
  bif decide (t18 < t17) then
    chk (inb t18 t16.length) <|
    (c_Z12 w_nodes w_level w_memo w_ops (rdx (0 : Int) t16 t18)).bind fun r24 =>
    (c_Z41 r24.2.1.1 r24.2.1.2.1 r24.2.1.2.2.1 r24.2.1.2.2.2.1 19 0).bind fun r26 =>
    again0 ((r26.2.1.1, r26.2.1.2.1, r26.2.1.2.2.1, r26.2.1.2.2.2.1, ()), t16, t17, w64 (t18 + 1), ())
  else
    bif decide ((len w_ops) > 300) then
      some ((([], true), ()), ())
    else
      (c_Z2 w_ops).bind fun r38 =>
      chk (Nat.blt 0 r38.1.1.length) <|
      some (((r38.1.1, false), ()), ())
def B_Z66_L0 (k : Nat) (c_Z12 : C_Z12) (c_Z41 : C_Z41) (c_Z2 : C_Z2) (n : Nat) (t : T_Z66_L0) : R_Z66 :=
  lfix n (fun again t => B_Z66_L0b k c_Z12 c_Z41 c_Z2 again t.1.1 t.1.2.1 t.1.2.2.1 t.1.2.2.2.1 t.2.1 t.2.2.1 t.2.2.2.1) t
def B_Z66 (k : Nat) (c_Z12 : C_Z12) (c_Z41 : C_Z41) (c_Z2 : C_Z2) (g_0 : List (Int × Int × List Int)) (g_1 : Int) (roots : List Int) (level : Int) : R_Z66 :=
  B_Z66_L0 k c_Z12 c_Z41 c_Z2 k ((g_0, level, ([] : List (Int × Int)), [], ()), roots, len roots, 0, ())
def F_Z66 : Nat → C_Z66
  | 0, _, _, _, _ => none
  | k + 1, g_0, g_1, roots, level => B_Z66 k (F_Z12 k) (F_Z41 k) (F_Z2 k) g_0 g_1 roots level
theorem tot_Z66 {g_0 g_1 roots level : _} {Q : _ → Prop} (h : Tot (fun σ => B_Z66 (σ 0) (F_Z12 (σ 0)) (F_Z41 (σ 0)) (F_Z2 (σ 0)) g_0 g_1 roots level) Q) : Tot (fun σ => F_Z66 (σ 0) g_0 g_1 roots level) Q :=
  Tot.call (F := fun k => F_Z66 k g_0 g_1 roots level) (B := fun k => B_Z66 k (F_Z12 k) (F_Z41 k) (F_Z2 k) g_0 g_1 roots level) (fun k => rfl) h
abbrev A_Z66_L0 (Z : Type) : Type := (List (Int × Int × List Int)) → Int → (List (Int × Int)) → (List (Int × Int)) → List Int → Int → Int → Z
abbrev u_Z66_L0 {Z : Type} (f : A_Z66_L0 Z) (t : T_Z66_L0) : Z := f t.1.1 t.1.2.1 t.1.2.2.1 t.1.2.2.2.1 t.2.1 t.2.2.1 t.2.2.2.1
theorem loop_Z66_L0 {Q : A_Z66_L0 ((((List (Int × Int) × Bool) × Unit) × (Unit)) → Prop)} (I : A_Z66_L0 Prop) (μ : A_Z66_L0 Nat)
    (step : ∀ a0 a1 a2 a3 a4 a5 a6, I a0 a1 a2 a3 a4 a5 a6 → ∀ again : (Nat → Nat) → T_Z66_L0 → R_Z66, Dep 2 again → (∀ y0 y1 y2 y3 y4 y5 y6, I y0 y1 y2 y3 y4 y5 y6 → μ y0 y1 y2 y3 y4 y5 y6 < μ a0 a1 a2 a3 a4 a5 a6 → Tot (fun σ => again σ ((y0, y1, y2, y3, ()), y4, y5, y6, ())) (Q y0 y1 y2 y3 y4 y5 y6)) →
      Tot (fun σ => B_Z66_L0b (σ 0) (F_Z12 (σ 0)) (F_Z41 (σ 0)) (F_Z2 (σ 0)) (again σ) a0 a1 a2 a3 a4 a5 a6) (Q a0 a1 a2 a3 a4 a5 a6)) :
    ∀ a0 a1 a2 a3 a4 a5 a6, I a0 a1 a2 a3 a4 a5 a6 → Tot (fun σ => B_Z66_L0 (σ 0) (F_Z12 (σ 0)) (F_Z41 (σ 0)) (F_Z2 (σ 0)) (σ 0) ((a0, a1, a2, a3, ()), a4, a5, a6, ())) (Q a0 a1 a2 a3 a4 a5 a6) := fun a0 a1 a2 a3 a4 a5 a6 => Tot.loop0 (L := fun k => B_Z66_L0 k (F_Z12 k) (F_Z41 k) (F_Z2 k)) (B := fun k g => u_Z66_L0 (B_Z66_L0b k (F_Z12 k) (F_Z41 k) (F_Z2 k) g)) (Q := u_Z66_L0 Q) (fun _ _ _ => rfl) (u_Z66_L0 I) (u_Z66_L0 μ)
    (fun t ht again hag h => step t.1.1 t.1.2.1 t.1.2.2.1 t.1.2.2.2.1 t.2.1 t.2.2.1 t.2.2.2.1 ht again hag fun y0 y1 y2 y3 y4 y5 y6 => h ((y0, y1, y2, y3, ()), y4, y5, y6, ())) ((a0, a1, a2, a3, ()), a4, a5, a6, ())
abbrev R_Z32 : Type := Option (((List (Int × Int) × Bool) × Unit) × (Unit))
abbrev C_Z32 : Type := (List (Int × Int × List Int)) → Int → Int → R_Z32
def B_Z32_J0 (k : Nat) (c_Z25 : C_Z25) (c_Z66 : C_Z66) (level : Int) (g_Nodes : List (Int × Int × List Int)) (g_Root : Int) (t15 : Bool) : R_Z32 :=
  bif t15 then
    some ((([], true), ()), ())
  else
    (c_Z66 g_Nodes g_Root ([g_Root]) level).bind fun r21 =>
    some (((r21.1.1.1, r21.1.1.2), ()), ())
def B_Z32 (k : Nat) (c_Z25 : C_Z25) (c_Z66 : C_Z66) (g_0 : List (Int × Int × List Int)) (g_1 level : Int) : R_Z32 :=
  (c_Z25 g_0 g_1).bind fun r6 =>
  bif (!r6.1.1) then
    jn (fun t => B_Z32_J0 k c_Z25 c_Z66 t.1 t.2.1.1 t.2.1.2.1 t.2.2.1) (level, (g_0, g_1, ()), true, ())
  else
    bif decide (level < 0) then
      jn (fun t => B_Z32_J0 k c_Z25 c_Z66 t.1 t.2.1.1 t.2.1.2.1 t.2.2.1) (level, (g_0, g_1, ()), true, ())
    else
      jn (fun t => B_Z32_J0 k c_Z25 c_Z66 t.1 t.2.1.1 t.2.1.2.1 t.2.2.1) (level, (g_0, g_1, ()), decide (level > 1), ())
def F_Z32 : Nat → C_Z32
  | 0, _, _, _ => none
  | k + 1, g_0, g_1, level => B_Z32 k (F_Z25 k) (F_Z66 k) g_0 g_1 level
theorem tot_Z32 {g_0 g_1 level : _} {Q : _ → Prop} (h : Tot (fun σ => B_Z32 (σ 0) (F_Z25 (σ 0)) (F_Z66 (σ 0)) g_0 g_1 level) Q) : Tot (fun σ => F_Z32 (σ 0) g_0 g_1 level) Q :=
  Tot.call (F := fun k => F_Z32 k g_0 g_1 level) (B := fun k => B_Z32 k (F_Z25 k) (F_Z66 k) g_0 g_1 level) (fun k => rfl) h
abbrev R_Z61 : Type := Option ((Int × Unit) × (Unit))
abbrev C_Z61 : Type := Int → R_Z61
def B_Z61_J0 (k : Nat) (t10 : Bool) : R_Z61 :=
  bif t10 then
    some ((19, ()), ())
  else
    some ((0, ()), ())
def B_Z61 (k : Nat) (code : Int) : R_Z61 :=
  bif (code == 0) then
    some ((999, ()), ())
  else
    bif (code == 1) then
      some ((9, ()), ())
    else
      bif (code == 13) then
        some ((9, ()), ())
      else
        bif (code == 15) then
          jn (fun t => B_Z61_J0 k t.1) ((code == 15), ())
        else
          jn (fun t => B_Z61_J0 k t.1) ((code == 16), ())
def F_Z61 : Nat → C_Z61
  | 0, _ => none
  | k + 1, code => B_Z61 k code
theorem tot_Z61 {code : _} {Q : _ → Prop} (h : Tot (fun σ => B_Z61 (σ 0) code) Q) : Tot (fun σ => F_Z61 (σ 0) code) Q :=
  Tot.call (F := fun k => F_Z61 k code) (B := fun k => B_Z61 k code) (fun k => rfl) h
abbrev R_i_opOk : Type := Option ((Bool × Unit) × (Unit))
abbrev C_i_opOk : Type := Int → Int → R_i_opOk
def B_i_opOk (k : Nat) (c_Z61 : C_Z61) (o_0 o_1 : Int) : R_i_opOk :=
  bif decide (o_0 ≥ 0) then
    bif decide (o_0 ≤ 19) then
      bif decide (o_1 ≥ 0) then
        (c_Z61 o_0).bind fun r21 =>
        some ((decide (o_1 ≤ r21.1.1), ()), ())
      else
        some ((false, ()), ())
    else
      some ((false, ()), ())
  else
    some ((false, ()), ())
def F_i_opOk : Nat → C_i_opOk
  | 0, _, _ => none
  | k + 1, o_0, o_1 => B_i_opOk k (F_Z61 k) o_0 o_1
theorem tot_i_opOk {o_0 o_1 : _} {Q : _ → Prop} (h : Tot (fun σ => B_i_opOk (σ 0) (F_Z61 (σ 0)) o_0 o_1) Q) : Tot (fun σ => F_i_opOk (σ 0) o_0 o_1) Q :=
  Tot.call (F := fun k => F_i_opOk k o_0 o_1) (B := fun k => B_i_opOk k (F_Z61 k) o_0 o_1) (fun k => rfl) h
abbrev R_Z49 : Type := Option ((Bool × Unit) × (Unit))
abbrev C_Z49 : Type := (List (Int × Int)) → R_Z49
abbrev T_Z49_L0 : Type := (List (Int × Int)) × (List (Int × Int)) × Int × Int × Unit
def B_Z49_L0b (k : Nat) (c_i_opOk : C_i_opOk) (again0 : T_Z49_L0 → R_Z49) (ops t5 : List (Int × Int)) (t6 t7 : Int) : R_Z49 :=
  bif decide (t7 < t6) then
    chk (inb t7 t5.length) <|
    (c_i_opOk ((rdx ((0 : Int), (0 : Int)) t5 t7).1) ((rdx ((0 : Int), (0 : Int)) t5 t7).2)).bind fun r12 =>
    bif (!r12.1.1) then
      some ((false, ()), ())
    else
      again0 (ops, t5, t6, w64 (t7 + 1), ())
  else
    some ((decide ((len ops) ≤ 300), ()), ())
def B_Z49_L0 (k : Nat) (c_i_opOk : C_i_opOk) (n : Nat) (t : T_Z49_L0) : R_Z49 :=
  lfix n (fun again t => B_Z49_L0b k c_i_opOk again t.1 t.2.1 t.2.2.1 t.2.2.2.1) t
def B_Z49 (k : Nat) (c_i_opOk : C_i_opOk) (ops : List (Int × Int)) : R_Z49 :=
  B_Z49_L0 k c_i_opOk k (ops, ops, len ops, 0, ())
def F_Z49 : Nat → C_Z49
  | 0, _ => none
  | k + 1, ops => B_Z49 k (F_i_opOk k) ops
theorem tot_Z49 {ops : _} {Q : _ → Prop} (h : Tot (fun σ => B_Z49 (σ 0) (F_i_opOk (σ 0)) ops) Q) : Tot (fun σ => F_Z49 (σ 0) ops) Q :=
  Tot.call (F := fun k => F_Z49 k ops) (B := fun k => B_Z49 k (F_i_opOk k) ops) (fun k => rfl) h
abbrev A_Z49_L0 (Z : Type) : Type := (List (Int × Int)) → (List (Int × Int)) → Int → Int → Z
abbrev u_Z49_L0 {Z : Type} (f : A_Z49_L0 Z) (t : T_Z49_L0) : Z := f t.1 t.2.1 t.2.2.1 t.2.2.2.1
theorem loop_Z49_L0 {Q : A_Z49_L0 (((Bool × Unit) × (Unit)) → Prop)} (I : A_Z49_L0 Prop) (μ : A_Z49_L0 Nat)
    (step : ∀ a0 a1 a2 a3, I a0 a1 a2 a3 → ∀ again : (Nat → Nat) → T_Z49_L0 → R_Z49, Dep 2 again → (∀ y0 y1 y2 y3, I y0 y1 y2 y3 → μ y0 y1 y2 y3 < μ a0 a1 a2 a3 → Tot (fun σ => again σ (y0, y1, y2, y3, ())) (Q y0 y1 y2 y3)) →
      Tot (fun σ => B_Z49_L0b (σ 0) (F_i_opOk (σ 0)) (again σ) a0 a1 a2 a3) (Q a0 a1 a2 a3)) :
    ∀ a0 a1 a2 a3, I a0 a1 a2 a3 → Tot (fun σ => B_Z49_L0 (σ 0) (F_i_opOk (σ 0)) (σ 0) (a0, a1, a2, a3, ())) (Q a0 a1 a2 a3) := fun a0 a1 a2 a3 => Tot.loop0 (L := fun k => B_Z49_L0 k (F_i_opOk k)) (B := fun k g => u_Z49_L0 (B_Z49_L0b k (F_i_opOk k) g)) (Q := u_Z49_L0 Q) (fun _ _ _ => rfl) (u_Z49_L0 I) (u_Z49_L0 μ)
    (fun t ht again hag h => step t.1 t.2.1 t.2.2.1 t.2.2.2.1 ht again hag fun y0 y1 y2 y3 => h (y0, y1, y2, y3, ())) (a0, a1, a2, a3, ())
abbrev R_Z24 : Type := Option ((((List (Int × Int × List Int)) × Unit × List Int × Bool × Unit) × Unit) × (Unit))
abbrev C_Z24 : Type := Int → R_Z24
abbrev T_Z24_L2 : Type := Int × (Unit × Unit × Unit × Bool × Unit) × (Unit × Unit × List Int × Bool × Unit) × Int × Int × Unit
def B_Z24_J1 (k : Nat) (again2 : T_Z24_L2 → R_Z24) (filled : Int) (t2_Done : Bool) (m_Memo : List Int) (m_Done : Bool) (t16 t17 : Int) : R_Z24 :=
  again2 (filled, ((), (), (), t2_Done, ()), ((), (), m_Memo, m_Done, ()), t16, w64 (t17 + 1), ())
def B_Z24_J3 (k : Nat) (t2_Done : Bool) (m_Nodes : List (Int × Int × List Int)) (m_Memo : List Int) (m_Done : Bool) : R_Z24 :=
  some (((m_Nodes, (), m_Memo, m_Done, ()), ()), ())
def B_Z24_L2b (k : Nat) (again2 : T_Z24_L2 → R_Z24) (filled : Int) (t2_Done : Bool) (m_Memo : List Int) (m_Done : Bool) (t16 t17 : Int) : R_Z24 :=
  bif decide (t17 < t16) then
    bif decide (t17 ≥ filled) then
      chk (inb t17 m_Memo.length) <|
      chk (decide (t17.toNat < m_Memo.length)) <|
      jn (fun t => B_Z24_J1 k again2 t.1 t.2.1.2.2.2.1 t.2.2.1.2.2.1 t.2.2.1.2.2.2.1 t.2.2.2.1 t.2.2.2.2.1) (filled, ((), (), (), t2_Done, ()), ((), (), (m_Memo.set t17.toNat (-1)), m_Done, ()), t16, t17, ())
    else
      jn (fun t => B_Z24_J1 k again2 t.1 t.2.1.2.2.2.1 t.2.2.1.2.2.1 t.2.2.1.2.2.2.1 t.2.2.2.1 t.2.2.2.2.1) (filled, ((), (), (), t2_Done, ()), ((), (), m_Memo, m_Done, ()), t16, t17, ())
  else
    bif (filled == 1) then
      jn (fun t => B_Z24_J3 k t.1.2.2.2.1 t.2.1.1 t.2.1.2.2.1 t.2.1.2.2.2.1) (((), (), (), t2_Done, ()), ([(0, (0, []))], (), m_Memo, m_Done, ()), ())
    else
      jn (fun t => B_Z24_J3 k t.1.2.2.2.1 t.2.1.1 t.2.1.2.2.1 t.2.1.2.2.2.1) (((), (), (), t2_Done, ()), ([], (), m_Memo, m_Done, ()), ())
def B_Z24_L2 (k : Nat) (n : Nat) (t : T_Z24_L2) : R_Z24 :=
  lfix n (fun again t => B_Z24_L2b k again t.1 t.2.1.2.2.2.1 t.2.2.1.2.2.1 t.2.2.1.2.2.2.1 t.2.2.2.1 t.2.2.2.2.1) t
def B_Z24_J0 (k : Nat) (filled : Int) (t2_Done t10 : Bool) : R_Z24 :=
  bif t10 then
    some ((([], (), [], false, ()), ()), ())
  else
    chk ((decide (0 ≤ 20 ∧ 20 ≤ (lim : Int)) && (20 == 20))) <|
    B_Z24_L2 k k (filled, ((), (), (), t2_Done, ()), ((), (), (List.replicate (20 : Int).toNat (0 : Int)), false, ()), len (List.replicate (20 : Int).toNat (0 : Int)), 0, ())
def B_Z24 (k : Nat) (filled : Int) : R_Z24 :=
  bif decide (filled < 0) then
    jn (fun t => B_Z24_J0 k t.1 t.2.1.2.2.2.1 t.2.2.1) (filled, ((), (), (), false, ()), true, ())
  else
    jn (fun t => B_Z24_J0 k t.1 t.2.1.2.2.2.1 t.2.2.1) (filled, ((), (), (), false, ()), decide (filled > 1), ())
def F_Z24 : Nat → C_Z24
  | 0, _ => none
  | k + 1, filled => B_Z24 k filled
theorem tot_Z24 {filled : _} {Q : _ → Prop} (h : Tot (fun σ => B_Z24 (σ 0) filled) Q) : Tot (fun σ => F_Z24 (σ 0) filled) Q :=
  Tot.call (F := fun k => F_Z24 k filled) (B := fun k => B_Z24 k filled) (fun k => rfl) h
abbrev A_Z24_L2 (Z : Type) : Type := Int → Bool → List Int → Bool → Int → Int → Z
abbrev u_Z24_L2 {Z : Type} (f : A_Z24_L2 Z) (t : T_Z24_L2) : Z := f t.1 t.2.1.2.2.2.1 t.2.2.1.2.2.1 t.2.2.1.2.2.2.1 t.2.2.2.1 t.2.2.2.2.1
theorem loop_Z24_L2 {Q : A_Z24_L2 (((((List (Int × Int × List Int)) × Unit × List Int × Bool × Unit) × Unit) × (Unit)) → Prop)} (I : A_Z24_L2 Prop) (μ : A_Z24_L2 Nat)
    (step : ∀ a0 a1 a2 a3 a4 a5, I a0 a1 a2 a3 a4 a5 → ∀ again : (Nat → Nat) → T_Z24_L2 → R_Z24, Dep 2 again → (∀ y0 y1 y2 y3 y4 y5, I y0 y1 y2 y3 y4 y5 → μ y0 y1 y2 y3 y4 y5 < μ a0 a1 a2 a3 a4 a5 → Tot (fun σ => again σ (y0, ((), (), (), y1, ()), ((), (), y2, y3, ()), y4, y5, ())) (Q y0 y1 y2 y3 y4 y5)) →
      Tot (fun σ => B_Z24_L2b (σ 0) (again σ) a0 a1 a2 a3 a4 a5) (Q a0 a1 a2 a3 a4 a5)) :
    ∀ a0 a1 a2 a3 a4 a5, I a0 a1 a2 a3 a4 a5 → Tot (fun σ => B_Z24_L2 (σ 0) (σ 0) (a0, ((), (), (), a1, ()), ((), (), a2, a3, ()), a4, a5, ())) (Q a0 a1 a2 a3 a4 a5) := fun a0 a1 a2 a3 a4 a5 => Tot.loop0 (L := fun k => B_Z24_L2 k) (B := fun k g => u_Z24_L2 (B_Z24_L2b k g)) (Q := u_Z24_L2 Q) (fun _ _ _ => rfl) (u_Z24_L2 I) (u_Z24_L2 μ)
    (fun t ht again hag h => step t.1 t.2.1.2.2.2.1 t.2.2.1.2.2.1 t.2.2.1.2.2.2.1 t.2.2.2.1 t.2.2.2.2.1 ht again hag fun y0 y1 y2 y3 y4 y5 => h (y0, ((), (), (), y1, ()), ((), (), y2, y3, ()), y4, y5, ())) (a0, ((), (), (), a1, ()), ((), (), a2, a3, ()), a4, a5, ())
abbrev R_Z5 : Type := Option ((List Int × Unit) × (Unit))
abbrev C_Z5 : Type := List Int → R_Z5
def B_Z5 (k : Nat) (s : List Int) : R_Z5 :=
  chk (room ([] : List Int).length s.length) <|
  some ((s, ()), ())
def F_Z5 : Nat → C_Z5
  | 0, _ => none
  | k + 1, s => B_Z5 k s
theorem tot_Z5 {s : _} {Q : _ → Prop} (h : Tot (fun σ => B_Z5 (σ 0) s) Q) : Tot (fun σ => F_Z5 (σ 0) s) Q :=
  Tot.call (F := fun k => F_Z5 k s) (B := fun k => B_Z5 k s) (fun k => rfl) h
abbrev R_Z9 : Type := Option ((Int × Unit) × (((List (Int × Int × List Int)) × List Int × List Int × Bool × Unit) × Unit))
abbrev C_Z9 : Type := (List (Int × Int × List Int)) → List Int → List Int → Bool → R_Z9
abbrev T_Z9_L1 : Type := ((List (Int × Int × List Int)) × List Int × List Int × Bool × Unit) × Int × Unit
def B_Z9_J0 (k : Nat) (again1 : T_Z9_L1 → R_Z9) (m_Nodes : List (Int × Int × List Int)) (m_Stack m_Memo : List Int) (m_Done : Bool) (n3 : Int) (t27 : Bool) : R_Z9 :=
  bif t27 then
    again1 ((m_Nodes, m_Stack, m_Memo, m_Done, ()), w64 (n3 + 1), ())
  else
    some ((n3, ()), ((m_Nodes, m_Stack, m_Memo, m_Done, ()), ()))
def B_Z9_L1b (k : Nat) (again1 : T_Z9_L1 → R_Z9) (m_Nodes : List (Int × Int × List Int)) (m_Stack m_Memo : List Int) (m_Done : Bool) (n3 : Int) : R_Z9 :=
  bif decide (n3 < (len m_Stack)) then
    chk (inb (w64 ((w64 ((len m_Stack) - 1)) - n3)) m_Stack.length) <|
    chk (decide ((w64 ((w64 ((len m_Stack) - 1)) - n3)).toNat < m_Stack.length)) <|
    jn (fun t => B_Z9_J0 k again1 t.1.1 t.1.2.1 t.1.2.2.1 t.1.2.2.2.1 t.2.1 t.2.2.1) ((m_Nodes, m_Stack, m_Memo, m_Done, ()), n3, decide ((m_Stack.getD ((w64 ((w64 ((len m_Stack) - 1)) - n3)).toNat) (0 : Int)) ≥ 0), ())
  else
    jn (fun t => B_Z9_J0 k again1 t.1.1 t.1.2.1 t.1.2.2.1 t.1.2.2.2.1 t.2.1 t.2.2.1) ((m_Nodes, m_Stack, m_Memo, m_Done, ()), n3, false, ())
def B_Z9_L1 (k : Nat) (n : Nat) (t : T_Z9_L1) : R_Z9 :=
  lfix n (fun again t => B_Z9_L1b k again t.1.1 t.1.2.1 t.1.2.2.1 t.1.2.2.2.1 t.2.1) t
def B_Z9 (k : Nat) (m_Nodes : List (Int × Int × List Int)) (m_Stack m_Memo : List Int) (m_Done : Bool) : R_Z9 :=
  B_Z9_L1 k k ((m_Nodes, m_Stack, m_Memo, m_Done, ()), 0, ())
def F_Z9 : Nat → C_Z9
  | 0, _, _, _, _ => none
  | k + 1, m_Nodes, m_Stack, m_Memo, m_Done => B_Z9 k m_Nodes m_Stack m_Memo m_Done
theorem tot_Z9 {m_Nodes m_Stack m_Memo m_Done : _} {Q : _ → Prop} (h : Tot (fun σ => B_Z9 (σ 0) m_Nodes m_Stack m_Memo m_Done) Q) : Tot (fun σ => F_Z9 (σ 0) m_Nodes m_Stack m_Memo m_Done) Q :=
  Tot.call (F := fun k => F_Z9 k m_Nodes m_Stack m_Memo m_Done) (B := fun k => B_Z9 k m_Nodes m_Stack m_Memo m_Done) (fun k => rfl) h
abbrev A_Z9_L1 (Z : Type) : Type := (List (Int × Int × List Int)) → List Int → List Int → Bool → Int → Z
abbrev u_Z9_L1 {Z : Type} (f : A_Z9_L1 Z) (t : T_Z9_L1) : Z := f t.1.1 t.1.2.1 t.1.2.2.1 t.1.2.2.2.1 t.2.1
theorem loop_Z9_L1 {Q : A_Z9_L1 (((Int × Unit) × (((List (Int × Int × List Int)) × List Int × List Int × Bool × Unit) × Unit)) → Prop)} (I : A_Z9_L1 Prop) (μ : A_Z9_L1 Nat)
    (step : ∀ a0 a1 a2 a3 a4, I a0 a1 a2 a3 a4 → ∀ again : (Nat → Nat) → T_Z9_L1 → R_Z9, Dep 2 again → (∀ y0 y1 y2 y3 y4, I y0 y1 y2 y3 y4 → μ y0 y1 y2 y3 y4 < μ a0 a1 a2 a3 a4 → Tot (fun σ => again σ ((y0, y1, y2, y3, ()), y4, ())) (Q y0 y1 y2 y3 y4)) →
      Tot (fun σ => B_Z9_L1b (σ 0) (again σ) a0 a1 a2 a3 a4) (Q a0 a1 a2 a3 a4)) :
    ∀ a0 a1 a2 a3 a4, I a0 a1 a2 a3 a4 → Tot (fun σ => B_Z9_L1 (σ 0) (σ 0) ((a0, a1, a2, a3, ()), a4, ())) (Q a0 a1 a2 a3 a4) := fun a0 a1 a2 a3 a4 => Tot.loop0 (L := fun k => B_Z9_L1 k) (B := fun k g => u_Z9_L1 (B_Z9_L1b k g)) (Q := u_Z9_L1 Q) (fun _ _ _ => rfl) (u_Z9_L1 I) (u_Z9_L1 μ)
    (fun t ht again hag h => step t.1.1 t.1.2.1 t.1.2.2.1 t.1.2.2.2.1 t.2.1 ht again hag fun y0 y1 y2 y3 y4 => h ((y0, y1, y2, y3, ()), y4, ())) ((a0, a1, a2, a3, ()), a4, ())
abbrev R_Z16 : Type := Option ((Bool × Unit) × (((List (Int × Int × List Int)) × List Int × List Int × Bool × Unit) × Unit))
abbrev C_Z16 : Type := (List (Int × Int × List Int)) → List Int → List Int → Bool → Int → R_Z16
def B_Z16 (k : Nat) (m_Nodes : List (Int × Int × List Int)) (m_Stack m_Memo : List Int) (m_Done : Bool) (i : Int) : R_Z16 :=
  chk (room m_Stack.length ([i]).length) <|
  some ((decide ((len (m_Stack ++ [i])) ≤ 300), ()), ((m_Nodes, (m_Stack ++ [i]), m_Memo, m_Done, ()), ()))
def F_Z16 : Nat → C_Z16
  | 0, _, _, _, _, _ => none
  | k + 1, m_Nodes, m_Stack, m_Memo, m_Done, i => B_Z16 k m_Nodes m_Stack m_Memo m_Done i
theorem tot_Z16 {m_Nodes m_Stack m_Memo m_Done i : _} {Q : _ → Prop} (h : Tot (fun σ => B_Z16 (σ 0) m_Nodes m_Stack m_Memo m_Done i) Q) : Tot (fun σ => F_Z16 (σ 0) m_Nodes m_Stack m_Memo m_Done i) Q :=
  Tot.call (F := fun k => F_Z16 k m_Nodes m_Stack m_Memo m_Done i) (B := fun k => B_Z16 k m_Nodes m_Stack m_Memo m_Done i) (fun k => rfl) h
abbrev R_Z10 : Type := Option ((Bool × Unit) × (((List (Int × Int × List Int)) × List Int × List Int × Bool × Unit) × Unit))
abbrev C_Z10 : Type := (List (Int × Int × List Int)) → List Int → List Int → Bool → Int → Int → List Int → R_Z10
def B_Z10 (k : Nat) (c_Z5 : C_Z5) (c_Z16 : C_Z16) (m_Nodes : List (Int × Int × List Int)) (m_Stack m_Memo : List Int) (m_Done : Bool) (kind value : Int) (kids : List Int) : R_Z10 :=
  (c_Z5 kids).bind fun r17 =>
  chk (room m_Nodes.length ([(kind, (value, r17.1.1))]).length) <|
  bif decide ((len (m_Nodes ++ [(kind, (value, r17.1.1))])) ≤ 300) then
    (c_Z16 (m_Nodes ++ [(kind, (value, r17.1.1))]) m_Stack m_Memo m_Done (w64 ((len (m_Nodes ++ [(kind, (value, r17.1.1))])) - 1))).bind fun r37 =>
    some ((r37.1.1, ()), ((r37.2.1.1, r37.2.1.2.1, r37.2.1.2.2.1, r37.2.1.2.2.2.1, ()), ()))
  else
    some ((false, ()), (((m_Nodes ++ [(kind, (value, r17.1.1))]), m_Stack, m_Memo, m_Done, ()), ()))
def F_Z10 : Nat → C_Z10
  | 0, _, _, _, _, _, _, _ => none
  | k + 1, m_Nodes, m_Stack, m_Memo, m_Done, kind, value, kids => B_Z10 k (F_Z5 k) (F_Z16 k) m_Nodes m_Stack m_Memo m_Done kind value kids
theorem tot_Z10 {m_Nodes m_Stack m_Memo m_Done kind value kids : _} {Q : _ → Prop} (h : Tot (fun σ => B_Z10 (σ 0) (F_Z5 (σ 0)) (F_Z16 (σ 0)) m_Nodes m_Stack m_Memo m_Done kind value kids) Q) : Tot (fun σ => F_Z10 (σ 0) m_Nodes m_Stack m_Memo m_Done kind value kids) Q :=
  Tot.call (F := fun k => F_Z10 k m_Nodes m_Stack m_Memo m_Done kind value kids) (B := fun k => B_Z10 k (F_Z5 k) (F_Z16 k) m_Nodes m_Stack m_Memo m_Done kind value kids) (fun k => rfl) h
abbrev R_Z17 : Type := Option ((List Int × Unit) × (((List (Int × Int × List Int)) × List Int × List Int × Bool × Unit) × Unit))
abbrev C_Z17 : Type := (List (Int × Int × List Int)) → List Int → List Int → Bool → Int → R_Z17
def B_Z17 (k : Nat) (c_Z5 : C_Z5) (m_Nodes : List (Int × Int × List Int)) (m_Stack m_Memo : List Int) (m_Done : Bool) (n1 : Int) : R_Z17 :=
  chk (cutb (w64 ((len m_Stack) - n1)) (len m_Stack) m_Stack.length) <|
  (c_Z5 ((m_Stack.take ((len m_Stack).toNat)).drop ((w64 ((len m_Stack) - n1)).toNat))).bind fun r20 =>
  chk (cutb 0 (w64 ((len m_Stack) - n1)) m_Stack.length) <|
  some ((r20.1.1, ()), ((m_Nodes, (m_Stack.take ((w64 ((len m_Stack) - n1)).toNat)), m_Memo, m_Done, ()), ()))
def F_Z17 : Nat → C_Z17
  | 0, _, _, _, _, _ => none
  | k + 1, m_Nodes, m_Stack, m_Memo, m_Done, n1 => B_Z17 k (F_Z5 k) m_Nodes m_Stack m_Memo m_Done n1
theorem tot_Z17 {m_Nodes m_Stack m_Memo m_Done n1 : _} {Q : _ → Prop} (h : Tot (fun σ => B_Z17 (σ 0) (F_Z5 (σ 0)) m_Nodes m_Stack m_Memo m_Done n1) Q) : Tot (fun σ => F_Z17 (σ 0) m_Nodes m_Stack m_Memo m_Done n1) Q :=
  Tot.call (F := fun k => F_Z17 k m_Nodes m_Stack m_Memo m_Done n1) (B := fun k => B_Z17 k (F_Z5 k) m_Nodes m_Stack m_Memo m_Done n1) (fun k => rfl) h
abbrev R_Z8 : Type := Option ((List Int × Bool × Unit) × (((List (Int × Int × List Int)) × List Int × List Int × Bool × Unit) × Unit))
abbrev C_Z8 : Type := (List (Int × Int × List Int)) → List Int → List Int → Bool → R_Z8
def B_Z8 (k : Nat) (c_Z9 : C_Z9) (c_Z17 : C_Z17) (m_Nodes : List (Int × Int × List Int)) (m_Stack m_Memo : List Int) (m_Done : Bool) : R_Z8 :=
  (c_Z9 m_Nodes m_Stack m_Memo m_Done).bind fun r6 =>
  bif (r6.1.1 == (len r6.2.1.2.1)) then
    some (([], false, ()), ((r6.2.1.1, r6.2.1.2.1, r6.2.1.2.2.1, r6.2.1.2.2.2.1, ()), ()))
  else
    (c_Z17 r6.2.1.1 r6.2.1.2.1 r6.2.1.2.2.1 r6.2.1.2.2.2.1 (w64 (r6.1.1 + 1))).bind fun r17 =>
    chk (cutb 1 (len r17.1.1) r17.1.1.length) <|
    some ((((r17.1.1.take ((len r17.1.1).toNat)).drop ((1 : Int).toNat)), true, ()), ((r17.2.1.1, r17.2.1.2.1, r17.2.1.2.2.1, r17.2.1.2.2.2.1, ()), ()))
def F_Z8 : Nat → C_Z8
  | 0, _, _, _, _ => none
  | k + 1, m_Nodes, m_Stack, m_Memo, m_Done => B_Z8 k (F_Z9 k) (F_Z17 k) m_Nodes m_Stack m_Memo m_Done
theorem tot_Z8 {m_Nodes m_Stack m_Memo m_Done : _} {Q : _ → Prop} (h : Tot (fun σ => B_Z8 (σ 0) (F_Z9 (σ 0)) (F_Z17 (σ 0)) m_Nodes m_Stack m_Memo m_Done) Q) : Tot (fun σ => F_Z8 (σ 0) m_Nodes m_Stack m_Memo m_Done) Q :=
  Tot.call (F := fun k => F_Z8 k m_Nodes m_Stack m_Memo m_Done) (B := fun k => B_Z8 k (F_Z9 k) (F_Z17 k) m_Nodes m_Stack m_Memo m_Done) (fun k => rfl) h
abbrev R_Z21 : Type := Option ((Option Nat × Bool × Unit) × (((List (Int × Int × List Int)) × List Int × List Int × Bool × Unit) × Unit))
abbrev C_Z21 : Type := (List (Int × Int × List Int)) → List Int → List Int → Bool → Int → R_Z21
def B_Z21 (k : Nat) (c_Z9 : C_Z9) (m_Nodes : List (Int × Int × List Int)) (m_Stack m_Memo : List Int) (m_Done : Bool) (kind : Int) : R_Z21 :=
  (c_Z9 m_Nodes m_Stack m_Memo m_Done).bind fun r8 =>
  bif (r8.1.1 == 0) then
    some ((none, false, ()), ((r8.2.1.1, r8.2.1.2.1, r8.2.1.2.2.1, r8.2.1.2.2.2.1, ()), ()))
  else
    chk (inb (w64 ((len r8.2.1.2.1) - 1)) r8.2.1.2.1.length) <|
    chk (decide ((w64 ((len r8.2.1.2.1) - 1)).toNat < r8.2.1.2.1.length)) <|
    chk (inb (r8.2.1.2.1.getD ((w64 ((len r8.2.1.2.1) - 1)).toNat) (0 : Int)) r8.2.1.1.length) <|
    chk (decide ((r8.2.1.2.1.getD ((w64 ((len r8.2.1.2.1) - 1)).toNat) (0 : Int)).toNat < r8.2.1.1.length)) <|
    let v31 : Int := (r8.2.1.1.getD ((r8.2.1.2.1.getD ((w64 ((len r8.2.1.2.1) - 1)).toNat) (0 : Int)).toNat) ((0 : Int), ((0 : Int), ([] : List Int)))).1
    some (((some ((r8.2.1.2.1.getD ((w64 ((len r8.2.1.2.1) - 1)).toNat) (0 : Int)).toNat)), (v31 == kind), ()), ((r8.2.1.1, r8.2.1.2.1, r8.2.1.2.2.1, r8.2.1.2.2.2.1, ()), ()))
def F_Z21 : Nat → C_Z21
  | 0, _, _, _, _, _ => none
  | k + 1, m_Nodes, m_Stack, m_Memo, m_Done, kind => B_Z21 k (F_Z9 k) m_Nodes m_Stack m_Memo m_Done kind
theorem tot_Z21 {m_Nodes m_Stack m_Memo m_Done kind : _} {Q : _ → Prop} (h : Tot (fun σ => B_Z21 (σ 0) (F_Z9 (σ 0)) m_Nodes m_Stack m_Memo m_Done kind) Q) : Tot (fun σ => F_Z21 (σ 0) m_Nodes m_Stack m_Memo m_Done kind) Q :=
  Tot.call (F := fun k => F_Z21 k m_Nodes m_Stack m_Memo m_Done kind) (B := fun k => B_Z21 k (F_Z9 k) m_Nodes m_Stack m_Memo m_Done kind) (fun k => rfl) h
abbrev R_Z22 : Type := Option ((Bool × Unit) × (((List (Int × Int × List Int)) × List Int × List Int × Bool × Unit) × Unit))
abbrev C_Z22 : Type := (List (Int × Int × List Int)) → List Int → List Int → Bool → List Int → R_Z22
abbrev T_Z22_L3 : Type := ((List (Int × Int × List Int)) × List Int × List Int × Bool × Unit) × List Int × Int × Option Nat × Unit
abbrev T_Z22_L1 : Type := ((List (Int × Int × List Int)) × List Int × List Int × Bool × Unit) × List Int × Int × Option Nat × Unit
def B_Z22_J2 (k : Nat) (c_Z21 : C_Z21) (c_Z63 : C_Z63) (again3 : T_Z22_L3 → R_Z22) (m_Nodes : List (Int × Int × List Int)) (m_Stack m_Memo : List Int) (m_Done : Bool) (pairs : List Int) (i : Int) (x : Option Nat) : R_Z22 :=
  again3 ((m_Nodes, m_Stack, m_Memo, m_Done, ()), pairs, w64 (i + 2), x, ())
def B_Z22_L3b (k : Nat) (c_Z21 : C_Z21) (c_Z63 : C_Z63) (again3 : T_Z22_L3 → R_Z22) (m_Nodes : List (Int × Int × List Int)) (m_Stack m_Memo : List Int) (m_Done : Bool) (pairs : List Int) (i : Int) (x : Option Nat) : R_Z22 :=
  bif decide (i < (len pairs)) then
    chk (inb i pairs.length) <|
    chk (inb (rdx (0 : Int) pairs i) m_Nodes.length) <|
    chk (decide ((rdx (0 : Int) pairs i).toNat < m_Nodes.length)) <|
    (x).bind fun p16 =>
    chk (decide (p16 < m_Nodes.length)) <|
    (c_Z63 (m_Nodes.set p16 ((m_Nodes.getD p16 ((0 : Int), ((0 : Int), ([] : List Int)))).1, (((m_Nodes.getD p16 ((0 : Int), ((0 : Int), ([] : List Int)))).2).1, ((m_Nodes.getD p16 ((0 : Int), ((0 : Int), ([] : List Int)))).2).2))) (((m_Nodes.getD p16 ((0 : Int), ((0 : Int), ([] : List Int)))).2).2) ((m_Nodes.getD ((rdx (0 : Int) pairs i).toNat) ((0 : Int), ((0 : Int), ([] : List Int)))).1) (((m_Nodes.getD ((rdx (0 : Int) pairs i).toNat) ((0 : Int), ((0 : Int), ([] : List Int)))).2).1)).bind fun r67 =>
    bif decide (r67.1.1 ≥ 0) then
      (x).bind fun p17 =>
      chk (decide (p17 < (m_Nodes.set p16 ((m_Nodes.getD p16 ((0 : Int), ((0 : Int), ([] : List Int)))).1, (((m_Nodes.getD p16 ((0 : Int), ((0 : Int), ([] : List Int)))).2).1, ((m_Nodes.getD p16 ((0 : Int), ((0 : Int), ([] : List Int)))).2).2))).length)) <|
      chk (inb (w64 (i + 1)) pairs.length) <|
      chk (inb (w64 (r67.1.1 + 1)) ((((m_Nodes.set p16 ((m_Nodes.getD p16 ((0 : Int), ((0 : Int), ([] : List Int)))).1, (((m_Nodes.getD p16 ((0 : Int), ((0 : Int), ([] : List Int)))).2).1, ((m_Nodes.getD p16 ((0 : Int), ((0 : Int), ([] : List Int)))).2).2))).getD p17 ((0 : Int), ((0 : Int), ([] : List Int)))).2).2).length) <|
      chk (decide ((w64 (r67.1.1 + 1)).toNat < ((((m_Nodes.set p16 ((m_Nodes.getD p16 ((0 : Int), ((0 : Int), ([] : List Int)))).1, (((m_Nodes.getD p16 ((0 : Int), ((0 : Int), ([] : List Int)))).2).1, ((m_Nodes.getD p16 ((0 : Int), ((0 : Int), ([] : List Int)))).2).2))).getD p17 ((0 : Int), ((0 : Int), ([] : List Int)))).2).2).length)) <|
      let w18 : List (Int × Int × List Int) := ((m_Nodes.set p16 ((m_Nodes.getD p16 ((0 : Int), ((0 : Int), ([] : List Int)))).1, (((m_Nodes.getD p16 ((0 : Int), ((0 : Int), ([] : List Int)))).2).1, ((m_Nodes.getD p16 ((0 : Int), ((0 : Int), ([] : List Int)))).2).2))).set p17 (((m_Nodes.set p16 ((m_Nodes.getD p16 ((0 : Int), ((0 : Int), ([] : List Int)))).1, (((m_Nodes.getD p16 ((0 : Int), ((0 : Int), ([] : List Int)))).2).1, ((m_Nodes.getD p16 ((0 : Int), ((0 : Int), ([] : List Int)))).2).2))).getD p17 ((0 : Int), ((0 : Int), ([] : List Int)))).1, ((((m_Nodes.set p16 ((m_Nodes.getD p16 ((0 : Int), ((0 : Int), ([] : List Int)))).1, (((m_Nodes.getD p16 ((0 : Int), ((0 : Int), ([] : List Int)))).2).1, ((m_Nodes.getD p16 ((0 : Int), ((0 : Int), ([] : List Int)))).2).2))).getD p17 ((0 : Int), ((0 : Int), ([] : List Int)))).2).1, (((((m_Nodes.set p16 ((m_Nodes.getD p16 ((0 : Int), ((0 : Int), ([] : List Int)))).1, (((m_Nodes.getD p16 ((0 : Int), ((0 : Int), ([] : List Int)))).2).1, ((m_Nodes.getD p16 ((0 : Int), ((0 : Int), ([] : List Int)))).2).2))).getD p17 ((0 : Int), ((0 : Int), ([] : List Int)))).2).2).set ((w64 (r67.1.1 + 1)).toNat) (rdx (0 : Int) pairs (w64 (i + 1)))))))
      jn (fun t => B_Z22_J2 k c_Z21 c_Z63 again3 t.1.1 t.1.2.1 t.1.2.2.1 t.1.2.2.2.1 t.2.1 t.2.2.1 t.2.2.2.1) ((w18, m_Stack, m_Memo, m_Done, ()), pairs, i, x, ())
    else
      (x).bind fun p19 =>
      chk (decide (p19 < (m_Nodes.set p16 ((m_Nodes.getD p16 ((0 : Int), ((0 : Int), ([] : List Int)))).1, (((m_Nodes.getD p16 ((0 : Int), ((0 : Int), ([] : List Int)))).2).1, ((m_Nodes.getD p16 ((0 : Int), ((0 : Int), ([] : List Int)))).2).2))).length)) <|
      chk (inb i pairs.length) <|
      chk (inb (w64 (i + 1)) pairs.length) <|
      chk (room ((((m_Nodes.set p16 ((m_Nodes.getD p16 ((0 : Int), ((0 : Int), ([] : List Int)))).1, (((m_Nodes.getD p16 ((0 : Int), ((0 : Int), ([] : List Int)))).2).1, ((m_Nodes.getD p16 ((0 : Int), ((0 : Int), ([] : List Int)))).2).2))).getD p19 ((0 : Int), ((0 : Int), ([] : List Int)))).2).2).length ([(rdx (0 : Int) pairs i), (rdx (0 : Int) pairs (w64 (i + 1)))]).length) <|
      (x).bind fun p20 =>
      chk (decide (p20 = p19)) <|
      let w21 : List (Int × Int × List Int) := ((m_Nodes.set p16 ((m_Nodes.getD p16 ((0 : Int), ((0 : Int), ([] : List Int)))).1, (((m_Nodes.getD p16 ((0 : Int), ((0 : Int), ([] : List Int)))).2).1, ((m_Nodes.getD p16 ((0 : Int), ((0 : Int), ([] : List Int)))).2).2))).set p20 (((m_Nodes.set p16 ((m_Nodes.getD p16 ((0 : Int), ((0 : Int), ([] : List Int)))).1, (((m_Nodes.getD p16 ((0 : Int), ((0 : Int), ([] : List Int)))).2).1, ((m_Nodes.getD p16 ((0 : Int), ((0 : Int), ([] : List Int)))).2).2))).getD p20 ((0 : Int), ((0 : Int), ([] : List Int)))).1, ((((m_Nodes.set p16 ((m_Nodes.getD p16 ((0 : Int), ((0 : Int), ([] : List Int)))).1, (((m_Nodes.getD p16 ((0 : Int), ((0 : Int), ([] : List Int)))).2).1, ((m_Nodes.getD p16 ((0 : Int), ((0 : Int), ([] : List Int)))).2).2))).getD p20 ((0 : Int), ((0 : Int), ([] : List Int)))).2).1, ((((m_Nodes.set p16 ((m_Nodes.getD p16 ((0 : Int), ((0 : Int), ([] : List Int)))).1, (((m_Nodes.getD p16 ((0 : Int), ((0 : Int), ([] : List Int)))).2).1, ((m_Nodes.getD p16 ((0 : Int), ((0 : Int), ([] : List Int)))).2).2))).getD p19 ((0 : Int), ((0 : Int), ([] : List Int)))).2).2 ++ [(rdx (0 : Int) pairs i), (rdx (0 : Int) pairs (w64 (i + 1)))]))))
      jn (fun t => B_Z22_J2 k c_Z21 c_Z63 again3 t.1.1 t.1.2.1 t.1.2.2.1 t.1.2.2.2.1 t.2.1 t.2.2.1 t.2.2.2.1) ((w21, m_Stack, m_Memo, m_Done, ()), pairs, i, x, ())
  else
    some ((true, ()), ((m_Nodes, m_Stack, m_Memo, m_Done, ()), ()))
def B_Z22_L3 (k : Nat) (c_Z21 : C_Z21) (c_Z63 : C_Z63) (n : Nat) (t : T_Z22_L3) : R_Z22 :=
  lfix n (fun again t => B_Z22_L3b k c_Z21 c_Z63 again t.1.1 t.1.2.1 t.1.2.2.1 t.1.2.2.2.1 t.2.1 t.2.2.1 t.2.2.2.1) t
def B_Z22_L1b (k : Nat) (c_Z21 : C_Z21) (c_Z63 : C_Z63) (again1 : T_Z22_L1 → R_Z22) (m_Nodes : List (Int × Int × List Int)) (m_Stack m_Memo : List Int) (m_Done : Bool) (pairs : List Int) (i : Int) (x : Option Nat) : R_Z22 :=
  bif decide (i < (len pairs)) then
    chk (inb i pairs.length) <|
    chk (inb (rdx (0 : Int) pairs i) m_Nodes.length) <|
    chk (decide ((rdx (0 : Int) pairs i).toNat < m_Nodes.length)) <|
    let v41 : Bool := decide (((m_Nodes.getD ((rdx (0 : Int) pairs i).toNat) ((0 : Int), ((0 : Int), ([] : List Int)))).1) > 1)
    bif v41 then
      some ((false, ()), ((m_Nodes, m_Stack, m_Memo, m_Done, ()), ()))
    else
      again1 ((m_Nodes, m_Stack, m_Memo, m_Done, ()), pairs, w64 (i + 2), x, ())
  else
    B_Z22_L3 k c_Z21 c_Z63 k ((m_Nodes, m_Stack, m_Memo, m_Done, ()), pairs, 0, x, ())
def B_Z22_L1 (k : Nat) (c_Z21 : C_Z21) (c_Z63 : C_Z63) (n : Nat) (t : T_Z22_L1) : R_Z22 :=
  lfix n (fun again t => B_Z22_L1b k c_Z21 c_Z63 again t.1.1 t.1.2.1 t.1.2.2.1 t.1.2.2.2.1 t.2.1 t.2.2.1 t.2.2.2.1) t
def B_Z22_J0 (k : Nat) (c_Z21 : C_Z21) (c_Z63 : C_Z63) (m_Nodes : List (Int × Int × List Int)) (m_Stack m_Memo : List Int) (m_Done : Bool) (pairs : List Int) (t23 : Bool) (x : Option Nat) : R_Z22 :=
  bif t23 then
    some ((false, ()), ((m_Nodes, m_Stack, m_Memo, m_Done, ()), ()))
  else
    B_Z22_L1 k c_Z21 c_Z63 k ((m_Nodes, m_Stack, m_Memo, m_Done, ()), pairs, 0, x, ())
def B_Z22 (k : Nat) (c_Z21 : C_Z21) (c_Z63 : C_Z63) (m_Nodes : List (Int × Int × List Int)) (m_Stack m_Memo : List Int) (m_Done : Bool) (pairs : List Int) : R_Z22 :=
  (c_Z21 m_Nodes m_Stack m_Memo m_Done 4).bind fun r13 =>
  bif (!r13.1.2.1) then
    jn (fun t => B_Z22_J0 k c_Z21 c_Z63 t.1.1 t.1.2.1 t.1.2.2.1 t.1.2.2.2.1 t.2.1 t.2.2.1 t.2.2.2.1) ((r13.2.1.1, r13.2.1.2.1, r13.2.1.2.2.1, r13.2.1.2.2.2.1, ()), pairs, true, r13.1.1, ())
  else
    jn (fun t => B_Z22_J0 k c_Z21 c_Z63 t.1.1 t.1.2.1 t.1.2.2.1 t.1.2.2.2.1 t.2.1 t.2.2.1 t.2.2.2.1) ((r13.2.1.1, r13.2.1.2.1, r13.2.1.2.2.1, r13.2.1.2.2.2.1, ()), pairs, (((len pairs).tmod 2) != 0), r13.1.1, ())
def F_Z22 : Nat → C_Z22
  | 0, _, _, _, _, _ => none
  | k + 1, m_Nodes, m_Stack, m_Memo, m_Done, pairs => B_Z22 k (F_Z21 k) (F_Z63 k) m_Nodes m_Stack m_Memo m_Done pairs
theorem tot_Z22 {m_Nodes m_Stack m_Memo m_Done pairs : _} {Q : _ → Prop} (h : Tot (fun σ => B_Z22 (σ 0) (F_Z21 (σ 0)) (F_Z63 (σ 0)) m_Nodes m_Stack m_Memo m_Done pairs) Q) : Tot (fun σ => F_Z22 (σ 0) m_Nodes m_Stack m_Memo m_Done pairs) Q :=
  Tot.call (F := fun k => F_Z22 k m_Nodes m_Stack m_Memo m_Done pairs) (B := fun k => B_Z22 k (F_Z21 k) (F_Z63 k) m_Nodes m_Stack m_Memo m_Done pairs) (fun k => rfl) h
abbrev A_Z22_L3 (Z : Type) : Type := (List (Int × Int × List Int)) → List Int → List Int → Bool → List Int → Int → Option Nat → Z
abbrev u_Z22_L3 {Z : Type} (f : A_Z22_L3 Z) (t : T_Z22_L3) : Z := f t.1.1 t.1.2.1 t.1.2.2.1 t.1.2.2.2.1 t.2.1 t.2.2.1 t.2.2.2.1
theorem loop_Z22_L3 {Q : A_Z22_L3 (((Bool × Unit) × (((List (Int × Int × List Int)) × List Int × List Int × Bool × Unit) × Unit)) → Prop)} (I : A_Z22_L3 Prop) (μ : A_Z22_L3 Nat)
    (step : ∀ a0 a1 a2 a3 a4 a5 a6, I a0 a1 a2 a3 a4 a5 a6 → ∀ again : (Nat → Nat) → T_Z22_L3 → R_Z22, Dep 2 again → (∀ y0 y1 y2 y3 y4 y5 y6, I y0 y1 y2 y3 y4 y5 y6 → μ y0 y1 y2 y3 y4 y5 y6 < μ a0 a1 a2 a3 a4 a5 a6 → Tot (fun σ => again σ ((y0, y1, y2, y3, ()), y4, y5, y6, ())) (Q y0 y1 y2 y3 y4 y5 y6)) →
      Tot (fun σ => B_Z22_L3b (σ 0) (F_Z21 (σ 0)) (F_Z63 (σ 0)) (again σ) a0 a1 a2 a3 a4 a5 a6) (Q a0 a1 a2 a3 a4 a5 a6)) :
    ∀ a0 a1 a2 a3 a4 a5 a6, I a0 a1 a2 a3 a4 a5 a6 → Tot (fun σ => B_Z22_L3 (σ 0) (F_Z21 (σ 0)) (F_Z63 (σ 0)) (σ 0) ((a0, a1, a2, a3, ()), a4, a5, a6, ())) (Q a0 a1 a2 a3 a4 a5 a6) := fun a0 a1 a2 a3 a4 a5 a6 => Tot.loop0 (L := fun k => B_Z22_L3 k (F_Z21 k) (F_Z63 k)) (B := fun k g => u_Z22_L3 (B_Z22_L3b k (F_Z21 k) (F_Z63 k) g)) (Q := u_Z22_L3 Q) (fun _ _ _ => rfl) (u_Z22_L3 I) (u_Z22_L3 μ)
    (fun t ht again hag h => step t.1.1 t.1.2.1 t.1.2.2.1 t.1.2.2.2.1 t.2.1 t.2.2.1 t.2.2.2.1 ht again hag fun y0 y1 y2 y3 y4 y5 y6 => h ((y0, y1, y2, y3, ()), y4, y5, y6, ())) ((a0, a1, a2, a3, ()), a4, a5, a6, ())
abbrev A_Z22_L1 (Z : Type) : Type := (List (Int × Int × List Int)) → List Int → List Int → Bool → List Int → Int → Option Nat → Z
abbrev u_Z22_L1 {Z : Type} (f : A_Z22_L1 Z) (t : T_Z22_L1) : Z := f t.1.1 t.1.2.1 t.1.2.2.1 t.1.2.2.2.1 t.2.1 t.2.2.1 t.2.2.2.1
theorem loop_Z22_L1 {Q : A_Z22_L1 (((Bool × Unit) × (((List (Int × Int × List Int)) × List Int × List Int × Bool × Unit) × Unit)) → Prop)} (I : A_Z22_L1 Prop) (μ : A_Z22_L1 Nat)
    (step : ∀ a0 a1 a2 a3 a4 a5 a6, I a0 a1 a2 a3 a4 a5 a6 → ∀ again : (Nat → Nat) → T_Z22_L1 → R_Z22, Dep 2 again → (∀ y0 y1 y2 y3 y4 y5 y6, I y0 y1 y2 y3 y4 y5 y6 → μ y0 y1 y2 y3 y4 y5 y6 < μ a0 a1 a2 a3 a4 a5 a6 → Tot (fun σ => again σ ((y0, y1, y2, y3, ()), y4, y5, y6, ())) (Q y0 y1 y2 y3 y4 y5 y6)) →
      Tot (fun σ => B_Z22_L1b (σ 0) (F_Z21 (σ 0)) (F_Z63 (σ 0)) (again σ) a0 a1 a2 a3 a4 a5 a6) (Q a0 a1 a2 a3 a4 a5 a6)) :
    ∀ a0 a1 a2 a3 a4 a5 a6, I a0 a1 a2 a3 a4 a5 a6 → Tot (fun σ => B_Z22_L1 (σ 0) (F_Z21 (σ 0)) (F_Z63 (σ 0)) (σ 0) ((a0, a1, a2, a3, ()), a4, a5, a6, ())) (Q a0 a1 a2 a3 a4 a5 a6) := fun a0 a1 a2 a3 a4 a5 a6 => Tot.loop0 (L := fun k => B_Z22_L1 k (F_Z21 k) (F_Z63 k)) (B := fun k g => u_Z22_L1 (B_Z22_L1b k (F_Z21 k) (F_Z63 k) g)) (Q := u_Z22_L1 Q) (fun _ _ _ => rfl) (u_Z22_L1 I) (u_Z22_L1 μ)
    (fun t ht again hag h => step t.1.1 t.1.2.1 t.1.2.2.1 t.1.2.2.2.1 t.2.1 t.2.2.1 t.2.2.2.1 ht again hag fun y0 y1 y2 y3 y4 y5 y6 => h ((y0, y1, y2, y3, ()), y4, y5, y6, ())) ((a0, a1, a2, a3, ()), a4, a5, a6, ())
abbrev R_Z23 : Type := Option ((Bool × Unit) × (((Bool × List (Int × Int × List Int)) × List Int × List Int × Bool × Unit) × Unit))
abbrev C_Z23 : Type := (List (Int × Int × List Int)) → List Int → List Int → Bool → Int → Int → R_Z23
end Go.Gx

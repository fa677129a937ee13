/-
  The functions, as Gx tells them (printed by gen.py).
-/
import Derived.Test.YtahpblckgakjjaaXGpart4
set_option linter.unusedVariables false
namespace Go.Gx
abbrev R_l_szOpS : Type := Option ((Int × Unit) × (Unit))
abbrev C_l_szOpS : Type := (List (Int × Int)) → Int → R_l_szOpS
def B_l_szOpS (k : Nat) (a : List (Int × Int)) (left : Int) : R_l_szOpS :=
  bif decide ((w64 (left - (len a))) < 0) then
    some (((-1), ()), ())
  else
    some ((w64 (left - (len a)), ()), ())
def F_l_szOpS : Nat → C_l_szOpS
  | 0, _, _ => none
  | k + 1, a, left => B_l_szOpS k a left
theorem tot_l_szOpS {a left : _} {Q : _ → Prop} (h : Tot (fun σ => B_l_szOpS (σ 0) a left) Q) : Tot (fun σ => F_l_szOpS (σ 0) a left) Q :=
  Tot.call (F := fun k => F_l_szOpS k a left) (B := fun k => B_l_szOpS k a left) (fun k => rfl) h
abbrev R_l_toOp : Type := Option (((Int × Int × Unit) × Unit) × (Unit))
abbrev C_l_toOp : Type := Int → Int → R_l_toOp
def B_l_toOp (k : Nat) (a_0 a_1 : Int) : R_l_toOp :=
  some (((a_0, a_1, ()), ()), ())
def F_l_toOp : Nat → C_l_toOp
  | 0, _, _ => none
  | k + 1, a_0, a_1 => B_l_toOp k a_0 a_1
theorem tot_l_toOp {a_0 a_1 : _} {Q : _ → Prop} (h : Tot (fun σ => B_l_toOp (σ 0) a_0 a_1) Q) : Tot (fun σ => F_l_toOp (σ 0) a_0 a_1) Q :=
  Tot.call (F := fun k => F_l_toOp k a_0 a_1) (B := fun k => B_l_toOp k a_0 a_1) (fun k => rfl) h
abbrev R_l_toOpS : Type := Option (((List (Int × Int)) × Unit) × (Unit))
abbrev C_l_toOpS : Type := (List (Int × Int)) → R_l_toOpS
abbrev T_l_toOpS_L0 : Type := (List (Int × Int)) × (List (Int × Int)) × Int × Unit
def B_l_toOpS_L0b (k : Nat) (c_l_toOp : C_l_toOp) (again0 : T_l_toOpS_L0 → R_l_toOpS) (a out : List (Int × Int)) (i : Int) : R_l_toOpS :=
  bif decide (i < (len a)) then
    chk (inb i a.length) <|
    (c_l_toOp ((rdx ((0 : Int), (0 : Int)) a i).1) ((rdx ((0 : Int), (0 : Int)) a i).2)).bind fun r20 =>
    chk (inb i out.length) <|
    chk (decide (i.toNat < out.length)) <|
    again0 (a, (out.set i.toNat (r20.1.1.1, r20.1.1.2.1)), w64 (i + 1), ())
  else
    some ((out, ()), ())
def B_l_toOpS_L0 (k : Nat) (c_l_toOp : C_l_toOp) (n : Nat) (t : T_l_toOpS_L0) : R_l_toOpS :=
  lfix n (fun again t => B_l_toOpS_L0b k c_l_toOp again t.1 t.2.1 t.2.2.1) t
def B_l_toOpS (k : Nat) (c_l_toOp : C_l_toOp) (a : List (Int × Int)) : R_l_toOpS :=
  chk ((decide (0 ≤ (len a) ∧ (len a) ≤ (lim : Int)) && ((len a) == (len a)))) <|
  B_l_toOpS_L0 k c_l_toOp k (a, (List.replicate (len a).toNat ((0 : Int), (0 : Int))), 0, ())
def F_l_toOpS : Nat → C_l_toOpS
  | 0, _ => none
  | k + 1, a => B_l_toOpS k (F_l_toOp k) a
theorem tot_l_toOpS {a : _} {Q : _ → Prop} (h : Tot (fun σ => B_l_toOpS (σ 0) (F_l_toOp (σ 0)) a) Q) : Tot (fun σ => F_l_toOpS (σ 0) a) Q :=
  Tot.call (F := fun k => F_l_toOpS k a) (B := fun k => B_l_toOpS k (F_l_toOp k) a) (fun k => rfl) h
abbrev A_l_toOpS_L0 (Z : Type) : Type := (List (Int × Int)) → (List (Int × Int)) → Int → Z
abbrev u_l_toOpS_L0 {Z : Type} (f : A_l_toOpS_L0 Z) (t : T_l_toOpS_L0) : Z := f t.1 t.2.1 t.2.2.1
theorem loop_l_toOpS_L0 {Q : A_l_toOpS_L0 ((((List (Int × Int)) × Unit) × (Unit)) → Prop)} (I : A_l_toOpS_L0 Prop) (μ : A_l_toOpS_L0 Nat)
    (step : ∀ a0 a1 a2, I a0 a1 a2 → ∀ again : (Nat → Nat) → T_l_toOpS_L0 → R_l_toOpS, Dep 2 again → (∀ y0 y1 y2, I y0 y1 y2 → μ y0 y1 y2 < μ a0 a1 a2 → Tot (fun σ => again σ (y0, y1, y2, ())) (Q y0 y1 y2)) →
      Tot (fun σ => B_l_toOpS_L0b (σ 0) (F_l_toOp (σ 0)) (again σ) a0 a1 a2) (Q a0 a1 a2)) :
    ∀ a0 a1 a2, I a0 a1 a2 → Tot (fun σ => B_l_toOpS_L0 (σ 0) (F_l_toOp (σ 0)) (σ 0) (a0, a1, a2, ())) (Q a0 a1 a2) := fun a0 a1 a2 => Tot.loop0 (L := fun k => B_l_toOpS_L0 k (F_l_toOp k)) (B := fun k g => u_l_toOpS_L0 (B_l_toOpS_L0b k (F_l_toOp k) g)) (Q := u_l_toOpS_L0 Q) (fun _ _ _ => rfl) (u_l_toOpS_L0 I) (u_l_toOpS_L0 μ)
    (fun t ht again hag h => step t.1 t.2.1 t.2.2.1 ht again hag fun y0 y1 y2 => h (y0, y1, y2, ())) (a0, a1, a2, ())
abbrev R_s_argOf : Type := Option ((Int × Unit) × (Unit))
abbrev C_s_argOf : Type := Int → R_s_argOf
def B_s_argOf_J0 (k : Nat) (t10 : Bool) : R_s_argOf :=
  bif t10 then
    some ((19, ()), ())
  else
    some (((-1), ()), ())
def B_s_argOf (k : Nat) (c : Int) : R_s_argOf :=
  bif (c == 0) then
    some ((999, ()), ())
  else
    bif (c == 1) then
      some ((9, ()), ())
    else
      bif (c == 13) then
        some ((9, ()), ())
      else
        bif (c == 15) then
          jn (fun t => B_s_argOf_J0 k t.1) ((c == 15), ())
        else
          jn (fun t => B_s_argOf_J0 k t.1) ((c == 16), ())
def F_s_argOf : Nat → C_s_argOf
  | 0, _ => none
  | k + 1, c => B_s_argOf k c
theorem tot_s_argOf {c : _} {Q : _ → Prop} (h : Tot (fun σ => B_s_argOf (σ 0) c) Q) : Tot (fun σ => F_s_argOf (σ 0) c) Q :=
  Tot.call (F := fun k => F_s_argOf k c) (B := fun k => B_s_argOf k c) (fun k => rfl) h
abbrev R_Z59 : Type := Option ((Bool × Unit) × (Unit))
abbrev C_Z59 : Type := Int → Int → Int → R_Z59
def B_Z59 (k : Nat) (n0 low high : Int) : R_Z59 :=
  bif decide (low ≤ n0) then
    some ((decide (n0 ≤ high), ()), ())
  else
    some ((false, ()), ())
def F_Z59 : Nat → C_Z59
  | 0, _, _, _ => none
  | k + 1, n0, low, high => B_Z59 k n0 low high
theorem tot_Z59 {n0 low high : _} {Q : _ → Prop} (h : Tot (fun σ => B_Z59 (σ 0) n0 low high) Q) : Tot (fun σ => F_Z59 (σ 0) n0 low high) Q :=
  Tot.call (F := fun k => F_Z59 k n0 low high) (B := fun k => B_Z59 k n0 low high) (fun k => rfl) h
abbrev R_Z65 : Type := Option ((Bool × Unit) × (Unit))
abbrev C_Z65 : Type := Int → Int → R_Z65
def B_Z65 (k : Nat) (c_s_argOf : C_s_argOf) (c_Z59 : C_Z59) (o_0 o_1 : Int) : R_Z65 :=
  (c_s_argOf o_0).bind fun r6 =>
  (c_Z59 o_0 0 19).bind fun r9 =>
  bif r9.1.1 then
    bif decide (r6.1.1 < 0) then
      bif (o_1 == 0) then
        some ((true, ()), ())
      else
        bif decide (r6.1.1 ≥ 0) then
          (c_Z59 o_1 0 r6.1.1).bind fun r25 =>
          some ((r25.1.1, ()), ())
        else
          some ((false, ()), ())
    else
      bif decide (r6.1.1 ≥ 0) then
        (c_Z59 o_1 0 r6.1.1).bind fun r25 =>
        some ((r25.1.1, ()), ())
      else
        some ((false, ()), ())
  else
    some ((false, ()), ())
def F_Z65 : Nat → C_Z65
  | 0, _, _ => none
  | k + 1, o_0, o_1 => B_Z65 k (F_s_argOf k) (F_Z59 k) o_0 o_1
theorem tot_Z65 {o_0 o_1 : _} {Q : _ → Prop} (h : Tot (fun σ => B_Z65 (σ 0) (F_s_argOf (σ 0)) (F_Z59 (σ 0)) o_0 o_1) Q) : Tot (fun σ => F_Z65 (σ 0) o_0 o_1) Q :=
  Tot.call (F := fun k => F_Z65 k o_0 o_1) (B := fun k => B_Z65 k (F_s_argOf k) (F_Z59 k) o_0 o_1) (fun k => rfl) h
abbrev R_Z58 : Type := Option ((Bool × Unit) × (Unit))
abbrev C_Z58 : Type := (List (Int × Int)) → R_Z58
abbrev T_Z58_L0 : Type := (List (Int × Int)) × Int × Unit
def B_Z58_L0b (k : Nat) (c_Z65 : C_Z65) (again0 : T_Z58_L0 → R_Z58) (ops : List (Int × Int)) (i : Int) : R_Z58 :=
  bif decide (i < (len ops)) then
    chk (inb i ops.length) <|
    (c_Z65 ((rdx ((0 : Int), (0 : Int)) ops i).1) ((rdx ((0 : Int), (0 : Int)) ops i).2)).bind fun r14 =>
    bif (!r14.1.1) then
      some ((false, ()), ())
    else
      again0 (ops, w64 (i + 1), ())
  else
    some ((decide ((len ops) ≤ 300), ()), ())
def B_Z58_L0 (k : Nat) (c_Z65 : C_Z65) (n : Nat) (t : T_Z58_L0) : R_Z58 :=
  lfix n (fun again t => B_Z58_L0b k c_Z65 again t.1 t.2.1) t
def B_Z58 (k : Nat) (c_Z65 : C_Z65) (ops : List (Int × Int)) : R_Z58 :=
  B_Z58_L0 k c_Z65 k (ops, 0, ())
def F_Z58 : Nat → C_Z58
  | 0, _ => none
  | k + 1, ops => B_Z58 k (F_Z65 k) ops
theorem tot_Z58 {ops : _} {Q : _ → Prop} (h : Tot (fun σ => B_Z58 (σ 0) (F_Z65 (σ 0)) ops) Q) : Tot (fun σ => F_Z58 (σ 0) ops) Q :=
  Tot.call (F := fun k => F_Z58 k ops) (B := fun k => B_Z58 k (F_Z65 k) ops) (fun k => rfl) h
abbrev A_Z58_L0 (Z : Type) : Type := (List (Int × Int)) → Int → Z
abbrev u_Z58_L0 {Z : Type} (f : A_Z58_L0 Z) (t : T_Z58_L0) : Z := f t.1 t.2.1
theorem loop_Z58_L0 {Q : A_Z58_L0 (((Bool × Unit) × (Unit)) → Prop)} (I : A_Z58_L0 Prop) (μ : A_Z58_L0 Nat)
    (step : ∀ a0 a1, I a0 a1 → ∀ again : (Nat → Nat) → T_Z58_L0 → R_Z58, Dep 2 again → (∀ y0 y1, I y0 y1 → μ y0 y1 < μ a0 a1 → Tot (fun σ => again σ (y0, y1, ())) (Q y0 y1)) →
      Tot (fun σ => B_Z58_L0b (σ 0) (F_Z65 (σ 0)) (again σ) a0 a1) (Q a0 a1)) :
    ∀ a0 a1, I a0 a1 → Tot (fun σ => B_Z58_L0 (σ 0) (F_Z65 (σ 0)) (σ 0) (a0, a1, ())) (Q a0 a1) := fun a0 a1 => Tot.loop0 (L := fun k => B_Z58_L0 k (F_Z65 k)) (B := fun k g => u_Z58_L0 (B_Z58_L0b k (F_Z65 k) g)) (Q := u_Z58_L0 Q) (fun _ _ _ => rfl) (u_Z58_L0 I) (u_Z58_L0 μ)
    (fun t ht again hag h => step t.1 t.2.1 ht again hag fun y0 y1 => h (y0, y1, ())) (a0, a1, ())
abbrev R_Z49 : Type := Option (((List Int × List Bool × List Int × List Int × Bool × Unit) × Unit) × (Unit))
abbrev C_Z49 : Type := R_Z49
abbrev T_Z49_L0 : Type := (Unit × Unit × Unit × Unit × Bool × Unit) × (Unit × Unit × Unit × List Int × Bool × Unit) × Int × Unit
def B_Z49_L0b (k : Nat) (again0 : T_Z49_L0 → R_Z49) (t0_Done : Bool) (s_Memo : List Int) (s_Done : Bool) (i : Int) : R_Z49 :=
  bif decide (i < 20) then
    chk (room s_Memo.length ([(-1)]).length) <|
    again0 (((), (), (), (), t0_Done, ()), ((), (), (), (s_Memo ++ [(-1)]), s_Done, ()), w64 (i + 1), ())
  else
    some ((([], [], [], s_Memo, s_Done, ()), ()), ())
def B_Z49_L0 (k : Nat) (n : Nat) (t : T_Z49_L0) : R_Z49 :=
  lfix n (fun again t => B_Z49_L0b k again t.1.2.2.2.2.1 t.2.1.2.2.2.1 t.2.1.2.2.2.2.1 t.2.2.1) t
def B_Z49 (k : Nat) : R_Z49 :=
  B_Z49_L0 k k (((), (), (), (), false, ()), ((), (), (), [], false, ()), 0, ())
def F_Z49 : Nat → C_Z49
  | 0 => none
  | k + 1 => B_Z49 k
theorem tot_Z49 {Q : _ → Prop} (h : Tot (fun σ => B_Z49 (σ 0)) Q) : Tot (fun σ => F_Z49 (σ 0)) Q :=
  Tot.call (F := fun k => F_Z49 k) (B := fun k => B_Z49 k) (fun k => rfl) h
abbrev A_Z49_L0 (Z : Type) : Type := Bool → List Int → Bool → Int → Z
abbrev u_Z49_L0 {Z : Type} (f : A_Z49_L0 Z) (t : T_Z49_L0) : Z := f t.1.2.2.2.2.1 t.2.1.2.2.2.1 t.2.1.2.2.2.2.1 t.2.2.1
theorem loop_Z49_L0 {Q : A_Z49_L0 ((((List Int × List Bool × List Int × List Int × Bool × Unit) × Unit) × (Unit)) → Prop)} (I : A_Z49_L0 Prop) (μ : A_Z49_L0 Nat)
    (step : ∀ a0 a1 a2 a3, I a0 a1 a2 a3 → ∀ again : (Nat → Nat) → T_Z49_L0 → R_Z49, Dep 2 again → (∀ y0 y1 y2 y3, I y0 y1 y2 y3 → μ y0 y1 y2 y3 < μ a0 a1 a2 a3 → Tot (fun σ => again σ (((), (), (), (), y0, ()), ((), (), (), y1, y2, ()), y3, ())) (Q y0 y1 y2 y3)) →
      Tot (fun σ => B_Z49_L0b (σ 0) (again σ) a0 a1 a2 a3) (Q a0 a1 a2 a3)) :
    ∀ a0 a1 a2 a3, I a0 a1 a2 a3 → Tot (fun σ => B_Z49_L0 (σ 0) (σ 0) (((), (), (), (), a0, ()), ((), (), (), a1, a2, ()), a3, ())) (Q a0 a1 a2 a3) := fun a0 a1 a2 a3 => Tot.loop0 (L := fun k => B_Z49_L0 k) (B := fun k g => u_Z49_L0 (B_Z49_L0b k g)) (Q := u_Z49_L0 Q) (fun _ _ _ => rfl) (u_Z49_L0 I) (u_Z49_L0 μ)
    (fun t ht again hag h => step t.1.2.2.2.2.1 t.2.1.2.2.2.1 t.2.1.2.2.2.2.1 t.2.2.1 ht again hag fun y0 y1 y2 y3 => h (((), (), (), (), y0, ()), ((), (), (), y1, y2, ()), y3, ())) (((), (), (), (), a0, ()), ((), (), (), a1, a2, ()), a3, ())
abbrev R_Z53 : Type := Option ((List Int × Unit) × (Unit))
abbrev C_Z53 : Type := List Int → R_Z53
def B_Z53 (k : Nat) (list : List Int) : R_Z53 :=
  chk (room ([] : List Int).length list.length) <|
  some ((list, ()), ())
def F_Z53 : Nat → C_Z53
  | 0, _ => none
  | k + 1, list => B_Z53 k list
theorem tot_Z53 {list : _} {Q : _ → Prop} (h : Tot (fun σ => B_Z53 (σ 0) list) Q) : Tot (fun σ => F_Z53 (σ 0) list) Q :=
  Tot.call (F := fun k => F_Z53 k list) (B := fun k => B_Z53 k list) (fun k => rfl) h
abbrev R_Z34 : Type := Option (((List Int × List Bool × List Int × List Int × Bool × Unit) × Unit) × (Unit))
abbrev C_Z34 : Type := List Int → List Bool → List Int → List Int → Bool → R_Z34
def B_Z34 (k : Nat) (c_Z53 : C_Z53) (s_0 : List Int) (s_1 : List Bool) (s_2 s_3 : List Int) (s_4 : Bool) : R_Z34 :=
  (c_Z53 s_0).bind fun r5 =>
  chk (room ([] : List Bool).length s_1.length) <|
  (c_Z53 s_2).bind fun r12 =>
  (c_Z53 s_3).bind fun r15 =>
  some (((r5.1.1, s_1, r12.1.1, r15.1.1, s_4, ()), ()), ())
def F_Z34 : Nat → C_Z34
  | 0, _, _, _, _, _ => none
  | k + 1, s_0, s_1, s_2, s_3, s_4 => B_Z34 k (F_Z53 k) s_0 s_1 s_2 s_3 s_4
theorem tot_Z34 {s_0 s_1 s_2 s_3 s_4 : _} {Q : _ → Prop} (h : Tot (fun σ => B_Z34 (σ 0) (F_Z53 (σ 0)) s_0 s_1 s_2 s_3 s_4) Q) : Tot (fun σ => F_Z34 (σ 0) s_0 s_1 s_2 s_3 s_4) Q :=
  Tot.call (F := fun k => F_Z34 k s_0 s_1 s_2 s_3 s_4) (B := fun k => B_Z34 k (F_Z53 k) s_0 s_1 s_2 s_3 s_4) (fun k => rfl) h
abbrev R_Z61 : Type := Option ((Int × Unit) × (Unit))
abbrev C_Z61 : Type := Int → R_Z61
def B_Z61 (k : Nat) (c : Int) : R_Z61 :=
  bif (c == 0) then
    some ((0, ()), ())
  else
    bif (c == 1) then
      some ((1, ()), ())
    else
      bif (c == 4) then
        some ((2, ()), ())
      else
        bif (c == 7) then
          some ((3, ()), ())
        else
          bif (c == 10) then
            some ((4, ()), ())
          else
            bif (c == 13) then
              some ((5, ()), ())
            else
              some (((-1), ()), ())
def F_Z61 : Nat → C_Z61
  | 0, _ => none
  | k + 1, c => B_Z61 k c
theorem tot_Z61 {c : _} {Q : _ → Prop} (h : Tot (fun σ => B_Z61 (σ 0) c) Q) : Tot (fun σ => F_Z61 (σ 0) c) Q :=
  Tot.call (F := fun k => F_Z61 k c) (B := fun k => B_Z61 k c) (fun k => rfl) h
abbrev R_Z44 : Type := Option (((List Int × List Bool × List Int × List Int × Bool × Unit) × Unit) × (Unit))
abbrev C_Z44 : Type := List Int → List Bool → List Int → List Int → Bool → Int → R_Z44
def B_Z44 (k : Nat) (s_0 : List Int) (s_1 : List Bool) (s_2 s_3 : List Int) (s_4 : Bool) (kind : Int) : R_Z44 :=
  chk (room s_0.length ([kind]).length) <|
  chk (room s_1.length ([false]).length) <|
  chk (room s_2.length ([w64 ((len (s_0 ++ [kind])) - 1)]).length) <|
  some ((((s_0 ++ [kind]), (s_1 ++ [false]), (s_2 ++ [w64 ((len (s_0 ++ [kind])) - 1)]), s_3, s_4, ()), ()), ())
def F_Z44 : Nat → C_Z44
  | 0, _, _, _, _, _, _ => none
  | k + 1, s_0, s_1, s_2, s_3, s_4, kind => B_Z44 k s_0 s_1 s_2 s_3 s_4 kind
theorem tot_Z44 {s_0 s_1 s_2 s_3 s_4 kind : _} {Q : _ → Prop} (h : Tot (fun σ => B_Z44 (σ 0) s_0 s_1 s_2 s_3 s_4 kind) Q) : Tot (fun σ => F_Z44 (σ 0) s_0 s_1 s_2 s_3 s_4 kind) Q :=
  Tot.call (F := fun k => F_Z44 k s_0 s_1 s_2 s_3 s_4 kind) (B := fun k => B_Z44 k s_0 s_1 s_2 s_3 s_4 kind) (fun k => rfl) h
abbrev R_Z62 : Type := Option ((Int × Unit) × (Unit))
abbrev C_Z62 : Type := List Int → List Bool → List Int → List Int → Bool → Int → R_Z62
def B_Z62_J0 (k : Nat) (s_Kinds : List Int) (s_Full : List Bool) (s_Stack s_Memo : List Int) (s_Done : Bool) (at5 : Int) (t21 : Bool) : R_Z62 :=
  bif t21 then
    some (((-1), ()), ())
  else
    chk (inb at5 s_Stack.length) <|
    chk (inb (rdx (0 : Int) s_Stack at5) s_Kinds.length) <|
    some (((rdx (0 : Int) s_Kinds (rdx (0 : Int) s_Stack at5)), ()), ())
def B_Z62 (k : Nat) (s_0 : List Int) (s_1 : List Bool) (s_2 s_3 : List Int) (s_4 : Bool) (deep : Int) : R_Z62 :=
  bif decide ((w64 ((w64 ((len s_2) - 1)) - deep)) < 0) then
    jn (fun t => B_Z62_J0 k t.1.1 t.1.2.1 t.1.2.2.1 t.1.2.2.2.1 t.1.2.2.2.2.1 t.2.1 t.2.2.1) ((s_0, s_1, s_2, s_3, s_4, ()), w64 ((w64 ((len s_2) - 1)) - deep), true, ())
  else
    chk (inb (w64 ((w64 ((len s_2) - 1)) - deep)) s_2.length) <|
    jn (fun t => B_Z62_J0 k t.1.1 t.1.2.1 t.1.2.2.1 t.1.2.2.2.1 t.1.2.2.2.2.1 t.2.1 t.2.2.1) ((s_0, s_1, s_2, s_3, s_4, ()), w64 ((w64 ((len s_2) - 1)) - deep), decide ((rdx (0 : Int) s_2 (w64 ((w64 ((len s_2) - 1)) - deep))) < 0), ())
def F_Z62 : Nat → C_Z62
  | 0, _, _, _, _, _, _ => none
  | k + 1, s_0, s_1, s_2, s_3, s_4, deep => B_Z62 k s_0 s_1 s_2 s_3 s_4 deep
theorem tot_Z62 {s_0 s_1 s_2 s_3 s_4 deep : _} {Q : _ → Prop} (h : Tot (fun σ => B_Z62 (σ 0) s_0 s_1 s_2 s_3 s_4 deep) Q) : Tot (fun σ => F_Z62 (σ 0) s_0 s_1 s_2 s_3 s_4 deep) Q :=
  Tot.call (F := fun k => F_Z62 k s_0 s_1 s_2 s_3 s_4 deep) (B := fun k => B_Z62 k s_0 s_1 s_2 s_3 s_4 deep) (fun k => rfl) h
abbrev R_Z67 : Type := Option ((Bool × Unit) × (Unit))
abbrev C_Z67 : Type := Int → R_Z67
def B_Z67 (k : Nat) (kind : Int) : R_Z67 :=
  bif (kind == 0) then
    some ((true, ()), ())
  else
    some (((kind == 1), ()), ())
def F_Z67 : Nat → C_Z67
  | 0, _ => none
  | k + 1, kind => B_Z67 k kind
theorem tot_Z67 {kind : _} {Q : _ → Prop} (h : Tot (fun σ => B_Z67 (σ 0) kind) Q) : Tot (fun σ => F_Z67 (σ 0) kind) Q :=
  Tot.call (F := fun k => F_Z67 k kind) (B := fun k => B_Z67 k kind) (fun k => rfl) h
abbrev R_Z39 : Type := Option (((List Int × List Bool × List Int × List Int × Bool × Unit) × Bool × Unit) × (Unit))
abbrev C_Z39 : Type := List Int → List Bool → List Int → List Int → Bool → Int → R_Z39
abbrev T_Z39_L2 : Type := (List Int × List Bool × List Int × List Int × Bool × Unit) × (Unit × Unit × Unit × Unit × Bool × Unit) × List Int × Int × Unit
abbrev T_Z39_L1 : Type := Int × (List Int × List Bool × List Int × List Int × Bool × Unit) × (Unit × Unit × Unit × Unit × Bool × Unit) × Int × Unit
def B_Z39_L2b (k : Nat) (c_Z53 : C_Z53) (c_Z44 : C_Z44) (c_Z62 : C_Z62) (c_Z67 : C_Z67) (again2 : T_Z39_L2 → R_Z39) (s_Kinds : List Int) (s_Full : List Bool) (s_Stack s_Memo : List Int) (s_Done t4_Done : Bool) (list : List Int) (i : Int) : R_Z39 :=
  bif decide (i < (len list)) then
    chk (inb i list.length) <|
    chk (decide (i.toNat < list.length)) <|
    chk (inb (list.getD i.toNat (0 : Int)) s_Kinds.length) <|
    chk (decide ((list.getD i.toNat (0 : Int)).toNat < s_Kinds.length)) <|
    (c_Z67 (s_Kinds.getD ((list.getD i.toNat (0 : Int)).toNat) (0 : Int))).bind fun r66 =>
    bif (!r66.1.1) then
      some (((s_Kinds, s_Full, s_Stack, s_Memo, s_Done, ()), false, ()), ())
    else
      again2 ((s_Kinds, s_Full, s_Stack, s_Memo, s_Done, ()), ((), (), (), (), t4_Done, ()), list, w64 (i + 2), ())
  else
    (c_Z62 s_Kinds s_Full s_Stack s_Memo s_Done 0).bind fun r71 =>
    bif (r71.1.1 == 4) then
      some (((s_Kinds, s_Full, s_Stack, s_Memo, s_Done, ()), (((len list).tmod 2) == 0), ()), ())
    else
      some (((s_Kinds, s_Full, s_Stack, s_Memo, s_Done, ()), false, ()), ())
def B_Z39_L2 (k : Nat) (c_Z53 : C_Z53) (c_Z44 : C_Z44) (c_Z62 : C_Z62) (c_Z67 : C_Z67) (n : Nat) (t : T_Z39_L2) : R_Z39 :=
  lfix n (fun again t => B_Z39_L2b k c_Z53 c_Z44 c_Z62 c_Z67 again t.1.1 t.1.2.1 t.1.2.2.1 t.1.2.2.2.1 t.1.2.2.2.2.1 t.2.1.2.2.2.2.1 t.2.2.1 t.2.2.2.1) t
def B_Z39_J0 (k : Nat) (c_Z53 : C_Z53) (c_Z44 : C_Z44) (c_Z62 : C_Z62) (c_Z67 : C_Z67) (again1 : T_Z39_L1 → R_Z39) (c : Int) (s_Kinds : List Int) (s_Full : List Bool) (s_Stack s_Memo : List Int) (s_Done t4_Done : Bool) (at6 : Int) (t22 : Bool) : R_Z39 :=
  bif t22 then
    again1 (c, (s_Kinds, s_Full, s_Stack, s_Memo, s_Done, ()), ((), (), (), (), t4_Done, ()), w64 (at6 - 1), ())
  else
    bif decide (at6 < 0) then
      some (((s_Kinds, s_Full, s_Stack, s_Memo, s_Done, ()), false, ()), ())
    else
      chk (cutb (w64 (at6 + 1)) (len s_Stack) s_Stack.length) <|
      (c_Z53 ((s_Stack.take ((len s_Stack).toNat)).drop ((w64 (at6 + 1)).toNat))).bind fun r33 =>
      chk (cutb 0 at6 s_Stack.length) <|
      bif (c == 3) then
        (c_Z44 s_Kinds s_Full (s_Stack.take at6.toNat) s_Memo s_Done 2).bind fun r43 =>
        some (((r43.1.1.1, r43.1.1.2.1, r43.1.1.2.2.1, r43.1.1.2.2.2.1, r43.1.1.2.2.2.2.1, ()), true, ()), ())
      else
        bif (c == 9) then
          (c_Z62 s_Kinds s_Full ((s_Stack.take at6.toNat).drop 0) s_Memo s_Done 0).bind fun r48 =>
          some (((s_Kinds, s_Full, (s_Stack.take at6.toNat), s_Memo, s_Done, ()), (r48.1.1 == 3), ()), ())
        else
          bif (c == 12) then
            B_Z39_L2 k c_Z53 c_Z44 c_Z62 c_Z67 k ((s_Kinds, s_Full, (s_Stack.take at6.toNat), s_Memo, s_Done, ()), ((), (), (), (), t4_Done, ()), r33.1.1, 0, ())
          else
            some (((s_Kinds, s_Full, (s_Stack.take at6.toNat), s_Memo, s_Done, ()), true, ()), ())
def B_Z39_L1b (k : Nat) (c_Z53 : C_Z53) (c_Z44 : C_Z44) (c_Z62 : C_Z62) (c_Z67 : C_Z67) (again1 : T_Z39_L1 → R_Z39) (c : Int) (s_Kinds : List Int) (s_Full : List Bool) (s_Stack s_Memo : List Int) (s_Done t4_Done : Bool) (at6 : Int) : R_Z39 :=
  bif decide (at6 ≥ 0) then
    chk (inb at6 s_Stack.length) <|
    chk (decide (at6.toNat < s_Stack.length)) <|
    jn (fun t => B_Z39_J0 k c_Z53 c_Z44 c_Z62 c_Z67 again1 t.1 t.2.1.1 t.2.1.2.1 t.2.1.2.2.1 t.2.1.2.2.2.1 t.2.1.2.2.2.2.1 t.2.2.1.2.2.2.2.1 t.2.2.2.1 t.2.2.2.2.1) (c, (s_Kinds, s_Full, s_Stack, s_Memo, s_Done, ()), ((), (), (), (), t4_Done, ()), at6, decide ((s_Stack.getD at6.toNat (0 : Int)) ≥ 0), ())
  else
    jn (fun t => B_Z39_J0 k c_Z53 c_Z44 c_Z62 c_Z67 again1 t.1 t.2.1.1 t.2.1.2.1 t.2.1.2.2.1 t.2.1.2.2.2.1 t.2.1.2.2.2.2.1 t.2.2.1.2.2.2.2.1 t.2.2.2.1 t.2.2.2.2.1) (c, (s_Kinds, s_Full, s_Stack, s_Memo, s_Done, ()), ((), (), (), (), t4_Done, ()), at6, false, ())
def B_Z39_L1 (k : Nat) (c_Z53 : C_Z53) (c_Z44 : C_Z44) (c_Z62 : C_Z62) (c_Z67 : C_Z67) (n : Nat) (t : T_Z39_L1) : R_Z39 :=
  lfix n (fun again t => B_Z39_L1b k c_Z53 c_Z44 c_Z62 c_Z67 again t.1 t.2.1.1 t.2.1.2.1 t.2.1.2.2.1 t.2.1.2.2.2.1 t.2.1.2.2.2.2.1 t.2.2.1.2.2.2.2.1 t.2.2.2.1) t
def B_Z39 (k : Nat) (c_Z53 : C_Z53) (c_Z44 : C_Z44) (c_Z62 : C_Z62) (c_Z67 : C_Z67) (s_0 : List Int) (s_1 : List Bool) (s_2 s_3 : List Int) (s_4 : Bool) (c : Int) : R_Z39 :=
  B_Z39_L1 k c_Z53 c_Z44 c_Z62 c_Z67 k (c, (s_0, s_1, s_2, s_3, s_4, ()), ((), (), (), (), false, ()), w64 ((len s_2) - 1), ())
def F_Z39 : Nat → C_Z39
  | 0, _, _, _, _, _, _ => none
  | k + 1, s_0, s_1, s_2, s_3, s_4, c => B_Z39 k (F_Z53 k) (F_Z44 k) (F_Z62 k) (F_Z67 k) s_0 s_1 s_2 s_3 s_4 c
theorem tot_Z39 {s_0 s_1 s_2 s_3 s_4 c : _} {Q : _ → Prop} (h : Tot (fun σ => B_Z39 (σ 0) (F_Z53 (σ 0)) (F_Z44 (σ 0)) (F_Z62 (σ 0)) (F_Z67 (σ 0)) s_0 s_1 s_2 s_3 s_4 c) Q) : Tot (fun σ => F_Z39 (σ 0) s_0 s_1 s_2 s_3 s_4 c) Q :=
  Tot.call (F := fun k => F_Z39 k s_0 s_1 s_2 s_3 s_4 c) (B := fun k => B_Z39 k (F_Z53 k) (F_Z44 k) (F_Z62 k) (F_Z67 k) s_0 s_1 s_2 s_3 s_4 c) (fun k => rfl) h
abbrev A_Z39_L2 (Z : Type) : Type := List Int → List Bool → List Int → List Int → Bool → Bool → List Int → Int → Z
abbrev u_Z39_L2 {Z : Type} (f : A_Z39_L2 Z) (t : T_Z39_L2) : Z := f t.1.1 t.1.2.1 t.1.2.2.1 t.1.2.2.2.1 t.1.2.2.2.2.1 t.2.1.2.2.2.2.1 t.2.2.1 t.2.2.2.1
theorem loop_Z39_L2 {Q : A_Z39_L2 ((((List Int × List Bool × List Int × List Int × Bool × Unit) × Bool × Unit) × (Unit)) → Prop)} (I : A_Z39_L2 Prop) (μ : A_Z39_L2 Nat)
    (step : ∀ a0 a1 a2 a3 a4 a5 a6 a7, I a0 a1 a2 a3 a4 a5 a6 a7 → ∀ again : (Nat → Nat) → T_Z39_L2 → R_Z39, Dep 2 again → (∀ y0 y1 y2 y3 y4 y5 y6 y7, I y0 y1 y2 y3 y4 y5 y6 y7 → μ y0 y1 y2 y3 y4 y5 y6 y7 < μ a0 a1 a2 a3 a4 a5 a6 a7 → Tot (fun σ => again σ ((y0, y1, y2, y3, y4, ()), ((), (), (), (), y5, ()), y6, y7, ())) (Q y0 y1 y2 y3 y4 y5 y6 y7)) →
      Tot (fun σ => B_Z39_L2b (σ 0) (F_Z53 (σ 0)) (F_Z44 (σ 0)) (F_Z62 (σ 0)) (F_Z67 (σ 0)) (again σ) a0 a1 a2 a3 a4 a5 a6 a7) (Q a0 a1 a2 a3 a4 a5 a6 a7)) :
    ∀ a0 a1 a2 a3 a4 a5 a6 a7, I a0 a1 a2 a3 a4 a5 a6 a7 → Tot (fun σ => B_Z39_L2 (σ 0) (F_Z53 (σ 0)) (F_Z44 (σ 0)) (F_Z62 (σ 0)) (F_Z67 (σ 0)) (σ 0) ((a0, a1, a2, a3, a4, ()), ((), (), (), (), a5, ()), a6, a7, ())) (Q a0 a1 a2 a3 a4 a5 a6 a7) := fun a0 a1 a2 a3 a4 a5 a6 a7 => Tot.loop0 (L := fun k => B_Z39_L2 k (F_Z53 k) (F_Z44 k) (F_Z62 k) (F_Z67 k)) (B := fun k g => u_Z39_L2 (B_Z39_L2b k (F_Z53 k) (F_Z44 k) (F_Z62 k) (F_Z67 k) g)) (Q := u_Z39_L2 Q) (fun _ _ _ => rfl) (u_Z39_L2 I) (u_Z39_L2 μ)
    (fun t ht again hag h => step t.1.1 t.1.2.1 t.1.2.2.1 t.1.2.2.2.1 t.1.2.2.2.2.1 t.2.1.2.2.2.2.1 t.2.2.1 t.2.2.2.1 ht again hag fun y0 y1 y2 y3 y4 y5 y6 y7 => h ((y0, y1, y2, y3, y4, ()), ((), (), (), (), y5, ()), y6, y7, ())) ((a0, a1, a2, a3, a4, ()), ((), (), (), (), a5, ()), a6, a7, ())
abbrev A_Z39_L1 (Z : Type) : Type := Int → List Int → List Bool → List Int → List Int → Bool → Bool → Int → Z
abbrev u_Z39_L1 {Z : Type} (f : A_Z39_L1 Z) (t : T_Z39_L1) : Z := f t.1 t.2.1.1 t.2.1.2.1 t.2.1.2.2.1 t.2.1.2.2.2.1 t.2.1.2.2.2.2.1 t.2.2.1.2.2.2.2.1 t.2.2.2.1
theorem loop_Z39_L1 {Q : A_Z39_L1 ((((List Int × List Bool × List Int × List Int × Bool × Unit) × Bool × Unit) × (Unit)) → Prop)} (I : A_Z39_L1 Prop) (μ : A_Z39_L1 Nat)
    (step : ∀ a0 a1 a2 a3 a4 a5 a6 a7, I a0 a1 a2 a3 a4 a5 a6 a7 → ∀ again : (Nat → Nat) → T_Z39_L1 → R_Z39, Dep 2 again → (∀ y0 y1 y2 y3 y4 y5 y6 y7, I y0 y1 y2 y3 y4 y5 y6 y7 → μ y0 y1 y2 y3 y4 y5 y6 y7 < μ a0 a1 a2 a3 a4 a5 a6 a7 → Tot (fun σ => again σ (y0, (y1, y2, y3, y4, y5, ()), ((), (), (), (), y6, ()), y7, ())) (Q y0 y1 y2 y3 y4 y5 y6 y7)) →
      Tot (fun σ => B_Z39_L1b (σ 0) (F_Z53 (σ 0)) (F_Z44 (σ 0)) (F_Z62 (σ 0)) (F_Z67 (σ 0)) (again σ) a0 a1 a2 a3 a4 a5 a6 a7) (Q a0 a1 a2 a3 a4 a5 a6 a7)) :
    ∀ a0 a1 a2 a3 a4 a5 a6 a7, I a0 a1 a2 a3 a4 a5 a6 a7 → Tot (fun σ => B_Z39_L1 (σ 0) (F_Z53 (σ 0)) (F_Z44 (σ 0)) (F_Z62 (σ 0)) (F_Z67 (σ 0)) (σ 0) (a0, (a1, a2, a3, a4, a5, ()), ((), (), (), (), a6, ()), a7, ())) (Q a0 a1 a2 a3 a4 a5 a6 a7) := fun a0 a1 a2 a3 a4 a5 a6 a7 => Tot.loop0 (L := fun k => B_Z39_L1 k (F_Z53 k) (F_Z44 k) (F_Z62 k) (F_Z67 k)) (B := fun k g => u_Z39_L1 (B_Z39_L1b k (F_Z53 k) (F_Z44 k) (F_Z62 k) (F_Z67 k) g)) (Q := u_Z39_L1 Q) (fun _ _ _ => rfl) (u_Z39_L1 I) (u_Z39_L1 μ)
    (fun t ht again hag h => step t.1 t.2.1.1 t.2.1.2.1 t.2.1.2.2.1 t.2.1.2.2.2.1 t.2.1.2.2.2.2.1 t.2.2.1.2.2.2.2.1 t.2.2.2.1 ht again hag fun y0 y1 y2 y3 y4 y5 y6 y7 => h (y0, (y1, y2, y3, y4, y5, ()), ((), (), (), (), y6, ()), y7, ())) (a0, (a1, a2, a3, a4, a5, ()), ((), (), (), (), a6, ()), a7, ())
abbrev R_Z36 : Type := Option (((List Int × List Bool × List Int × List Int × Bool × Unit) × Bool × Unit) × (Unit))
abbrev C_Z36 : Type := List Int → List Bool → List Int → List Int → Bool → Int → Int → R_Z36
def B_Z36_J2 (k : Nat) (c_Z62 : C_Z62) (c_Z44 : C_Z44) (c_Z67 : C_Z67) (s_Kinds : List Int) (s_Full : List Bool) (s_Stack s_Memo : List Int) (s_Done t4_Done ok : Bool) (many : Int) : R_Z36 :=
  bif (!ok) then
    some (((s_Kinds, s_Full, s_Stack, s_Memo, s_Done, ()), false, ()), ())
  else
    chk (cutb 0 (w64 ((len s_Stack) - many)) s_Stack.length) <|
    some (((s_Kinds, s_Full, (s_Stack.take ((w64 ((len s_Stack) - many)).toNat)), s_Memo, s_Done, ()), true, ()), ())
def B_Z36_J0 (k : Nat) (c_Z62 : C_Z62) (c_Z44 : C_Z44) (c_Z67 : C_Z67) (s_Kinds : List Int) (s_Full : List Bool) (s_Stack s_Memo : List Int) (s_Done t4_Done t40 : Bool) : R_Z36 :=
  bif t40 then
    some (((s_Kinds, s_Full, s_Stack, s_Memo, s_Done, ()), false, ()), ())
  else
    chk (cutb 0 (w64 ((len s_Stack) - 2)) s_Stack.length) <|
    (c_Z44 s_Kinds s_Full (s_Stack.take ((w64 ((len s_Stack) - 2)).toNat)) s_Memo s_Done 2).bind fun r51 =>
    some (((r51.1.1.1, r51.1.1.2.1, r51.1.1.2.2.1, r51.1.1.2.2.2.1, r51.1.1.2.2.2.2.1, ()), true, ()), ())
def B_Z36_J1 (k : Nat) (c_Z62 : C_Z62) (c_Z44 : C_Z44) (c_Z67 : C_Z67) (s_Kinds : List Int) (s_Full : List Bool) (s_Stack s_Memo : List Int) (s_Done t4_Done ok : Bool) (many : Int) : R_Z36 :=
  bif ok then
    chk (inb (w64 ((len s_Stack) - 2)) s_Stack.length) <|
    chk (decide ((w64 ((len s_Stack) - 2)).toNat < s_Stack.length)) <|
    chk (inb (s_Stack.getD ((w64 ((len s_Stack) - 2)).toNat) (0 : Int)) s_Full.length) <|
    chk (decide ((s_Stack.getD ((w64 ((len s_Stack) - 2)).toNat) (0 : Int)).toNat < s_Full.length)) <|
    jn (fun t => B_Z36_J2 k c_Z62 c_Z44 c_Z67 t.1.1 t.1.2.1 t.1.2.2.1 t.1.2.2.2.1 t.1.2.2.2.2.1 t.2.1.2.2.2.2.1 t.2.2.1 t.2.2.2.1) ((s_Kinds, (s_Full.set ((s_Stack.getD ((w64 ((len s_Stack) - 2)).toNat) (0 : Int)).toNat) true), s_Stack, s_Memo, s_Done, ()), ((), (), (), (), t4_Done, ()), ok, many, ())
  else
    jn (fun t => B_Z36_J2 k c_Z62 c_Z44 c_Z67 t.1.1 t.1.2.1 t.1.2.2.1 t.1.2.2.2.1 t.1.2.2.2.2.1 t.2.1.2.2.2.2.1 t.2.2.1 t.2.2.2.1) ((s_Kinds, s_Full, s_Stack, s_Memo, s_Done, ()), ((), (), (), (), t4_Done, ()), ok, many, ())
def B_Z36 (k : Nat) (c_Z62 : C_Z62) (c_Z44 : C_Z44) (c_Z67 : C_Z67) (s_0 : List Int) (s_1 : List Bool) (s_2 s_3 : List Int) (s_4 : Bool) (o_0 o_1 : Int) : R_Z36 :=
  (c_Z62 s_0 s_1 s_2 s_3 s_4 0).bind fun r11 =>
  (c_Z62 s_0 s_1 s_2 s_3 s_4 1).bind fun r13 =>
  bif (o_0 == 5) then
    bif (!(decide (r11.1.1 ≥ 0))) then
      some (((s_0, s_1, s_2, s_3, s_4, ()), false, ()), ())
    else
      chk (cutb 0 (w64 ((len s_2) - 1)) s_2.length) <|
      (c_Z44 s_0 s_1 (s_2.take ((w64 ((len s_2) - 1)).toNat)) s_3 s_4 2).bind fun r32 =>
      some (((r32.1.1.1, r32.1.1.2.1, r32.1.1.2.2.1, r32.1.1.2.2.2.1, r32.1.1.2.2.2.2.1, ()), true, ()), ())
  else
    bif (o_0 == 6) then
      bif (!(decide (r11.1.1 ≥ 0))) then
        jn (fun t => B_Z36_J0 k c_Z62 c_Z44 c_Z67 t.1.1 t.1.2.1 t.1.2.2.1 t.1.2.2.2.1 t.1.2.2.2.2.1 t.2.1.2.2.2.2.1 t.2.2.1) ((s_0, s_1, s_2, s_3, s_4, ()), ((), (), (), (), false, ()), true, ())
      else
        jn (fun t => B_Z36_J0 k c_Z62 c_Z44 c_Z67 t.1.1 t.1.2.1 t.1.2.2.1 t.1.2.2.2.1 t.1.2.2.2.2.1 t.2.1.2.2.2.2.1 t.2.2.1) ((s_0, s_1, s_2, s_3, s_4, ()), ((), (), (), (), false, ()), decide (r13.1.1 < 0), ())
    else
      bif (o_0 == 8) then
        bif decide (r11.1.1 ≥ 0) then
          jn (fun t => B_Z36_J2 k c_Z62 c_Z44 c_Z67 t.1.1 t.1.2.1 t.1.2.2.1 t.1.2.2.2.1 t.1.2.2.2.2.1 t.2.1.2.2.2.2.1 t.2.2.1 t.2.2.2.1) ((s_0, s_1, s_2, s_3, s_4, ()), ((), (), (), (), false, ()), (r13.1.1 == 3), 1, ())
        else
          jn (fun t => B_Z36_J2 k c_Z62 c_Z44 c_Z67 t.1.1 t.1.2.1 t.1.2.2.1 t.1.2.2.2.1 t.1.2.2.2.2.1 t.2.1.2.2.2.2.1 t.2.2.1 t.2.2.2.1) ((s_0, s_1, s_2, s_3, s_4, ()), ((), (), (), (), false, ()), false, 1, ())
      else
        bif (o_0 == 11) then
          bif decide (r11.1.1 ≥ 0) then
            (c_Z67 r13.1.1).bind fun r64 =>
            bif r64.1.1 then
              (c_Z62 s_0 s_1 s_2 s_3 s_4 2).bind fun r68 =>
              jn (fun t => B_Z36_J2 k c_Z62 c_Z44 c_Z67 t.1.1 t.1.2.1 t.1.2.2.1 t.1.2.2.2.1 t.1.2.2.2.2.1 t.2.1.2.2.2.2.1 t.2.2.1 t.2.2.2.1) ((s_0, s_1, s_2, s_3, s_4, ()), ((), (), (), (), false, ()), (r68.1.1 == 4), 2, ())
            else
              jn (fun t => B_Z36_J2 k c_Z62 c_Z44 c_Z67 t.1.1 t.1.2.1 t.1.2.2.1 t.1.2.2.2.1 t.1.2.2.2.2.1 t.2.1.2.2.2.2.1 t.2.2.1 t.2.2.2.1) ((s_0, s_1, s_2, s_3, s_4, ()), ((), (), (), (), false, ()), false, 2, ())
          else
            jn (fun t => B_Z36_J2 k c_Z62 c_Z44 c_Z67 t.1.1 t.1.2.1 t.1.2.2.1 t.1.2.2.2.1 t.1.2.2.2.2.1 t.2.1.2.2.2.2.1 t.2.2.1 t.2.2.2.1) ((s_0, s_1, s_2, s_3, s_4, ()), ((), (), (), (), false, ()), false, 2, ())
        else
          bif (o_0 == 14) then
            bif decide (r11.1.1 ≥ 0) then
              bif (r13.1.1 == 5) then
                chk (inb (w64 ((len s_2) - 2)) s_2.length) <|
                chk (decide ((w64 ((len s_2) - 2)).toNat < s_2.length)) <|
                chk (inb (s_2.getD ((w64 ((len s_2) - 2)).toNat) (0 : Int)) s_1.length) <|
                chk (decide ((s_2.getD ((w64 ((len s_2) - 2)).toNat) (0 : Int)).toNat < s_1.length)) <|
                jn (fun t => B_Z36_J1 k c_Z62 c_Z44 c_Z67 t.1.1 t.1.2.1 t.1.2.2.1 t.1.2.2.2.1 t.1.2.2.2.2.1 t.2.1.2.2.2.2.1 t.2.2.1 t.2.2.2.1) ((s_0, s_1, s_2, s_3, s_4, ()), ((), (), (), (), false, ()), (!(s_1.getD ((s_2.getD ((w64 ((len s_2) - 2)).toNat) (0 : Int)).toNat) false)), 1, ())
              else
                jn (fun t => B_Z36_J1 k c_Z62 c_Z44 c_Z67 t.1.1 t.1.2.1 t.1.2.2.1 t.1.2.2.2.1 t.1.2.2.2.2.1 t.2.1.2.2.2.2.1 t.2.2.1 t.2.2.2.1) ((s_0, s_1, s_2, s_3, s_4, ()), ((), (), (), (), false, ()), false, 1, ())
            else
              jn (fun t => B_Z36_J1 k c_Z62 c_Z44 c_Z67 t.1.1 t.1.2.1 t.1.2.2.1 t.1.2.2.2.1 t.1.2.2.2.2.1 t.2.1.2.2.2.2.1 t.2.2.1 t.2.2.2.1) ((s_0, s_1, s_2, s_3, s_4, ()), ((), (), (), (), false, ()), false, 1, ())
          else
            bif (o_0 == 15) then
              bif decide (r11.1.1 ≥ 0) then
                chk (inb (w64 ((len s_2) - 1)) s_2.length) <|
                chk (decide ((w64 ((len s_2) - 1)).toNat < s_2.length)) <|
                chk (inb o_1 s_3.length) <|
                chk (decide (o_1.toNat < s_3.length)) <|
                jn (fun t => B_Z36_J2 k c_Z62 c_Z44 c_Z67 t.1.1 t.1.2.1 t.1.2.2.1 t.1.2.2.2.1 t.1.2.2.2.2.1 t.2.1.2.2.2.2.1 t.2.2.1 t.2.2.2.1) ((s_0, s_1, s_2, (s_3.set o_1.toNat (s_2.getD ((w64 ((len s_2) - 1)).toNat) (0 : Int))), s_4, ()), ((), (), (), (), false, ()), decide (r11.1.1 ≥ 0), 0, ())
              else
                jn (fun t => B_Z36_J2 k c_Z62 c_Z44 c_Z67 t.1.1 t.1.2.1 t.1.2.2.1 t.1.2.2.2.1 t.1.2.2.2.2.1 t.2.1.2.2.2.2.1 t.2.2.1 t.2.2.2.1) ((s_0, s_1, s_2, s_3, s_4, ()), ((), (), (), (), false, ()), decide (r11.1.1 ≥ 0), 0, ())
            else
              bif (o_0 == 19) then
                bif decide (r11.1.1 ≥ 0) then
                  jn (fun t => B_Z36_J2 k c_Z62 c_Z44 c_Z67 t.1.1 t.1.2.1 t.1.2.2.1 t.1.2.2.2.1 t.1.2.2.2.2.1 t.2.1.2.2.2.2.1 t.2.2.1 t.2.2.2.1) ((s_0, s_1, s_2, s_3, true, ()), ((), (), (), (), false, ()), ((len s_2) == 1), 0, ())
                else
                  jn (fun t => B_Z36_J2 k c_Z62 c_Z44 c_Z67 t.1.1 t.1.2.1 t.1.2.2.1 t.1.2.2.2.1 t.1.2.2.2.2.1 t.2.1.2.2.2.2.1 t.2.2.1 t.2.2.2.1) ((s_0, s_1, s_2, s_3, true, ()), ((), (), (), (), false, ()), false, 0, ())
              else
                jn (fun t => B_Z36_J2 k c_Z62 c_Z44 c_Z67 t.1.1 t.1.2.1 t.1.2.2.1 t.1.2.2.2.1 t.1.2.2.2.2.1 t.2.1.2.2.2.2.1 t.2.2.1 t.2.2.2.1) ((s_0, s_1, s_2, s_3, s_4, ()), ((), (), (), (), false, ()), decide (r11.1.1 ≥ 0), 1, ())
def F_Z36 : Nat → C_Z36
  | 0, _, _, _, _, _, _, _ => none
  | k + 1, s_0, s_1, s_2, s_3, s_4, o_0, o_1 => B_Z36 k (F_Z62 k) (F_Z44 k) (F_Z67 k) s_0 s_1 s_2 s_3 s_4 o_0 o_1
theorem tot_Z36 {s_0 s_1 s_2 s_3 s_4 o_0 o_1 : _} {Q : _ → Prop} (h : Tot (fun σ => B_Z36 (σ 0) (F_Z62 (σ 0)) (F_Z44 (σ 0)) (F_Z67 (σ 0)) s_0 s_1 s_2 s_3 s_4 o_0 o_1) Q) : Tot (fun σ => F_Z36 (σ 0) s_0 s_1 s_2 s_3 s_4 o_0 o_1) Q :=
  Tot.call (F := fun k => F_Z36 k s_0 s_1 s_2 s_3 s_4 o_0 o_1) (B := fun k => B_Z36 k (F_Z62 k) (F_Z44 k) (F_Z67 k) s_0 s_1 s_2 s_3 s_4 o_0 o_1) (fun k => rfl) h
abbrev R_Z38 : Type := Option (((List Int × List Bool × List Int × List Int × Bool × Unit) × Bool × Unit) × (Unit))
abbrev C_Z38 : Type := List Int → List Bool → List Int → List Int → Bool → Int → Int → R_Z38
def B_Z38_J1 (k : Nat) (c_Z61 : C_Z61) (c_Z44 : C_Z44) (c_Z39 : C_Z39) (c_Z36 : C_Z36) (s_Kinds : List Int) (s_Full : List Bool) (s_Stack s_Memo : List Int) (s_Done t4_Done ok : Bool) : R_Z38 :=
  bif ok then
    bif decide ((len s_Kinds) ≤ 300) then
      some (((s_Kinds, s_Full, s_Stack, s_Memo, s_Done, ()), decide ((len s_Stack) ≤ 300), ()), ())
    else
      some (((s_Kinds, s_Full, s_Stack, s_Memo, s_Done, ()), false, ()), ())
  else
    some (((s_Kinds, s_Full, s_Stack, s_Memo, s_Done, ()), false, ()), ())
def B_Z38_J0 (k : Nat) (c_Z61 : C_Z61) (c_Z44 : C_Z44) (c_Z39 : C_Z39) (c_Z36 : C_Z36) (s_Kinds : List Int) (s_Full : List Bool) (s_Stack s_Memo : List Int) (s_Done : Bool) (o_Code o_Arg : Int) (t4_Done t61 : Bool) : R_Z38 :=
  bif t61 then
    (c_Z39 s_Kinds s_Full s_Stack s_Memo s_Done o_Code).bind fun r84 =>
    jn (fun t => B_Z38_J1 k c_Z61 c_Z44 c_Z39 c_Z36 t.1.1 t.1.2.1 t.1.2.2.1 t.1.2.2.2.1 t.1.2.2.2.2.1 t.2.1.2.2.2.2.1 t.2.2.1) ((r84.1.1.1, r84.1.1.2.1, r84.1.1.2.2.1, r84.1.1.2.2.2.1, r84.1.1.2.2.2.2.1, ()), ((), (), (), (), t4_Done, ()), r84.1.2.1, ())
  else
    (c_Z36 s_Kinds s_Full s_Stack s_Memo s_Done o_Code o_Arg).bind fun r16 =>
    jn (fun t => B_Z38_J1 k c_Z61 c_Z44 c_Z39 c_Z36 t.1.1 t.1.2.1 t.1.2.2.1 t.1.2.2.2.1 t.1.2.2.2.2.1 t.2.1.2.2.2.2.1 t.2.2.1) ((r16.1.1.1, r16.1.1.2.1, r16.1.1.2.2.1, r16.1.1.2.2.2.1, r16.1.1.2.2.2.2.1, ()), ((), (), (), (), t4_Done, ()), r16.1.2.1, ())
def B_Z38 (k : Nat) (c_Z61 : C_Z61) (c_Z44 : C_Z44) (c_Z39 : C_Z39) (c_Z36 : C_Z36) (s_0 : List Int) (s_1 : List Bool) (s_2 s_3 : List Int) (s_4 : Bool) (o_0 o_1 : Int) : R_Z38 :=
  bif (!(!s_4)) then
    some (((s_0, s_1, s_2, s_3, s_4, ()), false, ()), ())
  else
    (c_Z61 o_0).bind fun r22 =>
    bif decide (r22.1.1 ≥ 0) then
      (c_Z61 o_0).bind fun r27 =>
      (c_Z44 s_0 s_1 s_2 s_3 s_4 r27.1.1).bind fun r28 =>
      jn (fun t => B_Z38_J1 k c_Z61 c_Z44 c_Z39 c_Z36 t.1.1 t.1.2.1 t.1.2.2.1 t.1.2.2.2.1 t.1.2.2.2.2.1 t.2.1.2.2.2.2.1 t.2.2.1) ((r28.1.1.1, r28.1.1.2.1, r28.1.1.2.2.1, r28.1.1.2.2.2.1, r28.1.1.2.2.2.2.1, ()), ((), (), (), (), false, ()), (!s_4), ())
    else
      bif (o_0 == 2) then
        chk (room s_2.length ([(-1)]).length) <|
        jn (fun t => B_Z38_J1 k c_Z61 c_Z44 c_Z39 c_Z36 t.1.1 t.1.2.1 t.1.2.2.1 t.1.2.2.2.1 t.1.2.2.2.2.1 t.2.1.2.2.2.2.1 t.2.2.1) ((s_0, s_1, (s_2 ++ [(-1)]), s_3, s_4, ()), ((), (), (), (), false, ()), (!s_4), ())
      else
        bif (o_0 == 16) then
          chk (inb o_1 s_3.length) <|
          chk (decide (o_1.toNat < s_3.length)) <|
          bif decide ((s_3.getD o_1.toNat (0 : Int)) < 0) then
            some (((s_0, s_1, s_2, s_3, s_4, ()), false, ()), ())
          else
            chk (inb o_1 s_3.length) <|
            chk (decide (o_1.toNat < s_3.length)) <|
            chk (room s_2.length ([(s_3.getD o_1.toNat (0 : Int))]).length) <|
            jn (fun t => B_Z38_J1 k c_Z61 c_Z44 c_Z39 c_Z36 t.1.1 t.1.2.1 t.1.2.2.1 t.1.2.2.2.1 t.1.2.2.2.2.1 t.2.1.2.2.2.2.1 t.2.2.1) ((s_0, s_1, (s_2 ++ [(s_3.getD o_1.toNat (0 : Int))]), s_3, s_4, ()), ((), (), (), (), false, ()), (!s_4), ())
        else
          bif (o_0 == 3) then
            jn (fun t => B_Z38_J0 k c_Z61 c_Z44 c_Z39 c_Z36 t.1.1 t.1.2.1 t.1.2.2.1 t.1.2.2.2.1 t.1.2.2.2.2.1 t.2.1.1 t.2.1.2.1 t.2.2.1.2.2.2.2.1 t.2.2.2.1) ((s_0, s_1, s_2, s_3, s_4, ()), (o_0, o_1, ()), ((), (), (), (), false, ()), true, ())
          else
            bif (o_0 == 9) then
              jn (fun t => B_Z38_J0 k c_Z61 c_Z44 c_Z39 c_Z36 t.1.1 t.1.2.1 t.1.2.2.1 t.1.2.2.2.1 t.1.2.2.2.2.1 t.2.1.1 t.2.1.2.1 t.2.2.1.2.2.2.2.1 t.2.2.2.1) ((s_0, s_1, s_2, s_3, s_4, ()), (o_0, o_1, ()), ((), (), (), (), false, ()), true, ())
            else
              bif (o_0 == 12) then
                jn (fun t => B_Z38_J0 k c_Z61 c_Z44 c_Z39 c_Z36 t.1.1 t.1.2.1 t.1.2.2.1 t.1.2.2.2.1 t.1.2.2.2.2.1 t.2.1.1 t.2.1.2.1 t.2.2.1.2.2.2.2.1 t.2.2.2.1) ((s_0, s_1, s_2, s_3, s_4, ()), (o_0, o_1, ()), ((), (), (), (), false, ()), true, ())
              else
                jn (fun t => B_Z38_J0 k c_Z61 c_Z44 c_Z39 c_Z36 t.1.1 t.1.2.1 t.1.2.2.1 t.1.2.2.2.1 t.1.2.2.2.2.1 t.2.1.1 t.2.1.2.1 t.2.2.1.2.2.2.2.1 t.2.2.2.1) ((s_0, s_1, s_2, s_3, s_4, ()), (o_0, o_1, ()), ((), (), (), (), false, ()), (o_0 == 18), ())
def F_Z38 : Nat → C_Z38
  | 0, _, _, _, _, _, _, _ => none
  | k + 1, s_0, s_1, s_2, s_3, s_4, o_0, o_1 => B_Z38 k (F_Z61 k) (F_Z44 k) (F_Z39 k) (F_Z36 k) s_0 s_1 s_2 s_3 s_4 o_0 o_1
theorem tot_Z38 {s_0 s_1 s_2 s_3 s_4 o_0 o_1 : _} {Q : _ → Prop} (h : Tot (fun σ => B_Z38 (σ 0) (F_Z61 (σ 0)) (F_Z44 (σ 0)) (F_Z39 (σ 0)) (F_Z36 (σ 0)) s_0 s_1 s_2 s_3 s_4 o_0 o_1) Q) : Tot (fun σ => F_Z38 (σ 0) s_0 s_1 s_2 s_3 s_4 o_0 o_1) Q :=
  Tot.call (F := fun k => F_Z38 k s_0 s_1 s_2 s_3 s_4 o_0 o_1) (B := fun k => B_Z38 k (F_Z61 k) (F_Z44 k) (F_Z39 k) (F_Z36 k) s_0 s_1 s_2 s_3 s_4 o_0 o_1) (fun k => rfl) h
abbrev R_Z45 : Type := Option (((List Int × List Bool × List Int × List Int × Bool × Unit) × Int × Unit) × (Unit))
abbrev C_Z45 : Type := (List (Int × Int)) → R_Z45
abbrev T_Z45_L0 : Type := (List (Int × Int)) × (Unit × Unit × Unit × Unit × Bool × Unit) × (List Int × List Bool × List Int × List Int × Bool × Unit) × Int × Unit
def B_Z45_L0b (k : Nat) (c_Z49 : C_Z49) (c_Z34 : C_Z34) (c_Z38 : C_Z38) (again0 : T_Z45_L0 → R_Z45) (ops : List (Int × Int)) (t2_Done : Bool) (s_Kinds : List Int) (s_Full : List Bool) (s_Stack s_Memo : List Int) (s_Done : Bool) (i : Int) : R_Z45 :=
  bif decide (i < (len ops)) then
    (c_Z34 s_Kinds s_Full s_Stack s_Memo s_Done).bind fun r17 =>
    chk (inb i ops.length) <|
    (c_Z38 r17.1.1.1 r17.1.1.2.1 r17.1.1.2.2.1 r17.1.1.2.2.2.1 r17.1.1.2.2.2.2.1 ((rdx ((0 : Int), (0 : Int)) ops i).1) ((rdx ((0 : Int), (0 : Int)) ops i).2)).bind fun r22 =>
    bif (!r22.1.2.1) then
      some (((s_Kinds, s_Full, s_Stack, s_Memo, s_Done, ()), i, ()), ())
    else
      again0 (ops, ((), (), (), (), t2_Done, ()), (r22.1.1.1, r22.1.1.2.1, r22.1.1.2.2.1, r22.1.1.2.2.2.1, r22.1.1.2.2.2.2.1, ()), w64 (i + 1), ())
  else
    some (((s_Kinds, s_Full, s_Stack, s_Memo, s_Done, ()), len ops, ()), ())
def B_Z45_L0 (k : Nat) (c_Z49 : C_Z49) (c_Z34 : C_Z34) (c_Z38 : C_Z38) (n : Nat) (t : T_Z45_L0) : R_Z45 :=
  lfix n (fun again t => B_Z45_L0b k c_Z49 c_Z34 c_Z38 again t.1 t.2.1.2.2.2.2.1 t.2.2.1.1 t.2.2.1.2.1 t.2.2.1.2.2.1 t.2.2.1.2.2.2.1 t.2.2.1.2.2.2.2.1 t.2.2.2.1) t
def B_Z45 (k : Nat) (c_Z49 : C_Z49) (c_Z34 : C_Z34) (c_Z38 : C_Z38) (ops : List (Int × Int)) : R_Z45 :=
  (c_Z49).bind fun r8 =>
  B_Z45_L0 k c_Z49 c_Z34 c_Z38 k (ops, ((), (), (), (), false, ()), (r8.1.1.1, r8.1.1.2.1, r8.1.1.2.2.1, r8.1.1.2.2.2.1, r8.1.1.2.2.2.2.1, ()), 0, ())
def F_Z45 : Nat → C_Z45
  | 0, _ => none
  | k + 1, ops => B_Z45 k (F_Z49 k) (F_Z34 k) (F_Z38 k) ops
theorem tot_Z45 {ops : _} {Q : _ → Prop} (h : Tot (fun σ => B_Z45 (σ 0) (F_Z49 (σ 0)) (F_Z34 (σ 0)) (F_Z38 (σ 0)) ops) Q) : Tot (fun σ => F_Z45 (σ 0) ops) Q :=
  Tot.call (F := fun k => F_Z45 k ops) (B := fun k => B_Z45 k (F_Z49 k) (F_Z34 k) (F_Z38 k) ops) (fun k => rfl) h
abbrev A_Z45_L0 (Z : Type) : Type := (List (Int × Int)) → Bool → List Int → List Bool → List Int → List Int → Bool → Int → Z
abbrev u_Z45_L0 {Z : Type} (f : A_Z45_L0 Z) (t : T_Z45_L0) : Z := f t.1 t.2.1.2.2.2.2.1 t.2.2.1.1 t.2.2.1.2.1 t.2.2.1.2.2.1 t.2.2.1.2.2.2.1 t.2.2.1.2.2.2.2.1 t.2.2.2.1
theorem loop_Z45_L0 {Q : A_Z45_L0 ((((List Int × List Bool × List Int × List Int × Bool × Unit) × Int × Unit) × (Unit)) → Prop)} (I : A_Z45_L0 Prop) (μ : A_Z45_L0 Nat)
    (step : ∀ a0 a1 a2 a3 a4 a5 a6 a7, I a0 a1 a2 a3 a4 a5 a6 a7 → ∀ again : (Nat → Nat) → T_Z45_L0 → R_Z45, Dep 2 again → (∀ y0 y1 y2 y3 y4 y5 y6 y7, I y0 y1 y2 y3 y4 y5 y6 y7 → μ y0 y1 y2 y3 y4 y5 y6 y7 < μ a0 a1 a2 a3 a4 a5 a6 a7 → Tot (fun σ => again σ (y0, ((), (), (), (), y1, ()), (y2, y3, y4, y5, y6, ()), y7, ())) (Q y0 y1 y2 y3 y4 y5 y6 y7)) →
      Tot (fun σ => B_Z45_L0b (σ 0) (F_Z49 (σ 0)) (F_Z34 (σ 0)) (F_Z38 (σ 0)) (again σ) a0 a1 a2 a3 a4 a5 a6 a7) (Q a0 a1 a2 a3 a4 a5 a6 a7)) :
    ∀ a0 a1 a2 a3 a4 a5 a6 a7, I a0 a1 a2 a3 a4 a5 a6 a7 → Tot (fun σ => B_Z45_L0 (σ 0) (F_Z49 (σ 0)) (F_Z34 (σ 0)) (F_Z38 (σ 0)) (σ 0) (a0, ((), (), (), (), a1, ()), (a2, a3, a4, a5, a6, ()), a7, ())) (Q a0 a1 a2 a3 a4 a5 a6 a7) := fun a0 a1 a2 a3 a4 a5 a6 a7 => Tot.loop0 (L := fun k => B_Z45_L0 k (F_Z49 k) (F_Z34 k) (F_Z38 k)) (B := fun k g => u_Z45_L0 (B_Z45_L0b k (F_Z49 k) (F_Z34 k) (F_Z38 k) g)) (Q := u_Z45_L0 Q) (fun _ _ _ => rfl) (u_Z45_L0 I) (u_Z45_L0 μ)
    (fun t ht again hag h => step t.1 t.2.1.2.2.2.2.1 t.2.2.1.1 t.2.2.1.2.1 t.2.2.1.2.2.1 t.2.2.1.2.2.2.1 t.2.2.1.2.2.2.2.1 t.2.2.2.1 ht again hag fun y0 y1 y2 y3 y4 y5 y6 y7 => h (y0, ((), (), (), (), y1, ()), (y2, y3, y4, y5, y6, ()), y7, ())) (a0, ((), (), (), (), a1, ()), (a2, a3, a4, a5, a6, ()), a7, ())
abbrev R_Z57 : Type := Option ((List Int × Unit) × (Unit))
abbrev C_Z57 : Type := (List (Int × Int)) → R_Z57
abbrev T_Z57_L0 : Type := (List (Int × Int)) × List Int × Int × Int × Unit
def B_Z57_L0b (k : Nat) (c_Z58 : C_Z58) (c_Z45 : C_Z45) (again0 : T_Z57_L0 → R_Z57) (ops : List (Int × Int)) (out : List Int) (n5 i : Int) : R_Z57 :=
  bif decide (i ≤ n5) then
    chk (cutb 0 i ops.length) <|
    (c_Z45 (sub ops 0 i)).bind fun r27 =>
    chk (room out.length ([len r27.1.1.2.2.1]).length) <|
    again0 (ops, (out ++ [len r27.1.1.2.2.1]), n5, w64 (i + 1), ())
  else
    some ((out, ()), ())
def B_Z57_L0 (k : Nat) (c_Z58 : C_Z58) (c_Z45 : C_Z45) (n : Nat) (t : T_Z57_L0) : R_Z57 :=
  lfix n (fun again t => B_Z57_L0b k c_Z58 c_Z45 again t.1 t.2.1 t.2.2.1 t.2.2.2.1) t
def B_Z57 (k : Nat) (c_Z58 : C_Z58) (c_Z45 : C_Z45) (ops : List (Int × Int)) : R_Z57 :=
  (c_Z58 ops).bind fun r10 =>
  bif (!r10.1.1) then
    some (([], ()), ())
  else
    (c_Z45 ops).bind fun r15 =>
    B_Z57_L0 k c_Z58 c_Z45 k (ops, [], r15.1.2.1, 1, ())
def F_Z57 : Nat → C_Z57
  | 0, _ => none
  | k + 1, ops => B_Z57 k (F_Z58 k) (F_Z45 k) ops
theorem tot_Z57 {ops : _} {Q : _ → Prop} (h : Tot (fun σ => B_Z57 (σ 0) (F_Z58 (σ 0)) (F_Z45 (σ 0)) ops) Q) : Tot (fun σ => F_Z57 (σ 0) ops) Q :=
  Tot.call (F := fun k => F_Z57 k ops) (B := fun k => B_Z57 k (F_Z58 k) (F_Z45 k) ops) (fun k => rfl) h
abbrev A_Z57_L0 (Z : Type) : Type := (List (Int × Int)) → List Int → Int → Int → Z
abbrev u_Z57_L0 {Z : Type} (f : A_Z57_L0 Z) (t : T_Z57_L0) : Z := f t.1 t.2.1 t.2.2.1 t.2.2.2.1
theorem loop_Z57_L0 {Q : A_Z57_L0 (((List Int × Unit) × (Unit)) → Prop)} (I : A_Z57_L0 Prop) (μ : A_Z57_L0 Nat)
    (step : ∀ a0 a1 a2 a3, I a0 a1 a2 a3 → ∀ again : (Nat → Nat) → T_Z57_L0 → R_Z57, Dep 2 again → (∀ y0 y1 y2 y3, I y0 y1 y2 y3 → μ y0 y1 y2 y3 < μ a0 a1 a2 a3 → Tot (fun σ => again σ (y0, y1, y2, y3, ())) (Q y0 y1 y2 y3)) →
      Tot (fun σ => B_Z57_L0b (σ 0) (F_Z58 (σ 0)) (F_Z45 (σ 0)) (again σ) a0 a1 a2 a3) (Q a0 a1 a2 a3)) :
    ∀ a0 a1 a2 a3, I a0 a1 a2 a3 → Tot (fun σ => B_Z57_L0 (σ 0) (F_Z58 (σ 0)) (F_Z45 (σ 0)) (σ 0) (a0, a1, a2, a3, ())) (Q a0 a1 a2 a3) := fun a0 a1 a2 a3 => Tot.loop0 (L := fun k => B_Z57_L0 k (F_Z58 k) (F_Z45 k)) (B := fun k g => u_Z57_L0 (B_Z57_L0b k (F_Z58 k) (F_Z45 k) g)) (Q := u_Z57_L0 Q) (fun _ _ _ => rfl) (u_Z57_L0 I) (u_Z57_L0 μ)
    (fun t ht again hag h => step t.1 t.2.1 t.2.2.1 t.2.2.2.1 ht again hag fun y0 y1 y2 y3 => h (y0, y1, y2, y3, ())) (a0, a1, a2, a3, ())
abbrev R_Z48 : Type := Option ((List Int × Unit) × (Unit))
abbrev C_Z48 : Type := (List (Int × Int)) → R_Z48
abbrev T_Z48_L1 : Type := (List (Int × Int)) × List Int × Int × Int × Unit
abbrev T_Z48_L3 : Type := (List (Int × Int)) × List Int × Int × Unit
def B_Z48_J2 (k : Nat) (c_Z58 : C_Z58) (again3 : T_Z48_L3 → R_Z48) (ops : List (Int × Int)) (out : List Int) (c : Int) : R_Z48 :=
  again3 (ops, out, w64 (c + 1), ())
def B_Z48_J0 (k : Nat) (c_Z58 : C_Z58) (again1 : T_Z48_L1 → R_Z48) (again3 : T_Z48_L3 → R_Z48) (ops : List (Int × Int)) (out : List Int) (c i : Int) (t34 : Bool) : R_Z48 :=
  bif t34 then
    chk (room out.length ([c]).length) <|
    jn (fun t => B_Z48_J2 k c_Z58 again3 t.1 t.2.1 t.2.2.1) (ops, (out ++ [c]), c, ())
  else
    again1 (ops, out, c, w64 (i + 1), ())
def B_Z48_L1b (k : Nat) (c_Z58 : C_Z58) (again3 : T_Z48_L3 → R_Z48) (again1 : T_Z48_L1 → R_Z48) (ops : List (Int × Int)) (out : List Int) (c i : Int) : R_Z48 :=
  bif decide (i < (len ops)) then
    chk (inb i ops.length) <|
    bif (((rdx ((0 : Int), (0 : Int)) ops i).1) == 13) then
      chk (inb i ops.length) <|
      jn (fun t => B_Z48_J0 k c_Z58 again1 again3 t.1 t.2.1 t.2.2.1 t.2.2.2.1 t.2.2.2.2.1) (ops, out, c, i, (((rdx ((0 : Int), (0 : Int)) ops i).2) == c), ())
    else
      jn (fun t => B_Z48_J0 k c_Z58 again1 again3 t.1 t.2.1 t.2.2.1 t.2.2.2.1 t.2.2.2.2.1) (ops, out, c, i, false, ())
  else
    jn (fun t => B_Z48_J2 k c_Z58 again3 t.1 t.2.1 t.2.2.1) (ops, out, c, ())
def B_Z48_L1 (k : Nat) (c_Z58 : C_Z58) (again3 : T_Z48_L3 → R_Z48) (n : Nat) (t : T_Z48_L1) : R_Z48 :=
  lfix n (fun again t => B_Z48_L1b k c_Z58 again3 again t.1 t.2.1 t.2.2.1 t.2.2.2.1) t
def B_Z48_L3b (k : Nat) (c_Z58 : C_Z58) (again3 : T_Z48_L3 → R_Z48) (ops : List (Int × Int)) (out : List Int) (c : Int) : R_Z48 :=
  bif decide (c ≤ 9) then
    B_Z48_L1 k c_Z58 again3 k (ops, out, c, 0, ())
  else
    some ((out, ()), ())
def B_Z48_L3 (k : Nat) (c_Z58 : C_Z58) (n : Nat) (t : T_Z48_L3) : R_Z48 :=
  lfix n (fun again t => B_Z48_L3b k c_Z58 again t.1 t.2.1 t.2.2.1) t
def B_Z48 (k : Nat) (c_Z58 : C_Z58) (ops : List (Int × Int)) : R_Z48 :=
  (c_Z58 ops).bind fun r7 =>
  bif (!r7.1.1) then
    some (([], ()), ())
  else
    B_Z48_L3 k c_Z58 k (ops, [], 0, ())
def F_Z48 : Nat → C_Z48
  | 0, _ => none
  | k + 1, ops => B_Z48 k (F_Z58 k) ops
theorem tot_Z48 {ops : _} {Q : _ → Prop} (h : Tot (fun σ => B_Z48 (σ 0) (F_Z58 (σ 0)) ops) Q) : Tot (fun σ => F_Z48 (σ 0) ops) Q :=
  Tot.call (F := fun k => F_Z48 k ops) (B := fun k => B_Z48 k (F_Z58 k) ops) (fun k => rfl) h
abbrev A_Z48_L1 (Z : Type) : Type := (List (Int × Int)) → List Int → Int → Int → Z
abbrev u_Z48_L1 {Z : Type} (f : A_Z48_L1 Z) (t : T_Z48_L1) : Z := f t.1 t.2.1 t.2.2.1 t.2.2.2.1
theorem loop_Z48_L1 {again3 : (Nat → Nat) → T_Z48_L3 → R_Z48} (hag3 : Dep 2 again3) {Q : A_Z48_L1 (((List Int × Unit) × (Unit)) → Prop)} (I : A_Z48_L1 Prop) (μ : A_Z48_L1 Nat)
    (step : ∀ a0 a1 a2 a3, I a0 a1 a2 a3 → ∀ again : (Nat → Nat) → T_Z48_L1 → R_Z48, Dep 3 again → (∀ y0 y1 y2 y3, I y0 y1 y2 y3 → μ y0 y1 y2 y3 < μ a0 a1 a2 a3 → Tot (fun σ => again σ (y0, y1, y2, y3, ())) (Q y0 y1 y2 y3)) →
      Tot (fun σ => B_Z48_L1b (σ 0) (F_Z58 (σ 0)) (again3 σ) (again σ) a0 a1 a2 a3) (Q a0 a1 a2 a3)) :
    ∀ a0 a1 a2 a3, I a0 a1 a2 a3 → Tot (fun σ => B_Z48_L1 (σ 0) (F_Z58 (σ 0)) (again3 σ) (σ 0) (a0, a1, a2, a3, ())) (Q a0 a1 a2 a3) := fun a0 a1 a2 a3 => Tot.loop (L := fun σ n t => B_Z48_L1 (σ 0) (F_Z58 (σ 0)) (again3 σ) n t) (B := fun σ g => u_Z48_L1 (B_Z48_L1b (σ 0) (F_Z58 (σ 0)) (again3 σ) g)) (Q := u_Z48_L1 Q) 2 (by decide)
    (fun s s' h => by have e0 : s 0 = s' 0 := h 0 (by decide); simp only [e0, hag3 s s' h]) (fun s s' h => by have e0 : s 0 = s' 0 := h 0 (by decide); simp only [e0, hag3 s s' h]) (fun _ _ _ => rfl) (u_Z48_L1 I) (u_Z48_L1 μ)
    (fun t ht again hag h => step t.1 t.2.1 t.2.2.1 t.2.2.2.1 ht again hag fun y0 y1 y2 y3 => h (y0, y1, y2, y3, ())) (a0, a1, a2, a3, ())
abbrev A_Z48_L3 (Z : Type) : Type := (List (Int × Int)) → List Int → Int → Z
abbrev u_Z48_L3 {Z : Type} (f : A_Z48_L3 Z) (t : T_Z48_L3) : Z := f t.1 t.2.1 t.2.2.1
theorem loop_Z48_L3 {Q : A_Z48_L3 (((List Int × Unit) × (Unit)) → Prop)} (I : A_Z48_L3 Prop) (μ : A_Z48_L3 Nat)
    (step : ∀ a0 a1 a2, I a0 a1 a2 → ∀ again : (Nat → Nat) → T_Z48_L3 → R_Z48, Dep 2 again → (∀ y0 y1 y2, I y0 y1 y2 → μ y0 y1 y2 < μ a0 a1 a2 → Tot (fun σ => again σ (y0, y1, y2, ())) (Q y0 y1 y2)) →
      Tot (fun σ => B_Z48_L3b (σ 0) (F_Z58 (σ 0)) (again σ) a0 a1 a2) (Q a0 a1 a2)) :
    ∀ a0 a1 a2, I a0 a1 a2 → Tot (fun σ => B_Z48_L3 (σ 0) (F_Z58 (σ 0)) (σ 0) (a0, a1, a2, ())) (Q a0 a1 a2) := fun a0 a1 a2 => Tot.loop0 (L := fun k => B_Z48_L3 k (F_Z58 k)) (B := fun k g => u_Z48_L3 (B_Z48_L3b k (F_Z58 k) g)) (Q := u_Z48_L3 Q) (fun _ _ _ => rfl) (u_Z48_L3 I) (u_Z48_L3 μ)
    (fun t ht again hag h => step t.1 t.2.1 t.2.2.1 ht again hag fun y0 y1 y2 => h (y0, y1, y2, ())) (a0, a1, a2, ())
abbrev R_Z33 : Type := Option (((Int × Int × Int × List Int × Unit) × Bool × Unit) × (Unit))
abbrev C_Z33 : Type := (List (Int × Int)) → R_Z33
abbrev T_Z33_L0 : Type := (List (Int × Int)) × (Int × Int × Int × Unit × Unit) × (List Int × List Bool × List Int × List Int × Bool × Unit) × Int × List Int × Int × Unit
def B_Z33_L0b (k : Nat) (c_Z58 : C_Z58) (c_Z45 : C_Z45) (c_Z57 : C_Z57) (c_Z48 : C_Z48) (again0 : T_Z33_L0 → R_Z33) (ops : List (Int × Int)) (t2_Steps t2_Nodes t2_Deep : Int) (s_Kinds : List Int) (s_Full : List Bool) (s_Stack s_Memo : List Int) (s_Done : Bool) (deep : Int) (list : List Int) (i : Int) : R_Z33 :=
  bif decide (i < (len list)) then
    chk (inb i list.length) <|
    chk (decide (i.toNat < list.length)) <|
    again0 (ops, (t2_Steps, t2_Nodes, t2_Deep, (), ()), (s_Kinds, s_Full, s_Stack, s_Memo, s_Done, ()), (if (list.getD i.toNat (0 : Int)) > deep then (list.getD i.toNat (0 : Int)) else deep), list, w64 (i + 1), ())
  else
    (c_Z48 ops).bind fun r44 =>
    some (((len ops, len s_Kinds, deep, r44.1.1, ()), true, ()), ())
def B_Z33_L0 (k : Nat) (c_Z58 : C_Z58) (c_Z45 : C_Z45) (c_Z57 : C_Z57) (c_Z48 : C_Z48) (n : Nat) (t : T_Z33_L0) : R_Z33 :=
  lfix n (fun again t => B_Z33_L0b k c_Z58 c_Z45 c_Z57 c_Z48 again t.1 t.2.1.1 t.2.1.2.1 t.2.1.2.2.1 t.2.2.1.1 t.2.2.1.2.1 t.2.2.1.2.2.1 t.2.2.1.2.2.2.1 t.2.2.1.2.2.2.2.1 t.2.2.2.1 t.2.2.2.2.1 t.2.2.2.2.2.1) t
def B_Z33 (k : Nat) (c_Z58 : C_Z58) (c_Z45 : C_Z45) (c_Z57 : C_Z57) (c_Z48 : C_Z48) (ops : List (Int × Int)) : R_Z33 :=
  (c_Z58 ops).bind fun r10 =>
  bif (!r10.1.1) then
    some (((0, 0, 0, [], ()), false, ()), ())
  else
    (c_Z45 ops).bind fun r15 =>
    bif decide (r15.1.2.1 < (len ops)) then
      some (((0, 0, 0, [], ()), false, ()), ())
    else
      (c_Z57 ops).bind fun r24 =>
      B_Z33_L0 k c_Z58 c_Z45 c_Z57 c_Z48 k (ops, (0, 0, 0, (), ()), (r15.1.1.1, r15.1.1.2.1, r15.1.1.2.2.1, r15.1.1.2.2.2.1, r15.1.1.2.2.2.2.1, ()), 0, r24.1.1, 0, ())
def F_Z33 : Nat → C_Z33
  | 0, _ => none
  | k + 1, ops => B_Z33 k (F_Z58 k) (F_Z45 k) (F_Z57 k) (F_Z48 k) ops
theorem tot_Z33 {ops : _} {Q : _ → Prop} (h : Tot (fun σ => B_Z33 (σ 0) (F_Z58 (σ 0)) (F_Z45 (σ 0)) (F_Z57 (σ 0)) (F_Z48 (σ 0)) ops) Q) : Tot (fun σ => F_Z33 (σ 0) ops) Q :=
  Tot.call (F := fun k => F_Z33 k ops) (B := fun k => B_Z33 k (F_Z58 k) (F_Z45 k) (F_Z57 k) (F_Z48 k) ops) (fun k => rfl) h
abbrev A_Z33_L0 (Z : Type) : Type := (List (Int × Int)) → Int → Int → Int → List Int → List Bool → List Int → List Int → Bool → Int → List Int → Int → Z
abbrev u_Z33_L0 {Z : Type} (f : A_Z33_L0 Z) (t : T_Z33_L0) : Z := f t.1 t.2.1.1 t.2.1.2.1 t.2.1.2.2.1 t.2.2.1.1 t.2.2.1.2.1 t.2.2.1.2.2.1 t.2.2.1.2.2.2.1 t.2.2.1.2.2.2.2.1 t.2.2.2.1 t.2.2.2.2.1 t.2.2.2.2.2.1
theorem loop_Z33_L0 {Q : A_Z33_L0 ((((Int × Int × Int × List Int × Unit) × Bool × Unit) × (Unit)) → Prop)} (I : A_Z33_L0 Prop) (μ : A_Z33_L0 Nat)
    (step : ∀ a0 a1 a2 a3 a4 a5 a6 a7 a8 a9 a10 a11, I a0 a1 a2 a3 a4 a5 a6 a7 a8 a9 a10 a11 → ∀ again : (Nat → Nat) → T_Z33_L0 → R_Z33, Dep 2 again → (∀ y0 y1 y2 y3 y4 y5 y6 y7 y8 y9 y10 y11, I y0 y1 y2 y3 y4 y5 y6 y7 y8 y9 y10 y11 → μ y0 y1 y2 y3 y4 y5 y6 y7 y8 y9 y10 y11 < μ a0 a1 a2 a3 a4 a5 a6 a7 a8 a9 a10 a11 → Tot (fun σ => again σ (y0, (y1, y2, y3, (), ()), (y4, y5, y6, y7, y8, ()), y9, y10, y11, ())) (Q y0 y1 y2 y3 y4 y5 y6 y7 y8 y9 y10 y11)) →
      Tot (fun σ => B_Z33_L0b (σ 0) (F_Z58 (σ 0)) (F_Z45 (σ 0)) (F_Z57 (σ 0)) (F_Z48 (σ 0)) (again σ) a0 a1 a2 a3 a4 a5 a6 a7 a8 a9 a10 a11) (Q a0 a1 a2 a3 a4 a5 a6 a7 a8 a9 a10 a11)) :
    ∀ a0 a1 a2 a3 a4 a5 a6 a7 a8 a9 a10 a11, I a0 a1 a2 a3 a4 a5 a6 a7 a8 a9 a10 a11 → Tot (fun σ => B_Z33_L0 (σ 0) (F_Z58 (σ 0)) (F_Z45 (σ 0)) (F_Z57 (σ 0)) (F_Z48 (σ 0)) (σ 0) (a0, (a1, a2, a3, (), ()), (a4, a5, a6, a7, a8, ()), a9, a10, a11, ())) (Q a0 a1 a2 a3 a4 a5 a6 a7 a8 a9 a10 a11) := fun a0 a1 a2 a3 a4 a5 a6 a7 a8 a9 a10 a11 => Tot.loop0 (L := fun k => B_Z33_L0 k (F_Z58 k) (F_Z45 k) (F_Z57 k) (F_Z48 k)) (B := fun k g => u_Z33_L0 (B_Z33_L0b k (F_Z58 k) (F_Z45 k) (F_Z57 k) (F_Z48 k) g)) (Q := u_Z33_L0 Q) (fun _ _ _ => rfl) (u_Z33_L0 I) (u_Z33_L0 μ)
    (fun t ht again hag h => step t.1 t.2.1.1 t.2.1.2.1 t.2.1.2.2.1 t.2.2.1.1 t.2.2.1.2.1 t.2.2.1.2.2.1 t.2.2.1.2.2.2.1 t.2.2.1.2.2.2.2.1 t.2.2.2.1 t.2.2.2.2.1 t.2.2.2.2.2.1 ht again hag fun y0 y1 y2 y3 y4 y5 y6 y7 y8 y9 y10 y11 => h (y0, (y1, y2, y3, (), ()), (y4, y5, y6, y7, y8, ()), y9, y10, y11, ())) (a0, (a1, a2, a3, (), ()), (a4, a5, a6, a7, a8, ()), a9, a10, a11, ())
abbrev R_Z66 : Type := Option ((Int × Unit) × (Unit))
abbrev C_Z66 : Type := Int → R_Z66
def B_Z66_J0 (k : Nat) (t10 : Bool) : R_Z66 :=
  bif t10 then
    some ((19, ()), ())
  else
    some ((0, ()), ())
def B_Z66 (k : Nat) (code : Int) : R_Z66 :=
  bif (code == 0) then
    some ((999, ()), ())
  else
    bif (code == 1) then
      some ((9, ()), ())
    else
      bif (code == 13) then
        some ((9, ()), ())
      else
        bif (code == 15) then
          jn (fun t => B_Z66_J0 k t.1) ((code == 15), ())
        else
          jn (fun t => B_Z66_J0 k t.1) ((code == 16), ())
def F_Z66 : Nat → C_Z66
  | 0, _ => none
  | k + 1, code => B_Z66 k code
theorem tot_Z66 {code : _} {Q : _ → Prop} (h : Tot (fun σ => B_Z66 (σ 0) code) Q) : Tot (fun σ => F_Z66 (σ 0) code) Q :=
  Tot.call (F := fun k => F_Z66 k code) (B := fun k => B_Z66 k code) (fun k => rfl) h
abbrev R_i_opOk : Type := Option ((Bool × Unit) × (Unit))
abbrev C_i_opOk : Type := Int → Int → R_i_opOk
def B_i_opOk (k : Nat) (c_Z66 : C_Z66) (o_0 o_1 : Int) : R_i_opOk :=
  bif decide (o_0 ≥ 0) then
    bif decide (o_0 ≤ 19) then
      bif decide (o_1 ≥ 0) then
        (c_Z66 o_0).bind fun r21 =>
        some ((decide (o_1 ≤ r21.1.1), ()), ())
      else
        some ((false, ()), ())
    else
      some ((false, ()), ())
  else
    some ((false, ()), ())
def F_i_opOk : Nat → C_i_opOk
  | 0, _, _ => none
  | k + 1, o_0, o_1 => B_i_opOk k (F_Z66 k) o_0 o_1
theorem tot_i_opOk {o_0 o_1 : _} {Q : _ → Prop} (h : Tot (fun σ => B_i_opOk (σ 0) (F_Z66 (σ 0)) o_0 o_1) Q) : Tot (fun σ => F_i_opOk (σ 0) o_0 o_1) Q :=
  Tot.call (F := fun k => F_i_opOk k o_0 o_1) (B := fun k => B_i_opOk k (F_Z66 k) o_0 o_1) (fun k => rfl) h
abbrev R_Z51 : Type := Option ((Bool × Unit) × (Unit))
abbrev C_Z51 : Type := (List (Int × Int)) → R_Z51
abbrev T_Z51_L0 : Type := (List (Int × Int)) × (List (Int × Int)) × Int × Int × Unit
def B_Z51_L0b (k : Nat) (c_i_opOk : C_i_opOk) (again0 : T_Z51_L0 → R_Z51) (ops t5 : List (Int × Int)) (t6 t7 : Int) : R_Z51 :=
  bif decide (t7 < t6) then
    chk (inb t7 t5.length) <|
    (c_i_opOk ((rdx ((0 : Int), (0 : Int)) t5 t7).1) ((rdx ((0 : Int), (0 : Int)) t5 t7).2)).bind fun r12 =>
    bif (!r12.1.1) then
      some ((false, ()), ())
    else
      again0 (ops, t5, t6, w64 (t7 + 1), ())
  else
    some ((decide ((len ops) ≤ 300), ()), ())
def B_Z51_L0 (k : Nat) (c_i_opOk : C_i_opOk) (n : Nat) (t : T_Z51_L0) : R_Z51 :=
  lfix n (fun again t => B_Z51_L0b k c_i_opOk again t.1 t.2.1 t.2.2.1 t.2.2.2.1) t
def B_Z51 (k : Nat) (c_i_opOk : C_i_opOk) (ops : List (Int × Int)) : R_Z51 :=
  B_Z51_L0 k c_i_opOk k (ops, ops, len ops, 0, ())
def F_Z51 : Nat → C_Z51
  | 0, _ => none
  | k + 1, ops => B_Z51 k (F_i_opOk k) ops
theorem tot_Z51 {ops : _} {Q : _ → Prop} (h : Tot (fun σ => B_Z51 (σ 0) (F_i_opOk (σ 0)) ops) Q) : Tot (fun σ => F_Z51 (σ 0) ops) Q :=
  Tot.call (F := fun k => F_Z51 k ops) (B := fun k => B_Z51 k (F_i_opOk k) ops) (fun k => rfl) h
abbrev A_Z51_L0 (Z : Type) : Type := (List (Int × Int)) → (List (Int × Int)) → Int → Int → Z
abbrev u_Z51_L0 {Z : Type} (f : A_Z51_L0 Z) (t : T_Z51_L0) : Z := f t.1 t.2.1 t.2.2.1 t.2.2.2.1
theorem loop_Z51_L0 {Q : A_Z51_L0 (((Bool × Unit) × (Unit)) → Prop)} (I : A_Z51_L0 Prop) (μ : A_Z51_L0 Nat)
    (step : ∀ a0 a1 a2 a3, I a0 a1 a2 a3 → ∀ again : (Nat → Nat) → T_Z51_L0 → R_Z51, Dep 2 again → (∀ y0 y1 y2 y3, I y0 y1 y2 y3 → μ y0 y1 y2 y3 < μ a0 a1 a2 a3 → Tot (fun σ => again σ (y0, y1, y2, y3, ())) (Q y0 y1 y2 y3)) →
      Tot (fun σ => B_Z51_L0b (σ 0) (F_i_opOk (σ 0)) (again σ) a0 a1 a2 a3) (Q a0 a1 a2 a3)) :
    ∀ a0 a1 a2 a3, I a0 a1 a2 a3 → Tot (fun σ => B_Z51_L0 (σ 0) (F_i_opOk (σ 0)) (σ 0) (a0, a1, a2, a3, ())) (Q a0 a1 a2 a3) := fun a0 a1 a2 a3 => Tot.loop0 (L := fun k => B_Z51_L0 k (F_i_opOk k)) (B := fun k g => u_Z51_L0 (B_Z51_L0b k (F_i_opOk k) g)) (Q := u_Z51_L0 Q) (fun _ _ _ => rfl) (u_Z51_L0 I) (u_Z51_L0 μ)
    (fun t ht again hag h => step t.1 t.2.1 t.2.2.1 t.2.2.2.1 ht again hag fun y0 y1 y2 y3 => h (y0, y1, y2, y3, ())) (a0, a1, a2, a3, ())
abbrev R_Z40 : Type := Option ((((List (Int × Int × List Int)) × Unit × List Int × Bool × Unit) × Unit) × (Unit))
abbrev C_Z40 : Type := Int → R_Z40
abbrev T_Z40_L2 : Type := Int × (Unit × Unit × Unit × Bool × Unit) × (Unit × Unit × List Int × Bool × Unit) × Int × Int × Unit
def B_Z40_J1 (k : Nat) (again2 : T_Z40_L2 → R_Z40) (filled : Int) (t2_Done : Bool) (m_Memo : List Int) (m_Done : Bool) (t16 t17 : Int) : R_Z40 :=
  again2 (filled, ((), (), (), t2_Done, ()), ((), (), m_Memo, m_Done, ()), t16, w64 (t17 + 1), ())
def B_Z40_J3 (k : Nat) (t2_Done : Bool) (m_Nodes : List (Int × Int × List Int)) (m_Memo : List Int) (m_Done : Bool) : R_Z40 :=
  some (((m_Nodes, (), m_Memo, m_Done, ()), ()), ())
def B_Z40_L2b (k : Nat) (again2 : T_Z40_L2 → R_Z40) (filled : Int) (t2_Done : Bool) (m_Memo : List Int) (m_Done : Bool) (t16 t17 : Int) : R_Z40 :=
  bif decide (t17 < t16) then
    bif decide (t17 ≥ filled) then
      chk (inb t17 m_Memo.length) <|
      chk (decide (t17.toNat < m_Memo.length)) <|
      jn (fun t => B_Z40_J1 k again2 t.1 t.2.1.2.2.2.1 t.2.2.1.2.2.1 t.2.2.1.2.2.2.1 t.2.2.2.1 t.2.2.2.2.1) (filled, ((), (), (), t2_Done, ()), ((), (), (m_Memo.set t17.toNat (-1)), m_Done, ()), t16, t17, ())
    else
      jn (fun t => B_Z40_J1 k again2 t.1 t.2.1.2.2.2.1 t.2.2.1.2.2.1 t.2.2.1.2.2.2.1 t.2.2.2.1 t.2.2.2.2.1) (filled, ((), (), (), t2_Done, ()), ((), (), m_Memo, m_Done, ()), t16, t17, ())
  else
    bif (filled == 1) then
      jn (fun t => B_Z40_J3 k t.1.2.2.2.1 t.2.1.1 t.2.1.2.2.1 t.2.1.2.2.2.1) (((), (), (), t2_Done, ()), ([(0, (0, []))], (), m_Memo, m_Done, ()), ())
    else
      jn (fun t => B_Z40_J3 k t.1.2.2.2.1 t.2.1.1 t.2.1.2.2.1 t.2.1.2.2.2.1) (((), (), (), t2_Done, ()), ([], (), m_Memo, m_Done, ()), ())
def B_Z40_L2 (k : Nat) (n : Nat) (t : T_Z40_L2) : R_Z40 :=
  lfix n (fun again t => B_Z40_L2b k again t.1 t.2.1.2.2.2.1 t.2.2.1.2.2.1 t.2.2.1.2.2.2.1 t.2.2.2.1 t.2.2.2.2.1) t
def B_Z40_J0 (k : Nat) (filled : Int) (t2_Done t10 : Bool) : R_Z40 :=
  bif t10 then
    some ((([], (), [], false, ()), ()), ())
  else
    chk ((decide (0 ≤ 20 ∧ 20 ≤ (lim : Int)) && (20 == 20))) <|
    B_Z40_L2 k k (filled, ((), (), (), t2_Done, ()), ((), (), (List.replicate (20 : Int).toNat (0 : Int)), false, ()), len (List.replicate (20 : Int).toNat (0 : Int)), 0, ())
def B_Z40 (k : Nat) (filled : Int) : R_Z40 :=
  bif decide (filled < 0) then
    jn (fun t => B_Z40_J0 k t.1 t.2.1.2.2.2.1 t.2.2.1) (filled, ((), (), (), false, ()), true, ())
  else
    jn (fun t => B_Z40_J0 k t.1 t.2.1.2.2.2.1 t.2.2.1) (filled, ((), (), (), false, ()), decide (filled > 1), ())
def F_Z40 : Nat → C_Z40
  | 0, _ => none
  | k + 1, filled => B_Z40 k filled
theorem tot_Z40 {filled : _} {Q : _ → Prop} (h : Tot (fun σ => B_Z40 (σ 0) filled) Q) : Tot (fun σ => F_Z40 (σ 0) filled) Q :=
  Tot.call (F := fun k => F_Z40 k filled) (B := fun k => B_Z40 k filled) (fun k => rfl) h
abbrev A_Z40_L2 (Z : Type) : Type := Int → Bool → List Int → Bool → Int → Int → Z
abbrev u_Z40_L2 {Z : Type} (f : A_Z40_L2 Z) (t : T_Z40_L2) : Z := f t.1 t.2.1.2.2.2.1 t.2.2.1.2.2.1 t.2.2.1.2.2.2.1 t.2.2.2.1 t.2.2.2.2.1
theorem loop_Z40_L2 {Q : A_Z40_L2 (((((List (Int × Int × List Int)) × Unit × List Int × Bool × Unit) × Unit) × (Unit)) → Prop)} (I : A_Z40_L2 Prop) (μ : A_Z40_L2 Nat)
    (step : ∀ a0 a1 a2 a3 a4 a5, I a0 a1 a2 a3 a4 a5 → ∀ again : (Nat → Nat) → T_Z40_L2 → R_Z40, Dep 2 again → (∀ y0 y1 y2 y3 y4 y5, I y0 y1 y2 y3 y4 y5 → μ y0 y1 y2 y3 y4 y5 < μ a0 a1 a2 a3 a4 a5 → Tot (fun σ => again σ (y0, ((), (), (), y1, ()), ((), (), y2, y3, ()), y4, y5, ())) (Q y0 y1 y2 y3 y4 y5)) →
      Tot (fun σ => B_Z40_L2b (σ 0) (again σ) a0 a1 a2 a3 a4 a5) (Q a0 a1 a2 a3 a4 a5)) :
    ∀ a0 a1 a2 a3 a4 a5, I a0 a1 a2 a3 a4 a5 → Tot (fun σ => B_Z40_L2 (σ 0) (σ 0) (a0, ((), (), (), a1, ()), ((), (), a2, a3, ()), a4, a5, ())) (Q a0 a1 a2 a3 a4 a5) := fun a0 a1 a2 a3 a4 a5 => Tot.loop0 (L := fun k => B_Z40_L2 k) (B := fun k g => u_Z40_L2 (B_Z40_L2b k g)) (Q := u_Z40_L2 Q) (fun _ _ _ => rfl) (u_Z40_L2 I) (u_Z40_L2 μ)
    (fun t ht again hag h => step t.1 t.2.1.2.2.2.1 t.2.2.1.2.2.1 t.2.2.1.2.2.2.1 t.2.2.2.1 t.2.2.2.2.1 ht again hag fun y0 y1 y2 y3 y4 y5 => h (y0, ((), (), (), y1, ()), ((), (), y2, y3, ()), y4, y5, ())) (a0, ((), (), (), a1, ()), ((), (), a2, a3, ()), a4, a5, ())
abbrev R_Z18 : Type := Option ((List Int × Unit) × (Unit))
abbrev C_Z18 : Type := List Int → R_Z18
def B_Z18 (k : Nat) (s : List Int) : R_Z18 :=
  chk (room ([] : List Int).length s.length) <|
  some ((s, ()), ())
def F_Z18 : Nat → C_Z18
  | 0, _ => none
  | k + 1, s => B_Z18 k s
theorem tot_Z18 {s : _} {Q : _ → Prop} (h : Tot (fun σ => B_Z18 (σ 0) s) Q) : Tot (fun σ => F_Z18 (σ 0) s) Q :=
  Tot.call (F := fun k => F_Z18 k s) (B := fun k => B_Z18 k s) (fun k => rfl) h
abbrev R_Z22 : Type := Option ((Int × Unit) × (((List (Int × Int × List Int)) × List Int × List Int × Bool × Unit) × Unit))
abbrev C_Z22 : Type := (List (Int × Int × List Int)) → List Int → List Int → Bool → R_Z22
abbrev T_Z22_L1 : Type := ((List (Int × Int × List Int)) × List Int × List Int × Bool × Unit) × Int × Unit
def B_Z22_J0 (k : Nat) (again1 : T_Z22_L1 → R_Z22) (m_Nodes : List (Int × Int × List Int)) (m_Stack m_Memo : List Int) (m_Done : Bool) (n3 : Int) (t27 : Bool) : R_Z22 :=
  bif t27 then
    again1 ((m_Nodes, m_Stack, m_Memo, m_Done, ()), w64 (n3 + 1), ())
  else
    some ((n3, ()), ((m_Nodes, m_Stack, m_Memo, m_Done, ()), ()))
def B_Z22_L1b (k : Nat) (again1 : T_Z22_L1 → R_Z22) (m_Nodes : List (Int × Int × List Int)) (m_Stack m_Memo : List Int) (m_Done : Bool) (n3 : Int) : R_Z22 :=
  bif decide (n3 < (len m_Stack)) then
    chk (inb (w64 ((w64 ((len m_Stack) - 1)) - n3)) m_Stack.length) <|
    chk (decide ((w64 ((w64 ((len m_Stack) - 1)) - n3)).toNat < m_Stack.length)) <|
    jn (fun t => B_Z22_J0 k again1 t.1.1 t.1.2.1 t.1.2.2.1 t.1.2.2.2.1 t.2.1 t.2.2.1) ((m_Nodes, m_Stack, m_Memo, m_Done, ()), n3, decide ((m_Stack.getD ((w64 ((w64 ((len m_Stack) - 1)) - n3)).toNat) (0 : Int)) ≥ 0), ())
  else
    jn (fun t => B_Z22_J0 k again1 t.1.1 t.1.2.1 t.1.2.2.1 t.1.2.2.2.1 t.2.1 t.2.2.1) ((m_Nodes, m_Stack, m_Memo, m_Done, ()), n3, false, ())
def B_Z22_L1 (k : Nat) (n : Nat) (t : T_Z22_L1) : R_Z22 :=
  lfix n (fun again t => B_Z22_L1b k again t.1.1 t.1.2.1 t.1.2.2.1 t.1.2.2.2.1 t.2.1) t
def B_Z22 (k : Nat) (m_Nodes : List (Int × Int × List Int)) (m_Stack m_Memo : List Int) (m_Done : Bool) : R_Z22 :=
  B_Z22_L1 k k ((m_Nodes, m_Stack, m_Memo, m_Done, ()), 0, ())
def F_Z22 : Nat → C_Z22
  | 0, _, _, _, _ => none
  | k + 1, m_Nodes, m_Stack, m_Memo, m_Done => B_Z22 k m_Nodes m_Stack m_Memo m_Done
theorem tot_Z22 {m_Nodes m_Stack m_Memo m_Done : _} {Q : _ → Prop} (h : Tot (fun σ => B_Z22 (σ 0) m_Nodes m_Stack m_Memo m_Done) Q) : Tot (fun σ => F_Z22 (σ 0) m_Nodes m_Stack m_Memo m_Done) Q :=
  Tot.call (F := fun k => F_Z22 k m_Nodes m_Stack m_Memo m_Done) (B := fun k => B_Z22 k m_Nodes m_Stack m_Memo m_Done) (fun k => rfl) h
abbrev A_Z22_L1 (Z : Type) : Type := (List (Int × Int × List Int)) → List Int → List Int → Bool → Int → Z
abbrev u_Z22_L1 {Z : Type} (f : A_Z22_L1 Z) (t : T_Z22_L1) : Z := f t.1.1 t.1.2.1 t.1.2.2.1 t.1.2.2.2.1 t.2.1
theorem loop_Z22_L1 {Q : A_Z22_L1 (((Int × Unit) × (((List (Int × Int × List Int)) × List Int × List Int × Bool × Unit) × Unit)) → Prop)} (I : A_Z22_L1 Prop) (μ : A_Z22_L1 Nat)
    (step : ∀ a0 a1 a2 a3 a4, I a0 a1 a2 a3 a4 → ∀ again : (Nat → Nat) → T_Z22_L1 → R_Z22, Dep 2 again → (∀ y0 y1 y2 y3 y4, I y0 y1 y2 y3 y4 → μ y0 y1 y2 y3 y4 < μ a0 a1 a2 a3 a4 → Tot (fun σ => again σ ((y0, y1, y2, y3, ()), y4, ())) (Q y0 y1 y2 y3 y4)) →
      Tot (fun σ => B_Z22_L1b (σ 0) (again σ) a0 a1 a2 a3 a4) (Q a0 a1 a2 a3 a4)) :
    ∀ a0 a1 a2 a3 a4, I a0 a1 a2 a3 a4 → Tot (fun σ => B_Z22_L1 (σ 0) (σ 0) ((a0, a1, a2, a3, ()), a4, ())) (Q a0 a1 a2 a3 a4) := fun a0 a1 a2 a3 a4 => Tot.loop0 (L := fun k => B_Z22_L1 k) (B := fun k g => u_Z22_L1 (B_Z22_L1b k g)) (Q := u_Z22_L1 Q) (fun _ _ _ => rfl) (u_Z22_L1 I) (u_Z22_L1 μ)
    (fun t ht again hag h => step t.1.1 t.1.2.1 t.1.2.2.1 t.1.2.2.2.1 t.2.1 ht again hag fun y0 y1 y2 y3 y4 => h ((y0, y1, y2, y3, ()), y4, ())) ((a0, a1, a2, a3, ()), a4, ())
abbrev R_Z24 : Type := Option ((Bool × Unit) × (((List (Int × Int × List Int)) × List Int × List Int × Bool × Unit) × Unit))
abbrev C_Z24 : Type := (List (Int × Int × List Int)) → List Int → List Int → Bool → Int → R_Z24
def B_Z24 (k : Nat) (m_Nodes : List (Int × Int × List Int)) (m_Stack m_Memo : List Int) (m_Done : Bool) (i : Int) : R_Z24 :=
  chk (room m_Stack.length ([i]).length) <|
  some ((decide ((len (m_Stack ++ [i])) ≤ 300), ()), ((m_Nodes, (m_Stack ++ [i]), m_Memo, m_Done, ()), ()))
def F_Z24 : Nat → C_Z24
  | 0, _, _, _, _, _ => none
  | k + 1, m_Nodes, m_Stack, m_Memo, m_Done, i => B_Z24 k m_Nodes m_Stack m_Memo m_Done i
theorem tot_Z24 {m_Nodes m_Stack m_Memo m_Done i : _} {Q : _ → Prop} (h : Tot (fun σ => B_Z24 (σ 0) m_Nodes m_Stack m_Memo m_Done i) Q) : Tot (fun σ => F_Z24 (σ 0) m_Nodes m_Stack m_Memo m_Done i) Q :=
  Tot.call (F := fun k => F_Z24 k m_Nodes m_Stack m_Memo m_Done i) (B := fun k => B_Z24 k m_Nodes m_Stack m_Memo m_Done i) (fun k => rfl) h
abbrev R_Z25 : Type := Option ((Bool × Unit) × (((List (Int × Int × List Int)) × List Int × List Int × Bool × Unit) × Unit))
abbrev C_Z25 : Type := (List (Int × Int × List Int)) → List Int → List Int → Bool → Int → Int → List Int → R_Z25
def B_Z25 (k : Nat) (c_Z18 : C_Z18) (c_Z24 : C_Z24) (m_Nodes : List (Int × Int × List Int)) (m_Stack m_Memo : List Int) (m_Done : Bool) (kind value : Int) (kids : List Int) : R_Z25 :=
  (c_Z18 kids).bind fun r17 =>
  chk (room m_Nodes.length ([(kind, (value, r17.1.1))]).length) <|
  bif decide ((len (m_Nodes ++ [(kind, (value, r17.1.1))])) ≤ 300) then
    (c_Z24 (m_Nodes ++ [(kind, (value, r17.1.1))]) m_Stack m_Memo m_Done (w64 ((len (m_Nodes ++ [(kind, (value, r17.1.1))])) - 1))).bind fun r37 =>
    some ((r37.1.1, ()), ((r37.2.1.1, r37.2.1.2.1, r37.2.1.2.2.1, r37.2.1.2.2.2.1, ()), ()))
  else
    some ((false, ()), (((m_Nodes ++ [(kind, (value, r17.1.1))]), m_Stack, m_Memo, m_Done, ()), ()))
def F_Z25 : Nat → C_Z25
  | 0, _, _, _, _, _, _, _ => none
  | k + 1, m_Nodes, m_Stack, m_Memo, m_Done, kind, value, kids => B_Z25 k (F_Z18 k) (F_Z24 k) m_Nodes m_Stack m_Memo m_Done kind value kids
theorem tot_Z25 {m_Nodes m_Stack m_Memo m_Done kind value kids : _} {Q : _ → Prop} (h : Tot (fun σ => B_Z25 (σ 0) (F_Z18 (σ 0)) (F_Z24 (σ 0)) m_Nodes m_Stack m_Memo m_Done kind value kids) Q) : Tot (fun σ => F_Z25 (σ 0) m_Nodes m_Stack m_Memo m_Done kind value kids) Q :=
  Tot.call (F := fun k => F_Z25 k m_Nodes m_Stack m_Memo m_Done kind value kids) (B := fun k => B_Z25 k (F_Z18 k) (F_Z24 k) m_Nodes m_Stack m_Memo m_Done kind value kids) (fun k => rfl) h
abbrev R_Z27 : Type := Option ((List Int × Unit) × (((List (Int × Int × List Int)) × List Int × List Int × Bool × Unit) × Unit))
abbrev C_Z27 : Type := (List (Int × Int × List Int)) → List Int → List Int → Bool → Int → R_Z27
def B_Z27 (k : Nat) (c_Z18 : C_Z18) (m_Nodes : List (Int × Int × List Int)) (m_Stack m_Memo : List Int) (m_Done : Bool) (n1 : Int) : R_Z27 :=
  chk (cutb (w64 ((len m_Stack) - n1)) (len m_Stack) m_Stack.length) <|
  (c_Z18 ((m_Stack.take ((len m_Stack).toNat)).drop ((w64 ((len m_Stack) - n1)).toNat))).bind fun r20 =>
  chk (cutb 0 (w64 ((len m_Stack) - n1)) m_Stack.length) <|
  some ((r20.1.1, ()), ((m_Nodes, (m_Stack.take ((w64 ((len m_Stack) - n1)).toNat)), m_Memo, m_Done, ()), ()))
def F_Z27 : Nat → C_Z27
  | 0, _, _, _, _, _ => none
  | k + 1, m_Nodes, m_Stack, m_Memo, m_Done, n1 => B_Z27 k (F_Z18 k) m_Nodes m_Stack m_Memo m_Done n1
theorem tot_Z27 {m_Nodes m_Stack m_Memo m_Done n1 : _} {Q : _ → Prop} (h : Tot (fun σ => B_Z27 (σ 0) (F_Z18 (σ 0)) m_Nodes m_Stack m_Memo m_Done n1) Q) : Tot (fun σ => F_Z27 (σ 0) m_Nodes m_Stack m_Memo m_Done n1) Q :=
  Tot.call (F := fun k => F_Z27 k m_Nodes m_Stack m_Memo m_Done n1) (B := fun k => B_Z27 k (F_Z18 k) m_Nodes m_Stack m_Memo m_Done n1) (fun k => rfl) h
abbrev R_Z23 : Type := Option ((List Int × Bool × Unit) × (((List (Int × Int × List Int)) × List Int × List Int × Bool × Unit) × Unit))
abbrev C_Z23 : Type := (List (Int × Int × List Int)) → List Int → List Int → Bool → R_Z23
def B_Z23 (k : Nat) (c_Z22 : C_Z22) (c_Z27 : C_Z27) (m_Nodes : List (Int × Int × List Int)) (m_Stack m_Memo : List Int) (m_Done : Bool) : R_Z23 :=
  (c_Z22 m_Nodes m_Stack m_Memo m_Done).bind fun r6 =>
  bif (r6.1.1 == (len r6.2.1.2.1)) then
    some (([], false, ()), ((r6.2.1.1, r6.2.1.2.1, r6.2.1.2.2.1, r6.2.1.2.2.2.1, ()), ()))
  else
    (c_Z27 r6.2.1.1 r6.2.1.2.1 r6.2.1.2.2.1 r6.2.1.2.2.2.1 (w64 (r6.1.1 + 1))).bind fun r17 =>
    chk (cutb 1 (len r17.1.1) r17.1.1.length) <|
    some ((((r17.1.1.take ((len r17.1.1).toNat)).drop ((1 : Int).toNat)), true, ()), ((r17.2.1.1, r17.2.1.2.1, r17.2.1.2.2.1, r17.2.1.2.2.2.1, ()), ()))
def F_Z23 : Nat → C_Z23
  | 0, _, _, _, _ => none
  | k + 1, m_Nodes, m_Stack, m_Memo, m_Done => B_Z23 k (F_Z22 k) (F_Z27 k) m_Nodes m_Stack m_Memo m_Done
theorem tot_Z23 {m_Nodes m_Stack m_Memo m_Done : _} {Q : _ → Prop} (h : Tot (fun σ => B_Z23 (σ 0) (F_Z22 (σ 0)) (F_Z27 (σ 0)) m_Nodes m_Stack m_Memo m_Done) Q) : Tot (fun σ => F_Z23 (σ 0) m_Nodes m_Stack m_Memo m_Done) Q :=
  Tot.call (F := fun k => F_Z23 k m_Nodes m_Stack m_Memo m_Done) (B := fun k => B_Z23 k (F_Z22 k) (F_Z27 k) m_Nodes m_Stack m_Memo m_Done) (fun k => rfl) h
abbrev R_Z31 : Type := Option ((Option Nat × Bool × Unit) × (((List (Int × Int × List Int)) × List Int × List Int × Bool × Unit) × Unit))
abbrev C_Z31 : Type := (List (Int × Int × List Int)) → List Int → List Int → Bool → Int → R_Z31
def B_Z31 (k : Nat) (c_Z22 : C_Z22) (m_Nodes : List (Int × Int × List Int)) (m_Stack m_Memo : List Int) (m_Done : Bool) (kind : Int) : R_Z31 :=
  (c_Z22 m_Nodes m_Stack m_Memo m_Done).bind fun r8 =>
  bif (r8.1.1 == 0) then
    some ((none, false, ()), ((r8.2.1.1, r8.2.1.2.1, r8.2.1.2.2.1, r8.2.1.2.2.2.1, ()), ()))
  else
    chk (inb (w64 ((len r8.2.1.2.1) - 1)) r8.2.1.2.1.length) <|
    chk (decide ((w64 ((len r8.2.1.2.1) - 1)).toNat < r8.2.1.2.1.length)) <|
    chk (inb (r8.2.1.2.1.getD ((w64 ((len r8.2.1.2.1) - 1)).toNat) (0 : Int)) r8.2.1.1.length) <|
    chk (decide ((r8.2.1.2.1.getD ((w64 ((len r8.2.1.2.1) - 1)).toNat) (0 : Int)).toNat < r8.2.1.1.length)) <|
    let v31 : Int := (r8.2.1.1.getD ((r8.2.1.2.1.getD ((w64 ((len r8.2.1.2.1) - 1)).toNat) (0 : Int)).toNat) ((0 : Int), ((0 : Int), ([] : List Int)))).1
    some (((some ((r8.2.1.2.1.getD ((w64 ((len r8.2.1.2.1) - 1)).toNat) (0 : Int)).toNat)), (v31 == kind), ()), ((r8.2.1.1, r8.2.1.2.1, r8.2.1.2.2.1, r8.2.1.2.2.2.1, ()), ()))
def F_Z31 : Nat → C_Z31
  | 0, _, _, _, _, _ => none
  | k + 1, m_Nodes, m_Stack, m_Memo, m_Done, kind => B_Z31 k (F_Z22 k) m_Nodes m_Stack m_Memo m_Done kind
theorem tot_Z31 {m_Nodes m_Stack m_Memo m_Done kind : _} {Q : _ → Prop} (h : Tot (fun σ => B_Z31 (σ 0) (F_Z22 (σ 0)) m_Nodes m_Stack m_Memo m_Done kind) Q) : Tot (fun σ => F_Z31 (σ 0) m_Nodes m_Stack m_Memo m_Done kind) Q :=
  Tot.call (F := fun k => F_Z31 k m_Nodes m_Stack m_Memo m_Done kind) (B := fun k => B_Z31 k (F_Z22 k) m_Nodes m_Stack m_Memo m_Done kind) (fun k => rfl) h
abbrev R_Z63 : Type := Option ((Int × Unit) × (Unit))
abbrev C_Z63 : Type := (List (Int × Int × List Int)) → List Int → Int → Int → R_Z63
abbrev T_Z63_L1 : Type := (List (Int × Int × List Int)) × List Int × (Int × Int × Unit × Unit) × Int × Unit
def B_Z63_J0 (k : Nat) (again1 : T_Z63_L1 → R_Z63) (nodes : List (Int × Int × List Int)) (kids : List Int) (key_Kind key_Value i : Int) (t33 : Bool) : R_Z63 :=
  bif t33 then
    some ((i, ()), ())
  else
    again1 (nodes, kids, (key_Kind, key_Value, (), ()), w64 (i + 2), ())
def B_Z63_L1b (k : Nat) (again1 : T_Z63_L1 → R_Z63) (nodes : List (Int × Int × List Int)) (kids : List Int) (key_Kind key_Value i : Int) : R_Z63 :=
  bif decide (i < (len kids)) then
    chk (inb i kids.length) <|
    chk (inb (rdx (0 : Int) kids i) nodes.length) <|
    let v26 : Bool := (((rdx ((0 : Int), ((0 : Int), ([] : List Int))) nodes (rdx (0 : Int) kids i)).1) == key_Kind)
    bif v26 then
      let v32 : Bool := ((((rdx ((0 : Int), ((0 : Int), ([] : List Int))) nodes (rdx (0 : Int) kids i)).2).1) == key_Value)
      jn (fun t => B_Z63_J0 k again1 t.1 t.2.1 t.2.2.1.1 t.2.2.1.2.1 t.2.2.2.1 t.2.2.2.2.1) (nodes, kids, (key_Kind, key_Value, (), ()), i, v32, ())
    else
      jn (fun t => B_Z63_J0 k again1 t.1 t.2.1 t.2.2.1.1 t.2.2.1.2.1 t.2.2.2.1 t.2.2.2.2.1) (nodes, kids, (key_Kind, key_Value, (), ()), i, false, ())
  else
    some (((-1), ()), ())
def B_Z63_L1 (k : Nat) (n : Nat) (t : T_Z63_L1) : R_Z63 :=
  lfix n (fun again t => B_Z63_L1b k again t.1 t.2.1 t.2.2.1.1 t.2.2.1.2.1 t.2.2.2.1) t
def B_Z63 (k : Nat) (nodes : List (Int × Int × List Int)) (kids : List Int) (key_0 key_1 : Int) : R_Z63 :=
  B_Z63_L1 k k (nodes, kids, (key_0, key_1, (), ()), 0, ())
def F_Z63 : Nat → C_Z63
  | 0, _, _, _, _ => none
  | k + 1, nodes, kids, key_0, key_1 => B_Z63 k nodes kids key_0 key_1
theorem tot_Z63 {nodes kids key_0 key_1 : _} {Q : _ → Prop} (h : Tot (fun σ => B_Z63 (σ 0) nodes kids key_0 key_1) Q) : Tot (fun σ => F_Z63 (σ 0) nodes kids key_0 key_1) Q :=
  Tot.call (F := fun k => F_Z63 k nodes kids key_0 key_1) (B := fun k => B_Z63 k nodes kids key_0 key_1) (fun k => rfl) h
abbrev A_Z63_L1 (Z : Type) : Type := (List (Int × Int × List Int)) → List Int → Int → Int → Int → Z
abbrev u_Z63_L1 {Z : Type} (f : A_Z63_L1 Z) (t : T_Z63_L1) : Z := f t.1 t.2.1 t.2.2.1.1 t.2.2.1.2.1 t.2.2.2.1
theorem loop_Z63_L1 {Q : A_Z63_L1 (((Int × Unit) × (Unit)) → Prop)} (I : A_Z63_L1 Prop) (μ : A_Z63_L1 Nat)
    (step : ∀ a0 a1 a2 a3 a4, I a0 a1 a2 a3 a4 → ∀ again : (Nat → Nat) → T_Z63_L1 → R_Z63, Dep 2 again → (∀ y0 y1 y2 y3 y4, I y0 y1 y2 y3 y4 → μ y0 y1 y2 y3 y4 < μ a0 a1 a2 a3 a4 → Tot (fun σ => again σ (y0, y1, (y2, y3, (), ()), y4, ())) (Q y0 y1 y2 y3 y4)) →
      Tot (fun σ => B_Z63_L1b (σ 0) (again σ) a0 a1 a2 a3 a4) (Q a0 a1 a2 a3 a4)) :
    ∀ a0 a1 a2 a3 a4, I a0 a1 a2 a3 a4 → Tot (fun σ => B_Z63_L1 (σ 0) (σ 0) (a0, a1, (a2, a3, (), ()), a4, ())) (Q a0 a1 a2 a3 a4) := fun a0 a1 a2 a3 a4 => Tot.loop0 (L := fun k => B_Z63_L1 k) (B := fun k g => u_Z63_L1 (B_Z63_L1b k g)) (Q := u_Z63_L1 Q) (fun _ _ _ => rfl) (u_Z63_L1 I) (u_Z63_L1 μ)
    (fun t ht again hag h => step t.1 t.2.1 t.2.2.1.1 t.2.2.1.2.1 t.2.2.2.1 ht again hag fun y0 y1 y2 y3 y4 => h (y0, y1, (y2, y3, (), ()), y4, ())) (a0, a1, (a2, a3, (), ()), a4, ())
abbrev R_Z29 : Type := Option ((Bool × Unit) × (((List (Int × Int × List Int)) × List Int × List Int × Bool × Unit) × Unit))
abbrev C_Z29 : Type := (List (Int × Int × List Int)) → List Int → List Int → Bool → List Int → R_Z29
abbrev T_Z29_L3 : Type := ((List (Int × Int × List Int)) × List Int × List Int × Bool × Unit) × List Int × Int × Option Nat × Unit
abbrev T_Z29_L1 : Type := ((List (Int × Int × List Int)) × List Int × List Int × Bool × Unit) × List Int × Int × Option Nat × Unit
def B_Z29_J2 (k : Nat) (c_Z31 : C_Z31) (c_Z63 : C_Z63) (again3 : T_Z29_L3 → R_Z29) (m_Nodes : List (Int × Int × List Int)) (m_Stack m_Memo : List Int) (m_Done : Bool) (pairs : List Int) (i : Int) (x : Option Nat) : R_Z29 :=
  again3 ((m_Nodes, m_Stack, m_Memo, m_Done, ()), pairs, w64 (i + 2), x, ())
def B_Z29_L3b (k : Nat) (c_Z31 : C_Z31) (c_Z63 : C_Z63) (again3 : T_Z29_L3 → R_Z29) (m_Nodes : List (Int × Int × List Int)) (m_Stack m_Memo : List Int) (m_Done : Bool) (pairs : List Int) (i : Int) (x : Option Nat) : R_Z29 :=
  bif decide (i < (len pairs)) then
    chk (inb i pairs.length) <|
    chk (inb (rdx (0 : Int) pairs i) m_Nodes.length) <|
    chk (decide ((rdx (0 : Int) pairs i).toNat < m_Nodes.length)) <|
    (x).bind fun p16 =>
    chk (decide (p16 < m_Nodes.length)) <|
    (c_Z63 (m_Nodes.set p16 ((m_Nodes.getD p16 ((0 : Int), ((0 : Int), ([] : List Int)))).1, (((m_Nodes.getD p16 ((0 : Int), ((0 : Int), ([] : List Int)))).2).1, ((m_Nodes.getD p16 ((0 : Int), ((0 : Int), ([] : List Int)))).2).2))) (((m_Nodes.getD p16 ((0 : Int), ((0 : Int), ([] : List Int)))).2).2) ((m_Nodes.getD ((rdx (0 : Int) pairs i).toNat) ((0 : Int), ((0 : Int), ([] : List Int)))).1) (((m_Nodes.getD ((rdx (0 : Int) pairs i).toNat) ((0 : Int), ((0 : Int), ([] : List Int)))).2).1)).bind fun r67 =>
    bif decide (r67.1.1 ≥ 0) then
      (x).bind fun p17 =>
      chk (decide (p17 < (m_Nodes.set p16 ((m_Nodes.getD p16 ((0 : Int), ((0 : Int), ([] : List Int)))).1, (((m_Nodes.getD p16 ((0 : Int), ((0 : Int), ([] : List Int)))).2).1, ((m_Nodes.getD p16 ((0 : Int), ((0 : Int), ([] : List Int)))).2).2))).length)) <|
      chk (inb (w64 (i + 1)) pairs.length) <|
      chk (inb (w64 (r67.1.1 + 1)) ((((m_Nodes.set p16 ((m_Nodes.getD p16 ((0 : Int), ((0 : Int), ([] : List Int)))).1, (((m_Nodes.getD p16 ((0 : Int), ((0 : Int), ([] : List Int)))).2).1, ((m_Nodes.getD p16 ((0 : Int), ((0 : Int), ([] : List Int)))).2).2))).getD p17 ((0 : Int), ((0 : Int), ([] : List Int)))).2).2).length) <|
      chk (decide ((w64 (r67.1.1 + 1)).toNat < ((((m_Nodes.set p16 ((m_Nodes.getD p16 ((0 : Int), ((0 : Int), ([] : List Int)))).1, (((m_Nodes.getD p16 ((0 : Int), ((0 : Int), ([] : List Int)))).2).1, ((m_Nodes.getD p16 ((0 : Int), ((0 : Int), ([] : List Int)))).2).2))).getD p17 ((0 : Int), ((0 : Int), ([] : List Int)))).2).2).length)) <|
      let w18 : List (Int × Int × List Int) := ((m_Nodes.set p16 ((m_Nodes.getD p16 ((0 : Int), ((0 : Int), ([] : List Int)))).1, (((m_Nodes.getD p16 ((0 : Int), ((0 : Int), ([] : List Int)))).2).1, ((m_Nodes.getD p16 ((0 : Int), ((0 : Int), ([] : List Int)))).2).2))).set p17 (((m_Nodes.set p16 ((m_Nodes.getD p16 ((0 : Int), ((0 : Int), ([] : List Int)))).1, (((m_Nodes.getD p16 ((0 : Int), ((0 : Int), ([] : List Int)))).2).1, ((m_Nodes.getD p16 ((0 : Int), ((0 : Int), ([] : List Int)))).2).2))).getD p17 ((0 : Int), ((0 : Int), ([] : List Int)))).1, ((((m_Nodes.set p16 ((m_Nodes.getD p16 ((0 : Int), ((0 : Int), ([] : List Int)))).1, (((m_Nodes.getD p16 ((0 : Int), ((0 : Int), ([] : List Int)))).2).1, ((m_Nodes.getD p16 ((0 : Int), ((0 : Int), ([] : List Int)))).2).2))).getD p17 ((0 : Int), ((0 : Int), ([] : List Int)))).2).1, (((((m_Nodes.set p16 ((m_Nodes.getD p16 ((0 : Int), ((0 : Int), ([] : List Int)))).1, (((m_Nodes.getD p16 ((0 : Int), ((0 : Int), ([] : List Int)))).2).1, ((m_Nodes.getD p16 ((0 : Int), ((0 : Int), ([] : List Int)))).2).2))).getD p17 ((0 : Int), ((0 : Int), ([] : List Int)))).2).2).set ((w64 (r67.1.1 + 1)).toNat) (rdx (0 : Int) pairs (w64 (i + 1)))))))
      jn (fun t => B_Z29_J2 k c_Z31 c_Z63 again3 t.1.1 t.1.2.1 t.1.2.2.1 t.1.2.2.2.1 t.2.1 t.2.2.1 t.2.2.2.1) ((w18, m_Stack, m_Memo, m_Done, ()), pairs, i, x, ())
    else
      (x).bind fun p19 =>
      chk (decide (p19 < (m_Nodes.set p16 ((m_Nodes.getD p16 ((0 : Int), ((0 : Int), ([] : List Int)))).1, (((m_Nodes.getD p16 ((0 : Int), ((0 : Int), ([] : List Int)))).2).1, ((m_Nodes.getD p16 ((0 : Int), ((0 : Int), ([] : List Int)))).2).2))).length)) <|
      chk (inb i pairs.length) <|
      chk (inb (w64 (i + 1)) pairs.length) <|
      chk (room ((((m_Nodes.set p16 ((m_Nodes.getD p16 ((0 : Int), ((0 : Int), ([] : List Int)))).1, (((m_Nodes.getD p16 ((0 : Int), ((0 : Int), ([] : List Int)))).2).1, ((m_Nodes.getD p16 ((0 : Int), ((0 : Int), ([] : List Int)))).2).2))).getD p19 ((0 : Int), ((0 : Int), ([] : List Int)))).2).2).length ([(rdx (0 : Int) pairs i), (rdx (0 : Int) pairs (w64 (i + 1)))]).length) <|
      (x).bind fun p20 =>
      chk (decide (p20 = p19)) <|
      let w21 : List (Int × Int × List Int) := ((m_Nodes.set p16 ((m_Nodes.getD p16 ((0 : Int), ((0 : Int), ([] : List Int)))).1, (((m_Nodes.getD p16 ((0 : Int), ((0 : Int), ([] : List Int)))).2).1, ((m_Nodes.getD p16 ((0 : Int), ((0 : Int), ([] : List Int)))).2).2))).set p20 (((m_Nodes.set p16 ((m_Nodes.getD p16 ((0 : Int), ((0 : Int), ([] : List Int)))).1, (((m_Nodes.getD p16 ((0 : Int), ((0 : Int), ([] : List Int)))).2).1, ((m_Nodes.getD p16 ((0 : Int), ((0 : Int), ([] : List Int)))).2).2))).getD p20 ((0 : Int), ((0 : Int), ([] : List Int)))).1, ((((m_Nodes.set p16 ((m_Nodes.getD p16 ((0 : Int), ((0 : Int), ([] : List Int)))).1, (((m_Nodes.getD p16 ((0 : Int), ((0 : Int), ([] : List Int)))).2).1, ((m_Nodes.getD p16 ((0 : Int), ((0 : Int), ([] : List Int)))).2).2))).getD p20 ((0 : Int), ((0 : Int), ([] : List Int)))).2).1, ((((m_Nodes.set p16 ((m_Nodes.getD p16 ((0 : Int), ((0 : Int), ([] : List Int)))).1, (((m_Nodes.getD p16 ((0 : Int), ((0 : Int), ([] : List Int)))).2).1, ((m_Nodes.getD p16 ((0 : Int), ((0 : Int), ([] : List Int)))).2).2))).getD p19 ((0 : Int), ((0 : Int), ([] : List Int)))).2).2 ++ [(rdx (0 : Int) pairs i), (rdx (0 : Int) pairs (w64 (i + 1)))]))))
      jn (fun t => B_Z29_J2 k c_Z31 c_Z63 again3 t.1.1 t.1.2.1 t.1.2.2.1 t.1.2.2.2.1 t.2.1 t.2.2.1 t.2.2.2.1) ((w21, m_Stack, m_Memo, m_Done, ()), pairs, i, x, ())
  else
    some ((true, ()), ((m_Nodes, m_Stack, m_Memo, m_Done, ()), ()))
def B_Z29_L3 (k : Nat) (c_Z31 : C_Z31) (c_Z63 : C_Z63) (n : Nat) (t : T_Z29_L3) : R_Z29 :=
  lfix n (fun again t => B_Z29_L3b k c_Z31 c_Z63 again t.1.1 t.1.2.1 t.1.2.2.1 t.1.2.2.2.1 t.2.1 t.2.2.1 t.2.2.2.1) t
def B_Z29_L1b (k : Nat) (c_Z31 : C_Z31) (c_Z63 : C_Z63) (again1 : T_Z29_L1 → R_Z29) (m_Nodes : List (Int × Int × List Int)) (m_Stack m_Memo : List Int) (m_Done : Bool) (pairs : List Int) (i : Int) (x : Option Nat) : R_Z29 :=
  bif decide (i < (len pairs)) then
    chk (inb i pairs.length) <|
    chk (inb (rdx (0 : Int) pairs i) m_Nodes.length) <|
    chk (decide ((rdx (0 : Int) pairs i).toNat < m_Nodes.length)) <|
    let v41 : Bool := decide (((m_Nodes.getD ((rdx (0 : Int) pairs i).toNat) ((0 : Int), ((0 : Int), ([] : List Int)))).1) > 1)
    bif v41 then
      some ((false, ()), ((m_Nodes, m_Stack, m_Memo, m_Done, ()), ()))
    else
      again1 ((m_Nodes, m_Stack, m_Memo, m_Done, ()), pairs, w64 (i + 2), x, ())
  else
    B_Z29_L3 k c_Z31 c_Z63 k ((m_Nodes, m_Stack, m_Memo, m_Done, ()), pairs, 0, x, ())
def B_Z29_L1 (k : Nat) (c_Z31 : C_Z31) (c_Z63 : C_Z63) (n : Nat) (t : T_Z29_L1) : R_Z29 :=
  lfix n (fun again t => B_Z29_L1b k c_Z31 c_Z63 again t.1.1 t.1.2.1 t.1.2.2.1 t.1.2.2.2.1 t.2.1 t.2.2.1 t.2.2.2.1) t
def B_Z29_J0 (k : Nat) (c_Z31 : C_Z31) (c_Z63 : C_Z63) (m_Nodes : List (Int × Int × List Int)) (m_Stack m_Memo : List Int) (m_Done : Bool) (pairs : List Int) (t23 : Bool) (x : Option Nat) : R_Z29 :=
  bif t23 then
    some ((false, ()), ((m_Nodes, m_Stack, m_Memo, m_Done, ()), ()))
  else
    B_Z29_L1 k c_Z31 c_Z63 k ((m_Nodes, m_Stack, m_Memo, m_Done, ()), pairs, 0, x, ())
def B_Z29 (k : Nat) (c_Z31 : C_Z31) (c_Z63 : C_Z63) (m_Nodes : List (Int × Int × List Int)) (m_Stack m_Memo : List Int) (m_Done : Bool) (pairs : List Int) : R_Z29 :=
  (c_Z31 m_Nodes m_Stack m_Memo m_Done 4).bind fun r13 =>
  bif (!r13.1.2.1) then
    jn (fun t => B_Z29_J0 k c_Z31 c_Z63 t.1.1 t.1.2.1 t.1.2.2.1 t.1.2.2.2.1 t.2.1 t.2.2.1 t.2.2.2.1) ((r13.2.1.1, r13.2.1.2.1, r13.2.1.2.2.1, r13.2.1.2.2.2.1, ()), pairs, true, r13.1.1, ())
  else
    jn (fun t => B_Z29_J0 k c_Z31 c_Z63 t.1.1 t.1.2.1 t.1.2.2.1 t.1.2.2.2.1 t.2.1 t.2.2.1 t.2.2.2.1) ((r13.2.1.1, r13.2.1.2.1, r13.2.1.2.2.1, r13.2.1.2.2.2.1, ()), pairs, (((len pairs).tmod 2) != 0), r13.1.1, ())
def F_Z29 : Nat → C_Z29
  | 0, _, _, _, _, _ => none
  | k + 1, m_Nodes, m_Stack, m_Memo, m_Done, pairs => B_Z29 k (F_Z31 k) (F_Z63 k) m_Nodes m_Stack m_Memo m_Done pairs
theorem tot_Z29 {m_Nodes m_Stack m_Memo m_Done pairs : _} {Q : _ → Prop} (h : Tot (fun σ => B_Z29 (σ 0) (F_Z31 (σ 0)) (F_Z63 (σ 0)) m_Nodes m_Stack m_Memo m_Done pairs) Q) : Tot (fun σ => F_Z29 (σ 0) m_Nodes m_Stack m_Memo m_Done pairs) Q :=
  Tot.call (F := fun k => F_Z29 k m_Nodes m_Stack m_Memo m_Done pairs) (B := fun k => B_Z29 k (F_Z31 k) (F_Z63 k) m_Nodes m_Stack m_Memo m_Done pairs) (fun k => rfl) h
abbrev A_Z29_L3 (Z : Type) : Type := (List (Int × Int × List Int)) → List Int → List Int → Bool → List Int → Int → Option Nat → Z
abbrev u_Z29_L3 {Z : Type} (f : A_Z29_L3 Z) (t : T_Z29_L3) : Z := f t.1.1 t.1.2.1 t.1.2.2.1 t.1.2.2.2.1 t.2.1 t.2.2.1 t.2.2.2.1
theorem loop_Z29_L3 {Q : A_Z29_L3 (((Bool × Unit) × (((List (Int × Int × List Int)) × List Int × List Int × Bool × Unit) × Unit)) → Prop)} (I : A_Z29_L3 Prop) (μ : A_Z29_L3 Nat)
    (step : ∀ a0 a1 a2 a3 a4 a5 a6, I a0 a1 a2 a3 a4 a5 a6 → ∀ again : (Nat → Nat) → T_Z29_L3 → R_Z29, Dep 2 again → (∀ y0 y1 y2 y3 y4 y5 y6, I y0 y1 y2 y3 y4 y5 y6 → μ y0 y1 y2 y3 y4 y5 y6 < μ a0 a1 a2 a3 a4 a5 a6 → Tot (fun σ => again σ ((y0, y1, y2, y3, ()), y4, y5, y6, ())) (Q y0 y1 y2 y3 y4 y5 y6)) →
      Tot (fun σ => B_Z29_L3b (σ 0) (F_Z31 (σ 0)) (F_Z63 (σ 0)) (again σ) a0 a1 a2 a3 a4 a5 a6) (Q a0 a1 a2 a3 a4 a5 a6)) :
    ∀ a0 a1 a2 a3 a4 a5 a6, I a0 a1 a2 a3 a4 a5 a6 → Tot (fun σ => B_Z29_L3 (σ 0) (F_Z31 (σ 0)) (F_Z63 (σ 0)) (σ 0) ((a0, a1, a2, a3, ()), a4, a5, a6, ())) (Q a0 a1 a2 a3 a4 a5 a6) := fun a0 a1 a2 a3 a4 a5 a6 => Tot.loop0 (L := fun k => B_Z29_L3 k (F_Z31 k) (F_Z63 k)) (B := fun k g => u_Z29_L3 (B_Z29_L3b k (F_Z31 k) (F_Z63 k) g)) (Q := u_Z29_L3 Q) (fun _ _ _ => rfl) (u_Z29_L3 I) (u_Z29_L3 μ)
    (fun t ht again hag h => step t.1.1 t.1.2.1 t.1.2.2.1 t.1.2.2.2.1 t.2.1 t.2.2.1 t.2.2.2.1 ht again hag fun y0 y1 y2 y3 y4 y5 y6 => h ((y0, y1, y2, y3, ()), y4, y5, y6, ())) ((a0, a1, a2, a3, ()), a4, a5, a6, ())
abbrev A_Z29_L1 (Z : Type) : Type := (List (Int × Int × List Int)) → List Int → List Int → Bool → List Int → Int → Option Nat → Z
abbrev u_Z29_L1 {Z : Type} (f : A_Z29_L1 Z) (t : T_Z29_L1) : Z := f t.1.1 t.1.2.1 t.1.2.2.1 t.1.2.2.2.1 t.2.1 t.2.2.1 t.2.2.2.1
theorem loop_Z29_L1 {Q : A_Z29_L1 (((Bool × Unit) × (((List (Int × Int × List Int)) × List Int × List Int × Bool × Unit) × Unit)) → Prop)} (I : A_Z29_L1 Prop) (μ : A_Z29_L1 Nat)
    (step : ∀ a0 a1 a2 a3 a4 a5 a6, I a0 a1 a2 a3 a4 a5 a6 → ∀ again : (Nat → Nat) → T_Z29_L1 → R_Z29, Dep 2 again → (∀ y0 y1 y2 y3 y4 y5 y6, I y0 y1 y2 y3 y4 y5 y6 → μ y0 y1 y2 y3 y4 y5 y6 < μ a0 a1 a2 a3 a4 a5 a6 → Tot (fun σ => again σ ((y0, y1, y2, y3, ()), y4, y5, y6, ())) (Q y0 y1 y2 y3 y4 y5 y6)) →
      Tot (fun σ => B_Z29_L1b (σ 0) (F_Z31 (σ 0)) (F_Z63 (σ 0)) (again σ) a0 a1 a2 a3 a4 a5 a6) (Q a0 a1 a2 a3 a4 a5 a6)) :
    ∀ a0 a1 a2 a3 a4 a5 a6, I a0 a1 a2 a3 a4 a5 a6 → Tot (fun σ => B_Z29_L1 (σ 0) (F_Z31 (σ 0)) (F_Z63 (σ 0)) (σ 0) ((a0, a1, a2, a3, ()), a4, a5, a6, ())) (Q a0 a1 a2 a3 a4 a5 a6) := fun a0 a1 a2 a3 a4 a5 a6 => Tot.loop0 (L := fun k => B_Z29_L1 k (F_Z31 k) (F_Z63 k)) (B := fun k g => u_Z29_L1 (B_Z29_L1b k (F_Z31 k) (F_Z63 k) g)) (Q := u_Z29_L1 Q) (fun _ _ _ => rfl) (u_Z29_L1 I) (u_Z29_L1 μ)
    (fun t ht again hag h => step t.1.1 t.1.2.1 t.1.2.2.1 t.1.2.2.2.1 t.2.1 t.2.2.1 t.2.2.2.1 ht again hag fun y0 y1 y2 y3 y4 y5 y6 => h ((y0, y1, y2, y3, ()), y4, y5, y6, ())) ((a0, a1, a2, a3, ()), a4, a5, a6, ())
abbrev R_Z35 : Type := Option ((Bool × Unit) × (((Bool × List (Int × Int × List Int)) × List Int × List Int × Bool × Unit) × Unit))
abbrev C_Z35 : Type := (List (Int × Int × List Int)) → List Int → List Int → Bool → Int → Int → R_Z35
def B_Z35_J0 (k : Nat) (c_Z22 : C_Z22) (c_Z25 : C_Z25) (c_Z24 : C_Z24) (c_Z23 : C_Z23) (c_Z27 : C_Z27) (c_Z31 : C_Z31) (c_Z29 : C_Z29) (m_Nodes : List (Int × Int × List Int)) (m_Stack m_Memo : List Int) (m_Done : Bool) (kids : List Int) (t183 : Bool) (x : Option Nat) : R_Z35 :=
  bif t183 then
    some ((false, ()), (((true, m_Nodes), m_Stack, m_Memo, m_Done, ()), ()))
  else
    (x).bind fun p9 =>
    chk (decide (p9 < m_Nodes.length)) <|
    some ((true, ()), (((true, (m_Nodes.set p9 ((m_Nodes.getD p9 ((0 : Int), ((0 : Int), ([] : List Int)))).1, (((m_Nodes.getD p9 ((0 : Int), ((0 : Int), ([] : List Int)))).2).1, kids)))), m_Stack, m_Memo, m_Done, ()), ()))
def B_Z35_J1 (k : Nat) (c_Z22 : C_Z22) (c_Z25 : C_Z25) (c_Z24 : C_Z24) (c_Z23 : C_Z23) (c_Z27 : C_Z27) (c_Z31 : C_Z31) (c_Z29 : C_Z29) (m_Nodes : List (Int × Int × List Int)) (m_Stack m_Memo : List Int) (m_Done : Bool) : R_Z35 :=
  some ((m_Done, ()), (((true, m_Nodes), m_Stack, m_Memo, m_Done, ()), ()))
def B_Z35 (k : Nat) (c_Z22 : C_Z22) (c_Z25 : C_Z25) (c_Z24 : C_Z24) (c_Z23 : C_Z23) (c_Z27 : C_Z27) (c_Z31 : C_Z31) (c_Z29 : C_Z29) (m_Nodes : List (Int × Int × List Int)) (m_Stack m_Memo : List Int) (m_Done : Bool) (o_0 o_1 : Int) : R_Z35 :=
  (c_Z22 m_Nodes m_Stack m_Memo m_Done).bind fun r23 =>
  bif (o_0 == 0) then
    (c_Z25 r23.2.1.1 r23.2.1.2.1 r23.2.1.2.2.1 r23.2.1.2.2.2.1 0 o_1 ([])).bind fun r31 =>
    some ((r31.1.1, ()), (((false, r31.2.1.1), r31.2.1.2.1, r31.2.1.2.2.1, r31.2.1.2.2.2.1, ()), ()))
  else
    bif (o_0 == 1) then
      (c_Z25 r23.2.1.1 r23.2.1.2.1 r23.2.1.2.2.1 r23.2.1.2.2.2.1 1 o_1 ([])).bind fun r37 =>
      some ((r37.1.1, ()), (((false, r37.2.1.1), r37.2.1.2.1, r37.2.1.2.2.1, r37.2.1.2.2.2.1, ()), ()))
    else
      bif (o_0 == 13) then
        (c_Z25 r23.2.1.1 r23.2.1.2.1 r23.2.1.2.2.1 r23.2.1.2.2.2.1 5 o_1 ([])).bind fun r43 =>
        some ((r43.1.1, ()), (((false, r43.2.1.1), r43.2.1.2.1, r43.2.1.2.2.1, r43.2.1.2.2.2.1, ()), ()))
      else
        bif (o_0 == 4) then
          (c_Z25 r23.2.1.1 r23.2.1.2.1 r23.2.1.2.2.1 r23.2.1.2.2.2.1 2 0 ([])).bind fun r47 =>
          some ((r47.1.1, ()), (((false, r47.2.1.1), r47.2.1.2.1, r47.2.1.2.2.1, r47.2.1.2.2.2.1, ()), ()))
        else
          bif (o_0 == 7) then
            (c_Z25 r23.2.1.1 r23.2.1.2.1 r23.2.1.2.2.1 r23.2.1.2.2.2.1 3 0 ([])).bind fun r51 =>
            some ((r51.1.1, ()), (((false, r51.2.1.1), r51.2.1.2.1, r51.2.1.2.2.1, r51.2.1.2.2.2.1, ()), ()))
          else
            bif (o_0 == 10) then
              (c_Z25 r23.2.1.1 r23.2.1.2.1 r23.2.1.2.2.1 r23.2.1.2.2.2.1 4 0 ([])).bind fun r55 =>
              some ((r55.1.1, ()), (((false, r55.2.1.1), r55.2.1.2.1, r55.2.1.2.2.1, r55.2.1.2.2.2.1, ()), ()))
            else
              bif (o_0 == 2) then
                (c_Z24 r23.2.1.1 r23.2.1.2.1 r23.2.1.2.2.1 r23.2.1.2.2.2.1 (-1)).bind fun r59 =>
                some ((r59.1.1, ()), (((true, r59.2.1.1), r59.2.1.2.1, r59.2.1.2.2.1, r59.2.1.2.2.2.1, ()), ()))
              else
                bif (o_0 == 3) then
                  (c_Z23 r23.2.1.1 r23.2.1.2.1 r23.2.1.2.2.1 r23.2.1.2.2.2.1).bind fun r64 =>
                  bif r64.1.2.1 then
                    (c_Z25 r64.2.1.1 r64.2.1.2.1 r64.2.1.2.2.1 r64.2.1.2.2.2.1 2 0 r64.1.1).bind fun r71 =>
                    some ((r71.1.1, ()), (((false, r71.2.1.1), r71.2.1.2.1, r71.2.1.2.2.1, r71.2.1.2.2.2.1, ()), ()))
                  else
                    some ((false, ()), (((true, r64.2.1.1), r64.2.1.2.1, r64.2.1.2.2.1, r64.2.1.2.2.2.1, ()), ()))
                else
                  bif (o_0 == 5) then
                    bif decide (r23.1.1 ≥ 1) then
                      (c_Z27 r23.2.1.1 r23.2.1.2.1 r23.2.1.2.2.1 r23.2.1.2.2.2.1 1).bind fun r80 =>
                      (c_Z25 r80.2.1.1 r80.2.1.2.1 r80.2.1.2.2.1 r80.2.1.2.2.2.1 2 0 r80.1.1).bind fun r81 =>
                      some ((r81.1.1, ()), (((false, r81.2.1.1), r81.2.1.2.1, r81.2.1.2.2.1, r81.2.1.2.2.2.1, ()), ()))
                    else
                      some ((false, ()), (((true, r23.2.1.1), r23.2.1.2.1, r23.2.1.2.2.1, r23.2.1.2.2.2.1, ()), ()))
                  else
                    bif (o_0 == 6) then
                      bif decide (r23.1.1 ≥ 2) then
                        (c_Z27 r23.2.1.1 r23.2.1.2.1 r23.2.1.2.2.1 r23.2.1.2.2.2.1 2).bind fun r90 =>
                        (c_Z25 r90.2.1.1 r90.2.1.2.1 r90.2.1.2.2.1 r90.2.1.2.2.2.1 2 0 r90.1.1).bind fun r91 =>
                        some ((r91.1.1, ()), (((false, r91.2.1.1), r91.2.1.2.1, r91.2.1.2.2.1, r91.2.1.2.2.2.1, ()), ()))
                      else
                        some ((false, ()), (((true, r23.2.1.1), r23.2.1.2.1, r23.2.1.2.2.1, r23.2.1.2.2.2.1, ()), ()))
                    else
                      bif (o_0 == 8) then
                        bif decide (r23.1.1 < 2) then
                          some ((false, ()), (((true, r23.2.1.1), r23.2.1.2.1, r23.2.1.2.2.1, r23.2.1.2.2.2.1, ()), ()))
                        else
                          (c_Z27 r23.2.1.1 r23.2.1.2.1 r23.2.1.2.2.1 r23.2.1.2.2.2.1 1).bind fun r98 =>
                          (c_Z31 r98.2.1.1 r98.2.1.2.1 r98.2.1.2.2.1 r98.2.1.2.2.2.1 3).bind fun r101 =>
                          bif r101.1.2.1 then
                            (r101.1.1).bind fun p0 =>
                            chk (decide (p0 < r101.2.1.1.length)) <|
                            chk (room (((r101.2.1.1.getD p0 ((0 : Int), ((0 : Int), ([] : List Int)))).2).2).length r98.1.1.length) <|
                            (r101.1.1).bind fun p1 =>
                            chk (decide (p1 = p0)) <|
                            let w2 : List (Int × Int × List Int) := (r101.2.1.1.set p1 ((r101.2.1.1.getD p1 ((0 : Int), ((0 : Int), ([] : List Int)))).1, (((r101.2.1.1.getD p1 ((0 : Int), ((0 : Int), ([] : List Int)))).2).1, (((r101.2.1.1.getD p0 ((0 : Int), ((0 : Int), ([] : List Int)))).2).2 ++ r98.1.1))))
                            some ((r101.1.2.1, ()), (((true, w2), r101.2.1.2.1, r101.2.1.2.2.1, r101.2.1.2.2.2.1, ()), ()))
                          else
                            some ((r101.1.2.1, ()), (((true, r101.2.1.1), r101.2.1.2.1, r101.2.1.2.2.1, r101.2.1.2.2.2.1, ()), ()))
                      else
                        bif (o_0 == 9) then
                          (c_Z23 r23.2.1.1 r23.2.1.2.1 r23.2.1.2.2.1 r23.2.1.2.2.2.1).bind fun r119 =>
                          bif (!r119.1.2.1) then
                            some ((false, ()), (((true, r119.2.1.1), r119.2.1.2.1, r119.2.1.2.2.1, r119.2.1.2.2.2.1, ()), ()))
                          else
                            (c_Z31 r119.2.1.1 r119.2.1.2.1 r119.2.1.2.2.1 r119.2.1.2.2.2.1 3).bind fun r126 =>
                            bif r126.1.2.1 then
                              (r126.1.1).bind fun p3 =>
                              chk (decide (p3 < r126.2.1.1.length)) <|
                              chk (room (((r126.2.1.1.getD p3 ((0 : Int), ((0 : Int), ([] : List Int)))).2).2).length r119.1.1.length) <|
                              (r126.1.1).bind fun p4 =>
                              chk (decide (p4 = p3)) <|
                              let w5 : List (Int × Int × List Int) := (r126.2.1.1.set p4 ((r126.2.1.1.getD p4 ((0 : Int), ((0 : Int), ([] : List Int)))).1, (((r126.2.1.1.getD p4 ((0 : Int), ((0 : Int), ([] : List Int)))).2).1, (((r126.2.1.1.getD p3 ((0 : Int), ((0 : Int), ([] : List Int)))).2).2 ++ r119.1.1))))
                              some ((r126.1.2.1, ()), (((true, w5), r126.2.1.2.1, r126.2.1.2.2.1, r126.2.1.2.2.2.1, ()), ()))
                            else
                              some ((r126.1.2.1, ()), (((true, r126.2.1.1), r126.2.1.2.1, r126.2.1.2.2.1, r126.2.1.2.2.2.1, ()), ()))
                        else
                          bif (o_0 == 11) then
                            bif decide (r23.1.1 ≥ 3) then
                              (c_Z27 r23.2.1.1 r23.2.1.2.1 r23.2.1.2.2.1 r23.2.1.2.2.2.1 2).bind fun r147 =>
                              (c_Z29 r147.2.1.1 r147.2.1.2.1 r147.2.1.2.2.1 r147.2.1.2.2.2.1 r147.1.1).bind fun r148 =>
                              some ((r148.1.1, ()), (((true, r148.2.1.1), r148.2.1.2.1, r148.2.1.2.2.1, r148.2.1.2.2.2.1, ()), ()))
                            else
                              some ((false, ()), (((true, r23.2.1.1), r23.2.1.2.1, r23.2.1.2.2.1, r23.2.1.2.2.2.1, ()), ()))
                          else
                            bif (o_0 == 12) then
                              (c_Z23 r23.2.1.1 r23.2.1.2.1 r23.2.1.2.2.1 r23.2.1.2.2.2.1).bind fun r154 =>
                              bif r154.1.2.1 then
                                (c_Z29 r154.2.1.1 r154.2.1.2.1 r154.2.1.2.2.1 r154.2.1.2.2.2.1 r154.1.1).bind fun r161 =>
                                some ((r161.1.1, ()), (((true, r161.2.1.1), r161.2.1.2.1, r161.2.1.2.2.1, r161.2.1.2.2.2.1, ()), ()))
                              else
                                some ((false, ()), (((true, r154.2.1.1), r154.2.1.2.1, r154.2.1.2.2.1, r154.2.1.2.2.2.1, ()), ()))
                            else
                              bif (o_0 == 14) then
                                bif decide (r23.1.1 < 2) then
                                  some ((false, ()), (((true, r23.2.1.1), r23.2.1.2.1, r23.2.1.2.2.1, r23.2.1.2.2.2.1, ()), ()))
                                else
                                  (c_Z27 r23.2.1.1 r23.2.1.2.1 r23.2.1.2.2.1 r23.2.1.2.2.2.1 1).bind fun r168 =>
                                  (c_Z31 r168.2.1.1 r168.2.1.2.1 r168.2.1.2.2.1 r168.2.1.2.2.2.1 5).bind fun r171 =>
                                  bif (!r171.1.2.1) then
                                    jn (fun t => B_Z35_J0 k c_Z22 c_Z25 c_Z24 c_Z23 c_Z27 c_Z31 c_Z29 t.1.1 t.1.2.1 t.1.2.2.1 t.1.2.2.2.1 t.2.1 t.2.2.1 t.2.2.2.1) ((r171.2.1.1, r171.2.1.2.1, r171.2.1.2.2.1, r171.2.1.2.2.2.1, ()), r168.1.1, true, r171.1.1, ())
                                  else
                                    (r171.1.1).bind fun p10 =>
                                    chk (decide (p10 < r171.2.1.1.length)) <|
                                    jn (fun t => B_Z35_J0 k c_Z22 c_Z25 c_Z24 c_Z23 c_Z27 c_Z31 c_Z29 t.1.1 t.1.2.1 t.1.2.2.1 t.1.2.2.2.1 t.2.1 t.2.2.1 t.2.2.2.1) (((r171.2.1.1.set p10 ((r171.2.1.1.getD p10 ((0 : Int), ((0 : Int), ([] : List Int)))).1, (((r171.2.1.1.getD p10 ((0 : Int), ((0 : Int), ([] : List Int)))).2).1, ((r171.2.1.1.getD p10 ((0 : Int), ((0 : Int), ([] : List Int)))).2).2))), r171.2.1.2.1, r171.2.1.2.2.1, r171.2.1.2.2.2.1, ()), r168.1.1, decide ((len (((r171.2.1.1.getD p10 ((0 : Int), ((0 : Int), ([] : List Int)))).2).2)) > 0), r171.1.1, ())
                              else
                                bif (o_0 == 15) then
                                  bif decide (r23.1.1 < 1) then
                                    some ((false, ()), (((true, r23.2.1.1), r23.2.1.2.1, r23.2.1.2.2.1, r23.2.1.2.2.2.1, ()), ()))
                                  else
                                    chk (inb (w64 ((len r23.2.1.2.1) - 1)) r23.2.1.2.1.length) <|
                                    chk (decide ((w64 ((len r23.2.1.2.1) - 1)).toNat < r23.2.1.2.1.length)) <|
                                    chk (inb o_1 r23.2.1.2.2.1.length) <|
                                    chk (decide (o_1.toNat < r23.2.1.2.2.1.length)) <|
                                    some ((true, ()), (((true, r23.2.1.1), r23.2.1.2.1, (r23.2.1.2.2.1.set o_1.toNat (r23.2.1.2.1.getD ((w64 ((len r23.2.1.2.1) - 1)).toNat) (0 : Int))), r23.2.1.2.2.2.1, ()), ()))
                                else
                                  bif (o_0 == 16) then
                                    chk (inb o_1 r23.2.1.2.2.1.length) <|
                                    chk (decide (o_1.toNat < r23.2.1.2.2.1.length)) <|
                                    bif decide ((r23.2.1.2.2.1.getD o_1.toNat (0 : Int)) ≥ 0) then
                                      chk (inb o_1 r23.2.1.2.2.1.length) <|
                                      chk (decide (o_1.toNat < r23.2.1.2.2.1.length)) <|
                                      (c_Z24 r23.2.1.1 r23.2.1.2.1 r23.2.1.2.2.1 r23.2.1.2.2.2.1 (r23.2.1.2.2.1.getD o_1.toNat (0 : Int))).bind fun r232 =>
                                      some ((r232.1.1, ()), (((true, r232.2.1.1), r232.2.1.2.1, r232.2.1.2.2.1, r232.2.1.2.2.2.1, ()), ()))
                                    else
                                      some ((false, ()), (((true, r23.2.1.1), r23.2.1.2.1, r23.2.1.2.2.1, r23.2.1.2.2.2.1, ()), ()))
                                  else
                                    bif (o_0 == 17) then
                                      bif decide (r23.1.1 < 1) then
                                        some ((false, ()), (((true, r23.2.1.1), r23.2.1.2.1, r23.2.1.2.2.1, r23.2.1.2.2.2.1, ()), ()))
                                      else
                                        (c_Z27 r23.2.1.1 r23.2.1.2.1 r23.2.1.2.2.1 r23.2.1.2.2.2.1 1).bind fun r239 =>
                                        some ((true, ()), (((true, r239.2.1.1), r239.2.1.2.1, r239.2.1.2.2.1, r239.2.1.2.2.2.1, ()), ()))
                                    else
                                      bif (o_0 == 18) then
                                        (c_Z23 r23.2.1.1 r23.2.1.2.1 r23.2.1.2.2.1 r23.2.1.2.2.2.1).bind fun r244 =>
                                        some ((r244.1.2.1, ()), (((true, r244.2.1.1), r244.2.1.2.1, r244.2.1.2.2.1, r244.2.1.2.2.2.1, ()), ()))
                                      else
                                        bif ((len r23.2.1.2.1) == 1) then
                                          jn (fun t => B_Z35_J1 k c_Z22 c_Z25 c_Z24 c_Z23 c_Z27 c_Z31 c_Z29 t.1.1 t.1.2.1 t.1.2.2.1 t.1.2.2.2.1) ((r23.2.1.1, r23.2.1.2.1, r23.2.1.2.2.1, (r23.1.1 == 1), ()), ())
                                        else
                                          jn (fun t => B_Z35_J1 k c_Z22 c_Z25 c_Z24 c_Z23 c_Z27 c_Z31 c_Z29 t.1.1 t.1.2.1 t.1.2.2.1 t.1.2.2.2.1) ((r23.2.1.1, r23.2.1.2.1, r23.2.1.2.2.1, false, ()), ())
def F_Z35 : Nat → C_Z35
  | 0, _, _, _, _, _, _ => none
  | k + 1, m_Nodes, m_Stack, m_Memo, m_Done, o_0, o_1 => B_Z35 k (F_Z22 k) (F_Z25 k) (F_Z24 k) (F_Z23 k) (F_Z27 k) (F_Z31 k) (F_Z29 k) m_Nodes m_Stack m_Memo m_Done o_0 o_1
theorem tot_Z35 {m_Nodes m_Stack m_Memo m_Done o_0 o_1 : _} {Q : _ → Prop} (h : Tot (fun σ => B_Z35 (σ 0) (F_Z22 (σ 0)) (F_Z25 (σ 0)) (F_Z24 (σ 0)) (F_Z23 (σ 0)) (F_Z27 (σ 0)) (F_Z31 (σ 0)) (F_Z29 (σ 0)) m_Nodes m_Stack m_Memo m_Done o_0 o_1) Q) : Tot (fun σ => F_Z35 (σ 0) m_Nodes m_Stack m_Memo m_Done o_0 o_1) Q :=
  Tot.call (F := fun k => F_Z35 k m_Nodes m_Stack m_Memo m_Done o_0 o_1) (B := fun k => B_Z35 k (F_Z22 k) (F_Z25 k) (F_Z24 k) (F_Z23 k) (F_Z27 k) (F_Z31 k) (F_Z29 k) m_Nodes m_Stack m_Memo m_Done o_0 o_1) (fun k => rfl) h
abbrev R_Z26 : Type := Option ((Bool × Unit) × (((Option (List (Int × Int × List Int))) × List Int × List Int × Bool × Unit) × Unit))
abbrev C_Z26 : Type := (List (Int × Int × List Int)) → List Int → List Int → Bool → Int → Int → R_Z26
def B_Z26 (k : Nat) (c_Z18 : C_Z18) (c_Z35 : C_Z35) (m_Nodes : List (Int × Int × List Int)) (m_Stack m_Memo : List Int) (m_Done : Bool) (o_0 o_1 : Int) : R_Z26 :=
  (c_Z18 m_Stack).bind fun r15 =>
  bif (!m_Done) then
    (c_Z35 m_Nodes m_Stack m_Memo m_Done o_0 o_1).bind fun r24 =>
    bif r24.1.1 then
      some ((true, ()), (((some r24.2.1.1.2), r24.2.1.2.1, r24.2.1.2.2.1, r24.2.1.2.2.2.1, ()), ()))
    else
      some ((false, ()), (((bif r24.2.1.1.1 then some r24.2.1.1.2 else none), r15.1.1, r24.2.1.2.2.1, r24.2.1.2.2.2.1, ()), ()))
  else
    some ((false, ()), (((some m_Nodes), r15.1.1, m_Memo, m_Done, ()), ()))
def F_Z26 : Nat → C_Z26
  | 0, _, _, _, _, _, _ => none
  | k + 1, m_Nodes, m_Stack, m_Memo, m_Done, o_0, o_1 => B_Z26 k (F_Z18 k) (F_Z35 k) m_Nodes m_Stack m_Memo m_Done o_0 o_1
theorem tot_Z26 {m_Nodes m_Stack m_Memo m_Done o_0 o_1 : _} {Q : _ → Prop} (h : Tot (fun σ => B_Z26 (σ 0) (F_Z18 (σ 0)) (F_Z35 (σ 0)) m_Nodes m_Stack m_Memo m_Done o_0 o_1) Q) : Tot (fun σ => F_Z26 (σ 0) m_Nodes m_Stack m_Memo m_Done o_0 o_1) Q :=
  Tot.call (F := fun k => F_Z26 k m_Nodes m_Stack m_Memo m_Done o_0 o_1) (B := fun k => B_Z26 k (F_Z18 k) (F_Z35 k) m_Nodes m_Stack m_Memo m_Done o_0 o_1) (fun k => rfl) h
abbrev R_Z46 : Type := Option (((List (Int × Int × List Int)) × Unit) × (Unit))
abbrev C_Z46 : Type := (List (Int × Int × List Int)) → R_Z46
abbrev T_Z46_L0 : Type := (List (Int × Int × List Int)) × (List (Int × Int × List Int)) × Int × Int × Unit
def B_Z46_L0b (k : Nat) (c_Z18 : C_Z18) (again0 : T_Z46_L0 → R_Z46) (out t7 : List (Int × Int × List Int)) (t8 t9 : Int) : R_Z46 :=
  bif decide (t9 < t8) then
    chk (inb t9 t7.length) <|
    (c_Z18 (((rdx ((0 : Int), ((0 : Int), ([] : List Int))) t7 t9).2).2)).bind fun r20 =>
    chk (room out.length ([((rdx ((0 : Int), ((0 : Int), ([] : List Int))) t7 t9).1, (((rdx ((0 : Int), ((0 : Int), ([] : List Int))) t7 t9).2).1, r20.1.1))]).length) <|
    again0 ((out ++ [((rdx ((0 : Int), ((0 : Int), ([] : List Int))) t7 t9).1, (((rdx ((0 : Int), ((0 : Int), ([] : List Int))) t7 t9).2).1, r20.1.1))]), t7, t8, w64 (t9 + 1), ())
  else
    some ((out, ()), ())
def B_Z46_L0 (k : Nat) (c_Z18 : C_Z18) (n : Nat) (t : T_Z46_L0) : R_Z46 :=
  lfix n (fun again t => B_Z46_L0b k c_Z18 again t.1 t.2.1 t.2.2.1 t.2.2.2.1) t
def B_Z46 (k : Nat) (c_Z18 : C_Z18) (nodes : List (Int × Int × List Int)) : R_Z46 :=
  B_Z46_L0 k c_Z18 k ([], nodes, len nodes, 0, ())
def F_Z46 : Nat → C_Z46
  | 0, _ => none
  | k + 1, nodes => B_Z46 k (F_Z18 k) nodes
theorem tot_Z46 {nodes : _} {Q : _ → Prop} (h : Tot (fun σ => B_Z46 (σ 0) (F_Z18 (σ 0)) nodes) Q) : Tot (fun σ => F_Z46 (σ 0) nodes) Q :=
  Tot.call (F := fun k => F_Z46 k nodes) (B := fun k => B_Z46 k (F_Z18 k) nodes) (fun k => rfl) h
abbrev A_Z46_L0 (Z : Type) : Type := (List (Int × Int × List Int)) → (List (Int × Int × List Int)) → Int → Int → Z
abbrev u_Z46_L0 {Z : Type} (f : A_Z46_L0 Z) (t : T_Z46_L0) : Z := f t.1 t.2.1 t.2.2.1 t.2.2.2.1
theorem loop_Z46_L0 {Q : A_Z46_L0 ((((List (Int × Int × List Int)) × Unit) × (Unit)) → Prop)} (I : A_Z46_L0 Prop) (μ : A_Z46_L0 Nat)
    (step : ∀ a0 a1 a2 a3, I a0 a1 a2 a3 → ∀ again : (Nat → Nat) → T_Z46_L0 → R_Z46, Dep 2 again → (∀ y0 y1 y2 y3, I y0 y1 y2 y3 → μ y0 y1 y2 y3 < μ a0 a1 a2 a3 → Tot (fun σ => again σ (y0, y1, y2, y3, ())) (Q y0 y1 y2 y3)) →
      Tot (fun σ => B_Z46_L0b (σ 0) (F_Z18 (σ 0)) (again σ) a0 a1 a2 a3) (Q a0 a1 a2 a3)) :
    ∀ a0 a1 a2 a3, I a0 a1 a2 a3 → Tot (fun σ => B_Z46_L0 (σ 0) (F_Z18 (σ 0)) (σ 0) (a0, a1, a2, a3, ())) (Q a0 a1 a2 a3) := fun a0 a1 a2 a3 => Tot.loop0 (L := fun k => B_Z46_L0 k (F_Z18 k)) (B := fun k g => u_Z46_L0 (B_Z46_L0b k (F_Z18 k) g)) (Q := u_Z46_L0 Q) (fun _ _ _ => rfl) (u_Z46_L0 I) (u_Z46_L0 μ)
    (fun t ht again hag h => step t.1 t.2.1 t.2.2.1 t.2.2.2.1 ht again hag fun y0 y1 y2 y3 => h (y0, y1, y2, y3, ())) (a0, a1, a2, a3, ())
abbrev R_Z32 : Type := Option ((((List (Int × Int × List Int)) × List Int × List Int × Bool × Unit) × Unit) × (Unit))
abbrev C_Z32 : Type := (List (Int × Int × List Int)) → List Int → List Int → Bool → R_Z32
def B_Z32 (k : Nat) (c_Z46 : C_Z46) (c_Z18 : C_Z18) (m_0 : List (Int × Int × List Int)) (m_1 m_2 : List Int) (m_3 : Bool) : R_Z32 :=
  (c_Z46 m_0).bind fun r5 =>
  (c_Z18 m_1).bind fun r8 =>
  (c_Z18 m_2).bind fun r11 =>
  some (((r5.1.1, r8.1.1, r11.1.1, m_3, ()), ()), ())
def F_Z32 : Nat → C_Z32
  | 0, _, _, _, _ => none
  | k + 1, m_0, m_1, m_2, m_3 => B_Z32 k (F_Z46 k) (F_Z18 k) m_0 m_1 m_2 m_3
theorem tot_Z32 {m_0 m_1 m_2 m_3 : _} {Q : _ → Prop} (h : Tot (fun σ => B_Z32 (σ 0) (F_Z46 (σ 0)) (F_Z18 (σ 0)) m_0 m_1 m_2 m_3) Q) : Tot (fun σ => F_Z32 (σ 0) m_0 m_1 m_2 m_3) Q :=
  Tot.call (F := fun k => F_Z32 k m_0 m_1 m_2 m_3) (B := fun k => B_Z32 k (F_Z46 k) (F_Z18 k) m_0 m_1 m_2 m_3) (fun k => rfl) h
abbrev R_Z42 : Type := Option ((Unit) × (Unit))
abbrev C_Z42 : Type := (List (Int × Int × List Int)) → List Int → List Int → Bool → R_Z42
def B_Z42 (k : Nat) (t0_0 : List (Int × Int × List Int)) (t0_1 t0_2 : List Int) (t0_3 : Bool) : R_Z42 :=
  some ((), ())
def F_Z42 : Nat → C_Z42
  | 0, _, _, _, _ => none
  | k + 1, t0_0, t0_1, t0_2, t0_3 => B_Z42 k t0_0 t0_1 t0_2 t0_3
theorem tot_Z42 {t0_0 t0_1 t0_2 t0_3 : _} {Q : _ → Prop} (h : Tot (fun σ => B_Z42 (σ 0) t0_0 t0_1 t0_2 t0_3) Q) : Tot (fun σ => F_Z42 (σ 0) t0_0 t0_1 t0_2 t0_3) Q :=
  Tot.call (F := fun k => F_Z42 k t0_0 t0_1 t0_2 t0_3) (B := fun k => B_Z42 k t0_0 t0_1 t0_2 t0_3) (fun k => rfl) h
abbrev R_Z14 : Type := Option ((((List (Int × Int × List Int)) × List Int × List Int × Bool × Unit) × Int × Unit) × (Unit))
abbrev C_Z14 : Type := (List (Int × Int)) → R_Z14
abbrev T_Z14_L0 : Type := (List (Int × Int)) × Unit × (Unit × Unit × Unit × Bool × Unit) × ((List (Int × Int × List Int)) × List Int × List Int × Bool × Unit) × (List (Int × Int)) × Int × Int × Unit
def B_Z14_L0b (k : Nat) (c_Z40 : C_Z40) (c_Z26 : C_Z26) (c_Z32 : C_Z32) (c_Z42 : C_Z42) (again0 : T_Z14_L0 → R_Z14) (ops : List (Int × Int)) (t4_Done : Bool) (m_Nodes : List (Int × Int × List Int)) (m_Stack m_Memo : List Int) (m_Done : Bool) (t10 : List (Int × Int)) (t11 t12 : Int) : R_Z14 :=
  bif decide (t12 < t11) then
    chk (inb t12 t10.length) <|
    (c_Z26 m_Nodes m_Stack m_Memo m_Done ((rdx ((0 : Int), (0 : Int)) t10 t12).1) ((rdx ((0 : Int), (0 : Int)) t10 t12).2)).bind fun r18 =>
    bif (!r18.1.1) then
      (r18.2.1.1).bind fun p25 =>
      (c_Z32 p25 r18.2.1.2.1 r18.2.1.2.2.1 r18.2.1.2.2.2.1).bind fun r21 =>
      some (((r21.1.1.1, r21.1.1.2.1, r21.1.1.2.2.1, r21.1.1.2.2.2.1, ()), t12, ()), ())
    else
      (r18.2.1.1).bind fun p26 =>
      (c_Z42 p26 r18.2.1.2.1 r18.2.1.2.2.1 r18.2.1.2.2.2.1).bind fun r25 =>
      (r18.2.1.1).bind fun p27 =>
      again0 (ops, (), ((), (), (), t4_Done, ()), (p27, r18.2.1.2.1, r18.2.1.2.2.1, r18.2.1.2.2.2.1, ()), t10, t11, w64 (t12 + 1), ())
  else
    (c_Z32 m_Nodes m_Stack m_Memo m_Done).bind fun r28 =>
    some (((r28.1.1.1, r28.1.1.2.1, r28.1.1.2.2.1, r28.1.1.2.2.2.1, ()), len ops, ()), ())
def B_Z14_L0 (k : Nat) (c_Z40 : C_Z40) (c_Z26 : C_Z26) (c_Z32 : C_Z32) (c_Z42 : C_Z42) (n : Nat) (t : T_Z14_L0) : R_Z14 :=
  lfix n (fun again t => B_Z14_L0b k c_Z40 c_Z26 c_Z32 c_Z42 again t.1 t.2.2.1.2.2.2.1 t.2.2.2.1.1 t.2.2.2.1.2.1 t.2.2.2.1.2.2.1 t.2.2.2.1.2.2.2.1 t.2.2.2.2.1 t.2.2.2.2.2.1 t.2.2.2.2.2.2.1) t
def B_Z14 (k : Nat) (c_Z40 : C_Z40) (c_Z26 : C_Z26) (c_Z32 : C_Z32) (c_Z42 : C_Z42) (ops : List (Int × Int)) : R_Z14 :=
  (c_Z40 0).bind fun r9 =>
  B_Z14_L0 k c_Z40 c_Z26 c_Z32 c_Z42 k (ops, (), ((), (), (), false, ()), (r9.1.1.1, [], r9.1.1.2.2.1, r9.1.1.2.2.2.1, ()), ops, len ops, 0, ())
def F_Z14 : Nat → C_Z14
  | 0, _ => none
  | k + 1, ops => B_Z14 k (F_Z40 k) (F_Z26 k) (F_Z32 k) (F_Z42 k) ops
theorem tot_Z14 {ops : _} {Q : _ → Prop} (h : Tot (fun σ => B_Z14 (σ 0) (F_Z40 (σ 0)) (F_Z26 (σ 0)) (F_Z32 (σ 0)) (F_Z42 (σ 0)) ops) Q) : Tot (fun σ => F_Z14 (σ 0) ops) Q :=
  Tot.call (F := fun k => F_Z14 k ops) (B := fun k => B_Z14 k (F_Z40 k) (F_Z26 k) (F_Z32 k) (F_Z42 k) ops) (fun k => rfl) h
abbrev A_Z14_L0 (Z : Type) : Type := (List (Int × Int)) → Bool → (List (Int × Int × List Int)) → List Int → List Int → Bool → (List (Int × Int)) → Int → Int → Z
abbrev u_Z14_L0 {Z : Type} (f : A_Z14_L0 Z) (t : T_Z14_L0) : Z := f t.1 t.2.2.1.2.2.2.1 t.2.2.2.1.1 t.2.2.2.1.2.1 t.2.2.2.1.2.2.1 t.2.2.2.1.2.2.2.1 t.2.2.2.2.1 t.2.2.2.2.2.1 t.2.2.2.2.2.2.1
theorem loop_Z14_L0 {Q : A_Z14_L0 (((((List (Int × Int × List Int)) × List Int × List Int × Bool × Unit) × Int × Unit) × (Unit)) → Prop)} (I : A_Z14_L0 Prop) (μ : A_Z14_L0 Nat)
    (step : ∀ a0 a1 a2 a3 a4 a5 a6 a7 a8, I a0 a1 a2 a3 a4 a5 a6 a7 a8 → ∀ again : (Nat → Nat) → T_Z14_L0 → R_Z14, Dep 2 again → (∀ y0 y1 y2 y3 y4 y5 y6 y7 y8, I y0 y1 y2 y3 y4 y5 y6 y7 y8 → μ y0 y1 y2 y3 y4 y5 y6 y7 y8 < μ a0 a1 a2 a3 a4 a5 a6 a7 a8 → Tot (fun σ => again σ (y0, (), ((), (), (), y1, ()), (y2, y3, y4, y5, ()), y6, y7, y8, ())) (Q y0 y1 y2 y3 y4 y5 y6 y7 y8)) →
      Tot (fun σ => B_Z14_L0b (σ 0) (F_Z40 (σ 0)) (F_Z26 (σ 0)) (F_Z32 (σ 0)) (F_Z42 (σ 0)) (again σ) a0 a1 a2 a3 a4 a5 a6 a7 a8) (Q a0 a1 a2 a3 a4 a5 a6 a7 a8)) :
    ∀ a0 a1 a2 a3 a4 a5 a6 a7 a8, I a0 a1 a2 a3 a4 a5 a6 a7 a8 → Tot (fun σ => B_Z14_L0 (σ 0) (F_Z40 (σ 0)) (F_Z26 (σ 0)) (F_Z32 (σ 0)) (F_Z42 (σ 0)) (σ 0) (a0, (), ((), (), (), a1, ()), (a2, a3, a4, a5, ()), a6, a7, a8, ())) (Q a0 a1 a2 a3 a4 a5 a6 a7 a8) := fun a0 a1 a2 a3 a4 a5 a6 a7 a8 => Tot.loop0 (L := fun k => B_Z14_L0 k (F_Z40 k) (F_Z26 k) (F_Z32 k) (F_Z42 k)) (B := fun k g => u_Z14_L0 (B_Z14_L0b k (F_Z40 k) (F_Z26 k) (F_Z32 k) (F_Z42 k) g)) (Q := u_Z14_L0 Q) (fun _ _ _ => rfl) (u_Z14_L0 I) (u_Z14_L0 μ)
    (fun t ht again hag h => step t.1 t.2.2.1.2.2.2.1 t.2.2.2.1.1 t.2.2.2.1.2.1 t.2.2.2.1.2.2.1 t.2.2.2.1.2.2.2.1 t.2.2.2.2.1 t.2.2.2.2.2.1 t.2.2.2.2.2.2.1 ht again hag fun y0 y1 y2 y3 y4 y5 y6 y7 y8 => h (y0, (), ((), (), (), y1, ()), (y2, y3, y4, y5, ()), y6, y7, y8, ())) (a0, (), ((), (), (), a1, ()), (a2, a3, a4, a5, ()), a6, a7, a8, ())
abbrev R_Z52 : Type := Option ((Int × Unit) × (Unit))
abbrev C_Z52 : Type := (List (Int × Int)) → R_Z52
def B_Z52 (k : Nat) (c_Z51 : C_Z51) (c_Z14 : C_Z14) (ops : List (Int × Int)) : R_Z52 :=
  (c_Z51 ops).bind fun r6 =>
  bif (!r6.1.1) then
    some (((-2), ()), ())
  else
    (c_Z14 ops).bind fun r10 =>
    bif (r10.1.2.1 == (len ops)) then
      some (((-1), ()), ())
    else
      some ((r10.1.2.1, ()), ())
def F_Z52 : Nat → C_Z52
  | 0, _ => none
  | k + 1, ops => B_Z52 k (F_Z51 k) (F_Z14 k) ops
theorem tot_Z52 {ops : _} {Q : _ → Prop} (h : Tot (fun σ => B_Z52 (σ 0) (F_Z51 (σ 0)) (F_Z14 (σ 0)) ops) Q) : Tot (fun σ => F_Z52 (σ 0) ops) Q :=
  Tot.call (F := fun k => F_Z52 k ops) (B := fun k => B_Z52 k (F_Z51 k) (F_Z14 k) ops) (fun k => rfl) h
abbrev R_Z56 : Type := Option ((Int × Unit) × (Unit))
abbrev C_Z56 : Type := Int → R_Z56
def B_Z56_J2 (k : Nat) (x n2 : Int) : R_Z56 :=
  chk (inb (wu8 (x)) (ByteArray.mk #[0, 1, 2, 2, 3, 3, 3, 3, 4, 4, 4, 4, 4, 4, 4, 4, 5, 5, 5, 5, 5, 5, 5, 5, 5, 5, 5, 5, 5, 5, 5, 5, 6, 6, 6, 6, 6, 6, 6, 6, 6, 6, 6, 6, 6, 6, 6, 6, 6, 6, 6, 6, 6, 6, 6, 6, 6, 6, 6, 6, 6, 6, 6, 6, 7, 7, 7, 7, 7, 7, 7, 7, 7, 7, 7, 7, 7, 7, 7, 7, 7, 7, 7, 7, 7, 7, 7, 7, 7, 7, 7, 7, 7, 7, 7, 7, 7, 7, 7, 7, 7, 7, 7, 7, 7, 7, 7, 7, 7, 7, 7, 7, 7, 7, 7, 7, 7, 7, 7, 7, 7, 7, 7, 7, 7, 7, 7, 7, 8, 8, 8, 8, 8, 8, 8, 8, 8, 8, 8, 8, 8, 8, 8, 8, 8, 8, 8, 8, 8, 8, 8, 8, 8, 8, 8, 8, 8, 8, 8, 8, 8, 8, 8, 8, 8, 8, 8, 8, 8, 8, 8, 8, 8, 8, 8, 8, 8, 8, 8, 8, 8, 8, 8, 8, 8, 8, 8, 8, 8, 8, 8, 8, 8, 8, 8, 8, 8, 8, 8, 8, 8, 8, 8, 8, 8, 8, 8, 8, 8, 8, 8, 8, 8, 8, 8, 8, 8, 8, 8, 8, 8, 8, 8, 8, 8, 8, 8, 8, 8, 8, 8, 8, 8, 8, 8, 8, 8, 8, 8, 8, 8, 8, 8, 8, 8, 8, 8, 8, 8, 8, 8, 8, 8, 8, 8, 8]).size) <|
  let v22 : Int := (btx (ByteArray.mk #[0, 1, 2, 2, 3, 3, 3, 3, 4, 4, 4, 4, 4, 4, 4, 4, 5, 5, 5, 5, 5, 5, 5, 5, 5, 5, 5, 5, 5, 5, 5, 5, 6, 6, 6, 6, 6, 6, 6, 6, 6, 6, 6, 6, 6, 6, 6, 6, 6, 6, 6, 6, 6, 6, 6, 6, 6, 6, 6, 6, 6, 6, 6, 6, 7, 7, 7, 7, 7, 7, 7, 7, 7, 7, 7, 7, 7, 7, 7, 7, 7, 7, 7, 7, 7, 7, 7, 7, 7, 7, 7, 7, 7, 7, 7, 7, 7, 7, 7, 7, 7, 7, 7, 7, 7, 7, 7, 7, 7, 7, 7, 7, 7, 7, 7, 7, 7, 7, 7, 7, 7, 7, 7, 7, 7, 7, 7, 7, 8, 8, 8, 8, 8, 8, 8, 8, 8, 8, 8, 8, 8, 8, 8, 8, 8, 8, 8, 8, 8, 8, 8, 8, 8, 8, 8, 8, 8, 8, 8, 8, 8, 8, 8, 8, 8, 8, 8, 8, 8, 8, 8, 8, 8, 8, 8, 8, 8, 8, 8, 8, 8, 8, 8, 8, 8, 8, 8, 8, 8, 8, 8, 8, 8, 8, 8, 8, 8, 8, 8, 8, 8, 8, 8, 8, 8, 8, 8, 8, 8, 8, 8, 8, 8, 8, 8, 8, 8, 8, 8, 8, 8, 8, 8, 8, 8, 8, 8, 8, 8, 8, 8, 8, 8, 8, 8, 8, 8, 8, 8, 8, 8, 8, 8, 8, 8, 8, 8, 8, 8, 8, 8, 8, 8, 8, 8, 8]) (wu8 (x)))
  some ((w64 (n2 + (w64 (v22))), ()), ())
def B_Z56_J1 (k : Nat) (x n2 : Int) : R_Z56 :=
  bif decide (x ≥ 256) then
    jn (fun t => B_Z56_J2 k t.1 t.2.1) ((shrK .u64 x 8), w64 (n2 + 8), ())
  else
    jn (fun t => B_Z56_J2 k t.1 t.2.1) (x, n2, ())
def B_Z56_J0 (k : Nat) (x n2 : Int) : R_Z56 :=
  bif decide (x ≥ 65536) then
    jn (fun t => B_Z56_J1 k t.1 t.2.1) ((shrK .u64 x 16), w64 (n2 + 16), ())
  else
    jn (fun t => B_Z56_J1 k t.1 t.2.1) (x, n2, ())
def B_Z56 (k : Nat) (x : Int) : R_Z56 :=
  bif decide (x ≥ 4294967296) then
    jn (fun t => B_Z56_J0 k t.1 t.2.1) ((shrK .u64 x 32), 32, ())
  else
    jn (fun t => B_Z56_J0 k t.1 t.2.1) (x, 0, ())
def F_Z56 : Nat → C_Z56
  | 0, _ => none
  | k + 1, x => B_Z56 k x
theorem tot_Z56 {x : _} {Q : _ → Prop} (h : Tot (fun σ => B_Z56 (σ 0) x) Q) : Tot (fun σ => F_Z56 (σ 0) x) Q :=
  Tot.call (F := fun k => F_Z56 k x) (B := fun k => B_Z56 k x) (fun k => rfl) h
abbrev R_bits_Len : Type := Option ((Int × Unit) × (Unit))
abbrev C_bits_Len : Type := Int → R_bits_Len
def B_bits_Len (k : Nat) (c_Z56 : C_Z56) (x : Int) : R_bits_Len :=
  (c_Z56 x).bind fun r7 =>
  some ((r7.1.1, ()), ())
def F_bits_Len : Nat → C_bits_Len
  | 0, _ => none
  | k + 1, x => B_bits_Len k (F_Z56 k) x
theorem tot_bits_Len {x : _} {Q : _ → Prop} (h : Tot (fun σ => B_bits_Len (σ 0) (F_Z56 (σ 0)) x) Q) : Tot (fun σ => F_bits_Len (σ 0) x) Q :=
  Tot.call (F := fun k => F_bits_Len k x) (B := fun k => B_bits_Len k (F_Z56 k) x) (fun k => rfl) h
abbrev R_Z30 : Type := Option ((Bool × Unit) × (Unit))
abbrev C_Z30 : Type := Int → R_Z30
def B_Z30 (k : Nat) (x : Int) : R_Z30 :=
  some (((x != x), ()), ())
def F_Z30 : Nat → C_Z30
  | 0, _ => none
  | k + 1, x => B_Z30 k x
theorem tot_Z30 {x : _} {Q : _ → Prop} (h : Tot (fun σ => B_Z30 (σ 0) x) Q) : Tot (fun σ => F_Z30 (σ 0) x) Q :=
  Tot.call (F := fun k => F_Z30 k x) (B := fun k => B_Z30 k x) (fun k => rfl) h
abbrev R_Z37 : Type := Option ((Bool × Unit) × (Unit))
abbrev C_Z37 : Type := Int → Int → R_Z37
def B_Z37 (k : Nat) (c_Z30 : C_Z30) (x y : Int) : R_Z37 :=
  (c_Z30 x).bind fun r6 =>
  bif r6.1.1 then
    (c_Z30 y).bind fun r9 =>
    bif (!r9.1.1) then
      some ((true, ()), ())
    else
      some ((decide (x < y), ()), ())
  else
    some ((decide (x < y), ()), ())
def F_Z37 : Nat → C_Z37
  | 0, _, _ => none
  | k + 1, x, y => B_Z37 k (F_Z30 k) x y
theorem tot_Z37 {x y : _} {Q : _ → Prop} (h : Tot (fun σ => B_Z37 (σ 0) (F_Z30 (σ 0)) x y) Q) : Tot (fun σ => F_Z37 (σ 0) x y) Q :=
  Tot.call (F := fun k => F_Z37 k x y) (B := fun k => B_Z37 k (F_Z30 k) x y) (fun k => rfl) h
abbrev R_Z4 : Type := Option ((Unit) × (List Int × Unit))
abbrev C_Z4 : Type := List Int → Int → Int → R_Z4
abbrev T_Z4_L1 : Type := List Int × Int × Int × Int × Int × Unit
abbrev T_Z4_L2 : Type := List Int × Int × Int × Int × Unit
def B_Z4_J0 (k : Nat) (c_Z37 : C_Z37) (again1 : T_Z4_L1 → R_Z4) (again2 : T_Z4_L2 → R_Z4) (data : List Int) (a b i j : Int) (t30 : Bool) : R_Z4 :=
  bif t30 then
    chk (inb (w64 (j - 1)) data.length) <|
    chk (decide ((w64 (j - 1)).toNat < data.length)) <|
    chk (inb j data.length) <|
    chk (decide (j.toNat < data.length)) <|
    chk (inb j data.length) <|
    chk (decide (j.toNat < data.length)) <|
    chk (inb (w64 (j - 1)) (data.set j.toNat (data.getD ((w64 (j - 1)).toNat) (0 : Int))).length) <|
    chk (decide ((w64 (j - 1)).toNat < (data.set j.toNat (data.getD ((w64 (j - 1)).toNat) (0 : Int))).length)) <|
    again1 (((data.set j.toNat (data.getD ((w64 (j - 1)).toNat) (0 : Int))).set ((w64 (j - 1)).toNat) (data.getD j.toNat (0 : Int))), a, b, i, w64 (j - 1), ())
  else
    again2 (data, a, b, w64 (i + 1), ())
def B_Z4_L1b (k : Nat) (c_Z37 : C_Z37) (again2 : T_Z4_L2 → R_Z4) (again1 : T_Z4_L1 → R_Z4) (data : List Int) (a b i j : Int) : R_Z4 :=
  bif decide (j > a) then
    chk (inb j data.length) <|
    chk (decide (j.toNat < data.length)) <|
    chk (inb (w64 (j - 1)) data.length) <|
    chk (decide ((w64 (j - 1)).toNat < data.length)) <|
    (c_Z37 (data.getD j.toNat (0 : Int)) (data.getD ((w64 (j - 1)).toNat) (0 : Int))).bind fun r29 =>
    jn (fun t => B_Z4_J0 k c_Z37 again1 again2 t.1 t.2.1 t.2.2.1 t.2.2.2.1 t.2.2.2.2.1 t.2.2.2.2.2.1) (data, a, b, i, j, r29.1.1, ())
  else
    jn (fun t => B_Z4_J0 k c_Z37 again1 again2 t.1 t.2.1 t.2.2.1 t.2.2.2.1 t.2.2.2.2.1 t.2.2.2.2.2.1) (data, a, b, i, j, false, ())
def B_Z4_L1 (k : Nat) (c_Z37 : C_Z37) (again2 : T_Z4_L2 → R_Z4) (n : Nat) (t : T_Z4_L1) : R_Z4 :=
  lfix n (fun again t => B_Z4_L1b k c_Z37 again2 again t.1 t.2.1 t.2.2.1 t.2.2.2.1 t.2.2.2.2.1) t
def B_Z4_L2b (k : Nat) (c_Z37 : C_Z37) (again2 : T_Z4_L2 → R_Z4) (data : List Int) (a b i : Int) : R_Z4 :=
  bif decide (i < b) then
    B_Z4_L1 k c_Z37 again2 k (data, a, b, i, i, ())
  else
    some ((), (data, ()))
def B_Z4_L2 (k : Nat) (c_Z37 : C_Z37) (n : Nat) (t : T_Z4_L2) : R_Z4 :=
  lfix n (fun again t => B_Z4_L2b k c_Z37 again t.1 t.2.1 t.2.2.1 t.2.2.2.1) t
def B_Z4 (k : Nat) (c_Z37 : C_Z37) (data : List Int) (a b : Int) : R_Z4 :=
  B_Z4_L2 k c_Z37 k (data, a, b, w64 (a + 1), ())
def F_Z4 : Nat → C_Z4
  | 0, _, _, _ => none
  | k + 1, data, a, b => B_Z4 k (F_Z37 k) data a b
theorem tot_Z4 {data a b : _} {Q : _ → Prop} (h : Tot (fun σ => B_Z4 (σ 0) (F_Z37 (σ 0)) data a b) Q) : Tot (fun σ => F_Z4 (σ 0) data a b) Q :=
  Tot.call (F := fun k => F_Z4 k data a b) (B := fun k => B_Z4 k (F_Z37 k) data a b) (fun k => rfl) h
abbrev A_Z4_L1 (Z : Type) : Type := List Int → Int → Int → Int → Int → Z
abbrev u_Z4_L1 {Z : Type} (f : A_Z4_L1 Z) (t : T_Z4_L1) : Z := f t.1 t.2.1 t.2.2.1 t.2.2.2.1 t.2.2.2.2.1
theorem loop_Z4_L1 {again2 : (Nat → Nat) → T_Z4_L2 → R_Z4} (hag2 : Dep 2 again2) {Q : A_Z4_L1 (((Unit) × (List Int × Unit)) → Prop)} (I : A_Z4_L1 Prop) (μ : A_Z4_L1 Nat)
    (step : ∀ a0 a1 a2 a3 a4, I a0 a1 a2 a3 a4 → ∀ again : (Nat → Nat) → T_Z4_L1 → R_Z4, Dep 3 again → (∀ y0 y1 y2 y3 y4, I y0 y1 y2 y3 y4 → μ y0 y1 y2 y3 y4 < μ a0 a1 a2 a3 a4 → Tot (fun σ => again σ (y0, y1, y2, y3, y4, ())) (Q y0 y1 y2 y3 y4)) →
      Tot (fun σ => B_Z4_L1b (σ 0) (F_Z37 (σ 0)) (again2 σ) (again σ) a0 a1 a2 a3 a4) (Q a0 a1 a2 a3 a4)) :
    ∀ a0 a1 a2 a3 a4, I a0 a1 a2 a3 a4 → Tot (fun σ => B_Z4_L1 (σ 0) (F_Z37 (σ 0)) (again2 σ) (σ 0) (a0, a1, a2, a3, a4, ())) (Q a0 a1 a2 a3 a4) := fun a0 a1 a2 a3 a4 => Tot.loop (L := fun σ n t => B_Z4_L1 (σ 0) (F_Z37 (σ 0)) (again2 σ) n t) (B := fun σ g => u_Z4_L1 (B_Z4_L1b (σ 0) (F_Z37 (σ 0)) (again2 σ) g)) (Q := u_Z4_L1 Q) 2 (by decide)
    (fun s s' h => by have e0 : s 0 = s' 0 := h 0 (by decide); simp only [e0, hag2 s s' h]) (fun s s' h => by have e0 : s 0 = s' 0 := h 0 (by decide); simp only [e0, hag2 s s' h]) (fun _ _ _ => rfl) (u_Z4_L1 I) (u_Z4_L1 μ)
    (fun t ht again hag h => step t.1 t.2.1 t.2.2.1 t.2.2.2.1 t.2.2.2.2.1 ht again hag fun y0 y1 y2 y3 y4 => h (y0, y1, y2, y3, y4, ())) (a0, a1, a2, a3, a4, ())
abbrev A_Z4_L2 (Z : Type) : Type := List Int → Int → Int → Int → Z
abbrev u_Z4_L2 {Z : Type} (f : A_Z4_L2 Z) (t : T_Z4_L2) : Z := f t.1 t.2.1 t.2.2.1 t.2.2.2.1
theorem loop_Z4_L2 {Q : A_Z4_L2 (((Unit) × (List Int × Unit)) → Prop)} (I : A_Z4_L2 Prop) (μ : A_Z4_L2 Nat)
    (step : ∀ a0 a1 a2 a3, I a0 a1 a2 a3 → ∀ again : (Nat → Nat) → T_Z4_L2 → R_Z4, Dep 2 again → (∀ y0 y1 y2 y3, I y0 y1 y2 y3 → μ y0 y1 y2 y3 < μ a0 a1 a2 a3 → Tot (fun σ => again σ (y0, y1, y2, y3, ())) (Q y0 y1 y2 y3)) →
      Tot (fun σ => B_Z4_L2b (σ 0) (F_Z37 (σ 0)) (again σ) a0 a1 a2 a3) (Q a0 a1 a2 a3)) :
    ∀ a0 a1 a2 a3, I a0 a1 a2 a3 → Tot (fun σ => B_Z4_L2 (σ 0) (F_Z37 (σ 0)) (σ 0) (a0, a1, a2, a3, ())) (Q a0 a1 a2 a3) := fun a0 a1 a2 a3 => Tot.loop0 (L := fun k => B_Z4_L2 k (F_Z37 k)) (B := fun k g => u_Z4_L2 (B_Z4_L2b k (F_Z37 k) g)) (Q := u_Z4_L2 Q) (fun _ _ _ => rfl) (u_Z4_L2 I) (u_Z4_L2 μ)
    (fun t ht again hag h => step t.1 t.2.1 t.2.2.1 t.2.2.2.1 ht again hag fun y0 y1 y2 y3 => h (y0, y1, y2, y3, ())) (a0, a1, a2, a3, ())
abbrev R_Z10 : Type := Option ((Unit) × (List Int × Unit))
abbrev C_Z10 : Type := List Int → Int → Int → Int → R_Z10
abbrev T_Z10_L2 : Type := List Int × Int × Int × Int × Unit
def B_Z10_J1 (k : Nat) (c_Z37 : C_Z37) (again2 : T_Z10_L2 → R_Z10) (data : List Int) (hi first root child : Int) : R_Z10 :=
  chk (inb (w64 (first + root)) data.length) <|
  chk (decide ((w64 (first + root)).toNat < data.length)) <|
  chk (inb (w64 (first + child)) data.length) <|
  chk (decide ((w64 (first + child)).toNat < data.length)) <|
  (c_Z37 (data.getD ((w64 (first + root)).toNat) (0 : Int)) (data.getD ((w64 (first + child)).toNat) (0 : Int))).bind fun r51 =>
  bif (!r51.1.1) then
    some ((), (data, ()))
  else
    chk (inb (w64 (first + child)) data.length) <|
    chk (decide ((w64 (first + child)).toNat < data.length)) <|
    chk (inb (w64 (first + root)) data.length) <|
    chk (decide ((w64 (first + root)).toNat < data.length)) <|
    chk (inb (w64 (first + root)) data.length) <|
    chk (decide ((w64 (first + root)).toNat < data.length)) <|
    chk (inb (w64 (first + child)) (data.set ((w64 (first + root)).toNat) (data.getD ((w64 (first + child)).toNat) (0 : Int))).length) <|
    chk (decide ((w64 (first + child)).toNat < (data.set ((w64 (first + root)).toNat) (data.getD ((w64 (first + child)).toNat) (0 : Int))).length)) <|
    again2 (((data.set ((w64 (first + root)).toNat) (data.getD ((w64 (first + child)).toNat) (0 : Int))).set ((w64 (first + child)).toNat) (data.getD ((w64 (first + root)).toNat) (0 : Int))), hi, first, child, ())
def B_Z10_J0 (k : Nat) (c_Z37 : C_Z37) (again2 : T_Z10_L2 → R_Z10) (data : List Int) (hi first root child : Int) (t36 : Bool) : R_Z10 :=
  bif t36 then
    jn (fun t => B_Z10_J1 k c_Z37 again2 t.1 t.2.1 t.2.2.1 t.2.2.2.1 t.2.2.2.2.1) (data, hi, first, root, w64 (child + 1), ())
  else
    jn (fun t => B_Z10_J1 k c_Z37 again2 t.1 t.2.1 t.2.2.1 t.2.2.2.1 t.2.2.2.2.1) (data, hi, first, root, child, ())
def B_Z10_L2b (k : Nat) (c_Z37 : C_Z37) (again2 : T_Z10_L2 → R_Z10) (data : List Int) (hi first root : Int) : R_Z10 :=
  bif decide ((w64 ((w64 (2 * root)) + 1)) ≥ hi) then
    some ((), (data, ()))
  else
    bif decide ((w64 ((w64 ((w64 (2 * root)) + 1)) + 1)) < hi) then
      chk (inb (w64 (first + (w64 ((w64 (2 * root)) + 1)))) data.length) <|
      chk (decide ((w64 (first + (w64 ((w64 (2 * root)) + 1)))).toNat < data.length)) <|
      chk (inb (w64 ((w64 (first + (w64 ((w64 (2 * root)) + 1)))) + 1)) data.length) <|
      chk (decide ((w64 ((w64 (first + (w64 ((w64 (2 * root)) + 1)))) + 1)).toNat < data.length)) <|
      (c_Z37 (data.getD ((w64 (first + (w64 ((w64 (2 * root)) + 1)))).toNat) (0 : Int)) (data.getD ((w64 ((w64 (first + (w64 ((w64 (2 * root)) + 1)))) + 1)).toNat) (0 : Int))).bind fun r35 =>
      jn (fun t => B_Z10_J0 k c_Z37 again2 t.1 t.2.1 t.2.2.1 t.2.2.2.1 t.2.2.2.2.1 t.2.2.2.2.2.1) (data, hi, first, root, w64 ((w64 (2 * root)) + 1), r35.1.1, ())
    else
      jn (fun t => B_Z10_J0 k c_Z37 again2 t.1 t.2.1 t.2.2.1 t.2.2.2.1 t.2.2.2.2.1 t.2.2.2.2.2.1) (data, hi, first, root, w64 ((w64 (2 * root)) + 1), false, ())
def B_Z10_L2 (k : Nat) (c_Z37 : C_Z37) (n : Nat) (t : T_Z10_L2) : R_Z10 :=
  lfix n (fun again t => B_Z10_L2b k c_Z37 again t.1 t.2.1 t.2.2.1 t.2.2.2.1) t
def B_Z10 (k : Nat) (c_Z37 : C_Z37) (data : List Int) (lo hi first : Int) : R_Z10 :=
  B_Z10_L2 k c_Z37 k (data, hi, first, lo, ())
def F_Z10 : Nat → C_Z10
  | 0, _, _, _, _ => none
  | k + 1, data, lo, hi, first => B_Z10 k (F_Z37 k) data lo hi first
theorem tot_Z10 {data lo hi first : _} {Q : _ → Prop} (h : Tot (fun σ => B_Z10 (σ 0) (F_Z37 (σ 0)) data lo hi first) Q) : Tot (fun σ => F_Z10 (σ 0) data lo hi first) Q :=
  Tot.call (F := fun k => F_Z10 k data lo hi first) (B := fun k => B_Z10 k (F_Z37 k) data lo hi first) (fun k => rfl) h
abbrev A_Z10_L2 (Z : Type) : Type := List Int → Int → Int → Int → Z
abbrev u_Z10_L2 {Z : Type} (f : A_Z10_L2 Z) (t : T_Z10_L2) : Z := f t.1 t.2.1 t.2.2.1 t.2.2.2.1
theorem loop_Z10_L2 {Q : A_Z10_L2 (((Unit) × (List Int × Unit)) → Prop)} (I : A_Z10_L2 Prop) (μ : A_Z10_L2 Nat)
    (step : ∀ a0 a1 a2 a3, I a0 a1 a2 a3 → ∀ again : (Nat → Nat) → T_Z10_L2 → R_Z10, Dep 2 again → (∀ y0 y1 y2 y3, I y0 y1 y2 y3 → μ y0 y1 y2 y3 < μ a0 a1 a2 a3 → Tot (fun σ => again σ (y0, y1, y2, y3, ())) (Q y0 y1 y2 y3)) →
      Tot (fun σ => B_Z10_L2b (σ 0) (F_Z37 (σ 0)) (again σ) a0 a1 a2 a3) (Q a0 a1 a2 a3)) :
    ∀ a0 a1 a2 a3, I a0 a1 a2 a3 → Tot (fun σ => B_Z10_L2 (σ 0) (F_Z37 (σ 0)) (σ 0) (a0, a1, a2, a3, ())) (Q a0 a1 a2 a3) := fun a0 a1 a2 a3 => Tot.loop0 (L := fun k => B_Z10_L2 k (F_Z37 k)) (B := fun k g => u_Z10_L2 (B_Z10_L2b k (F_Z37 k) g)) (Q := u_Z10_L2 Q) (fun _ _ _ => rfl) (u_Z10_L2 I) (u_Z10_L2 μ)
    (fun t ht again hag h => step t.1 t.2.1 t.2.2.1 t.2.2.2.1 ht again hag fun y0 y1 y2 y3 => h (y0, y1, y2, y3, ())) (a0, a1, a2, a3, ())
abbrev R_Z9 : Type := Option ((Unit) × (List Int × Unit))
abbrev C_Z9 : Type := List Int → Int → Int → R_Z9
abbrev T_Z9_L1 : Type := List Int × Int × Int × Int × Unit
abbrev T_Z9_L0 : Type := List Int × Int × Int × Int × Int × Unit
def B_Z9_L1b (k : Nat) (c_Z10 : C_Z10) (again1 : T_Z9_L1 → R_Z9) (data : List Int) (first lo i : Int) : R_Z9 :=
  bif decide (i ≥ 0) then
    chk (inb (w64 (first + i)) data.length) <|
    chk (decide ((w64 (first + i)).toNat < data.length)) <|
    chk (inb first data.length) <|
    chk (decide (first.toNat < data.length)) <|
    chk (inb first data.length) <|
    chk (decide (first.toNat < data.length)) <|
    chk (inb (w64 (first + i)) (data.set first.toNat (data.getD ((w64 (first + i)).toNat) (0 : Int))).length) <|
    chk (decide ((w64 (first + i)).toNat < (data.set first.toNat (data.getD ((w64 (first + i)).toNat) (0 : Int))).length)) <|
    (c_Z10 ((data.set first.toNat (data.getD ((w64 (first + i)).toNat) (0 : Int))).set ((w64 (first + i)).toNat) (data.getD first.toNat (0 : Int))) lo i first).bind fun r55 =>
    again1 (r55.2.1, first, lo, w64 (i - 1), ())
  else
    some ((), (data, ()))
def B_Z9_L1 (k : Nat) (c_Z10 : C_Z10) (n : Nat) (t : T_Z9_L1) : R_Z9 :=
  lfix n (fun again t => B_Z9_L1b k c_Z10 again t.1 t.2.1 t.2.2.1 t.2.2.2.1) t
def B_Z9_L0b (k : Nat) (c_Z10 : C_Z10) (again0 : T_Z9_L0 → R_Z9) (data : List Int) (first lo hi i : Int) : R_Z9 :=
  bif decide (i ≥ 0) then
    (c_Z10 data i hi first).bind fun r26 =>
    again0 (r26.2.1, first, lo, hi, w64 (i - 1), ())
  else
    B_Z9_L1 k c_Z10 k (data, first, lo, w64 (hi - 1), ())
def B_Z9_L0 (k : Nat) (c_Z10 : C_Z10) (n : Nat) (t : T_Z9_L0) : R_Z9 :=
  lfix n (fun again t => B_Z9_L0b k c_Z10 again t.1 t.2.1 t.2.2.1 t.2.2.2.1 t.2.2.2.2.1) t
def B_Z9 (k : Nat) (c_Z10 : C_Z10) (data : List Int) (a b : Int) : R_Z9 :=
  B_Z9_L0 k c_Z10 k (data, a, 0, w64 (b - a), w64 ((w64 ((w64 (b - a)) - 1)).tdiv 2), ())
def F_Z9 : Nat → C_Z9
  | 0, _, _, _ => none
  | k + 1, data, a, b => B_Z9 k (F_Z10 k) data a b
theorem tot_Z9 {data a b : _} {Q : _ → Prop} (h : Tot (fun σ => B_Z9 (σ 0) (F_Z10 (σ 0)) data a b) Q) : Tot (fun σ => F_Z9 (σ 0) data a b) Q :=
  Tot.call (F := fun k => F_Z9 k data a b) (B := fun k => B_Z9 k (F_Z10 k) data a b) (fun k => rfl) h
abbrev A_Z9_L1 (Z : Type) : Type := List Int → Int → Int → Int → Z
abbrev u_Z9_L1 {Z : Type} (f : A_Z9_L1 Z) (t : T_Z9_L1) : Z := f t.1 t.2.1 t.2.2.1 t.2.2.2.1
theorem loop_Z9_L1 {Q : A_Z9_L1 (((Unit) × (List Int × Unit)) → Prop)} (I : A_Z9_L1 Prop) (μ : A_Z9_L1 Nat)
    (step : ∀ a0 a1 a2 a3, I a0 a1 a2 a3 → ∀ again : (Nat → Nat) → T_Z9_L1 → R_Z9, Dep 2 again → (∀ y0 y1 y2 y3, I y0 y1 y2 y3 → μ y0 y1 y2 y3 < μ a0 a1 a2 a3 → Tot (fun σ => again σ (y0, y1, y2, y3, ())) (Q y0 y1 y2 y3)) →
      Tot (fun σ => B_Z9_L1b (σ 0) (F_Z10 (σ 0)) (again σ) a0 a1 a2 a3) (Q a0 a1 a2 a3)) :
    ∀ a0 a1 a2 a3, I a0 a1 a2 a3 → Tot (fun σ => B_Z9_L1 (σ 0) (F_Z10 (σ 0)) (σ 0) (a0, a1, a2, a3, ())) (Q a0 a1 a2 a3) := fun a0 a1 a2 a3 => Tot.loop0 (L := fun k => B_Z9_L1 k (F_Z10 k)) (B := fun k g => u_Z9_L1 (B_Z9_L1b k (F_Z10 k) g)) (Q := u_Z9_L1 Q) (fun _ _ _ => rfl) (u_Z9_L1 I) (u_Z9_L1 μ)
    (fun t ht again hag h => step t.1 t.2.1 t.2.2.1 t.2.2.2.1 ht again hag fun y0 y1 y2 y3 => h (y0, y1, y2, y3, ())) (a0, a1, a2, a3, ())
abbrev A_Z9_L0 (Z : Type) : Type := List Int → Int → Int → Int → Int → Z
abbrev u_Z9_L0 {Z : Type} (f : A_Z9_L0 Z) (t : T_Z9_L0) : Z := f t.1 t.2.1 t.2.2.1 t.2.2.2.1 t.2.2.2.2.1
theorem loop_Z9_L0 {Q : A_Z9_L0 (((Unit) × (List Int × Unit)) → Prop)} (I : A_Z9_L0 Prop) (μ : A_Z9_L0 Nat)
    (step : ∀ a0 a1 a2 a3 a4, I a0 a1 a2 a3 a4 → ∀ again : (Nat → Nat) → T_Z9_L0 → R_Z9, Dep 2 again → (∀ y0 y1 y2 y3 y4, I y0 y1 y2 y3 y4 → μ y0 y1 y2 y3 y4 < μ a0 a1 a2 a3 a4 → Tot (fun σ => again σ (y0, y1, y2, y3, y4, ())) (Q y0 y1 y2 y3 y4)) →
      Tot (fun σ => B_Z9_L0b (σ 0) (F_Z10 (σ 0)) (again σ) a0 a1 a2 a3 a4) (Q a0 a1 a2 a3 a4)) :
    ∀ a0 a1 a2 a3 a4, I a0 a1 a2 a3 a4 → Tot (fun σ => B_Z9_L0 (σ 0) (F_Z10 (σ 0)) (σ 0) (a0, a1, a2, a3, a4, ())) (Q a0 a1 a2 a3 a4) := fun a0 a1 a2 a3 a4 => Tot.loop0 (L := fun k => B_Z9_L0 k (F_Z10 k)) (B := fun k g => u_Z9_L0 (B_Z9_L0b k (F_Z10 k) g)) (Q := u_Z9_L0 Q) (fun _ _ _ => rfl) (u_Z9_L0 I) (u_Z9_L0 μ)
    (fun t ht again hag h => step t.1 t.2.1 t.2.2.1 t.2.2.2.1 t.2.2.2.2.1 ht again hag fun y0 y1 y2 y3 y4 => h (y0, y1, y2, y3, y4, ())) (a0, a1, a2, a3, a4, ())
abbrev R_Z16 : Type := Option ((Int × Unit) × (Unit))
abbrev C_Z16 : Type := Int → R_Z16
def B_Z16 (k : Nat) (c_bits_Len : C_bits_Len) (length : Int) : R_Z16 :=
  (c_bits_Len (IntKind.wrap .u64 (length))).bind fun r5 =>
  chk (decide (0 ≤ r5.1.1)) <|
  some (((shlK .u64 1 r5.1.1), ()), ())
def F_Z16 : Nat → C_Z16
  | 0, _ => none
  | k + 1, length => B_Z16 k (F_bits_Len k) length
theorem tot_Z16 {length : _} {Q : _ → Prop} (h : Tot (fun σ => B_Z16 (σ 0) (F_bits_Len (σ 0)) length) Q) : Tot (fun σ => F_Z16 (σ 0) length) Q :=
  Tot.call (F := fun k => F_Z16 k length) (B := fun k => B_Z16 k (F_bits_Len k) length) (fun k => rfl) h
abbrev R_Z17 : Type := Option ((Int × Unit) × ((Int × Unit) × Unit))
abbrev C_Z17 : Type := Int → R_Z17
def B_Z17 (k : Nat) (r : Int) : R_Z17 :=
  let v27 : Int := (shlK .u64 (xorK .u64 (xorK .u64 r (shlK .u64 r 13)) (shrK .u64 (xorK .u64 r (shlK .u64 r 13)) 7)) 17)
  let v28 : Int := (xorK .u64 (xorK .u64 (xorK .u64 r (shlK .u64 r 13)) (shrK .u64 (xorK .u64 r (shlK .u64 r 13)) 7)) v27)
  some ((v28, ()), ((v28, ()), ()))
def F_Z17 : Nat → C_Z17
  | 0, _ => none
  | k + 1, r => B_Z17 k r
theorem tot_Z17 {r : _} {Q : _ → Prop} (h : Tot (fun σ => B_Z17 (σ 0) r) Q) : Tot (fun σ => F_Z17 (σ 0) r) Q :=
  Tot.call (F := fun k => F_Z17 k r) (B := fun k => B_Z17 k r) (fun k => rfl) h
abbrev R_Z3 : Type := Option ((Unit) × (List Int × Unit))
abbrev C_Z3 : Type := List Int → Int → Int → R_Z3
abbrev T_Z3_L1 : Type := List Int × Int × Int × (Int × Unit) × Int × Int × Unit
def B_Z3_J0 (k : Nat) (c_Z16 : C_Z16) (c_Z17 : C_Z17) (again1 : T_Z3_L1 → R_Z3) (data : List Int) (a length random modulus idx other : Int) : R_Z3 :=
  chk (inb (w64 (a + other)) data.length) <|
  chk (decide ((w64 (a + other)).toNat < data.length)) <|
  chk (inb idx data.length) <|
  chk (decide (idx.toNat < data.length)) <|
  chk (inb idx data.length) <|
  chk (decide (idx.toNat < data.length)) <|
  chk (inb (w64 (a + other)) (data.set idx.toNat (data.getD ((w64 (a + other)).toNat) (0 : Int))).length) <|
  chk (decide ((w64 (a + other)).toNat < (data.set idx.toNat (data.getD ((w64 (a + other)).toNat) (0 : Int))).length)) <|
  again1 (((data.set idx.toNat (data.getD ((w64 (a + other)).toNat) (0 : Int))).set ((w64 (a + other)).toNat) (data.getD idx.toNat (0 : Int))), a, length, (random, ()), modulus, w64 (idx + 1), ())
def B_Z3_L1b (k : Nat) (c_Z16 : C_Z16) (c_Z17 : C_Z17) (again1 : T_Z3_L1 → R_Z3) (data : List Int) (a length random modulus idx : Int) : R_Z3 :=
  bif decide (idx ≤ (w64 ((w64 (a + (w64 ((w64 (length.tdiv 4)) * 2)))) + 1))) then
    (c_Z17 random).bind fun r36 =>
    bif decide ((w64 ((andK .u64 r36.1.1 (IntKind.wrap .u64 (modulus - 1))))) ≥ length) then
      jn (fun t => B_Z3_J0 k c_Z16 c_Z17 again1 t.1 t.2.1 t.2.2.1 t.2.2.2.1.1 t.2.2.2.2.1 t.2.2.2.2.2.1 t.2.2.2.2.2.2.1) (data, a, length, (r36.2.1.1, ()), modulus, idx, w64 ((w64 ((andK .u64 r36.1.1 (IntKind.wrap .u64 (modulus - 1))))) - length), ())
    else
      jn (fun t => B_Z3_J0 k c_Z16 c_Z17 again1 t.1 t.2.1 t.2.2.1 t.2.2.2.1.1 t.2.2.2.2.1 t.2.2.2.2.2.1 t.2.2.2.2.2.2.1) (data, a, length, (r36.2.1.1, ()), modulus, idx, w64 ((andK .u64 r36.1.1 (IntKind.wrap .u64 (modulus - 1)))), ())
  else
    some ((), (data, ()))
def B_Z3_L1 (k : Nat) (c_Z16 : C_Z16) (c_Z17 : C_Z17) (n : Nat) (t : T_Z3_L1) : R_Z3 :=
  lfix n (fun again t => B_Z3_L1b k c_Z16 c_Z17 again t.1 t.2.1 t.2.2.1 t.2.2.2.1.1 t.2.2.2.2.1 t.2.2.2.2.2.1) t
def B_Z3 (k : Nat) (c_Z16 : C_Z16) (c_Z17 : C_Z17) (data : List Int) (a b : Int) : R_Z3 :=
  bif decide ((w64 (b - a)) ≥ 8) then
    (c_Z16 (w64 (b - a))).bind fun r19 =>
    B_Z3_L1 k c_Z16 c_Z17 k (data, a, w64 (b - a), (IntKind.wrap .u64 (w64 (b - a)), ()), r19.1.1, w64 ((w64 (a + (w64 ((w64 ((w64 (b - a)).tdiv 4)) * 2)))) - 1), ())
  else
    some ((), (data, ()))
def F_Z3 : Nat → C_Z3
  | 0, _, _, _ => none
  | k + 1, data, a, b => B_Z3 k (F_Z16 k) (F_Z17 k) data a b
theorem tot_Z3 {data a b : _} {Q : _ → Prop} (h : Tot (fun σ => B_Z3 (σ 0) (F_Z16 (σ 0)) (F_Z17 (σ 0)) data a b) Q) : Tot (fun σ => F_Z3 (σ 0) data a b) Q :=
  Tot.call (F := fun k => F_Z3 k data a b) (B := fun k => B_Z3 k (F_Z16 k) (F_Z17 k) data a b) (fun k => rfl) h
abbrev A_Z3_L1 (Z : Type) : Type := List Int → Int → Int → Int → Int → Int → Z
abbrev u_Z3_L1 {Z : Type} (f : A_Z3_L1 Z) (t : T_Z3_L1) : Z := f t.1 t.2.1 t.2.2.1 t.2.2.2.1.1 t.2.2.2.2.1 t.2.2.2.2.2.1
theorem loop_Z3_L1 {Q : A_Z3_L1 (((Unit) × (List Int × Unit)) → Prop)} (I : A_Z3_L1 Prop) (μ : A_Z3_L1 Nat)
    (step : ∀ a0 a1 a2 a3 a4 a5, I a0 a1 a2 a3 a4 a5 → ∀ again : (Nat → Nat) → T_Z3_L1 → R_Z3, Dep 2 again → (∀ y0 y1 y2 y3 y4 y5, I y0 y1 y2 y3 y4 y5 → μ y0 y1 y2 y3 y4 y5 < μ a0 a1 a2 a3 a4 a5 → Tot (fun σ => again σ (y0, y1, y2, (y3, ()), y4, y5, ())) (Q y0 y1 y2 y3 y4 y5)) →
      Tot (fun σ => B_Z3_L1b (σ 0) (F_Z16 (σ 0)) (F_Z17 (σ 0)) (again σ) a0 a1 a2 a3 a4 a5) (Q a0 a1 a2 a3 a4 a5)) :
    ∀ a0 a1 a2 a3 a4 a5, I a0 a1 a2 a3 a4 a5 → Tot (fun σ => B_Z3_L1 (σ 0) (F_Z16 (σ 0)) (F_Z17 (σ 0)) (σ 0) (a0, a1, a2, (a3, ()), a4, a5, ())) (Q a0 a1 a2 a3 a4 a5) := fun a0 a1 a2 a3 a4 a5 => Tot.loop0 (L := fun k => B_Z3_L1 k (F_Z16 k) (F_Z17 k)) (B := fun k g => u_Z3_L1 (B_Z3_L1b k (F_Z16 k) (F_Z17 k) g)) (Q := u_Z3_L1 Q) (fun _ _ _ => rfl) (u_Z3_L1 I) (u_Z3_L1 μ)
    (fun t ht again hag h => step t.1 t.2.1 t.2.2.1 t.2.2.2.1.1 t.2.2.2.2.1 t.2.2.2.2.2.1 ht again hag fun y0 y1 y2 y3 y4 y5 => h (y0, y1, y2, (y3, ()), y4, y5, ())) (a0, a1, a2, (a3, ()), a4, a5, ())
abbrev R_Z13 : Type := Option ((Int × Int × Unit) × ((Int × Unit) × Unit))
abbrev C_Z13 : Type := List Int → Int → Int → Int → R_Z13
def B_Z13 (k : Nat) (c_Z37 : C_Z37) (data : List Int) (a b swaps : Int) : R_Z13 :=
  chk (inb b data.length) <|
  chk (inb a data.length) <|
  (c_Z37 (rdx (0 : Int) data b) (rdx (0 : Int) data a)).bind fun r18 =>
  bif r18.1.1 then
    some ((b, a, ()), ((w64 (swaps + 1), ()), ()))
  else
    some ((a, b, ()), ((swaps, ()), ()))
def F_Z13 : Nat → C_Z13
  | 0, _, _, _, _ => none
  | k + 1, data, a, b, swaps => B_Z13 k (F_Z37 k) data a b swaps
theorem tot_Z13 {data a b swaps : _} {Q : _ → Prop} (h : Tot (fun σ => B_Z13 (σ 0) (F_Z37 (σ 0)) data a b swaps) Q) : Tot (fun σ => F_Z13 (σ 0) data a b swaps) Q :=
  Tot.call (F := fun k => F_Z13 k data a b swaps) (B := fun k => B_Z13 k (F_Z37 k) data a b swaps) (fun k => rfl) h
abbrev R_Z12 : Type := Option ((Int × Unit) × ((Int × Unit) × Unit))
abbrev C_Z12 : Type := List Int → Int → Int → Int → Int → R_Z12
def B_Z12 (k : Nat) (c_Z13 : C_Z13) (data : List Int) (a b c swaps : Int) : R_Z12 :=
  (c_Z13 data a b swaps).bind fun r16 =>
  (c_Z13 data r16.1.2.1 c r16.2.1.1).bind fun r24 =>
  (c_Z13 data r16.1.1 r24.1.1 r24.2.1.1).bind fun r32 =>
  some ((r32.1.2.1, ()), ((r32.2.1.1, ()), ()))
def F_Z12 : Nat → C_Z12
  | 0, _, _, _, _, _ => none
  | k + 1, data, a, b, c, swaps => B_Z12 k (F_Z13 k) data a b c swaps
theorem tot_Z12 {data a b c swaps : _} {Q : _ → Prop} (h : Tot (fun σ => B_Z12 (σ 0) (F_Z13 (σ 0)) data a b c swaps) Q) : Tot (fun σ => F_Z12 (σ 0) data a b c swaps) Q :=
  Tot.call (F := fun k => F_Z12 k data a b c swaps) (B := fun k => B_Z12 k (F_Z13 k) data a b c swaps) (fun k => rfl) h
abbrev R_Z1 : Type := Option ((Int × Unit) × ((Int × Unit) × Unit))
abbrev C_Z1 : Type := List Int → Int → Int → R_Z1
def B_Z1 (k : Nat) (c_Z12 : C_Z12) (data : List Int) (a swaps : Int) : R_Z1 :=
  (c_Z12 data (w64 (a - 1)) a (w64 (a + 1)) swaps).bind fun r14 =>
  some ((r14.1.1, ()), ((r14.2.1.1, ()), ()))
def F_Z1 : Nat → C_Z1
  | 0, _, _, _ => none
  | k + 1, data, a, swaps => B_Z1 k (F_Z12 k) data a swaps
theorem tot_Z1 {data a swaps : _} {Q : _ → Prop} (h : Tot (fun σ => B_Z1 (σ 0) (F_Z12 (σ 0)) data a swaps) Q) : Tot (fun σ => F_Z1 (σ 0) data a swaps) Q :=
  Tot.call (F := fun k => F_Z1 k data a swaps) (B := fun k => B_Z1 k (F_Z12 k) data a swaps) (fun k => rfl) h
abbrev R_Z6 : Type := Option ((Int × Int × Unit) × (Unit))
abbrev C_Z6 : Type := List Int → Int → Int → R_Z6
def B_Z6_J1 (k : Nat) (c_Z1 : C_Z1) (c_Z12 : C_Z12) (swaps j : Int) : R_Z6 :=
  bif (swaps == 0) then
    some ((j, 1, ()), ())
  else
    bif (swaps == 12) then
      some ((j, 2, ()), ())
    else
      some ((j, 0, ()), ())
def B_Z6_J0 (k : Nat) (c_Z1 : C_Z1) (c_Z12 : C_Z12) (data : List Int) (swaps i j k12 : Int) : R_Z6 :=
  (c_Z12 data i j k12 swaps).bind fun r48 =>
  jn (fun t => B_Z6_J1 k c_Z1 c_Z12 t.1.1 t.2.1) ((r48.2.1.1, ()), r48.1.1, ())
def B_Z6 (k : Nat) (c_Z1 : C_Z1) (c_Z12 : C_Z12) (data : List Int) (a b : Int) : R_Z6 :=
  bif decide ((w64 (b - a)) ≥ 8) then
    bif decide ((w64 (b - a)) ≥ 50) then
      (c_Z1 data (w64 (a + (w64 ((w64 ((w64 (b - a)).tdiv 4)) * 1)))) 0).bind fun r37 =>
      (c_Z1 data (w64 (a + (w64 ((w64 ((w64 (b - a)).tdiv 4)) * 2)))) r37.2.1.1).bind fun r40 =>
      (c_Z1 data (w64 (a + (w64 ((w64 ((w64 (b - a)).tdiv 4)) * 3)))) r40.2.1.1).bind fun r43 =>
      jn (fun t => B_Z6_J0 k c_Z1 c_Z12 t.1 t.2.1.1 t.2.2.1 t.2.2.2.1 t.2.2.2.2.1) (data, (r43.2.1.1, ()), r37.1.1, r40.1.1, r43.1.1, ())
    else
      jn (fun t => B_Z6_J0 k c_Z1 c_Z12 t.1 t.2.1.1 t.2.2.1 t.2.2.2.1 t.2.2.2.2.1) (data, (0, ()), w64 (a + (w64 ((w64 ((w64 (b - a)).tdiv 4)) * 1))), w64 (a + (w64 ((w64 ((w64 (b - a)).tdiv 4)) * 2))), w64 (a + (w64 ((w64 ((w64 (b - a)).tdiv 4)) * 3))), ())
  else
    jn (fun t => B_Z6_J1 k c_Z1 c_Z12 t.1.1 t.2.1) ((0, ()), w64 (a + (w64 ((w64 ((w64 (b - a)).tdiv 4)) * 2))), ())
def F_Z6 : Nat → C_Z6
  | 0, _, _, _ => none
  | k + 1, data, a, b => B_Z6 k (F_Z1 k) (F_Z12 k) data a b
theorem tot_Z6 {data a b : _} {Q : _ → Prop} (h : Tot (fun σ => B_Z6 (σ 0) (F_Z1 (σ 0)) (F_Z12 (σ 0)) data a b) Q) : Tot (fun σ => F_Z6 (σ 0) data a b) Q :=
  Tot.call (F := fun k => F_Z6 k data a b) (B := fun k => B_Z6 k (F_Z1 k) (F_Z12 k) data a b) (fun k => rfl) h
abbrev R_Z5 : Type := Option ((Unit) × (List Int × Unit))
abbrev C_Z5 : Type := List Int → Int → Int → R_Z5
abbrev T_Z5_L0 : Type := List Int × Int × Int × Unit
def B_Z5_L0b (k : Nat) (again0 : T_Z5_L0 → R_Z5) (data : List Int) (i j : Int) : R_Z5 :=
  bif decide (i < j) then
    chk (inb j data.length) <|
    chk (decide (j.toNat < data.length)) <|
    chk (inb i data.length) <|
    chk (decide (i.toNat < data.length)) <|
    chk (inb i data.length) <|
    chk (decide (i.toNat < data.length)) <|
    chk (inb j (data.set i.toNat (data.getD j.toNat (0 : Int))).length) <|
    chk (decide (j.toNat < (data.set i.toNat (data.getD j.toNat (0 : Int))).length)) <|
    again0 (((data.set i.toNat (data.getD j.toNat (0 : Int))).set j.toNat (data.getD i.toNat (0 : Int))), w64 (i + 1), w64 (j - 1), ())
  else
    some ((), (data, ()))
def B_Z5_L0 (k : Nat) (n : Nat) (t : T_Z5_L0) : R_Z5 :=
  lfix n (fun again t => B_Z5_L0b k again t.1 t.2.1 t.2.2.1) t
def B_Z5 (k : Nat) (data : List Int) (a b : Int) : R_Z5 :=
  B_Z5_L0 k k (data, a, w64 (b - 1), ())
def F_Z5 : Nat → C_Z5
  | 0, _, _, _ => none
  | k + 1, data, a, b => B_Z5 k data a b
theorem tot_Z5 {data a b : _} {Q : _ → Prop} (h : Tot (fun σ => B_Z5 (σ 0) data a b) Q) : Tot (fun σ => F_Z5 (σ 0) data a b) Q :=
  Tot.call (F := fun k => F_Z5 k data a b) (B := fun k => B_Z5 k data a b) (fun k => rfl) h
abbrev A_Z5_L0 (Z : Type) : Type := List Int → Int → Int → Z
abbrev u_Z5_L0 {Z : Type} (f : A_Z5_L0 Z) (t : T_Z5_L0) : Z := f t.1 t.2.1 t.2.2.1
theorem loop_Z5_L0 {Q : A_Z5_L0 (((Unit) × (List Int × Unit)) → Prop)} (I : A_Z5_L0 Prop) (μ : A_Z5_L0 Nat)
    (step : ∀ a0 a1 a2, I a0 a1 a2 → ∀ again : (Nat → Nat) → T_Z5_L0 → R_Z5, Dep 2 again → (∀ y0 y1 y2, I y0 y1 y2 → μ y0 y1 y2 < μ a0 a1 a2 → Tot (fun σ => again σ (y0, y1, y2, ())) (Q y0 y1 y2)) →
      Tot (fun σ => B_Z5_L0b (σ 0) (again σ) a0 a1 a2) (Q a0 a1 a2)) :
    ∀ a0 a1 a2, I a0 a1 a2 → Tot (fun σ => B_Z5_L0 (σ 0) (σ 0) (a0, a1, a2, ())) (Q a0 a1 a2) := fun a0 a1 a2 => Tot.loop0 (L := fun k => B_Z5_L0 k) (B := fun k g => u_Z5_L0 (B_Z5_L0b k g)) (Q := u_Z5_L0 Q) (fun _ _ _ => rfl) (u_Z5_L0 I) (u_Z5_L0 μ)
    (fun t ht again hag h => step t.1 t.2.1 t.2.2.1 ht again hag fun y0 y1 y2 => h (y0, y1, y2, ())) (a0, a1, a2, ())
abbrev R_Z0 : Type := Option ((Bool × Unit) × (List Int × Unit))
abbrev C_Z0 : Type := List Int → Int → Int → R_Z0
abbrev T_Z0_L4 : Type := List Int × Int × Int × Int × Int × Int × Unit
abbrev T_Z0_L2 : Type := List Int × Int × Int × Int × Int × Int × Unit
abbrev T_Z0_L1 : Type := List Int × Int × Int × Int × Int × Unit
abbrev T_Z0_L6 : Type := List Int × Int × Int × Int × Int × Unit
def B_Z0_J5 (k : Nat) (c_Z37 : C_Z37) (again6 : T_Z0_L6 → R_Z0) (data : List Int) (a b i j : Int) : R_Z0 :=
  again6 (data, a, b, i, w64 (j + 1), ())
def B_Z0_L4b (k : Nat) (c_Z37 : C_Z37) (again6 : T_Z0_L6 → R_Z0) (again4 : T_Z0_L4 → R_Z0) (data : List Int) (a b i j j10 : Int) : R_Z0 :=
  bif decide (j10 < b) then
    chk (inb j10 data.length) <|
    chk (decide (j10.toNat < data.length)) <|
    chk (inb (w64 (j10 - 1)) data.length) <|
    chk (decide ((w64 (j10 - 1)).toNat < data.length)) <|
    (c_Z37 (data.getD j10.toNat (0 : Int)) (data.getD ((w64 (j10 - 1)).toNat) (0 : Int))).bind fun r115 =>
    bif (!r115.1.1) then
      jn (fun t => B_Z0_J5 k c_Z37 again6 t.1 t.2.1 t.2.2.1 t.2.2.2.1 t.2.2.2.2.1) (data, a, b, i, j, ())
    else
      chk (inb (w64 (j10 - 1)) data.length) <|
      chk (decide ((w64 (j10 - 1)).toNat < data.length)) <|
      chk (inb j10 data.length) <|
      chk (decide (j10.toNat < data.length)) <|
      chk (inb j10 data.length) <|
      chk (decide (j10.toNat < data.length)) <|
      chk (inb (w64 (j10 - 1)) (data.set j10.toNat (data.getD ((w64 (j10 - 1)).toNat) (0 : Int))).length) <|
      chk (decide ((w64 (j10 - 1)).toNat < (data.set j10.toNat (data.getD ((w64 (j10 - 1)).toNat) (0 : Int))).length)) <|
      again4 (((data.set j10.toNat (data.getD ((w64 (j10 - 1)).toNat) (0 : Int))).set ((w64 (j10 - 1)).toNat) (data.getD j10.toNat (0 : Int))), a, b, i, j, w64 (j10 + 1), ())
  else
    jn (fun t => B_Z0_J5 k c_Z37 again6 t.1 t.2.1 t.2.2.1 t.2.2.2.1 t.2.2.2.2.1) (data, a, b, i, j, ())
def B_Z0_L4 (k : Nat) (c_Z37 : C_Z37) (again6 : T_Z0_L6 → R_Z0) (n : Nat) (t : T_Z0_L4) : R_Z0 :=
  lfix n (fun again t => B_Z0_L4b k c_Z37 again6 again t.1 t.2.1 t.2.2.1 t.2.2.2.1 t.2.2.2.2.1 t.2.2.2.2.2.1) t
def B_Z0_J3 (k : Nat) (c_Z37 : C_Z37) (again6 : T_Z0_L6 → R_Z0) (data : List Int) (a b i j : Int) : R_Z0 :=
  bif decide ((w64 (b - i)) ≥ 2) then
    B_Z0_L4 k c_Z37 again6 k (data, a, b, i, j, w64 (i + 1), ())
  else
    jn (fun t => B_Z0_J5 k c_Z37 again6 t.1 t.2.1 t.2.2.1 t.2.2.2.1 t.2.2.2.2.1) (data, a, b, i, j, ())
def B_Z0_L2b (k : Nat) (c_Z37 : C_Z37) (again6 : T_Z0_L6 → R_Z0) (again2 : T_Z0_L2 → R_Z0) (data : List Int) (a b i j j9 : Int) : R_Z0 :=
  bif decide (j9 ≥ 1) then
    chk (inb j9 data.length) <|
    chk (decide (j9.toNat < data.length)) <|
    chk (inb (w64 (j9 - 1)) data.length) <|
    chk (decide ((w64 (j9 - 1)).toNat < data.length)) <|
    (c_Z37 (data.getD j9.toNat (0 : Int)) (data.getD ((w64 (j9 - 1)).toNat) (0 : Int))).bind fun r77 =>
    bif (!r77.1.1) then
      jn (fun t => B_Z0_J3 k c_Z37 again6 t.1 t.2.1 t.2.2.1 t.2.2.2.1 t.2.2.2.2.1) (data, a, b, i, j, ())
    else
      chk (inb (w64 (j9 - 1)) data.length) <|
      chk (decide ((w64 (j9 - 1)).toNat < data.length)) <|
      chk (inb j9 data.length) <|
      chk (decide (j9.toNat < data.length)) <|
      chk (inb j9 data.length) <|
      chk (decide (j9.toNat < data.length)) <|
      chk (inb (w64 (j9 - 1)) (data.set j9.toNat (data.getD ((w64 (j9 - 1)).toNat) (0 : Int))).length) <|
      chk (decide ((w64 (j9 - 1)).toNat < (data.set j9.toNat (data.getD ((w64 (j9 - 1)).toNat) (0 : Int))).length)) <|
      again2 (((data.set j9.toNat (data.getD ((w64 (j9 - 1)).toNat) (0 : Int))).set ((w64 (j9 - 1)).toNat) (data.getD j9.toNat (0 : Int))), a, b, i, j, w64 (j9 - 1), ())
  else
    jn (fun t => B_Z0_J3 k c_Z37 again6 t.1 t.2.1 t.2.2.1 t.2.2.2.1 t.2.2.2.2.1) (data, a, b, i, j, ())
def B_Z0_L2 (k : Nat) (c_Z37 : C_Z37) (again6 : T_Z0_L6 → R_Z0) (n : Nat) (t : T_Z0_L2) : R_Z0 :=
  lfix n (fun again t => B_Z0_L2b k c_Z37 again6 again t.1 t.2.1 t.2.2.1 t.2.2.2.1 t.2.2.2.2.1 t.2.2.2.2.2.1) t
def B_Z0_J0 (k : Nat) (c_Z37 : C_Z37) (again1 : T_Z0_L1 → R_Z0) (again6 : T_Z0_L6 → R_Z0) (data : List Int) (a b i j : Int) (t32 : Bool) : R_Z0 :=
  bif t32 then
    again1 (data, a, b, w64 (i + 1), j, ())
  else
    bif (i == b) then
      some ((true, ()), (data, ()))
    else
      bif decide ((w64 (b - a)) < 50) then
        some ((false, ()), (data, ()))
      else
        chk (inb (w64 (i - 1)) data.length) <|
        chk (decide ((w64 (i - 1)).toNat < data.length)) <|
        chk (inb i data.length) <|
        chk (decide (i.toNat < data.length)) <|
        chk (inb i data.length) <|
        chk (decide (i.toNat < data.length)) <|
        chk (inb (w64 (i - 1)) (data.set i.toNat (data.getD ((w64 (i - 1)).toNat) (0 : Int))).length) <|
        chk (decide ((w64 (i - 1)).toNat < (data.set i.toNat (data.getD ((w64 (i - 1)).toNat) (0 : Int))).length)) <|
        bif decide ((w64 (i - a)) ≥ 2) then
          B_Z0_L2 k c_Z37 again6 k (((data.set i.toNat (data.getD ((w64 (i - 1)).toNat) (0 : Int))).set ((w64 (i - 1)).toNat) (data.getD i.toNat (0 : Int))), a, b, i, j, w64 (i - 1), ())
        else
          jn (fun t => B_Z0_J3 k c_Z37 again6 t.1 t.2.1 t.2.2.1 t.2.2.2.1 t.2.2.2.2.1) (((data.set i.toNat (data.getD ((w64 (i - 1)).toNat) (0 : Int))).set ((w64 (i - 1)).toNat) (data.getD i.toNat (0 : Int))), a, b, i, j, ())
def B_Z0_L1b (k : Nat) (c_Z37 : C_Z37) (again6 : T_Z0_L6 → R_Z0) (again1 : T_Z0_L1 → R_Z0) (data : List Int) (a b i j : Int) : R_Z0 :=
  bif decide (i < b) then
    chk (inb i data.length) <|
    chk (decide (i.toNat < data.length)) <|
    chk (inb (w64 (i - 1)) data.length) <|
    chk (decide ((w64 (i - 1)).toNat < data.length)) <|
    (c_Z37 (data.getD i.toNat (0 : Int)) (data.getD ((w64 (i - 1)).toNat) (0 : Int))).bind fun r30 =>
    jn (fun t => B_Z0_J0 k c_Z37 again1 again6 t.1 t.2.1 t.2.2.1 t.2.2.2.1 t.2.2.2.2.1 t.2.2.2.2.2.1) (data, a, b, i, j, (!r30.1.1), ())
  else
    jn (fun t => B_Z0_J0 k c_Z37 again1 again6 t.1 t.2.1 t.2.2.1 t.2.2.2.1 t.2.2.2.2.1 t.2.2.2.2.2.1) (data, a, b, i, j, false, ())
def B_Z0_L1 (k : Nat) (c_Z37 : C_Z37) (again6 : T_Z0_L6 → R_Z0) (n : Nat) (t : T_Z0_L1) : R_Z0 :=
  lfix n (fun again t => B_Z0_L1b k c_Z37 again6 again t.1 t.2.1 t.2.2.1 t.2.2.2.1 t.2.2.2.2.1) t
def B_Z0_L6b (k : Nat) (c_Z37 : C_Z37) (again6 : T_Z0_L6 → R_Z0) (data : List Int) (a b i j : Int) : R_Z0 :=
  bif decide (j < 5) then
    B_Z0_L1 k c_Z37 again6 k (data, a, b, i, j, ())
  else
    some ((false, ()), (data, ()))
def B_Z0_L6 (k : Nat) (c_Z37 : C_Z37) (n : Nat) (t : T_Z0_L6) : R_Z0 :=
  lfix n (fun again t => B_Z0_L6b k c_Z37 again t.1 t.2.1 t.2.2.1 t.2.2.2.1 t.2.2.2.2.1) t
def B_Z0 (k : Nat) (c_Z37 : C_Z37) (data : List Int) (a b : Int) : R_Z0 :=
  B_Z0_L6 k c_Z37 k (data, a, b, w64 (a + 1), 0, ())
def F_Z0 : Nat → C_Z0
  | 0, _, _, _ => none
  | k + 1, data, a, b => B_Z0 k (F_Z37 k) data a b
theorem tot_Z0 {data a b : _} {Q : _ → Prop} (h : Tot (fun σ => B_Z0 (σ 0) (F_Z37 (σ 0)) data a b) Q) : Tot (fun σ => F_Z0 (σ 0) data a b) Q :=
  Tot.call (F := fun k => F_Z0 k data a b) (B := fun k => B_Z0 k (F_Z37 k) data a b) (fun k => rfl) h
abbrev A_Z0_L4 (Z : Type) : Type := List Int → Int → Int → Int → Int → Int → Z
abbrev u_Z0_L4 {Z : Type} (f : A_Z0_L4 Z) (t : T_Z0_L4) : Z := f t.1 t.2.1 t.2.2.1 t.2.2.2.1 t.2.2.2.2.1 t.2.2.2.2.2.1
theorem loop_Z0_L4 {again6 : (Nat → Nat) → T_Z0_L6 → R_Z0} (hag6 : Dep 2 again6) {Q : A_Z0_L4 (((Bool × Unit) × (List Int × Unit)) → Prop)} (I : A_Z0_L4 Prop) (μ : A_Z0_L4 Nat)
    (step : ∀ a0 a1 a2 a3 a4 a5, I a0 a1 a2 a3 a4 a5 → ∀ again : (Nat → Nat) → T_Z0_L4 → R_Z0, Dep 3 again → (∀ y0 y1 y2 y3 y4 y5, I y0 y1 y2 y3 y4 y5 → μ y0 y1 y2 y3 y4 y5 < μ a0 a1 a2 a3 a4 a5 → Tot (fun σ => again σ (y0, y1, y2, y3, y4, y5, ())) (Q y0 y1 y2 y3 y4 y5)) →
      Tot (fun σ => B_Z0_L4b (σ 0) (F_Z37 (σ 0)) (again6 σ) (again σ) a0 a1 a2 a3 a4 a5) (Q a0 a1 a2 a3 a4 a5)) :
    ∀ a0 a1 a2 a3 a4 a5, I a0 a1 a2 a3 a4 a5 → Tot (fun σ => B_Z0_L4 (σ 0) (F_Z37 (σ 0)) (again6 σ) (σ 0) (a0, a1, a2, a3, a4, a5, ())) (Q a0 a1 a2 a3 a4 a5) := fun a0 a1 a2 a3 a4 a5 => Tot.loop (L := fun σ n t => B_Z0_L4 (σ 0) (F_Z37 (σ 0)) (again6 σ) n t) (B := fun σ g => u_Z0_L4 (B_Z0_L4b (σ 0) (F_Z37 (σ 0)) (again6 σ) g)) (Q := u_Z0_L4 Q) 2 (by decide)
    (fun s s' h => by have e0 : s 0 = s' 0 := h 0 (by decide); simp only [e0, hag6 s s' h]) (fun s s' h => by have e0 : s 0 = s' 0 := h 0 (by decide); simp only [e0, hag6 s s' h]) (fun _ _ _ => rfl) (u_Z0_L4 I) (u_Z0_L4 μ)
    (fun t ht again hag h => step t.1 t.2.1 t.2.2.1 t.2.2.2.1 t.2.2.2.2.1 t.2.2.2.2.2.1 ht again hag fun y0 y1 y2 y3 y4 y5 => h (y0, y1, y2, y3, y4, y5, ())) (a0, a1, a2, a3, a4, a5, ())
abbrev A_Z0_L2 (Z : Type) : Type := List Int → Int → Int → Int → Int → Int → Z
abbrev u_Z0_L2 {Z : Type} (f : A_Z0_L2 Z) (t : T_Z0_L2) : Z := f t.1 t.2.1 t.2.2.1 t.2.2.2.1 t.2.2.2.2.1 t.2.2.2.2.2.1
theorem loop_Z0_L2 {again6 : (Nat → Nat) → T_Z0_L6 → R_Z0} (hag6 : Dep 2 again6) {Q : A_Z0_L2 (((Bool × Unit) × (List Int × Unit)) → Prop)} (I : A_Z0_L2 Prop) (μ : A_Z0_L2 Nat)
    (step : ∀ a0 a1 a2 a3 a4 a5, I a0 a1 a2 a3 a4 a5 → ∀ again : (Nat → Nat) → T_Z0_L2 → R_Z0, Dep 3 again → (∀ y0 y1 y2 y3 y4 y5, I y0 y1 y2 y3 y4 y5 → μ y0 y1 y2 y3 y4 y5 < μ a0 a1 a2 a3 a4 a5 → Tot (fun σ => again σ (y0, y1, y2, y3, y4, y5, ())) (Q y0 y1 y2 y3 y4 y5)) →
      Tot (fun σ => B_Z0_L2b (σ 0) (F_Z37 (σ 0)) (again6 σ) (again σ) a0 a1 a2 a3 a4 a5) (Q a0 a1 a2 a3 a4 a5)) :
    ∀ a0 a1 a2 a3 a4 a5, I a0 a1 a2 a3 a4 a5 → Tot (fun σ => B_Z0_L2 (σ 0) (F_Z37 (σ 0)) (again6 σ) (σ 0) (a0, a1, a2, a3, a4, a5, ())) (Q a0 a1 a2 a3 a4 a5) := fun a0 a1 a2 a3 a4 a5 => Tot.loop (L := fun σ n t => B_Z0_L2 (σ 0) (F_Z37 (σ 0)) (again6 σ) n t) (B := fun σ g => u_Z0_L2 (B_Z0_L2b (σ 0) (F_Z37 (σ 0)) (again6 σ) g)) (Q := u_Z0_L2 Q) 2 (by decide)
    (fun s s' h => by have e0 : s 0 = s' 0 := h 0 (by decide); simp only [e0, hag6 s s' h]) (fun s s' h => by have e0 : s 0 = s' 0 := h 0 (by decide); simp only [e0, hag6 s s' h]) (fun _ _ _ => rfl) (u_Z0_L2 I) (u_Z0_L2 μ)
    (fun t ht again hag h => step t.1 t.2.1 t.2.2.1 t.2.2.2.1 t.2.2.2.2.1 t.2.2.2.2.2.1 ht again hag fun y0 y1 y2 y3 y4 y5 => h (y0, y1, y2, y3, y4, y5, ())) (a0, a1, a2, a3, a4, a5, ())
abbrev A_Z0_L1 (Z : Type) : Type := List Int → Int → Int → Int → Int → Z
abbrev u_Z0_L1 {Z : Type} (f : A_Z0_L1 Z) (t : T_Z0_L1) : Z := f t.1 t.2.1 t.2.2.1 t.2.2.2.1 t.2.2.2.2.1
theorem loop_Z0_L1 {again6 : (Nat → Nat) → T_Z0_L6 → R_Z0} (hag6 : Dep 2 again6) {Q : A_Z0_L1 (((Bool × Unit) × (List Int × Unit)) → Prop)} (I : A_Z0_L1 Prop) (μ : A_Z0_L1 Nat)
    (step : ∀ a0 a1 a2 a3 a4, I a0 a1 a2 a3 a4 → ∀ again : (Nat → Nat) → T_Z0_L1 → R_Z0, Dep 3 again → (∀ y0 y1 y2 y3 y4, I y0 y1 y2 y3 y4 → μ y0 y1 y2 y3 y4 < μ a0 a1 a2 a3 a4 → Tot (fun σ => again σ (y0, y1, y2, y3, y4, ())) (Q y0 y1 y2 y3 y4)) →
      Tot (fun σ => B_Z0_L1b (σ 0) (F_Z37 (σ 0)) (again6 σ) (again σ) a0 a1 a2 a3 a4) (Q a0 a1 a2 a3 a4)) :
    ∀ a0 a1 a2 a3 a4, I a0 a1 a2 a3 a4 → Tot (fun σ => B_Z0_L1 (σ 0) (F_Z37 (σ 0)) (again6 σ) (σ 0) (a0, a1, a2, a3, a4, ())) (Q a0 a1 a2 a3 a4) := fun a0 a1 a2 a3 a4 => Tot.loop (L := fun σ n t => B_Z0_L1 (σ 0) (F_Z37 (σ 0)) (again6 σ) n t) (B := fun σ g => u_Z0_L1 (B_Z0_L1b (σ 0) (F_Z37 (σ 0)) (again6 σ) g)) (Q := u_Z0_L1 Q) 2 (by decide)
    (fun s s' h => by have e0 : s 0 = s' 0 := h 0 (by decide); simp only [e0, hag6 s s' h]) (fun s s' h => by have e0 : s 0 = s' 0 := h 0 (by decide); simp only [e0, hag6 s s' h]) (fun _ _ _ => rfl) (u_Z0_L1 I) (u_Z0_L1 μ)
    (fun t ht again hag h => step t.1 t.2.1 t.2.2.1 t.2.2.2.1 t.2.2.2.2.1 ht again hag fun y0 y1 y2 y3 y4 => h (y0, y1, y2, y3, y4, ())) (a0, a1, a2, a3, a4, ())
abbrev A_Z0_L6 (Z : Type) : Type := List Int → Int → Int → Int → Int → Z
abbrev u_Z0_L6 {Z : Type} (f : A_Z0_L6 Z) (t : T_Z0_L6) : Z := f t.1 t.2.1 t.2.2.1 t.2.2.2.1 t.2.2.2.2.1
theorem loop_Z0_L6 {Q : A_Z0_L6 (((Bool × Unit) × (List Int × Unit)) → Prop)} (I : A_Z0_L6 Prop) (μ : A_Z0_L6 Nat)
    (step : ∀ a0 a1 a2 a3 a4, I a0 a1 a2 a3 a4 → ∀ again : (Nat → Nat) → T_Z0_L6 → R_Z0, Dep 2 again → (∀ y0 y1 y2 y3 y4, I y0 y1 y2 y3 y4 → μ y0 y1 y2 y3 y4 < μ a0 a1 a2 a3 a4 → Tot (fun σ => again σ (y0, y1, y2, y3, y4, ())) (Q y0 y1 y2 y3 y4)) →
      Tot (fun σ => B_Z0_L6b (σ 0) (F_Z37 (σ 0)) (again σ) a0 a1 a2 a3 a4) (Q a0 a1 a2 a3 a4)) :
    ∀ a0 a1 a2 a3 a4, I a0 a1 a2 a3 a4 → Tot (fun σ => B_Z0_L6 (σ 0) (F_Z37 (σ 0)) (σ 0) (a0, a1, a2, a3, a4, ())) (Q a0 a1 a2 a3 a4) := fun a0 a1 a2 a3 a4 => Tot.loop0 (L := fun k => B_Z0_L6 k (F_Z37 k)) (B := fun k g => u_Z0_L6 (B_Z0_L6b k (F_Z37 k) g)) (Q := u_Z0_L6 Q) (fun _ _ _ => rfl) (u_Z0_L6 I) (u_Z0_L6 μ)
    (fun t ht again hag h => step t.1 t.2.1 t.2.2.1 t.2.2.2.1 t.2.2.2.2.1 ht again hag fun y0 y1 y2 y3 y4 => h (y0, y1, y2, y3, y4, ())) (a0, a1, a2, a3, a4, ())
abbrev R_Z2 : Type := Option ((Int × Unit) × (List Int × Unit))
abbrev C_Z2 : Type := List Int → Int → Int → Int → R_Z2
abbrev T_Z2_L3 : Type := List Int × Int × Int × Int × Unit
abbrev T_Z2_L1 : Type := List Int × Int × Int × Int × Unit
abbrev T_Z2_L4 : Type := List Int × Int × Int × Int × Unit
def B_Z2_J2 (k : Nat) (c_Z37 : C_Z37) (again3 : T_Z2_L3 → R_Z2) (again4 : T_Z2_L4 → R_Z2) (data : List Int) (a i j : Int) (t59 : Bool) : R_Z2 :=
  bif t59 then
    again3 (data, a, i, w64 (j - 1), ())
  else
    bif decide (i > j) then
      some ((i, ()), (data, ()))
    else
      chk (inb j data.length) <|
      chk (decide (j.toNat < data.length)) <|
      chk (inb i data.length) <|
      chk (decide (i.toNat < data.length)) <|
      chk (inb i data.length) <|
      chk (decide (i.toNat < data.length)) <|
      chk (inb j (data.set i.toNat (data.getD j.toNat (0 : Int))).length) <|
      chk (decide (j.toNat < (data.set i.toNat (data.getD j.toNat (0 : Int))).length)) <|
      again4 (((data.set i.toNat (data.getD j.toNat (0 : Int))).set j.toNat (data.getD i.toNat (0 : Int))), a, w64 (i + 1), w64 (j - 1), ())
def B_Z2_L3b (k : Nat) (c_Z37 : C_Z37) (again4 : T_Z2_L4 → R_Z2) (again3 : T_Z2_L3 → R_Z2) (data : List Int) (a i j : Int) : R_Z2 :=
  bif decide (i ≤ j) then
    chk (inb a data.length) <|
    chk (decide (a.toNat < data.length)) <|
    chk (inb j data.length) <|
    chk (decide (j.toNat < data.length)) <|
    (c_Z37 (data.getD a.toNat (0 : Int)) (data.getD j.toNat (0 : Int))).bind fun r58 =>
    jn (fun t => B_Z2_J2 k c_Z37 again3 again4 t.1 t.2.1 t.2.2.1 t.2.2.2.1 t.2.2.2.2.1) (data, a, i, j, r58.1.1, ())
  else
    jn (fun t => B_Z2_J2 k c_Z37 again3 again4 t.1 t.2.1 t.2.2.1 t.2.2.2.1 t.2.2.2.2.1) (data, a, i, j, false, ())
def B_Z2_L3 (k : Nat) (c_Z37 : C_Z37) (again4 : T_Z2_L4 → R_Z2) (n : Nat) (t : T_Z2_L3) : R_Z2 :=
  lfix n (fun again t => B_Z2_L3b k c_Z37 again4 again t.1 t.2.1 t.2.2.1 t.2.2.2.1) t
def B_Z2_J0 (k : Nat) (c_Z37 : C_Z37) (again1 : T_Z2_L1 → R_Z2) (again4 : T_Z2_L4 → R_Z2) (data : List Int) (a i j : Int) (t43 : Bool) : R_Z2 :=
  bif t43 then
    again1 (data, a, w64 (i + 1), j, ())
  else
    B_Z2_L3 k c_Z37 again4 k (data, a, i, j, ())
def B_Z2_L1b (k : Nat) (c_Z37 : C_Z37) (again4 : T_Z2_L4 → R_Z2) (again1 : T_Z2_L1 → R_Z2) (data : List Int) (a i j : Int) : R_Z2 :=
  bif decide (i ≤ j) then
    chk (inb a data.length) <|
    chk (decide (a.toNat < data.length)) <|
    chk (inb i data.length) <|
    chk (decide (i.toNat < data.length)) <|
    (c_Z37 (data.getD a.toNat (0 : Int)) (data.getD i.toNat (0 : Int))).bind fun r41 =>
    jn (fun t => B_Z2_J0 k c_Z37 again1 again4 t.1 t.2.1 t.2.2.1 t.2.2.2.1 t.2.2.2.2.1) (data, a, i, j, (!r41.1.1), ())
  else
    jn (fun t => B_Z2_J0 k c_Z37 again1 again4 t.1 t.2.1 t.2.2.1 t.2.2.2.1 t.2.2.2.2.1) (data, a, i, j, false, ())
def B_Z2_L1 (k : Nat) (c_Z37 : C_Z37) (again4 : T_Z2_L4 → R_Z2) (n : Nat) (t : T_Z2_L1) : R_Z2 :=
  lfix n (fun again t => B_Z2_L1b k c_Z37 again4 again t.1 t.2.1 t.2.2.1 t.2.2.2.1) t
def B_Z2_L4b (k : Nat) (c_Z37 : C_Z37) (again4 : T_Z2_L4 → R_Z2) (data : List Int) (a i j : Int) : R_Z2 :=
  B_Z2_L1 k c_Z37 again4 k (data, a, i, j, ())
def B_Z2_L4 (k : Nat) (c_Z37 : C_Z37) (n : Nat) (t : T_Z2_L4) : R_Z2 :=
  lfix n (fun again t => B_Z2_L4b k c_Z37 again t.1 t.2.1 t.2.2.1 t.2.2.2.1) t
def B_Z2 (k : Nat) (c_Z37 : C_Z37) (data : List Int) (a b pivot : Int) : R_Z2 :=
  chk (inb pivot data.length) <|
  chk (decide (pivot.toNat < data.length)) <|
  chk (inb a data.length) <|
  chk (decide (a.toNat < data.length)) <|
  chk (inb a data.length) <|
  chk (decide (a.toNat < data.length)) <|
  chk (inb pivot (data.set a.toNat (data.getD pivot.toNat (0 : Int))).length) <|
  chk (decide (pivot.toNat < (data.set a.toNat (data.getD pivot.toNat (0 : Int))).length)) <|
  B_Z2_L4 k c_Z37 k (((data.set a.toNat (data.getD pivot.toNat (0 : Int))).set pivot.toNat (data.getD a.toNat (0 : Int))), a, w64 (a + 1), w64 (b - 1), ())
def F_Z2 : Nat → C_Z2
  | 0, _, _, _, _ => none
  | k + 1, data, a, b, pivot => B_Z2 k (F_Z37 k) data a b pivot
theorem tot_Z2 {data a b pivot : _} {Q : _ → Prop} (h : Tot (fun σ => B_Z2 (σ 0) (F_Z37 (σ 0)) data a b pivot) Q) : Tot (fun σ => F_Z2 (σ 0) data a b pivot) Q :=
  Tot.call (F := fun k => F_Z2 k data a b pivot) (B := fun k => B_Z2 k (F_Z37 k) data a b pivot) (fun k => rfl) h
abbrev A_Z2_L3 (Z : Type) : Type := List Int → Int → Int → Int → Z
abbrev u_Z2_L3 {Z : Type} (f : A_Z2_L3 Z) (t : T_Z2_L3) : Z := f t.1 t.2.1 t.2.2.1 t.2.2.2.1
theorem loop_Z2_L3 {again4 : (Nat → Nat) → T_Z2_L4 → R_Z2} (hag4 : Dep 2 again4) {Q : A_Z2_L3 (((Int × Unit) × (List Int × Unit)) → Prop)} (I : A_Z2_L3 Prop) (μ : A_Z2_L3 Nat)
    (step : ∀ a0 a1 a2 a3, I a0 a1 a2 a3 → ∀ again : (Nat → Nat) → T_Z2_L3 → R_Z2, Dep 3 again → (∀ y0 y1 y2 y3, I y0 y1 y2 y3 → μ y0 y1 y2 y3 < μ a0 a1 a2 a3 → Tot (fun σ => again σ (y0, y1, y2, y3, ())) (Q y0 y1 y2 y3)) →
      Tot (fun σ => B_Z2_L3b (σ 0) (F_Z37 (σ 0)) (again4 σ) (again σ) a0 a1 a2 a3) (Q a0 a1 a2 a3)) :
    ∀ a0 a1 a2 a3, I a0 a1 a2 a3 → Tot (fun σ => B_Z2_L3 (σ 0) (F_Z37 (σ 0)) (again4 σ) (σ 0) (a0, a1, a2, a3, ())) (Q a0 a1 a2 a3) := fun a0 a1 a2 a3 => Tot.loop (L := fun σ n t => B_Z2_L3 (σ 0) (F_Z37 (σ 0)) (again4 σ) n t) (B := fun σ g => u_Z2_L3 (B_Z2_L3b (σ 0) (F_Z37 (σ 0)) (again4 σ) g)) (Q := u_Z2_L3 Q) 2 (by decide)
    (fun s s' h => by have e0 : s 0 = s' 0 := h 0 (by decide); simp only [e0, hag4 s s' h]) (fun s s' h => by have e0 : s 0 = s' 0 := h 0 (by decide); simp only [e0, hag4 s s' h]) (fun _ _ _ => rfl) (u_Z2_L3 I) (u_Z2_L3 μ)
    (fun t ht again hag h => step t.1 t.2.1 t.2.2.1 t.2.2.2.1 ht again hag fun y0 y1 y2 y3 => h (y0, y1, y2, y3, ())) (a0, a1, a2, a3, ())
abbrev A_Z2_L1 (Z : Type) : Type := List Int → Int → Int → Int → Z
abbrev u_Z2_L1 {Z : Type} (f : A_Z2_L1 Z) (t : T_Z2_L1) : Z := f t.1 t.2.1 t.2.2.1 t.2.2.2.1
theorem loop_Z2_L1 {again4 : (Nat → Nat) → T_Z2_L4 → R_Z2} (hag4 : Dep 2 again4) {Q : A_Z2_L1 (((Int × Unit) × (List Int × Unit)) → Prop)} (I : A_Z2_L1 Prop) (μ : A_Z2_L1 Nat)
    (step : ∀ a0 a1 a2 a3, I a0 a1 a2 a3 → ∀ again : (Nat → Nat) → T_Z2_L1 → R_Z2, Dep 3 again → (∀ y0 y1 y2 y3, I y0 y1 y2 y3 → μ y0 y1 y2 y3 < μ a0 a1 a2 a3 → Tot (fun σ => again σ (y0, y1, y2, y3, ())) (Q y0 y1 y2 y3)) →
      Tot (fun σ => B_Z2_L1b (σ 0) (F_Z37 (σ 0)) (again4 σ) (again σ) a0 a1 a2 a3) (Q a0 a1 a2 a3)) :
    ∀ a0 a1 a2 a3, I a0 a1 a2 a3 → Tot (fun σ => B_Z2_L1 (σ 0) (F_Z37 (σ 0)) (again4 σ) (σ 0) (a0, a1, a2, a3, ())) (Q a0 a1 a2 a3) := fun a0 a1 a2 a3 => Tot.loop (L := fun σ n t => B_Z2_L1 (σ 0) (F_Z37 (σ 0)) (again4 σ) n t) (B := fun σ g => u_Z2_L1 (B_Z2_L1b (σ 0) (F_Z37 (σ 0)) (again4 σ) g)) (Q := u_Z2_L1 Q) 2 (by decide)
    (fun s s' h => by have e0 : s 0 = s' 0 := h 0 (by decide); simp only [e0, hag4 s s' h]) (fun s s' h => by have e0 : s 0 = s' 0 := h 0 (by decide); simp only [e0, hag4 s s' h]) (fun _ _ _ => rfl) (u_Z2_L1 I) (u_Z2_L1 μ)
    (fun t ht again hag h => step t.1 t.2.1 t.2.2.1 t.2.2.2.1 ht again hag fun y0 y1 y2 y3 => h (y0, y1, y2, y3, ())) (a0, a1, a2, a3, ())
abbrev A_Z2_L4 (Z : Type) : Type := List Int → Int → Int → Int → Z
abbrev u_Z2_L4 {Z : Type} (f : A_Z2_L4 Z) (t : T_Z2_L4) : Z := f t.1 t.2.1 t.2.2.1 t.2.2.2.1
theorem loop_Z2_L4 {Q : A_Z2_L4 (((Int × Unit) × (List Int × Unit)) → Prop)} (I : A_Z2_L4 Prop) (μ : A_Z2_L4 Nat)
    (step : ∀ a0 a1 a2 a3, I a0 a1 a2 a3 → ∀ again : (Nat → Nat) → T_Z2_L4 → R_Z2, Dep 2 again → (∀ y0 y1 y2 y3, I y0 y1 y2 y3 → μ y0 y1 y2 y3 < μ a0 a1 a2 a3 → Tot (fun σ => again σ (y0, y1, y2, y3, ())) (Q y0 y1 y2 y3)) →
      Tot (fun σ => B_Z2_L4b (σ 0) (F_Z37 (σ 0)) (again σ) a0 a1 a2 a3) (Q a0 a1 a2 a3)) :
    ∀ a0 a1 a2 a3, I a0 a1 a2 a3 → Tot (fun σ => B_Z2_L4 (σ 0) (F_Z37 (σ 0)) (σ 0) (a0, a1, a2, a3, ())) (Q a0 a1 a2 a3) := fun a0 a1 a2 a3 => Tot.loop0 (L := fun k => B_Z2_L4 k (F_Z37 k)) (B := fun k g => u_Z2_L4 (B_Z2_L4b k (F_Z37 k) g)) (Q := u_Z2_L4 Q) (fun _ _ _ => rfl) (u_Z2_L4 I) (u_Z2_L4 μ)
    (fun t ht again hag h => step t.1 t.2.1 t.2.2.1 t.2.2.2.1 ht again hag fun y0 y1 y2 y3 => h (y0, y1, y2, y3, ())) (a0, a1, a2, a3, ())
abbrev R_Z8 : Type := Option ((Int × Bool × Unit) × (List Int × Unit))
abbrev C_Z8 : Type := List Int → Int → Int → Int → R_Z8
abbrev T_Z8_L7 : Type := List Int × Int × Int × Int × Unit
abbrev T_Z8_L5 : Type := List Int × Int × Int × Int × Unit
abbrev T_Z8_L8 : Type := List Int × Int × Int × Int × Unit
abbrev T_Z8_L3 : Type := List Int × Int × Int × Int × Unit
abbrev T_Z8_L1 : Type := List Int × Int × Int × Int × Unit
def B_Z8_J6 (k : Nat) (c_Z37 : C_Z37) (again7 : T_Z8_L7 → R_Z8) (again8 : T_Z8_L8 → R_Z8) (data : List Int) (a i j : Int) (t129 : Bool) : R_Z8 :=
  bif t129 then
    again7 (data, a, i, w64 (j - 1), ())
  else
    bif decide (i > j) then
      chk (inb a data.length) <|
      chk (decide (a.toNat < data.length)) <|
      chk (inb j data.length) <|
      chk (decide (j.toNat < data.length)) <|
      chk (inb j data.length) <|
      chk (decide (j.toNat < data.length)) <|
      chk (inb a (data.set j.toNat (data.getD a.toNat (0 : Int))).length) <|
      chk (decide (a.toNat < (data.set j.toNat (data.getD a.toNat (0 : Int))).length)) <|
      some ((j, false, ()), (((data.set j.toNat (data.getD a.toNat (0 : Int))).set a.toNat (data.getD j.toNat (0 : Int))), ()))
    else
      chk (inb j data.length) <|
      chk (decide (j.toNat < data.length)) <|
      chk (inb i data.length) <|
      chk (decide (i.toNat < data.length)) <|
      chk (inb i data.length) <|
      chk (decide (i.toNat < data.length)) <|
      chk (inb j (data.set i.toNat (data.getD j.toNat (0 : Int))).length) <|
      chk (decide (j.toNat < (data.set i.toNat (data.getD j.toNat (0 : Int))).length)) <|
      again8 (((data.set i.toNat (data.getD j.toNat (0 : Int))).set j.toNat (data.getD i.toNat (0 : Int))), a, w64 (i + 1), w64 (j - 1), ())
def B_Z8_L7b (k : Nat) (c_Z37 : C_Z37) (again8 : T_Z8_L8 → R_Z8) (again7 : T_Z8_L7 → R_Z8) (data : List Int) (a i j : Int) : R_Z8 :=
  bif decide (i ≤ j) then
    chk (inb j data.length) <|
    chk (decide (j.toNat < data.length)) <|
    chk (inb a data.length) <|
    chk (decide (a.toNat < data.length)) <|
    (c_Z37 (data.getD j.toNat (0 : Int)) (data.getD a.toNat (0 : Int))).bind fun r127 =>
    jn (fun t => B_Z8_J6 k c_Z37 again7 again8 t.1 t.2.1 t.2.2.1 t.2.2.2.1 t.2.2.2.2.1) (data, a, i, j, (!r127.1.1), ())
  else
    jn (fun t => B_Z8_J6 k c_Z37 again7 again8 t.1 t.2.1 t.2.2.1 t.2.2.2.1 t.2.2.2.2.1) (data, a, i, j, false, ())
def B_Z8_L7 (k : Nat) (c_Z37 : C_Z37) (again8 : T_Z8_L8 → R_Z8) (n : Nat) (t : T_Z8_L7) : R_Z8 :=
  lfix n (fun again t => B_Z8_L7b k c_Z37 again8 again t.1 t.2.1 t.2.2.1 t.2.2.2.1) t
def B_Z8_J4 (k : Nat) (c_Z37 : C_Z37) (again5 : T_Z8_L5 → R_Z8) (again8 : T_Z8_L8 → R_Z8) (data : List Int) (a i j : Int) (t112 : Bool) : R_Z8 :=
  bif t112 then
    again5 (data, a, w64 (i + 1), j, ())
  else
    B_Z8_L7 k c_Z37 again8 k (data, a, i, j, ())
def B_Z8_L5b (k : Nat) (c_Z37 : C_Z37) (again8 : T_Z8_L8 → R_Z8) (again5 : T_Z8_L5 → R_Z8) (data : List Int) (a i j : Int) : R_Z8 :=
  bif decide (i ≤ j) then
    chk (inb i data.length) <|
    chk (decide (i.toNat < data.length)) <|
    chk (inb a data.length) <|
    chk (decide (a.toNat < data.length)) <|
    (c_Z37 (data.getD i.toNat (0 : Int)) (data.getD a.toNat (0 : Int))).bind fun r111 =>
    jn (fun t => B_Z8_J4 k c_Z37 again5 again8 t.1 t.2.1 t.2.2.1 t.2.2.2.1 t.2.2.2.2.1) (data, a, i, j, r111.1.1, ())
  else
    jn (fun t => B_Z8_J4 k c_Z37 again5 again8 t.1 t.2.1 t.2.2.1 t.2.2.2.1 t.2.2.2.2.1) (data, a, i, j, false, ())
def B_Z8_L5 (k : Nat) (c_Z37 : C_Z37) (again8 : T_Z8_L8 → R_Z8) (n : Nat) (t : T_Z8_L5) : R_Z8 :=
  lfix n (fun again t => B_Z8_L5b k c_Z37 again8 again t.1 t.2.1 t.2.2.1 t.2.2.2.1) t
def B_Z8_L8b (k : Nat) (c_Z37 : C_Z37) (again8 : T_Z8_L8 → R_Z8) (data : List Int) (a i j : Int) : R_Z8 :=
  B_Z8_L5 k c_Z37 again8 k (data, a, i, j, ())
def B_Z8_L8 (k : Nat) (c_Z37 : C_Z37) (n : Nat) (t : T_Z8_L8) : R_Z8 :=
  lfix n (fun again t => B_Z8_L8b k c_Z37 again t.1 t.2.1 t.2.2.1 t.2.2.2.1) t
def B_Z8_J2 (k : Nat) (c_Z37 : C_Z37) (again3 : T_Z8_L3 → R_Z8) (data : List Int) (a i j : Int) (t60 : Bool) : R_Z8 :=
  bif t60 then
    again3 (data, a, i, w64 (j - 1), ())
  else
    bif decide (i > j) then
      chk (inb a data.length) <|
      chk (decide (a.toNat < data.length)) <|
      chk (inb j data.length) <|
      chk (decide (j.toNat < data.length)) <|
      chk (inb j data.length) <|
      chk (decide (j.toNat < data.length)) <|
      chk (inb a (data.set j.toNat (data.getD a.toNat (0 : Int))).length) <|
      chk (decide (a.toNat < (data.set j.toNat (data.getD a.toNat (0 : Int))).length)) <|
      some ((j, true, ()), (((data.set j.toNat (data.getD a.toNat (0 : Int))).set a.toNat (data.getD j.toNat (0 : Int))), ()))
    else
      chk (inb j data.length) <|
      chk (decide (j.toNat < data.length)) <|
      chk (inb i data.length) <|
      chk (decide (i.toNat < data.length)) <|
      chk (inb i data.length) <|
      chk (decide (i.toNat < data.length)) <|
      chk (inb j (data.set i.toNat (data.getD j.toNat (0 : Int))).length) <|
      chk (decide (j.toNat < (data.set i.toNat (data.getD j.toNat (0 : Int))).length)) <|
      B_Z8_L8 k c_Z37 k (((data.set i.toNat (data.getD j.toNat (0 : Int))).set j.toNat (data.getD i.toNat (0 : Int))), a, w64 (i + 1), w64 (j - 1), ())
def B_Z8_L3b (k : Nat) (c_Z37 : C_Z37) (again3 : T_Z8_L3 → R_Z8) (data : List Int) (a i j : Int) : R_Z8 :=
  bif decide (i ≤ j) then
    chk (inb j data.length) <|
    chk (decide (j.toNat < data.length)) <|
    chk (inb a data.length) <|
    chk (decide (a.toNat < data.length)) <|
    (c_Z37 (data.getD j.toNat (0 : Int)) (data.getD a.toNat (0 : Int))).bind fun r58 =>
    jn (fun t => B_Z8_J2 k c_Z37 again3 t.1 t.2.1 t.2.2.1 t.2.2.2.1 t.2.2.2.2.1) (data, a, i, j, (!r58.1.1), ())
  else
    jn (fun t => B_Z8_J2 k c_Z37 again3 t.1 t.2.1 t.2.2.1 t.2.2.2.1 t.2.2.2.2.1) (data, a, i, j, false, ())
def B_Z8_L3 (k : Nat) (c_Z37 : C_Z37) (n : Nat) (t : T_Z8_L3) : R_Z8 :=
  lfix n (fun again t => B_Z8_L3b k c_Z37 again t.1 t.2.1 t.2.2.1 t.2.2.2.1) t
def B_Z8_J0 (k : Nat) (c_Z37 : C_Z37) (again1 : T_Z8_L1 → R_Z8) (data : List Int) (a i j : Int) (t43 : Bool) : R_Z8 :=
  bif t43 then
    again1 (data, a, w64 (i + 1), j, ())
  else
    B_Z8_L3 k c_Z37 k (data, a, i, j, ())
def B_Z8_L1b (k : Nat) (c_Z37 : C_Z37) (again1 : T_Z8_L1 → R_Z8) (data : List Int) (a i j : Int) : R_Z8 :=
  bif decide (i ≤ j) then
    chk (inb i data.length) <|
    chk (decide (i.toNat < data.length)) <|
    chk (inb a data.length) <|
    chk (decide (a.toNat < data.length)) <|
    (c_Z37 (data.getD i.toNat (0 : Int)) (data.getD a.toNat (0 : Int))).bind fun r42 =>
    jn (fun t => B_Z8_J0 k c_Z37 again1 t.1 t.2.1 t.2.2.1 t.2.2.2.1 t.2.2.2.2.1) (data, a, i, j, r42.1.1, ())
  else
    jn (fun t => B_Z8_J0 k c_Z37 again1 t.1 t.2.1 t.2.2.1 t.2.2.2.1 t.2.2.2.2.1) (data, a, i, j, false, ())
def B_Z8_L1 (k : Nat) (c_Z37 : C_Z37) (n : Nat) (t : T_Z8_L1) : R_Z8 :=
  lfix n (fun again t => B_Z8_L1b k c_Z37 again t.1 t.2.1 t.2.2.1 t.2.2.2.1) t
def B_Z8 (k : Nat) (c_Z37 : C_Z37) (data : List Int) (a b pivot : Int) : R_Z8 :=
  chk (inb pivot data.length) <|
  chk (decide (pivot.toNat < data.length)) <|
  chk (inb a data.length) <|
  chk (decide (a.toNat < data.length)) <|
  chk (inb a data.length) <|
  chk (decide (a.toNat < data.length)) <|
  chk (inb pivot (data.set a.toNat (data.getD pivot.toNat (0 : Int))).length) <|
  chk (decide (pivot.toNat < (data.set a.toNat (data.getD pivot.toNat (0 : Int))).length)) <|
  B_Z8_L1 k c_Z37 k (((data.set a.toNat (data.getD pivot.toNat (0 : Int))).set pivot.toNat (data.getD a.toNat (0 : Int))), a, w64 (a + 1), w64 (b - 1), ())
def F_Z8 : Nat → C_Z8
  | 0, _, _, _, _ => none
  | k + 1, data, a, b, pivot => B_Z8 k (F_Z37 k) data a b pivot
theorem tot_Z8 {data a b pivot : _} {Q : _ → Prop} (h : Tot (fun σ => B_Z8 (σ 0) (F_Z37 (σ 0)) data a b pivot) Q) : Tot (fun σ => F_Z8 (σ 0) data a b pivot) Q :=
  Tot.call (F := fun k => F_Z8 k data a b pivot) (B := fun k => B_Z8 k (F_Z37 k) data a b pivot) (fun k => rfl) h
abbrev A_Z8_L7 (Z : Type) : Type := List Int → Int → Int → Int → Z
abbrev u_Z8_L7 {Z : Type} (f : A_Z8_L7 Z) (t : T_Z8_L7) : Z := f t.1 t.2.1 t.2.2.1 t.2.2.2.1
theorem loop_Z8_L7 {again8 : (Nat → Nat) → T_Z8_L8 → R_Z8} (hag8 : Dep 2 again8) {Q : A_Z8_L7 (((Int × Bool × Unit) × (List Int × Unit)) → Prop)} (I : A_Z8_L7 Prop) (μ : A_Z8_L7 Nat)
    (step : ∀ a0 a1 a2 a3, I a0 a1 a2 a3 → ∀ again : (Nat → Nat) → T_Z8_L7 → R_Z8, Dep 3 again → (∀ y0 y1 y2 y3, I y0 y1 y2 y3 → μ y0 y1 y2 y3 < μ a0 a1 a2 a3 → Tot (fun σ => again σ (y0, y1, y2, y3, ())) (Q y0 y1 y2 y3)) →
      Tot (fun σ => B_Z8_L7b (σ 0) (F_Z37 (σ 0)) (again8 σ) (again σ) a0 a1 a2 a3) (Q a0 a1 a2 a3)) :
    ∀ a0 a1 a2 a3, I a0 a1 a2 a3 → Tot (fun σ => B_Z8_L7 (σ 0) (F_Z37 (σ 0)) (again8 σ) (σ 0) (a0, a1, a2, a3, ())) (Q a0 a1 a2 a3) := fun a0 a1 a2 a3 => Tot.loop (L := fun σ n t => B_Z8_L7 (σ 0) (F_Z37 (σ 0)) (again8 σ) n t) (B := fun σ g => u_Z8_L7 (B_Z8_L7b (σ 0) (F_Z37 (σ 0)) (again8 σ) g)) (Q := u_Z8_L7 Q) 2 (by decide)
    (fun s s' h => by have e0 : s 0 = s' 0 := h 0 (by decide); simp only [e0, hag8 s s' h]) (fun s s' h => by have e0 : s 0 = s' 0 := h 0 (by decide); simp only [e0, hag8 s s' h]) (fun _ _ _ => rfl) (u_Z8_L7 I) (u_Z8_L7 μ)
    (fun t ht again hag h => step t.1 t.2.1 t.2.2.1 t.2.2.2.1 ht again hag fun y0 y1 y2 y3 => h (y0, y1, y2, y3, ())) (a0, a1, a2, a3, ())
abbrev A_Z8_L5 (Z : Type) : Type := List Int → Int → Int → Int → Z
abbrev u_Z8_L5 {Z : Type} (f : A_Z8_L5 Z) (t : T_Z8_L5) : Z := f t.1 t.2.1 t.2.2.1 t.2.2.2.1
theorem loop_Z8_L5 {again8 : (Nat → Nat) → T_Z8_L8 → R_Z8} (hag8 : Dep 2 again8) {Q : A_Z8_L5 (((Int × Bool × Unit) × (List Int × Unit)) → Prop)} (I : A_Z8_L5 Prop) (μ : A_Z8_L5 Nat)
    (step : ∀ a0 a1 a2 a3, I a0 a1 a2 a3 → ∀ again : (Nat → Nat) → T_Z8_L5 → R_Z8, Dep 3 again → (∀ y0 y1 y2 y3, I y0 y1 y2 y3 → μ y0 y1 y2 y3 < μ a0 a1 a2 a3 → Tot (fun σ => again σ (y0, y1, y2, y3, ())) (Q y0 y1 y2 y3)) →
      Tot (fun σ => B_Z8_L5b (σ 0) (F_Z37 (σ 0)) (again8 σ) (again σ) a0 a1 a2 a3) (Q a0 a1 a2 a3)) :
    ∀ a0 a1 a2 a3, I a0 a1 a2 a3 → Tot (fun σ => B_Z8_L5 (σ 0) (F_Z37 (σ 0)) (again8 σ) (σ 0) (a0, a1, a2, a3, ())) (Q a0 a1 a2 a3) := fun a0 a1 a2 a3 => Tot.loop (L := fun σ n t => B_Z8_L5 (σ 0) (F_Z37 (σ 0)) (again8 σ) n t) (B := fun σ g => u_Z8_L5 (B_Z8_L5b (σ 0) (F_Z37 (σ 0)) (again8 σ) g)) (Q := u_Z8_L5 Q) 2 (by decide)
    (fun s s' h => by have e0 : s 0 = s' 0 := h 0 (by decide); simp only [e0, hag8 s s' h]) (fun s s' h => by have e0 : s 0 = s' 0 := h 0 (by decide); simp only [e0, hag8 s s' h]) (fun _ _ _ => rfl) (u_Z8_L5 I) (u_Z8_L5 μ)
    (fun t ht again hag h => step t.1 t.2.1 t.2.2.1 t.2.2.2.1 ht again hag fun y0 y1 y2 y3 => h (y0, y1, y2, y3, ())) (a0, a1, a2, a3, ())
abbrev A_Z8_L8 (Z : Type) : Type := List Int → Int → Int → Int → Z
abbrev u_Z8_L8 {Z : Type} (f : A_Z8_L8 Z) (t : T_Z8_L8) : Z := f t.1 t.2.1 t.2.2.1 t.2.2.2.1
theorem loop_Z8_L8 {Q : A_Z8_L8 (((Int × Bool × Unit) × (List Int × Unit)) → Prop)} (I : A_Z8_L8 Prop) (μ : A_Z8_L8 Nat)
    (step : ∀ a0 a1 a2 a3, I a0 a1 a2 a3 → ∀ again : (Nat → Nat) → T_Z8_L8 → R_Z8, Dep 2 again → (∀ y0 y1 y2 y3, I y0 y1 y2 y3 → μ y0 y1 y2 y3 < μ a0 a1 a2 a3 → Tot (fun σ => again σ (y0, y1, y2, y3, ())) (Q y0 y1 y2 y3)) →
      Tot (fun σ => B_Z8_L8b (σ 0) (F_Z37 (σ 0)) (again σ) a0 a1 a2 a3) (Q a0 a1 a2 a3)) :
    ∀ a0 a1 a2 a3, I a0 a1 a2 a3 → Tot (fun σ => B_Z8_L8 (σ 0) (F_Z37 (σ 0)) (σ 0) (a0, a1, a2, a3, ())) (Q a0 a1 a2 a3) := fun a0 a1 a2 a3 => Tot.loop0 (L := fun k => B_Z8_L8 k (F_Z37 k)) (B := fun k g => u_Z8_L8 (B_Z8_L8b k (F_Z37 k) g)) (Q := u_Z8_L8 Q) (fun _ _ _ => rfl) (u_Z8_L8 I) (u_Z8_L8 μ)
    (fun t ht again hag h => step t.1 t.2.1 t.2.2.1 t.2.2.2.1 ht again hag fun y0 y1 y2 y3 => h (y0, y1, y2, y3, ())) (a0, a1, a2, a3, ())
abbrev A_Z8_L3 (Z : Type) : Type := List Int → Int → Int → Int → Z
abbrev u_Z8_L3 {Z : Type} (f : A_Z8_L3 Z) (t : T_Z8_L3) : Z := f t.1 t.2.1 t.2.2.1 t.2.2.2.1
theorem loop_Z8_L3 {Q : A_Z8_L3 (((Int × Bool × Unit) × (List Int × Unit)) → Prop)} (I : A_Z8_L3 Prop) (μ : A_Z8_L3 Nat)
    (step : ∀ a0 a1 a2 a3, I a0 a1 a2 a3 → ∀ again : (Nat → Nat) → T_Z8_L3 → R_Z8, Dep 2 again → (∀ y0 y1 y2 y3, I y0 y1 y2 y3 → μ y0 y1 y2 y3 < μ a0 a1 a2 a3 → Tot (fun σ => again σ (y0, y1, y2, y3, ())) (Q y0 y1 y2 y3)) →
      Tot (fun σ => B_Z8_L3b (σ 0) (F_Z37 (σ 0)) (again σ) a0 a1 a2 a3) (Q a0 a1 a2 a3)) :
    ∀ a0 a1 a2 a3, I a0 a1 a2 a3 → Tot (fun σ => B_Z8_L3 (σ 0) (F_Z37 (σ 0)) (σ 0) (a0, a1, a2, a3, ())) (Q a0 a1 a2 a3) := fun a0 a1 a2 a3 => Tot.loop0 (L := fun k => B_Z8_L3 k (F_Z37 k)) (B := fun k g => u_Z8_L3 (B_Z8_L3b k (F_Z37 k) g)) (Q := u_Z8_L3 Q) (fun _ _ _ => rfl) (u_Z8_L3 I) (u_Z8_L3 μ)
    (fun t ht again hag h => step t.1 t.2.1 t.2.2.1 t.2.2.2.1 ht again hag fun y0 y1 y2 y3 => h (y0, y1, y2, y3, ())) (a0, a1, a2, a3, ())
abbrev A_Z8_L1 (Z : Type) : Type := List Int → Int → Int → Int → Z
abbrev u_Z8_L1 {Z : Type} (f : A_Z8_L1 Z) (t : T_Z8_L1) : Z := f t.1 t.2.1 t.2.2.1 t.2.2.2.1
theorem loop_Z8_L1 {Q : A_Z8_L1 (((Int × Bool × Unit) × (List Int × Unit)) → Prop)} (I : A_Z8_L1 Prop) (μ : A_Z8_L1 Nat)
    (step : ∀ a0 a1 a2 a3, I a0 a1 a2 a3 → ∀ again : (Nat → Nat) → T_Z8_L1 → R_Z8, Dep 2 again → (∀ y0 y1 y2 y3, I y0 y1 y2 y3 → μ y0 y1 y2 y3 < μ a0 a1 a2 a3 → Tot (fun σ => again σ (y0, y1, y2, y3, ())) (Q y0 y1 y2 y3)) →
      Tot (fun σ => B_Z8_L1b (σ 0) (F_Z37 (σ 0)) (again σ) a0 a1 a2 a3) (Q a0 a1 a2 a3)) :
    ∀ a0 a1 a2 a3, I a0 a1 a2 a3 → Tot (fun σ => B_Z8_L1 (σ 0) (F_Z37 (σ 0)) (σ 0) (a0, a1, a2, a3, ())) (Q a0 a1 a2 a3) := fun a0 a1 a2 a3 => Tot.loop0 (L := fun k => B_Z8_L1 k (F_Z37 k)) (B := fun k g => u_Z8_L1 (B_Z8_L1b k (F_Z37 k) g)) (Q := u_Z8_L1 Q) (fun _ _ _ => rfl) (u_Z8_L1 I) (u_Z8_L1 μ)
    (fun t ht again hag h => step t.1 t.2.1 t.2.2.1 t.2.2.2.1 ht again hag fun y0 y1 y2 y3 => h (y0, y1, y2, y3, ())) (a0, a1, a2, a3, ())
abbrev R_Z11 : Type := Option ((Unit) × (List Int × Unit))
abbrev C_Z11 : Type := List Int → Int → Int → Int → R_Z11
abbrev T_Z11_L5 : Type := List Int × Int × Int × Int × Bool × Bool × Unit
def B_Z11_J4 (k : Nat) (c_Z4 : C_Z4) (c_Z9 : C_Z9) (c_Z3 : C_Z3) (c_Z6 : C_Z6) (c_Z5 : C_Z5) (c_Z0 : C_Z0) (c_Z37 : C_Z37) (c_Z2 : C_Z2) (c_Z8 : C_Z8) (c_Z11 : C_Z11) (again5 : T_Z11_L5 → R_Z11) (data : List Int) (a b limit : Int) (wasBalanced wasPartitioned : Bool) (length pivot : Int) (t87 : Bool) : R_Z11 :=
  bif t87 then
    (c_Z2 data a b pivot).bind fun r92 =>
    again5 (r92.2.1, r92.1.1, b, limit, wasBalanced, wasPartitioned, ())
  else
    (c_Z8 data a b pivot).bind fun r99 =>
    bif decide ((w64 (r99.1.1 - a)) < (w64 (b - r99.1.1))) then
      (c_Z11 r99.2.1 a r99.1.1 limit).bind fun r121 =>
      again5 (r121.2.1, w64 (r99.1.1 + 1), b, limit, decide ((w64 (r99.1.1 - a)) ≥ (w64 (length.tdiv 8))), r99.1.2.1, ())
    else
      (c_Z11 r99.2.1 (w64 (r99.1.1 + 1)) b limit).bind fun r132 =>
      again5 (r132.2.1, a, r99.1.1, limit, decide ((w64 (b - r99.1.1)) ≥ (w64 (length.tdiv 8))), r99.1.2.1, ())
def B_Z11_J3 (k : Nat) (c_Z4 : C_Z4) (c_Z9 : C_Z9) (c_Z3 : C_Z3) (c_Z6 : C_Z6) (c_Z5 : C_Z5) (c_Z0 : C_Z0) (c_Z37 : C_Z37) (c_Z2 : C_Z2) (c_Z8 : C_Z8) (c_Z11 : C_Z11) (again5 : T_Z11_L5 → R_Z11) (data : List Int) (a b limit : Int) (wasBalanced wasPartitioned : Bool) (length pivot : Int) : R_Z11 :=
  bif decide (a > 0) then
    chk (inb (w64 (a - 1)) data.length) <|
    chk (decide ((w64 (a - 1)).toNat < data.length)) <|
    chk (inb pivot data.length) <|
    chk (decide (pivot.toNat < data.length)) <|
    (c_Z37 (data.getD ((w64 (a - 1)).toNat) (0 : Int)) (data.getD pivot.toNat (0 : Int))).bind fun r85 =>
    jn (fun t => B_Z11_J4 k c_Z4 c_Z9 c_Z3 c_Z6 c_Z5 c_Z0 c_Z37 c_Z2 c_Z8 c_Z11 again5 t.1 t.2.1 t.2.2.1 t.2.2.2.1 t.2.2.2.2.1 t.2.2.2.2.2.1 t.2.2.2.2.2.2.1 t.2.2.2.2.2.2.2.1 t.2.2.2.2.2.2.2.2.1) (data, a, b, limit, wasBalanced, wasPartitioned, length, pivot, (!r85.1.1), ())
  else
    jn (fun t => B_Z11_J4 k c_Z4 c_Z9 c_Z3 c_Z6 c_Z5 c_Z0 c_Z37 c_Z2 c_Z8 c_Z11 again5 t.1 t.2.1 t.2.2.1 t.2.2.2.1 t.2.2.2.2.1 t.2.2.2.2.2.1 t.2.2.2.2.2.2.1 t.2.2.2.2.2.2.2.1 t.2.2.2.2.2.2.2.2.1) (data, a, b, limit, wasBalanced, wasPartitioned, length, pivot, false, ())
def B_Z11_J2 (k : Nat) (c_Z4 : C_Z4) (c_Z9 : C_Z9) (c_Z3 : C_Z3) (c_Z6 : C_Z6) (c_Z5 : C_Z5) (c_Z0 : C_Z0) (c_Z37 : C_Z37) (c_Z2 : C_Z2) (c_Z8 : C_Z8) (c_Z11 : C_Z11) (again5 : T_Z11_L5 → R_Z11) (data : List Int) (a b limit : Int) (wasBalanced wasPartitioned : Bool) (length pivot : Int) (t68 : Bool) : R_Z11 :=
  bif t68 then
    (c_Z0 data a b).bind fun r72 =>
    bif r72.1.1 then
      some ((), (r72.2.1, ()))
    else
      jn (fun t => B_Z11_J3 k c_Z4 c_Z9 c_Z3 c_Z6 c_Z5 c_Z0 c_Z37 c_Z2 c_Z8 c_Z11 again5 t.1 t.2.1 t.2.2.1 t.2.2.2.1 t.2.2.2.2.1 t.2.2.2.2.2.1 t.2.2.2.2.2.2.1 t.2.2.2.2.2.2.2.1) (r72.2.1, a, b, limit, wasBalanced, wasPartitioned, length, pivot, ())
  else
    jn (fun t => B_Z11_J3 k c_Z4 c_Z9 c_Z3 c_Z6 c_Z5 c_Z0 c_Z37 c_Z2 c_Z8 c_Z11 again5 t.1 t.2.1 t.2.2.1 t.2.2.2.1 t.2.2.2.2.1 t.2.2.2.2.2.1 t.2.2.2.2.2.2.1 t.2.2.2.2.2.2.2.1) (data, a, b, limit, wasBalanced, wasPartitioned, length, pivot, ())
def B_Z11_J1 (k : Nat) (c_Z4 : C_Z4) (c_Z9 : C_Z9) (c_Z3 : C_Z3) (c_Z6 : C_Z6) (c_Z5 : C_Z5) (c_Z0 : C_Z0) (c_Z37 : C_Z37) (c_Z2 : C_Z2) (c_Z8 : C_Z8) (c_Z11 : C_Z11) (again5 : T_Z11_L5 → R_Z11) (data : List Int) (a b limit : Int) (wasBalanced wasPartitioned : Bool) (length pivot hint : Int) : R_Z11 :=
  bif wasBalanced then
    bif wasPartitioned then
      jn (fun t => B_Z11_J2 k c_Z4 c_Z9 c_Z3 c_Z6 c_Z5 c_Z0 c_Z37 c_Z2 c_Z8 c_Z11 again5 t.1 t.2.1 t.2.2.1 t.2.2.2.1 t.2.2.2.2.1 t.2.2.2.2.2.1 t.2.2.2.2.2.2.1 t.2.2.2.2.2.2.2.1 t.2.2.2.2.2.2.2.2.1) (data, a, b, limit, wasBalanced, wasPartitioned, length, pivot, (hint == 1), ())
    else
      jn (fun t => B_Z11_J2 k c_Z4 c_Z9 c_Z3 c_Z6 c_Z5 c_Z0 c_Z37 c_Z2 c_Z8 c_Z11 again5 t.1 t.2.1 t.2.2.1 t.2.2.2.1 t.2.2.2.2.1 t.2.2.2.2.2.1 t.2.2.2.2.2.2.1 t.2.2.2.2.2.2.2.1 t.2.2.2.2.2.2.2.2.1) (data, a, b, limit, wasBalanced, wasPartitioned, length, pivot, false, ())
  else
    jn (fun t => B_Z11_J2 k c_Z4 c_Z9 c_Z3 c_Z6 c_Z5 c_Z0 c_Z37 c_Z2 c_Z8 c_Z11 again5 t.1 t.2.1 t.2.2.1 t.2.2.2.1 t.2.2.2.2.1 t.2.2.2.2.2.1 t.2.2.2.2.2.2.1 t.2.2.2.2.2.2.2.1 t.2.2.2.2.2.2.2.2.1) (data, a, b, limit, wasBalanced, wasPartitioned, length, pivot, false, ())
def B_Z11_J0 (k : Nat) (c_Z4 : C_Z4) (c_Z9 : C_Z9) (c_Z3 : C_Z3) (c_Z6 : C_Z6) (c_Z5 : C_Z5) (c_Z0 : C_Z0) (c_Z37 : C_Z37) (c_Z2 : C_Z2) (c_Z8 : C_Z8) (c_Z11 : C_Z11) (again5 : T_Z11_L5 → R_Z11) (data : List Int) (a b limit : Int) (wasBalanced wasPartitioned : Bool) (length : Int) : R_Z11 :=
  (c_Z6 data a b).bind fun r46 =>
  bif (r46.1.2.1 == 2) then
    (c_Z5 data a b).bind fun r54 =>
    jn (fun t => B_Z11_J1 k c_Z4 c_Z9 c_Z3 c_Z6 c_Z5 c_Z0 c_Z37 c_Z2 c_Z8 c_Z11 again5 t.1 t.2.1 t.2.2.1 t.2.2.2.1 t.2.2.2.2.1 t.2.2.2.2.2.1 t.2.2.2.2.2.2.1 t.2.2.2.2.2.2.2.1 t.2.2.2.2.2.2.2.2.1) (r54.2.1, a, b, limit, wasBalanced, wasPartitioned, length, w64 ((w64 (b - 1)) - (w64 (r46.1.1 - a))), 1, ())
  else
    jn (fun t => B_Z11_J1 k c_Z4 c_Z9 c_Z3 c_Z6 c_Z5 c_Z0 c_Z37 c_Z2 c_Z8 c_Z11 again5 t.1 t.2.1 t.2.2.1 t.2.2.2.1 t.2.2.2.2.1 t.2.2.2.2.2.1 t.2.2.2.2.2.2.1 t.2.2.2.2.2.2.2.1 t.2.2.2.2.2.2.2.2.1) (data, a, b, limit, wasBalanced, wasPartitioned, length, r46.1.1, r46.1.2.1, ())
def B_Z11_L5b (k : Nat) (c_Z4 : C_Z4) (c_Z9 : C_Z9) (c_Z3 : C_Z3) (c_Z6 : C_Z6) (c_Z5 : C_Z5) (c_Z0 : C_Z0) (c_Z37 : C_Z37) (c_Z2 : C_Z2) (c_Z8 : C_Z8) (c_Z11 : C_Z11) (again5 : T_Z11_L5 → R_Z11) (data : List Int) (a b limit : Int) (wasBalanced wasPartitioned : Bool) : R_Z11 :=
  bif decide ((w64 (b - a)) ≤ 12) then
    (c_Z4 data a b).bind fun r27 =>
    some ((), (r27.2.1, ()))
  else
    bif (limit == 0) then
      (c_Z9 data a b).bind fun r33 =>
      some ((), (r33.2.1, ()))
    else
      bif (!wasBalanced) then
        (c_Z3 data a b).bind fun r39 =>
        jn (fun t => B_Z11_J0 k c_Z4 c_Z9 c_Z3 c_Z6 c_Z5 c_Z0 c_Z37 c_Z2 c_Z8 c_Z11 again5 t.1 t.2.1 t.2.2.1 t.2.2.2.1 t.2.2.2.2.1 t.2.2.2.2.2.1 t.2.2.2.2.2.2.1) (r39.2.1, a, b, w64 (limit - 1), wasBalanced, wasPartitioned, w64 (b - a), ())
      else
        jn (fun t => B_Z11_J0 k c_Z4 c_Z9 c_Z3 c_Z6 c_Z5 c_Z0 c_Z37 c_Z2 c_Z8 c_Z11 again5 t.1 t.2.1 t.2.2.1 t.2.2.2.1 t.2.2.2.2.1 t.2.2.2.2.2.1 t.2.2.2.2.2.2.1) (data, a, b, limit, wasBalanced, wasPartitioned, w64 (b - a), ())
def B_Z11_L5 (k : Nat) (c_Z4 : C_Z4) (c_Z9 : C_Z9) (c_Z3 : C_Z3) (c_Z6 : C_Z6) (c_Z5 : C_Z5) (c_Z0 : C_Z0) (c_Z37 : C_Z37) (c_Z2 : C_Z2) (c_Z8 : C_Z8) (c_Z11 : C_Z11) (n : Nat) (t : T_Z11_L5) : R_Z11 :=
  lfix n (fun again t => B_Z11_L5b k c_Z4 c_Z9 c_Z3 c_Z6 c_Z5 c_Z0 c_Z37 c_Z2 c_Z8 c_Z11 again t.1 t.2.1 t.2.2.1 t.2.2.2.1 t.2.2.2.2.1 t.2.2.2.2.2.1) t
def B_Z11 (k : Nat) (c_Z4 : C_Z4) (c_Z9 : C_Z9) (c_Z3 : C_Z3) (c_Z6 : C_Z6) (c_Z5 : C_Z5) (c_Z0 : C_Z0) (c_Z37 : C_Z37) (c_Z2 : C_Z2) (c_Z8 : C_Z8) (c_Z11 : C_Z11) (data : List Int) (a b limit : Int) : R_Z11 :=
  B_Z11_L5 k c_Z4 c_Z9 c_Z3 c_Z6 c_Z5 c_Z0 c_Z37 c_Z2 c_Z8 c_Z11 k (data, a, b, limit, true, true, ())
def F_Z11 : Nat → C_Z11
  | 0, _, _, _, _ => none
  | k + 1, data, a, b, limit => B_Z11 k (F_Z4 k) (F_Z9 k) (F_Z3 k) (F_Z6 k) (F_Z5 k) (F_Z0 k) (F_Z37 k) (F_Z2 k) (F_Z8 k) (F_Z11 k) data a b limit
theorem F_Z11_succ (k : Nat) (data : List Int) (a : Int) (b : Int) (limit : Int) : F_Z11 (k + 1) data a b limit = B_Z11 k (F_Z4 k) (F_Z9 k) (F_Z3 k) (F_Z6 k) (F_Z5 k) (F_Z0 k) (F_Z37 k) (F_Z2 k) (F_Z8 k) (F_Z11 k) data a b limit := by rw [F_Z11]
theorem tot_Z11 {data a b limit : _} {Q : _ → Prop} (h : Tot (fun σ => B_Z11 (σ 0) (F_Z4 (σ 0)) (F_Z9 (σ 0)) (F_Z3 (σ 0)) (F_Z6 (σ 0)) (F_Z5 (σ 0)) (F_Z0 (σ 0)) (F_Z37 (σ 0)) (F_Z2 (σ 0)) (F_Z8 (σ 0)) (F_Z11 (σ 0)) data a b limit) Q) : Tot (fun σ => F_Z11 (σ 0) data a b limit) Q :=
  Tot.call (F := fun k => F_Z11 k data a b limit) (B := fun k => B_Z11 k (F_Z4 k) (F_Z9 k) (F_Z3 k) (F_Z6 k) (F_Z5 k) (F_Z0 k) (F_Z37 k) (F_Z2 k) (F_Z8 k) (F_Z11 k) data a b limit) (fun k => F_Z11_succ k data a b limit) h
abbrev A_Z11_L5 (Z : Type) : Type := List Int → Int → Int → Int → Bool → Bool → Z
abbrev u_Z11_L5 {Z : Type} (f : A_Z11_L5 Z) (t : T_Z11_L5) : Z := f t.1 t.2.1 t.2.2.1 t.2.2.2.1 t.2.2.2.2.1 t.2.2.2.2.2.1
theorem loop_Z11_L5 {Q : A_Z11_L5 (((Unit) × (List Int × Unit)) → Prop)} (I : A_Z11_L5 Prop) (μ : A_Z11_L5 Nat)
    (step : ∀ a0 a1 a2 a3 a4 a5, I a0 a1 a2 a3 a4 a5 → ∀ again : (Nat → Nat) → T_Z11_L5 → R_Z11, Dep 2 again → (∀ y0 y1 y2 y3 y4 y5, I y0 y1 y2 y3 y4 y5 → μ y0 y1 y2 y3 y4 y5 < μ a0 a1 a2 a3 a4 a5 → Tot (fun σ => again σ (y0, y1, y2, y3, y4, y5, ())) (Q y0 y1 y2 y3 y4 y5)) →
      Tot (fun σ => B_Z11_L5b (σ 0) (F_Z4 (σ 0)) (F_Z9 (σ 0)) (F_Z3 (σ 0)) (F_Z6 (σ 0)) (F_Z5 (σ 0)) (F_Z0 (σ 0)) (F_Z37 (σ 0)) (F_Z2 (σ 0)) (F_Z8 (σ 0)) (F_Z11 (σ 0)) (again σ) a0 a1 a2 a3 a4 a5) (Q a0 a1 a2 a3 a4 a5)) :
    ∀ a0 a1 a2 a3 a4 a5, I a0 a1 a2 a3 a4 a5 → Tot (fun σ => B_Z11_L5 (σ 0) (F_Z4 (σ 0)) (F_Z9 (σ 0)) (F_Z3 (σ 0)) (F_Z6 (σ 0)) (F_Z5 (σ 0)) (F_Z0 (σ 0)) (F_Z37 (σ 0)) (F_Z2 (σ 0)) (F_Z8 (σ 0)) (F_Z11 (σ 0)) (σ 0) (a0, a1, a2, a3, a4, a5, ())) (Q a0 a1 a2 a3 a4 a5) := fun a0 a1 a2 a3 a4 a5 => Tot.loop0 (L := fun k => B_Z11_L5 k (F_Z4 k) (F_Z9 k) (F_Z3 k) (F_Z6 k) (F_Z5 k) (F_Z0 k) (F_Z37 k) (F_Z2 k) (F_Z8 k) (F_Z11 k)) (B := fun k g => u_Z11_L5 (B_Z11_L5b k (F_Z4 k) (F_Z9 k) (F_Z3 k) (F_Z6 k) (F_Z5 k) (F_Z0 k) (F_Z37 k) (F_Z2 k) (F_Z8 k) (F_Z11 k) g)) (Q := u_Z11_L5 Q) (fun _ _ _ => rfl) (u_Z11_L5 I) (u_Z11_L5 μ)
    (fun t ht again hag h => step t.1 t.2.1 t.2.2.1 t.2.2.2.1 t.2.2.2.2.1 t.2.2.2.2.2.1 ht again hag fun y0 y1 y2 y3 y4 y5 => h (y0, y1, y2, y3, y4, y5, ())) (a0, a1, a2, a3, a4, a5, ())
abbrev R_Z21 : Type := Option ((Unit) × (List Int × Unit))
abbrev C_Z21 : Type := List Int → R_Z21
def B_Z21 (k : Nat) (c_bits_Len : C_bits_Len) (c_Z11 : C_Z11) (x : List Int) : R_Z21 :=
  (c_bits_Len (IntKind.wrap .u64 (len x))).bind fun r9 =>
  (c_Z11 x 0 (len x) r9.1.1).bind fun r10 =>
  some ((), (r10.2.1, ()))
def F_Z21 : Nat → C_Z21
  | 0, _ => none
  | k + 1, x => B_Z21 k (F_bits_Len k) (F_Z11 k) x
theorem tot_Z21 {x : _} {Q : _ → Prop} (h : Tot (fun σ => B_Z21 (σ 0) (F_bits_Len (σ 0)) (F_Z11 (σ 0)) x) Q) : Tot (fun σ => F_Z21 (σ 0) x) Q :=
  Tot.call (F := fun k => F_Z21 k x) (B := fun k => B_Z21 k (F_bits_Len k) (F_Z11 k) x) (fun k => rfl) h
abbrev R_Z15 : Type := Option ((List Int × Unit) × (Unit))
abbrev C_Z15 : Type := List Int → R_Z15
abbrev T_Z15_L1 : Type := List Int × Int × Int × (Nat × Nat) × Unit
abbrev T_Z15_L2 : Type := List Int × Int × Unit
def B_Z15_J0 (k : Nat) (again1 : T_Z15_L1 → R_Z15) (s : List Int) (k3 k2 : Int) (s2 : Nat × Nat) : R_Z15 :=
  again1 (s, k3, w64 (k2 + 1), (s2.1, s2.2), ())
def B_Z15_L1b (k : Nat) (again1 : T_Z15_L1 → R_Z15) (s : List Int) (k3 k2 : Int) (s2 : Nat × Nat) : R_Z15 :=
  bif decide (k2 < ((s2.2 - s2.1 : Nat) : Int)) then
    chk ((inb k2 (s2.2 - s2.1) && decide (s2.2 ≤ s.length))) <|
    chk (decide ((s2.1 + k2.toNat) < s.length)) <|
    chk ((inb (w64 (k2 - 1)) (s2.2 - s2.1) && decide (s2.2 ≤ s.length))) <|
    chk (decide ((s2.1 + (w64 (k2 - 1)).toNat) < s.length)) <|
    bif ((s.getD (s2.1 + k2.toNat) (0 : Int)) != (s.getD (s2.1 + (w64 (k2 - 1)).toNat) (0 : Int))) then
      chk ((inb k2 (s2.2 - s2.1) && decide (s2.2 ≤ s.length))) <|
      chk (decide ((s2.1 + k2.toNat) < s.length)) <|
      chk (inb k3 s.length) <|
      chk (decide (k3.toNat < s.length)) <|
      jn (fun t => B_Z15_J0 k again1 t.1 t.2.1 t.2.2.1 t.2.2.2.1) ((s.set k3.toNat (s.getD (s2.1 + k2.toNat) (0 : Int))), w64 (k3 + 1), k2, (s2.1, s2.2), ())
    else
      jn (fun t => B_Z15_J0 k again1 t.1 t.2.1 t.2.2.1 t.2.2.2.1) (s, k3, k2, (s2.1, s2.2), ())
  else
    chk (cutb k3 (len s) s.length) <|
    chk (decide (k3.toNat ≤ (len s).toNat ∧ (len s).toNat ≤ s.length)) <|
    chk (cutb 0 k3 (s.take k3.toNat ++ List.replicate ((len s).toNat - k3.toNat) (0 : Int) ++ s.drop ((len s).toNat)).length) <|
    some ((((s.take k3.toNat ++ List.replicate ((len s).toNat - k3.toNat) (0 : Int) ++ s.drop ((len s).toNat)).take k3.toNat), ()), ())
def B_Z15_L1 (k : Nat) (n : Nat) (t : T_Z15_L1) : R_Z15 :=
  lfix n (fun again t => B_Z15_L1b k again t.1 t.2.1 t.2.2.1 t.2.2.2.1) t
def B_Z15_L2b (k : Nat) (again2 : T_Z15_L2 → R_Z15) (s : List Int) (k3 : Int) : R_Z15 :=
  bif decide (k3 < (len s)) then
    chk (inb k3 s.length) <|
    chk (decide (k3.toNat < s.length)) <|
    chk (inb (w64 (k3 - 1)) s.length) <|
    chk (decide ((w64 (k3 - 1)).toNat < s.length)) <|
    bif ((s.getD k3.toNat (0 : Int)) == (s.getD ((w64 (k3 - 1)).toNat) (0 : Int))) then
      chk (cutb k3 (len s) s.length) <|
      B_Z15_L1 k k (s, k3, 1, (k3.toNat, (len s).toNat), ())
    else
      again2 (s, w64 (k3 + 1), ())
  else
    some ((s, ()), ())
def B_Z15_L2 (k : Nat) (n : Nat) (t : T_Z15_L2) : R_Z15 :=
  lfix n (fun again t => B_Z15_L2b k again t.1 t.2.1) t
def B_Z15 (k : Nat) (s : List Int) : R_Z15 :=
  bif decide ((len s) < 2) then
    some ((s, ()), ())
  else
    B_Z15_L2 k k (s, 1, ())
def F_Z15 : Nat → C_Z15
  | 0, _ => none
  | k + 1, s => B_Z15 k s
theorem tot_Z15 {s : _} {Q : _ → Prop} (h : Tot (fun σ => B_Z15 (σ 0) s) Q) : Tot (fun σ => F_Z15 (σ 0) s) Q :=
  Tot.call (F := fun k => F_Z15 k s) (B := fun k => B_Z15 k s) (fun k => rfl) h
abbrev A_Z15_L1 (Z : Type) : Type := List Int → Int → Int → (Nat × Nat) → Z
abbrev u_Z15_L1 {Z : Type} (f : A_Z15_L1 Z) (t : T_Z15_L1) : Z := f t.1 t.2.1 t.2.2.1 t.2.2.2.1
theorem loop_Z15_L1 {Q : A_Z15_L1 (((List Int × Unit) × (Unit)) → Prop)} (I : A_Z15_L1 Prop) (μ : A_Z15_L1 Nat)
    (step : ∀ a0 a1 a2 a3, I a0 a1 a2 a3 → ∀ again : (Nat → Nat) → T_Z15_L1 → R_Z15, Dep 2 again → (∀ y0 y1 y2 y3, I y0 y1 y2 y3 → μ y0 y1 y2 y3 < μ a0 a1 a2 a3 → Tot (fun σ => again σ (y0, y1, y2, y3, ())) (Q y0 y1 y2 y3)) →
      Tot (fun σ => B_Z15_L1b (σ 0) (again σ) a0 a1 a2 a3) (Q a0 a1 a2 a3)) :
    ∀ a0 a1 a2 a3, I a0 a1 a2 a3 → Tot (fun σ => B_Z15_L1 (σ 0) (σ 0) (a0, a1, a2, a3, ())) (Q a0 a1 a2 a3) := fun a0 a1 a2 a3 => Tot.loop0 (L := fun k => B_Z15_L1 k) (B := fun k g => u_Z15_L1 (B_Z15_L1b k g)) (Q := u_Z15_L1 Q) (fun _ _ _ => rfl) (u_Z15_L1 I) (u_Z15_L1 μ)
    (fun t ht again hag h => step t.1 t.2.1 t.2.2.1 t.2.2.2.1 ht again hag fun y0 y1 y2 y3 => h (y0, y1, y2, y3, ())) (a0, a1, a2, a3, ())
abbrev A_Z15_L2 (Z : Type) : Type := List Int → Int → Z
abbrev u_Z15_L2 {Z : Type} (f : A_Z15_L2 Z) (t : T_Z15_L2) : Z := f t.1 t.2.1
theorem loop_Z15_L2 {Q : A_Z15_L2 (((List Int × Unit) × (Unit)) → Prop)} (I : A_Z15_L2 Prop) (μ : A_Z15_L2 Nat)
    (step : ∀ a0 a1, I a0 a1 → ∀ again : (Nat → Nat) → T_Z15_L2 → R_Z15, Dep 2 again → (∀ y0 y1, I y0 y1 → μ y0 y1 < μ a0 a1 → Tot (fun σ => again σ (y0, y1, ())) (Q y0 y1)) →
      Tot (fun σ => B_Z15_L2b (σ 0) (again σ) a0 a1) (Q a0 a1)) :
    ∀ a0 a1, I a0 a1 → Tot (fun σ => B_Z15_L2 (σ 0) (σ 0) (a0, a1, ())) (Q a0 a1) := fun a0 a1 => Tot.loop0 (L := fun k => B_Z15_L2 k) (B := fun k g => u_Z15_L2 (B_Z15_L2b k g)) (Q := u_Z15_L2 Q) (fun _ _ _ => rfl) (u_Z15_L2 I) (u_Z15_L2 μ)
    (fun t ht again hag h => step t.1 t.2.1 ht again hag fun y0 y1 => h (y0, y1, ())) (a0, a1, ())
abbrev R_Z19 : Type := Option ((List Int × Unit) × (Unit))
abbrev C_Z19 : Type := List Int → R_Z19
def B_Z19 (k : Nat) (s : List Int) : R_Z19 :=
  chk ((((len s) == (s.length : Int)) && ((len s) == (s.length : Int)))) <|
  some ((s, ()), ())
def F_Z19 : Nat → C_Z19
  | 0, _ => none
  | k + 1, s => B_Z19 k s
theorem tot_Z19 {s : _} {Q : _ → Prop} (h : Tot (fun σ => B_Z19 (σ 0) s) Q) : Tot (fun σ => F_Z19 (σ 0) s) Q :=
  Tot.call (F := fun k => F_Z19 k s) (B := fun k => B_Z19 k s) (fun k => rfl) h
abbrev R_Z47 : Type := Option ((List Int × Unit) × (Unit))
abbrev C_Z47 : Type := (List (Int × Int)) → R_Z47
abbrev T_Z47_L1 : Type := List Int × (List (Int × Int)) × Int × Int × Unit
def B_Z47_J0 (k : Nat) (c_Z51 : C_Z51) (c_Z21 : C_Z21) (c_Z15 : C_Z15) (c_Z19 : C_Z19) (again1 : T_Z47_L1 → R_Z47) (out : List Int) (t10 : List (Int × Int)) (t11 t12 : Int) : R_Z47 :=
  again1 (out, t10, t11, w64 (t12 + 1), ())
def B_Z47_L1b (k : Nat) (c_Z51 : C_Z51) (c_Z21 : C_Z21) (c_Z15 : C_Z15) (c_Z19 : C_Z19) (again1 : T_Z47_L1 → R_Z47) (out : List Int) (t10 : List (Int × Int)) (t11 t12 : Int) : R_Z47 :=
  bif decide (t12 < t11) then
    chk (inb t12 t10.length) <|
    bif (((rdx ((0 : Int), (0 : Int)) t10 t12).1) == 13) then
      chk (room out.length ([(rdx ((0 : Int), (0 : Int)) t10 t12).2]).length) <|
      jn (fun t => B_Z47_J0 k c_Z51 c_Z21 c_Z15 c_Z19 again1 t.1 t.2.1 t.2.2.1 t.2.2.2.1) ((out ++ [(rdx ((0 : Int), (0 : Int)) t10 t12).2]), t10, t11, t12, ())
    else
      jn (fun t => B_Z47_J0 k c_Z51 c_Z21 c_Z15 c_Z19 again1 t.1 t.2.1 t.2.2.1 t.2.2.2.1) (out, t10, t11, t12, ())
  else
    (c_Z21 out).bind fun r26 =>
    (c_Z15 r26.2.1).bind fun r28 =>
    (c_Z19 r28.1.1).bind fun r29 =>
    some ((r29.1.1, ()), ())
def B_Z47_L1 (k : Nat) (c_Z51 : C_Z51) (c_Z21 : C_Z21) (c_Z15 : C_Z15) (c_Z19 : C_Z19) (n : Nat) (t : T_Z47_L1) : R_Z47 :=
  lfix n (fun again t => B_Z47_L1b k c_Z51 c_Z21 c_Z15 c_Z19 again t.1 t.2.1 t.2.2.1 t.2.2.2.1) t
def B_Z47 (k : Nat) (c_Z51 : C_Z51) (c_Z21 : C_Z21) (c_Z15 : C_Z15) (c_Z19 : C_Z19) (ops : List (Int × Int)) : R_Z47 :=
  (c_Z51 ops).bind fun r7 =>
  bif (!r7.1.1) then
    some (([], ()), ())
  else
    B_Z47_L1 k c_Z51 c_Z21 c_Z15 c_Z19 k ([], ops, len ops, 0, ())
def F_Z47 : Nat → C_Z47
  | 0, _ => none
  | k + 1, ops => B_Z47 k (F_Z51 k) (F_Z21 k) (F_Z15 k) (F_Z19 k) ops
theorem tot_Z47 {ops : _} {Q : _ → Prop} (h : Tot (fun σ => B_Z47 (σ 0) (F_Z51 (σ 0)) (F_Z21 (σ 0)) (F_Z15 (σ 0)) (F_Z19 (σ 0)) ops) Q) : Tot (fun σ => F_Z47 (σ 0) ops) Q :=
  Tot.call (F := fun k => F_Z47 k ops) (B := fun k => B_Z47 k (F_Z51 k) (F_Z21 k) (F_Z15 k) (F_Z19 k) ops) (fun k => rfl) h
abbrev A_Z47_L1 (Z : Type) : Type := List Int → (List (Int × Int)) → Int → Int → Z
abbrev u_Z47_L1 {Z : Type} (f : A_Z47_L1 Z) (t : T_Z47_L1) : Z := f t.1 t.2.1 t.2.2.1 t.2.2.2.1
theorem loop_Z47_L1 {Q : A_Z47_L1 (((List Int × Unit) × (Unit)) → Prop)} (I : A_Z47_L1 Prop) (μ : A_Z47_L1 Nat)
    (step : ∀ a0 a1 a2 a3, I a0 a1 a2 a3 → ∀ again : (Nat → Nat) → T_Z47_L1 → R_Z47, Dep 2 again → (∀ y0 y1 y2 y3, I y0 y1 y2 y3 → μ y0 y1 y2 y3 < μ a0 a1 a2 a3 → Tot (fun σ => again σ (y0, y1, y2, y3, ())) (Q y0 y1 y2 y3)) →
      Tot (fun σ => B_Z47_L1b (σ 0) (F_Z51 (σ 0)) (F_Z21 (σ 0)) (F_Z15 (σ 0)) (F_Z19 (σ 0)) (again σ) a0 a1 a2 a3) (Q a0 a1 a2 a3)) :
    ∀ a0 a1 a2 a3, I a0 a1 a2 a3 → Tot (fun σ => B_Z47_L1 (σ 0) (F_Z51 (σ 0)) (F_Z21 (σ 0)) (F_Z15 (σ 0)) (F_Z19 (σ 0)) (σ 0) (a0, a1, a2, a3, ())) (Q a0 a1 a2 a3) := fun a0 a1 a2 a3 => Tot.loop0 (L := fun k => B_Z47_L1 k (F_Z51 k) (F_Z21 k) (F_Z15 k) (F_Z19 k)) (B := fun k g => u_Z47_L1 (B_Z47_L1b k (F_Z51 k) (F_Z21 k) (F_Z15 k) (F_Z19 k) g)) (Q := u_Z47_L1 Q) (fun _ _ _ => rfl) (u_Z47_L1 I) (u_Z47_L1 μ)
    (fun t ht again hag h => step t.1 t.2.1 t.2.2.1 t.2.2.2.1 ht again hag fun y0 y1 y2 y3 => h (y0, y1, y2, y3, ())) (a0, a1, a2, a3, ())
abbrev R_Z28 : Type := Option ((Unit) × ((Int × Int × Int × List Int × Unit) × Unit))
abbrev C_Z28 : Type := Nat → Nat → Bool → Int → Int → Int → List Int → R_Z28
def B_Z28 (k : Nat) (m_0 m_1 : Nat) (m_3 : Bool) (t1_Steps t1_Nodes t1_Deep : Int) (t1_Classes : List Int) : R_Z28 :=
  some ((), ((t1_Steps, (m_0 : Int), (if (m_1 : Int) > t1_Deep then (m_1 : Int) else t1_Deep), t1_Classes, ()), ()))
def F_Z28 : Nat → C_Z28
  | 0, _, _, _, _, _, _, _ => none
  | k + 1, m_0, m_1, m_3, t1_Steps, t1_Nodes, t1_Deep, t1_Classes => B_Z28 k m_0 m_1 m_3 t1_Steps t1_Nodes t1_Deep t1_Classes
theorem tot_Z28 {m_0 m_1 m_3 t1_Steps t1_Nodes t1_Deep t1_Classes : _} {Q : _ → Prop} (h : Tot (fun σ => B_Z28 (σ 0) m_0 m_1 m_3 t1_Steps t1_Nodes t1_Deep t1_Classes) Q) : Tot (fun σ => F_Z28 (σ 0) m_0 m_1 m_3 t1_Steps t1_Nodes t1_Deep t1_Classes) Q :=
  Tot.call (F := fun k => F_Z28 k m_0 m_1 m_3 t1_Steps t1_Nodes t1_Deep t1_Classes) (B := fun k => B_Z28 k m_0 m_1 m_3 t1_Steps t1_Nodes t1_Deep t1_Classes) (fun k => rfl) h
abbrev R_Z7 : Type := Option ((((List (Int × Int × List Int)) × List Int × List Int × Bool × Unit) × Int × Unit) × ((Int × Int × Int × List Int × Unit) × Unit))
abbrev C_Z7 : Type := (List (Int × Int)) → Int → Int → Int → List Int → R_Z7
end Go.Gx

/-
  The functions, as Gx tells them (printed by gen.py).
-/
import Derived.Test.YtbfaapoaimoimaaXSh1
set_option linter.unusedVariables false
namespace Go.Gx
abbrev A_Z36_L1 (Z : Type) : Type := (List (Int × Int)) → List Int → (List (Int × Int × List Int)) → List Int → Int → Int → Z
abbrev u_Z36_L1 {Z : Type} (f : A_Z36_L1 Z) (t : T_Z36_L1) : Z := f t.1.1 t.2.1.1 t.2.2.1.1 t.2.2.2.2.1 t.2.2.2.2.2.1 t.2.2.2.2.2.2.1
theorem loop_Z36_L1 {Q : A_Z36_L1 (((Unit) × (((List (Int × Int)) × Unit) × (List Int × Unit) × ((List (Int × Int × List Int)) × Unit) × (Unit × Unit) × Unit)) → Prop)} (I : A_Z36_L1 Prop) (μ : A_Z36_L1 Nat)
    (step : ∀ a0 a1 a2 a3 a4 a5, I a0 a1 a2 a3 a4 a5 → ∀ again : (Nat → Nat) → T_Z36_L1 → R_Z36, Dep 2 again → (∀ y0 y1 y2 y3 y4 y5, I y0 y1 y2 y3 y4 y5 → μ y0 y1 y2 y3 y4 y5 < μ a0 a1 a2 a3 a4 a5 → Tot (fun σ => again σ ((y0, ()), (y1, ()), (y2, ()), ((), ()), y3, y4, y5, ())) (Q y0 y1 y2 y3 y4 y5)) →
      Tot (fun σ => B_Z36_L1b (σ 0) (F_Z36 (σ 0)) (again σ) a0 a1 a2 a3 a4 a5) (Q a0 a1 a2 a3 a4 a5)) :
    ∀ a0 a1 a2 a3 a4 a5, I a0 a1 a2 a3 a4 a5 → Tot (fun σ => B_Z36_L1 (σ 0) (F_Z36 (σ 0)) (σ 0) ((a0, ()), (a1, ()), (a2, ()), ((), ()), a3, a4, a5, ())) (Q a0 a1 a2 a3 a4 a5) := fun a0 a1 a2 a3 a4 a5 => Tot.loop0 (L := fun k => B_Z36_L1 k (F_Z36 k)) (B := fun k g => u_Z36_L1 (B_Z36_L1b k (F_Z36 k) g)) (Q := u_Z36_L1 Q) (fun _ _ _ => rfl) (u_Z36_L1 I) (u_Z36_L1 μ)
    (fun t ht again hag h => step t.1.1 t.2.1.1 t.2.2.1.1 t.2.2.2.2.1 t.2.2.2.2.2.1 t.2.2.2.2.2.2.1 ht again hag fun y0 y1 y2 y3 y4 y5 => h ((y0, ()), (y1, ()), (y2, ()), ((), ()), y3, y4, y5, ())) ((a0, ()), (a1, ()), (a2, ()), ((), ()), a3, a4, a5, ())
abbrev R_Z61 : Type := Option ((List Int × Unit) × (Unit))
abbrev C_Z61 : Type := (List (Int × Int × List Int)) → List Int → R_Z61
abbrev T_Z61_L0 : Type := ((List (Int × Int × List Int)) × Unit) × (List Int × Unit) × ((List (Int × Int)) × Unit) × (Unit × Unit) × List Int × Int × Int × Unit
def B_Z61_L0b (k : Nat) (c_Z36 : C_Z36) (again0 : T_Z61_L0 → R_Z61) (nodes : List (Int × Int × List Int)) (out : List Int) (numbers : List (Int × Int)) (t13 : List Int) (t14 t15 : Int) : R_Z61 :=
  bif decide (t15 < t14) then
    chk (inb t15 t13.length) <|
    (c_Z36 (rdx (0 : Int) t13 t15) numbers out nodes).bind fun r21 =>
    again0 ((r21.2.2.2.1.1, ()), (r21.2.2.1.1, ()), (r21.2.1.1, ()), ((), ()), t13, t14, w64 (t15 + 1), ())
  else
    some ((out, ()), ())
def B_Z61_L0 (k : Nat) (c_Z36 : C_Z36) (n : Nat) (t : T_Z61_L0) : R_Z61 :=
  lfix n (fun again t => B_Z61_L0b k c_Z36 again t.1.1 t.2.1.1 t.2.2.1.1 t.2.2.2.2.1 t.2.2.2.2.2.1 t.2.2.2.2.2.2.1) t
def B_Z61 (k : Nat) (c_Z36 : C_Z36) (nodes : List (Int × Int × List Int)) (roots : List Int) : R_Z61 :=
  B_Z61_L0 k c_Z36 k ((nodes, ()), ([], ()), (([] : List (Int × Int)), ()), ((), ()), roots, len roots, 0, ())
def F_Z61 : Nat → C_Z61
  | 0, _, _ => none
  | k + 1, nodes, roots => B_Z61 k (F_Z36 k) nodes roots
theorem tot_Z61 {nodes roots : _} {Q : _ → Prop} (h : Tot (fun σ => B_Z61 (σ 0) (F_Z36 (σ 0)) nodes roots) Q) : Tot (fun σ => F_Z61 (σ 0) nodes roots) Q :=
  Tot.call (F := fun k => F_Z61 k nodes roots) (B := fun k => B_Z61 k (F_Z36 k) nodes roots) (fun k => rfl) h
abbrev A_Z61_L0 (Z : Type) : Type := (List (Int × Int × List Int)) → List Int → (List (Int × Int)) → List Int → Int → Int → Z
abbrev u_Z61_L0 {Z : Type} (f : A_Z61_L0 Z) (t : T_Z61_L0) : Z := f t.1.1 t.2.1.1 t.2.2.1.1 t.2.2.2.2.1 t.2.2.2.2.2.1 t.2.2.2.2.2.2.1
theorem loop_Z61_L0 {Q : A_Z61_L0 (((List Int × Unit) × (Unit)) → Prop)} (I : A_Z61_L0 Prop) (μ : A_Z61_L0 Nat)
    (step : ∀ a0 a1 a2 a3 a4 a5, I a0 a1 a2 a3 a4 a5 → ∀ again : (Nat → Nat) → T_Z61_L0 → R_Z61, Dep 2 again → (∀ y0 y1 y2 y3 y4 y5, I y0 y1 y2 y3 y4 y5 → μ y0 y1 y2 y3 y4 y5 < μ a0 a1 a2 a3 a4 a5 → Tot (fun σ => again σ ((y0, ()), (y1, ()), (y2, ()), ((), ()), y3, y4, y5, ())) (Q y0 y1 y2 y3 y4 y5)) →
      Tot (fun σ => B_Z61_L0b (σ 0) (F_Z36 (σ 0)) (again σ) a0 a1 a2 a3 a4 a5) (Q a0 a1 a2 a3 a4 a5)) :
    ∀ a0 a1 a2 a3 a4 a5, I a0 a1 a2 a3 a4 a5 → Tot (fun σ => B_Z61_L0 (σ 0) (F_Z36 (σ 0)) (σ 0) ((a0, ()), (a1, ()), (a2, ()), ((), ()), a3, a4, a5, ())) (Q a0 a1 a2 a3 a4 a5) := fun a0 a1 a2 a3 a4 a5 => Tot.loop0 (L := fun k => B_Z61_L0 k (F_Z36 k)) (B := fun k g => u_Z61_L0 (B_Z61_L0b k (F_Z36 k) g)) (Q := u_Z61_L0 Q) (fun _ _ _ => rfl) (u_Z61_L0 I) (u_Z61_L0 μ)
    (fun t ht again hag h => step t.1.1 t.2.1.1 t.2.2.1.1 t.2.2.2.2.1 t.2.2.2.2.2.1 t.2.2.2.2.2.2.1 ht again hag fun y0 y1 y2 y3 y4 y5 => h ((y0, ()), (y1, ()), (y2, ()), ((), ()), y3, y4, y5, ())) ((a0, ()), (a1, ()), (a2, ()), ((), ()), a3, a4, a5, ())
abbrev R_Z25 : Type := Option ((List Int × Bool × Unit) × (Unit))
abbrev C_Z25 : Type := (List (Int × Int)) → R_Z25
def B_Z25 (k : Nat) (c_Z16 : C_Z16) (c_Z61 : C_Z61) (ops : List (Int × Int)) : R_Z25 :=
  (c_Z16 ops).bind fun r8 =>
  bif (!r8.1.2.1) then
    some (([], false, ()), ())
  else
    (c_Z61 r8.1.1.1 ([r8.1.1.2.1])).bind fun r18 =>
    some ((r18.1.1, true, ()), ())
def F_Z25 : Nat → C_Z25
  | 0, _ => none
  | k + 1, ops => B_Z25 k (F_Z16 k) (F_Z61 k) ops
theorem tot_Z25 {ops : _} {Q : _ → Prop} (h : Tot (fun σ => B_Z25 (σ 0) (F_Z16 (σ 0)) (F_Z61 (σ 0)) ops) Q) : Tot (fun σ => F_Z25 (σ 0) ops) Q :=
  Tot.call (F := fun k => F_Z25 k ops) (B := fun k => B_Z25 k (F_Z16 k) (F_Z61 k) ops) (fun k => rfl) h
abbrev R_Z48 : Type := Option (((List (Int × Int)) × Unit) × (Unit))
abbrev C_Z48 : Type := (List (Int × Int)) → (List (Int × Int)) → R_Z48
def B_Z48 (k : Nat) (a b : List (Int × Int)) : R_Z48 :=
  chk (room ([] : List (Int × Int)).length a.length) <|
  chk (room a.length b.length) <|
  some (((a ++ b), ()), ())
def F_Z48 : Nat → C_Z48
  | 0, _, _ => none
  | k + 1, a, b => B_Z48 k a b
theorem tot_Z48 {a b : _} {Q : _ → Prop} (h : Tot (fun σ => B_Z48 (σ 0) a b) Q) : Tot (fun σ => F_Z48 (σ 0) a b) Q :=
  Tot.call (F := fun k => F_Z48 k a b) (B := fun k => B_Z48 k a b) (fun k => rfl) h
abbrev R_Z49 : Type := Option ((Bool × Unit) × (Unit))
abbrev C_Z49 : Type := List Int → R_Z49
abbrev T_Z49_L0 : Type := List Int × Int × Unit
def B_Z49_L0b (k : Nat) (again0 : T_Z49_L0 → R_Z49) (list : List Int) (i : Int) : R_Z49 :=
  bif decide (i < (len list)) then
    chk (inb i list.length) <|
    chk (inb (w64 (i - 1)) list.length) <|
    bif decide ((rdx (0 : Int) list i) ≤ (rdx (0 : Int) list (w64 (i - 1)))) then
      some ((false, ()), ())
    else
      again0 (list, w64 (i + 1), ())
  else
    some ((true, ()), ())
def B_Z49_L0 (k : Nat) (n : Nat) (t : T_Z49_L0) : R_Z49 :=
  lfix n (fun again t => B_Z49_L0b k again t.1 t.2.1) t
def B_Z49 (k : Nat) (list : List Int) : R_Z49 :=
  B_Z49_L0 k k (list, 1, ())
def F_Z49 : Nat → C_Z49
  | 0, _ => none
  | k + 1, list => B_Z49 k list
theorem tot_Z49 {list : _} {Q : _ → Prop} (h : Tot (fun σ => B_Z49 (σ 0) list) Q) : Tot (fun σ => F_Z49 (σ 0) list) Q :=
  Tot.call (F := fun k => F_Z49 k list) (B := fun k => B_Z49 k list) (fun k => rfl) h
abbrev A_Z49_L0 (Z : Type) : Type := List Int → Int → Z
abbrev u_Z49_L0 {Z : Type} (f : A_Z49_L0 Z) (t : T_Z49_L0) : Z := f t.1 t.2.1
theorem loop_Z49_L0 {Q : A_Z49_L0 (((Bool × Unit) × (Unit)) → Prop)} (I : A_Z49_L0 Prop) (μ : A_Z49_L0 Nat)
    (step : ∀ a0 a1, I a0 a1 → ∀ again : (Nat → Nat) → T_Z49_L0 → R_Z49, Dep 2 again → (∀ y0 y1, I y0 y1 → μ y0 y1 < μ a0 a1 → Tot (fun σ => again σ (y0, y1, ())) (Q y0 y1)) →
      Tot (fun σ => B_Z49_L0b (σ 0) (again σ) a0 a1) (Q a0 a1)) :
    ∀ a0 a1, I a0 a1 → Tot (fun σ => B_Z49_L0 (σ 0) (σ 0) (a0, a1, ())) (Q a0 a1) := fun a0 a1 => Tot.loop0 (L := fun k => B_Z49_L0 k) (B := fun k g => u_Z49_L0 (B_Z49_L0b k g)) (Q := u_Z49_L0 Q) (fun _ _ _ => rfl) (u_Z49_L0 I) (u_Z49_L0 μ)
    (fun t ht again hag h => step t.1 t.2.1 ht again hag fun y0 y1 => h (y0, y1, ())) (a0, a1, ())
abbrev R_Z22 : Type := Option ((Bool × Unit) × (Unit))
abbrev C_Z22 : Type := List Int → R_Z22
abbrev T_Z22_L2 : Type := (List (Int × Int)) × List Int × List Int × Bool × Int × Unit
def B_Z22_J1 (k : Nat) (c_Z6 : C_Z6) (c_Z43 : C_Z43) (c_Z45 : C_Z45) (c_Z29 : C_Z29) (c_Z25 : C_Z25) (c_Z48 : C_Z48) (c_Z49 : C_Z49) (again2 : T_Z22_L2 → R_Z22) (ops : List (Int × Int)) (out c : List Int) (fine : Bool) (i : Int) (t83 : Bool) : R_Z22 :=
  bif t83 then
    some ((false, ()), ())
  else
    again2 (ops, out, c, fine, w64 (i + 1), ())
def B_Z22_L2b (k : Nat) (c_Z6 : C_Z6) (c_Z43 : C_Z43) (c_Z45 : C_Z45) (c_Z29 : C_Z29) (c_Z25 : C_Z25) (c_Z48 : C_Z48) (c_Z49 : C_Z49) (again2 : T_Z22_L2 → R_Z22) (ops : List (Int × Int)) (out c : List Int) (fine : Bool) (i : Int) : R_Z22 :=
  bif decide (i < (len out)) then
    chk (inb i out.length) <|
    chk (decide (i.toNat < out.length)) <|
    chk (cutb 0 (out.getD i.toNat (0 : Int)) ops.length) <|
    chk (inb i out.length) <|
    chk (decide (i.toNat < out.length)) <|
    chk (cutb (w64 ((out.getD i.toNat (0 : Int)) + 1)) (len ops) ops.length) <|
    (c_Z48 ((ops.take ((out.getD i.toNat (0 : Int)).toNat)).drop 0) ((ops.take ((len ops).toNat)).drop ((w64 ((out.getD i.toNat (0 : Int)) + 1)).toNat))).bind fun r56 =>
    (c_Z25 r56.1.1).bind fun r59 =>
    chk (inb i out.length) <|
    chk (decide (i.toNat < out.length)) <|
    chk (inb (out.getD i.toNat (0 : Int)) ops.length) <|
    chk (decide ((out.getD i.toNat (0 : Int)).toNat < ops.length)) <|
    bif (((ops.getD ((out.getD i.toNat (0 : Int)).toNat) ((0 : Int), (0 : Int))).1) != 15) then
      jn (fun t => B_Z22_J1 k c_Z6 c_Z43 c_Z45 c_Z29 c_Z25 c_Z48 c_Z49 again2 t.1 t.2.1 t.2.2.1 t.2.2.2.1 t.2.2.2.2.1 t.2.2.2.2.2.1) (ops, out, c, fine, i, true, ())
    else
      bif fine then
        bif (!r59.1.2.1) then
          jn (fun t => B_Z22_J1 k c_Z6 c_Z43 c_Z45 c_Z29 c_Z25 c_Z48 c_Z49 again2 t.1 t.2.1 t.2.2.1 t.2.2.2.1 t.2.2.2.2.1 t.2.2.2.2.2.1) (ops, out, c, fine, i, true, ())
        else
          (c_Z29 c r59.1.1).bind fun r79 =>
          jn (fun t => B_Z22_J1 k c_Z6 c_Z43 c_Z45 c_Z29 c_Z25 c_Z48 c_Z49 again2 t.1 t.2.1 t.2.2.1 t.2.2.2.1 t.2.2.2.2.1 t.2.2.2.2.2.1) (ops, out, c, fine, i, (!r79.1.1), ())
      else
        jn (fun t => B_Z22_J1 k c_Z6 c_Z43 c_Z45 c_Z29 c_Z25 c_Z48 c_Z49 again2 t.1 t.2.1 t.2.2.1 t.2.2.2.1 t.2.2.2.2.1 t.2.2.2.2.2.1) (ops, out, c, fine, i, false, ())
  else
    (c_Z49 out).bind fun r85 =>
    some ((r85.1.1, ()), ())
def B_Z22_L2 (k : Nat) (c_Z6 : C_Z6) (c_Z43 : C_Z43) (c_Z45 : C_Z45) (c_Z29 : C_Z29) (c_Z25 : C_Z25) (c_Z48 : C_Z48) (c_Z49 : C_Z49) (n : Nat) (t : T_Z22_L2) : R_Z22 :=
  lfix n (fun again t => B_Z22_L2b k c_Z6 c_Z43 c_Z45 c_Z29 c_Z25 c_Z48 c_Z49 again t.1 t.2.1 t.2.2.1 t.2.2.2.1 t.2.2.2.2.1) t
def B_Z22_J0 (k : Nat) (c_Z6 : C_Z6) (c_Z43 : C_Z43) (c_Z45 : C_Z45) (c_Z29 : C_Z29) (c_Z25 : C_Z25) (c_Z48 : C_Z48) (c_Z49 : C_Z49) (ops : List (Int × Int)) (out : List Int) (t27 : Bool) : R_Z22 :=
  bif t27 then
    (c_Z45 ops).bind fun r30 =>
    (c_Z29 out r30.1.1).bind fun r31 =>
    some ((r31.1.1, ()), ())
  else
    (c_Z25 ops).bind fun r34 =>
    B_Z22_L2 k c_Z6 c_Z43 c_Z45 c_Z29 c_Z25 c_Z48 c_Z49 k (ops, out, r34.1.1, r34.1.2.1, 0, ())
def B_Z22 (k : Nat) (c_Z6 : C_Z6) (c_Z43 : C_Z43) (c_Z45 : C_Z45) (c_Z29 : C_Z29) (c_Z25 : C_Z25) (c_Z48 : C_Z48) (c_Z49 : C_Z49) (code : List Int) : R_Z22 :=
  bif decide ((len code) > 1048576) then
    some ((true, ()), ())
  else
    (c_Z6 code).bind fun r15 =>
    (c_Z43 r15.1.1).bind fun r17 =>
    (c_Z45 r15.1.1).bind fun r20 =>
    (c_Z29 r17.1.1 r20.1.1).bind fun r21 =>
    bif (!r21.1.1) then
      jn (fun t => B_Z22_J0 k c_Z6 c_Z43 c_Z45 c_Z29 c_Z25 c_Z48 c_Z49 t.1 t.2.1 t.2.2.1) (r15.1.1, r17.1.1, true, ())
    else
      jn (fun t => B_Z22_J0 k c_Z6 c_Z43 c_Z45 c_Z29 c_Z25 c_Z48 c_Z49 t.1 t.2.1 t.2.2.1) (r15.1.1, r17.1.1, ((len r17.1.1) == 0), ())
def F_Z22 : Nat → C_Z22
  | 0, _ => none
  | k + 1, code => B_Z22 k (F_Z6 k) (F_Z43 k) (F_Z45 k) (F_Z29 k) (F_Z25 k) (F_Z48 k) (F_Z49 k) code
theorem tot_Z22 {code : _} {Q : _ → Prop} (h : Tot (fun σ => B_Z22 (σ 0) (F_Z6 (σ 0)) (F_Z43 (σ 0)) (F_Z45 (σ 0)) (F_Z29 (σ 0)) (F_Z25 (σ 0)) (F_Z48 (σ 0)) (F_Z49 (σ 0)) code) Q) : Tot (fun σ => F_Z22 (σ 0) code) Q :=
  Tot.call (F := fun k => F_Z22 k code) (B := fun k => B_Z22 k (F_Z6 k) (F_Z43 k) (F_Z45 k) (F_Z29 k) (F_Z25 k) (F_Z48 k) (F_Z49 k) code) (fun k => rfl) h
abbrev A_Z22_L2 (Z : Type) : Type := (List (Int × Int)) → List Int → List Int → Bool → Int → Z
abbrev u_Z22_L2 {Z : Type} (f : A_Z22_L2 Z) (t : T_Z22_L2) : Z := f t.1 t.2.1 t.2.2.1 t.2.2.2.1 t.2.2.2.2.1
theorem loop_Z22_L2 {Q : A_Z22_L2 (((Bool × Unit) × (Unit)) → Prop)} (I : A_Z22_L2 Prop) (μ : A_Z22_L2 Nat)
    (step : ∀ a0 a1 a2 a3 a4, I a0 a1 a2 a3 a4 → ∀ again : (Nat → Nat) → T_Z22_L2 → R_Z22, Dep 2 again → (∀ y0 y1 y2 y3 y4, I y0 y1 y2 y3 y4 → μ y0 y1 y2 y3 y4 < μ a0 a1 a2 a3 a4 → Tot (fun σ => again σ (y0, y1, y2, y3, y4, ())) (Q y0 y1 y2 y3 y4)) →
      Tot (fun σ => B_Z22_L2b (σ 0) (F_Z6 (σ 0)) (F_Z43 (σ 0)) (F_Z45 (σ 0)) (F_Z29 (σ 0)) (F_Z25 (σ 0)) (F_Z48 (σ 0)) (F_Z49 (σ 0)) (again σ) a0 a1 a2 a3 a4) (Q a0 a1 a2 a3 a4)) :
    ∀ a0 a1 a2 a3 a4, I a0 a1 a2 a3 a4 → Tot (fun σ => B_Z22_L2 (σ 0) (F_Z6 (σ 0)) (F_Z43 (σ 0)) (F_Z45 (σ 0)) (F_Z29 (σ 0)) (F_Z25 (σ 0)) (F_Z48 (σ 0)) (F_Z49 (σ 0)) (σ 0) (a0, a1, a2, a3, a4, ())) (Q a0 a1 a2 a3 a4) := fun a0 a1 a2 a3 a4 => Tot.loop0 (L := fun k => B_Z22_L2 k (F_Z6 k) (F_Z43 k) (F_Z45 k) (F_Z29 k) (F_Z25 k) (F_Z48 k) (F_Z49 k)) (B := fun k g => u_Z22_L2 (B_Z22_L2b k (F_Z6 k) (F_Z43 k) (F_Z45 k) (F_Z29 k) (F_Z25 k) (F_Z48 k) (F_Z49 k) g)) (Q := u_Z22_L2 Q) (fun _ _ _ => rfl) (u_Z22_L2 I) (u_Z22_L2 μ)
    (fun t ht again hag h => step t.1 t.2.1 t.2.2.1 t.2.2.2.1 t.2.2.2.2.1 ht again hag fun y0 y1 y2 y3 y4 => h (y0, y1, y2, y3, y4, ())) (a0, a1, a2, a3, a4, ())
end Go.Gx

/-
  The functions, as Gx tells them (printed by gen.py).
-/
import Derived.Test.YtafomfpnbhnmfaaXSh1
set_option linter.unusedVariables false
namespace Go.Gx
def B_Z66_J2 (k : Nat) (x n2 : Int) : R_Z66 :=
  chk (inb (wu8 (x)) (ByteArray.mk #[0, 1, 2, 2, 3, 3, 3, 3, 4, 4, 4, 4, 4, 4, 4, 4, 5, 5, 5, 5, 5, 5, 5, 5, 5, 5, 5, 5, 5, 5, 5, 5, 6, 6, 6, 6, 6, 6, 6, 6, 6, 6, 6, 6, 6, 6, 6, 6, 6, 6, 6, 6, 6, 6, 6, 6, 6, 6, 6, 6, 6, 6, 6, 6, 7, 7, 7, 7, 7, 7, 7, 7, 7, 7, 7, 7, 7, 7, 7, 7, 7, 7, 7, 7, 7, 7, 7, 7, 7, 7, 7, 7, 7, 7, 7, 7, 7, 7, 7, 7, 7, 7, 7, 7, 7, 7, 7, 7, 7, 7, 7, 7, 7, 7, 7, 7, 7, 7, 7, 7, 7, 7, 7, 7, 7, 7, 7, 7, 8, 8, 8, 8, 8, 8, 8, 8, 8, 8, 8, 8, 8, 8, 8, 8, 8, 8, 8, 8, 8, 8, 8, 8, 8, 8, 8, 8, 8, 8, 8, 8, 8, 8, 8, 8, 8, 8, 8, 8, 8, 8, 8, 8, 8, 8, 8, 8, 8, 8, 8, 8, 8, 8, 8, 8, 8, 8, 8, 8, 8, 8, 8, 8, 8, 8, 8, 8, 8, 8, 8, 8, 8, 8, 8, 8, 8, 8, 8, 8, 8, 8, 8, 8, 8, 8, 8, 8, 8, 8, 8, 8, 8, 8, 8, 8, 8, 8, 8, 8, 8, 8, 8, 8, 8, 8, 8, 8, 8, 8, 8, 8, 8, 8, 8, 8, 8, 8, 8, 8, 8, 8, 8, 8, 8, 8, 8, 8]).size) <|
  let v22 : Int := (btx (ByteArray.mk #[0, 1, 2, 2, 3, 3, 3, 3, 4, 4, 4, 4, 4, 4, 4, 4, 5, 5, 5, 5, 5, 5, 5, 5, 5, 5, 5, 5, 5, 5, 5, 5, 6, 6, 6, 6, 6, 6, 6, 6, 6, 6, 6, 6, 6, 6, 6, 6, 6, 6, 6, 6, 6, 6, 6, 6, 6, 6, 6, 6, 6, 6, 6, 6, 7, 7, 7, 7, 7, 7, 7, 7, 7, 7, 7, 7, 7, 7, 7, 7, 7, 7, 7, 7, 7, 7, 7, 7, 7, 7, 7, 7, 7, 7, 7, 7, 7, 7, 7, 7, 7, 7, 7, 7, 7, 7, 7, 7, 7, 7, 7, 7, 7, 7, 7, 7, 7, 7, 7, 7, 7, 7, 7, 7, 7, 7, 7, 7, 8, 8, 8, 8, 8, 8, 8, 8, 8, 8, 8, 8, 8, 8, 8, 8, 8, 8, 8, 8, 8, 8, 8, 8, 8, 8, 8, 8, 8, 8, 8, 8, 8, 8, 8, 8, 8, 8, 8, 8, 8, 8, 8, 8, 8, 8, 8, 8, 8, 8, 8, 8, 8, 8, 8, 8, 8, 8, 8, 8, 8, 8, 8, 8, 8, 8, 8, 8, 8, 8, 8, 8, 8, 8, 8, 8, 8, 8, 8, 8, 8, 8, 8, 8, 8, 8, 8, 8, 8, 8, 8, 8, 8, 8, 8, 8, 8, 8, 8, 8, 8, 8, 8, 8, 8, 8, 8, 8, 8, 8, 8, 8, 8, 8, 8, 8, 8, 8, 8, 8, 8, 8, 8, 8, 8, 8, 8, 8]) (wu8 (x)))
  some ((w64 (n2 + (w64 (v22))), ()), ())
def B_Z66_J1 (k : Nat) (x n2 : Int) : R_Z66 :=
  bif decide (x ≥ 256) then
    jn (fun t => B_Z66_J2 k t.1 t.2.1) ((shrK .u64 x 8), w64 (n2 + 8), ())
  else
    jn (fun t => B_Z66_J2 k t.1 t.2.1) (x, n2, ())
def B_Z66_J0 (k : Nat) (x n2 : Int) : R_Z66 :=
  bif decide (x ≥ 65536) then
    jn (fun t => B_Z66_J1 k t.1 t.2.1) ((shrK .u64 x 16), w64 (n2 + 16), ())
  else
    jn (fun t => B_Z66_J1 k t.1 t.2.1) (x, n2, ())
def B_Z66 (k : Nat) (x : Int) : R_Z66 :=
  bif decide (x ≥ 4294967296) then
    jn (fun t => B_Z66_J0 k t.1 t.2.1) ((shrK .u64 x 32), 32, ())
  else
    jn (fun t => B_Z66_J0 k t.1 t.2.1) (x, 0, ())
def F_Z66 : Nat → C_Z66
  | 0, _ => none
  | k + 1, x => B_Z66 k x
theorem tot_Z66 {x : _} {Q : _ → Prop} (h : Tot (fun σ => B_Z66 (σ 0) x) Q) : Tot (fun σ => F_Z66 (σ 0) x) Q :=
  Tot.call (F := fun k => F_Z66 k x) (B := fun k => B_Z66 k x) (fun k => rfl) h
abbrev R_bits_Len : Type := Option ((Int × Unit) × (Unit))
abbrev C_bits_Len : Type := Int → R_bits_Len
def B_bits_Len (k : Nat) (c_Z66 : C_Z66) (x : Int) : R_bits_Len :=
  (c_Z66 x).bind fun r7 =>
  some ((r7.1.1, ()), ())
def F_bits_Len : Nat → C_bits_Len
  | 0, _ => none
  | k + 1, x => B_bits_Len k (F_Z66 k) x
theorem tot_bits_Len {x : _} {Q : _ → Prop} (h : Tot (fun σ => B_bits_Len (σ 0) (F_Z66 (σ 0)) x) Q) : Tot (fun σ => F_bits_Len (σ 0) x) Q :=
  Tot.call (F := fun k => F_bits_Len k x) (B := fun k => B_bits_Len k (F_Z66 k) x) (fun k => rfl) h
abbrev R_Z38 : Type := Option ((Bool × Unit) × (Unit))
abbrev C_Z38 : Type := Int → R_Z38
def B_Z38 (k : Nat) (x : Int) : R_Z38 :=
  some (((x != x), ()), ())
def F_Z38 : Nat → C_Z38
  | 0, _ => none
  | k + 1, x => B_Z38 k x
theorem tot_Z38 {x : _} {Q : _ → Prop} (h : Tot (fun σ => B_Z38 (σ 0) x) Q) : Tot (fun σ => F_Z38 (σ 0) x) Q :=
  Tot.call (F := fun k => F_Z38 k x) (B := fun k => B_Z38 k x) (fun k => rfl) h
abbrev R_Z42 : Type := Option ((Bool × Unit) × (Unit))
abbrev C_Z42 : Type := Int → Int → R_Z42
def B_Z42 (k : Nat) (c_Z38 : C_Z38) (x y : Int) : R_Z42 :=
  (c_Z38 x).bind fun r6 =>
  bif r6.1.1 then
    (c_Z38 y).bind fun r9 =>
    bif (!r9.1.1) then
      some ((true, ()), ())
    else
      some ((decide (x < y), ()), ())
  else
    some ((decide (x < y), ()), ())
def F_Z42 : Nat → C_Z42
  | 0, _, _ => none
  | k + 1, x, y => B_Z42 k (F_Z38 k) x y
theorem tot_Z42 {x y : _} {Q : _ → Prop} (h : Tot (fun σ => B_Z42 (σ 0) (F_Z38 (σ 0)) x y) Q) : Tot (fun σ => F_Z42 (σ 0) x y) Q :=
  Tot.call (F := fun k => F_Z42 k x y) (B := fun k => B_Z42 k (F_Z38 k) x y) (fun k => rfl) h
abbrev R_Z4 : Type := Option ((Unit) × (List Int × Unit))
abbrev C_Z4 : Type := List Int → Int → Int → R_Z4
abbrev T_Z4_L1 : Type := List Int × Int × Int × Int × Int × Unit
abbrev T_Z4_L2 : Type := List Int × Int × Int × Int × Unit
def B_Z4_J0 (k : Nat) (c_Z42 : C_Z42) (again1 : T_Z4_L1 → R_Z4) (again2 : T_Z4_L2 → R_Z4) (data : List Int) (a b i j : Int) (t30 : Bool) : R_Z4 :=
  bif t30 then
    chk (inb (w64 (j - 1)) data.length) <|
    chk (decide ((w64 (j - 1)).toNat < data.length)) <|
    chk (inb j data.length) <|
    chk (decide (j.toNat < data.length)) <|
    chk (inb j data.length) <|
    chk (decide (j.toNat < data.length)) <|
    chk (inb (w64 (j - 1)) (data.set j.toNat (data.getD ((w64 (j - 1)).toNat) (0 : Int))).length) <|
    chk (decide ((w64 (j - 1)).toNat < (data.set j.toNat (data.getD ((w64 (j - 1)).toNat) (0 : Int))).length)) <|
    again1 (((data.set j.toNat (data.getD ((w64 (j - 1)).toNat) (0 : Int))).set ((w64 (j - 1)).toNat) (data.getD j.toNat (0 : Int))), a, b, i, w64 (j - 1), ())
  else
    again2 (data, a, b, w64 (i + 1), ())
def B_Z4_L1b (k : Nat) (c_Z42 : C_Z42) (again2 : T_Z4_L2 → R_Z4) (again1 : T_Z4_L1 → R_Z4) (data : List Int) (a b i j : Int) : R_Z4 :=
  bif decide (j > a) then
    chk (inb j data.length) <|
    chk (decide (j.toNat < data.length)) <|
    chk (inb (w64 (j - 1)) data.length) <|
    chk (decide ((w64 (j - 1)).toNat < data.length)) <|
    (c_Z42 (data.getD j.toNat (0 : Int)) (data.getD ((w64 (j - 1)).toNat) (0 : Int))).bind fun r29 =>
    jn (fun t => B_Z4_J0 k c_Z42 again1 again2 t.1 t.2.1 t.2.2.1 t.2.2.2.1 t.2.2.2.2.1 t.2.2.2.2.2.1) (data, a, b, i, j, r29.1.1, ())
  else
    jn (fun t => B_Z4_J0 k c_Z42 again1 again2 t.1 t.2.1 t.2.2.1 t.2.2.2.1 t.2.2.2.2.1 t.2.2.2.2.2.1) (data, a, b, i, j, false, ())
def B_Z4_L1 (k : Nat) (c_Z42 : C_Z42) (again2 : T_Z4_L2 → R_Z4) (n : Nat) (t : T_Z4_L1) : R_Z4 :=
  lfix n (fun again t => B_Z4_L1b k c_Z42 again2 again t.1 t.2.1 t.2.2.1 t.2.2.2.1 t.2.2.2.2.1) t
def B_Z4_L2b (k : Nat) (c_Z42 : C_Z42) (again2 : T_Z4_L2 → R_Z4) (data : List Int) (a b i : Int) : R_Z4 :=
  bif decide (i < b) then
    B_Z4_L1 k c_Z42 again2 k (data, a, b, i, i, ())
  else
    some ((), (data, ()))
def B_Z4_L2 (k : Nat) (c_Z42 : C_Z42) (n : Nat) (t : T_Z4_L2) : R_Z4 :=
  lfix n (fun again t => B_Z4_L2b k c_Z42 again t.1 t.2.1 t.2.2.1 t.2.2.2.1) t
def B_Z4 (k : Nat) (c_Z42 : C_Z42) (data : List Int) (a b : Int) : R_Z4 :=
  B_Z4_L2 k c_Z42 k (data, a, b, w64 (a + 1), ())
def F_Z4 : Nat → C_Z4
  | 0, _, _, _ => none
  | k + 1, data, a, b => B_Z4 k (F_Z42 k) data a b
theorem tot_Z4 {data a b : _} {Q : _ → Prop} (h : Tot (fun σ => B_Z4 (σ 0) (F_Z42 (σ 0)) data a b) Q) : Tot (fun σ => F_Z4 (σ 0) data a b) Q :=
  Tot.call (F := fun k => F_Z4 k data a b) (B := fun k => B_Z4 k (F_Z42 k) data a b) (fun k => rfl) h
abbrev A_Z4_L1 (Z : Type) : Type := List Int → Int → Int → Int → Int → Z
abbrev u_Z4_L1 {Z : Type} (f : A_Z4_L1 Z) (t : T_Z4_L1) : Z := f t.1 t.2.1 t.2.2.1 t.2.2.2.1 t.2.2.2.2.1
theorem loop_Z4_L1 {again2 : (Nat → Nat) → T_Z4_L2 → R_Z4} (hag2 : Dep 2 again2) {Q : A_Z4_L1 (((Unit) × (List Int × Unit)) → Prop)} (I : A_Z4_L1 Prop) (μ : A_Z4_L1 Nat)
    (step : ∀ a0 a1 a2 a3 a4, I a0 a1 a2 a3 a4 → ∀ again : (Nat → Nat) → T_Z4_L1 → R_Z4, Dep 3 again → (∀ y0 y1 y2 y3 y4, I y0 y1 y2 y3 y4 → μ y0 y1 y2 y3 y4 < μ a0 a1 a2 a3 a4 → Tot (fun σ => again σ (y0, y1, y2, y3, y4, ())) (Q y0 y1 y2 y3 y4)) →
      Tot (fun σ => B_Z4_L1b (σ 0) (F_Z42 (σ 0)) (again2 σ) (again σ) a0 a1 a2 a3 a4) (Q a0 a1 a2 a3 a4)) :
    ∀ a0 a1 a2 a3 a4, I a0 a1 a2 a3 a4 → Tot (fun σ => B_Z4_L1 (σ 0) (F_Z42 (σ 0)) (again2 σ) (σ 0) (a0, a1, a2, a3, a4, ())) (Q a0 a1 a2 a3 a4) := fun a0 a1 a2 a3 a4 => Tot.loop (L := fun σ n t => B_Z4_L1 (σ 0) (F_Z42 (σ 0)) (again2 σ) n t) (B := fun σ g => u_Z4_L1 (B_Z4_L1b (σ 0) (F_Z42 (σ 0)) (again2 σ) g)) (Q := u_Z4_L1 Q) 2 (by decide)
    (fun s s' h => by have e0 : s 0 = s' 0 := h 0 (by decide); simp only [e0, hag2 s s' h]) (fun s s' h => by have e0 : s 0 = s' 0 := h 0 (by decide); simp only [e0, hag2 s s' h]) (fun _ _ _ => rfl) (u_Z4_L1 I) (u_Z4_L1 μ)
    (fun t ht again hag h => step t.1 t.2.1 t.2.2.1 t.2.2.2.1 t.2.2.2.2.1 ht again hag fun y0 y1 y2 y3 y4 => h (y0, y1, y2, y3, y4, ())) (a0, a1, a2, a3, a4, ())
abbrev A_Z4_L2 (Z : Type) : Type := List Int → Int → Int → Int → Z
abbrev u_Z4_L2 {Z : Type} (f : A_Z4_L2 Z) (t : T_Z4_L2) : Z := f t.1 t.2.1 t.2.2.1 t.2.2.2.1
theorem loop_Z4_L2 {Q : A_Z4_L2 (((Unit) × (List Int × Unit)) → Prop)} (I : A_Z4_L2 Prop) (μ : A_Z4_L2 Nat)
    (step : ∀ a0 a1 a2 a3, I a0 a1 a2 a3 → ∀ again : (Nat → Nat) → T_Z4_L2 → R_Z4, Dep 2 again → (∀ y0 y1 y2 y3, I y0 y1 y2 y3 → μ y0 y1 y2 y3 < μ a0 a1 a2 a3 → Tot (fun σ => again σ (y0, y1, y2, y3, ())) (Q y0 y1 y2 y3)) →
      Tot (fun σ => B_Z4_L2b (σ 0) (F_Z42 (σ 0)) (again σ) a0 a1 a2 a3) (Q a0 a1 a2 a3)) :
    ∀ a0 a1 a2 a3, I a0 a1 a2 a3 → Tot (fun σ => B_Z4_L2 (σ 0) (F_Z42 (σ 0)) (σ 0) (a0, a1, a2, a3, ())) (Q a0 a1 a2 a3) := fun a0 a1 a2 a3 => Tot.loop0 (L := fun k => B_Z4_L2 k (F_Z42 k)) (B := fun k g => u_Z4_L2 (B_Z4_L2b k (F_Z42 k) g)) (Q := u_Z4_L2 Q) (fun _ _ _ => rfl) (u_Z4_L2 I) (u_Z4_L2 μ)
    (fun t ht again hag h => step t.1 t.2.1 t.2.2.1 t.2.2.2.1 ht again hag fun y0 y1 y2 y3 => h (y0, y1, y2, y3, ())) (a0, a1, a2, a3, ())
abbrev R_Z8 : Type := Option ((Unit) × (List Int × Unit))
abbrev C_Z8 : Type := List Int → Int → Int → Int → R_Z8
abbrev T_Z8_L2 : Type := List Int × Int × Int × Int × Unit
def B_Z8_J1 (k : Nat) (c_Z42 : C_Z42) (again2 : T_Z8_L2 → R_Z8) (data : List Int) (hi first root child : Int) : R_Z8 :=
  chk (inb (w64 (first + root)) data.length) <|
  chk (decide ((w64 (first + root)).toNat < data.length)) <|
  chk (inb (w64 (first + child)) data.length) <|
  chk (decide ((w64 (first + child)).toNat < data.length)) <|
  (c_Z42 (data.getD ((w64 (first + root)).toNat) (0 : Int)) (data.getD ((w64 (first + child)).toNat) (0 : Int))).bind fun r51 =>
  bif (!r51.1.1) then
    some ((), (data, ()))
  else
    chk (inb (w64 (first + child)) data.length) <|
    chk (decide ((w64 (first + child)).toNat < data.length)) <|
    chk (inb (w64 (first + root)) data.length) <|
    chk (decide ((w64 (first + root)).toNat < data.length)) <|
    chk (inb (w64 (first + root)) data.length) <|
    chk (decide ((w64 (first + root)).toNat < data.length)) <|
    chk (inb (w64 (first + child)) (data.set ((w64 (first + root)).toNat) (data.getD ((w64 (first + child)).toNat) (0 : Int))).length) <|
    chk (decide ((w64 (first + child)).toNat < (data.set ((w64 (first + root)).toNat) (data.getD ((w64 (first + child)).toNat) (0 : Int))).length)) <|
    again2 (((data.set ((w64 (first + root)).toNat) (data.getD ((w64 (first + child)).toNat) (0 : Int))).set ((w64 (first + child)).toNat) (data.getD ((w64 (first + root)).toNat) (0 : Int))), hi, first, child, ())
def B_Z8_J0 (k : Nat) (c_Z42 : C_Z42) (again2 : T_Z8_L2 → R_Z8) (data : List Int) (hi first root child : Int) (t36 : Bool) : R_Z8 :=
  bif t36 then
    jn (fun t => B_Z8_J1 k c_Z42 again2 t.1 t.2.1 t.2.2.1 t.2.2.2.1 t.2.2.2.2.1) (data, hi, first, root, w64 (child + 1), ())
  else
    jn (fun t => B_Z8_J1 k c_Z42 again2 t.1 t.2.1 t.2.2.1 t.2.2.2.1 t.2.2.2.2.1) (data, hi, first, root, child, ())
def B_Z8_L2b (k : Nat) (c_Z42 : C_Z42) (again2 : T_Z8_L2 → R_Z8) (data : List Int) (hi first root : Int) : R_Z8 :=
  bif decide ((w64 ((w64 (2 * root)) + 1)) ≥ hi) then
    some ((), (data, ()))
  else
    bif decide ((w64 ((w64 ((w64 (2 * root)) + 1)) + 1)) < hi) then
      chk (inb (w64 (first + (w64 ((w64 (2 * root)) + 1)))) data.length) <|
      chk (decide ((w64 (first + (w64 ((w64 (2 * root)) + 1)))).toNat < data.length)) <|
      chk (inb (w64 ((w64 (first + (w64 ((w64 (2 * root)) + 1)))) + 1)) data.length) <|
      chk (decide ((w64 ((w64 (first + (w64 ((w64 (2 * root)) + 1)))) + 1)).toNat < data.length)) <|
      (c_Z42 (data.getD ((w64 (first + (w64 ((w64 (2 * root)) + 1)))).toNat) (0 : Int)) (data.getD ((w64 ((w64 (first + (w64 ((w64 (2 * root)) + 1)))) + 1)).toNat) (0 : Int))).bind fun r35 =>
      jn (fun t => B_Z8_J0 k c_Z42 again2 t.1 t.2.1 t.2.2.1 t.2.2.2.1 t.2.2.2.2.1 t.2.2.2.2.2.1) (data, hi, first, root, w64 ((w64 (2 * root)) + 1), r35.1.1, ())
    else
      jn (fun t => B_Z8_J0 k c_Z42 again2 t.1 t.2.1 t.2.2.1 t.2.2.2.1 t.2.2.2.2.1 t.2.2.2.2.2.1) (data, hi, first, root, w64 ((w64 (2 * root)) + 1), false, ())
def B_Z8_L2 (k : Nat) (c_Z42 : C_Z42) (n : Nat) (t : T_Z8_L2) : R_Z8 :=
  lfix n (fun again t => B_Z8_L2b k c_Z42 again t.1 t.2.1 t.2.2.1 t.2.2.2.1) t
def B_Z8 (k : Nat) (c_Z42 : C_Z42) (data : List Int) (lo hi first : Int) : R_Z8 :=
  B_Z8_L2 k c_Z42 k (data, hi, first, lo, ())
def F_Z8 : Nat → C_Z8
  | 0, _, _, _, _ => none
  | k + 1, data, lo, hi, first => B_Z8 k (F_Z42 k) data lo hi first
theorem tot_Z8 {data lo hi first : _} {Q : _ → Prop} (h : Tot (fun σ => B_Z8 (σ 0) (F_Z42 (σ 0)) data lo hi first) Q) : Tot (fun σ => F_Z8 (σ 0) data lo hi first) Q :=
  Tot.call (F := fun k => F_Z8 k data lo hi first) (B := fun k => B_Z8 k (F_Z42 k) data lo hi first) (fun k => rfl) h
abbrev A_Z8_L2 (Z : Type) : Type := List Int → Int → Int → Int → Z
abbrev u_Z8_L2 {Z : Type} (f : A_Z8_L2 Z) (t : T_Z8_L2) : Z := f t.1 t.2.1 t.2.2.1 t.2.2.2.1
theorem loop_Z8_L2 {Q : A_Z8_L2 (((Unit) × (List Int × Unit)) → Prop)} (I : A_Z8_L2 Prop) (μ : A_Z8_L2 Nat)
    (step : ∀ a0 a1 a2 a3, I a0 a1 a2 a3 → ∀ again : (Nat → Nat) → T_Z8_L2 → R_Z8, Dep 2 again → (∀ y0 y1 y2 y3, I y0 y1 y2 y3 → μ y0 y1 y2 y3 < μ a0 a1 a2 a3 → Tot (fun σ => again σ (y0, y1, y2, y3, ())) (Q y0 y1 y2 y3)) →
      Tot (fun σ => B_Z8_L2b (σ 0) (F_Z42 (σ 0)) (again σ) a0 a1 a2 a3) (Q a0 a1 a2 a3)) :
    ∀ a0 a1 a2 a3, I a0 a1 a2 a3 → Tot (fun σ => B_Z8_L2 (σ 0) (F_Z42 (σ 0)) (σ 0) (a0, a1, a2, a3, ())) (Q a0 a1 a2 a3) := fun a0 a1 a2 a3 => Tot.loop0 (L := fun k => B_Z8_L2 k (F_Z42 k)) (B := fun k g => u_Z8_L2 (B_Z8_L2b k (F_Z42 k) g)) (Q := u_Z8_L2 Q) (fun _ _ _ => rfl) (u_Z8_L2 I) (u_Z8_L2 μ)
    (fun t ht again hag h => step t.1 t.2.1 t.2.2.1 t.2.2.2.1 ht again hag fun y0 y1 y2 y3 => h (y0, y1, y2, y3, ())) (a0, a1, a2, a3, ())
abbrev R_Z9 : Type := Option ((Unit) × (List Int × Unit))
abbrev C_Z9 : Type := List Int → Int → Int → R_Z9
abbrev T_Z9_L1 : Type := List Int × Int × Int × Int × Unit
abbrev T_Z9_L0 : Type := List Int × Int × Int × Int × Int × Unit
def B_Z9_L1b (k : Nat) (c_Z8 : C_Z8) (again1 : T_Z9_L1 → R_Z9) (data : List Int) (first lo i : Int) : R_Z9 :=
  bif decide (i ≥ 0) then
    chk (inb (w64 (first + i)) data.length) <|
    chk (decide ((w64 (first + i)).toNat < data.length)) <|
    chk (inb first data.length) <|
    chk (decide (first.toNat < data.length)) <|
    chk (inb first data.length) <|
    chk (decide (first.toNat < data.length)) <|
    chk (inb (w64 (first + i)) (data.set first.toNat (data.getD ((w64 (first + i)).toNat) (0 : Int))).length) <|
    chk (decide ((w64 (first + i)).toNat < (data.set first.toNat (data.getD ((w64 (first + i)).toNat) (0 : Int))).length)) <|
    (c_Z8 ((data.set first.toNat (data.getD ((w64 (first + i)).toNat) (0 : Int))).set ((w64 (first + i)).toNat) (data.getD first.toNat (0 : Int))) lo i first).bind fun r55 =>
    again1 (r55.2.1, first, lo, w64 (i - 1), ())
  else
    some ((), (data, ()))
def B_Z9_L1 (k : Nat) (c_Z8 : C_Z8) (n : Nat) (t : T_Z9_L1) : R_Z9 :=
  lfix n (fun again t => B_Z9_L1b k c_Z8 again t.1 t.2.1 t.2.2.1 t.2.2.2.1) t
def B_Z9_L0b (k : Nat) (c_Z8 : C_Z8) (again0 : T_Z9_L0 → R_Z9) (data : List Int) (first lo hi i : Int) : R_Z9 :=
  bif decide (i ≥ 0) then
    (c_Z8 data i hi first).bind fun r26 =>
    again0 (r26.2.1, first, lo, hi, w64 (i - 1), ())
  else
    B_Z9_L1 k c_Z8 k (data, first, lo, w64 (hi - 1), ())
def B_Z9_L0 (k : Nat) (c_Z8 : C_Z8) (n : Nat) (t : T_Z9_L0) : R_Z9 :=
  lfix n (fun again t => B_Z9_L0b k c_Z8 again t.1 t.2.1 t.2.2.1 t.2.2.2.1 t.2.2.2.2.1) t
def B_Z9 (k : Nat) (c_Z8 : C_Z8) (data : List Int) (a b : Int) : R_Z9 :=
  B_Z9_L0 k c_Z8 k (data, a, 0, w64 (b - a), w64 ((w64 ((w64 (b - a)) - 1)).tdiv 2), ())
def F_Z9 : Nat → C_Z9
  | 0, _, _, _ => none
  | k + 1, data, a, b => B_Z9 k (F_Z8 k) data a b
theorem tot_Z9 {data a b : _} {Q : _ → Prop} (h : Tot (fun σ => B_Z9 (σ 0) (F_Z8 (σ 0)) data a b) Q) : Tot (fun σ => F_Z9 (σ 0) data a b) Q :=
  Tot.call (F := fun k => F_Z9 k data a b) (B := fun k => B_Z9 k (F_Z8 k) data a b) (fun k => rfl) h
abbrev A_Z9_L1 (Z : Type) : Type := List Int → Int → Int → Int → Z
abbrev u_Z9_L1 {Z : Type} (f : A_Z9_L1 Z) (t : T_Z9_L1) : Z := f t.1 t.2.1 t.2.2.1 t.2.2.2.1
theorem loop_Z9_L1 {Q : A_Z9_L1 (((Unit) × (List Int × Unit)) → Prop)} (I : A_Z9_L1 Prop) (μ : A_Z9_L1 Nat)
    (step : ∀ a0 a1 a2 a3, I a0 a1 a2 a3 → ∀ again : (Nat → Nat) → T_Z9_L1 → R_Z9, Dep 2 again → (∀ y0 y1 y2 y3, I y0 y1 y2 y3 → μ y0 y1 y2 y3 < μ a0 a1 a2 a3 → Tot (fun σ => again σ (y0, y1, y2, y3, ())) (Q y0 y1 y2 y3)) →
      Tot (fun σ => B_Z9_L1b (σ 0) (F_Z8 (σ 0)) (again σ) a0 a1 a2 a3) (Q a0 a1 a2 a3)) :
    ∀ a0 a1 a2 a3, I a0 a1 a2 a3 → Tot (fun σ => B_Z9_L1 (σ 0) (F_Z8 (σ 0)) (σ 0) (a0, a1, a2, a3, ())) (Q a0 a1 a2 a3) := fun a0 a1 a2 a3 => Tot.loop0 (L := fun k => B_Z9_L1 k (F_Z8 k)) (B := fun k g => u_Z9_L1 (B_Z9_L1b k (F_Z8 k) g)) (Q := u_Z9_L1 Q) (fun _ _ _ => rfl) (u_Z9_L1 I) (u_Z9_L1 μ)
    (fun t ht again hag h => step t.1 t.2.1 t.2.2.1 t.2.2.2.1 ht again hag fun y0 y1 y2 y3 => h (y0, y1, y2, y3, ())) (a0, a1, a2, a3, ())
abbrev A_Z9_L0 (Z : Type) : Type := List Int → Int → Int → Int → Int → Z
abbrev u_Z9_L0 {Z : Type} (f : A_Z9_L0 Z) (t : T_Z9_L0) : Z := f t.1 t.2.1 t.2.2.1 t.2.2.2.1 t.2.2.2.2.1
theorem loop_Z9_L0 {Q : A_Z9_L0 (((Unit) × (List Int × Unit)) → Prop)} (I : A_Z9_L0 Prop) (μ : A_Z9_L0 Nat)
    (step : ∀ a0 a1 a2 a3 a4, I a0 a1 a2 a3 a4 → ∀ again : (Nat → Nat) → T_Z9_L0 → R_Z9, Dep 2 again → (∀ y0 y1 y2 y3 y4, I y0 y1 y2 y3 y4 → μ y0 y1 y2 y3 y4 < μ a0 a1 a2 a3 a4 → Tot (fun σ => again σ (y0, y1, y2, y3, y4, ())) (Q y0 y1 y2 y3 y4)) →
      Tot (fun σ => B_Z9_L0b (σ 0) (F_Z8 (σ 0)) (again σ) a0 a1 a2 a3 a4) (Q a0 a1 a2 a3 a4)) :
    ∀ a0 a1 a2 a3 a4, I a0 a1 a2 a3 a4 → Tot (fun σ => B_Z9_L0 (σ 0) (F_Z8 (σ 0)) (σ 0) (a0, a1, a2, a3, a4, ())) (Q a0 a1 a2 a3 a4) := fun a0 a1 a2 a3 a4 => Tot.loop0 (L := fun k => B_Z9_L0 k (F_Z8 k)) (B := fun k g => u_Z9_L0 (B_Z9_L0b k (F_Z8 k) g)) (Q := u_Z9_L0 Q) (fun _ _ _ => rfl) (u_Z9_L0 I) (u_Z9_L0 μ)
    (fun t ht again hag h => step t.1 t.2.1 t.2.2.1 t.2.2.2.1 t.2.2.2.2.1 ht again hag fun y0 y1 y2 y3 y4 => h (y0, y1, y2, y3, y4, ())) (a0, a1, a2, a3, a4, ())
abbrev R_Z17 : Type := Option ((Int × Unit) × (Unit))
abbrev C_Z17 : Type := Int → R_Z17
def B_Z17 (k : Nat) (c_bits_Len : C_bits_Len) (length : Int) : R_Z17 :=
  (c_bits_Len (IntKind.wrap .u64 (length))).bind fun r5 =>
  chk (decide (0 ≤ r5.1.1)) <|
  some (((shlK .u64 1 r5.1.1), ()), ())
def F_Z17 : Nat → C_Z17
  | 0, _ => none
  | k + 1, length => B_Z17 k (F_bits_Len k) length
theorem tot_Z17 {length : _} {Q : _ → Prop} (h : Tot (fun σ => B_Z17 (σ 0) (F_bits_Len (σ 0)) length) Q) : Tot (fun σ => F_Z17 (σ 0) length) Q :=
  Tot.call (F := fun k => F_Z17 k length) (B := fun k => B_Z17 k (F_bits_Len k) length) (fun k => rfl) h
abbrev R_Z20 : Type := Option ((Int × Unit) × ((Int × Unit) × Unit))
abbrev C_Z20 : Type := Int → R_Z20
def B_Z20 (k : Nat) (r : Int) : R_Z20 :=
  let v27 : Int := (shlK .u64 (xorK .u64 (xorK .u64 r (shlK .u64 r 13)) (shrK .u64 (xorK .u64 r (shlK .u64 r 13)) 7)) 17)
  let v28 : Int := (xorK .u64 (xorK .u64 (xorK .u64 r (shlK .u64 r 13)) (shrK .u64 (xorK .u64 r (shlK .u64 r 13)) 7)) v27)
  some ((v28, ()), ((v28, ()), ()))
def F_Z20 : Nat → C_Z20
  | 0, _ => none
  | k + 1, r => B_Z20 k r
theorem tot_Z20 {r : _} {Q : _ → Prop} (h : Tot (fun σ => B_Z20 (σ 0) r) Q) : Tot (fun σ => F_Z20 (σ 0) r) Q :=
  Tot.call (F := fun k => F_Z20 k r) (B := fun k => B_Z20 k r) (fun k => rfl) h
abbrev R_Z3 : Type := Option ((Unit) × (List Int × Unit))
abbrev C_Z3 : Type := List Int → Int → Int → R_Z3
abbrev T_Z3_L1 : Type := List Int × Int × Int × (Int × Unit) × Int × Int × Unit
def B_Z3_J0 (k : Nat) (c_Z17 : C_Z17) (c_Z20 : C_Z20) (again1 : T_Z3_L1 → R_Z3) (data : List Int) (a length random modulus idx other : Int) : R_Z3 :=
  chk (inb (w64 (a + other)) data.length) <|
  chk (decide ((w64 (a + other)).toNat < data.length)) <|
  chk (inb idx data.length) <|
  chk (decide (idx.toNat < data.length)) <|
  chk (inb idx data.length) <|
  chk (decide (idx.toNat < data.length)) <|
  chk (inb (w64 (a + other)) (data.set idx.toNat (data.getD ((w64 (a + other)).toNat) (0 : Int))).length) <|
  chk (decide ((w64 (a + other)).toNat < (data.set idx.toNat (data.getD ((w64 (a + other)).toNat) (0 : Int))).length)) <|
  again1 (((data.set idx.toNat (data.getD ((w64 (a + other)).toNat) (0 : Int))).set ((w64 (a + other)).toNat) (data.getD idx.toNat (0 : Int))), a, length, (random, ()), modulus, w64 (idx + 1), ())
def B_Z3_L1b (k : Nat) (c_Z17 : C_Z17) (c_Z20 : C_Z20) (again1 : T_Z3_L1 → R_Z3) (data : List Int) (a length random modulus idx : Int) : R_Z3 :=
  bif decide (idx ≤ (w64 ((w64 (a + (w64 ((w64 (length.tdiv 4)) * 2)))) + 1))) then
    (c_Z20 random).bind fun r36 =>
    bif decide ((w64 ((andK .u64 r36.1.1 (IntKind.wrap .u64 (modulus - 1))))) ≥ length) then
      jn (fun t => B_Z3_J0 k c_Z17 c_Z20 again1 t.1 t.2.1 t.2.2.1 t.2.2.2.1.1 t.2.2.2.2.1 t.2.2.2.2.2.1 t.2.2.2.2.2.2.1) (data, a, length, (r36.2.1.1, ()), modulus, idx, w64 ((w64 ((andK .u64 r36.1.1 (IntKind.wrap .u64 (modulus - 1))))) - length), ())
    else
      jn (fun t => B_Z3_J0 k c_Z17 c_Z20 again1 t.1 t.2.1 t.2.2.1 t.2.2.2.1.1 t.2.2.2.2.1 t.2.2.2.2.2.1 t.2.2.2.2.2.2.1) (data, a, length, (r36.2.1.1, ()), modulus, idx, w64 ((andK .u64 r36.1.1 (IntKind.wrap .u64 (modulus - 1)))), ())
  else
    some ((), (data, ()))
def B_Z3_L1 (k : Nat) (c_Z17 : C_Z17) (c_Z20 : C_Z20) (n : Nat) (t : T_Z3_L1) : R_Z3 :=
  lfix n (fun again t => B_Z3_L1b k c_Z17 c_Z20 again t.1 t.2.1 t.2.2.1 t.2.2.2.1.1 t.2.2.2.2.1 t.2.2.2.2.2.1) t
def B_Z3 (k : Nat) (c_Z17 : C_Z17) (c_Z20 : C_Z20) (data : List Int) (a b : Int) : R_Z3 :=
  bif decide ((w64 (b - a)) ≥ 8) then
    (c_Z17 (w64 (b - a))).bind fun r19 =>
    B_Z3_L1 k c_Z17 c_Z20 k (data, a, w64 (b - a), (IntKind.wrap .u64 (w64 (b - a)), ()), r19.1.1, w64 ((w64 (a + (w64 ((w64 ((w64 (b - a)).tdiv 4)) * 2)))) - 1), ())
  else
    some ((), (data, ()))
def F_Z3 : Nat → C_Z3
  | 0, _, _, _ => none
  | k + 1, data, a, b => B_Z3 k (F_Z17 k) (F_Z20 k) data a b
theorem tot_Z3 {data a b : _} {Q : _ → Prop} (h : Tot (fun σ => B_Z3 (σ 0) (F_Z17 (σ 0)) (F_Z20 (σ 0)) data a b) Q) : Tot (fun σ => F_Z3 (σ 0) data a b) Q :=
  Tot.call (F := fun k => F_Z3 k data a b) (B := fun k => B_Z3 k (F_Z17 k) (F_Z20 k) data a b) (fun k => rfl) h
abbrev A_Z3_L1 (Z : Type) : Type := List Int → Int → Int → Int → Int → Int → Z
abbrev u_Z3_L1 {Z : Type} (f : A_Z3_L1 Z) (t : T_Z3_L1) : Z := f t.1 t.2.1 t.2.2.1 t.2.2.2.1.1 t.2.2.2.2.1 t.2.2.2.2.2.1
theorem loop_Z3_L1 {Q : A_Z3_L1 (((Unit) × (List Int × Unit)) → Prop)} (I : A_Z3_L1 Prop) (μ : A_Z3_L1 Nat)
    (step : ∀ a0 a1 a2 a3 a4 a5, I a0 a1 a2 a3 a4 a5 → ∀ again : (Nat → Nat) → T_Z3_L1 → R_Z3, Dep 2 again → (∀ y0 y1 y2 y3 y4 y5, I y0 y1 y2 y3 y4 y5 → μ y0 y1 y2 y3 y4 y5 < μ a0 a1 a2 a3 a4 a5 → Tot (fun σ => again σ (y0, y1, y2, (y3, ()), y4, y5, ())) (Q y0 y1 y2 y3 y4 y5)) →
      Tot (fun σ => B_Z3_L1b (σ 0) (F_Z17 (σ 0)) (F_Z20 (σ 0)) (again σ) a0 a1 a2 a3 a4 a5) (Q a0 a1 a2 a3 a4 a5)) :
    ∀ a0 a1 a2 a3 a4 a5, I a0 a1 a2 a3 a4 a5 → Tot (fun σ => B_Z3_L1 (σ 0) (F_Z17 (σ 0)) (F_Z20 (σ 0)) (σ 0) (a0, a1, a2, (a3, ()), a4, a5, ())) (Q a0 a1 a2 a3 a4 a5) := fun a0 a1 a2 a3 a4 a5 => Tot.loop0 (L := fun k => B_Z3_L1 k (F_Z17 k) (F_Z20 k)) (B := fun k g => u_Z3_L1 (B_Z3_L1b k (F_Z17 k) (F_Z20 k) g)) (Q := u_Z3_L1 Q) (fun _ _ _ => rfl) (u_Z3_L1 I) (u_Z3_L1 μ)
    (fun t ht again hag h => step t.1 t.2.1 t.2.2.1 t.2.2.2.1.1 t.2.2.2.2.1 t.2.2.2.2.2.1 ht again hag fun y0 y1 y2 y3 y4 y5 => h (y0, y1, y2, (y3, ()), y4, y5, ())) (a0, a1, a2, (a3, ()), a4, a5, ())
abbrev R_Z13 : Type := Option ((Int × Int × Unit) × ((Int × Unit) × Unit))
abbrev C_Z13 : Type := List Int → Int → Int → Int → R_Z13
def B_Z13 (k : Nat) (c_Z42 : C_Z42) (data : List Int) (a b swaps : Int) : R_Z13 :=
  chk (inb b data.length) <|
  chk (inb a data.length) <|
  (c_Z42 (rdx (0 : Int) data b) (rdx (0 : Int) data a)).bind fun r18 =>
  bif r18.1.1 then
    some ((b, a, ()), ((w64 (swaps + 1), ()), ()))
  else
    some ((a, b, ()), ((swaps, ()), ()))
def F_Z13 : Nat → C_Z13
  | 0, _, _, _, _ => none
  | k + 1, data, a, b, swaps => B_Z13 k (F_Z42 k) data a b swaps
theorem tot_Z13 {data a b swaps : _} {Q : _ → Prop} (h : Tot (fun σ => B_Z13 (σ 0) (F_Z42 (σ 0)) data a b swaps) Q) : Tot (fun σ => F_Z13 (σ 0) data a b swaps) Q :=
  Tot.call (F := fun k => F_Z13 k data a b swaps) (B := fun k => B_Z13 k (F_Z42 k) data a b swaps) (fun k => rfl) h
abbrev R_Z12 : Type := Option ((Int × Unit) × ((Int × Unit) × Unit))
abbrev C_Z12 : Type := List Int → Int → Int → Int → Int → R_Z12
def B_Z12 (k : Nat) (c_Z13 : C_Z13) (data : List Int) (a b c swaps : Int) : R_Z12 :=
  (c_Z13 data a b swaps).bind fun r16 =>
  (c_Z13 data r16.1.2.1 c r16.2.1.1).bind fun r24 =>
  (c_Z13 data r16.1.1 r24.1.1 r24.2.1.1).bind fun r32 =>
  some ((r32.1.2.1, ()), ((r32.2.1.1, ()), ()))
def F_Z12 : Nat → C_Z12
  | 0, _, _, _, _, _ => none
  | k + 1, data, a, b, c, swaps => B_Z12 k (F_Z13 k) data a b c swaps
theorem tot_Z12 {data a b c swaps : _} {Q : _ → Prop} (h : Tot (fun σ => B_Z12 (σ 0) (F_Z13 (σ 0)) data a b c swaps) Q) : Tot (fun σ => F_Z12 (σ 0) data a b c swaps) Q :=
  Tot.call (F := fun k => F_Z12 k data a b c swaps) (B := fun k => B_Z12 k (F_Z13 k) data a b c swaps) (fun k => rfl) h
abbrev R_Z1 : Type := Option ((Int × Unit) × ((Int × Unit) × Unit))
abbrev C_Z1 : Type := List Int → Int → Int → R_Z1
def B_Z1 (k : Nat) (c_Z12 : C_Z12) (data : List Int) (a swaps : Int) : R_Z1 :=
  (c_Z12 data (w64 (a - 1)) a (w64 (a + 1)) swaps).bind fun r14 =>
  some ((r14.1.1, ()), ((r14.2.1.1, ()), ()))
def F_Z1 : Nat → C_Z1
  | 0, _, _, _ => none
  | k + 1, data, a, swaps => B_Z1 k (F_Z12 k) data a swaps
theorem tot_Z1 {data a swaps : _} {Q : _ → Prop} (h : Tot (fun σ => B_Z1 (σ 0) (F_Z12 (σ 0)) data a swaps) Q) : Tot (fun σ => F_Z1 (σ 0) data a swaps) Q :=
  Tot.call (F := fun k => F_Z1 k data a swaps) (B := fun k => B_Z1 k (F_Z12 k) data a swaps) (fun k => rfl) h
abbrev R_Z6 : Type := Option ((Int × Int × Unit) × (Unit))
abbrev C_Z6 : Type := List Int → Int → Int → R_Z6
def B_Z6_J1 (k : Nat) (c_Z1 : C_Z1) (c_Z12 : C_Z12) (swaps j : Int) : R_Z6 :=
  bif (swaps == 0) then
    some ((j, 1, ()), ())
  else
    bif (swaps == 12) then
      some ((j, 2, ()), ())
    else
      some ((j, 0, ()), ())
def B_Z6_J0 (k : Nat) (c_Z1 : C_Z1) (c_Z12 : C_Z12) (data : List Int) (swaps i j k12 : Int) : R_Z6 :=
  (c_Z12 data i j k12 swaps).bind fun r48 =>
  jn (fun t => B_Z6_J1 k c_Z1 c_Z12 t.1.1 t.2.1) ((r48.2.1.1, ()), r48.1.1, ())
def B_Z6 (k : Nat) (c_Z1 : C_Z1) (c_Z12 : C_Z12) (data : List Int) (a b : Int) : R_Z6 :=
  bif decide ((w64 (b - a)) ≥ 8) then
    bif decide ((w64 (b - a)) ≥ 50) then
      (c_Z1 data (w64 (a + (w64 ((w64 ((w64 (b - a)).tdiv 4)) * 1)))) 0).bind fun r37 =>
      (c_Z1 data (w64 (a + (w64 ((w64 ((w64 (b - a)).tdiv 4)) * 2)))) r37.2.1.1).bind fun r40 =>
      (c_Z1 data (w64 (a + (w64 ((w64 ((w64 (b - a)).tdiv 4)) * 3)))) r40.2.1.1).bind fun r43 =>
      jn (fun t => B_Z6_J0 k c_Z1 c_Z12 t.1 t.2.1.1 t.2.2.1 t.2.2.2.1 t.2.2.2.2.1) (data, (r43.2.1.1, ()), r37.1.1, r40.1.1, r43.1.1, ())
    else
      jn (fun t => B_Z6_J0 k c_Z1 c_Z12 t.1 t.2.1.1 t.2.2.1 t.2.2.2.1 t.2.2.2.2.1) (data, (0, ()), w64 (a + (w64 ((w64 ((w64 (b - a)).tdiv 4)) * 1))), w64 (a + (w64 ((w64 ((w64 (b - a)).tdiv 4)) * 2))), w64 (a + (w64 ((w64 ((w64 (b - a)).tdiv 4)) * 3))), ())
  else
    jn (fun t => B_Z6_J1 k c_Z1 c_Z12 t.1.1 t.2.1) ((0, ()), w64 (a + (w64 ((w64 ((w64 (b - a)).tdiv 4)) * 2))), ())
def F_Z6 : Nat → C_Z6
  | 0, _, _, _ => none
  | k + 1, data, a, b => B_Z6 k (F_Z1 k) (F_Z12 k) data a b
theorem tot_Z6 {data a b : _} {Q : _ → Prop} (h : Tot (fun σ => B_Z6 (σ 0) (F_Z1 (σ 0)) (F_Z12 (σ 0)) data a b) Q) : Tot (fun σ => F_Z6 (σ 0) data a b) Q :=
  Tot.call (F := fun k => F_Z6 k data a b) (B := fun k => B_Z6 k (F_Z1 k) (F_Z12 k) data a b) (fun k => rfl) h
abbrev R_Z5 : Type := Option ((Unit) × (List Int × Unit))
abbrev C_Z5 : Type := List Int → Int → Int → R_Z5
abbrev T_Z5_L0 : Type := List Int × Int × Int × Unit
def B_Z5_L0b (k : Nat) (again0 : T_Z5_L0 → R_Z5) (data : List Int) (i j : Int) : R_Z5 :=
  bif decide (i < j) then
    chk (inb j data.length) <|
    chk (decide (j.toNat < data.length)) <|
    chk (inb i data.length) <|
    chk (decide (i.toNat < data.length)) <|
    chk (inb i data.length) <|
    chk (decide (i.toNat < data.length)) <|
    chk (inb j (data.set i.toNat (data.getD j.toNat (0 : Int))).length) <|
    chk (decide (j.toNat < (data.set i.toNat (data.getD j.toNat (0 : Int))).length)) <|
    again0 (((data.set i.toNat (data.getD j.toNat (0 : Int))).set j.toNat (data.getD i.toNat (0 : Int))), w64 (i + 1), w64 (j - 1), ())
  else
    some ((), (data, ()))
def B_Z5_L0 (k : Nat) (n : Nat) (t : T_Z5_L0) : R_Z5 :=
  lfix n (fun again t => B_Z5_L0b k again t.1 t.2.1 t.2.2.1) t
def B_Z5 (k : Nat) (data : List Int) (a b : Int) : R_Z5 :=
  B_Z5_L0 k k (data, a, w64 (b - 1), ())
def F_Z5 : Nat → C_Z5
  | 0, _, _, _ => none
  | k + 1, data, a, b => B_Z5 k data a b
theorem tot_Z5 {data a b : _} {Q : _ → Prop} (h : Tot (fun σ => B_Z5 (σ 0) data a b) Q) : Tot (fun σ => F_Z5 (σ 0) data a b) Q :=
  Tot.call (F := fun k => F_Z5 k data a b) (B := fun k => B_Z5 k data a b) (fun k => rfl) h
abbrev A_Z5_L0 (Z : Type) : Type := List Int → Int → Int → Z
abbrev u_Z5_L0 {Z : Type} (f : A_Z5_L0 Z) (t : T_Z5_L0) : Z := f t.1 t.2.1 t.2.2.1
theorem loop_Z5_L0 {Q : A_Z5_L0 (((Unit) × (List Int × Unit)) → Prop)} (I : A_Z5_L0 Prop) (μ : A_Z5_L0 Nat)
    (step : ∀ a0 a1 a2, I a0 a1 a2 → ∀ again : (Nat → Nat) → T_Z5_L0 → R_Z5, Dep 2 again → (∀ y0 y1 y2, I y0 y1 y2 → μ y0 y1 y2 < μ a0 a1 a2 → Tot (fun σ => again σ (y0, y1, y2, ())) (Q y0 y1 y2)) →
      Tot (fun σ => B_Z5_L0b (σ 0) (again σ) a0 a1 a2) (Q a0 a1 a2)) :
    ∀ a0 a1 a2, I a0 a1 a2 → Tot (fun σ => B_Z5_L0 (σ 0) (σ 0) (a0, a1, a2, ())) (Q a0 a1 a2) := fun a0 a1 a2 => Tot.loop0 (L := fun k => B_Z5_L0 k) (B := fun k g => u_Z5_L0 (B_Z5_L0b k g)) (Q := u_Z5_L0 Q) (fun _ _ _ => rfl) (u_Z5_L0 I) (u_Z5_L0 μ)
    (fun t ht again hag h => step t.1 t.2.1 t.2.2.1 ht again hag fun y0 y1 y2 => h (y0, y1, y2, ())) (a0, a1, a2, ())
abbrev R_Z0 : Type := Option ((Bool × Unit) × (List Int × Unit))
abbrev C_Z0 : Type := List Int → Int → Int → R_Z0
abbrev T_Z0_L4 : Type := List Int × Int × Int × Int × Int × Int × Unit
abbrev T_Z0_L2 : Type := List Int × Int × Int × Int × Int × Int × Unit
abbrev T_Z0_L1 : Type := List Int × Int × Int × Int × Int × Unit
abbrev T_Z0_L6 : Type := List Int × Int × Int × Int × Int × Unit
def B_Z0_J5 (k : Nat) (c_Z42 : C_Z42) (again6 : T_Z0_L6 → R_Z0) (data : List Int) (a b i j : Int) : R_Z0 :=
  again6 (data, a, b, i, w64 (j + 1), ())
def B_Z0_L4b (k : Nat) (c_Z42 : C_Z42) (again6 : T_Z0_L6 → R_Z0) (again4 : T_Z0_L4 → R_Z0) (data : List Int) (a b i j j10 : Int) : R_Z0 :=
  bif decide (j10 < b) then
    chk (inb j10 data.length) <|
    chk (decide (j10.toNat < data.length)) <|
    chk (inb (w64 (j10 - 1)) data.length) <|
    chk (decide ((w64 (j10 - 1)).toNat < data.length)) <|
    (c_Z42 (data.getD j10.toNat (0 : Int)) (data.getD ((w64 (j10 - 1)).toNat) (0 : Int))).bind fun r115 =>
    bif (!r115.1.1) then
      jn (fun t => B_Z0_J5 k c_Z42 again6 t.1 t.2.1 t.2.2.1 t.2.2.2.1 t.2.2.2.2.1) (data, a, b, i, j, ())
    else
      chk (inb (w64 (j10 - 1)) data.length) <|
      chk (decide ((w64 (j10 - 1)).toNat < data.length)) <|
      chk (inb j10 data.length) <|
      chk (decide (j10.toNat < data.length)) <|
      chk (inb j10 data.length) <|
      chk (decide (j10.toNat < data.length)) <|
      chk (inb (w64 (j10 - 1)) (data.set j10.toNat (data.getD ((w64 (j10 - 1)).toNat) (0 : Int))).length) <|
      chk (decide ((w64 (j10 - 1)).toNat < (data.set j10.toNat (data.getD ((w64 (j10 - 1)).toNat) (0 : Int))).length)) <|
      again4 (((data.set j10.toNat (data.getD ((w64 (j10 - 1)).toNat) (0 : Int))).set ((w64 (j10 - 1)).toNat) (data.getD j10.toNat (0 : Int))), a, b, i, j, w64 (j10 + 1), ())
  else
    jn (fun t => B_Z0_J5 k c_Z42 again6 t.1 t.2.1 t.2.2.1 t.2.2.2.1 t.2.2.2.2.1) (data, a, b, i, j, ())
def B_Z0_L4 (k : Nat) (c_Z42 : C_Z42) (again6 : T_Z0_L6 → R_Z0) (n : Nat) (t : T_Z0_L4) : R_Z0 :=
  lfix n (fun again t => B_Z0_L4b k c_Z42 again6 again t.1 t.2.1 t.2.2.1 t.2.2.2.1 t.2.2.2.2.1 t.2.2.2.2.2.1) t
def B_Z0_J3 (k : Nat) (c_Z42 : C_Z42) (again6 : T_Z0_L6 → R_Z0) (data : List Int) (a b i j : Int) : R_Z0 :=
  bif decide ((w64 (b - i)) ≥ 2) then
    B_Z0_L4 k c_Z42 again6 k (data, a, b, i, j, w64 (i + 1), ())
  else
    jn (fun t => B_Z0_J5 k c_Z42 again6 t.1 t.2.1 t.2.2.1 t.2.2.2.1 t.2.2.2.2.1) (data, a, b, i, j, ())
def B_Z0_L2b (k : Nat) (c_Z42 : C_Z42) (again6 : T_Z0_L6 → R_Z0) (again2 : T_Z0_L2 → R_Z0) (data : List Int) (a b i j j9 : Int) : R_Z0 :=
  bif decide (j9 ≥ 1) then
    chk (inb j9 data.length) <|
    chk (decide (j9.toNat < data.length)) <|
    chk (inb (w64 (j9 - 1)) data.length) <|
    chk (decide ((w64 (j9 - 1)).toNat < data.length)) <|
    (c_Z42 (data.getD j9.toNat (0 : Int)) (data.getD ((w64 (j9 - 1)).toNat) (0 : Int))).bind fun r77 =>
    bif (!r77.1.1) then
      jn (fun t => B_Z0_J3 k c_Z42 again6 t.1 t.2.1 t.2.2.1 t.2.2.2.1 t.2.2.2.2.1) (data, a, b, i, j, ())
    else
      chk (inb (w64 (j9 - 1)) data.length) <|
      chk (decide ((w64 (j9 - 1)).toNat < data.length)) <|
      chk (inb j9 data.length) <|
      chk (decide (j9.toNat < data.length)) <|
      chk (inb j9 data.length) <|
      chk (decide (j9.toNat < data.length)) <|
      chk (inb (w64 (j9 - 1)) (data.set j9.toNat (data.getD ((w64 (j9 - 1)).toNat) (0 : Int))).length) <|
      chk (decide ((w64 (j9 - 1)).toNat < (data.set j9.toNat (data.getD ((w64 (j9 - 1)).toNat) (0 : Int))).length)) <|
      again2 (((data.set j9.toNat (data.getD ((w64 (j9 - 1)).toNat) (0 : Int))).set ((w64 (j9 - 1)).toNat) (data.getD j9.toNat (0 : Int))), a, b, i, j, w64 (j9 - 1), ())
  else
    jn (fun t => B_Z0_J3 k c_Z42 again6 t.1 t.2.1 t.2.2.1 t.2.2.2.1 t.2.2.2.2.1) (data, a, b, i, j, ())
def B_Z0_L2 (k : Nat) (c_Z42 : C_Z42) (again6 : T_Z0_L6 → R_Z0) (n : Nat) (t : T_Z0_L2) : R_Z0 :=
  lfix n (fun again t => B_Z0_L2b k c_Z42 again6 again t.1 t.2.1 t.2.2.1 t.2.2.2.1 t.2.2.2.2.1 t.2.2.2.2.2.1) t
def B_Z0_J0 (k : Nat) (c_Z42 : C_Z42) (again1 : T_Z0_L1 → R_Z0) (again6 : T_Z0_L6 → R_Z0) (data : List Int) (a b i j : Int) (t32 : Bool) : R_Z0 :=
  bif t32 then
    again1 (data, a, b, w64 (i + 1), j, ())
  else
    bif (i == b) then
      some ((true, ()), (data, ()))
    else
      bif decide ((w64 (b - a)) < 50) then
        some ((false, ()), (data, ()))
      else
        chk (inb (w64 (i - 1)) data.length) <|
        chk (decide ((w64 (i - 1)).toNat < data.length)) <|
        chk (inb i data.length) <|
        chk (decide (i.toNat < data.length)) <|
        chk (inb i data.length) <|
        chk (decide (i.toNat < data.length)) <|
        chk (inb (w64 (i - 1)) (data.set i.toNat (data.getD ((w64 (i - 1)).toNat) (0 : Int))).length) <|
        chk (decide ((w64 (i - 1)).toNat < (data.set i.toNat (data.getD ((w64 (i - 1)).toNat) (0 : Int))).length)) <|
        bif decide ((w64 (i - a)) ≥ 2) then
          B_Z0_L2 k c_Z42 again6 k (((data.set i.toNat (data.getD ((w64 (i - 1)).toNat) (0 : Int))).set ((w64 (i - 1)).toNat) (data.getD i.toNat (0 : Int))), a, b, i, j, w64 (i - 1), ())
        else
          jn (fun t => B_Z0_J3 k c_Z42 again6 t.1 t.2.1 t.2.2.1 t.2.2.2.1 t.2.2.2.2.1) (((data.set i.toNat (data.getD ((w64 (i - 1)).toNat) (0 : Int))).set ((w64 (i - 1)).toNat) (data.getD i.toNat (0 : Int))), a, b, i, j, ())
def B_Z0_L1b (k : Nat) (c_Z42 : C_Z42) (again6 : T_Z0_L6 → R_Z0) (again1 : T_Z0_L1 → R_Z0) (data : List Int) (a b i j : Int) : R_Z0 :=
  bif decide (i < b) then
    chk (inb i data.length) <|
    chk (decide (i.toNat < data.length)) <|
    chk (inb (w64 (i - 1)) data.length) <|
    chk (decide ((w64 (i - 1)).toNat < data.length)) <|
    (c_Z42 (data.getD i.toNat (0 : Int)) (data.getD ((w64 (i - 1)).toNat) (0 : Int))).bind fun r30 =>
    jn (fun t => B_Z0_J0 k c_Z42 again1 again6 t.1 t.2.1 t.2.2.1 t.2.2.2.1 t.2.2.2.2.1 t.2.2.2.2.2.1) (data, a, b, i, j, (!r30.1.1), ())
  else
    jn (fun t => B_Z0_J0 k c_Z42 again1 again6 t.1 t.2.1 t.2.2.1 t.2.2.2.1 t.2.2.2.2.1 t.2.2.2.2.2.1) (data, a, b, i, j, false, ())
def B_Z0_L1 (k : Nat) (c_Z42 : C_Z42) (again6 : T_Z0_L6 → R_Z0) (n : Nat) (t : T_Z0_L1) : R_Z0 :=
  lfix n (fun again t => B_Z0_L1b k c_Z42 again6 again t.1 t.2.1 t.2.2.1 t.2.2.2.1 t.2.2.2.2.1) t
def B_Z0_L6b (k : Nat) (c_Z42 : C_Z42) (again6 : T_Z0_L6 → R_Z0) (data : List Int) (a b i j : Int) : R_Z0 :=
  bif decide (j < 5) then
    B_Z0_L1 k c_Z42 again6 k (data, a, b, i, j, ())
  else
    some ((false, ()), (data, ()))
def B_Z0_L6 (k : Nat) (c_Z42 : C_Z42) (n : Nat) (t : T_Z0_L6) : R_Z0 :=
  lfix n (fun again t => B_Z0_L6b k c_Z42 again t.1 t.2.1 t.2.2.1 t.2.2.2.1 t.2.2.2.2.1) t
def B_Z0 (k : Nat) (c_Z42 : C_Z42) (data : List Int) (a b : Int) : R_Z0 :=
  B_Z0_L6 k c_Z42 k (data, a, b, w64 (a + 1), 0, ())
def F_Z0 : Nat → C_Z0
  | 0, _, _, _ => none
  | k + 1, data, a, b => B_Z0 k (F_Z42 k) data a b
theorem tot_Z0 {data a b : _} {Q : _ → Prop} (h : Tot (fun σ => B_Z0 (σ 0) (F_Z42 (σ 0)) data a b) Q) : Tot (fun σ => F_Z0 (σ 0) data a b) Q :=
  Tot.call (F := fun k => F_Z0 k data a b) (B := fun k => B_Z0 k (F_Z42 k) data a b) (fun k => rfl) h
abbrev A_Z0_L4 (Z : Type) : Type := List Int → Int → Int → Int → Int → Int → Z
abbrev u_Z0_L4 {Z : Type} (f : A_Z0_L4 Z) (t : T_Z0_L4) : Z := f t.1 t.2.1 t.2.2.1 t.2.2.2.1 t.2.2.2.2.1 t.2.2.2.2.2.1
theorem loop_Z0_L4 {again6 : (Nat → Nat) → T_Z0_L6 → R_Z0} (hag6 : Dep 2 again6) {Q : A_Z0_L4 (((Bool × Unit) × (List Int × Unit)) → Prop)} (I : A_Z0_L4 Prop) (μ : A_Z0_L4 Nat)
    (step : ∀ a0 a1 a2 a3 a4 a5, I a0 a1 a2 a3 a4 a5 → ∀ again : (Nat → Nat) → T_Z0_L4 → R_Z0, Dep 3 again → (∀ y0 y1 y2 y3 y4 y5, I y0 y1 y2 y3 y4 y5 → μ y0 y1 y2 y3 y4 y5 < μ a0 a1 a2 a3 a4 a5 → Tot (fun σ => again σ (y0, y1, y2, y3, y4, y5, ())) (Q y0 y1 y2 y3 y4 y5)) →
      Tot (fun σ => B_Z0_L4b (σ 0) (F_Z42 (σ 0)) (again6 σ) (again σ) a0 a1 a2 a3 a4 a5) (Q a0 a1 a2 a3 a4 a5)) :
    ∀ a0 a1 a2 a3 a4 a5, I a0 a1 a2 a3 a4 a5 → Tot (fun σ => B_Z0_L4 (σ 0) (F_Z42 (σ 0)) (again6 σ) (σ 0) (a0, a1, a2, a3, a4, a5, ())) (Q a0 a1 a2 a3 a4 a5) := fun a0 a1 a2 a3 a4 a5 => Tot.loop (L := fun σ n t => B_Z0_L4 (σ 0) (F_Z42 (σ 0)) (again6 σ) n t) (B := fun σ g => u_Z0_L4 (B_Z0_L4b (σ 0) (F_Z42 (σ 0)) (again6 σ) g)) (Q := u_Z0_L4 Q) 2 (by decide)
    (fun s s' h => by have e0 : s 0 = s' 0 := h 0 (by decide); simp only [e0, hag6 s s' h]) (fun s s' h => by have e0 : s 0 = s' 0 := h 0 (by decide); simp only [e0, hag6 s s' h]) (fun _ _ _ => rfl) (u_Z0_L4 I) (u_Z0_L4 μ)
    (fun t ht again hag h => step t.1 t.2.1 t.2.2.1 t.2.2.2.1 t.2.2.2.2.1 t.2.2.2.2.2.1 ht again hag fun y0 y1 y2 y3 y4 y5 => h (y0, y1, y2, y3, y4, y5, ())) (a0, a1, a2, a3, a4, a5, ())
abbrev A_Z0_L2 (Z : Type) : Type := List Int → Int → Int → Int → Int → Int → Z
abbrev u_Z0_L2 {Z : Type} (f : A_Z0_L2 Z) (t : T_Z0_L2) : Z := f t.1 t.2.1 t.2.2.1 t.2.2.2.1 t.2.2.2.2.1 t.2.2.2.2.2.1
theorem loop_Z0_L2 {again6 : (Nat → Nat) → T_Z0_L6 → R_Z0} (hag6 : Dep 2 again6) {Q : A_Z0_L2 (((Bool × Unit) × (List Int × Unit)) → Prop)} (I : A_Z0_L2 Prop) (μ : A_Z0_L2 Nat)
    (step : ∀ a0 a1 a2 a3 a4 a5, I a0 a1 a2 a3 a4 a5 → ∀ again : (Nat → Nat) → T_Z0_L2 → R_Z0, Dep 3 again → (∀ y0 y1 y2 y3 y4 y5, I y0 y1 y2 y3 y4 y5 → μ y0 y1 y2 y3 y4 y5 < μ a0 a1 a2 a3 a4 a5 → Tot (fun σ => again σ (y0, y1, y2, y3, y4, y5, ())) (Q y0 y1 y2 y3 y4 y5)) →
      Tot (fun σ => B_Z0_L2b (σ 0) (F_Z42 (σ 0)) (again6 σ) (again σ) a0 a1 a2 a3 a4 a5) (Q a0 a1 a2 a3 a4 a5)) :
    ∀ a0 a1 a2 a3 a4 a5, I a0 a1 a2 a3 a4 a5 → Tot (fun σ => B_Z0_L2 (σ 0) (F_Z42 (σ 0)) (again6 σ) (σ 0) (a0, a1, a2, a3, a4, a5, ())) (Q a0 a1 a2 a3 a4 a5) := fun a0 a1 a2 a3 a4 a5 => Tot.loop (L := fun σ n t => B_Z0_L2 (σ 0) (F_Z42 (σ 0)) (again6 σ) n t) (B := fun σ g => u_Z0_L2 (B_Z0_L2b (σ 0) (F_Z42 (σ 0)) (again6 σ) g)) (Q := u_Z0_L2 Q) 2 (by decide)
    (fun s s' h => by have e0 : s 0 = s' 0 := h 0 (by decide); simp only [e0, hag6 s s' h]) (fun s s' h => by have e0 : s 0 = s' 0 := h 0 (by decide); simp only [e0, hag6 s s' h]) (fun _ _ _ => rfl) (u_Z0_L2 I) (u_Z0_L2 μ)
    (fun t ht again hag h => step t.1 t.2.1 t.2.2.1 t.2.2.2.1 t.2.2.2.2.1 t.2.2.2.2.2.1 ht again hag fun y0 y1 y2 y3 y4 y5 => h (y0, y1, y2, y3, y4, y5, ())) (a0, a1, a2, a3, a4, a5, ())
abbrev A_Z0_L1 (Z : Type) : Type := List Int → Int → Int → Int → Int → Z
abbrev u_Z0_L1 {Z : Type} (f : A_Z0_L1 Z) (t : T_Z0_L1) : Z := f t.1 t.2.1 t.2.2.1 t.2.2.2.1 t.2.2.2.2.1
theorem loop_Z0_L1 {again6 : (Nat → Nat) → T_Z0_L6 → R_Z0} (hag6 : Dep 2 again6) {Q : A_Z0_L1 (((Bool × Unit) × (List Int × Unit)) → Prop)} (I : A_Z0_L1 Prop) (μ : A_Z0_L1 Nat)
    (step : ∀ a0 a1 a2 a3 a4, I a0 a1 a2 a3 a4 → ∀ again : (Nat → Nat) → T_Z0_L1 → R_Z0, Dep 3 again → (∀ y0 y1 y2 y3 y4, I y0 y1 y2 y3 y4 → μ y0 y1 y2 y3 y4 < μ a0 a1 a2 a3 a4 → Tot (fun σ => again σ (y0, y1, y2, y3, y4, ())) (Q y0 y1 y2 y3 y4)) →
      Tot (fun σ => B_Z0_L1b (σ 0) (F_Z42 (σ 0)) (again6 σ) (again σ) a0 a1 a2 a3 a4) (Q a0 a1 a2 a3 a4)) :
    ∀ a0 a1 a2 a3 a4, I a0 a1 a2 a3 a4 → Tot (fun σ => B_Z0_L1 (σ 0) (F_Z42 (σ 0)) (again6 σ) (σ 0) (a0, a1, a2, a3, a4, ())) (Q a0 a1 a2 a3 a4) := fun a0 a1 a2 a3 a4 => Tot.loop (L := fun σ n t => B_Z0_L1 (σ 0) (F_Z42 (σ 0)) (again6 σ) n t) (B := fun σ g => u_Z0_L1 (B_Z0_L1b (σ 0) (F_Z42 (σ 0)) (again6 σ) g)) (Q := u_Z0_L1 Q) 2 (by decide)
    (fun s s' h => by have e0 : s 0 = s' 0 := h 0 (by decide); simp only [e0, hag6 s s' h]) (fun s s' h => by have e0 : s 0 = s' 0 := h 0 (by decide); simp only [e0, hag6 s s' h]) (fun _ _ _ => rfl) (u_Z0_L1 I) (u_Z0_L1 μ)
    (fun t ht again hag h => step t.1 t.2.1 t.2.2.1 t.2.2.2.1 t.2.2.2.2.1 ht again hag fun y0 y1 y2 y3 y4 => h (y0, y1, y2, y3, y4, ())) (a0, a1, a2, a3, a4, ())
abbrev A_Z0_L6 (Z : Type) : Type := List Int → Int → Int → Int → Int → Z
abbrev u_Z0_L6 {Z : Type} (f : A_Z0_L6 Z) (t : T_Z0_L6) : Z := f t.1 t.2.1 t.2.2.1 t.2.2.2.1 t.2.2.2.2.1
theorem loop_Z0_L6 {Q : A_Z0_L6 (((Bool × Unit) × (List Int × Unit)) → Prop)} (I : A_Z0_L6 Prop) (μ : A_Z0_L6 Nat)
    (step : ∀ a0 a1 a2 a3 a4, I a0 a1 a2 a3 a4 → ∀ again : (Nat → Nat) → T_Z0_L6 → R_Z0, Dep 2 again → (∀ y0 y1 y2 y3 y4, I y0 y1 y2 y3 y4 → μ y0 y1 y2 y3 y4 < μ a0 a1 a2 a3 a4 → Tot (fun σ => again σ (y0, y1, y2, y3, y4, ())) (Q y0 y1 y2 y3 y4)) →
      Tot (fun σ => B_Z0_L6b (σ 0) (F_Z42 (σ 0)) (again σ) a0 a1 a2 a3 a4) (Q a0 a1 a2 a3 a4)) :
    ∀ a0 a1 a2 a3 a4, I a0 a1 a2 a3 a4 → Tot (fun σ => B_Z0_L6 (σ 0) (F_Z42 (σ 0)) (σ 0) (a0, a1, a2, a3, a4, ())) (Q a0 a1 a2 a3 a4) := fun a0 a1 a2 a3 a4 => Tot.loop0 (L := fun k => B_Z0_L6 k (F_Z42 k)) (B := fun k g => u_Z0_L6 (B_Z0_L6b k (F_Z42 k) g)) (Q := u_Z0_L6 Q) (fun _ _ _ => rfl) (u_Z0_L6 I) (u_Z0_L6 μ)
    (fun t ht again hag h => step t.1 t.2.1 t.2.2.1 t.2.2.2.1 t.2.2.2.2.1 ht again hag fun y0 y1 y2 y3 y4 => h (y0, y1, y2, y3, y4, ())) (a0, a1, a2, a3, a4, ())
abbrev R_Z2 : Type := Option ((Int × Unit) × (List Int × Unit))
abbrev C_Z2 : Type := List Int → Int → Int → Int → R_Z2
abbrev T_Z2_L3 : Type := List Int × Int × Int × Int × Unit
abbrev T_Z2_L1 : Type := List Int × Int × Int × Int × Unit
abbrev T_Z2_L4 : Type := List Int × Int × Int × Int × Unit
def B_Z2_J2 (k : Nat) (c_Z42 : C_Z42) (again3 : T_Z2_L3 → R_Z2) (again4 : T_Z2_L4 → R_Z2) (data : List Int) (a i j : Int) (t59 : Bool) : R_Z2 :=
  bif t59 then
    again3 (data, a, i, w64 (j - 1), ())
  else
    bif decide (i > j) then
      some ((i, ()), (data, ()))
    else
      chk (inb j data.length) <|
      chk (decide (j.toNat < data.length)) <|
      chk (inb i data.length) <|
      chk (decide (i.toNat < data.length)) <|
      chk (inb i data.length) <|
      chk (decide (i.toNat < data.length)) <|
      chk (inb j (data.set i.toNat (data.getD j.toNat (0 : Int))).length) <|
      chk (decide (j.toNat < (data.set i.toNat (data.getD j.toNat (0 : Int))).length)) <|
      again4 (((data.set i.toNat (data.getD j.toNat (0 : Int))).set j.toNat (data.getD i.toNat (0 : Int))), a, w64 (i + 1), w64 (j - 1), ())
def B_Z2_L3b (k : Nat) (c_Z42 : C_Z42) (again4 : T_Z2_L4 → R_Z2) (again3 : T_Z2_L3 → R_Z2) (data : List Int) (a i j : Int) : R_Z2 :=
  bif decide (i ≤ j) then
    chk (inb a data.length) <|
    chk (decide (a.toNat < data.length)) <|
    chk (inb j data.length) <|
    chk (decide (j.toNat < data.length)) <|
    (c_Z42 (data.getD a.toNat (0 : Int)) (data.getD j.toNat (0 : Int))).bind fun r58 =>
    jn (fun t => B_Z2_J2 k c_Z42 again3 again4 t.1 t.2.1 t.2.2.1 t.2.2.2.1 t.2.2.2.2.1) (data, a, i, j, r58.1.1, ())
  else
    jn (fun t => B_Z2_J2 k c_Z42 again3 again4 t.1 t.2.1 t.2.2.1 t.2.2.2.1 t.2.2.2.2.1) (data, a, i, j, false, ())
def B_Z2_L3 (k : Nat) (c_Z42 : C_Z42) (again4 : T_Z2_L4 → R_Z2) (n : Nat) (t : T_Z2_L3) : R_Z2 :=
  lfix n (fun again t => B_Z2_L3b k c_Z42 again4 again t.1 t.2.1 t.2.2.1 t.2.2.2.1) t
def B_Z2_J0 (k : Nat) (c_Z42 : C_Z42) (again1 : T_Z2_L1 → R_Z2) (again4 : T_Z2_L4 → R_Z2) (data : List Int) (a i j : Int) (t43 : Bool) : R_Z2 :=
  bif t43 then
    again1 (data, a, w64 (i + 1), j, ())
  else
    B_Z2_L3 k c_Z42 again4 k (data, a, i, j, ())
def B_Z2_L1b (k : Nat) (c_Z42 : C_Z42) (again4 : T_Z2_L4 → R_Z2) (again1 : T_Z2_L1 → R_Z2) (data : List Int) (a i j : Int) : R_Z2 :=
  bif decide (i ≤ j) then
    chk (inb a data.length) <|
    chk (decide (a.toNat < data.length)) <|
    chk (inb i data.length) <|
    chk (decide (i.toNat < data.length)) <|
    (c_Z42 (data.getD a.toNat (0 : Int)) (data.getD i.toNat (0 : Int))).bind fun r41 =>
    jn (fun t => B_Z2_J0 k c_Z42 again1 again4 t.1 t.2.1 t.2.2.1 t.2.2.2.1 t.2.2.2.2.1) (data, a, i, j, (!r41.1.1), ())
  else
    jn (fun t => B_Z2_J0 k c_Z42 again1 again4 t.1 t.2.1 t.2.2.1 t.2.2.2.1 t.2.2.2.2.1) (data, a, i, j, false, ())
def B_Z2_L1 (k : Nat) (c_Z42 : C_Z42) (again4 : T_Z2_L4 → R_Z2) (n : Nat) (t : T_Z2_L1) : R_Z2 :=
  lfix n (fun again t => B_Z2_L1b k c_Z42 again4 again t.1 t.2.1 t.2.2.1 t.2.2.2.1) t
def B_Z2_L4b (k : Nat) (c_Z42 : C_Z42) (again4 : T_Z2_L4 → R_Z2) (data : List Int) (a i j : Int) : R_Z2 :=
  B_Z2_L1 k c_Z42 again4 k (data, a, i, j, ())
def B_Z2_L4 (k : Nat) (c_Z42 : C_Z42) (n : Nat) (t : T_Z2_L4) : R_Z2 :=
  lfix n (fun again t => B_Z2_L4b k c_Z42 again t.1 t.2.1 t.2.2.1 t.2.2.2.1) t
def B_Z2 (k : Nat) (c_Z42 : C_Z42) (data : List Int) (a b pivot : Int) : R_Z2 :=
  chk (inb pivot data.length) <|
  chk (decide (pivot.toNat < data.length)) <|
  chk (inb a data.length) <|
  chk (decide (a.toNat < data.length)) <|
  chk (inb a data.length) <|
  chk (decide (a.toNat < data.length)) <|
  chk (inb pivot (data.set a.toNat (data.getD pivot.toNat (0 : Int))).length) <|
  chk (decide (pivot.toNat < (data.set a.toNat (data.getD pivot.toNat (0 : Int))).length)) <|
  B_Z2_L4 k c_Z42 k (((data.set a.toNat (data.getD pivot.toNat (0 : Int))).set pivot.toNat (data.getD a.toNat (0 : Int))), a, w64 (a + 1), w64 (b - 1), ())
def F_Z2 : Nat → C_Z2
  | 0, _, _, _, _ => none
  | k + 1, data, a, b, pivot => B_Z2 k (F_Z42 k) data a b pivot
theorem tot_Z2 {data a b pivot : _} {Q : _ → Prop} (h : Tot (fun σ => B_Z2 (σ 0) (F_Z42 (σ 0)) data a b pivot) Q) : Tot (fun σ => F_Z2 (σ 0) data a b pivot) Q :=
  Tot.call (F := fun k => F_Z2 k data a b pivot) (B := fun k => B_Z2 k (F_Z42 k) data a b pivot) (fun k => rfl) h
abbrev A_Z2_L3 (Z : Type) : Type := List Int → Int → Int → Int → Z
abbrev u_Z2_L3 {Z : Type} (f : A_Z2_L3 Z) (t : T_Z2_L3) : Z := f t.1 t.2.1 t.2.2.1 t.2.2.2.1
theorem loop_Z2_L3 {again4 : (Nat → Nat) → T_Z2_L4 → R_Z2} (hag4 : Dep 2 again4) {Q : A_Z2_L3 (((Int × Unit) × (List Int × Unit)) → Prop)} (I : A_Z2_L3 Prop) (μ : A_Z2_L3 Nat)
    (step : ∀ a0 a1 a2 a3, I a0 a1 a2 a3 → ∀ again : (Nat → Nat) → T_Z2_L3 → R_Z2, Dep 3 again → (∀ y0 y1 y2 y3, I y0 y1 y2 y3 → μ y0 y1 y2 y3 < μ a0 a1 a2 a3 → Tot (fun σ => again σ (y0, y1, y2, y3, ())) (Q y0 y1 y2 y3)) →
      Tot (fun σ => B_Z2_L3b (σ 0) (F_Z42 (σ 0)) (again4 σ) (again σ) a0 a1 a2 a3) (Q a0 a1 a2 a3)) :
    ∀ a0 a1 a2 a3, I a0 a1 a2 a3 → Tot (fun σ => B_Z2_L3 (σ 0) (F_Z42 (σ 0)) (again4 σ) (σ 0) (a0, a1, a2, a3, ())) (Q a0 a1 a2 a3) := fun a0 a1 a2 a3 => Tot.loop (L := fun σ n t => B_Z2_L3 (σ 0) (F_Z42 (σ 0)) (again4 σ) n t) (B := fun σ g => u_Z2_L3 (B_Z2_L3b (σ 0) (F_Z42 (σ 0)) (again4 σ) g)) (Q := u_Z2_L3 Q) 2 (by decide)
    (fun s s' h => by have e0 : s 0 = s' 0 := h 0 (by decide); simp only [e0, hag4 s s' h]) (fun s s' h => by have e0 : s 0 = s' 0 := h 0 (by decide); simp only [e0, hag4 s s' h]) (fun _ _ _ => rfl) (u_Z2_L3 I) (u_Z2_L3 μ)
    (fun t ht again hag h => step t.1 t.2.1 t.2.2.1 t.2.2.2.1 ht again hag fun y0 y1 y2 y3 => h (y0, y1, y2, y3, ())) (a0, a1, a2, a3, ())
abbrev A_Z2_L1 (Z : Type) : Type := List Int → Int → Int → Int → Z
abbrev u_Z2_L1 {Z : Type} (f : A_Z2_L1 Z) (t : T_Z2_L1) : Z := f t.1 t.2.1 t.2.2.1 t.2.2.2.1
theorem loop_Z2_L1 {again4 : (Nat → Nat) → T_Z2_L4 → R_Z2} (hag4 : Dep 2 again4) {Q : A_Z2_L1 (((Int × Unit) × (List Int × Unit)) → Prop)} (I : A_Z2_L1 Prop) (μ : A_Z2_L1 Nat)
    (step : ∀ a0 a1 a2 a3, I a0 a1 a2 a3 → ∀ again : (Nat → Nat) → T_Z2_L1 → R_Z2, Dep 3 again → (∀ y0 y1 y2 y3, I y0 y1 y2 y3 → μ y0 y1 y2 y3 < μ a0 a1 a2 a3 → Tot (fun σ => again σ (y0, y1, y2, y3, ())) (Q y0 y1 y2 y3)) →
      Tot (fun σ => B_Z2_L1b (σ 0) (F_Z42 (σ 0)) (again4 σ) (again σ) a0 a1 a2 a3) (Q a0 a1 a2 a3)) :
    ∀ a0 a1 a2 a3, I a0 a1 a2 a3 → Tot (fun σ => B_Z2_L1 (σ 0) (F_Z42 (σ 0)) (again4 σ) (σ 0) (a0, a1, a2, a3, ())) (Q a0 a1 a2 a3) := fun a0 a1 a2 a3 => Tot.loop (L := fun σ n t => B_Z2_L1 (σ 0) (F_Z42 (σ 0)) (again4 σ) n t) (B := fun σ g => u_Z2_L1 (B_Z2_L1b (σ 0) (F_Z42 (σ 0)) (again4 σ) g)) (Q := u_Z2_L1 Q) 2 (by decide)
    (fun s s' h => by have e0 : s 0 = s' 0 := h 0 (by decide); simp only [e0, hag4 s s' h]) (fun s s' h => by have e0 : s 0 = s' 0 := h 0 (by decide); simp only [e0, hag4 s s' h]) (fun _ _ _ => rfl) (u_Z2_L1 I) (u_Z2_L1 μ)
    (fun t ht again hag h => step t.1 t.2.1 t.2.2.1 t.2.2.2.1 ht again hag fun y0 y1 y2 y3 => h (y0, y1, y2, y3, ())) (a0, a1, a2, a3, ())
abbrev A_Z2_L4 (Z : Type) : Type := List Int → Int → Int → Int → Z
abbrev u_Z2_L4 {Z : Type} (f : A_Z2_L4 Z) (t : T_Z2_L4) : Z := f t.1 t.2.1 t.2.2.1 t.2.2.2.1
theorem loop_Z2_L4 {Q : A_Z2_L4 (((Int × Unit) × (List Int × Unit)) → Prop)} (I : A_Z2_L4 Prop) (μ : A_Z2_L4 Nat)
    (step : ∀ a0 a1 a2 a3, I a0 a1 a2 a3 → ∀ again : (Nat → Nat) → T_Z2_L4 → R_Z2, Dep 2 again → (∀ y0 y1 y2 y3, I y0 y1 y2 y3 → μ y0 y1 y2 y3 < μ a0 a1 a2 a3 → Tot (fun σ => again σ (y0, y1, y2, y3, ())) (Q y0 y1 y2 y3)) →
      Tot (fun σ => B_Z2_L4b (σ 0) (F_Z42 (σ 0)) (again σ) a0 a1 a2 a3) (Q a0 a1 a2 a3)) :
    ∀ a0 a1 a2 a3, I a0 a1 a2 a3 → Tot (fun σ => B_Z2_L4 (σ 0) (F_Z42 (σ 0)) (σ 0) (a0, a1, a2, a3, ())) (Q a0 a1 a2 a3) := fun a0 a1 a2 a3 => Tot.loop0 (L := fun k => B_Z2_L4 k (F_Z42 k)) (B := fun k g => u_Z2_L4 (B_Z2_L4b k (F_Z42 k) g)) (Q := u_Z2_L4 Q) (fun _ _ _ => rfl) (u_Z2_L4 I) (u_Z2_L4 μ)
    (fun t ht again hag h => step t.1 t.2.1 t.2.2.1 t.2.2.2.1 ht again hag fun y0 y1 y2 y3 => h (y0, y1, y2, y3, ())) (a0, a1, a2, a3, ())
abbrev R_Z7 : Type := Option ((Int × Bool × Unit) × (List Int × Unit))
abbrev C_Z7 : Type := List Int → Int → Int → Int → R_Z7
abbrev T_Z7_L7 : Type := List Int × Int × Int × Int × Unit
abbrev T_Z7_L5 : Type := List Int × Int × Int × Int × Unit
abbrev T_Z7_L8 : Type := List Int × Int × Int × Int × Unit
abbrev T_Z7_L3 : Type := List Int × Int × Int × Int × Unit
abbrev T_Z7_L1 : Type := List Int × Int × Int × Int × Unit
def B_Z7_J6 (k : Nat) (c_Z42 : C_Z42) (again7 : T_Z7_L7 → R_Z7) (again8 : T_Z7_L8 → R_Z7) (data : List Int) (a i j : Int) (t129 : Bool) : R_Z7 :=
  bif t129 then
    again7 (data, a, i, w64 (j - 1), ())
  else
    bif decide (i > j) then
      chk (inb a data.length) <|
      chk (decide (a.toNat < data.length)) <|
      chk (inb j data.length) <|
      chk (decide (j.toNat < data.length)) <|
      chk (inb j data.length) <|
      chk (decide (j.toNat < data.length)) <|
      chk (inb a (data.set j.toNat (data.getD a.toNat (0 : Int))).length) <|
      chk (decide (a.toNat < (data.set j.toNat (data.getD a.toNat (0 : Int))).length)) <|
      some ((j, false, ()), (((data.set j.toNat (data.getD a.toNat (0 : Int))).set a.toNat (data.getD j.toNat (0 : Int))), ()))
    else
      chk (inb j data.length) <|
      chk (decide (j.toNat < data.length)) <|
      chk (inb i data.length) <|
      chk (decide (i.toNat < data.length)) <|
      chk (inb i data.length) <|
      chk (decide (i.toNat < data.length)) <|
      chk (inb j (data.set i.toNat (data.getD j.toNat (0 : Int))).length) <|
      chk (decide (j.toNat < (data.set i.toNat (data.getD j.toNat (0 : Int))).length)) <|
      again8 (((data.set i.toNat (data.getD j.toNat (0 : Int))).set j.toNat (data.getD i.toNat (0 : Int))), a, w64 (i + 1), w64 (j - 1), ())
def B_Z7_L7b (k : Nat) (c_Z42 : C_Z42) (again8 : T_Z7_L8 → R_Z7) (again7 : T_Z7_L7 → R_Z7) (data : List Int) (a i j : Int) : R_Z7 :=
  bif decide (i ≤ j) then
    chk (inb j data.length) <|
    chk (decide (j.toNat < data.length)) <|
    chk (inb a data.length) <|
    chk (decide (a.toNat < data.length)) <|
    (c_Z42 (data.getD j.toNat (0 : Int)) (data.getD a.toNat (0 : Int))).bind fun r127 =>
    jn (fun t => B_Z7_J6 k c_Z42 again7 again8 t.1 t.2.1 t.2.2.1 t.2.2.2.1 t.2.2.2.2.1) (data, a, i, j, (!r127.1.1), ())
  else
    jn (fun t => B_Z7_J6 k c_Z42 again7 again8 t.1 t.2.1 t.2.2.1 t.2.2.2.1 t.2.2.2.2.1) (data, a, i, j, false, ())
def B_Z7_L7 (k : Nat) (c_Z42 : C_Z42) (again8 : T_Z7_L8 → R_Z7) (n : Nat) (t : T_Z7_L7) : R_Z7 :=
  lfix n (fun again t => B_Z7_L7b k c_Z42 again8 again t.1 t.2.1 t.2.2.1 t.2.2.2.1) t
def B_Z7_J4 (k : Nat) (c_Z42 : C_Z42) (again5 : T_Z7_L5 → R_Z7) (again8 : T_Z7_L8 → R_Z7) (data : List Int) (a i j : Int) (t112 : Bool) : R_Z7 :=
  bif t112 then
    again5 (data, a, w64 (i + 1), j, ())
  else
    B_Z7_L7 k c_Z42 again8 k (data, a, i, j, ())
def B_Z7_L5b (k : Nat) (c_Z42 : C_Z42) (again8 : T_Z7_L8 → R_Z7) (again5 : T_Z7_L5 → R_Z7) (data : List Int) (a i j : Int) : R_Z7 :=
  bif decide (i ≤ j) then
    chk (inb i data.length) <|
    chk (decide (i.toNat < data.length)) <|
    chk (inb a data.length) <|
    chk (decide (a.toNat < data.length)) <|
    (c_Z42 (data.getD i.toNat (0 : Int)) (data.getD a.toNat (0 : Int))).bind fun r111 =>
    jn (fun t => B_Z7_J4 k c_Z42 again5 again8 t.1 t.2.1 t.2.2.1 t.2.2.2.1 t.2.2.2.2.1) (data, a, i, j, r111.1.1, ())
  else
    jn (fun t => B_Z7_J4 k c_Z42 again5 again8 t.1 t.2.1 t.2.2.1 t.2.2.2.1 t.2.2.2.2.1) (data, a, i, j, false, ())
def B_Z7_L5 (k : Nat) (c_Z42 : C_Z42) (again8 : T_Z7_L8 → R_Z7) (n : Nat) (t : T_Z7_L5) : R_Z7 :=
  lfix n (fun again t => B_Z7_L5b k c_Z42 again8 again t.1 t.2.1 t.2.2.1 t.2.2.2.1) t
def B_Z7_L8b (k : Nat) (c_Z42 : C_Z42) (again8 : T_Z7_L8 → R_Z7) (data : List Int) (a i j : Int) : R_Z7 :=
  B_Z7_L5 k c_Z42 again8 k (data, a, i, j, ())
def B_Z7_L8 (k : Nat) (c_Z42 : C_Z42) (n : Nat) (t : T_Z7_L8) : R_Z7 :=
  lfix n (fun again t => B_Z7_L8b k c_Z42 again t.1 t.2.1 t.2.2.1 t.2.2.2.1) t
def B_Z7_J2 (k : Nat) (c_Z42 : C_Z42) (again3 : T_Z7_L3 → R_Z7) (data : List Int) (a i j : Int) (t60 : Bool) : R_Z7 :=
  bif t60 then
    again3 (data, a, i, w64 (j - 1), ())
  else
    bif decide (i > j) then
      chk (inb a data.length) <|
      chk (decide (a.toNat < data.length)) <|
      chk (inb j data.length) <|
      chk (decide (j.toNat < data.length)) <|
      chk (inb j data.length) <|
      chk (decide (j.toNat < data.length)) <|
      chk (inb a (data.set j.toNat (data.getD a.toNat (0 : Int))).length) <|
      chk (decide (a.toNat < (data.set j.toNat (data.getD a.toNat (0 : Int))).length)) <|
      some ((j, true, ()), (((data.set j.toNat (data.getD a.toNat (0 : Int))).set a.toNat (data.getD j.toNat (0 : Int))), ()))
    else
      chk (inb j data.length) <|
      chk (decide (j.toNat < data.length)) <|
      chk (inb i data.length) <|
      chk (decide (i.toNat < data.length)) <|
      chk (inb i data.length) <|
      chk (decide (i.toNat < data.length)) <|
      chk (inb j (data.set i.toNat (data.getD j.toNat (0 : Int))).length) <|
      chk (decide (j.toNat < (data.set i.toNat (data.getD j.toNat (0 : Int))).length)) <|
      B_Z7_L8 k c_Z42 k (((data.set i.toNat (data.getD j.toNat (0 : Int))).set j.toNat (data.getD i.toNat (0 : Int))), a, w64 (i + 1), w64 (j - 1), ())
def B_Z7_L3b (k : Nat) (c_Z42 : C_Z42) (again3 : T_Z7_L3 → R_Z7) (data : List Int) (a i j : Int) : R_Z7 :=
  bif decide (i ≤ j) then
    chk (inb j data.length) <|
    chk (decide (j.toNat < data.length)) <|
    chk (inb a data.length) <|
    chk (decide (a.toNat < data.length)) <|
    (c_Z42 (data.getD j.toNat (0 : Int)) (data.getD a.toNat (0 : Int))).bind fun r58 =>
    jn (fun t => B_Z7_J2 k c_Z42 again3 t.1 t.2.1 t.2.2.1 t.2.2.2.1 t.2.2.2.2.1) (data, a, i, j, (!r58.1.1), ())
  else
    jn (fun t => B_Z7_J2 k c_Z42 again3 t.1 t.2.1 t.2.2.1 t.2.2.2.1 t.2.2.2.2.1) (data, a, i, j, false, ())
def B_Z7_L3 (k : Nat) (c_Z42 : C_Z42) (n : Nat) (t : T_Z7_L3) : R_Z7 :=
  lfix n (fun again t => B_Z7_L3b k c_Z42 again t.1 t.2.1 t.2.2.1 t.2.2.2.1) t
def B_Z7_J0 (k : Nat) (c_Z42 : C_Z42) (again1 : T_Z7_L1 → R_Z7) (data : List Int) (a i j : Int) (t43 : Bool) : R_Z7 :=
  bif t43 then
    again1 (data, a, w64 (i + 1), j, ())
  else
    B_Z7_L3 k c_Z42 k (data, a, i, j, ())
def B_Z7_L1b (k : Nat) (c_Z42 : C_Z42) (again1 : T_Z7_L1 → R_Z7) (data : List Int) (a i j : Int) : R_Z7 :=
  bif decide (i ≤ j) then
    chk (inb i data.length) <|
    chk (decide (i.toNat < data.length)) <|
    chk (inb a data.length) <|
    chk (decide (a.toNat < data.length)) <|
    (c_Z42 (data.getD i.toNat (0 : Int)) (data.getD a.toNat (0 : Int))).bind fun r42 =>
    jn (fun t => B_Z7_J0 k c_Z42 again1 t.1 t.2.1 t.2.2.1 t.2.2.2.1 t.2.2.2.2.1) (data, a, i, j, r42.1.1, ())
  else
    jn (fun t => B_Z7_J0 k c_Z42 again1 t.1 t.2.1 t.2.2.1 t.2.2.2.1 t.2.2.2.2.1) (data, a, i, j, false, ())
def B_Z7_L1 (k : Nat) (c_Z42 : C_Z42) (n : Nat) (t : T_Z7_L1) : R_Z7 :=
  lfix n (fun again t => B_Z7_L1b k c_Z42 again t.1 t.2.1 t.2.2.1 t.2.2.2.1) t
def B_Z7 (k : Nat) (c_Z42 : C_Z42) (data : List Int) (a b pivot : Int) : R_Z7 :=
  chk (inb pivot data.length) <|
  chk (decide (pivot.toNat < data.length)) <|
  chk (inb a data.length) <|
  chk (decide (a.toNat < data.length)) <|
  chk (inb a data.length) <|
  chk (decide (a.toNat < data.length)) <|
  chk (inb pivot (data.set a.toNat (data.getD pivot.toNat (0 : Int))).length) <|
  chk (decide (pivot.toNat < (data.set a.toNat (data.getD pivot.toNat (0 : Int))).length)) <|
  B_Z7_L1 k c_Z42 k (((data.set a.toNat (data.getD pivot.toNat (0 : Int))).set pivot.toNat (data.getD a.toNat (0 : Int))), a, w64 (a + 1), w64 (b - 1), ())
def F_Z7 : Nat → C_Z7
  | 0, _, _, _, _ => none
  | k + 1, data, a, b, pivot => B_Z7 k (F_Z42 k) data a b pivot
theorem tot_Z7 {data a b pivot : _} {Q : _ → Prop} (h : Tot (fun σ => B_Z7 (σ 0) (F_Z42 (σ 0)) data a b pivot) Q) : Tot (fun σ => F_Z7 (σ 0) data a b pivot) Q :=
  Tot.call (F := fun k => F_Z7 k data a b pivot) (B := fun k => B_Z7 k (F_Z42 k) data a b pivot) (fun k => rfl) h
abbrev A_Z7_L7 (Z : Type) : Type := List Int → Int → Int → Int → Z
abbrev u_Z7_L7 {Z : Type} (f : A_Z7_L7 Z) (t : T_Z7_L7) : Z := f t.1 t.2.1 t.2.2.1 t.2.2.2.1
theorem loop_Z7_L7 {again8 : (Nat → Nat) → T_Z7_L8 → R_Z7} (hag8 : Dep 2 again8) {Q : A_Z7_L7 (((Int × Bool × Unit) × (List Int × Unit)) → Prop)} (I : A_Z7_L7 Prop) (μ : A_Z7_L7 Nat)
    (step : ∀ a0 a1 a2 a3, I a0 a1 a2 a3 → ∀ again : (Nat → Nat) → T_Z7_L7 → R_Z7, Dep 3 again → (∀ y0 y1 y2 y3, I y0 y1 y2 y3 → μ y0 y1 y2 y3 < μ a0 a1 a2 a3 → Tot (fun σ => again σ (y0, y1, y2, y3, ())) (Q y0 y1 y2 y3)) →
      Tot (fun σ => B_Z7_L7b (σ 0) (F_Z42 (σ 0)) (again8 σ) (again σ) a0 a1 a2 a3) (Q a0 a1 a2 a3)) :
    ∀ a0 a1 a2 a3, I a0 a1 a2 a3 → Tot (fun σ => B_Z7_L7 (σ 0) (F_Z42 (σ 0)) (again8 σ) (σ 0) (a0, a1, a2, a3, ())) (Q a0 a1 a2 a3) := fun a0 a1 a2 a3 => Tot.loop (L := fun σ n t => B_Z7_L7 (σ 0) (F_Z42 (σ 0)) (again8 σ) n t) (B := fun σ g => u_Z7_L7 (B_Z7_L7b (σ 0) (F_Z42 (σ 0)) (again8 σ) g)) (Q := u_Z7_L7 Q) 2 (by decide)
    (fun s s' h => by have e0 : s 0 = s' 0 := h 0 (by decide); simp only [e0, hag8 s s' h]) (fun s s' h => by have e0 : s 0 = s' 0 := h 0 (by decide); simp only [e0, hag8 s s' h]) (fun _ _ _ => rfl) (u_Z7_L7 I) (u_Z7_L7 μ)
    (fun t ht again hag h => step t.1 t.2.1 t.2.2.1 t.2.2.2.1 ht again hag fun y0 y1 y2 y3 => h (y0, y1, y2, y3, ())) (a0, a1, a2, a3, ())
abbrev A_Z7_L5 (Z : Type) : Type := List Int → Int → Int → Int → Z
abbrev u_Z7_L5 {Z : Type} (f : A_Z7_L5 Z) (t : T_Z7_L5) : Z := f t.1 t.2.1 t.2.2.1 t.2.2.2.1
theorem loop_Z7_L5 {again8 : (Nat → Nat) → T_Z7_L8 → R_Z7} (hag8 : Dep 2 again8) {Q : A_Z7_L5 (((Int × Bool × Unit) × (List Int × Unit)) → Prop)} (I : A_Z7_L5 Prop) (μ : A_Z7_L5 Nat)
    (step : ∀ a0 a1 a2 a3, I a0 a1 a2 a3 → ∀ again : (Nat → Nat) → T_Z7_L5 → R_Z7, Dep 3 again → (∀ y0 y1 y2 y3, I y0 y1 y2 y3 → μ y0 y1 y2 y3 < μ a0 a1 a2 a3 → Tot (fun σ => again σ (y0, y1, y2, y3, ())) (Q y0 y1 y2 y3)) →
      Tot (fun σ => B_Z7_L5b (σ 0) (F_Z42 (σ 0)) (again8 σ) (again σ) a0 a1 a2 a3) (Q a0 a1 a2 a3)) :
    ∀ a0 a1 a2 a3, I a0 a1 a2 a3 → Tot (fun σ => B_Z7_L5 (σ 0) (F_Z42 (σ 0)) (again8 σ) (σ 0) (a0, a1, a2, a3, ())) (Q a0 a1 a2 a3) := fun a0 a1 a2 a3 => Tot.loop (L := fun σ n t => B_Z7_L5 (σ 0) (F_Z42 (σ 0)) (again8 σ) n t) (B := fun σ g => u_Z7_L5 (B_Z7_L5b (σ 0) (F_Z42 (σ 0)) (again8 σ) g)) (Q := u_Z7_L5 Q) 2 (by decide)
    (fun s s' h => by have e0 : s 0 = s' 0 := h 0 (by decide); simp only [e0, hag8 s s' h]) (fun s s' h => by have e0 : s 0 = s' 0 := h 0 (by decide); simp only [e0, hag8 s s' h]) (fun _ _ _ => rfl) (u_Z7_L5 I) (u_Z7_L5 μ)
    (fun t ht again hag h => step t.1 t.2.1 t.2.2.1 t.2.2.2.1 ht again hag fun y0 y1 y2 y3 => h (y0, y1, y2, y3, ())) (a0, a1, a2, a3, ())
abbrev A_Z7_L8 (Z : Type) : Type := List Int → Int → Int → Int → Z
abbrev u_Z7_L8 {Z : Type} (f : A_Z7_L8 Z) (t : T_Z7_L8) : Z := f t.1 t.2.1 t.2.2.1 t.2.2.2.1
theorem loop_Z7_L8 {Q : A_Z7_L8 (((Int × Bool × Unit) × (List Int × Unit)) → Prop)} (I : A_Z7_L8 Prop) (μ : A_Z7_L8 Nat)
    (step : ∀ a0 a1 a2 a3, I a0 a1 a2 a3 → ∀ again : (Nat → Nat) → T_Z7_L8 → R_Z7, Dep 2 again → (∀ y0 y1 y2 y3, I y0 y1 y2 y3 → μ y0 y1 y2 y3 < μ a0 a1 a2 a3 → Tot (fun σ => again σ (y0, y1, y2, y3, ())) (Q y0 y1 y2 y3)) →
      Tot (fun σ => B_Z7_L8b (σ 0) (F_Z42 (σ 0)) (again σ) a0 a1 a2 a3) (Q a0 a1 a2 a3)) :
    ∀ a0 a1 a2 a3, I a0 a1 a2 a3 → Tot (fun σ => B_Z7_L8 (σ 0) (F_Z42 (σ 0)) (σ 0) (a0, a1, a2, a3, ())) (Q a0 a1 a2 a3) := fun a0 a1 a2 a3 => Tot.loop0 (L := fun k => B_Z7_L8 k (F_Z42 k)) (B := fun k g => u_Z7_L8 (B_Z7_L8b k (F_Z42 k) g)) (Q := u_Z7_L8 Q) (fun _ _ _ => rfl) (u_Z7_L8 I) (u_Z7_L8 μ)
    (fun t ht again hag h => step t.1 t.2.1 t.2.2.1 t.2.2.2.1 ht again hag fun y0 y1 y2 y3 => h (y0, y1, y2, y3, ())) (a0, a1, a2, a3, ())
abbrev A_Z7_L3 (Z : Type) : Type := List Int → Int → Int → Int → Z
abbrev u_Z7_L3 {Z : Type} (f : A_Z7_L3 Z) (t : T_Z7_L3) : Z := f t.1 t.2.1 t.2.2.1 t.2.2.2.1
theorem loop_Z7_L3 {Q : A_Z7_L3 (((Int × Bool × Unit) × (List Int × Unit)) → Prop)} (I : A_Z7_L3 Prop) (μ : A_Z7_L3 Nat)
    (step : ∀ a0 a1 a2 a3, I a0 a1 a2 a3 → ∀ again : (Nat → Nat) → T_Z7_L3 → R_Z7, Dep 2 again → (∀ y0 y1 y2 y3, I y0 y1 y2 y3 → μ y0 y1 y2 y3 < μ a0 a1 a2 a3 → Tot (fun σ => again σ (y0, y1, y2, y3, ())) (Q y0 y1 y2 y3)) →
      Tot (fun σ => B_Z7_L3b (σ 0) (F_Z42 (σ 0)) (again σ) a0 a1 a2 a3) (Q a0 a1 a2 a3)) :
    ∀ a0 a1 a2 a3, I a0 a1 a2 a3 → Tot (fun σ => B_Z7_L3 (σ 0) (F_Z42 (σ 0)) (σ 0) (a0, a1, a2, a3, ())) (Q a0 a1 a2 a3) := fun a0 a1 a2 a3 => Tot.loop0 (L := fun k => B_Z7_L3 k (F_Z42 k)) (B := fun k g => u_Z7_L3 (B_Z7_L3b k (F_Z42 k) g)) (Q := u_Z7_L3 Q) (fun _ _ _ => rfl) (u_Z7_L3 I) (u_Z7_L3 μ)
    (fun t ht again hag h => step t.1 t.2.1 t.2.2.1 t.2.2.2.1 ht again hag fun y0 y1 y2 y3 => h (y0, y1, y2, y3, ())) (a0, a1, a2, a3, ())
abbrev A_Z7_L1 (Z : Type) : Type := List Int → Int → Int → Int → Z
abbrev u_Z7_L1 {Z : Type} (f : A_Z7_L1 Z) (t : T_Z7_L1) : Z := f t.1 t.2.1 t.2.2.1 t.2.2.2.1
theorem loop_Z7_L1 {Q : A_Z7_L1 (((Int × Bool × Unit) × (List Int × Unit)) → Prop)} (I : A_Z7_L1 Prop) (μ : A_Z7_L1 Nat)
    (step : ∀ a0 a1 a2 a3, I a0 a1 a2 a3 → ∀ again : (Nat → Nat) → T_Z7_L1 → R_Z7, Dep 2 again → (∀ y0 y1 y2 y3, I y0 y1 y2 y3 → μ y0 y1 y2 y3 < μ a0 a1 a2 a3 → Tot (fun σ => again σ (y0, y1, y2, y3, ())) (Q y0 y1 y2 y3)) →
      Tot (fun σ => B_Z7_L1b (σ 0) (F_Z42 (σ 0)) (again σ) a0 a1 a2 a3) (Q a0 a1 a2 a3)) :
    ∀ a0 a1 a2 a3, I a0 a1 a2 a3 → Tot (fun σ => B_Z7_L1 (σ 0) (F_Z42 (σ 0)) (σ 0) (a0, a1, a2, a3, ())) (Q a0 a1 a2 a3) := fun a0 a1 a2 a3 => Tot.loop0 (L := fun k => B_Z7_L1 k (F_Z42 k)) (B := fun k g => u_Z7_L1 (B_Z7_L1b k (F_Z42 k) g)) (Q := u_Z7_L1 Q) (fun _ _ _ => rfl) (u_Z7_L1 I) (u_Z7_L1 μ)
    (fun t ht again hag h => step t.1 t.2.1 t.2.2.1 t.2.2.2.1 ht again hag fun y0 y1 y2 y3 => h (y0, y1, y2, y3, ())) (a0, a1, a2, a3, ())
abbrev R_Z11 : Type := Option ((Unit) × (List Int × Unit))
abbrev C_Z11 : Type := List Int → Int → Int → Int → R_Z11
abbrev T_Z11_L5 : Type := List Int × Int × Int × Int × Bool × Bool × Unit
def B_Z11_J4 (k : Nat) (c_Z4 : C_Z4) (c_Z9 : C_Z9) (c_Z3 : C_Z3) (c_Z6 : C_Z6) (c_Z5 : C_Z5) (c_Z0 : C_Z0) (c_Z42 : C_Z42) (c_Z2 : C_Z2) (c_Z7 : C_Z7) (c_Z11 : C_Z11) (again5 : T_Z11_L5 → R_Z11) (data : List Int) (a b limit : Int) (wasBalanced wasPartitioned : Bool) (length pivot : Int) (t87 : Bool) : R_Z11 :=
  bif t87 then
    (c_Z2 data a b pivot).bind fun r92 =>
    again5 (r92.2.1, r92.1.1, b, limit, wasBalanced, wasPartitioned, ())
  else
    (c_Z7 data a b pivot).bind fun r99 =>
    bif decide ((w64 (r99.1.1 - a)) < (w64 (b - r99.1.1))) then
      (c_Z11 r99.2.1 a r99.1.1 limit).bind fun r121 =>
      again5 (r121.2.1, w64 (r99.1.1 + 1), b, limit, decide ((w64 (r99.1.1 - a)) ≥ (w64 (length.tdiv 8))), r99.1.2.1, ())
    else
      (c_Z11 r99.2.1 (w64 (r99.1.1 + 1)) b limit).bind fun r132 =>
      again5 (r132.2.1, a, r99.1.1, limit, decide ((w64 (b - r99.1.1)) ≥ (w64 (length.tdiv 8))), r99.1.2.1, ())
def B_Z11_J3 (k : Nat) (c_Z4 : C_Z4) (c_Z9 : C_Z9) (c_Z3 : C_Z3) (c_Z6 : C_Z6) (c_Z5 : C_Z5) (c_Z0 : C_Z0) (c_Z42 : C_Z42) (c_Z2 : C_Z2) (c_Z7 : C_Z7) (c_Z11 : C_Z11) (again5 : T_Z11_L5 → R_Z11) (data : List Int) (a b limit : Int) (wasBalanced wasPartitioned : Bool) (length pivot : Int) : R_Z11 :=
  bif decide (a > 0) then
    chk (inb (w64 (a - 1)) data.length) <|
    chk (decide ((w64 (a - 1)).toNat < data.length)) <|
    chk (inb pivot data.length) <|
    chk (decide (pivot.toNat < data.length)) <|
    (c_Z42 (data.getD ((w64 (a - 1)).toNat) (0 : Int)) (data.getD pivot.toNat (0 : Int))).bind fun r85 =>
    jn (fun t => B_Z11_J4 k c_Z4 c_Z9 c_Z3 c_Z6 c_Z5 c_Z0 c_Z42 c_Z2 c_Z7 c_Z11 again5 t.1 t.2.1 t.2.2.1 t.2.2.2.1 t.2.2.2.2.1 t.2.2.2.2.2.1 t.2.2.2.2.2.2.1 t.2.2.2.2.2.2.2.1 t.2.2.2.2.2.2.2.2.1) (data, a, b, limit, wasBalanced, wasPartitioned, length, pivot, (!r85.1.1), ())
  else
    jn (fun t => B_Z11_J4 k c_Z4 c_Z9 c_Z3 c_Z6 c_Z5 c_Z0 c_Z42 c_Z2 c_Z7 c_Z11 again5 t.1 t.2.1 t.2.2.1 t.2.2.2.1 t.2.2.2.2.1 t.2.2.2.2.2.1 t.2.2.2.2.2.2.1 t.2.2.2.2.2.2.2.1 t.2.2.2.2.2.2.2.2.1) (data, a, b, limit, wasBalanced, wasPartitioned, length, pivot, false, ())
def B_Z11_J2 (k : Nat) (c_Z4 : C_Z4) (c_Z9 : C_Z9) (c_Z3 : C_Z3) (c_Z6 : C_Z6) (c_Z5 : C_Z5) (c_Z0 : C_Z0) (c_Z42 : C_Z42) (c_Z2 : C_Z2) (c_Z7 : C_Z7) (c_Z11 : C_Z11) (again5 : T_Z11_L5 → R_Z11) (data : List Int) (a b limit : Int) (wasBalanced wasPartitioned : Bool) (length pivot : Int) (t68 : Bool) : R_Z11 :=
  bif t68 then
    (c_Z0 data a b).bind fun r72 =>
    bif r72.1.1 then
      some ((), (r72.2.1, ()))
    else
      jn (fun t => B_Z11_J3 k c_Z4 c_Z9 c_Z3 c_Z6 c_Z5 c_Z0 c_Z42 c_Z2 c_Z7 c_Z11 again5 t.1 t.2.1 t.2.2.1 t.2.2.2.1 t.2.2.2.2.1 t.2.2.2.2.2.1 t.2.2.2.2.2.2.1 t.2.2.2.2.2.2.2.1) (r72.2.1, a, b, limit, wasBalanced, wasPartitioned, length, pivot, ())
  else
    jn (fun t => B_Z11_J3 k c_Z4 c_Z9 c_Z3 c_Z6 c_Z5 c_Z0 c_Z42 c_Z2 c_Z7 c_Z11 again5 t.1 t.2.1 t.2.2.1 t.2.2.2.1 t.2.2.2.2.1 t.2.2.2.2.2.1 t.2.2.2.2.2.2.1 t.2.2.2.2.2.2.2.1) (data, a, b, limit, wasBalanced, wasPartitioned, length, pivot, ())
def B_Z11_J1 (k : Nat) (c_Z4 : C_Z4) (c_Z9 : C_Z9) (c_Z3 : C_Z3) (c_Z6 : C_Z6) (c_Z5 : C_Z5) (c_Z0 : C_Z0) (c_Z42 : C_Z42) (c_Z2 : C_Z2) (c_Z7 : C_Z7) (c_Z11 : C_Z11) (again5 : T_Z11_L5 → R_Z11) (data : List Int) (a b limit : Int) (wasBalanced wasPartitioned : Bool) (length pivot hint : Int) : R_Z11 :=
  bif wasBalanced then
    bif wasPartitioned then
      jn (fun t => B_Z11_J2 k c_Z4 c_Z9 c_Z3 c_Z6 c_Z5 c_Z0 c_Z42 c_Z2 c_Z7 c_Z11 again5 t.1 t.2.1 t.2.2.1 t.2.2.2.1 t.2.2.2.2.1 t.2.2.2.2.2.1 t.2.2.2.2.2.2.1 t.2.2.2.2.2.2.2.1 t.2.2.2.2.2.2.2.2.1) (data, a, b, limit, wasBalanced, wasPartitioned, length, pivot, (hint == 1), ())
    else
      jn (fun t => B_Z11_J2 k c_Z4 c_Z9 c_Z3 c_Z6 c_Z5 c_Z0 c_Z42 c_Z2 c_Z7 c_Z11 again5 t.1 t.2.1 t.2.2.1 t.2.2.2.1 t.2.2.2.2.1 t.2.2.2.2.2.1 t.2.2.2.2.2.2.1 t.2.2.2.2.2.2.2.1 t.2.2.2.2.2.2.2.2.1) (data, a, b, limit, wasBalanced, wasPartitioned, length, pivot, false, ())
  else
    jn (fun t => B_Z11_J2 k c_Z4 c_Z9 c_Z3 c_Z6 c_Z5 c_Z0 c_Z42 c_Z2 c_Z7 c_Z11 again5 t.1 t.2.1 t.2.2.1 t.2.2.2.1 t.2.2.2.2.1 t.2.2.2.2.2.1 t.2.2.2.2.2.2.1 t.2.2.2.2.2.2.2.1 t.2.2.2.2.2.2.2.2.1) (data, a, b, limit, wasBalanced, wasPartitioned, length, pivot, false, ())
def B_Z11_J0 (k : Nat) (c_Z4 : C_Z4) (c_Z9 : C_Z9) (c_Z3 : C_Z3) (c_Z6 : C_Z6) (c_Z5 : C_Z5) (c_Z0 : C_Z0) (c_Z42 : C_Z42) (c_Z2 : C_Z2) (c_Z7 : C_Z7) (c_Z11 : C_Z11) (again5 : T_Z11_L5 → R_Z11) (data : List Int) (a b limit : Int) (wasBalanced wasPartitioned : Bool) (length : Int) : R_Z11 :=
  (c_Z6 data a b).bind fun r46 =>
  bif (r46.1.2.1 == 2) then
    (c_Z5 data a b).bind fun r54 =>
    jn (fun t => B_Z11_J1 k c_Z4 c_Z9 c_Z3 c_Z6 c_Z5 c_Z0 c_Z42 c_Z2 c_Z7 c_Z11 again5 t.1 t.2.1 t.2.2.1 t.2.2.2.1 t.2.2.2.2.1 t.2.2.2.2.2.1 t.2.2.2.2.2.2.1 t.2.2.2.2.2.2.2.1 t.2.2.2.2.2.2.2.2.1) (r54.2.1, a, b, limit, wasBalanced, wasPartitioned, length, w64 ((w64 (b - 1)) - (w64 (r46.1.1 - a))), 1, ())
  else
    jn (fun t => B_Z11_J1 k c_Z4 c_Z9 c_Z3 c_Z6 c_Z5 c_Z0 c_Z42 c_Z2 c_Z7 c_Z11 again5 t.1 t.2.1 t.2.2.1 t.2.2.2.1 t.2.2.2.2.1 t.2.2.2.2.2.1 t.2.2.2.2.2.2.1 t.2.2.2.2.2.2.2.1 t.2.2.2.2.2.2.2.2.1) (data, a, b, limit, wasBalanced, wasPartitioned, length, r46.1.1, r46.1.2.1, ())
def B_Z11_L5b (k : Nat) (c_Z4 : C_Z4) (c_Z9 : C_Z9) (c_Z3 : C_Z3) (c_Z6 : C_Z6) (c_Z5 : C_Z5) (c_Z0 : C_Z0) (c_Z42 : C_Z42) (c_Z2 : C_Z2) (c_Z7 : C_Z7) (c_Z11 : C_Z11) (again5 : T_Z11_L5 → R_Z11) (data : List Int) (a b limit : Int) (wasBalanced wasPartitioned : Bool) : R_Z11 :=
  bif decide ((w64 (b - a)) ≤ 12) then
    (c_Z4 data a b).bind fun r27 =>
    some ((), (r27.2.1, ()))
  else
    bif (limit == 0) then
      (c_Z9 data a b).bind fun r33 =>
      some ((), (r33.2.1, ()))
    else
      bif (!wasBalanced) then
        (c_Z3 data a b).bind fun r39 =>
        jn (fun t => B_Z11_J0 k c_Z4 c_Z9 c_Z3 c_Z6 c_Z5 c_Z0 c_Z42 c_Z2 c_Z7 c_Z11 again5 t.1 t.2.1 t.2.2.1 t.2.2.2.1 t.2.2.2.2.1 t.2.2.2.2.2.1 t.2.2.2.2.2.2.1) (r39.2.1, a, b, w64 (limit - 1), wasBalanced, wasPartitioned, w64 (b - a), ())
      else
        jn (fun t => B_Z11_J0 k c_Z4 c_Z9 c_Z3 c_Z6 c_Z5 c_Z0 c_Z42 c_Z2 c_Z7 c_Z11 again5 t.1 t.2.1 t.2.2.1 t.2.2.2.1 t.2.2.2.2.1 t.2.2.2.2.2.1 t.2.2.2.2.2.2.1) (data, a, b, limit, wasBalanced, wasPartitioned, w64 (b - a), ())
def B_Z11_L5 (k : Nat) (c_Z4 : C_Z4) (c_Z9 : C_Z9) (c_Z3 : C_Z3) (c_Z6 : C_Z6) (c_Z5 : C_Z5) (c_Z0 : C_Z0) (c_Z42 : C_Z42) (c_Z2 : C_Z2) (c_Z7 : C_Z7) (c_Z11 : C_Z11) (n : Nat) (t : T_Z11_L5) : R_Z11 :=
  lfix n (fun again t => B_Z11_L5b k c_Z4 c_Z9 c_Z3 c_Z6 c_Z5 c_Z0 c_Z42 c_Z2 c_Z7 c_Z11 again t.1 t.2.1 t.2.2.1 t.2.2.2.1 t.2.2.2.2.1 t.2.2.2.2.2.1) t
def B_Z11 (k : Nat) (c_Z4 : C_Z4) (c_Z9 : C_Z9) (c_Z3 : C_Z3) (c_Z6 : C_Z6) (c_Z5 : C_Z5) (c_Z0 : C_Z0) (c_Z42 : C_Z42) (c_Z2 : C_Z2) (c_Z7 : C_Z7) (c_Z11 : C_Z11) (data : List Int) (a b limit : Int) : R_Z11 :=
  B_Z11_L5 k c_Z4 c_Z9 c_Z3 c_Z6 c_Z5 c_Z0 c_Z42 c_Z2 c_Z7 c_Z11 k (data, a, b, limit, true, true, ())
def F_Z11 : Nat → C_Z11
  | 0, _, _, _, _ => none
  | k + 1, data, a, b, limit => B_Z11 k (F_Z4 k) (F_Z9 k) (F_Z3 k) (F_Z6 k) (F_Z5 k) (F_Z0 k) (F_Z42 k) (F_Z2 k) (F_Z7 k) (F_Z11 k) data a b limit
theorem F_Z11_succ (k : Nat) (data : List Int) (a : Int) (b : Int) (limit : Int) : F_Z11 (k + 1) data a b limit = B_Z11 k (F_Z4 k) (F_Z9 k) (F_Z3 k) (F_Z6 k) (F_Z5 k) (F_Z0 k) (F_Z42 k) (F_Z2 k) (F_Z7 k) (F_Z11 k) data a b limit := by rw [F_Z11]
theorem tot_Z11 {data a b limit : _} {Q : _ → Prop} (h : Tot (fun σ => B_Z11 (σ 0) (F_Z4 (σ 0)) (F_Z9 (σ 0)) (F_Z3 (σ 0)) (F_Z6 (σ 0)) (F_Z5 (σ 0)) (F_Z0 (σ 0)) (F_Z42 (σ 0)) (F_Z2 (σ 0)) (F_Z7 (σ 0)) (F_Z11 (σ 0)) data a b limit) Q) : Tot (fun σ => F_Z11 (σ 0) data a b limit) Q :=
  Tot.call (F := fun k => F_Z11 k data a b limit) (B := fun k => B_Z11 k (F_Z4 k) (F_Z9 k) (F_Z3 k) (F_Z6 k) (F_Z5 k) (F_Z0 k) (F_Z42 k) (F_Z2 k) (F_Z7 k) (F_Z11 k) data a b limit) (fun k => F_Z11_succ k data a b limit) h
abbrev A_Z11_L5 (Z : Type) : Type := List Int → Int → Int → Int → Bool → Bool → Z
abbrev u_Z11_L5 {Z : Type} (f : A_Z11_L5 Z) (t : T_Z11_L5) : Z := f t.1 t.2.1 t.2.2.1 t.2.2.2.1 t.2.2.2.2.1 t.2.2.2.2.2.1
theorem loop_Z11_L5 {Q : A_Z11_L5 (((Unit) × (List Int × Unit)) → Prop)} (I : A_Z11_L5 Prop) (μ : A_Z11_L5 Nat)
    (step : ∀ a0 a1 a2 a3 a4 a5, I a0 a1 a2 a3 a4 a5 → ∀ again : (Nat → Nat) → T_Z11_L5 → R_Z11, Dep 2 again → (∀ y0 y1 y2 y3 y4 y5, I y0 y1 y2 y3 y4 y5 → μ y0 y1 y2 y3 y4 y5 < μ a0 a1 a2 a3 a4 a5 → Tot (fun σ => again σ (y0, y1, y2, y3, y4, y5, ())) (Q y0 y1 y2 y3 y4 y5)) →
      Tot (fun σ => B_Z11_L5b (σ 0) (F_Z4 (σ 0)) (F_Z9 (σ 0)) (F_Z3 (σ 0)) (F_Z6 (σ 0)) (F_Z5 (σ 0)) (F_Z0 (σ 0)) (F_Z42 (σ 0)) (F_Z2 (σ 0)) (F_Z7 (σ 0)) (F_Z11 (σ 0)) (again σ) a0 a1 a2 a3 a4 a5) (Q a0 a1 a2 a3 a4 a5)) :
    ∀ a0 a1 a2 a3 a4 a5, I a0 a1 a2 a3 a4 a5 → Tot (fun σ => B_Z11_L5 (σ 0) (F_Z4 (σ 0)) (F_Z9 (σ 0)) (F_Z3 (σ 0)) (F_Z6 (σ 0)) (F_Z5 (σ 0)) (F_Z0 (σ 0)) (F_Z42 (σ 0)) (F_Z2 (σ 0)) (F_Z7 (σ 0)) (F_Z11 (σ 0)) (σ 0) (a0, a1, a2, a3, a4, a5, ())) (Q a0 a1 a2 a3 a4 a5) := fun a0 a1 a2 a3 a4 a5 => Tot.loop0 (L := fun k => B_Z11_L5 k (F_Z4 k) (F_Z9 k) (F_Z3 k) (F_Z6 k) (F_Z5 k) (F_Z0 k) (F_Z42 k) (F_Z2 k) (F_Z7 k) (F_Z11 k)) (B := fun k g => u_Z11_L5 (B_Z11_L5b k (F_Z4 k) (F_Z9 k) (F_Z3 k) (F_Z6 k) (F_Z5 k) (F_Z0 k) (F_Z42 k) (F_Z2 k) (F_Z7 k) (F_Z11 k) g)) (Q := u_Z11_L5 Q) (fun _ _ _ => rfl) (u_Z11_L5 I) (u_Z11_L5 μ)
    (fun t ht again hag h => step t.1 t.2.1 t.2.2.1 t.2.2.2.1 t.2.2.2.2.1 t.2.2.2.2.2.1 ht again hag fun y0 y1 y2 y3 y4 y5 => h (y0, y1, y2, y3, y4, y5, ())) (a0, a1, a2, a3, a4, a5, ())
abbrev R_Z22 : Type := Option ((Unit) × (List Int × Unit))
abbrev C_Z22 : Type := List Int → R_Z22
def B_Z22 (k : Nat) (c_bits_Len : C_bits_Len) (c_Z11 : C_Z11) (x : List Int) : R_Z22 :=
  (c_bits_Len (IntKind.wrap .u64 (len x))).bind fun r9 =>
  (c_Z11 x 0 (len x) r9.1.1).bind fun r10 =>
  some ((), (r10.2.1, ()))
def F_Z22 : Nat → C_Z22
  | 0, _ => none
  | k + 1, x => B_Z22 k (F_bits_Len k) (F_Z11 k) x
theorem tot_Z22 {x : _} {Q : _ → Prop} (h : Tot (fun σ => B_Z22 (σ 0) (F_bits_Len (σ 0)) (F_Z11 (σ 0)) x) Q) : Tot (fun σ => F_Z22 (σ 0) x) Q :=
  Tot.call (F := fun k => F_Z22 k x) (B := fun k => B_Z22 k (F_bits_Len k) (F_Z11 k) x) (fun k => rfl) h
abbrev R_Z16 : Type := Option ((List Int × Unit) × (Unit))
abbrev C_Z16 : Type := List Int → R_Z16
abbrev T_Z16_L1 : Type := List Int × Int × Int × (Nat × Nat) × Unit
abbrev T_Z16_L2 : Type := List Int × Int × Unit
def B_Z16_J0 (k : Nat) (again1 : T_Z16_L1 → R_Z16) (s : List Int) (k3 k2 : Int) (s2 : Nat × Nat) : R_Z16 :=
  again1 (s, k3, w64 (k2 + 1), (s2.1, s2.2), ())
def B_Z16_L1b (k : Nat) (again1 : T_Z16_L1 → R_Z16) (s : List Int) (k3 k2 : Int) (s2 : Nat × Nat) : R_Z16 :=
  bif decide (k2 < ((s2.2 - s2.1 : Nat) : Int)) then
    chk ((inb k2 (s2.2 - s2.1) && decide (s2.2 ≤ s.length))) <|
    chk (decide ((s2.1 + k2.toNat) < s.length)) <|
    chk ((inb (w64 (k2 - 1)) (s2.2 - s2.1) && decide (s2.2 ≤ s.length))) <|
    chk (decide ((s2.1 + (w64 (k2 - 1)).toNat) < s.length)) <|
    bif ((s.getD (s2.1 + k2.toNat) (0 : Int)) != (s.getD (s2.1 + (w64 (k2 - 1)).toNat) (0 : Int))) then
      chk ((inb k2 (s2.2 - s2.1) && decide (s2.2 ≤ s.length))) <|
      chk (decide ((s2.1 + k2.toNat) < s.length)) <|
      chk (inb k3 s.length) <|
      chk (decide (k3.toNat < s.length)) <|
      jn (fun t => B_Z16_J0 k again1 t.1 t.2.1 t.2.2.1 t.2.2.2.1) ((s.set k3.toNat (s.getD (s2.1 + k2.toNat) (0 : Int))), w64 (k3 + 1), k2, (s2.1, s2.2), ())
    else
      jn (fun t => B_Z16_J0 k again1 t.1 t.2.1 t.2.2.1 t.2.2.2.1) (s, k3, k2, (s2.1, s2.2), ())
  else
    chk (cutb k3 (len s) s.length) <|
    chk (decide (k3.toNat ≤ (len s).toNat ∧ (len s).toNat ≤ s.length)) <|
    chk (cutb 0 k3 (s.take k3.toNat ++ List.replicate ((len s).toNat - k3.toNat) (0 : Int) ++ s.drop ((len s).toNat)).length) <|
    some ((((s.take k3.toNat ++ List.replicate ((len s).toNat - k3.toNat) (0 : Int) ++ s.drop ((len s).toNat)).take k3.toNat), ()), ())
def B_Z16_L1 (k : Nat) (n : Nat) (t : T_Z16_L1) : R_Z16 :=
  lfix n (fun again t => B_Z16_L1b k again t.1 t.2.1 t.2.2.1 t.2.2.2.1) t
def B_Z16_L2b (k : Nat) (again2 : T_Z16_L2 → R_Z16) (s : List Int) (k3 : Int) : R_Z16 :=
  bif decide (k3 < (len s)) then
    chk (inb k3 s.length) <|
    chk (decide (k3.toNat < s.length)) <|
    chk (inb (w64 (k3 - 1)) s.length) <|
    chk (decide ((w64 (k3 - 1)).toNat < s.length)) <|
    bif ((s.getD k3.toNat (0 : Int)) == (s.getD ((w64 (k3 - 1)).toNat) (0 : Int))) then
      chk (cutb k3 (len s) s.length) <|
      B_Z16_L1 k k (s, k3, 1, (k3.toNat, (len s).toNat), ())
    else
      again2 (s, w64 (k3 + 1), ())
  else
    some ((s, ()), ())
def B_Z16_L2 (k : Nat) (n : Nat) (t : T_Z16_L2) : R_Z16 :=
  lfix n (fun again t => B_Z16_L2b k again t.1 t.2.1) t
def B_Z16 (k : Nat) (s : List Int) : R_Z16 :=
  bif decide ((len s) < 2) then
    some ((s, ()), ())
  else
    B_Z16_L2 k k (s, 1, ())
def F_Z16 : Nat → C_Z16
  | 0, _ => none
  | k + 1, s => B_Z16 k s
theorem tot_Z16 {s : _} {Q : _ → Prop} (h : Tot (fun σ => B_Z16 (σ 0) s) Q) : Tot (fun σ => F_Z16 (σ 0) s) Q :=
  Tot.call (F := fun k => F_Z16 k s) (B := fun k => B_Z16 k s) (fun k => rfl) h
abbrev A_Z16_L1 (Z : Type) : Type := List Int → Int → Int → (Nat × Nat) → Z
abbrev u_Z16_L1 {Z : Type} (f : A_Z16_L1 Z) (t : T_Z16_L1) : Z := f t.1 t.2.1 t.2.2.1 t.2.2.2.1
theorem loop_Z16_L1 {Q : A_Z16_L1 (((List Int × Unit) × (Unit)) → Prop)} (I : A_Z16_L1 Prop) (μ : A_Z16_L1 Nat)
    (step : ∀ a0 a1 a2 a3, I a0 a1 a2 a3 → ∀ again : (Nat → Nat) → T_Z16_L1 → R_Z16, Dep 2 again → (∀ y0 y1 y2 y3, I y0 y1 y2 y3 → μ y0 y1 y2 y3 < μ a0 a1 a2 a3 → Tot (fun σ => again σ (y0, y1, y2, y3, ())) (Q y0 y1 y2 y3)) →
      Tot (fun σ => B_Z16_L1b (σ 0) (again σ) a0 a1 a2 a3) (Q a0 a1 a2 a3)) :
    ∀ a0 a1 a2 a3, I a0 a1 a2 a3 → Tot (fun σ => B_Z16_L1 (σ 0) (σ 0) (a0, a1, a2, a3, ())) (Q a0 a1 a2 a3) := fun a0 a1 a2 a3 => Tot.loop0 (L := fun k => B_Z16_L1 k) (B := fun k g => u_Z16_L1 (B_Z16_L1b k g)) (Q := u_Z16_L1 Q) (fun _ _ _ => rfl) (u_Z16_L1 I) (u_Z16_L1 μ)
    (fun t ht again hag h => step t.1 t.2.1 t.2.2.1 t.2.2.2.1 ht again hag fun y0 y1 y2 y3 => h (y0, y1, y2, y3, ())) (a0, a1, a2, a3, ())
abbrev A_Z16_L2 (Z : Type) : Type := List Int → Int → Z
abbrev u_Z16_L2 {Z : Type} (f : A_Z16_L2 Z) (t : T_Z16_L2) : Z := f t.1 t.2.1
theorem loop_Z16_L2 {Q : A_Z16_L2 (((List Int × Unit) × (Unit)) → Prop)} (I : A_Z16_L2 Prop) (μ : A_Z16_L2 Nat)
    (step : ∀ a0 a1, I a0 a1 → ∀ again : (Nat → Nat) → T_Z16_L2 → R_Z16, Dep 2 again → (∀ y0 y1, I y0 y1 → μ y0 y1 < μ a0 a1 → Tot (fun σ => again σ (y0, y1, ())) (Q y0 y1)) →
      Tot (fun σ => B_Z16_L2b (σ 0) (again σ) a0 a1) (Q a0 a1)) :
    ∀ a0 a1, I a0 a1 → Tot (fun σ => B_Z16_L2 (σ 0) (σ 0) (a0, a1, ())) (Q a0 a1) := fun a0 a1 => Tot.loop0 (L := fun k => B_Z16_L2 k) (B := fun k g => u_Z16_L2 (B_Z16_L2b k g)) (Q := u_Z16_L2 Q) (fun _ _ _ => rfl) (u_Z16_L2 I) (u_Z16_L2 μ)
    (fun t ht again hag h => step t.1 t.2.1 ht again hag fun y0 y1 => h (y0, y1, ())) (a0, a1, ())
abbrev R_Z21 : Type := Option ((List Int × Unit) × (Unit))
abbrev C_Z21 : Type := List Int → R_Z21
def B_Z21 (k : Nat) (s : List Int) : R_Z21 :=
  chk ((((len s) == (len s)) && cutb 0 (len s) s.length)) <|
  some (((sub s 0 (len s)), ()), ())
def F_Z21 : Nat → C_Z21
  | 0, _ => none
  | k + 1, s => B_Z21 k s
theorem tot_Z21 {s : _} {Q : _ → Prop} (h : Tot (fun σ => B_Z21 (σ 0) s) Q) : Tot (fun σ => F_Z21 (σ 0) s) Q :=
  Tot.call (F := fun k => F_Z21 k s) (B := fun k => B_Z21 k s) (fun k => rfl) h
abbrev R_Z53 : Type := Option ((List Int × Unit) × (Unit))
abbrev C_Z53 : Type := (List (Int × Int)) → R_Z53
abbrev T_Z53_L1 : Type := List Int × (List (Int × Int)) × Int × Int × Unit
def B_Z53_J0 (k : Nat) (c_Z70 : C_Z70) (c_Z22 : C_Z22) (c_Z16 : C_Z16) (c_Z21 : C_Z21) (again1 : T_Z53_L1 → R_Z53) (out : List Int) (t10 : List (Int × Int)) (t11 t12 : Int) : R_Z53 :=
  again1 (out, t10, t11, w64 (t12 + 1), ())
def B_Z53_L1b (k : Nat) (c_Z70 : C_Z70) (c_Z22 : C_Z22) (c_Z16 : C_Z16) (c_Z21 : C_Z21) (again1 : T_Z53_L1 → R_Z53) (out : List Int) (t10 : List (Int × Int)) (t11 t12 : Int) : R_Z53 :=
  bif decide (t12 < t11) then
    chk (inb t12 t10.length) <|
    bif (((rdx ((0 : Int), (0 : Int)) t10 t12).1) == 13) then
      chk (room out.length ([(rdx ((0 : Int), (0 : Int)) t10 t12).2]).length) <|
      jn (fun t => B_Z53_J0 k c_Z70 c_Z22 c_Z16 c_Z21 again1 t.1 t.2.1 t.2.2.1 t.2.2.2.1) ((out ++ [(rdx ((0 : Int), (0 : Int)) t10 t12).2]), t10, t11, t12, ())
    else
      jn (fun t => B_Z53_J0 k c_Z70 c_Z22 c_Z16 c_Z21 again1 t.1 t.2.1 t.2.2.1 t.2.2.2.1) (out, t10, t11, t12, ())
  else
    (c_Z22 out).bind fun r26 =>
    (c_Z16 r26.2.1).bind fun r28 =>
    (c_Z21 r28.1.1).bind fun r29 =>
    some ((r29.1.1, ()), ())
def B_Z53_L1 (k : Nat) (c_Z70 : C_Z70) (c_Z22 : C_Z22) (c_Z16 : C_Z16) (c_Z21 : C_Z21) (n : Nat) (t : T_Z53_L1) : R_Z53 :=
  lfix n (fun again t => B_Z53_L1b k c_Z70 c_Z22 c_Z16 c_Z21 again t.1 t.2.1 t.2.2.1 t.2.2.2.1) t
def B_Z53 (k : Nat) (c_Z70 : C_Z70) (c_Z22 : C_Z22) (c_Z16 : C_Z16) (c_Z21 : C_Z21) (ops : List (Int × Int)) : R_Z53 :=
  (c_Z70 ops).bind fun r7 =>
  bif (!r7.1.1) then
    some (([], ()), ())
  else
    B_Z53_L1 k c_Z70 c_Z22 c_Z16 c_Z21 k ([], ops, len ops, 0, ())
def F_Z53 : Nat → C_Z53
  | 0, _ => none
  | k + 1, ops => B_Z53 k (F_Z70 k) (F_Z22 k) (F_Z16 k) (F_Z21 k) ops
theorem tot_Z53 {ops : _} {Q : _ → Prop} (h : Tot (fun σ => B_Z53 (σ 0) (F_Z70 (σ 0)) (F_Z22 (σ 0)) (F_Z16 (σ 0)) (F_Z21 (σ 0)) ops) Q) : Tot (fun σ => F_Z53 (σ 0) ops) Q :=
  Tot.call (F := fun k => F_Z53 k ops) (B := fun k => B_Z53 k (F_Z70 k) (F_Z22 k) (F_Z16 k) (F_Z21 k) ops) (fun k => rfl) h
abbrev A_Z53_L1 (Z : Type) : Type := List Int → (List (Int × Int)) → Int → Int → Z
abbrev u_Z53_L1 {Z : Type} (f : A_Z53_L1 Z) (t : T_Z53_L1) : Z := f t.1 t.2.1 t.2.2.1 t.2.2.2.1
theorem loop_Z53_L1 {Q : A_Z53_L1 (((List Int × Unit) × (Unit)) → Prop)} (I : A_Z53_L1 Prop) (μ : A_Z53_L1 Nat)
    (step : ∀ a0 a1 a2 a3, I a0 a1 a2 a3 → ∀ again : (Nat → Nat) → T_Z53_L1 → R_Z53, Dep 2 again → (∀ y0 y1 y2 y3, I y0 y1 y2 y3 → μ y0 y1 y2 y3 < μ a0 a1 a2 a3 → Tot (fun σ => again σ (y0, y1, y2, y3, ())) (Q y0 y1 y2 y3)) →
      Tot (fun σ => B_Z53_L1b (σ 0) (F_Z70 (σ 0)) (F_Z22 (σ 0)) (F_Z16 (σ 0)) (F_Z21 (σ 0)) (again σ) a0 a1 a2 a3) (Q a0 a1 a2 a3)) :
    ∀ a0 a1 a2 a3, I a0 a1 a2 a3 → Tot (fun σ => B_Z53_L1 (σ 0) (F_Z70 (σ 0)) (F_Z22 (σ 0)) (F_Z16 (σ 0)) (F_Z21 (σ 0)) (σ 0) (a0, a1, a2, a3, ())) (Q a0 a1 a2 a3) := fun a0 a1 a2 a3 => Tot.loop0 (L := fun k => B_Z53_L1 k (F_Z70 k) (F_Z22 k) (F_Z16 k) (F_Z21 k)) (B := fun k g => u_Z53_L1 (B_Z53_L1b k (F_Z70 k) (F_Z22 k) (F_Z16 k) (F_Z21 k) g)) (Q := u_Z53_L1 Q) (fun _ _ _ => rfl) (u_Z53_L1 I) (u_Z53_L1 μ)
    (fun t ht again hag h => step t.1 t.2.1 t.2.2.1 t.2.2.2.1 ht again hag fun y0 y1 y2 y3 => h (y0, y1, y2, y3, ())) (a0, a1, a2, a3, ())
abbrev R_l_isIn : Type := Option ((Bool × Unit) × (Unit))
abbrev C_l_isIn : Type := List Int → Int → R_l_isIn
abbrev T_l_isIn_L0 : Type := List Int × Int × Int × Unit
def B_l_isIn_L0b (k : Nat) (again0 : T_l_isIn_L0 → R_l_isIn) (list : List Int) (n1 i : Int) : R_l_isIn :=
  bif decide (i < (len list)) then
    chk (inb i list.length) <|
    bif ((rdx (0 : Int) list i) == n1) then
      some ((true, ()), ())
    else
      again0 (list, n1, w64 (i + 1), ())
  else
    some ((false, ()), ())
def B_l_isIn_L0 (k : Nat) (n : Nat) (t : T_l_isIn_L0) : R_l_isIn :=
  lfix n (fun again t => B_l_isIn_L0b k again t.1 t.2.1 t.2.2.1) t
def B_l_isIn (k : Nat) (list : List Int) (n1 : Int) : R_l_isIn :=
  B_l_isIn_L0 k k (list, n1, 0, ())
def F_l_isIn : Nat → C_l_isIn
  | 0, _, _ => none
  | k + 1, list, n1 => B_l_isIn k list n1
theorem tot_l_isIn {list n1 : _} {Q : _ → Prop} (h : Tot (fun σ => B_l_isIn (σ 0) list n1) Q) : Tot (fun σ => F_l_isIn (σ 0) list n1) Q :=
  Tot.call (F := fun k => F_l_isIn k list n1) (B := fun k => B_l_isIn k list n1) (fun k => rfl) h
abbrev A_l_isIn_L0 (Z : Type) : Type := List Int → Int → Int → Z
abbrev u_l_isIn_L0 {Z : Type} (f : A_l_isIn_L0 Z) (t : T_l_isIn_L0) : Z := f t.1 t.2.1 t.2.2.1
theorem loop_l_isIn_L0 {Q : A_l_isIn_L0 (((Bool × Unit) × (Unit)) → Prop)} (I : A_l_isIn_L0 Prop) (μ : A_l_isIn_L0 Nat)
    (step : ∀ a0 a1 a2, I a0 a1 a2 → ∀ again : (Nat → Nat) → T_l_isIn_L0 → R_l_isIn, Dep 2 again → (∀ y0 y1 y2, I y0 y1 y2 → μ y0 y1 y2 < μ a0 a1 a2 → Tot (fun σ => again σ (y0, y1, y2, ())) (Q y0 y1 y2)) →
      Tot (fun σ => B_l_isIn_L0b (σ 0) (again σ) a0 a1 a2) (Q a0 a1 a2)) :
    ∀ a0 a1 a2, I a0 a1 a2 → Tot (fun σ => B_l_isIn_L0 (σ 0) (σ 0) (a0, a1, a2, ())) (Q a0 a1 a2) := fun a0 a1 a2 => Tot.loop0 (L := fun k => B_l_isIn_L0 k) (B := fun k g => u_l_isIn_L0 (B_l_isIn_L0b k g)) (Q := u_l_isIn_L0 Q) (fun _ _ _ => rfl) (u_l_isIn_L0 I) (u_l_isIn_L0 μ)
    (fun t ht again hag h => step t.1 t.2.1 t.2.2.1 ht again hag fun y0 y1 y2 => h (y0, y1, y2, ())) (a0, a1, a2, ())
abbrev R_Z27 : Type := Option ((Unit) × (Unit))
abbrev C_Z27 : Type := (List (Int × Int × List Int)) → List Int → List Int → Bool → R_Z27
def B_Z27 (k : Nat) (t0_0 : List (Int × Int × List Int)) (t0_1 t0_2 : List Int) (t0_3 : Bool) : R_Z27 :=
  some ((), ())
def F_Z27 : Nat → C_Z27
  | 0, _, _, _, _ => none
  | k + 1, t0_0, t0_1, t0_2, t0_3 => B_Z27 k t0_0 t0_1 t0_2 t0_3
theorem tot_Z27 {t0_0 t0_1 t0_2 t0_3 : _} {Q : _ → Prop} (h : Tot (fun σ => B_Z27 (σ 0) t0_0 t0_1 t0_2 t0_3) Q) : Tot (fun σ => F_Z27 (σ 0) t0_0 t0_1 t0_2 t0_3) Q :=
  Tot.call (F := fun k => F_Z27 k t0_0 t0_1 t0_2 t0_3) (B := fun k => B_Z27 k t0_0 t0_1 t0_2 t0_3) (fun k => rfl) h
abbrev R_Z10 : Type := Option ((((List (Int × Int × List Int)) × List Int × List Int × Bool × Unit) × Int × Unit) × (Unit))
abbrev C_Z10 : Type := (List (Int × Int)) → R_Z10
abbrev T_Z10_L0 : Type := (List (Int × Int)) × Unit × (Unit × Unit × Unit × Bool × Unit) × ((List (Int × Int × List Int)) × List Int × List Int × Bool × Unit) × (List (Int × Int)) × Int × Int × Unit
def B_Z10_L0b (k : Nat) (c_Z46 : C_Z46) (c_Z29 : C_Z29) (c_Z36 : C_Z36) (c_Z27 : C_Z27) (again0 : T_Z10_L0 → R_Z10) (ops : List (Int × Int)) (t4_Done : Bool) (m_Nodes : List (Int × Int × List Int)) (m_Stack m_Memo : List Int) (m_Done : Bool) (t10 : List (Int × Int)) (t11 t12 : Int) : R_Z10 :=
  bif decide (t12 < t11) then
    chk (inb t12 t10.length) <|
    (c_Z29 m_Nodes m_Stack m_Memo m_Done ((rdx ((0 : Int), (0 : Int)) t10 t12).1) ((rdx ((0 : Int), (0 : Int)) t10 t12).2)).bind fun r18 =>
    bif (!r18.1.1) then
      (r18.2.1.1).bind fun p25 =>
      (c_Z36 p25 r18.2.1.2.1 r18.2.1.2.2.1 r18.2.1.2.2.2.1).bind fun r21 =>
      some (((r21.1.1.1, r21.1.1.2.1, r21.1.1.2.2.1, r21.1.1.2.2.2.1, ()), t12, ()), ())
    else
      (r18.2.1.1).bind fun p26 =>
      (c_Z27 p26 r18.2.1.2.1 r18.2.1.2.2.1 r18.2.1.2.2.2.1).bind fun r25 =>
      (r18.2.1.1).bind fun p27 =>
      again0 (ops, (), ((), (), (), t4_Done, ()), (p27, r18.2.1.2.1, r18.2.1.2.2.1, r18.2.1.2.2.2.1, ()), t10, t11, w64 (t12 + 1), ())
  else
    (c_Z36 m_Nodes m_Stack m_Memo m_Done).bind fun r28 =>
    some (((r28.1.1.1, r28.1.1.2.1, r28.1.1.2.2.1, r28.1.1.2.2.2.1, ()), len ops, ()), ())
def B_Z10_L0 (k : Nat) (c_Z46 : C_Z46) (c_Z29 : C_Z29) (c_Z36 : C_Z36) (c_Z27 : C_Z27) (n : Nat) (t : T_Z10_L0) : R_Z10 :=
  lfix n (fun again t => B_Z10_L0b k c_Z46 c_Z29 c_Z36 c_Z27 again t.1 t.2.2.1.2.2.2.1 t.2.2.2.1.1 t.2.2.2.1.2.1 t.2.2.2.1.2.2.1 t.2.2.2.1.2.2.2.1 t.2.2.2.2.1 t.2.2.2.2.2.1 t.2.2.2.2.2.2.1) t
def B_Z10 (k : Nat) (c_Z46 : C_Z46) (c_Z29 : C_Z29) (c_Z36 : C_Z36) (c_Z27 : C_Z27) (ops : List (Int × Int)) : R_Z10 :=
  (c_Z46 0).bind fun r9 =>
  B_Z10_L0 k c_Z46 c_Z29 c_Z36 c_Z27 k (ops, (), ((), (), (), false, ()), (r9.1.1.1, [], r9.1.1.2.2.1, r9.1.1.2.2.2.1, ()), ops, len ops, 0, ())
def F_Z10 : Nat → C_Z10
  | 0, _ => none
  | k + 1, ops => B_Z10 k (F_Z46 k) (F_Z29 k) (F_Z36 k) (F_Z27 k) ops
theorem tot_Z10 {ops : _} {Q : _ → Prop} (h : Tot (fun σ => B_Z10 (σ 0) (F_Z46 (σ 0)) (F_Z29 (σ 0)) (F_Z36 (σ 0)) (F_Z27 (σ 0)) ops) Q) : Tot (fun σ => F_Z10 (σ 0) ops) Q :=
  Tot.call (F := fun k => F_Z10 k ops) (B := fun k => B_Z10 k (F_Z46 k) (F_Z29 k) (F_Z36 k) (F_Z27 k) ops) (fun k => rfl) h
abbrev A_Z10_L0 (Z : Type) : Type := (List (Int × Int)) → Bool → (List (Int × Int × List Int)) → List Int → List Int → Bool → (List (Int × Int)) → Int → Int → Z
abbrev u_Z10_L0 {Z : Type} (f : A_Z10_L0 Z) (t : T_Z10_L0) : Z := f t.1 t.2.2.1.2.2.2.1 t.2.2.2.1.1 t.2.2.2.1.2.1 t.2.2.2.1.2.2.1 t.2.2.2.1.2.2.2.1 t.2.2.2.2.1 t.2.2.2.2.2.1 t.2.2.2.2.2.2.1
theorem loop_Z10_L0 {Q : A_Z10_L0 (((((List (Int × Int × List Int)) × List Int × List Int × Bool × Unit) × Int × Unit) × (Unit)) → Prop)} (I : A_Z10_L0 Prop) (μ : A_Z10_L0 Nat)
    (step : ∀ a0 a1 a2 a3 a4 a5 a6 a7 a8, I a0 a1 a2 a3 a4 a5 a6 a7 a8 → ∀ again : (Nat → Nat) → T_Z10_L0 → R_Z10, Dep 2 again → (∀ y0 y1 y2 y3 y4 y5 y6 y7 y8, I y0 y1 y2 y3 y4 y5 y6 y7 y8 → μ y0 y1 y2 y3 y4 y5 y6 y7 y8 < μ a0 a1 a2 a3 a4 a5 a6 a7 a8 → Tot (fun σ => again σ (y0, (), ((), (), (), y1, ()), (y2, y3, y4, y5, ()), y6, y7, y8, ())) (Q y0 y1 y2 y3 y4 y5 y6 y7 y8)) →
      Tot (fun σ => B_Z10_L0b (σ 0) (F_Z46 (σ 0)) (F_Z29 (σ 0)) (F_Z36 (σ 0)) (F_Z27 (σ 0)) (again σ) a0 a1 a2 a3 a4 a5 a6 a7 a8) (Q a0 a1 a2 a3 a4 a5 a6 a7 a8)) :
    ∀ a0 a1 a2 a3 a4 a5 a6 a7 a8, I a0 a1 a2 a3 a4 a5 a6 a7 a8 → Tot (fun σ => B_Z10_L0 (σ 0) (F_Z46 (σ 0)) (F_Z29 (σ 0)) (F_Z36 (σ 0)) (F_Z27 (σ 0)) (σ 0) (a0, (), ((), (), (), a1, ()), (a2, a3, a4, a5, ()), a6, a7, a8, ())) (Q a0 a1 a2 a3 a4 a5 a6 a7 a8) := fun a0 a1 a2 a3 a4 a5 a6 a7 a8 => Tot.loop0 (L := fun k => B_Z10_L0 k (F_Z46 k) (F_Z29 k) (F_Z36 k) (F_Z27 k)) (B := fun k g => u_Z10_L0 (B_Z10_L0b k (F_Z46 k) (F_Z29 k) (F_Z36 k) (F_Z27 k) g)) (Q := u_Z10_L0 Q) (fun _ _ _ => rfl) (u_Z10_L0 I) (u_Z10_L0 μ)
    (fun t ht again hag h => step t.1 t.2.2.1.2.2.2.1 t.2.2.2.1.1 t.2.2.2.1.2.1 t.2.2.2.1.2.2.1 t.2.2.2.1.2.2.2.1 t.2.2.2.2.1 t.2.2.2.2.2.1 t.2.2.2.2.2.2.1 ht again hag fun y0 y1 y2 y3 y4 y5 y6 y7 y8 => h (y0, (), ((), (), (), y1, ()), (y2, y3, y4, y5, ()), y6, y7, y8, ())) (a0, (), ((), (), (), a1, ()), (a2, a3, a4, a5, ()), a6, a7, a8, ())
abbrev R_Z43 : Type := Option ((((List (Int × Int × List Int)) × Int × Unit) × Bool × Unit) × (Unit))
abbrev C_Z43 : Type := (List (Int × Int)) → R_Z43
def B_Z43_J0 (k : Nat) (c_Z70 : C_Z70) (c_Z10 : C_Z10) (t2_Root : Int) (m_Nodes : List (Int × Int × List Int)) (m_Stack m_Memo : List Int) (m_Done t23 : Bool) : R_Z43 :=
  bif t23 then
    some ((([], 0, ()), false, ()), ())
  else
    chk (inb 0 m_Stack.length) <|
    chk (decide ((0 : Int).toNat < m_Stack.length)) <|
    some (((m_Nodes, (m_Stack.getD ((0 : Int).toNat) (0 : Int)), ()), true, ()), ())
def B_Z43 (k : Nat) (c_Z70 : C_Z70) (c_Z10 : C_Z10) (ops : List (Int × Int)) : R_Z43 :=
  (c_Z70 ops).bind fun r7 =>
  bif (!r7.1.1) then
    some ((([], 0, ()), false, ()), ())
  else
    (c_Z10 ops).bind fun r12 =>
    bif decide (r12.1.2.1 < (len ops)) then
      jn (fun t => B_Z43_J0 k c_Z70 c_Z10 t.1.2.1 t.2.1.1 t.2.1.2.1 t.2.1.2.2.1 t.2.1.2.2.2.1 t.2.2.1) (((), 0, ()), (r12.1.1.1, r12.1.1.2.1, r12.1.1.2.2.1, r12.1.1.2.2.2.1, ()), true, ())
    else
      jn (fun t => B_Z43_J0 k c_Z70 c_Z10 t.1.2.1 t.2.1.1 t.2.1.2.1 t.2.1.2.2.1 t.2.1.2.2.2.1 t.2.2.1) (((), 0, ()), (r12.1.1.1, r12.1.1.2.1, r12.1.1.2.2.1, r12.1.1.2.2.2.1, ()), (!r12.1.1.2.2.2.1), ())
def F_Z43 : Nat → C_Z43
  | 0, _ => none
  | k + 1, ops => B_Z43 k (F_Z70 k) (F_Z10 k) ops
theorem tot_Z43 {ops : _} {Q : _ → Prop} (h : Tot (fun σ => B_Z43 (σ 0) (F_Z70 (σ 0)) (F_Z10 (σ 0)) ops) Q) : Tot (fun σ => F_Z43 (σ 0) ops) Q :=
  Tot.call (F := fun k => F_Z43 k ops) (B := fun k => B_Z43 k (F_Z70 k) (F_Z10 k) ops) (fun k => rfl) h
abbrev R_Z75 : Type := Option ((Bool × Unit) × (Unit))
abbrev C_Z75 : Type := (List (Int × Int)) → R_Z75
def B_Z75 (k : Nat) (c_Z43 : C_Z43) (ops : List (Int × Int)) : R_Z75 :=
  (c_Z43 ops).bind fun r7 =>
  some ((r7.1.2.1, ()), ())
def F_Z75 : Nat → C_Z75
  | 0, _ => none
  | k + 1, ops => B_Z75 k (F_Z43 k) ops
theorem tot_Z75 {ops : _} {Q : _ → Prop} (h : Tot (fun σ => B_Z75 (σ 0) (F_Z43 (σ 0)) ops) Q) : Tot (fun σ => F_Z75 (σ 0) ops) Q :=
  Tot.call (F := fun k => F_Z75 k ops) (B := fun k => B_Z75 k (F_Z43 k) ops) (fun k => rfl) h
abbrev R_Z48 : Type := Option ((Unit) × (Unit))
abbrev C_Z48 : Type := (List (Int × Int × List Int)) → List Int → List Int → Bool → R_Z48
def B_Z48 (k : Nat) (t0_0 : List (Int × Int × List Int)) (t0_1 t0_2 : List Int) (t0_3 : Bool) : R_Z48 :=
  some ((), ())
def F_Z48 : Nat → C_Z48
  | 0, _, _, _, _ => none
  | k + 1, t0_0, t0_1, t0_2, t0_3 => B_Z48 k t0_0 t0_1 t0_2 t0_3
theorem tot_Z48 {t0_0 t0_1 t0_2 t0_3 : _} {Q : _ → Prop} (h : Tot (fun σ => B_Z48 (σ 0) t0_0 t0_1 t0_2 t0_3) Q) : Tot (fun σ => F_Z48 (σ 0) t0_0 t0_1 t0_2 t0_3) Q :=
  Tot.call (F := fun k => F_Z48 k t0_0 t0_1 t0_2 t0_3) (B := fun k => B_Z48 k t0_0 t0_1 t0_2 t0_3) (fun k => rfl) h
abbrev R_Z15 : Type := Option ((((List (Int × Int × List Int)) × List Int × List Int × Bool × Unit) × Int × Unit) × (Unit))
abbrev C_Z15 : Type := (List (Int × Int)) → R_Z15
abbrev T_Z15_L0 : Type := (List (Int × Int)) × Unit × (Unit × Unit × Unit × Bool × Unit) × ((List (Int × Int × List Int)) × List Int × List Int × Bool × Unit) × (List (Int × Int)) × Int × Int × Unit
def B_Z15_L0b (k : Nat) (c_Z46 : C_Z46) (c_Z29 : C_Z29) (c_Z36 : C_Z36) (c_Z48 : C_Z48) (again0 : T_Z15_L0 → R_Z15) (ops : List (Int × Int)) (t4_Done : Bool) (m_Nodes : List (Int × Int × List Int)) (m_Stack m_Memo : List Int) (m_Done : Bool) (t10 : List (Int × Int)) (t11 t12 : Int) : R_Z15 :=
  bif decide (t12 < t11) then
    chk (inb t12 t10.length) <|
    (c_Z29 m_Nodes m_Stack m_Memo m_Done ((rdx ((0 : Int), (0 : Int)) t10 t12).1) ((rdx ((0 : Int), (0 : Int)) t10 t12).2)).bind fun r18 =>
    bif (!r18.1.1) then
      (r18.2.1.1).bind fun p25 =>
      (c_Z36 p25 r18.2.1.2.1 r18.2.1.2.2.1 r18.2.1.2.2.2.1).bind fun r21 =>
      some (((r21.1.1.1, r21.1.1.2.1, r21.1.1.2.2.1, r21.1.1.2.2.2.1, ()), t12, ()), ())
    else
      (r18.2.1.1).bind fun p26 =>
      (c_Z48 p26 r18.2.1.2.1 r18.2.1.2.2.1 r18.2.1.2.2.2.1).bind fun r25 =>
      (r18.2.1.1).bind fun p27 =>
      again0 (ops, (), ((), (), (), t4_Done, ()), (p27, r18.2.1.2.1, r18.2.1.2.2.1, r18.2.1.2.2.2.1, ()), t10, t11, w64 (t12 + 1), ())
  else
    (c_Z36 m_Nodes m_Stack m_Memo m_Done).bind fun r28 =>
    some (((r28.1.1.1, r28.1.1.2.1, r28.1.1.2.2.1, r28.1.1.2.2.2.1, ()), len ops, ()), ())
def B_Z15_L0 (k : Nat) (c_Z46 : C_Z46) (c_Z29 : C_Z29) (c_Z36 : C_Z36) (c_Z48 : C_Z48) (n : Nat) (t : T_Z15_L0) : R_Z15 :=
  lfix n (fun again t => B_Z15_L0b k c_Z46 c_Z29 c_Z36 c_Z48 again t.1 t.2.2.1.2.2.2.1 t.2.2.2.1.1 t.2.2.2.1.2.1 t.2.2.2.1.2.2.1 t.2.2.2.1.2.2.2.1 t.2.2.2.2.1 t.2.2.2.2.2.1 t.2.2.2.2.2.2.1) t
def B_Z15 (k : Nat) (c_Z46 : C_Z46) (c_Z29 : C_Z29) (c_Z36 : C_Z36) (c_Z48 : C_Z48) (ops : List (Int × Int)) : R_Z15 :=
  (c_Z46 0).bind fun r9 =>
  B_Z15_L0 k c_Z46 c_Z29 c_Z36 c_Z48 k (ops, (), ((), (), (), false, ()), (r9.1.1.1, [], r9.1.1.2.2.1, r9.1.1.2.2.2.1, ()), ops, len ops, 0, ())
def F_Z15 : Nat → C_Z15
  | 0, _ => none
  | k + 1, ops => B_Z15 k (F_Z46 k) (F_Z29 k) (F_Z36 k) (F_Z48 k) ops
theorem tot_Z15 {ops : _} {Q : _ → Prop} (h : Tot (fun σ => B_Z15 (σ 0) (F_Z46 (σ 0)) (F_Z29 (σ 0)) (F_Z36 (σ 0)) (F_Z48 (σ 0)) ops) Q) : Tot (fun σ => F_Z15 (σ 0) ops) Q :=
  Tot.call (F := fun k => F_Z15 k ops) (B := fun k => B_Z15 k (F_Z46 k) (F_Z29 k) (F_Z36 k) (F_Z48 k) ops) (fun k => rfl) h
abbrev A_Z15_L0 (Z : Type) : Type := (List (Int × Int)) → Bool → (List (Int × Int × List Int)) → List Int → List Int → Bool → (List (Int × Int)) → Int → Int → Z
abbrev u_Z15_L0 {Z : Type} (f : A_Z15_L0 Z) (t : T_Z15_L0) : Z := f t.1 t.2.2.1.2.2.2.1 t.2.2.2.1.1 t.2.2.2.1.2.1 t.2.2.2.1.2.2.1 t.2.2.2.1.2.2.2.1 t.2.2.2.2.1 t.2.2.2.2.2.1 t.2.2.2.2.2.2.1
theorem loop_Z15_L0 {Q : A_Z15_L0 (((((List (Int × Int × List Int)) × List Int × List Int × Bool × Unit) × Int × Unit) × (Unit)) → Prop)} (I : A_Z15_L0 Prop) (μ : A_Z15_L0 Nat)
    (step : ∀ a0 a1 a2 a3 a4 a5 a6 a7 a8, I a0 a1 a2 a3 a4 a5 a6 a7 a8 → ∀ again : (Nat → Nat) → T_Z15_L0 → R_Z15, Dep 2 again → (∀ y0 y1 y2 y3 y4 y5 y6 y7 y8, I y0 y1 y2 y3 y4 y5 y6 y7 y8 → μ y0 y1 y2 y3 y4 y5 y6 y7 y8 < μ a0 a1 a2 a3 a4 a5 a6 a7 a8 → Tot (fun σ => again σ (y0, (), ((), (), (), y1, ()), (y2, y3, y4, y5, ()), y6, y7, y8, ())) (Q y0 y1 y2 y3 y4 y5 y6 y7 y8)) →
      Tot (fun σ => B_Z15_L0b (σ 0) (F_Z46 (σ 0)) (F_Z29 (σ 0)) (F_Z36 (σ 0)) (F_Z48 (σ 0)) (again σ) a0 a1 a2 a3 a4 a5 a6 a7 a8) (Q a0 a1 a2 a3 a4 a5 a6 a7 a8)) :
    ∀ a0 a1 a2 a3 a4 a5 a6 a7 a8, I a0 a1 a2 a3 a4 a5 a6 a7 a8 → Tot (fun σ => B_Z15_L0 (σ 0) (F_Z46 (σ 0)) (F_Z29 (σ 0)) (F_Z36 (σ 0)) (F_Z48 (σ 0)) (σ 0) (a0, (), ((), (), (), a1, ()), (a2, a3, a4, a5, ()), a6, a7, a8, ())) (Q a0 a1 a2 a3 a4 a5 a6 a7 a8) := fun a0 a1 a2 a3 a4 a5 a6 a7 a8 => Tot.loop0 (L := fun k => B_Z15_L0 k (F_Z46 k) (F_Z29 k) (F_Z36 k) (F_Z48 k)) (B := fun k g => u_Z15_L0 (B_Z15_L0b k (F_Z46 k) (F_Z29 k) (F_Z36 k) (F_Z48 k) g)) (Q := u_Z15_L0 Q) (fun _ _ _ => rfl) (u_Z15_L0 I) (u_Z15_L0 μ)
    (fun t ht again hag h => step t.1 t.2.2.1.2.2.2.1 t.2.2.2.1.1 t.2.2.2.1.2.1 t.2.2.2.1.2.2.1 t.2.2.2.1.2.2.2.1 t.2.2.2.2.1 t.2.2.2.2.2.1 t.2.2.2.2.2.2.1 ht again hag fun y0 y1 y2 y3 y4 y5 y6 y7 y8 => h (y0, (), ((), (), (), y1, ()), (y2, y3, y4, y5, ()), y6, y7, y8, ())) (a0, (), ((), (), (), a1, ()), (a2, a3, a4, a5, ()), a6, a7, a8, ())
abbrev R_Z68 : Type := Option (((List Int × List Bool × List Int × List Int × Bool × Unit) × Int × Unit) × (Unit))
abbrev C_Z68 : Type := (List (Int × Int)) → R_Z68
abbrev T_Z68_L2 : Type := (Unit × Unit × Unit × Unit × Bool × Unit) × Int × (List Int × List Bool × List Int × List Int × Bool × Unit) × (List (Int × Int × List Int)) × Int × Int × Unit
def B_Z68_J1 (k : Nat) (c_Z70 : C_Z70) (c_Z15 : C_Z15) (again2 : T_Z68_L2 → R_Z68) (t2_Done : Bool) (n5 : Int) (out_Kinds : List Int) (out_Full : List Bool) (out_Stack out_Memo : List Int) (out_Done : Bool) (t26 : List (Int × Int × List Int)) (t27 t28 : Int) : R_Z68 :=
  again2 (((), (), (), (), t2_Done, ()), n5, (out_Kinds, out_Full, out_Stack, out_Memo, out_Done, ()), t26, t27, w64 (t28 + 1), ())
def B_Z68_L2b (k : Nat) (c_Z70 : C_Z70) (c_Z15 : C_Z15) (again2 : T_Z68_L2 → R_Z68) (t2_Done : Bool) (n5 : Int) (out_Kinds : List Int) (out_Full : List Bool) (out_Stack out_Memo : List Int) (out_Done : Bool) (t26 : List (Int × Int × List Int)) (t27 t28 : Int) : R_Z68 :=
  bif decide (t28 < t27) then
    chk (inb t28 t26.length) <|
    chk (room out_Kinds.length ([(rdx ((0 : Int), ((0 : Int), ([] : List Int))) t26 t28).1]).length) <|
    bif (((rdx ((0 : Int), ((0 : Int), ([] : List Int))) t26 t28).1) == 5) then
      chk (room out_Full.length ([decide ((len (((rdx ((0 : Int), ((0 : Int), ([] : List Int))) t26 t28).2).2)) > 0)]).length) <|
      jn (fun t => B_Z68_J1 k c_Z70 c_Z15 again2 t.1.2.2.2.2.1 t.2.1 t.2.2.1.1 t.2.2.1.2.1 t.2.2.1.2.2.1 t.2.2.1.2.2.2.1 t.2.2.1.2.2.2.2.1 t.2.2.2.1 t.2.2.2.2.1 t.2.2.2.2.2.1) (((), (), (), (), t2_Done, ()), n5, ((out_Kinds ++ [(rdx ((0 : Int), ((0 : Int), ([] : List Int))) t26 t28).1]), (out_Full ++ [decide ((len (((rdx ((0 : Int), ((0 : Int), ([] : List Int))) t26 t28).2).2)) > 0)]), out_Stack, out_Memo, out_Done, ()), t26, t27, t28, ())
    else
      chk (room out_Full.length ([false]).length) <|
      jn (fun t => B_Z68_J1 k c_Z70 c_Z15 again2 t.1.2.2.2.2.1 t.2.1 t.2.2.1.1 t.2.2.1.2.1 t.2.2.1.2.2.1 t.2.2.1.2.2.2.1 t.2.2.1.2.2.2.2.1 t.2.2.2.1 t.2.2.2.2.1 t.2.2.2.2.2.1) (((), (), (), (), t2_Done, ()), n5, ((out_Kinds ++ [(rdx ((0 : Int), ((0 : Int), ([] : List Int))) t26 t28).1]), (out_Full ++ [false]), out_Stack, out_Memo, out_Done, ()), t26, t27, t28, ())
  else
    some (((out_Kinds, out_Full, out_Stack, out_Memo, out_Done, ()), n5, ()), ())
def B_Z68_L2 (k : Nat) (c_Z70 : C_Z70) (c_Z15 : C_Z15) (n : Nat) (t : T_Z68_L2) : R_Z68 :=
  lfix n (fun again t => B_Z68_L2b k c_Z70 c_Z15 again t.1.2.2.2.2.1 t.2.1 t.2.2.1.1 t.2.2.1.2.1 t.2.2.1.2.2.1 t.2.2.1.2.2.2.1 t.2.2.1.2.2.2.2.1 t.2.2.2.1 t.2.2.2.2.1 t.2.2.2.2.2.1) t
def B_Z68_J0 (k : Nat) (c_Z70 : C_Z70) (c_Z15 : C_Z15) (t2_Done : Bool) (m_Nodes : List (Int × Int × List Int)) (m_Stack m_Memo : List Int) (m_Done : Bool) (n5 : Int) : R_Z68 :=
  B_Z68_L2 k c_Z70 c_Z15 k (((), (), (), (), t2_Done, ()), n5, ([], [], m_Stack, m_Memo, m_Done, ()), m_Nodes, len m_Nodes, 0, ())
def B_Z68 (k : Nat) (c_Z70 : C_Z70) (c_Z15 : C_Z15) (ops : List (Int × Int)) : R_Z68 :=
  (c_Z70 ops).bind fun r10 =>
  bif (!r10.1.1) then
    some ((([], [], [], [], false, ()), (-1), ()), ())
  else
    (c_Z15 ops).bind fun r15 =>
    jn (fun t => B_Z68_J0 k c_Z70 c_Z15 t.1.2.2.2.2.1 t.2.1.1 t.2.1.2.1 t.2.1.2.2.1 t.2.1.2.2.2.1 t.2.2.1) (((), (), (), (), false, ()), (r15.1.1.1, r15.1.1.2.1, r15.1.1.2.2.1, r15.1.1.2.2.2.1, ()), r15.1.2.1, ())
def F_Z68 : Nat → C_Z68
  | 0, _ => none
  | k + 1, ops => B_Z68 k (F_Z70 k) (F_Z15 k) ops
theorem tot_Z68 {ops : _} {Q : _ → Prop} (h : Tot (fun σ => B_Z68 (σ 0) (F_Z70 (σ 0)) (F_Z15 (σ 0)) ops) Q) : Tot (fun σ => F_Z68 (σ 0) ops) Q :=
  Tot.call (F := fun k => F_Z68 k ops) (B := fun k => B_Z68 k (F_Z70 k) (F_Z15 k) ops) (fun k => rfl) h
abbrev A_Z68_L2 (Z : Type) : Type := Bool → Int → List Int → List Bool → List Int → List Int → Bool → (List (Int × Int × List Int)) → Int → Int → Z
abbrev u_Z68_L2 {Z : Type} (f : A_Z68_L2 Z) (t : T_Z68_L2) : Z := f t.1.2.2.2.2.1 t.2.1 t.2.2.1.1 t.2.2.1.2.1 t.2.2.1.2.2.1 t.2.2.1.2.2.2.1 t.2.2.1.2.2.2.2.1 t.2.2.2.1 t.2.2.2.2.1 t.2.2.2.2.2.1
theorem loop_Z68_L2 {Q : A_Z68_L2 ((((List Int × List Bool × List Int × List Int × Bool × Unit) × Int × Unit) × (Unit)) → Prop)} (I : A_Z68_L2 Prop) (μ : A_Z68_L2 Nat)
    (step : ∀ a0 a1 a2 a3 a4 a5 a6 a7 a8 a9, I a0 a1 a2 a3 a4 a5 a6 a7 a8 a9 → ∀ again : (Nat → Nat) → T_Z68_L2 → R_Z68, Dep 2 again → (∀ y0 y1 y2 y3 y4 y5 y6 y7 y8 y9, I y0 y1 y2 y3 y4 y5 y6 y7 y8 y9 → μ y0 y1 y2 y3 y4 y5 y6 y7 y8 y9 < μ a0 a1 a2 a3 a4 a5 a6 a7 a8 a9 → Tot (fun σ => again σ (((), (), (), (), y0, ()), y1, (y2, y3, y4, y5, y6, ()), y7, y8, y9, ())) (Q y0 y1 y2 y3 y4 y5 y6 y7 y8 y9)) →
      Tot (fun σ => B_Z68_L2b (σ 0) (F_Z70 (σ 0)) (F_Z15 (σ 0)) (again σ) a0 a1 a2 a3 a4 a5 a6 a7 a8 a9) (Q a0 a1 a2 a3 a4 a5 a6 a7 a8 a9)) :
    ∀ a0 a1 a2 a3 a4 a5 a6 a7 a8 a9, I a0 a1 a2 a3 a4 a5 a6 a7 a8 a9 → Tot (fun σ => B_Z68_L2 (σ 0) (F_Z70 (σ 0)) (F_Z15 (σ 0)) (σ 0) (((), (), (), (), a0, ()), a1, (a2, a3, a4, a5, a6, ()), a7, a8, a9, ())) (Q a0 a1 a2 a3 a4 a5 a6 a7 a8 a9) := fun a0 a1 a2 a3 a4 a5 a6 a7 a8 a9 => Tot.loop0 (L := fun k => B_Z68_L2 k (F_Z70 k) (F_Z15 k)) (B := fun k g => u_Z68_L2 (B_Z68_L2b k (F_Z70 k) (F_Z15 k) g)) (Q := u_Z68_L2 Q) (fun _ _ _ => rfl) (u_Z68_L2 I) (u_Z68_L2 μ)
    (fun t ht again hag h => step t.1.2.2.2.2.1 t.2.1 t.2.2.1.1 t.2.2.1.2.1 t.2.2.1.2.2.1 t.2.2.1.2.2.2.1 t.2.2.1.2.2.2.2.1 t.2.2.2.1 t.2.2.2.2.1 t.2.2.2.2.2.1 ht again hag fun y0 y1 y2 y3 y4 y5 y6 y7 y8 y9 => h (((), (), (), (), y0, ()), y1, (y2, y3, y4, y5, y6, ()), y7, y8, y9, ())) (((), (), (), (), a0, ()), a1, (a2, a3, a4, a5, a6, ()), a7, a8, a9, ())
abbrev R_Z73 : Type := Option ((Unit) × (Unit))
abbrev C_Z73 : Type := (List (Int × Int × List Int)) → List Int → List Int → Bool → R_Z73
def B_Z73 (k : Nat) (t0_0 : List (Int × Int × List Int)) (t0_1 t0_2 : List Int) (t0_3 : Bool) : R_Z73 :=
  some ((), ())
def F_Z73 : Nat → C_Z73
  | 0, _, _, _, _ => none
  | k + 1, t0_0, t0_1, t0_2, t0_3 => B_Z73 k t0_0 t0_1 t0_2 t0_3
theorem tot_Z73 {t0_0 t0_1 t0_2 t0_3 : _} {Q : _ → Prop} (h : Tot (fun σ => B_Z73 (σ 0) t0_0 t0_1 t0_2 t0_3) Q) : Tot (fun σ => F_Z73 (σ 0) t0_0 t0_1 t0_2 t0_3) Q :=
  Tot.call (F := fun k => F_Z73 k t0_0 t0_1 t0_2 t0_3) (B := fun k => B_Z73 k t0_0 t0_1 t0_2 t0_3) (fun k => rfl) h
abbrev R_Z18 : Type := Option ((((List (Int × Int × List Int)) × List Int × List Int × Bool × Unit) × Int × Unit) × (Unit))
abbrev C_Z18 : Type := (List (Int × Int)) → R_Z18
abbrev T_Z18_L0 : Type := (List (Int × Int)) × Unit × (Unit × Unit × Unit × Bool × Unit) × ((List (Int × Int × List Int)) × List Int × List Int × Bool × Unit) × (List (Int × Int)) × Int × Int × Unit
def B_Z18_L0b (k : Nat) (c_Z46 : C_Z46) (c_Z29 : C_Z29) (c_Z36 : C_Z36) (c_Z73 : C_Z73) (again0 : T_Z18_L0 → R_Z18) (ops : List (Int × Int)) (t4_Done : Bool) (m_Nodes : List (Int × Int × List Int)) (m_Stack m_Memo : List Int) (m_Done : Bool) (t10 : List (Int × Int)) (t11 t12 : Int) : R_Z18 :=
  bif decide (t12 < t11) then
    chk (inb t12 t10.length) <|
    (c_Z29 m_Nodes m_Stack m_Memo m_Done ((rdx ((0 : Int), (0 : Int)) t10 t12).1) ((rdx ((0 : Int), (0 : Int)) t10 t12).2)).bind fun r18 =>
    bif (!r18.1.1) then
      (r18.2.1.1).bind fun p25 =>
      (c_Z36 p25 r18.2.1.2.1 r18.2.1.2.2.1 r18.2.1.2.2.2.1).bind fun r21 =>
      some (((r21.1.1.1, r21.1.1.2.1, r21.1.1.2.2.1, r21.1.1.2.2.2.1, ()), t12, ()), ())
    else
      (r18.2.1.1).bind fun p26 =>
      (c_Z73 p26 r18.2.1.2.1 r18.2.1.2.2.1 r18.2.1.2.2.2.1).bind fun r25 =>
      (r18.2.1.1).bind fun p27 =>
      again0 (ops, (), ((), (), (), t4_Done, ()), (p27, r18.2.1.2.1, r18.2.1.2.2.1, r18.2.1.2.2.2.1, ()), t10, t11, w64 (t12 + 1), ())
  else
    (c_Z36 m_Nodes m_Stack m_Memo m_Done).bind fun r28 =>
    some (((r28.1.1.1, r28.1.1.2.1, r28.1.1.2.2.1, r28.1.1.2.2.2.1, ()), len ops, ()), ())
def B_Z18_L0 (k : Nat) (c_Z46 : C_Z46) (c_Z29 : C_Z29) (c_Z36 : C_Z36) (c_Z73 : C_Z73) (n : Nat) (t : T_Z18_L0) : R_Z18 :=
  lfix n (fun again t => B_Z18_L0b k c_Z46 c_Z29 c_Z36 c_Z73 again t.1 t.2.2.1.2.2.2.1 t.2.2.2.1.1 t.2.2.2.1.2.1 t.2.2.2.1.2.2.1 t.2.2.2.1.2.2.2.1 t.2.2.2.2.1 t.2.2.2.2.2.1 t.2.2.2.2.2.2.1) t
def B_Z18 (k : Nat) (c_Z46 : C_Z46) (c_Z29 : C_Z29) (c_Z36 : C_Z36) (c_Z73 : C_Z73) (ops : List (Int × Int)) : R_Z18 :=
  (c_Z46 0).bind fun r9 =>
  B_Z18_L0 k c_Z46 c_Z29 c_Z36 c_Z73 k (ops, (), ((), (), (), false, ()), (r9.1.1.1, [], r9.1.1.2.2.1, r9.1.1.2.2.2.1, ()), ops, len ops, 0, ())
def F_Z18 : Nat → C_Z18
  | 0, _ => none
  | k + 1, ops => B_Z18 k (F_Z46 k) (F_Z29 k) (F_Z36 k) (F_Z73 k) ops
theorem tot_Z18 {ops : _} {Q : _ → Prop} (h : Tot (fun σ => B_Z18 (σ 0) (F_Z46 (σ 0)) (F_Z29 (σ 0)) (F_Z36 (σ 0)) (F_Z73 (σ 0)) ops) Q) : Tot (fun σ => F_Z18 (σ 0) ops) Q :=
  Tot.call (F := fun k => F_Z18 k ops) (B := fun k => B_Z18 k (F_Z46 k) (F_Z29 k) (F_Z36 k) (F_Z73 k) ops) (fun k => rfl) h
abbrev A_Z18_L0 (Z : Type) : Type := (List (Int × Int)) → Bool → (List (Int × Int × List Int)) → List Int → List Int → Bool → (List (Int × Int)) → Int → Int → Z
abbrev u_Z18_L0 {Z : Type} (f : A_Z18_L0 Z) (t : T_Z18_L0) : Z := f t.1 t.2.2.1.2.2.2.1 t.2.2.2.1.1 t.2.2.2.1.2.1 t.2.2.2.1.2.2.1 t.2.2.2.1.2.2.2.1 t.2.2.2.2.1 t.2.2.2.2.2.1 t.2.2.2.2.2.2.1
theorem loop_Z18_L0 {Q : A_Z18_L0 (((((List (Int × Int × List Int)) × List Int × List Int × Bool × Unit) × Int × Unit) × (Unit)) → Prop)} (I : A_Z18_L0 Prop) (μ : A_Z18_L0 Nat)
    (step : ∀ a0 a1 a2 a3 a4 a5 a6 a7 a8, I a0 a1 a2 a3 a4 a5 a6 a7 a8 → ∀ again : (Nat → Nat) → T_Z18_L0 → R_Z18, Dep 2 again → (∀ y0 y1 y2 y3 y4 y5 y6 y7 y8, I y0 y1 y2 y3 y4 y5 y6 y7 y8 → μ y0 y1 y2 y3 y4 y5 y6 y7 y8 < μ a0 a1 a2 a3 a4 a5 a6 a7 a8 → Tot (fun σ => again σ (y0, (), ((), (), (), y1, ()), (y2, y3, y4, y5, ()), y6, y7, y8, ())) (Q y0 y1 y2 y3 y4 y5 y6 y7 y8)) →
      Tot (fun σ => B_Z18_L0b (σ 0) (F_Z46 (σ 0)) (F_Z29 (σ 0)) (F_Z36 (σ 0)) (F_Z73 (σ 0)) (again σ) a0 a1 a2 a3 a4 a5 a6 a7 a8) (Q a0 a1 a2 a3 a4 a5 a6 a7 a8)) :
    ∀ a0 a1 a2 a3 a4 a5 a6 a7 a8, I a0 a1 a2 a3 a4 a5 a6 a7 a8 → Tot (fun σ => B_Z18_L0 (σ 0) (F_Z46 (σ 0)) (F_Z29 (σ 0)) (F_Z36 (σ 0)) (F_Z73 (σ 0)) (σ 0) (a0, (), ((), (), (), a1, ()), (a2, a3, a4, a5, ()), a6, a7, a8, ())) (Q a0 a1 a2 a3 a4 a5 a6 a7 a8) := fun a0 a1 a2 a3 a4 a5 a6 a7 a8 => Tot.loop0 (L := fun k => B_Z18_L0 k (F_Z46 k) (F_Z29 k) (F_Z36 k) (F_Z73 k)) (B := fun k g => u_Z18_L0 (B_Z18_L0b k (F_Z46 k) (F_Z29 k) (F_Z36 k) (F_Z73 k) g)) (Q := u_Z18_L0 Q) (fun _ _ _ => rfl) (u_Z18_L0 I) (u_Z18_L0 μ)
    (fun t ht again hag h => step t.1 t.2.2.1.2.2.2.1 t.2.2.2.1.1 t.2.2.2.1.2.1 t.2.2.2.1.2.2.1 t.2.2.2.1.2.2.2.1 t.2.2.2.2.1 t.2.2.2.2.2.1 t.2.2.2.2.2.2.1 ht again hag fun y0 y1 y2 y3 y4 y5 y6 y7 y8 => h (y0, (), ((), (), (), y1, ()), (y2, y3, y4, y5, ()), y6, y7, y8, ())) (a0, (), ((), (), (), a1, ()), (a2, a3, a4, a5, ()), a6, a7, a8, ())
abbrev R_i_RunOps : Type := Option ((((List (Int × Int × List Int)) × List Int × List Int × Bool × Unit) × Int × Unit) × (Unit))
abbrev C_i_RunOps : Type := (List (Int × Int)) → R_i_RunOps
def B_i_RunOps (k : Nat) (c_Z70 : C_Z70) (c_Z18 : C_Z18) (ops : List (Int × Int)) : R_i_RunOps :=
  (c_Z70 ops).bind fun r7 =>
  bif (!r7.1.1) then
    some ((([], [], [], false, ()), (-1), ()), ())
  else
    (c_Z18 ops).bind fun r12 =>
    some (((r12.1.1.1, r12.1.1.2.1, r12.1.1.2.2.1, r12.1.1.2.2.2.1, ()), r12.1.2.1, ()), ())
def F_i_RunOps : Nat → C_i_RunOps
  | 0, _ => none
  | k + 1, ops => B_i_RunOps k (F_Z70 k) (F_Z18 k) ops
theorem tot_i_RunOps {ops : _} {Q : _ → Prop} (h : Tot (fun σ => B_i_RunOps (σ 0) (F_Z70 (σ 0)) (F_Z18 (σ 0)) ops) Q) : Tot (fun σ => F_i_RunOps (σ 0) ops) Q :=
  Tot.call (F := fun k => F_i_RunOps k ops) (B := fun k => B_i_RunOps k (F_Z70 k) (F_Z18 k) ops) (fun k => rfl) h
abbrev R_Z58 : Type := Option ((Bool × Unit) × (Unit))
abbrev C_Z58 : Type := List Int → List Int → R_Z58
abbrev T_Z58_L0 : Type := List Int × List Int × Int × Unit
def B_Z58_L0b (k : Nat) (again0 : T_Z58_L0 → R_Z58) (a b : List Int) (i : Int) : R_Z58 :=
  bif decide (i < (len a)) then
    chk (inb i a.length) <|
    chk (inb i b.length) <|
    bif ((rdx (0 : Int) a i) != (rdx (0 : Int) b i)) then
      some ((false, ()), ())
    else
      again0 (a, b, w64 (i + 1), ())
  else
    some ((true, ()), ())
def B_Z58_L0 (k : Nat) (n : Nat) (t : T_Z58_L0) : R_Z58 :=
  lfix n (fun again t => B_Z58_L0b k again t.1 t.2.1 t.2.2.1) t
def B_Z58 (k : Nat) (a b : List Int) : R_Z58 :=
  bif ((len a) != (len b)) then
    some ((false, ()), ())
  else
    B_Z58_L0 k k (a, b, 0, ())
def F_Z58 : Nat → C_Z58
  | 0, _, _ => none
  | k + 1, a, b => B_Z58 k a b
theorem tot_Z58 {a b : _} {Q : _ → Prop} (h : Tot (fun σ => B_Z58 (σ 0) a b) Q) : Tot (fun σ => F_Z58 (σ 0) a b) Q :=
  Tot.call (F := fun k => F_Z58 k a b) (B := fun k => B_Z58 k a b) (fun k => rfl) h
abbrev A_Z58_L0 (Z : Type) : Type := List Int → List Int → Int → Z
abbrev u_Z58_L0 {Z : Type} (f : A_Z58_L0 Z) (t : T_Z58_L0) : Z := f t.1 t.2.1 t.2.2.1
theorem loop_Z58_L0 {Q : A_Z58_L0 (((Bool × Unit) × (Unit)) → Prop)} (I : A_Z58_L0 Prop) (μ : A_Z58_L0 Nat)
    (step : ∀ a0 a1 a2, I a0 a1 a2 → ∀ again : (Nat → Nat) → T_Z58_L0 → R_Z58, Dep 2 again → (∀ y0 y1 y2, I y0 y1 y2 → μ y0 y1 y2 < μ a0 a1 a2 → Tot (fun σ => again σ (y0, y1, y2, ())) (Q y0 y1 y2)) →
      Tot (fun σ => B_Z58_L0b (σ 0) (again σ) a0 a1 a2) (Q a0 a1 a2)) :
    ∀ a0 a1 a2, I a0 a1 a2 → Tot (fun σ => B_Z58_L0 (σ 0) (σ 0) (a0, a1, a2, ())) (Q a0 a1 a2) := fun a0 a1 a2 => Tot.loop0 (L := fun k => B_Z58_L0 k) (B := fun k g => u_Z58_L0 (B_Z58_L0b k g)) (Q := u_Z58_L0 Q) (fun _ _ _ => rfl) (u_Z58_L0 I) (u_Z58_L0 μ)
    (fun t ht again hag h => step t.1 t.2.1 t.2.2.1 ht again hag fun y0 y1 y2 => h (y0, y1, y2, ())) (a0, a1, a2, ())
abbrev R_Z25 : Type := Option ((Bool × Unit) × (Unit))
abbrev C_Z25 : Type := List Int → R_Z25
abbrev T_Z25_L5 : Type := Int × (List Int × List Bool × List Int × List Int × Bool × Unit) × (List Int × List Bool × List Int × List Int × Bool × Unit) × ((List (Int × Int × List Int)) × List Int × List Int × Bool × Unit) × Int × Unit
def B_Z25_J4 (k : Nat) (c_Z23 : C_Z23) (c_Z32 : C_Z32) (c_Z35 : C_Z35) (c_Z69 : C_Z69) (c_Z71 : C_Z71) (c_Z53 : C_Z53) (c_l_isIn : C_l_isIn) (c_Z75 : C_Z75) (c_Z68 : C_Z68) (c_i_RunOps : C_i_RunOps) (c_Z58 : C_Z58) (again5 : T_Z25_L5 → R_Z25) (c : Int) (a_Kinds : List Int) (a_Full : List Bool) (a_Stack a_Memo : List Int) (a_Done : Bool) (b_Kinds : List Int) (b_Full : List Bool) (b_Stack b_Memo : List Int) (b_Done : Bool) (m_Nodes : List (Int × Int × List Int)) (m_Stack m_Memo : List Int) (m_Done : Bool) (i : Int) (t128 : Bool) : R_Z25 :=
  bif t128 then
    some ((false, ()), ())
  else
    again5 (c, (a_Kinds, a_Full, a_Stack, a_Memo, a_Done, ()), (b_Kinds, b_Full, b_Stack, b_Memo, b_Done, ()), (m_Nodes, m_Stack, m_Memo, m_Done, ()), w64 (i + 1), ())
def B_Z25_J3 (k : Nat) (c_Z23 : C_Z23) (c_Z32 : C_Z32) (c_Z35 : C_Z35) (c_Z69 : C_Z69) (c_Z71 : C_Z71) (c_Z53 : C_Z53) (c_l_isIn : C_l_isIn) (c_Z75 : C_Z75) (c_Z68 : C_Z68) (c_i_RunOps : C_i_RunOps) (c_Z58 : C_Z58) (again5 : T_Z25_L5 → R_Z25) (c : Int) (a_Kinds : List Int) (a_Full : List Bool) (a_Stack a_Memo : List Int) (a_Done : Bool) (b_Kinds : List Int) (b_Full : List Bool) (b_Stack b_Memo : List Int) (b_Done : Bool) (m_Nodes : List (Int × Int × List Int)) (m_Stack m_Memo : List Int) (m_Done : Bool) (i : Int) (object : Bool) : R_Z25 :=
  bif object then
    chk (inb i b_Kinds.length) <|
    chk (decide (i.toNat < b_Kinds.length)) <|
    bif ((b_Kinds.getD i.toNat (0 : Int)) != 3) then
      jn (fun t => B_Z25_J4 k c_Z23 c_Z32 c_Z35 c_Z69 c_Z71 c_Z53 c_l_isIn c_Z75 c_Z68 c_i_RunOps c_Z58 again5 t.1 t.2.1.1 t.2.1.2.1 t.2.1.2.2.1 t.2.1.2.2.2.1 t.2.1.2.2.2.2.1 t.2.2.1.1 t.2.2.1.2.1 t.2.2.1.2.2.1 t.2.2.1.2.2.2.1 t.2.2.1.2.2.2.2.1 t.2.2.2.1.1 t.2.2.2.1.2.1 t.2.2.2.1.2.2.1 t.2.2.2.1.2.2.2.1 t.2.2.2.2.1 t.2.2.2.2.2.1) (c, (a_Kinds, a_Full, a_Stack, a_Memo, a_Done, ()), (b_Kinds, b_Full, b_Stack, b_Memo, b_Done, ()), (m_Nodes, m_Stack, m_Memo, m_Done, ()), i, true, ())
    else
      bif (!object) then
        chk (inb i b_Kinds.length) <|
        chk (decide (i.toNat < b_Kinds.length)) <|
        chk (inb i a_Kinds.length) <|
        chk (decide (i.toNat < a_Kinds.length)) <|
        jn (fun t => B_Z25_J4 k c_Z23 c_Z32 c_Z35 c_Z69 c_Z71 c_Z53 c_l_isIn c_Z75 c_Z68 c_i_RunOps c_Z58 again5 t.1 t.2.1.1 t.2.1.2.1 t.2.1.2.2.1 t.2.1.2.2.2.1 t.2.1.2.2.2.2.1 t.2.2.1.1 t.2.2.1.2.1 t.2.2.1.2.2.1 t.2.2.1.2.2.2.1 t.2.2.1.2.2.2.2.1 t.2.2.2.1.1 t.2.2.2.1.2.1 t.2.2.2.1.2.2.1 t.2.2.2.1.2.2.2.1 t.2.2.2.2.1 t.2.2.2.2.2.1) (c, (a_Kinds, a_Full, a_Stack, a_Memo, a_Done, ()), (b_Kinds, b_Full, b_Stack, b_Memo, b_Done, ()), (m_Nodes, m_Stack, m_Memo, m_Done, ()), i, ((b_Kinds.getD i.toNat (0 : Int)) != (a_Kinds.getD i.toNat (0 : Int))), ())
      else
        jn (fun t => B_Z25_J4 k c_Z23 c_Z32 c_Z35 c_Z69 c_Z71 c_Z53 c_l_isIn c_Z75 c_Z68 c_i_RunOps c_Z58 again5 t.1 t.2.1.1 t.2.1.2.1 t.2.1.2.2.1 t.2.1.2.2.2.1 t.2.1.2.2.2.2.1 t.2.2.1.1 t.2.2.1.2.1 t.2.2.1.2.2.1 t.2.2.1.2.2.2.1 t.2.2.1.2.2.2.2.1 t.2.2.2.1.1 t.2.2.2.1.2.1 t.2.2.2.1.2.2.1 t.2.2.2.1.2.2.2.1 t.2.2.2.2.1 t.2.2.2.2.2.1) (c, (a_Kinds, a_Full, a_Stack, a_Memo, a_Done, ()), (b_Kinds, b_Full, b_Stack, b_Memo, b_Done, ()), (m_Nodes, m_Stack, m_Memo, m_Done, ()), i, false, ())
  else
    bif (!object) then
      chk (inb i b_Kinds.length) <|
      chk (decide (i.toNat < b_Kinds.length)) <|
      chk (inb i a_Kinds.length) <|
      chk (decide (i.toNat < a_Kinds.length)) <|
      jn (fun t => B_Z25_J4 k c_Z23 c_Z32 c_Z35 c_Z69 c_Z71 c_Z53 c_l_isIn c_Z75 c_Z68 c_i_RunOps c_Z58 again5 t.1 t.2.1.1 t.2.1.2.1 t.2.1.2.2.1 t.2.1.2.2.2.1 t.2.1.2.2.2.2.1 t.2.2.1.1 t.2.2.1.2.1 t.2.2.1.2.2.1 t.2.2.1.2.2.2.1 t.2.2.1.2.2.2.2.1 t.2.2.2.1.1 t.2.2.2.1.2.1 t.2.2.2.1.2.2.1 t.2.2.2.1.2.2.2.1 t.2.2.2.2.1 t.2.2.2.2.2.1) (c, (a_Kinds, a_Full, a_Stack, a_Memo, a_Done, ()), (b_Kinds, b_Full, b_Stack, b_Memo, b_Done, ()), (m_Nodes, m_Stack, m_Memo, m_Done, ()), i, ((b_Kinds.getD i.toNat (0 : Int)) != (a_Kinds.getD i.toNat (0 : Int))), ())
    else
      jn (fun t => B_Z25_J4 k c_Z23 c_Z32 c_Z35 c_Z69 c_Z71 c_Z53 c_l_isIn c_Z75 c_Z68 c_i_RunOps c_Z58 again5 t.1 t.2.1.1 t.2.1.2.1 t.2.1.2.2.1 t.2.1.2.2.2.1 t.2.1.2.2.2.2.1 t.2.2.1.1 t.2.2.1.2.1 t.2.2.1.2.2.1 t.2.2.1.2.2.2.1 t.2.2.1.2.2.2.2.1 t.2.2.2.1.1 t.2.2.2.1.2.1 t.2.2.2.1.2.2.1 t.2.2.2.1.2.2.2.1 t.2.2.2.2.1 t.2.2.2.2.2.1) (c, (a_Kinds, a_Full, a_Stack, a_Memo, a_Done, ()), (b_Kinds, b_Full, b_Stack, b_Memo, b_Done, ()), (m_Nodes, m_Stack, m_Memo, m_Done, ()), i, false, ())
def B_Z25_L5b (k : Nat) (c_Z23 : C_Z23) (c_Z32 : C_Z32) (c_Z35 : C_Z35) (c_Z69 : C_Z69) (c_Z71 : C_Z71) (c_Z53 : C_Z53) (c_l_isIn : C_l_isIn) (c_Z75 : C_Z75) (c_Z68 : C_Z68) (c_i_RunOps : C_i_RunOps) (c_Z58 : C_Z58) (again5 : T_Z25_L5 → R_Z25) (c : Int) (a_Kinds : List Int) (a_Full : List Bool) (a_Stack a_Memo : List Int) (a_Done : Bool) (b_Kinds : List Int) (b_Full : List Bool) (b_Stack b_Memo : List Int) (b_Done : Bool) (m_Nodes : List (Int × Int × List Int)) (m_Stack m_Memo : List Int) (m_Done : Bool) (i : Int) : R_Z25 :=
  bif decide (i < (len a_Kinds)) then
    chk (inb i m_Nodes.length) <|
    chk (decide (i.toNat < m_Nodes.length)) <|
    bif (((m_Nodes.getD i.toNat ((0 : Int), ((0 : Int), ([] : List Int)))).1) == 5) then
      chk (inb i m_Nodes.length) <|
      chk (decide (i.toNat < m_Nodes.length)) <|
      jn (fun t => B_Z25_J3 k c_Z23 c_Z32 c_Z35 c_Z69 c_Z71 c_Z53 c_l_isIn c_Z75 c_Z68 c_i_RunOps c_Z58 again5 t.1 t.2.1.1 t.2.1.2.1 t.2.1.2.2.1 t.2.1.2.2.2.1 t.2.1.2.2.2.2.1 t.2.2.1.1 t.2.2.1.2.1 t.2.2.1.2.2.1 t.2.2.1.2.2.2.1 t.2.2.1.2.2.2.2.1 t.2.2.2.1.1 t.2.2.2.1.2.1 t.2.2.2.1.2.2.1 t.2.2.2.1.2.2.2.1 t.2.2.2.2.1 t.2.2.2.2.2.1) (c, (a_Kinds, a_Full, a_Stack, a_Memo, a_Done, ()), (b_Kinds, b_Full, b_Stack, b_Memo, b_Done, ()), (m_Nodes, m_Stack, m_Memo, m_Done, ()), i, ((((m_Nodes.getD i.toNat ((0 : Int), ((0 : Int), ([] : List Int)))).2).1) == c), ())
    else
      jn (fun t => B_Z25_J3 k c_Z23 c_Z32 c_Z35 c_Z69 c_Z71 c_Z53 c_l_isIn c_Z75 c_Z68 c_i_RunOps c_Z58 again5 t.1 t.2.1.1 t.2.1.2.1 t.2.1.2.2.1 t.2.1.2.2.2.1 t.2.1.2.2.2.2.1 t.2.2.1.1 t.2.2.1.2.1 t.2.2.1.2.2.1 t.2.2.1.2.2.2.1 t.2.2.1.2.2.2.2.1 t.2.2.2.1.1 t.2.2.2.1.2.1 t.2.2.2.1.2.2.1 t.2.2.2.1.2.2.2.1 t.2.2.2.2.1 t.2.2.2.2.2.1) (c, (a_Kinds, a_Full, a_Stack, a_Memo, a_Done, ()), (b_Kinds, b_Full, b_Stack, b_Memo, b_Done, ()), (m_Nodes, m_Stack, m_Memo, m_Done, ()), i, false, ())
  else
    (c_Z58 a_Stack b_Stack).bind fun r133 =>
    bif r133.1.1 then
      some ((((len a_Kinds) == (len b_Kinds)), ()), ())
    else
      some ((false, ()), ())
def B_Z25_L5 (k : Nat) (c_Z23 : C_Z23) (c_Z32 : C_Z32) (c_Z35 : C_Z35) (c_Z69 : C_Z69) (c_Z71 : C_Z71) (c_Z53 : C_Z53) (c_l_isIn : C_l_isIn) (c_Z75 : C_Z75) (c_Z68 : C_Z68) (c_i_RunOps : C_i_RunOps) (c_Z58 : C_Z58) (n : Nat) (t : T_Z25_L5) : R_Z25 :=
  lfix n (fun again t => B_Z25_L5b k c_Z23 c_Z32 c_Z35 c_Z69 c_Z71 c_Z53 c_l_isIn c_Z75 c_Z68 c_i_RunOps c_Z58 again t.1 t.2.1.1 t.2.1.2.1 t.2.1.2.2.1 t.2.1.2.2.2.1 t.2.1.2.2.2.2.1 t.2.2.1.1 t.2.2.1.2.1 t.2.2.1.2.2.1 t.2.2.1.2.2.2.1 t.2.2.1.2.2.2.2.1 t.2.2.2.1.1 t.2.2.2.1.2.1 t.2.2.2.1.2.2.1 t.2.2.2.1.2.2.2.1 t.2.2.2.2.1) t
def B_Z25_J2 (k : Nat) (c_Z23 : C_Z23) (c_Z32 : C_Z32) (c_Z35 : C_Z35) (c_Z69 : C_Z69) (c_Z71 : C_Z71) (c_Z53 : C_Z53) (c_l_isIn : C_l_isIn) (c_Z75 : C_Z75) (c_Z68 : C_Z68) (c_i_RunOps : C_i_RunOps) (c_Z58 : C_Z58) (ops : List (Int × Int)) (c : Int) (out : List (Int × Int)) (t63 : Bool) : R_Z25 :=
  bif t63 then
    some ((false, ()), ())
  else
    (c_Z68 ops).bind fun r66 =>
    (c_Z68 out).bind fun r71 =>
    (c_i_RunOps ops).bind fun r76 =>
    B_Z25_L5 k c_Z23 c_Z32 c_Z35 c_Z69 c_Z71 c_Z53 c_l_isIn c_Z75 c_Z68 c_i_RunOps c_Z58 k (c, (r66.1.1.1, r66.1.1.2.1, r66.1.1.2.2.1, r66.1.1.2.2.2.1, r66.1.1.2.2.2.2.1, ()), (r71.1.1.1, r71.1.1.2.1, r71.1.1.2.2.1, r71.1.1.2.2.2.1, r71.1.1.2.2.2.2.1, ()), (r76.1.1.1, r76.1.1.2.1, r76.1.1.2.2.1, r76.1.1.2.2.2.1, ()), 0, ())
def B_Z25_J1 (k : Nat) (c_Z23 : C_Z23) (c_Z32 : C_Z32) (c_Z35 : C_Z35) (c_Z69 : C_Z69) (c_Z71 : C_Z71) (c_Z53 : C_Z53) (c_l_isIn : C_l_isIn) (c_Z75 : C_Z75) (c_Z68 : C_Z68) (c_i_RunOps : C_i_RunOps) (c_Z58 : C_Z58) (ops : List (Int × Int)) (c : Int) (out : List (Int × Int)) (t35 : Bool) : R_Z25 :=
  bif t35 then
    (c_Z35 ops c).bind fun r39 =>
    (c_Z69 out r39.1.1).bind fun r40 =>
    some ((r40.1.1, ()), ())
  else
    (c_Z71 out).bind fun r42 =>
    bif (r42.1.1 != (-1)) then
      jn (fun t => B_Z25_J2 k c_Z23 c_Z32 c_Z35 c_Z69 c_Z71 c_Z53 c_l_isIn c_Z75 c_Z68 c_i_RunOps c_Z58 t.1 t.2.1 t.2.2.1 t.2.2.2.1) (ops, c, out, true, ())
    else
      (c_Z53 out).bind fun r46 =>
      (c_l_isIn r46.1.1 c).bind fun r48 =>
      bif r48.1.1 then
        jn (fun t => B_Z25_J2 k c_Z23 c_Z32 c_Z35 c_Z69 c_Z71 c_Z53 c_l_isIn c_Z75 c_Z68 c_i_RunOps c_Z58 t.1 t.2.1 t.2.2.1 t.2.2.2.1) (ops, c, out, true, ())
      else
        bif ((len out) != (len ops)) then
          jn (fun t => B_Z25_J2 k c_Z23 c_Z32 c_Z35 c_Z69 c_Z71 c_Z53 c_l_isIn c_Z75 c_Z68 c_i_RunOps c_Z58 t.1 t.2.1 t.2.2.1 t.2.2.2.1) (ops, c, out, true, ())
        else
          (c_Z75 out).bind fun r59 =>
          (c_Z75 ops).bind fun r61 =>
          jn (fun t => B_Z25_J2 k c_Z23 c_Z32 c_Z35 c_Z69 c_Z71 c_Z53 c_l_isIn c_Z75 c_Z68 c_i_RunOps c_Z58 t.1 t.2.1 t.2.2.1 t.2.2.2.1) (ops, c, out, (!(r59.1.1 == r61.1.1)), ())
def B_Z25_J0 (k : Nat) (c_Z23 : C_Z23) (c_Z32 : C_Z32) (c_Z35 : C_Z35) (c_Z69 : C_Z69) (c_Z71 : C_Z71) (c_Z53 : C_Z53) (c_l_isIn : C_l_isIn) (c_Z75 : C_Z75) (c_Z68 : C_Z68) (c_i_RunOps : C_i_RunOps) (c_Z58 : C_Z58) (ops : List (Int × Int)) (c : Int) (out : List (Int × Int)) : R_Z25 :=
  (c_Z35 ops c).bind fun r28 =>
  (c_Z69 out r28.1.1).bind fun r29 =>
  bif (!r29.1.1) then
    jn (fun t => B_Z25_J1 k c_Z23 c_Z32 c_Z35 c_Z69 c_Z71 c_Z53 c_l_isIn c_Z75 c_Z68 c_i_RunOps c_Z58 t.1 t.2.1 t.2.2.1 t.2.2.2.1) (ops, c, out, true, ())
  else
    jn (fun t => B_Z25_J1 k c_Z23 c_Z32 c_Z35 c_Z69 c_Z71 c_Z53 c_l_isIn c_Z75 c_Z68 c_i_RunOps c_Z58 t.1 t.2.1 t.2.2.1 t.2.2.2.1) (ops, c, out, ((len out) == 0), ())
def B_Z25 (k : Nat) (c_Z23 : C_Z23) (c_Z32 : C_Z32) (c_Z35 : C_Z35) (c_Z69 : C_Z69) (c_Z71 : C_Z71) (c_Z53 : C_Z53) (c_l_isIn : C_l_isIn) (c_Z75 : C_Z75) (c_Z68 : C_Z68) (c_i_RunOps : C_i_RunOps) (c_Z58 : C_Z58) (code : List Int) : R_Z25 :=
  bif decide ((len code) > 1048576) then
    some ((true, ()), ())
  else
    (c_Z23 code).bind fun r19 =>
    (c_Z32 r19.1.1 r19.1.2.1).bind fun r24 =>
    jn (fun t => B_Z25_J0 k c_Z23 c_Z32 c_Z35 c_Z69 c_Z71 c_Z53 c_l_isIn c_Z75 c_Z68 c_i_RunOps c_Z58 t.1 t.2.1 t.2.2.1) (r19.1.1, r19.1.2.1, r24.1.1, ())
def F_Z25 : Nat → C_Z25
  | 0, _ => none
  | k + 1, code => B_Z25 k (F_Z23 k) (F_Z32 k) (F_Z35 k) (F_Z69 k) (F_Z71 k) (F_Z53 k) (F_l_isIn k) (F_Z75 k) (F_Z68 k) (F_i_RunOps k) (F_Z58 k) code
theorem tot_Z25 {code : _} {Q : _ → Prop} (h : Tot (fun σ => B_Z25 (σ 0) (F_Z23 (σ 0)) (F_Z32 (σ 0)) (F_Z35 (σ 0)) (F_Z69 (σ 0)) (F_Z71 (σ 0)) (F_Z53 (σ 0)) (F_l_isIn (σ 0)) (F_Z75 (σ 0)) (F_Z68 (σ 0)) (F_i_RunOps (σ 0)) (F_Z58 (σ 0)) code) Q) : Tot (fun σ => F_Z25 (σ 0) code) Q :=
  Tot.call (F := fun k => F_Z25 k code) (B := fun k => B_Z25 k (F_Z23 k) (F_Z32 k) (F_Z35 k) (F_Z69 k) (F_Z71 k) (F_Z53 k) (F_l_isIn k) (F_Z75 k) (F_Z68 k) (F_i_RunOps k) (F_Z58 k) code) (fun k => rfl) h
abbrev A_Z25_L5 (Z : Type) : Type := Int → List Int → List Bool → List Int → List Int → Bool → List Int → List Bool → List Int → List Int → Bool → (List (Int × Int × List Int)) → List Int → List Int → Bool → Int → Z
abbrev u_Z25_L5 {Z : Type} (f : A_Z25_L5 Z) (t : T_Z25_L5) : Z := f t.1 t.2.1.1 t.2.1.2.1 t.2.1.2.2.1 t.2.1.2.2.2.1 t.2.1.2.2.2.2.1 t.2.2.1.1 t.2.2.1.2.1 t.2.2.1.2.2.1 t.2.2.1.2.2.2.1 t.2.2.1.2.2.2.2.1 t.2.2.2.1.1 t.2.2.2.1.2.1 t.2.2.2.1.2.2.1 t.2.2.2.1.2.2.2.1 t.2.2.2.2.1
theorem loop_Z25_L5 {Q : A_Z25_L5 (((Bool × Unit) × (Unit)) → Prop)} (I : A_Z25_L5 Prop) (μ : A_Z25_L5 Nat)
    (step : ∀ a0 a1 a2 a3 a4 a5 a6 a7 a8 a9 a10 a11 a12 a13 a14 a15, I a0 a1 a2 a3 a4 a5 a6 a7 a8 a9 a10 a11 a12 a13 a14 a15 → ∀ again : (Nat → Nat) → T_Z25_L5 → R_Z25, Dep 2 again → (∀ y0 y1 y2 y3 y4 y5 y6 y7 y8 y9 y10 y11 y12 y13 y14 y15, I y0 y1 y2 y3 y4 y5 y6 y7 y8 y9 y10 y11 y12 y13 y14 y15 → μ y0 y1 y2 y3 y4 y5 y6 y7 y8 y9 y10 y11 y12 y13 y14 y15 < μ a0 a1 a2 a3 a4 a5 a6 a7 a8 a9 a10 a11 a12 a13 a14 a15 → Tot (fun σ => again σ (y0, (y1, y2, y3, y4, y5, ()), (y6, y7, y8, y9, y10, ()), (y11, y12, y13, y14, ()), y15, ())) (Q y0 y1 y2 y3 y4 y5 y6 y7 y8 y9 y10 y11 y12 y13 y14 y15)) →
      Tot (fun σ => B_Z25_L5b (σ 0) (F_Z23 (σ 0)) (F_Z32 (σ 0)) (F_Z35 (σ 0)) (F_Z69 (σ 0)) (F_Z71 (σ 0)) (F_Z53 (σ 0)) (F_l_isIn (σ 0)) (F_Z75 (σ 0)) (F_Z68 (σ 0)) (F_i_RunOps (σ 0)) (F_Z58 (σ 0)) (again σ) a0 a1 a2 a3 a4 a5 a6 a7 a8 a9 a10 a11 a12 a13 a14 a15) (Q a0 a1 a2 a3 a4 a5 a6 a7 a8 a9 a10 a11 a12 a13 a14 a15)) :
    ∀ a0 a1 a2 a3 a4 a5 a6 a7 a8 a9 a10 a11 a12 a13 a14 a15, I a0 a1 a2 a3 a4 a5 a6 a7 a8 a9 a10 a11 a12 a13 a14 a15 → Tot (fun σ => B_Z25_L5 (σ 0) (F_Z23 (σ 0)) (F_Z32 (σ 0)) (F_Z35 (σ 0)) (F_Z69 (σ 0)) (F_Z71 (σ 0)) (F_Z53 (σ 0)) (F_l_isIn (σ 0)) (F_Z75 (σ 0)) (F_Z68 (σ 0)) (F_i_RunOps (σ 0)) (F_Z58 (σ 0)) (σ 0) (a0, (a1, a2, a3, a4, a5, ()), (a6, a7, a8, a9, a10, ()), (a11, a12, a13, a14, ()), a15, ())) (Q a0 a1 a2 a3 a4 a5 a6 a7 a8 a9 a10 a11 a12 a13 a14 a15) := fun a0 a1 a2 a3 a4 a5 a6 a7 a8 a9 a10 a11 a12 a13 a14 a15 => Tot.loop0 (L := fun k => B_Z25_L5 k (F_Z23 k) (F_Z32 k) (F_Z35 k) (F_Z69 k) (F_Z71 k) (F_Z53 k) (F_l_isIn k) (F_Z75 k) (F_Z68 k) (F_i_RunOps k) (F_Z58 k)) (B := fun k g => u_Z25_L5 (B_Z25_L5b k (F_Z23 k) (F_Z32 k) (F_Z35 k) (F_Z69 k) (F_Z71 k) (F_Z53 k) (F_l_isIn k) (F_Z75 k) (F_Z68 k) (F_i_RunOps k) (F_Z58 k) g)) (Q := u_Z25_L5 Q) (fun _ _ _ => rfl) (u_Z25_L5 I) (u_Z25_L5 μ)
    (fun t ht again hag h => step t.1 t.2.1.1 t.2.1.2.1 t.2.1.2.2.1 t.2.1.2.2.2.1 t.2.1.2.2.2.2.1 t.2.2.1.1 t.2.2.1.2.1 t.2.2.1.2.2.1 t.2.2.1.2.2.2.1 t.2.2.1.2.2.2.2.1 t.2.2.2.1.1 t.2.2.2.1.2.1 t.2.2.2.1.2.2.1 t.2.2.2.1.2.2.2.1 t.2.2.2.2.1 ht again hag fun y0 y1 y2 y3 y4 y5 y6 y7 y8 y9 y10 y11 y12 y13 y14 y15 => h (y0, (y1, y2, y3, y4, y5, ()), (y6, y7, y8, y9, y10, ()), (y11, y12, y13, y14, ()), y15, ())) (a0, (a1, a2, a3, a4, a5, ()), (a6, a7, a8, a9, a10, ()), (a11, a12, a13, a14, ()), a15, ())
end Go.Gx

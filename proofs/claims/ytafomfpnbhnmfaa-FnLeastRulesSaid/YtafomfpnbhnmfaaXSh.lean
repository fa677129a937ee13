/-
  The functions, as Gx tells them (printed by gen.py).
-/
import Derived.Test.YtafomfpnbhnmfaaXSh1
set_option linter.unusedVariables false
namespace Go.Gx
abbrev A_Z9_L1 (Z : Type) : Type := List Int → Int → Int → Int → Z
abbrev u_Z9_L1 {Z : Type} (f : A_Z9_L1 Z) (t : T_Z9_L1) : Z := f t.1 t.2.1 t.2.2.1 t.2.2.2.1
theorem loop_Z9_L1 {Q : A_Z9_L1 (((Unit) × (List Int × Unit)) → Prop)} (I : A_Z9_L1 Prop) (μ : A_Z9_L1 Nat)
    (step : ∀ a0 a1 a2 a3, I a0 a1 a2 a3 → ∀ again : (Nat → Nat) → T_Z9_L1 → R_Z9, Dep 2 again → (∀ y0 y1 y2 y3, I y0 y1 y2 y3 → μ y0 y1 y2 y3 < μ a0 a1 a2 a3 → Tot (fun σ => again σ (y0, y1, y2, y3, ())) (Q y0 y1 y2 y3)) →
      Tot (fun σ => B_Z9_L1b (σ 0) (F_Z10 (σ 0)) (again σ) a0 a1 a2 a3) (Q a0 a1 a2 a3)) :
    ∀ a0 a1 a2 a3, I a0 a1 a2 a3 → Tot (fun σ => B_Z9_L1 (σ 0) (F_Z10 (σ 0)) (σ 0) (a0, a1, a2, a3, ())) (Q a0 a1 a2 a3) := fun a0 a1 a2 a3 => Tot.loop0 (L := fun k => B_Z9_L1 k (F_Z10 k)) (B := fun k g => u_Z9_L1 (B_Z9_L1b k (F_Z10 k) g)) (Q := u_Z9_L1 Q) (fun _ _ _ => rfl) (u_Z9_L1 I) (u_Z9_L1 μ)
    (fun t ht again hag h => step t.1 t.2.1 t.2.2.1 t.2.2.2.1 ht again hag fun y0 y1 y2 y3 => h (y0, y1, y2, y3, ())) (a0, a1, a2, a3, ())
abbrev A_Z9_L0 (Z : Type) : Type := List Int → Int → Int → Int → Int → Z
abbrev u_Z9_L0 {Z : Type} (f : A_Z9_L0 Z) (t : T_Z9_L0) : Z := f t.1 t.2.1 t.2.2.1 t.2.2.2.1 t.2.2.2.2.1
theorem loop_Z9_L0 {Q : A_Z9_L0 (((Unit) × (List Int × Unit)) → Prop)} (I : A_Z9_L0 Prop) (μ : A_Z9_L0 Nat)
    (step : ∀ a0 a1 a2 a3 a4, I a0 a1 a2 a3 a4 → ∀ again : (Nat → Nat) → T_Z9_L0 → R_Z9, Dep 2 again → (∀ y0 y1 y2 y3 y4, I y0 y1 y2 y3 y4 → μ y0 y1 y2 y3 y4 < μ a0 a1 a2 a3 a4 → Tot (fun σ => again σ (y0, y1, y2, y3, y4, ())) (Q y0 y1 y2 y3 y4)) →
      Tot (fun σ => B_Z9_L0b (σ 0) (F_Z10 (σ 0)) (again σ) a0 a1 a2 a3 a4) (Q a0 a1 a2 a3 a4)) :
    ∀ a0 a1 a2 a3 a4, I a0 a1 a2 a3 a4 → Tot (fun σ => B_Z9_L0 (σ 0) (F_Z10 (σ 0)) (σ 0) (a0, a1, a2, a3, a4, ())) (Q a0 a1 a2 a3 a4) := fun a0 a1 a2 a3 a4 => Tot.loop0 (L := fun k => B_Z9_L0 k (F_Z10 k)) (B := fun k g => u_Z9_L0 (B_Z9_L0b k (F_Z10 k) g)) (Q := u_Z9_L0 Q) (fun _ _ _ => rfl) (u_Z9_L0 I) (u_Z9_L0 μ)
    (fun t ht again hag h => step t.1 t.2.1 t.2.2.1 t.2.2.2.1 t.2.2.2.2.1 ht again hag fun y0 y1 y2 y3 y4 => h (y0, y1, y2, y3, y4, ())) (a0, a1, a2, a3, a4, ())
abbrev R_Z17 : Type := Option ((Int × Unit) × (Unit))
abbrev C_Z17 : Type := Int → R_Z17
def B_Z17 (k : Nat) (c_bits_Len : C_bits_Len) (length : Int) : R_Z17 :=
  (c_bits_Len (IntKind.wrap .u64 (length))).bind fun r5 =>
  chk (decide (0 ≤ r5.1.1)) <|
  some (((shlK .u64 1 r5.1.1), ()), ())
def F_Z17 : Nat → C_Z17
  | 0, _ => none
  | k + 1, length => B_Z17 k (F_bits_Len k) length
theorem tot_Z17 {length : _} {Q : _ → Prop} (h : Tot (fun σ => B_Z17 (σ 0) (F_bits_Len (σ 0)) length) Q) : Tot (fun σ => F_Z17 (σ 0) length) Q :=
  Tot.call (F := fun k => F_Z17 k length) (B := fun k => B_Z17 k (F_bits_Len k) length) (fun k => rfl) h
abbrev R_Z18 : Type := Option ((Int × Unit) × ((Int × Unit) × Unit))
abbrev C_Z18 : Type := Int → R_Z18
def B_Z18 (k : Nat) (r : Int) : R_Z18 :=
  let v27 : Int := (shlK .u64 (xorK .u64 (xorK .u64 r (shlK .u64 r 13)) (shrK .u64 (xorK .u64 r (shlK .u64 r 13)) 7)) 17)
  let v28 : Int := (xorK .u64 (xorK .u64 (xorK .u64 r (shlK .u64 r 13)) (shrK .u64 (xorK .u64 r (shlK .u64 r 13)) 7)) v27)
  some ((v28, ()), ((v28, ()), ()))
def F_Z18 : Nat → C_Z18
  | 0, _ => none
  | k + 1, r => B_Z18 k r
theorem tot_Z18 {r : _} {Q : _ → Prop} (h : Tot (fun σ => B_Z18 (σ 0) r) Q) : Tot (fun σ => F_Z18 (σ 0) r) Q :=
  Tot.call (F := fun k => F_Z18 k r) (B := fun k => B_Z18 k r) (fun k => rfl) h
abbrev R_Z3 : Type := Option ((Unit) × (List Int × Unit))
abbrev C_Z3 : Type := List Int → Int → Int → R_Z3
abbrev T_Z3_L1 : Type := List Int × Int × Int × (Int × Unit) × Int × Int × Unit
def B_Z3_J0 (k : Nat) (c_Z17 : C_Z17) (c_Z18 : C_Z18) (again1 : T_Z3_L1 → R_Z3) (data : List Int) (a length random modulus idx other : Int) : R_Z3 :=
  chk (inb (w64 (a + other)) data.length) <|
  chk (decide ((w64 (a + other)).toNat < data.length)) <|
  chk (inb idx data.length) <|
  chk (decide (idx.toNat < data.length)) <|
  chk (inb idx data.length) <|
  chk (decide (idx.toNat < data.length)) <|
  chk (inb (w64 (a + other)) (data.set idx.toNat (data.getD ((w64 (a + other)).toNat) (0 : Int))).length) <|
  chk (decide ((w64 (a + other)).toNat < (data.set idx.toNat (data.getD ((w64 (a + other)).toNat) (0 : Int))).length)) <|
  again1 (((data.set idx.toNat (data.getD ((w64 (a + other)).toNat) (0 : Int))).set ((w64 (a + other)).toNat) (data.getD idx.toNat (0 : Int))), a, length, (random, ()), modulus, w64 (idx + 1), ())
def B_Z3_L1b (k : Nat) (c_Z17 : C_Z17) (c_Z18 : C_Z18) (again1 : T_Z3_L1 → R_Z3) (data : List Int) (a length random modulus idx : Int) : R_Z3 :=
  bif decide (idx ≤ (w64 ((w64 (a + (w64 ((w64 (length.tdiv 4)) * 2)))) + 1))) then
    (c_Z18 random).bind fun r36 =>
    bif decide ((w64 ((andK .u64 r36.1.1 (IntKind.wrap .u64 (modulus - 1))))) ≥ length) then
      jn (fun t => B_Z3_J0 k c_Z17 c_Z18 again1 t.1 t.2.1 t.2.2.1 t.2.2.2.1.1 t.2.2.2.2.1 t.2.2.2.2.2.1 t.2.2.2.2.2.2.1) (data, a, length, (r36.2.1.1, ()), modulus, idx, w64 ((w64 ((andK .u64 r36.1.1 (IntKind.wrap .u64 (modulus - 1))))) - length), ())
    else
      jn (fun t => B_Z3_J0 k c_Z17 c_Z18 again1 t.1 t.2.1 t.2.2.1 t.2.2.2.1.1 t.2.2.2.2.1 t.2.2.2.2.2.1 t.2.2.2.2.2.2.1) (data, a, length, (r36.2.1.1, ()), modulus, idx, w64 ((andK .u64 r36.1.1 (IntKind.wrap .u64 (modulus - 1)))), ())
  else
    some ((), (data, ()))
def B_Z3_L1 (k : Nat) (c_Z17 : C_Z17) (c_Z18 : C_Z18) (n : Nat) (t : T_Z3_L1) : R_Z3 :=
  lfix n (fun again t => B_Z3_L1b k c_Z17 c_Z18 again t.1 t.2.1 t.2.2.1 t.2.2.2.1.1 t.2.2.2.2.1 t.2.2.2.2.2.1) t
def B_Z3 (k : Nat) (c_Z17 : C_Z17) (c_Z18 : C_Z18) (data : List Int) (a b : Int) : R_Z3 :=
  bif decide ((w64 (b - a)) ≥ 8) then
    (c_Z17 (w64 (b - a))).bind fun r19 =>
    B_Z3_L1 k c_Z17 c_Z18 k (data, a, w64 (b - a), (IntKind.wrap .u64 (w64 (b - a)), ()), r19.1.1, w64 ((w64 (a + (w64 ((w64 ((w64 (b - a)).tdiv 4)) * 2)))) - 1), ())
  else
    some ((), (data, ()))
def F_Z3 : Nat → C_Z3
  | 0, _, _, _ => none
  | k + 1, data, a, b => B_Z3 k (F_Z17 k) (F_Z18 k) data a b
theorem tot_Z3 {data a b : _} {Q : _ → Prop} (h : Tot (fun σ => B_Z3 (σ 0) (F_Z17 (σ 0)) (F_Z18 (σ 0)) data a b) Q) : Tot (fun σ => F_Z3 (σ 0) data a b) Q :=
  Tot.call (F := fun k => F_Z3 k data a b) (B := fun k => B_Z3 k (F_Z17 k) (F_Z18 k) data a b) (fun k => rfl) h
abbrev A_Z3_L1 (Z : Type) : Type := List Int → Int → Int → Int → Int → Int → Z
abbrev u_Z3_L1 {Z : Type} (f : A_Z3_L1 Z) (t : T_Z3_L1) : Z := f t.1 t.2.1 t.2.2.1 t.2.2.2.1.1 t.2.2.2.2.1 t.2.2.2.2.2.1
theorem loop_Z3_L1 {Q : A_Z3_L1 (((Unit) × (List Int × Unit)) → Prop)} (I : A_Z3_L1 Prop) (μ : A_Z3_L1 Nat)
    (step : ∀ a0 a1 a2 a3 a4 a5, I a0 a1 a2 a3 a4 a5 → ∀ again : (Nat → Nat) → T_Z3_L1 → R_Z3, Dep 2 again → (∀ y0 y1 y2 y3 y4 y5, I y0 y1 y2 y3 y4 y5 → μ y0 y1 y2 y3 y4 y5 < μ a0 a1 a2 a3 a4 a5 → Tot (fun σ => again σ (y0, y1, y2, (y3, ()), y4, y5, ())) (Q y0 y1 y2 y3 y4 y5)) →
      Tot (fun σ => B_Z3_L1b (σ 0) (F_Z17 (σ 0)) (F_Z18 (σ 0)) (again σ) a0 a1 a2 a3 a4 a5) (Q a0 a1 a2 a3 a4 a5)) :
    ∀ a0 a1 a2 a3 a4 a5, I a0 a1 a2 a3 a4 a5 → Tot (fun σ => B_Z3_L1 (σ 0) (F_Z17 (σ 0)) (F_Z18 (σ 0)) (σ 0) (a0, a1, a2, (a3, ()), a4, a5, ())) (Q a0 a1 a2 a3 a4 a5) := fun a0 a1 a2 a3 a4 a5 => Tot.loop0 (L := fun k => B_Z3_L1 k (F_Z17 k) (F_Z18 k)) (B := fun k g => u_Z3_L1 (B_Z3_L1b k (F_Z17 k) (F_Z18 k) g)) (Q := u_Z3_L1 Q) (fun _ _ _ => rfl) (u_Z3_L1 I) (u_Z3_L1 μ)
    (fun t ht again hag h => step t.1 t.2.1 t.2.2.1 t.2.2.2.1.1 t.2.2.2.2.1 t.2.2.2.2.2.1 ht again hag fun y0 y1 y2 y3 y4 y5 => h (y0, y1, y2, (y3, ()), y4, y5, ())) (a0, a1, a2, (a3, ()), a4, a5, ())
abbrev R_Z13 : Type := Option ((Int × Int × Unit) × ((Int × Unit) × Unit))
abbrev C_Z13 : Type := List Int → Int → Int → Int → R_Z13
def B_Z13 (k : Nat) (c_Z48 : C_Z48) (data : List Int) (a b swaps : Int) : R_Z13 :=
  chk (inb b data.length) <|
  chk (inb a data.length) <|
  (c_Z48 (rdx (0 : Int) data b) (rdx (0 : Int) data a)).bind fun r18 =>
  bif r18.1.1 then
    some ((b, a, ()), ((w64 (swaps + 1), ()), ()))
  else
    some ((a, b, ()), ((swaps, ()), ()))
def F_Z13 : Nat → C_Z13
  | 0, _, _, _, _ => none
  | k + 1, data, a, b, swaps => B_Z13 k (F_Z48 k) data a b swaps
theorem tot_Z13 {data a b swaps : _} {Q : _ → Prop} (h : Tot (fun σ => B_Z13 (σ 0) (F_Z48 (σ 0)) data a b swaps) Q) : Tot (fun σ => F_Z13 (σ 0) data a b swaps) Q :=
  Tot.call (F := fun k => F_Z13 k data a b swaps) (B := fun k => B_Z13 k (F_Z48 k) data a b swaps) (fun k => rfl) h
abbrev R_Z12 : Type := Option ((Int × Unit) × ((Int × Unit) × Unit))
abbrev C_Z12 : Type := List Int → Int → Int → Int → Int → R_Z12
def B_Z12 (k : Nat) (c_Z13 : C_Z13) (data : List Int) (a b c swaps : Int) : R_Z12 :=
  (c_Z13 data a b swaps).bind fun r16 =>
  (c_Z13 data r16.1.2.1 c r16.2.1.1).bind fun r24 =>
  (c_Z13 data r16.1.1 r24.1.1 r24.2.1.1).bind fun r32 =>
  some ((r32.1.2.1, ()), ((r32.2.1.1, ()), ()))
def F_Z12 : Nat → C_Z12
  | 0, _, _, _, _, _ => none
  | k + 1, data, a, b, c, swaps => B_Z12 k (F_Z13 k) data a b c swaps
theorem tot_Z12 {data a b c swaps : _} {Q : _ → Prop} (h : Tot (fun σ => B_Z12 (σ 0) (F_Z13 (σ 0)) data a b c swaps) Q) : Tot (fun σ => F_Z12 (σ 0) data a b c swaps) Q :=
  Tot.call (F := fun k => F_Z12 k data a b c swaps) (B := fun k => B_Z12 k (F_Z13 k) data a b c swaps) (fun k => rfl) h
abbrev R_Z1 : Type := Option ((Int × Unit) × ((Int × Unit) × Unit))
abbrev C_Z1 : Type := List Int → Int → Int → R_Z1
def B_Z1 (k : Nat) (c_Z12 : C_Z12) (data : List Int) (a swaps : Int) : R_Z1 :=
  (c_Z12 data (w64 (a - 1)) a (w64 (a + 1)) swaps).bind fun r14 =>
  some ((r14.1.1, ()), ((r14.2.1.1, ()), ()))
def F_Z1 : Nat → C_Z1
  | 0, _, _, _ => none
  | k + 1, data, a, swaps => B_Z1 k (F_Z12 k) data a swaps
theorem tot_Z1 {data a swaps : _} {Q : _ → Prop} (h : Tot (fun σ => B_Z1 (σ 0) (F_Z12 (σ 0)) data a swaps) Q) : Tot (fun σ => F_Z1 (σ 0) data a swaps) Q :=
  Tot.call (F := fun k => F_Z1 k data a swaps) (B := fun k => B_Z1 k (F_Z12 k) data a swaps) (fun k => rfl) h
abbrev R_Z6 : Type := Option ((Int × Int × Unit) × (Unit))
abbrev C_Z6 : Type := List Int → Int → Int → R_Z6
def B_Z6_J1 (k : Nat) (c_Z1 : C_Z1) (c_Z12 : C_Z12) (swaps j : Int) : R_Z6 :=
  bif (swaps == 0) then
    some ((j, 1, ()), ())
  else
    bif (swaps == 12) then
      some ((j, 2, ()), ())
    else
      some ((j, 0, ()), ())
def B_Z6_J0 (k : Nat) (c_Z1 : C_Z1) (c_Z12 : C_Z12) (data : List Int) (swaps i j k12 : Int) : R_Z6 :=
  (c_Z12 data i j k12 swaps).bind fun r48 =>
  jn (fun t => B_Z6_J1 k c_Z1 c_Z12 t.1.1 t.2.1) ((r48.2.1.1, ()), r48.1.1, ())
def B_Z6 (k : Nat) (c_Z1 : C_Z1) (c_Z12 : C_Z12) (data : List Int) (a b : Int) : R_Z6 :=
  bif decide ((w64 (b - a)) ≥ 8) then
    bif decide ((w64 (b - a)) ≥ 50) then
      (c_Z1 data (w64 (a + (w64 ((w64 ((w64 (b - a)).tdiv 4)) * 1)))) 0).bind fun r37 =>
      (c_Z1 data (w64 (a + (w64 ((w64 ((w64 (b - a)).tdiv 4)) * 2)))) r37.2.1.1).bind fun r40 =>
      (c_Z1 data (w64 (a + (w64 ((w64 ((w64 (b - a)).tdiv 4)) * 3)))) r40.2.1.1).bind fun r43 =>
      jn (fun t => B_Z6_J0 k c_Z1 c_Z12 t.1 t.2.1.1 t.2.2.1 t.2.2.2.1 t.2.2.2.2.1) (data, (r43.2.1.1, ()), r37.1.1, r40.1.1, r43.1.1, ())
    else
      jn (fun t => B_Z6_J0 k c_Z1 c_Z12 t.1 t.2.1.1 t.2.2.1 t.2.2.2.1 t.2.2.2.2.1) (data, (0, ()), w64 (a + (w64 ((w64 ((w64 (b - a)).tdiv 4)) * 1))), w64 (a + (w64 ((w64 ((w64 (b - a)).tdiv 4)) * 2))), w64 (a + (w64 ((w64 ((w64 (b - a)).tdiv 4)) * 3))), ())
  else
    jn (fun t => B_Z6_J1 k c_Z1 c_Z12 t.1.1 t.2.1) ((0, ()), w64 (a + (w64 ((w64 ((w64 (b - a)).tdiv 4)) * 2))), ())
def F_Z6 : Nat → C_Z6
  | 0, _, _, _ => none
  | k + 1, data, a, b => B_Z6 k (F_Z1 k) (F_Z12 k) data a b
theorem tot_Z6 {data a b : _} {Q : _ → Prop} (h : Tot (fun σ => B_Z6 (σ 0) (F_Z1 (σ 0)) (F_Z12 (σ 0)) data a b) Q) : Tot (fun σ => F_Z6 (σ 0) data a b) Q :=
  Tot.call (F := fun k => F_Z6 k data a b) (B := fun k => B_Z6 k (F_Z1 k) (F_Z12 k) data a b) (fun k => rfl) h
abbrev R_Z5 : Type := Option ((Unit) × (List Int × Unit))
abbrev C_Z5 : Type := List Int → Int → Int → R_Z5
abbrev T_Z5_L0 : Type := List Int × Int × Int × Unit
def B_Z5_L0b (k : Nat) (again0 : T_Z5_L0 → R_Z5) (data : List Int) (i j : Int) : R_Z5 :=
  bif decide (i < j) then
    chk (inb j data.length) <|
    chk (decide (j.toNat < data.length)) <|
    chk (inb i data.length) <|
    chk (decide (i.toNat < data.length)) <|
    chk (inb i data.length) <|
    chk (decide (i.toNat < data.length)) <|
    chk (inb j (data.set i.toNat (data.getD j.toNat (0 : Int))).length) <|
    chk (decide (j.toNat < (data.set i.toNat (data.getD j.toNat (0 : Int))).length)) <|
    again0 (((data.set i.toNat (data.getD j.toNat (0 : Int))).set j.toNat (data.getD i.toNat (0 : Int))), w64 (i + 1), w64 (j - 1), ())
  else
    some ((), (data, ()))
def B_Z5_L0 (k : Nat) (n : Nat) (t : T_Z5_L0) : R_Z5 :=
  lfix n (fun again t => B_Z5_L0b k again t.1 t.2.1 t.2.2.1) t
def B_Z5 (k : Nat) (data : List Int) (a b : Int) : R_Z5 :=
  B_Z5_L0 k k (data, a, w64 (b - 1), ())
def F_Z5 : Nat → C_Z5
  | 0, _, _, _ => none
  | k + 1, data, a, b => B_Z5 k data a b
theorem tot_Z5 {data a b : _} {Q : _ → Prop} (h : Tot (fun σ => B_Z5 (σ 0) data a b) Q) : Tot (fun σ => F_Z5 (σ 0) data a b) Q :=
  Tot.call (F := fun k => F_Z5 k data a b) (B := fun k => B_Z5 k data a b) (fun k => rfl) h
abbrev A_Z5_L0 (Z : Type) : Type := List Int → Int → Int → Z
abbrev u_Z5_L0 {Z : Type} (f : A_Z5_L0 Z) (t : T_Z5_L0) : Z := f t.1 t.2.1 t.2.2.1
theorem loop_Z5_L0 {Q : A_Z5_L0 (((Unit) × (List Int × Unit)) → Prop)} (I : A_Z5_L0 Prop) (μ : A_Z5_L0 Nat)
    (step : ∀ a0 a1 a2, I a0 a1 a2 → ∀ again : (Nat → Nat) → T_Z5_L0 → R_Z5, Dep 2 again → (∀ y0 y1 y2, I y0 y1 y2 → μ y0 y1 y2 < μ a0 a1 a2 → Tot (fun σ => again σ (y0, y1, y2, ())) (Q y0 y1 y2)) →
      Tot (fun σ => B_Z5_L0b (σ 0) (again σ) a0 a1 a2) (Q a0 a1 a2)) :
    ∀ a0 a1 a2, I a0 a1 a2 → Tot (fun σ => B_Z5_L0 (σ 0) (σ 0) (a0, a1, a2, ())) (Q a0 a1 a2) := fun a0 a1 a2 => Tot.loop0 (L := fun k => B_Z5_L0 k) (B := fun k g => u_Z5_L0 (B_Z5_L0b k g)) (Q := u_Z5_L0 Q) (fun _ _ _ => rfl) (u_Z5_L0 I) (u_Z5_L0 μ)
    (fun t ht again hag h => step t.1 t.2.1 t.2.2.1 ht again hag fun y0 y1 y2 => h (y0, y1, y2, ())) (a0, a1, a2, ())
abbrev R_Z0 : Type := Option ((Bool × Unit) × (List Int × Unit))
abbrev C_Z0 : Type := List Int → Int → Int → R_Z0
abbrev T_Z0_L4 : Type := List Int × Int × Int × Int × Int × Int × Unit
abbrev T_Z0_L2 : Type := List Int × Int × Int × Int × Int × Int × Unit
abbrev T_Z0_L1 : Type := List Int × Int × Int × Int × Int × Unit
abbrev T_Z0_L6 : Type := List Int × Int × Int × Int × Int × Unit
def B_Z0_J5 (k : Nat) (c_Z48 : C_Z48) (again6 : T_Z0_L6 → R_Z0) (data : List Int) (a b i j : Int) : R_Z0 :=
  again6 (data, a, b, i, w64 (j + 1), ())
def B_Z0_L4b (k : Nat) (c_Z48 : C_Z48) (again6 : T_Z0_L6 → R_Z0) (again4 : T_Z0_L4 → R_Z0) (data : List Int) (a b i j j10 : Int) : R_Z0 :=
  bif decide (j10 < b) then
    chk (inb j10 data.length) <|
    chk (decide (j10.toNat < data.length)) <|
    chk (inb (w64 (j10 - 1)) data.length) <|
    chk (decide ((w64 (j10 - 1)).toNat < data.length)) <|
    (c_Z48 (data.getD j10.toNat (0 : Int)) (data.getD ((w64 (j10 - 1)).toNat) (0 : Int))).bind fun r115 =>
    bif (!r115.1.1) then
      jn (fun t => B_Z0_J5 k c_Z48 again6 t.1 t.2.1 t.2.2.1 t.2.2.2.1 t.2.2.2.2.1) (data, a, b, i, j, ())
    else
      chk (inb (w64 (j10 - 1)) data.length) <|
      chk (decide ((w64 (j10 - 1)).toNat < data.length)) <|
      chk (inb j10 data.length) <|
      chk (decide (j10.toNat < data.length)) <|
      chk (inb j10 data.length) <|
      chk (decide (j10.toNat < data.length)) <|
      chk (inb (w64 (j10 - 1)) (data.set j10.toNat (data.getD ((w64 (j10 - 1)).toNat) (0 : Int))).length) <|
      chk (decide ((w64 (j10 - 1)).toNat < (data.set j10.toNat (data.getD ((w64 (j10 - 1)).toNat) (0 : Int))).length)) <|
      again4 (((data.set j10.toNat (data.getD ((w64 (j10 - 1)).toNat) (0 : Int))).set ((w64 (j10 - 1)).toNat) (data.getD j10.toNat (0 : Int))), a, b, i, j, w64 (j10 + 1), ())
  else
    jn (fun t => B_Z0_J5 k c_Z48 again6 t.1 t.2.1 t.2.2.1 t.2.2.2.1 t.2.2.2.2.1) (data, a, b, i, j, ())
def B_Z0_L4 (k : Nat) (c_Z48 : C_Z48) (again6 : T_Z0_L6 → R_Z0) (n : Nat) (t : T_Z0_L4) : R_Z0 :=
  lfix n (fun again t => B_Z0_L4b k c_Z48 again6 again t.1 t.2.1 t.2.2.1 t.2.2.2.1 t.2.2.2.2.1 t.2.2.2.2.2.1) t
def B_Z0_J3 (k : Nat) (c_Z48 : C_Z48) (again6 : T_Z0_L6 → R_Z0) (data : List Int) (a b i j : Int) : R_Z0 :=
  bif decide ((w64 (b - i)) ≥ 2) then
    B_Z0_L4 k c_Z48 again6 k (data, a, b, i, j, w64 (i + 1), ())
  else
    jn (fun t => B_Z0_J5 k c_Z48 again6 t.1 t.2.1 t.2.2.1 t.2.2.2.1 t.2.2.2.2.1) (data, a, b, i, j, ())
def B_Z0_L2b (k : Nat) (c_Z48 : C_Z48) (again6 : T_Z0_L6 → R_Z0) (again2 : T_Z0_L2 → R_Z0) (data : List Int) (a b i j j9 : Int) : R_Z0 :=
  bif decide (j9 ≥ 1) then
    chk (inb j9 data.length) <|
    chk (decide (j9.toNat < data.length)) <|
    chk (inb (w64 (j9 - 1)) data.length) <|
    chk (decide ((w64 (j9 - 1)).toNat < data.length)) <|
    (c_Z48 (data.getD j9.toNat (0 : Int)) (data.getD ((w64 (j9 - 1)).toNat) (0 : Int))).bind fun r77 =>
    bif (!r77.1.1) then
      jn (fun t => B_Z0_J3 k c_Z48 again6 t.1 t.2.1 t.2.2.1 t.2.2.2.1 t.2.2.2.2.1) (data, a, b, i, j, ())
    else
      chk (inb (w64 (j9 - 1)) data.length) <|
      chk (decide ((w64 (j9 - 1)).toNat < data.length)) <|
      chk (inb j9 data.length) <|
      chk (decide (j9.toNat < data.length)) <|
      chk (inb j9 data.length) <|
      chk (decide (j9.toNat < data.length)) <|
      chk (inb (w64 (j9 - 1)) (data.set j9.toNat (data.getD ((w64 (j9 - 1)).toNat) (0 : Int))).length) <|
      chk (decide ((w64 (j9 - 1)).toNat < (data.set j9.toNat (data.getD ((w64 (j9 - 1)).toNat) (0 : Int))).length)) <|
      again2 (((data.set j9.toNat (data.getD ((w64 (j9 - 1)).toNat) (0 : Int))).set ((w64 (j9 - 1)).toNat) (data.getD j9.toNat (0 : Int))), a, b, i, j, w64 (j9 - 1), ())
  else
    jn (fun t => B_Z0_J3 k c_Z48 again6 t.1 t.2.1 t.2.2.1 t.2.2.2.1 t.2.2.2.2.1) (data, a, b, i, j, ())
def B_Z0_L2 (k : Nat) (c_Z48 : C_Z48) (again6 : T_Z0_L6 → R_Z0) (n : Nat) (t : T_Z0_L2) : R_Z0 :=
  lfix n (fun again t => B_Z0_L2b k c_Z48 again6 again t.1 t.2.1 t.2.2.1 t.2.2.2.1 t.2.2.2.2.1 t.2.2.2.2.2.1) t
def B_Z0_J0 (k : Nat) (c_Z48 : C_Z48) (again1 : T_Z0_L1 → R_Z0) (again6 : T_Z0_L6 → R_Z0) (data : List Int) (a b i j : Int) (t32 : Bool) : R_Z0 :=
  bif t32 then
    again1 (data, a, b, w64 (i + 1), j, ())
  else
    bif (i == b) then
      some ((true, ()), (data, ()))
    else
      bif decide ((w64 (b - a)) < 50) then
        some ((false, ()), (data, ()))
      else
        chk (inb (w64 (i - 1)) data.length) <|
        chk (decide ((w64 (i - 1)).toNat < data.length)) <|
        chk (inb i data.length) <|
        chk (decide (i.toNat < data.length)) <|
        chk (inb i data.length) <|
        chk (decide (i.toNat < data.length)) <|
        chk (inb (w64 (i - 1)) (data.set i.toNat (data.getD ((w64 (i - 1)).toNat) (0 : Int))).length) <|
        chk (decide ((w64 (i - 1)).toNat < (data.set i.toNat (data.getD ((w64 (i - 1)).toNat) (0 : Int))).length)) <|
        bif decide ((w64 (i - a)) ≥ 2) then
          B_Z0_L2 k c_Z48 again6 k (((data.set i.toNat (data.getD ((w64 (i - 1)).toNat) (0 : Int))).set ((w64 (i - 1)).toNat) (data.getD i.toNat (0 : Int))), a, b, i, j, w64 (i - 1), ())
        else
          jn (fun t => B_Z0_J3 k c_Z48 again6 t.1 t.2.1 t.2.2.1 t.2.2.2.1 t.2.2.2.2.1) (((data.set i.toNat (data.getD ((w64 (i - 1)).toNat) (0 : Int))).set ((w64 (i - 1)).toNat) (data.getD i.toNat (0 : Int))), a, b, i, j, ())
def B_Z0_L1b (k : Nat) (c_Z48 : C_Z48) (again6 : T_Z0_L6 → R_Z0) (again1 : T_Z0_L1 → R_Z0) (data : List Int) (a b i j : Int) : R_Z0 :=
  bif decide (i < b) then
    chk (inb i data.length) <|
    chk (decide (i.toNat < data.length)) <|
    chk (inb (w64 (i - 1)) data.length) <|
    chk (decide ((w64 (i - 1)).toNat < data.length)) <|
    (c_Z48 (data.getD i.toNat (0 : Int)) (data.getD ((w64 (i - 1)).toNat) (0 : Int))).bind fun r30 =>
    jn (fun t => B_Z0_J0 k c_Z48 again1 again6 t.1 t.2.1 t.2.2.1 t.2.2.2.1 t.2.2.2.2.1 t.2.2.2.2.2.1) (data, a, b, i, j, (!r30.1.1), ())
  else
    jn (fun t => B_Z0_J0 k c_Z48 again1 again6 t.1 t.2.1 t.2.2.1 t.2.2.2.1 t.2.2.2.2.1 t.2.2.2.2.2.1) (data, a, b, i, j, false, ())
def B_Z0_L1 (k : Nat) (c_Z48 : C_Z48) (again6 : T_Z0_L6 → R_Z0) (n : Nat) (t : T_Z0_L1) : R_Z0 :=
  lfix n (fun again t => B_Z0_L1b k c_Z48 again6 again t.1 t.2.1 t.2.2.1 t.2.2.2.1 t.2.2.2.2.1) t
def B_Z0_L6b (k : Nat) (c_Z48 : C_Z48) (again6 : T_Z0_L6 → R_Z0) (data : List Int) (a b i j : Int) : R_Z0 :=
  bif decide (j < 5) then
    B_Z0_L1 k c_Z48 again6 k (data, a, b, i, j, ())
  else
    some ((false, ()), (data, ()))
def B_Z0_L6 (k : Nat) (c_Z48 : C_Z48) (n : Nat) (t : T_Z0_L6) : R_Z0 :=
  lfix n (fun again t => B_Z0_L6b k c_Z48 again t.1 t.2.1 t.2.2.1 t.2.2.2.1 t.2.2.2.2.1) t
def B_Z0 (k : Nat) (c_Z48 : C_Z48) (data : List Int) (a b : Int) : R_Z0 :=
  B_Z0_L6 k c_Z48 k (data, a, b, w64 (a + 1), 0, ())
def F_Z0 : Nat → C_Z0
  | 0, _, _, _ => none
  | k + 1, data, a, b => B_Z0 k (F_Z48 k) data a b
theorem tot_Z0 {data a b : _} {Q : _ → Prop} (h : Tot (fun σ => B_Z0 (σ 0) (F_Z48 (σ 0)) data a b) Q) : Tot (fun σ => F_Z0 (σ 0) data a b) Q :=
  Tot.call (F := fun k => F_Z0 k data a b) (B := fun k => B_Z0 k (F_Z48 k) data a b) (fun k => rfl) h
abbrev A_Z0_L4 (Z : Type) : Type := List Int → Int → Int → Int → Int → Int → Z
abbrev u_Z0_L4 {Z : Type} (f : A_Z0_L4 Z) (t : T_Z0_L4) : Z := f t.1 t.2.1 t.2.2.1 t.2.2.2.1 t.2.2.2.2.1 t.2.2.2.2.2.1
theorem loop_Z0_L4 {again6 : (Nat → Nat) → T_Z0_L6 → R_Z0} (hag6 : Dep 2 again6) {Q : A_Z0_L4 (((Bool × Unit) × (List Int × Unit)) → Prop)} (I : A_Z0_L4 Prop) (μ : A_Z0_L4 Nat)
    (step : ∀ a0 a1 a2 a3 a4 a5, I a0 a1 a2 a3 a4 a5 → ∀ again : (Nat → Nat) → T_Z0_L4 → R_Z0, Dep 3 again → (∀ y0 y1 y2 y3 y4 y5, I y0 y1 y2 y3 y4 y5 → μ y0 y1 y2 y3 y4 y5 < μ a0 a1 a2 a3 a4 a5 → Tot (fun σ => again σ (y0, y1, y2, y3, y4, y5, ())) (Q y0 y1 y2 y3 y4 y5)) →
      Tot (fun σ => B_Z0_L4b (σ 0) (F_Z48 (σ 0)) (again6 σ) (again σ) a0 a1 a2 a3 a4 a5) (Q a0 a1 a2 a3 a4 a5)) :
    ∀ a0 a1 a2 a3 a4 a5, I a0 a1 a2 a3 a4 a5 → Tot (fun σ => B_Z0_L4 (σ 0) (F_Z48 (σ 0)) (again6 σ) (σ 0) (a0, a1, a2, a3, a4, a5, ())) (Q a0 a1 a2 a3 a4 a5) := fun a0 a1 a2 a3 a4 a5 => Tot.loop (L := fun σ n t => B_Z0_L4 (σ 0) (F_Z48 (σ 0)) (again6 σ) n t) (B := fun σ g => u_Z0_L4 (B_Z0_L4b (σ 0) (F_Z48 (σ 0)) (again6 σ) g)) (Q := u_Z0_L4 Q) 2 (by decide)
    (fun s s' h => by have e0 : s 0 = s' 0 := h 0 (by decide); simp only [e0, hag6 s s' h]) (fun s s' h => by have e0 : s 0 = s' 0 := h 0 (by decide); simp only [e0, hag6 s s' h]) (fun _ _ _ => rfl) (u_Z0_L4 I) (u_Z0_L4 μ)
    (fun t ht again hag h => step t.1 t.2.1 t.2.2.1 t.2.2.2.1 t.2.2.2.2.1 t.2.2.2.2.2.1 ht again hag fun y0 y1 y2 y3 y4 y5 => h (y0, y1, y2, y3, y4, y5, ())) (a0, a1, a2, a3, a4, a5, ())
abbrev A_Z0_L2 (Z : Type) : Type := List Int → Int → Int → Int → Int → Int → Z
abbrev u_Z0_L2 {Z : Type} (f : A_Z0_L2 Z) (t : T_Z0_L2) : Z := f t.1 t.2.1 t.2.2.1 t.2.2.2.1 t.2.2.2.2.1 t.2.2.2.2.2.1
theorem loop_Z0_L2 {again6 : (Nat → Nat) → T_Z0_L6 → R_Z0} (hag6 : Dep 2 again6) {Q : A_Z0_L2 (((Bool × Unit) × (List Int × Unit)) → Prop)} (I : A_Z0_L2 Prop) (μ : A_Z0_L2 Nat)
    (step : ∀ a0 a1 a2 a3 a4 a5, I a0 a1 a2 a3 a4 a5 → ∀ again : (Nat → Nat) → T_Z0_L2 → R_Z0, Dep 3 again → (∀ y0 y1 y2 y3 y4 y5, I y0 y1 y2 y3 y4 y5 → μ y0 y1 y2 y3 y4 y5 < μ a0 a1 a2 a3 a4 a5 → Tot (fun σ => again σ (y0, y1, y2, y3, y4, y5, ())) (Q y0 y1 y2 y3 y4 y5)) →
      Tot (fun σ => B_Z0_L2b (σ 0) (F_Z48 (σ 0)) (again6 σ) (again σ) a0 a1 a2 a3 a4 a5) (Q a0 a1 a2 a3 a4 a5)) :
    ∀ a0 a1 a2 a3 a4 a5, I a0 a1 a2 a3 a4 a5 → Tot (fun σ => B_Z0_L2 (σ 0) (F_Z48 (σ 0)) (again6 σ) (σ 0) (a0, a1, a2, a3, a4, a5, ())) (Q a0 a1 a2 a3 a4 a5) := fun a0 a1 a2 a3 a4 a5 => Tot.loop (L := fun σ n t => B_Z0_L2 (σ 0) (F_Z48 (σ 0)) (again6 σ) n t) (B := fun σ g => u_Z0_L2 (B_Z0_L2b (σ 0) (F_Z48 (σ 0)) (again6 σ) g)) (Q := u_Z0_L2 Q) 2 (by decide)
    (fun s s' h => by have e0 : s 0 = s' 0 := h 0 (by decide); simp only [e0, hag6 s s' h]) (fun s s' h => by have e0 : s 0 = s' 0 := h 0 (by decide); simp only [e0, hag6 s s' h]) (fun _ _ _ => rfl) (u_Z0_L2 I) (u_Z0_L2 μ)
    (fun t ht again hag h => step t.1 t.2.1 t.2.2.1 t.2.2.2.1 t.2.2.2.2.1 t.2.2.2.2.2.1 ht again hag fun y0 y1 y2 y3 y4 y5 => h (y0, y1, y2, y3, y4, y5, ())) (a0, a1, a2, a3, a4, a5, ())
abbrev A_Z0_L1 (Z : Type) : Type := List Int → Int → Int → Int → Int → Z
abbrev u_Z0_L1 {Z : Type} (f : A_Z0_L1 Z) (t : T_Z0_L1) : Z := f t.1 t.2.1 t.2.2.1 t.2.2.2.1 t.2.2.2.2.1
theorem loop_Z0_L1 {again6 : (Nat → Nat) → T_Z0_L6 → R_Z0} (hag6 : Dep 2 again6) {Q : A_Z0_L1 (((Bool × Unit) × (List Int × Unit)) → Prop)} (I : A_Z0_L1 Prop) (μ : A_Z0_L1 Nat)
    (step : ∀ a0 a1 a2 a3 a4, I a0 a1 a2 a3 a4 → ∀ again : (Nat → Nat) → T_Z0_L1 → R_Z0, Dep 3 again → (∀ y0 y1 y2 y3 y4, I y0 y1 y2 y3 y4 → μ y0 y1 y2 y3 y4 < μ a0 a1 a2 a3 a4 → Tot (fun σ => again σ (y0, y1, y2, y3, y4, ())) (Q y0 y1 y2 y3 y4)) →
      Tot (fun σ => B_Z0_L1b (σ 0) (F_Z48 (σ 0)) (again6 σ) (again σ) a0 a1 a2 a3 a4) (Q a0 a1 a2 a3 a4)) :
    ∀ a0 a1 a2 a3 a4, I a0 a1 a2 a3 a4 → Tot (fun σ => B_Z0_L1 (σ 0) (F_Z48 (σ 0)) (again6 σ) (σ 0) (a0, a1, a2, a3, a4, ())) (Q a0 a1 a2 a3 a4) := fun a0 a1 a2 a3 a4 => Tot.loop (L := fun σ n t => B_Z0_L1 (σ 0) (F_Z48 (σ 0)) (again6 σ) n t) (B := fun σ g => u_Z0_L1 (B_Z0_L1b (σ 0) (F_Z48 (σ 0)) (again6 σ) g)) (Q := u_Z0_L1 Q) 2 (by decide)
    (fun s s' h => by have e0 : s 0 = s' 0 := h 0 (by decide); simp only [e0, hag6 s s' h]) (fun s s' h => by have e0 : s 0 = s' 0 := h 0 (by decide); simp only [e0, hag6 s s' h]) (fun _ _ _ => rfl) (u_Z0_L1 I) (u_Z0_L1 μ)
    (fun t ht again hag h => step t.1 t.2.1 t.2.2.1 t.2.2.2.1 t.2.2.2.2.1 ht again hag fun y0 y1 y2 y3 y4 => h (y0, y1, y2, y3, y4, ())) (a0, a1, a2, a3, a4, ())
abbrev A_Z0_L6 (Z : Type) : Type := List Int → Int → Int → Int → Int → Z
abbrev u_Z0_L6 {Z : Type} (f : A_Z0_L6 Z) (t : T_Z0_L6) : Z := f t.1 t.2.1 t.2.2.1 t.2.2.2.1 t.2.2.2.2.1
theorem loop_Z0_L6 {Q : A_Z0_L6 (((Bool × Unit) × (List Int × Unit)) → Prop)} (I : A_Z0_L6 Prop) (μ : A_Z0_L6 Nat)
    (step : ∀ a0 a1 a2 a3 a4, I a0 a1 a2 a3 a4 → ∀ again : (Nat → Nat) → T_Z0_L6 → R_Z0, Dep 2 again → (∀ y0 y1 y2 y3 y4, I y0 y1 y2 y3 y4 → μ y0 y1 y2 y3 y4 < μ a0 a1 a2 a3 a4 → Tot (fun σ => again σ (y0, y1, y2, y3, y4, ())) (Q y0 y1 y2 y3 y4)) →
      Tot (fun σ => B_Z0_L6b (σ 0) (F_Z48 (σ 0)) (again σ) a0 a1 a2 a3 a4) (Q a0 a1 a2 a3 a4)) :
    ∀ a0 a1 a2 a3 a4, I a0 a1 a2 a3 a4 → Tot (fun σ => B_Z0_L6 (σ 0) (F_Z48 (σ 0)) (σ 0) (a0, a1, a2, a3, a4, ())) (Q a0 a1 a2 a3 a4) := fun a0 a1 a2 a3 a4 => Tot.loop0 (L := fun k => B_Z0_L6 k (F_Z48 k)) (B := fun k g => u_Z0_L6 (B_Z0_L6b k (F_Z48 k) g)) (Q := u_Z0_L6 Q) (fun _ _ _ => rfl) (u_Z0_L6 I) (u_Z0_L6 μ)
    (fun t ht again hag h => step t.1 t.2.1 t.2.2.1 t.2.2.2.1 t.2.2.2.2.1 ht again hag fun y0 y1 y2 y3 y4 => h (y0, y1, y2, y3, y4, ())) (a0, a1, a2, a3, a4, ())
abbrev R_Z2 : Type := Option ((Int × Unit) × (List Int × Unit))
abbrev C_Z2 : Type := List Int → Int → Int → Int → R_Z2
abbrev T_Z2_L3 : Type := List Int × Int × Int × Int × Unit
abbrev T_Z2_L1 : Type := List Int × Int × Int × Int × Unit
abbrev T_Z2_L4 : Type := List Int × Int × Int × Int × Unit
def B_Z2_J2 (k : Nat) (c_Z48 : C_Z48) (again3 : T_Z2_L3 → R_Z2) (again4 : T_Z2_L4 → R_Z2) (data : List Int) (a i j : Int) (t59 : Bool) : R_Z2 :=
  bif t59 then
    again3 (data, a, i, w64 (j - 1), ())
  else
    bif decide (i > j) then
      some ((i, ()), (data, ()))
    else
      chk (inb j data.length) <|
      chk (decide (j.toNat < data.length)) <|
      chk (inb i data.length) <|
      chk (decide (i.toNat < data.length)) <|
      chk (inb i data.length) <|
      chk (decide (i.toNat < data.length)) <|
      chk (inb j (data.set i.toNat (data.getD j.toNat (0 : Int))).length) <|
      chk (decide (j.toNat < (data.set i.toNat (data.getD j.toNat (0 : Int))).length)) <|
      again4 (((data.set i.toNat (data.getD j.toNat (0 : Int))).set j.toNat (data.getD i.toNat (0 : Int))), a, w64 (i + 1), w64 (j - 1), ())
def B_Z2_L3b (k : Nat) (c_Z48 : C_Z48) (again4 : T_Z2_L4 → R_Z2) (again3 : T_Z2_L3 → R_Z2) (data : List Int) (a i j : Int) : R_Z2 :=
  bif decide (i ≤ j) then
    chk (inb a data.length) <|
    chk (decide (a.toNat < data.length)) <|
    chk (inb j data.length) <|
    chk (decide (j.toNat < data.length)) <|
    (c_Z48 (data.getD a.toNat (0 : Int)) (data.getD j.toNat (0 : Int))).bind fun r58 =>
    jn (fun t => B_Z2_J2 k c_Z48 again3 again4 t.1 t.2.1 t.2.2.1 t.2.2.2.1 t.2.2.2.2.1) (data, a, i, j, r58.1.1, ())
  else
    jn (fun t => B_Z2_J2 k c_Z48 again3 again4 t.1 t.2.1 t.2.2.1 t.2.2.2.1 t.2.2.2.2.1) (data, a, i, j, false, ())
def B_Z2_L3 (k : Nat) (c_Z48 : C_Z48) (again4 : T_Z2_L4 → R_Z2) (n : Nat) (t : T_Z2_L3) : R_Z2 :=
  lfix n (fun again t => B_Z2_L3b k c_Z48 again4 again t.1 t.2.1 t.2.2.1 t.2.2.2.1) t
def B_Z2_J0 (k : Nat) (c_Z48 : C_Z48) (again1 : T_Z2_L1 → R_Z2) (again4 : T_Z2_L4 → R_Z2) (data : List Int) (a i j : Int) (t43 : Bool) : R_Z2 :=
  bif t43 then
    again1 (data, a, w64 (i + 1), j, ())
  else
    B_Z2_L3 k c_Z48 again4 k (data, a, i, j, ())
def B_Z2_L1b (k : Nat) (c_Z48 : C_Z48) (again4 : T_Z2_L4 → R_Z2) (again1 : T_Z2_L1 → R_Z2) (data : List Int) (a i j : Int) : R_Z2 :=
  bif decide (i ≤ j) then
    chk (inb a data.length) <|
    chk (decide (a.toNat < data.length)) <|
    chk (inb i data.length) <|
    chk (decide (i.toNat < data.length)) <|
    (c_Z48 (data.getD a.toNat (0 : Int)) (data.getD i.toNat (0 : Int))).bind fun r41 =>
    jn (fun t => B_Z2_J0 k c_Z48 again1 again4 t.1 t.2.1 t.2.2.1 t.2.2.2.1 t.2.2.2.2.1) (data, a, i, j, (!r41.1.1), ())
  else
    jn (fun t => B_Z2_J0 k c_Z48 again1 again4 t.1 t.2.1 t.2.2.1 t.2.2.2.1 t.2.2.2.2.1) (data, a, i, j, false, ())
def B_Z2_L1 (k : Nat) (c_Z48 : C_Z48) (again4 : T_Z2_L4 → R_Z2) (n : Nat) (t : T_Z2_L1) : R_Z2 :=
  lfix n (fun again t => B_Z2_L1b k c_Z48 again4 again t.1 t.2.1 t.2.2.1 t.2.2.2.1) t
def B_Z2_L4b (k : Nat) (c_Z48 : C_Z48) (again4 : T_Z2_L4 → R_Z2) (data : List Int) (a i j : Int) : R_Z2 :=
  B_Z2_L1 k c_Z48 again4 k (data, a, i, j, ())
def B_Z2_L4 (k : Nat) (c_Z48 : C_Z48) (n : Nat) (t : T_Z2_L4) : R_Z2 :=
  lfix n (fun again t => B_Z2_L4b k c_Z48 again t.1 t.2.1 t.2.2.1 t.2.2.2.1) t
def B_Z2 (k : Nat) (c_Z48 : C_Z48) (data : List Int) (a b pivot : Int) : R_Z2 :=
  chk (inb pivot data.length) <|
  chk (decide (pivot.toNat < data.length)) <|
  chk (inb a data.length) <|
  chk (decide (a.toNat < data.length)) <|
  chk (inb a data.length) <|
  chk (decide (a.toNat < data.length)) <|
  chk (inb pivot (data.set a.toNat (data.getD pivot.toNat (0 : Int))).length) <|
  chk (decide (pivot.toNat < (data.set a.toNat (data.getD pivot.toNat (0 : Int))).length)) <|
  B_Z2_L4 k c_Z48 k (((data.set a.toNat (data.getD pivot.toNat (0 : Int))).set pivot.toNat (data.getD a.toNat (0 : Int))), a, w64 (a + 1), w64 (b - 1), ())
def F_Z2 : Nat → C_Z2
  | 0, _, _, _, _ => none
  | k + 1, data, a, b, pivot => B_Z2 k (F_Z48 k) data a b pivot
theorem tot_Z2 {data a b pivot : _} {Q : _ → Prop} (h : Tot (fun σ => B_Z2 (σ 0) (F_Z48 (σ 0)) data a b pivot) Q) : Tot (fun σ => F_Z2 (σ 0) data a b pivot) Q :=
  Tot.call (F := fun k => F_Z2 k data a b pivot) (B := fun k => B_Z2 k (F_Z48 k) data a b pivot) (fun k => rfl) h
abbrev A_Z2_L3 (Z : Type) : Type := List Int → Int → Int → Int → Z
abbrev u_Z2_L3 {Z : Type} (f : A_Z2_L3 Z) (t : T_Z2_L3) : Z := f t.1 t.2.1 t.2.2.1 t.2.2.2.1
theorem loop_Z2_L3 {again4 : (Nat → Nat) → T_Z2_L4 → R_Z2} (hag4 : Dep 2 again4) {Q : A_Z2_L3 (((Int × Unit) × (List Int × Unit)) → Prop)} (I : A_Z2_L3 Prop) (μ : A_Z2_L3 Nat)
    (step : ∀ a0 a1 a2 a3, I a0 a1 a2 a3 → ∀ again : (Nat → Nat) → T_Z2_L3 → R_Z2, Dep 3 again → (∀ y0 y1 y2 y3, I y0 y1 y2 y3 → μ y0 y1 y2 y3 < μ a0 a1 a2 a3 → Tot (fun σ => again σ (y0, y1, y2, y3, ())) (Q y0 y1 y2 y3)) →
      Tot (fun σ => B_Z2_L3b (σ 0) (F_Z48 (σ 0)) (again4 σ) (again σ) a0 a1 a2 a3) (Q a0 a1 a2 a3)) :
    ∀ a0 a1 a2 a3, I a0 a1 a2 a3 → Tot (fun σ => B_Z2_L3 (σ 0) (F_Z48 (σ 0)) (again4 σ) (σ 0) (a0, a1, a2, a3, ())) (Q a0 a1 a2 a3) := fun a0 a1 a2 a3 => Tot.loop (L := fun σ n t => B_Z2_L3 (σ 0) (F_Z48 (σ 0)) (again4 σ) n t) (B := fun σ g => u_Z2_L3 (B_Z2_L3b (σ 0) (F_Z48 (σ 0)) (again4 σ) g)) (Q := u_Z2_L3 Q) 2 (by decide)
    (fun s s' h => by have e0 : s 0 = s' 0 := h 0 (by decide); simp only [e0, hag4 s s' h]) (fun s s' h => by have e0 : s 0 = s' 0 := h 0 (by decide); simp only [e0, hag4 s s' h]) (fun _ _ _ => rfl) (u_Z2_L3 I) (u_Z2_L3 μ)
    (fun t ht again hag h => step t.1 t.2.1 t.2.2.1 t.2.2.2.1 ht again hag fun y0 y1 y2 y3 => h (y0, y1, y2, y3, ())) (a0, a1, a2, a3, ())
abbrev A_Z2_L1 (Z : Type) : Type := List Int → Int → Int → Int → Z
abbrev u_Z2_L1 {Z : Type} (f : A_Z2_L1 Z) (t : T_Z2_L1) : Z := f t.1 t.2.1 t.2.2.1 t.2.2.2.1
theorem loop_Z2_L1 {again4 : (Nat → Nat) → T_Z2_L4 → R_Z2} (hag4 : Dep 2 again4) {Q : A_Z2_L1 (((Int × Unit) × (List Int × Unit)) → Prop)} (I : A_Z2_L1 Prop) (μ : A_Z2_L1 Nat)
    (step : ∀ a0 a1 a2 a3, I a0 a1 a2 a3 → ∀ again : (Nat → Nat) → T_Z2_L1 → R_Z2, Dep 3 again → (∀ y0 y1 y2 y3, I y0 y1 y2 y3 → μ y0 y1 y2 y3 < μ a0 a1 a2 a3 → Tot (fun σ => again σ (y0, y1, y2, y3, ())) (Q y0 y1 y2 y3)) →
      Tot (fun σ => B_Z2_L1b (σ 0) (F_Z48 (σ 0)) (again4 σ) (again σ) a0 a1 a2 a3) (Q a0 a1 a2 a3)) :
    ∀ a0 a1 a2 a3, I a0 a1 a2 a3 → Tot (fun σ => B_Z2_L1 (σ 0) (F_Z48 (σ 0)) (again4 σ) (σ 0) (a0, a1, a2, a3, ())) (Q a0 a1 a2 a3) := fun a0 a1 a2 a3 => Tot.loop (L := fun σ n t => B_Z2_L1 (σ 0) (F_Z48 (σ 0)) (again4 σ) n t) (B := fun σ g => u_Z2_L1 (B_Z2_L1b (σ 0) (F_Z48 (σ 0)) (again4 σ) g)) (Q := u_Z2_L1 Q) 2 (by decide)
    (fun s s' h => by have e0 : s 0 = s' 0 := h 0 (by decide); simp only [e0, hag4 s s' h]) (fun s s' h => by have e0 : s 0 = s' 0 := h 0 (by decide); simp only [e0, hag4 s s' h]) (fun _ _ _ => rfl) (u_Z2_L1 I) (u_Z2_L1 μ)
    (fun t ht again hag h => step t.1 t.2.1 t.2.2.1 t.2.2.2.1 ht again hag fun y0 y1 y2 y3 => h (y0, y1, y2, y3, ())) (a0, a1, a2, a3, ())
abbrev A_Z2_L4 (Z : Type) : Type := List Int → Int → Int → Int → Z
abbrev u_Z2_L4 {Z : Type} (f : A_Z2_L4 Z) (t : T_Z2_L4) : Z := f t.1 t.2.1 t.2.2.1 t.2.2.2.1
theorem loop_Z2_L4 {Q : A_Z2_L4 (((Int × Unit) × (List Int × Unit)) → Prop)} (I : A_Z2_L4 Prop) (μ : A_Z2_L4 Nat)
    (step : ∀ a0 a1 a2 a3, I a0 a1 a2 a3 → ∀ again : (Nat → Nat) → T_Z2_L4 → R_Z2, Dep 2 again → (∀ y0 y1 y2 y3, I y0 y1 y2 y3 → μ y0 y1 y2 y3 < μ a0 a1 a2 a3 → Tot (fun σ => again σ (y0, y1, y2, y3, ())) (Q y0 y1 y2 y3)) →
      Tot (fun σ => B_Z2_L4b (σ 0) (F_Z48 (σ 0)) (again σ) a0 a1 a2 a3) (Q a0 a1 a2 a3)) :
    ∀ a0 a1 a2 a3, I a0 a1 a2 a3 → Tot (fun σ => B_Z2_L4 (σ 0) (F_Z48 (σ 0)) (σ 0) (a0, a1, a2, a3, ())) (Q a0 a1 a2 a3) := fun a0 a1 a2 a3 => Tot.loop0 (L := fun k => B_Z2_L4 k (F_Z48 k)) (B := fun k g => u_Z2_L4 (B_Z2_L4b k (F_Z48 k) g)) (Q := u_Z2_L4 Q) (fun _ _ _ => rfl) (u_Z2_L4 I) (u_Z2_L4 μ)
    (fun t ht again hag h => step t.1 t.2.1 t.2.2.1 t.2.2.2.1 ht again hag fun y0 y1 y2 y3 => h (y0, y1, y2, y3, ())) (a0, a1, a2, a3, ())
abbrev R_Z7 : Type := Option ((Int × Bool × Unit) × (List Int × Unit))
abbrev C_Z7 : Type := List Int → Int → Int → Int → R_Z7
abbrev T_Z7_L7 : Type := List Int × Int × Int × Int × Unit
abbrev T_Z7_L5 : Type := List Int × Int × Int × Int × Unit
abbrev T_Z7_L8 : Type := List Int × Int × Int × Int × Unit
abbrev T_Z7_L3 : Type := List Int × Int × Int × Int × Unit
abbrev T_Z7_L1 : Type := List Int × Int × Int × Int × Unit
def B_Z7_J6 (k : Nat) (c_Z48 : C_Z48) (again7 : T_Z7_L7 → R_Z7) (again8 : T_Z7_L8 → R_Z7) (data : List Int) (a i j : Int) (t129 : Bool) : R_Z7 :=
  bif t129 then
    again7 (data, a, i, w64 (j - 1), ())
  else
    bif decide (i > j) then
      chk (inb a data.length) <|
      chk (decide (a.toNat < data.length)) <|
      chk (inb j data.length) <|
      chk (decide (j.toNat < data.length)) <|
      chk (inb j data.length) <|
      chk (decide (j.toNat < data.length)) <|
      chk (inb a (data.set j.toNat (data.getD a.toNat (0 : Int))).length) <|
      chk (decide (a.toNat < (data.set j.toNat (data.getD a.toNat (0 : Int))).length)) <|
      some ((j, false, ()), (((data.set j.toNat (data.getD a.toNat (0 : Int))).set a.toNat (data.getD j.toNat (0 : Int))), ()))
    else
      chk (inb j data.length) <|
      chk (decide (j.toNat < data.length)) <|
      chk (inb i data.length) <|
      chk (decide (i.toNat < data.length)) <|
      chk (inb i data.length) <|
      chk (decide (i.toNat < data.length)) <|
      chk (inb j (data.set i.toNat (data.getD j.toNat (0 : Int))).length) <|
      chk (decide (j.toNat < (data.set i.toNat (data.getD j.toNat (0 : Int))).length)) <|
      again8 (((data.set i.toNat (data.getD j.toNat (0 : Int))).set j.toNat (data.getD i.toNat (0 : Int))), a, w64 (i + 1), w64 (j - 1), ())
def B_Z7_L7b (k : Nat) (c_Z48 : C_Z48) (again8 : T_Z7_L8 → R_Z7) (again7 : T_Z7_L7 → R_Z7) (data : List Int) (a i j : Int) : R_Z7 :=
  bif decide (i ≤ j) then
    chk (inb j data.length) <|
    chk (decide (j.toNat < data.length)) <|
    chk (inb a data.length) <|
    chk (decide (a.toNat < data.length)) <|
    (c_Z48 (data.getD j.toNat (0 : Int)) (data.getD a.toNat (0 : Int))).bind fun r127 =>
    jn (fun t => B_Z7_J6 k c_Z48 again7 again8 t.1 t.2.1 t.2.2.1 t.2.2.2.1 t.2.2.2.2.1) (data, a, i, j, (!r127.1.1), ())
  else
    jn (fun t => B_Z7_J6 k c_Z48 again7 again8 t.1 t.2.1 t.2.2.1 t.2.2.2.1 t.2.2.2.2.1) (data, a, i, j, false, ())
def B_Z7_L7 (k : Nat) (c_Z48 : C_Z48) (again8 : T_Z7_L8 → R_Z7) (n : Nat) (t : T_Z7_L7) : R_Z7 :=
  lfix n (fun again t => B_Z7_L7b k c_Z48 again8 again t.1 t.2.1 t.2.2.1 t.2.2.2.1) t
def B_Z7_J4 (k : Nat) (c_Z48 : C_Z48) (again5 : T_Z7_L5 → R_Z7) (again8 : T_Z7_L8 → R_Z7) (data : List Int) (a i j : Int) (t112 : Bool) : R_Z7 :=
  bif t112 then
    again5 (data, a, w64 (i + 1), j, ())
  else
    B_Z7_L7 k c_Z48 again8 k (data, a, i, j, ())
def B_Z7_L5b (k : Nat) (c_Z48 : C_Z48) (again8 : T_Z7_L8 → R_Z7) (again5 : T_Z7_L5 → R_Z7) (data : List Int) (a i j : Int) : R_Z7 :=
  bif decide (i ≤ j) then
    chk (inb i data.length) <|
    chk (decide (i.toNat < data.length)) <|
    chk (inb a data.length) <|
    chk (decide (a.toNat < data.length)) <|
    (c_Z48 (data.getD i.toNat (0 : Int)) (data.getD a.toNat (0 : Int))).bind fun r111 =>
    jn (fun t => B_Z7_J4 k c_Z48 again5 again8 t.1 t.2.1 t.2.2.1 t.2.2.2.1 t.2.2.2.2.1) (data, a, i, j, r111.1.1, ())
  else
    jn (fun t => B_Z7_J4 k c_Z48 again5 again8 t.1 t.2.1 t.2.2.1 t.2.2.2.1 t.2.2.2.2.1) (data, a, i, j, false, ())
def B_Z7_L5 (k : Nat) (c_Z48 : C_Z48) (again8 : T_Z7_L8 → R_Z7) (n : Nat) (t : T_Z7_L5) : R_Z7 :=
  lfix n (fun again t => B_Z7_L5b k c_Z48 again8 again t.1 t.2.1 t.2.2.1 t.2.2.2.1) t
def B_Z7_L8b (k : Nat) (c_Z48 : C_Z48) (again8 : T_Z7_L8 → R_Z7) (data : List Int) (a i j : Int) : R_Z7 :=
  B_Z7_L5 k c_Z48 again8 k (data, a, i, j, ())
def B_Z7_L8 (k : Nat) (c_Z48 : C_Z48) (n : Nat) (t : T_Z7_L8) : R_Z7 :=
  lfix n (fun again t => B_Z7_L8b k c_Z48 again t.1 t.2.1 t.2.2.1 t.2.2.2.1) t
def B_Z7_J2 (k : Nat) (c_Z48 : C_Z48) (again3 : T_Z7_L3 → R_Z7) (data : List Int) (a i j : Int) (t60 : Bool) : R_Z7 :=
  bif t60 then
    again3 (data, a, i, w64 (j - 1), ())
  else
    bif decide (i > j) then
      chk (inb a data.length) <|
      chk (decide (a.toNat < data.length)) <|
      chk (inb j data.length) <|
      chk (decide (j.toNat < data.length)) <|
      chk (inb j data.length) <|
      chk (decide (j.toNat < data.length)) <|
      chk (inb a (data.set j.toNat (data.getD a.toNat (0 : Int))).length) <|
      chk (decide (a.toNat < (data.set j.toNat (data.getD a.toNat (0 : Int))).length)) <|
      some ((j, true, ()), (((data.set j.toNat (data.getD a.toNat (0 : Int))).set a.toNat (data.getD j.toNat (0 : Int))), ()))
    else
      chk (inb j data.length) <|
      chk (decide (j.toNat < data.length)) <|
      chk (inb i data.length) <|
      chk (decide (i.toNat < data.length)) <|
      chk (inb i data.length) <|
      chk (decide (i.toNat < data.length)) <|
      chk (inb j (data.set i.toNat (data.getD j.toNat (0 : Int))).length) <|
      chk (decide (j.toNat < (data.set i.toNat (data.getD j.toNat (0 : Int))).length)) <|
      B_Z7_L8 k c_Z48 k (((data.set i.toNat (data.getD j.toNat (0 : Int))).set j.toNat (data.getD i.toNat (0 : Int))), a, w64 (i + 1), w64 (j - 1), ())
def B_Z7_L3b (k : Nat) (c_Z48 : C_Z48) (again3 : T_Z7_L3 → R_Z7) (data : List Int) (a i j : Int) : R_Z7 :=
  bif decide (i ≤ j) then
    chk (inb j data.length) <|
    chk (decide (j.toNat < data.length)) <|
    chk (inb a data.length) <|
    chk (decide (a.toNat < data.length)) <|
    (c_Z48 (data.getD j.toNat (0 : Int)) (data.getD a.toNat (0 : Int))).bind fun r58 =>
    jn (fun t => B_Z7_J2 k c_Z48 again3 t.1 t.2.1 t.2.2.1 t.2.2.2.1 t.2.2.2.2.1) (data, a, i, j, (!r58.1.1), ())
  else
    jn (fun t => B_Z7_J2 k c_Z48 again3 t.1 t.2.1 t.2.2.1 t.2.2.2.1 t.2.2.2.2.1) (data, a, i, j, false, ())
def B_Z7_L3 (k : Nat) (c_Z48 : C_Z48) (n : Nat) (t : T_Z7_L3) : R_Z7 :=
  lfix n (fun again t => B_Z7_L3b k c_Z48 again t.1 t.2.1 t.2.2.1 t.2.2.2.1) t
def B_Z7_J0 (k : Nat) (c_Z48 : C_Z48) (again1 : T_Z7_L1 → R_Z7) (data : List Int) (a i j : Int) (t43 : Bool) : R_Z7 :=
  bif t43 then
    again1 (data, a, w64 (i + 1), j, ())
  else
    B_Z7_L3 k c_Z48 k (data, a, i, j, ())
def B_Z7_L1b (k : Nat) (c_Z48 : C_Z48) (again1 : T_Z7_L1 → R_Z7) (data : List Int) (a i j : Int) : R_Z7 :=
  bif decide (i ≤ j) then
    chk (inb i data.length) <|
    chk (decide (i.toNat < data.length)) <|
    chk (inb a data.length) <|
    chk (decide (a.toNat < data.length)) <|
    (c_Z48 (data.getD i.toNat (0 : Int)) (data.getD a.toNat (0 : Int))).bind fun r42 =>
    jn (fun t => B_Z7_J0 k c_Z48 again1 t.1 t.2.1 t.2.2.1 t.2.2.2.1 t.2.2.2.2.1) (data, a, i, j, r42.1.1, ())
  else
    jn (fun t => B_Z7_J0 k c_Z48 again1 t.1 t.2.1 t.2.2.1 t.2.2.2.1 t.2.2.2.2.1) (data, a, i, j, false, ())
def B_Z7_L1 (k : Nat) (c_Z48 : C_Z48) (n : Nat) (t : T_Z7_L1) : R_Z7 :=
  lfix n (fun again t => B_Z7_L1b k c_Z48 again t.1 t.2.1 t.2.2.1 t.2.2.2.1) t
def B_Z7 (k : Nat) (c_Z48 : C_Z48) (data : List Int) (a b pivot : Int) : R_Z7 :=
  chk (inb pivot data.length) <|
  chk (decide (pivot.toNat < data.length)) <|
  chk (inb a data.length) <|
  chk (decide (a.toNat < data.length)) <|
  chk (inb a data.length) <|
  chk (decide (a.toNat < data.length)) <|
  chk (inb pivot (data.set a.toNat (data.getD pivot.toNat (0 : Int))).length) <|
  chk (decide (pivot.toNat < (data.set a.toNat (data.getD pivot.toNat (0 : Int))).length)) <|
  B_Z7_L1 k c_Z48 k (((data.set a.toNat (data.getD pivot.toNat (0 : Int))).set pivot.toNat (data.getD a.toNat (0 : Int))), a, w64 (a + 1), w64 (b - 1), ())
def F_Z7 : Nat → C_Z7
  | 0, _, _, _, _ => none
  | k + 1, data, a, b, pivot => B_Z7 k (F_Z48 k) data a b pivot
theorem tot_Z7 {data a b pivot : _} {Q : _ → Prop} (h : Tot (fun σ => B_Z7 (σ 0) (F_Z48 (σ 0)) data a b pivot) Q) : Tot (fun σ => F_Z7 (σ 0) data a b pivot) Q :=
  Tot.call (F := fun k => F_Z7 k data a b pivot) (B := fun k => B_Z7 k (F_Z48 k) data a b pivot) (fun k => rfl) h
abbrev A_Z7_L7 (Z : Type) : Type := List Int → Int → Int → Int → Z
abbrev u_Z7_L7 {Z : Type} (f : A_Z7_L7 Z) (t : T_Z7_L7) : Z := f t.1 t.2.1 t.2.2.1 t.2.2.2.1
theorem loop_Z7_L7 {again8 : (Nat → Nat) → T_Z7_L8 → R_Z7} (hag8 : Dep 2 again8) {Q : A_Z7_L7 (((Int × Bool × Unit) × (List Int × Unit)) → Prop)} (I : A_Z7_L7 Prop) (μ : A_Z7_L7 Nat)
    (step : ∀ a0 a1 a2 a3, I a0 a1 a2 a3 → ∀ again : (Nat → Nat) → T_Z7_L7 → R_Z7, Dep 3 again → (∀ y0 y1 y2 y3, I y0 y1 y2 y3 → μ y0 y1 y2 y3 < μ a0 a1 a2 a3 → Tot (fun σ => again σ (y0, y1, y2, y3, ())) (Q y0 y1 y2 y3)) →
      Tot (fun σ => B_Z7_L7b (σ 0) (F_Z48 (σ 0)) (again8 σ) (again σ) a0 a1 a2 a3) (Q a0 a1 a2 a3)) :
    ∀ a0 a1 a2 a3, I a0 a1 a2 a3 → Tot (fun σ => B_Z7_L7 (σ 0) (F_Z48 (σ 0)) (again8 σ) (σ 0) (a0, a1, a2, a3, ())) (Q a0 a1 a2 a3) := fun a0 a1 a2 a3 => Tot.loop (L := fun σ n t => B_Z7_L7 (σ 0) (F_Z48 (σ 0)) (again8 σ) n t) (B := fun σ g => u_Z7_L7 (B_Z7_L7b (σ 0) (F_Z48 (σ 0)) (again8 σ) g)) (Q := u_Z7_L7 Q) 2 (by decide)
    (fun s s' h => by have e0 : s 0 = s' 0 := h 0 (by decide); simp only [e0, hag8 s s' h]) (fun s s' h => by have e0 : s 0 = s' 0 := h 0 (by decide); simp only [e0, hag8 s s' h]) (fun _ _ _ => rfl) (u_Z7_L7 I) (u_Z7_L7 μ)
    (fun t ht again hag h => step t.1 t.2.1 t.2.2.1 t.2.2.2.1 ht again hag fun y0 y1 y2 y3 => h (y0, y1, y2, y3, ())) (a0, a1, a2, a3, ())
abbrev A_Z7_L5 (Z : Type) : Type := List Int → Int → Int → Int → Z
abbrev u_Z7_L5 {Z : Type} (f : A_Z7_L5 Z) (t : T_Z7_L5) : Z := f t.1 t.2.1 t.2.2.1 t.2.2.2.1
theorem loop_Z7_L5 {again8 : (Nat → Nat) → T_Z7_L8 → R_Z7} (hag8 : Dep 2 again8) {Q : A_Z7_L5 (((Int × Bool × Unit) × (List Int × Unit)) → Prop)} (I : A_Z7_L5 Prop) (μ : A_Z7_L5 Nat)
    (step : ∀ a0 a1 a2 a3, I a0 a1 a2 a3 → ∀ again : (Nat → Nat) → T_Z7_L5 → R_Z7, Dep 3 again → (∀ y0 y1 y2 y3, I y0 y1 y2 y3 → μ y0 y1 y2 y3 < μ a0 a1 a2 a3 → Tot (fun σ => again σ (y0, y1, y2, y3, ())) (Q y0 y1 y2 y3)) →
      Tot (fun σ => B_Z7_L5b (σ 0) (F_Z48 (σ 0)) (again8 σ) (again σ) a0 a1 a2 a3) (Q a0 a1 a2 a3)) :
    ∀ a0 a1 a2 a3, I a0 a1 a2 a3 → Tot (fun σ => B_Z7_L5 (σ 0) (F_Z48 (σ 0)) (again8 σ) (σ 0) (a0, a1, a2, a3, ())) (Q a0 a1 a2 a3) := fun a0 a1 a2 a3 => Tot.loop (L := fun σ n t => B_Z7_L5 (σ 0) (F_Z48 (σ 0)) (again8 σ) n t) (B := fun σ g => u_Z7_L5 (B_Z7_L5b (σ 0) (F_Z48 (σ 0)) (again8 σ) g)) (Q := u_Z7_L5 Q) 2 (by decide)
    (fun s s' h => by have e0 : s 0 = s' 0 := h 0 (by decide); simp only [e0, hag8 s s' h]) (fun s s' h => by have e0 : s 0 = s' 0 := h 0 (by decide); simp only [e0, hag8 s s' h]) (fun _ _ _ => rfl) (u_Z7_L5 I) (u_Z7_L5 μ)
    (fun t ht again hag h => step t.1 t.2.1 t.2.2.1 t.2.2.2.1 ht again hag fun y0 y1 y2 y3 => h (y0, y1, y2, y3, ())) (a0, a1, a2, a3, ())
abbrev A_Z7_L8 (Z : Type) : Type := List Int → Int → Int → Int → Z
abbrev u_Z7_L8 {Z : Type} (f : A_Z7_L8 Z) (t : T_Z7_L8) : Z := f t.1 t.2.1 t.2.2.1 t.2.2.2.1
theorem loop_Z7_L8 {Q : A_Z7_L8 (((Int × Bool × Unit) × (List Int × Unit)) → Prop)} (I : A_Z7_L8 Prop) (μ : A_Z7_L8 Nat)
    (step : ∀ a0 a1 a2 a3, I a0 a1 a2 a3 → ∀ again : (Nat → Nat) → T_Z7_L8 → R_Z7, Dep 2 again → (∀ y0 y1 y2 y3, I y0 y1 y2 y3 → μ y0 y1 y2 y3 < μ a0 a1 a2 a3 → Tot (fun σ => again σ (y0, y1, y2, y3, ())) (Q y0 y1 y2 y3)) →
      Tot (fun σ => B_Z7_L8b (σ 0) (F_Z48 (σ 0)) (again σ) a0 a1 a2 a3) (Q a0 a1 a2 a3)) :
    ∀ a0 a1 a2 a3, I a0 a1 a2 a3 → Tot (fun σ => B_Z7_L8 (σ 0) (F_Z48 (σ 0)) (σ 0) (a0, a1, a2, a3, ())) (Q a0 a1 a2 a3) := fun a0 a1 a2 a3 => Tot.loop0 (L := fun k => B_Z7_L8 k (F_Z48 k)) (B := fun k g => u_Z7_L8 (B_Z7_L8b k (F_Z48 k) g)) (Q := u_Z7_L8 Q) (fun _ _ _ => rfl) (u_Z7_L8 I) (u_Z7_L8 μ)
    (fun t ht again hag h => step t.1 t.2.1 t.2.2.1 t.2.2.2.1 ht again hag fun y0 y1 y2 y3 => h (y0, y1, y2, y3, ())) (a0, a1, a2, a3, ())
abbrev A_Z7_L3 (Z : Type) : Type := List Int → Int → Int → Int → Z
abbrev u_Z7_L3 {Z : Type} (f : A_Z7_L3 Z) (t : T_Z7_L3) : Z := f t.1 t.2.1 t.2.2.1 t.2.2.2.1
theorem loop_Z7_L3 {Q : A_Z7_L3 (((Int × Bool × Unit) × (List Int × Unit)) → Prop)} (I : A_Z7_L3 Prop) (μ : A_Z7_L3 Nat)
    (step : ∀ a0 a1 a2 a3, I a0 a1 a2 a3 → ∀ again : (Nat → Nat) → T_Z7_L3 → R_Z7, Dep 2 again → (∀ y0 y1 y2 y3, I y0 y1 y2 y3 → μ y0 y1 y2 y3 < μ a0 a1 a2 a3 → Tot (fun σ => again σ (y0, y1, y2, y3, ())) (Q y0 y1 y2 y3)) →
      Tot (fun σ => B_Z7_L3b (σ 0) (F_Z48 (σ 0)) (again σ) a0 a1 a2 a3) (Q a0 a1 a2 a3)) :
    ∀ a0 a1 a2 a3, I a0 a1 a2 a3 → Tot (fun σ => B_Z7_L3 (σ 0) (F_Z48 (σ 0)) (σ 0) (a0, a1, a2, a3, ())) (Q a0 a1 a2 a3) := fun a0 a1 a2 a3 => Tot.loop0 (L := fun k => B_Z7_L3 k (F_Z48 k)) (B := fun k g => u_Z7_L3 (B_Z7_L3b k (F_Z48 k) g)) (Q := u_Z7_L3 Q) (fun _ _ _ => rfl) (u_Z7_L3 I) (u_Z7_L3 μ)
    (fun t ht again hag h => step t.1 t.2.1 t.2.2.1 t.2.2.2.1 ht again hag fun y0 y1 y2 y3 => h (y0, y1, y2, y3, ())) (a0, a1, a2, a3, ())
abbrev A_Z7_L1 (Z : Type) : Type := List Int → Int → Int → Int → Z
abbrev u_Z7_L1 {Z : Type} (f : A_Z7_L1 Z) (t : T_Z7_L1) : Z := f t.1 t.2.1 t.2.2.1 t.2.2.2.1
theorem loop_Z7_L1 {Q : A_Z7_L1 (((Int × Bool × Unit) × (List Int × Unit)) → Prop)} (I : A_Z7_L1 Prop) (μ : A_Z7_L1 Nat)
    (step : ∀ a0 a1 a2 a3, I a0 a1 a2 a3 → ∀ again : (Nat → Nat) → T_Z7_L1 → R_Z7, Dep 2 again → (∀ y0 y1 y2 y3, I y0 y1 y2 y3 → μ y0 y1 y2 y3 < μ a0 a1 a2 a3 → Tot (fun σ => again σ (y0, y1, y2, y3, ())) (Q y0 y1 y2 y3)) →
      Tot (fun σ => B_Z7_L1b (σ 0) (F_Z48 (σ 0)) (again σ) a0 a1 a2 a3) (Q a0 a1 a2 a3)) :
    ∀ a0 a1 a2 a3, I a0 a1 a2 a3 → Tot (fun σ => B_Z7_L1 (σ 0) (F_Z48 (σ 0)) (σ 0) (a0, a1, a2, a3, ())) (Q a0 a1 a2 a3) := fun a0 a1 a2 a3 => Tot.loop0 (L := fun k => B_Z7_L1 k (F_Z48 k)) (B := fun k g => u_Z7_L1 (B_Z7_L1b k (F_Z48 k) g)) (Q := u_Z7_L1 Q) (fun _ _ _ => rfl) (u_Z7_L1 I) (u_Z7_L1 μ)
    (fun t ht again hag h => step t.1 t.2.1 t.2.2.1 t.2.2.2.1 ht again hag fun y0 y1 y2 y3 => h (y0, y1, y2, y3, ())) (a0, a1, a2, a3, ())
abbrev R_Z11 : Type := Option ((Unit) × (List Int × Unit))
abbrev C_Z11 : Type := List Int → Int → Int → Int → R_Z11
abbrev T_Z11_L5 : Type := List Int × Int × Int × Int × Bool × Bool × Unit
def B_Z11_J4 (k : Nat) (c_Z4 : C_Z4) (c_Z9 : C_Z9) (c_Z3 : C_Z3) (c_Z6 : C_Z6) (c_Z5 : C_Z5) (c_Z0 : C_Z0) (c_Z48 : C_Z48) (c_Z2 : C_Z2) (c_Z7 : C_Z7) (c_Z11 : C_Z11) (again5 : T_Z11_L5 → R_Z11) (data : List Int) (a b limit : Int) (wasBalanced wasPartitioned : Bool) (length pivot : Int) (t87 : Bool) : R_Z11 :=
  bif t87 then
    (c_Z2 data a b pivot).bind fun r92 =>
    again5 (r92.2.1, r92.1.1, b, limit, wasBalanced, wasPartitioned, ())
  else
    (c_Z7 data a b pivot).bind fun r99 =>
    bif decide ((w64 (r99.1.1 - a)) < (w64 (b - r99.1.1))) then
      (c_Z11 r99.2.1 a r99.1.1 limit).bind fun r121 =>
      again5 (r121.2.1, w64 (r99.1.1 + 1), b, limit, decide ((w64 (r99.1.1 - a)) ≥ (w64 (length.tdiv 8))), r99.1.2.1, ())
    else
      (c_Z11 r99.2.1 (w64 (r99.1.1 + 1)) b limit).bind fun r132 =>
      again5 (r132.2.1, a, r99.1.1, limit, decide ((w64 (b - r99.1.1)) ≥ (w64 (length.tdiv 8))), r99.1.2.1, ())
def B_Z11_J3 (k : Nat) (c_Z4 : C_Z4) (c_Z9 : C_Z9) (c_Z3 : C_Z3) (c_Z6 : C_Z6) (c_Z5 : C_Z5) (c_Z0 : C_Z0) (c_Z48 : C_Z48) (c_Z2 : C_Z2) (c_Z7 : C_Z7) (c_Z11 : C_Z11) (again5 : T_Z11_L5 → R_Z11) (data : List Int) (a b limit : Int) (wasBalanced wasPartitioned : Bool) (length pivot : Int) : R_Z11 :=
  bif decide (a > 0) then
    chk (inb (w64 (a - 1)) data.length) <|
    chk (decide ((w64 (a - 1)).toNat < data.length)) <|
    chk (inb pivot data.length) <|
    chk (decide (pivot.toNat < data.length)) <|
    (c_Z48 (data.getD ((w64 (a - 1)).toNat) (0 : Int)) (data.getD pivot.toNat (0 : Int))).bind fun r85 =>
    jn (fun t => B_Z11_J4 k c_Z4 c_Z9 c_Z3 c_Z6 c_Z5 c_Z0 c_Z48 c_Z2 c_Z7 c_Z11 again5 t.1 t.2.1 t.2.2.1 t.2.2.2.1 t.2.2.2.2.1 t.2.2.2.2.2.1 t.2.2.2.2.2.2.1 t.2.2.2.2.2.2.2.1 t.2.2.2.2.2.2.2.2.1) (data, a, b, limit, wasBalanced, wasPartitioned, length, pivot, (!r85.1.1), ())
  else
    jn (fun t => B_Z11_J4 k c_Z4 c_Z9 c_Z3 c_Z6 c_Z5 c_Z0 c_Z48 c_Z2 c_Z7 c_Z11 again5 t.1 t.2.1 t.2.2.1 t.2.2.2.1 t.2.2.2.2.1 t.2.2.2.2.2.1 t.2.2.2.2.2.2.1 t.2.2.2.2.2.2.2.1 t.2.2.2.2.2.2.2.2.1) (data, a, b, limit, wasBalanced, wasPartitioned, length, pivot, false, ())
def B_Z11_J2 (k : Nat) (c_Z4 : C_Z4) (c_Z9 : C_Z9) (c_Z3 : C_Z3) (c_Z6 : C_Z6) (c_Z5 : C_Z5) (c_Z0 : C_Z0) (c_Z48 : C_Z48) (c_Z2 : C_Z2) (c_Z7 : C_Z7) (c_Z11 : C_Z11) (again5 : T_Z11_L5 → R_Z11) (data : List Int) (a b limit : Int) (wasBalanced wasPartitioned : Bool) (length pivot : Int) (t68 : Bool) : R_Z11 :=
  bif t68 then
    (c_Z0 data a b).bind fun r72 =>
    bif r72.1.1 then
      some ((), (r72.2.1, ()))
    else
      jn (fun t => B_Z11_J3 k c_Z4 c_Z9 c_Z3 c_Z6 c_Z5 c_Z0 c_Z48 c_Z2 c_Z7 c_Z11 again5 t.1 t.2.1 t.2.2.1 t.2.2.2.1 t.2.2.2.2.1 t.2.2.2.2.2.1 t.2.2.2.2.2.2.1 t.2.2.2.2.2.2.2.1) (r72.2.1, a, b, limit, wasBalanced, wasPartitioned, length, pivot, ())
  else
    jn (fun t => B_Z11_J3 k c_Z4 c_Z9 c_Z3 c_Z6 c_Z5 c_Z0 c_Z48 c_Z2 c_Z7 c_Z11 again5 t.1 t.2.1 t.2.2.1 t.2.2.2.1 t.2.2.2.2.1 t.2.2.2.2.2.1 t.2.2.2.2.2.2.1 t.2.2.2.2.2.2.2.1) (data, a, b, limit, wasBalanced, wasPartitioned, length, pivot, ())
def B_Z11_J1 (k : Nat) (c_Z4 : C_Z4) (c_Z9 : C_Z9) (c_Z3 : C_Z3) (c_Z6 : C_Z6) (c_Z5 : C_Z5) (c_Z0 : C_Z0) (c_Z48 : C_Z48) (c_Z2 : C_Z2) (c_Z7 : C_Z7) (c_Z11 : C_Z11) (again5 : T_Z11_L5 → R_Z11) (data : List Int) (a b limit : Int) (wasBalanced wasPartitioned : Bool) (length pivot hint : Int) : R_Z11 :=
  bif wasBalanced then
    bif wasPartitioned then
      jn (fun t => B_Z11_J2 k c_Z4 c_Z9 c_Z3 c_Z6 c_Z5 c_Z0 c_Z48 c_Z2 c_Z7 c_Z11 again5 t.1 t.2.1 t.2.2.1 t.2.2.2.1 t.2.2.2.2.1 t.2.2.2.2.2.1 t.2.2.2.2.2.2.1 t.2.2.2.2.2.2.2.1 t.2.2.2.2.2.2.2.2.1) (data, a, b, limit, wasBalanced, wasPartitioned, length, pivot, (hint == 1), ())
    else
      jn (fun t => B_Z11_J2 k c_Z4 c_Z9 c_Z3 c_Z6 c_Z5 c_Z0 c_Z48 c_Z2 c_Z7 c_Z11 again5 t.1 t.2.1 t.2.2.1 t.2.2.2.1 t.2.2.2.2.1 t.2.2.2.2.2.1 t.2.2.2.2.2.2.1 t.2.2.2.2.2.2.2.1 t.2.2.2.2.2.2.2.2.1) (data, a, b, limit, wasBalanced, wasPartitioned, length, pivot, false, ())
  else
    jn (fun t => B_Z11_J2 k c_Z4 c_Z9 c_Z3 c_Z6 c_Z5 c_Z0 c_Z48 c_Z2 c_Z7 c_Z11 again5 t.1 t.2.1 t.2.2.1 t.2.2.2.1 t.2.2.2.2.1 t.2.2.2.2.2.1 t.2.2.2.2.2.2.1 t.2.2.2.2.2.2.2.1 t.2.2.2.2.2.2.2.2.1) (data, a, b, limit, wasBalanced, wasPartitioned, length, pivot, false, ())
def B_Z11_J0 (k : Nat) (c_Z4 : C_Z4) (c_Z9 : C_Z9) (c_Z3 : C_Z3) (c_Z6 : C_Z6) (c_Z5 : C_Z5) (c_Z0 : C_Z0) (c_Z48 : C_Z48) (c_Z2 : C_Z2) (c_Z7 : C_Z7) (c_Z11 : C_Z11) (again5 : T_Z11_L5 → R_Z11) (data : List Int) (a b limit : Int) (wasBalanced wasPartitioned : Bool) (length : Int) : R_Z11 :=
  (c_Z6 data a b).bind fun r46 =>
  bif (r46.1.2.1 == 2) then
    (c_Z5 data a b).bind fun r54 =>
    jn (fun t => B_Z11_J1 k c_Z4 c_Z9 c_Z3 c_Z6 c_Z5 c_Z0 c_Z48 c_Z2 c_Z7 c_Z11 again5 t.1 t.2.1 t.2.2.1 t.2.2.2.1 t.2.2.2.2.1 t.2.2.2.2.2.1 t.2.2.2.2.2.2.1 t.2.2.2.2.2.2.2.1 t.2.2.2.2.2.2.2.2.1) (r54.2.1, a, b, limit, wasBalanced, wasPartitioned, length, w64 ((w64 (b - 1)) - (w64 (r46.1.1 - a))), 1, ())
  else
    jn (fun t => B_Z11_J1 k c_Z4 c_Z9 c_Z3 c_Z6 c_Z5 c_Z0 c_Z48 c_Z2 c_Z7 c_Z11 again5 t.1 t.2.1 t.2.2.1 t.2.2.2.1 t.2.2.2.2.1 t.2.2.2.2.2.1 t.2.2.2.2.2.2.1 t.2.2.2.2.2.2.2.1 t.2.2.2.2.2.2.2.2.1) (data, a, b, limit, wasBalanced, wasPartitioned, length, r46.1.1, r46.1.2.1, ())
def B_Z11_L5b (k : Nat) (c_Z4 : C_Z4) (c_Z9 : C_Z9) (c_Z3 : C_Z3) (c_Z6 : C_Z6) (c_Z5 : C_Z5) (c_Z0 : C_Z0) (c_Z48 : C_Z48) (c_Z2 : C_Z2) (c_Z7 : C_Z7) (c_Z11 : C_Z11) (again5 : T_Z11_L5 → R_Z11) (data : List Int) (a b limit : Int) (wasBalanced wasPartitioned : Bool) : R_Z11 :=
  bif decide ((w64 (b - a)) ≤ 12) then
    (c_Z4 data a b).bind fun r27 =>
    some ((), (r27.2.1, ()))
  else
    bif (limit == 0) then
      (c_Z9 data a b).bind fun r33 =>
      some ((), (r33.2.1, ()))
    else
      bif (!wasBalanced) then
        (c_Z3 data a b).bind fun r39 =>
        jn (fun t => B_Z11_J0 k c_Z4 c_Z9 c_Z3 c_Z6 c_Z5 c_Z0 c_Z48 c_Z2 c_Z7 c_Z11 again5 t.1 t.2.1 t.2.2.1 t.2.2.2.1 t.2.2.2.2.1 t.2.2.2.2.2.1 t.2.2.2.2.2.2.1) (r39.2.1, a, b, w64 (limit - 1), wasBalanced, wasPartitioned, w64 (b - a), ())
      else
        jn (fun t => B_Z11_J0 k c_Z4 c_Z9 c_Z3 c_Z6 c_Z5 c_Z0 c_Z48 c_Z2 c_Z7 c_Z11 again5 t.1 t.2.1 t.2.2.1 t.2.2.2.1 t.2.2.2.2.1 t.2.2.2.2.2.1 t.2.2.2.2.2.2.1) (data, a, b, limit, wasBalanced, wasPartitioned, w64 (b - a), ())
def B_Z11_L5 (k : Nat) (c_Z4 : C_Z4) (c_Z9 : C_Z9) (c_Z3 : C_Z3) (c_Z6 : C_Z6) (c_Z5 : C_Z5) (c_Z0 : C_Z0) (c_Z48 : C_Z48) (c_Z2 : C_Z2) (c_Z7 : C_Z7) (c_Z11 : C_Z11) (n : Nat) (t : T_Z11_L5) : R_Z11 :=
  lfix n (fun again t => B_Z11_L5b k c_Z4 c_Z9 c_Z3 c_Z6 c_Z5 c_Z0 c_Z48 c_Z2 c_Z7 c_Z11 again t.1 t.2.1 t.2.2.1 t.2.2.2.1 t.2.2.2.2.1 t.2.2.2.2.2.1) t
def B_Z11 (k : Nat) (c_Z4 : C_Z4) (c_Z9 : C_Z9) (c_Z3 : C_Z3) (c_Z6 : C_Z6) (c_Z5 : C_Z5) (c_Z0 : C_Z0) (c_Z48 : C_Z48) (c_Z2 : C_Z2) (c_Z7 : C_Z7) (c_Z11 : C_Z11) (data : List Int) (a b limit : Int) : R_Z11 :=
  B_Z11_L5 k c_Z4 c_Z9 c_Z3 c_Z6 c_Z5 c_Z0 c_Z48 c_Z2 c_Z7 c_Z11 k (data, a, b, limit, true, true, ())
def F_Z11 : Nat → C_Z11
  | 0, _, _, _, _ => none
  | k + 1, data, a, b, limit => B_Z11 k (F_Z4 k) (F_Z9 k) (F_Z3 k) (F_Z6 k) (F_Z5 k) (F_Z0 k) (F_Z48 k) (F_Z2 k) (F_Z7 k) (F_Z11 k) data a b limit
theorem F_Z11_succ (k : Nat) (data : List Int) (a : Int) (b : Int) (limit : Int) : F_Z11 (k + 1) data a b limit = B_Z11 k (F_Z4 k) (F_Z9 k) (F_Z3 k) (F_Z6 k) (F_Z5 k) (F_Z0 k) (F_Z48 k) (F_Z2 k) (F_Z7 k) (F_Z11 k) data a b limit := by rw [F_Z11]
theorem tot_Z11 {data a b limit : _} {Q : _ → Prop} (h : Tot (fun σ => B_Z11 (σ 0) (F_Z4 (σ 0)) (F_Z9 (σ 0)) (F_Z3 (σ 0)) (F_Z6 (σ 0)) (F_Z5 (σ 0)) (F_Z0 (σ 0)) (F_Z48 (σ 0)) (F_Z2 (σ 0)) (F_Z7 (σ 0)) (F_Z11 (σ 0)) data a b limit) Q) : Tot (fun σ => F_Z11 (σ 0) data a b limit) Q :=
  Tot.call (F := fun k => F_Z11 k data a b limit) (B := fun k => B_Z11 k (F_Z4 k) (F_Z9 k) (F_Z3 k) (F_Z6 k) (F_Z5 k) (F_Z0 k) (F_Z48 k) (F_Z2 k) (F_Z7 k) (F_Z11 k) data a b limit) (fun k => F_Z11_succ k data a b limit) h
abbrev A_Z11_L5 (Z : Type) : Type := List Int → Int → Int → Int → Bool → Bool → Z
abbrev u_Z11_L5 {Z : Type} (f : A_Z11_L5 Z) (t : T_Z11_L5) : Z := f t.1 t.2.1 t.2.2.1 t.2.2.2.1 t.2.2.2.2.1 t.2.2.2.2.2.1
theorem loop_Z11_L5 {Q : A_Z11_L5 (((Unit) × (List Int × Unit)) → Prop)} (I : A_Z11_L5 Prop) (μ : A_Z11_L5 Nat)
    (step : ∀ a0 a1 a2 a3 a4 a5, I a0 a1 a2 a3 a4 a5 → ∀ again : (Nat → Nat) → T_Z11_L5 → R_Z11, Dep 2 again → (∀ y0 y1 y2 y3 y4 y5, I y0 y1 y2 y3 y4 y5 → μ y0 y1 y2 y3 y4 y5 < μ a0 a1 a2 a3 a4 a5 → Tot (fun σ => again σ (y0, y1, y2, y3, y4, y5, ())) (Q y0 y1 y2 y3 y4 y5)) →
      Tot (fun σ => B_Z11_L5b (σ 0) (F_Z4 (σ 0)) (F_Z9 (σ 0)) (F_Z3 (σ 0)) (F_Z6 (σ 0)) (F_Z5 (σ 0)) (F_Z0 (σ 0)) (F_Z48 (σ 0)) (F_Z2 (σ 0)) (F_Z7 (σ 0)) (F_Z11 (σ 0)) (again σ) a0 a1 a2 a3 a4 a5) (Q a0 a1 a2 a3 a4 a5)) :
    ∀ a0 a1 a2 a3 a4 a5, I a0 a1 a2 a3 a4 a5 → Tot (fun σ => B_Z11_L5 (σ 0) (F_Z4 (σ 0)) (F_Z9 (σ 0)) (F_Z3 (σ 0)) (F_Z6 (σ 0)) (F_Z5 (σ 0)) (F_Z0 (σ 0)) (F_Z48 (σ 0)) (F_Z2 (σ 0)) (F_Z7 (σ 0)) (F_Z11 (σ 0)) (σ 0) (a0, a1, a2, a3, a4, a5, ())) (Q a0 a1 a2 a3 a4 a5) := fun a0 a1 a2 a3 a4 a5 => Tot.loop0 (L := fun k => B_Z11_L5 k (F_Z4 k) (F_Z9 k) (F_Z3 k) (F_Z6 k) (F_Z5 k) (F_Z0 k) (F_Z48 k) (F_Z2 k) (F_Z7 k) (F_Z11 k)) (B := fun k g => u_Z11_L5 (B_Z11_L5b k (F_Z4 k) (F_Z9 k) (F_Z3 k) (F_Z6 k) (F_Z5 k) (F_Z0 k) (F_Z48 k) (F_Z2 k) (F_Z7 k) (F_Z11 k) g)) (Q := u_Z11_L5 Q) (fun _ _ _ => rfl) (u_Z11_L5 I) (u_Z11_L5 μ)
    (fun t ht again hag h => step t.1 t.2.1 t.2.2.1 t.2.2.2.1 t.2.2.2.2.1 t.2.2.2.2.2.1 ht again hag fun y0 y1 y2 y3 y4 y5 => h (y0, y1, y2, y3, y4, y5, ())) (a0, a1, a2, a3, a4, a5, ())
abbrev R_Z21 : Type := Option ((Unit) × (List Int × Unit))
abbrev C_Z21 : Type := List Int → R_Z21
def B_Z21 (k : Nat) (c_bits_Len : C_bits_Len) (c_Z11 : C_Z11) (x : List Int) : R_Z21 :=
  (c_bits_Len (IntKind.wrap .u64 (len x))).bind fun r9 =>
  (c_Z11 x 0 (len x) r9.1.1).bind fun r10 =>
  some ((), (r10.2.1, ()))
def F_Z21 : Nat → C_Z21
  | 0, _ => none
  | k + 1, x => B_Z21 k (F_bits_Len k) (F_Z11 k) x
theorem tot_Z21 {x : _} {Q : _ → Prop} (h : Tot (fun σ => B_Z21 (σ 0) (F_bits_Len (σ 0)) (F_Z11 (σ 0)) x) Q) : Tot (fun σ => F_Z21 (σ 0) x) Q :=
  Tot.call (F := fun k => F_Z21 k x) (B := fun k => B_Z21 k (F_bits_Len k) (F_Z11 k) x) (fun k => rfl) h
abbrev R_Z16 : Type := Option ((List Int × Unit) × (Unit))
abbrev C_Z16 : Type := List Int → R_Z16
abbrev T_Z16_L1 : Type := List Int × Int × Int × (Nat × Nat) × Unit
abbrev T_Z16_L2 : Type := List Int × Int × Unit
def B_Z16_J0 (k : Nat) (again1 : T_Z16_L1 → R_Z16) (s : List Int) (k3 k2 : Int) (s2 : Nat × Nat) : R_Z16 :=
  again1 (s, k3, w64 (k2 + 1), (s2.1, s2.2), ())
def B_Z16_L1b (k : Nat) (again1 : T_Z16_L1 → R_Z16) (s : List Int) (k3 k2 : Int) (s2 : Nat × Nat) : R_Z16 :=
  bif decide (k2 < ((s2.2 - s2.1 : Nat) : Int)) then
    chk ((inb k2 (s2.2 - s2.1) && decide (s2.2 ≤ s.length))) <|
    chk (decide ((s2.1 + k2.toNat) < s.length)) <|
    chk ((inb (w64 (k2 - 1)) (s2.2 - s2.1) && decide (s2.2 ≤ s.length))) <|
    chk (decide ((s2.1 + (w64 (k2 - 1)).toNat) < s.length)) <|
    bif ((s.getD (s2.1 + k2.toNat) (0 : Int)) != (s.getD (s2.1 + (w64 (k2 - 1)).toNat) (0 : Int))) then
      chk ((inb k2 (s2.2 - s2.1) && decide (s2.2 ≤ s.length))) <|
      chk (decide ((s2.1 + k2.toNat) < s.length)) <|
      chk (inb k3 s.length) <|
      chk (decide (k3.toNat < s.length)) <|
      jn (fun t => B_Z16_J0 k again1 t.1 t.2.1 t.2.2.1 t.2.2.2.1) ((s.set k3.toNat (s.getD (s2.1 + k2.toNat) (0 : Int))), w64 (k3 + 1), k2, (s2.1, s2.2), ())
    else
      jn (fun t => B_Z16_J0 k again1 t.1 t.2.1 t.2.2.1 t.2.2.2.1) (s, k3, k2, (s2.1, s2.2), ())
  else
    chk (cutb k3 (len s) s.length) <|
    chk (decide (k3.toNat ≤ (len s).toNat ∧ (len s).toNat ≤ s.length)) <|
    chk (cutb 0 k3 (s.take k3.toNat ++ List.replicate ((len s).toNat - k3.toNat) (0 : Int) ++ s.drop ((len s).toNat)).length) <|
    some ((((s.take k3.toNat ++ List.replicate ((len s).toNat - k3.toNat) (0 : Int) ++ s.drop ((len s).toNat)).take k3.toNat), ()), ())
def B_Z16_L1 (k : Nat) (n : Nat) (t : T_Z16_L1) : R_Z16 :=
  lfix n (fun again t => B_Z16_L1b k again t.1 t.2.1 t.2.2.1 t.2.2.2.1) t
def B_Z16_L2b (k : Nat) (again2 : T_Z16_L2 → R_Z16) (s : List Int) (k3 : Int) : R_Z16 :=
  bif decide (k3 < (len s)) then
    chk (inb k3 s.length) <|
    chk (decide (k3.toNat < s.length)) <|
    chk (inb (w64 (k3 - 1)) s.length) <|
    chk (decide ((w64 (k3 - 1)).toNat < s.length)) <|
    bif ((s.getD k3.toNat (0 : Int)) == (s.getD ((w64 (k3 - 1)).toNat) (0 : Int))) then
      chk (cutb k3 (len s) s.length) <|
      B_Z16_L1 k k (s, k3, 1, (k3.toNat, (len s).toNat), ())
    else
      again2 (s, w64 (k3 + 1), ())
  else
    some ((s, ()), ())
def B_Z16_L2 (k : Nat) (n : Nat) (t : T_Z16_L2) : R_Z16 :=
  lfix n (fun again t => B_Z16_L2b k again t.1 t.2.1) t
def B_Z16 (k : Nat) (s : List Int) : R_Z16 :=
  bif decide ((len s) < 2) then
    some ((s, ()), ())
  else
    B_Z16_L2 k k (s, 1, ())
def F_Z16 : Nat → C_Z16
  | 0, _ => none
  | k + 1, s => B_Z16 k s
theorem tot_Z16 {s : _} {Q : _ → Prop} (h : Tot (fun σ => B_Z16 (σ 0) s) Q) : Tot (fun σ => F_Z16 (σ 0) s) Q :=
  Tot.call (F := fun k => F_Z16 k s) (B := fun k => B_Z16 k s) (fun k => rfl) h
abbrev A_Z16_L1 (Z : Type) : Type := List Int → Int → Int → (Nat × Nat) → Z
abbrev u_Z16_L1 {Z : Type} (f : A_Z16_L1 Z) (t : T_Z16_L1) : Z := f t.1 t.2.1 t.2.2.1 t.2.2.2.1
theorem loop_Z16_L1 {Q : A_Z16_L1 (((List Int × Unit) × (Unit)) → Prop)} (I : A_Z16_L1 Prop) (μ : A_Z16_L1 Nat)
    (step : ∀ a0 a1 a2 a3, I a0 a1 a2 a3 → ∀ again : (Nat → Nat) → T_Z16_L1 → R_Z16, Dep 2 again → (∀ y0 y1 y2 y3, I y0 y1 y2 y3 → μ y0 y1 y2 y3 < μ a0 a1 a2 a3 → Tot (fun σ => again σ (y0, y1, y2, y3, ())) (Q y0 y1 y2 y3)) →
      Tot (fun σ => B_Z16_L1b (σ 0) (again σ) a0 a1 a2 a3) (Q a0 a1 a2 a3)) :
    ∀ a0 a1 a2 a3, I a0 a1 a2 a3 → Tot (fun σ => B_Z16_L1 (σ 0) (σ 0) (a0, a1, a2, a3, ())) (Q a0 a1 a2 a3) := fun a0 a1 a2 a3 => Tot.loop0 (L := fun k => B_Z16_L1 k) (B := fun k g => u_Z16_L1 (B_Z16_L1b k g)) (Q := u_Z16_L1 Q) (fun _ _ _ => rfl) (u_Z16_L1 I) (u_Z16_L1 μ)
    (fun t ht again hag h => step t.1 t.2.1 t.2.2.1 t.2.2.2.1 ht again hag fun y0 y1 y2 y3 => h (y0, y1, y2, y3, ())) (a0, a1, a2, a3, ())
abbrev A_Z16_L2 (Z : Type) : Type := List Int → Int → Z
abbrev u_Z16_L2 {Z : Type} (f : A_Z16_L2 Z) (t : T_Z16_L2) : Z := f t.1 t.2.1
theorem loop_Z16_L2 {Q : A_Z16_L2 (((List Int × Unit) × (Unit)) → Prop)} (I : A_Z16_L2 Prop) (μ : A_Z16_L2 Nat)
    (step : ∀ a0 a1, I a0 a1 → ∀ again : (Nat → Nat) → T_Z16_L2 → R_Z16, Dep 2 again → (∀ y0 y1, I y0 y1 → μ y0 y1 < μ a0 a1 → Tot (fun σ => again σ (y0, y1, ())) (Q y0 y1)) →
      Tot (fun σ => B_Z16_L2b (σ 0) (again σ) a0 a1) (Q a0 a1)) :
    ∀ a0 a1, I a0 a1 → Tot (fun σ => B_Z16_L2 (σ 0) (σ 0) (a0, a1, ())) (Q a0 a1) := fun a0 a1 => Tot.loop0 (L := fun k => B_Z16_L2 k) (B := fun k g => u_Z16_L2 (B_Z16_L2b k g)) (Q := u_Z16_L2 Q) (fun _ _ _ => rfl) (u_Z16_L2 I) (u_Z16_L2 μ)
    (fun t ht again hag h => step t.1 t.2.1 ht again hag fun y0 y1 => h (y0, y1, ())) (a0, a1, ())
abbrev R_Z22 : Type := Option ((List Int × Unit) × (Unit))
abbrev C_Z22 : Type := List Int → R_Z22
def B_Z22 (k : Nat) (s : List Int) : R_Z22 :=
  chk ((((len s) == (len s)) && cutb 0 (len s) s.length)) <|
  some (((sub s 0 (len s)), ()), ())
def F_Z22 : Nat → C_Z22
  | 0, _ => none
  | k + 1, s => B_Z22 k s
theorem tot_Z22 {s : _} {Q : _ → Prop} (h : Tot (fun σ => B_Z22 (σ 0) s) Q) : Tot (fun σ => F_Z22 (σ 0) s) Q :=
  Tot.call (F := fun k => F_Z22 k s) (B := fun k => B_Z22 k s) (fun k => rfl) h
abbrev R_Z54 : Type := Option ((List Int × Unit) × (Unit))
abbrev C_Z54 : Type := (List (Int × Int)) → R_Z54
abbrev T_Z54_L1 : Type := List Int × (List (Int × Int)) × Int × Int × Unit
def B_Z54_J0 (k : Nat) (c_Z68 : C_Z68) (c_Z21 : C_Z21) (c_Z16 : C_Z16) (c_Z22 : C_Z22) (again1 : T_Z54_L1 → R_Z54) (out : List Int) (t10 : List (Int × Int)) (t11 t12 : Int) : R_Z54 :=
  again1 (out, t10, t11, w64 (t12 + 1), ())
def B_Z54_L1b (k : Nat) (c_Z68 : C_Z68) (c_Z21 : C_Z21) (c_Z16 : C_Z16) (c_Z22 : C_Z22) (again1 : T_Z54_L1 → R_Z54) (out : List Int) (t10 : List (Int × Int)) (t11 t12 : Int) : R_Z54 :=
  bif decide (t12 < t11) then
    chk (inb t12 t10.length) <|
    bif (((rdx ((0 : Int), (0 : Int)) t10 t12).1) == 13) then
      chk (room out.length ([(rdx ((0 : Int), (0 : Int)) t10 t12).2]).length) <|
      jn (fun t => B_Z54_J0 k c_Z68 c_Z21 c_Z16 c_Z22 again1 t.1 t.2.1 t.2.2.1 t.2.2.2.1) ((out ++ [(rdx ((0 : Int), (0 : Int)) t10 t12).2]), t10, t11, t12, ())
    else
      jn (fun t => B_Z54_J0 k c_Z68 c_Z21 c_Z16 c_Z22 again1 t.1 t.2.1 t.2.2.1 t.2.2.2.1) (out, t10, t11, t12, ())
  else
    (c_Z21 out).bind fun r26 =>
    (c_Z16 r26.2.1).bind fun r28 =>
    (c_Z22 r28.1.1).bind fun r29 =>
    some ((r29.1.1, ()), ())
def B_Z54_L1 (k : Nat) (c_Z68 : C_Z68) (c_Z21 : C_Z21) (c_Z16 : C_Z16) (c_Z22 : C_Z22) (n : Nat) (t : T_Z54_L1) : R_Z54 :=
  lfix n (fun again t => B_Z54_L1b k c_Z68 c_Z21 c_Z16 c_Z22 again t.1 t.2.1 t.2.2.1 t.2.2.2.1) t
def B_Z54 (k : Nat) (c_Z68 : C_Z68) (c_Z21 : C_Z21) (c_Z16 : C_Z16) (c_Z22 : C_Z22) (ops : List (Int × Int)) : R_Z54 :=
  (c_Z68 ops).bind fun r7 =>
  bif (!r7.1.1) then
    some (([], ()), ())
  else
    B_Z54_L1 k c_Z68 c_Z21 c_Z16 c_Z22 k ([], ops, len ops, 0, ())
def F_Z54 : Nat → C_Z54
  | 0, _ => none
  | k + 1, ops => B_Z54 k (F_Z68 k) (F_Z21 k) (F_Z16 k) (F_Z22 k) ops
theorem tot_Z54 {ops : _} {Q : _ → Prop} (h : Tot (fun σ => B_Z54 (σ 0) (F_Z68 (σ 0)) (F_Z21 (σ 0)) (F_Z16 (σ 0)) (F_Z22 (σ 0)) ops) Q) : Tot (fun σ => F_Z54 (σ 0) ops) Q :=
  Tot.call (F := fun k => F_Z54 k ops) (B := fun k => B_Z54 k (F_Z68 k) (F_Z21 k) (F_Z16 k) (F_Z22 k) ops) (fun k => rfl) h
abbrev A_Z54_L1 (Z : Type) : Type := List Int → (List (Int × Int)) → Int → Int → Z
abbrev u_Z54_L1 {Z : Type} (f : A_Z54_L1 Z) (t : T_Z54_L1) : Z := f t.1 t.2.1 t.2.2.1 t.2.2.2.1
theorem loop_Z54_L1 {Q : A_Z54_L1 (((List Int × Unit) × (Unit)) → Prop)} (I : A_Z54_L1 Prop) (μ : A_Z54_L1 Nat)
    (step : ∀ a0 a1 a2 a3, I a0 a1 a2 a3 → ∀ again : (Nat → Nat) → T_Z54_L1 → R_Z54, Dep 2 again → (∀ y0 y1 y2 y3, I y0 y1 y2 y3 → μ y0 y1 y2 y3 < μ a0 a1 a2 a3 → Tot (fun σ => again σ (y0, y1, y2, y3, ())) (Q y0 y1 y2 y3)) →
      Tot (fun σ => B_Z54_L1b (σ 0) (F_Z68 (σ 0)) (F_Z21 (σ 0)) (F_Z16 (σ 0)) (F_Z22 (σ 0)) (again σ) a0 a1 a2 a3) (Q a0 a1 a2 a3)) :
    ∀ a0 a1 a2 a3, I a0 a1 a2 a3 → Tot (fun σ => B_Z54_L1 (σ 0) (F_Z68 (σ 0)) (F_Z21 (σ 0)) (F_Z16 (σ 0)) (F_Z22 (σ 0)) (σ 0) (a0, a1, a2, a3, ())) (Q a0 a1 a2 a3) := fun a0 a1 a2 a3 => Tot.loop0 (L := fun k => B_Z54_L1 k (F_Z68 k) (F_Z21 k) (F_Z16 k) (F_Z22 k)) (B := fun k g => u_Z54_L1 (B_Z54_L1b k (F_Z68 k) (F_Z21 k) (F_Z16 k) (F_Z22 k) g)) (Q := u_Z54_L1 Q) (fun _ _ _ => rfl) (u_Z54_L1 I) (u_Z54_L1 μ)
    (fun t ht again hag h => step t.1 t.2.1 t.2.2.1 t.2.2.2.1 ht again hag fun y0 y1 y2 y3 => h (y0, y1, y2, y3, ())) (a0, a1, a2, a3, ())
abbrev R_Z30 : Type := Option ((Unit) × ((Int × Int × Int × List Int × Unit) × Unit))
abbrev C_Z30 : Type := Nat → Nat → Bool → Int → Int → Int → List Int → R_Z30
def B_Z30 (k : Nat) (m_0 m_1 : Nat) (m_3 : Bool) (t1_Steps t1_Nodes t1_Deep : Int) (t1_Classes : List Int) : R_Z30 :=
  some ((), ((t1_Steps, (m_0 : Int), (if (m_1 : Int) > t1_Deep then (m_1 : Int) else t1_Deep), t1_Classes, ()), ()))
def F_Z30 : Nat → C_Z30
  | 0, _, _, _, _, _, _, _ => none
  | k + 1, m_0, m_1, m_3, t1_Steps, t1_Nodes, t1_Deep, t1_Classes => B_Z30 k m_0 m_1 m_3 t1_Steps t1_Nodes t1_Deep t1_Classes
theorem tot_Z30 {m_0 m_1 m_3 t1_Steps t1_Nodes t1_Deep t1_Classes : _} {Q : _ → Prop} (h : Tot (fun σ => B_Z30 (σ 0) m_0 m_1 m_3 t1_Steps t1_Nodes t1_Deep t1_Classes) Q) : Tot (fun σ => F_Z30 (σ 0) m_0 m_1 m_3 t1_Steps t1_Nodes t1_Deep t1_Classes) Q :=
  Tot.call (F := fun k => F_Z30 k m_0 m_1 m_3 t1_Steps t1_Nodes t1_Deep t1_Classes) (B := fun k => B_Z30 k m_0 m_1 m_3 t1_Steps t1_Nodes t1_Deep t1_Classes) (fun k => rfl) h
abbrev R_Z8 : Type := Option ((((List (Int × Int × List Int)) × List Int × List Int × Bool × Unit) × Int × Unit) × ((Int × Int × Int × List Int × Unit) × Unit))
abbrev C_Z8 : Type := (List (Int × Int)) → Int → Int → Int → List Int → R_Z8
abbrev T_Z8_L0 : Type := (List (Int × Int)) × (Int × Int × Int × List Int × Unit) × (Unit × Unit × Unit × Bool × Unit) × ((List (Int × Int × List Int)) × List Int × List Int × Bool × Unit) × (List (Int × Int)) × Int × Int × Unit
def B_Z8_L0b (k : Nat) (c_Z47 : C_Z47) (c_Z27 : C_Z27) (c_Z35 : C_Z35) (c_Z30 : C_Z30) (again0 : T_Z8_L0 → R_Z8) (ops : List (Int × Int)) (after_Steps after_Nodes after_Deep : Int) (after_Classes : List Int) (t4_Done : Bool) (m_Nodes : List (Int × Int × List Int)) (m_Stack m_Memo : List Int) (m_Done : Bool) (t10 : List (Int × Int)) (t11 t12 : Int) : R_Z8 :=
  bif decide (t12 < t11) then
    chk (inb t12 t10.length) <|
    (c_Z27 m_Nodes m_Stack m_Memo m_Done ((rdx ((0 : Int), (0 : Int)) t10 t12).1) ((rdx ((0 : Int), (0 : Int)) t10 t12).2)).bind fun r18 =>
    bif (!r18.1.1) then
      (r18.2.1.1).bind fun p25 =>
      (c_Z35 p25 r18.2.1.2.1 r18.2.1.2.2.1 r18.2.1.2.2.2.1).bind fun r21 =>
      some (((r21.1.1.1, r21.1.1.2.1, r21.1.1.2.2.1, r21.1.1.2.2.2.1, ()), t12, ()), ((after_Steps, after_Nodes, after_Deep, after_Classes, ()), ()))
    else
      (r18.2.1.1).bind fun p26 =>
      (c_Z30 p26.length r18.2.1.2.1.length r18.2.1.2.2.2.1 after_Steps after_Nodes after_Deep after_Classes).bind fun r25 =>
      (r18.2.1.1).bind fun p27 =>
      again0 (ops, (r25.2.1.1, r25.2.1.2.1, r25.2.1.2.2.1, r25.2.1.2.2.2.1, ()), ((), (), (), t4_Done, ()), (p27, r18.2.1.2.1, r18.2.1.2.2.1, r18.2.1.2.2.2.1, ()), t10, t11, w64 (t12 + 1), ())
  else
    (c_Z35 m_Nodes m_Stack m_Memo m_Done).bind fun r28 =>
    some (((r28.1.1.1, r28.1.1.2.1, r28.1.1.2.2.1, r28.1.1.2.2.2.1, ()), len ops, ()), ((after_Steps, after_Nodes, after_Deep, after_Classes, ()), ()))
def B_Z8_L0 (k : Nat) (c_Z47 : C_Z47) (c_Z27 : C_Z27) (c_Z35 : C_Z35) (c_Z30 : C_Z30) (n : Nat) (t : T_Z8_L0) : R_Z8 :=
  lfix n (fun again t => B_Z8_L0b k c_Z47 c_Z27 c_Z35 c_Z30 again t.1 t.2.1.1 t.2.1.2.1 t.2.1.2.2.1 t.2.1.2.2.2.1 t.2.2.1.2.2.2.1 t.2.2.2.1.1 t.2.2.2.1.2.1 t.2.2.2.1.2.2.1 t.2.2.2.1.2.2.2.1 t.2.2.2.2.1 t.2.2.2.2.2.1 t.2.2.2.2.2.2.1) t
def B_Z8 (k : Nat) (c_Z47 : C_Z47) (c_Z27 : C_Z27) (c_Z35 : C_Z35) (c_Z30 : C_Z30) (ops : List (Int × Int)) (after_Steps after_Nodes after_Deep : Int) (after_Classes : List Int) : R_Z8 :=
  (c_Z47 0).bind fun r9 =>
  B_Z8_L0 k c_Z47 c_Z27 c_Z35 c_Z30 k (ops, (after_Steps, after_Nodes, after_Deep, after_Classes, ()), ((), (), (), false, ()), (r9.1.1.1, [], r9.1.1.2.2.1, r9.1.1.2.2.2.1, ()), ops, len ops, 0, ())
def F_Z8 : Nat → C_Z8
  | 0, _, _, _, _, _ => none
  | k + 1, ops, after_Steps, after_Nodes, after_Deep, after_Classes => B_Z8 k (F_Z47 k) (F_Z27 k) (F_Z35 k) (F_Z30 k) ops after_Steps after_Nodes after_Deep after_Classes
theorem tot_Z8 {ops after_Steps after_Nodes after_Deep after_Classes : _} {Q : _ → Prop} (h : Tot (fun σ => B_Z8 (σ 0) (F_Z47 (σ 0)) (F_Z27 (σ 0)) (F_Z35 (σ 0)) (F_Z30 (σ 0)) ops after_Steps after_Nodes after_Deep after_Classes) Q) : Tot (fun σ => F_Z8 (σ 0) ops after_Steps after_Nodes after_Deep after_Classes) Q :=
  Tot.call (F := fun k => F_Z8 k ops after_Steps after_Nodes after_Deep after_Classes) (B := fun k => B_Z8 k (F_Z47 k) (F_Z27 k) (F_Z35 k) (F_Z30 k) ops after_Steps after_Nodes after_Deep after_Classes) (fun k => rfl) h
abbrev A_Z8_L0 (Z : Type) : Type := (List (Int × Int)) → Int → Int → Int → List Int → Bool → (List (Int × Int × List Int)) → List Int → List Int → Bool → (List (Int × Int)) → Int → Int → Z
abbrev u_Z8_L0 {Z : Type} (f : A_Z8_L0 Z) (t : T_Z8_L0) : Z := f t.1 t.2.1.1 t.2.1.2.1 t.2.1.2.2.1 t.2.1.2.2.2.1 t.2.2.1.2.2.2.1 t.2.2.2.1.1 t.2.2.2.1.2.1 t.2.2.2.1.2.2.1 t.2.2.2.1.2.2.2.1 t.2.2.2.2.1 t.2.2.2.2.2.1 t.2.2.2.2.2.2.1
theorem loop_Z8_L0 {Q : A_Z8_L0 (((((List (Int × Int × List Int)) × List Int × List Int × Bool × Unit) × Int × Unit) × ((Int × Int × Int × List Int × Unit) × Unit)) → Prop)} (I : A_Z8_L0 Prop) (μ : A_Z8_L0 Nat)
    (step : ∀ a0 a1 a2 a3 a4 a5 a6 a7 a8 a9 a10 a11 a12, I a0 a1 a2 a3 a4 a5 a6 a7 a8 a9 a10 a11 a12 → ∀ again : (Nat → Nat) → T_Z8_L0 → R_Z8, Dep 2 again → (∀ y0 y1 y2 y3 y4 y5 y6 y7 y8 y9 y10 y11 y12, I y0 y1 y2 y3 y4 y5 y6 y7 y8 y9 y10 y11 y12 → μ y0 y1 y2 y3 y4 y5 y6 y7 y8 y9 y10 y11 y12 < μ a0 a1 a2 a3 a4 a5 a6 a7 a8 a9 a10 a11 a12 → Tot (fun σ => again σ (y0, (y1, y2, y3, y4, ()), ((), (), (), y5, ()), (y6, y7, y8, y9, ()), y10, y11, y12, ())) (Q y0 y1 y2 y3 y4 y5 y6 y7 y8 y9 y10 y11 y12)) →
      Tot (fun σ => B_Z8_L0b (σ 0) (F_Z47 (σ 0)) (F_Z27 (σ 0)) (F_Z35 (σ 0)) (F_Z30 (σ 0)) (again σ) a0 a1 a2 a3 a4 a5 a6 a7 a8 a9 a10 a11 a12) (Q a0 a1 a2 a3 a4 a5 a6 a7 a8 a9 a10 a11 a12)) :
    ∀ a0 a1 a2 a3 a4 a5 a6 a7 a8 a9 a10 a11 a12, I a0 a1 a2 a3 a4 a5 a6 a7 a8 a9 a10 a11 a12 → Tot (fun σ => B_Z8_L0 (σ 0) (F_Z47 (σ 0)) (F_Z27 (σ 0)) (F_Z35 (σ 0)) (F_Z30 (σ 0)) (σ 0) (a0, (a1, a2, a3, a4, ()), ((), (), (), a5, ()), (a6, a7, a8, a9, ()), a10, a11, a12, ())) (Q a0 a1 a2 a3 a4 a5 a6 a7 a8 a9 a10 a11 a12) := fun a0 a1 a2 a3 a4 a5 a6 a7 a8 a9 a10 a11 a12 => Tot.loop0 (L := fun k => B_Z8_L0 k (F_Z47 k) (F_Z27 k) (F_Z35 k) (F_Z30 k)) (B := fun k g => u_Z8_L0 (B_Z8_L0b k (F_Z47 k) (F_Z27 k) (F_Z35 k) (F_Z30 k) g)) (Q := u_Z8_L0 Q) (fun _ _ _ => rfl) (u_Z8_L0 I) (u_Z8_L0 μ)
    (fun t ht again hag h => step t.1 t.2.1.1 t.2.1.2.1 t.2.1.2.2.1 t.2.1.2.2.2.1 t.2.2.1.2.2.2.1 t.2.2.2.1.1 t.2.2.2.1.2.1 t.2.2.2.1.2.2.1 t.2.2.2.1.2.2.2.1 t.2.2.2.2.1 t.2.2.2.2.2.1 t.2.2.2.2.2.2.1 ht again hag fun y0 y1 y2 y3 y4 y5 y6 y7 y8 y9 y10 y11 y12 => h (y0, (y1, y2, y3, y4, ()), ((), (), (), y5, ()), (y6, y7, y8, y9, ()), y10, y11, y12, ())) (a0, (a1, a2, a3, a4, ()), ((), (), (), a5, ()), (a6, a7, a8, a9, ()), a10, a11, a12, ())
abbrev R_Z51 : Type := Option (((Int × Int × Int × List Int × Unit) × Bool × Unit) × (Unit))
abbrev C_Z51 : Type := (List (Int × Int)) → R_Z51
def B_Z51 (k : Nat) (c_Z70 : C_Z70) (c_Z54 : C_Z54) (c_Z8 : C_Z8) (ops : List (Int × Int)) : R_Z51 :=
  (c_Z70 ops).bind fun r6 =>
  bif (r6.1.1 != (-1)) then
    some (((0, 0, 0, [], ()), false, ()), ())
  else
    (c_Z54 ops).bind fun r12 =>
    (c_Z8 ops (len ops) 0 0 r12.1.1).bind fun r16 =>
    some (((r16.2.1.1, r16.2.1.2.1, r16.2.1.2.2.1, r16.2.1.2.2.2.1, ()), true, ()), ())
def F_Z51 : Nat → C_Z51
  | 0, _ => none
  | k + 1, ops => B_Z51 k (F_Z70 k) (F_Z54 k) (F_Z8 k) ops
theorem tot_Z51 {ops : _} {Q : _ → Prop} (h : Tot (fun σ => B_Z51 (σ 0) (F_Z70 (σ 0)) (F_Z54 (σ 0)) (F_Z8 (σ 0)) ops) Q) : Tot (fun σ => F_Z51 (σ 0) ops) Q :=
  Tot.call (F := fun k => F_Z51 k ops) (B := fun k => B_Z51 k (F_Z70 k) (F_Z54 k) (F_Z8 k) ops) (fun k => rfl) h
abbrev R_Z69 : Type := Option ((List Int × Unit) × (Unit))
abbrev C_Z69 : Type := (List (Int × Int)) → R_Z69
abbrev T_Z69_L0 : Type := (List (Int × Int)) × List Int × Int × Int × Unit
def B_Z69_L0b (k : Nat) (c_Z66 : C_Z66) (c_Z59 : C_Z59) (again0 : T_Z69_L0 → R_Z69) (ops : List (Int × Int)) (out : List Int) (n5 i : Int) : R_Z69 :=
  bif decide (i ≤ n5) then
    chk (cutb 0 i ops.length) <|
    (c_Z59 (sub ops 0 i)).bind fun r27 =>
    chk (room out.length ([len r27.1.1.2.2.1]).length) <|
    again0 (ops, (out ++ [len r27.1.1.2.2.1]), n5, w64 (i + 1), ())
  else
    some ((out, ()), ())
def B_Z69_L0 (k : Nat) (c_Z66 : C_Z66) (c_Z59 : C_Z59) (n : Nat) (t : T_Z69_L0) : R_Z69 :=
  lfix n (fun again t => B_Z69_L0b k c_Z66 c_Z59 again t.1 t.2.1 t.2.2.1 t.2.2.2.1) t
def B_Z69 (k : Nat) (c_Z66 : C_Z66) (c_Z59 : C_Z59) (ops : List (Int × Int)) : R_Z69 :=
  (c_Z66 ops).bind fun r10 =>
  bif (!r10.1.1) then
    some (([], ()), ())
  else
    (c_Z59 ops).bind fun r15 =>
    B_Z69_L0 k c_Z66 c_Z59 k (ops, [], r15.1.2.1, 1, ())
def F_Z69 : Nat → C_Z69
  | 0, _ => none
  | k + 1, ops => B_Z69 k (F_Z66 k) (F_Z59 k) ops
theorem tot_Z69 {ops : _} {Q : _ → Prop} (h : Tot (fun σ => B_Z69 (σ 0) (F_Z66 (σ 0)) (F_Z59 (σ 0)) ops) Q) : Tot (fun σ => F_Z69 (σ 0) ops) Q :=
  Tot.call (F := fun k => F_Z69 k ops) (B := fun k => B_Z69 k (F_Z66 k) (F_Z59 k) ops) (fun k => rfl) h
abbrev A_Z69_L0 (Z : Type) : Type := (List (Int × Int)) → List Int → Int → Int → Z
abbrev u_Z69_L0 {Z : Type} (f : A_Z69_L0 Z) (t : T_Z69_L0) : Z := f t.1 t.2.1 t.2.2.1 t.2.2.2.1
theorem loop_Z69_L0 {Q : A_Z69_L0 (((List Int × Unit) × (Unit)) → Prop)} (I : A_Z69_L0 Prop) (μ : A_Z69_L0 Nat)
    (step : ∀ a0 a1 a2 a3, I a0 a1 a2 a3 → ∀ again : (Nat → Nat) → T_Z69_L0 → R_Z69, Dep 2 again → (∀ y0 y1 y2 y3, I y0 y1 y2 y3 → μ y0 y1 y2 y3 < μ a0 a1 a2 a3 → Tot (fun σ => again σ (y0, y1, y2, y3, ())) (Q y0 y1 y2 y3)) →
      Tot (fun σ => B_Z69_L0b (σ 0) (F_Z66 (σ 0)) (F_Z59 (σ 0)) (again σ) a0 a1 a2 a3) (Q a0 a1 a2 a3)) :
    ∀ a0 a1 a2 a3, I a0 a1 a2 a3 → Tot (fun σ => B_Z69_L0 (σ 0) (F_Z66 (σ 0)) (F_Z59 (σ 0)) (σ 0) (a0, a1, a2, a3, ())) (Q a0 a1 a2 a3) := fun a0 a1 a2 a3 => Tot.loop0 (L := fun k => B_Z69_L0 k (F_Z66 k) (F_Z59 k)) (B := fun k g => u_Z69_L0 (B_Z69_L0b k (F_Z66 k) (F_Z59 k) g)) (Q := u_Z69_L0 Q) (fun _ _ _ => rfl) (u_Z69_L0 I) (u_Z69_L0 μ)
    (fun t ht again hag h => step t.1 t.2.1 t.2.2.1 t.2.2.2.1 ht again hag fun y0 y1 y2 y3 => h (y0, y1, y2, y3, ())) (a0, a1, a2, a3, ())
abbrev R_Z65 : Type := Option ((List Int × Unit) × (Unit))
abbrev C_Z65 : Type := (List (Int × Int)) → R_Z65
abbrev T_Z65_L1 : Type := (List (Int × Int)) × List Int × Int × Int × Unit
abbrev T_Z65_L3 : Type := (List (Int × Int)) × List Int × Int × Unit
def B_Z65_J2 (k : Nat) (c_Z66 : C_Z66) (again3 : T_Z65_L3 → R_Z65) (ops : List (Int × Int)) (out : List Int) (c : Int) : R_Z65 :=
  again3 (ops, out, w64 (c + 1), ())
def B_Z65_J0 (k : Nat) (c_Z66 : C_Z66) (again1 : T_Z65_L1 → R_Z65) (again3 : T_Z65_L3 → R_Z65) (ops : List (Int × Int)) (out : List Int) (c i : Int) (t34 : Bool) : R_Z65 :=
  bif t34 then
    chk (room out.length ([c]).length) <|
    jn (fun t => B_Z65_J2 k c_Z66 again3 t.1 t.2.1 t.2.2.1) (ops, (out ++ [c]), c, ())
  else
    again1 (ops, out, c, w64 (i + 1), ())
def B_Z65_L1b (k : Nat) (c_Z66 : C_Z66) (again3 : T_Z65_L3 → R_Z65) (again1 : T_Z65_L1 → R_Z65) (ops : List (Int × Int)) (out : List Int) (c i : Int) : R_Z65 :=
  bif decide (i < (len ops)) then
    chk (inb i ops.length) <|
    bif (((rdx ((0 : Int), (0 : Int)) ops i).1) == 13) then
      chk (inb i ops.length) <|
      jn (fun t => B_Z65_J0 k c_Z66 again1 again3 t.1 t.2.1 t.2.2.1 t.2.2.2.1 t.2.2.2.2.1) (ops, out, c, i, (((rdx ((0 : Int), (0 : Int)) ops i).2) == c), ())
    else
      jn (fun t => B_Z65_J0 k c_Z66 again1 again3 t.1 t.2.1 t.2.2.1 t.2.2.2.1 t.2.2.2.2.1) (ops, out, c, i, false, ())
  else
    jn (fun t => B_Z65_J2 k c_Z66 again3 t.1 t.2.1 t.2.2.1) (ops, out, c, ())
def B_Z65_L1 (k : Nat) (c_Z66 : C_Z66) (again3 : T_Z65_L3 → R_Z65) (n : Nat) (t : T_Z65_L1) : R_Z65 :=
  lfix n (fun again t => B_Z65_L1b k c_Z66 again3 again t.1 t.2.1 t.2.2.1 t.2.2.2.1) t
def B_Z65_L3b (k : Nat) (c_Z66 : C_Z66) (again3 : T_Z65_L3 → R_Z65) (ops : List (Int × Int)) (out : List Int) (c : Int) : R_Z65 :=
  bif decide (c ≤ 9) then
    B_Z65_L1 k c_Z66 again3 k (ops, out, c, 0, ())
  else
    some ((out, ()), ())
def B_Z65_L3 (k : Nat) (c_Z66 : C_Z66) (n : Nat) (t : T_Z65_L3) : R_Z65 :=
  lfix n (fun again t => B_Z65_L3b k c_Z66 again t.1 t.2.1 t.2.2.1) t
def B_Z65 (k : Nat) (c_Z66 : C_Z66) (ops : List (Int × Int)) : R_Z65 :=
  (c_Z66 ops).bind fun r7 =>
  bif (!r7.1.1) then
    some (([], ()), ())
  else
    B_Z65_L3 k c_Z66 k (ops, [], 0, ())
def F_Z65 : Nat → C_Z65
  | 0, _ => none
  | k + 1, ops => B_Z65 k (F_Z66 k) ops
theorem tot_Z65 {ops : _} {Q : _ → Prop} (h : Tot (fun σ => B_Z65 (σ 0) (F_Z66 (σ 0)) ops) Q) : Tot (fun σ => F_Z65 (σ 0) ops) Q :=
  Tot.call (F := fun k => F_Z65 k ops) (B := fun k => B_Z65 k (F_Z66 k) ops) (fun k => rfl) h
abbrev A_Z65_L1 (Z : Type) : Type := (List (Int × Int)) → List Int → Int → Int → Z
abbrev u_Z65_L1 {Z : Type} (f : A_Z65_L1 Z) (t : T_Z65_L1) : Z := f t.1 t.2.1 t.2.2.1 t.2.2.2.1
theorem loop_Z65_L1 {again3 : (Nat → Nat) → T_Z65_L3 → R_Z65} (hag3 : Dep 2 again3) {Q : A_Z65_L1 (((List Int × Unit) × (Unit)) → Prop)} (I : A_Z65_L1 Prop) (μ : A_Z65_L1 Nat)
    (step : ∀ a0 a1 a2 a3, I a0 a1 a2 a3 → ∀ again : (Nat → Nat) → T_Z65_L1 → R_Z65, Dep 3 again → (∀ y0 y1 y2 y3, I y0 y1 y2 y3 → μ y0 y1 y2 y3 < μ a0 a1 a2 a3 → Tot (fun σ => again σ (y0, y1, y2, y3, ())) (Q y0 y1 y2 y3)) →
      Tot (fun σ => B_Z65_L1b (σ 0) (F_Z66 (σ 0)) (again3 σ) (again σ) a0 a1 a2 a3) (Q a0 a1 a2 a3)) :
    ∀ a0 a1 a2 a3, I a0 a1 a2 a3 → Tot (fun σ => B_Z65_L1 (σ 0) (F_Z66 (σ 0)) (again3 σ) (σ 0) (a0, a1, a2, a3, ())) (Q a0 a1 a2 a3) := fun a0 a1 a2 a3 => Tot.loop (L := fun σ n t => B_Z65_L1 (σ 0) (F_Z66 (σ 0)) (again3 σ) n t) (B := fun σ g => u_Z65_L1 (B_Z65_L1b (σ 0) (F_Z66 (σ 0)) (again3 σ) g)) (Q := u_Z65_L1 Q) 2 (by decide)
    (fun s s' h => by have e0 : s 0 = s' 0 := h 0 (by decide); simp only [e0, hag3 s s' h]) (fun s s' h => by have e0 : s 0 = s' 0 := h 0 (by decide); simp only [e0, hag3 s s' h]) (fun _ _ _ => rfl) (u_Z65_L1 I) (u_Z65_L1 μ)
    (fun t ht again hag h => step t.1 t.2.1 t.2.2.1 t.2.2.2.1 ht again hag fun y0 y1 y2 y3 => h (y0, y1, y2, y3, ())) (a0, a1, a2, a3, ())
abbrev A_Z65_L3 (Z : Type) : Type := (List (Int × Int)) → List Int → Int → Z
abbrev u_Z65_L3 {Z : Type} (f : A_Z65_L3 Z) (t : T_Z65_L3) : Z := f t.1 t.2.1 t.2.2.1
theorem loop_Z65_L3 {Q : A_Z65_L3 (((List Int × Unit) × (Unit)) → Prop)} (I : A_Z65_L3 Prop) (μ : A_Z65_L3 Nat)
    (step : ∀ a0 a1 a2, I a0 a1 a2 → ∀ again : (Nat → Nat) → T_Z65_L3 → R_Z65, Dep 2 again → (∀ y0 y1 y2, I y0 y1 y2 → μ y0 y1 y2 < μ a0 a1 a2 → Tot (fun σ => again σ (y0, y1, y2, ())) (Q y0 y1 y2)) →
      Tot (fun σ => B_Z65_L3b (σ 0) (F_Z66 (σ 0)) (again σ) a0 a1 a2) (Q a0 a1 a2)) :
    ∀ a0 a1 a2, I a0 a1 a2 → Tot (fun σ => B_Z65_L3 (σ 0) (F_Z66 (σ 0)) (σ 0) (a0, a1, a2, ())) (Q a0 a1 a2) := fun a0 a1 a2 => Tot.loop0 (L := fun k => B_Z65_L3 k (F_Z66 k)) (B := fun k g => u_Z65_L3 (B_Z65_L3b k (F_Z66 k) g)) (Q := u_Z65_L3 Q) (fun _ _ _ => rfl) (u_Z65_L3 I) (u_Z65_L3 μ)
    (fun t ht again hag h => step t.1 t.2.1 t.2.2.1 ht again hag fun y0 y1 y2 => h (y0, y1, y2, ())) (a0, a1, a2, ())
abbrev R_Z46 : Type := Option (((Int × Int × Int × List Int × Unit) × Bool × Unit) × (Unit))
abbrev C_Z46 : Type := (List (Int × Int)) → R_Z46
abbrev T_Z46_L0 : Type := (List (Int × Int)) × (Int × Int × Int × Unit × Unit) × (List Int × List Bool × List Int × List Int × Bool × Unit) × Int × List Int × Int × Unit
def B_Z46_L0b (k : Nat) (c_Z66 : C_Z66) (c_Z59 : C_Z59) (c_Z69 : C_Z69) (c_Z65 : C_Z65) (again0 : T_Z46_L0 → R_Z46) (ops : List (Int × Int)) (t2_Steps t2_Nodes t2_Deep : Int) (s_Kinds : List Int) (s_Full : List Bool) (s_Stack s_Memo : List Int) (s_Done : Bool) (deep : Int) (list : List Int) (i : Int) : R_Z46 :=
  bif decide (i < (len list)) then
    chk (inb i list.length) <|
    chk (decide (i.toNat < list.length)) <|
    again0 (ops, (t2_Steps, t2_Nodes, t2_Deep, (), ()), (s_Kinds, s_Full, s_Stack, s_Memo, s_Done, ()), (if (list.getD i.toNat (0 : Int)) > deep then (list.getD i.toNat (0 : Int)) else deep), list, w64 (i + 1), ())
  else
    (c_Z65 ops).bind fun r44 =>
    some (((len ops, len s_Kinds, deep, r44.1.1, ()), true, ()), ())
def B_Z46_L0 (k : Nat) (c_Z66 : C_Z66) (c_Z59 : C_Z59) (c_Z69 : C_Z69) (c_Z65 : C_Z65) (n : Nat) (t : T_Z46_L0) : R_Z46 :=
  lfix n (fun again t => B_Z46_L0b k c_Z66 c_Z59 c_Z69 c_Z65 again t.1 t.2.1.1 t.2.1.2.1 t.2.1.2.2.1 t.2.2.1.1 t.2.2.1.2.1 t.2.2.1.2.2.1 t.2.2.1.2.2.2.1 t.2.2.1.2.2.2.2.1 t.2.2.2.1 t.2.2.2.2.1 t.2.2.2.2.2.1) t
def B_Z46 (k : Nat) (c_Z66 : C_Z66) (c_Z59 : C_Z59) (c_Z69 : C_Z69) (c_Z65 : C_Z65) (ops : List (Int × Int)) : R_Z46 :=
  (c_Z66 ops).bind fun r10 =>
  bif (!r10.1.1) then
    some (((0, 0, 0, [], ()), false, ()), ())
  else
    (c_Z59 ops).bind fun r15 =>
    bif decide (r15.1.2.1 < (len ops)) then
      some (((0, 0, 0, [], ()), false, ()), ())
    else
      (c_Z69 ops).bind fun r24 =>
      B_Z46_L0 k c_Z66 c_Z59 c_Z69 c_Z65 k (ops, (0, 0, 0, (), ()), (r15.1.1.1, r15.1.1.2.1, r15.1.1.2.2.1, r15.1.1.2.2.2.1, r15.1.1.2.2.2.2.1, ()), 0, r24.1.1, 0, ())
def F_Z46 : Nat → C_Z46
  | 0, _ => none
  | k + 1, ops => B_Z46 k (F_Z66 k) (F_Z59 k) (F_Z69 k) (F_Z65 k) ops
theorem tot_Z46 {ops : _} {Q : _ → Prop} (h : Tot (fun σ => B_Z46 (σ 0) (F_Z66 (σ 0)) (F_Z59 (σ 0)) (F_Z69 (σ 0)) (F_Z65 (σ 0)) ops) Q) : Tot (fun σ => F_Z46 (σ 0) ops) Q :=
  Tot.call (F := fun k => F_Z46 k ops) (B := fun k => B_Z46 k (F_Z66 k) (F_Z59 k) (F_Z69 k) (F_Z65 k) ops) (fun k => rfl) h
abbrev A_Z46_L0 (Z : Type) : Type := (List (Int × Int)) → Int → Int → Int → List Int → List Bool → List Int → List Int → Bool → Int → List Int → Int → Z
abbrev u_Z46_L0 {Z : Type} (f : A_Z46_L0 Z) (t : T_Z46_L0) : Z := f t.1 t.2.1.1 t.2.1.2.1 t.2.1.2.2.1 t.2.2.1.1 t.2.2.1.2.1 t.2.2.1.2.2.1 t.2.2.1.2.2.2.1 t.2.2.1.2.2.2.2.1 t.2.2.2.1 t.2.2.2.2.1 t.2.2.2.2.2.1
theorem loop_Z46_L0 {Q : A_Z46_L0 ((((Int × Int × Int × List Int × Unit) × Bool × Unit) × (Unit)) → Prop)} (I : A_Z46_L0 Prop) (μ : A_Z46_L0 Nat)
    (step : ∀ a0 a1 a2 a3 a4 a5 a6 a7 a8 a9 a10 a11, I a0 a1 a2 a3 a4 a5 a6 a7 a8 a9 a10 a11 → ∀ again : (Nat → Nat) → T_Z46_L0 → R_Z46, Dep 2 again → (∀ y0 y1 y2 y3 y4 y5 y6 y7 y8 y9 y10 y11, I y0 y1 y2 y3 y4 y5 y6 y7 y8 y9 y10 y11 → μ y0 y1 y2 y3 y4 y5 y6 y7 y8 y9 y10 y11 < μ a0 a1 a2 a3 a4 a5 a6 a7 a8 a9 a10 a11 → Tot (fun σ => again σ (y0, (y1, y2, y3, (), ()), (y4, y5, y6, y7, y8, ()), y9, y10, y11, ())) (Q y0 y1 y2 y3 y4 y5 y6 y7 y8 y9 y10 y11)) →
      Tot (fun σ => B_Z46_L0b (σ 0) (F_Z66 (σ 0)) (F_Z59 (σ 0)) (F_Z69 (σ 0)) (F_Z65 (σ 0)) (again σ) a0 a1 a2 a3 a4 a5 a6 a7 a8 a9 a10 a11) (Q a0 a1 a2 a3 a4 a5 a6 a7 a8 a9 a10 a11)) :
    ∀ a0 a1 a2 a3 a4 a5 a6 a7 a8 a9 a10 a11, I a0 a1 a2 a3 a4 a5 a6 a7 a8 a9 a10 a11 → Tot (fun σ => B_Z46_L0 (σ 0) (F_Z66 (σ 0)) (F_Z59 (σ 0)) (F_Z69 (σ 0)) (F_Z65 (σ 0)) (σ 0) (a0, (a1, a2, a3, (), ()), (a4, a5, a6, a7, a8, ()), a9, a10, a11, ())) (Q a0 a1 a2 a3 a4 a5 a6 a7 a8 a9 a10 a11) := fun a0 a1 a2 a3 a4 a5 a6 a7 a8 a9 a10 a11 => Tot.loop0 (L := fun k => B_Z46_L0 k (F_Z66 k) (F_Z59 k) (F_Z69 k) (F_Z65 k)) (B := fun k g => u_Z46_L0 (B_Z46_L0b k (F_Z66 k) (F_Z59 k) (F_Z69 k) (F_Z65 k) g)) (Q := u_Z46_L0 Q) (fun _ _ _ => rfl) (u_Z46_L0 I) (u_Z46_L0 μ)
    (fun t ht again hag h => step t.1 t.2.1.1 t.2.1.2.1 t.2.1.2.2.1 t.2.2.1.1 t.2.2.1.2.1 t.2.2.1.2.2.1 t.2.2.1.2.2.2.1 t.2.2.1.2.2.2.2.1 t.2.2.2.1 t.2.2.2.2.1 t.2.2.2.2.2.1 ht again hag fun y0 y1 y2 y3 y4 y5 y6 y7 y8 y9 y10 y11 => h (y0, (y1, y2, y3, (), ()), (y4, y5, y6, y7, y8, ()), y9, y10, y11, ())) (a0, (a1, a2, a3, (), ()), (a4, a5, a6, a7, a8, ()), a9, a10, a11, ())
abbrev R_Z61 : Type := Option ((Bool × Unit) × (Unit))
abbrev C_Z61 : Type := List Int → List Int → R_Z61
abbrev T_Z61_L0 : Type := List Int × List Int × Int × Unit
def B_Z61_L0b (k : Nat) (again0 : T_Z61_L0 → R_Z61) (a b : List Int) (i : Int) : R_Z61 :=
  bif decide (i < (len a)) then
    chk (inb i a.length) <|
    chk (inb i b.length) <|
    bif ((rdx (0 : Int) a i) != (rdx (0 : Int) b i)) then
      some ((false, ()), ())
    else
      again0 (a, b, w64 (i + 1), ())
  else
    some ((true, ()), ())
def B_Z61_L0 (k : Nat) (n : Nat) (t : T_Z61_L0) : R_Z61 :=
  lfix n (fun again t => B_Z61_L0b k again t.1 t.2.1 t.2.2.1) t
def B_Z61 (k : Nat) (a b : List Int) : R_Z61 :=
  bif ((len a) != (len b)) then
    some ((false, ()), ())
  else
    B_Z61_L0 k k (a, b, 0, ())
def F_Z61 : Nat → C_Z61
  | 0, _, _ => none
  | k + 1, a, b => B_Z61 k a b
theorem tot_Z61 {a b : _} {Q : _ → Prop} (h : Tot (fun σ => B_Z61 (σ 0) a b) Q) : Tot (fun σ => F_Z61 (σ 0) a b) Q :=
  Tot.call (F := fun k => F_Z61 k a b) (B := fun k => B_Z61 k a b) (fun k => rfl) h
abbrev A_Z61_L0 (Z : Type) : Type := List Int → List Int → Int → Z
abbrev u_Z61_L0 {Z : Type} (f : A_Z61_L0 Z) (t : T_Z61_L0) : Z := f t.1 t.2.1 t.2.2.1
theorem loop_Z61_L0 {Q : A_Z61_L0 (((Bool × Unit) × (Unit)) → Prop)} (I : A_Z61_L0 Prop) (μ : A_Z61_L0 Nat)
    (step : ∀ a0 a1 a2, I a0 a1 a2 → ∀ again : (Nat → Nat) → T_Z61_L0 → R_Z61, Dep 2 again → (∀ y0 y1 y2, I y0 y1 y2 → μ y0 y1 y2 < μ a0 a1 a2 → Tot (fun σ => again σ (y0, y1, y2, ())) (Q y0 y1 y2)) →
      Tot (fun σ => B_Z61_L0b (σ 0) (again σ) a0 a1 a2) (Q a0 a1 a2)) :
    ∀ a0 a1 a2, I a0 a1 a2 → Tot (fun σ => B_Z61_L0 (σ 0) (σ 0) (a0, a1, a2, ())) (Q a0 a1 a2) := fun a0 a1 a2 => Tot.loop0 (L := fun k => B_Z61_L0 k) (B := fun k g => u_Z61_L0 (B_Z61_L0b k g)) (Q := u_Z61_L0 Q) (fun _ _ _ => rfl) (u_Z61_L0 I) (u_Z61_L0 μ)
    (fun t ht again hag h => step t.1 t.2.1 t.2.2.1 ht again hag fun y0 y1 y2 => h (y0, y1, y2, ())) (a0, a1, a2, ())
abbrev R_Z43 : Type := Option ((Bool × Unit) × (Unit))
abbrev C_Z43 : Type := Int → Int → Int → List Int → Int → Int → Int → List Int → R_Z43
def B_Z43 (k : Nat) (c_Z61 : C_Z61) (a_0 a_1 a_2 : Int) (a_3 : List Int) (b_0 b_1 b_2 : Int) (b_3 : List Int) : R_Z43 :=
  bif (a_0 == b_0) then
    bif (a_1 == b_1) then
      bif (a_2 == b_2) then
        (c_Z61 a_3 b_3).bind fun r29 =>
        some ((r29.1.1, ()), ())
      else
        some ((false, ()), ())
    else
      some ((false, ()), ())
  else
    some ((false, ()), ())
def F_Z43 : Nat → C_Z43
  | 0, _, _, _, _, _, _, _, _ => none
  | k + 1, a_0, a_1, a_2, a_3, b_0, b_1, b_2, b_3 => B_Z43 k (F_Z61 k) a_0 a_1 a_2 a_3 b_0 b_1 b_2 b_3
theorem tot_Z43 {a_0 a_1 a_2 a_3 b_0 b_1 b_2 b_3 : _} {Q : _ → Prop} (h : Tot (fun σ => B_Z43 (σ 0) (F_Z61 (σ 0)) a_0 a_1 a_2 a_3 b_0 b_1 b_2 b_3) Q) : Tot (fun σ => F_Z43 (σ 0) a_0 a_1 a_2 a_3 b_0 b_1 b_2 b_3) Q :=
  Tot.call (F := fun k => F_Z43 k a_0 a_1 a_2 a_3 b_0 b_1 b_2 b_3) (B := fun k => B_Z43 k (F_Z61 k) a_0 a_1 a_2 a_3 b_0 b_1 b_2 b_3) (fun k => rfl) h
abbrev R_Z20 : Type := Option ((Int × Unit) × (Unit))
abbrev C_Z20 : Type := List Int → Int → R_Z20
abbrev T_Z20_L0 : Type := List Int × Int × Int × Int × Unit
def B_Z20_L0b (k : Nat) (again0 : T_Z20_L0 → R_Z20) (s : List Int) (v t7 t8 : Int) : R_Z20 :=
  bif decide (t8 < t7) then
    chk (inb t8 s.length) <|
    bif (v == (rdx (0 : Int) s t8)) then
      some ((t8, ()), ())
    else
      again0 (s, v, t7, w64 (t8 + 1), ())
  else
    some (((-1), ()), ())
def B_Z20_L0 (k : Nat) (n : Nat) (t : T_Z20_L0) : R_Z20 :=
  lfix n (fun again t => B_Z20_L0b k again t.1 t.2.1 t.2.2.1 t.2.2.2.1) t
def B_Z20 (k : Nat) (s : List Int) (v : Int) : R_Z20 :=
  B_Z20_L0 k k (s, v, len s, 0, ())
def F_Z20 : Nat → C_Z20
  | 0, _, _ => none
  | k + 1, s, v => B_Z20 k s v
theorem tot_Z20 {s v : _} {Q : _ → Prop} (h : Tot (fun σ => B_Z20 (σ 0) s v) Q) : Tot (fun σ => F_Z20 (σ 0) s v) Q :=
  Tot.call (F := fun k => F_Z20 k s v) (B := fun k => B_Z20 k s v) (fun k => rfl) h
abbrev A_Z20_L0 (Z : Type) : Type := List Int → Int → Int → Int → Z
abbrev u_Z20_L0 {Z : Type} (f : A_Z20_L0 Z) (t : T_Z20_L0) : Z := f t.1 t.2.1 t.2.2.1 t.2.2.2.1
theorem loop_Z20_L0 {Q : A_Z20_L0 (((Int × Unit) × (Unit)) → Prop)} (I : A_Z20_L0 Prop) (μ : A_Z20_L0 Nat)
    (step : ∀ a0 a1 a2 a3, I a0 a1 a2 a3 → ∀ again : (Nat → Nat) → T_Z20_L0 → R_Z20, Dep 2 again → (∀ y0 y1 y2 y3, I y0 y1 y2 y3 → μ y0 y1 y2 y3 < μ a0 a1 a2 a3 → Tot (fun σ => again σ (y0, y1, y2, y3, ())) (Q y0 y1 y2 y3)) →
      Tot (fun σ => B_Z20_L0b (σ 0) (again σ) a0 a1 a2 a3) (Q a0 a1 a2 a3)) :
    ∀ a0 a1 a2 a3, I a0 a1 a2 a3 → Tot (fun σ => B_Z20_L0 (σ 0) (σ 0) (a0, a1, a2, a3, ())) (Q a0 a1 a2 a3) := fun a0 a1 a2 a3 => Tot.loop0 (L := fun k => B_Z20_L0 k) (B := fun k g => u_Z20_L0 (B_Z20_L0b k g)) (Q := u_Z20_L0 Q) (fun _ _ _ => rfl) (u_Z20_L0 I) (u_Z20_L0 μ)
    (fun t ht again hag h => step t.1 t.2.1 t.2.2.1 t.2.2.2.1 ht again hag fun y0 y1 y2 y3 => h (y0, y1, y2, y3, ())) (a0, a1, a2, a3, ())
abbrev R_Z14 : Type := Option ((Bool × Unit) × (Unit))
abbrev C_Z14 : Type := List Int → Int → R_Z14
def B_Z14 (k : Nat) (c_Z20 : C_Z20) (s : List Int) (v : Int) : R_Z14 :=
  (c_Z20 s v).bind fun r7 =>
  some ((decide (r7.1.1 ≥ 0), ()), ())
def F_Z14 : Nat → C_Z14
  | 0, _, _ => none
  | k + 1, s, v => B_Z14 k (F_Z20 k) s v
theorem tot_Z14 {s v : _} {Q : _ → Prop} (h : Tot (fun σ => B_Z14 (σ 0) (F_Z20 (σ 0)) s v) Q) : Tot (fun σ => F_Z14 (σ 0) s v) Q :=
  Tot.call (F := fun k => F_Z14 k s v) (B := fun k => B_Z14 k (F_Z20 k) s v) (fun k => rfl) h
abbrev R_Z41 : Type := Option ((Bool × Unit) × (Unit))
abbrev C_Z41 : Type := Int → Int → Int → List Int → R_Z41
abbrev T_Z41_L1 : Type := (Int × Int × Int × List Int × Unit) × List Int × Int × Int × Unit
def B_Z41_J0 (k : Nat) (c_Z14 : C_Z14) (again1 : T_Z41_L1 → R_Z41) (r_Steps r_Nodes r_Deep : Int) (r_Classes t6 : List Int) (t7 t8 : Int) (t26 : Bool) : R_Z41 :=
  bif t26 then
    some ((false, ()), ())
  else
    again1 ((r_Steps, r_Nodes, r_Deep, r_Classes, ()), t6, t7, w64 (t8 + 1), ())
def B_Z41_L1b (k : Nat) (c_Z14 : C_Z14) (again1 : T_Z41_L1 → R_Z41) (r_Steps r_Nodes r_Deep : Int) (r_Classes t6 : List Int) (t7 t8 : Int) : R_Z41 :=
  bif decide (t8 < t7) then
    chk (inb t8 t6.length) <|
    bif decide ((rdx (0 : Int) t6 t8) < 0) then
      jn (fun t => B_Z41_J0 k c_Z14 again1 t.1.1 t.1.2.1 t.1.2.2.1 t.1.2.2.2.1 t.2.1 t.2.2.1 t.2.2.2.1 t.2.2.2.2.1) ((r_Steps, r_Nodes, r_Deep, r_Classes, ()), t6, t7, t8, true, ())
    else
      bif decide ((rdx (0 : Int) t6 t8) > 9) then
        jn (fun t => B_Z41_J0 k c_Z14 again1 t.1.1 t.1.2.1 t.1.2.2.1 t.1.2.2.2.1 t.2.1 t.2.2.1 t.2.2.2.1 t.2.2.2.2.1) ((r_Steps, r_Nodes, r_Deep, r_Classes, ()), t6, t7, t8, true, ())
      else
        chk (cutb 0 t8 r_Classes.length) <|
        (c_Z14 (sub r_Classes 0 t8) (rdx (0 : Int) t6 t8)).bind fun r25 =>
        jn (fun t => B_Z41_J0 k c_Z14 again1 t.1.1 t.1.2.1 t.1.2.2.1 t.1.2.2.2.1 t.2.1 t.2.2.1 t.2.2.2.1 t.2.2.2.2.1) ((r_Steps, r_Nodes, r_Deep, r_Classes, ()), t6, t7, t8, r25.1.1, ())
  else
    bif decide (r_Steps ≥ 0) then
      bif decide (r_Steps ≤ 300) then
        bif decide (r_Nodes ≥ 0) then
          bif decide (r_Nodes ≤ 300) then
            bif decide (r_Deep ≥ 0) then
              some ((decide (r_Deep ≤ 300), ()), ())
            else
              some ((false, ()), ())
          else
            some ((false, ()), ())
        else
          some ((false, ()), ())
      else
        some ((false, ()), ())
    else
      some ((false, ()), ())
def B_Z41_L1 (k : Nat) (c_Z14 : C_Z14) (n : Nat) (t : T_Z41_L1) : R_Z41 :=
  lfix n (fun again t => B_Z41_L1b k c_Z14 again t.1.1 t.1.2.1 t.1.2.2.1 t.1.2.2.2.1 t.2.1 t.2.2.1 t.2.2.2.1) t
def B_Z41 (k : Nat) (c_Z14 : C_Z14) (r_0 r_1 r_2 : Int) (r_3 : List Int) : R_Z41 :=
  B_Z41_L1 k c_Z14 k ((r_0, r_1, r_2, r_3, ()), r_3, len r_3, 0, ())
def F_Z41 : Nat → C_Z41
  | 0, _, _, _, _ => none
  | k + 1, r_0, r_1, r_2, r_3 => B_Z41 k (F_Z14 k) r_0 r_1 r_2 r_3
theorem tot_Z41 {r_0 r_1 r_2 r_3 : _} {Q : _ → Prop} (h : Tot (fun σ => B_Z41 (σ 0) (F_Z14 (σ 0)) r_0 r_1 r_2 r_3) Q) : Tot (fun σ => F_Z41 (σ 0) r_0 r_1 r_2 r_3) Q :=
  Tot.call (F := fun k => F_Z41 k r_0 r_1 r_2 r_3) (B := fun k => B_Z41 k (F_Z14 k) r_0 r_1 r_2 r_3) (fun k => rfl) h
abbrev A_Z41_L1 (Z : Type) : Type := Int → Int → Int → List Int → List Int → Int → Int → Z
abbrev u_Z41_L1 {Z : Type} (f : A_Z41_L1 Z) (t : T_Z41_L1) : Z := f t.1.1 t.1.2.1 t.1.2.2.1 t.1.2.2.2.1 t.2.1 t.2.2.1 t.2.2.2.1
theorem loop_Z41_L1 {Q : A_Z41_L1 (((Bool × Unit) × (Unit)) → Prop)} (I : A_Z41_L1 Prop) (μ : A_Z41_L1 Nat)
    (step : ∀ a0 a1 a2 a3 a4 a5 a6, I a0 a1 a2 a3 a4 a5 a6 → ∀ again : (Nat → Nat) → T_Z41_L1 → R_Z41, Dep 2 again → (∀ y0 y1 y2 y3 y4 y5 y6, I y0 y1 y2 y3 y4 y5 y6 → μ y0 y1 y2 y3 y4 y5 y6 < μ a0 a1 a2 a3 a4 a5 a6 → Tot (fun σ => again σ ((y0, y1, y2, y3, ()), y4, y5, y6, ())) (Q y0 y1 y2 y3 y4 y5 y6)) →
      Tot (fun σ => B_Z41_L1b (σ 0) (F_Z14 (σ 0)) (again σ) a0 a1 a2 a3 a4 a5 a6) (Q a0 a1 a2 a3 a4 a5 a6)) :
    ∀ a0 a1 a2 a3 a4 a5 a6, I a0 a1 a2 a3 a4 a5 a6 → Tot (fun σ => B_Z41_L1 (σ 0) (F_Z14 (σ 0)) (σ 0) ((a0, a1, a2, a3, ()), a4, a5, a6, ())) (Q a0 a1 a2 a3 a4 a5 a6) := fun a0 a1 a2 a3 a4 a5 a6 => Tot.loop0 (L := fun k => B_Z41_L1 k (F_Z14 k)) (B := fun k g => u_Z41_L1 (B_Z41_L1b k (F_Z14 k) g)) (Q := u_Z41_L1 Q) (fun _ _ _ => rfl) (u_Z41_L1 I) (u_Z41_L1 μ)
    (fun t ht again hag h => step t.1.1 t.1.2.1 t.1.2.2.1 t.1.2.2.2.1 t.2.1 t.2.2.1 t.2.2.2.1 ht again hag fun y0 y1 y2 y3 y4 y5 y6 => h ((y0, y1, y2, y3, ()), y4, y5, y6, ())) ((a0, a1, a2, a3, ()), a4, a5, a6, ())
abbrev R_Z86 : Type := Option ((Int × Int × Unit) × (Unit))
abbrev C_Z86 : Type := (List (Int × Int)) → Int → Int → Int → List Int → R_Z86
abbrev T_Z86_L2 : Type := (List (Int × Int)) × (Int × Int × Int × List Int × Unit) × ((List (Int × Int × List Int)) × List Int × List Int × Bool × Unit) × (List (Int × Int)) × Int × Int × Unit
def B_Z86_J1 (k : Nat) (c_Z68 : C_Z68) (c_Z41 : C_Z41) (c_Z47 : C_Z47) (c_Z27 : C_Z27) (c_Z14 : C_Z14) (again2 : T_Z86_L2 → R_Z86) (ops : List (Int × Int)) (r_Steps r_Nodes r_Deep : Int) (r_Classes : List Int) (m_Nodes : List (Int × Int × List Int)) (m_Stack m_Memo : List Int) (m_Done : Bool) (i : Int) (t19 : List (Int × Int)) (t20 t21 : Int) (t39 : Bool) : R_Z86 :=
  bif t39 then
    some ((i, 3, ()), ())
  else
    bif decide ((len m_Nodes) > r_Nodes) then
      some ((i, 4, ()), ())
    else
      bif decide ((len m_Stack) > r_Deep) then
        some ((i, 5, ()), ())
      else
        again2 (ops, (r_Steps, r_Nodes, r_Deep, r_Classes, ()), (m_Nodes, m_Stack, m_Memo, m_Done, ()), t19, t20, w64 (t21 + 1), ())
def B_Z86_L2b (k : Nat) (c_Z68 : C_Z68) (c_Z41 : C_Z41) (c_Z47 : C_Z47) (c_Z27 : C_Z27) (c_Z14 : C_Z14) (again2 : T_Z86_L2 → R_Z86) (ops : List (Int × Int)) (r_Steps r_Nodes r_Deep : Int) (r_Classes : List Int) (m_Nodes : List (Int × Int × List Int)) (m_Stack m_Memo : List Int) (m_Done : Bool) (t19 : List (Int × Int)) (t20 t21 : Int) : R_Z86 :=
  bif decide (t21 < t20) then
    chk (inb t21 t19.length) <|
    (c_Z27 m_Nodes m_Stack m_Memo m_Done ((rdx ((0 : Int), (0 : Int)) t19 t21).1) ((rdx ((0 : Int), (0 : Int)) t19 t21).2)).bind fun r27 =>
    bif (!r27.1.1) then
      some ((t21, 1, ()), ())
    else
      bif decide ((w64 (t21 + 1)) > r_Steps) then
        some ((t21, 2, ()), ())
      else
        bif (((rdx ((0 : Int), (0 : Int)) t19 t21).1) == 13) then
          (c_Z14 r_Classes ((rdx ((0 : Int), (0 : Int)) t19 t21).2)).bind fun r48 =>
          (r27.2.1.1).bind fun p46 =>
          jn (fun t => B_Z86_J1 k c_Z68 c_Z41 c_Z47 c_Z27 c_Z14 again2 t.1 t.2.1.1 t.2.1.2.1 t.2.1.2.2.1 t.2.1.2.2.2.1 t.2.2.1.1 t.2.2.1.2.1 t.2.2.1.2.2.1 t.2.2.1.2.2.2.1 t.2.2.2.1 t.2.2.2.2.1 t.2.2.2.2.2.1 t.2.2.2.2.2.2.1 t.2.2.2.2.2.2.2.1) (ops, (r_Steps, r_Nodes, r_Deep, r_Classes, ()), (p46, r27.2.1.2.1, r27.2.1.2.2.1, r27.2.1.2.2.2.1, ()), t21, t19, t20, t21, (!r48.1.1), ())
        else
          (r27.2.1.1).bind fun p47 =>
          jn (fun t => B_Z86_J1 k c_Z68 c_Z41 c_Z47 c_Z27 c_Z14 again2 t.1 t.2.1.1 t.2.1.2.1 t.2.1.2.2.1 t.2.1.2.2.2.1 t.2.2.1.1 t.2.2.1.2.1 t.2.2.1.2.2.1 t.2.2.1.2.2.2.1 t.2.2.2.1 t.2.2.2.2.1 t.2.2.2.2.2.1 t.2.2.2.2.2.2.1 t.2.2.2.2.2.2.2.1) (ops, (r_Steps, r_Nodes, r_Deep, r_Classes, ()), (p47, r27.2.1.2.1, r27.2.1.2.2.1, r27.2.1.2.2.2.1, ()), t21, t19, t20, t21, false, ())
  else
    bif m_Done then
      some ((len ops, 0, ()), ())
    else
      some ((len ops, 6, ()), ())
def B_Z86_L2 (k : Nat) (c_Z68 : C_Z68) (c_Z41 : C_Z41) (c_Z47 : C_Z47) (c_Z27 : C_Z27) (c_Z14 : C_Z14) (n : Nat) (t : T_Z86_L2) : R_Z86 :=
  lfix n (fun again t => B_Z86_L2b k c_Z68 c_Z41 c_Z47 c_Z27 c_Z14 again t.1 t.2.1.1 t.2.1.2.1 t.2.1.2.2.1 t.2.1.2.2.2.1 t.2.2.1.1 t.2.2.1.2.1 t.2.2.1.2.2.1 t.2.2.1.2.2.2.1 t.2.2.2.1 t.2.2.2.2.1 t.2.2.2.2.2.1) t
def B_Z86_J0 (k : Nat) (c_Z68 : C_Z68) (c_Z41 : C_Z41) (c_Z47 : C_Z47) (c_Z27 : C_Z27) (c_Z14 : C_Z14) (ops : List (Int × Int)) (r_Steps r_Nodes r_Deep : Int) (r_Classes : List Int) (t17 : Bool) : R_Z86 :=
  bif t17 then
    some (((-1), (-1), ()), ())
  else
    (c_Z47 0).bind fun r18 =>
    B_Z86_L2 k c_Z68 c_Z41 c_Z47 c_Z27 c_Z14 k (ops, (r_Steps, r_Nodes, r_Deep, r_Classes, ()), (r18.1.1.1, [], r18.1.1.2.2.1, r18.1.1.2.2.2.1, ()), ops, len ops, 0, ())
def B_Z86 (k : Nat) (c_Z68 : C_Z68) (c_Z41 : C_Z41) (c_Z47 : C_Z47) (c_Z27 : C_Z27) (c_Z14 : C_Z14) (ops : List (Int × Int)) (r_0 r_1 r_2 : Int) (r_3 : List Int) : R_Z86 :=
  (c_Z68 ops).bind fun r11 =>
  bif (!r11.1.1) then
    jn (fun t => B_Z86_J0 k c_Z68 c_Z41 c_Z47 c_Z27 c_Z14 t.1 t.2.1.1 t.2.1.2.1 t.2.1.2.2.1 t.2.1.2.2.2.1 t.2.2.1) (ops, (r_0, r_1, r_2, r_3, ()), true, ())
  else
    (c_Z41 r_0 r_1 r_2 r_3).bind fun r15 =>
    jn (fun t => B_Z86_J0 k c_Z68 c_Z41 c_Z47 c_Z27 c_Z14 t.1 t.2.1.1 t.2.1.2.1 t.2.1.2.2.1 t.2.1.2.2.2.1 t.2.2.1) (ops, (r_0, r_1, r_2, r_3, ()), (!r15.1.1), ())
def F_Z86 : Nat → C_Z86
  | 0, _, _, _, _, _ => none
  | k + 1, ops, r_0, r_1, r_2, r_3 => B_Z86 k (F_Z68 k) (F_Z41 k) (F_Z47 k) (F_Z27 k) (F_Z14 k) ops r_0 r_1 r_2 r_3
theorem tot_Z86 {ops r_0 r_1 r_2 r_3 : _} {Q : _ → Prop} (h : Tot (fun σ => B_Z86 (σ 0) (F_Z68 (σ 0)) (F_Z41 (σ 0)) (F_Z47 (σ 0)) (F_Z27 (σ 0)) (F_Z14 (σ 0)) ops r_0 r_1 r_2 r_3) Q) : Tot (fun σ => F_Z86 (σ 0) ops r_0 r_1 r_2 r_3) Q :=
  Tot.call (F := fun k => F_Z86 k ops r_0 r_1 r_2 r_3) (B := fun k => B_Z86 k (F_Z68 k) (F_Z41 k) (F_Z47 k) (F_Z27 k) (F_Z14 k) ops r_0 r_1 r_2 r_3) (fun k => rfl) h
abbrev A_Z86_L2 (Z : Type) : Type := (List (Int × Int)) → Int → Int → Int → List Int → (List (Int × Int × List Int)) → List Int → List Int → Bool → (List (Int × Int)) → Int → Int → Z
abbrev u_Z86_L2 {Z : Type} (f : A_Z86_L2 Z) (t : T_Z86_L2) : Z := f t.1 t.2.1.1 t.2.1.2.1 t.2.1.2.2.1 t.2.1.2.2.2.1 t.2.2.1.1 t.2.2.1.2.1 t.2.2.1.2.2.1 t.2.2.1.2.2.2.1 t.2.2.2.1 t.2.2.2.2.1 t.2.2.2.2.2.1
theorem loop_Z86_L2 {Q : A_Z86_L2 (((Int × Int × Unit) × (Unit)) → Prop)} (I : A_Z86_L2 Prop) (μ : A_Z86_L2 Nat)
    (step : ∀ a0 a1 a2 a3 a4 a5 a6 a7 a8 a9 a10 a11, I a0 a1 a2 a3 a4 a5 a6 a7 a8 a9 a10 a11 → ∀ again : (Nat → Nat) → T_Z86_L2 → R_Z86, Dep 2 again → (∀ y0 y1 y2 y3 y4 y5 y6 y7 y8 y9 y10 y11, I y0 y1 y2 y3 y4 y5 y6 y7 y8 y9 y10 y11 → μ y0 y1 y2 y3 y4 y5 y6 y7 y8 y9 y10 y11 < μ a0 a1 a2 a3 a4 a5 a6 a7 a8 a9 a10 a11 → Tot (fun σ => again σ (y0, (y1, y2, y3, y4, ()), (y5, y6, y7, y8, ()), y9, y10, y11, ())) (Q y0 y1 y2 y3 y4 y5 y6 y7 y8 y9 y10 y11)) →
      Tot (fun σ => B_Z86_L2b (σ 0) (F_Z68 (σ 0)) (F_Z41 (σ 0)) (F_Z47 (σ 0)) (F_Z27 (σ 0)) (F_Z14 (σ 0)) (again σ) a0 a1 a2 a3 a4 a5 a6 a7 a8 a9 a10 a11) (Q a0 a1 a2 a3 a4 a5 a6 a7 a8 a9 a10 a11)) :
    ∀ a0 a1 a2 a3 a4 a5 a6 a7 a8 a9 a10 a11, I a0 a1 a2 a3 a4 a5 a6 a7 a8 a9 a10 a11 → Tot (fun σ => B_Z86_L2 (σ 0) (F_Z68 (σ 0)) (F_Z41 (σ 0)) (F_Z47 (σ 0)) (F_Z27 (σ 0)) (F_Z14 (σ 0)) (σ 0) (a0, (a1, a2, a3, a4, ()), (a5, a6, a7, a8, ()), a9, a10, a11, ())) (Q a0 a1 a2 a3 a4 a5 a6 a7 a8 a9 a10 a11) := fun a0 a1 a2 a3 a4 a5 a6 a7 a8 a9 a10 a11 => Tot.loop0 (L := fun k => B_Z86_L2 k (F_Z68 k) (F_Z41 k) (F_Z47 k) (F_Z27 k) (F_Z14 k)) (B := fun k g => u_Z86_L2 (B_Z86_L2b k (F_Z68 k) (F_Z41 k) (F_Z47 k) (F_Z27 k) (F_Z14 k) g)) (Q := u_Z86_L2 Q) (fun _ _ _ => rfl) (u_Z86_L2 I) (u_Z86_L2 μ)
    (fun t ht again hag h => step t.1 t.2.1.1 t.2.1.2.1 t.2.1.2.2.1 t.2.1.2.2.2.1 t.2.2.1.1 t.2.2.1.2.1 t.2.2.1.2.2.1 t.2.2.1.2.2.2.1 t.2.2.2.1 t.2.2.2.2.1 t.2.2.2.2.2.1 ht again hag fun y0 y1 y2 y3 y4 y5 y6 y7 y8 y9 y10 y11 => h (y0, (y1, y2, y3, y4, ()), (y5, y6, y7, y8, ()), y9, y10, y11, ())) (a0, (a1, a2, a3, a4, ()), (a5, a6, a7, a8, ()), a9, a10, a11, ())
abbrev R_Z26 : Type := Option ((Bool × Unit) × (Unit))
abbrev C_Z26 : Type := List Int → R_Z26
def B_Z26_J0 (k : Nat) (c_Z23 : C_Z23) (c_Z51 : C_Z51) (c_Z46 : C_Z46) (c_Z43 : C_Z43) (c_Z86 : C_Z86) (c_Z41 : C_Z41) (ops : List (Int × Int)) (out_Steps out_Nodes out_Deep : Int) (out_Classes : List Int) (ok : Bool) (want_Steps want_Nodes want_Deep : Int) (want_Classes : List Int) (told t46 : Bool) : R_Z26 :=
  bif t46 then
    (c_Z43 out_Steps out_Nodes out_Deep out_Classes want_Steps want_Nodes want_Deep want_Classes).bind fun r49 =>
    bif r49.1.1 then
      some (((ok == told), ()), ())
    else
      some ((false, ()), ())
  else
    (c_Z86 ops out_Steps out_Nodes out_Deep out_Classes).bind fun r58 =>
    (c_Z86 ops (if 0 > w64 (out_Steps - 1) then 0 else w64 (out_Steps - 1)) out_Nodes out_Deep out_Classes).bind fun r82 =>
    (c_Z86 ops out_Steps (if 0 > w64 (out_Nodes - 1) then 0 else w64 (out_Nodes - 1)) out_Deep out_Classes).bind fun r88 =>
    (c_Z86 ops out_Steps out_Nodes (if 0 > w64 (out_Deep - 1) then 0 else w64 (out_Deep - 1)) out_Classes).bind fun r94 =>
    bif (r58.1.1 == (len ops)) then
      bif (out_Steps == 0) then
        bif (out_Nodes == 0) then
          bif (out_Deep == 0) then
            (c_Z41 out_Steps out_Nodes out_Deep out_Classes).bind fun r133 =>
            some ((r133.1.1, ()), ())
          else
            bif decide (r94.1.1 < r58.1.1) then
              (c_Z41 out_Steps out_Nodes out_Deep out_Classes).bind fun r133 =>
              some ((r133.1.1, ()), ())
            else
              some ((false, ()), ())
        else
          bif decide (r88.1.1 < r58.1.1) then
            bif (out_Deep == 0) then
              (c_Z41 out_Steps out_Nodes out_Deep out_Classes).bind fun r133 =>
              some ((r133.1.1, ()), ())
            else
              bif decide (r94.1.1 < r58.1.1) then
                (c_Z41 out_Steps out_Nodes out_Deep out_Classes).bind fun r133 =>
                some ((r133.1.1, ()), ())
              else
                some ((false, ()), ())
          else
            some ((false, ()), ())
      else
        bif decide (r82.1.1 < r58.1.1) then
          bif (out_Nodes == 0) then
            bif (out_Deep == 0) then
              (c_Z41 out_Steps out_Nodes out_Deep out_Classes).bind fun r133 =>
              some ((r133.1.1, ()), ())
            else
              bif decide (r94.1.1 < r58.1.1) then
                (c_Z41 out_Steps out_Nodes out_Deep out_Classes).bind fun r133 =>
                some ((r133.1.1, ()), ())
              else
                some ((false, ()), ())
          else
            bif decide (r88.1.1 < r58.1.1) then
              bif (out_Deep == 0) then
                (c_Z41 out_Steps out_Nodes out_Deep out_Classes).bind fun r133 =>
                some ((r133.1.1, ()), ())
              else
                bif decide (r94.1.1 < r58.1.1) then
                  (c_Z41 out_Steps out_Nodes out_Deep out_Classes).bind fun r133 =>
                  some ((r133.1.1, ()), ())
                else
                  some ((false, ()), ())
            else
              some ((false, ()), ())
        else
          some ((false, ()), ())
    else
      some ((false, ()), ())
def B_Z26 (k : Nat) (c_Z23 : C_Z23) (c_Z51 : C_Z51) (c_Z46 : C_Z46) (c_Z43 : C_Z43) (c_Z86 : C_Z86) (c_Z41 : C_Z41) (code : List Int) : R_Z26 :=
  bif decide ((len code) > 1048576) then
    some ((true, ()), ())
  else
    (c_Z23 code).bind fun r23 =>
    (c_Z51 r23.1.1).bind fun r26 =>
    (c_Z46 r23.1.1).bind fun r31 =>
    (c_Z43 r26.1.1.1 r26.1.1.2.1 r26.1.1.2.2.1 r26.1.1.2.2.2.1 r31.1.1.1 r31.1.1.2.1 r31.1.1.2.2.1 r31.1.1.2.2.2.1).bind fun r36 =>
    bif (!r36.1.1) then
      jn (fun t => B_Z26_J0 k c_Z23 c_Z51 c_Z46 c_Z43 c_Z86 c_Z41 t.1 t.2.1.1 t.2.1.2.1 t.2.1.2.2.1 t.2.1.2.2.2.1 t.2.2.1 t.2.2.2.1.1 t.2.2.2.1.2.1 t.2.2.2.1.2.2.1 t.2.2.2.1.2.2.2.1 t.2.2.2.2.1 t.2.2.2.2.2.1) (r23.1.1, (r26.1.1.1, r26.1.1.2.1, r26.1.1.2.2.1, r26.1.1.2.2.2.1, ()), r26.1.2.1, (r31.1.1.1, r31.1.1.2.1, r31.1.1.2.2.1, r31.1.1.2.2.2.1, ()), r31.1.2.1, true, ())
    else
      bif (!(r26.1.2.1 == r31.1.2.1)) then
        jn (fun t => B_Z26_J0 k c_Z23 c_Z51 c_Z46 c_Z43 c_Z86 c_Z41 t.1 t.2.1.1 t.2.1.2.1 t.2.1.2.2.1 t.2.1.2.2.2.1 t.2.2.1 t.2.2.2.1.1 t.2.2.2.1.2.1 t.2.2.2.1.2.2.1 t.2.2.2.1.2.2.2.1 t.2.2.2.2.1 t.2.2.2.2.2.1) (r23.1.1, (r26.1.1.1, r26.1.1.2.1, r26.1.1.2.2.1, r26.1.1.2.2.2.1, ()), r26.1.2.1, (r31.1.1.1, r31.1.1.2.1, r31.1.1.2.2.1, r31.1.1.2.2.2.1, ()), r31.1.2.1, true, ())
      else
        jn (fun t => B_Z26_J0 k c_Z23 c_Z51 c_Z46 c_Z43 c_Z86 c_Z41 t.1 t.2.1.1 t.2.1.2.1 t.2.1.2.2.1 t.2.1.2.2.2.1 t.2.2.1 t.2.2.2.1.1 t.2.2.2.1.2.1 t.2.2.2.1.2.2.1 t.2.2.2.1.2.2.2.1 t.2.2.2.2.1 t.2.2.2.2.2.1) (r23.1.1, (r26.1.1.1, r26.1.1.2.1, r26.1.1.2.2.1, r26.1.1.2.2.2.1, ()), r26.1.2.1, (r31.1.1.1, r31.1.1.2.1, r31.1.1.2.2.1, r31.1.1.2.2.2.1, ()), r31.1.2.1, (!r26.1.2.1), ())
def F_Z26 : Nat → C_Z26
  | 0, _ => none
  | k + 1, code => B_Z26 k (F_Z23 k) (F_Z51 k) (F_Z46 k) (F_Z43 k) (F_Z86 k) (F_Z41 k) code
theorem tot_Z26 {code : _} {Q : _ → Prop} (h : Tot (fun σ => B_Z26 (σ 0) (F_Z23 (σ 0)) (F_Z51 (σ 0)) (F_Z46 (σ 0)) (F_Z43 (σ 0)) (F_Z86 (σ 0)) (F_Z41 (σ 0)) code) Q) : Tot (fun σ => F_Z26 (σ 0) code) Q :=
  Tot.call (F := fun k => F_Z26 k code) (B := fun k => B_Z26 k (F_Z23 k) (F_Z51 k) (F_Z46 k) (F_Z43 k) (F_Z86 k) (F_Z41 k) code) (fun k => rfl) h
end Go.Gx

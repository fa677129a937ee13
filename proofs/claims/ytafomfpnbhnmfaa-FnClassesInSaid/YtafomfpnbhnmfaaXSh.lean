/-
  The functions, as Gx tells them (printed by gen.py).
-/
import Derived.Test.YtafomfpnbhnmfaaXSh1
set_option linter.unusedVariables false
namespace Go.Gx
abbrev A_slices_partitionOrdered_int_L7 (Z : Type) : Type := List Int → Int → Int → Int → Z
abbrev u_slices_partitionOrdered_int_L7 {Z : Type} (f : A_slices_partitionOrdered_int_L7 Z) (t : T_slices_partitionOrdered_int_L7) : Z := f t.1 t.2.1 t.2.2.1 t.2.2.2.1
theorem loop_slices_partitionOrdered_int_L7 {again8 : (Nat → Nat) → T_slices_partitionOrdered_int_L8 → R_slices_partitionOrdered_int} (hag8 : Dep 2 again8) {Q : A_slices_partitionOrdered_int_L7 (((Int × Bool × Unit) × (List Int × Unit)) → Prop)} (I : A_slices_partitionOrdered_int_L7 Prop) (μ : A_slices_partitionOrdered_int_L7 Nat)
    (step : ∀ a0 a1 a2 a3, I a0 a1 a2 a3 → ∀ again : (Nat → Nat) → T_slices_partitionOrdered_int_L7 → R_slices_partitionOrdered_int, Dep 3 again → (∀ y0 y1 y2 y3, I y0 y1 y2 y3 → μ y0 y1 y2 y3 < μ a0 a1 a2 a3 → Tot (fun σ => again σ (y0, y1, y2, y3, ())) (Q y0 y1 y2 y3)) →
      Tot (fun σ => B_slices_partitionOrdered_int_L7b (σ 0) (F_cmp_Less_int (σ 0)) (again8 σ) (again σ) a0 a1 a2 a3) (Q a0 a1 a2 a3)) :
    ∀ a0 a1 a2 a3, I a0 a1 a2 a3 → Tot (fun σ => B_slices_partitionOrdered_int_L7 (σ 0) (F_cmp_Less_int (σ 0)) (again8 σ) (σ 0) (a0, a1, a2, a3, ())) (Q a0 a1 a2 a3) := fun a0 a1 a2 a3 => Tot.loop (L := fun σ n t => B_slices_partitionOrdered_int_L7 (σ 0) (F_cmp_Less_int (σ 0)) (again8 σ) n t) (B := fun σ g => u_slices_partitionOrdered_int_L7 (B_slices_partitionOrdered_int_L7b (σ 0) (F_cmp_Less_int (σ 0)) (again8 σ) g)) (Q := u_slices_partitionOrdered_int_L7 Q) 2 (by decide)
    (fun s s' h => by have e0 : s 0 = s' 0 := h 0 (by decide); simp only [e0, hag8 s s' h]) (fun s s' h => by have e0 : s 0 = s' 0 := h 0 (by decide); simp only [e0, hag8 s s' h]) (fun _ _ _ => rfl) (u_slices_partitionOrdered_int_L7 I) (u_slices_partitionOrdered_int_L7 μ)
    (fun t ht again hag h => step t.1 t.2.1 t.2.2.1 t.2.2.2.1 ht again hag fun y0 y1 y2 y3 => h (y0, y1, y2, y3, ())) (a0, a1, a2, a3, ())
abbrev A_slices_partitionOrdered_int_L5 (Z : Type) : Type := List Int → Int → Int → Int → Z
abbrev u_slices_partitionOrdered_int_L5 {Z : Type} (f : A_slices_partitionOrdered_int_L5 Z) (t : T_slices_partitionOrdered_int_L5) : Z := f t.1 t.2.1 t.2.2.1 t.2.2.2.1
theorem loop_slices_partitionOrdered_int_L5 {again8 : (Nat → Nat) → T_slices_partitionOrdered_int_L8 → R_slices_partitionOrdered_int} (hag8 : Dep 2 again8) {Q : A_slices_partitionOrdered_int_L5 (((Int × Bool × Unit) × (List Int × Unit)) → Prop)} (I : A_slices_partitionOrdered_int_L5 Prop) (μ : A_slices_partitionOrdered_int_L5 Nat)
    (step : ∀ a0 a1 a2 a3, I a0 a1 a2 a3 → ∀ again : (Nat → Nat) → T_slices_partitionOrdered_int_L5 → R_slices_partitionOrdered_int, Dep 3 again → (∀ y0 y1 y2 y3, I y0 y1 y2 y3 → μ y0 y1 y2 y3 < μ a0 a1 a2 a3 → Tot (fun σ => again σ (y0, y1, y2, y3, ())) (Q y0 y1 y2 y3)) →
      Tot (fun σ => B_slices_partitionOrdered_int_L5b (σ 0) (F_cmp_Less_int (σ 0)) (again8 σ) (again σ) a0 a1 a2 a3) (Q a0 a1 a2 a3)) :
    ∀ a0 a1 a2 a3, I a0 a1 a2 a3 → Tot (fun σ => B_slices_partitionOrdered_int_L5 (σ 0) (F_cmp_Less_int (σ 0)) (again8 σ) (σ 0) (a0, a1, a2, a3, ())) (Q a0 a1 a2 a3) := fun a0 a1 a2 a3 => Tot.loop (L := fun σ n t => B_slices_partitionOrdered_int_L5 (σ 0) (F_cmp_Less_int (σ 0)) (again8 σ) n t) (B := fun σ g => u_slices_partitionOrdered_int_L5 (B_slices_partitionOrdered_int_L5b (σ 0) (F_cmp_Less_int (σ 0)) (again8 σ) g)) (Q := u_slices_partitionOrdered_int_L5 Q) 2 (by decide)
    (fun s s' h => by have e0 : s 0 = s' 0 := h 0 (by decide); simp only [e0, hag8 s s' h]) (fun s s' h => by have e0 : s 0 = s' 0 := h 0 (by decide); simp only [e0, hag8 s s' h]) (fun _ _ _ => rfl) (u_slices_partitionOrdered_int_L5 I) (u_slices_partitionOrdered_int_L5 μ)
    (fun t ht again hag h => step t.1 t.2.1 t.2.2.1 t.2.2.2.1 ht again hag fun y0 y1 y2 y3 => h (y0, y1, y2, y3, ())) (a0, a1, a2, a3, ())
abbrev A_slices_partitionOrdered_int_L8 (Z : Type) : Type := List Int → Int → Int → Int → Z
abbrev u_slices_partitionOrdered_int_L8 {Z : Type} (f : A_slices_partitionOrdered_int_L8 Z) (t : T_slices_partitionOrdered_int_L8) : Z := f t.1 t.2.1 t.2.2.1 t.2.2.2.1
theorem loop_slices_partitionOrdered_int_L8 {Q : A_slices_partitionOrdered_int_L8 (((Int × Bool × Unit) × (List Int × Unit)) → Prop)} (I : A_slices_partitionOrdered_int_L8 Prop) (μ : A_slices_partitionOrdered_int_L8 Nat)
    (step : ∀ a0 a1 a2 a3, I a0 a1 a2 a3 → ∀ again : (Nat → Nat) → T_slices_partitionOrdered_int_L8 → R_slices_partitionOrdered_int, Dep 2 again → (∀ y0 y1 y2 y3, I y0 y1 y2 y3 → μ y0 y1 y2 y3 < μ a0 a1 a2 a3 → Tot (fun σ => again σ (y0, y1, y2, y3, ())) (Q y0 y1 y2 y3)) →
      Tot (fun σ => B_slices_partitionOrdered_int_L8b (σ 0) (F_cmp_Less_int (σ 0)) (again σ) a0 a1 a2 a3) (Q a0 a1 a2 a3)) :
    ∀ a0 a1 a2 a3, I a0 a1 a2 a3 → Tot (fun σ => B_slices_partitionOrdered_int_L8 (σ 0) (F_cmp_Less_int (σ 0)) (σ 0) (a0, a1, a2, a3, ())) (Q a0 a1 a2 a3) := fun a0 a1 a2 a3 => Tot.loop0 (L := fun k => B_slices_partitionOrdered_int_L8 k (F_cmp_Less_int k)) (B := fun k g => u_slices_partitionOrdered_int_L8 (B_slices_partitionOrdered_int_L8b k (F_cmp_Less_int k) g)) (Q := u_slices_partitionOrdered_int_L8 Q) (fun _ _ _ => rfl) (u_slices_partitionOrdered_int_L8 I) (u_slices_partitionOrdered_int_L8 μ)
    (fun t ht again hag h => step t.1 t.2.1 t.2.2.1 t.2.2.2.1 ht again hag fun y0 y1 y2 y3 => h (y0, y1, y2, y3, ())) (a0, a1, a2, a3, ())
abbrev A_slices_partitionOrdered_int_L3 (Z : Type) : Type := List Int → Int → Int → Int → Z
abbrev u_slices_partitionOrdered_int_L3 {Z : Type} (f : A_slices_partitionOrdered_int_L3 Z) (t : T_slices_partitionOrdered_int_L3) : Z := f t.1 t.2.1 t.2.2.1 t.2.2.2.1
theorem loop_slices_partitionOrdered_int_L3 {Q : A_slices_partitionOrdered_int_L3 (((Int × Bool × Unit) × (List Int × Unit)) → Prop)} (I : A_slices_partitionOrdered_int_L3 Prop) (μ : A_slices_partitionOrdered_int_L3 Nat)
    (step : ∀ a0 a1 a2 a3, I a0 a1 a2 a3 → ∀ again : (Nat → Nat) → T_slices_partitionOrdered_int_L3 → R_slices_partitionOrdered_int, Dep 2 again → (∀ y0 y1 y2 y3, I y0 y1 y2 y3 → μ y0 y1 y2 y3 < μ a0 a1 a2 a3 → Tot (fun σ => again σ (y0, y1, y2, y3, ())) (Q y0 y1 y2 y3)) →
      Tot (fun σ => B_slices_partitionOrdered_int_L3b (σ 0) (F_cmp_Less_int (σ 0)) (again σ) a0 a1 a2 a3) (Q a0 a1 a2 a3)) :
    ∀ a0 a1 a2 a3, I a0 a1 a2 a3 → Tot (fun σ => B_slices_partitionOrdered_int_L3 (σ 0) (F_cmp_Less_int (σ 0)) (σ 0) (a0, a1, a2, a3, ())) (Q a0 a1 a2 a3) := fun a0 a1 a2 a3 => Tot.loop0 (L := fun k => B_slices_partitionOrdered_int_L3 k (F_cmp_Less_int k)) (B := fun k g => u_slices_partitionOrdered_int_L3 (B_slices_partitionOrdered_int_L3b k (F_cmp_Less_int k) g)) (Q := u_slices_partitionOrdered_int_L3 Q) (fun _ _ _ => rfl) (u_slices_partitionOrdered_int_L3 I) (u_slices_partitionOrdered_int_L3 μ)
    (fun t ht again hag h => step t.1 t.2.1 t.2.2.1 t.2.2.2.1 ht again hag fun y0 y1 y2 y3 => h (y0, y1, y2, y3, ())) (a0, a1, a2, a3, ())
abbrev A_slices_partitionOrdered_int_L1 (Z : Type) : Type := List Int → Int → Int → Int → Z
abbrev u_slices_partitionOrdered_int_L1 {Z : Type} (f : A_slices_partitionOrdered_int_L1 Z) (t : T_slices_partitionOrdered_int_L1) : Z := f t.1 t.2.1 t.2.2.1 t.2.2.2.1
theorem loop_slices_partitionOrdered_int_L1 {Q : A_slices_partitionOrdered_int_L1 (((Int × Bool × Unit) × (List Int × Unit)) → Prop)} (I : A_slices_partitionOrdered_int_L1 Prop) (μ : A_slices_partitionOrdered_int_L1 Nat)
    (step : ∀ a0 a1 a2 a3, I a0 a1 a2 a3 → ∀ again : (Nat → Nat) → T_slices_partitionOrdered_int_L1 → R_slices_partitionOrdered_int, Dep 2 again → (∀ y0 y1 y2 y3, I y0 y1 y2 y3 → μ y0 y1 y2 y3 < μ a0 a1 a2 a3 → Tot (fun σ => again σ (y0, y1, y2, y3, ())) (Q y0 y1 y2 y3)) →
      Tot (fun σ => B_slices_partitionOrdered_int_L1b (σ 0) (F_cmp_Less_int (σ 0)) (again σ) a0 a1 a2 a3) (Q a0 a1 a2 a3)) :
    ∀ a0 a1 a2 a3, I a0 a1 a2 a3 → Tot (fun σ => B_slices_partitionOrdered_int_L1 (σ 0) (F_cmp_Less_int (σ 0)) (σ 0) (a0, a1, a2, a3, ())) (Q a0 a1 a2 a3) := fun a0 a1 a2 a3 => Tot.loop0 (L := fun k => B_slices_partitionOrdered_int_L1 k (F_cmp_Less_int k)) (B := fun k g => u_slices_partitionOrdered_int_L1 (B_slices_partitionOrdered_int_L1b k (F_cmp_Less_int k) g)) (Q := u_slices_partitionOrdered_int_L1 Q) (fun _ _ _ => rfl) (u_slices_partitionOrdered_int_L1 I) (u_slices_partitionOrdered_int_L1 μ)
    (fun t ht again hag h => step t.1 t.2.1 t.2.2.1 t.2.2.2.1 ht again hag fun y0 y1 y2 y3 => h (y0, y1, y2, y3, ())) (a0, a1, a2, a3, ())
abbrev R_slices_pdqsortOrdered_int : Type := Option ((Unit) × (List Int × Unit))
abbrev C_slices_pdqsortOrdered_int : Type := List Int → Int → Int → Int → R_slices_pdqsortOrdered_int
abbrev T_slices_pdqsortOrdered_int_L5 : Type := List Int × Int × Int × Int × Bool × Bool × Unit
def B_slices_pdqsortOrdered_int_J4 (k : Nat) (c_slices_insertionSortOrdered_int : C_slices_insertionSortOrdered_int) (c_slices_heapSortOrdered_int : C_slices_heapSortOrdered_int) (c_slices_breakPatternsOrdered_int : C_slices_breakPatternsOrdered_int) (c_slices_choosePivotOrdered_int : C_slices_choosePivotOrdered_int) (c_slices_reverseRangeOrdered_int : C_slices_reverseRangeOrdered_int) (c_slices_partialInsertionSortOrdered_int : C_slices_partialInsertionSortOrdered_int) (c_cmp_Less_int : C_cmp_Less_int) (c_slices_partitionEqualOrdered_int : C_slices_partitionEqualOrdered_int) (c_slices_partitionOrdered_int : C_slices_partitionOrdered_int) (c_slices_pdqsortOrdered_int : C_slices_pdqsortOrdered_int) (again5 : T_slices_pdqsortOrdered_int_L5 → R_slices_pdqsortOrdered_int) (data : List Int) (a b limit : Int) (wasBalanced wasPartitioned : Bool) (length pivot : Int) (t87 : Bool) : R_slices_pdqsortOrdered_int :=
  bif t87 then
    (c_slices_partitionEqualOrdered_int data a b pivot).bind fun r92 =>
    again5 (r92.2.1, r92.1.1, b, limit, wasBalanced, wasPartitioned, ())
  else
    (c_slices_partitionOrdered_int data a b pivot).bind fun r99 =>
    bif decide ((w64 (r99.1.1 - a)) < (w64 (b - r99.1.1))) then
      (c_slices_pdqsortOrdered_int r99.2.1 a r99.1.1 limit).bind fun r121 =>
      again5 (r121.2.1, w64 (r99.1.1 + 1), b, limit, decide ((w64 (r99.1.1 - a)) ≥ (w64 (length.tdiv 8))), r99.1.2.1, ())
    else
      (c_slices_pdqsortOrdered_int r99.2.1 (w64 (r99.1.1 + 1)) b limit).bind fun r132 =>
      again5 (r132.2.1, a, r99.1.1, limit, decide ((w64 (b - r99.1.1)) ≥ (w64 (length.tdiv 8))), r99.1.2.1, ())
def B_slices_pdqsortOrdered_int_J3 (k : Nat) (c_slices_insertionSortOrdered_int : C_slices_insertionSortOrdered_int) (c_slices_heapSortOrdered_int : C_slices_heapSortOrdered_int) (c_slices_breakPatternsOrdered_int : C_slices_breakPatternsOrdered_int) (c_slices_choosePivotOrdered_int : C_slices_choosePivotOrdered_int) (c_slices_reverseRangeOrdered_int : C_slices_reverseRangeOrdered_int) (c_slices_partialInsertionSortOrdered_int : C_slices_partialInsertionSortOrdered_int) (c_cmp_Less_int : C_cmp_Less_int) (c_slices_partitionEqualOrdered_int : C_slices_partitionEqualOrdered_int) (c_slices_partitionOrdered_int : C_slices_partitionOrdered_int) (c_slices_pdqsortOrdered_int : C_slices_pdqsortOrdered_int) (again5 : T_slices_pdqsortOrdered_int_L5 → R_slices_pdqsortOrdered_int) (data : List Int) (a b limit : Int) (wasBalanced wasPartitioned : Bool) (length pivot : Int) : R_slices_pdqsortOrdered_int :=
  bif decide (a > 0) then
    chk (inb (w64 (a - 1)) data.length) <|
    chk (decide ((w64 (a - 1)).toNat < data.length)) <|
    chk (inb pivot data.length) <|
    chk (decide (pivot.toNat < data.length)) <|
    (c_cmp_Less_int (data.getD ((w64 (a - 1)).toNat) (0 : Int)) (data.getD pivot.toNat (0 : Int))).bind fun r85 =>
    jn (fun t => B_slices_pdqsortOrdered_int_J4 k c_slices_insertionSortOrdered_int c_slices_heapSortOrdered_int c_slices_breakPatternsOrdered_int c_slices_choosePivotOrdered_int c_slices_reverseRangeOrdered_int c_slices_partialInsertionSortOrdered_int c_cmp_Less_int c_slices_partitionEqualOrdered_int c_slices_partitionOrdered_int c_slices_pdqsortOrdered_int again5 t.1 t.2.1 t.2.2.1 t.2.2.2.1 t.2.2.2.2.1 t.2.2.2.2.2.1 t.2.2.2.2.2.2.1 t.2.2.2.2.2.2.2.1 t.2.2.2.2.2.2.2.2.1) (data, a, b, limit, wasBalanced, wasPartitioned, length, pivot, (!r85.1.1), ())
  else
    jn (fun t => B_slices_pdqsortOrdered_int_J4 k c_slices_insertionSortOrdered_int c_slices_heapSortOrdered_int c_slices_breakPatternsOrdered_int c_slices_choosePivotOrdered_int c_slices_reverseRangeOrdered_int c_slices_partialInsertionSortOrdered_int c_cmp_Less_int c_slices_partitionEqualOrdered_int c_slices_partitionOrdered_int c_slices_pdqsortOrdered_int again5 t.1 t.2.1 t.2.2.1 t.2.2.2.1 t.2.2.2.2.1 t.2.2.2.2.2.1 t.2.2.2.2.2.2.1 t.2.2.2.2.2.2.2.1 t.2.2.2.2.2.2.2.2.1) (data, a, b, limit, wasBalanced, wasPartitioned, length, pivot, false, ())
def B_slices_pdqsortOrdered_int_J2 (k : Nat) (c_slices_insertionSortOrdered_int : C_slices_insertionSortOrdered_int) (c_slices_heapSortOrdered_int : C_slices_heapSortOrdered_int) (c_slices_breakPatternsOrdered_int : C_slices_breakPatternsOrdered_int) (c_slices_choosePivotOrdered_int : C_slices_choosePivotOrdered_int) (c_slices_reverseRangeOrdered_int : C_slices_reverseRangeOrdered_int) (c_slices_partialInsertionSortOrdered_int : C_slices_partialInsertionSortOrdered_int) (c_cmp_Less_int : C_cmp_Less_int) (c_slices_partitionEqualOrdered_int : C_slices_partitionEqualOrdered_int) (c_slices_partitionOrdered_int : C_slices_partitionOrdered_int) (c_slices_pdqsortOrdered_int : C_slices_pdqsortOrdered_int) (again5 : T_slices_pdqsortOrdered_int_L5 → R_slices_pdqsortOrdered_int) (data : List Int) (a b limit : Int) (wasBalanced wasPartitioned : Bool) (length pivot : Int) (t68 : Bool) : R_slices_pdqsortOrdered_int :=
  bif t68 then
    (c_slices_partialInsertionSortOrdered_int data a b).bind fun r72 =>
    bif r72.1.1 then
      some ((), (r72.2.1, ()))
    else
      jn (fun t => B_slices_pdqsortOrdered_int_J3 k c_slices_insertionSortOrdered_int c_slices_heapSortOrdered_int c_slices_breakPatternsOrdered_int c_slices_choosePivotOrdered_int c_slices_reverseRangeOrdered_int c_slices_partialInsertionSortOrdered_int c_cmp_Less_int c_slices_partitionEqualOrdered_int c_slices_partitionOrdered_int c_slices_pdqsortOrdered_int again5 t.1 t.2.1 t.2.2.1 t.2.2.2.1 t.2.2.2.2.1 t.2.2.2.2.2.1 t.2.2.2.2.2.2.1 t.2.2.2.2.2.2.2.1) (r72.2.1, a, b, limit, wasBalanced, wasPartitioned, length, pivot, ())
  else
    jn (fun t => B_slices_pdqsortOrdered_int_J3 k c_slices_insertionSortOrdered_int c_slices_heapSortOrdered_int c_slices_breakPatternsOrdered_int c_slices_choosePivotOrdered_int c_slices_reverseRangeOrdered_int c_slices_partialInsertionSortOrdered_int c_cmp_Less_int c_slices_partitionEqualOrdered_int c_slices_partitionOrdered_int c_slices_pdqsortOrdered_int again5 t.1 t.2.1 t.2.2.1 t.2.2.2.1 t.2.2.2.2.1 t.2.2.2.2.2.1 t.2.2.2.2.2.2.1 t.2.2.2.2.2.2.2.1) (data, a, b, limit, wasBalanced, wasPartitioned, length, pivot, ())
def B_slices_pdqsortOrdered_int_J1 (k : Nat) (c_slices_insertionSortOrdered_int : C_slices_insertionSortOrdered_int) (c_slices_heapSortOrdered_int : C_slices_heapSortOrdered_int) (c_slices_breakPatternsOrdered_int : C_slices_breakPatternsOrdered_int) (c_slices_choosePivotOrdered_int : C_slices_choosePivotOrdered_int) (c_slices_reverseRangeOrdered_int : C_slices_reverseRangeOrdered_int) (c_slices_partialInsertionSortOrdered_int : C_slices_partialInsertionSortOrdered_int) (c_cmp_Less_int : C_cmp_Less_int) (c_slices_partitionEqualOrdered_int : C_slices_partitionEqualOrdered_int) (c_slices_partitionOrdered_int : C_slices_partitionOrdered_int) (c_slices_pdqsortOrdered_int : C_slices_pdqsortOrdered_int) (again5 : T_slices_pdqsortOrdered_int_L5 → R_slices_pdqsortOrdered_int) (data : List Int) (a b limit : Int) (wasBalanced wasPartitioned : Bool) (length pivot hint : Int) : R_slices_pdqsortOrdered_int :=
  bif wasBalanced then
    bif wasPartitioned then
      jn (fun t => B_slices_pdqsortOrdered_int_J2 k c_slices_insertionSortOrdered_int c_slices_heapSortOrdered_int c_slices_breakPatternsOrdered_int c_slices_choosePivotOrdered_int c_slices_reverseRangeOrdered_int c_slices_partialInsertionSortOrdered_int c_cmp_Less_int c_slices_partitionEqualOrdered_int c_slices_partitionOrdered_int c_slices_pdqsortOrdered_int again5 t.1 t.2.1 t.2.2.1 t.2.2.2.1 t.2.2.2.2.1 t.2.2.2.2.2.1 t.2.2.2.2.2.2.1 t.2.2.2.2.2.2.2.1 t.2.2.2.2.2.2.2.2.1) (data, a, b, limit, wasBalanced, wasPartitioned, length, pivot, (hint == 1), ())
    else
      jn (fun t => B_slices_pdqsortOrdered_int_J2 k c_slices_insertionSortOrdered_int c_slices_heapSortOrdered_int c_slices_breakPatternsOrdered_int c_slices_choosePivotOrdered_int c_slices_reverseRangeOrdered_int c_slices_partialInsertionSortOrdered_int c_cmp_Less_int c_slices_partitionEqualOrdered_int c_slices_partitionOrdered_int c_slices_pdqsortOrdered_int again5 t.1 t.2.1 t.2.2.1 t.2.2.2.1 t.2.2.2.2.1 t.2.2.2.2.2.1 t.2.2.2.2.2.2.1 t.2.2.2.2.2.2.2.1 t.2.2.2.2.2.2.2.2.1) (data, a, b, limit, wasBalanced, wasPartitioned, length, pivot, false, ())
  else
    jn (fun t => B_slices_pdqsortOrdered_int_J2 k c_slices_insertionSortOrdered_int c_slices_heapSortOrdered_int c_slices_breakPatternsOrdered_int c_slices_choosePivotOrdered_int c_slices_reverseRangeOrdered_int c_slices_partialInsertionSortOrdered_int c_cmp_Less_int c_slices_partitionEqualOrdered_int c_slices_partitionOrdered_int c_slices_pdqsortOrdered_int again5 t.1 t.2.1 t.2.2.1 t.2.2.2.1 t.2.2.2.2.1 t.2.2.2.2.2.1 t.2.2.2.2.2.2.1 t.2.2.2.2.2.2.2.1 t.2.2.2.2.2.2.2.2.1) (data, a, b, limit, wasBalanced, wasPartitioned, length, pivot, false, ())
def B_slices_pdqsortOrdered_int_J0 (k : Nat) (c_slices_insertionSortOrdered_int : C_slices_insertionSortOrdered_int) (c_slices_heapSortOrdered_int : C_slices_heapSortOrdered_int) (c_slices_breakPatternsOrdered_int : C_slices_breakPatternsOrdered_int) (c_slices_choosePivotOrdered_int : C_slices_choosePivotOrdered_int) (c_slices_reverseRangeOrdered_int : C_slices_reverseRangeOrdered_int) (c_slices_partialInsertionSortOrdered_int : C_slices_partialInsertionSortOrdered_int) (c_cmp_Less_int : C_cmp_Less_int) (c_slices_partitionEqualOrdered_int : C_slices_partitionEqualOrdered_int) (c_slices_partitionOrdered_int : C_slices_partitionOrdered_int) (c_slices_pdqsortOrdered_int : C_slices_pdqsortOrdered_int) (again5 : T_slices_pdqsortOrdered_int_L5 → R_slices_pdqsortOrdered_int) (data : List Int) (a b limit : Int) (wasBalanced wasPartitioned : Bool) (length : Int) : R_slices_pdqsortOrdered_int :=
  (c_slices_choosePivotOrdered_int data a b).bind fun r46 =>
  bif (r46.1.2.1 == 2) then
    (c_slices_reverseRangeOrdered_int data a b).bind fun r54 =>
    jn (fun t => B_slices_pdqsortOrdered_int_J1 k c_slices_insertionSortOrdered_int c_slices_heapSortOrdered_int c_slices_breakPatternsOrdered_int c_slices_choosePivotOrdered_int c_slices_reverseRangeOrdered_int c_slices_partialInsertionSortOrdered_int c_cmp_Less_int c_slices_partitionEqualOrdered_int c_slices_partitionOrdered_int c_slices_pdqsortOrdered_int again5 t.1 t.2.1 t.2.2.1 t.2.2.2.1 t.2.2.2.2.1 t.2.2.2.2.2.1 t.2.2.2.2.2.2.1 t.2.2.2.2.2.2.2.1 t.2.2.2.2.2.2.2.2.1) (r54.2.1, a, b, limit, wasBalanced, wasPartitioned, length, w64 ((w64 (b - 1)) - (w64 (r46.1.1 - a))), 1, ())
  else
    jn (fun t => B_slices_pdqsortOrdered_int_J1 k c_slices_insertionSortOrdered_int c_slices_heapSortOrdered_int c_slices_breakPatternsOrdered_int c_slices_choosePivotOrdered_int c_slices_reverseRangeOrdered_int c_slices_partialInsertionSortOrdered_int c_cmp_Less_int c_slices_partitionEqualOrdered_int c_slices_partitionOrdered_int c_slices_pdqsortOrdered_int again5 t.1 t.2.1 t.2.2.1 t.2.2.2.1 t.2.2.2.2.1 t.2.2.2.2.2.1 t.2.2.2.2.2.2.1 t.2.2.2.2.2.2.2.1 t.2.2.2.2.2.2.2.2.1) (data, a, b, limit, wasBalanced, wasPartitioned, length, r46.1.1, r46.1.2.1, ())
def B_slices_pdqsortOrdered_int_L5b (k : Nat) (c_slices_insertionSortOrdered_int : C_slices_insertionSortOrdered_int) (c_slices_heapSortOrdered_int : C_slices_heapSortOrdered_int) (c_slices_breakPatternsOrdered_int : C_slices_breakPatternsOrdered_int) (c_slices_choosePivotOrdered_int : C_slices_choosePivotOrdered_int) (c_slices_reverseRangeOrdered_int : C_slices_reverseRangeOrdered_int) (c_slices_partialInsertionSortOrdered_int : C_slices_partialInsertionSortOrdered_int) (c_cmp_Less_int : C_cmp_Less_int) (c_slices_partitionEqualOrdered_int : C_slices_partitionEqualOrdered_int) (c_slices_partitionOrdered_int : C_slices_partitionOrdered_int) (c_slices_pdqsortOrdered_int : C_slices_pdqsortOrdered_int) (again5 : T_slices_pdqsortOrdered_int_L5 → R_slices_pdqsortOrdered_int) (data : List Int) (a b limit : Int) (wasBalanced wasPartitioned : Bool) : R_slices_pdqsortOrdered_int :=
  bif decide ((w64 (b - a)) ≤ 12) then
    (c_slices_insertionSortOrdered_int data a b).bind fun r27 =>
    some ((), (r27.2.1, ()))
  else
    bif (limit == 0) then
      (c_slices_heapSortOrdered_int data a b).bind fun r33 =>
      some ((), (r33.2.1, ()))
    else
      bif (!wasBalanced) then
        (c_slices_breakPatternsOrdered_int data a b).bind fun r39 =>
        jn (fun t => B_slices_pdqsortOrdered_int_J0 k c_slices_insertionSortOrdered_int c_slices_heapSortOrdered_int c_slices_breakPatternsOrdered_int c_slices_choosePivotOrdered_int c_slices_reverseRangeOrdered_int c_slices_partialInsertionSortOrdered_int c_cmp_Less_int c_slices_partitionEqualOrdered_int c_slices_partitionOrdered_int c_slices_pdqsortOrdered_int again5 t.1 t.2.1 t.2.2.1 t.2.2.2.1 t.2.2.2.2.1 t.2.2.2.2.2.1 t.2.2.2.2.2.2.1) (r39.2.1, a, b, w64 (limit - 1), wasBalanced, wasPartitioned, w64 (b - a), ())
      else
        jn (fun t => B_slices_pdqsortOrdered_int_J0 k c_slices_insertionSortOrdered_int c_slices_heapSortOrdered_int c_slices_breakPatternsOrdered_int c_slices_choosePivotOrdered_int c_slices_reverseRangeOrdered_int c_slices_partialInsertionSortOrdered_int c_cmp_Less_int c_slices_partitionEqualOrdered_int c_slices_partitionOrdered_int c_slices_pdqsortOrdered_int again5 t.1 t.2.1 t.2.2.1 t.2.2.2.1 t.2.2.2.2.1 t.2.2.2.2.2.1 t.2.2.2.2.2.2.1) (data, a, b, limit, wasBalanced, wasPartitioned, w64 (b - a), ())
def B_slices_pdqsortOrdered_int_L5 (k : Nat) (c_slices_insertionSortOrdered_int : C_slices_insertionSortOrdered_int) (c_slices_heapSortOrdered_int : C_slices_heapSortOrdered_int) (c_slices_breakPatternsOrdered_int : C_slices_breakPatternsOrdered_int) (c_slices_choosePivotOrdered_int : C_slices_choosePivotOrdered_int) (c_slices_reverseRangeOrdered_int : C_slices_reverseRangeOrdered_int) (c_slices_partialInsertionSortOrdered_int : C_slices_partialInsertionSortOrdered_int) (c_cmp_Less_int : C_cmp_Less_int) (c_slices_partitionEqualOrdered_int : C_slices_partitionEqualOrdered_int) (c_slices_partitionOrdered_int : C_slices_partitionOrdered_int) (c_slices_pdqsortOrdered_int : C_slices_pdqsortOrdered_int) (n : Nat) (t : T_slices_pdqsortOrdered_int_L5) : R_slices_pdqsortOrdered_int :=
  lfix n (fun again t => B_slices_pdqsortOrdered_int_L5b k c_slices_insertionSortOrdered_int c_slices_heapSortOrdered_int c_slices_breakPatternsOrdered_int c_slices_choosePivotOrdered_int c_slices_reverseRangeOrdered_int c_slices_partialInsertionSortOrdered_int c_cmp_Less_int c_slices_partitionEqualOrdered_int c_slices_partitionOrdered_int c_slices_pdqsortOrdered_int again t.1 t.2.1 t.2.2.1 t.2.2.2.1 t.2.2.2.2.1 t.2.2.2.2.2.1) t
def B_slices_pdqsortOrdered_int (k : Nat) (c_slices_insertionSortOrdered_int : C_slices_insertionSortOrdered_int) (c_slices_heapSortOrdered_int : C_slices_heapSortOrdered_int) (c_slices_breakPatternsOrdered_int : C_slices_breakPatternsOrdered_int) (c_slices_choosePivotOrdered_int : C_slices_choosePivotOrdered_int) (c_slices_reverseRangeOrdered_int : C_slices_reverseRangeOrdered_int) (c_slices_partialInsertionSortOrdered_int : C_slices_partialInsertionSortOrdered_int) (c_cmp_Less_int : C_cmp_Less_int) (c_slices_partitionEqualOrdered_int : C_slices_partitionEqualOrdered_int) (c_slices_partitionOrdered_int : C_slices_partitionOrdered_int) (c_slices_pdqsortOrdered_int : C_slices_pdqsortOrdered_int) (data : List Int) (a b limit : Int) : R_slices_pdqsortOrdered_int :=
  B_slices_pdqsortOrdered_int_L5 k c_slices_insertionSortOrdered_int c_slices_heapSortOrdered_int c_slices_breakPatternsOrdered_int c_slices_choosePivotOrdered_int c_slices_reverseRangeOrdered_int c_slices_partialInsertionSortOrdered_int c_cmp_Less_int c_slices_partitionEqualOrdered_int c_slices_partitionOrdered_int c_slices_pdqsortOrdered_int k (data, a, b, limit, true, true, ())
def F_slices_pdqsortOrdered_int : Nat → C_slices_pdqsortOrdered_int
  | 0, _, _, _, _ => none
  | k + 1, data, a, b, limit => B_slices_pdqsortOrdered_int k (F_slices_insertionSortOrdered_int k) (F_slices_heapSortOrdered_int k) (F_slices_breakPatternsOrdered_int k) (F_slices_choosePivotOrdered_int k) (F_slices_reverseRangeOrdered_int k) (F_slices_partialInsertionSortOrdered_int k) (F_cmp_Less_int k) (F_slices_partitionEqualOrdered_int k) (F_slices_partitionOrdered_int k) (F_slices_pdqsortOrdered_int k) data a b limit
theorem F_slices_pdqsortOrdered_int_succ (k : Nat) (data : List Int) (a : Int) (b : Int) (limit : Int) : F_slices_pdqsortOrdered_int (k + 1) data a b limit = B_slices_pdqsortOrdered_int k (F_slices_insertionSortOrdered_int k) (F_slices_heapSortOrdered_int k) (F_slices_breakPatternsOrdered_int k) (F_slices_choosePivotOrdered_int k) (F_slices_reverseRangeOrdered_int k) (F_slices_partialInsertionSortOrdered_int k) (F_cmp_Less_int k) (F_slices_partitionEqualOrdered_int k) (F_slices_partitionOrdered_int k) (F_slices_pdqsortOrdered_int k) data a b limit := by rw [F_slices_pdqsortOrdered_int]
theorem tot_slices_pdqsortOrdered_int {data a b limit : _} {Q : _ → Prop} (h : Tot (fun σ => B_slices_pdqsortOrdered_int (σ 0) (F_slices_insertionSortOrdered_int (σ 0)) (F_slices_heapSortOrdered_int (σ 0)) (F_slices_breakPatternsOrdered_int (σ 0)) (F_slices_choosePivotOrdered_int (σ 0)) (F_slices_reverseRangeOrdered_int (σ 0)) (F_slices_partialInsertionSortOrdered_int (σ 0)) (F_cmp_Less_int (σ 0)) (F_slices_partitionEqualOrdered_int (σ 0)) (F_slices_partitionOrdered_int (σ 0)) (F_slices_pdqsortOrdered_int (σ 0)) data a b limit) Q) : Tot (fun σ => F_slices_pdqsortOrdered_int (σ 0) data a b limit) Q :=
  Tot.call (F := fun k => F_slices_pdqsortOrdered_int k data a b limit) (B := fun k => B_slices_pdqsortOrdered_int k (F_slices_insertionSortOrdered_int k) (F_slices_heapSortOrdered_int k) (F_slices_breakPatternsOrdered_int k) (F_slices_choosePivotOrdered_int k) (F_slices_reverseRangeOrdered_int k) (F_slices_partialInsertionSortOrdered_int k) (F_cmp_Less_int k) (F_slices_partitionEqualOrdered_int k) (F_slices_partitionOrdered_int k) (F_slices_pdqsortOrdered_int k) data a b limit) (fun k => F_slices_pdqsortOrdered_int_succ k data a b limit) h
abbrev A_slices_pdqsortOrdered_int_L5 (Z : Type) : Type := List Int → Int → Int → Int → Bool → Bool → Z
abbrev u_slices_pdqsortOrdered_int_L5 {Z : Type} (f : A_slices_pdqsortOrdered_int_L5 Z) (t : T_slices_pdqsortOrdered_int_L5) : Z := f t.1 t.2.1 t.2.2.1 t.2.2.2.1 t.2.2.2.2.1 t.2.2.2.2.2.1
theorem loop_slices_pdqsortOrdered_int_L5 {Q : A_slices_pdqsortOrdered_int_L5 (((Unit) × (List Int × Unit)) → Prop)} (I : A_slices_pdqsortOrdered_int_L5 Prop) (μ : A_slices_pdqsortOrdered_int_L5 Nat)
    (step : ∀ a0 a1 a2 a3 a4 a5, I a0 a1 a2 a3 a4 a5 → ∀ again : (Nat → Nat) → T_slices_pdqsortOrdered_int_L5 → R_slices_pdqsortOrdered_int, Dep 2 again → (∀ y0 y1 y2 y3 y4 y5, I y0 y1 y2 y3 y4 y5 → μ y0 y1 y2 y3 y4 y5 < μ a0 a1 a2 a3 a4 a5 → Tot (fun σ => again σ (y0, y1, y2, y3, y4, y5, ())) (Q y0 y1 y2 y3 y4 y5)) →
      Tot (fun σ => B_slices_pdqsortOrdered_int_L5b (σ 0) (F_slices_insertionSortOrdered_int (σ 0)) (F_slices_heapSortOrdered_int (σ 0)) (F_slices_breakPatternsOrdered_int (σ 0)) (F_slices_choosePivotOrdered_int (σ 0)) (F_slices_reverseRangeOrdered_int (σ 0)) (F_slices_partialInsertionSortOrdered_int (σ 0)) (F_cmp_Less_int (σ 0)) (F_slices_partitionEqualOrdered_int (σ 0)) (F_slices_partitionOrdered_int (σ 0)) (F_slices_pdqsortOrdered_int (σ 0)) (again σ) a0 a1 a2 a3 a4 a5) (Q a0 a1 a2 a3 a4 a5)) :
    ∀ a0 a1 a2 a3 a4 a5, I a0 a1 a2 a3 a4 a5 → Tot (fun σ => B_slices_pdqsortOrdered_int_L5 (σ 0) (F_slices_insertionSortOrdered_int (σ 0)) (F_slices_heapSortOrdered_int (σ 0)) (F_slices_breakPatternsOrdered_int (σ 0)) (F_slices_choosePivotOrdered_int (σ 0)) (F_slices_reverseRangeOrdered_int (σ 0)) (F_slices_partialInsertionSortOrdered_int (σ 0)) (F_cmp_Less_int (σ 0)) (F_slices_partitionEqualOrdered_int (σ 0)) (F_slices_partitionOrdered_int (σ 0)) (F_slices_pdqsortOrdered_int (σ 0)) (σ 0) (a0, a1, a2, a3, a4, a5, ())) (Q a0 a1 a2 a3 a4 a5) := fun a0 a1 a2 a3 a4 a5 => Tot.loop0 (L := fun k => B_slices_pdqsortOrdered_int_L5 k (F_slices_insertionSortOrdered_int k) (F_slices_heapSortOrdered_int k) (F_slices_breakPatternsOrdered_int k) (F_slices_choosePivotOrdered_int k) (F_slices_reverseRangeOrdered_int k) (F_slices_partialInsertionSortOrdered_int k) (F_cmp_Less_int k) (F_slices_partitionEqualOrdered_int k) (F_slices_partitionOrdered_int k) (F_slices_pdqsortOrdered_int k)) (B := fun k g => u_slices_pdqsortOrdered_int_L5 (B_slices_pdqsortOrdered_int_L5b k (F_slices_insertionSortOrdered_int k) (F_slices_heapSortOrdered_int k) (F_slices_breakPatternsOrdered_int k) (F_slices_choosePivotOrdered_int k) (F_slices_reverseRangeOrdered_int k) (F_slices_partialInsertionSortOrdered_int k) (F_cmp_Less_int k) (F_slices_partitionEqualOrdered_int k) (F_slices_partitionOrdered_int k) (F_slices_pdqsortOrdered_int k) g)) (Q := u_slices_pdqsortOrdered_int_L5 Q) (fun _ _ _ => rfl) (u_slices_pdqsortOrdered_int_L5 I) (u_slices_pdqsortOrdered_int_L5 μ)
    (fun t ht again hag h => step t.1 t.2.1 t.2.2.1 t.2.2.2.1 t.2.2.2.2.1 t.2.2.2.2.2.1 ht again hag fun y0 y1 y2 y3 y4 y5 => h (y0, y1, y2, y3, y4, y5, ())) (a0, a1, a2, a3, a4, a5, ())
abbrev R_slices_Sort_int_int : Type := Option ((Unit) × (List Int × Unit))
abbrev C_slices_Sort_int_int : Type := List Int → R_slices_Sort_int_int
def B_slices_Sort_int_int (k : Nat) (c_bits_Len : C_bits_Len) (c_slices_pdqsortOrdered_int : C_slices_pdqsortOrdered_int) (x : List Int) : R_slices_Sort_int_int :=
  (c_bits_Len (IntKind.wrap .u64 (len x))).bind fun r9 =>
  (c_slices_pdqsortOrdered_int x 0 (len x) r9.1.1).bind fun r10 =>
  some ((), (r10.2.1, ()))
def F_slices_Sort_int_int : Nat → C_slices_Sort_int_int
  | 0, _ => none
  | k + 1, x => B_slices_Sort_int_int k (F_bits_Len k) (F_slices_pdqsortOrdered_int k) x
theorem tot_slices_Sort_int_int {x : _} {Q : _ → Prop} (h : Tot (fun σ => B_slices_Sort_int_int (σ 0) (F_bits_Len (σ 0)) (F_slices_pdqsortOrdered_int (σ 0)) x) Q) : Tot (fun σ => F_slices_Sort_int_int (σ 0) x) Q :=
  Tot.call (F := fun k => F_slices_Sort_int_int k x) (B := fun k => B_slices_Sort_int_int k (F_bits_Len k) (F_slices_pdqsortOrdered_int k) x) (fun k => rfl) h
abbrev R_slices_Compact_int_int : Type := Option ((List Int × Unit) × (Unit))
abbrev C_slices_Compact_int_int : Type := List Int → R_slices_Compact_int_int
abbrev T_slices_Compact_int_int_L1 : Type := List Int × Int × Int × (Nat × Nat) × Unit
abbrev T_slices_Compact_int_int_L2 : Type := List Int × Int × Unit
def B_slices_Compact_int_int_J0 (k : Nat) (again1 : T_slices_Compact_int_int_L1 → R_slices_Compact_int_int) (s : List Int) (k3 k2 : Int) (s2 : Nat × Nat) : R_slices_Compact_int_int :=
  again1 (s, k3, w64 (k2 + 1), (s2.1, s2.2), ())
def B_slices_Compact_int_int_L1b (k : Nat) (again1 : T_slices_Compact_int_int_L1 → R_slices_Compact_int_int) (s : List Int) (k3 k2 : Int) (s2 : Nat × Nat) : R_slices_Compact_int_int :=
  bif decide (k2 < ((s2.2 - s2.1 : Nat) : Int)) then
    chk ((inb k2 (s2.2 - s2.1) && decide (s2.2 ≤ s.length))) <|
    chk (decide ((s2.1 + k2.toNat) < s.length)) <|
    chk ((inb (w64 (k2 - 1)) (s2.2 - s2.1) && decide (s2.2 ≤ s.length))) <|
    chk (decide ((s2.1 + (w64 (k2 - 1)).toNat) < s.length)) <|
    bif ((s.getD (s2.1 + k2.toNat) (0 : Int)) != (s.getD (s2.1 + (w64 (k2 - 1)).toNat) (0 : Int))) then
      chk ((inb k2 (s2.2 - s2.1) && decide (s2.2 ≤ s.length))) <|
      chk (decide ((s2.1 + k2.toNat) < s.length)) <|
      chk (inb k3 s.length) <|
      chk (decide (k3.toNat < s.length)) <|
      jn (fun t => B_slices_Compact_int_int_J0 k again1 t.1 t.2.1 t.2.2.1 t.2.2.2.1) ((s.set k3.toNat (s.getD (s2.1 + k2.toNat) (0 : Int))), w64 (k3 + 1), k2, (s2.1, s2.2), ())
    else
      jn (fun t => B_slices_Compact_int_int_J0 k again1 t.1 t.2.1 t.2.2.1 t.2.2.2.1) (s, k3, k2, (s2.1, s2.2), ())
  else
    chk (cutb k3 (len s) s.length) <|
    chk (decide (k3.toNat ≤ (len s).toNat ∧ (len s).toNat ≤ s.length)) <|
    chk (cutb 0 k3 (s.take k3.toNat ++ List.replicate ((len s).toNat - k3.toNat) (0 : Int) ++ s.drop ((len s).toNat)).length) <|
    some ((((s.take k3.toNat ++ List.replicate ((len s).toNat - k3.toNat) (0 : Int) ++ s.drop ((len s).toNat)).take k3.toNat), ()), ())
def B_slices_Compact_int_int_L1 (k : Nat) (n : Nat) (t : T_slices_Compact_int_int_L1) : R_slices_Compact_int_int :=
  lfix n (fun again t => B_slices_Compact_int_int_L1b k again t.1 t.2.1 t.2.2.1 t.2.2.2.1) t
def B_slices_Compact_int_int_L2b (k : Nat) (again2 : T_slices_Compact_int_int_L2 → R_slices_Compact_int_int) (s : List Int) (k3 : Int) : R_slices_Compact_int_int :=
  bif decide (k3 < (len s)) then
    chk (inb k3 s.length) <|
    chk (decide (k3.toNat < s.length)) <|
    chk (inb (w64 (k3 - 1)) s.length) <|
    chk (decide ((w64 (k3 - 1)).toNat < s.length)) <|
    bif ((s.getD k3.toNat (0 : Int)) == (s.getD ((w64 (k3 - 1)).toNat) (0 : Int))) then
      chk (cutb k3 (len s) s.length) <|
      B_slices_Compact_int_int_L1 k k (s, k3, 1, (k3.toNat, (len s).toNat), ())
    else
      again2 (s, w64 (k3 + 1), ())
  else
    some ((s, ()), ())
def B_slices_Compact_int_int_L2 (k : Nat) (n : Nat) (t : T_slices_Compact_int_int_L2) : R_slices_Compact_int_int :=
  lfix n (fun again t => B_slices_Compact_int_int_L2b k again t.1 t.2.1) t
def B_slices_Compact_int_int (k : Nat) (s : List Int) : R_slices_Compact_int_int :=
  bif decide ((len s) < 2) then
    some ((s, ()), ())
  else
    B_slices_Compact_int_int_L2 k k (s, 1, ())
def F_slices_Compact_int_int : Nat → C_slices_Compact_int_int
  | 0, _ => none
  | k + 1, s => B_slices_Compact_int_int k s
theorem tot_slices_Compact_int_int {s : _} {Q : _ → Prop} (h : Tot (fun σ => B_slices_Compact_int_int (σ 0) s) Q) : Tot (fun σ => F_slices_Compact_int_int (σ 0) s) Q :=
  Tot.call (F := fun k => F_slices_Compact_int_int k s) (B := fun k => B_slices_Compact_int_int k s) (fun k => rfl) h
abbrev A_slices_Compact_int_int_L1 (Z : Type) : Type := List Int → Int → Int → (Nat × Nat) → Z
abbrev u_slices_Compact_int_int_L1 {Z : Type} (f : A_slices_Compact_int_int_L1 Z) (t : T_slices_Compact_int_int_L1) : Z := f t.1 t.2.1 t.2.2.1 t.2.2.2.1
theorem loop_slices_Compact_int_int_L1 {Q : A_slices_Compact_int_int_L1 (((List Int × Unit) × (Unit)) → Prop)} (I : A_slices_Compact_int_int_L1 Prop) (μ : A_slices_Compact_int_int_L1 Nat)
    (step : ∀ a0 a1 a2 a3, I a0 a1 a2 a3 → ∀ again : (Nat → Nat) → T_slices_Compact_int_int_L1 → R_slices_Compact_int_int, Dep 2 again → (∀ y0 y1 y2 y3, I y0 y1 y2 y3 → μ y0 y1 y2 y3 < μ a0 a1 a2 a3 → Tot (fun σ => again σ (y0, y1, y2, y3, ())) (Q y0 y1 y2 y3)) →
      Tot (fun σ => B_slices_Compact_int_int_L1b (σ 0) (again σ) a0 a1 a2 a3) (Q a0 a1 a2 a3)) :
    ∀ a0 a1 a2 a3, I a0 a1 a2 a3 → Tot (fun σ => B_slices_Compact_int_int_L1 (σ 0) (σ 0) (a0, a1, a2, a3, ())) (Q a0 a1 a2 a3) := fun a0 a1 a2 a3 => Tot.loop0 (L := fun k => B_slices_Compact_int_int_L1 k) (B := fun k g => u_slices_Compact_int_int_L1 (B_slices_Compact_int_int_L1b k g)) (Q := u_slices_Compact_int_int_L1 Q) (fun _ _ _ => rfl) (u_slices_Compact_int_int_L1 I) (u_slices_Compact_int_int_L1 μ)
    (fun t ht again hag h => step t.1 t.2.1 t.2.2.1 t.2.2.2.1 ht again hag fun y0 y1 y2 y3 => h (y0, y1, y2, y3, ())) (a0, a1, a2, a3, ())
abbrev A_slices_Compact_int_int_L2 (Z : Type) : Type := List Int → Int → Z
abbrev u_slices_Compact_int_int_L2 {Z : Type} (f : A_slices_Compact_int_int_L2 Z) (t : T_slices_Compact_int_int_L2) : Z := f t.1 t.2.1
theorem loop_slices_Compact_int_int_L2 {Q : A_slices_Compact_int_int_L2 (((List Int × Unit) × (Unit)) → Prop)} (I : A_slices_Compact_int_int_L2 Prop) (μ : A_slices_Compact_int_int_L2 Nat)
    (step : ∀ a0 a1, I a0 a1 → ∀ again : (Nat → Nat) → T_slices_Compact_int_int_L2 → R_slices_Compact_int_int, Dep 2 again → (∀ y0 y1, I y0 y1 → μ y0 y1 < μ a0 a1 → Tot (fun σ => again σ (y0, y1, ())) (Q y0 y1)) →
      Tot (fun σ => B_slices_Compact_int_int_L2b (σ 0) (again σ) a0 a1) (Q a0 a1)) :
    ∀ a0 a1, I a0 a1 → Tot (fun σ => B_slices_Compact_int_int_L2 (σ 0) (σ 0) (a0, a1, ())) (Q a0 a1) := fun a0 a1 => Tot.loop0 (L := fun k => B_slices_Compact_int_int_L2 k) (B := fun k g => u_slices_Compact_int_int_L2 (B_slices_Compact_int_int_L2b k g)) (Q := u_slices_Compact_int_int_L2 Q) (fun _ _ _ => rfl) (u_slices_Compact_int_int_L2 I) (u_slices_Compact_int_int_L2 μ)
    (fun t ht again hag h => step t.1 t.2.1 ht again hag fun y0 y1 => h (y0, y1, ())) (a0, a1, ())
abbrev R_slices_Clip_int_int : Type := Option ((List Int × Unit) × (Unit))
abbrev C_slices_Clip_int_int : Type := List Int → R_slices_Clip_int_int
def B_slices_Clip_int_int (k : Nat) (s : List Int) : R_slices_Clip_int_int :=
  chk ((((len s) == (len s)) && cutb 0 (len s) s.length)) <|
  some (((sub s 0 (len s)), ()), ())
def F_slices_Clip_int_int : Nat → C_slices_Clip_int_int
  | 0, _ => none
  | k + 1, s => B_slices_Clip_int_int k s
theorem tot_slices_Clip_int_int {s : _} {Q : _ → Prop} (h : Tot (fun σ => B_slices_Clip_int_int (σ 0) s) Q) : Tot (fun σ => F_slices_Clip_int_int (σ 0) s) Q :=
  Tot.call (F := fun k => F_slices_Clip_int_int k s) (B := fun k => B_slices_Clip_int_int k s) (fun k => rfl) h
abbrev R_i_ClassesIn : Type := Option ((List Int × Unit) × (Unit))
abbrev C_i_ClassesIn : Type := (List (Int × Int)) → R_i_ClassesIn
abbrev T_i_ClassesIn_L1 : Type := List Int × (List (Int × Int)) × Int × Int × Unit
def B_i_ClassesIn_J0 (k : Nat) (c_i_ValidOps : C_i_ValidOps) (c_slices_Sort_int_int : C_slices_Sort_int_int) (c_slices_Compact_int_int : C_slices_Compact_int_int) (c_slices_Clip_int_int : C_slices_Clip_int_int) (again1 : T_i_ClassesIn_L1 → R_i_ClassesIn) (out : List Int) (t10 : List (Int × Int)) (t11 t12 : Int) : R_i_ClassesIn :=
  again1 (out, t10, t11, w64 (t12 + 1), ())
def B_i_ClassesIn_L1b (k : Nat) (c_i_ValidOps : C_i_ValidOps) (c_slices_Sort_int_int : C_slices_Sort_int_int) (c_slices_Compact_int_int : C_slices_Compact_int_int) (c_slices_Clip_int_int : C_slices_Clip_int_int) (again1 : T_i_ClassesIn_L1 → R_i_ClassesIn) (out : List Int) (t10 : List (Int × Int)) (t11 t12 : Int) : R_i_ClassesIn :=
  bif decide (t12 < t11) then
    chk (inb t12 t10.length) <|
    bif (((rdx ((0 : Int), (0 : Int)) t10 t12).1) == 13) then
      chk (room out.length ([(rdx ((0 : Int), (0 : Int)) t10 t12).2]).length) <|
      jn (fun t => B_i_ClassesIn_J0 k c_i_ValidOps c_slices_Sort_int_int c_slices_Compact_int_int c_slices_Clip_int_int again1 t.1 t.2.1 t.2.2.1 t.2.2.2.1) ((out ++ [(rdx ((0 : Int), (0 : Int)) t10 t12).2]), t10, t11, t12, ())
    else
      jn (fun t => B_i_ClassesIn_J0 k c_i_ValidOps c_slices_Sort_int_int c_slices_Compact_int_int c_slices_Clip_int_int again1 t.1 t.2.1 t.2.2.1 t.2.2.2.1) (out, t10, t11, t12, ())
  else
    (c_slices_Sort_int_int out).bind fun r26 =>
    (c_slices_Compact_int_int r26.2.1).bind fun r28 =>
    (c_slices_Clip_int_int r28.1.1).bind fun r29 =>
    some ((r29.1.1, ()), ())
def B_i_ClassesIn_L1 (k : Nat) (c_i_ValidOps : C_i_ValidOps) (c_slices_Sort_int_int : C_slices_Sort_int_int) (c_slices_Compact_int_int : C_slices_Compact_int_int) (c_slices_Clip_int_int : C_slices_Clip_int_int) (n : Nat) (t : T_i_ClassesIn_L1) : R_i_ClassesIn :=
  lfix n (fun again t => B_i_ClassesIn_L1b k c_i_ValidOps c_slices_Sort_int_int c_slices_Compact_int_int c_slices_Clip_int_int again t.1 t.2.1 t.2.2.1 t.2.2.2.1) t
def B_i_ClassesIn (k : Nat) (c_i_ValidOps : C_i_ValidOps) (c_slices_Sort_int_int : C_slices_Sort_int_int) (c_slices_Compact_int_int : C_slices_Compact_int_int) (c_slices_Clip_int_int : C_slices_Clip_int_int) (ops : List (Int × Int)) : R_i_ClassesIn :=
  (c_i_ValidOps ops).bind fun r7 =>
  bif (!r7.1.1) then
    some (([], ()), ())
  else
    B_i_ClassesIn_L1 k c_i_ValidOps c_slices_Sort_int_int c_slices_Compact_int_int c_slices_Clip_int_int k ([], ops, len ops, 0, ())
def F_i_ClassesIn : Nat → C_i_ClassesIn
  | 0, _ => none
  | k + 1, ops => B_i_ClassesIn k (F_i_ValidOps k) (F_slices_Sort_int_int k) (F_slices_Compact_int_int k) (F_slices_Clip_int_int k) ops
theorem tot_i_ClassesIn {ops : _} {Q : _ → Prop} (h : Tot (fun σ => B_i_ClassesIn (σ 0) (F_i_ValidOps (σ 0)) (F_slices_Sort_int_int (σ 0)) (F_slices_Compact_int_int (σ 0)) (F_slices_Clip_int_int (σ 0)) ops) Q) : Tot (fun σ => F_i_ClassesIn (σ 0) ops) Q :=
  Tot.call (F := fun k => F_i_ClassesIn k ops) (B := fun k => B_i_ClassesIn k (F_i_ValidOps k) (F_slices_Sort_int_int k) (F_slices_Compact_int_int k) (F_slices_Clip_int_int k) ops) (fun k => rfl) h
abbrev A_i_ClassesIn_L1 (Z : Type) : Type := List Int → (List (Int × Int)) → Int → Int → Z
abbrev u_i_ClassesIn_L1 {Z : Type} (f : A_i_ClassesIn_L1 Z) (t : T_i_ClassesIn_L1) : Z := f t.1 t.2.1 t.2.2.1 t.2.2.2.1
theorem loop_i_ClassesIn_L1 {Q : A_i_ClassesIn_L1 (((List Int × Unit) × (Unit)) → Prop)} (I : A_i_ClassesIn_L1 Prop) (μ : A_i_ClassesIn_L1 Nat)
    (step : ∀ a0 a1 a2 a3, I a0 a1 a2 a3 → ∀ again : (Nat → Nat) → T_i_ClassesIn_L1 → R_i_ClassesIn, Dep 2 again → (∀ y0 y1 y2 y3, I y0 y1 y2 y3 → μ y0 y1 y2 y3 < μ a0 a1 a2 a3 → Tot (fun σ => again σ (y0, y1, y2, y3, ())) (Q y0 y1 y2 y3)) →
      Tot (fun σ => B_i_ClassesIn_L1b (σ 0) (F_i_ValidOps (σ 0)) (F_slices_Sort_int_int (σ 0)) (F_slices_Compact_int_int (σ 0)) (F_slices_Clip_int_int (σ 0)) (again σ) a0 a1 a2 a3) (Q a0 a1 a2 a3)) :
    ∀ a0 a1 a2 a3, I a0 a1 a2 a3 → Tot (fun σ => B_i_ClassesIn_L1 (σ 0) (F_i_ValidOps (σ 0)) (F_slices_Sort_int_int (σ 0)) (F_slices_Compact_int_int (σ 0)) (F_slices_Clip_int_int (σ 0)) (σ 0) (a0, a1, a2, a3, ())) (Q a0 a1 a2 a3) := fun a0 a1 a2 a3 => Tot.loop0 (L := fun k => B_i_ClassesIn_L1 k (F_i_ValidOps k) (F_slices_Sort_int_int k) (F_slices_Compact_int_int k) (F_slices_Clip_int_int k)) (B := fun k g => u_i_ClassesIn_L1 (B_i_ClassesIn_L1b k (F_i_ValidOps k) (F_slices_Sort_int_int k) (F_slices_Compact_int_int k) (F_slices_Clip_int_int k) g)) (Q := u_i_ClassesIn_L1 Q) (fun _ _ _ => rfl) (u_i_ClassesIn_L1 I) (u_i_ClassesIn_L1 μ)
    (fun t ht again hag h => step t.1 t.2.1 t.2.2.1 t.2.2.2.1 ht again hag fun y0 y1 y2 y3 => h (y0, y1, y2, y3, ())) (a0, a1, a2, a3, ())
abbrev R_s_ClassesIn : Type := Option ((List Int × Unit) × (Unit))
abbrev C_s_ClassesIn : Type := (List (Int × Int)) → R_s_ClassesIn
abbrev T_s_ClassesIn_L1 : Type := (List (Int × Int)) × List Int × Int × Int × Unit
abbrev T_s_ClassesIn_L3 : Type := (List (Int × Int)) × List Int × Int × Unit
def B_s_ClassesIn_J2 (k : Nat) (c_s_validOps : C_s_validOps) (again3 : T_s_ClassesIn_L3 → R_s_ClassesIn) (ops : List (Int × Int)) (out : List Int) (c : Int) : R_s_ClassesIn :=
  again3 (ops, out, w64 (c + 1), ())
def B_s_ClassesIn_J0 (k : Nat) (c_s_validOps : C_s_validOps) (again1 : T_s_ClassesIn_L1 → R_s_ClassesIn) (again3 : T_s_ClassesIn_L3 → R_s_ClassesIn) (ops : List (Int × Int)) (out : List Int) (c i : Int) (t34 : Bool) : R_s_ClassesIn :=
  bif t34 then
    chk (room out.length ([c]).length) <|
    jn (fun t => B_s_ClassesIn_J2 k c_s_validOps again3 t.1 t.2.1 t.2.2.1) (ops, (out ++ [c]), c, ())
  else
    again1 (ops, out, c, w64 (i + 1), ())
def B_s_ClassesIn_L1b (k : Nat) (c_s_validOps : C_s_validOps) (again3 : T_s_ClassesIn_L3 → R_s_ClassesIn) (again1 : T_s_ClassesIn_L1 → R_s_ClassesIn) (ops : List (Int × Int)) (out : List Int) (c i : Int) : R_s_ClassesIn :=
  bif decide (i < (len ops)) then
    chk (inb i ops.length) <|
    bif (((rdx ((0 : Int), (0 : Int)) ops i).1) == 13) then
      chk (inb i ops.length) <|
      jn (fun t => B_s_ClassesIn_J0 k c_s_validOps again1 again3 t.1 t.2.1 t.2.2.1 t.2.2.2.1 t.2.2.2.2.1) (ops, out, c, i, (((rdx ((0 : Int), (0 : Int)) ops i).2) == c), ())
    else
      jn (fun t => B_s_ClassesIn_J0 k c_s_validOps again1 again3 t.1 t.2.1 t.2.2.1 t.2.2.2.1 t.2.2.2.2.1) (ops, out, c, i, false, ())
  else
    jn (fun t => B_s_ClassesIn_J2 k c_s_validOps again3 t.1 t.2.1 t.2.2.1) (ops, out, c, ())
def B_s_ClassesIn_L1 (k : Nat) (c_s_validOps : C_s_validOps) (again3 : T_s_ClassesIn_L3 → R_s_ClassesIn) (n : Nat) (t : T_s_ClassesIn_L1) : R_s_ClassesIn :=
  lfix n (fun again t => B_s_ClassesIn_L1b k c_s_validOps again3 again t.1 t.2.1 t.2.2.1 t.2.2.2.1) t
def B_s_ClassesIn_L3b (k : Nat) (c_s_validOps : C_s_validOps) (again3 : T_s_ClassesIn_L3 → R_s_ClassesIn) (ops : List (Int × Int)) (out : List Int) (c : Int) : R_s_ClassesIn :=
  bif decide (c ≤ 9) then
    B_s_ClassesIn_L1 k c_s_validOps again3 k (ops, out, c, 0, ())
  else
    some ((out, ()), ())
def B_s_ClassesIn_L3 (k : Nat) (c_s_validOps : C_s_validOps) (n : Nat) (t : T_s_ClassesIn_L3) : R_s_ClassesIn :=
  lfix n (fun again t => B_s_ClassesIn_L3b k c_s_validOps again t.1 t.2.1 t.2.2.1) t
def B_s_ClassesIn (k : Nat) (c_s_validOps : C_s_validOps) (ops : List (Int × Int)) : R_s_ClassesIn :=
  (c_s_validOps ops).bind fun r7 =>
  bif (!r7.1.1) then
    some (([], ()), ())
  else
    B_s_ClassesIn_L3 k c_s_validOps k (ops, [], 0, ())
def F_s_ClassesIn : Nat → C_s_ClassesIn
  | 0, _ => none
  | k + 1, ops => B_s_ClassesIn k (F_s_validOps k) ops
theorem tot_s_ClassesIn {ops : _} {Q : _ → Prop} (h : Tot (fun σ => B_s_ClassesIn (σ 0) (F_s_validOps (σ 0)) ops) Q) : Tot (fun σ => F_s_ClassesIn (σ 0) ops) Q :=
  Tot.call (F := fun k => F_s_ClassesIn k ops) (B := fun k => B_s_ClassesIn k (F_s_validOps k) ops) (fun k => rfl) h
abbrev A_s_ClassesIn_L1 (Z : Type) : Type := (List (Int × Int)) → List Int → Int → Int → Z
abbrev u_s_ClassesIn_L1 {Z : Type} (f : A_s_ClassesIn_L1 Z) (t : T_s_ClassesIn_L1) : Z := f t.1 t.2.1 t.2.2.1 t.2.2.2.1
theorem loop_s_ClassesIn_L1 {again3 : (Nat → Nat) → T_s_ClassesIn_L3 → R_s_ClassesIn} (hag3 : Dep 2 again3) {Q : A_s_ClassesIn_L1 (((List Int × Unit) × (Unit)) → Prop)} (I : A_s_ClassesIn_L1 Prop) (μ : A_s_ClassesIn_L1 Nat)
    (step : ∀ a0 a1 a2 a3, I a0 a1 a2 a3 → ∀ again : (Nat → Nat) → T_s_ClassesIn_L1 → R_s_ClassesIn, Dep 3 again → (∀ y0 y1 y2 y3, I y0 y1 y2 y3 → μ y0 y1 y2 y3 < μ a0 a1 a2 a3 → Tot (fun σ => again σ (y0, y1, y2, y3, ())) (Q y0 y1 y2 y3)) →
      Tot (fun σ => B_s_ClassesIn_L1b (σ 0) (F_s_validOps (σ 0)) (again3 σ) (again σ) a0 a1 a2 a3) (Q a0 a1 a2 a3)) :
    ∀ a0 a1 a2 a3, I a0 a1 a2 a3 → Tot (fun σ => B_s_ClassesIn_L1 (σ 0) (F_s_validOps (σ 0)) (again3 σ) (σ 0) (a0, a1, a2, a3, ())) (Q a0 a1 a2 a3) := fun a0 a1 a2 a3 => Tot.loop (L := fun σ n t => B_s_ClassesIn_L1 (σ 0) (F_s_validOps (σ 0)) (again3 σ) n t) (B := fun σ g => u_s_ClassesIn_L1 (B_s_ClassesIn_L1b (σ 0) (F_s_validOps (σ 0)) (again3 σ) g)) (Q := u_s_ClassesIn_L1 Q) 2 (by decide)
    (fun s s' h => by have e0 : s 0 = s' 0 := h 0 (by decide); simp only [e0, hag3 s s' h]) (fun s s' h => by have e0 : s 0 = s' 0 := h 0 (by decide); simp only [e0, hag3 s s' h]) (fun _ _ _ => rfl) (u_s_ClassesIn_L1 I) (u_s_ClassesIn_L1 μ)
    (fun t ht again hag h => step t.1 t.2.1 t.2.2.1 t.2.2.2.1 ht again hag fun y0 y1 y2 y3 => h (y0, y1, y2, y3, ())) (a0, a1, a2, a3, ())
abbrev A_s_ClassesIn_L3 (Z : Type) : Type := (List (Int × Int)) → List Int → Int → Z
abbrev u_s_ClassesIn_L3 {Z : Type} (f : A_s_ClassesIn_L3 Z) (t : T_s_ClassesIn_L3) : Z := f t.1 t.2.1 t.2.2.1
theorem loop_s_ClassesIn_L3 {Q : A_s_ClassesIn_L3 (((List Int × Unit) × (Unit)) → Prop)} (I : A_s_ClassesIn_L3 Prop) (μ : A_s_ClassesIn_L3 Nat)
    (step : ∀ a0 a1 a2, I a0 a1 a2 → ∀ again : (Nat → Nat) → T_s_ClassesIn_L3 → R_s_ClassesIn, Dep 2 again → (∀ y0 y1 y2, I y0 y1 y2 → μ y0 y1 y2 < μ a0 a1 a2 → Tot (fun σ => again σ (y0, y1, y2, ())) (Q y0 y1 y2)) →
      Tot (fun σ => B_s_ClassesIn_L3b (σ 0) (F_s_validOps (σ 0)) (again σ) a0 a1 a2) (Q a0 a1 a2)) :
    ∀ a0 a1 a2, I a0 a1 a2 → Tot (fun σ => B_s_ClassesIn_L3 (σ 0) (F_s_validOps (σ 0)) (σ 0) (a0, a1, a2, ())) (Q a0 a1 a2) := fun a0 a1 a2 => Tot.loop0 (L := fun k => B_s_ClassesIn_L3 k (F_s_validOps k)) (B := fun k g => u_s_ClassesIn_L3 (B_s_ClassesIn_L3b k (F_s_validOps k) g)) (Q := u_s_ClassesIn_L3 Q) (fun _ _ _ => rfl) (u_s_ClassesIn_L3 I) (u_s_ClassesIn_L3 μ)
    (fun t ht again hag h => step t.1 t.2.1 t.2.2.1 ht again hag fun y0 y1 y2 => h (y0, y1, y2, ())) (a0, a1, a2, ())
abbrev R_l_equalInts : Type := Option ((Bool × Unit) × (Unit))
abbrev C_l_equalInts : Type := List Int → List Int → R_l_equalInts
abbrev T_l_equalInts_L0 : Type := List Int × List Int × Int × Unit
def B_l_equalInts_L0b (k : Nat) (again0 : T_l_equalInts_L0 → R_l_equalInts) (a b : List Int) (i : Int) : R_l_equalInts :=
  bif decide (i < (len a)) then
    chk (inb i a.length) <|
    chk (inb i b.length) <|
    bif ((rdx (0 : Int) a i) != (rdx (0 : Int) b i)) then
      some ((false, ()), ())
    else
      again0 (a, b, w64 (i + 1), ())
  else
    some ((true, ()), ())
def B_l_equalInts_L0 (k : Nat) (n : Nat) (t : T_l_equalInts_L0) : R_l_equalInts :=
  lfix n (fun again t => B_l_equalInts_L0b k again t.1 t.2.1 t.2.2.1) t
def B_l_equalInts (k : Nat) (a b : List Int) : R_l_equalInts :=
  bif ((len a) != (len b)) then
    some ((false, ()), ())
  else
    B_l_equalInts_L0 k k (a, b, 0, ())
def F_l_equalInts : Nat → C_l_equalInts
  | 0, _, _ => none
  | k + 1, a, b => B_l_equalInts k a b
theorem tot_l_equalInts {a b : _} {Q : _ → Prop} (h : Tot (fun σ => B_l_equalInts (σ 0) a b) Q) : Tot (fun σ => F_l_equalInts (σ 0) a b) Q :=
  Tot.call (F := fun k => F_l_equalInts k a b) (B := fun k => B_l_equalInts k a b) (fun k => rfl) h
abbrev A_l_equalInts_L0 (Z : Type) : Type := List Int → List Int → Int → Z
abbrev u_l_equalInts_L0 {Z : Type} (f : A_l_equalInts_L0 Z) (t : T_l_equalInts_L0) : Z := f t.1 t.2.1 t.2.2.1
theorem loop_l_equalInts_L0 {Q : A_l_equalInts_L0 (((Bool × Unit) × (Unit)) → Prop)} (I : A_l_equalInts_L0 Prop) (μ : A_l_equalInts_L0 Nat)
    (step : ∀ a0 a1 a2, I a0 a1 a2 → ∀ again : (Nat → Nat) → T_l_equalInts_L0 → R_l_equalInts, Dep 2 again → (∀ y0 y1 y2, I y0 y1 y2 → μ y0 y1 y2 < μ a0 a1 a2 → Tot (fun σ => again σ (y0, y1, y2, ())) (Q y0 y1 y2)) →
      Tot (fun σ => B_l_equalInts_L0b (σ 0) (again σ) a0 a1 a2) (Q a0 a1 a2)) :
    ∀ a0 a1 a2, I a0 a1 a2 → Tot (fun σ => B_l_equalInts_L0 (σ 0) (σ 0) (a0, a1, a2, ())) (Q a0 a1 a2) := fun a0 a1 a2 => Tot.loop0 (L := fun k => B_l_equalInts_L0 k) (B := fun k g => u_l_equalInts_L0 (B_l_equalInts_L0b k g)) (Q := u_l_equalInts_L0 Q) (fun _ _ _ => rfl) (u_l_equalInts_L0 I) (u_l_equalInts_L0 μ)
    (fun t ht again hag h => step t.1 t.2.1 t.2.2.1 ht again hag fun y0 y1 y2 => h (y0, y1, y2, ())) (a0, a1, a2, ())
abbrev R_l_isIn : Type := Option ((Bool × Unit) × (Unit))
abbrev C_l_isIn : Type := List Int → Int → R_l_isIn
abbrev T_l_isIn_L0 : Type := List Int × Int × Int × Unit
def B_l_isIn_L0b (k : Nat) (again0 : T_l_isIn_L0 → R_l_isIn) (list : List Int) (n1 i : Int) : R_l_isIn :=
  bif decide (i < (len list)) then
    chk (inb i list.length) <|
    bif ((rdx (0 : Int) list i) == n1) then
      some ((true, ()), ())
    else
      again0 (list, n1, w64 (i + 1), ())
  else
    some ((false, ()), ())
def B_l_isIn_L0 (k : Nat) (n : Nat) (t : T_l_isIn_L0) : R_l_isIn :=
  lfix n (fun again t => B_l_isIn_L0b k again t.1 t.2.1 t.2.2.1) t
def B_l_isIn (k : Nat) (list : List Int) (n1 : Int) : R_l_isIn :=
  B_l_isIn_L0 k k (list, n1, 0, ())
def F_l_isIn : Nat → C_l_isIn
  | 0, _, _ => none
  | k + 1, list, n1 => B_l_isIn k list n1
theorem tot_l_isIn {list n1 : _} {Q : _ → Prop} (h : Tot (fun σ => B_l_isIn (σ 0) list n1) Q) : Tot (fun σ => F_l_isIn (σ 0) list n1) Q :=
  Tot.call (F := fun k => F_l_isIn k list n1) (B := fun k => B_l_isIn k list n1) (fun k => rfl) h
abbrev A_l_isIn_L0 (Z : Type) : Type := List Int → Int → Int → Z
abbrev u_l_isIn_L0 {Z : Type} (f : A_l_isIn_L0 Z) (t : T_l_isIn_L0) : Z := f t.1 t.2.1 t.2.2.1
theorem loop_l_isIn_L0 {Q : A_l_isIn_L0 (((Bool × Unit) × (Unit)) → Prop)} (I : A_l_isIn_L0 Prop) (μ : A_l_isIn_L0 Nat)
    (step : ∀ a0 a1 a2, I a0 a1 a2 → ∀ again : (Nat → Nat) → T_l_isIn_L0 → R_l_isIn, Dep 2 again → (∀ y0 y1 y2, I y0 y1 y2 → μ y0 y1 y2 < μ a0 a1 a2 → Tot (fun σ => again σ (y0, y1, y2, ())) (Q y0 y1 y2)) →
      Tot (fun σ => B_l_isIn_L0b (σ 0) (again σ) a0 a1 a2) (Q a0 a1 a2)) :
    ∀ a0 a1 a2, I a0 a1 a2 → Tot (fun σ => B_l_isIn_L0 (σ 0) (σ 0) (a0, a1, a2, ())) (Q a0 a1 a2) := fun a0 a1 a2 => Tot.loop0 (L := fun k => B_l_isIn_L0 k) (B := fun k g => u_l_isIn_L0 (B_l_isIn_L0b k g)) (Q := u_l_isIn_L0 Q) (fun _ _ _ => rfl) (u_l_isIn_L0 I) (u_l_isIn_L0 μ)
    (fun t ht again hag h => step t.1 t.2.1 t.2.2.1 ht again hag fun y0 y1 y2 => h (y0, y1, y2, ())) (a0, a1, a2, ())
abbrev R_i_NewMachine : Type := Option ((((List (Int × Int × List Int)) × Unit × List Int × Bool × Unit) × Unit) × (Unit))
abbrev C_i_NewMachine : Type := Int → R_i_NewMachine
abbrev T_i_NewMachine_L2 : Type := Int × (Unit × Unit × Unit × Bool × Unit) × (Unit × Unit × List Int × Bool × Unit) × Int × Int × Unit
def B_i_NewMachine_J1 (k : Nat) (again2 : T_i_NewMachine_L2 → R_i_NewMachine) (filled : Int) (t2_Done : Bool) (m_Memo : List Int) (m_Done : Bool) (t16 t17 : Int) : R_i_NewMachine :=
  again2 (filled, ((), (), (), t2_Done, ()), ((), (), m_Memo, m_Done, ()), t16, w64 (t17 + 1), ())
def B_i_NewMachine_J3 (k : Nat) (t2_Done : Bool) (m_Nodes : List (Int × Int × List Int)) (m_Memo : List Int) (m_Done : Bool) : R_i_NewMachine :=
  some (((m_Nodes, (), m_Memo, m_Done, ()), ()), ())
def B_i_NewMachine_L2b (k : Nat) (again2 : T_i_NewMachine_L2 → R_i_NewMachine) (filled : Int) (t2_Done : Bool) (m_Memo : List Int) (m_Done : Bool) (t16 t17 : Int) : R_i_NewMachine :=
  bif decide (t17 < t16) then
    bif decide (t17 ≥ filled) then
      chk (inb t17 m_Memo.length) <|
      chk (decide (t17.toNat < m_Memo.length)) <|
      jn (fun t => B_i_NewMachine_J1 k again2 t.1 t.2.1.2.2.2.1 t.2.2.1.2.2.1 t.2.2.1.2.2.2.1 t.2.2.2.1 t.2.2.2.2.1) (filled, ((), (), (), t2_Done, ()), ((), (), (m_Memo.set t17.toNat (-1)), m_Done, ()), t16, t17, ())
    else
      jn (fun t => B_i_NewMachine_J1 k again2 t.1 t.2.1.2.2.2.1 t.2.2.1.2.2.1 t.2.2.1.2.2.2.1 t.2.2.2.1 t.2.2.2.2.1) (filled, ((), (), (), t2_Done, ()), ((), (), m_Memo, m_Done, ()), t16, t17, ())
  else
    bif (filled == 1) then
      jn (fun t => B_i_NewMachine_J3 k t.1.2.2.2.1 t.2.1.1 t.2.1.2.2.1 t.2.1.2.2.2.1) (((), (), (), t2_Done, ()), ([(0, (0, []))], (), m_Memo, m_Done, ()), ())
    else
      jn (fun t => B_i_NewMachine_J3 k t.1.2.2.2.1 t.2.1.1 t.2.1.2.2.1 t.2.1.2.2.2.1) (((), (), (), t2_Done, ()), ([], (), m_Memo, m_Done, ()), ())
def B_i_NewMachine_L2 (k : Nat) (n : Nat) (t : T_i_NewMachine_L2) : R_i_NewMachine :=
  lfix n (fun again t => B_i_NewMachine_L2b k again t.1 t.2.1.2.2.2.1 t.2.2.1.2.2.1 t.2.2.1.2.2.2.1 t.2.2.2.1 t.2.2.2.2.1) t
def B_i_NewMachine_J0 (k : Nat) (filled : Int) (t2_Done t10 : Bool) : R_i_NewMachine :=
  bif t10 then
    some ((([], (), [], false, ()), ()), ())
  else
    chk ((decide (0 ≤ 20 ∧ 20 ≤ (lim : Int)) && (20 == 20))) <|
    B_i_NewMachine_L2 k k (filled, ((), (), (), t2_Done, ()), ((), (), (List.replicate (20 : Int).toNat (0 : Int)), false, ()), len (List.replicate (20 : Int).toNat (0 : Int)), 0, ())
def B_i_NewMachine (k : Nat) (filled : Int) : R_i_NewMachine :=
  bif decide (filled < 0) then
    jn (fun t => B_i_NewMachine_J0 k t.1 t.2.1.2.2.2.1 t.2.2.1) (filled, ((), (), (), false, ()), true, ())
  else
    jn (fun t => B_i_NewMachine_J0 k t.1 t.2.1.2.2.2.1 t.2.2.1) (filled, ((), (), (), false, ()), decide (filled > 1), ())
def F_i_NewMachine : Nat → C_i_NewMachine
  | 0, _ => none
  | k + 1, filled => B_i_NewMachine k filled
theorem tot_i_NewMachine {filled : _} {Q : _ → Prop} (h : Tot (fun σ => B_i_NewMachine (σ 0) filled) Q) : Tot (fun σ => F_i_NewMachine (σ 0) filled) Q :=
  Tot.call (F := fun k => F_i_NewMachine k filled) (B := fun k => B_i_NewMachine k filled) (fun k => rfl) h
abbrev A_i_NewMachine_L2 (Z : Type) : Type := Int → Bool → List Int → Bool → Int → Int → Z
abbrev u_i_NewMachine_L2 {Z : Type} (f : A_i_NewMachine_L2 Z) (t : T_i_NewMachine_L2) : Z := f t.1 t.2.1.2.2.2.1 t.2.2.1.2.2.1 t.2.2.1.2.2.2.1 t.2.2.2.1 t.2.2.2.2.1
theorem loop_i_NewMachine_L2 {Q : A_i_NewMachine_L2 (((((List (Int × Int × List Int)) × Unit × List Int × Bool × Unit) × Unit) × (Unit)) → Prop)} (I : A_i_NewMachine_L2 Prop) (μ : A_i_NewMachine_L2 Nat)
    (step : ∀ a0 a1 a2 a3 a4 a5, I a0 a1 a2 a3 a4 a5 → ∀ again : (Nat → Nat) → T_i_NewMachine_L2 → R_i_NewMachine, Dep 2 again → (∀ y0 y1 y2 y3 y4 y5, I y0 y1 y2 y3 y4 y5 → μ y0 y1 y2 y3 y4 y5 < μ a0 a1 a2 a3 a4 a5 → Tot (fun σ => again σ (y0, ((), (), (), y1, ()), ((), (), y2, y3, ()), y4, y5, ())) (Q y0 y1 y2 y3 y4 y5)) →
      Tot (fun σ => B_i_NewMachine_L2b (σ 0) (again σ) a0 a1 a2 a3 a4 a5) (Q a0 a1 a2 a3 a4 a5)) :
    ∀ a0 a1 a2 a3 a4 a5, I a0 a1 a2 a3 a4 a5 → Tot (fun σ => B_i_NewMachine_L2 (σ 0) (σ 0) (a0, ((), (), (), a1, ()), ((), (), a2, a3, ()), a4, a5, ())) (Q a0 a1 a2 a3 a4 a5) := fun a0 a1 a2 a3 a4 a5 => Tot.loop0 (L := fun k => B_i_NewMachine_L2 k) (B := fun k g => u_i_NewMachine_L2 (B_i_NewMachine_L2b k g)) (Q := u_i_NewMachine_L2 Q) (fun _ _ _ => rfl) (u_i_NewMachine_L2 I) (u_i_NewMachine_L2 μ)
    (fun t ht again hag h => step t.1 t.2.1.2.2.2.1 t.2.2.1.2.2.1 t.2.2.1.2.2.2.1 t.2.2.2.1 t.2.2.2.2.1 ht again hag fun y0 y1 y2 y3 y4 y5 => h (y0, ((), (), (), y1, ()), ((), (), y2, y3, ()), y4, y5, ())) (a0, ((), (), (), a1, ()), ((), (), a2, a3, ()), a4, a5, ())
abbrev R_slices_Clone_int_int : Type := Option ((List Int × Unit) × (Unit))
abbrev C_slices_Clone_int_int : Type := List Int → R_slices_Clone_int_int
def B_slices_Clone_int_int (k : Nat) (s : List Int) : R_slices_Clone_int_int :=
  chk (room ([] : List Int).length s.length) <|
  some ((s, ()), ())
def F_slices_Clone_int_int : Nat → C_slices_Clone_int_int
  | 0, _ => none
  | k + 1, s => B_slices_Clone_int_int k s
theorem tot_slices_Clone_int_int {s : _} {Q : _ → Prop} (h : Tot (fun σ => B_slices_Clone_int_int (σ 0) s) Q) : Tot (fun σ => F_slices_Clone_int_int (σ 0) s) Q :=
  Tot.call (F := fun k => F_slices_Clone_int_int k s) (B := fun k => B_slices_Clone_int_int k s) (fun k => rfl) h
abbrev R_i_Machine_nodes : Type := Option ((Int × Unit) × (((List (Int × Int × List Int)) × List Int × List Int × Bool × Unit) × Unit))
abbrev C_i_Machine_nodes : Type := (List (Int × Int × List Int)) → List Int → List Int → Bool → R_i_Machine_nodes
abbrev T_i_Machine_nodes_L1 : Type := ((List (Int × Int × List Int)) × List Int × List Int × Bool × Unit) × Int × Unit
def B_i_Machine_nodes_J0 (k : Nat) (again1 : T_i_Machine_nodes_L1 → R_i_Machine_nodes) (m_Nodes : List (Int × Int × List Int)) (m_Stack m_Memo : List Int) (m_Done : Bool) (n3 : Int) (t27 : Bool) : R_i_Machine_nodes :=
  bif t27 then
    again1 ((m_Nodes, m_Stack, m_Memo, m_Done, ()), w64 (n3 + 1), ())
  else
    some ((n3, ()), ((m_Nodes, m_Stack, m_Memo, m_Done, ()), ()))
def B_i_Machine_nodes_L1b (k : Nat) (again1 : T_i_Machine_nodes_L1 → R_i_Machine_nodes) (m_Nodes : List (Int × Int × List Int)) (m_Stack m_Memo : List Int) (m_Done : Bool) (n3 : Int) : R_i_Machine_nodes :=
  bif decide (n3 < (len m_Stack)) then
    chk (inb (w64 ((w64 ((len m_Stack) - 1)) - n3)) m_Stack.length) <|
    chk (decide ((w64 ((w64 ((len m_Stack) - 1)) - n3)).toNat < m_Stack.length)) <|
    jn (fun t => B_i_Machine_nodes_J0 k again1 t.1.1 t.1.2.1 t.1.2.2.1 t.1.2.2.2.1 t.2.1 t.2.2.1) ((m_Nodes, m_Stack, m_Memo, m_Done, ()), n3, decide ((m_Stack.getD ((w64 ((w64 ((len m_Stack) - 1)) - n3)).toNat) (0 : Int)) ≥ 0), ())
  else
    jn (fun t => B_i_Machine_nodes_J0 k again1 t.1.1 t.1.2.1 t.1.2.2.1 t.1.2.2.2.1 t.2.1 t.2.2.1) ((m_Nodes, m_Stack, m_Memo, m_Done, ()), n3, false, ())
def B_i_Machine_nodes_L1 (k : Nat) (n : Nat) (t : T_i_Machine_nodes_L1) : R_i_Machine_nodes :=
  lfix n (fun again t => B_i_Machine_nodes_L1b k again t.1.1 t.1.2.1 t.1.2.2.1 t.1.2.2.2.1 t.2.1) t
def B_i_Machine_nodes (k : Nat) (m_Nodes : List (Int × Int × List Int)) (m_Stack m_Memo : List Int) (m_Done : Bool) : R_i_Machine_nodes :=
  B_i_Machine_nodes_L1 k k ((m_Nodes, m_Stack, m_Memo, m_Done, ()), 0, ())
def F_i_Machine_nodes : Nat → C_i_Machine_nodes
  | 0, _, _, _, _ => none
  | k + 1, m_Nodes, m_Stack, m_Memo, m_Done => B_i_Machine_nodes k m_Nodes m_Stack m_Memo m_Done
theorem tot_i_Machine_nodes {m_Nodes m_Stack m_Memo m_Done : _} {Q : _ → Prop} (h : Tot (fun σ => B_i_Machine_nodes (σ 0) m_Nodes m_Stack m_Memo m_Done) Q) : Tot (fun σ => F_i_Machine_nodes (σ 0) m_Nodes m_Stack m_Memo m_Done) Q :=
  Tot.call (F := fun k => F_i_Machine_nodes k m_Nodes m_Stack m_Memo m_Done) (B := fun k => B_i_Machine_nodes k m_Nodes m_Stack m_Memo m_Done) (fun k => rfl) h
abbrev A_i_Machine_nodes_L1 (Z : Type) : Type := (List (Int × Int × List Int)) → List Int → List Int → Bool → Int → Z
abbrev u_i_Machine_nodes_L1 {Z : Type} (f : A_i_Machine_nodes_L1 Z) (t : T_i_Machine_nodes_L1) : Z := f t.1.1 t.1.2.1 t.1.2.2.1 t.1.2.2.2.1 t.2.1
theorem loop_i_Machine_nodes_L1 {Q : A_i_Machine_nodes_L1 (((Int × Unit) × (((List (Int × Int × List Int)) × List Int × List Int × Bool × Unit) × Unit)) → Prop)} (I : A_i_Machine_nodes_L1 Prop) (μ : A_i_Machine_nodes_L1 Nat)
    (step : ∀ a0 a1 a2 a3 a4, I a0 a1 a2 a3 a4 → ∀ again : (Nat → Nat) → T_i_Machine_nodes_L1 → R_i_Machine_nodes, Dep 2 again → (∀ y0 y1 y2 y3 y4, I y0 y1 y2 y3 y4 → μ y0 y1 y2 y3 y4 < μ a0 a1 a2 a3 a4 → Tot (fun σ => again σ ((y0, y1, y2, y3, ()), y4, ())) (Q y0 y1 y2 y3 y4)) →
      Tot (fun σ => B_i_Machine_nodes_L1b (σ 0) (again σ) a0 a1 a2 a3 a4) (Q a0 a1 a2 a3 a4)) :
    ∀ a0 a1 a2 a3 a4, I a0 a1 a2 a3 a4 → Tot (fun σ => B_i_Machine_nodes_L1 (σ 0) (σ 0) ((a0, a1, a2, a3, ()), a4, ())) (Q a0 a1 a2 a3 a4) := fun a0 a1 a2 a3 a4 => Tot.loop0 (L := fun k => B_i_Machine_nodes_L1 k) (B := fun k g => u_i_Machine_nodes_L1 (B_i_Machine_nodes_L1b k g)) (Q := u_i_Machine_nodes_L1 Q) (fun _ _ _ => rfl) (u_i_Machine_nodes_L1 I) (u_i_Machine_nodes_L1 μ)
    (fun t ht again hag h => step t.1.1 t.1.2.1 t.1.2.2.1 t.1.2.2.2.1 t.2.1 ht again hag fun y0 y1 y2 y3 y4 => h ((y0, y1, y2, y3, ()), y4, ())) ((a0, a1, a2, a3, ()), a4, ())
abbrev R_i_Machine_push : Type := Option ((Bool × Unit) × (((List (Int × Int × List Int)) × List Int × List Int × Bool × Unit) × Unit))
abbrev C_i_Machine_push : Type := (List (Int × Int × List Int)) → List Int → List Int → Bool → Int → R_i_Machine_push
def B_i_Machine_push (k : Nat) (m_Nodes : List (Int × Int × List Int)) (m_Stack m_Memo : List Int) (m_Done : Bool) (i : Int) : R_i_Machine_push :=
  chk (room m_Stack.length ([i]).length) <|
  some ((decide ((len (m_Stack ++ [i])) ≤ 300), ()), ((m_Nodes, (m_Stack ++ [i]), m_Memo, m_Done, ()), ()))
def F_i_Machine_push : Nat → C_i_Machine_push
  | 0, _, _, _, _, _ => none
  | k + 1, m_Nodes, m_Stack, m_Memo, m_Done, i => B_i_Machine_push k m_Nodes m_Stack m_Memo m_Done i
theorem tot_i_Machine_push {m_Nodes m_Stack m_Memo m_Done i : _} {Q : _ → Prop} (h : Tot (fun σ => B_i_Machine_push (σ 0) m_Nodes m_Stack m_Memo m_Done i) Q) : Tot (fun σ => F_i_Machine_push (σ 0) m_Nodes m_Stack m_Memo m_Done i) Q :=
  Tot.call (F := fun k => F_i_Machine_push k m_Nodes m_Stack m_Memo m_Done i) (B := fun k => B_i_Machine_push k m_Nodes m_Stack m_Memo m_Done i) (fun k => rfl) h
abbrev R_i_Machine_make : Type := Option ((Bool × Unit) × (((List (Int × Int × List Int)) × List Int × List Int × Bool × Unit) × Unit))
abbrev C_i_Machine_make : Type := (List (Int × Int × List Int)) → List Int → List Int → Bool → Int → Int → List Int → R_i_Machine_make
def B_i_Machine_make (k : Nat) (c_slices_Clone_int_int : C_slices_Clone_int_int) (c_i_Machine_push : C_i_Machine_push) (m_Nodes : List (Int × Int × List Int)) (m_Stack m_Memo : List Int) (m_Done : Bool) (kind value : Int) (kids : List Int) : R_i_Machine_make :=
  (c_slices_Clone_int_int kids).bind fun r17 =>
  chk (room m_Nodes.length ([(kind, (value, r17.1.1))]).length) <|
  bif decide ((len (m_Nodes ++ [(kind, (value, r17.1.1))])) ≤ 300) then
    (c_i_Machine_push (m_Nodes ++ [(kind, (value, r17.1.1))]) m_Stack m_Memo m_Done (w64 ((len (m_Nodes ++ [(kind, (value, r17.1.1))])) - 1))).bind fun r37 =>
    some ((r37.1.1, ()), ((r37.2.1.1, r37.2.1.2.1, r37.2.1.2.2.1, r37.2.1.2.2.2.1, ()), ()))
  else
    some ((false, ()), (((m_Nodes ++ [(kind, (value, r17.1.1))]), m_Stack, m_Memo, m_Done, ()), ()))
def F_i_Machine_make : Nat → C_i_Machine_make
  | 0, _, _, _, _, _, _, _ => none
  | k + 1, m_Nodes, m_Stack, m_Memo, m_Done, kind, value, kids => B_i_Machine_make k (F_slices_Clone_int_int k) (F_i_Machine_push k) m_Nodes m_Stack m_Memo m_Done kind value kids
theorem tot_i_Machine_make {m_Nodes m_Stack m_Memo m_Done kind value kids : _} {Q : _ → Prop} (h : Tot (fun σ => B_i_Machine_make (σ 0) (F_slices_Clone_int_int (σ 0)) (F_i_Machine_push (σ 0)) m_Nodes m_Stack m_Memo m_Done kind value kids) Q) : Tot (fun σ => F_i_Machine_make (σ 0) m_Nodes m_Stack m_Memo m_Done kind value kids) Q :=
  Tot.call (F := fun k => F_i_Machine_make k m_Nodes m_Stack m_Memo m_Done kind value kids) (B := fun k => B_i_Machine_make k (F_slices_Clone_int_int k) (F_i_Machine_push k) m_Nodes m_Stack m_Memo m_Done kind value kids) (fun k => rfl) h
abbrev R_i_Machine_take : Type := Option ((List Int × Unit) × (((List (Int × Int × List Int)) × List Int × List Int × Bool × Unit) × Unit))
abbrev C_i_Machine_take : Type := (List (Int × Int × List Int)) → List Int → List Int → Bool → Int → R_i_Machine_take
def B_i_Machine_take (k : Nat) (c_slices_Clone_int_int : C_slices_Clone_int_int) (m_Nodes : List (Int × Int × List Int)) (m_Stack m_Memo : List Int) (m_Done : Bool) (n1 : Int) : R_i_Machine_take :=
  chk (cutb (w64 ((len m_Stack) - n1)) (len m_Stack) m_Stack.length) <|
  (c_slices_Clone_int_int ((m_Stack.take ((len m_Stack).toNat)).drop ((w64 ((len m_Stack) - n1)).toNat))).bind fun r20 =>
  chk (cutb 0 (w64 ((len m_Stack) - n1)) m_Stack.length) <|
  some ((r20.1.1, ()), ((m_Nodes, (m_Stack.take ((w64 ((len m_Stack) - n1)).toNat)), m_Memo, m_Done, ()), ()))
def F_i_Machine_take : Nat → C_i_Machine_take
  | 0, _, _, _, _, _ => none
  | k + 1, m_Nodes, m_Stack, m_Memo, m_Done, n1 => B_i_Machine_take k (F_slices_Clone_int_int k) m_Nodes m_Stack m_Memo m_Done n1
theorem tot_i_Machine_take {m_Nodes m_Stack m_Memo m_Done n1 : _} {Q : _ → Prop} (h : Tot (fun σ => B_i_Machine_take (σ 0) (F_slices_Clone_int_int (σ 0)) m_Nodes m_Stack m_Memo m_Done n1) Q) : Tot (fun σ => F_i_Machine_take (σ 0) m_Nodes m_Stack m_Memo m_Done n1) Q :=
  Tot.call (F := fun k => F_i_Machine_take k m_Nodes m_Stack m_Memo m_Done n1) (B := fun k => B_i_Machine_take k (F_slices_Clone_int_int k) m_Nodes m_Stack m_Memo m_Done n1) (fun k => rfl) h
abbrev R_i_Machine_above : Type := Option ((List Int × Bool × Unit) × (((List (Int × Int × List Int)) × List Int × List Int × Bool × Unit) × Unit))
abbrev C_i_Machine_above : Type := (List (Int × Int × List Int)) → List Int → List Int → Bool → R_i_Machine_above
def B_i_Machine_above (k : Nat) (c_i_Machine_nodes : C_i_Machine_nodes) (c_i_Machine_take : C_i_Machine_take) (m_Nodes : List (Int × Int × List Int)) (m_Stack m_Memo : List Int) (m_Done : Bool) : R_i_Machine_above :=
  (c_i_Machine_nodes m_Nodes m_Stack m_Memo m_Done).bind fun r6 =>
  bif (r6.1.1 == (len r6.2.1.2.1)) then
    some (([], false, ()), ((r6.2.1.1, r6.2.1.2.1, r6.2.1.2.2.1, r6.2.1.2.2.2.1, ()), ()))
  else
    (c_i_Machine_take r6.2.1.1 r6.2.1.2.1 r6.2.1.2.2.1 r6.2.1.2.2.2.1 (w64 (r6.1.1 + 1))).bind fun r17 =>
    chk (cutb 1 (len r17.1.1) r17.1.1.length) <|
    some ((((r17.1.1.take ((len r17.1.1).toNat)).drop ((1 : Int).toNat)), true, ()), ((r17.2.1.1, r17.2.1.2.1, r17.2.1.2.2.1, r17.2.1.2.2.2.1, ()), ()))
def F_i_Machine_above : Nat → C_i_Machine_above
  | 0, _, _, _, _ => none
  | k + 1, m_Nodes, m_Stack, m_Memo, m_Done => B_i_Machine_above k (F_i_Machine_nodes k) (F_i_Machine_take k) m_Nodes m_Stack m_Memo m_Done
theorem tot_i_Machine_above {m_Nodes m_Stack m_Memo m_Done : _} {Q : _ → Prop} (h : Tot (fun σ => B_i_Machine_above (σ 0) (F_i_Machine_nodes (σ 0)) (F_i_Machine_take (σ 0)) m_Nodes m_Stack m_Memo m_Done) Q) : Tot (fun σ => F_i_Machine_above (σ 0) m_Nodes m_Stack m_Memo m_Done) Q :=
  Tot.call (F := fun k => F_i_Machine_above k m_Nodes m_Stack m_Memo m_Done) (B := fun k => B_i_Machine_above k (F_i_Machine_nodes k) (F_i_Machine_take k) m_Nodes m_Stack m_Memo m_Done) (fun k => rfl) h
abbrev R_i_Machine_top : Type := Option ((Option Nat × Bool × Unit) × (((List (Int × Int × List Int)) × List Int × List Int × Bool × Unit) × Unit))
abbrev C_i_Machine_top : Type := (List (Int × Int × List Int)) → List Int → List Int → Bool → Int → R_i_Machine_top
def B_i_Machine_top (k : Nat) (c_i_Machine_nodes : C_i_Machine_nodes) (m_Nodes : List (Int × Int × List Int)) (m_Stack m_Memo : List Int) (m_Done : Bool) (kind : Int) : R_i_Machine_top :=
  (c_i_Machine_nodes m_Nodes m_Stack m_Memo m_Done).bind fun r8 =>
  bif (r8.1.1 == 0) then
    some ((none, false, ()), ((r8.2.1.1, r8.2.1.2.1, r8.2.1.2.2.1, r8.2.1.2.2.2.1, ()), ()))
  else
    chk (inb (w64 ((len r8.2.1.2.1) - 1)) r8.2.1.2.1.length) <|
    chk (decide ((w64 ((len r8.2.1.2.1) - 1)).toNat < r8.2.1.2.1.length)) <|
    chk (inb (r8.2.1.2.1.getD ((w64 ((len r8.2.1.2.1) - 1)).toNat) (0 : Int)) r8.2.1.1.length) <|
    chk (decide ((r8.2.1.2.1.getD ((w64 ((len r8.2.1.2.1) - 1)).toNat) (0 : Int)).toNat < r8.2.1.1.length)) <|
    let v31 : Int := (r8.2.1.1.getD ((r8.2.1.2.1.getD ((w64 ((len r8.2.1.2.1) - 1)).toNat) (0 : Int)).toNat) ((0 : Int), ((0 : Int), ([] : List Int)))).1
    some (((some ((r8.2.1.2.1.getD ((w64 ((len r8.2.1.2.1) - 1)).toNat) (0 : Int)).toNat)), (v31 == kind), ()), ((r8.2.1.1, r8.2.1.2.1, r8.2.1.2.2.1, r8.2.1.2.2.2.1, ()), ()))
def F_i_Machine_top : Nat → C_i_Machine_top
  | 0, _, _, _, _, _ => none
  | k + 1, m_Nodes, m_Stack, m_Memo, m_Done, kind => B_i_Machine_top k (F_i_Machine_nodes k) m_Nodes m_Stack m_Memo m_Done kind
theorem tot_i_Machine_top {m_Nodes m_Stack m_Memo m_Done kind : _} {Q : _ → Prop} (h : Tot (fun σ => B_i_Machine_top (σ 0) (F_i_Machine_nodes (σ 0)) m_Nodes m_Stack m_Memo m_Done kind) Q) : Tot (fun σ => F_i_Machine_top (σ 0) m_Nodes m_Stack m_Memo m_Done kind) Q :=
  Tot.call (F := fun k => F_i_Machine_top k m_Nodes m_Stack m_Memo m_Done kind) (B := fun k => B_i_Machine_top k (F_i_Machine_nodes k) m_Nodes m_Stack m_Memo m_Done kind) (fun k => rfl) h
abbrev R_i_findKey : Type := Option ((Int × Unit) × (Unit))
abbrev C_i_findKey : Type := (List (Int × Int × List Int)) → List Int → Int → Int → R_i_findKey
abbrev T_i_findKey_L1 : Type := (List (Int × Int × List Int)) × List Int × (Int × Int × Unit × Unit) × Int × Unit
def B_i_findKey_J0 (k : Nat) (again1 : T_i_findKey_L1 → R_i_findKey) (nodes : List (Int × Int × List Int)) (kids : List Int) (key_Kind key_Value i : Int) (t33 : Bool) : R_i_findKey :=
  bif t33 then
    some ((i, ()), ())
  else
    again1 (nodes, kids, (key_Kind, key_Value, (), ()), w64 (i + 2), ())
def B_i_findKey_L1b (k : Nat) (again1 : T_i_findKey_L1 → R_i_findKey) (nodes : List (Int × Int × List Int)) (kids : List Int) (key_Kind key_Value i : Int) : R_i_findKey :=
  bif decide (i < (len kids)) then
    chk (inb i kids.length) <|
    chk (inb (rdx (0 : Int) kids i) nodes.length) <|
    let v26 : Bool := (((rdx ((0 : Int), ((0 : Int), ([] : List Int))) nodes (rdx (0 : Int) kids i)).1) == key_Kind)
    bif v26 then
      let v32 : Bool := ((((rdx ((0 : Int), ((0 : Int), ([] : List Int))) nodes (rdx (0 : Int) kids i)).2).1) == key_Value)
      jn (fun t => B_i_findKey_J0 k again1 t.1 t.2.1 t.2.2.1.1 t.2.2.1.2.1 t.2.2.2.1 t.2.2.2.2.1) (nodes, kids, (key_Kind, key_Value, (), ()), i, v32, ())
    else
      jn (fun t => B_i_findKey_J0 k again1 t.1 t.2.1 t.2.2.1.1 t.2.2.1.2.1 t.2.2.2.1 t.2.2.2.2.1) (nodes, kids, (key_Kind, key_Value, (), ()), i, false, ())
  else
    some (((-1), ()), ())
def B_i_findKey_L1 (k : Nat) (n : Nat) (t : T_i_findKey_L1) : R_i_findKey :=
  lfix n (fun again t => B_i_findKey_L1b k again t.1 t.2.1 t.2.2.1.1 t.2.2.1.2.1 t.2.2.2.1) t
def B_i_findKey (k : Nat) (nodes : List (Int × Int × List Int)) (kids : List Int) (key_0 key_1 : Int) : R_i_findKey :=
  B_i_findKey_L1 k k (nodes, kids, (key_0, key_1, (), ()), 0, ())
def F_i_findKey : Nat → C_i_findKey
  | 0, _, _, _, _ => none
  | k + 1, nodes, kids, key_0, key_1 => B_i_findKey k nodes kids key_0 key_1
theorem tot_i_findKey {nodes kids key_0 key_1 : _} {Q : _ → Prop} (h : Tot (fun σ => B_i_findKey (σ 0) nodes kids key_0 key_1) Q) : Tot (fun σ => F_i_findKey (σ 0) nodes kids key_0 key_1) Q :=
  Tot.call (F := fun k => F_i_findKey k nodes kids key_0 key_1) (B := fun k => B_i_findKey k nodes kids key_0 key_1) (fun k => rfl) h
abbrev A_i_findKey_L1 (Z : Type) : Type := (List (Int × Int × List Int)) → List Int → Int → Int → Int → Z
abbrev u_i_findKey_L1 {Z : Type} (f : A_i_findKey_L1 Z) (t : T_i_findKey_L1) : Z := f t.1 t.2.1 t.2.2.1.1 t.2.2.1.2.1 t.2.2.2.1
theorem loop_i_findKey_L1 {Q : A_i_findKey_L1 (((Int × Unit) × (Unit)) → Prop)} (I : A_i_findKey_L1 Prop) (μ : A_i_findKey_L1 Nat)
    (step : ∀ a0 a1 a2 a3 a4, I a0 a1 a2 a3 a4 → ∀ again : (Nat → Nat) → T_i_findKey_L1 → R_i_findKey, Dep 2 again → (∀ y0 y1 y2 y3 y4, I y0 y1 y2 y3 y4 → μ y0 y1 y2 y3 y4 < μ a0 a1 a2 a3 a4 → Tot (fun σ => again σ (y0, y1, (y2, y3, (), ()), y4, ())) (Q y0 y1 y2 y3 y4)) →
      Tot (fun σ => B_i_findKey_L1b (σ 0) (again σ) a0 a1 a2 a3 a4) (Q a0 a1 a2 a3 a4)) :
    ∀ a0 a1 a2 a3 a4, I a0 a1 a2 a3 a4 → Tot (fun σ => B_i_findKey_L1 (σ 0) (σ 0) (a0, a1, (a2, a3, (), ()), a4, ())) (Q a0 a1 a2 a3 a4) := fun a0 a1 a2 a3 a4 => Tot.loop0 (L := fun k => B_i_findKey_L1 k) (B := fun k g => u_i_findKey_L1 (B_i_findKey_L1b k g)) (Q := u_i_findKey_L1 Q) (fun _ _ _ => rfl) (u_i_findKey_L1 I) (u_i_findKey_L1 μ)
    (fun t ht again hag h => step t.1 t.2.1 t.2.2.1.1 t.2.2.1.2.1 t.2.2.2.1 ht again hag fun y0 y1 y2 y3 y4 => h (y0, y1, (y2, y3, (), ()), y4, ())) (a0, a1, (a2, a3, (), ()), a4, ())
abbrev R_i_Machine_set : Type := Option ((Bool × Unit) × (((List (Int × Int × List Int)) × List Int × List Int × Bool × Unit) × Unit))
abbrev C_i_Machine_set : Type := (List (Int × Int × List Int)) → List Int → List Int → Bool → List Int → R_i_Machine_set
abbrev T_i_Machine_set_L3 : Type := ((List (Int × Int × List Int)) × List Int × List Int × Bool × Unit) × List Int × Int × Option Nat × Unit
abbrev T_i_Machine_set_L1 : Type := ((List (Int × Int × List Int)) × List Int × List Int × Bool × Unit) × List Int × Int × Option Nat × Unit
def B_i_Machine_set_J2 (k : Nat) (c_i_Machine_top : C_i_Machine_top) (c_i_findKey : C_i_findKey) (again3 : T_i_Machine_set_L3 → R_i_Machine_set) (m_Nodes : List (Int × Int × List Int)) (m_Stack m_Memo : List Int) (m_Done : Bool) (pairs : List Int) (i : Int) (x : Option Nat) : R_i_Machine_set :=
  again3 ((m_Nodes, m_Stack, m_Memo, m_Done, ()), pairs, w64 (i + 2), x, ())
def B_i_Machine_set_L3b (k : Nat) (c_i_Machine_top : C_i_Machine_top) (c_i_findKey : C_i_findKey) (again3 : T_i_Machine_set_L3 → R_i_Machine_set) (m_Nodes : List (Int × Int × List Int)) (m_Stack m_Memo : List Int) (m_Done : Bool) (pairs : List Int) (i : Int) (x : Option Nat) : R_i_Machine_set :=
  bif decide (i < (len pairs)) then
    chk (inb i pairs.length) <|
    chk (inb (rdx (0 : Int) pairs i) m_Nodes.length) <|
    chk (decide ((rdx (0 : Int) pairs i).toNat < m_Nodes.length)) <|
    (x).bind fun p16 =>
    chk (decide (p16 < m_Nodes.length)) <|
    (c_i_findKey (m_Nodes.set p16 ((m_Nodes.getD p16 ((0 : Int), ((0 : Int), ([] : List Int)))).1, (((m_Nodes.getD p16 ((0 : Int), ((0 : Int), ([] : List Int)))).2).1, ((m_Nodes.getD p16 ((0 : Int), ((0 : Int), ([] : List Int)))).2).2))) (((m_Nodes.getD p16 ((0 : Int), ((0 : Int), ([] : List Int)))).2).2) ((m_Nodes.getD ((rdx (0 : Int) pairs i).toNat) ((0 : Int), ((0 : Int), ([] : List Int)))).1) (((m_Nodes.getD ((rdx (0 : Int) pairs i).toNat) ((0 : Int), ((0 : Int), ([] : List Int)))).2).1)).bind fun r67 =>
    bif decide (r67.1.1 ≥ 0) then
      (x).bind fun p17 =>
      chk (decide (p17 < (m_Nodes.set p16 ((m_Nodes.getD p16 ((0 : Int), ((0 : Int), ([] : List Int)))).1, (((m_Nodes.getD p16 ((0 : Int), ((0 : Int), ([] : List Int)))).2).1, ((m_Nodes.getD p16 ((0 : Int), ((0 : Int), ([] : List Int)))).2).2))).length)) <|
      chk (inb (w64 (i + 1)) pairs.length) <|
      chk (inb (w64 (r67.1.1 + 1)) ((((m_Nodes.set p16 ((m_Nodes.getD p16 ((0 : Int), ((0 : Int), ([] : List Int)))).1, (((m_Nodes.getD p16 ((0 : Int), ((0 : Int), ([] : List Int)))).2).1, ((m_Nodes.getD p16 ((0 : Int), ((0 : Int), ([] : List Int)))).2).2))).getD p17 ((0 : Int), ((0 : Int), ([] : List Int)))).2).2).length) <|
      chk (decide ((w64 (r67.1.1 + 1)).toNat < ((((m_Nodes.set p16 ((m_Nodes.getD p16 ((0 : Int), ((0 : Int), ([] : List Int)))).1, (((m_Nodes.getD p16 ((0 : Int), ((0 : Int), ([] : List Int)))).2).1, ((m_Nodes.getD p16 ((0 : Int), ((0 : Int), ([] : List Int)))).2).2))).getD p17 ((0 : Int), ((0 : Int), ([] : List Int)))).2).2).length)) <|
      let w18 : List (Int × Int × List Int) := ((m_Nodes.set p16 ((m_Nodes.getD p16 ((0 : Int), ((0 : Int), ([] : List Int)))).1, (((m_Nodes.getD p16 ((0 : Int), ((0 : Int), ([] : List Int)))).2).1, ((m_Nodes.getD p16 ((0 : Int), ((0 : Int), ([] : List Int)))).2).2))).set p17 (((m_Nodes.set p16 ((m_Nodes.getD p16 ((0 : Int), ((0 : Int), ([] : List Int)))).1, (((m_Nodes.getD p16 ((0 : Int), ((0 : Int), ([] : List Int)))).2).1, ((m_Nodes.getD p16 ((0 : Int), ((0 : Int), ([] : List Int)))).2).2))).getD p17 ((0 : Int), ((0 : Int), ([] : List Int)))).1, ((((m_Nodes.set p16 ((m_Nodes.getD p16 ((0 : Int), ((0 : Int), ([] : List Int)))).1, (((m_Nodes.getD p16 ((0 : Int), ((0 : Int), ([] : List Int)))).2).1, ((m_Nodes.getD p16 ((0 : Int), ((0 : Int), ([] : List Int)))).2).2))).getD p17 ((0 : Int), ((0 : Int), ([] : List Int)))).2).1, (((((m_Nodes.set p16 ((m_Nodes.getD p16 ((0 : Int), ((0 : Int), ([] : List Int)))).1, (((m_Nodes.getD p16 ((0 : Int), ((0 : Int), ([] : List Int)))).2).1, ((m_Nodes.getD p16 ((0 : Int), ((0 : Int), ([] : List Int)))).2).2))).getD p17 ((0 : Int), ((0 : Int), ([] : List Int)))).2).2).set ((w64 (r67.1.1 + 1)).toNat) (rdx (0 : Int) pairs (w64 (i + 1)))))))
      jn (fun t => B_i_Machine_set_J2 k c_i_Machine_top c_i_findKey again3 t.1.1 t.1.2.1 t.1.2.2.1 t.1.2.2.2.1 t.2.1 t.2.2.1 t.2.2.2.1) ((w18, m_Stack, m_Memo, m_Done, ()), pairs, i, x, ())
    else
      (x).bind fun p19 =>
      chk (decide (p19 < (m_Nodes.set p16 ((m_Nodes.getD p16 ((0 : Int), ((0 : Int), ([] : List Int)))).1, (((m_Nodes.getD p16 ((0 : Int), ((0 : Int), ([] : List Int)))).2).1, ((m_Nodes.getD p16 ((0 : Int), ((0 : Int), ([] : List Int)))).2).2))).length)) <|
      chk (inb i pairs.length) <|
      chk (inb (w64 (i + 1)) pairs.length) <|
      chk (room ((((m_Nodes.set p16 ((m_Nodes.getD p16 ((0 : Int), ((0 : Int), ([] : List Int)))).1, (((m_Nodes.getD p16 ((0 : Int), ((0 : Int), ([] : List Int)))).2).1, ((m_Nodes.getD p16 ((0 : Int), ((0 : Int), ([] : List Int)))).2).2))).getD p19 ((0 : Int), ((0 : Int), ([] : List Int)))).2).2).length ([(rdx (0 : Int) pairs i), (rdx (0 : Int) pairs (w64 (i + 1)))]).length) <|
      (x).bind fun p20 =>
      chk (decide (p20 = p19)) <|
      let w21 : List (Int × Int × List Int) := ((m_Nodes.set p16 ((m_Nodes.getD p16 ((0 : Int), ((0 : Int), ([] : List Int)))).1, (((m_Nodes.getD p16 ((0 : Int), ((0 : Int), ([] : List Int)))).2).1, ((m_Nodes.getD p16 ((0 : Int), ((0 : Int), ([] : List Int)))).2).2))).set p20 (((m_Nodes.set p16 ((m_Nodes.getD p16 ((0 : Int), ((0 : Int), ([] : List Int)))).1, (((m_Nodes.getD p16 ((0 : Int), ((0 : Int), ([] : List Int)))).2).1, ((m_Nodes.getD p16 ((0 : Int), ((0 : Int), ([] : List Int)))).2).2))).getD p20 ((0 : Int), ((0 : Int), ([] : List Int)))).1, ((((m_Nodes.set p16 ((m_Nodes.getD p16 ((0 : Int), ((0 : Int), ([] : List Int)))).1, (((m_Nodes.getD p16 ((0 : Int), ((0 : Int), ([] : List Int)))).2).1, ((m_Nodes.getD p16 ((0 : Int), ((0 : Int), ([] : List Int)))).2).2))).getD p20 ((0 : Int), ((0 : Int), ([] : List Int)))).2).1, ((((m_Nodes.set p16 ((m_Nodes.getD p16 ((0 : Int), ((0 : Int), ([] : List Int)))).1, (((m_Nodes.getD p16 ((0 : Int), ((0 : Int), ([] : List Int)))).2).1, ((m_Nodes.getD p16 ((0 : Int), ((0 : Int), ([] : List Int)))).2).2))).getD p19 ((0 : Int), ((0 : Int), ([] : List Int)))).2).2 ++ [(rdx (0 : Int) pairs i), (rdx (0 : Int) pairs (w64 (i + 1)))]))))
      jn (fun t => B_i_Machine_set_J2 k c_i_Machine_top c_i_findKey again3 t.1.1 t.1.2.1 t.1.2.2.1 t.1.2.2.2.1 t.2.1 t.2.2.1 t.2.2.2.1) ((w21, m_Stack, m_Memo, m_Done, ()), pairs, i, x, ())
  else
    some ((true, ()), ((m_Nodes, m_Stack, m_Memo, m_Done, ()), ()))
def B_i_Machine_set_L3 (k : Nat) (c_i_Machine_top : C_i_Machine_top) (c_i_findKey : C_i_findKey) (n : Nat) (t : T_i_Machine_set_L3) : R_i_Machine_set :=
  lfix n (fun again t => B_i_Machine_set_L3b k c_i_Machine_top c_i_findKey again t.1.1 t.1.2.1 t.1.2.2.1 t.1.2.2.2.1 t.2.1 t.2.2.1 t.2.2.2.1) t
def B_i_Machine_set_L1b (k : Nat) (c_i_Machine_top : C_i_Machine_top) (c_i_findKey : C_i_findKey) (again1 : T_i_Machine_set_L1 → R_i_Machine_set) (m_Nodes : List (Int × Int × List Int)) (m_Stack m_Memo : List Int) (m_Done : Bool) (pairs : List Int) (i : Int) (x : Option Nat) : R_i_Machine_set :=
  bif decide (i < (len pairs)) then
    chk (inb i pairs.length) <|
    chk (inb (rdx (0 : Int) pairs i) m_Nodes.length) <|
    chk (decide ((rdx (0 : Int) pairs i).toNat < m_Nodes.length)) <|
    let v41 : Bool := decide (((m_Nodes.getD ((rdx (0 : Int) pairs i).toNat) ((0 : Int), ((0 : Int), ([] : List Int)))).1) > 1)
    bif v41 then
      some ((false, ()), ((m_Nodes, m_Stack, m_Memo, m_Done, ()), ()))
    else
      again1 ((m_Nodes, m_Stack, m_Memo, m_Done, ()), pairs, w64 (i + 2), x, ())
  else
    B_i_Machine_set_L3 k c_i_Machine_top c_i_findKey k ((m_Nodes, m_Stack, m_Memo, m_Done, ()), pairs, 0, x, ())
def B_i_Machine_set_L1 (k : Nat) (c_i_Machine_top : C_i_Machine_top) (c_i_findKey : C_i_findKey) (n : Nat) (t : T_i_Machine_set_L1) : R_i_Machine_set :=
  lfix n (fun again t => B_i_Machine_set_L1b k c_i_Machine_top c_i_findKey again t.1.1 t.1.2.1 t.1.2.2.1 t.1.2.2.2.1 t.2.1 t.2.2.1 t.2.2.2.1) t
def B_i_Machine_set_J0 (k : Nat) (c_i_Machine_top : C_i_Machine_top) (c_i_findKey : C_i_findKey) (m_Nodes : List (Int × Int × List Int)) (m_Stack m_Memo : List Int) (m_Done : Bool) (pairs : List Int) (t23 : Bool) (x : Option Nat) : R_i_Machine_set :=
  bif t23 then
    some ((false, ()), ((m_Nodes, m_Stack, m_Memo, m_Done, ()), ()))
  else
    B_i_Machine_set_L1 k c_i_Machine_top c_i_findKey k ((m_Nodes, m_Stack, m_Memo, m_Done, ()), pairs, 0, x, ())
def B_i_Machine_set (k : Nat) (c_i_Machine_top : C_i_Machine_top) (c_i_findKey : C_i_findKey) (m_Nodes : List (Int × Int × List Int)) (m_Stack m_Memo : List Int) (m_Done : Bool) (pairs : List Int) : R_i_Machine_set :=
  (c_i_Machine_top m_Nodes m_Stack m_Memo m_Done 4).bind fun r13 =>
  bif (!r13.1.2.1) then
    jn (fun t => B_i_Machine_set_J0 k c_i_Machine_top c_i_findKey t.1.1 t.1.2.1 t.1.2.2.1 t.1.2.2.2.1 t.2.1 t.2.2.1 t.2.2.2.1) ((r13.2.1.1, r13.2.1.2.1, r13.2.1.2.2.1, r13.2.1.2.2.2.1, ()), pairs, true, r13.1.1, ())
  else
    jn (fun t => B_i_Machine_set_J0 k c_i_Machine_top c_i_findKey t.1.1 t.1.2.1 t.1.2.2.1 t.1.2.2.2.1 t.2.1 t.2.2.1 t.2.2.2.1) ((r13.2.1.1, r13.2.1.2.1, r13.2.1.2.2.1, r13.2.1.2.2.2.1, ()), pairs, (((len pairs).tmod 2) != 0), r13.1.1, ())
def F_i_Machine_set : Nat → C_i_Machine_set
  | 0, _, _, _, _, _ => none
  | k + 1, m_Nodes, m_Stack, m_Memo, m_Done, pairs => B_i_Machine_set k (F_i_Machine_top k) (F_i_findKey k) m_Nodes m_Stack m_Memo m_Done pairs
theorem tot_i_Machine_set {m_Nodes m_Stack m_Memo m_Done pairs : _} {Q : _ → Prop} (h : Tot (fun σ => B_i_Machine_set (σ 0) (F_i_Machine_top (σ 0)) (F_i_findKey (σ 0)) m_Nodes m_Stack m_Memo m_Done pairs) Q) : Tot (fun σ => F_i_Machine_set (σ 0) m_Nodes m_Stack m_Memo m_Done pairs) Q :=
  Tot.call (F := fun k => F_i_Machine_set k m_Nodes m_Stack m_Memo m_Done pairs) (B := fun k => B_i_Machine_set k (F_i_Machine_top k) (F_i_findKey k) m_Nodes m_Stack m_Memo m_Done pairs) (fun k => rfl) h
abbrev A_i_Machine_set_L3 (Z : Type) : Type := (List (Int × Int × List Int)) → List Int → List Int → Bool → List Int → Int → Option Nat → Z
abbrev u_i_Machine_set_L3 {Z : Type} (f : A_i_Machine_set_L3 Z) (t : T_i_Machine_set_L3) : Z := f t.1.1 t.1.2.1 t.1.2.2.1 t.1.2.2.2.1 t.2.1 t.2.2.1 t.2.2.2.1
theorem loop_i_Machine_set_L3 {Q : A_i_Machine_set_L3 (((Bool × Unit) × (((List (Int × Int × List Int)) × List Int × List Int × Bool × Unit) × Unit)) → Prop)} (I : A_i_Machine_set_L3 Prop) (μ : A_i_Machine_set_L3 Nat)
    (step : ∀ a0 a1 a2 a3 a4 a5 a6, I a0 a1 a2 a3 a4 a5 a6 → ∀ again : (Nat → Nat) → T_i_Machine_set_L3 → R_i_Machine_set, Dep 2 again → (∀ y0 y1 y2 y3 y4 y5 y6, I y0 y1 y2 y3 y4 y5 y6 → μ y0 y1 y2 y3 y4 y5 y6 < μ a0 a1 a2 a3 a4 a5 a6 → Tot (fun σ => again σ ((y0, y1, y2, y3, ()), y4, y5, y6, ())) (Q y0 y1 y2 y3 y4 y5 y6)) →
      Tot (fun σ => B_i_Machine_set_L3b (σ 0) (F_i_Machine_top (σ 0)) (F_i_findKey (σ 0)) (again σ) a0 a1 a2 a3 a4 a5 a6) (Q a0 a1 a2 a3 a4 a5 a6)) :
    ∀ a0 a1 a2 a3 a4 a5 a6, I a0 a1 a2 a3 a4 a5 a6 → Tot (fun σ => B_i_Machine_set_L3 (σ 0) (F_i_Machine_top (σ 0)) (F_i_findKey (σ 0)) (σ 0) ((a0, a1, a2, a3, ()), a4, a5, a6, ())) (Q a0 a1 a2 a3 a4 a5 a6) := fun a0 a1 a2 a3 a4 a5 a6 => Tot.loop0 (L := fun k => B_i_Machine_set_L3 k (F_i_Machine_top k) (F_i_findKey k)) (B := fun k g => u_i_Machine_set_L3 (B_i_Machine_set_L3b k (F_i_Machine_top k) (F_i_findKey k) g)) (Q := u_i_Machine_set_L3 Q) (fun _ _ _ => rfl) (u_i_Machine_set_L3 I) (u_i_Machine_set_L3 μ)
    (fun t ht again hag h => step t.1.1 t.1.2.1 t.1.2.2.1 t.1.2.2.2.1 t.2.1 t.2.2.1 t.2.2.2.1 ht again hag fun y0 y1 y2 y3 y4 y5 y6 => h ((y0, y1, y2, y3, ()), y4, y5, y6, ())) ((a0, a1, a2, a3, ()), a4, a5, a6, ())
abbrev A_i_Machine_set_L1 (Z : Type) : Type := (List (Int × Int × List Int)) → List Int → List Int → Bool → List Int → Int → Option Nat → Z
abbrev u_i_Machine_set_L1 {Z : Type} (f : A_i_Machine_set_L1 Z) (t : T_i_Machine_set_L1) : Z := f t.1.1 t.1.2.1 t.1.2.2.1 t.1.2.2.2.1 t.2.1 t.2.2.1 t.2.2.2.1
theorem loop_i_Machine_set_L1 {Q : A_i_Machine_set_L1 (((Bool × Unit) × (((List (Int × Int × List Int)) × List Int × List Int × Bool × Unit) × Unit)) → Prop)} (I : A_i_Machine_set_L1 Prop) (μ : A_i_Machine_set_L1 Nat)
    (step : ∀ a0 a1 a2 a3 a4 a5 a6, I a0 a1 a2 a3 a4 a5 a6 → ∀ again : (Nat → Nat) → T_i_Machine_set_L1 → R_i_Machine_set, Dep 2 again → (∀ y0 y1 y2 y3 y4 y5 y6, I y0 y1 y2 y3 y4 y5 y6 → μ y0 y1 y2 y3 y4 y5 y6 < μ a0 a1 a2 a3 a4 a5 a6 → Tot (fun σ => again σ ((y0, y1, y2, y3, ()), y4, y5, y6, ())) (Q y0 y1 y2 y3 y4 y5 y6)) →
      Tot (fun σ => B_i_Machine_set_L1b (σ 0) (F_i_Machine_top (σ 0)) (F_i_findKey (σ 0)) (again σ) a0 a1 a2 a3 a4 a5 a6) (Q a0 a1 a2 a3 a4 a5 a6)) :
    ∀ a0 a1 a2 a3 a4 a5 a6, I a0 a1 a2 a3 a4 a5 a6 → Tot (fun σ => B_i_Machine_set_L1 (σ 0) (F_i_Machine_top (σ 0)) (F_i_findKey (σ 0)) (σ 0) ((a0, a1, a2, a3, ()), a4, a5, a6, ())) (Q a0 a1 a2 a3 a4 a5 a6) := fun a0 a1 a2 a3 a4 a5 a6 => Tot.loop0 (L := fun k => B_i_Machine_set_L1 k (F_i_Machine_top k) (F_i_findKey k)) (B := fun k g => u_i_Machine_set_L1 (B_i_Machine_set_L1b k (F_i_Machine_top k) (F_i_findKey k) g)) (Q := u_i_Machine_set_L1 Q) (fun _ _ _ => rfl) (u_i_Machine_set_L1 I) (u_i_Machine_set_L1 μ)
    (fun t ht again hag h => step t.1.1 t.1.2.1 t.1.2.2.1 t.1.2.2.2.1 t.2.1 t.2.2.1 t.2.2.2.1 ht again hag fun y0 y1 y2 y3 y4 y5 y6 => h ((y0, y1, y2, y3, ()), y4, y5, y6, ())) ((a0, a1, a2, a3, ()), a4, a5, a6, ())
abbrev R_i_Machine_do : Type := Option ((Bool × Unit) × (((Bool × List (Int × Int × List Int)) × List Int × List Int × Bool × Unit) × Unit))
abbrev C_i_Machine_do : Type := (List (Int × Int × List Int)) → List Int → List Int → Bool → Int → Int → R_i_Machine_do
def B_i_Machine_do_J0 (k : Nat) (c_i_Machine_nodes : C_i_Machine_nodes) (c_i_Machine_make : C_i_Machine_make) (c_i_Machine_push : C_i_Machine_push) (c_i_Machine_above : C_i_Machine_above) (c_i_Machine_take : C_i_Machine_take) (c_i_Machine_top : C_i_Machine_top) (c_i_Machine_set : C_i_Machine_set) (m_Nodes : List (Int × Int × List Int)) (m_Stack m_Memo : List Int) (m_Done : Bool) (kids : List Int) (t183 : Bool) (x : Option Nat) : R_i_Machine_do :=
  bif t183 then
    some ((false, ()), (((true, m_Nodes), m_Stack, m_Memo, m_Done, ()), ()))
  else
    (x).bind fun p9 =>
    chk (decide (p9 < m_Nodes.length)) <|
    some ((true, ()), (((true, (m_Nodes.set p9 ((m_Nodes.getD p9 ((0 : Int), ((0 : Int), ([] : List Int)))).1, (((m_Nodes.getD p9 ((0 : Int), ((0 : Int), ([] : List Int)))).2).1, kids)))), m_Stack, m_Memo, m_Done, ()), ()))
def B_i_Machine_do_J1 (k : Nat) (c_i_Machine_nodes : C_i_Machine_nodes) (c_i_Machine_make : C_i_Machine_make) (c_i_Machine_push : C_i_Machine_push) (c_i_Machine_above : C_i_Machine_above) (c_i_Machine_take : C_i_Machine_take) (c_i_Machine_top : C_i_Machine_top) (c_i_Machine_set : C_i_Machine_set) (m_Nodes : List (Int × Int × List Int)) (m_Stack m_Memo : List Int) (m_Done : Bool) : R_i_Machine_do :=
  some ((m_Done, ()), (((true, m_Nodes), m_Stack, m_Memo, m_Done, ()), ()))
def B_i_Machine_do (k : Nat) (c_i_Machine_nodes : C_i_Machine_nodes) (c_i_Machine_make : C_i_Machine_make) (c_i_Machine_push : C_i_Machine_push) (c_i_Machine_above : C_i_Machine_above) (c_i_Machine_take : C_i_Machine_take) (c_i_Machine_top : C_i_Machine_top) (c_i_Machine_set : C_i_Machine_set) (m_Nodes : List (Int × Int × List Int)) (m_Stack m_Memo : List Int) (m_Done : Bool) (o_0 o_1 : Int) : R_i_Machine_do :=
  (c_i_Machine_nodes m_Nodes m_Stack m_Memo m_Done).bind fun r23 =>
  bif (o_0 == 0) then
    (c_i_Machine_make r23.2.1.1 r23.2.1.2.1 r23.2.1.2.2.1 r23.2.1.2.2.2.1 0 o_1 ([])).bind fun r31 =>
    some ((r31.1.1, ()), (((false, r31.2.1.1), r31.2.1.2.1, r31.2.1.2.2.1, r31.2.1.2.2.2.1, ()), ()))
  else
    bif (o_0 == 1) then
      (c_i_Machine_make r23.2.1.1 r23.2.1.2.1 r23.2.1.2.2.1 r23.2.1.2.2.2.1 1 o_1 ([])).bind fun r37 =>
      some ((r37.1.1, ()), (((false, r37.2.1.1), r37.2.1.2.1, r37.2.1.2.2.1, r37.2.1.2.2.2.1, ()), ()))
    else
      bif (o_0 == 13) then
        (c_i_Machine_make r23.2.1.1 r23.2.1.2.1 r23.2.1.2.2.1 r23.2.1.2.2.2.1 5 o_1 ([])).bind fun r43 =>
        some ((r43.1.1, ()), (((false, r43.2.1.1), r43.2.1.2.1, r43.2.1.2.2.1, r43.2.1.2.2.2.1, ()), ()))
      else
        bif (o_0 == 4) then
          (c_i_Machine_make r23.2.1.1 r23.2.1.2.1 r23.2.1.2.2.1 r23.2.1.2.2.2.1 2 0 ([])).bind fun r47 =>
          some ((r47.1.1, ()), (((false, r47.2.1.1), r47.2.1.2.1, r47.2.1.2.2.1, r47.2.1.2.2.2.1, ()), ()))
        else
          bif (o_0 == 7) then
            (c_i_Machine_make r23.2.1.1 r23.2.1.2.1 r23.2.1.2.2.1 r23.2.1.2.2.2.1 3 0 ([])).bind fun r51 =>
            some ((r51.1.1, ()), (((false, r51.2.1.1), r51.2.1.2.1, r51.2.1.2.2.1, r51.2.1.2.2.2.1, ()), ()))
          else
            bif (o_0 == 10) then
              (c_i_Machine_make r23.2.1.1 r23.2.1.2.1 r23.2.1.2.2.1 r23.2.1.2.2.2.1 4 0 ([])).bind fun r55 =>
              some ((r55.1.1, ()), (((false, r55.2.1.1), r55.2.1.2.1, r55.2.1.2.2.1, r55.2.1.2.2.2.1, ()), ()))
            else
              bif (o_0 == 2) then
                (c_i_Machine_push r23.2.1.1 r23.2.1.2.1 r23.2.1.2.2.1 r23.2.1.2.2.2.1 (-1)).bind fun r59 =>
                some ((r59.1.1, ()), (((true, r59.2.1.1), r59.2.1.2.1, r59.2.1.2.2.1, r59.2.1.2.2.2.1, ()), ()))
              else
                bif (o_0 == 3) then
                  (c_i_Machine_above r23.2.1.1 r23.2.1.2.1 r23.2.1.2.2.1 r23.2.1.2.2.2.1).bind fun r64 =>
                  bif r64.1.2.1 then
                    (c_i_Machine_make r64.2.1.1 r64.2.1.2.1 r64.2.1.2.2.1 r64.2.1.2.2.2.1 2 0 r64.1.1).bind fun r71 =>
                    some ((r71.1.1, ()), (((false, r71.2.1.1), r71.2.1.2.1, r71.2.1.2.2.1, r71.2.1.2.2.2.1, ()), ()))
                  else
                    some ((false, ()), (((true, r64.2.1.1), r64.2.1.2.1, r64.2.1.2.2.1, r64.2.1.2.2.2.1, ()), ()))
                else
                  bif (o_0 == 5) then
                    bif decide (r23.1.1 ≥ 1) then
                      (c_i_Machine_take r23.2.1.1 r23.2.1.2.1 r23.2.1.2.2.1 r23.2.1.2.2.2.1 1).bind fun r80 =>
                      (c_i_Machine_make r80.2.1.1 r80.2.1.2.1 r80.2.1.2.2.1 r80.2.1.2.2.2.1 2 0 r80.1.1).bind fun r81 =>
                      some ((r81.1.1, ()), (((false, r81.2.1.1), r81.2.1.2.1, r81.2.1.2.2.1, r81.2.1.2.2.2.1, ()), ()))
                    else
                      some ((false, ()), (((true, r23.2.1.1), r23.2.1.2.1, r23.2.1.2.2.1, r23.2.1.2.2.2.1, ()), ()))
                  else
                    bif (o_0 == 6) then
                      bif decide (r23.1.1 ≥ 2) then
                        (c_i_Machine_take r23.2.1.1 r23.2.1.2.1 r23.2.1.2.2.1 r23.2.1.2.2.2.1 2).bind fun r90 =>
                        (c_i_Machine_make r90.2.1.1 r90.2.1.2.1 r90.2.1.2.2.1 r90.2.1.2.2.2.1 2 0 r90.1.1).bind fun r91 =>
                        some ((r91.1.1, ()), (((false, r91.2.1.1), r91.2.1.2.1, r91.2.1.2.2.1, r91.2.1.2.2.2.1, ()), ()))
                      else
                        some ((false, ()), (((true, r23.2.1.1), r23.2.1.2.1, r23.2.1.2.2.1, r23.2.1.2.2.2.1, ()), ()))
                    else
                      bif (o_0 == 8) then
                        bif decide (r23.1.1 < 2) then
                          some ((false, ()), (((true, r23.2.1.1), r23.2.1.2.1, r23.2.1.2.2.1, r23.2.1.2.2.2.1, ()), ()))
                        else
                          (c_i_Machine_take r23.2.1.1 r23.2.1.2.1 r23.2.1.2.2.1 r23.2.1.2.2.2.1 1).bind fun r98 =>
                          (c_i_Machine_top r98.2.1.1 r98.2.1.2.1 r98.2.1.2.2.1 r98.2.1.2.2.2.1 3).bind fun r101 =>
                          bif r101.1.2.1 then
                            (r101.1.1).bind fun p0 =>
                            chk (decide (p0 < r101.2.1.1.length)) <|
                            chk (room (((r101.2.1.1.getD p0 ((0 : Int), ((0 : Int), ([] : List Int)))).2).2).length r98.1.1.length) <|
                            (r101.1.1).bind fun p1 =>
                            chk (decide (p1 = p0)) <|
                            let w2 : List (Int × Int × List Int) := (r101.2.1.1.set p1 ((r101.2.1.1.getD p1 ((0 : Int), ((0 : Int), ([] : List Int)))).1, (((r101.2.1.1.getD p1 ((0 : Int), ((0 : Int), ([] : List Int)))).2).1, (((r101.2.1.1.getD p0 ((0 : Int), ((0 : Int), ([] : List Int)))).2).2 ++ r98.1.1))))
                            some ((r101.1.2.1, ()), (((true, w2), r101.2.1.2.1, r101.2.1.2.2.1, r101.2.1.2.2.2.1, ()), ()))
                          else
                            some ((r101.1.2.1, ()), (((true, r101.2.1.1), r101.2.1.2.1, r101.2.1.2.2.1, r101.2.1.2.2.2.1, ()), ()))
                      else
                        bif (o_0 == 9) then
                          (c_i_Machine_above r23.2.1.1 r23.2.1.2.1 r23.2.1.2.2.1 r23.2.1.2.2.2.1).bind fun r119 =>
                          bif (!r119.1.2.1) then
                            some ((false, ()), (((true, r119.2.1.1), r119.2.1.2.1, r119.2.1.2.2.1, r119.2.1.2.2.2.1, ()), ()))
                          else
                            (c_i_Machine_top r119.2.1.1 r119.2.1.2.1 r119.2.1.2.2.1 r119.2.1.2.2.2.1 3).bind fun r126 =>
                            bif r126.1.2.1 then
                              (r126.1.1).bind fun p3 =>
                              chk (decide (p3 < r126.2.1.1.length)) <|
                              chk (room (((r126.2.1.1.getD p3 ((0 : Int), ((0 : Int), ([] : List Int)))).2).2).length r119.1.1.length) <|
                              (r126.1.1).bind fun p4 =>
                              chk (decide (p4 = p3)) <|
                              let w5 : List (Int × Int × List Int) := (r126.2.1.1.set p4 ((r126.2.1.1.getD p4 ((0 : Int), ((0 : Int), ([] : List Int)))).1, (((r126.2.1.1.getD p4 ((0 : Int), ((0 : Int), ([] : List Int)))).2).1, (((r126.2.1.1.getD p3 ((0 : Int), ((0 : Int), ([] : List Int)))).2).2 ++ r119.1.1))))
                              some ((r126.1.2.1, ()), (((true, w5), r126.2.1.2.1, r126.2.1.2.2.1, r126.2.1.2.2.2.1, ()), ()))
                            else
                              some ((r126.1.2.1, ()), (((true, r126.2.1.1), r126.2.1.2.1, r126.2.1.2.2.1, r126.2.1.2.2.2.1, ()), ()))
                        else
                          bif (o_0 == 11) then
                            bif decide (r23.1.1 ≥ 3) then
                              (c_i_Machine_take r23.2.1.1 r23.2.1.2.1 r23.2.1.2.2.1 r23.2.1.2.2.2.1 2).bind fun r147 =>
                              (c_i_Machine_set r147.2.1.1 r147.2.1.2.1 r147.2.1.2.2.1 r147.2.1.2.2.2.1 r147.1.1).bind fun r148 =>
                              some ((r148.1.1, ()), (((true, r148.2.1.1), r148.2.1.2.1, r148.2.1.2.2.1, r148.2.1.2.2.2.1, ()), ()))
                            else
                              some ((false, ()), (((true, r23.2.1.1), r23.2.1.2.1, r23.2.1.2.2.1, r23.2.1.2.2.2.1, ()), ()))
                          else
                            bif (o_0 == 12) then
                              (c_i_Machine_above r23.2.1.1 r23.2.1.2.1 r23.2.1.2.2.1 r23.2.1.2.2.2.1).bind fun r154 =>
                              bif r154.1.2.1 then
                                (c_i_Machine_set r154.2.1.1 r154.2.1.2.1 r154.2.1.2.2.1 r154.2.1.2.2.2.1 r154.1.1).bind fun r161 =>
                                some ((r161.1.1, ()), (((true, r161.2.1.1), r161.2.1.2.1, r161.2.1.2.2.1, r161.2.1.2.2.2.1, ()), ()))
                              else
                                some ((false, ()), (((true, r154.2.1.1), r154.2.1.2.1, r154.2.1.2.2.1, r154.2.1.2.2.2.1, ()), ()))
                            else
                              bif (o_0 == 14) then
                                bif decide (r23.1.1 < 2) then
                                  some ((false, ()), (((true, r23.2.1.1), r23.2.1.2.1, r23.2.1.2.2.1, r23.2.1.2.2.2.1, ()), ()))
                                else
                                  (c_i_Machine_take r23.2.1.1 r23.2.1.2.1 r23.2.1.2.2.1 r23.2.1.2.2.2.1 1).bind fun r168 =>
                                  (c_i_Machine_top r168.2.1.1 r168.2.1.2.1 r168.2.1.2.2.1 r168.2.1.2.2.2.1 5).bind fun r171 =>
                                  bif (!r171.1.2.1) then
                                    jn (fun t => B_i_Machine_do_J0 k c_i_Machine_nodes c_i_Machine_make c_i_Machine_push c_i_Machine_above c_i_Machine_take c_i_Machine_top c_i_Machine_set t.1.1 t.1.2.1 t.1.2.2.1 t.1.2.2.2.1 t.2.1 t.2.2.1 t.2.2.2.1) ((r171.2.1.1, r171.2.1.2.1, r171.2.1.2.2.1, r171.2.1.2.2.2.1, ()), r168.1.1, true, r171.1.1, ())
                                  else
                                    (r171.1.1).bind fun p10 =>
                                    chk (decide (p10 < r171.2.1.1.length)) <|
                                    jn (fun t => B_i_Machine_do_J0 k c_i_Machine_nodes c_i_Machine_make c_i_Machine_push c_i_Machine_above c_i_Machine_take c_i_Machine_top c_i_Machine_set t.1.1 t.1.2.1 t.1.2.2.1 t.1.2.2.2.1 t.2.1 t.2.2.1 t.2.2.2.1) (((r171.2.1.1.set p10 ((r171.2.1.1.getD p10 ((0 : Int), ((0 : Int), ([] : List Int)))).1, (((r171.2.1.1.getD p10 ((0 : Int), ((0 : Int), ([] : List Int)))).2).1, ((r171.2.1.1.getD p10 ((0 : Int), ((0 : Int), ([] : List Int)))).2).2))), r171.2.1.2.1, r171.2.1.2.2.1, r171.2.1.2.2.2.1, ()), r168.1.1, decide ((len (((r171.2.1.1.getD p10 ((0 : Int), ((0 : Int), ([] : List Int)))).2).2)) > 0), r171.1.1, ())
                              else
                                bif (o_0 == 15) then
                                  bif decide (r23.1.1 < 1) then
                                    some ((false, ()), (((true, r23.2.1.1), r23.2.1.2.1, r23.2.1.2.2.1, r23.2.1.2.2.2.1, ()), ()))
                                  else
                                    chk (inb (w64 ((len r23.2.1.2.1) - 1)) r23.2.1.2.1.length) <|
                                    chk (decide ((w64 ((len r23.2.1.2.1) - 1)).toNat < r23.2.1.2.1.length)) <|
                                    chk (inb o_1 r23.2.1.2.2.1.length) <|
                                    chk (decide (o_1.toNat < r23.2.1.2.2.1.length)) <|
                                    some ((true, ()), (((true, r23.2.1.1), r23.2.1.2.1, (r23.2.1.2.2.1.set o_1.toNat (r23.2.1.2.1.getD ((w64 ((len r23.2.1.2.1) - 1)).toNat) (0 : Int))), r23.2.1.2.2.2.1, ()), ()))
                                else
                                  bif (o_0 == 16) then
                                    chk (inb o_1 r23.2.1.2.2.1.length) <|
                                    chk (decide (o_1.toNat < r23.2.1.2.2.1.length)) <|
                                    bif decide ((r23.2.1.2.2.1.getD o_1.toNat (0 : Int)) ≥ 0) then
                                      chk (inb o_1 r23.2.1.2.2.1.length) <|
                                      chk (decide (o_1.toNat < r23.2.1.2.2.1.length)) <|
                                      (c_i_Machine_push r23.2.1.1 r23.2.1.2.1 r23.2.1.2.2.1 r23.2.1.2.2.2.1 (r23.2.1.2.2.1.getD o_1.toNat (0 : Int))).bind fun r232 =>
                                      some ((r232.1.1, ()), (((true, r232.2.1.1), r232.2.1.2.1, r232.2.1.2.2.1, r232.2.1.2.2.2.1, ()), ()))
                                    else
                                      some ((false, ()), (((true, r23.2.1.1), r23.2.1.2.1, r23.2.1.2.2.1, r23.2.1.2.2.2.1, ()), ()))
                                  else
                                    bif (o_0 == 17) then
                                      bif decide (r23.1.1 < 1) then
                                        some ((false, ()), (((true, r23.2.1.1), r23.2.1.2.1, r23.2.1.2.2.1, r23.2.1.2.2.2.1, ()), ()))
                                      else
                                        (c_i_Machine_take r23.2.1.1 r23.2.1.2.1 r23.2.1.2.2.1 r23.2.1.2.2.2.1 1).bind fun r239 =>
                                        some ((true, ()), (((true, r239.2.1.1), r239.2.1.2.1, r239.2.1.2.2.1, r239.2.1.2.2.2.1, ()), ()))
                                    else
                                      bif (o_0 == 18) then
                                        (c_i_Machine_above r23.2.1.1 r23.2.1.2.1 r23.2.1.2.2.1 r23.2.1.2.2.2.1).bind fun r244 =>
                                        some ((r244.1.2.1, ()), (((true, r244.2.1.1), r244.2.1.2.1, r244.2.1.2.2.1, r244.2.1.2.2.2.1, ()), ()))
                                      else
                                        bif ((len r23.2.1.2.1) == 1) then
                                          jn (fun t => B_i_Machine_do_J1 k c_i_Machine_nodes c_i_Machine_make c_i_Machine_push c_i_Machine_above c_i_Machine_take c_i_Machine_top c_i_Machine_set t.1.1 t.1.2.1 t.1.2.2.1 t.1.2.2.2.1) ((r23.2.1.1, r23.2.1.2.1, r23.2.1.2.2.1, (r23.1.1 == 1), ()), ())
                                        else
                                          jn (fun t => B_i_Machine_do_J1 k c_i_Machine_nodes c_i_Machine_make c_i_Machine_push c_i_Machine_above c_i_Machine_take c_i_Machine_top c_i_Machine_set t.1.1 t.1.2.1 t.1.2.2.1 t.1.2.2.2.1) ((r23.2.1.1, r23.2.1.2.1, r23.2.1.2.2.1, false, ()), ())
def F_i_Machine_do : Nat → C_i_Machine_do
  | 0, _, _, _, _, _, _ => none
  | k + 1, m_Nodes, m_Stack, m_Memo, m_Done, o_0, o_1 => B_i_Machine_do k (F_i_Machine_nodes k) (F_i_Machine_make k) (F_i_Machine_push k) (F_i_Machine_above k) (F_i_Machine_take k) (F_i_Machine_top k) (F_i_Machine_set k) m_Nodes m_Stack m_Memo m_Done o_0 o_1
theorem tot_i_Machine_do {m_Nodes m_Stack m_Memo m_Done o_0 o_1 : _} {Q : _ → Prop} (h : Tot (fun σ => B_i_Machine_do (σ 0) (F_i_Machine_nodes (σ 0)) (F_i_Machine_make (σ 0)) (F_i_Machine_push (σ 0)) (F_i_Machine_above (σ 0)) (F_i_Machine_take (σ 0)) (F_i_Machine_top (σ 0)) (F_i_Machine_set (σ 0)) m_Nodes m_Stack m_Memo m_Done o_0 o_1) Q) : Tot (fun σ => F_i_Machine_do (σ 0) m_Nodes m_Stack m_Memo m_Done o_0 o_1) Q :=
  Tot.call (F := fun k => F_i_Machine_do k m_Nodes m_Stack m_Memo m_Done o_0 o_1) (B := fun k => B_i_Machine_do k (F_i_Machine_nodes k) (F_i_Machine_make k) (F_i_Machine_push k) (F_i_Machine_above k) (F_i_Machine_take k) (F_i_Machine_top k) (F_i_Machine_set k) m_Nodes m_Stack m_Memo m_Done o_0 o_1) (fun k => rfl) h
abbrev R_i_Machine_step : Type := Option ((Bool × Unit) × (((Option (List (Int × Int × List Int))) × List Int × List Int × Bool × Unit) × Unit))
abbrev C_i_Machine_step : Type := (List (Int × Int × List Int)) → List Int → List Int → Bool → Int → Int → R_i_Machine_step
def B_i_Machine_step (k : Nat) (c_slices_Clone_int_int : C_slices_Clone_int_int) (c_i_Machine_do : C_i_Machine_do) (m_Nodes : List (Int × Int × List Int)) (m_Stack m_Memo : List Int) (m_Done : Bool) (o_0 o_1 : Int) : R_i_Machine_step :=
  (c_slices_Clone_int_int m_Stack).bind fun r15 =>
  bif (!m_Done) then
    (c_i_Machine_do m_Nodes m_Stack m_Memo m_Done o_0 o_1).bind fun r24 =>
    bif r24.1.1 then
      some ((true, ()), (((some r24.2.1.1.2), r24.2.1.2.1, r24.2.1.2.2.1, r24.2.1.2.2.2.1, ()), ()))
    else
      some ((false, ()), (((bif r24.2.1.1.1 then some r24.2.1.1.2 else none), r15.1.1, r24.2.1.2.2.1, r24.2.1.2.2.2.1, ()), ()))
  else
    some ((false, ()), (((some m_Nodes), r15.1.1, m_Memo, m_Done, ()), ()))
def F_i_Machine_step : Nat → C_i_Machine_step
  | 0, _, _, _, _, _, _ => none
  | k + 1, m_Nodes, m_Stack, m_Memo, m_Done, o_0, o_1 => B_i_Machine_step k (F_slices_Clone_int_int k) (F_i_Machine_do k) m_Nodes m_Stack m_Memo m_Done o_0 o_1
theorem tot_i_Machine_step {m_Nodes m_Stack m_Memo m_Done o_0 o_1 : _} {Q : _ → Prop} (h : Tot (fun σ => B_i_Machine_step (σ 0) (F_slices_Clone_int_int (σ 0)) (F_i_Machine_do (σ 0)) m_Nodes m_Stack m_Memo m_Done o_0 o_1) Q) : Tot (fun σ => F_i_Machine_step (σ 0) m_Nodes m_Stack m_Memo m_Done o_0 o_1) Q :=
  Tot.call (F := fun k => F_i_Machine_step k m_Nodes m_Stack m_Memo m_Done o_0 o_1) (B := fun k => B_i_Machine_step k (F_slices_Clone_int_int k) (F_i_Machine_do k) m_Nodes m_Stack m_Memo m_Done o_0 o_1) (fun k => rfl) h
abbrev R_i_copyNodes : Type := Option (((List (Int × Int × List Int)) × Unit) × (Unit))
abbrev C_i_copyNodes : Type := (List (Int × Int × List Int)) → R_i_copyNodes
abbrev T_i_copyNodes_L0 : Type := (List (Int × Int × List Int)) × (List (Int × Int × List Int)) × Int × Int × Unit
def B_i_copyNodes_L0b (k : Nat) (c_slices_Clone_int_int : C_slices_Clone_int_int) (again0 : T_i_copyNodes_L0 → R_i_copyNodes) (out t7 : List (Int × Int × List Int)) (t8 t9 : Int) : R_i_copyNodes :=
  bif decide (t9 < t8) then
    chk (inb t9 t7.length) <|
    (c_slices_Clone_int_int (((rdx ((0 : Int), ((0 : Int), ([] : List Int))) t7 t9).2).2)).bind fun r20 =>
    chk (room out.length ([((rdx ((0 : Int), ((0 : Int), ([] : List Int))) t7 t9).1, (((rdx ((0 : Int), ((0 : Int), ([] : List Int))) t7 t9).2).1, r20.1.1))]).length) <|
    again0 ((out ++ [((rdx ((0 : Int), ((0 : Int), ([] : List Int))) t7 t9).1, (((rdx ((0 : Int), ((0 : Int), ([] : List Int))) t7 t9).2).1, r20.1.1))]), t7, t8, w64 (t9 + 1), ())
  else
    some ((out, ()), ())
def B_i_copyNodes_L0 (k : Nat) (c_slices_Clone_int_int : C_slices_Clone_int_int) (n : Nat) (t : T_i_copyNodes_L0) : R_i_copyNodes :=
  lfix n (fun again t => B_i_copyNodes_L0b k c_slices_Clone_int_int again t.1 t.2.1 t.2.2.1 t.2.2.2.1) t
def B_i_copyNodes (k : Nat) (c_slices_Clone_int_int : C_slices_Clone_int_int) (nodes : List (Int × Int × List Int)) : R_i_copyNodes :=
  B_i_copyNodes_L0 k c_slices_Clone_int_int k ([], nodes, len nodes, 0, ())
def F_i_copyNodes : Nat → C_i_copyNodes
  | 0, _ => none
  | k + 1, nodes => B_i_copyNodes k (F_slices_Clone_int_int k) nodes
theorem tot_i_copyNodes {nodes : _} {Q : _ → Prop} (h : Tot (fun σ => B_i_copyNodes (σ 0) (F_slices_Clone_int_int (σ 0)) nodes) Q) : Tot (fun σ => F_i_copyNodes (σ 0) nodes) Q :=
  Tot.call (F := fun k => F_i_copyNodes k nodes) (B := fun k => B_i_copyNodes k (F_slices_Clone_int_int k) nodes) (fun k => rfl) h
abbrev A_i_copyNodes_L0 (Z : Type) : Type := (List (Int × Int × List Int)) → (List (Int × Int × List Int)) → Int → Int → Z
abbrev u_i_copyNodes_L0 {Z : Type} (f : A_i_copyNodes_L0 Z) (t : T_i_copyNodes_L0) : Z := f t.1 t.2.1 t.2.2.1 t.2.2.2.1
theorem loop_i_copyNodes_L0 {Q : A_i_copyNodes_L0 ((((List (Int × Int × List Int)) × Unit) × (Unit)) → Prop)} (I : A_i_copyNodes_L0 Prop) (μ : A_i_copyNodes_L0 Nat)
    (step : ∀ a0 a1 a2 a3, I a0 a1 a2 a3 → ∀ again : (Nat → Nat) → T_i_copyNodes_L0 → R_i_copyNodes, Dep 2 again → (∀ y0 y1 y2 y3, I y0 y1 y2 y3 → μ y0 y1 y2 y3 < μ a0 a1 a2 a3 → Tot (fun σ => again σ (y0, y1, y2, y3, ())) (Q y0 y1 y2 y3)) →
      Tot (fun σ => B_i_copyNodes_L0b (σ 0) (F_slices_Clone_int_int (σ 0)) (again σ) a0 a1 a2 a3) (Q a0 a1 a2 a3)) :
    ∀ a0 a1 a2 a3, I a0 a1 a2 a3 → Tot (fun σ => B_i_copyNodes_L0 (σ 0) (F_slices_Clone_int_int (σ 0)) (σ 0) (a0, a1, a2, a3, ())) (Q a0 a1 a2 a3) := fun a0 a1 a2 a3 => Tot.loop0 (L := fun k => B_i_copyNodes_L0 k (F_slices_Clone_int_int k)) (B := fun k g => u_i_copyNodes_L0 (B_i_copyNodes_L0b k (F_slices_Clone_int_int k) g)) (Q := u_i_copyNodes_L0 Q) (fun _ _ _ => rfl) (u_i_copyNodes_L0 I) (u_i_copyNodes_L0 μ)
    (fun t ht again hag h => step t.1 t.2.1 t.2.2.1 t.2.2.2.1 ht again hag fun y0 y1 y2 y3 => h (y0, y1, y2, y3, ())) (a0, a1, a2, a3, ())
abbrev R_i_copyMachine : Type := Option ((((List (Int × Int × List Int)) × List Int × List Int × Bool × Unit) × Unit) × (Unit))
abbrev C_i_copyMachine : Type := (List (Int × Int × List Int)) → List Int → List Int → Bool → R_i_copyMachine
def B_i_copyMachine (k : Nat) (c_i_copyNodes : C_i_copyNodes) (c_slices_Clone_int_int : C_slices_Clone_int_int) (m_0 : List (Int × Int × List Int)) (m_1 m_2 : List Int) (m_3 : Bool) : R_i_copyMachine :=
  (c_i_copyNodes m_0).bind fun r5 =>
  (c_slices_Clone_int_int m_1).bind fun r8 =>
  (c_slices_Clone_int_int m_2).bind fun r11 =>
  some (((r5.1.1, r8.1.1, r11.1.1, m_3, ()), ()), ())
def F_i_copyMachine : Nat → C_i_copyMachine
  | 0, _, _, _, _ => none
  | k + 1, m_0, m_1, m_2, m_3 => B_i_copyMachine k (F_i_copyNodes k) (F_slices_Clone_int_int k) m_0 m_1 m_2 m_3
theorem tot_i_copyMachine {m_0 m_1 m_2 m_3 : _} {Q : _ → Prop} (h : Tot (fun σ => B_i_copyMachine (σ 0) (F_i_copyNodes (σ 0)) (F_slices_Clone_int_int (σ 0)) m_0 m_1 m_2 m_3) Q) : Tot (fun σ => F_i_copyMachine (σ 0) m_0 m_1 m_2 m_3) Q :=
  Tot.call (F := fun k => F_i_copyMachine k m_0 m_1 m_2 m_3) (B := fun k => B_i_copyMachine k (F_i_copyNodes k) (F_slices_Clone_int_int k) m_0 m_1 m_2 m_3) (fun k => rfl) h
abbrev R_i_BuildGraph_1 : Type := Option ((Unit) × (Unit))
abbrev C_i_BuildGraph_1 : Type := (List (Int × Int × List Int)) → List Int → List Int → Bool → R_i_BuildGraph_1
def B_i_BuildGraph_1 (k : Nat) (t0_0 : List (Int × Int × List Int)) (t0_1 t0_2 : List Int) (t0_3 : Bool) : R_i_BuildGraph_1 :=
  some ((), ())
def F_i_BuildGraph_1 : Nat → C_i_BuildGraph_1
  | 0, _, _, _, _ => none
  | k + 1, t0_0, t0_1, t0_2, t0_3 => B_i_BuildGraph_1 k t0_0 t0_1 t0_2 t0_3
theorem tot_i_BuildGraph_1 {t0_0 t0_1 t0_2 t0_3 : _} {Q : _ → Prop} (h : Tot (fun σ => B_i_BuildGraph_1 (σ 0) t0_0 t0_1 t0_2 t0_3) Q) : Tot (fun σ => F_i_BuildGraph_1 (σ 0) t0_0 t0_1 t0_2 t0_3) Q :=
  Tot.call (F := fun k => F_i_BuildGraph_1 k t0_0 t0_1 t0_2 t0_3) (B := fun k => B_i_BuildGraph_1 k t0_0 t0_1 t0_2 t0_3) (fun k => rfl) h
abbrev R_i_running__i_BuildGraph_1 : Type := Option ((((List (Int × Int × List Int)) × List Int × List Int × Bool × Unit) × Int × Unit) × (Unit))
abbrev C_i_running__i_BuildGraph_1 : Type := (List (Int × Int)) → R_i_running__i_BuildGraph_1
abbrev T_i_running__i_BuildGraph_1_L0 : Type := (List (Int × Int)) × Unit × (Unit × Unit × Unit × Bool × Unit) × ((List (Int × Int × List Int)) × List Int × List Int × Bool × Unit) × (List (Int × Int)) × Int × Int × Unit
def B_i_running__i_BuildGraph_1_L0b (k : Nat) (c_i_NewMachine : C_i_NewMachine) (c_i_Machine_step : C_i_Machine_step) (c_i_copyMachine : C_i_copyMachine) (c_i_BuildGraph_1 : C_i_BuildGraph_1) (again0 : T_i_running__i_BuildGraph_1_L0 → R_i_running__i_BuildGraph_1) (ops : List (Int × Int)) (t4_Done : Bool) (m_Nodes : List (Int × Int × List Int)) (m_Stack m_Memo : List Int) (m_Done : Bool) (t10 : List (Int × Int)) (t11 t12 : Int) : R_i_running__i_BuildGraph_1 :=
  bif decide (t12 < t11) then
    chk (inb t12 t10.length) <|
    (c_i_Machine_step m_Nodes m_Stack m_Memo m_Done ((rdx ((0 : Int), (0 : Int)) t10 t12).1) ((rdx ((0 : Int), (0 : Int)) t10 t12).2)).bind fun r18 =>
    bif (!r18.1.1) then
      (r18.2.1.1).bind fun p25 =>
      (c_i_copyMachine p25 r18.2.1.2.1 r18.2.1.2.2.1 r18.2.1.2.2.2.1).bind fun r21 =>
      some (((r21.1.1.1, r21.1.1.2.1, r21.1.1.2.2.1, r21.1.1.2.2.2.1, ()), t12, ()), ())
    else
      (r18.2.1.1).bind fun p26 =>
      (c_i_BuildGraph_1 p26 r18.2.1.2.1 r18.2.1.2.2.1 r18.2.1.2.2.2.1).bind fun r25 =>
      (r18.2.1.1).bind fun p27 =>
      again0 (ops, (), ((), (), (), t4_Done, ()), (p27, r18.2.1.2.1, r18.2.1.2.2.1, r18.2.1.2.2.2.1, ()), t10, t11, w64 (t12 + 1), ())
  else
    (c_i_copyMachine m_Nodes m_Stack m_Memo m_Done).bind fun r28 =>
    some (((r28.1.1.1, r28.1.1.2.1, r28.1.1.2.2.1, r28.1.1.2.2.2.1, ()), len ops, ()), ())
def B_i_running__i_BuildGraph_1_L0 (k : Nat) (c_i_NewMachine : C_i_NewMachine) (c_i_Machine_step : C_i_Machine_step) (c_i_copyMachine : C_i_copyMachine) (c_i_BuildGraph_1 : C_i_BuildGraph_1) (n : Nat) (t : T_i_running__i_BuildGraph_1_L0) : R_i_running__i_BuildGraph_1 :=
  lfix n (fun again t => B_i_running__i_BuildGraph_1_L0b k c_i_NewMachine c_i_Machine_step c_i_copyMachine c_i_BuildGraph_1 again t.1 t.2.2.1.2.2.2.1 t.2.2.2.1.1 t.2.2.2.1.2.1 t.2.2.2.1.2.2.1 t.2.2.2.1.2.2.2.1 t.2.2.2.2.1 t.2.2.2.2.2.1 t.2.2.2.2.2.2.1) t
def B_i_running__i_BuildGraph_1 (k : Nat) (c_i_NewMachine : C_i_NewMachine) (c_i_Machine_step : C_i_Machine_step) (c_i_copyMachine : C_i_copyMachine) (c_i_BuildGraph_1 : C_i_BuildGraph_1) (ops : List (Int × Int)) : R_i_running__i_BuildGraph_1 :=
  (c_i_NewMachine 0).bind fun r9 =>
  B_i_running__i_BuildGraph_1_L0 k c_i_NewMachine c_i_Machine_step c_i_copyMachine c_i_BuildGraph_1 k (ops, (), ((), (), (), false, ()), (r9.1.1.1, [], r9.1.1.2.2.1, r9.1.1.2.2.2.1, ()), ops, len ops, 0, ())
def F_i_running__i_BuildGraph_1 : Nat → C_i_running__i_BuildGraph_1
  | 0, _ => none
  | k + 1, ops => B_i_running__i_BuildGraph_1 k (F_i_NewMachine k) (F_i_Machine_step k) (F_i_copyMachine k) (F_i_BuildGraph_1 k) ops
theorem tot_i_running__i_BuildGraph_1 {ops : _} {Q : _ → Prop} (h : Tot (fun σ => B_i_running__i_BuildGraph_1 (σ 0) (F_i_NewMachine (σ 0)) (F_i_Machine_step (σ 0)) (F_i_copyMachine (σ 0)) (F_i_BuildGraph_1 (σ 0)) ops) Q) : Tot (fun σ => F_i_running__i_BuildGraph_1 (σ 0) ops) Q :=
  Tot.call (F := fun k => F_i_running__i_BuildGraph_1 k ops) (B := fun k => B_i_running__i_BuildGraph_1 k (F_i_NewMachine k) (F_i_Machine_step k) (F_i_copyMachine k) (F_i_BuildGraph_1 k) ops) (fun k => rfl) h
abbrev A_i_running__i_BuildGraph_1_L0 (Z : Type) : Type := (List (Int × Int)) → Bool → (List (Int × Int × List Int)) → List Int → List Int → Bool → (List (Int × Int)) → Int → Int → Z
abbrev u_i_running__i_BuildGraph_1_L0 {Z : Type} (f : A_i_running__i_BuildGraph_1_L0 Z) (t : T_i_running__i_BuildGraph_1_L0) : Z := f t.1 t.2.2.1.2.2.2.1 t.2.2.2.1.1 t.2.2.2.1.2.1 t.2.2.2.1.2.2.1 t.2.2.2.1.2.2.2.1 t.2.2.2.2.1 t.2.2.2.2.2.1 t.2.2.2.2.2.2.1
theorem loop_i_running__i_BuildGraph_1_L0 {Q : A_i_running__i_BuildGraph_1_L0 (((((List (Int × Int × List Int)) × List Int × List Int × Bool × Unit) × Int × Unit) × (Unit)) → Prop)} (I : A_i_running__i_BuildGraph_1_L0 Prop) (μ : A_i_running__i_BuildGraph_1_L0 Nat)
    (step : ∀ a0 a1 a2 a3 a4 a5 a6 a7 a8, I a0 a1 a2 a3 a4 a5 a6 a7 a8 → ∀ again : (Nat → Nat) → T_i_running__i_BuildGraph_1_L0 → R_i_running__i_BuildGraph_1, Dep 2 again → (∀ y0 y1 y2 y3 y4 y5 y6 y7 y8, I y0 y1 y2 y3 y4 y5 y6 y7 y8 → μ y0 y1 y2 y3 y4 y5 y6 y7 y8 < μ a0 a1 a2 a3 a4 a5 a6 a7 a8 → Tot (fun σ => again σ (y0, (), ((), (), (), y1, ()), (y2, y3, y4, y5, ()), y6, y7, y8, ())) (Q y0 y1 y2 y3 y4 y5 y6 y7 y8)) →
      Tot (fun σ => B_i_running__i_BuildGraph_1_L0b (σ 0) (F_i_NewMachine (σ 0)) (F_i_Machine_step (σ 0)) (F_i_copyMachine (σ 0)) (F_i_BuildGraph_1 (σ 0)) (again σ) a0 a1 a2 a3 a4 a5 a6 a7 a8) (Q a0 a1 a2 a3 a4 a5 a6 a7 a8)) :
    ∀ a0 a1 a2 a3 a4 a5 a6 a7 a8, I a0 a1 a2 a3 a4 a5 a6 a7 a8 → Tot (fun σ => B_i_running__i_BuildGraph_1_L0 (σ 0) (F_i_NewMachine (σ 0)) (F_i_Machine_step (σ 0)) (F_i_copyMachine (σ 0)) (F_i_BuildGraph_1 (σ 0)) (σ 0) (a0, (), ((), (), (), a1, ()), (a2, a3, a4, a5, ()), a6, a7, a8, ())) (Q a0 a1 a2 a3 a4 a5 a6 a7 a8) := fun a0 a1 a2 a3 a4 a5 a6 a7 a8 => Tot.loop0 (L := fun k => B_i_running__i_BuildGraph_1_L0 k (F_i_NewMachine k) (F_i_Machine_step k) (F_i_copyMachine k) (F_i_BuildGraph_1 k)) (B := fun k g => u_i_running__i_BuildGraph_1_L0 (B_i_running__i_BuildGraph_1_L0b k (F_i_NewMachine k) (F_i_Machine_step k) (F_i_copyMachine k) (F_i_BuildGraph_1 k) g)) (Q := u_i_running__i_BuildGraph_1_L0 Q) (fun _ _ _ => rfl) (u_i_running__i_BuildGraph_1_L0 I) (u_i_running__i_BuildGraph_1_L0 μ)
    (fun t ht again hag h => step t.1 t.2.2.1.2.2.2.1 t.2.2.2.1.1 t.2.2.2.1.2.1 t.2.2.2.1.2.2.1 t.2.2.2.1.2.2.2.1 t.2.2.2.2.1 t.2.2.2.2.2.1 t.2.2.2.2.2.2.1 ht again hag fun y0 y1 y2 y3 y4 y5 y6 y7 y8 => h (y0, (), ((), (), (), y1, ()), (y2, y3, y4, y5, ()), y6, y7, y8, ())) (a0, (), ((), (), (), a1, ()), (a2, a3, a4, a5, ()), a6, a7, a8, ())
abbrev R_i_BuildGraph : Type := Option ((((List (Int × Int × List Int)) × Int × Unit) × Bool × Unit) × (Unit))
abbrev C_i_BuildGraph : Type := (List (Int × Int)) → R_i_BuildGraph
def B_i_BuildGraph_J0 (k : Nat) (c_i_ValidOps : C_i_ValidOps) (c_i_running__i_BuildGraph_1 : C_i_running__i_BuildGraph_1) (t2_Root : Int) (m_Nodes : List (Int × Int × List Int)) (m_Stack m_Memo : List Int) (m_Done t23 : Bool) : R_i_BuildGraph :=
  bif t23 then
    some ((([], 0, ()), false, ()), ())
  else
    chk (inb 0 m_Stack.length) <|
    chk (decide ((0 : Int).toNat < m_Stack.length)) <|
    some (((m_Nodes, (m_Stack.getD ((0 : Int).toNat) (0 : Int)), ()), true, ()), ())
def B_i_BuildGraph (k : Nat) (c_i_ValidOps : C_i_ValidOps) (c_i_running__i_BuildGraph_1 : C_i_running__i_BuildGraph_1) (ops : List (Int × Int)) : R_i_BuildGraph :=
  (c_i_ValidOps ops).bind fun r7 =>
  bif (!r7.1.1) then
    some ((([], 0, ()), false, ()), ())
  else
    (c_i_running__i_BuildGraph_1 ops).bind fun r12 =>
    bif decide (r12.1.2.1 < (len ops)) then
      jn (fun t => B_i_BuildGraph_J0 k c_i_ValidOps c_i_running__i_BuildGraph_1 t.1.2.1 t.2.1.1 t.2.1.2.1 t.2.1.2.2.1 t.2.1.2.2.2.1 t.2.2.1) (((), 0, ()), (r12.1.1.1, r12.1.1.2.1, r12.1.1.2.2.1, r12.1.1.2.2.2.1, ()), true, ())
    else
      jn (fun t => B_i_BuildGraph_J0 k c_i_ValidOps c_i_running__i_BuildGraph_1 t.1.2.1 t.2.1.1 t.2.1.2.1 t.2.1.2.2.1 t.2.1.2.2.2.1 t.2.2.1) (((), 0, ()), (r12.1.1.1, r12.1.1.2.1, r12.1.1.2.2.1, r12.1.1.2.2.2.1, ()), (!r12.1.1.2.2.2.1), ())
def F_i_BuildGraph : Nat → C_i_BuildGraph
  | 0, _ => none
  | k + 1, ops => B_i_BuildGraph k (F_i_ValidOps k) (F_i_running__i_BuildGraph_1 k) ops
theorem tot_i_BuildGraph {ops : _} {Q : _ → Prop} (h : Tot (fun σ => B_i_BuildGraph (σ 0) (F_i_ValidOps (σ 0)) (F_i_running__i_BuildGraph_1 (σ 0)) ops) Q) : Tot (fun σ => F_i_BuildGraph (σ 0) ops) Q :=
  Tot.call (F := fun k => F_i_BuildGraph k ops) (B := fun k => B_i_BuildGraph k (F_i_ValidOps k) (F_i_running__i_BuildGraph_1 k) ops) (fun k => rfl) h
abbrev R_l_ascends : Type := Option ((Bool × Unit) × (Unit))
abbrev C_l_ascends : Type := List Int → R_l_ascends
abbrev T_l_ascends_L0 : Type := List Int × Int × Unit
def B_l_ascends_L0b (k : Nat) (again0 : T_l_ascends_L0 → R_l_ascends) (list : List Int) (i : Int) : R_l_ascends :=
  bif decide (i < (len list)) then
    chk (inb i list.length) <|
    chk (inb (w64 (i - 1)) list.length) <|
    bif decide ((rdx (0 : Int) list i) ≤ (rdx (0 : Int) list (w64 (i - 1)))) then
      some ((false, ()), ())
    else
      again0 (list, w64 (i + 1), ())
  else
    some ((true, ()), ())
def B_l_ascends_L0 (k : Nat) (n : Nat) (t : T_l_ascends_L0) : R_l_ascends :=
  lfix n (fun again t => B_l_ascends_L0b k again t.1 t.2.1) t
def B_l_ascends (k : Nat) (list : List Int) : R_l_ascends :=
  B_l_ascends_L0 k k (list, 1, ())
def F_l_ascends : Nat → C_l_ascends
  | 0, _ => none
  | k + 1, list => B_l_ascends k list
theorem tot_l_ascends {list : _} {Q : _ → Prop} (h : Tot (fun σ => B_l_ascends (σ 0) list) Q) : Tot (fun σ => F_l_ascends (σ 0) list) Q :=
  Tot.call (F := fun k => F_l_ascends k list) (B := fun k => B_l_ascends k list) (fun k => rfl) h
abbrev A_l_ascends_L0 (Z : Type) : Type := List Int → Int → Z
abbrev u_l_ascends_L0 {Z : Type} (f : A_l_ascends_L0 Z) (t : T_l_ascends_L0) : Z := f t.1 t.2.1
theorem loop_l_ascends_L0 {Q : A_l_ascends_L0 (((Bool × Unit) × (Unit)) → Prop)} (I : A_l_ascends_L0 Prop) (μ : A_l_ascends_L0 Nat)
    (step : ∀ a0 a1, I a0 a1 → ∀ again : (Nat → Nat) → T_l_ascends_L0 → R_l_ascends, Dep 2 again → (∀ y0 y1, I y0 y1 → μ y0 y1 < μ a0 a1 → Tot (fun σ => again σ (y0, y1, ())) (Q y0 y1)) →
      Tot (fun σ => B_l_ascends_L0b (σ 0) (again σ) a0 a1) (Q a0 a1)) :
    ∀ a0 a1, I a0 a1 → Tot (fun σ => B_l_ascends_L0 (σ 0) (σ 0) (a0, a1, ())) (Q a0 a1) := fun a0 a1 => Tot.loop0 (L := fun k => B_l_ascends_L0 k) (B := fun k g => u_l_ascends_L0 (B_l_ascends_L0b k g)) (Q := u_l_ascends_L0 Q) (fun _ _ _ => rfl) (u_l_ascends_L0 I) (u_l_ascends_L0 μ)
    (fun t ht again hag h => step t.1 t.2.1 ht again hag fun y0 y1 => h (y0, y1, ())) (a0, a1, ())
abbrev R_l_countOf : Type := Option ((Int × Unit) × (Unit))
abbrev C_l_countOf : Type := (List (Int × Int)) → Int → R_l_countOf
abbrev T_l_countOf_L1 : Type := (List (Int × Int)) × Int × Int × Int × Unit
def B_l_countOf_J0 (k : Nat) (again1 : T_l_countOf_L1 → R_l_countOf) (ops : List (Int × Int)) (c n5 i : Int) : R_l_countOf :=
  again1 (ops, c, n5, w64 (i + 1), ())
def B_l_countOf_L1b (k : Nat) (again1 : T_l_countOf_L1 → R_l_countOf) (ops : List (Int × Int)) (c n5 i : Int) : R_l_countOf :=
  bif decide (i < (len ops)) then
    chk (inb i ops.length) <|
    bif (((rdx ((0 : Int), (0 : Int)) ops i).1) == c) then
      jn (fun t => B_l_countOf_J0 k again1 t.1 t.2.1 t.2.2.1 t.2.2.2.1) (ops, c, w64 (n5 + 1), i, ())
    else
      jn (fun t => B_l_countOf_J0 k again1 t.1 t.2.1 t.2.2.1 t.2.2.2.1) (ops, c, n5, i, ())
  else
    some ((n5, ()), ())
def B_l_countOf_L1 (k : Nat) (n : Nat) (t : T_l_countOf_L1) : R_l_countOf :=
  lfix n (fun again t => B_l_countOf_L1b k again t.1 t.2.1 t.2.2.1 t.2.2.2.1) t
def B_l_countOf (k : Nat) (ops : List (Int × Int)) (c : Int) : R_l_countOf :=
  B_l_countOf_L1 k k (ops, c, 0, 0, ())
def F_l_countOf : Nat → C_l_countOf
  | 0, _, _ => none
  | k + 1, ops, c => B_l_countOf k ops c
theorem tot_l_countOf {ops c : _} {Q : _ → Prop} (h : Tot (fun σ => B_l_countOf (σ 0) ops c) Q) : Tot (fun σ => F_l_countOf (σ 0) ops c) Q :=
  Tot.call (F := fun k => F_l_countOf k ops c) (B := fun k => B_l_countOf k ops c) (fun k => rfl) h
abbrev A_l_countOf_L1 (Z : Type) : Type := (List (Int × Int)) → Int → Int → Int → Z
abbrev u_l_countOf_L1 {Z : Type} (f : A_l_countOf_L1 Z) (t : T_l_countOf_L1) : Z := f t.1 t.2.1 t.2.2.1 t.2.2.2.1
theorem loop_l_countOf_L1 {Q : A_l_countOf_L1 (((Int × Unit) × (Unit)) → Prop)} (I : A_l_countOf_L1 Prop) (μ : A_l_countOf_L1 Nat)
    (step : ∀ a0 a1 a2 a3, I a0 a1 a2 a3 → ∀ again : (Nat → Nat) → T_l_countOf_L1 → R_l_countOf, Dep 2 again → (∀ y0 y1 y2 y3, I y0 y1 y2 y3 → μ y0 y1 y2 y3 < μ a0 a1 a2 a3 → Tot (fun σ => again σ (y0, y1, y2, y3, ())) (Q y0 y1 y2 y3)) →
      Tot (fun σ => B_l_countOf_L1b (σ 0) (again σ) a0 a1 a2 a3) (Q a0 a1 a2 a3)) :
    ∀ a0 a1 a2 a3, I a0 a1 a2 a3 → Tot (fun σ => B_l_countOf_L1 (σ 0) (σ 0) (a0, a1, a2, a3, ())) (Q a0 a1 a2 a3) := fun a0 a1 a2 a3 => Tot.loop0 (L := fun k => B_l_countOf_L1 k) (B := fun k g => u_l_countOf_L1 (B_l_countOf_L1b k g)) (Q := u_l_countOf_L1 Q) (fun _ _ _ => rfl) (u_l_countOf_L1 I) (u_l_countOf_L1 μ)
    (fun t ht again hag h => step t.1 t.2.1 t.2.2.1 t.2.2.2.1 ht again hag fun y0 y1 y2 y3 => h (y0, y1, y2, y3, ())) (a0, a1, a2, a3, ())
abbrev R_l_FnClassesIn : Type := Option ((Bool × Unit) × (Unit))
abbrev C_l_FnClassesIn : Type := List Int → R_l_FnClassesIn
abbrev T_l_FnClassesIn_L5 : Type := (List (Int × Int)) × List Int × ((List (Int × Int × List Int)) × Int × Unit) × Bool × Int × Unit
abbrev T_l_FnClassesIn_L2 : Type := (List (Int × Int)) × List Int × Int × Unit
def B_l_FnClassesIn_J1 (k : Nat) (c_s_DrawClassesIn : C_s_DrawClassesIn) (c_i_ClassesIn : C_i_ClassesIn) (c_s_ClassesIn : C_s_ClassesIn) (c_l_equalInts : C_l_equalInts) (c_i_ValidOps : C_i_ValidOps) (c_l_isIn : C_l_isIn) (c_i_BuildGraph : C_i_BuildGraph) (c_l_ascends : C_l_ascends) (c_l_countOf : C_l_countOf) (again2 : T_l_FnClassesIn_L2 → R_l_FnClassesIn) (ops : List (Int × Int)) (out : List Int) (i : Int) (t51 : Bool) : R_l_FnClassesIn :=
  bif t51 then
    some ((false, ()), ())
  else
    again2 (ops, out, w64 (i + 1), ())
def B_l_FnClassesIn_J4 (k : Nat) (c_s_DrawClassesIn : C_s_DrawClassesIn) (c_i_ClassesIn : C_i_ClassesIn) (c_s_ClassesIn : C_s_ClassesIn) (c_l_equalInts : C_l_equalInts) (c_i_ValidOps : C_i_ValidOps) (c_l_isIn : C_l_isIn) (c_i_BuildGraph : C_i_BuildGraph) (c_l_ascends : C_l_ascends) (c_l_countOf : C_l_countOf) (again5 : T_l_FnClassesIn_L5 → R_l_FnClassesIn) (ops : List (Int × Int)) (out : List Int) (g_Nodes : List (Int × Int × List Int)) (g_Root : Int) (fine : Bool) (i : Int) (t84 : Bool) : R_l_FnClassesIn :=
  bif t84 then
    some ((false, ()), ())
  else
    again5 (ops, out, (g_Nodes, g_Root, ()), fine, w64 (i + 1), ())
def B_l_FnClassesIn_J3 (k : Nat) (c_s_DrawClassesIn : C_s_DrawClassesIn) (c_i_ClassesIn : C_i_ClassesIn) (c_s_ClassesIn : C_s_ClassesIn) (c_l_equalInts : C_l_equalInts) (c_i_ValidOps : C_i_ValidOps) (c_l_isIn : C_l_isIn) (c_i_BuildGraph : C_i_BuildGraph) (c_l_ascends : C_l_ascends) (c_l_countOf : C_l_countOf) (again5 : T_l_FnClassesIn_L5 → R_l_FnClassesIn) (ops : List (Int × Int)) (out : List Int) (g_Nodes : List (Int × Int × List Int)) (g_Root : Int) (fine : Bool) (i : Int) (t64 : Bool) : R_l_FnClassesIn :=
  bif t64 then
    chk (inb i g_Nodes.length) <|
    chk (decide (i.toNat < g_Nodes.length)) <|
    bif (((g_Nodes.getD i.toNat ((0 : Int), ((0 : Int), ([] : List Int)))).1) == 5) then
      chk (inb i g_Nodes.length) <|
      chk (decide (i.toNat < g_Nodes.length)) <|
      (c_l_isIn out (((g_Nodes.getD i.toNat ((0 : Int), ((0 : Int), ([] : List Int)))).2).1)).bind fun r82 =>
      jn (fun t => B_l_FnClassesIn_J4 k c_s_DrawClassesIn c_i_ClassesIn c_s_ClassesIn c_l_equalInts c_i_ValidOps c_l_isIn c_i_BuildGraph c_l_ascends c_l_countOf again5 t.1 t.2.1 t.2.2.1.1 t.2.2.1.2.1 t.2.2.2.1 t.2.2.2.2.1 t.2.2.2.2.2.1) (ops, out, (g_Nodes, g_Root, ()), fine, i, (!r82.1.1), ())
    else
      jn (fun t => B_l_FnClassesIn_J4 k c_s_DrawClassesIn c_i_ClassesIn c_s_ClassesIn c_l_equalInts c_i_ValidOps c_l_isIn c_i_BuildGraph c_l_ascends c_l_countOf again5 t.1 t.2.1 t.2.2.1.1 t.2.2.1.2.1 t.2.2.2.1 t.2.2.2.2.1 t.2.2.2.2.2.1) (ops, out, (g_Nodes, g_Root, ()), fine, i, false, ())
  else
    (c_l_ascends out).bind fun r86 =>
    bif r86.1.1 then
      (c_l_countOf ops 13).bind fun r92 =>
      some ((((decide ((len out) > 0)) == (decide (r92.1.1 > 0))), ()), ())
    else
      some ((false, ()), ())
def B_l_FnClassesIn_L5b (k : Nat) (c_s_DrawClassesIn : C_s_DrawClassesIn) (c_i_ClassesIn : C_i_ClassesIn) (c_s_ClassesIn : C_s_ClassesIn) (c_l_equalInts : C_l_equalInts) (c_i_ValidOps : C_i_ValidOps) (c_l_isIn : C_l_isIn) (c_i_BuildGraph : C_i_BuildGraph) (c_l_ascends : C_l_ascends) (c_l_countOf : C_l_countOf) (again5 : T_l_FnClassesIn_L5 → R_l_FnClassesIn) (ops : List (Int × Int)) (out : List Int) (g_Nodes : List (Int × Int × List Int)) (g_Root : Int) (fine : Bool) (i : Int) : R_l_FnClassesIn :=
  bif decide (i < (len g_Nodes)) then
    jn (fun t => B_l_FnClassesIn_J3 k c_s_DrawClassesIn c_i_ClassesIn c_s_ClassesIn c_l_equalInts c_i_ValidOps c_l_isIn c_i_BuildGraph c_l_ascends c_l_countOf again5 t.1 t.2.1 t.2.2.1.1 t.2.2.1.2.1 t.2.2.2.1 t.2.2.2.2.1 t.2.2.2.2.2.1) (ops, out, (g_Nodes, g_Root, ()), fine, i, fine, ())
  else
    jn (fun t => B_l_FnClassesIn_J3 k c_s_DrawClassesIn c_i_ClassesIn c_s_ClassesIn c_l_equalInts c_i_ValidOps c_l_isIn c_i_BuildGraph c_l_ascends c_l_countOf again5 t.1 t.2.1 t.2.2.1.1 t.2.2.1.2.1 t.2.2.2.1 t.2.2.2.2.1 t.2.2.2.2.2.1) (ops, out, (g_Nodes, g_Root, ()), fine, i, false, ())
def B_l_FnClassesIn_L5 (k : Nat) (c_s_DrawClassesIn : C_s_DrawClassesIn) (c_i_ClassesIn : C_i_ClassesIn) (c_s_ClassesIn : C_s_ClassesIn) (c_l_equalInts : C_l_equalInts) (c_i_ValidOps : C_i_ValidOps) (c_l_isIn : C_l_isIn) (c_i_BuildGraph : C_i_BuildGraph) (c_l_ascends : C_l_ascends) (c_l_countOf : C_l_countOf) (n : Nat) (t : T_l_FnClassesIn_L5) : R_l_FnClassesIn :=
  lfix n (fun again t => B_l_FnClassesIn_L5b k c_s_DrawClassesIn c_i_ClassesIn c_s_ClassesIn c_l_equalInts c_i_ValidOps c_l_isIn c_i_BuildGraph c_l_ascends c_l_countOf again t.1 t.2.1 t.2.2.1.1 t.2.2.1.2.1 t.2.2.2.1 t.2.2.2.2.1) t
def B_l_FnClassesIn_L2b (k : Nat) (c_s_DrawClassesIn : C_s_DrawClassesIn) (c_i_ClassesIn : C_i_ClassesIn) (c_s_ClassesIn : C_s_ClassesIn) (c_l_equalInts : C_l_equalInts) (c_i_ValidOps : C_i_ValidOps) (c_l_isIn : C_l_isIn) (c_i_BuildGraph : C_i_BuildGraph) (c_l_ascends : C_l_ascends) (c_l_countOf : C_l_countOf) (again2 : T_l_FnClassesIn_L2 → R_l_FnClassesIn) (ops : List (Int × Int)) (out : List Int) (i : Int) : R_l_FnClassesIn :=
  bif decide (i < (len ops)) then
    chk (inb i ops.length) <|
    bif (((rdx ((0 : Int), (0 : Int)) ops i).1) == 13) then
      chk (inb i ops.length) <|
      (c_l_isIn out ((rdx ((0 : Int), (0 : Int)) ops i).2)).bind fun r49 =>
      jn (fun t => B_l_FnClassesIn_J1 k c_s_DrawClassesIn c_i_ClassesIn c_s_ClassesIn c_l_equalInts c_i_ValidOps c_l_isIn c_i_BuildGraph c_l_ascends c_l_countOf again2 t.1 t.2.1 t.2.2.1 t.2.2.2.1) (ops, out, i, (!r49.1.1), ())
    else
      jn (fun t => B_l_FnClassesIn_J1 k c_s_DrawClassesIn c_i_ClassesIn c_s_ClassesIn c_l_equalInts c_i_ValidOps c_l_isIn c_i_BuildGraph c_l_ascends c_l_countOf again2 t.1 t.2.1 t.2.2.1 t.2.2.2.1) (ops, out, i, false, ())
  else
    (c_i_BuildGraph ops).bind fun r54 =>
    B_l_FnClassesIn_L5 k c_s_DrawClassesIn c_i_ClassesIn c_s_ClassesIn c_l_equalInts c_i_ValidOps c_l_isIn c_i_BuildGraph c_l_ascends c_l_countOf k (ops, out, (r54.1.1.1, r54.1.1.2.1, ()), r54.1.2.1, 0, ())
def B_l_FnClassesIn_L2 (k : Nat) (c_s_DrawClassesIn : C_s_DrawClassesIn) (c_i_ClassesIn : C_i_ClassesIn) (c_s_ClassesIn : C_s_ClassesIn) (c_l_equalInts : C_l_equalInts) (c_i_ValidOps : C_i_ValidOps) (c_l_isIn : C_l_isIn) (c_i_BuildGraph : C_i_BuildGraph) (c_l_ascends : C_l_ascends) (c_l_countOf : C_l_countOf) (n : Nat) (t : T_l_FnClassesIn_L2) : R_l_FnClassesIn :=
  lfix n (fun again t => B_l_FnClassesIn_L2b k c_s_DrawClassesIn c_i_ClassesIn c_s_ClassesIn c_l_equalInts c_i_ValidOps c_l_isIn c_i_BuildGraph c_l_ascends c_l_countOf again t.1 t.2.1 t.2.2.1) t
def B_l_FnClassesIn_J0 (k : Nat) (c_s_DrawClassesIn : C_s_DrawClassesIn) (c_i_ClassesIn : C_i_ClassesIn) (c_s_ClassesIn : C_s_ClassesIn) (c_l_equalInts : C_l_equalInts) (c_i_ValidOps : C_i_ValidOps) (c_l_isIn : C_l_isIn) (c_i_BuildGraph : C_i_BuildGraph) (c_l_ascends : C_l_ascends) (c_l_countOf : C_l_countOf) (ops : List (Int × Int)) (out : List Int) (t25 : Bool) : R_l_FnClassesIn :=
  bif t25 then
    (c_s_ClassesIn ops).bind fun r28 =>
    (c_l_equalInts out r28.1.1).bind fun r29 =>
    some ((r29.1.1, ()), ())
  else
    B_l_FnClassesIn_L2 k c_s_DrawClassesIn c_i_ClassesIn c_s_ClassesIn c_l_equalInts c_i_ValidOps c_l_isIn c_i_BuildGraph c_l_ascends c_l_countOf k (ops, out, 0, ())
def B_l_FnClassesIn (k : Nat) (c_s_DrawClassesIn : C_s_DrawClassesIn) (c_i_ClassesIn : C_i_ClassesIn) (c_s_ClassesIn : C_s_ClassesIn) (c_l_equalInts : C_l_equalInts) (c_i_ValidOps : C_i_ValidOps) (c_l_isIn : C_l_isIn) (c_i_BuildGraph : C_i_BuildGraph) (c_l_ascends : C_l_ascends) (c_l_countOf : C_l_countOf) (code : List Int) : R_l_FnClassesIn :=
  bif decide ((len code) > 1048576) then
    some ((true, ()), ())
  else
    (c_s_DrawClassesIn code).bind fun r13 =>
    (c_i_ClassesIn r13.1.1).bind fun r15 =>
    (c_s_ClassesIn r13.1.1).bind fun r18 =>
    (c_l_equalInts r15.1.1 r18.1.1).bind fun r19 =>
    bif (!r19.1.1) then
      jn (fun t => B_l_FnClassesIn_J0 k c_s_DrawClassesIn c_i_ClassesIn c_s_ClassesIn c_l_equalInts c_i_ValidOps c_l_isIn c_i_BuildGraph c_l_ascends c_l_countOf t.1 t.2.1 t.2.2.1) (r13.1.1, r15.1.1, true, ())
    else
      (c_i_ValidOps r13.1.1).bind fun r23 =>
      jn (fun t => B_l_FnClassesIn_J0 k c_s_DrawClassesIn c_i_ClassesIn c_s_ClassesIn c_l_equalInts c_i_ValidOps c_l_isIn c_i_BuildGraph c_l_ascends c_l_countOf t.1 t.2.1 t.2.2.1) (r13.1.1, r15.1.1, (!r23.1.1), ())
def F_l_FnClassesIn : Nat → C_l_FnClassesIn
  | 0, _ => none
  | k + 1, code => B_l_FnClassesIn k (F_s_DrawClassesIn k) (F_i_ClassesIn k) (F_s_ClassesIn k) (F_l_equalInts k) (F_i_ValidOps k) (F_l_isIn k) (F_i_BuildGraph k) (F_l_ascends k) (F_l_countOf k) code
theorem tot_l_FnClassesIn {code : _} {Q : _ → Prop} (h : Tot (fun σ => B_l_FnClassesIn (σ 0) (F_s_DrawClassesIn (σ 0)) (F_i_ClassesIn (σ 0)) (F_s_ClassesIn (σ 0)) (F_l_equalInts (σ 0)) (F_i_ValidOps (σ 0)) (F_l_isIn (σ 0)) (F_i_BuildGraph (σ 0)) (F_l_ascends (σ 0)) (F_l_countOf (σ 0)) code) Q) : Tot (fun σ => F_l_FnClassesIn (σ 0) code) Q :=
  Tot.call (F := fun k => F_l_FnClassesIn k code) (B := fun k => B_l_FnClassesIn k (F_s_DrawClassesIn k) (F_i_ClassesIn k) (F_s_ClassesIn k) (F_l_equalInts k) (F_i_ValidOps k) (F_l_isIn k) (F_i_BuildGraph k) (F_l_ascends k) (F_l_countOf k) code) (fun k => rfl) h
abbrev A_l_FnClassesIn_L5 (Z : Type) : Type := (List (Int × Int)) → List Int → (List (Int × Int × List Int)) → Int → Bool → Int → Z
abbrev u_l_FnClassesIn_L5 {Z : Type} (f : A_l_FnClassesIn_L5 Z) (t : T_l_FnClassesIn_L5) : Z := f t.1 t.2.1 t.2.2.1.1 t.2.2.1.2.1 t.2.2.2.1 t.2.2.2.2.1
theorem loop_l_FnClassesIn_L5 {Q : A_l_FnClassesIn_L5 (((Bool × Unit) × (Unit)) → Prop)} (I : A_l_FnClassesIn_L5 Prop) (μ : A_l_FnClassesIn_L5 Nat)
    (step : ∀ a0 a1 a2 a3 a4 a5, I a0 a1 a2 a3 a4 a5 → ∀ again : (Nat → Nat) → T_l_FnClassesIn_L5 → R_l_FnClassesIn, Dep 2 again → (∀ y0 y1 y2 y3 y4 y5, I y0 y1 y2 y3 y4 y5 → μ y0 y1 y2 y3 y4 y5 < μ a0 a1 a2 a3 a4 a5 → Tot (fun σ => again σ (y0, y1, (y2, y3, ()), y4, y5, ())) (Q y0 y1 y2 y3 y4 y5)) →
      Tot (fun σ => B_l_FnClassesIn_L5b (σ 0) (F_s_DrawClassesIn (σ 0)) (F_i_ClassesIn (σ 0)) (F_s_ClassesIn (σ 0)) (F_l_equalInts (σ 0)) (F_i_ValidOps (σ 0)) (F_l_isIn (σ 0)) (F_i_BuildGraph (σ 0)) (F_l_ascends (σ 0)) (F_l_countOf (σ 0)) (again σ) a0 a1 a2 a3 a4 a5) (Q a0 a1 a2 a3 a4 a5)) :
    ∀ a0 a1 a2 a3 a4 a5, I a0 a1 a2 a3 a4 a5 → Tot (fun σ => B_l_FnClassesIn_L5 (σ 0) (F_s_DrawClassesIn (σ 0)) (F_i_ClassesIn (σ 0)) (F_s_ClassesIn (σ 0)) (F_l_equalInts (σ 0)) (F_i_ValidOps (σ 0)) (F_l_isIn (σ 0)) (F_i_BuildGraph (σ 0)) (F_l_ascends (σ 0)) (F_l_countOf (σ 0)) (σ 0) (a0, a1, (a2, a3, ()), a4, a5, ())) (Q a0 a1 a2 a3 a4 a5) := fun a0 a1 a2 a3 a4 a5 => Tot.loop0 (L := fun k => B_l_FnClassesIn_L5 k (F_s_DrawClassesIn k) (F_i_ClassesIn k) (F_s_ClassesIn k) (F_l_equalInts k) (F_i_ValidOps k) (F_l_isIn k) (F_i_BuildGraph k) (F_l_ascends k) (F_l_countOf k)) (B := fun k g => u_l_FnClassesIn_L5 (B_l_FnClassesIn_L5b k (F_s_DrawClassesIn k) (F_i_ClassesIn k) (F_s_ClassesIn k) (F_l_equalInts k) (F_i_ValidOps k) (F_l_isIn k) (F_i_BuildGraph k) (F_l_ascends k) (F_l_countOf k) g)) (Q := u_l_FnClassesIn_L5 Q) (fun _ _ _ => rfl) (u_l_FnClassesIn_L5 I) (u_l_FnClassesIn_L5 μ)
    (fun t ht again hag h => step t.1 t.2.1 t.2.2.1.1 t.2.2.1.2.1 t.2.2.2.1 t.2.2.2.2.1 ht again hag fun y0 y1 y2 y3 y4 y5 => h (y0, y1, (y2, y3, ()), y4, y5, ())) (a0, a1, (a2, a3, ()), a4, a5, ())
abbrev A_l_FnClassesIn_L2 (Z : Type) : Type := (List (Int × Int)) → List Int → Int → Z
abbrev u_l_FnClassesIn_L2 {Z : Type} (f : A_l_FnClassesIn_L2 Z) (t : T_l_FnClassesIn_L2) : Z := f t.1 t.2.1 t.2.2.1
theorem loop_l_FnClassesIn_L2 {Q : A_l_FnClassesIn_L2 (((Bool × Unit) × (Unit)) → Prop)} (I : A_l_FnClassesIn_L2 Prop) (μ : A_l_FnClassesIn_L2 Nat)
    (step : ∀ a0 a1 a2, I a0 a1 a2 → ∀ again : (Nat → Nat) → T_l_FnClassesIn_L2 → R_l_FnClassesIn, Dep 2 again → (∀ y0 y1 y2, I y0 y1 y2 → μ y0 y1 y2 < μ a0 a1 a2 → Tot (fun σ => again σ (y0, y1, y2, ())) (Q y0 y1 y2)) →
      Tot (fun σ => B_l_FnClassesIn_L2b (σ 0) (F_s_DrawClassesIn (σ 0)) (F_i_ClassesIn (σ 0)) (F_s_ClassesIn (σ 0)) (F_l_equalInts (σ 0)) (F_i_ValidOps (σ 0)) (F_l_isIn (σ 0)) (F_i_BuildGraph (σ 0)) (F_l_ascends (σ 0)) (F_l_countOf (σ 0)) (again σ) a0 a1 a2) (Q a0 a1 a2)) :
    ∀ a0 a1 a2, I a0 a1 a2 → Tot (fun σ => B_l_FnClassesIn_L2 (σ 0) (F_s_DrawClassesIn (σ 0)) (F_i_ClassesIn (σ 0)) (F_s_ClassesIn (σ 0)) (F_l_equalInts (σ 0)) (F_i_ValidOps (σ 0)) (F_l_isIn (σ 0)) (F_i_BuildGraph (σ 0)) (F_l_ascends (σ 0)) (F_l_countOf (σ 0)) (σ 0) (a0, a1, a2, ())) (Q a0 a1 a2) := fun a0 a1 a2 => Tot.loop0 (L := fun k => B_l_FnClassesIn_L2 k (F_s_DrawClassesIn k) (F_i_ClassesIn k) (F_s_ClassesIn k) (F_l_equalInts k) (F_i_ValidOps k) (F_l_isIn k) (F_i_BuildGraph k) (F_l_ascends k) (F_l_countOf k)) (B := fun k g => u_l_FnClassesIn_L2 (B_l_FnClassesIn_L2b k (F_s_DrawClassesIn k) (F_i_ClassesIn k) (F_s_ClassesIn k) (F_l_equalInts k) (F_i_ValidOps k) (F_l_isIn k) (F_i_BuildGraph k) (F_l_ascends k) (F_l_countOf k) g)) (Q := u_l_FnClassesIn_L2 Q) (fun _ _ _ => rfl) (u_l_FnClassesIn_L2 I) (u_l_FnClassesIn_L2 μ)
    (fun t ht again hag h => step t.1 t.2.1 t.2.2.1 ht again hag fun y0 y1 y2 => h (y0, y1, y2, ())) (a0, a1, a2, ())
end Go.Gx

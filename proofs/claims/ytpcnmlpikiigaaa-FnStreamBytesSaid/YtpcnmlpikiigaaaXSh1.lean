/-
  The functions, as Gx tells them (printed by gen.py).
-/
import Derived.Test.YtpcnmlpikiigaaaXGpart4
set_option linter.unusedVariables false
namespace Go.Gx
abbrev R_Z38 : Type := Option (((List Int × Int × Unit) × Unit) × (Unit))
abbrev C_Z38 : Type := List Int → R_Z38
def B_Z38_J0 (k : Nat) (code : List Int) : R_Z38 :=
  some (((code, 0, ()), ()), ())
def B_Z38 (k : Nat) (code : List Int) : R_Z38 :=
  bif decide ((len code) > 2000) then
    chk (cutb 0 2000 code.length) <|
    jn (fun t => B_Z38_J0 k t.1) ((sub code 0 2000), ())
  else
    jn (fun t => B_Z38_J0 k t.1) (code, ())
def F_Z38 : Nat → C_Z38
  | 0, _ => none
  | k + 1, code => B_Z38 k code
theorem tot_Z38 {code : _} {Q : _ → Prop} (h : Tot (fun σ => B_Z38 (σ 0) code) Q) : Tot (fun σ => F_Z38 (σ 0) code) Q :=
  Tot.call (F := fun k => F_Z38 k code) (B := fun k => B_Z38 k code) (fun k => rfl) h
abbrev R_Z10 : Type := Option ((Int × Unit) × ((List Int × Int × Unit) × Unit))
abbrev C_Z10 : Type := List Int → Int → Int → R_Z10
def B_Z10_J0 (k : Nat) (r_b : List Int) (r_p n1 : Int) (t24 : Bool) : R_Z10 :=
  bif t24 then
    some ((0, ()), ((r_b, r_p, ()), ()))
  else
    bif decide ((w64 (r_p - 1)) < (len r_b)) then
      chk (inb (w64 (r_p - 1)) r_b.length) <|
      chk ((n1 != 0)) <|
      some ((((w64 ((rdx (0 : Int) r_b (w64 (r_p - 1))))).tmod n1), ()), ((r_b, r_p, ()), ()))
    else
      chk (((len r_b) != 0)) <|
      chk (inb ((w64 (r_p - 1)).tmod (len r_b)) r_b.length) <|
      chk (((len r_b) != 0)) <|
      chk (inb ((w64 ((w64 ((w64 (r_p - 1)) * 7)) + 3)).tmod (len r_b)) r_b.length) <|
      let v78 : Int := w64 ((w64 ((rdx (0 : Int) r_b ((w64 ((w64 ((w64 (r_p - 1)) * 7)) + 3)).tmod (len r_b))))) * 1117)
      let v82 : Int := w64 ((w64 ((w64 ((w64 ((rdx (0 : Int) r_b ((w64 (r_p - 1)).tmod (len r_b))))) * 131)) + v78)) + (w64 ((w64 (r_p - 1)) * 29)))
      chk (((len r_b) != 0)) <|
      let v95 : Int := xor64 (w64 (v82 + (w64 ((w64 ((w64 (r_p - 1)).tdiv (len r_b))) * 53)))) (w64 ((w64 (v82 + (w64 ((w64 ((w64 (r_p - 1)).tdiv (len r_b))) * 53)))).tdiv 64))
      chk ((n1 != 0)) <|
      some (((v95.tmod n1), ()), ((r_b, r_p, ()), ()))
def B_Z10 (k : Nat) (r_b : List Int) (r_p n1 : Int) : R_Z10 :=
  bif decide (n1 < 1) then
    jn (fun t => B_Z10_J0 k t.1.1 t.1.2.1 t.2.1 t.2.2.1) ((r_b, w64 (r_p + 1), ()), n1, true, ())
  else
    jn (fun t => B_Z10_J0 k t.1.1 t.1.2.1 t.2.1 t.2.2.1) ((r_b, w64 (r_p + 1), ()), n1, ((len r_b) == 0), ())
def F_Z10 : Nat → C_Z10
  | 0, _, _, _ => none
  | k + 1, r_b, r_p, n1 => B_Z10 k r_b r_p n1
theorem tot_Z10 {r_b r_p n1 : _} {Q : _ → Prop} (h : Tot (fun σ => B_Z10 (σ 0) r_b r_p n1) Q) : Tot (fun σ => F_Z10 (σ 0) r_b r_p n1) Q :=
  Tot.call (F := fun k => F_Z10 k r_b r_p n1) (B := fun k => B_Z10 k r_b r_p n1) (fun k => rfl) h
abbrev R_Z14 : Type := Option ((Int × Unit) × ((List Int × Int × Unit) × Unit))
abbrev C_Z14 : Type := List Int → Int → List Int → R_Z14
def B_Z14 (k : Nat) (c_Z10 : C_Z10) (r_b : List Int) (r_p : Int) (list : List Int) : R_Z14 :=
  (c_Z10 r_b r_p (len list)).bind fun r9 =>
  chk (inb r9.1.1 list.length) <|
  some (((rdx (0 : Int) list r9.1.1), ()), ((r9.2.1.1, r9.2.1.2.1, ()), ()))
def F_Z14 : Nat → C_Z14
  | 0, _, _, _ => none
  | k + 1, r_b, r_p, list => B_Z14 k (F_Z10 k) r_b r_p list
theorem tot_Z14 {r_b r_p list : _} {Q : _ → Prop} (h : Tot (fun σ => B_Z14 (σ 0) (F_Z10 (σ 0)) r_b r_p list) Q) : Tot (fun σ => F_Z14 (σ 0) r_b r_p list) Q :=
  Tot.call (F := fun k => F_Z14 k r_b r_p list) (B := fun k => B_Z14 k (F_Z10 k) r_b r_p list) (fun k => rfl) h
abbrev R_Z44 : Type := Option (((Int × Int × Unit × Unit) × Unit) × ((List Int × Int × Unit) × Unit))
abbrev C_Z44 : Type := List Int → Int → R_Z44
def B_Z44_J1 (k : Nat) (c_Z10 : C_Z10) (c_Z14 : C_Z14) (r_b : List Int) (r_p t2_Kind t2_Value t4 : Int) (t22 : Bool) : R_Z44 :=
  bif t22 then
    some (((3, 0, (), ()), ()), ((r_b, r_p, ()), ()))
  else
    bif (t4 == 6) then
      some (((4, 0, (), ()), ()), ((r_b, r_p, ()), ()))
    else
      (c_Z10 r_b r_p 3).bind fun r30 =>
      some (((5, r30.1.1, (), ()), ()), ((r30.2.1.1, r30.2.1.2.1, ()), ()))
def B_Z44_J0 (k : Nat) (c_Z10 : C_Z10) (c_Z14 : C_Z14) (r_b : List Int) (r_p t2_Kind t2_Value t4 : Int) (t18 : Bool) : R_Z44 :=
  bif t18 then
    some (((2, 0, (), ()), ()), ((r_b, r_p, ()), ()))
  else
    bif (t4 == 4) then
      jn (fun t => B_Z44_J1 k c_Z10 c_Z14 t.1.1 t.1.2.1 t.2.1.1 t.2.1.2.1 t.2.2.1 t.2.2.2.1) ((r_b, r_p, ()), (t2_Kind, t2_Value, (), ()), t4, (t4 == 4), ())
    else
      jn (fun t => B_Z44_J1 k c_Z10 c_Z14 t.1.1 t.1.2.1 t.2.1.1 t.2.1.2.1 t.2.2.1 t.2.2.2.1) ((r_b, r_p, ()), (t2_Kind, t2_Value, (), ()), t4, (t4 == 5), ())
def B_Z44 (k : Nat) (c_Z10 : C_Z10) (c_Z14 : C_Z14) (r_b : List Int) (r_p : Int) : R_Z44 :=
  (c_Z10 r_b r_p 8).bind fun r4 =>
  bif (r4.1.1 == 0) then
    (c_Z10 r4.2.1.1 r4.2.1.2.1 250).bind fun r9 =>
    (c_Z14 r9.2.1.1 r9.2.1.2.1 ([5, 127, 128, 999, r9.1.1])).bind fun r11 =>
    some (((0, r11.1.1, (), ()), ()), ((r11.2.1.1, r11.2.1.2.1, ()), ()))
  else
    bif (r4.1.1 == 1) then
      (c_Z10 r4.2.1.1 r4.2.1.2.1 3).bind fun r16 =>
      some (((1, r16.1.1, (), ()), ()), ((r16.2.1.1, r16.2.1.2.1, ()), ()))
    else
      bif (r4.1.1 == 2) then
        jn (fun t => B_Z44_J0 k c_Z10 c_Z14 t.1.1 t.1.2.1 t.2.1.1 t.2.1.2.1 t.2.2.1 t.2.2.2.1) ((r4.2.1.1, r4.2.1.2.1, ()), (0, 0, (), ()), r4.1.1, (r4.1.1 == 2), ())
      else
        jn (fun t => B_Z44_J0 k c_Z10 c_Z14 t.1.1 t.1.2.1 t.2.1.1 t.2.1.2.1 t.2.2.1 t.2.2.2.1) ((r4.2.1.1, r4.2.1.2.1, ()), (0, 0, (), ()), r4.1.1, (r4.1.1 == 3), ())
def F_Z44 : Nat → C_Z44
  | 0, _, _ => none
  | k + 1, r_b, r_p => B_Z44 k (F_Z10 k) (F_Z14 k) r_b r_p
theorem tot_Z44 {r_b r_p : _} {Q : _ → Prop} (h : Tot (fun σ => B_Z44 (σ 0) (F_Z10 (σ 0)) (F_Z14 (σ 0)) r_b r_p) Q) : Tot (fun σ => F_Z44 (σ 0) r_b r_p) Q :=
  Tot.call (F := fun k => F_Z44 k r_b r_p) (B := fun k => B_Z44 k (F_Z10 k) (F_Z14 k) r_b r_p) (fun k => rfl) h
abbrev R_s_isKey : Type := Option ((Bool × Unit) × (Unit))
abbrev C_s_isKey : Type := Int → Int → R_s_isKey
def B_s_isKey (k : Nat) (n_0 n_1 : Int) : R_s_isKey :=
  bif (n_0 == 0) then
    some ((true, ()), ())
  else
    some (((n_0 == 1), ()), ())
def F_s_isKey : Nat → C_s_isKey
  | 0, _, _ => none
  | k + 1, n_0, n_1 => B_s_isKey k n_0 n_1
theorem tot_s_isKey {n_0 n_1 : _} {Q : _ → Prop} (h : Tot (fun σ => B_s_isKey (σ 0) n_0 n_1) Q) : Tot (fun σ => F_s_isKey (σ 0) n_0 n_1) Q :=
  Tot.call (F := fun k => F_s_isKey k n_0 n_1) (B := fun k => B_s_isKey k n_0 n_1) (fun k => rfl) h
abbrev R_Z62 : Type := Option ((Bool × Unit) × (Unit))
abbrev C_Z62 : Type := Int → Int → Int → R_Z62
def B_Z62 (k : Nat) (n0 low high : Int) : R_Z62 :=
  bif decide (low ≤ n0) then
    some ((decide (n0 ≤ high), ()), ())
  else
    some ((false, ()), ())
def F_Z62 : Nat → C_Z62
  | 0, _, _, _ => none
  | k + 1, n0, low, high => B_Z62 k n0 low high
theorem tot_Z62 {n0 low high : _} {Q : _ → Prop} (h : Tot (fun σ => B_Z62 (σ 0) n0 low high) Q) : Tot (fun σ => F_Z62 (σ 0) n0 low high) Q :=
  Tot.call (F := fun k => F_Z62 k n0 low high) (B := fun k => B_Z62 k n0 low high) (fun k => rfl) h
abbrev R_s_allIn : Type := Option ((Bool × Unit) × (Unit))
abbrev C_s_allIn : Type := List Int → Int → Int → R_s_allIn
abbrev T_s_allIn_L0 : Type := List Int × Int × Int × Int × Unit
def B_s_allIn_L0b (k : Nat) (c_Z62 : C_Z62) (again0 : T_s_allIn_L0 → R_s_allIn) (list : List Int) (low high i : Int) : R_s_allIn :=
  bif decide (i < (len list)) then
    chk (inb i list.length) <|
    (c_Z62 (rdx (0 : Int) list i) low high).bind fun r20 =>
    bif (!r20.1.1) then
      some ((false, ()), ())
    else
      again0 (list, low, high, w64 (i + 1), ())
  else
    some ((true, ()), ())
def B_s_allIn_L0 (k : Nat) (c_Z62 : C_Z62) (n : Nat) (t : T_s_allIn_L0) : R_s_allIn :=
  lfix n (fun again t => B_s_allIn_L0b k c_Z62 again t.1 t.2.1 t.2.2.1 t.2.2.2.1) t
def B_s_allIn (k : Nat) (c_Z62 : C_Z62) (list : List Int) (low high : Int) : R_s_allIn :=
  B_s_allIn_L0 k c_Z62 k (list, low, high, 0, ())
def F_s_allIn : Nat → C_s_allIn
  | 0, _, _, _ => none
  | k + 1, list, low, high => B_s_allIn k (F_Z62 k) list low high
theorem tot_s_allIn {list low high : _} {Q : _ → Prop} (h : Tot (fun σ => B_s_allIn (σ 0) (F_Z62 (σ 0)) list low high) Q) : Tot (fun σ => F_s_allIn (σ 0) list low high) Q :=
  Tot.call (F := fun k => F_s_allIn k list low high) (B := fun k => B_s_allIn k (F_Z62 k) list low high) (fun k => rfl) h
abbrev A_s_allIn_L0 (Z : Type) : Type := List Int → Int → Int → Int → Z
abbrev u_s_allIn_L0 {Z : Type} (f : A_s_allIn_L0 Z) (t : T_s_allIn_L0) : Z := f t.1 t.2.1 t.2.2.1 t.2.2.2.1
theorem loop_s_allIn_L0 {Q : A_s_allIn_L0 (((Bool × Unit) × (Unit)) → Prop)} (I : A_s_allIn_L0 Prop) (μ : A_s_allIn_L0 Nat)
    (step : ∀ a0 a1 a2 a3, I a0 a1 a2 a3 → ∀ again : (Nat → Nat) → T_s_allIn_L0 → R_s_allIn, Dep 2 again → (∀ y0 y1 y2 y3, I y0 y1 y2 y3 → μ y0 y1 y2 y3 < μ a0 a1 a2 a3 → Tot (fun σ => again σ (y0, y1, y2, y3, ())) (Q y0 y1 y2 y3)) →
      Tot (fun σ => B_s_allIn_L0b (σ 0) (F_Z62 (σ 0)) (again σ) a0 a1 a2 a3) (Q a0 a1 a2 a3)) :
    ∀ a0 a1 a2 a3, I a0 a1 a2 a3 → Tot (fun σ => B_s_allIn_L0 (σ 0) (F_Z62 (σ 0)) (σ 0) (a0, a1, a2, a3, ())) (Q a0 a1 a2 a3) := fun a0 a1 a2 a3 => Tot.loop0 (L := fun k => B_s_allIn_L0 k (F_Z62 k)) (B := fun k g => u_s_allIn_L0 (B_s_allIn_L0b k (F_Z62 k) g)) (Q := u_s_allIn_L0 Q) (fun _ _ _ => rfl) (u_s_allIn_L0 I) (u_s_allIn_L0 μ)
    (fun t ht again hag h => step t.1 t.2.1 t.2.2.1 t.2.2.2.1 ht again hag fun y0 y1 y2 y3 => h (y0, y1, y2, y3, ())) (a0, a1, a2, a3, ())
abbrev R_Z51 : Type := Option ((Bool × Unit) × (Unit))
abbrev C_Z51 : Type := Int → Int → Int → Int → R_Z51
def B_Z51 (k : Nat) (a_0 a_1 b_0 b_1 : Int) : R_Z51 :=
  bif (a_0 == b_0) then
    some (((a_1 == b_1), ()), ())
  else
    some ((false, ()), ())
def F_Z51 : Nat → C_Z51
  | 0, _, _, _, _ => none
  | k + 1, a_0, a_1, b_0, b_1 => B_Z51 k a_0 a_1 b_0 b_1
theorem tot_Z51 {a_0 a_1 b_0 b_1 : _} {Q : _ → Prop} (h : Tot (fun σ => B_Z51 (σ 0) a_0 a_1 b_0 b_1) Q) : Tot (fun σ => F_Z51 (σ 0) a_0 a_1 b_0 b_1) Q :=
  Tot.call (F := fun k => F_Z51 k a_0 a_1 b_0 b_1) (B := fun k => B_Z51 k a_0 a_1 b_0 b_1) (fun k => rfl) h
abbrev R_Z37 : Type := Option ((Bool × Unit) × (Unit))
abbrev C_Z37 : Type := (List (Int × Int × List Int)) → Int → Int → Int → List Int → R_Z37
abbrev T_Z37_L0 : Type := ((List (Int × Int × List Int)) × Int × Unit) × (Int × Int × List Int × Unit) × Int × Int × Unit
abbrev T_Z37_L1 : Type := ((List (Int × Int × List Int)) × Int × Unit) × (Int × Int × List Int × Unit) × Int × Unit
def B_Z37_L0b (k : Nat) (c_s_isKey : C_s_isKey) (c_Z51 : C_Z51) (again1 : T_Z37_L1 → R_Z37) (again0 : T_Z37_L0 → R_Z37) (g_Nodes : List (Int × Int × List Int)) (g_Root n_Kind n_Value : Int) (n_Kids : List Int) (i k6 : Int) : R_Z37 :=
  bif decide (k6 < i) then
    chk (inb i n_Kids.length) <|
    chk (inb (rdx (0 : Int) n_Kids i) g_Nodes.length) <|
    chk (inb k6 n_Kids.length) <|
    chk (inb (rdx (0 : Int) n_Kids k6) g_Nodes.length) <|
    (c_Z51 ((rdx ((0 : Int), ((0 : Int), ([] : List Int))) g_Nodes (rdx (0 : Int) n_Kids i)).1) (((rdx ((0 : Int), ((0 : Int), ([] : List Int))) g_Nodes (rdx (0 : Int) n_Kids i)).2).1) ((rdx ((0 : Int), ((0 : Int), ([] : List Int))) g_Nodes (rdx (0 : Int) n_Kids k6)).1) (((rdx ((0 : Int), ((0 : Int), ([] : List Int))) g_Nodes (rdx (0 : Int) n_Kids k6)).2).1)).bind fun r48 =>
    bif r48.1.1 then
      some ((false, ()), ())
    else
      again0 ((g_Nodes, g_Root, ()), (n_Kind, n_Value, n_Kids, ()), i, w64 (k6 + 2), ())
  else
    again1 ((g_Nodes, g_Root, ()), (n_Kind, n_Value, n_Kids, ()), w64 (i + 2), ())
def B_Z37_L0 (k : Nat) (c_s_isKey : C_s_isKey) (c_Z51 : C_Z51) (again1 : T_Z37_L1 → R_Z37) (n : Nat) (t : T_Z37_L0) : R_Z37 :=
  lfix n (fun again t => B_Z37_L0b k c_s_isKey c_Z51 again1 again t.1.1 t.1.2.1 t.2.1.1 t.2.1.2.1 t.2.1.2.2.1 t.2.2.1 t.2.2.2.1) t
def B_Z37_L1b (k : Nat) (c_s_isKey : C_s_isKey) (c_Z51 : C_Z51) (again1 : T_Z37_L1 → R_Z37) (g_Nodes : List (Int × Int × List Int)) (g_Root n_Kind n_Value : Int) (n_Kids : List Int) (i : Int) : R_Z37 :=
  bif decide (i < (len n_Kids)) then
    chk (inb i n_Kids.length) <|
    chk (inb (rdx (0 : Int) n_Kids i) g_Nodes.length) <|
    (c_s_isKey ((rdx ((0 : Int), ((0 : Int), ([] : List Int))) g_Nodes (rdx (0 : Int) n_Kids i)).1) (((rdx ((0 : Int), ((0 : Int), ([] : List Int))) g_Nodes (rdx (0 : Int) n_Kids i)).2).1)).bind fun r23 =>
    bif (!r23.1.1) then
      some ((false, ()), ())
    else
      B_Z37_L0 k c_s_isKey c_Z51 again1 k ((g_Nodes, g_Root, ()), (n_Kind, n_Value, n_Kids, ()), i, 0, ())
  else
    some (((((len n_Kids).tmod 2) == 0), ()), ())
def B_Z37_L1 (k : Nat) (c_s_isKey : C_s_isKey) (c_Z51 : C_Z51) (n : Nat) (t : T_Z37_L1) : R_Z37 :=
  lfix n (fun again t => B_Z37_L1b k c_s_isKey c_Z51 again t.1.1 t.1.2.1 t.2.1.1 t.2.1.2.1 t.2.1.2.2.1 t.2.2.1) t
def B_Z37 (k : Nat) (c_s_isKey : C_s_isKey) (c_Z51 : C_Z51) (g_0 : List (Int × Int × List Int)) (g_1 n_0 n_1 : Int) (n_2 : List Int) : R_Z37 :=
  B_Z37_L1 k c_s_isKey c_Z51 k ((g_0, g_1, ()), (n_0, n_1, n_2, ()), 0, ())
def F_Z37 : Nat → C_Z37
  | 0, _, _, _, _, _ => none
  | k + 1, g_0, g_1, n_0, n_1, n_2 => B_Z37 k (F_s_isKey k) (F_Z51 k) g_0 g_1 n_0 n_1 n_2
theorem tot_Z37 {g_0 g_1 n_0 n_1 n_2 : _} {Q : _ → Prop} (h : Tot (fun σ => B_Z37 (σ 0) (F_s_isKey (σ 0)) (F_Z51 (σ 0)) g_0 g_1 n_0 n_1 n_2) Q) : Tot (fun σ => F_Z37 (σ 0) g_0 g_1 n_0 n_1 n_2) Q :=
  Tot.call (F := fun k => F_Z37 k g_0 g_1 n_0 n_1 n_2) (B := fun k => B_Z37 k (F_s_isKey k) (F_Z51 k) g_0 g_1 n_0 n_1 n_2) (fun k => rfl) h
abbrev A_Z37_L0 (Z : Type) : Type := (List (Int × Int × List Int)) → Int → Int → Int → List Int → Int → Int → Z
abbrev u_Z37_L0 {Z : Type} (f : A_Z37_L0 Z) (t : T_Z37_L0) : Z := f t.1.1 t.1.2.1 t.2.1.1 t.2.1.2.1 t.2.1.2.2.1 t.2.2.1 t.2.2.2.1
theorem loop_Z37_L0 {again1 : (Nat → Nat) → T_Z37_L1 → R_Z37} (hag1 : Dep 2 again1) {Q : A_Z37_L0 (((Bool × Unit) × (Unit)) → Prop)} (I : A_Z37_L0 Prop) (μ : A_Z37_L0 Nat)
    (step : ∀ a0 a1 a2 a3 a4 a5 a6, I a0 a1 a2 a3 a4 a5 a6 → ∀ again : (Nat → Nat) → T_Z37_L0 → R_Z37, Dep 3 again → (∀ y0 y1 y2 y3 y4 y5 y6, I y0 y1 y2 y3 y4 y5 y6 → μ y0 y1 y2 y3 y4 y5 y6 < μ a0 a1 a2 a3 a4 a5 a6 → Tot (fun σ => again σ ((y0, y1, ()), (y2, y3, y4, ()), y5, y6, ())) (Q y0 y1 y2 y3 y4 y5 y6)) →
      Tot (fun σ => B_Z37_L0b (σ 0) (F_s_isKey (σ 0)) (F_Z51 (σ 0)) (again1 σ) (again σ) a0 a1 a2 a3 a4 a5 a6) (Q a0 a1 a2 a3 a4 a5 a6)) :
    ∀ a0 a1 a2 a3 a4 a5 a6, I a0 a1 a2 a3 a4 a5 a6 → Tot (fun σ => B_Z37_L0 (σ 0) (F_s_isKey (σ 0)) (F_Z51 (σ 0)) (again1 σ) (σ 0) ((a0, a1, ()), (a2, a3, a4, ()), a5, a6, ())) (Q a0 a1 a2 a3 a4 a5 a6) := fun a0 a1 a2 a3 a4 a5 a6 => Tot.loop (L := fun σ n t => B_Z37_L0 (σ 0) (F_s_isKey (σ 0)) (F_Z51 (σ 0)) (again1 σ) n t) (B := fun σ g => u_Z37_L0 (B_Z37_L0b (σ 0) (F_s_isKey (σ 0)) (F_Z51 (σ 0)) (again1 σ) g)) (Q := u_Z37_L0 Q) 2 (by decide)
    (fun s s' h => by have e0 : s 0 = s' 0 := h 0 (by decide); simp only [e0, hag1 s s' h]) (fun s s' h => by have e0 : s 0 = s' 0 := h 0 (by decide); simp only [e0, hag1 s s' h]) (fun _ _ _ => rfl) (u_Z37_L0 I) (u_Z37_L0 μ)
    (fun t ht again hag h => step t.1.1 t.1.2.1 t.2.1.1 t.2.1.2.1 t.2.1.2.2.1 t.2.2.1 t.2.2.2.1 ht again hag fun y0 y1 y2 y3 y4 y5 y6 => h ((y0, y1, ()), (y2, y3, y4, ()), y5, y6, ())) ((a0, a1, ()), (a2, a3, a4, ()), a5, a6, ())
abbrev A_Z37_L1 (Z : Type) : Type := (List (Int × Int × List Int)) → Int → Int → Int → List Int → Int → Z
abbrev u_Z37_L1 {Z : Type} (f : A_Z37_L1 Z) (t : T_Z37_L1) : Z := f t.1.1 t.1.2.1 t.2.1.1 t.2.1.2.1 t.2.1.2.2.1 t.2.2.1
theorem loop_Z37_L1 {Q : A_Z37_L1 (((Bool × Unit) × (Unit)) → Prop)} (I : A_Z37_L1 Prop) (μ : A_Z37_L1 Nat)
    (step : ∀ a0 a1 a2 a3 a4 a5, I a0 a1 a2 a3 a4 a5 → ∀ again : (Nat → Nat) → T_Z37_L1 → R_Z37, Dep 2 again → (∀ y0 y1 y2 y3 y4 y5, I y0 y1 y2 y3 y4 y5 → μ y0 y1 y2 y3 y4 y5 < μ a0 a1 a2 a3 a4 a5 → Tot (fun σ => again σ ((y0, y1, ()), (y2, y3, y4, ()), y5, ())) (Q y0 y1 y2 y3 y4 y5)) →
      Tot (fun σ => B_Z37_L1b (σ 0) (F_s_isKey (σ 0)) (F_Z51 (σ 0)) (again σ) a0 a1 a2 a3 a4 a5) (Q a0 a1 a2 a3 a4 a5)) :
    ∀ a0 a1 a2 a3 a4 a5, I a0 a1 a2 a3 a4 a5 → Tot (fun σ => B_Z37_L1 (σ 0) (F_s_isKey (σ 0)) (F_Z51 (σ 0)) (σ 0) ((a0, a1, ()), (a2, a3, a4, ()), a5, ())) (Q a0 a1 a2 a3 a4 a5) := fun a0 a1 a2 a3 a4 a5 => Tot.loop0 (L := fun k => B_Z37_L1 k (F_s_isKey k) (F_Z51 k)) (B := fun k g => u_Z37_L1 (B_Z37_L1b k (F_s_isKey k) (F_Z51 k) g)) (Q := u_Z37_L1 Q) (fun _ _ _ => rfl) (u_Z37_L1 I) (u_Z37_L1 μ)
    (fun t ht again hag h => step t.1.1 t.1.2.1 t.2.1.1 t.2.1.2.1 t.2.1.2.2.1 t.2.2.1 ht again hag fun y0 y1 y2 y3 y4 y5 => h ((y0, y1, ()), (y2, y3, y4, ()), y5, ())) ((a0, a1, ()), (a2, a3, a4, ()), a5, ())
abbrev R_Z30 : Type := Option ((Bool × Unit) × (Unit))
abbrev C_Z30 : Type := (List (Int × Int × List Int)) → Int → Int → Int → List Int → R_Z30
def B_Z30_J1 (k : Nat) (c_s_allIn : C_s_allIn) (c_Z62 : C_Z62) (c_Z37 : C_Z37) (g_Nodes : List (Int × Int × List Int)) (g_Root n_Kind n_Value : Int) (n_Kids : List Int) (t20 : Int) (t43 : Bool) : R_Z30 :=
  bif t43 then
    some (((n_Value == 0), ()), ())
  else
    bif (t20 == 4) then
      bif (n_Value == 0) then
        (c_Z37 g_Nodes g_Root n_Kind n_Value n_Kids).bind fun r57 =>
        some ((r57.1.1, ()), ())
      else
        some ((false, ()), ())
    else
      bif (t20 == 5) then
        (c_Z62 n_Value 0 9).bind fun r63 =>
        bif r63.1.1 then
          some ((decide ((len n_Kids) ≤ 1), ()), ())
        else
          some ((false, ()), ())
      else
        some ((false, ()), ())
def B_Z30_J0 (k : Nat) (c_s_allIn : C_s_allIn) (c_Z62 : C_Z62) (c_Z37 : C_Z37) (g_Nodes : List (Int × Int × List Int)) (g_Root n_Kind n_Value : Int) (n_Kids : List Int) (t18 : Bool) : R_Z30 :=
  bif t18 then
    some ((false, ()), ())
  else
    bif (n_Kind == 0) then
      (c_Z62 n_Value 0 999).bind fun r25 =>
      bif r25.1.1 then
        some ((((len n_Kids) == 0), ()), ())
      else
        some ((false, ()), ())
    else
      bif (n_Kind == 1) then
        (c_Z62 n_Value 0 9).bind fun r36 =>
        bif r36.1.1 then
          some ((((len n_Kids) == 0), ()), ())
        else
          some ((false, ()), ())
      else
        bif (n_Kind == 2) then
          jn (fun t => B_Z30_J1 k c_s_allIn c_Z62 c_Z37 t.1.1 t.1.2.1 t.2.1.1 t.2.1.2.1 t.2.1.2.2.1 t.2.2.1 t.2.2.2.1) ((g_Nodes, g_Root, ()), (n_Kind, n_Value, n_Kids, ()), n_Kind, (n_Kind == 2), ())
        else
          jn (fun t => B_Z30_J1 k c_s_allIn c_Z62 c_Z37 t.1.1 t.1.2.1 t.2.1.1 t.2.1.2.1 t.2.1.2.2.1 t.2.2.1 t.2.2.2.1) ((g_Nodes, g_Root, ()), (n_Kind, n_Value, n_Kids, ()), n_Kind, (n_Kind == 3), ())
def B_Z30 (k : Nat) (c_s_allIn : C_s_allIn) (c_Z62 : C_Z62) (c_Z37 : C_Z37) (g_0 : List (Int × Int × List Int)) (g_1 n_0 n_1 : Int) (n_2 : List Int) : R_Z30 :=
  bif decide ((len n_2) > 6) then
    jn (fun t => B_Z30_J0 k c_s_allIn c_Z62 c_Z37 t.1.1 t.1.2.1 t.2.1.1 t.2.1.2.1 t.2.1.2.2.1 t.2.2.1) ((g_0, g_1, ()), (n_0, n_1, n_2, ()), true, ())
  else
    (c_s_allIn n_2 0 (w64 ((len g_0) - 1))).bind fun r16 =>
    jn (fun t => B_Z30_J0 k c_s_allIn c_Z62 c_Z37 t.1.1 t.1.2.1 t.2.1.1 t.2.1.2.1 t.2.1.2.2.1 t.2.2.1) ((g_0, g_1, ()), (n_0, n_1, n_2, ()), (!r16.1.1), ())
def F_Z30 : Nat → C_Z30
  | 0, _, _, _, _, _ => none
  | k + 1, g_0, g_1, n_0, n_1, n_2 => B_Z30 k (F_s_allIn k) (F_Z62 k) (F_Z37 k) g_0 g_1 n_0 n_1 n_2
theorem tot_Z30 {g_0 g_1 n_0 n_1 n_2 : _} {Q : _ → Prop} (h : Tot (fun σ => B_Z30 (σ 0) (F_s_allIn (σ 0)) (F_Z62 (σ 0)) (F_Z37 (σ 0)) g_0 g_1 n_0 n_1 n_2) Q) : Tot (fun σ => F_Z30 (σ 0) g_0 g_1 n_0 n_1 n_2) Q :=
  Tot.call (F := fun k => F_Z30 k g_0 g_1 n_0 n_1 n_2) (B := fun k => B_Z30 k (F_s_allIn k) (F_Z62 k) (F_Z37 k) g_0 g_1 n_0 n_1 n_2) (fun k => rfl) h
abbrev R_Z45 : Type := Option ((List Int × Unit) × (Unit))
abbrev C_Z45 : Type := List Int → R_Z45
def B_Z45 (k : Nat) (list : List Int) : R_Z45 :=
  chk (room ([] : List Int).length list.length) <|
  some ((list, ()), ())
def F_Z45 : Nat → C_Z45
  | 0, _ => none
  | k + 1, list => B_Z45 k list
theorem tot_Z45 {list : _} {Q : _ → Prop} (h : Tot (fun σ => B_Z45 (σ 0) list) Q) : Tot (fun σ => F_Z45 (σ 0) list) Q :=
  Tot.call (F := fun k => F_Z45 k list) (B := fun k => B_Z45 k list) (fun k => rfl) h
abbrev R_Z59 : Type := Option ((Int × Unit) × (Unit))
abbrev C_Z59 : Type := List Int → Int → R_Z59
abbrev T_Z59_L0 : Type := List Int × Int × Int × Unit
def B_Z59_L0b (k : Nat) (again0 : T_Z59_L0 → R_Z59) (list : List Int) (n1 i : Int) : R_Z59 :=
  bif decide (i < (len list)) then
    chk (inb i list.length) <|
    bif ((rdx (0 : Int) list i) == n1) then
      some ((i, ()), ())
    else
      again0 (list, n1, w64 (i + 1), ())
  else
    some (((-1), ()), ())
def B_Z59_L0 (k : Nat) (n : Nat) (t : T_Z59_L0) : R_Z59 :=
  lfix n (fun again t => B_Z59_L0b k again t.1 t.2.1 t.2.2.1) t
def B_Z59 (k : Nat) (list : List Int) (n1 : Int) : R_Z59 :=
  B_Z59_L0 k k (list, n1, 0, ())
def F_Z59 : Nat → C_Z59
  | 0, _, _ => none
  | k + 1, list, n1 => B_Z59 k list n1
theorem tot_Z59 {list n1 : _} {Q : _ → Prop} (h : Tot (fun σ => B_Z59 (σ 0) list n1) Q) : Tot (fun σ => F_Z59 (σ 0) list n1) Q :=
  Tot.call (F := fun k => F_Z59 k list n1) (B := fun k => B_Z59 k list n1) (fun k => rfl) h
abbrev A_Z59_L0 (Z : Type) : Type := List Int → Int → Int → Z
abbrev u_Z59_L0 {Z : Type} (f : A_Z59_L0 Z) (t : T_Z59_L0) : Z := f t.1 t.2.1 t.2.2.1
theorem loop_Z59_L0 {Q : A_Z59_L0 (((Int × Unit) × (Unit)) → Prop)} (I : A_Z59_L0 Prop) (μ : A_Z59_L0 Nat)
    (step : ∀ a0 a1 a2, I a0 a1 a2 → ∀ again : (Nat → Nat) → T_Z59_L0 → R_Z59, Dep 2 again → (∀ y0 y1 y2, I y0 y1 y2 → μ y0 y1 y2 < μ a0 a1 a2 → Tot (fun σ => again σ (y0, y1, y2, ())) (Q y0 y1 y2)) →
      Tot (fun σ => B_Z59_L0b (σ 0) (again σ) a0 a1 a2) (Q a0 a1 a2)) :
    ∀ a0 a1 a2, I a0 a1 a2 → Tot (fun σ => B_Z59_L0 (σ 0) (σ 0) (a0, a1, a2, ())) (Q a0 a1 a2) := fun a0 a1 a2 => Tot.loop0 (L := fun k => B_Z59_L0 k) (B := fun k g => u_Z59_L0 (B_Z59_L0b k g)) (Q := u_Z59_L0 Q) (fun _ _ _ => rfl) (u_Z59_L0 I) (u_Z59_L0 μ)
    (fun t ht again hag h => step t.1 t.2.1 t.2.2.1 ht again hag fun y0 y1 y2 => h (y0, y1, y2, ())) (a0, a1, a2, ())
abbrev R_Z12 : Type := Option ((List Int × Unit) × (Unit))
abbrev C_Z12 : Type := (List (Int × Int × List Int)) → Int → Int → R_Z12
abbrev T_Z12_L1 : Type := ((List (Int × Int × List Int)) × Int × Unit) × List Int × List Int × Int × Unit
def B_Z12_J0 (k : Nat) (c_Z45 : C_Z45) (c_Z59 : C_Z59) (again1 : T_Z12_L1 → R_Z12) (g_Nodes : List (Int × Int × List Int)) (g_Root : Int) (out list : List Int) (k7 : Int) : R_Z12 :=
  again1 ((g_Nodes, g_Root, ()), out, list, w64 (k7 + 1), ())
def B_Z12_L1b (k : Nat) (c_Z45 : C_Z45) (c_Z59 : C_Z59) (again1 : T_Z12_L1 → R_Z12) (g_Nodes : List (Int × Int × List Int)) (g_Root : Int) (out list : List Int) (k7 : Int) : R_Z12 :=
  bif decide (k7 < (len list)) then
    chk (inb k7 list.length) <|
    chk (decide (k7.toNat < list.length)) <|
    (c_Z59 out (list.getD k7.toNat (0 : Int))).bind fun r27 =>
    bif decide (r27.1.1 < 0) then
      chk (inb k7 list.length) <|
      chk (decide (k7.toNat < list.length)) <|
      chk (room out.length ([(list.getD k7.toNat (0 : Int))]).length) <|
      chk (inb k7 list.length) <|
      chk (decide (k7.toNat < list.length)) <|
      chk (inb (list.getD k7.toNat (0 : Int)) g_Nodes.length) <|
      let v45 : Bool := (((rdx ((0 : Int), ((0 : Int), ([] : List Int))) g_Nodes (list.getD k7.toNat (0 : Int))).1) == 2)
      bif v45 then
        chk (inb k7 list.length) <|
        chk (decide (k7.toNat < list.length)) <|
        chk (inb (list.getD k7.toNat (0 : Int)) g_Nodes.length) <|
        chk (room list.length (((rdx ((0 : Int), ((0 : Int), ([] : List Int))) g_Nodes (list.getD k7.toNat (0 : Int))).2).2).length) <|
        jn (fun t => B_Z12_J0 k c_Z45 c_Z59 again1 t.1.1 t.1.2.1 t.2.1 t.2.2.1 t.2.2.2.1) ((g_Nodes, g_Root, ()), (out ++ [(list.getD k7.toNat (0 : Int))]), (list ++ ((rdx ((0 : Int), ((0 : Int), ([] : List Int))) g_Nodes (list.getD k7.toNat (0 : Int))).2).2), k7, ())
      else
        jn (fun t => B_Z12_J0 k c_Z45 c_Z59 again1 t.1.1 t.1.2.1 t.2.1 t.2.2.1 t.2.2.2.1) ((g_Nodes, g_Root, ()), (out ++ [(list.getD k7.toNat (0 : Int))]), list, k7, ())
    else
      jn (fun t => B_Z12_J0 k c_Z45 c_Z59 again1 t.1.1 t.1.2.1 t.2.1 t.2.2.1 t.2.2.2.1) ((g_Nodes, g_Root, ()), out, list, k7, ())
  else
    some ((out, ()), ())
def B_Z12_L1 (k : Nat) (c_Z45 : C_Z45) (c_Z59 : C_Z59) (n : Nat) (t : T_Z12_L1) : R_Z12 :=
  lfix n (fun again t => B_Z12_L1b k c_Z45 c_Z59 again t.1.1 t.1.2.1 t.2.1 t.2.2.1 t.2.2.2.1) t
def B_Z12 (k : Nat) (c_Z45 : C_Z45) (c_Z59 : C_Z59) (g_0 : List (Int × Int × List Int)) (g_1 at1 : Int) : R_Z12 :=
  chk (inb at1 g_0.length) <|
  (c_Z45 (((rdx ((0 : Int), ((0 : Int), ([] : List Int))) g_0 at1).2).2)).bind fun r15 =>
  B_Z12_L1 k c_Z45 c_Z59 k ((g_0, g_1, ()), [], r15.1.1, 0, ())
def F_Z12 : Nat → C_Z12
  | 0, _, _, _ => none
  | k + 1, g_0, g_1, at1 => B_Z12 k (F_Z45 k) (F_Z59 k) g_0 g_1 at1
theorem tot_Z12 {g_0 g_1 at1 : _} {Q : _ → Prop} (h : Tot (fun σ => B_Z12 (σ 0) (F_Z45 (σ 0)) (F_Z59 (σ 0)) g_0 g_1 at1) Q) : Tot (fun σ => F_Z12 (σ 0) g_0 g_1 at1) Q :=
  Tot.call (F := fun k => F_Z12 k g_0 g_1 at1) (B := fun k => B_Z12 k (F_Z45 k) (F_Z59 k) g_0 g_1 at1) (fun k => rfl) h
abbrev A_Z12_L1 (Z : Type) : Type := (List (Int × Int × List Int)) → Int → List Int → List Int → Int → Z
abbrev u_Z12_L1 {Z : Type} (f : A_Z12_L1 Z) (t : T_Z12_L1) : Z := f t.1.1 t.1.2.1 t.2.1 t.2.2.1 t.2.2.2.1
theorem loop_Z12_L1 {Q : A_Z12_L1 (((List Int × Unit) × (Unit)) → Prop)} (I : A_Z12_L1 Prop) (μ : A_Z12_L1 Nat)
    (step : ∀ a0 a1 a2 a3 a4, I a0 a1 a2 a3 a4 → ∀ again : (Nat → Nat) → T_Z12_L1 → R_Z12, Dep 2 again → (∀ y0 y1 y2 y3 y4, I y0 y1 y2 y3 y4 → μ y0 y1 y2 y3 y4 < μ a0 a1 a2 a3 a4 → Tot (fun σ => again σ ((y0, y1, ()), y2, y3, y4, ())) (Q y0 y1 y2 y3 y4)) →
      Tot (fun σ => B_Z12_L1b (σ 0) (F_Z45 (σ 0)) (F_Z59 (σ 0)) (again σ) a0 a1 a2 a3 a4) (Q a0 a1 a2 a3 a4)) :
    ∀ a0 a1 a2 a3 a4, I a0 a1 a2 a3 a4 → Tot (fun σ => B_Z12_L1 (σ 0) (F_Z45 (σ 0)) (F_Z59 (σ 0)) (σ 0) ((a0, a1, ()), a2, a3, a4, ())) (Q a0 a1 a2 a3 a4) := fun a0 a1 a2 a3 a4 => Tot.loop0 (L := fun k => B_Z12_L1 k (F_Z45 k) (F_Z59 k)) (B := fun k g => u_Z12_L1 (B_Z12_L1b k (F_Z45 k) (F_Z59 k) g)) (Q := u_Z12_L1 Q) (fun _ _ _ => rfl) (u_Z12_L1 I) (u_Z12_L1 μ)
    (fun t ht again hag h => step t.1.1 t.1.2.1 t.2.1 t.2.2.1 t.2.2.2.1 ht again hag fun y0 y1 y2 y3 y4 => h ((y0, y1, ()), y2, y3, y4, ())) ((a0, a1, ()), a2, a3, a4, ())
abbrev R_Z17 : Type := Option ((Bool × Unit) × (Unit))
abbrev C_Z17 : Type := (List (Int × Int × List Int)) → Int → R_Z17
abbrev T_Z17_L3 : Type := ((List (Int × Int × List Int)) × Int × Unit) × Int × Unit
abbrev T_Z17_L1 : Type := ((List (Int × Int × List Int)) × Int × Unit) × Int × Unit
def B_Z17_J2 (k : Nat) (c_Z62 : C_Z62) (c_Z30 : C_Z30) (c_Z12 : C_Z12) (c_Z59 : C_Z59) (again3 : T_Z17_L3 → R_Z17) (g_Nodes : List (Int × Int × List Int)) (g_Root i : Int) (t56 : Bool) : R_Z17 :=
  bif t56 then
    some ((false, ()), ())
  else
    again3 ((g_Nodes, g_Root, ()), w64 (i + 1), ())
def B_Z17_L3b (k : Nat) (c_Z62 : C_Z62) (c_Z30 : C_Z30) (c_Z12 : C_Z12) (c_Z59 : C_Z59) (again3 : T_Z17_L3 → R_Z17) (g_Nodes : List (Int × Int × List Int)) (g_Root i : Int) : R_Z17 :=
  bif decide (i < (len g_Nodes)) then
    chk (inb i g_Nodes.length) <|
    bif (((rdx ((0 : Int), ((0 : Int), ([] : List Int))) g_Nodes i).1) == 2) then
      (c_Z12 g_Nodes g_Root i).bind fun r52 =>
      (c_Z59 r52.1.1 i).bind fun r54 =>
      jn (fun t => B_Z17_J2 k c_Z62 c_Z30 c_Z12 c_Z59 again3 t.1.1 t.1.2.1 t.2.1 t.2.2.1) ((g_Nodes, g_Root, ()), i, decide (r54.1.1 ≥ 0), ())
    else
      jn (fun t => B_Z17_J2 k c_Z62 c_Z30 c_Z12 c_Z59 again3 t.1.1 t.1.2.1 t.2.1 t.2.2.1) ((g_Nodes, g_Root, ()), i, false, ())
  else
    some ((true, ()), ())
def B_Z17_L3 (k : Nat) (c_Z62 : C_Z62) (c_Z30 : C_Z30) (c_Z12 : C_Z12) (c_Z59 : C_Z59) (n : Nat) (t : T_Z17_L3) : R_Z17 :=
  lfix n (fun again t => B_Z17_L3b k c_Z62 c_Z30 c_Z12 c_Z59 again t.1.1 t.1.2.1 t.2.1) t
def B_Z17_L1b (k : Nat) (c_Z62 : C_Z62) (c_Z30 : C_Z30) (c_Z12 : C_Z12) (c_Z59 : C_Z59) (again1 : T_Z17_L1 → R_Z17) (g_Nodes : List (Int × Int × List Int)) (g_Root i : Int) : R_Z17 :=
  bif decide (i < (len g_Nodes)) then
    chk (inb i g_Nodes.length) <|
    (c_Z30 g_Nodes g_Root ((rdx ((0 : Int), ((0 : Int), ([] : List Int))) g_Nodes i).1) (((rdx ((0 : Int), ((0 : Int), ([] : List Int))) g_Nodes i).2).1) (((rdx ((0 : Int), ((0 : Int), ([] : List Int))) g_Nodes i).2).2)).bind fun r33 =>
    bif (!r33.1.1) then
      some ((false, ()), ())
    else
      again1 ((g_Nodes, g_Root, ()), w64 (i + 1), ())
  else
    B_Z17_L3 k c_Z62 c_Z30 c_Z12 c_Z59 k ((g_Nodes, g_Root, ()), 0, ())
def B_Z17_L1 (k : Nat) (c_Z62 : C_Z62) (c_Z30 : C_Z30) (c_Z12 : C_Z12) (c_Z59 : C_Z59) (n : Nat) (t : T_Z17_L1) : R_Z17 :=
  lfix n (fun again t => B_Z17_L1b k c_Z62 c_Z30 c_Z12 c_Z59 again t.1.1 t.1.2.1 t.2.1) t
def B_Z17_J0 (k : Nat) (c_Z62 : C_Z62) (c_Z30 : C_Z30) (c_Z12 : C_Z12) (c_Z59 : C_Z59) (g_Nodes : List (Int × Int × List Int)) (g_Root : Int) (t19 : Bool) : R_Z17 :=
  bif t19 then
    some ((false, ()), ())
  else
    B_Z17_L1 k c_Z62 c_Z30 c_Z12 c_Z59 k ((g_Nodes, g_Root, ()), 0, ())
def B_Z17 (k : Nat) (c_Z62 : C_Z62) (c_Z30 : C_Z30) (c_Z12 : C_Z12) (c_Z59 : C_Z59) (g_0 : List (Int × Int × List Int)) (g_1 : Int) : R_Z17 :=
  (c_Z62 (len g_0) 1 12).bind fun r8 =>
  bif (!r8.1.1) then
    jn (fun t => B_Z17_J0 k c_Z62 c_Z30 c_Z12 c_Z59 t.1.1 t.1.2.1 t.2.1) ((g_0, g_1, ()), true, ())
  else
    (c_Z62 g_1 0 (w64 ((len g_0) - 1))).bind fun r17 =>
    jn (fun t => B_Z17_J0 k c_Z62 c_Z30 c_Z12 c_Z59 t.1.1 t.1.2.1 t.2.1) ((g_0, g_1, ()), (!r17.1.1), ())
def F_Z17 : Nat → C_Z17
  | 0, _, _ => none
  | k + 1, g_0, g_1 => B_Z17 k (F_Z62 k) (F_Z30 k) (F_Z12 k) (F_Z59 k) g_0 g_1
theorem tot_Z17 {g_0 g_1 : _} {Q : _ → Prop} (h : Tot (fun σ => B_Z17 (σ 0) (F_Z62 (σ 0)) (F_Z30 (σ 0)) (F_Z12 (σ 0)) (F_Z59 (σ 0)) g_0 g_1) Q) : Tot (fun σ => F_Z17 (σ 0) g_0 g_1) Q :=
  Tot.call (F := fun k => F_Z17 k g_0 g_1) (B := fun k => B_Z17 k (F_Z62 k) (F_Z30 k) (F_Z12 k) (F_Z59 k) g_0 g_1) (fun k => rfl) h
abbrev A_Z17_L3 (Z : Type) : Type := (List (Int × Int × List Int)) → Int → Int → Z
abbrev u_Z17_L3 {Z : Type} (f : A_Z17_L3 Z) (t : T_Z17_L3) : Z := f t.1.1 t.1.2.1 t.2.1
theorem loop_Z17_L3 {Q : A_Z17_L3 (((Bool × Unit) × (Unit)) → Prop)} (I : A_Z17_L3 Prop) (μ : A_Z17_L3 Nat)
    (step : ∀ a0 a1 a2, I a0 a1 a2 → ∀ again : (Nat → Nat) → T_Z17_L3 → R_Z17, Dep 2 again → (∀ y0 y1 y2, I y0 y1 y2 → μ y0 y1 y2 < μ a0 a1 a2 → Tot (fun σ => again σ ((y0, y1, ()), y2, ())) (Q y0 y1 y2)) →
      Tot (fun σ => B_Z17_L3b (σ 0) (F_Z62 (σ 0)) (F_Z30 (σ 0)) (F_Z12 (σ 0)) (F_Z59 (σ 0)) (again σ) a0 a1 a2) (Q a0 a1 a2)) :
    ∀ a0 a1 a2, I a0 a1 a2 → Tot (fun σ => B_Z17_L3 (σ 0) (F_Z62 (σ 0)) (F_Z30 (σ 0)) (F_Z12 (σ 0)) (F_Z59 (σ 0)) (σ 0) ((a0, a1, ()), a2, ())) (Q a0 a1 a2) := fun a0 a1 a2 => Tot.loop0 (L := fun k => B_Z17_L3 k (F_Z62 k) (F_Z30 k) (F_Z12 k) (F_Z59 k)) (B := fun k g => u_Z17_L3 (B_Z17_L3b k (F_Z62 k) (F_Z30 k) (F_Z12 k) (F_Z59 k) g)) (Q := u_Z17_L3 Q) (fun _ _ _ => rfl) (u_Z17_L3 I) (u_Z17_L3 μ)
    (fun t ht again hag h => step t.1.1 t.1.2.1 t.2.1 ht again hag fun y0 y1 y2 => h ((y0, y1, ()), y2, ())) ((a0, a1, ()), a2, ())
abbrev A_Z17_L1 (Z : Type) : Type := (List (Int × Int × List Int)) → Int → Int → Z
abbrev u_Z17_L1 {Z : Type} (f : A_Z17_L1 Z) (t : T_Z17_L1) : Z := f t.1.1 t.1.2.1 t.2.1
theorem loop_Z17_L1 {Q : A_Z17_L1 (((Bool × Unit) × (Unit)) → Prop)} (I : A_Z17_L1 Prop) (μ : A_Z17_L1 Nat)
    (step : ∀ a0 a1 a2, I a0 a1 a2 → ∀ again : (Nat → Nat) → T_Z17_L1 → R_Z17, Dep 2 again → (∀ y0 y1 y2, I y0 y1 y2 → μ y0 y1 y2 < μ a0 a1 a2 → Tot (fun σ => again σ ((y0, y1, ()), y2, ())) (Q y0 y1 y2)) →
      Tot (fun σ => B_Z17_L1b (σ 0) (F_Z62 (σ 0)) (F_Z30 (σ 0)) (F_Z12 (σ 0)) (F_Z59 (σ 0)) (again σ) a0 a1 a2) (Q a0 a1 a2)) :
    ∀ a0 a1 a2, I a0 a1 a2 → Tot (fun σ => B_Z17_L1 (σ 0) (F_Z62 (σ 0)) (F_Z30 (σ 0)) (F_Z12 (σ 0)) (F_Z59 (σ 0)) (σ 0) ((a0, a1, ()), a2, ())) (Q a0 a1 a2) := fun a0 a1 a2 => Tot.loop0 (L := fun k => B_Z17_L1 k (F_Z62 k) (F_Z30 k) (F_Z12 k) (F_Z59 k)) (B := fun k g => u_Z17_L1 (B_Z17_L1b k (F_Z62 k) (F_Z30 k) (F_Z12 k) (F_Z59 k) g)) (Q := u_Z17_L1 Q) (fun _ _ _ => rfl) (u_Z17_L1 I) (u_Z17_L1 μ)
    (fun t ht again hag h => step t.1.1 t.1.2.1 t.2.1 ht again hag fun y0 y1 y2 => h ((y0, y1, ()), y2, ())) ((a0, a1, ()), a2, ())
abbrev R_Z54 : Type := Option ((((List (Int × Int × Option (List Int))) × Int × Unit) × Unit) × ((List Int × Int × Unit) × Unit))
abbrev C_Z54 : Type := List Int → Int → (List (Int × Int × Option (List Int))) → Int → Int → R_Z54
abbrev T_Z54_L3 : Type := (List Int × Int × Unit) × Int × ((List (Int × Int × Option (List Int))) × Int × Unit) × (Unit × Int × Unit) × (Int × Int × List Int × Unit) × Int × Unit
def B_Z54_J2 (k : Nat) (c_Z14 : C_Z14) (c_Z10 : C_Z10) (c_s_isKey : C_s_isKey) (c_Z17 : C_Z17) (again3 : T_Z54_L3 → R_Z54) (r_b : List Int) (r_p at2 : Int) (g_Nodes : List (Int × Int × Option (List Int))) (g_Root t6_Root n_Kind n_Value : Int) (n_Kids : List Int) (k8 : Int) : R_Z54 :=
  again3 ((r_b, r_p, ()), at2, (g_Nodes, g_Root, ()), ((), t6_Root, ()), (n_Kind, n_Value, n_Kids, ()), w64 (k8 - 1), ())
def B_Z54_J1 (k : Nat) (c_Z14 : C_Z14) (c_Z10 : C_Z10) (c_s_isKey : C_s_isKey) (c_Z17 : C_Z17) (again3 : T_Z54_L3 → R_Z54) (r_b : List Int) (r_p at2 : Int) (g_Nodes : List (Int × Int × Option (List Int))) (g_Root t6_Root n_Kind n_Value : Int) (n_Kids : List Int) (k8 kid : Int) (t57 : Bool) : R_Z54 :=
  bif t57 then
    (c_Z10 r_b r_p (len g_Nodes)).bind fun r65 =>
    chk (room n_Kids.length ([kid, r65.1.1]).length) <|
    jn (fun t => B_Z54_J2 k c_Z14 c_Z10 c_s_isKey c_Z17 again3 t.1.1 t.1.2.1 t.2.1 t.2.2.1.1 t.2.2.1.2.1 t.2.2.2.1.2.1 t.2.2.2.2.1.1 t.2.2.2.2.1.2.1 t.2.2.2.2.1.2.2.1 t.2.2.2.2.2.1) ((r65.2.1.1, r65.2.1.2.1, ()), at2, (g_Nodes, g_Root, ()), ((), t6_Root, ()), (n_Kind, n_Value, (n_Kids ++ [kid, r65.1.1]), ()), k8, ())
  else
    jn (fun t => B_Z54_J2 k c_Z14 c_Z10 c_s_isKey c_Z17 again3 t.1.1 t.1.2.1 t.2.1 t.2.2.1.1 t.2.2.1.2.1 t.2.2.2.1.2.1 t.2.2.2.2.1.1 t.2.2.2.2.1.2.1 t.2.2.2.2.1.2.2.1 t.2.2.2.2.2.1) ((r_b, r_p, ()), at2, (g_Nodes, g_Root, ()), ((), t6_Root, ()), (n_Kind, n_Value, n_Kids, ()), k8, ())
def B_Z54_J0 (k : Nat) (c_Z14 : C_Z14) (c_Z10 : C_Z10) (c_s_isKey : C_s_isKey) (c_Z17 : C_Z17) (again3 : T_Z54_L3 → R_Z54) (r_b : List Int) (r_p at2 : Int) (g_Nodes : List (Int × Int × Option (List Int))) (g_Root t6_Root n_Kind n_Value : Int) (n_Kids : List Int) (k8 kid t29 : Int) (t30 : Bool) : R_Z54 :=
  bif t30 then
    chk (room n_Kids.length ([kid]).length) <|
    jn (fun t => B_Z54_J2 k c_Z14 c_Z10 c_s_isKey c_Z17 again3 t.1.1 t.1.2.1 t.2.1 t.2.2.1.1 t.2.2.1.2.1 t.2.2.2.1.2.1 t.2.2.2.2.1.1 t.2.2.2.2.1.2.1 t.2.2.2.2.1.2.2.1 t.2.2.2.2.2.1) ((r_b, r_p, ()), at2, (g_Nodes, g_Root, ()), ((), t6_Root, ()), (n_Kind, n_Value, (n_Kids ++ [kid]), ()), k8, ())
  else
    bif (t29 == 5) then
      jn (fun t => B_Z54_J2 k c_Z14 c_Z10 c_s_isKey c_Z17 again3 t.1.1 t.1.2.1 t.2.1 t.2.2.1.1 t.2.2.1.2.1 t.2.2.2.1.2.1 t.2.2.2.2.1.1 t.2.2.2.2.1.2.1 t.2.2.2.2.1.2.2.1 t.2.2.2.2.2.1) ((r_b, r_p, ()), at2, (g_Nodes, g_Root, ()), ((), t6_Root, ()), (n_Kind, n_Value, [kid], ()), k8, ())
    else
      bif (t29 == 4) then
        bif decide ((len n_Kids) < 6) then
          chk (inb kid g_Nodes.length) <|
          chk (decide (kid.toNat < g_Nodes.length)) <|
          (c_s_isKey ((g_Nodes.getD kid.toNat ((0 : Int), ((0 : Int), (none : Option (List Int))))).1) (((g_Nodes.getD kid.toNat ((0 : Int), ((0 : Int), (none : Option (List Int))))).2).1)).bind fun r56 =>
          jn (fun t => B_Z54_J1 k c_Z14 c_Z10 c_s_isKey c_Z17 again3 t.1.1 t.1.2.1 t.2.1 t.2.2.1.1 t.2.2.1.2.1 t.2.2.2.1.2.1 t.2.2.2.2.1.1 t.2.2.2.2.1.2.1 t.2.2.2.2.1.2.2.1 t.2.2.2.2.2.1 t.2.2.2.2.2.2.1 t.2.2.2.2.2.2.2.1) ((r_b, r_p, ()), at2, (g_Nodes, g_Root, ()), ((), t6_Root, ()), (n_Kind, n_Value, n_Kids, ()), k8, kid, r56.1.1, ())
        else
          jn (fun t => B_Z54_J1 k c_Z14 c_Z10 c_s_isKey c_Z17 again3 t.1.1 t.1.2.1 t.2.1 t.2.2.1.1 t.2.2.1.2.1 t.2.2.2.1.2.1 t.2.2.2.2.1.1 t.2.2.2.2.1.2.1 t.2.2.2.2.1.2.2.1 t.2.2.2.2.2.1 t.2.2.2.2.2.2.1 t.2.2.2.2.2.2.2.1) ((r_b, r_p, ()), at2, (g_Nodes, g_Root, ()), ((), t6_Root, ()), (n_Kind, n_Value, n_Kids, ()), k8, kid, false, ())
      else
        jn (fun t => B_Z54_J2 k c_Z14 c_Z10 c_s_isKey c_Z17 again3 t.1.1 t.1.2.1 t.2.1 t.2.2.1.1 t.2.2.1.2.1 t.2.2.2.1.2.1 t.2.2.2.2.1.1 t.2.2.2.2.1.2.1 t.2.2.2.2.1.2.2.1 t.2.2.2.2.2.1) ((r_b, r_p, ()), at2, (g_Nodes, g_Root, ()), ((), t6_Root, ()), (n_Kind, n_Value, n_Kids, ()), k8, ())
def B_Z54_J4 (k : Nat) (c_Z14 : C_Z14) (c_Z10 : C_Z10) (c_s_isKey : C_s_isKey) (c_Z17 : C_Z17) (r_b : List Int) (r_p : Int) (g_Nodes : List (Int × Int × Option (List Int))) (g_Root t6_Root : Int) : R_Z54 :=
  some (((g_Nodes, g_Root, ()), ()), ((r_b, r_p, ()), ()))
def B_Z54_L3b (k : Nat) (c_Z14 : C_Z14) (c_Z10 : C_Z10) (c_s_isKey : C_s_isKey) (c_Z17 : C_Z17) (again3 : T_Z54_L3 → R_Z54) (r_b : List Int) (r_p at2 : Int) (g_Nodes : List (Int × Int × Option (List Int))) (g_Root t6_Root n_Kind n_Value : Int) (n_Kids : List Int) (k8 : Int) : R_Z54 :=
  bif decide (k8 > 0) then
    (c_Z10 r_b r_p (len g_Nodes)).bind fun r27 =>
    bif (n_Kind == 2) then
      jn (fun t => B_Z54_J0 k c_Z14 c_Z10 c_s_isKey c_Z17 again3 t.1.1 t.1.2.1 t.2.1 t.2.2.1.1 t.2.2.1.2.1 t.2.2.2.1.2.1 t.2.2.2.2.1.1 t.2.2.2.2.1.2.1 t.2.2.2.2.1.2.2.1 t.2.2.2.2.2.1 t.2.2.2.2.2.2.1 t.2.2.2.2.2.2.2.1 t.2.2.2.2.2.2.2.2.1) ((r27.2.1.1, r27.2.1.2.1, ()), at2, (g_Nodes, g_Root, ()), ((), t6_Root, ()), (n_Kind, n_Value, n_Kids, ()), k8, r27.1.1, n_Kind, (n_Kind == 2), ())
    else
      jn (fun t => B_Z54_J0 k c_Z14 c_Z10 c_s_isKey c_Z17 again3 t.1.1 t.1.2.1 t.2.1 t.2.2.1.1 t.2.2.1.2.1 t.2.2.2.1.2.1 t.2.2.2.2.1.1 t.2.2.2.2.1.2.1 t.2.2.2.2.1.2.2.1 t.2.2.2.2.2.1 t.2.2.2.2.2.2.1 t.2.2.2.2.2.2.2.1 t.2.2.2.2.2.2.2.2.1) ((r27.2.1.1, r27.2.1.2.1, ()), at2, (g_Nodes, g_Root, ()), ((), t6_Root, ()), (n_Kind, n_Value, n_Kids, ()), k8, r27.1.1, n_Kind, (n_Kind == 3), ())
  else
    chk (inb at2 g_Nodes.length) <|
    chk (decide (at2.toNat < g_Nodes.length)) <|
    chk (inb at2 g_Nodes.length) <|
    chk (decide (at2.toNat < g_Nodes.length)) <|
    (c_Z17 ((g_Nodes.set at2.toNat (n_Kind, (n_Value, (some n_Kids)))).map (fun p => (p.1, (p.2.1, p.2.2.getD [])))) g_Root).bind fun r80 =>
    bif (!r80.1.1) then
      chk (inb at2 (g_Nodes.set at2.toNat (n_Kind, (n_Value, (some n_Kids)))).length) <|
      chk (decide (at2.toNat < (g_Nodes.set at2.toNat (n_Kind, (n_Value, (some n_Kids)))).length)) <|
      chk ((((g_Nodes.getD at2.toNat ((0 : Int), ((0 : Int), (none : Option (List Int))))).2).2).isNone) <|
      let w1 : List (Int × Int × Option (List Int)) := ((g_Nodes.set at2.toNat (n_Kind, (n_Value, (some n_Kids)))).set at2.toNat ((g_Nodes.getD at2.toNat ((0 : Int), ((0 : Int), (none : Option (List Int))))).1, (((g_Nodes.getD at2.toNat ((0 : Int), ((0 : Int), (none : Option (List Int))))).2).1, (none : Option (List Int)))))
      jn (fun t => B_Z54_J4 k c_Z14 c_Z10 c_s_isKey c_Z17 t.1.1 t.1.2.1 t.2.1.1 t.2.1.2.1 t.2.2.1.2.1) ((r_b, r_p, ()), (w1, g_Root, ()), ((), t6_Root, ()), ())
    else
      jn (fun t => B_Z54_J4 k c_Z14 c_Z10 c_s_isKey c_Z17 t.1.1 t.1.2.1 t.2.1.1 t.2.1.2.1 t.2.2.1.2.1) ((r_b, r_p, ()), ((g_Nodes.set at2.toNat (n_Kind, (n_Value, (some n_Kids)))), g_Root, ()), ((), t6_Root, ()), ())
def B_Z54_L3 (k : Nat) (c_Z14 : C_Z14) (c_Z10 : C_Z10) (c_s_isKey : C_s_isKey) (c_Z17 : C_Z17) (n : Nat) (t : T_Z54_L3) : R_Z54 :=
  lfix n (fun again t => B_Z54_L3b k c_Z14 c_Z10 c_s_isKey c_Z17 again t.1.1 t.1.2.1 t.2.1 t.2.2.1.1 t.2.2.1.2.1 t.2.2.2.1.2.1 t.2.2.2.2.1.1 t.2.2.2.2.1.2.1 t.2.2.2.2.1.2.2.1 t.2.2.2.2.2.1) t
def B_Z54 (k : Nat) (c_Z14 : C_Z14) (c_Z10 : C_Z10) (c_s_isKey : C_s_isKey) (c_Z17 : C_Z17) (r_b : List Int) (r_p : Int) (g_0 : List (Int × Int × Option (List Int))) (g_1 at2 : Int) : R_Z54 :=
  chk (inb at2 g_0.length) <|
  chk (decide (at2.toNat < g_0.length)) <|
  (c_Z14 r_b r_p ([2, 1, 3, 0, 4])).bind fun r18 =>
  chk ((((g_0.getD at2.toNat ((0 : Int), ((0 : Int), (none : Option (List Int))))).2).2).isNone) <|
  B_Z54_L3 k c_Z14 c_Z10 c_s_isKey c_Z17 k ((r18.2.1.1, r18.2.1.2.1, ()), at2, (g_0, g_1, ()), ((), 0, ()), ((g_0.getD at2.toNat ((0 : Int), ((0 : Int), (none : Option (List Int))))).1, ((g_0.getD at2.toNat ((0 : Int), ((0 : Int), (none : Option (List Int))))).2).1, [], ()), r18.1.1, ())
def F_Z54 : Nat → C_Z54
  | 0, _, _, _, _, _ => none
  | k + 1, r_b, r_p, g_0, g_1, at2 => B_Z54 k (F_Z14 k) (F_Z10 k) (F_s_isKey k) (F_Z17 k) r_b r_p g_0 g_1 at2
theorem tot_Z54 {r_b r_p g_0 g_1 at2 : _} {Q : _ → Prop} (h : Tot (fun σ => B_Z54 (σ 0) (F_Z14 (σ 0)) (F_Z10 (σ 0)) (F_s_isKey (σ 0)) (F_Z17 (σ 0)) r_b r_p g_0 g_1 at2) Q) : Tot (fun σ => F_Z54 (σ 0) r_b r_p g_0 g_1 at2) Q :=
  Tot.call (F := fun k => F_Z54 k r_b r_p g_0 g_1 at2) (B := fun k => B_Z54 k (F_Z14 k) (F_Z10 k) (F_s_isKey k) (F_Z17 k) r_b r_p g_0 g_1 at2) (fun k => rfl) h
abbrev A_Z54_L3 (Z : Type) : Type := List Int → Int → Int → (List (Int × Int × Option (List Int))) → Int → Int → Int → Int → List Int → Int → Z
abbrev u_Z54_L3 {Z : Type} (f : A_Z54_L3 Z) (t : T_Z54_L3) : Z := f t.1.1 t.1.2.1 t.2.1 t.2.2.1.1 t.2.2.1.2.1 t.2.2.2.1.2.1 t.2.2.2.2.1.1 t.2.2.2.2.1.2.1 t.2.2.2.2.1.2.2.1 t.2.2.2.2.2.1
theorem loop_Z54_L3 {Q : A_Z54_L3 (((((List (Int × Int × Option (List Int))) × Int × Unit) × Unit) × ((List Int × Int × Unit) × Unit)) → Prop)} (I : A_Z54_L3 Prop) (μ : A_Z54_L3 Nat)
    (step : ∀ a0 a1 a2 a3 a4 a5 a6 a7 a8 a9, I a0 a1 a2 a3 a4 a5 a6 a7 a8 a9 → ∀ again : (Nat → Nat) → T_Z54_L3 → R_Z54, Dep 2 again → (∀ y0 y1 y2 y3 y4 y5 y6 y7 y8 y9, I y0 y1 y2 y3 y4 y5 y6 y7 y8 y9 → μ y0 y1 y2 y3 y4 y5 y6 y7 y8 y9 < μ a0 a1 a2 a3 a4 a5 a6 a7 a8 a9 → Tot (fun σ => again σ ((y0, y1, ()), y2, (y3, y4, ()), ((), y5, ()), (y6, y7, y8, ()), y9, ())) (Q y0 y1 y2 y3 y4 y5 y6 y7 y8 y9)) →
      Tot (fun σ => B_Z54_L3b (σ 0) (F_Z14 (σ 0)) (F_Z10 (σ 0)) (F_s_isKey (σ 0)) (F_Z17 (σ 0)) (again σ) a0 a1 a2 a3 a4 a5 a6 a7 a8 a9) (Q a0 a1 a2 a3 a4 a5 a6 a7 a8 a9)) :
    ∀ a0 a1 a2 a3 a4 a5 a6 a7 a8 a9, I a0 a1 a2 a3 a4 a5 a6 a7 a8 a9 → Tot (fun σ => B_Z54_L3 (σ 0) (F_Z14 (σ 0)) (F_Z10 (σ 0)) (F_s_isKey (σ 0)) (F_Z17 (σ 0)) (σ 0) ((a0, a1, ()), a2, (a3, a4, ()), ((), a5, ()), (a6, a7, a8, ()), a9, ())) (Q a0 a1 a2 a3 a4 a5 a6 a7 a8 a9) := fun a0 a1 a2 a3 a4 a5 a6 a7 a8 a9 => Tot.loop0 (L := fun k => B_Z54_L3 k (F_Z14 k) (F_Z10 k) (F_s_isKey k) (F_Z17 k)) (B := fun k g => u_Z54_L3 (B_Z54_L3b k (F_Z14 k) (F_Z10 k) (F_s_isKey k) (F_Z17 k) g)) (Q := u_Z54_L3 Q) (fun _ _ _ => rfl) (u_Z54_L3 I) (u_Z54_L3 μ)
    (fun t ht again hag h => step t.1.1 t.1.2.1 t.2.1 t.2.2.1.1 t.2.2.1.2.1 t.2.2.2.1.2.1 t.2.2.2.2.1.1 t.2.2.2.2.1.2.1 t.2.2.2.2.1.2.2.1 t.2.2.2.2.2.1 ht again hag fun y0 y1 y2 y3 y4 y5 y6 y7 y8 y9 => h ((y0, y1, ()), y2, (y3, y4, ()), ((), y5, ()), (y6, y7, y8, ()), y9, ())) ((a0, a1, ()), a2, (a3, a4, ()), ((), a5, ()), (a6, a7, a8, ()), a9, ())
abbrev R_Z36 : Type := Option ((((List (Int × Int × List Int)) × Int × Unit) × Unit) × ((List Int × Int × Unit) × Unit))
abbrev C_Z36 : Type := List Int → Int → R_Z36
abbrev T_Z36_L1 : Type := (List Int × Int × Unit) × (Unit × Int × Unit) × ((List (Int × Int × Option (List Int))) × Int × Unit) × Int × Unit
abbrev T_Z36_L0 : Type := (List Int × Int × Unit) × (Unit × Int × Unit) × ((List (Int × Int × Option (List Int))) × Int × Unit) × Int × Unit
def B_Z36_J2 (k : Nat) (c_Z14 : C_Z14) (c_Z44 : C_Z44) (c_Z54 : C_Z54) (c_Z10 : C_Z10) (r_b : List Int) (r_p t2_Root : Int) (g_Nodes : List (Int × Int × Option (List Int))) (g_Root : Int) : R_Z36 :=
  some ((((g_Nodes.map (fun p => (p.1, (p.2.1, p.2.2.getD [])))), g_Root, ()), ()), ((r_b, r_p, ()), ()))
def B_Z36_L1b (k : Nat) (c_Z14 : C_Z14) (c_Z44 : C_Z44) (c_Z54 : C_Z54) (c_Z10 : C_Z10) (again1 : T_Z36_L1 → R_Z36) (r_b : List Int) (r_p t2_Root : Int) (g_Nodes : List (Int × Int × Option (List Int))) (g_Root i : Int) : R_Z36 :=
  bif decide (i < (len g_Nodes)) then
    (c_Z54 r_b r_p g_Nodes g_Root i).bind fun r36 =>
    again1 ((r36.2.1.1, r36.2.1.2.1, ()), ((), t2_Root, ()), (r36.1.1.1, r36.1.1.2.1, ()), w64 (i + 1), ())
  else
    (c_Z10 r_b r_p 3).bind fun r38 =>
    bif (r38.1.1 == 0) then
      (c_Z10 r38.2.1.1 r38.2.1.2.1 (len g_Nodes)).bind fun r44 =>
      jn (fun t => B_Z36_J2 k c_Z14 c_Z44 c_Z54 c_Z10 t.1.1 t.1.2.1 t.2.1.2.1 t.2.2.1.1 t.2.2.1.2.1) ((r44.2.1.1, r44.2.1.2.1, ()), ((), t2_Root, ()), (g_Nodes, r44.1.1, ()), ())
    else
      jn (fun t => B_Z36_J2 k c_Z14 c_Z44 c_Z54 c_Z10 t.1.1 t.1.2.1 t.2.1.2.1 t.2.2.1.1 t.2.2.1.2.1) ((r38.2.1.1, r38.2.1.2.1, ()), ((), t2_Root, ()), (g_Nodes, g_Root, ()), ())
def B_Z36_L1 (k : Nat) (c_Z14 : C_Z14) (c_Z44 : C_Z44) (c_Z54 : C_Z54) (c_Z10 : C_Z10) (n : Nat) (t : T_Z36_L1) : R_Z36 :=
  lfix n (fun again t => B_Z36_L1b k c_Z14 c_Z44 c_Z54 c_Z10 again t.1.1 t.1.2.1 t.2.1.2.1 t.2.2.1.1 t.2.2.1.2.1 t.2.2.2.1) t
def B_Z36_L0b (k : Nat) (c_Z14 : C_Z14) (c_Z44 : C_Z44) (c_Z54 : C_Z54) (c_Z10 : C_Z10) (again0 : T_Z36_L0 → R_Z36) (r_b : List Int) (r_p t2_Root : Int) (g_Nodes : List (Int × Int × Option (List Int))) (g_Root n4 : Int) : R_Z36 :=
  bif decide (n4 > 0) then
    (c_Z44 r_b r_p).bind fun r17 =>
    chk (room g_Nodes.length ([(r17.1.1.1, (r17.1.1.2.1, (none : Option (List Int))))]).length) <|
    again0 ((r17.2.1.1, r17.2.1.2.1, ()), ((), t2_Root, ()), ((g_Nodes ++ [(r17.1.1.1, (r17.1.1.2.1, (none : Option (List Int))))]), g_Root, ()), w64 (n4 - 1), ())
  else
    B_Z36_L1 k c_Z14 c_Z44 c_Z54 c_Z10 k ((r_b, r_p, ()), ((), t2_Root, ()), (g_Nodes, w64 ((len g_Nodes) - 1), ()), 0, ())
def B_Z36_L0 (k : Nat) (c_Z14 : C_Z14) (c_Z44 : C_Z44) (c_Z54 : C_Z54) (c_Z10 : C_Z10) (n : Nat) (t : T_Z36_L0) : R_Z36 :=
  lfix n (fun again t => B_Z36_L0b k c_Z14 c_Z44 c_Z54 c_Z10 again t.1.1 t.1.2.1 t.2.1.2.1 t.2.2.1.1 t.2.2.1.2.1 t.2.2.2.1) t
def B_Z36 (k : Nat) (c_Z14 : C_Z14) (c_Z44 : C_Z44) (c_Z54 : C_Z54) (c_Z10 : C_Z10) (r_b : List Int) (r_p : Int) : R_Z36 :=
  (c_Z14 r_b r_p ([5, 6, 4, 7, 3, 8, 1, 2, 10])).bind fun r9 =>
  B_Z36_L0 k c_Z14 c_Z44 c_Z54 c_Z10 k ((r9.2.1.1, r9.2.1.2.1, ()), ((), 0, ()), ([], 0, ()), r9.1.1, ())
def F_Z36 : Nat → C_Z36
  | 0, _, _ => none
  | k + 1, r_b, r_p => B_Z36 k (F_Z14 k) (F_Z44 k) (F_Z54 k) (F_Z10 k) r_b r_p
theorem tot_Z36 {r_b r_p : _} {Q : _ → Prop} (h : Tot (fun σ => B_Z36 (σ 0) (F_Z14 (σ 0)) (F_Z44 (σ 0)) (F_Z54 (σ 0)) (F_Z10 (σ 0)) r_b r_p) Q) : Tot (fun σ => F_Z36 (σ 0) r_b r_p) Q :=
  Tot.call (F := fun k => F_Z36 k r_b r_p) (B := fun k => B_Z36 k (F_Z14 k) (F_Z44 k) (F_Z54 k) (F_Z10 k) r_b r_p) (fun k => rfl) h
abbrev A_Z36_L1 (Z : Type) : Type := List Int → Int → Int → (List (Int × Int × Option (List Int))) → Int → Int → Z
abbrev u_Z36_L1 {Z : Type} (f : A_Z36_L1 Z) (t : T_Z36_L1) : Z := f t.1.1 t.1.2.1 t.2.1.2.1 t.2.2.1.1 t.2.2.1.2.1 t.2.2.2.1
theorem loop_Z36_L1 {Q : A_Z36_L1 (((((List (Int × Int × List Int)) × Int × Unit) × Unit) × ((List Int × Int × Unit) × Unit)) → Prop)} (I : A_Z36_L1 Prop) (μ : A_Z36_L1 Nat)
    (step : ∀ a0 a1 a2 a3 a4 a5, I a0 a1 a2 a3 a4 a5 → ∀ again : (Nat → Nat) → T_Z36_L1 → R_Z36, Dep 2 again → (∀ y0 y1 y2 y3 y4 y5, I y0 y1 y2 y3 y4 y5 → μ y0 y1 y2 y3 y4 y5 < μ a0 a1 a2 a3 a4 a5 → Tot (fun σ => again σ ((y0, y1, ()), ((), y2, ()), (y3, y4, ()), y5, ())) (Q y0 y1 y2 y3 y4 y5)) →
      Tot (fun σ => B_Z36_L1b (σ 0) (F_Z14 (σ 0)) (F_Z44 (σ 0)) (F_Z54 (σ 0)) (F_Z10 (σ 0)) (again σ) a0 a1 a2 a3 a4 a5) (Q a0 a1 a2 a3 a4 a5)) :
    ∀ a0 a1 a2 a3 a4 a5, I a0 a1 a2 a3 a4 a5 → Tot (fun σ => B_Z36_L1 (σ 0) (F_Z14 (σ 0)) (F_Z44 (σ 0)) (F_Z54 (σ 0)) (F_Z10 (σ 0)) (σ 0) ((a0, a1, ()), ((), a2, ()), (a3, a4, ()), a5, ())) (Q a0 a1 a2 a3 a4 a5) := fun a0 a1 a2 a3 a4 a5 => Tot.loop0 (L := fun k => B_Z36_L1 k (F_Z14 k) (F_Z44 k) (F_Z54 k) (F_Z10 k)) (B := fun k g => u_Z36_L1 (B_Z36_L1b k (F_Z14 k) (F_Z44 k) (F_Z54 k) (F_Z10 k) g)) (Q := u_Z36_L1 Q) (fun _ _ _ => rfl) (u_Z36_L1 I) (u_Z36_L1 μ)
    (fun t ht again hag h => step t.1.1 t.1.2.1 t.2.1.2.1 t.2.2.1.1 t.2.2.1.2.1 t.2.2.2.1 ht again hag fun y0 y1 y2 y3 y4 y5 => h ((y0, y1, ()), ((), y2, ()), (y3, y4, ()), y5, ())) ((a0, a1, ()), ((), a2, ()), (a3, a4, ()), a5, ())
abbrev A_Z36_L0 (Z : Type) : Type := List Int → Int → Int → (List (Int × Int × Option (List Int))) → Int → Int → Z
abbrev u_Z36_L0 {Z : Type} (f : A_Z36_L0 Z) (t : T_Z36_L0) : Z := f t.1.1 t.1.2.1 t.2.1.2.1 t.2.2.1.1 t.2.2.1.2.1 t.2.2.2.1
theorem loop_Z36_L0 {Q : A_Z36_L0 (((((List (Int × Int × List Int)) × Int × Unit) × Unit) × ((List Int × Int × Unit) × Unit)) → Prop)} (I : A_Z36_L0 Prop) (μ : A_Z36_L0 Nat)
    (step : ∀ a0 a1 a2 a3 a4 a5, I a0 a1 a2 a3 a4 a5 → ∀ again : (Nat → Nat) → T_Z36_L0 → R_Z36, Dep 2 again → (∀ y0 y1 y2 y3 y4 y5, I y0 y1 y2 y3 y4 y5 → μ y0 y1 y2 y3 y4 y5 < μ a0 a1 a2 a3 a4 a5 → Tot (fun σ => again σ ((y0, y1, ()), ((), y2, ()), (y3, y4, ()), y5, ())) (Q y0 y1 y2 y3 y4 y5)) →
      Tot (fun σ => B_Z36_L0b (σ 0) (F_Z14 (σ 0)) (F_Z44 (σ 0)) (F_Z54 (σ 0)) (F_Z10 (σ 0)) (again σ) a0 a1 a2 a3 a4 a5) (Q a0 a1 a2 a3 a4 a5)) :
    ∀ a0 a1 a2 a3 a4 a5, I a0 a1 a2 a3 a4 a5 → Tot (fun σ => B_Z36_L0 (σ 0) (F_Z14 (σ 0)) (F_Z44 (σ 0)) (F_Z54 (σ 0)) (F_Z10 (σ 0)) (σ 0) ((a0, a1, ()), ((), a2, ()), (a3, a4, ()), a5, ())) (Q a0 a1 a2 a3 a4 a5) := fun a0 a1 a2 a3 a4 a5 => Tot.loop0 (L := fun k => B_Z36_L0 k (F_Z14 k) (F_Z44 k) (F_Z54 k) (F_Z10 k)) (B := fun k g => u_Z36_L0 (B_Z36_L0b k (F_Z14 k) (F_Z44 k) (F_Z54 k) (F_Z10 k) g)) (Q := u_Z36_L0 Q) (fun _ _ _ => rfl) (u_Z36_L0 I) (u_Z36_L0 μ)
    (fun t ht again hag h => step t.1.1 t.1.2.1 t.2.1.2.1 t.2.2.1.1 t.2.2.1.2.1 t.2.2.2.1 ht again hag fun y0 y1 y2 y3 y4 y5 => h ((y0, y1, ()), ((), y2, ()), (y3, y4, ()), y5, ())) ((a0, a1, ()), ((), a2, ()), (a3, a4, ()), a5, ())
abbrev R_Z41 : Type := Option ((((List (Int × Int × List Int)) × Int × Unit) × Unit) × ((List Int × Int × Unit) × Unit))
abbrev C_Z41 : Type := List Int → Int → R_Z41
def B_Z41_J0 (k : Nat) (c_Z36 : C_Z36) (c_Z10 : C_Z10) (c_Z14 : C_Z14) (r_b : List Int) (r_p t2_Root : Int) (g_Nodes : List (Int × Int × List Int)) (g_Root : Int) : R_Z41 :=
  some (((g_Nodes, g_Root, ()), ()), ((r_b, r_p, ()), ()))
def B_Z41 (k : Nat) (c_Z36 : C_Z36) (c_Z10 : C_Z10) (c_Z14 : C_Z14) (r_b : List Int) (r_p : Int) : R_Z41 :=
  (c_Z36 r_b r_p).bind fun r6 =>
  (c_Z10 r6.2.1.1 r6.2.1.2.1 (len r6.1.1.1)).bind fun r11 =>
  (c_Z10 r11.2.1.1 r11.2.1.2.1 20).bind fun r13 =>
  bif (r13.1.1 == 0) then
    chk (inb r11.1.1 r6.1.1.1.length) <|
    chk (decide (r11.1.1.toNat < r6.1.1.1.length)) <|
    (c_Z14 r13.2.1.1 r13.2.1.2.1 ([(-1), len r6.1.1.1])).bind fun r30 =>
    chk (room (((r6.1.1.1.getD r11.1.1.toNat ((0 : Int), ((0 : Int), ([] : List Int)))).2).2).length ([r30.1.1]).length) <|
    chk (inb r11.1.1 r6.1.1.1.length) <|
    chk (decide (r11.1.1.toNat = r11.1.1.toNat)) <|
    let w3 : List (Int × Int × List Int) := (r6.1.1.1.set r11.1.1.toNat ((r6.1.1.1.getD r11.1.1.toNat ((0 : Int), ((0 : Int), ([] : List Int)))).1, (((r6.1.1.1.getD r11.1.1.toNat ((0 : Int), ((0 : Int), ([] : List Int)))).2).1, (((r6.1.1.1.getD r11.1.1.toNat ((0 : Int), ((0 : Int), ([] : List Int)))).2).2 ++ [r30.1.1]))))
    jn (fun t => B_Z41_J0 k c_Z36 c_Z10 c_Z14 t.1.1 t.1.2.1 t.2.1.2.1 t.2.2.1.1 t.2.2.1.2.1) ((r30.2.1.1, r30.2.1.2.1, ()), ((), 0, ()), (w3, r6.1.1.2.1, ()), ())
  else
    bif (r13.1.1 == 1) then
      (c_Z14 r13.2.1.1 r13.2.1.2.1 ([(-1), 6, 4])).bind fun r42 =>
      chk (inb r11.1.1 r6.1.1.1.length) <|
      chk (decide (r11.1.1.toNat < r6.1.1.1.length)) <|
      jn (fun t => B_Z41_J0 k c_Z36 c_Z10 c_Z14 t.1.1 t.1.2.1 t.2.1.2.1 t.2.2.1.1 t.2.2.1.2.1) ((r42.2.1.1, r42.2.1.2.1, ()), ((), 0, ()), ((r6.1.1.1.set r11.1.1.toNat (r42.1.1, (r6.1.1.1.getD r11.1.1.toNat ((0 : Int), ((0 : Int), ([] : List Int)))).2)), r6.1.1.2.1, ()), ())
    else
      bif (r13.1.1 == 2) then
        chk (inb r11.1.1 r6.1.1.1.length) <|
        chk (decide (r11.1.1.toNat < r6.1.1.1.length)) <|
        jn (fun t => B_Z41_J0 k c_Z36 c_Z10 c_Z14 t.1.1 t.1.2.1 t.2.1.2.1 t.2.2.1.1 t.2.2.1.2.1) ((r13.2.1.1, r13.2.1.2.1, ()), ((), 0, ()), ((r6.1.1.1.set r11.1.1.toNat (2, (0, [r11.1.1]))), r6.1.1.2.1, ()), ())
      else
        bif (r13.1.1 == 3) then
          (c_Z14 r13.2.1.1 r13.2.1.2.1 ([(-1), len r6.1.1.1])).bind fun r61 =>
          jn (fun t => B_Z41_J0 k c_Z36 c_Z10 c_Z14 t.1.1 t.1.2.1 t.2.1.2.1 t.2.2.1.1 t.2.2.1.2.1) ((r61.2.1.1, r61.2.1.2.1, ()), ((), 0, ()), (r6.1.1.1, r61.1.1, ()), ())
        else
          jn (fun t => B_Z41_J0 k c_Z36 c_Z10 c_Z14 t.1.1 t.1.2.1 t.2.1.2.1 t.2.2.1.1 t.2.2.1.2.1) ((r13.2.1.1, r13.2.1.2.1, ()), ((), 0, ()), (r6.1.1.1, r6.1.1.2.1, ()), ())
def F_Z41 : Nat → C_Z41
  | 0, _, _ => none
  | k + 1, r_b, r_p => B_Z41 k (F_Z36 k) (F_Z10 k) (F_Z14 k) r_b r_p
theorem tot_Z41 {r_b r_p : _} {Q : _ → Prop} (h : Tot (fun σ => B_Z41 (σ 0) (F_Z36 (σ 0)) (F_Z10 (σ 0)) (F_Z14 (σ 0)) r_b r_p) Q) : Tot (fun σ => F_Z41 (σ 0) r_b r_p) Q :=
  Tot.call (F := fun k => F_Z41 k r_b r_p) (B := fun k => B_Z41 k (F_Z36 k) (F_Z10 k) (F_Z14 k) r_b r_p) (fun k => rfl) h
abbrev R_Z58 : Type := Option ((((List (Int × Int × List Int)) × Int × Unit) × List Int × Unit) × ((List Int × Int × Unit) × Unit))
abbrev C_Z58 : Type := List Int → Int → R_Z58
abbrev T_Z58_L0 : Type := (List Int × Int × Unit) × (Unit × Int × Unit) × ((List (Int × Int × List Int)) × Int × Unit) × List Int × Int × Unit
def B_Z58_J2 (k : Nat) (c_Z41 : C_Z41) (c_Z14 : C_Z14) (c_Z10 : C_Z10) (r_b : List Int) (r_p t2_Root : Int) (g_Nodes : List (Int × Int × List Int)) (g_Root : Int) (out : List Int) : R_Z58 :=
  some (((g_Nodes, g_Root, ()), out, ()), ((r_b, r_p, ()), ()))
def B_Z58_J1 (k : Nat) (c_Z41 : C_Z41) (c_Z14 : C_Z14) (c_Z10 : C_Z10) (r_b : List Int) (r_p t2_Root : Int) (g_Nodes : List (Int × Int × List Int)) (g_Root : Int) (out : List Int) (t32 : Bool) : R_Z58 :=
  bif t32 then
    (c_Z14 r_b r_p ([(-1), 12])).bind fun r36 =>
    chk (inb 0 out.length) <|
    chk (decide ((0 : Int).toNat < out.length)) <|
    jn (fun t => B_Z58_J2 k c_Z41 c_Z14 c_Z10 t.1.1 t.1.2.1 t.2.1.2.1 t.2.2.1.1 t.2.2.1.2.1 t.2.2.2.1) ((r36.2.1.1, r36.2.1.2.1, ()), ((), t2_Root, ()), (g_Nodes, g_Root, ()), (out.set ((0 : Int).toNat) r36.1.1), ())
  else
    jn (fun t => B_Z58_J2 k c_Z41 c_Z14 c_Z10 t.1.1 t.1.2.1 t.2.1.2.1 t.2.2.1.1 t.2.2.1.2.1 t.2.2.2.1) ((r_b, r_p, ()), ((), t2_Root, ()), (g_Nodes, g_Root, ()), out, ())
def B_Z58_L0b (k : Nat) (c_Z41 : C_Z41) (c_Z14 : C_Z14) (c_Z10 : C_Z10) (again0 : T_Z58_L0 → R_Z58) (r_b : List Int) (r_p t2_Root : Int) (g_Nodes : List (Int × Int × List Int)) (g_Root : Int) (out : List Int) (n6 : Int) : R_Z58 :=
  bif decide (n6 > 0) then
    (c_Z10 r_b r_p (len g_Nodes)).bind fun r22 =>
    chk (room out.length ([r22.1.1]).length) <|
    again0 ((r22.2.1.1, r22.2.1.2.1, ()), ((), t2_Root, ()), (g_Nodes, g_Root, ()), (out ++ [r22.1.1]), w64 (n6 - 1), ())
  else
    bif decide ((len out) > 0) then
      (c_Z10 r_b r_p 16).bind fun r30 =>
      jn (fun t => B_Z58_J1 k c_Z41 c_Z14 c_Z10 t.1.1 t.1.2.1 t.2.1.2.1 t.2.2.1.1 t.2.2.1.2.1 t.2.2.2.1 t.2.2.2.2.1) ((r30.2.1.1, r30.2.1.2.1, ()), ((), t2_Root, ()), (g_Nodes, g_Root, ()), out, (r30.1.1 == 0), ())
    else
      jn (fun t => B_Z58_J1 k c_Z41 c_Z14 c_Z10 t.1.1 t.1.2.1 t.2.1.2.1 t.2.2.1.1 t.2.2.1.2.1 t.2.2.2.1 t.2.2.2.2.1) ((r_b, r_p, ()), ((), t2_Root, ()), (g_Nodes, g_Root, ()), out, false, ())
def B_Z58_L0 (k : Nat) (c_Z41 : C_Z41) (c_Z14 : C_Z14) (c_Z10 : C_Z10) (n : Nat) (t : T_Z58_L0) : R_Z58 :=
  lfix n (fun again t => B_Z58_L0b k c_Z41 c_Z14 c_Z10 again t.1.1 t.1.2.1 t.2.1.2.1 t.2.2.1.1 t.2.2.1.2.1 t.2.2.2.1 t.2.2.2.2.1) t
def B_Z58 (k : Nat) (c_Z41 : C_Z41) (c_Z14 : C_Z14) (c_Z10 : C_Z10) (r_b : List Int) (r_p : Int) : R_Z58 :=
  (c_Z41 r_b r_p).bind fun r8 =>
  (c_Z14 r8.2.1.1 r8.2.1.2.1 ([2, 3, 1, 0, 5])).bind fun r12 =>
  B_Z58_L0 k c_Z41 c_Z14 c_Z10 k ((r12.2.1.1, r12.2.1.2.1, ()), ((), 0, ()), (r8.1.1.1, r8.1.1.2.1, ()), [], r12.1.1, ())
def F_Z58 : Nat → C_Z58
  | 0, _, _ => none
  | k + 1, r_b, r_p => B_Z58 k (F_Z41 k) (F_Z14 k) (F_Z10 k) r_b r_p
theorem tot_Z58 {r_b r_p : _} {Q : _ → Prop} (h : Tot (fun σ => B_Z58 (σ 0) (F_Z41 (σ 0)) (F_Z14 (σ 0)) (F_Z10 (σ 0)) r_b r_p) Q) : Tot (fun σ => F_Z58 (σ 0) r_b r_p) Q :=
  Tot.call (F := fun k => F_Z58 k r_b r_p) (B := fun k => B_Z58 k (F_Z41 k) (F_Z14 k) (F_Z10 k) r_b r_p) (fun k => rfl) h
abbrev A_Z58_L0 (Z : Type) : Type := List Int → Int → Int → (List (Int × Int × List Int)) → Int → List Int → Int → Z
abbrev u_Z58_L0 {Z : Type} (f : A_Z58_L0 Z) (t : T_Z58_L0) : Z := f t.1.1 t.1.2.1 t.2.1.2.1 t.2.2.1.1 t.2.2.1.2.1 t.2.2.2.1 t.2.2.2.2.1
theorem loop_Z58_L0 {Q : A_Z58_L0 (((((List (Int × Int × List Int)) × Int × Unit) × List Int × Unit) × ((List Int × Int × Unit) × Unit)) → Prop)} (I : A_Z58_L0 Prop) (μ : A_Z58_L0 Nat)
    (step : ∀ a0 a1 a2 a3 a4 a5 a6, I a0 a1 a2 a3 a4 a5 a6 → ∀ again : (Nat → Nat) → T_Z58_L0 → R_Z58, Dep 2 again → (∀ y0 y1 y2 y3 y4 y5 y6, I y0 y1 y2 y3 y4 y5 y6 → μ y0 y1 y2 y3 y4 y5 y6 < μ a0 a1 a2 a3 a4 a5 a6 → Tot (fun σ => again σ ((y0, y1, ()), ((), y2, ()), (y3, y4, ()), y5, y6, ())) (Q y0 y1 y2 y3 y4 y5 y6)) →
      Tot (fun σ => B_Z58_L0b (σ 0) (F_Z41 (σ 0)) (F_Z14 (σ 0)) (F_Z10 (σ 0)) (again σ) a0 a1 a2 a3 a4 a5 a6) (Q a0 a1 a2 a3 a4 a5 a6)) :
    ∀ a0 a1 a2 a3 a4 a5 a6, I a0 a1 a2 a3 a4 a5 a6 → Tot (fun σ => B_Z58_L0 (σ 0) (F_Z41 (σ 0)) (F_Z14 (σ 0)) (F_Z10 (σ 0)) (σ 0) ((a0, a1, ()), ((), a2, ()), (a3, a4, ()), a5, a6, ())) (Q a0 a1 a2 a3 a4 a5 a6) := fun a0 a1 a2 a3 a4 a5 a6 => Tot.loop0 (L := fun k => B_Z58_L0 k (F_Z41 k) (F_Z14 k) (F_Z10 k)) (B := fun k g => u_Z58_L0 (B_Z58_L0b k (F_Z41 k) (F_Z14 k) (F_Z10 k) g)) (Q := u_Z58_L0 Q) (fun _ _ _ => rfl) (u_Z58_L0 I) (u_Z58_L0 μ)
    (fun t ht again hag h => step t.1.1 t.1.2.1 t.2.1.2.1 t.2.2.1.1 t.2.2.1.2.1 t.2.2.2.1 t.2.2.2.2.1 ht again hag fun y0 y1 y2 y3 y4 y5 y6 => h ((y0, y1, ()), ((), y2, ()), (y3, y4, ()), y5, y6, ())) ((a0, a1, ()), ((), a2, ()), (a3, a4, ()), a5, a6, ())
abbrev R_Z22 : Type := Option ((Bool × Unit) × (Unit))
abbrev C_Z22 : Type := (List (Int × Int × List Int)) → Int → List Int → R_Z22
def B_Z22 (k : Nat) (c_Z17 : C_Z17) (c_s_allIn : C_s_allIn) (g_0 : List (Int × Int × List Int)) (g_1 : Int) (roots : List Int) : R_Z22 :=
  (c_Z17 g_0 g_1).bind fun r6 =>
  bif r6.1.1 then
    bif decide ((len roots) ≤ 5) then
      (c_s_allIn roots 0 (w64 ((len g_0) - 1))).bind fun r18 =>
      some ((r18.1.1, ()), ())
    else
      some ((false, ()), ())
  else
    some ((false, ()), ())
def F_Z22 : Nat → C_Z22
  | 0, _, _, _ => none
  | k + 1, g_0, g_1, roots => B_Z22 k (F_Z17 k) (F_s_allIn k) g_0 g_1 roots
theorem tot_Z22 {g_0 g_1 roots : _} {Q : _ → Prop} (h : Tot (fun σ => B_Z22 (σ 0) (F_Z17 (σ 0)) (F_s_allIn (σ 0)) g_0 g_1 roots) Q) : Tot (fun σ => F_Z22 (σ 0) g_0 g_1 roots) Q :=
  Tot.call (F := fun k => F_Z22 k g_0 g_1 roots) (B := fun k => B_Z22 k (F_Z17 k) (F_s_allIn k) g_0 g_1 roots) (fun k => rfl) h
abbrev R_Z25 : Type := Option (((List Int × List Bool × List Int × List Int × Bool × Unit) × Unit) × (Unit))
abbrev C_Z25 : Type := R_Z25
abbrev T_Z25_L0 : Type := (Unit × Unit × Unit × Unit × Bool × Unit) × (Unit × Unit × Unit × List Int × Bool × Unit) × Int × Unit
def B_Z25_L0b (k : Nat) (again0 : T_Z25_L0 → R_Z25) (t0_Done : Bool) (s_Memo : List Int) (s_Done : Bool) (i : Int) : R_Z25 :=
  bif decide (i < 20) then
    chk (room s_Memo.length ([(-1)]).length) <|
    again0 (((), (), (), (), t0_Done, ()), ((), (), (), (s_Memo ++ [(-1)]), s_Done, ()), w64 (i + 1), ())
  else
    some ((([], [], [], s_Memo, s_Done, ()), ()), ())
def B_Z25_L0 (k : Nat) (n : Nat) (t : T_Z25_L0) : R_Z25 :=
  lfix n (fun again t => B_Z25_L0b k again t.1.2.2.2.2.1 t.2.1.2.2.2.1 t.2.1.2.2.2.2.1 t.2.2.1) t
def B_Z25 (k : Nat) : R_Z25 :=
  B_Z25_L0 k k (((), (), (), (), false, ()), ((), (), (), [], false, ()), 0, ())
def F_Z25 : Nat → C_Z25
  | 0 => none
  | k + 1 => B_Z25 k
theorem tot_Z25 {Q : _ → Prop} (h : Tot (fun σ => B_Z25 (σ 0)) Q) : Tot (fun σ => F_Z25 (σ 0)) Q :=
  Tot.call (F := fun k => F_Z25 k) (B := fun k => B_Z25 k) (fun k => rfl) h
abbrev A_Z25_L0 (Z : Type) : Type := Bool → List Int → Bool → Int → Z
abbrev u_Z25_L0 {Z : Type} (f : A_Z25_L0 Z) (t : T_Z25_L0) : Z := f t.1.2.2.2.2.1 t.2.1.2.2.2.1 t.2.1.2.2.2.2.1 t.2.2.1
theorem loop_Z25_L0 {Q : A_Z25_L0 ((((List Int × List Bool × List Int × List Int × Bool × Unit) × Unit) × (Unit)) → Prop)} (I : A_Z25_L0 Prop) (μ : A_Z25_L0 Nat)
    (step : ∀ a0 a1 a2 a3, I a0 a1 a2 a3 → ∀ again : (Nat → Nat) → T_Z25_L0 → R_Z25, Dep 2 again → (∀ y0 y1 y2 y3, I y0 y1 y2 y3 → μ y0 y1 y2 y3 < μ a0 a1 a2 a3 → Tot (fun σ => again σ (((), (), (), (), y0, ()), ((), (), (), y1, y2, ()), y3, ())) (Q y0 y1 y2 y3)) →
      Tot (fun σ => B_Z25_L0b (σ 0) (again σ) a0 a1 a2 a3) (Q a0 a1 a2 a3)) :
    ∀ a0 a1 a2 a3, I a0 a1 a2 a3 → Tot (fun σ => B_Z25_L0 (σ 0) (σ 0) (((), (), (), (), a0, ()), ((), (), (), a1, a2, ()), a3, ())) (Q a0 a1 a2 a3) := fun a0 a1 a2 a3 => Tot.loop0 (L := fun k => B_Z25_L0 k) (B := fun k g => u_Z25_L0 (B_Z25_L0b k g)) (Q := u_Z25_L0 Q) (fun _ _ _ => rfl) (u_Z25_L0 I) (u_Z25_L0 μ)
    (fun t ht again hag h => step t.1.2.2.2.2.1 t.2.1.2.2.2.1 t.2.1.2.2.2.2.1 t.2.2.1 ht again hag fun y0 y1 y2 y3 => h (((), (), (), (), y0, ()), ((), (), (), y1, y2, ()), y3, ())) (((), (), (), (), a0, ()), ((), (), (), a1, a2, ()), a3, ())
abbrev R_s_someOp : Type := Option (((Int × Int × Unit) × Unit) × ((List Int × Int × Unit) × Unit))
abbrev C_s_someOp : Type := List Int → Int → R_s_someOp
def B_s_someOp_J1 (k : Nat) (c_Z10 : C_Z10) (c_Z14 : C_Z14) (r_b : List Int) (r_p t2_Code t2_Arg o_Code o_Arg : Int) : R_s_someOp :=
  some (((o_Code, o_Arg, ()), ()), ((r_b, r_p, ()), ()))
def B_s_someOp_J0 (k : Nat) (c_Z10 : C_Z10) (c_Z14 : C_Z14) (r_b : List Int) (r_p t2_Code t2_Arg o_Code o_Arg : Int) (t17 : Bool) : R_s_someOp :=
  bif t17 then
    (c_Z10 r_b r_p 4).bind fun r23 =>
    jn (fun t => B_s_someOp_J1 k c_Z10 c_Z14 t.1.1 t.1.2.1 t.2.1.1 t.2.1.2.1 t.2.2.1.1 t.2.2.1.2.1) ((r23.2.1.1, r23.2.1.2.1, ()), (t2_Code, t2_Arg, ()), (o_Code, r23.1.1, ()), ())
  else
    jn (fun t => B_s_someOp_J1 k c_Z10 c_Z14 t.1.1 t.1.2.1 t.2.1.1 t.2.1.2.1 t.2.2.1.1 t.2.2.1.2.1) ((r_b, r_p, ()), (t2_Code, t2_Arg, ()), (o_Code, o_Arg, ()), ())
def B_s_someOp (k : Nat) (c_Z10 : C_Z10) (c_Z14 : C_Z14) (r_b : List Int) (r_p : Int) : R_s_someOp :=
  (c_Z10 r_b r_p 20).bind fun r5 =>
  bif (r5.1.1 == 0) then
    (c_Z10 r5.2.1.1 r5.2.1.2.1 250).bind fun r13 =>
    (c_Z14 r13.2.1.1 r13.2.1.2.1 ([5, 127, 128, 999, r13.1.1])).bind fun r15 =>
    jn (fun t => B_s_someOp_J1 k c_Z10 c_Z14 t.1.1 t.1.2.1 t.2.1.1 t.2.1.2.1 t.2.2.1.1 t.2.2.1.2.1) ((r15.2.1.1, r15.2.1.2.1, ()), (0, 0, ()), (r5.1.1, r15.1.1, ()), ())
  else
    bif (r5.1.1 == 1) then
      jn (fun t => B_s_someOp_J0 k c_Z10 c_Z14 t.1.1 t.1.2.1 t.2.1.1 t.2.1.2.1 t.2.2.1.1 t.2.2.1.2.1 t.2.2.2.1) ((r5.2.1.1, r5.2.1.2.1, ()), (0, 0, ()), (r5.1.1, 0, ()), (r5.1.1 == 1), ())
    else
      bif (r5.1.1 == 13) then
        jn (fun t => B_s_someOp_J0 k c_Z10 c_Z14 t.1.1 t.1.2.1 t.2.1.1 t.2.1.2.1 t.2.2.1.1 t.2.2.1.2.1 t.2.2.2.1) ((r5.2.1.1, r5.2.1.2.1, ()), (0, 0, ()), (r5.1.1, 0, ()), (r5.1.1 == 13), ())
      else
        bif (r5.1.1 == 15) then
          jn (fun t => B_s_someOp_J0 k c_Z10 c_Z14 t.1.1 t.1.2.1 t.2.1.1 t.2.1.2.1 t.2.2.1.1 t.2.2.1.2.1 t.2.2.2.1) ((r5.2.1.1, r5.2.1.2.1, ()), (0, 0, ()), (r5.1.1, 0, ()), (r5.1.1 == 15), ())
        else
          jn (fun t => B_s_someOp_J0 k c_Z10 c_Z14 t.1.1 t.1.2.1 t.2.1.1 t.2.1.2.1 t.2.2.1.1 t.2.2.1.2.1 t.2.2.2.1) ((r5.2.1.1, r5.2.1.2.1, ()), (0, 0, ()), (r5.1.1, 0, ()), (r5.1.1 == 16), ())
def F_s_someOp : Nat → C_s_someOp
  | 0, _, _ => none
  | k + 1, r_b, r_p => B_s_someOp k (F_Z10 k) (F_Z14 k) r_b r_p
theorem tot_s_someOp {r_b r_p : _} {Q : _ → Prop} (h : Tot (fun σ => B_s_someOp (σ 0) (F_Z10 (σ 0)) (F_Z14 (σ 0)) r_b r_p) Q) : Tot (fun σ => F_s_someOp (σ 0) r_b r_p) Q :=
  Tot.call (F := fun k => F_s_someOp k r_b r_p) (B := fun k => B_s_someOp k (F_Z10 k) (F_Z14 k) r_b r_p) (fun k => rfl) h
abbrev R_Z15 : Type := Option (((List Int × List Bool × List Int × List Int × Bool × Unit) × Unit) × (Unit))
abbrev C_Z15 : Type := List Int → List Bool → List Int → List Int → Bool → R_Z15
def B_Z15 (k : Nat) (c_Z45 : C_Z45) (s_0 : List Int) (s_1 : List Bool) (s_2 s_3 : List Int) (s_4 : Bool) : R_Z15 :=
  (c_Z45 s_0).bind fun r5 =>
  chk (room ([] : List Bool).length s_1.length) <|
  (c_Z45 s_2).bind fun r12 =>
  (c_Z45 s_3).bind fun r15 =>
  some (((r5.1.1, s_1, r12.1.1, r15.1.1, s_4, ()), ()), ())
def F_Z15 : Nat → C_Z15
  | 0, _, _, _, _, _ => none
  | k + 1, s_0, s_1, s_2, s_3, s_4 => B_Z15 k (F_Z45 k) s_0 s_1 s_2 s_3 s_4
theorem tot_Z15 {s_0 s_1 s_2 s_3 s_4 : _} {Q : _ → Prop} (h : Tot (fun σ => B_Z15 (σ 0) (F_Z45 (σ 0)) s_0 s_1 s_2 s_3 s_4) Q) : Tot (fun σ => F_Z15 (σ 0) s_0 s_1 s_2 s_3 s_4) Q :=
  Tot.call (F := fun k => F_Z15 k s_0 s_1 s_2 s_3 s_4) (B := fun k => B_Z15 k (F_Z45 k) s_0 s_1 s_2 s_3 s_4) (fun k => rfl) h
abbrev R_Z52 : Type := Option ((Int × Unit) × (Unit))
abbrev C_Z52 : Type := Int → R_Z52
def B_Z52 (k : Nat) (c : Int) : R_Z52 :=
  bif (c == 0) then
    some ((0, ()), ())
  else
    bif (c == 1) then
      some ((1, ()), ())
    else
      bif (c == 4) then
        some ((2, ()), ())
      else
        bif (c == 7) then
          some ((3, ()), ())
        else
          bif (c == 10) then
            some ((4, ()), ())
          else
            bif (c == 13) then
              some ((5, ()), ())
            else
              some (((-1), ()), ())
def F_Z52 : Nat → C_Z52
  | 0, _ => none
  | k + 1, c => B_Z52 k c
theorem tot_Z52 {c : _} {Q : _ → Prop} (h : Tot (fun σ => B_Z52 (σ 0) c) Q) : Tot (fun σ => F_Z52 (σ 0) c) Q :=
  Tot.call (F := fun k => F_Z52 k c) (B := fun k => B_Z52 k c) (fun k => rfl) h
abbrev R_Z27 : Type := Option (((List Int × List Bool × List Int × List Int × Bool × Unit) × Unit) × (Unit))
abbrev C_Z27 : Type := List Int → List Bool → List Int → List Int → Bool → Int → R_Z27
def B_Z27 (k : Nat) (s_0 : List Int) (s_1 : List Bool) (s_2 s_3 : List Int) (s_4 : Bool) (kind : Int) : R_Z27 :=
  chk (room s_0.length ([kind]).length) <|
  chk (room s_1.length ([false]).length) <|
  chk (room s_2.length ([w64 ((len (s_0 ++ [kind])) - 1)]).length) <|
  some ((((s_0 ++ [kind]), (s_1 ++ [false]), (s_2 ++ [w64 ((len (s_0 ++ [kind])) - 1)]), s_3, s_4, ()), ()), ())
def F_Z27 : Nat → C_Z27
  | 0, _, _, _, _, _, _ => none
  | k + 1, s_0, s_1, s_2, s_3, s_4, kind => B_Z27 k s_0 s_1 s_2 s_3 s_4 kind
theorem tot_Z27 {s_0 s_1 s_2 s_3 s_4 kind : _} {Q : _ → Prop} (h : Tot (fun σ => B_Z27 (σ 0) s_0 s_1 s_2 s_3 s_4 kind) Q) : Tot (fun σ => F_Z27 (σ 0) s_0 s_1 s_2 s_3 s_4 kind) Q :=
  Tot.call (F := fun k => F_Z27 k s_0 s_1 s_2 s_3 s_4 kind) (B := fun k => B_Z27 k s_0 s_1 s_2 s_3 s_4 kind) (fun k => rfl) h
abbrev R_Z61 : Type := Option ((Int × Unit) × (Unit))
abbrev C_Z61 : Type := List Int → List Bool → List Int → List Int → Bool → Int → R_Z61
def B_Z61_J0 (k : Nat) (s_Kinds : List Int) (s_Full : List Bool) (s_Stack s_Memo : List Int) (s_Done : Bool) (at5 : Int) (t21 : Bool) : R_Z61 :=
  bif t21 then
    some (((-1), ()), ())
  else
    chk (inb at5 s_Stack.length) <|
    chk (inb (rdx (0 : Int) s_Stack at5) s_Kinds.length) <|
    some (((rdx (0 : Int) s_Kinds (rdx (0 : Int) s_Stack at5)), ()), ())
def B_Z61 (k : Nat) (s_0 : List Int) (s_1 : List Bool) (s_2 s_3 : List Int) (s_4 : Bool) (deep : Int) : R_Z61 :=
  bif decide ((w64 ((w64 ((len s_2) - 1)) - deep)) < 0) then
    jn (fun t => B_Z61_J0 k t.1.1 t.1.2.1 t.1.2.2.1 t.1.2.2.2.1 t.1.2.2.2.2.1 t.2.1 t.2.2.1) ((s_0, s_1, s_2, s_3, s_4, ()), w64 ((w64 ((len s_2) - 1)) - deep), true, ())
  else
    chk (inb (w64 ((w64 ((len s_2) - 1)) - deep)) s_2.length) <|
    jn (fun t => B_Z61_J0 k t.1.1 t.1.2.1 t.1.2.2.1 t.1.2.2.2.1 t.1.2.2.2.2.1 t.2.1 t.2.2.1) ((s_0, s_1, s_2, s_3, s_4, ()), w64 ((w64 ((len s_2) - 1)) - deep), decide ((rdx (0 : Int) s_2 (w64 ((w64 ((len s_2) - 1)) - deep))) < 0), ())
def F_Z61 : Nat → C_Z61
  | 0, _, _, _, _, _, _ => none
  | k + 1, s_0, s_1, s_2, s_3, s_4, deep => B_Z61 k s_0 s_1 s_2 s_3 s_4 deep
theorem tot_Z61 {s_0 s_1 s_2 s_3 s_4 deep : _} {Q : _ → Prop} (h : Tot (fun σ => B_Z61 (σ 0) s_0 s_1 s_2 s_3 s_4 deep) Q) : Tot (fun σ => F_Z61 (σ 0) s_0 s_1 s_2 s_3 s_4 deep) Q :=
  Tot.call (F := fun k => F_Z61 k s_0 s_1 s_2 s_3 s_4 deep) (B := fun k => B_Z61 k s_0 s_1 s_2 s_3 s_4 deep) (fun k => rfl) h
abbrev R_Z57 : Type := Option ((Bool × Unit) × (Unit))
abbrev C_Z57 : Type := Int → R_Z57
def B_Z57 (k : Nat) (kind : Int) : R_Z57 :=
  bif (kind == 0) then
    some ((true, ()), ())
  else
    some (((kind == 1), ()), ())
def F_Z57 : Nat → C_Z57
  | 0, _ => none
  | k + 1, kind => B_Z57 k kind
theorem tot_Z57 {kind : _} {Q : _ → Prop} (h : Tot (fun σ => B_Z57 (σ 0) kind) Q) : Tot (fun σ => F_Z57 (σ 0) kind) Q :=
  Tot.call (F := fun k => F_Z57 k kind) (B := fun k => B_Z57 k kind) (fun k => rfl) h
abbrev R_Z21 : Type := Option (((List Int × List Bool × List Int × List Int × Bool × Unit) × Bool × Unit) × (Unit))
abbrev C_Z21 : Type := List Int → List Bool → List Int → List Int → Bool → Int → R_Z21
abbrev T_Z21_L2 : Type := (List Int × List Bool × List Int × List Int × Bool × Unit) × (Unit × Unit × Unit × Unit × Bool × Unit) × List Int × Int × Unit
abbrev T_Z21_L1 : Type := Int × (List Int × List Bool × List Int × List Int × Bool × Unit) × (Unit × Unit × Unit × Unit × Bool × Unit) × Int × Unit
def B_Z21_L2b (k : Nat) (c_Z45 : C_Z45) (c_Z27 : C_Z27) (c_Z61 : C_Z61) (c_Z57 : C_Z57) (again2 : T_Z21_L2 → R_Z21) (s_Kinds : List Int) (s_Full : List Bool) (s_Stack s_Memo : List Int) (s_Done t4_Done : Bool) (list : List Int) (i : Int) : R_Z21 :=
  bif decide (i < (len list)) then
    chk (inb i list.length) <|
    chk (decide (i.toNat < list.length)) <|
    chk (inb (list.getD i.toNat (0 : Int)) s_Kinds.length) <|
    chk (decide ((list.getD i.toNat (0 : Int)).toNat < s_Kinds.length)) <|
    (c_Z57 (s_Kinds.getD ((list.getD i.toNat (0 : Int)).toNat) (0 : Int))).bind fun r66 =>
    bif (!r66.1.1) then
      some (((s_Kinds, s_Full, s_Stack, s_Memo, s_Done, ()), false, ()), ())
    else
      again2 ((s_Kinds, s_Full, s_Stack, s_Memo, s_Done, ()), ((), (), (), (), t4_Done, ()), list, w64 (i + 2), ())
  else
    (c_Z61 s_Kinds s_Full s_Stack s_Memo s_Done 0).bind fun r71 =>
    bif (r71.1.1 == 4) then
      some (((s_Kinds, s_Full, s_Stack, s_Memo, s_Done, ()), (((len list).tmod 2) == 0), ()), ())
    else
      some (((s_Kinds, s_Full, s_Stack, s_Memo, s_Done, ()), false, ()), ())
def B_Z21_L2 (k : Nat) (c_Z45 : C_Z45) (c_Z27 : C_Z27) (c_Z61 : C_Z61) (c_Z57 : C_Z57) (n : Nat) (t : T_Z21_L2) : R_Z21 :=
  lfix n (fun again t => B_Z21_L2b k c_Z45 c_Z27 c_Z61 c_Z57 again t.1.1 t.1.2.1 t.1.2.2.1 t.1.2.2.2.1 t.1.2.2.2.2.1 t.2.1.2.2.2.2.1 t.2.2.1 t.2.2.2.1) t
def B_Z21_J0 (k : Nat) (c_Z45 : C_Z45) (c_Z27 : C_Z27) (c_Z61 : C_Z61) (c_Z57 : C_Z57) (again1 : T_Z21_L1 → R_Z21) (c : Int) (s_Kinds : List Int) (s_Full : List Bool) (s_Stack s_Memo : List Int) (s_Done t4_Done : Bool) (at6 : Int) (t22 : Bool) : R_Z21 :=
  bif t22 then
    again1 (c, (s_Kinds, s_Full, s_Stack, s_Memo, s_Done, ()), ((), (), (), (), t4_Done, ()), w64 (at6 - 1), ())
  else
    bif decide (at6 < 0) then
      some (((s_Kinds, s_Full, s_Stack, s_Memo, s_Done, ()), false, ()), ())
    else
      chk (cutb (w64 (at6 + 1)) (len s_Stack) s_Stack.length) <|
      (c_Z45 ((s_Stack.take ((len s_Stack).toNat)).drop ((w64 (at6 + 1)).toNat))).bind fun r33 =>
      chk (cutb 0 at6 s_Stack.length) <|
      bif (c == 3) then
        (c_Z27 s_Kinds s_Full (s_Stack.take at6.toNat) s_Memo s_Done 2).bind fun r43 =>
        some (((r43.1.1.1, r43.1.1.2.1, r43.1.1.2.2.1, r43.1.1.2.2.2.1, r43.1.1.2.2.2.2.1, ()), true, ()), ())
      else
        bif (c == 9) then
          (c_Z61 s_Kinds s_Full ((s_Stack.take at6.toNat).drop 0) s_Memo s_Done 0).bind fun r48 =>
          some (((s_Kinds, s_Full, (s_Stack.take at6.toNat), s_Memo, s_Done, ()), (r48.1.1 == 3), ()), ())
        else
          bif (c == 12) then
            B_Z21_L2 k c_Z45 c_Z27 c_Z61 c_Z57 k ((s_Kinds, s_Full, (s_Stack.take at6.toNat), s_Memo, s_Done, ()), ((), (), (), (), t4_Done, ()), r33.1.1, 0, ())
          else
            some (((s_Kinds, s_Full, (s_Stack.take at6.toNat), s_Memo, s_Done, ()), true, ()), ())
def B_Z21_L1b (k : Nat) (c_Z45 : C_Z45) (c_Z27 : C_Z27) (c_Z61 : C_Z61) (c_Z57 : C_Z57) (again1 : T_Z21_L1 → R_Z21) (c : Int) (s_Kinds : List Int) (s_Full : List Bool) (s_Stack s_Memo : List Int) (s_Done t4_Done : Bool) (at6 : Int) : R_Z21 :=
  bif decide (at6 ≥ 0) then
    chk (inb at6 s_Stack.length) <|
    chk (decide (at6.toNat < s_Stack.length)) <|
    jn (fun t => B_Z21_J0 k c_Z45 c_Z27 c_Z61 c_Z57 again1 t.1 t.2.1.1 t.2.1.2.1 t.2.1.2.2.1 t.2.1.2.2.2.1 t.2.1.2.2.2.2.1 t.2.2.1.2.2.2.2.1 t.2.2.2.1 t.2.2.2.2.1) (c, (s_Kinds, s_Full, s_Stack, s_Memo, s_Done, ()), ((), (), (), (), t4_Done, ()), at6, decide ((s_Stack.getD at6.toNat (0 : Int)) ≥ 0), ())
  else
    jn (fun t => B_Z21_J0 k c_Z45 c_Z27 c_Z61 c_Z57 again1 t.1 t.2.1.1 t.2.1.2.1 t.2.1.2.2.1 t.2.1.2.2.2.1 t.2.1.2.2.2.2.1 t.2.2.1.2.2.2.2.1 t.2.2.2.1 t.2.2.2.2.1) (c, (s_Kinds, s_Full, s_Stack, s_Memo, s_Done, ()), ((), (), (), (), t4_Done, ()), at6, false, ())
def B_Z21_L1 (k : Nat) (c_Z45 : C_Z45) (c_Z27 : C_Z27) (c_Z61 : C_Z61) (c_Z57 : C_Z57) (n : Nat) (t : T_Z21_L1) : R_Z21 :=
  lfix n (fun again t => B_Z21_L1b k c_Z45 c_Z27 c_Z61 c_Z57 again t.1 t.2.1.1 t.2.1.2.1 t.2.1.2.2.1 t.2.1.2.2.2.1 t.2.1.2.2.2.2.1 t.2.2.1.2.2.2.2.1 t.2.2.2.1) t
def B_Z21 (k : Nat) (c_Z45 : C_Z45) (c_Z27 : C_Z27) (c_Z61 : C_Z61) (c_Z57 : C_Z57) (s_0 : List Int) (s_1 : List Bool) (s_2 s_3 : List Int) (s_4 : Bool) (c : Int) : R_Z21 :=
  B_Z21_L1 k c_Z45 c_Z27 c_Z61 c_Z57 k (c, (s_0, s_1, s_2, s_3, s_4, ()), ((), (), (), (), false, ()), w64 ((len s_2) - 1), ())
def F_Z21 : Nat → C_Z21
  | 0, _, _, _, _, _, _ => none
  | k + 1, s_0, s_1, s_2, s_3, s_4, c => B_Z21 k (F_Z45 k) (F_Z27 k) (F_Z61 k) (F_Z57 k) s_0 s_1 s_2 s_3 s_4 c
theorem tot_Z21 {s_0 s_1 s_2 s_3 s_4 c : _} {Q : _ → Prop} (h : Tot (fun σ => B_Z21 (σ 0) (F_Z45 (σ 0)) (F_Z27 (σ 0)) (F_Z61 (σ 0)) (F_Z57 (σ 0)) s_0 s_1 s_2 s_3 s_4 c) Q) : Tot (fun σ => F_Z21 (σ 0) s_0 s_1 s_2 s_3 s_4 c) Q :=
  Tot.call (F := fun k => F_Z21 k s_0 s_1 s_2 s_3 s_4 c) (B := fun k => B_Z21 k (F_Z45 k) (F_Z27 k) (F_Z61 k) (F_Z57 k) s_0 s_1 s_2 s_3 s_4 c) (fun k => rfl) h
abbrev A_Z21_L2 (Z : Type) : Type := List Int → List Bool → List Int → List Int → Bool → Bool → List Int → Int → Z
abbrev u_Z21_L2 {Z : Type} (f : A_Z21_L2 Z) (t : T_Z21_L2) : Z := f t.1.1 t.1.2.1 t.1.2.2.1 t.1.2.2.2.1 t.1.2.2.2.2.1 t.2.1.2.2.2.2.1 t.2.2.1 t.2.2.2.1
theorem loop_Z21_L2 {Q : A_Z21_L2 ((((List Int × List Bool × List Int × List Int × Bool × Unit) × Bool × Unit) × (Unit)) → Prop)} (I : A_Z21_L2 Prop) (μ : A_Z21_L2 Nat)
    (step : ∀ a0 a1 a2 a3 a4 a5 a6 a7, I a0 a1 a2 a3 a4 a5 a6 a7 → ∀ again : (Nat → Nat) → T_Z21_L2 → R_Z21, Dep 2 again → (∀ y0 y1 y2 y3 y4 y5 y6 y7, I y0 y1 y2 y3 y4 y5 y6 y7 → μ y0 y1 y2 y3 y4 y5 y6 y7 < μ a0 a1 a2 a3 a4 a5 a6 a7 → Tot (fun σ => again σ ((y0, y1, y2, y3, y4, ()), ((), (), (), (), y5, ()), y6, y7, ())) (Q y0 y1 y2 y3 y4 y5 y6 y7)) →
      Tot (fun σ => B_Z21_L2b (σ 0) (F_Z45 (σ 0)) (F_Z27 (σ 0)) (F_Z61 (σ 0)) (F_Z57 (σ 0)) (again σ) a0 a1 a2 a3 a4 a5 a6 a7) (Q a0 a1 a2 a3 a4 a5 a6 a7)) :
    ∀ a0 a1 a2 a3 a4 a5 a6 a7, I a0 a1 a2 a3 a4 a5 a6 a7 → Tot (fun σ => B_Z21_L2 (σ 0) (F_Z45 (σ 0)) (F_Z27 (σ 0)) (F_Z61 (σ 0)) (F_Z57 (σ 0)) (σ 0) ((a0, a1, a2, a3, a4, ()), ((), (), (), (), a5, ()), a6, a7, ())) (Q a0 a1 a2 a3 a4 a5 a6 a7) := fun a0 a1 a2 a3 a4 a5 a6 a7 => Tot.loop0 (L := fun k => B_Z21_L2 k (F_Z45 k) (F_Z27 k) (F_Z61 k) (F_Z57 k)) (B := fun k g => u_Z21_L2 (B_Z21_L2b k (F_Z45 k) (F_Z27 k) (F_Z61 k) (F_Z57 k) g)) (Q := u_Z21_L2 Q) (fun _ _ _ => rfl) (u_Z21_L2 I) (u_Z21_L2 μ)
    (fun t ht again hag h => step t.1.1 t.1.2.1 t.1.2.2.1 t.1.2.2.2.1 t.1.2.2.2.2.1 t.2.1.2.2.2.2.1 t.2.2.1 t.2.2.2.1 ht again hag fun y0 y1 y2 y3 y4 y5 y6 y7 => h ((y0, y1, y2, y3, y4, ()), ((), (), (), (), y5, ()), y6, y7, ())) ((a0, a1, a2, a3, a4, ()), ((), (), (), (), a5, ()), a6, a7, ())
abbrev A_Z21_L1 (Z : Type) : Type := Int → List Int → List Bool → List Int → List Int → Bool → Bool → Int → Z
abbrev u_Z21_L1 {Z : Type} (f : A_Z21_L1 Z) (t : T_Z21_L1) : Z := f t.1 t.2.1.1 t.2.1.2.1 t.2.1.2.2.1 t.2.1.2.2.2.1 t.2.1.2.2.2.2.1 t.2.2.1.2.2.2.2.1 t.2.2.2.1
theorem loop_Z21_L1 {Q : A_Z21_L1 ((((List Int × List Bool × List Int × List Int × Bool × Unit) × Bool × Unit) × (Unit)) → Prop)} (I : A_Z21_L1 Prop) (μ : A_Z21_L1 Nat)
    (step : ∀ a0 a1 a2 a3 a4 a5 a6 a7, I a0 a1 a2 a3 a4 a5 a6 a7 → ∀ again : (Nat → Nat) → T_Z21_L1 → R_Z21, Dep 2 again → (∀ y0 y1 y2 y3 y4 y5 y6 y7, I y0 y1 y2 y3 y4 y5 y6 y7 → μ y0 y1 y2 y3 y4 y5 y6 y7 < μ a0 a1 a2 a3 a4 a5 a6 a7 → Tot (fun σ => again σ (y0, (y1, y2, y3, y4, y5, ()), ((), (), (), (), y6, ()), y7, ())) (Q y0 y1 y2 y3 y4 y5 y6 y7)) →
      Tot (fun σ => B_Z21_L1b (σ 0) (F_Z45 (σ 0)) (F_Z27 (σ 0)) (F_Z61 (σ 0)) (F_Z57 (σ 0)) (again σ) a0 a1 a2 a3 a4 a5 a6 a7) (Q a0 a1 a2 a3 a4 a5 a6 a7)) :
    ∀ a0 a1 a2 a3 a4 a5 a6 a7, I a0 a1 a2 a3 a4 a5 a6 a7 → Tot (fun σ => B_Z21_L1 (σ 0) (F_Z45 (σ 0)) (F_Z27 (σ 0)) (F_Z61 (σ 0)) (F_Z57 (σ 0)) (σ 0) (a0, (a1, a2, a3, a4, a5, ()), ((), (), (), (), a6, ()), a7, ())) (Q a0 a1 a2 a3 a4 a5 a6 a7) := fun a0 a1 a2 a3 a4 a5 a6 a7 => Tot.loop0 (L := fun k => B_Z21_L1 k (F_Z45 k) (F_Z27 k) (F_Z61 k) (F_Z57 k)) (B := fun k g => u_Z21_L1 (B_Z21_L1b k (F_Z45 k) (F_Z27 k) (F_Z61 k) (F_Z57 k) g)) (Q := u_Z21_L1 Q) (fun _ _ _ => rfl) (u_Z21_L1 I) (u_Z21_L1 μ)
    (fun t ht again hag h => step t.1 t.2.1.1 t.2.1.2.1 t.2.1.2.2.1 t.2.1.2.2.2.1 t.2.1.2.2.2.2.1 t.2.2.1.2.2.2.2.1 t.2.2.2.1 ht again hag fun y0 y1 y2 y3 y4 y5 y6 y7 => h (y0, (y1, y2, y3, y4, y5, ()), ((), (), (), (), y6, ()), y7, ())) (a0, (a1, a2, a3, a4, a5, ()), ((), (), (), (), a6, ()), a7, ())
abbrev R_Z23 : Type := Option (((List Int × List Bool × List Int × List Int × Bool × Unit) × Bool × Unit) × (Unit))
abbrev C_Z23 : Type := List Int → List Bool → List Int → List Int → Bool → Int → Int → R_Z23
def B_Z23_J2 (k : Nat) (c_Z61 : C_Z61) (c_Z27 : C_Z27) (c_Z57 : C_Z57) (s_Kinds : List Int) (s_Full : List Bool) (s_Stack s_Memo : List Int) (s_Done t4_Done ok : Bool) (many : Int) : R_Z23 :=
  bif (!ok) then
    some (((s_Kinds, s_Full, s_Stack, s_Memo, s_Done, ()), false, ()), ())
  else
    chk (cutb 0 (w64 ((len s_Stack) - many)) s_Stack.length) <|
    some (((s_Kinds, s_Full, (s_Stack.take ((w64 ((len s_Stack) - many)).toNat)), s_Memo, s_Done, ()), true, ()), ())
def B_Z23_J0 (k : Nat) (c_Z61 : C_Z61) (c_Z27 : C_Z27) (c_Z57 : C_Z57) (s_Kinds : List Int) (s_Full : List Bool) (s_Stack s_Memo : List Int) (s_Done t4_Done t40 : Bool) : R_Z23 :=
  bif t40 then
    some (((s_Kinds, s_Full, s_Stack, s_Memo, s_Done, ()), false, ()), ())
  else
    chk (cutb 0 (w64 ((len s_Stack) - 2)) s_Stack.length) <|
    (c_Z27 s_Kinds s_Full (s_Stack.take ((w64 ((len s_Stack) - 2)).toNat)) s_Memo s_Done 2).bind fun r51 =>
    some (((r51.1.1.1, r51.1.1.2.1, r51.1.1.2.2.1, r51.1.1.2.2.2.1, r51.1.1.2.2.2.2.1, ()), true, ()), ())
def B_Z23_J1 (k : Nat) (c_Z61 : C_Z61) (c_Z27 : C_Z27) (c_Z57 : C_Z57) (s_Kinds : List Int) (s_Full : List Bool) (s_Stack s_Memo : List Int) (s_Done t4_Done ok : Bool) (many : Int) : R_Z23 :=
  bif ok then
    chk (inb (w64 ((len s_Stack) - 2)) s_Stack.length) <|
    chk (decide ((w64 ((len s_Stack) - 2)).toNat < s_Stack.length)) <|
    chk (inb (s_Stack.getD ((w64 ((len s_Stack) - 2)).toNat) (0 : Int)) s_Full.length) <|
    chk (decide ((s_Stack.getD ((w64 ((len s_Stack) - 2)).toNat) (0 : Int)).toNat < s_Full.length)) <|
    jn (fun t => B_Z23_J2 k c_Z61 c_Z27 c_Z57 t.1.1 t.1.2.1 t.1.2.2.1 t.1.2.2.2.1 t.1.2.2.2.2.1 t.2.1.2.2.2.2.1 t.2.2.1 t.2.2.2.1) ((s_Kinds, (s_Full.set ((s_Stack.getD ((w64 ((len s_Stack) - 2)).toNat) (0 : Int)).toNat) true), s_Stack, s_Memo, s_Done, ()), ((), (), (), (), t4_Done, ()), ok, many, ())
  else
    jn (fun t => B_Z23_J2 k c_Z61 c_Z27 c_Z57 t.1.1 t.1.2.1 t.1.2.2.1 t.1.2.2.2.1 t.1.2.2.2.2.1 t.2.1.2.2.2.2.1 t.2.2.1 t.2.2.2.1) ((s_Kinds, s_Full, s_Stack, s_Memo, s_Done, ()), ((), (), (), (), t4_Done, ()), ok, many, ())
def B_Z23 (k : Nat) (c_Z61 : C_Z61) (c_Z27 : C_Z27) (c_Z57 : C_Z57) (s_0 : List Int) (s_1 : List Bool) (s_2 s_3 : List Int) (s_4 : Bool) (o_0 o_1 : Int) : R_Z23 :=
  (c_Z61 s_0 s_1 s_2 s_3 s_4 0).bind fun r11 =>
  (c_Z61 s_0 s_1 s_2 s_3 s_4 1).bind fun r13 =>
  bif (o_0 == 5) then
    bif (!(decide (r11.1.1 ≥ 0))) then
      some (((s_0, s_1, s_2, s_3, s_4, ()), false, ()), ())
    else
      chk (cutb 0 (w64 ((len s_2) - 1)) s_2.length) <|
      (c_Z27 s_0 s_1 (s_2.take ((w64 ((len s_2) - 1)).toNat)) s_3 s_4 2).bind fun r32 =>
      some (((r32.1.1.1, r32.1.1.2.1, r32.1.1.2.2.1, r32.1.1.2.2.2.1, r32.1.1.2.2.2.2.1, ()), true, ()), ())
  else
    bif (o_0 == 6) then
      bif (!(decide (r11.1.1 ≥ 0))) then
        jn (fun t => B_Z23_J0 k c_Z61 c_Z27 c_Z57 t.1.1 t.1.2.1 t.1.2.2.1 t.1.2.2.2.1 t.1.2.2.2.2.1 t.2.1.2.2.2.2.1 t.2.2.1) ((s_0, s_1, s_2, s_3, s_4, ()), ((), (), (), (), false, ()), true, ())
      else
        jn (fun t => B_Z23_J0 k c_Z61 c_Z27 c_Z57 t.1.1 t.1.2.1 t.1.2.2.1 t.1.2.2.2.1 t.1.2.2.2.2.1 t.2.1.2.2.2.2.1 t.2.2.1) ((s_0, s_1, s_2, s_3, s_4, ()), ((), (), (), (), false, ()), decide (r13.1.1 < 0), ())
    else
      bif (o_0 == 8) then
        bif decide (r11.1.1 ≥ 0) then
          jn (fun t => B_Z23_J2 k c_Z61 c_Z27 c_Z57 t.1.1 t.1.2.1 t.1.2.2.1 t.1.2.2.2.1 t.1.2.2.2.2.1 t.2.1.2.2.2.2.1 t.2.2.1 t.2.2.2.1) ((s_0, s_1, s_2, s_3, s_4, ()), ((), (), (), (), false, ()), (r13.1.1 == 3), 1, ())
        else
          jn (fun t => B_Z23_J2 k c_Z61 c_Z27 c_Z57 t.1.1 t.1.2.1 t.1.2.2.1 t.1.2.2.2.1 t.1.2.2.2.2.1 t.2.1.2.2.2.2.1 t.2.2.1 t.2.2.2.1) ((s_0, s_1, s_2, s_3, s_4, ()), ((), (), (), (), false, ()), false, 1, ())
      else
        bif (o_0 == 11) then
          bif decide (r11.1.1 ≥ 0) then
            (c_Z57 r13.1.1).bind fun r64 =>
            bif r64.1.1 then
              (c_Z61 s_0 s_1 s_2 s_3 s_4 2).bind fun r68 =>
              jn (fun t => B_Z23_J2 k c_Z61 c_Z27 c_Z57 t.1.1 t.1.2.1 t.1.2.2.1 t.1.2.2.2.1 t.1.2.2.2.2.1 t.2.1.2.2.2.2.1 t.2.2.1 t.2.2.2.1) ((s_0, s_1, s_2, s_3, s_4, ()), ((), (), (), (), false, ()), (r68.1.1 == 4), 2, ())
            else
              jn (fun t => B_Z23_J2 k c_Z61 c_Z27 c_Z57 t.1.1 t.1.2.1 t.1.2.2.1 t.1.2.2.2.1 t.1.2.2.2.2.1 t.2.1.2.2.2.2.1 t.2.2.1 t.2.2.2.1) ((s_0, s_1, s_2, s_3, s_4, ()), ((), (), (), (), false, ()), false, 2, ())
          else
            jn (fun t => B_Z23_J2 k c_Z61 c_Z27 c_Z57 t.1.1 t.1.2.1 t.1.2.2.1 t.1.2.2.2.1 t.1.2.2.2.2.1 t.2.1.2.2.2.2.1 t.2.2.1 t.2.2.2.1) ((s_0, s_1, s_2, s_3, s_4, ()), ((), (), (), (), false, ()), false, 2, ())
        else
          bif (o_0 == 14) then
            bif decide (r11.1.1 ≥ 0) then
              bif (r13.1.1 == 5) then
                chk (inb (w64 ((len s_2) - 2)) s_2.length) <|
                chk (decide ((w64 ((len s_2) - 2)).toNat < s_2.length)) <|
                chk (inb (s_2.getD ((w64 ((len s_2) - 2)).toNat) (0 : Int)) s_1.length) <|
                chk (decide ((s_2.getD ((w64 ((len s_2) - 2)).toNat) (0 : Int)).toNat < s_1.length)) <|
                jn (fun t => B_Z23_J1 k c_Z61 c_Z27 c_Z57 t.1.1 t.1.2.1 t.1.2.2.1 t.1.2.2.2.1 t.1.2.2.2.2.1 t.2.1.2.2.2.2.1 t.2.2.1 t.2.2.2.1) ((s_0, s_1, s_2, s_3, s_4, ()), ((), (), (), (), false, ()), (!(s_1.getD ((s_2.getD ((w64 ((len s_2) - 2)).toNat) (0 : Int)).toNat) false)), 1, ())
              else
                jn (fun t => B_Z23_J1 k c_Z61 c_Z27 c_Z57 t.1.1 t.1.2.1 t.1.2.2.1 t.1.2.2.2.1 t.1.2.2.2.2.1 t.2.1.2.2.2.2.1 t.2.2.1 t.2.2.2.1) ((s_0, s_1, s_2, s_3, s_4, ()), ((), (), (), (), false, ()), false, 1, ())
            else
              jn (fun t => B_Z23_J1 k c_Z61 c_Z27 c_Z57 t.1.1 t.1.2.1 t.1.2.2.1 t.1.2.2.2.1 t.1.2.2.2.2.1 t.2.1.2.2.2.2.1 t.2.2.1 t.2.2.2.1) ((s_0, s_1, s_2, s_3, s_4, ()), ((), (), (), (), false, ()), false, 1, ())
          else
            bif (o_0 == 15) then
              bif decide (r11.1.1 ≥ 0) then
                chk (inb (w64 ((len s_2) - 1)) s_2.length) <|
                chk (decide ((w64 ((len s_2) - 1)).toNat < s_2.length)) <|
                chk (inb o_1 s_3.length) <|
                chk (decide (o_1.toNat < s_3.length)) <|
                jn (fun t => B_Z23_J2 k c_Z61 c_Z27 c_Z57 t.1.1 t.1.2.1 t.1.2.2.1 t.1.2.2.2.1 t.1.2.2.2.2.1 t.2.1.2.2.2.2.1 t.2.2.1 t.2.2.2.1) ((s_0, s_1, s_2, (s_3.set o_1.toNat (s_2.getD ((w64 ((len s_2) - 1)).toNat) (0 : Int))), s_4, ()), ((), (), (), (), false, ()), decide (r11.1.1 ≥ 0), 0, ())
              else
                jn (fun t => B_Z23_J2 k c_Z61 c_Z27 c_Z57 t.1.1 t.1.2.1 t.1.2.2.1 t.1.2.2.2.1 t.1.2.2.2.2.1 t.2.1.2.2.2.2.1 t.2.2.1 t.2.2.2.1) ((s_0, s_1, s_2, s_3, s_4, ()), ((), (), (), (), false, ()), decide (r11.1.1 ≥ 0), 0, ())
            else
              bif (o_0 == 19) then
                bif decide (r11.1.1 ≥ 0) then
                  jn (fun t => B_Z23_J2 k c_Z61 c_Z27 c_Z57 t.1.1 t.1.2.1 t.1.2.2.1 t.1.2.2.2.1 t.1.2.2.2.2.1 t.2.1.2.2.2.2.1 t.2.2.1 t.2.2.2.1) ((s_0, s_1, s_2, s_3, true, ()), ((), (), (), (), false, ()), ((len s_2) == 1), 0, ())
                else
                  jn (fun t => B_Z23_J2 k c_Z61 c_Z27 c_Z57 t.1.1 t.1.2.1 t.1.2.2.1 t.1.2.2.2.1 t.1.2.2.2.2.1 t.2.1.2.2.2.2.1 t.2.2.1 t.2.2.2.1) ((s_0, s_1, s_2, s_3, true, ()), ((), (), (), (), false, ()), false, 0, ())
              else
                jn (fun t => B_Z23_J2 k c_Z61 c_Z27 c_Z57 t.1.1 t.1.2.1 t.1.2.2.1 t.1.2.2.2.1 t.1.2.2.2.2.1 t.2.1.2.2.2.2.1 t.2.2.1 t.2.2.2.1) ((s_0, s_1, s_2, s_3, s_4, ()), ((), (), (), (), false, ()), decide (r11.1.1 ≥ 0), 1, ())
def F_Z23 : Nat → C_Z23
  | 0, _, _, _, _, _, _, _ => none
  | k + 1, s_0, s_1, s_2, s_3, s_4, o_0, o_1 => B_Z23 k (F_Z61 k) (F_Z27 k) (F_Z57 k) s_0 s_1 s_2 s_3 s_4 o_0 o_1
theorem tot_Z23 {s_0 s_1 s_2 s_3 s_4 o_0 o_1 : _} {Q : _ → Prop} (h : Tot (fun σ => B_Z23 (σ 0) (F_Z61 (σ 0)) (F_Z27 (σ 0)) (F_Z57 (σ 0)) s_0 s_1 s_2 s_3 s_4 o_0 o_1) Q) : Tot (fun σ => F_Z23 (σ 0) s_0 s_1 s_2 s_3 s_4 o_0 o_1) Q :=
  Tot.call (F := fun k => F_Z23 k s_0 s_1 s_2 s_3 s_4 o_0 o_1) (B := fun k => B_Z23 k (F_Z61 k) (F_Z27 k) (F_Z57 k) s_0 s_1 s_2 s_3 s_4 o_0 o_1) (fun k => rfl) h
abbrev R_Z13 : Type := Option (((List Int × List Bool × List Int × List Int × Bool × Unit) × Bool × Unit) × (Unit))
abbrev C_Z13 : Type := List Int → List Bool → List Int → List Int → Bool → Int → Int → R_Z13
def B_Z13_J1 (k : Nat) (c_Z52 : C_Z52) (c_Z27 : C_Z27) (c_Z21 : C_Z21) (c_Z23 : C_Z23) (s_Kinds : List Int) (s_Full : List Bool) (s_Stack s_Memo : List Int) (s_Done t4_Done ok : Bool) : R_Z13 :=
  bif ok then
    bif decide ((len s_Kinds) ≤ 300) then
      some (((s_Kinds, s_Full, s_Stack, s_Memo, s_Done, ()), decide ((len s_Stack) ≤ 300), ()), ())
    else
      some (((s_Kinds, s_Full, s_Stack, s_Memo, s_Done, ()), false, ()), ())
  else
    some (((s_Kinds, s_Full, s_Stack, s_Memo, s_Done, ()), false, ()), ())
def B_Z13_J0 (k : Nat) (c_Z52 : C_Z52) (c_Z27 : C_Z27) (c_Z21 : C_Z21) (c_Z23 : C_Z23) (s_Kinds : List Int) (s_Full : List Bool) (s_Stack s_Memo : List Int) (s_Done : Bool) (o_Code o_Arg : Int) (t4_Done t61 : Bool) : R_Z13 :=
  bif t61 then
    (c_Z21 s_Kinds s_Full s_Stack s_Memo s_Done o_Code).bind fun r84 =>
    jn (fun t => B_Z13_J1 k c_Z52 c_Z27 c_Z21 c_Z23 t.1.1 t.1.2.1 t.1.2.2.1 t.1.2.2.2.1 t.1.2.2.2.2.1 t.2.1.2.2.2.2.1 t.2.2.1) ((r84.1.1.1, r84.1.1.2.1, r84.1.1.2.2.1, r84.1.1.2.2.2.1, r84.1.1.2.2.2.2.1, ()), ((), (), (), (), t4_Done, ()), r84.1.2.1, ())
  else
    (c_Z23 s_Kinds s_Full s_Stack s_Memo s_Done o_Code o_Arg).bind fun r16 =>
    jn (fun t => B_Z13_J1 k c_Z52 c_Z27 c_Z21 c_Z23 t.1.1 t.1.2.1 t.1.2.2.1 t.1.2.2.2.1 t.1.2.2.2.2.1 t.2.1.2.2.2.2.1 t.2.2.1) ((r16.1.1.1, r16.1.1.2.1, r16.1.1.2.2.1, r16.1.1.2.2.2.1, r16.1.1.2.2.2.2.1, ()), ((), (), (), (), t4_Done, ()), r16.1.2.1, ())
def B_Z13 (k : Nat) (c_Z52 : C_Z52) (c_Z27 : C_Z27) (c_Z21 : C_Z21) (c_Z23 : C_Z23) (s_0 : List Int) (s_1 : List Bool) (s_2 s_3 : List Int) (s_4 : Bool) (o_0 o_1 : Int) : R_Z13 :=
  bif (!(!s_4)) then
    some (((s_0, s_1, s_2, s_3, s_4, ()), false, ()), ())
  else
    (c_Z52 o_0).bind fun r22 =>
    bif decide (r22.1.1 ≥ 0) then
      (c_Z52 o_0).bind fun r27 =>
      (c_Z27 s_0 s_1 s_2 s_3 s_4 r27.1.1).bind fun r28 =>
      jn (fun t => B_Z13_J1 k c_Z52 c_Z27 c_Z21 c_Z23 t.1.1 t.1.2.1 t.1.2.2.1 t.1.2.2.2.1 t.1.2.2.2.2.1 t.2.1.2.2.2.2.1 t.2.2.1) ((r28.1.1.1, r28.1.1.2.1, r28.1.1.2.2.1, r28.1.1.2.2.2.1, r28.1.1.2.2.2.2.1, ()), ((), (), (), (), false, ()), (!s_4), ())
    else
      bif (o_0 == 2) then
        chk (room s_2.length ([(-1)]).length) <|
        jn (fun t => B_Z13_J1 k c_Z52 c_Z27 c_Z21 c_Z23 t.1.1 t.1.2.1 t.1.2.2.1 t.1.2.2.2.1 t.1.2.2.2.2.1 t.2.1.2.2.2.2.1 t.2.2.1) ((s_0, s_1, (s_2 ++ [(-1)]), s_3, s_4, ()), ((), (), (), (), false, ()), (!s_4), ())
      else
        bif (o_0 == 16) then
          chk (inb o_1 s_3.length) <|
          chk (decide (o_1.toNat < s_3.length)) <|
          bif decide ((s_3.getD o_1.toNat (0 : Int)) < 0) then
            some (((s_0, s_1, s_2, s_3, s_4, ()), false, ()), ())
          else
            chk (inb o_1 s_3.length) <|
            chk (decide (o_1.toNat < s_3.length)) <|
            chk (room s_2.length ([(s_3.getD o_1.toNat (0 : Int))]).length) <|
            jn (fun t => B_Z13_J1 k c_Z52 c_Z27 c_Z21 c_Z23 t.1.1 t.1.2.1 t.1.2.2.1 t.1.2.2.2.1 t.1.2.2.2.2.1 t.2.1.2.2.2.2.1 t.2.2.1) ((s_0, s_1, (s_2 ++ [(s_3.getD o_1.toNat (0 : Int))]), s_3, s_4, ()), ((), (), (), (), false, ()), (!s_4), ())
        else
          bif (o_0 == 3) then
            jn (fun t => B_Z13_J0 k c_Z52 c_Z27 c_Z21 c_Z23 t.1.1 t.1.2.1 t.1.2.2.1 t.1.2.2.2.1 t.1.2.2.2.2.1 t.2.1.1 t.2.1.2.1 t.2.2.1.2.2.2.2.1 t.2.2.2.1) ((s_0, s_1, s_2, s_3, s_4, ()), (o_0, o_1, ()), ((), (), (), (), false, ()), true, ())
          else
            bif (o_0 == 9) then
              jn (fun t => B_Z13_J0 k c_Z52 c_Z27 c_Z21 c_Z23 t.1.1 t.1.2.1 t.1.2.2.1 t.1.2.2.2.1 t.1.2.2.2.2.1 t.2.1.1 t.2.1.2.1 t.2.2.1.2.2.2.2.1 t.2.2.2.1) ((s_0, s_1, s_2, s_3, s_4, ()), (o_0, o_1, ()), ((), (), (), (), false, ()), true, ())
            else
              bif (o_0 == 12) then
                jn (fun t => B_Z13_J0 k c_Z52 c_Z27 c_Z21 c_Z23 t.1.1 t.1.2.1 t.1.2.2.1 t.1.2.2.2.1 t.1.2.2.2.2.1 t.2.1.1 t.2.1.2.1 t.2.2.1.2.2.2.2.1 t.2.2.2.1) ((s_0, s_1, s_2, s_3, s_4, ()), (o_0, o_1, ()), ((), (), (), (), false, ()), true, ())
              else
                jn (fun t => B_Z13_J0 k c_Z52 c_Z27 c_Z21 c_Z23 t.1.1 t.1.2.1 t.1.2.2.1 t.1.2.2.2.1 t.1.2.2.2.2.1 t.2.1.1 t.2.1.2.1 t.2.2.1.2.2.2.2.1 t.2.2.2.1) ((s_0, s_1, s_2, s_3, s_4, ()), (o_0, o_1, ()), ((), (), (), (), false, ()), (o_0 == 18), ())
def F_Z13 : Nat → C_Z13
  | 0, _, _, _, _, _, _, _ => none
  | k + 1, s_0, s_1, s_2, s_3, s_4, o_0, o_1 => B_Z13 k (F_Z52 k) (F_Z27 k) (F_Z21 k) (F_Z23 k) s_0 s_1 s_2 s_3 s_4 o_0 o_1
theorem tot_Z13 {s_0 s_1 s_2 s_3 s_4 o_0 o_1 : _} {Q : _ → Prop} (h : Tot (fun σ => B_Z13 (σ 0) (F_Z52 (σ 0)) (F_Z27 (σ 0)) (F_Z21 (σ 0)) (F_Z23 (σ 0)) s_0 s_1 s_2 s_3 s_4 o_0 o_1) Q) : Tot (fun σ => F_Z13 (σ 0) s_0 s_1 s_2 s_3 s_4 o_0 o_1) Q :=
  Tot.call (F := fun k => F_Z13 k s_0 s_1 s_2 s_3 s_4 o_0 o_1) (B := fun k => B_Z13 k (F_Z52 k) (F_Z27 k) (F_Z21 k) (F_Z23 k) s_0 s_1 s_2 s_3 s_4 o_0 o_1) (fun k => rfl) h
abbrev R_s_argOf : Type := Option ((Int × Unit) × (Unit))
abbrev C_s_argOf : Type := Int → R_s_argOf
def B_s_argOf_J0 (k : Nat) (t10 : Bool) : R_s_argOf :=
  bif t10 then
    some ((19, ()), ())
  else
    some (((-1), ()), ())
def B_s_argOf (k : Nat) (c : Int) : R_s_argOf :=
  bif (c == 0) then
    some ((999, ()), ())
  else
    bif (c == 1) then
      some ((9, ()), ())
    else
      bif (c == 13) then
        some ((9, ()), ())
      else
        bif (c == 15) then
          jn (fun t => B_s_argOf_J0 k t.1) ((c == 15), ())
        else
          jn (fun t => B_s_argOf_J0 k t.1) ((c == 16), ())
def F_s_argOf : Nat → C_s_argOf
  | 0, _ => none
  | k + 1, c => B_s_argOf k c
theorem tot_s_argOf {c : _} {Q : _ → Prop} (h : Tot (fun σ => B_s_argOf (σ 0) c) Q) : Tot (fun σ => F_s_argOf (σ 0) c) Q :=
  Tot.call (F := fun k => F_s_argOf k c) (B := fun k => B_s_argOf k c) (fun k => rfl) h
abbrev R_Z53 : Type := Option ((Bool × Unit) × (Unit))
abbrev C_Z53 : Type := Int → Int → R_Z53
def B_Z53 (k : Nat) (c_s_argOf : C_s_argOf) (c_Z62 : C_Z62) (o_0 o_1 : Int) : R_Z53 :=
  (c_s_argOf o_0).bind fun r6 =>
  (c_Z62 o_0 0 19).bind fun r9 =>
  bif r9.1.1 then
    bif decide (r6.1.1 < 0) then
      bif (o_1 == 0) then
        some ((true, ()), ())
      else
        bif decide (r6.1.1 ≥ 0) then
          (c_Z62 o_1 0 r6.1.1).bind fun r25 =>
          some ((r25.1.1, ()), ())
        else
          some ((false, ()), ())
    else
      bif decide (r6.1.1 ≥ 0) then
        (c_Z62 o_1 0 r6.1.1).bind fun r25 =>
        some ((r25.1.1, ()), ())
      else
        some ((false, ()), ())
  else
    some ((false, ()), ())
def F_Z53 : Nat → C_Z53
  | 0, _, _ => none
  | k + 1, o_0, o_1 => B_Z53 k (F_s_argOf k) (F_Z62 k) o_0 o_1
theorem tot_Z53 {o_0 o_1 : _} {Q : _ → Prop} (h : Tot (fun σ => B_Z53 (σ 0) (F_s_argOf (σ 0)) (F_Z62 (σ 0)) o_0 o_1) Q) : Tot (fun σ => F_Z53 (σ 0) o_0 o_1) Q :=
  Tot.call (F := fun k => F_Z53 k o_0 o_1) (B := fun k => B_Z53 k (F_s_argOf k) (F_Z62 k) o_0 o_1) (fun k => rfl) h
abbrev R_Z42 : Type := Option ((Bool × Unit) × (Unit))
abbrev C_Z42 : Type := (List (Int × Int)) → R_Z42
abbrev T_Z42_L0 : Type := (List (Int × Int)) × Int × Unit
def B_Z42_L0b (k : Nat) (c_Z53 : C_Z53) (again0 : T_Z42_L0 → R_Z42) (ops : List (Int × Int)) (i : Int) : R_Z42 :=
  bif decide (i < (len ops)) then
    chk (inb i ops.length) <|
    (c_Z53 ((rdx ((0 : Int), (0 : Int)) ops i).1) ((rdx ((0 : Int), (0 : Int)) ops i).2)).bind fun r14 =>
    bif (!r14.1.1) then
      some ((false, ()), ())
    else
      again0 (ops, w64 (i + 1), ())
  else
    some ((decide ((len ops) ≤ 300), ()), ())
def B_Z42_L0 (k : Nat) (c_Z53 : C_Z53) (n : Nat) (t : T_Z42_L0) : R_Z42 :=
  lfix n (fun again t => B_Z42_L0b k c_Z53 again t.1 t.2.1) t
def B_Z42 (k : Nat) (c_Z53 : C_Z53) (ops : List (Int × Int)) : R_Z42 :=
  B_Z42_L0 k c_Z53 k (ops, 0, ())
def F_Z42 : Nat → C_Z42
  | 0, _ => none
  | k + 1, ops => B_Z42 k (F_Z53 k) ops
theorem tot_Z42 {ops : _} {Q : _ → Prop} (h : Tot (fun σ => B_Z42 (σ 0) (F_Z53 (σ 0)) ops) Q) : Tot (fun σ => F_Z42 (σ 0) ops) Q :=
  Tot.call (F := fun k => F_Z42 k ops) (B := fun k => B_Z42 k (F_Z53 k) ops) (fun k => rfl) h
abbrev A_Z42_L0 (Z : Type) : Type := (List (Int × Int)) → Int → Z
abbrev u_Z42_L0 {Z : Type} (f : A_Z42_L0 Z) (t : T_Z42_L0) : Z := f t.1 t.2.1
theorem loop_Z42_L0 {Q : A_Z42_L0 (((Bool × Unit) × (Unit)) → Prop)} (I : A_Z42_L0 Prop) (μ : A_Z42_L0 Nat)
    (step : ∀ a0 a1, I a0 a1 → ∀ again : (Nat → Nat) → T_Z42_L0 → R_Z42, Dep 2 again → (∀ y0 y1, I y0 y1 → μ y0 y1 < μ a0 a1 → Tot (fun σ => again σ (y0, y1, ())) (Q y0 y1)) →
      Tot (fun σ => B_Z42_L0b (σ 0) (F_Z53 (σ 0)) (again σ) a0 a1) (Q a0 a1)) :
    ∀ a0 a1, I a0 a1 → Tot (fun σ => B_Z42_L0 (σ 0) (F_Z53 (σ 0)) (σ 0) (a0, a1, ())) (Q a0 a1) := fun a0 a1 => Tot.loop0 (L := fun k => B_Z42_L0 k (F_Z53 k)) (B := fun k g => u_Z42_L0 (B_Z42_L0b k (F_Z53 k) g)) (Q := u_Z42_L0 Q) (fun _ _ _ => rfl) (u_Z42_L0 I) (u_Z42_L0 μ)
    (fun t ht again hag h => step t.1 t.2.1 ht again hag fun y0 y1 => h (y0, y1, ())) (a0, a1, ())
abbrev R_Z35 : Type := Option (((List Int × List Bool × List Int × List Int × Bool × Unit) × Int × Unit) × (Unit))
abbrev C_Z35 : Type := (List (Int × Int)) → R_Z35
abbrev T_Z35_L0 : Type := (List (Int × Int)) × (Unit × Unit × Unit × Unit × Bool × Unit) × (List Int × List Bool × List Int × List Int × Bool × Unit) × Int × Unit
def B_Z35_L0b (k : Nat) (c_Z25 : C_Z25) (c_Z15 : C_Z15) (c_Z13 : C_Z13) (again0 : T_Z35_L0 → R_Z35) (ops : List (Int × Int)) (t2_Done : Bool) (s_Kinds : List Int) (s_Full : List Bool) (s_Stack s_Memo : List Int) (s_Done : Bool) (i : Int) : R_Z35 :=
  bif decide (i < (len ops)) then
    (c_Z15 s_Kinds s_Full s_Stack s_Memo s_Done).bind fun r17 =>
    chk (inb i ops.length) <|
    (c_Z13 r17.1.1.1 r17.1.1.2.1 r17.1.1.2.2.1 r17.1.1.2.2.2.1 r17.1.1.2.2.2.2.1 ((rdx ((0 : Int), (0 : Int)) ops i).1) ((rdx ((0 : Int), (0 : Int)) ops i).2)).bind fun r22 =>
    bif (!r22.1.2.1) then
      some (((s_Kinds, s_Full, s_Stack, s_Memo, s_Done, ()), i, ()), ())
    else
      again0 (ops, ((), (), (), (), t2_Done, ()), (r22.1.1.1, r22.1.1.2.1, r22.1.1.2.2.1, r22.1.1.2.2.2.1, r22.1.1.2.2.2.2.1, ()), w64 (i + 1), ())
  else
    some (((s_Kinds, s_Full, s_Stack, s_Memo, s_Done, ()), len ops, ()), ())
def B_Z35_L0 (k : Nat) (c_Z25 : C_Z25) (c_Z15 : C_Z15) (c_Z13 : C_Z13) (n : Nat) (t : T_Z35_L0) : R_Z35 :=
  lfix n (fun again t => B_Z35_L0b k c_Z25 c_Z15 c_Z13 again t.1 t.2.1.2.2.2.2.1 t.2.2.1.1 t.2.2.1.2.1 t.2.2.1.2.2.1 t.2.2.1.2.2.2.1 t.2.2.1.2.2.2.2.1 t.2.2.2.1) t
def B_Z35 (k : Nat) (c_Z25 : C_Z25) (c_Z15 : C_Z15) (c_Z13 : C_Z13) (ops : List (Int × Int)) : R_Z35 :=
  (c_Z25).bind fun r8 =>
  B_Z35_L0 k c_Z25 c_Z15 c_Z13 k (ops, ((), (), (), (), false, ()), (r8.1.1.1, r8.1.1.2.1, r8.1.1.2.2.1, r8.1.1.2.2.2.1, r8.1.1.2.2.2.2.1, ()), 0, ())
def F_Z35 : Nat → C_Z35
  | 0, _ => none
  | k + 1, ops => B_Z35 k (F_Z25 k) (F_Z15 k) (F_Z13 k) ops
theorem tot_Z35 {ops : _} {Q : _ → Prop} (h : Tot (fun σ => B_Z35 (σ 0) (F_Z25 (σ 0)) (F_Z15 (σ 0)) (F_Z13 (σ 0)) ops) Q) : Tot (fun σ => F_Z35 (σ 0) ops) Q :=
  Tot.call (F := fun k => F_Z35 k ops) (B := fun k => B_Z35 k (F_Z25 k) (F_Z15 k) (F_Z13 k) ops) (fun k => rfl) h
abbrev A_Z35_L0 (Z : Type) : Type := (List (Int × Int)) → Bool → List Int → List Bool → List Int → List Int → Bool → Int → Z
abbrev u_Z35_L0 {Z : Type} (f : A_Z35_L0 Z) (t : T_Z35_L0) : Z := f t.1 t.2.1.2.2.2.2.1 t.2.2.1.1 t.2.2.1.2.1 t.2.2.1.2.2.1 t.2.2.1.2.2.2.1 t.2.2.1.2.2.2.2.1 t.2.2.2.1
theorem loop_Z35_L0 {Q : A_Z35_L0 ((((List Int × List Bool × List Int × List Int × Bool × Unit) × Int × Unit) × (Unit)) → Prop)} (I : A_Z35_L0 Prop) (μ : A_Z35_L0 Nat)
    (step : ∀ a0 a1 a2 a3 a4 a5 a6 a7, I a0 a1 a2 a3 a4 a5 a6 a7 → ∀ again : (Nat → Nat) → T_Z35_L0 → R_Z35, Dep 2 again → (∀ y0 y1 y2 y3 y4 y5 y6 y7, I y0 y1 y2 y3 y4 y5 y6 y7 → μ y0 y1 y2 y3 y4 y5 y6 y7 < μ a0 a1 a2 a3 a4 a5 a6 a7 → Tot (fun σ => again σ (y0, ((), (), (), (), y1, ()), (y2, y3, y4, y5, y6, ()), y7, ())) (Q y0 y1 y2 y3 y4 y5 y6 y7)) →
      Tot (fun σ => B_Z35_L0b (σ 0) (F_Z25 (σ 0)) (F_Z15 (σ 0)) (F_Z13 (σ 0)) (again σ) a0 a1 a2 a3 a4 a5 a6 a7) (Q a0 a1 a2 a3 a4 a5 a6 a7)) :
    ∀ a0 a1 a2 a3 a4 a5 a6 a7, I a0 a1 a2 a3 a4 a5 a6 a7 → Tot (fun σ => B_Z35_L0 (σ 0) (F_Z25 (σ 0)) (F_Z15 (σ 0)) (F_Z13 (σ 0)) (σ 0) (a0, ((), (), (), (), a1, ()), (a2, a3, a4, a5, a6, ()), a7, ())) (Q a0 a1 a2 a3 a4 a5 a6 a7) := fun a0 a1 a2 a3 a4 a5 a6 a7 => Tot.loop0 (L := fun k => B_Z35_L0 k (F_Z25 k) (F_Z15 k) (F_Z13 k)) (B := fun k g => u_Z35_L0 (B_Z35_L0b k (F_Z25 k) (F_Z15 k) (F_Z13 k) g)) (Q := u_Z35_L0 Q) (fun _ _ _ => rfl) (u_Z35_L0 I) (u_Z35_L0 μ)
    (fun t ht again hag h => step t.1 t.2.1.2.2.2.2.1 t.2.2.1.1 t.2.2.1.2.1 t.2.2.1.2.2.1 t.2.2.1.2.2.2.1 t.2.2.1.2.2.2.2.1 t.2.2.2.1 ht again hag fun y0 y1 y2 y3 y4 y5 y6 y7 => h (y0, ((), (), (), (), y1, ()), (y2, y3, y4, y5, y6, ()), y7, ())) (a0, ((), (), (), (), a1, ()), (a2, a3, a4, a5, a6, ()), a7, ())
abbrev R_s_EndOps : Type := Option (((List (Int × Int)) × Bool × Unit) × (Unit))
abbrev C_s_EndOps : Type := (List (Int × Int)) → R_s_EndOps
abbrev T_s_EndOps_L6 : Type := (List (Int × Int)) × Int × (List (Int × Int)) × Int × Int × Unit
abbrev T_s_EndOps_L4 : Type := (List (Int × Int)) × (List Int × List Bool × List Int × List Int × Bool × Unit) × Int × (List (Int × Int)) × Int × Int × Unit
abbrev T_s_EndOps_L2 : Type := (List (Int × Int)) × (List Int × List Bool × List Int × List Int × Bool × Unit) × Int × (List (Int × Int)) × Int × Int × Unit
abbrev T_s_EndOps_L1 : Type := (List (Int × Int)) × (List Int × List Bool × List Int × List Int × Bool × Unit) × Int × (List (Int × Int)) × Int × Int × Unit
def B_s_EndOps_J0 (k : Nat) (c_Z42 : C_Z42) (c_Z35 : C_Z35) (again1 : T_s_EndOps_L1 → R_s_EndOps) (ops : List (Int × Int)) (s_Kinds : List Int) (s_Full : List Bool) (s_Stack s_Memo : List Int) (s_Done : Bool) (n5 : Int) (out : List (Int × Int)) (marks i : Int) : R_s_EndOps :=
  again1 (ops, (s_Kinds, s_Full, s_Stack, s_Memo, s_Done, ()), n5, out, marks, w64 (i + 1), ())
def B_s_EndOps_J9 (k : Nat) (c_Z42 : C_Z42) (c_Z35 : C_Z35) (out : List (Int × Int)) (t109 : Bool) : R_s_EndOps :=
  bif t109 then
    some (([], false, ()), ())
  else
    some ((out, true, ()), ())
def B_s_EndOps_J8 (k : Nat) (c_Z42 : C_Z42) (c_Z35 : C_Z35) (out all : List (Int × Int)) : R_s_EndOps :=
  (c_Z35 all).bind fun r98 =>
  (c_Z42 all).bind fun r102 =>
  bif (!r102.1.1) then
    jn (fun t => B_s_EndOps_J9 k c_Z42 c_Z35 t.1 t.2.1) (out, true, ())
  else
    jn (fun t => B_s_EndOps_J9 k c_Z42 c_Z35 t.1 t.2.1) (out, decide (r98.1.2.1 < (len all)), ())
def B_s_EndOps_J7 (k : Nat) (c_Z42 : C_Z42) (c_Z35 : C_Z35) (ops : List (Int × Int)) (n5 : Int) (out : List (Int × Int)) : R_s_EndOps :=
  chk (room out.length ([(19, 0)]).length) <|
  chk (cutb 0 n5 ops.length) <|
  chk (room ([] : List (Int × Int)).length (sub ops 0 n5).length) <|
  chk (room (sub ops 0 n5).length (out ++ [(19, 0)]).length) <|
  jn (fun t => B_s_EndOps_J8 k c_Z42 c_Z35 t.1 t.2.1) ((out ++ [(19, 0)]), ((sub ops 0 n5) ++ (out ++ [(19, 0)])), ())
def B_s_EndOps_L6b (k : Nat) (c_Z42 : C_Z42) (c_Z35 : C_Z35) (again6 : T_s_EndOps_L6 → R_s_EndOps) (ops : List (Int × Int)) (n5 : Int) (out : List (Int × Int)) (rest10 i : Int) : R_s_EndOps :=
  bif decide (i < rest10) then
    chk (room out.length ([(6, 0)]).length) <|
    again6 (ops, n5, (out ++ [(6, 0)]), rest10, w64 (i + 1), ())
  else
    bif (rest10 == 0) then
      chk (room out.length ([(4, 0)]).length) <|
      jn (fun t => B_s_EndOps_J7 k c_Z42 c_Z35 t.1 t.2.1 t.2.2.1) (ops, n5, (out ++ [(4, 0)]), ())
    else
      jn (fun t => B_s_EndOps_J7 k c_Z42 c_Z35 t.1 t.2.1 t.2.2.1) (ops, n5, out, ())
def B_s_EndOps_L6 (k : Nat) (c_Z42 : C_Z42) (c_Z35 : C_Z35) (n : Nat) (t : T_s_EndOps_L6) : R_s_EndOps :=
  lfix n (fun again t => B_s_EndOps_L6b k c_Z42 c_Z35 again t.1 t.2.1 t.2.2.1 t.2.2.2.1 t.2.2.2.2.1) t
def B_s_EndOps_J5 (k : Nat) (c_Z42 : C_Z42) (c_Z35 : C_Z35) (ops : List (Int × Int)) (n5 : Int) (out : List (Int × Int)) (rest10 : Int) : R_s_EndOps :=
  B_s_EndOps_L6 k c_Z42 c_Z35 k (ops, n5, out, rest10, 1, ())
def B_s_EndOps_J3 (k : Nat) (c_Z42 : C_Z42) (c_Z35 : C_Z35) (again4 : T_s_EndOps_L4 → R_s_EndOps) (ops : List (Int × Int)) (s_Kinds : List Int) (s_Full : List Bool) (s_Stack s_Memo : List Int) (s_Done : Bool) (n5 : Int) (out : List (Int × Int)) (marks rest10 : Int) (t63 : Bool) : R_s_EndOps :=
  bif t63 then
    again4 (ops, (s_Kinds, s_Full, s_Stack, s_Memo, s_Done, ()), n5, out, marks, w64 (rest10 + 1), ())
  else
    bif decide (marks > 0) then
      jn (fun t => B_s_EndOps_J5 k c_Z42 c_Z35 t.1 t.2.1 t.2.2.1 t.2.2.2.1) (ops, n5, out, w64 (rest10 + 1), ())
    else
      jn (fun t => B_s_EndOps_J5 k c_Z42 c_Z35 t.1 t.2.1 t.2.2.1 t.2.2.2.1) (ops, n5, out, rest10, ())
def B_s_EndOps_L4b (k : Nat) (c_Z42 : C_Z42) (c_Z35 : C_Z35) (again4 : T_s_EndOps_L4 → R_s_EndOps) (ops : List (Int × Int)) (s_Kinds : List Int) (s_Full : List Bool) (s_Stack s_Memo : List Int) (s_Done : Bool) (n5 : Int) (out : List (Int × Int)) (marks rest10 : Int) : R_s_EndOps :=
  bif decide (rest10 < (len s_Stack)) then
    chk (inb rest10 s_Stack.length) <|
    chk (decide (rest10.toNat < s_Stack.length)) <|
    jn (fun t => B_s_EndOps_J3 k c_Z42 c_Z35 again4 t.1 t.2.1.1 t.2.1.2.1 t.2.1.2.2.1 t.2.1.2.2.2.1 t.2.1.2.2.2.2.1 t.2.2.1 t.2.2.2.1 t.2.2.2.2.1 t.2.2.2.2.2.1 t.2.2.2.2.2.2.1) (ops, (s_Kinds, s_Full, s_Stack, s_Memo, s_Done, ()), n5, out, marks, rest10, decide ((s_Stack.getD rest10.toNat (0 : Int)) ≥ 0), ())
  else
    jn (fun t => B_s_EndOps_J3 k c_Z42 c_Z35 again4 t.1 t.2.1.1 t.2.1.2.1 t.2.1.2.2.1 t.2.1.2.2.2.1 t.2.1.2.2.2.2.1 t.2.2.1 t.2.2.2.1 t.2.2.2.2.1 t.2.2.2.2.2.1 t.2.2.2.2.2.2.1) (ops, (s_Kinds, s_Full, s_Stack, s_Memo, s_Done, ()), n5, out, marks, rest10, false, ())
def B_s_EndOps_L4 (k : Nat) (c_Z42 : C_Z42) (c_Z35 : C_Z35) (n : Nat) (t : T_s_EndOps_L4) : R_s_EndOps :=
  lfix n (fun again t => B_s_EndOps_L4b k c_Z42 c_Z35 again t.1 t.2.1.1 t.2.1.2.1 t.2.1.2.2.1 t.2.1.2.2.2.1 t.2.1.2.2.2.2.1 t.2.2.1 t.2.2.2.1 t.2.2.2.2.1 t.2.2.2.2.2.1) t
def B_s_EndOps_L2b (k : Nat) (c_Z42 : C_Z42) (c_Z35 : C_Z35) (again2 : T_s_EndOps_L2 → R_s_EndOps) (ops : List (Int × Int)) (s_Kinds : List Int) (s_Full : List Bool) (s_Stack s_Memo : List Int) (s_Done : Bool) (n5 : Int) (out : List (Int × Int)) (marks i : Int) : R_s_EndOps :=
  bif decide (i < marks) then
    chk (room out.length ([(3, 0)]).length) <|
    again2 (ops, (s_Kinds, s_Full, s_Stack, s_Memo, s_Done, ()), n5, (out ++ [(3, 0)]), marks, w64 (i + 1), ())
  else
    B_s_EndOps_L4 k c_Z42 c_Z35 k (ops, (s_Kinds, s_Full, s_Stack, s_Memo, s_Done, ()), n5, out, marks, 0, ())
def B_s_EndOps_L2 (k : Nat) (c_Z42 : C_Z42) (c_Z35 : C_Z35) (n : Nat) (t : T_s_EndOps_L2) : R_s_EndOps :=
  lfix n (fun again t => B_s_EndOps_L2b k c_Z42 c_Z35 again t.1 t.2.1.1 t.2.1.2.1 t.2.1.2.2.1 t.2.1.2.2.2.1 t.2.1.2.2.2.2.1 t.2.2.1 t.2.2.2.1 t.2.2.2.2.1 t.2.2.2.2.2.1) t
def B_s_EndOps_L1b (k : Nat) (c_Z42 : C_Z42) (c_Z35 : C_Z35) (again1 : T_s_EndOps_L1 → R_s_EndOps) (ops : List (Int × Int)) (s_Kinds : List Int) (s_Full : List Bool) (s_Stack s_Memo : List Int) (s_Done : Bool) (n5 : Int) (out : List (Int × Int)) (marks i : Int) : R_s_EndOps :=
  bif decide (i < (len s_Stack)) then
    chk (inb i s_Stack.length) <|
    chk (decide (i.toNat < s_Stack.length)) <|
    bif decide ((s_Stack.getD i.toNat (0 : Int)) < 0) then
      jn (fun t => B_s_EndOps_J0 k c_Z42 c_Z35 again1 t.1 t.2.1.1 t.2.1.2.1 t.2.1.2.2.1 t.2.1.2.2.2.1 t.2.1.2.2.2.2.1 t.2.2.1 t.2.2.2.1 t.2.2.2.2.1 t.2.2.2.2.2.1) (ops, (s_Kinds, s_Full, s_Stack, s_Memo, s_Done, ()), n5, out, w64 (marks + 1), i, ())
    else
      jn (fun t => B_s_EndOps_J0 k c_Z42 c_Z35 again1 t.1 t.2.1.1 t.2.1.2.1 t.2.1.2.2.1 t.2.1.2.2.2.1 t.2.1.2.2.2.2.1 t.2.2.1 t.2.2.2.1 t.2.2.2.2.1 t.2.2.2.2.2.1) (ops, (s_Kinds, s_Full, s_Stack, s_Memo, s_Done, ()), n5, out, marks, i, ())
  else
    B_s_EndOps_L2 k c_Z42 c_Z35 k (ops, (s_Kinds, s_Full, s_Stack, s_Memo, s_Done, ()), n5, out, marks, 0, ())
def B_s_EndOps_L1 (k : Nat) (c_Z42 : C_Z42) (c_Z35 : C_Z35) (n : Nat) (t : T_s_EndOps_L1) : R_s_EndOps :=
  lfix n (fun again t => B_s_EndOps_L1b k c_Z42 c_Z35 again t.1 t.2.1.1 t.2.1.2.1 t.2.1.2.2.1 t.2.1.2.2.2.1 t.2.1.2.2.2.2.1 t.2.2.1 t.2.2.2.1 t.2.2.2.2.1 t.2.2.2.2.2.1) t
def B_s_EndOps (k : Nat) (c_Z42 : C_Z42) (c_Z35 : C_Z35) (ops : List (Int × Int)) : R_s_EndOps :=
  (c_Z42 ops).bind fun r16 =>
  bif (!r16.1.1) then
    some (([], false, ()), ())
  else
    (c_Z35 ops).bind fun r20 =>
    bif r20.1.1.2.2.2.2.1 then
      some (([], true, ()), ())
    else
      B_s_EndOps_L1 k c_Z42 c_Z35 k (ops, (r20.1.1.1, r20.1.1.2.1, r20.1.1.2.2.1, r20.1.1.2.2.2.1, r20.1.1.2.2.2.2.1, ()), r20.1.2.1, [], 0, 0, ())
def F_s_EndOps : Nat → C_s_EndOps
  | 0, _ => none
  | k + 1, ops => B_s_EndOps k (F_Z42 k) (F_Z35 k) ops
theorem tot_s_EndOps {ops : _} {Q : _ → Prop} (h : Tot (fun σ => B_s_EndOps (σ 0) (F_Z42 (σ 0)) (F_Z35 (σ 0)) ops) Q) : Tot (fun σ => F_s_EndOps (σ 0) ops) Q :=
  Tot.call (F := fun k => F_s_EndOps k ops) (B := fun k => B_s_EndOps k (F_Z42 k) (F_Z35 k) ops) (fun k => rfl) h
abbrev A_s_EndOps_L6 (Z : Type) : Type := (List (Int × Int)) → Int → (List (Int × Int)) → Int → Int → Z
abbrev u_s_EndOps_L6 {Z : Type} (f : A_s_EndOps_L6 Z) (t : T_s_EndOps_L6) : Z := f t.1 t.2.1 t.2.2.1 t.2.2.2.1 t.2.2.2.2.1
theorem loop_s_EndOps_L6 {Q : A_s_EndOps_L6 ((((List (Int × Int)) × Bool × Unit) × (Unit)) → Prop)} (I : A_s_EndOps_L6 Prop) (μ : A_s_EndOps_L6 Nat)
    (step : ∀ a0 a1 a2 a3 a4, I a0 a1 a2 a3 a4 → ∀ again : (Nat → Nat) → T_s_EndOps_L6 → R_s_EndOps, Dep 2 again → (∀ y0 y1 y2 y3 y4, I y0 y1 y2 y3 y4 → μ y0 y1 y2 y3 y4 < μ a0 a1 a2 a3 a4 → Tot (fun σ => again σ (y0, y1, y2, y3, y4, ())) (Q y0 y1 y2 y3 y4)) →
      Tot (fun σ => B_s_EndOps_L6b (σ 0) (F_Z42 (σ 0)) (F_Z35 (σ 0)) (again σ) a0 a1 a2 a3 a4) (Q a0 a1 a2 a3 a4)) :
    ∀ a0 a1 a2 a3 a4, I a0 a1 a2 a3 a4 → Tot (fun σ => B_s_EndOps_L6 (σ 0) (F_Z42 (σ 0)) (F_Z35 (σ 0)) (σ 0) (a0, a1, a2, a3, a4, ())) (Q a0 a1 a2 a3 a4) := fun a0 a1 a2 a3 a4 => Tot.loop0 (L := fun k => B_s_EndOps_L6 k (F_Z42 k) (F_Z35 k)) (B := fun k g => u_s_EndOps_L6 (B_s_EndOps_L6b k (F_Z42 k) (F_Z35 k) g)) (Q := u_s_EndOps_L6 Q) (fun _ _ _ => rfl) (u_s_EndOps_L6 I) (u_s_EndOps_L6 μ)
    (fun t ht again hag h => step t.1 t.2.1 t.2.2.1 t.2.2.2.1 t.2.2.2.2.1 ht again hag fun y0 y1 y2 y3 y4 => h (y0, y1, y2, y3, y4, ())) (a0, a1, a2, a3, a4, ())
abbrev A_s_EndOps_L4 (Z : Type) : Type := (List (Int × Int)) → List Int → List Bool → List Int → List Int → Bool → Int → (List (Int × Int)) → Int → Int → Z
abbrev u_s_EndOps_L4 {Z : Type} (f : A_s_EndOps_L4 Z) (t : T_s_EndOps_L4) : Z := f t.1 t.2.1.1 t.2.1.2.1 t.2.1.2.2.1 t.2.1.2.2.2.1 t.2.1.2.2.2.2.1 t.2.2.1 t.2.2.2.1 t.2.2.2.2.1 t.2.2.2.2.2.1
theorem loop_s_EndOps_L4 {Q : A_s_EndOps_L4 ((((List (Int × Int)) × Bool × Unit) × (Unit)) → Prop)} (I : A_s_EndOps_L4 Prop) (μ : A_s_EndOps_L4 Nat)
    (step : ∀ a0 a1 a2 a3 a4 a5 a6 a7 a8 a9, I a0 a1 a2 a3 a4 a5 a6 a7 a8 a9 → ∀ again : (Nat → Nat) → T_s_EndOps_L4 → R_s_EndOps, Dep 2 again → (∀ y0 y1 y2 y3 y4 y5 y6 y7 y8 y9, I y0 y1 y2 y3 y4 y5 y6 y7 y8 y9 → μ y0 y1 y2 y3 y4 y5 y6 y7 y8 y9 < μ a0 a1 a2 a3 a4 a5 a6 a7 a8 a9 → Tot (fun σ => again σ (y0, (y1, y2, y3, y4, y5, ()), y6, y7, y8, y9, ())) (Q y0 y1 y2 y3 y4 y5 y6 y7 y8 y9)) →
      Tot (fun σ => B_s_EndOps_L4b (σ 0) (F_Z42 (σ 0)) (F_Z35 (σ 0)) (again σ) a0 a1 a2 a3 a4 a5 a6 a7 a8 a9) (Q a0 a1 a2 a3 a4 a5 a6 a7 a8 a9)) :
    ∀ a0 a1 a2 a3 a4 a5 a6 a7 a8 a9, I a0 a1 a2 a3 a4 a5 a6 a7 a8 a9 → Tot (fun σ => B_s_EndOps_L4 (σ 0) (F_Z42 (σ 0)) (F_Z35 (σ 0)) (σ 0) (a0, (a1, a2, a3, a4, a5, ()), a6, a7, a8, a9, ())) (Q a0 a1 a2 a3 a4 a5 a6 a7 a8 a9) := fun a0 a1 a2 a3 a4 a5 a6 a7 a8 a9 => Tot.loop0 (L := fun k => B_s_EndOps_L4 k (F_Z42 k) (F_Z35 k)) (B := fun k g => u_s_EndOps_L4 (B_s_EndOps_L4b k (F_Z42 k) (F_Z35 k) g)) (Q := u_s_EndOps_L4 Q) (fun _ _ _ => rfl) (u_s_EndOps_L4 I) (u_s_EndOps_L4 μ)
    (fun t ht again hag h => step t.1 t.2.1.1 t.2.1.2.1 t.2.1.2.2.1 t.2.1.2.2.2.1 t.2.1.2.2.2.2.1 t.2.2.1 t.2.2.2.1 t.2.2.2.2.1 t.2.2.2.2.2.1 ht again hag fun y0 y1 y2 y3 y4 y5 y6 y7 y8 y9 => h (y0, (y1, y2, y3, y4, y5, ()), y6, y7, y8, y9, ())) (a0, (a1, a2, a3, a4, a5, ()), a6, a7, a8, a9, ())
abbrev A_s_EndOps_L2 (Z : Type) : Type := (List (Int × Int)) → List Int → List Bool → List Int → List Int → Bool → Int → (List (Int × Int)) → Int → Int → Z
abbrev u_s_EndOps_L2 {Z : Type} (f : A_s_EndOps_L2 Z) (t : T_s_EndOps_L2) : Z := f t.1 t.2.1.1 t.2.1.2.1 t.2.1.2.2.1 t.2.1.2.2.2.1 t.2.1.2.2.2.2.1 t.2.2.1 t.2.2.2.1 t.2.2.2.2.1 t.2.2.2.2.2.1
theorem loop_s_EndOps_L2 {Q : A_s_EndOps_L2 ((((List (Int × Int)) × Bool × Unit) × (Unit)) → Prop)} (I : A_s_EndOps_L2 Prop) (μ : A_s_EndOps_L2 Nat)
    (step : ∀ a0 a1 a2 a3 a4 a5 a6 a7 a8 a9, I a0 a1 a2 a3 a4 a5 a6 a7 a8 a9 → ∀ again : (Nat → Nat) → T_s_EndOps_L2 → R_s_EndOps, Dep 2 again → (∀ y0 y1 y2 y3 y4 y5 y6 y7 y8 y9, I y0 y1 y2 y3 y4 y5 y6 y7 y8 y9 → μ y0 y1 y2 y3 y4 y5 y6 y7 y8 y9 < μ a0 a1 a2 a3 a4 a5 a6 a7 a8 a9 → Tot (fun σ => again σ (y0, (y1, y2, y3, y4, y5, ()), y6, y7, y8, y9, ())) (Q y0 y1 y2 y3 y4 y5 y6 y7 y8 y9)) →
      Tot (fun σ => B_s_EndOps_L2b (σ 0) (F_Z42 (σ 0)) (F_Z35 (σ 0)) (again σ) a0 a1 a2 a3 a4 a5 a6 a7 a8 a9) (Q a0 a1 a2 a3 a4 a5 a6 a7 a8 a9)) :
    ∀ a0 a1 a2 a3 a4 a5 a6 a7 a8 a9, I a0 a1 a2 a3 a4 a5 a6 a7 a8 a9 → Tot (fun σ => B_s_EndOps_L2 (σ 0) (F_Z42 (σ 0)) (F_Z35 (σ 0)) (σ 0) (a0, (a1, a2, a3, a4, a5, ()), a6, a7, a8, a9, ())) (Q a0 a1 a2 a3 a4 a5 a6 a7 a8 a9) := fun a0 a1 a2 a3 a4 a5 a6 a7 a8 a9 => Tot.loop0 (L := fun k => B_s_EndOps_L2 k (F_Z42 k) (F_Z35 k)) (B := fun k g => u_s_EndOps_L2 (B_s_EndOps_L2b k (F_Z42 k) (F_Z35 k) g)) (Q := u_s_EndOps_L2 Q) (fun _ _ _ => rfl) (u_s_EndOps_L2 I) (u_s_EndOps_L2 μ)
    (fun t ht again hag h => step t.1 t.2.1.1 t.2.1.2.1 t.2.1.2.2.1 t.2.1.2.2.2.1 t.2.1.2.2.2.2.1 t.2.2.1 t.2.2.2.1 t.2.2.2.2.1 t.2.2.2.2.2.1 ht again hag fun y0 y1 y2 y3 y4 y5 y6 y7 y8 y9 => h (y0, (y1, y2, y3, y4, y5, ()), y6, y7, y8, y9, ())) (a0, (a1, a2, a3, a4, a5, ()), a6, a7, a8, a9, ())
abbrev A_s_EndOps_L1 (Z : Type) : Type := (List (Int × Int)) → List Int → List Bool → List Int → List Int → Bool → Int → (List (Int × Int)) → Int → Int → Z
abbrev u_s_EndOps_L1 {Z : Type} (f : A_s_EndOps_L1 Z) (t : T_s_EndOps_L1) : Z := f t.1 t.2.1.1 t.2.1.2.1 t.2.1.2.2.1 t.2.1.2.2.2.1 t.2.1.2.2.2.2.1 t.2.2.1 t.2.2.2.1 t.2.2.2.2.1 t.2.2.2.2.2.1
theorem loop_s_EndOps_L1 {Q : A_s_EndOps_L1 ((((List (Int × Int)) × Bool × Unit) × (Unit)) → Prop)} (I : A_s_EndOps_L1 Prop) (μ : A_s_EndOps_L1 Nat)
    (step : ∀ a0 a1 a2 a3 a4 a5 a6 a7 a8 a9, I a0 a1 a2 a3 a4 a5 a6 a7 a8 a9 → ∀ again : (Nat → Nat) → T_s_EndOps_L1 → R_s_EndOps, Dep 2 again → (∀ y0 y1 y2 y3 y4 y5 y6 y7 y8 y9, I y0 y1 y2 y3 y4 y5 y6 y7 y8 y9 → μ y0 y1 y2 y3 y4 y5 y6 y7 y8 y9 < μ a0 a1 a2 a3 a4 a5 a6 a7 a8 a9 → Tot (fun σ => again σ (y0, (y1, y2, y3, y4, y5, ()), y6, y7, y8, y9, ())) (Q y0 y1 y2 y3 y4 y5 y6 y7 y8 y9)) →
      Tot (fun σ => B_s_EndOps_L1b (σ 0) (F_Z42 (σ 0)) (F_Z35 (σ 0)) (again σ) a0 a1 a2 a3 a4 a5 a6 a7 a8 a9) (Q a0 a1 a2 a3 a4 a5 a6 a7 a8 a9)) :
    ∀ a0 a1 a2 a3 a4 a5 a6 a7 a8 a9, I a0 a1 a2 a3 a4 a5 a6 a7 a8 a9 → Tot (fun σ => B_s_EndOps_L1 (σ 0) (F_Z42 (σ 0)) (F_Z35 (σ 0)) (σ 0) (a0, (a1, a2, a3, a4, a5, ()), a6, a7, a8, a9, ())) (Q a0 a1 a2 a3 a4 a5 a6 a7 a8 a9) := fun a0 a1 a2 a3 a4 a5 a6 a7 a8 a9 => Tot.loop0 (L := fun k => B_s_EndOps_L1 k (F_Z42 k) (F_Z35 k)) (B := fun k g => u_s_EndOps_L1 (B_s_EndOps_L1b k (F_Z42 k) (F_Z35 k) g)) (Q := u_s_EndOps_L1 Q) (fun _ _ _ => rfl) (u_s_EndOps_L1 I) (u_s_EndOps_L1 μ)
    (fun t ht again hag h => step t.1 t.2.1.1 t.2.1.2.1 t.2.1.2.2.1 t.2.1.2.2.2.1 t.2.1.2.2.2.2.1 t.2.2.1 t.2.2.2.1 t.2.2.2.2.1 t.2.2.2.2.2.1 ht again hag fun y0 y1 y2 y3 y4 y5 y6 y7 y8 y9 => h (y0, (y1, y2, y3, y4, y5, ()), y6, y7, y8, y9, ())) (a0, (a1, a2, a3, a4, a5, ()), a6, a7, a8, a9, ())
abbrev R_s_CutOps : Type := Option (((List (Int × Int)) × Unit) × (Unit))
abbrev C_s_CutOps : Type := (List (Int × Int)) → R_s_CutOps
def B_s_CutOps (k : Nat) (c_Z42 : C_Z42) (c_Z35 : C_Z35) (ops : List (Int × Int)) : R_s_CutOps :=
  (c_Z42 ops).bind fun r6 =>
  bif (!r6.1.1) then
    some (([], ()), ())
  else
    (c_Z35 ops).bind fun r10 =>
    chk (cutb 0 r10.1.2.1 ops.length) <|
    chk (room ([] : List (Int × Int)).length (sub ops 0 r10.1.2.1).length) <|
    some (((sub ops 0 r10.1.2.1), ()), ())
def F_s_CutOps : Nat → C_s_CutOps
  | 0, _ => none
  | k + 1, ops => B_s_CutOps k (F_Z42 k) (F_Z35 k) ops
theorem tot_s_CutOps {ops : _} {Q : _ → Prop} (h : Tot (fun σ => B_s_CutOps (σ 0) (F_Z42 (σ 0)) (F_Z35 (σ 0)) ops) Q) : Tot (fun σ => F_s_CutOps (σ 0) ops) Q :=
  Tot.call (F := fun k => F_s_CutOps k ops) (B := fun k => B_s_CutOps k (F_Z42 k) (F_Z35 k) ops) (fun k => rfl) h
abbrev R_Z29 : Type := Option (((List (Int × Int)) × Unit) × ((List Int × Int × Unit) × Unit))
abbrev C_Z29 : Type := List Int → Int → R_Z29
abbrev T_Z29_L4 : Type := (List Int × Int × Unit) × (List (Int × Int)) × (List Int × List Bool × List Int × List Int × Bool × Unit) × Int × Unit
def B_Z29_J3 (k : Nat) (c_Z25 : C_Z25) (c_Z14 : C_Z14) (c_s_someOp : C_s_someOp) (c_Z10 : C_Z10) (c_Z15 : C_Z15) (c_Z13 : C_Z13) (c_s_EndOps : C_s_EndOps) (c_s_CutOps : C_s_CutOps) (again4 : T_Z29_L4 → R_Z29) (r_b : List Int) (r_p : Int) (out : List (Int × Int)) (s_Kinds : List Int) (s_Full : List Bool) (s_Stack s_Memo : List Int) (s_Done : Bool) (n5 : Int) : R_Z29 :=
  again4 ((r_b, r_p, ()), out, (s_Kinds, s_Full, s_Stack, s_Memo, s_Done, ()), w64 (n5 - 1), ())
def B_Z29_J2 (k : Nat) (c_Z25 : C_Z25) (c_Z14 : C_Z14) (c_s_someOp : C_s_someOp) (c_Z10 : C_Z10) (c_Z15 : C_Z15) (c_Z13 : C_Z13) (c_s_EndOps : C_s_EndOps) (c_s_CutOps : C_s_CutOps) (again4 : T_Z29_L4 → R_Z29) (r_b : List Int) (r_p : Int) (out : List (Int × Int)) (s_Kinds : List Int) (s_Full : List Bool) (s_Stack s_Memo : List Int) (s_Done : Bool) (n5 o_Code o_Arg : Int) (t44 : Bool) : R_Z29 :=
  bif t44 then
    chk (room out.length ([(o_Code, o_Arg)]).length) <|
    jn (fun t => B_Z29_J3 k c_Z25 c_Z14 c_s_someOp c_Z10 c_Z15 c_Z13 c_s_EndOps c_s_CutOps again4 t.1.1 t.1.2.1 t.2.1 t.2.2.1.1 t.2.2.1.2.1 t.2.2.1.2.2.1 t.2.2.1.2.2.2.1 t.2.2.1.2.2.2.2.1 t.2.2.2.1) ((r_b, r_p, ()), (out ++ [(o_Code, o_Arg)]), (s_Kinds, s_Full, s_Stack, s_Memo, s_Done, ()), n5, ())
  else
    jn (fun t => B_Z29_J3 k c_Z25 c_Z14 c_s_someOp c_Z10 c_Z15 c_Z13 c_s_EndOps c_s_CutOps again4 t.1.1 t.1.2.1 t.2.1 t.2.2.1.1 t.2.2.1.2.1 t.2.2.1.2.2.1 t.2.2.1.2.2.2.1 t.2.2.1.2.2.2.2.1 t.2.2.2.1) ((r_b, r_p, ()), out, (s_Kinds, s_Full, s_Stack, s_Memo, s_Done, ()), n5, ())
def B_Z29_J1 (k : Nat) (c_Z25 : C_Z25) (c_Z14 : C_Z14) (c_s_someOp : C_s_someOp) (c_Z10 : C_Z10) (c_Z15 : C_Z15) (c_Z13 : C_Z13) (c_s_EndOps : C_s_EndOps) (c_s_CutOps : C_s_CutOps) (again4 : T_Z29_L4 → R_Z29) (r_b : List Int) (r_p : Int) (out : List (Int × Int)) (s_Kinds : List Int) (s_Full : List Bool) (s_Stack s_Memo : List Int) (s_Done : Bool) (n5 o_Code o_Arg : Int) (ok : Bool) : R_Z29 :=
  bif ok then
    jn (fun t => B_Z29_J2 k c_Z25 c_Z14 c_s_someOp c_Z10 c_Z15 c_Z13 c_s_EndOps c_s_CutOps again4 t.1.1 t.1.2.1 t.2.1 t.2.2.1.1 t.2.2.1.2.1 t.2.2.1.2.2.1 t.2.2.1.2.2.2.1 t.2.2.1.2.2.2.2.1 t.2.2.2.1 t.2.2.2.2.1.1 t.2.2.2.2.1.2.1 t.2.2.2.2.2.1) ((r_b, r_p, ()), out, (s_Kinds, s_Full, s_Stack, s_Memo, s_Done, ()), n5, (o_Code, o_Arg, ()), true, ())
  else
    (c_Z10 r_b r_p 16).bind fun r42 =>
    jn (fun t => B_Z29_J2 k c_Z25 c_Z14 c_s_someOp c_Z10 c_Z15 c_Z13 c_s_EndOps c_s_CutOps again4 t.1.1 t.1.2.1 t.2.1 t.2.2.1.1 t.2.2.1.2.1 t.2.2.1.2.2.1 t.2.2.1.2.2.2.1 t.2.2.1.2.2.2.2.1 t.2.2.2.1 t.2.2.2.2.1.1 t.2.2.2.2.1.2.1 t.2.2.2.2.2.1) ((r42.2.1.1, r42.2.1.2.1, ()), out, (s_Kinds, s_Full, s_Stack, s_Memo, s_Done, ()), n5, (o_Code, o_Arg, ()), (r42.1.1 == 0), ())
def B_Z29_J0 (k : Nat) (c_Z25 : C_Z25) (c_Z14 : C_Z14) (c_s_someOp : C_s_someOp) (c_Z10 : C_Z10) (c_Z15 : C_Z15) (c_Z13 : C_Z13) (c_s_EndOps : C_s_EndOps) (c_s_CutOps : C_s_CutOps) (again4 : T_Z29_L4 → R_Z29) (r_b : List Int) (r_p : Int) (out : List (Int × Int)) (s_Kinds : List Int) (s_Full : List Bool) (s_Stack s_Memo : List Int) (s_Done : Bool) (n5 o_Code o_Arg : Int) (t29 : Bool) : R_Z29 :=
  bif t29 then
    jn (fun t => B_Z29_J3 k c_Z25 c_Z14 c_s_someOp c_Z10 c_Z15 c_Z13 c_s_EndOps c_s_CutOps again4 t.1.1 t.1.2.1 t.2.1 t.2.2.1.1 t.2.2.1.2.1 t.2.2.1.2.2.1 t.2.2.1.2.2.2.1 t.2.2.1.2.2.2.2.1 t.2.2.2.1) ((r_b, r_p, ()), out, (s_Kinds, s_Full, s_Stack, s_Memo, s_Done, ()), n5, ())
  else
    (c_Z15 s_Kinds s_Full s_Stack s_Memo s_Done).bind fun r32 =>
    (c_Z13 r32.1.1.1 r32.1.1.2.1 r32.1.1.2.2.1 r32.1.1.2.2.2.1 r32.1.1.2.2.2.2.1 o_Code o_Arg).bind fun r34 =>
    bif r34.1.2.1 then
      jn (fun t => B_Z29_J1 k c_Z25 c_Z14 c_s_someOp c_Z10 c_Z15 c_Z13 c_s_EndOps c_s_CutOps again4 t.1.1 t.1.2.1 t.2.1 t.2.2.1.1 t.2.2.1.2.1 t.2.2.1.2.2.1 t.2.2.1.2.2.2.1 t.2.2.1.2.2.2.2.1 t.2.2.2.1 t.2.2.2.2.1.1 t.2.2.2.2.1.2.1 t.2.2.2.2.2.1) ((r_b, r_p, ()), out, (r34.1.1.1, r34.1.1.2.1, r34.1.1.2.2.1, r34.1.1.2.2.2.1, r34.1.1.2.2.2.2.1, ()), n5, (o_Code, o_Arg, ()), r34.1.2.1, ())
    else
      jn (fun t => B_Z29_J1 k c_Z25 c_Z14 c_s_someOp c_Z10 c_Z15 c_Z13 c_s_EndOps c_s_CutOps again4 t.1.1 t.1.2.1 t.2.1 t.2.2.1.1 t.2.2.1.2.1 t.2.2.1.2.2.1 t.2.2.1.2.2.2.1 t.2.2.1.2.2.2.2.1 t.2.2.2.1 t.2.2.2.2.1.1 t.2.2.2.2.1.2.1 t.2.2.2.2.2.1) ((r_b, r_p, ()), out, (s_Kinds, s_Full, s_Stack, s_Memo, s_Done, ()), n5, (o_Code, o_Arg, ()), r34.1.2.1, ())
def B_Z29_L4b (k : Nat) (c_Z25 : C_Z25) (c_Z14 : C_Z14) (c_s_someOp : C_s_someOp) (c_Z10 : C_Z10) (c_Z15 : C_Z15) (c_Z13 : C_Z13) (c_s_EndOps : C_s_EndOps) (c_s_CutOps : C_s_CutOps) (again4 : T_Z29_L4 → R_Z29) (r_b : List Int) (r_p : Int) (out : List (Int × Int)) (s_Kinds : List Int) (s_Full : List Bool) (s_Stack s_Memo : List Int) (s_Done : Bool) (n5 : Int) : R_Z29 :=
  bif decide (n5 > 0) then
    (c_s_someOp r_b r_p).bind fun r21 =>
    bif (r21.1.1.1 == 19) then
      (c_Z10 r21.2.1.1 r21.2.1.2.1 3).bind fun r27 =>
      jn (fun t => B_Z29_J0 k c_Z25 c_Z14 c_s_someOp c_Z10 c_Z15 c_Z13 c_s_EndOps c_s_CutOps again4 t.1.1 t.1.2.1 t.2.1 t.2.2.1.1 t.2.2.1.2.1 t.2.2.1.2.2.1 t.2.2.1.2.2.2.1 t.2.2.1.2.2.2.2.1 t.2.2.2.1 t.2.2.2.2.1.1 t.2.2.2.2.1.2.1 t.2.2.2.2.2.1) ((r27.2.1.1, r27.2.1.2.1, ()), out, (s_Kinds, s_Full, s_Stack, s_Memo, s_Done, ()), n5, (r21.1.1.1, r21.1.1.2.1, ()), decide (r27.1.1 > 0), ())
    else
      jn (fun t => B_Z29_J0 k c_Z25 c_Z14 c_s_someOp c_Z10 c_Z15 c_Z13 c_s_EndOps c_s_CutOps again4 t.1.1 t.1.2.1 t.2.1 t.2.2.1.1 t.2.2.1.2.1 t.2.2.1.2.2.1 t.2.2.1.2.2.2.1 t.2.2.1.2.2.2.2.1 t.2.2.2.1 t.2.2.2.2.1.1 t.2.2.2.2.1.2.1 t.2.2.2.2.2.1) ((r21.2.1.1, r21.2.1.2.1, ()), out, (s_Kinds, s_Full, s_Stack, s_Memo, s_Done, ()), n5, (r21.1.1.1, r21.1.1.2.1, ()), false, ())
  else
    (c_Z10 r_b r_p 2).bind fun r50 =>
    bif (r50.1.1 == 0) then
      (c_s_EndOps out).bind fun r54 =>
      bif r54.1.2.1 then
        (c_s_CutOps out).bind fun r59 =>
        chk (room r59.1.1.length r54.1.1.length) <|
        some (((r59.1.1 ++ r54.1.1), ()), ((r50.2.1.1, r50.2.1.2.1, ()), ()))
      else
        some ((out, ()), ((r50.2.1.1, r50.2.1.2.1, ()), ()))
    else
      some ((out, ()), ((r50.2.1.1, r50.2.1.2.1, ()), ()))
def B_Z29_L4 (k : Nat) (c_Z25 : C_Z25) (c_Z14 : C_Z14) (c_s_someOp : C_s_someOp) (c_Z10 : C_Z10) (c_Z15 : C_Z15) (c_Z13 : C_Z13) (c_s_EndOps : C_s_EndOps) (c_s_CutOps : C_s_CutOps) (n : Nat) (t : T_Z29_L4) : R_Z29 :=
  lfix n (fun again t => B_Z29_L4b k c_Z25 c_Z14 c_s_someOp c_Z10 c_Z15 c_Z13 c_s_EndOps c_s_CutOps again t.1.1 t.1.2.1 t.2.1 t.2.2.1.1 t.2.2.1.2.1 t.2.2.1.2.2.1 t.2.2.1.2.2.2.1 t.2.2.1.2.2.2.2.1 t.2.2.2.1) t
def B_Z29 (k : Nat) (c_Z25 : C_Z25) (c_Z14 : C_Z14) (c_s_someOp : C_s_someOp) (c_Z10 : C_Z10) (c_Z15 : C_Z15) (c_Z13 : C_Z13) (c_s_EndOps : C_s_EndOps) (c_s_CutOps : C_s_CutOps) (r_b : List Int) (r_p : Int) : R_Z29 :=
  (c_Z25).bind fun r12 =>
  (c_Z14 r_b r_p ([12, 8, 20, 5, 30, 0])).bind fun r15 =>
  B_Z29_L4 k c_Z25 c_Z14 c_s_someOp c_Z10 c_Z15 c_Z13 c_s_EndOps c_s_CutOps k ((r15.2.1.1, r15.2.1.2.1, ()), [], (r12.1.1.1, r12.1.1.2.1, r12.1.1.2.2.1, r12.1.1.2.2.2.1, r12.1.1.2.2.2.2.1, ()), r15.1.1, ())
def F_Z29 : Nat → C_Z29
  | 0, _, _ => none
  | k + 1, r_b, r_p => B_Z29 k (F_Z25 k) (F_Z14 k) (F_s_someOp k) (F_Z10 k) (F_Z15 k) (F_Z13 k) (F_s_EndOps k) (F_s_CutOps k) r_b r_p
theorem tot_Z29 {r_b r_p : _} {Q : _ → Prop} (h : Tot (fun σ => B_Z29 (σ 0) (F_Z25 (σ 0)) (F_Z14 (σ 0)) (F_s_someOp (σ 0)) (F_Z10 (σ 0)) (F_Z15 (σ 0)) (F_Z13 (σ 0)) (F_s_EndOps (σ 0)) (F_s_CutOps (σ 0)) r_b r_p) Q) : Tot (fun σ => F_Z29 (σ 0) r_b r_p) Q :=
  Tot.call (F := fun k => F_Z29 k r_b r_p) (B := fun k => B_Z29 k (F_Z25 k) (F_Z14 k) (F_s_someOp k) (F_Z10 k) (F_Z15 k) (F_Z13 k) (F_s_EndOps k) (F_s_CutOps k) r_b r_p) (fun k => rfl) h
abbrev A_Z29_L4 (Z : Type) : Type := List Int → Int → (List (Int × Int)) → List Int → List Bool → List Int → List Int → Bool → Int → Z
abbrev u_Z29_L4 {Z : Type} (f : A_Z29_L4 Z) (t : T_Z29_L4) : Z := f t.1.1 t.1.2.1 t.2.1 t.2.2.1.1 t.2.2.1.2.1 t.2.2.1.2.2.1 t.2.2.1.2.2.2.1 t.2.2.1.2.2.2.2.1 t.2.2.2.1
theorem loop_Z29_L4 {Q : A_Z29_L4 ((((List (Int × Int)) × Unit) × ((List Int × Int × Unit) × Unit)) → Prop)} (I : A_Z29_L4 Prop) (μ : A_Z29_L4 Nat)
    (step : ∀ a0 a1 a2 a3 a4 a5 a6 a7 a8, I a0 a1 a2 a3 a4 a5 a6 a7 a8 → ∀ again : (Nat → Nat) → T_Z29_L4 → R_Z29, Dep 2 again → (∀ y0 y1 y2 y3 y4 y5 y6 y7 y8, I y0 y1 y2 y3 y4 y5 y6 y7 y8 → μ y0 y1 y2 y3 y4 y5 y6 y7 y8 < μ a0 a1 a2 a3 a4 a5 a6 a7 a8 → Tot (fun σ => again σ ((y0, y1, ()), y2, (y3, y4, y5, y6, y7, ()), y8, ())) (Q y0 y1 y2 y3 y4 y5 y6 y7 y8)) →
      Tot (fun σ => B_Z29_L4b (σ 0) (F_Z25 (σ 0)) (F_Z14 (σ 0)) (F_s_someOp (σ 0)) (F_Z10 (σ 0)) (F_Z15 (σ 0)) (F_Z13 (σ 0)) (F_s_EndOps (σ 0)) (F_s_CutOps (σ 0)) (again σ) a0 a1 a2 a3 a4 a5 a6 a7 a8) (Q a0 a1 a2 a3 a4 a5 a6 a7 a8)) :
    ∀ a0 a1 a2 a3 a4 a5 a6 a7 a8, I a0 a1 a2 a3 a4 a5 a6 a7 a8 → Tot (fun σ => B_Z29_L4 (σ 0) (F_Z25 (σ 0)) (F_Z14 (σ 0)) (F_s_someOp (σ 0)) (F_Z10 (σ 0)) (F_Z15 (σ 0)) (F_Z13 (σ 0)) (F_s_EndOps (σ 0)) (F_s_CutOps (σ 0)) (σ 0) ((a0, a1, ()), a2, (a3, a4, a5, a6, a7, ()), a8, ())) (Q a0 a1 a2 a3 a4 a5 a6 a7 a8) := fun a0 a1 a2 a3 a4 a5 a6 a7 a8 => Tot.loop0 (L := fun k => B_Z29_L4 k (F_Z25 k) (F_Z14 k) (F_s_someOp k) (F_Z10 k) (F_Z15 k) (F_Z13 k) (F_s_EndOps k) (F_s_CutOps k)) (B := fun k g => u_Z29_L4 (B_Z29_L4b k (F_Z25 k) (F_Z14 k) (F_s_someOp k) (F_Z10 k) (F_Z15 k) (F_Z13 k) (F_s_EndOps k) (F_s_CutOps k) g)) (Q := u_Z29_L4 Q) (fun _ _ _ => rfl) (u_Z29_L4 I) (u_Z29_L4 μ)
    (fun t ht again hag h => step t.1.1 t.1.2.1 t.2.1 t.2.2.1.1 t.2.2.1.2.1 t.2.2.1.2.2.1 t.2.2.1.2.2.2.1 t.2.2.1.2.2.2.2.1 t.2.2.2.1 ht again hag fun y0 y1 y2 y3 y4 y5 y6 y7 y8 => h ((y0, y1, ()), y2, (y3, y4, y5, y6, y7, ()), y8, ())) ((a0, a1, ()), a2, (a3, a4, a5, a6, a7, ()), a8, ())
abbrev R_Z26 : Type := Option ((List Int × Unit) × (Unit))
abbrev C_Z26 : Type := (List (Int × Int × List Int)) → Int → R_Z26
abbrev T_Z26_L0 : Type := ((List (Int × Int × List Int)) × Int × Unit) × List Int × Int × Unit
def B_Z26_L0b (k : Nat) (again0 : T_Z26_L0 → R_Z26) (g_Nodes : List (Int × Int × List Int)) (g_Root : Int) (out : List Int) (i : Int) : R_Z26 :=
  bif decide (i < (len g_Nodes)) then
    chk (room out.length ([(-1)]).length) <|
    again0 ((g_Nodes, g_Root, ()), (out ++ [(-1)]), w64 (i + 1), ())
  else
    some ((out, ()), ())
def B_Z26_L0 (k : Nat) (n : Nat) (t : T_Z26_L0) : R_Z26 :=
  lfix n (fun again t => B_Z26_L0b k again t.1.1 t.1.2.1 t.2.1 t.2.2.1) t
def B_Z26 (k : Nat) (g_0 : List (Int × Int × List Int)) (g_1 : Int) : R_Z26 :=
  B_Z26_L0 k k ((g_0, g_1, ()), [], 0, ())
def F_Z26 : Nat → C_Z26
  | 0, _, _ => none
  | k + 1, g_0, g_1 => B_Z26 k g_0 g_1
theorem tot_Z26 {g_0 g_1 : _} {Q : _ → Prop} (h : Tot (fun σ => B_Z26 (σ 0) g_0 g_1) Q) : Tot (fun σ => F_Z26 (σ 0) g_0 g_1) Q :=
  Tot.call (F := fun k => F_Z26 k g_0 g_1) (B := fun k => B_Z26 k g_0 g_1) (fun k => rfl) h
abbrev A_Z26_L0 (Z : Type) : Type := (List (Int × Int × List Int)) → Int → List Int → Int → Z
abbrev u_Z26_L0 {Z : Type} (f : A_Z26_L0 Z) (t : T_Z26_L0) : Z := f t.1.1 t.1.2.1 t.2.1 t.2.2.1
theorem loop_Z26_L0 {Q : A_Z26_L0 (((List Int × Unit) × (Unit)) → Prop)} (I : A_Z26_L0 Prop) (μ : A_Z26_L0 Nat)
    (step : ∀ a0 a1 a2 a3, I a0 a1 a2 a3 → ∀ again : (Nat → Nat) → T_Z26_L0 → R_Z26, Dep 2 again → (∀ y0 y1 y2 y3, I y0 y1 y2 y3 → μ y0 y1 y2 y3 < μ a0 a1 a2 a3 → Tot (fun σ => again σ ((y0, y1, ()), y2, y3, ())) (Q y0 y1 y2 y3)) →
      Tot (fun σ => B_Z26_L0b (σ 0) (again σ) a0 a1 a2 a3) (Q a0 a1 a2 a3)) :
    ∀ a0 a1 a2 a3, I a0 a1 a2 a3 → Tot (fun σ => B_Z26_L0 (σ 0) (σ 0) ((a0, a1, ()), a2, a3, ())) (Q a0 a1 a2 a3) := fun a0 a1 a2 a3 => Tot.loop0 (L := fun k => B_Z26_L0 k) (B := fun k g => u_Z26_L0 (B_Z26_L0b k g)) (Q := u_Z26_L0 Q) (fun _ _ _ => rfl) (u_Z26_L0 I) (u_Z26_L0 μ)
    (fun t ht again hag h => step t.1.1 t.1.2.1 t.2.1 t.2.2.1 ht again hag fun y0 y1 y2 y3 => h ((y0, y1, ()), y2, y3, ())) ((a0, a1, ()), a2, a3, ())
abbrev R_s_emit : Type := Option (((List (Int × Int)) × Unit) × (Unit))
abbrev C_s_emit : Type := (List (Int × Int)) → (List (Int × Int)) → R_s_emit
def B_s_emit (k : Nat) (ops more1 : List (Int × Int)) : R_s_emit :=
  chk (room ([] : List (Int × Int)).length ops.length) <|
  chk (room ops.length more1.length) <|
  some (((ops ++ more1), ()), ())
def F_s_emit : Nat → C_s_emit
  | 0, _, _ => none
  | k + 1, ops, more1 => B_s_emit k ops more1
theorem tot_s_emit {ops more1 : _} {Q : _ → Prop} (h : Tot (fun σ => B_s_emit (σ 0) ops more1) Q) : Tot (fun σ => F_s_emit (σ 0) ops more1) Q :=
  Tot.call (F := fun k => F_s_emit k ops more1) (B := fun k => B_s_emit k ops more1) (fun k => rfl) h
abbrev R_s_memoed : Type := Option (((List (Int × Int)) × List Int × Unit) × (Unit))
abbrev C_s_memoed : Type := (List (Int × Int)) → List Int → Int → R_s_memoed
abbrev T_s_memoed_L1 : Type := (List (Int × Int)) × List Int × Int × Int × Int × Unit
def B_s_memoed_J0 (k : Nat) (c_Z45 : C_Z45) (c_s_emit : C_s_emit) (again1 : T_s_memoed_L1 → R_s_memoed) (ops : List (Int × Int)) (memo : List Int) (at2 next i : Int) : R_s_memoed :=
  again1 (ops, memo, at2, next, w64 (i + 1), ())
def B_s_memoed_L1b (k : Nat) (c_Z45 : C_Z45) (c_s_emit : C_s_emit) (again1 : T_s_memoed_L1 → R_s_memoed) (ops : List (Int × Int)) (memo : List Int) (at2 next i : Int) : R_s_memoed :=
  bif decide (i < (len memo)) then
    chk (inb i memo.length) <|
    bif decide ((rdx (0 : Int) memo i) ≥ 0) then
      jn (fun t => B_s_memoed_J0 k c_Z45 c_s_emit again1 t.1 t.2.1 t.2.2.1 t.2.2.2.1 t.2.2.2.2.1) (ops, memo, at2, w64 (next + 1), i, ())
    else
      jn (fun t => B_s_memoed_J0 k c_Z45 c_s_emit again1 t.1 t.2.1 t.2.2.1 t.2.2.2.1 t.2.2.2.2.1) (ops, memo, at2, next, i, ())
  else
    (c_Z45 memo).bind fun r24 =>
    chk (inb at2 r24.1.1.length) <|
    chk (decide (at2.toNat < r24.1.1.length)) <|
    (c_s_emit ops ([(15, next)])).bind fun r33 =>
    some ((r33.1.1, (r24.1.1.set at2.toNat next), ()), ())
def B_s_memoed_L1 (k : Nat) (c_Z45 : C_Z45) (c_s_emit : C_s_emit) (n : Nat) (t : T_s_memoed_L1) : R_s_memoed :=
  lfix n (fun again t => B_s_memoed_L1b k c_Z45 c_s_emit again t.1 t.2.1 t.2.2.1 t.2.2.2.1 t.2.2.2.2.1) t
def B_s_memoed (k : Nat) (c_Z45 : C_Z45) (c_s_emit : C_s_emit) (ops : List (Int × Int)) (memo : List Int) (at2 : Int) : R_s_memoed :=
  B_s_memoed_L1 k c_Z45 c_s_emit k (ops, memo, at2, 0, 0, ())
def F_s_memoed : Nat → C_s_memoed
  | 0, _, _, _ => none
  | k + 1, ops, memo, at2 => B_s_memoed k (F_Z45 k) (F_s_emit k) ops memo at2
theorem tot_s_memoed {ops memo at2 : _} {Q : _ → Prop} (h : Tot (fun σ => B_s_memoed (σ 0) (F_Z45 (σ 0)) (F_s_emit (σ 0)) ops memo at2) Q) : Tot (fun σ => F_s_memoed (σ 0) ops memo at2) Q :=
  Tot.call (F := fun k => F_s_memoed k ops memo at2) (B := fun k => B_s_memoed k (F_Z45 k) (F_s_emit k) ops memo at2) (fun k => rfl) h
abbrev A_s_memoed_L1 (Z : Type) : Type := (List (Int × Int)) → List Int → Int → Int → Int → Z
abbrev u_s_memoed_L1 {Z : Type} (f : A_s_memoed_L1 Z) (t : T_s_memoed_L1) : Z := f t.1 t.2.1 t.2.2.1 t.2.2.2.1 t.2.2.2.2.1
theorem loop_s_memoed_L1 {Q : A_s_memoed_L1 ((((List (Int × Int)) × List Int × Unit) × (Unit)) → Prop)} (I : A_s_memoed_L1 Prop) (μ : A_s_memoed_L1 Nat)
    (step : ∀ a0 a1 a2 a3 a4, I a0 a1 a2 a3 a4 → ∀ again : (Nat → Nat) → T_s_memoed_L1 → R_s_memoed, Dep 2 again → (∀ y0 y1 y2 y3 y4, I y0 y1 y2 y3 y4 → μ y0 y1 y2 y3 y4 < μ a0 a1 a2 a3 a4 → Tot (fun σ => again σ (y0, y1, y2, y3, y4, ())) (Q y0 y1 y2 y3 y4)) →
      Tot (fun σ => B_s_memoed_L1b (σ 0) (F_Z45 (σ 0)) (F_s_emit (σ 0)) (again σ) a0 a1 a2 a3 a4) (Q a0 a1 a2 a3 a4)) :
    ∀ a0 a1 a2 a3 a4, I a0 a1 a2 a3 a4 → Tot (fun σ => B_s_memoed_L1 (σ 0) (F_Z45 (σ 0)) (F_s_emit (σ 0)) (σ 0) (a0, a1, a2, a3, a4, ())) (Q a0 a1 a2 a3 a4) := fun a0 a1 a2 a3 a4 => Tot.loop0 (L := fun k => B_s_memoed_L1 k (F_Z45 k) (F_s_emit k)) (B := fun k g => u_s_memoed_L1 (B_s_memoed_L1b k (F_Z45 k) (F_s_emit k) g)) (Q := u_s_memoed_L1 Q) (fun _ _ _ => rfl) (u_s_memoed_L1 I) (u_s_memoed_L1 μ)
    (fun t ht again hag h => step t.1 t.2.1 t.2.2.1 t.2.2.2.1 t.2.2.2.2.1 ht again hag fun y0 y1 y2 y3 y4 => h (y0, y1, y2, y3, y4, ())) (a0, a1, a2, a3, a4, ())
abbrev R_Z47 : Type := Option (((List (Int × Int)) × List Int × Unit) × (Unit))
abbrev C_Z47 : Type := (List (Int × Int × List Int)) → Int → Int → List Int → (List (Int × Int)) → List Int → R_Z47
abbrev R_Z39 : Type := Option (((List (Int × Int)) × List Int × Unit) × (Unit))
abbrev C_Z39 : Type := (List (Int × Int × List Int)) → Int → Int → Int → (List (Int × Int)) → List Int → R_Z39
abbrev R_s_fill : Type := Option (((List (Int × Int)) × List Int × Unit) × (Unit))
abbrev C_s_fill : Type := (List (Int × Int × List Int)) → Int → Int → List Int → Int → Int → Int → (List (Int × Int)) → List Int → R_s_fill
abbrev R_s_save : Type := Option (((List (Int × Int)) × List Int × Unit) × (Unit))
abbrev C_s_save : Type := (List (Int × Int × List Int)) → Int → Int → Int → (List (Int × Int)) → List Int → R_s_save
abbrev T_Z47_L0 : Type := Int × List Int × (List (Int × Int)) × List Int × ((List (Int × Int × List Int)) × Int × Unit) × Int × Unit
def B_Z47_L0b (k : Nat) (c_s_save : C_s_save) (again0 : T_Z47_L0 → R_Z47) (level : Int) (list : List Int) (ops : List (Int × Int)) (memo : List Int) (g_Nodes : List (Int × Int × List Int)) (g_Root i : Int) : R_Z47 :=
  bif decide (i < (len list)) then
    chk (inb i list.length) <|
    (c_s_save g_Nodes g_Root level (rdx (0 : Int) list i) ops memo).bind fun r28 =>
    again0 (level, list, r28.1.1, r28.1.2.1, (g_Nodes, g_Root, ()), w64 (i + 1), ())
  else
    some ((ops, memo, ()), ())
def B_Z47_L0 (k : Nat) (c_s_save : C_s_save) (n : Nat) (t : T_Z47_L0) : R_Z47 :=
  lfix n (fun again t => B_Z47_L0b k c_s_save again t.1 t.2.1 t.2.2.1 t.2.2.2.1 t.2.2.2.2.1.1 t.2.2.2.2.1.2.1 t.2.2.2.2.2.1) t
def B_Z47 (k : Nat) (c_s_save : C_s_save) (g_0 : List (Int × Int × List Int)) (g_1 level : Int) (list : List Int) (ops : List (Int × Int)) (memo : List Int) : R_Z47 :=
  B_Z47_L0 k c_s_save k (level, list, ops, memo, (g_0, g_1, ()), 0, ())
abbrev T_Z39_L3 : Type := Int × (List (Int × Int)) × List Int × List Int × Bool × Int × Unit
def B_Z39_J4 (k : Nat) (c_s_emit : C_s_emit) (c_s_memoed : C_s_memoed) (c_Z47 : C_Z47) (at2 : Int) (ops : List (Int × Int)) (memo : List Int) : R_Z39 :=
  chk (inb at2 memo.length) <|
  (c_s_emit ops ([(16, (rdx (0 : Int) memo at2))])).bind fun r87 =>
  some ((r87.1.1, memo, ()), ())
def B_Z39_J2 (k : Nat) (c_s_emit : C_s_emit) (c_s_memoed : C_s_memoed) (c_Z47 : C_Z47) (again3 : T_Z39_L3 → R_Z39) (at2 : Int) (ops : List (Int × Int)) (memo kids : List Int) (short : Bool) (i : Int) (t67 : Bool) : R_Z39 :=
  bif t67 then
    (c_s_emit ops ([(17, 0)])).bind fun r73 =>
    again3 (at2, r73.1.1, memo, kids, short, w64 (i + 1), ())
  else
    bif (!short) then
      (c_s_emit ops ([(18, 0)])).bind fun r79 =>
      jn (fun t => B_Z39_J4 k c_s_emit c_s_memoed c_Z47 t.1 t.2.1 t.2.2.1) (at2, r79.1.1, memo, ())
    else
      jn (fun t => B_Z39_J4 k c_s_emit c_s_memoed c_Z47 t.1 t.2.1 t.2.2.1) (at2, ops, memo, ())
def B_Z39_L3b (k : Nat) (c_s_emit : C_s_emit) (c_s_memoed : C_s_memoed) (c_Z47 : C_Z47) (again3 : T_Z39_L3 → R_Z39) (at2 : Int) (ops : List (Int × Int)) (memo kids : List Int) (short : Bool) (i : Int) : R_Z39 :=
  bif decide (i < (len kids)) then
    jn (fun t => B_Z39_J2 k c_s_emit c_s_memoed c_Z47 again3 t.1 t.2.1 t.2.2.1 t.2.2.2.1 t.2.2.2.2.1 t.2.2.2.2.2.1 t.2.2.2.2.2.2.1) (at2, ops, memo, kids, short, i, short, ())
  else
    jn (fun t => B_Z39_J2 k c_s_emit c_s_memoed c_Z47 again3 t.1 t.2.1 t.2.2.1 t.2.2.2.1 t.2.2.2.2.1 t.2.2.2.2.2.1 t.2.2.2.2.2.2.1) (at2, ops, memo, kids, short, i, false, ())
def B_Z39_L3 (k : Nat) (c_s_emit : C_s_emit) (c_s_memoed : C_s_memoed) (c_Z47 : C_Z47) (n : Nat) (t : T_Z39_L3) : R_Z39 :=
  lfix n (fun again t => B_Z39_L3b k c_s_emit c_s_memoed c_Z47 again t.1 t.2.1 t.2.2.1 t.2.2.2.1 t.2.2.2.2.1 t.2.2.2.2.2.1) t
def B_Z39_J5 (k : Nat) (c_s_emit : C_s_emit) (c_s_memoed : C_s_memoed) (c_Z47 : C_Z47) (at2 : Int) (ops : List (Int × Int)) (memo : List Int) (c : Int) : R_Z39 :=
  (c_s_emit ops ([(c, 0)])).bind fun r97 =>
  (c_s_memoed r97.1.1 memo at2).bind fun r100 =>
  some ((r100.1.1, r100.1.2.1, ()), ())
def B_Z39_J1 (k : Nat) (c_s_emit : C_s_emit) (c_s_memoed : C_s_memoed) (c_Z47 : C_Z47) (level at2 : Int) (ops : List (Int × Int)) (memo : List Int) (g_Nodes : List (Int × Int × List Int)) (g_Root : Int) (kids : List Int) (short : Bool) : R_Z39 :=
  (c_Z47 g_Nodes g_Root level kids ops memo).bind fun r53 =>
  chk (inb at2 r53.1.2.1.length) <|
  bif decide ((rdx (0 : Int) r53.1.2.1 at2) ≥ 0) then
    B_Z39_L3 k c_s_emit c_s_memoed c_Z47 k (at2, r53.1.1, r53.1.2.1, kids, short, 0, ())
  else
    bif short then
      jn (fun t => B_Z39_J5 k c_s_emit c_s_memoed c_Z47 t.1 t.2.1 t.2.2.1 t.2.2.2.1) (at2, r53.1.1, r53.1.2.1, w64 (4 + (len kids)), ())
    else
      jn (fun t => B_Z39_J5 k c_s_emit c_s_memoed c_Z47 t.1 t.2.1 t.2.2.1 t.2.2.2.1) (at2, r53.1.1, r53.1.2.1, 3, ())
def B_Z39_J0 (k : Nat) (c_s_emit : C_s_emit) (c_s_memoed : C_s_memoed) (c_Z47 : C_Z47) (level at2 : Int) (ops : List (Int × Int)) (memo : List Int) (g_Nodes : List (Int × Int × List Int)) (g_Root : Int) (kids : List Int) (short : Bool) : R_Z39 :=
  bif (!short) then
    (c_s_emit ops ([(2, 0)])).bind fun r46 =>
    jn (fun t => B_Z39_J1 k c_s_emit c_s_memoed c_Z47 t.1 t.2.1 t.2.2.1 t.2.2.2.1 t.2.2.2.2.1.1 t.2.2.2.2.1.2.1 t.2.2.2.2.2.1 t.2.2.2.2.2.2.1) (level, at2, r46.1.1, memo, (g_Nodes, g_Root, ()), kids, short, ())
  else
    jn (fun t => B_Z39_J1 k c_s_emit c_s_memoed c_Z47 t.1 t.2.1 t.2.2.1 t.2.2.2.1 t.2.2.2.2.1.1 t.2.2.2.2.1.2.1 t.2.2.2.2.2.1 t.2.2.2.2.2.2.1) (level, at2, ops, memo, (g_Nodes, g_Root, ()), kids, short, ())
def B_Z39 (k : Nat) (c_s_emit : C_s_emit) (c_s_memoed : C_s_memoed) (c_Z47 : C_Z47) (g_0 : List (Int × Int × List Int)) (g_1 level at2 : Int) (ops : List (Int × Int)) (memo : List Int) : R_Z39 :=
  chk (inb at2 g_0.length) <|
  bif ((len (((rdx ((0 : Int), ((0 : Int), ([] : List Int))) g_0 at2).2).2)) == 0) then
    (c_s_emit ops ([(4, 0)])).bind fun r28 =>
    (c_s_memoed r28.1.1 memo at2).bind fun r31 =>
    some ((r31.1.1, r31.1.2.1, ()), ())
  else
    bif decide (level > 0) then
      jn (fun t => B_Z39_J0 k c_s_emit c_s_memoed c_Z47 t.1 t.2.1 t.2.2.1 t.2.2.2.1 t.2.2.2.2.1.1 t.2.2.2.2.1.2.1 t.2.2.2.2.2.1 t.2.2.2.2.2.2.1) (level, at2, ops, memo, (g_0, g_1, ()), ((rdx ((0 : Int), ((0 : Int), ([] : List Int))) g_0 at2).2).2, decide ((len (((rdx ((0 : Int), ((0 : Int), ([] : List Int))) g_0 at2).2).2)) ≤ 2), ())
    else
      jn (fun t => B_Z39_J0 k c_s_emit c_s_memoed c_Z47 t.1 t.2.1 t.2.2.1 t.2.2.2.1 t.2.2.2.2.1.1 t.2.2.2.2.1.2.1 t.2.2.2.2.2.1 t.2.2.2.2.2.2.1) (level, at2, ops, memo, (g_0, g_1, ()), ((rdx ((0 : Int), ((0 : Int), ([] : List Int))) g_0 at2).2).2, false, ())
abbrev T_s_fill_L1 : Type := Int × List Int × Int × Int × (List (Int × Int)) × List Int × ((List (Int × Int × List Int)) × Int × Unit) × Int × Unit
def B_s_fill_L1b (k : Nat) (c_s_emit : C_s_emit) (c_Z47 : C_Z47) (again1 : T_s_fill_L1 → R_s_fill) (level : Int) (kids : List Int) (each one : Int) (ops : List (Int × Int)) (memo : List Int) (g_Nodes : List (Int × Int × List Int)) (g_Root i : Int) : R_s_fill :=
  bif decide (i < (len kids)) then
    chk (cutb i (w64 (i + each)) kids.length) <|
    (c_Z47 g_Nodes g_Root level (sub kids i (w64 (i + each))) ops memo).bind fun r64 =>
    (c_s_emit r64.1.1 ([(one, 0)])).bind fun r71 =>
    again1 (level, kids, each, one, r71.1.1, r64.1.2.1, (g_Nodes, g_Root, ()), w64 (i + each), ())
  else
    some ((ops, memo, ()), ())
def B_s_fill_L1 (k : Nat) (c_s_emit : C_s_emit) (c_Z47 : C_Z47) (n : Nat) (t : T_s_fill_L1) : R_s_fill :=
  lfix n (fun again t => B_s_fill_L1b k c_s_emit c_Z47 again t.1 t.2.1 t.2.2.1 t.2.2.2.1 t.2.2.2.2.1 t.2.2.2.2.2.1 t.2.2.2.2.2.2.1.1 t.2.2.2.2.2.2.1.2.1 t.2.2.2.2.2.2.2.1) t
def B_s_fill_J0 (k : Nat) (c_s_emit : C_s_emit) (c_Z47 : C_Z47) (level : Int) (kids : List Int) (each one all : Int) (ops : List (Int × Int)) (memo : List Int) (g_Nodes : List (Int × Int × List Int)) (g_Root : Int) (t26 : Bool) : R_s_fill :=
  bif t26 then
    (c_s_emit ops ([(2, 0)])).bind fun r30 =>
    (c_Z47 g_Nodes g_Root level kids r30.1.1 memo).bind fun r37 =>
    (c_s_emit r37.1.1 ([(all, 0)])).bind fun r44 =>
    some ((r44.1.1, r37.1.2.1, ()), ())
  else
    B_s_fill_L1 k c_s_emit c_Z47 k (level, kids, each, one, ops, memo, (g_Nodes, g_Root, ()), 0, ())
def B_s_fill (k : Nat) (c_s_emit : C_s_emit) (c_Z47 : C_Z47) (g_0 : List (Int × Int × List Int)) (g_1 level : Int) (kids : List Int) (each one all : Int) (ops : List (Int × Int)) (memo : List Int) : R_s_fill :=
  bif decide (level > 0) then
    jn (fun t => B_s_fill_J0 k c_s_emit c_Z47 t.1 t.2.1 t.2.2.1 t.2.2.2.1 t.2.2.2.2.1 t.2.2.2.2.2.1 t.2.2.2.2.2.2.1 t.2.2.2.2.2.2.2.1.1 t.2.2.2.2.2.2.2.1.2.1 t.2.2.2.2.2.2.2.2.1) (level, kids, each, one, all, ops, memo, (g_0, g_1, ()), decide ((len kids) > each), ())
  else
    jn (fun t => B_s_fill_J0 k c_s_emit c_Z47 t.1 t.2.1 t.2.2.1 t.2.2.2.1 t.2.2.2.2.1 t.2.2.2.2.2.1 t.2.2.2.2.2.2.1 t.2.2.2.2.2.2.2.1.1 t.2.2.2.2.2.2.2.1.2.1 t.2.2.2.2.2.2.2.2.1) (level, kids, each, one, all, ops, memo, (g_0, g_1, ()), false, ())
def B_s_save_J0 (k : Nat) (c_s_emit : C_s_emit) (c_s_memoed : C_s_memoed) (c_Z39 : C_Z39) (c_s_fill : C_s_fill) (c_Z47 : C_Z47) (ops : List (Int × Int)) (memo : List Int) : R_s_save :=
  some ((ops, memo, ()), ())
def B_s_save (k : Nat) (c_s_emit : C_s_emit) (c_s_memoed : C_s_memoed) (c_Z39 : C_Z39) (c_s_fill : C_s_fill) (c_Z47 : C_Z47) (g_0 : List (Int × Int × List Int)) (g_1 level at2 : Int) (ops : List (Int × Int)) (memo : List Int) : R_s_save :=
  chk (inb at2 g_0.length) <|
  chk (inb at2 memo.length) <|
  bif decide ((rdx (0 : Int) memo at2) ≥ 0) then
    chk (inb at2 memo.length) <|
    (c_s_emit ops ([(16, (rdx (0 : Int) memo at2))])).bind fun r30 =>
    some ((r30.1.1, memo, ()), ())
  else
    bif (((rdx ((0 : Int), ((0 : Int), ([] : List Int))) g_0 at2).1) == 0) then
      (c_s_emit ops ([(0, ((rdx ((0 : Int), ((0 : Int), ([] : List Int))) g_0 at2).2).1)])).bind fun r41 =>
      some ((r41.1.1, memo, ()), ())
    else
      bif (((rdx ((0 : Int), ((0 : Int), ([] : List Int))) g_0 at2).1) == 1) then
        (c_s_emit ops ([(1, ((rdx ((0 : Int), ((0 : Int), ([] : List Int))) g_0 at2).2).1)])).bind fun r50 =>
        (c_s_memoed r50.1.1 memo at2).bind fun r53 =>
        some ((r53.1.1, r53.1.2.1, ()), ())
      else
        bif (((rdx ((0 : Int), ((0 : Int), ([] : List Int))) g_0 at2).1) == 2) then
          (c_Z39 g_0 g_1 level at2 ops memo).bind fun r63 =>
          some ((r63.1.1, r63.1.2.1, ()), ())
        else
          bif (((rdx ((0 : Int), ((0 : Int), ([] : List Int))) g_0 at2).1) == 3) then
            (c_s_emit ops ([(7, 0)])).bind fun r72 =>
            (c_s_memoed r72.1.1 memo at2).bind fun r75 =>
            (c_s_fill g_0 g_1 level (((rdx ((0 : Int), ((0 : Int), ([] : List Int))) g_0 at2).2).2) 1 8 9 r75.1.1 r75.1.2.1).bind fun r84 =>
            some ((r84.1.1, r84.1.2.1, ()), ())
          else
            bif (((rdx ((0 : Int), ((0 : Int), ([] : List Int))) g_0 at2).1) == 4) then
              (c_s_emit ops ([(10, 0)])).bind fun r93 =>
              (c_s_memoed r93.1.1 memo at2).bind fun r96 =>
              (c_s_fill g_0 g_1 level (((rdx ((0 : Int), ((0 : Int), ([] : List Int))) g_0 at2).2).2) 2 11 12 r96.1.1 r96.1.2.1).bind fun r105 =>
              some ((r105.1.1, r105.1.2.1, ()), ())
            else
              (c_s_emit ops ([(13, ((rdx ((0 : Int), ((0 : Int), ([] : List Int))) g_0 at2).2).1)])).bind fun r114 =>
              (c_s_memoed r114.1.1 memo at2).bind fun r117 =>
              (c_Z47 g_0 g_1 level (((rdx ((0 : Int), ((0 : Int), ([] : List Int))) g_0 at2).2).2) r117.1.1 r117.1.2.1).bind fun r127 =>
              bif decide ((len (((rdx ((0 : Int), ((0 : Int), ([] : List Int))) g_0 at2).2).2)) > 0) then
                (c_s_emit r127.1.1 ([(14, 0)])).bind fun r137 =>
                jn (fun t => B_s_save_J0 k c_s_emit c_s_memoed c_Z39 c_s_fill c_Z47 t.1 t.2.1) (r137.1.1, r127.1.2.1, ())
              else
                jn (fun t => B_s_save_J0 k c_s_emit c_s_memoed c_Z39 c_s_fill c_Z47 t.1 t.2.1) (r127.1.1, r127.1.2.1, ())
mutual
def F_Z47 : Nat → C_Z47
  | 0, _, _, _, _, _, _ => none
  | k + 1, g_0, g_1, level, list, ops, memo => B_Z47 k (F_s_save k) g_0 g_1 level list ops memo
def F_Z39 : Nat → C_Z39
  | 0, _, _, _, _, _, _ => none
  | k + 1, g_0, g_1, level, at2, ops, memo => B_Z39 k (F_s_emit k) (F_s_memoed k) (F_Z47 k) g_0 g_1 level at2 ops memo
def F_s_fill : Nat → C_s_fill
  | 0, _, _, _, _, _, _, _, _, _ => none
  | k + 1, g_0, g_1, level, kids, each, one, all, ops, memo => B_s_fill k (F_s_emit k) (F_Z47 k) g_0 g_1 level kids each one all ops memo
def F_s_save : Nat → C_s_save
  | 0, _, _, _, _, _, _ => none
  | k + 1, g_0, g_1, level, at2, ops, memo => B_s_save k (F_s_emit k) (F_s_memoed k) (F_Z39 k) (F_s_fill k) (F_Z47 k) g_0 g_1 level at2 ops memo
end
theorem F_Z47_succ (k : Nat) (g_0 : List (Int × Int × List Int)) (g_1 : Int) (level : Int) (list : List Int) (ops : List (Int × Int)) (memo : List Int) : F_Z47 (k + 1) g_0 g_1 level list ops memo = B_Z47 k (F_s_save k) g_0 g_1 level list ops memo := by rw [F_Z47]
theorem tot_Z47 {g_0 g_1 level list ops memo : _} {Q : _ → Prop} (h : Tot (fun σ => B_Z47 (σ 0) (F_s_save (σ 0)) g_0 g_1 level list ops memo) Q) : Tot (fun σ => F_Z47 (σ 0) g_0 g_1 level list ops memo) Q :=
  Tot.call (F := fun k => F_Z47 k g_0 g_1 level list ops memo) (B := fun k => B_Z47 k (F_s_save k) g_0 g_1 level list ops memo) (fun k => F_Z47_succ k g_0 g_1 level list ops memo) h
abbrev A_Z47_L0 (Z : Type) : Type := Int → List Int → (List (Int × Int)) → List Int → (List (Int × Int × List Int)) → Int → Int → Z
abbrev u_Z47_L0 {Z : Type} (f : A_Z47_L0 Z) (t : T_Z47_L0) : Z := f t.1 t.2.1 t.2.2.1 t.2.2.2.1 t.2.2.2.2.1.1 t.2.2.2.2.1.2.1 t.2.2.2.2.2.1
theorem loop_Z47_L0 {Q : A_Z47_L0 ((((List (Int × Int)) × List Int × Unit) × (Unit)) → Prop)} (I : A_Z47_L0 Prop) (μ : A_Z47_L0 Nat)
    (step : ∀ a0 a1 a2 a3 a4 a5 a6, I a0 a1 a2 a3 a4 a5 a6 → ∀ again : (Nat → Nat) → T_Z47_L0 → R_Z47, Dep 2 again → (∀ y0 y1 y2 y3 y4 y5 y6, I y0 y1 y2 y3 y4 y5 y6 → μ y0 y1 y2 y3 y4 y5 y6 < μ a0 a1 a2 a3 a4 a5 a6 → Tot (fun σ => again σ (y0, y1, y2, y3, (y4, y5, ()), y6, ())) (Q y0 y1 y2 y3 y4 y5 y6)) →
      Tot (fun σ => B_Z47_L0b (σ 0) (F_s_save (σ 0)) (again σ) a0 a1 a2 a3 a4 a5 a6) (Q a0 a1 a2 a3 a4 a5 a6)) :
    ∀ a0 a1 a2 a3 a4 a5 a6, I a0 a1 a2 a3 a4 a5 a6 → Tot (fun σ => B_Z47_L0 (σ 0) (F_s_save (σ 0)) (σ 0) (a0, a1, a2, a3, (a4, a5, ()), a6, ())) (Q a0 a1 a2 a3 a4 a5 a6) := fun a0 a1 a2 a3 a4 a5 a6 => Tot.loop0 (L := fun k => B_Z47_L0 k (F_s_save k)) (B := fun k g => u_Z47_L0 (B_Z47_L0b k (F_s_save k) g)) (Q := u_Z47_L0 Q) (fun _ _ _ => rfl) (u_Z47_L0 I) (u_Z47_L0 μ)
    (fun t ht again hag h => step t.1 t.2.1 t.2.2.1 t.2.2.2.1 t.2.2.2.2.1.1 t.2.2.2.2.1.2.1 t.2.2.2.2.2.1 ht again hag fun y0 y1 y2 y3 y4 y5 y6 => h (y0, y1, y2, y3, (y4, y5, ()), y6, ())) (a0, a1, a2, a3, (a4, a5, ()), a6, ())
theorem F_Z39_succ (k : Nat) (g_0 : List (Int × Int × List Int)) (g_1 : Int) (level : Int) (at2 : Int) (ops : List (Int × Int)) (memo : List Int) : F_Z39 (k + 1) g_0 g_1 level at2 ops memo = B_Z39 k (F_s_emit k) (F_s_memoed k) (F_Z47 k) g_0 g_1 level at2 ops memo := by rw [F_Z39]
theorem tot_Z39 {g_0 g_1 level at2 ops memo : _} {Q : _ → Prop} (h : Tot (fun σ => B_Z39 (σ 0) (F_s_emit (σ 0)) (F_s_memoed (σ 0)) (F_Z47 (σ 0)) g_0 g_1 level at2 ops memo) Q) : Tot (fun σ => F_Z39 (σ 0) g_0 g_1 level at2 ops memo) Q :=
  Tot.call (F := fun k => F_Z39 k g_0 g_1 level at2 ops memo) (B := fun k => B_Z39 k (F_s_emit k) (F_s_memoed k) (F_Z47 k) g_0 g_1 level at2 ops memo) (fun k => F_Z39_succ k g_0 g_1 level at2 ops memo) h
abbrev A_Z39_L3 (Z : Type) : Type := Int → (List (Int × Int)) → List Int → List Int → Bool → Int → Z
abbrev u_Z39_L3 {Z : Type} (f : A_Z39_L3 Z) (t : T_Z39_L3) : Z := f t.1 t.2.1 t.2.2.1 t.2.2.2.1 t.2.2.2.2.1 t.2.2.2.2.2.1
theorem loop_Z39_L3 {Q : A_Z39_L3 ((((List (Int × Int)) × List Int × Unit) × (Unit)) → Prop)} (I : A_Z39_L3 Prop) (μ : A_Z39_L3 Nat)
    (step : ∀ a0 a1 a2 a3 a4 a5, I a0 a1 a2 a3 a4 a5 → ∀ again : (Nat → Nat) → T_Z39_L3 → R_Z39, Dep 2 again → (∀ y0 y1 y2 y3 y4 y5, I y0 y1 y2 y3 y4 y5 → μ y0 y1 y2 y3 y4 y5 < μ a0 a1 a2 a3 a4 a5 → Tot (fun σ => again σ (y0, y1, y2, y3, y4, y5, ())) (Q y0 y1 y2 y3 y4 y5)) →
      Tot (fun σ => B_Z39_L3b (σ 0) (F_s_emit (σ 0)) (F_s_memoed (σ 0)) (F_Z47 (σ 0)) (again σ) a0 a1 a2 a3 a4 a5) (Q a0 a1 a2 a3 a4 a5)) :
    ∀ a0 a1 a2 a3 a4 a5, I a0 a1 a2 a3 a4 a5 → Tot (fun σ => B_Z39_L3 (σ 0) (F_s_emit (σ 0)) (F_s_memoed (σ 0)) (F_Z47 (σ 0)) (σ 0) (a0, a1, a2, a3, a4, a5, ())) (Q a0 a1 a2 a3 a4 a5) := fun a0 a1 a2 a3 a4 a5 => Tot.loop0 (L := fun k => B_Z39_L3 k (F_s_emit k) (F_s_memoed k) (F_Z47 k)) (B := fun k g => u_Z39_L3 (B_Z39_L3b k (F_s_emit k) (F_s_memoed k) (F_Z47 k) g)) (Q := u_Z39_L3 Q) (fun _ _ _ => rfl) (u_Z39_L3 I) (u_Z39_L3 μ)
    (fun t ht again hag h => step t.1 t.2.1 t.2.2.1 t.2.2.2.1 t.2.2.2.2.1 t.2.2.2.2.2.1 ht again hag fun y0 y1 y2 y3 y4 y5 => h (y0, y1, y2, y3, y4, y5, ())) (a0, a1, a2, a3, a4, a5, ())
theorem F_s_fill_succ (k : Nat) (g_0 : List (Int × Int × List Int)) (g_1 : Int) (level : Int) (kids : List Int) (each : Int) (one : Int) (all : Int) (ops : List (Int × Int)) (memo : List Int) : F_s_fill (k + 1) g_0 g_1 level kids each one all ops memo = B_s_fill k (F_s_emit k) (F_Z47 k) g_0 g_1 level kids each one all ops memo := by rw [F_s_fill]
theorem tot_s_fill {g_0 g_1 level kids each one all ops memo : _} {Q : _ → Prop} (h : Tot (fun σ => B_s_fill (σ 0) (F_s_emit (σ 0)) (F_Z47 (σ 0)) g_0 g_1 level kids each one all ops memo) Q) : Tot (fun σ => F_s_fill (σ 0) g_0 g_1 level kids each one all ops memo) Q :=
  Tot.call (F := fun k => F_s_fill k g_0 g_1 level kids each one all ops memo) (B := fun k => B_s_fill k (F_s_emit k) (F_Z47 k) g_0 g_1 level kids each one all ops memo) (fun k => F_s_fill_succ k g_0 g_1 level kids each one all ops memo) h
abbrev A_s_fill_L1 (Z : Type) : Type := Int → List Int → Int → Int → (List (Int × Int)) → List Int → (List (Int × Int × List Int)) → Int → Int → Z
abbrev u_s_fill_L1 {Z : Type} (f : A_s_fill_L1 Z) (t : T_s_fill_L1) : Z := f t.1 t.2.1 t.2.2.1 t.2.2.2.1 t.2.2.2.2.1 t.2.2.2.2.2.1 t.2.2.2.2.2.2.1.1 t.2.2.2.2.2.2.1.2.1 t.2.2.2.2.2.2.2.1
theorem loop_s_fill_L1 {Q : A_s_fill_L1 ((((List (Int × Int)) × List Int × Unit) × (Unit)) → Prop)} (I : A_s_fill_L1 Prop) (μ : A_s_fill_L1 Nat)
    (step : ∀ a0 a1 a2 a3 a4 a5 a6 a7 a8, I a0 a1 a2 a3 a4 a5 a6 a7 a8 → ∀ again : (Nat → Nat) → T_s_fill_L1 → R_s_fill, Dep 2 again → (∀ y0 y1 y2 y3 y4 y5 y6 y7 y8, I y0 y1 y2 y3 y4 y5 y6 y7 y8 → μ y0 y1 y2 y3 y4 y5 y6 y7 y8 < μ a0 a1 a2 a3 a4 a5 a6 a7 a8 → Tot (fun σ => again σ (y0, y1, y2, y3, y4, y5, (y6, y7, ()), y8, ())) (Q y0 y1 y2 y3 y4 y5 y6 y7 y8)) →
      Tot (fun σ => B_s_fill_L1b (σ 0) (F_s_emit (σ 0)) (F_Z47 (σ 0)) (again σ) a0 a1 a2 a3 a4 a5 a6 a7 a8) (Q a0 a1 a2 a3 a4 a5 a6 a7 a8)) :
    ∀ a0 a1 a2 a3 a4 a5 a6 a7 a8, I a0 a1 a2 a3 a4 a5 a6 a7 a8 → Tot (fun σ => B_s_fill_L1 (σ 0) (F_s_emit (σ 0)) (F_Z47 (σ 0)) (σ 0) (a0, a1, a2, a3, a4, a5, (a6, a7, ()), a8, ())) (Q a0 a1 a2 a3 a4 a5 a6 a7 a8) := fun a0 a1 a2 a3 a4 a5 a6 a7 a8 => Tot.loop0 (L := fun k => B_s_fill_L1 k (F_s_emit k) (F_Z47 k)) (B := fun k g => u_s_fill_L1 (B_s_fill_L1b k (F_s_emit k) (F_Z47 k) g)) (Q := u_s_fill_L1 Q) (fun _ _ _ => rfl) (u_s_fill_L1 I) (u_s_fill_L1 μ)
    (fun t ht again hag h => step t.1 t.2.1 t.2.2.1 t.2.2.2.1 t.2.2.2.2.1 t.2.2.2.2.2.1 t.2.2.2.2.2.2.1.1 t.2.2.2.2.2.2.1.2.1 t.2.2.2.2.2.2.2.1 ht again hag fun y0 y1 y2 y3 y4 y5 y6 y7 y8 => h (y0, y1, y2, y3, y4, y5, (y6, y7, ()), y8, ())) (a0, a1, a2, a3, a4, a5, (a6, a7, ()), a8, ())
theorem F_s_save_succ (k : Nat) (g_0 : List (Int × Int × List Int)) (g_1 : Int) (level : Int) (at2 : Int) (ops : List (Int × Int)) (memo : List Int) : F_s_save (k + 1) g_0 g_1 level at2 ops memo = B_s_save k (F_s_emit k) (F_s_memoed k) (F_Z39 k) (F_s_fill k) (F_Z47 k) g_0 g_1 level at2 ops memo := by rw [F_s_save]
theorem tot_s_save {g_0 g_1 level at2 ops memo : _} {Q : _ → Prop} (h : Tot (fun σ => B_s_save (σ 0) (F_s_emit (σ 0)) (F_s_memoed (σ 0)) (F_Z39 (σ 0)) (F_s_fill (σ 0)) (F_Z47 (σ 0)) g_0 g_1 level at2 ops memo) Q) : Tot (fun σ => F_s_save (σ 0) g_0 g_1 level at2 ops memo) Q :=
  Tot.call (F := fun k => F_s_save k g_0 g_1 level at2 ops memo) (B := fun k => B_s_save k (F_s_emit k) (F_s_memoed k) (F_Z39 k) (F_s_fill k) (F_Z47 k) g_0 g_1 level at2 ops memo) (fun k => F_s_save_succ k g_0 g_1 level at2 ops memo) h
abbrev R_Z50 : Type := Option (((List (Int × Int)) × Unit) × (Unit))
abbrev C_Z50 : Type := (List (Int × Int × List Int)) → Int → Int → R_Z50
def B_Z50 (k : Nat) (c_Z26 : C_Z26) (c_s_save : C_s_save) (c_s_emit : C_s_emit) (g_0 : List (Int × Int × List Int)) (g_1 level : Int) : R_Z50 :=
  (c_Z26 g_0 g_1).bind fun r14 =>
  (c_s_save g_0 g_1 level g_1 ([]) r14.1.1).bind fun r15 =>
  (c_s_emit r15.1.1 ([(19, 0)])).bind fun r21 =>
  some ((r21.1.1, ()), ())
def F_Z50 : Nat → C_Z50
  | 0, _, _, _ => none
  | k + 1, g_0, g_1, level => B_Z50 k (F_Z26 k) (F_s_save k) (F_s_emit k) g_0 g_1 level
theorem tot_Z50 {g_0 g_1 level : _} {Q : _ → Prop} (h : Tot (fun σ => B_Z50 (σ 0) (F_Z26 (σ 0)) (F_s_save (σ 0)) (F_s_emit (σ 0)) g_0 g_1 level) Q) : Tot (fun σ => F_Z50 (σ 0) g_0 g_1 level) Q :=
  Tot.call (F := fun k => F_Z50 k g_0 g_1 level) (B := fun k => B_Z50 k (F_Z26 k) (F_s_save k) (F_s_emit k) g_0 g_1 level) (fun k => rfl) h
abbrev R_Z46 : Type := Option (((List (Int × Int)) × Unit) × ((List Int × Int × Unit) × Unit))
abbrev C_Z46 : Type := List Int → Int → R_Z46
def B_Z46_J2 (k : Nat) (c_Z10 : C_Z10) (c_Z29 : C_Z29) (c_Z36 : C_Z36) (c_Z50 : C_Z50) (c_s_someOp : C_s_someOp) (c_Z14 : C_Z14) (r_b : List Int) (r_p : Int) (out : List (Int × Int)) : R_Z46 :=
  bif decide ((len out) > 0) then
    (c_Z10 r_b r_p 24).bind fun r45 =>
    bif (r45.1.1 == 0) then
      (c_Z14 r45.2.1.1 r45.2.1.2.1 ([(-1), 20])).bind fun r51 =>
      chk (inb 0 out.length) <|
      chk (decide ((0 : Int).toNat < out.length)) <|
      some (((out.set ((0 : Int).toNat) (r51.1.1, (out.getD ((0 : Int).toNat) ((0 : Int), (0 : Int))).2)), ()), ((r51.2.1.1, r51.2.1.2.1, ()), ()))
    else
      bif (r45.1.1 == 1) then
        (c_Z14 r45.2.1.1 r45.2.1.2.1 ([(-1), 1000, 1])).bind fun r62 =>
        chk (inb (w64 ((len out) - 1)) out.length) <|
        chk (decide ((w64 ((len out) - 1)).toNat < out.length)) <|
        some (((out.set ((w64 ((len out) - 1)).toNat) ((out.getD ((w64 ((len out) - 1)).toNat) ((0 : Int), (0 : Int))).1, r62.1.1)), ()), ((r62.2.1.1, r62.2.1.2.1, ()), ()))
      else
        some ((out, ()), ((r45.2.1.1, r45.2.1.2.1, ()), ()))
  else
    some ((out, ()), ((r_b, r_p, ()), ()))
def B_Z46_J1 (k : Nat) (c_Z10 : C_Z10) (c_Z29 : C_Z29) (c_Z36 : C_Z36) (c_Z50 : C_Z50) (c_s_someOp : C_s_someOp) (c_Z14 : C_Z14) (r_b : List Int) (r_p : Int) (out : List (Int × Int)) : R_Z46 :=
  (c_Z10 r_b r_p 6).bind fun r32 =>
  bif (r32.1.1 == 0) then
    (c_Z10 r32.2.1.1 r32.2.1.2.1 (w64 ((len out) + 1))).bind fun r39 =>
    chk (cutb 0 r39.1.1 out.length) <|
    jn (fun t => B_Z46_J2 k c_Z10 c_Z29 c_Z36 c_Z50 c_s_someOp c_Z14 t.1.1 t.1.2.1 t.2.1) ((r39.2.1.1, r39.2.1.2.1, ()), (out.take r39.1.1.toNat), ())
  else
    jn (fun t => B_Z46_J2 k c_Z10 c_Z29 c_Z36 c_Z50 c_s_someOp c_Z14 t.1.1 t.1.2.1 t.2.1) ((r32.2.1.1, r32.2.1.2.1, ()), out, ())
def B_Z46_J0 (k : Nat) (c_Z10 : C_Z10) (c_Z29 : C_Z29) (c_Z36 : C_Z36) (c_Z50 : C_Z50) (c_s_someOp : C_s_someOp) (c_Z14 : C_Z14) (r_b : List Int) (r_p : Int) (out : List (Int × Int)) (t22 : Bool) : R_Z46 :=
  bif t22 then
    (c_Z10 r_b r_p (len out)).bind fun r27 =>
    (c_s_someOp r27.2.1.1 r27.2.1.2.1).bind fun r29 =>
    chk (inb r27.1.1 out.length) <|
    chk (decide (r27.1.1.toNat < out.length)) <|
    jn (fun t => B_Z46_J1 k c_Z10 c_Z29 c_Z36 c_Z50 c_s_someOp c_Z14 t.1.1 t.1.2.1 t.2.1) ((r29.2.1.1, r29.2.1.2.1, ()), (out.set r27.1.1.toNat (r29.1.1.1, r29.1.1.2.1)), ())
  else
    jn (fun t => B_Z46_J1 k c_Z10 c_Z29 c_Z36 c_Z50 c_s_someOp c_Z14 t.1.1 t.1.2.1 t.2.1) ((r_b, r_p, ()), out, ())
def B_Z46 (k : Nat) (c_Z10 : C_Z10) (c_Z29 : C_Z29) (c_Z36 : C_Z36) (c_Z50 : C_Z50) (c_s_someOp : C_s_someOp) (c_Z14 : C_Z14) (r_b : List Int) (r_p : Int) : R_Z46 :=
  (c_Z10 r_b r_p 2).bind fun r6 =>
  bif (r6.1.1 == 0) then
    (c_Z29 r6.2.1.1 r6.2.1.2.1).bind fun r9 =>
    jn (fun t => B_Z46_J2 k c_Z10 c_Z29 c_Z36 c_Z50 c_s_someOp c_Z14 t.1.1 t.1.2.1 t.2.1) ((r9.2.1.1, r9.2.1.2.1, ()), r9.1.1, ())
  else
    (c_Z36 r6.2.1.1 r6.2.1.2.1).bind fun r11 =>
    (c_Z10 r11.2.1.1 r11.2.1.2.1 2).bind fun r13 =>
    (c_Z50 r11.1.1.1 r11.1.1.2.1 r13.1.1).bind fun r14 =>
    (c_Z10 r13.2.1.1 r13.2.1.2.1 4).bind fun r16 =>
    bif (r16.1.1 == 0) then
      jn (fun t => B_Z46_J0 k c_Z10 c_Z29 c_Z36 c_Z50 c_s_someOp c_Z14 t.1.1 t.1.2.1 t.2.1 t.2.2.1) ((r16.2.1.1, r16.2.1.2.1, ()), r14.1.1, decide ((len r14.1.1) > 0), ())
    else
      jn (fun t => B_Z46_J0 k c_Z10 c_Z29 c_Z36 c_Z50 c_s_someOp c_Z14 t.1.1 t.1.2.1 t.2.1 t.2.2.1) ((r16.2.1.1, r16.2.1.2.1, ()), r14.1.1, false, ())
def F_Z46 : Nat → C_Z46
  | 0, _, _ => none
  | k + 1, r_b, r_p => B_Z46 k (F_Z10 k) (F_Z29 k) (F_Z36 k) (F_Z50 k) (F_s_someOp k) (F_Z14 k) r_b r_p
theorem tot_Z46 {r_b r_p : _} {Q : _ → Prop} (h : Tot (fun σ => B_Z46 (σ 0) (F_Z10 (σ 0)) (F_Z29 (σ 0)) (F_Z36 (σ 0)) (F_Z50 (σ 0)) (F_s_someOp (σ 0)) (F_Z14 (σ 0)) r_b r_p) Q) : Tot (fun σ => F_Z46 (σ 0) r_b r_p) Q :=
  Tot.call (F := fun k => F_Z46 k r_b r_p) (B := fun k => B_Z46 k (F_Z10 k) (F_Z29 k) (F_Z36 k) (F_Z50 k) (F_s_someOp k) (F_Z14 k) r_b r_p) (fun k => rfl) h
abbrev R_Z7 : Type := Option (((List (Int × Int)) × Unit) × (Unit))
abbrev C_Z7 : Type := (List (Int × Int × List Int)) → Int → List Int → Int → R_Z7
abbrev T_Z7_L0 : Type := List Int × Int × ((List (Int × Int × List Int)) × Int × Unit) × (List (Int × Int)) × List Int × Int × Unit
def B_Z7_L0b (k : Nat) (c_Z26 : C_Z26) (c_s_save : C_s_save) (c_s_emit : C_s_emit) (again0 : T_Z7_L0 → R_Z7) (roots : List Int) (level : Int) (g_Nodes : List (Int × Int × List Int)) (g_Root : Int) (ops : List (Int × Int)) (memo : List Int) (i : Int) : R_Z7 :=
  bif decide (i < (len roots)) then
    chk (inb i roots.length) <|
    (c_s_save g_Nodes g_Root level (rdx (0 : Int) roots i) ops memo).bind fun r28 =>
    (c_s_emit r28.1.1 ([(19, 0)])).bind fun r34 =>
    again0 (roots, level, (g_Nodes, g_Root, ()), r34.1.1, r28.1.2.1, w64 (i + 1), ())
  else
    some ((ops, ()), ())
def B_Z7_L0 (k : Nat) (c_Z26 : C_Z26) (c_s_save : C_s_save) (c_s_emit : C_s_emit) (n : Nat) (t : T_Z7_L0) : R_Z7 :=
  lfix n (fun again t => B_Z7_L0b k c_Z26 c_s_save c_s_emit again t.1 t.2.1 t.2.2.1.1 t.2.2.1.2.1 t.2.2.2.1 t.2.2.2.2.1 t.2.2.2.2.2.1) t
def B_Z7 (k : Nat) (c_Z26 : C_Z26) (c_s_save : C_s_save) (c_s_emit : C_s_emit) (g_0 : List (Int × Int × List Int)) (g_1 : Int) (roots : List Int) (level : Int) : R_Z7 :=
  (c_Z26 g_0 g_1).bind fun r12 =>
  B_Z7_L0 k c_Z26 c_s_save c_s_emit k (roots, level, (g_0, g_1, ()), [], r12.1.1, 0, ())
def F_Z7 : Nat → C_Z7
  | 0, _, _, _, _ => none
  | k + 1, g_0, g_1, roots, level => B_Z7 k (F_Z26 k) (F_s_save k) (F_s_emit k) g_0 g_1 roots level
theorem tot_Z7 {g_0 g_1 roots level : _} {Q : _ → Prop} (h : Tot (fun σ => B_Z7 (σ 0) (F_Z26 (σ 0)) (F_s_save (σ 0)) (F_s_emit (σ 0)) g_0 g_1 roots level) Q) : Tot (fun σ => F_Z7 (σ 0) g_0 g_1 roots level) Q :=
  Tot.call (F := fun k => F_Z7 k g_0 g_1 roots level) (B := fun k => B_Z7 k (F_Z26 k) (F_s_save k) (F_s_emit k) g_0 g_1 roots level) (fun k => rfl) h
abbrev A_Z7_L0 (Z : Type) : Type := List Int → Int → (List (Int × Int × List Int)) → Int → (List (Int × Int)) → List Int → Int → Z
abbrev u_Z7_L0 {Z : Type} (f : A_Z7_L0 Z) (t : T_Z7_L0) : Z := f t.1 t.2.1 t.2.2.1.1 t.2.2.1.2.1 t.2.2.2.1 t.2.2.2.2.1 t.2.2.2.2.2.1
theorem loop_Z7_L0 {Q : A_Z7_L0 ((((List (Int × Int)) × Unit) × (Unit)) → Prop)} (I : A_Z7_L0 Prop) (μ : A_Z7_L0 Nat)
    (step : ∀ a0 a1 a2 a3 a4 a5 a6, I a0 a1 a2 a3 a4 a5 a6 → ∀ again : (Nat → Nat) → T_Z7_L0 → R_Z7, Dep 2 again → (∀ y0 y1 y2 y3 y4 y5 y6, I y0 y1 y2 y3 y4 y5 y6 → μ y0 y1 y2 y3 y4 y5 y6 < μ a0 a1 a2 a3 a4 a5 a6 → Tot (fun σ => again σ (y0, y1, (y2, y3, ()), y4, y5, y6, ())) (Q y0 y1 y2 y3 y4 y5 y6)) →
      Tot (fun σ => B_Z7_L0b (σ 0) (F_Z26 (σ 0)) (F_s_save (σ 0)) (F_s_emit (σ 0)) (again σ) a0 a1 a2 a3 a4 a5 a6) (Q a0 a1 a2 a3 a4 a5 a6)) :
    ∀ a0 a1 a2 a3 a4 a5 a6, I a0 a1 a2 a3 a4 a5 a6 → Tot (fun σ => B_Z7_L0 (σ 0) (F_Z26 (σ 0)) (F_s_save (σ 0)) (F_s_emit (σ 0)) (σ 0) (a0, a1, (a2, a3, ()), a4, a5, a6, ())) (Q a0 a1 a2 a3 a4 a5 a6) := fun a0 a1 a2 a3 a4 a5 a6 => Tot.loop0 (L := fun k => B_Z7_L0 k (F_Z26 k) (F_s_save k) (F_s_emit k)) (B := fun k g => u_Z7_L0 (B_Z7_L0b k (F_Z26 k) (F_s_save k) (F_s_emit k) g)) (Q := u_Z7_L0 Q) (fun _ _ _ => rfl) (u_Z7_L0 I) (u_Z7_L0 μ)
    (fun t ht again hag h => step t.1 t.2.1 t.2.2.1.1 t.2.2.1.2.1 t.2.2.2.1 t.2.2.2.2.1 t.2.2.2.2.2.1 ht again hag fun y0 y1 y2 y3 y4 y5 y6 => h (y0, y1, (y2, y3, ()), y4, y5, y6, ())) (a0, a1, (a2, a3, ()), a4, a5, a6, ())
abbrev R_Z55 : Type := Option (((List (Int × Int)) × Unit) × ((List Int × Int × Unit) × Unit))
abbrev C_Z55 : Type := List Int → Int → R_Z55
def B_Z55_J3 (k : Nat) (c_Z58 : C_Z58) (c_Z22 : C_Z22) (c_Z10 : C_Z10) (c_Z46 : C_Z46) (c_Z7 : C_Z7) (c_s_someOp : C_s_someOp) (r_b : List Int) (r_p : Int) (out : List (Int × Int)) (t48 : Bool) : R_Z55 :=
  bif t48 then
    (c_Z10 r_b r_p (len out)).bind fun r53 =>
    (c_s_someOp r53.2.1.1 r53.2.1.2.1).bind fun r55 =>
    chk (inb r53.1.1 out.length) <|
    chk (decide (r53.1.1.toNat < out.length)) <|
    some (((out.set r53.1.1.toNat (r55.1.1.1, r55.1.1.2.1)), ()), ((r55.2.1.1, r55.2.1.2.1, ()), ()))
  else
    some ((out, ()), ((r_b, r_p, ()), ()))
def B_Z55_J2 (k : Nat) (c_Z58 : C_Z58) (c_Z22 : C_Z22) (c_Z10 : C_Z10) (c_Z46 : C_Z46) (c_Z7 : C_Z7) (c_s_someOp : C_s_someOp) (r_b : List Int) (r_p : Int) (out : List (Int × Int)) : R_Z55 :=
  bif decide ((len out) > 0) then
    (c_Z10 r_b r_p 6).bind fun r46 =>
    jn (fun t => B_Z55_J3 k c_Z58 c_Z22 c_Z10 c_Z46 c_Z7 c_s_someOp t.1.1 t.1.2.1 t.2.1 t.2.2.1) ((r46.2.1.1, r46.2.1.2.1, ()), out, (r46.1.1 == 0), ())
  else
    jn (fun t => B_Z55_J3 k c_Z58 c_Z22 c_Z10 c_Z46 c_Z7 c_s_someOp t.1.1 t.1.2.1 t.2.1 t.2.2.1) ((r_b, r_p, ()), out, false, ())
def B_Z55_J1 (k : Nat) (c_Z58 : C_Z58) (c_Z22 : C_Z22) (c_Z10 : C_Z10) (c_Z46 : C_Z46) (c_Z7 : C_Z7) (c_s_someOp : C_s_someOp) (r_b : List Int) (r_p : Int) (out : List (Int × Int)) (t34 : Bool) : R_Z55 :=
  bif t34 then
    (c_Z10 r_b r_p (len out)).bind fun r39 =>
    chk (cutb 0 r39.1.1 out.length) <|
    jn (fun t => B_Z55_J2 k c_Z58 c_Z22 c_Z10 c_Z46 c_Z7 c_s_someOp t.1.1 t.1.2.1 t.2.1) ((r39.2.1.1, r39.2.1.2.1, ()), (out.take r39.1.1.toNat), ())
  else
    jn (fun t => B_Z55_J2 k c_Z58 c_Z22 c_Z10 c_Z46 c_Z7 c_s_someOp t.1.1 t.1.2.1 t.2.1) ((r_b, r_p, ()), out, ())
def B_Z55_J0 (k : Nat) (c_Z58 : C_Z58) (c_Z22 : C_Z22) (c_Z10 : C_Z10) (c_Z46 : C_Z46) (c_Z7 : C_Z7) (c_s_someOp : C_s_someOp) (r_b : List Int) (r_p : Int) (g_Nodes : List (Int × Int × List Int)) (g_Root : Int) (roots : List Int) (t19 : Bool) : R_Z55 :=
  bif t19 then
    (c_Z46 r_b r_p).bind fun r21 =>
    some ((r21.1.1, ()), ((r21.2.1.1, r21.2.1.2.1, ()), ()))
  else
    (c_Z10 r_b r_p 2).bind fun r25 =>
    (c_Z7 g_Nodes g_Root roots r25.1.1).bind fun r26 =>
    bif decide ((len r26.1.1) > 0) then
      (c_Z10 r25.2.1.1 r25.2.1.2.1 4).bind fun r32 =>
      jn (fun t => B_Z55_J1 k c_Z58 c_Z22 c_Z10 c_Z46 c_Z7 c_s_someOp t.1.1 t.1.2.1 t.2.1 t.2.2.1) ((r32.2.1.1, r32.2.1.2.1, ()), r26.1.1, (r32.1.1 == 0), ())
    else
      jn (fun t => B_Z55_J1 k c_Z58 c_Z22 c_Z10 c_Z46 c_Z7 c_s_someOp t.1.1 t.1.2.1 t.2.1 t.2.2.1) ((r25.2.1.1, r25.2.1.2.1, ()), r26.1.1, false, ())
def B_Z55 (k : Nat) (c_Z58 : C_Z58) (c_Z22 : C_Z22) (c_Z10 : C_Z10) (c_Z46 : C_Z46) (c_Z7 : C_Z7) (c_s_someOp : C_s_someOp) (r_b : List Int) (r_p : Int) : R_Z55 :=
  (c_Z58 r_b r_p).bind fun r8 =>
  (c_Z22 r8.1.1.1 r8.1.1.2.1 r8.1.2.1).bind fun r13 =>
  bif (!r13.1.1) then
    jn (fun t => B_Z55_J0 k c_Z58 c_Z22 c_Z10 c_Z46 c_Z7 c_s_someOp t.1.1 t.1.2.1 t.2.1.1 t.2.1.2.1 t.2.2.1 t.2.2.2.1) ((r8.2.1.1, r8.2.1.2.1, ()), (r8.1.1.1, r8.1.1.2.1, ()), r8.1.2.1, true, ())
  else
    (c_Z10 r8.2.1.1 r8.2.1.2.1 4).bind fun r17 =>
    jn (fun t => B_Z55_J0 k c_Z58 c_Z22 c_Z10 c_Z46 c_Z7 c_s_someOp t.1.1 t.1.2.1 t.2.1.1 t.2.1.2.1 t.2.2.1 t.2.2.2.1) ((r17.2.1.1, r17.2.1.2.1, ()), (r8.1.1.1, r8.1.1.2.1, ()), r8.1.2.1, (r17.1.1 == 0), ())
def F_Z55 : Nat → C_Z55
  | 0, _, _ => none
  | k + 1, r_b, r_p => B_Z55 k (F_Z58 k) (F_Z22 k) (F_Z10 k) (F_Z46 k) (F_Z7 k) (F_s_someOp k) r_b r_p
theorem tot_Z55 {r_b r_p : _} {Q : _ → Prop} (h : Tot (fun σ => B_Z55 (σ 0) (F_Z58 (σ 0)) (F_Z22 (σ 0)) (F_Z10 (σ 0)) (F_Z46 (σ 0)) (F_Z7 (σ 0)) (F_s_someOp (σ 0)) r_b r_p) Q) : Tot (fun σ => F_Z55 (σ 0) r_b r_p) Q :=
  Tot.call (F := fun k => F_Z55 k r_b r_p) (B := fun k => B_Z55 k (F_Z58 k) (F_Z22 k) (F_Z10 k) (F_Z46 k) (F_Z7 k) (F_s_someOp k) r_b r_p) (fun k => rfl) h
abbrev R_Z3 : Type := Option (((List (Int × Int)) × Int × Unit) × (Unit))
abbrev C_Z3 : Type := List Int → R_Z3
def B_Z3 (k : Nat) (c_Z38 : C_Z38) (c_Z55 : C_Z55) (c_Z14 : C_Z14) (code : List Int) : R_Z3 :=
  (c_Z38 code).bind fun r6 =>
  (c_Z55 r6.1.1.1 r6.1.1.2.1).bind fun r8 =>
  (c_Z14 r8.2.1.1 r8.2.1.2.1 ([10, 3, 1, 200, 0, 201])).bind fun r11 =>
  some ((r8.1.1, r11.1.1, ()), ())
def F_Z3 : Nat → C_Z3
  | 0, _ => none
  | k + 1, code => B_Z3 k (F_Z38 k) (F_Z55 k) (F_Z14 k) code
theorem tot_Z3 {code : _} {Q : _ → Prop} (h : Tot (fun σ => B_Z3 (σ 0) (F_Z38 (σ 0)) (F_Z55 (σ 0)) (F_Z14 (σ 0)) code) Q) : Tot (fun σ => F_Z3 (σ 0) code) Q :=
  Tot.call (F := fun k => F_Z3 k code) (B := fun k => B_Z3 k (F_Z38 k) (F_Z55 k) (F_Z14 k) code) (fun k => rfl) h
abbrev R_Z49 : Type := Option ((Int × Unit) × (Unit))
abbrev C_Z49 : Type := Int → R_Z49
def B_Z49_J0 (k : Nat) (t10 : Bool) : R_Z49 :=
  bif t10 then
    some ((19, ()), ())
  else
    some ((0, ()), ())
def B_Z49 (k : Nat) (code : Int) : R_Z49 :=
  bif (code == 0) then
    some ((999, ()), ())
  else
    bif (code == 1) then
      some ((9, ()), ())
    else
      bif (code == 13) then
        some ((9, ()), ())
      else
        bif (code == 15) then
          jn (fun t => B_Z49_J0 k t.1) ((code == 15), ())
        else
          jn (fun t => B_Z49_J0 k t.1) ((code == 16), ())
def F_Z49 : Nat → C_Z49
  | 0, _ => none
  | k + 1, code => B_Z49 k code
theorem tot_Z49 {code : _} {Q : _ → Prop} (h : Tot (fun σ => B_Z49 (σ 0) code) Q) : Tot (fun σ => F_Z49 (σ 0) code) Q :=
  Tot.call (F := fun k => F_Z49 k code) (B := fun k => B_Z49 k code) (fun k => rfl) h
abbrev R_i_opOk : Type := Option ((Bool × Unit) × (Unit))
abbrev C_i_opOk : Type := Int → Int → R_i_opOk
def B_i_opOk (k : Nat) (c_Z49 : C_Z49) (o_0 o_1 : Int) : R_i_opOk :=
  bif decide (o_0 ≥ 0) then
    bif decide (o_0 ≤ 19) then
      bif decide (o_1 ≥ 0) then
        (c_Z49 o_0).bind fun r21 =>
        some ((decide (o_1 ≤ r21.1.1), ()), ())
      else
        some ((false, ()), ())
    else
      some ((false, ()), ())
  else
    some ((false, ()), ())
def F_i_opOk : Nat → C_i_opOk
  | 0, _, _ => none
  | k + 1, o_0, o_1 => B_i_opOk k (F_Z49 k) o_0 o_1
theorem tot_i_opOk {o_0 o_1 : _} {Q : _ → Prop} (h : Tot (fun σ => B_i_opOk (σ 0) (F_Z49 (σ 0)) o_0 o_1) Q) : Tot (fun σ => F_i_opOk (σ 0) o_0 o_1) Q :=
  Tot.call (F := fun k => F_i_opOk k o_0 o_1) (B := fun k => B_i_opOk k (F_Z49 k) o_0 o_1) (fun k => rfl) h
abbrev R_Z40 : Type := Option ((Bool × Unit) × (Unit))
abbrev C_Z40 : Type := (List (Int × Int)) → R_Z40
abbrev T_Z40_L0 : Type := (List (Int × Int)) × (List (Int × Int)) × Int × Int × Unit
def B_Z40_L0b (k : Nat) (c_i_opOk : C_i_opOk) (again0 : T_Z40_L0 → R_Z40) (ops t5 : List (Int × Int)) (t6 t7 : Int) : R_Z40 :=
  bif decide (t7 < t6) then
    chk (inb t7 t5.length) <|
    (c_i_opOk ((rdx ((0 : Int), (0 : Int)) t5 t7).1) ((rdx ((0 : Int), (0 : Int)) t5 t7).2)).bind fun r12 =>
    bif (!r12.1.1) then
      some ((false, ()), ())
    else
      again0 (ops, t5, t6, w64 (t7 + 1), ())
  else
    some ((decide ((len ops) ≤ 300), ()), ())
def B_Z40_L0 (k : Nat) (c_i_opOk : C_i_opOk) (n : Nat) (t : T_Z40_L0) : R_Z40 :=
  lfix n (fun again t => B_Z40_L0b k c_i_opOk again t.1 t.2.1 t.2.2.1 t.2.2.2.1) t
def B_Z40 (k : Nat) (c_i_opOk : C_i_opOk) (ops : List (Int × Int)) : R_Z40 :=
  B_Z40_L0 k c_i_opOk k (ops, ops, len ops, 0, ())
def F_Z40 : Nat → C_Z40
  | 0, _ => none
  | k + 1, ops => B_Z40 k (F_i_opOk k) ops
theorem tot_Z40 {ops : _} {Q : _ → Prop} (h : Tot (fun σ => B_Z40 (σ 0) (F_i_opOk (σ 0)) ops) Q) : Tot (fun σ => F_Z40 (σ 0) ops) Q :=
  Tot.call (F := fun k => F_Z40 k ops) (B := fun k => B_Z40 k (F_i_opOk k) ops) (fun k => rfl) h
abbrev A_Z40_L0 (Z : Type) : Type := (List (Int × Int)) → (List (Int × Int)) → Int → Int → Z
abbrev u_Z40_L0 {Z : Type} (f : A_Z40_L0 Z) (t : T_Z40_L0) : Z := f t.1 t.2.1 t.2.2.1 t.2.2.2.1
theorem loop_Z40_L0 {Q : A_Z40_L0 (((Bool × Unit) × (Unit)) → Prop)} (I : A_Z40_L0 Prop) (μ : A_Z40_L0 Nat)
    (step : ∀ a0 a1 a2 a3, I a0 a1 a2 a3 → ∀ again : (Nat → Nat) → T_Z40_L0 → R_Z40, Dep 2 again → (∀ y0 y1 y2 y3, I y0 y1 y2 y3 → μ y0 y1 y2 y3 < μ a0 a1 a2 a3 → Tot (fun σ => again σ (y0, y1, y2, y3, ())) (Q y0 y1 y2 y3)) →
      Tot (fun σ => B_Z40_L0b (σ 0) (F_i_opOk (σ 0)) (again σ) a0 a1 a2 a3) (Q a0 a1 a2 a3)) :
    ∀ a0 a1 a2 a3, I a0 a1 a2 a3 → Tot (fun σ => B_Z40_L0 (σ 0) (F_i_opOk (σ 0)) (σ 0) (a0, a1, a2, a3, ())) (Q a0 a1 a2 a3) := fun a0 a1 a2 a3 => Tot.loop0 (L := fun k => B_Z40_L0 k (F_i_opOk k)) (B := fun k g => u_Z40_L0 (B_Z40_L0b k (F_i_opOk k) g)) (Q := u_Z40_L0 Q) (fun _ _ _ => rfl) (u_Z40_L0 I) (u_Z40_L0 μ)
    (fun t ht again hag h => step t.1 t.2.1 t.2.2.1 t.2.2.2.1 ht again hag fun y0 y1 y2 y3 => h (y0, y1, y2, y3, ())) (a0, a1, a2, a3, ())
abbrev R_Z2 : Type := Option (((List (Int × Int)) × Unit) × (Unit))
abbrev C_Z2 : Type := (List (Int × Int)) → R_Z2
def B_Z2 (k : Nat) (s : List (Int × Int)) : R_Z2 :=
  chk ((((len s) == (len s)) && cutb 0 (len s) s.length)) <|
  some (((sub s 0 (len s)), ()), ())
def F_Z2 : Nat → C_Z2
  | 0, _ => none
  | k + 1, s => B_Z2 k s
theorem tot_Z2 {s : _} {Q : _ → Prop} (h : Tot (fun σ => B_Z2 (σ 0) s) Q) : Tot (fun σ => F_Z2 (σ 0) s) Q :=
  Tot.call (F := fun k => F_Z2 k s) (B := fun k => B_Z2 k s) (fun k => rfl) h
abbrev R_Z16 : Type := Option (((List (List (Int × Int))) × Unit) × (Unit))
abbrev C_Z16 : Type := (List (Int × Int)) → R_Z16
abbrev T_Z16_L1 : Type := (List (List (Int × Int))) × (List (Int × Int)) × (List (Int × Int)) × Int × Int × Unit
def B_Z16_J0 (k : Nat) (c_Z40 : C_Z40) (c_Z2 : C_Z2) (again1 : T_Z16_L1 → R_Z16) (out : List (List (Int × Int))) (part t12 : List (Int × Int)) (t13 t14 : Int) : R_Z16 :=
  again1 (out, part, t12, t13, w64 (t14 + 1), ())
def B_Z16_L1b (k : Nat) (c_Z40 : C_Z40) (c_Z2 : C_Z2) (again1 : T_Z16_L1 → R_Z16) (out : List (List (Int × Int))) (part t12 : List (Int × Int)) (t13 t14 : Int) : R_Z16 :=
  bif decide (t14 < t13) then
    chk (inb t14 t12.length) <|
    chk (room part.length ([((rdx ((0 : Int), (0 : Int)) t12 t14).1, (rdx ((0 : Int), (0 : Int)) t12 t14).2)]).length) <|
    bif (((rdx ((0 : Int), (0 : Int)) t12 t14).1) == 19) then
      (c_Z2 (part ++ [((rdx ((0 : Int), (0 : Int)) t12 t14).1, (rdx ((0 : Int), (0 : Int)) t12 t14).2)])).bind fun r27 =>
      chk (room out.length ([r27.1.1]).length) <|
      jn (fun t => B_Z16_J0 k c_Z40 c_Z2 again1 t.1 t.2.1 t.2.2.1 t.2.2.2.1 t.2.2.2.2.1) ((out ++ [r27.1.1]), [], t12, t13, t14, ())
    else
      jn (fun t => B_Z16_J0 k c_Z40 c_Z2 again1 t.1 t.2.1 t.2.2.1 t.2.2.2.1 t.2.2.2.2.1) (out, (part ++ [((rdx ((0 : Int), (0 : Int)) t12 t14).1, (rdx ((0 : Int), (0 : Int)) t12 t14).2)]), t12, t13, t14, ())
  else
    bif decide ((len part) > 0) then
      (c_Z2 part).bind fun r37 =>
      chk (room out.length ([r37.1.1]).length) <|
      some (((out ++ [r37.1.1]), ()), ())
    else
      some ((out, ()), ())
def B_Z16_L1 (k : Nat) (c_Z40 : C_Z40) (c_Z2 : C_Z2) (n : Nat) (t : T_Z16_L1) : R_Z16 :=
  lfix n (fun again t => B_Z16_L1b k c_Z40 c_Z2 again t.1 t.2.1 t.2.2.1 t.2.2.2.1 t.2.2.2.2.1) t
def B_Z16 (k : Nat) (c_Z40 : C_Z40) (c_Z2 : C_Z2) (ops : List (Int × Int)) : R_Z16 :=
  (c_Z40 ops).bind fun r8 =>
  bif (!r8.1.1) then
    some (([], ()), ())
  else
    B_Z16_L1 k c_Z40 c_Z2 k ([], [], ops, len ops, 0, ())
def F_Z16 : Nat → C_Z16
  | 0, _ => none
  | k + 1, ops => B_Z16 k (F_Z40 k) (F_Z2 k) ops
theorem tot_Z16 {ops : _} {Q : _ → Prop} (h : Tot (fun σ => B_Z16 (σ 0) (F_Z40 (σ 0)) (F_Z2 (σ 0)) ops) Q) : Tot (fun σ => F_Z16 (σ 0) ops) Q :=
  Tot.call (F := fun k => F_Z16 k ops) (B := fun k => B_Z16 k (F_Z40 k) (F_Z2 k) ops) (fun k => rfl) h
abbrev A_Z16_L1 (Z : Type) : Type := (List (List (Int × Int))) → (List (Int × Int)) → (List (Int × Int)) → Int → Int → Z
abbrev u_Z16_L1 {Z : Type} (f : A_Z16_L1 Z) (t : T_Z16_L1) : Z := f t.1 t.2.1 t.2.2.1 t.2.2.2.1 t.2.2.2.2.1
theorem loop_Z16_L1 {Q : A_Z16_L1 ((((List (List (Int × Int))) × Unit) × (Unit)) → Prop)} (I : A_Z16_L1 Prop) (μ : A_Z16_L1 Nat)
    (step : ∀ a0 a1 a2 a3 a4, I a0 a1 a2 a3 a4 → ∀ again : (Nat → Nat) → T_Z16_L1 → R_Z16, Dep 2 again → (∀ y0 y1 y2 y3 y4, I y0 y1 y2 y3 y4 → μ y0 y1 y2 y3 y4 < μ a0 a1 a2 a3 a4 → Tot (fun σ => again σ (y0, y1, y2, y3, y4, ())) (Q y0 y1 y2 y3 y4)) →
      Tot (fun σ => B_Z16_L1b (σ 0) (F_Z40 (σ 0)) (F_Z2 (σ 0)) (again σ) a0 a1 a2 a3 a4) (Q a0 a1 a2 a3 a4)) :
    ∀ a0 a1 a2 a3 a4, I a0 a1 a2 a3 a4 → Tot (fun σ => B_Z16_L1 (σ 0) (F_Z40 (σ 0)) (F_Z2 (σ 0)) (σ 0) (a0, a1, a2, a3, a4, ())) (Q a0 a1 a2 a3 a4) := fun a0 a1 a2 a3 a4 => Tot.loop0 (L := fun k => B_Z16_L1 k (F_Z40 k) (F_Z2 k)) (B := fun k g => u_Z16_L1 (B_Z16_L1b k (F_Z40 k) (F_Z2 k) g)) (Q := u_Z16_L1 Q) (fun _ _ _ => rfl) (u_Z16_L1 I) (u_Z16_L1 μ)
    (fun t ht again hag h => step t.1 t.2.1 t.2.2.1 t.2.2.2.1 t.2.2.2.2.1 ht again hag fun y0 y1 y2 y3 y4 => h (y0, y1, y2, y3, y4, ())) (a0, a1, a2, a3, a4, ())
abbrev R_Z33 : Type := Option ((List Int × Unit) × (Unit))
abbrev C_Z33 : Type := (List (Int × Int)) → R_Z33
abbrev T_Z33_L1 : Type := List Int × (List (Int × Int)) × Int × Int × Unit
def B_Z33_J0 (k : Nat) (c_Z40 : C_Z40) (c_Z49 : C_Z49) (again1 : T_Z33_L1 → R_Z33) (out : List Int) (t10 : List (Int × Int)) (t11 t12 : Int) : R_Z33 :=
  again1 (out, t10, t11, w64 (t12 + 1), ())
def B_Z33_L1b (k : Nat) (c_Z40 : C_Z40) (c_Z49 : C_Z49) (again1 : T_Z33_L1 → R_Z33) (out : List Int) (t10 : List (Int × Int)) (t11 t12 : Int) : R_Z33 :=
  bif decide (t12 < t11) then
    chk (inb t12 t10.length) <|
    chk (room out.length ([(rdx ((0 : Int), (0 : Int)) t10 t12).1]).length) <|
    (c_Z49 ((rdx ((0 : Int), (0 : Int)) t10 t12).1)).bind fun r34 =>
    bif (r34.1.1 == 0) then
      jn (fun t => B_Z33_J0 k c_Z40 c_Z49 again1 t.1 t.2.1 t.2.2.1 t.2.2.2.1) ((out ++ [(rdx ((0 : Int), (0 : Int)) t10 t12).1]), t10, t11, t12, ())
    else
      bif decide (((rdx ((0 : Int), (0 : Int)) t10 t12).2) < 128) then
        chk (room (out ++ [(rdx ((0 : Int), (0 : Int)) t10 t12).1]).length ([(rdx ((0 : Int), (0 : Int)) t10 t12).2]).length) <|
        jn (fun t => B_Z33_J0 k c_Z40 c_Z49 again1 t.1 t.2.1 t.2.2.1 t.2.2.2.1) (((out ++ [(rdx ((0 : Int), (0 : Int)) t10 t12).1]) ++ [(rdx ((0 : Int), (0 : Int)) t10 t12).2]), t10, t11, t12, ())
      else
        chk (room (out ++ [(rdx ((0 : Int), (0 : Int)) t10 t12).1]).length ([w64 (128 + (((rdx ((0 : Int), (0 : Int)) t10 t12).2).tmod 128)), w64 (((rdx ((0 : Int), (0 : Int)) t10 t12).2).tdiv 128)]).length) <|
        jn (fun t => B_Z33_J0 k c_Z40 c_Z49 again1 t.1 t.2.1 t.2.2.1 t.2.2.2.1) (((out ++ [(rdx ((0 : Int), (0 : Int)) t10 t12).1]) ++ [w64 (128 + (((rdx ((0 : Int), (0 : Int)) t10 t12).2).tmod 128)), w64 (((rdx ((0 : Int), (0 : Int)) t10 t12).2).tdiv 128)]), t10, t11, t12, ())
  else
    some ((out, ()), ())
def B_Z33_L1 (k : Nat) (c_Z40 : C_Z40) (c_Z49 : C_Z49) (n : Nat) (t : T_Z33_L1) : R_Z33 :=
  lfix n (fun again t => B_Z33_L1b k c_Z40 c_Z49 again t.1 t.2.1 t.2.2.1 t.2.2.2.1) t
def B_Z33 (k : Nat) (c_Z40 : C_Z40) (c_Z49 : C_Z49) (ops : List (Int × Int)) : R_Z33 :=
  (c_Z40 ops).bind fun r7 =>
  bif (!r7.1.1) then
    some (([], ()), ())
  else
    B_Z33_L1 k c_Z40 c_Z49 k ([], ops, len ops, 0, ())
def F_Z33 : Nat → C_Z33
  | 0, _ => none
  | k + 1, ops => B_Z33 k (F_Z40 k) (F_Z49 k) ops
theorem tot_Z33 {ops : _} {Q : _ → Prop} (h : Tot (fun σ => B_Z33 (σ 0) (F_Z40 (σ 0)) (F_Z49 (σ 0)) ops) Q) : Tot (fun σ => F_Z33 (σ 0) ops) Q :=
  Tot.call (F := fun k => F_Z33 k ops) (B := fun k => B_Z33 k (F_Z40 k) (F_Z49 k) ops) (fun k => rfl) h
abbrev A_Z33_L1 (Z : Type) : Type := List Int → (List (Int × Int)) → Int → Int → Z
abbrev u_Z33_L1 {Z : Type} (f : A_Z33_L1 Z) (t : T_Z33_L1) : Z := f t.1 t.2.1 t.2.2.1 t.2.2.2.1
theorem loop_Z33_L1 {Q : A_Z33_L1 (((List Int × Unit) × (Unit)) → Prop)} (I : A_Z33_L1 Prop) (μ : A_Z33_L1 Nat)
    (step : ∀ a0 a1 a2 a3, I a0 a1 a2 a3 → ∀ again : (Nat → Nat) → T_Z33_L1 → R_Z33, Dep 2 again → (∀ y0 y1 y2 y3, I y0 y1 y2 y3 → μ y0 y1 y2 y3 < μ a0 a1 a2 a3 → Tot (fun σ => again σ (y0, y1, y2, y3, ())) (Q y0 y1 y2 y3)) →
      Tot (fun σ => B_Z33_L1b (σ 0) (F_Z40 (σ 0)) (F_Z49 (σ 0)) (again σ) a0 a1 a2 a3) (Q a0 a1 a2 a3)) :
    ∀ a0 a1 a2 a3, I a0 a1 a2 a3 → Tot (fun σ => B_Z33_L1 (σ 0) (F_Z40 (σ 0)) (F_Z49 (σ 0)) (σ 0) (a0, a1, a2, a3, ())) (Q a0 a1 a2 a3) := fun a0 a1 a2 a3 => Tot.loop0 (L := fun k => B_Z33_L1 k (F_Z40 k) (F_Z49 k)) (B := fun k g => u_Z33_L1 (B_Z33_L1b k (F_Z40 k) (F_Z49 k) g)) (Q := u_Z33_L1 Q) (fun _ _ _ => rfl) (u_Z33_L1 I) (u_Z33_L1 μ)
    (fun t ht again hag h => step t.1 t.2.1 t.2.2.1 t.2.2.2.1 ht again hag fun y0 y1 y2 y3 => h (y0, y1, y2, y3, ())) (a0, a1, a2, a3, ())
abbrev R_Z31 : Type := Option ((Bool × Unit) × (Unit))
abbrev C_Z31 : Type := Int → R_Z31
def B_Z31 (k : Nat) (n0 : Int) : R_Z31 :=
  bif decide (n0 < 0) then
    some ((true, ()), ())
  else
    some ((decide (n0 > 255), ()), ())
def F_Z31 : Nat → C_Z31
  | 0, _ => none
  | k + 1, n0 => B_Z31 k n0
theorem tot_Z31 {n0 : _} {Q : _ → Prop} (h : Tot (fun σ => B_Z31 (σ 0) n0) Q) : Tot (fun σ => F_Z31 (σ 0) n0) Q :=
  Tot.call (F := fun k => F_Z31 k n0) (B := fun k => B_Z31 k n0) (fun k => rfl) h
abbrev R_Z1 : Type := Option ((Int × Unit) × (Unit))
abbrev C_Z1 : Type := List Int → R_Z1
abbrev T_Z1_L0 : Type := List Int × Unit × Int × Int × Unit
def B_Z1_L0b (k : Nat) (c_Z31 : C_Z31) (again0 : T_Z1_L0 → R_Z1) (s : List Int) (t7 t8 : Int) : R_Z1 :=
  bif decide (t8 < t7) then
    chk (inb t8 s.length) <|
    (c_Z31 (rdx (0 : Int) s t8)).bind fun r16 =>
    bif r16.1.1 then
      some ((t8, ()), ())
    else
      again0 (s, (), t7, w64 (t8 + 1), ())
  else
    some (((-1), ()), ())
def B_Z1_L0 (k : Nat) (c_Z31 : C_Z31) (n : Nat) (t : T_Z1_L0) : R_Z1 :=
  lfix n (fun again t => B_Z1_L0b k c_Z31 again t.1 t.2.2.1 t.2.2.2.1) t
def B_Z1 (k : Nat) (c_Z31 : C_Z31) (s : List Int) : R_Z1 :=
  B_Z1_L0 k c_Z31 k (s, (), len s, 0, ())
def F_Z1 : Nat → C_Z1
  | 0, _ => none
  | k + 1, s => B_Z1 k (F_Z31 k) s
theorem tot_Z1 {s : _} {Q : _ → Prop} (h : Tot (fun σ => B_Z1 (σ 0) (F_Z31 (σ 0)) s) Q) : Tot (fun σ => F_Z1 (σ 0) s) Q :=
  Tot.call (F := fun k => F_Z1 k s) (B := fun k => B_Z1 k (F_Z31 k) s) (fun k => rfl) h
abbrev A_Z1_L0 (Z : Type) : Type := List Int → Int → Int → Z
abbrev u_Z1_L0 {Z : Type} (f : A_Z1_L0 Z) (t : T_Z1_L0) : Z := f t.1 t.2.2.1 t.2.2.2.1
theorem loop_Z1_L0 {Q : A_Z1_L0 (((Int × Unit) × (Unit)) → Prop)} (I : A_Z1_L0 Prop) (μ : A_Z1_L0 Nat)
    (step : ∀ a0 a1 a2, I a0 a1 a2 → ∀ again : (Nat → Nat) → T_Z1_L0 → R_Z1, Dep 2 again → (∀ y0 y1 y2, I y0 y1 y2 → μ y0 y1 y2 < μ a0 a1 a2 → Tot (fun σ => again σ (y0, (), y1, y2, ())) (Q y0 y1 y2)) →
      Tot (fun σ => B_Z1_L0b (σ 0) (F_Z31 (σ 0)) (again σ) a0 a1 a2) (Q a0 a1 a2)) :
    ∀ a0 a1 a2, I a0 a1 a2 → Tot (fun σ => B_Z1_L0 (σ 0) (F_Z31 (σ 0)) (σ 0) (a0, (), a1, a2, ())) (Q a0 a1 a2) := fun a0 a1 a2 => Tot.loop0 (L := fun k => B_Z1_L0 k (F_Z31 k)) (B := fun k g => u_Z1_L0 (B_Z1_L0b k (F_Z31 k) g)) (Q := u_Z1_L0 Q) (fun _ _ _ => rfl) (u_Z1_L0 I) (u_Z1_L0 μ)
    (fun t ht again hag h => step t.1 t.2.2.1 t.2.2.2.1 ht again hag fun y0 y1 y2 => h (y0, (), y1, y2, ())) (a0, (), a1, a2, ())
abbrev R_Z0 : Type := Option ((Bool × Unit) × (Unit))
abbrev C_Z0 : Type := List Int → R_Z0
def B_Z0 (k : Nat) (c_Z1 : C_Z1) (s : List Int) : R_Z0 :=
  (c_Z1 s).bind fun r7 =>
  some ((decide (r7.1.1 ≥ 0), ()), ())
def F_Z0 : Nat → C_Z0
  | 0, _ => none
  | k + 1, s => B_Z0 k (F_Z1 k) s
theorem tot_Z0 {s : _} {Q : _ → Prop} (h : Tot (fun σ => B_Z0 (σ 0) (F_Z1 (σ 0)) s) Q) : Tot (fun σ => F_Z0 (σ 0) s) Q :=
  Tot.call (F := fun k => F_Z0 k s) (B := fun k => B_Z0 k (F_Z1 k) s) (fun k => rfl) h
abbrev R_Z56 : Type := Option ((Bool × Unit) × (Unit))
abbrev C_Z56 : Type := List Int → Int → R_Z56
def B_Z56 (k : Nat) (c_Z0 : C_Z0) (list : List Int) (most : Int) : R_Z56 :=
  bif decide ((len list) ≤ most) then
    (c_Z0 list).bind fun r11 =>
    some (((!r11.1.1), ()), ())
  else
    some ((false, ()), ())
def F_Z56 : Nat → C_Z56
  | 0, _, _ => none
  | k + 1, list, most => B_Z56 k (F_Z0 k) list most
theorem tot_Z56 {list most : _} {Q : _ → Prop} (h : Tot (fun σ => B_Z56 (σ 0) (F_Z0 (σ 0)) list most) Q) : Tot (fun σ => F_Z56 (σ 0) list most) Q :=
  Tot.call (F := fun k => F_Z56 k list most) (B := fun k => B_Z56 k (F_Z0 k) list most) (fun k => rfl) h
abbrev R_Z19 : Type := Option ((List Int × Unit) × (Unit))
abbrev C_Z19 : Type := List Int → Int → R_Z19
abbrev T_Z19_L1 : Type := Int × List Int × List Int × Unit
def B_Z19_L1b (k : Nat) (c_Z56 : C_Z56) (again1 : T_Z19_L1 → R_Z19) (most : Int) (out rest6 : List Int) : R_Z19 :=
  bif decide ((len rest6) > 0) then
    chk (room out.length ([(if len rest6 < most then len rest6 else most)]).length) <|
    chk (cutb 0 (if len rest6 < most then len rest6 else most) rest6.length) <|
    chk (room (out ++ [(if len rest6 < most then len rest6 else most)]).length (sub rest6 0 (if len rest6 < most then len rest6 else most)).length) <|
    chk (cutb (if len rest6 < most then len rest6 else most) (len rest6) rest6.length) <|
    again1 (most, ((out ++ [(if len rest6 < most then len rest6 else most)]) ++ (sub rest6 0 (if len rest6 < most then len rest6 else most))), (sub rest6 (if len rest6 < most then len rest6 else most) (len rest6)), ())
  else
    some ((out, ()), ())
def B_Z19_L1 (k : Nat) (c_Z56 : C_Z56) (n : Nat) (t : T_Z19_L1) : R_Z19 :=
  lfix n (fun again t => B_Z19_L1b k c_Z56 again t.1 t.2.1 t.2.2.1) t
def B_Z19_J0 (k : Nat) (c_Z56 : C_Z56) (list : List Int) (most : Int) (t18 : Bool) : R_Z19 :=
  bif t18 then
    some (([], ()), ())
  else
    B_Z19_L1 k c_Z56 k (most, [], list, ())
def B_Z19 (k : Nat) (c_Z56 : C_Z56) (list : List Int) (most : Int) : R_Z19 :=
  (c_Z56 list 1000).bind fun r9 =>
  bif (!r9.1.1) then
    jn (fun t => B_Z19_J0 k c_Z56 t.1 t.2.1 t.2.2.1) (list, most, true, ())
  else
    bif decide (most < 1) then
      jn (fun t => B_Z19_J0 k c_Z56 t.1 t.2.1 t.2.2.1) (list, most, true, ())
    else
      jn (fun t => B_Z19_J0 k c_Z56 t.1 t.2.1 t.2.2.1) (list, most, decide (most > 200), ())
def F_Z19 : Nat → C_Z19
  | 0, _, _ => none
  | k + 1, list, most => B_Z19 k (F_Z56 k) list most
theorem tot_Z19 {list most : _} {Q : _ → Prop} (h : Tot (fun σ => B_Z19 (σ 0) (F_Z56 (σ 0)) list most) Q) : Tot (fun σ => F_Z19 (σ 0) list most) Q :=
  Tot.call (F := fun k => F_Z19 k list most) (B := fun k => B_Z19 k (F_Z56 k) list most) (fun k => rfl) h
abbrev A_Z19_L1 (Z : Type) : Type := Int → List Int → List Int → Z
abbrev u_Z19_L1 {Z : Type} (f : A_Z19_L1 Z) (t : T_Z19_L1) : Z := f t.1 t.2.1 t.2.2.1
theorem loop_Z19_L1 {Q : A_Z19_L1 (((List Int × Unit) × (Unit)) → Prop)} (I : A_Z19_L1 Prop) (μ : A_Z19_L1 Nat)
    (step : ∀ a0 a1 a2, I a0 a1 a2 → ∀ again : (Nat → Nat) → T_Z19_L1 → R_Z19, Dep 2 again → (∀ y0 y1 y2, I y0 y1 y2 → μ y0 y1 y2 < μ a0 a1 a2 → Tot (fun σ => again σ (y0, y1, y2, ())) (Q y0 y1 y2)) →
      Tot (fun σ => B_Z19_L1b (σ 0) (F_Z56 (σ 0)) (again σ) a0 a1 a2) (Q a0 a1 a2)) :
    ∀ a0 a1 a2, I a0 a1 a2 → Tot (fun σ => B_Z19_L1 (σ 0) (F_Z56 (σ 0)) (σ 0) (a0, a1, a2, ())) (Q a0 a1 a2) := fun a0 a1 a2 => Tot.loop0 (L := fun k => B_Z19_L1 k (F_Z56 k)) (B := fun k g => u_Z19_L1 (B_Z19_L1b k (F_Z56 k) g)) (Q := u_Z19_L1 Q) (fun _ _ _ => rfl) (u_Z19_L1 I) (u_Z19_L1 μ)
    (fun t ht again hag h => step t.1 t.2.1 t.2.2.1 ht again hag fun y0 y1 y2 => h (y0, y1, y2, ())) (a0, a1, a2, ())
abbrev R_Z8 : Type := Option ((List Int × Unit) × (Unit))
abbrev C_Z8 : Type := (List (Int × Int)) → Int → R_Z8
abbrev T_Z8_L1 : Type := Int × List Int × (List (List (Int × Int))) × Int × Int × Unit
def B_Z8_L1b (k : Nat) (c_Z40 : C_Z40) (c_Z16 : C_Z16) (c_Z33 : C_Z33) (c_Z19 : C_Z19) (again1 : T_Z8_L1 → R_Z8) (most : Int) (out : List Int) (t21 : List (List (Int × Int))) (t22 t23 : Int) : R_Z8 :=
  bif decide (t23 < t22) then
    chk (inb t23 t21.length) <|
    chk (decide (t23.toNat < t21.length)) <|
    (c_Z33 (t21.getD t23.toNat ([] : List (Int × Int)))).bind fun r29 =>
    (c_Z19 r29.1.1 most).bind fun r31 =>
    chk (room out.length r31.1.1.length) <|
    again1 (most, (out ++ r31.1.1), t21, t22, w64 (t23 + 1), ())
  else
    bif decide ((len out) > 2000) then
      some (([], ()), ())
    else
      some ((out, ()), ())
def B_Z8_L1 (k : Nat) (c_Z40 : C_Z40) (c_Z16 : C_Z16) (c_Z33 : C_Z33) (c_Z19 : C_Z19) (n : Nat) (t : T_Z8_L1) : R_Z8 :=
  lfix n (fun again t => B_Z8_L1b k c_Z40 c_Z16 c_Z33 c_Z19 again t.1 t.2.1 t.2.2.1 t.2.2.2.1 t.2.2.2.2.1) t
def B_Z8_J0 (k : Nat) (c_Z40 : C_Z40) (c_Z16 : C_Z16) (c_Z33 : C_Z33) (c_Z19 : C_Z19) (ops : List (Int × Int)) (most : Int) (t18 : Bool) : R_Z8 :=
  bif t18 then
    some (([], ()), ())
  else
    (c_Z16 ops).bind fun r21 =>
    B_Z8_L1 k c_Z40 c_Z16 c_Z33 c_Z19 k (most, [], r21.1.1, len r21.1.1, 0, ())
def B_Z8 (k : Nat) (c_Z40 : C_Z40) (c_Z16 : C_Z16) (c_Z33 : C_Z33) (c_Z19 : C_Z19) (ops : List (Int × Int)) (most : Int) : R_Z8 :=
  (c_Z40 ops).bind fun r9 =>
  bif (!r9.1.1) then
    jn (fun t => B_Z8_J0 k c_Z40 c_Z16 c_Z33 c_Z19 t.1 t.2.1 t.2.2.1) (ops, most, true, ())
  else
    bif decide (most < 1) then
      jn (fun t => B_Z8_J0 k c_Z40 c_Z16 c_Z33 c_Z19 t.1 t.2.1 t.2.2.1) (ops, most, true, ())
    else
      jn (fun t => B_Z8_J0 k c_Z40 c_Z16 c_Z33 c_Z19 t.1 t.2.1 t.2.2.1) (ops, most, decide (most > 200), ())
def F_Z8 : Nat → C_Z8
  | 0, _, _ => none
  | k + 1, ops, most => B_Z8 k (F_Z40 k) (F_Z16 k) (F_Z33 k) (F_Z19 k) ops most
theorem tot_Z8 {ops most : _} {Q : _ → Prop} (h : Tot (fun σ => B_Z8 (σ 0) (F_Z40 (σ 0)) (F_Z16 (σ 0)) (F_Z33 (σ 0)) (F_Z19 (σ 0)) ops most) Q) : Tot (fun σ => F_Z8 (σ 0) ops most) Q :=
  Tot.call (F := fun k => F_Z8 k ops most) (B := fun k => B_Z8 k (F_Z40 k) (F_Z16 k) (F_Z33 k) (F_Z19 k) ops most) (fun k => rfl) h
abbrev A_Z8_L1 (Z : Type) : Type := Int → List Int → (List (List (Int × Int))) → Int → Int → Z
abbrev u_Z8_L1 {Z : Type} (f : A_Z8_L1 Z) (t : T_Z8_L1) : Z := f t.1 t.2.1 t.2.2.1 t.2.2.2.1 t.2.2.2.2.1
theorem loop_Z8_L1 {Q : A_Z8_L1 (((List Int × Unit) × (Unit)) → Prop)} (I : A_Z8_L1 Prop) (μ : A_Z8_L1 Nat)
    (step : ∀ a0 a1 a2 a3 a4, I a0 a1 a2 a3 a4 → ∀ again : (Nat → Nat) → T_Z8_L1 → R_Z8, Dep 2 again → (∀ y0 y1 y2 y3 y4, I y0 y1 y2 y3 y4 → μ y0 y1 y2 y3 y4 < μ a0 a1 a2 a3 a4 → Tot (fun σ => again σ (y0, y1, y2, y3, y4, ())) (Q y0 y1 y2 y3 y4)) →
      Tot (fun σ => B_Z8_L1b (σ 0) (F_Z40 (σ 0)) (F_Z16 (σ 0)) (F_Z33 (σ 0)) (F_Z19 (σ 0)) (again σ) a0 a1 a2 a3 a4) (Q a0 a1 a2 a3 a4)) :
    ∀ a0 a1 a2 a3 a4, I a0 a1 a2 a3 a4 → Tot (fun σ => B_Z8_L1 (σ 0) (F_Z40 (σ 0)) (F_Z16 (σ 0)) (F_Z33 (σ 0)) (F_Z19 (σ 0)) (σ 0) (a0, a1, a2, a3, a4, ())) (Q a0 a1 a2 a3 a4) := fun a0 a1 a2 a3 a4 => Tot.loop0 (L := fun k => B_Z8_L1 k (F_Z40 k) (F_Z16 k) (F_Z33 k) (F_Z19 k)) (B := fun k g => u_Z8_L1 (B_Z8_L1b k (F_Z40 k) (F_Z16 k) (F_Z33 k) (F_Z19 k) g)) (Q := u_Z8_L1 Q) (fun _ _ _ => rfl) (u_Z8_L1 I) (u_Z8_L1 μ)
    (fun t ht again hag h => step t.1 t.2.1 t.2.2.1 t.2.2.2.1 t.2.2.2.2.1 ht again hag fun y0 y1 y2 y3 y4 => h (y0, y1, y2, y3, y4, ())) (a0, a1, a2, a3, a4, ())
abbrev R_Z18 : Type := Option (((List (List (Int × Int))) × Unit) × (Unit))
abbrev C_Z18 : Type := (List (Int × Int)) → R_Z18
abbrev T_Z18_L1 : Type := (List (Int × Int)) × (List (List (Int × Int))) × (List (Int × Int)) × Int × Unit
def B_Z18_J0 (k : Nat) (c_Z42 : C_Z42) (again1 : T_Z18_L1 → R_Z18) (ops : List (Int × Int)) (out : List (List (Int × Int))) (part : List (Int × Int)) (i : Int) : R_Z18 :=
  again1 (ops, out, part, w64 (i + 1), ())
def B_Z18_L1b (k : Nat) (c_Z42 : C_Z42) (again1 : T_Z18_L1 → R_Z18) (ops : List (Int × Int)) (out : List (List (Int × Int))) (part : List (Int × Int)) (i : Int) : R_Z18 :=
  bif decide (i < (len ops)) then
    chk (inb i ops.length) <|
    chk (room part.length ([((rdx ((0 : Int), (0 : Int)) ops i).1, (rdx ((0 : Int), (0 : Int)) ops i).2)]).length) <|
    chk (inb i ops.length) <|
    bif (((rdx ((0 : Int), (0 : Int)) ops i).1) == 19) then
      chk (room out.length ([(part ++ [((rdx ((0 : Int), (0 : Int)) ops i).1, (rdx ((0 : Int), (0 : Int)) ops i).2)])]).length) <|
      jn (fun t => B_Z18_J0 k c_Z42 again1 t.1 t.2.1 t.2.2.1 t.2.2.2.1) (ops, (out ++ [(part ++ [((rdx ((0 : Int), (0 : Int)) ops i).1, (rdx ((0 : Int), (0 : Int)) ops i).2)])]), [], i, ())
    else
      jn (fun t => B_Z18_J0 k c_Z42 again1 t.1 t.2.1 t.2.2.1 t.2.2.2.1) (ops, out, (part ++ [((rdx ((0 : Int), (0 : Int)) ops i).1, (rdx ((0 : Int), (0 : Int)) ops i).2)]), i, ())
  else
    bif decide ((len part) > 0) then
      chk (room out.length ([part]).length) <|
      some (((out ++ [part]), ()), ())
    else
      some ((out, ()), ())
def B_Z18_L1 (k : Nat) (c_Z42 : C_Z42) (n : Nat) (t : T_Z18_L1) : R_Z18 :=
  lfix n (fun again t => B_Z18_L1b k c_Z42 again t.1 t.2.1 t.2.2.1 t.2.2.2.1) t
def B_Z18 (k : Nat) (c_Z42 : C_Z42) (ops : List (Int × Int)) : R_Z18 :=
  (c_Z42 ops).bind fun r7 =>
  bif (!r7.1.1) then
    some (([], ()), ())
  else
    B_Z18_L1 k c_Z42 k (ops, [], [], 0, ())
def F_Z18 : Nat → C_Z18
  | 0, _ => none
  | k + 1, ops => B_Z18 k (F_Z42 k) ops
theorem tot_Z18 {ops : _} {Q : _ → Prop} (h : Tot (fun σ => B_Z18 (σ 0) (F_Z42 (σ 0)) ops) Q) : Tot (fun σ => F_Z18 (σ 0) ops) Q :=
  Tot.call (F := fun k => F_Z18 k ops) (B := fun k => B_Z18 k (F_Z42 k) ops) (fun k => rfl) h
abbrev A_Z18_L1 (Z : Type) : Type := (List (Int × Int)) → (List (List (Int × Int))) → (List (Int × Int)) → Int → Z
abbrev u_Z18_L1 {Z : Type} (f : A_Z18_L1 Z) (t : T_Z18_L1) : Z := f t.1 t.2.1 t.2.2.1 t.2.2.2.1
theorem loop_Z18_L1 {Q : A_Z18_L1 ((((List (List (Int × Int))) × Unit) × (Unit)) → Prop)} (I : A_Z18_L1 Prop) (μ : A_Z18_L1 Nat)
    (step : ∀ a0 a1 a2 a3, I a0 a1 a2 a3 → ∀ again : (Nat → Nat) → T_Z18_L1 → R_Z18, Dep 2 again → (∀ y0 y1 y2 y3, I y0 y1 y2 y3 → μ y0 y1 y2 y3 < μ a0 a1 a2 a3 → Tot (fun σ => again σ (y0, y1, y2, y3, ())) (Q y0 y1 y2 y3)) →
      Tot (fun σ => B_Z18_L1b (σ 0) (F_Z42 (σ 0)) (again σ) a0 a1 a2 a3) (Q a0 a1 a2 a3)) :
    ∀ a0 a1 a2 a3, I a0 a1 a2 a3 → Tot (fun σ => B_Z18_L1 (σ 0) (F_Z42 (σ 0)) (σ 0) (a0, a1, a2, a3, ())) (Q a0 a1 a2 a3) := fun a0 a1 a2 a3 => Tot.loop0 (L := fun k => B_Z18_L1 k (F_Z42 k)) (B := fun k g => u_Z18_L1 (B_Z18_L1b k (F_Z42 k) g)) (Q := u_Z18_L1 Q) (fun _ _ _ => rfl) (u_Z18_L1 I) (u_Z18_L1 μ)
    (fun t ht again hag h => step t.1 t.2.1 t.2.2.1 t.2.2.2.1 ht again hag fun y0 y1 y2 y3 => h (y0, y1, y2, y3, ())) (a0, a1, a2, a3, ())
abbrev R_Z60 : Type := Option ((List Int × Unit) × (Unit))
abbrev C_Z60 : Type := Int → Int → R_Z60
def B_Z60 (k : Nat) (c_s_argOf : C_s_argOf) (o_0 o_1 : Int) : R_Z60 :=
  (c_s_argOf o_0).bind fun r5 =>
  bif decide (r5.1.1 < 0) then
    some (([o_0], ()), ())
  else
    bif decide (o_1 < 128) then
      some (([o_0, o_1], ()), ())
    else
      some (([o_0, w64 (128 + (o_1.tmod 128)), w64 (o_1.tdiv 128)], ()), ())
def F_Z60 : Nat → C_Z60
  | 0, _, _ => none
  | k + 1, o_0, o_1 => B_Z60 k (F_s_argOf k) o_0 o_1
theorem tot_Z60 {o_0 o_1 : _} {Q : _ → Prop} (h : Tot (fun σ => B_Z60 (σ 0) (F_s_argOf (σ 0)) o_0 o_1) Q) : Tot (fun σ => F_Z60 (σ 0) o_0 o_1) Q :=
  Tot.call (F := fun k => F_Z60 k o_0 o_1) (B := fun k => B_Z60 k (F_s_argOf k) o_0 o_1) (fun k => rfl) h
abbrev R_Z28 : Type := Option ((List Int × Unit) × (Unit))
abbrev C_Z28 : Type := (List (Int × Int)) → R_Z28
abbrev T_Z28_L0 : Type := (List (Int × Int)) × List Int × Int × Unit
def B_Z28_L0b (k : Nat) (c_Z42 : C_Z42) (c_Z60 : C_Z60) (again0 : T_Z28_L0 → R_Z28) (ops : List (Int × Int)) (out : List Int) (i : Int) : R_Z28 :=
  bif decide (i < (len ops)) then
    chk (inb i ops.length) <|
    (c_Z60 ((rdx ((0 : Int), (0 : Int)) ops i).1) ((rdx ((0 : Int), (0 : Int)) ops i).2)).bind fun r20 =>
    chk (room out.length r20.1.1.length) <|
    again0 (ops, (out ++ r20.1.1), w64 (i + 1), ())
  else
    some ((out, ()), ())
def B_Z28_L0 (k : Nat) (c_Z42 : C_Z42) (c_Z60 : C_Z60) (n : Nat) (t : T_Z28_L0) : R_Z28 :=
  lfix n (fun again t => B_Z28_L0b k c_Z42 c_Z60 again t.1 t.2.1 t.2.2.1) t
def B_Z28 (k : Nat) (c_Z42 : C_Z42) (c_Z60 : C_Z60) (ops : List (Int × Int)) : R_Z28 :=
  (c_Z42 ops).bind fun r6 =>
  bif (!r6.1.1) then
    some (([], ()), ())
  else
    B_Z28_L0 k c_Z42 c_Z60 k (ops, [], 0, ())
def F_Z28 : Nat → C_Z28
  | 0, _ => none
  | k + 1, ops => B_Z28 k (F_Z42 k) (F_Z60 k) ops
theorem tot_Z28 {ops : _} {Q : _ → Prop} (h : Tot (fun σ => B_Z28 (σ 0) (F_Z42 (σ 0)) (F_Z60 (σ 0)) ops) Q) : Tot (fun σ => F_Z28 (σ 0) ops) Q :=
  Tot.call (F := fun k => F_Z28 k ops) (B := fun k => B_Z28 k (F_Z42 k) (F_Z60 k) ops) (fun k => rfl) h
abbrev A_Z28_L0 (Z : Type) : Type := (List (Int × Int)) → List Int → Int → Z
abbrev u_Z28_L0 {Z : Type} (f : A_Z28_L0 Z) (t : T_Z28_L0) : Z := f t.1 t.2.1 t.2.2.1
theorem loop_Z28_L0 {Q : A_Z28_L0 (((List Int × Unit) × (Unit)) → Prop)} (I : A_Z28_L0 Prop) (μ : A_Z28_L0 Nat)
    (step : ∀ a0 a1 a2, I a0 a1 a2 → ∀ again : (Nat → Nat) → T_Z28_L0 → R_Z28, Dep 2 again → (∀ y0 y1 y2, I y0 y1 y2 → μ y0 y1 y2 < μ a0 a1 a2 → Tot (fun σ => again σ (y0, y1, y2, ())) (Q y0 y1 y2)) →
      Tot (fun σ => B_Z28_L0b (σ 0) (F_Z42 (σ 0)) (F_Z60 (σ 0)) (again σ) a0 a1 a2) (Q a0 a1 a2)) :
    ∀ a0 a1 a2, I a0 a1 a2 → Tot (fun σ => B_Z28_L0 (σ 0) (F_Z42 (σ 0)) (F_Z60 (σ 0)) (σ 0) (a0, a1, a2, ())) (Q a0 a1 a2) := fun a0 a1 a2 => Tot.loop0 (L := fun k => B_Z28_L0 k (F_Z42 k) (F_Z60 k)) (B := fun k g => u_Z28_L0 (B_Z28_L0b k (F_Z42 k) (F_Z60 k) g)) (Q := u_Z28_L0 Q) (fun _ _ _ => rfl) (u_Z28_L0 I) (u_Z28_L0 μ)
    (fun t ht again hag h => step t.1 t.2.1 t.2.2.1 ht again hag fun y0 y1 y2 => h (y0, y1, y2, ())) (a0, a1, a2, ())
abbrev R_Z24 : Type := Option ((Bool × Unit) × (Unit))
abbrev C_Z24 : Type := List Int → R_Z24
def B_Z24 (k : Nat) (c_s_allIn : C_s_allIn) (list : List Int) : R_Z24 :=
  bif decide ((len list) ≤ 1000) then
    (c_s_allIn list 0 255).bind fun r8 =>
    some ((r8.1.1, ()), ())
  else
    some ((false, ()), ())
def F_Z24 : Nat → C_Z24
  | 0, _ => none
  | k + 1, list => B_Z24 k (F_s_allIn k) list
theorem tot_Z24 {list : _} {Q : _ → Prop} (h : Tot (fun σ => B_Z24 (σ 0) (F_s_allIn (σ 0)) list) Q) : Tot (fun σ => F_Z24 (σ 0) list) Q :=
  Tot.call (F := fun k => F_Z24 k list) (B := fun k => B_Z24 k (F_s_allIn k) list) (fun k => rfl) h
abbrev R_Z20 : Type := Option ((List Int × Unit) × (Unit))
abbrev C_Z20 : Type := List Int → Int → R_Z20
abbrev T_Z20_L1 : Type := List Int × Int × List Int × Int × Unit
def B_Z20_L1b (k : Nat) (c_Z24 : C_Z24) (c_Z62 : C_Z62) (again1 : T_Z20_L1 → R_Z20) (list : List Int) (most : Int) (out : List Int) (i : Int) : R_Z20 :=
  bif decide (i < (len list)) then
    chk (room out.length ([(if w64 ((len list) - i) < most then w64 ((len list) - i) else most)]).length) <|
    chk (cutb i (w64 (i + (if w64 ((len list) - i) < most then w64 ((len list) - i) else most))) list.length) <|
    chk (room (out ++ [(if w64 ((len list) - i) < most then w64 ((len list) - i) else most)]).length (sub list i (w64 (i + (if w64 ((len list) - i) < most then w64 ((len list) - i) else most)))).length) <|
    again1 (list, most, ((out ++ [(if w64 ((len list) - i) < most then w64 ((len list) - i) else most)]) ++ (sub list i (w64 (i + (if w64 ((len list) - i) < most then w64 ((len list) - i) else most))))), w64 (i + most), ())
  else
    some ((out, ()), ())
def B_Z20_L1 (k : Nat) (c_Z24 : C_Z24) (c_Z62 : C_Z62) (n : Nat) (t : T_Z20_L1) : R_Z20 :=
  lfix n (fun again t => B_Z20_L1b k c_Z24 c_Z62 again t.1 t.2.1 t.2.2.1 t.2.2.2.1) t
def B_Z20_J0 (k : Nat) (c_Z24 : C_Z24) (c_Z62 : C_Z62) (list : List Int) (most : Int) (t15 : Bool) : R_Z20 :=
  bif t15 then
    some (([], ()), ())
  else
    B_Z20_L1 k c_Z24 c_Z62 k (list, most, [], 0, ())
def B_Z20 (k : Nat) (c_Z24 : C_Z24) (c_Z62 : C_Z62) (list : List Int) (most : Int) : R_Z20 :=
  (c_Z24 list).bind fun r9 =>
  bif (!r9.1.1) then
    jn (fun t => B_Z20_J0 k c_Z24 c_Z62 t.1 t.2.1 t.2.2.1) (list, most, true, ())
  else
    (c_Z62 most 1 200).bind fun r13 =>
    jn (fun t => B_Z20_J0 k c_Z24 c_Z62 t.1 t.2.1 t.2.2.1) (list, most, (!r13.1.1), ())
def F_Z20 : Nat → C_Z20
  | 0, _, _ => none
  | k + 1, list, most => B_Z20 k (F_Z24 k) (F_Z62 k) list most
theorem tot_Z20 {list most : _} {Q : _ → Prop} (h : Tot (fun σ => B_Z20 (σ 0) (F_Z24 (σ 0)) (F_Z62 (σ 0)) list most) Q) : Tot (fun σ => F_Z20 (σ 0) list most) Q :=
  Tot.call (F := fun k => F_Z20 k list most) (B := fun k => B_Z20 k (F_Z24 k) (F_Z62 k) list most) (fun k => rfl) h
abbrev A_Z20_L1 (Z : Type) : Type := List Int → Int → List Int → Int → Z
abbrev u_Z20_L1 {Z : Type} (f : A_Z20_L1 Z) (t : T_Z20_L1) : Z := f t.1 t.2.1 t.2.2.1 t.2.2.2.1
theorem loop_Z20_L1 {Q : A_Z20_L1 (((List Int × Unit) × (Unit)) → Prop)} (I : A_Z20_L1 Prop) (μ : A_Z20_L1 Nat)
    (step : ∀ a0 a1 a2 a3, I a0 a1 a2 a3 → ∀ again : (Nat → Nat) → T_Z20_L1 → R_Z20, Dep 2 again → (∀ y0 y1 y2 y3, I y0 y1 y2 y3 → μ y0 y1 y2 y3 < μ a0 a1 a2 a3 → Tot (fun σ => again σ (y0, y1, y2, y3, ())) (Q y0 y1 y2 y3)) →
      Tot (fun σ => B_Z20_L1b (σ 0) (F_Z24 (σ 0)) (F_Z62 (σ 0)) (again σ) a0 a1 a2 a3) (Q a0 a1 a2 a3)) :
    ∀ a0 a1 a2 a3, I a0 a1 a2 a3 → Tot (fun σ => B_Z20_L1 (σ 0) (F_Z24 (σ 0)) (F_Z62 (σ 0)) (σ 0) (a0, a1, a2, a3, ())) (Q a0 a1 a2 a3) := fun a0 a1 a2 a3 => Tot.loop0 (L := fun k => B_Z20_L1 k (F_Z24 k) (F_Z62 k)) (B := fun k g => u_Z20_L1 (B_Z20_L1b k (F_Z24 k) (F_Z62 k) g)) (Q := u_Z20_L1 Q) (fun _ _ _ => rfl) (u_Z20_L1 I) (u_Z20_L1 μ)
    (fun t ht again hag h => step t.1 t.2.1 t.2.2.1 t.2.2.2.1 ht again hag fun y0 y1 y2 y3 => h (y0, y1, y2, y3, ())) (a0, a1, a2, a3, ())
abbrev R_Z9 : Type := Option ((List Int × Unit) × (Unit))
abbrev C_Z9 : Type := (List (Int × Int)) → Int → R_Z9
abbrev T_Z9_L1 : Type := Int × List Int × (List (List (Int × Int))) × Int × Unit
def B_Z9_L1b (k : Nat) (c_Z42 : C_Z42) (c_Z62 : C_Z62) (c_Z18 : C_Z18) (c_Z28 : C_Z28) (c_Z20 : C_Z20) (again1 : T_Z9_L1 → R_Z9) (most : Int) (out : List Int) (list : List (List (Int × Int))) (i : Int) : R_Z9 :=
  bif decide (i < (len list)) then
    chk (inb i list.length) <|
    chk (decide (i.toNat < list.length)) <|
    (c_Z28 (list.getD i.toNat ([] : List (Int × Int)))).bind fun r30 =>
    (c_Z20 r30.1.1 most).bind fun r32 =>
    chk (room out.length r32.1.1.length) <|
    again1 (most, (out ++ r32.1.1), list, w64 (i + 1), ())
  else
    bif decide ((len out) > 2000) then
      some (([], ()), ())
    else
      some ((out, ()), ())
def B_Z9_L1 (k : Nat) (c_Z42 : C_Z42) (c_Z62 : C_Z62) (c_Z18 : C_Z18) (c_Z28 : C_Z28) (c_Z20 : C_Z20) (n : Nat) (t : T_Z9_L1) : R_Z9 :=
  lfix n (fun again t => B_Z9_L1b k c_Z42 c_Z62 c_Z18 c_Z28 c_Z20 again t.1 t.2.1 t.2.2.1 t.2.2.2.1) t
def B_Z9_J0 (k : Nat) (c_Z42 : C_Z42) (c_Z62 : C_Z62) (c_Z18 : C_Z18) (c_Z28 : C_Z28) (c_Z20 : C_Z20) (ops : List (Int × Int)) (most : Int) (t15 : Bool) : R_Z9 :=
  bif t15 then
    some (([], ()), ())
  else
    (c_Z18 ops).bind fun r18 =>
    B_Z9_L1 k c_Z42 c_Z62 c_Z18 c_Z28 c_Z20 k (most, [], r18.1.1, 0, ())
def B_Z9 (k : Nat) (c_Z42 : C_Z42) (c_Z62 : C_Z62) (c_Z18 : C_Z18) (c_Z28 : C_Z28) (c_Z20 : C_Z20) (ops : List (Int × Int)) (most : Int) : R_Z9 :=
  (c_Z42 ops).bind fun r9 =>
  bif (!r9.1.1) then
    jn (fun t => B_Z9_J0 k c_Z42 c_Z62 c_Z18 c_Z28 c_Z20 t.1 t.2.1 t.2.2.1) (ops, most, true, ())
  else
    (c_Z62 most 1 200).bind fun r13 =>
    jn (fun t => B_Z9_J0 k c_Z42 c_Z62 c_Z18 c_Z28 c_Z20 t.1 t.2.1 t.2.2.1) (ops, most, (!r13.1.1), ())
def F_Z9 : Nat → C_Z9
  | 0, _, _ => none
  | k + 1, ops, most => B_Z9 k (F_Z42 k) (F_Z62 k) (F_Z18 k) (F_Z28 k) (F_Z20 k) ops most
theorem tot_Z9 {ops most : _} {Q : _ → Prop} (h : Tot (fun σ => B_Z9 (σ 0) (F_Z42 (σ 0)) (F_Z62 (σ 0)) (F_Z18 (σ 0)) (F_Z28 (σ 0)) (F_Z20 (σ 0)) ops most) Q) : Tot (fun σ => F_Z9 (σ 0) ops most) Q :=
  Tot.call (F := fun k => F_Z9 k ops most) (B := fun k => B_Z9 k (F_Z42 k) (F_Z62 k) (F_Z18 k) (F_Z28 k) (F_Z20 k) ops most) (fun k => rfl) h
abbrev A_Z9_L1 (Z : Type) : Type := Int → List Int → (List (List (Int × Int))) → Int → Z
abbrev u_Z9_L1 {Z : Type} (f : A_Z9_L1 Z) (t : T_Z9_L1) : Z := f t.1 t.2.1 t.2.2.1 t.2.2.2.1
theorem loop_Z9_L1 {Q : A_Z9_L1 (((List Int × Unit) × (Unit)) → Prop)} (I : A_Z9_L1 Prop) (μ : A_Z9_L1 Nat)
    (step : ∀ a0 a1 a2 a3, I a0 a1 a2 a3 → ∀ again : (Nat → Nat) → T_Z9_L1 → R_Z9, Dep 2 again → (∀ y0 y1 y2 y3, I y0 y1 y2 y3 → μ y0 y1 y2 y3 < μ a0 a1 a2 a3 → Tot (fun σ => again σ (y0, y1, y2, y3, ())) (Q y0 y1 y2 y3)) →
      Tot (fun σ => B_Z9_L1b (σ 0) (F_Z42 (σ 0)) (F_Z62 (σ 0)) (F_Z18 (σ 0)) (F_Z28 (σ 0)) (F_Z20 (σ 0)) (again σ) a0 a1 a2 a3) (Q a0 a1 a2 a3)) :
    ∀ a0 a1 a2 a3, I a0 a1 a2 a3 → Tot (fun σ => B_Z9_L1 (σ 0) (F_Z42 (σ 0)) (F_Z62 (σ 0)) (F_Z18 (σ 0)) (F_Z28 (σ 0)) (F_Z20 (σ 0)) (σ 0) (a0, a1, a2, a3, ())) (Q a0 a1 a2 a3) := fun a0 a1 a2 a3 => Tot.loop0 (L := fun k => B_Z9_L1 k (F_Z42 k) (F_Z62 k) (F_Z18 k) (F_Z28 k) (F_Z20 k)) (B := fun k g => u_Z9_L1 (B_Z9_L1b k (F_Z42 k) (F_Z62 k) (F_Z18 k) (F_Z28 k) (F_Z20 k) g)) (Q := u_Z9_L1 Q) (fun _ _ _ => rfl) (u_Z9_L1 I) (u_Z9_L1 μ)
    (fun t ht again hag h => step t.1 t.2.1 t.2.2.1 t.2.2.2.1 ht again hag fun y0 y1 y2 y3 => h (y0, y1, y2, y3, ())) (a0, a1, a2, a3, ())
abbrev R_Z32 : Type := Option ((Bool × Unit) × (Unit))
abbrev C_Z32 : Type := List Int → List Int → R_Z32
abbrev T_Z32_L0 : Type := List Int × List Int × Int × Unit
def B_Z32_L0b (k : Nat) (again0 : T_Z32_L0 → R_Z32) (a b : List Int) (i : Int) : R_Z32 :=
  bif decide (i < (len a)) then
    chk (inb i a.length) <|
    chk (inb i b.length) <|
    bif ((rdx (0 : Int) a i) != (rdx (0 : Int) b i)) then
      some ((false, ()), ())
    else
      again0 (a, b, w64 (i + 1), ())
  else
    some ((true, ()), ())
def B_Z32_L0 (k : Nat) (n : Nat) (t : T_Z32_L0) : R_Z32 :=
  lfix n (fun again t => B_Z32_L0b k again t.1 t.2.1 t.2.2.1) t
def B_Z32 (k : Nat) (a b : List Int) : R_Z32 :=
  bif ((len a) != (len b)) then
    some ((false, ()), ())
  else
    B_Z32_L0 k k (a, b, 0, ())
def F_Z32 : Nat → C_Z32
  | 0, _, _ => none
  | k + 1, a, b => B_Z32 k a b
theorem tot_Z32 {a b : _} {Q : _ → Prop} (h : Tot (fun σ => B_Z32 (σ 0) a b) Q) : Tot (fun σ => F_Z32 (σ 0) a b) Q :=
  Tot.call (F := fun k => F_Z32 k a b) (B := fun k => B_Z32 k a b) (fun k => rfl) h
abbrev A_Z32_L0 (Z : Type) : Type := List Int → List Int → Int → Z
abbrev u_Z32_L0 {Z : Type} (f : A_Z32_L0 Z) (t : T_Z32_L0) : Z := f t.1 t.2.1 t.2.2.1
theorem loop_Z32_L0 {Q : A_Z32_L0 (((Bool × Unit) × (Unit)) → Prop)} (I : A_Z32_L0 Prop) (μ : A_Z32_L0 Nat)
    (step : ∀ a0 a1 a2, I a0 a1 a2 → ∀ again : (Nat → Nat) → T_Z32_L0 → R_Z32, Dep 2 again → (∀ y0 y1 y2, I y0 y1 y2 → μ y0 y1 y2 < μ a0 a1 a2 → Tot (fun σ => again σ (y0, y1, y2, ())) (Q y0 y1 y2)) →
      Tot (fun σ => B_Z32_L0b (σ 0) (again σ) a0 a1 a2) (Q a0 a1 a2)) :
    ∀ a0 a1 a2, I a0 a1 a2 → Tot (fun σ => B_Z32_L0 (σ 0) (σ 0) (a0, a1, a2, ())) (Q a0 a1 a2) := fun a0 a1 a2 => Tot.loop0 (L := fun k => B_Z32_L0 k) (B := fun k g => u_Z32_L0 (B_Z32_L0b k g)) (Q := u_Z32_L0 Q) (fun _ _ _ => rfl) (u_Z32_L0 I) (u_Z32_L0 μ)
    (fun t ht again hag h => step t.1 t.2.1 t.2.2.1 ht again hag fun y0 y1 y2 => h (y0, y1, y2, ())) (a0, a1, a2, ())
abbrev R_Z11 : Type := Option ((List Int × Int × Unit) × (Unit))
abbrev C_Z11 : Type := List Int → R_Z11
abbrev T_Z11_L1 : Type := List Int × List Int × Int × Unit
def B_Z11_J0 (k : Nat) (c_Z56 : C_Z56) (again1 : T_Z11_L1 → R_Z11) (list out : List Int) (at5 : Int) (t39 : Bool) : R_Z11 :=
  bif t39 then
    chk (inb at5 list.length) <|
    chk (cutb (w64 (at5 + 1)) (w64 ((w64 (at5 + 1)) + (rdx (0 : Int) list at5))) list.length) <|
    chk (room out.length (sub list (w64 (at5 + 1)) (w64 ((w64 (at5 + 1)) + (rdx (0 : Int) list at5)))).length) <|
    chk (inb at5 list.length) <|
    again1 (list, (out ++ (sub list (w64 (at5 + 1)) (w64 ((w64 (at5 + 1)) + (rdx (0 : Int) list at5))))), w64 (at5 + (w64 (1 + (rdx (0 : Int) list at5)))), ())
  else
    some ((out, at5, ()), ())
def B_Z11_L1b (k : Nat) (c_Z56 : C_Z56) (again1 : T_Z11_L1 → R_Z11) (list out : List Int) (at5 : Int) : R_Z11 :=
  bif decide (at5 < (len list)) then
    chk (inb at5 list.length) <|
    bif decide ((rdx (0 : Int) list at5) ≥ 1) then
      chk (inb at5 list.length) <|
      bif decide ((rdx (0 : Int) list at5) ≤ 200) then
        chk (inb at5 list.length) <|
        jn (fun t => B_Z11_J0 k c_Z56 again1 t.1 t.2.1 t.2.2.1 t.2.2.2.1) (list, out, at5, decide ((w64 ((w64 (at5 + 1)) + (rdx (0 : Int) list at5))) ≤ (len list)), ())
      else
        jn (fun t => B_Z11_J0 k c_Z56 again1 t.1 t.2.1 t.2.2.1 t.2.2.2.1) (list, out, at5, false, ())
    else
      jn (fun t => B_Z11_J0 k c_Z56 again1 t.1 t.2.1 t.2.2.1 t.2.2.2.1) (list, out, at5, false, ())
  else
    jn (fun t => B_Z11_J0 k c_Z56 again1 t.1 t.2.1 t.2.2.1 t.2.2.2.1) (list, out, at5, false, ())
def B_Z11_L1 (k : Nat) (c_Z56 : C_Z56) (n : Nat) (t : T_Z11_L1) : R_Z11 :=
  lfix n (fun again t => B_Z11_L1b k c_Z56 again t.1 t.2.1 t.2.2.1) t
def B_Z11 (k : Nat) (c_Z56 : C_Z56) (list : List Int) : R_Z11 :=
  (c_Z56 list 2000).bind fun r7 =>
  bif (!r7.1.1) then
    some (([], (-1), ()), ())
  else
    B_Z11_L1 k c_Z56 k (list, [], 0, ())
def F_Z11 : Nat → C_Z11
  | 0, _ => none
  | k + 1, list => B_Z11 k (F_Z56 k) list
theorem tot_Z11 {list : _} {Q : _ → Prop} (h : Tot (fun σ => B_Z11 (σ 0) (F_Z56 (σ 0)) list) Q) : Tot (fun σ => F_Z11 (σ 0) list) Q :=
  Tot.call (F := fun k => F_Z11 k list) (B := fun k => B_Z11 k (F_Z56 k) list) (fun k => rfl) h
abbrev A_Z11_L1 (Z : Type) : Type := List Int → List Int → Int → Z
abbrev u_Z11_L1 {Z : Type} (f : A_Z11_L1 Z) (t : T_Z11_L1) : Z := f t.1 t.2.1 t.2.2.1
theorem loop_Z11_L1 {Q : A_Z11_L1 (((List Int × Int × Unit) × (Unit)) → Prop)} (I : A_Z11_L1 Prop) (μ : A_Z11_L1 Nat)
    (step : ∀ a0 a1 a2, I a0 a1 a2 → ∀ again : (Nat → Nat) → T_Z11_L1 → R_Z11, Dep 2 again → (∀ y0 y1 y2, I y0 y1 y2 → μ y0 y1 y2 < μ a0 a1 a2 → Tot (fun σ => again σ (y0, y1, y2, ())) (Q y0 y1 y2)) →
      Tot (fun σ => B_Z11_L1b (σ 0) (F_Z56 (σ 0)) (again σ) a0 a1 a2) (Q a0 a1 a2)) :
    ∀ a0 a1 a2, I a0 a1 a2 → Tot (fun σ => B_Z11_L1 (σ 0) (F_Z56 (σ 0)) (σ 0) (a0, a1, a2, ())) (Q a0 a1 a2) := fun a0 a1 a2 => Tot.loop0 (L := fun k => B_Z11_L1 k (F_Z56 k)) (B := fun k g => u_Z11_L1 (B_Z11_L1b k (F_Z56 k) g)) (Q := u_Z11_L1 Q) (fun _ _ _ => rfl) (u_Z11_L1 I) (u_Z11_L1 μ)
    (fun t ht again hag h => step t.1 t.2.1 t.2.2.1 ht again hag fun y0 y1 y2 => h (y0, y1, y2, ())) (a0, a1, a2, ())
abbrev R_Z6 : Type := Option ((List Int × Bool × Unit) × (Unit))
abbrev C_Z6 : Type := List Int → R_Z6
def B_Z6 (k : Nat) (c_Z11 : C_Z11) (list : List Int) : R_Z6 :=
  (c_Z11 list).bind fun r8 =>
  bif decide (r8.1.2.1 < (len list)) then
    some (([], false, ()), ())
  else
    some ((r8.1.1, true, ()), ())
def F_Z6 : Nat → C_Z6
  | 0, _ => none
  | k + 1, list => B_Z6 k (F_Z11 k) list
theorem tot_Z6 {list : _} {Q : _ → Prop} (h : Tot (fun σ => B_Z6 (σ 0) (F_Z11 (σ 0)) list) Q) : Tot (fun σ => F_Z6 (σ 0) list) Q :=
  Tot.call (F := fun k => F_Z6 k list) (B := fun k => B_Z6 k (F_Z11 k) list) (fun k => rfl) h
abbrev R_Z48 : Type := Option (((List (Int × Int)) × Int × Unit) × (Unit))
abbrev C_Z48 : Type := List Int → R_Z48
abbrev T_Z48_L4 : Type := List Int × (List (Int × Int)) × Int × Unit
def B_Z48_J5 (k : Nat) (c_Z49 : C_Z49) (c_i_opOk : C_i_opOk) (out : List (Int × Int)) (at5 : Int) : R_Z48 :=
  some ((out, at5, ()), ())
def B_Z48_J3 (k : Nat) (c_Z49 : C_Z49) (c_i_opOk : C_i_opOk) (again4 : T_Z48_L4 → R_Z48) (list : List Int) (out : List (Int × Int)) (at5 o_Code o_Arg n7 : Int) : R_Z48 :=
  (c_i_opOk o_Code o_Arg).bind fun r71 =>
  bif (!r71.1.1) then
    jn (fun t => B_Z48_J5 k c_Z49 c_i_opOk t.1 t.2.1) (out, at5, ())
  else
    chk (room out.length ([(o_Code, o_Arg)]).length) <|
    again4 (list, (out ++ [(o_Code, o_Arg)]), w64 (at5 + n7), ())
def B_Z48_J2 (k : Nat) (c_Z49 : C_Z49) (c_i_opOk : C_i_opOk) (again4 : T_Z48_L4 → R_Z48) (list : List Int) (out : List (Int × Int)) (at5 o_Code o_Arg : Int) (t58 : Bool) : R_Z48 :=
  bif t58 then
    jn (fun t => B_Z48_J5 k c_Z49 c_i_opOk t.1 t.2.1) (out, at5, ())
  else
    chk (inb (w64 (at5 + 2)) list.length) <|
    jn (fun t => B_Z48_J3 k c_Z49 c_i_opOk again4 t.1 t.2.1 t.2.2.1 t.2.2.2.1.1 t.2.2.2.1.2.1 t.2.2.2.2.1) (list, out, at5, (o_Code, w64 ((w64 (o_Arg - 128)) + (w64 (128 * (rdx (0 : Int) list (w64 (at5 + 2)))))), ()), 3, ())
def B_Z48_J1 (k : Nat) (c_Z49 : C_Z49) (c_i_opOk : C_i_opOk) (again4 : T_Z48_L4 → R_Z48) (list : List Int) (out : List (Int × Int)) (at5 o_Code o_Arg n7 : Int) (t31 : Bool) : R_Z48 :=
  bif t31 then
    bif decide ((w64 (at5 + 1)) ≥ (len list)) then
      jn (fun t => B_Z48_J5 k c_Z49 c_i_opOk t.1 t.2.1) (out, at5, ())
    else
      chk (inb (w64 (at5 + 1)) list.length) <|
      bif decide ((rdx (0 : Int) list (w64 (at5 + 1))) ≥ 128) then
        bif decide ((w64 (at5 + 2)) ≥ (len list)) then
          jn (fun t => B_Z48_J2 k c_Z49 c_i_opOk again4 t.1 t.2.1 t.2.2.1 t.2.2.2.1.1 t.2.2.2.1.2.1 t.2.2.2.2.1) (list, out, at5, (o_Code, (rdx (0 : Int) list (w64 (at5 + 1))), ()), true, ())
        else
          chk (inb (w64 (at5 + 2)) list.length) <|
          jn (fun t => B_Z48_J2 k c_Z49 c_i_opOk again4 t.1 t.2.1 t.2.2.1 t.2.2.2.1.1 t.2.2.2.1.2.1 t.2.2.2.2.1) (list, out, at5, (o_Code, (rdx (0 : Int) list (w64 (at5 + 1))), ()), ((rdx (0 : Int) list (w64 (at5 + 2))) == 0), ())
      else
        jn (fun t => B_Z48_J3 k c_Z49 c_i_opOk again4 t.1 t.2.1 t.2.2.1 t.2.2.2.1.1 t.2.2.2.1.2.1 t.2.2.2.2.1) (list, out, at5, (o_Code, (rdx (0 : Int) list (w64 (at5 + 1))), ()), 2, ())
  else
    jn (fun t => B_Z48_J3 k c_Z49 c_i_opOk again4 t.1 t.2.1 t.2.2.1 t.2.2.2.1.1 t.2.2.2.1.2.1 t.2.2.2.2.1) (list, out, at5, (o_Code, o_Arg, ()), n7, ())
def B_Z48_J0 (k : Nat) (c_Z49 : C_Z49) (c_i_opOk : C_i_opOk) (again4 : T_Z48_L4 → R_Z48) (list : List Int) (out : List (Int × Int)) (at5 : Int) (t17 : Bool) : R_Z48 :=
  bif t17 then
    chk (inb at5 list.length) <|
    bif decide ((rdx (0 : Int) list at5) ≤ 19) then
      (c_Z49 (rdx (0 : Int) list at5)).bind fun r29 =>
      jn (fun t => B_Z48_J1 k c_Z49 c_i_opOk again4 t.1 t.2.1 t.2.2.1 t.2.2.2.1.1 t.2.2.2.1.2.1 t.2.2.2.2.1 t.2.2.2.2.2.1) (list, out, at5, ((rdx (0 : Int) list at5), 0, ()), 1, decide (r29.1.1 > 0), ())
    else
      jn (fun t => B_Z48_J1 k c_Z49 c_i_opOk again4 t.1 t.2.1 t.2.2.1 t.2.2.2.1.1 t.2.2.2.1.2.1 t.2.2.2.2.1 t.2.2.2.2.2.1) (list, out, at5, ((rdx (0 : Int) list at5), 0, ()), 1, false, ())
  else
    jn (fun t => B_Z48_J5 k c_Z49 c_i_opOk t.1 t.2.1) (out, at5, ())
def B_Z48_L4b (k : Nat) (c_Z49 : C_Z49) (c_i_opOk : C_i_opOk) (again4 : T_Z48_L4 → R_Z48) (list : List Int) (out : List (Int × Int)) (at5 : Int) : R_Z48 :=
  bif decide ((len out) < 300) then
    jn (fun t => B_Z48_J0 k c_Z49 c_i_opOk again4 t.1 t.2.1 t.2.2.1 t.2.2.2.1) (list, out, at5, decide (at5 < (len list)), ())
  else
    jn (fun t => B_Z48_J0 k c_Z49 c_i_opOk again4 t.1 t.2.1 t.2.2.1 t.2.2.2.1) (list, out, at5, false, ())
def B_Z48_L4 (k : Nat) (c_Z49 : C_Z49) (c_i_opOk : C_i_opOk) (n : Nat) (t : T_Z48_L4) : R_Z48 :=
  lfix n (fun again t => B_Z48_L4b k c_Z49 c_i_opOk again t.1 t.2.1 t.2.2.1) t
def B_Z48 (k : Nat) (c_Z49 : C_Z49) (c_i_opOk : C_i_opOk) (list : List Int) : R_Z48 :=
  B_Z48_L4 k c_Z49 c_i_opOk k (list, [], 0, ())
def F_Z48 : Nat → C_Z48
  | 0, _ => none
  | k + 1, list => B_Z48 k (F_Z49 k) (F_i_opOk k) list
theorem tot_Z48 {list : _} {Q : _ → Prop} (h : Tot (fun σ => B_Z48 (σ 0) (F_Z49 (σ 0)) (F_i_opOk (σ 0)) list) Q) : Tot (fun σ => F_Z48 (σ 0) list) Q :=
  Tot.call (F := fun k => F_Z48 k list) (B := fun k => B_Z48 k (F_Z49 k) (F_i_opOk k) list) (fun k => rfl) h
abbrev A_Z48_L4 (Z : Type) : Type := List Int → (List (Int × Int)) → Int → Z
abbrev u_Z48_L4 {Z : Type} (f : A_Z48_L4 Z) (t : T_Z48_L4) : Z := f t.1 t.2.1 t.2.2.1
theorem loop_Z48_L4 {Q : A_Z48_L4 ((((List (Int × Int)) × Int × Unit) × (Unit)) → Prop)} (I : A_Z48_L4 Prop) (μ : A_Z48_L4 Nat)
    (step : ∀ a0 a1 a2, I a0 a1 a2 → ∀ again : (Nat → Nat) → T_Z48_L4 → R_Z48, Dep 2 again → (∀ y0 y1 y2, I y0 y1 y2 → μ y0 y1 y2 < μ a0 a1 a2 → Tot (fun σ => again σ (y0, y1, y2, ())) (Q y0 y1 y2)) →
      Tot (fun σ => B_Z48_L4b (σ 0) (F_Z49 (σ 0)) (F_i_opOk (σ 0)) (again σ) a0 a1 a2) (Q a0 a1 a2)) :
    ∀ a0 a1 a2, I a0 a1 a2 → Tot (fun σ => B_Z48_L4 (σ 0) (F_Z49 (σ 0)) (F_i_opOk (σ 0)) (σ 0) (a0, a1, a2, ())) (Q a0 a1 a2) := fun a0 a1 a2 => Tot.loop0 (L := fun k => B_Z48_L4 k (F_Z49 k) (F_i_opOk k)) (B := fun k g => u_Z48_L4 (B_Z48_L4b k (F_Z49 k) (F_i_opOk k) g)) (Q := u_Z48_L4 Q) (fun _ _ _ => rfl) (u_Z48_L4 I) (u_Z48_L4 μ)
    (fun t ht again hag h => step t.1 t.2.1 t.2.2.1 ht again hag fun y0 y1 y2 => h (y0, y1, y2, ())) (a0, a1, a2, ())
abbrev R_Z34 : Type := Option (((List (Int × Int)) × Bool × Unit) × (Unit))
abbrev C_Z34 : Type := List Int → R_Z34
abbrev T_Z34_L2 : Type := (List (Int × Int)) × Unit
def B_Z34_J1 (k : Nat) (c_Z11 : C_Z11) (c_Z48 : C_Z48) (c_Z2 : C_Z2) (again2 : T_Z34_L2 → R_Z34) (ops : List (Int × Int)) (t37 : Bool) : R_Z34 :=
  bif t37 then
    chk (cutb 0 (w64 ((len ops) - 1)) ops.length) <|
    again2 ((ops.take ((w64 ((len ops) - 1)).toNat)), ())
  else
    (c_Z2 ops).bind fun r44 =>
    some ((r44.1.1, true, ()), ())
def B_Z34_L2b (k : Nat) (c_Z11 : C_Z11) (c_Z48 : C_Z48) (c_Z2 : C_Z2) (again2 : T_Z34_L2 → R_Z34) (ops : List (Int × Int)) : R_Z34 :=
  bif decide ((len ops) > 0) then
    chk (inb (w64 ((len ops) - 1)) ops.length) <|
    chk (decide ((w64 ((len ops) - 1)).toNat < ops.length)) <|
    jn (fun t => B_Z34_J1 k c_Z11 c_Z48 c_Z2 again2 t.1 t.2.1) (ops, (((ops.getD ((w64 ((len ops) - 1)).toNat) ((0 : Int), (0 : Int))).1) != 19), ())
  else
    jn (fun t => B_Z34_J1 k c_Z11 c_Z48 c_Z2 again2 t.1 t.2.1) (ops, false, ())
def B_Z34_L2 (k : Nat) (c_Z11 : C_Z11) (c_Z48 : C_Z48) (c_Z2 : C_Z2) (n : Nat) (t : T_Z34_L2) : R_Z34 :=
  lfix n (fun again t => B_Z34_L2b k c_Z11 c_Z48 c_Z2 again t.1) t
def B_Z34_J0 (k : Nat) (c_Z11 : C_Z11) (c_Z48 : C_Z48) (c_Z2 : C_Z2) (bytes : List Int) (t19 : Bool) : R_Z34 :=
  bif t19 then
    some (([], false, ()), ())
  else
    (c_Z48 bytes).bind fun r22 =>
    B_Z34_L2 k c_Z11 c_Z48 c_Z2 k (r22.1.1, ())
def B_Z34 (k : Nat) (c_Z11 : C_Z11) (c_Z48 : C_Z48) (c_Z2 : C_Z2) (list : List Int) : R_Z34 :=
  (c_Z11 list).bind fun r10 =>
  bif decide (r10.1.2.1 < 0) then
    jn (fun t => B_Z34_J0 k c_Z11 c_Z48 c_Z2 t.1 t.2.1) (r10.1.1, true, ())
  else
    jn (fun t => B_Z34_J0 k c_Z11 c_Z48 c_Z2 t.1 t.2.1) (r10.1.1, decide ((len r10.1.1) > 1000), ())
def F_Z34 : Nat → C_Z34
  | 0, _ => none
  | k + 1, list => B_Z34 k (F_Z11 k) (F_Z48 k) (F_Z2 k) list
theorem tot_Z34 {list : _} {Q : _ → Prop} (h : Tot (fun σ => B_Z34 (σ 0) (F_Z11 (σ 0)) (F_Z48 (σ 0)) (F_Z2 (σ 0)) list) Q) : Tot (fun σ => F_Z34 (σ 0) list) Q :=
  Tot.call (F := fun k => F_Z34 k list) (B := fun k => B_Z34 k (F_Z11 k) (F_Z48 k) (F_Z2 k) list) (fun k => rfl) h
abbrev A_Z34_L2 (Z : Type) : Type := (List (Int × Int)) → Z
abbrev u_Z34_L2 {Z : Type} (f : A_Z34_L2 Z) (t : T_Z34_L2) : Z := f t.1
theorem loop_Z34_L2 {Q : A_Z34_L2 ((((List (Int × Int)) × Bool × Unit) × (Unit)) → Prop)} (I : A_Z34_L2 Prop) (μ : A_Z34_L2 Nat)
    (step : ∀ a0, I a0 → ∀ again : (Nat → Nat) → T_Z34_L2 → R_Z34, Dep 2 again → (∀ y0, I y0 → μ y0 < μ a0 → Tot (fun σ => again σ (y0, ())) (Q y0)) →
      Tot (fun σ => B_Z34_L2b (σ 0) (F_Z11 (σ 0)) (F_Z48 (σ 0)) (F_Z2 (σ 0)) (again σ) a0) (Q a0)) :
    ∀ a0, I a0 → Tot (fun σ => B_Z34_L2 (σ 0) (F_Z11 (σ 0)) (F_Z48 (σ 0)) (F_Z2 (σ 0)) (σ 0) (a0, ())) (Q a0) := fun a0 => Tot.loop0 (L := fun k => B_Z34_L2 k (F_Z11 k) (F_Z48 k) (F_Z2 k)) (B := fun k g => u_Z34_L2 (B_Z34_L2b k (F_Z11 k) (F_Z48 k) (F_Z2 k) g)) (Q := u_Z34_L2 Q) (fun _ _ _ => rfl) (u_Z34_L2 I) (u_Z34_L2 μ)
    (fun t ht again hag h => step t.1 ht again hag fun y0 => h (y0, ())) (a0, ())
abbrev R_Z5 : Type := Option (((List (Int × Int)) × Unit) × (Unit))
abbrev C_Z5 : Type := List Int → R_Z5
def B_Z5 (k : Nat) (c_Z34 : C_Z34) (list : List Int) : R_Z5 :=
  (c_Z34 list).bind fun r7 =>
  bif (!r7.1.2.1) then
    some (([], ()), ())
  else
    some ((r7.1.1, ()), ())
def F_Z5 : Nat → C_Z5
  | 0, _ => none
  | k + 1, list => B_Z5 k (F_Z34 k) list
theorem tot_Z5 {list : _} {Q : _ → Prop} (h : Tot (fun σ => B_Z5 (σ 0) (F_Z34 (σ 0)) list) Q) : Tot (fun σ => F_Z5 (σ 0) list) Q :=
  Tot.call (F := fun k => F_Z5 k list) (B := fun k => B_Z5 k (F_Z34 k) list) (fun k => rfl) h
abbrev R_Z43 : Type := Option ((Bool × Unit) × (Unit))
abbrev C_Z43 : Type := (List (Int × Int)) → (List (Int × Int)) → R_Z43
abbrev T_Z43_L0 : Type := (List (Int × Int)) × (List (Int × Int)) × Int × Unit
def B_Z43_L0b (k : Nat) (again0 : T_Z43_L0 → R_Z43) (a b : List (Int × Int)) (i : Int) : R_Z43 :=
  bif decide (i < (len a)) then
    chk (inb i a.length) <|
    chk (inb i b.length) <|
    let v25 : Bool := (!(((rdx ((0 : Int), (0 : Int)) a i).1) == ((rdx ((0 : Int), (0 : Int)) b i).1) && (((rdx ((0 : Int), (0 : Int)) a i).2) == ((rdx ((0 : Int), (0 : Int)) b i).2))))
    bif v25 then
      some ((false, ()), ())
    else
      again0 (a, b, w64 (i + 1), ())
  else
    some ((true, ()), ())
def B_Z43_L0 (k : Nat) (n : Nat) (t : T_Z43_L0) : R_Z43 :=
  lfix n (fun again t => B_Z43_L0b k again t.1 t.2.1 t.2.2.1) t
def B_Z43 (k : Nat) (a b : List (Int × Int)) : R_Z43 :=
  bif ((len a) != (len b)) then
    some ((false, ()), ())
  else
    B_Z43_L0 k k (a, b, 0, ())
def F_Z43 : Nat → C_Z43
  | 0, _, _ => none
  | k + 1, a, b => B_Z43 k a b
theorem tot_Z43 {a b : _} {Q : _ → Prop} (h : Tot (fun σ => B_Z43 (σ 0) a b) Q) : Tot (fun σ => F_Z43 (σ 0) a b) Q :=
  Tot.call (F := fun k => F_Z43 k a b) (B := fun k => B_Z43 k a b) (fun k => rfl) h
abbrev A_Z43_L0 (Z : Type) : Type := (List (Int × Int)) → (List (Int × Int)) → Int → Z
abbrev u_Z43_L0 {Z : Type} (f : A_Z43_L0 Z) (t : T_Z43_L0) : Z := f t.1 t.2.1 t.2.2.1
theorem loop_Z43_L0 {Q : A_Z43_L0 (((Bool × Unit) × (Unit)) → Prop)} (I : A_Z43_L0 Prop) (μ : A_Z43_L0 Nat)
    (step : ∀ a0 a1 a2, I a0 a1 a2 → ∀ again : (Nat → Nat) → T_Z43_L0 → R_Z43, Dep 2 again → (∀ y0 y1 y2, I y0 y1 y2 → μ y0 y1 y2 < μ a0 a1 a2 → Tot (fun σ => again σ (y0, y1, y2, ())) (Q y0 y1 y2)) →
      Tot (fun σ => B_Z43_L0b (σ 0) (again σ) a0 a1 a2) (Q a0 a1 a2)) :
    ∀ a0 a1 a2, I a0 a1 a2 → Tot (fun σ => B_Z43_L0 (σ 0) (σ 0) (a0, a1, a2, ())) (Q a0 a1 a2) := fun a0 a1 a2 => Tot.loop0 (L := fun k => B_Z43_L0 k) (B := fun k g => u_Z43_L0 (B_Z43_L0b k g)) (Q := u_Z43_L0 Q) (fun _ _ _ => rfl) (u_Z43_L0 I) (u_Z43_L0 μ)
    (fun t ht again hag h => step t.1 t.2.1 t.2.2.1 ht again hag fun y0 y1 y2 => h (y0, y1, y2, ())) (a0, a1, a2, ())
abbrev R_Z4 : Type := Option ((Bool × Unit) × (Unit))
abbrev C_Z4 : Type := List Int → R_Z4
abbrev T_Z4_L2 : Type := (List (Int × Int)) × List Int × Int × Int × Unit
def B_Z4_J1 (k : Nat) (c_Z3 : C_Z3) (c_Z8 : C_Z8) (c_Z9 : C_Z9) (c_Z32 : C_Z32) (c_Z6 : C_Z6) (c_Z5 : C_Z5) (c_Z43 : C_Z43) (c_Z33 : C_Z33) (again2 : T_Z4_L2 → R_Z4) (ops : List (Int × Int)) (out : List Int) (end6 i : Int) : R_Z4 :=
  again2 (ops, out, end6, w64 (i + 1), ())
def B_Z4_L2b (k : Nat) (c_Z3 : C_Z3) (c_Z8 : C_Z8) (c_Z9 : C_Z9) (c_Z32 : C_Z32) (c_Z6 : C_Z6) (c_Z5 : C_Z5) (c_Z43 : C_Z43) (c_Z33 : C_Z33) (again2 : T_Z4_L2 → R_Z4) (ops : List (Int × Int)) (out : List Int) (end6 i : Int) : R_Z4 :=
  bif decide (i < (len ops)) then
    chk (inb i ops.length) <|
    chk (decide (i.toNat < ops.length)) <|
    bif (((ops.getD i.toNat ((0 : Int), (0 : Int))).1) == 19) then
      jn (fun t => B_Z4_J1 k c_Z3 c_Z8 c_Z9 c_Z32 c_Z6 c_Z5 c_Z43 c_Z33 again2 t.1 t.2.1 t.2.2.1 t.2.2.2.1) (ops, out, w64 (i + 1), i, ())
    else
      jn (fun t => B_Z4_J1 k c_Z3 c_Z8 c_Z9 c_Z32 c_Z6 c_Z5 c_Z43 c_Z33 again2 t.1 t.2.1 t.2.2.1 t.2.2.2.1) (ops, out, end6, i, ())
  else
    (c_Z6 out).bind fun r53 =>
    (c_Z5 out).bind fun r57 =>
    chk (cutb 0 end6 ops.length) <|
    (c_Z43 r57.1.1 ((ops.take end6.toNat).drop 0)).bind fun r61 =>
    bif r61.1.1 then
      bif r53.1.2.1 then
        (c_Z33 ops).bind fun r68 =>
        (c_Z32 r53.1.1 r68.1.1).bind fun r69 =>
        some ((r69.1.1, ()), ())
      else
        some ((false, ()), ())
    else
      some ((false, ()), ())
def B_Z4_L2 (k : Nat) (c_Z3 : C_Z3) (c_Z8 : C_Z8) (c_Z9 : C_Z9) (c_Z32 : C_Z32) (c_Z6 : C_Z6) (c_Z5 : C_Z5) (c_Z43 : C_Z43) (c_Z33 : C_Z33) (n : Nat) (t : T_Z4_L2) : R_Z4 :=
  lfix n (fun again t => B_Z4_L2b k c_Z3 c_Z8 c_Z9 c_Z32 c_Z6 c_Z5 c_Z43 c_Z33 again t.1 t.2.1 t.2.2.1 t.2.2.2.1) t
def B_Z4_J0 (k : Nat) (c_Z3 : C_Z3) (c_Z8 : C_Z8) (c_Z9 : C_Z9) (c_Z32 : C_Z32) (c_Z6 : C_Z6) (c_Z5 : C_Z5) (c_Z43 : C_Z43) (c_Z33 : C_Z33) (ops : List (Int × Int)) (most : Int) (out : List Int) (t31 : Bool) : R_Z4 :=
  bif t31 then
    (c_Z9 ops most).bind fun r35 =>
    (c_Z32 out r35.1.1).bind fun r36 =>
    some ((r36.1.1, ()), ())
  else
    B_Z4_L2 k c_Z3 c_Z8 c_Z9 c_Z32 c_Z6 c_Z5 c_Z43 c_Z33 k (ops, out, 0, 0, ())
def B_Z4 (k : Nat) (c_Z3 : C_Z3) (c_Z8 : C_Z8) (c_Z9 : C_Z9) (c_Z32 : C_Z32) (c_Z6 : C_Z6) (c_Z5 : C_Z5) (c_Z43 : C_Z43) (c_Z33 : C_Z33) (code : List Int) : R_Z4 :=
  bif decide ((len code) > 1048576) then
    some ((true, ()), ())
  else
    (c_Z3 code).bind fun r15 =>
    (c_Z8 r15.1.1 r15.1.2.1).bind fun r20 =>
    (c_Z9 r15.1.1 r15.1.2.1).bind fun r24 =>
    (c_Z32 r20.1.1 r24.1.1).bind fun r25 =>
    bif (!r25.1.1) then
      jn (fun t => B_Z4_J0 k c_Z3 c_Z8 c_Z9 c_Z32 c_Z6 c_Z5 c_Z43 c_Z33 t.1 t.2.1 t.2.2.1 t.2.2.2.1) (r15.1.1, r15.1.2.1, r20.1.1, true, ())
    else
      jn (fun t => B_Z4_J0 k c_Z3 c_Z8 c_Z9 c_Z32 c_Z6 c_Z5 c_Z43 c_Z33 t.1 t.2.1 t.2.2.1 t.2.2.2.1) (r15.1.1, r15.1.2.1, r20.1.1, ((len r20.1.1) == 0), ())
def F_Z4 : Nat → C_Z4
  | 0, _ => none
  | k + 1, code => B_Z4 k (F_Z3 k) (F_Z8 k) (F_Z9 k) (F_Z32 k) (F_Z6 k) (F_Z5 k) (F_Z43 k) (F_Z33 k) code
theorem tot_Z4 {code : _} {Q : _ → Prop} (h : Tot (fun σ => B_Z4 (σ 0) (F_Z3 (σ 0)) (F_Z8 (σ 0)) (F_Z9 (σ 0)) (F_Z32 (σ 0)) (F_Z6 (σ 0)) (F_Z5 (σ 0)) (F_Z43 (σ 0)) (F_Z33 (σ 0)) code) Q) : Tot (fun σ => F_Z4 (σ 0) code) Q :=
  Tot.call (F := fun k => F_Z4 k code) (B := fun k => B_Z4 k (F_Z3 k) (F_Z8 k) (F_Z9 k) (F_Z32 k) (F_Z6 k) (F_Z5 k) (F_Z43 k) (F_Z33 k) code) (fun k => rfl) h
end Go.Gx

/-
  The functions, as Gx tells them (printed by gen.py).
-/
import Derived.Test.YthdjflfiekaneaaXGpart4
set_option linter.unusedVariables false
namespace Go.Gx
abbrev R_Z46 : Type := Option (((List Int × Int × Unit) × Unit) × (Unit))
abbrev C_Z46 : Type := List Int → R_Z46
def B_Z46_J0 (k : Nat) (code : List Int) : R_Z46 :=
  some (((code, 0, ()), ()), ())
def B_Z46 (k : Nat) (code : List Int) : R_Z46 :=
  bif decide ((len code) > 2000) then
    chk (cutb 0 2000 code.length) <|
    jn (fun t => B_Z46_J0 k t.1) ((sub code 0 2000), ())
  else
    jn (fun t => B_Z46_J0 k t.1) (code, ())
def F_Z46 : Nat → C_Z46
  | 0, _ => none
  | k + 1, code => B_Z46 k code
theorem tot_Z46 {code : _} {Q : _ → Prop} (h : Tot (fun σ => B_Z46 (σ 0) code) Q) : Tot (fun σ => F_Z46 (σ 0) code) Q :=
  Tot.call (F := fun k => F_Z46 k code) (B := fun k => B_Z46 k code) (fun k => rfl) h
abbrev R_Z29 : Type := Option ((Int × Unit) × ((List Int × Int × Unit) × Unit))
abbrev C_Z29 : Type := List Int → Int → Int → R_Z29
def B_Z29_J0 (k : Nat) (r_b : List Int) (r_p n1 : Int) (t24 : Bool) : R_Z29 :=
  bif t24 then
    some ((0, ()), ((r_b, r_p, ()), ()))
  else
    bif decide ((w64 (r_p - 1)) < (len r_b)) then
      chk (inb (w64 (r_p - 1)) r_b.length) <|
      chk ((n1 != 0)) <|
      some ((((w64 ((rdx (0 : Int) r_b (w64 (r_p - 1))))).tmod n1), ()), ((r_b, r_p, ()), ()))
    else
      chk (((len r_b) != 0)) <|
      chk (inb ((w64 (r_p - 1)).tmod (len r_b)) r_b.length) <|
      chk (((len r_b) != 0)) <|
      chk (inb ((w64 ((w64 ((w64 (r_p - 1)) * 7)) + 3)).tmod (len r_b)) r_b.length) <|
      let v78 : Int := w64 ((w64 ((rdx (0 : Int) r_b ((w64 ((w64 ((w64 (r_p - 1)) * 7)) + 3)).tmod (len r_b))))) * 1117)
      let v82 : Int := w64 ((w64 ((w64 ((w64 ((rdx (0 : Int) r_b ((w64 (r_p - 1)).tmod (len r_b))))) * 131)) + v78)) + (w64 ((w64 (r_p - 1)) * 29)))
      chk (((len r_b) != 0)) <|
      let v95 : Int := xor64 (w64 (v82 + (w64 ((w64 ((w64 (r_p - 1)).tdiv (len r_b))) * 53)))) (w64 ((w64 (v82 + (w64 ((w64 ((w64 (r_p - 1)).tdiv (len r_b))) * 53)))).tdiv 64))
      chk ((n1 != 0)) <|
      some (((v95.tmod n1), ()), ((r_b, r_p, ()), ()))
def B_Z29 (k : Nat) (r_b : List Int) (r_p n1 : Int) : R_Z29 :=
  bif decide (n1 < 1) then
    jn (fun t => B_Z29_J0 k t.1.1 t.1.2.1 t.2.1 t.2.2.1) ((r_b, w64 (r_p + 1), ()), n1, true, ())
  else
    jn (fun t => B_Z29_J0 k t.1.1 t.1.2.1 t.2.1 t.2.2.1) ((r_b, w64 (r_p + 1), ()), n1, ((len r_b) == 0), ())
def F_Z29 : Nat → C_Z29
  | 0, _, _, _ => none
  | k + 1, r_b, r_p, n1 => B_Z29 k r_b r_p n1
theorem tot_Z29 {r_b r_p n1 : _} {Q : _ → Prop} (h : Tot (fun σ => B_Z29 (σ 0) r_b r_p n1) Q) : Tot (fun σ => F_Z29 (σ 0) r_b r_p n1) Q :=
  Tot.call (F := fun k => F_Z29 k r_b r_p n1) (B := fun k => B_Z29 k r_b r_p n1) (fun k => rfl) h
abbrev R_Z64 : Type := Option ((Bool × Unit) × (Unit))
abbrev C_Z64 : Type := Int → Int → Int → R_Z64
def B_Z64 (k : Nat) (n0 low high : Int) : R_Z64 :=
  bif decide (low ≤ n0) then
    some ((decide (n0 ≤ high), ()), ())
  else
    some ((false, ()), ())
def F_Z64 : Nat → C_Z64
  | 0, _, _, _ => none
  | k + 1, n0, low, high => B_Z64 k n0 low high
theorem tot_Z64 {n0 low high : _} {Q : _ → Prop} (h : Tot (fun σ => B_Z64 (σ 0) n0 low high) Q) : Tot (fun σ => F_Z64 (σ 0) n0 low high) Q :=
  Tot.call (F := fun k => F_Z64 k n0 low high) (B := fun k => B_Z64 k n0 low high) (fun k => rfl) h
abbrev R_Z47 : Type := Option ((((List (Int × Int × List Int)) × Int × Unit) × Unit) × (Unit))
abbrev C_Z47 : Type := Int → R_Z47
abbrev T_Z47_L0 : Type := Int × (Unit × Int × Unit) × ((List (Int × Int × List Int)) × Int × Unit) × Int × Unit
def B_Z47_L0b (k : Nat) (c_Z64 : C_Z64) (again0 : T_Z47_L0 → R_Z47) (levels t2_Root : Int) (g_Nodes : List (Int × Int × List Int)) (g_Root i : Int) : R_Z47 :=
  bif decide (i < levels) then
    chk (room g_Nodes.length ([(2, (0, [i, i]))]).length) <|
    again0 (levels, ((), t2_Root, ()), ((g_Nodes ++ [(2, (0, [i, i]))]), g_Root, ()), w64 (i + 1), ())
  else
    some (((g_Nodes, g_Root, ()), ()), ())
def B_Z47_L0 (k : Nat) (c_Z64 : C_Z64) (n : Nat) (t : T_Z47_L0) : R_Z47 :=
  lfix n (fun again t => B_Z47_L0b k c_Z64 again t.1 t.2.1.2.1 t.2.2.1.1 t.2.2.1.2.1 t.2.2.2.1) t
def B_Z47 (k : Nat) (c_Z64 : C_Z64) (levels : Int) : R_Z47 :=
  (c_Z64 levels 0 11).bind fun r6 =>
  bif (!r6.1.1) then
    some ((([], 0, ()), ()), ())
  else
    B_Z47_L0 k c_Z64 k (levels, ((), 0, ()), ([(0, (1, []))], levels, ()), 0, ())
def F_Z47 : Nat → C_Z47
  | 0, _ => none
  | k + 1, levels => B_Z47 k (F_Z64 k) levels
theorem tot_Z47 {levels : _} {Q : _ → Prop} (h : Tot (fun σ => B_Z47 (σ 0) (F_Z64 (σ 0)) levels) Q) : Tot (fun σ => F_Z47 (σ 0) levels) Q :=
  Tot.call (F := fun k => F_Z47 k levels) (B := fun k => B_Z47 k (F_Z64 k) levels) (fun k => rfl) h
abbrev A_Z47_L0 (Z : Type) : Type := Int → Int → (List (Int × Int × List Int)) → Int → Int → Z
abbrev u_Z47_L0 {Z : Type} (f : A_Z47_L0 Z) (t : T_Z47_L0) : Z := f t.1 t.2.1.2.1 t.2.2.1.1 t.2.2.1.2.1 t.2.2.2.1
theorem loop_Z47_L0 {Q : A_Z47_L0 (((((List (Int × Int × List Int)) × Int × Unit) × Unit) × (Unit)) → Prop)} (I : A_Z47_L0 Prop) (μ : A_Z47_L0 Nat)
    (step : ∀ a0 a1 a2 a3 a4, I a0 a1 a2 a3 a4 → ∀ again : (Nat → Nat) → T_Z47_L0 → R_Z47, Dep 2 again → (∀ y0 y1 y2 y3 y4, I y0 y1 y2 y3 y4 → μ y0 y1 y2 y3 y4 < μ a0 a1 a2 a3 a4 → Tot (fun σ => again σ (y0, ((), y1, ()), (y2, y3, ()), y4, ())) (Q y0 y1 y2 y3 y4)) →
      Tot (fun σ => B_Z47_L0b (σ 0) (F_Z64 (σ 0)) (again σ) a0 a1 a2 a3 a4) (Q a0 a1 a2 a3 a4)) :
    ∀ a0 a1 a2 a3 a4, I a0 a1 a2 a3 a4 → Tot (fun σ => B_Z47_L0 (σ 0) (F_Z64 (σ 0)) (σ 0) (a0, ((), a1, ()), (a2, a3, ()), a4, ())) (Q a0 a1 a2 a3 a4) := fun a0 a1 a2 a3 a4 => Tot.loop0 (L := fun k => B_Z47_L0 k (F_Z64 k)) (B := fun k g => u_Z47_L0 (B_Z47_L0b k (F_Z64 k) g)) (Q := u_Z47_L0 Q) (fun _ _ _ => rfl) (u_Z47_L0 I) (u_Z47_L0 μ)
    (fun t ht again hag h => step t.1 t.2.1.2.1 t.2.2.1.1 t.2.2.1.2.1 t.2.2.2.1 ht again hag fun y0 y1 y2 y3 y4 => h (y0, ((), y1, ()), (y2, y3, ()), y4, ())) (a0, ((), a1, ()), (a2, a3, ()), a4, ())
abbrev R_Z34 : Type := Option ((Int × Unit) × ((List Int × Int × Unit) × Unit))
abbrev C_Z34 : Type := List Int → Int → List Int → R_Z34
def B_Z34 (k : Nat) (c_Z29 : C_Z29) (r_b : List Int) (r_p : Int) (list : List Int) : R_Z34 :=
  (c_Z29 r_b r_p (len list)).bind fun r9 =>
  chk (inb r9.1.1 list.length) <|
  some (((rdx (0 : Int) list r9.1.1), ()), ((r9.2.1.1, r9.2.1.2.1, ()), ()))
def F_Z34 : Nat → C_Z34
  | 0, _, _, _ => none
  | k + 1, r_b, r_p, list => B_Z34 k (F_Z29 k) r_b r_p list
theorem tot_Z34 {r_b r_p list : _} {Q : _ → Prop} (h : Tot (fun σ => B_Z34 (σ 0) (F_Z29 (σ 0)) r_b r_p list) Q) : Tot (fun σ => F_Z34 (σ 0) r_b r_p list) Q :=
  Tot.call (F := fun k => F_Z34 k r_b r_p list) (B := fun k => B_Z34 k (F_Z29 k) r_b r_p list) (fun k => rfl) h
abbrev R_Z57 : Type := Option (((Int × Int × Unit × Unit) × Unit) × ((List Int × Int × Unit) × Unit))
abbrev C_Z57 : Type := List Int → Int → R_Z57
def B_Z57_J1 (k : Nat) (c_Z29 : C_Z29) (c_Z34 : C_Z34) (r_b : List Int) (r_p t2_Kind t2_Value t4 : Int) (t22 : Bool) : R_Z57 :=
  bif t22 then
    some (((3, 0, (), ()), ()), ((r_b, r_p, ()), ()))
  else
    bif (t4 == 6) then
      some (((4, 0, (), ()), ()), ((r_b, r_p, ()), ()))
    else
      (c_Z29 r_b r_p 3).bind fun r30 =>
      some (((5, r30.1.1, (), ()), ()), ((r30.2.1.1, r30.2.1.2.1, ()), ()))
def B_Z57_J0 (k : Nat) (c_Z29 : C_Z29) (c_Z34 : C_Z34) (r_b : List Int) (r_p t2_Kind t2_Value t4 : Int) (t18 : Bool) : R_Z57 :=
  bif t18 then
    some (((2, 0, (), ()), ()), ((r_b, r_p, ()), ()))
  else
    bif (t4 == 4) then
      jn (fun t => B_Z57_J1 k c_Z29 c_Z34 t.1.1 t.1.2.1 t.2.1.1 t.2.1.2.1 t.2.2.1 t.2.2.2.1) ((r_b, r_p, ()), (t2_Kind, t2_Value, (), ()), t4, (t4 == 4), ())
    else
      jn (fun t => B_Z57_J1 k c_Z29 c_Z34 t.1.1 t.1.2.1 t.2.1.1 t.2.1.2.1 t.2.2.1 t.2.2.2.1) ((r_b, r_p, ()), (t2_Kind, t2_Value, (), ()), t4, (t4 == 5), ())
def B_Z57 (k : Nat) (c_Z29 : C_Z29) (c_Z34 : C_Z34) (r_b : List Int) (r_p : Int) : R_Z57 :=
  (c_Z29 r_b r_p 8).bind fun r4 =>
  bif (r4.1.1 == 0) then
    (c_Z29 r4.2.1.1 r4.2.1.2.1 250).bind fun r9 =>
    (c_Z34 r9.2.1.1 r9.2.1.2.1 ([5, 127, 128, 999, r9.1.1])).bind fun r11 =>
    some (((0, r11.1.1, (), ()), ()), ((r11.2.1.1, r11.2.1.2.1, ()), ()))
  else
    bif (r4.1.1 == 1) then
      (c_Z29 r4.2.1.1 r4.2.1.2.1 3).bind fun r16 =>
      some (((1, r16.1.1, (), ()), ()), ((r16.2.1.1, r16.2.1.2.1, ()), ()))
    else
      bif (r4.1.1 == 2) then
        jn (fun t => B_Z57_J0 k c_Z29 c_Z34 t.1.1 t.1.2.1 t.2.1.1 t.2.1.2.1 t.2.2.1 t.2.2.2.1) ((r4.2.1.1, r4.2.1.2.1, ()), (0, 0, (), ()), r4.1.1, (r4.1.1 == 2), ())
      else
        jn (fun t => B_Z57_J0 k c_Z29 c_Z34 t.1.1 t.1.2.1 t.2.1.1 t.2.1.2.1 t.2.2.1 t.2.2.2.1) ((r4.2.1.1, r4.2.1.2.1, ()), (0, 0, (), ()), r4.1.1, (r4.1.1 == 3), ())
def F_Z57 : Nat → C_Z57
  | 0, _, _ => none
  | k + 1, r_b, r_p => B_Z57 k (F_Z29 k) (F_Z34 k) r_b r_p
theorem tot_Z57 {r_b r_p : _} {Q : _ → Prop} (h : Tot (fun σ => B_Z57 (σ 0) (F_Z29 (σ 0)) (F_Z34 (σ 0)) r_b r_p) Q) : Tot (fun σ => F_Z57 (σ 0) r_b r_p) Q :=
  Tot.call (F := fun k => F_Z57 k r_b r_p) (B := fun k => B_Z57 k (F_Z29 k) (F_Z34 k) r_b r_p) (fun k => rfl) h
abbrev R_s_isKey : Type := Option ((Bool × Unit) × (Unit))
abbrev C_s_isKey : Type := Int → Int → R_s_isKey
def B_s_isKey (k : Nat) (n_0 n_1 : Int) : R_s_isKey :=
  bif (n_0 == 0) then
    some ((true, ()), ())
  else
    some (((n_0 == 1), ()), ())
def F_s_isKey : Nat → C_s_isKey
  | 0, _, _ => none
  | k + 1, n_0, n_1 => B_s_isKey k n_0 n_1
theorem tot_s_isKey {n_0 n_1 : _} {Q : _ → Prop} (h : Tot (fun σ => B_s_isKey (σ 0) n_0 n_1) Q) : Tot (fun σ => F_s_isKey (σ 0) n_0 n_1) Q :=
  Tot.call (F := fun k => F_s_isKey k n_0 n_1) (B := fun k => B_s_isKey k n_0 n_1) (fun k => rfl) h
abbrev R_s_allIn : Type := Option ((Bool × Unit) × (Unit))
abbrev C_s_allIn : Type := List Int → Int → Int → R_s_allIn
abbrev T_s_allIn_L0 : Type := List Int × Int × Int × Int × Unit
def B_s_allIn_L0b (k : Nat) (c_Z64 : C_Z64) (again0 : T_s_allIn_L0 → R_s_allIn) (list : List Int) (low high i : Int) : R_s_allIn :=
  bif decide (i < (len list)) then
    chk (inb i list.length) <|
    (c_Z64 (rdx (0 : Int) list i) low high).bind fun r20 =>
    bif (!r20.1.1) then
      some ((false, ()), ())
    else
      again0 (list, low, high, w64 (i + 1), ())
  else
    some ((true, ()), ())
def B_s_allIn_L0 (k : Nat) (c_Z64 : C_Z64) (n : Nat) (t : T_s_allIn_L0) : R_s_allIn :=
  lfix n (fun again t => B_s_allIn_L0b k c_Z64 again t.1 t.2.1 t.2.2.1 t.2.2.2.1) t
def B_s_allIn (k : Nat) (c_Z64 : C_Z64) (list : List Int) (low high : Int) : R_s_allIn :=
  B_s_allIn_L0 k c_Z64 k (list, low, high, 0, ())
def F_s_allIn : Nat → C_s_allIn
  | 0, _, _, _ => none
  | k + 1, list, low, high => B_s_allIn k (F_Z64 k) list low high
theorem tot_s_allIn {list low high : _} {Q : _ → Prop} (h : Tot (fun σ => B_s_allIn (σ 0) (F_Z64 (σ 0)) list low high) Q) : Tot (fun σ => F_s_allIn (σ 0) list low high) Q :=
  Tot.call (F := fun k => F_s_allIn k list low high) (B := fun k => B_s_allIn k (F_Z64 k) list low high) (fun k => rfl) h
abbrev A_s_allIn_L0 (Z : Type) : Type := List Int → Int → Int → Int → Z
abbrev u_s_allIn_L0 {Z : Type} (f : A_s_allIn_L0 Z) (t : T_s_allIn_L0) : Z := f t.1 t.2.1 t.2.2.1 t.2.2.2.1
theorem loop_s_allIn_L0 {Q : A_s_allIn_L0 (((Bool × Unit) × (Unit)) → Prop)} (I : A_s_allIn_L0 Prop) (μ : A_s_allIn_L0 Nat)
    (step : ∀ a0 a1 a2 a3, I a0 a1 a2 a3 → ∀ again : (Nat → Nat) → T_s_allIn_L0 → R_s_allIn, Dep 2 again → (∀ y0 y1 y2 y3, I y0 y1 y2 y3 → μ y0 y1 y2 y3 < μ a0 a1 a2 a3 → Tot (fun σ => again σ (y0, y1, y2, y3, ())) (Q y0 y1 y2 y3)) →
      Tot (fun σ => B_s_allIn_L0b (σ 0) (F_Z64 (σ 0)) (again σ) a0 a1 a2 a3) (Q a0 a1 a2 a3)) :
    ∀ a0 a1 a2 a3, I a0 a1 a2 a3 → Tot (fun σ => B_s_allIn_L0 (σ 0) (F_Z64 (σ 0)) (σ 0) (a0, a1, a2, a3, ())) (Q a0 a1 a2 a3) := fun a0 a1 a2 a3 => Tot.loop0 (L := fun k => B_s_allIn_L0 k (F_Z64 k)) (B := fun k g => u_s_allIn_L0 (B_s_allIn_L0b k (F_Z64 k) g)) (Q := u_s_allIn_L0 Q) (fun _ _ _ => rfl) (u_s_allIn_L0 I) (u_s_allIn_L0 μ)
    (fun t ht again hag h => step t.1 t.2.1 t.2.2.1 t.2.2.2.1 ht again hag fun y0 y1 y2 y3 => h (y0, y1, y2, y3, ())) (a0, a1, a2, a3, ())
abbrev R_Z65 : Type := Option ((Bool × Unit) × (Unit))
abbrev C_Z65 : Type := Int → Int → Int → Int → R_Z65
def B_Z65 (k : Nat) (a_0 a_1 b_0 b_1 : Int) : R_Z65 :=
  bif (a_0 == b_0) then
    some (((a_1 == b_1), ()), ())
  else
    some ((false, ()), ())
def F_Z65 : Nat → C_Z65
  | 0, _, _, _, _ => none
  | k + 1, a_0, a_1, b_0, b_1 => B_Z65 k a_0 a_1 b_0 b_1
theorem tot_Z65 {a_0 a_1 b_0 b_1 : _} {Q : _ → Prop} (h : Tot (fun σ => B_Z65 (σ 0) a_0 a_1 b_0 b_1) Q) : Tot (fun σ => F_Z65 (σ 0) a_0 a_1 b_0 b_1) Q :=
  Tot.call (F := fun k => F_Z65 k a_0 a_1 b_0 b_1) (B := fun k => B_Z65 k a_0 a_1 b_0 b_1) (fun k => rfl) h
abbrev R_Z44 : Type := Option ((Bool × Unit) × (Unit))
abbrev C_Z44 : Type := (List (Int × Int × List Int)) → Int → Int → Int → List Int → R_Z44
abbrev T_Z44_L0 : Type := ((List (Int × Int × List Int)) × Int × Unit) × (Int × Int × List Int × Unit) × Int × Int × Unit
abbrev T_Z44_L1 : Type := ((List (Int × Int × List Int)) × Int × Unit) × (Int × Int × List Int × Unit) × Int × Unit
def B_Z44_L0b (k : Nat) (c_s_isKey : C_s_isKey) (c_Z65 : C_Z65) (again1 : T_Z44_L1 → R_Z44) (again0 : T_Z44_L0 → R_Z44) (g_Nodes : List (Int × Int × List Int)) (g_Root n_Kind n_Value : Int) (n_Kids : List Int) (i k6 : Int) : R_Z44 :=
  bif decide (k6 < i) then
    chk (inb i n_Kids.length) <|
    chk (inb (rdx (0 : Int) n_Kids i) g_Nodes.length) <|
    chk (inb k6 n_Kids.length) <|
    chk (inb (rdx (0 : Int) n_Kids k6) g_Nodes.length) <|
    (c_Z65 ((rdx ((0 : Int), ((0 : Int), ([] : List Int))) g_Nodes (rdx (0 : Int) n_Kids i)).1) (((rdx ((0 : Int), ((0 : Int), ([] : List Int))) g_Nodes (rdx (0 : Int) n_Kids i)).2).1) ((rdx ((0 : Int), ((0 : Int), ([] : List Int))) g_Nodes (rdx (0 : Int) n_Kids k6)).1) (((rdx ((0 : Int), ((0 : Int), ([] : List Int))) g_Nodes (rdx (0 : Int) n_Kids k6)).2).1)).bind fun r48 =>
    bif r48.1.1 then
      some ((false, ()), ())
    else
      again0 ((g_Nodes, g_Root, ()), (n_Kind, n_Value, n_Kids, ()), i, w64 (k6 + 2), ())
  else
    again1 ((g_Nodes, g_Root, ()), (n_Kind, n_Value, n_Kids, ()), w64 (i + 2), ())
def B_Z44_L0 (k : Nat) (c_s_isKey : C_s_isKey) (c_Z65 : C_Z65) (again1 : T_Z44_L1 → R_Z44) (n : Nat) (t : T_Z44_L0) : R_Z44 :=
  lfix n (fun again t => B_Z44_L0b k c_s_isKey c_Z65 again1 again t.1.1 t.1.2.1 t.2.1.1 t.2.1.2.1 t.2.1.2.2.1 t.2.2.1 t.2.2.2.1) t
def B_Z44_L1b (k : Nat) (c_s_isKey : C_s_isKey) (c_Z65 : C_Z65) (again1 : T_Z44_L1 → R_Z44) (g_Nodes : List (Int × Int × List Int)) (g_Root n_Kind n_Value : Int) (n_Kids : List Int) (i : Int) : R_Z44 :=
  bif decide (i < (len n_Kids)) then
    chk (inb i n_Kids.length) <|
    chk (inb (rdx (0 : Int) n_Kids i) g_Nodes.length) <|
    (c_s_isKey ((rdx ((0 : Int), ((0 : Int), ([] : List Int))) g_Nodes (rdx (0 : Int) n_Kids i)).1) (((rdx ((0 : Int), ((0 : Int), ([] : List Int))) g_Nodes (rdx (0 : Int) n_Kids i)).2).1)).bind fun r23 =>
    bif (!r23.1.1) then
      some ((false, ()), ())
    else
      B_Z44_L0 k c_s_isKey c_Z65 again1 k ((g_Nodes, g_Root, ()), (n_Kind, n_Value, n_Kids, ()), i, 0, ())
  else
    some (((((len n_Kids).tmod 2) == 0), ()), ())
def B_Z44_L1 (k : Nat) (c_s_isKey : C_s_isKey) (c_Z65 : C_Z65) (n : Nat) (t : T_Z44_L1) : R_Z44 :=
  lfix n (fun again t => B_Z44_L1b k c_s_isKey c_Z65 again t.1.1 t.1.2.1 t.2.1.1 t.2.1.2.1 t.2.1.2.2.1 t.2.2.1) t
def B_Z44 (k : Nat) (c_s_isKey : C_s_isKey) (c_Z65 : C_Z65) (g_0 : List (Int × Int × List Int)) (g_1 n_0 n_1 : Int) (n_2 : List Int) : R_Z44 :=
  B_Z44_L1 k c_s_isKey c_Z65 k ((g_0, g_1, ()), (n_0, n_1, n_2, ()), 0, ())
def F_Z44 : Nat → C_Z44
  | 0, _, _, _, _, _ => none
  | k + 1, g_0, g_1, n_0, n_1, n_2 => B_Z44 k (F_s_isKey k) (F_Z65 k) g_0 g_1 n_0 n_1 n_2
theorem tot_Z44 {g_0 g_1 n_0 n_1 n_2 : _} {Q : _ → Prop} (h : Tot (fun σ => B_Z44 (σ 0) (F_s_isKey (σ 0)) (F_Z65 (σ 0)) g_0 g_1 n_0 n_1 n_2) Q) : Tot (fun σ => F_Z44 (σ 0) g_0 g_1 n_0 n_1 n_2) Q :=
  Tot.call (F := fun k => F_Z44 k g_0 g_1 n_0 n_1 n_2) (B := fun k => B_Z44 k (F_s_isKey k) (F_Z65 k) g_0 g_1 n_0 n_1 n_2) (fun k => rfl) h
abbrev A_Z44_L0 (Z : Type) : Type := (List (Int × Int × List Int)) → Int → Int → Int → List Int → Int → Int → Z
abbrev u_Z44_L0 {Z : Type} (f : A_Z44_L0 Z) (t : T_Z44_L0) : Z := f t.1.1 t.1.2.1 t.2.1.1 t.2.1.2.1 t.2.1.2.2.1 t.2.2.1 t.2.2.2.1
theorem loop_Z44_L0 {again1 : (Nat → Nat) → T_Z44_L1 → R_Z44} (hag1 : Dep 2 again1) {Q : A_Z44_L0 (((Bool × Unit) × (Unit)) → Prop)} (I : A_Z44_L0 Prop) (μ : A_Z44_L0 Nat)
    (step : ∀ a0 a1 a2 a3 a4 a5 a6, I a0 a1 a2 a3 a4 a5 a6 → ∀ again : (Nat → Nat) → T_Z44_L0 → R_Z44, Dep 3 again → (∀ y0 y1 y2 y3 y4 y5 y6, I y0 y1 y2 y3 y4 y5 y6 → μ y0 y1 y2 y3 y4 y5 y6 < μ a0 a1 a2 a3 a4 a5 a6 → Tot (fun σ => again σ ((y0, y1, ()), (y2, y3, y4, ()), y5, y6, ())) (Q y0 y1 y2 y3 y4 y5 y6)) →
      Tot (fun σ => B_Z44_L0b (σ 0) (F_s_isKey (σ 0)) (F_Z65 (σ 0)) (again1 σ) (again σ) a0 a1 a2 a3 a4 a5 a6) (Q a0 a1 a2 a3 a4 a5 a6)) :
    ∀ a0 a1 a2 a3 a4 a5 a6, I a0 a1 a2 a3 a4 a5 a6 → Tot (fun σ => B_Z44_L0 (σ 0) (F_s_isKey (σ 0)) (F_Z65 (σ 0)) (again1 σ) (σ 0) ((a0, a1, ()), (a2, a3, a4, ()), a5, a6, ())) (Q a0 a1 a2 a3 a4 a5 a6) := fun a0 a1 a2 a3 a4 a5 a6 => Tot.loop (L := fun σ n t => B_Z44_L0 (σ 0) (F_s_isKey (σ 0)) (F_Z65 (σ 0)) (again1 σ) n t) (B := fun σ g => u_Z44_L0 (B_Z44_L0b (σ 0) (F_s_isKey (σ 0)) (F_Z65 (σ 0)) (again1 σ) g)) (Q := u_Z44_L0 Q) 2 (by decide)
    (fun s s' h => by have e0 : s 0 = s' 0 := h 0 (by decide); simp only [e0, hag1 s s' h]) (fun s s' h => by have e0 : s 0 = s' 0 := h 0 (by decide); simp only [e0, hag1 s s' h]) (fun _ _ _ => rfl) (u_Z44_L0 I) (u_Z44_L0 μ)
    (fun t ht again hag h => step t.1.1 t.1.2.1 t.2.1.1 t.2.1.2.1 t.2.1.2.2.1 t.2.2.1 t.2.2.2.1 ht again hag fun y0 y1 y2 y3 y4 y5 y6 => h ((y0, y1, ()), (y2, y3, y4, ()), y5, y6, ())) ((a0, a1, ()), (a2, a3, a4, ()), a5, a6, ())
abbrev A_Z44_L1 (Z : Type) : Type := (List (Int × Int × List Int)) → Int → Int → Int → List Int → Int → Z
abbrev u_Z44_L1 {Z : Type} (f : A_Z44_L1 Z) (t : T_Z44_L1) : Z := f t.1.1 t.1.2.1 t.2.1.1 t.2.1.2.1 t.2.1.2.2.1 t.2.2.1
theorem loop_Z44_L1 {Q : A_Z44_L1 (((Bool × Unit) × (Unit)) → Prop)} (I : A_Z44_L1 Prop) (μ : A_Z44_L1 Nat)
    (step : ∀ a0 a1 a2 a3 a4 a5, I a0 a1 a2 a3 a4 a5 → ∀ again : (Nat → Nat) → T_Z44_L1 → R_Z44, Dep 2 again → (∀ y0 y1 y2 y3 y4 y5, I y0 y1 y2 y3 y4 y5 → μ y0 y1 y2 y3 y4 y5 < μ a0 a1 a2 a3 a4 a5 → Tot (fun σ => again σ ((y0, y1, ()), (y2, y3, y4, ()), y5, ())) (Q y0 y1 y2 y3 y4 y5)) →
      Tot (fun σ => B_Z44_L1b (σ 0) (F_s_isKey (σ 0)) (F_Z65 (σ 0)) (again σ) a0 a1 a2 a3 a4 a5) (Q a0 a1 a2 a3 a4 a5)) :
    ∀ a0 a1 a2 a3 a4 a5, I a0 a1 a2 a3 a4 a5 → Tot (fun σ => B_Z44_L1 (σ 0) (F_s_isKey (σ 0)) (F_Z65 (σ 0)) (σ 0) ((a0, a1, ()), (a2, a3, a4, ()), a5, ())) (Q a0 a1 a2 a3 a4 a5) := fun a0 a1 a2 a3 a4 a5 => Tot.loop0 (L := fun k => B_Z44_L1 k (F_s_isKey k) (F_Z65 k)) (B := fun k g => u_Z44_L1 (B_Z44_L1b k (F_s_isKey k) (F_Z65 k) g)) (Q := u_Z44_L1 Q) (fun _ _ _ => rfl) (u_Z44_L1 I) (u_Z44_L1 μ)
    (fun t ht again hag h => step t.1.1 t.1.2.1 t.2.1.1 t.2.1.2.1 t.2.1.2.2.1 t.2.2.1 ht again hag fun y0 y1 y2 y3 y4 y5 => h ((y0, y1, ()), (y2, y3, y4, ()), y5, ())) ((a0, a1, ()), (a2, a3, a4, ()), a5, ())
abbrev R_Z42 : Type := Option ((Bool × Unit) × (Unit))
abbrev C_Z42 : Type := (List (Int × Int × List Int)) → Int → Int → Int → List Int → R_Z42
def B_Z42_J1 (k : Nat) (c_s_allIn : C_s_allIn) (c_Z64 : C_Z64) (c_Z44 : C_Z44) (g_Nodes : List (Int × Int × List Int)) (g_Root n_Kind n_Value : Int) (n_Kids : List Int) (t20 : Int) (t43 : Bool) : R_Z42 :=
  bif t43 then
    some (((n_Value == 0), ()), ())
  else
    bif (t20 == 4) then
      bif (n_Value == 0) then
        (c_Z44 g_Nodes g_Root n_Kind n_Value n_Kids).bind fun r57 =>
        some ((r57.1.1, ()), ())
      else
        some ((false, ()), ())
    else
      bif (t20 == 5) then
        (c_Z64 n_Value 0 9).bind fun r63 =>
        bif r63.1.1 then
          some ((decide ((len n_Kids) ≤ 1), ()), ())
        else
          some ((false, ()), ())
      else
        some ((false, ()), ())
def B_Z42_J0 (k : Nat) (c_s_allIn : C_s_allIn) (c_Z64 : C_Z64) (c_Z44 : C_Z44) (g_Nodes : List (Int × Int × List Int)) (g_Root n_Kind n_Value : Int) (n_Kids : List Int) (t18 : Bool) : R_Z42 :=
  bif t18 then
    some ((false, ()), ())
  else
    bif (n_Kind == 0) then
      (c_Z64 n_Value 0 999).bind fun r25 =>
      bif r25.1.1 then
        some ((((len n_Kids) == 0), ()), ())
      else
        some ((false, ()), ())
    else
      bif (n_Kind == 1) then
        (c_Z64 n_Value 0 9).bind fun r36 =>
        bif r36.1.1 then
          some ((((len n_Kids) == 0), ()), ())
        else
          some ((false, ()), ())
      else
        bif (n_Kind == 2) then
          jn (fun t => B_Z42_J1 k c_s_allIn c_Z64 c_Z44 t.1.1 t.1.2.1 t.2.1.1 t.2.1.2.1 t.2.1.2.2.1 t.2.2.1 t.2.2.2.1) ((g_Nodes, g_Root, ()), (n_Kind, n_Value, n_Kids, ()), n_Kind, (n_Kind == 2), ())
        else
          jn (fun t => B_Z42_J1 k c_s_allIn c_Z64 c_Z44 t.1.1 t.1.2.1 t.2.1.1 t.2.1.2.1 t.2.1.2.2.1 t.2.2.1 t.2.2.2.1) ((g_Nodes, g_Root, ()), (n_Kind, n_Value, n_Kids, ()), n_Kind, (n_Kind == 3), ())
def B_Z42 (k : Nat) (c_s_allIn : C_s_allIn) (c_Z64 : C_Z64) (c_Z44 : C_Z44) (g_0 : List (Int × Int × List Int)) (g_1 n_0 n_1 : Int) (n_2 : List Int) : R_Z42 :=
  bif decide ((len n_2) > 6) then
    jn (fun t => B_Z42_J0 k c_s_allIn c_Z64 c_Z44 t.1.1 t.1.2.1 t.2.1.1 t.2.1.2.1 t.2.1.2.2.1 t.2.2.1) ((g_0, g_1, ()), (n_0, n_1, n_2, ()), true, ())
  else
    (c_s_allIn n_2 0 (w64 ((len g_0) - 1))).bind fun r16 =>
    jn (fun t => B_Z42_J0 k c_s_allIn c_Z64 c_Z44 t.1.1 t.1.2.1 t.2.1.1 t.2.1.2.1 t.2.1.2.2.1 t.2.2.1) ((g_0, g_1, ()), (n_0, n_1, n_2, ()), (!r16.1.1), ())
def F_Z42 : Nat → C_Z42
  | 0, _, _, _, _, _ => none
  | k + 1, g_0, g_1, n_0, n_1, n_2 => B_Z42 k (F_s_allIn k) (F_Z64 k) (F_Z44 k) g_0 g_1 n_0 n_1 n_2
theorem tot_Z42 {g_0 g_1 n_0 n_1 n_2 : _} {Q : _ → Prop} (h : Tot (fun σ => B_Z42 (σ 0) (F_s_allIn (σ 0)) (F_Z64 (σ 0)) (F_Z44 (σ 0)) g_0 g_1 n_0 n_1 n_2) Q) : Tot (fun σ => F_Z42 (σ 0) g_0 g_1 n_0 n_1 n_2) Q :=
  Tot.call (F := fun k => F_Z42 k g_0 g_1 n_0 n_1 n_2) (B := fun k => B_Z42 k (F_s_allIn k) (F_Z64 k) (F_Z44 k) g_0 g_1 n_0 n_1 n_2) (fun k => rfl) h
abbrev R_Z52 : Type := Option ((List Int × Unit) × (Unit))
abbrev C_Z52 : Type := List Int → R_Z52
def B_Z52 (k : Nat) (list : List Int) : R_Z52 :=
  chk (room ([] : List Int).length list.length) <|
  some ((list, ()), ())
def F_Z52 : Nat → C_Z52
  | 0, _ => none
  | k + 1, list => B_Z52 k list
theorem tot_Z52 {list : _} {Q : _ → Prop} (h : Tot (fun σ => B_Z52 (σ 0) list) Q) : Tot (fun σ => F_Z52 (σ 0) list) Q :=
  Tot.call (F := fun k => F_Z52 k list) (B := fun k => B_Z52 k list) (fun k => rfl) h
abbrev R_Z59 : Type := Option ((Int × Unit) × (Unit))
abbrev C_Z59 : Type := List Int → Int → R_Z59
abbrev T_Z59_L0 : Type := List Int × Int × Int × Unit
def B_Z59_L0b (k : Nat) (again0 : T_Z59_L0 → R_Z59) (list : List Int) (n1 i : Int) : R_Z59 :=
  bif decide (i < (len list)) then
    chk (inb i list.length) <|
    bif ((rdx (0 : Int) list i) == n1) then
      some ((i, ()), ())
    else
      again0 (list, n1, w64 (i + 1), ())
  else
    some (((-1), ()), ())
def B_Z59_L0 (k : Nat) (n : Nat) (t : T_Z59_L0) : R_Z59 :=
  lfix n (fun again t => B_Z59_L0b k again t.1 t.2.1 t.2.2.1) t
def B_Z59 (k : Nat) (list : List Int) (n1 : Int) : R_Z59 :=
  B_Z59_L0 k k (list, n1, 0, ())
def F_Z59 : Nat → C_Z59
  | 0, _, _ => none
  | k + 1, list, n1 => B_Z59 k list n1
theorem tot_Z59 {list n1 : _} {Q : _ → Prop} (h : Tot (fun σ => B_Z59 (σ 0) list n1) Q) : Tot (fun σ => F_Z59 (σ 0) list n1) Q :=
  Tot.call (F := fun k => F_Z59 k list n1) (B := fun k => B_Z59 k list n1) (fun k => rfl) h
abbrev A_Z59_L0 (Z : Type) : Type := List Int → Int → Int → Z
abbrev u_Z59_L0 {Z : Type} (f : A_Z59_L0 Z) (t : T_Z59_L0) : Z := f t.1 t.2.1 t.2.2.1
theorem loop_Z59_L0 {Q : A_Z59_L0 (((Int × Unit) × (Unit)) → Prop)} (I : A_Z59_L0 Prop) (μ : A_Z59_L0 Nat)
    (step : ∀ a0 a1 a2, I a0 a1 a2 → ∀ again : (Nat → Nat) → T_Z59_L0 → R_Z59, Dep 2 again → (∀ y0 y1 y2, I y0 y1 y2 → μ y0 y1 y2 < μ a0 a1 a2 → Tot (fun σ => again σ (y0, y1, y2, ())) (Q y0 y1 y2)) →
      Tot (fun σ => B_Z59_L0b (σ 0) (again σ) a0 a1 a2) (Q a0 a1 a2)) :
    ∀ a0 a1 a2, I a0 a1 a2 → Tot (fun σ => B_Z59_L0 (σ 0) (σ 0) (a0, a1, a2, ())) (Q a0 a1 a2) := fun a0 a1 a2 => Tot.loop0 (L := fun k => B_Z59_L0 k) (B := fun k g => u_Z59_L0 (B_Z59_L0b k g)) (Q := u_Z59_L0 Q) (fun _ _ _ => rfl) (u_Z59_L0 I) (u_Z59_L0 μ)
    (fun t ht again hag h => step t.1 t.2.1 t.2.2.1 ht again hag fun y0 y1 y2 => h (y0, y1, y2, ())) (a0, a1, a2, ())
abbrev R_Z37 : Type := Option ((List Int × Unit) × (Unit))
abbrev C_Z37 : Type := (List (Int × Int × List Int)) → Int → Int → R_Z37
abbrev T_Z37_L1 : Type := ((List (Int × Int × List Int)) × Int × Unit) × List Int × List Int × Int × Unit
def B_Z37_J0 (k : Nat) (c_Z52 : C_Z52) (c_Z59 : C_Z59) (again1 : T_Z37_L1 → R_Z37) (g_Nodes : List (Int × Int × List Int)) (g_Root : Int) (out list : List Int) (k7 : Int) : R_Z37 :=
  again1 ((g_Nodes, g_Root, ()), out, list, w64 (k7 + 1), ())
def B_Z37_L1b (k : Nat) (c_Z52 : C_Z52) (c_Z59 : C_Z59) (again1 : T_Z37_L1 → R_Z37) (g_Nodes : List (Int × Int × List Int)) (g_Root : Int) (out list : List Int) (k7 : Int) : R_Z37 :=
  bif decide (k7 < (len list)) then
    chk (inb k7 list.length) <|
    chk (decide (k7.toNat < list.length)) <|
    (c_Z59 out (list.getD k7.toNat (0 : Int))).bind fun r27 =>
    bif decide (r27.1.1 < 0) then
      chk (inb k7 list.length) <|
      chk (decide (k7.toNat < list.length)) <|
      chk (room out.length ([(list.getD k7.toNat (0 : Int))]).length) <|
      chk (inb k7 list.length) <|
      chk (decide (k7.toNat < list.length)) <|
      chk (inb (list.getD k7.toNat (0 : Int)) g_Nodes.length) <|
      let v45 : Bool := (((rdx ((0 : Int), ((0 : Int), ([] : List Int))) g_Nodes (list.getD k7.toNat (0 : Int))).1) == 2)
      bif v45 then
        chk (inb k7 list.length) <|
        chk (decide (k7.toNat < list.length)) <|
        chk (inb (list.getD k7.toNat (0 : Int)) g_Nodes.length) <|
        chk (room list.length (((rdx ((0 : Int), ((0 : Int), ([] : List Int))) g_Nodes (list.getD k7.toNat (0 : Int))).2).2).length) <|
        jn (fun t => B_Z37_J0 k c_Z52 c_Z59 again1 t.1.1 t.1.2.1 t.2.1 t.2.2.1 t.2.2.2.1) ((g_Nodes, g_Root, ()), (out ++ [(list.getD k7.toNat (0 : Int))]), (list ++ ((rdx ((0 : Int), ((0 : Int), ([] : List Int))) g_Nodes (list.getD k7.toNat (0 : Int))).2).2), k7, ())
      else
        jn (fun t => B_Z37_J0 k c_Z52 c_Z59 again1 t.1.1 t.1.2.1 t.2.1 t.2.2.1 t.2.2.2.1) ((g_Nodes, g_Root, ()), (out ++ [(list.getD k7.toNat (0 : Int))]), list, k7, ())
    else
      jn (fun t => B_Z37_J0 k c_Z52 c_Z59 again1 t.1.1 t.1.2.1 t.2.1 t.2.2.1 t.2.2.2.1) ((g_Nodes, g_Root, ()), out, list, k7, ())
  else
    some ((out, ()), ())
def B_Z37_L1 (k : Nat) (c_Z52 : C_Z52) (c_Z59 : C_Z59) (n : Nat) (t : T_Z37_L1) : R_Z37 :=
  lfix n (fun again t => B_Z37_L1b k c_Z52 c_Z59 again t.1.1 t.1.2.1 t.2.1 t.2.2.1 t.2.2.2.1) t
def B_Z37 (k : Nat) (c_Z52 : C_Z52) (c_Z59 : C_Z59) (g_0 : List (Int × Int × List Int)) (g_1 at1 : Int) : R_Z37 :=
  chk (inb at1 g_0.length) <|
  (c_Z52 (((rdx ((0 : Int), ((0 : Int), ([] : List Int))) g_0 at1).2).2)).bind fun r15 =>
  B_Z37_L1 k c_Z52 c_Z59 k ((g_0, g_1, ()), [], r15.1.1, 0, ())
def F_Z37 : Nat → C_Z37
  | 0, _, _, _ => none
  | k + 1, g_0, g_1, at1 => B_Z37 k (F_Z52 k) (F_Z59 k) g_0 g_1 at1
theorem tot_Z37 {g_0 g_1 at1 : _} {Q : _ → Prop} (h : Tot (fun σ => B_Z37 (σ 0) (F_Z52 (σ 0)) (F_Z59 (σ 0)) g_0 g_1 at1) Q) : Tot (fun σ => F_Z37 (σ 0) g_0 g_1 at1) Q :=
  Tot.call (F := fun k => F_Z37 k g_0 g_1 at1) (B := fun k => B_Z37 k (F_Z52 k) (F_Z59 k) g_0 g_1 at1) (fun k => rfl) h
abbrev A_Z37_L1 (Z : Type) : Type := (List (Int × Int × List Int)) → Int → List Int → List Int → Int → Z
abbrev u_Z37_L1 {Z : Type} (f : A_Z37_L1 Z) (t : T_Z37_L1) : Z := f t.1.1 t.1.2.1 t.2.1 t.2.2.1 t.2.2.2.1
theorem loop_Z37_L1 {Q : A_Z37_L1 (((List Int × Unit) × (Unit)) → Prop)} (I : A_Z37_L1 Prop) (μ : A_Z37_L1 Nat)
    (step : ∀ a0 a1 a2 a3 a4, I a0 a1 a2 a3 a4 → ∀ again : (Nat → Nat) → T_Z37_L1 → R_Z37, Dep 2 again → (∀ y0 y1 y2 y3 y4, I y0 y1 y2 y3 y4 → μ y0 y1 y2 y3 y4 < μ a0 a1 a2 a3 a4 → Tot (fun σ => again σ ((y0, y1, ()), y2, y3, y4, ())) (Q y0 y1 y2 y3 y4)) →
      Tot (fun σ => B_Z37_L1b (σ 0) (F_Z52 (σ 0)) (F_Z59 (σ 0)) (again σ) a0 a1 a2 a3 a4) (Q a0 a1 a2 a3 a4)) :
    ∀ a0 a1 a2 a3 a4, I a0 a1 a2 a3 a4 → Tot (fun σ => B_Z37_L1 (σ 0) (F_Z52 (σ 0)) (F_Z59 (σ 0)) (σ 0) ((a0, a1, ()), a2, a3, a4, ())) (Q a0 a1 a2 a3 a4) := fun a0 a1 a2 a3 a4 => Tot.loop0 (L := fun k => B_Z37_L1 k (F_Z52 k) (F_Z59 k)) (B := fun k g => u_Z37_L1 (B_Z37_L1b k (F_Z52 k) (F_Z59 k) g)) (Q := u_Z37_L1 Q) (fun _ _ _ => rfl) (u_Z37_L1 I) (u_Z37_L1 μ)
    (fun t ht again hag h => step t.1.1 t.1.2.1 t.2.1 t.2.2.1 t.2.2.2.1 ht again hag fun y0 y1 y2 y3 y4 => h ((y0, y1, ()), y2, y3, y4, ())) ((a0, a1, ()), a2, a3, a4, ())
abbrev R_Z38 : Type := Option ((Bool × Unit) × (Unit))
abbrev C_Z38 : Type := (List (Int × Int × List Int)) → Int → R_Z38
abbrev T_Z38_L3 : Type := ((List (Int × Int × List Int)) × Int × Unit) × Int × Unit
abbrev T_Z38_L1 : Type := ((List (Int × Int × List Int)) × Int × Unit) × Int × Unit
def B_Z38_J2 (k : Nat) (c_Z64 : C_Z64) (c_Z42 : C_Z42) (c_Z37 : C_Z37) (c_Z59 : C_Z59) (again3 : T_Z38_L3 → R_Z38) (g_Nodes : List (Int × Int × List Int)) (g_Root i : Int) (t56 : Bool) : R_Z38 :=
  bif t56 then
    some ((false, ()), ())
  else
    again3 ((g_Nodes, g_Root, ()), w64 (i + 1), ())
def B_Z38_L3b (k : Nat) (c_Z64 : C_Z64) (c_Z42 : C_Z42) (c_Z37 : C_Z37) (c_Z59 : C_Z59) (again3 : T_Z38_L3 → R_Z38) (g_Nodes : List (Int × Int × List Int)) (g_Root i : Int) : R_Z38 :=
  bif decide (i < (len g_Nodes)) then
    chk (inb i g_Nodes.length) <|
    bif (((rdx ((0 : Int), ((0 : Int), ([] : List Int))) g_Nodes i).1) == 2) then
      (c_Z37 g_Nodes g_Root i).bind fun r52 =>
      (c_Z59 r52.1.1 i).bind fun r54 =>
      jn (fun t => B_Z38_J2 k c_Z64 c_Z42 c_Z37 c_Z59 again3 t.1.1 t.1.2.1 t.2.1 t.2.2.1) ((g_Nodes, g_Root, ()), i, decide (r54.1.1 ≥ 0), ())
    else
      jn (fun t => B_Z38_J2 k c_Z64 c_Z42 c_Z37 c_Z59 again3 t.1.1 t.1.2.1 t.2.1 t.2.2.1) ((g_Nodes, g_Root, ()), i, false, ())
  else
    some ((true, ()), ())
def B_Z38_L3 (k : Nat) (c_Z64 : C_Z64) (c_Z42 : C_Z42) (c_Z37 : C_Z37) (c_Z59 : C_Z59) (n : Nat) (t : T_Z38_L3) : R_Z38 :=
  lfix n (fun again t => B_Z38_L3b k c_Z64 c_Z42 c_Z37 c_Z59 again t.1.1 t.1.2.1 t.2.1) t
def B_Z38_L1b (k : Nat) (c_Z64 : C_Z64) (c_Z42 : C_Z42) (c_Z37 : C_Z37) (c_Z59 : C_Z59) (again1 : T_Z38_L1 → R_Z38) (g_Nodes : List (Int × Int × List Int)) (g_Root i : Int) : R_Z38 :=
  bif decide (i < (len g_Nodes)) then
    chk (inb i g_Nodes.length) <|
    (c_Z42 g_Nodes g_Root ((rdx ((0 : Int), ((0 : Int), ([] : List Int))) g_Nodes i).1) (((rdx ((0 : Int), ((0 : Int), ([] : List Int))) g_Nodes i).2).1) (((rdx ((0 : Int), ((0 : Int), ([] : List Int))) g_Nodes i).2).2)).bind fun r33 =>
    bif (!r33.1.1) then
      some ((false, ()), ())
    else
      again1 ((g_Nodes, g_Root, ()), w64 (i + 1), ())
  else
    B_Z38_L3 k c_Z64 c_Z42 c_Z37 c_Z59 k ((g_Nodes, g_Root, ()), 0, ())
def B_Z38_L1 (k : Nat) (c_Z64 : C_Z64) (c_Z42 : C_Z42) (c_Z37 : C_Z37) (c_Z59 : C_Z59) (n : Nat) (t : T_Z38_L1) : R_Z38 :=
  lfix n (fun again t => B_Z38_L1b k c_Z64 c_Z42 c_Z37 c_Z59 again t.1.1 t.1.2.1 t.2.1) t
def B_Z38_J0 (k : Nat) (c_Z64 : C_Z64) (c_Z42 : C_Z42) (c_Z37 : C_Z37) (c_Z59 : C_Z59) (g_Nodes : List (Int × Int × List Int)) (g_Root : Int) (t19 : Bool) : R_Z38 :=
  bif t19 then
    some ((false, ()), ())
  else
    B_Z38_L1 k c_Z64 c_Z42 c_Z37 c_Z59 k ((g_Nodes, g_Root, ()), 0, ())
def B_Z38 (k : Nat) (c_Z64 : C_Z64) (c_Z42 : C_Z42) (c_Z37 : C_Z37) (c_Z59 : C_Z59) (g_0 : List (Int × Int × List Int)) (g_1 : Int) : R_Z38 :=
  (c_Z64 (len g_0) 1 12).bind fun r8 =>
  bif (!r8.1.1) then
    jn (fun t => B_Z38_J0 k c_Z64 c_Z42 c_Z37 c_Z59 t.1.1 t.1.2.1 t.2.1) ((g_0, g_1, ()), true, ())
  else
    (c_Z64 g_1 0 (w64 ((len g_0) - 1))).bind fun r17 =>
    jn (fun t => B_Z38_J0 k c_Z64 c_Z42 c_Z37 c_Z59 t.1.1 t.1.2.1 t.2.1) ((g_0, g_1, ()), (!r17.1.1), ())
def F_Z38 : Nat → C_Z38
  | 0, _, _ => none
  | k + 1, g_0, g_1 => B_Z38 k (F_Z64 k) (F_Z42 k) (F_Z37 k) (F_Z59 k) g_0 g_1
theorem tot_Z38 {g_0 g_1 : _} {Q : _ → Prop} (h : Tot (fun σ => B_Z38 (σ 0) (F_Z64 (σ 0)) (F_Z42 (σ 0)) (F_Z37 (σ 0)) (F_Z59 (σ 0)) g_0 g_1) Q) : Tot (fun σ => F_Z38 (σ 0) g_0 g_1) Q :=
  Tot.call (F := fun k => F_Z38 k g_0 g_1) (B := fun k => B_Z38 k (F_Z64 k) (F_Z42 k) (F_Z37 k) (F_Z59 k) g_0 g_1) (fun k => rfl) h
abbrev A_Z38_L3 (Z : Type) : Type := (List (Int × Int × List Int)) → Int → Int → Z
abbrev u_Z38_L3 {Z : Type} (f : A_Z38_L3 Z) (t : T_Z38_L3) : Z := f t.1.1 t.1.2.1 t.2.1
theorem loop_Z38_L3 {Q : A_Z38_L3 (((Bool × Unit) × (Unit)) → Prop)} (I : A_Z38_L3 Prop) (μ : A_Z38_L3 Nat)
    (step : ∀ a0 a1 a2, I a0 a1 a2 → ∀ again : (Nat → Nat) → T_Z38_L3 → R_Z38, Dep 2 again → (∀ y0 y1 y2, I y0 y1 y2 → μ y0 y1 y2 < μ a0 a1 a2 → Tot (fun σ => again σ ((y0, y1, ()), y2, ())) (Q y0 y1 y2)) →
      Tot (fun σ => B_Z38_L3b (σ 0) (F_Z64 (σ 0)) (F_Z42 (σ 0)) (F_Z37 (σ 0)) (F_Z59 (σ 0)) (again σ) a0 a1 a2) (Q a0 a1 a2)) :
    ∀ a0 a1 a2, I a0 a1 a2 → Tot (fun σ => B_Z38_L3 (σ 0) (F_Z64 (σ 0)) (F_Z42 (σ 0)) (F_Z37 (σ 0)) (F_Z59 (σ 0)) (σ 0) ((a0, a1, ()), a2, ())) (Q a0 a1 a2) := fun a0 a1 a2 => Tot.loop0 (L := fun k => B_Z38_L3 k (F_Z64 k) (F_Z42 k) (F_Z37 k) (F_Z59 k)) (B := fun k g => u_Z38_L3 (B_Z38_L3b k (F_Z64 k) (F_Z42 k) (F_Z37 k) (F_Z59 k) g)) (Q := u_Z38_L3 Q) (fun _ _ _ => rfl) (u_Z38_L3 I) (u_Z38_L3 μ)
    (fun t ht again hag h => step t.1.1 t.1.2.1 t.2.1 ht again hag fun y0 y1 y2 => h ((y0, y1, ()), y2, ())) ((a0, a1, ()), a2, ())
abbrev A_Z38_L1 (Z : Type) : Type := (List (Int × Int × List Int)) → Int → Int → Z
abbrev u_Z38_L1 {Z : Type} (f : A_Z38_L1 Z) (t : T_Z38_L1) : Z := f t.1.1 t.1.2.1 t.2.1
theorem loop_Z38_L1 {Q : A_Z38_L1 (((Bool × Unit) × (Unit)) → Prop)} (I : A_Z38_L1 Prop) (μ : A_Z38_L1 Nat)
    (step : ∀ a0 a1 a2, I a0 a1 a2 → ∀ again : (Nat → Nat) → T_Z38_L1 → R_Z38, Dep 2 again → (∀ y0 y1 y2, I y0 y1 y2 → μ y0 y1 y2 < μ a0 a1 a2 → Tot (fun σ => again σ ((y0, y1, ()), y2, ())) (Q y0 y1 y2)) →
      Tot (fun σ => B_Z38_L1b (σ 0) (F_Z64 (σ 0)) (F_Z42 (σ 0)) (F_Z37 (σ 0)) (F_Z59 (σ 0)) (again σ) a0 a1 a2) (Q a0 a1 a2)) :
    ∀ a0 a1 a2, I a0 a1 a2 → Tot (fun σ => B_Z38_L1 (σ 0) (F_Z64 (σ 0)) (F_Z42 (σ 0)) (F_Z37 (σ 0)) (F_Z59 (σ 0)) (σ 0) ((a0, a1, ()), a2, ())) (Q a0 a1 a2) := fun a0 a1 a2 => Tot.loop0 (L := fun k => B_Z38_L1 k (F_Z64 k) (F_Z42 k) (F_Z37 k) (F_Z59 k)) (B := fun k g => u_Z38_L1 (B_Z38_L1b k (F_Z64 k) (F_Z42 k) (F_Z37 k) (F_Z59 k) g)) (Q := u_Z38_L1 Q) (fun _ _ _ => rfl) (u_Z38_L1 I) (u_Z38_L1 μ)
    (fun t ht again hag h => step t.1.1 t.1.2.1 t.2.1 ht again hag fun y0 y1 y2 => h ((y0, y1, ()), y2, ())) ((a0, a1, ()), a2, ())
abbrev R_Z63 : Type := Option ((((List (Int × Int × Option (List Int))) × Int × Unit) × Unit) × ((List Int × Int × Unit) × Unit))
abbrev C_Z63 : Type := List Int → Int → (List (Int × Int × Option (List Int))) → Int → Int → R_Z63
abbrev T_Z63_L3 : Type := (List Int × Int × Unit) × Int × ((List (Int × Int × Option (List Int))) × Int × Unit) × (Unit × Int × Unit) × (Int × Int × List Int × Unit) × Int × Unit
def B_Z63_J2 (k : Nat) (c_Z34 : C_Z34) (c_Z29 : C_Z29) (c_s_isKey : C_s_isKey) (c_Z38 : C_Z38) (again3 : T_Z63_L3 → R_Z63) (r_b : List Int) (r_p at2 : Int) (g_Nodes : List (Int × Int × Option (List Int))) (g_Root t6_Root n_Kind n_Value : Int) (n_Kids : List Int) (k8 : Int) : R_Z63 :=
  again3 ((r_b, r_p, ()), at2, (g_Nodes, g_Root, ()), ((), t6_Root, ()), (n_Kind, n_Value, n_Kids, ()), w64 (k8 - 1), ())
def B_Z63_J1 (k : Nat) (c_Z34 : C_Z34) (c_Z29 : C_Z29) (c_s_isKey : C_s_isKey) (c_Z38 : C_Z38) (again3 : T_Z63_L3 → R_Z63) (r_b : List Int) (r_p at2 : Int) (g_Nodes : List (Int × Int × Option (List Int))) (g_Root t6_Root n_Kind n_Value : Int) (n_Kids : List Int) (k8 kid : Int) (t57 : Bool) : R_Z63 :=
  bif t57 then
    (c_Z29 r_b r_p (len g_Nodes)).bind fun r65 =>
    chk (room n_Kids.length ([kid, r65.1.1]).length) <|
    jn (fun t => B_Z63_J2 k c_Z34 c_Z29 c_s_isKey c_Z38 again3 t.1.1 t.1.2.1 t.2.1 t.2.2.1.1 t.2.2.1.2.1 t.2.2.2.1.2.1 t.2.2.2.2.1.1 t.2.2.2.2.1.2.1 t.2.2.2.2.1.2.2.1 t.2.2.2.2.2.1) ((r65.2.1.1, r65.2.1.2.1, ()), at2, (g_Nodes, g_Root, ()), ((), t6_Root, ()), (n_Kind, n_Value, (n_Kids ++ [kid, r65.1.1]), ()), k8, ())
  else
    jn (fun t => B_Z63_J2 k c_Z34 c_Z29 c_s_isKey c_Z38 again3 t.1.1 t.1.2.1 t.2.1 t.2.2.1.1 t.2.2.1.2.1 t.2.2.2.1.2.1 t.2.2.2.2.1.1 t.2.2.2.2.1.2.1 t.2.2.2.2.1.2.2.1 t.2.2.2.2.2.1) ((r_b, r_p, ()), at2, (g_Nodes, g_Root, ()), ((), t6_Root, ()), (n_Kind, n_Value, n_Kids, ()), k8, ())
def B_Z63_J0 (k : Nat) (c_Z34 : C_Z34) (c_Z29 : C_Z29) (c_s_isKey : C_s_isKey) (c_Z38 : C_Z38) (again3 : T_Z63_L3 → R_Z63) (r_b : List Int) (r_p at2 : Int) (g_Nodes : List (Int × Int × Option (List Int))) (g_Root t6_Root n_Kind n_Value : Int) (n_Kids : List Int) (k8 kid t29 : Int) (t30 : Bool) : R_Z63 :=
  bif t30 then
    chk (room n_Kids.length ([kid]).length) <|
    jn (fun t => B_Z63_J2 k c_Z34 c_Z29 c_s_isKey c_Z38 again3 t.1.1 t.1.2.1 t.2.1 t.2.2.1.1 t.2.2.1.2.1 t.2.2.2.1.2.1 t.2.2.2.2.1.1 t.2.2.2.2.1.2.1 t.2.2.2.2.1.2.2.1 t.2.2.2.2.2.1) ((r_b, r_p, ()), at2, (g_Nodes, g_Root, ()), ((), t6_Root, ()), (n_Kind, n_Value, (n_Kids ++ [kid]), ()), k8, ())
  else
    bif (t29 == 5) then
      jn (fun t => B_Z63_J2 k c_Z34 c_Z29 c_s_isKey c_Z38 again3 t.1.1 t.1.2.1 t.2.1 t.2.2.1.1 t.2.2.1.2.1 t.2.2.2.1.2.1 t.2.2.2.2.1.1 t.2.2.2.2.1.2.1 t.2.2.2.2.1.2.2.1 t.2.2.2.2.2.1) ((r_b, r_p, ()), at2, (g_Nodes, g_Root, ()), ((), t6_Root, ()), (n_Kind, n_Value, [kid], ()), k8, ())
    else
      bif (t29 == 4) then
        bif decide ((len n_Kids) < 6) then
          chk (inb kid g_Nodes.length) <|
          chk (decide (kid.toNat < g_Nodes.length)) <|
          (c_s_isKey ((g_Nodes.getD kid.toNat ((0 : Int), ((0 : Int), (none : Option (List Int))))).1) (((g_Nodes.getD kid.toNat ((0 : Int), ((0 : Int), (none : Option (List Int))))).2).1)).bind fun r56 =>
          jn (fun t => B_Z63_J1 k c_Z34 c_Z29 c_s_isKey c_Z38 again3 t.1.1 t.1.2.1 t.2.1 t.2.2.1.1 t.2.2.1.2.1 t.2.2.2.1.2.1 t.2.2.2.2.1.1 t.2.2.2.2.1.2.1 t.2.2.2.2.1.2.2.1 t.2.2.2.2.2.1 t.2.2.2.2.2.2.1 t.2.2.2.2.2.2.2.1) ((r_b, r_p, ()), at2, (g_Nodes, g_Root, ()), ((), t6_Root, ()), (n_Kind, n_Value, n_Kids, ()), k8, kid, r56.1.1, ())
        else
          jn (fun t => B_Z63_J1 k c_Z34 c_Z29 c_s_isKey c_Z38 again3 t.1.1 t.1.2.1 t.2.1 t.2.2.1.1 t.2.2.1.2.1 t.2.2.2.1.2.1 t.2.2.2.2.1.1 t.2.2.2.2.1.2.1 t.2.2.2.2.1.2.2.1 t.2.2.2.2.2.1 t.2.2.2.2.2.2.1 t.2.2.2.2.2.2.2.1) ((r_b, r_p, ()), at2, (g_Nodes, g_Root, ()), ((), t6_Root, ()), (n_Kind, n_Value, n_Kids, ()), k8, kid, false, ())
      else
        jn (fun t => B_Z63_J2 k c_Z34 c_Z29 c_s_isKey c_Z38 again3 t.1.1 t.1.2.1 t.2.1 t.2.2.1.1 t.2.2.1.2.1 t.2.2.2.1.2.1 t.2.2.2.2.1.1 t.2.2.2.2.1.2.1 t.2.2.2.2.1.2.2.1 t.2.2.2.2.2.1) ((r_b, r_p, ()), at2, (g_Nodes, g_Root, ()), ((), t6_Root, ()), (n_Kind, n_Value, n_Kids, ()), k8, ())
def B_Z63_J4 (k : Nat) (c_Z34 : C_Z34) (c_Z29 : C_Z29) (c_s_isKey : C_s_isKey) (c_Z38 : C_Z38) (r_b : List Int) (r_p : Int) (g_Nodes : List (Int × Int × Option (List Int))) (g_Root t6_Root : Int) : R_Z63 :=
  some (((g_Nodes, g_Root, ()), ()), ((r_b, r_p, ()), ()))
def B_Z63_L3b (k : Nat) (c_Z34 : C_Z34) (c_Z29 : C_Z29) (c_s_isKey : C_s_isKey) (c_Z38 : C_Z38) (again3 : T_Z63_L3 → R_Z63) (r_b : List Int) (r_p at2 : Int) (g_Nodes : List (Int × Int × Option (List Int))) (g_Root t6_Root n_Kind n_Value : Int) (n_Kids : List Int) (k8 : Int) : R_Z63 :=
  bif decide (k8 > 0) then
    (c_Z29 r_b r_p (len g_Nodes)).bind fun r27 =>
    bif (n_Kind == 2) then
      jn (fun t => B_Z63_J0 k c_Z34 c_Z29 c_s_isKey c_Z38 again3 t.1.1 t.1.2.1 t.2.1 t.2.2.1.1 t.2.2.1.2.1 t.2.2.2.1.2.1 t.2.2.2.2.1.1 t.2.2.2.2.1.2.1 t.2.2.2.2.1.2.2.1 t.2.2.2.2.2.1 t.2.2.2.2.2.2.1 t.2.2.2.2.2.2.2.1 t.2.2.2.2.2.2.2.2.1) ((r27.2.1.1, r27.2.1.2.1, ()), at2, (g_Nodes, g_Root, ()), ((), t6_Root, ()), (n_Kind, n_Value, n_Kids, ()), k8, r27.1.1, n_Kind, (n_Kind == 2), ())
    else
      jn (fun t => B_Z63_J0 k c_Z34 c_Z29 c_s_isKey c_Z38 again3 t.1.1 t.1.2.1 t.2.1 t.2.2.1.1 t.2.2.1.2.1 t.2.2.2.1.2.1 t.2.2.2.2.1.1 t.2.2.2.2.1.2.1 t.2.2.2.2.1.2.2.1 t.2.2.2.2.2.1 t.2.2.2.2.2.2.1 t.2.2.2.2.2.2.2.1 t.2.2.2.2.2.2.2.2.1) ((r27.2.1.1, r27.2.1.2.1, ()), at2, (g_Nodes, g_Root, ()), ((), t6_Root, ()), (n_Kind, n_Value, n_Kids, ()), k8, r27.1.1, n_Kind, (n_Kind == 3), ())
  else
    chk (inb at2 g_Nodes.length) <|
    chk (decide (at2.toNat < g_Nodes.length)) <|
    chk (inb at2 g_Nodes.length) <|
    chk (decide (at2.toNat < g_Nodes.length)) <|
    (c_Z38 ((g_Nodes.set at2.toNat (n_Kind, (n_Value, (some n_Kids)))).map (fun p => (p.1, (p.2.1, p.2.2.getD [])))) g_Root).bind fun r80 =>
    bif (!r80.1.1) then
      chk (inb at2 (g_Nodes.set at2.toNat (n_Kind, (n_Value, (some n_Kids)))).length) <|
      chk (decide (at2.toNat < (g_Nodes.set at2.toNat (n_Kind, (n_Value, (some n_Kids)))).length)) <|
      chk ((((g_Nodes.getD at2.toNat ((0 : Int), ((0 : Int), (none : Option (List Int))))).2).2).isNone) <|
      let w1 : List (Int × Int × Option (List Int)) := ((g_Nodes.set at2.toNat (n_Kind, (n_Value, (some n_Kids)))).set at2.toNat ((g_Nodes.getD at2.toNat ((0 : Int), ((0 : Int), (none : Option (List Int))))).1, (((g_Nodes.getD at2.toNat ((0 : Int), ((0 : Int), (none : Option (List Int))))).2).1, (none : Option (List Int)))))
      jn (fun t => B_Z63_J4 k c_Z34 c_Z29 c_s_isKey c_Z38 t.1.1 t.1.2.1 t.2.1.1 t.2.1.2.1 t.2.2.1.2.1) ((r_b, r_p, ()), (w1, g_Root, ()), ((), t6_Root, ()), ())
    else
      jn (fun t => B_Z63_J4 k c_Z34 c_Z29 c_s_isKey c_Z38 t.1.1 t.1.2.1 t.2.1.1 t.2.1.2.1 t.2.2.1.2.1) ((r_b, r_p, ()), ((g_Nodes.set at2.toNat (n_Kind, (n_Value, (some n_Kids)))), g_Root, ()), ((), t6_Root, ()), ())
def B_Z63_L3 (k : Nat) (c_Z34 : C_Z34) (c_Z29 : C_Z29) (c_s_isKey : C_s_isKey) (c_Z38 : C_Z38) (n : Nat) (t : T_Z63_L3) : R_Z63 :=
  lfix n (fun again t => B_Z63_L3b k c_Z34 c_Z29 c_s_isKey c_Z38 again t.1.1 t.1.2.1 t.2.1 t.2.2.1.1 t.2.2.1.2.1 t.2.2.2.1.2.1 t.2.2.2.2.1.1 t.2.2.2.2.1.2.1 t.2.2.2.2.1.2.2.1 t.2.2.2.2.2.1) t
def B_Z63 (k : Nat) (c_Z34 : C_Z34) (c_Z29 : C_Z29) (c_s_isKey : C_s_isKey) (c_Z38 : C_Z38) (r_b : List Int) (r_p : Int) (g_0 : List (Int × Int × Option (List Int))) (g_1 at2 : Int) : R_Z63 :=
  chk (inb at2 g_0.length) <|
  chk (decide (at2.toNat < g_0.length)) <|
  (c_Z34 r_b r_p ([2, 1, 3, 0, 4])).bind fun r18 =>
  chk ((((g_0.getD at2.toNat ((0 : Int), ((0 : Int), (none : Option (List Int))))).2).2).isNone) <|
  B_Z63_L3 k c_Z34 c_Z29 c_s_isKey c_Z38 k ((r18.2.1.1, r18.2.1.2.1, ()), at2, (g_0, g_1, ()), ((), 0, ()), ((g_0.getD at2.toNat ((0 : Int), ((0 : Int), (none : Option (List Int))))).1, ((g_0.getD at2.toNat ((0 : Int), ((0 : Int), (none : Option (List Int))))).2).1, [], ()), r18.1.1, ())
def F_Z63 : Nat → C_Z63
  | 0, _, _, _, _, _ => none
  | k + 1, r_b, r_p, g_0, g_1, at2 => B_Z63 k (F_Z34 k) (F_Z29 k) (F_s_isKey k) (F_Z38 k) r_b r_p g_0 g_1 at2
theorem tot_Z63 {r_b r_p g_0 g_1 at2 : _} {Q : _ → Prop} (h : Tot (fun σ => B_Z63 (σ 0) (F_Z34 (σ 0)) (F_Z29 (σ 0)) (F_s_isKey (σ 0)) (F_Z38 (σ 0)) r_b r_p g_0 g_1 at2) Q) : Tot (fun σ => F_Z63 (σ 0) r_b r_p g_0 g_1 at2) Q :=
  Tot.call (F := fun k => F_Z63 k r_b r_p g_0 g_1 at2) (B := fun k => B_Z63 k (F_Z34 k) (F_Z29 k) (F_s_isKey k) (F_Z38 k) r_b r_p g_0 g_1 at2) (fun k => rfl) h
abbrev A_Z63_L3 (Z : Type) : Type := List Int → Int → Int → (List (Int × Int × Option (List Int))) → Int → Int → Int → Int → List Int → Int → Z
abbrev u_Z63_L3 {Z : Type} (f : A_Z63_L3 Z) (t : T_Z63_L3) : Z := f t.1.1 t.1.2.1 t.2.1 t.2.2.1.1 t.2.2.1.2.1 t.2.2.2.1.2.1 t.2.2.2.2.1.1 t.2.2.2.2.1.2.1 t.2.2.2.2.1.2.2.1 t.2.2.2.2.2.1
theorem loop_Z63_L3 {Q : A_Z63_L3 (((((List (Int × Int × Option (List Int))) × Int × Unit) × Unit) × ((List Int × Int × Unit) × Unit)) → Prop)} (I : A_Z63_L3 Prop) (μ : A_Z63_L3 Nat)
    (step : ∀ a0 a1 a2 a3 a4 a5 a6 a7 a8 a9, I a0 a1 a2 a3 a4 a5 a6 a7 a8 a9 → ∀ again : (Nat → Nat) → T_Z63_L3 → R_Z63, Dep 2 again → (∀ y0 y1 y2 y3 y4 y5 y6 y7 y8 y9, I y0 y1 y2 y3 y4 y5 y6 y7 y8 y9 → μ y0 y1 y2 y3 y4 y5 y6 y7 y8 y9 < μ a0 a1 a2 a3 a4 a5 a6 a7 a8 a9 → Tot (fun σ => again σ ((y0, y1, ()), y2, (y3, y4, ()), ((), y5, ()), (y6, y7, y8, ()), y9, ())) (Q y0 y1 y2 y3 y4 y5 y6 y7 y8 y9)) →
      Tot (fun σ => B_Z63_L3b (σ 0) (F_Z34 (σ 0)) (F_Z29 (σ 0)) (F_s_isKey (σ 0)) (F_Z38 (σ 0)) (again σ) a0 a1 a2 a3 a4 a5 a6 a7 a8 a9) (Q a0 a1 a2 a3 a4 a5 a6 a7 a8 a9)) :
    ∀ a0 a1 a2 a3 a4 a5 a6 a7 a8 a9, I a0 a1 a2 a3 a4 a5 a6 a7 a8 a9 → Tot (fun σ => B_Z63_L3 (σ 0) (F_Z34 (σ 0)) (F_Z29 (σ 0)) (F_s_isKey (σ 0)) (F_Z38 (σ 0)) (σ 0) ((a0, a1, ()), a2, (a3, a4, ()), ((), a5, ()), (a6, a7, a8, ()), a9, ())) (Q a0 a1 a2 a3 a4 a5 a6 a7 a8 a9) := fun a0 a1 a2 a3 a4 a5 a6 a7 a8 a9 => Tot.loop0 (L := fun k => B_Z63_L3 k (F_Z34 k) (F_Z29 k) (F_s_isKey k) (F_Z38 k)) (B := fun k g => u_Z63_L3 (B_Z63_L3b k (F_Z34 k) (F_Z29 k) (F_s_isKey k) (F_Z38 k) g)) (Q := u_Z63_L3 Q) (fun _ _ _ => rfl) (u_Z63_L3 I) (u_Z63_L3 μ)
    (fun t ht again hag h => step t.1.1 t.1.2.1 t.2.1 t.2.2.1.1 t.2.2.1.2.1 t.2.2.2.1.2.1 t.2.2.2.2.1.1 t.2.2.2.2.1.2.1 t.2.2.2.2.1.2.2.1 t.2.2.2.2.2.1 ht again hag fun y0 y1 y2 y3 y4 y5 y6 y7 y8 y9 => h ((y0, y1, ()), y2, (y3, y4, ()), ((), y5, ()), (y6, y7, y8, ()), y9, ())) ((a0, a1, ()), a2, (a3, a4, ()), ((), a5, ()), (a6, a7, a8, ()), a9, ())
abbrev R_Z41 : Type := Option ((((List (Int × Int × List Int)) × Int × Unit) × Unit) × ((List Int × Int × Unit) × Unit))
abbrev C_Z41 : Type := List Int → Int → R_Z41
abbrev T_Z41_L1 : Type := (List Int × Int × Unit) × (Unit × Int × Unit) × ((List (Int × Int × Option (List Int))) × Int × Unit) × Int × Unit
abbrev T_Z41_L0 : Type := (List Int × Int × Unit) × (Unit × Int × Unit) × ((List (Int × Int × Option (List Int))) × Int × Unit) × Int × Unit
def B_Z41_J2 (k : Nat) (c_Z34 : C_Z34) (c_Z57 : C_Z57) (c_Z63 : C_Z63) (c_Z29 : C_Z29) (r_b : List Int) (r_p t2_Root : Int) (g_Nodes : List (Int × Int × Option (List Int))) (g_Root : Int) : R_Z41 :=
  some ((((g_Nodes.map (fun p => (p.1, (p.2.1, p.2.2.getD [])))), g_Root, ()), ()), ((r_b, r_p, ()), ()))
def B_Z41_L1b (k : Nat) (c_Z34 : C_Z34) (c_Z57 : C_Z57) (c_Z63 : C_Z63) (c_Z29 : C_Z29) (again1 : T_Z41_L1 → R_Z41) (r_b : List Int) (r_p t2_Root : Int) (g_Nodes : List (Int × Int × Option (List Int))) (g_Root i : Int) : R_Z41 :=
  bif decide (i < (len g_Nodes)) then
    (c_Z63 r_b r_p g_Nodes g_Root i).bind fun r36 =>
    again1 ((r36.2.1.1, r36.2.1.2.1, ()), ((), t2_Root, ()), (r36.1.1.1, r36.1.1.2.1, ()), w64 (i + 1), ())
  else
    (c_Z29 r_b r_p 3).bind fun r38 =>
    bif (r38.1.1 == 0) then
      (c_Z29 r38.2.1.1 r38.2.1.2.1 (len g_Nodes)).bind fun r44 =>
      jn (fun t => B_Z41_J2 k c_Z34 c_Z57 c_Z63 c_Z29 t.1.1 t.1.2.1 t.2.1.2.1 t.2.2.1.1 t.2.2.1.2.1) ((r44.2.1.1, r44.2.1.2.1, ()), ((), t2_Root, ()), (g_Nodes, r44.1.1, ()), ())
    else
      jn (fun t => B_Z41_J2 k c_Z34 c_Z57 c_Z63 c_Z29 t.1.1 t.1.2.1 t.2.1.2.1 t.2.2.1.1 t.2.2.1.2.1) ((r38.2.1.1, r38.2.1.2.1, ()), ((), t2_Root, ()), (g_Nodes, g_Root, ()), ())
def B_Z41_L1 (k : Nat) (c_Z34 : C_Z34) (c_Z57 : C_Z57) (c_Z63 : C_Z63) (c_Z29 : C_Z29) (n : Nat) (t : T_Z41_L1) : R_Z41 :=
  lfix n (fun again t => B_Z41_L1b k c_Z34 c_Z57 c_Z63 c_Z29 again t.1.1 t.1.2.1 t.2.1.2.1 t.2.2.1.1 t.2.2.1.2.1 t.2.2.2.1) t
def B_Z41_L0b (k : Nat) (c_Z34 : C_Z34) (c_Z57 : C_Z57) (c_Z63 : C_Z63) (c_Z29 : C_Z29) (again0 : T_Z41_L0 → R_Z41) (r_b : List Int) (r_p t2_Root : Int) (g_Nodes : List (Int × Int × Option (List Int))) (g_Root n4 : Int) : R_Z41 :=
  bif decide (n4 > 0) then
    (c_Z57 r_b r_p).bind fun r17 =>
    chk (room g_Nodes.length ([(r17.1.1.1, (r17.1.1.2.1, (none : Option (List Int))))]).length) <|
    again0 ((r17.2.1.1, r17.2.1.2.1, ()), ((), t2_Root, ()), ((g_Nodes ++ [(r17.1.1.1, (r17.1.1.2.1, (none : Option (List Int))))]), g_Root, ()), w64 (n4 - 1), ())
  else
    B_Z41_L1 k c_Z34 c_Z57 c_Z63 c_Z29 k ((r_b, r_p, ()), ((), t2_Root, ()), (g_Nodes, w64 ((len g_Nodes) - 1), ()), 0, ())
def B_Z41_L0 (k : Nat) (c_Z34 : C_Z34) (c_Z57 : C_Z57) (c_Z63 : C_Z63) (c_Z29 : C_Z29) (n : Nat) (t : T_Z41_L0) : R_Z41 :=
  lfix n (fun again t => B_Z41_L0b k c_Z34 c_Z57 c_Z63 c_Z29 again t.1.1 t.1.2.1 t.2.1.2.1 t.2.2.1.1 t.2.2.1.2.1 t.2.2.2.1) t
def B_Z41 (k : Nat) (c_Z34 : C_Z34) (c_Z57 : C_Z57) (c_Z63 : C_Z63) (c_Z29 : C_Z29) (r_b : List Int) (r_p : Int) : R_Z41 :=
  (c_Z34 r_b r_p ([5, 6, 4, 7, 3, 8, 1, 2, 10])).bind fun r9 =>
  B_Z41_L0 k c_Z34 c_Z57 c_Z63 c_Z29 k ((r9.2.1.1, r9.2.1.2.1, ()), ((), 0, ()), ([], 0, ()), r9.1.1, ())
def F_Z41 : Nat → C_Z41
  | 0, _, _ => none
  | k + 1, r_b, r_p => B_Z41 k (F_Z34 k) (F_Z57 k) (F_Z63 k) (F_Z29 k) r_b r_p
theorem tot_Z41 {r_b r_p : _} {Q : _ → Prop} (h : Tot (fun σ => B_Z41 (σ 0) (F_Z34 (σ 0)) (F_Z57 (σ 0)) (F_Z63 (σ 0)) (F_Z29 (σ 0)) r_b r_p) Q) : Tot (fun σ => F_Z41 (σ 0) r_b r_p) Q :=
  Tot.call (F := fun k => F_Z41 k r_b r_p) (B := fun k => B_Z41 k (F_Z34 k) (F_Z57 k) (F_Z63 k) (F_Z29 k) r_b r_p) (fun k => rfl) h
abbrev A_Z41_L1 (Z : Type) : Type := List Int → Int → Int → (List (Int × Int × Option (List Int))) → Int → Int → Z
abbrev u_Z41_L1 {Z : Type} (f : A_Z41_L1 Z) (t : T_Z41_L1) : Z := f t.1.1 t.1.2.1 t.2.1.2.1 t.2.2.1.1 t.2.2.1.2.1 t.2.2.2.1
theorem loop_Z41_L1 {Q : A_Z41_L1 (((((List (Int × Int × List Int)) × Int × Unit) × Unit) × ((List Int × Int × Unit) × Unit)) → Prop)} (I : A_Z41_L1 Prop) (μ : A_Z41_L1 Nat)
    (step : ∀ a0 a1 a2 a3 a4 a5, I a0 a1 a2 a3 a4 a5 → ∀ again : (Nat → Nat) → T_Z41_L1 → R_Z41, Dep 2 again → (∀ y0 y1 y2 y3 y4 y5, I y0 y1 y2 y3 y4 y5 → μ y0 y1 y2 y3 y4 y5 < μ a0 a1 a2 a3 a4 a5 → Tot (fun σ => again σ ((y0, y1, ()), ((), y2, ()), (y3, y4, ()), y5, ())) (Q y0 y1 y2 y3 y4 y5)) →
      Tot (fun σ => B_Z41_L1b (σ 0) (F_Z34 (σ 0)) (F_Z57 (σ 0)) (F_Z63 (σ 0)) (F_Z29 (σ 0)) (again σ) a0 a1 a2 a3 a4 a5) (Q a0 a1 a2 a3 a4 a5)) :
    ∀ a0 a1 a2 a3 a4 a5, I a0 a1 a2 a3 a4 a5 → Tot (fun σ => B_Z41_L1 (σ 0) (F_Z34 (σ 0)) (F_Z57 (σ 0)) (F_Z63 (σ 0)) (F_Z29 (σ 0)) (σ 0) ((a0, a1, ()), ((), a2, ()), (a3, a4, ()), a5, ())) (Q a0 a1 a2 a3 a4 a5) := fun a0 a1 a2 a3 a4 a5 => Tot.loop0 (L := fun k => B_Z41_L1 k (F_Z34 k) (F_Z57 k) (F_Z63 k) (F_Z29 k)) (B := fun k g => u_Z41_L1 (B_Z41_L1b k (F_Z34 k) (F_Z57 k) (F_Z63 k) (F_Z29 k) g)) (Q := u_Z41_L1 Q) (fun _ _ _ => rfl) (u_Z41_L1 I) (u_Z41_L1 μ)
    (fun t ht again hag h => step t.1.1 t.1.2.1 t.2.1.2.1 t.2.2.1.1 t.2.2.1.2.1 t.2.2.2.1 ht again hag fun y0 y1 y2 y3 y4 y5 => h ((y0, y1, ()), ((), y2, ()), (y3, y4, ()), y5, ())) ((a0, a1, ()), ((), a2, ()), (a3, a4, ()), a5, ())
abbrev A_Z41_L0 (Z : Type) : Type := List Int → Int → Int → (List (Int × Int × Option (List Int))) → Int → Int → Z
abbrev u_Z41_L0 {Z : Type} (f : A_Z41_L0 Z) (t : T_Z41_L0) : Z := f t.1.1 t.1.2.1 t.2.1.2.1 t.2.2.1.1 t.2.2.1.2.1 t.2.2.2.1
theorem loop_Z41_L0 {Q : A_Z41_L0 (((((List (Int × Int × List Int)) × Int × Unit) × Unit) × ((List Int × Int × Unit) × Unit)) → Prop)} (I : A_Z41_L0 Prop) (μ : A_Z41_L0 Nat)
    (step : ∀ a0 a1 a2 a3 a4 a5, I a0 a1 a2 a3 a4 a5 → ∀ again : (Nat → Nat) → T_Z41_L0 → R_Z41, Dep 2 again → (∀ y0 y1 y2 y3 y4 y5, I y0 y1 y2 y3 y4 y5 → μ y0 y1 y2 y3 y4 y5 < μ a0 a1 a2 a3 a4 a5 → Tot (fun σ => again σ ((y0, y1, ()), ((), y2, ()), (y3, y4, ()), y5, ())) (Q y0 y1 y2 y3 y4 y5)) →
      Tot (fun σ => B_Z41_L0b (σ 0) (F_Z34 (σ 0)) (F_Z57 (σ 0)) (F_Z63 (σ 0)) (F_Z29 (σ 0)) (again σ) a0 a1 a2 a3 a4 a5) (Q a0 a1 a2 a3 a4 a5)) :
    ∀ a0 a1 a2 a3 a4 a5, I a0 a1 a2 a3 a4 a5 → Tot (fun σ => B_Z41_L0 (σ 0) (F_Z34 (σ 0)) (F_Z57 (σ 0)) (F_Z63 (σ 0)) (F_Z29 (σ 0)) (σ 0) ((a0, a1, ()), ((), a2, ()), (a3, a4, ()), a5, ())) (Q a0 a1 a2 a3 a4 a5) := fun a0 a1 a2 a3 a4 a5 => Tot.loop0 (L := fun k => B_Z41_L0 k (F_Z34 k) (F_Z57 k) (F_Z63 k) (F_Z29 k)) (B := fun k g => u_Z41_L0 (B_Z41_L0b k (F_Z34 k) (F_Z57 k) (F_Z63 k) (F_Z29 k) g)) (Q := u_Z41_L0 Q) (fun _ _ _ => rfl) (u_Z41_L0 I) (u_Z41_L0 μ)
    (fun t ht again hag h => step t.1.1 t.1.2.1 t.2.1.2.1 t.2.2.1.1 t.2.2.1.2.1 t.2.2.2.1 ht again hag fun y0 y1 y2 y3 y4 y5 => h ((y0, y1, ()), ((), y2, ()), (y3, y4, ()), y5, ())) ((a0, a1, ()), ((), a2, ()), (a3, a4, ()), a5, ())
abbrev R_Z51 : Type := Option ((((List (Int × Int × List Int)) × Int × Unit) × Unit) × ((List Int × Int × Unit) × Unit))
abbrev C_Z51 : Type := List Int → Int → R_Z51
def B_Z51_J0 (k : Nat) (c_Z41 : C_Z41) (c_Z29 : C_Z29) (c_Z34 : C_Z34) (r_b : List Int) (r_p t2_Root : Int) (g_Nodes : List (Int × Int × List Int)) (g_Root : Int) : R_Z51 :=
  some (((g_Nodes, g_Root, ()), ()), ((r_b, r_p, ()), ()))
def B_Z51 (k : Nat) (c_Z41 : C_Z41) (c_Z29 : C_Z29) (c_Z34 : C_Z34) (r_b : List Int) (r_p : Int) : R_Z51 :=
  (c_Z41 r_b r_p).bind fun r6 =>
  (c_Z29 r6.2.1.1 r6.2.1.2.1 (len r6.1.1.1)).bind fun r11 =>
  (c_Z29 r11.2.1.1 r11.2.1.2.1 20).bind fun r13 =>
  bif (r13.1.1 == 0) then
    chk (inb r11.1.1 r6.1.1.1.length) <|
    chk (decide (r11.1.1.toNat < r6.1.1.1.length)) <|
    (c_Z34 r13.2.1.1 r13.2.1.2.1 ([(-1), len r6.1.1.1])).bind fun r30 =>
    chk (room (((r6.1.1.1.getD r11.1.1.toNat ((0 : Int), ((0 : Int), ([] : List Int)))).2).2).length ([r30.1.1]).length) <|
    chk (inb r11.1.1 r6.1.1.1.length) <|
    chk (decide (r11.1.1.toNat = r11.1.1.toNat)) <|
    let w3 : List (Int × Int × List Int) := (r6.1.1.1.set r11.1.1.toNat ((r6.1.1.1.getD r11.1.1.toNat ((0 : Int), ((0 : Int), ([] : List Int)))).1, (((r6.1.1.1.getD r11.1.1.toNat ((0 : Int), ((0 : Int), ([] : List Int)))).2).1, (((r6.1.1.1.getD r11.1.1.toNat ((0 : Int), ((0 : Int), ([] : List Int)))).2).2 ++ [r30.1.1]))))
    jn (fun t => B_Z51_J0 k c_Z41 c_Z29 c_Z34 t.1.1 t.1.2.1 t.2.1.2.1 t.2.2.1.1 t.2.2.1.2.1) ((r30.2.1.1, r30.2.1.2.1, ()), ((), 0, ()), (w3, r6.1.1.2.1, ()), ())
  else
    bif (r13.1.1 == 1) then
      (c_Z34 r13.2.1.1 r13.2.1.2.1 ([(-1), 6, 4])).bind fun r42 =>
      chk (inb r11.1.1 r6.1.1.1.length) <|
      chk (decide (r11.1.1.toNat < r6.1.1.1.length)) <|
      jn (fun t => B_Z51_J0 k c_Z41 c_Z29 c_Z34 t.1.1 t.1.2.1 t.2.1.2.1 t.2.2.1.1 t.2.2.1.2.1) ((r42.2.1.1, r42.2.1.2.1, ()), ((), 0, ()), ((r6.1.1.1.set r11.1.1.toNat (r42.1.1, (r6.1.1.1.getD r11.1.1.toNat ((0 : Int), ((0 : Int), ([] : List Int)))).2)), r6.1.1.2.1, ()), ())
    else
      bif (r13.1.1 == 2) then
        chk (inb r11.1.1 r6.1.1.1.length) <|
        chk (decide (r11.1.1.toNat < r6.1.1.1.length)) <|
        jn (fun t => B_Z51_J0 k c_Z41 c_Z29 c_Z34 t.1.1 t.1.2.1 t.2.1.2.1 t.2.2.1.1 t.2.2.1.2.1) ((r13.2.1.1, r13.2.1.2.1, ()), ((), 0, ()), ((r6.1.1.1.set r11.1.1.toNat (2, (0, [r11.1.1]))), r6.1.1.2.1, ()), ())
      else
        bif (r13.1.1 == 3) then
          (c_Z34 r13.2.1.1 r13.2.1.2.1 ([(-1), len r6.1.1.1])).bind fun r61 =>
          jn (fun t => B_Z51_J0 k c_Z41 c_Z29 c_Z34 t.1.1 t.1.2.1 t.2.1.2.1 t.2.2.1.1 t.2.2.1.2.1) ((r61.2.1.1, r61.2.1.2.1, ()), ((), 0, ()), (r6.1.1.1, r61.1.1, ()), ())
        else
          jn (fun t => B_Z51_J0 k c_Z41 c_Z29 c_Z34 t.1.1 t.1.2.1 t.2.1.2.1 t.2.2.1.1 t.2.2.1.2.1) ((r13.2.1.1, r13.2.1.2.1, ()), ((), 0, ()), (r6.1.1.1, r6.1.1.2.1, ()), ())
def F_Z51 : Nat → C_Z51
  | 0, _, _ => none
  | k + 1, r_b, r_p => B_Z51 k (F_Z41 k) (F_Z29 k) (F_Z34 k) r_b r_p
theorem tot_Z51 {r_b r_p : _} {Q : _ → Prop} (h : Tot (fun σ => B_Z51 (σ 0) (F_Z41 (σ 0)) (F_Z29 (σ 0)) (F_Z34 (σ 0)) r_b r_p) Q) : Tot (fun σ => F_Z51 (σ 0) r_b r_p) Q :=
  Tot.call (F := fun k => F_Z51 k r_b r_p) (B := fun k => B_Z51 k (F_Z41 k) (F_Z29 k) (F_Z34 k) r_b r_p) (fun k => rfl) h
abbrev R_Z22 : Type := Option ((((List (Int × Int × List Int)) × Int × Unit) × Unit) × (Unit))
abbrev C_Z22 : Type := List Int → R_Z22
def B_Z22 (k : Nat) (c_Z46 : C_Z46) (c_Z29 : C_Z29) (c_Z47 : C_Z47) (c_Z51 : C_Z51) (code : List Int) : R_Z22 :=
  (c_Z46 code).bind fun r5 =>
  (c_Z29 r5.1.1.1 r5.1.1.2.1 4).bind fun r7 =>
  bif (r7.1.1 == 0) then
    (c_Z29 r7.2.1.1 r7.2.1.2.1 4).bind fun r10 =>
    (c_Z47 r10.1.1).bind fun r11 =>
    some (((r11.1.1.1, r11.1.1.2.1, ()), ()), ())
  else
    (c_Z51 r7.2.1.1 r7.2.1.2.1).bind fun r13 =>
    some (((r13.1.1.1, r13.1.1.2.1, ()), ()), ())
def F_Z22 : Nat → C_Z22
  | 0, _ => none
  | k + 1, code => B_Z22 k (F_Z46 k) (F_Z29 k) (F_Z47 k) (F_Z51 k) code
theorem tot_Z22 {code : _} {Q : _ → Prop} (h : Tot (fun σ => B_Z22 (σ 0) (F_Z46 (σ 0)) (F_Z29 (σ 0)) (F_Z47 (σ 0)) (F_Z51 (σ 0)) code) Q) : Tot (fun σ => F_Z22 (σ 0) code) Q :=
  Tot.call (F := fun k => F_Z22 k code) (B := fun k => B_Z22 k (F_Z46 k) (F_Z29 k) (F_Z47 k) (F_Z51 k) code) (fun k => rfl) h
abbrev R_Z28 : Type := Option ((Bool × Unit) × ((Int × Unit) × Unit))
abbrev C_Z28 : Type := Int → Int → R_Z28
def B_Z28 (k : Nat) (k0 t1 : Int) : R_Z28 :=
  bif decide (k0 < 0) then
    some ((true, ()), ((t1, ()), ()))
  else
    some ((decide (k0 ≥ t1), ()), ((t1, ()), ()))
def F_Z28 : Nat → C_Z28
  | 0, _, _ => none
  | k + 1, k0, t1 => B_Z28 k k0 t1
theorem tot_Z28 {k0 t1 : _} {Q : _ → Prop} (h : Tot (fun σ => B_Z28 (σ 0) k0 t1) Q) : Tot (fun σ => F_Z28 (σ 0) k0 t1) Q :=
  Tot.call (F := fun k => F_Z28 k k0 t1) (B := fun k => B_Z28 k k0 t1) (fun k => rfl) h
abbrev R_Z2 : Type := Option ((Int × Unit) × ((Int × Unit) × Unit))
abbrev C_Z2 : Type := List Int → Int → R_Z2
abbrev T_Z2_L0 : Type := List Int × (Int × Unit) × Int × Int × Unit
def B_Z2_L0b (k : Nat) (c_Z28 : C_Z28) (again0 : T_Z2_L0 → R_Z2) (s : List Int) (f t7 t8 : Int) : R_Z2 :=
  bif decide (t8 < t7) then
    chk (inb t8 s.length) <|
    (c_Z28 (rdx (0 : Int) s t8) f).bind fun r16 =>
    bif r16.1.1 then
      some ((t8, ()), ((r16.2.1.1, ()), ()))
    else
      again0 (s, (r16.2.1.1, ()), t7, w64 (t8 + 1), ())
  else
    some (((-1), ()), ((f, ()), ()))
def B_Z2_L0 (k : Nat) (c_Z28 : C_Z28) (n : Nat) (t : T_Z2_L0) : R_Z2 :=
  lfix n (fun again t => B_Z2_L0b k c_Z28 again t.1 t.2.1.1 t.2.2.1 t.2.2.2.1) t
def B_Z2 (k : Nat) (c_Z28 : C_Z28) (s : List Int) (f : Int) : R_Z2 :=
  B_Z2_L0 k c_Z28 k (s, (f, ()), len s, 0, ())
def F_Z2 : Nat → C_Z2
  | 0, _, _ => none
  | k + 1, s, f => B_Z2 k (F_Z28 k) s f
theorem tot_Z2 {s f : _} {Q : _ → Prop} (h : Tot (fun σ => B_Z2 (σ 0) (F_Z28 (σ 0)) s f) Q) : Tot (fun σ => F_Z2 (σ 0) s f) Q :=
  Tot.call (F := fun k => F_Z2 k s f) (B := fun k => B_Z2 k (F_Z28 k) s f) (fun k => rfl) h
abbrev A_Z2_L0 (Z : Type) : Type := List Int → Int → Int → Int → Z
abbrev u_Z2_L0 {Z : Type} (f : A_Z2_L0 Z) (t : T_Z2_L0) : Z := f t.1 t.2.1.1 t.2.2.1 t.2.2.2.1
theorem loop_Z2_L0 {Q : A_Z2_L0 (((Int × Unit) × ((Int × Unit) × Unit)) → Prop)} (I : A_Z2_L0 Prop) (μ : A_Z2_L0 Nat)
    (step : ∀ a0 a1 a2 a3, I a0 a1 a2 a3 → ∀ again : (Nat → Nat) → T_Z2_L0 → R_Z2, Dep 2 again → (∀ y0 y1 y2 y3, I y0 y1 y2 y3 → μ y0 y1 y2 y3 < μ a0 a1 a2 a3 → Tot (fun σ => again σ (y0, (y1, ()), y2, y3, ())) (Q y0 y1 y2 y3)) →
      Tot (fun σ => B_Z2_L0b (σ 0) (F_Z28 (σ 0)) (again σ) a0 a1 a2 a3) (Q a0 a1 a2 a3)) :
    ∀ a0 a1 a2 a3, I a0 a1 a2 a3 → Tot (fun σ => B_Z2_L0 (σ 0) (F_Z28 (σ 0)) (σ 0) (a0, (a1, ()), a2, a3, ())) (Q a0 a1 a2 a3) := fun a0 a1 a2 a3 => Tot.loop0 (L := fun k => B_Z2_L0 k (F_Z28 k)) (B := fun k g => u_Z2_L0 (B_Z2_L0b k (F_Z28 k) g)) (Q := u_Z2_L0 Q) (fun _ _ _ => rfl) (u_Z2_L0 I) (u_Z2_L0 μ)
    (fun t ht again hag h => step t.1 t.2.1.1 t.2.2.1 t.2.2.2.1 ht again hag fun y0 y1 y2 y3 => h (y0, (y1, ()), y2, y3, ())) (a0, (a1, ()), a2, a3, ())
abbrev R_Z1 : Type := Option ((Bool × Unit) × ((Int × Unit) × Unit))
abbrev C_Z1 : Type := List Int → Int → R_Z1
def B_Z1 (k : Nat) (c_Z2 : C_Z2) (s : List Int) (f : Int) : R_Z1 :=
  (c_Z2 s f).bind fun r7 =>
  some ((decide (r7.1.1 ≥ 0), ()), ((r7.2.1.1, ()), ()))
def F_Z1 : Nat → C_Z1
  | 0, _, _ => none
  | k + 1, s, f => B_Z1 k (F_Z2 k) s f
theorem tot_Z1 {s f : _} {Q : _ → Prop} (h : Tot (fun σ => B_Z1 (σ 0) (F_Z2 (σ 0)) s f) Q) : Tot (fun σ => F_Z1 (σ 0) s f) Q :=
  Tot.call (F := fun k => F_Z1 k s f) (B := fun k => B_Z1 k (F_Z2 k) s f) (fun k => rfl) h
abbrev R_Z61 : Type := Option ((Int × Unit) × (Unit))
abbrev C_Z61 : Type := (List (Int × Int × List Int)) → List Int → Int → Int → R_Z61
abbrev T_Z61_L1 : Type := (List (Int × Int × List Int)) × List Int × (Int × Int × Unit × Unit) × Int × Unit
def B_Z61_J0 (k : Nat) (again1 : T_Z61_L1 → R_Z61) (nodes : List (Int × Int × List Int)) (kids : List Int) (key_Kind key_Value i : Int) (t33 : Bool) : R_Z61 :=
  bif t33 then
    some ((i, ()), ())
  else
    again1 (nodes, kids, (key_Kind, key_Value, (), ()), w64 (i + 2), ())
def B_Z61_L1b (k : Nat) (again1 : T_Z61_L1 → R_Z61) (nodes : List (Int × Int × List Int)) (kids : List Int) (key_Kind key_Value i : Int) : R_Z61 :=
  bif decide (i < (len kids)) then
    chk (inb i kids.length) <|
    chk (inb (rdx (0 : Int) kids i) nodes.length) <|
    let v26 : Bool := (((rdx ((0 : Int), ((0 : Int), ([] : List Int))) nodes (rdx (0 : Int) kids i)).1) == key_Kind)
    bif v26 then
      let v32 : Bool := ((((rdx ((0 : Int), ((0 : Int), ([] : List Int))) nodes (rdx (0 : Int) kids i)).2).1) == key_Value)
      jn (fun t => B_Z61_J0 k again1 t.1 t.2.1 t.2.2.1.1 t.2.2.1.2.1 t.2.2.2.1 t.2.2.2.2.1) (nodes, kids, (key_Kind, key_Value, (), ()), i, v32, ())
    else
      jn (fun t => B_Z61_J0 k again1 t.1 t.2.1 t.2.2.1.1 t.2.2.1.2.1 t.2.2.2.1 t.2.2.2.2.1) (nodes, kids, (key_Kind, key_Value, (), ()), i, false, ())
  else
    some (((-1), ()), ())
def B_Z61_L1 (k : Nat) (n : Nat) (t : T_Z61_L1) : R_Z61 :=
  lfix n (fun again t => B_Z61_L1b k again t.1 t.2.1 t.2.2.1.1 t.2.2.1.2.1 t.2.2.2.1) t
def B_Z61 (k : Nat) (nodes : List (Int × Int × List Int)) (kids : List Int) (key_0 key_1 : Int) : R_Z61 :=
  B_Z61_L1 k k (nodes, kids, (key_0, key_1, (), ()), 0, ())
def F_Z61 : Nat → C_Z61
  | 0, _, _, _, _ => none
  | k + 1, nodes, kids, key_0, key_1 => B_Z61 k nodes kids key_0 key_1
theorem tot_Z61 {nodes kids key_0 key_1 : _} {Q : _ → Prop} (h : Tot (fun σ => B_Z61 (σ 0) nodes kids key_0 key_1) Q) : Tot (fun σ => F_Z61 (σ 0) nodes kids key_0 key_1) Q :=
  Tot.call (F := fun k => F_Z61 k nodes kids key_0 key_1) (B := fun k => B_Z61 k nodes kids key_0 key_1) (fun k => rfl) h
abbrev A_Z61_L1 (Z : Type) : Type := (List (Int × Int × List Int)) → List Int → Int → Int → Int → Z
abbrev u_Z61_L1 {Z : Type} (f : A_Z61_L1 Z) (t : T_Z61_L1) : Z := f t.1 t.2.1 t.2.2.1.1 t.2.2.1.2.1 t.2.2.2.1
theorem loop_Z61_L1 {Q : A_Z61_L1 (((Int × Unit) × (Unit)) → Prop)} (I : A_Z61_L1 Prop) (μ : A_Z61_L1 Nat)
    (step : ∀ a0 a1 a2 a3 a4, I a0 a1 a2 a3 a4 → ∀ again : (Nat → Nat) → T_Z61_L1 → R_Z61, Dep 2 again → (∀ y0 y1 y2 y3 y4, I y0 y1 y2 y3 y4 → μ y0 y1 y2 y3 y4 < μ a0 a1 a2 a3 a4 → Tot (fun σ => again σ (y0, y1, (y2, y3, (), ()), y4, ())) (Q y0 y1 y2 y3 y4)) →
      Tot (fun σ => B_Z61_L1b (σ 0) (again σ) a0 a1 a2 a3 a4) (Q a0 a1 a2 a3 a4)) :
    ∀ a0 a1 a2 a3 a4, I a0 a1 a2 a3 a4 → Tot (fun σ => B_Z61_L1 (σ 0) (σ 0) (a0, a1, (a2, a3, (), ()), a4, ())) (Q a0 a1 a2 a3 a4) := fun a0 a1 a2 a3 a4 => Tot.loop0 (L := fun k => B_Z61_L1 k) (B := fun k g => u_Z61_L1 (B_Z61_L1b k g)) (Q := u_Z61_L1 Q) (fun _ _ _ => rfl) (u_Z61_L1 I) (u_Z61_L1 μ)
    (fun t ht again hag h => step t.1 t.2.1 t.2.2.1.1 t.2.2.1.2.1 t.2.2.2.1 ht again hag fun y0 y1 y2 y3 y4 => h (y0, y1, (y2, y3, (), ()), y4, ())) (a0, a1, (a2, a3, (), ()), a4, ())
abbrev R_i_nodeOk : Type := Option ((Bool × Unit) × (Unit))
abbrev C_i_nodeOk : Type := (List (Int × Int × List Int)) → Int → Int → List Int → R_i_nodeOk
abbrev T_i_nodeOk_L2 : Type := (List (Int × Int × List Int)) × (Int × Int × List Int × Unit) × Int × Unit
def B_i_nodeOk_J1 (k : Nat) (c_Z61 : C_Z61) (again2 : T_i_nodeOk_L2 → R_i_nodeOk) (nodes : List (Int × Int × List Int)) (x_Kind x_Value : Int) (x_Kids : List Int) (i : Int) (t97 : Bool) : R_i_nodeOk :=
  bif t97 then
    some ((false, ()), ())
  else
    again2 (nodes, (x_Kind, x_Value, x_Kids, ()), w64 (i + 2), ())
def B_i_nodeOk_L2b (k : Nat) (c_Z61 : C_Z61) (again2 : T_i_nodeOk_L2 → R_i_nodeOk) (nodes : List (Int × Int × List Int)) (x_Kind x_Value : Int) (x_Kids : List Int) (i : Int) : R_i_nodeOk :=
  bif decide (i < (len x_Kids)) then
    chk (inb i x_Kids.length) <|
    chk (inb (rdx (0 : Int) x_Kids i) nodes.length) <|
    let v82 : Bool := decide (((rdx ((0 : Int), ((0 : Int), ([] : List Int))) nodes (rdx (0 : Int) x_Kids i)).1) > 1)
    bif v82 then
      jn (fun t => B_i_nodeOk_J1 k c_Z61 again2 t.1 t.2.1.1 t.2.1.2.1 t.2.1.2.2.1 t.2.2.1 t.2.2.2.1) (nodes, (x_Kind, x_Value, x_Kids, ()), i, true, ())
    else
      let v86 : Bool := decide (((rdx ((0 : Int), ((0 : Int), ([] : List Int))) nodes (rdx (0 : Int) x_Kids i)).1) < 0)
      bif v86 then
        jn (fun t => B_i_nodeOk_J1 k c_Z61 again2 t.1 t.2.1.1 t.2.1.2.1 t.2.1.2.2.1 t.2.2.1 t.2.2.2.1) (nodes, (x_Kind, x_Value, x_Kids, ()), i, true, ())
      else
        chk (cutb 0 i x_Kids.length) <|
        (c_Z61 nodes (sub x_Kids 0 i) ((rdx ((0 : Int), ((0 : Int), ([] : List Int))) nodes (rdx (0 : Int) x_Kids i)).1) (((rdx ((0 : Int), ((0 : Int), ([] : List Int))) nodes (rdx (0 : Int) x_Kids i)).2).1)).bind fun r95 =>
        jn (fun t => B_i_nodeOk_J1 k c_Z61 again2 t.1 t.2.1.1 t.2.1.2.1 t.2.1.2.2.1 t.2.2.1 t.2.2.2.1) (nodes, (x_Kind, x_Value, x_Kids, ()), i, decide (r95.1.1 ≥ 0), ())
  else
    bif (x_Value == 0) then
      some (((((len x_Kids).tmod 2) == 0), ()), ())
    else
      some ((false, ()), ())
def B_i_nodeOk_L2 (k : Nat) (c_Z61 : C_Z61) (n : Nat) (t : T_i_nodeOk_L2) : R_i_nodeOk :=
  lfix n (fun again t => B_i_nodeOk_L2b k c_Z61 again t.1 t.2.1.1 t.2.1.2.1 t.2.1.2.2.1 t.2.2.1) t
def B_i_nodeOk_J0 (k : Nat) (c_Z61 : C_Z61) (nodes : List (Int × Int × List Int)) (x_Kind x_Value : Int) (x_Kids : List Int) (t8 : Int) (t41 : Bool) : R_i_nodeOk :=
  bif t41 then
    some (((x_Value == 0), ()), ())
  else
    bif (t8 == 5) then
      bif decide (x_Value ≥ 0) then
        bif decide (x_Value ≤ 9) then
          some ((decide ((len x_Kids) ≤ 1), ()), ())
        else
          some ((false, ()), ())
      else
        some ((false, ()), ())
    else
      bif (t8 == 4) then
        B_i_nodeOk_L2 k c_Z61 k (nodes, (x_Kind, x_Value, x_Kids, ()), 0, ())
      else
        some ((false, ()), ())
def B_i_nodeOk (k : Nat) (c_Z61 : C_Z61) (nodes : List (Int × Int × List Int)) (x_0 x_1 : Int) (x_2 : List Int) : R_i_nodeOk :=
  bif (x_0 == 0) then
    bif decide (x_1 ≥ 0) then
      bif decide (x_1 ≤ 999) then
        some ((((len x_2) == 0), ()), ())
      else
        some ((false, ()), ())
    else
      some ((false, ()), ())
  else
    bif (x_0 == 1) then
      bif decide (x_1 ≥ 0) then
        bif decide (x_1 ≤ 9) then
          some ((((len x_2) == 0), ()), ())
        else
          some ((false, ()), ())
      else
        some ((false, ()), ())
    else
      bif (x_0 == 2) then
        jn (fun t => B_i_nodeOk_J0 k c_Z61 t.1 t.2.1.1 t.2.1.2.1 t.2.1.2.2.1 t.2.2.1 t.2.2.2.1) (nodes, (x_0, x_1, x_2, ()), x_0, (x_0 == 2), ())
      else
        jn (fun t => B_i_nodeOk_J0 k c_Z61 t.1 t.2.1.1 t.2.1.2.1 t.2.1.2.2.1 t.2.2.1 t.2.2.2.1) (nodes, (x_0, x_1, x_2, ()), x_0, (x_0 == 3), ())
def F_i_nodeOk : Nat → C_i_nodeOk
  | 0, _, _, _, _ => none
  | k + 1, nodes, x_0, x_1, x_2 => B_i_nodeOk k (F_Z61 k) nodes x_0 x_1 x_2
theorem tot_i_nodeOk {nodes x_0 x_1 x_2 : _} {Q : _ → Prop} (h : Tot (fun σ => B_i_nodeOk (σ 0) (F_Z61 (σ 0)) nodes x_0 x_1 x_2) Q) : Tot (fun σ => F_i_nodeOk (σ 0) nodes x_0 x_1 x_2) Q :=
  Tot.call (F := fun k => F_i_nodeOk k nodes x_0 x_1 x_2) (B := fun k => B_i_nodeOk k (F_Z61 k) nodes x_0 x_1 x_2) (fun k => rfl) h
abbrev A_i_nodeOk_L2 (Z : Type) : Type := (List (Int × Int × List Int)) → Int → Int → List Int → Int → Z
abbrev u_i_nodeOk_L2 {Z : Type} (f : A_i_nodeOk_L2 Z) (t : T_i_nodeOk_L2) : Z := f t.1 t.2.1.1 t.2.1.2.1 t.2.1.2.2.1 t.2.2.1
theorem loop_i_nodeOk_L2 {Q : A_i_nodeOk_L2 (((Bool × Unit) × (Unit)) → Prop)} (I : A_i_nodeOk_L2 Prop) (μ : A_i_nodeOk_L2 Nat)
    (step : ∀ a0 a1 a2 a3 a4, I a0 a1 a2 a3 a4 → ∀ again : (Nat → Nat) → T_i_nodeOk_L2 → R_i_nodeOk, Dep 2 again → (∀ y0 y1 y2 y3 y4, I y0 y1 y2 y3 y4 → μ y0 y1 y2 y3 y4 < μ a0 a1 a2 a3 a4 → Tot (fun σ => again σ (y0, (y1, y2, y3, ()), y4, ())) (Q y0 y1 y2 y3 y4)) →
      Tot (fun σ => B_i_nodeOk_L2b (σ 0) (F_Z61 (σ 0)) (again σ) a0 a1 a2 a3 a4) (Q a0 a1 a2 a3 a4)) :
    ∀ a0 a1 a2 a3 a4, I a0 a1 a2 a3 a4 → Tot (fun σ => B_i_nodeOk_L2 (σ 0) (F_Z61 (σ 0)) (σ 0) (a0, (a1, a2, a3, ()), a4, ())) (Q a0 a1 a2 a3 a4) := fun a0 a1 a2 a3 a4 => Tot.loop0 (L := fun k => B_i_nodeOk_L2 k (F_Z61 k)) (B := fun k g => u_i_nodeOk_L2 (B_i_nodeOk_L2b k (F_Z61 k) g)) (Q := u_i_nodeOk_L2 Q) (fun _ _ _ => rfl) (u_i_nodeOk_L2 I) (u_i_nodeOk_L2 μ)
    (fun t ht again hag h => step t.1 t.2.1.1 t.2.1.2.1 t.2.1.2.2.1 t.2.2.1 ht again hag fun y0 y1 y2 y3 y4 => h (y0, (y1, y2, y3, ()), y4, ())) (a0, (a1, a2, a3, ()), a4, ())
abbrev R_Z25 : Type := Option ((Bool × Unit) × (Unit))
abbrev C_Z25 : Type := Int → Int → List Int → R_Z25
def B_Z25 (k : Nat) (x_0 x_1 : Int) (x_2 : List Int) : R_Z25 :=
  some (((x_0 == 2), ()), ())
def F_Z25 : Nat → C_Z25
  | 0, _, _, _ => none
  | k + 1, x_0, x_1, x_2 => B_Z25 k x_0 x_1 x_2
theorem tot_Z25 {x_0 x_1 x_2 : _} {Q : _ → Prop} (h : Tot (fun σ => B_Z25 (σ 0) x_0 x_1 x_2) Q) : Tot (fun σ => F_Z25 (σ 0) x_0 x_1 x_2) Q :=
  Tot.call (F := fun k => F_Z25 k x_0 x_1 x_2) (B := fun k => B_Z25 k x_0 x_1 x_2) (fun k => rfl) h
abbrev R_Z14 : Type := Option ((Bool × Unit) × (Unit))
abbrev C_Z14 : Type := (List (Int × Int × List Int)) → Int → R_Z14
abbrev T_Z14_L2 : Type := (List (Int × Int × List Int)) × Int × Unit × (List (Int × Bool)) × List Int × List Int × Int × Int × Unit
abbrev T_Z14_L3 : Type := (List (Int × Int × List Int)) × Int × Unit × (List (Int × Bool)) × List Int × Unit
def B_Z14_J1 (k : Nat) (c_Z25 : C_Z25) (again2 : T_Z14_L2 → R_Z14) (nodes : List (Int × Int × List Int)) (from1 : Int) (seen : List (Int × Bool)) (list t33 : List Int) (t34 t35 : Int) : R_Z14 :=
  again2 (nodes, from1, (), seen, list, t33, t34, w64 (t35 + 1), ())
def B_Z14_J0 (k : Nat) (c_Z25 : C_Z25) (again2 : T_Z14_L2 → R_Z14) (nodes : List (Int × Int × List Int)) (from1 : Int) (seen : List (Int × Bool)) (list : List Int) (k11 : Int) (t33 : List Int) (t34 t35 : Int) (t53 : Bool) : R_Z14 :=
  bif t53 then
    chk (room list.length ([k11]).length) <|
    jn (fun t => B_Z14_J1 k c_Z25 again2 t.1 t.2.1 t.2.2.2.1 t.2.2.2.2.1 t.2.2.2.2.2.1 t.2.2.2.2.2.2.1 t.2.2.2.2.2.2.2.1) (nodes, from1, (), (mput seen k11 true), (list ++ [k11]), t33, t34, t35, ())
  else
    jn (fun t => B_Z14_J1 k c_Z25 again2 t.1 t.2.1 t.2.2.2.1 t.2.2.2.2.1 t.2.2.2.2.2.1 t.2.2.2.2.2.2.1 t.2.2.2.2.2.2.2.1) (nodes, from1, (), seen, list, t33, t34, t35, ())
def B_Z14_L2b (k : Nat) (c_Z25 : C_Z25) (again3 : T_Z14_L3 → R_Z14) (again2 : T_Z14_L2 → R_Z14) (nodes : List (Int × Int × List Int)) (from1 : Int) (seen : List (Int × Bool)) (list t33 : List Int) (t34 t35 : Int) : R_Z14 :=
  bif decide (t35 < t34) then
    chk (inb t35 t33.length) <|
    bif ((rdx (0 : Int) t33 t35) == from1) then
      some ((true, ()), ())
    else
      chk (inb (rdx (0 : Int) t33 t35) nodes.length) <|
      (c_Z25 ((rdx ((0 : Int), ((0 : Int), ([] : List Int))) nodes (rdx (0 : Int) t33 t35)).1) (((rdx ((0 : Int), ((0 : Int), ([] : List Int))) nodes (rdx (0 : Int) t33 t35)).2).1) (((rdx ((0 : Int), ((0 : Int), ([] : List Int))) nodes (rdx (0 : Int) t33 t35)).2).2)).bind fun r47 =>
      bif r47.1.1 then
        jn (fun t => B_Z14_J0 k c_Z25 again2 t.1 t.2.1 t.2.2.2.1 t.2.2.2.2.1 t.2.2.2.2.2.1 t.2.2.2.2.2.2.1 t.2.2.2.2.2.2.2.1 t.2.2.2.2.2.2.2.2.1 t.2.2.2.2.2.2.2.2.2.1) (nodes, from1, (), seen, list, (rdx (0 : Int) t33 t35), t33, t34, t35, (!((mfind seen (rdx (0 : Int) t33 t35)).getD false)), ())
      else
        jn (fun t => B_Z14_J0 k c_Z25 again2 t.1 t.2.1 t.2.2.2.1 t.2.2.2.2.1 t.2.2.2.2.2.1 t.2.2.2.2.2.2.1 t.2.2.2.2.2.2.2.1 t.2.2.2.2.2.2.2.2.1 t.2.2.2.2.2.2.2.2.2.1) (nodes, from1, (), seen, list, (rdx (0 : Int) t33 t35), t33, t34, t35, false, ())
  else
    again3 (nodes, from1, (), seen, list, ())
def B_Z14_L2 (k : Nat) (c_Z25 : C_Z25) (again3 : T_Z14_L3 → R_Z14) (n : Nat) (t : T_Z14_L2) : R_Z14 :=
  lfix n (fun again t => B_Z14_L2b k c_Z25 again3 again t.1 t.2.1 t.2.2.2.1 t.2.2.2.2.1 t.2.2.2.2.2.1 t.2.2.2.2.2.2.1 t.2.2.2.2.2.2.2.1) t
def B_Z14_L3b (k : Nat) (c_Z25 : C_Z25) (again3 : T_Z14_L3 → R_Z14) (nodes : List (Int × Int × List Int)) (from1 : Int) (seen : List (Int × Bool)) (list : List Int) : R_Z14 :=
  bif decide ((len list) > 0) then
    chk (inb (w64 ((len list) - 1)) list.length) <|
    chk (decide ((w64 ((len list) - 1)).toNat < list.length)) <|
    chk (cutb 0 (w64 ((len list) - 1)) list.length) <|
    chk (inb (list.getD ((w64 ((len list) - 1)).toNat) (0 : Int)) nodes.length) <|
    let v34 : Int := len (((rdx ((0 : Int), ((0 : Int), ([] : List Int))) nodes (list.getD ((w64 ((len list) - 1)).toNat) (0 : Int))).2).2)
    B_Z14_L2 k c_Z25 again3 k (nodes, from1, (), seen, (list.take ((w64 ((len list) - 1)).toNat)), ((rdx ((0 : Int), ((0 : Int), ([] : List Int))) nodes (list.getD ((w64 ((len list) - 1)).toNat) (0 : Int))).2).2, v34, 0, ())
  else
    some ((false, ()), ())
def B_Z14_L3 (k : Nat) (c_Z25 : C_Z25) (n : Nat) (t : T_Z14_L3) : R_Z14 :=
  lfix n (fun again t => B_Z14_L3b k c_Z25 again t.1 t.2.1 t.2.2.2.1 t.2.2.2.2.1) t
def B_Z14 (k : Nat) (c_Z25 : C_Z25) (nodes : List (Int × Int × List Int)) (from1 : Int) : R_Z14 :=
  B_Z14_L3 k c_Z25 k (nodes, from1, (), ([] : List (Int × Bool)), [from1], ())
def F_Z14 : Nat → C_Z14
  | 0, _, _ => none
  | k + 1, nodes, from1 => B_Z14 k (F_Z25 k) nodes from1
theorem tot_Z14 {nodes from1 : _} {Q : _ → Prop} (h : Tot (fun σ => B_Z14 (σ 0) (F_Z25 (σ 0)) nodes from1) Q) : Tot (fun σ => F_Z14 (σ 0) nodes from1) Q :=
  Tot.call (F := fun k => F_Z14 k nodes from1) (B := fun k => B_Z14 k (F_Z25 k) nodes from1) (fun k => rfl) h
abbrev A_Z14_L2 (Z : Type) : Type := (List (Int × Int × List Int)) → Int → (List (Int × Bool)) → List Int → List Int → Int → Int → Z
abbrev u_Z14_L2 {Z : Type} (f : A_Z14_L2 Z) (t : T_Z14_L2) : Z := f t.1 t.2.1 t.2.2.2.1 t.2.2.2.2.1 t.2.2.2.2.2.1 t.2.2.2.2.2.2.1 t.2.2.2.2.2.2.2.1
theorem loop_Z14_L2 {again3 : (Nat → Nat) → T_Z14_L3 → R_Z14} (hag3 : Dep 2 again3) {Q : A_Z14_L2 (((Bool × Unit) × (Unit)) → Prop)} (I : A_Z14_L2 Prop) (μ : A_Z14_L2 Nat)
    (step : ∀ a0 a1 a2 a3 a4 a5 a6, I a0 a1 a2 a3 a4 a5 a6 → ∀ again : (Nat → Nat) → T_Z14_L2 → R_Z14, Dep 3 again → (∀ y0 y1 y2 y3 y4 y5 y6, I y0 y1 y2 y3 y4 y5 y6 → μ y0 y1 y2 y3 y4 y5 y6 < μ a0 a1 a2 a3 a4 a5 a6 → Tot (fun σ => again σ (y0, y1, (), y2, y3, y4, y5, y6, ())) (Q y0 y1 y2 y3 y4 y5 y6)) →
      Tot (fun σ => B_Z14_L2b (σ 0) (F_Z25 (σ 0)) (again3 σ) (again σ) a0 a1 a2 a3 a4 a5 a6) (Q a0 a1 a2 a3 a4 a5 a6)) :
    ∀ a0 a1 a2 a3 a4 a5 a6, I a0 a1 a2 a3 a4 a5 a6 → Tot (fun σ => B_Z14_L2 (σ 0) (F_Z25 (σ 0)) (again3 σ) (σ 0) (a0, a1, (), a2, a3, a4, a5, a6, ())) (Q a0 a1 a2 a3 a4 a5 a6) := fun a0 a1 a2 a3 a4 a5 a6 => Tot.loop (L := fun σ n t => B_Z14_L2 (σ 0) (F_Z25 (σ 0)) (again3 σ) n t) (B := fun σ g => u_Z14_L2 (B_Z14_L2b (σ 0) (F_Z25 (σ 0)) (again3 σ) g)) (Q := u_Z14_L2 Q) 2 (by decide)
    (fun s s' h => by have e0 : s 0 = s' 0 := h 0 (by decide); simp only [e0, hag3 s s' h]) (fun s s' h => by have e0 : s 0 = s' 0 := h 0 (by decide); simp only [e0, hag3 s s' h]) (fun _ _ _ => rfl) (u_Z14_L2 I) (u_Z14_L2 μ)
    (fun t ht again hag h => step t.1 t.2.1 t.2.2.2.1 t.2.2.2.2.1 t.2.2.2.2.2.1 t.2.2.2.2.2.2.1 t.2.2.2.2.2.2.2.1 ht again hag fun y0 y1 y2 y3 y4 y5 y6 => h (y0, y1, (), y2, y3, y4, y5, y6, ())) (a0, a1, (), a2, a3, a4, a5, a6, ())
abbrev A_Z14_L3 (Z : Type) : Type := (List (Int × Int × List Int)) → Int → (List (Int × Bool)) → List Int → Z
abbrev u_Z14_L3 {Z : Type} (f : A_Z14_L3 Z) (t : T_Z14_L3) : Z := f t.1 t.2.1 t.2.2.2.1 t.2.2.2.2.1
theorem loop_Z14_L3 {Q : A_Z14_L3 (((Bool × Unit) × (Unit)) → Prop)} (I : A_Z14_L3 Prop) (μ : A_Z14_L3 Nat)
    (step : ∀ a0 a1 a2 a3, I a0 a1 a2 a3 → ∀ again : (Nat → Nat) → T_Z14_L3 → R_Z14, Dep 2 again → (∀ y0 y1 y2 y3, I y0 y1 y2 y3 → μ y0 y1 y2 y3 < μ a0 a1 a2 a3 → Tot (fun σ => again σ (y0, y1, (), y2, y3, ())) (Q y0 y1 y2 y3)) →
      Tot (fun σ => B_Z14_L3b (σ 0) (F_Z25 (σ 0)) (again σ) a0 a1 a2 a3) (Q a0 a1 a2 a3)) :
    ∀ a0 a1 a2 a3, I a0 a1 a2 a3 → Tot (fun σ => B_Z14_L3 (σ 0) (F_Z25 (σ 0)) (σ 0) (a0, a1, (), a2, a3, ())) (Q a0 a1 a2 a3) := fun a0 a1 a2 a3 => Tot.loop0 (L := fun k => B_Z14_L3 k (F_Z25 k)) (B := fun k g => u_Z14_L3 (B_Z14_L3b k (F_Z25 k) g)) (Q := u_Z14_L3 Q) (fun _ _ _ => rfl) (u_Z14_L3 I) (u_Z14_L3 μ)
    (fun t ht again hag h => step t.1 t.2.1 t.2.2.2.1 t.2.2.2.2.1 ht again hag fun y0 y1 y2 y3 => h (y0, y1, (), y2, y3, ())) (a0, a1, (), a2, a3, ())
abbrev R_Z35 : Type := Option ((Bool × Unit) × (Unit))
abbrev C_Z35 : Type := (List (Int × Int × List Int)) → Int → R_Z35
abbrev T_Z35_L5 : Type := ((List (Int × Int × List Int)) × Int × Unit) × Int × Int × Unit
abbrev T_Z35_L3 : Type := ((List (Int × Int × List Int)) × Int × Unit) × (List (Int × Int × List Int)) × Int × Int × Unit
abbrev T_Z35_L2 : Type := ((List (Int × Int × List Int)) × Int × Unit) × (Int × Unit) × (List (Int × Int × List Int)) × Int × Int × Unit
def B_Z35_J1 (k : Nat) (c_Z1 : C_Z1) (c_i_nodeOk : C_i_nodeOk) (c_Z14 : C_Z14) (again2 : T_Z35_L2 → R_Z35) (g_Nodes : List (Int × Int × List Int)) (g_Root n3 : Int) (t30 : List (Int × Int × List Int)) (t31 t32 : Int) (t45 : Bool) : R_Z35 :=
  bif t45 then
    some ((false, ()), ())
  else
    again2 ((g_Nodes, g_Root, ()), (n3, ()), t30, t31, w64 (t32 + 1), ())
def B_Z35_J4 (k : Nat) (c_Z1 : C_Z1) (c_i_nodeOk : C_i_nodeOk) (c_Z14 : C_Z14) (again5 : T_Z35_L5 → R_Z35) (g_Nodes : List (Int × Int × List Int)) (g_Root t62 t63 : Int) (t78 : Bool) : R_Z35 :=
  bif t78 then
    some ((false, ()), ())
  else
    again5 ((g_Nodes, g_Root, ()), t62, w64 (t63 + 1), ())
def B_Z35_L5b (k : Nat) (c_Z1 : C_Z1) (c_i_nodeOk : C_i_nodeOk) (c_Z14 : C_Z14) (again5 : T_Z35_L5 → R_Z35) (g_Nodes : List (Int × Int × List Int)) (g_Root t62 t63 : Int) : R_Z35 :=
  bif decide (t63 < t62) then
    chk (inb t63 g_Nodes.length) <|
    bif (((rdx ((0 : Int), ((0 : Int), ([] : List Int))) g_Nodes t63).1) == 2) then
      (c_Z14 g_Nodes t63).bind fun r77 =>
      jn (fun t => B_Z35_J4 k c_Z1 c_i_nodeOk c_Z14 again5 t.1.1 t.1.2.1 t.2.1 t.2.2.1 t.2.2.2.1) ((g_Nodes, g_Root, ()), t62, t63, r77.1.1, ())
    else
      jn (fun t => B_Z35_J4 k c_Z1 c_i_nodeOk c_Z14 again5 t.1.1 t.1.2.1 t.2.1 t.2.2.1 t.2.2.2.1) ((g_Nodes, g_Root, ()), t62, t63, false, ())
  else
    some ((true, ()), ())
def B_Z35_L5 (k : Nat) (c_Z1 : C_Z1) (c_i_nodeOk : C_i_nodeOk) (c_Z14 : C_Z14) (n : Nat) (t : T_Z35_L5) : R_Z35 :=
  lfix n (fun again t => B_Z35_L5b k c_Z1 c_i_nodeOk c_Z14 again t.1.1 t.1.2.1 t.2.1 t.2.2.1) t
def B_Z35_L3b (k : Nat) (c_Z1 : C_Z1) (c_i_nodeOk : C_i_nodeOk) (c_Z14 : C_Z14) (again3 : T_Z35_L3 → R_Z35) (g_Nodes : List (Int × Int × List Int)) (g_Root : Int) (t48 : List (Int × Int × List Int)) (t49 t50 : Int) : R_Z35 :=
  bif decide (t50 < t49) then
    chk (inb t50 t48.length) <|
    (c_i_nodeOk g_Nodes ((rdx ((0 : Int), ((0 : Int), ([] : List Int))) t48 t50).1) (((rdx ((0 : Int), ((0 : Int), ([] : List Int))) t48 t50).2).1) (((rdx ((0 : Int), ((0 : Int), ([] : List Int))) t48 t50).2).2)).bind fun r57 =>
    bif (!r57.1.1) then
      some ((false, ()), ())
    else
      again3 ((g_Nodes, g_Root, ()), t48, t49, w64 (t50 + 1), ())
  else
    B_Z35_L5 k c_Z1 c_i_nodeOk c_Z14 k ((g_Nodes, g_Root, ()), len g_Nodes, 0, ())
def B_Z35_L3 (k : Nat) (c_Z1 : C_Z1) (c_i_nodeOk : C_i_nodeOk) (c_Z14 : C_Z14) (n : Nat) (t : T_Z35_L3) : R_Z35 :=
  lfix n (fun again t => B_Z35_L3b k c_Z1 c_i_nodeOk c_Z14 again t.1.1 t.1.2.1 t.2.1 t.2.2.1 t.2.2.2.1) t
def B_Z35_L2b (k : Nat) (c_Z1 : C_Z1) (c_i_nodeOk : C_i_nodeOk) (c_Z14 : C_Z14) (again2 : T_Z35_L2 → R_Z35) (g_Nodes : List (Int × Int × List Int)) (g_Root n3 : Int) (t30 : List (Int × Int × List Int)) (t31 t32 : Int) : R_Z35 :=
  bif decide (t32 < t31) then
    chk (inb t32 t30.length) <|
    bif decide ((len (((rdx ((0 : Int), ((0 : Int), ([] : List Int))) t30 t32).2).2)) > 6) then
      jn (fun t => B_Z35_J1 k c_Z1 c_i_nodeOk c_Z14 again2 t.1.1 t.1.2.1 t.2.1.1 t.2.2.1 t.2.2.2.1 t.2.2.2.2.1 t.2.2.2.2.2.1) ((g_Nodes, g_Root, ()), (n3, ()), t30, t31, t32, true, ())
    else
      (c_Z1 (((rdx ((0 : Int), ((0 : Int), ([] : List Int))) t30 t32).2).2) n3).bind fun r44 =>
      jn (fun t => B_Z35_J1 k c_Z1 c_i_nodeOk c_Z14 again2 t.1.1 t.1.2.1 t.2.1.1 t.2.2.1 t.2.2.2.1 t.2.2.2.2.1 t.2.2.2.2.2.1) ((g_Nodes, g_Root, ()), (r44.2.1.1, ()), t30, t31, t32, r44.1.1, ())
  else
    B_Z35_L3 k c_Z1 c_i_nodeOk c_Z14 k ((g_Nodes, g_Root, ()), g_Nodes, len g_Nodes, 0, ())
def B_Z35_L2 (k : Nat) (c_Z1 : C_Z1) (c_i_nodeOk : C_i_nodeOk) (c_Z14 : C_Z14) (n : Nat) (t : T_Z35_L2) : R_Z35 :=
  lfix n (fun again t => B_Z35_L2b k c_Z1 c_i_nodeOk c_Z14 again t.1.1 t.1.2.1 t.2.1.1 t.2.2.1 t.2.2.2.1 t.2.2.2.2.1) t
def B_Z35_J0 (k : Nat) (c_Z1 : C_Z1) (c_i_nodeOk : C_i_nodeOk) (c_Z14 : C_Z14) (g_Nodes : List (Int × Int × List Int)) (g_Root n3 : Int) (t28 : Bool) : R_Z35 :=
  bif t28 then
    some ((false, ()), ())
  else
    B_Z35_L2 k c_Z1 c_i_nodeOk c_Z14 k ((g_Nodes, g_Root, ()), (n3, ()), g_Nodes, len g_Nodes, 0, ())
def B_Z35 (k : Nat) (c_Z1 : C_Z1) (c_i_nodeOk : C_i_nodeOk) (c_Z14 : C_Z14) (g_0 : List (Int × Int × List Int)) (g_1 : Int) : R_Z35 :=
  bif decide ((len g_0) < 1) then
    jn (fun t => B_Z35_J0 k c_Z1 c_i_nodeOk c_Z14 t.1.1 t.1.2.1 t.2.1.1 t.2.2.1) ((g_0, g_1, ()), (len g_0, ()), true, ())
  else
    bif decide ((len g_0) > 12) then
      jn (fun t => B_Z35_J0 k c_Z1 c_i_nodeOk c_Z14 t.1.1 t.1.2.1 t.2.1.1 t.2.2.1) ((g_0, g_1, ()), (len g_0, ()), true, ())
    else
      bif decide (g_1 < 0) then
        jn (fun t => B_Z35_J0 k c_Z1 c_i_nodeOk c_Z14 t.1.1 t.1.2.1 t.2.1.1 t.2.2.1) ((g_0, g_1, ()), (len g_0, ()), true, ())
      else
        jn (fun t => B_Z35_J0 k c_Z1 c_i_nodeOk c_Z14 t.1.1 t.1.2.1 t.2.1.1 t.2.2.1) ((g_0, g_1, ()), (len g_0, ()), decide (g_1 ≥ (len g_0)), ())
def F_Z35 : Nat → C_Z35
  | 0, _, _ => none
  | k + 1, g_0, g_1 => B_Z35 k (F_Z1 k) (F_i_nodeOk k) (F_Z14 k) g_0 g_1
theorem tot_Z35 {g_0 g_1 : _} {Q : _ → Prop} (h : Tot (fun σ => B_Z35 (σ 0) (F_Z1 (σ 0)) (F_i_nodeOk (σ 0)) (F_Z14 (σ 0)) g_0 g_1) Q) : Tot (fun σ => F_Z35 (σ 0) g_0 g_1) Q :=
  Tot.call (F := fun k => F_Z35 k g_0 g_1) (B := fun k => B_Z35 k (F_Z1 k) (F_i_nodeOk k) (F_Z14 k) g_0 g_1) (fun k => rfl) h
abbrev A_Z35_L5 (Z : Type) : Type := (List (Int × Int × List Int)) → Int → Int → Int → Z
abbrev u_Z35_L5 {Z : Type} (f : A_Z35_L5 Z) (t : T_Z35_L5) : Z := f t.1.1 t.1.2.1 t.2.1 t.2.2.1
theorem loop_Z35_L5 {Q : A_Z35_L5 (((Bool × Unit) × (Unit)) → Prop)} (I : A_Z35_L5 Prop) (μ : A_Z35_L5 Nat)
    (step : ∀ a0 a1 a2 a3, I a0 a1 a2 a3 → ∀ again : (Nat → Nat) → T_Z35_L5 → R_Z35, Dep 2 again → (∀ y0 y1 y2 y3, I y0 y1 y2 y3 → μ y0 y1 y2 y3 < μ a0 a1 a2 a3 → Tot (fun σ => again σ ((y0, y1, ()), y2, y3, ())) (Q y0 y1 y2 y3)) →
      Tot (fun σ => B_Z35_L5b (σ 0) (F_Z1 (σ 0)) (F_i_nodeOk (σ 0)) (F_Z14 (σ 0)) (again σ) a0 a1 a2 a3) (Q a0 a1 a2 a3)) :
    ∀ a0 a1 a2 a3, I a0 a1 a2 a3 → Tot (fun σ => B_Z35_L5 (σ 0) (F_Z1 (σ 0)) (F_i_nodeOk (σ 0)) (F_Z14 (σ 0)) (σ 0) ((a0, a1, ()), a2, a3, ())) (Q a0 a1 a2 a3) := fun a0 a1 a2 a3 => Tot.loop0 (L := fun k => B_Z35_L5 k (F_Z1 k) (F_i_nodeOk k) (F_Z14 k)) (B := fun k g => u_Z35_L5 (B_Z35_L5b k (F_Z1 k) (F_i_nodeOk k) (F_Z14 k) g)) (Q := u_Z35_L5 Q) (fun _ _ _ => rfl) (u_Z35_L5 I) (u_Z35_L5 μ)
    (fun t ht again hag h => step t.1.1 t.1.2.1 t.2.1 t.2.2.1 ht again hag fun y0 y1 y2 y3 => h ((y0, y1, ()), y2, y3, ())) ((a0, a1, ()), a2, a3, ())
abbrev A_Z35_L3 (Z : Type) : Type := (List (Int × Int × List Int)) → Int → (List (Int × Int × List Int)) → Int → Int → Z
abbrev u_Z35_L3 {Z : Type} (f : A_Z35_L3 Z) (t : T_Z35_L3) : Z := f t.1.1 t.1.2.1 t.2.1 t.2.2.1 t.2.2.2.1
theorem loop_Z35_L3 {Q : A_Z35_L3 (((Bool × Unit) × (Unit)) → Prop)} (I : A_Z35_L3 Prop) (μ : A_Z35_L3 Nat)
    (step : ∀ a0 a1 a2 a3 a4, I a0 a1 a2 a3 a4 → ∀ again : (Nat → Nat) → T_Z35_L3 → R_Z35, Dep 2 again → (∀ y0 y1 y2 y3 y4, I y0 y1 y2 y3 y4 → μ y0 y1 y2 y3 y4 < μ a0 a1 a2 a3 a4 → Tot (fun σ => again σ ((y0, y1, ()), y2, y3, y4, ())) (Q y0 y1 y2 y3 y4)) →
      Tot (fun σ => B_Z35_L3b (σ 0) (F_Z1 (σ 0)) (F_i_nodeOk (σ 0)) (F_Z14 (σ 0)) (again σ) a0 a1 a2 a3 a4) (Q a0 a1 a2 a3 a4)) :
    ∀ a0 a1 a2 a3 a4, I a0 a1 a2 a3 a4 → Tot (fun σ => B_Z35_L3 (σ 0) (F_Z1 (σ 0)) (F_i_nodeOk (σ 0)) (F_Z14 (σ 0)) (σ 0) ((a0, a1, ()), a2, a3, a4, ())) (Q a0 a1 a2 a3 a4) := fun a0 a1 a2 a3 a4 => Tot.loop0 (L := fun k => B_Z35_L3 k (F_Z1 k) (F_i_nodeOk k) (F_Z14 k)) (B := fun k g => u_Z35_L3 (B_Z35_L3b k (F_Z1 k) (F_i_nodeOk k) (F_Z14 k) g)) (Q := u_Z35_L3 Q) (fun _ _ _ => rfl) (u_Z35_L3 I) (u_Z35_L3 μ)
    (fun t ht again hag h => step t.1.1 t.1.2.1 t.2.1 t.2.2.1 t.2.2.2.1 ht again hag fun y0 y1 y2 y3 y4 => h ((y0, y1, ()), y2, y3, y4, ())) ((a0, a1, ()), a2, a3, a4, ())
abbrev A_Z35_L2 (Z : Type) : Type := (List (Int × Int × List Int)) → Int → Int → (List (Int × Int × List Int)) → Int → Int → Z
abbrev u_Z35_L2 {Z : Type} (f : A_Z35_L2 Z) (t : T_Z35_L2) : Z := f t.1.1 t.1.2.1 t.2.1.1 t.2.2.1 t.2.2.2.1 t.2.2.2.2.1
theorem loop_Z35_L2 {Q : A_Z35_L2 (((Bool × Unit) × (Unit)) → Prop)} (I : A_Z35_L2 Prop) (μ : A_Z35_L2 Nat)
    (step : ∀ a0 a1 a2 a3 a4 a5, I a0 a1 a2 a3 a4 a5 → ∀ again : (Nat → Nat) → T_Z35_L2 → R_Z35, Dep 2 again → (∀ y0 y1 y2 y3 y4 y5, I y0 y1 y2 y3 y4 y5 → μ y0 y1 y2 y3 y4 y5 < μ a0 a1 a2 a3 a4 a5 → Tot (fun σ => again σ ((y0, y1, ()), (y2, ()), y3, y4, y5, ())) (Q y0 y1 y2 y3 y4 y5)) →
      Tot (fun σ => B_Z35_L2b (σ 0) (F_Z1 (σ 0)) (F_i_nodeOk (σ 0)) (F_Z14 (σ 0)) (again σ) a0 a1 a2 a3 a4 a5) (Q a0 a1 a2 a3 a4 a5)) :
    ∀ a0 a1 a2 a3 a4 a5, I a0 a1 a2 a3 a4 a5 → Tot (fun σ => B_Z35_L2 (σ 0) (F_Z1 (σ 0)) (F_i_nodeOk (σ 0)) (F_Z14 (σ 0)) (σ 0) ((a0, a1, ()), (a2, ()), a3, a4, a5, ())) (Q a0 a1 a2 a3 a4 a5) := fun a0 a1 a2 a3 a4 a5 => Tot.loop0 (L := fun k => B_Z35_L2 k (F_Z1 k) (F_i_nodeOk k) (F_Z14 k)) (B := fun k g => u_Z35_L2 (B_Z35_L2b k (F_Z1 k) (F_i_nodeOk k) (F_Z14 k) g)) (Q := u_Z35_L2 Q) (fun _ _ _ => rfl) (u_Z35_L2 I) (u_Z35_L2 μ)
    (fun t ht again hag h => step t.1.1 t.1.2.1 t.2.1.1 t.2.2.1 t.2.2.2.1 t.2.2.2.2.1 ht again hag fun y0 y1 y2 y3 y4 y5 => h ((y0, y1, ()), (y2, ()), y3, y4, y5, ())) ((a0, a1, ()), (a2, ()), a3, a4, a5, ())
abbrev R_Z48 : Type := Option ((Unit) × (((List (Int × Bool)) × Unit) × (List Int × Unit) × ((List (Int × Int × List Int)) × Int × Unit) × (Unit × Unit) × Unit))
abbrev C_Z48 : Type := Int → (List (Int × Bool)) → List Int → (List (Int × Int × List Int)) → Int → R_Z48
abbrev T_Z48_L0 : Type := ((List (Int × Bool)) × Unit) × (List Int × Unit) × ((List (Int × Int × List Int)) × Int × Unit) × (Unit × Unit) × List Int × Int × Int × Unit
def B_Z48_L0b (k : Nat) (c_Z48 : C_Z48) (again0 : T_Z48_L0 → R_Z48) (t1 : List (Int × Bool)) (t2 : List Int) (t3_Nodes : List (Int × Int × List Int)) (t3_Root : Int) (t22 : List Int) (t23 t24 : Int) : R_Z48 :=
  bif decide (t24 < t23) then
    chk (inb t24 t22.length) <|
    (c_Z48 (rdx (0 : Int) t22 t24) t1 t2 t3_Nodes t3_Root).bind fun r30 =>
    again0 ((r30.2.1.1, ()), (r30.2.2.1.1, ()), (r30.2.2.2.1.1, r30.2.2.2.1.2.1, ()), ((), ()), t22, t23, w64 (t24 + 1), ())
  else
    some ((), ((t1, ()), (t2, ()), (t3_Nodes, t3_Root, ()), ((), ()), ()))
def B_Z48_L0 (k : Nat) (c_Z48 : C_Z48) (n : Nat) (t : T_Z48_L0) : R_Z48 :=
  lfix n (fun again t => B_Z48_L0b k c_Z48 again t.1.1 t.2.1.1 t.2.2.1.1 t.2.2.1.2.1 t.2.2.2.2.1 t.2.2.2.2.2.1 t.2.2.2.2.2.2.1) t
def B_Z48 (k : Nat) (c_Z48 : C_Z48) (i : Int) (t1 : List (Int × Bool)) (t2 : List Int) (t3_Nodes : List (Int × Int × List Int)) (t3_Root : Int) : R_Z48 :=
  bif ((mfind t1 i).getD false) then
    some ((), ((t1, ()), (t2, ()), (t3_Nodes, t3_Root, ()), ((), ()), ()))
  else
    chk (room t2.length ([i]).length) <|
    chk (inb i t3_Nodes.length) <|
    B_Z48_L0 k c_Z48 k (((mput t1 i true), ()), ((t2 ++ [i]), ()), (t3_Nodes, t3_Root, ()), ((), ()), ((rdx ((0 : Int), ((0 : Int), ([] : List Int))) t3_Nodes i).2).2, len (((rdx ((0 : Int), ((0 : Int), ([] : List Int))) t3_Nodes i).2).2), 0, ())
def F_Z48 : Nat → C_Z48
  | 0, _, _, _, _, _ => none
  | k + 1, i, t1, t2, t3_Nodes, t3_Root => B_Z48 k (F_Z48 k) i t1 t2 t3_Nodes t3_Root
theorem F_Z48_succ (k : Nat) (i : Int) (t1 : List (Int × Bool)) (t2 : List Int) (t3_Nodes : List (Int × Int × List Int)) (t3_Root : Int) : F_Z48 (k + 1) i t1 t2 t3_Nodes t3_Root = B_Z48 k (F_Z48 k) i t1 t2 t3_Nodes t3_Root := by rw [F_Z48]
theorem tot_Z48 {i t1 t2 t3_Nodes t3_Root : _} {Q : _ → Prop} (h : Tot (fun σ => B_Z48 (σ 0) (F_Z48 (σ 0)) i t1 t2 t3_Nodes t3_Root) Q) : Tot (fun σ => F_Z48 (σ 0) i t1 t2 t3_Nodes t3_Root) Q :=
  Tot.call (F := fun k => F_Z48 k i t1 t2 t3_Nodes t3_Root) (B := fun k => B_Z48 k (F_Z48 k) i t1 t2 t3_Nodes t3_Root) (fun k => F_Z48_succ k i t1 t2 t3_Nodes t3_Root) h
abbrev A_Z48_L0 (Z : Type) : Type := (List (Int × Bool)) → List Int → (List (Int × Int × List Int)) → Int → List Int → Int → Int → Z
abbrev u_Z48_L0 {Z : Type} (f : A_Z48_L0 Z) (t : T_Z48_L0) : Z := f t.1.1 t.2.1.1 t.2.2.1.1 t.2.2.1.2.1 t.2.2.2.2.1 t.2.2.2.2.2.1 t.2.2.2.2.2.2.1
theorem loop_Z48_L0 {Q : A_Z48_L0 (((Unit) × (((List (Int × Bool)) × Unit) × (List Int × Unit) × ((List (Int × Int × List Int)) × Int × Unit) × (Unit × Unit) × Unit)) → Prop)} (I : A_Z48_L0 Prop) (μ : A_Z48_L0 Nat)
    (step : ∀ a0 a1 a2 a3 a4 a5 a6, I a0 a1 a2 a3 a4 a5 a6 → ∀ again : (Nat → Nat) → T_Z48_L0 → R_Z48, Dep 2 again → (∀ y0 y1 y2 y3 y4 y5 y6, I y0 y1 y2 y3 y4 y5 y6 → μ y0 y1 y2 y3 y4 y5 y6 < μ a0 a1 a2 a3 a4 a5 a6 → Tot (fun σ => again σ ((y0, ()), (y1, ()), (y2, y3, ()), ((), ()), y4, y5, y6, ())) (Q y0 y1 y2 y3 y4 y5 y6)) →
      Tot (fun σ => B_Z48_L0b (σ 0) (F_Z48 (σ 0)) (again σ) a0 a1 a2 a3 a4 a5 a6) (Q a0 a1 a2 a3 a4 a5 a6)) :
    ∀ a0 a1 a2 a3 a4 a5 a6, I a0 a1 a2 a3 a4 a5 a6 → Tot (fun σ => B_Z48_L0 (σ 0) (F_Z48 (σ 0)) (σ 0) ((a0, ()), (a1, ()), (a2, a3, ()), ((), ()), a4, a5, a6, ())) (Q a0 a1 a2 a3 a4 a5 a6) := fun a0 a1 a2 a3 a4 a5 a6 => Tot.loop0 (L := fun k => B_Z48_L0 k (F_Z48 k)) (B := fun k g => u_Z48_L0 (B_Z48_L0b k (F_Z48 k) g)) (Q := u_Z48_L0 Q) (fun _ _ _ => rfl) (u_Z48_L0 I) (u_Z48_L0 μ)
    (fun t ht again hag h => step t.1.1 t.2.1.1 t.2.2.1.1 t.2.2.1.2.1 t.2.2.2.2.1 t.2.2.2.2.2.1 t.2.2.2.2.2.2.1 ht again hag fun y0 y1 y2 y3 y4 y5 y6 => h ((y0, ()), (y1, ()), (y2, y3, ()), ((), ()), y4, y5, y6, ())) ((a0, ()), (a1, ()), (a2, a3, ()), ((), ()), a4, a5, a6, ())
abbrev R_Z58 : Type := Option ((List Int × Unit) × (Unit))
abbrev C_Z58 : Type := (List (Int × Int × List Int)) → Int → R_Z58
def B_Z58 (k : Nat) (c_Z48 : C_Z48) (g_0 : List (Int × Int × List Int)) (g_1 : Int) : R_Z58 :=
  (c_Z48 g_1 ([] : List (Int × Bool)) ([]) g_0 g_1).bind fun r12 =>
  some ((r12.2.2.1.1, ()), ())
def F_Z58 : Nat → C_Z58
  | 0, _, _ => none
  | k + 1, g_0, g_1 => B_Z58 k (F_Z48 k) g_0 g_1
theorem tot_Z58 {g_0 g_1 : _} {Q : _ → Prop} (h : Tot (fun σ => B_Z58 (σ 0) (F_Z48 (σ 0)) g_0 g_1) Q) : Tot (fun σ => F_Z58 (σ 0) g_0 g_1) Q :=
  Tot.call (F := fun k => F_Z58 k g_0 g_1) (B := fun k => B_Z58 k (F_Z48 k) g_0 g_1) (fun k => rfl) h
abbrev R_Z36 : Type := Option ((Bool × Unit) × (Unit))
abbrev C_Z36 : Type := Int → Int → List Int → R_Z36
def B_Z36 (k : Nat) (t0_0 t0_1 : Int) (t0_2 : List Int) : R_Z36 :=
  some ((true, ()), ())
def F_Z36 : Nat → C_Z36
  | 0, _, _, _ => none
  | k + 1, t0_0, t0_1, t0_2 => B_Z36 k t0_0 t0_1 t0_2
theorem tot_Z36 {t0_0 t0_1 t0_2 : _} {Q : _ → Prop} (h : Tot (fun σ => B_Z36 (σ 0) t0_0 t0_1 t0_2) Q) : Tot (fun σ => F_Z36 (σ 0) t0_0 t0_1 t0_2) Q :=
  Tot.call (F := fun k => F_Z36 k t0_0 t0_1 t0_2) (B := fun k => B_Z36 k t0_0 t0_1 t0_2) (fun k => rfl) h
abbrev R_Z18 : Type := Option ((Bool × Unit) × (Unit))
abbrev C_Z18 : Type := (List (Int × Int × List Int)) → Int → R_Z18
abbrev T_Z18_L2 : Type := (List (Int × Int × List Int)) × Int × Unit × (List (Int × Bool)) × List Int × List Int × Int × Int × Unit
abbrev T_Z18_L3 : Type := (List (Int × Int × List Int)) × Int × Unit × (List (Int × Bool)) × List Int × Unit
def B_Z18_J1 (k : Nat) (c_Z36 : C_Z36) (again2 : T_Z18_L2 → R_Z18) (nodes : List (Int × Int × List Int)) (from1 : Int) (seen : List (Int × Bool)) (list t33 : List Int) (t34 t35 : Int) : R_Z18 :=
  again2 (nodes, from1, (), seen, list, t33, t34, w64 (t35 + 1), ())
def B_Z18_J0 (k : Nat) (c_Z36 : C_Z36) (again2 : T_Z18_L2 → R_Z18) (nodes : List (Int × Int × List Int)) (from1 : Int) (seen : List (Int × Bool)) (list : List Int) (k11 : Int) (t33 : List Int) (t34 t35 : Int) (t53 : Bool) : R_Z18 :=
  bif t53 then
    chk (room list.length ([k11]).length) <|
    jn (fun t => B_Z18_J1 k c_Z36 again2 t.1 t.2.1 t.2.2.2.1 t.2.2.2.2.1 t.2.2.2.2.2.1 t.2.2.2.2.2.2.1 t.2.2.2.2.2.2.2.1) (nodes, from1, (), (mput seen k11 true), (list ++ [k11]), t33, t34, t35, ())
  else
    jn (fun t => B_Z18_J1 k c_Z36 again2 t.1 t.2.1 t.2.2.2.1 t.2.2.2.2.1 t.2.2.2.2.2.1 t.2.2.2.2.2.2.1 t.2.2.2.2.2.2.2.1) (nodes, from1, (), seen, list, t33, t34, t35, ())
def B_Z18_L2b (k : Nat) (c_Z36 : C_Z36) (again3 : T_Z18_L3 → R_Z18) (again2 : T_Z18_L2 → R_Z18) (nodes : List (Int × Int × List Int)) (from1 : Int) (seen : List (Int × Bool)) (list t33 : List Int) (t34 t35 : Int) : R_Z18 :=
  bif decide (t35 < t34) then
    chk (inb t35 t33.length) <|
    bif ((rdx (0 : Int) t33 t35) == from1) then
      some ((true, ()), ())
    else
      chk (inb (rdx (0 : Int) t33 t35) nodes.length) <|
      (c_Z36 ((rdx ((0 : Int), ((0 : Int), ([] : List Int))) nodes (rdx (0 : Int) t33 t35)).1) (((rdx ((0 : Int), ((0 : Int), ([] : List Int))) nodes (rdx (0 : Int) t33 t35)).2).1) (((rdx ((0 : Int), ((0 : Int), ([] : List Int))) nodes (rdx (0 : Int) t33 t35)).2).2)).bind fun r47 =>
      bif r47.1.1 then
        jn (fun t => B_Z18_J0 k c_Z36 again2 t.1 t.2.1 t.2.2.2.1 t.2.2.2.2.1 t.2.2.2.2.2.1 t.2.2.2.2.2.2.1 t.2.2.2.2.2.2.2.1 t.2.2.2.2.2.2.2.2.1 t.2.2.2.2.2.2.2.2.2.1) (nodes, from1, (), seen, list, (rdx (0 : Int) t33 t35), t33, t34, t35, (!((mfind seen (rdx (0 : Int) t33 t35)).getD false)), ())
      else
        jn (fun t => B_Z18_J0 k c_Z36 again2 t.1 t.2.1 t.2.2.2.1 t.2.2.2.2.1 t.2.2.2.2.2.1 t.2.2.2.2.2.2.1 t.2.2.2.2.2.2.2.1 t.2.2.2.2.2.2.2.2.1 t.2.2.2.2.2.2.2.2.2.1) (nodes, from1, (), seen, list, (rdx (0 : Int) t33 t35), t33, t34, t35, false, ())
  else
    again3 (nodes, from1, (), seen, list, ())
def B_Z18_L2 (k : Nat) (c_Z36 : C_Z36) (again3 : T_Z18_L3 → R_Z18) (n : Nat) (t : T_Z18_L2) : R_Z18 :=
  lfix n (fun again t => B_Z18_L2b k c_Z36 again3 again t.1 t.2.1 t.2.2.2.1 t.2.2.2.2.1 t.2.2.2.2.2.1 t.2.2.2.2.2.2.1 t.2.2.2.2.2.2.2.1) t
def B_Z18_L3b (k : Nat) (c_Z36 : C_Z36) (again3 : T_Z18_L3 → R_Z18) (nodes : List (Int × Int × List Int)) (from1 : Int) (seen : List (Int × Bool)) (list : List Int) : R_Z18 :=
  bif decide ((len list) > 0) then
    chk (inb (w64 ((len list) - 1)) list.length) <|
    chk (decide ((w64 ((len list) - 1)).toNat < list.length)) <|
    chk (cutb 0 (w64 ((len list) - 1)) list.length) <|
    chk (inb (list.getD ((w64 ((len list) - 1)).toNat) (0 : Int)) nodes.length) <|
    let v34 : Int := len (((rdx ((0 : Int), ((0 : Int), ([] : List Int))) nodes (list.getD ((w64 ((len list) - 1)).toNat) (0 : Int))).2).2)
    B_Z18_L2 k c_Z36 again3 k (nodes, from1, (), seen, (list.take ((w64 ((len list) - 1)).toNat)), ((rdx ((0 : Int), ((0 : Int), ([] : List Int))) nodes (list.getD ((w64 ((len list) - 1)).toNat) (0 : Int))).2).2, v34, 0, ())
  else
    some ((false, ()), ())
def B_Z18_L3 (k : Nat) (c_Z36 : C_Z36) (n : Nat) (t : T_Z18_L3) : R_Z18 :=
  lfix n (fun again t => B_Z18_L3b k c_Z36 again t.1 t.2.1 t.2.2.2.1 t.2.2.2.2.1) t
def B_Z18 (k : Nat) (c_Z36 : C_Z36) (nodes : List (Int × Int × List Int)) (from1 : Int) : R_Z18 :=
  B_Z18_L3 k c_Z36 k (nodes, from1, (), ([] : List (Int × Bool)), [from1], ())
def F_Z18 : Nat → C_Z18
  | 0, _, _ => none
  | k + 1, nodes, from1 => B_Z18 k (F_Z36 k) nodes from1
theorem tot_Z18 {nodes from1 : _} {Q : _ → Prop} (h : Tot (fun σ => B_Z18 (σ 0) (F_Z36 (σ 0)) nodes from1) Q) : Tot (fun σ => F_Z18 (σ 0) nodes from1) Q :=
  Tot.call (F := fun k => F_Z18 k nodes from1) (B := fun k => B_Z18 k (F_Z36 k) nodes from1) (fun k => rfl) h
abbrev A_Z18_L2 (Z : Type) : Type := (List (Int × Int × List Int)) → Int → (List (Int × Bool)) → List Int → List Int → Int → Int → Z
abbrev u_Z18_L2 {Z : Type} (f : A_Z18_L2 Z) (t : T_Z18_L2) : Z := f t.1 t.2.1 t.2.2.2.1 t.2.2.2.2.1 t.2.2.2.2.2.1 t.2.2.2.2.2.2.1 t.2.2.2.2.2.2.2.1
theorem loop_Z18_L2 {again3 : (Nat → Nat) → T_Z18_L3 → R_Z18} (hag3 : Dep 2 again3) {Q : A_Z18_L2 (((Bool × Unit) × (Unit)) → Prop)} (I : A_Z18_L2 Prop) (μ : A_Z18_L2 Nat)
    (step : ∀ a0 a1 a2 a3 a4 a5 a6, I a0 a1 a2 a3 a4 a5 a6 → ∀ again : (Nat → Nat) → T_Z18_L2 → R_Z18, Dep 3 again → (∀ y0 y1 y2 y3 y4 y5 y6, I y0 y1 y2 y3 y4 y5 y6 → μ y0 y1 y2 y3 y4 y5 y6 < μ a0 a1 a2 a3 a4 a5 a6 → Tot (fun σ => again σ (y0, y1, (), y2, y3, y4, y5, y6, ())) (Q y0 y1 y2 y3 y4 y5 y6)) →
      Tot (fun σ => B_Z18_L2b (σ 0) (F_Z36 (σ 0)) (again3 σ) (again σ) a0 a1 a2 a3 a4 a5 a6) (Q a0 a1 a2 a3 a4 a5 a6)) :
    ∀ a0 a1 a2 a3 a4 a5 a6, I a0 a1 a2 a3 a4 a5 a6 → Tot (fun σ => B_Z18_L2 (σ 0) (F_Z36 (σ 0)) (again3 σ) (σ 0) (a0, a1, (), a2, a3, a4, a5, a6, ())) (Q a0 a1 a2 a3 a4 a5 a6) := fun a0 a1 a2 a3 a4 a5 a6 => Tot.loop (L := fun σ n t => B_Z18_L2 (σ 0) (F_Z36 (σ 0)) (again3 σ) n t) (B := fun σ g => u_Z18_L2 (B_Z18_L2b (σ 0) (F_Z36 (σ 0)) (again3 σ) g)) (Q := u_Z18_L2 Q) 2 (by decide)
    (fun s s' h => by have e0 : s 0 = s' 0 := h 0 (by decide); simp only [e0, hag3 s s' h]) (fun s s' h => by have e0 : s 0 = s' 0 := h 0 (by decide); simp only [e0, hag3 s s' h]) (fun _ _ _ => rfl) (u_Z18_L2 I) (u_Z18_L2 μ)
    (fun t ht again hag h => step t.1 t.2.1 t.2.2.2.1 t.2.2.2.2.1 t.2.2.2.2.2.1 t.2.2.2.2.2.2.1 t.2.2.2.2.2.2.2.1 ht again hag fun y0 y1 y2 y3 y4 y5 y6 => h (y0, y1, (), y2, y3, y4, y5, y6, ())) (a0, a1, (), a2, a3, a4, a5, a6, ())
abbrev A_Z18_L3 (Z : Type) : Type := (List (Int × Int × List Int)) → Int → (List (Int × Bool)) → List Int → Z
abbrev u_Z18_L3 {Z : Type} (f : A_Z18_L3 Z) (t : T_Z18_L3) : Z := f t.1 t.2.1 t.2.2.2.1 t.2.2.2.2.1
theorem loop_Z18_L3 {Q : A_Z18_L3 (((Bool × Unit) × (Unit)) → Prop)} (I : A_Z18_L3 Prop) (μ : A_Z18_L3 Nat)
    (step : ∀ a0 a1 a2 a3, I a0 a1 a2 a3 → ∀ again : (Nat → Nat) → T_Z18_L3 → R_Z18, Dep 2 again → (∀ y0 y1 y2 y3, I y0 y1 y2 y3 → μ y0 y1 y2 y3 < μ a0 a1 a2 a3 → Tot (fun σ => again σ (y0, y1, (), y2, y3, ())) (Q y0 y1 y2 y3)) →
      Tot (fun σ => B_Z18_L3b (σ 0) (F_Z36 (σ 0)) (again σ) a0 a1 a2 a3) (Q a0 a1 a2 a3)) :
    ∀ a0 a1 a2 a3, I a0 a1 a2 a3 → Tot (fun σ => B_Z18_L3 (σ 0) (F_Z36 (σ 0)) (σ 0) (a0, a1, (), a2, a3, ())) (Q a0 a1 a2 a3) := fun a0 a1 a2 a3 => Tot.loop0 (L := fun k => B_Z18_L3 k (F_Z36 k)) (B := fun k g => u_Z18_L3 (B_Z18_L3b k (F_Z36 k) g)) (Q := u_Z18_L3 Q) (fun _ _ _ => rfl) (u_Z18_L3 I) (u_Z18_L3 μ)
    (fun t ht again hag h => step t.1 t.2.1 t.2.2.2.1 t.2.2.2.2.1 ht again hag fun y0 y1 y2 y3 => h (y0, y1, (), y2, y3, ())) (a0, a1, (), a2, a3, ())
abbrev R_Z53 : Type := Option ((Int × Unit) × (Unit))
abbrev C_Z53 : Type := Int → R_Z53
def B_Z53_J2 (k : Nat) (x n2 : Int) : R_Z53 :=
  chk (inb (wu8 (x)) (ByteArray.mk #[0, 1, 2, 2, 3, 3, 3, 3, 4, 4, 4, 4, 4, 4, 4, 4, 5, 5, 5, 5, 5, 5, 5, 5, 5, 5, 5, 5, 5, 5, 5, 5, 6, 6, 6, 6, 6, 6, 6, 6, 6, 6, 6, 6, 6, 6, 6, 6, 6, 6, 6, 6, 6, 6, 6, 6, 6, 6, 6, 6, 6, 6, 6, 6, 7, 7, 7, 7, 7, 7, 7, 7, 7, 7, 7, 7, 7, 7, 7, 7, 7, 7, 7, 7, 7, 7, 7, 7, 7, 7, 7, 7, 7, 7, 7, 7, 7, 7, 7, 7, 7, 7, 7, 7, 7, 7, 7, 7, 7, 7, 7, 7, 7, 7, 7, 7, 7, 7, 7, 7, 7, 7, 7, 7, 7, 7, 7, 7, 8, 8, 8, 8, 8, 8, 8, 8, 8, 8, 8, 8, 8, 8, 8, 8, 8, 8, 8, 8, 8, 8, 8, 8, 8, 8, 8, 8, 8, 8, 8, 8, 8, 8, 8, 8, 8, 8, 8, 8, 8, 8, 8, 8, 8, 8, 8, 8, 8, 8, 8, 8, 8, 8, 8, 8, 8, 8, 8, 8, 8, 8, 8, 8, 8, 8, 8, 8, 8, 8, 8, 8, 8, 8, 8, 8, 8, 8, 8, 8, 8, 8, 8, 8, 8, 8, 8, 8, 8, 8, 8, 8, 8, 8, 8, 8, 8, 8, 8, 8, 8, 8, 8, 8, 8, 8, 8, 8, 8, 8, 8, 8, 8, 8, 8, 8, 8, 8, 8, 8, 8, 8, 8, 8, 8, 8, 8, 8]).size) <|
  let v22 : Int := (btx (ByteArray.mk #[0, 1, 2, 2, 3, 3, 3, 3, 4, 4, 4, 4, 4, 4, 4, 4, 5, 5, 5, 5, 5, 5, 5, 5, 5, 5, 5, 5, 5, 5, 5, 5, 6, 6, 6, 6, 6, 6, 6, 6, 6, 6, 6, 6, 6, 6, 6, 6, 6, 6, 6, 6, 6, 6, 6, 6, 6, 6, 6, 6, 6, 6, 6, 6, 7, 7, 7, 7, 7, 7, 7, 7, 7, 7, 7, 7, 7, 7, 7, 7, 7, 7, 7, 7, 7, 7, 7, 7, 7, 7, 7, 7, 7, 7, 7, 7, 7, 7, 7, 7, 7, 7, 7, 7, 7, 7, 7, 7, 7, 7, 7, 7, 7, 7, 7, 7, 7, 7, 7, 7, 7, 7, 7, 7, 7, 7, 7, 7, 8, 8, 8, 8, 8, 8, 8, 8, 8, 8, 8, 8, 8, 8, 8, 8, 8, 8, 8, 8, 8, 8, 8, 8, 8, 8, 8, 8, 8, 8, 8, 8, 8, 8, 8, 8, 8, 8, 8, 8, 8, 8, 8, 8, 8, 8, 8, 8, 8, 8, 8, 8, 8, 8, 8, 8, 8, 8, 8, 8, 8, 8, 8, 8, 8, 8, 8, 8, 8, 8, 8, 8, 8, 8, 8, 8, 8, 8, 8, 8, 8, 8, 8, 8, 8, 8, 8, 8, 8, 8, 8, 8, 8, 8, 8, 8, 8, 8, 8, 8, 8, 8, 8, 8, 8, 8, 8, 8, 8, 8, 8, 8, 8, 8, 8, 8, 8, 8, 8, 8, 8, 8, 8, 8, 8, 8, 8, 8]) (wu8 (x)))
  some ((w64 (n2 + (w64 (v22))), ()), ())
def B_Z53_J1 (k : Nat) (x n2 : Int) : R_Z53 :=
  bif decide (x ≥ 256) then
    jn (fun t => B_Z53_J2 k t.1 t.2.1) ((shrK .u64 x 8), w64 (n2 + 8), ())
  else
    jn (fun t => B_Z53_J2 k t.1 t.2.1) (x, n2, ())
def B_Z53_J0 (k : Nat) (x n2 : Int) : R_Z53 :=
  bif decide (x ≥ 65536) then
    jn (fun t => B_Z53_J1 k t.1 t.2.1) ((shrK .u64 x 16), w64 (n2 + 16), ())
  else
    jn (fun t => B_Z53_J1 k t.1 t.2.1) (x, n2, ())
def B_Z53 (k : Nat) (x : Int) : R_Z53 :=
  bif decide (x ≥ 4294967296) then
    jn (fun t => B_Z53_J0 k t.1 t.2.1) ((shrK .u64 x 32), 32, ())
  else
    jn (fun t => B_Z53_J0 k t.1 t.2.1) (x, 0, ())
def F_Z53 : Nat → C_Z53
  | 0, _ => none
  | k + 1, x => B_Z53 k x
theorem tot_Z53 {x : _} {Q : _ → Prop} (h : Tot (fun σ => B_Z53 (σ 0) x) Q) : Tot (fun σ => F_Z53 (σ 0) x) Q :=
  Tot.call (F := fun k => F_Z53 k x) (B := fun k => B_Z53 k x) (fun k => rfl) h
abbrev R_bits_Len : Type := Option ((Int × Unit) × (Unit))
abbrev C_bits_Len : Type := Int → R_bits_Len
def B_bits_Len (k : Nat) (c_Z53 : C_Z53) (x : Int) : R_bits_Len :=
  (c_Z53 x).bind fun r7 =>
  some ((r7.1.1, ()), ())
def F_bits_Len : Nat → C_bits_Len
  | 0, _ => none
  | k + 1, x => B_bits_Len k (F_Z53 k) x
theorem tot_bits_Len {x : _} {Q : _ → Prop} (h : Tot (fun σ => B_bits_Len (σ 0) (F_Z53 (σ 0)) x) Q) : Tot (fun σ => F_bits_Len (σ 0) x) Q :=
  Tot.call (F := fun k => F_bits_Len k x) (B := fun k => B_bits_Len k (F_Z53 k) x) (fun k => rfl) h
abbrev R_Z30 : Type := Option ((Bool × Unit) × (Unit))
abbrev C_Z30 : Type := Int → R_Z30
def B_Z30 (k : Nat) (x : Int) : R_Z30 :=
  some (((x != x), ()), ())
def F_Z30 : Nat → C_Z30
  | 0, _ => none
  | k + 1, x => B_Z30 k x
theorem tot_Z30 {x : _} {Q : _ → Prop} (h : Tot (fun σ => B_Z30 (σ 0) x) Q) : Tot (fun σ => F_Z30 (σ 0) x) Q :=
  Tot.call (F := fun k => F_Z30 k x) (B := fun k => B_Z30 k x) (fun k => rfl) h
abbrev R_Z33 : Type := Option ((Bool × Unit) × (Unit))
abbrev C_Z33 : Type := Int → Int → R_Z33
def B_Z33 (k : Nat) (c_Z30 : C_Z30) (x y : Int) : R_Z33 :=
  (c_Z30 x).bind fun r6 =>
  bif r6.1.1 then
    (c_Z30 y).bind fun r9 =>
    bif (!r9.1.1) then
      some ((true, ()), ())
    else
      some ((decide (x < y), ()), ())
  else
    some ((decide (x < y), ()), ())
def F_Z33 : Nat → C_Z33
  | 0, _, _ => none
  | k + 1, x, y => B_Z33 k (F_Z30 k) x y
theorem tot_Z33 {x y : _} {Q : _ → Prop} (h : Tot (fun σ => B_Z33 (σ 0) (F_Z30 (σ 0)) x y) Q) : Tot (fun σ => F_Z33 (σ 0) x y) Q :=
  Tot.call (F := fun k => F_Z33 k x y) (B := fun k => B_Z33 k (F_Z30 k) x y) (fun k => rfl) h
abbrev R_Z7 : Type := Option ((Unit) × (List Int × Unit))
abbrev C_Z7 : Type := List Int → Int → Int → R_Z7
abbrev T_Z7_L1 : Type := List Int × Int × Int × Int × Int × Unit
abbrev T_Z7_L2 : Type := List Int × Int × Int × Int × Unit
def B_Z7_J0 (k : Nat) (c_Z33 : C_Z33) (again1 : T_Z7_L1 → R_Z7) (again2 : T_Z7_L2 → R_Z7) (data : List Int) (a b i j : Int) (t30 : Bool) : R_Z7 :=
  bif t30 then
    chk (inb (w64 (j - 1)) data.length) <|
    chk (decide ((w64 (j - 1)).toNat < data.length)) <|
    chk (inb j data.length) <|
    chk (decide (j.toNat < data.length)) <|
    chk (inb j data.length) <|
    chk (decide (j.toNat < data.length)) <|
    chk (inb (w64 (j - 1)) (data.set j.toNat (data.getD ((w64 (j - 1)).toNat) (0 : Int))).length) <|
    chk (decide ((w64 (j - 1)).toNat < (data.set j.toNat (data.getD ((w64 (j - 1)).toNat) (0 : Int))).length)) <|
    again1 (((data.set j.toNat (data.getD ((w64 (j - 1)).toNat) (0 : Int))).set ((w64 (j - 1)).toNat) (data.getD j.toNat (0 : Int))), a, b, i, w64 (j - 1), ())
  else
    again2 (data, a, b, w64 (i + 1), ())
def B_Z7_L1b (k : Nat) (c_Z33 : C_Z33) (again2 : T_Z7_L2 → R_Z7) (again1 : T_Z7_L1 → R_Z7) (data : List Int) (a b i j : Int) : R_Z7 :=
  bif decide (j > a) then
    chk (inb j data.length) <|
    chk (decide (j.toNat < data.length)) <|
    chk (inb (w64 (j - 1)) data.length) <|
    chk (decide ((w64 (j - 1)).toNat < data.length)) <|
    (c_Z33 (data.getD j.toNat (0 : Int)) (data.getD ((w64 (j - 1)).toNat) (0 : Int))).bind fun r29 =>
    jn (fun t => B_Z7_J0 k c_Z33 again1 again2 t.1 t.2.1 t.2.2.1 t.2.2.2.1 t.2.2.2.2.1 t.2.2.2.2.2.1) (data, a, b, i, j, r29.1.1, ())
  else
    jn (fun t => B_Z7_J0 k c_Z33 again1 again2 t.1 t.2.1 t.2.2.1 t.2.2.2.1 t.2.2.2.2.1 t.2.2.2.2.2.1) (data, a, b, i, j, false, ())
def B_Z7_L1 (k : Nat) (c_Z33 : C_Z33) (again2 : T_Z7_L2 → R_Z7) (n : Nat) (t : T_Z7_L1) : R_Z7 :=
  lfix n (fun again t => B_Z7_L1b k c_Z33 again2 again t.1 t.2.1 t.2.2.1 t.2.2.2.1 t.2.2.2.2.1) t
def B_Z7_L2b (k : Nat) (c_Z33 : C_Z33) (again2 : T_Z7_L2 → R_Z7) (data : List Int) (a b i : Int) : R_Z7 :=
  bif decide (i < b) then
    B_Z7_L1 k c_Z33 again2 k (data, a, b, i, i, ())
  else
    some ((), (data, ()))
def B_Z7_L2 (k : Nat) (c_Z33 : C_Z33) (n : Nat) (t : T_Z7_L2) : R_Z7 :=
  lfix n (fun again t => B_Z7_L2b k c_Z33 again t.1 t.2.1 t.2.2.1 t.2.2.2.1) t
def B_Z7 (k : Nat) (c_Z33 : C_Z33) (data : List Int) (a b : Int) : R_Z7 :=
  B_Z7_L2 k c_Z33 k (data, a, b, w64 (a + 1), ())
def F_Z7 : Nat → C_Z7
  | 0, _, _, _ => none
  | k + 1, data, a, b => B_Z7 k (F_Z33 k) data a b
theorem tot_Z7 {data a b : _} {Q : _ → Prop} (h : Tot (fun σ => B_Z7 (σ 0) (F_Z33 (σ 0)) data a b) Q) : Tot (fun σ => F_Z7 (σ 0) data a b) Q :=
  Tot.call (F := fun k => F_Z7 k data a b) (B := fun k => B_Z7 k (F_Z33 k) data a b) (fun k => rfl) h
abbrev A_Z7_L1 (Z : Type) : Type := List Int → Int → Int → Int → Int → Z
abbrev u_Z7_L1 {Z : Type} (f : A_Z7_L1 Z) (t : T_Z7_L1) : Z := f t.1 t.2.1 t.2.2.1 t.2.2.2.1 t.2.2.2.2.1
theorem loop_Z7_L1 {again2 : (Nat → Nat) → T_Z7_L2 → R_Z7} (hag2 : Dep 2 again2) {Q : A_Z7_L1 (((Unit) × (List Int × Unit)) → Prop)} (I : A_Z7_L1 Prop) (μ : A_Z7_L1 Nat)
    (step : ∀ a0 a1 a2 a3 a4, I a0 a1 a2 a3 a4 → ∀ again : (Nat → Nat) → T_Z7_L1 → R_Z7, Dep 3 again → (∀ y0 y1 y2 y3 y4, I y0 y1 y2 y3 y4 → μ y0 y1 y2 y3 y4 < μ a0 a1 a2 a3 a4 → Tot (fun σ => again σ (y0, y1, y2, y3, y4, ())) (Q y0 y1 y2 y3 y4)) →
      Tot (fun σ => B_Z7_L1b (σ 0) (F_Z33 (σ 0)) (again2 σ) (again σ) a0 a1 a2 a3 a4) (Q a0 a1 a2 a3 a4)) :
    ∀ a0 a1 a2 a3 a4, I a0 a1 a2 a3 a4 → Tot (fun σ => B_Z7_L1 (σ 0) (F_Z33 (σ 0)) (again2 σ) (σ 0) (a0, a1, a2, a3, a4, ())) (Q a0 a1 a2 a3 a4) := fun a0 a1 a2 a3 a4 => Tot.loop (L := fun σ n t => B_Z7_L1 (σ 0) (F_Z33 (σ 0)) (again2 σ) n t) (B := fun σ g => u_Z7_L1 (B_Z7_L1b (σ 0) (F_Z33 (σ 0)) (again2 σ) g)) (Q := u_Z7_L1 Q) 2 (by decide)
    (fun s s' h => by have e0 : s 0 = s' 0 := h 0 (by decide); simp only [e0, hag2 s s' h]) (fun s s' h => by have e0 : s 0 = s' 0 := h 0 (by decide); simp only [e0, hag2 s s' h]) (fun _ _ _ => rfl) (u_Z7_L1 I) (u_Z7_L1 μ)
    (fun t ht again hag h => step t.1 t.2.1 t.2.2.1 t.2.2.2.1 t.2.2.2.2.1 ht again hag fun y0 y1 y2 y3 y4 => h (y0, y1, y2, y3, y4, ())) (a0, a1, a2, a3, a4, ())
abbrev A_Z7_L2 (Z : Type) : Type := List Int → Int → Int → Int → Z
abbrev u_Z7_L2 {Z : Type} (f : A_Z7_L2 Z) (t : T_Z7_L2) : Z := f t.1 t.2.1 t.2.2.1 t.2.2.2.1
theorem loop_Z7_L2 {Q : A_Z7_L2 (((Unit) × (List Int × Unit)) → Prop)} (I : A_Z7_L2 Prop) (μ : A_Z7_L2 Nat)
    (step : ∀ a0 a1 a2 a3, I a0 a1 a2 a3 → ∀ again : (Nat → Nat) → T_Z7_L2 → R_Z7, Dep 2 again → (∀ y0 y1 y2 y3, I y0 y1 y2 y3 → μ y0 y1 y2 y3 < μ a0 a1 a2 a3 → Tot (fun σ => again σ (y0, y1, y2, y3, ())) (Q y0 y1 y2 y3)) →
      Tot (fun σ => B_Z7_L2b (σ 0) (F_Z33 (σ 0)) (again σ) a0 a1 a2 a3) (Q a0 a1 a2 a3)) :
    ∀ a0 a1 a2 a3, I a0 a1 a2 a3 → Tot (fun σ => B_Z7_L2 (σ 0) (F_Z33 (σ 0)) (σ 0) (a0, a1, a2, a3, ())) (Q a0 a1 a2 a3) := fun a0 a1 a2 a3 => Tot.loop0 (L := fun k => B_Z7_L2 k (F_Z33 k)) (B := fun k g => u_Z7_L2 (B_Z7_L2b k (F_Z33 k) g)) (Q := u_Z7_L2 Q) (fun _ _ _ => rfl) (u_Z7_L2 I) (u_Z7_L2 μ)
    (fun t ht again hag h => step t.1 t.2.1 t.2.2.1 t.2.2.2.1 ht again hag fun y0 y1 y2 y3 => h (y0, y1, y2, y3, ())) (a0, a1, a2, a3, ())
abbrev R_Z12 : Type := Option ((Unit) × (List Int × Unit))
abbrev C_Z12 : Type := List Int → Int → Int → Int → R_Z12
abbrev T_Z12_L2 : Type := List Int × Int × Int × Int × Unit
def B_Z12_J1 (k : Nat) (c_Z33 : C_Z33) (again2 : T_Z12_L2 → R_Z12) (data : List Int) (hi first root child : Int) : R_Z12 :=
  chk (inb (w64 (first + root)) data.length) <|
  chk (decide ((w64 (first + root)).toNat < data.length)) <|
  chk (inb (w64 (first + child)) data.length) <|
  chk (decide ((w64 (first + child)).toNat < data.length)) <|
  (c_Z33 (data.getD ((w64 (first + root)).toNat) (0 : Int)) (data.getD ((w64 (first + child)).toNat) (0 : Int))).bind fun r51 =>
  bif (!r51.1.1) then
    some ((), (data, ()))
  else
    chk (inb (w64 (first + child)) data.length) <|
    chk (decide ((w64 (first + child)).toNat < data.length)) <|
    chk (inb (w64 (first + root)) data.length) <|
    chk (decide ((w64 (first + root)).toNat < data.length)) <|
    chk (inb (w64 (first + root)) data.length) <|
    chk (decide ((w64 (first + root)).toNat < data.length)) <|
    chk (inb (w64 (first + child)) (data.set ((w64 (first + root)).toNat) (data.getD ((w64 (first + child)).toNat) (0 : Int))).length) <|
    chk (decide ((w64 (first + child)).toNat < (data.set ((w64 (first + root)).toNat) (data.getD ((w64 (first + child)).toNat) (0 : Int))).length)) <|
    again2 (((data.set ((w64 (first + root)).toNat) (data.getD ((w64 (first + child)).toNat) (0 : Int))).set ((w64 (first + child)).toNat) (data.getD ((w64 (first + root)).toNat) (0 : Int))), hi, first, child, ())
def B_Z12_J0 (k : Nat) (c_Z33 : C_Z33) (again2 : T_Z12_L2 → R_Z12) (data : List Int) (hi first root child : Int) (t36 : Bool) : R_Z12 :=
  bif t36 then
    jn (fun t => B_Z12_J1 k c_Z33 again2 t.1 t.2.1 t.2.2.1 t.2.2.2.1 t.2.2.2.2.1) (data, hi, first, root, w64 (child + 1), ())
  else
    jn (fun t => B_Z12_J1 k c_Z33 again2 t.1 t.2.1 t.2.2.1 t.2.2.2.1 t.2.2.2.2.1) (data, hi, first, root, child, ())
def B_Z12_L2b (k : Nat) (c_Z33 : C_Z33) (again2 : T_Z12_L2 → R_Z12) (data : List Int) (hi first root : Int) : R_Z12 :=
  bif decide ((w64 ((w64 (2 * root)) + 1)) ≥ hi) then
    some ((), (data, ()))
  else
    bif decide ((w64 ((w64 ((w64 (2 * root)) + 1)) + 1)) < hi) then
      chk (inb (w64 (first + (w64 ((w64 (2 * root)) + 1)))) data.length) <|
      chk (decide ((w64 (first + (w64 ((w64 (2 * root)) + 1)))).toNat < data.length)) <|
      chk (inb (w64 ((w64 (first + (w64 ((w64 (2 * root)) + 1)))) + 1)) data.length) <|
      chk (decide ((w64 ((w64 (first + (w64 ((w64 (2 * root)) + 1)))) + 1)).toNat < data.length)) <|
      (c_Z33 (data.getD ((w64 (first + (w64 ((w64 (2 * root)) + 1)))).toNat) (0 : Int)) (data.getD ((w64 ((w64 (first + (w64 ((w64 (2 * root)) + 1)))) + 1)).toNat) (0 : Int))).bind fun r35 =>
      jn (fun t => B_Z12_J0 k c_Z33 again2 t.1 t.2.1 t.2.2.1 t.2.2.2.1 t.2.2.2.2.1 t.2.2.2.2.2.1) (data, hi, first, root, w64 ((w64 (2 * root)) + 1), r35.1.1, ())
    else
      jn (fun t => B_Z12_J0 k c_Z33 again2 t.1 t.2.1 t.2.2.1 t.2.2.2.1 t.2.2.2.2.1 t.2.2.2.2.2.1) (data, hi, first, root, w64 ((w64 (2 * root)) + 1), false, ())
def B_Z12_L2 (k : Nat) (c_Z33 : C_Z33) (n : Nat) (t : T_Z12_L2) : R_Z12 :=
  lfix n (fun again t => B_Z12_L2b k c_Z33 again t.1 t.2.1 t.2.2.1 t.2.2.2.1) t
def B_Z12 (k : Nat) (c_Z33 : C_Z33) (data : List Int) (lo hi first : Int) : R_Z12 :=
  B_Z12_L2 k c_Z33 k (data, hi, first, lo, ())
def F_Z12 : Nat → C_Z12
  | 0, _, _, _, _ => none
  | k + 1, data, lo, hi, first => B_Z12 k (F_Z33 k) data lo hi first
theorem tot_Z12 {data lo hi first : _} {Q : _ → Prop} (h : Tot (fun σ => B_Z12 (σ 0) (F_Z33 (σ 0)) data lo hi first) Q) : Tot (fun σ => F_Z12 (σ 0) data lo hi first) Q :=
  Tot.call (F := fun k => F_Z12 k data lo hi first) (B := fun k => B_Z12 k (F_Z33 k) data lo hi first) (fun k => rfl) h
abbrev A_Z12_L2 (Z : Type) : Type := List Int → Int → Int → Int → Z
abbrev u_Z12_L2 {Z : Type} (f : A_Z12_L2 Z) (t : T_Z12_L2) : Z := f t.1 t.2.1 t.2.2.1 t.2.2.2.1
theorem loop_Z12_L2 {Q : A_Z12_L2 (((Unit) × (List Int × Unit)) → Prop)} (I : A_Z12_L2 Prop) (μ : A_Z12_L2 Nat)
    (step : ∀ a0 a1 a2 a3, I a0 a1 a2 a3 → ∀ again : (Nat → Nat) → T_Z12_L2 → R_Z12, Dep 2 again → (∀ y0 y1 y2 y3, I y0 y1 y2 y3 → μ y0 y1 y2 y3 < μ a0 a1 a2 a3 → Tot (fun σ => again σ (y0, y1, y2, y3, ())) (Q y0 y1 y2 y3)) →
      Tot (fun σ => B_Z12_L2b (σ 0) (F_Z33 (σ 0)) (again σ) a0 a1 a2 a3) (Q a0 a1 a2 a3)) :
    ∀ a0 a1 a2 a3, I a0 a1 a2 a3 → Tot (fun σ => B_Z12_L2 (σ 0) (F_Z33 (σ 0)) (σ 0) (a0, a1, a2, a3, ())) (Q a0 a1 a2 a3) := fun a0 a1 a2 a3 => Tot.loop0 (L := fun k => B_Z12_L2 k (F_Z33 k)) (B := fun k g => u_Z12_L2 (B_Z12_L2b k (F_Z33 k) g)) (Q := u_Z12_L2 Q) (fun _ _ _ => rfl) (u_Z12_L2 I) (u_Z12_L2 μ)
    (fun t ht again hag h => step t.1 t.2.1 t.2.2.1 t.2.2.2.1 ht again hag fun y0 y1 y2 y3 => h (y0, y1, y2, y3, ())) (a0, a1, a2, a3, ())
abbrev R_Z13 : Type := Option ((Unit) × (List Int × Unit))
abbrev C_Z13 : Type := List Int → Int → Int → R_Z13
abbrev T_Z13_L1 : Type := List Int × Int × Int × Int × Unit
abbrev T_Z13_L0 : Type := List Int × Int × Int × Int × Int × Unit
def B_Z13_L1b (k : Nat) (c_Z12 : C_Z12) (again1 : T_Z13_L1 → R_Z13) (data : List Int) (first lo i : Int) : R_Z13 :=
  bif decide (i ≥ 0) then
    chk (inb (w64 (first + i)) data.length) <|
    chk (decide ((w64 (first + i)).toNat < data.length)) <|
    chk (inb first data.length) <|
    chk (decide (first.toNat < data.length)) <|
    chk (inb first data.length) <|
    chk (decide (first.toNat < data.length)) <|
    chk (inb (w64 (first + i)) (data.set first.toNat (data.getD ((w64 (first + i)).toNat) (0 : Int))).length) <|
    chk (decide ((w64 (first + i)).toNat < (data.set first.toNat (data.getD ((w64 (first + i)).toNat) (0 : Int))).length)) <|
    (c_Z12 ((data.set first.toNat (data.getD ((w64 (first + i)).toNat) (0 : Int))).set ((w64 (first + i)).toNat) (data.getD first.toNat (0 : Int))) lo i first).bind fun r55 =>
    again1 (r55.2.1, first, lo, w64 (i - 1), ())
  else
    some ((), (data, ()))
def B_Z13_L1 (k : Nat) (c_Z12 : C_Z12) (n : Nat) (t : T_Z13_L1) : R_Z13 :=
  lfix n (fun again t => B_Z13_L1b k c_Z12 again t.1 t.2.1 t.2.2.1 t.2.2.2.1) t
def B_Z13_L0b (k : Nat) (c_Z12 : C_Z12) (again0 : T_Z13_L0 → R_Z13) (data : List Int) (first lo hi i : Int) : R_Z13 :=
  bif decide (i ≥ 0) then
    (c_Z12 data i hi first).bind fun r26 =>
    again0 (r26.2.1, first, lo, hi, w64 (i - 1), ())
  else
    B_Z13_L1 k c_Z12 k (data, first, lo, w64 (hi - 1), ())
def B_Z13_L0 (k : Nat) (c_Z12 : C_Z12) (n : Nat) (t : T_Z13_L0) : R_Z13 :=
  lfix n (fun again t => B_Z13_L0b k c_Z12 again t.1 t.2.1 t.2.2.1 t.2.2.2.1 t.2.2.2.2.1) t
def B_Z13 (k : Nat) (c_Z12 : C_Z12) (data : List Int) (a b : Int) : R_Z13 :=
  B_Z13_L0 k c_Z12 k (data, a, 0, w64 (b - a), w64 ((w64 ((w64 (b - a)) - 1)).tdiv 2), ())
def F_Z13 : Nat → C_Z13
  | 0, _, _, _ => none
  | k + 1, data, a, b => B_Z13 k (F_Z12 k) data a b
theorem tot_Z13 {data a b : _} {Q : _ → Prop} (h : Tot (fun σ => B_Z13 (σ 0) (F_Z12 (σ 0)) data a b) Q) : Tot (fun σ => F_Z13 (σ 0) data a b) Q :=
  Tot.call (F := fun k => F_Z13 k data a b) (B := fun k => B_Z13 k (F_Z12 k) data a b) (fun k => rfl) h
abbrev A_Z13_L1 (Z : Type) : Type := List Int → Int → Int → Int → Z
abbrev u_Z13_L1 {Z : Type} (f : A_Z13_L1 Z) (t : T_Z13_L1) : Z := f t.1 t.2.1 t.2.2.1 t.2.2.2.1
theorem loop_Z13_L1 {Q : A_Z13_L1 (((Unit) × (List Int × Unit)) → Prop)} (I : A_Z13_L1 Prop) (μ : A_Z13_L1 Nat)
    (step : ∀ a0 a1 a2 a3, I a0 a1 a2 a3 → ∀ again : (Nat → Nat) → T_Z13_L1 → R_Z13, Dep 2 again → (∀ y0 y1 y2 y3, I y0 y1 y2 y3 → μ y0 y1 y2 y3 < μ a0 a1 a2 a3 → Tot (fun σ => again σ (y0, y1, y2, y3, ())) (Q y0 y1 y2 y3)) →
      Tot (fun σ => B_Z13_L1b (σ 0) (F_Z12 (σ 0)) (again σ) a0 a1 a2 a3) (Q a0 a1 a2 a3)) :
    ∀ a0 a1 a2 a3, I a0 a1 a2 a3 → Tot (fun σ => B_Z13_L1 (σ 0) (F_Z12 (σ 0)) (σ 0) (a0, a1, a2, a3, ())) (Q a0 a1 a2 a3) := fun a0 a1 a2 a3 => Tot.loop0 (L := fun k => B_Z13_L1 k (F_Z12 k)) (B := fun k g => u_Z13_L1 (B_Z13_L1b k (F_Z12 k) g)) (Q := u_Z13_L1 Q) (fun _ _ _ => rfl) (u_Z13_L1 I) (u_Z13_L1 μ)
    (fun t ht again hag h => step t.1 t.2.1 t.2.2.1 t.2.2.2.1 ht again hag fun y0 y1 y2 y3 => h (y0, y1, y2, y3, ())) (a0, a1, a2, a3, ())
abbrev A_Z13_L0 (Z : Type) : Type := List Int → Int → Int → Int → Int → Z
abbrev u_Z13_L0 {Z : Type} (f : A_Z13_L0 Z) (t : T_Z13_L0) : Z := f t.1 t.2.1 t.2.2.1 t.2.2.2.1 t.2.2.2.2.1
theorem loop_Z13_L0 {Q : A_Z13_L0 (((Unit) × (List Int × Unit)) → Prop)} (I : A_Z13_L0 Prop) (μ : A_Z13_L0 Nat)
    (step : ∀ a0 a1 a2 a3 a4, I a0 a1 a2 a3 a4 → ∀ again : (Nat → Nat) → T_Z13_L0 → R_Z13, Dep 2 again → (∀ y0 y1 y2 y3 y4, I y0 y1 y2 y3 y4 → μ y0 y1 y2 y3 y4 < μ a0 a1 a2 a3 a4 → Tot (fun σ => again σ (y0, y1, y2, y3, y4, ())) (Q y0 y1 y2 y3 y4)) →
      Tot (fun σ => B_Z13_L0b (σ 0) (F_Z12 (σ 0)) (again σ) a0 a1 a2 a3 a4) (Q a0 a1 a2 a3 a4)) :
    ∀ a0 a1 a2 a3 a4, I a0 a1 a2 a3 a4 → Tot (fun σ => B_Z13_L0 (σ 0) (F_Z12 (σ 0)) (σ 0) (a0, a1, a2, a3, a4, ())) (Q a0 a1 a2 a3 a4) := fun a0 a1 a2 a3 a4 => Tot.loop0 (L := fun k => B_Z13_L0 k (F_Z12 k)) (B := fun k g => u_Z13_L0 (B_Z13_L0b k (F_Z12 k) g)) (Q := u_Z13_L0 Q) (fun _ _ _ => rfl) (u_Z13_L0 I) (u_Z13_L0 μ)
    (fun t ht again hag h => step t.1 t.2.1 t.2.2.1 t.2.2.2.1 t.2.2.2.2.1 ht again hag fun y0 y1 y2 y3 y4 => h (y0, y1, y2, y3, y4, ())) (a0, a1, a2, a3, a4, ())
abbrev R_Z19 : Type := Option ((Int × Unit) × (Unit))
abbrev C_Z19 : Type := Int → R_Z19
def B_Z19 (k : Nat) (c_bits_Len : C_bits_Len) (length : Int) : R_Z19 :=
  (c_bits_Len (IntKind.wrap .u64 (length))).bind fun r5 =>
  chk (decide (0 ≤ r5.1.1)) <|
  some (((shlK .u64 1 r5.1.1), ()), ())
def F_Z19 : Nat → C_Z19
  | 0, _ => none
  | k + 1, length => B_Z19 k (F_bits_Len k) length
theorem tot_Z19 {length : _} {Q : _ → Prop} (h : Tot (fun σ => B_Z19 (σ 0) (F_bits_Len (σ 0)) length) Q) : Tot (fun σ => F_Z19 (σ 0) length) Q :=
  Tot.call (F := fun k => F_Z19 k length) (B := fun k => B_Z19 k (F_bits_Len k) length) (fun k => rfl) h
abbrev R_Z20 : Type := Option ((Int × Unit) × ((Int × Unit) × Unit))
abbrev C_Z20 : Type := Int → R_Z20
def B_Z20 (k : Nat) (r : Int) : R_Z20 :=
  let v27 : Int := (shlK .u64 (xorK .u64 (xorK .u64 r (shlK .u64 r 13)) (shrK .u64 (xorK .u64 r (shlK .u64 r 13)) 7)) 17)
  let v28 : Int := (xorK .u64 (xorK .u64 (xorK .u64 r (shlK .u64 r 13)) (shrK .u64 (xorK .u64 r (shlK .u64 r 13)) 7)) v27)
  some ((v28, ()), ((v28, ()), ()))
def F_Z20 : Nat → C_Z20
  | 0, _ => none
  | k + 1, r => B_Z20 k r
theorem tot_Z20 {r : _} {Q : _ → Prop} (h : Tot (fun σ => B_Z20 (σ 0) r) Q) : Tot (fun σ => F_Z20 (σ 0) r) Q :=
  Tot.call (F := fun k => F_Z20 k r) (B := fun k => B_Z20 k r) (fun k => rfl) h
abbrev R_Z8 : Type := Option ((Unit) × (List Int × Unit))
abbrev C_Z8 : Type := List Int → Int → Int → R_Z8
abbrev T_Z8_L1 : Type := List Int × Int × Int × (Int × Unit) × Int × Int × Unit
def B_Z8_J0 (k : Nat) (c_Z19 : C_Z19) (c_Z20 : C_Z20) (again1 : T_Z8_L1 → R_Z8) (data : List Int) (a length random modulus idx other : Int) : R_Z8 :=
  chk (inb (w64 (a + other)) data.length) <|
  chk (decide ((w64 (a + other)).toNat < data.length)) <|
  chk (inb idx data.length) <|
  chk (decide (idx.toNat < data.length)) <|
  chk (inb idx data.length) <|
  chk (decide (idx.toNat < data.length)) <|
  chk (inb (w64 (a + other)) (data.set idx.toNat (data.getD ((w64 (a + other)).toNat) (0 : Int))).length) <|
  chk (decide ((w64 (a + other)).toNat < (data.set idx.toNat (data.getD ((w64 (a + other)).toNat) (0 : Int))).length)) <|
  again1 (((data.set idx.toNat (data.getD ((w64 (a + other)).toNat) (0 : Int))).set ((w64 (a + other)).toNat) (data.getD idx.toNat (0 : Int))), a, length, (random, ()), modulus, w64 (idx + 1), ())
def B_Z8_L1b (k : Nat) (c_Z19 : C_Z19) (c_Z20 : C_Z20) (again1 : T_Z8_L1 → R_Z8) (data : List Int) (a length random modulus idx : Int) : R_Z8 :=
  bif decide (idx ≤ (w64 ((w64 (a + (w64 ((w64 (length.tdiv 4)) * 2)))) + 1))) then
    (c_Z20 random).bind fun r36 =>
    bif decide ((w64 ((andK .u64 r36.1.1 (IntKind.wrap .u64 (modulus - 1))))) ≥ length) then
      jn (fun t => B_Z8_J0 k c_Z19 c_Z20 again1 t.1 t.2.1 t.2.2.1 t.2.2.2.1.1 t.2.2.2.2.1 t.2.2.2.2.2.1 t.2.2.2.2.2.2.1) (data, a, length, (r36.2.1.1, ()), modulus, idx, w64 ((w64 ((andK .u64 r36.1.1 (IntKind.wrap .u64 (modulus - 1))))) - length), ())
    else
      jn (fun t => B_Z8_J0 k c_Z19 c_Z20 again1 t.1 t.2.1 t.2.2.1 t.2.2.2.1.1 t.2.2.2.2.1 t.2.2.2.2.2.1 t.2.2.2.2.2.2.1) (data, a, length, (r36.2.1.1, ()), modulus, idx, w64 ((andK .u64 r36.1.1 (IntKind.wrap .u64 (modulus - 1)))), ())
  else
    some ((), (data, ()))
def B_Z8_L1 (k : Nat) (c_Z19 : C_Z19) (c_Z20 : C_Z20) (n : Nat) (t : T_Z8_L1) : R_Z8 :=
  lfix n (fun again t => B_Z8_L1b k c_Z19 c_Z20 again t.1 t.2.1 t.2.2.1 t.2.2.2.1.1 t.2.2.2.2.1 t.2.2.2.2.2.1) t
def B_Z8 (k : Nat) (c_Z19 : C_Z19) (c_Z20 : C_Z20) (data : List Int) (a b : Int) : R_Z8 :=
  bif decide ((w64 (b - a)) ≥ 8) then
    (c_Z19 (w64 (b - a))).bind fun r19 =>
    B_Z8_L1 k c_Z19 c_Z20 k (data, a, w64 (b - a), (IntKind.wrap .u64 (w64 (b - a)), ()), r19.1.1, w64 ((w64 (a + (w64 ((w64 ((w64 (b - a)).tdiv 4)) * 2)))) - 1), ())
  else
    some ((), (data, ()))
def F_Z8 : Nat → C_Z8
  | 0, _, _, _ => none
  | k + 1, data, a, b => B_Z8 k (F_Z19 k) (F_Z20 k) data a b
theorem tot_Z8 {data a b : _} {Q : _ → Prop} (h : Tot (fun σ => B_Z8 (σ 0) (F_Z19 (σ 0)) (F_Z20 (σ 0)) data a b) Q) : Tot (fun σ => F_Z8 (σ 0) data a b) Q :=
  Tot.call (F := fun k => F_Z8 k data a b) (B := fun k => B_Z8 k (F_Z19 k) (F_Z20 k) data a b) (fun k => rfl) h
abbrev A_Z8_L1 (Z : Type) : Type := List Int → Int → Int → Int → Int → Int → Z
abbrev u_Z8_L1 {Z : Type} (f : A_Z8_L1 Z) (t : T_Z8_L1) : Z := f t.1 t.2.1 t.2.2.1 t.2.2.2.1.1 t.2.2.2.2.1 t.2.2.2.2.2.1
theorem loop_Z8_L1 {Q : A_Z8_L1 (((Unit) × (List Int × Unit)) → Prop)} (I : A_Z8_L1 Prop) (μ : A_Z8_L1 Nat)
    (step : ∀ a0 a1 a2 a3 a4 a5, I a0 a1 a2 a3 a4 a5 → ∀ again : (Nat → Nat) → T_Z8_L1 → R_Z8, Dep 2 again → (∀ y0 y1 y2 y3 y4 y5, I y0 y1 y2 y3 y4 y5 → μ y0 y1 y2 y3 y4 y5 < μ a0 a1 a2 a3 a4 a5 → Tot (fun σ => again σ (y0, y1, y2, (y3, ()), y4, y5, ())) (Q y0 y1 y2 y3 y4 y5)) →
      Tot (fun σ => B_Z8_L1b (σ 0) (F_Z19 (σ 0)) (F_Z20 (σ 0)) (again σ) a0 a1 a2 a3 a4 a5) (Q a0 a1 a2 a3 a4 a5)) :
    ∀ a0 a1 a2 a3 a4 a5, I a0 a1 a2 a3 a4 a5 → Tot (fun σ => B_Z8_L1 (σ 0) (F_Z19 (σ 0)) (F_Z20 (σ 0)) (σ 0) (a0, a1, a2, (a3, ()), a4, a5, ())) (Q a0 a1 a2 a3 a4 a5) := fun a0 a1 a2 a3 a4 a5 => Tot.loop0 (L := fun k => B_Z8_L1 k (F_Z19 k) (F_Z20 k)) (B := fun k g => u_Z8_L1 (B_Z8_L1b k (F_Z19 k) (F_Z20 k) g)) (Q := u_Z8_L1 Q) (fun _ _ _ => rfl) (u_Z8_L1 I) (u_Z8_L1 μ)
    (fun t ht again hag h => step t.1 t.2.1 t.2.2.1 t.2.2.2.1.1 t.2.2.2.2.1 t.2.2.2.2.2.1 ht again hag fun y0 y1 y2 y3 y4 y5 => h (y0, y1, y2, (y3, ()), y4, y5, ())) (a0, a1, a2, (a3, ()), a4, a5, ())
abbrev R_Z17 : Type := Option ((Int × Int × Unit) × ((Int × Unit) × Unit))
abbrev C_Z17 : Type := List Int → Int → Int → Int → R_Z17
def B_Z17 (k : Nat) (c_Z33 : C_Z33) (data : List Int) (a b swaps : Int) : R_Z17 :=
  chk (inb b data.length) <|
  chk (inb a data.length) <|
  (c_Z33 (rdx (0 : Int) data b) (rdx (0 : Int) data a)).bind fun r18 =>
  bif r18.1.1 then
    some ((b, a, ()), ((w64 (swaps + 1), ()), ()))
  else
    some ((a, b, ()), ((swaps, ()), ()))
def F_Z17 : Nat → C_Z17
  | 0, _, _, _, _ => none
  | k + 1, data, a, b, swaps => B_Z17 k (F_Z33 k) data a b swaps
theorem tot_Z17 {data a b swaps : _} {Q : _ → Prop} (h : Tot (fun σ => B_Z17 (σ 0) (F_Z33 (σ 0)) data a b swaps) Q) : Tot (fun σ => F_Z17 (σ 0) data a b swaps) Q :=
  Tot.call (F := fun k => F_Z17 k data a b swaps) (B := fun k => B_Z17 k (F_Z33 k) data a b swaps) (fun k => rfl) h
abbrev R_Z16 : Type := Option ((Int × Unit) × ((Int × Unit) × Unit))
abbrev C_Z16 : Type := List Int → Int → Int → Int → Int → R_Z16
def B_Z16 (k : Nat) (c_Z17 : C_Z17) (data : List Int) (a b c swaps : Int) : R_Z16 :=
  (c_Z17 data a b swaps).bind fun r16 =>
  (c_Z17 data r16.1.2.1 c r16.2.1.1).bind fun r24 =>
  (c_Z17 data r16.1.1 r24.1.1 r24.2.1.1).bind fun r32 =>
  some ((r32.1.2.1, ()), ((r32.2.1.1, ()), ()))
def F_Z16 : Nat → C_Z16
  | 0, _, _, _, _, _ => none
  | k + 1, data, a, b, c, swaps => B_Z16 k (F_Z17 k) data a b c swaps
theorem tot_Z16 {data a b c swaps : _} {Q : _ → Prop} (h : Tot (fun σ => B_Z16 (σ 0) (F_Z17 (σ 0)) data a b c swaps) Q) : Tot (fun σ => F_Z16 (σ 0) data a b c swaps) Q :=
  Tot.call (F := fun k => F_Z16 k data a b c swaps) (B := fun k => B_Z16 k (F_Z17 k) data a b c swaps) (fun k => rfl) h
abbrev R_Z4 : Type := Option ((Int × Unit) × ((Int × Unit) × Unit))
abbrev C_Z4 : Type := List Int → Int → Int → R_Z4
def B_Z4 (k : Nat) (c_Z16 : C_Z16) (data : List Int) (a swaps : Int) : R_Z4 :=
  (c_Z16 data (w64 (a - 1)) a (w64 (a + 1)) swaps).bind fun r14 =>
  some ((r14.1.1, ()), ((r14.2.1.1, ()), ()))
def F_Z4 : Nat → C_Z4
  | 0, _, _, _ => none
  | k + 1, data, a, swaps => B_Z4 k (F_Z16 k) data a swaps
theorem tot_Z4 {data a swaps : _} {Q : _ → Prop} (h : Tot (fun σ => B_Z4 (σ 0) (F_Z16 (σ 0)) data a swaps) Q) : Tot (fun σ => F_Z4 (σ 0) data a swaps) Q :=
  Tot.call (F := fun k => F_Z4 k data a swaps) (B := fun k => B_Z4 k (F_Z16 k) data a swaps) (fun k => rfl) h
abbrev R_Z10 : Type := Option ((Int × Int × Unit) × (Unit))
abbrev C_Z10 : Type := List Int → Int → Int → R_Z10
def B_Z10_J1 (k : Nat) (c_Z4 : C_Z4) (c_Z16 : C_Z16) (swaps j : Int) : R_Z10 :=
  bif (swaps == 0) then
    some ((j, 1, ()), ())
  else
    bif (swaps == 12) then
      some ((j, 2, ()), ())
    else
      some ((j, 0, ()), ())
def B_Z10_J0 (k : Nat) (c_Z4 : C_Z4) (c_Z16 : C_Z16) (data : List Int) (swaps i j k12 : Int) : R_Z10 :=
  (c_Z16 data i j k12 swaps).bind fun r48 =>
  jn (fun t => B_Z10_J1 k c_Z4 c_Z16 t.1.1 t.2.1) ((r48.2.1.1, ()), r48.1.1, ())
def B_Z10 (k : Nat) (c_Z4 : C_Z4) (c_Z16 : C_Z16) (data : List Int) (a b : Int) : R_Z10 :=
  bif decide ((w64 (b - a)) ≥ 8) then
    bif decide ((w64 (b - a)) ≥ 50) then
      (c_Z4 data (w64 (a + (w64 ((w64 ((w64 (b - a)).tdiv 4)) * 1)))) 0).bind fun r37 =>
      (c_Z4 data (w64 (a + (w64 ((w64 ((w64 (b - a)).tdiv 4)) * 2)))) r37.2.1.1).bind fun r40 =>
      (c_Z4 data (w64 (a + (w64 ((w64 ((w64 (b - a)).tdiv 4)) * 3)))) r40.2.1.1).bind fun r43 =>
      jn (fun t => B_Z10_J0 k c_Z4 c_Z16 t.1 t.2.1.1 t.2.2.1 t.2.2.2.1 t.2.2.2.2.1) (data, (r43.2.1.1, ()), r37.1.1, r40.1.1, r43.1.1, ())
    else
      jn (fun t => B_Z10_J0 k c_Z4 c_Z16 t.1 t.2.1.1 t.2.2.1 t.2.2.2.1 t.2.2.2.2.1) (data, (0, ()), w64 (a + (w64 ((w64 ((w64 (b - a)).tdiv 4)) * 1))), w64 (a + (w64 ((w64 ((w64 (b - a)).tdiv 4)) * 2))), w64 (a + (w64 ((w64 ((w64 (b - a)).tdiv 4)) * 3))), ())
  else
    jn (fun t => B_Z10_J1 k c_Z4 c_Z16 t.1.1 t.2.1) ((0, ()), w64 (a + (w64 ((w64 ((w64 (b - a)).tdiv 4)) * 2))), ())
def F_Z10 : Nat → C_Z10
  | 0, _, _, _ => none
  | k + 1, data, a, b => B_Z10 k (F_Z4 k) (F_Z16 k) data a b
theorem tot_Z10 {data a b : _} {Q : _ → Prop} (h : Tot (fun σ => B_Z10 (σ 0) (F_Z4 (σ 0)) (F_Z16 (σ 0)) data a b) Q) : Tot (fun σ => F_Z10 (σ 0) data a b) Q :=
  Tot.call (F := fun k => F_Z10 k data a b) (B := fun k => B_Z10 k (F_Z4 k) (F_Z16 k) data a b) (fun k => rfl) h
abbrev R_Z9 : Type := Option ((Unit) × (List Int × Unit))
abbrev C_Z9 : Type := List Int → Int → Int → R_Z9
abbrev T_Z9_L0 : Type := List Int × Int × Int × Unit
def B_Z9_L0b (k : Nat) (again0 : T_Z9_L0 → R_Z9) (data : List Int) (i j : Int) : R_Z9 :=
  bif decide (i < j) then
    chk (inb j data.length) <|
    chk (decide (j.toNat < data.length)) <|
    chk (inb i data.length) <|
    chk (decide (i.toNat < data.length)) <|
    chk (inb i data.length) <|
    chk (decide (i.toNat < data.length)) <|
    chk (inb j (data.set i.toNat (data.getD j.toNat (0 : Int))).length) <|
    chk (decide (j.toNat < (data.set i.toNat (data.getD j.toNat (0 : Int))).length)) <|
    again0 (((data.set i.toNat (data.getD j.toNat (0 : Int))).set j.toNat (data.getD i.toNat (0 : Int))), w64 (i + 1), w64 (j - 1), ())
  else
    some ((), (data, ()))
def B_Z9_L0 (k : Nat) (n : Nat) (t : T_Z9_L0) : R_Z9 :=
  lfix n (fun again t => B_Z9_L0b k again t.1 t.2.1 t.2.2.1) t
def B_Z9 (k : Nat) (data : List Int) (a b : Int) : R_Z9 :=
  B_Z9_L0 k k (data, a, w64 (b - 1), ())
def F_Z9 : Nat → C_Z9
  | 0, _, _, _ => none
  | k + 1, data, a, b => B_Z9 k data a b
theorem tot_Z9 {data a b : _} {Q : _ → Prop} (h : Tot (fun σ => B_Z9 (σ 0) data a b) Q) : Tot (fun σ => F_Z9 (σ 0) data a b) Q :=
  Tot.call (F := fun k => F_Z9 k data a b) (B := fun k => B_Z9 k data a b) (fun k => rfl) h
abbrev A_Z9_L0 (Z : Type) : Type := List Int → Int → Int → Z
abbrev u_Z9_L0 {Z : Type} (f : A_Z9_L0 Z) (t : T_Z9_L0) : Z := f t.1 t.2.1 t.2.2.1
theorem loop_Z9_L0 {Q : A_Z9_L0 (((Unit) × (List Int × Unit)) → Prop)} (I : A_Z9_L0 Prop) (μ : A_Z9_L0 Nat)
    (step : ∀ a0 a1 a2, I a0 a1 a2 → ∀ again : (Nat → Nat) → T_Z9_L0 → R_Z9, Dep 2 again → (∀ y0 y1 y2, I y0 y1 y2 → μ y0 y1 y2 < μ a0 a1 a2 → Tot (fun σ => again σ (y0, y1, y2, ())) (Q y0 y1 y2)) →
      Tot (fun σ => B_Z9_L0b (σ 0) (again σ) a0 a1 a2) (Q a0 a1 a2)) :
    ∀ a0 a1 a2, I a0 a1 a2 → Tot (fun σ => B_Z9_L0 (σ 0) (σ 0) (a0, a1, a2, ())) (Q a0 a1 a2) := fun a0 a1 a2 => Tot.loop0 (L := fun k => B_Z9_L0 k) (B := fun k g => u_Z9_L0 (B_Z9_L0b k g)) (Q := u_Z9_L0 Q) (fun _ _ _ => rfl) (u_Z9_L0 I) (u_Z9_L0 μ)
    (fun t ht again hag h => step t.1 t.2.1 t.2.2.1 ht again hag fun y0 y1 y2 => h (y0, y1, y2, ())) (a0, a1, a2, ())
abbrev R_Z3 : Type := Option ((Bool × Unit) × (List Int × Unit))
abbrev C_Z3 : Type := List Int → Int → Int → R_Z3
abbrev T_Z3_L4 : Type := List Int × Int × Int × Int × Int × Int × Unit
abbrev T_Z3_L2 : Type := List Int × Int × Int × Int × Int × Int × Unit
abbrev T_Z3_L1 : Type := List Int × Int × Int × Int × Int × Unit
abbrev T_Z3_L6 : Type := List Int × Int × Int × Int × Int × Unit
def B_Z3_J5 (k : Nat) (c_Z33 : C_Z33) (again6 : T_Z3_L6 → R_Z3) (data : List Int) (a b i j : Int) : R_Z3 :=
  again6 (data, a, b, i, w64 (j + 1), ())
def B_Z3_L4b (k : Nat) (c_Z33 : C_Z33) (again6 : T_Z3_L6 → R_Z3) (again4 : T_Z3_L4 → R_Z3) (data : List Int) (a b i j j10 : Int) : R_Z3 :=
  bif decide (j10 < b) then
    chk (inb j10 data.length) <|
    chk (decide (j10.toNat < data.length)) <|
    chk (inb (w64 (j10 - 1)) data.length) <|
    chk (decide ((w64 (j10 - 1)).toNat < data.length)) <|
    (c_Z33 (data.getD j10.toNat (0 : Int)) (data.getD ((w64 (j10 - 1)).toNat) (0 : Int))).bind fun r115 =>
    bif (!r115.1.1) then
      jn (fun t => B_Z3_J5 k c_Z33 again6 t.1 t.2.1 t.2.2.1 t.2.2.2.1 t.2.2.2.2.1) (data, a, b, i, j, ())
    else
      chk (inb (w64 (j10 - 1)) data.length) <|
      chk (decide ((w64 (j10 - 1)).toNat < data.length)) <|
      chk (inb j10 data.length) <|
      chk (decide (j10.toNat < data.length)) <|
      chk (inb j10 data.length) <|
      chk (decide (j10.toNat < data.length)) <|
      chk (inb (w64 (j10 - 1)) (data.set j10.toNat (data.getD ((w64 (j10 - 1)).toNat) (0 : Int))).length) <|
      chk (decide ((w64 (j10 - 1)).toNat < (data.set j10.toNat (data.getD ((w64 (j10 - 1)).toNat) (0 : Int))).length)) <|
      again4 (((data.set j10.toNat (data.getD ((w64 (j10 - 1)).toNat) (0 : Int))).set ((w64 (j10 - 1)).toNat) (data.getD j10.toNat (0 : Int))), a, b, i, j, w64 (j10 + 1), ())
  else
    jn (fun t => B_Z3_J5 k c_Z33 again6 t.1 t.2.1 t.2.2.1 t.2.2.2.1 t.2.2.2.2.1) (data, a, b, i, j, ())
def B_Z3_L4 (k : Nat) (c_Z33 : C_Z33) (again6 : T_Z3_L6 → R_Z3) (n : Nat) (t : T_Z3_L4) : R_Z3 :=
  lfix n (fun again t => B_Z3_L4b k c_Z33 again6 again t.1 t.2.1 t.2.2.1 t.2.2.2.1 t.2.2.2.2.1 t.2.2.2.2.2.1) t
def B_Z3_J3 (k : Nat) (c_Z33 : C_Z33) (again6 : T_Z3_L6 → R_Z3) (data : List Int) (a b i j : Int) : R_Z3 :=
  bif decide ((w64 (b - i)) ≥ 2) then
    B_Z3_L4 k c_Z33 again6 k (data, a, b, i, j, w64 (i + 1), ())
  else
    jn (fun t => B_Z3_J5 k c_Z33 again6 t.1 t.2.1 t.2.2.1 t.2.2.2.1 t.2.2.2.2.1) (data, a, b, i, j, ())
def B_Z3_L2b (k : Nat) (c_Z33 : C_Z33) (again6 : T_Z3_L6 → R_Z3) (again2 : T_Z3_L2 → R_Z3) (data : List Int) (a b i j j9 : Int) : R_Z3 :=
  bif decide (j9 ≥ 1) then
    chk (inb j9 data.length) <|
    chk (decide (j9.toNat < data.length)) <|
    chk (inb (w64 (j9 - 1)) data.length) <|
    chk (decide ((w64 (j9 - 1)).toNat < data.length)) <|
    (c_Z33 (data.getD j9.toNat (0 : Int)) (data.getD ((w64 (j9 - 1)).toNat) (0 : Int))).bind fun r77 =>
    bif (!r77.1.1) then
      jn (fun t => B_Z3_J3 k c_Z33 again6 t.1 t.2.1 t.2.2.1 t.2.2.2.1 t.2.2.2.2.1) (data, a, b, i, j, ())
    else
      chk (inb (w64 (j9 - 1)) data.length) <|
      chk (decide ((w64 (j9 - 1)).toNat < data.length)) <|
      chk (inb j9 data.length) <|
      chk (decide (j9.toNat < data.length)) <|
      chk (inb j9 data.length) <|
      chk (decide (j9.toNat < data.length)) <|
      chk (inb (w64 (j9 - 1)) (data.set j9.toNat (data.getD ((w64 (j9 - 1)).toNat) (0 : Int))).length) <|
      chk (decide ((w64 (j9 - 1)).toNat < (data.set j9.toNat (data.getD ((w64 (j9 - 1)).toNat) (0 : Int))).length)) <|
      again2 (((data.set j9.toNat (data.getD ((w64 (j9 - 1)).toNat) (0 : Int))).set ((w64 (j9 - 1)).toNat) (data.getD j9.toNat (0 : Int))), a, b, i, j, w64 (j9 - 1), ())
  else
    jn (fun t => B_Z3_J3 k c_Z33 again6 t.1 t.2.1 t.2.2.1 t.2.2.2.1 t.2.2.2.2.1) (data, a, b, i, j, ())
def B_Z3_L2 (k : Nat) (c_Z33 : C_Z33) (again6 : T_Z3_L6 → R_Z3) (n : Nat) (t : T_Z3_L2) : R_Z3 :=
  lfix n (fun again t => B_Z3_L2b k c_Z33 again6 again t.1 t.2.1 t.2.2.1 t.2.2.2.1 t.2.2.2.2.1 t.2.2.2.2.2.1) t
def B_Z3_J0 (k : Nat) (c_Z33 : C_Z33) (again1 : T_Z3_L1 → R_Z3) (again6 : T_Z3_L6 → R_Z3) (data : List Int) (a b i j : Int) (t32 : Bool) : R_Z3 :=
  bif t32 then
    again1 (data, a, b, w64 (i + 1), j, ())
  else
    bif (i == b) then
      some ((true, ()), (data, ()))
    else
      bif decide ((w64 (b - a)) < 50) then
        some ((false, ()), (data, ()))
      else
        chk (inb (w64 (i - 1)) data.length) <|
        chk (decide ((w64 (i - 1)).toNat < data.length)) <|
        chk (inb i data.length) <|
        chk (decide (i.toNat < data.length)) <|
        chk (inb i data.length) <|
        chk (decide (i.toNat < data.length)) <|
        chk (inb (w64 (i - 1)) (data.set i.toNat (data.getD ((w64 (i - 1)).toNat) (0 : Int))).length) <|
        chk (decide ((w64 (i - 1)).toNat < (data.set i.toNat (data.getD ((w64 (i - 1)).toNat) (0 : Int))).length)) <|
        bif decide ((w64 (i - a)) ≥ 2) then
          B_Z3_L2 k c_Z33 again6 k (((data.set i.toNat (data.getD ((w64 (i - 1)).toNat) (0 : Int))).set ((w64 (i - 1)).toNat) (data.getD i.toNat (0 : Int))), a, b, i, j, w64 (i - 1), ())
        else
          jn (fun t => B_Z3_J3 k c_Z33 again6 t.1 t.2.1 t.2.2.1 t.2.2.2.1 t.2.2.2.2.1) (((data.set i.toNat (data.getD ((w64 (i - 1)).toNat) (0 : Int))).set ((w64 (i - 1)).toNat) (data.getD i.toNat (0 : Int))), a, b, i, j, ())
def B_Z3_L1b (k : Nat) (c_Z33 : C_Z33) (again6 : T_Z3_L6 → R_Z3) (again1 : T_Z3_L1 → R_Z3) (data : List Int) (a b i j : Int) : R_Z3 :=
  bif decide (i < b) then
    chk (inb i data.length) <|
    chk (decide (i.toNat < data.length)) <|
    chk (inb (w64 (i - 1)) data.length) <|
    chk (decide ((w64 (i - 1)).toNat < data.length)) <|
    (c_Z33 (data.getD i.toNat (0 : Int)) (data.getD ((w64 (i - 1)).toNat) (0 : Int))).bind fun r30 =>
    jn (fun t => B_Z3_J0 k c_Z33 again1 again6 t.1 t.2.1 t.2.2.1 t.2.2.2.1 t.2.2.2.2.1 t.2.2.2.2.2.1) (data, a, b, i, j, (!r30.1.1), ())
  else
    jn (fun t => B_Z3_J0 k c_Z33 again1 again6 t.1 t.2.1 t.2.2.1 t.2.2.2.1 t.2.2.2.2.1 t.2.2.2.2.2.1) (data, a, b, i, j, false, ())
def B_Z3_L1 (k : Nat) (c_Z33 : C_Z33) (again6 : T_Z3_L6 → R_Z3) (n : Nat) (t : T_Z3_L1) : R_Z3 :=
  lfix n (fun again t => B_Z3_L1b k c_Z33 again6 again t.1 t.2.1 t.2.2.1 t.2.2.2.1 t.2.2.2.2.1) t
def B_Z3_L6b (k : Nat) (c_Z33 : C_Z33) (again6 : T_Z3_L6 → R_Z3) (data : List Int) (a b i j : Int) : R_Z3 :=
  bif decide (j < 5) then
    B_Z3_L1 k c_Z33 again6 k (data, a, b, i, j, ())
  else
    some ((false, ()), (data, ()))
def B_Z3_L6 (k : Nat) (c_Z33 : C_Z33) (n : Nat) (t : T_Z3_L6) : R_Z3 :=
  lfix n (fun again t => B_Z3_L6b k c_Z33 again t.1 t.2.1 t.2.2.1 t.2.2.2.1 t.2.2.2.2.1) t
def B_Z3 (k : Nat) (c_Z33 : C_Z33) (data : List Int) (a b : Int) : R_Z3 :=
  B_Z3_L6 k c_Z33 k (data, a, b, w64 (a + 1), 0, ())
def F_Z3 : Nat → C_Z3
  | 0, _, _, _ => none
  | k + 1, data, a, b => B_Z3 k (F_Z33 k) data a b
theorem tot_Z3 {data a b : _} {Q : _ → Prop} (h : Tot (fun σ => B_Z3 (σ 0) (F_Z33 (σ 0)) data a b) Q) : Tot (fun σ => F_Z3 (σ 0) data a b) Q :=
  Tot.call (F := fun k => F_Z3 k data a b) (B := fun k => B_Z3 k (F_Z33 k) data a b) (fun k => rfl) h
abbrev A_Z3_L4 (Z : Type) : Type := List Int → Int → Int → Int → Int → Int → Z
abbrev u_Z3_L4 {Z : Type} (f : A_Z3_L4 Z) (t : T_Z3_L4) : Z := f t.1 t.2.1 t.2.2.1 t.2.2.2.1 t.2.2.2.2.1 t.2.2.2.2.2.1
theorem loop_Z3_L4 {again6 : (Nat → Nat) → T_Z3_L6 → R_Z3} (hag6 : Dep 2 again6) {Q : A_Z3_L4 (((Bool × Unit) × (List Int × Unit)) → Prop)} (I : A_Z3_L4 Prop) (μ : A_Z3_L4 Nat)
    (step : ∀ a0 a1 a2 a3 a4 a5, I a0 a1 a2 a3 a4 a5 → ∀ again : (Nat → Nat) → T_Z3_L4 → R_Z3, Dep 3 again → (∀ y0 y1 y2 y3 y4 y5, I y0 y1 y2 y3 y4 y5 → μ y0 y1 y2 y3 y4 y5 < μ a0 a1 a2 a3 a4 a5 → Tot (fun σ => again σ (y0, y1, y2, y3, y4, y5, ())) (Q y0 y1 y2 y3 y4 y5)) →
      Tot (fun σ => B_Z3_L4b (σ 0) (F_Z33 (σ 0)) (again6 σ) (again σ) a0 a1 a2 a3 a4 a5) (Q a0 a1 a2 a3 a4 a5)) :
    ∀ a0 a1 a2 a3 a4 a5, I a0 a1 a2 a3 a4 a5 → Tot (fun σ => B_Z3_L4 (σ 0) (F_Z33 (σ 0)) (again6 σ) (σ 0) (a0, a1, a2, a3, a4, a5, ())) (Q a0 a1 a2 a3 a4 a5) := fun a0 a1 a2 a3 a4 a5 => Tot.loop (L := fun σ n t => B_Z3_L4 (σ 0) (F_Z33 (σ 0)) (again6 σ) n t) (B := fun σ g => u_Z3_L4 (B_Z3_L4b (σ 0) (F_Z33 (σ 0)) (again6 σ) g)) (Q := u_Z3_L4 Q) 2 (by decide)
    (fun s s' h => by have e0 : s 0 = s' 0 := h 0 (by decide); simp only [e0, hag6 s s' h]) (fun s s' h => by have e0 : s 0 = s' 0 := h 0 (by decide); simp only [e0, hag6 s s' h]) (fun _ _ _ => rfl) (u_Z3_L4 I) (u_Z3_L4 μ)
    (fun t ht again hag h => step t.1 t.2.1 t.2.2.1 t.2.2.2.1 t.2.2.2.2.1 t.2.2.2.2.2.1 ht again hag fun y0 y1 y2 y3 y4 y5 => h (y0, y1, y2, y3, y4, y5, ())) (a0, a1, a2, a3, a4, a5, ())
abbrev A_Z3_L2 (Z : Type) : Type := List Int → Int → Int → Int → Int → Int → Z
abbrev u_Z3_L2 {Z : Type} (f : A_Z3_L2 Z) (t : T_Z3_L2) : Z := f t.1 t.2.1 t.2.2.1 t.2.2.2.1 t.2.2.2.2.1 t.2.2.2.2.2.1
theorem loop_Z3_L2 {again6 : (Nat → Nat) → T_Z3_L6 → R_Z3} (hag6 : Dep 2 again6) {Q : A_Z3_L2 (((Bool × Unit) × (List Int × Unit)) → Prop)} (I : A_Z3_L2 Prop) (μ : A_Z3_L2 Nat)
    (step : ∀ a0 a1 a2 a3 a4 a5, I a0 a1 a2 a3 a4 a5 → ∀ again : (Nat → Nat) → T_Z3_L2 → R_Z3, Dep 3 again → (∀ y0 y1 y2 y3 y4 y5, I y0 y1 y2 y3 y4 y5 → μ y0 y1 y2 y3 y4 y5 < μ a0 a1 a2 a3 a4 a5 → Tot (fun σ => again σ (y0, y1, y2, y3, y4, y5, ())) (Q y0 y1 y2 y3 y4 y5)) →
      Tot (fun σ => B_Z3_L2b (σ 0) (F_Z33 (σ 0)) (again6 σ) (again σ) a0 a1 a2 a3 a4 a5) (Q a0 a1 a2 a3 a4 a5)) :
    ∀ a0 a1 a2 a3 a4 a5, I a0 a1 a2 a3 a4 a5 → Tot (fun σ => B_Z3_L2 (σ 0) (F_Z33 (σ 0)) (again6 σ) (σ 0) (a0, a1, a2, a3, a4, a5, ())) (Q a0 a1 a2 a3 a4 a5) := fun a0 a1 a2 a3 a4 a5 => Tot.loop (L := fun σ n t => B_Z3_L2 (σ 0) (F_Z33 (σ 0)) (again6 σ) n t) (B := fun σ g => u_Z3_L2 (B_Z3_L2b (σ 0) (F_Z33 (σ 0)) (again6 σ) g)) (Q := u_Z3_L2 Q) 2 (by decide)
    (fun s s' h => by have e0 : s 0 = s' 0 := h 0 (by decide); simp only [e0, hag6 s s' h]) (fun s s' h => by have e0 : s 0 = s' 0 := h 0 (by decide); simp only [e0, hag6 s s' h]) (fun _ _ _ => rfl) (u_Z3_L2 I) (u_Z3_L2 μ)
    (fun t ht again hag h => step t.1 t.2.1 t.2.2.1 t.2.2.2.1 t.2.2.2.2.1 t.2.2.2.2.2.1 ht again hag fun y0 y1 y2 y3 y4 y5 => h (y0, y1, y2, y3, y4, y5, ())) (a0, a1, a2, a3, a4, a5, ())
abbrev A_Z3_L1 (Z : Type) : Type := List Int → Int → Int → Int → Int → Z
abbrev u_Z3_L1 {Z : Type} (f : A_Z3_L1 Z) (t : T_Z3_L1) : Z := f t.1 t.2.1 t.2.2.1 t.2.2.2.1 t.2.2.2.2.1
theorem loop_Z3_L1 {again6 : (Nat → Nat) → T_Z3_L6 → R_Z3} (hag6 : Dep 2 again6) {Q : A_Z3_L1 (((Bool × Unit) × (List Int × Unit)) → Prop)} (I : A_Z3_L1 Prop) (μ : A_Z3_L1 Nat)
    (step : ∀ a0 a1 a2 a3 a4, I a0 a1 a2 a3 a4 → ∀ again : (Nat → Nat) → T_Z3_L1 → R_Z3, Dep 3 again → (∀ y0 y1 y2 y3 y4, I y0 y1 y2 y3 y4 → μ y0 y1 y2 y3 y4 < μ a0 a1 a2 a3 a4 → Tot (fun σ => again σ (y0, y1, y2, y3, y4, ())) (Q y0 y1 y2 y3 y4)) →
      Tot (fun σ => B_Z3_L1b (σ 0) (F_Z33 (σ 0)) (again6 σ) (again σ) a0 a1 a2 a3 a4) (Q a0 a1 a2 a3 a4)) :
    ∀ a0 a1 a2 a3 a4, I a0 a1 a2 a3 a4 → Tot (fun σ => B_Z3_L1 (σ 0) (F_Z33 (σ 0)) (again6 σ) (σ 0) (a0, a1, a2, a3, a4, ())) (Q a0 a1 a2 a3 a4) := fun a0 a1 a2 a3 a4 => Tot.loop (L := fun σ n t => B_Z3_L1 (σ 0) (F_Z33 (σ 0)) (again6 σ) n t) (B := fun σ g => u_Z3_L1 (B_Z3_L1b (σ 0) (F_Z33 (σ 0)) (again6 σ) g)) (Q := u_Z3_L1 Q) 2 (by decide)
    (fun s s' h => by have e0 : s 0 = s' 0 := h 0 (by decide); simp only [e0, hag6 s s' h]) (fun s s' h => by have e0 : s 0 = s' 0 := h 0 (by decide); simp only [e0, hag6 s s' h]) (fun _ _ _ => rfl) (u_Z3_L1 I) (u_Z3_L1 μ)
    (fun t ht again hag h => step t.1 t.2.1 t.2.2.1 t.2.2.2.1 t.2.2.2.2.1 ht again hag fun y0 y1 y2 y3 y4 => h (y0, y1, y2, y3, y4, ())) (a0, a1, a2, a3, a4, ())
abbrev A_Z3_L6 (Z : Type) : Type := List Int → Int → Int → Int → Int → Z
abbrev u_Z3_L6 {Z : Type} (f : A_Z3_L6 Z) (t : T_Z3_L6) : Z := f t.1 t.2.1 t.2.2.1 t.2.2.2.1 t.2.2.2.2.1
theorem loop_Z3_L6 {Q : A_Z3_L6 (((Bool × Unit) × (List Int × Unit)) → Prop)} (I : A_Z3_L6 Prop) (μ : A_Z3_L6 Nat)
    (step : ∀ a0 a1 a2 a3 a4, I a0 a1 a2 a3 a4 → ∀ again : (Nat → Nat) → T_Z3_L6 → R_Z3, Dep 2 again → (∀ y0 y1 y2 y3 y4, I y0 y1 y2 y3 y4 → μ y0 y1 y2 y3 y4 < μ a0 a1 a2 a3 a4 → Tot (fun σ => again σ (y0, y1, y2, y3, y4, ())) (Q y0 y1 y2 y3 y4)) →
      Tot (fun σ => B_Z3_L6b (σ 0) (F_Z33 (σ 0)) (again σ) a0 a1 a2 a3 a4) (Q a0 a1 a2 a3 a4)) :
    ∀ a0 a1 a2 a3 a4, I a0 a1 a2 a3 a4 → Tot (fun σ => B_Z3_L6 (σ 0) (F_Z33 (σ 0)) (σ 0) (a0, a1, a2, a3, a4, ())) (Q a0 a1 a2 a3 a4) := fun a0 a1 a2 a3 a4 => Tot.loop0 (L := fun k => B_Z3_L6 k (F_Z33 k)) (B := fun k g => u_Z3_L6 (B_Z3_L6b k (F_Z33 k) g)) (Q := u_Z3_L6 Q) (fun _ _ _ => rfl) (u_Z3_L6 I) (u_Z3_L6 μ)
    (fun t ht again hag h => step t.1 t.2.1 t.2.2.1 t.2.2.2.1 t.2.2.2.2.1 ht again hag fun y0 y1 y2 y3 y4 => h (y0, y1, y2, y3, y4, ())) (a0, a1, a2, a3, a4, ())
abbrev R_Z6 : Type := Option ((Int × Unit) × (List Int × Unit))
abbrev C_Z6 : Type := List Int → Int → Int → Int → R_Z6
abbrev T_Z6_L3 : Type := List Int × Int × Int × Int × Unit
abbrev T_Z6_L1 : Type := List Int × Int × Int × Int × Unit
abbrev T_Z6_L4 : Type := List Int × Int × Int × Int × Unit
def B_Z6_J2 (k : Nat) (c_Z33 : C_Z33) (again3 : T_Z6_L3 → R_Z6) (again4 : T_Z6_L4 → R_Z6) (data : List Int) (a i j : Int) (t59 : Bool) : R_Z6 :=
  bif t59 then
    again3 (data, a, i, w64 (j - 1), ())
  else
    bif decide (i > j) then
      some ((i, ()), (data, ()))
    else
      chk (inb j data.length) <|
      chk (decide (j.toNat < data.length)) <|
      chk (inb i data.length) <|
      chk (decide (i.toNat < data.length)) <|
      chk (inb i data.length) <|
      chk (decide (i.toNat < data.length)) <|
      chk (inb j (data.set i.toNat (data.getD j.toNat (0 : Int))).length) <|
      chk (decide (j.toNat < (data.set i.toNat (data.getD j.toNat (0 : Int))).length)) <|
      again4 (((data.set i.toNat (data.getD j.toNat (0 : Int))).set j.toNat (data.getD i.toNat (0 : Int))), a, w64 (i + 1), w64 (j - 1), ())
def B_Z6_L3b (k : Nat) (c_Z33 : C_Z33) (again4 : T_Z6_L4 → R_Z6) (again3 : T_Z6_L3 → R_Z6) (data : List Int) (a i j : Int) : R_Z6 :=
  bif decide (i ≤ j) then
    chk (inb a data.length) <|
    chk (decide (a.toNat < data.length)) <|
    chk (inb j data.length) <|
    chk (decide (j.toNat < data.length)) <|
    (c_Z33 (data.getD a.toNat (0 : Int)) (data.getD j.toNat (0 : Int))).bind fun r58 =>
    jn (fun t => B_Z6_J2 k c_Z33 again3 again4 t.1 t.2.1 t.2.2.1 t.2.2.2.1 t.2.2.2.2.1) (data, a, i, j, r58.1.1, ())
  else
    jn (fun t => B_Z6_J2 k c_Z33 again3 again4 t.1 t.2.1 t.2.2.1 t.2.2.2.1 t.2.2.2.2.1) (data, a, i, j, false, ())
def B_Z6_L3 (k : Nat) (c_Z33 : C_Z33) (again4 : T_Z6_L4 → R_Z6) (n : Nat) (t : T_Z6_L3) : R_Z6 :=
  lfix n (fun again t => B_Z6_L3b k c_Z33 again4 again t.1 t.2.1 t.2.2.1 t.2.2.2.1) t
def B_Z6_J0 (k : Nat) (c_Z33 : C_Z33) (again1 : T_Z6_L1 → R_Z6) (again4 : T_Z6_L4 → R_Z6) (data : List Int) (a i j : Int) (t43 : Bool) : R_Z6 :=
  bif t43 then
    again1 (data, a, w64 (i + 1), j, ())
  else
    B_Z6_L3 k c_Z33 again4 k (data, a, i, j, ())
def B_Z6_L1b (k : Nat) (c_Z33 : C_Z33) (again4 : T_Z6_L4 → R_Z6) (again1 : T_Z6_L1 → R_Z6) (data : List Int) (a i j : Int) : R_Z6 :=
  bif decide (i ≤ j) then
    chk (inb a data.length) <|
    chk (decide (a.toNat < data.length)) <|
    chk (inb i data.length) <|
    chk (decide (i.toNat < data.length)) <|
    (c_Z33 (data.getD a.toNat (0 : Int)) (data.getD i.toNat (0 : Int))).bind fun r41 =>
    jn (fun t => B_Z6_J0 k c_Z33 again1 again4 t.1 t.2.1 t.2.2.1 t.2.2.2.1 t.2.2.2.2.1) (data, a, i, j, (!r41.1.1), ())
  else
    jn (fun t => B_Z6_J0 k c_Z33 again1 again4 t.1 t.2.1 t.2.2.1 t.2.2.2.1 t.2.2.2.2.1) (data, a, i, j, false, ())
def B_Z6_L1 (k : Nat) (c_Z33 : C_Z33) (again4 : T_Z6_L4 → R_Z6) (n : Nat) (t : T_Z6_L1) : R_Z6 :=
  lfix n (fun again t => B_Z6_L1b k c_Z33 again4 again t.1 t.2.1 t.2.2.1 t.2.2.2.1) t
def B_Z6_L4b (k : Nat) (c_Z33 : C_Z33) (again4 : T_Z6_L4 → R_Z6) (data : List Int) (a i j : Int) : R_Z6 :=
  B_Z6_L1 k c_Z33 again4 k (data, a, i, j, ())
def B_Z6_L4 (k : Nat) (c_Z33 : C_Z33) (n : Nat) (t : T_Z6_L4) : R_Z6 :=
  lfix n (fun again t => B_Z6_L4b k c_Z33 again t.1 t.2.1 t.2.2.1 t.2.2.2.1) t
def B_Z6 (k : Nat) (c_Z33 : C_Z33) (data : List Int) (a b pivot : Int) : R_Z6 :=
  chk (inb pivot data.length) <|
  chk (decide (pivot.toNat < data.length)) <|
  chk (inb a data.length) <|
  chk (decide (a.toNat < data.length)) <|
  chk (inb a data.length) <|
  chk (decide (a.toNat < data.length)) <|
  chk (inb pivot (data.set a.toNat (data.getD pivot.toNat (0 : Int))).length) <|
  chk (decide (pivot.toNat < (data.set a.toNat (data.getD pivot.toNat (0 : Int))).length)) <|
  B_Z6_L4 k c_Z33 k (((data.set a.toNat (data.getD pivot.toNat (0 : Int))).set pivot.toNat (data.getD a.toNat (0 : Int))), a, w64 (a + 1), w64 (b - 1), ())
def F_Z6 : Nat → C_Z6
  | 0, _, _, _, _ => none
  | k + 1, data, a, b, pivot => B_Z6 k (F_Z33 k) data a b pivot
theorem tot_Z6 {data a b pivot : _} {Q : _ → Prop} (h : Tot (fun σ => B_Z6 (σ 0) (F_Z33 (σ 0)) data a b pivot) Q) : Tot (fun σ => F_Z6 (σ 0) data a b pivot) Q :=
  Tot.call (F := fun k => F_Z6 k data a b pivot) (B := fun k => B_Z6 k (F_Z33 k) data a b pivot) (fun k => rfl) h
abbrev A_Z6_L3 (Z : Type) : Type := List Int → Int → Int → Int → Z
abbrev u_Z6_L3 {Z : Type} (f : A_Z6_L3 Z) (t : T_Z6_L3) : Z := f t.1 t.2.1 t.2.2.1 t.2.2.2.1
theorem loop_Z6_L3 {again4 : (Nat → Nat) → T_Z6_L4 → R_Z6} (hag4 : Dep 2 again4) {Q : A_Z6_L3 (((Int × Unit) × (List Int × Unit)) → Prop)} (I : A_Z6_L3 Prop) (μ : A_Z6_L3 Nat)
    (step : ∀ a0 a1 a2 a3, I a0 a1 a2 a3 → ∀ again : (Nat → Nat) → T_Z6_L3 → R_Z6, Dep 3 again → (∀ y0 y1 y2 y3, I y0 y1 y2 y3 → μ y0 y1 y2 y3 < μ a0 a1 a2 a3 → Tot (fun σ => again σ (y0, y1, y2, y3, ())) (Q y0 y1 y2 y3)) →
      Tot (fun σ => B_Z6_L3b (σ 0) (F_Z33 (σ 0)) (again4 σ) (again σ) a0 a1 a2 a3) (Q a0 a1 a2 a3)) :
    ∀ a0 a1 a2 a3, I a0 a1 a2 a3 → Tot (fun σ => B_Z6_L3 (σ 0) (F_Z33 (σ 0)) (again4 σ) (σ 0) (a0, a1, a2, a3, ())) (Q a0 a1 a2 a3) := fun a0 a1 a2 a3 => Tot.loop (L := fun σ n t => B_Z6_L3 (σ 0) (F_Z33 (σ 0)) (again4 σ) n t) (B := fun σ g => u_Z6_L3 (B_Z6_L3b (σ 0) (F_Z33 (σ 0)) (again4 σ) g)) (Q := u_Z6_L3 Q) 2 (by decide)
    (fun s s' h => by have e0 : s 0 = s' 0 := h 0 (by decide); simp only [e0, hag4 s s' h]) (fun s s' h => by have e0 : s 0 = s' 0 := h 0 (by decide); simp only [e0, hag4 s s' h]) (fun _ _ _ => rfl) (u_Z6_L3 I) (u_Z6_L3 μ)
    (fun t ht again hag h => step t.1 t.2.1 t.2.2.1 t.2.2.2.1 ht again hag fun y0 y1 y2 y3 => h (y0, y1, y2, y3, ())) (a0, a1, a2, a3, ())
abbrev A_Z6_L1 (Z : Type) : Type := List Int → Int → Int → Int → Z
abbrev u_Z6_L1 {Z : Type} (f : A_Z6_L1 Z) (t : T_Z6_L1) : Z := f t.1 t.2.1 t.2.2.1 t.2.2.2.1
theorem loop_Z6_L1 {again4 : (Nat → Nat) → T_Z6_L4 → R_Z6} (hag4 : Dep 2 again4) {Q : A_Z6_L1 (((Int × Unit) × (List Int × Unit)) → Prop)} (I : A_Z6_L1 Prop) (μ : A_Z6_L1 Nat)
    (step : ∀ a0 a1 a2 a3, I a0 a1 a2 a3 → ∀ again : (Nat → Nat) → T_Z6_L1 → R_Z6, Dep 3 again → (∀ y0 y1 y2 y3, I y0 y1 y2 y3 → μ y0 y1 y2 y3 < μ a0 a1 a2 a3 → Tot (fun σ => again σ (y0, y1, y2, y3, ())) (Q y0 y1 y2 y3)) →
      Tot (fun σ => B_Z6_L1b (σ 0) (F_Z33 (σ 0)) (again4 σ) (again σ) a0 a1 a2 a3) (Q a0 a1 a2 a3)) :
    ∀ a0 a1 a2 a3, I a0 a1 a2 a3 → Tot (fun σ => B_Z6_L1 (σ 0) (F_Z33 (σ 0)) (again4 σ) (σ 0) (a0, a1, a2, a3, ())) (Q a0 a1 a2 a3) := fun a0 a1 a2 a3 => Tot.loop (L := fun σ n t => B_Z6_L1 (σ 0) (F_Z33 (σ 0)) (again4 σ) n t) (B := fun σ g => u_Z6_L1 (B_Z6_L1b (σ 0) (F_Z33 (σ 0)) (again4 σ) g)) (Q := u_Z6_L1 Q) 2 (by decide)
    (fun s s' h => by have e0 : s 0 = s' 0 := h 0 (by decide); simp only [e0, hag4 s s' h]) (fun s s' h => by have e0 : s 0 = s' 0 := h 0 (by decide); simp only [e0, hag4 s s' h]) (fun _ _ _ => rfl) (u_Z6_L1 I) (u_Z6_L1 μ)
    (fun t ht again hag h => step t.1 t.2.1 t.2.2.1 t.2.2.2.1 ht again hag fun y0 y1 y2 y3 => h (y0, y1, y2, y3, ())) (a0, a1, a2, a3, ())
abbrev A_Z6_L4 (Z : Type) : Type := List Int → Int → Int → Int → Z
abbrev u_Z6_L4 {Z : Type} (f : A_Z6_L4 Z) (t : T_Z6_L4) : Z := f t.1 t.2.1 t.2.2.1 t.2.2.2.1
theorem loop_Z6_L4 {Q : A_Z6_L4 (((Int × Unit) × (List Int × Unit)) → Prop)} (I : A_Z6_L4 Prop) (μ : A_Z6_L4 Nat)
    (step : ∀ a0 a1 a2 a3, I a0 a1 a2 a3 → ∀ again : (Nat → Nat) → T_Z6_L4 → R_Z6, Dep 2 again → (∀ y0 y1 y2 y3, I y0 y1 y2 y3 → μ y0 y1 y2 y3 < μ a0 a1 a2 a3 → Tot (fun σ => again σ (y0, y1, y2, y3, ())) (Q y0 y1 y2 y3)) →
      Tot (fun σ => B_Z6_L4b (σ 0) (F_Z33 (σ 0)) (again σ) a0 a1 a2 a3) (Q a0 a1 a2 a3)) :
    ∀ a0 a1 a2 a3, I a0 a1 a2 a3 → Tot (fun σ => B_Z6_L4 (σ 0) (F_Z33 (σ 0)) (σ 0) (a0, a1, a2, a3, ())) (Q a0 a1 a2 a3) := fun a0 a1 a2 a3 => Tot.loop0 (L := fun k => B_Z6_L4 k (F_Z33 k)) (B := fun k g => u_Z6_L4 (B_Z6_L4b k (F_Z33 k) g)) (Q := u_Z6_L4 Q) (fun _ _ _ => rfl) (u_Z6_L4 I) (u_Z6_L4 μ)
    (fun t ht again hag h => step t.1 t.2.1 t.2.2.1 t.2.2.2.1 ht again hag fun y0 y1 y2 y3 => h (y0, y1, y2, y3, ())) (a0, a1, a2, a3, ())
abbrev R_Z11 : Type := Option ((Int × Bool × Unit) × (List Int × Unit))
abbrev C_Z11 : Type := List Int → Int → Int → Int → R_Z11
abbrev T_Z11_L7 : Type := List Int × Int × Int × Int × Unit
abbrev T_Z11_L5 : Type := List Int × Int × Int × Int × Unit
abbrev T_Z11_L8 : Type := List Int × Int × Int × Int × Unit
abbrev T_Z11_L3 : Type := List Int × Int × Int × Int × Unit
abbrev T_Z11_L1 : Type := List Int × Int × Int × Int × Unit
def B_Z11_J6 (k : Nat) (c_Z33 : C_Z33) (again7 : T_Z11_L7 → R_Z11) (again8 : T_Z11_L8 → R_Z11) (data : List Int) (a i j : Int) (t129 : Bool) : R_Z11 :=
  bif t129 then
    again7 (data, a, i, w64 (j - 1), ())
  else
    bif decide (i > j) then
      chk (inb a data.length) <|
      chk (decide (a.toNat < data.length)) <|
      chk (inb j data.length) <|
      chk (decide (j.toNat < data.length)) <|
      chk (inb j data.length) <|
      chk (decide (j.toNat < data.length)) <|
      chk (inb a (data.set j.toNat (data.getD a.toNat (0 : Int))).length) <|
      chk (decide (a.toNat < (data.set j.toNat (data.getD a.toNat (0 : Int))).length)) <|
      some ((j, false, ()), (((data.set j.toNat (data.getD a.toNat (0 : Int))).set a.toNat (data.getD j.toNat (0 : Int))), ()))
    else
      chk (inb j data.length) <|
      chk (decide (j.toNat < data.length)) <|
      chk (inb i data.length) <|
      chk (decide (i.toNat < data.length)) <|
      chk (inb i data.length) <|
      chk (decide (i.toNat < data.length)) <|
      chk (inb j (data.set i.toNat (data.getD j.toNat (0 : Int))).length) <|
      chk (decide (j.toNat < (data.set i.toNat (data.getD j.toNat (0 : Int))).length)) <|
      again8 (((data.set i.toNat (data.getD j.toNat (0 : Int))).set j.toNat (data.getD i.toNat (0 : Int))), a, w64 (i + 1), w64 (j - 1), ())
def B_Z11_L7b (k : Nat) (c_Z33 : C_Z33) (again8 : T_Z11_L8 → R_Z11) (again7 : T_Z11_L7 → R_Z11) (data : List Int) (a i j : Int) : R_Z11 :=
  bif decide (i ≤ j) then
    chk (inb j data.length) <|
    chk (decide (j.toNat < data.length)) <|
    chk (inb a data.length) <|
    chk (decide (a.toNat < data.length)) <|
    (c_Z33 (data.getD j.toNat (0 : Int)) (data.getD a.toNat (0 : Int))).bind fun r127 =>
    jn (fun t => B_Z11_J6 k c_Z33 again7 again8 t.1 t.2.1 t.2.2.1 t.2.2.2.1 t.2.2.2.2.1) (data, a, i, j, (!r127.1.1), ())
  else
    jn (fun t => B_Z11_J6 k c_Z33 again7 again8 t.1 t.2.1 t.2.2.1 t.2.2.2.1 t.2.2.2.2.1) (data, a, i, j, false, ())
def B_Z11_L7 (k : Nat) (c_Z33 : C_Z33) (again8 : T_Z11_L8 → R_Z11) (n : Nat) (t : T_Z11_L7) : R_Z11 :=
  lfix n (fun again t => B_Z11_L7b k c_Z33 again8 again t.1 t.2.1 t.2.2.1 t.2.2.2.1) t
def B_Z11_J4 (k : Nat) (c_Z33 : C_Z33) (again5 : T_Z11_L5 → R_Z11) (again8 : T_Z11_L8 → R_Z11) (data : List Int) (a i j : Int) (t112 : Bool) : R_Z11 :=
  bif t112 then
    again5 (data, a, w64 (i + 1), j, ())
  else
    B_Z11_L7 k c_Z33 again8 k (data, a, i, j, ())
def B_Z11_L5b (k : Nat) (c_Z33 : C_Z33) (again8 : T_Z11_L8 → R_Z11) (again5 : T_Z11_L5 → R_Z11) (data : List Int) (a i j : Int) : R_Z11 :=
  bif decide (i ≤ j) then
    chk (inb i data.length) <|
    chk (decide (i.toNat < data.length)) <|
    chk (inb a data.length) <|
    chk (decide (a.toNat < data.length)) <|
    (c_Z33 (data.getD i.toNat (0 : Int)) (data.getD a.toNat (0 : Int))).bind fun r111 =>
    jn (fun t => B_Z11_J4 k c_Z33 again5 again8 t.1 t.2.1 t.2.2.1 t.2.2.2.1 t.2.2.2.2.1) (data, a, i, j, r111.1.1, ())
  else
    jn (fun t => B_Z11_J4 k c_Z33 again5 again8 t.1 t.2.1 t.2.2.1 t.2.2.2.1 t.2.2.2.2.1) (data, a, i, j, false, ())
def B_Z11_L5 (k : Nat) (c_Z33 : C_Z33) (again8 : T_Z11_L8 → R_Z11) (n : Nat) (t : T_Z11_L5) : R_Z11 :=
  lfix n (fun again t => B_Z11_L5b k c_Z33 again8 again t.1 t.2.1 t.2.2.1 t.2.2.2.1) t
def B_Z11_L8b (k : Nat) (c_Z33 : C_Z33) (again8 : T_Z11_L8 → R_Z11) (data : List Int) (a i j : Int) : R_Z11 :=
  B_Z11_L5 k c_Z33 again8 k (data, a, i, j, ())
def B_Z11_L8 (k : Nat) (c_Z33 : C_Z33) (n : Nat) (t : T_Z11_L8) : R_Z11 :=
  lfix n (fun again t => B_Z11_L8b k c_Z33 again t.1 t.2.1 t.2.2.1 t.2.2.2.1) t
def B_Z11_J2 (k : Nat) (c_Z33 : C_Z33) (again3 : T_Z11_L3 → R_Z11) (data : List Int) (a i j : Int) (t60 : Bool) : R_Z11 :=
  bif t60 then
    again3 (data, a, i, w64 (j - 1), ())
  else
    bif decide (i > j) then
      chk (inb a data.length) <|
      chk (decide (a.toNat < data.length)) <|
      chk (inb j data.length) <|
      chk (decide (j.toNat < data.length)) <|
      chk (inb j data.length) <|
      chk (decide (j.toNat < data.length)) <|
      chk (inb a (data.set j.toNat (data.getD a.toNat (0 : Int))).length) <|
      chk (decide (a.toNat < (data.set j.toNat (data.getD a.toNat (0 : Int))).length)) <|
      some ((j, true, ()), (((data.set j.toNat (data.getD a.toNat (0 : Int))).set a.toNat (data.getD j.toNat (0 : Int))), ()))
    else
      chk (inb j data.length) <|
      chk (decide (j.toNat < data.length)) <|
      chk (inb i data.length) <|
      chk (decide (i.toNat < data.length)) <|
      chk (inb i data.length) <|
      chk (decide (i.toNat < data.length)) <|
      chk (inb j (data.set i.toNat (data.getD j.toNat (0 : Int))).length) <|
      chk (decide (j.toNat < (data.set i.toNat (data.getD j.toNat (0 : Int))).length)) <|
      B_Z11_L8 k c_Z33 k (((data.set i.toNat (data.getD j.toNat (0 : Int))).set j.toNat (data.getD i.toNat (0 : Int))), a, w64 (i + 1), w64 (j - 1), ())
def B_Z11_L3b (k : Nat) (c_Z33 : C_Z33) (again3 : T_Z11_L3 → R_Z11) (data : List Int) (a i j : Int) : R_Z11 :=
  bif decide (i ≤ j) then
    chk (inb j data.length) <|
    chk (decide (j.toNat < data.length)) <|
    chk (inb a data.length) <|
    chk (decide (a.toNat < data.length)) <|
    (c_Z33 (data.getD j.toNat (0 : Int)) (data.getD a.toNat (0 : Int))).bind fun r58 =>
    jn (fun t => B_Z11_J2 k c_Z33 again3 t.1 t.2.1 t.2.2.1 t.2.2.2.1 t.2.2.2.2.1) (data, a, i, j, (!r58.1.1), ())
  else
    jn (fun t => B_Z11_J2 k c_Z33 again3 t.1 t.2.1 t.2.2.1 t.2.2.2.1 t.2.2.2.2.1) (data, a, i, j, false, ())
def B_Z11_L3 (k : Nat) (c_Z33 : C_Z33) (n : Nat) (t : T_Z11_L3) : R_Z11 :=
  lfix n (fun again t => B_Z11_L3b k c_Z33 again t.1 t.2.1 t.2.2.1 t.2.2.2.1) t
def B_Z11_J0 (k : Nat) (c_Z33 : C_Z33) (again1 : T_Z11_L1 → R_Z11) (data : List Int) (a i j : Int) (t43 : Bool) : R_Z11 :=
  bif t43 then
    again1 (data, a, w64 (i + 1), j, ())
  else
    B_Z11_L3 k c_Z33 k (data, a, i, j, ())
def B_Z11_L1b (k : Nat) (c_Z33 : C_Z33) (again1 : T_Z11_L1 → R_Z11) (data : List Int) (a i j : Int) : R_Z11 :=
  bif decide (i ≤ j) then
    chk (inb i data.length) <|
    chk (decide (i.toNat < data.length)) <|
    chk (inb a data.length) <|
    chk (decide (a.toNat < data.length)) <|
    (c_Z33 (data.getD i.toNat (0 : Int)) (data.getD a.toNat (0 : Int))).bind fun r42 =>
    jn (fun t => B_Z11_J0 k c_Z33 again1 t.1 t.2.1 t.2.2.1 t.2.2.2.1 t.2.2.2.2.1) (data, a, i, j, r42.1.1, ())
  else
    jn (fun t => B_Z11_J0 k c_Z33 again1 t.1 t.2.1 t.2.2.1 t.2.2.2.1 t.2.2.2.2.1) (data, a, i, j, false, ())
def B_Z11_L1 (k : Nat) (c_Z33 : C_Z33) (n : Nat) (t : T_Z11_L1) : R_Z11 :=
  lfix n (fun again t => B_Z11_L1b k c_Z33 again t.1 t.2.1 t.2.2.1 t.2.2.2.1) t
def B_Z11 (k : Nat) (c_Z33 : C_Z33) (data : List Int) (a b pivot : Int) : R_Z11 :=
  chk (inb pivot data.length) <|
  chk (decide (pivot.toNat < data.length)) <|
  chk (inb a data.length) <|
  chk (decide (a.toNat < data.length)) <|
  chk (inb a data.length) <|
  chk (decide (a.toNat < data.length)) <|
  chk (inb pivot (data.set a.toNat (data.getD pivot.toNat (0 : Int))).length) <|
  chk (decide (pivot.toNat < (data.set a.toNat (data.getD pivot.toNat (0 : Int))).length)) <|
  B_Z11_L1 k c_Z33 k (((data.set a.toNat (data.getD pivot.toNat (0 : Int))).set pivot.toNat (data.getD a.toNat (0 : Int))), a, w64 (a + 1), w64 (b - 1), ())
def F_Z11 : Nat → C_Z11
  | 0, _, _, _, _ => none
  | k + 1, data, a, b, pivot => B_Z11 k (F_Z33 k) data a b pivot
theorem tot_Z11 {data a b pivot : _} {Q : _ → Prop} (h : Tot (fun σ => B_Z11 (σ 0) (F_Z33 (σ 0)) data a b pivot) Q) : Tot (fun σ => F_Z11 (σ 0) data a b pivot) Q :=
  Tot.call (F := fun k => F_Z11 k data a b pivot) (B := fun k => B_Z11 k (F_Z33 k) data a b pivot) (fun k => rfl) h
abbrev A_Z11_L7 (Z : Type) : Type := List Int → Int → Int → Int → Z
abbrev u_Z11_L7 {Z : Type} (f : A_Z11_L7 Z) (t : T_Z11_L7) : Z := f t.1 t.2.1 t.2.2.1 t.2.2.2.1
theorem loop_Z11_L7 {again8 : (Nat → Nat) → T_Z11_L8 → R_Z11} (hag8 : Dep 2 again8) {Q : A_Z11_L7 (((Int × Bool × Unit) × (List Int × Unit)) → Prop)} (I : A_Z11_L7 Prop) (μ : A_Z11_L7 Nat)
    (step : ∀ a0 a1 a2 a3, I a0 a1 a2 a3 → ∀ again : (Nat → Nat) → T_Z11_L7 → R_Z11, Dep 3 again → (∀ y0 y1 y2 y3, I y0 y1 y2 y3 → μ y0 y1 y2 y3 < μ a0 a1 a2 a3 → Tot (fun σ => again σ (y0, y1, y2, y3, ())) (Q y0 y1 y2 y3)) →
      Tot (fun σ => B_Z11_L7b (σ 0) (F_Z33 (σ 0)) (again8 σ) (again σ) a0 a1 a2 a3) (Q a0 a1 a2 a3)) :
    ∀ a0 a1 a2 a3, I a0 a1 a2 a3 → Tot (fun σ => B_Z11_L7 (σ 0) (F_Z33 (σ 0)) (again8 σ) (σ 0) (a0, a1, a2, a3, ())) (Q a0 a1 a2 a3) := fun a0 a1 a2 a3 => Tot.loop (L := fun σ n t => B_Z11_L7 (σ 0) (F_Z33 (σ 0)) (again8 σ) n t) (B := fun σ g => u_Z11_L7 (B_Z11_L7b (σ 0) (F_Z33 (σ 0)) (again8 σ) g)) (Q := u_Z11_L7 Q) 2 (by decide)
    (fun s s' h => by have e0 : s 0 = s' 0 := h 0 (by decide); simp only [e0, hag8 s s' h]) (fun s s' h => by have e0 : s 0 = s' 0 := h 0 (by decide); simp only [e0, hag8 s s' h]) (fun _ _ _ => rfl) (u_Z11_L7 I) (u_Z11_L7 μ)
    (fun t ht again hag h => step t.1 t.2.1 t.2.2.1 t.2.2.2.1 ht again hag fun y0 y1 y2 y3 => h (y0, y1, y2, y3, ())) (a0, a1, a2, a3, ())
abbrev A_Z11_L5 (Z : Type) : Type := List Int → Int → Int → Int → Z
abbrev u_Z11_L5 {Z : Type} (f : A_Z11_L5 Z) (t : T_Z11_L5) : Z := f t.1 t.2.1 t.2.2.1 t.2.2.2.1
theorem loop_Z11_L5 {again8 : (Nat → Nat) → T_Z11_L8 → R_Z11} (hag8 : Dep 2 again8) {Q : A_Z11_L5 (((Int × Bool × Unit) × (List Int × Unit)) → Prop)} (I : A_Z11_L5 Prop) (μ : A_Z11_L5 Nat)
    (step : ∀ a0 a1 a2 a3, I a0 a1 a2 a3 → ∀ again : (Nat → Nat) → T_Z11_L5 → R_Z11, Dep 3 again → (∀ y0 y1 y2 y3, I y0 y1 y2 y3 → μ y0 y1 y2 y3 < μ a0 a1 a2 a3 → Tot (fun σ => again σ (y0, y1, y2, y3, ())) (Q y0 y1 y2 y3)) →
      Tot (fun σ => B_Z11_L5b (σ 0) (F_Z33 (σ 0)) (again8 σ) (again σ) a0 a1 a2 a3) (Q a0 a1 a2 a3)) :
    ∀ a0 a1 a2 a3, I a0 a1 a2 a3 → Tot (fun σ => B_Z11_L5 (σ 0) (F_Z33 (σ 0)) (again8 σ) (σ 0) (a0, a1, a2, a3, ())) (Q a0 a1 a2 a3) := fun a0 a1 a2 a3 => Tot.loop (L := fun σ n t => B_Z11_L5 (σ 0) (F_Z33 (σ 0)) (again8 σ) n t) (B := fun σ g => u_Z11_L5 (B_Z11_L5b (σ 0) (F_Z33 (σ 0)) (again8 σ) g)) (Q := u_Z11_L5 Q) 2 (by decide)
    (fun s s' h => by have e0 : s 0 = s' 0 := h 0 (by decide); simp only [e0, hag8 s s' h]) (fun s s' h => by have e0 : s 0 = s' 0 := h 0 (by decide); simp only [e0, hag8 s s' h]) (fun _ _ _ => rfl) (u_Z11_L5 I) (u_Z11_L5 μ)
    (fun t ht again hag h => step t.1 t.2.1 t.2.2.1 t.2.2.2.1 ht again hag fun y0 y1 y2 y3 => h (y0, y1, y2, y3, ())) (a0, a1, a2, a3, ())
abbrev A_Z11_L8 (Z : Type) : Type := List Int → Int → Int → Int → Z
abbrev u_Z11_L8 {Z : Type} (f : A_Z11_L8 Z) (t : T_Z11_L8) : Z := f t.1 t.2.1 t.2.2.1 t.2.2.2.1
theorem loop_Z11_L8 {Q : A_Z11_L8 (((Int × Bool × Unit) × (List Int × Unit)) → Prop)} (I : A_Z11_L8 Prop) (μ : A_Z11_L8 Nat)
    (step : ∀ a0 a1 a2 a3, I a0 a1 a2 a3 → ∀ again : (Nat → Nat) → T_Z11_L8 → R_Z11, Dep 2 again → (∀ y0 y1 y2 y3, I y0 y1 y2 y3 → μ y0 y1 y2 y3 < μ a0 a1 a2 a3 → Tot (fun σ => again σ (y0, y1, y2, y3, ())) (Q y0 y1 y2 y3)) →
      Tot (fun σ => B_Z11_L8b (σ 0) (F_Z33 (σ 0)) (again σ) a0 a1 a2 a3) (Q a0 a1 a2 a3)) :
    ∀ a0 a1 a2 a3, I a0 a1 a2 a3 → Tot (fun σ => B_Z11_L8 (σ 0) (F_Z33 (σ 0)) (σ 0) (a0, a1, a2, a3, ())) (Q a0 a1 a2 a3) := fun a0 a1 a2 a3 => Tot.loop0 (L := fun k => B_Z11_L8 k (F_Z33 k)) (B := fun k g => u_Z11_L8 (B_Z11_L8b k (F_Z33 k) g)) (Q := u_Z11_L8 Q) (fun _ _ _ => rfl) (u_Z11_L8 I) (u_Z11_L8 μ)
    (fun t ht again hag h => step t.1 t.2.1 t.2.2.1 t.2.2.2.1 ht again hag fun y0 y1 y2 y3 => h (y0, y1, y2, y3, ())) (a0, a1, a2, a3, ())
abbrev A_Z11_L3 (Z : Type) : Type := List Int → Int → Int → Int → Z
abbrev u_Z11_L3 {Z : Type} (f : A_Z11_L3 Z) (t : T_Z11_L3) : Z := f t.1 t.2.1 t.2.2.1 t.2.2.2.1
theorem loop_Z11_L3 {Q : A_Z11_L3 (((Int × Bool × Unit) × (List Int × Unit)) → Prop)} (I : A_Z11_L3 Prop) (μ : A_Z11_L3 Nat)
    (step : ∀ a0 a1 a2 a3, I a0 a1 a2 a3 → ∀ again : (Nat → Nat) → T_Z11_L3 → R_Z11, Dep 2 again → (∀ y0 y1 y2 y3, I y0 y1 y2 y3 → μ y0 y1 y2 y3 < μ a0 a1 a2 a3 → Tot (fun σ => again σ (y0, y1, y2, y3, ())) (Q y0 y1 y2 y3)) →
      Tot (fun σ => B_Z11_L3b (σ 0) (F_Z33 (σ 0)) (again σ) a0 a1 a2 a3) (Q a0 a1 a2 a3)) :
    ∀ a0 a1 a2 a3, I a0 a1 a2 a3 → Tot (fun σ => B_Z11_L3 (σ 0) (F_Z33 (σ 0)) (σ 0) (a0, a1, a2, a3, ())) (Q a0 a1 a2 a3) := fun a0 a1 a2 a3 => Tot.loop0 (L := fun k => B_Z11_L3 k (F_Z33 k)) (B := fun k g => u_Z11_L3 (B_Z11_L3b k (F_Z33 k) g)) (Q := u_Z11_L3 Q) (fun _ _ _ => rfl) (u_Z11_L3 I) (u_Z11_L3 μ)
    (fun t ht again hag h => step t.1 t.2.1 t.2.2.1 t.2.2.2.1 ht again hag fun y0 y1 y2 y3 => h (y0, y1, y2, y3, ())) (a0, a1, a2, a3, ())
abbrev A_Z11_L1 (Z : Type) : Type := List Int → Int → Int → Int → Z
abbrev u_Z11_L1 {Z : Type} (f : A_Z11_L1 Z) (t : T_Z11_L1) : Z := f t.1 t.2.1 t.2.2.1 t.2.2.2.1
theorem loop_Z11_L1 {Q : A_Z11_L1 (((Int × Bool × Unit) × (List Int × Unit)) → Prop)} (I : A_Z11_L1 Prop) (μ : A_Z11_L1 Nat)
    (step : ∀ a0 a1 a2 a3, I a0 a1 a2 a3 → ∀ again : (Nat → Nat) → T_Z11_L1 → R_Z11, Dep 2 again → (∀ y0 y1 y2 y3, I y0 y1 y2 y3 → μ y0 y1 y2 y3 < μ a0 a1 a2 a3 → Tot (fun σ => again σ (y0, y1, y2, y3, ())) (Q y0 y1 y2 y3)) →
      Tot (fun σ => B_Z11_L1b (σ 0) (F_Z33 (σ 0)) (again σ) a0 a1 a2 a3) (Q a0 a1 a2 a3)) :
    ∀ a0 a1 a2 a3, I a0 a1 a2 a3 → Tot (fun σ => B_Z11_L1 (σ 0) (F_Z33 (σ 0)) (σ 0) (a0, a1, a2, a3, ())) (Q a0 a1 a2 a3) := fun a0 a1 a2 a3 => Tot.loop0 (L := fun k => B_Z11_L1 k (F_Z33 k)) (B := fun k g => u_Z11_L1 (B_Z11_L1b k (F_Z33 k) g)) (Q := u_Z11_L1 Q) (fun _ _ _ => rfl) (u_Z11_L1 I) (u_Z11_L1 μ)
    (fun t ht again hag h => step t.1 t.2.1 t.2.2.1 t.2.2.2.1 ht again hag fun y0 y1 y2 y3 => h (y0, y1, y2, y3, ())) (a0, a1, a2, a3, ())
abbrev R_Z15 : Type := Option ((Unit) × (List Int × Unit))
abbrev C_Z15 : Type := List Int → Int → Int → Int → R_Z15
abbrev T_Z15_L5 : Type := List Int × Int × Int × Int × Bool × Bool × Unit
def B_Z15_J4 (k : Nat) (c_Z7 : C_Z7) (c_Z13 : C_Z13) (c_Z8 : C_Z8) (c_Z10 : C_Z10) (c_Z9 : C_Z9) (c_Z3 : C_Z3) (c_Z33 : C_Z33) (c_Z6 : C_Z6) (c_Z11 : C_Z11) (c_Z15 : C_Z15) (again5 : T_Z15_L5 → R_Z15) (data : List Int) (a b limit : Int) (wasBalanced wasPartitioned : Bool) (length pivot : Int) (t87 : Bool) : R_Z15 :=
  bif t87 then
    (c_Z6 data a b pivot).bind fun r92 =>
    again5 (r92.2.1, r92.1.1, b, limit, wasBalanced, wasPartitioned, ())
  else
    (c_Z11 data a b pivot).bind fun r99 =>
    bif decide ((w64 (r99.1.1 - a)) < (w64 (b - r99.1.1))) then
      (c_Z15 r99.2.1 a r99.1.1 limit).bind fun r121 =>
      again5 (r121.2.1, w64 (r99.1.1 + 1), b, limit, decide ((w64 (r99.1.1 - a)) ≥ (w64 (length.tdiv 8))), r99.1.2.1, ())
    else
      (c_Z15 r99.2.1 (w64 (r99.1.1 + 1)) b limit).bind fun r132 =>
      again5 (r132.2.1, a, r99.1.1, limit, decide ((w64 (b - r99.1.1)) ≥ (w64 (length.tdiv 8))), r99.1.2.1, ())
def B_Z15_J3 (k : Nat) (c_Z7 : C_Z7) (c_Z13 : C_Z13) (c_Z8 : C_Z8) (c_Z10 : C_Z10) (c_Z9 : C_Z9) (c_Z3 : C_Z3) (c_Z33 : C_Z33) (c_Z6 : C_Z6) (c_Z11 : C_Z11) (c_Z15 : C_Z15) (again5 : T_Z15_L5 → R_Z15) (data : List Int) (a b limit : Int) (wasBalanced wasPartitioned : Bool) (length pivot : Int) : R_Z15 :=
  bif decide (a > 0) then
    chk (inb (w64 (a - 1)) data.length) <|
    chk (decide ((w64 (a - 1)).toNat < data.length)) <|
    chk (inb pivot data.length) <|
    chk (decide (pivot.toNat < data.length)) <|
    (c_Z33 (data.getD ((w64 (a - 1)).toNat) (0 : Int)) (data.getD pivot.toNat (0 : Int))).bind fun r85 =>
    jn (fun t => B_Z15_J4 k c_Z7 c_Z13 c_Z8 c_Z10 c_Z9 c_Z3 c_Z33 c_Z6 c_Z11 c_Z15 again5 t.1 t.2.1 t.2.2.1 t.2.2.2.1 t.2.2.2.2.1 t.2.2.2.2.2.1 t.2.2.2.2.2.2.1 t.2.2.2.2.2.2.2.1 t.2.2.2.2.2.2.2.2.1) (data, a, b, limit, wasBalanced, wasPartitioned, length, pivot, (!r85.1.1), ())
  else
    jn (fun t => B_Z15_J4 k c_Z7 c_Z13 c_Z8 c_Z10 c_Z9 c_Z3 c_Z33 c_Z6 c_Z11 c_Z15 again5 t.1 t.2.1 t.2.2.1 t.2.2.2.1 t.2.2.2.2.1 t.2.2.2.2.2.1 t.2.2.2.2.2.2.1 t.2.2.2.2.2.2.2.1 t.2.2.2.2.2.2.2.2.1) (data, a, b, limit, wasBalanced, wasPartitioned, length, pivot, false, ())
def B_Z15_J2 (k : Nat) (c_Z7 : C_Z7) (c_Z13 : C_Z13) (c_Z8 : C_Z8) (c_Z10 : C_Z10) (c_Z9 : C_Z9) (c_Z3 : C_Z3) (c_Z33 : C_Z33) (c_Z6 : C_Z6) (c_Z11 : C_Z11) (c_Z15 : C_Z15) (again5 : T_Z15_L5 → R_Z15) (data : List Int) (a b limit : Int) (wasBalanced wasPartitioned : Bool) (length pivot : Int) (t68 : Bool) : R_Z15 :=
  bif t68 then
    (c_Z3 data a b).bind fun r72 =>
    bif r72.1.1 then
      some ((), (r72.2.1, ()))
    else
      jn (fun t => B_Z15_J3 k c_Z7 c_Z13 c_Z8 c_Z10 c_Z9 c_Z3 c_Z33 c_Z6 c_Z11 c_Z15 again5 t.1 t.2.1 t.2.2.1 t.2.2.2.1 t.2.2.2.2.1 t.2.2.2.2.2.1 t.2.2.2.2.2.2.1 t.2.2.2.2.2.2.2.1) (r72.2.1, a, b, limit, wasBalanced, wasPartitioned, length, pivot, ())
  else
    jn (fun t => B_Z15_J3 k c_Z7 c_Z13 c_Z8 c_Z10 c_Z9 c_Z3 c_Z33 c_Z6 c_Z11 c_Z15 again5 t.1 t.2.1 t.2.2.1 t.2.2.2.1 t.2.2.2.2.1 t.2.2.2.2.2.1 t.2.2.2.2.2.2.1 t.2.2.2.2.2.2.2.1) (data, a, b, limit, wasBalanced, wasPartitioned, length, pivot, ())
def B_Z15_J1 (k : Nat) (c_Z7 : C_Z7) (c_Z13 : C_Z13) (c_Z8 : C_Z8) (c_Z10 : C_Z10) (c_Z9 : C_Z9) (c_Z3 : C_Z3) (c_Z33 : C_Z33) (c_Z6 : C_Z6) (c_Z11 : C_Z11) (c_Z15 : C_Z15) (again5 : T_Z15_L5 → R_Z15) (data : List Int) (a b limit : Int) (wasBalanced wasPartitioned : Bool) (length pivot hint : Int) : R_Z15 :=
  bif wasBalanced then
    bif wasPartitioned then
      jn (fun t => B_Z15_J2 k c_Z7 c_Z13 c_Z8 c_Z10 c_Z9 c_Z3 c_Z33 c_Z6 c_Z11 c_Z15 again5 t.1 t.2.1 t.2.2.1 t.2.2.2.1 t.2.2.2.2.1 t.2.2.2.2.2.1 t.2.2.2.2.2.2.1 t.2.2.2.2.2.2.2.1 t.2.2.2.2.2.2.2.2.1) (data, a, b, limit, wasBalanced, wasPartitioned, length, pivot, (hint == 1), ())
    else
      jn (fun t => B_Z15_J2 k c_Z7 c_Z13 c_Z8 c_Z10 c_Z9 c_Z3 c_Z33 c_Z6 c_Z11 c_Z15 again5 t.1 t.2.1 t.2.2.1 t.2.2.2.1 t.2.2.2.2.1 t.2.2.2.2.2.1 t.2.2.2.2.2.2.1 t.2.2.2.2.2.2.2.1 t.2.2.2.2.2.2.2.2.1) (data, a, b, limit, wasBalanced, wasPartitioned, length, pivot, false, ())
  else
    jn (fun t => B_Z15_J2 k c_Z7 c_Z13 c_Z8 c_Z10 c_Z9 c_Z3 c_Z33 c_Z6 c_Z11 c_Z15 again5 t.1 t.2.1 t.2.2.1 t.2.2.2.1 t.2.2.2.2.1 t.2.2.2.2.2.1 t.2.2.2.2.2.2.1 t.2.2.2.2.2.2.2.1 t.2.2.2.2.2.2.2.2.1) (data, a, b, limit, wasBalanced, wasPartitioned, length, pivot, false, ())
def B_Z15_J0 (k : Nat) (c_Z7 : C_Z7) (c_Z13 : C_Z13) (c_Z8 : C_Z8) (c_Z10 : C_Z10) (c_Z9 : C_Z9) (c_Z3 : C_Z3) (c_Z33 : C_Z33) (c_Z6 : C_Z6) (c_Z11 : C_Z11) (c_Z15 : C_Z15) (again5 : T_Z15_L5 → R_Z15) (data : List Int) (a b limit : Int) (wasBalanced wasPartitioned : Bool) (length : Int) : R_Z15 :=
  (c_Z10 data a b).bind fun r46 =>
  bif (r46.1.2.1 == 2) then
    (c_Z9 data a b).bind fun r54 =>
    jn (fun t => B_Z15_J1 k c_Z7 c_Z13 c_Z8 c_Z10 c_Z9 c_Z3 c_Z33 c_Z6 c_Z11 c_Z15 again5 t.1 t.2.1 t.2.2.1 t.2.2.2.1 t.2.2.2.2.1 t.2.2.2.2.2.1 t.2.2.2.2.2.2.1 t.2.2.2.2.2.2.2.1 t.2.2.2.2.2.2.2.2.1) (r54.2.1, a, b, limit, wasBalanced, wasPartitioned, length, w64 ((w64 (b - 1)) - (w64 (r46.1.1 - a))), 1, ())
  else
    jn (fun t => B_Z15_J1 k c_Z7 c_Z13 c_Z8 c_Z10 c_Z9 c_Z3 c_Z33 c_Z6 c_Z11 c_Z15 again5 t.1 t.2.1 t.2.2.1 t.2.2.2.1 t.2.2.2.2.1 t.2.2.2.2.2.1 t.2.2.2.2.2.2.1 t.2.2.2.2.2.2.2.1 t.2.2.2.2.2.2.2.2.1) (data, a, b, limit, wasBalanced, wasPartitioned, length, r46.1.1, r46.1.2.1, ())
def B_Z15_L5b (k : Nat) (c_Z7 : C_Z7) (c_Z13 : C_Z13) (c_Z8 : C_Z8) (c_Z10 : C_Z10) (c_Z9 : C_Z9) (c_Z3 : C_Z3) (c_Z33 : C_Z33) (c_Z6 : C_Z6) (c_Z11 : C_Z11) (c_Z15 : C_Z15) (again5 : T_Z15_L5 → R_Z15) (data : List Int) (a b limit : Int) (wasBalanced wasPartitioned : Bool) : R_Z15 :=
  bif decide ((w64 (b - a)) ≤ 12) then
    (c_Z7 data a b).bind fun r27 =>
    some ((), (r27.2.1, ()))
  else
    bif (limit == 0) then
      (c_Z13 data a b).bind fun r33 =>
      some ((), (r33.2.1, ()))
    else
      bif (!wasBalanced) then
        (c_Z8 data a b).bind fun r39 =>
        jn (fun t => B_Z15_J0 k c_Z7 c_Z13 c_Z8 c_Z10 c_Z9 c_Z3 c_Z33 c_Z6 c_Z11 c_Z15 again5 t.1 t.2.1 t.2.2.1 t.2.2.2.1 t.2.2.2.2.1 t.2.2.2.2.2.1 t.2.2.2.2.2.2.1) (r39.2.1, a, b, w64 (limit - 1), wasBalanced, wasPartitioned, w64 (b - a), ())
      else
        jn (fun t => B_Z15_J0 k c_Z7 c_Z13 c_Z8 c_Z10 c_Z9 c_Z3 c_Z33 c_Z6 c_Z11 c_Z15 again5 t.1 t.2.1 t.2.2.1 t.2.2.2.1 t.2.2.2.2.1 t.2.2.2.2.2.1 t.2.2.2.2.2.2.1) (data, a, b, limit, wasBalanced, wasPartitioned, w64 (b - a), ())
def B_Z15_L5 (k : Nat) (c_Z7 : C_Z7) (c_Z13 : C_Z13) (c_Z8 : C_Z8) (c_Z10 : C_Z10) (c_Z9 : C_Z9) (c_Z3 : C_Z3) (c_Z33 : C_Z33) (c_Z6 : C_Z6) (c_Z11 : C_Z11) (c_Z15 : C_Z15) (n : Nat) (t : T_Z15_L5) : R_Z15 :=
  lfix n (fun again t => B_Z15_L5b k c_Z7 c_Z13 c_Z8 c_Z10 c_Z9 c_Z3 c_Z33 c_Z6 c_Z11 c_Z15 again t.1 t.2.1 t.2.2.1 t.2.2.2.1 t.2.2.2.2.1 t.2.2.2.2.2.1) t
def B_Z15 (k : Nat) (c_Z7 : C_Z7) (c_Z13 : C_Z13) (c_Z8 : C_Z8) (c_Z10 : C_Z10) (c_Z9 : C_Z9) (c_Z3 : C_Z3) (c_Z33 : C_Z33) (c_Z6 : C_Z6) (c_Z11 : C_Z11) (c_Z15 : C_Z15) (data : List Int) (a b limit : Int) : R_Z15 :=
  B_Z15_L5 k c_Z7 c_Z13 c_Z8 c_Z10 c_Z9 c_Z3 c_Z33 c_Z6 c_Z11 c_Z15 k (data, a, b, limit, true, true, ())
def F_Z15 : Nat → C_Z15
  | 0, _, _, _, _ => none
  | k + 1, data, a, b, limit => B_Z15 k (F_Z7 k) (F_Z13 k) (F_Z8 k) (F_Z10 k) (F_Z9 k) (F_Z3 k) (F_Z33 k) (F_Z6 k) (F_Z11 k) (F_Z15 k) data a b limit
theorem F_Z15_succ (k : Nat) (data : List Int) (a : Int) (b : Int) (limit : Int) : F_Z15 (k + 1) data a b limit = B_Z15 k (F_Z7 k) (F_Z13 k) (F_Z8 k) (F_Z10 k) (F_Z9 k) (F_Z3 k) (F_Z33 k) (F_Z6 k) (F_Z11 k) (F_Z15 k) data a b limit := by rw [F_Z15]
theorem tot_Z15 {data a b limit : _} {Q : _ → Prop} (h : Tot (fun σ => B_Z15 (σ 0) (F_Z7 (σ 0)) (F_Z13 (σ 0)) (F_Z8 (σ 0)) (F_Z10 (σ 0)) (F_Z9 (σ 0)) (F_Z3 (σ 0)) (F_Z33 (σ 0)) (F_Z6 (σ 0)) (F_Z11 (σ 0)) (F_Z15 (σ 0)) data a b limit) Q) : Tot (fun σ => F_Z15 (σ 0) data a b limit) Q :=
  Tot.call (F := fun k => F_Z15 k data a b limit) (B := fun k => B_Z15 k (F_Z7 k) (F_Z13 k) (F_Z8 k) (F_Z10 k) (F_Z9 k) (F_Z3 k) (F_Z33 k) (F_Z6 k) (F_Z11 k) (F_Z15 k) data a b limit) (fun k => F_Z15_succ k data a b limit) h
abbrev A_Z15_L5 (Z : Type) : Type := List Int → Int → Int → Int → Bool → Bool → Z
abbrev u_Z15_L5 {Z : Type} (f : A_Z15_L5 Z) (t : T_Z15_L5) : Z := f t.1 t.2.1 t.2.2.1 t.2.2.2.1 t.2.2.2.2.1 t.2.2.2.2.2.1
theorem loop_Z15_L5 {Q : A_Z15_L5 (((Unit) × (List Int × Unit)) → Prop)} (I : A_Z15_L5 Prop) (μ : A_Z15_L5 Nat)
    (step : ∀ a0 a1 a2 a3 a4 a5, I a0 a1 a2 a3 a4 a5 → ∀ again : (Nat → Nat) → T_Z15_L5 → R_Z15, Dep 2 again → (∀ y0 y1 y2 y3 y4 y5, I y0 y1 y2 y3 y4 y5 → μ y0 y1 y2 y3 y4 y5 < μ a0 a1 a2 a3 a4 a5 → Tot (fun σ => again σ (y0, y1, y2, y3, y4, y5, ())) (Q y0 y1 y2 y3 y4 y5)) →
      Tot (fun σ => B_Z15_L5b (σ 0) (F_Z7 (σ 0)) (F_Z13 (σ 0)) (F_Z8 (σ 0)) (F_Z10 (σ 0)) (F_Z9 (σ 0)) (F_Z3 (σ 0)) (F_Z33 (σ 0)) (F_Z6 (σ 0)) (F_Z11 (σ 0)) (F_Z15 (σ 0)) (again σ) a0 a1 a2 a3 a4 a5) (Q a0 a1 a2 a3 a4 a5)) :
    ∀ a0 a1 a2 a3 a4 a5, I a0 a1 a2 a3 a4 a5 → Tot (fun σ => B_Z15_L5 (σ 0) (F_Z7 (σ 0)) (F_Z13 (σ 0)) (F_Z8 (σ 0)) (F_Z10 (σ 0)) (F_Z9 (σ 0)) (F_Z3 (σ 0)) (F_Z33 (σ 0)) (F_Z6 (σ 0)) (F_Z11 (σ 0)) (F_Z15 (σ 0)) (σ 0) (a0, a1, a2, a3, a4, a5, ())) (Q a0 a1 a2 a3 a4 a5) := fun a0 a1 a2 a3 a4 a5 => Tot.loop0 (L := fun k => B_Z15_L5 k (F_Z7 k) (F_Z13 k) (F_Z8 k) (F_Z10 k) (F_Z9 k) (F_Z3 k) (F_Z33 k) (F_Z6 k) (F_Z11 k) (F_Z15 k)) (B := fun k g => u_Z15_L5 (B_Z15_L5b k (F_Z7 k) (F_Z13 k) (F_Z8 k) (F_Z10 k) (F_Z9 k) (F_Z3 k) (F_Z33 k) (F_Z6 k) (F_Z11 k) (F_Z15 k) g)) (Q := u_Z15_L5 Q) (fun _ _ _ => rfl) (u_Z15_L5 I) (u_Z15_L5 μ)
    (fun t ht again hag h => step t.1 t.2.1 t.2.2.1 t.2.2.2.1 t.2.2.2.2.1 t.2.2.2.2.2.1 ht again hag fun y0 y1 y2 y3 y4 y5 => h (y0, y1, y2, y3, y4, y5, ())) (a0, a1, a2, a3, a4, a5, ())
abbrev R_Z21 : Type := Option ((Unit) × (List Int × Unit))
abbrev C_Z21 : Type := List Int → R_Z21
def B_Z21 (k : Nat) (c_bits_Len : C_bits_Len) (c_Z15 : C_Z15) (x : List Int) : R_Z21 :=
  (c_bits_Len (IntKind.wrap .u64 (len x))).bind fun r9 =>
  (c_Z15 x 0 (len x) r9.1.1).bind fun r10 =>
  some ((), (r10.2.1, ()))
def F_Z21 : Nat → C_Z21
  | 0, _ => none
  | k + 1, x => B_Z21 k (F_bits_Len k) (F_Z15 k) x
theorem tot_Z21 {x : _} {Q : _ → Prop} (h : Tot (fun σ => B_Z21 (σ 0) (F_bits_Len (σ 0)) (F_Z15 (σ 0)) x) Q) : Tot (fun σ => F_Z21 (σ 0) x) Q :=
  Tot.call (F := fun k => F_Z21 k x) (B := fun k => B_Z21 k (F_bits_Len k) (F_Z15 k) x) (fun k => rfl) h
abbrev R_Z50 : Type := Option ((List Int × Unit) × (Unit))
abbrev C_Z50 : Type := (List (Int × Int × List Int)) → Int → R_Z50
abbrev T_Z50_L1 : Type := ((List (Int × Int × List Int)) × Int × Unit) × List Int × List Int × Int × Int × Unit
def B_Z50_J0 (k : Nat) (c_Z35 : C_Z35) (c_Z58 : C_Z58) (c_Z18 : C_Z18) (c_Z21 : C_Z21) (again1 : T_Z50_L1 → R_Z50) (g_Nodes : List (Int × Int × List Int)) (g_Root : Int) (out t11 : List Int) (t12 t13 : Int) : R_Z50 :=
  again1 ((g_Nodes, g_Root, ()), out, t11, t12, w64 (t13 + 1), ())
def B_Z50_L1b (k : Nat) (c_Z35 : C_Z35) (c_Z58 : C_Z58) (c_Z18 : C_Z18) (c_Z21 : C_Z21) (again1 : T_Z50_L1 → R_Z50) (g_Nodes : List (Int × Int × List Int)) (g_Root : Int) (out t11 : List Int) (t12 t13 : Int) : R_Z50 :=
  bif decide (t13 < t12) then
    chk (inb t13 t11.length) <|
    chk (decide (t13.toNat < t11.length)) <|
    (c_Z18 g_Nodes (t11.getD t13.toNat (0 : Int))).bind fun r20 =>
    bif r20.1.1 then
      chk (room out.length ([(t11.getD t13.toNat (0 : Int))]).length) <|
      jn (fun t => B_Z50_J0 k c_Z35 c_Z58 c_Z18 c_Z21 again1 t.1.1 t.1.2.1 t.2.1 t.2.2.1 t.2.2.2.1 t.2.2.2.2.1) ((g_Nodes, g_Root, ()), (out ++ [(t11.getD t13.toNat (0 : Int))]), t11, t12, t13, ())
    else
      jn (fun t => B_Z50_J0 k c_Z35 c_Z58 c_Z18 c_Z21 again1 t.1.1 t.1.2.1 t.2.1 t.2.2.1 t.2.2.2.1 t.2.2.2.2.1) ((g_Nodes, g_Root, ()), out, t11, t12, t13, ())
  else
    (c_Z21 out).bind fun r27 =>
    some ((r27.2.1, ()), ())
def B_Z50_L1 (k : Nat) (c_Z35 : C_Z35) (c_Z58 : C_Z58) (c_Z18 : C_Z18) (c_Z21 : C_Z21) (n : Nat) (t : T_Z50_L1) : R_Z50 :=
  lfix n (fun again t => B_Z50_L1b k c_Z35 c_Z58 c_Z18 c_Z21 again t.1.1 t.1.2.1 t.2.1 t.2.2.1 t.2.2.2.1 t.2.2.2.2.1) t
def B_Z50 (k : Nat) (c_Z35 : C_Z35) (c_Z58 : C_Z58) (c_Z18 : C_Z18) (c_Z21 : C_Z21) (g_0 : List (Int × Int × List Int)) (g_1 : Int) : R_Z50 :=
  (c_Z35 g_0 g_1).bind fun r7 =>
  bif (!r7.1.1) then
    some (([], ()), ())
  else
    (c_Z58 g_0 g_1).bind fun r11 =>
    B_Z50_L1 k c_Z35 c_Z58 c_Z18 c_Z21 k ((g_0, g_1, ()), [], r11.1.1, len r11.1.1, 0, ())
def F_Z50 : Nat → C_Z50
  | 0, _, _ => none
  | k + 1, g_0, g_1 => B_Z50 k (F_Z35 k) (F_Z58 k) (F_Z18 k) (F_Z21 k) g_0 g_1
theorem tot_Z50 {g_0 g_1 : _} {Q : _ → Prop} (h : Tot (fun σ => B_Z50 (σ 0) (F_Z35 (σ 0)) (F_Z58 (σ 0)) (F_Z18 (σ 0)) (F_Z21 (σ 0)) g_0 g_1) Q) : Tot (fun σ => F_Z50 (σ 0) g_0 g_1) Q :=
  Tot.call (F := fun k => F_Z50 k g_0 g_1) (B := fun k => B_Z50 k (F_Z35 k) (F_Z58 k) (F_Z18 k) (F_Z21 k) g_0 g_1) (fun k => rfl) h
abbrev A_Z50_L1 (Z : Type) : Type := (List (Int × Int × List Int)) → Int → List Int → List Int → Int → Int → Z
abbrev u_Z50_L1 {Z : Type} (f : A_Z50_L1 Z) (t : T_Z50_L1) : Z := f t.1.1 t.1.2.1 t.2.1 t.2.2.1 t.2.2.2.1 t.2.2.2.2.1
theorem loop_Z50_L1 {Q : A_Z50_L1 (((List Int × Unit) × (Unit)) → Prop)} (I : A_Z50_L1 Prop) (μ : A_Z50_L1 Nat)
    (step : ∀ a0 a1 a2 a3 a4 a5, I a0 a1 a2 a3 a4 a5 → ∀ again : (Nat → Nat) → T_Z50_L1 → R_Z50, Dep 2 again → (∀ y0 y1 y2 y3 y4 y5, I y0 y1 y2 y3 y4 y5 → μ y0 y1 y2 y3 y4 y5 < μ a0 a1 a2 a3 a4 a5 → Tot (fun σ => again σ ((y0, y1, ()), y2, y3, y4, y5, ())) (Q y0 y1 y2 y3 y4 y5)) →
      Tot (fun σ => B_Z50_L1b (σ 0) (F_Z35 (σ 0)) (F_Z58 (σ 0)) (F_Z18 (σ 0)) (F_Z21 (σ 0)) (again σ) a0 a1 a2 a3 a4 a5) (Q a0 a1 a2 a3 a4 a5)) :
    ∀ a0 a1 a2 a3 a4 a5, I a0 a1 a2 a3 a4 a5 → Tot (fun σ => B_Z50_L1 (σ 0) (F_Z35 (σ 0)) (F_Z58 (σ 0)) (F_Z18 (σ 0)) (F_Z21 (σ 0)) (σ 0) ((a0, a1, ()), a2, a3, a4, a5, ())) (Q a0 a1 a2 a3 a4 a5) := fun a0 a1 a2 a3 a4 a5 => Tot.loop0 (L := fun k => B_Z50_L1 k (F_Z35 k) (F_Z58 k) (F_Z18 k) (F_Z21 k)) (B := fun k g => u_Z50_L1 (B_Z50_L1b k (F_Z35 k) (F_Z58 k) (F_Z18 k) (F_Z21 k) g)) (Q := u_Z50_L1 Q) (fun _ _ _ => rfl) (u_Z50_L1 I) (u_Z50_L1 μ)
    (fun t ht again hag h => step t.1.1 t.1.2.1 t.2.1 t.2.2.1 t.2.2.2.1 t.2.2.2.2.1 ht again hag fun y0 y1 y2 y3 y4 y5 => h ((y0, y1, ()), y2, y3, y4, y5, ())) ((a0, a1, ()), a2, a3, a4, a5, ())
abbrev R_Z32 : Type := Option ((Int × Unit) × (((List (Int × Int × List Int)) × Int × Unit) × (Unit × Unit) × Unit))
abbrev C_Z32 : Type := Int → (List (Int × Int × List Int)) → Int → R_Z32
abbrev T_Z32_L0 : Type := ((List (Int × Int × List Int)) × Int × Unit) × (Unit × Unit) × Int × List Int × Int × Int × Unit
def B_Z32_L0b (k : Nat) (c_Z32 : C_Z32) (again0 : T_Z32_L0 → R_Z32) (t1_Nodes : List (Int × Int × List Int)) (t1_Root n5 : Int) (t13 : List Int) (t14 t15 : Int) : R_Z32 :=
  bif decide (t15 < t14) then
    chk (inb t15 t13.length) <|
    (c_Z32 (rdx (0 : Int) t13 t15) t1_Nodes t1_Root).bind fun r22 =>
    bif ((if w64 (n5 + r22.1.1) < 5000 then w64 (n5 + r22.1.1) else 5000) == 5000) then
      some (((if w64 (n5 + r22.1.1) < 5000 then w64 (n5 + r22.1.1) else 5000), ()), ((r22.2.1.1, r22.2.1.2.1, ()), ((), ()), ()))
    else
      again0 ((r22.2.1.1, r22.2.1.2.1, ()), ((), ()), (if w64 (n5 + r22.1.1) < 5000 then w64 (n5 + r22.1.1) else 5000), t13, t14, w64 (t15 + 1), ())
  else
    some ((n5, ()), ((t1_Nodes, t1_Root, ()), ((), ()), ()))
def B_Z32_L0 (k : Nat) (c_Z32 : C_Z32) (n : Nat) (t : T_Z32_L0) : R_Z32 :=
  lfix n (fun again t => B_Z32_L0b k c_Z32 again t.1.1 t.1.2.1 t.2.2.1 t.2.2.2.1 t.2.2.2.2.1 t.2.2.2.2.2.1) t
def B_Z32 (k : Nat) (c_Z32 : C_Z32) (i : Int) (t1_Nodes : List (Int × Int × List Int)) (t1_Root : Int) : R_Z32 :=
  chk (inb i t1_Nodes.length) <|
  B_Z32_L0 k c_Z32 k ((t1_Nodes, t1_Root, ()), ((), ()), 1, ((rdx ((0 : Int), ((0 : Int), ([] : List Int))) t1_Nodes i).2).2, len (((rdx ((0 : Int), ((0 : Int), ([] : List Int))) t1_Nodes i).2).2), 0, ())
def F_Z32 : Nat → C_Z32
  | 0, _, _, _ => none
  | k + 1, i, t1_Nodes, t1_Root => B_Z32 k (F_Z32 k) i t1_Nodes t1_Root
theorem F_Z32_succ (k : Nat) (i : Int) (t1_Nodes : List (Int × Int × List Int)) (t1_Root : Int) : F_Z32 (k + 1) i t1_Nodes t1_Root = B_Z32 k (F_Z32 k) i t1_Nodes t1_Root := by rw [F_Z32]
theorem tot_Z32 {i t1_Nodes t1_Root : _} {Q : _ → Prop} (h : Tot (fun σ => B_Z32 (σ 0) (F_Z32 (σ 0)) i t1_Nodes t1_Root) Q) : Tot (fun σ => F_Z32 (σ 0) i t1_Nodes t1_Root) Q :=
  Tot.call (F := fun k => F_Z32 k i t1_Nodes t1_Root) (B := fun k => B_Z32 k (F_Z32 k) i t1_Nodes t1_Root) (fun k => F_Z32_succ k i t1_Nodes t1_Root) h
abbrev A_Z32_L0 (Z : Type) : Type := (List (Int × Int × List Int)) → Int → Int → List Int → Int → Int → Z
abbrev u_Z32_L0 {Z : Type} (f : A_Z32_L0 Z) (t : T_Z32_L0) : Z := f t.1.1 t.1.2.1 t.2.2.1 t.2.2.2.1 t.2.2.2.2.1 t.2.2.2.2.2.1
theorem loop_Z32_L0 {Q : A_Z32_L0 (((Int × Unit) × (((List (Int × Int × List Int)) × Int × Unit) × (Unit × Unit) × Unit)) → Prop)} (I : A_Z32_L0 Prop) (μ : A_Z32_L0 Nat)
    (step : ∀ a0 a1 a2 a3 a4 a5, I a0 a1 a2 a3 a4 a5 → ∀ again : (Nat → Nat) → T_Z32_L0 → R_Z32, Dep 2 again → (∀ y0 y1 y2 y3 y4 y5, I y0 y1 y2 y3 y4 y5 → μ y0 y1 y2 y3 y4 y5 < μ a0 a1 a2 a3 a4 a5 → Tot (fun σ => again σ ((y0, y1, ()), ((), ()), y2, y3, y4, y5, ())) (Q y0 y1 y2 y3 y4 y5)) →
      Tot (fun σ => B_Z32_L0b (σ 0) (F_Z32 (σ 0)) (again σ) a0 a1 a2 a3 a4 a5) (Q a0 a1 a2 a3 a4 a5)) :
    ∀ a0 a1 a2 a3 a4 a5, I a0 a1 a2 a3 a4 a5 → Tot (fun σ => B_Z32_L0 (σ 0) (F_Z32 (σ 0)) (σ 0) ((a0, a1, ()), ((), ()), a2, a3, a4, a5, ())) (Q a0 a1 a2 a3 a4 a5) := fun a0 a1 a2 a3 a4 a5 => Tot.loop0 (L := fun k => B_Z32_L0 k (F_Z32 k)) (B := fun k g => u_Z32_L0 (B_Z32_L0b k (F_Z32 k) g)) (Q := u_Z32_L0 Q) (fun _ _ _ => rfl) (u_Z32_L0 I) (u_Z32_L0 μ)
    (fun t ht again hag h => step t.1.1 t.1.2.1 t.2.2.1 t.2.2.2.1 t.2.2.2.2.1 t.2.2.2.2.2.1 ht again hag fun y0 y1 y2 y3 y4 y5 => h ((y0, y1, ()), ((), ()), y2, y3, y4, y5, ())) ((a0, a1, ()), ((), ()), a2, a3, a4, a5, ())
abbrev R_Z49 : Type := Option ((Int × Unit) × (Unit))
abbrev C_Z49 : Type := (List (Int × Int × List Int)) → Int → R_Z49
def B_Z49 (k : Nat) (c_Z35 : C_Z35) (c_Z50 : C_Z50) (c_Z32 : C_Z32) (g_0 : List (Int × Int × List Int)) (g_1 : Int) : R_Z49 :=
  (c_Z35 g_0 g_1).bind fun r5 =>
  bif (!r5.1.1) then
    some (((-1), ()), ())
  else
    (c_Z50 g_0 g_1).bind fun r8 =>
    bif decide ((len r8.1.1) > 0) then
      some ((5000, ()), ())
    else
      (c_Z32 g_1 g_0 g_1).bind fun r15 =>
      some ((r15.1.1, ()), ())
def F_Z49 : Nat → C_Z49
  | 0, _, _ => none
  | k + 1, g_0, g_1 => B_Z49 k (F_Z35 k) (F_Z50 k) (F_Z32 k) g_0 g_1
theorem tot_Z49 {g_0 g_1 : _} {Q : _ → Prop} (h : Tot (fun σ => B_Z49 (σ 0) (F_Z35 (σ 0)) (F_Z50 (σ 0)) (F_Z32 (σ 0)) g_0 g_1) Q) : Tot (fun σ => F_Z49 (σ 0) g_0 g_1) Q :=
  Tot.call (F := fun k => F_Z49 k g_0 g_1) (B := fun k => B_Z49 k (F_Z35 k) (F_Z50 k) (F_Z32 k) g_0 g_1) (fun k => rfl) h
abbrev R_Z23 : Type := Option ((Int × Unit) × (((List (Int × Int × Option (List Int))) × Int × Unit) × ((List (Int × Int × List Int)) × Int × Unit) × (Unit × Unit) × Unit))
abbrev C_Z23 : Type := Int → (List (Int × Int × Option (List Int))) → Int → (List (Int × Int × List Int)) → Int → R_Z23
abbrev T_Z23_L0 : Type := ((List (Int × Int × Option (List Int))) × Int × Unit) × ((List (Int × Int × List Int)) × Int × Unit) × (Unit × Unit) × Int × List Int × List Int × Int × Int × Unit
def B_Z23_L0b (k : Nat) (c_Z23 : C_Z23) (again0 : T_Z23_L0 → R_Z23) (t1_Nodes : List (Int × Int × Option (List Int))) (t1_Root : Int) (t2_Nodes : List (Int × Int × List Int)) (t2_Root at6 : Int) (kids t31 : List Int) (t32 t33 : Int) : R_Z23 :=
  bif decide (t33 < t32) then
    chk (inb t33 t31.length) <|
    (c_Z23 (rdx (0 : Int) t31 t33) t1_Nodes t1_Root t2_Nodes t2_Root).bind fun r40 =>
    chk (room kids.length ([r40.1.1]).length) <|
    again0 ((r40.2.1.1, r40.2.1.2.1, ()), (r40.2.2.1.1, r40.2.2.1.2.1, ()), ((), ()), at6, (kids ++ [r40.1.1]), t31, t32, w64 (t33 + 1), ())
  else
    chk (inb at6 t1_Nodes.length) <|
    chk (decide (at6.toNat < t1_Nodes.length)) <|
    some ((at6, ()), (((t1_Nodes.set at6.toNat ((t1_Nodes.getD at6.toNat ((0 : Int), ((0 : Int), (none : Option (List Int))))).1, (((t1_Nodes.getD at6.toNat ((0 : Int), ((0 : Int), (none : Option (List Int))))).2).1, (some kids)))), t1_Root, ()), (t2_Nodes, t2_Root, ()), ((), ()), ()))
def B_Z23_L0 (k : Nat) (c_Z23 : C_Z23) (n : Nat) (t : T_Z23_L0) : R_Z23 :=
  lfix n (fun again t => B_Z23_L0b k c_Z23 again t.1.1 t.1.2.1 t.2.1.1 t.2.1.2.1 t.2.2.2.1 t.2.2.2.2.1 t.2.2.2.2.2.1 t.2.2.2.2.2.2.1 t.2.2.2.2.2.2.2.1) t
def B_Z23 (k : Nat) (c_Z23 : C_Z23) (i : Int) (t1_Nodes : List (Int × Int × Option (List Int))) (t1_Root : Int) (t2_Nodes : List (Int × Int × List Int)) (t2_Root : Int) : R_Z23 :=
  chk (inb i t2_Nodes.length) <|
  chk (room t1_Nodes.length ([((rdx ((0 : Int), ((0 : Int), ([] : List Int))) t2_Nodes i).1, (((rdx ((0 : Int), ((0 : Int), ([] : List Int))) t2_Nodes i).2).1, (none : Option (List Int))))]).length) <|
  B_Z23_L0 k c_Z23 k (((t1_Nodes ++ [((rdx ((0 : Int), ((0 : Int), ([] : List Int))) t2_Nodes i).1, (((rdx ((0 : Int), ((0 : Int), ([] : List Int))) t2_Nodes i).2).1, (none : Option (List Int))))]), t1_Root, ()), (t2_Nodes, t2_Root, ()), ((), ()), len t1_Nodes, [], ((rdx ((0 : Int), ((0 : Int), ([] : List Int))) t2_Nodes i).2).2, len (((rdx ((0 : Int), ((0 : Int), ([] : List Int))) t2_Nodes i).2).2), 0, ())
def F_Z23 : Nat → C_Z23
  | 0, _, _, _, _, _ => none
  | k + 1, i, t1_Nodes, t1_Root, t2_Nodes, t2_Root => B_Z23 k (F_Z23 k) i t1_Nodes t1_Root t2_Nodes t2_Root
theorem F_Z23_succ (k : Nat) (i : Int) (t1_Nodes : List (Int × Int × Option (List Int))) (t1_Root : Int) (t2_Nodes : List (Int × Int × List Int)) (t2_Root : Int) : F_Z23 (k + 1) i t1_Nodes t1_Root t2_Nodes t2_Root = B_Z23 k (F_Z23 k) i t1_Nodes t1_Root t2_Nodes t2_Root := by rw [F_Z23]
theorem tot_Z23 {i t1_Nodes t1_Root t2_Nodes t2_Root : _} {Q : _ → Prop} (h : Tot (fun σ => B_Z23 (σ 0) (F_Z23 (σ 0)) i t1_Nodes t1_Root t2_Nodes t2_Root) Q) : Tot (fun σ => F_Z23 (σ 0) i t1_Nodes t1_Root t2_Nodes t2_Root) Q :=
  Tot.call (F := fun k => F_Z23 k i t1_Nodes t1_Root t2_Nodes t2_Root) (B := fun k => B_Z23 k (F_Z23 k) i t1_Nodes t1_Root t2_Nodes t2_Root) (fun k => F_Z23_succ k i t1_Nodes t1_Root t2_Nodes t2_Root) h
abbrev A_Z23_L0 (Z : Type) : Type := (List (Int × Int × Option (List Int))) → Int → (List (Int × Int × List Int)) → Int → Int → List Int → List Int → Int → Int → Z
abbrev u_Z23_L0 {Z : Type} (f : A_Z23_L0 Z) (t : T_Z23_L0) : Z := f t.1.1 t.1.2.1 t.2.1.1 t.2.1.2.1 t.2.2.2.1 t.2.2.2.2.1 t.2.2.2.2.2.1 t.2.2.2.2.2.2.1 t.2.2.2.2.2.2.2.1
theorem loop_Z23_L0 {Q : A_Z23_L0 (((Int × Unit) × (((List (Int × Int × Option (List Int))) × Int × Unit) × ((List (Int × Int × List Int)) × Int × Unit) × (Unit × Unit) × Unit)) → Prop)} (I : A_Z23_L0 Prop) (μ : A_Z23_L0 Nat)
    (step : ∀ a0 a1 a2 a3 a4 a5 a6 a7 a8, I a0 a1 a2 a3 a4 a5 a6 a7 a8 → ∀ again : (Nat → Nat) → T_Z23_L0 → R_Z23, Dep 2 again → (∀ y0 y1 y2 y3 y4 y5 y6 y7 y8, I y0 y1 y2 y3 y4 y5 y6 y7 y8 → μ y0 y1 y2 y3 y4 y5 y6 y7 y8 < μ a0 a1 a2 a3 a4 a5 a6 a7 a8 → Tot (fun σ => again σ ((y0, y1, ()), (y2, y3, ()), ((), ()), y4, y5, y6, y7, y8, ())) (Q y0 y1 y2 y3 y4 y5 y6 y7 y8)) →
      Tot (fun σ => B_Z23_L0b (σ 0) (F_Z23 (σ 0)) (again σ) a0 a1 a2 a3 a4 a5 a6 a7 a8) (Q a0 a1 a2 a3 a4 a5 a6 a7 a8)) :
    ∀ a0 a1 a2 a3 a4 a5 a6 a7 a8, I a0 a1 a2 a3 a4 a5 a6 a7 a8 → Tot (fun σ => B_Z23_L0 (σ 0) (F_Z23 (σ 0)) (σ 0) ((a0, a1, ()), (a2, a3, ()), ((), ()), a4, a5, a6, a7, a8, ())) (Q a0 a1 a2 a3 a4 a5 a6 a7 a8) := fun a0 a1 a2 a3 a4 a5 a6 a7 a8 => Tot.loop0 (L := fun k => B_Z23_L0 k (F_Z23 k)) (B := fun k g => u_Z23_L0 (B_Z23_L0b k (F_Z23 k) g)) (Q := u_Z23_L0 Q) (fun _ _ _ => rfl) (u_Z23_L0 I) (u_Z23_L0 μ)
    (fun t ht again hag h => step t.1.1 t.1.2.1 t.2.1.1 t.2.1.2.1 t.2.2.2.1 t.2.2.2.2.1 t.2.2.2.2.2.1 t.2.2.2.2.2.2.1 t.2.2.2.2.2.2.2.1 ht again hag fun y0 y1 y2 y3 y4 y5 y6 y7 y8 => h ((y0, y1, ()), (y2, y3, ()), ((), ()), y4, y5, y6, y7, y8, ())) ((a0, a1, ()), (a2, a3, ()), ((), ()), a4, a5, a6, a7, a8, ())
abbrev R_Z27 : Type := Option ((((List (Int × Int × Option (List Int))) × Int × Unit) × Bool × Unit) × (Unit))
abbrev C_Z27 : Type := (List (Int × Int × List Int)) → Int → R_Z27
def B_Z27_J0 (k : Nat) (c_Z35 : C_Z35) (c_Z50 : C_Z50) (c_Z49 : C_Z49) (c_Z23 : C_Z23) (g_Nodes : List (Int × Int × List Int)) (g_Root t2_Root : Int) (t19 : Bool) : R_Z27 :=
  bif t19 then
    some ((([], 0, ()), false, ()), ())
  else
    (c_Z23 g_Root ([]) 0 g_Nodes g_Root).bind fun r26 =>
    some (((r26.2.1.1, r26.2.1.2.1, ()), true, ()), ())
def B_Z27 (k : Nat) (c_Z35 : C_Z35) (c_Z50 : C_Z50) (c_Z49 : C_Z49) (c_Z23 : C_Z23) (g_0 : List (Int × Int × List Int)) (g_1 : Int) : R_Z27 :=
  (c_Z35 g_0 g_1).bind fun r7 =>
  bif (!r7.1.1) then
    jn (fun t => B_Z27_J0 k c_Z35 c_Z50 c_Z49 c_Z23 t.1.1 t.1.2.1 t.2.1.2.1 t.2.2.1) ((g_0, g_1, ()), ((), 0, ()), true, ())
  else
    (c_Z50 g_0 g_1).bind fun r11 =>
    bif decide ((len r11.1.1) > 0) then
      jn (fun t => B_Z27_J0 k c_Z35 c_Z50 c_Z49 c_Z23 t.1.1 t.1.2.1 t.2.1.2.1 t.2.2.1) ((g_0, g_1, ()), ((), 0, ()), true, ())
    else
      (c_Z49 g_0 g_1).bind fun r17 =>
      jn (fun t => B_Z27_J0 k c_Z35 c_Z50 c_Z49 c_Z23 t.1.1 t.1.2.1 t.2.1.2.1 t.2.2.1) ((g_0, g_1, ()), ((), 0, ()), decide (r17.1.1 > 12), ())
def F_Z27 : Nat → C_Z27
  | 0, _, _ => none
  | k + 1, g_0, g_1 => B_Z27 k (F_Z35 k) (F_Z50 k) (F_Z49 k) (F_Z23 k) g_0 g_1
theorem tot_Z27 {g_0 g_1 : _} {Q : _ → Prop} (h : Tot (fun σ => B_Z27 (σ 0) (F_Z35 (σ 0)) (F_Z50 (σ 0)) (F_Z49 (σ 0)) (F_Z23 (σ 0)) g_0 g_1) Q) : Tot (fun σ => F_Z27 (σ 0) g_0 g_1) Q :=
  Tot.call (F := fun k => F_Z27 k g_0 g_1) (B := fun k => B_Z27 k (F_Z35 k) (F_Z50 k) (F_Z49 k) (F_Z23 k) g_0 g_1) (fun k => rfl) h
abbrev R_s_reach : Type := Option ((List Int × Unit) × (Unit))
abbrev C_s_reach : Type := (List (Int × Int × List Int)) → Int → Int → List Int → R_s_reach
abbrev T_s_reach_L0 : Type := Int × List Int × ((List (Int × Int × List Int)) × Int × Unit) × Int × Unit
def B_s_reach_L0b (k : Nat) (c_Z59 : C_Z59) (c_Z52 : C_Z52) (c_s_reach : C_s_reach) (again0 : T_s_reach_L0 → R_s_reach) (at1 : Int) (met : List Int) (g_Nodes : List (Int × Int × List Int)) (g_Root i : Int) : R_s_reach :=
  chk (inb at1 g_Nodes.length) <|
  bif decide (i < (len (((rdx ((0 : Int), ((0 : Int), ([] : List Int))) g_Nodes at1).2).2))) then
    chk (inb at1 g_Nodes.length) <|
    chk (inb i (((rdx ((0 : Int), ((0 : Int), ([] : List Int))) g_Nodes at1).2).2).length) <|
    (c_s_reach g_Nodes g_Root (rdx (0 : Int) (((rdx ((0 : Int), ((0 : Int), ([] : List Int))) g_Nodes at1).2).2) i) met).bind fun r40 =>
    again0 (at1, r40.1.1, (g_Nodes, g_Root, ()), w64 (i + 1), ())
  else
    some ((met, ()), ())
def B_s_reach_L0 (k : Nat) (c_Z59 : C_Z59) (c_Z52 : C_Z52) (c_s_reach : C_s_reach) (n : Nat) (t : T_s_reach_L0) : R_s_reach :=
  lfix n (fun again t => B_s_reach_L0b k c_Z59 c_Z52 c_s_reach again t.1 t.2.1 t.2.2.1.1 t.2.2.1.2.1 t.2.2.2.1) t
def B_s_reach (k : Nat) (c_Z59 : C_Z59) (c_Z52 : C_Z52) (c_s_reach : C_s_reach) (g_0 : List (Int × Int × List Int)) (g_1 at1 : Int) (met : List Int) : R_s_reach :=
  (c_Z59 met at1).bind fun r10 =>
  bif decide (r10.1.1 ≥ 0) then
    some ((met, ()), ())
  else
    (c_Z52 met).bind fun r14 =>
    chk (room r14.1.1.length ([at1]).length) <|
    B_s_reach_L0 k c_Z59 c_Z52 c_s_reach k (at1, (r14.1.1 ++ [at1]), (g_0, g_1, ()), 0, ())
def F_s_reach : Nat → C_s_reach
  | 0, _, _, _, _ => none
  | k + 1, g_0, g_1, at1, met => B_s_reach k (F_Z59 k) (F_Z52 k) (F_s_reach k) g_0 g_1 at1 met
theorem F_s_reach_succ (k : Nat) (g_0 : List (Int × Int × List Int)) (g_1 : Int) (at1 : Int) (met : List Int) : F_s_reach (k + 1) g_0 g_1 at1 met = B_s_reach k (F_Z59 k) (F_Z52 k) (F_s_reach k) g_0 g_1 at1 met := by rw [F_s_reach]
theorem tot_s_reach {g_0 g_1 at1 met : _} {Q : _ → Prop} (h : Tot (fun σ => B_s_reach (σ 0) (F_Z59 (σ 0)) (F_Z52 (σ 0)) (F_s_reach (σ 0)) g_0 g_1 at1 met) Q) : Tot (fun σ => F_s_reach (σ 0) g_0 g_1 at1 met) Q :=
  Tot.call (F := fun k => F_s_reach k g_0 g_1 at1 met) (B := fun k => B_s_reach k (F_Z59 k) (F_Z52 k) (F_s_reach k) g_0 g_1 at1 met) (fun k => F_s_reach_succ k g_0 g_1 at1 met) h
abbrev A_s_reach_L0 (Z : Type) : Type := Int → List Int → (List (Int × Int × List Int)) → Int → Int → Z
abbrev u_s_reach_L0 {Z : Type} (f : A_s_reach_L0 Z) (t : T_s_reach_L0) : Z := f t.1 t.2.1 t.2.2.1.1 t.2.2.1.2.1 t.2.2.2.1
theorem loop_s_reach_L0 {Q : A_s_reach_L0 (((List Int × Unit) × (Unit)) → Prop)} (I : A_s_reach_L0 Prop) (μ : A_s_reach_L0 Nat)
    (step : ∀ a0 a1 a2 a3 a4, I a0 a1 a2 a3 a4 → ∀ again : (Nat → Nat) → T_s_reach_L0 → R_s_reach, Dep 2 again → (∀ y0 y1 y2 y3 y4, I y0 y1 y2 y3 y4 → μ y0 y1 y2 y3 y4 < μ a0 a1 a2 a3 a4 → Tot (fun σ => again σ (y0, y1, (y2, y3, ()), y4, ())) (Q y0 y1 y2 y3 y4)) →
      Tot (fun σ => B_s_reach_L0b (σ 0) (F_Z59 (σ 0)) (F_Z52 (σ 0)) (F_s_reach (σ 0)) (again σ) a0 a1 a2 a3 a4) (Q a0 a1 a2 a3 a4)) :
    ∀ a0 a1 a2 a3 a4, I a0 a1 a2 a3 a4 → Tot (fun σ => B_s_reach_L0 (σ 0) (F_Z59 (σ 0)) (F_Z52 (σ 0)) (F_s_reach (σ 0)) (σ 0) (a0, a1, (a2, a3, ()), a4, ())) (Q a0 a1 a2 a3 a4) := fun a0 a1 a2 a3 a4 => Tot.loop0 (L := fun k => B_s_reach_L0 k (F_Z59 k) (F_Z52 k) (F_s_reach k)) (B := fun k g => u_s_reach_L0 (B_s_reach_L0b k (F_Z59 k) (F_Z52 k) (F_s_reach k) g)) (Q := u_s_reach_L0 Q) (fun _ _ _ => rfl) (u_s_reach_L0 I) (u_s_reach_L0 μ)
    (fun t ht again hag h => step t.1 t.2.1 t.2.2.1.1 t.2.2.1.2.1 t.2.2.2.1 ht again hag fun y0 y1 y2 y3 y4 => h (y0, y1, (y2, y3, ()), y4, ())) (a0, a1, (a2, a3, ()), a4, ())
abbrev R_Z62 : Type := Option ((Bool × Unit) × (Unit))
abbrev C_Z62 : Type := (List (Int × Int × List Int)) → Int → Int → R_Z62
abbrev T_Z62_L0 : Type := Int × ((List (Int × Int × List Int)) × Int × Unit) × List Int × Int × Unit
def B_Z62_L0b (k : Nat) (c_s_reach : C_s_reach) (c_Z59 : C_Z59) (again0 : T_Z62_L0 → R_Z62) (at1 : Int) (g_Nodes : List (Int × Int × List Int)) (g_Root : Int) (met : List Int) (i : Int) : R_Z62 :=
  chk (inb at1 g_Nodes.length) <|
  bif decide (i < (len (((rdx ((0 : Int), ((0 : Int), ([] : List Int))) g_Nodes at1).2).2))) then
    chk (inb at1 g_Nodes.length) <|
    chk (inb i (((rdx ((0 : Int), ((0 : Int), ([] : List Int))) g_Nodes at1).2).2).length) <|
    (c_s_reach g_Nodes g_Root (rdx (0 : Int) (((rdx ((0 : Int), ((0 : Int), ([] : List Int))) g_Nodes at1).2).2) i) met).bind fun r30 =>
    again0 (at1, (g_Nodes, g_Root, ()), r30.1.1, w64 (i + 1), ())
  else
    (c_Z59 met at1).bind fun r33 =>
    some ((decide (r33.1.1 ≥ 0), ()), ())
def B_Z62_L0 (k : Nat) (c_s_reach : C_s_reach) (c_Z59 : C_Z59) (n : Nat) (t : T_Z62_L0) : R_Z62 :=
  lfix n (fun again t => B_Z62_L0b k c_s_reach c_Z59 again t.1 t.2.1.1 t.2.1.2.1 t.2.2.1 t.2.2.2.1) t
def B_Z62 (k : Nat) (c_s_reach : C_s_reach) (c_Z59 : C_Z59) (g_0 : List (Int × Int × List Int)) (g_1 at1 : Int) : R_Z62 :=
  B_Z62_L0 k c_s_reach c_Z59 k (at1, (g_0, g_1, ()), [], 0, ())
def F_Z62 : Nat → C_Z62
  | 0, _, _, _ => none
  | k + 1, g_0, g_1, at1 => B_Z62 k (F_s_reach k) (F_Z59 k) g_0 g_1 at1
theorem tot_Z62 {g_0 g_1 at1 : _} {Q : _ → Prop} (h : Tot (fun σ => B_Z62 (σ 0) (F_s_reach (σ 0)) (F_Z59 (σ 0)) g_0 g_1 at1) Q) : Tot (fun σ => F_Z62 (σ 0) g_0 g_1 at1) Q :=
  Tot.call (F := fun k => F_Z62 k g_0 g_1 at1) (B := fun k => B_Z62 k (F_s_reach k) (F_Z59 k) g_0 g_1 at1) (fun k => rfl) h
end Go.Gx

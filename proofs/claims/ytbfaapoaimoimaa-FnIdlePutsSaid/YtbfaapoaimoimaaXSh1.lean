/-
  The functions, as Gx tells them (printed by gen.py).
-/
import Derived.Test.YtbfaapoaimoimaaXGpart4
set_option linter.unusedVariables false
namespace Go.Gx
abbrev R_Z35 : Type := Option (((List Int × Int × Unit) × Unit) × (Unit))
abbrev C_Z35 : Type := List Int → R_Z35
def B_Z35_J0 (k : Nat) (code : List Int) : R_Z35 :=
  some (((code, 0, ()), ()), ())
def B_Z35 (k : Nat) (code : List Int) : R_Z35 :=
  bif decide ((len code) > 2000) then
    chk (cutb 0 2000 code.length) <|
    jn (fun t => B_Z35_J0 k t.1) ((sub code 0 2000), ())
  else
    jn (fun t => B_Z35_J0 k t.1) (code, ())
def F_Z35 : Nat → C_Z35
  | 0, _ => none
  | k + 1, code => B_Z35 k code
theorem tot_Z35 {code : _} {Q : _ → Prop} (h : Tot (fun σ => B_Z35 (σ 0) code) Q) : Tot (fun σ => F_Z35 (σ 0) code) Q :=
  Tot.call (F := fun k => F_Z35 k code) (B := fun k => B_Z35 k code) (fun k => rfl) h
abbrev R_Z13 : Type := Option ((Int × Unit) × ((List Int × Int × Unit) × Unit))
abbrev C_Z13 : Type := List Int → Int → Int → R_Z13
def B_Z13_J0 (k : Nat) (r_b : List Int) (r_p n1 : Int) (t24 : Bool) : R_Z13 :=
  bif t24 then
    some ((0, ()), ((r_b, r_p, ()), ()))
  else
    bif decide ((w64 (r_p - 1)) < (len r_b)) then
      chk (inb (w64 (r_p - 1)) r_b.length) <|
      chk ((n1 != 0)) <|
      some ((((w64 ((rdx (0 : Int) r_b (w64 (r_p - 1))))).tmod n1), ()), ((r_b, r_p, ()), ()))
    else
      chk (((len r_b) != 0)) <|
      chk (inb ((w64 (r_p - 1)).tmod (len r_b)) r_b.length) <|
      chk (((len r_b) != 0)) <|
      chk (inb ((w64 ((w64 ((w64 (r_p - 1)) * 7)) + 3)).tmod (len r_b)) r_b.length) <|
      let v78 : Int := w64 ((w64 ((rdx (0 : Int) r_b ((w64 ((w64 ((w64 (r_p - 1)) * 7)) + 3)).tmod (len r_b))))) * 1117)
      let v82 : Int := w64 ((w64 ((w64 ((w64 ((rdx (0 : Int) r_b ((w64 (r_p - 1)).tmod (len r_b))))) * 131)) + v78)) + (w64 ((w64 (r_p - 1)) * 29)))
      chk (((len r_b) != 0)) <|
      let v95 : Int := xor64 (w64 (v82 + (w64 ((w64 ((w64 (r_p - 1)).tdiv (len r_b))) * 53)))) (w64 ((w64 (v82 + (w64 ((w64 ((w64 (r_p - 1)).tdiv (len r_b))) * 53)))).tdiv 64))
      chk ((n1 != 0)) <|
      some (((v95.tmod n1), ()), ((r_b, r_p, ()), ()))
def B_Z13 (k : Nat) (r_b : List Int) (r_p n1 : Int) : R_Z13 :=
  bif decide (n1 < 1) then
    jn (fun t => B_Z13_J0 k t.1.1 t.1.2.1 t.2.1 t.2.2.1) ((r_b, w64 (r_p + 1), ()), n1, true, ())
  else
    jn (fun t => B_Z13_J0 k t.1.1 t.1.2.1 t.2.1 t.2.2.1) ((r_b, w64 (r_p + 1), ()), n1, ((len r_b) == 0), ())
def F_Z13 : Nat → C_Z13
  | 0, _, _, _ => none
  | k + 1, r_b, r_p, n1 => B_Z13 k r_b r_p n1
theorem tot_Z13 {r_b r_p n1 : _} {Q : _ → Prop} (h : Tot (fun σ => B_Z13 (σ 0) r_b r_p n1) Q) : Tot (fun σ => F_Z13 (σ 0) r_b r_p n1) Q :=
  Tot.call (F := fun k => F_Z13 k r_b r_p n1) (B := fun k => B_Z13 k r_b r_p n1) (fun k => rfl) h
abbrev R_Z33 : Type := Option (((List Int × List Bool × List Int × List Int × Bool × Unit) × Unit) × (Unit))
abbrev C_Z33 : Type := R_Z33
abbrev T_Z33_L0 : Type := (Unit × Unit × Unit × Unit × Bool × Unit) × (Unit × Unit × Unit × List Int × Bool × Unit) × Int × Unit
def B_Z33_L0b (k : Nat) (again0 : T_Z33_L0 → R_Z33) (t0_Done : Bool) (s_Memo : List Int) (s_Done : Bool) (i : Int) : R_Z33 :=
  bif decide (i < 20) then
    chk (room s_Memo.length ([(-1)]).length) <|
    again0 (((), (), (), (), t0_Done, ()), ((), (), (), (s_Memo ++ [(-1)]), s_Done, ()), w64 (i + 1), ())
  else
    some ((([], [], [], s_Memo, s_Done, ()), ()), ())
def B_Z33_L0 (k : Nat) (n : Nat) (t : T_Z33_L0) : R_Z33 :=
  lfix n (fun again t => B_Z33_L0b k again t.1.2.2.2.2.1 t.2.1.2.2.2.1 t.2.1.2.2.2.2.1 t.2.2.1) t
def B_Z33 (k : Nat) : R_Z33 :=
  B_Z33_L0 k k (((), (), (), (), false, ()), ((), (), (), [], false, ()), 0, ())
def F_Z33 : Nat → C_Z33
  | 0 => none
  | k + 1 => B_Z33 k
theorem tot_Z33 {Q : _ → Prop} (h : Tot (fun σ => B_Z33 (σ 0)) Q) : Tot (fun σ => F_Z33 (σ 0)) Q :=
  Tot.call (F := fun k => F_Z33 k) (B := fun k => B_Z33 k) (fun k => rfl) h
abbrev A_Z33_L0 (Z : Type) : Type := Bool → List Int → Bool → Int → Z
abbrev u_Z33_L0 {Z : Type} (f : A_Z33_L0 Z) (t : T_Z33_L0) : Z := f t.1.2.2.2.2.1 t.2.1.2.2.2.1 t.2.1.2.2.2.2.1 t.2.2.1
theorem loop_Z33_L0 {Q : A_Z33_L0 ((((List Int × List Bool × List Int × List Int × Bool × Unit) × Unit) × (Unit)) → Prop)} (I : A_Z33_L0 Prop) (μ : A_Z33_L0 Nat)
    (step : ∀ a0 a1 a2 a3, I a0 a1 a2 a3 → ∀ again : (Nat → Nat) → T_Z33_L0 → R_Z33, Dep 2 again → (∀ y0 y1 y2 y3, I y0 y1 y2 y3 → μ y0 y1 y2 y3 < μ a0 a1 a2 a3 → Tot (fun σ => again σ (((), (), (), (), y0, ()), ((), (), (), y1, y2, ()), y3, ())) (Q y0 y1 y2 y3)) →
      Tot (fun σ => B_Z33_L0b (σ 0) (again σ) a0 a1 a2 a3) (Q a0 a1 a2 a3)) :
    ∀ a0 a1 a2 a3, I a0 a1 a2 a3 → Tot (fun σ => B_Z33_L0 (σ 0) (σ 0) (((), (), (), (), a0, ()), ((), (), (), a1, a2, ()), a3, ())) (Q a0 a1 a2 a3) := fun a0 a1 a2 a3 => Tot.loop0 (L := fun k => B_Z33_L0 k) (B := fun k g => u_Z33_L0 (B_Z33_L0b k g)) (Q := u_Z33_L0 Q) (fun _ _ _ => rfl) (u_Z33_L0 I) (u_Z33_L0 μ)
    (fun t ht again hag h => step t.1.2.2.2.2.1 t.2.1.2.2.2.1 t.2.1.2.2.2.2.1 t.2.2.1 ht again hag fun y0 y1 y2 y3 => h (((), (), (), (), y0, ()), ((), (), (), y1, y2, ()), y3, ())) (((), (), (), (), a0, ()), ((), (), (), a1, a2, ()), a3, ())
abbrev R_Z17 : Type := Option ((Int × Unit) × ((List Int × Int × Unit) × Unit))
abbrev C_Z17 : Type := List Int → Int → List Int → R_Z17
def B_Z17 (k : Nat) (c_Z13 : C_Z13) (r_b : List Int) (r_p : Int) (list : List Int) : R_Z17 :=
  (c_Z13 r_b r_p (len list)).bind fun r9 =>
  chk (inb r9.1.1 list.length) <|
  some (((rdx (0 : Int) list r9.1.1), ()), ((r9.2.1.1, r9.2.1.2.1, ()), ()))
def F_Z17 : Nat → C_Z17
  | 0, _, _, _ => none
  | k + 1, r_b, r_p, list => B_Z17 k (F_Z13 k) r_b r_p list
theorem tot_Z17 {r_b r_p list : _} {Q : _ → Prop} (h : Tot (fun σ => B_Z17 (σ 0) (F_Z13 (σ 0)) r_b r_p list) Q) : Tot (fun σ => F_Z17 (σ 0) r_b r_p list) Q :=
  Tot.call (F := fun k => F_Z17 k r_b r_p list) (B := fun k => B_Z17 k (F_Z13 k) r_b r_p list) (fun k => rfl) h
abbrev R_s_someOp : Type := Option (((Int × Int × Unit) × Unit) × ((List Int × Int × Unit) × Unit))
abbrev C_s_someOp : Type := List Int → Int → R_s_someOp
def B_s_someOp_J1 (k : Nat) (c_Z13 : C_Z13) (c_Z17 : C_Z17) (r_b : List Int) (r_p t2_Code t2_Arg o_Code o_Arg : Int) : R_s_someOp :=
  some (((o_Code, o_Arg, ()), ()), ((r_b, r_p, ()), ()))
def B_s_someOp_J0 (k : Nat) (c_Z13 : C_Z13) (c_Z17 : C_Z17) (r_b : List Int) (r_p t2_Code t2_Arg o_Code o_Arg : Int) (t17 : Bool) : R_s_someOp :=
  bif t17 then
    (c_Z13 r_b r_p 4).bind fun r23 =>
    jn (fun t => B_s_someOp_J1 k c_Z13 c_Z17 t.1.1 t.1.2.1 t.2.1.1 t.2.1.2.1 t.2.2.1.1 t.2.2.1.2.1) ((r23.2.1.1, r23.2.1.2.1, ()), (t2_Code, t2_Arg, ()), (o_Code, r23.1.1, ()), ())
  else
    jn (fun t => B_s_someOp_J1 k c_Z13 c_Z17 t.1.1 t.1.2.1 t.2.1.1 t.2.1.2.1 t.2.2.1.1 t.2.2.1.2.1) ((r_b, r_p, ()), (t2_Code, t2_Arg, ()), (o_Code, o_Arg, ()), ())
def B_s_someOp (k : Nat) (c_Z13 : C_Z13) (c_Z17 : C_Z17) (r_b : List Int) (r_p : Int) : R_s_someOp :=
  (c_Z13 r_b r_p 20).bind fun r5 =>
  bif (r5.1.1 == 0) then
    (c_Z13 r5.2.1.1 r5.2.1.2.1 250).bind fun r13 =>
    (c_Z17 r13.2.1.1 r13.2.1.2.1 ([5, 127, 128, 999, r13.1.1])).bind fun r15 =>
    jn (fun t => B_s_someOp_J1 k c_Z13 c_Z17 t.1.1 t.1.2.1 t.2.1.1 t.2.1.2.1 t.2.2.1.1 t.2.2.1.2.1) ((r15.2.1.1, r15.2.1.2.1, ()), (0, 0, ()), (r5.1.1, r15.1.1, ()), ())
  else
    bif (r5.1.1 == 1) then
      jn (fun t => B_s_someOp_J0 k c_Z13 c_Z17 t.1.1 t.1.2.1 t.2.1.1 t.2.1.2.1 t.2.2.1.1 t.2.2.1.2.1 t.2.2.2.1) ((r5.2.1.1, r5.2.1.2.1, ()), (0, 0, ()), (r5.1.1, 0, ()), (r5.1.1 == 1), ())
    else
      bif (r5.1.1 == 13) then
        jn (fun t => B_s_someOp_J0 k c_Z13 c_Z17 t.1.1 t.1.2.1 t.2.1.1 t.2.1.2.1 t.2.2.1.1 t.2.2.1.2.1 t.2.2.2.1) ((r5.2.1.1, r5.2.1.2.1, ()), (0, 0, ()), (r5.1.1, 0, ()), (r5.1.1 == 13), ())
      else
        bif (r5.1.1 == 15) then
          jn (fun t => B_s_someOp_J0 k c_Z13 c_Z17 t.1.1 t.1.2.1 t.2.1.1 t.2.1.2.1 t.2.2.1.1 t.2.2.1.2.1 t.2.2.2.1) ((r5.2.1.1, r5.2.1.2.1, ()), (0, 0, ()), (r5.1.1, 0, ()), (r5.1.1 == 15), ())
        else
          jn (fun t => B_s_someOp_J0 k c_Z13 c_Z17 t.1.1 t.1.2.1 t.2.1.1 t.2.1.2.1 t.2.2.1.1 t.2.2.1.2.1 t.2.2.2.1) ((r5.2.1.1, r5.2.1.2.1, ()), (0, 0, ()), (r5.1.1, 0, ()), (r5.1.1 == 16), ())
def F_s_someOp : Nat → C_s_someOp
  | 0, _, _ => none
  | k + 1, r_b, r_p => B_s_someOp k (F_Z13 k) (F_Z17 k) r_b r_p
theorem tot_s_someOp {r_b r_p : _} {Q : _ → Prop} (h : Tot (fun σ => B_s_someOp (σ 0) (F_Z13 (σ 0)) (F_Z17 (σ 0)) r_b r_p) Q) : Tot (fun σ => F_s_someOp (σ 0) r_b r_p) Q :=
  Tot.call (F := fun k => F_s_someOp k r_b r_p) (B := fun k => B_s_someOp k (F_Z13 k) (F_Z17 k) r_b r_p) (fun k => rfl) h
abbrev R_Z41 : Type := Option ((List Int × Unit) × (Unit))
abbrev C_Z41 : Type := List Int → R_Z41
def B_Z41 (k : Nat) (list : List Int) : R_Z41 :=
  chk (room ([] : List Int).length list.length) <|
  some ((list, ()), ())
def F_Z41 : Nat → C_Z41
  | 0, _ => none
  | k + 1, list => B_Z41 k list
theorem tot_Z41 {list : _} {Q : _ → Prop} (h : Tot (fun σ => B_Z41 (σ 0) list) Q) : Tot (fun σ => F_Z41 (σ 0) list) Q :=
  Tot.call (F := fun k => F_Z41 k list) (B := fun k => B_Z41 k list) (fun k => rfl) h
abbrev R_Z19 : Type := Option (((List Int × List Bool × List Int × List Int × Bool × Unit) × Unit) × (Unit))
abbrev C_Z19 : Type := List Int → List Bool → List Int → List Int → Bool → R_Z19
def B_Z19 (k : Nat) (c_Z41 : C_Z41) (s_0 : List Int) (s_1 : List Bool) (s_2 s_3 : List Int) (s_4 : Bool) : R_Z19 :=
  (c_Z41 s_0).bind fun r5 =>
  chk (room ([] : List Bool).length s_1.length) <|
  (c_Z41 s_2).bind fun r12 =>
  (c_Z41 s_3).bind fun r15 =>
  some (((r5.1.1, s_1, r12.1.1, r15.1.1, s_4, ()), ()), ())
def F_Z19 : Nat → C_Z19
  | 0, _, _, _, _, _ => none
  | k + 1, s_0, s_1, s_2, s_3, s_4 => B_Z19 k (F_Z41 k) s_0 s_1 s_2 s_3 s_4
theorem tot_Z19 {s_0 s_1 s_2 s_3 s_4 : _} {Q : _ → Prop} (h : Tot (fun σ => B_Z19 (σ 0) (F_Z41 (σ 0)) s_0 s_1 s_2 s_3 s_4) Q) : Tot (fun σ => F_Z19 (σ 0) s_0 s_1 s_2 s_3 s_4) Q :=
  Tot.call (F := fun k => F_Z19 k s_0 s_1 s_2 s_3 s_4) (B := fun k => B_Z19 k (F_Z41 k) s_0 s_1 s_2 s_3 s_4) (fun k => rfl) h
abbrev R_Z52 : Type := Option ((Int × Unit) × (Unit))
abbrev C_Z52 : Type := Int → R_Z52
def B_Z52 (k : Nat) (c : Int) : R_Z52 :=
  bif (c == 0) then
    some ((0, ()), ())
  else
    bif (c == 1) then
      some ((1, ()), ())
    else
      bif (c == 4) then
        some ((2, ()), ())
      else
        bif (c == 7) then
          some ((3, ()), ())
        else
          bif (c == 10) then
            some ((4, ()), ())
          else
            bif (c == 13) then
              some ((5, ()), ())
            else
              some (((-1), ()), ())
def F_Z52 : Nat → C_Z52
  | 0, _ => none
  | k + 1, c => B_Z52 k c
theorem tot_Z52 {c : _} {Q : _ → Prop} (h : Tot (fun σ => B_Z52 (σ 0) c) Q) : Tot (fun σ => F_Z52 (σ 0) c) Q :=
  Tot.call (F := fun k => F_Z52 k c) (B := fun k => B_Z52 k c) (fun k => rfl) h
abbrev R_Z38 : Type := Option (((List Int × List Bool × List Int × List Int × Bool × Unit) × Unit) × (Unit))
abbrev C_Z38 : Type := List Int → List Bool → List Int → List Int → Bool → Int → R_Z38
def B_Z38 (k : Nat) (s_0 : List Int) (s_1 : List Bool) (s_2 s_3 : List Int) (s_4 : Bool) (kind : Int) : R_Z38 :=
  chk (room s_0.length ([kind]).length) <|
  chk (room s_1.length ([false]).length) <|
  chk (room s_2.length ([w64 ((len (s_0 ++ [kind])) - 1)]).length) <|
  some ((((s_0 ++ [kind]), (s_1 ++ [false]), (s_2 ++ [w64 ((len (s_0 ++ [kind])) - 1)]), s_3, s_4, ()), ()), ())
def F_Z38 : Nat → C_Z38
  | 0, _, _, _, _, _, _ => none
  | k + 1, s_0, s_1, s_2, s_3, s_4, kind => B_Z38 k s_0 s_1 s_2 s_3 s_4 kind
theorem tot_Z38 {s_0 s_1 s_2 s_3 s_4 kind : _} {Q : _ → Prop} (h : Tot (fun σ => B_Z38 (σ 0) s_0 s_1 s_2 s_3 s_4 kind) Q) : Tot (fun σ => F_Z38 (σ 0) s_0 s_1 s_2 s_3 s_4 kind) Q :=
  Tot.call (F := fun k => F_Z38 k s_0 s_1 s_2 s_3 s_4 kind) (B := fun k => B_Z38 k s_0 s_1 s_2 s_3 s_4 kind) (fun k => rfl) h
abbrev R_Z53 : Type := Option ((Int × Unit) × (Unit))
abbrev C_Z53 : Type := List Int → List Bool → List Int → List Int → Bool → Int → R_Z53
def B_Z53_J0 (k : Nat) (s_Kinds : List Int) (s_Full : List Bool) (s_Stack s_Memo : List Int) (s_Done : Bool) (at5 : Int) (t21 : Bool) : R_Z53 :=
  bif t21 then
    some (((-1), ()), ())
  else
    chk (inb at5 s_Stack.length) <|
    chk (inb (rdx (0 : Int) s_Stack at5) s_Kinds.length) <|
    some (((rdx (0 : Int) s_Kinds (rdx (0 : Int) s_Stack at5)), ()), ())
def B_Z53 (k : Nat) (s_0 : List Int) (s_1 : List Bool) (s_2 s_3 : List Int) (s_4 : Bool) (deep : Int) : R_Z53 :=
  bif decide ((w64 ((w64 ((len s_2) - 1)) - deep)) < 0) then
    jn (fun t => B_Z53_J0 k t.1.1 t.1.2.1 t.1.2.2.1 t.1.2.2.2.1 t.1.2.2.2.2.1 t.2.1 t.2.2.1) ((s_0, s_1, s_2, s_3, s_4, ()), w64 ((w64 ((len s_2) - 1)) - deep), true, ())
  else
    chk (inb (w64 ((w64 ((len s_2) - 1)) - deep)) s_2.length) <|
    jn (fun t => B_Z53_J0 k t.1.1 t.1.2.1 t.1.2.2.1 t.1.2.2.2.1 t.1.2.2.2.2.1 t.2.1 t.2.2.1) ((s_0, s_1, s_2, s_3, s_4, ()), w64 ((w64 ((len s_2) - 1)) - deep), decide ((rdx (0 : Int) s_2 (w64 ((w64 ((len s_2) - 1)) - deep))) < 0), ())
def F_Z53 : Nat → C_Z53
  | 0, _, _, _, _, _, _ => none
  | k + 1, s_0, s_1, s_2, s_3, s_4, deep => B_Z53 k s_0 s_1 s_2 s_3 s_4 deep
theorem tot_Z53 {s_0 s_1 s_2 s_3 s_4 deep : _} {Q : _ → Prop} (h : Tot (fun σ => B_Z53 (σ 0) s_0 s_1 s_2 s_3 s_4 deep) Q) : Tot (fun σ => F_Z53 (σ 0) s_0 s_1 s_2 s_3 s_4 deep) Q :=
  Tot.call (F := fun k => F_Z53 k s_0 s_1 s_2 s_3 s_4 deep) (B := fun k => B_Z53 k s_0 s_1 s_2 s_3 s_4 deep) (fun k => rfl) h
abbrev R_Z60 : Type := Option ((Bool × Unit) × (Unit))
abbrev C_Z60 : Type := Int → R_Z60
def B_Z60 (k : Nat) (kind : Int) : R_Z60 :=
  bif (kind == 0) then
    some ((true, ()), ())
  else
    some (((kind == 1), ()), ())
def F_Z60 : Nat → C_Z60
  | 0, _ => none
  | k + 1, kind => B_Z60 k kind
theorem tot_Z60 {kind : _} {Q : _ → Prop} (h : Tot (fun σ => B_Z60 (σ 0) kind) Q) : Tot (fun σ => F_Z60 (σ 0) kind) Q :=
  Tot.call (F := fun k => F_Z60 k kind) (B := fun k => B_Z60 k kind) (fun k => rfl) h
abbrev R_Z15 : Type := Option (((List Int × List Bool × List Int × List Int × Bool × Unit) × Bool × Unit) × (Unit))
abbrev C_Z15 : Type := List Int → List Bool → List Int → List Int → Bool → Int → R_Z15
abbrev T_Z15_L2 : Type := (List Int × List Bool × List Int × List Int × Bool × Unit) × (Unit × Unit × Unit × Unit × Bool × Unit) × List Int × Int × Unit
abbrev T_Z15_L1 : Type := Int × (List Int × List Bool × List Int × List Int × Bool × Unit) × (Unit × Unit × Unit × Unit × Bool × Unit) × Int × Unit
def B_Z15_L2b (k : Nat) (c_Z41 : C_Z41) (c_Z38 : C_Z38) (c_Z53 : C_Z53) (c_Z60 : C_Z60) (again2 : T_Z15_L2 → R_Z15) (s_Kinds : List Int) (s_Full : List Bool) (s_Stack s_Memo : List Int) (s_Done t4_Done : Bool) (list : List Int) (i : Int) : R_Z15 :=
  bif decide (i < (len list)) then
    chk (inb i list.length) <|
    chk (decide (i.toNat < list.length)) <|
    chk (inb (list.getD i.toNat (0 : Int)) s_Kinds.length) <|
    chk (decide ((list.getD i.toNat (0 : Int)).toNat < s_Kinds.length)) <|
    (c_Z60 (s_Kinds.getD ((list.getD i.toNat (0 : Int)).toNat) (0 : Int))).bind fun r66 =>
    bif (!r66.1.1) then
      some (((s_Kinds, s_Full, s_Stack, s_Memo, s_Done, ()), false, ()), ())
    else
      again2 ((s_Kinds, s_Full, s_Stack, s_Memo, s_Done, ()), ((), (), (), (), t4_Done, ()), list, w64 (i + 2), ())
  else
    (c_Z53 s_Kinds s_Full s_Stack s_Memo s_Done 0).bind fun r71 =>
    bif (r71.1.1 == 4) then
      some (((s_Kinds, s_Full, s_Stack, s_Memo, s_Done, ()), (((len list).tmod 2) == 0), ()), ())
    else
      some (((s_Kinds, s_Full, s_Stack, s_Memo, s_Done, ()), false, ()), ())
def B_Z15_L2 (k : Nat) (c_Z41 : C_Z41) (c_Z38 : C_Z38) (c_Z53 : C_Z53) (c_Z60 : C_Z60) (n : Nat) (t : T_Z15_L2) : R_Z15 :=
  lfix n (fun again t => B_Z15_L2b k c_Z41 c_Z38 c_Z53 c_Z60 again t.1.1 t.1.2.1 t.1.2.2.1 t.1.2.2.2.1 t.1.2.2.2.2.1 t.2.1.2.2.2.2.1 t.2.2.1 t.2.2.2.1) t
def B_Z15_J0 (k : Nat) (c_Z41 : C_Z41) (c_Z38 : C_Z38) (c_Z53 : C_Z53) (c_Z60 : C_Z60) (again1 : T_Z15_L1 → R_Z15) (c : Int) (s_Kinds : List Int) (s_Full : List Bool) (s_Stack s_Memo : List Int) (s_Done t4_Done : Bool) (at6 : Int) (t22 : Bool) : R_Z15 :=
  bif t22 then
    again1 (c, (s_Kinds, s_Full, s_Stack, s_Memo, s_Done, ()), ((), (), (), (), t4_Done, ()), w64 (at6 - 1), ())
  else
    bif decide (at6 < 0) then
      some (((s_Kinds, s_Full, s_Stack, s_Memo, s_Done, ()), false, ()), ())
    else
      chk (cutb (w64 (at6 + 1)) (len s_Stack) s_Stack.length) <|
      (c_Z41 ((s_Stack.take ((len s_Stack).toNat)).drop ((w64 (at6 + 1)).toNat))).bind fun r33 =>
      chk (cutb 0 at6 s_Stack.length) <|
      bif (c == 3) then
        (c_Z38 s_Kinds s_Full (s_Stack.take at6.toNat) s_Memo s_Done 2).bind fun r43 =>
        some (((r43.1.1.1, r43.1.1.2.1, r43.1.1.2.2.1, r43.1.1.2.2.2.1, r43.1.1.2.2.2.2.1, ()), true, ()), ())
      else
        bif (c == 9) then
          (c_Z53 s_Kinds s_Full ((s_Stack.take at6.toNat).drop 0) s_Memo s_Done 0).bind fun r48 =>
          some (((s_Kinds, s_Full, (s_Stack.take at6.toNat), s_Memo, s_Done, ()), (r48.1.1 == 3), ()), ())
        else
          bif (c == 12) then
            B_Z15_L2 k c_Z41 c_Z38 c_Z53 c_Z60 k ((s_Kinds, s_Full, (s_Stack.take at6.toNat), s_Memo, s_Done, ()), ((), (), (), (), t4_Done, ()), r33.1.1, 0, ())
          else
            some (((s_Kinds, s_Full, (s_Stack.take at6.toNat), s_Memo, s_Done, ()), true, ()), ())
def B_Z15_L1b (k : Nat) (c_Z41 : C_Z41) (c_Z38 : C_Z38) (c_Z53 : C_Z53) (c_Z60 : C_Z60) (again1 : T_Z15_L1 → R_Z15) (c : Int) (s_Kinds : List Int) (s_Full : List Bool) (s_Stack s_Memo : List Int) (s_Done t4_Done : Bool) (at6 : Int) : R_Z15 :=
  bif decide (at6 ≥ 0) then
    chk (inb at6 s_Stack.length) <|
    chk (decide (at6.toNat < s_Stack.length)) <|
    jn (fun t => B_Z15_J0 k c_Z41 c_Z38 c_Z53 c_Z60 again1 t.1 t.2.1.1 t.2.1.2.1 t.2.1.2.2.1 t.2.1.2.2.2.1 t.2.1.2.2.2.2.1 t.2.2.1.2.2.2.2.1 t.2.2.2.1 t.2.2.2.2.1) (c, (s_Kinds, s_Full, s_Stack, s_Memo, s_Done, ()), ((), (), (), (), t4_Done, ()), at6, decide ((s_Stack.getD at6.toNat (0 : Int)) ≥ 0), ())
  else
    jn (fun t => B_Z15_J0 k c_Z41 c_Z38 c_Z53 c_Z60 again1 t.1 t.2.1.1 t.2.1.2.1 t.2.1.2.2.1 t.2.1.2.2.2.1 t.2.1.2.2.2.2.1 t.2.2.1.2.2.2.2.1 t.2.2.2.1 t.2.2.2.2.1) (c, (s_Kinds, s_Full, s_Stack, s_Memo, s_Done, ()), ((), (), (), (), t4_Done, ()), at6, false, ())
def B_Z15_L1 (k : Nat) (c_Z41 : C_Z41) (c_Z38 : C_Z38) (c_Z53 : C_Z53) (c_Z60 : C_Z60) (n : Nat) (t : T_Z15_L1) : R_Z15 :=
  lfix n (fun again t => B_Z15_L1b k c_Z41 c_Z38 c_Z53 c_Z60 again t.1 t.2.1.1 t.2.1.2.1 t.2.1.2.2.1 t.2.1.2.2.2.1 t.2.1.2.2.2.2.1 t.2.2.1.2.2.2.2.1 t.2.2.2.1) t
def B_Z15 (k : Nat) (c_Z41 : C_Z41) (c_Z38 : C_Z38) (c_Z53 : C_Z53) (c_Z60 : C_Z60) (s_0 : List Int) (s_1 : List Bool) (s_2 s_3 : List Int) (s_4 : Bool) (c : Int) : R_Z15 :=
  B_Z15_L1 k c_Z41 c_Z38 c_Z53 c_Z60 k (c, (s_0, s_1, s_2, s_3, s_4, ()), ((), (), (), (), false, ()), w64 ((len s_2) - 1), ())
def F_Z15 : Nat → C_Z15
  | 0, _, _, _, _, _, _ => none
  | k + 1, s_0, s_1, s_2, s_3, s_4, c => B_Z15 k (F_Z41 k) (F_Z38 k) (F_Z53 k) (F_Z60 k) s_0 s_1 s_2 s_3 s_4 c
theorem tot_Z15 {s_0 s_1 s_2 s_3 s_4 c : _} {Q : _ → Prop} (h : Tot (fun σ => B_Z15 (σ 0) (F_Z41 (σ 0)) (F_Z38 (σ 0)) (F_Z53 (σ 0)) (F_Z60 (σ 0)) s_0 s_1 s_2 s_3 s_4 c) Q) : Tot (fun σ => F_Z15 (σ 0) s_0 s_1 s_2 s_3 s_4 c) Q :=
  Tot.call (F := fun k => F_Z15 k s_0 s_1 s_2 s_3 s_4 c) (B := fun k => B_Z15 k (F_Z41 k) (F_Z38 k) (F_Z53 k) (F_Z60 k) s_0 s_1 s_2 s_3 s_4 c) (fun k => rfl) h
abbrev A_Z15_L2 (Z : Type) : Type := List Int → List Bool → List Int → List Int → Bool → Bool → List Int → Int → Z
abbrev u_Z15_L2 {Z : Type} (f : A_Z15_L2 Z) (t : T_Z15_L2) : Z := f t.1.1 t.1.2.1 t.1.2.2.1 t.1.2.2.2.1 t.1.2.2.2.2.1 t.2.1.2.2.2.2.1 t.2.2.1 t.2.2.2.1
theorem loop_Z15_L2 {Q : A_Z15_L2 ((((List Int × List Bool × List Int × List Int × Bool × Unit) × Bool × Unit) × (Unit)) → Prop)} (I : A_Z15_L2 Prop) (μ : A_Z15_L2 Nat)
    (step : ∀ a0 a1 a2 a3 a4 a5 a6 a7, I a0 a1 a2 a3 a4 a5 a6 a7 → ∀ again : (Nat → Nat) → T_Z15_L2 → R_Z15, Dep 2 again → (∀ y0 y1 y2 y3 y4 y5 y6 y7, I y0 y1 y2 y3 y4 y5 y6 y7 → μ y0 y1 y2 y3 y4 y5 y6 y7 < μ a0 a1 a2 a3 a4 a5 a6 a7 → Tot (fun σ => again σ ((y0, y1, y2, y3, y4, ()), ((), (), (), (), y5, ()), y6, y7, ())) (Q y0 y1 y2 y3 y4 y5 y6 y7)) →
      Tot (fun σ => B_Z15_L2b (σ 0) (F_Z41 (σ 0)) (F_Z38 (σ 0)) (F_Z53 (σ 0)) (F_Z60 (σ 0)) (again σ) a0 a1 a2 a3 a4 a5 a6 a7) (Q a0 a1 a2 a3 a4 a5 a6 a7)) :
    ∀ a0 a1 a2 a3 a4 a5 a6 a7, I a0 a1 a2 a3 a4 a5 a6 a7 → Tot (fun σ => B_Z15_L2 (σ 0) (F_Z41 (σ 0)) (F_Z38 (σ 0)) (F_Z53 (σ 0)) (F_Z60 (σ 0)) (σ 0) ((a0, a1, a2, a3, a4, ()), ((), (), (), (), a5, ()), a6, a7, ())) (Q a0 a1 a2 a3 a4 a5 a6 a7) := fun a0 a1 a2 a3 a4 a5 a6 a7 => Tot.loop0 (L := fun k => B_Z15_L2 k (F_Z41 k) (F_Z38 k) (F_Z53 k) (F_Z60 k)) (B := fun k g => u_Z15_L2 (B_Z15_L2b k (F_Z41 k) (F_Z38 k) (F_Z53 k) (F_Z60 k) g)) (Q := u_Z15_L2 Q) (fun _ _ _ => rfl) (u_Z15_L2 I) (u_Z15_L2 μ)
    (fun t ht again hag h => step t.1.1 t.1.2.1 t.1.2.2.1 t.1.2.2.2.1 t.1.2.2.2.2.1 t.2.1.2.2.2.2.1 t.2.2.1 t.2.2.2.1 ht again hag fun y0 y1 y2 y3 y4 y5 y6 y7 => h ((y0, y1, y2, y3, y4, ()), ((), (), (), (), y5, ()), y6, y7, ())) ((a0, a1, a2, a3, a4, ()), ((), (), (), (), a5, ()), a6, a7, ())
abbrev A_Z15_L1 (Z : Type) : Type := Int → List Int → List Bool → List Int → List Int → Bool → Bool → Int → Z
abbrev u_Z15_L1 {Z : Type} (f : A_Z15_L1 Z) (t : T_Z15_L1) : Z := f t.1 t.2.1.1 t.2.1.2.1 t.2.1.2.2.1 t.2.1.2.2.2.1 t.2.1.2.2.2.2.1 t.2.2.1.2.2.2.2.1 t.2.2.2.1
theorem loop_Z15_L1 {Q : A_Z15_L1 ((((List Int × List Bool × List Int × List Int × Bool × Unit) × Bool × Unit) × (Unit)) → Prop)} (I : A_Z15_L1 Prop) (μ : A_Z15_L1 Nat)
    (step : ∀ a0 a1 a2 a3 a4 a5 a6 a7, I a0 a1 a2 a3 a4 a5 a6 a7 → ∀ again : (Nat → Nat) → T_Z15_L1 → R_Z15, Dep 2 again → (∀ y0 y1 y2 y3 y4 y5 y6 y7, I y0 y1 y2 y3 y4 y5 y6 y7 → μ y0 y1 y2 y3 y4 y5 y6 y7 < μ a0 a1 a2 a3 a4 a5 a6 a7 → Tot (fun σ => again σ (y0, (y1, y2, y3, y4, y5, ()), ((), (), (), (), y6, ()), y7, ())) (Q y0 y1 y2 y3 y4 y5 y6 y7)) →
      Tot (fun σ => B_Z15_L1b (σ 0) (F_Z41 (σ 0)) (F_Z38 (σ 0)) (F_Z53 (σ 0)) (F_Z60 (σ 0)) (again σ) a0 a1 a2 a3 a4 a5 a6 a7) (Q a0 a1 a2 a3 a4 a5 a6 a7)) :
    ∀ a0 a1 a2 a3 a4 a5 a6 a7, I a0 a1 a2 a3 a4 a5 a6 a7 → Tot (fun σ => B_Z15_L1 (σ 0) (F_Z41 (σ 0)) (F_Z38 (σ 0)) (F_Z53 (σ 0)) (F_Z60 (σ 0)) (σ 0) (a0, (a1, a2, a3, a4, a5, ()), ((), (), (), (), a6, ()), a7, ())) (Q a0 a1 a2 a3 a4 a5 a6 a7) := fun a0 a1 a2 a3 a4 a5 a6 a7 => Tot.loop0 (L := fun k => B_Z15_L1 k (F_Z41 k) (F_Z38 k) (F_Z53 k) (F_Z60 k)) (B := fun k g => u_Z15_L1 (B_Z15_L1b k (F_Z41 k) (F_Z38 k) (F_Z53 k) (F_Z60 k) g)) (Q := u_Z15_L1 Q) (fun _ _ _ => rfl) (u_Z15_L1 I) (u_Z15_L1 μ)
    (fun t ht again hag h => step t.1 t.2.1.1 t.2.1.2.1 t.2.1.2.2.1 t.2.1.2.2.2.1 t.2.1.2.2.2.2.1 t.2.2.1.2.2.2.2.1 t.2.2.2.1 ht again hag fun y0 y1 y2 y3 y4 y5 y6 y7 => h (y0, (y1, y2, y3, y4, y5, ()), ((), (), (), (), y6, ()), y7, ())) (a0, (a1, a2, a3, a4, a5, ()), ((), (), (), (), a6, ()), a7, ())
abbrev R_Z24 : Type := Option (((List Int × List Bool × List Int × List Int × Bool × Unit) × Bool × Unit) × (Unit))
abbrev C_Z24 : Type := List Int → List Bool → List Int → List Int → Bool → Int → Int → R_Z24
def B_Z24_J2 (k : Nat) (c_Z53 : C_Z53) (c_Z38 : C_Z38) (c_Z60 : C_Z60) (s_Kinds : List Int) (s_Full : List Bool) (s_Stack s_Memo : List Int) (s_Done t4_Done ok : Bool) (many : Int) : R_Z24 :=
  bif (!ok) then
    some (((s_Kinds, s_Full, s_Stack, s_Memo, s_Done, ()), false, ()), ())
  else
    chk (cutb 0 (w64 ((len s_Stack) - many)) s_Stack.length) <|
    some (((s_Kinds, s_Full, (s_Stack.take ((w64 ((len s_Stack) - many)).toNat)), s_Memo, s_Done, ()), true, ()), ())
def B_Z24_J0 (k : Nat) (c_Z53 : C_Z53) (c_Z38 : C_Z38) (c_Z60 : C_Z60) (s_Kinds : List Int) (s_Full : List Bool) (s_Stack s_Memo : List Int) (s_Done t4_Done t40 : Bool) : R_Z24 :=
  bif t40 then
    some (((s_Kinds, s_Full, s_Stack, s_Memo, s_Done, ()), false, ()), ())
  else
    chk (cutb 0 (w64 ((len s_Stack) - 2)) s_Stack.length) <|
    (c_Z38 s_Kinds s_Full (s_Stack.take ((w64 ((len s_Stack) - 2)).toNat)) s_Memo s_Done 2).bind fun r51 =>
    some (((r51.1.1.1, r51.1.1.2.1, r51.1.1.2.2.1, r51.1.1.2.2.2.1, r51.1.1.2.2.2.2.1, ()), true, ()), ())
def B_Z24_J1 (k : Nat) (c_Z53 : C_Z53) (c_Z38 : C_Z38) (c_Z60 : C_Z60) (s_Kinds : List Int) (s_Full : List Bool) (s_Stack s_Memo : List Int) (s_Done t4_Done ok : Bool) (many : Int) : R_Z24 :=
  bif ok then
    chk (inb (w64 ((len s_Stack) - 2)) s_Stack.length) <|
    chk (decide ((w64 ((len s_Stack) - 2)).toNat < s_Stack.length)) <|
    chk (inb (s_Stack.getD ((w64 ((len s_Stack) - 2)).toNat) (0 : Int)) s_Full.length) <|
    chk (decide ((s_Stack.getD ((w64 ((len s_Stack) - 2)).toNat) (0 : Int)).toNat < s_Full.length)) <|
    jn (fun t => B_Z24_J2 k c_Z53 c_Z38 c_Z60 t.1.1 t.1.2.1 t.1.2.2.1 t.1.2.2.2.1 t.1.2.2.2.2.1 t.2.1.2.2.2.2.1 t.2.2.1 t.2.2.2.1) ((s_Kinds, (s_Full.set ((s_Stack.getD ((w64 ((len s_Stack) - 2)).toNat) (0 : Int)).toNat) true), s_Stack, s_Memo, s_Done, ()), ((), (), (), (), t4_Done, ()), ok, many, ())
  else
    jn (fun t => B_Z24_J2 k c_Z53 c_Z38 c_Z60 t.1.1 t.1.2.1 t.1.2.2.1 t.1.2.2.2.1 t.1.2.2.2.2.1 t.2.1.2.2.2.2.1 t.2.2.1 t.2.2.2.1) ((s_Kinds, s_Full, s_Stack, s_Memo, s_Done, ()), ((), (), (), (), t4_Done, ()), ok, many, ())
def B_Z24 (k : Nat) (c_Z53 : C_Z53) (c_Z38 : C_Z38) (c_Z60 : C_Z60) (s_0 : List Int) (s_1 : List Bool) (s_2 s_3 : List Int) (s_4 : Bool) (o_0 o_1 : Int) : R_Z24 :=
  (c_Z53 s_0 s_1 s_2 s_3 s_4 0).bind fun r11 =>
  (c_Z53 s_0 s_1 s_2 s_3 s_4 1).bind fun r13 =>
  bif (o_0 == 5) then
    bif (!(decide (r11.1.1 ≥ 0))) then
      some (((s_0, s_1, s_2, s_3, s_4, ()), false, ()), ())
    else
      chk (cutb 0 (w64 ((len s_2) - 1)) s_2.length) <|
      (c_Z38 s_0 s_1 (s_2.take ((w64 ((len s_2) - 1)).toNat)) s_3 s_4 2).bind fun r32 =>
      some (((r32.1.1.1, r32.1.1.2.1, r32.1.1.2.2.1, r32.1.1.2.2.2.1, r32.1.1.2.2.2.2.1, ()), true, ()), ())
  else
    bif (o_0 == 6) then
      bif (!(decide (r11.1.1 ≥ 0))) then
        jn (fun t => B_Z24_J0 k c_Z53 c_Z38 c_Z60 t.1.1 t.1.2.1 t.1.2.2.1 t.1.2.2.2.1 t.1.2.2.2.2.1 t.2.1.2.2.2.2.1 t.2.2.1) ((s_0, s_1, s_2, s_3, s_4, ()), ((), (), (), (), false, ()), true, ())
      else
        jn (fun t => B_Z24_J0 k c_Z53 c_Z38 c_Z60 t.1.1 t.1.2.1 t.1.2.2.1 t.1.2.2.2.1 t.1.2.2.2.2.1 t.2.1.2.2.2.2.1 t.2.2.1) ((s_0, s_1, s_2, s_3, s_4, ()), ((), (), (), (), false, ()), decide (r13.1.1 < 0), ())
    else
      bif (o_0 == 8) then
        bif decide (r11.1.1 ≥ 0) then
          jn (fun t => B_Z24_J2 k c_Z53 c_Z38 c_Z60 t.1.1 t.1.2.1 t.1.2.2.1 t.1.2.2.2.1 t.1.2.2.2.2.1 t.2.1.2.2.2.2.1 t.2.2.1 t.2.2.2.1) ((s_0, s_1, s_2, s_3, s_4, ()), ((), (), (), (), false, ()), (r13.1.1 == 3), 1, ())
        else
          jn (fun t => B_Z24_J2 k c_Z53 c_Z38 c_Z60 t.1.1 t.1.2.1 t.1.2.2.1 t.1.2.2.2.1 t.1.2.2.2.2.1 t.2.1.2.2.2.2.1 t.2.2.1 t.2.2.2.1) ((s_0, s_1, s_2, s_3, s_4, ()), ((), (), (), (), false, ()), false, 1, ())
      else
        bif (o_0 == 11) then
          bif decide (r11.1.1 ≥ 0) then
            (c_Z60 r13.1.1).bind fun r64 =>
            bif r64.1.1 then
              (c_Z53 s_0 s_1 s_2 s_3 s_4 2).bind fun r68 =>
              jn (fun t => B_Z24_J2 k c_Z53 c_Z38 c_Z60 t.1.1 t.1.2.1 t.1.2.2.1 t.1.2.2.2.1 t.1.2.2.2.2.1 t.2.1.2.2.2.2.1 t.2.2.1 t.2.2.2.1) ((s_0, s_1, s_2, s_3, s_4, ()), ((), (), (), (), false, ()), (r68.1.1 == 4), 2, ())
            else
              jn (fun t => B_Z24_J2 k c_Z53 c_Z38 c_Z60 t.1.1 t.1.2.1 t.1.2.2.1 t.1.2.2.2.1 t.1.2.2.2.2.1 t.2.1.2.2.2.2.1 t.2.2.1 t.2.2.2.1) ((s_0, s_1, s_2, s_3, s_4, ()), ((), (), (), (), false, ()), false, 2, ())
          else
            jn (fun t => B_Z24_J2 k c_Z53 c_Z38 c_Z60 t.1.1 t.1.2.1 t.1.2.2.1 t.1.2.2.2.1 t.1.2.2.2.2.1 t.2.1.2.2.2.2.1 t.2.2.1 t.2.2.2.1) ((s_0, s_1, s_2, s_3, s_4, ()), ((), (), (), (), false, ()), false, 2, ())
        else
          bif (o_0 == 14) then
            bif decide (r11.1.1 ≥ 0) then
              bif (r13.1.1 == 5) then
                chk (inb (w64 ((len s_2) - 2)) s_2.length) <|
                chk (decide ((w64 ((len s_2) - 2)).toNat < s_2.length)) <|
                chk (inb (s_2.getD ((w64 ((len s_2) - 2)).toNat) (0 : Int)) s_1.length) <|
                chk (decide ((s_2.getD ((w64 ((len s_2) - 2)).toNat) (0 : Int)).toNat < s_1.length)) <|
                jn (fun t => B_Z24_J1 k c_Z53 c_Z38 c_Z60 t.1.1 t.1.2.1 t.1.2.2.1 t.1.2.2.2.1 t.1.2.2.2.2.1 t.2.1.2.2.2.2.1 t.2.2.1 t.2.2.2.1) ((s_0, s_1, s_2, s_3, s_4, ()), ((), (), (), (), false, ()), (!(s_1.getD ((s_2.getD ((w64 ((len s_2) - 2)).toNat) (0 : Int)).toNat) false)), 1, ())
              else
                jn (fun t => B_Z24_J1 k c_Z53 c_Z38 c_Z60 t.1.1 t.1.2.1 t.1.2.2.1 t.1.2.2.2.1 t.1.2.2.2.2.1 t.2.1.2.2.2.2.1 t.2.2.1 t.2.2.2.1) ((s_0, s_1, s_2, s_3, s_4, ()), ((), (), (), (), false, ()), false, 1, ())
            else
              jn (fun t => B_Z24_J1 k c_Z53 c_Z38 c_Z60 t.1.1 t.1.2.1 t.1.2.2.1 t.1.2.2.2.1 t.1.2.2.2.2.1 t.2.1.2.2.2.2.1 t.2.2.1 t.2.2.2.1) ((s_0, s_1, s_2, s_3, s_4, ()), ((), (), (), (), false, ()), false, 1, ())
          else
            bif (o_0 == 15) then
              bif decide (r11.1.1 ≥ 0) then
                chk (inb (w64 ((len s_2) - 1)) s_2.length) <|
                chk (decide ((w64 ((len s_2) - 1)).toNat < s_2.length)) <|
                chk (inb o_1 s_3.length) <|
                chk (decide (o_1.toNat < s_3.length)) <|
                jn (fun t => B_Z24_J2 k c_Z53 c_Z38 c_Z60 t.1.1 t.1.2.1 t.1.2.2.1 t.1.2.2.2.1 t.1.2.2.2.2.1 t.2.1.2.2.2.2.1 t.2.2.1 t.2.2.2.1) ((s_0, s_1, s_2, (s_3.set o_1.toNat (s_2.getD ((w64 ((len s_2) - 1)).toNat) (0 : Int))), s_4, ()), ((), (), (), (), false, ()), decide (r11.1.1 ≥ 0), 0, ())
              else
                jn (fun t => B_Z24_J2 k c_Z53 c_Z38 c_Z60 t.1.1 t.1.2.1 t.1.2.2.1 t.1.2.2.2.1 t.1.2.2.2.2.1 t.2.1.2.2.2.2.1 t.2.2.1 t.2.2.2.1) ((s_0, s_1, s_2, s_3, s_4, ()), ((), (), (), (), false, ()), decide (r11.1.1 ≥ 0), 0, ())
            else
              bif (o_0 == 19) then
                bif decide (r11.1.1 ≥ 0) then
                  jn (fun t => B_Z24_J2 k c_Z53 c_Z38 c_Z60 t.1.1 t.1.2.1 t.1.2.2.1 t.1.2.2.2.1 t.1.2.2.2.2.1 t.2.1.2.2.2.2.1 t.2.2.1 t.2.2.2.1) ((s_0, s_1, s_2, s_3, true, ()), ((), (), (), (), false, ()), ((len s_2) == 1), 0, ())
                else
                  jn (fun t => B_Z24_J2 k c_Z53 c_Z38 c_Z60 t.1.1 t.1.2.1 t.1.2.2.1 t.1.2.2.2.1 t.1.2.2.2.2.1 t.2.1.2.2.2.2.1 t.2.2.1 t.2.2.2.1) ((s_0, s_1, s_2, s_3, true, ()), ((), (), (), (), false, ()), false, 0, ())
              else
                jn (fun t => B_Z24_J2 k c_Z53 c_Z38 c_Z60 t.1.1 t.1.2.1 t.1.2.2.1 t.1.2.2.2.1 t.1.2.2.2.2.1 t.2.1.2.2.2.2.1 t.2.2.1 t.2.2.2.1) ((s_0, s_1, s_2, s_3, s_4, ()), ((), (), (), (), false, ()), decide (r11.1.1 ≥ 0), 1, ())
def F_Z24 : Nat → C_Z24
  | 0, _, _, _, _, _, _, _ => none
  | k + 1, s_0, s_1, s_2, s_3, s_4, o_0, o_1 => B_Z24 k (F_Z53 k) (F_Z38 k) (F_Z60 k) s_0 s_1 s_2 s_3 s_4 o_0 o_1
theorem tot_Z24 {s_0 s_1 s_2 s_3 s_4 o_0 o_1 : _} {Q : _ → Prop} (h : Tot (fun σ => B_Z24 (σ 0) (F_Z53 (σ 0)) (F_Z38 (σ 0)) (F_Z60 (σ 0)) s_0 s_1 s_2 s_3 s_4 o_0 o_1) Q) : Tot (fun σ => F_Z24 (σ 0) s_0 s_1 s_2 s_3 s_4 o_0 o_1) Q :=
  Tot.call (F := fun k => F_Z24 k s_0 s_1 s_2 s_3 s_4 o_0 o_1) (B := fun k => B_Z24 k (F_Z53 k) (F_Z38 k) (F_Z60 k) s_0 s_1 s_2 s_3 s_4 o_0 o_1) (fun k => rfl) h
abbrev R_Z18 : Type := Option (((List Int × List Bool × List Int × List Int × Bool × Unit) × Bool × Unit) × (Unit))
abbrev C_Z18 : Type := List Int → List Bool → List Int → List Int → Bool → Int → Int → R_Z18
def B_Z18_J1 (k : Nat) (c_Z52 : C_Z52) (c_Z38 : C_Z38) (c_Z15 : C_Z15) (c_Z24 : C_Z24) (s_Kinds : List Int) (s_Full : List Bool) (s_Stack s_Memo : List Int) (s_Done t4_Done ok : Bool) : R_Z18 :=
  bif ok then
    bif decide ((len s_Kinds) ≤ 300) then
      some (((s_Kinds, s_Full, s_Stack, s_Memo, s_Done, ()), decide ((len s_Stack) ≤ 300), ()), ())
    else
      some (((s_Kinds, s_Full, s_Stack, s_Memo, s_Done, ()), false, ()), ())
  else
    some (((s_Kinds, s_Full, s_Stack, s_Memo, s_Done, ()), false, ()), ())
def B_Z18_J0 (k : Nat) (c_Z52 : C_Z52) (c_Z38 : C_Z38) (c_Z15 : C_Z15) (c_Z24 : C_Z24) (s_Kinds : List Int) (s_Full : List Bool) (s_Stack s_Memo : List Int) (s_Done : Bool) (o_Code o_Arg : Int) (t4_Done t61 : Bool) : R_Z18 :=
  bif t61 then
    (c_Z15 s_Kinds s_Full s_Stack s_Memo s_Done o_Code).bind fun r84 =>
    jn (fun t => B_Z18_J1 k c_Z52 c_Z38 c_Z15 c_Z24 t.1.1 t.1.2.1 t.1.2.2.1 t.1.2.2.2.1 t.1.2.2.2.2.1 t.2.1.2.2.2.2.1 t.2.2.1) ((r84.1.1.1, r84.1.1.2.1, r84.1.1.2.2.1, r84.1.1.2.2.2.1, r84.1.1.2.2.2.2.1, ()), ((), (), (), (), t4_Done, ()), r84.1.2.1, ())
  else
    (c_Z24 s_Kinds s_Full s_Stack s_Memo s_Done o_Code o_Arg).bind fun r16 =>
    jn (fun t => B_Z18_J1 k c_Z52 c_Z38 c_Z15 c_Z24 t.1.1 t.1.2.1 t.1.2.2.1 t.1.2.2.2.1 t.1.2.2.2.2.1 t.2.1.2.2.2.2.1 t.2.2.1) ((r16.1.1.1, r16.1.1.2.1, r16.1.1.2.2.1, r16.1.1.2.2.2.1, r16.1.1.2.2.2.2.1, ()), ((), (), (), (), t4_Done, ()), r16.1.2.1, ())
def B_Z18 (k : Nat) (c_Z52 : C_Z52) (c_Z38 : C_Z38) (c_Z15 : C_Z15) (c_Z24 : C_Z24) (s_0 : List Int) (s_1 : List Bool) (s_2 s_3 : List Int) (s_4 : Bool) (o_0 o_1 : Int) : R_Z18 :=
  bif (!(!s_4)) then
    some (((s_0, s_1, s_2, s_3, s_4, ()), false, ()), ())
  else
    (c_Z52 o_0).bind fun r22 =>
    bif decide (r22.1.1 ≥ 0) then
      (c_Z52 o_0).bind fun r27 =>
      (c_Z38 s_0 s_1 s_2 s_3 s_4 r27.1.1).bind fun r28 =>
      jn (fun t => B_Z18_J1 k c_Z52 c_Z38 c_Z15 c_Z24 t.1.1 t.1.2.1 t.1.2.2.1 t.1.2.2.2.1 t.1.2.2.2.2.1 t.2.1.2.2.2.2.1 t.2.2.1) ((r28.1.1.1, r28.1.1.2.1, r28.1.1.2.2.1, r28.1.1.2.2.2.1, r28.1.1.2.2.2.2.1, ()), ((), (), (), (), false, ()), (!s_4), ())
    else
      bif (o_0 == 2) then
        chk (room s_2.length ([(-1)]).length) <|
        jn (fun t => B_Z18_J1 k c_Z52 c_Z38 c_Z15 c_Z24 t.1.1 t.1.2.1 t.1.2.2.1 t.1.2.2.2.1 t.1.2.2.2.2.1 t.2.1.2.2.2.2.1 t.2.2.1) ((s_0, s_1, (s_2 ++ [(-1)]), s_3, s_4, ()), ((), (), (), (), false, ()), (!s_4), ())
      else
        bif (o_0 == 16) then
          chk (inb o_1 s_3.length) <|
          chk (decide (o_1.toNat < s_3.length)) <|
          bif decide ((s_3.getD o_1.toNat (0 : Int)) < 0) then
            some (((s_0, s_1, s_2, s_3, s_4, ()), false, ()), ())
          else
            chk (inb o_1 s_3.length) <|
            chk (decide (o_1.toNat < s_3.length)) <|
            chk (room s_2.length ([(s_3.getD o_1.toNat (0 : Int))]).length) <|
            jn (fun t => B_Z18_J1 k c_Z52 c_Z38 c_Z15 c_Z24 t.1.1 t.1.2.1 t.1.2.2.1 t.1.2.2.2.1 t.1.2.2.2.2.1 t.2.1.2.2.2.2.1 t.2.2.1) ((s_0, s_1, (s_2 ++ [(s_3.getD o_1.toNat (0 : Int))]), s_3, s_4, ()), ((), (), (), (), false, ()), (!s_4), ())
        else
          bif (o_0 == 3) then
            jn (fun t => B_Z18_J0 k c_Z52 c_Z38 c_Z15 c_Z24 t.1.1 t.1.2.1 t.1.2.2.1 t.1.2.2.2.1 t.1.2.2.2.2.1 t.2.1.1 t.2.1.2.1 t.2.2.1.2.2.2.2.1 t.2.2.2.1) ((s_0, s_1, s_2, s_3, s_4, ()), (o_0, o_1, ()), ((), (), (), (), false, ()), true, ())
          else
            bif (o_0 == 9) then
              jn (fun t => B_Z18_J0 k c_Z52 c_Z38 c_Z15 c_Z24 t.1.1 t.1.2.1 t.1.2.2.1 t.1.2.2.2.1 t.1.2.2.2.2.1 t.2.1.1 t.2.1.2.1 t.2.2.1.2.2.2.2.1 t.2.2.2.1) ((s_0, s_1, s_2, s_3, s_4, ()), (o_0, o_1, ()), ((), (), (), (), false, ()), true, ())
            else
              bif (o_0 == 12) then
                jn (fun t => B_Z18_J0 k c_Z52 c_Z38 c_Z15 c_Z24 t.1.1 t.1.2.1 t.1.2.2.1 t.1.2.2.2.1 t.1.2.2.2.2.1 t.2.1.1 t.2.1.2.1 t.2.2.1.2.2.2.2.1 t.2.2.2.1) ((s_0, s_1, s_2, s_3, s_4, ()), (o_0, o_1, ()), ((), (), (), (), false, ()), true, ())
              else
                jn (fun t => B_Z18_J0 k c_Z52 c_Z38 c_Z15 c_Z24 t.1.1 t.1.2.1 t.1.2.2.1 t.1.2.2.2.1 t.1.2.2.2.2.1 t.2.1.1 t.2.1.2.1 t.2.2.1.2.2.2.2.1 t.2.2.2.1) ((s_0, s_1, s_2, s_3, s_4, ()), (o_0, o_1, ()), ((), (), (), (), false, ()), (o_0 == 18), ())
def F_Z18 : Nat → C_Z18
  | 0, _, _, _, _, _, _, _ => none
  | k + 1, s_0, s_1, s_2, s_3, s_4, o_0, o_1 => B_Z18 k (F_Z52 k) (F_Z38 k) (F_Z15 k) (F_Z24 k) s_0 s_1 s_2 s_3 s_4 o_0 o_1
theorem tot_Z18 {s_0 s_1 s_2 s_3 s_4 o_0 o_1 : _} {Q : _ → Prop} (h : Tot (fun σ => B_Z18 (σ 0) (F_Z52 (σ 0)) (F_Z38 (σ 0)) (F_Z15 (σ 0)) (F_Z24 (σ 0)) s_0 s_1 s_2 s_3 s_4 o_0 o_1) Q) : Tot (fun σ => F_Z18 (σ 0) s_0 s_1 s_2 s_3 s_4 o_0 o_1) Q :=
  Tot.call (F := fun k => F_Z18 k s_0 s_1 s_2 s_3 s_4 o_0 o_1) (B := fun k => B_Z18 k (F_Z52 k) (F_Z38 k) (F_Z15 k) (F_Z24 k) s_0 s_1 s_2 s_3 s_4 o_0 o_1) (fun k => rfl) h
abbrev R_s_argOf : Type := Option ((Int × Unit) × (Unit))
abbrev C_s_argOf : Type := Int → R_s_argOf
def B_s_argOf_J0 (k : Nat) (t10 : Bool) : R_s_argOf :=
  bif t10 then
    some ((19, ()), ())
  else
    some (((-1), ()), ())
def B_s_argOf (k : Nat) (c : Int) : R_s_argOf :=
  bif (c == 0) then
    some ((999, ()), ())
  else
    bif (c == 1) then
      some ((9, ()), ())
    else
      bif (c == 13) then
        some ((9, ()), ())
      else
        bif (c == 15) then
          jn (fun t => B_s_argOf_J0 k t.1) ((c == 15), ())
        else
          jn (fun t => B_s_argOf_J0 k t.1) ((c == 16), ())
def F_s_argOf : Nat → C_s_argOf
  | 0, _ => none
  | k + 1, c => B_s_argOf k c
theorem tot_s_argOf {c : _} {Q : _ → Prop} (h : Tot (fun σ => B_s_argOf (σ 0) c) Q) : Tot (fun σ => F_s_argOf (σ 0) c) Q :=
  Tot.call (F := fun k => F_s_argOf k c) (B := fun k => B_s_argOf k c) (fun k => rfl) h
abbrev R_Z59 : Type := Option ((Bool × Unit) × (Unit))
abbrev C_Z59 : Type := Int → Int → Int → R_Z59
def B_Z59 (k : Nat) (n0 low high : Int) : R_Z59 :=
  bif decide (low ≤ n0) then
    some ((decide (n0 ≤ high), ()), ())
  else
    some ((false, ()), ())
def F_Z59 : Nat → C_Z59
  | 0, _, _, _ => none
  | k + 1, n0, low, high => B_Z59 k n0 low high
theorem tot_Z59 {n0 low high : _} {Q : _ → Prop} (h : Tot (fun σ => B_Z59 (σ 0) n0 low high) Q) : Tot (fun σ => F_Z59 (σ 0) n0 low high) Q :=
  Tot.call (F := fun k => F_Z59 k n0 low high) (B := fun k => B_Z59 k n0 low high) (fun k => rfl) h
abbrev R_Z56 : Type := Option ((Bool × Unit) × (Unit))
abbrev C_Z56 : Type := Int → Int → R_Z56
def B_Z56 (k : Nat) (c_s_argOf : C_s_argOf) (c_Z59 : C_Z59) (o_0 o_1 : Int) : R_Z56 :=
  (c_s_argOf o_0).bind fun r6 =>
  (c_Z59 o_0 0 19).bind fun r9 =>
  bif r9.1.1 then
    bif decide (r6.1.1 < 0) then
      bif (o_1 == 0) then
        some ((true, ()), ())
      else
        bif decide (r6.1.1 ≥ 0) then
          (c_Z59 o_1 0 r6.1.1).bind fun r25 =>
          some ((r25.1.1, ()), ())
        else
          some ((false, ()), ())
    else
      bif decide (r6.1.1 ≥ 0) then
        (c_Z59 o_1 0 r6.1.1).bind fun r25 =>
        some ((r25.1.1, ()), ())
      else
        some ((false, ()), ())
  else
    some ((false, ()), ())
def F_Z56 : Nat → C_Z56
  | 0, _, _ => none
  | k + 1, o_0, o_1 => B_Z56 k (F_s_argOf k) (F_Z59 k) o_0 o_1
theorem tot_Z56 {o_0 o_1 : _} {Q : _ → Prop} (h : Tot (fun σ => B_Z56 (σ 0) (F_s_argOf (σ 0)) (F_Z59 (σ 0)) o_0 o_1) Q) : Tot (fun σ => F_Z56 (σ 0) o_0 o_1) Q :=
  Tot.call (F := fun k => F_Z56 k o_0 o_1) (B := fun k => B_Z56 k (F_s_argOf k) (F_Z59 k) o_0 o_1) (fun k => rfl) h
abbrev R_Z39 : Type := Option ((Bool × Unit) × (Unit))
abbrev C_Z39 : Type := (List (Int × Int)) → R_Z39
abbrev T_Z39_L0 : Type := (List (Int × Int)) × Int × Unit
def B_Z39_L0b (k : Nat) (c_Z56 : C_Z56) (again0 : T_Z39_L0 → R_Z39) (ops : List (Int × Int)) (i : Int) : R_Z39 :=
  bif decide (i < (len ops)) then
    chk (inb i ops.length) <|
    (c_Z56 ((rdx ((0 : Int), (0 : Int)) ops i).1) ((rdx ((0 : Int), (0 : Int)) ops i).2)).bind fun r14 =>
    bif (!r14.1.1) then
      some ((false, ()), ())
    else
      again0 (ops, w64 (i + 1), ())
  else
    some ((decide ((len ops) ≤ 300), ()), ())
def B_Z39_L0 (k : Nat) (c_Z56 : C_Z56) (n : Nat) (t : T_Z39_L0) : R_Z39 :=
  lfix n (fun again t => B_Z39_L0b k c_Z56 again t.1 t.2.1) t
def B_Z39 (k : Nat) (c_Z56 : C_Z56) (ops : List (Int × Int)) : R_Z39 :=
  B_Z39_L0 k c_Z56 k (ops, 0, ())
def F_Z39 : Nat → C_Z39
  | 0, _ => none
  | k + 1, ops => B_Z39 k (F_Z56 k) ops
theorem tot_Z39 {ops : _} {Q : _ → Prop} (h : Tot (fun σ => B_Z39 (σ 0) (F_Z56 (σ 0)) ops) Q) : Tot (fun σ => F_Z39 (σ 0) ops) Q :=
  Tot.call (F := fun k => F_Z39 k ops) (B := fun k => B_Z39 k (F_Z56 k) ops) (fun k => rfl) h
abbrev A_Z39_L0 (Z : Type) : Type := (List (Int × Int)) → Int → Z
abbrev u_Z39_L0 {Z : Type} (f : A_Z39_L0 Z) (t : T_Z39_L0) : Z := f t.1 t.2.1
theorem loop_Z39_L0 {Q : A_Z39_L0 (((Bool × Unit) × (Unit)) → Prop)} (I : A_Z39_L0 Prop) (μ : A_Z39_L0 Nat)
    (step : ∀ a0 a1, I a0 a1 → ∀ again : (Nat → Nat) → T_Z39_L0 → R_Z39, Dep 2 again → (∀ y0 y1, I y0 y1 → μ y0 y1 < μ a0 a1 → Tot (fun σ => again σ (y0, y1, ())) (Q y0 y1)) →
      Tot (fun σ => B_Z39_L0b (σ 0) (F_Z56 (σ 0)) (again σ) a0 a1) (Q a0 a1)) :
    ∀ a0 a1, I a0 a1 → Tot (fun σ => B_Z39_L0 (σ 0) (F_Z56 (σ 0)) (σ 0) (a0, a1, ())) (Q a0 a1) := fun a0 a1 => Tot.loop0 (L := fun k => B_Z39_L0 k (F_Z56 k)) (B := fun k g => u_Z39_L0 (B_Z39_L0b k (F_Z56 k) g)) (Q := u_Z39_L0 Q) (fun _ _ _ => rfl) (u_Z39_L0 I) (u_Z39_L0 μ)
    (fun t ht again hag h => step t.1 t.2.1 ht again hag fun y0 y1 => h (y0, y1, ())) (a0, a1, ())
abbrev R_Z30 : Type := Option (((List Int × List Bool × List Int × List Int × Bool × Unit) × Int × Unit) × (Unit))
abbrev C_Z30 : Type := (List (Int × Int)) → R_Z30
abbrev T_Z30_L0 : Type := (List (Int × Int)) × (Unit × Unit × Unit × Unit × Bool × Unit) × (List Int × List Bool × List Int × List Int × Bool × Unit) × Int × Unit
def B_Z30_L0b (k : Nat) (c_Z33 : C_Z33) (c_Z19 : C_Z19) (c_Z18 : C_Z18) (again0 : T_Z30_L0 → R_Z30) (ops : List (Int × Int)) (t2_Done : Bool) (s_Kinds : List Int) (s_Full : List Bool) (s_Stack s_Memo : List Int) (s_Done : Bool) (i : Int) : R_Z30 :=
  bif decide (i < (len ops)) then
    (c_Z19 s_Kinds s_Full s_Stack s_Memo s_Done).bind fun r17 =>
    chk (inb i ops.length) <|
    (c_Z18 r17.1.1.1 r17.1.1.2.1 r17.1.1.2.2.1 r17.1.1.2.2.2.1 r17.1.1.2.2.2.2.1 ((rdx ((0 : Int), (0 : Int)) ops i).1) ((rdx ((0 : Int), (0 : Int)) ops i).2)).bind fun r22 =>
    bif (!r22.1.2.1) then
      some (((s_Kinds, s_Full, s_Stack, s_Memo, s_Done, ()), i, ()), ())
    else
      again0 (ops, ((), (), (), (), t2_Done, ()), (r22.1.1.1, r22.1.1.2.1, r22.1.1.2.2.1, r22.1.1.2.2.2.1, r22.1.1.2.2.2.2.1, ()), w64 (i + 1), ())
  else
    some (((s_Kinds, s_Full, s_Stack, s_Memo, s_Done, ()), len ops, ()), ())
def B_Z30_L0 (k : Nat) (c_Z33 : C_Z33) (c_Z19 : C_Z19) (c_Z18 : C_Z18) (n : Nat) (t : T_Z30_L0) : R_Z30 :=
  lfix n (fun again t => B_Z30_L0b k c_Z33 c_Z19 c_Z18 again t.1 t.2.1.2.2.2.2.1 t.2.2.1.1 t.2.2.1.2.1 t.2.2.1.2.2.1 t.2.2.1.2.2.2.1 t.2.2.1.2.2.2.2.1 t.2.2.2.1) t
def B_Z30 (k : Nat) (c_Z33 : C_Z33) (c_Z19 : C_Z19) (c_Z18 : C_Z18) (ops : List (Int × Int)) : R_Z30 :=
  (c_Z33).bind fun r8 =>
  B_Z30_L0 k c_Z33 c_Z19 c_Z18 k (ops, ((), (), (), (), false, ()), (r8.1.1.1, r8.1.1.2.1, r8.1.1.2.2.1, r8.1.1.2.2.2.1, r8.1.1.2.2.2.2.1, ()), 0, ())
def F_Z30 : Nat → C_Z30
  | 0, _ => none
  | k + 1, ops => B_Z30 k (F_Z33 k) (F_Z19 k) (F_Z18 k) ops
theorem tot_Z30 {ops : _} {Q : _ → Prop} (h : Tot (fun σ => B_Z30 (σ 0) (F_Z33 (σ 0)) (F_Z19 (σ 0)) (F_Z18 (σ 0)) ops) Q) : Tot (fun σ => F_Z30 (σ 0) ops) Q :=
  Tot.call (F := fun k => F_Z30 k ops) (B := fun k => B_Z30 k (F_Z33 k) (F_Z19 k) (F_Z18 k) ops) (fun k => rfl) h
abbrev A_Z30_L0 (Z : Type) : Type := (List (Int × Int)) → Bool → List Int → List Bool → List Int → List Int → Bool → Int → Z
abbrev u_Z30_L0 {Z : Type} (f : A_Z30_L0 Z) (t : T_Z30_L0) : Z := f t.1 t.2.1.2.2.2.2.1 t.2.2.1.1 t.2.2.1.2.1 t.2.2.1.2.2.1 t.2.2.1.2.2.2.1 t.2.2.1.2.2.2.2.1 t.2.2.2.1
theorem loop_Z30_L0 {Q : A_Z30_L0 ((((List Int × List Bool × List Int × List Int × Bool × Unit) × Int × Unit) × (Unit)) → Prop)} (I : A_Z30_L0 Prop) (μ : A_Z30_L0 Nat)
    (step : ∀ a0 a1 a2 a3 a4 a5 a6 a7, I a0 a1 a2 a3 a4 a5 a6 a7 → ∀ again : (Nat → Nat) → T_Z30_L0 → R_Z30, Dep 2 again → (∀ y0 y1 y2 y3 y4 y5 y6 y7, I y0 y1 y2 y3 y4 y5 y6 y7 → μ y0 y1 y2 y3 y4 y5 y6 y7 < μ a0 a1 a2 a3 a4 a5 a6 a7 → Tot (fun σ => again σ (y0, ((), (), (), (), y1, ()), (y2, y3, y4, y5, y6, ()), y7, ())) (Q y0 y1 y2 y3 y4 y5 y6 y7)) →
      Tot (fun σ => B_Z30_L0b (σ 0) (F_Z33 (σ 0)) (F_Z19 (σ 0)) (F_Z18 (σ 0)) (again σ) a0 a1 a2 a3 a4 a5 a6 a7) (Q a0 a1 a2 a3 a4 a5 a6 a7)) :
    ∀ a0 a1 a2 a3 a4 a5 a6 a7, I a0 a1 a2 a3 a4 a5 a6 a7 → Tot (fun σ => B_Z30_L0 (σ 0) (F_Z33 (σ 0)) (F_Z19 (σ 0)) (F_Z18 (σ 0)) (σ 0) (a0, ((), (), (), (), a1, ()), (a2, a3, a4, a5, a6, ()), a7, ())) (Q a0 a1 a2 a3 a4 a5 a6 a7) := fun a0 a1 a2 a3 a4 a5 a6 a7 => Tot.loop0 (L := fun k => B_Z30_L0 k (F_Z33 k) (F_Z19 k) (F_Z18 k)) (B := fun k g => u_Z30_L0 (B_Z30_L0b k (F_Z33 k) (F_Z19 k) (F_Z18 k) g)) (Q := u_Z30_L0 Q) (fun _ _ _ => rfl) (u_Z30_L0 I) (u_Z30_L0 μ)
    (fun t ht again hag h => step t.1 t.2.1.2.2.2.2.1 t.2.2.1.1 t.2.2.1.2.1 t.2.2.1.2.2.1 t.2.2.1.2.2.2.1 t.2.2.1.2.2.2.2.1 t.2.2.2.1 ht again hag fun y0 y1 y2 y3 y4 y5 y6 y7 => h (y0, ((), (), (), (), y1, ()), (y2, y3, y4, y5, y6, ()), y7, ())) (a0, ((), (), (), (), a1, ()), (a2, a3, a4, a5, a6, ()), a7, ())
abbrev R_s_EndOps : Type := Option (((List (Int × Int)) × Bool × Unit) × (Unit))
abbrev C_s_EndOps : Type := (List (Int × Int)) → R_s_EndOps
abbrev T_s_EndOps_L6 : Type := (List (Int × Int)) × Int × (List (Int × Int)) × Int × Int × Unit
abbrev T_s_EndOps_L4 : Type := (List (Int × Int)) × (List Int × List Bool × List Int × List Int × Bool × Unit) × Int × (List (Int × Int)) × Int × Int × Unit
abbrev T_s_EndOps_L2 : Type := (List (Int × Int)) × (List Int × List Bool × List Int × List Int × Bool × Unit) × Int × (List (Int × Int)) × Int × Int × Unit
abbrev T_s_EndOps_L1 : Type := (List (Int × Int)) × (List Int × List Bool × List Int × List Int × Bool × Unit) × Int × (List (Int × Int)) × Int × Int × Unit
def B_s_EndOps_J0 (k : Nat) (c_Z39 : C_Z39) (c_Z30 : C_Z30) (again1 : T_s_EndOps_L1 → R_s_EndOps) (ops : List (Int × Int)) (s_Kinds : List Int) (s_Full : List Bool) (s_Stack s_Memo : List Int) (s_Done : Bool) (n5 : Int) (out : List (Int × Int)) (marks i : Int) : R_s_EndOps :=
  again1 (ops, (s_Kinds, s_Full, s_Stack, s_Memo, s_Done, ()), n5, out, marks, w64 (i + 1), ())
def B_s_EndOps_J9 (k : Nat) (c_Z39 : C_Z39) (c_Z30 : C_Z30) (out : List (Int × Int)) (t109 : Bool) : R_s_EndOps :=
  bif t109 then
    some (([], false, ()), ())
  else
    some ((out, true, ()), ())
def B_s_EndOps_J8 (k : Nat) (c_Z39 : C_Z39) (c_Z30 : C_Z30) (out all : List (Int × Int)) : R_s_EndOps :=
  (c_Z30 all).bind fun r98 =>
  (c_Z39 all).bind fun r102 =>
  bif (!r102.1.1) then
    jn (fun t => B_s_EndOps_J9 k c_Z39 c_Z30 t.1 t.2.1) (out, true, ())
  else
    jn (fun t => B_s_EndOps_J9 k c_Z39 c_Z30 t.1 t.2.1) (out, decide (r98.1.2.1 < (len all)), ())
def B_s_EndOps_J7 (k : Nat) (c_Z39 : C_Z39) (c_Z30 : C_Z30) (ops : List (Int × Int)) (n5 : Int) (out : List (Int × Int)) : R_s_EndOps :=
  chk (room out.length ([(19, 0)]).length) <|
  chk (cutb 0 n5 ops.length) <|
  chk (room ([] : List (Int × Int)).length (sub ops 0 n5).length) <|
  chk (room (sub ops 0 n5).length (out ++ [(19, 0)]).length) <|
  jn (fun t => B_s_EndOps_J8 k c_Z39 c_Z30 t.1 t.2.1) ((out ++ [(19, 0)]), ((sub ops 0 n5) ++ (out ++ [(19, 0)])), ())
def B_s_EndOps_L6b (k : Nat) (c_Z39 : C_Z39) (c_Z30 : C_Z30) (again6 : T_s_EndOps_L6 → R_s_EndOps) (ops : List (Int × Int)) (n5 : Int) (out : List (Int × Int)) (rest10 i : Int) : R_s_EndOps :=
  bif decide (i < rest10) then
    chk (room out.length ([(6, 0)]).length) <|
    again6 (ops, n5, (out ++ [(6, 0)]), rest10, w64 (i + 1), ())
  else
    bif (rest10 == 0) then
      chk (room out.length ([(4, 0)]).length) <|
      jn (fun t => B_s_EndOps_J7 k c_Z39 c_Z30 t.1 t.2.1 t.2.2.1) (ops, n5, (out ++ [(4, 0)]), ())
    else
      jn (fun t => B_s_EndOps_J7 k c_Z39 c_Z30 t.1 t.2.1 t.2.2.1) (ops, n5, out, ())
def B_s_EndOps_L6 (k : Nat) (c_Z39 : C_Z39) (c_Z30 : C_Z30) (n : Nat) (t : T_s_EndOps_L6) : R_s_EndOps :=
  lfix n (fun again t => B_s_EndOps_L6b k c_Z39 c_Z30 again t.1 t.2.1 t.2.2.1 t.2.2.2.1 t.2.2.2.2.1) t
def B_s_EndOps_J5 (k : Nat) (c_Z39 : C_Z39) (c_Z30 : C_Z30) (ops : List (Int × Int)) (n5 : Int) (out : List (Int × Int)) (rest10 : Int) : R_s_EndOps :=
  B_s_EndOps_L6 k c_Z39 c_Z30 k (ops, n5, out, rest10, 1, ())
def B_s_EndOps_J3 (k : Nat) (c_Z39 : C_Z39) (c_Z30 : C_Z30) (again4 : T_s_EndOps_L4 → R_s_EndOps) (ops : List (Int × Int)) (s_Kinds : List Int) (s_Full : List Bool) (s_Stack s_Memo : List Int) (s_Done : Bool) (n5 : Int) (out : List (Int × Int)) (marks rest10 : Int) (t63 : Bool) : R_s_EndOps :=
  bif t63 then
    again4 (ops, (s_Kinds, s_Full, s_Stack, s_Memo, s_Done, ()), n5, out, marks, w64 (rest10 + 1), ())
  else
    bif decide (marks > 0) then
      jn (fun t => B_s_EndOps_J5 k c_Z39 c_Z30 t.1 t.2.1 t.2.2.1 t.2.2.2.1) (ops, n5, out, w64 (rest10 + 1), ())
    else
      jn (fun t => B_s_EndOps_J5 k c_Z39 c_Z30 t.1 t.2.1 t.2.2.1 t.2.2.2.1) (ops, n5, out, rest10, ())
def B_s_EndOps_L4b (k : Nat) (c_Z39 : C_Z39) (c_Z30 : C_Z30) (again4 : T_s_EndOps_L4 → R_s_EndOps) (ops : List (Int × Int)) (s_Kinds : List Int) (s_Full : List Bool) (s_Stack s_Memo : List Int) (s_Done : Bool) (n5 : Int) (out : List (Int × Int)) (marks rest10 : Int) : R_s_EndOps :=
  bif decide (rest10 < (len s_Stack)) then
    chk (inb rest10 s_Stack.length) <|
    chk (decide (rest10.toNat < s_Stack.length)) <|
    jn (fun t => B_s_EndOps_J3 k c_Z39 c_Z30 again4 t.1 t.2.1.1 t.2.1.2.1 t.2.1.2.2.1 t.2.1.2.2.2.1 t.2.1.2.2.2.2.1 t.2.2.1 t.2.2.2.1 t.2.2.2.2.1 t.2.2.2.2.2.1 t.2.2.2.2.2.2.1) (ops, (s_Kinds, s_Full, s_Stack, s_Memo, s_Done, ()), n5, out, marks, rest10, decide ((s_Stack.getD rest10.toNat (0 : Int)) ≥ 0), ())
  else
    jn (fun t => B_s_EndOps_J3 k c_Z39 c_Z30 again4 t.1 t.2.1.1 t.2.1.2.1 t.2.1.2.2.1 t.2.1.2.2.2.1 t.2.1.2.2.2.2.1 t.2.2.1 t.2.2.2.1 t.2.2.2.2.1 t.2.2.2.2.2.1 t.2.2.2.2.2.2.1) (ops, (s_Kinds, s_Full, s_Stack, s_Memo, s_Done, ()), n5, out, marks, rest10, false, ())
def B_s_EndOps_L4 (k : Nat) (c_Z39 : C_Z39) (c_Z30 : C_Z30) (n : Nat) (t : T_s_EndOps_L4) : R_s_EndOps :=
  lfix n (fun again t => B_s_EndOps_L4b k c_Z39 c_Z30 again t.1 t.2.1.1 t.2.1.2.1 t.2.1.2.2.1 t.2.1.2.2.2.1 t.2.1.2.2.2.2.1 t.2.2.1 t.2.2.2.1 t.2.2.2.2.1 t.2.2.2.2.2.1) t
def B_s_EndOps_L2b (k : Nat) (c_Z39 : C_Z39) (c_Z30 : C_Z30) (again2 : T_s_EndOps_L2 → R_s_EndOps) (ops : List (Int × Int)) (s_Kinds : List Int) (s_Full : List Bool) (s_Stack s_Memo : List Int) (s_Done : Bool) (n5 : Int) (out : List (Int × Int)) (marks i : Int) : R_s_EndOps :=
  bif decide (i < marks) then
    chk (room out.length ([(3, 0)]).length) <|
    again2 (ops, (s_Kinds, s_Full, s_Stack, s_Memo, s_Done, ()), n5, (out ++ [(3, 0)]), marks, w64 (i + 1), ())
  else
    B_s_EndOps_L4 k c_Z39 c_Z30 k (ops, (s_Kinds, s_Full, s_Stack, s_Memo, s_Done, ()), n5, out, marks, 0, ())
def B_s_EndOps_L2 (k : Nat) (c_Z39 : C_Z39) (c_Z30 : C_Z30) (n : Nat) (t : T_s_EndOps_L2) : R_s_EndOps :=
  lfix n (fun again t => B_s_EndOps_L2b k c_Z39 c_Z30 again t.1 t.2.1.1 t.2.1.2.1 t.2.1.2.2.1 t.2.1.2.2.2.1 t.2.1.2.2.2.2.1 t.2.2.1 t.2.2.2.1 t.2.2.2.2.1 t.2.2.2.2.2.1) t
def B_s_EndOps_L1b (k : Nat) (c_Z39 : C_Z39) (c_Z30 : C_Z30) (again1 : T_s_EndOps_L1 → R_s_EndOps) (ops : List (Int × Int)) (s_Kinds : List Int) (s_Full : List Bool) (s_Stack s_Memo : List Int) (s_Done : Bool) (n5 : Int) (out : List (Int × Int)) (marks i : Int) : R_s_EndOps :=
  bif decide (i < (len s_Stack)) then
    chk (inb i s_Stack.length) <|
    chk (decide (i.toNat < s_Stack.length)) <|
    bif decide ((s_Stack.getD i.toNat (0 : Int)) < 0) then
      jn (fun t => B_s_EndOps_J0 k c_Z39 c_Z30 again1 t.1 t.2.1.1 t.2.1.2.1 t.2.1.2.2.1 t.2.1.2.2.2.1 t.2.1.2.2.2.2.1 t.2.2.1 t.2.2.2.1 t.2.2.2.2.1 t.2.2.2.2.2.1) (ops, (s_Kinds, s_Full, s_Stack, s_Memo, s_Done, ()), n5, out, w64 (marks + 1), i, ())
    else
      jn (fun t => B_s_EndOps_J0 k c_Z39 c_Z30 again1 t.1 t.2.1.1 t.2.1.2.1 t.2.1.2.2.1 t.2.1.2.2.2.1 t.2.1.2.2.2.2.1 t.2.2.1 t.2.2.2.1 t.2.2.2.2.1 t.2.2.2.2.2.1) (ops, (s_Kinds, s_Full, s_Stack, s_Memo, s_Done, ()), n5, out, marks, i, ())
  else
    B_s_EndOps_L2 k c_Z39 c_Z30 k (ops, (s_Kinds, s_Full, s_Stack, s_Memo, s_Done, ()), n5, out, marks, 0, ())
def B_s_EndOps_L1 (k : Nat) (c_Z39 : C_Z39) (c_Z30 : C_Z30) (n : Nat) (t : T_s_EndOps_L1) : R_s_EndOps :=
  lfix n (fun again t => B_s_EndOps_L1b k c_Z39 c_Z30 again t.1 t.2.1.1 t.2.1.2.1 t.2.1.2.2.1 t.2.1.2.2.2.1 t.2.1.2.2.2.2.1 t.2.2.1 t.2.2.2.1 t.2.2.2.2.1 t.2.2.2.2.2.1) t
def B_s_EndOps (k : Nat) (c_Z39 : C_Z39) (c_Z30 : C_Z30) (ops : List (Int × Int)) : R_s_EndOps :=
  (c_Z39 ops).bind fun r16 =>
  bif (!r16.1.1) then
    some (([], false, ()), ())
  else
    (c_Z30 ops).bind fun r20 =>
    bif r20.1.1.2.2.2.2.1 then
      some (([], true, ()), ())
    else
      B_s_EndOps_L1 k c_Z39 c_Z30 k (ops, (r20.1.1.1, r20.1.1.2.1, r20.1.1.2.2.1, r20.1.1.2.2.2.1, r20.1.1.2.2.2.2.1, ()), r20.1.2.1, [], 0, 0, ())
def F_s_EndOps : Nat → C_s_EndOps
  | 0, _ => none
  | k + 1, ops => B_s_EndOps k (F_Z39 k) (F_Z30 k) ops
theorem tot_s_EndOps {ops : _} {Q : _ → Prop} (h : Tot (fun σ => B_s_EndOps (σ 0) (F_Z39 (σ 0)) (F_Z30 (σ 0)) ops) Q) : Tot (fun σ => F_s_EndOps (σ 0) ops) Q :=
  Tot.call (F := fun k => F_s_EndOps k ops) (B := fun k => B_s_EndOps k (F_Z39 k) (F_Z30 k) ops) (fun k => rfl) h
abbrev A_s_EndOps_L6 (Z : Type) : Type := (List (Int × Int)) → Int → (List (Int × Int)) → Int → Int → Z
abbrev u_s_EndOps_L6 {Z : Type} (f : A_s_EndOps_L6 Z) (t : T_s_EndOps_L6) : Z := f t.1 t.2.1 t.2.2.1 t.2.2.2.1 t.2.2.2.2.1
theorem loop_s_EndOps_L6 {Q : A_s_EndOps_L6 ((((List (Int × Int)) × Bool × Unit) × (Unit)) → Prop)} (I : A_s_EndOps_L6 Prop) (μ : A_s_EndOps_L6 Nat)
    (step : ∀ a0 a1 a2 a3 a4, I a0 a1 a2 a3 a4 → ∀ again : (Nat → Nat) → T_s_EndOps_L6 → R_s_EndOps, Dep 2 again → (∀ y0 y1 y2 y3 y4, I y0 y1 y2 y3 y4 → μ y0 y1 y2 y3 y4 < μ a0 a1 a2 a3 a4 → Tot (fun σ => again σ (y0, y1, y2, y3, y4, ())) (Q y0 y1 y2 y3 y4)) →
      Tot (fun σ => B_s_EndOps_L6b (σ 0) (F_Z39 (σ 0)) (F_Z30 (σ 0)) (again σ) a0 a1 a2 a3 a4) (Q a0 a1 a2 a3 a4)) :
    ∀ a0 a1 a2 a3 a4, I a0 a1 a2 a3 a4 → Tot (fun σ => B_s_EndOps_L6 (σ 0) (F_Z39 (σ 0)) (F_Z30 (σ 0)) (σ 0) (a0, a1, a2, a3, a4, ())) (Q a0 a1 a2 a3 a4) := fun a0 a1 a2 a3 a4 => Tot.loop0 (L := fun k => B_s_EndOps_L6 k (F_Z39 k) (F_Z30 k)) (B := fun k g => u_s_EndOps_L6 (B_s_EndOps_L6b k (F_Z39 k) (F_Z30 k) g)) (Q := u_s_EndOps_L6 Q) (fun _ _ _ => rfl) (u_s_EndOps_L6 I) (u_s_EndOps_L6 μ)
    (fun t ht again hag h => step t.1 t.2.1 t.2.2.1 t.2.2.2.1 t.2.2.2.2.1 ht again hag fun y0 y1 y2 y3 y4 => h (y0, y1, y2, y3, y4, ())) (a0, a1, a2, a3, a4, ())
abbrev A_s_EndOps_L4 (Z : Type) : Type := (List (Int × Int)) → List Int → List Bool → List Int → List Int → Bool → Int → (List (Int × Int)) → Int → Int → Z
abbrev u_s_EndOps_L4 {Z : Type} (f : A_s_EndOps_L4 Z) (t : T_s_EndOps_L4) : Z := f t.1 t.2.1.1 t.2.1.2.1 t.2.1.2.2.1 t.2.1.2.2.2.1 t.2.1.2.2.2.2.1 t.2.2.1 t.2.2.2.1 t.2.2.2.2.1 t.2.2.2.2.2.1
theorem loop_s_EndOps_L4 {Q : A_s_EndOps_L4 ((((List (Int × Int)) × Bool × Unit) × (Unit)) → Prop)} (I : A_s_EndOps_L4 Prop) (μ : A_s_EndOps_L4 Nat)
    (step : ∀ a0 a1 a2 a3 a4 a5 a6 a7 a8 a9, I a0 a1 a2 a3 a4 a5 a6 a7 a8 a9 → ∀ again : (Nat → Nat) → T_s_EndOps_L4 → R_s_EndOps, Dep 2 again → (∀ y0 y1 y2 y3 y4 y5 y6 y7 y8 y9, I y0 y1 y2 y3 y4 y5 y6 y7 y8 y9 → μ y0 y1 y2 y3 y4 y5 y6 y7 y8 y9 < μ a0 a1 a2 a3 a4 a5 a6 a7 a8 a9 → Tot (fun σ => again σ (y0, (y1, y2, y3, y4, y5, ()), y6, y7, y8, y9, ())) (Q y0 y1 y2 y3 y4 y5 y6 y7 y8 y9)) →
      Tot (fun σ => B_s_EndOps_L4b (σ 0) (F_Z39 (σ 0)) (F_Z30 (σ 0)) (again σ) a0 a1 a2 a3 a4 a5 a6 a7 a8 a9) (Q a0 a1 a2 a3 a4 a5 a6 a7 a8 a9)) :
    ∀ a0 a1 a2 a3 a4 a5 a6 a7 a8 a9, I a0 a1 a2 a3 a4 a5 a6 a7 a8 a9 → Tot (fun σ => B_s_EndOps_L4 (σ 0) (F_Z39 (σ 0)) (F_Z30 (σ 0)) (σ 0) (a0, (a1, a2, a3, a4, a5, ()), a6, a7, a8, a9, ())) (Q a0 a1 a2 a3 a4 a5 a6 a7 a8 a9) := fun a0 a1 a2 a3 a4 a5 a6 a7 a8 a9 => Tot.loop0 (L := fun k => B_s_EndOps_L4 k (F_Z39 k) (F_Z30 k)) (B := fun k g => u_s_EndOps_L4 (B_s_EndOps_L4b k (F_Z39 k) (F_Z30 k) g)) (Q := u_s_EndOps_L4 Q) (fun _ _ _ => rfl) (u_s_EndOps_L4 I) (u_s_EndOps_L4 μ)
    (fun t ht again hag h => step t.1 t.2.1.1 t.2.1.2.1 t.2.1.2.2.1 t.2.1.2.2.2.1 t.2.1.2.2.2.2.1 t.2.2.1 t.2.2.2.1 t.2.2.2.2.1 t.2.2.2.2.2.1 ht again hag fun y0 y1 y2 y3 y4 y5 y6 y7 y8 y9 => h (y0, (y1, y2, y3, y4, y5, ()), y6, y7, y8, y9, ())) (a0, (a1, a2, a3, a4, a5, ()), a6, a7, a8, a9, ())
abbrev A_s_EndOps_L2 (Z : Type) : Type := (List (Int × Int)) → List Int → List Bool → List Int → List Int → Bool → Int → (List (Int × Int)) → Int → Int → Z
abbrev u_s_EndOps_L2 {Z : Type} (f : A_s_EndOps_L2 Z) (t : T_s_EndOps_L2) : Z := f t.1 t.2.1.1 t.2.1.2.1 t.2.1.2.2.1 t.2.1.2.2.2.1 t.2.1.2.2.2.2.1 t.2.2.1 t.2.2.2.1 t.2.2.2.2.1 t.2.2.2.2.2.1
theorem loop_s_EndOps_L2 {Q : A_s_EndOps_L2 ((((List (Int × Int)) × Bool × Unit) × (Unit)) → Prop)} (I : A_s_EndOps_L2 Prop) (μ : A_s_EndOps_L2 Nat)
    (step : ∀ a0 a1 a2 a3 a4 a5 a6 a7 a8 a9, I a0 a1 a2 a3 a4 a5 a6 a7 a8 a9 → ∀ again : (Nat → Nat) → T_s_EndOps_L2 → R_s_EndOps, Dep 2 again → (∀ y0 y1 y2 y3 y4 y5 y6 y7 y8 y9, I y0 y1 y2 y3 y4 y5 y6 y7 y8 y9 → μ y0 y1 y2 y3 y4 y5 y6 y7 y8 y9 < μ a0 a1 a2 a3 a4 a5 a6 a7 a8 a9 → Tot (fun σ => again σ (y0, (y1, y2, y3, y4, y5, ()), y6, y7, y8, y9, ())) (Q y0 y1 y2 y3 y4 y5 y6 y7 y8 y9)) →
      Tot (fun σ => B_s_EndOps_L2b (σ 0) (F_Z39 (σ 0)) (F_Z30 (σ 0)) (again σ) a0 a1 a2 a3 a4 a5 a6 a7 a8 a9) (Q a0 a1 a2 a3 a4 a5 a6 a7 a8 a9)) :
    ∀ a0 a1 a2 a3 a4 a5 a6 a7 a8 a9, I a0 a1 a2 a3 a4 a5 a6 a7 a8 a9 → Tot (fun σ => B_s_EndOps_L2 (σ 0) (F_Z39 (σ 0)) (F_Z30 (σ 0)) (σ 0) (a0, (a1, a2, a3, a4, a5, ()), a6, a7, a8, a9, ())) (Q a0 a1 a2 a3 a4 a5 a6 a7 a8 a9) := fun a0 a1 a2 a3 a4 a5 a6 a7 a8 a9 => Tot.loop0 (L := fun k => B_s_EndOps_L2 k (F_Z39 k) (F_Z30 k)) (B := fun k g => u_s_EndOps_L2 (B_s_EndOps_L2b k (F_Z39 k) (F_Z30 k) g)) (Q := u_s_EndOps_L2 Q) (fun _ _ _ => rfl) (u_s_EndOps_L2 I) (u_s_EndOps_L2 μ)
    (fun t ht again hag h => step t.1 t.2.1.1 t.2.1.2.1 t.2.1.2.2.1 t.2.1.2.2.2.1 t.2.1.2.2.2.2.1 t.2.2.1 t.2.2.2.1 t.2.2.2.2.1 t.2.2.2.2.2.1 ht again hag fun y0 y1 y2 y3 y4 y5 y6 y7 y8 y9 => h (y0, (y1, y2, y3, y4, y5, ()), y6, y7, y8, y9, ())) (a0, (a1, a2, a3, a4, a5, ()), a6, a7, a8, a9, ())
abbrev A_s_EndOps_L1 (Z : Type) : Type := (List (Int × Int)) → List Int → List Bool → List Int → List Int → Bool → Int → (List (Int × Int)) → Int → Int → Z
abbrev u_s_EndOps_L1 {Z : Type} (f : A_s_EndOps_L1 Z) (t : T_s_EndOps_L1) : Z := f t.1 t.2.1.1 t.2.1.2.1 t.2.1.2.2.1 t.2.1.2.2.2.1 t.2.1.2.2.2.2.1 t.2.2.1 t.2.2.2.1 t.2.2.2.2.1 t.2.2.2.2.2.1
theorem loop_s_EndOps_L1 {Q : A_s_EndOps_L1 ((((List (Int × Int)) × Bool × Unit) × (Unit)) → Prop)} (I : A_s_EndOps_L1 Prop) (μ : A_s_EndOps_L1 Nat)
    (step : ∀ a0 a1 a2 a3 a4 a5 a6 a7 a8 a9, I a0 a1 a2 a3 a4 a5 a6 a7 a8 a9 → ∀ again : (Nat → Nat) → T_s_EndOps_L1 → R_s_EndOps, Dep 2 again → (∀ y0 y1 y2 y3 y4 y5 y6 y7 y8 y9, I y0 y1 y2 y3 y4 y5 y6 y7 y8 y9 → μ y0 y1 y2 y3 y4 y5 y6 y7 y8 y9 < μ a0 a1 a2 a3 a4 a5 a6 a7 a8 a9 → Tot (fun σ => again σ (y0, (y1, y2, y3, y4, y5, ()), y6, y7, y8, y9, ())) (Q y0 y1 y2 y3 y4 y5 y6 y7 y8 y9)) →
      Tot (fun σ => B_s_EndOps_L1b (σ 0) (F_Z39 (σ 0)) (F_Z30 (σ 0)) (again σ) a0 a1 a2 a3 a4 a5 a6 a7 a8 a9) (Q a0 a1 a2 a3 a4 a5 a6 a7 a8 a9)) :
    ∀ a0 a1 a2 a3 a4 a5 a6 a7 a8 a9, I a0 a1 a2 a3 a4 a5 a6 a7 a8 a9 → Tot (fun σ => B_s_EndOps_L1 (σ 0) (F_Z39 (σ 0)) (F_Z30 (σ 0)) (σ 0) (a0, (a1, a2, a3, a4, a5, ()), a6, a7, a8, a9, ())) (Q a0 a1 a2 a3 a4 a5 a6 a7 a8 a9) := fun a0 a1 a2 a3 a4 a5 a6 a7 a8 a9 => Tot.loop0 (L := fun k => B_s_EndOps_L1 k (F_Z39 k) (F_Z30 k)) (B := fun k g => u_s_EndOps_L1 (B_s_EndOps_L1b k (F_Z39 k) (F_Z30 k) g)) (Q := u_s_EndOps_L1 Q) (fun _ _ _ => rfl) (u_s_EndOps_L1 I) (u_s_EndOps_L1 μ)
    (fun t ht again hag h => step t.1 t.2.1.1 t.2.1.2.1 t.2.1.2.2.1 t.2.1.2.2.2.1 t.2.1.2.2.2.2.1 t.2.2.1 t.2.2.2.1 t.2.2.2.2.1 t.2.2.2.2.2.1 ht again hag fun y0 y1 y2 y3 y4 y5 y6 y7 y8 y9 => h (y0, (y1, y2, y3, y4, y5, ()), y6, y7, y8, y9, ())) (a0, (a1, a2, a3, a4, a5, ()), a6, a7, a8, a9, ())
abbrev R_s_CutOps : Type := Option (((List (Int × Int)) × Unit) × (Unit))
abbrev C_s_CutOps : Type := (List (Int × Int)) → R_s_CutOps
def B_s_CutOps (k : Nat) (c_Z39 : C_Z39) (c_Z30 : C_Z30) (ops : List (Int × Int)) : R_s_CutOps :=
  (c_Z39 ops).bind fun r6 =>
  bif (!r6.1.1) then
    some (([], ()), ())
  else
    (c_Z30 ops).bind fun r10 =>
    chk (cutb 0 r10.1.2.1 ops.length) <|
    chk (room ([] : List (Int × Int)).length (sub ops 0 r10.1.2.1).length) <|
    some (((sub ops 0 r10.1.2.1), ()), ())
def F_s_CutOps : Nat → C_s_CutOps
  | 0, _ => none
  | k + 1, ops => B_s_CutOps k (F_Z39 k) (F_Z30 k) ops
theorem tot_s_CutOps {ops : _} {Q : _ → Prop} (h : Tot (fun σ => B_s_CutOps (σ 0) (F_Z39 (σ 0)) (F_Z30 (σ 0)) ops) Q) : Tot (fun σ => F_s_CutOps (σ 0) ops) Q :=
  Tot.call (F := fun k => F_s_CutOps k ops) (B := fun k => B_s_CutOps k (F_Z39 k) (F_Z30 k) ops) (fun k => rfl) h
abbrev R_Z28 : Type := Option (((List (Int × Int)) × Unit) × ((List Int × Int × Unit) × Unit))
abbrev C_Z28 : Type := List Int → Int → R_Z28
abbrev T_Z28_L4 : Type := (List Int × Int × Unit) × (List (Int × Int)) × (List Int × List Bool × List Int × List Int × Bool × Unit) × Int × Unit
def B_Z28_J3 (k : Nat) (c_Z33 : C_Z33) (c_Z17 : C_Z17) (c_s_someOp : C_s_someOp) (c_Z13 : C_Z13) (c_Z19 : C_Z19) (c_Z18 : C_Z18) (c_s_EndOps : C_s_EndOps) (c_s_CutOps : C_s_CutOps) (again4 : T_Z28_L4 → R_Z28) (r_b : List Int) (r_p : Int) (out : List (Int × Int)) (s_Kinds : List Int) (s_Full : List Bool) (s_Stack s_Memo : List Int) (s_Done : Bool) (n5 : Int) : R_Z28 :=
  again4 ((r_b, r_p, ()), out, (s_Kinds, s_Full, s_Stack, s_Memo, s_Done, ()), w64 (n5 - 1), ())
def B_Z28_J2 (k : Nat) (c_Z33 : C_Z33) (c_Z17 : C_Z17) (c_s_someOp : C_s_someOp) (c_Z13 : C_Z13) (c_Z19 : C_Z19) (c_Z18 : C_Z18) (c_s_EndOps : C_s_EndOps) (c_s_CutOps : C_s_CutOps) (again4 : T_Z28_L4 → R_Z28) (r_b : List Int) (r_p : Int) (out : List (Int × Int)) (s_Kinds : List Int) (s_Full : List Bool) (s_Stack s_Memo : List Int) (s_Done : Bool) (n5 o_Code o_Arg : Int) (t44 : Bool) : R_Z28 :=
  bif t44 then
    chk (room out.length ([(o_Code, o_Arg)]).length) <|
    jn (fun t => B_Z28_J3 k c_Z33 c_Z17 c_s_someOp c_Z13 c_Z19 c_Z18 c_s_EndOps c_s_CutOps again4 t.1.1 t.1.2.1 t.2.1 t.2.2.1.1 t.2.2.1.2.1 t.2.2.1.2.2.1 t.2.2.1.2.2.2.1 t.2.2.1.2.2.2.2.1 t.2.2.2.1) ((r_b, r_p, ()), (out ++ [(o_Code, o_Arg)]), (s_Kinds, s_Full, s_Stack, s_Memo, s_Done, ()), n5, ())
  else
    jn (fun t => B_Z28_J3 k c_Z33 c_Z17 c_s_someOp c_Z13 c_Z19 c_Z18 c_s_EndOps c_s_CutOps again4 t.1.1 t.1.2.1 t.2.1 t.2.2.1.1 t.2.2.1.2.1 t.2.2.1.2.2.1 t.2.2.1.2.2.2.1 t.2.2.1.2.2.2.2.1 t.2.2.2.1) ((r_b, r_p, ()), out, (s_Kinds, s_Full, s_Stack, s_Memo, s_Done, ()), n5, ())
def B_Z28_J1 (k : Nat) (c_Z33 : C_Z33) (c_Z17 : C_Z17) (c_s_someOp : C_s_someOp) (c_Z13 : C_Z13) (c_Z19 : C_Z19) (c_Z18 : C_Z18) (c_s_EndOps : C_s_EndOps) (c_s_CutOps : C_s_CutOps) (again4 : T_Z28_L4 → R_Z28) (r_b : List Int) (r_p : Int) (out : List (Int × Int)) (s_Kinds : List Int) (s_Full : List Bool) (s_Stack s_Memo : List Int) (s_Done : Bool) (n5 o_Code o_Arg : Int) (ok : Bool) : R_Z28 :=
  bif ok then
    jn (fun t => B_Z28_J2 k c_Z33 c_Z17 c_s_someOp c_Z13 c_Z19 c_Z18 c_s_EndOps c_s_CutOps again4 t.1.1 t.1.2.1 t.2.1 t.2.2.1.1 t.2.2.1.2.1 t.2.2.1.2.2.1 t.2.2.1.2.2.2.1 t.2.2.1.2.2.2.2.1 t.2.2.2.1 t.2.2.2.2.1.1 t.2.2.2.2.1.2.1 t.2.2.2.2.2.1) ((r_b, r_p, ()), out, (s_Kinds, s_Full, s_Stack, s_Memo, s_Done, ()), n5, (o_Code, o_Arg, ()), true, ())
  else
    (c_Z13 r_b r_p 16).bind fun r42 =>
    jn (fun t => B_Z28_J2 k c_Z33 c_Z17 c_s_someOp c_Z13 c_Z19 c_Z18 c_s_EndOps c_s_CutOps again4 t.1.1 t.1.2.1 t.2.1 t.2.2.1.1 t.2.2.1.2.1 t.2.2.1.2.2.1 t.2.2.1.2.2.2.1 t.2.2.1.2.2.2.2.1 t.2.2.2.1 t.2.2.2.2.1.1 t.2.2.2.2.1.2.1 t.2.2.2.2.2.1) ((r42.2.1.1, r42.2.1.2.1, ()), out, (s_Kinds, s_Full, s_Stack, s_Memo, s_Done, ()), n5, (o_Code, o_Arg, ()), (r42.1.1 == 0), ())
def B_Z28_J0 (k : Nat) (c_Z33 : C_Z33) (c_Z17 : C_Z17) (c_s_someOp : C_s_someOp) (c_Z13 : C_Z13) (c_Z19 : C_Z19) (c_Z18 : C_Z18) (c_s_EndOps : C_s_EndOps) (c_s_CutOps : C_s_CutOps) (again4 : T_Z28_L4 → R_Z28) (r_b : List Int) (r_p : Int) (out : List (Int × Int)) (s_Kinds : List Int) (s_Full : List Bool) (s_Stack s_Memo : List Int) (s_Done : Bool) (n5 o_Code o_Arg : Int) (t29 : Bool) : R_Z28 :=
  bif t29 then
    jn (fun t => B_Z28_J3 k c_Z33 c_Z17 c_s_someOp c_Z13 c_Z19 c_Z18 c_s_EndOps c_s_CutOps again4 t.1.1 t.1.2.1 t.2.1 t.2.2.1.1 t.2.2.1.2.1 t.2.2.1.2.2.1 t.2.2.1.2.2.2.1 t.2.2.1.2.2.2.2.1 t.2.2.2.1) ((r_b, r_p, ()), out, (s_Kinds, s_Full, s_Stack, s_Memo, s_Done, ()), n5, ())
  else
    (c_Z19 s_Kinds s_Full s_Stack s_Memo s_Done).bind fun r32 =>
    (c_Z18 r32.1.1.1 r32.1.1.2.1 r32.1.1.2.2.1 r32.1.1.2.2.2.1 r32.1.1.2.2.2.2.1 o_Code o_Arg).bind fun r34 =>
    bif r34.1.2.1 then
      jn (fun t => B_Z28_J1 k c_Z33 c_Z17 c_s_someOp c_Z13 c_Z19 c_Z18 c_s_EndOps c_s_CutOps again4 t.1.1 t.1.2.1 t.2.1 t.2.2.1.1 t.2.2.1.2.1 t.2.2.1.2.2.1 t.2.2.1.2.2.2.1 t.2.2.1.2.2.2.2.1 t.2.2.2.1 t.2.2.2.2.1.1 t.2.2.2.2.1.2.1 t.2.2.2.2.2.1) ((r_b, r_p, ()), out, (r34.1.1.1, r34.1.1.2.1, r34.1.1.2.2.1, r34.1.1.2.2.2.1, r34.1.1.2.2.2.2.1, ()), n5, (o_Code, o_Arg, ()), r34.1.2.1, ())
    else
      jn (fun t => B_Z28_J1 k c_Z33 c_Z17 c_s_someOp c_Z13 c_Z19 c_Z18 c_s_EndOps c_s_CutOps again4 t.1.1 t.1.2.1 t.2.1 t.2.2.1.1 t.2.2.1.2.1 t.2.2.1.2.2.1 t.2.2.1.2.2.2.1 t.2.2.1.2.2.2.2.1 t.2.2.2.1 t.2.2.2.2.1.1 t.2.2.2.2.1.2.1 t.2.2.2.2.2.1) ((r_b, r_p, ()), out, (s_Kinds, s_Full, s_Stack, s_Memo, s_Done, ()), n5, (o_Code, o_Arg, ()), r34.1.2.1, ())
def B_Z28_L4b (k : Nat) (c_Z33 : C_Z33) (c_Z17 : C_Z17) (c_s_someOp : C_s_someOp) (c_Z13 : C_Z13) (c_Z19 : C_Z19) (c_Z18 : C_Z18) (c_s_EndOps : C_s_EndOps) (c_s_CutOps : C_s_CutOps) (again4 : T_Z28_L4 → R_Z28) (r_b : List Int) (r_p : Int) (out : List (Int × Int)) (s_Kinds : List Int) (s_Full : List Bool) (s_Stack s_Memo : List Int) (s_Done : Bool) (n5 : Int) : R_Z28 :=
  bif decide (n5 > 0) then
    (c_s_someOp r_b r_p).bind fun r21 =>
    bif (r21.1.1.1 == 19) then
      (c_Z13 r21.2.1.1 r21.2.1.2.1 3).bind fun r27 =>
      jn (fun t => B_Z28_J0 k c_Z33 c_Z17 c_s_someOp c_Z13 c_Z19 c_Z18 c_s_EndOps c_s_CutOps again4 t.1.1 t.1.2.1 t.2.1 t.2.2.1.1 t.2.2.1.2.1 t.2.2.1.2.2.1 t.2.2.1.2.2.2.1 t.2.2.1.2.2.2.2.1 t.2.2.2.1 t.2.2.2.2.1.1 t.2.2.2.2.1.2.1 t.2.2.2.2.2.1) ((r27.2.1.1, r27.2.1.2.1, ()), out, (s_Kinds, s_Full, s_Stack, s_Memo, s_Done, ()), n5, (r21.1.1.1, r21.1.1.2.1, ()), decide (r27.1.1 > 0), ())
    else
      jn (fun t => B_Z28_J0 k c_Z33 c_Z17 c_s_someOp c_Z13 c_Z19 c_Z18 c_s_EndOps c_s_CutOps again4 t.1.1 t.1.2.1 t.2.1 t.2.2.1.1 t.2.2.1.2.1 t.2.2.1.2.2.1 t.2.2.1.2.2.2.1 t.2.2.1.2.2.2.2.1 t.2.2.2.1 t.2.2.2.2.1.1 t.2.2.2.2.1.2.1 t.2.2.2.2.2.1) ((r21.2.1.1, r21.2.1.2.1, ()), out, (s_Kinds, s_Full, s_Stack, s_Memo, s_Done, ()), n5, (r21.1.1.1, r21.1.1.2.1, ()), false, ())
  else
    (c_Z13 r_b r_p 2).bind fun r50 =>
    bif (r50.1.1 == 0) then
      (c_s_EndOps out).bind fun r54 =>
      bif r54.1.2.1 then
        (c_s_CutOps out).bind fun r59 =>
        chk (room r59.1.1.length r54.1.1.length) <|
        some (((r59.1.1 ++ r54.1.1), ()), ((r50.2.1.1, r50.2.1.2.1, ()), ()))
      else
        some ((out, ()), ((r50.2.1.1, r50.2.1.2.1, ()), ()))
    else
      some ((out, ()), ((r50.2.1.1, r50.2.1.2.1, ()), ()))
def B_Z28_L4 (k : Nat) (c_Z33 : C_Z33) (c_Z17 : C_Z17) (c_s_someOp : C_s_someOp) (c_Z13 : C_Z13) (c_Z19 : C_Z19) (c_Z18 : C_Z18) (c_s_EndOps : C_s_EndOps) (c_s_CutOps : C_s_CutOps) (n : Nat) (t : T_Z28_L4) : R_Z28 :=
  lfix n (fun again t => B_Z28_L4b k c_Z33 c_Z17 c_s_someOp c_Z13 c_Z19 c_Z18 c_s_EndOps c_s_CutOps again t.1.1 t.1.2.1 t.2.1 t.2.2.1.1 t.2.2.1.2.1 t.2.2.1.2.2.1 t.2.2.1.2.2.2.1 t.2.2.1.2.2.2.2.1 t.2.2.2.1) t
def B_Z28 (k : Nat) (c_Z33 : C_Z33) (c_Z17 : C_Z17) (c_s_someOp : C_s_someOp) (c_Z13 : C_Z13) (c_Z19 : C_Z19) (c_Z18 : C_Z18) (c_s_EndOps : C_s_EndOps) (c_s_CutOps : C_s_CutOps) (r_b : List Int) (r_p : Int) : R_Z28 :=
  (c_Z33).bind fun r12 =>
  (c_Z17 r_b r_p ([12, 8, 20, 5, 30, 0])).bind fun r15 =>
  B_Z28_L4 k c_Z33 c_Z17 c_s_someOp c_Z13 c_Z19 c_Z18 c_s_EndOps c_s_CutOps k ((r15.2.1.1, r15.2.1.2.1, ()), [], (r12.1.1.1, r12.1.1.2.1, r12.1.1.2.2.1, r12.1.1.2.2.2.1, r12.1.1.2.2.2.2.1, ()), r15.1.1, ())
def F_Z28 : Nat → C_Z28
  | 0, _, _ => none
  | k + 1, r_b, r_p => B_Z28 k (F_Z33 k) (F_Z17 k) (F_s_someOp k) (F_Z13 k) (F_Z19 k) (F_Z18 k) (F_s_EndOps k) (F_s_CutOps k) r_b r_p
theorem tot_Z28 {r_b r_p : _} {Q : _ → Prop} (h : Tot (fun σ => B_Z28 (σ 0) (F_Z33 (σ 0)) (F_Z17 (σ 0)) (F_s_someOp (σ 0)) (F_Z13 (σ 0)) (F_Z19 (σ 0)) (F_Z18 (σ 0)) (F_s_EndOps (σ 0)) (F_s_CutOps (σ 0)) r_b r_p) Q) : Tot (fun σ => F_Z28 (σ 0) r_b r_p) Q :=
  Tot.call (F := fun k => F_Z28 k r_b r_p) (B := fun k => B_Z28 k (F_Z33 k) (F_Z17 k) (F_s_someOp k) (F_Z13 k) (F_Z19 k) (F_Z18 k) (F_s_EndOps k) (F_s_CutOps k) r_b r_p) (fun k => rfl) h
abbrev A_Z28_L4 (Z : Type) : Type := List Int → Int → (List (Int × Int)) → List Int → List Bool → List Int → List Int → Bool → Int → Z
abbrev u_Z28_L4 {Z : Type} (f : A_Z28_L4 Z) (t : T_Z28_L4) : Z := f t.1.1 t.1.2.1 t.2.1 t.2.2.1.1 t.2.2.1.2.1 t.2.2.1.2.2.1 t.2.2.1.2.2.2.1 t.2.2.1.2.2.2.2.1 t.2.2.2.1
theorem loop_Z28_L4 {Q : A_Z28_L4 ((((List (Int × Int)) × Unit) × ((List Int × Int × Unit) × Unit)) → Prop)} (I : A_Z28_L4 Prop) (μ : A_Z28_L4 Nat)
    (step : ∀ a0 a1 a2 a3 a4 a5 a6 a7 a8, I a0 a1 a2 a3 a4 a5 a6 a7 a8 → ∀ again : (Nat → Nat) → T_Z28_L4 → R_Z28, Dep 2 again → (∀ y0 y1 y2 y3 y4 y5 y6 y7 y8, I y0 y1 y2 y3 y4 y5 y6 y7 y8 → μ y0 y1 y2 y3 y4 y5 y6 y7 y8 < μ a0 a1 a2 a3 a4 a5 a6 a7 a8 → Tot (fun σ => again σ ((y0, y1, ()), y2, (y3, y4, y5, y6, y7, ()), y8, ())) (Q y0 y1 y2 y3 y4 y5 y6 y7 y8)) →
      Tot (fun σ => B_Z28_L4b (σ 0) (F_Z33 (σ 0)) (F_Z17 (σ 0)) (F_s_someOp (σ 0)) (F_Z13 (σ 0)) (F_Z19 (σ 0)) (F_Z18 (σ 0)) (F_s_EndOps (σ 0)) (F_s_CutOps (σ 0)) (again σ) a0 a1 a2 a3 a4 a5 a6 a7 a8) (Q a0 a1 a2 a3 a4 a5 a6 a7 a8)) :
    ∀ a0 a1 a2 a3 a4 a5 a6 a7 a8, I a0 a1 a2 a3 a4 a5 a6 a7 a8 → Tot (fun σ => B_Z28_L4 (σ 0) (F_Z33 (σ 0)) (F_Z17 (σ 0)) (F_s_someOp (σ 0)) (F_Z13 (σ 0)) (F_Z19 (σ 0)) (F_Z18 (σ 0)) (F_s_EndOps (σ 0)) (F_s_CutOps (σ 0)) (σ 0) ((a0, a1, ()), a2, (a3, a4, a5, a6, a7, ()), a8, ())) (Q a0 a1 a2 a3 a4 a5 a6 a7 a8) := fun a0 a1 a2 a3 a4 a5 a6 a7 a8 => Tot.loop0 (L := fun k => B_Z28_L4 k (F_Z33 k) (F_Z17 k) (F_s_someOp k) (F_Z13 k) (F_Z19 k) (F_Z18 k) (F_s_EndOps k) (F_s_CutOps k)) (B := fun k g => u_Z28_L4 (B_Z28_L4b k (F_Z33 k) (F_Z17 k) (F_s_someOp k) (F_Z13 k) (F_Z19 k) (F_Z18 k) (F_s_EndOps k) (F_s_CutOps k) g)) (Q := u_Z28_L4 Q) (fun _ _ _ => rfl) (u_Z28_L4 I) (u_Z28_L4 μ)
    (fun t ht again hag h => step t.1.1 t.1.2.1 t.2.1 t.2.2.1.1 t.2.2.1.2.1 t.2.2.1.2.2.1 t.2.2.1.2.2.2.1 t.2.2.1.2.2.2.2.1 t.2.2.2.1 ht again hag fun y0 y1 y2 y3 y4 y5 y6 y7 y8 => h ((y0, y1, ()), y2, (y3, y4, y5, y6, y7, ()), y8, ())) ((a0, a1, ()), a2, (a3, a4, a5, a6, a7, ()), a8, ())
abbrev R_Z42 : Type := Option (((Int × Int × Unit × Unit) × Unit) × ((List Int × Int × Unit) × Unit))
abbrev C_Z42 : Type := List Int → Int → R_Z42
def B_Z42_J1 (k : Nat) (c_Z13 : C_Z13) (c_Z17 : C_Z17) (r_b : List Int) (r_p t2_Kind t2_Value t4 : Int) (t22 : Bool) : R_Z42 :=
  bif t22 then
    some (((3, 0, (), ()), ()), ((r_b, r_p, ()), ()))
  else
    bif (t4 == 6) then
      some (((4, 0, (), ()), ()), ((r_b, r_p, ()), ()))
    else
      (c_Z13 r_b r_p 3).bind fun r30 =>
      some (((5, r30.1.1, (), ()), ()), ((r30.2.1.1, r30.2.1.2.1, ()), ()))
def B_Z42_J0 (k : Nat) (c_Z13 : C_Z13) (c_Z17 : C_Z17) (r_b : List Int) (r_p t2_Kind t2_Value t4 : Int) (t18 : Bool) : R_Z42 :=
  bif t18 then
    some (((2, 0, (), ()), ()), ((r_b, r_p, ()), ()))
  else
    bif (t4 == 4) then
      jn (fun t => B_Z42_J1 k c_Z13 c_Z17 t.1.1 t.1.2.1 t.2.1.1 t.2.1.2.1 t.2.2.1 t.2.2.2.1) ((r_b, r_p, ()), (t2_Kind, t2_Value, (), ()), t4, (t4 == 4), ())
    else
      jn (fun t => B_Z42_J1 k c_Z13 c_Z17 t.1.1 t.1.2.1 t.2.1.1 t.2.1.2.1 t.2.2.1 t.2.2.2.1) ((r_b, r_p, ()), (t2_Kind, t2_Value, (), ()), t4, (t4 == 5), ())
def B_Z42 (k : Nat) (c_Z13 : C_Z13) (c_Z17 : C_Z17) (r_b : List Int) (r_p : Int) : R_Z42 :=
  (c_Z13 r_b r_p 8).bind fun r4 =>
  bif (r4.1.1 == 0) then
    (c_Z13 r4.2.1.1 r4.2.1.2.1 250).bind fun r9 =>
    (c_Z17 r9.2.1.1 r9.2.1.2.1 ([5, 127, 128, 999, r9.1.1])).bind fun r11 =>
    some (((0, r11.1.1, (), ()), ()), ((r11.2.1.1, r11.2.1.2.1, ()), ()))
  else
    bif (r4.1.1 == 1) then
      (c_Z13 r4.2.1.1 r4.2.1.2.1 3).bind fun r16 =>
      some (((1, r16.1.1, (), ()), ()), ((r16.2.1.1, r16.2.1.2.1, ()), ()))
    else
      bif (r4.1.1 == 2) then
        jn (fun t => B_Z42_J0 k c_Z13 c_Z17 t.1.1 t.1.2.1 t.2.1.1 t.2.1.2.1 t.2.2.1 t.2.2.2.1) ((r4.2.1.1, r4.2.1.2.1, ()), (0, 0, (), ()), r4.1.1, (r4.1.1 == 2), ())
      else
        jn (fun t => B_Z42_J0 k c_Z13 c_Z17 t.1.1 t.1.2.1 t.2.1.1 t.2.1.2.1 t.2.2.1 t.2.2.2.1) ((r4.2.1.1, r4.2.1.2.1, ()), (0, 0, (), ()), r4.1.1, (r4.1.1 == 3), ())
def F_Z42 : Nat → C_Z42
  | 0, _, _ => none
  | k + 1, r_b, r_p => B_Z42 k (F_Z13 k) (F_Z17 k) r_b r_p
theorem tot_Z42 {r_b r_p : _} {Q : _ → Prop} (h : Tot (fun σ => B_Z42 (σ 0) (F_Z13 (σ 0)) (F_Z17 (σ 0)) r_b r_p) Q) : Tot (fun σ => F_Z42 (σ 0) r_b r_p) Q :=
  Tot.call (F := fun k => F_Z42 k r_b r_p) (B := fun k => B_Z42 k (F_Z13 k) (F_Z17 k) r_b r_p) (fun k => rfl) h
abbrev R_s_isKey : Type := Option ((Bool × Unit) × (Unit))
abbrev C_s_isKey : Type := Int → Int → R_s_isKey
def B_s_isKey (k : Nat) (n_0 n_1 : Int) : R_s_isKey :=
  bif (n_0 == 0) then
    some ((true, ()), ())
  else
    some (((n_0 == 1), ()), ())
def F_s_isKey : Nat → C_s_isKey
  | 0, _, _ => none
  | k + 1, n_0, n_1 => B_s_isKey k n_0 n_1
theorem tot_s_isKey {n_0 n_1 : _} {Q : _ → Prop} (h : Tot (fun σ => B_s_isKey (σ 0) n_0 n_1) Q) : Tot (fun σ => F_s_isKey (σ 0) n_0 n_1) Q :=
  Tot.call (F := fun k => F_s_isKey k n_0 n_1) (B := fun k => B_s_isKey k n_0 n_1) (fun k => rfl) h
abbrev R_s_allIn : Type := Option ((Bool × Unit) × (Unit))
abbrev C_s_allIn : Type := List Int → Int → Int → R_s_allIn
abbrev T_s_allIn_L0 : Type := List Int × Int × Int × Int × Unit
def B_s_allIn_L0b (k : Nat) (c_Z59 : C_Z59) (again0 : T_s_allIn_L0 → R_s_allIn) (list : List Int) (low high i : Int) : R_s_allIn :=
  bif decide (i < (len list)) then
    chk (inb i list.length) <|
    (c_Z59 (rdx (0 : Int) list i) low high).bind fun r20 =>
    bif (!r20.1.1) then
      some ((false, ()), ())
    else
      again0 (list, low, high, w64 (i + 1), ())
  else
    some ((true, ()), ())
def B_s_allIn_L0 (k : Nat) (c_Z59 : C_Z59) (n : Nat) (t : T_s_allIn_L0) : R_s_allIn :=
  lfix n (fun again t => B_s_allIn_L0b k c_Z59 again t.1 t.2.1 t.2.2.1 t.2.2.2.1) t
def B_s_allIn (k : Nat) (c_Z59 : C_Z59) (list : List Int) (low high : Int) : R_s_allIn :=
  B_s_allIn_L0 k c_Z59 k (list, low, high, 0, ())
def F_s_allIn : Nat → C_s_allIn
  | 0, _, _, _ => none
  | k + 1, list, low, high => B_s_allIn k (F_Z59 k) list low high
theorem tot_s_allIn {list low high : _} {Q : _ → Prop} (h : Tot (fun σ => B_s_allIn (σ 0) (F_Z59 (σ 0)) list low high) Q) : Tot (fun σ => F_s_allIn (σ 0) list low high) Q :=
  Tot.call (F := fun k => F_s_allIn k list low high) (B := fun k => B_s_allIn k (F_Z59 k) list low high) (fun k => rfl) h
abbrev A_s_allIn_L0 (Z : Type) : Type := List Int → Int → Int → Int → Z
abbrev u_s_allIn_L0 {Z : Type} (f : A_s_allIn_L0 Z) (t : T_s_allIn_L0) : Z := f t.1 t.2.1 t.2.2.1 t.2.2.2.1
theorem loop_s_allIn_L0 {Q : A_s_allIn_L0 (((Bool × Unit) × (Unit)) → Prop)} (I : A_s_allIn_L0 Prop) (μ : A_s_allIn_L0 Nat)
    (step : ∀ a0 a1 a2 a3, I a0 a1 a2 a3 → ∀ again : (Nat → Nat) → T_s_allIn_L0 → R_s_allIn, Dep 2 again → (∀ y0 y1 y2 y3, I y0 y1 y2 y3 → μ y0 y1 y2 y3 < μ a0 a1 a2 a3 → Tot (fun σ => again σ (y0, y1, y2, y3, ())) (Q y0 y1 y2 y3)) →
      Tot (fun σ => B_s_allIn_L0b (σ 0) (F_Z59 (σ 0)) (again σ) a0 a1 a2 a3) (Q a0 a1 a2 a3)) :
    ∀ a0 a1 a2 a3, I a0 a1 a2 a3 → Tot (fun σ => B_s_allIn_L0 (σ 0) (F_Z59 (σ 0)) (σ 0) (a0, a1, a2, a3, ())) (Q a0 a1 a2 a3) := fun a0 a1 a2 a3 => Tot.loop0 (L := fun k => B_s_allIn_L0 k (F_Z59 k)) (B := fun k g => u_s_allIn_L0 (B_s_allIn_L0b k (F_Z59 k) g)) (Q := u_s_allIn_L0 Q) (fun _ _ _ => rfl) (u_s_allIn_L0 I) (u_s_allIn_L0 μ)
    (fun t ht again hag h => step t.1 t.2.1 t.2.2.1 t.2.2.2.1 ht again hag fun y0 y1 y2 y3 => h (y0, y1, y2, y3, ())) (a0, a1, a2, a3, ())
abbrev R_Z54 : Type := Option ((Bool × Unit) × (Unit))
abbrev C_Z54 : Type := Int → Int → Int → Int → R_Z54
def B_Z54 (k : Nat) (a_0 a_1 b_0 b_1 : Int) : R_Z54 :=
  bif (a_0 == b_0) then
    some (((a_1 == b_1), ()), ())
  else
    some ((false, ()), ())
def F_Z54 : Nat → C_Z54
  | 0, _, _, _, _ => none
  | k + 1, a_0, a_1, b_0, b_1 => B_Z54 k a_0 a_1 b_0 b_1
theorem tot_Z54 {a_0 a_1 b_0 b_1 : _} {Q : _ → Prop} (h : Tot (fun σ => B_Z54 (σ 0) a_0 a_1 b_0 b_1) Q) : Tot (fun σ => F_Z54 (σ 0) a_0 a_1 b_0 b_1) Q :=
  Tot.call (F := fun k => F_Z54 k a_0 a_1 b_0 b_1) (B := fun k => B_Z54 k a_0 a_1 b_0 b_1) (fun k => rfl) h
abbrev R_Z32 : Type := Option ((Bool × Unit) × (Unit))
abbrev C_Z32 : Type := (List (Int × Int × List Int)) → Int → Int → Int → List Int → R_Z32
abbrev T_Z32_L0 : Type := ((List (Int × Int × List Int)) × Int × Unit) × (Int × Int × List Int × Unit) × Int × Int × Unit
abbrev T_Z32_L1 : Type := ((List (Int × Int × List Int)) × Int × Unit) × (Int × Int × List Int × Unit) × Int × Unit
def B_Z32_L0b (k : Nat) (c_s_isKey : C_s_isKey) (c_Z54 : C_Z54) (again1 : T_Z32_L1 → R_Z32) (again0 : T_Z32_L0 → R_Z32) (g_Nodes : List (Int × Int × List Int)) (g_Root n_Kind n_Value : Int) (n_Kids : List Int) (i k6 : Int) : R_Z32 :=
  bif decide (k6 < i) then
    chk (inb i n_Kids.length) <|
    chk (inb (rdx (0 : Int) n_Kids i) g_Nodes.length) <|
    chk (inb k6 n_Kids.length) <|
    chk (inb (rdx (0 : Int) n_Kids k6) g_Nodes.length) <|
    (c_Z54 ((rdx ((0 : Int), ((0 : Int), ([] : List Int))) g_Nodes (rdx (0 : Int) n_Kids i)).1) (((rdx ((0 : Int), ((0 : Int), ([] : List Int))) g_Nodes (rdx (0 : Int) n_Kids i)).2).1) ((rdx ((0 : Int), ((0 : Int), ([] : List Int))) g_Nodes (rdx (0 : Int) n_Kids k6)).1) (((rdx ((0 : Int), ((0 : Int), ([] : List Int))) g_Nodes (rdx (0 : Int) n_Kids k6)).2).1)).bind fun r48 =>
    bif r48.1.1 then
      some ((false, ()), ())
    else
      again0 ((g_Nodes, g_Root, ()), (n_Kind, n_Value, n_Kids, ()), i, w64 (k6 + 2), ())
  else
    again1 ((g_Nodes, g_Root, ()), (n_Kind, n_Value, n_Kids, ()), w64 (i + 2), ())
def B_Z32_L0 (k : Nat) (c_s_isKey : C_s_isKey) (c_Z54 : C_Z54) (again1 : T_Z32_L1 → R_Z32) (n : Nat) (t : T_Z32_L0) : R_Z32 :=
  lfix n (fun again t => B_Z32_L0b k c_s_isKey c_Z54 again1 again t.1.1 t.1.2.1 t.2.1.1 t.2.1.2.1 t.2.1.2.2.1 t.2.2.1 t.2.2.2.1) t
def B_Z32_L1b (k : Nat) (c_s_isKey : C_s_isKey) (c_Z54 : C_Z54) (again1 : T_Z32_L1 → R_Z32) (g_Nodes : List (Int × Int × List Int)) (g_Root n_Kind n_Value : Int) (n_Kids : List Int) (i : Int) : R_Z32 :=
  bif decide (i < (len n_Kids)) then
    chk (inb i n_Kids.length) <|
    chk (inb (rdx (0 : Int) n_Kids i) g_Nodes.length) <|
    (c_s_isKey ((rdx ((0 : Int), ((0 : Int), ([] : List Int))) g_Nodes (rdx (0 : Int) n_Kids i)).1) (((rdx ((0 : Int), ((0 : Int), ([] : List Int))) g_Nodes (rdx (0 : Int) n_Kids i)).2).1)).bind fun r23 =>
    bif (!r23.1.1) then
      some ((false, ()), ())
    else
      B_Z32_L0 k c_s_isKey c_Z54 again1 k ((g_Nodes, g_Root, ()), (n_Kind, n_Value, n_Kids, ()), i, 0, ())
  else
    some (((((len n_Kids).tmod 2) == 0), ()), ())
def B_Z32_L1 (k : Nat) (c_s_isKey : C_s_isKey) (c_Z54 : C_Z54) (n : Nat) (t : T_Z32_L1) : R_Z32 :=
  lfix n (fun again t => B_Z32_L1b k c_s_isKey c_Z54 again t.1.1 t.1.2.1 t.2.1.1 t.2.1.2.1 t.2.1.2.2.1 t.2.2.1) t
def B_Z32 (k : Nat) (c_s_isKey : C_s_isKey) (c_Z54 : C_Z54) (g_0 : List (Int × Int × List Int)) (g_1 n_0 n_1 : Int) (n_2 : List Int) : R_Z32 :=
  B_Z32_L1 k c_s_isKey c_Z54 k ((g_0, g_1, ()), (n_0, n_1, n_2, ()), 0, ())
def F_Z32 : Nat → C_Z32
  | 0, _, _, _, _, _ => none
  | k + 1, g_0, g_1, n_0, n_1, n_2 => B_Z32 k (F_s_isKey k) (F_Z54 k) g_0 g_1 n_0 n_1 n_2
theorem tot_Z32 {g_0 g_1 n_0 n_1 n_2 : _} {Q : _ → Prop} (h : Tot (fun σ => B_Z32 (σ 0) (F_s_isKey (σ 0)) (F_Z54 (σ 0)) g_0 g_1 n_0 n_1 n_2) Q) : Tot (fun σ => F_Z32 (σ 0) g_0 g_1 n_0 n_1 n_2) Q :=
  Tot.call (F := fun k => F_Z32 k g_0 g_1 n_0 n_1 n_2) (B := fun k => B_Z32 k (F_s_isKey k) (F_Z54 k) g_0 g_1 n_0 n_1 n_2) (fun k => rfl) h
abbrev A_Z32_L0 (Z : Type) : Type := (List (Int × Int × List Int)) → Int → Int → Int → List Int → Int → Int → Z
abbrev u_Z32_L0 {Z : Type} (f : A_Z32_L0 Z) (t : T_Z32_L0) : Z := f t.1.1 t.1.2.1 t.2.1.1 t.2.1.2.1 t.2.1.2.2.1 t.2.2.1 t.2.2.2.1
theorem loop_Z32_L0 {again1 : (Nat → Nat) → T_Z32_L1 → R_Z32} (hag1 : Dep 2 again1) {Q : A_Z32_L0 (((Bool × Unit) × (Unit)) → Prop)} (I : A_Z32_L0 Prop) (μ : A_Z32_L0 Nat)
    (step : ∀ a0 a1 a2 a3 a4 a5 a6, I a0 a1 a2 a3 a4 a5 a6 → ∀ again : (Nat → Nat) → T_Z32_L0 → R_Z32, Dep 3 again → (∀ y0 y1 y2 y3 y4 y5 y6, I y0 y1 y2 y3 y4 y5 y6 → μ y0 y1 y2 y3 y4 y5 y6 < μ a0 a1 a2 a3 a4 a5 a6 → Tot (fun σ => again σ ((y0, y1, ()), (y2, y3, y4, ()), y5, y6, ())) (Q y0 y1 y2 y3 y4 y5 y6)) →
      Tot (fun σ => B_Z32_L0b (σ 0) (F_s_isKey (σ 0)) (F_Z54 (σ 0)) (again1 σ) (again σ) a0 a1 a2 a3 a4 a5 a6) (Q a0 a1 a2 a3 a4 a5 a6)) :
    ∀ a0 a1 a2 a3 a4 a5 a6, I a0 a1 a2 a3 a4 a5 a6 → Tot (fun σ => B_Z32_L0 (σ 0) (F_s_isKey (σ 0)) (F_Z54 (σ 0)) (again1 σ) (σ 0) ((a0, a1, ()), (a2, a3, a4, ()), a5, a6, ())) (Q a0 a1 a2 a3 a4 a5 a6) := fun a0 a1 a2 a3 a4 a5 a6 => Tot.loop (L := fun σ n t => B_Z32_L0 (σ 0) (F_s_isKey (σ 0)) (F_Z54 (σ 0)) (again1 σ) n t) (B := fun σ g => u_Z32_L0 (B_Z32_L0b (σ 0) (F_s_isKey (σ 0)) (F_Z54 (σ 0)) (again1 σ) g)) (Q := u_Z32_L0 Q) 2 (by decide)
    (fun s s' h => by have e0 : s 0 = s' 0 := h 0 (by decide); simp only [e0, hag1 s s' h]) (fun s s' h => by have e0 : s 0 = s' 0 := h 0 (by decide); simp only [e0, hag1 s s' h]) (fun _ _ _ => rfl) (u_Z32_L0 I) (u_Z32_L0 μ)
    (fun t ht again hag h => step t.1.1 t.1.2.1 t.2.1.1 t.2.1.2.1 t.2.1.2.2.1 t.2.2.1 t.2.2.2.1 ht again hag fun y0 y1 y2 y3 y4 y5 y6 => h ((y0, y1, ()), (y2, y3, y4, ()), y5, y6, ())) ((a0, a1, ()), (a2, a3, a4, ()), a5, a6, ())
abbrev A_Z32_L1 (Z : Type) : Type := (List (Int × Int × List Int)) → Int → Int → Int → List Int → Int → Z
abbrev u_Z32_L1 {Z : Type} (f : A_Z32_L1 Z) (t : T_Z32_L1) : Z := f t.1.1 t.1.2.1 t.2.1.1 t.2.1.2.1 t.2.1.2.2.1 t.2.2.1
theorem loop_Z32_L1 {Q : A_Z32_L1 (((Bool × Unit) × (Unit)) → Prop)} (I : A_Z32_L1 Prop) (μ : A_Z32_L1 Nat)
    (step : ∀ a0 a1 a2 a3 a4 a5, I a0 a1 a2 a3 a4 a5 → ∀ again : (Nat → Nat) → T_Z32_L1 → R_Z32, Dep 2 again → (∀ y0 y1 y2 y3 y4 y5, I y0 y1 y2 y3 y4 y5 → μ y0 y1 y2 y3 y4 y5 < μ a0 a1 a2 a3 a4 a5 → Tot (fun σ => again σ ((y0, y1, ()), (y2, y3, y4, ()), y5, ())) (Q y0 y1 y2 y3 y4 y5)) →
      Tot (fun σ => B_Z32_L1b (σ 0) (F_s_isKey (σ 0)) (F_Z54 (σ 0)) (again σ) a0 a1 a2 a3 a4 a5) (Q a0 a1 a2 a3 a4 a5)) :
    ∀ a0 a1 a2 a3 a4 a5, I a0 a1 a2 a3 a4 a5 → Tot (fun σ => B_Z32_L1 (σ 0) (F_s_isKey (σ 0)) (F_Z54 (σ 0)) (σ 0) ((a0, a1, ()), (a2, a3, a4, ()), a5, ())) (Q a0 a1 a2 a3 a4 a5) := fun a0 a1 a2 a3 a4 a5 => Tot.loop0 (L := fun k => B_Z32_L1 k (F_s_isKey k) (F_Z54 k)) (B := fun k g => u_Z32_L1 (B_Z32_L1b k (F_s_isKey k) (F_Z54 k) g)) (Q := u_Z32_L1 Q) (fun _ _ _ => rfl) (u_Z32_L1 I) (u_Z32_L1 μ)
    (fun t ht again hag h => step t.1.1 t.1.2.1 t.2.1.1 t.2.1.2.1 t.2.1.2.2.1 t.2.2.1 ht again hag fun y0 y1 y2 y3 y4 y5 => h ((y0, y1, ()), (y2, y3, y4, ()), y5, ())) ((a0, a1, ()), (a2, a3, a4, ()), a5, ())
abbrev R_Z37 : Type := Option ((Bool × Unit) × (Unit))
abbrev C_Z37 : Type := (List (Int × Int × List Int)) → Int → Int → Int → List Int → R_Z37
def B_Z37_J1 (k : Nat) (c_s_allIn : C_s_allIn) (c_Z59 : C_Z59) (c_Z32 : C_Z32) (g_Nodes : List (Int × Int × List Int)) (g_Root n_Kind n_Value : Int) (n_Kids : List Int) (t20 : Int) (t43 : Bool) : R_Z37 :=
  bif t43 then
    some (((n_Value == 0), ()), ())
  else
    bif (t20 == 4) then
      bif (n_Value == 0) then
        (c_Z32 g_Nodes g_Root n_Kind n_Value n_Kids).bind fun r57 =>
        some ((r57.1.1, ()), ())
      else
        some ((false, ()), ())
    else
      bif (t20 == 5) then
        (c_Z59 n_Value 0 9).bind fun r63 =>
        bif r63.1.1 then
          some ((decide ((len n_Kids) ≤ 1), ()), ())
        else
          some ((false, ()), ())
      else
        some ((false, ()), ())
def B_Z37_J0 (k : Nat) (c_s_allIn : C_s_allIn) (c_Z59 : C_Z59) (c_Z32 : C_Z32) (g_Nodes : List (Int × Int × List Int)) (g_Root n_Kind n_Value : Int) (n_Kids : List Int) (t18 : Bool) : R_Z37 :=
  bif t18 then
    some ((false, ()), ())
  else
    bif (n_Kind == 0) then
      (c_Z59 n_Value 0 999).bind fun r25 =>
      bif r25.1.1 then
        some ((((len n_Kids) == 0), ()), ())
      else
        some ((false, ()), ())
    else
      bif (n_Kind == 1) then
        (c_Z59 n_Value 0 9).bind fun r36 =>
        bif r36.1.1 then
          some ((((len n_Kids) == 0), ()), ())
        else
          some ((false, ()), ())
      else
        bif (n_Kind == 2) then
          jn (fun t => B_Z37_J1 k c_s_allIn c_Z59 c_Z32 t.1.1 t.1.2.1 t.2.1.1 t.2.1.2.1 t.2.1.2.2.1 t.2.2.1 t.2.2.2.1) ((g_Nodes, g_Root, ()), (n_Kind, n_Value, n_Kids, ()), n_Kind, (n_Kind == 2), ())
        else
          jn (fun t => B_Z37_J1 k c_s_allIn c_Z59 c_Z32 t.1.1 t.1.2.1 t.2.1.1 t.2.1.2.1 t.2.1.2.2.1 t.2.2.1 t.2.2.2.1) ((g_Nodes, g_Root, ()), (n_Kind, n_Value, n_Kids, ()), n_Kind, (n_Kind == 3), ())
def B_Z37 (k : Nat) (c_s_allIn : C_s_allIn) (c_Z59 : C_Z59) (c_Z32 : C_Z32) (g_0 : List (Int × Int × List Int)) (g_1 n_0 n_1 : Int) (n_2 : List Int) : R_Z37 :=
  bif decide ((len n_2) > 6) then
    jn (fun t => B_Z37_J0 k c_s_allIn c_Z59 c_Z32 t.1.1 t.1.2.1 t.2.1.1 t.2.1.2.1 t.2.1.2.2.1 t.2.2.1) ((g_0, g_1, ()), (n_0, n_1, n_2, ()), true, ())
  else
    (c_s_allIn n_2 0 (w64 ((len g_0) - 1))).bind fun r16 =>
    jn (fun t => B_Z37_J0 k c_s_allIn c_Z59 c_Z32 t.1.1 t.1.2.1 t.2.1.1 t.2.1.2.1 t.2.1.2.2.1 t.2.2.1) ((g_0, g_1, ()), (n_0, n_1, n_2, ()), (!r16.1.1), ())
def F_Z37 : Nat → C_Z37
  | 0, _, _, _, _, _ => none
  | k + 1, g_0, g_1, n_0, n_1, n_2 => B_Z37 k (F_s_allIn k) (F_Z59 k) (F_Z32 k) g_0 g_1 n_0 n_1 n_2
theorem tot_Z37 {g_0 g_1 n_0 n_1 n_2 : _} {Q : _ → Prop} (h : Tot (fun σ => B_Z37 (σ 0) (F_s_allIn (σ 0)) (F_Z59 (σ 0)) (F_Z32 (σ 0)) g_0 g_1 n_0 n_1 n_2) Q) : Tot (fun σ => F_Z37 (σ 0) g_0 g_1 n_0 n_1 n_2) Q :=
  Tot.call (F := fun k => F_Z37 k g_0 g_1 n_0 n_1 n_2) (B := fun k => B_Z37 k (F_s_allIn k) (F_Z59 k) (F_Z32 k) g_0 g_1 n_0 n_1 n_2) (fun k => rfl) h
abbrev R_Z57 : Type := Option ((Int × Unit) × (Unit))
abbrev C_Z57 : Type := List Int → Int → R_Z57
abbrev T_Z57_L0 : Type := List Int × Int × Int × Unit
def B_Z57_L0b (k : Nat) (again0 : T_Z57_L0 → R_Z57) (list : List Int) (n1 i : Int) : R_Z57 :=
  bif decide (i < (len list)) then
    chk (inb i list.length) <|
    bif ((rdx (0 : Int) list i) == n1) then
      some ((i, ()), ())
    else
      again0 (list, n1, w64 (i + 1), ())
  else
    some (((-1), ()), ())
def B_Z57_L0 (k : Nat) (n : Nat) (t : T_Z57_L0) : R_Z57 :=
  lfix n (fun again t => B_Z57_L0b k again t.1 t.2.1 t.2.2.1) t
def B_Z57 (k : Nat) (list : List Int) (n1 : Int) : R_Z57 :=
  B_Z57_L0 k k (list, n1, 0, ())
def F_Z57 : Nat → C_Z57
  | 0, _, _ => none
  | k + 1, list, n1 => B_Z57 k list n1
theorem tot_Z57 {list n1 : _} {Q : _ → Prop} (h : Tot (fun σ => B_Z57 (σ 0) list n1) Q) : Tot (fun σ => F_Z57 (σ 0) list n1) Q :=
  Tot.call (F := fun k => F_Z57 k list n1) (B := fun k => B_Z57 k list n1) (fun k => rfl) h
abbrev A_Z57_L0 (Z : Type) : Type := List Int → Int → Int → Z
abbrev u_Z57_L0 {Z : Type} (f : A_Z57_L0 Z) (t : T_Z57_L0) : Z := f t.1 t.2.1 t.2.2.1
theorem loop_Z57_L0 {Q : A_Z57_L0 (((Int × Unit) × (Unit)) → Prop)} (I : A_Z57_L0 Prop) (μ : A_Z57_L0 Nat)
    (step : ∀ a0 a1 a2, I a0 a1 a2 → ∀ again : (Nat → Nat) → T_Z57_L0 → R_Z57, Dep 2 again → (∀ y0 y1 y2, I y0 y1 y2 → μ y0 y1 y2 < μ a0 a1 a2 → Tot (fun σ => again σ (y0, y1, y2, ())) (Q y0 y1 y2)) →
      Tot (fun σ => B_Z57_L0b (σ 0) (again σ) a0 a1 a2) (Q a0 a1 a2)) :
    ∀ a0 a1 a2, I a0 a1 a2 → Tot (fun σ => B_Z57_L0 (σ 0) (σ 0) (a0, a1, a2, ())) (Q a0 a1 a2) := fun a0 a1 a2 => Tot.loop0 (L := fun k => B_Z57_L0 k) (B := fun k g => u_Z57_L0 (B_Z57_L0b k g)) (Q := u_Z57_L0 Q) (fun _ _ _ => rfl) (u_Z57_L0 I) (u_Z57_L0 μ)
    (fun t ht again hag h => step t.1 t.2.1 t.2.2.1 ht again hag fun y0 y1 y2 => h (y0, y1, y2, ())) (a0, a1, a2, ())
abbrev R_Z23 : Type := Option ((List Int × Unit) × (Unit))
abbrev C_Z23 : Type := (List (Int × Int × List Int)) → Int → Int → R_Z23
abbrev T_Z23_L1 : Type := ((List (Int × Int × List Int)) × Int × Unit) × List Int × List Int × Int × Unit
def B_Z23_J0 (k : Nat) (c_Z41 : C_Z41) (c_Z57 : C_Z57) (again1 : T_Z23_L1 → R_Z23) (g_Nodes : List (Int × Int × List Int)) (g_Root : Int) (out list : List Int) (k7 : Int) : R_Z23 :=
  again1 ((g_Nodes, g_Root, ()), out, list, w64 (k7 + 1), ())
def B_Z23_L1b (k : Nat) (c_Z41 : C_Z41) (c_Z57 : C_Z57) (again1 : T_Z23_L1 → R_Z23) (g_Nodes : List (Int × Int × List Int)) (g_Root : Int) (out list : List Int) (k7 : Int) : R_Z23 :=
  bif decide (k7 < (len list)) then
    chk (inb k7 list.length) <|
    chk (decide (k7.toNat < list.length)) <|
    (c_Z57 out (list.getD k7.toNat (0 : Int))).bind fun r27 =>
    bif decide (r27.1.1 < 0) then
      chk (inb k7 list.length) <|
      chk (decide (k7.toNat < list.length)) <|
      chk (room out.length ([(list.getD k7.toNat (0 : Int))]).length) <|
      chk (inb k7 list.length) <|
      chk (decide (k7.toNat < list.length)) <|
      chk (inb (list.getD k7.toNat (0 : Int)) g_Nodes.length) <|
      let v45 : Bool := (((rdx ((0 : Int), ((0 : Int), ([] : List Int))) g_Nodes (list.getD k7.toNat (0 : Int))).1) == 2)
      bif v45 then
        chk (inb k7 list.length) <|
        chk (decide (k7.toNat < list.length)) <|
        chk (inb (list.getD k7.toNat (0 : Int)) g_Nodes.length) <|
        chk (room list.length (((rdx ((0 : Int), ((0 : Int), ([] : List Int))) g_Nodes (list.getD k7.toNat (0 : Int))).2).2).length) <|
        jn (fun t => B_Z23_J0 k c_Z41 c_Z57 again1 t.1.1 t.1.2.1 t.2.1 t.2.2.1 t.2.2.2.1) ((g_Nodes, g_Root, ()), (out ++ [(list.getD k7.toNat (0 : Int))]), (list ++ ((rdx ((0 : Int), ((0 : Int), ([] : List Int))) g_Nodes (list.getD k7.toNat (0 : Int))).2).2), k7, ())
      else
        jn (fun t => B_Z23_J0 k c_Z41 c_Z57 again1 t.1.1 t.1.2.1 t.2.1 t.2.2.1 t.2.2.2.1) ((g_Nodes, g_Root, ()), (out ++ [(list.getD k7.toNat (0 : Int))]), list, k7, ())
    else
      jn (fun t => B_Z23_J0 k c_Z41 c_Z57 again1 t.1.1 t.1.2.1 t.2.1 t.2.2.1 t.2.2.2.1) ((g_Nodes, g_Root, ()), out, list, k7, ())
  else
    some ((out, ()), ())
def B_Z23_L1 (k : Nat) (c_Z41 : C_Z41) (c_Z57 : C_Z57) (n : Nat) (t : T_Z23_L1) : R_Z23 :=
  lfix n (fun again t => B_Z23_L1b k c_Z41 c_Z57 again t.1.1 t.1.2.1 t.2.1 t.2.2.1 t.2.2.2.1) t
def B_Z23 (k : Nat) (c_Z41 : C_Z41) (c_Z57 : C_Z57) (g_0 : List (Int × Int × List Int)) (g_1 at1 : Int) : R_Z23 :=
  chk (inb at1 g_0.length) <|
  (c_Z41 (((rdx ((0 : Int), ((0 : Int), ([] : List Int))) g_0 at1).2).2)).bind fun r15 =>
  B_Z23_L1 k c_Z41 c_Z57 k ((g_0, g_1, ()), [], r15.1.1, 0, ())
def F_Z23 : Nat → C_Z23
  | 0, _, _, _ => none
  | k + 1, g_0, g_1, at1 => B_Z23 k (F_Z41 k) (F_Z57 k) g_0 g_1 at1
theorem tot_Z23 {g_0 g_1 at1 : _} {Q : _ → Prop} (h : Tot (fun σ => B_Z23 (σ 0) (F_Z41 (σ 0)) (F_Z57 (σ 0)) g_0 g_1 at1) Q) : Tot (fun σ => F_Z23 (σ 0) g_0 g_1 at1) Q :=
  Tot.call (F := fun k => F_Z23 k g_0 g_1 at1) (B := fun k => B_Z23 k (F_Z41 k) (F_Z57 k) g_0 g_1 at1) (fun k => rfl) h
abbrev A_Z23_L1 (Z : Type) : Type := (List (Int × Int × List Int)) → Int → List Int → List Int → Int → Z
abbrev u_Z23_L1 {Z : Type} (f : A_Z23_L1 Z) (t : T_Z23_L1) : Z := f t.1.1 t.1.2.1 t.2.1 t.2.2.1 t.2.2.2.1
theorem loop_Z23_L1 {Q : A_Z23_L1 (((List Int × Unit) × (Unit)) → Prop)} (I : A_Z23_L1 Prop) (μ : A_Z23_L1 Nat)
    (step : ∀ a0 a1 a2 a3 a4, I a0 a1 a2 a3 a4 → ∀ again : (Nat → Nat) → T_Z23_L1 → R_Z23, Dep 2 again → (∀ y0 y1 y2 y3 y4, I y0 y1 y2 y3 y4 → μ y0 y1 y2 y3 y4 < μ a0 a1 a2 a3 a4 → Tot (fun σ => again σ ((y0, y1, ()), y2, y3, y4, ())) (Q y0 y1 y2 y3 y4)) →
      Tot (fun σ => B_Z23_L1b (σ 0) (F_Z41 (σ 0)) (F_Z57 (σ 0)) (again σ) a0 a1 a2 a3 a4) (Q a0 a1 a2 a3 a4)) :
    ∀ a0 a1 a2 a3 a4, I a0 a1 a2 a3 a4 → Tot (fun σ => B_Z23_L1 (σ 0) (F_Z41 (σ 0)) (F_Z57 (σ 0)) (σ 0) ((a0, a1, ()), a2, a3, a4, ())) (Q a0 a1 a2 a3 a4) := fun a0 a1 a2 a3 a4 => Tot.loop0 (L := fun k => B_Z23_L1 k (F_Z41 k) (F_Z57 k)) (B := fun k g => u_Z23_L1 (B_Z23_L1b k (F_Z41 k) (F_Z57 k) g)) (Q := u_Z23_L1 Q) (fun _ _ _ => rfl) (u_Z23_L1 I) (u_Z23_L1 μ)
    (fun t ht again hag h => step t.1.1 t.1.2.1 t.2.1 t.2.2.1 t.2.2.2.1 ht again hag fun y0 y1 y2 y3 y4 => h ((y0, y1, ()), y2, y3, y4, ())) ((a0, a1, ()), a2, a3, a4, ())
abbrev R_Z20 : Type := Option ((Bool × Unit) × (Unit))
abbrev C_Z20 : Type := (List (Int × Int × List Int)) → Int → R_Z20
abbrev T_Z20_L3 : Type := ((List (Int × Int × List Int)) × Int × Unit) × Int × Unit
abbrev T_Z20_L1 : Type := ((List (Int × Int × List Int)) × Int × Unit) × Int × Unit
def B_Z20_J2 (k : Nat) (c_Z59 : C_Z59) (c_Z37 : C_Z37) (c_Z23 : C_Z23) (c_Z57 : C_Z57) (again3 : T_Z20_L3 → R_Z20) (g_Nodes : List (Int × Int × List Int)) (g_Root i : Int) (t56 : Bool) : R_Z20 :=
  bif t56 then
    some ((false, ()), ())
  else
    again3 ((g_Nodes, g_Root, ()), w64 (i + 1), ())
def B_Z20_L3b (k : Nat) (c_Z59 : C_Z59) (c_Z37 : C_Z37) (c_Z23 : C_Z23) (c_Z57 : C_Z57) (again3 : T_Z20_L3 → R_Z20) (g_Nodes : List (Int × Int × List Int)) (g_Root i : Int) : R_Z20 :=
  bif decide (i < (len g_Nodes)) then
    chk (inb i g_Nodes.length) <|
    bif (((rdx ((0 : Int), ((0 : Int), ([] : List Int))) g_Nodes i).1) == 2) then
      (c_Z23 g_Nodes g_Root i).bind fun r52 =>
      (c_Z57 r52.1.1 i).bind fun r54 =>
      jn (fun t => B_Z20_J2 k c_Z59 c_Z37 c_Z23 c_Z57 again3 t.1.1 t.1.2.1 t.2.1 t.2.2.1) ((g_Nodes, g_Root, ()), i, decide (r54.1.1 ≥ 0), ())
    else
      jn (fun t => B_Z20_J2 k c_Z59 c_Z37 c_Z23 c_Z57 again3 t.1.1 t.1.2.1 t.2.1 t.2.2.1) ((g_Nodes, g_Root, ()), i, false, ())
  else
    some ((true, ()), ())
def B_Z20_L3 (k : Nat) (c_Z59 : C_Z59) (c_Z37 : C_Z37) (c_Z23 : C_Z23) (c_Z57 : C_Z57) (n : Nat) (t : T_Z20_L3) : R_Z20 :=
  lfix n (fun again t => B_Z20_L3b k c_Z59 c_Z37 c_Z23 c_Z57 again t.1.1 t.1.2.1 t.2.1) t
def B_Z20_L1b (k : Nat) (c_Z59 : C_Z59) (c_Z37 : C_Z37) (c_Z23 : C_Z23) (c_Z57 : C_Z57) (again1 : T_Z20_L1 → R_Z20) (g_Nodes : List (Int × Int × List Int)) (g_Root i : Int) : R_Z20 :=
  bif decide (i < (len g_Nodes)) then
    chk (inb i g_Nodes.length) <|
    (c_Z37 g_Nodes g_Root ((rdx ((0 : Int), ((0 : Int), ([] : List Int))) g_Nodes i).1) (((rdx ((0 : Int), ((0 : Int), ([] : List Int))) g_Nodes i).2).1) (((rdx ((0 : Int), ((0 : Int), ([] : List Int))) g_Nodes i).2).2)).bind fun r33 =>
    bif (!r33.1.1) then
      some ((false, ()), ())
    else
      again1 ((g_Nodes, g_Root, ()), w64 (i + 1), ())
  else
    B_Z20_L3 k c_Z59 c_Z37 c_Z23 c_Z57 k ((g_Nodes, g_Root, ()), 0, ())
def B_Z20_L1 (k : Nat) (c_Z59 : C_Z59) (c_Z37 : C_Z37) (c_Z23 : C_Z23) (c_Z57 : C_Z57) (n : Nat) (t : T_Z20_L1) : R_Z20 :=
  lfix n (fun again t => B_Z20_L1b k c_Z59 c_Z37 c_Z23 c_Z57 again t.1.1 t.1.2.1 t.2.1) t
def B_Z20_J0 (k : Nat) (c_Z59 : C_Z59) (c_Z37 : C_Z37) (c_Z23 : C_Z23) (c_Z57 : C_Z57) (g_Nodes : List (Int × Int × List Int)) (g_Root : Int) (t19 : Bool) : R_Z20 :=
  bif t19 then
    some ((false, ()), ())
  else
    B_Z20_L1 k c_Z59 c_Z37 c_Z23 c_Z57 k ((g_Nodes, g_Root, ()), 0, ())
def B_Z20 (k : Nat) (c_Z59 : C_Z59) (c_Z37 : C_Z37) (c_Z23 : C_Z23) (c_Z57 : C_Z57) (g_0 : List (Int × Int × List Int)) (g_1 : Int) : R_Z20 :=
  (c_Z59 (len g_0) 1 12).bind fun r8 =>
  bif (!r8.1.1) then
    jn (fun t => B_Z20_J0 k c_Z59 c_Z37 c_Z23 c_Z57 t.1.1 t.1.2.1 t.2.1) ((g_0, g_1, ()), true, ())
  else
    (c_Z59 g_1 0 (w64 ((len g_0) - 1))).bind fun r17 =>
    jn (fun t => B_Z20_J0 k c_Z59 c_Z37 c_Z23 c_Z57 t.1.1 t.1.2.1 t.2.1) ((g_0, g_1, ()), (!r17.1.1), ())
def F_Z20 : Nat → C_Z20
  | 0, _, _ => none
  | k + 1, g_0, g_1 => B_Z20 k (F_Z59 k) (F_Z37 k) (F_Z23 k) (F_Z57 k) g_0 g_1
theorem tot_Z20 {g_0 g_1 : _} {Q : _ → Prop} (h : Tot (fun σ => B_Z20 (σ 0) (F_Z59 (σ 0)) (F_Z37 (σ 0)) (F_Z23 (σ 0)) (F_Z57 (σ 0)) g_0 g_1) Q) : Tot (fun σ => F_Z20 (σ 0) g_0 g_1) Q :=
  Tot.call (F := fun k => F_Z20 k g_0 g_1) (B := fun k => B_Z20 k (F_Z59 k) (F_Z37 k) (F_Z23 k) (F_Z57 k) g_0 g_1) (fun k => rfl) h
abbrev A_Z20_L3 (Z : Type) : Type := (List (Int × Int × List Int)) → Int → Int → Z
abbrev u_Z20_L3 {Z : Type} (f : A_Z20_L3 Z) (t : T_Z20_L3) : Z := f t.1.1 t.1.2.1 t.2.1
theorem loop_Z20_L3 {Q : A_Z20_L3 (((Bool × Unit) × (Unit)) → Prop)} (I : A_Z20_L3 Prop) (μ : A_Z20_L3 Nat)
    (step : ∀ a0 a1 a2, I a0 a1 a2 → ∀ again : (Nat → Nat) → T_Z20_L3 → R_Z20, Dep 2 again → (∀ y0 y1 y2, I y0 y1 y2 → μ y0 y1 y2 < μ a0 a1 a2 → Tot (fun σ => again σ ((y0, y1, ()), y2, ())) (Q y0 y1 y2)) →
      Tot (fun σ => B_Z20_L3b (σ 0) (F_Z59 (σ 0)) (F_Z37 (σ 0)) (F_Z23 (σ 0)) (F_Z57 (σ 0)) (again σ) a0 a1 a2) (Q a0 a1 a2)) :
    ∀ a0 a1 a2, I a0 a1 a2 → Tot (fun σ => B_Z20_L3 (σ 0) (F_Z59 (σ 0)) (F_Z37 (σ 0)) (F_Z23 (σ 0)) (F_Z57 (σ 0)) (σ 0) ((a0, a1, ()), a2, ())) (Q a0 a1 a2) := fun a0 a1 a2 => Tot.loop0 (L := fun k => B_Z20_L3 k (F_Z59 k) (F_Z37 k) (F_Z23 k) (F_Z57 k)) (B := fun k g => u_Z20_L3 (B_Z20_L3b k (F_Z59 k) (F_Z37 k) (F_Z23 k) (F_Z57 k) g)) (Q := u_Z20_L3 Q) (fun _ _ _ => rfl) (u_Z20_L3 I) (u_Z20_L3 μ)
    (fun t ht again hag h => step t.1.1 t.1.2.1 t.2.1 ht again hag fun y0 y1 y2 => h ((y0, y1, ()), y2, ())) ((a0, a1, ()), a2, ())
abbrev A_Z20_L1 (Z : Type) : Type := (List (Int × Int × List Int)) → Int → Int → Z
abbrev u_Z20_L1 {Z : Type} (f : A_Z20_L1 Z) (t : T_Z20_L1) : Z := f t.1.1 t.1.2.1 t.2.1
theorem loop_Z20_L1 {Q : A_Z20_L1 (((Bool × Unit) × (Unit)) → Prop)} (I : A_Z20_L1 Prop) (μ : A_Z20_L1 Nat)
    (step : ∀ a0 a1 a2, I a0 a1 a2 → ∀ again : (Nat → Nat) → T_Z20_L1 → R_Z20, Dep 2 again → (∀ y0 y1 y2, I y0 y1 y2 → μ y0 y1 y2 < μ a0 a1 a2 → Tot (fun σ => again σ ((y0, y1, ()), y2, ())) (Q y0 y1 y2)) →
      Tot (fun σ => B_Z20_L1b (σ 0) (F_Z59 (σ 0)) (F_Z37 (σ 0)) (F_Z23 (σ 0)) (F_Z57 (σ 0)) (again σ) a0 a1 a2) (Q a0 a1 a2)) :
    ∀ a0 a1 a2, I a0 a1 a2 → Tot (fun σ => B_Z20_L1 (σ 0) (F_Z59 (σ 0)) (F_Z37 (σ 0)) (F_Z23 (σ 0)) (F_Z57 (σ 0)) (σ 0) ((a0, a1, ()), a2, ())) (Q a0 a1 a2) := fun a0 a1 a2 => Tot.loop0 (L := fun k => B_Z20_L1 k (F_Z59 k) (F_Z37 k) (F_Z23 k) (F_Z57 k)) (B := fun k g => u_Z20_L1 (B_Z20_L1b k (F_Z59 k) (F_Z37 k) (F_Z23 k) (F_Z57 k) g)) (Q := u_Z20_L1 Q) (fun _ _ _ => rfl) (u_Z20_L1 I) (u_Z20_L1 μ)
    (fun t ht again hag h => step t.1.1 t.1.2.1 t.2.1 ht again hag fun y0 y1 y2 => h ((y0, y1, ()), y2, ())) ((a0, a1, ()), a2, ())
abbrev R_Z46 : Type := Option ((((List (Int × Int × Option (List Int))) × Int × Unit) × Unit) × ((List Int × Int × Unit) × Unit))
abbrev C_Z46 : Type := List Int → Int → (List (Int × Int × Option (List Int))) → Int → Int → R_Z46
abbrev T_Z46_L3 : Type := (List Int × Int × Unit) × Int × ((List (Int × Int × Option (List Int))) × Int × Unit) × (Unit × Int × Unit) × (Int × Int × List Int × Unit) × Int × Unit
def B_Z46_J2 (k : Nat) (c_Z17 : C_Z17) (c_Z13 : C_Z13) (c_s_isKey : C_s_isKey) (c_Z20 : C_Z20) (again3 : T_Z46_L3 → R_Z46) (r_b : List Int) (r_p at2 : Int) (g_Nodes : List (Int × Int × Option (List Int))) (g_Root t6_Root n_Kind n_Value : Int) (n_Kids : List Int) (k8 : Int) : R_Z46 :=
  again3 ((r_b, r_p, ()), at2, (g_Nodes, g_Root, ()), ((), t6_Root, ()), (n_Kind, n_Value, n_Kids, ()), w64 (k8 - 1), ())
def B_Z46_J1 (k : Nat) (c_Z17 : C_Z17) (c_Z13 : C_Z13) (c_s_isKey : C_s_isKey) (c_Z20 : C_Z20) (again3 : T_Z46_L3 → R_Z46) (r_b : List Int) (r_p at2 : Int) (g_Nodes : List (Int × Int × Option (List Int))) (g_Root t6_Root n_Kind n_Value : Int) (n_Kids : List Int) (k8 kid : Int) (t57 : Bool) : R_Z46 :=
  bif t57 then
    (c_Z13 r_b r_p (len g_Nodes)).bind fun r65 =>
    chk (room n_Kids.length ([kid, r65.1.1]).length) <|
    jn (fun t => B_Z46_J2 k c_Z17 c_Z13 c_s_isKey c_Z20 again3 t.1.1 t.1.2.1 t.2.1 t.2.2.1.1 t.2.2.1.2.1 t.2.2.2.1.2.1 t.2.2.2.2.1.1 t.2.2.2.2.1.2.1 t.2.2.2.2.1.2.2.1 t.2.2.2.2.2.1) ((r65.2.1.1, r65.2.1.2.1, ()), at2, (g_Nodes, g_Root, ()), ((), t6_Root, ()), (n_Kind, n_Value, (n_Kids ++ [kid, r65.1.1]), ()), k8, ())
  else
    jn (fun t => B_Z46_J2 k c_Z17 c_Z13 c_s_isKey c_Z20 again3 t.1.1 t.1.2.1 t.2.1 t.2.2.1.1 t.2.2.1.2.1 t.2.2.2.1.2.1 t.2.2.2.2.1.1 t.2.2.2.2.1.2.1 t.2.2.2.2.1.2.2.1 t.2.2.2.2.2.1) ((r_b, r_p, ()), at2, (g_Nodes, g_Root, ()), ((), t6_Root, ()), (n_Kind, n_Value, n_Kids, ()), k8, ())
def B_Z46_J0 (k : Nat) (c_Z17 : C_Z17) (c_Z13 : C_Z13) (c_s_isKey : C_s_isKey) (c_Z20 : C_Z20) (again3 : T_Z46_L3 → R_Z46) (r_b : List Int) (r_p at2 : Int) (g_Nodes : List (Int × Int × Option (List Int))) (g_Root t6_Root n_Kind n_Value : Int) (n_Kids : List Int) (k8 kid t29 : Int) (t30 : Bool) : R_Z46 :=
  bif t30 then
    chk (room n_Kids.length ([kid]).length) <|
    jn (fun t => B_Z46_J2 k c_Z17 c_Z13 c_s_isKey c_Z20 again3 t.1.1 t.1.2.1 t.2.1 t.2.2.1.1 t.2.2.1.2.1 t.2.2.2.1.2.1 t.2.2.2.2.1.1 t.2.2.2.2.1.2.1 t.2.2.2.2.1.2.2.1 t.2.2.2.2.2.1) ((r_b, r_p, ()), at2, (g_Nodes, g_Root, ()), ((), t6_Root, ()), (n_Kind, n_Value, (n_Kids ++ [kid]), ()), k8, ())
  else
    bif (t29 == 5) then
      jn (fun t => B_Z46_J2 k c_Z17 c_Z13 c_s_isKey c_Z20 again3 t.1.1 t.1.2.1 t.2.1 t.2.2.1.1 t.2.2.1.2.1 t.2.2.2.1.2.1 t.2.2.2.2.1.1 t.2.2.2.2.1.2.1 t.2.2.2.2.1.2.2.1 t.2.2.2.2.2.1) ((r_b, r_p, ()), at2, (g_Nodes, g_Root, ()), ((), t6_Root, ()), (n_Kind, n_Value, [kid], ()), k8, ())
    else
      bif (t29 == 4) then
        bif decide ((len n_Kids) < 6) then
          chk (inb kid g_Nodes.length) <|
          chk (decide (kid.toNat < g_Nodes.length)) <|
          (c_s_isKey ((g_Nodes.getD kid.toNat ((0 : Int), ((0 : Int), (none : Option (List Int))))).1) (((g_Nodes.getD kid.toNat ((0 : Int), ((0 : Int), (none : Option (List Int))))).2).1)).bind fun r56 =>
          jn (fun t => B_Z46_J1 k c_Z17 c_Z13 c_s_isKey c_Z20 again3 t.1.1 t.1.2.1 t.2.1 t.2.2.1.1 t.2.2.1.2.1 t.2.2.2.1.2.1 t.2.2.2.2.1.1 t.2.2.2.2.1.2.1 t.2.2.2.2.1.2.2.1 t.2.2.2.2.2.1 t.2.2.2.2.2.2.1 t.2.2.2.2.2.2.2.1) ((r_b, r_p, ()), at2, (g_Nodes, g_Root, ()), ((), t6_Root, ()), (n_Kind, n_Value, n_Kids, ()), k8, kid, r56.1.1, ())
        else
          jn (fun t => B_Z46_J1 k c_Z17 c_Z13 c_s_isKey c_Z20 again3 t.1.1 t.1.2.1 t.2.1 t.2.2.1.1 t.2.2.1.2.1 t.2.2.2.1.2.1 t.2.2.2.2.1.1 t.2.2.2.2.1.2.1 t.2.2.2.2.1.2.2.1 t.2.2.2.2.2.1 t.2.2.2.2.2.2.1 t.2.2.2.2.2.2.2.1) ((r_b, r_p, ()), at2, (g_Nodes, g_Root, ()), ((), t6_Root, ()), (n_Kind, n_Value, n_Kids, ()), k8, kid, false, ())
      else
        jn (fun t => B_Z46_J2 k c_Z17 c_Z13 c_s_isKey c_Z20 again3 t.1.1 t.1.2.1 t.2.1 t.2.2.1.1 t.2.2.1.2.1 t.2.2.2.1.2.1 t.2.2.2.2.1.1 t.2.2.2.2.1.2.1 t.2.2.2.2.1.2.2.1 t.2.2.2.2.2.1) ((r_b, r_p, ()), at2, (g_Nodes, g_Root, ()), ((), t6_Root, ()), (n_Kind, n_Value, n_Kids, ()), k8, ())
def B_Z46_J4 (k : Nat) (c_Z17 : C_Z17) (c_Z13 : C_Z13) (c_s_isKey : C_s_isKey) (c_Z20 : C_Z20) (r_b : List Int) (r_p : Int) (g_Nodes : List (Int × Int × Option (List Int))) (g_Root t6_Root : Int) : R_Z46 :=
  some (((g_Nodes, g_Root, ()), ()), ((r_b, r_p, ()), ()))
def B_Z46_L3b (k : Nat) (c_Z17 : C_Z17) (c_Z13 : C_Z13) (c_s_isKey : C_s_isKey) (c_Z20 : C_Z20) (again3 : T_Z46_L3 → R_Z46) (r_b : List Int) (r_p at2 : Int) (g_Nodes : List (Int × Int × Option (List Int))) (g_Root t6_Root n_Kind n_Value : Int) (n_Kids : List Int) (k8 : Int) : R_Z46 :=
  bif decide (k8 > 0) then
    (c_Z13 r_b r_p (len g_Nodes)).bind fun r27 =>
    bif (n_Kind == 2) then
      jn (fun t => B_Z46_J0 k c_Z17 c_Z13 c_s_isKey c_Z20 again3 t.1.1 t.1.2.1 t.2.1 t.2.2.1.1 t.2.2.1.2.1 t.2.2.2.1.2.1 t.2.2.2.2.1.1 t.2.2.2.2.1.2.1 t.2.2.2.2.1.2.2.1 t.2.2.2.2.2.1 t.2.2.2.2.2.2.1 t.2.2.2.2.2.2.2.1 t.2.2.2.2.2.2.2.2.1) ((r27.2.1.1, r27.2.1.2.1, ()), at2, (g_Nodes, g_Root, ()), ((), t6_Root, ()), (n_Kind, n_Value, n_Kids, ()), k8, r27.1.1, n_Kind, (n_Kind == 2), ())
    else
      jn (fun t => B_Z46_J0 k c_Z17 c_Z13 c_s_isKey c_Z20 again3 t.1.1 t.1.2.1 t.2.1 t.2.2.1.1 t.2.2.1.2.1 t.2.2.2.1.2.1 t.2.2.2.2.1.1 t.2.2.2.2.1.2.1 t.2.2.2.2.1.2.2.1 t.2.2.2.2.2.1 t.2.2.2.2.2.2.1 t.2.2.2.2.2.2.2.1 t.2.2.2.2.2.2.2.2.1) ((r27.2.1.1, r27.2.1.2.1, ()), at2, (g_Nodes, g_Root, ()), ((), t6_Root, ()), (n_Kind, n_Value, n_Kids, ()), k8, r27.1.1, n_Kind, (n_Kind == 3), ())
  else
    chk (inb at2 g_Nodes.length) <|
    chk (decide (at2.toNat < g_Nodes.length)) <|
    chk (inb at2 g_Nodes.length) <|
    chk (decide (at2.toNat < g_Nodes.length)) <|
    (c_Z20 ((g_Nodes.set at2.toNat (n_Kind, (n_Value, (some n_Kids)))).map (fun p => (p.1, (p.2.1, p.2.2.getD [])))) g_Root).bind fun r80 =>
    bif (!r80.1.1) then
      chk (inb at2 (g_Nodes.set at2.toNat (n_Kind, (n_Value, (some n_Kids)))).length) <|
      chk (decide (at2.toNat < (g_Nodes.set at2.toNat (n_Kind, (n_Value, (some n_Kids)))).length)) <|
      chk ((((g_Nodes.getD at2.toNat ((0 : Int), ((0 : Int), (none : Option (List Int))))).2).2).isNone) <|
      let w1 : List (Int × Int × Option (List Int)) := ((g_Nodes.set at2.toNat (n_Kind, (n_Value, (some n_Kids)))).set at2.toNat ((g_Nodes.getD at2.toNat ((0 : Int), ((0 : Int), (none : Option (List Int))))).1, (((g_Nodes.getD at2.toNat ((0 : Int), ((0 : Int), (none : Option (List Int))))).2).1, (none : Option (List Int)))))
      jn (fun t => B_Z46_J4 k c_Z17 c_Z13 c_s_isKey c_Z20 t.1.1 t.1.2.1 t.2.1.1 t.2.1.2.1 t.2.2.1.2.1) ((r_b, r_p, ()), (w1, g_Root, ()), ((), t6_Root, ()), ())
    else
      jn (fun t => B_Z46_J4 k c_Z17 c_Z13 c_s_isKey c_Z20 t.1.1 t.1.2.1 t.2.1.1 t.2.1.2.1 t.2.2.1.2.1) ((r_b, r_p, ()), ((g_Nodes.set at2.toNat (n_Kind, (n_Value, (some n_Kids)))), g_Root, ()), ((), t6_Root, ()), ())
def B_Z46_L3 (k : Nat) (c_Z17 : C_Z17) (c_Z13 : C_Z13) (c_s_isKey : C_s_isKey) (c_Z20 : C_Z20) (n : Nat) (t : T_Z46_L3) : R_Z46 :=
  lfix n (fun again t => B_Z46_L3b k c_Z17 c_Z13 c_s_isKey c_Z20 again t.1.1 t.1.2.1 t.2.1 t.2.2.1.1 t.2.2.1.2.1 t.2.2.2.1.2.1 t.2.2.2.2.1.1 t.2.2.2.2.1.2.1 t.2.2.2.2.1.2.2.1 t.2.2.2.2.2.1) t
def B_Z46 (k : Nat) (c_Z17 : C_Z17) (c_Z13 : C_Z13) (c_s_isKey : C_s_isKey) (c_Z20 : C_Z20) (r_b : List Int) (r_p : Int) (g_0 : List (Int × Int × Option (List Int))) (g_1 at2 : Int) : R_Z46 :=
  chk (inb at2 g_0.length) <|
  chk (decide (at2.toNat < g_0.length)) <|
  (c_Z17 r_b r_p ([2, 1, 3, 0, 4])).bind fun r18 =>
  chk ((((g_0.getD at2.toNat ((0 : Int), ((0 : Int), (none : Option (List Int))))).2).2).isNone) <|
  B_Z46_L3 k c_Z17 c_Z13 c_s_isKey c_Z20 k ((r18.2.1.1, r18.2.1.2.1, ()), at2, (g_0, g_1, ()), ((), 0, ()), ((g_0.getD at2.toNat ((0 : Int), ((0 : Int), (none : Option (List Int))))).1, ((g_0.getD at2.toNat ((0 : Int), ((0 : Int), (none : Option (List Int))))).2).1, [], ()), r18.1.1, ())
def F_Z46 : Nat → C_Z46
  | 0, _, _, _, _, _ => none
  | k + 1, r_b, r_p, g_0, g_1, at2 => B_Z46 k (F_Z17 k) (F_Z13 k) (F_s_isKey k) (F_Z20 k) r_b r_p g_0 g_1 at2
theorem tot_Z46 {r_b r_p g_0 g_1 at2 : _} {Q : _ → Prop} (h : Tot (fun σ => B_Z46 (σ 0) (F_Z17 (σ 0)) (F_Z13 (σ 0)) (F_s_isKey (σ 0)) (F_Z20 (σ 0)) r_b r_p g_0 g_1 at2) Q) : Tot (fun σ => F_Z46 (σ 0) r_b r_p g_0 g_1 at2) Q :=
  Tot.call (F := fun k => F_Z46 k r_b r_p g_0 g_1 at2) (B := fun k => B_Z46 k (F_Z17 k) (F_Z13 k) (F_s_isKey k) (F_Z20 k) r_b r_p g_0 g_1 at2) (fun k => rfl) h
abbrev A_Z46_L3 (Z : Type) : Type := List Int → Int → Int → (List (Int × Int × Option (List Int))) → Int → Int → Int → Int → List Int → Int → Z
abbrev u_Z46_L3 {Z : Type} (f : A_Z46_L3 Z) (t : T_Z46_L3) : Z := f t.1.1 t.1.2.1 t.2.1 t.2.2.1.1 t.2.2.1.2.1 t.2.2.2.1.2.1 t.2.2.2.2.1.1 t.2.2.2.2.1.2.1 t.2.2.2.2.1.2.2.1 t.2.2.2.2.2.1
theorem loop_Z46_L3 {Q : A_Z46_L3 (((((List (Int × Int × Option (List Int))) × Int × Unit) × Unit) × ((List Int × Int × Unit) × Unit)) → Prop)} (I : A_Z46_L3 Prop) (μ : A_Z46_L3 Nat)
    (step : ∀ a0 a1 a2 a3 a4 a5 a6 a7 a8 a9, I a0 a1 a2 a3 a4 a5 a6 a7 a8 a9 → ∀ again : (Nat → Nat) → T_Z46_L3 → R_Z46, Dep 2 again → (∀ y0 y1 y2 y3 y4 y5 y6 y7 y8 y9, I y0 y1 y2 y3 y4 y5 y6 y7 y8 y9 → μ y0 y1 y2 y3 y4 y5 y6 y7 y8 y9 < μ a0 a1 a2 a3 a4 a5 a6 a7 a8 a9 → Tot (fun σ => again σ ((y0, y1, ()), y2, (y3, y4, ()), ((), y5, ()), (y6, y7, y8, ()), y9, ())) (Q y0 y1 y2 y3 y4 y5 y6 y7 y8 y9)) →
      Tot (fun σ => B_Z46_L3b (σ 0) (F_Z17 (σ 0)) (F_Z13 (σ 0)) (F_s_isKey (σ 0)) (F_Z20 (σ 0)) (again σ) a0 a1 a2 a3 a4 a5 a6 a7 a8 a9) (Q a0 a1 a2 a3 a4 a5 a6 a7 a8 a9)) :
    ∀ a0 a1 a2 a3 a4 a5 a6 a7 a8 a9, I a0 a1 a2 a3 a4 a5 a6 a7 a8 a9 → Tot (fun σ => B_Z46_L3 (σ 0) (F_Z17 (σ 0)) (F_Z13 (σ 0)) (F_s_isKey (σ 0)) (F_Z20 (σ 0)) (σ 0) ((a0, a1, ()), a2, (a3, a4, ()), ((), a5, ()), (a6, a7, a8, ()), a9, ())) (Q a0 a1 a2 a3 a4 a5 a6 a7 a8 a9) := fun a0 a1 a2 a3 a4 a5 a6 a7 a8 a9 => Tot.loop0 (L := fun k => B_Z46_L3 k (F_Z17 k) (F_Z13 k) (F_s_isKey k) (F_Z20 k)) (B := fun k g => u_Z46_L3 (B_Z46_L3b k (F_Z17 k) (F_Z13 k) (F_s_isKey k) (F_Z20 k) g)) (Q := u_Z46_L3 Q) (fun _ _ _ => rfl) (u_Z46_L3 I) (u_Z46_L3 μ)
    (fun t ht again hag h => step t.1.1 t.1.2.1 t.2.1 t.2.2.1.1 t.2.2.1.2.1 t.2.2.2.1.2.1 t.2.2.2.2.1.1 t.2.2.2.2.1.2.1 t.2.2.2.2.1.2.2.1 t.2.2.2.2.2.1 ht again hag fun y0 y1 y2 y3 y4 y5 y6 y7 y8 y9 => h ((y0, y1, ()), y2, (y3, y4, ()), ((), y5, ()), (y6, y7, y8, ()), y9, ())) ((a0, a1, ()), a2, (a3, a4, ()), ((), a5, ()), (a6, a7, a8, ()), a9, ())
abbrev R_Z31 : Type := Option ((((List (Int × Int × List Int)) × Int × Unit) × Unit) × ((List Int × Int × Unit) × Unit))
abbrev C_Z31 : Type := List Int → Int → R_Z31
abbrev T_Z31_L1 : Type := (List Int × Int × Unit) × (Unit × Int × Unit) × ((List (Int × Int × Option (List Int))) × Int × Unit) × Int × Unit
abbrev T_Z31_L0 : Type := (List Int × Int × Unit) × (Unit × Int × Unit) × ((List (Int × Int × Option (List Int))) × Int × Unit) × Int × Unit
def B_Z31_J2 (k : Nat) (c_Z17 : C_Z17) (c_Z42 : C_Z42) (c_Z46 : C_Z46) (c_Z13 : C_Z13) (r_b : List Int) (r_p t2_Root : Int) (g_Nodes : List (Int × Int × Option (List Int))) (g_Root : Int) : R_Z31 :=
  some ((((g_Nodes.map (fun p => (p.1, (p.2.1, p.2.2.getD [])))), g_Root, ()), ()), ((r_b, r_p, ()), ()))
def B_Z31_L1b (k : Nat) (c_Z17 : C_Z17) (c_Z42 : C_Z42) (c_Z46 : C_Z46) (c_Z13 : C_Z13) (again1 : T_Z31_L1 → R_Z31) (r_b : List Int) (r_p t2_Root : Int) (g_Nodes : List (Int × Int × Option (List Int))) (g_Root i : Int) : R_Z31 :=
  bif decide (i < (len g_Nodes)) then
    (c_Z46 r_b r_p g_Nodes g_Root i).bind fun r36 =>
    again1 ((r36.2.1.1, r36.2.1.2.1, ()), ((), t2_Root, ()), (r36.1.1.1, r36.1.1.2.1, ()), w64 (i + 1), ())
  else
    (c_Z13 r_b r_p 3).bind fun r38 =>
    bif (r38.1.1 == 0) then
      (c_Z13 r38.2.1.1 r38.2.1.2.1 (len g_Nodes)).bind fun r44 =>
      jn (fun t => B_Z31_J2 k c_Z17 c_Z42 c_Z46 c_Z13 t.1.1 t.1.2.1 t.2.1.2.1 t.2.2.1.1 t.2.2.1.2.1) ((r44.2.1.1, r44.2.1.2.1, ()), ((), t2_Root, ()), (g_Nodes, r44.1.1, ()), ())
    else
      jn (fun t => B_Z31_J2 k c_Z17 c_Z42 c_Z46 c_Z13 t.1.1 t.1.2.1 t.2.1.2.1 t.2.2.1.1 t.2.2.1.2.1) ((r38.2.1.1, r38.2.1.2.1, ()), ((), t2_Root, ()), (g_Nodes, g_Root, ()), ())
def B_Z31_L1 (k : Nat) (c_Z17 : C_Z17) (c_Z42 : C_Z42) (c_Z46 : C_Z46) (c_Z13 : C_Z13) (n : Nat) (t : T_Z31_L1) : R_Z31 :=
  lfix n (fun again t => B_Z31_L1b k c_Z17 c_Z42 c_Z46 c_Z13 again t.1.1 t.1.2.1 t.2.1.2.1 t.2.2.1.1 t.2.2.1.2.1 t.2.2.2.1) t
def B_Z31_L0b (k : Nat) (c_Z17 : C_Z17) (c_Z42 : C_Z42) (c_Z46 : C_Z46) (c_Z13 : C_Z13) (again0 : T_Z31_L0 → R_Z31) (r_b : List Int) (r_p t2_Root : Int) (g_Nodes : List (Int × Int × Option (List Int))) (g_Root n4 : Int) : R_Z31 :=
  bif decide (n4 > 0) then
    (c_Z42 r_b r_p).bind fun r17 =>
    chk (room g_Nodes.length ([(r17.1.1.1, (r17.1.1.2.1, (none : Option (List Int))))]).length) <|
    again0 ((r17.2.1.1, r17.2.1.2.1, ()), ((), t2_Root, ()), ((g_Nodes ++ [(r17.1.1.1, (r17.1.1.2.1, (none : Option (List Int))))]), g_Root, ()), w64 (n4 - 1), ())
  else
    B_Z31_L1 k c_Z17 c_Z42 c_Z46 c_Z13 k ((r_b, r_p, ()), ((), t2_Root, ()), (g_Nodes, w64 ((len g_Nodes) - 1), ()), 0, ())
def B_Z31_L0 (k : Nat) (c_Z17 : C_Z17) (c_Z42 : C_Z42) (c_Z46 : C_Z46) (c_Z13 : C_Z13) (n : Nat) (t : T_Z31_L0) : R_Z31 :=
  lfix n (fun again t => B_Z31_L0b k c_Z17 c_Z42 c_Z46 c_Z13 again t.1.1 t.1.2.1 t.2.1.2.1 t.2.2.1.1 t.2.2.1.2.1 t.2.2.2.1) t
def B_Z31 (k : Nat) (c_Z17 : C_Z17) (c_Z42 : C_Z42) (c_Z46 : C_Z46) (c_Z13 : C_Z13) (r_b : List Int) (r_p : Int) : R_Z31 :=
  (c_Z17 r_b r_p ([5, 6, 4, 7, 3, 8, 1, 2, 10])).bind fun r9 =>
  B_Z31_L0 k c_Z17 c_Z42 c_Z46 c_Z13 k ((r9.2.1.1, r9.2.1.2.1, ()), ((), 0, ()), ([], 0, ()), r9.1.1, ())
def F_Z31 : Nat → C_Z31
  | 0, _, _ => none
  | k + 1, r_b, r_p => B_Z31 k (F_Z17 k) (F_Z42 k) (F_Z46 k) (F_Z13 k) r_b r_p
theorem tot_Z31 {r_b r_p : _} {Q : _ → Prop} (h : Tot (fun σ => B_Z31 (σ 0) (F_Z17 (σ 0)) (F_Z42 (σ 0)) (F_Z46 (σ 0)) (F_Z13 (σ 0)) r_b r_p) Q) : Tot (fun σ => F_Z31 (σ 0) r_b r_p) Q :=
  Tot.call (F := fun k => F_Z31 k r_b r_p) (B := fun k => B_Z31 k (F_Z17 k) (F_Z42 k) (F_Z46 k) (F_Z13 k) r_b r_p) (fun k => rfl) h
abbrev A_Z31_L1 (Z : Type) : Type := List Int → Int → Int → (List (Int × Int × Option (List Int))) → Int → Int → Z
abbrev u_Z31_L1 {Z : Type} (f : A_Z31_L1 Z) (t : T_Z31_L1) : Z := f t.1.1 t.1.2.1 t.2.1.2.1 t.2.2.1.1 t.2.2.1.2.1 t.2.2.2.1
theorem loop_Z31_L1 {Q : A_Z31_L1 (((((List (Int × Int × List Int)) × Int × Unit) × Unit) × ((List Int × Int × Unit) × Unit)) → Prop)} (I : A_Z31_L1 Prop) (μ : A_Z31_L1 Nat)
    (step : ∀ a0 a1 a2 a3 a4 a5, I a0 a1 a2 a3 a4 a5 → ∀ again : (Nat → Nat) → T_Z31_L1 → R_Z31, Dep 2 again → (∀ y0 y1 y2 y3 y4 y5, I y0 y1 y2 y3 y4 y5 → μ y0 y1 y2 y3 y4 y5 < μ a0 a1 a2 a3 a4 a5 → Tot (fun σ => again σ ((y0, y1, ()), ((), y2, ()), (y3, y4, ()), y5, ())) (Q y0 y1 y2 y3 y4 y5)) →
      Tot (fun σ => B_Z31_L1b (σ 0) (F_Z17 (σ 0)) (F_Z42 (σ 0)) (F_Z46 (σ 0)) (F_Z13 (σ 0)) (again σ) a0 a1 a2 a3 a4 a5) (Q a0 a1 a2 a3 a4 a5)) :
    ∀ a0 a1 a2 a3 a4 a5, I a0 a1 a2 a3 a4 a5 → Tot (fun σ => B_Z31_L1 (σ 0) (F_Z17 (σ 0)) (F_Z42 (σ 0)) (F_Z46 (σ 0)) (F_Z13 (σ 0)) (σ 0) ((a0, a1, ()), ((), a2, ()), (a3, a4, ()), a5, ())) (Q a0 a1 a2 a3 a4 a5) := fun a0 a1 a2 a3 a4 a5 => Tot.loop0 (L := fun k => B_Z31_L1 k (F_Z17 k) (F_Z42 k) (F_Z46 k) (F_Z13 k)) (B := fun k g => u_Z31_L1 (B_Z31_L1b k (F_Z17 k) (F_Z42 k) (F_Z46 k) (F_Z13 k) g)) (Q := u_Z31_L1 Q) (fun _ _ _ => rfl) (u_Z31_L1 I) (u_Z31_L1 μ)
    (fun t ht again hag h => step t.1.1 t.1.2.1 t.2.1.2.1 t.2.2.1.1 t.2.2.1.2.1 t.2.2.2.1 ht again hag fun y0 y1 y2 y3 y4 y5 => h ((y0, y1, ()), ((), y2, ()), (y3, y4, ()), y5, ())) ((a0, a1, ()), ((), a2, ()), (a3, a4, ()), a5, ())
abbrev A_Z31_L0 (Z : Type) : Type := List Int → Int → Int → (List (Int × Int × Option (List Int))) → Int → Int → Z
abbrev u_Z31_L0 {Z : Type} (f : A_Z31_L0 Z) (t : T_Z31_L0) : Z := f t.1.1 t.1.2.1 t.2.1.2.1 t.2.2.1.1 t.2.2.1.2.1 t.2.2.2.1
theorem loop_Z31_L0 {Q : A_Z31_L0 (((((List (Int × Int × List Int)) × Int × Unit) × Unit) × ((List Int × Int × Unit) × Unit)) → Prop)} (I : A_Z31_L0 Prop) (μ : A_Z31_L0 Nat)
    (step : ∀ a0 a1 a2 a3 a4 a5, I a0 a1 a2 a3 a4 a5 → ∀ again : (Nat → Nat) → T_Z31_L0 → R_Z31, Dep 2 again → (∀ y0 y1 y2 y3 y4 y5, I y0 y1 y2 y3 y4 y5 → μ y0 y1 y2 y3 y4 y5 < μ a0 a1 a2 a3 a4 a5 → Tot (fun σ => again σ ((y0, y1, ()), ((), y2, ()), (y3, y4, ()), y5, ())) (Q y0 y1 y2 y3 y4 y5)) →
      Tot (fun σ => B_Z31_L0b (σ 0) (F_Z17 (σ 0)) (F_Z42 (σ 0)) (F_Z46 (σ 0)) (F_Z13 (σ 0)) (again σ) a0 a1 a2 a3 a4 a5) (Q a0 a1 a2 a3 a4 a5)) :
    ∀ a0 a1 a2 a3 a4 a5, I a0 a1 a2 a3 a4 a5 → Tot (fun σ => B_Z31_L0 (σ 0) (F_Z17 (σ 0)) (F_Z42 (σ 0)) (F_Z46 (σ 0)) (F_Z13 (σ 0)) (σ 0) ((a0, a1, ()), ((), a2, ()), (a3, a4, ()), a5, ())) (Q a0 a1 a2 a3 a4 a5) := fun a0 a1 a2 a3 a4 a5 => Tot.loop0 (L := fun k => B_Z31_L0 k (F_Z17 k) (F_Z42 k) (F_Z46 k) (F_Z13 k)) (B := fun k g => u_Z31_L0 (B_Z31_L0b k (F_Z17 k) (F_Z42 k) (F_Z46 k) (F_Z13 k) g)) (Q := u_Z31_L0 Q) (fun _ _ _ => rfl) (u_Z31_L0 I) (u_Z31_L0 μ)
    (fun t ht again hag h => step t.1.1 t.1.2.1 t.2.1.2.1 t.2.2.1.1 t.2.2.1.2.1 t.2.2.2.1 ht again hag fun y0 y1 y2 y3 y4 y5 => h ((y0, y1, ()), ((), y2, ()), (y3, y4, ()), y5, ())) ((a0, a1, ()), ((), a2, ()), (a3, a4, ()), a5, ())
abbrev R_Z27 : Type := Option ((List Int × Unit) × (Unit))
abbrev C_Z27 : Type := (List (Int × Int × List Int)) → Int → R_Z27
abbrev T_Z27_L0 : Type := ((List (Int × Int × List Int)) × Int × Unit) × List Int × Int × Unit
def B_Z27_L0b (k : Nat) (again0 : T_Z27_L0 → R_Z27) (g_Nodes : List (Int × Int × List Int)) (g_Root : Int) (out : List Int) (i : Int) : R_Z27 :=
  bif decide (i < (len g_Nodes)) then
    chk (room out.length ([(-1)]).length) <|
    again0 ((g_Nodes, g_Root, ()), (out ++ [(-1)]), w64 (i + 1), ())
  else
    some ((out, ()), ())
def B_Z27_L0 (k : Nat) (n : Nat) (t : T_Z27_L0) : R_Z27 :=
  lfix n (fun again t => B_Z27_L0b k again t.1.1 t.1.2.1 t.2.1 t.2.2.1) t
def B_Z27 (k : Nat) (g_0 : List (Int × Int × List Int)) (g_1 : Int) : R_Z27 :=
  B_Z27_L0 k k ((g_0, g_1, ()), [], 0, ())
def F_Z27 : Nat → C_Z27
  | 0, _, _ => none
  | k + 1, g_0, g_1 => B_Z27 k g_0 g_1
theorem tot_Z27 {g_0 g_1 : _} {Q : _ → Prop} (h : Tot (fun σ => B_Z27 (σ 0) g_0 g_1) Q) : Tot (fun σ => F_Z27 (σ 0) g_0 g_1) Q :=
  Tot.call (F := fun k => F_Z27 k g_0 g_1) (B := fun k => B_Z27 k g_0 g_1) (fun k => rfl) h
abbrev A_Z27_L0 (Z : Type) : Type := (List (Int × Int × List Int)) → Int → List Int → Int → Z
abbrev u_Z27_L0 {Z : Type} (f : A_Z27_L0 Z) (t : T_Z27_L0) : Z := f t.1.1 t.1.2.1 t.2.1 t.2.2.1
theorem loop_Z27_L0 {Q : A_Z27_L0 (((List Int × Unit) × (Unit)) → Prop)} (I : A_Z27_L0 Prop) (μ : A_Z27_L0 Nat)
    (step : ∀ a0 a1 a2 a3, I a0 a1 a2 a3 → ∀ again : (Nat → Nat) → T_Z27_L0 → R_Z27, Dep 2 again → (∀ y0 y1 y2 y3, I y0 y1 y2 y3 → μ y0 y1 y2 y3 < μ a0 a1 a2 a3 → Tot (fun σ => again σ ((y0, y1, ()), y2, y3, ())) (Q y0 y1 y2 y3)) →
      Tot (fun σ => B_Z27_L0b (σ 0) (again σ) a0 a1 a2 a3) (Q a0 a1 a2 a3)) :
    ∀ a0 a1 a2 a3, I a0 a1 a2 a3 → Tot (fun σ => B_Z27_L0 (σ 0) (σ 0) ((a0, a1, ()), a2, a3, ())) (Q a0 a1 a2 a3) := fun a0 a1 a2 a3 => Tot.loop0 (L := fun k => B_Z27_L0 k) (B := fun k g => u_Z27_L0 (B_Z27_L0b k g)) (Q := u_Z27_L0 Q) (fun _ _ _ => rfl) (u_Z27_L0 I) (u_Z27_L0 μ)
    (fun t ht again hag h => step t.1.1 t.1.2.1 t.2.1 t.2.2.1 ht again hag fun y0 y1 y2 y3 => h ((y0, y1, ()), y2, y3, ())) ((a0, a1, ()), a2, a3, ())
abbrev R_s_emit : Type := Option (((List (Int × Int)) × Unit) × (Unit))
abbrev C_s_emit : Type := (List (Int × Int)) → (List (Int × Int)) → R_s_emit
def B_s_emit (k : Nat) (ops more1 : List (Int × Int)) : R_s_emit :=
  chk (room ([] : List (Int × Int)).length ops.length) <|
  chk (room ops.length more1.length) <|
  some (((ops ++ more1), ()), ())
def F_s_emit : Nat → C_s_emit
  | 0, _, _ => none
  | k + 1, ops, more1 => B_s_emit k ops more1
theorem tot_s_emit {ops more1 : _} {Q : _ → Prop} (h : Tot (fun σ => B_s_emit (σ 0) ops more1) Q) : Tot (fun σ => F_s_emit (σ 0) ops more1) Q :=
  Tot.call (F := fun k => F_s_emit k ops more1) (B := fun k => B_s_emit k ops more1) (fun k => rfl) h
abbrev R_s_memoed : Type := Option (((List (Int × Int)) × List Int × Unit) × (Unit))
abbrev C_s_memoed : Type := (List (Int × Int)) → List Int → Int → R_s_memoed
abbrev T_s_memoed_L1 : Type := (List (Int × Int)) × List Int × Int × Int × Int × Unit
def B_s_memoed_J0 (k : Nat) (c_Z41 : C_Z41) (c_s_emit : C_s_emit) (again1 : T_s_memoed_L1 → R_s_memoed) (ops : List (Int × Int)) (memo : List Int) (at2 next i : Int) : R_s_memoed :=
  again1 (ops, memo, at2, next, w64 (i + 1), ())
def B_s_memoed_L1b (k : Nat) (c_Z41 : C_Z41) (c_s_emit : C_s_emit) (again1 : T_s_memoed_L1 → R_s_memoed) (ops : List (Int × Int)) (memo : List Int) (at2 next i : Int) : R_s_memoed :=
  bif decide (i < (len memo)) then
    chk (inb i memo.length) <|
    bif decide ((rdx (0 : Int) memo i) ≥ 0) then
      jn (fun t => B_s_memoed_J0 k c_Z41 c_s_emit again1 t.1 t.2.1 t.2.2.1 t.2.2.2.1 t.2.2.2.2.1) (ops, memo, at2, w64 (next + 1), i, ())
    else
      jn (fun t => B_s_memoed_J0 k c_Z41 c_s_emit again1 t.1 t.2.1 t.2.2.1 t.2.2.2.1 t.2.2.2.2.1) (ops, memo, at2, next, i, ())
  else
    (c_Z41 memo).bind fun r24 =>
    chk (inb at2 r24.1.1.length) <|
    chk (decide (at2.toNat < r24.1.1.length)) <|
    (c_s_emit ops ([(15, next)])).bind fun r33 =>
    some ((r33.1.1, (r24.1.1.set at2.toNat next), ()), ())
def B_s_memoed_L1 (k : Nat) (c_Z41 : C_Z41) (c_s_emit : C_s_emit) (n : Nat) (t : T_s_memoed_L1) : R_s_memoed :=
  lfix n (fun again t => B_s_memoed_L1b k c_Z41 c_s_emit again t.1 t.2.1 t.2.2.1 t.2.2.2.1 t.2.2.2.2.1) t
def B_s_memoed (k : Nat) (c_Z41 : C_Z41) (c_s_emit : C_s_emit) (ops : List (Int × Int)) (memo : List Int) (at2 : Int) : R_s_memoed :=
  B_s_memoed_L1 k c_Z41 c_s_emit k (ops, memo, at2, 0, 0, ())
def F_s_memoed : Nat → C_s_memoed
  | 0, _, _, _ => none
  | k + 1, ops, memo, at2 => B_s_memoed k (F_Z41 k) (F_s_emit k) ops memo at2
theorem tot_s_memoed {ops memo at2 : _} {Q : _ → Prop} (h : Tot (fun σ => B_s_memoed (σ 0) (F_Z41 (σ 0)) (F_s_emit (σ 0)) ops memo at2) Q) : Tot (fun σ => F_s_memoed (σ 0) ops memo at2) Q :=
  Tot.call (F := fun k => F_s_memoed k ops memo at2) (B := fun k => B_s_memoed k (F_Z41 k) (F_s_emit k) ops memo at2) (fun k => rfl) h
abbrev A_s_memoed_L1 (Z : Type) : Type := (List (Int × Int)) → List Int → Int → Int → Int → Z
abbrev u_s_memoed_L1 {Z : Type} (f : A_s_memoed_L1 Z) (t : T_s_memoed_L1) : Z := f t.1 t.2.1 t.2.2.1 t.2.2.2.1 t.2.2.2.2.1
theorem loop_s_memoed_L1 {Q : A_s_memoed_L1 ((((List (Int × Int)) × List Int × Unit) × (Unit)) → Prop)} (I : A_s_memoed_L1 Prop) (μ : A_s_memoed_L1 Nat)
    (step : ∀ a0 a1 a2 a3 a4, I a0 a1 a2 a3 a4 → ∀ again : (Nat → Nat) → T_s_memoed_L1 → R_s_memoed, Dep 2 again → (∀ y0 y1 y2 y3 y4, I y0 y1 y2 y3 y4 → μ y0 y1 y2 y3 y4 < μ a0 a1 a2 a3 a4 → Tot (fun σ => again σ (y0, y1, y2, y3, y4, ())) (Q y0 y1 y2 y3 y4)) →
      Tot (fun σ => B_s_memoed_L1b (σ 0) (F_Z41 (σ 0)) (F_s_emit (σ 0)) (again σ) a0 a1 a2 a3 a4) (Q a0 a1 a2 a3 a4)) :
    ∀ a0 a1 a2 a3 a4, I a0 a1 a2 a3 a4 → Tot (fun σ => B_s_memoed_L1 (σ 0) (F_Z41 (σ 0)) (F_s_emit (σ 0)) (σ 0) (a0, a1, a2, a3, a4, ())) (Q a0 a1 a2 a3 a4) := fun a0 a1 a2 a3 a4 => Tot.loop0 (L := fun k => B_s_memoed_L1 k (F_Z41 k) (F_s_emit k)) (B := fun k g => u_s_memoed_L1 (B_s_memoed_L1b k (F_Z41 k) (F_s_emit k) g)) (Q := u_s_memoed_L1 Q) (fun _ _ _ => rfl) (u_s_memoed_L1 I) (u_s_memoed_L1 μ)
    (fun t ht again hag h => step t.1 t.2.1 t.2.2.1 t.2.2.2.1 t.2.2.2.2.1 ht again hag fun y0 y1 y2 y3 y4 => h (y0, y1, y2, y3, y4, ())) (a0, a1, a2, a3, a4, ())
abbrev R_Z55 : Type := Option (((List (Int × Int)) × List Int × Unit) × (Unit))
abbrev C_Z55 : Type := (List (Int × Int × List Int)) → Int → Int → List Int → (List (Int × Int)) → List Int → R_Z55
abbrev R_Z26 : Type := Option (((List (Int × Int)) × List Int × Unit) × (Unit))
abbrev C_Z26 : Type := (List (Int × Int × List Int)) → Int → Int → Int → (List (Int × Int)) → List Int → R_Z26
abbrev R_s_fill : Type := Option (((List (Int × Int)) × List Int × Unit) × (Unit))
abbrev C_s_fill : Type := (List (Int × Int × List Int)) → Int → Int → List Int → Int → Int → Int → (List (Int × Int)) → List Int → R_s_fill
abbrev R_s_save : Type := Option (((List (Int × Int)) × List Int × Unit) × (Unit))
abbrev C_s_save : Type := (List (Int × Int × List Int)) → Int → Int → Int → (List (Int × Int)) → List Int → R_s_save
abbrev T_Z55_L0 : Type := Int × List Int × (List (Int × Int)) × List Int × ((List (Int × Int × List Int)) × Int × Unit) × Int × Unit
def B_Z55_L0b (k : Nat) (c_s_save : C_s_save) (again0 : T_Z55_L0 → R_Z55) (level : Int) (list : List Int) (ops : List (Int × Int)) (memo : List Int) (g_Nodes : List (Int × Int × List Int)) (g_Root i : Int) : R_Z55 :=
  bif decide (i < (len list)) then
    chk (inb i list.length) <|
    (c_s_save g_Nodes g_Root level (rdx (0 : Int) list i) ops memo).bind fun r28 =>
    again0 (level, list, r28.1.1, r28.1.2.1, (g_Nodes, g_Root, ()), w64 (i + 1), ())
  else
    some ((ops, memo, ()), ())
def B_Z55_L0 (k : Nat) (c_s_save : C_s_save) (n : Nat) (t : T_Z55_L0) : R_Z55 :=
  lfix n (fun again t => B_Z55_L0b k c_s_save again t.1 t.2.1 t.2.2.1 t.2.2.2.1 t.2.2.2.2.1.1 t.2.2.2.2.1.2.1 t.2.2.2.2.2.1) t
def B_Z55 (k : Nat) (c_s_save : C_s_save) (g_0 : List (Int × Int × List Int)) (g_1 level : Int) (list : List Int) (ops : List (Int × Int)) (memo : List Int) : R_Z55 :=
  B_Z55_L0 k c_s_save k (level, list, ops, memo, (g_0, g_1, ()), 0, ())
abbrev T_Z26_L3 : Type := Int × (List (Int × Int)) × List Int × List Int × Bool × Int × Unit
def B_Z26_J4 (k : Nat) (c_s_emit : C_s_emit) (c_s_memoed : C_s_memoed) (c_Z55 : C_Z55) (at2 : Int) (ops : List (Int × Int)) (memo : List Int) : R_Z26 :=
  chk (inb at2 memo.length) <|
  (c_s_emit ops ([(16, (rdx (0 : Int) memo at2))])).bind fun r87 =>
  some ((r87.1.1, memo, ()), ())
def B_Z26_J2 (k : Nat) (c_s_emit : C_s_emit) (c_s_memoed : C_s_memoed) (c_Z55 : C_Z55) (again3 : T_Z26_L3 → R_Z26) (at2 : Int) (ops : List (Int × Int)) (memo kids : List Int) (short : Bool) (i : Int) (t67 : Bool) : R_Z26 :=
  bif t67 then
    (c_s_emit ops ([(17, 0)])).bind fun r73 =>
    again3 (at2, r73.1.1, memo, kids, short, w64 (i + 1), ())
  else
    bif (!short) then
      (c_s_emit ops ([(18, 0)])).bind fun r79 =>
      jn (fun t => B_Z26_J4 k c_s_emit c_s_memoed c_Z55 t.1 t.2.1 t.2.2.1) (at2, r79.1.1, memo, ())
    else
      jn (fun t => B_Z26_J4 k c_s_emit c_s_memoed c_Z55 t.1 t.2.1 t.2.2.1) (at2, ops, memo, ())
def B_Z26_L3b (k : Nat) (c_s_emit : C_s_emit) (c_s_memoed : C_s_memoed) (c_Z55 : C_Z55) (again3 : T_Z26_L3 → R_Z26) (at2 : Int) (ops : List (Int × Int)) (memo kids : List Int) (short : Bool) (i : Int) : R_Z26 :=
  bif decide (i < (len kids)) then
    jn (fun t => B_Z26_J2 k c_s_emit c_s_memoed c_Z55 again3 t.1 t.2.1 t.2.2.1 t.2.2.2.1 t.2.2.2.2.1 t.2.2.2.2.2.1 t.2.2.2.2.2.2.1) (at2, ops, memo, kids, short, i, short, ())
  else
    jn (fun t => B_Z26_J2 k c_s_emit c_s_memoed c_Z55 again3 t.1 t.2.1 t.2.2.1 t.2.2.2.1 t.2.2.2.2.1 t.2.2.2.2.2.1 t.2.2.2.2.2.2.1) (at2, ops, memo, kids, short, i, false, ())
def B_Z26_L3 (k : Nat) (c_s_emit : C_s_emit) (c_s_memoed : C_s_memoed) (c_Z55 : C_Z55) (n : Nat) (t : T_Z26_L3) : R_Z26 :=
  lfix n (fun again t => B_Z26_L3b k c_s_emit c_s_memoed c_Z55 again t.1 t.2.1 t.2.2.1 t.2.2.2.1 t.2.2.2.2.1 t.2.2.2.2.2.1) t
def B_Z26_J5 (k : Nat) (c_s_emit : C_s_emit) (c_s_memoed : C_s_memoed) (c_Z55 : C_Z55) (at2 : Int) (ops : List (Int × Int)) (memo : List Int) (c : Int) : R_Z26 :=
  (c_s_emit ops ([(c, 0)])).bind fun r97 =>
  (c_s_memoed r97.1.1 memo at2).bind fun r100 =>
  some ((r100.1.1, r100.1.2.1, ()), ())
def B_Z26_J1 (k : Nat) (c_s_emit : C_s_emit) (c_s_memoed : C_s_memoed) (c_Z55 : C_Z55) (level at2 : Int) (ops : List (Int × Int)) (memo : List Int) (g_Nodes : List (Int × Int × List Int)) (g_Root : Int) (kids : List Int) (short : Bool) : R_Z26 :=
  (c_Z55 g_Nodes g_Root level kids ops memo).bind fun r53 =>
  chk (inb at2 r53.1.2.1.length) <|
  bif decide ((rdx (0 : Int) r53.1.2.1 at2) ≥ 0) then
    B_Z26_L3 k c_s_emit c_s_memoed c_Z55 k (at2, r53.1.1, r53.1.2.1, kids, short, 0, ())
  else
    bif short then
      jn (fun t => B_Z26_J5 k c_s_emit c_s_memoed c_Z55 t.1 t.2.1 t.2.2.1 t.2.2.2.1) (at2, r53.1.1, r53.1.2.1, w64 (4 + (len kids)), ())
    else
      jn (fun t => B_Z26_J5 k c_s_emit c_s_memoed c_Z55 t.1 t.2.1 t.2.2.1 t.2.2.2.1) (at2, r53.1.1, r53.1.2.1, 3, ())
def B_Z26_J0 (k : Nat) (c_s_emit : C_s_emit) (c_s_memoed : C_s_memoed) (c_Z55 : C_Z55) (level at2 : Int) (ops : List (Int × Int)) (memo : List Int) (g_Nodes : List (Int × Int × List Int)) (g_Root : Int) (kids : List Int) (short : Bool) : R_Z26 :=
  bif (!short) then
    (c_s_emit ops ([(2, 0)])).bind fun r46 =>
    jn (fun t => B_Z26_J1 k c_s_emit c_s_memoed c_Z55 t.1 t.2.1 t.2.2.1 t.2.2.2.1 t.2.2.2.2.1.1 t.2.2.2.2.1.2.1 t.2.2.2.2.2.1 t.2.2.2.2.2.2.1) (level, at2, r46.1.1, memo, (g_Nodes, g_Root, ()), kids, short, ())
  else
    jn (fun t => B_Z26_J1 k c_s_emit c_s_memoed c_Z55 t.1 t.2.1 t.2.2.1 t.2.2.2.1 t.2.2.2.2.1.1 t.2.2.2.2.1.2.1 t.2.2.2.2.2.1 t.2.2.2.2.2.2.1) (level, at2, ops, memo, (g_Nodes, g_Root, ()), kids, short, ())
def B_Z26 (k : Nat) (c_s_emit : C_s_emit) (c_s_memoed : C_s_memoed) (c_Z55 : C_Z55) (g_0 : List (Int × Int × List Int)) (g_1 level at2 : Int) (ops : List (Int × Int)) (memo : List Int) : R_Z26 :=
  chk (inb at2 g_0.length) <|
  bif ((len (((rdx ((0 : Int), ((0 : Int), ([] : List Int))) g_0 at2).2).2)) == 0) then
    (c_s_emit ops ([(4, 0)])).bind fun r28 =>
    (c_s_memoed r28.1.1 memo at2).bind fun r31 =>
    some ((r31.1.1, r31.1.2.1, ()), ())
  else
    bif decide (level > 0) then
      jn (fun t => B_Z26_J0 k c_s_emit c_s_memoed c_Z55 t.1 t.2.1 t.2.2.1 t.2.2.2.1 t.2.2.2.2.1.1 t.2.2.2.2.1.2.1 t.2.2.2.2.2.1 t.2.2.2.2.2.2.1) (level, at2, ops, memo, (g_0, g_1, ()), ((rdx ((0 : Int), ((0 : Int), ([] : List Int))) g_0 at2).2).2, decide ((len (((rdx ((0 : Int), ((0 : Int), ([] : List Int))) g_0 at2).2).2)) ≤ 2), ())
    else
      jn (fun t => B_Z26_J0 k c_s_emit c_s_memoed c_Z55 t.1 t.2.1 t.2.2.1 t.2.2.2.1 t.2.2.2.2.1.1 t.2.2.2.2.1.2.1 t.2.2.2.2.2.1 t.2.2.2.2.2.2.1) (level, at2, ops, memo, (g_0, g_1, ()), ((rdx ((0 : Int), ((0 : Int), ([] : List Int))) g_0 at2).2).2, false, ())
abbrev T_s_fill_L1 : Type := Int × List Int × Int × Int × (List (Int × Int)) × List Int × ((List (Int × Int × List Int)) × Int × Unit) × Int × Unit
def B_s_fill_L1b (k : Nat) (c_s_emit : C_s_emit) (c_Z55 : C_Z55) (again1 : T_s_fill_L1 → R_s_fill) (level : Int) (kids : List Int) (each one : Int) (ops : List (Int × Int)) (memo : List Int) (g_Nodes : List (Int × Int × List Int)) (g_Root i : Int) : R_s_fill :=
  bif decide (i < (len kids)) then
    chk (cutb i (w64 (i + each)) kids.length) <|
    (c_Z55 g_Nodes g_Root level (sub kids i (w64 (i + each))) ops memo).bind fun r64 =>
    (c_s_emit r64.1.1 ([(one, 0)])).bind fun r71 =>
    again1 (level, kids, each, one, r71.1.1, r64.1.2.1, (g_Nodes, g_Root, ()), w64 (i + each), ())
  else
    some ((ops, memo, ()), ())
def B_s_fill_L1 (k : Nat) (c_s_emit : C_s_emit) (c_Z55 : C_Z55) (n : Nat) (t : T_s_fill_L1) : R_s_fill :=
  lfix n (fun again t => B_s_fill_L1b k c_s_emit c_Z55 again t.1 t.2.1 t.2.2.1 t.2.2.2.1 t.2.2.2.2.1 t.2.2.2.2.2.1 t.2.2.2.2.2.2.1.1 t.2.2.2.2.2.2.1.2.1 t.2.2.2.2.2.2.2.1) t
def B_s_fill_J0 (k : Nat) (c_s_emit : C_s_emit) (c_Z55 : C_Z55) (level : Int) (kids : List Int) (each one all : Int) (ops : List (Int × Int)) (memo : List Int) (g_Nodes : List (Int × Int × List Int)) (g_Root : Int) (t26 : Bool) : R_s_fill :=
  bif t26 then
    (c_s_emit ops ([(2, 0)])).bind fun r30 =>
    (c_Z55 g_Nodes g_Root level kids r30.1.1 memo).bind fun r37 =>
    (c_s_emit r37.1.1 ([(all, 0)])).bind fun r44 =>
    some ((r44.1.1, r37.1.2.1, ()), ())
  else
    B_s_fill_L1 k c_s_emit c_Z55 k (level, kids, each, one, ops, memo, (g_Nodes, g_Root, ()), 0, ())
def B_s_fill (k : Nat) (c_s_emit : C_s_emit) (c_Z55 : C_Z55) (g_0 : List (Int × Int × List Int)) (g_1 level : Int) (kids : List Int) (each one all : Int) (ops : List (Int × Int)) (memo : List Int) : R_s_fill :=
  bif decide (level > 0) then
    jn (fun t => B_s_fill_J0 k c_s_emit c_Z55 t.1 t.2.1 t.2.2.1 t.2.2.2.1 t.2.2.2.2.1 t.2.2.2.2.2.1 t.2.2.2.2.2.2.1 t.2.2.2.2.2.2.2.1.1 t.2.2.2.2.2.2.2.1.2.1 t.2.2.2.2.2.2.2.2.1) (level, kids, each, one, all, ops, memo, (g_0, g_1, ()), decide ((len kids) > each), ())
  else
    jn (fun t => B_s_fill_J0 k c_s_emit c_Z55 t.1 t.2.1 t.2.2.1 t.2.2.2.1 t.2.2.2.2.1 t.2.2.2.2.2.1 t.2.2.2.2.2.2.1 t.2.2.2.2.2.2.2.1.1 t.2.2.2.2.2.2.2.1.2.1 t.2.2.2.2.2.2.2.2.1) (level, kids, each, one, all, ops, memo, (g_0, g_1, ()), false, ())
def B_s_save_J0 (k : Nat) (c_s_emit : C_s_emit) (c_s_memoed : C_s_memoed) (c_Z26 : C_Z26) (c_s_fill : C_s_fill) (c_Z55 : C_Z55) (ops : List (Int × Int)) (memo : List Int) : R_s_save :=
  some ((ops, memo, ()), ())
def B_s_save (k : Nat) (c_s_emit : C_s_emit) (c_s_memoed : C_s_memoed) (c_Z26 : C_Z26) (c_s_fill : C_s_fill) (c_Z55 : C_Z55) (g_0 : List (Int × Int × List Int)) (g_1 level at2 : Int) (ops : List (Int × Int)) (memo : List Int) : R_s_save :=
  chk (inb at2 g_0.length) <|
  chk (inb at2 memo.length) <|
  bif decide ((rdx (0 : Int) memo at2) ≥ 0) then
    chk (inb at2 memo.length) <|
    (c_s_emit ops ([(16, (rdx (0 : Int) memo at2))])).bind fun r30 =>
    some ((r30.1.1, memo, ()), ())
  else
    bif (((rdx ((0 : Int), ((0 : Int), ([] : List Int))) g_0 at2).1) == 0) then
      (c_s_emit ops ([(0, ((rdx ((0 : Int), ((0 : Int), ([] : List Int))) g_0 at2).2).1)])).bind fun r41 =>
      some ((r41.1.1, memo, ()), ())
    else
      bif (((rdx ((0 : Int), ((0 : Int), ([] : List Int))) g_0 at2).1) == 1) then
        (c_s_emit ops ([(1, ((rdx ((0 : Int), ((0 : Int), ([] : List Int))) g_0 at2).2).1)])).bind fun r50 =>
        (c_s_memoed r50.1.1 memo at2).bind fun r53 =>
        some ((r53.1.1, r53.1.2.1, ()), ())
      else
        bif (((rdx ((0 : Int), ((0 : Int), ([] : List Int))) g_0 at2).1) == 2) then
          (c_Z26 g_0 g_1 level at2 ops memo).bind fun r63 =>
          some ((r63.1.1, r63.1.2.1, ()), ())
        else
          bif (((rdx ((0 : Int), ((0 : Int), ([] : List Int))) g_0 at2).1) == 3) then
            (c_s_emit ops ([(7, 0)])).bind fun r72 =>
            (c_s_memoed r72.1.1 memo at2).bind fun r75 =>
            (c_s_fill g_0 g_1 level (((rdx ((0 : Int), ((0 : Int), ([] : List Int))) g_0 at2).2).2) 1 8 9 r75.1.1 r75.1.2.1).bind fun r84 =>
            some ((r84.1.1, r84.1.2.1, ()), ())
          else
            bif (((rdx ((0 : Int), ((0 : Int), ([] : List Int))) g_0 at2).1) == 4) then
              (c_s_emit ops ([(10, 0)])).bind fun r93 =>
              (c_s_memoed r93.1.1 memo at2).bind fun r96 =>
              (c_s_fill g_0 g_1 level (((rdx ((0 : Int), ((0 : Int), ([] : List Int))) g_0 at2).2).2) 2 11 12 r96.1.1 r96.1.2.1).bind fun r105 =>
              some ((r105.1.1, r105.1.2.1, ()), ())
            else
              (c_s_emit ops ([(13, ((rdx ((0 : Int), ((0 : Int), ([] : List Int))) g_0 at2).2).1)])).bind fun r114 =>
              (c_s_memoed r114.1.1 memo at2).bind fun r117 =>
              (c_Z55 g_0 g_1 level (((rdx ((0 : Int), ((0 : Int), ([] : List Int))) g_0 at2).2).2) r117.1.1 r117.1.2.1).bind fun r127 =>
              bif decide ((len (((rdx ((0 : Int), ((0 : Int), ([] : List Int))) g_0 at2).2).2)) > 0) then
                (c_s_emit r127.1.1 ([(14, 0)])).bind fun r137 =>
                jn (fun t => B_s_save_J0 k c_s_emit c_s_memoed c_Z26 c_s_fill c_Z55 t.1 t.2.1) (r137.1.1, r127.1.2.1, ())
              else
                jn (fun t => B_s_save_J0 k c_s_emit c_s_memoed c_Z26 c_s_fill c_Z55 t.1 t.2.1) (r127.1.1, r127.1.2.1, ())
mutual
def F_Z55 : Nat → C_Z55
  | 0, _, _, _, _, _, _ => none
  | k + 1, g_0, g_1, level, list, ops, memo => B_Z55 k (F_s_save k) g_0 g_1 level list ops memo
def F_Z26 : Nat → C_Z26
  | 0, _, _, _, _, _, _ => none
  | k + 1, g_0, g_1, level, at2, ops, memo => B_Z26 k (F_s_emit k) (F_s_memoed k) (F_Z55 k) g_0 g_1 level at2 ops memo
def F_s_fill : Nat → C_s_fill
  | 0, _, _, _, _, _, _, _, _, _ => none
  | k + 1, g_0, g_1, level, kids, each, one, all, ops, memo => B_s_fill k (F_s_emit k) (F_Z55 k) g_0 g_1 level kids each one all ops memo
def F_s_save : Nat → C_s_save
  | 0, _, _, _, _, _, _ => none
  | k + 1, g_0, g_1, level, at2, ops, memo => B_s_save k (F_s_emit k) (F_s_memoed k) (F_Z26 k) (F_s_fill k) (F_Z55 k) g_0 g_1 level at2 ops memo
end
theorem F_Z55_succ (k : Nat) (g_0 : List (Int × Int × List Int)) (g_1 : Int) (level : Int) (list : List Int) (ops : List (Int × Int)) (memo : List Int) : F_Z55 (k + 1) g_0 g_1 level list ops memo = B_Z55 k (F_s_save k) g_0 g_1 level list ops memo := by rw [F_Z55]
theorem tot_Z55 {g_0 g_1 level list ops memo : _} {Q : _ → Prop} (h : Tot (fun σ => B_Z55 (σ 0) (F_s_save (σ 0)) g_0 g_1 level list ops memo) Q) : Tot (fun σ => F_Z55 (σ 0) g_0 g_1 level list ops memo) Q :=
  Tot.call (F := fun k => F_Z55 k g_0 g_1 level list ops memo) (B := fun k => B_Z55 k (F_s_save k) g_0 g_1 level list ops memo) (fun k => F_Z55_succ k g_0 g_1 level list ops memo) h
abbrev A_Z55_L0 (Z : Type) : Type := Int → List Int → (List (Int × Int)) → List Int → (List (Int × Int × List Int)) → Int → Int → Z
abbrev u_Z55_L0 {Z : Type} (f : A_Z55_L0 Z) (t : T_Z55_L0) : Z := f t.1 t.2.1 t.2.2.1 t.2.2.2.1 t.2.2.2.2.1.1 t.2.2.2.2.1.2.1 t.2.2.2.2.2.1
theorem loop_Z55_L0 {Q : A_Z55_L0 ((((List (Int × Int)) × List Int × Unit) × (Unit)) → Prop)} (I : A_Z55_L0 Prop) (μ : A_Z55_L0 Nat)
    (step : ∀ a0 a1 a2 a3 a4 a5 a6, I a0 a1 a2 a3 a4 a5 a6 → ∀ again : (Nat → Nat) → T_Z55_L0 → R_Z55, Dep 2 again → (∀ y0 y1 y2 y3 y4 y5 y6, I y0 y1 y2 y3 y4 y5 y6 → μ y0 y1 y2 y3 y4 y5 y6 < μ a0 a1 a2 a3 a4 a5 a6 → Tot (fun σ => again σ (y0, y1, y2, y3, (y4, y5, ()), y6, ())) (Q y0 y1 y2 y3 y4 y5 y6)) →
      Tot (fun σ => B_Z55_L0b (σ 0) (F_s_save (σ 0)) (again σ) a0 a1 a2 a3 a4 a5 a6) (Q a0 a1 a2 a3 a4 a5 a6)) :
    ∀ a0 a1 a2 a3 a4 a5 a6, I a0 a1 a2 a3 a4 a5 a6 → Tot (fun σ => B_Z55_L0 (σ 0) (F_s_save (σ 0)) (σ 0) (a0, a1, a2, a3, (a4, a5, ()), a6, ())) (Q a0 a1 a2 a3 a4 a5 a6) := fun a0 a1 a2 a3 a4 a5 a6 => Tot.loop0 (L := fun k => B_Z55_L0 k (F_s_save k)) (B := fun k g => u_Z55_L0 (B_Z55_L0b k (F_s_save k) g)) (Q := u_Z55_L0 Q) (fun _ _ _ => rfl) (u_Z55_L0 I) (u_Z55_L0 μ)
    (fun t ht again hag h => step t.1 t.2.1 t.2.2.1 t.2.2.2.1 t.2.2.2.2.1.1 t.2.2.2.2.1.2.1 t.2.2.2.2.2.1 ht again hag fun y0 y1 y2 y3 y4 y5 y6 => h (y0, y1, y2, y3, (y4, y5, ()), y6, ())) (a0, a1, a2, a3, (a4, a5, ()), a6, ())
theorem F_Z26_succ (k : Nat) (g_0 : List (Int × Int × List Int)) (g_1 : Int) (level : Int) (at2 : Int) (ops : List (Int × Int)) (memo : List Int) : F_Z26 (k + 1) g_0 g_1 level at2 ops memo = B_Z26 k (F_s_emit k) (F_s_memoed k) (F_Z55 k) g_0 g_1 level at2 ops memo := by rw [F_Z26]
theorem tot_Z26 {g_0 g_1 level at2 ops memo : _} {Q : _ → Prop} (h : Tot (fun σ => B_Z26 (σ 0) (F_s_emit (σ 0)) (F_s_memoed (σ 0)) (F_Z55 (σ 0)) g_0 g_1 level at2 ops memo) Q) : Tot (fun σ => F_Z26 (σ 0) g_0 g_1 level at2 ops memo) Q :=
  Tot.call (F := fun k => F_Z26 k g_0 g_1 level at2 ops memo) (B := fun k => B_Z26 k (F_s_emit k) (F_s_memoed k) (F_Z55 k) g_0 g_1 level at2 ops memo) (fun k => F_Z26_succ k g_0 g_1 level at2 ops memo) h
abbrev A_Z26_L3 (Z : Type) : Type := Int → (List (Int × Int)) → List Int → List Int → Bool → Int → Z
abbrev u_Z26_L3 {Z : Type} (f : A_Z26_L3 Z) (t : T_Z26_L3) : Z := f t.1 t.2.1 t.2.2.1 t.2.2.2.1 t.2.2.2.2.1 t.2.2.2.2.2.1
theorem loop_Z26_L3 {Q : A_Z26_L3 ((((List (Int × Int)) × List Int × Unit) × (Unit)) → Prop)} (I : A_Z26_L3 Prop) (μ : A_Z26_L3 Nat)
    (step : ∀ a0 a1 a2 a3 a4 a5, I a0 a1 a2 a3 a4 a5 → ∀ again : (Nat → Nat) → T_Z26_L3 → R_Z26, Dep 2 again → (∀ y0 y1 y2 y3 y4 y5, I y0 y1 y2 y3 y4 y5 → μ y0 y1 y2 y3 y4 y5 < μ a0 a1 a2 a3 a4 a5 → Tot (fun σ => again σ (y0, y1, y2, y3, y4, y5, ())) (Q y0 y1 y2 y3 y4 y5)) →
      Tot (fun σ => B_Z26_L3b (σ 0) (F_s_emit (σ 0)) (F_s_memoed (σ 0)) (F_Z55 (σ 0)) (again σ) a0 a1 a2 a3 a4 a5) (Q a0 a1 a2 a3 a4 a5)) :
    ∀ a0 a1 a2 a3 a4 a5, I a0 a1 a2 a3 a4 a5 → Tot (fun σ => B_Z26_L3 (σ 0) (F_s_emit (σ 0)) (F_s_memoed (σ 0)) (F_Z55 (σ 0)) (σ 0) (a0, a1, a2, a3, a4, a5, ())) (Q a0 a1 a2 a3 a4 a5) := fun a0 a1 a2 a3 a4 a5 => Tot.loop0 (L := fun k => B_Z26_L3 k (F_s_emit k) (F_s_memoed k) (F_Z55 k)) (B := fun k g => u_Z26_L3 (B_Z26_L3b k (F_s_emit k) (F_s_memoed k) (F_Z55 k) g)) (Q := u_Z26_L3 Q) (fun _ _ _ => rfl) (u_Z26_L3 I) (u_Z26_L3 μ)
    (fun t ht again hag h => step t.1 t.2.1 t.2.2.1 t.2.2.2.1 t.2.2.2.2.1 t.2.2.2.2.2.1 ht again hag fun y0 y1 y2 y3 y4 y5 => h (y0, y1, y2, y3, y4, y5, ())) (a0, a1, a2, a3, a4, a5, ())
theorem F_s_fill_succ (k : Nat) (g_0 : List (Int × Int × List Int)) (g_1 : Int) (level : Int) (kids : List Int) (each : Int) (one : Int) (all : Int) (ops : List (Int × Int)) (memo : List Int) : F_s_fill (k + 1) g_0 g_1 level kids each one all ops memo = B_s_fill k (F_s_emit k) (F_Z55 k) g_0 g_1 level kids each one all ops memo := by rw [F_s_fill]
theorem tot_s_fill {g_0 g_1 level kids each one all ops memo : _} {Q : _ → Prop} (h : Tot (fun σ => B_s_fill (σ 0) (F_s_emit (σ 0)) (F_Z55 (σ 0)) g_0 g_1 level kids each one all ops memo) Q) : Tot (fun σ => F_s_fill (σ 0) g_0 g_1 level kids each one all ops memo) Q :=
  Tot.call (F := fun k => F_s_fill k g_0 g_1 level kids each one all ops memo) (B := fun k => B_s_fill k (F_s_emit k) (F_Z55 k) g_0 g_1 level kids each one all ops memo) (fun k => F_s_fill_succ k g_0 g_1 level kids each one all ops memo) h
abbrev A_s_fill_L1 (Z : Type) : Type := Int → List Int → Int → Int → (List (Int × Int)) → List Int → (List (Int × Int × List Int)) → Int → Int → Z
abbrev u_s_fill_L1 {Z : Type} (f : A_s_fill_L1 Z) (t : T_s_fill_L1) : Z := f t.1 t.2.1 t.2.2.1 t.2.2.2.1 t.2.2.2.2.1 t.2.2.2.2.2.1 t.2.2.2.2.2.2.1.1 t.2.2.2.2.2.2.1.2.1 t.2.2.2.2.2.2.2.1
theorem loop_s_fill_L1 {Q : A_s_fill_L1 ((((List (Int × Int)) × List Int × Unit) × (Unit)) → Prop)} (I : A_s_fill_L1 Prop) (μ : A_s_fill_L1 Nat)
    (step : ∀ a0 a1 a2 a3 a4 a5 a6 a7 a8, I a0 a1 a2 a3 a4 a5 a6 a7 a8 → ∀ again : (Nat → Nat) → T_s_fill_L1 → R_s_fill, Dep 2 again → (∀ y0 y1 y2 y3 y4 y5 y6 y7 y8, I y0 y1 y2 y3 y4 y5 y6 y7 y8 → μ y0 y1 y2 y3 y4 y5 y6 y7 y8 < μ a0 a1 a2 a3 a4 a5 a6 a7 a8 → Tot (fun σ => again σ (y0, y1, y2, y3, y4, y5, (y6, y7, ()), y8, ())) (Q y0 y1 y2 y3 y4 y5 y6 y7 y8)) →
      Tot (fun σ => B_s_fill_L1b (σ 0) (F_s_emit (σ 0)) (F_Z55 (σ 0)) (again σ) a0 a1 a2 a3 a4 a5 a6 a7 a8) (Q a0 a1 a2 a3 a4 a5 a6 a7 a8)) :
    ∀ a0 a1 a2 a3 a4 a5 a6 a7 a8, I a0 a1 a2 a3 a4 a5 a6 a7 a8 → Tot (fun σ => B_s_fill_L1 (σ 0) (F_s_emit (σ 0)) (F_Z55 (σ 0)) (σ 0) (a0, a1, a2, a3, a4, a5, (a6, a7, ()), a8, ())) (Q a0 a1 a2 a3 a4 a5 a6 a7 a8) := fun a0 a1 a2 a3 a4 a5 a6 a7 a8 => Tot.loop0 (L := fun k => B_s_fill_L1 k (F_s_emit k) (F_Z55 k)) (B := fun k g => u_s_fill_L1 (B_s_fill_L1b k (F_s_emit k) (F_Z55 k) g)) (Q := u_s_fill_L1 Q) (fun _ _ _ => rfl) (u_s_fill_L1 I) (u_s_fill_L1 μ)
    (fun t ht again hag h => step t.1 t.2.1 t.2.2.1 t.2.2.2.1 t.2.2.2.2.1 t.2.2.2.2.2.1 t.2.2.2.2.2.2.1.1 t.2.2.2.2.2.2.1.2.1 t.2.2.2.2.2.2.2.1 ht again hag fun y0 y1 y2 y3 y4 y5 y6 y7 y8 => h (y0, y1, y2, y3, y4, y5, (y6, y7, ()), y8, ())) (a0, a1, a2, a3, a4, a5, (a6, a7, ()), a8, ())
theorem F_s_save_succ (k : Nat) (g_0 : List (Int × Int × List Int)) (g_1 : Int) (level : Int) (at2 : Int) (ops : List (Int × Int)) (memo : List Int) : F_s_save (k + 1) g_0 g_1 level at2 ops memo = B_s_save k (F_s_emit k) (F_s_memoed k) (F_Z26 k) (F_s_fill k) (F_Z55 k) g_0 g_1 level at2 ops memo := by rw [F_s_save]
theorem tot_s_save {g_0 g_1 level at2 ops memo : _} {Q : _ → Prop} (h : Tot (fun σ => B_s_save (σ 0) (F_s_emit (σ 0)) (F_s_memoed (σ 0)) (F_Z26 (σ 0)) (F_s_fill (σ 0)) (F_Z55 (σ 0)) g_0 g_1 level at2 ops memo) Q) : Tot (fun σ => F_s_save (σ 0) g_0 g_1 level at2 ops memo) Q :=
  Tot.call (F := fun k => F_s_save k g_0 g_1 level at2 ops memo) (B := fun k => B_s_save k (F_s_emit k) (F_s_memoed k) (F_Z26 k) (F_s_fill k) (F_Z55 k) g_0 g_1 level at2 ops memo) (fun k => F_s_save_succ k g_0 g_1 level at2 ops memo) h
abbrev R_Z58 : Type := Option (((List (Int × Int)) × Unit) × (Unit))
abbrev C_Z58 : Type := (List (Int × Int × List Int)) → Int → Int → R_Z58
def B_Z58 (k : Nat) (c_Z27 : C_Z27) (c_s_save : C_s_save) (c_s_emit : C_s_emit) (g_0 : List (Int × Int × List Int)) (g_1 level : Int) : R_Z58 :=
  (c_Z27 g_0 g_1).bind fun r14 =>
  (c_s_save g_0 g_1 level g_1 ([]) r14.1.1).bind fun r15 =>
  (c_s_emit r15.1.1 ([(19, 0)])).bind fun r21 =>
  some ((r21.1.1, ()), ())
def F_Z58 : Nat → C_Z58
  | 0, _, _, _ => none
  | k + 1, g_0, g_1, level => B_Z58 k (F_Z27 k) (F_s_save k) (F_s_emit k) g_0 g_1 level
theorem tot_Z58 {g_0 g_1 level : _} {Q : _ → Prop} (h : Tot (fun σ => B_Z58 (σ 0) (F_Z27 (σ 0)) (F_s_save (σ 0)) (F_s_emit (σ 0)) g_0 g_1 level) Q) : Tot (fun σ => F_Z58 (σ 0) g_0 g_1 level) Q :=
  Tot.call (F := fun k => F_Z58 k g_0 g_1 level) (B := fun k => B_Z58 k (F_Z27 k) (F_s_save k) (F_s_emit k) g_0 g_1 level) (fun k => rfl) h
abbrev R_Z51 : Type := Option (((List (Int × Int)) × Unit) × ((List Int × Int × Unit) × Unit))
abbrev C_Z51 : Type := List Int → Int → R_Z51
def B_Z51_J2 (k : Nat) (c_Z13 : C_Z13) (c_Z28 : C_Z28) (c_Z31 : C_Z31) (c_Z58 : C_Z58) (c_s_someOp : C_s_someOp) (c_Z17 : C_Z17) (r_b : List Int) (r_p : Int) (out : List (Int × Int)) : R_Z51 :=
  bif decide ((len out) > 0) then
    (c_Z13 r_b r_p 24).bind fun r45 =>
    bif (r45.1.1 == 0) then
      (c_Z17 r45.2.1.1 r45.2.1.2.1 ([(-1), 20])).bind fun r51 =>
      chk (inb 0 out.length) <|
      chk (decide ((0 : Int).toNat < out.length)) <|
      some (((out.set ((0 : Int).toNat) (r51.1.1, (out.getD ((0 : Int).toNat) ((0 : Int), (0 : Int))).2)), ()), ((r51.2.1.1, r51.2.1.2.1, ()), ()))
    else
      bif (r45.1.1 == 1) then
        (c_Z17 r45.2.1.1 r45.2.1.2.1 ([(-1), 1000, 1])).bind fun r62 =>
        chk (inb (w64 ((len out) - 1)) out.length) <|
        chk (decide ((w64 ((len out) - 1)).toNat < out.length)) <|
        some (((out.set ((w64 ((len out) - 1)).toNat) ((out.getD ((w64 ((len out) - 1)).toNat) ((0 : Int), (0 : Int))).1, r62.1.1)), ()), ((r62.2.1.1, r62.2.1.2.1, ()), ()))
      else
        some ((out, ()), ((r45.2.1.1, r45.2.1.2.1, ()), ()))
  else
    some ((out, ()), ((r_b, r_p, ()), ()))
def B_Z51_J1 (k : Nat) (c_Z13 : C_Z13) (c_Z28 : C_Z28) (c_Z31 : C_Z31) (c_Z58 : C_Z58) (c_s_someOp : C_s_someOp) (c_Z17 : C_Z17) (r_b : List Int) (r_p : Int) (out : List (Int × Int)) : R_Z51 :=
  (c_Z13 r_b r_p 6).bind fun r32 =>
  bif (r32.1.1 == 0) then
    (c_Z13 r32.2.1.1 r32.2.1.2.1 (w64 ((len out) + 1))).bind fun r39 =>
    chk (cutb 0 r39.1.1 out.length) <|
    jn (fun t => B_Z51_J2 k c_Z13 c_Z28 c_Z31 c_Z58 c_s_someOp c_Z17 t.1.1 t.1.2.1 t.2.1) ((r39.2.1.1, r39.2.1.2.1, ()), (out.take r39.1.1.toNat), ())
  else
    jn (fun t => B_Z51_J2 k c_Z13 c_Z28 c_Z31 c_Z58 c_s_someOp c_Z17 t.1.1 t.1.2.1 t.2.1) ((r32.2.1.1, r32.2.1.2.1, ()), out, ())
def B_Z51_J0 (k : Nat) (c_Z13 : C_Z13) (c_Z28 : C_Z28) (c_Z31 : C_Z31) (c_Z58 : C_Z58) (c_s_someOp : C_s_someOp) (c_Z17 : C_Z17) (r_b : List Int) (r_p : Int) (out : List (Int × Int)) (t22 : Bool) : R_Z51 :=
  bif t22 then
    (c_Z13 r_b r_p (len out)).bind fun r27 =>
    (c_s_someOp r27.2.1.1 r27.2.1.2.1).bind fun r29 =>
    chk (inb r27.1.1 out.length) <|
    chk (decide (r27.1.1.toNat < out.length)) <|
    jn (fun t => B_Z51_J1 k c_Z13 c_Z28 c_Z31 c_Z58 c_s_someOp c_Z17 t.1.1 t.1.2.1 t.2.1) ((r29.2.1.1, r29.2.1.2.1, ()), (out.set r27.1.1.toNat (r29.1.1.1, r29.1.1.2.1)), ())
  else
    jn (fun t => B_Z51_J1 k c_Z13 c_Z28 c_Z31 c_Z58 c_s_someOp c_Z17 t.1.1 t.1.2.1 t.2.1) ((r_b, r_p, ()), out, ())
def B_Z51 (k : Nat) (c_Z13 : C_Z13) (c_Z28 : C_Z28) (c_Z31 : C_Z31) (c_Z58 : C_Z58) (c_s_someOp : C_s_someOp) (c_Z17 : C_Z17) (r_b : List Int) (r_p : Int) : R_Z51 :=
  (c_Z13 r_b r_p 2).bind fun r6 =>
  bif (r6.1.1 == 0) then
    (c_Z28 r6.2.1.1 r6.2.1.2.1).bind fun r9 =>
    jn (fun t => B_Z51_J2 k c_Z13 c_Z28 c_Z31 c_Z58 c_s_someOp c_Z17 t.1.1 t.1.2.1 t.2.1) ((r9.2.1.1, r9.2.1.2.1, ()), r9.1.1, ())
  else
    (c_Z31 r6.2.1.1 r6.2.1.2.1).bind fun r11 =>
    (c_Z13 r11.2.1.1 r11.2.1.2.1 2).bind fun r13 =>
    (c_Z58 r11.1.1.1 r11.1.1.2.1 r13.1.1).bind fun r14 =>
    (c_Z13 r13.2.1.1 r13.2.1.2.1 4).bind fun r16 =>
    bif (r16.1.1 == 0) then
      jn (fun t => B_Z51_J0 k c_Z13 c_Z28 c_Z31 c_Z58 c_s_someOp c_Z17 t.1.1 t.1.2.1 t.2.1 t.2.2.1) ((r16.2.1.1, r16.2.1.2.1, ()), r14.1.1, decide ((len r14.1.1) > 0), ())
    else
      jn (fun t => B_Z51_J0 k c_Z13 c_Z28 c_Z31 c_Z58 c_s_someOp c_Z17 t.1.1 t.1.2.1 t.2.1 t.2.2.1) ((r16.2.1.1, r16.2.1.2.1, ()), r14.1.1, false, ())
def F_Z51 : Nat → C_Z51
  | 0, _, _ => none
  | k + 1, r_b, r_p => B_Z51 k (F_Z13 k) (F_Z28 k) (F_Z31 k) (F_Z58 k) (F_s_someOp k) (F_Z17 k) r_b r_p
theorem tot_Z51 {r_b r_p : _} {Q : _ → Prop} (h : Tot (fun σ => B_Z51 (σ 0) (F_Z13 (σ 0)) (F_Z28 (σ 0)) (F_Z31 (σ 0)) (F_Z58 (σ 0)) (F_s_someOp (σ 0)) (F_Z17 (σ 0)) r_b r_p) Q) : Tot (fun σ => F_Z51 (σ 0) r_b r_p) Q :=
  Tot.call (F := fun k => F_Z51 k r_b r_p) (B := fun k => B_Z51 k (F_Z13 k) (F_Z28 k) (F_Z31 k) (F_Z58 k) (F_s_someOp k) (F_Z17 k) r_b r_p) (fun k => rfl) h
abbrev R_Z6 : Type := Option (((List (Int × Int)) × Unit) × (Unit))
abbrev C_Z6 : Type := List Int → R_Z6
def B_Z6 (k : Nat) (c_Z35 : C_Z35) (c_Z51 : C_Z51) (code : List Int) : R_Z6 :=
  (c_Z35 code).bind fun r4 =>
  (c_Z51 r4.1.1.1 r4.1.1.2.1).bind fun r5 =>
  some ((r5.1.1, ()), ())
def F_Z6 : Nat → C_Z6
  | 0, _ => none
  | k + 1, code => B_Z6 k (F_Z35 k) (F_Z51 k) code
theorem tot_Z6 {code : _} {Q : _ → Prop} (h : Tot (fun σ => B_Z6 (σ 0) (F_Z35 (σ 0)) (F_Z51 (σ 0)) code) Q) : Tot (fun σ => F_Z6 (σ 0) code) Q :=
  Tot.call (F := fun k => F_Z6 k code) (B := fun k => B_Z6 k (F_Z35 k) (F_Z51 k) code) (fun k => rfl) h
abbrev R_Z50 : Type := Option ((Int × Unit) × (Unit))
abbrev C_Z50 : Type := Int → R_Z50
def B_Z50_J0 (k : Nat) (t10 : Bool) : R_Z50 :=
  bif t10 then
    some ((19, ()), ())
  else
    some ((0, ()), ())
def B_Z50 (k : Nat) (code : Int) : R_Z50 :=
  bif (code == 0) then
    some ((999, ()), ())
  else
    bif (code == 1) then
      some ((9, ()), ())
    else
      bif (code == 13) then
        some ((9, ()), ())
      else
        bif (code == 15) then
          jn (fun t => B_Z50_J0 k t.1) ((code == 15), ())
        else
          jn (fun t => B_Z50_J0 k t.1) ((code == 16), ())
def F_Z50 : Nat → C_Z50
  | 0, _ => none
  | k + 1, code => B_Z50 k code
theorem tot_Z50 {code : _} {Q : _ → Prop} (h : Tot (fun σ => B_Z50 (σ 0) code) Q) : Tot (fun σ => F_Z50 (σ 0) code) Q :=
  Tot.call (F := fun k => F_Z50 k code) (B := fun k => B_Z50 k code) (fun k => rfl) h
abbrev R_i_opOk : Type := Option ((Bool × Unit) × (Unit))
abbrev C_i_opOk : Type := Int → Int → R_i_opOk
def B_i_opOk (k : Nat) (c_Z50 : C_Z50) (o_0 o_1 : Int) : R_i_opOk :=
  bif decide (o_0 ≥ 0) then
    bif decide (o_0 ≤ 19) then
      bif decide (o_1 ≥ 0) then
        (c_Z50 o_0).bind fun r21 =>
        some ((decide (o_1 ≤ r21.1.1), ()), ())
      else
        some ((false, ()), ())
    else
      some ((false, ()), ())
  else
    some ((false, ()), ())
def F_i_opOk : Nat → C_i_opOk
  | 0, _, _ => none
  | k + 1, o_0, o_1 => B_i_opOk k (F_Z50 k) o_0 o_1
theorem tot_i_opOk {o_0 o_1 : _} {Q : _ → Prop} (h : Tot (fun σ => B_i_opOk (σ 0) (F_Z50 (σ 0)) o_0 o_1) Q) : Tot (fun σ => F_i_opOk (σ 0) o_0 o_1) Q :=
  Tot.call (F := fun k => F_i_opOk k o_0 o_1) (B := fun k => B_i_opOk k (F_Z50 k) o_0 o_1) (fun k => rfl) h
abbrev R_Z44 : Type := Option ((Bool × Unit) × (Unit))
abbrev C_Z44 : Type := (List (Int × Int)) → R_Z44
abbrev T_Z44_L0 : Type := (List (Int × Int)) × (List (Int × Int)) × Int × Int × Unit
def B_Z44_L0b (k : Nat) (c_i_opOk : C_i_opOk) (again0 : T_Z44_L0 → R_Z44) (ops t5 : List (Int × Int)) (t6 t7 : Int) : R_Z44 :=
  bif decide (t7 < t6) then
    chk (inb t7 t5.length) <|
    (c_i_opOk ((rdx ((0 : Int), (0 : Int)) t5 t7).1) ((rdx ((0 : Int), (0 : Int)) t5 t7).2)).bind fun r12 =>
    bif (!r12.1.1) then
      some ((false, ()), ())
    else
      again0 (ops, t5, t6, w64 (t7 + 1), ())
  else
    some ((decide ((len ops) ≤ 300), ()), ())
def B_Z44_L0 (k : Nat) (c_i_opOk : C_i_opOk) (n : Nat) (t : T_Z44_L0) : R_Z44 :=
  lfix n (fun again t => B_Z44_L0b k c_i_opOk again t.1 t.2.1 t.2.2.1 t.2.2.2.1) t
def B_Z44 (k : Nat) (c_i_opOk : C_i_opOk) (ops : List (Int × Int)) : R_Z44 :=
  B_Z44_L0 k c_i_opOk k (ops, ops, len ops, 0, ())
def F_Z44 : Nat → C_Z44
  | 0, _ => none
  | k + 1, ops => B_Z44 k (F_i_opOk k) ops
theorem tot_Z44 {ops : _} {Q : _ → Prop} (h : Tot (fun σ => B_Z44 (σ 0) (F_i_opOk (σ 0)) ops) Q) : Tot (fun σ => F_Z44 (σ 0) ops) Q :=
  Tot.call (F := fun k => F_Z44 k ops) (B := fun k => B_Z44 k (F_i_opOk k) ops) (fun k => rfl) h
abbrev A_Z44_L0 (Z : Type) : Type := (List (Int × Int)) → (List (Int × Int)) → Int → Int → Z
abbrev u_Z44_L0 {Z : Type} (f : A_Z44_L0 Z) (t : T_Z44_L0) : Z := f t.1 t.2.1 t.2.2.1 t.2.2.2.1
theorem loop_Z44_L0 {Q : A_Z44_L0 (((Bool × Unit) × (Unit)) → Prop)} (I : A_Z44_L0 Prop) (μ : A_Z44_L0 Nat)
    (step : ∀ a0 a1 a2 a3, I a0 a1 a2 a3 → ∀ again : (Nat → Nat) → T_Z44_L0 → R_Z44, Dep 2 again → (∀ y0 y1 y2 y3, I y0 y1 y2 y3 → μ y0 y1 y2 y3 < μ a0 a1 a2 a3 → Tot (fun σ => again σ (y0, y1, y2, y3, ())) (Q y0 y1 y2 y3)) →
      Tot (fun σ => B_Z44_L0b (σ 0) (F_i_opOk (σ 0)) (again σ) a0 a1 a2 a3) (Q a0 a1 a2 a3)) :
    ∀ a0 a1 a2 a3, I a0 a1 a2 a3 → Tot (fun σ => B_Z44_L0 (σ 0) (F_i_opOk (σ 0)) (σ 0) (a0, a1, a2, a3, ())) (Q a0 a1 a2 a3) := fun a0 a1 a2 a3 => Tot.loop0 (L := fun k => B_Z44_L0 k (F_i_opOk k)) (B := fun k g => u_Z44_L0 (B_Z44_L0b k (F_i_opOk k) g)) (Q := u_Z44_L0 Q) (fun _ _ _ => rfl) (u_Z44_L0 I) (u_Z44_L0 μ)
    (fun t ht again hag h => step t.1 t.2.1 t.2.2.1 t.2.2.2.1 ht again hag fun y0 y1 y2 y3 => h (y0, y1, y2, y3, ())) (a0, a1, a2, a3, ())
abbrev R_Z40 : Type := Option ((List Int × Unit) × (Unit))
abbrev C_Z40 : Type := (List (Int × Int)) → R_Z40
abbrev T_Z40_L1 : Type := (List (Int × Int)) × List Int × Int × (Int × Int × Unit) × Bool × (List (Int × Int)) × Int × Int × (List (Int × Int)) × Int × Int × Unit
abbrev T_Z40_L4 : Type := (List (Int × Int)) × List Int × (List (Int × Int)) × Int × Int × Unit
def B_Z40_J3 (k : Nat) (again4 : T_Z40_L4 → R_Z40) (ops : List (Int × Int)) (out : List Int) (t10 : List (Int × Int)) (t11 t12 : Int) : R_Z40 :=
  again4 (ops, out, t10, t11, w64 (t12 + 1), ())
def B_Z40_J2 (k : Nat) (again4 : T_Z40_L4 → R_Z40) (ops : List (Int × Int)) (out : List Int) (i : Int) (idle : Bool) (t10 : List (Int × Int)) (t11 t12 : Int) : R_Z40 :=
  bif idle then
    chk (room out.length ([i]).length) <|
    jn (fun t => B_Z40_J3 k again4 t.1 t.2.1 t.2.2.1 t.2.2.2.1 t.2.2.2.2.1) (ops, (out ++ [i]), t10, t11, t12, ())
  else
    jn (fun t => B_Z40_J3 k again4 t.1 t.2.1 t.2.2.1 t.2.2.2.1 t.2.2.2.2.1) (ops, out, t10, t11, t12, ())
def B_Z40_J0 (k : Nat) (again1 : T_Z40_L1 → R_Z40) (again4 : T_Z40_L4 → R_Z40) (ops : List (Int × Int)) (out : List Int) (i o_Code o_Arg : Int) (idle : Bool) (x_Code x_Arg : Int) (t10 : List (Int × Int)) (t11 t12 : Int) (t23 : List (Int × Int)) (t24 t25 : Int) (t43 : Bool) : R_Z40 :=
  bif t43 then
    jn (fun t => B_Z40_J2 k again4 t.1 t.2.1 t.2.2.1 t.2.2.2.1 t.2.2.2.2.1 t.2.2.2.2.2.1 t.2.2.2.2.2.2.1) (ops, out, i, (x_Code == 15), t10, t11, t12, ())
  else
    again1 (ops, out, i, (o_Code, o_Arg, ()), idle, t10, t11, t12, t23, t24, w64 (t25 + 1), ())
def B_Z40_L1b (k : Nat) (again4 : T_Z40_L4 → R_Z40) (again1 : T_Z40_L1 → R_Z40) (ops : List (Int × Int)) (out : List Int) (i o_Code o_Arg : Int) (idle : Bool) (t10 : List (Int × Int)) (t11 t12 : Int) (t23 : List (Int × Int)) (t24 t25 : Int) : R_Z40 :=
  bif decide (t25 < t24) then
    chk (inb t25 t23.length) <|
    bif (((rdx ((0 : Int), (0 : Int)) t23 t25).2) == o_Arg) then
      bif (((rdx ((0 : Int), (0 : Int)) t23 t25).1) == 15) then
        jn (fun t => B_Z40_J0 k again1 again4 t.1 t.2.1 t.2.2.1 t.2.2.2.1.1 t.2.2.2.1.2.1 t.2.2.2.2.1 t.2.2.2.2.2.1.1 t.2.2.2.2.2.1.2.1 t.2.2.2.2.2.2.1 t.2.2.2.2.2.2.2.1 t.2.2.2.2.2.2.2.2.1 t.2.2.2.2.2.2.2.2.2.1 t.2.2.2.2.2.2.2.2.2.2.1 t.2.2.2.2.2.2.2.2.2.2.2.1 t.2.2.2.2.2.2.2.2.2.2.2.2.1) (ops, out, i, (o_Code, o_Arg, ()), idle, ((rdx ((0 : Int), (0 : Int)) t23 t25).1, (rdx ((0 : Int), (0 : Int)) t23 t25).2, ()), t10, t11, t12, t23, t24, t25, true, ())
      else
        jn (fun t => B_Z40_J0 k again1 again4 t.1 t.2.1 t.2.2.1 t.2.2.2.1.1 t.2.2.2.1.2.1 t.2.2.2.2.1 t.2.2.2.2.2.1.1 t.2.2.2.2.2.1.2.1 t.2.2.2.2.2.2.1 t.2.2.2.2.2.2.2.1 t.2.2.2.2.2.2.2.2.1 t.2.2.2.2.2.2.2.2.2.1 t.2.2.2.2.2.2.2.2.2.2.1 t.2.2.2.2.2.2.2.2.2.2.2.1 t.2.2.2.2.2.2.2.2.2.2.2.2.1) (ops, out, i, (o_Code, o_Arg, ()), idle, ((rdx ((0 : Int), (0 : Int)) t23 t25).1, (rdx ((0 : Int), (0 : Int)) t23 t25).2, ()), t10, t11, t12, t23, t24, t25, (((rdx ((0 : Int), (0 : Int)) t23 t25).1) == 16), ())
    else
      jn (fun t => B_Z40_J0 k again1 again4 t.1 t.2.1 t.2.2.1 t.2.2.2.1.1 t.2.2.2.1.2.1 t.2.2.2.2.1 t.2.2.2.2.2.1.1 t.2.2.2.2.2.1.2.1 t.2.2.2.2.2.2.1 t.2.2.2.2.2.2.2.1 t.2.2.2.2.2.2.2.2.1 t.2.2.2.2.2.2.2.2.2.1 t.2.2.2.2.2.2.2.2.2.2.1 t.2.2.2.2.2.2.2.2.2.2.2.1 t.2.2.2.2.2.2.2.2.2.2.2.2.1) (ops, out, i, (o_Code, o_Arg, ()), idle, ((rdx ((0 : Int), (0 : Int)) t23 t25).1, (rdx ((0 : Int), (0 : Int)) t23 t25).2, ()), t10, t11, t12, t23, t24, t25, false, ())
  else
    jn (fun t => B_Z40_J2 k again4 t.1 t.2.1 t.2.2.1 t.2.2.2.1 t.2.2.2.2.1 t.2.2.2.2.2.1 t.2.2.2.2.2.2.1) (ops, out, i, idle, t10, t11, t12, ())
def B_Z40_L1 (k : Nat) (again4 : T_Z40_L4 → R_Z40) (n : Nat) (t : T_Z40_L1) : R_Z40 :=
  lfix n (fun again t => B_Z40_L1b k again4 again t.1 t.2.1 t.2.2.1 t.2.2.2.1.1 t.2.2.2.1.2.1 t.2.2.2.2.1 t.2.2.2.2.2.1 t.2.2.2.2.2.2.1 t.2.2.2.2.2.2.2.1 t.2.2.2.2.2.2.2.2.1 t.2.2.2.2.2.2.2.2.2.1 t.2.2.2.2.2.2.2.2.2.2.1) t
def B_Z40_L4b (k : Nat) (again4 : T_Z40_L4 → R_Z40) (ops : List (Int × Int)) (out : List Int) (t10 : List (Int × Int)) (t11 t12 : Int) : R_Z40 :=
  bif decide (t12 < t11) then
    chk (inb t12 t10.length) <|
    bif (((rdx ((0 : Int), (0 : Int)) t10 t12).1) != 15) then
      jn (fun t => B_Z40_J3 k again4 t.1 t.2.1 t.2.2.1 t.2.2.2.1 t.2.2.2.2.1) (ops, out, t10, t11, t12, ())
    else
      chk (cutb (w64 (t12 + 1)) (len ops) ops.length) <|
      B_Z40_L1 k again4 k (ops, out, t12, ((rdx ((0 : Int), (0 : Int)) t10 t12).1, (rdx ((0 : Int), (0 : Int)) t10 t12).2, ()), true, t10, t11, t12, (sub ops (w64 (t12 + 1)) (len ops)), len (sub ops (w64 (t12 + 1)) (len ops)), 0, ())
  else
    some ((out, ()), ())
def B_Z40_L4 (k : Nat) (n : Nat) (t : T_Z40_L4) : R_Z40 :=
  lfix n (fun again t => B_Z40_L4b k again t.1 t.2.1 t.2.2.1 t.2.2.2.1 t.2.2.2.2.1) t
def B_Z40 (k : Nat) (ops : List (Int × Int)) : R_Z40 :=
  B_Z40_L4 k k (ops, [], ops, len ops, 0, ())
def F_Z40 : Nat → C_Z40
  | 0, _ => none
  | k + 1, ops => B_Z40 k ops
theorem tot_Z40 {ops : _} {Q : _ → Prop} (h : Tot (fun σ => B_Z40 (σ 0) ops) Q) : Tot (fun σ => F_Z40 (σ 0) ops) Q :=
  Tot.call (F := fun k => F_Z40 k ops) (B := fun k => B_Z40 k ops) (fun k => rfl) h
abbrev A_Z40_L1 (Z : Type) : Type := (List (Int × Int)) → List Int → Int → Int → Int → Bool → (List (Int × Int)) → Int → Int → (List (Int × Int)) → Int → Int → Z
abbrev u_Z40_L1 {Z : Type} (f : A_Z40_L1 Z) (t : T_Z40_L1) : Z := f t.1 t.2.1 t.2.2.1 t.2.2.2.1.1 t.2.2.2.1.2.1 t.2.2.2.2.1 t.2.2.2.2.2.1 t.2.2.2.2.2.2.1 t.2.2.2.2.2.2.2.1 t.2.2.2.2.2.2.2.2.1 t.2.2.2.2.2.2.2.2.2.1 t.2.2.2.2.2.2.2.2.2.2.1
theorem loop_Z40_L1 {again4 : (Nat → Nat) → T_Z40_L4 → R_Z40} (hag4 : Dep 2 again4) {Q : A_Z40_L1 (((List Int × Unit) × (Unit)) → Prop)} (I : A_Z40_L1 Prop) (μ : A_Z40_L1 Nat)
    (step : ∀ a0 a1 a2 a3 a4 a5 a6 a7 a8 a9 a10 a11, I a0 a1 a2 a3 a4 a5 a6 a7 a8 a9 a10 a11 → ∀ again : (Nat → Nat) → T_Z40_L1 → R_Z40, Dep 3 again → (∀ y0 y1 y2 y3 y4 y5 y6 y7 y8 y9 y10 y11, I y0 y1 y2 y3 y4 y5 y6 y7 y8 y9 y10 y11 → μ y0 y1 y2 y3 y4 y5 y6 y7 y8 y9 y10 y11 < μ a0 a1 a2 a3 a4 a5 a6 a7 a8 a9 a10 a11 → Tot (fun σ => again σ (y0, y1, y2, (y3, y4, ()), y5, y6, y7, y8, y9, y10, y11, ())) (Q y0 y1 y2 y3 y4 y5 y6 y7 y8 y9 y10 y11)) →
      Tot (fun σ => B_Z40_L1b (σ 0) (again4 σ) (again σ) a0 a1 a2 a3 a4 a5 a6 a7 a8 a9 a10 a11) (Q a0 a1 a2 a3 a4 a5 a6 a7 a8 a9 a10 a11)) :
    ∀ a0 a1 a2 a3 a4 a5 a6 a7 a8 a9 a10 a11, I a0 a1 a2 a3 a4 a5 a6 a7 a8 a9 a10 a11 → Tot (fun σ => B_Z40_L1 (σ 0) (again4 σ) (σ 0) (a0, a1, a2, (a3, a4, ()), a5, a6, a7, a8, a9, a10, a11, ())) (Q a0 a1 a2 a3 a4 a5 a6 a7 a8 a9 a10 a11) := fun a0 a1 a2 a3 a4 a5 a6 a7 a8 a9 a10 a11 => Tot.loop (L := fun σ n t => B_Z40_L1 (σ 0) (again4 σ) n t) (B := fun σ g => u_Z40_L1 (B_Z40_L1b (σ 0) (again4 σ) g)) (Q := u_Z40_L1 Q) 2 (by decide)
    (fun s s' h => by have e0 : s 0 = s' 0 := h 0 (by decide); simp only [e0, hag4 s s' h]) (fun s s' h => by have e0 : s 0 = s' 0 := h 0 (by decide); simp only [e0, hag4 s s' h]) (fun _ _ _ => rfl) (u_Z40_L1 I) (u_Z40_L1 μ)
    (fun t ht again hag h => step t.1 t.2.1 t.2.2.1 t.2.2.2.1.1 t.2.2.2.1.2.1 t.2.2.2.2.1 t.2.2.2.2.2.1 t.2.2.2.2.2.2.1 t.2.2.2.2.2.2.2.1 t.2.2.2.2.2.2.2.2.1 t.2.2.2.2.2.2.2.2.2.1 t.2.2.2.2.2.2.2.2.2.2.1 ht again hag fun y0 y1 y2 y3 y4 y5 y6 y7 y8 y9 y10 y11 => h (y0, y1, y2, (y3, y4, ()), y5, y6, y7, y8, y9, y10, y11, ())) (a0, a1, a2, (a3, a4, ()), a5, a6, a7, a8, a9, a10, a11, ())
abbrev A_Z40_L4 (Z : Type) : Type := (List (Int × Int)) → List Int → (List (Int × Int)) → Int → Int → Z
abbrev u_Z40_L4 {Z : Type} (f : A_Z40_L4 Z) (t : T_Z40_L4) : Z := f t.1 t.2.1 t.2.2.1 t.2.2.2.1 t.2.2.2.2.1
theorem loop_Z40_L4 {Q : A_Z40_L4 (((List Int × Unit) × (Unit)) → Prop)} (I : A_Z40_L4 Prop) (μ : A_Z40_L4 Nat)
    (step : ∀ a0 a1 a2 a3 a4, I a0 a1 a2 a3 a4 → ∀ again : (Nat → Nat) → T_Z40_L4 → R_Z40, Dep 2 again → (∀ y0 y1 y2 y3 y4, I y0 y1 y2 y3 y4 → μ y0 y1 y2 y3 y4 < μ a0 a1 a2 a3 a4 → Tot (fun σ => again σ (y0, y1, y2, y3, y4, ())) (Q y0 y1 y2 y3 y4)) →
      Tot (fun σ => B_Z40_L4b (σ 0) (again σ) a0 a1 a2 a3 a4) (Q a0 a1 a2 a3 a4)) :
    ∀ a0 a1 a2 a3 a4, I a0 a1 a2 a3 a4 → Tot (fun σ => B_Z40_L4 (σ 0) (σ 0) (a0, a1, a2, a3, a4, ())) (Q a0 a1 a2 a3 a4) := fun a0 a1 a2 a3 a4 => Tot.loop0 (L := fun k => B_Z40_L4 k) (B := fun k g => u_Z40_L4 (B_Z40_L4b k g)) (Q := u_Z40_L4 Q) (fun _ _ _ => rfl) (u_Z40_L4 I) (u_Z40_L4 μ)
    (fun t ht again hag h => step t.1 t.2.1 t.2.2.1 t.2.2.2.1 t.2.2.2.2.1 ht again hag fun y0 y1 y2 y3 y4 => h (y0, y1, y2, y3, y4, ())) (a0, a1, a2, a3, a4, ())
abbrev R_Z43 : Type := Option ((List Int × Unit) × (Unit))
abbrev C_Z43 : Type := (List (Int × Int)) → R_Z43
def B_Z43 (k : Nat) (c_Z44 : C_Z44) (c_Z40 : C_Z40) (ops : List (Int × Int)) : R_Z43 :=
  (c_Z44 ops).bind fun r4 =>
  bif (!r4.1.1) then
    some (([], ()), ())
  else
    (c_Z40 ops).bind fun r7 =>
    some ((r7.1.1, ()), ())
def F_Z43 : Nat → C_Z43
  | 0, _ => none
  | k + 1, ops => B_Z43 k (F_Z44 k) (F_Z40 k) ops
theorem tot_Z43 {ops : _} {Q : _ → Prop} (h : Tot (fun σ => B_Z43 (σ 0) (F_Z44 (σ 0)) (F_Z40 (σ 0)) ops) Q) : Tot (fun σ => F_Z43 (σ 0) ops) Q :=
  Tot.call (F := fun k => F_Z43 k ops) (B := fun k => B_Z43 k (F_Z44 k) (F_Z40 k) ops) (fun k => rfl) h
abbrev R_s_idle : Type := Option ((Bool × Unit) × (Unit))
abbrev C_s_idle : Type := (List (Int × Int)) → Int → R_s_idle
abbrev T_s_idle_L2 : Type := (List (Int × Int)) × Int × Int × Unit
def B_s_idle_J1 (k : Nat) (again2 : T_s_idle_L2 → R_s_idle) (ops : List (Int × Int)) (at1 i : Int) (t57 : Bool) : R_s_idle :=
  bif t57 then
    some ((true, ()), ())
  else
    again2 (ops, at1, w64 (i + 1), ())
def B_s_idle_J0 (k : Nat) (again2 : T_s_idle_L2 → R_s_idle) (ops : List (Int × Int)) (at1 i : Int) (t38 : Bool) : R_s_idle :=
  bif t38 then
    some ((false, ()), ())
  else
    chk (inb i ops.length) <|
    chk (inb at1 ops.length) <|
    bif (((rdx ((0 : Int), (0 : Int)) ops i).2) == ((rdx ((0 : Int), (0 : Int)) ops at1).2)) then
      chk (inb i ops.length) <|
      jn (fun t => B_s_idle_J1 k again2 t.1 t.2.1 t.2.2.1 t.2.2.2.1) (ops, at1, i, (((rdx ((0 : Int), (0 : Int)) ops i).1) == 15), ())
    else
      jn (fun t => B_s_idle_J1 k again2 t.1 t.2.1 t.2.2.1 t.2.2.2.1) (ops, at1, i, false, ())
def B_s_idle_L2b (k : Nat) (again2 : T_s_idle_L2 → R_s_idle) (ops : List (Int × Int)) (at1 i : Int) : R_s_idle :=
  bif decide (i < (len ops)) then
    chk (inb i ops.length) <|
    chk (inb at1 ops.length) <|
    bif (((rdx ((0 : Int), (0 : Int)) ops i).2) == ((rdx ((0 : Int), (0 : Int)) ops at1).2)) then
      chk (inb i ops.length) <|
      jn (fun t => B_s_idle_J0 k again2 t.1 t.2.1 t.2.2.1 t.2.2.2.1) (ops, at1, i, (((rdx ((0 : Int), (0 : Int)) ops i).1) == 16), ())
    else
      jn (fun t => B_s_idle_J0 k again2 t.1 t.2.1 t.2.2.1 t.2.2.2.1) (ops, at1, i, false, ())
  else
    some ((true, ()), ())
def B_s_idle_L2 (k : Nat) (n : Nat) (t : T_s_idle_L2) : R_s_idle :=
  lfix n (fun again t => B_s_idle_L2b k again t.1 t.2.1 t.2.2.1) t
def B_s_idle (k : Nat) (ops : List (Int × Int)) (at1 : Int) : R_s_idle :=
  chk (inb at1 ops.length) <|
  bif (((rdx ((0 : Int), (0 : Int)) ops at1).1) != 15) then
    some ((false, ()), ())
  else
    B_s_idle_L2 k k (ops, at1, w64 (at1 + 1), ())
def F_s_idle : Nat → C_s_idle
  | 0, _, _ => none
  | k + 1, ops, at1 => B_s_idle k ops at1
theorem tot_s_idle {ops at1 : _} {Q : _ → Prop} (h : Tot (fun σ => B_s_idle (σ 0) ops at1) Q) : Tot (fun σ => F_s_idle (σ 0) ops at1) Q :=
  Tot.call (F := fun k => F_s_idle k ops at1) (B := fun k => B_s_idle k ops at1) (fun k => rfl) h
abbrev A_s_idle_L2 (Z : Type) : Type := (List (Int × Int)) → Int → Int → Z
abbrev u_s_idle_L2 {Z : Type} (f : A_s_idle_L2 Z) (t : T_s_idle_L2) : Z := f t.1 t.2.1 t.2.2.1
theorem loop_s_idle_L2 {Q : A_s_idle_L2 (((Bool × Unit) × (Unit)) → Prop)} (I : A_s_idle_L2 Prop) (μ : A_s_idle_L2 Nat)
    (step : ∀ a0 a1 a2, I a0 a1 a2 → ∀ again : (Nat → Nat) → T_s_idle_L2 → R_s_idle, Dep 2 again → (∀ y0 y1 y2, I y0 y1 y2 → μ y0 y1 y2 < μ a0 a1 a2 → Tot (fun σ => again σ (y0, y1, y2, ())) (Q y0 y1 y2)) →
      Tot (fun σ => B_s_idle_L2b (σ 0) (again σ) a0 a1 a2) (Q a0 a1 a2)) :
    ∀ a0 a1 a2, I a0 a1 a2 → Tot (fun σ => B_s_idle_L2 (σ 0) (σ 0) (a0, a1, a2, ())) (Q a0 a1 a2) := fun a0 a1 a2 => Tot.loop0 (L := fun k => B_s_idle_L2 k) (B := fun k g => u_s_idle_L2 (B_s_idle_L2b k g)) (Q := u_s_idle_L2 Q) (fun _ _ _ => rfl) (u_s_idle_L2 I) (u_s_idle_L2 μ)
    (fun t ht again hag h => step t.1 t.2.1 t.2.2.1 ht again hag fun y0 y1 y2 => h (y0, y1, y2, ())) (a0, a1, a2, ())
abbrev R_Z45 : Type := Option ((List Int × Unit) × (Unit))
abbrev C_Z45 : Type := (List (Int × Int)) → R_Z45
abbrev T_Z45_L1 : Type := (List (Int × Int)) × List Int × Int × Unit
def B_Z45_J0 (k : Nat) (c_Z39 : C_Z39) (c_s_idle : C_s_idle) (again1 : T_Z45_L1 → R_Z45) (ops : List (Int × Int)) (out : List Int) (i : Int) : R_Z45 :=
  again1 (ops, out, w64 (i + 1), ())
def B_Z45_L1b (k : Nat) (c_Z39 : C_Z39) (c_s_idle : C_s_idle) (again1 : T_Z45_L1 → R_Z45) (ops : List (Int × Int)) (out : List Int) (i : Int) : R_Z45 :=
  bif decide (i < (len ops)) then
    (c_s_idle ops i).bind fun r17 =>
    bif r17.1.1 then
      chk (room out.length ([i]).length) <|
      jn (fun t => B_Z45_J0 k c_Z39 c_s_idle again1 t.1 t.2.1 t.2.2.1) (ops, (out ++ [i]), i, ())
    else
      jn (fun t => B_Z45_J0 k c_Z39 c_s_idle again1 t.1 t.2.1 t.2.2.1) (ops, out, i, ())
  else
    some ((out, ()), ())
def B_Z45_L1 (k : Nat) (c_Z39 : C_Z39) (c_s_idle : C_s_idle) (n : Nat) (t : T_Z45_L1) : R_Z45 :=
  lfix n (fun again t => B_Z45_L1b k c_Z39 c_s_idle again t.1 t.2.1 t.2.2.1) t
def B_Z45 (k : Nat) (c_Z39 : C_Z39) (c_s_idle : C_s_idle) (ops : List (Int × Int)) : R_Z45 :=
  (c_Z39 ops).bind fun r6 =>
  bif (!r6.1.1) then
    some (([], ()), ())
  else
    B_Z45_L1 k c_Z39 c_s_idle k (ops, [], 0, ())
def F_Z45 : Nat → C_Z45
  | 0, _ => none
  | k + 1, ops => B_Z45 k (F_Z39 k) (F_s_idle k) ops
theorem tot_Z45 {ops : _} {Q : _ → Prop} (h : Tot (fun σ => B_Z45 (σ 0) (F_Z39 (σ 0)) (F_s_idle (σ 0)) ops) Q) : Tot (fun σ => F_Z45 (σ 0) ops) Q :=
  Tot.call (F := fun k => F_Z45 k ops) (B := fun k => B_Z45 k (F_Z39 k) (F_s_idle k) ops) (fun k => rfl) h
abbrev A_Z45_L1 (Z : Type) : Type := (List (Int × Int)) → List Int → Int → Z
abbrev u_Z45_L1 {Z : Type} (f : A_Z45_L1 Z) (t : T_Z45_L1) : Z := f t.1 t.2.1 t.2.2.1
theorem loop_Z45_L1 {Q : A_Z45_L1 (((List Int × Unit) × (Unit)) → Prop)} (I : A_Z45_L1 Prop) (μ : A_Z45_L1 Nat)
    (step : ∀ a0 a1 a2, I a0 a1 a2 → ∀ again : (Nat → Nat) → T_Z45_L1 → R_Z45, Dep 2 again → (∀ y0 y1 y2, I y0 y1 y2 → μ y0 y1 y2 < μ a0 a1 a2 → Tot (fun σ => again σ (y0, y1, y2, ())) (Q y0 y1 y2)) →
      Tot (fun σ => B_Z45_L1b (σ 0) (F_Z39 (σ 0)) (F_s_idle (σ 0)) (again σ) a0 a1 a2) (Q a0 a1 a2)) :
    ∀ a0 a1 a2, I a0 a1 a2 → Tot (fun σ => B_Z45_L1 (σ 0) (F_Z39 (σ 0)) (F_s_idle (σ 0)) (σ 0) (a0, a1, a2, ())) (Q a0 a1 a2) := fun a0 a1 a2 => Tot.loop0 (L := fun k => B_Z45_L1 k (F_Z39 k) (F_s_idle k)) (B := fun k g => u_Z45_L1 (B_Z45_L1b k (F_Z39 k) (F_s_idle k) g)) (Q := u_Z45_L1 Q) (fun _ _ _ => rfl) (u_Z45_L1 I) (u_Z45_L1 μ)
    (fun t ht again hag h => step t.1 t.2.1 t.2.2.1 ht again hag fun y0 y1 y2 => h (y0, y1, y2, ())) (a0, a1, a2, ())
abbrev R_Z29 : Type := Option ((Bool × Unit) × (Unit))
abbrev C_Z29 : Type := List Int → List Int → R_Z29
abbrev T_Z29_L0 : Type := List Int × List Int × Int × Unit
def B_Z29_L0b (k : Nat) (again0 : T_Z29_L0 → R_Z29) (a b : List Int) (i : Int) : R_Z29 :=
  bif decide (i < (len a)) then
    chk (inb i a.length) <|
    chk (inb i b.length) <|
    bif ((rdx (0 : Int) a i) != (rdx (0 : Int) b i)) then
      some ((false, ()), ())
    else
      again0 (a, b, w64 (i + 1), ())
  else
    some ((true, ()), ())
def B_Z29_L0 (k : Nat) (n : Nat) (t : T_Z29_L0) : R_Z29 :=
  lfix n (fun again t => B_Z29_L0b k again t.1 t.2.1 t.2.2.1) t
def B_Z29 (k : Nat) (a b : List Int) : R_Z29 :=
  bif ((len a) != (len b)) then
    some ((false, ()), ())
  else
    B_Z29_L0 k k (a, b, 0, ())
def F_Z29 : Nat → C_Z29
  | 0, _, _ => none
  | k + 1, a, b => B_Z29 k a b
theorem tot_Z29 {a b : _} {Q : _ → Prop} (h : Tot (fun σ => B_Z29 (σ 0) a b) Q) : Tot (fun σ => F_Z29 (σ 0) a b) Q :=
  Tot.call (F := fun k => F_Z29 k a b) (B := fun k => B_Z29 k a b) (fun k => rfl) h
abbrev A_Z29_L0 (Z : Type) : Type := List Int → List Int → Int → Z
abbrev u_Z29_L0 {Z : Type} (f : A_Z29_L0 Z) (t : T_Z29_L0) : Z := f t.1 t.2.1 t.2.2.1
theorem loop_Z29_L0 {Q : A_Z29_L0 (((Bool × Unit) × (Unit)) → Prop)} (I : A_Z29_L0 Prop) (μ : A_Z29_L0 Nat)
    (step : ∀ a0 a1 a2, I a0 a1 a2 → ∀ again : (Nat → Nat) → T_Z29_L0 → R_Z29, Dep 2 again → (∀ y0 y1 y2, I y0 y1 y2 → μ y0 y1 y2 < μ a0 a1 a2 → Tot (fun σ => again σ (y0, y1, y2, ())) (Q y0 y1 y2)) →
      Tot (fun σ => B_Z29_L0b (σ 0) (again σ) a0 a1 a2) (Q a0 a1 a2)) :
    ∀ a0 a1 a2, I a0 a1 a2 → Tot (fun σ => B_Z29_L0 (σ 0) (σ 0) (a0, a1, a2, ())) (Q a0 a1 a2) := fun a0 a1 a2 => Tot.loop0 (L := fun k => B_Z29_L0 k) (B := fun k g => u_Z29_L0 (B_Z29_L0b k g)) (Q := u_Z29_L0 Q) (fun _ _ _ => rfl) (u_Z29_L0 I) (u_Z29_L0 μ)
    (fun t ht again hag h => step t.1 t.2.1 t.2.2.1 ht again hag fun y0 y1 y2 => h (y0, y1, y2, ())) (a0, a1, a2, ())
abbrev R_Z14 : Type := Option ((((List (Int × Int × List Int)) × Unit × List Int × Bool × Unit) × Unit) × (Unit))
abbrev C_Z14 : Type := Int → R_Z14
abbrev T_Z14_L2 : Type := Int × (Unit × Unit × Unit × Bool × Unit) × (Unit × Unit × List Int × Bool × Unit) × Int × Int × Unit
def B_Z14_J1 (k : Nat) (again2 : T_Z14_L2 → R_Z14) (filled : Int) (t2_Done : Bool) (m_Memo : List Int) (m_Done : Bool) (t16 t17 : Int) : R_Z14 :=
  again2 (filled, ((), (), (), t2_Done, ()), ((), (), m_Memo, m_Done, ()), t16, w64 (t17 + 1), ())
def B_Z14_J3 (k : Nat) (t2_Done : Bool) (m_Nodes : List (Int × Int × List Int)) (m_Memo : List Int) (m_Done : Bool) : R_Z14 :=
  some (((m_Nodes, (), m_Memo, m_Done, ()), ()), ())
def B_Z14_L2b (k : Nat) (again2 : T_Z14_L2 → R_Z14) (filled : Int) (t2_Done : Bool) (m_Memo : List Int) (m_Done : Bool) (t16 t17 : Int) : R_Z14 :=
  bif decide (t17 < t16) then
    bif decide (t17 ≥ filled) then
      chk (inb t17 m_Memo.length) <|
      chk (decide (t17.toNat < m_Memo.length)) <|
      jn (fun t => B_Z14_J1 k again2 t.1 t.2.1.2.2.2.1 t.2.2.1.2.2.1 t.2.2.1.2.2.2.1 t.2.2.2.1 t.2.2.2.2.1) (filled, ((), (), (), t2_Done, ()), ((), (), (m_Memo.set t17.toNat (-1)), m_Done, ()), t16, t17, ())
    else
      jn (fun t => B_Z14_J1 k again2 t.1 t.2.1.2.2.2.1 t.2.2.1.2.2.1 t.2.2.1.2.2.2.1 t.2.2.2.1 t.2.2.2.2.1) (filled, ((), (), (), t2_Done, ()), ((), (), m_Memo, m_Done, ()), t16, t17, ())
  else
    bif (filled == 1) then
      jn (fun t => B_Z14_J3 k t.1.2.2.2.1 t.2.1.1 t.2.1.2.2.1 t.2.1.2.2.2.1) (((), (), (), t2_Done, ()), ([(0, (0, []))], (), m_Memo, m_Done, ()), ())
    else
      jn (fun t => B_Z14_J3 k t.1.2.2.2.1 t.2.1.1 t.2.1.2.2.1 t.2.1.2.2.2.1) (((), (), (), t2_Done, ()), ([], (), m_Memo, m_Done, ()), ())
def B_Z14_L2 (k : Nat) (n : Nat) (t : T_Z14_L2) : R_Z14 :=
  lfix n (fun again t => B_Z14_L2b k again t.1 t.2.1.2.2.2.1 t.2.2.1.2.2.1 t.2.2.1.2.2.2.1 t.2.2.2.1 t.2.2.2.2.1) t
def B_Z14_J0 (k : Nat) (filled : Int) (t2_Done t10 : Bool) : R_Z14 :=
  bif t10 then
    some ((([], (), [], false, ()), ()), ())
  else
    chk ((decide (0 ≤ 20 ∧ 20 ≤ (lim : Int)) && (20 == 20))) <|
    B_Z14_L2 k k (filled, ((), (), (), t2_Done, ()), ((), (), (List.replicate (20 : Int).toNat (0 : Int)), false, ()), len (List.replicate (20 : Int).toNat (0 : Int)), 0, ())
def B_Z14 (k : Nat) (filled : Int) : R_Z14 :=
  bif decide (filled < 0) then
    jn (fun t => B_Z14_J0 k t.1 t.2.1.2.2.2.1 t.2.2.1) (filled, ((), (), (), false, ()), true, ())
  else
    jn (fun t => B_Z14_J0 k t.1 t.2.1.2.2.2.1 t.2.2.1) (filled, ((), (), (), false, ()), decide (filled > 1), ())
def F_Z14 : Nat → C_Z14
  | 0, _ => none
  | k + 1, filled => B_Z14 k filled
theorem tot_Z14 {filled : _} {Q : _ → Prop} (h : Tot (fun σ => B_Z14 (σ 0) filled) Q) : Tot (fun σ => F_Z14 (σ 0) filled) Q :=
  Tot.call (F := fun k => F_Z14 k filled) (B := fun k => B_Z14 k filled) (fun k => rfl) h
abbrev A_Z14_L2 (Z : Type) : Type := Int → Bool → List Int → Bool → Int → Int → Z
abbrev u_Z14_L2 {Z : Type} (f : A_Z14_L2 Z) (t : T_Z14_L2) : Z := f t.1 t.2.1.2.2.2.1 t.2.2.1.2.2.1 t.2.2.1.2.2.2.1 t.2.2.2.1 t.2.2.2.2.1
theorem loop_Z14_L2 {Q : A_Z14_L2 (((((List (Int × Int × List Int)) × Unit × List Int × Bool × Unit) × Unit) × (Unit)) → Prop)} (I : A_Z14_L2 Prop) (μ : A_Z14_L2 Nat)
    (step : ∀ a0 a1 a2 a3 a4 a5, I a0 a1 a2 a3 a4 a5 → ∀ again : (Nat → Nat) → T_Z14_L2 → R_Z14, Dep 2 again → (∀ y0 y1 y2 y3 y4 y5, I y0 y1 y2 y3 y4 y5 → μ y0 y1 y2 y3 y4 y5 < μ a0 a1 a2 a3 a4 a5 → Tot (fun σ => again σ (y0, ((), (), (), y1, ()), ((), (), y2, y3, ()), y4, y5, ())) (Q y0 y1 y2 y3 y4 y5)) →
      Tot (fun σ => B_Z14_L2b (σ 0) (again σ) a0 a1 a2 a3 a4 a5) (Q a0 a1 a2 a3 a4 a5)) :
    ∀ a0 a1 a2 a3 a4 a5, I a0 a1 a2 a3 a4 a5 → Tot (fun σ => B_Z14_L2 (σ 0) (σ 0) (a0, ((), (), (), a1, ()), ((), (), a2, a3, ()), a4, a5, ())) (Q a0 a1 a2 a3 a4 a5) := fun a0 a1 a2 a3 a4 a5 => Tot.loop0 (L := fun k => B_Z14_L2 k) (B := fun k g => u_Z14_L2 (B_Z14_L2b k g)) (Q := u_Z14_L2 Q) (fun _ _ _ => rfl) (u_Z14_L2 I) (u_Z14_L2 μ)
    (fun t ht again hag h => step t.1 t.2.1.2.2.2.1 t.2.2.1.2.2.1 t.2.2.1.2.2.2.1 t.2.2.2.1 t.2.2.2.2.1 ht again hag fun y0 y1 y2 y3 y4 y5 => h (y0, ((), (), (), y1, ()), ((), (), y2, y3, ()), y4, y5, ())) (a0, ((), (), (), a1, ()), ((), (), a2, a3, ()), a4, a5, ())
abbrev R_Z1 : Type := Option ((List Int × Unit) × (Unit))
abbrev C_Z1 : Type := List Int → R_Z1
def B_Z1 (k : Nat) (s : List Int) : R_Z1 :=
  chk (room ([] : List Int).length s.length) <|
  some ((s, ()), ())
def F_Z1 : Nat → C_Z1
  | 0, _ => none
  | k + 1, s => B_Z1 k s
theorem tot_Z1 {s : _} {Q : _ → Prop} (h : Tot (fun σ => B_Z1 (σ 0) s) Q) : Tot (fun σ => F_Z1 (σ 0) s) Q :=
  Tot.call (F := fun k => F_Z1 k s) (B := fun k => B_Z1 k s) (fun k => rfl) h
abbrev R_Z2 : Type := Option ((Int × Unit) × (((List (Int × Int × List Int)) × List Int × List Int × Bool × Unit) × Unit))
abbrev C_Z2 : Type := (List (Int × Int × List Int)) → List Int → List Int → Bool → R_Z2
abbrev T_Z2_L1 : Type := ((List (Int × Int × List Int)) × List Int × List Int × Bool × Unit) × Int × Unit
def B_Z2_J0 (k : Nat) (again1 : T_Z2_L1 → R_Z2) (m_Nodes : List (Int × Int × List Int)) (m_Stack m_Memo : List Int) (m_Done : Bool) (n3 : Int) (t27 : Bool) : R_Z2 :=
  bif t27 then
    again1 ((m_Nodes, m_Stack, m_Memo, m_Done, ()), w64 (n3 + 1), ())
  else
    some ((n3, ()), ((m_Nodes, m_Stack, m_Memo, m_Done, ()), ()))
def B_Z2_L1b (k : Nat) (again1 : T_Z2_L1 → R_Z2) (m_Nodes : List (Int × Int × List Int)) (m_Stack m_Memo : List Int) (m_Done : Bool) (n3 : Int) : R_Z2 :=
  bif decide (n3 < (len m_Stack)) then
    chk (inb (w64 ((w64 ((len m_Stack) - 1)) - n3)) m_Stack.length) <|
    chk (decide ((w64 ((w64 ((len m_Stack) - 1)) - n3)).toNat < m_Stack.length)) <|
    jn (fun t => B_Z2_J0 k again1 t.1.1 t.1.2.1 t.1.2.2.1 t.1.2.2.2.1 t.2.1 t.2.2.1) ((m_Nodes, m_Stack, m_Memo, m_Done, ()), n3, decide ((m_Stack.getD ((w64 ((w64 ((len m_Stack) - 1)) - n3)).toNat) (0 : Int)) ≥ 0), ())
  else
    jn (fun t => B_Z2_J0 k again1 t.1.1 t.1.2.1 t.1.2.2.1 t.1.2.2.2.1 t.2.1 t.2.2.1) ((m_Nodes, m_Stack, m_Memo, m_Done, ()), n3, false, ())
def B_Z2_L1 (k : Nat) (n : Nat) (t : T_Z2_L1) : R_Z2 :=
  lfix n (fun again t => B_Z2_L1b k again t.1.1 t.1.2.1 t.1.2.2.1 t.1.2.2.2.1 t.2.1) t
def B_Z2 (k : Nat) (m_Nodes : List (Int × Int × List Int)) (m_Stack m_Memo : List Int) (m_Done : Bool) : R_Z2 :=
  B_Z2_L1 k k ((m_Nodes, m_Stack, m_Memo, m_Done, ()), 0, ())
def F_Z2 : Nat → C_Z2
  | 0, _, _, _, _ => none
  | k + 1, m_Nodes, m_Stack, m_Memo, m_Done => B_Z2 k m_Nodes m_Stack m_Memo m_Done
theorem tot_Z2 {m_Nodes m_Stack m_Memo m_Done : _} {Q : _ → Prop} (h : Tot (fun σ => B_Z2 (σ 0) m_Nodes m_Stack m_Memo m_Done) Q) : Tot (fun σ => F_Z2 (σ 0) m_Nodes m_Stack m_Memo m_Done) Q :=
  Tot.call (F := fun k => F_Z2 k m_Nodes m_Stack m_Memo m_Done) (B := fun k => B_Z2 k m_Nodes m_Stack m_Memo m_Done) (fun k => rfl) h
abbrev A_Z2_L1 (Z : Type) : Type := (List (Int × Int × List Int)) → List Int → List Int → Bool → Int → Z
abbrev u_Z2_L1 {Z : Type} (f : A_Z2_L1 Z) (t : T_Z2_L1) : Z := f t.1.1 t.1.2.1 t.1.2.2.1 t.1.2.2.2.1 t.2.1
theorem loop_Z2_L1 {Q : A_Z2_L1 (((Int × Unit) × (((List (Int × Int × List Int)) × List Int × List Int × Bool × Unit) × Unit)) → Prop)} (I : A_Z2_L1 Prop) (μ : A_Z2_L1 Nat)
    (step : ∀ a0 a1 a2 a3 a4, I a0 a1 a2 a3 a4 → ∀ again : (Nat → Nat) → T_Z2_L1 → R_Z2, Dep 2 again → (∀ y0 y1 y2 y3 y4, I y0 y1 y2 y3 y4 → μ y0 y1 y2 y3 y4 < μ a0 a1 a2 a3 a4 → Tot (fun σ => again σ ((y0, y1, y2, y3, ()), y4, ())) (Q y0 y1 y2 y3 y4)) →
      Tot (fun σ => B_Z2_L1b (σ 0) (again σ) a0 a1 a2 a3 a4) (Q a0 a1 a2 a3 a4)) :
    ∀ a0 a1 a2 a3 a4, I a0 a1 a2 a3 a4 → Tot (fun σ => B_Z2_L1 (σ 0) (σ 0) ((a0, a1, a2, a3, ()), a4, ())) (Q a0 a1 a2 a3 a4) := fun a0 a1 a2 a3 a4 => Tot.loop0 (L := fun k => B_Z2_L1 k) (B := fun k g => u_Z2_L1 (B_Z2_L1b k g)) (Q := u_Z2_L1 Q) (fun _ _ _ => rfl) (u_Z2_L1 I) (u_Z2_L1 μ)
    (fun t ht again hag h => step t.1.1 t.1.2.1 t.1.2.2.1 t.1.2.2.2.1 t.2.1 ht again hag fun y0 y1 y2 y3 y4 => h ((y0, y1, y2, y3, ()), y4, ())) ((a0, a1, a2, a3, ()), a4, ())
abbrev R_Z5 : Type := Option ((Bool × Unit) × (((List (Int × Int × List Int)) × List Int × List Int × Bool × Unit) × Unit))
abbrev C_Z5 : Type := (List (Int × Int × List Int)) → List Int → List Int → Bool → Int → R_Z5
def B_Z5 (k : Nat) (m_Nodes : List (Int × Int × List Int)) (m_Stack m_Memo : List Int) (m_Done : Bool) (i : Int) : R_Z5 :=
  chk (room m_Stack.length ([i]).length) <|
  some ((decide ((len (m_Stack ++ [i])) ≤ 300), ()), ((m_Nodes, (m_Stack ++ [i]), m_Memo, m_Done, ()), ()))
def F_Z5 : Nat → C_Z5
  | 0, _, _, _, _, _ => none
  | k + 1, m_Nodes, m_Stack, m_Memo, m_Done, i => B_Z5 k m_Nodes m_Stack m_Memo m_Done i
theorem tot_Z5 {m_Nodes m_Stack m_Memo m_Done i : _} {Q : _ → Prop} (h : Tot (fun σ => B_Z5 (σ 0) m_Nodes m_Stack m_Memo m_Done i) Q) : Tot (fun σ => F_Z5 (σ 0) m_Nodes m_Stack m_Memo m_Done i) Q :=
  Tot.call (F := fun k => F_Z5 k m_Nodes m_Stack m_Memo m_Done i) (B := fun k => B_Z5 k m_Nodes m_Stack m_Memo m_Done i) (fun k => rfl) h
abbrev R_Z7 : Type := Option ((Bool × Unit) × (((List (Int × Int × List Int)) × List Int × List Int × Bool × Unit) × Unit))
abbrev C_Z7 : Type := (List (Int × Int × List Int)) → List Int → List Int → Bool → Int → Int → List Int → R_Z7
def B_Z7 (k : Nat) (c_Z1 : C_Z1) (c_Z5 : C_Z5) (m_Nodes : List (Int × Int × List Int)) (m_Stack m_Memo : List Int) (m_Done : Bool) (kind value : Int) (kids : List Int) : R_Z7 :=
  (c_Z1 kids).bind fun r17 =>
  chk (room m_Nodes.length ([(kind, (value, r17.1.1))]).length) <|
  bif decide ((len (m_Nodes ++ [(kind, (value, r17.1.1))])) ≤ 300) then
    (c_Z5 (m_Nodes ++ [(kind, (value, r17.1.1))]) m_Stack m_Memo m_Done (w64 ((len (m_Nodes ++ [(kind, (value, r17.1.1))])) - 1))).bind fun r37 =>
    some ((r37.1.1, ()), ((r37.2.1.1, r37.2.1.2.1, r37.2.1.2.2.1, r37.2.1.2.2.2.1, ()), ()))
  else
    some ((false, ()), (((m_Nodes ++ [(kind, (value, r17.1.1))]), m_Stack, m_Memo, m_Done, ()), ()))
def F_Z7 : Nat → C_Z7
  | 0, _, _, _, _, _, _, _ => none
  | k + 1, m_Nodes, m_Stack, m_Memo, m_Done, kind, value, kids => B_Z7 k (F_Z1 k) (F_Z5 k) m_Nodes m_Stack m_Memo m_Done kind value kids
theorem tot_Z7 {m_Nodes m_Stack m_Memo m_Done kind value kids : _} {Q : _ → Prop} (h : Tot (fun σ => B_Z7 (σ 0) (F_Z1 (σ 0)) (F_Z5 (σ 0)) m_Nodes m_Stack m_Memo m_Done kind value kids) Q) : Tot (fun σ => F_Z7 (σ 0) m_Nodes m_Stack m_Memo m_Done kind value kids) Q :=
  Tot.call (F := fun k => F_Z7 k m_Nodes m_Stack m_Memo m_Done kind value kids) (B := fun k => B_Z7 k (F_Z1 k) (F_Z5 k) m_Nodes m_Stack m_Memo m_Done kind value kids) (fun k => rfl) h
abbrev R_Z4 : Type := Option ((List Int × Unit) × (((List (Int × Int × List Int)) × List Int × List Int × Bool × Unit) × Unit))
abbrev C_Z4 : Type := (List (Int × Int × List Int)) → List Int → List Int → Bool → Int → R_Z4
def B_Z4 (k : Nat) (c_Z1 : C_Z1) (m_Nodes : List (Int × Int × List Int)) (m_Stack m_Memo : List Int) (m_Done : Bool) (n1 : Int) : R_Z4 :=
  chk (cutb (w64 ((len m_Stack) - n1)) (len m_Stack) m_Stack.length) <|
  (c_Z1 ((m_Stack.take ((len m_Stack).toNat)).drop ((w64 ((len m_Stack) - n1)).toNat))).bind fun r20 =>
  chk (cutb 0 (w64 ((len m_Stack) - n1)) m_Stack.length) <|
  some ((r20.1.1, ()), ((m_Nodes, (m_Stack.take ((w64 ((len m_Stack) - n1)).toNat)), m_Memo, m_Done, ()), ()))
def F_Z4 : Nat → C_Z4
  | 0, _, _, _, _, _ => none
  | k + 1, m_Nodes, m_Stack, m_Memo, m_Done, n1 => B_Z4 k (F_Z1 k) m_Nodes m_Stack m_Memo m_Done n1
theorem tot_Z4 {m_Nodes m_Stack m_Memo m_Done n1 : _} {Q : _ → Prop} (h : Tot (fun σ => B_Z4 (σ 0) (F_Z1 (σ 0)) m_Nodes m_Stack m_Memo m_Done n1) Q) : Tot (fun σ => F_Z4 (σ 0) m_Nodes m_Stack m_Memo m_Done n1) Q :=
  Tot.call (F := fun k => F_Z4 k m_Nodes m_Stack m_Memo m_Done n1) (B := fun k => B_Z4 k (F_Z1 k) m_Nodes m_Stack m_Memo m_Done n1) (fun k => rfl) h
abbrev R_Z3 : Type := Option ((List Int × Bool × Unit) × (((List (Int × Int × List Int)) × List Int × List Int × Bool × Unit) × Unit))
abbrev C_Z3 : Type := (List (Int × Int × List Int)) → List Int → List Int → Bool → R_Z3
def B_Z3 (k : Nat) (c_Z2 : C_Z2) (c_Z4 : C_Z4) (m_Nodes : List (Int × Int × List Int)) (m_Stack m_Memo : List Int) (m_Done : Bool) : R_Z3 :=
  (c_Z2 m_Nodes m_Stack m_Memo m_Done).bind fun r6 =>
  bif (r6.1.1 == (len r6.2.1.2.1)) then
    some (([], false, ()), ((r6.2.1.1, r6.2.1.2.1, r6.2.1.2.2.1, r6.2.1.2.2.2.1, ()), ()))
  else
    (c_Z4 r6.2.1.1 r6.2.1.2.1 r6.2.1.2.2.1 r6.2.1.2.2.2.1 (w64 (r6.1.1 + 1))).bind fun r17 =>
    chk (cutb 1 (len r17.1.1) r17.1.1.length) <|
    some ((((r17.1.1.take ((len r17.1.1).toNat)).drop ((1 : Int).toNat)), true, ()), ((r17.2.1.1, r17.2.1.2.1, r17.2.1.2.2.1, r17.2.1.2.2.2.1, ()), ()))
def F_Z3 : Nat → C_Z3
  | 0, _, _, _, _ => none
  | k + 1, m_Nodes, m_Stack, m_Memo, m_Done => B_Z3 k (F_Z2 k) (F_Z4 k) m_Nodes m_Stack m_Memo m_Done
theorem tot_Z3 {m_Nodes m_Stack m_Memo m_Done : _} {Q : _ → Prop} (h : Tot (fun σ => B_Z3 (σ 0) (F_Z2 (σ 0)) (F_Z4 (σ 0)) m_Nodes m_Stack m_Memo m_Done) Q) : Tot (fun σ => F_Z3 (σ 0) m_Nodes m_Stack m_Memo m_Done) Q :=
  Tot.call (F := fun k => F_Z3 k m_Nodes m_Stack m_Memo m_Done) (B := fun k => B_Z3 k (F_Z2 k) (F_Z4 k) m_Nodes m_Stack m_Memo m_Done) (fun k => rfl) h
abbrev R_Z11 : Type := Option ((Option Nat × Bool × Unit) × (((List (Int × Int × List Int)) × List Int × List Int × Bool × Unit) × Unit))
abbrev C_Z11 : Type := (List (Int × Int × List Int)) → List Int → List Int → Bool → Int → R_Z11
def B_Z11 (k : Nat) (c_Z2 : C_Z2) (m_Nodes : List (Int × Int × List Int)) (m_Stack m_Memo : List Int) (m_Done : Bool) (kind : Int) : R_Z11 :=
  (c_Z2 m_Nodes m_Stack m_Memo m_Done).bind fun r8 =>
  bif (r8.1.1 == 0) then
    some ((none, false, ()), ((r8.2.1.1, r8.2.1.2.1, r8.2.1.2.2.1, r8.2.1.2.2.2.1, ()), ()))
  else
    chk (inb (w64 ((len r8.2.1.2.1) - 1)) r8.2.1.2.1.length) <|
    chk (decide ((w64 ((len r8.2.1.2.1) - 1)).toNat < r8.2.1.2.1.length)) <|
    chk (inb (r8.2.1.2.1.getD ((w64 ((len r8.2.1.2.1) - 1)).toNat) (0 : Int)) r8.2.1.1.length) <|
    chk (decide ((r8.2.1.2.1.getD ((w64 ((len r8.2.1.2.1) - 1)).toNat) (0 : Int)).toNat < r8.2.1.1.length)) <|
    let v31 : Int := (r8.2.1.1.getD ((r8.2.1.2.1.getD ((w64 ((len r8.2.1.2.1) - 1)).toNat) (0 : Int)).toNat) ((0 : Int), ((0 : Int), ([] : List Int)))).1
    some (((some ((r8.2.1.2.1.getD ((w64 ((len r8.2.1.2.1) - 1)).toNat) (0 : Int)).toNat)), (v31 == kind), ()), ((r8.2.1.1, r8.2.1.2.1, r8.2.1.2.2.1, r8.2.1.2.2.2.1, ()), ()))
def F_Z11 : Nat → C_Z11
  | 0, _, _, _, _, _ => none
  | k + 1, m_Nodes, m_Stack, m_Memo, m_Done, kind => B_Z11 k (F_Z2 k) m_Nodes m_Stack m_Memo m_Done kind
theorem tot_Z11 {m_Nodes m_Stack m_Memo m_Done kind : _} {Q : _ → Prop} (h : Tot (fun σ => B_Z11 (σ 0) (F_Z2 (σ 0)) m_Nodes m_Stack m_Memo m_Done kind) Q) : Tot (fun σ => F_Z11 (σ 0) m_Nodes m_Stack m_Memo m_Done kind) Q :=
  Tot.call (F := fun k => F_Z11 k m_Nodes m_Stack m_Memo m_Done kind) (B := fun k => B_Z11 k (F_Z2 k) m_Nodes m_Stack m_Memo m_Done kind) (fun k => rfl) h
abbrev R_Z47 : Type := Option ((Int × Unit) × (Unit))
abbrev C_Z47 : Type := (List (Int × Int × List Int)) → List Int → Int → Int → R_Z47
abbrev T_Z47_L1 : Type := (List (Int × Int × List Int)) × List Int × (Int × Int × Unit × Unit) × Int × Unit
def B_Z47_J0 (k : Nat) (again1 : T_Z47_L1 → R_Z47) (nodes : List (Int × Int × List Int)) (kids : List Int) (key_Kind key_Value i : Int) (t33 : Bool) : R_Z47 :=
  bif t33 then
    some ((i, ()), ())
  else
    again1 (nodes, kids, (key_Kind, key_Value, (), ()), w64 (i + 2), ())
def B_Z47_L1b (k : Nat) (again1 : T_Z47_L1 → R_Z47) (nodes : List (Int × Int × List Int)) (kids : List Int) (key_Kind key_Value i : Int) : R_Z47 :=
  bif decide (i < (len kids)) then
    chk (inb i kids.length) <|
    chk (inb (rdx (0 : Int) kids i) nodes.length) <|
    let v26 : Bool := (((rdx ((0 : Int), ((0 : Int), ([] : List Int))) nodes (rdx (0 : Int) kids i)).1) == key_Kind)
    bif v26 then
      let v32 : Bool := ((((rdx ((0 : Int), ((0 : Int), ([] : List Int))) nodes (rdx (0 : Int) kids i)).2).1) == key_Value)
      jn (fun t => B_Z47_J0 k again1 t.1 t.2.1 t.2.2.1.1 t.2.2.1.2.1 t.2.2.2.1 t.2.2.2.2.1) (nodes, kids, (key_Kind, key_Value, (), ()), i, v32, ())
    else
      jn (fun t => B_Z47_J0 k again1 t.1 t.2.1 t.2.2.1.1 t.2.2.1.2.1 t.2.2.2.1 t.2.2.2.2.1) (nodes, kids, (key_Kind, key_Value, (), ()), i, false, ())
  else
    some (((-1), ()), ())
def B_Z47_L1 (k : Nat) (n : Nat) (t : T_Z47_L1) : R_Z47 :=
  lfix n (fun again t => B_Z47_L1b k again t.1 t.2.1 t.2.2.1.1 t.2.2.1.2.1 t.2.2.2.1) t
def B_Z47 (k : Nat) (nodes : List (Int × Int × List Int)) (kids : List Int) (key_0 key_1 : Int) : R_Z47 :=
  B_Z47_L1 k k (nodes, kids, (key_0, key_1, (), ()), 0, ())
def F_Z47 : Nat → C_Z47
  | 0, _, _, _, _ => none
  | k + 1, nodes, kids, key_0, key_1 => B_Z47 k nodes kids key_0 key_1
theorem tot_Z47 {nodes kids key_0 key_1 : _} {Q : _ → Prop} (h : Tot (fun σ => B_Z47 (σ 0) nodes kids key_0 key_1) Q) : Tot (fun σ => F_Z47 (σ 0) nodes kids key_0 key_1) Q :=
  Tot.call (F := fun k => F_Z47 k nodes kids key_0 key_1) (B := fun k => B_Z47 k nodes kids key_0 key_1) (fun k => rfl) h
abbrev A_Z47_L1 (Z : Type) : Type := (List (Int × Int × List Int)) → List Int → Int → Int → Int → Z
abbrev u_Z47_L1 {Z : Type} (f : A_Z47_L1 Z) (t : T_Z47_L1) : Z := f t.1 t.2.1 t.2.2.1.1 t.2.2.1.2.1 t.2.2.2.1
theorem loop_Z47_L1 {Q : A_Z47_L1 (((Int × Unit) × (Unit)) → Prop)} (I : A_Z47_L1 Prop) (μ : A_Z47_L1 Nat)
    (step : ∀ a0 a1 a2 a3 a4, I a0 a1 a2 a3 a4 → ∀ again : (Nat → Nat) → T_Z47_L1 → R_Z47, Dep 2 again → (∀ y0 y1 y2 y3 y4, I y0 y1 y2 y3 y4 → μ y0 y1 y2 y3 y4 < μ a0 a1 a2 a3 a4 → Tot (fun σ => again σ (y0, y1, (y2, y3, (), ()), y4, ())) (Q y0 y1 y2 y3 y4)) →
      Tot (fun σ => B_Z47_L1b (σ 0) (again σ) a0 a1 a2 a3 a4) (Q a0 a1 a2 a3 a4)) :
    ∀ a0 a1 a2 a3 a4, I a0 a1 a2 a3 a4 → Tot (fun σ => B_Z47_L1 (σ 0) (σ 0) (a0, a1, (a2, a3, (), ()), a4, ())) (Q a0 a1 a2 a3 a4) := fun a0 a1 a2 a3 a4 => Tot.loop0 (L := fun k => B_Z47_L1 k) (B := fun k g => u_Z47_L1 (B_Z47_L1b k g)) (Q := u_Z47_L1 Q) (fun _ _ _ => rfl) (u_Z47_L1 I) (u_Z47_L1 μ)
    (fun t ht again hag h => step t.1 t.2.1 t.2.2.1.1 t.2.2.1.2.1 t.2.2.2.1 ht again hag fun y0 y1 y2 y3 y4 => h (y0, y1, (y2, y3, (), ()), y4, ())) (a0, a1, (a2, a3, (), ()), a4, ())
abbrev R_Z10 : Type := Option ((Bool × Unit) × (((List (Int × Int × List Int)) × List Int × List Int × Bool × Unit) × Unit))
abbrev C_Z10 : Type := (List (Int × Int × List Int)) → List Int → List Int → Bool → List Int → R_Z10
abbrev T_Z10_L3 : Type := ((List (Int × Int × List Int)) × List Int × List Int × Bool × Unit) × List Int × Int × Option Nat × Unit
abbrev T_Z10_L1 : Type := ((List (Int × Int × List Int)) × List Int × List Int × Bool × Unit) × List Int × Int × Option Nat × Unit
def B_Z10_J2 (k : Nat) (c_Z11 : C_Z11) (c_Z47 : C_Z47) (again3 : T_Z10_L3 → R_Z10) (m_Nodes : List (Int × Int × List Int)) (m_Stack m_Memo : List Int) (m_Done : Bool) (pairs : List Int) (i : Int) (x : Option Nat) : R_Z10 :=
  again3 ((m_Nodes, m_Stack, m_Memo, m_Done, ()), pairs, w64 (i + 2), x, ())
def B_Z10_L3b (k : Nat) (c_Z11 : C_Z11) (c_Z47 : C_Z47) (again3 : T_Z10_L3 → R_Z10) (m_Nodes : List (Int × Int × List Int)) (m_Stack m_Memo : List Int) (m_Done : Bool) (pairs : List Int) (i : Int) (x : Option Nat) : R_Z10 :=
  bif decide (i < (len pairs)) then
    chk (inb i pairs.length) <|
    chk (inb (rdx (0 : Int) pairs i) m_Nodes.length) <|
    chk (decide ((rdx (0 : Int) pairs i).toNat < m_Nodes.length)) <|
    (x).bind fun p16 =>
    chk (decide (p16 < m_Nodes.length)) <|
    (c_Z47 (m_Nodes.set p16 ((m_Nodes.getD p16 ((0 : Int), ((0 : Int), ([] : List Int)))).1, (((m_Nodes.getD p16 ((0 : Int), ((0 : Int), ([] : List Int)))).2).1, ((m_Nodes.getD p16 ((0 : Int), ((0 : Int), ([] : List Int)))).2).2))) (((m_Nodes.getD p16 ((0 : Int), ((0 : Int), ([] : List Int)))).2).2) ((m_Nodes.getD ((rdx (0 : Int) pairs i).toNat) ((0 : Int), ((0 : Int), ([] : List Int)))).1) (((m_Nodes.getD ((rdx (0 : Int) pairs i).toNat) ((0 : Int), ((0 : Int), ([] : List Int)))).2).1)).bind fun r67 =>
    bif decide (r67.1.1 ≥ 0) then
      (x).bind fun p17 =>
      chk (decide (p17 < (m_Nodes.set p16 ((m_Nodes.getD p16 ((0 : Int), ((0 : Int), ([] : List Int)))).1, (((m_Nodes.getD p16 ((0 : Int), ((0 : Int), ([] : List Int)))).2).1, ((m_Nodes.getD p16 ((0 : Int), ((0 : Int), ([] : List Int)))).2).2))).length)) <|
      chk (inb (w64 (i + 1)) pairs.length) <|
      chk (inb (w64 (r67.1.1 + 1)) ((((m_Nodes.set p16 ((m_Nodes.getD p16 ((0 : Int), ((0 : Int), ([] : List Int)))).1, (((m_Nodes.getD p16 ((0 : Int), ((0 : Int), ([] : List Int)))).2).1, ((m_Nodes.getD p16 ((0 : Int), ((0 : Int), ([] : List Int)))).2).2))).getD p17 ((0 : Int), ((0 : Int), ([] : List Int)))).2).2).length) <|
      chk (decide ((w64 (r67.1.1 + 1)).toNat < ((((m_Nodes.set p16 ((m_Nodes.getD p16 ((0 : Int), ((0 : Int), ([] : List Int)))).1, (((m_Nodes.getD p16 ((0 : Int), ((0 : Int), ([] : List Int)))).2).1, ((m_Nodes.getD p16 ((0 : Int), ((0 : Int), ([] : List Int)))).2).2))).getD p17 ((0 : Int), ((0 : Int), ([] : List Int)))).2).2).length)) <|
      let w18 : List (Int × Int × List Int) := ((m_Nodes.set p16 ((m_Nodes.getD p16 ((0 : Int), ((0 : Int), ([] : List Int)))).1, (((m_Nodes.getD p16 ((0 : Int), ((0 : Int), ([] : List Int)))).2).1, ((m_Nodes.getD p16 ((0 : Int), ((0 : Int), ([] : List Int)))).2).2))).set p17 (((m_Nodes.set p16 ((m_Nodes.getD p16 ((0 : Int), ((0 : Int), ([] : List Int)))).1, (((m_Nodes.getD p16 ((0 : Int), ((0 : Int), ([] : List Int)))).2).1, ((m_Nodes.getD p16 ((0 : Int), ((0 : Int), ([] : List Int)))).2).2))).getD p17 ((0 : Int), ((0 : Int), ([] : List Int)))).1, ((((m_Nodes.set p16 ((m_Nodes.getD p16 ((0 : Int), ((0 : Int), ([] : List Int)))).1, (((m_Nodes.getD p16 ((0 : Int), ((0 : Int), ([] : List Int)))).2).1, ((m_Nodes.getD p16 ((0 : Int), ((0 : Int), ([] : List Int)))).2).2))).getD p17 ((0 : Int), ((0 : Int), ([] : List Int)))).2).1, (((((m_Nodes.set p16 ((m_Nodes.getD p16 ((0 : Int), ((0 : Int), ([] : List Int)))).1, (((m_Nodes.getD p16 ((0 : Int), ((0 : Int), ([] : List Int)))).2).1, ((m_Nodes.getD p16 ((0 : Int), ((0 : Int), ([] : List Int)))).2).2))).getD p17 ((0 : Int), ((0 : Int), ([] : List Int)))).2).2).set ((w64 (r67.1.1 + 1)).toNat) (rdx (0 : Int) pairs (w64 (i + 1)))))))
      jn (fun t => B_Z10_J2 k c_Z11 c_Z47 again3 t.1.1 t.1.2.1 t.1.2.2.1 t.1.2.2.2.1 t.2.1 t.2.2.1 t.2.2.2.1) ((w18, m_Stack, m_Memo, m_Done, ()), pairs, i, x, ())
    else
      (x).bind fun p19 =>
      chk (decide (p19 < (m_Nodes.set p16 ((m_Nodes.getD p16 ((0 : Int), ((0 : Int), ([] : List Int)))).1, (((m_Nodes.getD p16 ((0 : Int), ((0 : Int), ([] : List Int)))).2).1, ((m_Nodes.getD p16 ((0 : Int), ((0 : Int), ([] : List Int)))).2).2))).length)) <|
      chk (inb i pairs.length) <|
      chk (inb (w64 (i + 1)) pairs.length) <|
      chk (room ((((m_Nodes.set p16 ((m_Nodes.getD p16 ((0 : Int), ((0 : Int), ([] : List Int)))).1, (((m_Nodes.getD p16 ((0 : Int), ((0 : Int), ([] : List Int)))).2).1, ((m_Nodes.getD p16 ((0 : Int), ((0 : Int), ([] : List Int)))).2).2))).getD p19 ((0 : Int), ((0 : Int), ([] : List Int)))).2).2).length ([(rdx (0 : Int) pairs i), (rdx (0 : Int) pairs (w64 (i + 1)))]).length) <|
      (x).bind fun p20 =>
      chk (decide (p20 = p19)) <|
      let w21 : List (Int × Int × List Int) := ((m_Nodes.set p16 ((m_Nodes.getD p16 ((0 : Int), ((0 : Int), ([] : List Int)))).1, (((m_Nodes.getD p16 ((0 : Int), ((0 : Int), ([] : List Int)))).2).1, ((m_Nodes.getD p16 ((0 : Int), ((0 : Int), ([] : List Int)))).2).2))).set p20 (((m_Nodes.set p16 ((m_Nodes.getD p16 ((0 : Int), ((0 : Int), ([] : List Int)))).1, (((m_Nodes.getD p16 ((0 : Int), ((0 : Int), ([] : List Int)))).2).1, ((m_Nodes.getD p16 ((0 : Int), ((0 : Int), ([] : List Int)))).2).2))).getD p20 ((0 : Int), ((0 : Int), ([] : List Int)))).1, ((((m_Nodes.set p16 ((m_Nodes.getD p16 ((0 : Int), ((0 : Int), ([] : List Int)))).1, (((m_Nodes.getD p16 ((0 : Int), ((0 : Int), ([] : List Int)))).2).1, ((m_Nodes.getD p16 ((0 : Int), ((0 : Int), ([] : List Int)))).2).2))).getD p20 ((0 : Int), ((0 : Int), ([] : List Int)))).2).1, ((((m_Nodes.set p16 ((m_Nodes.getD p16 ((0 : Int), ((0 : Int), ([] : List Int)))).1, (((m_Nodes.getD p16 ((0 : Int), ((0 : Int), ([] : List Int)))).2).1, ((m_Nodes.getD p16 ((0 : Int), ((0 : Int), ([] : List Int)))).2).2))).getD p19 ((0 : Int), ((0 : Int), ([] : List Int)))).2).2 ++ [(rdx (0 : Int) pairs i), (rdx (0 : Int) pairs (w64 (i + 1)))]))))
      jn (fun t => B_Z10_J2 k c_Z11 c_Z47 again3 t.1.1 t.1.2.1 t.1.2.2.1 t.1.2.2.2.1 t.2.1 t.2.2.1 t.2.2.2.1) ((w21, m_Stack, m_Memo, m_Done, ()), pairs, i, x, ())
  else
    some ((true, ()), ((m_Nodes, m_Stack, m_Memo, m_Done, ()), ()))
def B_Z10_L3 (k : Nat) (c_Z11 : C_Z11) (c_Z47 : C_Z47) (n : Nat) (t : T_Z10_L3) : R_Z10 :=
  lfix n (fun again t => B_Z10_L3b k c_Z11 c_Z47 again t.1.1 t.1.2.1 t.1.2.2.1 t.1.2.2.2.1 t.2.1 t.2.2.1 t.2.2.2.1) t
def B_Z10_L1b (k : Nat) (c_Z11 : C_Z11) (c_Z47 : C_Z47) (again1 : T_Z10_L1 → R_Z10) (m_Nodes : List (Int × Int × List Int)) (m_Stack m_Memo : List Int) (m_Done : Bool) (pairs : List Int) (i : Int) (x : Option Nat) : R_Z10 :=
  bif decide (i < (len pairs)) then
    chk (inb i pairs.length) <|
    chk (inb (rdx (0 : Int) pairs i) m_Nodes.length) <|
    chk (decide ((rdx (0 : Int) pairs i).toNat < m_Nodes.length)) <|
    let v41 : Bool := decide (((m_Nodes.getD ((rdx (0 : Int) pairs i).toNat) ((0 : Int), ((0 : Int), ([] : List Int)))).1) > 1)
    bif v41 then
      some ((false, ()), ((m_Nodes, m_Stack, m_Memo, m_Done, ()), ()))
    else
      again1 ((m_Nodes, m_Stack, m_Memo, m_Done, ()), pairs, w64 (i + 2), x, ())
  else
    B_Z10_L3 k c_Z11 c_Z47 k ((m_Nodes, m_Stack, m_Memo, m_Done, ()), pairs, 0, x, ())
def B_Z10_L1 (k : Nat) (c_Z11 : C_Z11) (c_Z47 : C_Z47) (n : Nat) (t : T_Z10_L1) : R_Z10 :=
  lfix n (fun again t => B_Z10_L1b k c_Z11 c_Z47 again t.1.1 t.1.2.1 t.1.2.2.1 t.1.2.2.2.1 t.2.1 t.2.2.1 t.2.2.2.1) t
def B_Z10_J0 (k : Nat) (c_Z11 : C_Z11) (c_Z47 : C_Z47) (m_Nodes : List (Int × Int × List Int)) (m_Stack m_Memo : List Int) (m_Done : Bool) (pairs : List Int) (t23 : Bool) (x : Option Nat) : R_Z10 :=
  bif t23 then
    some ((false, ()), ((m_Nodes, m_Stack, m_Memo, m_Done, ()), ()))
  else
    B_Z10_L1 k c_Z11 c_Z47 k ((m_Nodes, m_Stack, m_Memo, m_Done, ()), pairs, 0, x, ())
def B_Z10 (k : Nat) (c_Z11 : C_Z11) (c_Z47 : C_Z47) (m_Nodes : List (Int × Int × List Int)) (m_Stack m_Memo : List Int) (m_Done : Bool) (pairs : List Int) : R_Z10 :=
  (c_Z11 m_Nodes m_Stack m_Memo m_Done 4).bind fun r13 =>
  bif (!r13.1.2.1) then
    jn (fun t => B_Z10_J0 k c_Z11 c_Z47 t.1.1 t.1.2.1 t.1.2.2.1 t.1.2.2.2.1 t.2.1 t.2.2.1 t.2.2.2.1) ((r13.2.1.1, r13.2.1.2.1, r13.2.1.2.2.1, r13.2.1.2.2.2.1, ()), pairs, true, r13.1.1, ())
  else
    jn (fun t => B_Z10_J0 k c_Z11 c_Z47 t.1.1 t.1.2.1 t.1.2.2.1 t.1.2.2.2.1 t.2.1 t.2.2.1 t.2.2.2.1) ((r13.2.1.1, r13.2.1.2.1, r13.2.1.2.2.1, r13.2.1.2.2.2.1, ()), pairs, (((len pairs).tmod 2) != 0), r13.1.1, ())
def F_Z10 : Nat → C_Z10
  | 0, _, _, _, _, _ => none
  | k + 1, m_Nodes, m_Stack, m_Memo, m_Done, pairs => B_Z10 k (F_Z11 k) (F_Z47 k) m_Nodes m_Stack m_Memo m_Done pairs
theorem tot_Z10 {m_Nodes m_Stack m_Memo m_Done pairs : _} {Q : _ → Prop} (h : Tot (fun σ => B_Z10 (σ 0) (F_Z11 (σ 0)) (F_Z47 (σ 0)) m_Nodes m_Stack m_Memo m_Done pairs) Q) : Tot (fun σ => F_Z10 (σ 0) m_Nodes m_Stack m_Memo m_Done pairs) Q :=
  Tot.call (F := fun k => F_Z10 k m_Nodes m_Stack m_Memo m_Done pairs) (B := fun k => B_Z10 k (F_Z11 k) (F_Z47 k) m_Nodes m_Stack m_Memo m_Done pairs) (fun k => rfl) h
abbrev A_Z10_L3 (Z : Type) : Type := (List (Int × Int × List Int)) → List Int → List Int → Bool → List Int → Int → Option Nat → Z
abbrev u_Z10_L3 {Z : Type} (f : A_Z10_L3 Z) (t : T_Z10_L3) : Z := f t.1.1 t.1.2.1 t.1.2.2.1 t.1.2.2.2.1 t.2.1 t.2.2.1 t.2.2.2.1
theorem loop_Z10_L3 {Q : A_Z10_L3 (((Bool × Unit) × (((List (Int × Int × List Int)) × List Int × List Int × Bool × Unit) × Unit)) → Prop)} (I : A_Z10_L3 Prop) (μ : A_Z10_L3 Nat)
    (step : ∀ a0 a1 a2 a3 a4 a5 a6, I a0 a1 a2 a3 a4 a5 a6 → ∀ again : (Nat → Nat) → T_Z10_L3 → R_Z10, Dep 2 again → (∀ y0 y1 y2 y3 y4 y5 y6, I y0 y1 y2 y3 y4 y5 y6 → μ y0 y1 y2 y3 y4 y5 y6 < μ a0 a1 a2 a3 a4 a5 a6 → Tot (fun σ => again σ ((y0, y1, y2, y3, ()), y4, y5, y6, ())) (Q y0 y1 y2 y3 y4 y5 y6)) →
      Tot (fun σ => B_Z10_L3b (σ 0) (F_Z11 (σ 0)) (F_Z47 (σ 0)) (again σ) a0 a1 a2 a3 a4 a5 a6) (Q a0 a1 a2 a3 a4 a5 a6)) :
    ∀ a0 a1 a2 a3 a4 a5 a6, I a0 a1 a2 a3 a4 a5 a6 → Tot (fun σ => B_Z10_L3 (σ 0) (F_Z11 (σ 0)) (F_Z47 (σ 0)) (σ 0) ((a0, a1, a2, a3, ()), a4, a5, a6, ())) (Q a0 a1 a2 a3 a4 a5 a6) := fun a0 a1 a2 a3 a4 a5 a6 => Tot.loop0 (L := fun k => B_Z10_L3 k (F_Z11 k) (F_Z47 k)) (B := fun k g => u_Z10_L3 (B_Z10_L3b k (F_Z11 k) (F_Z47 k) g)) (Q := u_Z10_L3 Q) (fun _ _ _ => rfl) (u_Z10_L3 I) (u_Z10_L3 μ)
    (fun t ht again hag h => step t.1.1 t.1.2.1 t.1.2.2.1 t.1.2.2.2.1 t.2.1 t.2.2.1 t.2.2.2.1 ht again hag fun y0 y1 y2 y3 y4 y5 y6 => h ((y0, y1, y2, y3, ()), y4, y5, y6, ())) ((a0, a1, a2, a3, ()), a4, a5, a6, ())
abbrev A_Z10_L1 (Z : Type) : Type := (List (Int × Int × List Int)) → List Int → List Int → Bool → List Int → Int → Option Nat → Z
abbrev u_Z10_L1 {Z : Type} (f : A_Z10_L1 Z) (t : T_Z10_L1) : Z := f t.1.1 t.1.2.1 t.1.2.2.1 t.1.2.2.2.1 t.2.1 t.2.2.1 t.2.2.2.1
theorem loop_Z10_L1 {Q : A_Z10_L1 (((Bool × Unit) × (((List (Int × Int × List Int)) × List Int × List Int × Bool × Unit) × Unit)) → Prop)} (I : A_Z10_L1 Prop) (μ : A_Z10_L1 Nat)
    (step : ∀ a0 a1 a2 a3 a4 a5 a6, I a0 a1 a2 a3 a4 a5 a6 → ∀ again : (Nat → Nat) → T_Z10_L1 → R_Z10, Dep 2 again → (∀ y0 y1 y2 y3 y4 y5 y6, I y0 y1 y2 y3 y4 y5 y6 → μ y0 y1 y2 y3 y4 y5 y6 < μ a0 a1 a2 a3 a4 a5 a6 → Tot (fun σ => again σ ((y0, y1, y2, y3, ()), y4, y5, y6, ())) (Q y0 y1 y2 y3 y4 y5 y6)) →
      Tot (fun σ => B_Z10_L1b (σ 0) (F_Z11 (σ 0)) (F_Z47 (σ 0)) (again σ) a0 a1 a2 a3 a4 a5 a6) (Q a0 a1 a2 a3 a4 a5 a6)) :
    ∀ a0 a1 a2 a3 a4 a5 a6, I a0 a1 a2 a3 a4 a5 a6 → Tot (fun σ => B_Z10_L1 (σ 0) (F_Z11 (σ 0)) (F_Z47 (σ 0)) (σ 0) ((a0, a1, a2, a3, ()), a4, a5, a6, ())) (Q a0 a1 a2 a3 a4 a5 a6) := fun a0 a1 a2 a3 a4 a5 a6 => Tot.loop0 (L := fun k => B_Z10_L1 k (F_Z11 k) (F_Z47 k)) (B := fun k g => u_Z10_L1 (B_Z10_L1b k (F_Z11 k) (F_Z47 k) g)) (Q := u_Z10_L1 Q) (fun _ _ _ => rfl) (u_Z10_L1 I) (u_Z10_L1 μ)
    (fun t ht again hag h => step t.1.1 t.1.2.1 t.1.2.2.1 t.1.2.2.2.1 t.2.1 t.2.2.1 t.2.2.2.1 ht again hag fun y0 y1 y2 y3 y4 y5 y6 => h ((y0, y1, y2, y3, ()), y4, y5, y6, ())) ((a0, a1, a2, a3, ()), a4, a5, a6, ())
abbrev R_Z21 : Type := Option ((Bool × Unit) × (((Bool × List (Int × Int × List Int)) × List Int × List Int × Bool × Unit) × Unit))
abbrev C_Z21 : Type := (List (Int × Int × List Int)) → List Int → List Int → Bool → Int → Int → R_Z21
def B_Z21_J0 (k : Nat) (c_Z2 : C_Z2) (c_Z7 : C_Z7) (c_Z5 : C_Z5) (c_Z3 : C_Z3) (c_Z4 : C_Z4) (c_Z11 : C_Z11) (c_Z10 : C_Z10) (m_Nodes : List (Int × Int × List Int)) (m_Stack m_Memo : List Int) (m_Done : Bool) (kids : List Int) (t183 : Bool) (x : Option Nat) : R_Z21 :=
  bif t183 then
    some ((false, ()), (((true, m_Nodes), m_Stack, m_Memo, m_Done, ()), ()))
  else
    (x).bind fun p9 =>
    chk (decide (p9 < m_Nodes.length)) <|
    some ((true, ()), (((true, (m_Nodes.set p9 ((m_Nodes.getD p9 ((0 : Int), ((0 : Int), ([] : List Int)))).1, (((m_Nodes.getD p9 ((0 : Int), ((0 : Int), ([] : List Int)))).2).1, kids)))), m_Stack, m_Memo, m_Done, ()), ()))
def B_Z21_J1 (k : Nat) (c_Z2 : C_Z2) (c_Z7 : C_Z7) (c_Z5 : C_Z5) (c_Z3 : C_Z3) (c_Z4 : C_Z4) (c_Z11 : C_Z11) (c_Z10 : C_Z10) (m_Nodes : List (Int × Int × List Int)) (m_Stack m_Memo : List Int) (m_Done : Bool) : R_Z21 :=
  some ((m_Done, ()), (((true, m_Nodes), m_Stack, m_Memo, m_Done, ()), ()))
def B_Z21 (k : Nat) (c_Z2 : C_Z2) (c_Z7 : C_Z7) (c_Z5 : C_Z5) (c_Z3 : C_Z3) (c_Z4 : C_Z4) (c_Z11 : C_Z11) (c_Z10 : C_Z10) (m_Nodes : List (Int × Int × List Int)) (m_Stack m_Memo : List Int) (m_Done : Bool) (o_0 o_1 : Int) : R_Z21 :=
  (c_Z2 m_Nodes m_Stack m_Memo m_Done).bind fun r23 =>
  bif (o_0 == 0) then
    (c_Z7 r23.2.1.1 r23.2.1.2.1 r23.2.1.2.2.1 r23.2.1.2.2.2.1 0 o_1 ([])).bind fun r31 =>
    some ((r31.1.1, ()), (((false, r31.2.1.1), r31.2.1.2.1, r31.2.1.2.2.1, r31.2.1.2.2.2.1, ()), ()))
  else
    bif (o_0 == 1) then
      (c_Z7 r23.2.1.1 r23.2.1.2.1 r23.2.1.2.2.1 r23.2.1.2.2.2.1 1 o_1 ([])).bind fun r37 =>
      some ((r37.1.1, ()), (((false, r37.2.1.1), r37.2.1.2.1, r37.2.1.2.2.1, r37.2.1.2.2.2.1, ()), ()))
    else
      bif (o_0 == 13) then
        (c_Z7 r23.2.1.1 r23.2.1.2.1 r23.2.1.2.2.1 r23.2.1.2.2.2.1 5 o_1 ([])).bind fun r43 =>
        some ((r43.1.1, ()), (((false, r43.2.1.1), r43.2.1.2.1, r43.2.1.2.2.1, r43.2.1.2.2.2.1, ()), ()))
      else
        bif (o_0 == 4) then
          (c_Z7 r23.2.1.1 r23.2.1.2.1 r23.2.1.2.2.1 r23.2.1.2.2.2.1 2 0 ([])).bind fun r47 =>
          some ((r47.1.1, ()), (((false, r47.2.1.1), r47.2.1.2.1, r47.2.1.2.2.1, r47.2.1.2.2.2.1, ()), ()))
        else
          bif (o_0 == 7) then
            (c_Z7 r23.2.1.1 r23.2.1.2.1 r23.2.1.2.2.1 r23.2.1.2.2.2.1 3 0 ([])).bind fun r51 =>
            some ((r51.1.1, ()), (((false, r51.2.1.1), r51.2.1.2.1, r51.2.1.2.2.1, r51.2.1.2.2.2.1, ()), ()))
          else
            bif (o_0 == 10) then
              (c_Z7 r23.2.1.1 r23.2.1.2.1 r23.2.1.2.2.1 r23.2.1.2.2.2.1 4 0 ([])).bind fun r55 =>
              some ((r55.1.1, ()), (((false, r55.2.1.1), r55.2.1.2.1, r55.2.1.2.2.1, r55.2.1.2.2.2.1, ()), ()))
            else
              bif (o_0 == 2) then
                (c_Z5 r23.2.1.1 r23.2.1.2.1 r23.2.1.2.2.1 r23.2.1.2.2.2.1 (-1)).bind fun r59 =>
                some ((r59.1.1, ()), (((true, r59.2.1.1), r59.2.1.2.1, r59.2.1.2.2.1, r59.2.1.2.2.2.1, ()), ()))
              else
                bif (o_0 == 3) then
                  (c_Z3 r23.2.1.1 r23.2.1.2.1 r23.2.1.2.2.1 r23.2.1.2.2.2.1).bind fun r64 =>
                  bif r64.1.2.1 then
                    (c_Z7 r64.2.1.1 r64.2.1.2.1 r64.2.1.2.2.1 r64.2.1.2.2.2.1 2 0 r64.1.1).bind fun r71 =>
                    some ((r71.1.1, ()), (((false, r71.2.1.1), r71.2.1.2.1, r71.2.1.2.2.1, r71.2.1.2.2.2.1, ()), ()))
                  else
                    some ((false, ()), (((true, r64.2.1.1), r64.2.1.2.1, r64.2.1.2.2.1, r64.2.1.2.2.2.1, ()), ()))
                else
                  bif (o_0 == 5) then
                    bif decide (r23.1.1 ≥ 1) then
                      (c_Z4 r23.2.1.1 r23.2.1.2.1 r23.2.1.2.2.1 r23.2.1.2.2.2.1 1).bind fun r80 =>
                      (c_Z7 r80.2.1.1 r80.2.1.2.1 r80.2.1.2.2.1 r80.2.1.2.2.2.1 2 0 r80.1.1).bind fun r81 =>
                      some ((r81.1.1, ()), (((false, r81.2.1.1), r81.2.1.2.1, r81.2.1.2.2.1, r81.2.1.2.2.2.1, ()), ()))
                    else
                      some ((false, ()), (((true, r23.2.1.1), r23.2.1.2.1, r23.2.1.2.2.1, r23.2.1.2.2.2.1, ()), ()))
                  else
                    bif (o_0 == 6) then
                      bif decide (r23.1.1 ≥ 2) then
                        (c_Z4 r23.2.1.1 r23.2.1.2.1 r23.2.1.2.2.1 r23.2.1.2.2.2.1 2).bind fun r90 =>
                        (c_Z7 r90.2.1.1 r90.2.1.2.1 r90.2.1.2.2.1 r90.2.1.2.2.2.1 2 0 r90.1.1).bind fun r91 =>
                        some ((r91.1.1, ()), (((false, r91.2.1.1), r91.2.1.2.1, r91.2.1.2.2.1, r91.2.1.2.2.2.1, ()), ()))
                      else
                        some ((false, ()), (((true, r23.2.1.1), r23.2.1.2.1, r23.2.1.2.2.1, r23.2.1.2.2.2.1, ()), ()))
                    else
                      bif (o_0 == 8) then
                        bif decide (r23.1.1 < 2) then
                          some ((false, ()), (((true, r23.2.1.1), r23.2.1.2.1, r23.2.1.2.2.1, r23.2.1.2.2.2.1, ()), ()))
                        else
                          (c_Z4 r23.2.1.1 r23.2.1.2.1 r23.2.1.2.2.1 r23.2.1.2.2.2.1 1).bind fun r98 =>
                          (c_Z11 r98.2.1.1 r98.2.1.2.1 r98.2.1.2.2.1 r98.2.1.2.2.2.1 3).bind fun r101 =>
                          bif r101.1.2.1 then
                            (r101.1.1).bind fun p0 =>
                            chk (decide (p0 < r101.2.1.1.length)) <|
                            chk (room (((r101.2.1.1.getD p0 ((0 : Int), ((0 : Int), ([] : List Int)))).2).2).length r98.1.1.length) <|
                            (r101.1.1).bind fun p1 =>
                            chk (decide (p1 = p0)) <|
                            let w2 : List (Int × Int × List Int) := (r101.2.1.1.set p1 ((r101.2.1.1.getD p1 ((0 : Int), ((0 : Int), ([] : List Int)))).1, (((r101.2.1.1.getD p1 ((0 : Int), ((0 : Int), ([] : List Int)))).2).1, (((r101.2.1.1.getD p0 ((0 : Int), ((0 : Int), ([] : List Int)))).2).2 ++ r98.1.1))))
                            some ((r101.1.2.1, ()), (((true, w2), r101.2.1.2.1, r101.2.1.2.2.1, r101.2.1.2.2.2.1, ()), ()))
                          else
                            some ((r101.1.2.1, ()), (((true, r101.2.1.1), r101.2.1.2.1, r101.2.1.2.2.1, r101.2.1.2.2.2.1, ()), ()))
                      else
                        bif (o_0 == 9) then
                          (c_Z3 r23.2.1.1 r23.2.1.2.1 r23.2.1.2.2.1 r23.2.1.2.2.2.1).bind fun r119 =>
                          bif (!r119.1.2.1) then
                            some ((false, ()), (((true, r119.2.1.1), r119.2.1.2.1, r119.2.1.2.2.1, r119.2.1.2.2.2.1, ()), ()))
                          else
                            (c_Z11 r119.2.1.1 r119.2.1.2.1 r119.2.1.2.2.1 r119.2.1.2.2.2.1 3).bind fun r126 =>
                            bif r126.1.2.1 then
                              (r126.1.1).bind fun p3 =>
                              chk (decide (p3 < r126.2.1.1.length)) <|
                              chk (room (((r126.2.1.1.getD p3 ((0 : Int), ((0 : Int), ([] : List Int)))).2).2).length r119.1.1.length) <|
                              (r126.1.1).bind fun p4 =>
                              chk (decide (p4 = p3)) <|
                              let w5 : List (Int × Int × List Int) := (r126.2.1.1.set p4 ((r126.2.1.1.getD p4 ((0 : Int), ((0 : Int), ([] : List Int)))).1, (((r126.2.1.1.getD p4 ((0 : Int), ((0 : Int), ([] : List Int)))).2).1, (((r126.2.1.1.getD p3 ((0 : Int), ((0 : Int), ([] : List Int)))).2).2 ++ r119.1.1))))
                              some ((r126.1.2.1, ()), (((true, w5), r126.2.1.2.1, r126.2.1.2.2.1, r126.2.1.2.2.2.1, ()), ()))
                            else
                              some ((r126.1.2.1, ()), (((true, r126.2.1.1), r126.2.1.2.1, r126.2.1.2.2.1, r126.2.1.2.2.2.1, ()), ()))
                        else
                          bif (o_0 == 11) then
                            bif decide (r23.1.1 ≥ 3) then
                              (c_Z4 r23.2.1.1 r23.2.1.2.1 r23.2.1.2.2.1 r23.2.1.2.2.2.1 2).bind fun r147 =>
                              (c_Z10 r147.2.1.1 r147.2.1.2.1 r147.2.1.2.2.1 r147.2.1.2.2.2.1 r147.1.1).bind fun r148 =>
                              some ((r148.1.1, ()), (((true, r148.2.1.1), r148.2.1.2.1, r148.2.1.2.2.1, r148.2.1.2.2.2.1, ()), ()))
                            else
                              some ((false, ()), (((true, r23.2.1.1), r23.2.1.2.1, r23.2.1.2.2.1, r23.2.1.2.2.2.1, ()), ()))
                          else
                            bif (o_0 == 12) then
                              (c_Z3 r23.2.1.1 r23.2.1.2.1 r23.2.1.2.2.1 r23.2.1.2.2.2.1).bind fun r154 =>
                              bif r154.1.2.1 then
                                (c_Z10 r154.2.1.1 r154.2.1.2.1 r154.2.1.2.2.1 r154.2.1.2.2.2.1 r154.1.1).bind fun r161 =>
                                some ((r161.1.1, ()), (((true, r161.2.1.1), r161.2.1.2.1, r161.2.1.2.2.1, r161.2.1.2.2.2.1, ()), ()))
                              else
                                some ((false, ()), (((true, r154.2.1.1), r154.2.1.2.1, r154.2.1.2.2.1, r154.2.1.2.2.2.1, ()), ()))
                            else
                              bif (o_0 == 14) then
                                bif decide (r23.1.1 < 2) then
                                  some ((false, ()), (((true, r23.2.1.1), r23.2.1.2.1, r23.2.1.2.2.1, r23.2.1.2.2.2.1, ()), ()))
                                else
                                  (c_Z4 r23.2.1.1 r23.2.1.2.1 r23.2.1.2.2.1 r23.2.1.2.2.2.1 1).bind fun r168 =>
                                  (c_Z11 r168.2.1.1 r168.2.1.2.1 r168.2.1.2.2.1 r168.2.1.2.2.2.1 5).bind fun r171 =>
                                  bif (!r171.1.2.1) then
                                    jn (fun t => B_Z21_J0 k c_Z2 c_Z7 c_Z5 c_Z3 c_Z4 c_Z11 c_Z10 t.1.1 t.1.2.1 t.1.2.2.1 t.1.2.2.2.1 t.2.1 t.2.2.1 t.2.2.2.1) ((r171.2.1.1, r171.2.1.2.1, r171.2.1.2.2.1, r171.2.1.2.2.2.1, ()), r168.1.1, true, r171.1.1, ())
                                  else
                                    (r171.1.1).bind fun p10 =>
                                    chk (decide (p10 < r171.2.1.1.length)) <|
                                    jn (fun t => B_Z21_J0 k c_Z2 c_Z7 c_Z5 c_Z3 c_Z4 c_Z11 c_Z10 t.1.1 t.1.2.1 t.1.2.2.1 t.1.2.2.2.1 t.2.1 t.2.2.1 t.2.2.2.1) (((r171.2.1.1.set p10 ((r171.2.1.1.getD p10 ((0 : Int), ((0 : Int), ([] : List Int)))).1, (((r171.2.1.1.getD p10 ((0 : Int), ((0 : Int), ([] : List Int)))).2).1, ((r171.2.1.1.getD p10 ((0 : Int), ((0 : Int), ([] : List Int)))).2).2))), r171.2.1.2.1, r171.2.1.2.2.1, r171.2.1.2.2.2.1, ()), r168.1.1, decide ((len (((r171.2.1.1.getD p10 ((0 : Int), ((0 : Int), ([] : List Int)))).2).2)) > 0), r171.1.1, ())
                              else
                                bif (o_0 == 15) then
                                  bif decide (r23.1.1 < 1) then
                                    some ((false, ()), (((true, r23.2.1.1), r23.2.1.2.1, r23.2.1.2.2.1, r23.2.1.2.2.2.1, ()), ()))
                                  else
                                    chk (inb (w64 ((len r23.2.1.2.1) - 1)) r23.2.1.2.1.length) <|
                                    chk (decide ((w64 ((len r23.2.1.2.1) - 1)).toNat < r23.2.1.2.1.length)) <|
                                    chk (inb o_1 r23.2.1.2.2.1.length) <|
                                    chk (decide (o_1.toNat < r23.2.1.2.2.1.length)) <|
                                    some ((true, ()), (((true, r23.2.1.1), r23.2.1.2.1, (r23.2.1.2.2.1.set o_1.toNat (r23.2.1.2.1.getD ((w64 ((len r23.2.1.2.1) - 1)).toNat) (0 : Int))), r23.2.1.2.2.2.1, ()), ()))
                                else
                                  bif (o_0 == 16) then
                                    chk (inb o_1 r23.2.1.2.2.1.length) <|
                                    chk (decide (o_1.toNat < r23.2.1.2.2.1.length)) <|
                                    bif decide ((r23.2.1.2.2.1.getD o_1.toNat (0 : Int)) ≥ 0) then
                                      chk (inb o_1 r23.2.1.2.2.1.length) <|
                                      chk (decide (o_1.toNat < r23.2.1.2.2.1.length)) <|
                                      (c_Z5 r23.2.1.1 r23.2.1.2.1 r23.2.1.2.2.1 r23.2.1.2.2.2.1 (r23.2.1.2.2.1.getD o_1.toNat (0 : Int))).bind fun r232 =>
                                      some ((r232.1.1, ()), (((true, r232.2.1.1), r232.2.1.2.1, r232.2.1.2.2.1, r232.2.1.2.2.2.1, ()), ()))
                                    else
                                      some ((false, ()), (((true, r23.2.1.1), r23.2.1.2.1, r23.2.1.2.2.1, r23.2.1.2.2.2.1, ()), ()))
                                  else
                                    bif (o_0 == 17) then
                                      bif decide (r23.1.1 < 1) then
                                        some ((false, ()), (((true, r23.2.1.1), r23.2.1.2.1, r23.2.1.2.2.1, r23.2.1.2.2.2.1, ()), ()))
                                      else
                                        (c_Z4 r23.2.1.1 r23.2.1.2.1 r23.2.1.2.2.1 r23.2.1.2.2.2.1 1).bind fun r239 =>
                                        some ((true, ()), (((true, r239.2.1.1), r239.2.1.2.1, r239.2.1.2.2.1, r239.2.1.2.2.2.1, ()), ()))
                                    else
                                      bif (o_0 == 18) then
                                        (c_Z3 r23.2.1.1 r23.2.1.2.1 r23.2.1.2.2.1 r23.2.1.2.2.2.1).bind fun r244 =>
                                        some ((r244.1.2.1, ()), (((true, r244.2.1.1), r244.2.1.2.1, r244.2.1.2.2.1, r244.2.1.2.2.2.1, ()), ()))
                                      else
                                        bif ((len r23.2.1.2.1) == 1) then
                                          jn (fun t => B_Z21_J1 k c_Z2 c_Z7 c_Z5 c_Z3 c_Z4 c_Z11 c_Z10 t.1.1 t.1.2.1 t.1.2.2.1 t.1.2.2.2.1) ((r23.2.1.1, r23.2.1.2.1, r23.2.1.2.2.1, (r23.1.1 == 1), ()), ())
                                        else
                                          jn (fun t => B_Z21_J1 k c_Z2 c_Z7 c_Z5 c_Z3 c_Z4 c_Z11 c_Z10 t.1.1 t.1.2.1 t.1.2.2.1 t.1.2.2.2.1) ((r23.2.1.1, r23.2.1.2.1, r23.2.1.2.2.1, false, ()), ())
def F_Z21 : Nat → C_Z21
  | 0, _, _, _, _, _, _ => none
  | k + 1, m_Nodes, m_Stack, m_Memo, m_Done, o_0, o_1 => B_Z21 k (F_Z2 k) (F_Z7 k) (F_Z5 k) (F_Z3 k) (F_Z4 k) (F_Z11 k) (F_Z10 k) m_Nodes m_Stack m_Memo m_Done o_0 o_1
theorem tot_Z21 {m_Nodes m_Stack m_Memo m_Done o_0 o_1 : _} {Q : _ → Prop} (h : Tot (fun σ => B_Z21 (σ 0) (F_Z2 (σ 0)) (F_Z7 (σ 0)) (F_Z5 (σ 0)) (F_Z3 (σ 0)) (F_Z4 (σ 0)) (F_Z11 (σ 0)) (F_Z10 (σ 0)) m_Nodes m_Stack m_Memo m_Done o_0 o_1) Q) : Tot (fun σ => F_Z21 (σ 0) m_Nodes m_Stack m_Memo m_Done o_0 o_1) Q :=
  Tot.call (F := fun k => F_Z21 k m_Nodes m_Stack m_Memo m_Done o_0 o_1) (B := fun k => B_Z21 k (F_Z2 k) (F_Z7 k) (F_Z5 k) (F_Z3 k) (F_Z4 k) (F_Z11 k) (F_Z10 k) m_Nodes m_Stack m_Memo m_Done o_0 o_1) (fun k => rfl) h
abbrev R_Z9 : Type := Option ((Bool × Unit) × (((Option (List (Int × Int × List Int))) × List Int × List Int × Bool × Unit) × Unit))
abbrev C_Z9 : Type := (List (Int × Int × List Int)) → List Int → List Int → Bool → Int → Int → R_Z9
def B_Z9 (k : Nat) (c_Z1 : C_Z1) (c_Z21 : C_Z21) (m_Nodes : List (Int × Int × List Int)) (m_Stack m_Memo : List Int) (m_Done : Bool) (o_0 o_1 : Int) : R_Z9 :=
  (c_Z1 m_Stack).bind fun r15 =>
  bif (!m_Done) then
    (c_Z21 m_Nodes m_Stack m_Memo m_Done o_0 o_1).bind fun r24 =>
    bif r24.1.1 then
      some ((true, ()), (((some r24.2.1.1.2), r24.2.1.2.1, r24.2.1.2.2.1, r24.2.1.2.2.2.1, ()), ()))
    else
      some ((false, ()), (((bif r24.2.1.1.1 then some r24.2.1.1.2 else none), r15.1.1, r24.2.1.2.2.1, r24.2.1.2.2.2.1, ()), ()))
  else
    some ((false, ()), (((some m_Nodes), r15.1.1, m_Memo, m_Done, ()), ()))
def F_Z9 : Nat → C_Z9
  | 0, _, _, _, _, _, _ => none
  | k + 1, m_Nodes, m_Stack, m_Memo, m_Done, o_0, o_1 => B_Z9 k (F_Z1 k) (F_Z21 k) m_Nodes m_Stack m_Memo m_Done o_0 o_1
theorem tot_Z9 {m_Nodes m_Stack m_Memo m_Done o_0 o_1 : _} {Q : _ → Prop} (h : Tot (fun σ => B_Z9 (σ 0) (F_Z1 (σ 0)) (F_Z21 (σ 0)) m_Nodes m_Stack m_Memo m_Done o_0 o_1) Q) : Tot (fun σ => F_Z9 (σ 0) m_Nodes m_Stack m_Memo m_Done o_0 o_1) Q :=
  Tot.call (F := fun k => F_Z9 k m_Nodes m_Stack m_Memo m_Done o_0 o_1) (B := fun k => B_Z9 k (F_Z1 k) (F_Z21 k) m_Nodes m_Stack m_Memo m_Done o_0 o_1) (fun k => rfl) h
abbrev R_Z34 : Type := Option (((List (Int × Int × List Int)) × Unit) × (Unit))
abbrev C_Z34 : Type := (List (Int × Int × List Int)) → R_Z34
abbrev T_Z34_L0 : Type := (List (Int × Int × List Int)) × (List (Int × Int × List Int)) × Int × Int × Unit
def B_Z34_L0b (k : Nat) (c_Z1 : C_Z1) (again0 : T_Z34_L0 → R_Z34) (out t7 : List (Int × Int × List Int)) (t8 t9 : Int) : R_Z34 :=
  bif decide (t9 < t8) then
    chk (inb t9 t7.length) <|
    (c_Z1 (((rdx ((0 : Int), ((0 : Int), ([] : List Int))) t7 t9).2).2)).bind fun r20 =>
    chk (room out.length ([((rdx ((0 : Int), ((0 : Int), ([] : List Int))) t7 t9).1, (((rdx ((0 : Int), ((0 : Int), ([] : List Int))) t7 t9).2).1, r20.1.1))]).length) <|
    again0 ((out ++ [((rdx ((0 : Int), ((0 : Int), ([] : List Int))) t7 t9).1, (((rdx ((0 : Int), ((0 : Int), ([] : List Int))) t7 t9).2).1, r20.1.1))]), t7, t8, w64 (t9 + 1), ())
  else
    some ((out, ()), ())
def B_Z34_L0 (k : Nat) (c_Z1 : C_Z1) (n : Nat) (t : T_Z34_L0) : R_Z34 :=
  lfix n (fun again t => B_Z34_L0b k c_Z1 again t.1 t.2.1 t.2.2.1 t.2.2.2.1) t
def B_Z34 (k : Nat) (c_Z1 : C_Z1) (nodes : List (Int × Int × List Int)) : R_Z34 :=
  B_Z34_L0 k c_Z1 k ([], nodes, len nodes, 0, ())
def F_Z34 : Nat → C_Z34
  | 0, _ => none
  | k + 1, nodes => B_Z34 k (F_Z1 k) nodes
theorem tot_Z34 {nodes : _} {Q : _ → Prop} (h : Tot (fun σ => B_Z34 (σ 0) (F_Z1 (σ 0)) nodes) Q) : Tot (fun σ => F_Z34 (σ 0) nodes) Q :=
  Tot.call (F := fun k => F_Z34 k nodes) (B := fun k => B_Z34 k (F_Z1 k) nodes) (fun k => rfl) h
abbrev A_Z34_L0 (Z : Type) : Type := (List (Int × Int × List Int)) → (List (Int × Int × List Int)) → Int → Int → Z
abbrev u_Z34_L0 {Z : Type} (f : A_Z34_L0 Z) (t : T_Z34_L0) : Z := f t.1 t.2.1 t.2.2.1 t.2.2.2.1
theorem loop_Z34_L0 {Q : A_Z34_L0 ((((List (Int × Int × List Int)) × Unit) × (Unit)) → Prop)} (I : A_Z34_L0 Prop) (μ : A_Z34_L0 Nat)
    (step : ∀ a0 a1 a2 a3, I a0 a1 a2 a3 → ∀ again : (Nat → Nat) → T_Z34_L0 → R_Z34, Dep 2 again → (∀ y0 y1 y2 y3, I y0 y1 y2 y3 → μ y0 y1 y2 y3 < μ a0 a1 a2 a3 → Tot (fun σ => again σ (y0, y1, y2, y3, ())) (Q y0 y1 y2 y3)) →
      Tot (fun σ => B_Z34_L0b (σ 0) (F_Z1 (σ 0)) (again σ) a0 a1 a2 a3) (Q a0 a1 a2 a3)) :
    ∀ a0 a1 a2 a3, I a0 a1 a2 a3 → Tot (fun σ => B_Z34_L0 (σ 0) (F_Z1 (σ 0)) (σ 0) (a0, a1, a2, a3, ())) (Q a0 a1 a2 a3) := fun a0 a1 a2 a3 => Tot.loop0 (L := fun k => B_Z34_L0 k (F_Z1 k)) (B := fun k g => u_Z34_L0 (B_Z34_L0b k (F_Z1 k) g)) (Q := u_Z34_L0 Q) (fun _ _ _ => rfl) (u_Z34_L0 I) (u_Z34_L0 μ)
    (fun t ht again hag h => step t.1 t.2.1 t.2.2.1 t.2.2.2.1 ht again hag fun y0 y1 y2 y3 => h (y0, y1, y2, y3, ())) (a0, a1, a2, a3, ())
abbrev R_Z12 : Type := Option ((((List (Int × Int × List Int)) × List Int × List Int × Bool × Unit) × Unit) × (Unit))
abbrev C_Z12 : Type := (List (Int × Int × List Int)) → List Int → List Int → Bool → R_Z12
def B_Z12 (k : Nat) (c_Z34 : C_Z34) (c_Z1 : C_Z1) (m_0 : List (Int × Int × List Int)) (m_1 m_2 : List Int) (m_3 : Bool) : R_Z12 :=
  (c_Z34 m_0).bind fun r5 =>
  (c_Z1 m_1).bind fun r8 =>
  (c_Z1 m_2).bind fun r11 =>
  some (((r5.1.1, r8.1.1, r11.1.1, m_3, ()), ()), ())
def F_Z12 : Nat → C_Z12
  | 0, _, _, _, _ => none
  | k + 1, m_0, m_1, m_2, m_3 => B_Z12 k (F_Z34 k) (F_Z1 k) m_0 m_1 m_2 m_3
theorem tot_Z12 {m_0 m_1 m_2 m_3 : _} {Q : _ → Prop} (h : Tot (fun σ => B_Z12 (σ 0) (F_Z34 (σ 0)) (F_Z1 (σ 0)) m_0 m_1 m_2 m_3) Q) : Tot (fun σ => F_Z12 (σ 0) m_0 m_1 m_2 m_3) Q :=
  Tot.call (F := fun k => F_Z12 k m_0 m_1 m_2 m_3) (B := fun k => B_Z12 k (F_Z34 k) (F_Z1 k) m_0 m_1 m_2 m_3) (fun k => rfl) h
abbrev R_Z8 : Type := Option ((Unit) × (Unit))
abbrev C_Z8 : Type := (List (Int × Int × List Int)) → List Int → List Int → Bool → R_Z8
def B_Z8 (k : Nat) (t0_0 : List (Int × Int × List Int)) (t0_1 t0_2 : List Int) (t0_3 : Bool) : R_Z8 :=
  some ((), ())
def F_Z8 : Nat → C_Z8
  | 0, _, _, _, _ => none
  | k + 1, t0_0, t0_1, t0_2, t0_3 => B_Z8 k t0_0 t0_1 t0_2 t0_3
theorem tot_Z8 {t0_0 t0_1 t0_2 t0_3 : _} {Q : _ → Prop} (h : Tot (fun σ => B_Z8 (σ 0) t0_0 t0_1 t0_2 t0_3) Q) : Tot (fun σ => F_Z8 (σ 0) t0_0 t0_1 t0_2 t0_3) Q :=
  Tot.call (F := fun k => F_Z8 k t0_0 t0_1 t0_2 t0_3) (B := fun k => B_Z8 k t0_0 t0_1 t0_2 t0_3) (fun k => rfl) h
abbrev R_Z0 : Type := Option ((((List (Int × Int × List Int)) × List Int × List Int × Bool × Unit) × Int × Unit) × (Unit))
abbrev C_Z0 : Type := (List (Int × Int)) → R_Z0
abbrev T_Z0_L0 : Type := (List (Int × Int)) × Unit × (Unit × Unit × Unit × Bool × Unit) × ((List (Int × Int × List Int)) × List Int × List Int × Bool × Unit) × (List (Int × Int)) × Int × Int × Unit
def B_Z0_L0b (k : Nat) (c_Z14 : C_Z14) (c_Z9 : C_Z9) (c_Z12 : C_Z12) (c_Z8 : C_Z8) (again0 : T_Z0_L0 → R_Z0) (ops : List (Int × Int)) (t4_Done : Bool) (m_Nodes : List (Int × Int × List Int)) (m_Stack m_Memo : List Int) (m_Done : Bool) (t10 : List (Int × Int)) (t11 t12 : Int) : R_Z0 :=
  bif decide (t12 < t11) then
    chk (inb t12 t10.length) <|
    (c_Z9 m_Nodes m_Stack m_Memo m_Done ((rdx ((0 : Int), (0 : Int)) t10 t12).1) ((rdx ((0 : Int), (0 : Int)) t10 t12).2)).bind fun r18 =>
    bif (!r18.1.1) then
      (r18.2.1.1).bind fun p25 =>
      (c_Z12 p25 r18.2.1.2.1 r18.2.1.2.2.1 r18.2.1.2.2.2.1).bind fun r21 =>
      some (((r21.1.1.1, r21.1.1.2.1, r21.1.1.2.2.1, r21.1.1.2.2.2.1, ()), t12, ()), ())
    else
      (r18.2.1.1).bind fun p26 =>
      (c_Z8 p26 r18.2.1.2.1 r18.2.1.2.2.1 r18.2.1.2.2.2.1).bind fun r25 =>
      (r18.2.1.1).bind fun p27 =>
      again0 (ops, (), ((), (), (), t4_Done, ()), (p27, r18.2.1.2.1, r18.2.1.2.2.1, r18.2.1.2.2.2.1, ()), t10, t11, w64 (t12 + 1), ())
  else
    (c_Z12 m_Nodes m_Stack m_Memo m_Done).bind fun r28 =>
    some (((r28.1.1.1, r28.1.1.2.1, r28.1.1.2.2.1, r28.1.1.2.2.2.1, ()), len ops, ()), ())
def B_Z0_L0 (k : Nat) (c_Z14 : C_Z14) (c_Z9 : C_Z9) (c_Z12 : C_Z12) (c_Z8 : C_Z8) (n : Nat) (t : T_Z0_L0) : R_Z0 :=
  lfix n (fun again t => B_Z0_L0b k c_Z14 c_Z9 c_Z12 c_Z8 again t.1 t.2.2.1.2.2.2.1 t.2.2.2.1.1 t.2.2.2.1.2.1 t.2.2.2.1.2.2.1 t.2.2.2.1.2.2.2.1 t.2.2.2.2.1 t.2.2.2.2.2.1 t.2.2.2.2.2.2.1) t
def B_Z0 (k : Nat) (c_Z14 : C_Z14) (c_Z9 : C_Z9) (c_Z12 : C_Z12) (c_Z8 : C_Z8) (ops : List (Int × Int)) : R_Z0 :=
  (c_Z14 0).bind fun r9 =>
  B_Z0_L0 k c_Z14 c_Z9 c_Z12 c_Z8 k (ops, (), ((), (), (), false, ()), (r9.1.1.1, [], r9.1.1.2.2.1, r9.1.1.2.2.2.1, ()), ops, len ops, 0, ())
def F_Z0 : Nat → C_Z0
  | 0, _ => none
  | k + 1, ops => B_Z0 k (F_Z14 k) (F_Z9 k) (F_Z12 k) (F_Z8 k) ops
theorem tot_Z0 {ops : _} {Q : _ → Prop} (h : Tot (fun σ => B_Z0 (σ 0) (F_Z14 (σ 0)) (F_Z9 (σ 0)) (F_Z12 (σ 0)) (F_Z8 (σ 0)) ops) Q) : Tot (fun σ => F_Z0 (σ 0) ops) Q :=
  Tot.call (F := fun k => F_Z0 k ops) (B := fun k => B_Z0 k (F_Z14 k) (F_Z9 k) (F_Z12 k) (F_Z8 k) ops) (fun k => rfl) h
abbrev A_Z0_L0 (Z : Type) : Type := (List (Int × Int)) → Bool → (List (Int × Int × List Int)) → List Int → List Int → Bool → (List (Int × Int)) → Int → Int → Z
abbrev u_Z0_L0 {Z : Type} (f : A_Z0_L0 Z) (t : T_Z0_L0) : Z := f t.1 t.2.2.1.2.2.2.1 t.2.2.2.1.1 t.2.2.2.1.2.1 t.2.2.2.1.2.2.1 t.2.2.2.1.2.2.2.1 t.2.2.2.2.1 t.2.2.2.2.2.1 t.2.2.2.2.2.2.1
theorem loop_Z0_L0 {Q : A_Z0_L0 (((((List (Int × Int × List Int)) × List Int × List Int × Bool × Unit) × Int × Unit) × (Unit)) → Prop)} (I : A_Z0_L0 Prop) (μ : A_Z0_L0 Nat)
    (step : ∀ a0 a1 a2 a3 a4 a5 a6 a7 a8, I a0 a1 a2 a3 a4 a5 a6 a7 a8 → ∀ again : (Nat → Nat) → T_Z0_L0 → R_Z0, Dep 2 again → (∀ y0 y1 y2 y3 y4 y5 y6 y7 y8, I y0 y1 y2 y3 y4 y5 y6 y7 y8 → μ y0 y1 y2 y3 y4 y5 y6 y7 y8 < μ a0 a1 a2 a3 a4 a5 a6 a7 a8 → Tot (fun σ => again σ (y0, (), ((), (), (), y1, ()), (y2, y3, y4, y5, ()), y6, y7, y8, ())) (Q y0 y1 y2 y3 y4 y5 y6 y7 y8)) →
      Tot (fun σ => B_Z0_L0b (σ 0) (F_Z14 (σ 0)) (F_Z9 (σ 0)) (F_Z12 (σ 0)) (F_Z8 (σ 0)) (again σ) a0 a1 a2 a3 a4 a5 a6 a7 a8) (Q a0 a1 a2 a3 a4 a5 a6 a7 a8)) :
    ∀ a0 a1 a2 a3 a4 a5 a6 a7 a8, I a0 a1 a2 a3 a4 a5 a6 a7 a8 → Tot (fun σ => B_Z0_L0 (σ 0) (F_Z14 (σ 0)) (F_Z9 (σ 0)) (F_Z12 (σ 0)) (F_Z8 (σ 0)) (σ 0) (a0, (), ((), (), (), a1, ()), (a2, a3, a4, a5, ()), a6, a7, a8, ())) (Q a0 a1 a2 a3 a4 a5 a6 a7 a8) := fun a0 a1 a2 a3 a4 a5 a6 a7 a8 => Tot.loop0 (L := fun k => B_Z0_L0 k (F_Z14 k) (F_Z9 k) (F_Z12 k) (F_Z8 k)) (B := fun k g => u_Z0_L0 (B_Z0_L0b k (F_Z14 k) (F_Z9 k) (F_Z12 k) (F_Z8 k) g)) (Q := u_Z0_L0 Q) (fun _ _ _ => rfl) (u_Z0_L0 I) (u_Z0_L0 μ)
    (fun t ht again hag h => step t.1 t.2.2.1.2.2.2.1 t.2.2.2.1.1 t.2.2.2.1.2.1 t.2.2.2.1.2.2.1 t.2.2.2.1.2.2.2.1 t.2.2.2.2.1 t.2.2.2.2.2.1 t.2.2.2.2.2.2.1 ht again hag fun y0 y1 y2 y3 y4 y5 y6 y7 y8 => h (y0, (), ((), (), (), y1, ()), (y2, y3, y4, y5, ()), y6, y7, y8, ())) (a0, (), ((), (), (), a1, ()), (a2, a3, a4, a5, ()), a6, a7, a8, ())
abbrev R_Z16 : Type := Option ((((List (Int × Int × List Int)) × Int × Unit) × Bool × Unit) × (Unit))
abbrev C_Z16 : Type := (List (Int × Int)) → R_Z16
def B_Z16_J0 (k : Nat) (c_Z44 : C_Z44) (c_Z0 : C_Z0) (t2_Root : Int) (m_Nodes : List (Int × Int × List Int)) (m_Stack m_Memo : List Int) (m_Done t23 : Bool) : R_Z16 :=
  bif t23 then
    some ((([], 0, ()), false, ()), ())
  else
    chk (inb 0 m_Stack.length) <|
    chk (decide ((0 : Int).toNat < m_Stack.length)) <|
    some (((m_Nodes, (m_Stack.getD ((0 : Int).toNat) (0 : Int)), ()), true, ()), ())
def B_Z16 (k : Nat) (c_Z44 : C_Z44) (c_Z0 : C_Z0) (ops : List (Int × Int)) : R_Z16 :=
  (c_Z44 ops).bind fun r7 =>
  bif (!r7.1.1) then
    some ((([], 0, ()), false, ()), ())
  else
    (c_Z0 ops).bind fun r12 =>
    bif decide (r12.1.2.1 < (len ops)) then
      jn (fun t => B_Z16_J0 k c_Z44 c_Z0 t.1.2.1 t.2.1.1 t.2.1.2.1 t.2.1.2.2.1 t.2.1.2.2.2.1 t.2.2.1) (((), 0, ()), (r12.1.1.1, r12.1.1.2.1, r12.1.1.2.2.1, r12.1.1.2.2.2.1, ()), true, ())
    else
      jn (fun t => B_Z16_J0 k c_Z44 c_Z0 t.1.2.1 t.2.1.1 t.2.1.2.1 t.2.1.2.2.1 t.2.1.2.2.2.1 t.2.2.1) (((), 0, ()), (r12.1.1.1, r12.1.1.2.1, r12.1.1.2.2.1, r12.1.1.2.2.2.1, ()), (!r12.1.1.2.2.2.1), ())
def F_Z16 : Nat → C_Z16
  | 0, _ => none
  | k + 1, ops => B_Z16 k (F_Z44 k) (F_Z0 k) ops
theorem tot_Z16 {ops : _} {Q : _ → Prop} (h : Tot (fun σ => B_Z16 (σ 0) (F_Z44 (σ 0)) (F_Z0 (σ 0)) ops) Q) : Tot (fun σ => F_Z16 (σ 0) ops) Q :=
  Tot.call (F := fun k => F_Z16 k ops) (B := fun k => B_Z16 k (F_Z44 k) (F_Z0 k) ops) (fun k => rfl) h
abbrev R_Z36 : Type := Option ((Unit) × (((List (Int × Int)) × Unit) × (List Int × Unit) × ((List (Int × Int × List Int)) × Unit) × (Unit × Unit) × Unit))
abbrev C_Z36 : Type := Int → (List (Int × Int)) → List Int → (List (Int × Int × List Int)) → R_Z36
abbrev T_Z36_L1 : Type := ((List (Int × Int)) × Unit) × (List Int × Unit) × ((List (Int × Int × List Int)) × Unit) × (Unit × Unit) × List Int × Int × Int × Unit
def B_Z36_L1b (k : Nat) (c_Z36 : C_Z36) (again1 : T_Z36_L1 → R_Z36) (t1 : List (Int × Int)) (t2 : List Int) (t3 : List (Int × Int × List Int)) (t44 : List Int) (t45 t46 : Int) : R_Z36 :=
  bif decide (t46 < t45) then
    chk (inb t46 t44.length) <|
    (c_Z36 (rdx (0 : Int) t44 t46) t1 t2 t3).bind fun r52 =>
    again1 ((r52.2.1.1, ()), (r52.2.2.1.1, ()), (r52.2.2.2.1.1, ()), ((), ()), t44, t45, w64 (t46 + 1), ())
  else
    some ((), ((t1, ()), (t2, ()), (t3, ()), ((), ()), ()))
def B_Z36_L1 (k : Nat) (c_Z36 : C_Z36) (n : Nat) (t : T_Z36_L1) : R_Z36 :=
  lfix n (fun again t => B_Z36_L1b k c_Z36 again t.1.1 t.2.1.1 t.2.2.1.1 t.2.2.2.2.1 t.2.2.2.2.2.1 t.2.2.2.2.2.2.1) t
def B_Z36_J0 (k : Nat) (c_Z36 : C_Z36) (t1 : List (Int × Int)) (t2 : List Int) (t3 : List (Int × Int × List Int)) (x_Kind x_Value : Int) (x_Kids : List Int) : R_Z36 :=
  chk (room t2.length ([x_Kind, x_Value, len x_Kids]).length) <|
  B_Z36_L1 k c_Z36 k ((t1, ()), ((t2 ++ [x_Kind, x_Value, len x_Kids]), ()), (t3, ()), ((), ()), x_Kids, len x_Kids, 0, ())
def B_Z36 (k : Nat) (c_Z36 : C_Z36) (i : Int) (t1 : List (Int × Int)) (t2 : List Int) (t3 : List (Int × Int × List Int)) : R_Z36 :=
  bif (mfind t1 i).isSome then
    chk (room t2.length ([(-1), ((mfind t1 i).getD (0 : Int))]).length) <|
    some ((), ((t1, ()), ((t2 ++ [(-1), ((mfind t1 i).getD (0 : Int))]), ()), (t3, ()), ((), ()), ()))
  else
    chk (inb i t3.length) <|
    bif (((rdx ((0 : Int), ((0 : Int), ([] : List Int))) t3 i).1) != 0) then
      jn (fun t => B_Z36_J0 k c_Z36 t.1.1 t.2.1.1 t.2.2.1.1 t.2.2.2.2.1.1 t.2.2.2.2.1.2.1 t.2.2.2.2.1.2.2.1) (((mput t1 i (t1.length : Int)), ()), (t2, ()), (t3, ()), ((), ()), ((rdx ((0 : Int), ((0 : Int), ([] : List Int))) t3 i).1, ((rdx ((0 : Int), ((0 : Int), ([] : List Int))) t3 i).2).1, ((rdx ((0 : Int), ((0 : Int), ([] : List Int))) t3 i).2).2, ()), ())
    else
      jn (fun t => B_Z36_J0 k c_Z36 t.1.1 t.2.1.1 t.2.2.1.1 t.2.2.2.2.1.1 t.2.2.2.2.1.2.1 t.2.2.2.2.1.2.2.1) ((t1, ()), (t2, ()), (t3, ()), ((), ()), ((rdx ((0 : Int), ((0 : Int), ([] : List Int))) t3 i).1, ((rdx ((0 : Int), ((0 : Int), ([] : List Int))) t3 i).2).1, ((rdx ((0 : Int), ((0 : Int), ([] : List Int))) t3 i).2).2, ()), ())
def F_Z36 : Nat → C_Z36
  | 0, _, _, _, _ => none
  | k + 1, i, t1, t2, t3 => B_Z36 k (F_Z36 k) i t1 t2 t3
theorem F_Z36_succ (k : Nat) (i : Int) (t1 : List (Int × Int)) (t2 : List Int) (t3 : List (Int × Int × List Int)) : F_Z36 (k + 1) i t1 t2 t3 = B_Z36 k (F_Z36 k) i t1 t2 t3 := by rw [F_Z36]
theorem tot_Z36 {i t1 t2 t3 : _} {Q : _ → Prop} (h : Tot (fun σ => B_Z36 (σ 0) (F_Z36 (σ 0)) i t1 t2 t3) Q) : Tot (fun σ => F_Z36 (σ 0) i t1 t2 t3) Q :=
  Tot.call (F := fun k => F_Z36 k i t1 t2 t3) (B := fun k => B_Z36 k (F_Z36 k) i t1 t2 t3) (fun k => F_Z36_succ k i t1 t2 t3) h
end Go.Gx

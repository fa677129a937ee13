/-
  The functions, as Gx tells them (printed by gen.py).
-/
import Derived.Test.YtfljejcoiapkpaaXGpart4
set_option linter.unusedVariables false
namespace Go.Gx
abbrev R_s_newReader : Type := Option (((List Int × Int × Unit) × Unit) × (Unit))
abbrev C_s_newReader : Type := List Int → R_s_newReader
def B_s_newReader_J0 (k : Nat) (code : List Int) : R_s_newReader :=
  some (((code, 0, ()), ()), ())
def B_s_newReader (k : Nat) (code : List Int) : R_s_newReader :=
  bif decide ((len code) > 2000) then
    chk (cutb 0 2000 code.length) <|
    jn (fun t => B_s_newReader_J0 k t.1) ((sub code 0 2000), ())
  else
    jn (fun t => B_s_newReader_J0 k t.1) (code, ())
def F_s_newReader : Nat → C_s_newReader
  | 0, _ => none
  | k + 1, code => B_s_newReader k code
theorem tot_s_newReader {code : _} {Q : _ → Prop} (h : Tot (fun σ => B_s_newReader (σ 0) code) Q) : Tot (fun σ => F_s_newReader (σ 0) code) Q :=
  Tot.call (F := fun k => F_s_newReader k code) (B := fun k => B_s_newReader k code) (fun k => rfl) h
abbrev R_s_newShapes : Type := Option (((List Int × List Bool × List Int × List Int × Bool × Unit) × Unit) × (Unit))
abbrev C_s_newShapes : Type := R_s_newShapes
abbrev T_s_newShapes_L0 : Type := (Unit × Unit × Unit × Unit × Bool × Unit) × (Unit × Unit × Unit × List Int × Bool × Unit) × Int × Unit
def B_s_newShapes_L0b (k : Nat) (again0 : T_s_newShapes_L0 → R_s_newShapes) (t0_Done : Bool) (s_Memo : List Int) (s_Done : Bool) (i : Int) : R_s_newShapes :=
  bif decide (i < 20) then
    chk (room s_Memo.length ([(-1)]).length) <|
    again0 (((), (), (), (), t0_Done, ()), ((), (), (), (s_Memo ++ [(-1)]), s_Done, ()), w64 (i + 1), ())
  else
    some ((([], [], [], s_Memo, s_Done, ()), ()), ())
def B_s_newShapes_L0 (k : Nat) (n : Nat) (t : T_s_newShapes_L0) : R_s_newShapes :=
  lfix n (fun again t => B_s_newShapes_L0b k again t.1.2.2.2.2.1 t.2.1.2.2.2.1 t.2.1.2.2.2.2.1 t.2.2.1) t
def B_s_newShapes (k : Nat) : R_s_newShapes :=
  B_s_newShapes_L0 k k (((), (), (), (), false, ()), ((), (), (), [], false, ()), 0, ())
def F_s_newShapes : Nat → C_s_newShapes
  | 0 => none
  | k + 1 => B_s_newShapes k
theorem tot_s_newShapes {Q : _ → Prop} (h : Tot (fun σ => B_s_newShapes (σ 0)) Q) : Tot (fun σ => F_s_newShapes (σ 0)) Q :=
  Tot.call (F := fun k => F_s_newShapes k) (B := fun k => B_s_newShapes k) (fun k => rfl) h
abbrev A_s_newShapes_L0 (Z : Type) : Type := Bool → List Int → Bool → Int → Z
abbrev u_s_newShapes_L0 {Z : Type} (f : A_s_newShapes_L0 Z) (t : T_s_newShapes_L0) : Z := f t.1.2.2.2.2.1 t.2.1.2.2.2.1 t.2.1.2.2.2.2.1 t.2.2.1
theorem loop_s_newShapes_L0 {Q : A_s_newShapes_L0 ((((List Int × List Bool × List Int × List Int × Bool × Unit) × Unit) × (Unit)) → Prop)} (I : A_s_newShapes_L0 Prop) (μ : A_s_newShapes_L0 Nat)
    (step : ∀ a0 a1 a2 a3, I a0 a1 a2 a3 → ∀ again : (Nat → Nat) → T_s_newShapes_L0 → R_s_newShapes, Dep 2 again → (∀ y0 y1 y2 y3, I y0 y1 y2 y3 → μ y0 y1 y2 y3 < μ a0 a1 a2 a3 → Tot (fun σ => again σ (((), (), (), (), y0, ()), ((), (), (), y1, y2, ()), y3, ())) (Q y0 y1 y2 y3)) →
      Tot (fun σ => B_s_newShapes_L0b (σ 0) (again σ) a0 a1 a2 a3) (Q a0 a1 a2 a3)) :
    ∀ a0 a1 a2 a3, I a0 a1 a2 a3 → Tot (fun σ => B_s_newShapes_L0 (σ 0) (σ 0) (((), (), (), (), a0, ()), ((), (), (), a1, a2, ()), a3, ())) (Q a0 a1 a2 a3) := fun a0 a1 a2 a3 => Tot.loop0 (L := fun k => B_s_newShapes_L0 k) (B := fun k g => u_s_newShapes_L0 (B_s_newShapes_L0b k g)) (Q := u_s_newShapes_L0 Q) (fun _ _ _ => rfl) (u_s_newShapes_L0 I) (u_s_newShapes_L0 μ)
    (fun t ht again hag h => step t.1.2.2.2.2.1 t.2.1.2.2.2.1 t.2.1.2.2.2.2.1 t.2.2.1 ht again hag fun y0 y1 y2 y3 => h (((), (), (), (), y0, ()), ((), (), (), y1, y2, ()), y3, ())) (((), (), (), (), a0, ()), ((), (), (), a1, a2, ()), a3, ())
abbrev R_s_reader_pick : Type := Option ((Int × Unit) × ((List Int × Int × Unit) × Unit))
abbrev C_s_reader_pick : Type := List Int → Int → Int → R_s_reader_pick
def B_s_reader_pick_J0 (k : Nat) (r_b : List Int) (r_p n1 : Int) (t24 : Bool) : R_s_reader_pick :=
  bif t24 then
    some ((0, ()), ((r_b, r_p, ()), ()))
  else
    bif decide ((w64 (r_p - 1)) < (len r_b)) then
      chk (inb (w64 (r_p - 1)) r_b.length) <|
      chk ((n1 != 0)) <|
      some ((((w64 ((rdx (0 : Int) r_b (w64 (r_p - 1))))).tmod n1), ()), ((r_b, r_p, ()), ()))
    else
      chk (((len r_b) != 0)) <|
      chk (inb ((w64 (r_p - 1)).tmod (len r_b)) r_b.length) <|
      chk (((len r_b) != 0)) <|
      chk (inb ((w64 ((w64 ((w64 (r_p - 1)) * 7)) + 3)).tmod (len r_b)) r_b.length) <|
      let v78 : Int := w64 ((w64 ((rdx (0 : Int) r_b ((w64 ((w64 ((w64 (r_p - 1)) * 7)) + 3)).tmod (len r_b))))) * 1117)
      let v82 : Int := w64 ((w64 ((w64 ((w64 ((rdx (0 : Int) r_b ((w64 (r_p - 1)).tmod (len r_b))))) * 131)) + v78)) + (w64 ((w64 (r_p - 1)) * 29)))
      chk (((len r_b) != 0)) <|
      let v95 : Int := xor64 (w64 (v82 + (w64 ((w64 ((w64 (r_p - 1)).tdiv (len r_b))) * 53)))) (w64 ((w64 (v82 + (w64 ((w64 ((w64 (r_p - 1)).tdiv (len r_b))) * 53)))).tdiv 64))
      chk ((n1 != 0)) <|
      some (((v95.tmod n1), ()), ((r_b, r_p, ()), ()))
def B_s_reader_pick (k : Nat) (r_b : List Int) (r_p n1 : Int) : R_s_reader_pick :=
  bif decide (n1 < 1) then
    jn (fun t => B_s_reader_pick_J0 k t.1.1 t.1.2.1 t.2.1 t.2.2.1) ((r_b, w64 (r_p + 1), ()), n1, true, ())
  else
    jn (fun t => B_s_reader_pick_J0 k t.1.1 t.1.2.1 t.2.1 t.2.2.1) ((r_b, w64 (r_p + 1), ()), n1, ((len r_b) == 0), ())
def F_s_reader_pick : Nat → C_s_reader_pick
  | 0, _, _, _ => none
  | k + 1, r_b, r_p, n1 => B_s_reader_pick k r_b r_p n1
theorem tot_s_reader_pick {r_b r_p n1 : _} {Q : _ → Prop} (h : Tot (fun σ => B_s_reader_pick (σ 0) r_b r_p n1) Q) : Tot (fun σ => F_s_reader_pick (σ 0) r_b r_p n1) Q :=
  Tot.call (F := fun k => F_s_reader_pick k r_b r_p n1) (B := fun k => B_s_reader_pick k r_b r_p n1) (fun k => rfl) h
abbrev R_s_reader_one : Type := Option ((Int × Unit) × ((List Int × Int × Unit) × Unit))
abbrev C_s_reader_one : Type := List Int → Int → List Int → R_s_reader_one
def B_s_reader_one (k : Nat) (c_s_reader_pick : C_s_reader_pick) (r_b : List Int) (r_p : Int) (list : List Int) : R_s_reader_one :=
  (c_s_reader_pick r_b r_p (len list)).bind fun r9 =>
  chk (inb r9.1.1 list.length) <|
  some (((rdx (0 : Int) list r9.1.1), ()), ((r9.2.1.1, r9.2.1.2.1, ()), ()))
def F_s_reader_one : Nat → C_s_reader_one
  | 0, _, _, _ => none
  | k + 1, r_b, r_p, list => B_s_reader_one k (F_s_reader_pick k) r_b r_p list
theorem tot_s_reader_one {r_b r_p list : _} {Q : _ → Prop} (h : Tot (fun σ => B_s_reader_one (σ 0) (F_s_reader_pick (σ 0)) r_b r_p list) Q) : Tot (fun σ => F_s_reader_one (σ 0) r_b r_p list) Q :=
  Tot.call (F := fun k => F_s_reader_one k r_b r_p list) (B := fun k => B_s_reader_one k (F_s_reader_pick k) r_b r_p list) (fun k => rfl) h
abbrev R_s_someOp : Type := Option (((Int × Int × Unit) × Unit) × ((List Int × Int × Unit) × Unit))
abbrev C_s_someOp : Type := List Int → Int → R_s_someOp
def B_s_someOp_J1 (k : Nat) (c_s_reader_pick : C_s_reader_pick) (c_s_reader_one : C_s_reader_one) (r_b : List Int) (r_p t2_Code t2_Arg o_Code o_Arg : Int) : R_s_someOp :=
  some (((o_Code, o_Arg, ()), ()), ((r_b, r_p, ()), ()))
def B_s_someOp_J0 (k : Nat) (c_s_reader_pick : C_s_reader_pick) (c_s_reader_one : C_s_reader_one) (r_b : List Int) (r_p t2_Code t2_Arg o_Code o_Arg : Int) (t17 : Bool) : R_s_someOp :=
  bif t17 then
    (c_s_reader_pick r_b r_p 4).bind fun r23 =>
    jn (fun t => B_s_someOp_J1 k c_s_reader_pick c_s_reader_one t.1.1 t.1.2.1 t.2.1.1 t.2.1.2.1 t.2.2.1.1 t.2.2.1.2.1) ((r23.2.1.1, r23.2.1.2.1, ()), (t2_Code, t2_Arg, ()), (o_Code, r23.1.1, ()), ())
  else
    jn (fun t => B_s_someOp_J1 k c_s_reader_pick c_s_reader_one t.1.1 t.1.2.1 t.2.1.1 t.2.1.2.1 t.2.2.1.1 t.2.2.1.2.1) ((r_b, r_p, ()), (t2_Code, t2_Arg, ()), (o_Code, o_Arg, ()), ())
def B_s_someOp (k : Nat) (c_s_reader_pick : C_s_reader_pick) (c_s_reader_one : C_s_reader_one) (r_b : List Int) (r_p : Int) : R_s_someOp :=
  (c_s_reader_pick r_b r_p 20).bind fun r5 =>
  bif (r5.1.1 == 0) then
    (c_s_reader_pick r5.2.1.1 r5.2.1.2.1 250).bind fun r13 =>
    (c_s_reader_one r13.2.1.1 r13.2.1.2.1 ([5, 127, 128, 999, r13.1.1])).bind fun r15 =>
    jn (fun t => B_s_someOp_J1 k c_s_reader_pick c_s_reader_one t.1.1 t.1.2.1 t.2.1.1 t.2.1.2.1 t.2.2.1.1 t.2.2.1.2.1) ((r15.2.1.1, r15.2.1.2.1, ()), (0, 0, ()), (r5.1.1, r15.1.1, ()), ())
  else
    bif (r5.1.1 == 1) then
      jn (fun t => B_s_someOp_J0 k c_s_reader_pick c_s_reader_one t.1.1 t.1.2.1 t.2.1.1 t.2.1.2.1 t.2.2.1.1 t.2.2.1.2.1 t.2.2.2.1) ((r5.2.1.1, r5.2.1.2.1, ()), (0, 0, ()), (r5.1.1, 0, ()), (r5.1.1 == 1), ())
    else
      bif (r5.1.1 == 13) then
        jn (fun t => B_s_someOp_J0 k c_s_reader_pick c_s_reader_one t.1.1 t.1.2.1 t.2.1.1 t.2.1.2.1 t.2.2.1.1 t.2.2.1.2.1 t.2.2.2.1) ((r5.2.1.1, r5.2.1.2.1, ()), (0, 0, ()), (r5.1.1, 0, ()), (r5.1.1 == 13), ())
      else
        bif (r5.1.1 == 15) then
          jn (fun t => B_s_someOp_J0 k c_s_reader_pick c_s_reader_one t.1.1 t.1.2.1 t.2.1.1 t.2.1.2.1 t.2.2.1.1 t.2.2.1.2.1 t.2.2.2.1) ((r5.2.1.1, r5.2.1.2.1, ()), (0, 0, ()), (r5.1.1, 0, ()), (r5.1.1 == 15), ())
        else
          jn (fun t => B_s_someOp_J0 k c_s_reader_pick c_s_reader_one t.1.1 t.1.2.1 t.2.1.1 t.2.1.2.1 t.2.2.1.1 t.2.2.1.2.1 t.2.2.2.1) ((r5.2.1.1, r5.2.1.2.1, ()), (0, 0, ()), (r5.1.1, 0, ()), (r5.1.1 == 16), ())
def F_s_someOp : Nat → C_s_someOp
  | 0, _, _ => none
  | k + 1, r_b, r_p => B_s_someOp k (F_s_reader_pick k) (F_s_reader_one k) r_b r_p
theorem tot_s_someOp {r_b r_p : _} {Q : _ → Prop} (h : Tot (fun σ => B_s_someOp (σ 0) (F_s_reader_pick (σ 0)) (F_s_reader_one (σ 0)) r_b r_p) Q) : Tot (fun σ => F_s_someOp (σ 0) r_b r_p) Q :=
  Tot.call (F := fun k => F_s_someOp k r_b r_p) (B := fun k => B_s_someOp k (F_s_reader_pick k) (F_s_reader_one k) r_b r_p) (fun k => rfl) h
abbrev R_s_copyInts : Type := Option ((List Int × Unit) × (Unit))
abbrev C_s_copyInts : Type := List Int → R_s_copyInts
def B_s_copyInts (k : Nat) (list : List Int) : R_s_copyInts :=
  chk (room ([] : List Int).length list.length) <|
  some ((list, ()), ())
def F_s_copyInts : Nat → C_s_copyInts
  | 0, _ => none
  | k + 1, list => B_s_copyInts k list
theorem tot_s_copyInts {list : _} {Q : _ → Prop} (h : Tot (fun σ => B_s_copyInts (σ 0) list) Q) : Tot (fun σ => F_s_copyInts (σ 0) list) Q :=
  Tot.call (F := fun k => F_s_copyInts k list) (B := fun k => B_s_copyInts k list) (fun k => rfl) h
abbrev R_s_copyShapes : Type := Option (((List Int × List Bool × List Int × List Int × Bool × Unit) × Unit) × (Unit))
abbrev C_s_copyShapes : Type := List Int → List Bool → List Int → List Int → Bool → R_s_copyShapes
def B_s_copyShapes (k : Nat) (c_s_copyInts : C_s_copyInts) (s_0 : List Int) (s_1 : List Bool) (s_2 s_3 : List Int) (s_4 : Bool) : R_s_copyShapes :=
  (c_s_copyInts s_0).bind fun r5 =>
  chk (room ([] : List Bool).length s_1.length) <|
  (c_s_copyInts s_2).bind fun r12 =>
  (c_s_copyInts s_3).bind fun r15 =>
  some (((r5.1.1, s_1, r12.1.1, r15.1.1, s_4, ()), ()), ())
def F_s_copyShapes : Nat → C_s_copyShapes
  | 0, _, _, _, _, _ => none
  | k + 1, s_0, s_1, s_2, s_3, s_4 => B_s_copyShapes k (F_s_copyInts k) s_0 s_1 s_2 s_3 s_4
theorem tot_s_copyShapes {s_0 s_1 s_2 s_3 s_4 : _} {Q : _ → Prop} (h : Tot (fun σ => B_s_copyShapes (σ 0) (F_s_copyInts (σ 0)) s_0 s_1 s_2 s_3 s_4) Q) : Tot (fun σ => F_s_copyShapes (σ 0) s_0 s_1 s_2 s_3 s_4) Q :=
  Tot.call (F := fun k => F_s_copyShapes k s_0 s_1 s_2 s_3 s_4) (B := fun k => B_s_copyShapes k (F_s_copyInts k) s_0 s_1 s_2 s_3 s_4) (fun k => rfl) h
abbrev R_s_newKind : Type := Option ((Int × Unit) × (Unit))
abbrev C_s_newKind : Type := Int → R_s_newKind
def B_s_newKind (k : Nat) (c : Int) : R_s_newKind :=
  bif (c == 0) then
    some ((0, ()), ())
  else
    bif (c == 1) then
      some ((1, ()), ())
    else
      bif (c == 4) then
        some ((2, ()), ())
      else
        bif (c == 7) then
          some ((3, ()), ())
        else
          bif (c == 10) then
            some ((4, ()), ())
          else
            bif (c == 13) then
              some ((5, ()), ())
            else
              some (((-1), ()), ())
def F_s_newKind : Nat → C_s_newKind
  | 0, _ => none
  | k + 1, c => B_s_newKind k c
theorem tot_s_newKind {c : _} {Q : _ → Prop} (h : Tot (fun σ => B_s_newKind (σ 0) c) Q) : Tot (fun σ => F_s_newKind (σ 0) c) Q :=
  Tot.call (F := fun k => F_s_newKind k c) (B := fun k => B_s_newKind k c) (fun k => rfl) h
abbrev R_s_pushShape : Type := Option (((List Int × List Bool × List Int × List Int × Bool × Unit) × Unit) × (Unit))
abbrev C_s_pushShape : Type := List Int → List Bool → List Int → List Int → Bool → Int → R_s_pushShape
def B_s_pushShape (k : Nat) (s_0 : List Int) (s_1 : List Bool) (s_2 s_3 : List Int) (s_4 : Bool) (kind : Int) : R_s_pushShape :=
  chk (room s_0.length ([kind]).length) <|
  chk (room s_1.length ([false]).length) <|
  chk (room s_2.length ([w64 ((len (s_0 ++ [kind])) - 1)]).length) <|
  some ((((s_0 ++ [kind]), (s_1 ++ [false]), (s_2 ++ [w64 ((len (s_0 ++ [kind])) - 1)]), s_3, s_4, ()), ()), ())
def F_s_pushShape : Nat → C_s_pushShape
  | 0, _, _, _, _, _, _ => none
  | k + 1, s_0, s_1, s_2, s_3, s_4, kind => B_s_pushShape k s_0 s_1 s_2 s_3 s_4 kind
theorem tot_s_pushShape {s_0 s_1 s_2 s_3 s_4 kind : _} {Q : _ → Prop} (h : Tot (fun σ => B_s_pushShape (σ 0) s_0 s_1 s_2 s_3 s_4 kind) Q) : Tot (fun σ => F_s_pushShape (σ 0) s_0 s_1 s_2 s_3 s_4 kind) Q :=
  Tot.call (F := fun k => F_s_pushShape k s_0 s_1 s_2 s_3 s_4 kind) (B := fun k => B_s_pushShape k s_0 s_1 s_2 s_3 s_4 kind) (fun k => rfl) h
abbrev R_s_shapeAt : Type := Option ((Int × Unit) × (Unit))
abbrev C_s_shapeAt : Type := List Int → List Bool → List Int → List Int → Bool → Int → R_s_shapeAt
def B_s_shapeAt_J0 (k : Nat) (s_Kinds : List Int) (s_Full : List Bool) (s_Stack s_Memo : List Int) (s_Done : Bool) (at5 : Int) (t21 : Bool) : R_s_shapeAt :=
  bif t21 then
    some (((-1), ()), ())
  else
    chk (inb at5 s_Stack.length) <|
    chk (inb (rdx (0 : Int) s_Stack at5) s_Kinds.length) <|
    some (((rdx (0 : Int) s_Kinds (rdx (0 : Int) s_Stack at5)), ()), ())
def B_s_shapeAt (k : Nat) (s_0 : List Int) (s_1 : List Bool) (s_2 s_3 : List Int) (s_4 : Bool) (deep : Int) : R_s_shapeAt :=
  bif decide ((w64 ((w64 ((len s_2) - 1)) - deep)) < 0) then
    jn (fun t => B_s_shapeAt_J0 k t.1.1 t.1.2.1 t.1.2.2.1 t.1.2.2.2.1 t.1.2.2.2.2.1 t.2.1 t.2.2.1) ((s_0, s_1, s_2, s_3, s_4, ()), w64 ((w64 ((len s_2) - 1)) - deep), true, ())
  else
    chk (inb (w64 ((w64 ((len s_2) - 1)) - deep)) s_2.length) <|
    jn (fun t => B_s_shapeAt_J0 k t.1.1 t.1.2.1 t.1.2.2.1 t.1.2.2.2.1 t.1.2.2.2.2.1 t.2.1 t.2.2.1) ((s_0, s_1, s_2, s_3, s_4, ()), w64 ((w64 ((len s_2) - 1)) - deep), decide ((rdx (0 : Int) s_2 (w64 ((w64 ((len s_2) - 1)) - deep))) < 0), ())
def F_s_shapeAt : Nat → C_s_shapeAt
  | 0, _, _, _, _, _, _ => none
  | k + 1, s_0, s_1, s_2, s_3, s_4, deep => B_s_shapeAt k s_0 s_1 s_2 s_3 s_4 deep
theorem tot_s_shapeAt {s_0 s_1 s_2 s_3 s_4 deep : _} {Q : _ → Prop} (h : Tot (fun σ => B_s_shapeAt (σ 0) s_0 s_1 s_2 s_3 s_4 deep) Q) : Tot (fun σ => F_s_shapeAt (σ 0) s_0 s_1 s_2 s_3 s_4 deep) Q :=
  Tot.call (F := fun k => F_s_shapeAt k s_0 s_1 s_2 s_3 s_4 deep) (B := fun k => B_s_shapeAt k s_0 s_1 s_2 s_3 s_4 deep) (fun k => rfl) h
abbrev R_s_keyKind : Type := Option ((Bool × Unit) × (Unit))
abbrev C_s_keyKind : Type := Int → R_s_keyKind
def B_s_keyKind (k : Nat) (kind : Int) : R_s_keyKind :=
  bif (kind == 0) then
    some ((true, ()), ())
  else
    some (((kind == 1), ()), ())
def F_s_keyKind : Nat → C_s_keyKind
  | 0, _ => none
  | k + 1, kind => B_s_keyKind k kind
theorem tot_s_keyKind {kind : _} {Q : _ → Prop} (h : Tot (fun σ => B_s_keyKind (σ 0) kind) Q) : Tot (fun σ => F_s_keyKind (σ 0) kind) Q :=
  Tot.call (F := fun k => F_s_keyKind k kind) (B := fun k => B_s_keyKind k kind) (fun k => rfl) h
abbrev R_s_markShapes : Type := Option (((List Int × List Bool × List Int × List Int × Bool × Unit) × Bool × Unit) × (Unit))
abbrev C_s_markShapes : Type := List Int → List Bool → List Int → List Int → Bool → Int → R_s_markShapes
abbrev T_s_markShapes_L2 : Type := (List Int × List Bool × List Int × List Int × Bool × Unit) × (Unit × Unit × Unit × Unit × Bool × Unit) × List Int × Int × Unit
abbrev T_s_markShapes_L1 : Type := Int × (List Int × List Bool × List Int × List Int × Bool × Unit) × (Unit × Unit × Unit × Unit × Bool × Unit) × Int × Unit
def B_s_markShapes_L2b (k : Nat) (c_s_copyInts : C_s_copyInts) (c_s_pushShape : C_s_pushShape) (c_s_shapeAt : C_s_shapeAt) (c_s_keyKind : C_s_keyKind) (again2 : T_s_markShapes_L2 → R_s_markShapes) (s_Kinds : List Int) (s_Full : List Bool) (s_Stack s_Memo : List Int) (s_Done t4_Done : Bool) (list : List Int) (i : Int) : R_s_markShapes :=
  bif decide (i < (len list)) then
    chk (inb i list.length) <|
    chk (decide (i.toNat < list.length)) <|
    chk (inb (list.getD i.toNat (0 : Int)) s_Kinds.length) <|
    chk (decide ((list.getD i.toNat (0 : Int)).toNat < s_Kinds.length)) <|
    (c_s_keyKind (s_Kinds.getD ((list.getD i.toNat (0 : Int)).toNat) (0 : Int))).bind fun r66 =>
    bif (!r66.1.1) then
      some (((s_Kinds, s_Full, s_Stack, s_Memo, s_Done, ()), false, ()), ())
    else
      again2 ((s_Kinds, s_Full, s_Stack, s_Memo, s_Done, ()), ((), (), (), (), t4_Done, ()), list, w64 (i + 2), ())
  else
    (c_s_shapeAt s_Kinds s_Full s_Stack s_Memo s_Done 0).bind fun r71 =>
    bif (r71.1.1 == 4) then
      some (((s_Kinds, s_Full, s_Stack, s_Memo, s_Done, ()), (((len list).tmod 2) == 0), ()), ())
    else
      some (((s_Kinds, s_Full, s_Stack, s_Memo, s_Done, ()), false, ()), ())
def B_s_markShapes_L2 (k : Nat) (c_s_copyInts : C_s_copyInts) (c_s_pushShape : C_s_pushShape) (c_s_shapeAt : C_s_shapeAt) (c_s_keyKind : C_s_keyKind) (n : Nat) (t : T_s_markShapes_L2) : R_s_markShapes :=
  lfix n (fun again t => B_s_markShapes_L2b k c_s_copyInts c_s_pushShape c_s_shapeAt c_s_keyKind again t.1.1 t.1.2.1 t.1.2.2.1 t.1.2.2.2.1 t.1.2.2.2.2.1 t.2.1.2.2.2.2.1 t.2.2.1 t.2.2.2.1) t
def B_s_markShapes_J0 (k : Nat) (c_s_copyInts : C_s_copyInts) (c_s_pushShape : C_s_pushShape) (c_s_shapeAt : C_s_shapeAt) (c_s_keyKind : C_s_keyKind) (again1 : T_s_markShapes_L1 → R_s_markShapes) (c : Int) (s_Kinds : List Int) (s_Full : List Bool) (s_Stack s_Memo : List Int) (s_Done t4_Done : Bool) (at6 : Int) (t22 : Bool) : R_s_markShapes :=
  bif t22 then
    again1 (c, (s_Kinds, s_Full, s_Stack, s_Memo, s_Done, ()), ((), (), (), (), t4_Done, ()), w64 (at6 - 1), ())
  else
    bif decide (at6 < 0) then
      some (((s_Kinds, s_Full, s_Stack, s_Memo, s_Done, ()), false, ()), ())
    else
      chk (cutb (w64 (at6 + 1)) (len s_Stack) s_Stack.length) <|
      (c_s_copyInts ((s_Stack.take ((len s_Stack).toNat)).drop ((w64 (at6 + 1)).toNat))).bind fun r33 =>
      chk (cutb 0 at6 s_Stack.length) <|
      bif (c == 3) then
        (c_s_pushShape s_Kinds s_Full (s_Stack.take at6.toNat) s_Memo s_Done 2).bind fun r43 =>
        some (((r43.1.1.1, r43.1.1.2.1, r43.1.1.2.2.1, r43.1.1.2.2.2.1, r43.1.1.2.2.2.2.1, ()), true, ()), ())
      else
        bif (c == 9) then
          (c_s_shapeAt s_Kinds s_Full ((s_Stack.take at6.toNat).drop 0) s_Memo s_Done 0).bind fun r48 =>
          some (((s_Kinds, s_Full, (s_Stack.take at6.toNat), s_Memo, s_Done, ()), (r48.1.1 == 3), ()), ())
        else
          bif (c == 12) then
            B_s_markShapes_L2 k c_s_copyInts c_s_pushShape c_s_shapeAt c_s_keyKind k ((s_Kinds, s_Full, (s_Stack.take at6.toNat), s_Memo, s_Done, ()), ((), (), (), (), t4_Done, ()), r33.1.1, 0, ())
          else
            some (((s_Kinds, s_Full, (s_Stack.take at6.toNat), s_Memo, s_Done, ()), true, ()), ())
def B_s_markShapes_L1b (k : Nat) (c_s_copyInts : C_s_copyInts) (c_s_pushShape : C_s_pushShape) (c_s_shapeAt : C_s_shapeAt) (c_s_keyKind : C_s_keyKind) (again1 : T_s_markShapes_L1 → R_s_markShapes) (c : Int) (s_Kinds : List Int) (s_Full : List Bool) (s_Stack s_Memo : List Int) (s_Done t4_Done : Bool) (at6 : Int) : R_s_markShapes :=
  bif decide (at6 ≥ 0) then
    chk (inb at6 s_Stack.length) <|
    chk (decide (at6.toNat < s_Stack.length)) <|
    jn (fun t => B_s_markShapes_J0 k c_s_copyInts c_s_pushShape c_s_shapeAt c_s_keyKind again1 t.1 t.2.1.1 t.2.1.2.1 t.2.1.2.2.1 t.2.1.2.2.2.1 t.2.1.2.2.2.2.1 t.2.2.1.2.2.2.2.1 t.2.2.2.1 t.2.2.2.2.1) (c, (s_Kinds, s_Full, s_Stack, s_Memo, s_Done, ()), ((), (), (), (), t4_Done, ()), at6, decide ((s_Stack.getD at6.toNat (0 : Int)) ≥ 0), ())
  else
    jn (fun t => B_s_markShapes_J0 k c_s_copyInts c_s_pushShape c_s_shapeAt c_s_keyKind again1 t.1 t.2.1.1 t.2.1.2.1 t.2.1.2.2.1 t.2.1.2.2.2.1 t.2.1.2.2.2.2.1 t.2.2.1.2.2.2.2.1 t.2.2.2.1 t.2.2.2.2.1) (c, (s_Kinds, s_Full, s_Stack, s_Memo, s_Done, ()), ((), (), (), (), t4_Done, ()), at6, false, ())
def B_s_markShapes_L1 (k : Nat) (c_s_copyInts : C_s_copyInts) (c_s_pushShape : C_s_pushShape) (c_s_shapeAt : C_s_shapeAt) (c_s_keyKind : C_s_keyKind) (n : Nat) (t : T_s_markShapes_L1) : R_s_markShapes :=
  lfix n (fun again t => B_s_markShapes_L1b k c_s_copyInts c_s_pushShape c_s_shapeAt c_s_keyKind again t.1 t.2.1.1 t.2.1.2.1 t.2.1.2.2.1 t.2.1.2.2.2.1 t.2.1.2.2.2.2.1 t.2.2.1.2.2.2.2.1 t.2.2.2.1) t
def B_s_markShapes (k : Nat) (c_s_copyInts : C_s_copyInts) (c_s_pushShape : C_s_pushShape) (c_s_shapeAt : C_s_shapeAt) (c_s_keyKind : C_s_keyKind) (s_0 : List Int) (s_1 : List Bool) (s_2 s_3 : List Int) (s_4 : Bool) (c : Int) : R_s_markShapes :=
  B_s_markShapes_L1 k c_s_copyInts c_s_pushShape c_s_shapeAt c_s_keyKind k (c, (s_0, s_1, s_2, s_3, s_4, ()), ((), (), (), (), false, ()), w64 ((len s_2) - 1), ())
def F_s_markShapes : Nat → C_s_markShapes
  | 0, _, _, _, _, _, _ => none
  | k + 1, s_0, s_1, s_2, s_3, s_4, c => B_s_markShapes k (F_s_copyInts k) (F_s_pushShape k) (F_s_shapeAt k) (F_s_keyKind k) s_0 s_1 s_2 s_3 s_4 c
theorem tot_s_markShapes {s_0 s_1 s_2 s_3 s_4 c : _} {Q : _ → Prop} (h : Tot (fun σ => B_s_markShapes (σ 0) (F_s_copyInts (σ 0)) (F_s_pushShape (σ 0)) (F_s_shapeAt (σ 0)) (F_s_keyKind (σ 0)) s_0 s_1 s_2 s_3 s_4 c) Q) : Tot (fun σ => F_s_markShapes (σ 0) s_0 s_1 s_2 s_3 s_4 c) Q :=
  Tot.call (F := fun k => F_s_markShapes k s_0 s_1 s_2 s_3 s_4 c) (B := fun k => B_s_markShapes k (F_s_copyInts k) (F_s_pushShape k) (F_s_shapeAt k) (F_s_keyKind k) s_0 s_1 s_2 s_3 s_4 c) (fun k => rfl) h
abbrev A_s_markShapes_L2 (Z : Type) : Type := List Int → List Bool → List Int → List Int → Bool → Bool → List Int → Int → Z
abbrev u_s_markShapes_L2 {Z : Type} (f : A_s_markShapes_L2 Z) (t : T_s_markShapes_L2) : Z := f t.1.1 t.1.2.1 t.1.2.2.1 t.1.2.2.2.1 t.1.2.2.2.2.1 t.2.1.2.2.2.2.1 t.2.2.1 t.2.2.2.1
theorem loop_s_markShapes_L2 {Q : A_s_markShapes_L2 ((((List Int × List Bool × List Int × List Int × Bool × Unit) × Bool × Unit) × (Unit)) → Prop)} (I : A_s_markShapes_L2 Prop) (μ : A_s_markShapes_L2 Nat)
    (step : ∀ a0 a1 a2 a3 a4 a5 a6 a7, I a0 a1 a2 a3 a4 a5 a6 a7 → ∀ again : (Nat → Nat) → T_s_markShapes_L2 → R_s_markShapes, Dep 2 again → (∀ y0 y1 y2 y3 y4 y5 y6 y7, I y0 y1 y2 y3 y4 y5 y6 y7 → μ y0 y1 y2 y3 y4 y5 y6 y7 < μ a0 a1 a2 a3 a4 a5 a6 a7 → Tot (fun σ => again σ ((y0, y1, y2, y3, y4, ()), ((), (), (), (), y5, ()), y6, y7, ())) (Q y0 y1 y2 y3 y4 y5 y6 y7)) →
      Tot (fun σ => B_s_markShapes_L2b (σ 0) (F_s_copyInts (σ 0)) (F_s_pushShape (σ 0)) (F_s_shapeAt (σ 0)) (F_s_keyKind (σ 0)) (again σ) a0 a1 a2 a3 a4 a5 a6 a7) (Q a0 a1 a2 a3 a4 a5 a6 a7)) :
    ∀ a0 a1 a2 a3 a4 a5 a6 a7, I a0 a1 a2 a3 a4 a5 a6 a7 → Tot (fun σ => B_s_markShapes_L2 (σ 0) (F_s_copyInts (σ 0)) (F_s_pushShape (σ 0)) (F_s_shapeAt (σ 0)) (F_s_keyKind (σ 0)) (σ 0) ((a0, a1, a2, a3, a4, ()), ((), (), (), (), a5, ()), a6, a7, ())) (Q a0 a1 a2 a3 a4 a5 a6 a7) := fun a0 a1 a2 a3 a4 a5 a6 a7 => Tot.loop0 (L := fun k => B_s_markShapes_L2 k (F_s_copyInts k) (F_s_pushShape k) (F_s_shapeAt k) (F_s_keyKind k)) (B := fun k g => u_s_markShapes_L2 (B_s_markShapes_L2b k (F_s_copyInts k) (F_s_pushShape k) (F_s_shapeAt k) (F_s_keyKind k) g)) (Q := u_s_markShapes_L2 Q) (fun _ _ _ => rfl) (u_s_markShapes_L2 I) (u_s_markShapes_L2 μ)
    (fun t ht again hag h => step t.1.1 t.1.2.1 t.1.2.2.1 t.1.2.2.2.1 t.1.2.2.2.2.1 t.2.1.2.2.2.2.1 t.2.2.1 t.2.2.2.1 ht again hag fun y0 y1 y2 y3 y4 y5 y6 y7 => h ((y0, y1, y2, y3, y4, ()), ((), (), (), (), y5, ()), y6, y7, ())) ((a0, a1, a2, a3, a4, ()), ((), (), (), (), a5, ()), a6, a7, ())
abbrev A_s_markShapes_L1 (Z : Type) : Type := Int → List Int → List Bool → List Int → List Int → Bool → Bool → Int → Z
abbrev u_s_markShapes_L1 {Z : Type} (f : A_s_markShapes_L1 Z) (t : T_s_markShapes_L1) : Z := f t.1 t.2.1.1 t.2.1.2.1 t.2.1.2.2.1 t.2.1.2.2.2.1 t.2.1.2.2.2.2.1 t.2.2.1.2.2.2.2.1 t.2.2.2.1
theorem loop_s_markShapes_L1 {Q : A_s_markShapes_L1 ((((List Int × List Bool × List Int × List Int × Bool × Unit) × Bool × Unit) × (Unit)) → Prop)} (I : A_s_markShapes_L1 Prop) (μ : A_s_markShapes_L1 Nat)
    (step : ∀ a0 a1 a2 a3 a4 a5 a6 a7, I a0 a1 a2 a3 a4 a5 a6 a7 → ∀ again : (Nat → Nat) → T_s_markShapes_L1 → R_s_markShapes, Dep 2 again → (∀ y0 y1 y2 y3 y4 y5 y6 y7, I y0 y1 y2 y3 y4 y5 y6 y7 → μ y0 y1 y2 y3 y4 y5 y6 y7 < μ a0 a1 a2 a3 a4 a5 a6 a7 → Tot (fun σ => again σ (y0, (y1, y2, y3, y4, y5, ()), ((), (), (), (), y6, ()), y7, ())) (Q y0 y1 y2 y3 y4 y5 y6 y7)) →
      Tot (fun σ => B_s_markShapes_L1b (σ 0) (F_s_copyInts (σ 0)) (F_s_pushShape (σ 0)) (F_s_shapeAt (σ 0)) (F_s_keyKind (σ 0)) (again σ) a0 a1 a2 a3 a4 a5 a6 a7) (Q a0 a1 a2 a3 a4 a5 a6 a7)) :
    ∀ a0 a1 a2 a3 a4 a5 a6 a7, I a0 a1 a2 a3 a4 a5 a6 a7 → Tot (fun σ => B_s_markShapes_L1 (σ 0) (F_s_copyInts (σ 0)) (F_s_pushShape (σ 0)) (F_s_shapeAt (σ 0)) (F_s_keyKind (σ 0)) (σ 0) (a0, (a1, a2, a3, a4, a5, ()), ((), (), (), (), a6, ()), a7, ())) (Q a0 a1 a2 a3 a4 a5 a6 a7) := fun a0 a1 a2 a3 a4 a5 a6 a7 => Tot.loop0 (L := fun k => B_s_markShapes_L1 k (F_s_copyInts k) (F_s_pushShape k) (F_s_shapeAt k) (F_s_keyKind k)) (B := fun k g => u_s_markShapes_L1 (B_s_markShapes_L1b k (F_s_copyInts k) (F_s_pushShape k) (F_s_shapeAt k) (F_s_keyKind k) g)) (Q := u_s_markShapes_L1 Q) (fun _ _ _ => rfl) (u_s_markShapes_L1 I) (u_s_markShapes_L1 μ)
    (fun t ht again hag h => step t.1 t.2.1.1 t.2.1.2.1 t.2.1.2.2.1 t.2.1.2.2.2.1 t.2.1.2.2.2.2.1 t.2.2.1.2.2.2.2.1 t.2.2.2.1 ht again hag fun y0 y1 y2 y3 y4 y5 y6 y7 => h (y0, (y1, y2, y3, y4, y5, ()), ((), (), (), (), y6, ()), y7, ())) (a0, (a1, a2, a3, a4, a5, ()), ((), (), (), (), a6, ()), a7, ())
abbrev R_s_takeShapes : Type := Option (((List Int × List Bool × List Int × List Int × Bool × Unit) × Bool × Unit) × (Unit))
abbrev C_s_takeShapes : Type := List Int → List Bool → List Int → List Int → Bool → Int → Int → R_s_takeShapes
def B_s_takeShapes_J2 (k : Nat) (c_s_shapeAt : C_s_shapeAt) (c_s_pushShape : C_s_pushShape) (c_s_keyKind : C_s_keyKind) (s_Kinds : List Int) (s_Full : List Bool) (s_Stack s_Memo : List Int) (s_Done t4_Done ok : Bool) (many : Int) : R_s_takeShapes :=
  bif (!ok) then
    some (((s_Kinds, s_Full, s_Stack, s_Memo, s_Done, ()), false, ()), ())
  else
    chk (cutb 0 (w64 ((len s_Stack) - many)) s_Stack.length) <|
    some (((s_Kinds, s_Full, (s_Stack.take ((w64 ((len s_Stack) - many)).toNat)), s_Memo, s_Done, ()), true, ()), ())
def B_s_takeShapes_J0 (k : Nat) (c_s_shapeAt : C_s_shapeAt) (c_s_pushShape : C_s_pushShape) (c_s_keyKind : C_s_keyKind) (s_Kinds : List Int) (s_Full : List Bool) (s_Stack s_Memo : List Int) (s_Done t4_Done t40 : Bool) : R_s_takeShapes :=
  bif t40 then
    some (((s_Kinds, s_Full, s_Stack, s_Memo, s_Done, ()), false, ()), ())
  else
    chk (cutb 0 (w64 ((len s_Stack) - 2)) s_Stack.length) <|
    (c_s_pushShape s_Kinds s_Full (s_Stack.take ((w64 ((len s_Stack) - 2)).toNat)) s_Memo s_Done 2).bind fun r51 =>
    some (((r51.1.1.1, r51.1.1.2.1, r51.1.1.2.2.1, r51.1.1.2.2.2.1, r51.1.1.2.2.2.2.1, ()), true, ()), ())
def B_s_takeShapes_J1 (k : Nat) (c_s_shapeAt : C_s_shapeAt) (c_s_pushShape : C_s_pushShape) (c_s_keyKind : C_s_keyKind) (s_Kinds : List Int) (s_Full : List Bool) (s_Stack s_Memo : List Int) (s_Done t4_Done ok : Bool) (many : Int) : R_s_takeShapes :=
  bif ok then
    chk (inb (w64 ((len s_Stack) - 2)) s_Stack.length) <|
    chk (decide ((w64 ((len s_Stack) - 2)).toNat < s_Stack.length)) <|
    chk (inb (s_Stack.getD ((w64 ((len s_Stack) - 2)).toNat) (0 : Int)) s_Full.length) <|
    chk (decide ((s_Stack.getD ((w64 ((len s_Stack) - 2)).toNat) (0 : Int)).toNat < s_Full.length)) <|
    jn (fun t => B_s_takeShapes_J2 k c_s_shapeAt c_s_pushShape c_s_keyKind t.1.1 t.1.2.1 t.1.2.2.1 t.1.2.2.2.1 t.1.2.2.2.2.1 t.2.1.2.2.2.2.1 t.2.2.1 t.2.2.2.1) ((s_Kinds, (s_Full.set ((s_Stack.getD ((w64 ((len s_Stack) - 2)).toNat) (0 : Int)).toNat) true), s_Stack, s_Memo, s_Done, ()), ((), (), (), (), t4_Done, ()), ok, many, ())
  else
    jn (fun t => B_s_takeShapes_J2 k c_s_shapeAt c_s_pushShape c_s_keyKind t.1.1 t.1.2.1 t.1.2.2.1 t.1.2.2.2.1 t.1.2.2.2.2.1 t.2.1.2.2.2.2.1 t.2.2.1 t.2.2.2.1) ((s_Kinds, s_Full, s_Stack, s_Memo, s_Done, ()), ((), (), (), (), t4_Done, ()), ok, many, ())
def B_s_takeShapes (k : Nat) (c_s_shapeAt : C_s_shapeAt) (c_s_pushShape : C_s_pushShape) (c_s_keyKind : C_s_keyKind) (s_0 : List Int) (s_1 : List Bool) (s_2 s_3 : List Int) (s_4 : Bool) (o_0 o_1 : Int) : R_s_takeShapes :=
  (c_s_shapeAt s_0 s_1 s_2 s_3 s_4 0).bind fun r11 =>
  (c_s_shapeAt s_0 s_1 s_2 s_3 s_4 1).bind fun r13 =>
  bif (o_0 == 5) then
    bif (!(decide (r11.1.1 ≥ 0))) then
      some (((s_0, s_1, s_2, s_3, s_4, ()), false, ()), ())
    else
      chk (cutb 0 (w64 ((len s_2) - 1)) s_2.length) <|
      (c_s_pushShape s_0 s_1 (s_2.take ((w64 ((len s_2) - 1)).toNat)) s_3 s_4 2).bind fun r32 =>
      some (((r32.1.1.1, r32.1.1.2.1, r32.1.1.2.2.1, r32.1.1.2.2.2.1, r32.1.1.2.2.2.2.1, ()), true, ()), ())
  else
    bif (o_0 == 6) then
      bif (!(decide (r11.1.1 ≥ 0))) then
        jn (fun t => B_s_takeShapes_J0 k c_s_shapeAt c_s_pushShape c_s_keyKind t.1.1 t.1.2.1 t.1.2.2.1 t.1.2.2.2.1 t.1.2.2.2.2.1 t.2.1.2.2.2.2.1 t.2.2.1) ((s_0, s_1, s_2, s_3, s_4, ()), ((), (), (), (), false, ()), true, ())
      else
        jn (fun t => B_s_takeShapes_J0 k c_s_shapeAt c_s_pushShape c_s_keyKind t.1.1 t.1.2.1 t.1.2.2.1 t.1.2.2.2.1 t.1.2.2.2.2.1 t.2.1.2.2.2.2.1 t.2.2.1) ((s_0, s_1, s_2, s_3, s_4, ()), ((), (), (), (), false, ()), decide (r13.1.1 < 0), ())
    else
      bif (o_0 == 8) then
        bif decide (r11.1.1 ≥ 0) then
          jn (fun t => B_s_takeShapes_J2 k c_s_shapeAt c_s_pushShape c_s_keyKind t.1.1 t.1.2.1 t.1.2.2.1 t.1.2.2.2.1 t.1.2.2.2.2.1 t.2.1.2.2.2.2.1 t.2.2.1 t.2.2.2.1) ((s_0, s_1, s_2, s_3, s_4, ()), ((), (), (), (), false, ()), (r13.1.1 == 3), 1, ())
        else
          jn (fun t => B_s_takeShapes_J2 k c_s_shapeAt c_s_pushShape c_s_keyKind t.1.1 t.1.2.1 t.1.2.2.1 t.1.2.2.2.1 t.1.2.2.2.2.1 t.2.1.2.2.2.2.1 t.2.2.1 t.2.2.2.1) ((s_0, s_1, s_2, s_3, s_4, ()), ((), (), (), (), false, ()), false, 1, ())
      else
        bif (o_0 == 11) then
          bif decide (r11.1.1 ≥ 0) then
            (c_s_keyKind r13.1.1).bind fun r64 =>
            bif r64.1.1 then
              (c_s_shapeAt s_0 s_1 s_2 s_3 s_4 2).bind fun r68 =>
              jn (fun t => B_s_takeShapes_J2 k c_s_shapeAt c_s_pushShape c_s_keyKind t.1.1 t.1.2.1 t.1.2.2.1 t.1.2.2.2.1 t.1.2.2.2.2.1 t.2.1.2.2.2.2.1 t.2.2.1 t.2.2.2.1) ((s_0, s_1, s_2, s_3, s_4, ()), ((), (), (), (), false, ()), (r68.1.1 == 4), 2, ())
            else
              jn (fun t => B_s_takeShapes_J2 k c_s_shapeAt c_s_pushShape c_s_keyKind t.1.1 t.1.2.1 t.1.2.2.1 t.1.2.2.2.1 t.1.2.2.2.2.1 t.2.1.2.2.2.2.1 t.2.2.1 t.2.2.2.1) ((s_0, s_1, s_2, s_3, s_4, ()), ((), (), (), (), false, ()), false, 2, ())
          else
            jn (fun t => B_s_takeShapes_J2 k c_s_shapeAt c_s_pushShape c_s_keyKind t.1.1 t.1.2.1 t.1.2.2.1 t.1.2.2.2.1 t.1.2.2.2.2.1 t.2.1.2.2.2.2.1 t.2.2.1 t.2.2.2.1) ((s_0, s_1, s_2, s_3, s_4, ()), ((), (), (), (), false, ()), false, 2, ())
        else
          bif (o_0 == 14) then
            bif decide (r11.1.1 ≥ 0) then
              bif (r13.1.1 == 5) then
                chk (inb (w64 ((len s_2) - 2)) s_2.length) <|
                chk (decide ((w64 ((len s_2) - 2)).toNat < s_2.length)) <|
                chk (inb (s_2.getD ((w64 ((len s_2) - 2)).toNat) (0 : Int)) s_1.length) <|
                chk (decide ((s_2.getD ((w64 ((len s_2) - 2)).toNat) (0 : Int)).toNat < s_1.length)) <|
                jn (fun t => B_s_takeShapes_J1 k c_s_shapeAt c_s_pushShape c_s_keyKind t.1.1 t.1.2.1 t.1.2.2.1 t.1.2.2.2.1 t.1.2.2.2.2.1 t.2.1.2.2.2.2.1 t.2.2.1 t.2.2.2.1) ((s_0, s_1, s_2, s_3, s_4, ()), ((), (), (), (), false, ()), (!(s_1.getD ((s_2.getD ((w64 ((len s_2) - 2)).toNat) (0 : Int)).toNat) false)), 1, ())
              else
                jn (fun t => B_s_takeShapes_J1 k c_s_shapeAt c_s_pushShape c_s_keyKind t.1.1 t.1.2.1 t.1.2.2.1 t.1.2.2.2.1 t.1.2.2.2.2.1 t.2.1.2.2.2.2.1 t.2.2.1 t.2.2.2.1) ((s_0, s_1, s_2, s_3, s_4, ()), ((), (), (), (), false, ()), false, 1, ())
            else
              jn (fun t => B_s_takeShapes_J1 k c_s_shapeAt c_s_pushShape c_s_keyKind t.1.1 t.1.2.1 t.1.2.2.1 t.1.2.2.2.1 t.1.2.2.2.2.1 t.2.1.2.2.2.2.1 t.2.2.1 t.2.2.2.1) ((s_0, s_1, s_2, s_3, s_4, ()), ((), (), (), (), false, ()), false, 1, ())
          else
            bif (o_0 == 15) then
              bif decide (r11.1.1 ≥ 0) then
                chk (inb (w64 ((len s_2) - 1)) s_2.length) <|
                chk (decide ((w64 ((len s_2) - 1)).toNat < s_2.length)) <|
                chk (inb o_1 s_3.length) <|
                chk (decide (o_1.toNat < s_3.length)) <|
                jn (fun t => B_s_takeShapes_J2 k c_s_shapeAt c_s_pushShape c_s_keyKind t.1.1 t.1.2.1 t.1.2.2.1 t.1.2.2.2.1 t.1.2.2.2.2.1 t.2.1.2.2.2.2.1 t.2.2.1 t.2.2.2.1) ((s_0, s_1, s_2, (s_3.set o_1.toNat (s_2.getD ((w64 ((len s_2) - 1)).toNat) (0 : Int))), s_4, ()), ((), (), (), (), false, ()), decide (r11.1.1 ≥ 0), 0, ())
              else
                jn (fun t => B_s_takeShapes_J2 k c_s_shapeAt c_s_pushShape c_s_keyKind t.1.1 t.1.2.1 t.1.2.2.1 t.1.2.2.2.1 t.1.2.2.2.2.1 t.2.1.2.2.2.2.1 t.2.2.1 t.2.2.2.1) ((s_0, s_1, s_2, s_3, s_4, ()), ((), (), (), (), false, ()), decide (r11.1.1 ≥ 0), 0, ())
            else
              bif (o_0 == 19) then
                bif decide (r11.1.1 ≥ 0) then
                  jn (fun t => B_s_takeShapes_J2 k c_s_shapeAt c_s_pushShape c_s_keyKind t.1.1 t.1.2.1 t.1.2.2.1 t.1.2.2.2.1 t.1.2.2.2.2.1 t.2.1.2.2.2.2.1 t.2.2.1 t.2.2.2.1) ((s_0, s_1, s_2, s_3, true, ()), ((), (), (), (), false, ()), ((len s_2) == 1), 0, ())
                else
                  jn (fun t => B_s_takeShapes_J2 k c_s_shapeAt c_s_pushShape c_s_keyKind t.1.1 t.1.2.1 t.1.2.2.1 t.1.2.2.2.1 t.1.2.2.2.2.1 t.2.1.2.2.2.2.1 t.2.2.1 t.2.2.2.1) ((s_0, s_1, s_2, s_3, true, ()), ((), (), (), (), false, ()), false, 0, ())
              else
                jn (fun t => B_s_takeShapes_J2 k c_s_shapeAt c_s_pushShape c_s_keyKind t.1.1 t.1.2.1 t.1.2.2.1 t.1.2.2.2.1 t.1.2.2.2.2.1 t.2.1.2.2.2.2.1 t.2.2.1 t.2.2.2.1) ((s_0, s_1, s_2, s_3, s_4, ()), ((), (), (), (), false, ()), decide (r11.1.1 ≥ 0), 1, ())
def F_s_takeShapes : Nat → C_s_takeShapes
  | 0, _, _, _, _, _, _, _ => none
  | k + 1, s_0, s_1, s_2, s_3, s_4, o_0, o_1 => B_s_takeShapes k (F_s_shapeAt k) (F_s_pushShape k) (F_s_keyKind k) s_0 s_1 s_2 s_3 s_4 o_0 o_1
theorem tot_s_takeShapes {s_0 s_1 s_2 s_3 s_4 o_0 o_1 : _} {Q : _ → Prop} (h : Tot (fun σ => B_s_takeShapes (σ 0) (F_s_shapeAt (σ 0)) (F_s_pushShape (σ 0)) (F_s_keyKind (σ 0)) s_0 s_1 s_2 s_3 s_4 o_0 o_1) Q) : Tot (fun σ => F_s_takeShapes (σ 0) s_0 s_1 s_2 s_3 s_4 o_0 o_1) Q :=
  Tot.call (F := fun k => F_s_takeShapes k s_0 s_1 s_2 s_3 s_4 o_0 o_1) (B := fun k => B_s_takeShapes k (F_s_shapeAt k) (F_s_pushShape k) (F_s_keyKind k) s_0 s_1 s_2 s_3 s_4 o_0 o_1) (fun k => rfl) h
abbrev R_s_stepShapes : Type := Option (((List Int × List Bool × List Int × List Int × Bool × Unit) × Bool × Unit) × (Unit))
abbrev C_s_stepShapes : Type := List Int → List Bool → List Int → List Int → Bool → Int → Int → R_s_stepShapes
def B_s_stepShapes_J1 (k : Nat) (c_s_newKind : C_s_newKind) (c_s_pushShape : C_s_pushShape) (c_s_markShapes : C_s_markShapes) (c_s_takeShapes : C_s_takeShapes) (s_Kinds : List Int) (s_Full : List Bool) (s_Stack s_Memo : List Int) (s_Done t4_Done ok : Bool) : R_s_stepShapes :=
  bif ok then
    bif decide ((len s_Kinds) ≤ 300) then
      some (((s_Kinds, s_Full, s_Stack, s_Memo, s_Done, ()), decide ((len s_Stack) ≤ 300), ()), ())
    else
      some (((s_Kinds, s_Full, s_Stack, s_Memo, s_Done, ()), false, ()), ())
  else
    some (((s_Kinds, s_Full, s_Stack, s_Memo, s_Done, ()), false, ()), ())
def B_s_stepShapes_J0 (k : Nat) (c_s_newKind : C_s_newKind) (c_s_pushShape : C_s_pushShape) (c_s_markShapes : C_s_markShapes) (c_s_takeShapes : C_s_takeShapes) (s_Kinds : List Int) (s_Full : List Bool) (s_Stack s_Memo : List Int) (s_Done : Bool) (o_Code o_Arg : Int) (t4_Done t61 : Bool) : R_s_stepShapes :=
  bif t61 then
    (c_s_markShapes s_Kinds s_Full s_Stack s_Memo s_Done o_Code).bind fun r84 =>
    jn (fun t => B_s_stepShapes_J1 k c_s_newKind c_s_pushShape c_s_markShapes c_s_takeShapes t.1.1 t.1.2.1 t.1.2.2.1 t.1.2.2.2.1 t.1.2.2.2.2.1 t.2.1.2.2.2.2.1 t.2.2.1) ((r84.1.1.1, r84.1.1.2.1, r84.1.1.2.2.1, r84.1.1.2.2.2.1, r84.1.1.2.2.2.2.1, ()), ((), (), (), (), t4_Done, ()), r84.1.2.1, ())
  else
    (c_s_takeShapes s_Kinds s_Full s_Stack s_Memo s_Done o_Code o_Arg).bind fun r16 =>
    jn (fun t => B_s_stepShapes_J1 k c_s_newKind c_s_pushShape c_s_markShapes c_s_takeShapes t.1.1 t.1.2.1 t.1.2.2.1 t.1.2.2.2.1 t.1.2.2.2.2.1 t.2.1.2.2.2.2.1 t.2.2.1) ((r16.1.1.1, r16.1.1.2.1, r16.1.1.2.2.1, r16.1.1.2.2.2.1, r16.1.1.2.2.2.2.1, ()), ((), (), (), (), t4_Done, ()), r16.1.2.1, ())
def B_s_stepShapes (k : Nat) (c_s_newKind : C_s_newKind) (c_s_pushShape : C_s_pushShape) (c_s_markShapes : C_s_markShapes) (c_s_takeShapes : C_s_takeShapes) (s_0 : List Int) (s_1 : List Bool) (s_2 s_3 : List Int) (s_4 : Bool) (o_0 o_1 : Int) : R_s_stepShapes :=
  bif (!(!s_4)) then
    some (((s_0, s_1, s_2, s_3, s_4, ()), false, ()), ())
  else
    (c_s_newKind o_0).bind fun r22 =>
    bif decide (r22.1.1 ≥ 0) then
      (c_s_newKind o_0).bind fun r27 =>
      (c_s_pushShape s_0 s_1 s_2 s_3 s_4 r27.1.1).bind fun r28 =>
      jn (fun t => B_s_stepShapes_J1 k c_s_newKind c_s_pushShape c_s_markShapes c_s_takeShapes t.1.1 t.1.2.1 t.1.2.2.1 t.1.2.2.2.1 t.1.2.2.2.2.1 t.2.1.2.2.2.2.1 t.2.2.1) ((r28.1.1.1, r28.1.1.2.1, r28.1.1.2.2.1, r28.1.1.2.2.2.1, r28.1.1.2.2.2.2.1, ()), ((), (), (), (), false, ()), (!s_4), ())
    else
      bif (o_0 == 2) then
        chk (room s_2.length ([(-1)]).length) <|
        jn (fun t => B_s_stepShapes_J1 k c_s_newKind c_s_pushShape c_s_markShapes c_s_takeShapes t.1.1 t.1.2.1 t.1.2.2.1 t.1.2.2.2.1 t.1.2.2.2.2.1 t.2.1.2.2.2.2.1 t.2.2.1) ((s_0, s_1, (s_2 ++ [(-1)]), s_3, s_4, ()), ((), (), (), (), false, ()), (!s_4), ())
      else
        bif (o_0 == 16) then
          chk (inb o_1 s_3.length) <|
          chk (decide (o_1.toNat < s_3.length)) <|
          bif decide ((s_3.getD o_1.toNat (0 : Int)) < 0) then
            some (((s_0, s_1, s_2, s_3, s_4, ()), false, ()), ())
          else
            chk (inb o_1 s_3.length) <|
            chk (decide (o_1.toNat < s_3.length)) <|
            chk (room s_2.length ([(s_3.getD o_1.toNat (0 : Int))]).length) <|
            jn (fun t => B_s_stepShapes_J1 k c_s_newKind c_s_pushShape c_s_markShapes c_s_takeShapes t.1.1 t.1.2.1 t.1.2.2.1 t.1.2.2.2.1 t.1.2.2.2.2.1 t.2.1.2.2.2.2.1 t.2.2.1) ((s_0, s_1, (s_2 ++ [(s_3.getD o_1.toNat (0 : Int))]), s_3, s_4, ()), ((), (), (), (), false, ()), (!s_4), ())
        else
          bif (o_0 == 3) then
            jn (fun t => B_s_stepShapes_J0 k c_s_newKind c_s_pushShape c_s_markShapes c_s_takeShapes t.1.1 t.1.2.1 t.1.2.2.1 t.1.2.2.2.1 t.1.2.2.2.2.1 t.2.1.1 t.2.1.2.1 t.2.2.1.2.2.2.2.1 t.2.2.2.1) ((s_0, s_1, s_2, s_3, s_4, ()), (o_0, o_1, ()), ((), (), (), (), false, ()), true, ())
          else
            bif (o_0 == 9) then
              jn (fun t => B_s_stepShapes_J0 k c_s_newKind c_s_pushShape c_s_markShapes c_s_takeShapes t.1.1 t.1.2.1 t.1.2.2.1 t.1.2.2.2.1 t.1.2.2.2.2.1 t.2.1.1 t.2.1.2.1 t.2.2.1.2.2.2.2.1 t.2.2.2.1) ((s_0, s_1, s_2, s_3, s_4, ()), (o_0, o_1, ()), ((), (), (), (), false, ()), true, ())
            else
              bif (o_0 == 12) then
                jn (fun t => B_s_stepShapes_J0 k c_s_newKind c_s_pushShape c_s_markShapes c_s_takeShapes t.1.1 t.1.2.1 t.1.2.2.1 t.1.2.2.2.1 t.1.2.2.2.2.1 t.2.1.1 t.2.1.2.1 t.2.2.1.2.2.2.2.1 t.2.2.2.1) ((s_0, s_1, s_2, s_3, s_4, ()), (o_0, o_1, ()), ((), (), (), (), false, ()), true, ())
              else
                jn (fun t => B_s_stepShapes_J0 k c_s_newKind c_s_pushShape c_s_markShapes c_s_takeShapes t.1.1 t.1.2.1 t.1.2.2.1 t.1.2.2.2.1 t.1.2.2.2.2.1 t.2.1.1 t.2.1.2.1 t.2.2.1.2.2.2.2.1 t.2.2.2.1) ((s_0, s_1, s_2, s_3, s_4, ()), (o_0, o_1, ()), ((), (), (), (), false, ()), (o_0 == 18), ())
def F_s_stepShapes : Nat → C_s_stepShapes
  | 0, _, _, _, _, _, _, _ => none
  | k + 1, s_0, s_1, s_2, s_3, s_4, o_0, o_1 => B_s_stepShapes k (F_s_newKind k) (F_s_pushShape k) (F_s_markShapes k) (F_s_takeShapes k) s_0 s_1 s_2 s_3 s_4 o_0 o_1
theorem tot_s_stepShapes {s_0 s_1 s_2 s_3 s_4 o_0 o_1 : _} {Q : _ → Prop} (h : Tot (fun σ => B_s_stepShapes (σ 0) (F_s_newKind (σ 0)) (F_s_pushShape (σ 0)) (F_s_markShapes (σ 0)) (F_s_takeShapes (σ 0)) s_0 s_1 s_2 s_3 s_4 o_0 o_1) Q) : Tot (fun σ => F_s_stepShapes (σ 0) s_0 s_1 s_2 s_3 s_4 o_0 o_1) Q :=
  Tot.call (F := fun k => F_s_stepShapes k s_0 s_1 s_2 s_3 s_4 o_0 o_1) (B := fun k => B_s_stepShapes k (F_s_newKind k) (F_s_pushShape k) (F_s_markShapes k) (F_s_takeShapes k) s_0 s_1 s_2 s_3 s_4 o_0 o_1) (fun k => rfl) h
abbrev R_s_argOf : Type := Option ((Int × Unit) × (Unit))
abbrev C_s_argOf : Type := Int → R_s_argOf
def B_s_argOf_J0 (k : Nat) (t10 : Bool) : R_s_argOf :=
  bif t10 then
    some ((19, ()), ())
  else
    some (((-1), ()), ())
def B_s_argOf (k : Nat) (c : Int) : R_s_argOf :=
  bif (c == 0) then
    some ((999, ()), ())
  else
    bif (c == 1) then
      some ((9, ()), ())
    else
      bif (c == 13) then
        some ((9, ()), ())
      else
        bif (c == 15) then
          jn (fun t => B_s_argOf_J0 k t.1) ((c == 15), ())
        else
          jn (fun t => B_s_argOf_J0 k t.1) ((c == 16), ())
def F_s_argOf : Nat → C_s_argOf
  | 0, _ => none
  | k + 1, c => B_s_argOf k c
theorem tot_s_argOf {c : _} {Q : _ → Prop} (h : Tot (fun σ => B_s_argOf (σ 0) c) Q) : Tot (fun σ => F_s_argOf (σ 0) c) Q :=
  Tot.call (F := fun k => F_s_argOf k c) (B := fun k => B_s_argOf k c) (fun k => rfl) h
abbrev R_s_inRange : Type := Option ((Bool × Unit) × (Unit))
abbrev C_s_inRange : Type := Int → Int → Int → R_s_inRange
def B_s_inRange (k : Nat) (n0 low high : Int) : R_s_inRange :=
  bif decide (low ≤ n0) then
    some ((decide (n0 ≤ high), ()), ())
  else
    some ((false, ()), ())
def F_s_inRange : Nat → C_s_inRange
  | 0, _, _, _ => none
  | k + 1, n0, low, high => B_s_inRange k n0 low high
theorem tot_s_inRange {n0 low high : _} {Q : _ → Prop} (h : Tot (fun σ => B_s_inRange (σ 0) n0 low high) Q) : Tot (fun σ => F_s_inRange (σ 0) n0 low high) Q :=
  Tot.call (F := fun k => F_s_inRange k n0 low high) (B := fun k => B_s_inRange k n0 low high) (fun k => rfl) h
abbrev R_s_validOp : Type := Option ((Bool × Unit) × (Unit))
abbrev C_s_validOp : Type := Int → Int → R_s_validOp
def B_s_validOp (k : Nat) (c_s_argOf : C_s_argOf) (c_s_inRange : C_s_inRange) (o_0 o_1 : Int) : R_s_validOp :=
  (c_s_argOf o_0).bind fun r6 =>
  (c_s_inRange o_0 0 19).bind fun r9 =>
  bif r9.1.1 then
    bif decide (r6.1.1 < 0) then
      bif (o_1 == 0) then
        some ((true, ()), ())
      else
        bif decide (r6.1.1 ≥ 0) then
          (c_s_inRange o_1 0 r6.1.1).bind fun r25 =>
          some ((r25.1.1, ()), ())
        else
          some ((false, ()), ())
    else
      bif decide (r6.1.1 ≥ 0) then
        (c_s_inRange o_1 0 r6.1.1).bind fun r25 =>
        some ((r25.1.1, ()), ())
      else
        some ((false, ()), ())
  else
    some ((false, ()), ())
def F_s_validOp : Nat → C_s_validOp
  | 0, _, _ => none
  | k + 1, o_0, o_1 => B_s_validOp k (F_s_argOf k) (F_s_inRange k) o_0 o_1
theorem tot_s_validOp {o_0 o_1 : _} {Q : _ → Prop} (h : Tot (fun σ => B_s_validOp (σ 0) (F_s_argOf (σ 0)) (F_s_inRange (σ 0)) o_0 o_1) Q) : Tot (fun σ => F_s_validOp (σ 0) o_0 o_1) Q :=
  Tot.call (F := fun k => F_s_validOp k o_0 o_1) (B := fun k => B_s_validOp k (F_s_argOf k) (F_s_inRange k) o_0 o_1) (fun k => rfl) h
abbrev R_s_validOps : Type := Option ((Bool × Unit) × (Unit))
abbrev C_s_validOps : Type := (List (Int × Int)) → R_s_validOps
abbrev T_s_validOps_L0 : Type := (List (Int × Int)) × Int × Unit
def B_s_validOps_L0b (k : Nat) (c_s_validOp : C_s_validOp) (again0 : T_s_validOps_L0 → R_s_validOps) (ops : List (Int × Int)) (i : Int) : R_s_validOps :=
  bif decide (i < (len ops)) then
    chk (inb i ops.length) <|
    (c_s_validOp ((rdx ((0 : Int), (0 : Int)) ops i).1) ((rdx ((0 : Int), (0 : Int)) ops i).2)).bind fun r14 =>
    bif (!r14.1.1) then
      some ((false, ()), ())
    else
      again0 (ops, w64 (i + 1), ())
  else
    some ((decide ((len ops) ≤ 300), ()), ())
def B_s_validOps_L0 (k : Nat) (c_s_validOp : C_s_validOp) (n : Nat) (t : T_s_validOps_L0) : R_s_validOps :=
  lfix n (fun again t => B_s_validOps_L0b k c_s_validOp again t.1 t.2.1) t
def B_s_validOps (k : Nat) (c_s_validOp : C_s_validOp) (ops : List (Int × Int)) : R_s_validOps :=
  B_s_validOps_L0 k c_s_validOp k (ops, 0, ())
def F_s_validOps : Nat → C_s_validOps
  | 0, _ => none
  | k + 1, ops => B_s_validOps k (F_s_validOp k) ops
theorem tot_s_validOps {ops : _} {Q : _ → Prop} (h : Tot (fun σ => B_s_validOps (σ 0) (F_s_validOp (σ 0)) ops) Q) : Tot (fun σ => F_s_validOps (σ 0) ops) Q :=
  Tot.call (F := fun k => F_s_validOps k ops) (B := fun k => B_s_validOps k (F_s_validOp k) ops) (fun k => rfl) h
abbrev A_s_validOps_L0 (Z : Type) : Type := (List (Int × Int)) → Int → Z
abbrev u_s_validOps_L0 {Z : Type} (f : A_s_validOps_L0 Z) (t : T_s_validOps_L0) : Z := f t.1 t.2.1
theorem loop_s_validOps_L0 {Q : A_s_validOps_L0 (((Bool × Unit) × (Unit)) → Prop)} (I : A_s_validOps_L0 Prop) (μ : A_s_validOps_L0 Nat)
    (step : ∀ a0 a1, I a0 a1 → ∀ again : (Nat → Nat) → T_s_validOps_L0 → R_s_validOps, Dep 2 again → (∀ y0 y1, I y0 y1 → μ y0 y1 < μ a0 a1 → Tot (fun σ => again σ (y0, y1, ())) (Q y0 y1)) →
      Tot (fun σ => B_s_validOps_L0b (σ 0) (F_s_validOp (σ 0)) (again σ) a0 a1) (Q a0 a1)) :
    ∀ a0 a1, I a0 a1 → Tot (fun σ => B_s_validOps_L0 (σ 0) (F_s_validOp (σ 0)) (σ 0) (a0, a1, ())) (Q a0 a1) := fun a0 a1 => Tot.loop0 (L := fun k => B_s_validOps_L0 k (F_s_validOp k)) (B := fun k g => u_s_validOps_L0 (B_s_validOps_L0b k (F_s_validOp k) g)) (Q := u_s_validOps_L0 Q) (fun _ _ _ => rfl) (u_s_validOps_L0 I) (u_s_validOps_L0 μ)
    (fun t ht again hag h => step t.1 t.2.1 ht again hag fun y0 y1 => h (y0, y1, ())) (a0, a1, ())
abbrev R_s_runShapes : Type := Option (((List Int × List Bool × List Int × List Int × Bool × Unit) × Int × Unit) × (Unit))
abbrev C_s_runShapes : Type := (List (Int × Int)) → R_s_runShapes
abbrev T_s_runShapes_L0 : Type := (List (Int × Int)) × (Unit × Unit × Unit × Unit × Bool × Unit) × (List Int × List Bool × List Int × List Int × Bool × Unit) × Int × Unit
def B_s_runShapes_L0b (k : Nat) (c_s_newShapes : C_s_newShapes) (c_s_copyShapes : C_s_copyShapes) (c_s_stepShapes : C_s_stepShapes) (again0 : T_s_runShapes_L0 → R_s_runShapes) (ops : List (Int × Int)) (t2_Done : Bool) (s_Kinds : List Int) (s_Full : List Bool) (s_Stack s_Memo : List Int) (s_Done : Bool) (i : Int) : R_s_runShapes :=
  bif decide (i < (len ops)) then
    (c_s_copyShapes s_Kinds s_Full s_Stack s_Memo s_Done).bind fun r17 =>
    chk (inb i ops.length) <|
    (c_s_stepShapes r17.1.1.1 r17.1.1.2.1 r17.1.1.2.2.1 r17.1.1.2.2.2.1 r17.1.1.2.2.2.2.1 ((rdx ((0 : Int), (0 : Int)) ops i).1) ((rdx ((0 : Int), (0 : Int)) ops i).2)).bind fun r22 =>
    bif (!r22.1.2.1) then
      some (((s_Kinds, s_Full, s_Stack, s_Memo, s_Done, ()), i, ()), ())
    else
      again0 (ops, ((), (), (), (), t2_Done, ()), (r22.1.1.1, r22.1.1.2.1, r22.1.1.2.2.1, r22.1.1.2.2.2.1, r22.1.1.2.2.2.2.1, ()), w64 (i + 1), ())
  else
    some (((s_Kinds, s_Full, s_Stack, s_Memo, s_Done, ()), len ops, ()), ())
def B_s_runShapes_L0 (k : Nat) (c_s_newShapes : C_s_newShapes) (c_s_copyShapes : C_s_copyShapes) (c_s_stepShapes : C_s_stepShapes) (n : Nat) (t : T_s_runShapes_L0) : R_s_runShapes :=
  lfix n (fun again t => B_s_runShapes_L0b k c_s_newShapes c_s_copyShapes c_s_stepShapes again t.1 t.2.1.2.2.2.2.1 t.2.2.1.1 t.2.2.1.2.1 t.2.2.1.2.2.1 t.2.2.1.2.2.2.1 t.2.2.1.2.2.2.2.1 t.2.2.2.1) t
def B_s_runShapes (k : Nat) (c_s_newShapes : C_s_newShapes) (c_s_copyShapes : C_s_copyShapes) (c_s_stepShapes : C_s_stepShapes) (ops : List (Int × Int)) : R_s_runShapes :=
  (c_s_newShapes).bind fun r8 =>
  B_s_runShapes_L0 k c_s_newShapes c_s_copyShapes c_s_stepShapes k (ops, ((), (), (), (), false, ()), (r8.1.1.1, r8.1.1.2.1, r8.1.1.2.2.1, r8.1.1.2.2.2.1, r8.1.1.2.2.2.2.1, ()), 0, ())
def F_s_runShapes : Nat → C_s_runShapes
  | 0, _ => none
  | k + 1, ops => B_s_runShapes k (F_s_newShapes k) (F_s_copyShapes k) (F_s_stepShapes k) ops
theorem tot_s_runShapes {ops : _} {Q : _ → Prop} (h : Tot (fun σ => B_s_runShapes (σ 0) (F_s_newShapes (σ 0)) (F_s_copyShapes (σ 0)) (F_s_stepShapes (σ 0)) ops) Q) : Tot (fun σ => F_s_runShapes (σ 0) ops) Q :=
  Tot.call (F := fun k => F_s_runShapes k ops) (B := fun k => B_s_runShapes k (F_s_newShapes k) (F_s_copyShapes k) (F_s_stepShapes k) ops) (fun k => rfl) h
abbrev A_s_runShapes_L0 (Z : Type) : Type := (List (Int × Int)) → Bool → List Int → List Bool → List Int → List Int → Bool → Int → Z
abbrev u_s_runShapes_L0 {Z : Type} (f : A_s_runShapes_L0 Z) (t : T_s_runShapes_L0) : Z := f t.1 t.2.1.2.2.2.2.1 t.2.2.1.1 t.2.2.1.2.1 t.2.2.1.2.2.1 t.2.2.1.2.2.2.1 t.2.2.1.2.2.2.2.1 t.2.2.2.1
theorem loop_s_runShapes_L0 {Q : A_s_runShapes_L0 ((((List Int × List Bool × List Int × List Int × Bool × Unit) × Int × Unit) × (Unit)) → Prop)} (I : A_s_runShapes_L0 Prop) (μ : A_s_runShapes_L0 Nat)
    (step : ∀ a0 a1 a2 a3 a4 a5 a6 a7, I a0 a1 a2 a3 a4 a5 a6 a7 → ∀ again : (Nat → Nat) → T_s_runShapes_L0 → R_s_runShapes, Dep 2 again → (∀ y0 y1 y2 y3 y4 y5 y6 y7, I y0 y1 y2 y3 y4 y5 y6 y7 → μ y0 y1 y2 y3 y4 y5 y6 y7 < μ a0 a1 a2 a3 a4 a5 a6 a7 → Tot (fun σ => again σ (y0, ((), (), (), (), y1, ()), (y2, y3, y4, y5, y6, ()), y7, ())) (Q y0 y1 y2 y3 y4 y5 y6 y7)) →
      Tot (fun σ => B_s_runShapes_L0b (σ 0) (F_s_newShapes (σ 0)) (F_s_copyShapes (σ 0)) (F_s_stepShapes (σ 0)) (again σ) a0 a1 a2 a3 a4 a5 a6 a7) (Q a0 a1 a2 a3 a4 a5 a6 a7)) :
    ∀ a0 a1 a2 a3 a4 a5 a6 a7, I a0 a1 a2 a3 a4 a5 a6 a7 → Tot (fun σ => B_s_runShapes_L0 (σ 0) (F_s_newShapes (σ 0)) (F_s_copyShapes (σ 0)) (F_s_stepShapes (σ 0)) (σ 0) (a0, ((), (), (), (), a1, ()), (a2, a3, a4, a5, a6, ()), a7, ())) (Q a0 a1 a2 a3 a4 a5 a6 a7) := fun a0 a1 a2 a3 a4 a5 a6 a7 => Tot.loop0 (L := fun k => B_s_runShapes_L0 k (F_s_newShapes k) (F_s_copyShapes k) (F_s_stepShapes k)) (B := fun k g => u_s_runShapes_L0 (B_s_runShapes_L0b k (F_s_newShapes k) (F_s_copyShapes k) (F_s_stepShapes k) g)) (Q := u_s_runShapes_L0 Q) (fun _ _ _ => rfl) (u_s_runShapes_L0 I) (u_s_runShapes_L0 μ)
    (fun t ht again hag h => step t.1 t.2.1.2.2.2.2.1 t.2.2.1.1 t.2.2.1.2.1 t.2.2.1.2.2.1 t.2.2.1.2.2.2.1 t.2.2.1.2.2.2.2.1 t.2.2.2.1 ht again hag fun y0 y1 y2 y3 y4 y5 y6 y7 => h (y0, ((), (), (), (), y1, ()), (y2, y3, y4, y5, y6, ()), y7, ())) (a0, ((), (), (), (), a1, ()), (a2, a3, a4, a5, a6, ()), a7, ())
abbrev R_s_EndOps : Type := Option (((List (Int × Int)) × Bool × Unit) × (Unit))
abbrev C_s_EndOps : Type := (List (Int × Int)) → R_s_EndOps
abbrev T_s_EndOps_L6 : Type := (List (Int × Int)) × Int × (List (Int × Int)) × Int × Int × Unit
abbrev T_s_EndOps_L4 : Type := (List (Int × Int)) × (List Int × List Bool × List Int × List Int × Bool × Unit) × Int × (List (Int × Int)) × Int × Int × Unit
abbrev T_s_EndOps_L2 : Type := (List (Int × Int)) × (List Int × List Bool × List Int × List Int × Bool × Unit) × Int × (List (Int × Int)) × Int × Int × Unit
abbrev T_s_EndOps_L1 : Type := (List (Int × Int)) × (List Int × List Bool × List Int × List Int × Bool × Unit) × Int × (List (Int × Int)) × Int × Int × Unit
def B_s_EndOps_J0 (k : Nat) (c_s_validOps : C_s_validOps) (c_s_runShapes : C_s_runShapes) (again1 : T_s_EndOps_L1 → R_s_EndOps) (ops : List (Int × Int)) (s_Kinds : List Int) (s_Full : List Bool) (s_Stack s_Memo : List Int) (s_Done : Bool) (n5 : Int) (out : List (Int × Int)) (marks i : Int) : R_s_EndOps :=
  again1 (ops, (s_Kinds, s_Full, s_Stack, s_Memo, s_Done, ()), n5, out, marks, w64 (i + 1), ())
def B_s_EndOps_J9 (k : Nat) (c_s_validOps : C_s_validOps) (c_s_runShapes : C_s_runShapes) (out : List (Int × Int)) (t109 : Bool) : R_s_EndOps :=
  bif t109 then
    some (([], false, ()), ())
  else
    some ((out, true, ()), ())
def B_s_EndOps_J8 (k : Nat) (c_s_validOps : C_s_validOps) (c_s_runShapes : C_s_runShapes) (out all : List (Int × Int)) : R_s_EndOps :=
  (c_s_runShapes all).bind fun r98 =>
  (c_s_validOps all).bind fun r102 =>
  bif (!r102.1.1) then
    jn (fun t => B_s_EndOps_J9 k c_s_validOps c_s_runShapes t.1 t.2.1) (out, true, ())
  else
    jn (fun t => B_s_EndOps_J9 k c_s_validOps c_s_runShapes t.1 t.2.1) (out, decide (r98.1.2.1 < (len all)), ())
def B_s_EndOps_J7 (k : Nat) (c_s_validOps : C_s_validOps) (c_s_runShapes : C_s_runShapes) (ops : List (Int × Int)) (n5 : Int) (out : List (Int × Int)) : R_s_EndOps :=
  chk (room out.length ([(19, 0)]).length) <|
  chk (cutb 0 n5 ops.length) <|
  chk (room ([] : List (Int × Int)).length (sub ops 0 n5).length) <|
  chk (room (sub ops 0 n5).length (out ++ [(19, 0)]).length) <|
  jn (fun t => B_s_EndOps_J8 k c_s_validOps c_s_runShapes t.1 t.2.1) ((out ++ [(19, 0)]), ((sub ops 0 n5) ++ (out ++ [(19, 0)])), ())
def B_s_EndOps_L6b (k : Nat) (c_s_validOps : C_s_validOps) (c_s_runShapes : C_s_runShapes) (again6 : T_s_EndOps_L6 → R_s_EndOps) (ops : List (Int × Int)) (n5 : Int) (out : List (Int × Int)) (rest10 i : Int) : R_s_EndOps :=
  bif decide (i < rest10) then
    chk (room out.length ([(6, 0)]).length) <|
    again6 (ops, n5, (out ++ [(6, 0)]), rest10, w64 (i + 1), ())
  else
    bif (rest10 == 0) then
      chk (room out.length ([(4, 0)]).length) <|
      jn (fun t => B_s_EndOps_J7 k c_s_validOps c_s_runShapes t.1 t.2.1 t.2.2.1) (ops, n5, (out ++ [(4, 0)]), ())
    else
      jn (fun t => B_s_EndOps_J7 k c_s_validOps c_s_runShapes t.1 t.2.1 t.2.2.1) (ops, n5, out, ())
def B_s_EndOps_L6 (k : Nat) (c_s_validOps : C_s_validOps) (c_s_runShapes : C_s_runShapes) (n : Nat) (t : T_s_EndOps_L6) : R_s_EndOps :=
  lfix n (fun again t => B_s_EndOps_L6b k c_s_validOps c_s_runShapes again t.1 t.2.1 t.2.2.1 t.2.2.2.1 t.2.2.2.2.1) t
def B_s_EndOps_J5 (k : Nat) (c_s_validOps : C_s_validOps) (c_s_runShapes : C_s_runShapes) (ops : List (Int × Int)) (n5 : Int) (out : List (Int × Int)) (rest10 : Int) : R_s_EndOps :=
  B_s_EndOps_L6 k c_s_validOps c_s_runShapes k (ops, n5, out, rest10, 1, ())
def B_s_EndOps_J3 (k : Nat) (c_s_validOps : C_s_validOps) (c_s_runShapes : C_s_runShapes) (again4 : T_s_EndOps_L4 → R_s_EndOps) (ops : List (Int × Int)) (s_Kinds : List Int) (s_Full : List Bool) (s_Stack s_Memo : List Int) (s_Done : Bool) (n5 : Int) (out : List (Int × Int)) (marks rest10 : Int) (t63 : Bool) : R_s_EndOps :=
  bif t63 then
    again4 (ops, (s_Kinds, s_Full, s_Stack, s_Memo, s_Done, ()), n5, out, marks, w64 (rest10 + 1), ())
  else
    bif decide (marks > 0) then
      jn (fun t => B_s_EndOps_J5 k c_s_validOps c_s_runShapes t.1 t.2.1 t.2.2.1 t.2.2.2.1) (ops, n5, out, w64 (rest10 + 1), ())
    else
      jn (fun t => B_s_EndOps_J5 k c_s_validOps c_s_runShapes t.1 t.2.1 t.2.2.1 t.2.2.2.1) (ops, n5, out, rest10, ())
def B_s_EndOps_L4b (k : Nat) (c_s_validOps : C_s_validOps) (c_s_runShapes : C_s_runShapes) (again4 : T_s_EndOps_L4 → R_s_EndOps) (ops : List (Int × Int)) (s_Kinds : List Int) (s_Full : List Bool) (s_Stack s_Memo : List Int) (s_Done : Bool) (n5 : Int) (out : List (Int × Int)) (marks rest10 : Int) : R_s_EndOps :=
  bif decide (rest10 < (len s_Stack)) then
    chk (inb rest10 s_Stack.length) <|
    chk (decide (rest10.toNat < s_Stack.length)) <|
    jn (fun t => B_s_EndOps_J3 k c_s_validOps c_s_runShapes again4 t.1 t.2.1.1 t.2.1.2.1 t.2.1.2.2.1 t.2.1.2.2.2.1 t.2.1.2.2.2.2.1 t.2.2.1 t.2.2.2.1 t.2.2.2.2.1 t.2.2.2.2.2.1 t.2.2.2.2.2.2.1) (ops, (s_Kinds, s_Full, s_Stack, s_Memo, s_Done, ()), n5, out, marks, rest10, decide ((s_Stack.getD rest10.toNat (0 : Int)) ≥ 0), ())
  else
    jn (fun t => B_s_EndOps_J3 k c_s_validOps c_s_runShapes again4 t.1 t.2.1.1 t.2.1.2.1 t.2.1.2.2.1 t.2.1.2.2.2.1 t.2.1.2.2.2.2.1 t.2.2.1 t.2.2.2.1 t.2.2.2.2.1 t.2.2.2.2.2.1 t.2.2.2.2.2.2.1) (ops, (s_Kinds, s_Full, s_Stack, s_Memo, s_Done, ()), n5, out, marks, rest10, false, ())
def B_s_EndOps_L4 (k : Nat) (c_s_validOps : C_s_validOps) (c_s_runShapes : C_s_runShapes) (n : Nat) (t : T_s_EndOps_L4) : R_s_EndOps :=
  lfix n (fun again t => B_s_EndOps_L4b k c_s_validOps c_s_runShapes again t.1 t.2.1.1 t.2.1.2.1 t.2.1.2.2.1 t.2.1.2.2.2.1 t.2.1.2.2.2.2.1 t.2.2.1 t.2.2.2.1 t.2.2.2.2.1 t.2.2.2.2.2.1) t
def B_s_EndOps_L2b (k : Nat) (c_s_validOps : C_s_validOps) (c_s_runShapes : C_s_runShapes) (again2 : T_s_EndOps_L2 → R_s_EndOps) (ops : List (Int × Int)) (s_Kinds : List Int) (s_Full : List Bool) (s_Stack s_Memo : List Int) (s_Done : Bool) (n5 : Int) (out : List (Int × Int)) (marks i : Int) : R_s_EndOps :=
  bif decide (i < marks) then
    chk (room out.length ([(3, 0)]).length) <|
    again2 (ops, (s_Kinds, s_Full, s_Stack, s_Memo, s_Done, ()), n5, (out ++ [(3, 0)]), marks, w64 (i + 1), ())
  else
    B_s_EndOps_L4 k c_s_validOps c_s_runShapes k (ops, (s_Kinds, s_Full, s_Stack, s_Memo, s_Done, ()), n5, out, marks, 0, ())
def B_s_EndOps_L2 (k : Nat) (c_s_validOps : C_s_validOps) (c_s_runShapes : C_s_runShapes) (n : Nat) (t : T_s_EndOps_L2) : R_s_EndOps :=
  lfix n (fun again t => B_s_EndOps_L2b k c_s_validOps c_s_runShapes again t.1 t.2.1.1 t.2.1.2.1 t.2.1.2.2.1 t.2.1.2.2.2.1 t.2.1.2.2.2.2.1 t.2.2.1 t.2.2.2.1 t.2.2.2.2.1 t.2.2.2.2.2.1) t
def B_s_EndOps_L1b (k : Nat) (c_s_validOps : C_s_validOps) (c_s_runShapes : C_s_runShapes) (again1 : T_s_EndOps_L1 → R_s_EndOps) (ops : List (Int × Int)) (s_Kinds : List Int) (s_Full : List Bool) (s_Stack s_Memo : List Int) (s_Done : Bool) (n5 : Int) (out : List (Int × Int)) (marks i : Int) : R_s_EndOps :=
  bif decide (i < (len s_Stack)) then
    chk (inb i s_Stack.length) <|
    chk (decide (i.toNat < s_Stack.length)) <|
    bif decide ((s_Stack.getD i.toNat (0 : Int)) < 0) then
      jn (fun t => B_s_EndOps_J0 k c_s_validOps c_s_runShapes again1 t.1 t.2.1.1 t.2.1.2.1 t.2.1.2.2.1 t.2.1.2.2.2.1 t.2.1.2.2.2.2.1 t.2.2.1 t.2.2.2.1 t.2.2.2.2.1 t.2.2.2.2.2.1) (ops, (s_Kinds, s_Full, s_Stack, s_Memo, s_Done, ()), n5, out, w64 (marks + 1), i, ())
    else
      jn (fun t => B_s_EndOps_J0 k c_s_validOps c_s_runShapes again1 t.1 t.2.1.1 t.2.1.2.1 t.2.1.2.2.1 t.2.1.2.2.2.1 t.2.1.2.2.2.2.1 t.2.2.1 t.2.2.2.1 t.2.2.2.2.1 t.2.2.2.2.2.1) (ops, (s_Kinds, s_Full, s_Stack, s_Memo, s_Done, ()), n5, out, marks, i, ())
  else
    B_s_EndOps_L2 k c_s_validOps c_s_runShapes k (ops, (s_Kinds, s_Full, s_Stack, s_Memo, s_Done, ()), n5, out, marks, 0, ())
def B_s_EndOps_L1 (k : Nat) (c_s_validOps : C_s_validOps) (c_s_runShapes : C_s_runShapes) (n : Nat) (t : T_s_EndOps_L1) : R_s_EndOps :=
  lfix n (fun again t => B_s_EndOps_L1b k c_s_validOps c_s_runShapes again t.1 t.2.1.1 t.2.1.2.1 t.2.1.2.2.1 t.2.1.2.2.2.1 t.2.1.2.2.2.2.1 t.2.2.1 t.2.2.2.1 t.2.2.2.2.1 t.2.2.2.2.2.1) t
def B_s_EndOps (k : Nat) (c_s_validOps : C_s_validOps) (c_s_runShapes : C_s_runShapes) (ops : List (Int × Int)) : R_s_EndOps :=
  (c_s_validOps ops).bind fun r16 =>
  bif (!r16.1.1) then
    some (([], false, ()), ())
  else
    (c_s_runShapes ops).bind fun r20 =>
    bif r20.1.1.2.2.2.2.1 then
      some (([], true, ()), ())
    else
      B_s_EndOps_L1 k c_s_validOps c_s_runShapes k (ops, (r20.1.1.1, r20.1.1.2.1, r20.1.1.2.2.1, r20.1.1.2.2.2.1, r20.1.1.2.2.2.2.1, ()), r20.1.2.1, [], 0, 0, ())
def F_s_EndOps : Nat → C_s_EndOps
  | 0, _ => none
  | k + 1, ops => B_s_EndOps k (F_s_validOps k) (F_s_runShapes k) ops
theorem tot_s_EndOps {ops : _} {Q : _ → Prop} (h : Tot (fun σ => B_s_EndOps (σ 0) (F_s_validOps (σ 0)) (F_s_runShapes (σ 0)) ops) Q) : Tot (fun σ => F_s_EndOps (σ 0) ops) Q :=
  Tot.call (F := fun k => F_s_EndOps k ops) (B := fun k => B_s_EndOps k (F_s_validOps k) (F_s_runShapes k) ops) (fun k => rfl) h
abbrev A_s_EndOps_L6 (Z : Type) : Type := (List (Int × Int)) → Int → (List (Int × Int)) → Int → Int → Z
abbrev u_s_EndOps_L6 {Z : Type} (f : A_s_EndOps_L6 Z) (t : T_s_EndOps_L6) : Z := f t.1 t.2.1 t.2.2.1 t.2.2.2.1 t.2.2.2.2.1
theorem loop_s_EndOps_L6 {Q : A_s_EndOps_L6 ((((List (Int × Int)) × Bool × Unit) × (Unit)) → Prop)} (I : A_s_EndOps_L6 Prop) (μ : A_s_EndOps_L6 Nat)
    (step : ∀ a0 a1 a2 a3 a4, I a0 a1 a2 a3 a4 → ∀ again : (Nat → Nat) → T_s_EndOps_L6 → R_s_EndOps, Dep 2 again → (∀ y0 y1 y2 y3 y4, I y0 y1 y2 y3 y4 → μ y0 y1 y2 y3 y4 < μ a0 a1 a2 a3 a4 → Tot (fun σ => again σ (y0, y1, y2, y3, y4, ())) (Q y0 y1 y2 y3 y4)) →
      Tot (fun σ => B_s_EndOps_L6b (σ 0) (F_s_validOps (σ 0)) (F_s_runShapes (σ 0)) (again σ) a0 a1 a2 a3 a4) (Q a0 a1 a2 a3 a4)) :
    ∀ a0 a1 a2 a3 a4, I a0 a1 a2 a3 a4 → Tot (fun σ => B_s_EndOps_L6 (σ 0) (F_s_validOps (σ 0)) (F_s_runShapes (σ 0)) (σ 0) (a0, a1, a2, a3, a4, ())) (Q a0 a1 a2 a3 a4) := fun a0 a1 a2 a3 a4 => Tot.loop0 (L := fun k => B_s_EndOps_L6 k (F_s_validOps k) (F_s_runShapes k)) (B := fun k g => u_s_EndOps_L6 (B_s_EndOps_L6b k (F_s_validOps k) (F_s_runShapes k) g)) (Q := u_s_EndOps_L6 Q) (fun _ _ _ => rfl) (u_s_EndOps_L6 I) (u_s_EndOps_L6 μ)
    (fun t ht again hag h => step t.1 t.2.1 t.2.2.1 t.2.2.2.1 t.2.2.2.2.1 ht again hag fun y0 y1 y2 y3 y4 => h (y0, y1, y2, y3, y4, ())) (a0, a1, a2, a3, a4, ())
abbrev A_s_EndOps_L4 (Z : Type) : Type := (List (Int × Int)) → List Int → List Bool → List Int → List Int → Bool → Int → (List (Int × Int)) → Int → Int → Z
abbrev u_s_EndOps_L4 {Z : Type} (f : A_s_EndOps_L4 Z) (t : T_s_EndOps_L4) : Z := f t.1 t.2.1.1 t.2.1.2.1 t.2.1.2.2.1 t.2.1.2.2.2.1 t.2.1.2.2.2.2.1 t.2.2.1 t.2.2.2.1 t.2.2.2.2.1 t.2.2.2.2.2.1
theorem loop_s_EndOps_L4 {Q : A_s_EndOps_L4 ((((List (Int × Int)) × Bool × Unit) × (Unit)) → Prop)} (I : A_s_EndOps_L4 Prop) (μ : A_s_EndOps_L4 Nat)
    (step : ∀ a0 a1 a2 a3 a4 a5 a6 a7 a8 a9, I a0 a1 a2 a3 a4 a5 a6 a7 a8 a9 → ∀ again : (Nat → Nat) → T_s_EndOps_L4 → R_s_EndOps, Dep 2 again → (∀ y0 y1 y2 y3 y4 y5 y6 y7 y8 y9, I y0 y1 y2 y3 y4 y5 y6 y7 y8 y9 → μ y0 y1 y2 y3 y4 y5 y6 y7 y8 y9 < μ a0 a1 a2 a3 a4 a5 a6 a7 a8 a9 → Tot (fun σ => again σ (y0, (y1, y2, y3, y4, y5, ()), y6, y7, y8, y9, ())) (Q y0 y1 y2 y3 y4 y5 y6 y7 y8 y9)) →
      Tot (fun σ => B_s_EndOps_L4b (σ 0) (F_s_validOps (σ 0)) (F_s_runShapes (σ 0)) (again σ) a0 a1 a2 a3 a4 a5 a6 a7 a8 a9) (Q a0 a1 a2 a3 a4 a5 a6 a7 a8 a9)) :
    ∀ a0 a1 a2 a3 a4 a5 a6 a7 a8 a9, I a0 a1 a2 a3 a4 a5 a6 a7 a8 a9 → Tot (fun σ => B_s_EndOps_L4 (σ 0) (F_s_validOps (σ 0)) (F_s_runShapes (σ 0)) (σ 0) (a0, (a1, a2, a3, a4, a5, ()), a6, a7, a8, a9, ())) (Q a0 a1 a2 a3 a4 a5 a6 a7 a8 a9) := fun a0 a1 a2 a3 a4 a5 a6 a7 a8 a9 => Tot.loop0 (L := fun k => B_s_EndOps_L4 k (F_s_validOps k) (F_s_runShapes k)) (B := fun k g => u_s_EndOps_L4 (B_s_EndOps_L4b k (F_s_validOps k) (F_s_runShapes k) g)) (Q := u_s_EndOps_L4 Q) (fun _ _ _ => rfl) (u_s_EndOps_L4 I) (u_s_EndOps_L4 μ)
    (fun t ht again hag h => step t.1 t.2.1.1 t.2.1.2.1 t.2.1.2.2.1 t.2.1.2.2.2.1 t.2.1.2.2.2.2.1 t.2.2.1 t.2.2.2.1 t.2.2.2.2.1 t.2.2.2.2.2.1 ht again hag fun y0 y1 y2 y3 y4 y5 y6 y7 y8 y9 => h (y0, (y1, y2, y3, y4, y5, ()), y6, y7, y8, y9, ())) (a0, (a1, a2, a3, a4, a5, ()), a6, a7, a8, a9, ())
abbrev A_s_EndOps_L2 (Z : Type) : Type := (List (Int × Int)) → List Int → List Bool → List Int → List Int → Bool → Int → (List (Int × Int)) → Int → Int → Z
abbrev u_s_EndOps_L2 {Z : Type} (f : A_s_EndOps_L2 Z) (t : T_s_EndOps_L2) : Z := f t.1 t.2.1.1 t.2.1.2.1 t.2.1.2.2.1 t.2.1.2.2.2.1 t.2.1.2.2.2.2.1 t.2.2.1 t.2.2.2.1 t.2.2.2.2.1 t.2.2.2.2.2.1
theorem loop_s_EndOps_L2 {Q : A_s_EndOps_L2 ((((List (Int × Int)) × Bool × Unit) × (Unit)) → Prop)} (I : A_s_EndOps_L2 Prop) (μ : A_s_EndOps_L2 Nat)
    (step : ∀ a0 a1 a2 a3 a4 a5 a6 a7 a8 a9, I a0 a1 a2 a3 a4 a5 a6 a7 a8 a9 → ∀ again : (Nat → Nat) → T_s_EndOps_L2 → R_s_EndOps, Dep 2 again → (∀ y0 y1 y2 y3 y4 y5 y6 y7 y8 y9, I y0 y1 y2 y3 y4 y5 y6 y7 y8 y9 → μ y0 y1 y2 y3 y4 y5 y6 y7 y8 y9 < μ a0 a1 a2 a3 a4 a5 a6 a7 a8 a9 → Tot (fun σ => again σ (y0, (y1, y2, y3, y4, y5, ()), y6, y7, y8, y9, ())) (Q y0 y1 y2 y3 y4 y5 y6 y7 y8 y9)) →
      Tot (fun σ => B_s_EndOps_L2b (σ 0) (F_s_validOps (σ 0)) (F_s_runShapes (σ 0)) (again σ) a0 a1 a2 a3 a4 a5 a6 a7 a8 a9) (Q a0 a1 a2 a3 a4 a5 a6 a7 a8 a9)) :
    ∀ a0 a1 a2 a3 a4 a5 a6 a7 a8 a9, I a0 a1 a2 a3 a4 a5 a6 a7 a8 a9 → Tot (fun σ => B_s_EndOps_L2 (σ 0) (F_s_validOps (σ 0)) (F_s_runShapes (σ 0)) (σ 0) (a0, (a1, a2, a3, a4, a5, ()), a6, a7, a8, a9, ())) (Q a0 a1 a2 a3 a4 a5 a6 a7 a8 a9) := fun a0 a1 a2 a3 a4 a5 a6 a7 a8 a9 => Tot.loop0 (L := fun k => B_s_EndOps_L2 k (F_s_validOps k) (F_s_runShapes k)) (B := fun k g => u_s_EndOps_L2 (B_s_EndOps_L2b k (F_s_validOps k) (F_s_runShapes k) g)) (Q := u_s_EndOps_L2 Q) (fun _ _ _ => rfl) (u_s_EndOps_L2 I) (u_s_EndOps_L2 μ)
    (fun t ht again hag h => step t.1 t.2.1.1 t.2.1.2.1 t.2.1.2.2.1 t.2.1.2.2.2.1 t.2.1.2.2.2.2.1 t.2.2.1 t.2.2.2.1 t.2.2.2.2.1 t.2.2.2.2.2.1 ht again hag fun y0 y1 y2 y3 y4 y5 y6 y7 y8 y9 => h (y0, (y1, y2, y3, y4, y5, ()), y6, y7, y8, y9, ())) (a0, (a1, a2, a3, a4, a5, ()), a6, a7, a8, a9, ())
abbrev A_s_EndOps_L1 (Z : Type) : Type := (List (Int × Int)) → List Int → List Bool → List Int → List Int → Bool → Int → (List (Int × Int)) → Int → Int → Z
abbrev u_s_EndOps_L1 {Z : Type} (f : A_s_EndOps_L1 Z) (t : T_s_EndOps_L1) : Z := f t.1 t.2.1.1 t.2.1.2.1 t.2.1.2.2.1 t.2.1.2.2.2.1 t.2.1.2.2.2.2.1 t.2.2.1 t.2.2.2.1 t.2.2.2.2.1 t.2.2.2.2.2.1
theorem loop_s_EndOps_L1 {Q : A_s_EndOps_L1 ((((List (Int × Int)) × Bool × Unit) × (Unit)) → Prop)} (I : A_s_EndOps_L1 Prop) (μ : A_s_EndOps_L1 Nat)
    (step : ∀ a0 a1 a2 a3 a4 a5 a6 a7 a8 a9, I a0 a1 a2 a3 a4 a5 a6 a7 a8 a9 → ∀ again : (Nat → Nat) → T_s_EndOps_L1 → R_s_EndOps, Dep 2 again → (∀ y0 y1 y2 y3 y4 y5 y6 y7 y8 y9, I y0 y1 y2 y3 y4 y5 y6 y7 y8 y9 → μ y0 y1 y2 y3 y4 y5 y6 y7 y8 y9 < μ a0 a1 a2 a3 a4 a5 a6 a7 a8 a9 → Tot (fun σ => again σ (y0, (y1, y2, y3, y4, y5, ()), y6, y7, y8, y9, ())) (Q y0 y1 y2 y3 y4 y5 y6 y7 y8 y9)) →
      Tot (fun σ => B_s_EndOps_L1b (σ 0) (F_s_validOps (σ 0)) (F_s_runShapes (σ 0)) (again σ) a0 a1 a2 a3 a4 a5 a6 a7 a8 a9) (Q a0 a1 a2 a3 a4 a5 a6 a7 a8 a9)) :
    ∀ a0 a1 a2 a3 a4 a5 a6 a7 a8 a9, I a0 a1 a2 a3 a4 a5 a6 a7 a8 a9 → Tot (fun σ => B_s_EndOps_L1 (σ 0) (F_s_validOps (σ 0)) (F_s_runShapes (σ 0)) (σ 0) (a0, (a1, a2, a3, a4, a5, ()), a6, a7, a8, a9, ())) (Q a0 a1 a2 a3 a4 a5 a6 a7 a8 a9) := fun a0 a1 a2 a3 a4 a5 a6 a7 a8 a9 => Tot.loop0 (L := fun k => B_s_EndOps_L1 k (F_s_validOps k) (F_s_runShapes k)) (B := fun k g => u_s_EndOps_L1 (B_s_EndOps_L1b k (F_s_validOps k) (F_s_runShapes k) g)) (Q := u_s_EndOps_L1 Q) (fun _ _ _ => rfl) (u_s_EndOps_L1 I) (u_s_EndOps_L1 μ)
    (fun t ht again hag h => step t.1 t.2.1.1 t.2.1.2.1 t.2.1.2.2.1 t.2.1.2.2.2.1 t.2.1.2.2.2.2.1 t.2.2.1 t.2.2.2.1 t.2.2.2.2.1 t.2.2.2.2.2.1 ht again hag fun y0 y1 y2 y3 y4 y5 y6 y7 y8 y9 => h (y0, (y1, y2, y3, y4, y5, ()), y6, y7, y8, y9, ())) (a0, (a1, a2, a3, a4, a5, ()), a6, a7, a8, a9, ())
abbrev R_s_CutOps : Type := Option (((List (Int × Int)) × Unit) × (Unit))
abbrev C_s_CutOps : Type := (List (Int × Int)) → R_s_CutOps
def B_s_CutOps (k : Nat) (c_s_validOps : C_s_validOps) (c_s_runShapes : C_s_runShapes) (ops : List (Int × Int)) : R_s_CutOps :=
  (c_s_validOps ops).bind fun r6 =>
  bif (!r6.1.1) then
    some (([], ()), ())
  else
    (c_s_runShapes ops).bind fun r10 =>
    chk (cutb 0 r10.1.2.1 ops.length) <|
    chk (room ([] : List (Int × Int)).length (sub ops 0 r10.1.2.1).length) <|
    some (((sub ops 0 r10.1.2.1), ()), ())
def F_s_CutOps : Nat → C_s_CutOps
  | 0, _ => none
  | k + 1, ops => B_s_CutOps k (F_s_validOps k) (F_s_runShapes k) ops
theorem tot_s_CutOps {ops : _} {Q : _ → Prop} (h : Tot (fun σ => B_s_CutOps (σ 0) (F_s_validOps (σ 0)) (F_s_runShapes (σ 0)) ops) Q) : Tot (fun σ => F_s_CutOps (σ 0) ops) Q :=
  Tot.call (F := fun k => F_s_CutOps k ops) (B := fun k => B_s_CutOps k (F_s_validOps k) (F_s_runShapes k) ops) (fun k => rfl) h
abbrev R_s_likelyOps : Type := Option (((List (Int × Int)) × Unit) × ((List Int × Int × Unit) × Unit))
abbrev C_s_likelyOps : Type := List Int → Int → R_s_likelyOps
abbrev T_s_likelyOps_L4 : Type := (List Int × Int × Unit) × (List (Int × Int)) × (List Int × List Bool × List Int × List Int × Bool × Unit) × Int × Unit
def B_s_likelyOps_J3 (k : Nat) (c_s_newShapes : C_s_newShapes) (c_s_reader_one : C_s_reader_one) (c_s_someOp : C_s_someOp) (c_s_reader_pick : C_s_reader_pick) (c_s_copyShapes : C_s_copyShapes) (c_s_stepShapes : C_s_stepShapes) (c_s_EndOps : C_s_EndOps) (c_s_CutOps : C_s_CutOps) (again4 : T_s_likelyOps_L4 → R_s_likelyOps) (r_b : List Int) (r_p : Int) (out : List (Int × Int)) (s_Kinds : List Int) (s_Full : List Bool) (s_Stack s_Memo : List Int) (s_Done : Bool) (n5 : Int) : R_s_likelyOps :=
  again4 ((r_b, r_p, ()), out, (s_Kinds, s_Full, s_Stack, s_Memo, s_Done, ()), w64 (n5 - 1), ())
def B_s_likelyOps_J2 (k : Nat) (c_s_newShapes : C_s_newShapes) (c_s_reader_one : C_s_reader_one) (c_s_someOp : C_s_someOp) (c_s_reader_pick : C_s_reader_pick) (c_s_copyShapes : C_s_copyShapes) (c_s_stepShapes : C_s_stepShapes) (c_s_EndOps : C_s_EndOps) (c_s_CutOps : C_s_CutOps) (again4 : T_s_likelyOps_L4 → R_s_likelyOps) (r_b : List Int) (r_p : Int) (out : List (Int × Int)) (s_Kinds : List Int) (s_Full : List Bool) (s_Stack s_Memo : List Int) (s_Done : Bool) (n5 o_Code o_Arg : Int) (t44 : Bool) : R_s_likelyOps :=
  bif t44 then
    chk (room out.length ([(o_Code, o_Arg)]).length) <|
    jn (fun t => B_s_likelyOps_J3 k c_s_newShapes c_s_reader_one c_s_someOp c_s_reader_pick c_s_copyShapes c_s_stepShapes c_s_EndOps c_s_CutOps again4 t.1.1 t.1.2.1 t.2.1 t.2.2.1.1 t.2.2.1.2.1 t.2.2.1.2.2.1 t.2.2.1.2.2.2.1 t.2.2.1.2.2.2.2.1 t.2.2.2.1) ((r_b, r_p, ()), (out ++ [(o_Code, o_Arg)]), (s_Kinds, s_Full, s_Stack, s_Memo, s_Done, ()), n5, ())
  else
    jn (fun t => B_s_likelyOps_J3 k c_s_newShapes c_s_reader_one c_s_someOp c_s_reader_pick c_s_copyShapes c_s_stepShapes c_s_EndOps c_s_CutOps again4 t.1.1 t.1.2.1 t.2.1 t.2.2.1.1 t.2.2.1.2.1 t.2.2.1.2.2.1 t.2.2.1.2.2.2.1 t.2.2.1.2.2.2.2.1 t.2.2.2.1) ((r_b, r_p, ()), out, (s_Kinds, s_Full, s_Stack, s_Memo, s_Done, ()), n5, ())
def B_s_likelyOps_J1 (k : Nat) (c_s_newShapes : C_s_newShapes) (c_s_reader_one : C_s_reader_one) (c_s_someOp : C_s_someOp) (c_s_reader_pick : C_s_reader_pick) (c_s_copyShapes : C_s_copyShapes) (c_s_stepShapes : C_s_stepShapes) (c_s_EndOps : C_s_EndOps) (c_s_CutOps : C_s_CutOps) (again4 : T_s_likelyOps_L4 → R_s_likelyOps) (r_b : List Int) (r_p : Int) (out : List (Int × Int)) (s_Kinds : List Int) (s_Full : List Bool) (s_Stack s_Memo : List Int) (s_Done : Bool) (n5 o_Code o_Arg : Int) (ok : Bool) : R_s_likelyOps :=
  bif ok then
    jn (fun t => B_s_likelyOps_J2 k c_s_newShapes c_s_reader_one c_s_someOp c_s_reader_pick c_s_copyShapes c_s_stepShapes c_s_EndOps c_s_CutOps again4 t.1.1 t.1.2.1 t.2.1 t.2.2.1.1 t.2.2.1.2.1 t.2.2.1.2.2.1 t.2.2.1.2.2.2.1 t.2.2.1.2.2.2.2.1 t.2.2.2.1 t.2.2.2.2.1.1 t.2.2.2.2.1.2.1 t.2.2.2.2.2.1) ((r_b, r_p, ()), out, (s_Kinds, s_Full, s_Stack, s_Memo, s_Done, ()), n5, (o_Code, o_Arg, ()), true, ())
  else
    (c_s_reader_pick r_b r_p 16).bind fun r42 =>
    jn (fun t => B_s_likelyOps_J2 k c_s_newShapes c_s_reader_one c_s_someOp c_s_reader_pick c_s_copyShapes c_s_stepShapes c_s_EndOps c_s_CutOps again4 t.1.1 t.1.2.1 t.2.1 t.2.2.1.1 t.2.2.1.2.1 t.2.2.1.2.2.1 t.2.2.1.2.2.2.1 t.2.2.1.2.2.2.2.1 t.2.2.2.1 t.2.2.2.2.1.1 t.2.2.2.2.1.2.1 t.2.2.2.2.2.1) ((r42.2.1.1, r42.2.1.2.1, ()), out, (s_Kinds, s_Full, s_Stack, s_Memo, s_Done, ()), n5, (o_Code, o_Arg, ()), (r42.1.1 == 0), ())
def B_s_likelyOps_J0 (k : Nat) (c_s_newShapes : C_s_newShapes) (c_s_reader_one : C_s_reader_one) (c_s_someOp : C_s_someOp) (c_s_reader_pick : C_s_reader_pick) (c_s_copyShapes : C_s_copyShapes) (c_s_stepShapes : C_s_stepShapes) (c_s_EndOps : C_s_EndOps) (c_s_CutOps : C_s_CutOps) (again4 : T_s_likelyOps_L4 → R_s_likelyOps) (r_b : List Int) (r_p : Int) (out : List (Int × Int)) (s_Kinds : List Int) (s_Full : List Bool) (s_Stack s_Memo : List Int) (s_Done : Bool) (n5 o_Code o_Arg : Int) (t29 : Bool) : R_s_likelyOps :=
  bif t29 then
    jn (fun t => B_s_likelyOps_J3 k c_s_newShapes c_s_reader_one c_s_someOp c_s_reader_pick c_s_copyShapes c_s_stepShapes c_s_EndOps c_s_CutOps again4 t.1.1 t.1.2.1 t.2.1 t.2.2.1.1 t.2.2.1.2.1 t.2.2.1.2.2.1 t.2.2.1.2.2.2.1 t.2.2.1.2.2.2.2.1 t.2.2.2.1) ((r_b, r_p, ()), out, (s_Kinds, s_Full, s_Stack, s_Memo, s_Done, ()), n5, ())
  else
    (c_s_copyShapes s_Kinds s_Full s_Stack s_Memo s_Done).bind fun r32 =>
    (c_s_stepShapes r32.1.1.1 r32.1.1.2.1 r32.1.1.2.2.1 r32.1.1.2.2.2.1 r32.1.1.2.2.2.2.1 o_Code o_Arg).bind fun r34 =>
    bif r34.1.2.1 then
      jn (fun t => B_s_likelyOps_J1 k c_s_newShapes c_s_reader_one c_s_someOp c_s_reader_pick c_s_copyShapes c_s_stepShapes c_s_EndOps c_s_CutOps again4 t.1.1 t.1.2.1 t.2.1 t.2.2.1.1 t.2.2.1.2.1 t.2.2.1.2.2.1 t.2.2.1.2.2.2.1 t.2.2.1.2.2.2.2.1 t.2.2.2.1 t.2.2.2.2.1.1 t.2.2.2.2.1.2.1 t.2.2.2.2.2.1) ((r_b, r_p, ()), out, (r34.1.1.1, r34.1.1.2.1, r34.1.1.2.2.1, r34.1.1.2.2.2.1, r34.1.1.2.2.2.2.1, ()), n5, (o_Code, o_Arg, ()), r34.1.2.1, ())
    else
      jn (fun t => B_s_likelyOps_J1 k c_s_newShapes c_s_reader_one c_s_someOp c_s_reader_pick c_s_copyShapes c_s_stepShapes c_s_EndOps c_s_CutOps again4 t.1.1 t.1.2.1 t.2.1 t.2.2.1.1 t.2.2.1.2.1 t.2.2.1.2.2.1 t.2.2.1.2.2.2.1 t.2.2.1.2.2.2.2.1 t.2.2.2.1 t.2.2.2.2.1.1 t.2.2.2.2.1.2.1 t.2.2.2.2.2.1) ((r_b, r_p, ()), out, (s_Kinds, s_Full, s_Stack, s_Memo, s_Done, ()), n5, (o_Code, o_Arg, ()), r34.1.2.1, ())
def B_s_likelyOps_L4b (k : Nat) (c_s_newShapes : C_s_newShapes) (c_s_reader_one : C_s_reader_one) (c_s_someOp : C_s_someOp) (c_s_reader_pick : C_s_reader_pick) (c_s_copyShapes : C_s_copyShapes) (c_s_stepShapes : C_s_stepShapes) (c_s_EndOps : C_s_EndOps) (c_s_CutOps : C_s_CutOps) (again4 : T_s_likelyOps_L4 → R_s_likelyOps) (r_b : List Int) (r_p : Int) (out : List (Int × Int)) (s_Kinds : List Int) (s_Full : List Bool) (s_Stack s_Memo : List Int) (s_Done : Bool) (n5 : Int) : R_s_likelyOps :=
  bif decide (n5 > 0) then
    (c_s_someOp r_b r_p).bind fun r21 =>
    bif (r21.1.1.1 == 19) then
      (c_s_reader_pick r21.2.1.1 r21.2.1.2.1 3).bind fun r27 =>
      jn (fun t => B_s_likelyOps_J0 k c_s_newShapes c_s_reader_one c_s_someOp c_s_reader_pick c_s_copyShapes c_s_stepShapes c_s_EndOps c_s_CutOps again4 t.1.1 t.1.2.1 t.2.1 t.2.2.1.1 t.2.2.1.2.1 t.2.2.1.2.2.1 t.2.2.1.2.2.2.1 t.2.2.1.2.2.2.2.1 t.2.2.2.1 t.2.2.2.2.1.1 t.2.2.2.2.1.2.1 t.2.2.2.2.2.1) ((r27.2.1.1, r27.2.1.2.1, ()), out, (s_Kinds, s_Full, s_Stack, s_Memo, s_Done, ()), n5, (r21.1.1.1, r21.1.1.2.1, ()), decide (r27.1.1 > 0), ())
    else
      jn (fun t => B_s_likelyOps_J0 k c_s_newShapes c_s_reader_one c_s_someOp c_s_reader_pick c_s_copyShapes c_s_stepShapes c_s_EndOps c_s_CutOps again4 t.1.1 t.1.2.1 t.2.1 t.2.2.1.1 t.2.2.1.2.1 t.2.2.1.2.2.1 t.2.2.1.2.2.2.1 t.2.2.1.2.2.2.2.1 t.2.2.2.1 t.2.2.2.2.1.1 t.2.2.2.2.1.2.1 t.2.2.2.2.2.1) ((r21.2.1.1, r21.2.1.2.1, ()), out, (s_Kinds, s_Full, s_Stack, s_Memo, s_Done, ()), n5, (r21.1.1.1, r21.1.1.2.1, ()), false, ())
  else
    (c_s_reader_pick r_b r_p 2).bind fun r50 =>
    bif (r50.1.1 == 0) then
      (c_s_EndOps out).bind fun r54 =>
      bif r54.1.2.1 then
        (c_s_CutOps out).bind fun r59 =>
        chk (room r59.1.1.length r54.1.1.length) <|
        some (((r59.1.1 ++ r54.1.1), ()), ((r50.2.1.1, r50.2.1.2.1, ()), ()))
      else
        some ((out, ()), ((r50.2.1.1, r50.2.1.2.1, ()), ()))
    else
      some ((out, ()), ((r50.2.1.1, r50.2.1.2.1, ()), ()))
def B_s_likelyOps_L4 (k : Nat) (c_s_newShapes : C_s_newShapes) (c_s_reader_one : C_s_reader_one) (c_s_someOp : C_s_someOp) (c_s_reader_pick : C_s_reader_pick) (c_s_copyShapes : C_s_copyShapes) (c_s_stepShapes : C_s_stepShapes) (c_s_EndOps : C_s_EndOps) (c_s_CutOps : C_s_CutOps) (n : Nat) (t : T_s_likelyOps_L4) : R_s_likelyOps :=
  lfix n (fun again t => B_s_likelyOps_L4b k c_s_newShapes c_s_reader_one c_s_someOp c_s_reader_pick c_s_copyShapes c_s_stepShapes c_s_EndOps c_s_CutOps again t.1.1 t.1.2.1 t.2.1 t.2.2.1.1 t.2.2.1.2.1 t.2.2.1.2.2.1 t.2.2.1.2.2.2.1 t.2.2.1.2.2.2.2.1 t.2.2.2.1) t
def B_s_likelyOps (k : Nat) (c_s_newShapes : C_s_newShapes) (c_s_reader_one : C_s_reader_one) (c_s_someOp : C_s_someOp) (c_s_reader_pick : C_s_reader_pick) (c_s_copyShapes : C_s_copyShapes) (c_s_stepShapes : C_s_stepShapes) (c_s_EndOps : C_s_EndOps) (c_s_CutOps : C_s_CutOps) (r_b : List Int) (r_p : Int) : R_s_likelyOps :=
  (c_s_newShapes).bind fun r12 =>
  (c_s_reader_one r_b r_p ([12, 8, 20, 5, 30, 0])).bind fun r15 =>
  B_s_likelyOps_L4 k c_s_newShapes c_s_reader_one c_s_someOp c_s_reader_pick c_s_copyShapes c_s_stepShapes c_s_EndOps c_s_CutOps k ((r15.2.1.1, r15.2.1.2.1, ()), [], (r12.1.1.1, r12.1.1.2.1, r12.1.1.2.2.1, r12.1.1.2.2.2.1, r12.1.1.2.2.2.2.1, ()), r15.1.1, ())
def F_s_likelyOps : Nat → C_s_likelyOps
  | 0, _, _ => none
  | k + 1, r_b, r_p => B_s_likelyOps k (F_s_newShapes k) (F_s_reader_one k) (F_s_someOp k) (F_s_reader_pick k) (F_s_copyShapes k) (F_s_stepShapes k) (F_s_EndOps k) (F_s_CutOps k) r_b r_p
theorem tot_s_likelyOps {r_b r_p : _} {Q : _ → Prop} (h : Tot (fun σ => B_s_likelyOps (σ 0) (F_s_newShapes (σ 0)) (F_s_reader_one (σ 0)) (F_s_someOp (σ 0)) (F_s_reader_pick (σ 0)) (F_s_copyShapes (σ 0)) (F_s_stepShapes (σ 0)) (F_s_EndOps (σ 0)) (F_s_CutOps (σ 0)) r_b r_p) Q) : Tot (fun σ => F_s_likelyOps (σ 0) r_b r_p) Q :=
  Tot.call (F := fun k => F_s_likelyOps k r_b r_p) (B := fun k => B_s_likelyOps k (F_s_newShapes k) (F_s_reader_one k) (F_s_someOp k) (F_s_reader_pick k) (F_s_copyShapes k) (F_s_stepShapes k) (F_s_EndOps k) (F_s_CutOps k) r_b r_p) (fun k => rfl) h
abbrev A_s_likelyOps_L4 (Z : Type) : Type := List Int → Int → (List (Int × Int)) → List Int → List Bool → List Int → List Int → Bool → Int → Z
abbrev u_s_likelyOps_L4 {Z : Type} (f : A_s_likelyOps_L4 Z) (t : T_s_likelyOps_L4) : Z := f t.1.1 t.1.2.1 t.2.1 t.2.2.1.1 t.2.2.1.2.1 t.2.2.1.2.2.1 t.2.2.1.2.2.2.1 t.2.2.1.2.2.2.2.1 t.2.2.2.1
theorem loop_s_likelyOps_L4 {Q : A_s_likelyOps_L4 ((((List (Int × Int)) × Unit) × ((List Int × Int × Unit) × Unit)) → Prop)} (I : A_s_likelyOps_L4 Prop) (μ : A_s_likelyOps_L4 Nat)
    (step : ∀ a0 a1 a2 a3 a4 a5 a6 a7 a8, I a0 a1 a2 a3 a4 a5 a6 a7 a8 → ∀ again : (Nat → Nat) → T_s_likelyOps_L4 → R_s_likelyOps, Dep 2 again → (∀ y0 y1 y2 y3 y4 y5 y6 y7 y8, I y0 y1 y2 y3 y4 y5 y6 y7 y8 → μ y0 y1 y2 y3 y4 y5 y6 y7 y8 < μ a0 a1 a2 a3 a4 a5 a6 a7 a8 → Tot (fun σ => again σ ((y0, y1, ()), y2, (y3, y4, y5, y6, y7, ()), y8, ())) (Q y0 y1 y2 y3 y4 y5 y6 y7 y8)) →
      Tot (fun σ => B_s_likelyOps_L4b (σ 0) (F_s_newShapes (σ 0)) (F_s_reader_one (σ 0)) (F_s_someOp (σ 0)) (F_s_reader_pick (σ 0)) (F_s_copyShapes (σ 0)) (F_s_stepShapes (σ 0)) (F_s_EndOps (σ 0)) (F_s_CutOps (σ 0)) (again σ) a0 a1 a2 a3 a4 a5 a6 a7 a8) (Q a0 a1 a2 a3 a4 a5 a6 a7 a8)) :
    ∀ a0 a1 a2 a3 a4 a5 a6 a7 a8, I a0 a1 a2 a3 a4 a5 a6 a7 a8 → Tot (fun σ => B_s_likelyOps_L4 (σ 0) (F_s_newShapes (σ 0)) (F_s_reader_one (σ 0)) (F_s_someOp (σ 0)) (F_s_reader_pick (σ 0)) (F_s_copyShapes (σ 0)) (F_s_stepShapes (σ 0)) (F_s_EndOps (σ 0)) (F_s_CutOps (σ 0)) (σ 0) ((a0, a1, ()), a2, (a3, a4, a5, a6, a7, ()), a8, ())) (Q a0 a1 a2 a3 a4 a5 a6 a7 a8) := fun a0 a1 a2 a3 a4 a5 a6 a7 a8 => Tot.loop0 (L := fun k => B_s_likelyOps_L4 k (F_s_newShapes k) (F_s_reader_one k) (F_s_someOp k) (F_s_reader_pick k) (F_s_copyShapes k) (F_s_stepShapes k) (F_s_EndOps k) (F_s_CutOps k)) (B := fun k g => u_s_likelyOps_L4 (B_s_likelyOps_L4b k (F_s_newShapes k) (F_s_reader_one k) (F_s_someOp k) (F_s_reader_pick k) (F_s_copyShapes k) (F_s_stepShapes k) (F_s_EndOps k) (F_s_CutOps k) g)) (Q := u_s_likelyOps_L4 Q) (fun _ _ _ => rfl) (u_s_likelyOps_L4 I) (u_s_likelyOps_L4 μ)
    (fun t ht again hag h => step t.1.1 t.1.2.1 t.2.1 t.2.2.1.1 t.2.2.1.2.1 t.2.2.1.2.2.1 t.2.2.1.2.2.2.1 t.2.2.1.2.2.2.2.1 t.2.2.2.1 ht again hag fun y0 y1 y2 y3 y4 y5 y6 y7 y8 => h ((y0, y1, ()), y2, (y3, y4, y5, y6, y7, ()), y8, ())) ((a0, a1, ()), a2, (a3, a4, a5, a6, a7, ()), a8, ())
abbrev R_s_newMachine : Type := Option (((Unit × Unit × List Int × Bool × Unit) × Unit) × (Unit))
abbrev C_s_newMachine : Type := R_s_newMachine
abbrev T_s_newMachine_L0 : Type := (Unit × Unit × Unit × Bool × Unit) × (Unit × Unit × List Int × Bool × Unit) × Int × Unit
def B_s_newMachine_L0b (k : Nat) (again0 : T_s_newMachine_L0 → R_s_newMachine) (t0_Done : Bool) (m_Memo : List Int) (m_Done : Bool) (i : Int) : R_s_newMachine :=
  bif decide (i < 20) then
    chk (room m_Memo.length ([(-1)]).length) <|
    again0 (((), (), (), t0_Done, ()), ((), (), (m_Memo ++ [(-1)]), m_Done, ()), w64 (i + 1), ())
  else
    some ((((), (), m_Memo, m_Done, ()), ()), ())
def B_s_newMachine_L0 (k : Nat) (n : Nat) (t : T_s_newMachine_L0) : R_s_newMachine :=
  lfix n (fun again t => B_s_newMachine_L0b k again t.1.2.2.2.1 t.2.1.2.2.1 t.2.1.2.2.2.1 t.2.2.1) t
def B_s_newMachine (k : Nat) : R_s_newMachine :=
  B_s_newMachine_L0 k k (((), (), (), false, ()), ((), (), [], false, ()), 0, ())
def F_s_newMachine : Nat → C_s_newMachine
  | 0 => none
  | k + 1 => B_s_newMachine k
theorem tot_s_newMachine {Q : _ → Prop} (h : Tot (fun σ => B_s_newMachine (σ 0)) Q) : Tot (fun σ => F_s_newMachine (σ 0)) Q :=
  Tot.call (F := fun k => F_s_newMachine k) (B := fun k => B_s_newMachine k) (fun k => rfl) h
abbrev A_s_newMachine_L0 (Z : Type) : Type := Bool → List Int → Bool → Int → Z
abbrev u_s_newMachine_L0 {Z : Type} (f : A_s_newMachine_L0 Z) (t : T_s_newMachine_L0) : Z := f t.1.2.2.2.1 t.2.1.2.2.1 t.2.1.2.2.2.1 t.2.2.1
theorem loop_s_newMachine_L0 {Q : A_s_newMachine_L0 ((((Unit × Unit × List Int × Bool × Unit) × Unit) × (Unit)) → Prop)} (I : A_s_newMachine_L0 Prop) (μ : A_s_newMachine_L0 Nat)
    (step : ∀ a0 a1 a2 a3, I a0 a1 a2 a3 → ∀ again : (Nat → Nat) → T_s_newMachine_L0 → R_s_newMachine, Dep 2 again → (∀ y0 y1 y2 y3, I y0 y1 y2 y3 → μ y0 y1 y2 y3 < μ a0 a1 a2 a3 → Tot (fun σ => again σ (((), (), (), y0, ()), ((), (), y1, y2, ()), y3, ())) (Q y0 y1 y2 y3)) →
      Tot (fun σ => B_s_newMachine_L0b (σ 0) (again σ) a0 a1 a2 a3) (Q a0 a1 a2 a3)) :
    ∀ a0 a1 a2 a3, I a0 a1 a2 a3 → Tot (fun σ => B_s_newMachine_L0 (σ 0) (σ 0) (((), (), (), a0, ()), ((), (), a1, a2, ()), a3, ())) (Q a0 a1 a2 a3) := fun a0 a1 a2 a3 => Tot.loop0 (L := fun k => B_s_newMachine_L0 k) (B := fun k g => u_s_newMachine_L0 (B_s_newMachine_L0b k g)) (Q := u_s_newMachine_L0 Q) (fun _ _ _ => rfl) (u_s_newMachine_L0 I) (u_s_newMachine_L0 μ)
    (fun t ht again hag h => step t.1.2.2.2.1 t.2.1.2.2.1 t.2.1.2.2.2.1 t.2.2.1 ht again hag fun y0 y1 y2 y3 => h (((), (), (), y0, ()), ((), (), y1, y2, ()), y3, ())) (((), (), (), a0, ()), ((), (), a1, a2, ()), a3, ())
abbrev R_s_copyMachine : Type := Option ((((List (Int × Int × List Int)) × List Int × List Int × Bool × Unit) × Unit) × (Unit))
abbrev C_s_copyMachine : Type := (List (Int × Int × List Int)) → List Int → List Int → Bool → R_s_copyMachine
abbrev T_s_copyMachine_L0 : Type := ((List (Int × Int × List Int)) × List Int × List Int × Bool × Unit) × (Unit × Unit × Unit × Bool × Unit) × ((List (Int × Int × List Int)) × List Int × List Int × Bool × Unit) × Int × Unit
def B_s_copyMachine_L0b (k : Nat) (c_s_copyInts : C_s_copyInts) (again0 : T_s_copyMachine_L0 → R_s_copyMachine) (m_Nodes : List (Int × Int × List Int)) (m_Stack m_Memo : List Int) (m_Done t2_Done : Bool) (out_Nodes : List (Int × Int × List Int)) (out_Stack out_Memo : List Int) (out_Done : Bool) (i : Int) : R_s_copyMachine :=
  bif decide (i < (len m_Nodes)) then
    chk (inb i m_Nodes.length) <|
    chk (inb i m_Nodes.length) <|
    chk (inb i m_Nodes.length) <|
    (c_s_copyInts (((rdx ((0 : Int), ((0 : Int), ([] : List Int))) m_Nodes i).2).2)).bind fun r41 =>
    chk (room out_Nodes.length ([((rdx ((0 : Int), ((0 : Int), ([] : List Int))) m_Nodes i).1, (((rdx ((0 : Int), ((0 : Int), ([] : List Int))) m_Nodes i).2).1, r41.1.1))]).length) <|
    again0 ((m_Nodes, m_Stack, m_Memo, m_Done, ()), ((), (), (), t2_Done, ()), ((out_Nodes ++ [((rdx ((0 : Int), ((0 : Int), ([] : List Int))) m_Nodes i).1, (((rdx ((0 : Int), ((0 : Int), ([] : List Int))) m_Nodes i).2).1, r41.1.1))]), out_Stack, out_Memo, out_Done, ()), w64 (i + 1), ())
  else
    some (((out_Nodes, out_Stack, out_Memo, out_Done, ()), ()), ())
def B_s_copyMachine_L0 (k : Nat) (c_s_copyInts : C_s_copyInts) (n : Nat) (t : T_s_copyMachine_L0) : R_s_copyMachine :=
  lfix n (fun again t => B_s_copyMachine_L0b k c_s_copyInts again t.1.1 t.1.2.1 t.1.2.2.1 t.1.2.2.2.1 t.2.1.2.2.2.1 t.2.2.1.1 t.2.2.1.2.1 t.2.2.1.2.2.1 t.2.2.1.2.2.2.1 t.2.2.2.1) t
def B_s_copyMachine (k : Nat) (c_s_copyInts : C_s_copyInts) (m_0 : List (Int × Int × List Int)) (m_1 m_2 : List Int) (m_3 : Bool) : R_s_copyMachine :=
  (c_s_copyInts m_1).bind fun r7 =>
  (c_s_copyInts m_2).bind fun r10 =>
  B_s_copyMachine_L0 k c_s_copyInts k ((m_0, m_1, m_2, m_3, ()), ((), (), (), false, ()), ([], r7.1.1, r10.1.1, m_3, ()), 0, ())
def F_s_copyMachine : Nat → C_s_copyMachine
  | 0, _, _, _, _ => none
  | k + 1, m_0, m_1, m_2, m_3 => B_s_copyMachine k (F_s_copyInts k) m_0 m_1 m_2 m_3
theorem tot_s_copyMachine {m_0 m_1 m_2 m_3 : _} {Q : _ → Prop} (h : Tot (fun σ => B_s_copyMachine (σ 0) (F_s_copyInts (σ 0)) m_0 m_1 m_2 m_3) Q) : Tot (fun σ => F_s_copyMachine (σ 0) m_0 m_1 m_2 m_3) Q :=
  Tot.call (F := fun k => F_s_copyMachine k m_0 m_1 m_2 m_3) (B := fun k => B_s_copyMachine k (F_s_copyInts k) m_0 m_1 m_2 m_3) (fun k => rfl) h
abbrev A_s_copyMachine_L0 (Z : Type) : Type := (List (Int × Int × List Int)) → List Int → List Int → Bool → Bool → (List (Int × Int × List Int)) → List Int → List Int → Bool → Int → Z
abbrev u_s_copyMachine_L0 {Z : Type} (f : A_s_copyMachine_L0 Z) (t : T_s_copyMachine_L0) : Z := f t.1.1 t.1.2.1 t.1.2.2.1 t.1.2.2.2.1 t.2.1.2.2.2.1 t.2.2.1.1 t.2.2.1.2.1 t.2.2.1.2.2.1 t.2.2.1.2.2.2.1 t.2.2.2.1
theorem loop_s_copyMachine_L0 {Q : A_s_copyMachine_L0 (((((List (Int × Int × List Int)) × List Int × List Int × Bool × Unit) × Unit) × (Unit)) → Prop)} (I : A_s_copyMachine_L0 Prop) (μ : A_s_copyMachine_L0 Nat)
    (step : ∀ a0 a1 a2 a3 a4 a5 a6 a7 a8 a9, I a0 a1 a2 a3 a4 a5 a6 a7 a8 a9 → ∀ again : (Nat → Nat) → T_s_copyMachine_L0 → R_s_copyMachine, Dep 2 again → (∀ y0 y1 y2 y3 y4 y5 y6 y7 y8 y9, I y0 y1 y2 y3 y4 y5 y6 y7 y8 y9 → μ y0 y1 y2 y3 y4 y5 y6 y7 y8 y9 < μ a0 a1 a2 a3 a4 a5 a6 a7 a8 a9 → Tot (fun σ => again σ ((y0, y1, y2, y3, ()), ((), (), (), y4, ()), (y5, y6, y7, y8, ()), y9, ())) (Q y0 y1 y2 y3 y4 y5 y6 y7 y8 y9)) →
      Tot (fun σ => B_s_copyMachine_L0b (σ 0) (F_s_copyInts (σ 0)) (again σ) a0 a1 a2 a3 a4 a5 a6 a7 a8 a9) (Q a0 a1 a2 a3 a4 a5 a6 a7 a8 a9)) :
    ∀ a0 a1 a2 a3 a4 a5 a6 a7 a8 a9, I a0 a1 a2 a3 a4 a5 a6 a7 a8 a9 → Tot (fun σ => B_s_copyMachine_L0 (σ 0) (F_s_copyInts (σ 0)) (σ 0) ((a0, a1, a2, a3, ()), ((), (), (), a4, ()), (a5, a6, a7, a8, ()), a9, ())) (Q a0 a1 a2 a3 a4 a5 a6 a7 a8 a9) := fun a0 a1 a2 a3 a4 a5 a6 a7 a8 a9 => Tot.loop0 (L := fun k => B_s_copyMachine_L0 k (F_s_copyInts k)) (B := fun k g => u_s_copyMachine_L0 (B_s_copyMachine_L0b k (F_s_copyInts k) g)) (Q := u_s_copyMachine_L0 Q) (fun _ _ _ => rfl) (u_s_copyMachine_L0 I) (u_s_copyMachine_L0 μ)
    (fun t ht again hag h => step t.1.1 t.1.2.1 t.1.2.2.1 t.1.2.2.2.1 t.2.1.2.2.2.1 t.2.2.1.1 t.2.2.1.2.1 t.2.2.1.2.2.1 t.2.2.1.2.2.2.1 t.2.2.2.1 ht again hag fun y0 y1 y2 y3 y4 y5 y6 y7 y8 y9 => h ((y0, y1, y2, y3, ()), ((), (), (), y4, ()), (y5, y6, y7, y8, ()), y9, ())) ((a0, a1, a2, a3, ()), ((), (), (), a4, ()), (a5, a6, a7, a8, ()), a9, ())
abbrev R_s_push : Type := Option ((((List (Int × Int × List Int)) × List Int × List Int × Bool × Unit) × Unit) × (Unit))
abbrev C_s_push : Type := (List (Int × Int × List Int)) → List Int → List Int → Bool → Int → Int → List Int → R_s_push
def B_s_push (k : Nat) (m_0 : List (Int × Int × List Int)) (m_1 m_2 : List Int) (m_3 : Bool) (n_0 n_1 : Int) (n_2 : List Int) : R_s_push :=
  chk (room m_0.length ([(n_0, (n_1, n_2))]).length) <|
  chk (room m_1.length ([w64 ((len (m_0 ++ [(n_0, (n_1, n_2))])) - 1)]).length) <|
  some ((((m_0 ++ [(n_0, (n_1, n_2))]), (m_1 ++ [w64 ((len (m_0 ++ [(n_0, (n_1, n_2))])) - 1)]), m_2, m_3, ()), ()), ())
def F_s_push : Nat → C_s_push
  | 0, _, _, _, _, _, _, _ => none
  | k + 1, m_0, m_1, m_2, m_3, n_0, n_1, n_2 => B_s_push k m_0 m_1 m_2 m_3 n_0 n_1 n_2
theorem tot_s_push {m_0 m_1 m_2 m_3 n_0 n_1 n_2 : _} {Q : _ → Prop} (h : Tot (fun σ => B_s_push (σ 0) m_0 m_1 m_2 m_3 n_0 n_1 n_2) Q) : Tot (fun σ => F_s_push (σ 0) m_0 m_1 m_2 m_3 n_0 n_1 n_2) Q :=
  Tot.call (F := fun k => F_s_push k m_0 m_1 m_2 m_3 n_0 n_1 n_2) (B := fun k => B_s_push k m_0 m_1 m_2 m_3 n_0 n_1 n_2) (fun k => rfl) h
abbrev R_s_markAt : Type := Option ((Int × Unit) × (Unit))
abbrev C_s_markAt : Type := (List (Int × Int × List Int)) → List Int → List Int → Bool → R_s_markAt
abbrev T_s_markAt_L0 : Type := ((List (Int × Int × List Int)) × List Int × List Int × Bool × Unit) × Int × Unit
def B_s_markAt_L0b (k : Nat) (again0 : T_s_markAt_L0 → R_s_markAt) (m_Nodes : List (Int × Int × List Int)) (m_Stack m_Memo : List Int) (m_Done : Bool) (i : Int) : R_s_markAt :=
  bif decide (i ≥ 0) then
    chk (inb i m_Stack.length) <|
    bif decide ((rdx (0 : Int) m_Stack i) < 0) then
      some ((i, ()), ())
    else
      again0 ((m_Nodes, m_Stack, m_Memo, m_Done, ()), w64 (i - 1), ())
  else
    some (((-1), ()), ())
def B_s_markAt_L0 (k : Nat) (n : Nat) (t : T_s_markAt_L0) : R_s_markAt :=
  lfix n (fun again t => B_s_markAt_L0b k again t.1.1 t.1.2.1 t.1.2.2.1 t.1.2.2.2.1 t.2.1) t
def B_s_markAt (k : Nat) (m_0 : List (Int × Int × List Int)) (m_1 m_2 : List Int) (m_3 : Bool) : R_s_markAt :=
  B_s_markAt_L0 k k ((m_0, m_1, m_2, m_3, ()), w64 ((len m_1) - 1), ())
def F_s_markAt : Nat → C_s_markAt
  | 0, _, _, _, _ => none
  | k + 1, m_0, m_1, m_2, m_3 => B_s_markAt k m_0 m_1 m_2 m_3
theorem tot_s_markAt {m_0 m_1 m_2 m_3 : _} {Q : _ → Prop} (h : Tot (fun σ => B_s_markAt (σ 0) m_0 m_1 m_2 m_3) Q) : Tot (fun σ => F_s_markAt (σ 0) m_0 m_1 m_2 m_3) Q :=
  Tot.call (F := fun k => F_s_markAt k m_0 m_1 m_2 m_3) (B := fun k => B_s_markAt k m_0 m_1 m_2 m_3) (fun k => rfl) h
abbrev A_s_markAt_L0 (Z : Type) : Type := (List (Int × Int × List Int)) → List Int → List Int → Bool → Int → Z
abbrev u_s_markAt_L0 {Z : Type} (f : A_s_markAt_L0 Z) (t : T_s_markAt_L0) : Z := f t.1.1 t.1.2.1 t.1.2.2.1 t.1.2.2.2.1 t.2.1
theorem loop_s_markAt_L0 {Q : A_s_markAt_L0 (((Int × Unit) × (Unit)) → Prop)} (I : A_s_markAt_L0 Prop) (μ : A_s_markAt_L0 Nat)
    (step : ∀ a0 a1 a2 a3 a4, I a0 a1 a2 a3 a4 → ∀ again : (Nat → Nat) → T_s_markAt_L0 → R_s_markAt, Dep 2 again → (∀ y0 y1 y2 y3 y4, I y0 y1 y2 y3 y4 → μ y0 y1 y2 y3 y4 < μ a0 a1 a2 a3 a4 → Tot (fun σ => again σ ((y0, y1, y2, y3, ()), y4, ())) (Q y0 y1 y2 y3 y4)) →
      Tot (fun σ => B_s_markAt_L0b (σ 0) (again σ) a0 a1 a2 a3 a4) (Q a0 a1 a2 a3 a4)) :
    ∀ a0 a1 a2 a3 a4, I a0 a1 a2 a3 a4 → Tot (fun σ => B_s_markAt_L0 (σ 0) (σ 0) ((a0, a1, a2, a3, ()), a4, ())) (Q a0 a1 a2 a3 a4) := fun a0 a1 a2 a3 a4 => Tot.loop0 (L := fun k => B_s_markAt_L0 k) (B := fun k g => u_s_markAt_L0 (B_s_markAt_L0b k g)) (Q := u_s_markAt_L0 Q) (fun _ _ _ => rfl) (u_s_markAt_L0 I) (u_s_markAt_L0 μ)
    (fun t ht again hag h => step t.1.1 t.1.2.1 t.1.2.2.1 t.1.2.2.2.1 t.2.1 ht again hag fun y0 y1 y2 y3 y4 => h ((y0, y1, y2, y3, ()), y4, ())) ((a0, a1, a2, a3, ()), a4, ())
abbrev R_s_drop : Type := Option ((((List (Int × Int × List Int)) × List Int × List Int × Bool × Unit) × Unit) × (Unit))
abbrev C_s_drop : Type := (List (Int × Int × List Int)) → List Int → List Int → Bool → Int → R_s_drop
def B_s_drop (k : Nat) (m_0 : List (Int × Int × List Int)) (m_1 m_2 : List Int) (m_3 : Bool) (many : Int) : R_s_drop :=
  chk (cutb 0 (w64 ((len m_1) - many)) m_1.length) <|
  some (((m_0, (m_1.take ((w64 ((len m_1) - many)).toNat)), m_2, m_3, ()), ()), ())
def F_s_drop : Nat → C_s_drop
  | 0, _, _, _, _, _ => none
  | k + 1, m_0, m_1, m_2, m_3, many => B_s_drop k m_0 m_1 m_2 m_3 many
theorem tot_s_drop {m_0 m_1 m_2 m_3 many : _} {Q : _ → Prop} (h : Tot (fun σ => B_s_drop (σ 0) m_0 m_1 m_2 m_3 many) Q) : Tot (fun σ => F_s_drop (σ 0) m_0 m_1 m_2 m_3 many) Q :=
  Tot.call (F := fun k => F_s_drop k m_0 m_1 m_2 m_3 many) (B := fun k => B_s_drop k m_0 m_1 m_2 m_3 many) (fun k => rfl) h
abbrev R_s_top : Type := Option ((Int × Unit) × (Unit))
abbrev C_s_top : Type := (List (Int × Int × List Int)) → List Int → List Int → Bool → Int → R_s_top
def B_s_top (k : Nat) (m_0 : List (Int × Int × List Int)) (m_1 m_2 : List Int) (m_3 : Bool) (deep : Int) : R_s_top :=
  bif decide ((w64 ((w64 ((len m_1) - 1)) - deep)) < 0) then
    some (((-1), ()), ())
  else
    chk (inb (w64 ((w64 ((len m_1) - 1)) - deep)) m_1.length) <|
    some (((rdx (0 : Int) m_1 (w64 ((w64 ((len m_1) - 1)) - deep))), ()), ())
def F_s_top : Nat → C_s_top
  | 0, _, _, _, _, _ => none
  | k + 1, m_0, m_1, m_2, m_3, deep => B_s_top k m_0 m_1 m_2 m_3 deep
theorem tot_s_top {m_0 m_1 m_2 m_3 deep : _} {Q : _ → Prop} (h : Tot (fun σ => B_s_top (σ 0) m_0 m_1 m_2 m_3 deep) Q) : Tot (fun σ => F_s_top (σ 0) m_0 m_1 m_2 m_3 deep) Q :=
  Tot.call (F := fun k => F_s_top k m_0 m_1 m_2 m_3 deep) (B := fun k => B_s_top k m_0 m_1 m_2 m_3 deep) (fun k => rfl) h
abbrev R_s_kindOf : Type := Option ((Int × Unit) × (Unit))
abbrev C_s_kindOf : Type := (List (Int × Int × List Int)) → List Int → List Int → Bool → Int → R_s_kindOf
def B_s_kindOf (k : Nat) (m_0 : List (Int × Int × List Int)) (m_1 m_2 : List Int) (m_3 : Bool) (at1 : Int) : R_s_kindOf :=
  bif decide (at1 < 0) then
    some (((-1), ()), ())
  else
    chk (inb at1 m_0.length) <|
    some (((rdx ((0 : Int), ((0 : Int), ([] : List Int))) m_0 at1).1, ()), ())
def F_s_kindOf : Nat → C_s_kindOf
  | 0, _, _, _, _, _ => none
  | k + 1, m_0, m_1, m_2, m_3, at1 => B_s_kindOf k m_0 m_1 m_2 m_3 at1
theorem tot_s_kindOf {m_0 m_1 m_2 m_3 at1 : _} {Q : _ → Prop} (h : Tot (fun σ => B_s_kindOf (σ 0) m_0 m_1 m_2 m_3 at1) Q) : Tot (fun σ => F_s_kindOf (σ 0) m_0 m_1 m_2 m_3 at1) Q :=
  Tot.call (F := fun k => F_s_kindOf k m_0 m_1 m_2 m_3 at1) (B := fun k => B_s_kindOf k m_0 m_1 m_2 m_3 at1) (fun k => rfl) h
abbrev R_s_isKey : Type := Option ((Bool × Unit) × (Unit))
abbrev C_s_isKey : Type := Int → Int → R_s_isKey
def B_s_isKey (k : Nat) (n_0 n_1 : Int) : R_s_isKey :=
  bif (n_0 == 0) then
    some ((true, ()), ())
  else
    some (((n_0 == 1), ()), ())
def F_s_isKey : Nat → C_s_isKey
  | 0, _, _ => none
  | k + 1, n_0, n_1 => B_s_isKey k n_0 n_1
theorem tot_s_isKey {n_0 n_1 : _} {Q : _ → Prop} (h : Tot (fun σ => B_s_isKey (σ 0) n_0 n_1) Q) : Tot (fun σ => F_s_isKey (σ 0) n_0 n_1) Q :=
  Tot.call (F := fun k => F_s_isKey k n_0 n_1) (B := fun k => B_s_isKey k n_0 n_1) (fun k => rfl) h
abbrev R_s_goodKeys : Type := Option ((Bool × Unit) × (Unit))
abbrev C_s_goodKeys : Type := (List (Int × Int × List Int)) → List Int → List Int → Bool → List Int → R_s_goodKeys
abbrev T_s_goodKeys_L0 : Type := List Int × ((List (Int × Int × List Int)) × List Int × List Int × Bool × Unit) × Int × Unit
def B_s_goodKeys_L0b (k : Nat) (c_s_isKey : C_s_isKey) (again0 : T_s_goodKeys_L0 → R_s_goodKeys) (list : List Int) (m_Nodes : List (Int × Int × List Int)) (m_Stack m_Memo : List Int) (m_Done : Bool) (i : Int) : R_s_goodKeys :=
  bif decide (i < (len list)) then
    chk (inb i list.length) <|
    chk (inb (rdx (0 : Int) list i) m_Nodes.length) <|
    (c_s_isKey ((rdx ((0 : Int), ((0 : Int), ([] : List Int))) m_Nodes (rdx (0 : Int) list i)).1) (((rdx ((0 : Int), ((0 : Int), ([] : List Int))) m_Nodes (rdx (0 : Int) list i)).2).1)).bind fun r20 =>
    bif (!r20.1.1) then
      some ((false, ()), ())
    else
      again0 (list, (m_Nodes, m_Stack, m_Memo, m_Done, ()), w64 (i + 2), ())
  else
    some (((((len list).tmod 2) == 0), ()), ())
def B_s_goodKeys_L0 (k : Nat) (c_s_isKey : C_s_isKey) (n : Nat) (t : T_s_goodKeys_L0) : R_s_goodKeys :=
  lfix n (fun again t => B_s_goodKeys_L0b k c_s_isKey again t.1 t.2.1.1 t.2.1.2.1 t.2.1.2.2.1 t.2.1.2.2.2.1 t.2.2.1) t
def B_s_goodKeys (k : Nat) (c_s_isKey : C_s_isKey) (m_0 : List (Int × Int × List Int)) (m_1 m_2 : List Int) (m_3 : Bool) (list : List Int) : R_s_goodKeys :=
  B_s_goodKeys_L0 k c_s_isKey k (list, (m_0, m_1, m_2, m_3, ()), 0, ())
def F_s_goodKeys : Nat → C_s_goodKeys
  | 0, _, _, _, _, _ => none
  | k + 1, m_0, m_1, m_2, m_3, list => B_s_goodKeys k (F_s_isKey k) m_0 m_1 m_2 m_3 list
theorem tot_s_goodKeys {m_0 m_1 m_2 m_3 list : _} {Q : _ → Prop} (h : Tot (fun σ => B_s_goodKeys (σ 0) (F_s_isKey (σ 0)) m_0 m_1 m_2 m_3 list) Q) : Tot (fun σ => F_s_goodKeys (σ 0) m_0 m_1 m_2 m_3 list) Q :=
  Tot.call (F := fun k => F_s_goodKeys k m_0 m_1 m_2 m_3 list) (B := fun k => B_s_goodKeys k (F_s_isKey k) m_0 m_1 m_2 m_3 list) (fun k => rfl) h
abbrev A_s_goodKeys_L0 (Z : Type) : Type := List Int → (List (Int × Int × List Int)) → List Int → List Int → Bool → Int → Z
abbrev u_s_goodKeys_L0 {Z : Type} (f : A_s_goodKeys_L0 Z) (t : T_s_goodKeys_L0) : Z := f t.1 t.2.1.1 t.2.1.2.1 t.2.1.2.2.1 t.2.1.2.2.2.1 t.2.2.1
theorem loop_s_goodKeys_L0 {Q : A_s_goodKeys_L0 (((Bool × Unit) × (Unit)) → Prop)} (I : A_s_goodKeys_L0 Prop) (μ : A_s_goodKeys_L0 Nat)
    (step : ∀ a0 a1 a2 a3 a4 a5, I a0 a1 a2 a3 a4 a5 → ∀ again : (Nat → Nat) → T_s_goodKeys_L0 → R_s_goodKeys, Dep 2 again → (∀ y0 y1 y2 y3 y4 y5, I y0 y1 y2 y3 y4 y5 → μ y0 y1 y2 y3 y4 y5 < μ a0 a1 a2 a3 a4 a5 → Tot (fun σ => again σ (y0, (y1, y2, y3, y4, ()), y5, ())) (Q y0 y1 y2 y3 y4 y5)) →
      Tot (fun σ => B_s_goodKeys_L0b (σ 0) (F_s_isKey (σ 0)) (again σ) a0 a1 a2 a3 a4 a5) (Q a0 a1 a2 a3 a4 a5)) :
    ∀ a0 a1 a2 a3 a4 a5, I a0 a1 a2 a3 a4 a5 → Tot (fun σ => B_s_goodKeys_L0 (σ 0) (F_s_isKey (σ 0)) (σ 0) (a0, (a1, a2, a3, a4, ()), a5, ())) (Q a0 a1 a2 a3 a4 a5) := fun a0 a1 a2 a3 a4 a5 => Tot.loop0 (L := fun k => B_s_goodKeys_L0 k (F_s_isKey k)) (B := fun k g => u_s_goodKeys_L0 (B_s_goodKeys_L0b k (F_s_isKey k) g)) (Q := u_s_goodKeys_L0 Q) (fun _ _ _ => rfl) (u_s_goodKeys_L0 I) (u_s_goodKeys_L0 μ)
    (fun t ht again hag h => step t.1 t.2.1.1 t.2.1.2.1 t.2.1.2.2.1 t.2.1.2.2.2.1 t.2.2.1 ht again hag fun y0 y1 y2 y3 y4 y5 => h (y0, (y1, y2, y3, y4, ()), y5, ())) (a0, (a1, a2, a3, a4, ()), a5, ())
abbrev R_s_sameKey : Type := Option ((Bool × Unit) × (Unit))
abbrev C_s_sameKey : Type := Int → Int → Int → Int → R_s_sameKey
def B_s_sameKey (k : Nat) (a_0 a_1 b_0 b_1 : Int) : R_s_sameKey :=
  bif (a_0 == b_0) then
    some (((a_1 == b_1), ()), ())
  else
    some ((false, ()), ())
def F_s_sameKey : Nat → C_s_sameKey
  | 0, _, _, _, _ => none
  | k + 1, a_0, a_1, b_0, b_1 => B_s_sameKey k a_0 a_1 b_0 b_1
theorem tot_s_sameKey {a_0 a_1 b_0 b_1 : _} {Q : _ → Prop} (h : Tot (fun σ => B_s_sameKey (σ 0) a_0 a_1 b_0 b_1) Q) : Tot (fun σ => F_s_sameKey (σ 0) a_0 a_1 b_0 b_1) Q :=
  Tot.call (F := fun k => F_s_sameKey k a_0 a_1 b_0 b_1) (B := fun k => B_s_sameKey k a_0 a_1 b_0 b_1) (fun k => rfl) h
abbrev R_s_putItem : Type := Option ((((List (Int × Int × List Int)) × List Int × List Int × Bool × Unit) × Unit) × (Unit))
abbrev C_s_putItem : Type := (List (Int × Int × List Int)) → List Int → List Int → Bool → Int → Int → Int → R_s_putItem
abbrev T_s_putItem_L0 : Type := Int × Int × Int × (Unit × Unit × Unit × Bool × Unit) × List Int × Int × ((List (Int × Int × List Int) × Nat) × List Int × List Int × Bool × Unit) × Unit
def B_s_putItem_L0b (k : Nat) (c_s_sameKey : C_s_sameKey) (again0 : T_s_putItem_L0 → R_s_putItem) (dict key value : Int) (t8_Done : Bool) (kids : List Int) (i : Int) (m_Nodes : List (Int × Int × List Int) × Nat) (m_Stack m_Memo : List Int) (m_Done : Bool) : R_s_putItem :=
  bif decide (i < (len kids)) then
    chk (inb i kids.length) <|
    chk (decide (i.toNat < kids.length)) <|
    chk (inb (kids.getD i.toNat (0 : Int)) m_Nodes.1.length) <|
    chk (decide ((kids.getD i.toNat (0 : Int)).toNat < m_Nodes.1.length)) <|
    chk (inb key m_Nodes.1.length) <|
    chk (decide (key.toNat < m_Nodes.1.length)) <|
    (c_s_sameKey ((m_Nodes.1.getD ((kids.getD i.toNat (0 : Int)).toNat) ((0 : Int), ((0 : Int), ([] : List Int)))).1) (((m_Nodes.1.getD ((kids.getD i.toNat (0 : Int)).toNat) ((0 : Int), ((0 : Int), ([] : List Int)))).2).1) ((m_Nodes.1.getD key.toNat ((0 : Int), ((0 : Int), ([] : List Int)))).1) (((m_Nodes.1.getD key.toNat ((0 : Int), ((0 : Int), ([] : List Int)))).2).1)).bind fun r36 =>
    bif r36.1.1 then
      chk (inb (w64 (i + 1)) kids.length) <|
      chk (decide ((w64 (i + 1)).toNat < kids.length)) <|
      some ((((m_Nodes.1.set m_Nodes.2 ((m_Nodes.1.getD m_Nodes.2 ((0 : Int), ((0 : Int), ([] : List Int)))).1, (((m_Nodes.1.getD m_Nodes.2 ((0 : Int), ((0 : Int), ([] : List Int)))).2).1, (kids.set ((w64 (i + 1)).toNat) value)))), m_Stack, m_Memo, m_Done, ()), ()), ())
    else
      again0 (dict, key, value, ((), (), (), t8_Done, ()), kids, w64 (i + 2), ((m_Nodes.1, m_Nodes.2), m_Stack, m_Memo, m_Done, ()), ())
  else
    chk (room kids.length ([key, value]).length) <|
    chk (inb dict m_Nodes.1.length) <|
    chk (decide (dict.toNat = m_Nodes.2)) <|
    some ((((m_Nodes.1.set dict.toNat ((m_Nodes.1.getD dict.toNat ((0 : Int), ((0 : Int), ([] : List Int)))).1, (((m_Nodes.1.getD dict.toNat ((0 : Int), ((0 : Int), ([] : List Int)))).2).1, (kids ++ [key, value])))), m_Stack, m_Memo, m_Done, ()), ()), ())
def B_s_putItem_L0 (k : Nat) (c_s_sameKey : C_s_sameKey) (n : Nat) (t : T_s_putItem_L0) : R_s_putItem :=
  lfix n (fun again t => B_s_putItem_L0b k c_s_sameKey again t.1 t.2.1 t.2.2.1 t.2.2.2.1.2.2.2.1 t.2.2.2.2.1 t.2.2.2.2.2.1 t.2.2.2.2.2.2.1.1 t.2.2.2.2.2.2.1.2.1 t.2.2.2.2.2.2.1.2.2.1 t.2.2.2.2.2.2.1.2.2.2.1) t
def B_s_putItem (k : Nat) (c_s_sameKey : C_s_sameKey) (m_0 : List (Int × Int × List Int)) (m_1 m_2 : List Int) (m_3 : Bool) (dict key value : Int) : R_s_putItem :=
  chk (inb dict m_0.length) <|
  chk (decide (dict.toNat < m_0.length)) <|
  B_s_putItem_L0 k c_s_sameKey k (dict, key, value, ((), (), (), false, ()), ((m_0.getD dict.toNat ((0 : Int), ((0 : Int), ([] : List Int)))).2).2, 0, ((m_0, dict.toNat), m_1, m_2, m_3, ()), ())
def F_s_putItem : Nat → C_s_putItem
  | 0, _, _, _, _, _, _, _ => none
  | k + 1, m_0, m_1, m_2, m_3, dict, key, value => B_s_putItem k (F_s_sameKey k) m_0 m_1 m_2 m_3 dict key value
theorem tot_s_putItem {m_0 m_1 m_2 m_3 dict key value : _} {Q : _ → Prop} (h : Tot (fun σ => B_s_putItem (σ 0) (F_s_sameKey (σ 0)) m_0 m_1 m_2 m_3 dict key value) Q) : Tot (fun σ => F_s_putItem (σ 0) m_0 m_1 m_2 m_3 dict key value) Q :=
  Tot.call (F := fun k => F_s_putItem k m_0 m_1 m_2 m_3 dict key value) (B := fun k => B_s_putItem k (F_s_sameKey k) m_0 m_1 m_2 m_3 dict key value) (fun k => rfl) h
abbrev A_s_putItem_L0 (Z : Type) : Type := Int → Int → Int → Bool → List Int → Int → (List (Int × Int × List Int) × Nat) → List Int → List Int → Bool → Z
abbrev u_s_putItem_L0 {Z : Type} (f : A_s_putItem_L0 Z) (t : T_s_putItem_L0) : Z := f t.1 t.2.1 t.2.2.1 t.2.2.2.1.2.2.2.1 t.2.2.2.2.1 t.2.2.2.2.2.1 t.2.2.2.2.2.2.1.1 t.2.2.2.2.2.2.1.2.1 t.2.2.2.2.2.2.1.2.2.1 t.2.2.2.2.2.2.1.2.2.2.1
theorem loop_s_putItem_L0 {Q : A_s_putItem_L0 (((((List (Int × Int × List Int)) × List Int × List Int × Bool × Unit) × Unit) × (Unit)) → Prop)} (I : A_s_putItem_L0 Prop) (μ : A_s_putItem_L0 Nat)
    (step : ∀ a0 a1 a2 a3 a4 a5 a6 a7 a8 a9, I a0 a1 a2 a3 a4 a5 a6 a7 a8 a9 → ∀ again : (Nat → Nat) → T_s_putItem_L0 → R_s_putItem, Dep 2 again → (∀ y0 y1 y2 y3 y4 y5 y6 y7 y8 y9, I y0 y1 y2 y3 y4 y5 y6 y7 y8 y9 → μ y0 y1 y2 y3 y4 y5 y6 y7 y8 y9 < μ a0 a1 a2 a3 a4 a5 a6 a7 a8 a9 → Tot (fun σ => again σ (y0, y1, y2, ((), (), (), y3, ()), y4, y5, (y6, y7, y8, y9, ()), ())) (Q y0 y1 y2 y3 y4 y5 y6 y7 y8 y9)) →
      Tot (fun σ => B_s_putItem_L0b (σ 0) (F_s_sameKey (σ 0)) (again σ) a0 a1 a2 a3 a4 a5 a6 a7 a8 a9) (Q a0 a1 a2 a3 a4 a5 a6 a7 a8 a9)) :
    ∀ a0 a1 a2 a3 a4 a5 a6 a7 a8 a9, I a0 a1 a2 a3 a4 a5 a6 a7 a8 a9 → Tot (fun σ => B_s_putItem_L0 (σ 0) (F_s_sameKey (σ 0)) (σ 0) (a0, a1, a2, ((), (), (), a3, ()), a4, a5, (a6, a7, a8, a9, ()), ())) (Q a0 a1 a2 a3 a4 a5 a6 a7 a8 a9) := fun a0 a1 a2 a3 a4 a5 a6 a7 a8 a9 => Tot.loop0 (L := fun k => B_s_putItem_L0 k (F_s_sameKey k)) (B := fun k g => u_s_putItem_L0 (B_s_putItem_L0b k (F_s_sameKey k) g)) (Q := u_s_putItem_L0 Q) (fun _ _ _ => rfl) (u_s_putItem_L0 I) (u_s_putItem_L0 μ)
    (fun t ht again hag h => step t.1 t.2.1 t.2.2.1 t.2.2.2.1.2.2.2.1 t.2.2.2.2.1 t.2.2.2.2.2.1 t.2.2.2.2.2.2.1.1 t.2.2.2.2.2.2.1.2.1 t.2.2.2.2.2.2.1.2.2.1 t.2.2.2.2.2.2.1.2.2.2.1 ht again hag fun y0 y1 y2 y3 y4 y5 y6 y7 y8 y9 => h (y0, y1, y2, ((), (), (), y3, ()), y4, y5, (y6, y7, y8, y9, ()), ())) (a0, a1, a2, ((), (), (), a3, ()), a4, a5, (a6, a7, a8, a9, ()), ())
abbrev R_s_stepMark : Type := Option ((((List (Int × Int × List Int)) × List Int × List Int × Bool × Unit) × Bool × Unit) × (Unit))
abbrev C_s_stepMark : Type := (List (Int × Int × List Int)) → List Int → List Int → Bool → Int → Int → R_s_stepMark
abbrev T_s_stepMark_L1 : Type := ((List (Int × Int × List Int)) × List Int × List Int × Bool × Unit) × (Unit × Unit × Unit × Bool × Unit) × List Int × Int × Int × Unit
def B_s_stepMark_J2 (k : Nat) (c_s_markAt : C_s_markAt) (c_s_copyInts : C_s_copyInts) (c_s_drop : C_s_drop) (c_s_top : C_s_top) (c_s_push : C_s_push) (c_s_kindOf : C_s_kindOf) (c_s_goodKeys : C_s_goodKeys) (c_s_putItem : C_s_putItem) (m_Nodes : List (Int × Int × List Int)) (m_Stack m_Memo : List Int) (m_Done t4_Done : Bool) : R_s_stepMark :=
  some (((m_Nodes, m_Stack, m_Memo, m_Done, ()), true, ()), ())
def B_s_stepMark_L1b (k : Nat) (c_s_markAt : C_s_markAt) (c_s_copyInts : C_s_copyInts) (c_s_drop : C_s_drop) (c_s_top : C_s_top) (c_s_push : C_s_push) (c_s_kindOf : C_s_kindOf) (c_s_goodKeys : C_s_goodKeys) (c_s_putItem : C_s_putItem) (again1 : T_s_stepMark_L1 → R_s_stepMark) (m_Nodes : List (Int × Int × List Int)) (m_Stack m_Memo : List Int) (m_Done t4_Done : Bool) (list : List Int) (below i : Int) : R_s_stepMark :=
  bif decide (i < (len list)) then
    chk (inb i list.length) <|
    chk (decide (i.toNat < list.length)) <|
    chk (inb (w64 (i + 1)) list.length) <|
    chk (decide ((w64 (i + 1)).toNat < list.length)) <|
    (c_s_putItem m_Nodes m_Stack m_Memo m_Done below (list.getD i.toNat (0 : Int)) (list.getD ((w64 (i + 1)).toNat) (0 : Int))).bind fun r86 =>
    again1 ((r86.1.1.1, r86.1.1.2.1, r86.1.1.2.2.1, r86.1.1.2.2.2.1, ()), ((), (), (), t4_Done, ()), list, below, w64 (i + 2), ())
  else
    jn (fun t => B_s_stepMark_J2 k c_s_markAt c_s_copyInts c_s_drop c_s_top c_s_push c_s_kindOf c_s_goodKeys c_s_putItem t.1.1 t.1.2.1 t.1.2.2.1 t.1.2.2.2.1 t.2.1.2.2.2.1) ((m_Nodes, m_Stack, m_Memo, m_Done, ()), ((), (), (), t4_Done, ()), ())
def B_s_stepMark_L1 (k : Nat) (c_s_markAt : C_s_markAt) (c_s_copyInts : C_s_copyInts) (c_s_drop : C_s_drop) (c_s_top : C_s_top) (c_s_push : C_s_push) (c_s_kindOf : C_s_kindOf) (c_s_goodKeys : C_s_goodKeys) (c_s_putItem : C_s_putItem) (n : Nat) (t : T_s_stepMark_L1) : R_s_stepMark :=
  lfix n (fun again t => B_s_stepMark_L1b k c_s_markAt c_s_copyInts c_s_drop c_s_top c_s_push c_s_kindOf c_s_goodKeys c_s_putItem again t.1.1 t.1.2.1 t.1.2.2.1 t.1.2.2.2.1 t.2.1.2.2.2.1 t.2.2.1 t.2.2.2.1 t.2.2.2.2.1) t
def B_s_stepMark_J0 (k : Nat) (c_s_markAt : C_s_markAt) (c_s_copyInts : C_s_copyInts) (c_s_drop : C_s_drop) (c_s_top : C_s_top) (c_s_push : C_s_push) (c_s_kindOf : C_s_kindOf) (c_s_goodKeys : C_s_goodKeys) (c_s_putItem : C_s_putItem) (m_Nodes : List (Int × Int × List Int)) (m_Stack m_Memo : List Int) (m_Done t4_Done : Bool) (list : List Int) (below : Int) (t67 : Bool) : R_s_stepMark :=
  bif t67 then
    some (((m_Nodes, m_Stack, m_Memo, m_Done, ()), false, ()), ())
  else
    B_s_stepMark_L1 k c_s_markAt c_s_copyInts c_s_drop c_s_top c_s_push c_s_kindOf c_s_goodKeys c_s_putItem k ((m_Nodes, m_Stack, m_Memo, m_Done, ()), ((), (), (), t4_Done, ()), list, below, 0, ())
def B_s_stepMark (k : Nat) (c_s_markAt : C_s_markAt) (c_s_copyInts : C_s_copyInts) (c_s_drop : C_s_drop) (c_s_top : C_s_top) (c_s_push : C_s_push) (c_s_kindOf : C_s_kindOf) (c_s_goodKeys : C_s_goodKeys) (c_s_putItem : C_s_putItem) (m_0 : List (Int × Int × List Int)) (m_1 m_2 : List Int) (m_3 : Bool) (o_0 o_1 : Int) : R_s_stepMark :=
  (c_s_markAt m_0 m_1 m_2 m_3).bind fun r11 =>
  bif decide (r11.1.1 < 0) then
    some (((m_0, m_1, m_2, m_3, ()), false, ()), ())
  else
    chk (cutb (w64 (r11.1.1 + 1)) (len m_1) m_1.length) <|
    (c_s_copyInts ((m_1.take ((len m_1).toNat)).drop ((w64 (r11.1.1 + 1)).toNat))).bind fun r20 =>
    (c_s_drop m_0 m_1 m_2 m_3 (w64 ((len r20.1.1) + 1))).bind fun r25 =>
    (c_s_top r25.1.1.1 r25.1.1.2.1 r25.1.1.2.2.1 r25.1.1.2.2.2.1 0).bind fun r27 =>
    bif (o_0 == 3) then
      (c_s_push r25.1.1.1 r25.1.1.2.1 r25.1.1.2.2.1 r25.1.1.2.2.2.1 2 0 r20.1.1).bind fun r35 =>
      some (((r35.1.1.1, r35.1.1.2.1, r35.1.1.2.2.1, r35.1.1.2.2.2.1, ()), true, ()), ())
    else
      bif (o_0 == 9) then
        (c_s_kindOf r25.1.1.1 r25.1.1.2.1 r25.1.1.2.2.1 r25.1.1.2.2.2.1 r27.1.1).bind fun r40 =>
        bif (r40.1.1 != 3) then
          some (((r25.1.1.1, r25.1.1.2.1, r25.1.1.2.2.1, r25.1.1.2.2.2.1, ()), false, ()), ())
        else
          chk (inb r27.1.1 r25.1.1.1.length) <|
          chk (decide (r27.1.1.toNat < r25.1.1.1.length)) <|
          chk (room (((r25.1.1.1.getD r27.1.1.toNat ((0 : Int), ((0 : Int), ([] : List Int)))).2).2).length r20.1.1.length) <|
          chk (inb r27.1.1 r25.1.1.1.length) <|
          chk (decide (r27.1.1.toNat = r27.1.1.toNat)) <|
          let w1 : List (Int × Int × List Int) := (r25.1.1.1.set r27.1.1.toNat ((r25.1.1.1.getD r27.1.1.toNat ((0 : Int), ((0 : Int), ([] : List Int)))).1, (((r25.1.1.1.getD r27.1.1.toNat ((0 : Int), ((0 : Int), ([] : List Int)))).2).1, (((r25.1.1.1.getD r27.1.1.toNat ((0 : Int), ((0 : Int), ([] : List Int)))).2).2 ++ r20.1.1))))
          jn (fun t => B_s_stepMark_J2 k c_s_markAt c_s_copyInts c_s_drop c_s_top c_s_push c_s_kindOf c_s_goodKeys c_s_putItem t.1.1 t.1.2.1 t.1.2.2.1 t.1.2.2.2.1 t.2.1.2.2.2.1) ((w1, r25.1.1.2.1, r25.1.1.2.2.1, r25.1.1.2.2.2.1, ()), ((), (), (), false, ()), ())
      else
        bif (o_0 == 12) then
          (c_s_kindOf r25.1.1.1 r25.1.1.2.1 r25.1.1.2.2.1 r25.1.1.2.2.2.1 r27.1.1).bind fun r60 =>
          bif (r60.1.1 != 4) then
            jn (fun t => B_s_stepMark_J0 k c_s_markAt c_s_copyInts c_s_drop c_s_top c_s_push c_s_kindOf c_s_goodKeys c_s_putItem t.1.1 t.1.2.1 t.1.2.2.1 t.1.2.2.2.1 t.2.1.2.2.2.1 t.2.2.1 t.2.2.2.1 t.2.2.2.2.1) ((r25.1.1.1, r25.1.1.2.1, r25.1.1.2.2.1, r25.1.1.2.2.2.1, ()), ((), (), (), false, ()), r20.1.1, r27.1.1, true, ())
          else
            (c_s_goodKeys r25.1.1.1 r25.1.1.2.1 r25.1.1.2.2.1 r25.1.1.2.2.2.1 r20.1.1).bind fun r65 =>
            jn (fun t => B_s_stepMark_J0 k c_s_markAt c_s_copyInts c_s_drop c_s_top c_s_push c_s_kindOf c_s_goodKeys c_s_putItem t.1.1 t.1.2.1 t.1.2.2.1 t.1.2.2.2.1 t.2.1.2.2.2.1 t.2.2.1 t.2.2.2.1 t.2.2.2.2.1) ((r25.1.1.1, r25.1.1.2.1, r25.1.1.2.2.1, r25.1.1.2.2.2.1, ()), ((), (), (), false, ()), r20.1.1, r27.1.1, (!r65.1.1), ())
        else
          jn (fun t => B_s_stepMark_J2 k c_s_markAt c_s_copyInts c_s_drop c_s_top c_s_push c_s_kindOf c_s_goodKeys c_s_putItem t.1.1 t.1.2.1 t.1.2.2.1 t.1.2.2.2.1 t.2.1.2.2.2.1) ((r25.1.1.1, r25.1.1.2.1, r25.1.1.2.2.1, r25.1.1.2.2.2.1, ()), ((), (), (), false, ()), ())
def F_s_stepMark : Nat → C_s_stepMark
  | 0, _, _, _, _, _, _ => none
  | k + 1, m_0, m_1, m_2, m_3, o_0, o_1 => B_s_stepMark k (F_s_markAt k) (F_s_copyInts k) (F_s_drop k) (F_s_top k) (F_s_push k) (F_s_kindOf k) (F_s_goodKeys k) (F_s_putItem k) m_0 m_1 m_2 m_3 o_0 o_1
theorem tot_s_stepMark {m_0 m_1 m_2 m_3 o_0 o_1 : _} {Q : _ → Prop} (h : Tot (fun σ => B_s_stepMark (σ 0) (F_s_markAt (σ 0)) (F_s_copyInts (σ 0)) (F_s_drop (σ 0)) (F_s_top (σ 0)) (F_s_push (σ 0)) (F_s_kindOf (σ 0)) (F_s_goodKeys (σ 0)) (F_s_putItem (σ 0)) m_0 m_1 m_2 m_3 o_0 o_1) Q) : Tot (fun σ => F_s_stepMark (σ 0) m_0 m_1 m_2 m_3 o_0 o_1) Q :=
  Tot.call (F := fun k => F_s_stepMark k m_0 m_1 m_2 m_3 o_0 o_1) (B := fun k => B_s_stepMark k (F_s_markAt k) (F_s_copyInts k) (F_s_drop k) (F_s_top k) (F_s_push k) (F_s_kindOf k) (F_s_goodKeys k) (F_s_putItem k) m_0 m_1 m_2 m_3 o_0 o_1) (fun k => rfl) h
abbrev A_s_stepMark_L1 (Z : Type) : Type := (List (Int × Int × List Int)) → List Int → List Int → Bool → Bool → List Int → Int → Int → Z
abbrev u_s_stepMark_L1 {Z : Type} (f : A_s_stepMark_L1 Z) (t : T_s_stepMark_L1) : Z := f t.1.1 t.1.2.1 t.1.2.2.1 t.1.2.2.2.1 t.2.1.2.2.2.1 t.2.2.1 t.2.2.2.1 t.2.2.2.2.1
theorem loop_s_stepMark_L1 {Q : A_s_stepMark_L1 (((((List (Int × Int × List Int)) × List Int × List Int × Bool × Unit) × Bool × Unit) × (Unit)) → Prop)} (I : A_s_stepMark_L1 Prop) (μ : A_s_stepMark_L1 Nat)
    (step : ∀ a0 a1 a2 a3 a4 a5 a6 a7, I a0 a1 a2 a3 a4 a5 a6 a7 → ∀ again : (Nat → Nat) → T_s_stepMark_L1 → R_s_stepMark, Dep 2 again → (∀ y0 y1 y2 y3 y4 y5 y6 y7, I y0 y1 y2 y3 y4 y5 y6 y7 → μ y0 y1 y2 y3 y4 y5 y6 y7 < μ a0 a1 a2 a3 a4 a5 a6 a7 → Tot (fun σ => again σ ((y0, y1, y2, y3, ()), ((), (), (), y4, ()), y5, y6, y7, ())) (Q y0 y1 y2 y3 y4 y5 y6 y7)) →
      Tot (fun σ => B_s_stepMark_L1b (σ 0) (F_s_markAt (σ 0)) (F_s_copyInts (σ 0)) (F_s_drop (σ 0)) (F_s_top (σ 0)) (F_s_push (σ 0)) (F_s_kindOf (σ 0)) (F_s_goodKeys (σ 0)) (F_s_putItem (σ 0)) (again σ) a0 a1 a2 a3 a4 a5 a6 a7) (Q a0 a1 a2 a3 a4 a5 a6 a7)) :
    ∀ a0 a1 a2 a3 a4 a5 a6 a7, I a0 a1 a2 a3 a4 a5 a6 a7 → Tot (fun σ => B_s_stepMark_L1 (σ 0) (F_s_markAt (σ 0)) (F_s_copyInts (σ 0)) (F_s_drop (σ 0)) (F_s_top (σ 0)) (F_s_push (σ 0)) (F_s_kindOf (σ 0)) (F_s_goodKeys (σ 0)) (F_s_putItem (σ 0)) (σ 0) ((a0, a1, a2, a3, ()), ((), (), (), a4, ()), a5, a6, a7, ())) (Q a0 a1 a2 a3 a4 a5 a6 a7) := fun a0 a1 a2 a3 a4 a5 a6 a7 => Tot.loop0 (L := fun k => B_s_stepMark_L1 k (F_s_markAt k) (F_s_copyInts k) (F_s_drop k) (F_s_top k) (F_s_push k) (F_s_kindOf k) (F_s_goodKeys k) (F_s_putItem k)) (B := fun k g => u_s_stepMark_L1 (B_s_stepMark_L1b k (F_s_markAt k) (F_s_copyInts k) (F_s_drop k) (F_s_top k) (F_s_push k) (F_s_kindOf k) (F_s_goodKeys k) (F_s_putItem k) g)) (Q := u_s_stepMark_L1 Q) (fun _ _ _ => rfl) (u_s_stepMark_L1 I) (u_s_stepMark_L1 μ)
    (fun t ht again hag h => step t.1.1 t.1.2.1 t.1.2.2.1 t.1.2.2.2.1 t.2.1.2.2.2.1 t.2.2.1 t.2.2.2.1 t.2.2.2.2.1 ht again hag fun y0 y1 y2 y3 y4 y5 y6 y7 => h ((y0, y1, y2, y3, ()), ((), (), (), y4, ()), y5, y6, y7, ())) ((a0, a1, a2, a3, ()), ((), (), (), a4, ()), a5, a6, a7, ())
abbrev R_s_stepTop : Type := Option ((((List (Int × Int × List Int)) × List Int × List Int × Bool × Unit) × Bool × Unit) × (Unit))
abbrev C_s_stepTop : Type := (List (Int × Int × List Int)) → List Int → List Int → Bool → Int → Int → R_s_stepTop
def B_s_stepTop_J0 (k : Nat) (c_s_top : C_s_top) (c_s_drop : C_s_drop) (c_s_push : C_s_push) (c_s_kindOf : C_s_kindOf) (c_s_isKey : C_s_isKey) (c_s_putItem : C_s_putItem) (m_Nodes : List (Int × Int × List Int)) (m_Stack m_Memo : List Int) (m_Done t4_Done : Bool) (a b c : Int) (t81 : Bool) : R_s_stepTop :=
  bif t81 then
    some (((m_Nodes, m_Stack, m_Memo, m_Done, ()), false, ()), ())
  else
    (c_s_putItem m_Nodes m_Stack m_Memo m_Done c b a).bind fun r87 =>
    (c_s_drop r87.1.1.1 r87.1.1.2.1 r87.1.1.2.2.1 r87.1.1.2.2.2.1 2).bind fun r88 =>
    some (((r88.1.1.1, r88.1.1.2.1, r88.1.1.2.2.1, r88.1.1.2.2.2.1, ()), true, ()), ())
def B_s_stepTop_J1 (k : Nat) (c_s_top : C_s_top) (c_s_drop : C_s_drop) (c_s_push : C_s_push) (c_s_kindOf : C_s_kindOf) (c_s_isKey : C_s_isKey) (c_s_putItem : C_s_putItem) (m_Nodes : List (Int × Int × List Int)) (m_Stack m_Memo : List Int) (m_Done t4_Done : Bool) (a b : Int) (t104 : Bool) : R_s_stepTop :=
  bif t104 then
    some (((m_Nodes, m_Stack, m_Memo, m_Done, ()), false, ()), ())
  else
    chk (inb b m_Nodes.length) <|
    chk (decide (b.toNat < m_Nodes.length)) <|
    (c_s_drop (m_Nodes.set b.toNat ((m_Nodes.getD b.toNat ((0 : Int), ((0 : Int), ([] : List Int)))).1, (((m_Nodes.getD b.toNat ((0 : Int), ((0 : Int), ([] : List Int)))).2).1, [a]))) m_Stack m_Memo m_Done 1).bind fun r114 =>
    some (((r114.1.1.1, r114.1.1.2.1, r114.1.1.2.2.1, r114.1.1.2.2.2.1, ()), true, ()), ())
def B_s_stepTop (k : Nat) (c_s_top : C_s_top) (c_s_drop : C_s_drop) (c_s_push : C_s_push) (c_s_kindOf : C_s_kindOf) (c_s_isKey : C_s_isKey) (c_s_putItem : C_s_putItem) (m_0 : List (Int × Int × List Int)) (m_1 m_2 : List Int) (m_3 : Bool) (o_0 o_1 : Int) : R_s_stepTop :=
  (c_s_top m_0 m_1 m_2 m_3 0).bind fun r10 =>
  (c_s_top m_0 m_1 m_2 m_3 1).bind fun r12 =>
  (c_s_top m_0 m_1 m_2 m_3 2).bind fun r14 =>
  bif decide (r10.1.1 < 0) then
    some (((m_0, m_1, m_2, m_3, ()), false, ()), ())
  else
    bif (o_0 == 5) then
      (c_s_drop m_0 m_1 m_2 m_3 1).bind fun r23 =>
      (c_s_push r23.1.1.1 r23.1.1.2.1 r23.1.1.2.2.1 r23.1.1.2.2.2.1 2 0 ([r10.1.1])).bind fun r27 =>
      some (((r27.1.1.1, r27.1.1.2.1, r27.1.1.2.2.1, r27.1.1.2.2.2.1, ()), true, ()), ())
    else
      bif (o_0 == 6) then
        bif decide (r12.1.1 < 0) then
          some (((m_0, m_1, m_2, m_3, ()), false, ()), ())
        else
          (c_s_drop m_0 m_1 m_2 m_3 2).bind fun r34 =>
          (c_s_push r34.1.1.1 r34.1.1.2.1 r34.1.1.2.2.1 r34.1.1.2.2.2.1 2 0 ([r12.1.1, r10.1.1])).bind fun r39 =>
          some (((r39.1.1.1, r39.1.1.2.1, r39.1.1.2.2.1, r39.1.1.2.2.2.1, ()), true, ()), ())
      else
        bif (o_0 == 8) then
          (c_s_kindOf m_0 m_1 m_2 m_3 r12.1.1).bind fun r44 =>
          bif (r44.1.1 != 3) then
            some (((m_0, m_1, m_2, m_3, ()), false, ()), ())
          else
            chk (inb r12.1.1 m_0.length) <|
            chk (decide (r12.1.1.toNat < m_0.length)) <|
            chk (room (((m_0.getD r12.1.1.toNat ((0 : Int), ((0 : Int), ([] : List Int)))).2).2).length ([r10.1.1]).length) <|
            chk (inb r12.1.1 m_0.length) <|
            chk (decide (r12.1.1.toNat = r12.1.1.toNat)) <|
            let w0 : List (Int × Int × List Int) := (m_0.set r12.1.1.toNat ((m_0.getD r12.1.1.toNat ((0 : Int), ((0 : Int), ([] : List Int)))).1, (((m_0.getD r12.1.1.toNat ((0 : Int), ((0 : Int), ([] : List Int)))).2).1, (((m_0.getD r12.1.1.toNat ((0 : Int), ((0 : Int), ([] : List Int)))).2).2 ++ [r10.1.1]))))
            (c_s_drop w0 m_1 m_2 m_3 1).bind fun r62 =>
            some (((r62.1.1.1, r62.1.1.2.1, r62.1.1.2.2.1, r62.1.1.2.2.2.1, ()), true, ()), ())
        else
          bif (o_0 == 11) then
            bif decide (r12.1.1 < 0) then
              jn (fun t => B_s_stepTop_J0 k c_s_top c_s_drop c_s_push c_s_kindOf c_s_isKey c_s_putItem t.1.1 t.1.2.1 t.1.2.2.1 t.1.2.2.2.1 t.2.1.2.2.2.1 t.2.2.1 t.2.2.2.1 t.2.2.2.2.1 t.2.2.2.2.2.1) ((m_0, m_1, m_2, m_3, ()), ((), (), (), false, ()), r10.1.1, r12.1.1, r14.1.1, true, ())
            else
              (c_s_kindOf m_0 m_1 m_2 m_3 r14.1.1).bind fun r70 =>
              bif (r70.1.1 != 4) then
                jn (fun t => B_s_stepTop_J0 k c_s_top c_s_drop c_s_push c_s_kindOf c_s_isKey c_s_putItem t.1.1 t.1.2.1 t.1.2.2.1 t.1.2.2.2.1 t.2.1.2.2.2.1 t.2.2.1 t.2.2.2.1 t.2.2.2.2.1 t.2.2.2.2.2.1) ((m_0, m_1, m_2, m_3, ()), ((), (), (), false, ()), r10.1.1, r12.1.1, r14.1.1, true, ())
              else
                chk (inb r12.1.1 m_0.length) <|
                chk (decide (r12.1.1.toNat < m_0.length)) <|
                (c_s_isKey ((m_0.getD r12.1.1.toNat ((0 : Int), ((0 : Int), ([] : List Int)))).1) (((m_0.getD r12.1.1.toNat ((0 : Int), ((0 : Int), ([] : List Int)))).2).1)).bind fun r79 =>
                jn (fun t => B_s_stepTop_J0 k c_s_top c_s_drop c_s_push c_s_kindOf c_s_isKey c_s_putItem t.1.1 t.1.2.1 t.1.2.2.1 t.1.2.2.2.1 t.2.1.2.2.2.1 t.2.2.1 t.2.2.2.1 t.2.2.2.2.1 t.2.2.2.2.2.1) ((m_0, m_1, m_2, m_3, ()), ((), (), (), false, ()), r10.1.1, r12.1.1, r14.1.1, (!r79.1.1), ())
          else
            bif (o_0 == 14) then
              (c_s_kindOf m_0 m_1 m_2 m_3 r12.1.1).bind fun r93 =>
              bif (r93.1.1 != 5) then
                jn (fun t => B_s_stepTop_J1 k c_s_top c_s_drop c_s_push c_s_kindOf c_s_isKey c_s_putItem t.1.1 t.1.2.1 t.1.2.2.1 t.1.2.2.2.1 t.2.1.2.2.2.1 t.2.2.1 t.2.2.2.1 t.2.2.2.2.1) ((m_0, m_1, m_2, m_3, ()), ((), (), (), false, ()), r10.1.1, r12.1.1, true, ())
              else
                chk (inb r12.1.1 m_0.length) <|
                chk (decide (r12.1.1.toNat < m_0.length)) <|
                let v103 : Bool := decide ((len (((m_0.getD r12.1.1.toNat ((0 : Int), ((0 : Int), ([] : List Int)))).2).2)) > 0)
                let w2 : List (Int × Int × List Int) := (m_0.set r12.1.1.toNat ((m_0.getD r12.1.1.toNat ((0 : Int), ((0 : Int), ([] : List Int)))).1, (((m_0.getD r12.1.1.toNat ((0 : Int), ((0 : Int), ([] : List Int)))).2).1, ((m_0.getD r12.1.1.toNat ((0 : Int), ((0 : Int), ([] : List Int)))).2).2)))
                jn (fun t => B_s_stepTop_J1 k c_s_top c_s_drop c_s_push c_s_kindOf c_s_isKey c_s_putItem t.1.1 t.1.2.1 t.1.2.2.1 t.1.2.2.2.1 t.2.1.2.2.2.1 t.2.2.1 t.2.2.2.1 t.2.2.2.2.1) ((w2, m_1, m_2, m_3, ()), ((), (), (), false, ()), r10.1.1, r12.1.1, v103, ())
            else
              bif (o_0 == 15) then
                chk (inb o_1 m_2.length) <|
                chk (decide (o_1.toNat < m_2.length)) <|
                some (((m_0, m_1, (m_2.set o_1.toNat r10.1.1), m_3, ()), true, ()), ())
              else
                bif (o_0 == 17) then
                  (c_s_drop m_0 m_1 m_2 m_3 1).bind fun r127 =>
                  some (((r127.1.1.1, r127.1.1.2.1, r127.1.1.2.2.1, r127.1.1.2.2.2.1, ()), true, ()), ())
                else
                  some (((m_0, m_1, m_2, true, ()), ((len m_1) == 1), ()), ())
def F_s_stepTop : Nat → C_s_stepTop
  | 0, _, _, _, _, _, _ => none
  | k + 1, m_0, m_1, m_2, m_3, o_0, o_1 => B_s_stepTop k (F_s_top k) (F_s_drop k) (F_s_push k) (F_s_kindOf k) (F_s_isKey k) (F_s_putItem k) m_0 m_1 m_2 m_3 o_0 o_1
theorem tot_s_stepTop {m_0 m_1 m_2 m_3 o_0 o_1 : _} {Q : _ → Prop} (h : Tot (fun σ => B_s_stepTop (σ 0) (F_s_top (σ 0)) (F_s_drop (σ 0)) (F_s_push (σ 0)) (F_s_kindOf (σ 0)) (F_s_isKey (σ 0)) (F_s_putItem (σ 0)) m_0 m_1 m_2 m_3 o_0 o_1) Q) : Tot (fun σ => F_s_stepTop (σ 0) m_0 m_1 m_2 m_3 o_0 o_1) Q :=
  Tot.call (F := fun k => F_s_stepTop k m_0 m_1 m_2 m_3 o_0 o_1) (B := fun k => B_s_stepTop k (F_s_top k) (F_s_drop k) (F_s_push k) (F_s_kindOf k) (F_s_isKey k) (F_s_putItem k) m_0 m_1 m_2 m_3 o_0 o_1) (fun k => rfl) h
abbrev R_s_step : Type := Option ((((Option (List (Int × Int × List Int))) × Option (List Int) × Option (List Int) × Bool × Unit) × Bool × Unit) × (Unit))
abbrev C_s_step : Type := (List (Int × Int × List Int)) → List Int → List Int → Bool → Int → Int → R_s_step
def B_s_step_J1 (k : Nat) (c_s_push : C_s_push) (c_s_stepMark : C_s_stepMark) (c_s_stepTop : C_s_stepTop) (m_Nodes : List (Int × Int × List Int)) (m_Stack m_Memo : List Int) (m_Done t4_Done : Bool) : R_s_step :=
  bif decide ((len m_Nodes) ≤ 300) then
    some ((((some m_Nodes), (some m_Stack), (some m_Memo), m_Done, ()), decide ((len m_Stack) ≤ 300), ()), ())
  else
    some ((((some m_Nodes), (some m_Stack), (some m_Memo), m_Done, ()), false, ()), ())
def B_s_step_J0 (k : Nat) (c_s_push : C_s_push) (c_s_stepMark : C_s_stepMark) (c_s_stepTop : C_s_stepTop) (m_Nodes : List (Int × Int × List Int)) (m_Stack m_Memo : List Int) (m_Done : Bool) (o_Code o_Arg : Int) (t4_Done t89 : Bool) : R_s_step :=
  bif t89 then
    (c_s_stepMark m_Nodes m_Stack m_Memo m_Done o_Code o_Arg).bind fun r97 =>
    bif (!r97.1.2.1) then
      some (((none, none, none, m_Done, ()), false, ()), ())
    else
      jn (fun t => B_s_step_J1 k c_s_push c_s_stepMark c_s_stepTop t.1.1 t.1.2.1 t.1.2.2.1 t.1.2.2.2.1 t.2.1.2.2.2.1) ((r97.1.1.1, r97.1.1.2.1, r97.1.1.2.2.1, r97.1.1.2.2.2.1, ()), ((), (), (), t4_Done, ()), ())
  else
    (c_s_stepTop m_Nodes m_Stack m_Memo m_Done o_Code o_Arg).bind fun r18 =>
    bif (!r18.1.2.1) then
      some (((none, none, none, m_Done, ()), false, ()), ())
    else
      jn (fun t => B_s_step_J1 k c_s_push c_s_stepMark c_s_stepTop t.1.1 t.1.2.1 t.1.2.2.1 t.1.2.2.2.1 t.2.1.2.2.2.1) ((r18.1.1.1, r18.1.1.2.1, r18.1.1.2.2.1, r18.1.1.2.2.2.1, ()), ((), (), (), t4_Done, ()), ())
def B_s_step (k : Nat) (c_s_push : C_s_push) (c_s_stepMark : C_s_stepMark) (c_s_stepTop : C_s_stepTop) (m_0 : List (Int × Int × List Int)) (m_1 m_2 : List Int) (m_3 : Bool) (o_0 o_1 : Int) : R_s_step :=
  bif m_3 then
    some ((((some m_0), (some m_1), (some m_2), m_3, ()), false, ()), ())
  else
    bif (o_0 == 0) then
      (c_s_push m_0 m_1 m_2 m_3 0 o_1 ([])).bind fun r31 =>
      jn (fun t => B_s_step_J1 k c_s_push c_s_stepMark c_s_stepTop t.1.1 t.1.2.1 t.1.2.2.1 t.1.2.2.2.1 t.2.1.2.2.2.1) ((r31.1.1.1, r31.1.1.2.1, r31.1.1.2.2.1, r31.1.1.2.2.2.1, ()), ((), (), (), false, ()), ())
    else
      bif (o_0 == 1) then
        (c_s_push m_0 m_1 m_2 m_3 1 o_1 ([])).bind fun r38 =>
        jn (fun t => B_s_step_J1 k c_s_push c_s_stepMark c_s_stepTop t.1.1 t.1.2.1 t.1.2.2.1 t.1.2.2.2.1 t.2.1.2.2.2.1) ((r38.1.1.1, r38.1.1.2.1, r38.1.1.2.2.1, r38.1.1.2.2.2.1, ()), ((), (), (), false, ()), ())
      else
        bif (o_0 == 4) then
          (c_s_push m_0 m_1 m_2 m_3 2 0 ([])).bind fun r43 =>
          jn (fun t => B_s_step_J1 k c_s_push c_s_stepMark c_s_stepTop t.1.1 t.1.2.1 t.1.2.2.1 t.1.2.2.2.1 t.2.1.2.2.2.1) ((r43.1.1.1, r43.1.1.2.1, r43.1.1.2.2.1, r43.1.1.2.2.2.1, ()), ((), (), (), false, ()), ())
        else
          bif (o_0 == 7) then
            (c_s_push m_0 m_1 m_2 m_3 3 0 ([])).bind fun r48 =>
            jn (fun t => B_s_step_J1 k c_s_push c_s_stepMark c_s_stepTop t.1.1 t.1.2.1 t.1.2.2.1 t.1.2.2.2.1 t.2.1.2.2.2.1) ((r48.1.1.1, r48.1.1.2.1, r48.1.1.2.2.1, r48.1.1.2.2.2.1, ()), ((), (), (), false, ()), ())
          else
            bif (o_0 == 10) then
              (c_s_push m_0 m_1 m_2 m_3 4 0 ([])).bind fun r53 =>
              jn (fun t => B_s_step_J1 k c_s_push c_s_stepMark c_s_stepTop t.1.1 t.1.2.1 t.1.2.2.1 t.1.2.2.2.1 t.2.1.2.2.2.1) ((r53.1.1.1, r53.1.1.2.1, r53.1.1.2.2.1, r53.1.1.2.2.2.1, ()), ((), (), (), false, ()), ())
            else
              bif (o_0 == 13) then
                (c_s_push m_0 m_1 m_2 m_3 5 o_1 ([])).bind fun r60 =>
                jn (fun t => B_s_step_J1 k c_s_push c_s_stepMark c_s_stepTop t.1.1 t.1.2.1 t.1.2.2.1 t.1.2.2.2.1 t.2.1.2.2.2.1) ((r60.1.1.1, r60.1.1.2.1, r60.1.1.2.2.1, r60.1.1.2.2.2.1, ()), ((), (), (), false, ()), ())
              else
                bif (o_0 == 2) then
                  chk (room m_1.length ([(-1)]).length) <|
                  jn (fun t => B_s_step_J1 k c_s_push c_s_stepMark c_s_stepTop t.1.1 t.1.2.1 t.1.2.2.1 t.1.2.2.2.1 t.2.1.2.2.2.1) ((m_0, (m_1 ++ [(-1)]), m_2, m_3, ()), ((), (), (), false, ()), ())
                else
                  bif (o_0 == 16) then
                    chk (inb o_1 m_2.length) <|
                    chk (decide (o_1.toNat < m_2.length)) <|
                    bif decide ((m_2.getD o_1.toNat (0 : Int)) < 0) then
                      some ((((some m_0), (some m_1), (some m_2), m_3, ()), false, ()), ())
                    else
                      chk (inb o_1 m_2.length) <|
                      chk (decide (o_1.toNat < m_2.length)) <|
                      chk (room m_1.length ([(m_2.getD o_1.toNat (0 : Int))]).length) <|
                      jn (fun t => B_s_step_J1 k c_s_push c_s_stepMark c_s_stepTop t.1.1 t.1.2.1 t.1.2.2.1 t.1.2.2.2.1 t.2.1.2.2.2.1) ((m_0, (m_1 ++ [(m_2.getD o_1.toNat (0 : Int))]), m_2, m_3, ()), ((), (), (), false, ()), ())
                  else
                    bif (o_0 == 3) then
                      jn (fun t => B_s_step_J0 k c_s_push c_s_stepMark c_s_stepTop t.1.1 t.1.2.1 t.1.2.2.1 t.1.2.2.2.1 t.2.1.1 t.2.1.2.1 t.2.2.1.2.2.2.1 t.2.2.2.1) ((m_0, m_1, m_2, m_3, ()), (o_0, o_1, ()), ((), (), (), false, ()), (o_0 == 3), ())
                    else
                      bif (o_0 == 9) then
                        jn (fun t => B_s_step_J0 k c_s_push c_s_stepMark c_s_stepTop t.1.1 t.1.2.1 t.1.2.2.1 t.1.2.2.2.1 t.2.1.1 t.2.1.2.1 t.2.2.1.2.2.2.1 t.2.2.2.1) ((m_0, m_1, m_2, m_3, ()), (o_0, o_1, ()), ((), (), (), false, ()), (o_0 == 9), ())
                      else
                        bif (o_0 == 12) then
                          jn (fun t => B_s_step_J0 k c_s_push c_s_stepMark c_s_stepTop t.1.1 t.1.2.1 t.1.2.2.1 t.1.2.2.2.1 t.2.1.1 t.2.1.2.1 t.2.2.1.2.2.2.1 t.2.2.2.1) ((m_0, m_1, m_2, m_3, ()), (o_0, o_1, ()), ((), (), (), false, ()), (o_0 == 12), ())
                        else
                          jn (fun t => B_s_step_J0 k c_s_push c_s_stepMark c_s_stepTop t.1.1 t.1.2.1 t.1.2.2.1 t.1.2.2.2.1 t.2.1.1 t.2.1.2.1 t.2.2.1.2.2.2.1 t.2.2.2.1) ((m_0, m_1, m_2, m_3, ()), (o_0, o_1, ()), ((), (), (), false, ()), (o_0 == 18), ())
def F_s_step : Nat → C_s_step
  | 0, _, _, _, _, _, _ => none
  | k + 1, m_0, m_1, m_2, m_3, o_0, o_1 => B_s_step k (F_s_push k) (F_s_stepMark k) (F_s_stepTop k) m_0 m_1 m_2 m_3 o_0 o_1
theorem tot_s_step {m_0 m_1 m_2 m_3 o_0 o_1 : _} {Q : _ → Prop} (h : Tot (fun σ => B_s_step (σ 0) (F_s_push (σ 0)) (F_s_stepMark (σ 0)) (F_s_stepTop (σ 0)) m_0 m_1 m_2 m_3 o_0 o_1) Q) : Tot (fun σ => F_s_step (σ 0) m_0 m_1 m_2 m_3 o_0 o_1) Q :=
  Tot.call (F := fun k => F_s_step k m_0 m_1 m_2 m_3 o_0 o_1) (B := fun k => B_s_step k (F_s_push k) (F_s_stepMark k) (F_s_stepTop k) m_0 m_1 m_2 m_3 o_0 o_1) (fun k => rfl) h
abbrev R_s_run : Type := Option ((((List (Int × Int × List Int)) × List Int × List Int × Bool × Unit) × Int × Unit) × (Unit))
abbrev C_s_run : Type := (List (Int × Int × List Int)) → List Int → List Int → Bool → (List (Int × Int)) → R_s_run
abbrev T_s_run_L0 : Type := (List (Int × Int)) × ((List (Int × Int × List Int)) × List Int × List Int × Bool × Unit) × (Unit × Unit × Unit × Bool × Unit) × Int × Unit
def B_s_run_L0b (k : Nat) (c_s_copyMachine : C_s_copyMachine) (c_s_step : C_s_step) (again0 : T_s_run_L0 → R_s_run) (ops : List (Int × Int)) (m_Nodes : List (Int × Int × List Int)) (m_Stack m_Memo : List Int) (m_Done t4_Done : Bool) (i : Int) : R_s_run :=
  bif decide (i < (len ops)) then
    (c_s_copyMachine m_Nodes m_Stack m_Memo m_Done).bind fun r17 =>
    chk (inb i ops.length) <|
    (c_s_step r17.1.1.1 r17.1.1.2.1 r17.1.1.2.2.1 r17.1.1.2.2.2.1 ((rdx ((0 : Int), (0 : Int)) ops i).1) ((rdx ((0 : Int), (0 : Int)) ops i).2)).bind fun r22 =>
    bif (!r22.1.2.1) then
      some (((m_Nodes, m_Stack, m_Memo, m_Done, ()), i, ()), ())
    else
      (r22.1.1.1).bind fun p3 =>
      (r22.1.1.2.1).bind fun p4 =>
      (r22.1.1.2.2.1).bind fun p5 =>
      again0 (ops, (p3, p4, p5, r22.1.1.2.2.2.1, ()), ((), (), (), t4_Done, ()), w64 (i + 1), ())
  else
    some (((m_Nodes, m_Stack, m_Memo, m_Done, ()), len ops, ()), ())
def B_s_run_L0 (k : Nat) (c_s_copyMachine : C_s_copyMachine) (c_s_step : C_s_step) (n : Nat) (t : T_s_run_L0) : R_s_run :=
  lfix n (fun again t => B_s_run_L0b k c_s_copyMachine c_s_step again t.1 t.2.1.1 t.2.1.2.1 t.2.1.2.2.1 t.2.1.2.2.2.1 t.2.2.1.2.2.2.1 t.2.2.2.1) t
def B_s_run (k : Nat) (c_s_copyMachine : C_s_copyMachine) (c_s_step : C_s_step) (m_0 : List (Int × Int × List Int)) (m_1 m_2 : List Int) (m_3 : Bool) (ops : List (Int × Int)) : R_s_run :=
  B_s_run_L0 k c_s_copyMachine c_s_step k (ops, (m_0, m_1, m_2, m_3, ()), ((), (), (), false, ()), 0, ())
def F_s_run : Nat → C_s_run
  | 0, _, _, _, _, _ => none
  | k + 1, m_0, m_1, m_2, m_3, ops => B_s_run k (F_s_copyMachine k) (F_s_step k) m_0 m_1 m_2 m_3 ops
theorem tot_s_run {m_0 m_1 m_2 m_3 ops : _} {Q : _ → Prop} (h : Tot (fun σ => B_s_run (σ 0) (F_s_copyMachine (σ 0)) (F_s_step (σ 0)) m_0 m_1 m_2 m_3 ops) Q) : Tot (fun σ => F_s_run (σ 0) m_0 m_1 m_2 m_3 ops) Q :=
  Tot.call (F := fun k => F_s_run k m_0 m_1 m_2 m_3 ops) (B := fun k => B_s_run k (F_s_copyMachine k) (F_s_step k) m_0 m_1 m_2 m_3 ops) (fun k => rfl) h
abbrev A_s_run_L0 (Z : Type) : Type := (List (Int × Int)) → (List (Int × Int × List Int)) → List Int → List Int → Bool → Bool → Int → Z
abbrev u_s_run_L0 {Z : Type} (f : A_s_run_L0 Z) (t : T_s_run_L0) : Z := f t.1 t.2.1.1 t.2.1.2.1 t.2.1.2.2.1 t.2.1.2.2.2.1 t.2.2.1.2.2.2.1 t.2.2.2.1
theorem loop_s_run_L0 {Q : A_s_run_L0 (((((List (Int × Int × List Int)) × List Int × List Int × Bool × Unit) × Int × Unit) × (Unit)) → Prop)} (I : A_s_run_L0 Prop) (μ : A_s_run_L0 Nat)
    (step : ∀ a0 a1 a2 a3 a4 a5 a6, I a0 a1 a2 a3 a4 a5 a6 → ∀ again : (Nat → Nat) → T_s_run_L0 → R_s_run, Dep 2 again → (∀ y0 y1 y2 y3 y4 y5 y6, I y0 y1 y2 y3 y4 y5 y6 → μ y0 y1 y2 y3 y4 y5 y6 < μ a0 a1 a2 a3 a4 a5 a6 → Tot (fun σ => again σ (y0, (y1, y2, y3, y4, ()), ((), (), (), y5, ()), y6, ())) (Q y0 y1 y2 y3 y4 y5 y6)) →
      Tot (fun σ => B_s_run_L0b (σ 0) (F_s_copyMachine (σ 0)) (F_s_step (σ 0)) (again σ) a0 a1 a2 a3 a4 a5 a6) (Q a0 a1 a2 a3 a4 a5 a6)) :
    ∀ a0 a1 a2 a3 a4 a5 a6, I a0 a1 a2 a3 a4 a5 a6 → Tot (fun σ => B_s_run_L0 (σ 0) (F_s_copyMachine (σ 0)) (F_s_step (σ 0)) (σ 0) (a0, (a1, a2, a3, a4, ()), ((), (), (), a5, ()), a6, ())) (Q a0 a1 a2 a3 a4 a5 a6) := fun a0 a1 a2 a3 a4 a5 a6 => Tot.loop0 (L := fun k => B_s_run_L0 k (F_s_copyMachine k) (F_s_step k)) (B := fun k g => u_s_run_L0 (B_s_run_L0b k (F_s_copyMachine k) (F_s_step k) g)) (Q := u_s_run_L0 Q) (fun _ _ _ => rfl) (u_s_run_L0 I) (u_s_run_L0 μ)
    (fun t ht again hag h => step t.1 t.2.1.1 t.2.1.2.1 t.2.1.2.2.1 t.2.1.2.2.2.1 t.2.2.1.2.2.2.1 t.2.2.2.1 ht again hag fun y0 y1 y2 y3 y4 y5 y6 => h (y0, (y1, y2, y3, y4, ()), ((), (), (), y5, ()), y6, ())) (a0, (a1, a2, a3, a4, ()), ((), (), (), a5, ()), a6, ())
abbrev R_s_someMachine : Type := Option ((((List (Int × Int × List Int)) × List Int × List Int × Bool × Unit) × Unit) × ((List Int × Int × Unit) × Unit))
abbrev C_s_someMachine : Type := List Int → Int → R_s_someMachine
def B_s_someMachine_J1 (k : Nat) (c_s_likelyOps : C_s_likelyOps) (c_s_newMachine : C_s_newMachine) (c_s_validOps : C_s_validOps) (c_s_run : C_s_run) (c_s_reader_pick : C_s_reader_pick) (c_s_reader_one : C_s_reader_one) (r_b : List Int) (r_p : Int) (t2_Done : Bool) (m_Nodes : List (Int × Int × List Int)) (m_Stack m_Memo : List Int) (m_Done : Bool) : R_s_someMachine :=
  some (((m_Nodes, m_Stack, m_Memo, m_Done, ()), ()), ((r_b, r_p, ()), ()))
def B_s_someMachine_J0 (k : Nat) (c_s_likelyOps : C_s_likelyOps) (c_s_newMachine : C_s_newMachine) (c_s_validOps : C_s_validOps) (c_s_run : C_s_run) (c_s_reader_pick : C_s_reader_pick) (c_s_reader_one : C_s_reader_one) (r_b : List Int) (r_p : Int) (t2_Done : Bool) (m_Nodes : List (Int × Int × List Int)) (m_Stack m_Memo : List Int) (m_Done : Bool) : R_s_someMachine :=
  (c_s_reader_pick r_b r_p 16).bind fun r17 =>
  bif (r17.1.1 == 0) then
    (c_s_reader_one r17.2.1.1 r17.2.1.2.1 ([len m_Nodes, (-2)])).bind fun r27 =>
    chk (room m_Stack.length ([r27.1.1]).length) <|
    jn (fun t => B_s_someMachine_J1 k c_s_likelyOps c_s_newMachine c_s_validOps c_s_run c_s_reader_pick c_s_reader_one t.1.1 t.1.2.1 t.2.1.2.2.2.1 t.2.2.1.1 t.2.2.1.2.1 t.2.2.1.2.2.1 t.2.2.1.2.2.2.1) ((r27.2.1.1, r27.2.1.2.1, ()), ((), (), (), t2_Done, ()), (m_Nodes, (m_Stack ++ [r27.1.1]), m_Memo, m_Done, ()), ())
  else
    bif (r17.1.1 == 1) then
      chk (cutb 1 (len m_Memo) m_Memo.length) <|
      jn (fun t => B_s_someMachine_J1 k c_s_likelyOps c_s_newMachine c_s_validOps c_s_run c_s_reader_pick c_s_reader_one t.1.1 t.1.2.1 t.2.1.2.2.2.1 t.2.2.1.1 t.2.2.1.2.1 t.2.2.1.2.2.1 t.2.2.1.2.2.2.1) ((r17.2.1.1, r17.2.1.2.1, ()), ((), (), (), t2_Done, ()), (m_Nodes, m_Stack, ((m_Memo.take ((len m_Memo).toNat)).drop ((1 : Int).toNat)), m_Done, ()), ())
    else
      bif (r17.1.1 == 2) then
        jn (fun t => B_s_someMachine_J1 k c_s_likelyOps c_s_newMachine c_s_validOps c_s_run c_s_reader_pick c_s_reader_one t.1.1 t.1.2.1 t.2.1.2.2.2.1 t.2.2.1.1 t.2.2.1.2.1 t.2.2.1.2.2.1 t.2.2.1.2.2.2.1) ((r17.2.1.1, r17.2.1.2.1, ()), ((), (), (), t2_Done, ()), (m_Nodes, m_Stack, m_Memo, (!m_Done), ()), ())
      else
        jn (fun t => B_s_someMachine_J1 k c_s_likelyOps c_s_newMachine c_s_validOps c_s_run c_s_reader_pick c_s_reader_one t.1.1 t.1.2.1 t.2.1.2.2.2.1 t.2.2.1.1 t.2.2.1.2.1 t.2.2.1.2.2.1 t.2.2.1.2.2.2.1) ((r17.2.1.1, r17.2.1.2.1, ()), ((), (), (), t2_Done, ()), (m_Nodes, m_Stack, m_Memo, m_Done, ()), ())
def B_s_someMachine (k : Nat) (c_s_likelyOps : C_s_likelyOps) (c_s_newMachine : C_s_newMachine) (c_s_validOps : C_s_validOps) (c_s_run : C_s_run) (c_s_reader_pick : C_s_reader_pick) (c_s_reader_one : C_s_reader_one) (r_b : List Int) (r_p : Int) : R_s_someMachine :=
  (c_s_likelyOps r_b r_p).bind fun r6 =>
  (c_s_newMachine).bind fun r7 =>
  (c_s_validOps r6.1.1).bind fun r9 =>
  bif r9.1.1 then
    (c_s_run ([]) ([]) r7.1.1.2.2.1 r7.1.1.2.2.2.1 r6.1.1).bind fun r13 =>
    jn (fun t => B_s_someMachine_J0 k c_s_likelyOps c_s_newMachine c_s_validOps c_s_run c_s_reader_pick c_s_reader_one t.1.1 t.1.2.1 t.2.1.2.2.2.1 t.2.2.1.1 t.2.2.1.2.1 t.2.2.1.2.2.1 t.2.2.1.2.2.2.1) ((r6.2.1.1, r6.2.1.2.1, ()), ((), (), (), false, ()), (r13.1.1.1, r13.1.1.2.1, r13.1.1.2.2.1, r13.1.1.2.2.2.1, ()), ())
  else
    jn (fun t => B_s_someMachine_J0 k c_s_likelyOps c_s_newMachine c_s_validOps c_s_run c_s_reader_pick c_s_reader_one t.1.1 t.1.2.1 t.2.1.2.2.2.1 t.2.2.1.1 t.2.2.1.2.1 t.2.2.1.2.2.1 t.2.2.1.2.2.2.1) ((r6.2.1.1, r6.2.1.2.1, ()), ((), (), (), false, ()), ([], [], r7.1.1.2.2.1, r7.1.1.2.2.2.1, ()), ())
def F_s_someMachine : Nat → C_s_someMachine
  | 0, _, _ => none
  | k + 1, r_b, r_p => B_s_someMachine k (F_s_likelyOps k) (F_s_newMachine k) (F_s_validOps k) (F_s_run k) (F_s_reader_pick k) (F_s_reader_one k) r_b r_p
theorem tot_s_someMachine {r_b r_p : _} {Q : _ → Prop} (h : Tot (fun σ => B_s_someMachine (σ 0) (F_s_likelyOps (σ 0)) (F_s_newMachine (σ 0)) (F_s_validOps (σ 0)) (F_s_run (σ 0)) (F_s_reader_pick (σ 0)) (F_s_reader_one (σ 0)) r_b r_p) Q) : Tot (fun σ => F_s_someMachine (σ 0) r_b r_p) Q :=
  Tot.call (F := fun k => F_s_someMachine k r_b r_p) (B := fun k => B_s_someMachine k (F_s_likelyOps k) (F_s_newMachine k) (F_s_validOps k) (F_s_run k) (F_s_reader_pick k) (F_s_reader_one k) r_b r_p) (fun k => rfl) h
abbrev R_s_DrawStepMachine : Type := Option ((((List (Int × Int × List Int)) × List Int × List Int × Bool × Unit) × (Int × Int × Unit) × Unit) × (Unit))
abbrev C_s_DrawStepMachine : Type := List Int → R_s_DrawStepMachine
def B_s_DrawStepMachine_J0 (k : Nat) (c_s_newReader : C_s_newReader) (c_s_someMachine : C_s_someMachine) (c_s_someOp : C_s_someOp) (c_s_reader_pick : C_s_reader_pick) (c_s_reader_one : C_s_reader_one) (t2_Done : Bool) (t3_Code t3_Arg : Int) (m_Nodes : List (Int × Int × List Int)) (m_Stack m_Memo : List Int) (m_Done : Bool) (o_Code o_Arg : Int) : R_s_DrawStepMachine :=
  some (((m_Nodes, m_Stack, m_Memo, m_Done, ()), (o_Code, o_Arg, ()), ()), ())
def B_s_DrawStepMachine (k : Nat) (c_s_newReader : C_s_newReader) (c_s_someMachine : C_s_someMachine) (c_s_someOp : C_s_someOp) (c_s_reader_pick : C_s_reader_pick) (c_s_reader_one : C_s_reader_one) (code : List Int) : R_s_DrawStepMachine :=
  (c_s_newReader code).bind fun r8 =>
  (c_s_someMachine r8.1.1.1 r8.1.1.2.1).bind fun r10 =>
  (c_s_someOp r10.2.1.1 r10.2.1.2.1).bind fun r12 =>
  (c_s_reader_pick r12.2.1.1 r12.2.1.2.1 20).bind fun r14 =>
  bif (r14.1.1 == 0) then
    (c_s_reader_one r14.2.1.1 r14.2.1.2.1 ([(-1), 1000, 20])).bind fun r18 =>
    jn (fun t => B_s_DrawStepMachine_J0 k c_s_newReader c_s_someMachine c_s_someOp c_s_reader_pick c_s_reader_one t.1.2.2.2.1 t.2.1.1 t.2.1.2.1 t.2.2.1.1 t.2.2.1.2.1 t.2.2.1.2.2.1 t.2.2.1.2.2.2.1 t.2.2.2.1.1 t.2.2.2.1.2.1) (((), (), (), false, ()), (0, 0, ()), (r10.1.1.1, r10.1.1.2.1, r10.1.1.2.2.1, r10.1.1.2.2.2.1, ()), (r12.1.1.1, r18.1.1, ()), ())
  else
    jn (fun t => B_s_DrawStepMachine_J0 k c_s_newReader c_s_someMachine c_s_someOp c_s_reader_pick c_s_reader_one t.1.2.2.2.1 t.2.1.1 t.2.1.2.1 t.2.2.1.1 t.2.2.1.2.1 t.2.2.1.2.2.1 t.2.2.1.2.2.2.1 t.2.2.2.1.1 t.2.2.2.1.2.1) (((), (), (), false, ()), (0, 0, ()), (r10.1.1.1, r10.1.1.2.1, r10.1.1.2.2.1, r10.1.1.2.2.2.1, ()), (r12.1.1.1, r12.1.1.2.1, ()), ())
def F_s_DrawStepMachine : Nat → C_s_DrawStepMachine
  | 0, _ => none
  | k + 1, code => B_s_DrawStepMachine k (F_s_newReader k) (F_s_someMachine k) (F_s_someOp k) (F_s_reader_pick k) (F_s_reader_one k) code
theorem tot_s_DrawStepMachine {code : _} {Q : _ → Prop} (h : Tot (fun σ => B_s_DrawStepMachine (σ 0) (F_s_newReader (σ 0)) (F_s_someMachine (σ 0)) (F_s_someOp (σ 0)) (F_s_reader_pick (σ 0)) (F_s_reader_one (σ 0)) code) Q) : Tot (fun σ => F_s_DrawStepMachine (σ 0) code) Q :=
  Tot.call (F := fun k => F_s_DrawStepMachine k code) (B := fun k => B_s_DrawStepMachine k (F_s_newReader k) (F_s_someMachine k) (F_s_someOp k) (F_s_reader_pick k) (F_s_reader_one k) code) (fun k => rfl) h
abbrev R_slices_Clone_int_int : Type := Option ((List Int × Unit) × (Unit))
abbrev C_slices_Clone_int_int : Type := List Int → R_slices_Clone_int_int
def B_slices_Clone_int_int (k : Nat) (s : List Int) : R_slices_Clone_int_int :=
  chk (room ([] : List Int).length s.length) <|
  some ((s, ()), ())
def F_slices_Clone_int_int : Nat → C_slices_Clone_int_int
  | 0, _ => none
  | k + 1, s => B_slices_Clone_int_int k s
theorem tot_slices_Clone_int_int {s : _} {Q : _ → Prop} (h : Tot (fun σ => B_slices_Clone_int_int (σ 0) s) Q) : Tot (fun σ => F_slices_Clone_int_int (σ 0) s) Q :=
  Tot.call (F := fun k => F_slices_Clone_int_int k s) (B := fun k => B_slices_Clone_int_int k s) (fun k => rfl) h
abbrev R_i_ValidMachine : Type := Option ((Bool × Unit) × (Unit))
abbrev C_i_ValidMachine : Type := (List (Int × Int × List Int)) → List Int → List Int → Bool → R_i_ValidMachine
abbrev T_i_ValidMachine_L5 : Type := ((List (Int × Int × List Int)) × List Int × List Int × Bool × Unit) × Int × (Int × Int × List Int × Unit) × (List (Int × Int × List Int)) × Int × Int × List Int × Int × Int × Unit
abbrev T_i_ValidMachine_L6 : Type := ((List (Int × Int × List Int)) × List Int × List Int × Bool × Unit) × Int × (List (Int × Int × List Int)) × Int × Int × Unit
abbrev T_i_ValidMachine_L2 : Type := ((List (Int × Int × List Int)) × List Int × List Int × Bool × Unit) × Int × List Int × Int × Int × Unit
def B_i_ValidMachine_J1 (k : Nat) (c_slices_Clone_int_int : C_slices_Clone_int_int) (again2 : T_i_ValidMachine_L2 → R_i_ValidMachine) (m_Nodes : List (Int × Int × List Int)) (m_Stack m_Memo : List Int) (m_Done : Bool) (n3 : Int) (t49 : List Int) (t50 t51 : Int) (t61 : Bool) : R_i_ValidMachine :=
  bif t61 then
    some ((false, ()), ())
  else
    again2 ((m_Nodes, m_Stack, m_Memo, m_Done, ()), n3, t49, t50, w64 (t51 + 1), ())
def B_i_ValidMachine_J4 (k : Nat) (c_slices_Clone_int_int : C_slices_Clone_int_int) (again5 : T_i_ValidMachine_L5 → R_i_ValidMachine) (m_Nodes : List (Int × Int × List Int)) (m_Stack m_Memo : List Int) (m_Done : Bool) (n3 x_Kind x_Value : Int) (x_Kids : List Int) (t64 : List (Int × Int × List Int)) (t65 t66 : Int) (t112 : List Int) (t113 t114 : Int) (t144 : Bool) : R_i_ValidMachine :=
  bif t144 then
    some ((false, ()), ())
  else
    again5 ((m_Nodes, m_Stack, m_Memo, m_Done, ()), n3, (x_Kind, x_Value, x_Kids, ()), t64, t65, t66, t112, t113, w64 (t114 + 1), ())
def B_i_ValidMachine_L5b (k : Nat) (c_slices_Clone_int_int : C_slices_Clone_int_int) (again6 : T_i_ValidMachine_L6 → R_i_ValidMachine) (again5 : T_i_ValidMachine_L5 → R_i_ValidMachine) (m_Nodes : List (Int × Int × List Int)) (m_Stack m_Memo : List Int) (m_Done : Bool) (n3 x_Kind x_Value : Int) (x_Kids : List Int) (t64 : List (Int × Int × List Int)) (t65 t66 : Int) (t112 : List Int) (t113 t114 : Int) : R_i_ValidMachine :=
  bif decide (t114 < t113) then
    chk (inb t114 t112.length) <|
    bif decide ((rdx (0 : Int) t112 t114) < 0) then
      jn (fun t => B_i_ValidMachine_J4 k c_slices_Clone_int_int again5 t.1.1 t.1.2.1 t.1.2.2.1 t.1.2.2.2.1 t.2.1 t.2.2.1.1 t.2.2.1.2.1 t.2.2.1.2.2.1 t.2.2.2.1 t.2.2.2.2.1 t.2.2.2.2.2.1 t.2.2.2.2.2.2.1 t.2.2.2.2.2.2.2.1 t.2.2.2.2.2.2.2.2.1 t.2.2.2.2.2.2.2.2.2.1) ((m_Nodes, m_Stack, m_Memo, m_Done, ()), n3, (x_Kind, x_Value, x_Kids, ()), t64, t65, t66, t112, t113, t114, true, ())
    else
      bif decide ((rdx (0 : Int) t112 t114) ≥ n3) then
        jn (fun t => B_i_ValidMachine_J4 k c_slices_Clone_int_int again5 t.1.1 t.1.2.1 t.1.2.2.1 t.1.2.2.2.1 t.2.1 t.2.2.1.1 t.2.2.1.2.1 t.2.2.1.2.2.1 t.2.2.2.1 t.2.2.2.2.1 t.2.2.2.2.2.1 t.2.2.2.2.2.2.1 t.2.2.2.2.2.2.2.1 t.2.2.2.2.2.2.2.2.1 t.2.2.2.2.2.2.2.2.2.1) ((m_Nodes, m_Stack, m_Memo, m_Done, ()), n3, (x_Kind, x_Value, x_Kids, ()), t64, t65, t66, t112, t113, t114, true, ())
      else
        bif (x_Kind == 4) then
          bif ((t114.tmod 2) == 0) then
            chk (inb (rdx (0 : Int) t112 t114) m_Nodes.length) <|
            let v142 : Bool := decide (((rdx ((0 : Int), ((0 : Int), ([] : List Int))) m_Nodes (rdx (0 : Int) t112 t114)).1) > 1)
            jn (fun t => B_i_ValidMachine_J4 k c_slices_Clone_int_int again5 t.1.1 t.1.2.1 t.1.2.2.1 t.1.2.2.2.1 t.2.1 t.2.2.1.1 t.2.2.1.2.1 t.2.2.1.2.2.1 t.2.2.2.1 t.2.2.2.2.1 t.2.2.2.2.2.1 t.2.2.2.2.2.2.1 t.2.2.2.2.2.2.2.1 t.2.2.2.2.2.2.2.2.1 t.2.2.2.2.2.2.2.2.2.1) ((m_Nodes, m_Stack, m_Memo, m_Done, ()), n3, (x_Kind, x_Value, x_Kids, ()), t64, t65, t66, t112, t113, t114, v142, ())
          else
            jn (fun t => B_i_ValidMachine_J4 k c_slices_Clone_int_int again5 t.1.1 t.1.2.1 t.1.2.2.1 t.1.2.2.2.1 t.2.1 t.2.2.1.1 t.2.2.1.2.1 t.2.2.1.2.2.1 t.2.2.2.1 t.2.2.2.2.1 t.2.2.2.2.2.1 t.2.2.2.2.2.2.1 t.2.2.2.2.2.2.2.1 t.2.2.2.2.2.2.2.2.1 t.2.2.2.2.2.2.2.2.2.1) ((m_Nodes, m_Stack, m_Memo, m_Done, ()), n3, (x_Kind, x_Value, x_Kids, ()), t64, t65, t66, t112, t113, t114, false, ())
        else
          jn (fun t => B_i_ValidMachine_J4 k c_slices_Clone_int_int again5 t.1.1 t.1.2.1 t.1.2.2.1 t.1.2.2.2.1 t.2.1 t.2.2.1.1 t.2.2.1.2.1 t.2.2.1.2.2.1 t.2.2.2.1 t.2.2.2.2.1 t.2.2.2.2.2.1 t.2.2.2.2.2.2.1 t.2.2.2.2.2.2.2.1 t.2.2.2.2.2.2.2.2.1 t.2.2.2.2.2.2.2.2.2.1) ((m_Nodes, m_Stack, m_Memo, m_Done, ()), n3, (x_Kind, x_Value, x_Kids, ()), t64, t65, t66, t112, t113, t114, false, ())
  else
    again6 ((m_Nodes, m_Stack, m_Memo, m_Done, ()), n3, t64, t65, w64 (t66 + 1), ())
def B_i_ValidMachine_L5 (k : Nat) (c_slices_Clone_int_int : C_slices_Clone_int_int) (again6 : T_i_ValidMachine_L6 → R_i_ValidMachine) (n : Nat) (t : T_i_ValidMachine_L5) : R_i_ValidMachine :=
  lfix n (fun again t => B_i_ValidMachine_L5b k c_slices_Clone_int_int again6 again t.1.1 t.1.2.1 t.1.2.2.1 t.1.2.2.2.1 t.2.1 t.2.2.1.1 t.2.2.1.2.1 t.2.2.1.2.2.1 t.2.2.2.1 t.2.2.2.2.1 t.2.2.2.2.2.1 t.2.2.2.2.2.2.1 t.2.2.2.2.2.2.2.1 t.2.2.2.2.2.2.2.2.1) t
def B_i_ValidMachine_J3 (k : Nat) (c_slices_Clone_int_int : C_slices_Clone_int_int) (again6 : T_i_ValidMachine_L6 → R_i_ValidMachine) (m_Nodes : List (Int × Int × List Int)) (m_Stack m_Memo : List Int) (m_Done : Bool) (n3 x_Kind x_Value : Int) (x_Kids : List Int) (t64 : List (Int × Int × List Int)) (t65 t66 : Int) (t110 : Bool) : R_i_ValidMachine :=
  bif t110 then
    some ((false, ()), ())
  else
    B_i_ValidMachine_L5 k c_slices_Clone_int_int again6 k ((m_Nodes, m_Stack, m_Memo, m_Done, ()), n3, (x_Kind, x_Value, x_Kids, ()), t64, t65, t66, x_Kids, len x_Kids, 0, ())
def B_i_ValidMachine_L6b (k : Nat) (c_slices_Clone_int_int : C_slices_Clone_int_int) (again6 : T_i_ValidMachine_L6 → R_i_ValidMachine) (m_Nodes : List (Int × Int × List Int)) (m_Stack m_Memo : List Int) (m_Done : Bool) (n3 : Int) (t64 : List (Int × Int × List Int)) (t65 t66 : Int) : R_i_ValidMachine :=
  bif decide (t66 < t65) then
    chk (inb t66 t64.length) <|
    bif decide (((rdx ((0 : Int), ((0 : Int), ([] : List Int))) t64 t66).1) < 0) then
      jn (fun t => B_i_ValidMachine_J3 k c_slices_Clone_int_int again6 t.1.1 t.1.2.1 t.1.2.2.1 t.1.2.2.2.1 t.2.1 t.2.2.1.1 t.2.2.1.2.1 t.2.2.1.2.2.1 t.2.2.2.1 t.2.2.2.2.1 t.2.2.2.2.2.1 t.2.2.2.2.2.2.1) ((m_Nodes, m_Stack, m_Memo, m_Done, ()), n3, ((rdx ((0 : Int), ((0 : Int), ([] : List Int))) t64 t66).1, ((rdx ((0 : Int), ((0 : Int), ([] : List Int))) t64 t66).2).1, ((rdx ((0 : Int), ((0 : Int), ([] : List Int))) t64 t66).2).2, ()), t64, t65, t66, true, ())
    else
      bif decide (((rdx ((0 : Int), ((0 : Int), ([] : List Int))) t64 t66).1) > 5) then
        jn (fun t => B_i_ValidMachine_J3 k c_slices_Clone_int_int again6 t.1.1 t.1.2.1 t.1.2.2.1 t.1.2.2.2.1 t.2.1 t.2.2.1.1 t.2.2.1.2.1 t.2.2.1.2.2.1 t.2.2.2.1 t.2.2.2.2.1 t.2.2.2.2.2.1 t.2.2.2.2.2.2.1) ((m_Nodes, m_Stack, m_Memo, m_Done, ()), n3, ((rdx ((0 : Int), ((0 : Int), ([] : List Int))) t64 t66).1, ((rdx ((0 : Int), ((0 : Int), ([] : List Int))) t64 t66).2).1, ((rdx ((0 : Int), ((0 : Int), ([] : List Int))) t64 t66).2).2, ()), t64, t65, t66, true, ())
      else
        bif decide ((((rdx ((0 : Int), ((0 : Int), ([] : List Int))) t64 t66).2).1) < 0) then
          jn (fun t => B_i_ValidMachine_J3 k c_slices_Clone_int_int again6 t.1.1 t.1.2.1 t.1.2.2.1 t.1.2.2.2.1 t.2.1 t.2.2.1.1 t.2.2.1.2.1 t.2.2.1.2.2.1 t.2.2.2.1 t.2.2.2.2.1 t.2.2.2.2.2.1 t.2.2.2.2.2.2.1) ((m_Nodes, m_Stack, m_Memo, m_Done, ()), n3, ((rdx ((0 : Int), ((0 : Int), ([] : List Int))) t64 t66).1, ((rdx ((0 : Int), ((0 : Int), ([] : List Int))) t64 t66).2).1, ((rdx ((0 : Int), ((0 : Int), ([] : List Int))) t64 t66).2).2, ()), t64, t65, t66, true, ())
        else
          bif decide ((((rdx ((0 : Int), ((0 : Int), ([] : List Int))) t64 t66).2).1) > 999) then
            jn (fun t => B_i_ValidMachine_J3 k c_slices_Clone_int_int again6 t.1.1 t.1.2.1 t.1.2.2.1 t.1.2.2.2.1 t.2.1 t.2.2.1.1 t.2.2.1.2.1 t.2.2.1.2.2.1 t.2.2.2.1 t.2.2.2.2.1 t.2.2.2.2.2.1 t.2.2.2.2.2.2.1) ((m_Nodes, m_Stack, m_Memo, m_Done, ()), n3, ((rdx ((0 : Int), ((0 : Int), ([] : List Int))) t64 t66).1, ((rdx ((0 : Int), ((0 : Int), ([] : List Int))) t64 t66).2).1, ((rdx ((0 : Int), ((0 : Int), ([] : List Int))) t64 t66).2).2, ()), t64, t65, t66, true, ())
          else
            bif (((rdx ((0 : Int), ((0 : Int), ([] : List Int))) t64 t66).1) == 5) then
              bif decide ((len (((rdx ((0 : Int), ((0 : Int), ([] : List Int))) t64 t66).2).2)) > 1) then
                jn (fun t => B_i_ValidMachine_J3 k c_slices_Clone_int_int again6 t.1.1 t.1.2.1 t.1.2.2.1 t.1.2.2.2.1 t.2.1 t.2.2.1.1 t.2.2.1.2.1 t.2.2.1.2.2.1 t.2.2.2.1 t.2.2.2.2.1 t.2.2.2.2.2.1 t.2.2.2.2.2.2.1) ((m_Nodes, m_Stack, m_Memo, m_Done, ()), n3, ((rdx ((0 : Int), ((0 : Int), ([] : List Int))) t64 t66).1, ((rdx ((0 : Int), ((0 : Int), ([] : List Int))) t64 t66).2).1, ((rdx ((0 : Int), ((0 : Int), ([] : List Int))) t64 t66).2).2, ()), t64, t65, t66, true, ())
              else
                bif (((rdx ((0 : Int), ((0 : Int), ([] : List Int))) t64 t66).1) == 4) then
                  jn (fun t => B_i_ValidMachine_J3 k c_slices_Clone_int_int again6 t.1.1 t.1.2.1 t.1.2.2.1 t.1.2.2.2.1 t.2.1 t.2.2.1.1 t.2.2.1.2.1 t.2.2.1.2.2.1 t.2.2.2.1 t.2.2.2.2.1 t.2.2.2.2.2.1 t.2.2.2.2.2.2.1) ((m_Nodes, m_Stack, m_Memo, m_Done, ()), n3, ((rdx ((0 : Int), ((0 : Int), ([] : List Int))) t64 t66).1, ((rdx ((0 : Int), ((0 : Int), ([] : List Int))) t64 t66).2).1, ((rdx ((0 : Int), ((0 : Int), ([] : List Int))) t64 t66).2).2, ()), t64, t65, t66, (((len (((rdx ((0 : Int), ((0 : Int), ([] : List Int))) t64 t66).2).2)).tmod 2) != 0), ())
                else
                  jn (fun t => B_i_ValidMachine_J3 k c_slices_Clone_int_int again6 t.1.1 t.1.2.1 t.1.2.2.1 t.1.2.2.2.1 t.2.1 t.2.2.1.1 t.2.2.1.2.1 t.2.2.1.2.2.1 t.2.2.2.1 t.2.2.2.2.1 t.2.2.2.2.2.1 t.2.2.2.2.2.2.1) ((m_Nodes, m_Stack, m_Memo, m_Done, ()), n3, ((rdx ((0 : Int), ((0 : Int), ([] : List Int))) t64 t66).1, ((rdx ((0 : Int), ((0 : Int), ([] : List Int))) t64 t66).2).1, ((rdx ((0 : Int), ((0 : Int), ([] : List Int))) t64 t66).2).2, ()), t64, t65, t66, false, ())
            else
              bif (((rdx ((0 : Int), ((0 : Int), ([] : List Int))) t64 t66).1) == 4) then
                jn (fun t => B_i_ValidMachine_J3 k c_slices_Clone_int_int again6 t.1.1 t.1.2.1 t.1.2.2.1 t.1.2.2.2.1 t.2.1 t.2.2.1.1 t.2.2.1.2.1 t.2.2.1.2.2.1 t.2.2.2.1 t.2.2.2.2.1 t.2.2.2.2.2.1 t.2.2.2.2.2.2.1) ((m_Nodes, m_Stack, m_Memo, m_Done, ()), n3, ((rdx ((0 : Int), ((0 : Int), ([] : List Int))) t64 t66).1, ((rdx ((0 : Int), ((0 : Int), ([] : List Int))) t64 t66).2).1, ((rdx ((0 : Int), ((0 : Int), ([] : List Int))) t64 t66).2).2, ()), t64, t65, t66, (((len (((rdx ((0 : Int), ((0 : Int), ([] : List Int))) t64 t66).2).2)).tmod 2) != 0), ())
              else
                jn (fun t => B_i_ValidMachine_J3 k c_slices_Clone_int_int again6 t.1.1 t.1.2.1 t.1.2.2.1 t.1.2.2.2.1 t.2.1 t.2.2.1.1 t.2.2.1.2.1 t.2.2.1.2.2.1 t.2.2.2.1 t.2.2.2.2.1 t.2.2.2.2.2.1 t.2.2.2.2.2.2.1) ((m_Nodes, m_Stack, m_Memo, m_Done, ()), n3, ((rdx ((0 : Int), ((0 : Int), ([] : List Int))) t64 t66).1, ((rdx ((0 : Int), ((0 : Int), ([] : List Int))) t64 t66).2).1, ((rdx ((0 : Int), ((0 : Int), ([] : List Int))) t64 t66).2).2, ()), t64, t65, t66, false, ())
  else
    some ((true, ()), ())
def B_i_ValidMachine_L6 (k : Nat) (c_slices_Clone_int_int : C_slices_Clone_int_int) (n : Nat) (t : T_i_ValidMachine_L6) : R_i_ValidMachine :=
  lfix n (fun again t => B_i_ValidMachine_L6b k c_slices_Clone_int_int again t.1.1 t.1.2.1 t.1.2.2.1 t.1.2.2.2.1 t.2.1 t.2.2.1 t.2.2.2.1 t.2.2.2.2.1) t
def B_i_ValidMachine_L2b (k : Nat) (c_slices_Clone_int_int : C_slices_Clone_int_int) (again2 : T_i_ValidMachine_L2 → R_i_ValidMachine) (m_Nodes : List (Int × Int × List Int)) (m_Stack m_Memo : List Int) (m_Done : Bool) (n3 : Int) (t49 : List Int) (t50 t51 : Int) : R_i_ValidMachine :=
  bif decide (t51 < t50) then
    chk (inb t51 t49.length) <|
    chk (decide (t51.toNat < t49.length)) <|
    bif decide ((t49.getD t51.toNat (0 : Int)) < (-1)) then
      jn (fun t => B_i_ValidMachine_J1 k c_slices_Clone_int_int again2 t.1.1 t.1.2.1 t.1.2.2.1 t.1.2.2.2.1 t.2.1 t.2.2.1 t.2.2.2.1 t.2.2.2.2.1 t.2.2.2.2.2.1) ((m_Nodes, m_Stack, m_Memo, m_Done, ()), n3, t49, t50, t51, true, ())
    else
      jn (fun t => B_i_ValidMachine_J1 k c_slices_Clone_int_int again2 t.1.1 t.1.2.1 t.1.2.2.1 t.1.2.2.2.1 t.2.1 t.2.2.1 t.2.2.2.1 t.2.2.2.2.1 t.2.2.2.2.2.1) ((m_Nodes, m_Stack, m_Memo, m_Done, ()), n3, t49, t50, t51, decide ((t49.getD t51.toNat (0 : Int)) ≥ n3), ())
  else
    B_i_ValidMachine_L6 k c_slices_Clone_int_int k ((m_Nodes, m_Stack, m_Memo, m_Done, ()), n3, m_Nodes, len m_Nodes, 0, ())
def B_i_ValidMachine_L2 (k : Nat) (c_slices_Clone_int_int : C_slices_Clone_int_int) (n : Nat) (t : T_i_ValidMachine_L2) : R_i_ValidMachine :=
  lfix n (fun again t => B_i_ValidMachine_L2b k c_slices_Clone_int_int again t.1.1 t.1.2.1 t.1.2.2.1 t.1.2.2.2.1 t.2.1 t.2.2.1 t.2.2.2.1 t.2.2.2.2.1) t
def B_i_ValidMachine_J0 (k : Nat) (c_slices_Clone_int_int : C_slices_Clone_int_int) (m_Nodes : List (Int × Int × List Int)) (m_Stack m_Memo : List Int) (m_Done : Bool) (n3 : Int) (t43 : Bool) : R_i_ValidMachine :=
  bif t43 then
    some ((false, ()), ())
  else
    (c_slices_Clone_int_int m_Stack).bind fun r46 =>
    chk (room r46.1.1.length m_Memo.length) <|
    B_i_ValidMachine_L2 k c_slices_Clone_int_int k ((m_Nodes, m_Stack, m_Memo, m_Done, ()), n3, (r46.1.1 ++ m_Memo), len (r46.1.1 ++ m_Memo), 0, ())
def B_i_ValidMachine (k : Nat) (c_slices_Clone_int_int : C_slices_Clone_int_int) (m_0 : List (Int × Int × List Int)) (m_1 m_2 : List Int) (m_3 : Bool) : R_i_ValidMachine :=
  bif decide ((len m_0) > 300) then
    jn (fun t => B_i_ValidMachine_J0 k c_slices_Clone_int_int t.1.1 t.1.2.1 t.1.2.2.1 t.1.2.2.2.1 t.2.1 t.2.2.1) ((m_0, m_1, m_2, m_3, ()), len m_0, true, ())
  else
    bif decide ((len m_1) > 300) then
      jn (fun t => B_i_ValidMachine_J0 k c_slices_Clone_int_int t.1.1 t.1.2.1 t.1.2.2.1 t.1.2.2.2.1 t.2.1 t.2.2.1) ((m_0, m_1, m_2, m_3, ()), len m_0, true, ())
    else
      bif ((len m_2) != 20) then
        jn (fun t => B_i_ValidMachine_J0 k c_slices_Clone_int_int t.1.1 t.1.2.1 t.1.2.2.1 t.1.2.2.2.1 t.2.1 t.2.2.1) ((m_0, m_1, m_2, m_3, ()), len m_0, true, ())
      else
        bif m_3 then
          bif ((len m_1) != 1) then
            jn (fun t => B_i_ValidMachine_J0 k c_slices_Clone_int_int t.1.1 t.1.2.1 t.1.2.2.1 t.1.2.2.2.1 t.2.1 t.2.2.1) ((m_0, m_1, m_2, m_3, ()), len m_0, true, ())
          else
            chk (inb 0 m_1.length) <|
            jn (fun t => B_i_ValidMachine_J0 k c_slices_Clone_int_int t.1.1 t.1.2.1 t.1.2.2.1 t.1.2.2.2.1 t.2.1 t.2.2.1) ((m_0, m_1, m_2, m_3, ()), len m_0, decide ((rdx (0 : Int) m_1 0) < 0), ())
        else
          jn (fun t => B_i_ValidMachine_J0 k c_slices_Clone_int_int t.1.1 t.1.2.1 t.1.2.2.1 t.1.2.2.2.1 t.2.1 t.2.2.1) ((m_0, m_1, m_2, m_3, ()), len m_0, false, ())
def F_i_ValidMachine : Nat → C_i_ValidMachine
  | 0, _, _, _, _ => none
  | k + 1, m_0, m_1, m_2, m_3 => B_i_ValidMachine k (F_slices_Clone_int_int k) m_0 m_1 m_2 m_3
theorem tot_i_ValidMachine {m_0 m_1 m_2 m_3 : _} {Q : _ → Prop} (h : Tot (fun σ => B_i_ValidMachine (σ 0) (F_slices_Clone_int_int (σ 0)) m_0 m_1 m_2 m_3) Q) : Tot (fun σ => F_i_ValidMachine (σ 0) m_0 m_1 m_2 m_3) Q :=
  Tot.call (F := fun k => F_i_ValidMachine k m_0 m_1 m_2 m_3) (B := fun k => B_i_ValidMachine k (F_slices_Clone_int_int k) m_0 m_1 m_2 m_3) (fun k => rfl) h
abbrev A_i_ValidMachine_L5 (Z : Type) : Type := (List (Int × Int × List Int)) → List Int → List Int → Bool → Int → Int → Int → List Int → (List (Int × Int × List Int)) → Int → Int → List Int → Int → Int → Z
abbrev u_i_ValidMachine_L5 {Z : Type} (f : A_i_ValidMachine_L5 Z) (t : T_i_ValidMachine_L5) : Z := f t.1.1 t.1.2.1 t.1.2.2.1 t.1.2.2.2.1 t.2.1 t.2.2.1.1 t.2.2.1.2.1 t.2.2.1.2.2.1 t.2.2.2.1 t.2.2.2.2.1 t.2.2.2.2.2.1 t.2.2.2.2.2.2.1 t.2.2.2.2.2.2.2.1 t.2.2.2.2.2.2.2.2.1
theorem loop_i_ValidMachine_L5 {again6 : (Nat → Nat) → T_i_ValidMachine_L6 → R_i_ValidMachine} (hag6 : Dep 2 again6) {Q : A_i_ValidMachine_L5 (((Bool × Unit) × (Unit)) → Prop)} (I : A_i_ValidMachine_L5 Prop) (μ : A_i_ValidMachine_L5 Nat)
    (step : ∀ a0 a1 a2 a3 a4 a5 a6 a7 a8 a9 a10 a11 a12 a13, I a0 a1 a2 a3 a4 a5 a6 a7 a8 a9 a10 a11 a12 a13 → ∀ again : (Nat → Nat) → T_i_ValidMachine_L5 → R_i_ValidMachine, Dep 3 again → (∀ y0 y1 y2 y3 y4 y5 y6 y7 y8 y9 y10 y11 y12 y13, I y0 y1 y2 y3 y4 y5 y6 y7 y8 y9 y10 y11 y12 y13 → μ y0 y1 y2 y3 y4 y5 y6 y7 y8 y9 y10 y11 y12 y13 < μ a0 a1 a2 a3 a4 a5 a6 a7 a8 a9 a10 a11 a12 a13 → Tot (fun σ => again σ ((y0, y1, y2, y3, ()), y4, (y5, y6, y7, ()), y8, y9, y10, y11, y12, y13, ())) (Q y0 y1 y2 y3 y4 y5 y6 y7 y8 y9 y10 y11 y12 y13)) →
      Tot (fun σ => B_i_ValidMachine_L5b (σ 0) (F_slices_Clone_int_int (σ 0)) (again6 σ) (again σ) a0 a1 a2 a3 a4 a5 a6 a7 a8 a9 a10 a11 a12 a13) (Q a0 a1 a2 a3 a4 a5 a6 a7 a8 a9 a10 a11 a12 a13)) :
    ∀ a0 a1 a2 a3 a4 a5 a6 a7 a8 a9 a10 a11 a12 a13, I a0 a1 a2 a3 a4 a5 a6 a7 a8 a9 a10 a11 a12 a13 → Tot (fun σ => B_i_ValidMachine_L5 (σ 0) (F_slices_Clone_int_int (σ 0)) (again6 σ) (σ 0) ((a0, a1, a2, a3, ()), a4, (a5, a6, a7, ()), a8, a9, a10, a11, a12, a13, ())) (Q a0 a1 a2 a3 a4 a5 a6 a7 a8 a9 a10 a11 a12 a13) := fun a0 a1 a2 a3 a4 a5 a6 a7 a8 a9 a10 a11 a12 a13 => Tot.loop (L := fun σ n t => B_i_ValidMachine_L5 (σ 0) (F_slices_Clone_int_int (σ 0)) (again6 σ) n t) (B := fun σ g => u_i_ValidMachine_L5 (B_i_ValidMachine_L5b (σ 0) (F_slices_Clone_int_int (σ 0)) (again6 σ) g)) (Q := u_i_ValidMachine_L5 Q) 2 (by decide)
    (fun s s' h => by have e0 : s 0 = s' 0 := h 0 (by decide); simp only [e0, hag6 s s' h]) (fun s s' h => by have e0 : s 0 = s' 0 := h 0 (by decide); simp only [e0, hag6 s s' h]) (fun _ _ _ => rfl) (u_i_ValidMachine_L5 I) (u_i_ValidMachine_L5 μ)
    (fun t ht again hag h => step t.1.1 t.1.2.1 t.1.2.2.1 t.1.2.2.2.1 t.2.1 t.2.2.1.1 t.2.2.1.2.1 t.2.2.1.2.2.1 t.2.2.2.1 t.2.2.2.2.1 t.2.2.2.2.2.1 t.2.2.2.2.2.2.1 t.2.2.2.2.2.2.2.1 t.2.2.2.2.2.2.2.2.1 ht again hag fun y0 y1 y2 y3 y4 y5 y6 y7 y8 y9 y10 y11 y12 y13 => h ((y0, y1, y2, y3, ()), y4, (y5, y6, y7, ()), y8, y9, y10, y11, y12, y13, ())) ((a0, a1, a2, a3, ()), a4, (a5, a6, a7, ()), a8, a9, a10, a11, a12, a13, ())
abbrev A_i_ValidMachine_L6 (Z : Type) : Type := (List (Int × Int × List Int)) → List Int → List Int → Bool → Int → (List (Int × Int × List Int)) → Int → Int → Z
abbrev u_i_ValidMachine_L6 {Z : Type} (f : A_i_ValidMachine_L6 Z) (t : T_i_ValidMachine_L6) : Z := f t.1.1 t.1.2.1 t.1.2.2.1 t.1.2.2.2.1 t.2.1 t.2.2.1 t.2.2.2.1 t.2.2.2.2.1
theorem loop_i_ValidMachine_L6 {Q : A_i_ValidMachine_L6 (((Bool × Unit) × (Unit)) → Prop)} (I : A_i_ValidMachine_L6 Prop) (μ : A_i_ValidMachine_L6 Nat)
    (step : ∀ a0 a1 a2 a3 a4 a5 a6 a7, I a0 a1 a2 a3 a4 a5 a6 a7 → ∀ again : (Nat → Nat) → T_i_ValidMachine_L6 → R_i_ValidMachine, Dep 2 again → (∀ y0 y1 y2 y3 y4 y5 y6 y7, I y0 y1 y2 y3 y4 y5 y6 y7 → μ y0 y1 y2 y3 y4 y5 y6 y7 < μ a0 a1 a2 a3 a4 a5 a6 a7 → Tot (fun σ => again σ ((y0, y1, y2, y3, ()), y4, y5, y6, y7, ())) (Q y0 y1 y2 y3 y4 y5 y6 y7)) →
      Tot (fun σ => B_i_ValidMachine_L6b (σ 0) (F_slices_Clone_int_int (σ 0)) (again σ) a0 a1 a2 a3 a4 a5 a6 a7) (Q a0 a1 a2 a3 a4 a5 a6 a7)) :
    ∀ a0 a1 a2 a3 a4 a5 a6 a7, I a0 a1 a2 a3 a4 a5 a6 a7 → Tot (fun σ => B_i_ValidMachine_L6 (σ 0) (F_slices_Clone_int_int (σ 0)) (σ 0) ((a0, a1, a2, a3, ()), a4, a5, a6, a7, ())) (Q a0 a1 a2 a3 a4 a5 a6 a7) := fun a0 a1 a2 a3 a4 a5 a6 a7 => Tot.loop0 (L := fun k => B_i_ValidMachine_L6 k (F_slices_Clone_int_int k)) (B := fun k g => u_i_ValidMachine_L6 (B_i_ValidMachine_L6b k (F_slices_Clone_int_int k) g)) (Q := u_i_ValidMachine_L6 Q) (fun _ _ _ => rfl) (u_i_ValidMachine_L6 I) (u_i_ValidMachine_L6 μ)
    (fun t ht again hag h => step t.1.1 t.1.2.1 t.1.2.2.1 t.1.2.2.2.1 t.2.1 t.2.2.1 t.2.2.2.1 t.2.2.2.2.1 ht again hag fun y0 y1 y2 y3 y4 y5 y6 y7 => h ((y0, y1, y2, y3, ()), y4, y5, y6, y7, ())) ((a0, a1, a2, a3, ()), a4, a5, a6, a7, ())
abbrev A_i_ValidMachine_L2 (Z : Type) : Type := (List (Int × Int × List Int)) → List Int → List Int → Bool → Int → List Int → Int → Int → Z
abbrev u_i_ValidMachine_L2 {Z : Type} (f : A_i_ValidMachine_L2 Z) (t : T_i_ValidMachine_L2) : Z := f t.1.1 t.1.2.1 t.1.2.2.1 t.1.2.2.2.1 t.2.1 t.2.2.1 t.2.2.2.1 t.2.2.2.2.1
theorem loop_i_ValidMachine_L2 {Q : A_i_ValidMachine_L2 (((Bool × Unit) × (Unit)) → Prop)} (I : A_i_ValidMachine_L2 Prop) (μ : A_i_ValidMachine_L2 Nat)
    (step : ∀ a0 a1 a2 a3 a4 a5 a6 a7, I a0 a1 a2 a3 a4 a5 a6 a7 → ∀ again : (Nat → Nat) → T_i_ValidMachine_L2 → R_i_ValidMachine, Dep 2 again → (∀ y0 y1 y2 y3 y4 y5 y6 y7, I y0 y1 y2 y3 y4 y5 y6 y7 → μ y0 y1 y2 y3 y4 y5 y6 y7 < μ a0 a1 a2 a3 a4 a5 a6 a7 → Tot (fun σ => again σ ((y0, y1, y2, y3, ()), y4, y5, y6, y7, ())) (Q y0 y1 y2 y3 y4 y5 y6 y7)) →
      Tot (fun σ => B_i_ValidMachine_L2b (σ 0) (F_slices_Clone_int_int (σ 0)) (again σ) a0 a1 a2 a3 a4 a5 a6 a7) (Q a0 a1 a2 a3 a4 a5 a6 a7)) :
    ∀ a0 a1 a2 a3 a4 a5 a6 a7, I a0 a1 a2 a3 a4 a5 a6 a7 → Tot (fun σ => B_i_ValidMachine_L2 (σ 0) (F_slices_Clone_int_int (σ 0)) (σ 0) ((a0, a1, a2, a3, ()), a4, a5, a6, a7, ())) (Q a0 a1 a2 a3 a4 a5 a6 a7) := fun a0 a1 a2 a3 a4 a5 a6 a7 => Tot.loop0 (L := fun k => B_i_ValidMachine_L2 k (F_slices_Clone_int_int k)) (B := fun k g => u_i_ValidMachine_L2 (B_i_ValidMachine_L2b k (F_slices_Clone_int_int k) g)) (Q := u_i_ValidMachine_L2 Q) (fun _ _ _ => rfl) (u_i_ValidMachine_L2 I) (u_i_ValidMachine_L2 μ)
    (fun t ht again hag h => step t.1.1 t.1.2.1 t.1.2.2.1 t.1.2.2.2.1 t.2.1 t.2.2.1 t.2.2.2.1 t.2.2.2.2.1 ht again hag fun y0 y1 y2 y3 y4 y5 y6 y7 => h ((y0, y1, y2, y3, ()), y4, y5, y6, y7, ())) ((a0, a1, a2, a3, ()), a4, a5, a6, a7, ())
abbrev R_i_mostArg : Type := Option ((Int × Unit) × (Unit))
abbrev C_i_mostArg : Type := Int → R_i_mostArg
def B_i_mostArg_J0 (k : Nat) (t10 : Bool) : R_i_mostArg :=
  bif t10 then
    some ((19, ()), ())
  else
    some ((0, ()), ())
def B_i_mostArg (k : Nat) (code : Int) : R_i_mostArg :=
  bif (code == 0) then
    some ((999, ()), ())
  else
    bif (code == 1) then
      some ((9, ()), ())
    else
      bif (code == 13) then
        some ((9, ()), ())
      else
        bif (code == 15) then
          jn (fun t => B_i_mostArg_J0 k t.1) ((code == 15), ())
        else
          jn (fun t => B_i_mostArg_J0 k t.1) ((code == 16), ())
def F_i_mostArg : Nat → C_i_mostArg
  | 0, _ => none
  | k + 1, code => B_i_mostArg k code
theorem tot_i_mostArg {code : _} {Q : _ → Prop} (h : Tot (fun σ => B_i_mostArg (σ 0) code) Q) : Tot (fun σ => F_i_mostArg (σ 0) code) Q :=
  Tot.call (F := fun k => F_i_mostArg k code) (B := fun k => B_i_mostArg k code) (fun k => rfl) h
abbrev R_i_opOk : Type := Option ((Bool × Unit) × (Unit))
abbrev C_i_opOk : Type := Int → Int → R_i_opOk
def B_i_opOk (k : Nat) (c_i_mostArg : C_i_mostArg) (o_0 o_1 : Int) : R_i_opOk :=
  bif decide (o_0 ≥ 0) then
    bif decide (o_0 ≤ 19) then
      bif decide (o_1 ≥ 0) then
        (c_i_mostArg o_0).bind fun r21 =>
        some ((decide (o_1 ≤ r21.1.1), ()), ())
      else
        some ((false, ()), ())
    else
      some ((false, ()), ())
  else
    some ((false, ()), ())
def F_i_opOk : Nat → C_i_opOk
  | 0, _, _ => none
  | k + 1, o_0, o_1 => B_i_opOk k (F_i_mostArg k) o_0 o_1
theorem tot_i_opOk {o_0 o_1 : _} {Q : _ → Prop} (h : Tot (fun σ => B_i_opOk (σ 0) (F_i_mostArg (σ 0)) o_0 o_1) Q) : Tot (fun σ => F_i_opOk (σ 0) o_0 o_1) Q :=
  Tot.call (F := fun k => F_i_opOk k o_0 o_1) (B := fun k => B_i_opOk k (F_i_mostArg k) o_0 o_1) (fun k => rfl) h
abbrev R_i_copyNodes : Type := Option (((List (Int × Int × List Int)) × Unit) × (Unit))
abbrev C_i_copyNodes : Type := (List (Int × Int × List Int)) → R_i_copyNodes
abbrev T_i_copyNodes_L0 : Type := (List (Int × Int × List Int)) × (List (Int × Int × List Int)) × Int × Int × Unit
def B_i_copyNodes_L0b (k : Nat) (c_slices_Clone_int_int : C_slices_Clone_int_int) (again0 : T_i_copyNodes_L0 → R_i_copyNodes) (out t7 : List (Int × Int × List Int)) (t8 t9 : Int) : R_i_copyNodes :=
  bif decide (t9 < t8) then
    chk (inb t9 t7.length) <|
    (c_slices_Clone_int_int (((rdx ((0 : Int), ((0 : Int), ([] : List Int))) t7 t9).2).2)).bind fun r20 =>
    chk (room out.length ([((rdx ((0 : Int), ((0 : Int), ([] : List Int))) t7 t9).1, (((rdx ((0 : Int), ((0 : Int), ([] : List Int))) t7 t9).2).1, r20.1.1))]).length) <|
    again0 ((out ++ [((rdx ((0 : Int), ((0 : Int), ([] : List Int))) t7 t9).1, (((rdx ((0 : Int), ((0 : Int), ([] : List Int))) t7 t9).2).1, r20.1.1))]), t7, t8, w64 (t9 + 1), ())
  else
    some ((out, ()), ())
def B_i_copyNodes_L0 (k : Nat) (c_slices_Clone_int_int : C_slices_Clone_int_int) (n : Nat) (t : T_i_copyNodes_L0) : R_i_copyNodes :=
  lfix n (fun again t => B_i_copyNodes_L0b k c_slices_Clone_int_int again t.1 t.2.1 t.2.2.1 t.2.2.2.1) t
def B_i_copyNodes (k : Nat) (c_slices_Clone_int_int : C_slices_Clone_int_int) (nodes : List (Int × Int × List Int)) : R_i_copyNodes :=
  B_i_copyNodes_L0 k c_slices_Clone_int_int k ([], nodes, len nodes, 0, ())
def F_i_copyNodes : Nat → C_i_copyNodes
  | 0, _ => none
  | k + 1, nodes => B_i_copyNodes k (F_slices_Clone_int_int k) nodes
theorem tot_i_copyNodes {nodes : _} {Q : _ → Prop} (h : Tot (fun σ => B_i_copyNodes (σ 0) (F_slices_Clone_int_int (σ 0)) nodes) Q) : Tot (fun σ => F_i_copyNodes (σ 0) nodes) Q :=
  Tot.call (F := fun k => F_i_copyNodes k nodes) (B := fun k => B_i_copyNodes k (F_slices_Clone_int_int k) nodes) (fun k => rfl) h
abbrev A_i_copyNodes_L0 (Z : Type) : Type := (List (Int × Int × List Int)) → (List (Int × Int × List Int)) → Int → Int → Z
abbrev u_i_copyNodes_L0 {Z : Type} (f : A_i_copyNodes_L0 Z) (t : T_i_copyNodes_L0) : Z := f t.1 t.2.1 t.2.2.1 t.2.2.2.1
theorem loop_i_copyNodes_L0 {Q : A_i_copyNodes_L0 ((((List (Int × Int × List Int)) × Unit) × (Unit)) → Prop)} (I : A_i_copyNodes_L0 Prop) (μ : A_i_copyNodes_L0 Nat)
    (step : ∀ a0 a1 a2 a3, I a0 a1 a2 a3 → ∀ again : (Nat → Nat) → T_i_copyNodes_L0 → R_i_copyNodes, Dep 2 again → (∀ y0 y1 y2 y3, I y0 y1 y2 y3 → μ y0 y1 y2 y3 < μ a0 a1 a2 a3 → Tot (fun σ => again σ (y0, y1, y2, y3, ())) (Q y0 y1 y2 y3)) →
      Tot (fun σ => B_i_copyNodes_L0b (σ 0) (F_slices_Clone_int_int (σ 0)) (again σ) a0 a1 a2 a3) (Q a0 a1 a2 a3)) :
    ∀ a0 a1 a2 a3, I a0 a1 a2 a3 → Tot (fun σ => B_i_copyNodes_L0 (σ 0) (F_slices_Clone_int_int (σ 0)) (σ 0) (a0, a1, a2, a3, ())) (Q a0 a1 a2 a3) := fun a0 a1 a2 a3 => Tot.loop0 (L := fun k => B_i_copyNodes_L0 k (F_slices_Clone_int_int k)) (B := fun k g => u_i_copyNodes_L0 (B_i_copyNodes_L0b k (F_slices_Clone_int_int k) g)) (Q := u_i_copyNodes_L0 Q) (fun _ _ _ => rfl) (u_i_copyNodes_L0 I) (u_i_copyNodes_L0 μ)
    (fun t ht again hag h => step t.1 t.2.1 t.2.2.1 t.2.2.2.1 ht again hag fun y0 y1 y2 y3 => h (y0, y1, y2, y3, ())) (a0, a1, a2, a3, ())
abbrev R_i_copyMachine : Type := Option ((((List (Int × Int × List Int)) × List Int × List Int × Bool × Unit) × Unit) × (Unit))
abbrev C_i_copyMachine : Type := (List (Int × Int × List Int)) → List Int → List Int → Bool → R_i_copyMachine
def B_i_copyMachine (k : Nat) (c_i_copyNodes : C_i_copyNodes) (c_slices_Clone_int_int : C_slices_Clone_int_int) (m_0 : List (Int × Int × List Int)) (m_1 m_2 : List Int) (m_3 : Bool) : R_i_copyMachine :=
  (c_i_copyNodes m_0).bind fun r5 =>
  (c_slices_Clone_int_int m_1).bind fun r8 =>
  (c_slices_Clone_int_int m_2).bind fun r11 =>
  some (((r5.1.1, r8.1.1, r11.1.1, m_3, ()), ()), ())
def F_i_copyMachine : Nat → C_i_copyMachine
  | 0, _, _, _, _ => none
  | k + 1, m_0, m_1, m_2, m_3 => B_i_copyMachine k (F_i_copyNodes k) (F_slices_Clone_int_int k) m_0 m_1 m_2 m_3
theorem tot_i_copyMachine {m_0 m_1 m_2 m_3 : _} {Q : _ → Prop} (h : Tot (fun σ => B_i_copyMachine (σ 0) (F_i_copyNodes (σ 0)) (F_slices_Clone_int_int (σ 0)) m_0 m_1 m_2 m_3) Q) : Tot (fun σ => F_i_copyMachine (σ 0) m_0 m_1 m_2 m_3) Q :=
  Tot.call (F := fun k => F_i_copyMachine k m_0 m_1 m_2 m_3) (B := fun k => B_i_copyMachine k (F_i_copyNodes k) (F_slices_Clone_int_int k) m_0 m_1 m_2 m_3) (fun k => rfl) h
abbrev R_i_Machine_nodes : Type := Option ((Int × Unit) × (((List (Int × Int × List Int)) × List Int × List Int × Bool × Unit) × Unit))
abbrev C_i_Machine_nodes : Type := (List (Int × Int × List Int)) → List Int → List Int → Bool → R_i_Machine_nodes
abbrev T_i_Machine_nodes_L1 : Type := ((List (Int × Int × List Int)) × List Int × List Int × Bool × Unit) × Int × Unit
def B_i_Machine_nodes_J0 (k : Nat) (again1 : T_i_Machine_nodes_L1 → R_i_Machine_nodes) (m_Nodes : List (Int × Int × List Int)) (m_Stack m_Memo : List Int) (m_Done : Bool) (n3 : Int) (t27 : Bool) : R_i_Machine_nodes :=
  bif t27 then
    again1 ((m_Nodes, m_Stack, m_Memo, m_Done, ()), w64 (n3 + 1), ())
  else
    some ((n3, ()), ((m_Nodes, m_Stack, m_Memo, m_Done, ()), ()))
def B_i_Machine_nodes_L1b (k : Nat) (again1 : T_i_Machine_nodes_L1 → R_i_Machine_nodes) (m_Nodes : List (Int × Int × List Int)) (m_Stack m_Memo : List Int) (m_Done : Bool) (n3 : Int) : R_i_Machine_nodes :=
  bif decide (n3 < (len m_Stack)) then
    chk (inb (w64 ((w64 ((len m_Stack) - 1)) - n3)) m_Stack.length) <|
    chk (decide ((w64 ((w64 ((len m_Stack) - 1)) - n3)).toNat < m_Stack.length)) <|
    jn (fun t => B_i_Machine_nodes_J0 k again1 t.1.1 t.1.2.1 t.1.2.2.1 t.1.2.2.2.1 t.2.1 t.2.2.1) ((m_Nodes, m_Stack, m_Memo, m_Done, ()), n3, decide ((m_Stack.getD ((w64 ((w64 ((len m_Stack) - 1)) - n3)).toNat) (0 : Int)) ≥ 0), ())
  else
    jn (fun t => B_i_Machine_nodes_J0 k again1 t.1.1 t.1.2.1 t.1.2.2.1 t.1.2.2.2.1 t.2.1 t.2.2.1) ((m_Nodes, m_Stack, m_Memo, m_Done, ()), n3, false, ())
def B_i_Machine_nodes_L1 (k : Nat) (n : Nat) (t : T_i_Machine_nodes_L1) : R_i_Machine_nodes :=
  lfix n (fun again t => B_i_Machine_nodes_L1b k again t.1.1 t.1.2.1 t.1.2.2.1 t.1.2.2.2.1 t.2.1) t
def B_i_Machine_nodes (k : Nat) (m_Nodes : List (Int × Int × List Int)) (m_Stack m_Memo : List Int) (m_Done : Bool) : R_i_Machine_nodes :=
  B_i_Machine_nodes_L1 k k ((m_Nodes, m_Stack, m_Memo, m_Done, ()), 0, ())
def F_i_Machine_nodes : Nat → C_i_Machine_nodes
  | 0, _, _, _, _ => none
  | k + 1, m_Nodes, m_Stack, m_Memo, m_Done => B_i_Machine_nodes k m_Nodes m_Stack m_Memo m_Done
theorem tot_i_Machine_nodes {m_Nodes m_Stack m_Memo m_Done : _} {Q : _ → Prop} (h : Tot (fun σ => B_i_Machine_nodes (σ 0) m_Nodes m_Stack m_Memo m_Done) Q) : Tot (fun σ => F_i_Machine_nodes (σ 0) m_Nodes m_Stack m_Memo m_Done) Q :=
  Tot.call (F := fun k => F_i_Machine_nodes k m_Nodes m_Stack m_Memo m_Done) (B := fun k => B_i_Machine_nodes k m_Nodes m_Stack m_Memo m_Done) (fun k => rfl) h
abbrev A_i_Machine_nodes_L1 (Z : Type) : Type := (List (Int × Int × List Int)) → List Int → List Int → Bool → Int → Z
abbrev u_i_Machine_nodes_L1 {Z : Type} (f : A_i_Machine_nodes_L1 Z) (t : T_i_Machine_nodes_L1) : Z := f t.1.1 t.1.2.1 t.1.2.2.1 t.1.2.2.2.1 t.2.1
theorem loop_i_Machine_nodes_L1 {Q : A_i_Machine_nodes_L1 (((Int × Unit) × (((List (Int × Int × List Int)) × List Int × List Int × Bool × Unit) × Unit)) → Prop)} (I : A_i_Machine_nodes_L1 Prop) (μ : A_i_Machine_nodes_L1 Nat)
    (step : ∀ a0 a1 a2 a3 a4, I a0 a1 a2 a3 a4 → ∀ again : (Nat → Nat) → T_i_Machine_nodes_L1 → R_i_Machine_nodes, Dep 2 again → (∀ y0 y1 y2 y3 y4, I y0 y1 y2 y3 y4 → μ y0 y1 y2 y3 y4 < μ a0 a1 a2 a3 a4 → Tot (fun σ => again σ ((y0, y1, y2, y3, ()), y4, ())) (Q y0 y1 y2 y3 y4)) →
      Tot (fun σ => B_i_Machine_nodes_L1b (σ 0) (again σ) a0 a1 a2 a3 a4) (Q a0 a1 a2 a3 a4)) :
    ∀ a0 a1 a2 a3 a4, I a0 a1 a2 a3 a4 → Tot (fun σ => B_i_Machine_nodes_L1 (σ 0) (σ 0) ((a0, a1, a2, a3, ()), a4, ())) (Q a0 a1 a2 a3 a4) := fun a0 a1 a2 a3 a4 => Tot.loop0 (L := fun k => B_i_Machine_nodes_L1 k) (B := fun k g => u_i_Machine_nodes_L1 (B_i_Machine_nodes_L1b k g)) (Q := u_i_Machine_nodes_L1 Q) (fun _ _ _ => rfl) (u_i_Machine_nodes_L1 I) (u_i_Machine_nodes_L1 μ)
    (fun t ht again hag h => step t.1.1 t.1.2.1 t.1.2.2.1 t.1.2.2.2.1 t.2.1 ht again hag fun y0 y1 y2 y3 y4 => h ((y0, y1, y2, y3, ()), y4, ())) ((a0, a1, a2, a3, ()), a4, ())
abbrev R_i_Machine_push : Type := Option ((Bool × Unit) × (((List (Int × Int × List Int)) × List Int × List Int × Bool × Unit) × Unit))
abbrev C_i_Machine_push : Type := (List (Int × Int × List Int)) → List Int → List Int → Bool → Int → R_i_Machine_push
def B_i_Machine_push (k : Nat) (m_Nodes : List (Int × Int × List Int)) (m_Stack m_Memo : List Int) (m_Done : Bool) (i : Int) : R_i_Machine_push :=
  chk (room m_Stack.length ([i]).length) <|
  some ((decide ((len (m_Stack ++ [i])) ≤ 300), ()), ((m_Nodes, (m_Stack ++ [i]), m_Memo, m_Done, ()), ()))
def F_i_Machine_push : Nat → C_i_Machine_push
  | 0, _, _, _, _, _ => none
  | k + 1, m_Nodes, m_Stack, m_Memo, m_Done, i => B_i_Machine_push k m_Nodes m_Stack m_Memo m_Done i
theorem tot_i_Machine_push {m_Nodes m_Stack m_Memo m_Done i : _} {Q : _ → Prop} (h : Tot (fun σ => B_i_Machine_push (σ 0) m_Nodes m_Stack m_Memo m_Done i) Q) : Tot (fun σ => F_i_Machine_push (σ 0) m_Nodes m_Stack m_Memo m_Done i) Q :=
  Tot.call (F := fun k => F_i_Machine_push k m_Nodes m_Stack m_Memo m_Done i) (B := fun k => B_i_Machine_push k m_Nodes m_Stack m_Memo m_Done i) (fun k => rfl) h
abbrev R_i_Machine_make : Type := Option ((Bool × Unit) × (((List (Int × Int × List Int)) × List Int × List Int × Bool × Unit) × Unit))
abbrev C_i_Machine_make : Type := (List (Int × Int × List Int)) → List Int → List Int → Bool → Int → Int → List Int → R_i_Machine_make
def B_i_Machine_make (k : Nat) (c_slices_Clone_int_int : C_slices_Clone_int_int) (c_i_Machine_push : C_i_Machine_push) (m_Nodes : List (Int × Int × List Int)) (m_Stack m_Memo : List Int) (m_Done : Bool) (kind value : Int) (kids : List Int) : R_i_Machine_make :=
  (c_slices_Clone_int_int kids).bind fun r17 =>
  chk (room m_Nodes.length ([(kind, (value, r17.1.1))]).length) <|
  bif decide ((len (m_Nodes ++ [(kind, (value, r17.1.1))])) ≤ 300) then
    (c_i_Machine_push (m_Nodes ++ [(kind, (value, r17.1.1))]) m_Stack m_Memo m_Done (w64 ((len (m_Nodes ++ [(kind, (value, r17.1.1))])) - 1))).bind fun r37 =>
    some ((r37.1.1, ()), ((r37.2.1.1, r37.2.1.2.1, r37.2.1.2.2.1, r37.2.1.2.2.2.1, ()), ()))
  else
    some ((false, ()), (((m_Nodes ++ [(kind, (value, r17.1.1))]), m_Stack, m_Memo, m_Done, ()), ()))
def F_i_Machine_make : Nat → C_i_Machine_make
  | 0, _, _, _, _, _, _, _ => none
  | k + 1, m_Nodes, m_Stack, m_Memo, m_Done, kind, value, kids => B_i_Machine_make k (F_slices_Clone_int_int k) (F_i_Machine_push k) m_Nodes m_Stack m_Memo m_Done kind value kids
theorem tot_i_Machine_make {m_Nodes m_Stack m_Memo m_Done kind value kids : _} {Q : _ → Prop} (h : Tot (fun σ => B_i_Machine_make (σ 0) (F_slices_Clone_int_int (σ 0)) (F_i_Machine_push (σ 0)) m_Nodes m_Stack m_Memo m_Done kind value kids) Q) : Tot (fun σ => F_i_Machine_make (σ 0) m_Nodes m_Stack m_Memo m_Done kind value kids) Q :=
  Tot.call (F := fun k => F_i_Machine_make k m_Nodes m_Stack m_Memo m_Done kind value kids) (B := fun k => B_i_Machine_make k (F_slices_Clone_int_int k) (F_i_Machine_push k) m_Nodes m_Stack m_Memo m_Done kind value kids) (fun k => rfl) h
abbrev R_i_Machine_take : Type := Option ((List Int × Unit) × (((List (Int × Int × List Int)) × List Int × List Int × Bool × Unit) × Unit))
abbrev C_i_Machine_take : Type := (List (Int × Int × List Int)) → List Int → List Int → Bool → Int → R_i_Machine_take
def B_i_Machine_take (k : Nat) (c_slices_Clone_int_int : C_slices_Clone_int_int) (m_Nodes : List (Int × Int × List Int)) (m_Stack m_Memo : List Int) (m_Done : Bool) (n1 : Int) : R_i_Machine_take :=
  chk (cutb (w64 ((len m_Stack) - n1)) (len m_Stack) m_Stack.length) <|
  (c_slices_Clone_int_int ((m_Stack.take ((len m_Stack).toNat)).drop ((w64 ((len m_Stack) - n1)).toNat))).bind fun r20 =>
  chk (cutb 0 (w64 ((len m_Stack) - n1)) m_Stack.length) <|
  some ((r20.1.1, ()), ((m_Nodes, (m_Stack.take ((w64 ((len m_Stack) - n1)).toNat)), m_Memo, m_Done, ()), ()))
def F_i_Machine_take : Nat → C_i_Machine_take
  | 0, _, _, _, _, _ => none
  | k + 1, m_Nodes, m_Stack, m_Memo, m_Done, n1 => B_i_Machine_take k (F_slices_Clone_int_int k) m_Nodes m_Stack m_Memo m_Done n1
theorem tot_i_Machine_take {m_Nodes m_Stack m_Memo m_Done n1 : _} {Q : _ → Prop} (h : Tot (fun σ => B_i_Machine_take (σ 0) (F_slices_Clone_int_int (σ 0)) m_Nodes m_Stack m_Memo m_Done n1) Q) : Tot (fun σ => F_i_Machine_take (σ 0) m_Nodes m_Stack m_Memo m_Done n1) Q :=
  Tot.call (F := fun k => F_i_Machine_take k m_Nodes m_Stack m_Memo m_Done n1) (B := fun k => B_i_Machine_take k (F_slices_Clone_int_int k) m_Nodes m_Stack m_Memo m_Done n1) (fun k => rfl) h
abbrev R_i_Machine_above : Type := Option ((List Int × Bool × Unit) × (((List (Int × Int × List Int)) × List Int × List Int × Bool × Unit) × Unit))
abbrev C_i_Machine_above : Type := (List (Int × Int × List Int)) → List Int → List Int → Bool → R_i_Machine_above
def B_i_Machine_above (k : Nat) (c_i_Machine_nodes : C_i_Machine_nodes) (c_i_Machine_take : C_i_Machine_take) (m_Nodes : List (Int × Int × List Int)) (m_Stack m_Memo : List Int) (m_Done : Bool) : R_i_Machine_above :=
  (c_i_Machine_nodes m_Nodes m_Stack m_Memo m_Done).bind fun r6 =>
  bif (r6.1.1 == (len r6.2.1.2.1)) then
    some (([], false, ()), ((r6.2.1.1, r6.2.1.2.1, r6.2.1.2.2.1, r6.2.1.2.2.2.1, ()), ()))
  else
    (c_i_Machine_take r6.2.1.1 r6.2.1.2.1 r6.2.1.2.2.1 r6.2.1.2.2.2.1 (w64 (r6.1.1 + 1))).bind fun r17 =>
    chk (cutb 1 (len r17.1.1) r17.1.1.length) <|
    some ((((r17.1.1.take ((len r17.1.1).toNat)).drop ((1 : Int).toNat)), true, ()), ((r17.2.1.1, r17.2.1.2.1, r17.2.1.2.2.1, r17.2.1.2.2.2.1, ()), ()))
def F_i_Machine_above : Nat → C_i_Machine_above
  | 0, _, _, _, _ => none
  | k + 1, m_Nodes, m_Stack, m_Memo, m_Done => B_i_Machine_above k (F_i_Machine_nodes k) (F_i_Machine_take k) m_Nodes m_Stack m_Memo m_Done
theorem tot_i_Machine_above {m_Nodes m_Stack m_Memo m_Done : _} {Q : _ → Prop} (h : Tot (fun σ => B_i_Machine_above (σ 0) (F_i_Machine_nodes (σ 0)) (F_i_Machine_take (σ 0)) m_Nodes m_Stack m_Memo m_Done) Q) : Tot (fun σ => F_i_Machine_above (σ 0) m_Nodes m_Stack m_Memo m_Done) Q :=
  Tot.call (F := fun k => F_i_Machine_above k m_Nodes m_Stack m_Memo m_Done) (B := fun k => B_i_Machine_above k (F_i_Machine_nodes k) (F_i_Machine_take k) m_Nodes m_Stack m_Memo m_Done) (fun k => rfl) h
abbrev R_i_Machine_top : Type := Option ((Option Nat × Bool × Unit) × (((List (Int × Int × List Int)) × List Int × List Int × Bool × Unit) × Unit))
abbrev C_i_Machine_top : Type := (List (Int × Int × List Int)) → List Int → List Int → Bool → Int → R_i_Machine_top
def B_i_Machine_top (k : Nat) (c_i_Machine_nodes : C_i_Machine_nodes) (m_Nodes : List (Int × Int × List Int)) (m_Stack m_Memo : List Int) (m_Done : Bool) (kind : Int) : R_i_Machine_top :=
  (c_i_Machine_nodes m_Nodes m_Stack m_Memo m_Done).bind fun r8 =>
  bif (r8.1.1 == 0) then
    some ((none, false, ()), ((r8.2.1.1, r8.2.1.2.1, r8.2.1.2.2.1, r8.2.1.2.2.2.1, ()), ()))
  else
    chk (inb (w64 ((len r8.2.1.2.1) - 1)) r8.2.1.2.1.length) <|
    chk (decide ((w64 ((len r8.2.1.2.1) - 1)).toNat < r8.2.1.2.1.length)) <|
    chk (inb (r8.2.1.2.1.getD ((w64 ((len r8.2.1.2.1) - 1)).toNat) (0 : Int)) r8.2.1.1.length) <|
    chk (decide ((r8.2.1.2.1.getD ((w64 ((len r8.2.1.2.1) - 1)).toNat) (0 : Int)).toNat < r8.2.1.1.length)) <|
    let v31 : Int := (r8.2.1.1.getD ((r8.2.1.2.1.getD ((w64 ((len r8.2.1.2.1) - 1)).toNat) (0 : Int)).toNat) ((0 : Int), ((0 : Int), ([] : List Int)))).1
    some (((some ((r8.2.1.2.1.getD ((w64 ((len r8.2.1.2.1) - 1)).toNat) (0 : Int)).toNat)), (v31 == kind), ()), ((r8.2.1.1, r8.2.1.2.1, r8.2.1.2.2.1, r8.2.1.2.2.2.1, ()), ()))
def F_i_Machine_top : Nat → C_i_Machine_top
  | 0, _, _, _, _, _ => none
  | k + 1, m_Nodes, m_Stack, m_Memo, m_Done, kind => B_i_Machine_top k (F_i_Machine_nodes k) m_Nodes m_Stack m_Memo m_Done kind
theorem tot_i_Machine_top {m_Nodes m_Stack m_Memo m_Done kind : _} {Q : _ → Prop} (h : Tot (fun σ => B_i_Machine_top (σ 0) (F_i_Machine_nodes (σ 0)) m_Nodes m_Stack m_Memo m_Done kind) Q) : Tot (fun σ => F_i_Machine_top (σ 0) m_Nodes m_Stack m_Memo m_Done kind) Q :=
  Tot.call (F := fun k => F_i_Machine_top k m_Nodes m_Stack m_Memo m_Done kind) (B := fun k => B_i_Machine_top k (F_i_Machine_nodes k) m_Nodes m_Stack m_Memo m_Done kind) (fun k => rfl) h
abbrev R_i_findKey : Type := Option ((Int × Unit) × (Unit))
abbrev C_i_findKey : Type := (List (Int × Int × List Int)) → List Int → Int → Int → R_i_findKey
abbrev T_i_findKey_L1 : Type := (List (Int × Int × List Int)) × List Int × (Int × Int × Unit × Unit) × Int × Unit
def B_i_findKey_J0 (k : Nat) (again1 : T_i_findKey_L1 → R_i_findKey) (nodes : List (Int × Int × List Int)) (kids : List Int) (key_Kind key_Value i : Int) (t33 : Bool) : R_i_findKey :=
  bif t33 then
    some ((i, ()), ())
  else
    again1 (nodes, kids, (key_Kind, key_Value, (), ()), w64 (i + 2), ())
def B_i_findKey_L1b (k : Nat) (again1 : T_i_findKey_L1 → R_i_findKey) (nodes : List (Int × Int × List Int)) (kids : List Int) (key_Kind key_Value i : Int) : R_i_findKey :=
  bif decide (i < (len kids)) then
    chk (inb i kids.length) <|
    chk (inb (rdx (0 : Int) kids i) nodes.length) <|
    let v26 : Bool := (((rdx ((0 : Int), ((0 : Int), ([] : List Int))) nodes (rdx (0 : Int) kids i)).1) == key_Kind)
    bif v26 then
      let v32 : Bool := ((((rdx ((0 : Int), ((0 : Int), ([] : List Int))) nodes (rdx (0 : Int) kids i)).2).1) == key_Value)
      jn (fun t => B_i_findKey_J0 k again1 t.1 t.2.1 t.2.2.1.1 t.2.2.1.2.1 t.2.2.2.1 t.2.2.2.2.1) (nodes, kids, (key_Kind, key_Value, (), ()), i, v32, ())
    else
      jn (fun t => B_i_findKey_J0 k again1 t.1 t.2.1 t.2.2.1.1 t.2.2.1.2.1 t.2.2.2.1 t.2.2.2.2.1) (nodes, kids, (key_Kind, key_Value, (), ()), i, false, ())
  else
    some (((-1), ()), ())
def B_i_findKey_L1 (k : Nat) (n : Nat) (t : T_i_findKey_L1) : R_i_findKey :=
  lfix n (fun again t => B_i_findKey_L1b k again t.1 t.2.1 t.2.2.1.1 t.2.2.1.2.1 t.2.2.2.1) t
def B_i_findKey (k : Nat) (nodes : List (Int × Int × List Int)) (kids : List Int) (key_0 key_1 : Int) : R_i_findKey :=
  B_i_findKey_L1 k k (nodes, kids, (key_0, key_1, (), ()), 0, ())
def F_i_findKey : Nat → C_i_findKey
  | 0, _, _, _, _ => none
  | k + 1, nodes, kids, key_0, key_1 => B_i_findKey k nodes kids key_0 key_1
theorem tot_i_findKey {nodes kids key_0 key_1 : _} {Q : _ → Prop} (h : Tot (fun σ => B_i_findKey (σ 0) nodes kids key_0 key_1) Q) : Tot (fun σ => F_i_findKey (σ 0) nodes kids key_0 key_1) Q :=
  Tot.call (F := fun k => F_i_findKey k nodes kids key_0 key_1) (B := fun k => B_i_findKey k nodes kids key_0 key_1) (fun k => rfl) h
abbrev A_i_findKey_L1 (Z : Type) : Type := (List (Int × Int × List Int)) → List Int → Int → Int → Int → Z
abbrev u_i_findKey_L1 {Z : Type} (f : A_i_findKey_L1 Z) (t : T_i_findKey_L1) : Z := f t.1 t.2.1 t.2.2.1.1 t.2.2.1.2.1 t.2.2.2.1
theorem loop_i_findKey_L1 {Q : A_i_findKey_L1 (((Int × Unit) × (Unit)) → Prop)} (I : A_i_findKey_L1 Prop) (μ : A_i_findKey_L1 Nat)
    (step : ∀ a0 a1 a2 a3 a4, I a0 a1 a2 a3 a4 → ∀ again : (Nat → Nat) → T_i_findKey_L1 → R_i_findKey, Dep 2 again → (∀ y0 y1 y2 y3 y4, I y0 y1 y2 y3 y4 → μ y0 y1 y2 y3 y4 < μ a0 a1 a2 a3 a4 → Tot (fun σ => again σ (y0, y1, (y2, y3, (), ()), y4, ())) (Q y0 y1 y2 y3 y4)) →
      Tot (fun σ => B_i_findKey_L1b (σ 0) (again σ) a0 a1 a2 a3 a4) (Q a0 a1 a2 a3 a4)) :
    ∀ a0 a1 a2 a3 a4, I a0 a1 a2 a3 a4 → Tot (fun σ => B_i_findKey_L1 (σ 0) (σ 0) (a0, a1, (a2, a3, (), ()), a4, ())) (Q a0 a1 a2 a3 a4) := fun a0 a1 a2 a3 a4 => Tot.loop0 (L := fun k => B_i_findKey_L1 k) (B := fun k g => u_i_findKey_L1 (B_i_findKey_L1b k g)) (Q := u_i_findKey_L1 Q) (fun _ _ _ => rfl) (u_i_findKey_L1 I) (u_i_findKey_L1 μ)
    (fun t ht again hag h => step t.1 t.2.1 t.2.2.1.1 t.2.2.1.2.1 t.2.2.2.1 ht again hag fun y0 y1 y2 y3 y4 => h (y0, y1, (y2, y3, (), ()), y4, ())) (a0, a1, (a2, a3, (), ()), a4, ())
abbrev R_i_Machine_set : Type := Option ((Bool × Unit) × (((List (Int × Int × List Int)) × List Int × List Int × Bool × Unit) × Unit))
abbrev C_i_Machine_set : Type := (List (Int × Int × List Int)) → List Int → List Int → Bool → List Int → R_i_Machine_set
abbrev T_i_Machine_set_L3 : Type := ((List (Int × Int × List Int)) × List Int × List Int × Bool × Unit) × List Int × Int × Option Nat × Unit
abbrev T_i_Machine_set_L1 : Type := ((List (Int × Int × List Int)) × List Int × List Int × Bool × Unit) × List Int × Int × Option Nat × Unit
def B_i_Machine_set_J2 (k : Nat) (c_i_Machine_top : C_i_Machine_top) (c_i_findKey : C_i_findKey) (again3 : T_i_Machine_set_L3 → R_i_Machine_set) (m_Nodes : List (Int × Int × List Int)) (m_Stack m_Memo : List Int) (m_Done : Bool) (pairs : List Int) (i : Int) (x : Option Nat) : R_i_Machine_set :=
  again3 ((m_Nodes, m_Stack, m_Memo, m_Done, ()), pairs, w64 (i + 2), x, ())
def B_i_Machine_set_L3b (k : Nat) (c_i_Machine_top : C_i_Machine_top) (c_i_findKey : C_i_findKey) (again3 : T_i_Machine_set_L3 → R_i_Machine_set) (m_Nodes : List (Int × Int × List Int)) (m_Stack m_Memo : List Int) (m_Done : Bool) (pairs : List Int) (i : Int) (x : Option Nat) : R_i_Machine_set :=
  bif decide (i < (len pairs)) then
    chk (inb i pairs.length) <|
    chk (inb (rdx (0 : Int) pairs i) m_Nodes.length) <|
    chk (decide ((rdx (0 : Int) pairs i).toNat < m_Nodes.length)) <|
    (x).bind fun p16 =>
    chk (decide (p16 < m_Nodes.length)) <|
    (c_i_findKey (m_Nodes.set p16 ((m_Nodes.getD p16 ((0 : Int), ((0 : Int), ([] : List Int)))).1, (((m_Nodes.getD p16 ((0 : Int), ((0 : Int), ([] : List Int)))).2).1, ((m_Nodes.getD p16 ((0 : Int), ((0 : Int), ([] : List Int)))).2).2))) (((m_Nodes.getD p16 ((0 : Int), ((0 : Int), ([] : List Int)))).2).2) ((m_Nodes.getD ((rdx (0 : Int) pairs i).toNat) ((0 : Int), ((0 : Int), ([] : List Int)))).1) (((m_Nodes.getD ((rdx (0 : Int) pairs i).toNat) ((0 : Int), ((0 : Int), ([] : List Int)))).2).1)).bind fun r67 =>
    bif decide (r67.1.1 ≥ 0) then
      (x).bind fun p17 =>
      chk (decide (p17 < (m_Nodes.set p16 ((m_Nodes.getD p16 ((0 : Int), ((0 : Int), ([] : List Int)))).1, (((m_Nodes.getD p16 ((0 : Int), ((0 : Int), ([] : List Int)))).2).1, ((m_Nodes.getD p16 ((0 : Int), ((0 : Int), ([] : List Int)))).2).2))).length)) <|
      chk (inb (w64 (i + 1)) pairs.length) <|
      chk (inb (w64 (r67.1.1 + 1)) ((((m_Nodes.set p16 ((m_Nodes.getD p16 ((0 : Int), ((0 : Int), ([] : List Int)))).1, (((m_Nodes.getD p16 ((0 : Int), ((0 : Int), ([] : List Int)))).2).1, ((m_Nodes.getD p16 ((0 : Int), ((0 : Int), ([] : List Int)))).2).2))).getD p17 ((0 : Int), ((0 : Int), ([] : List Int)))).2).2).length) <|
      chk (decide ((w64 (r67.1.1 + 1)).toNat < ((((m_Nodes.set p16 ((m_Nodes.getD p16 ((0 : Int), ((0 : Int), ([] : List Int)))).1, (((m_Nodes.getD p16 ((0 : Int), ((0 : Int), ([] : List Int)))).2).1, ((m_Nodes.getD p16 ((0 : Int), ((0 : Int), ([] : List Int)))).2).2))).getD p17 ((0 : Int), ((0 : Int), ([] : List Int)))).2).2).length)) <|
      let w18 : List (Int × Int × List Int) := ((m_Nodes.set p16 ((m_Nodes.getD p16 ((0 : Int), ((0 : Int), ([] : List Int)))).1, (((m_Nodes.getD p16 ((0 : Int), ((0 : Int), ([] : List Int)))).2).1, ((m_Nodes.getD p16 ((0 : Int), ((0 : Int), ([] : List Int)))).2).2))).set p17 (((m_Nodes.set p16 ((m_Nodes.getD p16 ((0 : Int), ((0 : Int), ([] : List Int)))).1, (((m_Nodes.getD p16 ((0 : Int), ((0 : Int), ([] : List Int)))).2).1, ((m_Nodes.getD p16 ((0 : Int), ((0 : Int), ([] : List Int)))).2).2))).getD p17 ((0 : Int), ((0 : Int), ([] : List Int)))).1, ((((m_Nodes.set p16 ((m_Nodes.getD p16 ((0 : Int), ((0 : Int), ([] : List Int)))).1, (((m_Nodes.getD p16 ((0 : Int), ((0 : Int), ([] : List Int)))).2).1, ((m_Nodes.getD p16 ((0 : Int), ((0 : Int), ([] : List Int)))).2).2))).getD p17 ((0 : Int), ((0 : Int), ([] : List Int)))).2).1, (((((m_Nodes.set p16 ((m_Nodes.getD p16 ((0 : Int), ((0 : Int), ([] : List Int)))).1, (((m_Nodes.getD p16 ((0 : Int), ((0 : Int), ([] : List Int)))).2).1, ((m_Nodes.getD p16 ((0 : Int), ((0 : Int), ([] : List Int)))).2).2))).getD p17 ((0 : Int), ((0 : Int), ([] : List Int)))).2).2).set ((w64 (r67.1.1 + 1)).toNat) (rdx (0 : Int) pairs (w64 (i + 1)))))))
      jn (fun t => B_i_Machine_set_J2 k c_i_Machine_top c_i_findKey again3 t.1.1 t.1.2.1 t.1.2.2.1 t.1.2.2.2.1 t.2.1 t.2.2.1 t.2.2.2.1) ((w18, m_Stack, m_Memo, m_Done, ()), pairs, i, x, ())
    else
      (x).bind fun p19 =>
      chk (decide (p19 < (m_Nodes.set p16 ((m_Nodes.getD p16 ((0 : Int), ((0 : Int), ([] : List Int)))).1, (((m_Nodes.getD p16 ((0 : Int), ((0 : Int), ([] : List Int)))).2).1, ((m_Nodes.getD p16 ((0 : Int), ((0 : Int), ([] : List Int)))).2).2))).length)) <|
      chk (inb i pairs.length) <|
      chk (inb (w64 (i + 1)) pairs.length) <|
      chk (room ((((m_Nodes.set p16 ((m_Nodes.getD p16 ((0 : Int), ((0 : Int), ([] : List Int)))).1, (((m_Nodes.getD p16 ((0 : Int), ((0 : Int), ([] : List Int)))).2).1, ((m_Nodes.getD p16 ((0 : Int), ((0 : Int), ([] : List Int)))).2).2))).getD p19 ((0 : Int), ((0 : Int), ([] : List Int)))).2).2).length ([(rdx (0 : Int) pairs i), (rdx (0 : Int) pairs (w64 (i + 1)))]).length) <|
      (x).bind fun p20 =>
      chk (decide (p20 = p19)) <|
      let w21 : List (Int × Int × List Int) := ((m_Nodes.set p16 ((m_Nodes.getD p16 ((0 : Int), ((0 : Int), ([] : List Int)))).1, (((m_Nodes.getD p16 ((0 : Int), ((0 : Int), ([] : List Int)))).2).1, ((m_Nodes.getD p16 ((0 : Int), ((0 : Int), ([] : List Int)))).2).2))).set p20 (((m_Nodes.set p16 ((m_Nodes.getD p16 ((0 : Int), ((0 : Int), ([] : List Int)))).1, (((m_Nodes.getD p16 ((0 : Int), ((0 : Int), ([] : List Int)))).2).1, ((m_Nodes.getD p16 ((0 : Int), ((0 : Int), ([] : List Int)))).2).2))).getD p20 ((0 : Int), ((0 : Int), ([] : List Int)))).1, ((((m_Nodes.set p16 ((m_Nodes.getD p16 ((0 : Int), ((0 : Int), ([] : List Int)))).1, (((m_Nodes.getD p16 ((0 : Int), ((0 : Int), ([] : List Int)))).2).1, ((m_Nodes.getD p16 ((0 : Int), ((0 : Int), ([] : List Int)))).2).2))).getD p20 ((0 : Int), ((0 : Int), ([] : List Int)))).2).1, ((((m_Nodes.set p16 ((m_Nodes.getD p16 ((0 : Int), ((0 : Int), ([] : List Int)))).1, (((m_Nodes.getD p16 ((0 : Int), ((0 : Int), ([] : List Int)))).2).1, ((m_Nodes.getD p16 ((0 : Int), ((0 : Int), ([] : List Int)))).2).2))).getD p19 ((0 : Int), ((0 : Int), ([] : List Int)))).2).2 ++ [(rdx (0 : Int) pairs i), (rdx (0 : Int) pairs (w64 (i + 1)))]))))
      jn (fun t => B_i_Machine_set_J2 k c_i_Machine_top c_i_findKey again3 t.1.1 t.1.2.1 t.1.2.2.1 t.1.2.2.2.1 t.2.1 t.2.2.1 t.2.2.2.1) ((w21, m_Stack, m_Memo, m_Done, ()), pairs, i, x, ())
  else
    some ((true, ()), ((m_Nodes, m_Stack, m_Memo, m_Done, ()), ()))
def B_i_Machine_set_L3 (k : Nat) (c_i_Machine_top : C_i_Machine_top) (c_i_findKey : C_i_findKey) (n : Nat) (t : T_i_Machine_set_L3) : R_i_Machine_set :=
  lfix n (fun again t => B_i_Machine_set_L3b k c_i_Machine_top c_i_findKey again t.1.1 t.1.2.1 t.1.2.2.1 t.1.2.2.2.1 t.2.1 t.2.2.1 t.2.2.2.1) t
def B_i_Machine_set_L1b (k : Nat) (c_i_Machine_top : C_i_Machine_top) (c_i_findKey : C_i_findKey) (again1 : T_i_Machine_set_L1 → R_i_Machine_set) (m_Nodes : List (Int × Int × List Int)) (m_Stack m_Memo : List Int) (m_Done : Bool) (pairs : List Int) (i : Int) (x : Option Nat) : R_i_Machine_set :=
  bif decide (i < (len pairs)) then
    chk (inb i pairs.length) <|
    chk (inb (rdx (0 : Int) pairs i) m_Nodes.length) <|
    chk (decide ((rdx (0 : Int) pairs i).toNat < m_Nodes.length)) <|
    let v41 : Bool := decide (((m_Nodes.getD ((rdx (0 : Int) pairs i).toNat) ((0 : Int), ((0 : Int), ([] : List Int)))).1) > 1)
    bif v41 then
      some ((false, ()), ((m_Nodes, m_Stack, m_Memo, m_Done, ()), ()))
    else
      again1 ((m_Nodes, m_Stack, m_Memo, m_Done, ()), pairs, w64 (i + 2), x, ())
  else
    B_i_Machine_set_L3 k c_i_Machine_top c_i_findKey k ((m_Nodes, m_Stack, m_Memo, m_Done, ()), pairs, 0, x, ())
def B_i_Machine_set_L1 (k : Nat) (c_i_Machine_top : C_i_Machine_top) (c_i_findKey : C_i_findKey) (n : Nat) (t : T_i_Machine_set_L1) : R_i_Machine_set :=
  lfix n (fun again t => B_i_Machine_set_L1b k c_i_Machine_top c_i_findKey again t.1.1 t.1.2.1 t.1.2.2.1 t.1.2.2.2.1 t.2.1 t.2.2.1 t.2.2.2.1) t
def B_i_Machine_set_J0 (k : Nat) (c_i_Machine_top : C_i_Machine_top) (c_i_findKey : C_i_findKey) (m_Nodes : List (Int × Int × List Int)) (m_Stack m_Memo : List Int) (m_Done : Bool) (pairs : List Int) (t23 : Bool) (x : Option Nat) : R_i_Machine_set :=
  bif t23 then
    some ((false, ()), ((m_Nodes, m_Stack, m_Memo, m_Done, ()), ()))
  else
    B_i_Machine_set_L1 k c_i_Machine_top c_i_findKey k ((m_Nodes, m_Stack, m_Memo, m_Done, ()), pairs, 0, x, ())
def B_i_Machine_set (k : Nat) (c_i_Machine_top : C_i_Machine_top) (c_i_findKey : C_i_findKey) (m_Nodes : List (Int × Int × List Int)) (m_Stack m_Memo : List Int) (m_Done : Bool) (pairs : List Int) : R_i_Machine_set :=
  (c_i_Machine_top m_Nodes m_Stack m_Memo m_Done 4).bind fun r13 =>
  bif (!r13.1.2.1) then
    jn (fun t => B_i_Machine_set_J0 k c_i_Machine_top c_i_findKey t.1.1 t.1.2.1 t.1.2.2.1 t.1.2.2.2.1 t.2.1 t.2.2.1 t.2.2.2.1) ((r13.2.1.1, r13.2.1.2.1, r13.2.1.2.2.1, r13.2.1.2.2.2.1, ()), pairs, true, r13.1.1, ())
  else
    jn (fun t => B_i_Machine_set_J0 k c_i_Machine_top c_i_findKey t.1.1 t.1.2.1 t.1.2.2.1 t.1.2.2.2.1 t.2.1 t.2.2.1 t.2.2.2.1) ((r13.2.1.1, r13.2.1.2.1, r13.2.1.2.2.1, r13.2.1.2.2.2.1, ()), pairs, (((len pairs).tmod 2) != 0), r13.1.1, ())
def F_i_Machine_set : Nat → C_i_Machine_set
  | 0, _, _, _, _, _ => none
  | k + 1, m_Nodes, m_Stack, m_Memo, m_Done, pairs => B_i_Machine_set k (F_i_Machine_top k) (F_i_findKey k) m_Nodes m_Stack m_Memo m_Done pairs
theorem tot_i_Machine_set {m_Nodes m_Stack m_Memo m_Done pairs : _} {Q : _ → Prop} (h : Tot (fun σ => B_i_Machine_set (σ 0) (F_i_Machine_top (σ 0)) (F_i_findKey (σ 0)) m_Nodes m_Stack m_Memo m_Done pairs) Q) : Tot (fun σ => F_i_Machine_set (σ 0) m_Nodes m_Stack m_Memo m_Done pairs) Q :=
  Tot.call (F := fun k => F_i_Machine_set k m_Nodes m_Stack m_Memo m_Done pairs) (B := fun k => B_i_Machine_set k (F_i_Machine_top k) (F_i_findKey k) m_Nodes m_Stack m_Memo m_Done pairs) (fun k => rfl) h
abbrev A_i_Machine_set_L3 (Z : Type) : Type := (List (Int × Int × List Int)) → List Int → List Int → Bool → List Int → Int → Option Nat → Z
abbrev u_i_Machine_set_L3 {Z : Type} (f : A_i_Machine_set_L3 Z) (t : T_i_Machine_set_L3) : Z := f t.1.1 t.1.2.1 t.1.2.2.1 t.1.2.2.2.1 t.2.1 t.2.2.1 t.2.2.2.1
theorem loop_i_Machine_set_L3 {Q : A_i_Machine_set_L3 (((Bool × Unit) × (((List (Int × Int × List Int)) × List Int × List Int × Bool × Unit) × Unit)) → Prop)} (I : A_i_Machine_set_L3 Prop) (μ : A_i_Machine_set_L3 Nat)
    (step : ∀ a0 a1 a2 a3 a4 a5 a6, I a0 a1 a2 a3 a4 a5 a6 → ∀ again : (Nat → Nat) → T_i_Machine_set_L3 → R_i_Machine_set, Dep 2 again → (∀ y0 y1 y2 y3 y4 y5 y6, I y0 y1 y2 y3 y4 y5 y6 → μ y0 y1 y2 y3 y4 y5 y6 < μ a0 a1 a2 a3 a4 a5 a6 → Tot (fun σ => again σ ((y0, y1, y2, y3, ()), y4, y5, y6, ())) (Q y0 y1 y2 y3 y4 y5 y6)) →
      Tot (fun σ => B_i_Machine_set_L3b (σ 0) (F_i_Machine_top (σ 0)) (F_i_findKey (σ 0)) (again σ) a0 a1 a2 a3 a4 a5 a6) (Q a0 a1 a2 a3 a4 a5 a6)) :
    ∀ a0 a1 a2 a3 a4 a5 a6, I a0 a1 a2 a3 a4 a5 a6 → Tot (fun σ => B_i_Machine_set_L3 (σ 0) (F_i_Machine_top (σ 0)) (F_i_findKey (σ 0)) (σ 0) ((a0, a1, a2, a3, ()), a4, a5, a6, ())) (Q a0 a1 a2 a3 a4 a5 a6) := fun a0 a1 a2 a3 a4 a5 a6 => Tot.loop0 (L := fun k => B_i_Machine_set_L3 k (F_i_Machine_top k) (F_i_findKey k)) (B := fun k g => u_i_Machine_set_L3 (B_i_Machine_set_L3b k (F_i_Machine_top k) (F_i_findKey k) g)) (Q := u_i_Machine_set_L3 Q) (fun _ _ _ => rfl) (u_i_Machine_set_L3 I) (u_i_Machine_set_L3 μ)
    (fun t ht again hag h => step t.1.1 t.1.2.1 t.1.2.2.1 t.1.2.2.2.1 t.2.1 t.2.2.1 t.2.2.2.1 ht again hag fun y0 y1 y2 y3 y4 y5 y6 => h ((y0, y1, y2, y3, ()), y4, y5, y6, ())) ((a0, a1, a2, a3, ()), a4, a5, a6, ())
abbrev A_i_Machine_set_L1 (Z : Type) : Type := (List (Int × Int × List Int)) → List Int → List Int → Bool → List Int → Int → Option Nat → Z
abbrev u_i_Machine_set_L1 {Z : Type} (f : A_i_Machine_set_L1 Z) (t : T_i_Machine_set_L1) : Z := f t.1.1 t.1.2.1 t.1.2.2.1 t.1.2.2.2.1 t.2.1 t.2.2.1 t.2.2.2.1
theorem loop_i_Machine_set_L1 {Q : A_i_Machine_set_L1 (((Bool × Unit) × (((List (Int × Int × List Int)) × List Int × List Int × Bool × Unit) × Unit)) → Prop)} (I : A_i_Machine_set_L1 Prop) (μ : A_i_Machine_set_L1 Nat)
    (step : ∀ a0 a1 a2 a3 a4 a5 a6, I a0 a1 a2 a3 a4 a5 a6 → ∀ again : (Nat → Nat) → T_i_Machine_set_L1 → R_i_Machine_set, Dep 2 again → (∀ y0 y1 y2 y3 y4 y5 y6, I y0 y1 y2 y3 y4 y5 y6 → μ y0 y1 y2 y3 y4 y5 y6 < μ a0 a1 a2 a3 a4 a5 a6 → Tot (fun σ => again σ ((y0, y1, y2, y3, ()), y4, y5, y6, ())) (Q y0 y1 y2 y3 y4 y5 y6)) →
      Tot (fun σ => B_i_Machine_set_L1b (σ 0) (F_i_Machine_top (σ 0)) (F_i_findKey (σ 0)) (again σ) a0 a1 a2 a3 a4 a5 a6) (Q a0 a1 a2 a3 a4 a5 a6)) :
    ∀ a0 a1 a2 a3 a4 a5 a6, I a0 a1 a2 a3 a4 a5 a6 → Tot (fun σ => B_i_Machine_set_L1 (σ 0) (F_i_Machine_top (σ 0)) (F_i_findKey (σ 0)) (σ 0) ((a0, a1, a2, a3, ()), a4, a5, a6, ())) (Q a0 a1 a2 a3 a4 a5 a6) := fun a0 a1 a2 a3 a4 a5 a6 => Tot.loop0 (L := fun k => B_i_Machine_set_L1 k (F_i_Machine_top k) (F_i_findKey k)) (B := fun k g => u_i_Machine_set_L1 (B_i_Machine_set_L1b k (F_i_Machine_top k) (F_i_findKey k) g)) (Q := u_i_Machine_set_L1 Q) (fun _ _ _ => rfl) (u_i_Machine_set_L1 I) (u_i_Machine_set_L1 μ)
    (fun t ht again hag h => step t.1.1 t.1.2.1 t.1.2.2.1 t.1.2.2.2.1 t.2.1 t.2.2.1 t.2.2.2.1 ht again hag fun y0 y1 y2 y3 y4 y5 y6 => h ((y0, y1, y2, y3, ()), y4, y5, y6, ())) ((a0, a1, a2, a3, ()), a4, a5, a6, ())
abbrev R_i_Machine_do : Type := Option ((Bool × Unit) × (((Bool × List (Int × Int × List Int)) × List Int × List Int × Bool × Unit) × Unit))
abbrev C_i_Machine_do : Type := (List (Int × Int × List Int)) → List Int → List Int → Bool → Int → Int → R_i_Machine_do
def B_i_Machine_do_J0 (k : Nat) (c_i_Machine_nodes : C_i_Machine_nodes) (c_i_Machine_make : C_i_Machine_make) (c_i_Machine_push : C_i_Machine_push) (c_i_Machine_above : C_i_Machine_above) (c_i_Machine_take : C_i_Machine_take) (c_i_Machine_top : C_i_Machine_top) (c_i_Machine_set : C_i_Machine_set) (m_Nodes : List (Int × Int × List Int)) (m_Stack m_Memo : List Int) (m_Done : Bool) (kids : List Int) (t183 : Bool) (x : Option Nat) : R_i_Machine_do :=
  bif t183 then
    some ((false, ()), (((true, m_Nodes), m_Stack, m_Memo, m_Done, ()), ()))
  else
    (x).bind fun p9 =>
    chk (decide (p9 < m_Nodes.length)) <|
    some ((true, ()), (((true, (m_Nodes.set p9 ((m_Nodes.getD p9 ((0 : Int), ((0 : Int), ([] : List Int)))).1, (((m_Nodes.getD p9 ((0 : Int), ((0 : Int), ([] : List Int)))).2).1, kids)))), m_Stack, m_Memo, m_Done, ()), ()))
def B_i_Machine_do_J1 (k : Nat) (c_i_Machine_nodes : C_i_Machine_nodes) (c_i_Machine_make : C_i_Machine_make) (c_i_Machine_push : C_i_Machine_push) (c_i_Machine_above : C_i_Machine_above) (c_i_Machine_take : C_i_Machine_take) (c_i_Machine_top : C_i_Machine_top) (c_i_Machine_set : C_i_Machine_set) (m_Nodes : List (Int × Int × List Int)) (m_Stack m_Memo : List Int) (m_Done : Bool) : R_i_Machine_do :=
  some ((m_Done, ()), (((true, m_Nodes), m_Stack, m_Memo, m_Done, ()), ()))
def B_i_Machine_do (k : Nat) (c_i_Machine_nodes : C_i_Machine_nodes) (c_i_Machine_make : C_i_Machine_make) (c_i_Machine_push : C_i_Machine_push) (c_i_Machine_above : C_i_Machine_above) (c_i_Machine_take : C_i_Machine_take) (c_i_Machine_top : C_i_Machine_top) (c_i_Machine_set : C_i_Machine_set) (m_Nodes : List (Int × Int × List Int)) (m_Stack m_Memo : List Int) (m_Done : Bool) (o_0 o_1 : Int) : R_i_Machine_do :=
  (c_i_Machine_nodes m_Nodes m_Stack m_Memo m_Done).bind fun r23 =>
  bif (o_0 == 0) then
    (c_i_Machine_make r23.2.1.1 r23.2.1.2.1 r23.2.1.2.2.1 r23.2.1.2.2.2.1 0 o_1 ([])).bind fun r31 =>
    some ((r31.1.1, ()), (((false, r31.2.1.1), r31.2.1.2.1, r31.2.1.2.2.1, r31.2.1.2.2.2.1, ()), ()))
  else
    bif (o_0 == 1) then
      (c_i_Machine_make r23.2.1.1 r23.2.1.2.1 r23.2.1.2.2.1 r23.2.1.2.2.2.1 1 o_1 ([])).bind fun r37 =>
      some ((r37.1.1, ()), (((false, r37.2.1.1), r37.2.1.2.1, r37.2.1.2.2.1, r37.2.1.2.2.2.1, ()), ()))
    else
      bif (o_0 == 13) then
        (c_i_Machine_make r23.2.1.1 r23.2.1.2.1 r23.2.1.2.2.1 r23.2.1.2.2.2.1 5 o_1 ([])).bind fun r43 =>
        some ((r43.1.1, ()), (((false, r43.2.1.1), r43.2.1.2.1, r43.2.1.2.2.1, r43.2.1.2.2.2.1, ()), ()))
      else
        bif (o_0 == 4) then
          (c_i_Machine_make r23.2.1.1 r23.2.1.2.1 r23.2.1.2.2.1 r23.2.1.2.2.2.1 2 0 ([])).bind fun r47 =>
          some ((r47.1.1, ()), (((false, r47.2.1.1), r47.2.1.2.1, r47.2.1.2.2.1, r47.2.1.2.2.2.1, ()), ()))
        else
          bif (o_0 == 7) then
            (c_i_Machine_make r23.2.1.1 r23.2.1.2.1 r23.2.1.2.2.1 r23.2.1.2.2.2.1 3 0 ([])).bind fun r51 =>
            some ((r51.1.1, ()), (((false, r51.2.1.1), r51.2.1.2.1, r51.2.1.2.2.1, r51.2.1.2.2.2.1, ()), ()))
          else
            bif (o_0 == 10) then
              (c_i_Machine_make r23.2.1.1 r23.2.1.2.1 r23.2.1.2.2.1 r23.2.1.2.2.2.1 4 0 ([])).bind fun r55 =>
              some ((r55.1.1, ()), (((false, r55.2.1.1), r55.2.1.2.1, r55.2.1.2.2.1, r55.2.1.2.2.2.1, ()), ()))
            else
              bif (o_0 == 2) then
                (c_i_Machine_push r23.2.1.1 r23.2.1.2.1 r23.2.1.2.2.1 r23.2.1.2.2.2.1 (-1)).bind fun r59 =>
                some ((r59.1.1, ()), (((true, r59.2.1.1), r59.2.1.2.1, r59.2.1.2.2.1, r59.2.1.2.2.2.1, ()), ()))
              else
                bif (o_0 == 3) then
                  (c_i_Machine_above r23.2.1.1 r23.2.1.2.1 r23.2.1.2.2.1 r23.2.1.2.2.2.1).bind fun r64 =>
                  bif r64.1.2.1 then
                    (c_i_Machine_make r64.2.1.1 r64.2.1.2.1 r64.2.1.2.2.1 r64.2.1.2.2.2.1 2 0 r64.1.1).bind fun r71 =>
                    some ((r71.1.1, ()), (((false, r71.2.1.1), r71.2.1.2.1, r71.2.1.2.2.1, r71.2.1.2.2.2.1, ()), ()))
                  else
                    some ((false, ()), (((true, r64.2.1.1), r64.2.1.2.1, r64.2.1.2.2.1, r64.2.1.2.2.2.1, ()), ()))
                else
                  bif (o_0 == 5) then
                    bif decide (r23.1.1 ≥ 1) then
                      (c_i_Machine_take r23.2.1.1 r23.2.1.2.1 r23.2.1.2.2.1 r23.2.1.2.2.2.1 1).bind fun r80 =>
                      (c_i_Machine_make r80.2.1.1 r80.2.1.2.1 r80.2.1.2.2.1 r80.2.1.2.2.2.1 2 0 r80.1.1).bind fun r81 =>
                      some ((r81.1.1, ()), (((false, r81.2.1.1), r81.2.1.2.1, r81.2.1.2.2.1, r81.2.1.2.2.2.1, ()), ()))
                    else
                      some ((false, ()), (((true, r23.2.1.1), r23.2.1.2.1, r23.2.1.2.2.1, r23.2.1.2.2.2.1, ()), ()))
                  else
                    bif (o_0 == 6) then
                      bif decide (r23.1.1 ≥ 2) then
                        (c_i_Machine_take r23.2.1.1 r23.2.1.2.1 r23.2.1.2.2.1 r23.2.1.2.2.2.1 2).bind fun r90 =>
                        (c_i_Machine_make r90.2.1.1 r90.2.1.2.1 r90.2.1.2.2.1 r90.2.1.2.2.2.1 2 0 r90.1.1).bind fun r91 =>
                        some ((r91.1.1, ()), (((false, r91.2.1.1), r91.2.1.2.1, r91.2.1.2.2.1, r91.2.1.2.2.2.1, ()), ()))
                      else
                        some ((false, ()), (((true, r23.2.1.1), r23.2.1.2.1, r23.2.1.2.2.1, r23.2.1.2.2.2.1, ()), ()))
                    else
                      bif (o_0 == 8) then
                        bif decide (r23.1.1 < 2) then
                          some ((false, ()), (((true, r23.2.1.1), r23.2.1.2.1, r23.2.1.2.2.1, r23.2.1.2.2.2.1, ()), ()))
                        else
                          (c_i_Machine_take r23.2.1.1 r23.2.1.2.1 r23.2.1.2.2.1 r23.2.1.2.2.2.1 1).bind fun r98 =>
                          (c_i_Machine_top r98.2.1.1 r98.2.1.2.1 r98.2.1.2.2.1 r98.2.1.2.2.2.1 3).bind fun r101 =>
                          bif r101.1.2.1 then
                            (r101.1.1).bind fun p0 =>
                            chk (decide (p0 < r101.2.1.1.length)) <|
                            chk (room (((r101.2.1.1.getD p0 ((0 : Int), ((0 : Int), ([] : List Int)))).2).2).length r98.1.1.length) <|
                            (r101.1.1).bind fun p1 =>
                            chk (decide (p1 = p0)) <|
                            let w2 : List (Int × Int × List Int) := (r101.2.1.1.set p1 ((r101.2.1.1.getD p1 ((0 : Int), ((0 : Int), ([] : List Int)))).1, (((r101.2.1.1.getD p1 ((0 : Int), ((0 : Int), ([] : List Int)))).2).1, (((r101.2.1.1.getD p0 ((0 : Int), ((0 : Int), ([] : List Int)))).2).2 ++ r98.1.1))))
                            some ((r101.1.2.1, ()), (((true, w2), r101.2.1.2.1, r101.2.1.2.2.1, r101.2.1.2.2.2.1, ()), ()))
                          else
                            some ((r101.1.2.1, ()), (((true, r101.2.1.1), r101.2.1.2.1, r101.2.1.2.2.1, r101.2.1.2.2.2.1, ()), ()))
                      else
                        bif (o_0 == 9) then
                          (c_i_Machine_above r23.2.1.1 r23.2.1.2.1 r23.2.1.2.2.1 r23.2.1.2.2.2.1).bind fun r119 =>
                          bif (!r119.1.2.1) then
                            some ((false, ()), (((true, r119.2.1.1), r119.2.1.2.1, r119.2.1.2.2.1, r119.2.1.2.2.2.1, ()), ()))
                          else
                            (c_i_Machine_top r119.2.1.1 r119.2.1.2.1 r119.2.1.2.2.1 r119.2.1.2.2.2.1 3).bind fun r126 =>
                            bif r126.1.2.1 then
                              (r126.1.1).bind fun p3 =>
                              chk (decide (p3 < r126.2.1.1.length)) <|
                              chk (room (((r126.2.1.1.getD p3 ((0 : Int), ((0 : Int), ([] : List Int)))).2).2).length r119.1.1.length) <|
                              (r126.1.1).bind fun p4 =>
                              chk (decide (p4 = p3)) <|
                              let w5 : List (Int × Int × List Int) := (r126.2.1.1.set p4 ((r126.2.1.1.getD p4 ((0 : Int), ((0 : Int), ([] : List Int)))).1, (((r126.2.1.1.getD p4 ((0 : Int), ((0 : Int), ([] : List Int)))).2).1, (((r126.2.1.1.getD p3 ((0 : Int), ((0 : Int), ([] : List Int)))).2).2 ++ r119.1.1))))
                              some ((r126.1.2.1, ()), (((true, w5), r126.2.1.2.1, r126.2.1.2.2.1, r126.2.1.2.2.2.1, ()), ()))
                            else
                              some ((r126.1.2.1, ()), (((true, r126.2.1.1), r126.2.1.2.1, r126.2.1.2.2.1, r126.2.1.2.2.2.1, ()), ()))
                        else
                          bif (o_0 == 11) then
                            bif decide (r23.1.1 ≥ 3) then
                              (c_i_Machine_take r23.2.1.1 r23.2.1.2.1 r23.2.1.2.2.1 r23.2.1.2.2.2.1 2).bind fun r147 =>
                              (c_i_Machine_set r147.2.1.1 r147.2.1.2.1 r147.2.1.2.2.1 r147.2.1.2.2.2.1 r147.1.1).bind fun r148 =>
                              some ((r148.1.1, ()), (((true, r148.2.1.1), r148.2.1.2.1, r148.2.1.2.2.1, r148.2.1.2.2.2.1, ()), ()))
                            else
                              some ((false, ()), (((true, r23.2.1.1), r23.2.1.2.1, r23.2.1.2.2.1, r23.2.1.2.2.2.1, ()), ()))
                          else
                            bif (o_0 == 12) then
                              (c_i_Machine_above r23.2.1.1 r23.2.1.2.1 r23.2.1.2.2.1 r23.2.1.2.2.2.1).bind fun r154 =>
                              bif r154.1.2.1 then
                                (c_i_Machine_set r154.2.1.1 r154.2.1.2.1 r154.2.1.2.2.1 r154.2.1.2.2.2.1 r154.1.1).bind fun r161 =>
                                some ((r161.1.1, ()), (((true, r161.2.1.1), r161.2.1.2.1, r161.2.1.2.2.1, r161.2.1.2.2.2.1, ()), ()))
                              else
                                some ((false, ()), (((true, r154.2.1.1), r154.2.1.2.1, r154.2.1.2.2.1, r154.2.1.2.2.2.1, ()), ()))
                            else
                              bif (o_0 == 14) then
                                bif decide (r23.1.1 < 2) then
                                  some ((false, ()), (((true, r23.2.1.1), r23.2.1.2.1, r23.2.1.2.2.1, r23.2.1.2.2.2.1, ()), ()))
                                else
                                  (c_i_Machine_take r23.2.1.1 r23.2.1.2.1 r23.2.1.2.2.1 r23.2.1.2.2.2.1 1).bind fun r168 =>
                                  (c_i_Machine_top r168.2.1.1 r168.2.1.2.1 r168.2.1.2.2.1 r168.2.1.2.2.2.1 5).bind fun r171 =>
                                  bif (!r171.1.2.1) then
                                    jn (fun t => B_i_Machine_do_J0 k c_i_Machine_nodes c_i_Machine_make c_i_Machine_push c_i_Machine_above c_i_Machine_take c_i_Machine_top c_i_Machine_set t.1.1 t.1.2.1 t.1.2.2.1 t.1.2.2.2.1 t.2.1 t.2.2.1 t.2.2.2.1) ((r171.2.1.1, r171.2.1.2.1, r171.2.1.2.2.1, r171.2.1.2.2.2.1, ()), r168.1.1, true, r171.1.1, ())
                                  else
                                    (r171.1.1).bind fun p10 =>
                                    chk (decide (p10 < r171.2.1.1.length)) <|
                                    jn (fun t => B_i_Machine_do_J0 k c_i_Machine_nodes c_i_Machine_make c_i_Machine_push c_i_Machine_above c_i_Machine_take c_i_Machine_top c_i_Machine_set t.1.1 t.1.2.1 t.1.2.2.1 t.1.2.2.2.1 t.2.1 t.2.2.1 t.2.2.2.1) (((r171.2.1.1.set p10 ((r171.2.1.1.getD p10 ((0 : Int), ((0 : Int), ([] : List Int)))).1, (((r171.2.1.1.getD p10 ((0 : Int), ((0 : Int), ([] : List Int)))).2).1, ((r171.2.1.1.getD p10 ((0 : Int), ((0 : Int), ([] : List Int)))).2).2))), r171.2.1.2.1, r171.2.1.2.2.1, r171.2.1.2.2.2.1, ()), r168.1.1, decide ((len (((r171.2.1.1.getD p10 ((0 : Int), ((0 : Int), ([] : List Int)))).2).2)) > 0), r171.1.1, ())
                              else
                                bif (o_0 == 15) then
                                  bif decide (r23.1.1 < 1) then
                                    some ((false, ()), (((true, r23.2.1.1), r23.2.1.2.1, r23.2.1.2.2.1, r23.2.1.2.2.2.1, ()), ()))
                                  else
                                    chk (inb (w64 ((len r23.2.1.2.1) - 1)) r23.2.1.2.1.length) <|
                                    chk (decide ((w64 ((len r23.2.1.2.1) - 1)).toNat < r23.2.1.2.1.length)) <|
                                    chk (inb o_1 r23.2.1.2.2.1.length) <|
                                    chk (decide (o_1.toNat < r23.2.1.2.2.1.length)) <|
                                    some ((true, ()), (((true, r23.2.1.1), r23.2.1.2.1, (r23.2.1.2.2.1.set o_1.toNat (r23.2.1.2.1.getD ((w64 ((len r23.2.1.2.1) - 1)).toNat) (0 : Int))), r23.2.1.2.2.2.1, ()), ()))
                                else
                                  bif (o_0 == 16) then
                                    chk (inb o_1 r23.2.1.2.2.1.length) <|
                                    chk (decide (o_1.toNat < r23.2.1.2.2.1.length)) <|
                                    bif decide ((r23.2.1.2.2.1.getD o_1.toNat (0 : Int)) ≥ 0) then
                                      chk (inb o_1 r23.2.1.2.2.1.length) <|
                                      chk (decide (o_1.toNat < r23.2.1.2.2.1.length)) <|
                                      (c_i_Machine_push r23.2.1.1 r23.2.1.2.1 r23.2.1.2.2.1 r23.2.1.2.2.2.1 (r23.2.1.2.2.1.getD o_1.toNat (0 : Int))).bind fun r232 =>
                                      some ((r232.1.1, ()), (((true, r232.2.1.1), r232.2.1.2.1, r232.2.1.2.2.1, r232.2.1.2.2.2.1, ()), ()))
                                    else
                                      some ((false, ()), (((true, r23.2.1.1), r23.2.1.2.1, r23.2.1.2.2.1, r23.2.1.2.2.2.1, ()), ()))
                                  else
                                    bif (o_0 == 17) then
                                      bif decide (r23.1.1 < 1) then
                                        some ((false, ()), (((true, r23.2.1.1), r23.2.1.2.1, r23.2.1.2.2.1, r23.2.1.2.2.2.1, ()), ()))
                                      else
                                        (c_i_Machine_take r23.2.1.1 r23.2.1.2.1 r23.2.1.2.2.1 r23.2.1.2.2.2.1 1).bind fun r239 =>
                                        some ((true, ()), (((true, r239.2.1.1), r239.2.1.2.1, r239.2.1.2.2.1, r239.2.1.2.2.2.1, ()), ()))
                                    else
                                      bif (o_0 == 18) then
                                        (c_i_Machine_above r23.2.1.1 r23.2.1.2.1 r23.2.1.2.2.1 r23.2.1.2.2.2.1).bind fun r244 =>
                                        some ((r244.1.2.1, ()), (((true, r244.2.1.1), r244.2.1.2.1, r244.2.1.2.2.1, r244.2.1.2.2.2.1, ()), ()))
                                      else
                                        bif ((len r23.2.1.2.1) == 1) then
                                          jn (fun t => B_i_Machine_do_J1 k c_i_Machine_nodes c_i_Machine_make c_i_Machine_push c_i_Machine_above c_i_Machine_take c_i_Machine_top c_i_Machine_set t.1.1 t.1.2.1 t.1.2.2.1 t.1.2.2.2.1) ((r23.2.1.1, r23.2.1.2.1, r23.2.1.2.2.1, (r23.1.1 == 1), ()), ())
                                        else
                                          jn (fun t => B_i_Machine_do_J1 k c_i_Machine_nodes c_i_Machine_make c_i_Machine_push c_i_Machine_above c_i_Machine_take c_i_Machine_top c_i_Machine_set t.1.1 t.1.2.1 t.1.2.2.1 t.1.2.2.2.1) ((r23.2.1.1, r23.2.1.2.1, r23.2.1.2.2.1, false, ()), ())
def F_i_Machine_do : Nat → C_i_Machine_do
  | 0, _, _, _, _, _, _ => none
  | k + 1, m_Nodes, m_Stack, m_Memo, m_Done, o_0, o_1 => B_i_Machine_do k (F_i_Machine_nodes k) (F_i_Machine_make k) (F_i_Machine_push k) (F_i_Machine_above k) (F_i_Machine_take k) (F_i_Machine_top k) (F_i_Machine_set k) m_Nodes m_Stack m_Memo m_Done o_0 o_1
theorem tot_i_Machine_do {m_Nodes m_Stack m_Memo m_Done o_0 o_1 : _} {Q : _ → Prop} (h : Tot (fun σ => B_i_Machine_do (σ 0) (F_i_Machine_nodes (σ 0)) (F_i_Machine_make (σ 0)) (F_i_Machine_push (σ 0)) (F_i_Machine_above (σ 0)) (F_i_Machine_take (σ 0)) (F_i_Machine_top (σ 0)) (F_i_Machine_set (σ 0)) m_Nodes m_Stack m_Memo m_Done o_0 o_1) Q) : Tot (fun σ => F_i_Machine_do (σ 0) m_Nodes m_Stack m_Memo m_Done o_0 o_1) Q :=
  Tot.call (F := fun k => F_i_Machine_do k m_Nodes m_Stack m_Memo m_Done o_0 o_1) (B := fun k => B_i_Machine_do k (F_i_Machine_nodes k) (F_i_Machine_make k) (F_i_Machine_push k) (F_i_Machine_above k) (F_i_Machine_take k) (F_i_Machine_top k) (F_i_Machine_set k) m_Nodes m_Stack m_Memo m_Done o_0 o_1) (fun k => rfl) h
abbrev R_i_Machine_step : Type := Option ((Bool × Unit) × (((Option (List (Int × Int × List Int))) × List Int × List Int × Bool × Unit) × Unit))
abbrev C_i_Machine_step : Type := (List (Int × Int × List Int)) → List Int → List Int → Bool → Int → Int → R_i_Machine_step
def B_i_Machine_step (k : Nat) (c_slices_Clone_int_int : C_slices_Clone_int_int) (c_i_Machine_do : C_i_Machine_do) (m_Nodes : List (Int × Int × List Int)) (m_Stack m_Memo : List Int) (m_Done : Bool) (o_0 o_1 : Int) : R_i_Machine_step :=
  (c_slices_Clone_int_int m_Stack).bind fun r15 =>
  bif (!m_Done) then
    (c_i_Machine_do m_Nodes m_Stack m_Memo m_Done o_0 o_1).bind fun r24 =>
    bif r24.1.1 then
      some ((true, ()), (((some r24.2.1.1.2), r24.2.1.2.1, r24.2.1.2.2.1, r24.2.1.2.2.2.1, ()), ()))
    else
      some ((false, ()), (((bif r24.2.1.1.1 then some r24.2.1.1.2 else none), r15.1.1, r24.2.1.2.2.1, r24.2.1.2.2.2.1, ()), ()))
  else
    some ((false, ()), (((some m_Nodes), r15.1.1, m_Memo, m_Done, ()), ()))
def F_i_Machine_step : Nat → C_i_Machine_step
  | 0, _, _, _, _, _, _ => none
  | k + 1, m_Nodes, m_Stack, m_Memo, m_Done, o_0, o_1 => B_i_Machine_step k (F_slices_Clone_int_int k) (F_i_Machine_do k) m_Nodes m_Stack m_Memo m_Done o_0 o_1
theorem tot_i_Machine_step {m_Nodes m_Stack m_Memo m_Done o_0 o_1 : _} {Q : _ → Prop} (h : Tot (fun σ => B_i_Machine_step (σ 0) (F_slices_Clone_int_int (σ 0)) (F_i_Machine_do (σ 0)) m_Nodes m_Stack m_Memo m_Done o_0 o_1) Q) : Tot (fun σ => F_i_Machine_step (σ 0) m_Nodes m_Stack m_Memo m_Done o_0 o_1) Q :=
  Tot.call (F := fun k => F_i_Machine_step k m_Nodes m_Stack m_Memo m_Done o_0 o_1) (B := fun k => B_i_Machine_step k (F_slices_Clone_int_int k) (F_i_Machine_do k) m_Nodes m_Stack m_Memo m_Done o_0 o_1) (fun k => rfl) h
abbrev R_i_StepMachine : Type := Option ((((List (Int × Int × List Int)) × List Int × List Int × Bool × Unit) × Bool × Unit) × (Unit))
abbrev C_i_StepMachine : Type := (List (Int × Int × List Int)) → List Int → List Int → Bool → Int → Int → R_i_StepMachine
def B_i_StepMachine_J0 (k : Nat) (c_i_ValidMachine : C_i_ValidMachine) (c_i_opOk : C_i_opOk) (c_i_copyMachine : C_i_copyMachine) (c_i_Machine_step : C_i_Machine_step) (m_Nodes : List (Int × Int × List Int)) (m_Stack m_Memo : List Int) (m_Done : Bool) (o_Code o_Arg : Int) (t4_Done t14 : Bool) : R_i_StepMachine :=
  bif t14 then
    some ((([], [], [], false, ()), false, ()), ())
  else
    (c_i_copyMachine m_Nodes m_Stack m_Memo m_Done).bind fun r17 =>
    (c_i_Machine_step r17.1.1.1 r17.1.1.2.1 r17.1.1.2.2.1 r17.1.1.2.2.2.1 o_Code o_Arg).bind fun r19 =>
    bif (!r19.1.1) then
      some ((([], [], [], false, ()), false, ()), ())
    else
      (r19.2.1.1).bind fun p1 =>
      (c_i_copyMachine p1 r19.2.1.2.1 r19.2.1.2.2.1 r19.2.1.2.2.2.1).bind fun r23 =>
      some (((r23.1.1.1, r23.1.1.2.1, r23.1.1.2.2.1, r23.1.1.2.2.2.1, ()), true, ()), ())
def B_i_StepMachine (k : Nat) (c_i_ValidMachine : C_i_ValidMachine) (c_i_opOk : C_i_opOk) (c_i_copyMachine : C_i_copyMachine) (c_i_Machine_step : C_i_Machine_step) (m_0 : List (Int × Int × List Int)) (m_1 m_2 : List Int) (m_3 : Bool) (o_0 o_1 : Int) : R_i_StepMachine :=
  (c_i_ValidMachine m_0 m_1 m_2 m_3).bind fun r8 =>
  bif (!r8.1.1) then
    jn (fun t => B_i_StepMachine_J0 k c_i_ValidMachine c_i_opOk c_i_copyMachine c_i_Machine_step t.1.1 t.1.2.1 t.1.2.2.1 t.1.2.2.2.1 t.2.1.1 t.2.1.2.1 t.2.2.1.2.2.2.1 t.2.2.2.1) ((m_0, m_1, m_2, m_3, ()), (o_0, o_1, ()), ((), (), (), false, ()), true, ())
  else
    (c_i_opOk o_0 o_1).bind fun r12 =>
    jn (fun t => B_i_StepMachine_J0 k c_i_ValidMachine c_i_opOk c_i_copyMachine c_i_Machine_step t.1.1 t.1.2.1 t.1.2.2.1 t.1.2.2.2.1 t.2.1.1 t.2.1.2.1 t.2.2.1.2.2.2.1 t.2.2.2.1) ((m_0, m_1, m_2, m_3, ()), (o_0, o_1, ()), ((), (), (), false, ()), (!r12.1.1), ())
def F_i_StepMachine : Nat → C_i_StepMachine
  | 0, _, _, _, _, _, _ => none
  | k + 1, m_0, m_1, m_2, m_3, o_0, o_1 => B_i_StepMachine k (F_i_ValidMachine k) (F_i_opOk k) (F_i_copyMachine k) (F_i_Machine_step k) m_0 m_1 m_2 m_3 o_0 o_1
theorem tot_i_StepMachine {m_0 m_1 m_2 m_3 o_0 o_1 : _} {Q : _ → Prop} (h : Tot (fun σ => B_i_StepMachine (σ 0) (F_i_ValidMachine (σ 0)) (F_i_opOk (σ 0)) (F_i_copyMachine (σ 0)) (F_i_Machine_step (σ 0)) m_0 m_1 m_2 m_3 o_0 o_1) Q) : Tot (fun σ => F_i_StepMachine (σ 0) m_0 m_1 m_2 m_3 o_0 o_1) Q :=
  Tot.call (F := fun k => F_i_StepMachine k m_0 m_1 m_2 m_3 o_0 o_1) (B := fun k => B_i_StepMachine k (F_i_ValidMachine k) (F_i_opOk k) (F_i_copyMachine k) (F_i_Machine_step k) m_0 m_1 m_2 m_3 o_0 o_1) (fun k => rfl) h
abbrev R_s_allIn : Type := Option ((Bool × Unit) × (Unit))
abbrev C_s_allIn : Type := List Int → Int → Int → R_s_allIn
abbrev T_s_allIn_L0 : Type := List Int × Int × Int × Int × Unit
def B_s_allIn_L0b (k : Nat) (c_s_inRange : C_s_inRange) (again0 : T_s_allIn_L0 → R_s_allIn) (list : List Int) (low high i : Int) : R_s_allIn :=
  bif decide (i < (len list)) then
    chk (inb i list.length) <|
    (c_s_inRange (rdx (0 : Int) list i) low high).bind fun r20 =>
    bif (!r20.1.1) then
      some ((false, ()), ())
    else
      again0 (list, low, high, w64 (i + 1), ())
  else
    some ((true, ()), ())
def B_s_allIn_L0 (k : Nat) (c_s_inRange : C_s_inRange) (n : Nat) (t : T_s_allIn_L0) : R_s_allIn :=
  lfix n (fun again t => B_s_allIn_L0b k c_s_inRange again t.1 t.2.1 t.2.2.1 t.2.2.2.1) t
def B_s_allIn (k : Nat) (c_s_inRange : C_s_inRange) (list : List Int) (low high : Int) : R_s_allIn :=
  B_s_allIn_L0 k c_s_inRange k (list, low, high, 0, ())
def F_s_allIn : Nat → C_s_allIn
  | 0, _, _, _ => none
  | k + 1, list, low, high => B_s_allIn k (F_s_inRange k) list low high
theorem tot_s_allIn {list low high : _} {Q : _ → Prop} (h : Tot (fun σ => B_s_allIn (σ 0) (F_s_inRange (σ 0)) list low high) Q) : Tot (fun σ => F_s_allIn (σ 0) list low high) Q :=
  Tot.call (F := fun k => F_s_allIn k list low high) (B := fun k => B_s_allIn k (F_s_inRange k) list low high) (fun k => rfl) h
abbrev A_s_allIn_L0 (Z : Type) : Type := List Int → Int → Int → Int → Z
abbrev u_s_allIn_L0 {Z : Type} (f : A_s_allIn_L0 Z) (t : T_s_allIn_L0) : Z := f t.1 t.2.1 t.2.2.1 t.2.2.2.1
theorem loop_s_allIn_L0 {Q : A_s_allIn_L0 (((Bool × Unit) × (Unit)) → Prop)} (I : A_s_allIn_L0 Prop) (μ : A_s_allIn_L0 Nat)
    (step : ∀ a0 a1 a2 a3, I a0 a1 a2 a3 → ∀ again : (Nat → Nat) → T_s_allIn_L0 → R_s_allIn, Dep 2 again → (∀ y0 y1 y2 y3, I y0 y1 y2 y3 → μ y0 y1 y2 y3 < μ a0 a1 a2 a3 → Tot (fun σ => again σ (y0, y1, y2, y3, ())) (Q y0 y1 y2 y3)) →
      Tot (fun σ => B_s_allIn_L0b (σ 0) (F_s_inRange (σ 0)) (again σ) a0 a1 a2 a3) (Q a0 a1 a2 a3)) :
    ∀ a0 a1 a2 a3, I a0 a1 a2 a3 → Tot (fun σ => B_s_allIn_L0 (σ 0) (F_s_inRange (σ 0)) (σ 0) (a0, a1, a2, a3, ())) (Q a0 a1 a2 a3) := fun a0 a1 a2 a3 => Tot.loop0 (L := fun k => B_s_allIn_L0 k (F_s_inRange k)) (B := fun k g => u_s_allIn_L0 (B_s_allIn_L0b k (F_s_inRange k) g)) (Q := u_s_allIn_L0 Q) (fun _ _ _ => rfl) (u_s_allIn_L0 I) (u_s_allIn_L0 μ)
    (fun t ht again hag h => step t.1 t.2.1 t.2.2.1 t.2.2.2.1 ht again hag fun y0 y1 y2 y3 => h (y0, y1, y2, y3, ())) (a0, a1, a2, a3, ())
abbrev R_s_validMachine : Type := Option ((Bool × Unit) × (Unit))
abbrev C_s_validMachine : Type := (List (Int × Int × List Int)) → List Int → List Int → Bool → R_s_validMachine
abbrev T_s_validMachine_L4 : Type := ((List (Int × Int × List Int)) × List Int × List Int × Bool × Unit) × Int × (Int × Int × List Int × Unit) × Int × Unit
abbrev T_s_validMachine_L5 : Type := ((List (Int × Int × List Int)) × List Int × List Int × Bool × Unit) × Int × Unit
def B_s_validMachine_J3 (k : Nat) (c_s_allIn : C_s_allIn) (c_s_inRange : C_s_inRange) (c_s_isKey : C_s_isKey) (again4 : T_s_validMachine_L4 → R_s_validMachine) (m_Nodes : List (Int × Int × List Int)) (m_Stack m_Memo : List Int) (m_Done : Bool) (i n_Kind n_Value : Int) (n_Kids : List Int) (k5 : Int) (t114 : Bool) : R_s_validMachine :=
  bif t114 then
    some ((false, ()), ())
  else
    again4 ((m_Nodes, m_Stack, m_Memo, m_Done, ()), i, (n_Kind, n_Value, n_Kids, ()), w64 (k5 + 2), ())
def B_s_validMachine_J2 (k : Nat) (c_s_allIn : C_s_allIn) (c_s_inRange : C_s_inRange) (c_s_isKey : C_s_isKey) (again4 : T_s_validMachine_L4 → R_s_validMachine) (again5 : T_s_validMachine_L5 → R_s_validMachine) (m_Nodes : List (Int × Int × List Int)) (m_Stack m_Memo : List Int) (m_Done : Bool) (i n_Kind n_Value : Int) (n_Kids : List Int) (k5 : Int) (t94 : Bool) : R_s_validMachine :=
  bif t94 then
    chk (inb k5 n_Kids.length) <|
    chk (inb (rdx (0 : Int) n_Kids k5) m_Nodes.length) <|
    (c_s_isKey ((rdx ((0 : Int), ((0 : Int), ([] : List Int))) m_Nodes (rdx (0 : Int) n_Kids k5)).1) (((rdx ((0 : Int), ((0 : Int), ([] : List Int))) m_Nodes (rdx (0 : Int) n_Kids k5)).2).1)).bind fun r106 =>
    bif (!r106.1.1) then
      jn (fun t => B_s_validMachine_J3 k c_s_allIn c_s_inRange c_s_isKey again4 t.1.1 t.1.2.1 t.1.2.2.1 t.1.2.2.2.1 t.2.1 t.2.2.1.1 t.2.2.1.2.1 t.2.2.1.2.2.1 t.2.2.2.1 t.2.2.2.2.1) ((m_Nodes, m_Stack, m_Memo, m_Done, ()), i, (n_Kind, n_Value, n_Kids, ()), k5, true, ())
    else
      jn (fun t => B_s_validMachine_J3 k c_s_allIn c_s_inRange c_s_isKey again4 t.1.1 t.1.2.1 t.1.2.2.1 t.1.2.2.2.1 t.2.1 t.2.2.1.1 t.2.2.1.2.1 t.2.2.1.2.2.1 t.2.2.2.1 t.2.2.2.2.1) ((m_Nodes, m_Stack, m_Memo, m_Done, ()), i, (n_Kind, n_Value, n_Kids, ()), k5, (((len n_Kids).tmod 2) != 0), ())
  else
    again5 ((m_Nodes, m_Stack, m_Memo, m_Done, ()), w64 (i + 1), ())
def B_s_validMachine_L4b (k : Nat) (c_s_allIn : C_s_allIn) (c_s_inRange : C_s_inRange) (c_s_isKey : C_s_isKey) (again5 : T_s_validMachine_L5 → R_s_validMachine) (again4 : T_s_validMachine_L4 → R_s_validMachine) (m_Nodes : List (Int × Int × List Int)) (m_Stack m_Memo : List Int) (m_Done : Bool) (i n_Kind n_Value : Int) (n_Kids : List Int) (k5 : Int) : R_s_validMachine :=
  bif decide (k5 < (len n_Kids)) then
    jn (fun t => B_s_validMachine_J2 k c_s_allIn c_s_inRange c_s_isKey again4 again5 t.1.1 t.1.2.1 t.1.2.2.1 t.1.2.2.2.1 t.2.1 t.2.2.1.1 t.2.2.1.2.1 t.2.2.1.2.2.1 t.2.2.2.1 t.2.2.2.2.1) ((m_Nodes, m_Stack, m_Memo, m_Done, ()), i, (n_Kind, n_Value, n_Kids, ()), k5, (n_Kind == 4), ())
  else
    jn (fun t => B_s_validMachine_J2 k c_s_allIn c_s_inRange c_s_isKey again4 again5 t.1.1 t.1.2.1 t.1.2.2.1 t.1.2.2.2.1 t.2.1 t.2.2.1.1 t.2.2.1.2.1 t.2.2.1.2.2.1 t.2.2.2.1 t.2.2.2.2.1) ((m_Nodes, m_Stack, m_Memo, m_Done, ()), i, (n_Kind, n_Value, n_Kids, ()), k5, false, ())
def B_s_validMachine_L4 (k : Nat) (c_s_allIn : C_s_allIn) (c_s_inRange : C_s_inRange) (c_s_isKey : C_s_isKey) (again5 : T_s_validMachine_L5 → R_s_validMachine) (n : Nat) (t : T_s_validMachine_L4) : R_s_validMachine :=
  lfix n (fun again t => B_s_validMachine_L4b k c_s_allIn c_s_inRange c_s_isKey again5 again t.1.1 t.1.2.1 t.1.2.2.1 t.1.2.2.2.1 t.2.1 t.2.2.1.1 t.2.2.1.2.1 t.2.2.1.2.2.1 t.2.2.2.1) t
def B_s_validMachine_J1 (k : Nat) (c_s_allIn : C_s_allIn) (c_s_inRange : C_s_inRange) (c_s_isKey : C_s_isKey) (again5 : T_s_validMachine_L5 → R_s_validMachine) (m_Nodes : List (Int × Int × List Int)) (m_Stack m_Memo : List Int) (m_Done : Bool) (i n_Kind n_Value : Int) (n_Kids : List Int) (t84 : Bool) : R_s_validMachine :=
  bif t84 then
    some ((false, ()), ())
  else
    B_s_validMachine_L4 k c_s_allIn c_s_inRange c_s_isKey again5 k ((m_Nodes, m_Stack, m_Memo, m_Done, ()), i, (n_Kind, n_Value, n_Kids, ()), 0, ())
def B_s_validMachine_L5b (k : Nat) (c_s_allIn : C_s_allIn) (c_s_inRange : C_s_inRange) (c_s_isKey : C_s_isKey) (again5 : T_s_validMachine_L5 → R_s_validMachine) (m_Nodes : List (Int × Int × List Int)) (m_Stack m_Memo : List Int) (m_Done : Bool) (i : Int) : R_s_validMachine :=
  bif decide (i < (len m_Nodes)) then
    chk (inb i m_Nodes.length) <|
    (c_s_inRange ((rdx ((0 : Int), ((0 : Int), ([] : List Int))) m_Nodes i).1) 0 5).bind fun r56 =>
    bif (!r56.1.1) then
      jn (fun t => B_s_validMachine_J1 k c_s_allIn c_s_inRange c_s_isKey again5 t.1.1 t.1.2.1 t.1.2.2.1 t.1.2.2.2.1 t.2.1 t.2.2.1.1 t.2.2.1.2.1 t.2.2.1.2.2.1 t.2.2.2.1) ((m_Nodes, m_Stack, m_Memo, m_Done, ()), i, ((rdx ((0 : Int), ((0 : Int), ([] : List Int))) m_Nodes i).1, ((rdx ((0 : Int), ((0 : Int), ([] : List Int))) m_Nodes i).2).1, ((rdx ((0 : Int), ((0 : Int), ([] : List Int))) m_Nodes i).2).2, ()), true, ())
    else
      (c_s_inRange (((rdx ((0 : Int), ((0 : Int), ([] : List Int))) m_Nodes i).2).1) 0 999).bind fun r61 =>
      bif (!r61.1.1) then
        jn (fun t => B_s_validMachine_J1 k c_s_allIn c_s_inRange c_s_isKey again5 t.1.1 t.1.2.1 t.1.2.2.1 t.1.2.2.2.1 t.2.1 t.2.2.1.1 t.2.2.1.2.1 t.2.2.1.2.2.1 t.2.2.2.1) ((m_Nodes, m_Stack, m_Memo, m_Done, ()), i, ((rdx ((0 : Int), ((0 : Int), ([] : List Int))) m_Nodes i).1, ((rdx ((0 : Int), ((0 : Int), ([] : List Int))) m_Nodes i).2).1, ((rdx ((0 : Int), ((0 : Int), ([] : List Int))) m_Nodes i).2).2, ()), true, ())
      else
        (c_s_allIn (((rdx ((0 : Int), ((0 : Int), ([] : List Int))) m_Nodes i).2).2) 0 (w64 ((len m_Nodes) - 1))).bind fun r71 =>
        bif (!r71.1.1) then
          jn (fun t => B_s_validMachine_J1 k c_s_allIn c_s_inRange c_s_isKey again5 t.1.1 t.1.2.1 t.1.2.2.1 t.1.2.2.2.1 t.2.1 t.2.2.1.1 t.2.2.1.2.1 t.2.2.1.2.2.1 t.2.2.2.1) ((m_Nodes, m_Stack, m_Memo, m_Done, ()), i, ((rdx ((0 : Int), ((0 : Int), ([] : List Int))) m_Nodes i).1, ((rdx ((0 : Int), ((0 : Int), ([] : List Int))) m_Nodes i).2).1, ((rdx ((0 : Int), ((0 : Int), ([] : List Int))) m_Nodes i).2).2, ()), true, ())
        else
          bif (((rdx ((0 : Int), ((0 : Int), ([] : List Int))) m_Nodes i).1) == 5) then
            jn (fun t => B_s_validMachine_J1 k c_s_allIn c_s_inRange c_s_isKey again5 t.1.1 t.1.2.1 t.1.2.2.1 t.1.2.2.2.1 t.2.1 t.2.2.1.1 t.2.2.1.2.1 t.2.2.1.2.2.1 t.2.2.2.1) ((m_Nodes, m_Stack, m_Memo, m_Done, ()), i, ((rdx ((0 : Int), ((0 : Int), ([] : List Int))) m_Nodes i).1, ((rdx ((0 : Int), ((0 : Int), ([] : List Int))) m_Nodes i).2).1, ((rdx ((0 : Int), ((0 : Int), ([] : List Int))) m_Nodes i).2).2, ()), decide ((len (((rdx ((0 : Int), ((0 : Int), ([] : List Int))) m_Nodes i).2).2)) > 1), ())
          else
            jn (fun t => B_s_validMachine_J1 k c_s_allIn c_s_inRange c_s_isKey again5 t.1.1 t.1.2.1 t.1.2.2.1 t.1.2.2.2.1 t.2.1 t.2.2.1.1 t.2.2.1.2.1 t.2.2.1.2.2.1 t.2.2.2.1) ((m_Nodes, m_Stack, m_Memo, m_Done, ()), i, ((rdx ((0 : Int), ((0 : Int), ([] : List Int))) m_Nodes i).1, ((rdx ((0 : Int), ((0 : Int), ([] : List Int))) m_Nodes i).2).1, ((rdx ((0 : Int), ((0 : Int), ([] : List Int))) m_Nodes i).2).2, ()), false, ())
  else
    bif (!m_Done) then
      some ((true, ()), ())
    else
      bif ((len m_Stack) == 1) then
        chk (inb 0 m_Stack.length) <|
        some ((decide ((rdx (0 : Int) m_Stack 0) ≥ 0), ()), ())
      else
        some ((false, ()), ())
def B_s_validMachine_L5 (k : Nat) (c_s_allIn : C_s_allIn) (c_s_inRange : C_s_inRange) (c_s_isKey : C_s_isKey) (n : Nat) (t : T_s_validMachine_L5) : R_s_validMachine :=
  lfix n (fun again t => B_s_validMachine_L5b k c_s_allIn c_s_inRange c_s_isKey again t.1.1 t.1.2.1 t.1.2.2.1 t.1.2.2.2.1 t.2.1) t
def B_s_validMachine_J0 (k : Nat) (c_s_allIn : C_s_allIn) (c_s_inRange : C_s_inRange) (c_s_isKey : C_s_isKey) (m_Nodes : List (Int × Int × List Int)) (m_Stack m_Memo : List Int) (m_Done t41 : Bool) : R_s_validMachine :=
  bif t41 then
    some ((false, ()), ())
  else
    B_s_validMachine_L5 k c_s_allIn c_s_inRange c_s_isKey k ((m_Nodes, m_Stack, m_Memo, m_Done, ()), 0, ())
def B_s_validMachine (k : Nat) (c_s_allIn : C_s_allIn) (c_s_inRange : C_s_inRange) (c_s_isKey : C_s_isKey) (m_0 : List (Int × Int × List Int)) (m_1 m_2 : List Int) (m_3 : Bool) : R_s_validMachine :=
  bif decide ((len m_0) > 300) then
    jn (fun t => B_s_validMachine_J0 k c_s_allIn c_s_inRange c_s_isKey t.1.1 t.1.2.1 t.1.2.2.1 t.1.2.2.2.1 t.2.1) ((m_0, m_1, m_2, m_3, ()), true, ())
  else
    bif decide ((len m_1) > 300) then
      jn (fun t => B_s_validMachine_J0 k c_s_allIn c_s_inRange c_s_isKey t.1.1 t.1.2.1 t.1.2.2.1 t.1.2.2.2.1 t.2.1) ((m_0, m_1, m_2, m_3, ()), true, ())
    else
      (c_s_allIn m_1 (-1) (w64 ((len m_0) - 1))).bind fun r23 =>
      bif (!r23.1.1) then
        jn (fun t => B_s_validMachine_J0 k c_s_allIn c_s_inRange c_s_isKey t.1.1 t.1.2.1 t.1.2.2.1 t.1.2.2.2.1 t.2.1) ((m_0, m_1, m_2, m_3, ()), true, ())
      else
        bif ((len m_2) != 20) then
          jn (fun t => B_s_validMachine_J0 k c_s_allIn c_s_inRange c_s_isKey t.1.1 t.1.2.1 t.1.2.2.1 t.1.2.2.2.1 t.2.1) ((m_0, m_1, m_2, m_3, ()), true, ())
        else
          (c_s_allIn m_2 (-1) (w64 ((len m_0) - 1))).bind fun r39 =>
          jn (fun t => B_s_validMachine_J0 k c_s_allIn c_s_inRange c_s_isKey t.1.1 t.1.2.1 t.1.2.2.1 t.1.2.2.2.1 t.2.1) ((m_0, m_1, m_2, m_3, ()), (!r39.1.1), ())
def F_s_validMachine : Nat → C_s_validMachine
  | 0, _, _, _, _ => none
  | k + 1, m_0, m_1, m_2, m_3 => B_s_validMachine k (F_s_allIn k) (F_s_inRange k) (F_s_isKey k) m_0 m_1 m_2 m_3
theorem tot_s_validMachine {m_0 m_1 m_2 m_3 : _} {Q : _ → Prop} (h : Tot (fun σ => B_s_validMachine (σ 0) (F_s_allIn (σ 0)) (F_s_inRange (σ 0)) (F_s_isKey (σ 0)) m_0 m_1 m_2 m_3) Q) : Tot (fun σ => F_s_validMachine (σ 0) m_0 m_1 m_2 m_3) Q :=
  Tot.call (F := fun k => F_s_validMachine k m_0 m_1 m_2 m_3) (B := fun k => B_s_validMachine k (F_s_allIn k) (F_s_inRange k) (F_s_isKey k) m_0 m_1 m_2 m_3) (fun k => rfl) h
abbrev A_s_validMachine_L4 (Z : Type) : Type := (List (Int × Int × List Int)) → List Int → List Int → Bool → Int → Int → Int → List Int → Int → Z
abbrev u_s_validMachine_L4 {Z : Type} (f : A_s_validMachine_L4 Z) (t : T_s_validMachine_L4) : Z := f t.1.1 t.1.2.1 t.1.2.2.1 t.1.2.2.2.1 t.2.1 t.2.2.1.1 t.2.2.1.2.1 t.2.2.1.2.2.1 t.2.2.2.1
theorem loop_s_validMachine_L4 {again5 : (Nat → Nat) → T_s_validMachine_L5 → R_s_validMachine} (hag5 : Dep 2 again5) {Q : A_s_validMachine_L4 (((Bool × Unit) × (Unit)) → Prop)} (I : A_s_validMachine_L4 Prop) (μ : A_s_validMachine_L4 Nat)
    (step : ∀ a0 a1 a2 a3 a4 a5 a6 a7 a8, I a0 a1 a2 a3 a4 a5 a6 a7 a8 → ∀ again : (Nat → Nat) → T_s_validMachine_L4 → R_s_validMachine, Dep 3 again → (∀ y0 y1 y2 y3 y4 y5 y6 y7 y8, I y0 y1 y2 y3 y4 y5 y6 y7 y8 → μ y0 y1 y2 y3 y4 y5 y6 y7 y8 < μ a0 a1 a2 a3 a4 a5 a6 a7 a8 → Tot (fun σ => again σ ((y0, y1, y2, y3, ()), y4, (y5, y6, y7, ()), y8, ())) (Q y0 y1 y2 y3 y4 y5 y6 y7 y8)) →
      Tot (fun σ => B_s_validMachine_L4b (σ 0) (F_s_allIn (σ 0)) (F_s_inRange (σ 0)) (F_s_isKey (σ 0)) (again5 σ) (again σ) a0 a1 a2 a3 a4 a5 a6 a7 a8) (Q a0 a1 a2 a3 a4 a5 a6 a7 a8)) :
    ∀ a0 a1 a2 a3 a4 a5 a6 a7 a8, I a0 a1 a2 a3 a4 a5 a6 a7 a8 → Tot (fun σ => B_s_validMachine_L4 (σ 0) (F_s_allIn (σ 0)) (F_s_inRange (σ 0)) (F_s_isKey (σ 0)) (again5 σ) (σ 0) ((a0, a1, a2, a3, ()), a4, (a5, a6, a7, ()), a8, ())) (Q a0 a1 a2 a3 a4 a5 a6 a7 a8) := fun a0 a1 a2 a3 a4 a5 a6 a7 a8 => Tot.loop (L := fun σ n t => B_s_validMachine_L4 (σ 0) (F_s_allIn (σ 0)) (F_s_inRange (σ 0)) (F_s_isKey (σ 0)) (again5 σ) n t) (B := fun σ g => u_s_validMachine_L4 (B_s_validMachine_L4b (σ 0) (F_s_allIn (σ 0)) (F_s_inRange (σ 0)) (F_s_isKey (σ 0)) (again5 σ) g)) (Q := u_s_validMachine_L4 Q) 2 (by decide)
    (fun s s' h => by have e0 : s 0 = s' 0 := h 0 (by decide); simp only [e0, hag5 s s' h]) (fun s s' h => by have e0 : s 0 = s' 0 := h 0 (by decide); simp only [e0, hag5 s s' h]) (fun _ _ _ => rfl) (u_s_validMachine_L4 I) (u_s_validMachine_L4 μ)
    (fun t ht again hag h => step t.1.1 t.1.2.1 t.1.2.2.1 t.1.2.2.2.1 t.2.1 t.2.2.1.1 t.2.2.1.2.1 t.2.2.1.2.2.1 t.2.2.2.1 ht again hag fun y0 y1 y2 y3 y4 y5 y6 y7 y8 => h ((y0, y1, y2, y3, ()), y4, (y5, y6, y7, ()), y8, ())) ((a0, a1, a2, a3, ()), a4, (a5, a6, a7, ()), a8, ())
abbrev A_s_validMachine_L5 (Z : Type) : Type := (List (Int × Int × List Int)) → List Int → List Int → Bool → Int → Z
abbrev u_s_validMachine_L5 {Z : Type} (f : A_s_validMachine_L5 Z) (t : T_s_validMachine_L5) : Z := f t.1.1 t.1.2.1 t.1.2.2.1 t.1.2.2.2.1 t.2.1
theorem loop_s_validMachine_L5 {Q : A_s_validMachine_L5 (((Bool × Unit) × (Unit)) → Prop)} (I : A_s_validMachine_L5 Prop) (μ : A_s_validMachine_L5 Nat)
    (step : ∀ a0 a1 a2 a3 a4, I a0 a1 a2 a3 a4 → ∀ again : (Nat → Nat) → T_s_validMachine_L5 → R_s_validMachine, Dep 2 again → (∀ y0 y1 y2 y3 y4, I y0 y1 y2 y3 y4 → μ y0 y1 y2 y3 y4 < μ a0 a1 a2 a3 a4 → Tot (fun σ => again σ ((y0, y1, y2, y3, ()), y4, ())) (Q y0 y1 y2 y3 y4)) →
      Tot (fun σ => B_s_validMachine_L5b (σ 0) (F_s_allIn (σ 0)) (F_s_inRange (σ 0)) (F_s_isKey (σ 0)) (again σ) a0 a1 a2 a3 a4) (Q a0 a1 a2 a3 a4)) :
    ∀ a0 a1 a2 a3 a4, I a0 a1 a2 a3 a4 → Tot (fun σ => B_s_validMachine_L5 (σ 0) (F_s_allIn (σ 0)) (F_s_inRange (σ 0)) (F_s_isKey (σ 0)) (σ 0) ((a0, a1, a2, a3, ()), a4, ())) (Q a0 a1 a2 a3 a4) := fun a0 a1 a2 a3 a4 => Tot.loop0 (L := fun k => B_s_validMachine_L5 k (F_s_allIn k) (F_s_inRange k) (F_s_isKey k)) (B := fun k g => u_s_validMachine_L5 (B_s_validMachine_L5b k (F_s_allIn k) (F_s_inRange k) (F_s_isKey k) g)) (Q := u_s_validMachine_L5 Q) (fun _ _ _ => rfl) (u_s_validMachine_L5 I) (u_s_validMachine_L5 μ)
    (fun t ht again hag h => step t.1.1 t.1.2.1 t.1.2.2.1 t.1.2.2.2.1 t.2.1 ht again hag fun y0 y1 y2 y3 y4 => h ((y0, y1, y2, y3, ()), y4, ())) ((a0, a1, a2, a3, ()), a4, ())
abbrev R_s_StepMachine : Type := Option ((((List (Int × Int × List Int)) × List Int × List Int × Bool × Unit) × Bool × Unit) × (Unit))
abbrev C_s_StepMachine : Type := (List (Int × Int × List Int)) → List Int → List Int → Bool → Int → Int → R_s_StepMachine
def B_s_StepMachine_J0 (k : Nat) (c_s_validMachine : C_s_validMachine) (c_s_validOp : C_s_validOp) (c_s_copyMachine : C_s_copyMachine) (c_s_step : C_s_step) (m_Nodes : List (Int × Int × List Int)) (m_Stack m_Memo : List Int) (m_Done : Bool) (o_Code o_Arg : Int) (t4_Done t15 : Bool) : R_s_StepMachine :=
  bif t15 then
    some ((([], [], [], false, ()), false, ()), ())
  else
    (c_s_copyMachine m_Nodes m_Stack m_Memo m_Done).bind fun r19 =>
    (c_s_step r19.1.1.1 r19.1.1.2.1 r19.1.1.2.2.1 r19.1.1.2.2.2.1 o_Code o_Arg).bind fun r21 =>
    bif (!r21.1.2.1) then
      some ((([], [], [], false, ()), false, ()), ())
    else
      (r21.1.1.1).bind fun p0 =>
      (r21.1.1.2.1).bind fun p1 =>
      (r21.1.1.2.2.1).bind fun p2 =>
      some (((p0, p1, p2, r21.1.1.2.2.2.1, ()), true, ()), ())
def B_s_StepMachine (k : Nat) (c_s_validMachine : C_s_validMachine) (c_s_validOp : C_s_validOp) (c_s_copyMachine : C_s_copyMachine) (c_s_step : C_s_step) (m_0 : List (Int × Int × List Int)) (m_1 m_2 : List Int) (m_3 : Bool) (o_0 o_1 : Int) : R_s_StepMachine :=
  (c_s_validMachine m_0 m_1 m_2 m_3).bind fun r9 =>
  bif (!r9.1.1) then
    jn (fun t => B_s_StepMachine_J0 k c_s_validMachine c_s_validOp c_s_copyMachine c_s_step t.1.1 t.1.2.1 t.1.2.2.1 t.1.2.2.2.1 t.2.1.1 t.2.1.2.1 t.2.2.1.2.2.2.1 t.2.2.2.1) ((m_0, m_1, m_2, m_3, ()), (o_0, o_1, ()), ((), (), (), false, ()), true, ())
  else
    (c_s_validOp o_0 o_1).bind fun r13 =>
    jn (fun t => B_s_StepMachine_J0 k c_s_validMachine c_s_validOp c_s_copyMachine c_s_step t.1.1 t.1.2.1 t.1.2.2.1 t.1.2.2.2.1 t.2.1.1 t.2.1.2.1 t.2.2.1.2.2.2.1 t.2.2.2.1) ((m_0, m_1, m_2, m_3, ()), (o_0, o_1, ()), ((), (), (), false, ()), (!r13.1.1), ())
def F_s_StepMachine : Nat → C_s_StepMachine
  | 0, _, _, _, _, _, _ => none
  | k + 1, m_0, m_1, m_2, m_3, o_0, o_1 => B_s_StepMachine k (F_s_validMachine k) (F_s_validOp k) (F_s_copyMachine k) (F_s_step k) m_0 m_1 m_2 m_3 o_0 o_1
theorem tot_s_StepMachine {m_0 m_1 m_2 m_3 o_0 o_1 : _} {Q : _ → Prop} (h : Tot (fun σ => B_s_StepMachine (σ 0) (F_s_validMachine (σ 0)) (F_s_validOp (σ 0)) (F_s_copyMachine (σ 0)) (F_s_step (σ 0)) m_0 m_1 m_2 m_3 o_0 o_1) Q) : Tot (fun σ => F_s_StepMachine (σ 0) m_0 m_1 m_2 m_3 o_0 o_1) Q :=
  Tot.call (F := fun k => F_s_StepMachine k m_0 m_1 m_2 m_3 o_0 o_1) (B := fun k => B_s_StepMachine k (F_s_validMachine k) (F_s_validOp k) (F_s_copyMachine k) (F_s_step k) m_0 m_1 m_2 m_3 o_0 o_1) (fun k => rfl) h
abbrev R_l_equalInts : Type := Option ((Bool × Unit) × (Unit))
abbrev C_l_equalInts : Type := List Int → List Int → R_l_equalInts
abbrev T_l_equalInts_L0 : Type := List Int × List Int × Int × Unit
def B_l_equalInts_L0b (k : Nat) (again0 : T_l_equalInts_L0 → R_l_equalInts) (a b : List Int) (i : Int) : R_l_equalInts :=
  bif decide (i < (len a)) then
    chk (inb i a.length) <|
    chk (inb i b.length) <|
    bif ((rdx (0 : Int) a i) != (rdx (0 : Int) b i)) then
      some ((false, ()), ())
    else
      again0 (a, b, w64 (i + 1), ())
  else
    some ((true, ()), ())
def B_l_equalInts_L0 (k : Nat) (n : Nat) (t : T_l_equalInts_L0) : R_l_equalInts :=
  lfix n (fun again t => B_l_equalInts_L0b k again t.1 t.2.1 t.2.2.1) t
def B_l_equalInts (k : Nat) (a b : List Int) : R_l_equalInts :=
  bif ((len a) != (len b)) then
    some ((false, ()), ())
  else
    B_l_equalInts_L0 k k (a, b, 0, ())
def F_l_equalInts : Nat → C_l_equalInts
  | 0, _, _ => none
  | k + 1, a, b => B_l_equalInts k a b
theorem tot_l_equalInts {a b : _} {Q : _ → Prop} (h : Tot (fun σ => B_l_equalInts (σ 0) a b) Q) : Tot (fun σ => F_l_equalInts (σ 0) a b) Q :=
  Tot.call (F := fun k => F_l_equalInts k a b) (B := fun k => B_l_equalInts k a b) (fun k => rfl) h
abbrev A_l_equalInts_L0 (Z : Type) : Type := List Int → List Int → Int → Z
abbrev u_l_equalInts_L0 {Z : Type} (f : A_l_equalInts_L0 Z) (t : T_l_equalInts_L0) : Z := f t.1 t.2.1 t.2.2.1
theorem loop_l_equalInts_L0 {Q : A_l_equalInts_L0 (((Bool × Unit) × (Unit)) → Prop)} (I : A_l_equalInts_L0 Prop) (μ : A_l_equalInts_L0 Nat)
    (step : ∀ a0 a1 a2, I a0 a1 a2 → ∀ again : (Nat → Nat) → T_l_equalInts_L0 → R_l_equalInts, Dep 2 again → (∀ y0 y1 y2, I y0 y1 y2 → μ y0 y1 y2 < μ a0 a1 a2 → Tot (fun σ => again σ (y0, y1, y2, ())) (Q y0 y1 y2)) →
      Tot (fun σ => B_l_equalInts_L0b (σ 0) (again σ) a0 a1 a2) (Q a0 a1 a2)) :
    ∀ a0 a1 a2, I a0 a1 a2 → Tot (fun σ => B_l_equalInts_L0 (σ 0) (σ 0) (a0, a1, a2, ())) (Q a0 a1 a2) := fun a0 a1 a2 => Tot.loop0 (L := fun k => B_l_equalInts_L0 k) (B := fun k g => u_l_equalInts_L0 (B_l_equalInts_L0b k g)) (Q := u_l_equalInts_L0 Q) (fun _ _ _ => rfl) (u_l_equalInts_L0 I) (u_l_equalInts_L0 μ)
    (fun t ht again hag h => step t.1 t.2.1 t.2.2.1 ht again hag fun y0 y1 y2 => h (y0, y1, y2, ())) (a0, a1, a2, ())
abbrev R_l_equalNodes : Type := Option ((Bool × Unit) × (Unit))
abbrev C_l_equalNodes : Type := (List (Int × Int × List Int)) → (List (Int × Int × List Int)) → R_l_equalNodes
abbrev T_l_equalNodes_L1 : Type := (List (Int × Int × List Int)) × (List (Int × Int × List Int)) × Int × Unit
def B_l_equalNodes_J0 (k : Nat) (c_l_equalInts : C_l_equalInts) (again1 : T_l_equalNodes_L1 → R_l_equalNodes) (a b : List (Int × Int × List Int)) (i : Int) (t54 : Bool) : R_l_equalNodes :=
  bif t54 then
    some ((false, ()), ())
  else
    again1 (a, b, w64 (i + 1), ())
def B_l_equalNodes_L1b (k : Nat) (c_l_equalInts : C_l_equalInts) (again1 : T_l_equalNodes_L1 → R_l_equalNodes) (a b : List (Int × Int × List Int)) (i : Int) : R_l_equalNodes :=
  bif decide (i < (len a)) then
    chk (inb i a.length) <|
    chk (inb i b.length) <|
    let v27 : Bool := (((rdx ((0 : Int), ((0 : Int), ([] : List Int))) a i).1) != ((rdx ((0 : Int), ((0 : Int), ([] : List Int))) b i).1))
    bif v27 then
      jn (fun t => B_l_equalNodes_J0 k c_l_equalInts again1 t.1 t.2.1 t.2.2.1 t.2.2.2.1) (a, b, i, true, ())
    else
      chk (inb i a.length) <|
      chk (inb i b.length) <|
      let v39 : Bool := ((((rdx ((0 : Int), ((0 : Int), ([] : List Int))) a i).2).1) != (((rdx ((0 : Int), ((0 : Int), ([] : List Int))) b i).2).1))
      bif v39 then
        jn (fun t => B_l_equalNodes_J0 k c_l_equalInts again1 t.1 t.2.1 t.2.2.1 t.2.2.2.1) (a, b, i, true, ())
      else
        chk (inb i a.length) <|
        chk (inb i b.length) <|
        (c_l_equalInts (((rdx ((0 : Int), ((0 : Int), ([] : List Int))) a i).2).2) (((rdx ((0 : Int), ((0 : Int), ([] : List Int))) b i).2).2)).bind fun r52 =>
        jn (fun t => B_l_equalNodes_J0 k c_l_equalInts again1 t.1 t.2.1 t.2.2.1 t.2.2.2.1) (a, b, i, (!r52.1.1), ())
  else
    some ((true, ()), ())
def B_l_equalNodes_L1 (k : Nat) (c_l_equalInts : C_l_equalInts) (n : Nat) (t : T_l_equalNodes_L1) : R_l_equalNodes :=
  lfix n (fun again t => B_l_equalNodes_L1b k c_l_equalInts again t.1 t.2.1 t.2.2.1) t
def B_l_equalNodes (k : Nat) (c_l_equalInts : C_l_equalInts) (a b : List (Int × Int × List Int)) : R_l_equalNodes :=
  bif ((len a) != (len b)) then
    some ((false, ()), ())
  else
    B_l_equalNodes_L1 k c_l_equalInts k (a, b, 0, ())
def F_l_equalNodes : Nat → C_l_equalNodes
  | 0, _, _ => none
  | k + 1, a, b => B_l_equalNodes k (F_l_equalInts k) a b
theorem tot_l_equalNodes {a b : _} {Q : _ → Prop} (h : Tot (fun σ => B_l_equalNodes (σ 0) (F_l_equalInts (σ 0)) a b) Q) : Tot (fun σ => F_l_equalNodes (σ 0) a b) Q :=
  Tot.call (F := fun k => F_l_equalNodes k a b) (B := fun k => B_l_equalNodes k (F_l_equalInts k) a b) (fun k => rfl) h
abbrev A_l_equalNodes_L1 (Z : Type) : Type := (List (Int × Int × List Int)) → (List (Int × Int × List Int)) → Int → Z
abbrev u_l_equalNodes_L1 {Z : Type} (f : A_l_equalNodes_L1 Z) (t : T_l_equalNodes_L1) : Z := f t.1 t.2.1 t.2.2.1
theorem loop_l_equalNodes_L1 {Q : A_l_equalNodes_L1 (((Bool × Unit) × (Unit)) → Prop)} (I : A_l_equalNodes_L1 Prop) (μ : A_l_equalNodes_L1 Nat)
    (step : ∀ a0 a1 a2, I a0 a1 a2 → ∀ again : (Nat → Nat) → T_l_equalNodes_L1 → R_l_equalNodes, Dep 2 again → (∀ y0 y1 y2, I y0 y1 y2 → μ y0 y1 y2 < μ a0 a1 a2 → Tot (fun σ => again σ (y0, y1, y2, ())) (Q y0 y1 y2)) →
      Tot (fun σ => B_l_equalNodes_L1b (σ 0) (F_l_equalInts (σ 0)) (again σ) a0 a1 a2) (Q a0 a1 a2)) :
    ∀ a0 a1 a2, I a0 a1 a2 → Tot (fun σ => B_l_equalNodes_L1 (σ 0) (F_l_equalInts (σ 0)) (σ 0) (a0, a1, a2, ())) (Q a0 a1 a2) := fun a0 a1 a2 => Tot.loop0 (L := fun k => B_l_equalNodes_L1 k (F_l_equalInts k)) (B := fun k g => u_l_equalNodes_L1 (B_l_equalNodes_L1b k (F_l_equalInts k) g)) (Q := u_l_equalNodes_L1 Q) (fun _ _ _ => rfl) (u_l_equalNodes_L1 I) (u_l_equalNodes_L1 μ)
    (fun t ht again hag h => step t.1 t.2.1 t.2.2.1 ht again hag fun y0 y1 y2 => h (y0, y1, y2, ())) (a0, a1, a2, ())
abbrev R_l_equalMachine : Type := Option ((Bool × Unit) × (Unit))
abbrev C_l_equalMachine : Type := (List (Int × Int × List Int)) → List Int → List Int → Bool → (List (Int × Int × List Int)) → List Int → List Int → Bool → R_l_equalMachine
def B_l_equalMachine (k : Nat) (c_l_equalNodes : C_l_equalNodes) (c_l_equalInts : C_l_equalInts) (a_0 : List (Int × Int × List Int)) (a_1 a_2 : List Int) (a_3 : Bool) (b_0 : List (Int × Int × List Int)) (b_1 b_2 : List Int) (b_3 : Bool) : R_l_equalMachine :=
  (c_l_equalNodes a_0 b_0).bind fun r9 =>
  bif r9.1.1 then
    (c_l_equalInts a_1 b_1).bind fun r15 =>
    bif r15.1.1 then
      (c_l_equalInts a_2 b_2).bind fun r22 =>
      bif r22.1.1 then
        some (((a_3 == b_3), ()), ())
      else
        some ((false, ()), ())
    else
      some ((false, ()), ())
  else
    some ((false, ()), ())
def F_l_equalMachine : Nat → C_l_equalMachine
  | 0, _, _, _, _, _, _, _, _ => none
  | k + 1, a_0, a_1, a_2, a_3, b_0, b_1, b_2, b_3 => B_l_equalMachine k (F_l_equalNodes k) (F_l_equalInts k) a_0 a_1 a_2 a_3 b_0 b_1 b_2 b_3
theorem tot_l_equalMachine {a_0 a_1 a_2 a_3 b_0 b_1 b_2 b_3 : _} {Q : _ → Prop} (h : Tot (fun σ => B_l_equalMachine (σ 0) (F_l_equalNodes (σ 0)) (F_l_equalInts (σ 0)) a_0 a_1 a_2 a_3 b_0 b_1 b_2 b_3) Q) : Tot (fun σ => F_l_equalMachine (σ 0) a_0 a_1 a_2 a_3 b_0 b_1 b_2 b_3) Q :=
  Tot.call (F := fun k => F_l_equalMachine k a_0 a_1 a_2 a_3 b_0 b_1 b_2 b_3) (B := fun k => B_l_equalMachine k (F_l_equalNodes k) (F_l_equalInts k) a_0 a_1 a_2 a_3 b_0 b_1 b_2 b_3) (fun k => rfl) h
abbrev R_l_FnStepMachine : Type := Option ((Bool × Unit) × (Unit))
abbrev C_l_FnStepMachine : Type := List Int → R_l_FnStepMachine
abbrev T_l_FnStepMachine_L2 : Type := ((List (Int × Int × List Int)) × List Int × List Int × Bool × Unit) × (Int × Int × Unit) × ((List (Int × Int × List Int)) × List Int × List Int × Bool × Unit) × Int × Int × Unit
def B_l_FnStepMachine_J1 (k : Nat) (c_s_DrawStepMachine : C_s_DrawStepMachine) (c_i_StepMachine : C_i_StepMachine) (c_s_StepMachine : C_s_StepMachine) (c_l_equalMachine : C_l_equalMachine) (c_i_ValidMachine : C_i_ValidMachine) (again2 : T_l_FnStepMachine_L2 → R_l_FnStepMachine) (m_Nodes : List (Int × Int × List Int)) (m_Stack m_Memo : List Int) (m_Done : Bool) (o_Code o_Arg : Int) (out_Nodes : List (Int × Int × List Int)) (out_Stack out_Memo : List Int) (out_Done : Bool) (d i : Int) (t110 : Bool) : R_l_FnStepMachine :=
  bif t110 then
    some ((false, ()), ())
  else
    again2 ((m_Nodes, m_Stack, m_Memo, m_Done, ()), (o_Code, o_Arg, ()), (out_Nodes, out_Stack, out_Memo, out_Done, ()), d, w64 (i + 1), ())
def B_l_FnStepMachine_L2b (k : Nat) (c_s_DrawStepMachine : C_s_DrawStepMachine) (c_i_StepMachine : C_i_StepMachine) (c_s_StepMachine : C_s_StepMachine) (c_l_equalMachine : C_l_equalMachine) (c_i_ValidMachine : C_i_ValidMachine) (again2 : T_l_FnStepMachine_L2 → R_l_FnStepMachine) (m_Nodes : List (Int × Int × List Int)) (m_Stack m_Memo : List Int) (m_Done : Bool) (o_Code o_Arg : Int) (out_Nodes : List (Int × Int × List Int)) (out_Stack out_Memo : List Int) (out_Done : Bool) (d i : Int) : R_l_FnStepMachine :=
  bif decide (i < (len m_Nodes)) then
    chk (inb i out_Nodes.length) <|
    chk (decide (i.toNat < out_Nodes.length)) <|
    chk (inb i m_Nodes.length) <|
    chk (decide (i.toNat < m_Nodes.length)) <|
    let v78 : Bool := (((out_Nodes.getD i.toNat ((0 : Int), ((0 : Int), ([] : List Int)))).1) != ((m_Nodes.getD i.toNat ((0 : Int), ((0 : Int), ([] : List Int)))).1))
    bif v78 then
      jn (fun t => B_l_FnStepMachine_J1 k c_s_DrawStepMachine c_i_StepMachine c_s_StepMachine c_l_equalMachine c_i_ValidMachine again2 t.1.1 t.1.2.1 t.1.2.2.1 t.1.2.2.2.1 t.2.1.1 t.2.1.2.1 t.2.2.1.1 t.2.2.1.2.1 t.2.2.1.2.2.1 t.2.2.1.2.2.2.1 t.2.2.2.1 t.2.2.2.2.1 t.2.2.2.2.2.1) ((m_Nodes, m_Stack, m_Memo, m_Done, ()), (o_Code, o_Arg, ()), (out_Nodes, out_Stack, out_Memo, out_Done, ()), d, i, true, ())
    else
      chk (inb i out_Nodes.length) <|
      chk (decide (i.toNat < out_Nodes.length)) <|
      chk (inb i m_Nodes.length) <|
      chk (decide (i.toNat < m_Nodes.length)) <|
      let v92 : Bool := ((((out_Nodes.getD i.toNat ((0 : Int), ((0 : Int), ([] : List Int)))).2).1) != (((m_Nodes.getD i.toNat ((0 : Int), ((0 : Int), ([] : List Int)))).2).1))
      bif v92 then
        jn (fun t => B_l_FnStepMachine_J1 k c_s_DrawStepMachine c_i_StepMachine c_s_StepMachine c_l_equalMachine c_i_ValidMachine again2 t.1.1 t.1.2.1 t.1.2.2.1 t.1.2.2.2.1 t.2.1.1 t.2.1.2.1 t.2.2.1.1 t.2.2.1.2.1 t.2.2.1.2.2.1 t.2.2.1.2.2.2.1 t.2.2.2.1 t.2.2.2.2.1 t.2.2.2.2.2.1) ((m_Nodes, m_Stack, m_Memo, m_Done, ()), (o_Code, o_Arg, ()), (out_Nodes, out_Stack, out_Memo, out_Done, ()), d, i, true, ())
      else
        chk (inb i out_Nodes.length) <|
        chk (decide (i.toNat < out_Nodes.length)) <|
        chk (inb i m_Nodes.length) <|
        chk (decide (i.toNat < m_Nodes.length)) <|
        let v109 : Bool := decide ((len (((out_Nodes.getD i.toNat ((0 : Int), ((0 : Int), ([] : List Int)))).2).2)) < (len (((m_Nodes.getD i.toNat ((0 : Int), ((0 : Int), ([] : List Int)))).2).2)))
        let w15 : List (Int × Int × List Int) := (out_Nodes.set i.toNat ((out_Nodes.getD i.toNat ((0 : Int), ((0 : Int), ([] : List Int)))).1, (((out_Nodes.getD i.toNat ((0 : Int), ((0 : Int), ([] : List Int)))).2).1, ((out_Nodes.getD i.toNat ((0 : Int), ((0 : Int), ([] : List Int)))).2).2)))
        jn (fun t => B_l_FnStepMachine_J1 k c_s_DrawStepMachine c_i_StepMachine c_s_StepMachine c_l_equalMachine c_i_ValidMachine again2 t.1.1 t.1.2.1 t.1.2.2.1 t.1.2.2.2.1 t.2.1.1 t.2.1.2.1 t.2.2.1.1 t.2.2.1.2.1 t.2.2.1.2.2.1 t.2.2.1.2.2.2.1 t.2.2.2.1 t.2.2.2.2.1 t.2.2.2.2.2.1) (((m_Nodes.set i.toNat ((m_Nodes.getD i.toNat ((0 : Int), ((0 : Int), ([] : List Int)))).1, (((m_Nodes.getD i.toNat ((0 : Int), ((0 : Int), ([] : List Int)))).2).1, ((m_Nodes.getD i.toNat ((0 : Int), ((0 : Int), ([] : List Int)))).2).2))), m_Stack, m_Memo, m_Done, ()), (o_Code, o_Arg, ()), (w15, out_Stack, out_Memo, out_Done, ()), d, i, v109, ())
  else
    (c_i_ValidMachine out_Nodes out_Stack out_Memo out_Done).bind fun r112 =>
    bif r112.1.1 then
      bif decide (d ≥ 0) then
        bif decide (d ≤ 1) then
          some (((out_Done == (o_Code == 19)), ()), ())
        else
          some ((false, ()), ())
      else
        some ((false, ()), ())
    else
      some ((false, ()), ())
def B_l_FnStepMachine_L2 (k : Nat) (c_s_DrawStepMachine : C_s_DrawStepMachine) (c_i_StepMachine : C_i_StepMachine) (c_s_StepMachine : C_s_StepMachine) (c_l_equalMachine : C_l_equalMachine) (c_i_ValidMachine : C_i_ValidMachine) (n : Nat) (t : T_l_FnStepMachine_L2) : R_l_FnStepMachine :=
  lfix n (fun again t => B_l_FnStepMachine_L2b k c_s_DrawStepMachine c_i_StepMachine c_s_StepMachine c_l_equalMachine c_i_ValidMachine again t.1.1 t.1.2.1 t.1.2.2.1 t.1.2.2.2.1 t.2.1.1 t.2.1.2.1 t.2.2.1.1 t.2.2.1.2.1 t.2.2.1.2.2.1 t.2.2.1.2.2.2.1 t.2.2.2.1 t.2.2.2.2.1) t
def B_l_FnStepMachine_J0 (k : Nat) (c_s_DrawStepMachine : C_s_DrawStepMachine) (c_i_StepMachine : C_i_StepMachine) (c_s_StepMachine : C_s_StepMachine) (c_l_equalMachine : C_l_equalMachine) (c_i_ValidMachine : C_i_ValidMachine) (m_Nodes : List (Int × Int × List Int)) (m_Stack m_Memo : List Int) (m_Done : Bool) (o_Code o_Arg : Int) (out_Nodes : List (Int × Int × List Int)) (out_Stack out_Memo : List Int) (out_Done ok : Bool) (want_Nodes : List (Int × Int × List Int)) (want_Stack want_Memo : List Int) (want_Done told t43 : Bool) : R_l_FnStepMachine :=
  bif t43 then
    (c_l_equalMachine out_Nodes out_Stack out_Memo out_Done want_Nodes want_Stack want_Memo want_Done).bind fun r46 =>
    bif r46.1.1 then
      some (((ok == told), ()), ())
    else
      some ((false, ()), ())
  else
    B_l_FnStepMachine_L2 k c_s_DrawStepMachine c_i_StepMachine c_s_StepMachine c_l_equalMachine c_i_ValidMachine k ((m_Nodes, m_Stack, m_Memo, m_Done, ()), (o_Code, o_Arg, ()), (out_Nodes, out_Stack, out_Memo, out_Done, ()), w64 ((len out_Nodes) - (len m_Nodes)), 0, ())
def B_l_FnStepMachine (k : Nat) (c_s_DrawStepMachine : C_s_DrawStepMachine) (c_i_StepMachine : C_i_StepMachine) (c_s_StepMachine : C_s_StepMachine) (c_l_equalMachine : C_l_equalMachine) (c_i_ValidMachine : C_i_ValidMachine) (code : List Int) : R_l_FnStepMachine :=
  bif decide ((len code) > 1048576) then
    some ((true, ()), ())
  else
    (c_s_DrawStepMachine code).bind fun r16 =>
    (c_i_StepMachine r16.1.1.1 r16.1.1.2.1 r16.1.1.2.2.1 r16.1.1.2.2.2.1 r16.1.2.1.1 r16.1.2.1.2.1).bind fun r22 =>
    (c_s_StepMachine r16.1.1.1 r16.1.1.2.1 r16.1.1.2.2.1 r16.1.1.2.2.2.1 r16.1.2.1.1 r16.1.2.1.2.1).bind fun r28 =>
    (c_l_equalMachine r22.1.1.1 r22.1.1.2.1 r22.1.1.2.2.1 r22.1.1.2.2.2.1 r28.1.1.1 r28.1.1.2.1 r28.1.1.2.2.1 r28.1.1.2.2.2.1).bind fun r33 =>
    bif (!r33.1.1) then
      jn (fun t => B_l_FnStepMachine_J0 k c_s_DrawStepMachine c_i_StepMachine c_s_StepMachine c_l_equalMachine c_i_ValidMachine t.1.1 t.1.2.1 t.1.2.2.1 t.1.2.2.2.1 t.2.1.1 t.2.1.2.1 t.2.2.1.1 t.2.2.1.2.1 t.2.2.1.2.2.1 t.2.2.1.2.2.2.1 t.2.2.2.1 t.2.2.2.2.1.1 t.2.2.2.2.1.2.1 t.2.2.2.2.1.2.2.1 t.2.2.2.2.1.2.2.2.1 t.2.2.2.2.2.1 t.2.2.2.2.2.2.1) ((r16.1.1.1, r16.1.1.2.1, r16.1.1.2.2.1, r16.1.1.2.2.2.1, ()), (r16.1.2.1.1, r16.1.2.1.2.1, ()), (r22.1.1.1, r22.1.1.2.1, r22.1.1.2.2.1, r22.1.1.2.2.2.1, ()), r22.1.2.1, (r28.1.1.1, r28.1.1.2.1, r28.1.1.2.2.1, r28.1.1.2.2.2.1, ()), r28.1.2.1, true, ())
    else
      bif (!(r22.1.2.1 == r28.1.2.1)) then
        jn (fun t => B_l_FnStepMachine_J0 k c_s_DrawStepMachine c_i_StepMachine c_s_StepMachine c_l_equalMachine c_i_ValidMachine t.1.1 t.1.2.1 t.1.2.2.1 t.1.2.2.2.1 t.2.1.1 t.2.1.2.1 t.2.2.1.1 t.2.2.1.2.1 t.2.2.1.2.2.1 t.2.2.1.2.2.2.1 t.2.2.2.1 t.2.2.2.2.1.1 t.2.2.2.2.1.2.1 t.2.2.2.2.1.2.2.1 t.2.2.2.2.1.2.2.2.1 t.2.2.2.2.2.1 t.2.2.2.2.2.2.1) ((r16.1.1.1, r16.1.1.2.1, r16.1.1.2.2.1, r16.1.1.2.2.2.1, ()), (r16.1.2.1.1, r16.1.2.1.2.1, ()), (r22.1.1.1, r22.1.1.2.1, r22.1.1.2.2.1, r22.1.1.2.2.2.1, ()), r22.1.2.1, (r28.1.1.1, r28.1.1.2.1, r28.1.1.2.2.1, r28.1.1.2.2.2.1, ()), r28.1.2.1, true, ())
      else
        jn (fun t => B_l_FnStepMachine_J0 k c_s_DrawStepMachine c_i_StepMachine c_s_StepMachine c_l_equalMachine c_i_ValidMachine t.1.1 t.1.2.1 t.1.2.2.1 t.1.2.2.2.1 t.2.1.1 t.2.1.2.1 t.2.2.1.1 t.2.2.1.2.1 t.2.2.1.2.2.1 t.2.2.1.2.2.2.1 t.2.2.2.1 t.2.2.2.2.1.1 t.2.2.2.2.1.2.1 t.2.2.2.2.1.2.2.1 t.2.2.2.2.1.2.2.2.1 t.2.2.2.2.2.1 t.2.2.2.2.2.2.1) ((r16.1.1.1, r16.1.1.2.1, r16.1.1.2.2.1, r16.1.1.2.2.2.1, ()), (r16.1.2.1.1, r16.1.2.1.2.1, ()), (r22.1.1.1, r22.1.1.2.1, r22.1.1.2.2.1, r22.1.1.2.2.2.1, ()), r22.1.2.1, (r28.1.1.1, r28.1.1.2.1, r28.1.1.2.2.1, r28.1.1.2.2.2.1, ()), r28.1.2.1, (!r22.1.2.1), ())
def F_l_FnStepMachine : Nat → C_l_FnStepMachine
  | 0, _ => none
  | k + 1, code => B_l_FnStepMachine k (F_s_DrawStepMachine k) (F_i_StepMachine k) (F_s_StepMachine k) (F_l_equalMachine k) (F_i_ValidMachine k) code
theorem tot_l_FnStepMachine {code : _} {Q : _ → Prop} (h : Tot (fun σ => B_l_FnStepMachine (σ 0) (F_s_DrawStepMachine (σ 0)) (F_i_StepMachine (σ 0)) (F_s_StepMachine (σ 0)) (F_l_equalMachine (σ 0)) (F_i_ValidMachine (σ 0)) code) Q) : Tot (fun σ => F_l_FnStepMachine (σ 0) code) Q :=
  Tot.call (F := fun k => F_l_FnStepMachine k code) (B := fun k => B_l_FnStepMachine k (F_s_DrawStepMachine k) (F_i_StepMachine k) (F_s_StepMachine k) (F_l_equalMachine k) (F_i_ValidMachine k) code) (fun k => rfl) h
abbrev A_l_FnStepMachine_L2 (Z : Type) : Type := (List (Int × Int × List Int)) → List Int → List Int → Bool → Int → Int → (List (Int × Int × List Int)) → List Int → List Int → Bool → Int → Int → Z
abbrev u_l_FnStepMachine_L2 {Z : Type} (f : A_l_FnStepMachine_L2 Z) (t : T_l_FnStepMachine_L2) : Z := f t.1.1 t.1.2.1 t.1.2.2.1 t.1.2.2.2.1 t.2.1.1 t.2.1.2.1 t.2.2.1.1 t.2.2.1.2.1 t.2.2.1.2.2.1 t.2.2.1.2.2.2.1 t.2.2.2.1 t.2.2.2.2.1
theorem loop_l_FnStepMachine_L2 {Q : A_l_FnStepMachine_L2 (((Bool × Unit) × (Unit)) → Prop)} (I : A_l_FnStepMachine_L2 Prop) (μ : A_l_FnStepMachine_L2 Nat)
    (step : ∀ a0 a1 a2 a3 a4 a5 a6 a7 a8 a9 a10 a11, I a0 a1 a2 a3 a4 a5 a6 a7 a8 a9 a10 a11 → ∀ again : (Nat → Nat) → T_l_FnStepMachine_L2 → R_l_FnStepMachine, Dep 2 again → (∀ y0 y1 y2 y3 y4 y5 y6 y7 y8 y9 y10 y11, I y0 y1 y2 y3 y4 y5 y6 y7 y8 y9 y10 y11 → μ y0 y1 y2 y3 y4 y5 y6 y7 y8 y9 y10 y11 < μ a0 a1 a2 a3 a4 a5 a6 a7 a8 a9 a10 a11 → Tot (fun σ => again σ ((y0, y1, y2, y3, ()), (y4, y5, ()), (y6, y7, y8, y9, ()), y10, y11, ())) (Q y0 y1 y2 y3 y4 y5 y6 y7 y8 y9 y10 y11)) →
      Tot (fun σ => B_l_FnStepMachine_L2b (σ 0) (F_s_DrawStepMachine (σ 0)) (F_i_StepMachine (σ 0)) (F_s_StepMachine (σ 0)) (F_l_equalMachine (σ 0)) (F_i_ValidMachine (σ 0)) (again σ) a0 a1 a2 a3 a4 a5 a6 a7 a8 a9 a10 a11) (Q a0 a1 a2 a3 a4 a5 a6 a7 a8 a9 a10 a11)) :
    ∀ a0 a1 a2 a3 a4 a5 a6 a7 a8 a9 a10 a11, I a0 a1 a2 a3 a4 a5 a6 a7 a8 a9 a10 a11 → Tot (fun σ => B_l_FnStepMachine_L2 (σ 0) (F_s_DrawStepMachine (σ 0)) (F_i_StepMachine (σ 0)) (F_s_StepMachine (σ 0)) (F_l_equalMachine (σ 0)) (F_i_ValidMachine (σ 0)) (σ 0) ((a0, a1, a2, a3, ()), (a4, a5, ()), (a6, a7, a8, a9, ()), a10, a11, ())) (Q a0 a1 a2 a3 a4 a5 a6 a7 a8 a9 a10 a11) := fun a0 a1 a2 a3 a4 a5 a6 a7 a8 a9 a10 a11 => Tot.loop0 (L := fun k => B_l_FnStepMachine_L2 k (F_s_DrawStepMachine k) (F_i_StepMachine k) (F_s_StepMachine k) (F_l_equalMachine k) (F_i_ValidMachine k)) (B := fun k g => u_l_FnStepMachine_L2 (B_l_FnStepMachine_L2b k (F_s_DrawStepMachine k) (F_i_StepMachine k) (F_s_StepMachine k) (F_l_equalMachine k) (F_i_ValidMachine k) g)) (Q := u_l_FnStepMachine_L2 Q) (fun _ _ _ => rfl) (u_l_FnStepMachine_L2 I) (u_l_FnStepMachine_L2 μ)
    (fun t ht again hag h => step t.1.1 t.1.2.1 t.1.2.2.1 t.1.2.2.2.1 t.2.1.1 t.2.1.2.1 t.2.2.1.1 t.2.2.1.2.1 t.2.2.1.2.2.1 t.2.2.1.2.2.2.1 t.2.2.2.1 t.2.2.2.2.1 ht again hag fun y0 y1 y2 y3 y4 y5 y6 y7 y8 y9 y10 y11 => h ((y0, y1, y2, y3, ()), (y4, y5, ()), (y6, y7, y8, y9, ()), y10, y11, ())) ((a0, a1, a2, a3, ()), (a4, a5, ()), (a6, a7, a8, a9, ()), a10, a11, ())
end Go.Gx

/-
  The functions, as Gx tells them (printed by gen.py).
-/
import Derived.Test.YtafomfpnbhnmfaaXGpart4
set_option linter.unusedVariables false
namespace Go.Gx
abbrev R_s_newReader : Type := Option (((List Int × Int × Unit) × Unit) × (Unit))
abbrev C_s_newReader : Type := List Int → R_s_newReader
def B_s_newReader_J0 (k : Nat) (code : List Int) : R_s_newReader :=
  some (((code, 0, ()), ()), ())
def B_s_newReader (k : Nat) (code : List Int) : R_s_newReader :=
  bif decide ((len code) > 2000) then
    chk (cutb 0 2000 code.length) <|
    jn (fun t => B_s_newReader_J0 k t.1) ((sub code 0 2000), ())
  else
    jn (fun t => B_s_newReader_J0 k t.1) (code, ())
def F_s_newReader : Nat → C_s_newReader
  | 0, _ => none
  | k + 1, code => B_s_newReader k code
theorem tot_s_newReader {code : _} {Q : _ → Prop} (h : Tot (fun σ => B_s_newReader (σ 0) code) Q) : Tot (fun σ => F_s_newReader (σ 0) code) Q :=
  Tot.call (F := fun k => F_s_newReader k code) (B := fun k => B_s_newReader k code) (fun k => rfl) h
abbrev R_s_reader_pick : Type := Option ((Int × Unit) × ((List Int × Int × Unit) × Unit))
abbrev C_s_reader_pick : Type := List Int → Int → Int → R_s_reader_pick
def B_s_reader_pick_J0 (k : Nat) (r_b : List Int) (r_p n1 : Int) (t24 : Bool) : R_s_reader_pick :=
  bif t24 then
    some ((0, ()), ((r_b, r_p, ()), ()))
  else
    bif decide ((w64 (r_p - 1)) < (len r_b)) then
      chk (inb (w64 (r_p - 1)) r_b.length) <|
      chk ((n1 != 0)) <|
      some ((((w64 ((rdx (0 : Int) r_b (w64 (r_p - 1))))).tmod n1), ()), ((r_b, r_p, ()), ()))
    else
      chk (((len r_b) != 0)) <|
      chk (inb ((w64 (r_p - 1)).tmod (len r_b)) r_b.length) <|
      chk (((len r_b) != 0)) <|
      chk (inb ((w64 ((w64 ((w64 (r_p - 1)) * 7)) + 3)).tmod (len r_b)) r_b.length) <|
      let v78 : Int := w64 ((w64 ((rdx (0 : Int) r_b ((w64 ((w64 ((w64 (r_p - 1)) * 7)) + 3)).tmod (len r_b))))) * 1117)
      let v82 : Int := w64 ((w64 ((w64 ((w64 ((rdx (0 : Int) r_b ((w64 (r_p - 1)).tmod (len r_b))))) * 131)) + v78)) + (w64 ((w64 (r_p - 1)) * 29)))
      chk (((len r_b) != 0)) <|
      let v95 : Int := xor64 (w64 (v82 + (w64 ((w64 ((w64 (r_p - 1)).tdiv (len r_b))) * 53)))) (w64 ((w64 (v82 + (w64 ((w64 ((w64 (r_p - 1)).tdiv (len r_b))) * 53)))).tdiv 64))
      chk ((n1 != 0)) <|
      some (((v95.tmod n1), ()), ((r_b, r_p, ()), ()))
def B_s_reader_pick (k : Nat) (r_b : List Int) (r_p n1 : Int) : R_s_reader_pick :=
  bif decide (n1 < 1) then
    jn (fun t => B_s_reader_pick_J0 k t.1.1 t.1.2.1 t.2.1 t.2.2.1) ((r_b, w64 (r_p + 1), ()), n1, true, ())
  else
    jn (fun t => B_s_reader_pick_J0 k t.1.1 t.1.2.1 t.2.1 t.2.2.1) ((r_b, w64 (r_p + 1), ()), n1, ((len r_b) == 0), ())
def F_s_reader_pick : Nat → C_s_reader_pick
  | 0, _, _, _ => none
  | k + 1, r_b, r_p, n1 => B_s_reader_pick k r_b r_p n1
theorem tot_s_reader_pick {r_b r_p n1 : _} {Q : _ → Prop} (h : Tot (fun σ => B_s_reader_pick (σ 0) r_b r_p n1) Q) : Tot (fun σ => F_s_reader_pick (σ 0) r_b r_p n1) Q :=
  Tot.call (F := fun k => F_s_reader_pick k r_b r_p n1) (B := fun k => B_s_reader_pick k r_b r_p n1) (fun k => rfl) h
abbrev R_s_newShapes : Type := Option (((List Int × List Bool × List Int × List Int × Bool × Unit) × Unit) × (Unit))
abbrev C_s_newShapes : Type := R_s_newShapes
abbrev T_s_newShapes_L0 : Type := (Unit × Unit × Unit × Unit × Bool × Unit) × (Unit × Unit × Unit × List Int × Bool × Unit) × Int × Unit
def B_s_newShapes_L0b (k : Nat) (again0 : T_s_newShapes_L0 → R_s_newShapes) (t0_Done : Bool) (s_Memo : List Int) (s_Done : Bool) (i : Int) : R_s_newShapes :=
  bif decide (i < 20) then
    chk (room s_Memo.length ([(-1)]).length) <|
    again0 (((), (), (), (), t0_Done, ()), ((), (), (), (s_Memo ++ [(-1)]), s_Done, ()), w64 (i + 1), ())
  else
    some ((([], [], [], s_Memo, s_Done, ()), ()), ())
def B_s_newShapes_L0 (k : Nat) (n : Nat) (t : T_s_newShapes_L0) : R_s_newShapes :=
  lfix n (fun again t => B_s_newShapes_L0b k again t.1.2.2.2.2.1 t.2.1.2.2.2.1 t.2.1.2.2.2.2.1 t.2.2.1) t
def B_s_newShapes (k : Nat) : R_s_newShapes :=
  B_s_newShapes_L0 k k (((), (), (), (), false, ()), ((), (), (), [], false, ()), 0, ())
def F_s_newShapes : Nat → C_s_newShapes
  | 0 => none
  | k + 1 => B_s_newShapes k
theorem tot_s_newShapes {Q : _ → Prop} (h : Tot (fun σ => B_s_newShapes (σ 0)) Q) : Tot (fun σ => F_s_newShapes (σ 0)) Q :=
  Tot.call (F := fun k => F_s_newShapes k) (B := fun k => B_s_newShapes k) (fun k => rfl) h
abbrev A_s_newShapes_L0 (Z : Type) : Type := Bool → List Int → Bool → Int → Z
abbrev u_s_newShapes_L0 {Z : Type} (f : A_s_newShapes_L0 Z) (t : T_s_newShapes_L0) : Z := f t.1.2.2.2.2.1 t.2.1.2.2.2.1 t.2.1.2.2.2.2.1 t.2.2.1
theorem loop_s_newShapes_L0 {Q : A_s_newShapes_L0 ((((List Int × List Bool × List Int × List Int × Bool × Unit) × Unit) × (Unit)) → Prop)} (I : A_s_newShapes_L0 Prop) (μ : A_s_newShapes_L0 Nat)
    (step : ∀ a0 a1 a2 a3, I a0 a1 a2 a3 → ∀ again : (Nat → Nat) → T_s_newShapes_L0 → R_s_newShapes, Dep 2 again → (∀ y0 y1 y2 y3, I y0 y1 y2 y3 → μ y0 y1 y2 y3 < μ a0 a1 a2 a3 → Tot (fun σ => again σ (((), (), (), (), y0, ()), ((), (), (), y1, y2, ()), y3, ())) (Q y0 y1 y2 y3)) →
      Tot (fun σ => B_s_newShapes_L0b (σ 0) (again σ) a0 a1 a2 a3) (Q a0 a1 a2 a3)) :
    ∀ a0 a1 a2 a3, I a0 a1 a2 a3 → Tot (fun σ => B_s_newShapes_L0 (σ 0) (σ 0) (((), (), (), (), a0, ()), ((), (), (), a1, a2, ()), a3, ())) (Q a0 a1 a2 a3) := fun a0 a1 a2 a3 => Tot.loop0 (L := fun k => B_s_newShapes_L0 k) (B := fun k g => u_s_newShapes_L0 (B_s_newShapes_L0b k g)) (Q := u_s_newShapes_L0 Q) (fun _ _ _ => rfl) (u_s_newShapes_L0 I) (u_s_newShapes_L0 μ)
    (fun t ht again hag h => step t.1.2.2.2.2.1 t.2.1.2.2.2.1 t.2.1.2.2.2.2.1 t.2.2.1 ht again hag fun y0 y1 y2 y3 => h (((), (), (), (), y0, ()), ((), (), (), y1, y2, ()), y3, ())) (((), (), (), (), a0, ()), ((), (), (), a1, a2, ()), a3, ())
abbrev R_s_reader_one : Type := Option ((Int × Unit) × ((List Int × Int × Unit) × Unit))
abbrev C_s_reader_one : Type := List Int → Int → List Int → R_s_reader_one
def B_s_reader_one (k : Nat) (c_s_reader_pick : C_s_reader_pick) (r_b : List Int) (r_p : Int) (list : List Int) : R_s_reader_one :=
  (c_s_reader_pick r_b r_p (len list)).bind fun r9 =>
  chk (inb r9.1.1 list.length) <|
  some (((rdx (0 : Int) list r9.1.1), ()), ((r9.2.1.1, r9.2.1.2.1, ()), ()))
def F_s_reader_one : Nat → C_s_reader_one
  | 0, _, _, _ => none
  | k + 1, r_b, r_p, list => B_s_reader_one k (F_s_reader_pick k) r_b r_p list
theorem tot_s_reader_one {r_b r_p list : _} {Q : _ → Prop} (h : Tot (fun σ => B_s_reader_one (σ 0) (F_s_reader_pick (σ 0)) r_b r_p list) Q) : Tot (fun σ => F_s_reader_one (σ 0) r_b r_p list) Q :=
  Tot.call (F := fun k => F_s_reader_one k r_b r_p list) (B := fun k => B_s_reader_one k (F_s_reader_pick k) r_b r_p list) (fun k => rfl) h
abbrev R_s_someOp : Type := Option (((Int × Int × Unit) × Unit) × ((List Int × Int × Unit) × Unit))
abbrev C_s_someOp : Type := List Int → Int → R_s_someOp
def B_s_someOp_J1 (k : Nat) (c_s_reader_pick : C_s_reader_pick) (c_s_reader_one : C_s_reader_one) (r_b : List Int) (r_p t2_Code t2_Arg o_Code o_Arg : Int) : R_s_someOp :=
  some (((o_Code, o_Arg, ()), ()), ((r_b, r_p, ()), ()))
def B_s_someOp_J0 (k : Nat) (c_s_reader_pick : C_s_reader_pick) (c_s_reader_one : C_s_reader_one) (r_b : List Int) (r_p t2_Code t2_Arg o_Code o_Arg : Int) (t17 : Bool) : R_s_someOp :=
  bif t17 then
    (c_s_reader_pick r_b r_p 4).bind fun r23 =>
    jn (fun t => B_s_someOp_J1 k c_s_reader_pick c_s_reader_one t.1.1 t.1.2.1 t.2.1.1 t.2.1.2.1 t.2.2.1.1 t.2.2.1.2.1) ((r23.2.1.1, r23.2.1.2.1, ()), (t2_Code, t2_Arg, ()), (o_Code, r23.1.1, ()), ())
  else
    jn (fun t => B_s_someOp_J1 k c_s_reader_pick c_s_reader_one t.1.1 t.1.2.1 t.2.1.1 t.2.1.2.1 t.2.2.1.1 t.2.2.1.2.1) ((r_b, r_p, ()), (t2_Code, t2_Arg, ()), (o_Code, o_Arg, ()), ())
def B_s_someOp (k : Nat) (c_s_reader_pick : C_s_reader_pick) (c_s_reader_one : C_s_reader_one) (r_b : List Int) (r_p : Int) : R_s_someOp :=
  (c_s_reader_pick r_b r_p 20).bind fun r5 =>
  bif (r5.1.1 == 0) then
    (c_s_reader_pick r5.2.1.1 r5.2.1.2.1 250).bind fun r13 =>
    (c_s_reader_one r13.2.1.1 r13.2.1.2.1 ([5, 127, 128, 999, r13.1.1])).bind fun r15 =>
    jn (fun t => B_s_someOp_J1 k c_s_reader_pick c_s_reader_one t.1.1 t.1.2.1 t.2.1.1 t.2.1.2.1 t.2.2.1.1 t.2.2.1.2.1) ((r15.2.1.1, r15.2.1.2.1, ()), (0, 0, ()), (r5.1.1, r15.1.1, ()), ())
  else
    bif (r5.1.1 == 1) then
      jn (fun t => B_s_someOp_J0 k c_s_reader_pick c_s_reader_one t.1.1 t.1.2.1 t.2.1.1 t.2.1.2.1 t.2.2.1.1 t.2.2.1.2.1 t.2.2.2.1) ((r5.2.1.1, r5.2.1.2.1, ()), (0, 0, ()), (r5.1.1, 0, ()), (r5.1.1 == 1), ())
    else
      bif (r5.1.1 == 13) then
        jn (fun t => B_s_someOp_J0 k c_s_reader_pick c_s_reader_one t.1.1 t.1.2.1 t.2.1.1 t.2.1.2.1 t.2.2.1.1 t.2.2.1.2.1 t.2.2.2.1) ((r5.2.1.1, r5.2.1.2.1, ()), (0, 0, ()), (r5.1.1, 0, ()), (r5.1.1 == 13), ())
      else
        bif (r5.1.1 == 15) then
          jn (fun t => B_s_someOp_J0 k c_s_reader_pick c_s_reader_one t.1.1 t.1.2.1 t.2.1.1 t.2.1.2.1 t.2.2.1.1 t.2.2.1.2.1 t.2.2.2.1) ((r5.2.1.1, r5.2.1.2.1, ()), (0, 0, ()), (r5.1.1, 0, ()), (r5.1.1 == 15), ())
        else
          jn (fun t => B_s_someOp_J0 k c_s_reader_pick c_s_reader_one t.1.1 t.1.2.1 t.2.1.1 t.2.1.2.1 t.2.2.1.1 t.2.2.1.2.1 t.2.2.2.1) ((r5.2.1.1, r5.2.1.2.1, ()), (0, 0, ()), (r5.1.1, 0, ()), (r5.1.1 == 16), ())
def F_s_someOp : Nat → C_s_someOp
  | 0, _, _ => none
  | k + 1, r_b, r_p => B_s_someOp k (F_s_reader_pick k) (F_s_reader_one k) r_b r_p
theorem tot_s_someOp {r_b r_p : _} {Q : _ → Prop} (h : Tot (fun σ => B_s_someOp (σ 0) (F_s_reader_pick (σ 0)) (F_s_reader_one (σ 0)) r_b r_p) Q) : Tot (fun σ => F_s_someOp (σ 0) r_b r_p) Q :=
  Tot.call (F := fun k => F_s_someOp k r_b r_p) (B := fun k => B_s_someOp k (F_s_reader_pick k) (F_s_reader_one k) r_b r_p) (fun k => rfl) h
abbrev R_s_copyInts : Type := Option ((List Int × Unit) × (Unit))
abbrev C_s_copyInts : Type := List Int → R_s_copyInts
def B_s_copyInts (k : Nat) (list : List Int) : R_s_copyInts :=
  chk (room ([] : List Int).length list.length) <|
  some ((list, ()), ())
def F_s_copyInts : Nat → C_s_copyInts
  | 0, _ => none
  | k + 1, list => B_s_copyInts k list
theorem tot_s_copyInts {list : _} {Q : _ → Prop} (h : Tot (fun σ => B_s_copyInts (σ 0) list) Q) : Tot (fun σ => F_s_copyInts (σ 0) list) Q :=
  Tot.call (F := fun k => F_s_copyInts k list) (B := fun k => B_s_copyInts k list) (fun k => rfl) h
abbrev R_s_copyShapes : Type := Option (((List Int × List Bool × List Int × List Int × Bool × Unit) × Unit) × (Unit))
abbrev C_s_copyShapes : Type := List Int → List Bool → List Int → List Int → Bool → R_s_copyShapes
def B_s_copyShapes (k : Nat) (c_s_copyInts : C_s_copyInts) (s_0 : List Int) (s_1 : List Bool) (s_2 s_3 : List Int) (s_4 : Bool) : R_s_copyShapes :=
  (c_s_copyInts s_0).bind fun r5 =>
  chk (room ([] : List Bool).length s_1.length) <|
  (c_s_copyInts s_2).bind fun r12 =>
  (c_s_copyInts s_3).bind fun r15 =>
  some (((r5.1.1, s_1, r12.1.1, r15.1.1, s_4, ()), ()), ())
def F_s_copyShapes : Nat → C_s_copyShapes
  | 0, _, _, _, _, _ => none
  | k + 1, s_0, s_1, s_2, s_3, s_4 => B_s_copyShapes k (F_s_copyInts k) s_0 s_1 s_2 s_3 s_4
theorem tot_s_copyShapes {s_0 s_1 s_2 s_3 s_4 : _} {Q : _ → Prop} (h : Tot (fun σ => B_s_copyShapes (σ 0) (F_s_copyInts (σ 0)) s_0 s_1 s_2 s_3 s_4) Q) : Tot (fun σ => F_s_copyShapes (σ 0) s_0 s_1 s_2 s_3 s_4) Q :=
  Tot.call (F := fun k => F_s_copyShapes k s_0 s_1 s_2 s_3 s_4) (B := fun k => B_s_copyShapes k (F_s_copyInts k) s_0 s_1 s_2 s_3 s_4) (fun k => rfl) h
abbrev R_s_newKind : Type := Option ((Int × Unit) × (Unit))
abbrev C_s_newKind : Type := Int → R_s_newKind
def B_s_newKind (k : Nat) (c : Int) : R_s_newKind :=
  bif (c == 0) then
    some ((0, ()), ())
  else
    bif (c == 1) then
      some ((1, ()), ())
    else
      bif (c == 4) then
        some ((2, ()), ())
      else
        bif (c == 7) then
          some ((3, ()), ())
        else
          bif (c == 10) then
            some ((4, ()), ())
          else
            bif (c == 13) then
              some ((5, ()), ())
            else
              some (((-1), ()), ())
def F_s_newKind : Nat → C_s_newKind
  | 0, _ => none
  | k + 1, c => B_s_newKind k c
theorem tot_s_newKind {c : _} {Q : _ → Prop} (h : Tot (fun σ => B_s_newKind (σ 0) c) Q) : Tot (fun σ => F_s_newKind (σ 0) c) Q :=
  Tot.call (F := fun k => F_s_newKind k c) (B := fun k => B_s_newKind k c) (fun k => rfl) h
abbrev R_s_pushShape : Type := Option (((List Int × List Bool × List Int × List Int × Bool × Unit) × Unit) × (Unit))
abbrev C_s_pushShape : Type := List Int → List Bool → List Int → List Int → Bool → Int → R_s_pushShape
def B_s_pushShape (k : Nat) (s_0 : List Int) (s_1 : List Bool) (s_2 s_3 : List Int) (s_4 : Bool) (kind : Int) : R_s_pushShape :=
  chk (room s_0.length ([kind]).length) <|
  chk (room s_1.length ([false]).length) <|
  chk (room s_2.length ([w64 ((len (s_0 ++ [kind])) - 1)]).length) <|
  some ((((s_0 ++ [kind]), (s_1 ++ [false]), (s_2 ++ [w64 ((len (s_0 ++ [kind])) - 1)]), s_3, s_4, ()), ()), ())
def F_s_pushShape : Nat → C_s_pushShape
  | 0, _, _, _, _, _, _ => none
  | k + 1, s_0, s_1, s_2, s_3, s_4, kind => B_s_pushShape k s_0 s_1 s_2 s_3 s_4 kind
theorem tot_s_pushShape {s_0 s_1 s_2 s_3 s_4 kind : _} {Q : _ → Prop} (h : Tot (fun σ => B_s_pushShape (σ 0) s_0 s_1 s_2 s_3 s_4 kind) Q) : Tot (fun σ => F_s_pushShape (σ 0) s_0 s_1 s_2 s_3 s_4 kind) Q :=
  Tot.call (F := fun k => F_s_pushShape k s_0 s_1 s_2 s_3 s_4 kind) (B := fun k => B_s_pushShape k s_0 s_1 s_2 s_3 s_4 kind) (fun k => rfl) h
abbrev R_s_shapeAt : Type := Option ((Int × Unit) × (Unit))
abbrev C_s_shapeAt : Type := List Int → List Bool → List Int → List Int → Bool → Int → R_s_shapeAt
def B_s_shapeAt_J0 (k : Nat) (s_Kinds : List Int) (s_Full : List Bool) (s_Stack s_Memo : List Int) (s_Done : Bool) (at5 : Int) (t21 : Bool) : R_s_shapeAt :=
  bif t21 then
    some (((-1), ()), ())
  else
    chk (inb at5 s_Stack.length) <|
    chk (inb (rdx (0 : Int) s_Stack at5) s_Kinds.length) <|
    some (((rdx (0 : Int) s_Kinds (rdx (0 : Int) s_Stack at5)), ()), ())
def B_s_shapeAt (k : Nat) (s_0 : List Int) (s_1 : List Bool) (s_2 s_3 : List Int) (s_4 : Bool) (deep : Int) : R_s_shapeAt :=
  bif decide ((w64 ((w64 ((len s_2) - 1)) - deep)) < 0) then
    jn (fun t => B_s_shapeAt_J0 k t.1.1 t.1.2.1 t.1.2.2.1 t.1.2.2.2.1 t.1.2.2.2.2.1 t.2.1 t.2.2.1) ((s_0, s_1, s_2, s_3, s_4, ()), w64 ((w64 ((len s_2) - 1)) - deep), true, ())
  else
    chk (inb (w64 ((w64 ((len s_2) - 1)) - deep)) s_2.length) <|
    jn (fun t => B_s_shapeAt_J0 k t.1.1 t.1.2.1 t.1.2.2.1 t.1.2.2.2.1 t.1.2.2.2.2.1 t.2.1 t.2.2.1) ((s_0, s_1, s_2, s_3, s_4, ()), w64 ((w64 ((len s_2) - 1)) - deep), decide ((rdx (0 : Int) s_2 (w64 ((w64 ((len s_2) - 1)) - deep))) < 0), ())
def F_s_shapeAt : Nat → C_s_shapeAt
  | 0, _, _, _, _, _, _ => none
  | k + 1, s_0, s_1, s_2, s_3, s_4, deep => B_s_shapeAt k s_0 s_1 s_2 s_3 s_4 deep
theorem tot_s_shapeAt {s_0 s_1 s_2 s_3 s_4 deep : _} {Q : _ → Prop} (h : Tot (fun σ => B_s_shapeAt (σ 0) s_0 s_1 s_2 s_3 s_4 deep) Q) : Tot (fun σ => F_s_shapeAt (σ 0) s_0 s_1 s_2 s_3 s_4 deep) Q :=
  Tot.call (F := fun k => F_s_shapeAt k s_0 s_1 s_2 s_3 s_4 deep) (B := fun k => B_s_shapeAt k s_0 s_1 s_2 s_3 s_4 deep) (fun k => rfl) h
abbrev R_s_keyKind : Type := Option ((Bool × Unit) × (Unit))
abbrev C_s_keyKind : Type := Int → R_s_keyKind
def B_s_keyKind (k : Nat) (kind : Int) : R_s_keyKind :=
  bif (kind == 0) then
    some ((true, ()), ())
  else
    some (((kind == 1), ()), ())
def F_s_keyKind : Nat → C_s_keyKind
  | 0, _ => none
  | k + 1, kind => B_s_keyKind k kind
theorem tot_s_keyKind {kind : _} {Q : _ → Prop} (h : Tot (fun σ => B_s_keyKind (σ 0) kind) Q) : Tot (fun σ => F_s_keyKind (σ 0) kind) Q :=
  Tot.call (F := fun k => F_s_keyKind k kind) (B := fun k => B_s_keyKind k kind) (fun k => rfl) h
abbrev R_s_markShapes : Type := Option (((List Int × List Bool × List Int × List Int × Bool × Unit) × Bool × Unit) × (Unit))
abbrev C_s_markShapes : Type := List Int → List Bool → List Int → List Int → Bool → Int → R_s_markShapes
abbrev T_s_markShapes_L2 : Type := (List Int × List Bool × List Int × List Int × Bool × Unit) × (Unit × Unit × Unit × Unit × Bool × Unit) × List Int × Int × Unit
abbrev T_s_markShapes_L1 : Type := Int × (List Int × List Bool × List Int × List Int × Bool × Unit) × (Unit × Unit × Unit × Unit × Bool × Unit) × Int × Unit
def B_s_markShapes_L2b (k : Nat) (c_s_copyInts : C_s_copyInts) (c_s_pushShape : C_s_pushShape) (c_s_shapeAt : C_s_shapeAt) (c_s_keyKind : C_s_keyKind) (again2 : T_s_markShapes_L2 → R_s_markShapes) (s_Kinds : List Int) (s_Full : List Bool) (s_Stack s_Memo : List Int) (s_Done t4_Done : Bool) (list : List Int) (i : Int) : R_s_markShapes :=
  bif decide (i < (len list)) then
    chk (inb i list.length) <|
    chk (decide (i.toNat < list.length)) <|
    chk (inb (list.getD i.toNat (0 : Int)) s_Kinds.length) <|
    chk (decide ((list.getD i.toNat (0 : Int)).toNat < s_Kinds.length)) <|
    (c_s_keyKind (s_Kinds.getD ((list.getD i.toNat (0 : Int)).toNat) (0 : Int))).bind fun r66 =>
    bif (!r66.1.1) then
      some (((s_Kinds, s_Full, s_Stack, s_Memo, s_Done, ()), false, ()), ())
    else
      again2 ((s_Kinds, s_Full, s_Stack, s_Memo, s_Done, ()), ((), (), (), (), t4_Done, ()), list, w64 (i + 2), ())
  else
    (c_s_shapeAt s_Kinds s_Full s_Stack s_Memo s_Done 0).bind fun r71 =>
    bif (r71.1.1 == 4) then
      some (((s_Kinds, s_Full, s_Stack, s_Memo, s_Done, ()), (((len list).tmod 2) == 0), ()), ())
    else
      some (((s_Kinds, s_Full, s_Stack, s_Memo, s_Done, ()), false, ()), ())
def B_s_markShapes_L2 (k : Nat) (c_s_copyInts : C_s_copyInts) (c_s_pushShape : C_s_pushShape) (c_s_shapeAt : C_s_shapeAt) (c_s_keyKind : C_s_keyKind) (n : Nat) (t : T_s_markShapes_L2) : R_s_markShapes :=
  lfix n (fun again t => B_s_markShapes_L2b k c_s_copyInts c_s_pushShape c_s_shapeAt c_s_keyKind again t.1.1 t.1.2.1 t.1.2.2.1 t.1.2.2.2.1 t.1.2.2.2.2.1 t.2.1.2.2.2.2.1 t.2.2.1 t.2.2.2.1) t
def B_s_markShapes_J0 (k : Nat) (c_s_copyInts : C_s_copyInts) (c_s_pushShape : C_s_pushShape) (c_s_shapeAt : C_s_shapeAt) (c_s_keyKind : C_s_keyKind) (again1 : T_s_markShapes_L1 → R_s_markShapes) (c : Int) (s_Kinds : List Int) (s_Full : List Bool) (s_Stack s_Memo : List Int) (s_Done t4_Done : Bool) (at6 : Int) (t22 : Bool) : R_s_markShapes :=
  bif t22 then
    again1 (c, (s_Kinds, s_Full, s_Stack, s_Memo, s_Done, ()), ((), (), (), (), t4_Done, ()), w64 (at6 - 1), ())
  else
    bif decide (at6 < 0) then
      some (((s_Kinds, s_Full, s_Stack, s_Memo, s_Done, ()), false, ()), ())
    else
      chk (cutb (w64 (at6 + 1)) (len s_Stack) s_Stack.length) <|
      (c_s_copyInts ((s_Stack.take ((len s_Stack).toNat)).drop ((w64 (at6 + 1)).toNat))).bind fun r33 =>
      chk (cutb 0 at6 s_Stack.length) <|
      bif (c == 3) then
        (c_s_pushShape s_Kinds s_Full (s_Stack.take at6.toNat) s_Memo s_Done 2).bind fun r43 =>
        some (((r43.1.1.1, r43.1.1.2.1, r43.1.1.2.2.1, r43.1.1.2.2.2.1, r43.1.1.2.2.2.2.1, ()), true, ()), ())
      else
        bif (c == 9) then
          (c_s_shapeAt s_Kinds s_Full ((s_Stack.take at6.toNat).drop 0) s_Memo s_Done 0).bind fun r48 =>
          some (((s_Kinds, s_Full, (s_Stack.take at6.toNat), s_Memo, s_Done, ()), (r48.1.1 == 3), ()), ())
        else
          bif (c == 12) then
            B_s_markShapes_L2 k c_s_copyInts c_s_pushShape c_s_shapeAt c_s_keyKind k ((s_Kinds, s_Full, (s_Stack.take at6.toNat), s_Memo, s_Done, ()), ((), (), (), (), t4_Done, ()), r33.1.1, 0, ())
          else
            some (((s_Kinds, s_Full, (s_Stack.take at6.toNat), s_Memo, s_Done, ()), true, ()), ())
def B_s_markShapes_L1b (k : Nat) (c_s_copyInts : C_s_copyInts) (c_s_pushShape : C_s_pushShape) (c_s_shapeAt : C_s_shapeAt) (c_s_keyKind : C_s_keyKind) (again1 : T_s_markShapes_L1 → R_s_markShapes) (c : Int) (s_Kinds : List Int) (s_Full : List Bool) (s_Stack s_Memo : List Int) (s_Done t4_Done : Bool) (at6 : Int) : R_s_markShapes :=
  bif decide (at6 ≥ 0) then
    chk (inb at6 s_Stack.length) <|
    chk (decide (at6.toNat < s_Stack.length)) <|
    jn (fun t => B_s_markShapes_J0 k c_s_copyInts c_s_pushShape c_s_shapeAt c_s_keyKind again1 t.1 t.2.1.1 t.2.1.2.1 t.2.1.2.2.1 t.2.1.2.2.2.1 t.2.1.2.2.2.2.1 t.2.2.1.2.2.2.2.1 t.2.2.2.1 t.2.2.2.2.1) (c, (s_Kinds, s_Full, s_Stack, s_Memo, s_Done, ()), ((), (), (), (), t4_Done, ()), at6, decide ((s_Stack.getD at6.toNat (0 : Int)) ≥ 0), ())
  else
    jn (fun t => B_s_markShapes_J0 k c_s_copyInts c_s_pushShape c_s_shapeAt c_s_keyKind again1 t.1 t.2.1.1 t.2.1.2.1 t.2.1.2.2.1 t.2.1.2.2.2.1 t.2.1.2.2.2.2.1 t.2.2.1.2.2.2.2.1 t.2.2.2.1 t.2.2.2.2.1) (c, (s_Kinds, s_Full, s_Stack, s_Memo, s_Done, ()), ((), (), (), (), t4_Done, ()), at6, false, ())
def B_s_markShapes_L1 (k : Nat) (c_s_copyInts : C_s_copyInts) (c_s_pushShape : C_s_pushShape) (c_s_shapeAt : C_s_shapeAt) (c_s_keyKind : C_s_keyKind) (n : Nat) (t : T_s_markShapes_L1) : R_s_markShapes :=
  lfix n (fun again t => B_s_markShapes_L1b k c_s_copyInts c_s_pushShape c_s_shapeAt c_s_keyKind again t.1 t.2.1.1 t.2.1.2.1 t.2.1.2.2.1 t.2.1.2.2.2.1 t.2.1.2.2.2.2.1 t.2.2.1.2.2.2.2.1 t.2.2.2.1) t
def B_s_markShapes (k : Nat) (c_s_copyInts : C_s_copyInts) (c_s_pushShape : C_s_pushShape) (c_s_shapeAt : C_s_shapeAt) (c_s_keyKind : C_s_keyKind) (s_0 : List Int) (s_1 : List Bool) (s_2 s_3 : List Int) (s_4 : Bool) (c : Int) : R_s_markShapes :=
  B_s_markShapes_L1 k c_s_copyInts c_s_pushShape c_s_shapeAt c_s_keyKind k (c, (s_0, s_1, s_2, s_3, s_4, ()), ((), (), (), (), false, ()), w64 ((len s_2) - 1), ())
def F_s_markShapes : Nat → C_s_markShapes
  | 0, _, _, _, _, _, _ => none
  | k + 1, s_0, s_1, s_2, s_3, s_4, c => B_s_markShapes k (F_s_copyInts k) (F_s_pushShape k) (F_s_shapeAt k) (F_s_keyKind k) s_0 s_1 s_2 s_3 s_4 c
theorem tot_s_markShapes {s_0 s_1 s_2 s_3 s_4 c : _} {Q : _ → Prop} (h : Tot (fun σ => B_s_markShapes (σ 0) (F_s_copyInts (σ 0)) (F_s_pushShape (σ 0)) (F_s_shapeAt (σ 0)) (F_s_keyKind (σ 0)) s_0 s_1 s_2 s_3 s_4 c) Q) : Tot (fun σ => F_s_markShapes (σ 0) s_0 s_1 s_2 s_3 s_4 c) Q :=
  Tot.call (F := fun k => F_s_markShapes k s_0 s_1 s_2 s_3 s_4 c) (B := fun k => B_s_markShapes k (F_s_copyInts k) (F_s_pushShape k) (F_s_shapeAt k) (F_s_keyKind k) s_0 s_1 s_2 s_3 s_4 c) (fun k => rfl) h
abbrev A_s_markShapes_L2 (Z : Type) : Type := List Int → List Bool → List Int → List Int → Bool → Bool → List Int → Int → Z
abbrev u_s_markShapes_L2 {Z : Type} (f : A_s_markShapes_L2 Z) (t : T_s_markShapes_L2) : Z := f t.1.1 t.1.2.1 t.1.2.2.1 t.1.2.2.2.1 t.1.2.2.2.2.1 t.2.1.2.2.2.2.1 t.2.2.1 t.2.2.2.1
theorem loop_s_markShapes_L2 {Q : A_s_markShapes_L2 ((((List Int × List Bool × List Int × List Int × Bool × Unit) × Bool × Unit) × (Unit)) → Prop)} (I : A_s_markShapes_L2 Prop) (μ : A_s_markShapes_L2 Nat)
    (step : ∀ a0 a1 a2 a3 a4 a5 a6 a7, I a0 a1 a2 a3 a4 a5 a6 a7 → ∀ again : (Nat → Nat) → T_s_markShapes_L2 → R_s_markShapes, Dep 2 again → (∀ y0 y1 y2 y3 y4 y5 y6 y7, I y0 y1 y2 y3 y4 y5 y6 y7 → μ y0 y1 y2 y3 y4 y5 y6 y7 < μ a0 a1 a2 a3 a4 a5 a6 a7 → Tot (fun σ => again σ ((y0, y1, y2, y3, y4, ()), ((), (), (), (), y5, ()), y6, y7, ())) (Q y0 y1 y2 y3 y4 y5 y6 y7)) →
      Tot (fun σ => B_s_markShapes_L2b (σ 0) (F_s_copyInts (σ 0)) (F_s_pushShape (σ 0)) (F_s_shapeAt (σ 0)) (F_s_keyKind (σ 0)) (again σ) a0 a1 a2 a3 a4 a5 a6 a7) (Q a0 a1 a2 a3 a4 a5 a6 a7)) :
    ∀ a0 a1 a2 a3 a4 a5 a6 a7, I a0 a1 a2 a3 a4 a5 a6 a7 → Tot (fun σ => B_s_markShapes_L2 (σ 0) (F_s_copyInts (σ 0)) (F_s_pushShape (σ 0)) (F_s_shapeAt (σ 0)) (F_s_keyKind (σ 0)) (σ 0) ((a0, a1, a2, a3, a4, ()), ((), (), (), (), a5, ()), a6, a7, ())) (Q a0 a1 a2 a3 a4 a5 a6 a7) := fun a0 a1 a2 a3 a4 a5 a6 a7 => Tot.loop0 (L := fun k => B_s_markShapes_L2 k (F_s_copyInts k) (F_s_pushShape k) (F_s_shapeAt k) (F_s_keyKind k)) (B := fun k g => u_s_markShapes_L2 (B_s_markShapes_L2b k (F_s_copyInts k) (F_s_pushShape k) (F_s_shapeAt k) (F_s_keyKind k) g)) (Q := u_s_markShapes_L2 Q) (fun _ _ _ => rfl) (u_s_markShapes_L2 I) (u_s_markShapes_L2 μ)
    (fun t ht again hag h => step t.1.1 t.1.2.1 t.1.2.2.1 t.1.2.2.2.1 t.1.2.2.2.2.1 t.2.1.2.2.2.2.1 t.2.2.1 t.2.2.2.1 ht again hag fun y0 y1 y2 y3 y4 y5 y6 y7 => h ((y0, y1, y2, y3, y4, ()), ((), (), (), (), y5, ()), y6, y7, ())) ((a0, a1, a2, a3, a4, ()), ((), (), (), (), a5, ()), a6, a7, ())
abbrev A_s_markShapes_L1 (Z : Type) : Type := Int → List Int → List Bool → List Int → List Int → Bool → Bool → Int → Z
abbrev u_s_markShapes_L1 {Z : Type} (f : A_s_markShapes_L1 Z) (t : T_s_markShapes_L1) : Z := f t.1 t.2.1.1 t.2.1.2.1 t.2.1.2.2.1 t.2.1.2.2.2.1 t.2.1.2.2.2.2.1 t.2.2.1.2.2.2.2.1 t.2.2.2.1
theorem loop_s_markShapes_L1 {Q : A_s_markShapes_L1 ((((List Int × List Bool × List Int × List Int × Bool × Unit) × Bool × Unit) × (Unit)) → Prop)} (I : A_s_markShapes_L1 Prop) (μ : A_s_markShapes_L1 Nat)
    (step : ∀ a0 a1 a2 a3 a4 a5 a6 a7, I a0 a1 a2 a3 a4 a5 a6 a7 → ∀ again : (Nat → Nat) → T_s_markShapes_L1 → R_s_markShapes, Dep 2 again → (∀ y0 y1 y2 y3 y4 y5 y6 y7, I y0 y1 y2 y3 y4 y5 y6 y7 → μ y0 y1 y2 y3 y4 y5 y6 y7 < μ a0 a1 a2 a3 a4 a5 a6 a7 → Tot (fun σ => again σ (y0, (y1, y2, y3, y4, y5, ()), ((), (), (), (), y6, ()), y7, ())) (Q y0 y1 y2 y3 y4 y5 y6 y7)) →
      Tot (fun σ => B_s_markShapes_L1b (σ 0) (F_s_copyInts (σ 0)) (F_s_pushShape (σ 0)) (F_s_shapeAt (σ 0)) (F_s_keyKind (σ 0)) (again σ) a0 a1 a2 a3 a4 a5 a6 a7) (Q a0 a1 a2 a3 a4 a5 a6 a7)) :
    ∀ a0 a1 a2 a3 a4 a5 a6 a7, I a0 a1 a2 a3 a4 a5 a6 a7 → Tot (fun σ => B_s_markShapes_L1 (σ 0) (F_s_copyInts (σ 0)) (F_s_pushShape (σ 0)) (F_s_shapeAt (σ 0)) (F_s_keyKind (σ 0)) (σ 0) (a0, (a1, a2, a3, a4, a5, ()), ((), (), (), (), a6, ()), a7, ())) (Q a0 a1 a2 a3 a4 a5 a6 a7) := fun a0 a1 a2 a3 a4 a5 a6 a7 => Tot.loop0 (L := fun k => B_s_markShapes_L1 k (F_s_copyInts k) (F_s_pushShape k) (F_s_shapeAt k) (F_s_keyKind k)) (B := fun k g => u_s_markShapes_L1 (B_s_markShapes_L1b k (F_s_copyInts k) (F_s_pushShape k) (F_s_shapeAt k) (F_s_keyKind k) g)) (Q := u_s_markShapes_L1 Q) (fun _ _ _ => rfl) (u_s_markShapes_L1 I) (u_s_markShapes_L1 μ)
    (fun t ht again hag h => step t.1 t.2.1.1 t.2.1.2.1 t.2.1.2.2.1 t.2.1.2.2.2.1 t.2.1.2.2.2.2.1 t.2.2.1.2.2.2.2.1 t.2.2.2.1 ht again hag fun y0 y1 y2 y3 y4 y5 y6 y7 => h (y0, (y1, y2, y3, y4, y5, ()), ((), (), (), (), y6, ()), y7, ())) (a0, (a1, a2, a3, a4, a5, ()), ((), (), (), (), a6, ()), a7, ())
abbrev R_s_takeShapes : Type := Option (((List Int × List Bool × List Int × List Int × Bool × Unit) × Bool × Unit) × (Unit))
abbrev C_s_takeShapes : Type := List Int → List Bool → List Int → List Int → Bool → Int → Int → R_s_takeShapes
def B_s_takeShapes_J2 (k : Nat) (c_s_shapeAt : C_s_shapeAt) (c_s_pushShape : C_s_pushShape) (c_s_keyKind : C_s_keyKind) (s_Kinds : List Int) (s_Full : List Bool) (s_Stack s_Memo : List Int) (s_Done t4_Done ok : Bool) (many : Int) : R_s_takeShapes :=
  bif (!ok) then
    some (((s_Kinds, s_Full, s_Stack, s_Memo, s_Done, ()), false, ()), ())
  else
    chk (cutb 0 (w64 ((len s_Stack) - many)) s_Stack.length) <|
    some (((s_Kinds, s_Full, (s_Stack.take ((w64 ((len s_Stack) - many)).toNat)), s_Memo, s_Done, ()), true, ()), ())
def B_s_takeShapes_J0 (k : Nat) (c_s_shapeAt : C_s_shapeAt) (c_s_pushShape : C_s_pushShape) (c_s_keyKind : C_s_keyKind) (s_Kinds : List Int) (s_Full : List Bool) (s_Stack s_Memo : List Int) (s_Done t4_Done t40 : Bool) : R_s_takeShapes :=
  bif t40 then
    some (((s_Kinds, s_Full, s_Stack, s_Memo, s_Done, ()), false, ()), ())
  else
    chk (cutb 0 (w64 ((len s_Stack) - 2)) s_Stack.length) <|
    (c_s_pushShape s_Kinds s_Full (s_Stack.take ((w64 ((len s_Stack) - 2)).toNat)) s_Memo s_Done 2).bind fun r51 =>
    some (((r51.1.1.1, r51.1.1.2.1, r51.1.1.2.2.1, r51.1.1.2.2.2.1, r51.1.1.2.2.2.2.1, ()), true, ()), ())
def B_s_takeShapes_J1 (k : Nat) (c_s_shapeAt : C_s_shapeAt) (c_s_pushShape : C_s_pushShape) (c_s_keyKind : C_s_keyKind) (s_Kinds : List Int) (s_Full : List Bool) (s_Stack s_Memo : List Int) (s_Done t4_Done ok : Bool) (many : Int) : R_s_takeShapes :=
  bif ok then
    chk (inb (w64 ((len s_Stack) - 2)) s_Stack.length) <|
    chk (decide ((w64 ((len s_Stack) - 2)).toNat < s_Stack.length)) <|
    chk (inb (s_Stack.getD ((w64 ((len s_Stack) - 2)).toNat) (0 : Int)) s_Full.length) <|
    chk (decide ((s_Stack.getD ((w64 ((len s_Stack) - 2)).toNat) (0 : Int)).toNat < s_Full.length)) <|
    jn (fun t => B_s_takeShapes_J2 k c_s_shapeAt c_s_pushShape c_s_keyKind t.1.1 t.1.2.1 t.1.2.2.1 t.1.2.2.2.1 t.1.2.2.2.2.1 t.2.1.2.2.2.2.1 t.2.2.1 t.2.2.2.1) ((s_Kinds, (s_Full.set ((s_Stack.getD ((w64 ((len s_Stack) - 2)).toNat) (0 : Int)).toNat) true), s_Stack, s_Memo, s_Done, ()), ((), (), (), (), t4_Done, ()), ok, many, ())
  else
    jn (fun t => B_s_takeShapes_J2 k c_s_shapeAt c_s_pushShape c_s_keyKind t.1.1 t.1.2.1 t.1.2.2.1 t.1.2.2.2.1 t.1.2.2.2.2.1 t.2.1.2.2.2.2.1 t.2.2.1 t.2.2.2.1) ((s_Kinds, s_Full, s_Stack, s_Memo, s_Done, ()), ((), (), (), (), t4_Done, ()), ok, many, ())
def B_s_takeShapes (k : Nat) (c_s_shapeAt : C_s_shapeAt) (c_s_pushShape : C_s_pushShape) (c_s_keyKind : C_s_keyKind) (s_0 : List Int) (s_1 : List Bool) (s_2 s_3 : List Int) (s_4 : Bool) (o_0 o_1 : Int) : R_s_takeShapes :=
  (c_s_shapeAt s_0 s_1 s_2 s_3 s_4 0).bind fun r11 =>
  (c_s_shapeAt s_0 s_1 s_2 s_3 s_4 1).bind fun r13 =>
  bif (o_0 == 5) then
    bif (!(decide (r11.1.1 ≥ 0))) then
      some (((s_0, s_1, s_2, s_3, s_4, ()), false, ()), ())
    else
      chk (cutb 0 (w64 ((len s_2) - 1)) s_2.length) <|
      (c_s_pushShape s_0 s_1 (s_2.take ((w64 ((len s_2) - 1)).toNat)) s_3 s_4 2).bind fun r32 =>
      some (((r32.1.1.1, r32.1.1.2.1, r32.1.1.2.2.1, r32.1.1.2.2.2.1, r32.1.1.2.2.2.2.1, ()), true, ()), ())
  else
    bif (o_0 == 6) then
      bif (!(decide (r11.1.1 ≥ 0))) then
        jn (fun t => B_s_takeShapes_J0 k c_s_shapeAt c_s_pushShape c_s_keyKind t.1.1 t.1.2.1 t.1.2.2.1 t.1.2.2.2.1 t.1.2.2.2.2.1 t.2.1.2.2.2.2.1 t.2.2.1) ((s_0, s_1, s_2, s_3, s_4, ()), ((), (), (), (), false, ()), true, ())
      else
        jn (fun t => B_s_takeShapes_J0 k c_s_shapeAt c_s_pushShape c_s_keyKind t.1.1 t.1.2.1 t.1.2.2.1 t.1.2.2.2.1 t.1.2.2.2.2.1 t.2.1.2.2.2.2.1 t.2.2.1) ((s_0, s_1, s_2, s_3, s_4, ()), ((), (), (), (), false, ()), decide (r13.1.1 < 0), ())
    else
      bif (o_0 == 8) then
        bif decide (r11.1.1 ≥ 0) then
          jn (fun t => B_s_takeShapes_J2 k c_s_shapeAt c_s_pushShape c_s_keyKind t.1.1 t.1.2.1 t.1.2.2.1 t.1.2.2.2.1 t.1.2.2.2.2.1 t.2.1.2.2.2.2.1 t.2.2.1 t.2.2.2.1) ((s_0, s_1, s_2, s_3, s_4, ()), ((), (), (), (), false, ()), (r13.1.1 == 3), 1, ())
        else
          jn (fun t => B_s_takeShapes_J2 k c_s_shapeAt c_s_pushShape c_s_keyKind t.1.1 t.1.2.1 t.1.2.2.1 t.1.2.2.2.1 t.1.2.2.2.2.1 t.2.1.2.2.2.2.1 t.2.2.1 t.2.2.2.1) ((s_0, s_1, s_2, s_3, s_4, ()), ((), (), (), (), false, ()), false, 1, ())
      else
        bif (o_0 == 11) then
          bif decide (r11.1.1 ≥ 0) then
            (c_s_keyKind r13.1.1).bind fun r64 =>
            bif r64.1.1 then
              (c_s_shapeAt s_0 s_1 s_2 s_3 s_4 2).bind fun r68 =>
              jn (fun t => B_s_takeShapes_J2 k c_s_shapeAt c_s_pushShape c_s_keyKind t.1.1 t.1.2.1 t.1.2.2.1 t.1.2.2.2.1 t.1.2.2.2.2.1 t.2.1.2.2.2.2.1 t.2.2.1 t.2.2.2.1) ((s_0, s_1, s_2, s_3, s_4, ()), ((), (), (), (), false, ()), (r68.1.1 == 4), 2, ())
            else
              jn (fun t => B_s_takeShapes_J2 k c_s_shapeAt c_s_pushShape c_s_keyKind t.1.1 t.1.2.1 t.1.2.2.1 t.1.2.2.2.1 t.1.2.2.2.2.1 t.2.1.2.2.2.2.1 t.2.2.1 t.2.2.2.1) ((s_0, s_1, s_2, s_3, s_4, ()), ((), (), (), (), false, ()), false, 2, ())
          else
            jn (fun t => B_s_takeShapes_J2 k c_s_shapeAt c_s_pushShape c_s_keyKind t.1.1 t.1.2.1 t.1.2.2.1 t.1.2.2.2.1 t.1.2.2.2.2.1 t.2.1.2.2.2.2.1 t.2.2.1 t.2.2.2.1) ((s_0, s_1, s_2, s_3, s_4, ()), ((), (), (), (), false, ()), false, 2, ())
        else
          bif (o_0 == 14) then
            bif decide (r11.1.1 ≥ 0) then
              bif (r13.1.1 == 5) then
                chk (inb (w64 ((len s_2) - 2)) s_2.length) <|
                chk (decide ((w64 ((len s_2) - 2)).toNat < s_2.length)) <|
                chk (inb (s_2.getD ((w64 ((len s_2) - 2)).toNat) (0 : Int)) s_1.length) <|
                chk (decide ((s_2.getD ((w64 ((len s_2) - 2)).toNat) (0 : Int)).toNat < s_1.length)) <|
                jn (fun t => B_s_takeShapes_J1 k c_s_shapeAt c_s_pushShape c_s_keyKind t.1.1 t.1.2.1 t.1.2.2.1 t.1.2.2.2.1 t.1.2.2.2.2.1 t.2.1.2.2.2.2.1 t.2.2.1 t.2.2.2.1) ((s_0, s_1, s_2, s_3, s_4, ()), ((), (), (), (), false, ()), (!(s_1.getD ((s_2.getD ((w64 ((len s_2) - 2)).toNat) (0 : Int)).toNat) false)), 1, ())
              else
                jn (fun t => B_s_takeShapes_J1 k c_s_shapeAt c_s_pushShape c_s_keyKind t.1.1 t.1.2.1 t.1.2.2.1 t.1.2.2.2.1 t.1.2.2.2.2.1 t.2.1.2.2.2.2.1 t.2.2.1 t.2.2.2.1) ((s_0, s_1, s_2, s_3, s_4, ()), ((), (), (), (), false, ()), false, 1, ())
            else
              jn (fun t => B_s_takeShapes_J1 k c_s_shapeAt c_s_pushShape c_s_keyKind t.1.1 t.1.2.1 t.1.2.2.1 t.1.2.2.2.1 t.1.2.2.2.2.1 t.2.1.2.2.2.2.1 t.2.2.1 t.2.2.2.1) ((s_0, s_1, s_2, s_3, s_4, ()), ((), (), (), (), false, ()), false, 1, ())
          else
            bif (o_0 == 15) then
              bif decide (r11.1.1 ≥ 0) then
                chk (inb (w64 ((len s_2) - 1)) s_2.length) <|
                chk (decide ((w64 ((len s_2) - 1)).toNat < s_2.length)) <|
                chk (inb o_1 s_3.length) <|
                chk (decide (o_1.toNat < s_3.length)) <|
                jn (fun t => B_s_takeShapes_J2 k c_s_shapeAt c_s_pushShape c_s_keyKind t.1.1 t.1.2.1 t.1.2.2.1 t.1.2.2.2.1 t.1.2.2.2.2.1 t.2.1.2.2.2.2.1 t.2.2.1 t.2.2.2.1) ((s_0, s_1, s_2, (s_3.set o_1.toNat (s_2.getD ((w64 ((len s_2) - 1)).toNat) (0 : Int))), s_4, ()), ((), (), (), (), false, ()), decide (r11.1.1 ≥ 0), 0, ())
              else
                jn (fun t => B_s_takeShapes_J2 k c_s_shapeAt c_s_pushShape c_s_keyKind t.1.1 t.1.2.1 t.1.2.2.1 t.1.2.2.2.1 t.1.2.2.2.2.1 t.2.1.2.2.2.2.1 t.2.2.1 t.2.2.2.1) ((s_0, s_1, s_2, s_3, s_4, ()), ((), (), (), (), false, ()), decide (r11.1.1 ≥ 0), 0, ())
            else
              bif (o_0 == 19) then
                bif decide (r11.1.1 ≥ 0) then
                  jn (fun t => B_s_takeShapes_J2 k c_s_shapeAt c_s_pushShape c_s_keyKind t.1.1 t.1.2.1 t.1.2.2.1 t.1.2.2.2.1 t.1.2.2.2.2.1 t.2.1.2.2.2.2.1 t.2.2.1 t.2.2.2.1) ((s_0, s_1, s_2, s_3, true, ()), ((), (), (), (), false, ()), ((len s_2) == 1), 0, ())
                else
                  jn (fun t => B_s_takeShapes_J2 k c_s_shapeAt c_s_pushShape c_s_keyKind t.1.1 t.1.2.1 t.1.2.2.1 t.1.2.2.2.1 t.1.2.2.2.2.1 t.2.1.2.2.2.2.1 t.2.2.1 t.2.2.2.1) ((s_0, s_1, s_2, s_3, true, ()), ((), (), (), (), false, ()), false, 0, ())
              else
                jn (fun t => B_s_takeShapes_J2 k c_s_shapeAt c_s_pushShape c_s_keyKind t.1.1 t.1.2.1 t.1.2.2.1 t.1.2.2.2.1 t.1.2.2.2.2.1 t.2.1.2.2.2.2.1 t.2.2.1 t.2.2.2.1) ((s_0, s_1, s_2, s_3, s_4, ()), ((), (), (), (), false, ()), decide (r11.1.1 ≥ 0), 1, ())
def F_s_takeShapes : Nat → C_s_takeShapes
  | 0, _, _, _, _, _, _, _ => none
  | k + 1, s_0, s_1, s_2, s_3, s_4, o_0, o_1 => B_s_takeShapes k (F_s_shapeAt k) (F_s_pushShape k) (F_s_keyKind k) s_0 s_1 s_2 s_3 s_4 o_0 o_1
theorem tot_s_takeShapes {s_0 s_1 s_2 s_3 s_4 o_0 o_1 : _} {Q : _ → Prop} (h : Tot (fun σ => B_s_takeShapes (σ 0) (F_s_shapeAt (σ 0)) (F_s_pushShape (σ 0)) (F_s_keyKind (σ 0)) s_0 s_1 s_2 s_3 s_4 o_0 o_1) Q) : Tot (fun σ => F_s_takeShapes (σ 0) s_0 s_1 s_2 s_3 s_4 o_0 o_1) Q :=
  Tot.call (F := fun k => F_s_takeShapes k s_0 s_1 s_2 s_3 s_4 o_0 o_1) (B := fun k => B_s_takeShapes k (F_s_shapeAt k) (F_s_pushShape k) (F_s_keyKind k) s_0 s_1 s_2 s_3 s_4 o_0 o_1) (fun k => rfl) h
abbrev R_s_stepShapes : Type := Option (((List Int × List Bool × List Int × List Int × Bool × Unit) × Bool × Unit) × (Unit))
abbrev C_s_stepShapes : Type := List Int → List Bool → List Int → List Int → Bool → Int → Int → R_s_stepShapes
def B_s_stepShapes_J1 (k : Nat) (c_s_newKind : C_s_newKind) (c_s_pushShape : C_s_pushShape) (c_s_markShapes : C_s_markShapes) (c_s_takeShapes : C_s_takeShapes) (s_Kinds : List Int) (s_Full : List Bool) (s_Stack s_Memo : List Int) (s_Done t4_Done ok : Bool) : R_s_stepShapes :=
  bif ok then
    bif decide ((len s_Kinds) ≤ 300) then
      some (((s_Kinds, s_Full, s_Stack, s_Memo, s_Done, ()), decide ((len s_Stack) ≤ 300), ()), ())
    else
      some (((s_Kinds, s_Full, s_Stack, s_Memo, s_Done, ()), false, ()), ())
  else
    some (((s_Kinds, s_Full, s_Stack, s_Memo, s_Done, ()), false, ()), ())
def B_s_stepShapes_J0 (k : Nat) (c_s_newKind : C_s_newKind) (c_s_pushShape : C_s_pushShape) (c_s_markShapes : C_s_markShapes) (c_s_takeShapes : C_s_takeShapes) (s_Kinds : List Int) (s_Full : List Bool) (s_Stack s_Memo : List Int) (s_Done : Bool) (o_Code o_Arg : Int) (t4_Done t61 : Bool) : R_s_stepShapes :=
  bif t61 then
    (c_s_markShapes s_Kinds s_Full s_Stack s_Memo s_Done o_Code).bind fun r84 =>
    jn (fun t => B_s_stepShapes_J1 k c_s_newKind c_s_pushShape c_s_markShapes c_s_takeShapes t.1.1 t.1.2.1 t.1.2.2.1 t.1.2.2.2.1 t.1.2.2.2.2.1 t.2.1.2.2.2.2.1 t.2.2.1) ((r84.1.1.1, r84.1.1.2.1, r84.1.1.2.2.1, r84.1.1.2.2.2.1, r84.1.1.2.2.2.2.1, ()), ((), (), (), (), t4_Done, ()), r84.1.2.1, ())
  else
    (c_s_takeShapes s_Kinds s_Full s_Stack s_Memo s_Done o_Code o_Arg).bind fun r16 =>
    jn (fun t => B_s_stepShapes_J1 k c_s_newKind c_s_pushShape c_s_markShapes c_s_takeShapes t.1.1 t.1.2.1 t.1.2.2.1 t.1.2.2.2.1 t.1.2.2.2.2.1 t.2.1.2.2.2.2.1 t.2.2.1) ((r16.1.1.1, r16.1.1.2.1, r16.1.1.2.2.1, r16.1.1.2.2.2.1, r16.1.1.2.2.2.2.1, ()), ((), (), (), (), t4_Done, ()), r16.1.2.1, ())
def B_s_stepShapes (k : Nat) (c_s_newKind : C_s_newKind) (c_s_pushShape : C_s_pushShape) (c_s_markShapes : C_s_markShapes) (c_s_takeShapes : C_s_takeShapes) (s_0 : List Int) (s_1 : List Bool) (s_2 s_3 : List Int) (s_4 : Bool) (o_0 o_1 : Int) : R_s_stepShapes :=
  bif (!(!s_4)) then
    some (((s_0, s_1, s_2, s_3, s_4, ()), false, ()), ())
  else
    (c_s_newKind o_0).bind fun r22 =>
    bif decide (r22.1.1 ≥ 0) then
      (c_s_newKind o_0).bind fun r27 =>
      (c_s_pushShape s_0 s_1 s_2 s_3 s_4 r27.1.1).bind fun r28 =>
      jn (fun t => B_s_stepShapes_J1 k c_s_newKind c_s_pushShape c_s_markShapes c_s_takeShapes t.1.1 t.1.2.1 t.1.2.2.1 t.1.2.2.2.1 t.1.2.2.2.2.1 t.2.1.2.2.2.2.1 t.2.2.1) ((r28.1.1.1, r28.1.1.2.1, r28.1.1.2.2.1, r28.1.1.2.2.2.1, r28.1.1.2.2.2.2.1, ()), ((), (), (), (), false, ()), (!s_4), ())
    else
      bif (o_0 == 2) then
        chk (room s_2.length ([(-1)]).length) <|
        jn (fun t => B_s_stepShapes_J1 k c_s_newKind c_s_pushShape c_s_markShapes c_s_takeShapes t.1.1 t.1.2.1 t.1.2.2.1 t.1.2.2.2.1 t.1.2.2.2.2.1 t.2.1.2.2.2.2.1 t.2.2.1) ((s_0, s_1, (s_2 ++ [(-1)]), s_3, s_4, ()), ((), (), (), (), false, ()), (!s_4), ())
      else
        bif (o_0 == 16) then
          chk (inb o_1 s_3.length) <|
          chk (decide (o_1.toNat < s_3.length)) <|
          bif decide ((s_3.getD o_1.toNat (0 : Int)) < 0) then
            some (((s_0, s_1, s_2, s_3, s_4, ()), false, ()), ())
          else
            chk (inb o_1 s_3.length) <|
            chk (decide (o_1.toNat < s_3.length)) <|
            chk (room s_2.length ([(s_3.getD o_1.toNat (0 : Int))]).length) <|
            jn (fun t => B_s_stepShapes_J1 k c_s_newKind c_s_pushShape c_s_markShapes c_s_takeShapes t.1.1 t.1.2.1 t.1.2.2.1 t.1.2.2.2.1 t.1.2.2.2.2.1 t.2.1.2.2.2.2.1 t.2.2.1) ((s_0, s_1, (s_2 ++ [(s_3.getD o_1.toNat (0 : Int))]), s_3, s_4, ()), ((), (), (), (), false, ()), (!s_4), ())
        else
          bif (o_0 == 3) then
            jn (fun t => B_s_stepShapes_J0 k c_s_newKind c_s_pushShape c_s_markShapes c_s_takeShapes t.1.1 t.1.2.1 t.1.2.2.1 t.1.2.2.2.1 t.1.2.2.2.2.1 t.2.1.1 t.2.1.2.1 t.2.2.1.2.2.2.2.1 t.2.2.2.1) ((s_0, s_1, s_2, s_3, s_4, ()), (o_0, o_1, ()), ((), (), (), (), false, ()), true, ())
          else
            bif (o_0 == 9) then
              jn (fun t => B_s_stepShapes_J0 k c_s_newKind c_s_pushShape c_s_markShapes c_s_takeShapes t.1.1 t.1.2.1 t.1.2.2.1 t.1.2.2.2.1 t.1.2.2.2.2.1 t.2.1.1 t.2.1.2.1 t.2.2.1.2.2.2.2.1 t.2.2.2.1) ((s_0, s_1, s_2, s_3, s_4, ()), (o_0, o_1, ()), ((), (), (), (), false, ()), true, ())
            else
              bif (o_0 == 12) then
                jn (fun t => B_s_stepShapes_J0 k c_s_newKind c_s_pushShape c_s_markShapes c_s_takeShapes t.1.1 t.1.2.1 t.1.2.2.1 t.1.2.2.2.1 t.1.2.2.2.2.1 t.2.1.1 t.2.1.2.1 t.2.2.1.2.2.2.2.1 t.2.2.2.1) ((s_0, s_1, s_2, s_3, s_4, ()), (o_0, o_1, ()), ((), (), (), (), false, ()), true, ())
              else
                jn (fun t => B_s_stepShapes_J0 k c_s_newKind c_s_pushShape c_s_markShapes c_s_takeShapes t.1.1 t.1.2.1 t.1.2.2.1 t.1.2.2.2.1 t.1.2.2.2.2.1 t.2.1.1 t.2.1.2.1 t.2.2.1.2.2.2.2.1 t.2.2.2.1) ((s_0, s_1, s_2, s_3, s_4, ()), (o_0, o_1, ()), ((), (), (), (), false, ()), (o_0 == 18), ())
def F_s_stepShapes : Nat → C_s_stepShapes
  | 0, _, _, _, _, _, _, _ => none
  | k + 1, s_0, s_1, s_2, s_3, s_4, o_0, o_1 => B_s_stepShapes k (F_s_newKind k) (F_s_pushShape k) (F_s_markShapes k) (F_s_takeShapes k) s_0 s_1 s_2 s_3 s_4 o_0 o_1
theorem tot_s_stepShapes {s_0 s_1 s_2 s_3 s_4 o_0 o_1 : _} {Q : _ → Prop} (h : Tot (fun σ => B_s_stepShapes (σ 0) (F_s_newKind (σ 0)) (F_s_pushShape (σ 0)) (F_s_markShapes (σ 0)) (F_s_takeShapes (σ 0)) s_0 s_1 s_2 s_3 s_4 o_0 o_1) Q) : Tot (fun σ => F_s_stepShapes (σ 0) s_0 s_1 s_2 s_3 s_4 o_0 o_1) Q :=
  Tot.call (F := fun k => F_s_stepShapes k s_0 s_1 s_2 s_3 s_4 o_0 o_1) (B := fun k => B_s_stepShapes k (F_s_newKind k) (F_s_pushShape k) (F_s_markShapes k) (F_s_takeShapes k) s_0 s_1 s_2 s_3 s_4 o_0 o_1) (fun k => rfl) h
abbrev R_s_argOf : Type := Option ((Int × Unit) × (Unit))
abbrev C_s_argOf : Type := Int → R_s_argOf
def B_s_argOf_J0 (k : Nat) (t10 : Bool) : R_s_argOf :=
  bif t10 then
    some ((19, ()), ())
  else
    some (((-1), ()), ())
def B_s_argOf (k : Nat) (c : Int) : R_s_argOf :=
  bif (c == 0) then
    some ((999, ()), ())
  else
    bif (c == 1) then
      some ((9, ()), ())
    else
      bif (c == 13) then
        some ((9, ()), ())
      else
        bif (c == 15) then
          jn (fun t => B_s_argOf_J0 k t.1) ((c == 15), ())
        else
          jn (fun t => B_s_argOf_J0 k t.1) ((c == 16), ())
def F_s_argOf : Nat → C_s_argOf
  | 0, _ => none
  | k + 1, c => B_s_argOf k c
theorem tot_s_argOf {c : _} {Q : _ → Prop} (h : Tot (fun σ => B_s_argOf (σ 0) c) Q) : Tot (fun σ => F_s_argOf (σ 0) c) Q :=
  Tot.call (F := fun k => F_s_argOf k c) (B := fun k => B_s_argOf k c) (fun k => rfl) h
abbrev R_s_inRange : Type := Option ((Bool × Unit) × (Unit))
abbrev C_s_inRange : Type := Int → Int → Int → R_s_inRange
def B_s_inRange (k : Nat) (n0 low high : Int) : R_s_inRange :=
  bif decide (low ≤ n0) then
    some ((decide (n0 ≤ high), ()), ())
  else
    some ((false, ()), ())
def F_s_inRange : Nat → C_s_inRange
  | 0, _, _, _ => none
  | k + 1, n0, low, high => B_s_inRange k n0 low high
theorem tot_s_inRange {n0 low high : _} {Q : _ → Prop} (h : Tot (fun σ => B_s_inRange (σ 0) n0 low high) Q) : Tot (fun σ => F_s_inRange (σ 0) n0 low high) Q :=
  Tot.call (F := fun k => F_s_inRange k n0 low high) (B := fun k => B_s_inRange k n0 low high) (fun k => rfl) h
abbrev R_s_validOp : Type := Option ((Bool × Unit) × (Unit))
abbrev C_s_validOp : Type := Int → Int → R_s_validOp
def B_s_validOp (k : Nat) (c_s_argOf : C_s_argOf) (c_s_inRange : C_s_inRange) (o_0 o_1 : Int) : R_s_validOp :=
  (c_s_argOf o_0).bind fun r6 =>
  (c_s_inRange o_0 0 19).bind fun r9 =>
  bif r9.1.1 then
    bif decide (r6.1.1 < 0) then
      bif (o_1 == 0) then
        some ((true, ()), ())
      else
        bif decide (r6.1.1 ≥ 0) then
          (c_s_inRange o_1 0 r6.1.1).bind fun r25 =>
          some ((r25.1.1, ()), ())
        else
          some ((false, ()), ())
    else
      bif decide (r6.1.1 ≥ 0) then
        (c_s_inRange o_1 0 r6.1.1).bind fun r25 =>
        some ((r25.1.1, ()), ())
      else
        some ((false, ()), ())
  else
    some ((false, ()), ())
def F_s_validOp : Nat → C_s_validOp
  | 0, _, _ => none
  | k + 1, o_0, o_1 => B_s_validOp k (F_s_argOf k) (F_s_inRange k) o_0 o_1
theorem tot_s_validOp {o_0 o_1 : _} {Q : _ → Prop} (h : Tot (fun σ => B_s_validOp (σ 0) (F_s_argOf (σ 0)) (F_s_inRange (σ 0)) o_0 o_1) Q) : Tot (fun σ => F_s_validOp (σ 0) o_0 o_1) Q :=
  Tot.call (F := fun k => F_s_validOp k o_0 o_1) (B := fun k => B_s_validOp k (F_s_argOf k) (F_s_inRange k) o_0 o_1) (fun k => rfl) h
abbrev R_s_validOps : Type := Option ((Bool × Unit) × (Unit))
abbrev C_s_validOps : Type := (List (Int × Int)) → R_s_validOps
abbrev T_s_validOps_L0 : Type := (List (Int × Int)) × Int × Unit
def B_s_validOps_L0b (k : Nat) (c_s_validOp : C_s_validOp) (again0 : T_s_validOps_L0 → R_s_validOps) (ops : List (Int × Int)) (i : Int) : R_s_validOps :=
  bif decide (i < (len ops)) then
    chk (inb i ops.length) <|
    (c_s_validOp ((rdx ((0 : Int), (0 : Int)) ops i).1) ((rdx ((0 : Int), (0 : Int)) ops i).2)).bind fun r14 =>
    bif (!r14.1.1) then
      some ((false, ()), ())
    else
      again0 (ops, w64 (i + 1), ())
  else
    some ((decide ((len ops) ≤ 300), ()), ())
def B_s_validOps_L0 (k : Nat) (c_s_validOp : C_s_validOp) (n : Nat) (t : T_s_validOps_L0) : R_s_validOps :=
  lfix n (fun again t => B_s_validOps_L0b k c_s_validOp again t.1 t.2.1) t
def B_s_validOps (k : Nat) (c_s_validOp : C_s_validOp) (ops : List (Int × Int)) : R_s_validOps :=
  B_s_validOps_L0 k c_s_validOp k (ops, 0, ())
def F_s_validOps : Nat → C_s_validOps
  | 0, _ => none
  | k + 1, ops => B_s_validOps k (F_s_validOp k) ops
theorem tot_s_validOps {ops : _} {Q : _ → Prop} (h : Tot (fun σ => B_s_validOps (σ 0) (F_s_validOp (σ 0)) ops) Q) : Tot (fun σ => F_s_validOps (σ 0) ops) Q :=
  Tot.call (F := fun k => F_s_validOps k ops) (B := fun k => B_s_validOps k (F_s_validOp k) ops) (fun k => rfl) h
abbrev A_s_validOps_L0 (Z : Type) : Type := (List (Int × Int)) → Int → Z
abbrev u_s_validOps_L0 {Z : Type} (f : A_s_validOps_L0 Z) (t : T_s_validOps_L0) : Z := f t.1 t.2.1
theorem loop_s_validOps_L0 {Q : A_s_validOps_L0 (((Bool × Unit) × (Unit)) → Prop)} (I : A_s_validOps_L0 Prop) (μ : A_s_validOps_L0 Nat)
    (step : ∀ a0 a1, I a0 a1 → ∀ again : (Nat → Nat) → T_s_validOps_L0 → R_s_validOps, Dep 2 again → (∀ y0 y1, I y0 y1 → μ y0 y1 < μ a0 a1 → Tot (fun σ => again σ (y0, y1, ())) (Q y0 y1)) →
      Tot (fun σ => B_s_validOps_L0b (σ 0) (F_s_validOp (σ 0)) (again σ) a0 a1) (Q a0 a1)) :
    ∀ a0 a1, I a0 a1 → Tot (fun σ => B_s_validOps_L0 (σ 0) (F_s_validOp (σ 0)) (σ 0) (a0, a1, ())) (Q a0 a1) := fun a0 a1 => Tot.loop0 (L := fun k => B_s_validOps_L0 k (F_s_validOp k)) (B := fun k g => u_s_validOps_L0 (B_s_validOps_L0b k (F_s_validOp k) g)) (Q := u_s_validOps_L0 Q) (fun _ _ _ => rfl) (u_s_validOps_L0 I) (u_s_validOps_L0 μ)
    (fun t ht again hag h => step t.1 t.2.1 ht again hag fun y0 y1 => h (y0, y1, ())) (a0, a1, ())
abbrev R_s_runShapes : Type := Option (((List Int × List Bool × List Int × List Int × Bool × Unit) × Int × Unit) × (Unit))
abbrev C_s_runShapes : Type := (List (Int × Int)) → R_s_runShapes
abbrev T_s_runShapes_L0 : Type := (List (Int × Int)) × (Unit × Unit × Unit × Unit × Bool × Unit) × (List Int × List Bool × List Int × List Int × Bool × Unit) × Int × Unit
def B_s_runShapes_L0b (k : Nat) (c_s_newShapes : C_s_newShapes) (c_s_copyShapes : C_s_copyShapes) (c_s_stepShapes : C_s_stepShapes) (again0 : T_s_runShapes_L0 → R_s_runShapes) (ops : List (Int × Int)) (t2_Done : Bool) (s_Kinds : List Int) (s_Full : List Bool) (s_Stack s_Memo : List Int) (s_Done : Bool) (i : Int) : R_s_runShapes :=
  bif decide (i < (len ops)) then
    (c_s_copyShapes s_Kinds s_Full s_Stack s_Memo s_Done).bind fun r17 =>
    chk (inb i ops.length) <|
    (c_s_stepShapes r17.1.1.1 r17.1.1.2.1 r17.1.1.2.2.1 r17.1.1.2.2.2.1 r17.1.1.2.2.2.2.1 ((rdx ((0 : Int), (0 : Int)) ops i).1) ((rdx ((0 : Int), (0 : Int)) ops i).2)).bind fun r22 =>
    bif (!r22.1.2.1) then
      some (((s_Kinds, s_Full, s_Stack, s_Memo, s_Done, ()), i, ()), ())
    else
      again0 (ops, ((), (), (), (), t2_Done, ()), (r22.1.1.1, r22.1.1.2.1, r22.1.1.2.2.1, r22.1.1.2.2.2.1, r22.1.1.2.2.2.2.1, ()), w64 (i + 1), ())
  else
    some (((s_Kinds, s_Full, s_Stack, s_Memo, s_Done, ()), len ops, ()), ())
def B_s_runShapes_L0 (k : Nat) (c_s_newShapes : C_s_newShapes) (c_s_copyShapes : C_s_copyShapes) (c_s_stepShapes : C_s_stepShapes) (n : Nat) (t : T_s_runShapes_L0) : R_s_runShapes :=
  lfix n (fun again t => B_s_runShapes_L0b k c_s_newShapes c_s_copyShapes c_s_stepShapes again t.1 t.2.1.2.2.2.2.1 t.2.2.1.1 t.2.2.1.2.1 t.2.2.1.2.2.1 t.2.2.1.2.2.2.1 t.2.2.1.2.2.2.2.1 t.2.2.2.1) t
def B_s_runShapes (k : Nat) (c_s_newShapes : C_s_newShapes) (c_s_copyShapes : C_s_copyShapes) (c_s_stepShapes : C_s_stepShapes) (ops : List (Int × Int)) : R_s_runShapes :=
  (c_s_newShapes).bind fun r8 =>
  B_s_runShapes_L0 k c_s_newShapes c_s_copyShapes c_s_stepShapes k (ops, ((), (), (), (), false, ()), (r8.1.1.1, r8.1.1.2.1, r8.1.1.2.2.1, r8.1.1.2.2.2.1, r8.1.1.2.2.2.2.1, ()), 0, ())
def F_s_runShapes : Nat → C_s_runShapes
  | 0, _ => none
  | k + 1, ops => B_s_runShapes k (F_s_newShapes k) (F_s_copyShapes k) (F_s_stepShapes k) ops
theorem tot_s_runShapes {ops : _} {Q : _ → Prop} (h : Tot (fun σ => B_s_runShapes (σ 0) (F_s_newShapes (σ 0)) (F_s_copyShapes (σ 0)) (F_s_stepShapes (σ 0)) ops) Q) : Tot (fun σ => F_s_runShapes (σ 0) ops) Q :=
  Tot.call (F := fun k => F_s_runShapes k ops) (B := fun k => B_s_runShapes k (F_s_newShapes k) (F_s_copyShapes k) (F_s_stepShapes k) ops) (fun k => rfl) h
abbrev A_s_runShapes_L0 (Z : Type) : Type := (List (Int × Int)) → Bool → List Int → List Bool → List Int → List Int → Bool → Int → Z
abbrev u_s_runShapes_L0 {Z : Type} (f : A_s_runShapes_L0 Z) (t : T_s_runShapes_L0) : Z := f t.1 t.2.1.2.2.2.2.1 t.2.2.1.1 t.2.2.1.2.1 t.2.2.1.2.2.1 t.2.2.1.2.2.2.1 t.2.2.1.2.2.2.2.1 t.2.2.2.1
theorem loop_s_runShapes_L0 {Q : A_s_runShapes_L0 ((((List Int × List Bool × List Int × List Int × Bool × Unit) × Int × Unit) × (Unit)) → Prop)} (I : A_s_runShapes_L0 Prop) (μ : A_s_runShapes_L0 Nat)
    (step : ∀ a0 a1 a2 a3 a4 a5 a6 a7, I a0 a1 a2 a3 a4 a5 a6 a7 → ∀ again : (Nat → Nat) → T_s_runShapes_L0 → R_s_runShapes, Dep 2 again → (∀ y0 y1 y2 y3 y4 y5 y6 y7, I y0 y1 y2 y3 y4 y5 y6 y7 → μ y0 y1 y2 y3 y4 y5 y6 y7 < μ a0 a1 a2 a3 a4 a5 a6 a7 → Tot (fun σ => again σ (y0, ((), (), (), (), y1, ()), (y2, y3, y4, y5, y6, ()), y7, ())) (Q y0 y1 y2 y3 y4 y5 y6 y7)) →
      Tot (fun σ => B_s_runShapes_L0b (σ 0) (F_s_newShapes (σ 0)) (F_s_copyShapes (σ 0)) (F_s_stepShapes (σ 0)) (again σ) a0 a1 a2 a3 a4 a5 a6 a7) (Q a0 a1 a2 a3 a4 a5 a6 a7)) :
    ∀ a0 a1 a2 a3 a4 a5 a6 a7, I a0 a1 a2 a3 a4 a5 a6 a7 → Tot (fun σ => B_s_runShapes_L0 (σ 0) (F_s_newShapes (σ 0)) (F_s_copyShapes (σ 0)) (F_s_stepShapes (σ 0)) (σ 0) (a0, ((), (), (), (), a1, ()), (a2, a3, a4, a5, a6, ()), a7, ())) (Q a0 a1 a2 a3 a4 a5 a6 a7) := fun a0 a1 a2 a3 a4 a5 a6 a7 => Tot.loop0 (L := fun k => B_s_runShapes_L0 k (F_s_newShapes k) (F_s_copyShapes k) (F_s_stepShapes k)) (B := fun k g => u_s_runShapes_L0 (B_s_runShapes_L0b k (F_s_newShapes k) (F_s_copyShapes k) (F_s_stepShapes k) g)) (Q := u_s_runShapes_L0 Q) (fun _ _ _ => rfl) (u_s_runShapes_L0 I) (u_s_runShapes_L0 μ)
    (fun t ht again hag h => step t.1 t.2.1.2.2.2.2.1 t.2.2.1.1 t.2.2.1.2.1 t.2.2.1.2.2.1 t.2.2.1.2.2.2.1 t.2.2.1.2.2.2.2.1 t.2.2.2.1 ht again hag fun y0 y1 y2 y3 y4 y5 y6 y7 => h (y0, ((), (), (), (), y1, ()), (y2, y3, y4, y5, y6, ()), y7, ())) (a0, ((), (), (), (), a1, ()), (a2, a3, a4, a5, a6, ()), a7, ())
abbrev R_s_EndOps : Type := Option (((List (Int × Int)) × Bool × Unit) × (Unit))
abbrev C_s_EndOps : Type := (List (Int × Int)) → R_s_EndOps
abbrev T_s_EndOps_L6 : Type := (List (Int × Int)) × Int × (List (Int × Int)) × Int × Int × Unit
abbrev T_s_EndOps_L4 : Type := (List (Int × Int)) × (List Int × List Bool × List Int × List Int × Bool × Unit) × Int × (List (Int × Int)) × Int × Int × Unit
abbrev T_s_EndOps_L2 : Type := (List (Int × Int)) × (List Int × List Bool × List Int × List Int × Bool × Unit) × Int × (List (Int × Int)) × Int × Int × Unit
abbrev T_s_EndOps_L1 : Type := (List (Int × Int)) × (List Int × List Bool × List Int × List Int × Bool × Unit) × Int × (List (Int × Int)) × Int × Int × Unit
def B_s_EndOps_J0 (k : Nat) (c_s_validOps : C_s_validOps) (c_s_runShapes : C_s_runShapes) (again1 : T_s_EndOps_L1 → R_s_EndOps) (ops : List (Int × Int)) (s_Kinds : List Int) (s_Full : List Bool) (s_Stack s_Memo : List Int) (s_Done : Bool) (n5 : Int) (out : List (Int × Int)) (marks i : Int) : R_s_EndOps :=
  again1 (ops, (s_Kinds, s_Full, s_Stack, s_Memo, s_Done, ()), n5, out, marks, w64 (i + 1), ())
def B_s_EndOps_J9 (k : Nat) (c_s_validOps : C_s_validOps) (c_s_runShapes : C_s_runShapes) (out : List (Int × Int)) (t109 : Bool) : R_s_EndOps :=
  bif t109 then
    some (([], false, ()), ())
  else
    some ((out, true, ()), ())
def B_s_EndOps_J8 (k : Nat) (c_s_validOps : C_s_validOps) (c_s_runShapes : C_s_runShapes) (out all : List (Int × Int)) : R_s_EndOps :=
  (c_s_runShapes all).bind fun r98 =>
  (c_s_validOps all).bind fun r102 =>
  bif (!r102.1.1) then
    jn (fun t => B_s_EndOps_J9 k c_s_validOps c_s_runShapes t.1 t.2.1) (out, true, ())
  else
    jn (fun t => B_s_EndOps_J9 k c_s_validOps c_s_runShapes t.1 t.2.1) (out, decide (r98.1.2.1 < (len all)), ())
def B_s_EndOps_J7 (k : Nat) (c_s_validOps : C_s_validOps) (c_s_runShapes : C_s_runShapes) (ops : List (Int × Int)) (n5 : Int) (out : List (Int × Int)) : R_s_EndOps :=
  chk (room out.length ([(19, 0)]).length) <|
  chk (cutb 0 n5 ops.length) <|
  chk (room ([] : List (Int × Int)).length (sub ops 0 n5).length) <|
  chk (room (sub ops 0 n5).length (out ++ [(19, 0)]).length) <|
  jn (fun t => B_s_EndOps_J8 k c_s_validOps c_s_runShapes t.1 t.2.1) ((out ++ [(19, 0)]), ((sub ops 0 n5) ++ (out ++ [(19, 0)])), ())
def B_s_EndOps_L6b (k : Nat) (c_s_validOps : C_s_validOps) (c_s_runShapes : C_s_runShapes) (again6 : T_s_EndOps_L6 → R_s_EndOps) (ops : List (Int × Int)) (n5 : Int) (out : List (Int × Int)) (rest10 i : Int) : R_s_EndOps :=
  bif decide (i < rest10) then
    chk (room out.length ([(6, 0)]).length) <|
    again6 (ops, n5, (out ++ [(6, 0)]), rest10, w64 (i + 1), ())
  else
    bif (rest10 == 0) then
      chk (room out.length ([(4, 0)]).length) <|
      jn (fun t => B_s_EndOps_J7 k c_s_validOps c_s_runShapes t.1 t.2.1 t.2.2.1) (ops, n5, (out ++ [(4, 0)]), ())
    else
      jn (fun t => B_s_EndOps_J7 k c_s_validOps c_s_runShapes t.1 t.2.1 t.2.2.1) (ops, n5, out, ())
def B_s_EndOps_L6 (k : Nat) (c_s_validOps : C_s_validOps) (c_s_runShapes : C_s_runShapes) (n : Nat) (t : T_s_EndOps_L6) : R_s_EndOps :=
  lfix n (fun again t => B_s_EndOps_L6b k c_s_validOps c_s_runShapes again t.1 t.2.1 t.2.2.1 t.2.2.2.1 t.2.2.2.2.1) t
def B_s_EndOps_J5 (k : Nat) (c_s_validOps : C_s_validOps) (c_s_runShapes : C_s_runShapes) (ops : List (Int × Int)) (n5 : Int) (out : List (Int × Int)) (rest10 : Int) : R_s_EndOps :=
  B_s_EndOps_L6 k c_s_validOps c_s_runShapes k (ops, n5, out, rest10, 1, ())
def B_s_EndOps_J3 (k : Nat) (c_s_validOps : C_s_validOps) (c_s_runShapes : C_s_runShapes) (again4 : T_s_EndOps_L4 → R_s_EndOps) (ops : List (Int × Int)) (s_Kinds : List Int) (s_Full : List Bool) (s_Stack s_Memo : List Int) (s_Done : Bool) (n5 : Int) (out : List (Int × Int)) (marks rest10 : Int) (t63 : Bool) : R_s_EndOps :=
  bif t63 then
    again4 (ops, (s_Kinds, s_Full, s_Stack, s_Memo, s_Done, ()), n5, out, marks, w64 (rest10 + 1), ())
  else
    bif decide (marks > 0) then
      jn (fun t => B_s_EndOps_J5 k c_s_validOps c_s_runShapes t.1 t.2.1 t.2.2.1 t.2.2.2.1) (ops, n5, out, w64 (rest10 + 1), ())
    else
      jn (fun t => B_s_EndOps_J5 k c_s_validOps c_s_runShapes t.1 t.2.1 t.2.2.1 t.2.2.2.1) (ops, n5, out, rest10, ())
def B_s_EndOps_L4b (k : Nat) (c_s_validOps : C_s_validOps) (c_s_runShapes : C_s_runShapes) (again4 : T_s_EndOps_L4 → R_s_EndOps) (ops : List (Int × Int)) (s_Kinds : List Int) (s_Full : List Bool) (s_Stack s_Memo : List Int) (s_Done : Bool) (n5 : Int) (out : List (Int × Int)) (marks rest10 : Int) : R_s_EndOps :=
  bif decide (rest10 < (len s_Stack)) then
    chk (inb rest10 s_Stack.length) <|
    chk (decide (rest10.toNat < s_Stack.length)) <|
    jn (fun t => B_s_EndOps_J3 k c_s_validOps c_s_runShapes again4 t.1 t.2.1.1 t.2.1.2.1 t.2.1.2.2.1 t.2.1.2.2.2.1 t.2.1.2.2.2.2.1 t.2.2.1 t.2.2.2.1 t.2.2.2.2.1 t.2.2.2.2.2.1 t.2.2.2.2.2.2.1) (ops, (s_Kinds, s_Full, s_Stack, s_Memo, s_Done, ()), n5, out, marks, rest10, decide ((s_Stack.getD rest10.toNat (0 : Int)) ≥ 0), ())
  else
    jn (fun t => B_s_EndOps_J3 k c_s_validOps c_s_runShapes again4 t.1 t.2.1.1 t.2.1.2.1 t.2.1.2.2.1 t.2.1.2.2.2.1 t.2.1.2.2.2.2.1 t.2.2.1 t.2.2.2.1 t.2.2.2.2.1 t.2.2.2.2.2.1 t.2.2.2.2.2.2.1) (ops, (s_Kinds, s_Full, s_Stack, s_Memo, s_Done, ()), n5, out, marks, rest10, false, ())
def B_s_EndOps_L4 (k : Nat) (c_s_validOps : C_s_validOps) (c_s_runShapes : C_s_runShapes) (n : Nat) (t : T_s_EndOps_L4) : R_s_EndOps :=
  lfix n (fun again t => B_s_EndOps_L4b k c_s_validOps c_s_runShapes again t.1 t.2.1.1 t.2.1.2.1 t.2.1.2.2.1 t.2.1.2.2.2.1 t.2.1.2.2.2.2.1 t.2.2.1 t.2.2.2.1 t.2.2.2.2.1 t.2.2.2.2.2.1) t
def B_s_EndOps_L2b (k : Nat) (c_s_validOps : C_s_validOps) (c_s_runShapes : C_s_runShapes) (again2 : T_s_EndOps_L2 → R_s_EndOps) (ops : List (Int × Int)) (s_Kinds : List Int) (s_Full : List Bool) (s_Stack s_Memo : List Int) (s_Done : Bool) (n5 : Int) (out : List (Int × Int)) (marks i : Int) : R_s_EndOps :=
  bif decide (i < marks) then
    chk (room out.length ([(3, 0)]).length) <|
    again2 (ops, (s_Kinds, s_Full, s_Stack, s_Memo, s_Done, ()), n5, (out ++ [(3, 0)]), marks, w64 (i + 1), ())
  else
    B_s_EndOps_L4 k c_s_validOps c_s_runShapes k (ops, (s_Kinds, s_Full, s_Stack, s_Memo, s_Done, ()), n5, out, marks, 0, ())
def B_s_EndOps_L2 (k : Nat) (c_s_validOps : C_s_validOps) (c_s_runShapes : C_s_runShapes) (n : Nat) (t : T_s_EndOps_L2) : R_s_EndOps :=
  lfix n (fun again t => B_s_EndOps_L2b k c_s_validOps c_s_runShapes again t.1 t.2.1.1 t.2.1.2.1 t.2.1.2.2.1 t.2.1.2.2.2.1 t.2.1.2.2.2.2.1 t.2.2.1 t.2.2.2.1 t.2.2.2.2.1 t.2.2.2.2.2.1) t
def B_s_EndOps_L1b (k : Nat) (c_s_validOps : C_s_validOps) (c_s_runShapes : C_s_runShapes) (again1 : T_s_EndOps_L1 → R_s_EndOps) (ops : List (Int × Int)) (s_Kinds : List Int) (s_Full : List Bool) (s_Stack s_Memo : List Int) (s_Done : Bool) (n5 : Int) (out : List (Int × Int)) (marks i : Int) : R_s_EndOps :=
  bif decide (i < (len s_Stack)) then
    chk (inb i s_Stack.length) <|
    chk (decide (i.toNat < s_Stack.length)) <|
    bif decide ((s_Stack.getD i.toNat (0 : Int)) < 0) then
      jn (fun t => B_s_EndOps_J0 k c_s_validOps c_s_runShapes again1 t.1 t.2.1.1 t.2.1.2.1 t.2.1.2.2.1 t.2.1.2.2.2.1 t.2.1.2.2.2.2.1 t.2.2.1 t.2.2.2.1 t.2.2.2.2.1 t.2.2.2.2.2.1) (ops, (s_Kinds, s_Full, s_Stack, s_Memo, s_Done, ()), n5, out, w64 (marks + 1), i, ())
    else
      jn (fun t => B_s_EndOps_J0 k c_s_validOps c_s_runShapes again1 t.1 t.2.1.1 t.2.1.2.1 t.2.1.2.2.1 t.2.1.2.2.2.1 t.2.1.2.2.2.2.1 t.2.2.1 t.2.2.2.1 t.2.2.2.2.1 t.2.2.2.2.2.1) (ops, (s_Kinds, s_Full, s_Stack, s_Memo, s_Done, ()), n5, out, marks, i, ())
  else
    B_s_EndOps_L2 k c_s_validOps c_s_runShapes k (ops, (s_Kinds, s_Full, s_Stack, s_Memo, s_Done, ()), n5, out, marks, 0, ())
def B_s_EndOps_L1 (k : Nat) (c_s_validOps : C_s_validOps) (c_s_runShapes : C_s_runShapes) (n : Nat) (t : T_s_EndOps_L1) : R_s_EndOps :=
  lfix n (fun again t => B_s_EndOps_L1b k c_s_validOps c_s_runShapes again t.1 t.2.1.1 t.2.1.2.1 t.2.1.2.2.1 t.2.1.2.2.2.1 t.2.1.2.2.2.2.1 t.2.2.1 t.2.2.2.1 t.2.2.2.2.1 t.2.2.2.2.2.1) t
def B_s_EndOps (k : Nat) (c_s_validOps : C_s_validOps) (c_s_runShapes : C_s_runShapes) (ops : List (Int × Int)) : R_s_EndOps :=
  (c_s_validOps ops).bind fun r16 =>
  bif (!r16.1.1) then
    some (([], false, ()), ())
  else
    (c_s_runShapes ops).bind fun r20 =>
    bif r20.1.1.2.2.2.2.1 then
      some (([], true, ()), ())
    else
      B_s_EndOps_L1 k c_s_validOps c_s_runShapes k (ops, (r20.1.1.1, r20.1.1.2.1, r20.1.1.2.2.1, r20.1.1.2.2.2.1, r20.1.1.2.2.2.2.1, ()), r20.1.2.1, [], 0, 0, ())
def F_s_EndOps : Nat → C_s_EndOps
  | 0, _ => none
  | k + 1, ops => B_s_EndOps k (F_s_validOps k) (F_s_runShapes k) ops
theorem tot_s_EndOps {ops : _} {Q : _ → Prop} (h : Tot (fun σ => B_s_EndOps (σ 0) (F_s_validOps (σ 0)) (F_s_runShapes (σ 0)) ops) Q) : Tot (fun σ => F_s_EndOps (σ 0) ops) Q :=
  Tot.call (F := fun k => F_s_EndOps k ops) (B := fun k => B_s_EndOps k (F_s_validOps k) (F_s_runShapes k) ops) (fun k => rfl) h
abbrev A_s_EndOps_L6 (Z : Type) : Type := (List (Int × Int)) → Int → (List (Int × Int)) → Int → Int → Z
abbrev u_s_EndOps_L6 {Z : Type} (f : A_s_EndOps_L6 Z) (t : T_s_EndOps_L6) : Z := f t.1 t.2.1 t.2.2.1 t.2.2.2.1 t.2.2.2.2.1
theorem loop_s_EndOps_L6 {Q : A_s_EndOps_L6 ((((List (Int × Int)) × Bool × Unit) × (Unit)) → Prop)} (I : A_s_EndOps_L6 Prop) (μ : A_s_EndOps_L6 Nat)
    (step : ∀ a0 a1 a2 a3 a4, I a0 a1 a2 a3 a4 → ∀ again : (Nat → Nat) → T_s_EndOps_L6 → R_s_EndOps, Dep 2 again → (∀ y0 y1 y2 y3 y4, I y0 y1 y2 y3 y4 → μ y0 y1 y2 y3 y4 < μ a0 a1 a2 a3 a4 → Tot (fun σ => again σ (y0, y1, y2, y3, y4, ())) (Q y0 y1 y2 y3 y4)) →
      Tot (fun σ => B_s_EndOps_L6b (σ 0) (F_s_validOps (σ 0)) (F_s_runShapes (σ 0)) (again σ) a0 a1 a2 a3 a4) (Q a0 a1 a2 a3 a4)) :
    ∀ a0 a1 a2 a3 a4, I a0 a1 a2 a3 a4 → Tot (fun σ => B_s_EndOps_L6 (σ 0) (F_s_validOps (σ 0)) (F_s_runShapes (σ 0)) (σ 0) (a0, a1, a2, a3, a4, ())) (Q a0 a1 a2 a3 a4) := fun a0 a1 a2 a3 a4 => Tot.loop0 (L := fun k => B_s_EndOps_L6 k (F_s_validOps k) (F_s_runShapes k)) (B := fun k g => u_s_EndOps_L6 (B_s_EndOps_L6b k (F_s_validOps k) (F_s_runShapes k) g)) (Q := u_s_EndOps_L6 Q) (fun _ _ _ => rfl) (u_s_EndOps_L6 I) (u_s_EndOps_L6 μ)
    (fun t ht again hag h => step t.1 t.2.1 t.2.2.1 t.2.2.2.1 t.2.2.2.2.1 ht again hag fun y0 y1 y2 y3 y4 => h (y0, y1, y2, y3, y4, ())) (a0, a1, a2, a3, a4, ())
abbrev A_s_EndOps_L4 (Z : Type) : Type := (List (Int × Int)) → List Int → List Bool → List Int → List Int → Bool → Int → (List (Int × Int)) → Int → Int → Z
abbrev u_s_EndOps_L4 {Z : Type} (f : A_s_EndOps_L4 Z) (t : T_s_EndOps_L4) : Z := f t.1 t.2.1.1 t.2.1.2.1 t.2.1.2.2.1 t.2.1.2.2.2.1 t.2.1.2.2.2.2.1 t.2.2.1 t.2.2.2.1 t.2.2.2.2.1 t.2.2.2.2.2.1
theorem loop_s_EndOps_L4 {Q : A_s_EndOps_L4 ((((List (Int × Int)) × Bool × Unit) × (Unit)) → Prop)} (I : A_s_EndOps_L4 Prop) (μ : A_s_EndOps_L4 Nat)
    (step : ∀ a0 a1 a2 a3 a4 a5 a6 a7 a8 a9, I a0 a1 a2 a3 a4 a5 a6 a7 a8 a9 → ∀ again : (Nat → Nat) → T_s_EndOps_L4 → R_s_EndOps, Dep 2 again → (∀ y0 y1 y2 y3 y4 y5 y6 y7 y8 y9, I y0 y1 y2 y3 y4 y5 y6 y7 y8 y9 → μ y0 y1 y2 y3 y4 y5 y6 y7 y8 y9 < μ a0 a1 a2 a3 a4 a5 a6 a7 a8 a9 → Tot (fun σ => again σ (y0, (y1, y2, y3, y4, y5, ()), y6, y7, y8, y9, ())) (Q y0 y1 y2 y3 y4 y5 y6 y7 y8 y9)) →
      Tot (fun σ => B_s_EndOps_L4b (σ 0) (F_s_validOps (σ 0)) (F_s_runShapes (σ 0)) (again σ) a0 a1 a2 a3 a4 a5 a6 a7 a8 a9) (Q a0 a1 a2 a3 a4 a5 a6 a7 a8 a9)) :
    ∀ a0 a1 a2 a3 a4 a5 a6 a7 a8 a9, I a0 a1 a2 a3 a4 a5 a6 a7 a8 a9 → Tot (fun σ => B_s_EndOps_L4 (σ 0) (F_s_validOps (σ 0)) (F_s_runShapes (σ 0)) (σ 0) (a0, (a1, a2, a3, a4, a5, ()), a6, a7, a8, a9, ())) (Q a0 a1 a2 a3 a4 a5 a6 a7 a8 a9) := fun a0 a1 a2 a3 a4 a5 a6 a7 a8 a9 => Tot.loop0 (L := fun k => B_s_EndOps_L4 k (F_s_validOps k) (F_s_runShapes k)) (B := fun k g => u_s_EndOps_L4 (B_s_EndOps_L4b k (F_s_validOps k) (F_s_runShapes k) g)) (Q := u_s_EndOps_L4 Q) (fun _ _ _ => rfl) (u_s_EndOps_L4 I) (u_s_EndOps_L4 μ)
    (fun t ht again hag h => step t.1 t.2.1.1 t.2.1.2.1 t.2.1.2.2.1 t.2.1.2.2.2.1 t.2.1.2.2.2.2.1 t.2.2.1 t.2.2.2.1 t.2.2.2.2.1 t.2.2.2.2.2.1 ht again hag fun y0 y1 y2 y3 y4 y5 y6 y7 y8 y9 => h (y0, (y1, y2, y3, y4, y5, ()), y6, y7, y8, y9, ())) (a0, (a1, a2, a3, a4, a5, ()), a6, a7, a8, a9, ())
abbrev A_s_EndOps_L2 (Z : Type) : Type := (List (Int × Int)) → List Int → List Bool → List Int → List Int → Bool → Int → (List (Int × Int)) → Int → Int → Z
abbrev u_s_EndOps_L2 {Z : Type} (f : A_s_EndOps_L2 Z) (t : T_s_EndOps_L2) : Z := f t.1 t.2.1.1 t.2.1.2.1 t.2.1.2.2.1 t.2.1.2.2.2.1 t.2.1.2.2.2.2.1 t.2.2.1 t.2.2.2.1 t.2.2.2.2.1 t.2.2.2.2.2.1
theorem loop_s_EndOps_L2 {Q : A_s_EndOps_L2 ((((List (Int × Int)) × Bool × Unit) × (Unit)) → Prop)} (I : A_s_EndOps_L2 Prop) (μ : A_s_EndOps_L2 Nat)
    (step : ∀ a0 a1 a2 a3 a4 a5 a6 a7 a8 a9, I a0 a1 a2 a3 a4 a5 a6 a7 a8 a9 → ∀ again : (Nat → Nat) → T_s_EndOps_L2 → R_s_EndOps, Dep 2 again → (∀ y0 y1 y2 y3 y4 y5 y6 y7 y8 y9, I y0 y1 y2 y3 y4 y5 y6 y7 y8 y9 → μ y0 y1 y2 y3 y4 y5 y6 y7 y8 y9 < μ a0 a1 a2 a3 a4 a5 a6 a7 a8 a9 → Tot (fun σ => again σ (y0, (y1, y2, y3, y4, y5, ()), y6, y7, y8, y9, ())) (Q y0 y1 y2 y3 y4 y5 y6 y7 y8 y9)) →
      Tot (fun σ => B_s_EndOps_L2b (σ 0) (F_s_validOps (σ 0)) (F_s_runShapes (σ 0)) (again σ) a0 a1 a2 a3 a4 a5 a6 a7 a8 a9) (Q a0 a1 a2 a3 a4 a5 a6 a7 a8 a9)) :
    ∀ a0 a1 a2 a3 a4 a5 a6 a7 a8 a9, I a0 a1 a2 a3 a4 a5 a6 a7 a8 a9 → Tot (fun σ => B_s_EndOps_L2 (σ 0) (F_s_validOps (σ 0)) (F_s_runShapes (σ 0)) (σ 0) (a0, (a1, a2, a3, a4, a5, ()), a6, a7, a8, a9, ())) (Q a0 a1 a2 a3 a4 a5 a6 a7 a8 a9) := fun a0 a1 a2 a3 a4 a5 a6 a7 a8 a9 => Tot.loop0 (L := fun k => B_s_EndOps_L2 k (F_s_validOps k) (F_s_runShapes k)) (B := fun k g => u_s_EndOps_L2 (B_s_EndOps_L2b k (F_s_validOps k) (F_s_runShapes k) g)) (Q := u_s_EndOps_L2 Q) (fun _ _ _ => rfl) (u_s_EndOps_L2 I) (u_s_EndOps_L2 μ)
    (fun t ht again hag h => step t.1 t.2.1.1 t.2.1.2.1 t.2.1.2.2.1 t.2.1.2.2.2.1 t.2.1.2.2.2.2.1 t.2.2.1 t.2.2.2.1 t.2.2.2.2.1 t.2.2.2.2.2.1 ht again hag fun y0 y1 y2 y3 y4 y5 y6 y7 y8 y9 => h (y0, (y1, y2, y3, y4, y5, ()), y6, y7, y8, y9, ())) (a0, (a1, a2, a3, a4, a5, ()), a6, a7, a8, a9, ())
abbrev A_s_EndOps_L1 (Z : Type) : Type := (List (Int × Int)) → List Int → List Bool → List Int → List Int → Bool → Int → (List (Int × Int)) → Int → Int → Z
abbrev u_s_EndOps_L1 {Z : Type} (f : A_s_EndOps_L1 Z) (t : T_s_EndOps_L1) : Z := f t.1 t.2.1.1 t.2.1.2.1 t.2.1.2.2.1 t.2.1.2.2.2.1 t.2.1.2.2.2.2.1 t.2.2.1 t.2.2.2.1 t.2.2.2.2.1 t.2.2.2.2.2.1
theorem loop_s_EndOps_L1 {Q : A_s_EndOps_L1 ((((List (Int × Int)) × Bool × Unit) × (Unit)) → Prop)} (I : A_s_EndOps_L1 Prop) (μ : A_s_EndOps_L1 Nat)
    (step : ∀ a0 a1 a2 a3 a4 a5 a6 a7 a8 a9, I a0 a1 a2 a3 a4 a5 a6 a7 a8 a9 → ∀ again : (Nat → Nat) → T_s_EndOps_L1 → R_s_EndOps, Dep 2 again → (∀ y0 y1 y2 y3 y4 y5 y6 y7 y8 y9, I y0 y1 y2 y3 y4 y5 y6 y7 y8 y9 → μ y0 y1 y2 y3 y4 y5 y6 y7 y8 y9 < μ a0 a1 a2 a3 a4 a5 a6 a7 a8 a9 → Tot (fun σ => again σ (y0, (y1, y2, y3, y4, y5, ()), y6, y7, y8, y9, ())) (Q y0 y1 y2 y3 y4 y5 y6 y7 y8 y9)) →
      Tot (fun σ => B_s_EndOps_L1b (σ 0) (F_s_validOps (σ 0)) (F_s_runShapes (σ 0)) (again σ) a0 a1 a2 a3 a4 a5 a6 a7 a8 a9) (Q a0 a1 a2 a3 a4 a5 a6 a7 a8 a9)) :
    ∀ a0 a1 a2 a3 a4 a5 a6 a7 a8 a9, I a0 a1 a2 a3 a4 a5 a6 a7 a8 a9 → Tot (fun σ => B_s_EndOps_L1 (σ 0) (F_s_validOps (σ 0)) (F_s_runShapes (σ 0)) (σ 0) (a0, (a1, a2, a3, a4, a5, ()), a6, a7, a8, a9, ())) (Q a0 a1 a2 a3 a4 a5 a6 a7 a8 a9) := fun a0 a1 a2 a3 a4 a5 a6 a7 a8 a9 => Tot.loop0 (L := fun k => B_s_EndOps_L1 k (F_s_validOps k) (F_s_runShapes k)) (B := fun k g => u_s_EndOps_L1 (B_s_EndOps_L1b k (F_s_validOps k) (F_s_runShapes k) g)) (Q := u_s_EndOps_L1 Q) (fun _ _ _ => rfl) (u_s_EndOps_L1 I) (u_s_EndOps_L1 μ)
    (fun t ht again hag h => step t.1 t.2.1.1 t.2.1.2.1 t.2.1.2.2.1 t.2.1.2.2.2.1 t.2.1.2.2.2.2.1 t.2.2.1 t.2.2.2.1 t.2.2.2.2.1 t.2.2.2.2.2.1 ht again hag fun y0 y1 y2 y3 y4 y5 y6 y7 y8 y9 => h (y0, (y1, y2, y3, y4, y5, ()), y6, y7, y8, y9, ())) (a0, (a1, a2, a3, a4, a5, ()), a6, a7, a8, a9, ())
abbrev R_s_CutOps : Type := Option (((List (Int × Int)) × Unit) × (Unit))
abbrev C_s_CutOps : Type := (List (Int × Int)) → R_s_CutOps
def B_s_CutOps (k : Nat) (c_s_validOps : C_s_validOps) (c_s_runShapes : C_s_runShapes) (ops : List (Int × Int)) : R_s_CutOps :=
  (c_s_validOps ops).bind fun r6 =>
  bif (!r6.1.1) then
    some (([], ()), ())
  else
    (c_s_runShapes ops).bind fun r10 =>
    chk (cutb 0 r10.1.2.1 ops.length) <|
    chk (room ([] : List (Int × Int)).length (sub ops 0 r10.1.2.1).length) <|
    some (((sub ops 0 r10.1.2.1), ()), ())
def F_s_CutOps : Nat → C_s_CutOps
  | 0, _ => none
  | k + 1, ops => B_s_CutOps k (F_s_validOps k) (F_s_runShapes k) ops
theorem tot_s_CutOps {ops : _} {Q : _ → Prop} (h : Tot (fun σ => B_s_CutOps (σ 0) (F_s_validOps (σ 0)) (F_s_runShapes (σ 0)) ops) Q) : Tot (fun σ => F_s_CutOps (σ 0) ops) Q :=
  Tot.call (F := fun k => F_s_CutOps k ops) (B := fun k => B_s_CutOps k (F_s_validOps k) (F_s_runShapes k) ops) (fun k => rfl) h
abbrev R_s_likelyOps : Type := Option (((List (Int × Int)) × Unit) × ((List Int × Int × Unit) × Unit))
abbrev C_s_likelyOps : Type := List Int → Int → R_s_likelyOps
abbrev T_s_likelyOps_L4 : Type := (List Int × Int × Unit) × (List (Int × Int)) × (List Int × List Bool × List Int × List Int × Bool × Unit) × Int × Unit
def B_s_likelyOps_J3 (k : Nat) (c_s_newShapes : C_s_newShapes) (c_s_reader_one : C_s_reader_one) (c_s_someOp : C_s_someOp) (c_s_reader_pick : C_s_reader_pick) (c_s_copyShapes : C_s_copyShapes) (c_s_stepShapes : C_s_stepShapes) (c_s_EndOps : C_s_EndOps) (c_s_CutOps : C_s_CutOps) (again4 : T_s_likelyOps_L4 → R_s_likelyOps) (r_b : List Int) (r_p : Int) (out : List (Int × Int)) (s_Kinds : List Int) (s_Full : List Bool) (s_Stack s_Memo : List Int) (s_Done : Bool) (n5 : Int) : R_s_likelyOps :=
  again4 ((r_b, r_p, ()), out, (s_Kinds, s_Full, s_Stack, s_Memo, s_Done, ()), w64 (n5 - 1), ())
def B_s_likelyOps_J2 (k : Nat) (c_s_newShapes : C_s_newShapes) (c_s_reader_one : C_s_reader_one) (c_s_someOp : C_s_someOp) (c_s_reader_pick : C_s_reader_pick) (c_s_copyShapes : C_s_copyShapes) (c_s_stepShapes : C_s_stepShapes) (c_s_EndOps : C_s_EndOps) (c_s_CutOps : C_s_CutOps) (again4 : T_s_likelyOps_L4 → R_s_likelyOps) (r_b : List Int) (r_p : Int) (out : List (Int × Int)) (s_Kinds : List Int) (s_Full : List Bool) (s_Stack s_Memo : List Int) (s_Done : Bool) (n5 o_Code o_Arg : Int) (t44 : Bool) : R_s_likelyOps :=
  bif t44 then
    chk (room out.length ([(o_Code, o_Arg)]).length) <|
    jn (fun t => B_s_likelyOps_J3 k c_s_newShapes c_s_reader_one c_s_someOp c_s_reader_pick c_s_copyShapes c_s_stepShapes c_s_EndOps c_s_CutOps again4 t.1.1 t.1.2.1 t.2.1 t.2.2.1.1 t.2.2.1.2.1 t.2.2.1.2.2.1 t.2.2.1.2.2.2.1 t.2.2.1.2.2.2.2.1 t.2.2.2.1) ((r_b, r_p, ()), (out ++ [(o_Code, o_Arg)]), (s_Kinds, s_Full, s_Stack, s_Memo, s_Done, ()), n5, ())
  else
    jn (fun t => B_s_likelyOps_J3 k c_s_newShapes c_s_reader_one c_s_someOp c_s_reader_pick c_s_copyShapes c_s_stepShapes c_s_EndOps c_s_CutOps again4 t.1.1 t.1.2.1 t.2.1 t.2.2.1.1 t.2.2.1.2.1 t.2.2.1.2.2.1 t.2.2.1.2.2.2.1 t.2.2.1.2.2.2.2.1 t.2.2.2.1) ((r_b, r_p, ()), out, (s_Kinds, s_Full, s_Stack, s_Memo, s_Done, ()), n5, ())
def B_s_likelyOps_J1 (k : Nat) (c_s_newShapes : C_s_newShapes) (c_s_reader_one : C_s_reader_one) (c_s_someOp : C_s_someOp) (c_s_reader_pick : C_s_reader_pick) (c_s_copyShapes : C_s_copyShapes) (c_s_stepShapes : C_s_stepShapes) (c_s_EndOps : C_s_EndOps) (c_s_CutOps : C_s_CutOps) (again4 : T_s_likelyOps_L4 → R_s_likelyOps) (r_b : List Int) (r_p : Int) (out : List (Int × Int)) (s_Kinds : List Int) (s_Full : List Bool) (s_Stack s_Memo : List Int) (s_Done : Bool) (n5 o_Code o_Arg : Int) (ok : Bool) : R_s_likelyOps :=
  bif ok then
    jn (fun t => B_s_likelyOps_J2 k c_s_newShapes c_s_reader_one c_s_someOp c_s_reader_pick c_s_copyShapes c_s_stepShapes c_s_EndOps c_s_CutOps again4 t.1.1 t.1.2.1 t.2.1 t.2.2.1.1 t.2.2.1.2.1 t.2.2.1.2.2.1 t.2.2.1.2.2.2.1 t.2.2.1.2.2.2.2.1 t.2.2.2.1 t.2.2.2.2.1.1 t.2.2.2.2.1.2.1 t.2.2.2.2.2.1) ((r_b, r_p, ()), out, (s_Kinds, s_Full, s_Stack, s_Memo, s_Done, ()), n5, (o_Code, o_Arg, ()), true, ())
  else
    (c_s_reader_pick r_b r_p 16).bind fun r42 =>
    jn (fun t => B_s_likelyOps_J2 k c_s_newShapes c_s_reader_one c_s_someOp c_s_reader_pick c_s_copyShapes c_s_stepShapes c_s_EndOps c_s_CutOps again4 t.1.1 t.1.2.1 t.2.1 t.2.2.1.1 t.2.2.1.2.1 t.2.2.1.2.2.1 t.2.2.1.2.2.2.1 t.2.2.1.2.2.2.2.1 t.2.2.2.1 t.2.2.2.2.1.1 t.2.2.2.2.1.2.1 t.2.2.2.2.2.1) ((r42.2.1.1, r42.2.1.2.1, ()), out, (s_Kinds, s_Full, s_Stack, s_Memo, s_Done, ()), n5, (o_Code, o_Arg, ()), (r42.1.1 == 0), ())
def B_s_likelyOps_J0 (k : Nat) (c_s_newShapes : C_s_newShapes) (c_s_reader_one : C_s_reader_one) (c_s_someOp : C_s_someOp) (c_s_reader_pick : C_s_reader_pick) (c_s_copyShapes : C_s_copyShapes) (c_s_stepShapes : C_s_stepShapes) (c_s_EndOps : C_s_EndOps) (c_s_CutOps : C_s_CutOps) (again4 : T_s_likelyOps_L4 → R_s_likelyOps) (r_b : List Int) (r_p : Int) (out : List (Int × Int)) (s_Kinds : List Int) (s_Full : List Bool) (s_Stack s_Memo : List Int) (s_Done : Bool) (n5 o_Code o_Arg : Int) (t29 : Bool) : R_s_likelyOps :=
  bif t29 then
    jn (fun t => B_s_likelyOps_J3 k c_s_newShapes c_s_reader_one c_s_someOp c_s_reader_pick c_s_copyShapes c_s_stepShapes c_s_EndOps c_s_CutOps again4 t.1.1 t.1.2.1 t.2.1 t.2.2.1.1 t.2.2.1.2.1 t.2.2.1.2.2.1 t.2.2.1.2.2.2.1 t.2.2.1.2.2.2.2.1 t.2.2.2.1) ((r_b, r_p, ()), out, (s_Kinds, s_Full, s_Stack, s_Memo, s_Done, ()), n5, ())
  else
    (c_s_copyShapes s_Kinds s_Full s_Stack s_Memo s_Done).bind fun r32 =>
    (c_s_stepShapes r32.1.1.1 r32.1.1.2.1 r32.1.1.2.2.1 r32.1.1.2.2.2.1 r32.1.1.2.2.2.2.1 o_Code o_Arg).bind fun r34 =>
    bif r34.1.2.1 then
      jn (fun t => B_s_likelyOps_J1 k c_s_newShapes c_s_reader_one c_s_someOp c_s_reader_pick c_s_copyShapes c_s_stepShapes c_s_EndOps c_s_CutOps again4 t.1.1 t.1.2.1 t.2.1 t.2.2.1.1 t.2.2.1.2.1 t.2.2.1.2.2.1 t.2.2.1.2.2.2.1 t.2.2.1.2.2.2.2.1 t.2.2.2.1 t.2.2.2.2.1.1 t.2.2.2.2.1.2.1 t.2.2.2.2.2.1) ((r_b, r_p, ()), out, (r34.1.1.1, r34.1.1.2.1, r34.1.1.2.2.1, r34.1.1.2.2.2.1, r34.1.1.2.2.2.2.1, ()), n5, (o_Code, o_Arg, ()), r34.1.2.1, ())
    else
      jn (fun t => B_s_likelyOps_J1 k c_s_newShapes c_s_reader_one c_s_someOp c_s_reader_pick c_s_copyShapes c_s_stepShapes c_s_EndOps c_s_CutOps again4 t.1.1 t.1.2.1 t.2.1 t.2.2.1.1 t.2.2.1.2.1 t.2.2.1.2.2.1 t.2.2.1.2.2.2.1 t.2.2.1.2.2.2.2.1 t.2.2.2.1 t.2.2.2.2.1.1 t.2.2.2.2.1.2.1 t.2.2.2.2.2.1) ((r_b, r_p, ()), out, (s_Kinds, s_Full, s_Stack, s_Memo, s_Done, ()), n5, (o_Code, o_Arg, ()), r34.1.2.1, ())
def B_s_likelyOps_L4b (k : Nat) (c_s_newShapes : C_s_newShapes) (c_s_reader_one : C_s_reader_one) (c_s_someOp : C_s_someOp) (c_s_reader_pick : C_s_reader_pick) (c_s_copyShapes : C_s_copyShapes) (c_s_stepShapes : C_s_stepShapes) (c_s_EndOps : C_s_EndOps) (c_s_CutOps : C_s_CutOps) (again4 : T_s_likelyOps_L4 → R_s_likelyOps) (r_b : List Int) (r_p : Int) (out : List (Int × Int)) (s_Kinds : List Int) (s_Full : List Bool) (s_Stack s_Memo : List Int) (s_Done : Bool) (n5 : Int) : R_s_likelyOps :=
  bif decide (n5 > 0) then
    (c_s_someOp r_b r_p).bind fun r21 =>
    bif (r21.1.1.1 == 19) then
      (c_s_reader_pick r21.2.1.1 r21.2.1.2.1 3).bind fun r27 =>
      jn (fun t => B_s_likelyOps_J0 k c_s_newShapes c_s_reader_one c_s_someOp c_s_reader_pick c_s_copyShapes c_s_stepShapes c_s_EndOps c_s_CutOps again4 t.1.1 t.1.2.1 t.2.1 t.2.2.1.1 t.2.2.1.2.1 t.2.2.1.2.2.1 t.2.2.1.2.2.2.1 t.2.2.1.2.2.2.2.1 t.2.2.2.1 t.2.2.2.2.1.1 t.2.2.2.2.1.2.1 t.2.2.2.2.2.1) ((r27.2.1.1, r27.2.1.2.1, ()), out, (s_Kinds, s_Full, s_Stack, s_Memo, s_Done, ()), n5, (r21.1.1.1, r21.1.1.2.1, ()), decide (r27.1.1 > 0), ())
    else
      jn (fun t => B_s_likelyOps_J0 k c_s_newShapes c_s_reader_one c_s_someOp c_s_reader_pick c_s_copyShapes c_s_stepShapes c_s_EndOps c_s_CutOps again4 t.1.1 t.1.2.1 t.2.1 t.2.2.1.1 t.2.2.1.2.1 t.2.2.1.2.2.1 t.2.2.1.2.2.2.1 t.2.2.1.2.2.2.2.1 t.2.2.2.1 t.2.2.2.2.1.1 t.2.2.2.2.1.2.1 t.2.2.2.2.2.1) ((r21.2.1.1, r21.2.1.2.1, ()), out, (s_Kinds, s_Full, s_Stack, s_Memo, s_Done, ()), n5, (r21.1.1.1, r21.1.1.2.1, ()), false, ())
  else
    (c_s_reader_pick r_b r_p 2).bind fun r50 =>
    bif (r50.1.1 == 0) then
      (c_s_EndOps out).bind fun r54 =>
      bif r54.1.2.1 then
        (c_s_CutOps out).bind fun r59 =>
        chk (room r59.1.1.length r54.1.1.length) <|
        some (((r59.1.1 ++ r54.1.1), ()), ((r50.2.1.1, r50.2.1.2.1, ()), ()))
      else
        some ((out, ()), ((r50.2.1.1, r50.2.1.2.1, ()), ()))
    else
      some ((out, ()), ((r50.2.1.1, r50.2.1.2.1, ()), ()))
def B_s_likelyOps_L4 (k : Nat) (c_s_newShapes : C_s_newShapes) (c_s_reader_one : C_s_reader_one) (c_s_someOp : C_s_someOp) (c_s_reader_pick : C_s_reader_pick) (c_s_copyShapes : C_s_copyShapes) (c_s_stepShapes : C_s_stepShapes) (c_s_EndOps : C_s_EndOps) (c_s_CutOps : C_s_CutOps) (n : Nat) (t : T_s_likelyOps_L4) : R_s_likelyOps :=
  lfix n (fun again t => B_s_likelyOps_L4b k c_s_newShapes c_s_reader_one c_s_someOp c_s_reader_pick c_s_copyShapes c_s_stepShapes c_s_EndOps c_s_CutOps again t.1.1 t.1.2.1 t.2.1 t.2.2.1.1 t.2.2.1.2.1 t.2.2.1.2.2.1 t.2.2.1.2.2.2.1 t.2.2.1.2.2.2.2.1 t.2.2.2.1) t
def B_s_likelyOps (k : Nat) (c_s_newShapes : C_s_newShapes) (c_s_reader_one : C_s_reader_one) (c_s_someOp : C_s_someOp) (c_s_reader_pick : C_s_reader_pick) (c_s_copyShapes : C_s_copyShapes) (c_s_stepShapes : C_s_stepShapes) (c_s_EndOps : C_s_EndOps) (c_s_CutOps : C_s_CutOps) (r_b : List Int) (r_p : Int) : R_s_likelyOps :=
  (c_s_newShapes).bind fun r12 =>
  (c_s_reader_one r_b r_p ([12, 8, 20, 5, 30, 0])).bind fun r15 =>
  B_s_likelyOps_L4 k c_s_newShapes c_s_reader_one c_s_someOp c_s_reader_pick c_s_copyShapes c_s_stepShapes c_s_EndOps c_s_CutOps k ((r15.2.1.1, r15.2.1.2.1, ()), [], (r12.1.1.1, r12.1.1.2.1, r12.1.1.2.2.1, r12.1.1.2.2.2.1, r12.1.1.2.2.2.2.1, ()), r15.1.1, ())
def F_s_likelyOps : Nat → C_s_likelyOps
  | 0, _, _ => none
  | k + 1, r_b, r_p => B_s_likelyOps k (F_s_newShapes k) (F_s_reader_one k) (F_s_someOp k) (F_s_reader_pick k) (F_s_copyShapes k) (F_s_stepShapes k) (F_s_EndOps k) (F_s_CutOps k) r_b r_p
theorem tot_s_likelyOps {r_b r_p : _} {Q : _ → Prop} (h : Tot (fun σ => B_s_likelyOps (σ 0) (F_s_newShapes (σ 0)) (F_s_reader_one (σ 0)) (F_s_someOp (σ 0)) (F_s_reader_pick (σ 0)) (F_s_copyShapes (σ 0)) (F_s_stepShapes (σ 0)) (F_s_EndOps (σ 0)) (F_s_CutOps (σ 0)) r_b r_p) Q) : Tot (fun σ => F_s_likelyOps (σ 0) r_b r_p) Q :=
  Tot.call (F := fun k => F_s_likelyOps k r_b r_p) (B := fun k => B_s_likelyOps k (F_s_newShapes k) (F_s_reader_one k) (F_s_someOp k) (F_s_reader_pick k) (F_s_copyShapes k) (F_s_stepShapes k) (F_s_EndOps k) (F_s_CutOps k) r_b r_p) (fun k => rfl) h
abbrev A_s_likelyOps_L4 (Z : Type) : Type := List Int → Int → (List (Int × Int)) → List Int → List Bool → List Int → List Int → Bool → Int → Z
abbrev u_s_likelyOps_L4 {Z : Type} (f : A_s_likelyOps_L4 Z) (t : T_s_likelyOps_L4) : Z := f t.1.1 t.1.2.1 t.2.1 t.2.2.1.1 t.2.2.1.2.1 t.2.2.1.2.2.1 t.2.2.1.2.2.2.1 t.2.2.1.2.2.2.2.1 t.2.2.2.1
theorem loop_s_likelyOps_L4 {Q : A_s_likelyOps_L4 ((((List (Int × Int)) × Unit) × ((List Int × Int × Unit) × Unit)) → Prop)} (I : A_s_likelyOps_L4 Prop) (μ : A_s_likelyOps_L4 Nat)
    (step : ∀ a0 a1 a2 a3 a4 a5 a6 a7 a8, I a0 a1 a2 a3 a4 a5 a6 a7 a8 → ∀ again : (Nat → Nat) → T_s_likelyOps_L4 → R_s_likelyOps, Dep 2 again → (∀ y0 y1 y2 y3 y4 y5 y6 y7 y8, I y0 y1 y2 y3 y4 y5 y6 y7 y8 → μ y0 y1 y2 y3 y4 y5 y6 y7 y8 < μ a0 a1 a2 a3 a4 a5 a6 a7 a8 → Tot (fun σ => again σ ((y0, y1, ()), y2, (y3, y4, y5, y6, y7, ()), y8, ())) (Q y0 y1 y2 y3 y4 y5 y6 y7 y8)) →
      Tot (fun σ => B_s_likelyOps_L4b (σ 0) (F_s_newShapes (σ 0)) (F_s_reader_one (σ 0)) (F_s_someOp (σ 0)) (F_s_reader_pick (σ 0)) (F_s_copyShapes (σ 0)) (F_s_stepShapes (σ 0)) (F_s_EndOps (σ 0)) (F_s_CutOps (σ 0)) (again σ) a0 a1 a2 a3 a4 a5 a6 a7 a8) (Q a0 a1 a2 a3 a4 a5 a6 a7 a8)) :
    ∀ a0 a1 a2 a3 a4 a5 a6 a7 a8, I a0 a1 a2 a3 a4 a5 a6 a7 a8 → Tot (fun σ => B_s_likelyOps_L4 (σ 0) (F_s_newShapes (σ 0)) (F_s_reader_one (σ 0)) (F_s_someOp (σ 0)) (F_s_reader_pick (σ 0)) (F_s_copyShapes (σ 0)) (F_s_stepShapes (σ 0)) (F_s_EndOps (σ 0)) (F_s_CutOps (σ 0)) (σ 0) ((a0, a1, ()), a2, (a3, a4, a5, a6, a7, ()), a8, ())) (Q a0 a1 a2 a3 a4 a5 a6 a7 a8) := fun a0 a1 a2 a3 a4 a5 a6 a7 a8 => Tot.loop0 (L := fun k => B_s_likelyOps_L4 k (F_s_newShapes k) (F_s_reader_one k) (F_s_someOp k) (F_s_reader_pick k) (F_s_copyShapes k) (F_s_stepShapes k) (F_s_EndOps k) (F_s_CutOps k)) (B := fun k g => u_s_likelyOps_L4 (B_s_likelyOps_L4b k (F_s_newShapes k) (F_s_reader_one k) (F_s_someOp k) (F_s_reader_pick k) (F_s_copyShapes k) (F_s_stepShapes k) (F_s_EndOps k) (F_s_CutOps k) g)) (Q := u_s_likelyOps_L4 Q) (fun _ _ _ => rfl) (u_s_likelyOps_L4 I) (u_s_likelyOps_L4 μ)
    (fun t ht again hag h => step t.1.1 t.1.2.1 t.2.1 t.2.2.1.1 t.2.2.1.2.1 t.2.2.1.2.2.1 t.2.2.1.2.2.2.1 t.2.2.1.2.2.2.2.1 t.2.2.2.1 ht again hag fun y0 y1 y2 y3 y4 y5 y6 y7 y8 => h ((y0, y1, ()), y2, (y3, y4, y5, y6, y7, ()), y8, ())) ((a0, a1, ()), a2, (a3, a4, a5, a6, a7, ()), a8, ())
abbrev R_s_someNode : Type := Option (((Int × Int × Unit × Unit) × Unit) × ((List Int × Int × Unit) × Unit))
abbrev C_s_someNode : Type := List Int → Int → R_s_someNode
def B_s_someNode_J1 (k : Nat) (c_s_reader_pick : C_s_reader_pick) (c_s_reader_one : C_s_reader_one) (r_b : List Int) (r_p t2_Kind t2_Value t4 : Int) (t22 : Bool) : R_s_someNode :=
  bif t22 then
    some (((3, 0, (), ()), ()), ((r_b, r_p, ()), ()))
  else
    bif (t4 == 6) then
      some (((4, 0, (), ()), ()), ((r_b, r_p, ()), ()))
    else
      (c_s_reader_pick r_b r_p 3).bind fun r30 =>
      some (((5, r30.1.1, (), ()), ()), ((r30.2.1.1, r30.2.1.2.1, ()), ()))
def B_s_someNode_J0 (k : Nat) (c_s_reader_pick : C_s_reader_pick) (c_s_reader_one : C_s_reader_one) (r_b : List Int) (r_p t2_Kind t2_Value t4 : Int) (t18 : Bool) : R_s_someNode :=
  bif t18 then
    some (((2, 0, (), ()), ()), ((r_b, r_p, ()), ()))
  else
    bif (t4 == 4) then
      jn (fun t => B_s_someNode_J1 k c_s_reader_pick c_s_reader_one t.1.1 t.1.2.1 t.2.1.1 t.2.1.2.1 t.2.2.1 t.2.2.2.1) ((r_b, r_p, ()), (t2_Kind, t2_Value, (), ()), t4, (t4 == 4), ())
    else
      jn (fun t => B_s_someNode_J1 k c_s_reader_pick c_s_reader_one t.1.1 t.1.2.1 t.2.1.1 t.2.1.2.1 t.2.2.1 t.2.2.2.1) ((r_b, r_p, ()), (t2_Kind, t2_Value, (), ()), t4, (t4 == 5), ())
def B_s_someNode (k : Nat) (c_s_reader_pick : C_s_reader_pick) (c_s_reader_one : C_s_reader_one) (r_b : List Int) (r_p : Int) : R_s_someNode :=
  (c_s_reader_pick r_b r_p 8).bind fun r4 =>
  bif (r4.1.1 == 0) then
    (c_s_reader_pick r4.2.1.1 r4.2.1.2.1 250).bind fun r9 =>
    (c_s_reader_one r9.2.1.1 r9.2.1.2.1 ([5, 127, 128, 999, r9.1.1])).bind fun r11 =>
    some (((0, r11.1.1, (), ()), ()), ((r11.2.1.1, r11.2.1.2.1, ()), ()))
  else
    bif (r4.1.1 == 1) then
      (c_s_reader_pick r4.2.1.1 r4.2.1.2.1 3).bind fun r16 =>
      some (((1, r16.1.1, (), ()), ()), ((r16.2.1.1, r16.2.1.2.1, ()), ()))
    else
      bif (r4.1.1 == 2) then
        jn (fun t => B_s_someNode_J0 k c_s_reader_pick c_s_reader_one t.1.1 t.1.2.1 t.2.1.1 t.2.1.2.1 t.2.2.1 t.2.2.2.1) ((r4.2.1.1, r4.2.1.2.1, ()), (0, 0, (), ()), r4.1.1, (r4.1.1 == 2), ())
      else
        jn (fun t => B_s_someNode_J0 k c_s_reader_pick c_s_reader_one t.1.1 t.1.2.1 t.2.1.1 t.2.1.2.1 t.2.2.1 t.2.2.2.1) ((r4.2.1.1, r4.2.1.2.1, ()), (0, 0, (), ()), r4.1.1, (r4.1.1 == 3), ())
def F_s_someNode : Nat → C_s_someNode
  | 0, _, _ => none
  | k + 1, r_b, r_p => B_s_someNode k (F_s_reader_pick k) (F_s_reader_one k) r_b r_p
theorem tot_s_someNode {r_b r_p : _} {Q : _ → Prop} (h : Tot (fun σ => B_s_someNode (σ 0) (F_s_reader_pick (σ 0)) (F_s_reader_one (σ 0)) r_b r_p) Q) : Tot (fun σ => F_s_someNode (σ 0) r_b r_p) Q :=
  Tot.call (F := fun k => F_s_someNode k r_b r_p) (B := fun k => B_s_someNode k (F_s_reader_pick k) (F_s_reader_one k) r_b r_p) (fun k => rfl) h
abbrev R_s_isKey : Type := Option ((Bool × Unit) × (Unit))
abbrev C_s_isKey : Type := Int → Int → R_s_isKey
def B_s_isKey (k : Nat) (n_0 n_1 : Int) : R_s_isKey :=
  bif (n_0 == 0) then
    some ((true, ()), ())
  else
    some (((n_0 == 1), ()), ())
def F_s_isKey : Nat → C_s_isKey
  | 0, _, _ => none
  | k + 1, n_0, n_1 => B_s_isKey k n_0 n_1
theorem tot_s_isKey {n_0 n_1 : _} {Q : _ → Prop} (h : Tot (fun σ => B_s_isKey (σ 0) n_0 n_1) Q) : Tot (fun σ => F_s_isKey (σ 0) n_0 n_1) Q :=
  Tot.call (F := fun k => F_s_isKey k n_0 n_1) (B := fun k => B_s_isKey k n_0 n_1) (fun k => rfl) h
abbrev R_s_allIn : Type := Option ((Bool × Unit) × (Unit))
abbrev C_s_allIn : Type := List Int → Int → Int → R_s_allIn
abbrev T_s_allIn_L0 : Type := List Int × Int × Int × Int × Unit
def B_s_allIn_L0b (k : Nat) (c_s_inRange : C_s_inRange) (again0 : T_s_allIn_L0 → R_s_allIn) (list : List Int) (low high i : Int) : R_s_allIn :=
  bif decide (i < (len list)) then
    chk (inb i list.length) <|
    (c_s_inRange (rdx (0 : Int) list i) low high).bind fun r20 =>
    bif (!r20.1.1) then
      some ((false, ()), ())
    else
      again0 (list, low, high, w64 (i + 1), ())
  else
    some ((true, ()), ())
def B_s_allIn_L0 (k : Nat) (c_s_inRange : C_s_inRange) (n : Nat) (t : T_s_allIn_L0) : R_s_allIn :=
  lfix n (fun again t => B_s_allIn_L0b k c_s_inRange again t.1 t.2.1 t.2.2.1 t.2.2.2.1) t
def B_s_allIn (k : Nat) (c_s_inRange : C_s_inRange) (list : List Int) (low high : Int) : R_s_allIn :=
  B_s_allIn_L0 k c_s_inRange k (list, low, high, 0, ())
def F_s_allIn : Nat → C_s_allIn
  | 0, _, _, _ => none
  | k + 1, list, low, high => B_s_allIn k (F_s_inRange k) list low high
theorem tot_s_allIn {list low high : _} {Q : _ → Prop} (h : Tot (fun σ => B_s_allIn (σ 0) (F_s_inRange (σ 0)) list low high) Q) : Tot (fun σ => F_s_allIn (σ 0) list low high) Q :=
  Tot.call (F := fun k => F_s_allIn k list low high) (B := fun k => B_s_allIn k (F_s_inRange k) list low high) (fun k => rfl) h
abbrev A_s_allIn_L0 (Z : Type) : Type := List Int → Int → Int → Int → Z
abbrev u_s_allIn_L0 {Z : Type} (f : A_s_allIn_L0 Z) (t : T_s_allIn_L0) : Z := f t.1 t.2.1 t.2.2.1 t.2.2.2.1
theorem loop_s_allIn_L0 {Q : A_s_allIn_L0 (((Bool × Unit) × (Unit)) → Prop)} (I : A_s_allIn_L0 Prop) (μ : A_s_allIn_L0 Nat)
    (step : ∀ a0 a1 a2 a3, I a0 a1 a2 a3 → ∀ again : (Nat → Nat) → T_s_allIn_L0 → R_s_allIn, Dep 2 again → (∀ y0 y1 y2 y3, I y0 y1 y2 y3 → μ y0 y1 y2 y3 < μ a0 a1 a2 a3 → Tot (fun σ => again σ (y0, y1, y2, y3, ())) (Q y0 y1 y2 y3)) →
      Tot (fun σ => B_s_allIn_L0b (σ 0) (F_s_inRange (σ 0)) (again σ) a0 a1 a2 a3) (Q a0 a1 a2 a3)) :
    ∀ a0 a1 a2 a3, I a0 a1 a2 a3 → Tot (fun σ => B_s_allIn_L0 (σ 0) (F_s_inRange (σ 0)) (σ 0) (a0, a1, a2, a3, ())) (Q a0 a1 a2 a3) := fun a0 a1 a2 a3 => Tot.loop0 (L := fun k => B_s_allIn_L0 k (F_s_inRange k)) (B := fun k g => u_s_allIn_L0 (B_s_allIn_L0b k (F_s_inRange k) g)) (Q := u_s_allIn_L0 Q) (fun _ _ _ => rfl) (u_s_allIn_L0 I) (u_s_allIn_L0 μ)
    (fun t ht again hag h => step t.1 t.2.1 t.2.2.1 t.2.2.2.1 ht again hag fun y0 y1 y2 y3 => h (y0, y1, y2, y3, ())) (a0, a1, a2, a3, ())
abbrev R_s_sameKey : Type := Option ((Bool × Unit) × (Unit))
abbrev C_s_sameKey : Type := Int → Int → Int → Int → R_s_sameKey
def B_s_sameKey (k : Nat) (a_0 a_1 b_0 b_1 : Int) : R_s_sameKey :=
  bif (a_0 == b_0) then
    some (((a_1 == b_1), ()), ())
  else
    some ((false, ()), ())
def F_s_sameKey : Nat → C_s_sameKey
  | 0, _, _, _, _ => none
  | k + 1, a_0, a_1, b_0, b_1 => B_s_sameKey k a_0 a_1 b_0 b_1
theorem tot_s_sameKey {a_0 a_1 b_0 b_1 : _} {Q : _ → Prop} (h : Tot (fun σ => B_s_sameKey (σ 0) a_0 a_1 b_0 b_1) Q) : Tot (fun σ => F_s_sameKey (σ 0) a_0 a_1 b_0 b_1) Q :=
  Tot.call (F := fun k => F_s_sameKey k a_0 a_1 b_0 b_1) (B := fun k => B_s_sameKey k a_0 a_1 b_0 b_1) (fun k => rfl) h
abbrev R_s_validDict : Type := Option ((Bool × Unit) × (Unit))
abbrev C_s_validDict : Type := (List (Int × Int × List Int)) → Int → Int → Int → List Int → R_s_validDict
abbrev T_s_validDict_L0 : Type := ((List (Int × Int × List Int)) × Int × Unit) × (Int × Int × List Int × Unit) × Int × Int × Unit
abbrev T_s_validDict_L1 : Type := ((List (Int × Int × List Int)) × Int × Unit) × (Int × Int × List Int × Unit) × Int × Unit
def B_s_validDict_L0b (k : Nat) (c_s_isKey : C_s_isKey) (c_s_sameKey : C_s_sameKey) (again1 : T_s_validDict_L1 → R_s_validDict) (again0 : T_s_validDict_L0 → R_s_validDict) (g_Nodes : List (Int × Int × List Int)) (g_Root n_Kind n_Value : Int) (n_Kids : List Int) (i k6 : Int) : R_s_validDict :=
  bif decide (k6 < i) then
    chk (inb i n_Kids.length) <|
    chk (inb (rdx (0 : Int) n_Kids i) g_Nodes.length) <|
    chk (inb k6 n_Kids.length) <|
    chk (inb (rdx (0 : Int) n_Kids k6) g_Nodes.length) <|
    (c_s_sameKey ((rdx ((0 : Int), ((0 : Int), ([] : List Int))) g_Nodes (rdx (0 : Int) n_Kids i)).1) (((rdx ((0 : Int), ((0 : Int), ([] : List Int))) g_Nodes (rdx (0 : Int) n_Kids i)).2).1) ((rdx ((0 : Int), ((0 : Int), ([] : List Int))) g_Nodes (rdx (0 : Int) n_Kids k6)).1) (((rdx ((0 : Int), ((0 : Int), ([] : List Int))) g_Nodes (rdx (0 : Int) n_Kids k6)).2).1)).bind fun r48 =>
    bif r48.1.1 then
      some ((false, ()), ())
    else
      again0 ((g_Nodes, g_Root, ()), (n_Kind, n_Value, n_Kids, ()), i, w64 (k6 + 2), ())
  else
    again1 ((g_Nodes, g_Root, ()), (n_Kind, n_Value, n_Kids, ()), w64 (i + 2), ())
def B_s_validDict_L0 (k : Nat) (c_s_isKey : C_s_isKey) (c_s_sameKey : C_s_sameKey) (again1 : T_s_validDict_L1 → R_s_validDict) (n : Nat) (t : T_s_validDict_L0) : R_s_validDict :=
  lfix n (fun again t => B_s_validDict_L0b k c_s_isKey c_s_sameKey again1 again t.1.1 t.1.2.1 t.2.1.1 t.2.1.2.1 t.2.1.2.2.1 t.2.2.1 t.2.2.2.1) t
def B_s_validDict_L1b (k : Nat) (c_s_isKey : C_s_isKey) (c_s_sameKey : C_s_sameKey) (again1 : T_s_validDict_L1 → R_s_validDict) (g_Nodes : List (Int × Int × List Int)) (g_Root n_Kind n_Value : Int) (n_Kids : List Int) (i : Int) : R_s_validDict :=
  bif decide (i < (len n_Kids)) then
    chk (inb i n_Kids.length) <|
    chk (inb (rdx (0 : Int) n_Kids i) g_Nodes.length) <|
    (c_s_isKey ((rdx ((0 : Int), ((0 : Int), ([] : List Int))) g_Nodes (rdx (0 : Int) n_Kids i)).1) (((rdx ((0 : Int), ((0 : Int), ([] : List Int))) g_Nodes (rdx (0 : Int) n_Kids i)).2).1)).bind fun r23 =>
    bif (!r23.1.1) then
      some ((false, ()), ())
    else
      B_s_validDict_L0 k c_s_isKey c_s_sameKey again1 k ((g_Nodes, g_Root, ()), (n_Kind, n_Value, n_Kids, ()), i, 0, ())
  else
    some (((((len n_Kids).tmod 2) == 0), ()), ())
def B_s_validDict_L1 (k : Nat) (c_s_isKey : C_s_isKey) (c_s_sameKey : C_s_sameKey) (n : Nat) (t : T_s_validDict_L1) : R_s_validDict :=
  lfix n (fun again t => B_s_validDict_L1b k c_s_isKey c_s_sameKey again t.1.1 t.1.2.1 t.2.1.1 t.2.1.2.1 t.2.1.2.2.1 t.2.2.1) t
def B_s_validDict (k : Nat) (c_s_isKey : C_s_isKey) (c_s_sameKey : C_s_sameKey) (g_0 : List (Int × Int × List Int)) (g_1 n_0 n_1 : Int) (n_2 : List Int) : R_s_validDict :=
  B_s_validDict_L1 k c_s_isKey c_s_sameKey k ((g_0, g_1, ()), (n_0, n_1, n_2, ()), 0, ())
def F_s_validDict : Nat → C_s_validDict
  | 0, _, _, _, _, _ => none
  | k + 1, g_0, g_1, n_0, n_1, n_2 => B_s_validDict k (F_s_isKey k) (F_s_sameKey k) g_0 g_1 n_0 n_1 n_2
theorem tot_s_validDict {g_0 g_1 n_0 n_1 n_2 : _} {Q : _ → Prop} (h : Tot (fun σ => B_s_validDict (σ 0) (F_s_isKey (σ 0)) (F_s_sameKey (σ 0)) g_0 g_1 n_0 n_1 n_2) Q) : Tot (fun σ => F_s_validDict (σ 0) g_0 g_1 n_0 n_1 n_2) Q :=
  Tot.call (F := fun k => F_s_validDict k g_0 g_1 n_0 n_1 n_2) (B := fun k => B_s_validDict k (F_s_isKey k) (F_s_sameKey k) g_0 g_1 n_0 n_1 n_2) (fun k => rfl) h
abbrev A_s_validDict_L0 (Z : Type) : Type := (List (Int × Int × List Int)) → Int → Int → Int → List Int → Int → Int → Z
abbrev u_s_validDict_L0 {Z : Type} (f : A_s_validDict_L0 Z) (t : T_s_validDict_L0) : Z := f t.1.1 t.1.2.1 t.2.1.1 t.2.1.2.1 t.2.1.2.2.1 t.2.2.1 t.2.2.2.1
theorem loop_s_validDict_L0 {again1 : (Nat → Nat) → T_s_validDict_L1 → R_s_validDict} (hag1 : Dep 2 again1) {Q : A_s_validDict_L0 (((Bool × Unit) × (Unit)) → Prop)} (I : A_s_validDict_L0 Prop) (μ : A_s_validDict_L0 Nat)
    (step : ∀ a0 a1 a2 a3 a4 a5 a6, I a0 a1 a2 a3 a4 a5 a6 → ∀ again : (Nat → Nat) → T_s_validDict_L0 → R_s_validDict, Dep 3 again → (∀ y0 y1 y2 y3 y4 y5 y6, I y0 y1 y2 y3 y4 y5 y6 → μ y0 y1 y2 y3 y4 y5 y6 < μ a0 a1 a2 a3 a4 a5 a6 → Tot (fun σ => again σ ((y0, y1, ()), (y2, y3, y4, ()), y5, y6, ())) (Q y0 y1 y2 y3 y4 y5 y6)) →
      Tot (fun σ => B_s_validDict_L0b (σ 0) (F_s_isKey (σ 0)) (F_s_sameKey (σ 0)) (again1 σ) (again σ) a0 a1 a2 a3 a4 a5 a6) (Q a0 a1 a2 a3 a4 a5 a6)) :
    ∀ a0 a1 a2 a3 a4 a5 a6, I a0 a1 a2 a3 a4 a5 a6 → Tot (fun σ => B_s_validDict_L0 (σ 0) (F_s_isKey (σ 0)) (F_s_sameKey (σ 0)) (again1 σ) (σ 0) ((a0, a1, ()), (a2, a3, a4, ()), a5, a6, ())) (Q a0 a1 a2 a3 a4 a5 a6) := fun a0 a1 a2 a3 a4 a5 a6 => Tot.loop (L := fun σ n t => B_s_validDict_L0 (σ 0) (F_s_isKey (σ 0)) (F_s_sameKey (σ 0)) (again1 σ) n t) (B := fun σ g => u_s_validDict_L0 (B_s_validDict_L0b (σ 0) (F_s_isKey (σ 0)) (F_s_sameKey (σ 0)) (again1 σ) g)) (Q := u_s_validDict_L0 Q) 2 (by decide)
    (fun s s' h => by have e0 : s 0 = s' 0 := h 0 (by decide); simp only [e0, hag1 s s' h]) (fun s s' h => by have e0 : s 0 = s' 0 := h 0 (by decide); simp only [e0, hag1 s s' h]) (fun _ _ _ => rfl) (u_s_validDict_L0 I) (u_s_validDict_L0 μ)
    (fun t ht again hag h => step t.1.1 t.1.2.1 t.2.1.1 t.2.1.2.1 t.2.1.2.2.1 t.2.2.1 t.2.2.2.1 ht again hag fun y0 y1 y2 y3 y4 y5 y6 => h ((y0, y1, ()), (y2, y3, y4, ()), y5, y6, ())) ((a0, a1, ()), (a2, a3, a4, ()), a5, a6, ())
abbrev A_s_validDict_L1 (Z : Type) : Type := (List (Int × Int × List Int)) → Int → Int → Int → List Int → Int → Z
abbrev u_s_validDict_L1 {Z : Type} (f : A_s_validDict_L1 Z) (t : T_s_validDict_L1) : Z := f t.1.1 t.1.2.1 t.2.1.1 t.2.1.2.1 t.2.1.2.2.1 t.2.2.1
theorem loop_s_validDict_L1 {Q : A_s_validDict_L1 (((Bool × Unit) × (Unit)) → Prop)} (I : A_s_validDict_L1 Prop) (μ : A_s_validDict_L1 Nat)
    (step : ∀ a0 a1 a2 a3 a4 a5, I a0 a1 a2 a3 a4 a5 → ∀ again : (Nat → Nat) → T_s_validDict_L1 → R_s_validDict, Dep 2 again → (∀ y0 y1 y2 y3 y4 y5, I y0 y1 y2 y3 y4 y5 → μ y0 y1 y2 y3 y4 y5 < μ a0 a1 a2 a3 a4 a5 → Tot (fun σ => again σ ((y0, y1, ()), (y2, y3, y4, ()), y5, ())) (Q y0 y1 y2 y3 y4 y5)) →
      Tot (fun σ => B_s_validDict_L1b (σ 0) (F_s_isKey (σ 0)) (F_s_sameKey (σ 0)) (again σ) a0 a1 a2 a3 a4 a5) (Q a0 a1 a2 a3 a4 a5)) :
    ∀ a0 a1 a2 a3 a4 a5, I a0 a1 a2 a3 a4 a5 → Tot (fun σ => B_s_validDict_L1 (σ 0) (F_s_isKey (σ 0)) (F_s_sameKey (σ 0)) (σ 0) ((a0, a1, ()), (a2, a3, a4, ()), a5, ())) (Q a0 a1 a2 a3 a4 a5) := fun a0 a1 a2 a3 a4 a5 => Tot.loop0 (L := fun k => B_s_validDict_L1 k (F_s_isKey k) (F_s_sameKey k)) (B := fun k g => u_s_validDict_L1 (B_s_validDict_L1b k (F_s_isKey k) (F_s_sameKey k) g)) (Q := u_s_validDict_L1 Q) (fun _ _ _ => rfl) (u_s_validDict_L1 I) (u_s_validDict_L1 μ)
    (fun t ht again hag h => step t.1.1 t.1.2.1 t.2.1.1 t.2.1.2.1 t.2.1.2.2.1 t.2.2.1 ht again hag fun y0 y1 y2 y3 y4 y5 => h ((y0, y1, ()), (y2, y3, y4, ()), y5, ())) ((a0, a1, ()), (a2, a3, a4, ()), a5, ())
abbrev R_s_validNode : Type := Option ((Bool × Unit) × (Unit))
abbrev C_s_validNode : Type := (List (Int × Int × List Int)) → Int → Int → Int → List Int → R_s_validNode
def B_s_validNode_J1 (k : Nat) (c_s_allIn : C_s_allIn) (c_s_inRange : C_s_inRange) (c_s_validDict : C_s_validDict) (g_Nodes : List (Int × Int × List Int)) (g_Root n_Kind n_Value : Int) (n_Kids : List Int) (t20 : Int) (t43 : Bool) : R_s_validNode :=
  bif t43 then
    some (((n_Value == 0), ()), ())
  else
    bif (t20 == 4) then
      bif (n_Value == 0) then
        (c_s_validDict g_Nodes g_Root n_Kind n_Value n_Kids).bind fun r57 =>
        some ((r57.1.1, ()), ())
      else
        some ((false, ()), ())
    else
      bif (t20 == 5) then
        (c_s_inRange n_Value 0 9).bind fun r63 =>
        bif r63.1.1 then
          some ((decide ((len n_Kids) ≤ 1), ()), ())
        else
          some ((false, ()), ())
      else
        some ((false, ()), ())
def B_s_validNode_J0 (k : Nat) (c_s_allIn : C_s_allIn) (c_s_inRange : C_s_inRange) (c_s_validDict : C_s_validDict) (g_Nodes : List (Int × Int × List Int)) (g_Root n_Kind n_Value : Int) (n_Kids : List Int) (t18 : Bool) : R_s_validNode :=
  bif t18 then
    some ((false, ()), ())
  else
    bif (n_Kind == 0) then
      (c_s_inRange n_Value 0 999).bind fun r25 =>
      bif r25.1.1 then
        some ((((len n_Kids) == 0), ()), ())
      else
        some ((false, ()), ())
    else
      bif (n_Kind == 1) then
        (c_s_inRange n_Value 0 9).bind fun r36 =>
        bif r36.1.1 then
          some ((((len n_Kids) == 0), ()), ())
        else
          some ((false, ()), ())
      else
        bif (n_Kind == 2) then
          jn (fun t => B_s_validNode_J1 k c_s_allIn c_s_inRange c_s_validDict t.1.1 t.1.2.1 t.2.1.1 t.2.1.2.1 t.2.1.2.2.1 t.2.2.1 t.2.2.2.1) ((g_Nodes, g_Root, ()), (n_Kind, n_Value, n_Kids, ()), n_Kind, (n_Kind == 2), ())
        else
          jn (fun t => B_s_validNode_J1 k c_s_allIn c_s_inRange c_s_validDict t.1.1 t.1.2.1 t.2.1.1 t.2.1.2.1 t.2.1.2.2.1 t.2.2.1 t.2.2.2.1) ((g_Nodes, g_Root, ()), (n_Kind, n_Value, n_Kids, ()), n_Kind, (n_Kind == 3), ())
def B_s_validNode (k : Nat) (c_s_allIn : C_s_allIn) (c_s_inRange : C_s_inRange) (c_s_validDict : C_s_validDict) (g_0 : List (Int × Int × List Int)) (g_1 n_0 n_1 : Int) (n_2 : List Int) : R_s_validNode :=
  bif decide ((len n_2) > 6) then
    jn (fun t => B_s_validNode_J0 k c_s_allIn c_s_inRange c_s_validDict t.1.1 t.1.2.1 t.2.1.1 t.2.1.2.1 t.2.1.2.2.1 t.2.2.1) ((g_0, g_1, ()), (n_0, n_1, n_2, ()), true, ())
  else
    (c_s_allIn n_2 0 (w64 ((len g_0) - 1))).bind fun r16 =>
    jn (fun t => B_s_validNode_J0 k c_s_allIn c_s_inRange c_s_validDict t.1.1 t.1.2.1 t.2.1.1 t.2.1.2.1 t.2.1.2.2.1 t.2.2.1) ((g_0, g_1, ()), (n_0, n_1, n_2, ()), (!r16.1.1), ())
def F_s_validNode : Nat → C_s_validNode
  | 0, _, _, _, _, _ => none
  | k + 1, g_0, g_1, n_0, n_1, n_2 => B_s_validNode k (F_s_allIn k) (F_s_inRange k) (F_s_validDict k) g_0 g_1 n_0 n_1 n_2
theorem tot_s_validNode {g_0 g_1 n_0 n_1 n_2 : _} {Q : _ → Prop} (h : Tot (fun σ => B_s_validNode (σ 0) (F_s_allIn (σ 0)) (F_s_inRange (σ 0)) (F_s_validDict (σ 0)) g_0 g_1 n_0 n_1 n_2) Q) : Tot (fun σ => F_s_validNode (σ 0) g_0 g_1 n_0 n_1 n_2) Q :=
  Tot.call (F := fun k => F_s_validNode k g_0 g_1 n_0 n_1 n_2) (B := fun k => B_s_validNode k (F_s_allIn k) (F_s_inRange k) (F_s_validDict k) g_0 g_1 n_0 n_1 n_2) (fun k => rfl) h
abbrev R_s_placeIn : Type := Option ((Int × Unit) × (Unit))
abbrev C_s_placeIn : Type := List Int → Int → R_s_placeIn
abbrev T_s_placeIn_L0 : Type := List Int × Int × Int × Unit
def B_s_placeIn_L0b (k : Nat) (again0 : T_s_placeIn_L0 → R_s_placeIn) (list : List Int) (n1 i : Int) : R_s_placeIn :=
  bif decide (i < (len list)) then
    chk (inb i list.length) <|
    bif ((rdx (0 : Int) list i) == n1) then
      some ((i, ()), ())
    else
      again0 (list, n1, w64 (i + 1), ())
  else
    some (((-1), ()), ())
def B_s_placeIn_L0 (k : Nat) (n : Nat) (t : T_s_placeIn_L0) : R_s_placeIn :=
  lfix n (fun again t => B_s_placeIn_L0b k again t.1 t.2.1 t.2.2.1) t
def B_s_placeIn (k : Nat) (list : List Int) (n1 : Int) : R_s_placeIn :=
  B_s_placeIn_L0 k k (list, n1, 0, ())
def F_s_placeIn : Nat → C_s_placeIn
  | 0, _, _ => none
  | k + 1, list, n1 => B_s_placeIn k list n1
theorem tot_s_placeIn {list n1 : _} {Q : _ → Prop} (h : Tot (fun σ => B_s_placeIn (σ 0) list n1) Q) : Tot (fun σ => F_s_placeIn (σ 0) list n1) Q :=
  Tot.call (F := fun k => F_s_placeIn k list n1) (B := fun k => B_s_placeIn k list n1) (fun k => rfl) h
abbrev A_s_placeIn_L0 (Z : Type) : Type := List Int → Int → Int → Z
abbrev u_s_placeIn_L0 {Z : Type} (f : A_s_placeIn_L0 Z) (t : T_s_placeIn_L0) : Z := f t.1 t.2.1 t.2.2.1
theorem loop_s_placeIn_L0 {Q : A_s_placeIn_L0 (((Int × Unit) × (Unit)) → Prop)} (I : A_s_placeIn_L0 Prop) (μ : A_s_placeIn_L0 Nat)
    (step : ∀ a0 a1 a2, I a0 a1 a2 → ∀ again : (Nat → Nat) → T_s_placeIn_L0 → R_s_placeIn, Dep 2 again → (∀ y0 y1 y2, I y0 y1 y2 → μ y0 y1 y2 < μ a0 a1 a2 → Tot (fun σ => again σ (y0, y1, y2, ())) (Q y0 y1 y2)) →
      Tot (fun σ => B_s_placeIn_L0b (σ 0) (again σ) a0 a1 a2) (Q a0 a1 a2)) :
    ∀ a0 a1 a2, I a0 a1 a2 → Tot (fun σ => B_s_placeIn_L0 (σ 0) (σ 0) (a0, a1, a2, ())) (Q a0 a1 a2) := fun a0 a1 a2 => Tot.loop0 (L := fun k => B_s_placeIn_L0 k) (B := fun k g => u_s_placeIn_L0 (B_s_placeIn_L0b k g)) (Q := u_s_placeIn_L0 Q) (fun _ _ _ => rfl) (u_s_placeIn_L0 I) (u_s_placeIn_L0 μ)
    (fun t ht again hag h => step t.1 t.2.1 t.2.2.1 ht again hag fun y0 y1 y2 => h (y0, y1, y2, ())) (a0, a1, a2, ())
abbrev R_s_tupleReach : Type := Option ((List Int × Unit) × (Unit))
abbrev C_s_tupleReach : Type := (List (Int × Int × List Int)) → Int → Int → R_s_tupleReach
abbrev T_s_tupleReach_L1 : Type := ((List (Int × Int × List Int)) × Int × Unit) × List Int × List Int × Int × Unit
def B_s_tupleReach_J0 (k : Nat) (c_s_copyInts : C_s_copyInts) (c_s_placeIn : C_s_placeIn) (again1 : T_s_tupleReach_L1 → R_s_tupleReach) (g_Nodes : List (Int × Int × List Int)) (g_Root : Int) (out list : List Int) (k7 : Int) : R_s_tupleReach :=
  again1 ((g_Nodes, g_Root, ()), out, list, w64 (k7 + 1), ())
def B_s_tupleReach_L1b (k : Nat) (c_s_copyInts : C_s_copyInts) (c_s_placeIn : C_s_placeIn) (again1 : T_s_tupleReach_L1 → R_s_tupleReach) (g_Nodes : List (Int × Int × List Int)) (g_Root : Int) (out list : List Int) (k7 : Int) : R_s_tupleReach :=
  bif decide (k7 < (len list)) then
    chk (inb k7 list.length) <|
    chk (decide (k7.toNat < list.length)) <|
    (c_s_placeIn out (list.getD k7.toNat (0 : Int))).bind fun r27 =>
    bif decide (r27.1.1 < 0) then
      chk (inb k7 list.length) <|
      chk (decide (k7.toNat < list.length)) <|
      chk (room out.length ([(list.getD k7.toNat (0 : Int))]).length) <|
      chk (inb k7 list.length) <|
      chk (decide (k7.toNat < list.length)) <|
      chk (inb (list.getD k7.toNat (0 : Int)) g_Nodes.length) <|
      let v45 : Bool := (((rdx ((0 : Int), ((0 : Int), ([] : List Int))) g_Nodes (list.getD k7.toNat (0 : Int))).1) == 2)
      bif v45 then
        chk (inb k7 list.length) <|
        chk (decide (k7.toNat < list.length)) <|
        chk (inb (list.getD k7.toNat (0 : Int)) g_Nodes.length) <|
        chk (room list.length (((rdx ((0 : Int), ((0 : Int), ([] : List Int))) g_Nodes (list.getD k7.toNat (0 : Int))).2).2).length) <|
        jn (fun t => B_s_tupleReach_J0 k c_s_copyInts c_s_placeIn again1 t.1.1 t.1.2.1 t.2.1 t.2.2.1 t.2.2.2.1) ((g_Nodes, g_Root, ()), (out ++ [(list.getD k7.toNat (0 : Int))]), (list ++ ((rdx ((0 : Int), ((0 : Int), ([] : List Int))) g_Nodes (list.getD k7.toNat (0 : Int))).2).2), k7, ())
      else
        jn (fun t => B_s_tupleReach_J0 k c_s_copyInts c_s_placeIn again1 t.1.1 t.1.2.1 t.2.1 t.2.2.1 t.2.2.2.1) ((g_Nodes, g_Root, ()), (out ++ [(list.getD k7.toNat (0 : Int))]), list, k7, ())
    else
      jn (fun t => B_s_tupleReach_J0 k c_s_copyInts c_s_placeIn again1 t.1.1 t.1.2.1 t.2.1 t.2.2.1 t.2.2.2.1) ((g_Nodes, g_Root, ()), out, list, k7, ())
  else
    some ((out, ()), ())
def B_s_tupleReach_L1 (k : Nat) (c_s_copyInts : C_s_copyInts) (c_s_placeIn : C_s_placeIn) (n : Nat) (t : T_s_tupleReach_L1) : R_s_tupleReach :=
  lfix n (fun again t => B_s_tupleReach_L1b k c_s_copyInts c_s_placeIn again t.1.1 t.1.2.1 t.2.1 t.2.2.1 t.2.2.2.1) t
def B_s_tupleReach (k : Nat) (c_s_copyInts : C_s_copyInts) (c_s_placeIn : C_s_placeIn) (g_0 : List (Int × Int × List Int)) (g_1 at1 : Int) : R_s_tupleReach :=
  chk (inb at1 g_0.length) <|
  (c_s_copyInts (((rdx ((0 : Int), ((0 : Int), ([] : List Int))) g_0 at1).2).2)).bind fun r15 =>
  B_s_tupleReach_L1 k c_s_copyInts c_s_placeIn k ((g_0, g_1, ()), [], r15.1.1, 0, ())
def F_s_tupleReach : Nat → C_s_tupleReach
  | 0, _, _, _ => none
  | k + 1, g_0, g_1, at1 => B_s_tupleReach k (F_s_copyInts k) (F_s_placeIn k) g_0 g_1 at1
theorem tot_s_tupleReach {g_0 g_1 at1 : _} {Q : _ → Prop} (h : Tot (fun σ => B_s_tupleReach (σ 0) (F_s_copyInts (σ 0)) (F_s_placeIn (σ 0)) g_0 g_1 at1) Q) : Tot (fun σ => F_s_tupleReach (σ 0) g_0 g_1 at1) Q :=
  Tot.call (F := fun k => F_s_tupleReach k g_0 g_1 at1) (B := fun k => B_s_tupleReach k (F_s_copyInts k) (F_s_placeIn k) g_0 g_1 at1) (fun k => rfl) h
abbrev A_s_tupleReach_L1 (Z : Type) : Type := (List (Int × Int × List Int)) → Int → List Int → List Int → Int → Z
abbrev u_s_tupleReach_L1 {Z : Type} (f : A_s_tupleReach_L1 Z) (t : T_s_tupleReach_L1) : Z := f t.1.1 t.1.2.1 t.2.1 t.2.2.1 t.2.2.2.1
theorem loop_s_tupleReach_L1 {Q : A_s_tupleReach_L1 (((List Int × Unit) × (Unit)) → Prop)} (I : A_s_tupleReach_L1 Prop) (μ : A_s_tupleReach_L1 Nat)
    (step : ∀ a0 a1 a2 a3 a4, I a0 a1 a2 a3 a4 → ∀ again : (Nat → Nat) → T_s_tupleReach_L1 → R_s_tupleReach, Dep 2 again → (∀ y0 y1 y2 y3 y4, I y0 y1 y2 y3 y4 → μ y0 y1 y2 y3 y4 < μ a0 a1 a2 a3 a4 → Tot (fun σ => again σ ((y0, y1, ()), y2, y3, y4, ())) (Q y0 y1 y2 y3 y4)) →
      Tot (fun σ => B_s_tupleReach_L1b (σ 0) (F_s_copyInts (σ 0)) (F_s_placeIn (σ 0)) (again σ) a0 a1 a2 a3 a4) (Q a0 a1 a2 a3 a4)) :
    ∀ a0 a1 a2 a3 a4, I a0 a1 a2 a3 a4 → Tot (fun σ => B_s_tupleReach_L1 (σ 0) (F_s_copyInts (σ 0)) (F_s_placeIn (σ 0)) (σ 0) ((a0, a1, ()), a2, a3, a4, ())) (Q a0 a1 a2 a3 a4) := fun a0 a1 a2 a3 a4 => Tot.loop0 (L := fun k => B_s_tupleReach_L1 k (F_s_copyInts k) (F_s_placeIn k)) (B := fun k g => u_s_tupleReach_L1 (B_s_tupleReach_L1b k (F_s_copyInts k) (F_s_placeIn k) g)) (Q := u_s_tupleReach_L1 Q) (fun _ _ _ => rfl) (u_s_tupleReach_L1 I) (u_s_tupleReach_L1 μ)
    (fun t ht again hag h => step t.1.1 t.1.2.1 t.2.1 t.2.2.1 t.2.2.2.1 ht again hag fun y0 y1 y2 y3 y4 => h ((y0, y1, ()), y2, y3, y4, ())) ((a0, a1, ()), a2, a3, a4, ())
abbrev R_s_validGraph : Type := Option ((Bool × Unit) × (Unit))
abbrev C_s_validGraph : Type := (List (Int × Int × List Int)) → Int → R_s_validGraph
abbrev T_s_validGraph_L3 : Type := ((List (Int × Int × List Int)) × Int × Unit) × Int × Unit
abbrev T_s_validGraph_L1 : Type := ((List (Int × Int × List Int)) × Int × Unit) × Int × Unit
def B_s_validGraph_J2 (k : Nat) (c_s_inRange : C_s_inRange) (c_s_validNode : C_s_validNode) (c_s_tupleReach : C_s_tupleReach) (c_s_placeIn : C_s_placeIn) (again3 : T_s_validGraph_L3 → R_s_validGraph) (g_Nodes : List (Int × Int × List Int)) (g_Root i : Int) (t56 : Bool) : R_s_validGraph :=
  bif t56 then
    some ((false, ()), ())
  else
    again3 ((g_Nodes, g_Root, ()), w64 (i + 1), ())
def B_s_validGraph_L3b (k : Nat) (c_s_inRange : C_s_inRange) (c_s_validNode : C_s_validNode) (c_s_tupleReach : C_s_tupleReach) (c_s_placeIn : C_s_placeIn) (again3 : T_s_validGraph_L3 → R_s_validGraph) (g_Nodes : List (Int × Int × List Int)) (g_Root i : Int) : R_s_validGraph :=
  bif decide (i < (len g_Nodes)) then
    chk (inb i g_Nodes.length) <|
    bif (((rdx ((0 : Int), ((0 : Int), ([] : List Int))) g_Nodes i).1) == 2) then
      (c_s_tupleReach g_Nodes g_Root i).bind fun r52 =>
      (c_s_placeIn r52.1.1 i).bind fun r54 =>
      jn (fun t => B_s_validGraph_J2 k c_s_inRange c_s_validNode c_s_tupleReach c_s_placeIn again3 t.1.1 t.1.2.1 t.2.1 t.2.2.1) ((g_Nodes, g_Root, ()), i, decide (r54.1.1 ≥ 0), ())
    else
      jn (fun t => B_s_validGraph_J2 k c_s_inRange c_s_validNode c_s_tupleReach c_s_placeIn again3 t.1.1 t.1.2.1 t.2.1 t.2.2.1) ((g_Nodes, g_Root, ()), i, false, ())
  else
    some ((true, ()), ())
def B_s_validGraph_L3 (k : Nat) (c_s_inRange : C_s_inRange) (c_s_validNode : C_s_validNode) (c_s_tupleReach : C_s_tupleReach) (c_s_placeIn : C_s_placeIn) (n : Nat) (t : T_s_validGraph_L3) : R_s_validGraph :=
  lfix n (fun again t => B_s_validGraph_L3b k c_s_inRange c_s_validNode c_s_tupleReach c_s_placeIn again t.1.1 t.1.2.1 t.2.1) t
def B_s_validGraph_L1b (k : Nat) (c_s_inRange : C_s_inRange) (c_s_validNode : C_s_validNode) (c_s_tupleReach : C_s_tupleReach) (c_s_placeIn : C_s_placeIn) (again1 : T_s_validGraph_L1 → R_s_validGraph) (g_Nodes : List (Int × Int × List Int)) (g_Root i : Int) : R_s_validGraph :=
  bif decide (i < (len g_Nodes)) then
    chk (inb i g_Nodes.length) <|
    (c_s_validNode g_Nodes g_Root ((rdx ((0 : Int), ((0 : Int), ([] : List Int))) g_Nodes i).1) (((rdx ((0 : Int), ((0 : Int), ([] : List Int))) g_Nodes i).2).1) (((rdx ((0 : Int), ((0 : Int), ([] : List Int))) g_Nodes i).2).2)).bind fun r33 =>
    bif (!r33.1.1) then
      some ((false, ()), ())
    else
      again1 ((g_Nodes, g_Root, ()), w64 (i + 1), ())
  else
    B_s_validGraph_L3 k c_s_inRange c_s_validNode c_s_tupleReach c_s_placeIn k ((g_Nodes, g_Root, ()), 0, ())
def B_s_validGraph_L1 (k : Nat) (c_s_inRange : C_s_inRange) (c_s_validNode : C_s_validNode) (c_s_tupleReach : C_s_tupleReach) (c_s_placeIn : C_s_placeIn) (n : Nat) (t : T_s_validGraph_L1) : R_s_validGraph :=
  lfix n (fun again t => B_s_validGraph_L1b k c_s_inRange c_s_validNode c_s_tupleReach c_s_placeIn again t.1.1 t.1.2.1 t.2.1) t
def B_s_validGraph_J0 (k : Nat) (c_s_inRange : C_s_inRange) (c_s_validNode : C_s_validNode) (c_s_tupleReach : C_s_tupleReach) (c_s_placeIn : C_s_placeIn) (g_Nodes : List (Int × Int × List Int)) (g_Root : Int) (t19 : Bool) : R_s_validGraph :=
  bif t19 then
    some ((false, ()), ())
  else
    B_s_validGraph_L1 k c_s_inRange c_s_validNode c_s_tupleReach c_s_placeIn k ((g_Nodes, g_Root, ()), 0, ())
def B_s_validGraph (k : Nat) (c_s_inRange : C_s_inRange) (c_s_validNode : C_s_validNode) (c_s_tupleReach : C_s_tupleReach) (c_s_placeIn : C_s_placeIn) (g_0 : List (Int × Int × List Int)) (g_1 : Int) : R_s_validGraph :=
  (c_s_inRange (len g_0) 1 12).bind fun r8 =>
  bif (!r8.1.1) then
    jn (fun t => B_s_validGraph_J0 k c_s_inRange c_s_validNode c_s_tupleReach c_s_placeIn t.1.1 t.1.2.1 t.2.1) ((g_0, g_1, ()), true, ())
  else
    (c_s_inRange g_1 0 (w64 ((len g_0) - 1))).bind fun r17 =>
    jn (fun t => B_s_validGraph_J0 k c_s_inRange c_s_validNode c_s_tupleReach c_s_placeIn t.1.1 t.1.2.1 t.2.1) ((g_0, g_1, ()), (!r17.1.1), ())
def F_s_validGraph : Nat → C_s_validGraph
  | 0, _, _ => none
  | k + 1, g_0, g_1 => B_s_validGraph k (F_s_inRange k) (F_s_validNode k) (F_s_tupleReach k) (F_s_placeIn k) g_0 g_1
theorem tot_s_validGraph {g_0 g_1 : _} {Q : _ → Prop} (h : Tot (fun σ => B_s_validGraph (σ 0) (F_s_inRange (σ 0)) (F_s_validNode (σ 0)) (F_s_tupleReach (σ 0)) (F_s_placeIn (σ 0)) g_0 g_1) Q) : Tot (fun σ => F_s_validGraph (σ 0) g_0 g_1) Q :=
  Tot.call (F := fun k => F_s_validGraph k g_0 g_1) (B := fun k => B_s_validGraph k (F_s_inRange k) (F_s_validNode k) (F_s_tupleReach k) (F_s_placeIn k) g_0 g_1) (fun k => rfl) h
abbrev A_s_validGraph_L3 (Z : Type) : Type := (List (Int × Int × List Int)) → Int → Int → Z
abbrev u_s_validGraph_L3 {Z : Type} (f : A_s_validGraph_L3 Z) (t : T_s_validGraph_L3) : Z := f t.1.1 t.1.2.1 t.2.1
theorem loop_s_validGraph_L3 {Q : A_s_validGraph_L3 (((Bool × Unit) × (Unit)) → Prop)} (I : A_s_validGraph_L3 Prop) (μ : A_s_validGraph_L3 Nat)
    (step : ∀ a0 a1 a2, I a0 a1 a2 → ∀ again : (Nat → Nat) → T_s_validGraph_L3 → R_s_validGraph, Dep 2 again → (∀ y0 y1 y2, I y0 y1 y2 → μ y0 y1 y2 < μ a0 a1 a2 → Tot (fun σ => again σ ((y0, y1, ()), y2, ())) (Q y0 y1 y2)) →
      Tot (fun σ => B_s_validGraph_L3b (σ 0) (F_s_inRange (σ 0)) (F_s_validNode (σ 0)) (F_s_tupleReach (σ 0)) (F_s_placeIn (σ 0)) (again σ) a0 a1 a2) (Q a0 a1 a2)) :
    ∀ a0 a1 a2, I a0 a1 a2 → Tot (fun σ => B_s_validGraph_L3 (σ 0) (F_s_inRange (σ 0)) (F_s_validNode (σ 0)) (F_s_tupleReach (σ 0)) (F_s_placeIn (σ 0)) (σ 0) ((a0, a1, ()), a2, ())) (Q a0 a1 a2) := fun a0 a1 a2 => Tot.loop0 (L := fun k => B_s_validGraph_L3 k (F_s_inRange k) (F_s_validNode k) (F_s_tupleReach k) (F_s_placeIn k)) (B := fun k g => u_s_validGraph_L3 (B_s_validGraph_L3b k (F_s_inRange k) (F_s_validNode k) (F_s_tupleReach k) (F_s_placeIn k) g)) (Q := u_s_validGraph_L3 Q) (fun _ _ _ => rfl) (u_s_validGraph_L3 I) (u_s_validGraph_L3 μ)
    (fun t ht again hag h => step t.1.1 t.1.2.1 t.2.1 ht again hag fun y0 y1 y2 => h ((y0, y1, ()), y2, ())) ((a0, a1, ()), a2, ())
abbrev A_s_validGraph_L1 (Z : Type) : Type := (List (Int × Int × List Int)) → Int → Int → Z
abbrev u_s_validGraph_L1 {Z : Type} (f : A_s_validGraph_L1 Z) (t : T_s_validGraph_L1) : Z := f t.1.1 t.1.2.1 t.2.1
theorem loop_s_validGraph_L1 {Q : A_s_validGraph_L1 (((Bool × Unit) × (Unit)) → Prop)} (I : A_s_validGraph_L1 Prop) (μ : A_s_validGraph_L1 Nat)
    (step : ∀ a0 a1 a2, I a0 a1 a2 → ∀ again : (Nat → Nat) → T_s_validGraph_L1 → R_s_validGraph, Dep 2 again → (∀ y0 y1 y2, I y0 y1 y2 → μ y0 y1 y2 < μ a0 a1 a2 → Tot (fun σ => again σ ((y0, y1, ()), y2, ())) (Q y0 y1 y2)) →
      Tot (fun σ => B_s_validGraph_L1b (σ 0) (F_s_inRange (σ 0)) (F_s_validNode (σ 0)) (F_s_tupleReach (σ 0)) (F_s_placeIn (σ 0)) (again σ) a0 a1 a2) (Q a0 a1 a2)) :
    ∀ a0 a1 a2, I a0 a1 a2 → Tot (fun σ => B_s_validGraph_L1 (σ 0) (F_s_inRange (σ 0)) (F_s_validNode (σ 0)) (F_s_tupleReach (σ 0)) (F_s_placeIn (σ 0)) (σ 0) ((a0, a1, ()), a2, ())) (Q a0 a1 a2) := fun a0 a1 a2 => Tot.loop0 (L := fun k => B_s_validGraph_L1 k (F_s_inRange k) (F_s_validNode k) (F_s_tupleReach k) (F_s_placeIn k)) (B := fun k g => u_s_validGraph_L1 (B_s_validGraph_L1b k (F_s_inRange k) (F_s_validNode k) (F_s_tupleReach k) (F_s_placeIn k) g)) (Q := u_s_validGraph_L1 Q) (fun _ _ _ => rfl) (u_s_validGraph_L1 I) (u_s_validGraph_L1 μ)
    (fun t ht again hag h => step t.1.1 t.1.2.1 t.2.1 ht again hag fun y0 y1 y2 => h ((y0, y1, ()), y2, ())) ((a0, a1, ()), a2, ())
abbrev R_s_addKids : Type := Option ((((List (Int × Int × Option (List Int))) × Int × Unit) × Unit) × ((List Int × Int × Unit) × Unit))
abbrev C_s_addKids : Type := List Int → Int → (List (Int × Int × Option (List Int))) → Int → Int → R_s_addKids
abbrev T_s_addKids_L3 : Type := (List Int × Int × Unit) × Int × ((List (Int × Int × Option (List Int))) × Int × Unit) × (Unit × Int × Unit) × (Int × Int × List Int × Unit) × Int × Unit
def B_s_addKids_J2 (k : Nat) (c_s_reader_one : C_s_reader_one) (c_s_reader_pick : C_s_reader_pick) (c_s_isKey : C_s_isKey) (c_s_validGraph : C_s_validGraph) (again3 : T_s_addKids_L3 → R_s_addKids) (r_b : List Int) (r_p at2 : Int) (g_Nodes : List (Int × Int × Option (List Int))) (g_Root t6_Root n_Kind n_Value : Int) (n_Kids : List Int) (k8 : Int) : R_s_addKids :=
  again3 ((r_b, r_p, ()), at2, (g_Nodes, g_Root, ()), ((), t6_Root, ()), (n_Kind, n_Value, n_Kids, ()), w64 (k8 - 1), ())
def B_s_addKids_J1 (k : Nat) (c_s_reader_one : C_s_reader_one) (c_s_reader_pick : C_s_reader_pick) (c_s_isKey : C_s_isKey) (c_s_validGraph : C_s_validGraph) (again3 : T_s_addKids_L3 → R_s_addKids) (r_b : List Int) (r_p at2 : Int) (g_Nodes : List (Int × Int × Option (List Int))) (g_Root t6_Root n_Kind n_Value : Int) (n_Kids : List Int) (k8 kid : Int) (t57 : Bool) : R_s_addKids :=
  bif t57 then
    (c_s_reader_pick r_b r_p (len g_Nodes)).bind fun r65 =>
    chk (room n_Kids.length ([kid, r65.1.1]).length) <|
    jn (fun t => B_s_addKids_J2 k c_s_reader_one c_s_reader_pick c_s_isKey c_s_validGraph again3 t.1.1 t.1.2.1 t.2.1 t.2.2.1.1 t.2.2.1.2.1 t.2.2.2.1.2.1 t.2.2.2.2.1.1 t.2.2.2.2.1.2.1 t.2.2.2.2.1.2.2.1 t.2.2.2.2.2.1) ((r65.2.1.1, r65.2.1.2.1, ()), at2, (g_Nodes, g_Root, ()), ((), t6_Root, ()), (n_Kind, n_Value, (n_Kids ++ [kid, r65.1.1]), ()), k8, ())
  else
    jn (fun t => B_s_addKids_J2 k c_s_reader_one c_s_reader_pick c_s_isKey c_s_validGraph again3 t.1.1 t.1.2.1 t.2.1 t.2.2.1.1 t.2.2.1.2.1 t.2.2.2.1.2.1 t.2.2.2.2.1.1 t.2.2.2.2.1.2.1 t.2.2.2.2.1.2.2.1 t.2.2.2.2.2.1) ((r_b, r_p, ()), at2, (g_Nodes, g_Root, ()), ((), t6_Root, ()), (n_Kind, n_Value, n_Kids, ()), k8, ())
def B_s_addKids_J0 (k : Nat) (c_s_reader_one : C_s_reader_one) (c_s_reader_pick : C_s_reader_pick) (c_s_isKey : C_s_isKey) (c_s_validGraph : C_s_validGraph) (again3 : T_s_addKids_L3 → R_s_addKids) (r_b : List Int) (r_p at2 : Int) (g_Nodes : List (Int × Int × Option (List Int))) (g_Root t6_Root n_Kind n_Value : Int) (n_Kids : List Int) (k8 kid t29 : Int) (t30 : Bool) : R_s_addKids :=
  bif t30 then
    chk (room n_Kids.length ([kid]).length) <|
    jn (fun t => B_s_addKids_J2 k c_s_reader_one c_s_reader_pick c_s_isKey c_s_validGraph again3 t.1.1 t.1.2.1 t.2.1 t.2.2.1.1 t.2.2.1.2.1 t.2.2.2.1.2.1 t.2.2.2.2.1.1 t.2.2.2.2.1.2.1 t.2.2.2.2.1.2.2.1 t.2.2.2.2.2.1) ((r_b, r_p, ()), at2, (g_Nodes, g_Root, ()), ((), t6_Root, ()), (n_Kind, n_Value, (n_Kids ++ [kid]), ()), k8, ())
  else
    bif (t29 == 5) then
      jn (fun t => B_s_addKids_J2 k c_s_reader_one c_s_reader_pick c_s_isKey c_s_validGraph again3 t.1.1 t.1.2.1 t.2.1 t.2.2.1.1 t.2.2.1.2.1 t.2.2.2.1.2.1 t.2.2.2.2.1.1 t.2.2.2.2.1.2.1 t.2.2.2.2.1.2.2.1 t.2.2.2.2.2.1) ((r_b, r_p, ()), at2, (g_Nodes, g_Root, ()), ((), t6_Root, ()), (n_Kind, n_Value, [kid], ()), k8, ())
    else
      bif (t29 == 4) then
        bif decide ((len n_Kids) < 6) then
          chk (inb kid g_Nodes.length) <|
          chk (decide (kid.toNat < g_Nodes.length)) <|
          (c_s_isKey ((g_Nodes.getD kid.toNat ((0 : Int), ((0 : Int), (none : Option (List Int))))).1) (((g_Nodes.getD kid.toNat ((0 : Int), ((0 : Int), (none : Option (List Int))))).2).1)).bind fun r56 =>
          jn (fun t => B_s_addKids_J1 k c_s_reader_one c_s_reader_pick c_s_isKey c_s_validGraph again3 t.1.1 t.1.2.1 t.2.1 t.2.2.1.1 t.2.2.1.2.1 t.2.2.2.1.2.1 t.2.2.2.2.1.1 t.2.2.2.2.1.2.1 t.2.2.2.2.1.2.2.1 t.2.2.2.2.2.1 t.2.2.2.2.2.2.1 t.2.2.2.2.2.2.2.1) ((r_b, r_p, ()), at2, (g_Nodes, g_Root, ()), ((), t6_Root, ()), (n_Kind, n_Value, n_Kids, ()), k8, kid, r56.1.1, ())
        else
          jn (fun t => B_s_addKids_J1 k c_s_reader_one c_s_reader_pick c_s_isKey c_s_validGraph again3 t.1.1 t.1.2.1 t.2.1 t.2.2.1.1 t.2.2.1.2.1 t.2.2.2.1.2.1 t.2.2.2.2.1.1 t.2.2.2.2.1.2.1 t.2.2.2.2.1.2.2.1 t.2.2.2.2.2.1 t.2.2.2.2.2.2.1 t.2.2.2.2.2.2.2.1) ((r_b, r_p, ()), at2, (g_Nodes, g_Root, ()), ((), t6_Root, ()), (n_Kind, n_Value, n_Kids, ()), k8, kid, false, ())
      else
        jn (fun t => B_s_addKids_J2 k c_s_reader_one c_s_reader_pick c_s_isKey c_s_validGraph again3 t.1.1 t.1.2.1 t.2.1 t.2.2.1.1 t.2.2.1.2.1 t.2.2.2.1.2.1 t.2.2.2.2.1.1 t.2.2.2.2.1.2.1 t.2.2.2.2.1.2.2.1 t.2.2.2.2.2.1) ((r_b, r_p, ()), at2, (g_Nodes, g_Root, ()), ((), t6_Root, ()), (n_Kind, n_Value, n_Kids, ()), k8, ())
def B_s_addKids_J4 (k : Nat) (c_s_reader_one : C_s_reader_one) (c_s_reader_pick : C_s_reader_pick) (c_s_isKey : C_s_isKey) (c_s_validGraph : C_s_validGraph) (r_b : List Int) (r_p : Int) (g_Nodes : List (Int × Int × Option (List Int))) (g_Root t6_Root : Int) : R_s_addKids :=
  some (((g_Nodes, g_Root, ()), ()), ((r_b, r_p, ()), ()))
def B_s_addKids_L3b (k : Nat) (c_s_reader_one : C_s_reader_one) (c_s_reader_pick : C_s_reader_pick) (c_s_isKey : C_s_isKey) (c_s_validGraph : C_s_validGraph) (again3 : T_s_addKids_L3 → R_s_addKids) (r_b : List Int) (r_p at2 : Int) (g_Nodes : List (Int × Int × Option (List Int))) (g_Root t6_Root n_Kind n_Value : Int) (n_Kids : List Int) (k8 : Int) : R_s_addKids :=
  bif decide (k8 > 0) then
    (c_s_reader_pick r_b r_p (len g_Nodes)).bind fun r27 =>
    bif (n_Kind == 2) then
      jn (fun t => B_s_addKids_J0 k c_s_reader_one c_s_reader_pick c_s_isKey c_s_validGraph again3 t.1.1 t.1.2.1 t.2.1 t.2.2.1.1 t.2.2.1.2.1 t.2.2.2.1.2.1 t.2.2.2.2.1.1 t.2.2.2.2.1.2.1 t.2.2.2.2.1.2.2.1 t.2.2.2.2.2.1 t.2.2.2.2.2.2.1 t.2.2.2.2.2.2.2.1 t.2.2.2.2.2.2.2.2.1) ((r27.2.1.1, r27.2.1.2.1, ()), at2, (g_Nodes, g_Root, ()), ((), t6_Root, ()), (n_Kind, n_Value, n_Kids, ()), k8, r27.1.1, n_Kind, (n_Kind == 2), ())
    else
      jn (fun t => B_s_addKids_J0 k c_s_reader_one c_s_reader_pick c_s_isKey c_s_validGraph again3 t.1.1 t.1.2.1 t.2.1 t.2.2.1.1 t.2.2.1.2.1 t.2.2.2.1.2.1 t.2.2.2.2.1.1 t.2.2.2.2.1.2.1 t.2.2.2.2.1.2.2.1 t.2.2.2.2.2.1 t.2.2.2.2.2.2.1 t.2.2.2.2.2.2.2.1 t.2.2.2.2.2.2.2.2.1) ((r27.2.1.1, r27.2.1.2.1, ()), at2, (g_Nodes, g_Root, ()), ((), t6_Root, ()), (n_Kind, n_Value, n_Kids, ()), k8, r27.1.1, n_Kind, (n_Kind == 3), ())
  else
    chk (inb at2 g_Nodes.length) <|
    chk (decide (at2.toNat < g_Nodes.length)) <|
    chk (inb at2 g_Nodes.length) <|
    chk (decide (at2.toNat < g_Nodes.length)) <|
    (c_s_validGraph ((g_Nodes.set at2.toNat (n_Kind, (n_Value, (some n_Kids)))).map (fun p => (p.1, (p.2.1, p.2.2.getD [])))) g_Root).bind fun r80 =>
    bif (!r80.1.1) then
      chk (inb at2 (g_Nodes.set at2.toNat (n_Kind, (n_Value, (some n_Kids)))).length) <|
      chk (decide (at2.toNat < (g_Nodes.set at2.toNat (n_Kind, (n_Value, (some n_Kids)))).length)) <|
      jn (fun t => B_s_addKids_J4 k c_s_reader_one c_s_reader_pick c_s_isKey c_s_validGraph t.1.1 t.1.2.1 t.2.1.1 t.2.1.2.1 t.2.2.1.2.1) ((r_b, r_p, ()), (((g_Nodes.set at2.toNat (n_Kind, (n_Value, (some n_Kids)))).set at2.toNat ((g_Nodes.getD at2.toNat ((0 : Int), ((0 : Int), (none : Option (List Int))))).1, (((g_Nodes.getD at2.toNat ((0 : Int), ((0 : Int), (none : Option (List Int))))).2).1, ((g_Nodes.getD at2.toNat ((0 : Int), ((0 : Int), (none : Option (List Int))))).2).2))), g_Root, ()), ((), t6_Root, ()), ())
    else
      jn (fun t => B_s_addKids_J4 k c_s_reader_one c_s_reader_pick c_s_isKey c_s_validGraph t.1.1 t.1.2.1 t.2.1.1 t.2.1.2.1 t.2.2.1.2.1) ((r_b, r_p, ()), ((g_Nodes.set at2.toNat (n_Kind, (n_Value, (some n_Kids)))), g_Root, ()), ((), t6_Root, ()), ())
def B_s_addKids_L3 (k : Nat) (c_s_reader_one : C_s_reader_one) (c_s_reader_pick : C_s_reader_pick) (c_s_isKey : C_s_isKey) (c_s_validGraph : C_s_validGraph) (n : Nat) (t : T_s_addKids_L3) : R_s_addKids :=
  lfix n (fun again t => B_s_addKids_L3b k c_s_reader_one c_s_reader_pick c_s_isKey c_s_validGraph again t.1.1 t.1.2.1 t.2.1 t.2.2.1.1 t.2.2.1.2.1 t.2.2.2.1.2.1 t.2.2.2.2.1.1 t.2.2.2.2.1.2.1 t.2.2.2.2.1.2.2.1 t.2.2.2.2.2.1) t
def B_s_addKids (k : Nat) (c_s_reader_one : C_s_reader_one) (c_s_reader_pick : C_s_reader_pick) (c_s_isKey : C_s_isKey) (c_s_validGraph : C_s_validGraph) (r_b : List Int) (r_p : Int) (g_0 : List (Int × Int × Option (List Int))) (g_1 at2 : Int) : R_s_addKids :=
  chk (inb at2 g_0.length) <|
  chk (decide (at2.toNat < g_0.length)) <|
  (c_s_reader_one r_b r_p ([2, 1, 3, 0, 4])).bind fun r18 =>
  chk ((((g_0.getD at2.toNat ((0 : Int), ((0 : Int), (none : Option (List Int))))).2).2).isNone) <|
  B_s_addKids_L3 k c_s_reader_one c_s_reader_pick c_s_isKey c_s_validGraph k ((r18.2.1.1, r18.2.1.2.1, ()), at2, (g_0, g_1, ()), ((), 0, ()), ((g_0.getD at2.toNat ((0 : Int), ((0 : Int), (none : Option (List Int))))).1, ((g_0.getD at2.toNat ((0 : Int), ((0 : Int), (none : Option (List Int))))).2).1, [], ()), r18.1.1, ())
def F_s_addKids : Nat → C_s_addKids
  | 0, _, _, _, _, _ => none
  | k + 1, r_b, r_p, g_0, g_1, at2 => B_s_addKids k (F_s_reader_one k) (F_s_reader_pick k) (F_s_isKey k) (F_s_validGraph k) r_b r_p g_0 g_1 at2
theorem tot_s_addKids {r_b r_p g_0 g_1 at2 : _} {Q : _ → Prop} (h : Tot (fun σ => B_s_addKids (σ 0) (F_s_reader_one (σ 0)) (F_s_reader_pick (σ 0)) (F_s_isKey (σ 0)) (F_s_validGraph (σ 0)) r_b r_p g_0 g_1 at2) Q) : Tot (fun σ => F_s_addKids (σ 0) r_b r_p g_0 g_1 at2) Q :=
  Tot.call (F := fun k => F_s_addKids k r_b r_p g_0 g_1 at2) (B := fun k => B_s_addKids k (F_s_reader_one k) (F_s_reader_pick k) (F_s_isKey k) (F_s_validGraph k) r_b r_p g_0 g_1 at2) (fun k => rfl) h
abbrev A_s_addKids_L3 (Z : Type) : Type := List Int → Int → Int → (List (Int × Int × Option (List Int))) → Int → Int → Int → Int → List Int → Int → Z
abbrev u_s_addKids_L3 {Z : Type} (f : A_s_addKids_L3 Z) (t : T_s_addKids_L3) : Z := f t.1.1 t.1.2.1 t.2.1 t.2.2.1.1 t.2.2.1.2.1 t.2.2.2.1.2.1 t.2.2.2.2.1.1 t.2.2.2.2.1.2.1 t.2.2.2.2.1.2.2.1 t.2.2.2.2.2.1
theorem loop_s_addKids_L3 {Q : A_s_addKids_L3 (((((List (Int × Int × Option (List Int))) × Int × Unit) × Unit) × ((List Int × Int × Unit) × Unit)) → Prop)} (I : A_s_addKids_L3 Prop) (μ : A_s_addKids_L3 Nat)
    (step : ∀ a0 a1 a2 a3 a4 a5 a6 a7 a8 a9, I a0 a1 a2 a3 a4 a5 a6 a7 a8 a9 → ∀ again : (Nat → Nat) → T_s_addKids_L3 → R_s_addKids, Dep 2 again → (∀ y0 y1 y2 y3 y4 y5 y6 y7 y8 y9, I y0 y1 y2 y3 y4 y5 y6 y7 y8 y9 → μ y0 y1 y2 y3 y4 y5 y6 y7 y8 y9 < μ a0 a1 a2 a3 a4 a5 a6 a7 a8 a9 → Tot (fun σ => again σ ((y0, y1, ()), y2, (y3, y4, ()), ((), y5, ()), (y6, y7, y8, ()), y9, ())) (Q y0 y1 y2 y3 y4 y5 y6 y7 y8 y9)) →
      Tot (fun σ => B_s_addKids_L3b (σ 0) (F_s_reader_one (σ 0)) (F_s_reader_pick (σ 0)) (F_s_isKey (σ 0)) (F_s_validGraph (σ 0)) (again σ) a0 a1 a2 a3 a4 a5 a6 a7 a8 a9) (Q a0 a1 a2 a3 a4 a5 a6 a7 a8 a9)) :
    ∀ a0 a1 a2 a3 a4 a5 a6 a7 a8 a9, I a0 a1 a2 a3 a4 a5 a6 a7 a8 a9 → Tot (fun σ => B_s_addKids_L3 (σ 0) (F_s_reader_one (σ 0)) (F_s_reader_pick (σ 0)) (F_s_isKey (σ 0)) (F_s_validGraph (σ 0)) (σ 0) ((a0, a1, ()), a2, (a3, a4, ()), ((), a5, ()), (a6, a7, a8, ()), a9, ())) (Q a0 a1 a2 a3 a4 a5 a6 a7 a8 a9) := fun a0 a1 a2 a3 a4 a5 a6 a7 a8 a9 => Tot.loop0 (L := fun k => B_s_addKids_L3 k (F_s_reader_one k) (F_s_reader_pick k) (F_s_isKey k) (F_s_validGraph k)) (B := fun k g => u_s_addKids_L3 (B_s_addKids_L3b k (F_s_reader_one k) (F_s_reader_pick k) (F_s_isKey k) (F_s_validGraph k) g)) (Q := u_s_addKids_L3 Q) (fun _ _ _ => rfl) (u_s_addKids_L3 I) (u_s_addKids_L3 μ)
    (fun t ht again hag h => step t.1.1 t.1.2.1 t.2.1 t.2.2.1.1 t.2.2.1.2.1 t.2.2.2.1.2.1 t.2.2.2.2.1.1 t.2.2.2.2.1.2.1 t.2.2.2.2.1.2.2.1 t.2.2.2.2.2.1 ht again hag fun y0 y1 y2 y3 y4 y5 y6 y7 y8 y9 => h ((y0, y1, ()), y2, (y3, y4, ()), ((), y5, ()), (y6, y7, y8, ()), y9, ())) ((a0, a1, ()), a2, (a3, a4, ()), ((), a5, ()), (a6, a7, a8, ()), a9, ())
abbrev R_s_someGraph : Type := Option ((((List (Int × Int × List Int)) × Int × Unit) × Unit) × ((List Int × Int × Unit) × Unit))
abbrev C_s_someGraph : Type := List Int → Int → R_s_someGraph
abbrev T_s_someGraph_L1 : Type := (List Int × Int × Unit) × (Unit × Int × Unit) × ((List (Int × Int × Option (List Int))) × Int × Unit) × Int × Unit
abbrev T_s_someGraph_L0 : Type := (List Int × Int × Unit) × (Unit × Int × Unit) × ((List (Int × Int × Option (List Int))) × Int × Unit) × Int × Unit
def B_s_someGraph_J2 (k : Nat) (c_s_reader_one : C_s_reader_one) (c_s_someNode : C_s_someNode) (c_s_addKids : C_s_addKids) (c_s_reader_pick : C_s_reader_pick) (r_b : List Int) (r_p t2_Root : Int) (g_Nodes : List (Int × Int × Option (List Int))) (g_Root : Int) : R_s_someGraph :=
  some ((((g_Nodes.map (fun p => (p.1, (p.2.1, p.2.2.getD [])))), g_Root, ()), ()), ((r_b, r_p, ()), ()))
def B_s_someGraph_L1b (k : Nat) (c_s_reader_one : C_s_reader_one) (c_s_someNode : C_s_someNode) (c_s_addKids : C_s_addKids) (c_s_reader_pick : C_s_reader_pick) (again1 : T_s_someGraph_L1 → R_s_someGraph) (r_b : List Int) (r_p t2_Root : Int) (g_Nodes : List (Int × Int × Option (List Int))) (g_Root i : Int) : R_s_someGraph :=
  bif decide (i < (len g_Nodes)) then
    (c_s_addKids r_b r_p g_Nodes g_Root i).bind fun r36 =>
    again1 ((r36.2.1.1, r36.2.1.2.1, ()), ((), t2_Root, ()), (r36.1.1.1, r36.1.1.2.1, ()), w64 (i + 1), ())
  else
    (c_s_reader_pick r_b r_p 3).bind fun r38 =>
    bif (r38.1.1 == 0) then
      (c_s_reader_pick r38.2.1.1 r38.2.1.2.1 (len g_Nodes)).bind fun r44 =>
      jn (fun t => B_s_someGraph_J2 k c_s_reader_one c_s_someNode c_s_addKids c_s_reader_pick t.1.1 t.1.2.1 t.2.1.2.1 t.2.2.1.1 t.2.2.1.2.1) ((r44.2.1.1, r44.2.1.2.1, ()), ((), t2_Root, ()), (g_Nodes, r44.1.1, ()), ())
    else
      jn (fun t => B_s_someGraph_J2 k c_s_reader_one c_s_someNode c_s_addKids c_s_reader_pick t.1.1 t.1.2.1 t.2.1.2.1 t.2.2.1.1 t.2.2.1.2.1) ((r38.2.1.1, r38.2.1.2.1, ()), ((), t2_Root, ()), (g_Nodes, g_Root, ()), ())
def B_s_someGraph_L1 (k : Nat) (c_s_reader_one : C_s_reader_one) (c_s_someNode : C_s_someNode) (c_s_addKids : C_s_addKids) (c_s_reader_pick : C_s_reader_pick) (n : Nat) (t : T_s_someGraph_L1) : R_s_someGraph :=
  lfix n (fun again t => B_s_someGraph_L1b k c_s_reader_one c_s_someNode c_s_addKids c_s_reader_pick again t.1.1 t.1.2.1 t.2.1.2.1 t.2.2.1.1 t.2.2.1.2.1 t.2.2.2.1) t
def B_s_someGraph_L0b (k : Nat) (c_s_reader_one : C_s_reader_one) (c_s_someNode : C_s_someNode) (c_s_addKids : C_s_addKids) (c_s_reader_pick : C_s_reader_pick) (again0 : T_s_someGraph_L0 → R_s_someGraph) (r_b : List Int) (r_p t2_Root : Int) (g_Nodes : List (Int × Int × Option (List Int))) (g_Root n4 : Int) : R_s_someGraph :=
  bif decide (n4 > 0) then
    (c_s_someNode r_b r_p).bind fun r17 =>
    chk (room g_Nodes.length ([(r17.1.1.1, (r17.1.1.2.1, (none : Option (List Int))))]).length) <|
    again0 ((r17.2.1.1, r17.2.1.2.1, ()), ((), t2_Root, ()), ((g_Nodes ++ [(r17.1.1.1, (r17.1.1.2.1, (none : Option (List Int))))]), g_Root, ()), w64 (n4 - 1), ())
  else
    B_s_someGraph_L1 k c_s_reader_one c_s_someNode c_s_addKids c_s_reader_pick k ((r_b, r_p, ()), ((), t2_Root, ()), (g_Nodes, w64 ((len g_Nodes) - 1), ()), 0, ())
def B_s_someGraph_L0 (k : Nat) (c_s_reader_one : C_s_reader_one) (c_s_someNode : C_s_someNode) (c_s_addKids : C_s_addKids) (c_s_reader_pick : C_s_reader_pick) (n : Nat) (t : T_s_someGraph_L0) : R_s_someGraph :=
  lfix n (fun again t => B_s_someGraph_L0b k c_s_reader_one c_s_someNode c_s_addKids c_s_reader_pick again t.1.1 t.1.2.1 t.2.1.2.1 t.2.2.1.1 t.2.2.1.2.1 t.2.2.2.1) t
def B_s_someGraph (k : Nat) (c_s_reader_one : C_s_reader_one) (c_s_someNode : C_s_someNode) (c_s_addKids : C_s_addKids) (c_s_reader_pick : C_s_reader_pick) (r_b : List Int) (r_p : Int) : R_s_someGraph :=
  (c_s_reader_one r_b r_p ([5, 6, 4, 7, 3, 8, 1, 2, 10])).bind fun r9 =>
  B_s_someGraph_L0 k c_s_reader_one c_s_someNode c_s_addKids c_s_reader_pick k ((r9.2.1.1, r9.2.1.2.1, ()), ((), 0, ()), ([], 0, ()), r9.1.1, ())
def F_s_someGraph : Nat → C_s_someGraph
  | 0, _, _ => none
  | k + 1, r_b, r_p => B_s_someGraph k (F_s_reader_one k) (F_s_someNode k) (F_s_addKids k) (F_s_reader_pick k) r_b r_p
theorem tot_s_someGraph {r_b r_p : _} {Q : _ → Prop} (h : Tot (fun σ => B_s_someGraph (σ 0) (F_s_reader_one (σ 0)) (F_s_someNode (σ 0)) (F_s_addKids (σ 0)) (F_s_reader_pick (σ 0)) r_b r_p) Q) : Tot (fun σ => F_s_someGraph (σ 0) r_b r_p) Q :=
  Tot.call (F := fun k => F_s_someGraph k r_b r_p) (B := fun k => B_s_someGraph k (F_s_reader_one k) (F_s_someNode k) (F_s_addKids k) (F_s_reader_pick k) r_b r_p) (fun k => rfl) h
abbrev A_s_someGraph_L1 (Z : Type) : Type := List Int → Int → Int → (List (Int × Int × Option (List Int))) → Int → Int → Z
abbrev u_s_someGraph_L1 {Z : Type} (f : A_s_someGraph_L1 Z) (t : T_s_someGraph_L1) : Z := f t.1.1 t.1.2.1 t.2.1.2.1 t.2.2.1.1 t.2.2.1.2.1 t.2.2.2.1
theorem loop_s_someGraph_L1 {Q : A_s_someGraph_L1 (((((List (Int × Int × List Int)) × Int × Unit) × Unit) × ((List Int × Int × Unit) × Unit)) → Prop)} (I : A_s_someGraph_L1 Prop) (μ : A_s_someGraph_L1 Nat)
    (step : ∀ a0 a1 a2 a3 a4 a5, I a0 a1 a2 a3 a4 a5 → ∀ again : (Nat → Nat) → T_s_someGraph_L1 → R_s_someGraph, Dep 2 again → (∀ y0 y1 y2 y3 y4 y5, I y0 y1 y2 y3 y4 y5 → μ y0 y1 y2 y3 y4 y5 < μ a0 a1 a2 a3 a4 a5 → Tot (fun σ => again σ ((y0, y1, ()), ((), y2, ()), (y3, y4, ()), y5, ())) (Q y0 y1 y2 y3 y4 y5)) →
      Tot (fun σ => B_s_someGraph_L1b (σ 0) (F_s_reader_one (σ 0)) (F_s_someNode (σ 0)) (F_s_addKids (σ 0)) (F_s_reader_pick (σ 0)) (again σ) a0 a1 a2 a3 a4 a5) (Q a0 a1 a2 a3 a4 a5)) :
    ∀ a0 a1 a2 a3 a4 a5, I a0 a1 a2 a3 a4 a5 → Tot (fun σ => B_s_someGraph_L1 (σ 0) (F_s_reader_one (σ 0)) (F_s_someNode (σ 0)) (F_s_addKids (σ 0)) (F_s_reader_pick (σ 0)) (σ 0) ((a0, a1, ()), ((), a2, ()), (a3, a4, ()), a5, ())) (Q a0 a1 a2 a3 a4 a5) := fun a0 a1 a2 a3 a4 a5 => Tot.loop0 (L := fun k => B_s_someGraph_L1 k (F_s_reader_one k) (F_s_someNode k) (F_s_addKids k) (F_s_reader_pick k)) (B := fun k g => u_s_someGraph_L1 (B_s_someGraph_L1b k (F_s_reader_one k) (F_s_someNode k) (F_s_addKids k) (F_s_reader_pick k) g)) (Q := u_s_someGraph_L1 Q) (fun _ _ _ => rfl) (u_s_someGraph_L1 I) (u_s_someGraph_L1 μ)
    (fun t ht again hag h => step t.1.1 t.1.2.1 t.2.1.2.1 t.2.2.1.1 t.2.2.1.2.1 t.2.2.2.1 ht again hag fun y0 y1 y2 y3 y4 y5 => h ((y0, y1, ()), ((), y2, ()), (y3, y4, ()), y5, ())) ((a0, a1, ()), ((), a2, ()), (a3, a4, ()), a5, ())
abbrev A_s_someGraph_L0 (Z : Type) : Type := List Int → Int → Int → (List (Int × Int × Option (List Int))) → Int → Int → Z
abbrev u_s_someGraph_L0 {Z : Type} (f : A_s_someGraph_L0 Z) (t : T_s_someGraph_L0) : Z := f t.1.1 t.1.2.1 t.2.1.2.1 t.2.2.1.1 t.2.2.1.2.1 t.2.2.2.1
theorem loop_s_someGraph_L0 {Q : A_s_someGraph_L0 (((((List (Int × Int × List Int)) × Int × Unit) × Unit) × ((List Int × Int × Unit) × Unit)) → Prop)} (I : A_s_someGraph_L0 Prop) (μ : A_s_someGraph_L0 Nat)
    (step : ∀ a0 a1 a2 a3 a4 a5, I a0 a1 a2 a3 a4 a5 → ∀ again : (Nat → Nat) → T_s_someGraph_L0 → R_s_someGraph, Dep 2 again → (∀ y0 y1 y2 y3 y4 y5, I y0 y1 y2 y3 y4 y5 → μ y0 y1 y2 y3 y4 y5 < μ a0 a1 a2 a3 a4 a5 → Tot (fun σ => again σ ((y0, y1, ()), ((), y2, ()), (y3, y4, ()), y5, ())) (Q y0 y1 y2 y3 y4 y5)) →
      Tot (fun σ => B_s_someGraph_L0b (σ 0) (F_s_reader_one (σ 0)) (F_s_someNode (σ 0)) (F_s_addKids (σ 0)) (F_s_reader_pick (σ 0)) (again σ) a0 a1 a2 a3 a4 a5) (Q a0 a1 a2 a3 a4 a5)) :
    ∀ a0 a1 a2 a3 a4 a5, I a0 a1 a2 a3 a4 a5 → Tot (fun σ => B_s_someGraph_L0 (σ 0) (F_s_reader_one (σ 0)) (F_s_someNode (σ 0)) (F_s_addKids (σ 0)) (F_s_reader_pick (σ 0)) (σ 0) ((a0, a1, ()), ((), a2, ()), (a3, a4, ()), a5, ())) (Q a0 a1 a2 a3 a4 a5) := fun a0 a1 a2 a3 a4 a5 => Tot.loop0 (L := fun k => B_s_someGraph_L0 k (F_s_reader_one k) (F_s_someNode k) (F_s_addKids k) (F_s_reader_pick k)) (B := fun k g => u_s_someGraph_L0 (B_s_someGraph_L0b k (F_s_reader_one k) (F_s_someNode k) (F_s_addKids k) (F_s_reader_pick k) g)) (Q := u_s_someGraph_L0 Q) (fun _ _ _ => rfl) (u_s_someGraph_L0 I) (u_s_someGraph_L0 μ)
    (fun t ht again hag h => step t.1.1 t.1.2.1 t.2.1.2.1 t.2.2.1.1 t.2.2.1.2.1 t.2.2.2.1 ht again hag fun y0 y1 y2 y3 y4 y5 => h ((y0, y1, ()), ((), y2, ()), (y3, y4, ()), y5, ())) ((a0, a1, ()), ((), a2, ()), (a3, a4, ()), a5, ())
abbrev R_s_emptyMemo : Type := Option ((List Int × Unit) × (Unit))
abbrev C_s_emptyMemo : Type := (List (Int × Int × List Int)) → Int → R_s_emptyMemo
abbrev T_s_emptyMemo_L0 : Type := ((List (Int × Int × List Int)) × Int × Unit) × List Int × Int × Unit
def B_s_emptyMemo_L0b (k : Nat) (again0 : T_s_emptyMemo_L0 → R_s_emptyMemo) (g_Nodes : List (Int × Int × List Int)) (g_Root : Int) (out : List Int) (i : Int) : R_s_emptyMemo :=
  bif decide (i < (len g_Nodes)) then
    chk (room out.length ([(-1)]).length) <|
    again0 ((g_Nodes, g_Root, ()), (out ++ [(-1)]), w64 (i + 1), ())
  else
    some ((out, ()), ())
def B_s_emptyMemo_L0 (k : Nat) (n : Nat) (t : T_s_emptyMemo_L0) : R_s_emptyMemo :=
  lfix n (fun again t => B_s_emptyMemo_L0b k again t.1.1 t.1.2.1 t.2.1 t.2.2.1) t
def B_s_emptyMemo (k : Nat) (g_0 : List (Int × Int × List Int)) (g_1 : Int) : R_s_emptyMemo :=
  B_s_emptyMemo_L0 k k ((g_0, g_1, ()), [], 0, ())
def F_s_emptyMemo : Nat → C_s_emptyMemo
  | 0, _, _ => none
  | k + 1, g_0, g_1 => B_s_emptyMemo k g_0 g_1
theorem tot_s_emptyMemo {g_0 g_1 : _} {Q : _ → Prop} (h : Tot (fun σ => B_s_emptyMemo (σ 0) g_0 g_1) Q) : Tot (fun σ => F_s_emptyMemo (σ 0) g_0 g_1) Q :=
  Tot.call (F := fun k => F_s_emptyMemo k g_0 g_1) (B := fun k => B_s_emptyMemo k g_0 g_1) (fun k => rfl) h
abbrev A_s_emptyMemo_L0 (Z : Type) : Type := (List (Int × Int × List Int)) → Int → List Int → Int → Z
abbrev u_s_emptyMemo_L0 {Z : Type} (f : A_s_emptyMemo_L0 Z) (t : T_s_emptyMemo_L0) : Z := f t.1.1 t.1.2.1 t.2.1 t.2.2.1
theorem loop_s_emptyMemo_L0 {Q : A_s_emptyMemo_L0 (((List Int × Unit) × (Unit)) → Prop)} (I : A_s_emptyMemo_L0 Prop) (μ : A_s_emptyMemo_L0 Nat)
    (step : ∀ a0 a1 a2 a3, I a0 a1 a2 a3 → ∀ again : (Nat → Nat) → T_s_emptyMemo_L0 → R_s_emptyMemo, Dep 2 again → (∀ y0 y1 y2 y3, I y0 y1 y2 y3 → μ y0 y1 y2 y3 < μ a0 a1 a2 a3 → Tot (fun σ => again σ ((y0, y1, ()), y2, y3, ())) (Q y0 y1 y2 y3)) →
      Tot (fun σ => B_s_emptyMemo_L0b (σ 0) (again σ) a0 a1 a2 a3) (Q a0 a1 a2 a3)) :
    ∀ a0 a1 a2 a3, I a0 a1 a2 a3 → Tot (fun σ => B_s_emptyMemo_L0 (σ 0) (σ 0) ((a0, a1, ()), a2, a3, ())) (Q a0 a1 a2 a3) := fun a0 a1 a2 a3 => Tot.loop0 (L := fun k => B_s_emptyMemo_L0 k) (B := fun k g => u_s_emptyMemo_L0 (B_s_emptyMemo_L0b k g)) (Q := u_s_emptyMemo_L0 Q) (fun _ _ _ => rfl) (u_s_emptyMemo_L0 I) (u_s_emptyMemo_L0 μ)
    (fun t ht again hag h => step t.1.1 t.1.2.1 t.2.1 t.2.2.1 ht again hag fun y0 y1 y2 y3 => h ((y0, y1, ()), y2, y3, ())) ((a0, a1, ()), a2, a3, ())
abbrev R_s_emit : Type := Option (((List (Int × Int)) × Unit) × (Unit))
abbrev C_s_emit : Type := (List (Int × Int)) → (List (Int × Int)) → R_s_emit
def B_s_emit (k : Nat) (ops more1 : List (Int × Int)) : R_s_emit :=
  chk (room ([] : List (Int × Int)).length ops.length) <|
  chk (room ops.length more1.length) <|
  some (((ops ++ more1), ()), ())
def F_s_emit : Nat → C_s_emit
  | 0, _, _ => none
  | k + 1, ops, more1 => B_s_emit k ops more1
theorem tot_s_emit {ops more1 : _} {Q : _ → Prop} (h : Tot (fun σ => B_s_emit (σ 0) ops more1) Q) : Tot (fun σ => F_s_emit (σ 0) ops more1) Q :=
  Tot.call (F := fun k => F_s_emit k ops more1) (B := fun k => B_s_emit k ops more1) (fun k => rfl) h
abbrev R_s_memoed : Type := Option (((List (Int × Int)) × List Int × Unit) × (Unit))
abbrev C_s_memoed : Type := (List (Int × Int)) → List Int → Int → R_s_memoed
abbrev T_s_memoed_L1 : Type := (List (Int × Int)) × List Int × Int × Int × Int × Unit
def B_s_memoed_J0 (k : Nat) (c_s_copyInts : C_s_copyInts) (c_s_emit : C_s_emit) (again1 : T_s_memoed_L1 → R_s_memoed) (ops : List (Int × Int)) (memo : List Int) (at2 next i : Int) : R_s_memoed :=
  again1 (ops, memo, at2, next, w64 (i + 1), ())
def B_s_memoed_L1b (k : Nat) (c_s_copyInts : C_s_copyInts) (c_s_emit : C_s_emit) (again1 : T_s_memoed_L1 → R_s_memoed) (ops : List (Int × Int)) (memo : List Int) (at2 next i : Int) : R_s_memoed :=
  bif decide (i < (len memo)) then
    chk (inb i memo.length) <|
    bif decide ((rdx (0 : Int) memo i) ≥ 0) then
      jn (fun t => B_s_memoed_J0 k c_s_copyInts c_s_emit again1 t.1 t.2.1 t.2.2.1 t.2.2.2.1 t.2.2.2.2.1) (ops, memo, at2, w64 (next + 1), i, ())
    else
      jn (fun t => B_s_memoed_J0 k c_s_copyInts c_s_emit again1 t.1 t.2.1 t.2.2.1 t.2.2.2.1 t.2.2.2.2.1) (ops, memo, at2, next, i, ())
  else
    (c_s_copyInts memo).bind fun r24 =>
    chk (inb at2 r24.1.1.length) <|
    chk (decide (at2.toNat < r24.1.1.length)) <|
    (c_s_emit ops ([(15, next)])).bind fun r33 =>
    some ((r33.1.1, (r24.1.1.set at2.toNat next), ()), ())
def B_s_memoed_L1 (k : Nat) (c_s_copyInts : C_s_copyInts) (c_s_emit : C_s_emit) (n : Nat) (t : T_s_memoed_L1) : R_s_memoed :=
  lfix n (fun again t => B_s_memoed_L1b k c_s_copyInts c_s_emit again t.1 t.2.1 t.2.2.1 t.2.2.2.1 t.2.2.2.2.1) t
def B_s_memoed (k : Nat) (c_s_copyInts : C_s_copyInts) (c_s_emit : C_s_emit) (ops : List (Int × Int)) (memo : List Int) (at2 : Int) : R_s_memoed :=
  B_s_memoed_L1 k c_s_copyInts c_s_emit k (ops, memo, at2, 0, 0, ())
def F_s_memoed : Nat → C_s_memoed
  | 0, _, _, _ => none
  | k + 1, ops, memo, at2 => B_s_memoed k (F_s_copyInts k) (F_s_emit k) ops memo at2
theorem tot_s_memoed {ops memo at2 : _} {Q : _ → Prop} (h : Tot (fun σ => B_s_memoed (σ 0) (F_s_copyInts (σ 0)) (F_s_emit (σ 0)) ops memo at2) Q) : Tot (fun σ => F_s_memoed (σ 0) ops memo at2) Q :=
  Tot.call (F := fun k => F_s_memoed k ops memo at2) (B := fun k => B_s_memoed k (F_s_copyInts k) (F_s_emit k) ops memo at2) (fun k => rfl) h
abbrev A_s_memoed_L1 (Z : Type) : Type := (List (Int × Int)) → List Int → Int → Int → Int → Z
abbrev u_s_memoed_L1 {Z : Type} (f : A_s_memoed_L1 Z) (t : T_s_memoed_L1) : Z := f t.1 t.2.1 t.2.2.1 t.2.2.2.1 t.2.2.2.2.1
theorem loop_s_memoed_L1 {Q : A_s_memoed_L1 ((((List (Int × Int)) × List Int × Unit) × (Unit)) → Prop)} (I : A_s_memoed_L1 Prop) (μ : A_s_memoed_L1 Nat)
    (step : ∀ a0 a1 a2 a3 a4, I a0 a1 a2 a3 a4 → ∀ again : (Nat → Nat) → T_s_memoed_L1 → R_s_memoed, Dep 2 again → (∀ y0 y1 y2 y3 y4, I y0 y1 y2 y3 y4 → μ y0 y1 y2 y3 y4 < μ a0 a1 a2 a3 a4 → Tot (fun σ => again σ (y0, y1, y2, y3, y4, ())) (Q y0 y1 y2 y3 y4)) →
      Tot (fun σ => B_s_memoed_L1b (σ 0) (F_s_copyInts (σ 0)) (F_s_emit (σ 0)) (again σ) a0 a1 a2 a3 a4) (Q a0 a1 a2 a3 a4)) :
    ∀ a0 a1 a2 a3 a4, I a0 a1 a2 a3 a4 → Tot (fun σ => B_s_memoed_L1 (σ 0) (F_s_copyInts (σ 0)) (F_s_emit (σ 0)) (σ 0) (a0, a1, a2, a3, a4, ())) (Q a0 a1 a2 a3 a4) := fun a0 a1 a2 a3 a4 => Tot.loop0 (L := fun k => B_s_memoed_L1 k (F_s_copyInts k) (F_s_emit k)) (B := fun k g => u_s_memoed_L1 (B_s_memoed_L1b k (F_s_copyInts k) (F_s_emit k) g)) (Q := u_s_memoed_L1 Q) (fun _ _ _ => rfl) (u_s_memoed_L1 I) (u_s_memoed_L1 μ)
    (fun t ht again hag h => step t.1 t.2.1 t.2.2.1 t.2.2.2.1 t.2.2.2.2.1 ht again hag fun y0 y1 y2 y3 y4 => h (y0, y1, y2, y3, y4, ())) (a0, a1, a2, a3, a4, ())
abbrev R_s_saveAll : Type := Option (((List (Int × Int)) × List Int × Unit) × (Unit))
abbrev C_s_saveAll : Type := (List (Int × Int × List Int)) → Int → Int → List Int → (List (Int × Int)) → List Int → R_s_saveAll
abbrev R_s_saveTuple : Type := Option (((List (Int × Int)) × List Int × Unit) × (Unit))
abbrev C_s_saveTuple : Type := (List (Int × Int × List Int)) → Int → Int → Int → (List (Int × Int)) → List Int → R_s_saveTuple
abbrev R_s_fill : Type := Option (((List (Int × Int)) × List Int × Unit) × (Unit))
abbrev C_s_fill : Type := (List (Int × Int × List Int)) → Int → Int → List Int → Int → Int → Int → (List (Int × Int)) → List Int → R_s_fill
abbrev R_s_save : Type := Option (((List (Int × Int)) × List Int × Unit) × (Unit))
abbrev C_s_save : Type := (List (Int × Int × List Int)) → Int → Int → Int → (List (Int × Int)) → List Int → R_s_save
abbrev T_s_saveAll_L0 : Type := Int × List Int × (List (Int × Int)) × List Int × ((List (Int × Int × List Int)) × Int × Unit) × Int × Unit
def B_s_saveAll_L0b (k : Nat) (c_s_save : C_s_save) (again0 : T_s_saveAll_L0 → R_s_saveAll) (level : Int) (list : List Int) (ops : List (Int × Int)) (memo : List Int) (g_Nodes : List (Int × Int × List Int)) (g_Root i : Int) : R_s_saveAll :=
  bif decide (i < (len list)) then
    chk (inb i list.length) <|
    (c_s_save g_Nodes g_Root level (rdx (0 : Int) list i) ops memo).bind fun r28 =>
    again0 (level, list, r28.1.1, r28.1.2.1, (g_Nodes, g_Root, ()), w64 (i + 1), ())
  else
    some ((ops, memo, ()), ())
def B_s_saveAll_L0 (k : Nat) (c_s_save : C_s_save) (n : Nat) (t : T_s_saveAll_L0) : R_s_saveAll :=
  lfix n (fun again t => B_s_saveAll_L0b k c_s_save again t.1 t.2.1 t.2.2.1 t.2.2.2.1 t.2.2.2.2.1.1 t.2.2.2.2.1.2.1 t.2.2.2.2.2.1) t
def B_s_saveAll (k : Nat) (c_s_save : C_s_save) (g_0 : List (Int × Int × List Int)) (g_1 level : Int) (list : List Int) (ops : List (Int × Int)) (memo : List Int) : R_s_saveAll :=
  B_s_saveAll_L0 k c_s_save k (level, list, ops, memo, (g_0, g_1, ()), 0, ())
abbrev T_s_saveTuple_L3 : Type := Int × (List (Int × Int)) × List Int × List Int × Bool × Int × Unit
def B_s_saveTuple_J4 (k : Nat) (c_s_emit : C_s_emit) (c_s_memoed : C_s_memoed) (c_s_saveAll : C_s_saveAll) (at2 : Int) (ops : List (Int × Int)) (memo : List Int) : R_s_saveTuple :=
  chk (inb at2 memo.length) <|
  (c_s_emit ops ([(16, (rdx (0 : Int) memo at2))])).bind fun r87 =>
  some ((r87.1.1, memo, ()), ())
def B_s_saveTuple_J2 (k : Nat) (c_s_emit : C_s_emit) (c_s_memoed : C_s_memoed) (c_s_saveAll : C_s_saveAll) (again3 : T_s_saveTuple_L3 → R_s_saveTuple) (at2 : Int) (ops : List (Int × Int)) (memo kids : List Int) (short : Bool) (i : Int) (t67 : Bool) : R_s_saveTuple :=
  bif t67 then
    (c_s_emit ops ([(17, 0)])).bind fun r73 =>
    again3 (at2, r73.1.1, memo, kids, short, w64 (i + 1), ())
  else
    bif (!short) then
      (c_s_emit ops ([(18, 0)])).bind fun r79 =>
      jn (fun t => B_s_saveTuple_J4 k c_s_emit c_s_memoed c_s_saveAll t.1 t.2.1 t.2.2.1) (at2, r79.1.1, memo, ())
    else
      jn (fun t => B_s_saveTuple_J4 k c_s_emit c_s_memoed c_s_saveAll t.1 t.2.1 t.2.2.1) (at2, ops, memo, ())
def B_s_saveTuple_L3b (k : Nat) (c_s_emit : C_s_emit) (c_s_memoed : C_s_memoed) (c_s_saveAll : C_s_saveAll) (again3 : T_s_saveTuple_L3 → R_s_saveTuple) (at2 : Int) (ops : List (Int × Int)) (memo kids : List Int) (short : Bool) (i : Int) : R_s_saveTuple :=
  bif decide (i < (len kids)) then
    jn (fun t => B_s_saveTuple_J2 k c_s_emit c_s_memoed c_s_saveAll again3 t.1 t.2.1 t.2.2.1 t.2.2.2.1 t.2.2.2.2.1 t.2.2.2.2.2.1 t.2.2.2.2.2.2.1) (at2, ops, memo, kids, short, i, short, ())
  else
    jn (fun t => B_s_saveTuple_J2 k c_s_emit c_s_memoed c_s_saveAll again3 t.1 t.2.1 t.2.2.1 t.2.2.2.1 t.2.2.2.2.1 t.2.2.2.2.2.1 t.2.2.2.2.2.2.1) (at2, ops, memo, kids, short, i, false, ())
def B_s_saveTuple_L3 (k : Nat) (c_s_emit : C_s_emit) (c_s_memoed : C_s_memoed) (c_s_saveAll : C_s_saveAll) (n : Nat) (t : T_s_saveTuple_L3) : R_s_saveTuple :=
  lfix n (fun again t => B_s_saveTuple_L3b k c_s_emit c_s_memoed c_s_saveAll again t.1 t.2.1 t.2.2.1 t.2.2.2.1 t.2.2.2.2.1 t.2.2.2.2.2.1) t
def B_s_saveTuple_J5 (k : Nat) (c_s_emit : C_s_emit) (c_s_memoed : C_s_memoed) (c_s_saveAll : C_s_saveAll) (at2 : Int) (ops : List (Int × Int)) (memo : List Int) (c : Int) : R_s_saveTuple :=
  (c_s_emit ops ([(c, 0)])).bind fun r97 =>
  (c_s_memoed r97.1.1 memo at2).bind fun r100 =>
  some ((r100.1.1, r100.1.2.1, ()), ())
def B_s_saveTuple_J1 (k : Nat) (c_s_emit : C_s_emit) (c_s_memoed : C_s_memoed) (c_s_saveAll : C_s_saveAll) (level at2 : Int) (ops : List (Int × Int)) (memo : List Int) (g_Nodes : List (Int × Int × List Int)) (g_Root : Int) (kids : List Int) (short : Bool) : R_s_saveTuple :=
  (c_s_saveAll g_Nodes g_Root level kids ops memo).bind fun r53 =>
  chk (inb at2 r53.1.2.1.length) <|
  bif decide ((rdx (0 : Int) r53.1.2.1 at2) ≥ 0) then
    B_s_saveTuple_L3 k c_s_emit c_s_memoed c_s_saveAll k (at2, r53.1.1, r53.1.2.1, kids, short, 0, ())
  else
    bif short then
      jn (fun t => B_s_saveTuple_J5 k c_s_emit c_s_memoed c_s_saveAll t.1 t.2.1 t.2.2.1 t.2.2.2.1) (at2, r53.1.1, r53.1.2.1, w64 (4 + (len kids)), ())
    else
      jn (fun t => B_s_saveTuple_J5 k c_s_emit c_s_memoed c_s_saveAll t.1 t.2.1 t.2.2.1 t.2.2.2.1) (at2, r53.1.1, r53.1.2.1, 3, ())
def B_s_saveTuple_J0 (k : Nat) (c_s_emit : C_s_emit) (c_s_memoed : C_s_memoed) (c_s_saveAll : C_s_saveAll) (level at2 : Int) (ops : List (Int × Int)) (memo : List Int) (g_Nodes : List (Int × Int × List Int)) (g_Root : Int) (kids : List Int) (short : Bool) : R_s_saveTuple :=
  bif (!short) then
    (c_s_emit ops ([(2, 0)])).bind fun r46 =>
    jn (fun t => B_s_saveTuple_J1 k c_s_emit c_s_memoed c_s_saveAll t.1 t.2.1 t.2.2.1 t.2.2.2.1 t.2.2.2.2.1.1 t.2.2.2.2.1.2.1 t.2.2.2.2.2.1 t.2.2.2.2.2.2.1) (level, at2, r46.1.1, memo, (g_Nodes, g_Root, ()), kids, short, ())
  else
    jn (fun t => B_s_saveTuple_J1 k c_s_emit c_s_memoed c_s_saveAll t.1 t.2.1 t.2.2.1 t.2.2.2.1 t.2.2.2.2.1.1 t.2.2.2.2.1.2.1 t.2.2.2.2.2.1 t.2.2.2.2.2.2.1) (level, at2, ops, memo, (g_Nodes, g_Root, ()), kids, short, ())
def B_s_saveTuple (k : Nat) (c_s_emit : C_s_emit) (c_s_memoed : C_s_memoed) (c_s_saveAll : C_s_saveAll) (g_0 : List (Int × Int × List Int)) (g_1 level at2 : Int) (ops : List (Int × Int)) (memo : List Int) : R_s_saveTuple :=
  chk (inb at2 g_0.length) <|
  bif ((len (((rdx ((0 : Int), ((0 : Int), ([] : List Int))) g_0 at2).2).2)) == 0) then
    (c_s_emit ops ([(4, 0)])).bind fun r28 =>
    (c_s_memoed r28.1.1 memo at2).bind fun r31 =>
    some ((r31.1.1, r31.1.2.1, ()), ())
  else
    bif decide (level > 0) then
      jn (fun t => B_s_saveTuple_J0 k c_s_emit c_s_memoed c_s_saveAll t.1 t.2.1 t.2.2.1 t.2.2.2.1 t.2.2.2.2.1.1 t.2.2.2.2.1.2.1 t.2.2.2.2.2.1 t.2.2.2.2.2.2.1) (level, at2, ops, memo, (g_0, g_1, ()), ((rdx ((0 : Int), ((0 : Int), ([] : List Int))) g_0 at2).2).2, decide ((len (((rdx ((0 : Int), ((0 : Int), ([] : List Int))) g_0 at2).2).2)) ≤ 2), ())
    else
      jn (fun t => B_s_saveTuple_J0 k c_s_emit c_s_memoed c_s_saveAll t.1 t.2.1 t.2.2.1 t.2.2.2.1 t.2.2.2.2.1.1 t.2.2.2.2.1.2.1 t.2.2.2.2.2.1 t.2.2.2.2.2.2.1) (level, at2, ops, memo, (g_0, g_1, ()), ((rdx ((0 : Int), ((0 : Int), ([] : List Int))) g_0 at2).2).2, false, ())
abbrev T_s_fill_L1 : Type := Int × List Int × Int × Int × (List (Int × Int)) × List Int × ((List (Int × Int × List Int)) × Int × Unit) × Int × Unit
def B_s_fill_L1b (k : Nat) (c_s_emit : C_s_emit) (c_s_saveAll : C_s_saveAll) (again1 : T_s_fill_L1 → R_s_fill) (level : Int) (kids : List Int) (each one : Int) (ops : List (Int × Int)) (memo : List Int) (g_Nodes : List (Int × Int × List Int)) (g_Root i : Int) : R_s_fill :=
  bif decide (i < (len kids)) then
    chk (cutb i (w64 (i + each)) kids.length) <|
    (c_s_saveAll g_Nodes g_Root level (sub kids i (w64 (i + each))) ops memo).bind fun r64 =>
    (c_s_emit r64.1.1 ([(one, 0)])).bind fun r71 =>
    again1 (level, kids, each, one, r71.1.1, r64.1.2.1, (g_Nodes, g_Root, ()), w64 (i + each), ())
  else
    some ((ops, memo, ()), ())
def B_s_fill_L1 (k : Nat) (c_s_emit : C_s_emit) (c_s_saveAll : C_s_saveAll) (n : Nat) (t : T_s_fill_L1) : R_s_fill :=
  lfix n (fun again t => B_s_fill_L1b k c_s_emit c_s_saveAll again t.1 t.2.1 t.2.2.1 t.2.2.2.1 t.2.2.2.2.1 t.2.2.2.2.2.1 t.2.2.2.2.2.2.1.1 t.2.2.2.2.2.2.1.2.1 t.2.2.2.2.2.2.2.1) t
def B_s_fill_J0 (k : Nat) (c_s_emit : C_s_emit) (c_s_saveAll : C_s_saveAll) (level : Int) (kids : List Int) (each one all : Int) (ops : List (Int × Int)) (memo : List Int) (g_Nodes : List (Int × Int × List Int)) (g_Root : Int) (t26 : Bool) : R_s_fill :=
  bif t26 then
    (c_s_emit ops ([(2, 0)])).bind fun r30 =>
    (c_s_saveAll g_Nodes g_Root level kids r30.1.1 memo).bind fun r37 =>
    (c_s_emit r37.1.1 ([(all, 0)])).bind fun r44 =>
    some ((r44.1.1, r37.1.2.1, ()), ())
  else
    B_s_fill_L1 k c_s_emit c_s_saveAll k (level, kids, each, one, ops, memo, (g_Nodes, g_Root, ()), 0, ())
def B_s_fill (k : Nat) (c_s_emit : C_s_emit) (c_s_saveAll : C_s_saveAll) (g_0 : List (Int × Int × List Int)) (g_1 level : Int) (kids : List Int) (each one all : Int) (ops : List (Int × Int)) (memo : List Int) : R_s_fill :=
  bif decide (level > 0) then
    jn (fun t => B_s_fill_J0 k c_s_emit c_s_saveAll t.1 t.2.1 t.2.2.1 t.2.2.2.1 t.2.2.2.2.1 t.2.2.2.2.2.1 t.2.2.2.2.2.2.1 t.2.2.2.2.2.2.2.1.1 t.2.2.2.2.2.2.2.1.2.1 t.2.2.2.2.2.2.2.2.1) (level, kids, each, one, all, ops, memo, (g_0, g_1, ()), decide ((len kids) > each), ())
  else
    jn (fun t => B_s_fill_J0 k c_s_emit c_s_saveAll t.1 t.2.1 t.2.2.1 t.2.2.2.1 t.2.2.2.2.1 t.2.2.2.2.2.1 t.2.2.2.2.2.2.1 t.2.2.2.2.2.2.2.1.1 t.2.2.2.2.2.2.2.1.2.1 t.2.2.2.2.2.2.2.2.1) (level, kids, each, one, all, ops, memo, (g_0, g_1, ()), false, ())
def B_s_save_J0 (k : Nat) (c_s_emit : C_s_emit) (c_s_memoed : C_s_memoed) (c_s_saveTuple : C_s_saveTuple) (c_s_fill : C_s_fill) (c_s_saveAll : C_s_saveAll) (ops : List (Int × Int)) (memo : List Int) : R_s_save :=
  some ((ops, memo, ()), ())
def B_s_save (k : Nat) (c_s_emit : C_s_emit) (c_s_memoed : C_s_memoed) (c_s_saveTuple : C_s_saveTuple) (c_s_fill : C_s_fill) (c_s_saveAll : C_s_saveAll) (g_0 : List (Int × Int × List Int)) (g_1 level at2 : Int) (ops : List (Int × Int)) (memo : List Int) : R_s_save :=
  chk (inb at2 g_0.length) <|
  chk (inb at2 memo.length) <|
  bif decide ((rdx (0 : Int) memo at2) ≥ 0) then
    chk (inb at2 memo.length) <|
    (c_s_emit ops ([(16, (rdx (0 : Int) memo at2))])).bind fun r30 =>
    some ((r30.1.1, memo, ()), ())
  else
    bif (((rdx ((0 : Int), ((0 : Int), ([] : List Int))) g_0 at2).1) == 0) then
      (c_s_emit ops ([(0, ((rdx ((0 : Int), ((0 : Int), ([] : List Int))) g_0 at2).2).1)])).bind fun r41 =>
      some ((r41.1.1, memo, ()), ())
    else
      bif (((rdx ((0 : Int), ((0 : Int), ([] : List Int))) g_0 at2).1) == 1) then
        (c_s_emit ops ([(1, ((rdx ((0 : Int), ((0 : Int), ([] : List Int))) g_0 at2).2).1)])).bind fun r50 =>
        (c_s_memoed r50.1.1 memo at2).bind fun r53 =>
        some ((r53.1.1, r53.1.2.1, ()), ())
      else
        bif (((rdx ((0 : Int), ((0 : Int), ([] : List Int))) g_0 at2).1) == 2) then
          (c_s_saveTuple g_0 g_1 level at2 ops memo).bind fun r63 =>
          some ((r63.1.1, r63.1.2.1, ()), ())
        else
          bif (((rdx ((0 : Int), ((0 : Int), ([] : List Int))) g_0 at2).1) == 3) then
            (c_s_emit ops ([(7, 0)])).bind fun r72 =>
            (c_s_memoed r72.1.1 memo at2).bind fun r75 =>
            (c_s_fill g_0 g_1 level (((rdx ((0 : Int), ((0 : Int), ([] : List Int))) g_0 at2).2).2) 1 8 9 r75.1.1 r75.1.2.1).bind fun r84 =>
            some ((r84.1.1, r84.1.2.1, ()), ())
          else
            bif (((rdx ((0 : Int), ((0 : Int), ([] : List Int))) g_0 at2).1) == 4) then
              (c_s_emit ops ([(10, 0)])).bind fun r93 =>
              (c_s_memoed r93.1.1 memo at2).bind fun r96 =>
              (c_s_fill g_0 g_1 level (((rdx ((0 : Int), ((0 : Int), ([] : List Int))) g_0 at2).2).2) 2 11 12 r96.1.1 r96.1.2.1).bind fun r105 =>
              some ((r105.1.1, r105.1.2.1, ()), ())
            else
              (c_s_emit ops ([(13, ((rdx ((0 : Int), ((0 : Int), ([] : List Int))) g_0 at2).2).1)])).bind fun r114 =>
              (c_s_memoed r114.1.1 memo at2).bind fun r117 =>
              (c_s_saveAll g_0 g_1 level (((rdx ((0 : Int), ((0 : Int), ([] : List Int))) g_0 at2).2).2) r117.1.1 r117.1.2.1).bind fun r127 =>
              bif decide ((len (((rdx ((0 : Int), ((0 : Int), ([] : List Int))) g_0 at2).2).2)) > 0) then
                (c_s_emit r127.1.1 ([(14, 0)])).bind fun r137 =>
                jn (fun t => B_s_save_J0 k c_s_emit c_s_memoed c_s_saveTuple c_s_fill c_s_saveAll t.1 t.2.1) (r137.1.1, r127.1.2.1, ())
              else
                jn (fun t => B_s_save_J0 k c_s_emit c_s_memoed c_s_saveTuple c_s_fill c_s_saveAll t.1 t.2.1) (r127.1.1, r127.1.2.1, ())
mutual
def F_s_saveAll : Nat → C_s_saveAll
  | 0, _, _, _, _, _, _ => none
  | k + 1, g_0, g_1, level, list, ops, memo => B_s_saveAll k (F_s_save k) g_0 g_1 level list ops memo
def F_s_saveTuple : Nat → C_s_saveTuple
  | 0, _, _, _, _, _, _ => none
  | k + 1, g_0, g_1, level, at2, ops, memo => B_s_saveTuple k (F_s_emit k) (F_s_memoed k) (F_s_saveAll k) g_0 g_1 level at2 ops memo
def F_s_fill : Nat → C_s_fill
  | 0, _, _, _, _, _, _, _, _, _ => none
  | k + 1, g_0, g_1, level, kids, each, one, all, ops, memo => B_s_fill k (F_s_emit k) (F_s_saveAll k) g_0 g_1 level kids each one all ops memo
def F_s_save : Nat → C_s_save
  | 0, _, _, _, _, _, _ => none
  | k + 1, g_0, g_1, level, at2, ops, memo => B_s_save k (F_s_emit k) (F_s_memoed k) (F_s_saveTuple k) (F_s_fill k) (F_s_saveAll k) g_0 g_1 level at2 ops memo
end
theorem F_s_saveAll_succ (k : Nat) (g_0 : List (Int × Int × List Int)) (g_1 : Int) (level : Int) (list : List Int) (ops : List (Int × Int)) (memo : List Int) : F_s_saveAll (k + 1) g_0 g_1 level list ops memo = B_s_saveAll k (F_s_save k) g_0 g_1 level list ops memo := by rw [F_s_saveAll]
theorem tot_s_saveAll {g_0 g_1 level list ops memo : _} {Q : _ → Prop} (h : Tot (fun σ => B_s_saveAll (σ 0) (F_s_save (σ 0)) g_0 g_1 level list ops memo) Q) : Tot (fun σ => F_s_saveAll (σ 0) g_0 g_1 level list ops memo) Q :=
  Tot.call (F := fun k => F_s_saveAll k g_0 g_1 level list ops memo) (B := fun k => B_s_saveAll k (F_s_save k) g_0 g_1 level list ops memo) (fun k => F_s_saveAll_succ k g_0 g_1 level list ops memo) h
abbrev A_s_saveAll_L0 (Z : Type) : Type := Int → List Int → (List (Int × Int)) → List Int → (List (Int × Int × List Int)) → Int → Int → Z
abbrev u_s_saveAll_L0 {Z : Type} (f : A_s_saveAll_L0 Z) (t : T_s_saveAll_L0) : Z := f t.1 t.2.1 t.2.2.1 t.2.2.2.1 t.2.2.2.2.1.1 t.2.2.2.2.1.2.1 t.2.2.2.2.2.1
theorem loop_s_saveAll_L0 {Q : A_s_saveAll_L0 ((((List (Int × Int)) × List Int × Unit) × (Unit)) → Prop)} (I : A_s_saveAll_L0 Prop) (μ : A_s_saveAll_L0 Nat)
    (step : ∀ a0 a1 a2 a3 a4 a5 a6, I a0 a1 a2 a3 a4 a5 a6 → ∀ again : (Nat → Nat) → T_s_saveAll_L0 → R_s_saveAll, Dep 2 again → (∀ y0 y1 y2 y3 y4 y5 y6, I y0 y1 y2 y3 y4 y5 y6 → μ y0 y1 y2 y3 y4 y5 y6 < μ a0 a1 a2 a3 a4 a5 a6 → Tot (fun σ => again σ (y0, y1, y2, y3, (y4, y5, ()), y6, ())) (Q y0 y1 y2 y3 y4 y5 y6)) →
      Tot (fun σ => B_s_saveAll_L0b (σ 0) (F_s_save (σ 0)) (again σ) a0 a1 a2 a3 a4 a5 a6) (Q a0 a1 a2 a3 a4 a5 a6)) :
    ∀ a0 a1 a2 a3 a4 a5 a6, I a0 a1 a2 a3 a4 a5 a6 → Tot (fun σ => B_s_saveAll_L0 (σ 0) (F_s_save (σ 0)) (σ 0) (a0, a1, a2, a3, (a4, a5, ()), a6, ())) (Q a0 a1 a2 a3 a4 a5 a6) := fun a0 a1 a2 a3 a4 a5 a6 => Tot.loop0 (L := fun k => B_s_saveAll_L0 k (F_s_save k)) (B := fun k g => u_s_saveAll_L0 (B_s_saveAll_L0b k (F_s_save k) g)) (Q := u_s_saveAll_L0 Q) (fun _ _ _ => rfl) (u_s_saveAll_L0 I) (u_s_saveAll_L0 μ)
    (fun t ht again hag h => step t.1 t.2.1 t.2.2.1 t.2.2.2.1 t.2.2.2.2.1.1 t.2.2.2.2.1.2.1 t.2.2.2.2.2.1 ht again hag fun y0 y1 y2 y3 y4 y5 y6 => h (y0, y1, y2, y3, (y4, y5, ()), y6, ())) (a0, a1, a2, a3, (a4, a5, ()), a6, ())
theorem F_s_saveTuple_succ (k : Nat) (g_0 : List (Int × Int × List Int)) (g_1 : Int) (level : Int) (at2 : Int) (ops : List (Int × Int)) (memo : List Int) : F_s_saveTuple (k + 1) g_0 g_1 level at2 ops memo = B_s_saveTuple k (F_s_emit k) (F_s_memoed k) (F_s_saveAll k) g_0 g_1 level at2 ops memo := by rw [F_s_saveTuple]
theorem tot_s_saveTuple {g_0 g_1 level at2 ops memo : _} {Q : _ → Prop} (h : Tot (fun σ => B_s_saveTuple (σ 0) (F_s_emit (σ 0)) (F_s_memoed (σ 0)) (F_s_saveAll (σ 0)) g_0 g_1 level at2 ops memo) Q) : Tot (fun σ => F_s_saveTuple (σ 0) g_0 g_1 level at2 ops memo) Q :=
  Tot.call (F := fun k => F_s_saveTuple k g_0 g_1 level at2 ops memo) (B := fun k => B_s_saveTuple k (F_s_emit k) (F_s_memoed k) (F_s_saveAll k) g_0 g_1 level at2 ops memo) (fun k => F_s_saveTuple_succ k g_0 g_1 level at2 ops memo) h
abbrev A_s_saveTuple_L3 (Z : Type) : Type := Int → (List (Int × Int)) → List Int → List Int → Bool → Int → Z
abbrev u_s_saveTuple_L3 {Z : Type} (f : A_s_saveTuple_L3 Z) (t : T_s_saveTuple_L3) : Z := f t.1 t.2.1 t.2.2.1 t.2.2.2.1 t.2.2.2.2.1 t.2.2.2.2.2.1
theorem loop_s_saveTuple_L3 {Q : A_s_saveTuple_L3 ((((List (Int × Int)) × List Int × Unit) × (Unit)) → Prop)} (I : A_s_saveTuple_L3 Prop) (μ : A_s_saveTuple_L3 Nat)
    (step : ∀ a0 a1 a2 a3 a4 a5, I a0 a1 a2 a3 a4 a5 → ∀ again : (Nat → Nat) → T_s_saveTuple_L3 → R_s_saveTuple, Dep 2 again → (∀ y0 y1 y2 y3 y4 y5, I y0 y1 y2 y3 y4 y5 → μ y0 y1 y2 y3 y4 y5 < μ a0 a1 a2 a3 a4 a5 → Tot (fun σ => again σ (y0, y1, y2, y3, y4, y5, ())) (Q y0 y1 y2 y3 y4 y5)) →
      Tot (fun σ => B_s_saveTuple_L3b (σ 0) (F_s_emit (σ 0)) (F_s_memoed (σ 0)) (F_s_saveAll (σ 0)) (again σ) a0 a1 a2 a3 a4 a5) (Q a0 a1 a2 a3 a4 a5)) :
    ∀ a0 a1 a2 a3 a4 a5, I a0 a1 a2 a3 a4 a5 → Tot (fun σ => B_s_saveTuple_L3 (σ 0) (F_s_emit (σ 0)) (F_s_memoed (σ 0)) (F_s_saveAll (σ 0)) (σ 0) (a0, a1, a2, a3, a4, a5, ())) (Q a0 a1 a2 a3 a4 a5) := fun a0 a1 a2 a3 a4 a5 => Tot.loop0 (L := fun k => B_s_saveTuple_L3 k (F_s_emit k) (F_s_memoed k) (F_s_saveAll k)) (B := fun k g => u_s_saveTuple_L3 (B_s_saveTuple_L3b k (F_s_emit k) (F_s_memoed k) (F_s_saveAll k) g)) (Q := u_s_saveTuple_L3 Q) (fun _ _ _ => rfl) (u_s_saveTuple_L3 I) (u_s_saveTuple_L3 μ)
    (fun t ht again hag h => step t.1 t.2.1 t.2.2.1 t.2.2.2.1 t.2.2.2.2.1 t.2.2.2.2.2.1 ht again hag fun y0 y1 y2 y3 y4 y5 => h (y0, y1, y2, y3, y4, y5, ())) (a0, a1, a2, a3, a4, a5, ())
theorem F_s_fill_succ (k : Nat) (g_0 : List (Int × Int × List Int)) (g_1 : Int) (level : Int) (kids : List Int) (each : Int) (one : Int) (all : Int) (ops : List (Int × Int)) (memo : List Int) : F_s_fill (k + 1) g_0 g_1 level kids each one all ops memo = B_s_fill k (F_s_emit k) (F_s_saveAll k) g_0 g_1 level kids each one all ops memo := by rw [F_s_fill]
theorem tot_s_fill {g_0 g_1 level kids each one all ops memo : _} {Q : _ → Prop} (h : Tot (fun σ => B_s_fill (σ 0) (F_s_emit (σ 0)) (F_s_saveAll (σ 0)) g_0 g_1 level kids each one all ops memo) Q) : Tot (fun σ => F_s_fill (σ 0) g_0 g_1 level kids each one all ops memo) Q :=
  Tot.call (F := fun k => F_s_fill k g_0 g_1 level kids each one all ops memo) (B := fun k => B_s_fill k (F_s_emit k) (F_s_saveAll k) g_0 g_1 level kids each one all ops memo) (fun k => F_s_fill_succ k g_0 g_1 level kids each one all ops memo) h
abbrev A_s_fill_L1 (Z : Type) : Type := Int → List Int → Int → Int → (List (Int × Int)) → List Int → (List (Int × Int × List Int)) → Int → Int → Z
abbrev u_s_fill_L1 {Z : Type} (f : A_s_fill_L1 Z) (t : T_s_fill_L1) : Z := f t.1 t.2.1 t.2.2.1 t.2.2.2.1 t.2.2.2.2.1 t.2.2.2.2.2.1 t.2.2.2.2.2.2.1.1 t.2.2.2.2.2.2.1.2.1 t.2.2.2.2.2.2.2.1
theorem loop_s_fill_L1 {Q : A_s_fill_L1 ((((List (Int × Int)) × List Int × Unit) × (Unit)) → Prop)} (I : A_s_fill_L1 Prop) (μ : A_s_fill_L1 Nat)
    (step : ∀ a0 a1 a2 a3 a4 a5 a6 a7 a8, I a0 a1 a2 a3 a4 a5 a6 a7 a8 → ∀ again : (Nat → Nat) → T_s_fill_L1 → R_s_fill, Dep 2 again → (∀ y0 y1 y2 y3 y4 y5 y6 y7 y8, I y0 y1 y2 y3 y4 y5 y6 y7 y8 → μ y0 y1 y2 y3 y4 y5 y6 y7 y8 < μ a0 a1 a2 a3 a4 a5 a6 a7 a8 → Tot (fun σ => again σ (y0, y1, y2, y3, y4, y5, (y6, y7, ()), y8, ())) (Q y0 y1 y2 y3 y4 y5 y6 y7 y8)) →
      Tot (fun σ => B_s_fill_L1b (σ 0) (F_s_emit (σ 0)) (F_s_saveAll (σ 0)) (again σ) a0 a1 a2 a3 a4 a5 a6 a7 a8) (Q a0 a1 a2 a3 a4 a5 a6 a7 a8)) :
    ∀ a0 a1 a2 a3 a4 a5 a6 a7 a8, I a0 a1 a2 a3 a4 a5 a6 a7 a8 → Tot (fun σ => B_s_fill_L1 (σ 0) (F_s_emit (σ 0)) (F_s_saveAll (σ 0)) (σ 0) (a0, a1, a2, a3, a4, a5, (a6, a7, ()), a8, ())) (Q a0 a1 a2 a3 a4 a5 a6 a7 a8) := fun a0 a1 a2 a3 a4 a5 a6 a7 a8 => Tot.loop0 (L := fun k => B_s_fill_L1 k (F_s_emit k) (F_s_saveAll k)) (B := fun k g => u_s_fill_L1 (B_s_fill_L1b k (F_s_emit k) (F_s_saveAll k) g)) (Q := u_s_fill_L1 Q) (fun _ _ _ => rfl) (u_s_fill_L1 I) (u_s_fill_L1 μ)
    (fun t ht again hag h => step t.1 t.2.1 t.2.2.1 t.2.2.2.1 t.2.2.2.2.1 t.2.2.2.2.2.1 t.2.2.2.2.2.2.1.1 t.2.2.2.2.2.2.1.2.1 t.2.2.2.2.2.2.2.1 ht again hag fun y0 y1 y2 y3 y4 y5 y6 y7 y8 => h (y0, y1, y2, y3, y4, y5, (y6, y7, ()), y8, ())) (a0, a1, a2, a3, a4, a5, (a6, a7, ()), a8, ())
theorem F_s_save_succ (k : Nat) (g_0 : List (Int × Int × List Int)) (g_1 : Int) (level : Int) (at2 : Int) (ops : List (Int × Int)) (memo : List Int) : F_s_save (k + 1) g_0 g_1 level at2 ops memo = B_s_save k (F_s_emit k) (F_s_memoed k) (F_s_saveTuple k) (F_s_fill k) (F_s_saveAll k) g_0 g_1 level at2 ops memo := by rw [F_s_save]
theorem tot_s_save {g_0 g_1 level at2 ops memo : _} {Q : _ → Prop} (h : Tot (fun σ => B_s_save (σ 0) (F_s_emit (σ 0)) (F_s_memoed (σ 0)) (F_s_saveTuple (σ 0)) (F_s_fill (σ 0)) (F_s_saveAll (σ 0)) g_0 g_1 level at2 ops memo) Q) : Tot (fun σ => F_s_save (σ 0) g_0 g_1 level at2 ops memo) Q :=
  Tot.call (F := fun k => F_s_save k g_0 g_1 level at2 ops memo) (B := fun k => B_s_save k (F_s_emit k) (F_s_memoed k) (F_s_saveTuple k) (F_s_fill k) (F_s_saveAll k) g_0 g_1 level at2 ops memo) (fun k => F_s_save_succ k g_0 g_1 level at2 ops memo) h
abbrev R_s_written : Type := Option (((List (Int × Int)) × Unit) × (Unit))
abbrev C_s_written : Type := (List (Int × Int × List Int)) → Int → Int → R_s_written
def B_s_written (k : Nat) (c_s_emptyMemo : C_s_emptyMemo) (c_s_save : C_s_save) (c_s_emit : C_s_emit) (g_0 : List (Int × Int × List Int)) (g_1 level : Int) : R_s_written :=
  (c_s_emptyMemo g_0 g_1).bind fun r14 =>
  (c_s_save g_0 g_1 level g_1 ([]) r14.1.1).bind fun r15 =>
  (c_s_emit r15.1.1 ([(19, 0)])).bind fun r21 =>
  some ((r21.1.1, ()), ())
def F_s_written : Nat → C_s_written
  | 0, _, _, _ => none
  | k + 1, g_0, g_1, level => B_s_written k (F_s_emptyMemo k) (F_s_save k) (F_s_emit k) g_0 g_1 level
theorem tot_s_written {g_0 g_1 level : _} {Q : _ → Prop} (h : Tot (fun σ => B_s_written (σ 0) (F_s_emptyMemo (σ 0)) (F_s_save (σ 0)) (F_s_emit (σ 0)) g_0 g_1 level) Q) : Tot (fun σ => F_s_written (σ 0) g_0 g_1 level) Q :=
  Tot.call (F := fun k => F_s_written k g_0 g_1 level) (B := fun k => B_s_written k (F_s_emptyMemo k) (F_s_save k) (F_s_emit k) g_0 g_1 level) (fun k => rfl) h
abbrev R_s_someOps : Type := Option (((List (Int × Int)) × Unit) × ((List Int × Int × Unit) × Unit))
abbrev C_s_someOps : Type := List Int → Int → R_s_someOps
def B_s_someOps_J2 (k : Nat) (c_s_reader_pick : C_s_reader_pick) (c_s_likelyOps : C_s_likelyOps) (c_s_someGraph : C_s_someGraph) (c_s_written : C_s_written) (c_s_someOp : C_s_someOp) (c_s_reader_one : C_s_reader_one) (r_b : List Int) (r_p : Int) (out : List (Int × Int)) : R_s_someOps :=
  bif decide ((len out) > 0) then
    (c_s_reader_pick r_b r_p 24).bind fun r45 =>
    bif (r45.1.1 == 0) then
      (c_s_reader_one r45.2.1.1 r45.2.1.2.1 ([(-1), 20])).bind fun r51 =>
      chk (inb 0 out.length) <|
      chk (decide ((0 : Int).toNat < out.length)) <|
      some (((out.set ((0 : Int).toNat) (r51.1.1, (out.getD ((0 : Int).toNat) ((0 : Int), (0 : Int))).2)), ()), ((r51.2.1.1, r51.2.1.2.1, ()), ()))
    else
      bif (r45.1.1 == 1) then
        (c_s_reader_one r45.2.1.1 r45.2.1.2.1 ([(-1), 1000, 1])).bind fun r62 =>
        chk (inb (w64 ((len out) - 1)) out.length) <|
        chk (decide ((w64 ((len out) - 1)).toNat < out.length)) <|
        some (((out.set ((w64 ((len out) - 1)).toNat) ((out.getD ((w64 ((len out) - 1)).toNat) ((0 : Int), (0 : Int))).1, r62.1.1)), ()), ((r62.2.1.1, r62.2.1.2.1, ()), ()))
      else
        some ((out, ()), ((r45.2.1.1, r45.2.1.2.1, ()), ()))
  else
    some ((out, ()), ((r_b, r_p, ()), ()))
def B_s_someOps_J1 (k : Nat) (c_s_reader_pick : C_s_reader_pick) (c_s_likelyOps : C_s_likelyOps) (c_s_someGraph : C_s_someGraph) (c_s_written : C_s_written) (c_s_someOp : C_s_someOp) (c_s_reader_one : C_s_reader_one) (r_b : List Int) (r_p : Int) (out : List (Int × Int)) : R_s_someOps :=
  (c_s_reader_pick r_b r_p 6).bind fun r32 =>
  bif (r32.1.1 == 0) then
    (c_s_reader_pick r32.2.1.1 r32.2.1.2.1 (w64 ((len out) + 1))).bind fun r39 =>
    chk (cutb 0 r39.1.1 out.length) <|
    jn (fun t => B_s_someOps_J2 k c_s_reader_pick c_s_likelyOps c_s_someGraph c_s_written c_s_someOp c_s_reader_one t.1.1 t.1.2.1 t.2.1) ((r39.2.1.1, r39.2.1.2.1, ()), (out.take r39.1.1.toNat), ())
  else
    jn (fun t => B_s_someOps_J2 k c_s_reader_pick c_s_likelyOps c_s_someGraph c_s_written c_s_someOp c_s_reader_one t.1.1 t.1.2.1 t.2.1) ((r32.2.1.1, r32.2.1.2.1, ()), out, ())
def B_s_someOps_J0 (k : Nat) (c_s_reader_pick : C_s_reader_pick) (c_s_likelyOps : C_s_likelyOps) (c_s_someGraph : C_s_someGraph) (c_s_written : C_s_written) (c_s_someOp : C_s_someOp) (c_s_reader_one : C_s_reader_one) (r_b : List Int) (r_p : Int) (out : List (Int × Int)) (t22 : Bool) : R_s_someOps :=
  bif t22 then
    (c_s_reader_pick r_b r_p (len out)).bind fun r27 =>
    (c_s_someOp r27.2.1.1 r27.2.1.2.1).bind fun r29 =>
    chk (inb r27.1.1 out.length) <|
    chk (decide (r27.1.1.toNat < out.length)) <|
    jn (fun t => B_s_someOps_J1 k c_s_reader_pick c_s_likelyOps c_s_someGraph c_s_written c_s_someOp c_s_reader_one t.1.1 t.1.2.1 t.2.1) ((r29.2.1.1, r29.2.1.2.1, ()), (out.set r27.1.1.toNat (r29.1.1.1, r29.1.1.2.1)), ())
  else
    jn (fun t => B_s_someOps_J1 k c_s_reader_pick c_s_likelyOps c_s_someGraph c_s_written c_s_someOp c_s_reader_one t.1.1 t.1.2.1 t.2.1) ((r_b, r_p, ()), out, ())
def B_s_someOps (k : Nat) (c_s_reader_pick : C_s_reader_pick) (c_s_likelyOps : C_s_likelyOps) (c_s_someGraph : C_s_someGraph) (c_s_written : C_s_written) (c_s_someOp : C_s_someOp) (c_s_reader_one : C_s_reader_one) (r_b : List Int) (r_p : Int) : R_s_someOps :=
  (c_s_reader_pick r_b r_p 2).bind fun r6 =>
  bif (r6.1.1 == 0) then
    (c_s_likelyOps r6.2.1.1 r6.2.1.2.1).bind fun r9 =>
    jn (fun t => B_s_someOps_J2 k c_s_reader_pick c_s_likelyOps c_s_someGraph c_s_written c_s_someOp c_s_reader_one t.1.1 t.1.2.1 t.2.1) ((r9.2.1.1, r9.2.1.2.1, ()), r9.1.1, ())
  else
    (c_s_someGraph r6.2.1.1 r6.2.1.2.1).bind fun r11 =>
    (c_s_reader_pick r11.2.1.1 r11.2.1.2.1 2).bind fun r13 =>
    (c_s_written r11.1.1.1 r11.1.1.2.1 r13.1.1).bind fun r14 =>
    (c_s_reader_pick r13.2.1.1 r13.2.1.2.1 4).bind fun r16 =>
    bif (r16.1.1 == 0) then
      jn (fun t => B_s_someOps_J0 k c_s_reader_pick c_s_likelyOps c_s_someGraph c_s_written c_s_someOp c_s_reader_one t.1.1 t.1.2.1 t.2.1 t.2.2.1) ((r16.2.1.1, r16.2.1.2.1, ()), r14.1.1, decide ((len r14.1.1) > 0), ())
    else
      jn (fun t => B_s_someOps_J0 k c_s_reader_pick c_s_likelyOps c_s_someGraph c_s_written c_s_someOp c_s_reader_one t.1.1 t.1.2.1 t.2.1 t.2.2.1) ((r16.2.1.1, r16.2.1.2.1, ()), r14.1.1, false, ())
def F_s_someOps : Nat → C_s_someOps
  | 0, _, _ => none
  | k + 1, r_b, r_p => B_s_someOps k (F_s_reader_pick k) (F_s_likelyOps k) (F_s_someGraph k) (F_s_written k) (F_s_someOp k) (F_s_reader_one k) r_b r_p
theorem tot_s_someOps {r_b r_p : _} {Q : _ → Prop} (h : Tot (fun σ => B_s_someOps (σ 0) (F_s_reader_pick (σ 0)) (F_s_likelyOps (σ 0)) (F_s_someGraph (σ 0)) (F_s_written (σ 0)) (F_s_someOp (σ 0)) (F_s_reader_one (σ 0)) r_b r_p) Q) : Tot (fun σ => F_s_someOps (σ 0) r_b r_p) Q :=
  Tot.call (F := fun k => F_s_someOps k r_b r_p) (B := fun k => B_s_someOps k (F_s_reader_pick k) (F_s_likelyOps k) (F_s_someGraph k) (F_s_written k) (F_s_someOp k) (F_s_reader_one k) r_b r_p) (fun k => rfl) h
abbrev R_s_DrawClassesIn : Type := Option (((List (Int × Int)) × Unit) × (Unit))
abbrev C_s_DrawClassesIn : Type := List Int → R_s_DrawClassesIn
def B_s_DrawClassesIn (k : Nat) (c_s_newReader : C_s_newReader) (c_s_someOps : C_s_someOps) (code : List Int) : R_s_DrawClassesIn :=
  (c_s_newReader code).bind fun r4 =>
  (c_s_someOps r4.1.1.1 r4.1.1.2.1).bind fun r5 =>
  some ((r5.1.1, ()), ())
def F_s_DrawClassesIn : Nat → C_s_DrawClassesIn
  | 0, _ => none
  | k + 1, code => B_s_DrawClassesIn k (F_s_newReader k) (F_s_someOps k) code
theorem tot_s_DrawClassesIn {code : _} {Q : _ → Prop} (h : Tot (fun σ => B_s_DrawClassesIn (σ 0) (F_s_newReader (σ 0)) (F_s_someOps (σ 0)) code) Q) : Tot (fun σ => F_s_DrawClassesIn (σ 0) code) Q :=
  Tot.call (F := fun k => F_s_DrawClassesIn k code) (B := fun k => B_s_DrawClassesIn k (F_s_newReader k) (F_s_someOps k) code) (fun k => rfl) h
abbrev R_i_mostArg : Type := Option ((Int × Unit) × (Unit))
abbrev C_i_mostArg : Type := Int → R_i_mostArg
def B_i_mostArg_J0 (k : Nat) (t10 : Bool) : R_i_mostArg :=
  bif t10 then
    some ((19, ()), ())
  else
    some ((0, ()), ())
def B_i_mostArg (k : Nat) (code : Int) : R_i_mostArg :=
  bif (code == 0) then
    some ((999, ()), ())
  else
    bif (code == 1) then
      some ((9, ()), ())
    else
      bif (code == 13) then
        some ((9, ()), ())
      else
        bif (code == 15) then
          jn (fun t => B_i_mostArg_J0 k t.1) ((code == 15), ())
        else
          jn (fun t => B_i_mostArg_J0 k t.1) ((code == 16), ())
def F_i_mostArg : Nat → C_i_mostArg
  | 0, _ => none
  | k + 1, code => B_i_mostArg k code
theorem tot_i_mostArg {code : _} {Q : _ → Prop} (h : Tot (fun σ => B_i_mostArg (σ 0) code) Q) : Tot (fun σ => F_i_mostArg (σ 0) code) Q :=
  Tot.call (F := fun k => F_i_mostArg k code) (B := fun k => B_i_mostArg k code) (fun k => rfl) h
abbrev R_i_opOk : Type := Option ((Bool × Unit) × (Unit))
abbrev C_i_opOk : Type := Int → Int → R_i_opOk
def B_i_opOk (k : Nat) (c_i_mostArg : C_i_mostArg) (o_0 o_1 : Int) : R_i_opOk :=
  bif decide (o_0 ≥ 0) then
    bif decide (o_0 ≤ 19) then
      bif decide (o_1 ≥ 0) then
        (c_i_mostArg o_0).bind fun r21 =>
        some ((decide (o_1 ≤ r21.1.1), ()), ())
      else
        some ((false, ()), ())
    else
      some ((false, ()), ())
  else
    some ((false, ()), ())
def F_i_opOk : Nat → C_i_opOk
  | 0, _, _ => none
  | k + 1, o_0, o_1 => B_i_opOk k (F_i_mostArg k) o_0 o_1
theorem tot_i_opOk {o_0 o_1 : _} {Q : _ → Prop} (h : Tot (fun σ => B_i_opOk (σ 0) (F_i_mostArg (σ 0)) o_0 o_1) Q) : Tot (fun σ => F_i_opOk (σ 0) o_0 o_1) Q :=
  Tot.call (F := fun k => F_i_opOk k o_0 o_1) (B := fun k => B_i_opOk k (F_i_mostArg k) o_0 o_1) (fun k => rfl) h
abbrev R_i_ValidOps : Type := Option ((Bool × Unit) × (Unit))
abbrev C_i_ValidOps : Type := (List (Int × Int)) → R_i_ValidOps
abbrev T_i_ValidOps_L0 : Type := (List (Int × Int)) × (List (Int × Int)) × Int × Int × Unit
def B_i_ValidOps_L0b (k : Nat) (c_i_opOk : C_i_opOk) (again0 : T_i_ValidOps_L0 → R_i_ValidOps) (ops t5 : List (Int × Int)) (t6 t7 : Int) : R_i_ValidOps :=
  bif decide (t7 < t6) then
    chk (inb t7 t5.length) <|
    (c_i_opOk ((rdx ((0 : Int), (0 : Int)) t5 t7).1) ((rdx ((0 : Int), (0 : Int)) t5 t7).2)).bind fun r12 =>
    bif (!r12.1.1) then
      some ((false, ()), ())
    else
      again0 (ops, t5, t6, w64 (t7 + 1), ())
  else
    some ((decide ((len ops) ≤ 300), ()), ())
def B_i_ValidOps_L0 (k : Nat) (c_i_opOk : C_i_opOk) (n : Nat) (t : T_i_ValidOps_L0) : R_i_ValidOps :=
  lfix n (fun again t => B_i_ValidOps_L0b k c_i_opOk again t.1 t.2.1 t.2.2.1 t.2.2.2.1) t
def B_i_ValidOps (k : Nat) (c_i_opOk : C_i_opOk) (ops : List (Int × Int)) : R_i_ValidOps :=
  B_i_ValidOps_L0 k c_i_opOk k (ops, ops, len ops, 0, ())
def F_i_ValidOps : Nat → C_i_ValidOps
  | 0, _ => none
  | k + 1, ops => B_i_ValidOps k (F_i_opOk k) ops
theorem tot_i_ValidOps {ops : _} {Q : _ → Prop} (h : Tot (fun σ => B_i_ValidOps (σ 0) (F_i_opOk (σ 0)) ops) Q) : Tot (fun σ => F_i_ValidOps (σ 0) ops) Q :=
  Tot.call (F := fun k => F_i_ValidOps k ops) (B := fun k => B_i_ValidOps k (F_i_opOk k) ops) (fun k => rfl) h
abbrev A_i_ValidOps_L0 (Z : Type) : Type := (List (Int × Int)) → (List (Int × Int)) → Int → Int → Z
abbrev u_i_ValidOps_L0 {Z : Type} (f : A_i_ValidOps_L0 Z) (t : T_i_ValidOps_L0) : Z := f t.1 t.2.1 t.2.2.1 t.2.2.2.1
theorem loop_i_ValidOps_L0 {Q : A_i_ValidOps_L0 (((Bool × Unit) × (Unit)) → Prop)} (I : A_i_ValidOps_L0 Prop) (μ : A_i_ValidOps_L0 Nat)
    (step : ∀ a0 a1 a2 a3, I a0 a1 a2 a3 → ∀ again : (Nat → Nat) → T_i_ValidOps_L0 → R_i_ValidOps, Dep 2 again → (∀ y0 y1 y2 y3, I y0 y1 y2 y3 → μ y0 y1 y2 y3 < μ a0 a1 a2 a3 → Tot (fun σ => again σ (y0, y1, y2, y3, ())) (Q y0 y1 y2 y3)) →
      Tot (fun σ => B_i_ValidOps_L0b (σ 0) (F_i_opOk (σ 0)) (again σ) a0 a1 a2 a3) (Q a0 a1 a2 a3)) :
    ∀ a0 a1 a2 a3, I a0 a1 a2 a3 → Tot (fun σ => B_i_ValidOps_L0 (σ 0) (F_i_opOk (σ 0)) (σ 0) (a0, a1, a2, a3, ())) (Q a0 a1 a2 a3) := fun a0 a1 a2 a3 => Tot.loop0 (L := fun k => B_i_ValidOps_L0 k (F_i_opOk k)) (B := fun k g => u_i_ValidOps_L0 (B_i_ValidOps_L0b k (F_i_opOk k) g)) (Q := u_i_ValidOps_L0 Q) (fun _ _ _ => rfl) (u_i_ValidOps_L0 I) (u_i_ValidOps_L0 μ)
    (fun t ht again hag h => step t.1 t.2.1 t.2.2.1 t.2.2.2.1 ht again hag fun y0 y1 y2 y3 => h (y0, y1, y2, y3, ())) (a0, a1, a2, a3, ())
abbrev R_bits_Len64 : Type := Option ((Int × Unit) × (Unit))
abbrev C_bits_Len64 : Type := Int → R_bits_Len64
def B_bits_Len64_J2 (k : Nat) (x n2 : Int) : R_bits_Len64 :=
  chk (inb (wu8 (x)) (ByteArray.mk #[0, 1, 2, 2, 3, 3, 3, 3, 4, 4, 4, 4, 4, 4, 4, 4, 5, 5, 5, 5, 5, 5, 5, 5, 5, 5, 5, 5, 5, 5, 5, 5, 6, 6, 6, 6, 6, 6, 6, 6, 6, 6, 6, 6, 6, 6, 6, 6, 6, 6, 6, 6, 6, 6, 6, 6, 6, 6, 6, 6, 6, 6, 6, 6, 7, 7, 7, 7, 7, 7, 7, 7, 7, 7, 7, 7, 7, 7, 7, 7, 7, 7, 7, 7, 7, 7, 7, 7, 7, 7, 7, 7, 7, 7, 7, 7, 7, 7, 7, 7, 7, 7, 7, 7, 7, 7, 7, 7, 7, 7, 7, 7, 7, 7, 7, 7, 7, 7, 7, 7, 7, 7, 7, 7, 7, 7, 7, 7, 8, 8, 8, 8, 8, 8, 8, 8, 8, 8, 8, 8, 8, 8, 8, 8, 8, 8, 8, 8, 8, 8, 8, 8, 8, 8, 8, 8, 8, 8, 8, 8, 8, 8, 8, 8, 8, 8, 8, 8, 8, 8, 8, 8, 8, 8, 8, 8, 8, 8, 8, 8, 8, 8, 8, 8, 8, 8, 8, 8, 8, 8, 8, 8, 8, 8, 8, 8, 8, 8, 8, 8, 8, 8, 8, 8, 8, 8, 8, 8, 8, 8, 8, 8, 8, 8, 8, 8, 8, 8, 8, 8, 8, 8, 8, 8, 8, 8, 8, 8, 8, 8, 8, 8, 8, 8, 8, 8, 8, 8, 8, 8, 8, 8, 8, 8, 8, 8, 8, 8, 8, 8, 8, 8, 8, 8, 8, 8]).size) <|
  let v22 : Int := (btx (ByteArray.mk #[0, 1, 2, 2, 3, 3, 3, 3, 4, 4, 4, 4, 4, 4, 4, 4, 5, 5, 5, 5, 5, 5, 5, 5, 5, 5, 5, 5, 5, 5, 5, 5, 6, 6, 6, 6, 6, 6, 6, 6, 6, 6, 6, 6, 6, 6, 6, 6, 6, 6, 6, 6, 6, 6, 6, 6, 6, 6, 6, 6, 6, 6, 6, 6, 7, 7, 7, 7, 7, 7, 7, 7, 7, 7, 7, 7, 7, 7, 7, 7, 7, 7, 7, 7, 7, 7, 7, 7, 7, 7, 7, 7, 7, 7, 7, 7, 7, 7, 7, 7, 7, 7, 7, 7, 7, 7, 7, 7, 7, 7, 7, 7, 7, 7, 7, 7, 7, 7, 7, 7, 7, 7, 7, 7, 7, 7, 7, 7, 8, 8, 8, 8, 8, 8, 8, 8, 8, 8, 8, 8, 8, 8, 8, 8, 8, 8, 8, 8, 8, 8, 8, 8, 8, 8, 8, 8, 8, 8, 8, 8, 8, 8, 8, 8, 8, 8, 8, 8, 8, 8, 8, 8, 8, 8, 8, 8, 8, 8, 8, 8, 8, 8, 8, 8, 8, 8, 8, 8, 8, 8, 8, 8, 8, 8, 8, 8, 8, 8, 8, 8, 8, 8, 8, 8, 8, 8, 8, 8, 8, 8, 8, 8, 8, 8, 8, 8, 8, 8, 8, 8, 8, 8, 8, 8, 8, 8, 8, 8, 8, 8, 8, 8, 8, 8, 8, 8, 8, 8, 8, 8, 8, 8, 8, 8, 8, 8, 8, 8, 8, 8, 8, 8, 8, 8, 8, 8]) (wu8 (x)))
  some ((w64 (n2 + (w64 (v22))), ()), ())
def B_bits_Len64_J1 (k : Nat) (x n2 : Int) : R_bits_Len64 :=
  bif decide (x ≥ 256) then
    jn (fun t => B_bits_Len64_J2 k t.1 t.2.1) ((shrK .u64 x 8), w64 (n2 + 8), ())
  else
    jn (fun t => B_bits_Len64_J2 k t.1 t.2.1) (x, n2, ())
def B_bits_Len64_J0 (k : Nat) (x n2 : Int) : R_bits_Len64 :=
  bif decide (x ≥ 65536) then
    jn (fun t => B_bits_Len64_J1 k t.1 t.2.1) ((shrK .u64 x 16), w64 (n2 + 16), ())
  else
    jn (fun t => B_bits_Len64_J1 k t.1 t.2.1) (x, n2, ())
def B_bits_Len64 (k : Nat) (x : Int) : R_bits_Len64 :=
  bif decide (x ≥ 4294967296) then
    jn (fun t => B_bits_Len64_J0 k t.1 t.2.1) ((shrK .u64 x 32), 32, ())
  else
    jn (fun t => B_bits_Len64_J0 k t.1 t.2.1) (x, 0, ())
def F_bits_Len64 : Nat → C_bits_Len64
  | 0, _ => none
  | k + 1, x => B_bits_Len64 k x
theorem tot_bits_Len64 {x : _} {Q : _ → Prop} (h : Tot (fun σ => B_bits_Len64 (σ 0) x) Q) : Tot (fun σ => F_bits_Len64 (σ 0) x) Q :=
  Tot.call (F := fun k => F_bits_Len64 k x) (B := fun k => B_bits_Len64 k x) (fun k => rfl) h
abbrev R_bits_Len : Type := Option ((Int × Unit) × (Unit))
abbrev C_bits_Len : Type := Int → R_bits_Len
def B_bits_Len (k : Nat) (c_bits_Len64 : C_bits_Len64) (x : Int) : R_bits_Len :=
  (c_bits_Len64 x).bind fun r7 =>
  some ((r7.1.1, ()), ())
def F_bits_Len : Nat → C_bits_Len
  | 0, _ => none
  | k + 1, x => B_bits_Len k (F_bits_Len64 k) x
theorem tot_bits_Len {x : _} {Q : _ → Prop} (h : Tot (fun σ => B_bits_Len (σ 0) (F_bits_Len64 (σ 0)) x) Q) : Tot (fun σ => F_bits_Len (σ 0) x) Q :=
  Tot.call (F := fun k => F_bits_Len k x) (B := fun k => B_bits_Len k (F_bits_Len64 k) x) (fun k => rfl) h
abbrev R_cmp_isNaN_int : Type := Option ((Bool × Unit) × (Unit))
abbrev C_cmp_isNaN_int : Type := Int → R_cmp_isNaN_int
def B_cmp_isNaN_int (k : Nat) (x : Int) : R_cmp_isNaN_int :=
  some (((x != x), ()), ())
def F_cmp_isNaN_int : Nat → C_cmp_isNaN_int
  | 0, _ => none
  | k + 1, x => B_cmp_isNaN_int k x
theorem tot_cmp_isNaN_int {x : _} {Q : _ → Prop} (h : Tot (fun σ => B_cmp_isNaN_int (σ 0) x) Q) : Tot (fun σ => F_cmp_isNaN_int (σ 0) x) Q :=
  Tot.call (F := fun k => F_cmp_isNaN_int k x) (B := fun k => B_cmp_isNaN_int k x) (fun k => rfl) h
abbrev R_cmp_Less_int : Type := Option ((Bool × Unit) × (Unit))
abbrev C_cmp_Less_int : Type := Int → Int → R_cmp_Less_int
def B_cmp_Less_int (k : Nat) (c_cmp_isNaN_int : C_cmp_isNaN_int) (x y : Int) : R_cmp_Less_int :=
  (c_cmp_isNaN_int x).bind fun r6 =>
  bif r6.1.1 then
    (c_cmp_isNaN_int y).bind fun r9 =>
    bif (!r9.1.1) then
      some ((true, ()), ())
    else
      some ((decide (x < y), ()), ())
  else
    some ((decide (x < y), ()), ())
def F_cmp_Less_int : Nat → C_cmp_Less_int
  | 0, _, _ => none
  | k + 1, x, y => B_cmp_Less_int k (F_cmp_isNaN_int k) x y
theorem tot_cmp_Less_int {x y : _} {Q : _ → Prop} (h : Tot (fun σ => B_cmp_Less_int (σ 0) (F_cmp_isNaN_int (σ 0)) x y) Q) : Tot (fun σ => F_cmp_Less_int (σ 0) x y) Q :=
  Tot.call (F := fun k => F_cmp_Less_int k x y) (B := fun k => B_cmp_Less_int k (F_cmp_isNaN_int k) x y) (fun k => rfl) h
abbrev R_slices_insertionSortOrdered_int : Type := Option ((Unit) × (List Int × Unit))
abbrev C_slices_insertionSortOrdered_int : Type := List Int → Int → Int → R_slices_insertionSortOrdered_int
abbrev T_slices_insertionSortOrdered_int_L1 : Type := List Int × Int × Int × Int × Int × Unit
abbrev T_slices_insertionSortOrdered_int_L2 : Type := List Int × Int × Int × Int × Unit
def B_slices_insertionSortOrdered_int_J0 (k : Nat) (c_cmp_Less_int : C_cmp_Less_int) (again1 : T_slices_insertionSortOrdered_int_L1 → R_slices_insertionSortOrdered_int) (again2 : T_slices_insertionSortOrdered_int_L2 → R_slices_insertionSortOrdered_int) (data : List Int) (a b i j : Int) (t30 : Bool) : R_slices_insertionSortOrdered_int :=
  bif t30 then
    chk (inb (w64 (j - 1)) data.length) <|
    chk (decide ((w64 (j - 1)).toNat < data.length)) <|
    chk (inb j data.length) <|
    chk (decide (j.toNat < data.length)) <|
    chk (inb j data.length) <|
    chk (decide (j.toNat < data.length)) <|
    chk (inb (w64 (j - 1)) (data.set j.toNat (data.getD ((w64 (j - 1)).toNat) (0 : Int))).length) <|
    chk (decide ((w64 (j - 1)).toNat < (data.set j.toNat (data.getD ((w64 (j - 1)).toNat) (0 : Int))).length)) <|
    again1 (((data.set j.toNat (data.getD ((w64 (j - 1)).toNat) (0 : Int))).set ((w64 (j - 1)).toNat) (data.getD j.toNat (0 : Int))), a, b, i, w64 (j - 1), ())
  else
    again2 (data, a, b, w64 (i + 1), ())
def B_slices_insertionSortOrdered_int_L1b (k : Nat) (c_cmp_Less_int : C_cmp_Less_int) (again2 : T_slices_insertionSortOrdered_int_L2 → R_slices_insertionSortOrdered_int) (again1 : T_slices_insertionSortOrdered_int_L1 → R_slices_insertionSortOrdered_int) (data : List Int) (a b i j : Int) : R_slices_insertionSortOrdered_int :=
  bif decide (j > a) then
    chk (inb j data.length) <|
    chk (decide (j.toNat < data.length)) <|
    chk (inb (w64 (j - 1)) data.length) <|
    chk (decide ((w64 (j - 1)).toNat < data.length)) <|
    (c_cmp_Less_int (data.getD j.toNat (0 : Int)) (data.getD ((w64 (j - 1)).toNat) (0 : Int))).bind fun r29 =>
    jn (fun t => B_slices_insertionSortOrdered_int_J0 k c_cmp_Less_int again1 again2 t.1 t.2.1 t.2.2.1 t.2.2.2.1 t.2.2.2.2.1 t.2.2.2.2.2.1) (data, a, b, i, j, r29.1.1, ())
  else
    jn (fun t => B_slices_insertionSortOrdered_int_J0 k c_cmp_Less_int again1 again2 t.1 t.2.1 t.2.2.1 t.2.2.2.1 t.2.2.2.2.1 t.2.2.2.2.2.1) (data, a, b, i, j, false, ())
def B_slices_insertionSortOrdered_int_L1 (k : Nat) (c_cmp_Less_int : C_cmp_Less_int) (again2 : T_slices_insertionSortOrdered_int_L2 → R_slices_insertionSortOrdered_int) (n : Nat) (t : T_slices_insertionSortOrdered_int_L1) : R_slices_insertionSortOrdered_int :=
  lfix n (fun again t => B_slices_insertionSortOrdered_int_L1b k c_cmp_Less_int again2 again t.1 t.2.1 t.2.2.1 t.2.2.2.1 t.2.2.2.2.1) t
def B_slices_insertionSortOrdered_int_L2b (k : Nat) (c_cmp_Less_int : C_cmp_Less_int) (again2 : T_slices_insertionSortOrdered_int_L2 → R_slices_insertionSortOrdered_int) (data : List Int) (a b i : Int) : R_slices_insertionSortOrdered_int :=
  bif decide (i < b) then
    B_slices_insertionSortOrdered_int_L1 k c_cmp_Less_int again2 k (data, a, b, i, i, ())
  else
    some ((), (data, ()))
def B_slices_insertionSortOrdered_int_L2 (k : Nat) (c_cmp_Less_int : C_cmp_Less_int) (n : Nat) (t : T_slices_insertionSortOrdered_int_L2) : R_slices_insertionSortOrdered_int :=
  lfix n (fun again t => B_slices_insertionSortOrdered_int_L2b k c_cmp_Less_int again t.1 t.2.1 t.2.2.1 t.2.2.2.1) t
def B_slices_insertionSortOrdered_int (k : Nat) (c_cmp_Less_int : C_cmp_Less_int) (data : List Int) (a b : Int) : R_slices_insertionSortOrdered_int :=
  B_slices_insertionSortOrdered_int_L2 k c_cmp_Less_int k (data, a, b, w64 (a + 1), ())
def F_slices_insertionSortOrdered_int : Nat → C_slices_insertionSortOrdered_int
  | 0, _, _, _ => none
  | k + 1, data, a, b => B_slices_insertionSortOrdered_int k (F_cmp_Less_int k) data a b
theorem tot_slices_insertionSortOrdered_int {data a b : _} {Q : _ → Prop} (h : Tot (fun σ => B_slices_insertionSortOrdered_int (σ 0) (F_cmp_Less_int (σ 0)) data a b) Q) : Tot (fun σ => F_slices_insertionSortOrdered_int (σ 0) data a b) Q :=
  Tot.call (F := fun k => F_slices_insertionSortOrdered_int k data a b) (B := fun k => B_slices_insertionSortOrdered_int k (F_cmp_Less_int k) data a b) (fun k => rfl) h
abbrev A_slices_insertionSortOrdered_int_L1 (Z : Type) : Type := List Int → Int → Int → Int → Int → Z
abbrev u_slices_insertionSortOrdered_int_L1 {Z : Type} (f : A_slices_insertionSortOrdered_int_L1 Z) (t : T_slices_insertionSortOrdered_int_L1) : Z := f t.1 t.2.1 t.2.2.1 t.2.2.2.1 t.2.2.2.2.1
theorem loop_slices_insertionSortOrdered_int_L1 {again2 : (Nat → Nat) → T_slices_insertionSortOrdered_int_L2 → R_slices_insertionSortOrdered_int} (hag2 : Dep 2 again2) {Q : A_slices_insertionSortOrdered_int_L1 (((Unit) × (List Int × Unit)) → Prop)} (I : A_slices_insertionSortOrdered_int_L1 Prop) (μ : A_slices_insertionSortOrdered_int_L1 Nat)
    (step : ∀ a0 a1 a2 a3 a4, I a0 a1 a2 a3 a4 → ∀ again : (Nat → Nat) → T_slices_insertionSortOrdered_int_L1 → R_slices_insertionSortOrdered_int, Dep 3 again → (∀ y0 y1 y2 y3 y4, I y0 y1 y2 y3 y4 → μ y0 y1 y2 y3 y4 < μ a0 a1 a2 a3 a4 → Tot (fun σ => again σ (y0, y1, y2, y3, y4, ())) (Q y0 y1 y2 y3 y4)) →
      Tot (fun σ => B_slices_insertionSortOrdered_int_L1b (σ 0) (F_cmp_Less_int (σ 0)) (again2 σ) (again σ) a0 a1 a2 a3 a4) (Q a0 a1 a2 a3 a4)) :
    ∀ a0 a1 a2 a3 a4, I a0 a1 a2 a3 a4 → Tot (fun σ => B_slices_insertionSortOrdered_int_L1 (σ 0) (F_cmp_Less_int (σ 0)) (again2 σ) (σ 0) (a0, a1, a2, a3, a4, ())) (Q a0 a1 a2 a3 a4) := fun a0 a1 a2 a3 a4 => Tot.loop (L := fun σ n t => B_slices_insertionSortOrdered_int_L1 (σ 0) (F_cmp_Less_int (σ 0)) (again2 σ) n t) (B := fun σ g => u_slices_insertionSortOrdered_int_L1 (B_slices_insertionSortOrdered_int_L1b (σ 0) (F_cmp_Less_int (σ 0)) (again2 σ) g)) (Q := u_slices_insertionSortOrdered_int_L1 Q) 2 (by decide)
    (fun s s' h => by have e0 : s 0 = s' 0 := h 0 (by decide); simp only [e0, hag2 s s' h]) (fun s s' h => by have e0 : s 0 = s' 0 := h 0 (by decide); simp only [e0, hag2 s s' h]) (fun _ _ _ => rfl) (u_slices_insertionSortOrdered_int_L1 I) (u_slices_insertionSortOrdered_int_L1 μ)
    (fun t ht again hag h => step t.1 t.2.1 t.2.2.1 t.2.2.2.1 t.2.2.2.2.1 ht again hag fun y0 y1 y2 y3 y4 => h (y0, y1, y2, y3, y4, ())) (a0, a1, a2, a3, a4, ())
abbrev A_slices_insertionSortOrdered_int_L2 (Z : Type) : Type := List Int → Int → Int → Int → Z
abbrev u_slices_insertionSortOrdered_int_L2 {Z : Type} (f : A_slices_insertionSortOrdered_int_L2 Z) (t : T_slices_insertionSortOrdered_int_L2) : Z := f t.1 t.2.1 t.2.2.1 t.2.2.2.1
theorem loop_slices_insertionSortOrdered_int_L2 {Q : A_slices_insertionSortOrdered_int_L2 (((Unit) × (List Int × Unit)) → Prop)} (I : A_slices_insertionSortOrdered_int_L2 Prop) (μ : A_slices_insertionSortOrdered_int_L2 Nat)
    (step : ∀ a0 a1 a2 a3, I a0 a1 a2 a3 → ∀ again : (Nat → Nat) → T_slices_insertionSortOrdered_int_L2 → R_slices_insertionSortOrdered_int, Dep 2 again → (∀ y0 y1 y2 y3, I y0 y1 y2 y3 → μ y0 y1 y2 y3 < μ a0 a1 a2 a3 → Tot (fun σ => again σ (y0, y1, y2, y3, ())) (Q y0 y1 y2 y3)) →
      Tot (fun σ => B_slices_insertionSortOrdered_int_L2b (σ 0) (F_cmp_Less_int (σ 0)) (again σ) a0 a1 a2 a3) (Q a0 a1 a2 a3)) :
    ∀ a0 a1 a2 a3, I a0 a1 a2 a3 → Tot (fun σ => B_slices_insertionSortOrdered_int_L2 (σ 0) (F_cmp_Less_int (σ 0)) (σ 0) (a0, a1, a2, a3, ())) (Q a0 a1 a2 a3) := fun a0 a1 a2 a3 => Tot.loop0 (L := fun k => B_slices_insertionSortOrdered_int_L2 k (F_cmp_Less_int k)) (B := fun k g => u_slices_insertionSortOrdered_int_L2 (B_slices_insertionSortOrdered_int_L2b k (F_cmp_Less_int k) g)) (Q := u_slices_insertionSortOrdered_int_L2 Q) (fun _ _ _ => rfl) (u_slices_insertionSortOrdered_int_L2 I) (u_slices_insertionSortOrdered_int_L2 μ)
    (fun t ht again hag h => step t.1 t.2.1 t.2.2.1 t.2.2.2.1 ht again hag fun y0 y1 y2 y3 => h (y0, y1, y2, y3, ())) (a0, a1, a2, a3, ())
abbrev R_slices_siftDownOrdered_int : Type := Option ((Unit) × (List Int × Unit))
abbrev C_slices_siftDownOrdered_int : Type := List Int → Int → Int → Int → R_slices_siftDownOrdered_int
abbrev T_slices_siftDownOrdered_int_L2 : Type := List Int × Int × Int × Int × Unit
def B_slices_siftDownOrdered_int_J1 (k : Nat) (c_cmp_Less_int : C_cmp_Less_int) (again2 : T_slices_siftDownOrdered_int_L2 → R_slices_siftDownOrdered_int) (data : List Int) (hi first root child : Int) : R_slices_siftDownOrdered_int :=
  chk (inb (w64 (first + root)) data.length) <|
  chk (decide ((w64 (first + root)).toNat < data.length)) <|
  chk (inb (w64 (first + child)) data.length) <|
  chk (decide ((w64 (first + child)).toNat < data.length)) <|
  (c_cmp_Less_int (data.getD ((w64 (first + root)).toNat) (0 : Int)) (data.getD ((w64 (first + child)).toNat) (0 : Int))).bind fun r51 =>
  bif (!r51.1.1) then
    some ((), (data, ()))
  else
    chk (inb (w64 (first + child)) data.length) <|
    chk (decide ((w64 (first + child)).toNat < data.length)) <|
    chk (inb (w64 (first + root)) data.length) <|
    chk (decide ((w64 (first + root)).toNat < data.length)) <|
    chk (inb (w64 (first + root)) data.length) <|
    chk (decide ((w64 (first + root)).toNat < data.length)) <|
    chk (inb (w64 (first + child)) (data.set ((w64 (first + root)).toNat) (data.getD ((w64 (first + child)).toNat) (0 : Int))).length) <|
    chk (decide ((w64 (first + child)).toNat < (data.set ((w64 (first + root)).toNat) (data.getD ((w64 (first + child)).toNat) (0 : Int))).length)) <|
    again2 (((data.set ((w64 (first + root)).toNat) (data.getD ((w64 (first + child)).toNat) (0 : Int))).set ((w64 (first + child)).toNat) (data.getD ((w64 (first + root)).toNat) (0 : Int))), hi, first, child, ())
def B_slices_siftDownOrdered_int_J0 (k : Nat) (c_cmp_Less_int : C_cmp_Less_int) (again2 : T_slices_siftDownOrdered_int_L2 → R_slices_siftDownOrdered_int) (data : List Int) (hi first root child : Int) (t36 : Bool) : R_slices_siftDownOrdered_int :=
  bif t36 then
    jn (fun t => B_slices_siftDownOrdered_int_J1 k c_cmp_Less_int again2 t.1 t.2.1 t.2.2.1 t.2.2.2.1 t.2.2.2.2.1) (data, hi, first, root, w64 (child + 1), ())
  else
    jn (fun t => B_slices_siftDownOrdered_int_J1 k c_cmp_Less_int again2 t.1 t.2.1 t.2.2.1 t.2.2.2.1 t.2.2.2.2.1) (data, hi, first, root, child, ())
def B_slices_siftDownOrdered_int_L2b (k : Nat) (c_cmp_Less_int : C_cmp_Less_int) (again2 : T_slices_siftDownOrdered_int_L2 → R_slices_siftDownOrdered_int) (data : List Int) (hi first root : Int) : R_slices_siftDownOrdered_int :=
  bif decide ((w64 ((w64 (2 * root)) + 1)) ≥ hi) then
    some ((), (data, ()))
  else
    bif decide ((w64 ((w64 ((w64 (2 * root)) + 1)) + 1)) < hi) then
      chk (inb (w64 (first + (w64 ((w64 (2 * root)) + 1)))) data.length) <|
      chk (decide ((w64 (first + (w64 ((w64 (2 * root)) + 1)))).toNat < data.length)) <|
      chk (inb (w64 ((w64 (first + (w64 ((w64 (2 * root)) + 1)))) + 1)) data.length) <|
      chk (decide ((w64 ((w64 (first + (w64 ((w64 (2 * root)) + 1)))) + 1)).toNat < data.length)) <|
      (c_cmp_Less_int (data.getD ((w64 (first + (w64 ((w64 (2 * root)) + 1)))).toNat) (0 : Int)) (data.getD ((w64 ((w64 (first + (w64 ((w64 (2 * root)) + 1)))) + 1)).toNat) (0 : Int))).bind fun r35 =>
      jn (fun t => B_slices_siftDownOrdered_int_J0 k c_cmp_Less_int again2 t.1 t.2.1 t.2.2.1 t.2.2.2.1 t.2.2.2.2.1 t.2.2.2.2.2.1) (data, hi, first, root, w64 ((w64 (2 * root)) + 1), r35.1.1, ())
    else
      jn (fun t => B_slices_siftDownOrdered_int_J0 k c_cmp_Less_int again2 t.1 t.2.1 t.2.2.1 t.2.2.2.1 t.2.2.2.2.1 t.2.2.2.2.2.1) (data, hi, first, root, w64 ((w64 (2 * root)) + 1), false, ())
def B_slices_siftDownOrdered_int_L2 (k : Nat) (c_cmp_Less_int : C_cmp_Less_int) (n : Nat) (t : T_slices_siftDownOrdered_int_L2) : R_slices_siftDownOrdered_int :=
  lfix n (fun again t => B_slices_siftDownOrdered_int_L2b k c_cmp_Less_int again t.1 t.2.1 t.2.2.1 t.2.2.2.1) t
def B_slices_siftDownOrdered_int (k : Nat) (c_cmp_Less_int : C_cmp_Less_int) (data : List Int) (lo hi first : Int) : R_slices_siftDownOrdered_int :=
  B_slices_siftDownOrdered_int_L2 k c_cmp_Less_int k (data, hi, first, lo, ())
def F_slices_siftDownOrdered_int : Nat → C_slices_siftDownOrdered_int
  | 0, _, _, _, _ => none
  | k + 1, data, lo, hi, first => B_slices_siftDownOrdered_int k (F_cmp_Less_int k) data lo hi first
theorem tot_slices_siftDownOrdered_int {data lo hi first : _} {Q : _ → Prop} (h : Tot (fun σ => B_slices_siftDownOrdered_int (σ 0) (F_cmp_Less_int (σ 0)) data lo hi first) Q) : Tot (fun σ => F_slices_siftDownOrdered_int (σ 0) data lo hi first) Q :=
  Tot.call (F := fun k => F_slices_siftDownOrdered_int k data lo hi first) (B := fun k => B_slices_siftDownOrdered_int k (F_cmp_Less_int k) data lo hi first) (fun k => rfl) h
abbrev A_slices_siftDownOrdered_int_L2 (Z : Type) : Type := List Int → Int → Int → Int → Z
abbrev u_slices_siftDownOrdered_int_L2 {Z : Type} (f : A_slices_siftDownOrdered_int_L2 Z) (t : T_slices_siftDownOrdered_int_L2) : Z := f t.1 t.2.1 t.2.2.1 t.2.2.2.1
theorem loop_slices_siftDownOrdered_int_L2 {Q : A_slices_siftDownOrdered_int_L2 (((Unit) × (List Int × Unit)) → Prop)} (I : A_slices_siftDownOrdered_int_L2 Prop) (μ : A_slices_siftDownOrdered_int_L2 Nat)
    (step : ∀ a0 a1 a2 a3, I a0 a1 a2 a3 → ∀ again : (Nat → Nat) → T_slices_siftDownOrdered_int_L2 → R_slices_siftDownOrdered_int, Dep 2 again → (∀ y0 y1 y2 y3, I y0 y1 y2 y3 → μ y0 y1 y2 y3 < μ a0 a1 a2 a3 → Tot (fun σ => again σ (y0, y1, y2, y3, ())) (Q y0 y1 y2 y3)) →
      Tot (fun σ => B_slices_siftDownOrdered_int_L2b (σ 0) (F_cmp_Less_int (σ 0)) (again σ) a0 a1 a2 a3) (Q a0 a1 a2 a3)) :
    ∀ a0 a1 a2 a3, I a0 a1 a2 a3 → Tot (fun σ => B_slices_siftDownOrdered_int_L2 (σ 0) (F_cmp_Less_int (σ 0)) (σ 0) (a0, a1, a2, a3, ())) (Q a0 a1 a2 a3) := fun a0 a1 a2 a3 => Tot.loop0 (L := fun k => B_slices_siftDownOrdered_int_L2 k (F_cmp_Less_int k)) (B := fun k g => u_slices_siftDownOrdered_int_L2 (B_slices_siftDownOrdered_int_L2b k (F_cmp_Less_int k) g)) (Q := u_slices_siftDownOrdered_int_L2 Q) (fun _ _ _ => rfl) (u_slices_siftDownOrdered_int_L2 I) (u_slices_siftDownOrdered_int_L2 μ)
    (fun t ht again hag h => step t.1 t.2.1 t.2.2.1 t.2.2.2.1 ht again hag fun y0 y1 y2 y3 => h (y0, y1, y2, y3, ())) (a0, a1, a2, a3, ())
abbrev R_slices_heapSortOrdered_int : Type := Option ((Unit) × (List Int × Unit))
abbrev C_slices_heapSortOrdered_int : Type := List Int → Int → Int → R_slices_heapSortOrdered_int
abbrev T_slices_heapSortOrdered_int_L1 : Type := List Int × Int × Int × Int × Unit
abbrev T_slices_heapSortOrdered_int_L0 : Type := List Int × Int × Int × Int × Int × Unit
def B_slices_heapSortOrdered_int_L1b (k : Nat) (c_slices_siftDownOrdered_int : C_slices_siftDownOrdered_int) (again1 : T_slices_heapSortOrdered_int_L1 → R_slices_heapSortOrdered_int) (data : List Int) (first lo i : Int) : R_slices_heapSortOrdered_int :=
  bif decide (i ≥ 0) then
    chk (inb (w64 (first + i)) data.length) <|
    chk (decide ((w64 (first + i)).toNat < data.length)) <|
    chk (inb first data.length) <|
    chk (decide (first.toNat < data.length)) <|
    chk (inb first data.length) <|
    chk (decide (first.toNat < data.length)) <|
    chk (inb (w64 (first + i)) (data.set first.toNat (data.getD ((w64 (first + i)).toNat) (0 : Int))).length) <|
    chk (decide ((w64 (first + i)).toNat < (data.set first.toNat (data.getD ((w64 (first + i)).toNat) (0 : Int))).length)) <|
    (c_slices_siftDownOrdered_int ((data.set first.toNat (data.getD ((w64 (first + i)).toNat) (0 : Int))).set ((w64 (first + i)).toNat) (data.getD first.toNat (0 : Int))) lo i first).bind fun r55 =>
    again1 (r55.2.1, first, lo, w64 (i - 1), ())
  else
    some ((), (data, ()))
def B_slices_heapSortOrdered_int_L1 (k : Nat) (c_slices_siftDownOrdered_int : C_slices_siftDownOrdered_int) (n : Nat) (t : T_slices_heapSortOrdered_int_L1) : R_slices_heapSortOrdered_int :=
  lfix n (fun again t => B_slices_heapSortOrdered_int_L1b k c_slices_siftDownOrdered_int again t.1 t.2.1 t.2.2.1 t.2.2.2.1) t
def B_slices_heapSortOrdered_int_L0b (k : Nat) (c_slices_siftDownOrdered_int : C_slices_siftDownOrdered_int) (again0 : T_slices_heapSortOrdered_int_L0 → R_slices_heapSortOrdered_int) (data : List Int) (first lo hi i : Int) : R_slices_heapSortOrdered_int :=
  bif decide (i ≥ 0) then
    (c_slices_siftDownOrdered_int data i hi first).bind fun r26 =>
    again0 (r26.2.1, first, lo, hi, w64 (i - 1), ())
  else
    B_slices_heapSortOrdered_int_L1 k c_slices_siftDownOrdered_int k (data, first, lo, w64 (hi - 1), ())
def B_slices_heapSortOrdered_int_L0 (k : Nat) (c_slices_siftDownOrdered_int : C_slices_siftDownOrdered_int) (n : Nat) (t : T_slices_heapSortOrdered_int_L0) : R_slices_heapSortOrdered_int :=
  lfix n (fun again t => B_slices_heapSortOrdered_int_L0b k c_slices_siftDownOrdered_int again t.1 t.2.1 t.2.2.1 t.2.2.2.1 t.2.2.2.2.1) t
def B_slices_heapSortOrdered_int (k : Nat) (c_slices_siftDownOrdered_int : C_slices_siftDownOrdered_int) (data : List Int) (a b : Int) : R_slices_heapSortOrdered_int :=
  B_slices_heapSortOrdered_int_L0 k c_slices_siftDownOrdered_int k (data, a, 0, w64 (b - a), w64 ((w64 ((w64 (b - a)) - 1)).tdiv 2), ())
def F_slices_heapSortOrdered_int : Nat → C_slices_heapSortOrdered_int
  | 0, _, _, _ => none
  | k + 1, data, a, b => B_slices_heapSortOrdered_int k (F_slices_siftDownOrdered_int k) data a b
theorem tot_slices_heapSortOrdered_int {data a b : _} {Q : _ → Prop} (h : Tot (fun σ => B_slices_heapSortOrdered_int (σ 0) (F_slices_siftDownOrdered_int (σ 0)) data a b) Q) : Tot (fun σ => F_slices_heapSortOrdered_int (σ 0) data a b) Q :=
  Tot.call (F := fun k => F_slices_heapSortOrdered_int k data a b) (B := fun k => B_slices_heapSortOrdered_int k (F_slices_siftDownOrdered_int k) data a b) (fun k => rfl) h
abbrev A_slices_heapSortOrdered_int_L1 (Z : Type) : Type := List Int → Int → Int → Int → Z
abbrev u_slices_heapSortOrdered_int_L1 {Z : Type} (f : A_slices_heapSortOrdered_int_L1 Z) (t : T_slices_heapSortOrdered_int_L1) : Z := f t.1 t.2.1 t.2.2.1 t.2.2.2.1
theorem loop_slices_heapSortOrdered_int_L1 {Q : A_slices_heapSortOrdered_int_L1 (((Unit) × (List Int × Unit)) → Prop)} (I : A_slices_heapSortOrdered_int_L1 Prop) (μ : A_slices_heapSortOrdered_int_L1 Nat)
    (step : ∀ a0 a1 a2 a3, I a0 a1 a2 a3 → ∀ again : (Nat → Nat) → T_slices_heapSortOrdered_int_L1 → R_slices_heapSortOrdered_int, Dep 2 again → (∀ y0 y1 y2 y3, I y0 y1 y2 y3 → μ y0 y1 y2 y3 < μ a0 a1 a2 a3 → Tot (fun σ => again σ (y0, y1, y2, y3, ())) (Q y0 y1 y2 y3)) →
      Tot (fun σ => B_slices_heapSortOrdered_int_L1b (σ 0) (F_slices_siftDownOrdered_int (σ 0)) (again σ) a0 a1 a2 a3) (Q a0 a1 a2 a3)) :
    ∀ a0 a1 a2 a3, I a0 a1 a2 a3 → Tot (fun σ => B_slices_heapSortOrdered_int_L1 (σ 0) (F_slices_siftDownOrdered_int (σ 0)) (σ 0) (a0, a1, a2, a3, ())) (Q a0 a1 a2 a3) := fun a0 a1 a2 a3 => Tot.loop0 (L := fun k => B_slices_heapSortOrdered_int_L1 k (F_slices_siftDownOrdered_int k)) (B := fun k g => u_slices_heapSortOrdered_int_L1 (B_slices_heapSortOrdered_int_L1b k (F_slices_siftDownOrdered_int k) g)) (Q := u_slices_heapSortOrdered_int_L1 Q) (fun _ _ _ => rfl) (u_slices_heapSortOrdered_int_L1 I) (u_slices_heapSortOrdered_int_L1 μ)
    (fun t ht again hag h => step t.1 t.2.1 t.2.2.1 t.2.2.2.1 ht again hag fun y0 y1 y2 y3 => h (y0, y1, y2, y3, ())) (a0, a1, a2, a3, ())
abbrev A_slices_heapSortOrdered_int_L0 (Z : Type) : Type := List Int → Int → Int → Int → Int → Z
abbrev u_slices_heapSortOrdered_int_L0 {Z : Type} (f : A_slices_heapSortOrdered_int_L0 Z) (t : T_slices_heapSortOrdered_int_L0) : Z := f t.1 t.2.1 t.2.2.1 t.2.2.2.1 t.2.2.2.2.1
theorem loop_slices_heapSortOrdered_int_L0 {Q : A_slices_heapSortOrdered_int_L0 (((Unit) × (List Int × Unit)) → Prop)} (I : A_slices_heapSortOrdered_int_L0 Prop) (μ : A_slices_heapSortOrdered_int_L0 Nat)
    (step : ∀ a0 a1 a2 a3 a4, I a0 a1 a2 a3 a4 → ∀ again : (Nat → Nat) → T_slices_heapSortOrdered_int_L0 → R_slices_heapSortOrdered_int, Dep 2 again → (∀ y0 y1 y2 y3 y4, I y0 y1 y2 y3 y4 → μ y0 y1 y2 y3 y4 < μ a0 a1 a2 a3 a4 → Tot (fun σ => again σ (y0, y1, y2, y3, y4, ())) (Q y0 y1 y2 y3 y4)) →
      Tot (fun σ => B_slices_heapSortOrdered_int_L0b (σ 0) (F_slices_siftDownOrdered_int (σ 0)) (again σ) a0 a1 a2 a3 a4) (Q a0 a1 a2 a3 a4)) :
    ∀ a0 a1 a2 a3 a4, I a0 a1 a2 a3 a4 → Tot (fun σ => B_slices_heapSortOrdered_int_L0 (σ 0) (F_slices_siftDownOrdered_int (σ 0)) (σ 0) (a0, a1, a2, a3, a4, ())) (Q a0 a1 a2 a3 a4) := fun a0 a1 a2 a3 a4 => Tot.loop0 (L := fun k => B_slices_heapSortOrdered_int_L0 k (F_slices_siftDownOrdered_int k)) (B := fun k g => u_slices_heapSortOrdered_int_L0 (B_slices_heapSortOrdered_int_L0b k (F_slices_siftDownOrdered_int k) g)) (Q := u_slices_heapSortOrdered_int_L0 Q) (fun _ _ _ => rfl) (u_slices_heapSortOrdered_int_L0 I) (u_slices_heapSortOrdered_int_L0 μ)
    (fun t ht again hag h => step t.1 t.2.1 t.2.2.1 t.2.2.2.1 t.2.2.2.2.1 ht again hag fun y0 y1 y2 y3 y4 => h (y0, y1, y2, y3, y4, ())) (a0, a1, a2, a3, a4, ())
abbrev R_slices_nextPowerOfTwo : Type := Option ((Int × Unit) × (Unit))
abbrev C_slices_nextPowerOfTwo : Type := Int → R_slices_nextPowerOfTwo
def B_slices_nextPowerOfTwo (k : Nat) (c_bits_Len : C_bits_Len) (length : Int) : R_slices_nextPowerOfTwo :=
  (c_bits_Len (IntKind.wrap .u64 (length))).bind fun r5 =>
  chk (decide (0 ≤ r5.1.1)) <|
  some (((shlK .u64 1 r5.1.1), ()), ())
def F_slices_nextPowerOfTwo : Nat → C_slices_nextPowerOfTwo
  | 0, _ => none
  | k + 1, length => B_slices_nextPowerOfTwo k (F_bits_Len k) length
theorem tot_slices_nextPowerOfTwo {length : _} {Q : _ → Prop} (h : Tot (fun σ => B_slices_nextPowerOfTwo (σ 0) (F_bits_Len (σ 0)) length) Q) : Tot (fun σ => F_slices_nextPowerOfTwo (σ 0) length) Q :=
  Tot.call (F := fun k => F_slices_nextPowerOfTwo k length) (B := fun k => B_slices_nextPowerOfTwo k (F_bits_Len k) length) (fun k => rfl) h
abbrev R_slices_xorshift_Next : Type := Option ((Int × Unit) × ((Int × Unit) × Unit))
abbrev C_slices_xorshift_Next : Type := Int → R_slices_xorshift_Next
def B_slices_xorshift_Next (k : Nat) (r : Int) : R_slices_xorshift_Next :=
  let v27 : Int := (shlK .u64 (xorK .u64 (xorK .u64 r (shlK .u64 r 13)) (shrK .u64 (xorK .u64 r (shlK .u64 r 13)) 7)) 17)
  let v28 : Int := (xorK .u64 (xorK .u64 (xorK .u64 r (shlK .u64 r 13)) (shrK .u64 (xorK .u64 r (shlK .u64 r 13)) 7)) v27)
  some ((v28, ()), ((v28, ()), ()))
def F_slices_xorshift_Next : Nat → C_slices_xorshift_Next
  | 0, _ => none
  | k + 1, r => B_slices_xorshift_Next k r
theorem tot_slices_xorshift_Next {r : _} {Q : _ → Prop} (h : Tot (fun σ => B_slices_xorshift_Next (σ 0) r) Q) : Tot (fun σ => F_slices_xorshift_Next (σ 0) r) Q :=
  Tot.call (F := fun k => F_slices_xorshift_Next k r) (B := fun k => B_slices_xorshift_Next k r) (fun k => rfl) h
abbrev R_slices_breakPatternsOrdered_int : Type := Option ((Unit) × (List Int × Unit))
abbrev C_slices_breakPatternsOrdered_int : Type := List Int → Int → Int → R_slices_breakPatternsOrdered_int
abbrev T_slices_breakPatternsOrdered_int_L1 : Type := List Int × Int × Int × (Int × Unit) × Int × Int × Unit
def B_slices_breakPatternsOrdered_int_J0 (k : Nat) (c_slices_nextPowerOfTwo : C_slices_nextPowerOfTwo) (c_slices_xorshift_Next : C_slices_xorshift_Next) (again1 : T_slices_breakPatternsOrdered_int_L1 → R_slices_breakPatternsOrdered_int) (data : List Int) (a length random modulus idx other : Int) : R_slices_breakPatternsOrdered_int :=
  chk (inb (w64 (a + other)) data.length) <|
  chk (decide ((w64 (a + other)).toNat < data.length)) <|
  chk (inb idx data.length) <|
  chk (decide (idx.toNat < data.length)) <|
  chk (inb idx data.length) <|
  chk (decide (idx.toNat < data.length)) <|
  chk (inb (w64 (a + other)) (data.set idx.toNat (data.getD ((w64 (a + other)).toNat) (0 : Int))).length) <|
  chk (decide ((w64 (a + other)).toNat < (data.set idx.toNat (data.getD ((w64 (a + other)).toNat) (0 : Int))).length)) <|
  again1 (((data.set idx.toNat (data.getD ((w64 (a + other)).toNat) (0 : Int))).set ((w64 (a + other)).toNat) (data.getD idx.toNat (0 : Int))), a, length, (random, ()), modulus, w64 (idx + 1), ())
def B_slices_breakPatternsOrdered_int_L1b (k : Nat) (c_slices_nextPowerOfTwo : C_slices_nextPowerOfTwo) (c_slices_xorshift_Next : C_slices_xorshift_Next) (again1 : T_slices_breakPatternsOrdered_int_L1 → R_slices_breakPatternsOrdered_int) (data : List Int) (a length random modulus idx : Int) : R_slices_breakPatternsOrdered_int :=
  bif decide (idx ≤ (w64 ((w64 (a + (w64 ((w64 (length.tdiv 4)) * 2)))) + 1))) then
    (c_slices_xorshift_Next random).bind fun r36 =>
    bif decide ((w64 ((andK .u64 r36.1.1 (IntKind.wrap .u64 (modulus - 1))))) ≥ length) then
      jn (fun t => B_slices_breakPatternsOrdered_int_J0 k c_slices_nextPowerOfTwo c_slices_xorshift_Next again1 t.1 t.2.1 t.2.2.1 t.2.2.2.1.1 t.2.2.2.2.1 t.2.2.2.2.2.1 t.2.2.2.2.2.2.1) (data, a, length, (r36.2.1.1, ()), modulus, idx, w64 ((w64 ((andK .u64 r36.1.1 (IntKind.wrap .u64 (modulus - 1))))) - length), ())
    else
      jn (fun t => B_slices_breakPatternsOrdered_int_J0 k c_slices_nextPowerOfTwo c_slices_xorshift_Next again1 t.1 t.2.1 t.2.2.1 t.2.2.2.1.1 t.2.2.2.2.1 t.2.2.2.2.2.1 t.2.2.2.2.2.2.1) (data, a, length, (r36.2.1.1, ()), modulus, idx, w64 ((andK .u64 r36.1.1 (IntKind.wrap .u64 (modulus - 1)))), ())
  else
    some ((), (data, ()))
def B_slices_breakPatternsOrdered_int_L1 (k : Nat) (c_slices_nextPowerOfTwo : C_slices_nextPowerOfTwo) (c_slices_xorshift_Next : C_slices_xorshift_Next) (n : Nat) (t : T_slices_breakPatternsOrdered_int_L1) : R_slices_breakPatternsOrdered_int :=
  lfix n (fun again t => B_slices_breakPatternsOrdered_int_L1b k c_slices_nextPowerOfTwo c_slices_xorshift_Next again t.1 t.2.1 t.2.2.1 t.2.2.2.1.1 t.2.2.2.2.1 t.2.2.2.2.2.1) t
def B_slices_breakPatternsOrdered_int (k : Nat) (c_slices_nextPowerOfTwo : C_slices_nextPowerOfTwo) (c_slices_xorshift_Next : C_slices_xorshift_Next) (data : List Int) (a b : Int) : R_slices_breakPatternsOrdered_int :=
  bif decide ((w64 (b - a)) ≥ 8) then
    (c_slices_nextPowerOfTwo (w64 (b - a))).bind fun r19 =>
    B_slices_breakPatternsOrdered_int_L1 k c_slices_nextPowerOfTwo c_slices_xorshift_Next k (data, a, w64 (b - a), (IntKind.wrap .u64 (w64 (b - a)), ()), r19.1.1, w64 ((w64 (a + (w64 ((w64 ((w64 (b - a)).tdiv 4)) * 2)))) - 1), ())
  else
    some ((), (data, ()))
def F_slices_breakPatternsOrdered_int : Nat → C_slices_breakPatternsOrdered_int
  | 0, _, _, _ => none
  | k + 1, data, a, b => B_slices_breakPatternsOrdered_int k (F_slices_nextPowerOfTwo k) (F_slices_xorshift_Next k) data a b
theorem tot_slices_breakPatternsOrdered_int {data a b : _} {Q : _ → Prop} (h : Tot (fun σ => B_slices_breakPatternsOrdered_int (σ 0) (F_slices_nextPowerOfTwo (σ 0)) (F_slices_xorshift_Next (σ 0)) data a b) Q) : Tot (fun σ => F_slices_breakPatternsOrdered_int (σ 0) data a b) Q :=
  Tot.call (F := fun k => F_slices_breakPatternsOrdered_int k data a b) (B := fun k => B_slices_breakPatternsOrdered_int k (F_slices_nextPowerOfTwo k) (F_slices_xorshift_Next k) data a b) (fun k => rfl) h
abbrev A_slices_breakPatternsOrdered_int_L1 (Z : Type) : Type := List Int → Int → Int → Int → Int → Int → Z
abbrev u_slices_breakPatternsOrdered_int_L1 {Z : Type} (f : A_slices_breakPatternsOrdered_int_L1 Z) (t : T_slices_breakPatternsOrdered_int_L1) : Z := f t.1 t.2.1 t.2.2.1 t.2.2.2.1.1 t.2.2.2.2.1 t.2.2.2.2.2.1
theorem loop_slices_breakPatternsOrdered_int_L1 {Q : A_slices_breakPatternsOrdered_int_L1 (((Unit) × (List Int × Unit)) → Prop)} (I : A_slices_breakPatternsOrdered_int_L1 Prop) (μ : A_slices_breakPatternsOrdered_int_L1 Nat)
    (step : ∀ a0 a1 a2 a3 a4 a5, I a0 a1 a2 a3 a4 a5 → ∀ again : (Nat → Nat) → T_slices_breakPatternsOrdered_int_L1 → R_slices_breakPatternsOrdered_int, Dep 2 again → (∀ y0 y1 y2 y3 y4 y5, I y0 y1 y2 y3 y4 y5 → μ y0 y1 y2 y3 y4 y5 < μ a0 a1 a2 a3 a4 a5 → Tot (fun σ => again σ (y0, y1, y2, (y3, ()), y4, y5, ())) (Q y0 y1 y2 y3 y4 y5)) →
      Tot (fun σ => B_slices_breakPatternsOrdered_int_L1b (σ 0) (F_slices_nextPowerOfTwo (σ 0)) (F_slices_xorshift_Next (σ 0)) (again σ) a0 a1 a2 a3 a4 a5) (Q a0 a1 a2 a3 a4 a5)) :
    ∀ a0 a1 a2 a3 a4 a5, I a0 a1 a2 a3 a4 a5 → Tot (fun σ => B_slices_breakPatternsOrdered_int_L1 (σ 0) (F_slices_nextPowerOfTwo (σ 0)) (F_slices_xorshift_Next (σ 0)) (σ 0) (a0, a1, a2, (a3, ()), a4, a5, ())) (Q a0 a1 a2 a3 a4 a5) := fun a0 a1 a2 a3 a4 a5 => Tot.loop0 (L := fun k => B_slices_breakPatternsOrdered_int_L1 k (F_slices_nextPowerOfTwo k) (F_slices_xorshift_Next k)) (B := fun k g => u_slices_breakPatternsOrdered_int_L1 (B_slices_breakPatternsOrdered_int_L1b k (F_slices_nextPowerOfTwo k) (F_slices_xorshift_Next k) g)) (Q := u_slices_breakPatternsOrdered_int_L1 Q) (fun _ _ _ => rfl) (u_slices_breakPatternsOrdered_int_L1 I) (u_slices_breakPatternsOrdered_int_L1 μ)
    (fun t ht again hag h => step t.1 t.2.1 t.2.2.1 t.2.2.2.1.1 t.2.2.2.2.1 t.2.2.2.2.2.1 ht again hag fun y0 y1 y2 y3 y4 y5 => h (y0, y1, y2, (y3, ()), y4, y5, ())) (a0, a1, a2, (a3, ()), a4, a5, ())
abbrev R_slices_order2Ordered_int : Type := Option ((Int × Int × Unit) × ((Int × Unit) × Unit))
abbrev C_slices_order2Ordered_int : Type := List Int → Int → Int → Int → R_slices_order2Ordered_int
def B_slices_order2Ordered_int (k : Nat) (c_cmp_Less_int : C_cmp_Less_int) (data : List Int) (a b swaps : Int) : R_slices_order2Ordered_int :=
  chk (inb b data.length) <|
  chk (inb a data.length) <|
  (c_cmp_Less_int (rdx (0 : Int) data b) (rdx (0 : Int) data a)).bind fun r18 =>
  bif r18.1.1 then
    some ((b, a, ()), ((w64 (swaps + 1), ()), ()))
  else
    some ((a, b, ()), ((swaps, ()), ()))
def F_slices_order2Ordered_int : Nat → C_slices_order2Ordered_int
  | 0, _, _, _, _ => none
  | k + 1, data, a, b, swaps => B_slices_order2Ordered_int k (F_cmp_Less_int k) data a b swaps
theorem tot_slices_order2Ordered_int {data a b swaps : _} {Q : _ → Prop} (h : Tot (fun σ => B_slices_order2Ordered_int (σ 0) (F_cmp_Less_int (σ 0)) data a b swaps) Q) : Tot (fun σ => F_slices_order2Ordered_int (σ 0) data a b swaps) Q :=
  Tot.call (F := fun k => F_slices_order2Ordered_int k data a b swaps) (B := fun k => B_slices_order2Ordered_int k (F_cmp_Less_int k) data a b swaps) (fun k => rfl) h
abbrev R_slices_medianOrdered_int : Type := Option ((Int × Unit) × ((Int × Unit) × Unit))
abbrev C_slices_medianOrdered_int : Type := List Int → Int → Int → Int → Int → R_slices_medianOrdered_int
def B_slices_medianOrdered_int (k : Nat) (c_slices_order2Ordered_int : C_slices_order2Ordered_int) (data : List Int) (a b c swaps : Int) : R_slices_medianOrdered_int :=
  (c_slices_order2Ordered_int data a b swaps).bind fun r16 =>
  (c_slices_order2Ordered_int data r16.1.2.1 c r16.2.1.1).bind fun r24 =>
  (c_slices_order2Ordered_int data r16.1.1 r24.1.1 r24.2.1.1).bind fun r32 =>
  some ((r32.1.2.1, ()), ((r32.2.1.1, ()), ()))
def F_slices_medianOrdered_int : Nat → C_slices_medianOrdered_int
  | 0, _, _, _, _, _ => none
  | k + 1, data, a, b, c, swaps => B_slices_medianOrdered_int k (F_slices_order2Ordered_int k) data a b c swaps
theorem tot_slices_medianOrdered_int {data a b c swaps : _} {Q : _ → Prop} (h : Tot (fun σ => B_slices_medianOrdered_int (σ 0) (F_slices_order2Ordered_int (σ 0)) data a b c swaps) Q) : Tot (fun σ => F_slices_medianOrdered_int (σ 0) data a b c swaps) Q :=
  Tot.call (F := fun k => F_slices_medianOrdered_int k data a b c swaps) (B := fun k => B_slices_medianOrdered_int k (F_slices_order2Ordered_int k) data a b c swaps) (fun k => rfl) h
abbrev R_slices_medianAdjacentOrdered_int : Type := Option ((Int × Unit) × ((Int × Unit) × Unit))
abbrev C_slices_medianAdjacentOrdered_int : Type := List Int → Int → Int → R_slices_medianAdjacentOrdered_int
def B_slices_medianAdjacentOrdered_int (k : Nat) (c_slices_medianOrdered_int : C_slices_medianOrdered_int) (data : List Int) (a swaps : Int) : R_slices_medianAdjacentOrdered_int :=
  (c_slices_medianOrdered_int data (w64 (a - 1)) a (w64 (a + 1)) swaps).bind fun r14 =>
  some ((r14.1.1, ()), ((r14.2.1.1, ()), ()))
def F_slices_medianAdjacentOrdered_int : Nat → C_slices_medianAdjacentOrdered_int
  | 0, _, _, _ => none
  | k + 1, data, a, swaps => B_slices_medianAdjacentOrdered_int k (F_slices_medianOrdered_int k) data a swaps
theorem tot_slices_medianAdjacentOrdered_int {data a swaps : _} {Q : _ → Prop} (h : Tot (fun σ => B_slices_medianAdjacentOrdered_int (σ 0) (F_slices_medianOrdered_int (σ 0)) data a swaps) Q) : Tot (fun σ => F_slices_medianAdjacentOrdered_int (σ 0) data a swaps) Q :=
  Tot.call (F := fun k => F_slices_medianAdjacentOrdered_int k data a swaps) (B := fun k => B_slices_medianAdjacentOrdered_int k (F_slices_medianOrdered_int k) data a swaps) (fun k => rfl) h
abbrev R_slices_choosePivotOrdered_int : Type := Option ((Int × Int × Unit) × (Unit))
abbrev C_slices_choosePivotOrdered_int : Type := List Int → Int → Int → R_slices_choosePivotOrdered_int
def B_slices_choosePivotOrdered_int_J1 (k : Nat) (c_slices_medianAdjacentOrdered_int : C_slices_medianAdjacentOrdered_int) (c_slices_medianOrdered_int : C_slices_medianOrdered_int) (swaps j : Int) : R_slices_choosePivotOrdered_int :=
  bif (swaps == 0) then
    some ((j, 1, ()), ())
  else
    bif (swaps == 12) then
      some ((j, 2, ()), ())
    else
      some ((j, 0, ()), ())
def B_slices_choosePivotOrdered_int_J0 (k : Nat) (c_slices_medianAdjacentOrdered_int : C_slices_medianAdjacentOrdered_int) (c_slices_medianOrdered_int : C_slices_medianOrdered_int) (data : List Int) (swaps i j k12 : Int) : R_slices_choosePivotOrdered_int :=
  (c_slices_medianOrdered_int data i j k12 swaps).bind fun r48 =>
  jn (fun t => B_slices_choosePivotOrdered_int_J1 k c_slices_medianAdjacentOrdered_int c_slices_medianOrdered_int t.1.1 t.2.1) ((r48.2.1.1, ()), r48.1.1, ())
def B_slices_choosePivotOrdered_int (k : Nat) (c_slices_medianAdjacentOrdered_int : C_slices_medianAdjacentOrdered_int) (c_slices_medianOrdered_int : C_slices_medianOrdered_int) (data : List Int) (a b : Int) : R_slices_choosePivotOrdered_int :=
  bif decide ((w64 (b - a)) ≥ 8) then
    bif decide ((w64 (b - a)) ≥ 50) then
      (c_slices_medianAdjacentOrdered_int data (w64 (a + (w64 ((w64 ((w64 (b - a)).tdiv 4)) * 1)))) 0).bind fun r37 =>
      (c_slices_medianAdjacentOrdered_int data (w64 (a + (w64 ((w64 ((w64 (b - a)).tdiv 4)) * 2)))) r37.2.1.1).bind fun r40 =>
      (c_slices_medianAdjacentOrdered_int data (w64 (a + (w64 ((w64 ((w64 (b - a)).tdiv 4)) * 3)))) r40.2.1.1).bind fun r43 =>
      jn (fun t => B_slices_choosePivotOrdered_int_J0 k c_slices_medianAdjacentOrdered_int c_slices_medianOrdered_int t.1 t.2.1.1 t.2.2.1 t.2.2.2.1 t.2.2.2.2.1) (data, (r43.2.1.1, ()), r37.1.1, r40.1.1, r43.1.1, ())
    else
      jn (fun t => B_slices_choosePivotOrdered_int_J0 k c_slices_medianAdjacentOrdered_int c_slices_medianOrdered_int t.1 t.2.1.1 t.2.2.1 t.2.2.2.1 t.2.2.2.2.1) (data, (0, ()), w64 (a + (w64 ((w64 ((w64 (b - a)).tdiv 4)) * 1))), w64 (a + (w64 ((w64 ((w64 (b - a)).tdiv 4)) * 2))), w64 (a + (w64 ((w64 ((w64 (b - a)).tdiv 4)) * 3))), ())
  else
    jn (fun t => B_slices_choosePivotOrdered_int_J1 k c_slices_medianAdjacentOrdered_int c_slices_medianOrdered_int t.1.1 t.2.1) ((0, ()), w64 (a + (w64 ((w64 ((w64 (b - a)).tdiv 4)) * 2))), ())
def F_slices_choosePivotOrdered_int : Nat → C_slices_choosePivotOrdered_int
  | 0, _, _, _ => none
  | k + 1, data, a, b => B_slices_choosePivotOrdered_int k (F_slices_medianAdjacentOrdered_int k) (F_slices_medianOrdered_int k) data a b
theorem tot_slices_choosePivotOrdered_int {data a b : _} {Q : _ → Prop} (h : Tot (fun σ => B_slices_choosePivotOrdered_int (σ 0) (F_slices_medianAdjacentOrdered_int (σ 0)) (F_slices_medianOrdered_int (σ 0)) data a b) Q) : Tot (fun σ => F_slices_choosePivotOrdered_int (σ 0) data a b) Q :=
  Tot.call (F := fun k => F_slices_choosePivotOrdered_int k data a b) (B := fun k => B_slices_choosePivotOrdered_int k (F_slices_medianAdjacentOrdered_int k) (F_slices_medianOrdered_int k) data a b) (fun k => rfl) h
abbrev R_slices_reverseRangeOrdered_int : Type := Option ((Unit) × (List Int × Unit))
abbrev C_slices_reverseRangeOrdered_int : Type := List Int → Int → Int → R_slices_reverseRangeOrdered_int
abbrev T_slices_reverseRangeOrdered_int_L0 : Type := List Int × Int × Int × Unit
def B_slices_reverseRangeOrdered_int_L0b (k : Nat) (again0 : T_slices_reverseRangeOrdered_int_L0 → R_slices_reverseRangeOrdered_int) (data : List Int) (i j : Int) : R_slices_reverseRangeOrdered_int :=
  bif decide (i < j) then
    chk (inb j data.length) <|
    chk (decide (j.toNat < data.length)) <|
    chk (inb i data.length) <|
    chk (decide (i.toNat < data.length)) <|
    chk (inb i data.length) <|
    chk (decide (i.toNat < data.length)) <|
    chk (inb j (data.set i.toNat (data.getD j.toNat (0 : Int))).length) <|
    chk (decide (j.toNat < (data.set i.toNat (data.getD j.toNat (0 : Int))).length)) <|
    again0 (((data.set i.toNat (data.getD j.toNat (0 : Int))).set j.toNat (data.getD i.toNat (0 : Int))), w64 (i + 1), w64 (j - 1), ())
  else
    some ((), (data, ()))
def B_slices_reverseRangeOrdered_int_L0 (k : Nat) (n : Nat) (t : T_slices_reverseRangeOrdered_int_L0) : R_slices_reverseRangeOrdered_int :=
  lfix n (fun again t => B_slices_reverseRangeOrdered_int_L0b k again t.1 t.2.1 t.2.2.1) t
def B_slices_reverseRangeOrdered_int (k : Nat) (data : List Int) (a b : Int) : R_slices_reverseRangeOrdered_int :=
  B_slices_reverseRangeOrdered_int_L0 k k (data, a, w64 (b - 1), ())
def F_slices_reverseRangeOrdered_int : Nat → C_slices_reverseRangeOrdered_int
  | 0, _, _, _ => none
  | k + 1, data, a, b => B_slices_reverseRangeOrdered_int k data a b
theorem tot_slices_reverseRangeOrdered_int {data a b : _} {Q : _ → Prop} (h : Tot (fun σ => B_slices_reverseRangeOrdered_int (σ 0) data a b) Q) : Tot (fun σ => F_slices_reverseRangeOrdered_int (σ 0) data a b) Q :=
  Tot.call (F := fun k => F_slices_reverseRangeOrdered_int k data a b) (B := fun k => B_slices_reverseRangeOrdered_int k data a b) (fun k => rfl) h
abbrev A_slices_reverseRangeOrdered_int_L0 (Z : Type) : Type := List Int → Int → Int → Z
abbrev u_slices_reverseRangeOrdered_int_L0 {Z : Type} (f : A_slices_reverseRangeOrdered_int_L0 Z) (t : T_slices_reverseRangeOrdered_int_L0) : Z := f t.1 t.2.1 t.2.2.1
theorem loop_slices_reverseRangeOrdered_int_L0 {Q : A_slices_reverseRangeOrdered_int_L0 (((Unit) × (List Int × Unit)) → Prop)} (I : A_slices_reverseRangeOrdered_int_L0 Prop) (μ : A_slices_reverseRangeOrdered_int_L0 Nat)
    (step : ∀ a0 a1 a2, I a0 a1 a2 → ∀ again : (Nat → Nat) → T_slices_reverseRangeOrdered_int_L0 → R_slices_reverseRangeOrdered_int, Dep 2 again → (∀ y0 y1 y2, I y0 y1 y2 → μ y0 y1 y2 < μ a0 a1 a2 → Tot (fun σ => again σ (y0, y1, y2, ())) (Q y0 y1 y2)) →
      Tot (fun σ => B_slices_reverseRangeOrdered_int_L0b (σ 0) (again σ) a0 a1 a2) (Q a0 a1 a2)) :
    ∀ a0 a1 a2, I a0 a1 a2 → Tot (fun σ => B_slices_reverseRangeOrdered_int_L0 (σ 0) (σ 0) (a0, a1, a2, ())) (Q a0 a1 a2) := fun a0 a1 a2 => Tot.loop0 (L := fun k => B_slices_reverseRangeOrdered_int_L0 k) (B := fun k g => u_slices_reverseRangeOrdered_int_L0 (B_slices_reverseRangeOrdered_int_L0b k g)) (Q := u_slices_reverseRangeOrdered_int_L0 Q) (fun _ _ _ => rfl) (u_slices_reverseRangeOrdered_int_L0 I) (u_slices_reverseRangeOrdered_int_L0 μ)
    (fun t ht again hag h => step t.1 t.2.1 t.2.2.1 ht again hag fun y0 y1 y2 => h (y0, y1, y2, ())) (a0, a1, a2, ())
abbrev R_slices_partialInsertionSortOrdered_int : Type := Option ((Bool × Unit) × (List Int × Unit))
abbrev C_slices_partialInsertionSortOrdered_int : Type := List Int → Int → Int → R_slices_partialInsertionSortOrdered_int
abbrev T_slices_partialInsertionSortOrdered_int_L4 : Type := List Int × Int × Int × Int × Int × Int × Unit
abbrev T_slices_partialInsertionSortOrdered_int_L2 : Type := List Int × Int × Int × Int × Int × Int × Unit
abbrev T_slices_partialInsertionSortOrdered_int_L1 : Type := List Int × Int × Int × Int × Int × Unit
abbrev T_slices_partialInsertionSortOrdered_int_L6 : Type := List Int × Int × Int × Int × Int × Unit
def B_slices_partialInsertionSortOrdered_int_J5 (k : Nat) (c_cmp_Less_int : C_cmp_Less_int) (again6 : T_slices_partialInsertionSortOrdered_int_L6 → R_slices_partialInsertionSortOrdered_int) (data : List Int) (a b i j : Int) : R_slices_partialInsertionSortOrdered_int :=
  again6 (data, a, b, i, w64 (j + 1), ())
def B_slices_partialInsertionSortOrdered_int_L4b (k : Nat) (c_cmp_Less_int : C_cmp_Less_int) (again6 : T_slices_partialInsertionSortOrdered_int_L6 → R_slices_partialInsertionSortOrdered_int) (again4 : T_slices_partialInsertionSortOrdered_int_L4 → R_slices_partialInsertionSortOrdered_int) (data : List Int) (a b i j j10 : Int) : R_slices_partialInsertionSortOrdered_int :=
  bif decide (j10 < b) then
    chk (inb j10 data.length) <|
    chk (decide (j10.toNat < data.length)) <|
    chk (inb (w64 (j10 - 1)) data.length) <|
    chk (decide ((w64 (j10 - 1)).toNat < data.length)) <|
    (c_cmp_Less_int (data.getD j10.toNat (0 : Int)) (data.getD ((w64 (j10 - 1)).toNat) (0 : Int))).bind fun r115 =>
    bif (!r115.1.1) then
      jn (fun t => B_slices_partialInsertionSortOrdered_int_J5 k c_cmp_Less_int again6 t.1 t.2.1 t.2.2.1 t.2.2.2.1 t.2.2.2.2.1) (data, a, b, i, j, ())
    else
      chk (inb (w64 (j10 - 1)) data.length) <|
      chk (decide ((w64 (j10 - 1)).toNat < data.length)) <|
      chk (inb j10 data.length) <|
      chk (decide (j10.toNat < data.length)) <|
      chk (inb j10 data.length) <|
      chk (decide (j10.toNat < data.length)) <|
      chk (inb (w64 (j10 - 1)) (data.set j10.toNat (data.getD ((w64 (j10 - 1)).toNat) (0 : Int))).length) <|
      chk (decide ((w64 (j10 - 1)).toNat < (data.set j10.toNat (data.getD ((w64 (j10 - 1)).toNat) (0 : Int))).length)) <|
      again4 (((data.set j10.toNat (data.getD ((w64 (j10 - 1)).toNat) (0 : Int))).set ((w64 (j10 - 1)).toNat) (data.getD j10.toNat (0 : Int))), a, b, i, j, w64 (j10 + 1), ())
  else
    jn (fun t => B_slices_partialInsertionSortOrdered_int_J5 k c_cmp_Less_int again6 t.1 t.2.1 t.2.2.1 t.2.2.2.1 t.2.2.2.2.1) (data, a, b, i, j, ())
def B_slices_partialInsertionSortOrdered_int_L4 (k : Nat) (c_cmp_Less_int : C_cmp_Less_int) (again6 : T_slices_partialInsertionSortOrdered_int_L6 → R_slices_partialInsertionSortOrdered_int) (n : Nat) (t : T_slices_partialInsertionSortOrdered_int_L4) : R_slices_partialInsertionSortOrdered_int :=
  lfix n (fun again t => B_slices_partialInsertionSortOrdered_int_L4b k c_cmp_Less_int again6 again t.1 t.2.1 t.2.2.1 t.2.2.2.1 t.2.2.2.2.1 t.2.2.2.2.2.1) t
def B_slices_partialInsertionSortOrdered_int_J3 (k : Nat) (c_cmp_Less_int : C_cmp_Less_int) (again6 : T_slices_partialInsertionSortOrdered_int_L6 → R_slices_partialInsertionSortOrdered_int) (data : List Int) (a b i j : Int) : R_slices_partialInsertionSortOrdered_int :=
  bif decide ((w64 (b - i)) ≥ 2) then
    B_slices_partialInsertionSortOrdered_int_L4 k c_cmp_Less_int again6 k (data, a, b, i, j, w64 (i + 1), ())
  else
    jn (fun t => B_slices_partialInsertionSortOrdered_int_J5 k c_cmp_Less_int again6 t.1 t.2.1 t.2.2.1 t.2.2.2.1 t.2.2.2.2.1) (data, a, b, i, j, ())
def B_slices_partialInsertionSortOrdered_int_L2b (k : Nat) (c_cmp_Less_int : C_cmp_Less_int) (again6 : T_slices_partialInsertionSortOrdered_int_L6 → R_slices_partialInsertionSortOrdered_int) (again2 : T_slices_partialInsertionSortOrdered_int_L2 → R_slices_partialInsertionSortOrdered_int) (data : List Int) (a b i j j9 : Int) : R_slices_partialInsertionSortOrdered_int :=
  bif decide (j9 ≥ 1) then
    chk (inb j9 data.length) <|
    chk (decide (j9.toNat < data.length)) <|
    chk (inb (w64 (j9 - 1)) data.length) <|
    chk (decide ((w64 (j9 - 1)).toNat < data.length)) <|
    (c_cmp_Less_int (data.getD j9.toNat (0 : Int)) (data.getD ((w64 (j9 - 1)).toNat) (0 : Int))).bind fun r77 =>
    bif (!r77.1.1) then
      jn (fun t => B_slices_partialInsertionSortOrdered_int_J3 k c_cmp_Less_int again6 t.1 t.2.1 t.2.2.1 t.2.2.2.1 t.2.2.2.2.1) (data, a, b, i, j, ())
    else
      chk (inb (w64 (j9 - 1)) data.length) <|
      chk (decide ((w64 (j9 - 1)).toNat < data.length)) <|
      chk (inb j9 data.length) <|
      chk (decide (j9.toNat < data.length)) <|
      chk (inb j9 data.length) <|
      chk (decide (j9.toNat < data.length)) <|
      chk (inb (w64 (j9 - 1)) (data.set j9.toNat (data.getD ((w64 (j9 - 1)).toNat) (0 : Int))).length) <|
      chk (decide ((w64 (j9 - 1)).toNat < (data.set j9.toNat (data.getD ((w64 (j9 - 1)).toNat) (0 : Int))).length)) <|
      again2 (((data.set j9.toNat (data.getD ((w64 (j9 - 1)).toNat) (0 : Int))).set ((w64 (j9 - 1)).toNat) (data.getD j9.toNat (0 : Int))), a, b, i, j, w64 (j9 - 1), ())
  else
    jn (fun t => B_slices_partialInsertionSortOrdered_int_J3 k c_cmp_Less_int again6 t.1 t.2.1 t.2.2.1 t.2.2.2.1 t.2.2.2.2.1) (data, a, b, i, j, ())
def B_slices_partialInsertionSortOrdered_int_L2 (k : Nat) (c_cmp_Less_int : C_cmp_Less_int) (again6 : T_slices_partialInsertionSortOrdered_int_L6 → R_slices_partialInsertionSortOrdered_int) (n : Nat) (t : T_slices_partialInsertionSortOrdered_int_L2) : R_slices_partialInsertionSortOrdered_int :=
  lfix n (fun again t => B_slices_partialInsertionSortOrdered_int_L2b k c_cmp_Less_int again6 again t.1 t.2.1 t.2.2.1 t.2.2.2.1 t.2.2.2.2.1 t.2.2.2.2.2.1) t
def B_slices_partialInsertionSortOrdered_int_J0 (k : Nat) (c_cmp_Less_int : C_cmp_Less_int) (again1 : T_slices_partialInsertionSortOrdered_int_L1 → R_slices_partialInsertionSortOrdered_int) (again6 : T_slices_partialInsertionSortOrdered_int_L6 → R_slices_partialInsertionSortOrdered_int) (data : List Int) (a b i j : Int) (t32 : Bool) : R_slices_partialInsertionSortOrdered_int :=
  bif t32 then
    again1 (data, a, b, w64 (i + 1), j, ())
  else
    bif (i == b) then
      some ((true, ()), (data, ()))
    else
      bif decide ((w64 (b - a)) < 50) then
        some ((false, ()), (data, ()))
      else
        chk (inb (w64 (i - 1)) data.length) <|
        chk (decide ((w64 (i - 1)).toNat < data.length)) <|
        chk (inb i data.length) <|
        chk (decide (i.toNat < data.length)) <|
        chk (inb i data.length) <|
        chk (decide (i.toNat < data.length)) <|
        chk (inb (w64 (i - 1)) (data.set i.toNat (data.getD ((w64 (i - 1)).toNat) (0 : Int))).length) <|
        chk (decide ((w64 (i - 1)).toNat < (data.set i.toNat (data.getD ((w64 (i - 1)).toNat) (0 : Int))).length)) <|
        bif decide ((w64 (i - a)) ≥ 2) then
          B_slices_partialInsertionSortOrdered_int_L2 k c_cmp_Less_int again6 k (((data.set i.toNat (data.getD ((w64 (i - 1)).toNat) (0 : Int))).set ((w64 (i - 1)).toNat) (data.getD i.toNat (0 : Int))), a, b, i, j, w64 (i - 1), ())
        else
          jn (fun t => B_slices_partialInsertionSortOrdered_int_J3 k c_cmp_Less_int again6 t.1 t.2.1 t.2.2.1 t.2.2.2.1 t.2.2.2.2.1) (((data.set i.toNat (data.getD ((w64 (i - 1)).toNat) (0 : Int))).set ((w64 (i - 1)).toNat) (data.getD i.toNat (0 : Int))), a, b, i, j, ())
def B_slices_partialInsertionSortOrdered_int_L1b (k : Nat) (c_cmp_Less_int : C_cmp_Less_int) (again6 : T_slices_partialInsertionSortOrdered_int_L6 → R_slices_partialInsertionSortOrdered_int) (again1 : T_slices_partialInsertionSortOrdered_int_L1 → R_slices_partialInsertionSortOrdered_int) (data : List Int) (a b i j : Int) : R_slices_partialInsertionSortOrdered_int :=
  bif decide (i < b) then
    chk (inb i data.length) <|
    chk (decide (i.toNat < data.length)) <|
    chk (inb (w64 (i - 1)) data.length) <|
    chk (decide ((w64 (i - 1)).toNat < data.length)) <|
    (c_cmp_Less_int (data.getD i.toNat (0 : Int)) (data.getD ((w64 (i - 1)).toNat) (0 : Int))).bind fun r30 =>
    jn (fun t => B_slices_partialInsertionSortOrdered_int_J0 k c_cmp_Less_int again1 again6 t.1 t.2.1 t.2.2.1 t.2.2.2.1 t.2.2.2.2.1 t.2.2.2.2.2.1) (data, a, b, i, j, (!r30.1.1), ())
  else
    jn (fun t => B_slices_partialInsertionSortOrdered_int_J0 k c_cmp_Less_int again1 again6 t.1 t.2.1 t.2.2.1 t.2.2.2.1 t.2.2.2.2.1 t.2.2.2.2.2.1) (data, a, b, i, j, false, ())
def B_slices_partialInsertionSortOrdered_int_L1 (k : Nat) (c_cmp_Less_int : C_cmp_Less_int) (again6 : T_slices_partialInsertionSortOrdered_int_L6 → R_slices_partialInsertionSortOrdered_int) (n : Nat) (t : T_slices_partialInsertionSortOrdered_int_L1) : R_slices_partialInsertionSortOrdered_int :=
  lfix n (fun again t => B_slices_partialInsertionSortOrdered_int_L1b k c_cmp_Less_int again6 again t.1 t.2.1 t.2.2.1 t.2.2.2.1 t.2.2.2.2.1) t
def B_slices_partialInsertionSortOrdered_int_L6b (k : Nat) (c_cmp_Less_int : C_cmp_Less_int) (again6 : T_slices_partialInsertionSortOrdered_int_L6 → R_slices_partialInsertionSortOrdered_int) (data : List Int) (a b i j : Int) : R_slices_partialInsertionSortOrdered_int :=
  bif decide (j < 5) then
    B_slices_partialInsertionSortOrdered_int_L1 k c_cmp_Less_int again6 k (data, a, b, i, j, ())
  else
    some ((false, ()), (data, ()))
def B_slices_partialInsertionSortOrdered_int_L6 (k : Nat) (c_cmp_Less_int : C_cmp_Less_int) (n : Nat) (t : T_slices_partialInsertionSortOrdered_int_L6) : R_slices_partialInsertionSortOrdered_int :=
  lfix n (fun again t => B_slices_partialInsertionSortOrdered_int_L6b k c_cmp_Less_int again t.1 t.2.1 t.2.2.1 t.2.2.2.1 t.2.2.2.2.1) t
def B_slices_partialInsertionSortOrdered_int (k : Nat) (c_cmp_Less_int : C_cmp_Less_int) (data : List Int) (a b : Int) : R_slices_partialInsertionSortOrdered_int :=
  B_slices_partialInsertionSortOrdered_int_L6 k c_cmp_Less_int k (data, a, b, w64 (a + 1), 0, ())
def F_slices_partialInsertionSortOrdered_int : Nat → C_slices_partialInsertionSortOrdered_int
  | 0, _, _, _ => none
  | k + 1, data, a, b => B_slices_partialInsertionSortOrdered_int k (F_cmp_Less_int k) data a b
theorem tot_slices_partialInsertionSortOrdered_int {data a b : _} {Q : _ → Prop} (h : Tot (fun σ => B_slices_partialInsertionSortOrdered_int (σ 0) (F_cmp_Less_int (σ 0)) data a b) Q) : Tot (fun σ => F_slices_partialInsertionSortOrdered_int (σ 0) data a b) Q :=
  Tot.call (F := fun k => F_slices_partialInsertionSortOrdered_int k data a b) (B := fun k => B_slices_partialInsertionSortOrdered_int k (F_cmp_Less_int k) data a b) (fun k => rfl) h
abbrev A_slices_partialInsertionSortOrdered_int_L4 (Z : Type) : Type := List Int → Int → Int → Int → Int → Int → Z
abbrev u_slices_partialInsertionSortOrdered_int_L4 {Z : Type} (f : A_slices_partialInsertionSortOrdered_int_L4 Z) (t : T_slices_partialInsertionSortOrdered_int_L4) : Z := f t.1 t.2.1 t.2.2.1 t.2.2.2.1 t.2.2.2.2.1 t.2.2.2.2.2.1
theorem loop_slices_partialInsertionSortOrdered_int_L4 {again6 : (Nat → Nat) → T_slices_partialInsertionSortOrdered_int_L6 → R_slices_partialInsertionSortOrdered_int} (hag6 : Dep 2 again6) {Q : A_slices_partialInsertionSortOrdered_int_L4 (((Bool × Unit) × (List Int × Unit)) → Prop)} (I : A_slices_partialInsertionSortOrdered_int_L4 Prop) (μ : A_slices_partialInsertionSortOrdered_int_L4 Nat)
    (step : ∀ a0 a1 a2 a3 a4 a5, I a0 a1 a2 a3 a4 a5 → ∀ again : (Nat → Nat) → T_slices_partialInsertionSortOrdered_int_L4 → R_slices_partialInsertionSortOrdered_int, Dep 3 again → (∀ y0 y1 y2 y3 y4 y5, I y0 y1 y2 y3 y4 y5 → μ y0 y1 y2 y3 y4 y5 < μ a0 a1 a2 a3 a4 a5 → Tot (fun σ => again σ (y0, y1, y2, y3, y4, y5, ())) (Q y0 y1 y2 y3 y4 y5)) →
      Tot (fun σ => B_slices_partialInsertionSortOrdered_int_L4b (σ 0) (F_cmp_Less_int (σ 0)) (again6 σ) (again σ) a0 a1 a2 a3 a4 a5) (Q a0 a1 a2 a3 a4 a5)) :
    ∀ a0 a1 a2 a3 a4 a5, I a0 a1 a2 a3 a4 a5 → Tot (fun σ => B_slices_partialInsertionSortOrdered_int_L4 (σ 0) (F_cmp_Less_int (σ 0)) (again6 σ) (σ 0) (a0, a1, a2, a3, a4, a5, ())) (Q a0 a1 a2 a3 a4 a5) := fun a0 a1 a2 a3 a4 a5 => Tot.loop (L := fun σ n t => B_slices_partialInsertionSortOrdered_int_L4 (σ 0) (F_cmp_Less_int (σ 0)) (again6 σ) n t) (B := fun σ g => u_slices_partialInsertionSortOrdered_int_L4 (B_slices_partialInsertionSortOrdered_int_L4b (σ 0) (F_cmp_Less_int (σ 0)) (again6 σ) g)) (Q := u_slices_partialInsertionSortOrdered_int_L4 Q) 2 (by decide)
    (fun s s' h => by have e0 : s 0 = s' 0 := h 0 (by decide); simp only [e0, hag6 s s' h]) (fun s s' h => by have e0 : s 0 = s' 0 := h 0 (by decide); simp only [e0, hag6 s s' h]) (fun _ _ _ => rfl) (u_slices_partialInsertionSortOrdered_int_L4 I) (u_slices_partialInsertionSortOrdered_int_L4 μ)
    (fun t ht again hag h => step t.1 t.2.1 t.2.2.1 t.2.2.2.1 t.2.2.2.2.1 t.2.2.2.2.2.1 ht again hag fun y0 y1 y2 y3 y4 y5 => h (y0, y1, y2, y3, y4, y5, ())) (a0, a1, a2, a3, a4, a5, ())
abbrev A_slices_partialInsertionSortOrdered_int_L2 (Z : Type) : Type := List Int → Int → Int → Int → Int → Int → Z
abbrev u_slices_partialInsertionSortOrdered_int_L2 {Z : Type} (f : A_slices_partialInsertionSortOrdered_int_L2 Z) (t : T_slices_partialInsertionSortOrdered_int_L2) : Z := f t.1 t.2.1 t.2.2.1 t.2.2.2.1 t.2.2.2.2.1 t.2.2.2.2.2.1
theorem loop_slices_partialInsertionSortOrdered_int_L2 {again6 : (Nat → Nat) → T_slices_partialInsertionSortOrdered_int_L6 → R_slices_partialInsertionSortOrdered_int} (hag6 : Dep 2 again6) {Q : A_slices_partialInsertionSortOrdered_int_L2 (((Bool × Unit) × (List Int × Unit)) → Prop)} (I : A_slices_partialInsertionSortOrdered_int_L2 Prop) (μ : A_slices_partialInsertionSortOrdered_int_L2 Nat)
    (step : ∀ a0 a1 a2 a3 a4 a5, I a0 a1 a2 a3 a4 a5 → ∀ again : (Nat → Nat) → T_slices_partialInsertionSortOrdered_int_L2 → R_slices_partialInsertionSortOrdered_int, Dep 3 again → (∀ y0 y1 y2 y3 y4 y5, I y0 y1 y2 y3 y4 y5 → μ y0 y1 y2 y3 y4 y5 < μ a0 a1 a2 a3 a4 a5 → Tot (fun σ => again σ (y0, y1, y2, y3, y4, y5, ())) (Q y0 y1 y2 y3 y4 y5)) →
      Tot (fun σ => B_slices_partialInsertionSortOrdered_int_L2b (σ 0) (F_cmp_Less_int (σ 0)) (again6 σ) (again σ) a0 a1 a2 a3 a4 a5) (Q a0 a1 a2 a3 a4 a5)) :
    ∀ a0 a1 a2 a3 a4 a5, I a0 a1 a2 a3 a4 a5 → Tot (fun σ => B_slices_partialInsertionSortOrdered_int_L2 (σ 0) (F_cmp_Less_int (σ 0)) (again6 σ) (σ 0) (a0, a1, a2, a3, a4, a5, ())) (Q a0 a1 a2 a3 a4 a5) := fun a0 a1 a2 a3 a4 a5 => Tot.loop (L := fun σ n t => B_slices_partialInsertionSortOrdered_int_L2 (σ 0) (F_cmp_Less_int (σ 0)) (again6 σ) n t) (B := fun σ g => u_slices_partialInsertionSortOrdered_int_L2 (B_slices_partialInsertionSortOrdered_int_L2b (σ 0) (F_cmp_Less_int (σ 0)) (again6 σ) g)) (Q := u_slices_partialInsertionSortOrdered_int_L2 Q) 2 (by decide)
    (fun s s' h => by have e0 : s 0 = s' 0 := h 0 (by decide); simp only [e0, hag6 s s' h]) (fun s s' h => by have e0 : s 0 = s' 0 := h 0 (by decide); simp only [e0, hag6 s s' h]) (fun _ _ _ => rfl) (u_slices_partialInsertionSortOrdered_int_L2 I) (u_slices_partialInsertionSortOrdered_int_L2 μ)
    (fun t ht again hag h => step t.1 t.2.1 t.2.2.1 t.2.2.2.1 t.2.2.2.2.1 t.2.2.2.2.2.1 ht again hag fun y0 y1 y2 y3 y4 y5 => h (y0, y1, y2, y3, y4, y5, ())) (a0, a1, a2, a3, a4, a5, ())
abbrev A_slices_partialInsertionSortOrdered_int_L1 (Z : Type) : Type := List Int → Int → Int → Int → Int → Z
abbrev u_slices_partialInsertionSortOrdered_int_L1 {Z : Type} (f : A_slices_partialInsertionSortOrdered_int_L1 Z) (t : T_slices_partialInsertionSortOrdered_int_L1) : Z := f t.1 t.2.1 t.2.2.1 t.2.2.2.1 t.2.2.2.2.1
theorem loop_slices_partialInsertionSortOrdered_int_L1 {again6 : (Nat → Nat) → T_slices_partialInsertionSortOrdered_int_L6 → R_slices_partialInsertionSortOrdered_int} (hag6 : Dep 2 again6) {Q : A_slices_partialInsertionSortOrdered_int_L1 (((Bool × Unit) × (List Int × Unit)) → Prop)} (I : A_slices_partialInsertionSortOrdered_int_L1 Prop) (μ : A_slices_partialInsertionSortOrdered_int_L1 Nat)
    (step : ∀ a0 a1 a2 a3 a4, I a0 a1 a2 a3 a4 → ∀ again : (Nat → Nat) → T_slices_partialInsertionSortOrdered_int_L1 → R_slices_partialInsertionSortOrdered_int, Dep 3 again → (∀ y0 y1 y2 y3 y4, I y0 y1 y2 y3 y4 → μ y0 y1 y2 y3 y4 < μ a0 a1 a2 a3 a4 → Tot (fun σ => again σ (y0, y1, y2, y3, y4, ())) (Q y0 y1 y2 y3 y4)) →
      Tot (fun σ => B_slices_partialInsertionSortOrdered_int_L1b (σ 0) (F_cmp_Less_int (σ 0)) (again6 σ) (again σ) a0 a1 a2 a3 a4) (Q a0 a1 a2 a3 a4)) :
    ∀ a0 a1 a2 a3 a4, I a0 a1 a2 a3 a4 → Tot (fun σ => B_slices_partialInsertionSortOrdered_int_L1 (σ 0) (F_cmp_Less_int (σ 0)) (again6 σ) (σ 0) (a0, a1, a2, a3, a4, ())) (Q a0 a1 a2 a3 a4) := fun a0 a1 a2 a3 a4 => Tot.loop (L := fun σ n t => B_slices_partialInsertionSortOrdered_int_L1 (σ 0) (F_cmp_Less_int (σ 0)) (again6 σ) n t) (B := fun σ g => u_slices_partialInsertionSortOrdered_int_L1 (B_slices_partialInsertionSortOrdered_int_L1b (σ 0) (F_cmp_Less_int (σ 0)) (again6 σ) g)) (Q := u_slices_partialInsertionSortOrdered_int_L1 Q) 2 (by decide)
    (fun s s' h => by have e0 : s 0 = s' 0 := h 0 (by decide); simp only [e0, hag6 s s' h]) (fun s s' h => by have e0 : s 0 = s' 0 := h 0 (by decide); simp only [e0, hag6 s s' h]) (fun _ _ _ => rfl) (u_slices_partialInsertionSortOrdered_int_L1 I) (u_slices_partialInsertionSortOrdered_int_L1 μ)
    (fun t ht again hag h => step t.1 t.2.1 t.2.2.1 t.2.2.2.1 t.2.2.2.2.1 ht again hag fun y0 y1 y2 y3 y4 => h (y0, y1, y2, y3, y4, ())) (a0, a1, a2, a3, a4, ())
abbrev A_slices_partialInsertionSortOrdered_int_L6 (Z : Type) : Type := List Int → Int → Int → Int → Int → Z
abbrev u_slices_partialInsertionSortOrdered_int_L6 {Z : Type} (f : A_slices_partialInsertionSortOrdered_int_L6 Z) (t : T_slices_partialInsertionSortOrdered_int_L6) : Z := f t.1 t.2.1 t.2.2.1 t.2.2.2.1 t.2.2.2.2.1
theorem loop_slices_partialInsertionSortOrdered_int_L6 {Q : A_slices_partialInsertionSortOrdered_int_L6 (((Bool × Unit) × (List Int × Unit)) → Prop)} (I : A_slices_partialInsertionSortOrdered_int_L6 Prop) (μ : A_slices_partialInsertionSortOrdered_int_L6 Nat)
    (step : ∀ a0 a1 a2 a3 a4, I a0 a1 a2 a3 a4 → ∀ again : (Nat → Nat) → T_slices_partialInsertionSortOrdered_int_L6 → R_slices_partialInsertionSortOrdered_int, Dep 2 again → (∀ y0 y1 y2 y3 y4, I y0 y1 y2 y3 y4 → μ y0 y1 y2 y3 y4 < μ a0 a1 a2 a3 a4 → Tot (fun σ => again σ (y0, y1, y2, y3, y4, ())) (Q y0 y1 y2 y3 y4)) →
      Tot (fun σ => B_slices_partialInsertionSortOrdered_int_L6b (σ 0) (F_cmp_Less_int (σ 0)) (again σ) a0 a1 a2 a3 a4) (Q a0 a1 a2 a3 a4)) :
    ∀ a0 a1 a2 a3 a4, I a0 a1 a2 a3 a4 → Tot (fun σ => B_slices_partialInsertionSortOrdered_int_L6 (σ 0) (F_cmp_Less_int (σ 0)) (σ 0) (a0, a1, a2, a3, a4, ())) (Q a0 a1 a2 a3 a4) := fun a0 a1 a2 a3 a4 => Tot.loop0 (L := fun k => B_slices_partialInsertionSortOrdered_int_L6 k (F_cmp_Less_int k)) (B := fun k g => u_slices_partialInsertionSortOrdered_int_L6 (B_slices_partialInsertionSortOrdered_int_L6b k (F_cmp_Less_int k) g)) (Q := u_slices_partialInsertionSortOrdered_int_L6 Q) (fun _ _ _ => rfl) (u_slices_partialInsertionSortOrdered_int_L6 I) (u_slices_partialInsertionSortOrdered_int_L6 μ)
    (fun t ht again hag h => step t.1 t.2.1 t.2.2.1 t.2.2.2.1 t.2.2.2.2.1 ht again hag fun y0 y1 y2 y3 y4 => h (y0, y1, y2, y3, y4, ())) (a0, a1, a2, a3, a4, ())
abbrev R_slices_partitionEqualOrdered_int : Type := Option ((Int × Unit) × (List Int × Unit))
abbrev C_slices_partitionEqualOrdered_int : Type := List Int → Int → Int → Int → R_slices_partitionEqualOrdered_int
abbrev T_slices_partitionEqualOrdered_int_L3 : Type := List Int × Int × Int × Int × Unit
abbrev T_slices_partitionEqualOrdered_int_L1 : Type := List Int × Int × Int × Int × Unit
abbrev T_slices_partitionEqualOrdered_int_L4 : Type := List Int × Int × Int × Int × Unit
def B_slices_partitionEqualOrdered_int_J2 (k : Nat) (c_cmp_Less_int : C_cmp_Less_int) (again3 : T_slices_partitionEqualOrdered_int_L3 → R_slices_partitionEqualOrdered_int) (again4 : T_slices_partitionEqualOrdered_int_L4 → R_slices_partitionEqualOrdered_int) (data : List Int) (a i j : Int) (t59 : Bool) : R_slices_partitionEqualOrdered_int :=
  bif t59 then
    again3 (data, a, i, w64 (j - 1), ())
  else
    bif decide (i > j) then
      some ((i, ()), (data, ()))
    else
      chk (inb j data.length) <|
      chk (decide (j.toNat < data.length)) <|
      chk (inb i data.length) <|
      chk (decide (i.toNat < data.length)) <|
      chk (inb i data.length) <|
      chk (decide (i.toNat < data.length)) <|
      chk (inb j (data.set i.toNat (data.getD j.toNat (0 : Int))).length) <|
      chk (decide (j.toNat < (data.set i.toNat (data.getD j.toNat (0 : Int))).length)) <|
      again4 (((data.set i.toNat (data.getD j.toNat (0 : Int))).set j.toNat (data.getD i.toNat (0 : Int))), a, w64 (i + 1), w64 (j - 1), ())
def B_slices_partitionEqualOrdered_int_L3b (k : Nat) (c_cmp_Less_int : C_cmp_Less_int) (again4 : T_slices_partitionEqualOrdered_int_L4 → R_slices_partitionEqualOrdered_int) (again3 : T_slices_partitionEqualOrdered_int_L3 → R_slices_partitionEqualOrdered_int) (data : List Int) (a i j : Int) : R_slices_partitionEqualOrdered_int :=
  bif decide (i ≤ j) then
    chk (inb a data.length) <|
    chk (decide (a.toNat < data.length)) <|
    chk (inb j data.length) <|
    chk (decide (j.toNat < data.length)) <|
    (c_cmp_Less_int (data.getD a.toNat (0 : Int)) (data.getD j.toNat (0 : Int))).bind fun r58 =>
    jn (fun t => B_slices_partitionEqualOrdered_int_J2 k c_cmp_Less_int again3 again4 t.1 t.2.1 t.2.2.1 t.2.2.2.1 t.2.2.2.2.1) (data, a, i, j, r58.1.1, ())
  else
    jn (fun t => B_slices_partitionEqualOrdered_int_J2 k c_cmp_Less_int again3 again4 t.1 t.2.1 t.2.2.1 t.2.2.2.1 t.2.2.2.2.1) (data, a, i, j, false, ())
def B_slices_partitionEqualOrdered_int_L3 (k : Nat) (c_cmp_Less_int : C_cmp_Less_int) (again4 : T_slices_partitionEqualOrdered_int_L4 → R_slices_partitionEqualOrdered_int) (n : Nat) (t : T_slices_partitionEqualOrdered_int_L3) : R_slices_partitionEqualOrdered_int :=
  lfix n (fun again t => B_slices_partitionEqualOrdered_int_L3b k c_cmp_Less_int again4 again t.1 t.2.1 t.2.2.1 t.2.2.2.1) t
def B_slices_partitionEqualOrdered_int_J0 (k : Nat) (c_cmp_Less_int : C_cmp_Less_int) (again1 : T_slices_partitionEqualOrdered_int_L1 → R_slices_partitionEqualOrdered_int) (again4 : T_slices_partitionEqualOrdered_int_L4 → R_slices_partitionEqualOrdered_int) (data : List Int) (a i j : Int) (t43 : Bool) : R_slices_partitionEqualOrdered_int :=
  bif t43 then
    again1 (data, a, w64 (i + 1), j, ())
  else
    B_slices_partitionEqualOrdered_int_L3 k c_cmp_Less_int again4 k (data, a, i, j, ())
def B_slices_partitionEqualOrdered_int_L1b (k : Nat) (c_cmp_Less_int : C_cmp_Less_int) (again4 : T_slices_partitionEqualOrdered_int_L4 → R_slices_partitionEqualOrdered_int) (again1 : T_slices_partitionEqualOrdered_int_L1 → R_slices_partitionEqualOrdered_int) (data : List Int) (a i j : Int) : R_slices_partitionEqualOrdered_int :=
  bif decide (i ≤ j) then
    chk (inb a data.length) <|
    chk (decide (a.toNat < data.length)) <|
    chk (inb i data.length) <|
    chk (decide (i.toNat < data.length)) <|
    (c_cmp_Less_int (data.getD a.toNat (0 : Int)) (data.getD i.toNat (0 : Int))).bind fun r41 =>
    jn (fun t => B_slices_partitionEqualOrdered_int_J0 k c_cmp_Less_int again1 again4 t.1 t.2.1 t.2.2.1 t.2.2.2.1 t.2.2.2.2.1) (data, a, i, j, (!r41.1.1), ())
  else
    jn (fun t => B_slices_partitionEqualOrdered_int_J0 k c_cmp_Less_int again1 again4 t.1 t.2.1 t.2.2.1 t.2.2.2.1 t.2.2.2.2.1) (data, a, i, j, false, ())
def B_slices_partitionEqualOrdered_int_L1 (k : Nat) (c_cmp_Less_int : C_cmp_Less_int) (again4 : T_slices_partitionEqualOrdered_int_L4 → R_slices_partitionEqualOrdered_int) (n : Nat) (t : T_slices_partitionEqualOrdered_int_L1) : R_slices_partitionEqualOrdered_int :=
  lfix n (fun again t => B_slices_partitionEqualOrdered_int_L1b k c_cmp_Less_int again4 again t.1 t.2.1 t.2.2.1 t.2.2.2.1) t
def B_slices_partitionEqualOrdered_int_L4b (k : Nat) (c_cmp_Less_int : C_cmp_Less_int) (again4 : T_slices_partitionEqualOrdered_int_L4 → R_slices_partitionEqualOrdered_int) (data : List Int) (a i j : Int) : R_slices_partitionEqualOrdered_int :=
  B_slices_partitionEqualOrdered_int_L1 k c_cmp_Less_int again4 k (data, a, i, j, ())
def B_slices_partitionEqualOrdered_int_L4 (k : Nat) (c_cmp_Less_int : C_cmp_Less_int) (n : Nat) (t : T_slices_partitionEqualOrdered_int_L4) : R_slices_partitionEqualOrdered_int :=
  lfix n (fun again t => B_slices_partitionEqualOrdered_int_L4b k c_cmp_Less_int again t.1 t.2.1 t.2.2.1 t.2.2.2.1) t
def B_slices_partitionEqualOrdered_int (k : Nat) (c_cmp_Less_int : C_cmp_Less_int) (data : List Int) (a b pivot : Int) : R_slices_partitionEqualOrdered_int :=
  chk (inb pivot data.length) <|
  chk (decide (pivot.toNat < data.length)) <|
  chk (inb a data.length) <|
  chk (decide (a.toNat < data.length)) <|
  chk (inb a data.length) <|
  chk (decide (a.toNat < data.length)) <|
  chk (inb pivot (data.set a.toNat (data.getD pivot.toNat (0 : Int))).length) <|
  chk (decide (pivot.toNat < (data.set a.toNat (data.getD pivot.toNat (0 : Int))).length)) <|
  B_slices_partitionEqualOrdered_int_L4 k c_cmp_Less_int k (((data.set a.toNat (data.getD pivot.toNat (0 : Int))).set pivot.toNat (data.getD a.toNat (0 : Int))), a, w64 (a + 1), w64 (b - 1), ())
def F_slices_partitionEqualOrdered_int : Nat → C_slices_partitionEqualOrdered_int
  | 0, _, _, _, _ => none
  | k + 1, data, a, b, pivot => B_slices_partitionEqualOrdered_int k (F_cmp_Less_int k) data a b pivot
theorem tot_slices_partitionEqualOrdered_int {data a b pivot : _} {Q : _ → Prop} (h : Tot (fun σ => B_slices_partitionEqualOrdered_int (σ 0) (F_cmp_Less_int (σ 0)) data a b pivot) Q) : Tot (fun σ => F_slices_partitionEqualOrdered_int (σ 0) data a b pivot) Q :=
  Tot.call (F := fun k => F_slices_partitionEqualOrdered_int k data a b pivot) (B := fun k => B_slices_partitionEqualOrdered_int k (F_cmp_Less_int k) data a b pivot) (fun k => rfl) h
abbrev A_slices_partitionEqualOrdered_int_L3 (Z : Type) : Type := List Int → Int → Int → Int → Z
abbrev u_slices_partitionEqualOrdered_int_L3 {Z : Type} (f : A_slices_partitionEqualOrdered_int_L3 Z) (t : T_slices_partitionEqualOrdered_int_L3) : Z := f t.1 t.2.1 t.2.2.1 t.2.2.2.1
theorem loop_slices_partitionEqualOrdered_int_L3 {again4 : (Nat → Nat) → T_slices_partitionEqualOrdered_int_L4 → R_slices_partitionEqualOrdered_int} (hag4 : Dep 2 again4) {Q : A_slices_partitionEqualOrdered_int_L3 (((Int × Unit) × (List Int × Unit)) → Prop)} (I : A_slices_partitionEqualOrdered_int_L3 Prop) (μ : A_slices_partitionEqualOrdered_int_L3 Nat)
    (step : ∀ a0 a1 a2 a3, I a0 a1 a2 a3 → ∀ again : (Nat → Nat) → T_slices_partitionEqualOrdered_int_L3 → R_slices_partitionEqualOrdered_int, Dep 3 again → (∀ y0 y1 y2 y3, I y0 y1 y2 y3 → μ y0 y1 y2 y3 < μ a0 a1 a2 a3 → Tot (fun σ => again σ (y0, y1, y2, y3, ())) (Q y0 y1 y2 y3)) →
      Tot (fun σ => B_slices_partitionEqualOrdered_int_L3b (σ 0) (F_cmp_Less_int (σ 0)) (again4 σ) (again σ) a0 a1 a2 a3) (Q a0 a1 a2 a3)) :
    ∀ a0 a1 a2 a3, I a0 a1 a2 a3 → Tot (fun σ => B_slices_partitionEqualOrdered_int_L3 (σ 0) (F_cmp_Less_int (σ 0)) (again4 σ) (σ 0) (a0, a1, a2, a3, ())) (Q a0 a1 a2 a3) := fun a0 a1 a2 a3 => Tot.loop (L := fun σ n t => B_slices_partitionEqualOrdered_int_L3 (σ 0) (F_cmp_Less_int (σ 0)) (again4 σ) n t) (B := fun σ g => u_slices_partitionEqualOrdered_int_L3 (B_slices_partitionEqualOrdered_int_L3b (σ 0) (F_cmp_Less_int (σ 0)) (again4 σ) g)) (Q := u_slices_partitionEqualOrdered_int_L3 Q) 2 (by decide)
    (fun s s' h => by have e0 : s 0 = s' 0 := h 0 (by decide); simp only [e0, hag4 s s' h]) (fun s s' h => by have e0 : s 0 = s' 0 := h 0 (by decide); simp only [e0, hag4 s s' h]) (fun _ _ _ => rfl) (u_slices_partitionEqualOrdered_int_L3 I) (u_slices_partitionEqualOrdered_int_L3 μ)
    (fun t ht again hag h => step t.1 t.2.1 t.2.2.1 t.2.2.2.1 ht again hag fun y0 y1 y2 y3 => h (y0, y1, y2, y3, ())) (a0, a1, a2, a3, ())
abbrev A_slices_partitionEqualOrdered_int_L1 (Z : Type) : Type := List Int → Int → Int → Int → Z
abbrev u_slices_partitionEqualOrdered_int_L1 {Z : Type} (f : A_slices_partitionEqualOrdered_int_L1 Z) (t : T_slices_partitionEqualOrdered_int_L1) : Z := f t.1 t.2.1 t.2.2.1 t.2.2.2.1
theorem loop_slices_partitionEqualOrdered_int_L1 {again4 : (Nat → Nat) → T_slices_partitionEqualOrdered_int_L4 → R_slices_partitionEqualOrdered_int} (hag4 : Dep 2 again4) {Q : A_slices_partitionEqualOrdered_int_L1 (((Int × Unit) × (List Int × Unit)) → Prop)} (I : A_slices_partitionEqualOrdered_int_L1 Prop) (μ : A_slices_partitionEqualOrdered_int_L1 Nat)
    (step : ∀ a0 a1 a2 a3, I a0 a1 a2 a3 → ∀ again : (Nat → Nat) → T_slices_partitionEqualOrdered_int_L1 → R_slices_partitionEqualOrdered_int, Dep 3 again → (∀ y0 y1 y2 y3, I y0 y1 y2 y3 → μ y0 y1 y2 y3 < μ a0 a1 a2 a3 → Tot (fun σ => again σ (y0, y1, y2, y3, ())) (Q y0 y1 y2 y3)) →
      Tot (fun σ => B_slices_partitionEqualOrdered_int_L1b (σ 0) (F_cmp_Less_int (σ 0)) (again4 σ) (again σ) a0 a1 a2 a3) (Q a0 a1 a2 a3)) :
    ∀ a0 a1 a2 a3, I a0 a1 a2 a3 → Tot (fun σ => B_slices_partitionEqualOrdered_int_L1 (σ 0) (F_cmp_Less_int (σ 0)) (again4 σ) (σ 0) (a0, a1, a2, a3, ())) (Q a0 a1 a2 a3) := fun a0 a1 a2 a3 => Tot.loop (L := fun σ n t => B_slices_partitionEqualOrdered_int_L1 (σ 0) (F_cmp_Less_int (σ 0)) (again4 σ) n t) (B := fun σ g => u_slices_partitionEqualOrdered_int_L1 (B_slices_partitionEqualOrdered_int_L1b (σ 0) (F_cmp_Less_int (σ 0)) (again4 σ) g)) (Q := u_slices_partitionEqualOrdered_int_L1 Q) 2 (by decide)
    (fun s s' h => by have e0 : s 0 = s' 0 := h 0 (by decide); simp only [e0, hag4 s s' h]) (fun s s' h => by have e0 : s 0 = s' 0 := h 0 (by decide); simp only [e0, hag4 s s' h]) (fun _ _ _ => rfl) (u_slices_partitionEqualOrdered_int_L1 I) (u_slices_partitionEqualOrdered_int_L1 μ)
    (fun t ht again hag h => step t.1 t.2.1 t.2.2.1 t.2.2.2.1 ht again hag fun y0 y1 y2 y3 => h (y0, y1, y2, y3, ())) (a0, a1, a2, a3, ())
abbrev A_slices_partitionEqualOrdered_int_L4 (Z : Type) : Type := List Int → Int → Int → Int → Z
abbrev u_slices_partitionEqualOrdered_int_L4 {Z : Type} (f : A_slices_partitionEqualOrdered_int_L4 Z) (t : T_slices_partitionEqualOrdered_int_L4) : Z := f t.1 t.2.1 t.2.2.1 t.2.2.2.1
theorem loop_slices_partitionEqualOrdered_int_L4 {Q : A_slices_partitionEqualOrdered_int_L4 (((Int × Unit) × (List Int × Unit)) → Prop)} (I : A_slices_partitionEqualOrdered_int_L4 Prop) (μ : A_slices_partitionEqualOrdered_int_L4 Nat)
    (step : ∀ a0 a1 a2 a3, I a0 a1 a2 a3 → ∀ again : (Nat → Nat) → T_slices_partitionEqualOrdered_int_L4 → R_slices_partitionEqualOrdered_int, Dep 2 again → (∀ y0 y1 y2 y3, I y0 y1 y2 y3 → μ y0 y1 y2 y3 < μ a0 a1 a2 a3 → Tot (fun σ => again σ (y0, y1, y2, y3, ())) (Q y0 y1 y2 y3)) →
      Tot (fun σ => B_slices_partitionEqualOrdered_int_L4b (σ 0) (F_cmp_Less_int (σ 0)) (again σ) a0 a1 a2 a3) (Q a0 a1 a2 a3)) :
    ∀ a0 a1 a2 a3, I a0 a1 a2 a3 → Tot (fun σ => B_slices_partitionEqualOrdered_int_L4 (σ 0) (F_cmp_Less_int (σ 0)) (σ 0) (a0, a1, a2, a3, ())) (Q a0 a1 a2 a3) := fun a0 a1 a2 a3 => Tot.loop0 (L := fun k => B_slices_partitionEqualOrdered_int_L4 k (F_cmp_Less_int k)) (B := fun k g => u_slices_partitionEqualOrdered_int_L4 (B_slices_partitionEqualOrdered_int_L4b k (F_cmp_Less_int k) g)) (Q := u_slices_partitionEqualOrdered_int_L4 Q) (fun _ _ _ => rfl) (u_slices_partitionEqualOrdered_int_L4 I) (u_slices_partitionEqualOrdered_int_L4 μ)
    (fun t ht again hag h => step t.1 t.2.1 t.2.2.1 t.2.2.2.1 ht again hag fun y0 y1 y2 y3 => h (y0, y1, y2, y3, ())) (a0, a1, a2, a3, ())
abbrev R_slices_partitionOrdered_int : Type := Option ((Int × Bool × Unit) × (List Int × Unit))
abbrev C_slices_partitionOrdered_int : Type := List Int → Int → Int → Int → R_slices_partitionOrdered_int
abbrev T_slices_partitionOrdered_int_L7 : Type := List Int × Int × Int × Int × Unit
abbrev T_slices_partitionOrdered_int_L5 : Type := List Int × Int × Int × Int × Unit
abbrev T_slices_partitionOrdered_int_L8 : Type := List Int × Int × Int × Int × Unit
abbrev T_slices_partitionOrdered_int_L3 : Type := List Int × Int × Int × Int × Unit
abbrev T_slices_partitionOrdered_int_L1 : Type := List Int × Int × Int × Int × Unit
def B_slices_partitionOrdered_int_J6 (k : Nat) (c_cmp_Less_int : C_cmp_Less_int) (again7 : T_slices_partitionOrdered_int_L7 → R_slices_partitionOrdered_int) (again8 : T_slices_partitionOrdered_int_L8 → R_slices_partitionOrdered_int) (data : List Int) (a i j : Int) (t129 : Bool) : R_slices_partitionOrdered_int :=
  bif t129 then
    again7 (data, a, i, w64 (j - 1), ())
  else
    bif decide (i > j) then
      chk (inb a data.length) <|
      chk (decide (a.toNat < data.length)) <|
      chk (inb j data.length) <|
      chk (decide (j.toNat < data.length)) <|
      chk (inb j data.length) <|
      chk (decide (j.toNat < data.length)) <|
      chk (inb a (data.set j.toNat (data.getD a.toNat (0 : Int))).length) <|
      chk (decide (a.toNat < (data.set j.toNat (data.getD a.toNat (0 : Int))).length)) <|
      some ((j, false, ()), (((data.set j.toNat (data.getD a.toNat (0 : Int))).set a.toNat (data.getD j.toNat (0 : Int))), ()))
    else
      chk (inb j data.length) <|
      chk (decide (j.toNat < data.length)) <|
      chk (inb i data.length) <|
      chk (decide (i.toNat < data.length)) <|
      chk (inb i data.length) <|
      chk (decide (i.toNat < data.length)) <|
      chk (inb j (data.set i.toNat (data.getD j.toNat (0 : Int))).length) <|
      chk (decide (j.toNat < (data.set i.toNat (data.getD j.toNat (0 : Int))).length)) <|
      again8 (((data.set i.toNat (data.getD j.toNat (0 : Int))).set j.toNat (data.getD i.toNat (0 : Int))), a, w64 (i + 1), w64 (j - 1), ())
def B_slices_partitionOrdered_int_L7b (k : Nat) (c_cmp_Less_int : C_cmp_Less_int) (again8 : T_slices_partitionOrdered_int_L8 → R_slices_partitionOrdered_int) (again7 : T_slices_partitionOrdered_int_L7 → R_slices_partitionOrdered_int) (data : List Int) (a i j : Int) : R_slices_partitionOrdered_int :=
  bif decide (i ≤ j) then
    chk (inb j data.length) <|
    chk (decide (j.toNat < data.length)) <|
    chk (inb a data.length) <|
    chk (decide (a.toNat < data.length)) <|
    (c_cmp_Less_int (data.getD j.toNat (0 : Int)) (data.getD a.toNat (0 : Int))).bind fun r127 =>
    jn (fun t => B_slices_partitionOrdered_int_J6 k c_cmp_Less_int again7 again8 t.1 t.2.1 t.2.2.1 t.2.2.2.1 t.2.2.2.2.1) (data, a, i, j, (!r127.1.1), ())
  else
    jn (fun t => B_slices_partitionOrdered_int_J6 k c_cmp_Less_int again7 again8 t.1 t.2.1 t.2.2.1 t.2.2.2.1 t.2.2.2.2.1) (data, a, i, j, false, ())
def B_slices_partitionOrdered_int_L7 (k : Nat) (c_cmp_Less_int : C_cmp_Less_int) (again8 : T_slices_partitionOrdered_int_L8 → R_slices_partitionOrdered_int) (n : Nat) (t : T_slices_partitionOrdered_int_L7) : R_slices_partitionOrdered_int :=
  lfix n (fun again t => B_slices_partitionOrdered_int_L7b k c_cmp_Less_int again8 again t.1 t.2.1 t.2.2.1 t.2.2.2.1) t
def B_slices_partitionOrdered_int_J4 (k : Nat) (c_cmp_Less_int : C_cmp_Less_int) (again5 : T_slices_partitionOrdered_int_L5 → R_slices_partitionOrdered_int) (again8 : T_slices_partitionOrdered_int_L8 → R_slices_partitionOrdered_int) (data : List Int) (a i j : Int) (t112 : Bool) : R_slices_partitionOrdered_int :=
  bif t112 then
    again5 (data, a, w64 (i + 1), j, ())
  else
    B_slices_partitionOrdered_int_L7 k c_cmp_Less_int again8 k (data, a, i, j, ())
def B_slices_partitionOrdered_int_L5b (k : Nat) (c_cmp_Less_int : C_cmp_Less_int) (again8 : T_slices_partitionOrdered_int_L8 → R_slices_partitionOrdered_int) (again5 : T_slices_partitionOrdered_int_L5 → R_slices_partitionOrdered_int) (data : List Int) (a i j : Int) : R_slices_partitionOrdered_int :=
  bif decide (i ≤ j) then
    chk (inb i data.length) <|
    chk (decide (i.toNat < data.length)) <|
    chk (inb a data.length) <|
    chk (decide (a.toNat < data.length)) <|
    (c_cmp_Less_int (data.getD i.toNat (0 : Int)) (data.getD a.toNat (0 : Int))).bind fun r111 =>
    jn (fun t => B_slices_partitionOrdered_int_J4 k c_cmp_Less_int again5 again8 t.1 t.2.1 t.2.2.1 t.2.2.2.1 t.2.2.2.2.1) (data, a, i, j, r111.1.1, ())
  else
    jn (fun t => B_slices_partitionOrdered_int_J4 k c_cmp_Less_int again5 again8 t.1 t.2.1 t.2.2.1 t.2.2.2.1 t.2.2.2.2.1) (data, a, i, j, false, ())
def B_slices_partitionOrdered_int_L5 (k : Nat) (c_cmp_Less_int : C_cmp_Less_int) (again8 : T_slices_partitionOrdered_int_L8 → R_slices_partitionOrdered_int) (n : Nat) (t : T_slices_partitionOrdered_int_L5) : R_slices_partitionOrdered_int :=
  lfix n (fun again t => B_slices_partitionOrdered_int_L5b k c_cmp_Less_int again8 again t.1 t.2.1 t.2.2.1 t.2.2.2.1) t
def B_slices_partitionOrdered_int_L8b (k : Nat) (c_cmp_Less_int : C_cmp_Less_int) (again8 : T_slices_partitionOrdered_int_L8 → R_slices_partitionOrdered_int) (data : List Int) (a i j : Int) : R_slices_partitionOrdered_int :=
  B_slices_partitionOrdered_int_L5 k c_cmp_Less_int again8 k (data, a, i, j, ())
def B_slices_partitionOrdered_int_L8 (k : Nat) (c_cmp_Less_int : C_cmp_Less_int) (n : Nat) (t : T_slices_partitionOrdered_int_L8) : R_slices_partitionOrdered_int :=
  lfix n (fun again t => B_slices_partitionOrdered_int_L8b k c_cmp_Less_int again t.1 t.2.1 t.2.2.1 t.2.2.2.1) t
def B_slices_partitionOrdered_int_J2 (k : Nat) (c_cmp_Less_int : C_cmp_Less_int) (again3 : T_slices_partitionOrdered_int_L3 → R_slices_partitionOrdered_int) (data : List Int) (a i j : Int) (t60 : Bool) : R_slices_partitionOrdered_int :=
  bif t60 then
    again3 (data, a, i, w64 (j - 1), ())
  else
    bif decide (i > j) then
      chk (inb a data.length) <|
      chk (decide (a.toNat < data.length)) <|
      chk (inb j data.length) <|
      chk (decide (j.toNat < data.length)) <|
      chk (inb j data.length) <|
      chk (decide (j.toNat < data.length)) <|
      chk (inb a (data.set j.toNat (data.getD a.toNat (0 : Int))).length) <|
      chk (decide (a.toNat < (data.set j.toNat (data.getD a.toNat (0 : Int))).length)) <|
      some ((j, true, ()), (((data.set j.toNat (data.getD a.toNat (0 : Int))).set a.toNat (data.getD j.toNat (0 : Int))), ()))
    else
      chk (inb j data.length) <|
      chk (decide (j.toNat < data.length)) <|
      chk (inb i data.length) <|
      chk (decide (i.toNat < data.length)) <|
      chk (inb i data.length) <|
      chk (decide (i.toNat < data.length)) <|
      chk (inb j (data.set i.toNat (data.getD j.toNat (0 : Int))).length) <|
      chk (decide (j.toNat < (data.set i.toNat (data.getD j.toNat (0 : Int))).length)) <|
      B_slices_partitionOrdered_int_L8 k c_cmp_Less_int k (((data.set i.toNat (data.getD j.toNat (0 : Int))).set j.toNat (data.getD i.toNat (0 : Int))), a, w64 (i + 1), w64 (j - 1), ())
def B_slices_partitionOrdered_int_L3b (k : Nat) (c_cmp_Less_int : C_cmp_Less_int) (again3 : T_slices_partitionOrdered_int_L3 → R_slices_partitionOrdered_int) (data : List Int) (a i j : Int) : R_slices_partitionOrdered_int :=
  bif decide (i ≤ j) then
    chk (inb j data.length) <|
    chk (decide (j.toNat < data.length)) <|
    chk (inb a data.length) <|
    chk (decide (a.toNat < data.length)) <|
    (c_cmp_Less_int (data.getD j.toNat (0 : Int)) (data.getD a.toNat (0 : Int))).bind fun r58 =>
    jn (fun t => B_slices_partitionOrdered_int_J2 k c_cmp_Less_int again3 t.1 t.2.1 t.2.2.1 t.2.2.2.1 t.2.2.2.2.1) (data, a, i, j, (!r58.1.1), ())
  else
    jn (fun t => B_slices_partitionOrdered_int_J2 k c_cmp_Less_int again3 t.1 t.2.1 t.2.2.1 t.2.2.2.1 t.2.2.2.2.1) (data, a, i, j, false, ())
def B_slices_partitionOrdered_int_L3 (k : Nat) (c_cmp_Less_int : C_cmp_Less_int) (n : Nat) (t : T_slices_partitionOrdered_int_L3) : R_slices_partitionOrdered_int :=
  lfix n (fun again t => B_slices_partitionOrdered_int_L3b k c_cmp_Less_int again t.1 t.2.1 t.2.2.1 t.2.2.2.1) t
def B_slices_partitionOrdered_int_J0 (k : Nat) (c_cmp_Less_int : C_cmp_Less_int) (again1 : T_slices_partitionOrdered_int_L1 → R_slices_partitionOrdered_int) (data : List Int) (a i j : Int) (t43 : Bool) : R_slices_partitionOrdered_int :=
  bif t43 then
    again1 (data, a, w64 (i + 1), j, ())
  else
    B_slices_partitionOrdered_int_L3 k c_cmp_Less_int k (data, a, i, j, ())
def B_slices_partitionOrdered_int_L1b (k : Nat) (c_cmp_Less_int : C_cmp_Less_int) (again1 : T_slices_partitionOrdered_int_L1 → R_slices_partitionOrdered_int) (data : List Int) (a i j : Int) : R_slices_partitionOrdered_int :=
  bif decide (i ≤ j) then
    chk (inb i data.length) <|
    chk (decide (i.toNat < data.length)) <|
    chk (inb a data.length) <|
    chk (decide (a.toNat < data.length)) <|
    (c_cmp_Less_int (data.getD i.toNat (0 : Int)) (data.getD a.toNat (0 : Int))).bind fun r42 =>
    jn (fun t => B_slices_partitionOrdered_int_J0 k c_cmp_Less_int again1 t.1 t.2.1 t.2.2.1 t.2.2.2.1 t.2.2.2.2.1) (data, a, i, j, r42.1.1, ())
  else
    jn (fun t => B_slices_partitionOrdered_int_J0 k c_cmp_Less_int again1 t.1 t.2.1 t.2.2.1 t.2.2.2.1 t.2.2.2.2.1) (data, a, i, j, false, ())
def B_slices_partitionOrdered_int_L1 (k : Nat) (c_cmp_Less_int : C_cmp_Less_int) (n : Nat) (t : T_slices_partitionOrdered_int_L1) : R_slices_partitionOrdered_int :=
  lfix n (fun again t => B_slices_partitionOrdered_int_L1b k c_cmp_Less_int again t.1 t.2.1 t.2.2.1 t.2.2.2.1) t
def B_slices_partitionOrdered_int (k : Nat) (c_cmp_Less_int : C_cmp_Less_int) (data : List Int) (a b pivot : Int) : R_slices_partitionOrdered_int :=
  chk (inb pivot data.length) <|
  chk (decide (pivot.toNat < data.length)) <|
  chk (inb a data.length) <|
  chk (decide (a.toNat < data.length)) <|
  chk (inb a data.length) <|
  chk (decide (a.toNat < data.length)) <|
  chk (inb pivot (data.set a.toNat (data.getD pivot.toNat (0 : Int))).length) <|
  chk (decide (pivot.toNat < (data.set a.toNat (data.getD pivot.toNat (0 : Int))).length)) <|
  B_slices_partitionOrdered_int_L1 k c_cmp_Less_int k (((data.set a.toNat (data.getD pivot.toNat (0 : Int))).set pivot.toNat (data.getD a.toNat (0 : Int))), a, w64 (a + 1), w64 (b - 1), ())
def F_slices_partitionOrdered_int : Nat → C_slices_partitionOrdered_int
  | 0, _, _, _, _ => none
  | k + 1, data, a, b, pivot => B_slices_partitionOrdered_int k (F_cmp_Less_int k) data a b pivot
theorem tot_slices_partitionOrdered_int {data a b pivot : _} {Q : _ → Prop} (h : Tot (fun σ => B_slices_partitionOrdered_int (σ 0) (F_cmp_Less_int (σ 0)) data a b pivot) Q) : Tot (fun σ => F_slices_partitionOrdered_int (σ 0) data a b pivot) Q :=
  Tot.call (F := fun k => F_slices_partitionOrdered_int k data a b pivot) (B := fun k => B_slices_partitionOrdered_int k (F_cmp_Less_int k) data a b pivot) (fun k => rfl) h
end Go.Gx

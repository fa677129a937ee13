/-
  The functions, as Gx tells them (printed by gen.py).
-/
import Derived.Test.YtfljejcoiapkpaaXGpart4
set_option linter.unusedVariables false
namespace Go.Gx
def B_s_newReader_J0 (k : Nat) (code : List Int) : Option (((List Int × Int × Unit) × Unit) × (Unit)) :=
  some (((code, 0, ()), ()), ())
def B_s_newReader (k : Nat) (code : List Int) : Option (((List Int × Int × Unit) × Unit) × (Unit)) :=
  bif decide ((len code) > 2000) then
    chk (cutb 0 2000 code.length) <|
    jn (fun t => B_s_newReader_J0 k t.1) ((sub code 0 2000), ())
  else
    jn (fun t => B_s_newReader_J0 k t.1) (code, ())
def F_s_newReader : Nat → List Int → Option (((List Int × Int × Unit) × Unit) × (Unit))
  | 0, _ => none
  | k + 1, code => B_s_newReader k code
theorem F_s_newReader_succ (k : Nat) (code : List Int) : F_s_newReader (k + 1) code = B_s_newReader k code := rfl
theorem tot_s_newReader {code : List Int} {Q : ((((List Int × Int × Unit) × Unit) × (Unit))) → Prop} (h : Tot (fun σ => B_s_newReader (σ 0) code) Q) : Tot (fun σ => F_s_newReader (σ 0) code) Q :=
  Tot.call (F := fun k => F_s_newReader k code) (B := fun k => B_s_newReader k code) (fun k => F_s_newReader_succ k code) h
def B_s_reader_pick_J0 (k : Nat) (r_b : List Int) (r_p : Int) (n1 : Int) (t24 : Bool) : Option ((Int × Unit) × ((List Int × Int × Unit) × Unit)) :=
  bif t24 then
    some ((0, ()), ((r_b, r_p, ()), ()))
  else
    bif decide ((w64 (r_p - 1)) < (len r_b)) then
      chk (inb (w64 (r_p - 1)) r_b.length) <|
      chk ((n1 != 0)) <|
      some ((((w64 ((rdx (0 : Int) r_b (w64 (r_p - 1))))).tmod n1), ()), ((r_b, r_p, ()), ()))
    else
      chk (((len r_b) != 0)) <|
      chk (inb ((w64 (r_p - 1)).tmod (len r_b)) r_b.length) <|
      chk (((len r_b) != 0)) <|
      chk (inb ((w64 ((w64 ((w64 (r_p - 1)) * 7)) + 3)).tmod (len r_b)) r_b.length) <|
      let v78 : Int := w64 ((w64 ((rdx (0 : Int) r_b ((w64 ((w64 ((w64 (r_p - 1)) * 7)) + 3)).tmod (len r_b))))) * 1117)
      let v82 : Int := w64 ((w64 ((w64 ((w64 ((rdx (0 : Int) r_b ((w64 (r_p - 1)).tmod (len r_b))))) * 131)) + v78)) + (w64 ((w64 (r_p - 1)) * 29)))
      chk (((len r_b) != 0)) <|
      let v95 : Int := xor64 (w64 (v82 + (w64 ((w64 ((w64 (r_p - 1)).tdiv (len r_b))) * 53)))) (w64 ((w64 (v82 + (w64 ((w64 ((w64 (r_p - 1)).tdiv (len r_b))) * 53)))).tdiv 64))
      chk ((n1 != 0)) <|
      some (((v95.tmod n1), ()), ((r_b, r_p, ()), ()))
def B_s_reader_pick (k : Nat) (r_b : List Int) (r_p : Int) (n1 : Int) : Option ((Int × Unit) × ((List Int × Int × Unit) × Unit)) :=
  bif decide (n1 < 1) then
    jn (fun t => B_s_reader_pick_J0 k t.1.1 t.1.2.1 t.2.1 t.2.2.1) ((r_b, w64 (r_p + 1), ()), n1, true, ())
  else
    jn (fun t => B_s_reader_pick_J0 k t.1.1 t.1.2.1 t.2.1 t.2.2.1) ((r_b, w64 (r_p + 1), ()), n1, ((len r_b) == 0), ())
def F_s_reader_pick : Nat → List Int → Int → Int → Option ((Int × Unit) × ((List Int × Int × Unit) × Unit))
  | 0, _, _, _ => none
  | k + 1, r_b, r_p, n1 => B_s_reader_pick k r_b r_p n1
theorem F_s_reader_pick_succ (k : Nat) (r_b : List Int) (r_p : Int) (n1 : Int) : F_s_reader_pick (k + 1) r_b r_p n1 = B_s_reader_pick k r_b r_p n1 := rfl
theorem tot_s_reader_pick {r_b : List Int} {r_p : Int} {n1 : Int} {Q : (((Int × Unit) × ((List Int × Int × Unit) × Unit))) → Prop} (h : Tot (fun σ => B_s_reader_pick (σ 0) r_b r_p n1) Q) : Tot (fun σ => F_s_reader_pick (σ 0) r_b r_p n1) Q :=
  Tot.call (F := fun k => F_s_reader_pick k r_b r_p n1) (B := fun k => B_s_reader_pick k r_b r_p n1) (fun k => F_s_reader_pick_succ k r_b r_p n1) h
def B_s_newShapes_L0b (k : Nat) (again0 : ((Unit × Unit × Unit × Unit × Bool × Unit) × (Unit × Unit × Unit × List Int × Bool × Unit) × Int × Unit) → Option (((List Int × List Bool × List Int × List Int × Bool × Unit) × Unit) × (Unit))) (t0_Done : Bool) (s_Memo : List Int) (s_Done : Bool) (i : Int) : Option (((List Int × List Bool × List Int × List Int × Bool × Unit) × Unit) × (Unit)) :=
  bif decide (i < 20) then
    chk (room s_Memo.length ([(-1)]).length) <|
    again0 (((), (), (), (), t0_Done, ()), ((), (), (), (s_Memo ++ [(-1)]), s_Done, ()), w64 (i + 1), ())
  else
    some ((([], [], [], s_Memo, s_Done, ()), ()), ())
def B_s_newShapes_L0 (k : Nat) (n : Nat) (t : (Unit × Unit × Unit × Unit × Bool × Unit) × (Unit × Unit × Unit × List Int × Bool × Unit) × Int × Unit) : Option (((List Int × List Bool × List Int × List Int × Bool × Unit) × Unit) × (Unit)) :=
  lfix n (fun again t => B_s_newShapes_L0b k again t.1.2.2.2.2.1 t.2.1.2.2.2.1 t.2.1.2.2.2.2.1 t.2.2.1) t
def B_s_newShapes (k : Nat) : Option (((List Int × List Bool × List Int × List Int × Bool × Unit) × Unit) × (Unit)) :=
  B_s_newShapes_L0 k k (((), (), (), (), false, ()), ((), (), (), [], false, ()), 0, ())
def F_s_newShapes : Nat → Option (((List Int × List Bool × List Int × List Int × Bool × Unit) × Unit) × (Unit))
  | 0 => none
  | k + 1 => B_s_newShapes k
theorem F_s_newShapes_succ (k : Nat) : F_s_newShapes (k + 1) = B_s_newShapes k := rfl
theorem tot_s_newShapes {Q : ((((List Int × List Bool × List Int × List Int × Bool × Unit) × Unit) × (Unit))) → Prop} (h : Tot (fun σ => B_s_newShapes (σ 0)) Q) : Tot (fun σ => F_s_newShapes (σ 0)) Q :=
  Tot.call (F := fun k => F_s_newShapes k) (B := fun k => B_s_newShapes k) (fun k => F_s_newShapes_succ k) h
theorem loop_s_newShapes_L0 {Q : Bool → List Int → Bool → Int → (((List Int × List Bool × List Int × List Int × Bool × Unit) × Unit) × (Unit)) → Prop} (I : Bool → List Int → Bool → Int → Prop) (μ : Bool → List Int → Bool → Int → Nat)
    (step : ∀ (t0_Done : Bool) (s_Memo : List Int) (s_Done : Bool) (i : Int), I t0_Done s_Memo s_Done i → ∀ again : (Nat → Nat) → ((Unit × Unit × Unit × Unit × Bool × Unit) × (Unit × Unit × Unit × List Int × Bool × Unit) × Int × Unit) → Option (((List Int × List Bool × List Int × List Int × Bool × Unit) × Unit) × (Unit)), Dep 2 again → (∀ (y0 : Bool) (y1 : List Int) (y2 : Bool) (y3 : Int), I y0 y1 y2 y3 → μ y0 y1 y2 y3 < μ t0_Done s_Memo s_Done i → Tot (fun σ => again σ (((), (), (), (), y0, ()), ((), (), (), y1, y2, ()), y3, ())) (Q y0 y1 y2 y3)) →
      Tot (fun σ => B_s_newShapes_L0b (σ 0) (again σ) t0_Done s_Memo s_Done i) (Q t0_Done s_Memo s_Done i)) :
    ∀ (t0_Done : Bool) (s_Memo : List Int) (s_Done : Bool) (i : Int), I t0_Done s_Memo s_Done i → Tot (fun σ => B_s_newShapes_L0 (σ 0) (σ 0) (((), (), (), (), t0_Done, ()), ((), (), (), s_Memo, s_Done, ()), i, ())) (Q t0_Done s_Memo s_Done i) := fun t0_Done s_Memo s_Done i hI =>
  Tot.loop (L := fun σ n t => B_s_newShapes_L0 (σ 0) n t) (B := fun σ g t => B_s_newShapes_L0b (σ 0) g t.1.2.2.2.2.1 t.2.1.2.2.2.1 t.2.1.2.2.2.2.1 t.2.2.1) (Q := fun t => Q t.1.2.2.2.2.1 t.2.1.2.2.2.1 t.2.1.2.2.2.2.1 t.2.2.1) 1 (by decide)
    (fun s s' h => by have e0 : s 0 = s' 0 := h 0 (by decide); simp only [e0]) (fun s s' h => by have e0 : s 0 = s' 0 := h 0 (by decide); simp only [e0]) (fun _ _ _ => rfl) (fun t => I t.1.2.2.2.2.1 t.2.1.2.2.2.1 t.2.1.2.2.2.2.1 t.2.2.1) (fun t => μ t.1.2.2.2.2.1 t.2.1.2.2.2.1 t.2.1.2.2.2.2.1 t.2.2.1)
    (fun t ht again hag h => step t.1.2.2.2.2.1 t.2.1.2.2.2.1 t.2.1.2.2.2.2.1 t.2.2.1 ht again hag (fun y0 y1 y2 y3 hI hm => h (((), (), (), (), y0, ()), ((), (), (), y1, y2, ()), y3, ()) hI hm)) (((), (), (), (), t0_Done, ()), ((), (), (), s_Memo, s_Done, ()), i, ()) hI
def B_s_reader_one (k : Nat) (c_s_reader_pick : List Int → Int → Int → Option ((Int × Unit) × ((List Int × Int × Unit) × Unit))) (r_b : List Int) (r_p : Int) (list : List Int) : Option ((Int × Unit) × ((List Int × Int × Unit) × Unit)) :=
  (c_s_reader_pick r_b r_p (len list)).bind fun r9 =>
  chk (inb r9.1.1 list.length) <|
  some (((rdx (0 : Int) list r9.1.1), ()), ((r9.2.1.1, r9.2.1.2.1, ()), ()))
def F_s_reader_one : Nat → List Int → Int → List Int → Option ((Int × Unit) × ((List Int × Int × Unit) × Unit))
  | 0, _, _, _ => none
  | k + 1, r_b, r_p, list => B_s_reader_one k (F_s_reader_pick k) r_b r_p list
theorem F_s_reader_one_succ (k : Nat) (r_b : List Int) (r_p : Int) (list : List Int) : F_s_reader_one (k + 1) r_b r_p list = B_s_reader_one k (F_s_reader_pick k) r_b r_p list := rfl
theorem tot_s_reader_one {r_b : List Int} {r_p : Int} {list : List Int} {Q : (((Int × Unit) × ((List Int × Int × Unit) × Unit))) → Prop} (h : Tot (fun σ => B_s_reader_one (σ 0) (F_s_reader_pick (σ 0)) r_b r_p list) Q) : Tot (fun σ => F_s_reader_one (σ 0) r_b r_p list) Q :=
  Tot.call (F := fun k => F_s_reader_one k r_b r_p list) (B := fun k => B_s_reader_one k (F_s_reader_pick k) r_b r_p list) (fun k => F_s_reader_one_succ k r_b r_p list) h
def B_s_someOp_J1 (k : Nat) (c_s_reader_pick : List Int → Int → Int → Option ((Int × Unit) × ((List Int × Int × Unit) × Unit))) (c_s_reader_one : List Int → Int → List Int → Option ((Int × Unit) × ((List Int × Int × Unit) × Unit))) (r_b : List Int) (r_p : Int) (t2_Code : Int) (t2_Arg : Int) (o_Code : Int) (o_Arg : Int) : Option (((Int × Int × Unit) × Unit) × ((List Int × Int × Unit) × Unit)) :=
  some (((o_Code, o_Arg, ()), ()), ((r_b, r_p, ()), ()))
def B_s_someOp_J0 (k : Nat) (c_s_reader_pick : List Int → Int → Int → Option ((Int × Unit) × ((List Int × Int × Unit) × Unit))) (c_s_reader_one : List Int → Int → List Int → Option ((Int × Unit) × ((List Int × Int × Unit) × Unit))) (r_b : List Int) (r_p : Int) (t2_Code : Int) (t2_Arg : Int) (o_Code : Int) (o_Arg : Int) (t17 : Bool) : Option (((Int × Int × Unit) × Unit) × ((List Int × Int × Unit) × Unit)) :=
  bif t17 then
    (c_s_reader_pick r_b r_p 4).bind fun r23 =>
    jn (fun t => B_s_someOp_J1 k c_s_reader_pick c_s_reader_one t.1.1 t.1.2.1 t.2.1.1 t.2.1.2.1 t.2.2.1.1 t.2.2.1.2.1) ((r23.2.1.1, r23.2.1.2.1, ()), (t2_Code, t2_Arg, ()), (o_Code, r23.1.1, ()), ())
  else
    jn (fun t => B_s_someOp_J1 k c_s_reader_pick c_s_reader_one t.1.1 t.1.2.1 t.2.1.1 t.2.1.2.1 t.2.2.1.1 t.2.2.1.2.1) ((r_b, r_p, ()), (t2_Code, t2_Arg, ()), (o_Code, o_Arg, ()), ())
def B_s_someOp (k : Nat) (c_s_reader_pick : List Int → Int → Int → Option ((Int × Unit) × ((List Int × Int × Unit) × Unit))) (c_s_reader_one : List Int → Int → List Int → Option ((Int × Unit) × ((List Int × Int × Unit) × Unit))) (r_b : List Int) (r_p : Int) : Option (((Int × Int × Unit) × Unit) × ((List Int × Int × Unit) × Unit)) :=
  (c_s_reader_pick r_b r_p 20).bind fun r5 =>
  bif (r5.1.1 == 0) then
    (c_s_reader_pick r5.2.1.1 r5.2.1.2.1 250).bind fun r13 =>
    (c_s_reader_one r13.2.1.1 r13.2.1.2.1 ([5, 127, 128, 999, r13.1.1])).bind fun r15 =>
    jn (fun t => B_s_someOp_J1 k c_s_reader_pick c_s_reader_one t.1.1 t.1.2.1 t.2.1.1 t.2.1.2.1 t.2.2.1.1 t.2.2.1.2.1) ((r15.2.1.1, r15.2.1.2.1, ()), (0, 0, ()), (r5.1.1, r15.1.1, ()), ())
  else
    bif (r5.1.1 == 1) then
      jn (fun t => B_s_someOp_J0 k c_s_reader_pick c_s_reader_one t.1.1 t.1.2.1 t.2.1.1 t.2.1.2.1 t.2.2.1.1 t.2.2.1.2.1 t.2.2.2.1) ((r5.2.1.1, r5.2.1.2.1, ()), (0, 0, ()), (r5.1.1, 0, ()), (r5.1.1 == 1), ())
    else
      bif (r5.1.1 == 13) then
        jn (fun t => B_s_someOp_J0 k c_s_reader_pick c_s_reader_one t.1.1 t.1.2.1 t.2.1.1 t.2.1.2.1 t.2.2.1.1 t.2.2.1.2.1 t.2.2.2.1) ((r5.2.1.1, r5.2.1.2.1, ()), (0, 0, ()), (r5.1.1, 0, ()), (r5.1.1 == 13), ())
      else
        bif (r5.1.1 == 15) then
          jn (fun t => B_s_someOp_J0 k c_s_reader_pick c_s_reader_one t.1.1 t.1.2.1 t.2.1.1 t.2.1.2.1 t.2.2.1.1 t.2.2.1.2.1 t.2.2.2.1) ((r5.2.1.1, r5.2.1.2.1, ()), (0, 0, ()), (r5.1.1, 0, ()), (r5.1.1 == 15), ())
        else
          jn (fun t => B_s_someOp_J0 k c_s_reader_pick c_s_reader_one t.1.1 t.1.2.1 t.2.1.1 t.2.1.2.1 t.2.2.1.1 t.2.2.1.2.1 t.2.2.2.1) ((r5.2.1.1, r5.2.1.2.1, ()), (0, 0, ()), (r5.1.1, 0, ()), (r5.1.1 == 16), ())
def F_s_someOp : Nat → List Int → Int → Option (((Int × Int × Unit) × Unit) × ((List Int × Int × Unit) × Unit))
  | 0, _, _ => none
  | k + 1, r_b, r_p => B_s_someOp k (F_s_reader_pick k) (F_s_reader_one k) r_b r_p
theorem F_s_someOp_succ (k : Nat) (r_b : List Int) (r_p : Int) : F_s_someOp (k + 1) r_b r_p = B_s_someOp k (F_s_reader_pick k) (F_s_reader_one k) r_b r_p := rfl
theorem tot_s_someOp {r_b : List Int} {r_p : Int} {Q : ((((Int × Int × Unit) × Unit) × ((List Int × Int × Unit) × Unit))) → Prop} (h : Tot (fun σ => B_s_someOp (σ 0) (F_s_reader_pick (σ 0)) (F_s_reader_one (σ 0)) r_b r_p) Q) : Tot (fun σ => F_s_someOp (σ 0) r_b r_p) Q :=
  Tot.call (F := fun k => F_s_someOp k r_b r_p) (B := fun k => B_s_someOp k (F_s_reader_pick k) (F_s_reader_one k) r_b r_p) (fun k => F_s_someOp_succ k r_b r_p) h
def B_s_copyInts (k : Nat) (list : List Int) : Option ((List Int × Unit) × (Unit)) :=
  chk (room ([] : List Int).length list.length) <|
  some ((list, ()), ())
def F_s_copyInts : Nat → List Int → Option ((List Int × Unit) × (Unit))
  | 0, _ => none
  | k + 1, list => B_s_copyInts k list
theorem F_s_copyInts_succ (k : Nat) (list : List Int) : F_s_copyInts (k + 1) list = B_s_copyInts k list := rfl
theorem tot_s_copyInts {list : List Int} {Q : (((List Int × Unit) × (Unit))) → Prop} (h : Tot (fun σ => B_s_copyInts (σ 0) list) Q) : Tot (fun σ => F_s_copyInts (σ 0) list) Q :=
  Tot.call (F := fun k => F_s_copyInts k list) (B := fun k => B_s_copyInts k list) (fun k => F_s_copyInts_succ k list) h
def B_s_copyShapes (k : Nat) (c_s_copyInts : List Int → Option ((List Int × Unit) × (Unit))) (s_0 : List Int) (s_1 : List Bool) (s_2 : List Int) (s_3 : List Int) (s_4 : Bool) : Option (((List Int × List Bool × List Int × List Int × Bool × Unit) × Unit) × (Unit)) :=
  (c_s_copyInts s_0).bind fun r5 =>
  chk (room ([] : List Bool).length s_1.length) <|
  (c_s_copyInts s_2).bind fun r12 =>
  (c_s_copyInts s_3).bind fun r15 =>
  some (((r5.1.1, s_1, r12.1.1, r15.1.1, s_4, ()), ()), ())
def F_s_copyShapes : Nat → List Int → List Bool → List Int → List Int → Bool → Option (((List Int × List Bool × List Int × List Int × Bool × Unit) × Unit) × (Unit))
  | 0, _, _, _, _, _ => none
  | k + 1, s_0, s_1, s_2, s_3, s_4 => B_s_copyShapes k (F_s_copyInts k) s_0 s_1 s_2 s_3 s_4
theorem F_s_copyShapes_succ (k : Nat) (s_0 : List Int) (s_1 : List Bool) (s_2 : List Int) (s_3 : List Int) (s_4 : Bool) : F_s_copyShapes (k + 1) s_0 s_1 s_2 s_3 s_4 = B_s_copyShapes k (F_s_copyInts k) s_0 s_1 s_2 s_3 s_4 := rfl
theorem tot_s_copyShapes {s_0 : List Int} {s_1 : List Bool} {s_2 : List Int} {s_3 : List Int} {s_4 : Bool} {Q : ((((List Int × List Bool × List Int × List Int × Bool × Unit) × Unit) × (Unit))) → Prop} (h : Tot (fun σ => B_s_copyShapes (σ 0) (F_s_copyInts (σ 0)) s_0 s_1 s_2 s_3 s_4) Q) : Tot (fun σ => F_s_copyShapes (σ 0) s_0 s_1 s_2 s_3 s_4) Q :=
  Tot.call (F := fun k => F_s_copyShapes k s_0 s_1 s_2 s_3 s_4) (B := fun k => B_s_copyShapes k (F_s_copyInts k) s_0 s_1 s_2 s_3 s_4) (fun k => F_s_copyShapes_succ k s_0 s_1 s_2 s_3 s_4) h
def B_s_newKind (k : Nat) (c : Int) : Option ((Int × Unit) × (Unit)) :=
  bif (c == 0) then
    some ((0, ()), ())
  else
    bif (c == 1) then
      some ((1, ()), ())
    else
      bif (c == 4) then
        some ((2, ()), ())
      else
        bif (c == 7) then
          some ((3, ()), ())
        else
          bif (c == 10) then
            some ((4, ()), ())
          else
            bif (c == 13) then
              some ((5, ()), ())
            else
              some (((-1), ()), ())
def F_s_newKind : Nat → Int → Option ((Int × Unit) × (Unit))
  | 0, _ => none
  | k + 1, c => B_s_newKind k c
theorem F_s_newKind_succ (k : Nat) (c : Int) : F_s_newKind (k + 1) c = B_s_newKind k c := rfl
theorem tot_s_newKind {c : Int} {Q : (((Int × Unit) × (Unit))) → Prop} (h : Tot (fun σ => B_s_newKind (σ 0) c) Q) : Tot (fun σ => F_s_newKind (σ 0) c) Q :=
  Tot.call (F := fun k => F_s_newKind k c) (B := fun k => B_s_newKind k c) (fun k => F_s_newKind_succ k c) h
def B_s_pushShape (k : Nat) (s_0 : List Int) (s_1 : List Bool) (s_2 : List Int) (s_3 : List Int) (s_4 : Bool) (kind : Int) : Option (((List Int × List Bool × List Int × List Int × Bool × Unit) × Unit) × (Unit)) :=
  chk (room s_0.length ([kind]).length) <|
  chk (room s_1.length ([false]).length) <|
  chk (room s_2.length ([w64 ((len (s_0 ++ [kind])) - 1)]).length) <|
  some ((((s_0 ++ [kind]), (s_1 ++ [false]), (s_2 ++ [w64 ((len (s_0 ++ [kind])) - 1)]), s_3, s_4, ()), ()), ())
def F_s_pushShape : Nat → List Int → List Bool → List Int → List Int → Bool → Int → Option (((List Int × List Bool × List Int × List Int × Bool × Unit) × Unit) × (Unit))
  | 0, _, _, _, _, _, _ => none
  | k + 1, s_0, s_1, s_2, s_3, s_4, kind => B_s_pushShape k s_0 s_1 s_2 s_3 s_4 kind
theorem F_s_pushShape_succ (k : Nat) (s_0 : List Int) (s_1 : List Bool) (s_2 : List Int) (s_3 : List Int) (s_4 : Bool) (kind : Int) : F_s_pushShape (k + 1) s_0 s_1 s_2 s_3 s_4 kind = B_s_pushShape k s_0 s_1 s_2 s_3 s_4 kind := rfl
theorem tot_s_pushShape {s_0 : List Int} {s_1 : List Bool} {s_2 : List Int} {s_3 : List Int} {s_4 : Bool} {kind : Int} {Q : ((((List Int × List Bool × List Int × List Int × Bool × Unit) × Unit) × (Unit))) → Prop} (h : Tot (fun σ => B_s_pushShape (σ 0) s_0 s_1 s_2 s_3 s_4 kind) Q) : Tot (fun σ => F_s_pushShape (σ 0) s_0 s_1 s_2 s_3 s_4 kind) Q :=
  Tot.call (F := fun k => F_s_pushShape k s_0 s_1 s_2 s_3 s_4 kind) (B := fun k => B_s_pushShape k s_0 s_1 s_2 s_3 s_4 kind) (fun k => F_s_pushShape_succ k s_0 s_1 s_2 s_3 s_4 kind) h
def B_s_shapeAt_J0 (k : Nat) (s_Kinds : List Int) (s_Full : List Bool) (s_Stack : List Int) (s_Memo : List Int) (s_Done : Bool) (at5 : Int) (t21 : Bool) : Option ((Int × Unit) × (Unit)) :=
  bif t21 then
    some (((-1), ()), ())
  else
    chk (inb at5 s_Stack.length) <|
    chk (inb (rdx (0 : Int) s_Stack at5) s_Kinds.length) <|
    some (((rdx (0 : Int) s_Kinds (rdx (0 : Int) s_Stack at5)), ()), ())
def B_s_shapeAt (k : Nat) (s_0 : List Int) (s_1 : List Bool) (s_2 : List Int) (s_3 : List Int) (s_4 : Bool) (deep : Int) : Option ((Int × Unit) × (Unit)) :=
  bif decide ((w64 ((w64 ((len s_2) - 1)) - deep)) < 0) then
    jn (fun t => B_s_shapeAt_J0 k t.1.1 t.1.2.1 t.1.2.2.1 t.1.2.2.2.1 t.1.2.2.2.2.1 t.2.1 t.2.2.1) ((s_0, s_1, s_2, s_3, s_4, ()), w64 ((w64 ((len s_2) - 1)) - deep), true, ())
  else
    chk (inb (w64 ((w64 ((len s_2) - 1)) - deep)) s_2.length) <|
    jn (fun t => B_s_shapeAt_J0 k t.1.1 t.1.2.1 t.1.2.2.1 t.1.2.2.2.1 t.1.2.2.2.2.1 t.2.1 t.2.2.1) ((s_0, s_1, s_2, s_3, s_4, ()), w64 ((w64 ((len s_2) - 1)) - deep), decide ((rdx (0 : Int) s_2 (w64 ((w64 ((len s_2) - 1)) - deep))) < 0), ())
def F_s_shapeAt : Nat → List Int → List Bool → List Int → List Int → Bool → Int → Option ((Int × Unit) × (Unit))
  | 0, _, _, _, _, _, _ => none
  | k + 1, s_0, s_1, s_2, s_3, s_4, deep => B_s_shapeAt k s_0 s_1 s_2 s_3 s_4 deep
theorem F_s_shapeAt_succ (k : Nat) (s_0 : List Int) (s_1 : List Bool) (s_2 : List Int) (s_3 : List Int) (s_4 : Bool) (deep : Int) : F_s_shapeAt (k + 1) s_0 s_1 s_2 s_3 s_4 deep = B_s_shapeAt k s_0 s_1 s_2 s_3 s_4 deep := rfl
theorem tot_s_shapeAt {s_0 : List Int} {s_1 : List Bool} {s_2 : List Int} {s_3 : List Int} {s_4 : Bool} {deep : Int} {Q : (((Int × Unit) × (Unit))) → Prop} (h : Tot (fun σ => B_s_shapeAt (σ 0) s_0 s_1 s_2 s_3 s_4 deep) Q) : Tot (fun σ => F_s_shapeAt (σ 0) s_0 s_1 s_2 s_3 s_4 deep) Q :=
  Tot.call (F := fun k => F_s_shapeAt k s_0 s_1 s_2 s_3 s_4 deep) (B := fun k => B_s_shapeAt k s_0 s_1 s_2 s_3 s_4 deep) (fun k => F_s_shapeAt_succ k s_0 s_1 s_2 s_3 s_4 deep) h
def B_s_keyKind (k : Nat) (kind : Int) : Option ((Bool × Unit) × (Unit)) :=
  bif (kind == 0) then
    some ((true, ()), ())
  else
    some (((kind == 1), ()), ())
def F_s_keyKind : Nat → Int → Option ((Bool × Unit) × (Unit))
  | 0, _ => none
  | k + 1, kind => B_s_keyKind k kind
theorem F_s_keyKind_succ (k : Nat) (kind : Int) : F_s_keyKind (k + 1) kind = B_s_keyKind k kind := rfl
theorem tot_s_keyKind {kind : Int} {Q : (((Bool × Unit) × (Unit))) → Prop} (h : Tot (fun σ => B_s_keyKind (σ 0) kind) Q) : Tot (fun σ => F_s_keyKind (σ 0) kind) Q :=
  Tot.call (F := fun k => F_s_keyKind k kind) (B := fun k => B_s_keyKind k kind) (fun k => F_s_keyKind_succ k kind) h
def B_s_markShapes_L2b (k : Nat) (c_s_copyInts : List Int → Option ((List Int × Unit) × (Unit))) (c_s_pushShape : List Int → List Bool → List Int → List Int → Bool → Int → Option (((List Int × List Bool × List Int × List Int × Bool × Unit) × Unit) × (Unit))) (c_s_shapeAt : List Int → List Bool → List Int → List Int → Bool → Int → Option ((Int × Unit) × (Unit))) (c_s_keyKind : Int → Option ((Bool × Unit) × (Unit))) (again2 : ((List Int × List Bool × List Int × List Int × Bool × Unit) × (Unit × Unit × Unit × Unit × Bool × Unit) × List Int × Int × Unit) → Option (((List Int × List Bool × List Int × List Int × Bool × Unit) × Bool × Unit) × (Unit))) (s_Kinds : List Int) (s_Full : List Bool) (s_Stack : List Int) (s_Memo : List Int) (s_Done : Bool) (t4_Done : Bool) (list : List Int) (i : Int) : Option (((List Int × List Bool × List Int × List Int × Bool × Unit) × Bool × Unit) × (Unit)) :=
  bif decide (i < (len list)) then
    chk (inb i list.length) <|
    chk (decide (i.toNat < list.length)) <|
    chk (inb (list.getD i.toNat (0 : Int)) s_Kinds.length) <|
    chk (decide ((list.getD i.toNat (0 : Int)).toNat < s_Kinds.length)) <|
    (c_s_keyKind (s_Kinds.getD ((list.getD i.toNat (0 : Int)).toNat) (0 : Int))).bind fun r66 =>
    bif (!r66.1.1) then
      some (((s_Kinds, s_Full, s_Stack, s_Memo, s_Done, ()), false, ()), ())
    else
      again2 ((s_Kinds, s_Full, s_Stack, s_Memo, s_Done, ()), ((), (), (), (), t4_Done, ()), list, w64 (i + 2), ())
  else
    (c_s_shapeAt s_Kinds s_Full s_Stack s_Memo s_Done 0).bind fun r71 =>
    bif (r71.1.1 == 4) then
      some (((s_Kinds, s_Full, s_Stack, s_Memo, s_Done, ()), (((len list).tmod 2) == 0), ()), ())
    else
      some (((s_Kinds, s_Full, s_Stack, s_Memo, s_Done, ()), false, ()), ())
def B_s_markShapes_L2 (k : Nat) (c_s_copyInts : List Int → Option ((List Int × Unit) × (Unit))) (c_s_pushShape : List Int → List Bool → List Int → List Int → Bool → Int → Option (((List Int × List Bool × List Int × List Int × Bool × Unit) × Unit) × (Unit))) (c_s_shapeAt : List Int → List Bool → List Int → List Int → Bool → Int → Option ((Int × Unit) × (Unit))) (c_s_keyKind : Int → Option ((Bool × Unit) × (Unit))) (n : Nat) (t : (List Int × List Bool × List Int × List Int × Bool × Unit) × (Unit × Unit × Unit × Unit × Bool × Unit) × List Int × Int × Unit) : Option (((List Int × List Bool × List Int × List Int × Bool × Unit) × Bool × Unit) × (Unit)) :=
  lfix n (fun again t => B_s_markShapes_L2b k c_s_copyInts c_s_pushShape c_s_shapeAt c_s_keyKind again t.1.1 t.1.2.1 t.1.2.2.1 t.1.2.2.2.1 t.1.2.2.2.2.1 t.2.1.2.2.2.2.1 t.2.2.1 t.2.2.2.1) t
def B_s_markShapes_J0 (k : Nat) (c_s_copyInts : List Int → Option ((List Int × Unit) × (Unit))) (c_s_pushShape : List Int → List Bool → List Int → List Int → Bool → Int → Option (((List Int × List Bool × List Int × List Int × Bool × Unit) × Unit) × (Unit))) (c_s_shapeAt : List Int → List Bool → List Int → List Int → Bool → Int → Option ((Int × Unit) × (Unit))) (c_s_keyKind : Int → Option ((Bool × Unit) × (Unit))) (again1 : (Int × (List Int × List Bool × List Int × List Int × Bool × Unit) × (Unit × Unit × Unit × Unit × Bool × Unit) × Int × Unit) → Option (((List Int × List Bool × List Int × List Int × Bool × Unit) × Bool × Unit) × (Unit))) (c : Int) (s_Kinds : List Int) (s_Full : List Bool) (s_Stack : List Int) (s_Memo : List Int) (s_Done : Bool) (t4_Done : Bool) (at6 : Int) (t22 : Bool) : Option (((List Int × List Bool × List Int × List Int × Bool × Unit) × Bool × Unit) × (Unit)) :=
  bif t22 then
    again1 (c, (s_Kinds, s_Full, s_Stack, s_Memo, s_Done, ()), ((), (), (), (), t4_Done, ()), w64 (at6 - 1), ())
  else
    bif decide (at6 < 0) then
      some (((s_Kinds, s_Full, s_Stack, s_Memo, s_Done, ()), false, ()), ())
    else
      chk (cutb (w64 (at6 + 1)) (len s_Stack) s_Stack.length) <|
      (c_s_copyInts ((s_Stack.take ((len s_Stack).toNat)).drop ((w64 (at6 + 1)).toNat))).bind fun r33 =>
      chk (cutb 0 at6 s_Stack.length) <|
      bif (c == 3) then
        (c_s_pushShape s_Kinds s_Full (s_Stack.take at6.toNat) s_Memo s_Done 2).bind fun r43 =>
        some (((r43.1.1.1, r43.1.1.2.1, r43.1.1.2.2.1, r43.1.1.2.2.2.1, r43.1.1.2.2.2.2.1, ()), true, ()), ())
      else
        bif (c == 9) then
          (c_s_shapeAt s_Kinds s_Full ((s_Stack.take at6.toNat).drop 0) s_Memo s_Done 0).bind fun r48 =>
          some (((s_Kinds, s_Full, (s_Stack.take at6.toNat), s_Memo, s_Done, ()), (r48.1.1 == 3), ()), ())
        else
          bif (c == 12) then
            B_s_markShapes_L2 k c_s_copyInts c_s_pushShape c_s_shapeAt c_s_keyKind k ((s_Kinds, s_Full, (s_Stack.take at6.toNat), s_Memo, s_Done, ()), ((), (), (), (), t4_Done, ()), r33.1.1, 0, ())
          else
            some (((s_Kinds, s_Full, (s_Stack.take at6.toNat), s_Memo, s_Done, ()), true, ()), ())
def B_s_markShapes_L1b (k : Nat) (c_s_copyInts : List Int → Option ((List Int × Unit) × (Unit))) (c_s_pushShape : List Int → List Bool → List Int → List Int → Bool → Int → Option (((List Int × List Bool × List Int × List Int × Bool × Unit) × Unit) × (Unit))) (c_s_shapeAt : List Int → List Bool → List Int → List Int → Bool → Int → Option ((Int × Unit) × (Unit))) (c_s_keyKind : Int → Option ((Bool × Unit) × (Unit))) (again1 : (Int × (List Int × List Bool × List Int × List Int × Bool × Unit) × (Unit × Unit × Unit × Unit × Bool × Unit) × Int × Unit) → Option (((List Int × List Bool × List Int × List Int × Bool × Unit) × Bool × Unit) × (Unit))) (c : Int) (s_Kinds : List Int) (s_Full : List Bool) (s_Stack : List Int) (s_Memo : List Int) (s_Done : Bool) (t4_Done : Bool) (at6 : Int) : Option (((List Int × List Bool × List Int × List Int × Bool × Unit) × Bool × Unit) × (Unit)) :=
  bif decide (at6 ≥ 0) then
    chk (inb at6 s_Stack.length) <|
    chk (decide (at6.toNat < s_Stack.length)) <|
    jn (fun t => B_s_markShapes_J0 k c_s_copyInts c_s_pushShape c_s_shapeAt c_s_keyKind again1 t.1 t.2.1.1 t.2.1.2.1 t.2.1.2.2.1 t.2.1.2.2.2.1 t.2.1.2.2.2.2.1 t.2.2.1.2.2.2.2.1 t.2.2.2.1 t.2.2.2.2.1) (c, (s_Kinds, s_Full, s_Stack, s_Memo, s_Done, ()), ((), (), (), (), t4_Done, ()), at6, decide ((s_Stack.getD at6.toNat (0 : Int)) ≥ 0), ())
  else
    jn (fun t => B_s_markShapes_J0 k c_s_copyInts c_s_pushShape c_s_shapeAt c_s_keyKind again1 t.1 t.2.1.1 t.2.1.2.1 t.2.1.2.2.1 t.2.1.2.2.2.1 t.2.1.2.2.2.2.1 t.2.2.1.2.2.2.2.1 t.2.2.2.1 t.2.2.2.2.1) (c, (s_Kinds, s_Full, s_Stack, s_Memo, s_Done, ()), ((), (), (), (), t4_Done, ()), at6, false, ())
def B_s_markShapes_L1 (k : Nat) (c_s_copyInts : List Int → Option ((List Int × Unit) × (Unit))) (c_s_pushShape : List Int → List Bool → List Int → List Int → Bool → Int → Option (((List Int × List Bool × List Int × List Int × Bool × Unit) × Unit) × (Unit))) (c_s_shapeAt : List Int → List Bool → List Int → List Int → Bool → Int → Option ((Int × Unit) × (Unit))) (c_s_keyKind : Int → Option ((Bool × Unit) × (Unit))) (n : Nat) (t : Int × (List Int × List Bool × List Int × List Int × Bool × Unit) × (Unit × Unit × Unit × Unit × Bool × Unit) × Int × Unit) : Option (((List Int × List Bool × List Int × List Int × Bool × Unit) × Bool × Unit) × (Unit)) :=
  lfix n (fun again t => B_s_markShapes_L1b k c_s_copyInts c_s_pushShape c_s_shapeAt c_s_keyKind again t.1 t.2.1.1 t.2.1.2.1 t.2.1.2.2.1 t.2.1.2.2.2.1 t.2.1.2.2.2.2.1 t.2.2.1.2.2.2.2.1 t.2.2.2.1) t
def B_s_markShapes (k : Nat) (c_s_copyInts : List Int → Option ((List Int × Unit) × (Unit))) (c_s_pushShape : List Int → List Bool → List Int → List Int → Bool → Int → Option (((List Int × List Bool × List Int × List Int × Bool × Unit) × Unit) × (Unit))) (c_s_shapeAt : List Int → List Bool → List Int → List Int → Bool → Int → Option ((Int × Unit) × (Unit))) (c_s_keyKind : Int → Option ((Bool × Unit) × (Unit))) (s_0 : List Int) (s_1 : List Bool) (s_2 : List Int) (s_3 : List Int) (s_4 : Bool) (c : Int) : Option (((List Int × List Bool × List Int × List Int × Bool × Unit) × Bool × Unit) × (Unit)) :=
  B_s_markShapes_L1 k c_s_copyInts c_s_pushShape c_s_shapeAt c_s_keyKind k (c, (s_0, s_1, s_2, s_3, s_4, ()), ((), (), (), (), false, ()), w64 ((len s_2) - 1), ())
def F_s_markShapes : Nat → List Int → List Bool → List Int → List Int → Bool → Int → Option (((List Int × List Bool × List Int × List Int × Bool × Unit) × Bool × Unit) × (Unit))
  | 0, _, _, _, _, _, _ => none
  | k + 1, s_0, s_1, s_2, s_3, s_4, c => B_s_markShapes k (F_s_copyInts k) (F_s_pushShape k) (F_s_shapeAt k) (F_s_keyKind k) s_0 s_1 s_2 s_3 s_4 c
theorem F_s_markShapes_succ (k : Nat) (s_0 : List Int) (s_1 : List Bool) (s_2 : List Int) (s_3 : List Int) (s_4 : Bool) (c : Int) : F_s_markShapes (k + 1) s_0 s_1 s_2 s_3 s_4 c = B_s_markShapes k (F_s_copyInts k) (F_s_pushShape k) (F_s_shapeAt k) (F_s_keyKind k) s_0 s_1 s_2 s_3 s_4 c := rfl
theorem tot_s_markShapes {s_0 : List Int} {s_1 : List Bool} {s_2 : List Int} {s_3 : List Int} {s_4 : Bool} {c : Int} {Q : ((((List Int × List Bool × List Int × List Int × Bool × Unit) × Bool × Unit) × (Unit))) → Prop} (h : Tot (fun σ => B_s_markShapes (σ 0) (F_s_copyInts (σ 0)) (F_s_pushShape (σ 0)) (F_s_shapeAt (σ 0)) (F_s_keyKind (σ 0)) s_0 s_1 s_2 s_3 s_4 c) Q) : Tot (fun σ => F_s_markShapes (σ 0) s_0 s_1 s_2 s_3 s_4 c) Q :=
  Tot.call (F := fun k => F_s_markShapes k s_0 s_1 s_2 s_3 s_4 c) (B := fun k => B_s_markShapes k (F_s_copyInts k) (F_s_pushShape k) (F_s_shapeAt k) (F_s_keyKind k) s_0 s_1 s_2 s_3 s_4 c) (fun k => F_s_markShapes_succ k s_0 s_1 s_2 s_3 s_4 c) h
theorem loop_s_markShapes_L2 {Q : List Int → List Bool → List Int → List Int → Bool → Bool → List Int → Int → (((List Int × List Bool × List Int × List Int × Bool × Unit) × Bool × Unit) × (Unit)) → Prop} (I : List Int → List Bool → List Int → List Int → Bool → Bool → List Int → Int → Prop) (μ : List Int → List Bool → List Int → List Int → Bool → Bool → List Int → Int → Nat)
    (step : ∀ (s_Kinds : List Int) (s_Full : List Bool) (s_Stack : List Int) (s_Memo : List Int) (s_Done : Bool) (t4_Done : Bool) (list : List Int) (i : Int), I s_Kinds s_Full s_Stack s_Memo s_Done t4_Done list i → ∀ again : (Nat → Nat) → ((List Int × List Bool × List Int × List Int × Bool × Unit) × (Unit × Unit × Unit × Unit × Bool × Unit) × List Int × Int × Unit) → Option (((List Int × List Bool × List Int × List Int × Bool × Unit) × Bool × Unit) × (Unit)), Dep 2 again → (∀ (y0 : List Int) (y1 : List Bool) (y2 : List Int) (y3 : List Int) (y4 : Bool) (y5 : Bool) (y6 : List Int) (y7 : Int), I y0 y1 y2 y3 y4 y5 y6 y7 → μ y0 y1 y2 y3 y4 y5 y6 y7 < μ s_Kinds s_Full s_Stack s_Memo s_Done t4_Done list i → Tot (fun σ => again σ ((y0, y1, y2, y3, y4, ()), ((), (), (), (), y5, ()), y6, y7, ())) (Q y0 y1 y2 y3 y4 y5 y6 y7)) →
      Tot (fun σ => B_s_markShapes_L2b (σ 0) (F_s_copyInts (σ 0)) (F_s_pushShape (σ 0)) (F_s_shapeAt (σ 0)) (F_s_keyKind (σ 0)) (again σ) s_Kinds s_Full s_Stack s_Memo s_Done t4_Done list i) (Q s_Kinds s_Full s_Stack s_Memo s_Done t4_Done list i)) :
    ∀ (s_Kinds : List Int) (s_Full : List Bool) (s_Stack : List Int) (s_Memo : List Int) (s_Done : Bool) (t4_Done : Bool) (list : List Int) (i : Int), I s_Kinds s_Full s_Stack s_Memo s_Done t4_Done list i → Tot (fun σ => B_s_markShapes_L2 (σ 0) (F_s_copyInts (σ 0)) (F_s_pushShape (σ 0)) (F_s_shapeAt (σ 0)) (F_s_keyKind (σ 0)) (σ 0) ((s_Kinds, s_Full, s_Stack, s_Memo, s_Done, ()), ((), (), (), (), t4_Done, ()), list, i, ())) (Q s_Kinds s_Full s_Stack s_Memo s_Done t4_Done list i) := fun s_Kinds s_Full s_Stack s_Memo s_Done t4_Done list i hI =>
  Tot.loop (L := fun σ n t => B_s_markShapes_L2 (σ 0) (F_s_copyInts (σ 0)) (F_s_pushShape (σ 0)) (F_s_shapeAt (σ 0)) (F_s_keyKind (σ 0)) n t) (B := fun σ g t => B_s_markShapes_L2b (σ 0) (F_s_copyInts (σ 0)) (F_s_pushShape (σ 0)) (F_s_shapeAt (σ 0)) (F_s_keyKind (σ 0)) g t.1.1 t.1.2.1 t.1.2.2.1 t.1.2.2.2.1 t.1.2.2.2.2.1 t.2.1.2.2.2.2.1 t.2.2.1 t.2.2.2.1) (Q := fun t => Q t.1.1 t.1.2.1 t.1.2.2.1 t.1.2.2.2.1 t.1.2.2.2.2.1 t.2.1.2.2.2.2.1 t.2.2.1 t.2.2.2.1) 1 (by decide)
    (fun s s' h => by have e0 : s 0 = s' 0 := h 0 (by decide); simp only [e0]) (fun s s' h => by have e0 : s 0 = s' 0 := h 0 (by decide); simp only [e0]) (fun _ _ _ => rfl) (fun t => I t.1.1 t.1.2.1 t.1.2.2.1 t.1.2.2.2.1 t.1.2.2.2.2.1 t.2.1.2.2.2.2.1 t.2.2.1 t.2.2.2.1) (fun t => μ t.1.1 t.1.2.1 t.1.2.2.1 t.1.2.2.2.1 t.1.2.2.2.2.1 t.2.1.2.2.2.2.1 t.2.2.1 t.2.2.2.1)
    (fun t ht again hag h => step t.1.1 t.1.2.1 t.1.2.2.1 t.1.2.2.2.1 t.1.2.2.2.2.1 t.2.1.2.2.2.2.1 t.2.2.1 t.2.2.2.1 ht again hag (fun y0 y1 y2 y3 y4 y5 y6 y7 hI hm => h ((y0, y1, y2, y3, y4, ()), ((), (), (), (), y5, ()), y6, y7, ()) hI hm)) ((s_Kinds, s_Full, s_Stack, s_Memo, s_Done, ()), ((), (), (), (), t4_Done, ()), list, i, ()) hI
theorem loop_s_markShapes_L1 {Q : Int → List Int → List Bool → List Int → List Int → Bool → Bool → Int → (((List Int × List Bool × List Int × List Int × Bool × Unit) × Bool × Unit) × (Unit)) → Prop} (I : Int → List Int → List Bool → List Int → List Int → Bool → Bool → Int → Prop) (μ : Int → List Int → List Bool → List Int → List Int → Bool → Bool → Int → Nat)
    (step : ∀ (c : Int) (s_Kinds : List Int) (s_Full : List Bool) (s_Stack : List Int) (s_Memo : List Int) (s_Done : Bool) (t4_Done : Bool) (at6 : Int), I c s_Kinds s_Full s_Stack s_Memo s_Done t4_Done at6 → ∀ again : (Nat → Nat) → (Int × (List Int × List Bool × List Int × List Int × Bool × Unit) × (Unit × Unit × Unit × Unit × Bool × Unit) × Int × Unit) → Option (((List Int × List Bool × List Int × List Int × Bool × Unit) × Bool × Unit) × (Unit)), Dep 2 again → (∀ (y0 : Int) (y1 : List Int) (y2 : List Bool) (y3 : List Int) (y4 : List Int) (y5 : Bool) (y6 : Bool) (y7 : Int), I y0 y1 y2 y3 y4 y5 y6 y7 → μ y0 y1 y2 y3 y4 y5 y6 y7 < μ c s_Kinds s_Full s_Stack s_Memo s_Done t4_Done at6 → Tot (fun σ => again σ (y0, (y1, y2, y3, y4, y5, ()), ((), (), (), (), y6, ()), y7, ())) (Q y0 y1 y2 y3 y4 y5 y6 y7)) →
      Tot (fun σ => B_s_markShapes_L1b (σ 0) (F_s_copyInts (σ 0)) (F_s_pushShape (σ 0)) (F_s_shapeAt (σ 0)) (F_s_keyKind (σ 0)) (again σ) c s_Kinds s_Full s_Stack s_Memo s_Done t4_Done at6) (Q c s_Kinds s_Full s_Stack s_Memo s_Done t4_Done at6)) :
    ∀ (c : Int) (s_Kinds : List Int) (s_Full : List Bool) (s_Stack : List Int) (s_Memo : List Int) (s_Done : Bool) (t4_Done : Bool) (at6 : Int), I c s_Kinds s_Full s_Stack s_Memo s_Done t4_Done at6 → Tot (fun σ => B_s_markShapes_L1 (σ 0) (F_s_copyInts (σ 0)) (F_s_pushShape (σ 0)) (F_s_shapeAt (σ 0)) (F_s_keyKind (σ 0)) (σ 0) (c, (s_Kinds, s_Full, s_Stack, s_Memo, s_Done, ()), ((), (), (), (), t4_Done, ()), at6, ())) (Q c s_Kinds s_Full s_Stack s_Memo s_Done t4_Done at6) := fun c s_Kinds s_Full s_Stack s_Memo s_Done t4_Done at6 hI =>
  Tot.loop (L := fun σ n t => B_s_markShapes_L1 (σ 0) (F_s_copyInts (σ 0)) (F_s_pushShape (σ 0)) (F_s_shapeAt (σ 0)) (F_s_keyKind (σ 0)) n t) (B := fun σ g t => B_s_markShapes_L1b (σ 0) (F_s_copyInts (σ 0)) (F_s_pushShape (σ 0)) (F_s_shapeAt (σ 0)) (F_s_keyKind (σ 0)) g t.1 t.2.1.1 t.2.1.2.1 t.2.1.2.2.1 t.2.1.2.2.2.1 t.2.1.2.2.2.2.1 t.2.2.1.2.2.2.2.1 t.2.2.2.1) (Q := fun t => Q t.1 t.2.1.1 t.2.1.2.1 t.2.1.2.2.1 t.2.1.2.2.2.1 t.2.1.2.2.2.2.1 t.2.2.1.2.2.2.2.1 t.2.2.2.1) 1 (by decide)
    (fun s s' h => by have e0 : s 0 = s' 0 := h 0 (by decide); simp only [e0]) (fun s s' h => by have e0 : s 0 = s' 0 := h 0 (by decide); simp only [e0]) (fun _ _ _ => rfl) (fun t => I t.1 t.2.1.1 t.2.1.2.1 t.2.1.2.2.1 t.2.1.2.2.2.1 t.2.1.2.2.2.2.1 t.2.2.1.2.2.2.2.1 t.2.2.2.1) (fun t => μ t.1 t.2.1.1 t.2.1.2.1 t.2.1.2.2.1 t.2.1.2.2.2.1 t.2.1.2.2.2.2.1 t.2.2.1.2.2.2.2.1 t.2.2.2.1)
    (fun t ht again hag h => step t.1 t.2.1.1 t.2.1.2.1 t.2.1.2.2.1 t.2.1.2.2.2.1 t.2.1.2.2.2.2.1 t.2.2.1.2.2.2.2.1 t.2.2.2.1 ht again hag (fun y0 y1 y2 y3 y4 y5 y6 y7 hI hm => h (y0, (y1, y2, y3, y4, y5, ()), ((), (), (), (), y6, ()), y7, ()) hI hm)) (c, (s_Kinds, s_Full, s_Stack, s_Memo, s_Done, ()), ((), (), (), (), t4_Done, ()), at6, ()) hI
def B_s_takeShapes_J2 (k : Nat) (c_s_shapeAt : List Int → List Bool → List Int → List Int → Bool → Int → Option ((Int × Unit) × (Unit))) (c_s_pushShape : List Int → List Bool → List Int → List Int → Bool → Int → Option (((List Int × List Bool × List Int × List Int × Bool × Unit) × Unit) × (Unit))) (c_s_keyKind : Int → Option ((Bool × Unit) × (Unit))) (s_Kinds : List Int) (s_Full : List Bool) (s_Stack : List Int) (s_Memo : List Int) (s_Done : Bool) (t4_Done : Bool) (ok : Bool) (many : Int) : Option (((List Int × List Bool × List Int × List Int × Bool × Unit) × Bool × Unit) × (Unit)) :=
  bif (!ok) then
    some (((s_Kinds, s_Full, s_Stack, s_Memo, s_Done, ()), false, ()), ())
  else
    chk (cutb 0 (w64 ((len s_Stack) - many)) s_Stack.length) <|
    some (((s_Kinds, s_Full, (s_Stack.take ((w64 ((len s_Stack) - many)).toNat)), s_Memo, s_Done, ()), true, ()), ())
def B_s_takeShapes_J0 (k : Nat) (c_s_shapeAt : List Int → List Bool → List Int → List Int → Bool → Int → Option ((Int × Unit) × (Unit))) (c_s_pushShape : List Int → List Bool → List Int → List Int → Bool → Int → Option (((List Int × List Bool × List Int × List Int × Bool × Unit) × Unit) × (Unit))) (c_s_keyKind : Int → Option ((Bool × Unit) × (Unit))) (s_Kinds : List Int) (s_Full : List Bool) (s_Stack : List Int) (s_Memo : List Int) (s_Done : Bool) (t4_Done : Bool) (t40 : Bool) : Option (((List Int × List Bool × List Int × List Int × Bool × Unit) × Bool × Unit) × (Unit)) :=
  bif t40 then
    some (((s_Kinds, s_Full, s_Stack, s_Memo, s_Done, ()), false, ()), ())
  else
    chk (cutb 0 (w64 ((len s_Stack) - 2)) s_Stack.length) <|
    (c_s_pushShape s_Kinds s_Full (s_Stack.take ((w64 ((len s_Stack) - 2)).toNat)) s_Memo s_Done 2).bind fun r51 =>
    some (((r51.1.1.1, r51.1.1.2.1, r51.1.1.2.2.1, r51.1.1.2.2.2.1, r51.1.1.2.2.2.2.1, ()), true, ()), ())
def B_s_takeShapes_J1 (k : Nat) (c_s_shapeAt : List Int → List Bool → List Int → List Int → Bool → Int → Option ((Int × Unit) × (Unit))) (c_s_pushShape : List Int → List Bool → List Int → List Int → Bool → Int → Option (((List Int × List Bool × List Int × List Int × Bool × Unit) × Unit) × (Unit))) (c_s_keyKind : Int → Option ((Bool × Unit) × (Unit))) (s_Kinds : List Int) (s_Full : List Bool) (s_Stack : List Int) (s_Memo : List Int) (s_Done : Bool) (t4_Done : Bool) (ok : Bool) (many : Int) : Option (((List Int × List Bool × List Int × List Int × Bool × Unit) × Bool × Unit) × (Unit)) :=
  bif ok then
    chk (inb (w64 ((len s_Stack) - 2)) s_Stack.length) <|
    chk (decide ((w64 ((len s_Stack) - 2)).toNat < s_Stack.length)) <|
    chk (inb (s_Stack.getD ((w64 ((len s_Stack) - 2)).toNat) (0 : Int)) s_Full.length) <|
    chk (decide ((s_Stack.getD ((w64 ((len s_Stack) - 2)).toNat) (0 : Int)).toNat < s_Full.length)) <|
    jn (fun t => B_s_takeShapes_J2 k c_s_shapeAt c_s_pushShape c_s_keyKind t.1.1 t.1.2.1 t.1.2.2.1 t.1.2.2.2.1 t.1.2.2.2.2.1 t.2.1.2.2.2.2.1 t.2.2.1 t.2.2.2.1) ((s_Kinds, (s_Full.set ((s_Stack.getD ((w64 ((len s_Stack) - 2)).toNat) (0 : Int)).toNat) true), s_Stack, s_Memo, s_Done, ()), ((), (), (), (), t4_Done, ()), ok, many, ())
  else
    jn (fun t => B_s_takeShapes_J2 k c_s_shapeAt c_s_pushShape c_s_keyKind t.1.1 t.1.2.1 t.1.2.2.1 t.1.2.2.2.1 t.1.2.2.2.2.1 t.2.1.2.2.2.2.1 t.2.2.1 t.2.2.2.1) ((s_Kinds, s_Full, s_Stack, s_Memo, s_Done, ()), ((), (), (), (), t4_Done, ()), ok, many, ())
def B_s_takeShapes (k : Nat) (c_s_shapeAt : List Int → List Bool → List Int → List Int → Bool → Int → Option ((Int × Unit) × (Unit))) (c_s_pushShape : List Int → List Bool → List Int → List Int → Bool → Int → Option (((List Int × List Bool × List Int × List Int × Bool × Unit) × Unit) × (Unit))) (c_s_keyKind : Int → Option ((Bool × Unit) × (Unit))) (s_0 : List Int) (s_1 : List Bool) (s_2 : List Int) (s_3 : List Int) (s_4 : Bool) (o_0 : Int) (o_1 : Int) : Option (((List Int × List Bool × List Int × List Int × Bool × Unit) × Bool × Unit) × (Unit)) :=
  (c_s_shapeAt s_0 s_1 s_2 s_3 s_4 0).bind fun r11 =>
  (c_s_shapeAt s_0 s_1 s_2 s_3 s_4 1).bind fun r13 =>
  bif (o_0 == 5) then
    bif (!(decide (r11.1.1 ≥ 0))) then
      some (((s_0, s_1, s_2, s_3, s_4, ()), false, ()), ())
    else
      chk (cutb 0 (w64 ((len s_2) - 1)) s_2.length) <|
      (c_s_pushShape s_0 s_1 (s_2.take ((w64 ((len s_2) - 1)).toNat)) s_3 s_4 2).bind fun r32 =>
      some (((r32.1.1.1, r32.1.1.2.1, r32.1.1.2.2.1, r32.1.1.2.2.2.1, r32.1.1.2.2.2.2.1, ()), true, ()), ())
  else
    bif (o_0 == 6) then
      bif (!(decide (r11.1.1 ≥ 0))) then
        jn (fun t => B_s_takeShapes_J0 k c_s_shapeAt c_s_pushShape c_s_keyKind t.1.1 t.1.2.1 t.1.2.2.1 t.1.2.2.2.1 t.1.2.2.2.2.1 t.2.1.2.2.2.2.1 t.2.2.1) ((s_0, s_1, s_2, s_3, s_4, ()), ((), (), (), (), false, ()), true, ())
      else
        jn (fun t => B_s_takeShapes_J0 k c_s_shapeAt c_s_pushShape c_s_keyKind t.1.1 t.1.2.1 t.1.2.2.1 t.1.2.2.2.1 t.1.2.2.2.2.1 t.2.1.2.2.2.2.1 t.2.2.1) ((s_0, s_1, s_2, s_3, s_4, ()), ((), (), (), (), false, ()), decide (r13.1.1 < 0), ())
    else
      bif (o_0 == 8) then
        bif decide (r11.1.1 ≥ 0) then
          jn (fun t => B_s_takeShapes_J2 k c_s_shapeAt c_s_pushShape c_s_keyKind t.1.1 t.1.2.1 t.1.2.2.1 t.1.2.2.2.1 t.1.2.2.2.2.1 t.2.1.2.2.2.2.1 t.2.2.1 t.2.2.2.1) ((s_0, s_1, s_2, s_3, s_4, ()), ((), (), (), (), false, ()), (r13.1.1 == 3), 1, ())
        else
          jn (fun t => B_s_takeShapes_J2 k c_s_shapeAt c_s_pushShape c_s_keyKind t.1.1 t.1.2.1 t.1.2.2.1 t.1.2.2.2.1 t.1.2.2.2.2.1 t.2.1.2.2.2.2.1 t.2.2.1 t.2.2.2.1) ((s_0, s_1, s_2, s_3, s_4, ()), ((), (), (), (), false, ()), false, 1, ())
      else
        bif (o_0 == 11) then
          bif decide (r11.1.1 ≥ 0) then
            (c_s_keyKind r13.1.1).bind fun r64 =>
            bif r64.1.1 then
              (c_s_shapeAt s_0 s_1 s_2 s_3 s_4 2).bind fun r68 =>
              jn (fun t => B_s_takeShapes_J2 k c_s_shapeAt c_s_pushShape c_s_keyKind t.1.1 t.1.2.1 t.1.2.2.1 t.1.2.2.2.1 t.1.2.2.2.2.1 t.2.1.2.2.2.2.1 t.2.2.1 t.2.2.2.1) ((s_0, s_1, s_2, s_3, s_4, ()), ((), (), (), (), false, ()), (r68.1.1 == 4), 2, ())
            else
              jn (fun t => B_s_takeShapes_J2 k c_s_shapeAt c_s_pushShape c_s_keyKind t.1.1 t.1.2.1 t.1.2.2.1 t.1.2.2.2.1 t.1.2.2.2.2.1 t.2.1.2.2.2.2.1 t.2.2.1 t.2.2.2.1) ((s_0, s_1, s_2, s_3, s_4, ()), ((), (), (), (), false, ()), false, 2, ())
          else
            jn (fun t => B_s_takeShapes_J2 k c_s_shapeAt c_s_pushShape c_s_keyKind t.1.1 t.1.2.1 t.1.2.2.1 t.1.2.2.2.1 t.1.2.2.2.2.1 t.2.1.2.2.2.2.1 t.2.2.1 t.2.2.2.1) ((s_0, s_1, s_2, s_3, s_4, ()), ((), (), (), (), false, ()), false, 2, ())
        else
          bif (o_0 == 14) then
            bif decide (r11.1.1 ≥ 0) then
              bif (r13.1.1 == 5) then
                chk (inb (w64 ((len s_2) - 2)) s_2.length) <|
                chk (decide ((w64 ((len s_2) - 2)).toNat < s_2.length)) <|
                chk (inb (s_2.getD ((w64 ((len s_2) - 2)).toNat) (0 : Int)) s_1.length) <|
                chk (decide ((s_2.getD ((w64 ((len s_2) - 2)).toNat) (0 : Int)).toNat < s_1.length)) <|
                jn (fun t => B_s_takeShapes_J1 k c_s_shapeAt c_s_pushShape c_s_keyKind t.1.1 t.1.2.1 t.1.2.2.1 t.1.2.2.2.1 t.1.2.2.2.2.1 t.2.1.2.2.2.2.1 t.2.2.1 t.2.2.2.1) ((s_0, s_1, s_2, s_3, s_4, ()), ((), (), (), (), false, ()), (!(s_1.getD ((s_2.getD ((w64 ((len s_2) - 2)).toNat) (0 : Int)).toNat) false)), 1, ())
              else
                jn (fun t => B_s_takeShapes_J1 k c_s_shapeAt c_s_pushShape c_s_keyKind t.1.1 t.1.2.1 t.1.2.2.1 t.1.2.2.2.1 t.1.2.2.2.2.1 t.2.1.2.2.2.2.1 t.2.2.1 t.2.2.2.1) ((s_0, s_1, s_2, s_3, s_4, ()), ((), (), (), (), false, ()), false, 1, ())
            else
              jn (fun t => B_s_takeShapes_J1 k c_s_shapeAt c_s_pushShape c_s_keyKind t.1.1 t.1.2.1 t.1.2.2.1 t.1.2.2.2.1 t.1.2.2.2.2.1 t.2.1.2.2.2.2.1 t.2.2.1 t.2.2.2.1) ((s_0, s_1, s_2, s_3, s_4, ()), ((), (), (), (), false, ()), false, 1, ())
          else
            bif (o_0 == 15) then
              bif decide (r11.1.1 ≥ 0) then
                chk (inb (w64 ((len s_2) - 1)) s_2.length) <|
                chk (decide ((w64 ((len s_2) - 1)).toNat < s_2.length)) <|
                chk (inb o_1 s_3.length) <|
                chk (decide (o_1.toNat < s_3.length)) <|
                jn (fun t => B_s_takeShapes_J2 k c_s_shapeAt c_s_pushShape c_s_keyKind t.1.1 t.1.2.1 t.1.2.2.1 t.1.2.2.2.1 t.1.2.2.2.2.1 t.2.1.2.2.2.2.1 t.2.2.1 t.2.2.2.1) ((s_0, s_1, s_2, (s_3.set o_1.toNat (s_2.getD ((w64 ((len s_2) - 1)).toNat) (0 : Int))), s_4, ()), ((), (), (), (), false, ()), decide (r11.1.1 ≥ 0), 0, ())
              else
                jn (fun t => B_s_takeShapes_J2 k c_s_shapeAt c_s_pushShape c_s_keyKind t.1.1 t.1.2.1 t.1.2.2.1 t.1.2.2.2.1 t.1.2.2.2.2.1 t.2.1.2.2.2.2.1 t.2.2.1 t.2.2.2.1) ((s_0, s_1, s_2, s_3, s_4, ()), ((), (), (), (), false, ()), decide (r11.1.1 ≥ 0), 0, ())
            else
              bif (o_0 == 19) then
                bif decide (r11.1.1 ≥ 0) then
                  jn (fun t => B_s_takeShapes_J2 k c_s_shapeAt c_s_pushShape c_s_keyKind t.1.1 t.1.2.1 t.1.2.2.1 t.1.2.2.2.1 t.1.2.2.2.2.1 t.2.1.2.2.2.2.1 t.2.2.1 t.2.2.2.1) ((s_0, s_1, s_2, s_3, true, ()), ((), (), (), (), false, ()), ((len s_2) == 1), 0, ())
                else
                  jn (fun t => B_s_takeShapes_J2 k c_s_shapeAt c_s_pushShape c_s_keyKind t.1.1 t.1.2.1 t.1.2.2.1 t.1.2.2.2.1 t.1.2.2.2.2.1 t.2.1.2.2.2.2.1 t.2.2.1 t.2.2.2.1) ((s_0, s_1, s_2, s_3, true, ()), ((), (), (), (), false, ()), false, 0, ())
              else
                jn (fun t => B_s_takeShapes_J2 k c_s_shapeAt c_s_pushShape c_s_keyKind t.1.1 t.1.2.1 t.1.2.2.1 t.1.2.2.2.1 t.1.2.2.2.2.1 t.2.1.2.2.2.2.1 t.2.2.1 t.2.2.2.1) ((s_0, s_1, s_2, s_3, s_4, ()), ((), (), (), (), false, ()), decide (r11.1.1 ≥ 0), 1, ())
def F_s_takeShapes : Nat → List Int → List Bool → List Int → List Int → Bool → Int → Int → Option (((List Int × List Bool × List Int × List Int × Bool × Unit) × Bool × Unit) × (Unit))
  | 0, _, _, _, _, _, _, _ => none
  | k + 1, s_0, s_1, s_2, s_3, s_4, o_0, o_1 => B_s_takeShapes k (F_s_shapeAt k) (F_s_pushShape k) (F_s_keyKind k) s_0 s_1 s_2 s_3 s_4 o_0 o_1
theorem F_s_takeShapes_succ (k : Nat) (s_0 : List Int) (s_1 : List Bool) (s_2 : List Int) (s_3 : List Int) (s_4 : Bool) (o_0 : Int) (o_1 : Int) : F_s_takeShapes (k + 1) s_0 s_1 s_2 s_3 s_4 o_0 o_1 = B_s_takeShapes k (F_s_shapeAt k) (F_s_pushShape k) (F_s_keyKind k) s_0 s_1 s_2 s_3 s_4 o_0 o_1 := rfl
theorem tot_s_takeShapes {s_0 : List Int} {s_1 : List Bool} {s_2 : List Int} {s_3 : List Int} {s_4 : Bool} {o_0 : Int} {o_1 : Int} {Q : ((((List Int × List Bool × List Int × List Int × Bool × Unit) × Bool × Unit) × (Unit))) → Prop} (h : Tot (fun σ => B_s_takeShapes (σ 0) (F_s_shapeAt (σ 0)) (F_s_pushShape (σ 0)) (F_s_keyKind (σ 0)) s_0 s_1 s_2 s_3 s_4 o_0 o_1) Q) : Tot (fun σ => F_s_takeShapes (σ 0) s_0 s_1 s_2 s_3 s_4 o_0 o_1) Q :=
  Tot.call (F := fun k => F_s_takeShapes k s_0 s_1 s_2 s_3 s_4 o_0 o_1) (B := fun k => B_s_takeShapes k (F_s_shapeAt k) (F_s_pushShape k) (F_s_keyKind k) s_0 s_1 s_2 s_3 s_4 o_0 o_1) (fun k => F_s_takeShapes_succ k s_0 s_1 s_2 s_3 s_4 o_0 o_1) h
def B_s_stepShapes_J1 (k : Nat) (c_s_newKind : Int → Option ((Int × Unit) × (Unit))) (c_s_pushShape : List Int → List Bool → List Int → List Int → Bool → Int → Option (((List Int × List Bool × List Int × List Int × Bool × Unit) × Unit) × (Unit))) (c_s_markShapes : List Int → List Bool → List Int → List Int → Bool → Int → Option (((List Int × List Bool × List Int × List Int × Bool × Unit) × Bool × Unit) × (Unit))) (c_s_takeShapes : List Int → List Bool → List Int → List Int → Bool → Int → Int → Option (((List Int × List Bool × List Int × List Int × Bool × Unit) × Bool × Unit) × (Unit))) (s_Kinds : List Int) (s_Full : List Bool) (s_Stack : List Int) (s_Memo : List Int) (s_Done : Bool) (t4_Done : Bool) (ok : Bool) : Option (((List Int × List Bool × List Int × List Int × Bool × Unit) × Bool × Unit) × (Unit)) :=
  bif ok then
    bif decide ((len s_Kinds) ≤ 300) then
      some (((s_Kinds, s_Full, s_Stack, s_Memo, s_Done, ()), decide ((len s_Stack) ≤ 300), ()), ())
    else
      some (((s_Kinds, s_Full, s_Stack, s_Memo, s_Done, ()), false, ()), ())
  else
    some (((s_Kinds, s_Full, s_Stack, s_Memo, s_Done, ()), false, ()), ())
def B_s_stepShapes_J0 (k : Nat) (c_s_newKind : Int → Option ((Int × Unit) × (Unit))) (c_s_pushShape : List Int → List Bool → List Int → List Int → Bool → Int → Option (((List Int × List Bool × List Int × List Int × Bool × Unit) × Unit) × (Unit))) (c_s_markShapes : List Int → List Bool → List Int → List Int → Bool → Int → Option (((List Int × List Bool × List Int × List Int × Bool × Unit) × Bool × Unit) × (Unit))) (c_s_takeShapes : List Int → List Bool → List Int → List Int → Bool → Int → Int → Option (((List Int × List Bool × List Int × List Int × Bool × Unit) × Bool × Unit) × (Unit))) (s_Kinds : List Int) (s_Full : List Bool) (s_Stack : List Int) (s_Memo : List Int) (s_Done : Bool) (o_Code : Int) (o_Arg : Int) (t4_Done : Bool) (t61 : Bool) : Option (((List Int × List Bool × List Int × List Int × Bool × Unit) × Bool × Unit) × (Unit)) :=
  bif t61 then
    (c_s_markShapes s_Kinds s_Full s_Stack s_Memo s_Done o_Code).bind fun r84 =>
    jn (fun t => B_s_stepShapes_J1 k c_s_newKind c_s_pushShape c_s_markShapes c_s_takeShapes t.1.1 t.1.2.1 t.1.2.2.1 t.1.2.2.2.1 t.1.2.2.2.2.1 t.2.1.2.2.2.2.1 t.2.2.1) ((r84.1.1.1, r84.1.1.2.1, r84.1.1.2.2.1, r84.1.1.2.2.2.1, r84.1.1.2.2.2.2.1, ()), ((), (), (), (), t4_Done, ()), r84.1.2.1, ())
  else
    (c_s_takeShapes s_Kinds s_Full s_Stack s_Memo s_Done o_Code o_Arg).bind fun r16 =>
    jn (fun t => B_s_stepShapes_J1 k c_s_newKind c_s_pushShape c_s_markShapes c_s_takeShapes t.1.1 t.1.2.1 t.1.2.2.1 t.1.2.2.2.1 t.1.2.2.2.2.1 t.2.1.2.2.2.2.1 t.2.2.1) ((r16.1.1.1, r16.1.1.2.1, r16.1.1.2.2.1, r16.1.1.2.2.2.1, r16.1.1.2.2.2.2.1, ()), ((), (), (), (), t4_Done, ()), r16.1.2.1, ())
def B_s_stepShapes (k : Nat) (c_s_newKind : Int → Option ((Int × Unit) × (Unit))) (c_s_pushShape : List Int → List Bool → List Int → List Int → Bool → Int → Option (((List Int × List Bool × List Int × List Int × Bool × Unit) × Unit) × (Unit))) (c_s_markShapes : List Int → List Bool → List Int → List Int → Bool → Int → Option (((List Int × List Bool × List Int × List Int × Bool × Unit) × Bool × Unit) × (Unit))) (c_s_takeShapes : List Int → List Bool → List Int → List Int → Bool → Int → Int → Option (((List Int × List Bool × List Int × List Int × Bool × Unit) × Bool × Unit) × (Unit))) (s_0 : List Int) (s_1 : List Bool) (s_2 : List Int) (s_3 : List Int) (s_4 : Bool) (o_0 : Int) (o_1 : Int) : Option (((List Int × List Bool × List Int × List Int × Bool × Unit) × Bool × Unit) × (Unit)) :=
  bif (!(!s_4)) then
    some (((s_0, s_1, s_2, s_3, s_4, ()), false, ()), ())
  else
    (c_s_newKind o_0).bind fun r22 =>
    bif decide (r22.1.1 ≥ 0) then
      (c_s_newKind o_0).bind fun r27 =>
      (c_s_pushShape s_0 s_1 s_2 s_3 s_4 r27.1.1).bind fun r28 =>
      jn (fun t => B_s_stepShapes_J1 k c_s_newKind c_s_pushShape c_s_markShapes c_s_takeShapes t.1.1 t.1.2.1 t.1.2.2.1 t.1.2.2.2.1 t.1.2.2.2.2.1 t.2.1.2.2.2.2.1 t.2.2.1) ((r28.1.1.1, r28.1.1.2.1, r28.1.1.2.2.1, r28.1.1.2.2.2.1, r28.1.1.2.2.2.2.1, ()), ((), (), (), (), false, ()), (!s_4), ())
    else
      bif (o_0 == 2) then
        chk (room s_2.length ([(-1)]).length) <|
        jn (fun t => B_s_stepShapes_J1 k c_s_newKind c_s_pushShape c_s_markShapes c_s_takeShapes t.1.1 t.1.2.1 t.1.2.2.1 t.1.2.2.2.1 t.1.2.2.2.2.1 t.2.1.2.2.2.2.1 t.2.2.1) ((s_0, s_1, (s_2 ++ [(-1)]), s_3, s_4, ()), ((), (), (), (), false, ()), (!s_4), ())
      else
        bif (o_0 == 16) then
          chk (inb o_1 s_3.length) <|
          chk (decide (o_1.toNat < s_3.length)) <|
          bif decide ((s_3.getD o_1.toNat (0 : Int)) < 0) then
            some (((s_0, s_1, s_2, s_3, s_4, ()), false, ()), ())
          else
            chk (inb o_1 s_3.length) <|
            chk (decide (o_1.toNat < s_3.length)) <|
            chk (room s_2.length ([(s_3.getD o_1.toNat (0 : Int))]).length) <|
            jn (fun t => B_s_stepShapes_J1 k c_s_newKind c_s_pushShape c_s_markShapes c_s_takeShapes t.1.1 t.1.2.1 t.1.2.2.1 t.1.2.2.2.1 t.1.2.2.2.2.1 t.2.1.2.2.2.2.1 t.2.2.1) ((s_0, s_1, (s_2 ++ [(s_3.getD o_1.toNat (0 : Int))]), s_3, s_4, ()), ((), (), (), (), false, ()), (!s_4), ())
        else
          bif (o_0 == 3) then
            jn (fun t => B_s_stepShapes_J0 k c_s_newKind c_s_pushShape c_s_markShapes c_s_takeShapes t.1.1 t.1.2.1 t.1.2.2.1 t.1.2.2.2.1 t.1.2.2.2.2.1 t.2.1.1 t.2.1.2.1 t.2.2.1.2.2.2.2.1 t.2.2.2.1) ((s_0, s_1, s_2, s_3, s_4, ()), (o_0, o_1, ()), ((), (), (), (), false, ()), true, ())
          else
            bif (o_0 == 9) then
              jn (fun t => B_s_stepShapes_J0 k c_s_newKind c_s_pushShape c_s_markShapes c_s_takeShapes t.1.1 t.1.2.1 t.1.2.2.1 t.1.2.2.2.1 t.1.2.2.2.2.1 t.2.1.1 t.2.1.2.1 t.2.2.1.2.2.2.2.1 t.2.2.2.1) ((s_0, s_1, s_2, s_3, s_4, ()), (o_0, o_1, ()), ((), (), (), (), false, ()), true, ())
            else
              bif (o_0 == 12) then
                jn (fun t => B_s_stepShapes_J0 k c_s_newKind c_s_pushShape c_s_markShapes c_s_takeShapes t.1.1 t.1.2.1 t.1.2.2.1 t.1.2.2.2.1 t.1.2.2.2.2.1 t.2.1.1 t.2.1.2.1 t.2.2.1.2.2.2.2.1 t.2.2.2.1) ((s_0, s_1, s_2, s_3, s_4, ()), (o_0, o_1, ()), ((), (), (), (), false, ()), true, ())
              else
                jn (fun t => B_s_stepShapes_J0 k c_s_newKind c_s_pushShape c_s_markShapes c_s_takeShapes t.1.1 t.1.2.1 t.1.2.2.1 t.1.2.2.2.1 t.1.2.2.2.2.1 t.2.1.1 t.2.1.2.1 t.2.2.1.2.2.2.2.1 t.2.2.2.1) ((s_0, s_1, s_2, s_3, s_4, ()), (o_0, o_1, ()), ((), (), (), (), false, ()), (o_0 == 18), ())
def F_s_stepShapes : Nat → List Int → List Bool → List Int → List Int → Bool → Int → Int → Option (((List Int × List Bool × List Int × List Int × Bool × Unit) × Bool × Unit) × (Unit))
  | 0, _, _, _, _, _, _, _ => none
  | k + 1, s_0, s_1, s_2, s_3, s_4, o_0, o_1 => B_s_stepShapes k (F_s_newKind k) (F_s_pushShape k) (F_s_markShapes k) (F_s_takeShapes k) s_0 s_1 s_2 s_3 s_4 o_0 o_1
theorem F_s_stepShapes_succ (k : Nat) (s_0 : List Int) (s_1 : List Bool) (s_2 : List Int) (s_3 : List Int) (s_4 : Bool) (o_0 : Int) (o_1 : Int) : F_s_stepShapes (k + 1) s_0 s_1 s_2 s_3 s_4 o_0 o_1 = B_s_stepShapes k (F_s_newKind k) (F_s_pushShape k) (F_s_markShapes k) (F_s_takeShapes k) s_0 s_1 s_2 s_3 s_4 o_0 o_1 := rfl
theorem tot_s_stepShapes {s_0 : List Int} {s_1 : List Bool} {s_2 : List Int} {s_3 : List Int} {s_4 : Bool} {o_0 : Int} {o_1 : Int} {Q : ((((List Int × List Bool × List Int × List Int × Bool × Unit) × Bool × Unit) × (Unit))) → Prop} (h : Tot (fun σ => B_s_stepShapes (σ 0) (F_s_newKind (σ 0)) (F_s_pushShape (σ 0)) (F_s_markShapes (σ 0)) (F_s_takeShapes (σ 0)) s_0 s_1 s_2 s_3 s_4 o_0 o_1) Q) : Tot (fun σ => F_s_stepShapes (σ 0) s_0 s_1 s_2 s_3 s_4 o_0 o_1) Q :=
  Tot.call (F := fun k => F_s_stepShapes k s_0 s_1 s_2 s_3 s_4 o_0 o_1) (B := fun k => B_s_stepShapes k (F_s_newKind k) (F_s_pushShape k) (F_s_markShapes k) (F_s_takeShapes k) s_0 s_1 s_2 s_3 s_4 o_0 o_1) (fun k => F_s_stepShapes_succ k s_0 s_1 s_2 s_3 s_4 o_0 o_1) h
def B_s_argOf_J0 (k : Nat) (t10 : Bool) : Option ((Int × Unit) × (Unit)) :=
  bif t10 then
    some ((19, ()), ())
  else
    some (((-1), ()), ())
def B_s_argOf (k : Nat) (c : Int) : Option ((Int × Unit) × (Unit)) :=
  bif (c == 0) then
    some ((999, ()), ())
  else
    bif (c == 1) then
      some ((9, ()), ())
    else
      bif (c == 13) then
        some ((9, ()), ())
      else
        bif (c == 15) then
          jn (fun t => B_s_argOf_J0 k t.1) ((c == 15), ())
        else
          jn (fun t => B_s_argOf_J0 k t.1) ((c == 16), ())
def F_s_argOf : Nat → Int → Option ((Int × Unit) × (Unit))
  | 0, _ => none
  | k + 1, c => B_s_argOf k c
theorem F_s_argOf_succ (k : Nat) (c : Int) : F_s_argOf (k + 1) c = B_s_argOf k c := rfl
theorem tot_s_argOf {c : Int} {Q : (((Int × Unit) × (Unit))) → Prop} (h : Tot (fun σ => B_s_argOf (σ 0) c) Q) : Tot (fun σ => F_s_argOf (σ 0) c) Q :=
  Tot.call (F := fun k => F_s_argOf k c) (B := fun k => B_s_argOf k c) (fun k => F_s_argOf_succ k c) h
def B_s_inRange (k : Nat) (n0 : Int) (low : Int) (high : Int) : Option ((Bool × Unit) × (Unit)) :=
  bif decide (low ≤ n0) then
    some ((decide (n0 ≤ high), ()), ())
  else
    some ((false, ()), ())
def F_s_inRange : Nat → Int → Int → Int → Option ((Bool × Unit) × (Unit))
  | 0, _, _, _ => none
  | k + 1, n0, low, high => B_s_inRange k n0 low high
theorem F_s_inRange_succ (k : Nat) (n0 : Int) (low : Int) (high : Int) : F_s_inRange (k + 1) n0 low high = B_s_inRange k n0 low high := rfl
theorem tot_s_inRange {n0 : Int} {low : Int} {high : Int} {Q : (((Bool × Unit) × (Unit))) → Prop} (h : Tot (fun σ => B_s_inRange (σ 0) n0 low high) Q) : Tot (fun σ => F_s_inRange (σ 0) n0 low high) Q :=
  Tot.call (F := fun k => F_s_inRange k n0 low high) (B := fun k => B_s_inRange k n0 low high) (fun k => F_s_inRange_succ k n0 low high) h
def B_s_validOp (k : Nat) (c_s_argOf : Int → Option ((Int × Unit) × (Unit))) (c_s_inRange : Int → Int → Int → Option ((Bool × Unit) × (Unit))) (o_0 : Int) (o_1 : Int) : Option ((Bool × Unit) × (Unit)) :=
  (c_s_argOf o_0).bind fun r6 =>
  (c_s_inRange o_0 0 19).bind fun r9 =>
  bif r9.1.1 then
    bif decide (r6.1.1 < 0) then
      bif (o_1 == 0) then
        some ((true, ()), ())
      else
        bif decide (r6.1.1 ≥ 0) then
          (c_s_inRange o_1 0 r6.1.1).bind fun r25 =>
          some ((r25.1.1, ()), ())
        else
          some ((false, ()), ())
    else
      bif decide (r6.1.1 ≥ 0) then
        (c_s_inRange o_1 0 r6.1.1).bind fun r25 =>
        some ((r25.1.1, ()), ())
      else
        some ((false, ()), ())
  else
    some ((false, ()), ())
def F_s_validOp : Nat → Int → Int → Option ((Bool × Unit) × (Unit))
  | 0, _, _ => none
  | k + 1, o_0, o_1 => B_s_validOp k (F_s_argOf k) (F_s_inRange k) o_0 o_1
theorem F_s_validOp_succ (k : Nat) (o_0 : Int) (o_1 : Int) : F_s_validOp (k + 1) o_0 o_1 = B_s_validOp k (F_s_argOf k) (F_s_inRange k) o_0 o_1 := rfl
theorem tot_s_validOp {o_0 : Int} {o_1 : Int} {Q : (((Bool × Unit) × (Unit))) → Prop} (h : Tot (fun σ => B_s_validOp (σ 0) (F_s_argOf (σ 0)) (F_s_inRange (σ 0)) o_0 o_1) Q) : Tot (fun σ => F_s_validOp (σ 0) o_0 o_1) Q :=
  Tot.call (F := fun k => F_s_validOp k o_0 o_1) (B := fun k => B_s_validOp k (F_s_argOf k) (F_s_inRange k) o_0 o_1) (fun k => F_s_validOp_succ k o_0 o_1) h
def B_s_validOps_L0b (k : Nat) (c_s_validOp : Int → Int → Option ((Bool × Unit) × (Unit))) (again0 : ((List (Int × Int)) × Int × Unit) → Option ((Bool × Unit) × (Unit))) (ops : List (Int × Int)) (i : Int) : Option ((Bool × Unit) × (Unit)) :=
  bif decide (i < (len ops)) then
    chk (inb i ops.length) <|
    (c_s_validOp ((rdx ((0 : Int), (0 : Int)) ops i).1) ((rdx ((0 : Int), (0 : Int)) ops i).2)).bind fun r14 =>
    bif (!r14.1.1) then
      some ((false, ()), ())
    else
      again0 (ops, w64 (i + 1), ())
  else
    some ((decide ((len ops) ≤ 300), ()), ())
def B_s_validOps_L0 (k : Nat) (c_s_validOp : Int → Int → Option ((Bool × Unit) × (Unit))) (n : Nat) (t : (List (Int × Int)) × Int × Unit) : Option ((Bool × Unit) × (Unit)) :=
  lfix n (fun again t => B_s_validOps_L0b k c_s_validOp again t.1 t.2.1) t
def B_s_validOps (k : Nat) (c_s_validOp : Int → Int → Option ((Bool × Unit) × (Unit))) (ops : List (Int × Int)) : Option ((Bool × Unit) × (Unit)) :=
  B_s_validOps_L0 k c_s_validOp k (ops, 0, ())
def F_s_validOps : Nat → (List (Int × Int)) → Option ((Bool × Unit) × (Unit))
  | 0, _ => none
  | k + 1, ops => B_s_validOps k (F_s_validOp k) ops
theorem F_s_validOps_succ (k : Nat) (ops : List (Int × Int)) : F_s_validOps (k + 1) ops = B_s_validOps k (F_s_validOp k) ops := rfl
theorem tot_s_validOps {ops : List (Int × Int)} {Q : (((Bool × Unit) × (Unit))) → Prop} (h : Tot (fun σ => B_s_validOps (σ 0) (F_s_validOp (σ 0)) ops) Q) : Tot (fun σ => F_s_validOps (σ 0) ops) Q :=
  Tot.call (F := fun k => F_s_validOps k ops) (B := fun k => B_s_validOps k (F_s_validOp k) ops) (fun k => F_s_validOps_succ k ops) h
theorem loop_s_validOps_L0 {Q : (List (Int × Int)) → Int → ((Bool × Unit) × (Unit)) → Prop} (I : (List (Int × Int)) → Int → Prop) (μ : (List (Int × Int)) → Int → Nat)
    (step : ∀ (ops : List (Int × Int)) (i : Int), I ops i → ∀ again : (Nat → Nat) → ((List (Int × Int)) × Int × Unit) → Option ((Bool × Unit) × (Unit)), Dep 2 again → (∀ (y0 : List (Int × Int)) (y1 : Int), I y0 y1 → μ y0 y1 < μ ops i → Tot (fun σ => again σ (y0, y1, ())) (Q y0 y1)) →
      Tot (fun σ => B_s_validOps_L0b (σ 0) (F_s_validOp (σ 0)) (again σ) ops i) (Q ops i)) :
    ∀ (ops : List (Int × Int)) (i : Int), I ops i → Tot (fun σ => B_s_validOps_L0 (σ 0) (F_s_validOp (σ 0)) (σ 0) (ops, i, ())) (Q ops i) := fun ops i hI =>
  Tot.loop (L := fun σ n t => B_s_validOps_L0 (σ 0) (F_s_validOp (σ 0)) n t) (B := fun σ g t => B_s_validOps_L0b (σ 0) (F_s_validOp (σ 0)) g t.1 t.2.1) (Q := fun t => Q t.1 t.2.1) 1 (by decide)
    (fun s s' h => by have e0 : s 0 = s' 0 := h 0 (by decide); simp only [e0]) (fun s s' h => by have e0 : s 0 = s' 0 := h 0 (by decide); simp only [e0]) (fun _ _ _ => rfl) (fun t => I t.1 t.2.1) (fun t => μ t.1 t.2.1)
    (fun t ht again hag h => step t.1 t.2.1 ht again hag (fun y0 y1 hI hm => h (y0, y1, ()) hI hm)) (ops, i, ()) hI
def B_s_runShapes_L0b (k : Nat) (c_s_newShapes : Option (((List Int × List Bool × List Int × List Int × Bool × Unit) × Unit) × (Unit))) (c_s_copyShapes : List Int → List Bool → List Int → List Int → Bool → Option (((List Int × List Bool × List Int × List Int × Bool × Unit) × Unit) × (Unit))) (c_s_stepShapes : List Int → List Bool → List Int → List Int → Bool → Int → Int → Option (((List Int × List Bool × List Int × List Int × Bool × Unit) × Bool × Unit) × (Unit))) (again0 : ((List (Int × Int)) × (Unit × Unit × Unit × Unit × Bool × Unit) × (List Int × List Bool × List Int × List Int × Bool × Unit) × Int × Unit) → Option (((List Int × List Bool × List Int × List Int × Bool × Unit) × Int × Unit) × (Unit))) (ops : List (Int × Int)) (t2_Done : Bool) (s_Kinds : List Int) (s_Full : List Bool) (s_Stack : List Int) (s_Memo : List Int) (s_Done : Bool) (i : Int) : Option (((List Int × List Bool × List Int × List Int × Bool × Unit) × Int × Unit) × (Unit)) :=
  bif decide (i < (len ops)) then
    (c_s_copyShapes s_Kinds s_Full s_Stack s_Memo s_Done).bind fun r17 =>
    chk (inb i ops.length) <|
    (c_s_stepShapes r17.1.1.1 r17.1.1.2.1 r17.1.1.2.2.1 r17.1.1.2.2.2.1 r17.1.1.2.2.2.2.1 ((rdx ((0 : Int), (0 : Int)) ops i).1) ((rdx ((0 : Int), (0 : Int)) ops i).2)).bind fun r22 =>
    bif (!r22.1.2.1) then
      some (((s_Kinds, s_Full, s_Stack, s_Memo, s_Done, ()), i, ()), ())
    else
      again0 (ops, ((), (), (), (), t2_Done, ()), (r22.1.1.1, r22.1.1.2.1, r22.1.1.2.2.1, r22.1.1.2.2.2.1, r22.1.1.2.2.2.2.1, ()), w64 (i + 1), ())
  else
    some (((s_Kinds, s_Full, s_Stack, s_Memo, s_Done, ()), len ops, ()), ())
def B_s_runShapes_L0 (k : Nat) (c_s_newShapes : Option (((List Int × List Bool × List Int × List Int × Bool × Unit) × Unit) × (Unit))) (c_s_copyShapes : List Int → List Bool → List Int → List Int → Bool → Option (((List Int × List Bool × List Int × List Int × Bool × Unit) × Unit) × (Unit))) (c_s_stepShapes : List Int → List Bool → List Int → List Int → Bool → Int → Int → Option (((List Int × List Bool × List Int × List Int × Bool × Unit) × Bool × Unit) × (Unit))) (n : Nat) (t : (List (Int × Int)) × (Unit × Unit × Unit × Unit × Bool × Unit) × (List Int × List Bool × List Int × List Int × Bool × Unit) × Int × Unit) : Option (((List Int × List Bool × List Int × List Int × Bool × Unit) × Int × Unit) × (Unit)) :=
  lfix n (fun again t => B_s_runShapes_L0b k c_s_newShapes c_s_copyShapes c_s_stepShapes again t.1 t.2.1.2.2.2.2.1 t.2.2.1.1 t.2.2.1.2.1 t.2.2.1.2.2.1 t.2.2.1.2.2.2.1 t.2.2.1.2.2.2.2.1 t.2.2.2.1) t
def B_s_runShapes (k : Nat) (c_s_newShapes : Option (((List Int × List Bool × List Int × List Int × Bool × Unit) × Unit) × (Unit))) (c_s_copyShapes : List Int → List Bool → List Int → List Int → Bool → Option (((List Int × List Bool × List Int × List Int × Bool × Unit) × Unit) × (Unit))) (c_s_stepShapes : List Int → List Bool → List Int → List Int → Bool → Int → Int → Option (((List Int × List Bool × List Int × List Int × Bool × Unit) × Bool × Unit) × (Unit))) (ops : List (Int × Int)) : Option (((List Int × List Bool × List Int × List Int × Bool × Unit) × Int × Unit) × (Unit)) :=
  (c_s_newShapes).bind fun r8 =>
  B_s_runShapes_L0 k c_s_newShapes c_s_copyShapes c_s_stepShapes k (ops, ((), (), (), (), false, ()), (r8.1.1.1, r8.1.1.2.1, r8.1.1.2.2.1, r8.1.1.2.2.2.1, r8.1.1.2.2.2.2.1, ()), 0, ())
def F_s_runShapes : Nat → (List (Int × Int)) → Option (((List Int × List Bool × List Int × List Int × Bool × Unit) × Int × Unit) × (Unit))
  | 0, _ => none
  | k + 1, ops => B_s_runShapes k (F_s_newShapes k) (F_s_copyShapes k) (F_s_stepShapes k) ops
theorem F_s_runShapes_succ (k : Nat) (ops : List (Int × Int)) : F_s_runShapes (k + 1) ops = B_s_runShapes k (F_s_newShapes k) (F_s_copyShapes k) (F_s_stepShapes k) ops := rfl
theorem tot_s_runShapes {ops : List (Int × Int)} {Q : ((((List Int × List Bool × List Int × List Int × Bool × Unit) × Int × Unit) × (Unit))) → Prop} (h : Tot (fun σ => B_s_runShapes (σ 0) (F_s_newShapes (σ 0)) (F_s_copyShapes (σ 0)) (F_s_stepShapes (σ 0)) ops) Q) : Tot (fun σ => F_s_runShapes (σ 0) ops) Q :=
  Tot.call (F := fun k => F_s_runShapes k ops) (B := fun k => B_s_runShapes k (F_s_newShapes k) (F_s_copyShapes k) (F_s_stepShapes k) ops) (fun k => F_s_runShapes_succ k ops) h
theorem loop_s_runShapes_L0 {Q : (List (Int × Int)) → Bool → List Int → List Bool → List Int → List Int → Bool → Int → (((List Int × List Bool × List Int × List Int × Bool × Unit) × Int × Unit) × (Unit)) → Prop} (I : (List (Int × Int)) → Bool → List Int → List Bool → List Int → List Int → Bool → Int → Prop) (μ : (List (Int × Int)) → Bool → List Int → List Bool → List Int → List Int → Bool → Int → Nat)
    (step : ∀ (ops : List (Int × Int)) (t2_Done : Bool) (s_Kinds : List Int) (s_Full : List Bool) (s_Stack : List Int) (s_Memo : List Int) (s_Done : Bool) (i : Int), I ops t2_Done s_Kinds s_Full s_Stack s_Memo s_Done i → ∀ again : (Nat → Nat) → ((List (Int × Int)) × (Unit × Unit × Unit × Unit × Bool × Unit) × (List Int × List Bool × List Int × List Int × Bool × Unit) × Int × Unit) → Option (((List Int × List Bool × List Int × List Int × Bool × Unit) × Int × Unit) × (Unit)), Dep 2 again → (∀ (y0 : List (Int × Int)) (y1 : Bool) (y2 : List Int) (y3 : List Bool) (y4 : List Int) (y5 : List Int) (y6 : Bool) (y7 : Int), I y0 y1 y2 y3 y4 y5 y6 y7 → μ y0 y1 y2 y3 y4 y5 y6 y7 < μ ops t2_Done s_Kinds s_Full s_Stack s_Memo s_Done i → Tot (fun σ => again σ (y0, ((), (), (), (), y1, ()), (y2, y3, y4, y5, y6, ()), y7, ())) (Q y0 y1 y2 y3 y4 y5 y6 y7)) →
      Tot (fun σ => B_s_runShapes_L0b (σ 0) (F_s_newShapes (σ 0)) (F_s_copyShapes (σ 0)) (F_s_stepShapes (σ 0)) (again σ) ops t2_Done s_Kinds s_Full s_Stack s_Memo s_Done i) (Q ops t2_Done s_Kinds s_Full s_Stack s_Memo s_Done i)) :
    ∀ (ops : List (Int × Int)) (t2_Done : Bool) (s_Kinds : List Int) (s_Full : List Bool) (s_Stack : List Int) (s_Memo : List Int) (s_Done : Bool) (i : Int), I ops t2_Done s_Kinds s_Full s_Stack s_Memo s_Done i → Tot (fun σ => B_s_runShapes_L0 (σ 0) (F_s_newShapes (σ 0)) (F_s_copyShapes (σ 0)) (F_s_stepShapes (σ 0)) (σ 0) (ops, ((), (), (), (), t2_Done, ()), (s_Kinds, s_Full, s_Stack, s_Memo, s_Done, ()), i, ())) (Q ops t2_Done s_Kinds s_Full s_Stack s_Memo s_Done i) := fun ops t2_Done s_Kinds s_Full s_Stack s_Memo s_Done i hI =>
  Tot.loop (L := fun σ n t => B_s_runShapes_L0 (σ 0) (F_s_newShapes (σ 0)) (F_s_copyShapes (σ 0)) (F_s_stepShapes (σ 0)) n t) (B := fun σ g t => B_s_runShapes_L0b (σ 0) (F_s_newShapes (σ 0)) (F_s_copyShapes (σ 0)) (F_s_stepShapes (σ 0)) g t.1 t.2.1.2.2.2.2.1 t.2.2.1.1 t.2.2.1.2.1 t.2.2.1.2.2.1 t.2.2.1.2.2.2.1 t.2.2.1.2.2.2.2.1 t.2.2.2.1) (Q := fun t => Q t.1 t.2.1.2.2.2.2.1 t.2.2.1.1 t.2.2.1.2.1 t.2.2.1.2.2.1 t.2.2.1.2.2.2.1 t.2.2.1.2.2.2.2.1 t.2.2.2.1) 1 (by decide)
    (fun s s' h => by have e0 : s 0 = s' 0 := h 0 (by decide); simp only [e0]) (fun s s' h => by have e0 : s 0 = s' 0 := h 0 (by decide); simp only [e0]) (fun _ _ _ => rfl) (fun t => I t.1 t.2.1.2.2.2.2.1 t.2.2.1.1 t.2.2.1.2.1 t.2.2.1.2.2.1 t.2.2.1.2.2.2.1 t.2.2.1.2.2.2.2.1 t.2.2.2.1) (fun t => μ t.1 t.2.1.2.2.2.2.1 t.2.2.1.1 t.2.2.1.2.1 t.2.2.1.2.2.1 t.2.2.1.2.2.2.1 t.2.2.1.2.2.2.2.1 t.2.2.2.1)
    (fun t ht again hag h => step t.1 t.2.1.2.2.2.2.1 t.2.2.1.1 t.2.2.1.2.1 t.2.2.1.2.2.1 t.2.2.1.2.2.2.1 t.2.2.1.2.2.2.2.1 t.2.2.2.1 ht again hag (fun y0 y1 y2 y3 y4 y5 y6 y7 hI hm => h (y0, ((), (), (), (), y1, ()), (y2, y3, y4, y5, y6, ()), y7, ()) hI hm)) (ops, ((), (), (), (), t2_Done, ()), (s_Kinds, s_Full, s_Stack, s_Memo, s_Done, ()), i, ()) hI
def B_s_EndOps_J0 (k : Nat) (c_s_validOps : (List (Int × Int)) → Option ((Bool × Unit) × (Unit))) (c_s_runShapes : (List (Int × Int)) → Option (((List Int × List Bool × List Int × List Int × Bool × Unit) × Int × Unit) × (Unit))) (again1 : ((List (Int × Int)) × (List Int × List Bool × List Int × List Int × Bool × Unit) × Int × (List (Int × Int)) × Int × Int × Unit) → Option (((List (Int × Int)) × Bool × Unit) × (Unit))) (ops : List (Int × Int)) (s_Kinds : List Int) (s_Full : List Bool) (s_Stack : List Int) (s_Memo : List Int) (s_Done : Bool) (n5 : Int) (out : List (Int × Int)) (marks : Int) (i : Int) : Option (((List (Int × Int)) × Bool × Unit) × (Unit)) :=
  again1 (ops, (s_Kinds, s_Full, s_Stack, s_Memo, s_Done, ()), n5, out, marks, w64 (i + 1), ())
def B_s_EndOps_J9 (k : Nat) (c_s_validOps : (List (Int × Int)) → Option ((Bool × Unit) × (Unit))) (c_s_runShapes : (List (Int × Int)) → Option (((List Int × List Bool × List Int × List Int × Bool × Unit) × Int × Unit) × (Unit))) (out : List (Int × Int)) (t109 : Bool) : Option (((List (Int × Int)) × Bool × Unit) × (Unit)) :=
  bif t109 then
    some (([], false, ()), ())
  else
    some ((out, true, ()), ())
def B_s_EndOps_J8 (k : Nat) (c_s_validOps : (List (Int × Int)) → Option ((Bool × Unit) × (Unit))) (c_s_runShapes : (List (Int × Int)) → Option (((List Int × List Bool × List Int × List Int × Bool × Unit) × Int × Unit) × (Unit))) (out : List (Int × Int)) (all : List (Int × Int)) : Option (((List (Int × Int)) × Bool × Unit) × (Unit)) :=
  (c_s_runShapes all).bind fun r98 =>
  (c_s_validOps all).bind fun r102 =>
  bif (!r102.1.1) then
    jn (fun t => B_s_EndOps_J9 k c_s_validOps c_s_runShapes t.1 t.2.1) (out, true, ())
  else
    jn (fun t => B_s_EndOps_J9 k c_s_validOps c_s_runShapes t.1 t.2.1) (out, decide (r98.1.2.1 < (len all)), ())
def B_s_EndOps_J7 (k : Nat) (c_s_validOps : (List (Int × Int)) → Option ((Bool × Unit) × (Unit))) (c_s_runShapes : (List (Int × Int)) → Option (((List Int × List Bool × List Int × List Int × Bool × Unit) × Int × Unit) × (Unit))) (ops : List (Int × Int)) (n5 : Int) (out : List (Int × Int)) : Option (((List (Int × Int)) × Bool × Unit) × (Unit)) :=
  chk (room out.length ([(19, 0)]).length) <|
  chk (cutb 0 n5 ops.length) <|
  chk (room ([] : List (Int × Int)).length (sub ops 0 n5).length) <|
  chk (room (sub ops 0 n5).length (out ++ [(19, 0)]).length) <|
  jn (fun t => B_s_EndOps_J8 k c_s_validOps c_s_runShapes t.1 t.2.1) ((out ++ [(19, 0)]), ((sub ops 0 n5) ++ (out ++ [(19, 0)])), ())
def B_s_EndOps_L6b (k : Nat) (c_s_validOps : (List (Int × Int)) → Option ((Bool × Unit) × (Unit))) (c_s_runShapes : (List (Int × Int)) → Option (((List Int × List Bool × List Int × List Int × Bool × Unit) × Int × Unit) × (Unit))) (again6 : ((List (Int × Int)) × Int × (List (Int × Int)) × Int × Int × Unit) → Option (((List (Int × Int)) × Bool × Unit) × (Unit))) (ops : List (Int × Int)) (n5 : Int) (out : List (Int × Int)) (rest10 : Int) (i : Int) : Option (((List (Int × Int)) × Bool × Unit) × (Unit)) :=
  bif decide (i < rest10) then
    chk (room out.length ([(6, 0)]).length) <|
    again6 (ops, n5, (out ++ [(6, 0)]), rest10, w64 (i + 1), ())
  else
    bif (rest10 == 0) then
      chk (room out.length ([(4, 0)]).length) <|
      jn (fun t => B_s_EndOps_J7 k c_s_validOps c_s_runShapes t.1 t.2.1 t.2.2.1) (ops, n5, (out ++ [(4, 0)]), ())
    else
      jn (fun t => B_s_EndOps_J7 k c_s_validOps c_s_runShapes t.1 t.2.1 t.2.2.1) (ops, n5, out, ())
def B_s_EndOps_L6 (k : Nat) (c_s_validOps : (List (Int × Int)) → Option ((Bool × Unit) × (Unit))) (c_s_runShapes : (List (Int × Int)) → Option (((List Int × List Bool × List Int × List Int × Bool × Unit) × Int × Unit) × (Unit))) (n : Nat) (t : (List (Int × Int)) × Int × (List (Int × Int)) × Int × Int × Unit) : Option (((List (Int × Int)) × Bool × Unit) × (Unit)) :=
  lfix n (fun again t => B_s_EndOps_L6b k c_s_validOps c_s_runShapes again t.1 t.2.1 t.2.2.1 t.2.2.2.1 t.2.2.2.2.1) t
def B_s_EndOps_J5 (k : Nat) (c_s_validOps : (List (Int × Int)) → Option ((Bool × Unit) × (Unit))) (c_s_runShapes : (List (Int × Int)) → Option (((List Int × List Bool × List Int × List Int × Bool × Unit) × Int × Unit) × (Unit))) (ops : List (Int × Int)) (n5 : Int) (out : List (Int × Int)) (rest10 : Int) : Option (((List (Int × Int)) × Bool × Unit) × (Unit)) :=
  B_s_EndOps_L6 k c_s_validOps c_s_runShapes k (ops, n5, out, rest10, 1, ())
def B_s_EndOps_J3 (k : Nat) (c_s_validOps : (List (Int × Int)) → Option ((Bool × Unit) × (Unit))) (c_s_runShapes : (List (Int × Int)) → Option (((List Int × List Bool × List Int × List Int × Bool × Unit) × Int × Unit) × (Unit))) (again4 : ((List (Int × Int)) × (List Int × List Bool × List Int × List Int × Bool × Unit) × Int × (List (Int × Int)) × Int × Int × Unit) → Option (((List (Int × Int)) × Bool × Unit) × (Unit))) (ops : List (Int × Int)) (s_Kinds : List Int) (s_Full : List Bool) (s_Stack : List Int) (s_Memo : List Int) (s_Done : Bool) (n5 : Int) (out : List (Int × Int)) (marks : Int) (rest10 : Int) (t63 : Bool) : Option (((List (Int × Int)) × Bool × Unit) × (Unit)) :=
  bif t63 then
    again4 (ops, (s_Kinds, s_Full, s_Stack, s_Memo, s_Done, ()), n5, out, marks, w64 (rest10 + 1), ())
  else
    bif decide (marks > 0) then
      jn (fun t => B_s_EndOps_J5 k c_s_validOps c_s_runShapes t.1 t.2.1 t.2.2.1 t.2.2.2.1) (ops, n5, out, w64 (rest10 + 1), ())
    else
      jn (fun t => B_s_EndOps_J5 k c_s_validOps c_s_runShapes t.1 t.2.1 t.2.2.1 t.2.2.2.1) (ops, n5, out, rest10, ())
def B_s_EndOps_L4b (k : Nat) (c_s_validOps : (List (Int × Int)) → Option ((Bool × Unit) × (Unit))) (c_s_runShapes : (List (Int × Int)) → Option (((List Int × List Bool × List Int × List Int × Bool × Unit) × Int × Unit) × (Unit))) (again4 : ((List (Int × Int)) × (List Int × List Bool × List Int × List Int × Bool × Unit) × Int × (List (Int × Int)) × Int × Int × Unit) → Option (((List (Int × Int)) × Bool × Unit) × (Unit))) (ops : List (Int × Int)) (s_Kinds : List Int) (s_Full : List Bool) (s_Stack : List Int) (s_Memo : List Int) (s_Done : Bool) (n5 : Int) (out : List (Int × Int)) (marks : Int) (rest10 : Int) : Option (((List (Int × Int)) × Bool × Unit) × (Unit)) :=
  bif decide (rest10 < (len s_Stack)) then
    chk (inb rest10 s_Stack.length) <|
    chk (decide (rest10.toNat < s_Stack.length)) <|
    jn (fun t => B_s_EndOps_J3 k c_s_validOps c_s_runShapes again4 t.1 t.2.1.1 t.2.1.2.1 t.2.1.2.2.1 t.2.1.2.2.2.1 t.2.1.2.2.2.2.1 t.2.2.1 t.2.2.2.1 t.2.2.2.2.1 t.2.2.2.2.2.1 t.2.2.2.2.2.2.1) (ops, (s_Kinds, s_Full, s_Stack, s_Memo, s_Done, ()), n5, out, marks, rest10, decide ((s_Stack.getD rest10.toNat (0 : Int)) ≥ 0), ())
  else
    jn (fun t => B_s_EndOps_J3 k c_s_validOps c_s_runShapes again4 t.1 t.2.1.1 t.2.1.2.1 t.2.1.2.2.1 t.2.1.2.2.2.1 t.2.1.2.2.2.2.1 t.2.2.1 t.2.2.2.1 t.2.2.2.2.1 t.2.2.2.2.2.1 t.2.2.2.2.2.2.1) (ops, (s_Kinds, s_Full, s_Stack, s_Memo, s_Done, ()), n5, out, marks, rest10, false, ())
def B_s_EndOps_L4 (k : Nat) (c_s_validOps : (List (Int × Int)) → Option ((Bool × Unit) × (Unit))) (c_s_runShapes : (List (Int × Int)) → Option (((List Int × List Bool × List Int × List Int × Bool × Unit) × Int × Unit) × (Unit))) (n : Nat) (t : (List (Int × Int)) × (List Int × List Bool × List Int × List Int × Bool × Unit) × Int × (List (Int × Int)) × Int × Int × Unit) : Option (((List (Int × Int)) × Bool × Unit) × (Unit)) :=
  lfix n (fun again t => B_s_EndOps_L4b k c_s_validOps c_s_runShapes again t.1 t.2.1.1 t.2.1.2.1 t.2.1.2.2.1 t.2.1.2.2.2.1 t.2.1.2.2.2.2.1 t.2.2.1 t.2.2.2.1 t.2.2.2.2.1 t.2.2.2.2.2.1) t
def B_s_EndOps_L2b (k : Nat) (c_s_validOps : (List (Int × Int)) → Option ((Bool × Unit) × (Unit))) (c_s_runShapes : (List (Int × Int)) → Option (((List Int × List Bool × List Int × List Int × Bool × Unit) × Int × Unit) × (Unit))) (again2 : ((List (Int × Int)) × (List Int × List Bool × List Int × List Int × Bool × Unit) × Int × (List (Int × Int)) × Int × Int × Unit) → Option (((List (Int × Int)) × Bool × Unit) × (Unit))) (ops : List (Int × Int)) (s_Kinds : List Int) (s_Full : List Bool) (s_Stack : List Int) (s_Memo : List Int) (s_Done : Bool) (n5 : Int) (out : List (Int × Int)) (marks : Int) (i : Int) : Option (((List (Int × Int)) × Bool × Unit) × (Unit)) :=
  bif decide (i < marks) then
    chk (room out.length ([(3, 0)]).length) <|
    again2 (ops, (s_Kinds, s_Full, s_Stack, s_Memo, s_Done, ()), n5, (out ++ [(3, 0)]), marks, w64 (i + 1), ())
  else
    B_s_EndOps_L4 k c_s_validOps c_s_runShapes k (ops, (s_Kinds, s_Full, s_Stack, s_Memo, s_Done, ()), n5, out, marks, 0, ())
def B_s_EndOps_L2 (k : Nat) (c_s_validOps : (List (Int × Int)) → Option ((Bool × Unit) × (Unit))) (c_s_runShapes : (List (Int × Int)) → Option (((List Int × List Bool × List Int × List Int × Bool × Unit) × Int × Unit) × (Unit))) (n : Nat) (t : (List (Int × Int)) × (List Int × List Bool × List Int × List Int × Bool × Unit) × Int × (List (Int × Int)) × Int × Int × Unit) : Option (((List (Int × Int)) × Bool × Unit) × (Unit)) :=
  lfix n (fun again t => B_s_EndOps_L2b k c_s_validOps c_s_runShapes again t.1 t.2.1.1 t.2.1.2.1 t.2.1.2.2.1 t.2.1.2.2.2.1 t.2.1.2.2.2.2.1 t.2.2.1 t.2.2.2.1 t.2.2.2.2.1 t.2.2.2.2.2.1) t
def B_s_EndOps_L1b (k : Nat) (c_s_validOps : (List (Int × Int)) → Option ((Bool × Unit) × (Unit))) (c_s_runShapes : (List (Int × Int)) → Option (((List Int × List Bool × List Int × List Int × Bool × Unit) × Int × Unit) × (Unit))) (again1 : ((List (Int × Int)) × (List Int × List Bool × List Int × List Int × Bool × Unit) × Int × (List (Int × Int)) × Int × Int × Unit) → Option (((List (Int × Int)) × Bool × Unit) × (Unit))) (ops : List (Int × Int)) (s_Kinds : List Int) (s_Full : List Bool) (s_Stack : List Int) (s_Memo : List Int) (s_Done : Bool) (n5 : Int) (out : List (Int × Int)) (marks : Int) (i : Int) : Option (((List (Int × Int)) × Bool × Unit) × (Unit)) :=
  bif decide (i < (len s_Stack)) then
    chk (inb i s_Stack.length) <|
    chk (decide (i.toNat < s_Stack.length)) <|
    bif decide ((s_Stack.getD i.toNat (0 : Int)) < 0) then
      jn (fun t => B_s_EndOps_J0 k c_s_validOps c_s_runShapes again1 t.1 t.2.1.1 t.2.1.2.1 t.2.1.2.2.1 t.2.1.2.2.2.1 t.2.1.2.2.2.2.1 t.2.2.1 t.2.2.2.1 t.2.2.2.2.1 t.2.2.2.2.2.1) (ops, (s_Kinds, s_Full, s_Stack, s_Memo, s_Done, ()), n5, out, w64 (marks + 1), i, ())
    else
      jn (fun t => B_s_EndOps_J0 k c_s_validOps c_s_runShapes again1 t.1 t.2.1.1 t.2.1.2.1 t.2.1.2.2.1 t.2.1.2.2.2.1 t.2.1.2.2.2.2.1 t.2.2.1 t.2.2.2.1 t.2.2.2.2.1 t.2.2.2.2.2.1) (ops, (s_Kinds, s_Full, s_Stack, s_Memo, s_Done, ()), n5, out, marks, i, ())
  else
    B_s_EndOps_L2 k c_s_validOps c_s_runShapes k (ops, (s_Kinds, s_Full, s_Stack, s_Memo, s_Done, ()), n5, out, marks, 0, ())
def B_s_EndOps_L1 (k : Nat) (c_s_validOps : (List (Int × Int)) → Option ((Bool × Unit) × (Unit))) (c_s_runShapes : (List (Int × Int)) → Option (((List Int × List Bool × List Int × List Int × Bool × Unit) × Int × Unit) × (Unit))) (n : Nat) (t : (List (Int × Int)) × (List Int × List Bool × List Int × List Int × Bool × Unit) × Int × (List (Int × Int)) × Int × Int × Unit) : Option (((List (Int × Int)) × Bool × Unit) × (Unit)) :=
  lfix n (fun again t => B_s_EndOps_L1b k c_s_validOps c_s_runShapes again t.1 t.2.1.1 t.2.1.2.1 t.2.1.2.2.1 t.2.1.2.2.2.1 t.2.1.2.2.2.2.1 t.2.2.1 t.2.2.2.1 t.2.2.2.2.1 t.2.2.2.2.2.1) t
def B_s_EndOps (k : Nat) (c_s_validOps : (List (Int × Int)) → Option ((Bool × Unit) × (Unit))) (c_s_runShapes : (List (Int × Int)) → Option (((List Int × List Bool × List Int × List Int × Bool × Unit) × Int × Unit) × (Unit))) (ops : List (Int × Int)) : Option (((List (Int × Int)) × Bool × Unit) × (Unit)) :=
  (c_s_validOps ops).bind fun r16 =>
  bif (!r16.1.1) then
    some (([], false, ()), ())
  else
    (c_s_runShapes ops).bind fun r20 =>
    bif r20.1.1.2.2.2.2.1 then
      some (([], true, ()), ())
    else
      B_s_EndOps_L1 k c_s_validOps c_s_runShapes k (ops, (r20.1.1.1, r20.1.1.2.1, r20.1.1.2.2.1, r20.1.1.2.2.2.1, r20.1.1.2.2.2.2.1, ()), r20.1.2.1, [], 0, 0, ())
def F_s_EndOps : Nat → (List (Int × Int)) → Option (((List (Int × Int)) × Bool × Unit) × (Unit))
  | 0, _ => none
  | k + 1, ops => B_s_EndOps k (F_s_validOps k) (F_s_runShapes k) ops
theorem F_s_EndOps_succ (k : Nat) (ops : List (Int × Int)) : F_s_EndOps (k + 1) ops = B_s_EndOps k (F_s_validOps k) (F_s_runShapes k) ops := rfl
theorem tot_s_EndOps {ops : List (Int × Int)} {Q : ((((List (Int × Int)) × Bool × Unit) × (Unit))) → Prop} (h : Tot (fun σ => B_s_EndOps (σ 0) (F_s_validOps (σ 0)) (F_s_runShapes (σ 0)) ops) Q) : Tot (fun σ => F_s_EndOps (σ 0) ops) Q :=
  Tot.call (F := fun k => F_s_EndOps k ops) (B := fun k => B_s_EndOps k (F_s_validOps k) (F_s_runShapes k) ops) (fun k => F_s_EndOps_succ k ops) h
theorem loop_s_EndOps_L6 {Q : (List (Int × Int)) → Int → (List (Int × Int)) → Int → Int → (((List (Int × Int)) × Bool × Unit) × (Unit)) → Prop} (I : (List (Int × Int)) → Int → (List (Int × Int)) → Int → Int → Prop) (μ : (List (Int × Int)) → Int → (List (Int × Int)) → Int → Int → Nat)
    (step : ∀ (ops : List (Int × Int)) (n5 : Int) (out : List (Int × Int)) (rest10 : Int) (i : Int), I ops n5 out rest10 i → ∀ again : (Nat → Nat) → ((List (Int × Int)) × Int × (List (Int × Int)) × Int × Int × Unit) → Option (((List (Int × Int)) × Bool × Unit) × (Unit)), Dep 2 again → (∀ (y0 : List (Int × Int)) (y1 : Int) (y2 : List (Int × Int)) (y3 : Int) (y4 : Int), I y0 y1 y2 y3 y4 → μ y0 y1 y2 y3 y4 < μ ops n5 out rest10 i → Tot (fun σ => again σ (y0, y1, y2, y3, y4, ())) (Q y0 y1 y2 y3 y4)) →
      Tot (fun σ => B_s_EndOps_L6b (σ 0) (F_s_validOps (σ 0)) (F_s_runShapes (σ 0)) (again σ) ops n5 out rest10 i) (Q ops n5 out rest10 i)) :
    ∀ (ops : List (Int × Int)) (n5 : Int) (out : List (Int × Int)) (rest10 : Int) (i : Int), I ops n5 out rest10 i → Tot (fun σ => B_s_EndOps_L6 (σ 0) (F_s_validOps (σ 0)) (F_s_runShapes (σ 0)) (σ 0) (ops, n5, out, rest10, i, ())) (Q ops n5 out rest10 i) := fun ops n5 out rest10 i hI =>
  Tot.loop (L := fun σ n t => B_s_EndOps_L6 (σ 0) (F_s_validOps (σ 0)) (F_s_runShapes (σ 0)) n t) (B := fun σ g t => B_s_EndOps_L6b (σ 0) (F_s_validOps (σ 0)) (F_s_runShapes (σ 0)) g t.1 t.2.1 t.2.2.1 t.2.2.2.1 t.2.2.2.2.1) (Q := fun t => Q t.1 t.2.1 t.2.2.1 t.2.2.2.1 t.2.2.2.2.1) 1 (by decide)
    (fun s s' h => by have e0 : s 0 = s' 0 := h 0 (by decide); simp only [e0]) (fun s s' h => by have e0 : s 0 = s' 0 := h 0 (by decide); simp only [e0]) (fun _ _ _ => rfl) (fun t => I t.1 t.2.1 t.2.2.1 t.2.2.2.1 t.2.2.2.2.1) (fun t => μ t.1 t.2.1 t.2.2.1 t.2.2.2.1 t.2.2.2.2.1)
    (fun t ht again hag h => step t.1 t.2.1 t.2.2.1 t.2.2.2.1 t.2.2.2.2.1 ht again hag (fun y0 y1 y2 y3 y4 hI hm => h (y0, y1, y2, y3, y4, ()) hI hm)) (ops, n5, out, rest10, i, ()) hI
theorem loop_s_EndOps_L4 {Q : (List (Int × Int)) → List Int → List Bool → List Int → List Int → Bool → Int → (List (Int × Int)) → Int → Int → (((List (Int × Int)) × Bool × Unit) × (Unit)) → Prop} (I : (List (Int × Int)) → List Int → List Bool → List Int → List Int → Bool → Int → (List (Int × Int)) → Int → Int → Prop) (μ : (List (Int × Int)) → List Int → List Bool → List Int → List Int → Bool → Int → (List (Int × Int)) → Int → Int → Nat)
    (step : ∀ (ops : List (Int × Int)) (s_Kinds : List Int) (s_Full : List Bool) (s_Stack : List Int) (s_Memo : List Int) (s_Done : Bool) (n5 : Int) (out : List (Int × Int)) (marks : Int) (rest10 : Int), I ops s_Kinds s_Full s_Stack s_Memo s_Done n5 out marks rest10 → ∀ again : (Nat → Nat) → ((List (Int × Int)) × (List Int × List Bool × List Int × List Int × Bool × Unit) × Int × (List (Int × Int)) × Int × Int × Unit) → Option (((List (Int × Int)) × Bool × Unit) × (Unit)), Dep 2 again → (∀ (y0 : List (Int × Int)) (y1 : List Int) (y2 : List Bool) (y3 : List Int) (y4 : List Int) (y5 : Bool) (y6 : Int) (y7 : List (Int × Int)) (y8 : Int) (y9 : Int), I y0 y1 y2 y3 y4 y5 y6 y7 y8 y9 → μ y0 y1 y2 y3 y4 y5 y6 y7 y8 y9 < μ ops s_Kinds s_Full s_Stack s_Memo s_Done n5 out marks rest10 → Tot (fun σ => again σ (y0, (y1, y2, y3, y4, y5, ()), y6, y7, y8, y9, ())) (Q y0 y1 y2 y3 y4 y5 y6 y7 y8 y9)) →
      Tot (fun σ => B_s_EndOps_L4b (σ 0) (F_s_validOps (σ 0)) (F_s_runShapes (σ 0)) (again σ) ops s_Kinds s_Full s_Stack s_Memo s_Done n5 out marks rest10) (Q ops s_Kinds s_Full s_Stack s_Memo s_Done n5 out marks rest10)) :
    ∀ (ops : List (Int × Int)) (s_Kinds : List Int) (s_Full : List Bool) (s_Stack : List Int) (s_Memo : List Int) (s_Done : Bool) (n5 : Int) (out : List (Int × Int)) (marks : Int) (rest10 : Int), I ops s_Kinds s_Full s_Stack s_Memo s_Done n5 out marks rest10 → Tot (fun σ => B_s_EndOps_L4 (σ 0) (F_s_validOps (σ 0)) (F_s_runShapes (σ 0)) (σ 0) (ops, (s_Kinds, s_Full, s_Stack, s_Memo, s_Done, ()), n5, out, marks, rest10, ())) (Q ops s_Kinds s_Full s_Stack s_Memo s_Done n5 out marks rest10) := fun ops s_Kinds s_Full s_Stack s_Memo s_Done n5 out marks rest10 hI =>
  Tot.loop (L := fun σ n t => B_s_EndOps_L4 (σ 0) (F_s_validOps (σ 0)) (F_s_runShapes (σ 0)) n t) (B := fun σ g t => B_s_EndOps_L4b (σ 0) (F_s_validOps (σ 0)) (F_s_runShapes (σ 0)) g t.1 t.2.1.1 t.2.1.2.1 t.2.1.2.2.1 t.2.1.2.2.2.1 t.2.1.2.2.2.2.1 t.2.2.1 t.2.2.2.1 t.2.2.2.2.1 t.2.2.2.2.2.1) (Q := fun t => Q t.1 t.2.1.1 t.2.1.2.1 t.2.1.2.2.1 t.2.1.2.2.2.1 t.2.1.2.2.2.2.1 t.2.2.1 t.2.2.2.1 t.2.2.2.2.1 t.2.2.2.2.2.1) 1 (by decide)
    (fun s s' h => by have e0 : s 0 = s' 0 := h 0 (by decide); simp only [e0]) (fun s s' h => by have e0 : s 0 = s' 0 := h 0 (by decide); simp only [e0]) (fun _ _ _ => rfl) (fun t => I t.1 t.2.1.1 t.2.1.2.1 t.2.1.2.2.1 t.2.1.2.2.2.1 t.2.1.2.2.2.2.1 t.2.2.1 t.2.2.2.1 t.2.2.2.2.1 t.2.2.2.2.2.1) (fun t => μ t.1 t.2.1.1 t.2.1.2.1 t.2.1.2.2.1 t.2.1.2.2.2.1 t.2.1.2.2.2.2.1 t.2.2.1 t.2.2.2.1 t.2.2.2.2.1 t.2.2.2.2.2.1)
    (fun t ht again hag h => step t.1 t.2.1.1 t.2.1.2.1 t.2.1.2.2.1 t.2.1.2.2.2.1 t.2.1.2.2.2.2.1 t.2.2.1 t.2.2.2.1 t.2.2.2.2.1 t.2.2.2.2.2.1 ht again hag (fun y0 y1 y2 y3 y4 y5 y6 y7 y8 y9 hI hm => h (y0, (y1, y2, y3, y4, y5, ()), y6, y7, y8, y9, ()) hI hm)) (ops, (s_Kinds, s_Full, s_Stack, s_Memo, s_Done, ()), n5, out, marks, rest10, ()) hI
theorem loop_s_EndOps_L2 {Q : (List (Int × Int)) → List Int → List Bool → List Int → List Int → Bool → Int → (List (Int × Int)) → Int → Int → (((List (Int × Int)) × Bool × Unit) × (Unit)) → Prop} (I : (List (Int × Int)) → List Int → List Bool → List Int → List Int → Bool → Int → (List (Int × Int)) → Int → Int → Prop) (μ : (List (Int × Int)) → List Int → List Bool → List Int → List Int → Bool → Int → (List (Int × Int)) → Int → Int → Nat)
    (step : ∀ (ops : List (Int × Int)) (s_Kinds : List Int) (s_Full : List Bool) (s_Stack : List Int) (s_Memo : List Int) (s_Done : Bool) (n5 : Int) (out : List (Int × Int)) (marks : Int) (i : Int), I ops s_Kinds s_Full s_Stack s_Memo s_Done n5 out marks i → ∀ again : (Nat → Nat) → ((List (Int × Int)) × (List Int × List Bool × List Int × List Int × Bool × Unit) × Int × (List (Int × Int)) × Int × Int × Unit) → Option (((List (Int × Int)) × Bool × Unit) × (Unit)), Dep 2 again → (∀ (y0 : List (Int × Int)) (y1 : List Int) (y2 : List Bool) (y3 : List Int) (y4 : List Int) (y5 : Bool) (y6 : Int) (y7 : List (Int × Int)) (y8 : Int) (y9 : Int), I y0 y1 y2 y3 y4 y5 y6 y7 y8 y9 → μ y0 y1 y2 y3 y4 y5 y6 y7 y8 y9 < μ ops s_Kinds s_Full s_Stack s_Memo s_Done n5 out marks i → Tot (fun σ => again σ (y0, (y1, y2, y3, y4, y5, ()), y6, y7, y8, y9, ())) (Q y0 y1 y2 y3 y4 y5 y6 y7 y8 y9)) →
      Tot (fun σ => B_s_EndOps_L2b (σ 0) (F_s_validOps (σ 0)) (F_s_runShapes (σ 0)) (again σ) ops s_Kinds s_Full s_Stack s_Memo s_Done n5 out marks i) (Q ops s_Kinds s_Full s_Stack s_Memo s_Done n5 out marks i)) :
    ∀ (ops : List (Int × Int)) (s_Kinds : List Int) (s_Full : List Bool) (s_Stack : List Int) (s_Memo : List Int) (s_Done : Bool) (n5 : Int) (out : List (Int × Int)) (marks : Int) (i : Int), I ops s_Kinds s_Full s_Stack s_Memo s_Done n5 out marks i → Tot (fun σ => B_s_EndOps_L2 (σ 0) (F_s_validOps (σ 0)) (F_s_runShapes (σ 0)) (σ 0) (ops, (s_Kinds, s_Full, s_Stack, s_Memo, s_Done, ()), n5, out, marks, i, ())) (Q ops s_Kinds s_Full s_Stack s_Memo s_Done n5 out marks i) := fun ops s_Kinds s_Full s_Stack s_Memo s_Done n5 out marks i hI =>
  Tot.loop (L := fun σ n t => B_s_EndOps_L2 (σ 0) (F_s_validOps (σ 0)) (F_s_runShapes (σ 0)) n t) (B := fun σ g t => B_s_EndOps_L2b (σ 0) (F_s_validOps (σ 0)) (F_s_runShapes (σ 0)) g t.1 t.2.1.1 t.2.1.2.1 t.2.1.2.2.1 t.2.1.2.2.2.1 t.2.1.2.2.2.2.1 t.2.2.1 t.2.2.2.1 t.2.2.2.2.1 t.2.2.2.2.2.1) (Q := fun t => Q t.1 t.2.1.1 t.2.1.2.1 t.2.1.2.2.1 t.2.1.2.2.2.1 t.2.1.2.2.2.2.1 t.2.2.1 t.2.2.2.1 t.2.2.2.2.1 t.2.2.2.2.2.1) 1 (by decide)
    (fun s s' h => by have e0 : s 0 = s' 0 := h 0 (by decide); simp only [e0]) (fun s s' h => by have e0 : s 0 = s' 0 := h 0 (by decide); simp only [e0]) (fun _ _ _ => rfl) (fun t => I t.1 t.2.1.1 t.2.1.2.1 t.2.1.2.2.1 t.2.1.2.2.2.1 t.2.1.2.2.2.2.1 t.2.2.1 t.2.2.2.1 t.2.2.2.2.1 t.2.2.2.2.2.1) (fun t => μ t.1 t.2.1.1 t.2.1.2.1 t.2.1.2.2.1 t.2.1.2.2.2.1 t.2.1.2.2.2.2.1 t.2.2.1 t.2.2.2.1 t.2.2.2.2.1 t.2.2.2.2.2.1)
    (fun t ht again hag h => step t.1 t.2.1.1 t.2.1.2.1 t.2.1.2.2.1 t.2.1.2.2.2.1 t.2.1.2.2.2.2.1 t.2.2.1 t.2.2.2.1 t.2.2.2.2.1 t.2.2.2.2.2.1 ht again hag (fun y0 y1 y2 y3 y4 y5 y6 y7 y8 y9 hI hm => h (y0, (y1, y2, y3, y4, y5, ()), y6, y7, y8, y9, ()) hI hm)) (ops, (s_Kinds, s_Full, s_Stack, s_Memo, s_Done, ()), n5, out, marks, i, ()) hI
theorem loop_s_EndOps_L1 {Q : (List (Int × Int)) → List Int → List Bool → List Int → List Int → Bool → Int → (List (Int × Int)) → Int → Int → (((List (Int × Int)) × Bool × Unit) × (Unit)) → Prop} (I : (List (Int × Int)) → List Int → List Bool → List Int → List Int → Bool → Int → (List (Int × Int)) → Int → Int → Prop) (μ : (List (Int × Int)) → List Int → List Bool → List Int → List Int → Bool → Int → (List (Int × Int)) → Int → Int → Nat)
    (step : ∀ (ops : List (Int × Int)) (s_Kinds : List Int) (s_Full : List Bool) (s_Stack : List Int) (s_Memo : List Int) (s_Done : Bool) (n5 : Int) (out : List (Int × Int)) (marks : Int) (i : Int), I ops s_Kinds s_Full s_Stack s_Memo s_Done n5 out marks i → ∀ again : (Nat → Nat) → ((List (Int × Int)) × (List Int × List Bool × List Int × List Int × Bool × Unit) × Int × (List (Int × Int)) × Int × Int × Unit) → Option (((List (Int × Int)) × Bool × Unit) × (Unit)), Dep 2 again → (∀ (y0 : List (Int × Int)) (y1 : List Int) (y2 : List Bool) (y3 : List Int) (y4 : List Int) (y5 : Bool) (y6 : Int) (y7 : List (Int × Int)) (y8 : Int) (y9 : Int), I y0 y1 y2 y3 y4 y5 y6 y7 y8 y9 → μ y0 y1 y2 y3 y4 y5 y6 y7 y8 y9 < μ ops s_Kinds s_Full s_Stack s_Memo s_Done n5 out marks i → Tot (fun σ => again σ (y0, (y1, y2, y3, y4, y5, ()), y6, y7, y8, y9, ())) (Q y0 y1 y2 y3 y4 y5 y6 y7 y8 y9)) →
      Tot (fun σ => B_s_EndOps_L1b (σ 0) (F_s_validOps (σ 0)) (F_s_runShapes (σ 0)) (again σ) ops s_Kinds s_Full s_Stack s_Memo s_Done n5 out marks i) (Q ops s_Kinds s_Full s_Stack s_Memo s_Done n5 out marks i)) :
    ∀ (ops : List (Int × Int)) (s_Kinds : List Int) (s_Full : List Bool) (s_Stack : List Int) (s_Memo : List Int) (s_Done : Bool) (n5 : Int) (out : List (Int × Int)) (marks : Int) (i : Int), I ops s_Kinds s_Full s_Stack s_Memo s_Done n5 out marks i → Tot (fun σ => B_s_EndOps_L1 (σ 0) (F_s_validOps (σ 0)) (F_s_runShapes (σ 0)) (σ 0) (ops, (s_Kinds, s_Full, s_Stack, s_Memo, s_Done, ()), n5, out, marks, i, ())) (Q ops s_Kinds s_Full s_Stack s_Memo s_Done n5 out marks i) := fun ops s_Kinds s_Full s_Stack s_Memo s_Done n5 out marks i hI =>
  Tot.loop (L := fun σ n t => B_s_EndOps_L1 (σ 0) (F_s_validOps (σ 0)) (F_s_runShapes (σ 0)) n t) (B := fun σ g t => B_s_EndOps_L1b (σ 0) (F_s_validOps (σ 0)) (F_s_runShapes (σ 0)) g t.1 t.2.1.1 t.2.1.2.1 t.2.1.2.2.1 t.2.1.2.2.2.1 t.2.1.2.2.2.2.1 t.2.2.1 t.2.2.2.1 t.2.2.2.2.1 t.2.2.2.2.2.1) (Q := fun t => Q t.1 t.2.1.1 t.2.1.2.1 t.2.1.2.2.1 t.2.1.2.2.2.1 t.2.1.2.2.2.2.1 t.2.2.1 t.2.2.2.1 t.2.2.2.2.1 t.2.2.2.2.2.1) 1 (by decide)
    (fun s s' h => by have e0 : s 0 = s' 0 := h 0 (by decide); simp only [e0]) (fun s s' h => by have e0 : s 0 = s' 0 := h 0 (by decide); simp only [e0]) (fun _ _ _ => rfl) (fun t => I t.1 t.2.1.1 t.2.1.2.1 t.2.1.2.2.1 t.2.1.2.2.2.1 t.2.1.2.2.2.2.1 t.2.2.1 t.2.2.2.1 t.2.2.2.2.1 t.2.2.2.2.2.1) (fun t => μ t.1 t.2.1.1 t.2.1.2.1 t.2.1.2.2.1 t.2.1.2.2.2.1 t.2.1.2.2.2.2.1 t.2.2.1 t.2.2.2.1 t.2.2.2.2.1 t.2.2.2.2.2.1)
    (fun t ht again hag h => step t.1 t.2.1.1 t.2.1.2.1 t.2.1.2.2.1 t.2.1.2.2.2.1 t.2.1.2.2.2.2.1 t.2.2.1 t.2.2.2.1 t.2.2.2.2.1 t.2.2.2.2.2.1 ht again hag (fun y0 y1 y2 y3 y4 y5 y6 y7 y8 y9 hI hm => h (y0, (y1, y2, y3, y4, y5, ()), y6, y7, y8, y9, ()) hI hm)) (ops, (s_Kinds, s_Full, s_Stack, s_Memo, s_Done, ()), n5, out, marks, i, ()) hI
def B_s_CutOps (k : Nat) (c_s_validOps : (List (Int × Int)) → Option ((Bool × Unit) × (Unit))) (c_s_runShapes : (List (Int × Int)) → Option (((List Int × List Bool × List Int × List Int × Bool × Unit) × Int × Unit) × (Unit))) (ops : List (Int × Int)) : Option (((List (Int × Int)) × Unit) × (Unit)) :=
  (c_s_validOps ops).bind fun r6 =>
  bif (!r6.1.1) then
    some (([], ()), ())
  else
    (c_s_runShapes ops).bind fun r10 =>
    chk (cutb 0 r10.1.2.1 ops.length) <|
    chk (room ([] : List (Int × Int)).length (sub ops 0 r10.1.2.1).length) <|
    some (((sub ops 0 r10.1.2.1), ()), ())
def F_s_CutOps : Nat → (List (Int × Int)) → Option (((List (Int × Int)) × Unit) × (Unit))
  | 0, _ => none
  | k + 1, ops => B_s_CutOps k (F_s_validOps k) (F_s_runShapes k) ops
theorem F_s_CutOps_succ (k : Nat) (ops : List (Int × Int)) : F_s_CutOps (k + 1) ops = B_s_CutOps k (F_s_validOps k) (F_s_runShapes k) ops := rfl
theorem tot_s_CutOps {ops : List (Int × Int)} {Q : ((((List (Int × Int)) × Unit) × (Unit))) → Prop} (h : Tot (fun σ => B_s_CutOps (σ 0) (F_s_validOps (σ 0)) (F_s_runShapes (σ 0)) ops) Q) : Tot (fun σ => F_s_CutOps (σ 0) ops) Q :=
  Tot.call (F := fun k => F_s_CutOps k ops) (B := fun k => B_s_CutOps k (F_s_validOps k) (F_s_runShapes k) ops) (fun k => F_s_CutOps_succ k ops) h
def B_s_likelyOps_J3 (k : Nat) (c_s_newShapes : Option (((List Int × List Bool × List Int × List Int × Bool × Unit) × Unit) × (Unit))) (c_s_reader_one : List Int → Int → List Int → Option ((Int × Unit) × ((List Int × Int × Unit) × Unit))) (c_s_someOp : List Int → Int → Option (((Int × Int × Unit) × Unit) × ((List Int × Int × Unit) × Unit))) (c_s_reader_pick : List Int → Int → Int → Option ((Int × Unit) × ((List Int × Int × Unit) × Unit))) (c_s_copyShapes : List Int → List Bool → List Int → List Int → Bool → Option (((List Int × List Bool × List Int × List Int × Bool × Unit) × Unit) × (Unit))) (c_s_stepShapes : List Int → List Bool → List Int → List Int → Bool → Int → Int → Option (((List Int × List Bool × List Int × List Int × Bool × Unit) × Bool × Unit) × (Unit))) (c_s_EndOps : (List (Int × Int)) → Option (((List (Int × Int)) × Bool × Unit) × (Unit))) (c_s_CutOps : (List (Int × Int)) → Option (((List (Int × Int)) × Unit) × (Unit))) (again4 : ((List Int × Int × Unit) × (List (Int × Int)) × (List Int × List Bool × List Int × List Int × Bool × Unit) × Int × Unit) → Option (((List (Int × Int)) × Unit) × ((List Int × Int × Unit) × Unit))) (r_b : List Int) (r_p : Int) (out : List (Int × Int)) (s_Kinds : List Int) (s_Full : List Bool) (s_Stack : List Int) (s_Memo : List Int) (s_Done : Bool) (n5 : Int) : Option (((List (Int × Int)) × Unit) × ((List Int × Int × Unit) × Unit)) :=
  again4 ((r_b, r_p, ()), out, (s_Kinds, s_Full, s_Stack, s_Memo, s_Done, ()), w64 (n5 - 1), ())
def B_s_likelyOps_J2 (k : Nat) (c_s_newShapes : Option (((List Int × List Bool × List Int × List Int × Bool × Unit) × Unit) × (Unit))) (c_s_reader_one : List Int → Int → List Int → Option ((Int × Unit) × ((List Int × Int × Unit) × Unit))) (c_s_someOp : List Int → Int → Option (((Int × Int × Unit) × Unit) × ((List Int × Int × Unit) × Unit))) (c_s_reader_pick : List Int → Int → Int → Option ((Int × Unit) × ((List Int × Int × Unit) × Unit))) (c_s_copyShapes : List Int → List Bool → List Int → List Int → Bool → Option (((List Int × List Bool × List Int × List Int × Bool × Unit) × Unit) × (Unit))) (c_s_stepShapes : List Int → List Bool → List Int → List Int → Bool → Int → Int → Option (((List Int × List Bool × List Int × List Int × Bool × Unit) × Bool × Unit) × (Unit))) (c_s_EndOps : (List (Int × Int)) → Option (((List (Int × Int)) × Bool × Unit) × (Unit))) (c_s_CutOps : (List (Int × Int)) → Option (((List (Int × Int)) × Unit) × (Unit))) (again4 : ((List Int × Int × Unit) × (List (Int × Int)) × (List Int × List Bool × List Int × List Int × Bool × Unit) × Int × Unit) → Option (((List (Int × Int)) × Unit) × ((List Int × Int × Unit) × Unit))) (r_b : List Int) (r_p : Int) (out : List (Int × Int)) (s_Kinds : List Int) (s_Full : List Bool) (s_Stack : List Int) (s_Memo : List Int) (s_Done : Bool) (n5 : Int) (o_Code : Int) (o_Arg : Int) (t44 : Bool) : Option (((List (Int × Int)) × Unit) × ((List Int × Int × Unit) × Unit)) :=
  bif t44 then
    chk (room out.length ([(o_Code, o_Arg)]).length) <|
    jn (fun t => B_s_likelyOps_J3 k c_s_newShapes c_s_reader_one c_s_someOp c_s_reader_pick c_s_copyShapes c_s_stepShapes c_s_EndOps c_s_CutOps again4 t.1.1 t.1.2.1 t.2.1 t.2.2.1.1 t.2.2.1.2.1 t.2.2.1.2.2.1 t.2.2.1.2.2.2.1 t.2.2.1.2.2.2.2.1 t.2.2.2.1) ((r_b, r_p, ()), (out ++ [(o_Code, o_Arg)]), (s_Kinds, s_Full, s_Stack, s_Memo, s_Done, ()), n5, ())
  else
    jn (fun t => B_s_likelyOps_J3 k c_s_newShapes c_s_reader_one c_s_someOp c_s_reader_pick c_s_copyShapes c_s_stepShapes c_s_EndOps c_s_CutOps again4 t.1.1 t.1.2.1 t.2.1 t.2.2.1.1 t.2.2.1.2.1 t.2.2.1.2.2.1 t.2.2.1.2.2.2.1 t.2.2.1.2.2.2.2.1 t.2.2.2.1) ((r_b, r_p, ()), out, (s_Kinds, s_Full, s_Stack, s_Memo, s_Done, ()), n5, ())
def B_s_likelyOps_J1 (k : Nat) (c_s_newShapes : Option (((List Int × List Bool × List Int × List Int × Bool × Unit) × Unit) × (Unit))) (c_s_reader_one : List Int → Int → List Int → Option ((Int × Unit) × ((List Int × Int × Unit) × Unit))) (c_s_someOp : List Int → Int → Option (((Int × Int × Unit) × Unit) × ((List Int × Int × Unit) × Unit))) (c_s_reader_pick : List Int → Int → Int → Option ((Int × Unit) × ((List Int × Int × Unit) × Unit))) (c_s_copyShapes : List Int → List Bool → List Int → List Int → Bool → Option (((List Int × List Bool × List Int × List Int × Bool × Unit) × Unit) × (Unit))) (c_s_stepShapes : List Int → List Bool → List Int → List Int → Bool → Int → Int → Option (((List Int × List Bool × List Int × List Int × Bool × Unit) × Bool × Unit) × (Unit))) (c_s_EndOps : (List (Int × Int)) → Option (((List (Int × Int)) × Bool × Unit) × (Unit))) (c_s_CutOps : (List (Int × Int)) → Option (((List (Int × Int)) × Unit) × (Unit))) (again4 : ((List Int × Int × Unit) × (List (Int × Int)) × (List Int × List Bool × List Int × List Int × Bool × Unit) × Int × Unit) → Option (((List (Int × Int)) × Unit) × ((List Int × Int × Unit) × Unit))) (r_b : List Int) (r_p : Int) (out : List (Int × Int)) (s_Kinds : List Int) (s_Full : List Bool) (s_Stack : List Int) (s_Memo : List Int) (s_Done : Bool) (n5 : Int) (o_Code : Int) (o_Arg : Int) (ok : Bool) : Option (((List (Int × Int)) × Unit) × ((List Int × Int × Unit) × Unit)) :=
  bif ok then
    jn (fun t => B_s_likelyOps_J2 k c_s_newShapes c_s_reader_one c_s_someOp c_s_reader_pick c_s_copyShapes c_s_stepShapes c_s_EndOps c_s_CutOps again4 t.1.1 t.1.2.1 t.2.1 t.2.2.1.1 t.2.2.1.2.1 t.2.2.1.2.2.1 t.2.2.1.2.2.2.1 t.2.2.1.2.2.2.2.1 t.2.2.2.1 t.2.2.2.2.1.1 t.2.2.2.2.1.2.1 t.2.2.2.2.2.1) ((r_b, r_p, ()), out, (s_Kinds, s_Full, s_Stack, s_Memo, s_Done, ()), n5, (o_Code, o_Arg, ()), true, ())
  else
    (c_s_reader_pick r_b r_p 16).bind fun r42 =>
    jn (fun t => B_s_likelyOps_J2 k c_s_newShapes c_s_reader_one c_s_someOp c_s_reader_pick c_s_copyShapes c_s_stepShapes c_s_EndOps c_s_CutOps again4 t.1.1 t.1.2.1 t.2.1 t.2.2.1.1 t.2.2.1.2.1 t.2.2.1.2.2.1 t.2.2.1.2.2.2.1 t.2.2.1.2.2.2.2.1 t.2.2.2.1 t.2.2.2.2.1.1 t.2.2.2.2.1.2.1 t.2.2.2.2.2.1) ((r42.2.1.1, r42.2.1.2.1, ()), out, (s_Kinds, s_Full, s_Stack, s_Memo, s_Done, ()), n5, (o_Code, o_Arg, ()), (r42.1.1 == 0), ())
def B_s_likelyOps_J0 (k : Nat) (c_s_newShapes : Option (((List Int × List Bool × List Int × List Int × Bool × Unit) × Unit) × (Unit))) (c_s_reader_one : List Int → Int → List Int → Option ((Int × Unit) × ((List Int × Int × Unit) × Unit))) (c_s_someOp : List Int → Int → Option (((Int × Int × Unit) × Unit) × ((List Int × Int × Unit) × Unit))) (c_s_reader_pick : List Int → Int → Int → Option ((Int × Unit) × ((List Int × Int × Unit) × Unit))) (c_s_copyShapes : List Int → List Bool → List Int → List Int → Bool → Option (((List Int × List Bool × List Int × List Int × Bool × Unit) × Unit) × (Unit))) (c_s_stepShapes : List Int → List Bool → List Int → List Int → Bool → Int → Int → Option (((List Int × List Bool × List Int × List Int × Bool × Unit) × Bool × Unit) × (Unit))) (c_s_EndOps : (List (Int × Int)) → Option (((List (Int × Int)) × Bool × Unit) × (Unit))) (c_s_CutOps : (List (Int × Int)) → Option (((List (Int × Int)) × Unit) × (Unit))) (again4 : ((List Int × Int × Unit) × (List (Int × Int)) × (List Int × List Bool × List Int × List Int × Bool × Unit) × Int × Unit) → Option (((List (Int × Int)) × Unit) × ((List Int × Int × Unit) × Unit))) (r_b : List Int) (r_p : Int) (out : List (Int × Int)) (s_Kinds : List Int) (s_Full : List Bool) (s_Stack : List Int) (s_Memo : List Int) (s_Done : Bool) (n5 : Int) (o_Code : Int) (o_Arg : Int) (t29 : Bool) : Option (((List (Int × Int)) × Unit) × ((List Int × Int × Unit) × Unit)) :=
  bif t29 then
    jn (fun t => B_s_likelyOps_J3 k c_s_newShapes c_s_reader_one c_s_someOp c_s_reader_pick c_s_copyShapes c_s_stepShapes c_s_EndOps c_s_CutOps again4 t.1.1 t.1.2.1 t.2.1 t.2.2.1.1 t.2.2.1.2.1 t.2.2.1.2.2.1 t.2.2.1.2.2.2.1 t.2.2.1.2.2.2.2.1 t.2.2.2.1) ((r_b, r_p, ()), out, (s_Kinds, s_Full, s_Stack, s_Memo, s_Done, ()), n5, ())
  else
    (c_s_copyShapes s_Kinds s_Full s_Stack s_Memo s_Done).bind fun r32 =>
    (c_s_stepShapes r32.1.1.1 r32.1.1.2.1 r32.1.1.2.2.1 r32.1.1.2.2.2.1 r32.1.1.2.2.2.2.1 o_Code o_Arg).bind fun r34 =>
    bif r34.1.2.1 then
      jn (fun t => B_s_likelyOps_J1 k c_s_newShapes c_s_reader_one c_s_someOp c_s_reader_pick c_s_copyShapes c_s_stepShapes c_s_EndOps c_s_CutOps again4 t.1.1 t.1.2.1 t.2.1 t.2.2.1.1 t.2.2.1.2.1 t.2.2.1.2.2.1 t.2.2.1.2.2.2.1 t.2.2.1.2.2.2.2.1 t.2.2.2.1 t.2.2.2.2.1.1 t.2.2.2.2.1.2.1 t.2.2.2.2.2.1) ((r_b, r_p, ()), out, (r34.1.1.1, r34.1.1.2.1, r34.1.1.2.2.1, r34.1.1.2.2.2.1, r34.1.1.2.2.2.2.1, ()), n5, (o_Code, o_Arg, ()), r34.1.2.1, ())
    else
      jn (fun t => B_s_likelyOps_J1 k c_s_newShapes c_s_reader_one c_s_someOp c_s_reader_pick c_s_copyShapes c_s_stepShapes c_s_EndOps c_s_CutOps again4 t.1.1 t.1.2.1 t.2.1 t.2.2.1.1 t.2.2.1.2.1 t.2.2.1.2.2.1 t.2.2.1.2.2.2.1 t.2.2.1.2.2.2.2.1 t.2.2.2.1 t.2.2.2.2.1.1 t.2.2.2.2.1.2.1 t.2.2.2.2.2.1) ((r_b, r_p, ()), out, (s_Kinds, s_Full, s_Stack, s_Memo, s_Done, ()), n5, (o_Code, o_Arg, ()), r34.1.2.1, ())
def B_s_likelyOps_L4b (k : Nat) (c_s_newShapes : Option (((List Int × List Bool × List Int × List Int × Bool × Unit) × Unit) × (Unit))) (c_s_reader_one : List Int → Int → List Int → Option ((Int × Unit) × ((List Int × Int × Unit) × Unit))) (c_s_someOp : List Int → Int → Option (((Int × Int × Unit) × Unit) × ((List Int × Int × Unit) × Unit))) (c_s_reader_pick : List Int → Int → Int → Option ((Int × Unit) × ((List Int × Int × Unit) × Unit))) (c_s_copyShapes : List Int → List Bool → List Int → List Int → Bool → Option (((List Int × List Bool × List Int × List Int × Bool × Unit) × Unit) × (Unit))) (c_s_stepShapes : List Int → List Bool → List Int → List Int → Bool → Int → Int → Option (((List Int × List Bool × List Int × List Int × Bool × Unit) × Bool × Unit) × (Unit))) (c_s_EndOps : (List (Int × Int)) → Option (((List (Int × Int)) × Bool × Unit) × (Unit))) (c_s_CutOps : (List (Int × Int)) → Option (((List (Int × Int)) × Unit) × (Unit))) (again4 : ((List Int × Int × Unit) × (List (Int × Int)) × (List Int × List Bool × List Int × List Int × Bool × Unit) × Int × Unit) → Option (((List (Int × Int)) × Unit) × ((List Int × Int × Unit) × Unit))) (r_b : List Int) (r_p : Int) (out : List (Int × Int)) (s_Kinds : List Int) (s_Full : List Bool) (s_Stack : List Int) (s_Memo : List Int) (s_Done : Bool) (n5 : Int) : Option (((List (Int × Int)) × Unit) × ((List Int × Int × Unit) × Unit)) :=
  bif decide (n5 > 0) then
    (c_s_someOp r_b r_p).bind fun r21 =>
    bif (r21.1.1.1 == 19) then
      (c_s_reader_pick r21.2.1.1 r21.2.1.2.1 3).bind fun r27 =>
      jn (fun t => B_s_likelyOps_J0 k c_s_newShapes c_s_reader_one c_s_someOp c_s_reader_pick c_s_copyShapes c_s_stepShapes c_s_EndOps c_s_CutOps again4 t.1.1 t.1.2.1 t.2.1 t.2.2.1.1 t.2.2.1.2.1 t.2.2.1.2.2.1 t.2.2.1.2.2.2.1 t.2.2.1.2.2.2.2.1 t.2.2.2.1 t.2.2.2.2.1.1 t.2.2.2.2.1.2.1 t.2.2.2.2.2.1) ((r27.2.1.1, r27.2.1.2.1, ()), out, (s_Kinds, s_Full, s_Stack, s_Memo, s_Done, ()), n5, (r21.1.1.1, r21.1.1.2.1, ()), decide (r27.1.1 > 0), ())
    else
      jn (fun t => B_s_likelyOps_J0 k c_s_newShapes c_s_reader_one c_s_someOp c_s_reader_pick c_s_copyShapes c_s_stepShapes c_s_EndOps c_s_CutOps again4 t.1.1 t.1.2.1 t.2.1 t.2.2.1.1 t.2.2.1.2.1 t.2.2.1.2.2.1 t.2.2.1.2.2.2.1 t.2.2.1.2.2.2.2.1 t.2.2.2.1 t.2.2.2.2.1.1 t.2.2.2.2.1.2.1 t.2.2.2.2.2.1) ((r21.2.1.1, r21.2.1.2.1, ()), out, (s_Kinds, s_Full, s_Stack, s_Memo, s_Done, ()), n5, (r21.1.1.1, r21.1.1.2.1, ()), false, ())
  else
    (c_s_reader_pick r_b r_p 2).bind fun r50 =>
    bif (r50.1.1 == 0) then
      (c_s_EndOps out).bind fun r54 =>
      bif r54.1.2.1 then
        (c_s_CutOps out).bind fun r59 =>
        chk (room r59.1.1.length r54.1.1.length) <|
        some (((r59.1.1 ++ r54.1.1), ()), ((r50.2.1.1, r50.2.1.2.1, ()), ()))
      else
        some ((out, ()), ((r50.2.1.1, r50.2.1.2.1, ()), ()))
    else
      some ((out, ()), ((r50.2.1.1, r50.2.1.2.1, ()), ()))
def B_s_likelyOps_L4 (k : Nat) (c_s_newShapes : Option (((List Int × List Bool × List Int × List Int × Bool × Unit) × Unit) × (Unit))) (c_s_reader_one : List Int → Int → List Int → Option ((Int × Unit) × ((List Int × Int × Unit) × Unit))) (c_s_someOp : List Int → Int → Option (((Int × Int × Unit) × Unit) × ((List Int × Int × Unit) × Unit))) (c_s_reader_pick : List Int → Int → Int → Option ((Int × Unit) × ((List Int × Int × Unit) × Unit))) (c_s_copyShapes : List Int → List Bool → List Int → List Int → Bool → Option (((List Int × List Bool × List Int × List Int × Bool × Unit) × Unit) × (Unit))) (c_s_stepShapes : List Int → List Bool → List Int → List Int → Bool → Int → Int → Option (((List Int × List Bool × List Int × List Int × Bool × Unit) × Bool × Unit) × (Unit))) (c_s_EndOps : (List (Int × Int)) → Option (((List (Int × Int)) × Bool × Unit) × (Unit))) (c_s_CutOps : (List (Int × Int)) → Option (((List (Int × Int)) × Unit) × (Unit))) (n : Nat) (t : (List Int × Int × Unit) × (List (Int × Int)) × (List Int × List Bool × List Int × List Int × Bool × Unit) × Int × Unit) : Option (((List (Int × Int)) × Unit) × ((List Int × Int × Unit) × Unit)) :=
  lfix n (fun again t => B_s_likelyOps_L4b k c_s_newShapes c_s_reader_one c_s_someOp c_s_reader_pick c_s_copyShapes c_s_stepShapes c_s_EndOps c_s_CutOps again t.1.1 t.1.2.1 t.2.1 t.2.2.1.1 t.2.2.1.2.1 t.2.2.1.2.2.1 t.2.2.1.2.2.2.1 t.2.2.1.2.2.2.2.1 t.2.2.2.1) t
def B_s_likelyOps (k : Nat) (c_s_newShapes : Option (((List Int × List Bool × List Int × List Int × Bool × Unit) × Unit) × (Unit))) (c_s_reader_one : List Int → Int → List Int → Option ((Int × Unit) × ((List Int × Int × Unit) × Unit))) (c_s_someOp : List Int → Int → Option (((Int × Int × Unit) × Unit) × ((List Int × Int × Unit) × Unit))) (c_s_reader_pick : List Int → Int → Int → Option ((Int × Unit) × ((List Int × Int × Unit) × Unit))) (c_s_copyShapes : List Int → List Bool → List Int → List Int → Bool → Option (((List Int × List Bool × List Int × List Int × Bool × Unit) × Unit) × (Unit))) (c_s_stepShapes : List Int → List Bool → List Int → List Int → Bool → Int → Int → Option (((List Int × List Bool × List Int × List Int × Bool × Unit) × Bool × Unit) × (Unit))) (c_s_EndOps : (List (Int × Int)) → Option (((List (Int × Int)) × Bool × Unit) × (Unit))) (c_s_CutOps : (List (Int × Int)) → Option (((List (Int × Int)) × Unit) × (Unit))) (r_b : List Int) (r_p : Int) : Option (((List (Int × Int)) × Unit) × ((List Int × Int × Unit) × Unit)) :=
  (c_s_newShapes).bind fun r12 =>
  (c_s_reader_one r_b r_p ([12, 8, 20, 5, 30, 0])).bind fun r15 =>
  B_s_likelyOps_L4 k c_s_newShapes c_s_reader_one c_s_someOp c_s_reader_pick c_s_copyShapes c_s_stepShapes c_s_EndOps c_s_CutOps k ((r15.2.1.1, r15.2.1.2.1, ()), [], (r12.1.1.1, r12.1.1.2.1, r12.1.1.2.2.1, r12.1.1.2.2.2.1, r12.1.1.2.2.2.2.1, ()), r15.1.1, ())
def F_s_likelyOps : Nat → List Int → Int → Option (((List (Int × Int)) × Unit) × ((List Int × Int × Unit) × Unit))
  | 0, _, _ => none
  | k + 1, r_b, r_p => B_s_likelyOps k (F_s_newShapes k) (F_s_reader_one k) (F_s_someOp k) (F_s_reader_pick k) (F_s_copyShapes k) (F_s_stepShapes k) (F_s_EndOps k) (F_s_CutOps k) r_b r_p
theorem F_s_likelyOps_succ (k : Nat) (r_b : List Int) (r_p : Int) : F_s_likelyOps (k + 1) r_b r_p = B_s_likelyOps k (F_s_newShapes k) (F_s_reader_one k) (F_s_someOp k) (F_s_reader_pick k) (F_s_copyShapes k) (F_s_stepShapes k) (F_s_EndOps k) (F_s_CutOps k) r_b r_p := rfl
theorem tot_s_likelyOps {r_b : List Int} {r_p : Int} {Q : ((((List (Int × Int)) × Unit) × ((List Int × Int × Unit) × Unit))) → Prop} (h : Tot (fun σ => B_s_likelyOps (σ 0) (F_s_newShapes (σ 0)) (F_s_reader_one (σ 0)) (F_s_someOp (σ 0)) (F_s_reader_pick (σ 0)) (F_s_copyShapes (σ 0)) (F_s_stepShapes (σ 0)) (F_s_EndOps (σ 0)) (F_s_CutOps (σ 0)) r_b r_p) Q) : Tot (fun σ => F_s_likelyOps (σ 0) r_b r_p) Q :=
  Tot.call (F := fun k => F_s_likelyOps k r_b r_p) (B := fun k => B_s_likelyOps k (F_s_newShapes k) (F_s_reader_one k) (F_s_someOp k) (F_s_reader_pick k) (F_s_copyShapes k) (F_s_stepShapes k) (F_s_EndOps k) (F_s_CutOps k) r_b r_p) (fun k => F_s_likelyOps_succ k r_b r_p) h
theorem loop_s_likelyOps_L4 {Q : List Int → Int → (List (Int × Int)) → List Int → List Bool → List Int → List Int → Bool → Int → (((List (Int × Int)) × Unit) × ((List Int × Int × Unit) × Unit)) → Prop} (I : List Int → Int → (List (Int × Int)) → List Int → List Bool → List Int → List Int → Bool → Int → Prop) (μ : List Int → Int → (List (Int × Int)) → List Int → List Bool → List Int → List Int → Bool → Int → Nat)
    (step : ∀ (r_b : List Int) (r_p : Int) (out : List (Int × Int)) (s_Kinds : List Int) (s_Full : List Bool) (s_Stack : List Int) (s_Memo : List Int) (s_Done : Bool) (n5 : Int), I r_b r_p out s_Kinds s_Full s_Stack s_Memo s_Done n5 → ∀ again : (Nat → Nat) → ((List Int × Int × Unit) × (List (Int × Int)) × (List Int × List Bool × List Int × List Int × Bool × Unit) × Int × Unit) → Option (((List (Int × Int)) × Unit) × ((List Int × Int × Unit) × Unit)), Dep 2 again → (∀ (y0 : List Int) (y1 : Int) (y2 : List (Int × Int)) (y3 : List Int) (y4 : List Bool) (y5 : List Int) (y6 : List Int) (y7 : Bool) (y8 : Int), I y0 y1 y2 y3 y4 y5 y6 y7 y8 → μ y0 y1 y2 y3 y4 y5 y6 y7 y8 < μ r_b r_p out s_Kinds s_Full s_Stack s_Memo s_Done n5 → Tot (fun σ => again σ ((y0, y1, ()), y2, (y3, y4, y5, y6, y7, ()), y8, ())) (Q y0 y1 y2 y3 y4 y5 y6 y7 y8)) →
      Tot (fun σ => B_s_likelyOps_L4b (σ 0) (F_s_newShapes (σ 0)) (F_s_reader_one (σ 0)) (F_s_someOp (σ 0)) (F_s_reader_pick (σ 0)) (F_s_copyShapes (σ 0)) (F_s_stepShapes (σ 0)) (F_s_EndOps (σ 0)) (F_s_CutOps (σ 0)) (again σ) r_b r_p out s_Kinds s_Full s_Stack s_Memo s_Done n5) (Q r_b r_p out s_Kinds s_Full s_Stack s_Memo s_Done n5)) :
    ∀ (r_b : List Int) (r_p : Int) (out : List (Int × Int)) (s_Kinds : List Int) (s_Full : List Bool) (s_Stack : List Int) (s_Memo : List Int) (s_Done : Bool) (n5 : Int), I r_b r_p out s_Kinds s_Full s_Stack s_Memo s_Done n5 → Tot (fun σ => B_s_likelyOps_L4 (σ 0) (F_s_newShapes (σ 0)) (F_s_reader_one (σ 0)) (F_s_someOp (σ 0)) (F_s_reader_pick (σ 0)) (F_s_copyShapes (σ 0)) (F_s_stepShapes (σ 0)) (F_s_EndOps (σ 0)) (F_s_CutOps (σ 0)) (σ 0) ((r_b, r_p, ()), out, (s_Kinds, s_Full, s_Stack, s_Memo, s_Done, ()), n5, ())) (Q r_b r_p out s_Kinds s_Full s_Stack s_Memo s_Done n5) := fun r_b r_p out s_Kinds s_Full s_Stack s_Memo s_Done n5 hI =>
  Tot.loop (L := fun σ n t => B_s_likelyOps_L4 (σ 0) (F_s_newShapes (σ 0)) (F_s_reader_one (σ 0)) (F_s_someOp (σ 0)) (F_s_reader_pick (σ 0)) (F_s_copyShapes (σ 0)) (F_s_stepShapes (σ 0)) (F_s_EndOps (σ 0)) (F_s_CutOps (σ 0)) n t) (B := fun σ g t => B_s_likelyOps_L4b (σ 0) (F_s_newShapes (σ 0)) (F_s_reader_one (σ 0)) (F_s_someOp (σ 0)) (F_s_reader_pick (σ 0)) (F_s_copyShapes (σ 0)) (F_s_stepShapes (σ 0)) (F_s_EndOps (σ 0)) (F_s_CutOps (σ 0)) g t.1.1 t.1.2.1 t.2.1 t.2.2.1.1 t.2.2.1.2.1 t.2.2.1.2.2.1 t.2.2.1.2.2.2.1 t.2.2.1.2.2.2.2.1 t.2.2.2.1) (Q := fun t => Q t.1.1 t.1.2.1 t.2.1 t.2.2.1.1 t.2.2.1.2.1 t.2.2.1.2.2.1 t.2.2.1.2.2.2.1 t.2.2.1.2.2.2.2.1 t.2.2.2.1) 1 (by decide)
    (fun s s' h => by have e0 : s 0 = s' 0 := h 0 (by decide); simp only [e0]) (fun s s' h => by have e0 : s 0 = s' 0 := h 0 (by decide); simp only [e0]) (fun _ _ _ => rfl) (fun t => I t.1.1 t.1.2.1 t.2.1 t.2.2.1.1 t.2.2.1.2.1 t.2.2.1.2.2.1 t.2.2.1.2.2.2.1 t.2.2.1.2.2.2.2.1 t.2.2.2.1) (fun t => μ t.1.1 t.1.2.1 t.2.1 t.2.2.1.1 t.2.2.1.2.1 t.2.2.1.2.2.1 t.2.2.1.2.2.2.1 t.2.2.1.2.2.2.2.1 t.2.2.2.1)
    (fun t ht again hag h => step t.1.1 t.1.2.1 t.2.1 t.2.2.1.1 t.2.2.1.2.1 t.2.2.1.2.2.1 t.2.2.1.2.2.2.1 t.2.2.1.2.2.2.2.1 t.2.2.2.1 ht again hag (fun y0 y1 y2 y3 y4 y5 y6 y7 y8 hI hm => h ((y0, y1, ()), y2, (y3, y4, y5, y6, y7, ()), y8, ()) hI hm)) ((r_b, r_p, ()), out, (s_Kinds, s_Full, s_Stack, s_Memo, s_Done, ()), n5, ()) hI
def B_s_someNode_J1 (k : Nat) (c_s_reader_pick : List Int → Int → Int → Option ((Int × Unit) × ((List Int × Int × Unit) × Unit))) (c_s_reader_one : List Int → Int → List Int → Option ((Int × Unit) × ((List Int × Int × Unit) × Unit))) (r_b : List Int) (r_p : Int) (t2_Kind : Int) (t2_Value : Int) (t4 : Int) (t22 : Bool) : Option (((Int × Int × Unit × Unit) × Unit) × ((List Int × Int × Unit) × Unit)) :=
  bif t22 then
    some (((3, 0, (), ()), ()), ((r_b, r_p, ()), ()))
  else
    bif (t4 == 6) then
      some (((4, 0, (), ()), ()), ((r_b, r_p, ()), ()))
    else
      (c_s_reader_pick r_b r_p 3).bind fun r30 =>
      some (((5, r30.1.1, (), ()), ()), ((r30.2.1.1, r30.2.1.2.1, ()), ()))
def B_s_someNode_J0 (k : Nat) (c_s_reader_pick : List Int → Int → Int → Option ((Int × Unit) × ((List Int × Int × Unit) × Unit))) (c_s_reader_one : List Int → Int → List Int → Option ((Int × Unit) × ((List Int × Int × Unit) × Unit))) (r_b : List Int) (r_p : Int) (t2_Kind : Int) (t2_Value : Int) (t4 : Int) (t18 : Bool) : Option (((Int × Int × Unit × Unit) × Unit) × ((List Int × Int × Unit) × Unit)) :=
  bif t18 then
    some (((2, 0, (), ()), ()), ((r_b, r_p, ()), ()))
  else
    bif (t4 == 4) then
      jn (fun t => B_s_someNode_J1 k c_s_reader_pick c_s_reader_one t.1.1 t.1.2.1 t.2.1.1 t.2.1.2.1 t.2.2.1 t.2.2.2.1) ((r_b, r_p, ()), (t2_Kind, t2_Value, (), ()), t4, (t4 == 4), ())
    else
      jn (fun t => B_s_someNode_J1 k c_s_reader_pick c_s_reader_one t.1.1 t.1.2.1 t.2.1.1 t.2.1.2.1 t.2.2.1 t.2.2.2.1) ((r_b, r_p, ()), (t2_Kind, t2_Value, (), ()), t4, (t4 == 5), ())
def B_s_someNode (k : Nat) (c_s_reader_pick : List Int → Int → Int → Option ((Int × Unit) × ((List Int × Int × Unit) × Unit))) (c_s_reader_one : List Int → Int → List Int → Option ((Int × Unit) × ((List Int × Int × Unit) × Unit))) (r_b : List Int) (r_p : Int) : Option (((Int × Int × Unit × Unit) × Unit) × ((List Int × Int × Unit) × Unit)) :=
  (c_s_reader_pick r_b r_p 8).bind fun r4 =>
  bif (r4.1.1 == 0) then
    (c_s_reader_pick r4.2.1.1 r4.2.1.2.1 250).bind fun r9 =>
    (c_s_reader_one r9.2.1.1 r9.2.1.2.1 ([5, 127, 128, 999, r9.1.1])).bind fun r11 =>
    some (((0, r11.1.1, (), ()), ()), ((r11.2.1.1, r11.2.1.2.1, ()), ()))
  else
    bif (r4.1.1 == 1) then
      (c_s_reader_pick r4.2.1.1 r4.2.1.2.1 3).bind fun r16 =>
      some (((1, r16.1.1, (), ()), ()), ((r16.2.1.1, r16.2.1.2.1, ()), ()))
    else
      bif (r4.1.1 == 2) then
        jn (fun t => B_s_someNode_J0 k c_s_reader_pick c_s_reader_one t.1.1 t.1.2.1 t.2.1.1 t.2.1.2.1 t.2.2.1 t.2.2.2.1) ((r4.2.1.1, r4.2.1.2.1, ()), (0, 0, (), ()), r4.1.1, (r4.1.1 == 2), ())
      else
        jn (fun t => B_s_someNode_J0 k c_s_reader_pick c_s_reader_one t.1.1 t.1.2.1 t.2.1.1 t.2.1.2.1 t.2.2.1 t.2.2.2.1) ((r4.2.1.1, r4.2.1.2.1, ()), (0, 0, (), ()), r4.1.1, (r4.1.1 == 3), ())
def F_s_someNode : Nat → List Int → Int → Option (((Int × Int × Unit × Unit) × Unit) × ((List Int × Int × Unit) × Unit))
  | 0, _, _ => none
  | k + 1, r_b, r_p => B_s_someNode k (F_s_reader_pick k) (F_s_reader_one k) r_b r_p
theorem F_s_someNode_succ (k : Nat) (r_b : List Int) (r_p : Int) : F_s_someNode (k + 1) r_b r_p = B_s_someNode k (F_s_reader_pick k) (F_s_reader_one k) r_b r_p := rfl
theorem tot_s_someNode {r_b : List Int} {r_p : Int} {Q : ((((Int × Int × Unit × Unit) × Unit) × ((List Int × Int × Unit) × Unit))) → Prop} (h : Tot (fun σ => B_s_someNode (σ 0) (F_s_reader_pick (σ 0)) (F_s_reader_one (σ 0)) r_b r_p) Q) : Tot (fun σ => F_s_someNode (σ 0) r_b r_p) Q :=
  Tot.call (F := fun k => F_s_someNode k r_b r_p) (B := fun k => B_s_someNode k (F_s_reader_pick k) (F_s_reader_one k) r_b r_p) (fun k => F_s_someNode_succ k r_b r_p) h
def B_s_isKey (k : Nat) (n_0 : Int) (n_1 : Int) : Option ((Bool × Unit) × (Unit)) :=
  bif (n_0 == 0) then
    some ((true, ()), ())
  else
    some (((n_0 == 1), ()), ())
def F_s_isKey : Nat → Int → Int → Option ((Bool × Unit) × (Unit))
  | 0, _, _ => none
  | k + 1, n_0, n_1 => B_s_isKey k n_0 n_1
theorem F_s_isKey_succ (k : Nat) (n_0 : Int) (n_1 : Int) : F_s_isKey (k + 1) n_0 n_1 = B_s_isKey k n_0 n_1 := rfl
theorem tot_s_isKey {n_0 : Int} {n_1 : Int} {Q : (((Bool × Unit) × (Unit))) → Prop} (h : Tot (fun σ => B_s_isKey (σ 0) n_0 n_1) Q) : Tot (fun σ => F_s_isKey (σ 0) n_0 n_1) Q :=
  Tot.call (F := fun k => F_s_isKey k n_0 n_1) (B := fun k => B_s_isKey k n_0 n_1) (fun k => F_s_isKey_succ k n_0 n_1) h
def B_s_allIn_L0b (k : Nat) (c_s_inRange : Int → Int → Int → Option ((Bool × Unit) × (Unit))) (again0 : (List Int × Int × Int × Int × Unit) → Option ((Bool × Unit) × (Unit))) (list : List Int) (low : Int) (high : Int) (i : Int) : Option ((Bool × Unit) × (Unit)) :=
  bif decide (i < (len list)) then
    chk (inb i list.length) <|
    (c_s_inRange (rdx (0 : Int) list i) low high).bind fun r20 =>
    bif (!r20.1.1) then
      some ((false, ()), ())
    else
      again0 (list, low, high, w64 (i + 1), ())
  else
    some ((true, ()), ())
def B_s_allIn_L0 (k : Nat) (c_s_inRange : Int → Int → Int → Option ((Bool × Unit) × (Unit))) (n : Nat) (t : List Int × Int × Int × Int × Unit) : Option ((Bool × Unit) × (Unit)) :=
  lfix n (fun again t => B_s_allIn_L0b k c_s_inRange again t.1 t.2.1 t.2.2.1 t.2.2.2.1) t
def B_s_allIn (k : Nat) (c_s_inRange : Int → Int → Int → Option ((Bool × Unit) × (Unit))) (list : List Int) (low : Int) (high : Int) : Option ((Bool × Unit) × (Unit)) :=
  B_s_allIn_L0 k c_s_inRange k (list, low, high, 0, ())
def F_s_allIn : Nat → List Int → Int → Int → Option ((Bool × Unit) × (Unit))
  | 0, _, _, _ => none
  | k + 1, list, low, high => B_s_allIn k (F_s_inRange k) list low high
theorem F_s_allIn_succ (k : Nat) (list : List Int) (low : Int) (high : Int) : F_s_allIn (k + 1) list low high = B_s_allIn k (F_s_inRange k) list low high := rfl
theorem tot_s_allIn {list : List Int} {low : Int} {high : Int} {Q : (((Bool × Unit) × (Unit))) → Prop} (h : Tot (fun σ => B_s_allIn (σ 0) (F_s_inRange (σ 0)) list low high) Q) : Tot (fun σ => F_s_allIn (σ 0) list low high) Q :=
  Tot.call (F := fun k => F_s_allIn k list low high) (B := fun k => B_s_allIn k (F_s_inRange k) list low high) (fun k => F_s_allIn_succ k list low high) h
theorem loop_s_allIn_L0 {Q : List Int → Int → Int → Int → ((Bool × Unit) × (Unit)) → Prop} (I : List Int → Int → Int → Int → Prop) (μ : List Int → Int → Int → Int → Nat)
    (step : ∀ (list : List Int) (low : Int) (high : Int) (i : Int), I list low high i → ∀ again : (Nat → Nat) → (List Int × Int × Int × Int × Unit) → Option ((Bool × Unit) × (Unit)), Dep 2 again → (∀ (y0 : List Int) (y1 : Int) (y2 : Int) (y3 : Int), I y0 y1 y2 y3 → μ y0 y1 y2 y3 < μ list low high i → Tot (fun σ => again σ (y0, y1, y2, y3, ())) (Q y0 y1 y2 y3)) →
      Tot (fun σ => B_s_allIn_L0b (σ 0) (F_s_inRange (σ 0)) (again σ) list low high i) (Q list low high i)) :
    ∀ (list : List Int) (low : Int) (high : Int) (i : Int), I list low high i → Tot (fun σ => B_s_allIn_L0 (σ 0) (F_s_inRange (σ 0)) (σ 0) (list, low, high, i, ())) (Q list low high i) := fun list low high i hI =>
  Tot.loop (L := fun σ n t => B_s_allIn_L0 (σ 0) (F_s_inRange (σ 0)) n t) (B := fun σ g t => B_s_allIn_L0b (σ 0) (F_s_inRange (σ 0)) g t.1 t.2.1 t.2.2.1 t.2.2.2.1) (Q := fun t => Q t.1 t.2.1 t.2.2.1 t.2.2.2.1) 1 (by decide)
    (fun s s' h => by have e0 : s 0 = s' 0 := h 0 (by decide); simp only [e0]) (fun s s' h => by have e0 : s 0 = s' 0 := h 0 (by decide); simp only [e0]) (fun _ _ _ => rfl) (fun t => I t.1 t.2.1 t.2.2.1 t.2.2.2.1) (fun t => μ t.1 t.2.1 t.2.2.1 t.2.2.2.1)
    (fun t ht again hag h => step t.1 t.2.1 t.2.2.1 t.2.2.2.1 ht again hag (fun y0 y1 y2 y3 hI hm => h (y0, y1, y2, y3, ()) hI hm)) (list, low, high, i, ()) hI
def B_s_sameKey (k : Nat) (a_0 : Int) (a_1 : Int) (b_0 : Int) (b_1 : Int) : Option ((Bool × Unit) × (Unit)) :=
  bif (a_0 == b_0) then
    some (((a_1 == b_1), ()), ())
  else
    some ((false, ()), ())
def F_s_sameKey : Nat → Int → Int → Int → Int → Option ((Bool × Unit) × (Unit))
  | 0, _, _, _, _ => none
  | k + 1, a_0, a_1, b_0, b_1 => B_s_sameKey k a_0 a_1 b_0 b_1
theorem F_s_sameKey_succ (k : Nat) (a_0 : Int) (a_1 : Int) (b_0 : Int) (b_1 : Int) : F_s_sameKey (k + 1) a_0 a_1 b_0 b_1 = B_s_sameKey k a_0 a_1 b_0 b_1 := rfl
theorem tot_s_sameKey {a_0 : Int} {a_1 : Int} {b_0 : Int} {b_1 : Int} {Q : (((Bool × Unit) × (Unit))) → Prop} (h : Tot (fun σ => B_s_sameKey (σ 0) a_0 a_1 b_0 b_1) Q) : Tot (fun σ => F_s_sameKey (σ 0) a_0 a_1 b_0 b_1) Q :=
  Tot.call (F := fun k => F_s_sameKey k a_0 a_1 b_0 b_1) (B := fun k => B_s_sameKey k a_0 a_1 b_0 b_1) (fun k => F_s_sameKey_succ k a_0 a_1 b_0 b_1) h
def B_s_validDict_L0b (k : Nat) (c_s_isKey : Int → Int → Option ((Bool × Unit) × (Unit))) (c_s_sameKey : Int → Int → Int → Int → Option ((Bool × Unit) × (Unit))) (again1 : (((List (Int × Int × List Int)) × Int × Unit) × (Int × Int × List Int × Unit) × Int × Unit) → Option ((Bool × Unit) × (Unit))) (again0 : (((List (Int × Int × List Int)) × Int × Unit) × (Int × Int × List Int × Unit) × Int × Int × Unit) → Option ((Bool × Unit) × (Unit))) (g_Nodes : List (Int × Int × List Int)) (g_Root : Int) (n_Kind : Int) (n_Value : Int) (n_Kids : List Int) (i : Int) (k6 : Int) : Option ((Bool × Unit) × (Unit)) :=
  bif decide (k6 < i) then
    chk (inb i n_Kids.length) <|
    chk (inb (rdx (0 : Int) n_Kids i) g_Nodes.length) <|
    chk (inb k6 n_Kids.length) <|
    chk (inb (rdx (0 : Int) n_Kids k6) g_Nodes.length) <|
    (c_s_sameKey ((rdx ((0 : Int), ((0 : Int), ([] : List Int))) g_Nodes (rdx (0 : Int) n_Kids i)).1) (((rdx ((0 : Int), ((0 : Int), ([] : List Int))) g_Nodes (rdx (0 : Int) n_Kids i)).2).1) ((rdx ((0 : Int), ((0 : Int), ([] : List Int))) g_Nodes (rdx (0 : Int) n_Kids k6)).1) (((rdx ((0 : Int), ((0 : Int), ([] : List Int))) g_Nodes (rdx (0 : Int) n_Kids k6)).2).1)).bind fun r48 =>
    bif r48.1.1 then
      some ((false, ()), ())
    else
      again0 ((g_Nodes, g_Root, ()), (n_Kind, n_Value, n_Kids, ()), i, w64 (k6 + 2), ())
  else
    again1 ((g_Nodes, g_Root, ()), (n_Kind, n_Value, n_Kids, ()), w64 (i + 2), ())
def B_s_validDict_L0 (k : Nat) (c_s_isKey : Int → Int → Option ((Bool × Unit) × (Unit))) (c_s_sameKey : Int → Int → Int → Int → Option ((Bool × Unit) × (Unit))) (again1 : (((List (Int × Int × List Int)) × Int × Unit) × (Int × Int × List Int × Unit) × Int × Unit) → Option ((Bool × Unit) × (Unit))) (n : Nat) (t : ((List (Int × Int × List Int)) × Int × Unit) × (Int × Int × List Int × Unit) × Int × Int × Unit) : Option ((Bool × Unit) × (Unit)) :=
  lfix n (fun again t => B_s_validDict_L0b k c_s_isKey c_s_sameKey again1 again t.1.1 t.1.2.1 t.2.1.1 t.2.1.2.1 t.2.1.2.2.1 t.2.2.1 t.2.2.2.1) t
def B_s_validDict_L1b (k : Nat) (c_s_isKey : Int → Int → Option ((Bool × Unit) × (Unit))) (c_s_sameKey : Int → Int → Int → Int → Option ((Bool × Unit) × (Unit))) (again1 : (((List (Int × Int × List Int)) × Int × Unit) × (Int × Int × List Int × Unit) × Int × Unit) → Option ((Bool × Unit) × (Unit))) (g_Nodes : List (Int × Int × List Int)) (g_Root : Int) (n_Kind : Int) (n_Value : Int) (n_Kids : List Int) (i : Int) : Option ((Bool × Unit) × (Unit)) :=
  bif decide (i < (len n_Kids)) then
    chk (inb i n_Kids.length) <|
    chk (inb (rdx (0 : Int) n_Kids i) g_Nodes.length) <|
    (c_s_isKey ((rdx ((0 : Int), ((0 : Int), ([] : List Int))) g_Nodes (rdx (0 : Int) n_Kids i)).1) (((rdx ((0 : Int), ((0 : Int), ([] : List Int))) g_Nodes (rdx (0 : Int) n_Kids i)).2).1)).bind fun r23 =>
    bif (!r23.1.1) then
      some ((false, ()), ())
    else
      B_s_validDict_L0 k c_s_isKey c_s_sameKey again1 k ((g_Nodes, g_Root, ()), (n_Kind, n_Value, n_Kids, ()), i, 0, ())
  else
    some (((((len n_Kids).tmod 2) == 0), ()), ())
def B_s_validDict_L1 (k : Nat) (c_s_isKey : Int → Int → Option ((Bool × Unit) × (Unit))) (c_s_sameKey : Int → Int → Int → Int → Option ((Bool × Unit) × (Unit))) (n : Nat) (t : ((List (Int × Int × List Int)) × Int × Unit) × (Int × Int × List Int × Unit) × Int × Unit) : Option ((Bool × Unit) × (Unit)) :=
  lfix n (fun again t => B_s_validDict_L1b k c_s_isKey c_s_sameKey again t.1.1 t.1.2.1 t.2.1.1 t.2.1.2.1 t.2.1.2.2.1 t.2.2.1) t
def B_s_validDict (k : Nat) (c_s_isKey : Int → Int → Option ((Bool × Unit) × (Unit))) (c_s_sameKey : Int → Int → Int → Int → Option ((Bool × Unit) × (Unit))) (g_0 : List (Int × Int × List Int)) (g_1 : Int) (n_0 : Int) (n_1 : Int) (n_2 : List Int) : Option ((Bool × Unit) × (Unit)) :=
  B_s_validDict_L1 k c_s_isKey c_s_sameKey k ((g_0, g_1, ()), (n_0, n_1, n_2, ()), 0, ())
def F_s_validDict : Nat → (List (Int × Int × List Int)) → Int → Int → Int → List Int → Option ((Bool × Unit) × (Unit))
  | 0, _, _, _, _, _ => none
  | k + 1, g_0, g_1, n_0, n_1, n_2 => B_s_validDict k (F_s_isKey k) (F_s_sameKey k) g_0 g_1 n_0 n_1 n_2
theorem F_s_validDict_succ (k : Nat) (g_0 : List (Int × Int × List Int)) (g_1 : Int) (n_0 : Int) (n_1 : Int) (n_2 : List Int) : F_s_validDict (k + 1) g_0 g_1 n_0 n_1 n_2 = B_s_validDict k (F_s_isKey k) (F_s_sameKey k) g_0 g_1 n_0 n_1 n_2 := rfl
theorem tot_s_validDict {g_0 : List (Int × Int × List Int)} {g_1 : Int} {n_0 : Int} {n_1 : Int} {n_2 : List Int} {Q : (((Bool × Unit) × (Unit))) → Prop} (h : Tot (fun σ => B_s_validDict (σ 0) (F_s_isKey (σ 0)) (F_s_sameKey (σ 0)) g_0 g_1 n_0 n_1 n_2) Q) : Tot (fun σ => F_s_validDict (σ 0) g_0 g_1 n_0 n_1 n_2) Q :=
  Tot.call (F := fun k => F_s_validDict k g_0 g_1 n_0 n_1 n_2) (B := fun k => B_s_validDict k (F_s_isKey k) (F_s_sameKey k) g_0 g_1 n_0 n_1 n_2) (fun k => F_s_validDict_succ k g_0 g_1 n_0 n_1 n_2) h
theorem loop_s_validDict_L0 {again1 : (Nat → Nat) → (((List (Int × Int × List Int)) × Int × Unit) × (Int × Int × List Int × Unit) × Int × Unit) → Option ((Bool × Unit) × (Unit))} (hag1 : Dep 2 again1) {Q : (List (Int × Int × List Int)) → Int → Int → Int → List Int → Int → Int → ((Bool × Unit) × (Unit)) → Prop} (I : (List (Int × Int × List Int)) → Int → Int → Int → List Int → Int → Int → Prop) (μ : (List (Int × Int × List Int)) → Int → Int → Int → List Int → Int → Int → Nat)
    (step : ∀ (g_Nodes : List (Int × Int × List Int)) (g_Root : Int) (n_Kind : Int) (n_Value : Int) (n_Kids : List Int) (i : Int) (k6 : Int), I g_Nodes g_Root n_Kind n_Value n_Kids i k6 → ∀ again : (Nat → Nat) → (((List (Int × Int × List Int)) × Int × Unit) × (Int × Int × List Int × Unit) × Int × Int × Unit) → Option ((Bool × Unit) × (Unit)), Dep 3 again → (∀ (y0 : List (Int × Int × List Int)) (y1 : Int) (y2 : Int) (y3 : Int) (y4 : List Int) (y5 : Int) (y6 : Int), I y0 y1 y2 y3 y4 y5 y6 → μ y0 y1 y2 y3 y4 y5 y6 < μ g_Nodes g_Root n_Kind n_Value n_Kids i k6 → Tot (fun σ => again σ ((y0, y1, ()), (y2, y3, y4, ()), y5, y6, ())) (Q y0 y1 y2 y3 y4 y5 y6)) →
      Tot (fun σ => B_s_validDict_L0b (σ 0) (F_s_isKey (σ 0)) (F_s_sameKey (σ 0)) (again1 σ) (again σ) g_Nodes g_Root n_Kind n_Value n_Kids i k6) (Q g_Nodes g_Root n_Kind n_Value n_Kids i k6)) :
    ∀ (g_Nodes : List (Int × Int × List Int)) (g_Root : Int) (n_Kind : Int) (n_Value : Int) (n_Kids : List Int) (i : Int) (k6 : Int), I g_Nodes g_Root n_Kind n_Value n_Kids i k6 → Tot (fun σ => B_s_validDict_L0 (σ 0) (F_s_isKey (σ 0)) (F_s_sameKey (σ 0)) (again1 σ) (σ 0) ((g_Nodes, g_Root, ()), (n_Kind, n_Value, n_Kids, ()), i, k6, ())) (Q g_Nodes g_Root n_Kind n_Value n_Kids i k6) := fun g_Nodes g_Root n_Kind n_Value n_Kids i k6 hI =>
  Tot.loop (L := fun σ n t => B_s_validDict_L0 (σ 0) (F_s_isKey (σ 0)) (F_s_sameKey (σ 0)) (again1 σ) n t) (B := fun σ g t => B_s_validDict_L0b (σ 0) (F_s_isKey (σ 0)) (F_s_sameKey (σ 0)) (again1 σ) g t.1.1 t.1.2.1 t.2.1.1 t.2.1.2.1 t.2.1.2.2.1 t.2.2.1 t.2.2.2.1) (Q := fun t => Q t.1.1 t.1.2.1 t.2.1.1 t.2.1.2.1 t.2.1.2.2.1 t.2.2.1 t.2.2.2.1) 2 (by decide)
    (fun s s' h => by have e0 : s 0 = s' 0 := h 0 (by decide); simp only [e0, hag1 s s' h]) (fun s s' h => by have e0 : s 0 = s' 0 := h 0 (by decide); simp only [e0, hag1 s s' h]) (fun _ _ _ => rfl) (fun t => I t.1.1 t.1.2.1 t.2.1.1 t.2.1.2.1 t.2.1.2.2.1 t.2.2.1 t.2.2.2.1) (fun t => μ t.1.1 t.1.2.1 t.2.1.1 t.2.1.2.1 t.2.1.2.2.1 t.2.2.1 t.2.2.2.1)
    (fun t ht again hag h => step t.1.1 t.1.2.1 t.2.1.1 t.2.1.2.1 t.2.1.2.2.1 t.2.2.1 t.2.2.2.1 ht again hag (fun y0 y1 y2 y3 y4 y5 y6 hI hm => h ((y0, y1, ()), (y2, y3, y4, ()), y5, y6, ()) hI hm)) ((g_Nodes, g_Root, ()), (n_Kind, n_Value, n_Kids, ()), i, k6, ()) hI
theorem loop_s_validDict_L1 {Q : (List (Int × Int × List Int)) → Int → Int → Int → List Int → Int → ((Bool × Unit) × (Unit)) → Prop} (I : (List (Int × Int × List Int)) → Int → Int → Int → List Int → Int → Prop) (μ : (List (Int × Int × List Int)) → Int → Int → Int → List Int → Int → Nat)
    (step : ∀ (g_Nodes : List (Int × Int × List Int)) (g_Root : Int) (n_Kind : Int) (n_Value : Int) (n_Kids : List Int) (i : Int), I g_Nodes g_Root n_Kind n_Value n_Kids i → ∀ again : (Nat → Nat) → (((List (Int × Int × List Int)) × Int × Unit) × (Int × Int × List Int × Unit) × Int × Unit) → Option ((Bool × Unit) × (Unit)), Dep 2 again → (∀ (y0 : List (Int × Int × List Int)) (y1 : Int) (y2 : Int) (y3 : Int) (y4 : List Int) (y5 : Int), I y0 y1 y2 y3 y4 y5 → μ y0 y1 y2 y3 y4 y5 < μ g_Nodes g_Root n_Kind n_Value n_Kids i → Tot (fun σ => again σ ((y0, y1, ()), (y2, y3, y4, ()), y5, ())) (Q y0 y1 y2 y3 y4 y5)) →
      Tot (fun σ => B_s_validDict_L1b (σ 0) (F_s_isKey (σ 0)) (F_s_sameKey (σ 0)) (again σ) g_Nodes g_Root n_Kind n_Value n_Kids i) (Q g_Nodes g_Root n_Kind n_Value n_Kids i)) :
    ∀ (g_Nodes : List (Int × Int × List Int)) (g_Root : Int) (n_Kind : Int) (n_Value : Int) (n_Kids : List Int) (i : Int), I g_Nodes g_Root n_Kind n_Value n_Kids i → Tot (fun σ => B_s_validDict_L1 (σ 0) (F_s_isKey (σ 0)) (F_s_sameKey (σ 0)) (σ 0) ((g_Nodes, g_Root, ()), (n_Kind, n_Value, n_Kids, ()), i, ())) (Q g_Nodes g_Root n_Kind n_Value n_Kids i) := fun g_Nodes g_Root n_Kind n_Value n_Kids i hI =>
  Tot.loop (L := fun σ n t => B_s_validDict_L1 (σ 0) (F_s_isKey (σ 0)) (F_s_sameKey (σ 0)) n t) (B := fun σ g t => B_s_validDict_L1b (σ 0) (F_s_isKey (σ 0)) (F_s_sameKey (σ 0)) g t.1.1 t.1.2.1 t.2.1.1 t.2.1.2.1 t.2.1.2.2.1 t.2.2.1) (Q := fun t => Q t.1.1 t.1.2.1 t.2.1.1 t.2.1.2.1 t.2.1.2.2.1 t.2.2.1) 1 (by decide)
    (fun s s' h => by have e0 : s 0 = s' 0 := h 0 (by decide); simp only [e0]) (fun s s' h => by have e0 : s 0 = s' 0 := h 0 (by decide); simp only [e0]) (fun _ _ _ => rfl) (fun t => I t.1.1 t.1.2.1 t.2.1.1 t.2.1.2.1 t.2.1.2.2.1 t.2.2.1) (fun t => μ t.1.1 t.1.2.1 t.2.1.1 t.2.1.2.1 t.2.1.2.2.1 t.2.2.1)
    (fun t ht again hag h => step t.1.1 t.1.2.1 t.2.1.1 t.2.1.2.1 t.2.1.2.2.1 t.2.2.1 ht again hag (fun y0 y1 y2 y3 y4 y5 hI hm => h ((y0, y1, ()), (y2, y3, y4, ()), y5, ()) hI hm)) ((g_Nodes, g_Root, ()), (n_Kind, n_Value, n_Kids, ()), i, ()) hI
def B_s_validNode_J1 (k : Nat) (c_s_allIn : List Int → Int → Int → Option ((Bool × Unit) × (Unit))) (c_s_inRange : Int → Int → Int → Option ((Bool × Unit) × (Unit))) (c_s_validDict : (List (Int × Int × List Int)) → Int → Int → Int → List Int → Option ((Bool × Unit) × (Unit))) (g_Nodes : List (Int × Int × List Int)) (g_Root : Int) (n_Kind : Int) (n_Value : Int) (n_Kids : List Int) (t20 : Int) (t43 : Bool) : Option ((Bool × Unit) × (Unit)) :=
  bif t43 then
    some (((n_Value == 0), ()), ())
  else
    bif (t20 == 4) then
      bif (n_Value == 0) then
        (c_s_validDict g_Nodes g_Root n_Kind n_Value n_Kids).bind fun r57 =>
        some ((r57.1.1, ()), ())
      else
        some ((false, ()), ())
    else
      bif (t20 == 5) then
        (c_s_inRange n_Value 0 9).bind fun r63 =>
        bif r63.1.1 then
          some ((decide ((len n_Kids) ≤ 1), ()), ())
        else
          some ((false, ()), ())
      else
        some ((false, ()), ())
def B_s_validNode_J0 (k : Nat) (c_s_allIn : List Int → Int → Int → Option ((Bool × Unit) × (Unit))) (c_s_inRange : Int → Int → Int → Option ((Bool × Unit) × (Unit))) (c_s_validDict : (List (Int × Int × List Int)) → Int → Int → Int → List Int → Option ((Bool × Unit) × (Unit))) (g_Nodes : List (Int × Int × List Int)) (g_Root : Int) (n_Kind : Int) (n_Value : Int) (n_Kids : List Int) (t18 : Bool) : Option ((Bool × Unit) × (Unit)) :=
  bif t18 then
    some ((false, ()), ())
  else
    bif (n_Kind == 0) then
      (c_s_inRange n_Value 0 999).bind fun r25 =>
      bif r25.1.1 then
        some ((((len n_Kids) == 0), ()), ())
      else
        some ((false, ()), ())
    else
      bif (n_Kind == 1) then
        (c_s_inRange n_Value 0 9).bind fun r36 =>
        bif r36.1.1 then
          some ((((len n_Kids) == 0), ()), ())
        else
          some ((false, ()), ())
      else
        bif (n_Kind == 2) then
          jn (fun t => B_s_validNode_J1 k c_s_allIn c_s_inRange c_s_validDict t.1.1 t.1.2.1 t.2.1.1 t.2.1.2.1 t.2.1.2.2.1 t.2.2.1 t.2.2.2.1) ((g_Nodes, g_Root, ()), (n_Kind, n_Value, n_Kids, ()), n_Kind, (n_Kind == 2), ())
        else
          jn (fun t => B_s_validNode_J1 k c_s_allIn c_s_inRange c_s_validDict t.1.1 t.1.2.1 t.2.1.1 t.2.1.2.1 t.2.1.2.2.1 t.2.2.1 t.2.2.2.1) ((g_Nodes, g_Root, ()), (n_Kind, n_Value, n_Kids, ()), n_Kind, (n_Kind == 3), ())
def B_s_validNode (k : Nat) (c_s_allIn : List Int → Int → Int → Option ((Bool × Unit) × (Unit))) (c_s_inRange : Int → Int → Int → Option ((Bool × Unit) × (Unit))) (c_s_validDict : (List (Int × Int × List Int)) → Int → Int → Int → List Int → Option ((Bool × Unit) × (Unit))) (g_0 : List (Int × Int × List Int)) (g_1 : Int) (n_0 : Int) (n_1 : Int) (n_2 : List Int) : Option ((Bool × Unit) × (Unit)) :=
  bif decide ((len n_2) > 6) then
    jn (fun t => B_s_validNode_J0 k c_s_allIn c_s_inRange c_s_validDict t.1.1 t.1.2.1 t.2.1.1 t.2.1.2.1 t.2.1.2.2.1 t.2.2.1) ((g_0, g_1, ()), (n_0, n_1, n_2, ()), true, ())
  else
    (c_s_allIn n_2 0 (w64 ((len g_0) - 1))).bind fun r16 =>
    jn (fun t => B_s_validNode_J0 k c_s_allIn c_s_inRange c_s_validDict t.1.1 t.1.2.1 t.2.1.1 t.2.1.2.1 t.2.1.2.2.1 t.2.2.1) ((g_0, g_1, ()), (n_0, n_1, n_2, ()), (!r16.1.1), ())
def F_s_validNode : Nat → (List (Int × Int × List Int)) → Int → Int → Int → List Int → Option ((Bool × Unit) × (Unit))
  | 0, _, _, _, _, _ => none
  | k + 1, g_0, g_1, n_0, n_1, n_2 => B_s_validNode k (F_s_allIn k) (F_s_inRange k) (F_s_validDict k) g_0 g_1 n_0 n_1 n_2
theorem F_s_validNode_succ (k : Nat) (g_0 : List (Int × Int × List Int)) (g_1 : Int) (n_0 : Int) (n_1 : Int) (n_2 : List Int) : F_s_validNode (k + 1) g_0 g_1 n_0 n_1 n_2 = B_s_validNode k (F_s_allIn k) (F_s_inRange k) (F_s_validDict k) g_0 g_1 n_0 n_1 n_2 := rfl
theorem tot_s_validNode {g_0 : List (Int × Int × List Int)} {g_1 : Int} {n_0 : Int} {n_1 : Int} {n_2 : List Int} {Q : (((Bool × Unit) × (Unit))) → Prop} (h : Tot (fun σ => B_s_validNode (σ 0) (F_s_allIn (σ 0)) (F_s_inRange (σ 0)) (F_s_validDict (σ 0)) g_0 g_1 n_0 n_1 n_2) Q) : Tot (fun σ => F_s_validNode (σ 0) g_0 g_1 n_0 n_1 n_2) Q :=
  Tot.call (F := fun k => F_s_validNode k g_0 g_1 n_0 n_1 n_2) (B := fun k => B_s_validNode k (F_s_allIn k) (F_s_inRange k) (F_s_validDict k) g_0 g_1 n_0 n_1 n_2) (fun k => F_s_validNode_succ k g_0 g_1 n_0 n_1 n_2) h
def B_s_placeIn_L0b (k : Nat) (again0 : (List Int × Int × Int × Unit) → Option ((Int × Unit) × (Unit))) (list : List Int) (n1 : Int) (i : Int) : Option ((Int × Unit) × (Unit)) :=
  bif decide (i < (len list)) then
    chk (inb i list.length) <|
    bif ((rdx (0 : Int) list i) == n1) then
      some ((i, ()), ())
    else
      again0 (list, n1, w64 (i + 1), ())
  else
    some (((-1), ()), ())
def B_s_placeIn_L0 (k : Nat) (n : Nat) (t : List Int × Int × Int × Unit) : Option ((Int × Unit) × (Unit)) :=
  lfix n (fun again t => B_s_placeIn_L0b k again t.1 t.2.1 t.2.2.1) t
def B_s_placeIn (k : Nat) (list : List Int) (n1 : Int) : Option ((Int × Unit) × (Unit)) :=
  B_s_placeIn_L0 k k (list, n1, 0, ())
def F_s_placeIn : Nat → List Int → Int → Option ((Int × Unit) × (Unit))
  | 0, _, _ => none
  | k + 1, list, n1 => B_s_placeIn k list n1
theorem F_s_placeIn_succ (k : Nat) (list : List Int) (n1 : Int) : F_s_placeIn (k + 1) list n1 = B_s_placeIn k list n1 := rfl
theorem tot_s_placeIn {list : List Int} {n1 : Int} {Q : (((Int × Unit) × (Unit))) → Prop} (h : Tot (fun σ => B_s_placeIn (σ 0) list n1) Q) : Tot (fun σ => F_s_placeIn (σ 0) list n1) Q :=
  Tot.call (F := fun k => F_s_placeIn k list n1) (B := fun k => B_s_placeIn k list n1) (fun k => F_s_placeIn_succ k list n1) h
theorem loop_s_placeIn_L0 {Q : List Int → Int → Int → ((Int × Unit) × (Unit)) → Prop} (I : List Int → Int → Int → Prop) (μ : List Int → Int → Int → Nat)
    (step : ∀ (list : List Int) (n1 : Int) (i : Int), I list n1 i → ∀ again : (Nat → Nat) → (List Int × Int × Int × Unit) → Option ((Int × Unit) × (Unit)), Dep 2 again → (∀ (y0 : List Int) (y1 : Int) (y2 : Int), I y0 y1 y2 → μ y0 y1 y2 < μ list n1 i → Tot (fun σ => again σ (y0, y1, y2, ())) (Q y0 y1 y2)) →
      Tot (fun σ => B_s_placeIn_L0b (σ 0) (again σ) list n1 i) (Q list n1 i)) :
    ∀ (list : List Int) (n1 : Int) (i : Int), I list n1 i → Tot (fun σ => B_s_placeIn_L0 (σ 0) (σ 0) (list, n1, i, ())) (Q list n1 i) := fun list n1 i hI =>
  Tot.loop (L := fun σ n t => B_s_placeIn_L0 (σ 0) n t) (B := fun σ g t => B_s_placeIn_L0b (σ 0) g t.1 t.2.1 t.2.2.1) (Q := fun t => Q t.1 t.2.1 t.2.2.1) 1 (by decide)
    (fun s s' h => by have e0 : s 0 = s' 0 := h 0 (by decide); simp only [e0]) (fun s s' h => by have e0 : s 0 = s' 0 := h 0 (by decide); simp only [e0]) (fun _ _ _ => rfl) (fun t => I t.1 t.2.1 t.2.2.1) (fun t => μ t.1 t.2.1 t.2.2.1)
    (fun t ht again hag h => step t.1 t.2.1 t.2.2.1 ht again hag (fun y0 y1 y2 hI hm => h (y0, y1, y2, ()) hI hm)) (list, n1, i, ()) hI
def B_s_tupleReach_J0 (k : Nat) (c_s_copyInts : List Int → Option ((List Int × Unit) × (Unit))) (c_s_placeIn : List Int → Int → Option ((Int × Unit) × (Unit))) (again1 : (((List (Int × Int × List Int)) × Int × Unit) × List Int × List Int × Int × Unit) → Option ((List Int × Unit) × (Unit))) (g_Nodes : List (Int × Int × List Int)) (g_Root : Int) (out : List Int) (list : List Int) (k7 : Int) : Option ((List Int × Unit) × (Unit)) :=
  again1 ((g_Nodes, g_Root, ()), out, list, w64 (k7 + 1), ())
def B_s_tupleReach_L1b (k : Nat) (c_s_copyInts : List Int → Option ((List Int × Unit) × (Unit))) (c_s_placeIn : List Int → Int → Option ((Int × Unit) × (Unit))) (again1 : (((List (Int × Int × List Int)) × Int × Unit) × List Int × List Int × Int × Unit) → Option ((List Int × Unit) × (Unit))) (g_Nodes : List (Int × Int × List Int)) (g_Root : Int) (out : List Int) (list : List Int) (k7 : Int) : Option ((List Int × Unit) × (Unit)) :=
  bif decide (k7 < (len list)) then
    chk (inb k7 list.length) <|
    chk (decide (k7.toNat < list.length)) <|
    (c_s_placeIn out (list.getD k7.toNat (0 : Int))).bind fun r27 =>
    bif decide (r27.1.1 < 0) then
      chk (inb k7 list.length) <|
      chk (decide (k7.toNat < list.length)) <|
      chk (room out.length ([(list.getD k7.toNat (0 : Int))]).length) <|
      chk (inb k7 list.length) <|
      chk (decide (k7.toNat < list.length)) <|
      chk (inb (list.getD k7.toNat (0 : Int)) g_Nodes.length) <|
      let v45 : Bool := (((rdx ((0 : Int), ((0 : Int), ([] : List Int))) g_Nodes (list.getD k7.toNat (0 : Int))).1) == 2)
      bif v45 then
        chk (inb k7 list.length) <|
        chk (decide (k7.toNat < list.length)) <|
        chk (inb (list.getD k7.toNat (0 : Int)) g_Nodes.length) <|
        chk (room list.length (((rdx ((0 : Int), ((0 : Int), ([] : List Int))) g_Nodes (list.getD k7.toNat (0 : Int))).2).2).length) <|
        jn (fun t => B_s_tupleReach_J0 k c_s_copyInts c_s_placeIn again1 t.1.1 t.1.2.1 t.2.1 t.2.2.1 t.2.2.2.1) ((g_Nodes, g_Root, ()), (out ++ [(list.getD k7.toNat (0 : Int))]), (list ++ ((rdx ((0 : Int), ((0 : Int), ([] : List Int))) g_Nodes (list.getD k7.toNat (0 : Int))).2).2), k7, ())
      else
        jn (fun t => B_s_tupleReach_J0 k c_s_copyInts c_s_placeIn again1 t.1.1 t.1.2.1 t.2.1 t.2.2.1 t.2.2.2.1) ((g_Nodes, g_Root, ()), (out ++ [(list.getD k7.toNat (0 : Int))]), list, k7, ())
    else
      jn (fun t => B_s_tupleReach_J0 k c_s_copyInts c_s_placeIn again1 t.1.1 t.1.2.1 t.2.1 t.2.2.1 t.2.2.2.1) ((g_Nodes, g_Root, ()), out, list, k7, ())
  else
    some ((out, ()), ())
def B_s_tupleReach_L1 (k : Nat) (c_s_copyInts : List Int → Option ((List Int × Unit) × (Unit))) (c_s_placeIn : List Int → Int → Option ((Int × Unit) × (Unit))) (n : Nat) (t : ((List (Int × Int × List Int)) × Int × Unit) × List Int × List Int × Int × Unit) : Option ((List Int × Unit) × (Unit)) :=
  lfix n (fun again t => B_s_tupleReach_L1b k c_s_copyInts c_s_placeIn again t.1.1 t.1.2.1 t.2.1 t.2.2.1 t.2.2.2.1) t
def B_s_tupleReach (k : Nat) (c_s_copyInts : List Int → Option ((List Int × Unit) × (Unit))) (c_s_placeIn : List Int → Int → Option ((Int × Unit) × (Unit))) (g_0 : List (Int × Int × List Int)) (g_1 : Int) (at1 : Int) : Option ((List Int × Unit) × (Unit)) :=
  chk (inb at1 g_0.length) <|
  (c_s_copyInts (((rdx ((0 : Int), ((0 : Int), ([] : List Int))) g_0 at1).2).2)).bind fun r15 =>
  B_s_tupleReach_L1 k c_s_copyInts c_s_placeIn k ((g_0, g_1, ()), [], r15.1.1, 0, ())
def F_s_tupleReach : Nat → (List (Int × Int × List Int)) → Int → Int → Option ((List Int × Unit) × (Unit))
  | 0, _, _, _ => none
  | k + 1, g_0, g_1, at1 => B_s_tupleReach k (F_s_copyInts k) (F_s_placeIn k) g_0 g_1 at1
theorem F_s_tupleReach_succ (k : Nat) (g_0 : List (Int × Int × List Int)) (g_1 : Int) (at1 : Int) : F_s_tupleReach (k + 1) g_0 g_1 at1 = B_s_tupleReach k (F_s_copyInts k) (F_s_placeIn k) g_0 g_1 at1 := rfl
theorem tot_s_tupleReach {g_0 : List (Int × Int × List Int)} {g_1 : Int} {at1 : Int} {Q : (((List Int × Unit) × (Unit))) → Prop} (h : Tot (fun σ => B_s_tupleReach (σ 0) (F_s_copyInts (σ 0)) (F_s_placeIn (σ 0)) g_0 g_1 at1) Q) : Tot (fun σ => F_s_tupleReach (σ 0) g_0 g_1 at1) Q :=
  Tot.call (F := fun k => F_s_tupleReach k g_0 g_1 at1) (B := fun k => B_s_tupleReach k (F_s_copyInts k) (F_s_placeIn k) g_0 g_1 at1) (fun k => F_s_tupleReach_succ k g_0 g_1 at1) h
theorem loop_s_tupleReach_L1 {Q : (List (Int × Int × List Int)) → Int → List Int → List Int → Int → ((List Int × Unit) × (Unit)) → Prop} (I : (List (Int × Int × List Int)) → Int → List Int → List Int → Int → Prop) (μ : (List (Int × Int × List Int)) → Int → List Int → List Int → Int → Nat)
    (step : ∀ (g_Nodes : List (Int × Int × List Int)) (g_Root : Int) (out : List Int) (list : List Int) (k7 : Int), I g_Nodes g_Root out list k7 → ∀ again : (Nat → Nat) → (((List (Int × Int × List Int)) × Int × Unit) × List Int × List Int × Int × Unit) → Option ((List Int × Unit) × (Unit)), Dep 2 again → (∀ (y0 : List (Int × Int × List Int)) (y1 : Int) (y2 : List Int) (y3 : List Int) (y4 : Int), I y0 y1 y2 y3 y4 → μ y0 y1 y2 y3 y4 < μ g_Nodes g_Root out list k7 → Tot (fun σ => again σ ((y0, y1, ()), y2, y3, y4, ())) (Q y0 y1 y2 y3 y4)) →
      Tot (fun σ => B_s_tupleReach_L1b (σ 0) (F_s_copyInts (σ 0)) (F_s_placeIn (σ 0)) (again σ) g_Nodes g_Root out list k7) (Q g_Nodes g_Root out list k7)) :
    ∀ (g_Nodes : List (Int × Int × List Int)) (g_Root : Int) (out : List Int) (list : List Int) (k7 : Int), I g_Nodes g_Root out list k7 → Tot (fun σ => B_s_tupleReach_L1 (σ 0) (F_s_copyInts (σ 0)) (F_s_placeIn (σ 0)) (σ 0) ((g_Nodes, g_Root, ()), out, list, k7, ())) (Q g_Nodes g_Root out list k7) := fun g_Nodes g_Root out list k7 hI =>
  Tot.loop (L := fun σ n t => B_s_tupleReach_L1 (σ 0) (F_s_copyInts (σ 0)) (F_s_placeIn (σ 0)) n t) (B := fun σ g t => B_s_tupleReach_L1b (σ 0) (F_s_copyInts (σ 0)) (F_s_placeIn (σ 0)) g t.1.1 t.1.2.1 t.2.1 t.2.2.1 t.2.2.2.1) (Q := fun t => Q t.1.1 t.1.2.1 t.2.1 t.2.2.1 t.2.2.2.1) 1 (by decide)
    (fun s s' h => by have e0 : s 0 = s' 0 := h 0 (by decide); simp only [e0]) (fun s s' h => by have e0 : s 0 = s' 0 := h 0 (by decide); simp only [e0]) (fun _ _ _ => rfl) (fun t => I t.1.1 t.1.2.1 t.2.1 t.2.2.1 t.2.2.2.1) (fun t => μ t.1.1 t.1.2.1 t.2.1 t.2.2.1 t.2.2.2.1)
    (fun t ht again hag h => step t.1.1 t.1.2.1 t.2.1 t.2.2.1 t.2.2.2.1 ht again hag (fun y0 y1 y2 y3 y4 hI hm => h ((y0, y1, ()), y2, y3, y4, ()) hI hm)) ((g_Nodes, g_Root, ()), out, list, k7, ()) hI
def B_s_validGraph_J2 (k : Nat) (c_s_inRange : Int → Int → Int → Option ((Bool × Unit) × (Unit))) (c_s_validNode : (List (Int × Int × List Int)) → Int → Int → Int → List Int → Option ((Bool × Unit) × (Unit))) (c_s_tupleReach : (List (Int × Int × List Int)) → Int → Int → Option ((List Int × Unit) × (Unit))) (c_s_placeIn : List Int → Int → Option ((Int × Unit) × (Unit))) (again3 : (((List (Int × Int × List Int)) × Int × Unit) × Int × Unit) → Option ((Bool × Unit) × (Unit))) (g_Nodes : List (Int × Int × List Int)) (g_Root : Int) (i : Int) (t56 : Bool) : Option ((Bool × Unit) × (Unit)) :=
  bif t56 then
    some ((false, ()), ())
  else
    again3 ((g_Nodes, g_Root, ()), w64 (i + 1), ())
def B_s_validGraph_L3b (k : Nat) (c_s_inRange : Int → Int → Int → Option ((Bool × Unit) × (Unit))) (c_s_validNode : (List (Int × Int × List Int)) → Int → Int → Int → List Int → Option ((Bool × Unit) × (Unit))) (c_s_tupleReach : (List (Int × Int × List Int)) → Int → Int → Option ((List Int × Unit) × (Unit))) (c_s_placeIn : List Int → Int → Option ((Int × Unit) × (Unit))) (again3 : (((List (Int × Int × List Int)) × Int × Unit) × Int × Unit) → Option ((Bool × Unit) × (Unit))) (g_Nodes : List (Int × Int × List Int)) (g_Root : Int) (i : Int) : Option ((Bool × Unit) × (Unit)) :=
  bif decide (i < (len g_Nodes)) then
    chk (inb i g_Nodes.length) <|
    bif (((rdx ((0 : Int), ((0 : Int), ([] : List Int))) g_Nodes i).1) == 2) then
      (c_s_tupleReach g_Nodes g_Root i).bind fun r52 =>
      (c_s_placeIn r52.1.1 i).bind fun r54 =>
      jn (fun t => B_s_validGraph_J2 k c_s_inRange c_s_validNode c_s_tupleReach c_s_placeIn again3 t.1.1 t.1.2.1 t.2.1 t.2.2.1) ((g_Nodes, g_Root, ()), i, decide (r54.1.1 ≥ 0), ())
    else
      jn (fun t => B_s_validGraph_J2 k c_s_inRange c_s_validNode c_s_tupleReach c_s_placeIn again3 t.1.1 t.1.2.1 t.2.1 t.2.2.1) ((g_Nodes, g_Root, ()), i, false, ())
  else
    some ((true, ()), ())
def B_s_validGraph_L3 (k : Nat) (c_s_inRange : Int → Int → Int → Option ((Bool × Unit) × (Unit))) (c_s_validNode : (List (Int × Int × List Int)) → Int → Int → Int → List Int → Option ((Bool × Unit) × (Unit))) (c_s_tupleReach : (List (Int × Int × List Int)) → Int → Int → Option ((List Int × Unit) × (Unit))) (c_s_placeIn : List Int → Int → Option ((Int × Unit) × (Unit))) (n : Nat) (t : ((List (Int × Int × List Int)) × Int × Unit) × Int × Unit) : Option ((Bool × Unit) × (Unit)) :=
  lfix n (fun again t => B_s_validGraph_L3b k c_s_inRange c_s_validNode c_s_tupleReach c_s_placeIn again t.1.1 t.1.2.1 t.2.1) t
def B_s_validGraph_L1b (k : Nat) (c_s_inRange : Int → Int → Int → Option ((Bool × Unit) × (Unit))) (c_s_validNode : (List (Int × Int × List Int)) → Int → Int → Int → List Int → Option ((Bool × Unit) × (Unit))) (c_s_tupleReach : (List (Int × Int × List Int)) → Int → Int → Option ((List Int × Unit) × (Unit))) (c_s_placeIn : List Int → Int → Option ((Int × Unit) × (Unit))) (again1 : (((List (Int × Int × List Int)) × Int × Unit) × Int × Unit) → Option ((Bool × Unit) × (Unit))) (g_Nodes : List (Int × Int × List Int)) (g_Root : Int) (i : Int) : Option ((Bool × Unit) × (Unit)) :=
  bif decide (i < (len g_Nodes)) then
    chk (inb i g_Nodes.length) <|
    (c_s_validNode g_Nodes g_Root ((rdx ((0 : Int), ((0 : Int), ([] : List Int))) g_Nodes i).1) (((rdx ((0 : Int), ((0 : Int), ([] : List Int))) g_Nodes i).2).1) (((rdx ((0 : Int), ((0 : Int), ([] : List Int))) g_Nodes i).2).2)).bind fun r33 =>
    bif (!r33.1.1) then
      some ((false, ()), ())
    else
      again1 ((g_Nodes, g_Root, ()), w64 (i + 1), ())
  else
    B_s_validGraph_L3 k c_s_inRange c_s_validNode c_s_tupleReach c_s_placeIn k ((g_Nodes, g_Root, ()), 0, ())
def B_s_validGraph_L1 (k : Nat) (c_s_inRange : Int → Int → Int → Option ((Bool × Unit) × (Unit))) (c_s_validNode : (List (Int × Int × List Int)) → Int → Int → Int → List Int → Option ((Bool × Unit) × (Unit))) (c_s_tupleReach : (List (Int × Int × List Int)) → Int → Int → Option ((List Int × Unit) × (Unit))) (c_s_placeIn : List Int → Int → Option ((Int × Unit) × (Unit))) (n : Nat) (t : ((List (Int × Int × List Int)) × Int × Unit) × Int × Unit) : Option ((Bool × Unit) × (Unit)) :=
  lfix n (fun again t => B_s_validGraph_L1b k c_s_inRange c_s_validNode c_s_tupleReach c_s_placeIn again t.1.1 t.1.2.1 t.2.1) t
def B_s_validGraph_J0 (k : Nat) (c_s_inRange : Int → Int → Int → Option ((Bool × Unit) × (Unit))) (c_s_validNode : (List (Int × Int × List Int)) → Int → Int → Int → List Int → Option ((Bool × Unit) × (Unit))) (c_s_tupleReach : (List (Int × Int × List Int)) → Int → Int → Option ((List Int × Unit) × (Unit))) (c_s_placeIn : List Int → Int → Option ((Int × Unit) × (Unit))) (g_Nodes : List (Int × Int × List Int)) (g_Root : Int) (t19 : Bool) : Option ((Bool × Unit) × (Unit)) :=
  bif t19 then
    some ((false, ()), ())
  else
    B_s_validGraph_L1 k c_s_inRange c_s_validNode c_s_tupleReach c_s_placeIn k ((g_Nodes, g_Root, ()), 0, ())
def B_s_validGraph (k : Nat) (c_s_inRange : Int → Int → Int → Option ((Bool × Unit) × (Unit))) (c_s_validNode : (List (Int × Int × List Int)) → Int → Int → Int → List Int → Option ((Bool × Unit) × (Unit))) (c_s_tupleReach : (List (Int × Int × List Int)) → Int → Int → Option ((List Int × Unit) × (Unit))) (c_s_placeIn : List Int → Int → Option ((Int × Unit) × (Unit))) (g_0 : List (Int × Int × List Int)) (g_1 : Int) : Option ((Bool × Unit) × (Unit)) :=
  (c_s_inRange (len g_0) 1 12).bind fun r8 =>
  bif (!r8.1.1) then
    jn (fun t => B_s_validGraph_J0 k c_s_inRange c_s_validNode c_s_tupleReach c_s_placeIn t.1.1 t.1.2.1 t.2.1) ((g_0, g_1, ()), true, ())
  else
    (c_s_inRange g_1 0 (w64 ((len g_0) - 1))).bind fun r17 =>
    jn (fun t => B_s_validGraph_J0 k c_s_inRange c_s_validNode c_s_tupleReach c_s_placeIn t.1.1 t.1.2.1 t.2.1) ((g_0, g_1, ()), (!r17.1.1), ())
def F_s_validGraph : Nat → (List (Int × Int × List Int)) → Int → Option ((Bool × Unit) × (Unit))
  | 0, _, _ => none
  | k + 1, g_0, g_1 => B_s_validGraph k (F_s_inRange k) (F_s_validNode k) (F_s_tupleReach k) (F_s_placeIn k) g_0 g_1
theorem F_s_validGraph_succ (k : Nat) (g_0 : List (Int × Int × List Int)) (g_1 : Int) : F_s_validGraph (k + 1) g_0 g_1 = B_s_validGraph k (F_s_inRange k) (F_s_validNode k) (F_s_tupleReach k) (F_s_placeIn k) g_0 g_1 := rfl
theorem tot_s_validGraph {g_0 : List (Int × Int × List Int)} {g_1 : Int} {Q : (((Bool × Unit) × (Unit))) → Prop} (h : Tot (fun σ => B_s_validGraph (σ 0) (F_s_inRange (σ 0)) (F_s_validNode (σ 0)) (F_s_tupleReach (σ 0)) (F_s_placeIn (σ 0)) g_0 g_1) Q) : Tot (fun σ => F_s_validGraph (σ 0) g_0 g_1) Q :=
  Tot.call (F := fun k => F_s_validGraph k g_0 g_1) (B := fun k => B_s_validGraph k (F_s_inRange k) (F_s_validNode k) (F_s_tupleReach k) (F_s_placeIn k) g_0 g_1) (fun k => F_s_validGraph_succ k g_0 g_1) h
theorem loop_s_validGraph_L3 {Q : (List (Int × Int × List Int)) → Int → Int → ((Bool × Unit) × (Unit)) → Prop} (I : (List (Int × Int × List Int)) → Int → Int → Prop) (μ : (List (Int × Int × List Int)) → Int → Int → Nat)
    (step : ∀ (g_Nodes : List (Int × Int × List Int)) (g_Root : Int) (i : Int), I g_Nodes g_Root i → ∀ again : (Nat → Nat) → (((List (Int × Int × List Int)) × Int × Unit) × Int × Unit) → Option ((Bool × Unit) × (Unit)), Dep 2 again → (∀ (y0 : List (Int × Int × List Int)) (y1 : Int) (y2 : Int), I y0 y1 y2 → μ y0 y1 y2 < μ g_Nodes g_Root i → Tot (fun σ => again σ ((y0, y1, ()), y2, ())) (Q y0 y1 y2)) →
      Tot (fun σ => B_s_validGraph_L3b (σ 0) (F_s_inRange (σ 0)) (F_s_validNode (σ 0)) (F_s_tupleReach (σ 0)) (F_s_placeIn (σ 0)) (again σ) g_Nodes g_Root i) (Q g_Nodes g_Root i)) :
    ∀ (g_Nodes : List (Int × Int × List Int)) (g_Root : Int) (i : Int), I g_Nodes g_Root i → Tot (fun σ => B_s_validGraph_L3 (σ 0) (F_s_inRange (σ 0)) (F_s_validNode (σ 0)) (F_s_tupleReach (σ 0)) (F_s_placeIn (σ 0)) (σ 0) ((g_Nodes, g_Root, ()), i, ())) (Q g_Nodes g_Root i) := fun g_Nodes g_Root i hI =>
  Tot.loop (L := fun σ n t => B_s_validGraph_L3 (σ 0) (F_s_inRange (σ 0)) (F_s_validNode (σ 0)) (F_s_tupleReach (σ 0)) (F_s_placeIn (σ 0)) n t) (B := fun σ g t => B_s_validGraph_L3b (σ 0) (F_s_inRange (σ 0)) (F_s_validNode (σ 0)) (F_s_tupleReach (σ 0)) (F_s_placeIn (σ 0)) g t.1.1 t.1.2.1 t.2.1) (Q := fun t => Q t.1.1 t.1.2.1 t.2.1) 1 (by decide)
    (fun s s' h => by have e0 : s 0 = s' 0 := h 0 (by decide); simp only [e0]) (fun s s' h => by have e0 : s 0 = s' 0 := h 0 (by decide); simp only [e0]) (fun _ _ _ => rfl) (fun t => I t.1.1 t.1.2.1 t.2.1) (fun t => μ t.1.1 t.1.2.1 t.2.1)
    (fun t ht again hag h => step t.1.1 t.1.2.1 t.2.1 ht again hag (fun y0 y1 y2 hI hm => h ((y0, y1, ()), y2, ()) hI hm)) ((g_Nodes, g_Root, ()), i, ()) hI
theorem loop_s_validGraph_L1 {Q : (List (Int × Int × List Int)) → Int → Int → ((Bool × Unit) × (Unit)) → Prop} (I : (List (Int × Int × List Int)) → Int → Int → Prop) (μ : (List (Int × Int × List Int)) → Int → Int → Nat)
    (step : ∀ (g_Nodes : List (Int × Int × List Int)) (g_Root : Int) (i : Int), I g_Nodes g_Root i → ∀ again : (Nat → Nat) → (((List (Int × Int × List Int)) × Int × Unit) × Int × Unit) → Option ((Bool × Unit) × (Unit)), Dep 2 again → (∀ (y0 : List (Int × Int × List Int)) (y1 : Int) (y2 : Int), I y0 y1 y2 → μ y0 y1 y2 < μ g_Nodes g_Root i → Tot (fun σ => again σ ((y0, y1, ()), y2, ())) (Q y0 y1 y2)) →
      Tot (fun σ => B_s_validGraph_L1b (σ 0) (F_s_inRange (σ 0)) (F_s_validNode (σ 0)) (F_s_tupleReach (σ 0)) (F_s_placeIn (σ 0)) (again σ) g_Nodes g_Root i) (Q g_Nodes g_Root i)) :
    ∀ (g_Nodes : List (Int × Int × List Int)) (g_Root : Int) (i : Int), I g_Nodes g_Root i → Tot (fun σ => B_s_validGraph_L1 (σ 0) (F_s_inRange (σ 0)) (F_s_validNode (σ 0)) (F_s_tupleReach (σ 0)) (F_s_placeIn (σ 0)) (σ 0) ((g_Nodes, g_Root, ()), i, ())) (Q g_Nodes g_Root i) := fun g_Nodes g_Root i hI =>
  Tot.loop (L := fun σ n t => B_s_validGraph_L1 (σ 0) (F_s_inRange (σ 0)) (F_s_validNode (σ 0)) (F_s_tupleReach (σ 0)) (F_s_placeIn (σ 0)) n t) (B := fun σ g t => B_s_validGraph_L1b (σ 0) (F_s_inRange (σ 0)) (F_s_validNode (σ 0)) (F_s_tupleReach (σ 0)) (F_s_placeIn (σ 0)) g t.1.1 t.1.2.1 t.2.1) (Q := fun t => Q t.1.1 t.1.2.1 t.2.1) 1 (by decide)
    (fun s s' h => by have e0 : s 0 = s' 0 := h 0 (by decide); simp only [e0]) (fun s s' h => by have e0 : s 0 = s' 0 := h 0 (by decide); simp only [e0]) (fun _ _ _ => rfl) (fun t => I t.1.1 t.1.2.1 t.2.1) (fun t => μ t.1.1 t.1.2.1 t.2.1)
    (fun t ht again hag h => step t.1.1 t.1.2.1 t.2.1 ht again hag (fun y0 y1 y2 hI hm => h ((y0, y1, ()), y2, ()) hI hm)) ((g_Nodes, g_Root, ()), i, ()) hI
def B_s_addKids_J2 (k : Nat) (c_s_reader_one : List Int → Int → List Int → Option ((Int × Unit) × ((List Int × Int × Unit) × Unit))) (c_s_reader_pick : List Int → Int → Int → Option ((Int × Unit) × ((List Int × Int × Unit) × Unit))) (c_s_isKey : Int → Int → Option ((Bool × Unit) × (Unit))) (c_s_validGraph : (List (Int × Int × List Int)) → Int → Option ((Bool × Unit) × (Unit))) (again3 : ((List Int × Int × Unit) × Int × ((List (Int × Int × Option (List Int))) × Int × Unit) × (Unit × Int × Unit) × (Int × Int × List Int × Unit) × Int × Unit) → Option ((((List (Int × Int × Option (List Int))) × Int × Unit) × Unit) × ((List Int × Int × Unit) × Unit))) (r_b : List Int) (r_p : Int) (at2 : Int) (g_Nodes : List (Int × Int × Option (List Int))) (g_Root : Int) (t6_Root : Int) (n_Kind : Int) (n_Value : Int) (n_Kids : List Int) (k8 : Int) : Option ((((List (Int × Int × Option (List Int))) × Int × Unit) × Unit) × ((List Int × Int × Unit) × Unit)) :=
  again3 ((r_b, r_p, ()), at2, (g_Nodes, g_Root, ()), ((), t6_Root, ()), (n_Kind, n_Value, n_Kids, ()), w64 (k8 - 1), ())
def B_s_addKids_J1 (k : Nat) (c_s_reader_one : List Int → Int → List Int → Option ((Int × Unit) × ((List Int × Int × Unit) × Unit))) (c_s_reader_pick : List Int → Int → Int → Option ((Int × Unit) × ((List Int × Int × Unit) × Unit))) (c_s_isKey : Int → Int → Option ((Bool × Unit) × (Unit))) (c_s_validGraph : (List (Int × Int × List Int)) → Int → Option ((Bool × Unit) × (Unit))) (again3 : ((List Int × Int × Unit) × Int × ((List (Int × Int × Option (List Int))) × Int × Unit) × (Unit × Int × Unit) × (Int × Int × List Int × Unit) × Int × Unit) → Option ((((List (Int × Int × Option (List Int))) × Int × Unit) × Unit) × ((List Int × Int × Unit) × Unit))) (r_b : List Int) (r_p : Int) (at2 : Int) (g_Nodes : List (Int × Int × Option (List Int))) (g_Root : Int) (t6_Root : Int) (n_Kind : Int) (n_Value : Int) (n_Kids : List Int) (k8 : Int) (kid : Int) (t57 : Bool) : Option ((((List (Int × Int × Option (List Int))) × Int × Unit) × Unit) × ((List Int × Int × Unit) × Unit)) :=
  bif t57 then
    (c_s_reader_pick r_b r_p (len g_Nodes)).bind fun r65 =>
    chk (room n_Kids.length ([kid, r65.1.1]).length) <|
    jn (fun t => B_s_addKids_J2 k c_s_reader_one c_s_reader_pick c_s_isKey c_s_validGraph again3 t.1.1 t.1.2.1 t.2.1 t.2.2.1.1 t.2.2.1.2.1 t.2.2.2.1.2.1 t.2.2.2.2.1.1 t.2.2.2.2.1.2.1 t.2.2.2.2.1.2.2.1 t.2.2.2.2.2.1) ((r65.2.1.1, r65.2.1.2.1, ()), at2, (g_Nodes, g_Root, ()), ((), t6_Root, ()), (n_Kind, n_Value, (n_Kids ++ [kid, r65.1.1]), ()), k8, ())
  else
    jn (fun t => B_s_addKids_J2 k c_s_reader_one c_s_reader_pick c_s_isKey c_s_validGraph again3 t.1.1 t.1.2.1 t.2.1 t.2.2.1.1 t.2.2.1.2.1 t.2.2.2.1.2.1 t.2.2.2.2.1.1 t.2.2.2.2.1.2.1 t.2.2.2.2.1.2.2.1 t.2.2.2.2.2.1) ((r_b, r_p, ()), at2, (g_Nodes, g_Root, ()), ((), t6_Root, ()), (n_Kind, n_Value, n_Kids, ()), k8, ())
def B_s_addKids_J0 (k : Nat) (c_s_reader_one : List Int → Int → List Int → Option ((Int × Unit) × ((List Int × Int × Unit) × Unit))) (c_s_reader_pick : List Int → Int → Int → Option ((Int × Unit) × ((List Int × Int × Unit) × Unit))) (c_s_isKey : Int → Int → Option ((Bool × Unit) × (Unit))) (c_s_validGraph : (List (Int × Int × List Int)) → Int → Option ((Bool × Unit) × (Unit))) (again3 : ((List Int × Int × Unit) × Int × ((List (Int × Int × Option (List Int))) × Int × Unit) × (Unit × Int × Unit) × (Int × Int × List Int × Unit) × Int × Unit) → Option ((((List (Int × Int × Option (List Int))) × Int × Unit) × Unit) × ((List Int × Int × Unit) × Unit))) (r_b : List Int) (r_p : Int) (at2 : Int) (g_Nodes : List (Int × Int × Option (List Int))) (g_Root : Int) (t6_Root : Int) (n_Kind : Int) (n_Value : Int) (n_Kids : List Int) (k8 : Int) (kid : Int) (t29 : Int) (t30 : Bool) : Option ((((List (Int × Int × Option (List Int))) × Int × Unit) × Unit) × ((List Int × Int × Unit) × Unit)) :=
  bif t30 then
    chk (room n_Kids.length ([kid]).length) <|
    jn (fun t => B_s_addKids_J2 k c_s_reader_one c_s_reader_pick c_s_isKey c_s_validGraph again3 t.1.1 t.1.2.1 t.2.1 t.2.2.1.1 t.2.2.1.2.1 t.2.2.2.1.2.1 t.2.2.2.2.1.1 t.2.2.2.2.1.2.1 t.2.2.2.2.1.2.2.1 t.2.2.2.2.2.1) ((r_b, r_p, ()), at2, (g_Nodes, g_Root, ()), ((), t6_Root, ()), (n_Kind, n_Value, (n_Kids ++ [kid]), ()), k8, ())
  else
    bif (t29 == 5) then
      jn (fun t => B_s_addKids_J2 k c_s_reader_one c_s_reader_pick c_s_isKey c_s_validGraph again3 t.1.1 t.1.2.1 t.2.1 t.2.2.1.1 t.2.2.1.2.1 t.2.2.2.1.2.1 t.2.2.2.2.1.1 t.2.2.2.2.1.2.1 t.2.2.2.2.1.2.2.1 t.2.2.2.2.2.1) ((r_b, r_p, ()), at2, (g_Nodes, g_Root, ()), ((), t6_Root, ()), (n_Kind, n_Value, [kid], ()), k8, ())
    else
      bif (t29 == 4) then
        bif decide ((len n_Kids) < 6) then
          chk (inb kid g_Nodes.length) <|
          chk (decide (kid.toNat < g_Nodes.length)) <|
          (c_s_isKey ((g_Nodes.getD kid.toNat ((0 : Int), ((0 : Int), (none : Option (List Int))))).1) (((g_Nodes.getD kid.toNat ((0 : Int), ((0 : Int), (none : Option (List Int))))).2).1)).bind fun r56 =>
          jn (fun t => B_s_addKids_J1 k c_s_reader_one c_s_reader_pick c_s_isKey c_s_validGraph again3 t.1.1 t.1.2.1 t.2.1 t.2.2.1.1 t.2.2.1.2.1 t.2.2.2.1.2.1 t.2.2.2.2.1.1 t.2.2.2.2.1.2.1 t.2.2.2.2.1.2.2.1 t.2.2.2.2.2.1 t.2.2.2.2.2.2.1 t.2.2.2.2.2.2.2.1) ((r_b, r_p, ()), at2, (g_Nodes, g_Root, ()), ((), t6_Root, ()), (n_Kind, n_Value, n_Kids, ()), k8, kid, r56.1.1, ())
        else
          jn (fun t => B_s_addKids_J1 k c_s_reader_one c_s_reader_pick c_s_isKey c_s_validGraph again3 t.1.1 t.1.2.1 t.2.1 t.2.2.1.1 t.2.2.1.2.1 t.2.2.2.1.2.1 t.2.2.2.2.1.1 t.2.2.2.2.1.2.1 t.2.2.2.2.1.2.2.1 t.2.2.2.2.2.1 t.2.2.2.2.2.2.1 t.2.2.2.2.2.2.2.1) ((r_b, r_p, ()), at2, (g_Nodes, g_Root, ()), ((), t6_Root, ()), (n_Kind, n_Value, n_Kids, ()), k8, kid, false, ())
      else
        jn (fun t => B_s_addKids_J2 k c_s_reader_one c_s_reader_pick c_s_isKey c_s_validGraph again3 t.1.1 t.1.2.1 t.2.1 t.2.2.1.1 t.2.2.1.2.1 t.2.2.2.1.2.1 t.2.2.2.2.1.1 t.2.2.2.2.1.2.1 t.2.2.2.2.1.2.2.1 t.2.2.2.2.2.1) ((r_b, r_p, ()), at2, (g_Nodes, g_Root, ()), ((), t6_Root, ()), (n_Kind, n_Value, n_Kids, ()), k8, ())
def B_s_addKids_J4 (k : Nat) (c_s_reader_one : List Int → Int → List Int → Option ((Int × Unit) × ((List Int × Int × Unit) × Unit))) (c_s_reader_pick : List Int → Int → Int → Option ((Int × Unit) × ((List Int × Int × Unit) × Unit))) (c_s_isKey : Int → Int → Option ((Bool × Unit) × (Unit))) (c_s_validGraph : (List (Int × Int × List Int)) → Int → Option ((Bool × Unit) × (Unit))) (r_b : List Int) (r_p : Int) (g_Nodes : List (Int × Int × Option (List Int))) (g_Root : Int) (t6_Root : Int) : Option ((((List (Int × Int × Option (List Int))) × Int × Unit) × Unit) × ((List Int × Int × Unit) × Unit)) :=
  some (((g_Nodes, g_Root, ()), ()), ((r_b, r_p, ()), ()))
def B_s_addKids_L3b (k : Nat) (c_s_reader_one : List Int → Int → List Int → Option ((Int × Unit) × ((List Int × Int × Unit) × Unit))) (c_s_reader_pick : List Int → Int → Int → Option ((Int × Unit) × ((List Int × Int × Unit) × Unit))) (c_s_isKey : Int → Int → Option ((Bool × Unit) × (Unit))) (c_s_validGraph : (List (Int × Int × List Int)) → Int → Option ((Bool × Unit) × (Unit))) (again3 : ((List Int × Int × Unit) × Int × ((List (Int × Int × Option (List Int))) × Int × Unit) × (Unit × Int × Unit) × (Int × Int × List Int × Unit) × Int × Unit) → Option ((((List (Int × Int × Option (List Int))) × Int × Unit) × Unit) × ((List Int × Int × Unit) × Unit))) (r_b : List Int) (r_p : Int) (at2 : Int) (g_Nodes : List (Int × Int × Option (List Int))) (g_Root : Int) (t6_Root : Int) (n_Kind : Int) (n_Value : Int) (n_Kids : List Int) (k8 : Int) : Option ((((List (Int × Int × Option (List Int))) × Int × Unit) × Unit) × ((List Int × Int × Unit) × Unit)) :=
  bif decide (k8 > 0) then
    (c_s_reader_pick r_b r_p (len g_Nodes)).bind fun r27 =>
    bif (n_Kind == 2) then
      jn (fun t => B_s_addKids_J0 k c_s_reader_one c_s_reader_pick c_s_isKey c_s_validGraph again3 t.1.1 t.1.2.1 t.2.1 t.2.2.1.1 t.2.2.1.2.1 t.2.2.2.1.2.1 t.2.2.2.2.1.1 t.2.2.2.2.1.2.1 t.2.2.2.2.1.2.2.1 t.2.2.2.2.2.1 t.2.2.2.2.2.2.1 t.2.2.2.2.2.2.2.1 t.2.2.2.2.2.2.2.2.1) ((r27.2.1.1, r27.2.1.2.1, ()), at2, (g_Nodes, g_Root, ()), ((), t6_Root, ()), (n_Kind, n_Value, n_Kids, ()), k8, r27.1.1, n_Kind, (n_Kind == 2), ())
    else
      jn (fun t => B_s_addKids_J0 k c_s_reader_one c_s_reader_pick c_s_isKey c_s_validGraph again3 t.1.1 t.1.2.1 t.2.1 t.2.2.1.1 t.2.2.1.2.1 t.2.2.2.1.2.1 t.2.2.2.2.1.1 t.2.2.2.2.1.2.1 t.2.2.2.2.1.2.2.1 t.2.2.2.2.2.1 t.2.2.2.2.2.2.1 t.2.2.2.2.2.2.2.1 t.2.2.2.2.2.2.2.2.1) ((r27.2.1.1, r27.2.1.2.1, ()), at2, (g_Nodes, g_Root, ()), ((), t6_Root, ()), (n_Kind, n_Value, n_Kids, ()), k8, r27.1.1, n_Kind, (n_Kind == 3), ())
  else
    chk (inb at2 g_Nodes.length) <|
    chk (decide (at2.toNat < g_Nodes.length)) <|
    chk (inb at2 g_Nodes.length) <|
    chk (decide (at2.toNat < g_Nodes.length)) <|
    (c_s_validGraph ((g_Nodes.set at2.toNat (n_Kind, (n_Value, (some n_Kids)))).map (fun p => (p.1, (p.2.1, p.2.2.getD [])))) g_Root).bind fun r80 =>
    bif (!r80.1.1) then
      chk (inb at2 (g_Nodes.set at2.toNat (n_Kind, (n_Value, (some n_Kids)))).length) <|
      chk (decide (at2.toNat < (g_Nodes.set at2.toNat (n_Kind, (n_Value, (some n_Kids)))).length)) <|
      jn (fun t => B_s_addKids_J4 k c_s_reader_one c_s_reader_pick c_s_isKey c_s_validGraph t.1.1 t.1.2.1 t.2.1.1 t.2.1.2.1 t.2.2.1.2.1) ((r_b, r_p, ()), (((g_Nodes.set at2.toNat (n_Kind, (n_Value, (some n_Kids)))).set at2.toNat ((g_Nodes.getD at2.toNat ((0 : Int), ((0 : Int), (none : Option (List Int))))).1, (((g_Nodes.getD at2.toNat ((0 : Int), ((0 : Int), (none : Option (List Int))))).2).1, ((g_Nodes.getD at2.toNat ((0 : Int), ((0 : Int), (none : Option (List Int))))).2).2))), g_Root, ()), ((), t6_Root, ()), ())
    else
      jn (fun t => B_s_addKids_J4 k c_s_reader_one c_s_reader_pick c_s_isKey c_s_validGraph t.1.1 t.1.2.1 t.2.1.1 t.2.1.2.1 t.2.2.1.2.1) ((r_b, r_p, ()), ((g_Nodes.set at2.toNat (n_Kind, (n_Value, (some n_Kids)))), g_Root, ()), ((), t6_Root, ()), ())
def B_s_addKids_L3 (k : Nat) (c_s_reader_one : List Int → Int → List Int → Option ((Int × Unit) × ((List Int × Int × Unit) × Unit))) (c_s_reader_pick : List Int → Int → Int → Option ((Int × Unit) × ((List Int × Int × Unit) × Unit))) (c_s_isKey : Int → Int → Option ((Bool × Unit) × (Unit))) (c_s_validGraph : (List (Int × Int × List Int)) → Int → Option ((Bool × Unit) × (Unit))) (n : Nat) (t : (List Int × Int × Unit) × Int × ((List (Int × Int × Option (List Int))) × Int × Unit) × (Unit × Int × Unit) × (Int × Int × List Int × Unit) × Int × Unit) : Option ((((List (Int × Int × Option (List Int))) × Int × Unit) × Unit) × ((List Int × Int × Unit) × Unit)) :=
  lfix n (fun again t => B_s_addKids_L3b k c_s_reader_one c_s_reader_pick c_s_isKey c_s_validGraph again t.1.1 t.1.2.1 t.2.1 t.2.2.1.1 t.2.2.1.2.1 t.2.2.2.1.2.1 t.2.2.2.2.1.1 t.2.2.2.2.1.2.1 t.2.2.2.2.1.2.2.1 t.2.2.2.2.2.1) t
def B_s_addKids (k : Nat) (c_s_reader_one : List Int → Int → List Int → Option ((Int × Unit) × ((List Int × Int × Unit) × Unit))) (c_s_reader_pick : List Int → Int → Int → Option ((Int × Unit) × ((List Int × Int × Unit) × Unit))) (c_s_isKey : Int → Int → Option ((Bool × Unit) × (Unit))) (c_s_validGraph : (List (Int × Int × List Int)) → Int → Option ((Bool × Unit) × (Unit))) (r_b : List Int) (r_p : Int) (g_0 : List (Int × Int × Option (List Int))) (g_1 : Int) (at2 : Int) : Option ((((List (Int × Int × Option (List Int))) × Int × Unit) × Unit) × ((List Int × Int × Unit) × Unit)) :=
  chk (inb at2 g_0.length) <|
  chk (decide (at2.toNat < g_0.length)) <|
  (c_s_reader_one r_b r_p ([2, 1, 3, 0, 4])).bind fun r18 =>
  chk ((((g_0.getD at2.toNat ((0 : Int), ((0 : Int), (none : Option (List Int))))).2).2).isNone) <|
  B_s_addKids_L3 k c_s_reader_one c_s_reader_pick c_s_isKey c_s_validGraph k ((r18.2.1.1, r18.2.1.2.1, ()), at2, (g_0, g_1, ()), ((), 0, ()), ((g_0.getD at2.toNat ((0 : Int), ((0 : Int), (none : Option (List Int))))).1, ((g_0.getD at2.toNat ((0 : Int), ((0 : Int), (none : Option (List Int))))).2).1, [], ()), r18.1.1, ())
def F_s_addKids : Nat → List Int → Int → (List (Int × Int × Option (List Int))) → Int → Int → Option ((((List (Int × Int × Option (List Int))) × Int × Unit) × Unit) × ((List Int × Int × Unit) × Unit))
  | 0, _, _, _, _, _ => none
  | k + 1, r_b, r_p, g_0, g_1, at2 => B_s_addKids k (F_s_reader_one k) (F_s_reader_pick k) (F_s_isKey k) (F_s_validGraph k) r_b r_p g_0 g_1 at2
theorem F_s_addKids_succ (k : Nat) (r_b : List Int) (r_p : Int) (g_0 : List (Int × Int × Option (List Int))) (g_1 : Int) (at2 : Int) : F_s_addKids (k + 1) r_b r_p g_0 g_1 at2 = B_s_addKids k (F_s_reader_one k) (F_s_reader_pick k) (F_s_isKey k) (F_s_validGraph k) r_b r_p g_0 g_1 at2 := rfl
theorem tot_s_addKids {r_b : List Int} {r_p : Int} {g_0 : List (Int × Int × Option (List Int))} {g_1 : Int} {at2 : Int} {Q : (((((List (Int × Int × Option (List Int))) × Int × Unit) × Unit) × ((List Int × Int × Unit) × Unit))) → Prop} (h : Tot (fun σ => B_s_addKids (σ 0) (F_s_reader_one (σ 0)) (F_s_reader_pick (σ 0)) (F_s_isKey (σ 0)) (F_s_validGraph (σ 0)) r_b r_p g_0 g_1 at2) Q) : Tot (fun σ => F_s_addKids (σ 0) r_b r_p g_0 g_1 at2) Q :=
  Tot.call (F := fun k => F_s_addKids k r_b r_p g_0 g_1 at2) (B := fun k => B_s_addKids k (F_s_reader_one k) (F_s_reader_pick k) (F_s_isKey k) (F_s_validGraph k) r_b r_p g_0 g_1 at2) (fun k => F_s_addKids_succ k r_b r_p g_0 g_1 at2) h
theorem loop_s_addKids_L3 {Q : List Int → Int → Int → (List (Int × Int × Option (List Int))) → Int → Int → Int → Int → List Int → Int → ((((List (Int × Int × Option (List Int))) × Int × Unit) × Unit) × ((List Int × Int × Unit) × Unit)) → Prop} (I : List Int → Int → Int → (List (Int × Int × Option (List Int))) → Int → Int → Int → Int → List Int → Int → Prop) (μ : List Int → Int → Int → (List (Int × Int × Option (List Int))) → Int → Int → Int → Int → List Int → Int → Nat)
    (step : ∀ (r_b : List Int) (r_p : Int) (at2 : Int) (g_Nodes : List (Int × Int × Option (List Int))) (g_Root : Int) (t6_Root : Int) (n_Kind : Int) (n_Value : Int) (n_Kids : List Int) (k8 : Int), I r_b r_p at2 g_Nodes g_Root t6_Root n_Kind n_Value n_Kids k8 → ∀ again : (Nat → Nat) → ((List Int × Int × Unit) × Int × ((List (Int × Int × Option (List Int))) × Int × Unit) × (Unit × Int × Unit) × (Int × Int × List Int × Unit) × Int × Unit) → Option ((((List (Int × Int × Option (List Int))) × Int × Unit) × Unit) × ((List Int × Int × Unit) × Unit)), Dep 2 again → (∀ (y0 : List Int) (y1 : Int) (y2 : Int) (y3 : List (Int × Int × Option (List Int))) (y4 : Int) (y5 : Int) (y6 : Int) (y7 : Int) (y8 : List Int) (y9 : Int), I y0 y1 y2 y3 y4 y5 y6 y7 y8 y9 → μ y0 y1 y2 y3 y4 y5 y6 y7 y8 y9 < μ r_b r_p at2 g_Nodes g_Root t6_Root n_Kind n_Value n_Kids k8 → Tot (fun σ => again σ ((y0, y1, ()), y2, (y3, y4, ()), ((), y5, ()), (y6, y7, y8, ()), y9, ())) (Q y0 y1 y2 y3 y4 y5 y6 y7 y8 y9)) →
      Tot (fun σ => B_s_addKids_L3b (σ 0) (F_s_reader_one (σ 0)) (F_s_reader_pick (σ 0)) (F_s_isKey (σ 0)) (F_s_validGraph (σ 0)) (again σ) r_b r_p at2 g_Nodes g_Root t6_Root n_Kind n_Value n_Kids k8) (Q r_b r_p at2 g_Nodes g_Root t6_Root n_Kind n_Value n_Kids k8)) :
    ∀ (r_b : List Int) (r_p : Int) (at2 : Int) (g_Nodes : List (Int × Int × Option (List Int))) (g_Root : Int) (t6_Root : Int) (n_Kind : Int) (n_Value : Int) (n_Kids : List Int) (k8 : Int), I r_b r_p at2 g_Nodes g_Root t6_Root n_Kind n_Value n_Kids k8 → Tot (fun σ => B_s_addKids_L3 (σ 0) (F_s_reader_one (σ 0)) (F_s_reader_pick (σ 0)) (F_s_isKey (σ 0)) (F_s_validGraph (σ 0)) (σ 0) ((r_b, r_p, ()), at2, (g_Nodes, g_Root, ()), ((), t6_Root, ()), (n_Kind, n_Value, n_Kids, ()), k8, ())) (Q r_b r_p at2 g_Nodes g_Root t6_Root n_Kind n_Value n_Kids k8) := fun r_b r_p at2 g_Nodes g_Root t6_Root n_Kind n_Value n_Kids k8 hI =>
  Tot.loop (L := fun σ n t => B_s_addKids_L3 (σ 0) (F_s_reader_one (σ 0)) (F_s_reader_pick (σ 0)) (F_s_isKey (σ 0)) (F_s_validGraph (σ 0)) n t) (B := fun σ g t => B_s_addKids_L3b (σ 0) (F_s_reader_one (σ 0)) (F_s_reader_pick (σ 0)) (F_s_isKey (σ 0)) (F_s_validGraph (σ 0)) g t.1.1 t.1.2.1 t.2.1 t.2.2.1.1 t.2.2.1.2.1 t.2.2.2.1.2.1 t.2.2.2.2.1.1 t.2.2.2.2.1.2.1 t.2.2.2.2.1.2.2.1 t.2.2.2.2.2.1) (Q := fun t => Q t.1.1 t.1.2.1 t.2.1 t.2.2.1.1 t.2.2.1.2.1 t.2.2.2.1.2.1 t.2.2.2.2.1.1 t.2.2.2.2.1.2.1 t.2.2.2.2.1.2.2.1 t.2.2.2.2.2.1) 1 (by decide)
    (fun s s' h => by have e0 : s 0 = s' 0 := h 0 (by decide); simp only [e0]) (fun s s' h => by have e0 : s 0 = s' 0 := h 0 (by decide); simp only [e0]) (fun _ _ _ => rfl) (fun t => I t.1.1 t.1.2.1 t.2.1 t.2.2.1.1 t.2.2.1.2.1 t.2.2.2.1.2.1 t.2.2.2.2.1.1 t.2.2.2.2.1.2.1 t.2.2.2.2.1.2.2.1 t.2.2.2.2.2.1) (fun t => μ t.1.1 t.1.2.1 t.2.1 t.2.2.1.1 t.2.2.1.2.1 t.2.2.2.1.2.1 t.2.2.2.2.1.1 t.2.2.2.2.1.2.1 t.2.2.2.2.1.2.2.1 t.2.2.2.2.2.1)
    (fun t ht again hag h => step t.1.1 t.1.2.1 t.2.1 t.2.2.1.1 t.2.2.1.2.1 t.2.2.2.1.2.1 t.2.2.2.2.1.1 t.2.2.2.2.1.2.1 t.2.2.2.2.1.2.2.1 t.2.2.2.2.2.1 ht again hag (fun y0 y1 y2 y3 y4 y5 y6 y7 y8 y9 hI hm => h ((y0, y1, ()), y2, (y3, y4, ()), ((), y5, ()), (y6, y7, y8, ()), y9, ()) hI hm)) ((r_b, r_p, ()), at2, (g_Nodes, g_Root, ()), ((), t6_Root, ()), (n_Kind, n_Value, n_Kids, ()), k8, ()) hI
def B_s_someGraph_J2 (k : Nat) (c_s_reader_one : List Int → Int → List Int → Option ((Int × Unit) × ((List Int × Int × Unit) × Unit))) (c_s_someNode : List Int → Int → Option (((Int × Int × Unit × Unit) × Unit) × ((List Int × Int × Unit) × Unit))) (c_s_addKids : List Int → Int → (List (Int × Int × Option (List Int))) → Int → Int → Option ((((List (Int × Int × Option (List Int))) × Int × Unit) × Unit) × ((List Int × Int × Unit) × Unit))) (c_s_reader_pick : List Int → Int → Int → Option ((Int × Unit) × ((List Int × Int × Unit) × Unit))) (r_b : List Int) (r_p : Int) (t2_Root : Int) (g_Nodes : List (Int × Int × Option (List Int))) (g_Root : Int) : Option ((((List (Int × Int × List Int)) × Int × Unit) × Unit) × ((List Int × Int × Unit) × Unit)) :=
  some ((((g_Nodes.map (fun p => (p.1, (p.2.1, p.2.2.getD [])))), g_Root, ()), ()), ((r_b, r_p, ()), ()))
def B_s_someGraph_L1b (k : Nat) (c_s_reader_one : List Int → Int → List Int → Option ((Int × Unit) × ((List Int × Int × Unit) × Unit))) (c_s_someNode : List Int → Int → Option (((Int × Int × Unit × Unit) × Unit) × ((List Int × Int × Unit) × Unit))) (c_s_addKids : List Int → Int → (List (Int × Int × Option (List Int))) → Int → Int → Option ((((List (Int × Int × Option (List Int))) × Int × Unit) × Unit) × ((List Int × Int × Unit) × Unit))) (c_s_reader_pick : List Int → Int → Int → Option ((Int × Unit) × ((List Int × Int × Unit) × Unit))) (again1 : ((List Int × Int × Unit) × (Unit × Int × Unit) × ((List (Int × Int × Option (List Int))) × Int × Unit) × Int × Unit) → Option ((((List (Int × Int × List Int)) × Int × Unit) × Unit) × ((List Int × Int × Unit) × Unit))) (r_b : List Int) (r_p : Int) (t2_Root : Int) (g_Nodes : List (Int × Int × Option (List Int))) (g_Root : Int) (i : Int) : Option ((((List (Int × Int × List Int)) × Int × Unit) × Unit) × ((List Int × Int × Unit) × Unit)) :=
  bif decide (i < (len g_Nodes)) then
    (c_s_addKids r_b r_p g_Nodes g_Root i).bind fun r36 =>
    again1 ((r36.2.1.1, r36.2.1.2.1, ()), ((), t2_Root, ()), (r36.1.1.1, r36.1.1.2.1, ()), w64 (i + 1), ())
  else
    (c_s_reader_pick r_b r_p 3).bind fun r38 =>
    bif (r38.1.1 == 0) then
      (c_s_reader_pick r38.2.1.1 r38.2.1.2.1 (len g_Nodes)).bind fun r44 =>
      jn (fun t => B_s_someGraph_J2 k c_s_reader_one c_s_someNode c_s_addKids c_s_reader_pick t.1.1 t.1.2.1 t.2.1.2.1 t.2.2.1.1 t.2.2.1.2.1) ((r44.2.1.1, r44.2.1.2.1, ()), ((), t2_Root, ()), (g_Nodes, r44.1.1, ()), ())
    else
      jn (fun t => B_s_someGraph_J2 k c_s_reader_one c_s_someNode c_s_addKids c_s_reader_pick t.1.1 t.1.2.1 t.2.1.2.1 t.2.2.1.1 t.2.2.1.2.1) ((r38.2.1.1, r38.2.1.2.1, ()), ((), t2_Root, ()), (g_Nodes, g_Root, ()), ())
def B_s_someGraph_L1 (k : Nat) (c_s_reader_one : List Int → Int → List Int → Option ((Int × Unit) × ((List Int × Int × Unit) × Unit))) (c_s_someNode : List Int → Int → Option (((Int × Int × Unit × Unit) × Unit) × ((List Int × Int × Unit) × Unit))) (c_s_addKids : List Int → Int → (List (Int × Int × Option (List Int))) → Int → Int → Option ((((List (Int × Int × Option (List Int))) × Int × Unit) × Unit) × ((List Int × Int × Unit) × Unit))) (c_s_reader_pick : List Int → Int → Int → Option ((Int × Unit) × ((List Int × Int × Unit) × Unit))) (n : Nat) (t : (List Int × Int × Unit) × (Unit × Int × Unit) × ((List (Int × Int × Option (List Int))) × Int × Unit) × Int × Unit) : Option ((((List (Int × Int × List Int)) × Int × Unit) × Unit) × ((List Int × Int × Unit) × Unit)) :=
  lfix n (fun again t => B_s_someGraph_L1b k c_s_reader_one c_s_someNode c_s_addKids c_s_reader_pick again t.1.1 t.1.2.1 t.2.1.2.1 t.2.2.1.1 t.2.2.1.2.1 t.2.2.2.1) t
def B_s_someGraph_L0b (k : Nat) (c_s_reader_one : List Int → Int → List Int → Option ((Int × Unit) × ((List Int × Int × Unit) × Unit))) (c_s_someNode : List Int → Int → Option (((Int × Int × Unit × Unit) × Unit) × ((List Int × Int × Unit) × Unit))) (c_s_addKids : List Int → Int → (List (Int × Int × Option (List Int))) → Int → Int → Option ((((List (Int × Int × Option (List Int))) × Int × Unit) × Unit) × ((List Int × Int × Unit) × Unit))) (c_s_reader_pick : List Int → Int → Int → Option ((Int × Unit) × ((List Int × Int × Unit) × Unit))) (again0 : ((List Int × Int × Unit) × (Unit × Int × Unit) × ((List (Int × Int × Option (List Int))) × Int × Unit) × Int × Unit) → Option ((((List (Int × Int × List Int)) × Int × Unit) × Unit) × ((List Int × Int × Unit) × Unit))) (r_b : List Int) (r_p : Int) (t2_Root : Int) (g_Nodes : List (Int × Int × Option (List Int))) (g_Root : Int) (n4 : Int) : Option ((((List (Int × Int × List Int)) × Int × Unit) × Unit) × ((List Int × Int × Unit) × Unit)) :=
  bif decide (n4 > 0) then
    (c_s_someNode r_b r_p).bind fun r17 =>
    chk (room g_Nodes.length ([(r17.1.1.1, (r17.1.1.2.1, (none : Option (List Int))))]).length) <|
    again0 ((r17.2.1.1, r17.2.1.2.1, ()), ((), t2_Root, ()), ((g_Nodes ++ [(r17.1.1.1, (r17.1.1.2.1, (none : Option (List Int))))]), g_Root, ()), w64 (n4 - 1), ())
  else
    B_s_someGraph_L1 k c_s_reader_one c_s_someNode c_s_addKids c_s_reader_pick k ((r_b, r_p, ()), ((), t2_Root, ()), (g_Nodes, w64 ((len g_Nodes) - 1), ()), 0, ())
def B_s_someGraph_L0 (k : Nat) (c_s_reader_one : List Int → Int → List Int → Option ((Int × Unit) × ((List Int × Int × Unit) × Unit))) (c_s_someNode : List Int → Int → Option (((Int × Int × Unit × Unit) × Unit) × ((List Int × Int × Unit) × Unit))) (c_s_addKids : List Int → Int → (List (Int × Int × Option (List Int))) → Int → Int → Option ((((List (Int × Int × Option (List Int))) × Int × Unit) × Unit) × ((List Int × Int × Unit) × Unit))) (c_s_reader_pick : List Int → Int → Int → Option ((Int × Unit) × ((List Int × Int × Unit) × Unit))) (n : Nat) (t : (List Int × Int × Unit) × (Unit × Int × Unit) × ((List (Int × Int × Option (List Int))) × Int × Unit) × Int × Unit) : Option ((((List (Int × Int × List Int)) × Int × Unit) × Unit) × ((List Int × Int × Unit) × Unit)) :=
  lfix n (fun again t => B_s_someGraph_L0b k c_s_reader_one c_s_someNode c_s_addKids c_s_reader_pick again t.1.1 t.1.2.1 t.2.1.2.1 t.2.2.1.1 t.2.2.1.2.1 t.2.2.2.1) t
def B_s_someGraph (k : Nat) (c_s_reader_one : List Int → Int → List Int → Option ((Int × Unit) × ((List Int × Int × Unit) × Unit))) (c_s_someNode : List Int → Int → Option (((Int × Int × Unit × Unit) × Unit) × ((List Int × Int × Unit) × Unit))) (c_s_addKids : List Int → Int → (List (Int × Int × Option (List Int))) → Int → Int → Option ((((List (Int × Int × Option (List Int))) × Int × Unit) × Unit) × ((List Int × Int × Unit) × Unit))) (c_s_reader_pick : List Int → Int → Int → Option ((Int × Unit) × ((List Int × Int × Unit) × Unit))) (r_b : List Int) (r_p : Int) : Option ((((List (Int × Int × List Int)) × Int × Unit) × Unit) × ((List Int × Int × Unit) × Unit)) :=
  (c_s_reader_one r_b r_p ([5, 6, 4, 7, 3, 8, 1, 2, 10])).bind fun r9 =>
  B_s_someGraph_L0 k c_s_reader_one c_s_someNode c_s_addKids c_s_reader_pick k ((r9.2.1.1, r9.2.1.2.1, ()), ((), 0, ()), ([], 0, ()), r9.1.1, ())
def F_s_someGraph : Nat → List Int → Int → Option ((((List (Int × Int × List Int)) × Int × Unit) × Unit) × ((List Int × Int × Unit) × Unit))
  | 0, _, _ => none
  | k + 1, r_b, r_p => B_s_someGraph k (F_s_reader_one k) (F_s_someNode k) (F_s_addKids k) (F_s_reader_pick k) r_b r_p
theorem F_s_someGraph_succ (k : Nat) (r_b : List Int) (r_p : Int) : F_s_someGraph (k + 1) r_b r_p = B_s_someGraph k (F_s_reader_one k) (F_s_someNode k) (F_s_addKids k) (F_s_reader_pick k) r_b r_p := rfl
theorem tot_s_someGraph {r_b : List Int} {r_p : Int} {Q : (((((List (Int × Int × List Int)) × Int × Unit) × Unit) × ((List Int × Int × Unit) × Unit))) → Prop} (h : Tot (fun σ => B_s_someGraph (σ 0) (F_s_reader_one (σ 0)) (F_s_someNode (σ 0)) (F_s_addKids (σ 0)) (F_s_reader_pick (σ 0)) r_b r_p) Q) : Tot (fun σ => F_s_someGraph (σ 0) r_b r_p) Q :=
  Tot.call (F := fun k => F_s_someGraph k r_b r_p) (B := fun k => B_s_someGraph k (F_s_reader_one k) (F_s_someNode k) (F_s_addKids k) (F_s_reader_pick k) r_b r_p) (fun k => F_s_someGraph_succ k r_b r_p) h
theorem loop_s_someGraph_L1 {Q : List Int → Int → Int → (List (Int × Int × Option (List Int))) → Int → Int → ((((List (Int × Int × List Int)) × Int × Unit) × Unit) × ((List Int × Int × Unit) × Unit)) → Prop} (I : List Int → Int → Int → (List (Int × Int × Option (List Int))) → Int → Int → Prop) (μ : List Int → Int → Int → (List (Int × Int × Option (List Int))) → Int → Int → Nat)
    (step : ∀ (r_b : List Int) (r_p : Int) (t2_Root : Int) (g_Nodes : List (Int × Int × Option (List Int))) (g_Root : Int) (i : Int), I r_b r_p t2_Root g_Nodes g_Root i → ∀ again : (Nat → Nat) → ((List Int × Int × Unit) × (Unit × Int × Unit) × ((List (Int × Int × Option (List Int))) × Int × Unit) × Int × Unit) → Option ((((List (Int × Int × List Int)) × Int × Unit) × Unit) × ((List Int × Int × Unit) × Unit)), Dep 2 again → (∀ (y0 : List Int) (y1 : Int) (y2 : Int) (y3 : List (Int × Int × Option (List Int))) (y4 : Int) (y5 : Int), I y0 y1 y2 y3 y4 y5 → μ y0 y1 y2 y3 y4 y5 < μ r_b r_p t2_Root g_Nodes g_Root i → Tot (fun σ => again σ ((y0, y1, ()), ((), y2, ()), (y3, y4, ()), y5, ())) (Q y0 y1 y2 y3 y4 y5)) →
      Tot (fun σ => B_s_someGraph_L1b (σ 0) (F_s_reader_one (σ 0)) (F_s_someNode (σ 0)) (F_s_addKids (σ 0)) (F_s_reader_pick (σ 0)) (again σ) r_b r_p t2_Root g_Nodes g_Root i) (Q r_b r_p t2_Root g_Nodes g_Root i)) :
    ∀ (r_b : List Int) (r_p : Int) (t2_Root : Int) (g_Nodes : List (Int × Int × Option (List Int))) (g_Root : Int) (i : Int), I r_b r_p t2_Root g_Nodes g_Root i → Tot (fun σ => B_s_someGraph_L1 (σ 0) (F_s_reader_one (σ 0)) (F_s_someNode (σ 0)) (F_s_addKids (σ 0)) (F_s_reader_pick (σ 0)) (σ 0) ((r_b, r_p, ()), ((), t2_Root, ()), (g_Nodes, g_Root, ()), i, ())) (Q r_b r_p t2_Root g_Nodes g_Root i) := fun r_b r_p t2_Root g_Nodes g_Root i hI =>
  Tot.loop (L := fun σ n t => B_s_someGraph_L1 (σ 0) (F_s_reader_one (σ 0)) (F_s_someNode (σ 0)) (F_s_addKids (σ 0)) (F_s_reader_pick (σ 0)) n t) (B := fun σ g t => B_s_someGraph_L1b (σ 0) (F_s_reader_one (σ 0)) (F_s_someNode (σ 0)) (F_s_addKids (σ 0)) (F_s_reader_pick (σ 0)) g t.1.1 t.1.2.1 t.2.1.2.1 t.2.2.1.1 t.2.2.1.2.1 t.2.2.2.1) (Q := fun t => Q t.1.1 t.1.2.1 t.2.1.2.1 t.2.2.1.1 t.2.2.1.2.1 t.2.2.2.1) 1 (by decide)
    (fun s s' h => by have e0 : s 0 = s' 0 := h 0 (by decide); simp only [e0]) (fun s s' h => by have e0 : s 0 = s' 0 := h 0 (by decide); simp only [e0]) (fun _ _ _ => rfl) (fun t => I t.1.1 t.1.2.1 t.2.1.2.1 t.2.2.1.1 t.2.2.1.2.1 t.2.2.2.1) (fun t => μ t.1.1 t.1.2.1 t.2.1.2.1 t.2.2.1.1 t.2.2.1.2.1 t.2.2.2.1)
    (fun t ht again hag h => step t.1.1 t.1.2.1 t.2.1.2.1 t.2.2.1.1 t.2.2.1.2.1 t.2.2.2.1 ht again hag (fun y0 y1 y2 y3 y4 y5 hI hm => h ((y0, y1, ()), ((), y2, ()), (y3, y4, ()), y5, ()) hI hm)) ((r_b, r_p, ()), ((), t2_Root, ()), (g_Nodes, g_Root, ()), i, ()) hI
theorem loop_s_someGraph_L0 {Q : List Int → Int → Int → (List (Int × Int × Option (List Int))) → Int → Int → ((((List (Int × Int × List Int)) × Int × Unit) × Unit) × ((List Int × Int × Unit) × Unit)) → Prop} (I : List Int → Int → Int → (List (Int × Int × Option (List Int))) → Int → Int → Prop) (μ : List Int → Int → Int → (List (Int × Int × Option (List Int))) → Int → Int → Nat)
    (step : ∀ (r_b : List Int) (r_p : Int) (t2_Root : Int) (g_Nodes : List (Int × Int × Option (List Int))) (g_Root : Int) (n4 : Int), I r_b r_p t2_Root g_Nodes g_Root n4 → ∀ again : (Nat → Nat) → ((List Int × Int × Unit) × (Unit × Int × Unit) × ((List (Int × Int × Option (List Int))) × Int × Unit) × Int × Unit) → Option ((((List (Int × Int × List Int)) × Int × Unit) × Unit) × ((List Int × Int × Unit) × Unit)), Dep 2 again → (∀ (y0 : List Int) (y1 : Int) (y2 : Int) (y3 : List (Int × Int × Option (List Int))) (y4 : Int) (y5 : Int), I y0 y1 y2 y3 y4 y5 → μ y0 y1 y2 y3 y4 y5 < μ r_b r_p t2_Root g_Nodes g_Root n4 → Tot (fun σ => again σ ((y0, y1, ()), ((), y2, ()), (y3, y4, ()), y5, ())) (Q y0 y1 y2 y3 y4 y5)) →
      Tot (fun σ => B_s_someGraph_L0b (σ 0) (F_s_reader_one (σ 0)) (F_s_someNode (σ 0)) (F_s_addKids (σ 0)) (F_s_reader_pick (σ 0)) (again σ) r_b r_p t2_Root g_Nodes g_Root n4) (Q r_b r_p t2_Root g_Nodes g_Root n4)) :
    ∀ (r_b : List Int) (r_p : Int) (t2_Root : Int) (g_Nodes : List (Int × Int × Option (List Int))) (g_Root : Int) (n4 : Int), I r_b r_p t2_Root g_Nodes g_Root n4 → Tot (fun σ => B_s_someGraph_L0 (σ 0) (F_s_reader_one (σ 0)) (F_s_someNode (σ 0)) (F_s_addKids (σ 0)) (F_s_reader_pick (σ 0)) (σ 0) ((r_b, r_p, ()), ((), t2_Root, ()), (g_Nodes, g_Root, ()), n4, ())) (Q r_b r_p t2_Root g_Nodes g_Root n4) := fun r_b r_p t2_Root g_Nodes g_Root n4 hI =>
  Tot.loop (L := fun σ n t => B_s_someGraph_L0 (σ 0) (F_s_reader_one (σ 0)) (F_s_someNode (σ 0)) (F_s_addKids (σ 0)) (F_s_reader_pick (σ 0)) n t) (B := fun σ g t => B_s_someGraph_L0b (σ 0) (F_s_reader_one (σ 0)) (F_s_someNode (σ 0)) (F_s_addKids (σ 0)) (F_s_reader_pick (σ 0)) g t.1.1 t.1.2.1 t.2.1.2.1 t.2.2.1.1 t.2.2.1.2.1 t.2.2.2.1) (Q := fun t => Q t.1.1 t.1.2.1 t.2.1.2.1 t.2.2.1.1 t.2.2.1.2.1 t.2.2.2.1) 1 (by decide)
    (fun s s' h => by have e0 : s 0 = s' 0 := h 0 (by decide); simp only [e0]) (fun s s' h => by have e0 : s 0 = s' 0 := h 0 (by decide); simp only [e0]) (fun _ _ _ => rfl) (fun t => I t.1.1 t.1.2.1 t.2.1.2.1 t.2.2.1.1 t.2.2.1.2.1 t.2.2.2.1) (fun t => μ t.1.1 t.1.2.1 t.2.1.2.1 t.2.2.1.1 t.2.2.1.2.1 t.2.2.2.1)
    (fun t ht again hag h => step t.1.1 t.1.2.1 t.2.1.2.1 t.2.2.1.1 t.2.2.1.2.1 t.2.2.2.1 ht again hag (fun y0 y1 y2 y3 y4 y5 hI hm => h ((y0, y1, ()), ((), y2, ()), (y3, y4, ()), y5, ()) hI hm)) ((r_b, r_p, ()), ((), t2_Root, ()), (g_Nodes, g_Root, ()), n4, ()) hI
def B_s_emptyMemo_L0b (k : Nat) (again0 : (((List (Int × Int × List Int)) × Int × Unit) × List Int × Int × Unit) → Option ((List Int × Unit) × (Unit))) (g_Nodes : List (Int × Int × List Int)) (g_Root : Int) (out : List Int) (i : Int) : Option ((List Int × Unit) × (Unit)) :=
  bif decide (i < (len g_Nodes)) then
    chk (room out.length ([(-1)]).length) <|
    again0 ((g_Nodes, g_Root, ()), (out ++ [(-1)]), w64 (i + 1), ())
  else
    some ((out, ()), ())
def B_s_emptyMemo_L0 (k : Nat) (n : Nat) (t : ((List (Int × Int × List Int)) × Int × Unit) × List Int × Int × Unit) : Option ((List Int × Unit) × (Unit)) :=
  lfix n (fun again t => B_s_emptyMemo_L0b k again t.1.1 t.1.2.1 t.2.1 t.2.2.1) t
def B_s_emptyMemo (k : Nat) (g_0 : List (Int × Int × List Int)) (g_1 : Int) : Option ((List Int × Unit) × (Unit)) :=
  B_s_emptyMemo_L0 k k ((g_0, g_1, ()), [], 0, ())
def F_s_emptyMemo : Nat → (List (Int × Int × List Int)) → Int → Option ((List Int × Unit) × (Unit))
  | 0, _, _ => none
  | k + 1, g_0, g_1 => B_s_emptyMemo k g_0 g_1
theorem F_s_emptyMemo_succ (k : Nat) (g_0 : List (Int × Int × List Int)) (g_1 : Int) : F_s_emptyMemo (k + 1) g_0 g_1 = B_s_emptyMemo k g_0 g_1 := rfl
theorem tot_s_emptyMemo {g_0 : List (Int × Int × List Int)} {g_1 : Int} {Q : (((List Int × Unit) × (Unit))) → Prop} (h : Tot (fun σ => B_s_emptyMemo (σ 0) g_0 g_1) Q) : Tot (fun σ => F_s_emptyMemo (σ 0) g_0 g_1) Q :=
  Tot.call (F := fun k => F_s_emptyMemo k g_0 g_1) (B := fun k => B_s_emptyMemo k g_0 g_1) (fun k => F_s_emptyMemo_succ k g_0 g_1) h
theorem loop_s_emptyMemo_L0 {Q : (List (Int × Int × List Int)) → Int → List Int → Int → ((List Int × Unit) × (Unit)) → Prop} (I : (List (Int × Int × List Int)) → Int → List Int → Int → Prop) (μ : (List (Int × Int × List Int)) → Int → List Int → Int → Nat)
    (step : ∀ (g_Nodes : List (Int × Int × List Int)) (g_Root : Int) (out : List Int) (i : Int), I g_Nodes g_Root out i → ∀ again : (Nat → Nat) → (((List (Int × Int × List Int)) × Int × Unit) × List Int × Int × Unit) → Option ((List Int × Unit) × (Unit)), Dep 2 again → (∀ (y0 : List (Int × Int × List Int)) (y1 : Int) (y2 : List Int) (y3 : Int), I y0 y1 y2 y3 → μ y0 y1 y2 y3 < μ g_Nodes g_Root out i → Tot (fun σ => again σ ((y0, y1, ()), y2, y3, ())) (Q y0 y1 y2 y3)) →
      Tot (fun σ => B_s_emptyMemo_L0b (σ 0) (again σ) g_Nodes g_Root out i) (Q g_Nodes g_Root out i)) :
    ∀ (g_Nodes : List (Int × Int × List Int)) (g_Root : Int) (out : List Int) (i : Int), I g_Nodes g_Root out i → Tot (fun σ => B_s_emptyMemo_L0 (σ 0) (σ 0) ((g_Nodes, g_Root, ()), out, i, ())) (Q g_Nodes g_Root out i) := fun g_Nodes g_Root out i hI =>
  Tot.loop (L := fun σ n t => B_s_emptyMemo_L0 (σ 0) n t) (B := fun σ g t => B_s_emptyMemo_L0b (σ 0) g t.1.1 t.1.2.1 t.2.1 t.2.2.1) (Q := fun t => Q t.1.1 t.1.2.1 t.2.1 t.2.2.1) 1 (by decide)
    (fun s s' h => by have e0 : s 0 = s' 0 := h 0 (by decide); simp only [e0]) (fun s s' h => by have e0 : s 0 = s' 0 := h 0 (by decide); simp only [e0]) (fun _ _ _ => rfl) (fun t => I t.1.1 t.1.2.1 t.2.1 t.2.2.1) (fun t => μ t.1.1 t.1.2.1 t.2.1 t.2.2.1)
    (fun t ht again hag h => step t.1.1 t.1.2.1 t.2.1 t.2.2.1 ht again hag (fun y0 y1 y2 y3 hI hm => h ((y0, y1, ()), y2, y3, ()) hI hm)) ((g_Nodes, g_Root, ()), out, i, ()) hI
def B_s_emit (k : Nat) (ops : List (Int × Int)) (more1 : List (Int × Int)) : Option (((List (Int × Int)) × Unit) × (Unit)) :=
  chk (room ([] : List (Int × Int)).length ops.length) <|
  chk (room ops.length more1.length) <|
  some (((ops ++ more1), ()), ())
def F_s_emit : Nat → (List (Int × Int)) → (List (Int × Int)) → Option (((List (Int × Int)) × Unit) × (Unit))
  | 0, _, _ => none
  | k + 1, ops, more1 => B_s_emit k ops more1
theorem F_s_emit_succ (k : Nat) (ops : List (Int × Int)) (more1 : List (Int × Int)) : F_s_emit (k + 1) ops more1 = B_s_emit k ops more1 := rfl
theorem tot_s_emit {ops : List (Int × Int)} {more1 : List (Int × Int)} {Q : ((((List (Int × Int)) × Unit) × (Unit))) → Prop} (h : Tot (fun σ => B_s_emit (σ 0) ops more1) Q) : Tot (fun σ => F_s_emit (σ 0) ops more1) Q :=
  Tot.call (F := fun k => F_s_emit k ops more1) (B := fun k => B_s_emit k ops more1) (fun k => F_s_emit_succ k ops more1) h
def B_s_memoed_J0 (k : Nat) (c_s_copyInts : List Int → Option ((List Int × Unit) × (Unit))) (c_s_emit : (List (Int × Int)) → (List (Int × Int)) → Option (((List (Int × Int)) × Unit) × (Unit))) (again1 : ((List (Int × Int)) × List Int × Int × Int × Int × Unit) → Option (((List (Int × Int)) × List Int × Unit) × (Unit))) (ops : List (Int × Int)) (memo : List Int) (at2 : Int) (next : Int) (i : Int) : Option (((List (Int × Int)) × List Int × Unit) × (Unit)) :=
  again1 (ops, memo, at2, next, w64 (i + 1), ())
def B_s_memoed_L1b (k : Nat) (c_s_copyInts : List Int → Option ((List Int × Unit) × (Unit))) (c_s_emit : (List (Int × Int)) → (List (Int × Int)) → Option (((List (Int × Int)) × Unit) × (Unit))) (again1 : ((List (Int × Int)) × List Int × Int × Int × Int × Unit) → Option (((List (Int × Int)) × List Int × Unit) × (Unit))) (ops : List (Int × Int)) (memo : List Int) (at2 : Int) (next : Int) (i : Int) : Option (((List (Int × Int)) × List Int × Unit) × (Unit)) :=
  bif decide (i < (len memo)) then
    chk (inb i memo.length) <|
    bif decide ((rdx (0 : Int) memo i) ≥ 0) then
      jn (fun t => B_s_memoed_J0 k c_s_copyInts c_s_emit again1 t.1 t.2.1 t.2.2.1 t.2.2.2.1 t.2.2.2.2.1) (ops, memo, at2, w64 (next + 1), i, ())
    else
      jn (fun t => B_s_memoed_J0 k c_s_copyInts c_s_emit again1 t.1 t.2.1 t.2.2.1 t.2.2.2.1 t.2.2.2.2.1) (ops, memo, at2, next, i, ())
  else
    (c_s_copyInts memo).bind fun r24 =>
    chk (inb at2 r24.1.1.length) <|
    chk (decide (at2.toNat < r24.1.1.length)) <|
    (c_s_emit ops ([(15, next)])).bind fun r33 =>
    some ((r33.1.1, (r24.1.1.set at2.toNat next), ()), ())
def B_s_memoed_L1 (k : Nat) (c_s_copyInts : List Int → Option ((List Int × Unit) × (Unit))) (c_s_emit : (List (Int × Int)) → (List (Int × Int)) → Option (((List (Int × Int)) × Unit) × (Unit))) (n : Nat) (t : (List (Int × Int)) × List Int × Int × Int × Int × Unit) : Option (((List (Int × Int)) × List Int × Unit) × (Unit)) :=
  lfix n (fun again t => B_s_memoed_L1b k c_s_copyInts c_s_emit again t.1 t.2.1 t.2.2.1 t.2.2.2.1 t.2.2.2.2.1) t
def B_s_memoed (k : Nat) (c_s_copyInts : List Int → Option ((List Int × Unit) × (Unit))) (c_s_emit : (List (Int × Int)) → (List (Int × Int)) → Option (((List (Int × Int)) × Unit) × (Unit))) (ops : List (Int × Int)) (memo : List Int) (at2 : Int) : Option (((List (Int × Int)) × List Int × Unit) × (Unit)) :=
  B_s_memoed_L1 k c_s_copyInts c_s_emit k (ops, memo, at2, 0, 0, ())
def F_s_memoed : Nat → (List (Int × Int)) → List Int → Int → Option (((List (Int × Int)) × List Int × Unit) × (Unit))
  | 0, _, _, _ => none
  | k + 1, ops, memo, at2 => B_s_memoed k (F_s_copyInts k) (F_s_emit k) ops memo at2
theorem F_s_memoed_succ (k : Nat) (ops : List (Int × Int)) (memo : List Int) (at2 : Int) : F_s_memoed (k + 1) ops memo at2 = B_s_memoed k (F_s_copyInts k) (F_s_emit k) ops memo at2 := rfl
theorem tot_s_memoed {ops : List (Int × Int)} {memo : List Int} {at2 : Int} {Q : ((((List (Int × Int)) × List Int × Unit) × (Unit))) → Prop} (h : Tot (fun σ => B_s_memoed (σ 0) (F_s_copyInts (σ 0)) (F_s_emit (σ 0)) ops memo at2) Q) : Tot (fun σ => F_s_memoed (σ 0) ops memo at2) Q :=
  Tot.call (F := fun k => F_s_memoed k ops memo at2) (B := fun k => B_s_memoed k (F_s_copyInts k) (F_s_emit k) ops memo at2) (fun k => F_s_memoed_succ k ops memo at2) h
theorem loop_s_memoed_L1 {Q : (List (Int × Int)) → List Int → Int → Int → Int → (((List (Int × Int)) × List Int × Unit) × (Unit)) → Prop} (I : (List (Int × Int)) → List Int → Int → Int → Int → Prop) (μ : (List (Int × Int)) → List Int → Int → Int → Int → Nat)
    (step : ∀ (ops : List (Int × Int)) (memo : List Int) (at2 : Int) (next : Int) (i : Int), I ops memo at2 next i → ∀ again : (Nat → Nat) → ((List (Int × Int)) × List Int × Int × Int × Int × Unit) → Option (((List (Int × Int)) × List Int × Unit) × (Unit)), Dep 2 again → (∀ (y0 : List (Int × Int)) (y1 : List Int) (y2 : Int) (y3 : Int) (y4 : Int), I y0 y1 y2 y3 y4 → μ y0 y1 y2 y3 y4 < μ ops memo at2 next i → Tot (fun σ => again σ (y0, y1, y2, y3, y4, ())) (Q y0 y1 y2 y3 y4)) →
      Tot (fun σ => B_s_memoed_L1b (σ 0) (F_s_copyInts (σ 0)) (F_s_emit (σ 0)) (again σ) ops memo at2 next i) (Q ops memo at2 next i)) :
    ∀ (ops : List (Int × Int)) (memo : List Int) (at2 : Int) (next : Int) (i : Int), I ops memo at2 next i → Tot (fun σ => B_s_memoed_L1 (σ 0) (F_s_copyInts (σ 0)) (F_s_emit (σ 0)) (σ 0) (ops, memo, at2, next, i, ())) (Q ops memo at2 next i) := fun ops memo at2 next i hI =>
  Tot.loop (L := fun σ n t => B_s_memoed_L1 (σ 0) (F_s_copyInts (σ 0)) (F_s_emit (σ 0)) n t) (B := fun σ g t => B_s_memoed_L1b (σ 0) (F_s_copyInts (σ 0)) (F_s_emit (σ 0)) g t.1 t.2.1 t.2.2.1 t.2.2.2.1 t.2.2.2.2.1) (Q := fun t => Q t.1 t.2.1 t.2.2.1 t.2.2.2.1 t.2.2.2.2.1) 1 (by decide)
    (fun s s' h => by have e0 : s 0 = s' 0 := h 0 (by decide); simp only [e0]) (fun s s' h => by have e0 : s 0 = s' 0 := h 0 (by decide); simp only [e0]) (fun _ _ _ => rfl) (fun t => I t.1 t.2.1 t.2.2.1 t.2.2.2.1 t.2.2.2.2.1) (fun t => μ t.1 t.2.1 t.2.2.1 t.2.2.2.1 t.2.2.2.2.1)
    (fun t ht again hag h => step t.1 t.2.1 t.2.2.1 t.2.2.2.1 t.2.2.2.2.1 ht again hag (fun y0 y1 y2 y3 y4 hI hm => h (y0, y1, y2, y3, y4, ()) hI hm)) (ops, memo, at2, next, i, ()) hI
def B_s_saveAll_L0b (k : Nat) (c_s_save : (List (Int × Int × List Int)) → Int → Int → Int → (List (Int × Int)) → List Int → Option (((List (Int × Int)) × List Int × Unit) × (Unit))) (again0 : (Int × List Int × (List (Int × Int)) × List Int × ((List (Int × Int × List Int)) × Int × Unit) × Int × Unit) → Option (((List (Int × Int)) × List Int × Unit) × (Unit))) (level : Int) (list : List Int) (ops : List (Int × Int)) (memo : List Int) (g_Nodes : List (Int × Int × List Int)) (g_Root : Int) (i : Int) : Option (((List (Int × Int)) × List Int × Unit) × (Unit)) :=
  bif decide (i < (len list)) then
    chk (inb i list.length) <|
    (c_s_save g_Nodes g_Root level (rdx (0 : Int) list i) ops memo).bind fun r28 =>
    again0 (level, list, r28.1.1, r28.1.2.1, (g_Nodes, g_Root, ()), w64 (i + 1), ())
  else
    some ((ops, memo, ()), ())
def B_s_saveAll_L0 (k : Nat) (c_s_save : (List (Int × Int × List Int)) → Int → Int → Int → (List (Int × Int)) → List Int → Option (((List (Int × Int)) × List Int × Unit) × (Unit))) (n : Nat) (t : Int × List Int × (List (Int × Int)) × List Int × ((List (Int × Int × List Int)) × Int × Unit) × Int × Unit) : Option (((List (Int × Int)) × List Int × Unit) × (Unit)) :=
  lfix n (fun again t => B_s_saveAll_L0b k c_s_save again t.1 t.2.1 t.2.2.1 t.2.2.2.1 t.2.2.2.2.1.1 t.2.2.2.2.1.2.1 t.2.2.2.2.2.1) t
def B_s_saveAll (k : Nat) (c_s_save : (List (Int × Int × List Int)) → Int → Int → Int → (List (Int × Int)) → List Int → Option (((List (Int × Int)) × List Int × Unit) × (Unit))) (g_0 : List (Int × Int × List Int)) (g_1 : Int) (level : Int) (list : List Int) (ops : List (Int × Int)) (memo : List Int) : Option (((List (Int × Int)) × List Int × Unit) × (Unit)) :=
  B_s_saveAll_L0 k c_s_save k (level, list, ops, memo, (g_0, g_1, ()), 0, ())
def B_s_saveTuple_J4 (k : Nat) (c_s_emit : (List (Int × Int)) → (List (Int × Int)) → Option (((List (Int × Int)) × Unit) × (Unit))) (c_s_memoed : (List (Int × Int)) → List Int → Int → Option (((List (Int × Int)) × List Int × Unit) × (Unit))) (c_s_saveAll : (List (Int × Int × List Int)) → Int → Int → List Int → (List (Int × Int)) → List Int → Option (((List (Int × Int)) × List Int × Unit) × (Unit))) (at2 : Int) (ops : List (Int × Int)) (memo : List Int) : Option (((List (Int × Int)) × List Int × Unit) × (Unit)) :=
  chk (inb at2 memo.length) <|
  (c_s_emit ops ([(16, (rdx (0 : Int) memo at2))])).bind fun r87 =>
  some ((r87.1.1, memo, ()), ())
def B_s_saveTuple_J2 (k : Nat) (c_s_emit : (List (Int × Int)) → (List (Int × Int)) → Option (((List (Int × Int)) × Unit) × (Unit))) (c_s_memoed : (List (Int × Int)) → List Int → Int → Option (((List (Int × Int)) × List Int × Unit) × (Unit))) (c_s_saveAll : (List (Int × Int × List Int)) → Int → Int → List Int → (List (Int × Int)) → List Int → Option (((List (Int × Int)) × List Int × Unit) × (Unit))) (again3 : (Int × (List (Int × Int)) × List Int × List Int × Bool × Int × Unit) → Option (((List (Int × Int)) × List Int × Unit) × (Unit))) (at2 : Int) (ops : List (Int × Int)) (memo : List Int) (kids : List Int) (short : Bool) (i : Int) (t67 : Bool) : Option (((List (Int × Int)) × List Int × Unit) × (Unit)) :=
  bif t67 then
    (c_s_emit ops ([(17, 0)])).bind fun r73 =>
    again3 (at2, r73.1.1, memo, kids, short, w64 (i + 1), ())
  else
    bif (!short) then
      (c_s_emit ops ([(18, 0)])).bind fun r79 =>
      jn (fun t => B_s_saveTuple_J4 k c_s_emit c_s_memoed c_s_saveAll t.1 t.2.1 t.2.2.1) (at2, r79.1.1, memo, ())
    else
      jn (fun t => B_s_saveTuple_J4 k c_s_emit c_s_memoed c_s_saveAll t.1 t.2.1 t.2.2.1) (at2, ops, memo, ())
def B_s_saveTuple_L3b (k : Nat) (c_s_emit : (List (Int × Int)) → (List (Int × Int)) → Option (((List (Int × Int)) × Unit) × (Unit))) (c_s_memoed : (List (Int × Int)) → List Int → Int → Option (((List (Int × Int)) × List Int × Unit) × (Unit))) (c_s_saveAll : (List (Int × Int × List Int)) → Int → Int → List Int → (List (Int × Int)) → List Int → Option (((List (Int × Int)) × List Int × Unit) × (Unit))) (again3 : (Int × (List (Int × Int)) × List Int × List Int × Bool × Int × Unit) → Option (((List (Int × Int)) × List Int × Unit) × (Unit))) (at2 : Int) (ops : List (Int × Int)) (memo : List Int) (kids : List Int) (short : Bool) (i : Int) : Option (((List (Int × Int)) × List Int × Unit) × (Unit)) :=
  bif decide (i < (len kids)) then
    jn (fun t => B_s_saveTuple_J2 k c_s_emit c_s_memoed c_s_saveAll again3 t.1 t.2.1 t.2.2.1 t.2.2.2.1 t.2.2.2.2.1 t.2.2.2.2.2.1 t.2.2.2.2.2.2.1) (at2, ops, memo, kids, short, i, short, ())
  else
    jn (fun t => B_s_saveTuple_J2 k c_s_emit c_s_memoed c_s_saveAll again3 t.1 t.2.1 t.2.2.1 t.2.2.2.1 t.2.2.2.2.1 t.2.2.2.2.2.1 t.2.2.2.2.2.2.1) (at2, ops, memo, kids, short, i, false, ())
def B_s_saveTuple_L3 (k : Nat) (c_s_emit : (List (Int × Int)) → (List (Int × Int)) → Option (((List (Int × Int)) × Unit) × (Unit))) (c_s_memoed : (List (Int × Int)) → List Int → Int → Option (((List (Int × Int)) × List Int × Unit) × (Unit))) (c_s_saveAll : (List (Int × Int × List Int)) → Int → Int → List Int → (List (Int × Int)) → List Int → Option (((List (Int × Int)) × List Int × Unit) × (Unit))) (n : Nat) (t : Int × (List (Int × Int)) × List Int × List Int × Bool × Int × Unit) : Option (((List (Int × Int)) × List Int × Unit) × (Unit)) :=
  lfix n (fun again t => B_s_saveTuple_L3b k c_s_emit c_s_memoed c_s_saveAll again t.1 t.2.1 t.2.2.1 t.2.2.2.1 t.2.2.2.2.1 t.2.2.2.2.2.1) t
def B_s_saveTuple_J5 (k : Nat) (c_s_emit : (List (Int × Int)) → (List (Int × Int)) → Option (((List (Int × Int)) × Unit) × (Unit))) (c_s_memoed : (List (Int × Int)) → List Int → Int → Option (((List (Int × Int)) × List Int × Unit) × (Unit))) (c_s_saveAll : (List (Int × Int × List Int)) → Int → Int → List Int → (List (Int × Int)) → List Int → Option (((List (Int × Int)) × List Int × Unit) × (Unit))) (at2 : Int) (ops : List (Int × Int)) (memo : List Int) (c : Int) : Option (((List (Int × Int)) × List Int × Unit) × (Unit)) :=
  (c_s_emit ops ([(c, 0)])).bind fun r97 =>
  (c_s_memoed r97.1.1 memo at2).bind fun r100 =>
  some ((r100.1.1, r100.1.2.1, ()), ())
def B_s_saveTuple_J1 (k : Nat) (c_s_emit : (List (Int × Int)) → (List (Int × Int)) → Option (((List (Int × Int)) × Unit) × (Unit))) (c_s_memoed : (List (Int × Int)) → List Int → Int → Option (((List (Int × Int)) × List Int × Unit) × (Unit))) (c_s_saveAll : (List (Int × Int × List Int)) → Int → Int → List Int → (List (Int × Int)) → List Int → Option (((List (Int × Int)) × List Int × Unit) × (Unit))) (level : Int) (at2 : Int) (ops : List (Int × Int)) (memo : List Int) (g_Nodes : List (Int × Int × List Int)) (g_Root : Int) (kids : List Int) (short : Bool) : Option (((List (Int × Int)) × List Int × Unit) × (Unit)) :=
  (c_s_saveAll g_Nodes g_Root level kids ops memo).bind fun r53 =>
  chk (inb at2 r53.1.2.1.length) <|
  bif decide ((rdx (0 : Int) r53.1.2.1 at2) ≥ 0) then
    B_s_saveTuple_L3 k c_s_emit c_s_memoed c_s_saveAll k (at2, r53.1.1, r53.1.2.1, kids, short, 0, ())
  else
    bif short then
      jn (fun t => B_s_saveTuple_J5 k c_s_emit c_s_memoed c_s_saveAll t.1 t.2.1 t.2.2.1 t.2.2.2.1) (at2, r53.1.1, r53.1.2.1, w64 (4 + (len kids)), ())
    else
      jn (fun t => B_s_saveTuple_J5 k c_s_emit c_s_memoed c_s_saveAll t.1 t.2.1 t.2.2.1 t.2.2.2.1) (at2, r53.1.1, r53.1.2.1, 3, ())
def B_s_saveTuple_J0 (k : Nat) (c_s_emit : (List (Int × Int)) → (List (Int × Int)) → Option (((List (Int × Int)) × Unit) × (Unit))) (c_s_memoed : (List (Int × Int)) → List Int → Int → Option (((List (Int × Int)) × List Int × Unit) × (Unit))) (c_s_saveAll : (List (Int × Int × List Int)) → Int → Int → List Int → (List (Int × Int)) → List Int → Option (((List (Int × Int)) × List Int × Unit) × (Unit))) (level : Int) (at2 : Int) (ops : List (Int × Int)) (memo : List Int) (g_Nodes : List (Int × Int × List Int)) (g_Root : Int) (kids : List Int) (short : Bool) : Option (((List (Int × Int)) × List Int × Unit) × (Unit)) :=
  bif (!short) then
    (c_s_emit ops ([(2, 0)])).bind fun r46 =>
    jn (fun t => B_s_saveTuple_J1 k c_s_emit c_s_memoed c_s_saveAll t.1 t.2.1 t.2.2.1 t.2.2.2.1 t.2.2.2.2.1.1 t.2.2.2.2.1.2.1 t.2.2.2.2.2.1 t.2.2.2.2.2.2.1) (level, at2, r46.1.1, memo, (g_Nodes, g_Root, ()), kids, short, ())
  else
    jn (fun t => B_s_saveTuple_J1 k c_s_emit c_s_memoed c_s_saveAll t.1 t.2.1 t.2.2.1 t.2.2.2.1 t.2.2.2.2.1.1 t.2.2.2.2.1.2.1 t.2.2.2.2.2.1 t.2.2.2.2.2.2.1) (level, at2, ops, memo, (g_Nodes, g_Root, ()), kids, short, ())
def B_s_saveTuple (k : Nat) (c_s_emit : (List (Int × Int)) → (List (Int × Int)) → Option (((List (Int × Int)) × Unit) × (Unit))) (c_s_memoed : (List (Int × Int)) → List Int → Int → Option (((List (Int × Int)) × List Int × Unit) × (Unit))) (c_s_saveAll : (List (Int × Int × List Int)) → Int → Int → List Int → (List (Int × Int)) → List Int → Option (((List (Int × Int)) × List Int × Unit) × (Unit))) (g_0 : List (Int × Int × List Int)) (g_1 : Int) (level : Int) (at2 : Int) (ops : List (Int × Int)) (memo : List Int) : Option (((List (Int × Int)) × List Int × Unit) × (Unit)) :=
  chk (inb at2 g_0.length) <|
  bif ((len (((rdx ((0 : Int), ((0 : Int), ([] : List Int))) g_0 at2).2).2)) == 0) then
    (c_s_emit ops ([(4, 0)])).bind fun r28 =>
    (c_s_memoed r28.1.1 memo at2).bind fun r31 =>
    some ((r31.1.1, r31.1.2.1, ()), ())
  else
    bif decide (level > 0) then
      jn (fun t => B_s_saveTuple_J0 k c_s_emit c_s_memoed c_s_saveAll t.1 t.2.1 t.2.2.1 t.2.2.2.1 t.2.2.2.2.1.1 t.2.2.2.2.1.2.1 t.2.2.2.2.2.1 t.2.2.2.2.2.2.1) (level, at2, ops, memo, (g_0, g_1, ()), ((rdx ((0 : Int), ((0 : Int), ([] : List Int))) g_0 at2).2).2, decide ((len (((rdx ((0 : Int), ((0 : Int), ([] : List Int))) g_0 at2).2).2)) ≤ 2), ())
    else
      jn (fun t => B_s_saveTuple_J0 k c_s_emit c_s_memoed c_s_saveAll t.1 t.2.1 t.2.2.1 t.2.2.2.1 t.2.2.2.2.1.1 t.2.2.2.2.1.2.1 t.2.2.2.2.2.1 t.2.2.2.2.2.2.1) (level, at2, ops, memo, (g_0, g_1, ()), ((rdx ((0 : Int), ((0 : Int), ([] : List Int))) g_0 at2).2).2, false, ())
def B_s_fill_L1b (k : Nat) (c_s_emit : (List (Int × Int)) → (List (Int × Int)) → Option (((List (Int × Int)) × Unit) × (Unit))) (c_s_saveAll : (List (Int × Int × List Int)) → Int → Int → List Int → (List (Int × Int)) → List Int → Option (((List (Int × Int)) × List Int × Unit) × (Unit))) (again1 : (Int × List Int × Int × Int × (List (Int × Int)) × List Int × ((List (Int × Int × List Int)) × Int × Unit) × Int × Unit) → Option (((List (Int × Int)) × List Int × Unit) × (Unit))) (level : Int) (kids : List Int) (each : Int) (one : Int) (ops : List (Int × Int)) (memo : List Int) (g_Nodes : List (Int × Int × List Int)) (g_Root : Int) (i : Int) : Option (((List (Int × Int)) × List Int × Unit) × (Unit)) :=
  bif decide (i < (len kids)) then
    chk (cutb i (w64 (i + each)) kids.length) <|
    (c_s_saveAll g_Nodes g_Root level (sub kids i (w64 (i + each))) ops memo).bind fun r64 =>
    (c_s_emit r64.1.1 ([(one, 0)])).bind fun r71 =>
    again1 (level, kids, each, one, r71.1.1, r64.1.2.1, (g_Nodes, g_Root, ()), w64 (i + each), ())
  else
    some ((ops, memo, ()), ())
def B_s_fill_L1 (k : Nat) (c_s_emit : (List (Int × Int)) → (List (Int × Int)) → Option (((List (Int × Int)) × Unit) × (Unit))) (c_s_saveAll : (List (Int × Int × List Int)) → Int → Int → List Int → (List (Int × Int)) → List Int → Option (((List (Int × Int)) × List Int × Unit) × (Unit))) (n : Nat) (t : Int × List Int × Int × Int × (List (Int × Int)) × List Int × ((List (Int × Int × List Int)) × Int × Unit) × Int × Unit) : Option (((List (Int × Int)) × List Int × Unit) × (Unit)) :=
  lfix n (fun again t => B_s_fill_L1b k c_s_emit c_s_saveAll again t.1 t.2.1 t.2.2.1 t.2.2.2.1 t.2.2.2.2.1 t.2.2.2.2.2.1 t.2.2.2.2.2.2.1.1 t.2.2.2.2.2.2.1.2.1 t.2.2.2.2.2.2.2.1) t
def B_s_fill_J0 (k : Nat) (c_s_emit : (List (Int × Int)) → (List (Int × Int)) → Option (((List (Int × Int)) × Unit) × (Unit))) (c_s_saveAll : (List (Int × Int × List Int)) → Int → Int → List Int → (List (Int × Int)) → List Int → Option (((List (Int × Int)) × List Int × Unit) × (Unit))) (level : Int) (kids : List Int) (each : Int) (one : Int) (all : Int) (ops : List (Int × Int)) (memo : List Int) (g_Nodes : List (Int × Int × List Int)) (g_Root : Int) (t26 : Bool) : Option (((List (Int × Int)) × List Int × Unit) × (Unit)) :=
  bif t26 then
    (c_s_emit ops ([(2, 0)])).bind fun r30 =>
    (c_s_saveAll g_Nodes g_Root level kids r30.1.1 memo).bind fun r37 =>
    (c_s_emit r37.1.1 ([(all, 0)])).bind fun r44 =>
    some ((r44.1.1, r37.1.2.1, ()), ())
  else
    B_s_fill_L1 k c_s_emit c_s_saveAll k (level, kids, each, one, ops, memo, (g_Nodes, g_Root, ()), 0, ())
def B_s_fill (k : Nat) (c_s_emit : (List (Int × Int)) → (List (Int × Int)) → Option (((List (Int × Int)) × Unit) × (Unit))) (c_s_saveAll : (List (Int × Int × List Int)) → Int → Int → List Int → (List (Int × Int)) → List Int → Option (((List (Int × Int)) × List Int × Unit) × (Unit))) (g_0 : List (Int × Int × List Int)) (g_1 : Int) (level : Int) (kids : List Int) (each : Int) (one : Int) (all : Int) (ops : List (Int × Int)) (memo : List Int) : Option (((List (Int × Int)) × List Int × Unit) × (Unit)) :=
  bif decide (level > 0) then
    jn (fun t => B_s_fill_J0 k c_s_emit c_s_saveAll t.1 t.2.1 t.2.2.1 t.2.2.2.1 t.2.2.2.2.1 t.2.2.2.2.2.1 t.2.2.2.2.2.2.1 t.2.2.2.2.2.2.2.1.1 t.2.2.2.2.2.2.2.1.2.1 t.2.2.2.2.2.2.2.2.1) (level, kids, each, one, all, ops, memo, (g_0, g_1, ()), decide ((len kids) > each), ())
  else
    jn (fun t => B_s_fill_J0 k c_s_emit c_s_saveAll t.1 t.2.1 t.2.2.1 t.2.2.2.1 t.2.2.2.2.1 t.2.2.2.2.2.1 t.2.2.2.2.2.2.1 t.2.2.2.2.2.2.2.1.1 t.2.2.2.2.2.2.2.1.2.1 t.2.2.2.2.2.2.2.2.1) (level, kids, each, one, all, ops, memo, (g_0, g_1, ()), false, ())
def B_s_save_J0 (k : Nat) (c_s_emit : (List (Int × Int)) → (List (Int × Int)) → Option (((List (Int × Int)) × Unit) × (Unit))) (c_s_memoed : (List (Int × Int)) → List Int → Int → Option (((List (Int × Int)) × List Int × Unit) × (Unit))) (c_s_saveTuple : (List (Int × Int × List Int)) → Int → Int → Int → (List (Int × Int)) → List Int → Option (((List (Int × Int)) × List Int × Unit) × (Unit))) (c_s_fill : (List (Int × Int × List Int)) → Int → Int → List Int → Int → Int → Int → (List (Int × Int)) → List Int → Option (((List (Int × Int)) × List Int × Unit) × (Unit))) (c_s_saveAll : (List (Int × Int × List Int)) → Int → Int → List Int → (List (Int × Int)) → List Int → Option (((List (Int × Int)) × List Int × Unit) × (Unit))) (ops : List (Int × Int)) (memo : List Int) : Option (((List (Int × Int)) × List Int × Unit) × (Unit)) :=
  some ((ops, memo, ()), ())
def B_s_save (k : Nat) (c_s_emit : (List (Int × Int)) → (List (Int × Int)) → Option (((List (Int × Int)) × Unit) × (Unit))) (c_s_memoed : (List (Int × Int)) → List Int → Int → Option (((List (Int × Int)) × List Int × Unit) × (Unit))) (c_s_saveTuple : (List (Int × Int × List Int)) → Int → Int → Int → (List (Int × Int)) → List Int → Option (((List (Int × Int)) × List Int × Unit) × (Unit))) (c_s_fill : (List (Int × Int × List Int)) → Int → Int → List Int → Int → Int → Int → (List (Int × Int)) → List Int → Option (((List (Int × Int)) × List Int × Unit) × (Unit))) (c_s_saveAll : (List (Int × Int × List Int)) → Int → Int → List Int → (List (Int × Int)) → List Int → Option (((List (Int × Int)) × List Int × Unit) × (Unit))) (g_0 : List (Int × Int × List Int)) (g_1 : Int) (level : Int) (at2 : Int) (ops : List (Int × Int)) (memo : List Int) : Option (((List (Int × Int)) × List Int × Unit) × (Unit)) :=
  chk (inb at2 g_0.length) <|
  chk (inb at2 memo.length) <|
  bif decide ((rdx (0 : Int) memo at2) ≥ 0) then
    chk (inb at2 memo.length) <|
    (c_s_emit ops ([(16, (rdx (0 : Int) memo at2))])).bind fun r30 =>
    some ((r30.1.1, memo, ()), ())
  else
    bif (((rdx ((0 : Int), ((0 : Int), ([] : List Int))) g_0 at2).1) == 0) then
      (c_s_emit ops ([(0, ((rdx ((0 : Int), ((0 : Int), ([] : List Int))) g_0 at2).2).1)])).bind fun r41 =>
      some ((r41.1.1, memo, ()), ())
    else
      bif (((rdx ((0 : Int), ((0 : Int), ([] : List Int))) g_0 at2).1) == 1) then
        (c_s_emit ops ([(1, ((rdx ((0 : Int), ((0 : Int), ([] : List Int))) g_0 at2).2).1)])).bind fun r50 =>
        (c_s_memoed r50.1.1 memo at2).bind fun r53 =>
        some ((r53.1.1, r53.1.2.1, ()), ())
      else
        bif (((rdx ((0 : Int), ((0 : Int), ([] : List Int))) g_0 at2).1) == 2) then
          (c_s_saveTuple g_0 g_1 level at2 ops memo).bind fun r63 =>
          some ((r63.1.1, r63.1.2.1, ()), ())
        else
          bif (((rdx ((0 : Int), ((0 : Int), ([] : List Int))) g_0 at2).1) == 3) then
            (c_s_emit ops ([(7, 0)])).bind fun r72 =>
            (c_s_memoed r72.1.1 memo at2).bind fun r75 =>
            (c_s_fill g_0 g_1 level (((rdx ((0 : Int), ((0 : Int), ([] : List Int))) g_0 at2).2).2) 1 8 9 r75.1.1 r75.1.2.1).bind fun r84 =>
            some ((r84.1.1, r84.1.2.1, ()), ())
          else
            bif (((rdx ((0 : Int), ((0 : Int), ([] : List Int))) g_0 at2).1) == 4) then
              (c_s_emit ops ([(10, 0)])).bind fun r93 =>
              (c_s_memoed r93.1.1 memo at2).bind fun r96 =>
              (c_s_fill g_0 g_1 level (((rdx ((0 : Int), ((0 : Int), ([] : List Int))) g_0 at2).2).2) 2 11 12 r96.1.1 r96.1.2.1).bind fun r105 =>
              some ((r105.1.1, r105.1.2.1, ()), ())
            else
              (c_s_emit ops ([(13, ((rdx ((0 : Int), ((0 : Int), ([] : List Int))) g_0 at2).2).1)])).bind fun r114 =>
              (c_s_memoed r114.1.1 memo at2).bind fun r117 =>
              (c_s_saveAll g_0 g_1 level (((rdx ((0 : Int), ((0 : Int), ([] : List Int))) g_0 at2).2).2) r117.1.1 r117.1.2.1).bind fun r127 =>
              bif decide ((len (((rdx ((0 : Int), ((0 : Int), ([] : List Int))) g_0 at2).2).2)) > 0) then
                (c_s_emit r127.1.1 ([(14, 0)])).bind fun r137 =>
                jn (fun t => B_s_save_J0 k c_s_emit c_s_memoed c_s_saveTuple c_s_fill c_s_saveAll t.1 t.2.1) (r137.1.1, r127.1.2.1, ())
              else
                jn (fun t => B_s_save_J0 k c_s_emit c_s_memoed c_s_saveTuple c_s_fill c_s_saveAll t.1 t.2.1) (r127.1.1, r127.1.2.1, ())
mutual
def F_s_saveAll : Nat → (List (Int × Int × List Int)) → Int → Int → List Int → (List (Int × Int)) → List Int → Option (((List (Int × Int)) × List Int × Unit) × (Unit))
  | 0, _, _, _, _, _, _ => none
  | k + 1, g_0, g_1, level, list, ops, memo => B_s_saveAll k (F_s_save k) g_0 g_1 level list ops memo
def F_s_saveTuple : Nat → (List (Int × Int × List Int)) → Int → Int → Int → (List (Int × Int)) → List Int → Option (((List (Int × Int)) × List Int × Unit) × (Unit))
  | 0, _, _, _, _, _, _ => none
  | k + 1, g_0, g_1, level, at2, ops, memo => B_s_saveTuple k (F_s_emit k) (F_s_memoed k) (F_s_saveAll k) g_0 g_1 level at2 ops memo
def F_s_fill : Nat → (List (Int × Int × List Int)) → Int → Int → List Int → Int → Int → Int → (List (Int × Int)) → List Int → Option (((List (Int × Int)) × List Int × Unit) × (Unit))
  | 0, _, _, _, _, _, _, _, _, _ => none
  | k + 1, g_0, g_1, level, kids, each, one, all, ops, memo => B_s_fill k (F_s_emit k) (F_s_saveAll k) g_0 g_1 level kids each one all ops memo
def F_s_save : Nat → (List (Int × Int × List Int)) → Int → Int → Int → (List (Int × Int)) → List Int → Option (((List (Int × Int)) × List Int × Unit) × (Unit))
  | 0, _, _, _, _, _, _ => none
  | k + 1, g_0, g_1, level, at2, ops, memo => B_s_save k (F_s_emit k) (F_s_memoed k) (F_s_saveTuple k) (F_s_fill k) (F_s_saveAll k) g_0 g_1 level at2 ops memo
end
theorem F_s_saveAll_succ (k : Nat) (g_0 : List (Int × Int × List Int)) (g_1 : Int) (level : Int) (list : List Int) (ops : List (Int × Int)) (memo : List Int) : F_s_saveAll (k + 1) g_0 g_1 level list ops memo = B_s_saveAll k (F_s_save k) g_0 g_1 level list ops memo := by rw [F_s_saveAll]
theorem tot_s_saveAll {g_0 : List (Int × Int × List Int)} {g_1 : Int} {level : Int} {list : List Int} {ops : List (Int × Int)} {memo : List Int} {Q : ((((List (Int × Int)) × List Int × Unit) × (Unit))) → Prop} (h : Tot (fun σ => B_s_saveAll (σ 0) (F_s_save (σ 0)) g_0 g_1 level list ops memo) Q) : Tot (fun σ => F_s_saveAll (σ 0) g_0 g_1 level list ops memo) Q :=
  Tot.call (F := fun k => F_s_saveAll k g_0 g_1 level list ops memo) (B := fun k => B_s_saveAll k (F_s_save k) g_0 g_1 level list ops memo) (fun k => F_s_saveAll_succ k g_0 g_1 level list ops memo) h
theorem loop_s_saveAll_L0 {Q : Int → List Int → (List (Int × Int)) → List Int → (List (Int × Int × List Int)) → Int → Int → (((List (Int × Int)) × List Int × Unit) × (Unit)) → Prop} (I : Int → List Int → (List (Int × Int)) → List Int → (List (Int × Int × List Int)) → Int → Int → Prop) (μ : Int → List Int → (List (Int × Int)) → List Int → (List (Int × Int × List Int)) → Int → Int → Nat)
    (step : ∀ (level : Int) (list : List Int) (ops : List (Int × Int)) (memo : List Int) (g_Nodes : List (Int × Int × List Int)) (g_Root : Int) (i : Int), I level list ops memo g_Nodes g_Root i → ∀ again : (Nat → Nat) → (Int × List Int × (List (Int × Int)) × List Int × ((List (Int × Int × List Int)) × Int × Unit) × Int × Unit) → Option (((List (Int × Int)) × List Int × Unit) × (Unit)), Dep 2 again → (∀ (y0 : Int) (y1 : List Int) (y2 : List (Int × Int)) (y3 : List Int) (y4 : List (Int × Int × List Int)) (y5 : Int) (y6 : Int), I y0 y1 y2 y3 y4 y5 y6 → μ y0 y1 y2 y3 y4 y5 y6 < μ level list ops memo g_Nodes g_Root i → Tot (fun σ => again σ (y0, y1, y2, y3, (y4, y5, ()), y6, ())) (Q y0 y1 y2 y3 y4 y5 y6)) →
      Tot (fun σ => B_s_saveAll_L0b (σ 0) (F_s_save (σ 0)) (again σ) level list ops memo g_Nodes g_Root i) (Q level list ops memo g_Nodes g_Root i)) :
    ∀ (level : Int) (list : List Int) (ops : List (Int × Int)) (memo : List Int) (g_Nodes : List (Int × Int × List Int)) (g_Root : Int) (i : Int), I level list ops memo g_Nodes g_Root i → Tot (fun σ => B_s_saveAll_L0 (σ 0) (F_s_save (σ 0)) (σ 0) (level, list, ops, memo, (g_Nodes, g_Root, ()), i, ())) (Q level list ops memo g_Nodes g_Root i) := fun level list ops memo g_Nodes g_Root i hI =>
  Tot.loop (L := fun σ n t => B_s_saveAll_L0 (σ 0) (F_s_save (σ 0)) n t) (B := fun σ g t => B_s_saveAll_L0b (σ 0) (F_s_save (σ 0)) g t.1 t.2.1 t.2.2.1 t.2.2.2.1 t.2.2.2.2.1.1 t.2.2.2.2.1.2.1 t.2.2.2.2.2.1) (Q := fun t => Q t.1 t.2.1 t.2.2.1 t.2.2.2.1 t.2.2.2.2.1.1 t.2.2.2.2.1.2.1 t.2.2.2.2.2.1) 1 (by decide)
    (fun s s' h => by have e0 : s 0 = s' 0 := h 0 (by decide); simp only [e0]) (fun s s' h => by have e0 : s 0 = s' 0 := h 0 (by decide); simp only [e0]) (fun _ _ _ => rfl) (fun t => I t.1 t.2.1 t.2.2.1 t.2.2.2.1 t.2.2.2.2.1.1 t.2.2.2.2.1.2.1 t.2.2.2.2.2.1) (fun t => μ t.1 t.2.1 t.2.2.1 t.2.2.2.1 t.2.2.2.2.1.1 t.2.2.2.2.1.2.1 t.2.2.2.2.2.1)
    (fun t ht again hag h => step t.1 t.2.1 t.2.2.1 t.2.2.2.1 t.2.2.2.2.1.1 t.2.2.2.2.1.2.1 t.2.2.2.2.2.1 ht again hag (fun y0 y1 y2 y3 y4 y5 y6 hI hm => h (y0, y1, y2, y3, (y4, y5, ()), y6, ()) hI hm)) (level, list, ops, memo, (g_Nodes, g_Root, ()), i, ()) hI
theorem F_s_saveTuple_succ (k : Nat) (g_0 : List (Int × Int × List Int)) (g_1 : Int) (level : Int) (at2 : Int) (ops : List (Int × Int)) (memo : List Int) : F_s_saveTuple (k + 1) g_0 g_1 level at2 ops memo = B_s_saveTuple k (F_s_emit k) (F_s_memoed k) (F_s_saveAll k) g_0 g_1 level at2 ops memo := by rw [F_s_saveTuple]
theorem tot_s_saveTuple {g_0 : List (Int × Int × List Int)} {g_1 : Int} {level : Int} {at2 : Int} {ops : List (Int × Int)} {memo : List Int} {Q : ((((List (Int × Int)) × List Int × Unit) × (Unit))) → Prop} (h : Tot (fun σ => B_s_saveTuple (σ 0) (F_s_emit (σ 0)) (F_s_memoed (σ 0)) (F_s_saveAll (σ 0)) g_0 g_1 level at2 ops memo) Q) : Tot (fun σ => F_s_saveTuple (σ 0) g_0 g_1 level at2 ops memo) Q :=
  Tot.call (F := fun k => F_s_saveTuple k g_0 g_1 level at2 ops memo) (B := fun k => B_s_saveTuple k (F_s_emit k) (F_s_memoed k) (F_s_saveAll k) g_0 g_1 level at2 ops memo) (fun k => F_s_saveTuple_succ k g_0 g_1 level at2 ops memo) h
theorem loop_s_saveTuple_L3 {Q : Int → (List (Int × Int)) → List Int → List Int → Bool → Int → (((List (Int × Int)) × List Int × Unit) × (Unit)) → Prop} (I : Int → (List (Int × Int)) → List Int → List Int → Bool → Int → Prop) (μ : Int → (List (Int × Int)) → List Int → List Int → Bool → Int → Nat)
    (step : ∀ (at2 : Int) (ops : List (Int × Int)) (memo : List Int) (kids : List Int) (short : Bool) (i : Int), I at2 ops memo kids short i → ∀ again : (Nat → Nat) → (Int × (List (Int × Int)) × List Int × List Int × Bool × Int × Unit) → Option (((List (Int × Int)) × List Int × Unit) × (Unit)), Dep 2 again → (∀ (y0 : Int) (y1 : List (Int × Int)) (y2 : List Int) (y3 : List Int) (y4 : Bool) (y5 : Int), I y0 y1 y2 y3 y4 y5 → μ y0 y1 y2 y3 y4 y5 < μ at2 ops memo kids short i → Tot (fun σ => again σ (y0, y1, y2, y3, y4, y5, ())) (Q y0 y1 y2 y3 y4 y5)) →
      Tot (fun σ => B_s_saveTuple_L3b (σ 0) (F_s_emit (σ 0)) (F_s_memoed (σ 0)) (F_s_saveAll (σ 0)) (again σ) at2 ops memo kids short i) (Q at2 ops memo kids short i)) :
    ∀ (at2 : Int) (ops : List (Int × Int)) (memo : List Int) (kids : List Int) (short : Bool) (i : Int), I at2 ops memo kids short i → Tot (fun σ => B_s_saveTuple_L3 (σ 0) (F_s_emit (σ 0)) (F_s_memoed (σ 0)) (F_s_saveAll (σ 0)) (σ 0) (at2, ops, memo, kids, short, i, ())) (Q at2 ops memo kids short i) := fun at2 ops memo kids short i hI =>
  Tot.loop (L := fun σ n t => B_s_saveTuple_L3 (σ 0) (F_s_emit (σ 0)) (F_s_memoed (σ 0)) (F_s_saveAll (σ 0)) n t) (B := fun σ g t => B_s_saveTuple_L3b (σ 0) (F_s_emit (σ 0)) (F_s_memoed (σ 0)) (F_s_saveAll (σ 0)) g t.1 t.2.1 t.2.2.1 t.2.2.2.1 t.2.2.2.2.1 t.2.2.2.2.2.1) (Q := fun t => Q t.1 t.2.1 t.2.2.1 t.2.2.2.1 t.2.2.2.2.1 t.2.2.2.2.2.1) 1 (by decide)
    (fun s s' h => by have e0 : s 0 = s' 0 := h 0 (by decide); simp only [e0]) (fun s s' h => by have e0 : s 0 = s' 0 := h 0 (by decide); simp only [e0]) (fun _ _ _ => rfl) (fun t => I t.1 t.2.1 t.2.2.1 t.2.2.2.1 t.2.2.2.2.1 t.2.2.2.2.2.1) (fun t => μ t.1 t.2.1 t.2.2.1 t.2.2.2.1 t.2.2.2.2.1 t.2.2.2.2.2.1)
    (fun t ht again hag h => step t.1 t.2.1 t.2.2.1 t.2.2.2.1 t.2.2.2.2.1 t.2.2.2.2.2.1 ht again hag (fun y0 y1 y2 y3 y4 y5 hI hm => h (y0, y1, y2, y3, y4, y5, ()) hI hm)) (at2, ops, memo, kids, short, i, ()) hI
theorem F_s_fill_succ (k : Nat) (g_0 : List (Int × Int × List Int)) (g_1 : Int) (level : Int) (kids : List Int) (each : Int) (one : Int) (all : Int) (ops : List (Int × Int)) (memo : List Int) : F_s_fill (k + 1) g_0 g_1 level kids each one all ops memo = B_s_fill k (F_s_emit k) (F_s_saveAll k) g_0 g_1 level kids each one all ops memo := by rw [F_s_fill]
theorem tot_s_fill {g_0 : List (Int × Int × List Int)} {g_1 : Int} {level : Int} {kids : List Int} {each : Int} {one : Int} {all : Int} {ops : List (Int × Int)} {memo : List Int} {Q : ((((List (Int × Int)) × List Int × Unit) × (Unit))) → Prop} (h : Tot (fun σ => B_s_fill (σ 0) (F_s_emit (σ 0)) (F_s_saveAll (σ 0)) g_0 g_1 level kids each one all ops memo) Q) : Tot (fun σ => F_s_fill (σ 0) g_0 g_1 level kids each one all ops memo) Q :=
  Tot.call (F := fun k => F_s_fill k g_0 g_1 level kids each one all ops memo) (B := fun k => B_s_fill k (F_s_emit k) (F_s_saveAll k) g_0 g_1 level kids each one all ops memo) (fun k => F_s_fill_succ k g_0 g_1 level kids each one all ops memo) h
theorem loop_s_fill_L1 {Q : Int → List Int → Int → Int → (List (Int × Int)) → List Int → (List (Int × Int × List Int)) → Int → Int → (((List (Int × Int)) × List Int × Unit) × (Unit)) → Prop} (I : Int → List Int → Int → Int → (List (Int × Int)) → List Int → (List (Int × Int × List Int)) → Int → Int → Prop) (μ : Int → List Int → Int → Int → (List (Int × Int)) → List Int → (List (Int × Int × List Int)) → Int → Int → Nat)
    (step : ∀ (level : Int) (kids : List Int) (each : Int) (one : Int) (ops : List (Int × Int)) (memo : List Int) (g_Nodes : List (Int × Int × List Int)) (g_Root : Int) (i : Int), I level kids each one ops memo g_Nodes g_Root i → ∀ again : (Nat → Nat) → (Int × List Int × Int × Int × (List (Int × Int)) × List Int × ((List (Int × Int × List Int)) × Int × Unit) × Int × Unit) → Option (((List (Int × Int)) × List Int × Unit) × (Unit)), Dep 2 again → (∀ (y0 : Int) (y1 : List Int) (y2 : Int) (y3 : Int) (y4 : List (Int × Int)) (y5 : List Int) (y6 : List (Int × Int × List Int)) (y7 : Int) (y8 : Int), I y0 y1 y2 y3 y4 y5 y6 y7 y8 → μ y0 y1 y2 y3 y4 y5 y6 y7 y8 < μ level kids each one ops memo g_Nodes g_Root i → Tot (fun σ => again σ (y0, y1, y2, y3, y4, y5, (y6, y7, ()), y8, ())) (Q y0 y1 y2 y3 y4 y5 y6 y7 y8)) →
      Tot (fun σ => B_s_fill_L1b (σ 0) (F_s_emit (σ 0)) (F_s_saveAll (σ 0)) (again σ) level kids each one ops memo g_Nodes g_Root i) (Q level kids each one ops memo g_Nodes g_Root i)) :
    ∀ (level : Int) (kids : List Int) (each : Int) (one : Int) (ops : List (Int × Int)) (memo : List Int) (g_Nodes : List (Int × Int × List Int)) (g_Root : Int) (i : Int), I level kids each one ops memo g_Nodes g_Root i → Tot (fun σ => B_s_fill_L1 (σ 0) (F_s_emit (σ 0)) (F_s_saveAll (σ 0)) (σ 0) (level, kids, each, one, ops, memo, (g_Nodes, g_Root, ()), i, ())) (Q level kids each one ops memo g_Nodes g_Root i) := fun level kids each one ops memo g_Nodes g_Root i hI =>
  Tot.loop (L := fun σ n t => B_s_fill_L1 (σ 0) (F_s_emit (σ 0)) (F_s_saveAll (σ 0)) n t) (B := fun σ g t => B_s_fill_L1b (σ 0) (F_s_emit (σ 0)) (F_s_saveAll (σ 0)) g t.1 t.2.1 t.2.2.1 t.2.2.2.1 t.2.2.2.2.1 t.2.2.2.2.2.1 t.2.2.2.2.2.2.1.1 t.2.2.2.2.2.2.1.2.1 t.2.2.2.2.2.2.2.1) (Q := fun t => Q t.1 t.2.1 t.2.2.1 t.2.2.2.1 t.2.2.2.2.1 t.2.2.2.2.2.1 t.2.2.2.2.2.2.1.1 t.2.2.2.2.2.2.1.2.1 t.2.2.2.2.2.2.2.1) 1 (by decide)
    (fun s s' h => by have e0 : s 0 = s' 0 := h 0 (by decide); simp only [e0]) (fun s s' h => by have e0 : s 0 = s' 0 := h 0 (by decide); simp only [e0]) (fun _ _ _ => rfl) (fun t => I t.1 t.2.1 t.2.2.1 t.2.2.2.1 t.2.2.2.2.1 t.2.2.2.2.2.1 t.2.2.2.2.2.2.1.1 t.2.2.2.2.2.2.1.2.1 t.2.2.2.2.2.2.2.1) (fun t => μ t.1 t.2.1 t.2.2.1 t.2.2.2.1 t.2.2.2.2.1 t.2.2.2.2.2.1 t.2.2.2.2.2.2.1.1 t.2.2.2.2.2.2.1.2.1 t.2.2.2.2.2.2.2.1)
    (fun t ht again hag h => step t.1 t.2.1 t.2.2.1 t.2.2.2.1 t.2.2.2.2.1 t.2.2.2.2.2.1 t.2.2.2.2.2.2.1.1 t.2.2.2.2.2.2.1.2.1 t.2.2.2.2.2.2.2.1 ht again hag (fun y0 y1 y2 y3 y4 y5 y6 y7 y8 hI hm => h (y0, y1, y2, y3, y4, y5, (y6, y7, ()), y8, ()) hI hm)) (level, kids, each, one, ops, memo, (g_Nodes, g_Root, ()), i, ()) hI
theorem F_s_save_succ (k : Nat) (g_0 : List (Int × Int × List Int)) (g_1 : Int) (level : Int) (at2 : Int) (ops : List (Int × Int)) (memo : List Int) : F_s_save (k + 1) g_0 g_1 level at2 ops memo = B_s_save k (F_s_emit k) (F_s_memoed k) (F_s_saveTuple k) (F_s_fill k) (F_s_saveAll k) g_0 g_1 level at2 ops memo := by rw [F_s_save]
theorem tot_s_save {g_0 : List (Int × Int × List Int)} {g_1 : Int} {level : Int} {at2 : Int} {ops : List (Int × Int)} {memo : List Int} {Q : ((((List (Int × Int)) × List Int × Unit) × (Unit))) → Prop} (h : Tot (fun σ => B_s_save (σ 0) (F_s_emit (σ 0)) (F_s_memoed (σ 0)) (F_s_saveTuple (σ 0)) (F_s_fill (σ 0)) (F_s_saveAll (σ 0)) g_0 g_1 level at2 ops memo) Q) : Tot (fun σ => F_s_save (σ 0) g_0 g_1 level at2 ops memo) Q :=
  Tot.call (F := fun k => F_s_save k g_0 g_1 level at2 ops memo) (B := fun k => B_s_save k (F_s_emit k) (F_s_memoed k) (F_s_saveTuple k) (F_s_fill k) (F_s_saveAll k) g_0 g_1 level at2 ops memo) (fun k => F_s_save_succ k g_0 g_1 level at2 ops memo) h
def B_s_written (k : Nat) (c_s_emptyMemo : (List (Int × Int × List Int)) → Int → Option ((List Int × Unit) × (Unit))) (c_s_save : (List (Int × Int × List Int)) → Int → Int → Int → (List (Int × Int)) → List Int → Option (((List (Int × Int)) × List Int × Unit) × (Unit))) (c_s_emit : (List (Int × Int)) → (List (Int × Int)) → Option (((List (Int × Int)) × Unit) × (Unit))) (g_0 : List (Int × Int × List Int)) (g_1 : Int) (level : Int) : Option (((List (Int × Int)) × Unit) × (Unit)) :=
  (c_s_emptyMemo g_0 g_1).bind fun r14 =>
  (c_s_save g_0 g_1 level g_1 ([]) r14.1.1).bind fun r15 =>
  (c_s_emit r15.1.1 ([(19, 0)])).bind fun r21 =>
  some ((r21.1.1, ()), ())
def F_s_written : Nat → (List (Int × Int × List Int)) → Int → Int → Option (((List (Int × Int)) × Unit) × (Unit))
  | 0, _, _, _ => none
  | k + 1, g_0, g_1, level => B_s_written k (F_s_emptyMemo k) (F_s_save k) (F_s_emit k) g_0 g_1 level
theorem F_s_written_succ (k : Nat) (g_0 : List (Int × Int × List Int)) (g_1 : Int) (level : Int) : F_s_written (k + 1) g_0 g_1 level = B_s_written k (F_s_emptyMemo k) (F_s_save k) (F_s_emit k) g_0 g_1 level := rfl
theorem tot_s_written {g_0 : List (Int × Int × List Int)} {g_1 : Int} {level : Int} {Q : ((((List (Int × Int)) × Unit) × (Unit))) → Prop} (h : Tot (fun σ => B_s_written (σ 0) (F_s_emptyMemo (σ 0)) (F_s_save (σ 0)) (F_s_emit (σ 0)) g_0 g_1 level) Q) : Tot (fun σ => F_s_written (σ 0) g_0 g_1 level) Q :=
  Tot.call (F := fun k => F_s_written k g_0 g_1 level) (B := fun k => B_s_written k (F_s_emptyMemo k) (F_s_save k) (F_s_emit k) g_0 g_1 level) (fun k => F_s_written_succ k g_0 g_1 level) h
def B_s_someOps_J2 (k : Nat) (c_s_reader_pick : List Int → Int → Int → Option ((Int × Unit) × ((List Int × Int × Unit) × Unit))) (c_s_likelyOps : List Int → Int → Option (((List (Int × Int)) × Unit) × ((List Int × Int × Unit) × Unit))) (c_s_someGraph : List Int → Int → Option ((((List (Int × Int × List Int)) × Int × Unit) × Unit) × ((List Int × Int × Unit) × Unit))) (c_s_written : (List (Int × Int × List Int)) → Int → Int → Option (((List (Int × Int)) × Unit) × (Unit))) (c_s_someOp : List Int → Int → Option (((Int × Int × Unit) × Unit) × ((List Int × Int × Unit) × Unit))) (c_s_reader_one : List Int → Int → List Int → Option ((Int × Unit) × ((List Int × Int × Unit) × Unit))) (r_b : List Int) (r_p : Int) (out : List (Int × Int)) : Option (((List (Int × Int)) × Unit) × ((List Int × Int × Unit) × Unit)) :=
  bif decide ((len out) > 0) then
    (c_s_reader_pick r_b r_p 24).bind fun r45 =>
    bif (r45.1.1 == 0) then
      (c_s_reader_one r45.2.1.1 r45.2.1.2.1 ([(-1), 20])).bind fun r51 =>
      chk (inb 0 out.length) <|
      chk (decide ((0 : Int).toNat < out.length)) <|
      some (((out.set ((0 : Int).toNat) (r51.1.1, (out.getD ((0 : Int).toNat) ((0 : Int), (0 : Int))).2)), ()), ((r51.2.1.1, r51.2.1.2.1, ()), ()))
    else
      bif (r45.1.1 == 1) then
        (c_s_reader_one r45.2.1.1 r45.2.1.2.1 ([(-1), 1000, 1])).bind fun r62 =>
        chk (inb (w64 ((len out) - 1)) out.length) <|
        chk (decide ((w64 ((len out) - 1)).toNat < out.length)) <|
        some (((out.set ((w64 ((len out) - 1)).toNat) ((out.getD ((w64 ((len out) - 1)).toNat) ((0 : Int), (0 : Int))).1, r62.1.1)), ()), ((r62.2.1.1, r62.2.1.2.1, ()), ()))
      else
        some ((out, ()), ((r45.2.1.1, r45.2.1.2.1, ()), ()))
  else
    some ((out, ()), ((r_b, r_p, ()), ()))
def B_s_someOps_J1 (k : Nat) (c_s_reader_pick : List Int → Int → Int → Option ((Int × Unit) × ((List Int × Int × Unit) × Unit))) (c_s_likelyOps : List Int → Int → Option (((List (Int × Int)) × Unit) × ((List Int × Int × Unit) × Unit))) (c_s_someGraph : List Int → Int → Option ((((List (Int × Int × List Int)) × Int × Unit) × Unit) × ((List Int × Int × Unit) × Unit))) (c_s_written : (List (Int × Int × List Int)) → Int → Int → Option (((List (Int × Int)) × Unit) × (Unit))) (c_s_someOp : List Int → Int → Option (((Int × Int × Unit) × Unit) × ((List Int × Int × Unit) × Unit))) (c_s_reader_one : List Int → Int → List Int → Option ((Int × Unit) × ((List Int × Int × Unit) × Unit))) (r_b : List Int) (r_p : Int) (out : List (Int × Int)) : Option (((List (Int × Int)) × Unit) × ((List Int × Int × Unit) × Unit)) :=
  (c_s_reader_pick r_b r_p 6).bind fun r32 =>
  bif (r32.1.1 == 0) then
    (c_s_reader_pick r32.2.1.1 r32.2.1.2.1 (w64 ((len out) + 1))).bind fun r39 =>
    chk (cutb 0 r39.1.1 out.length) <|
    jn (fun t => B_s_someOps_J2 k c_s_reader_pick c_s_likelyOps c_s_someGraph c_s_written c_s_someOp c_s_reader_one t.1.1 t.1.2.1 t.2.1) ((r39.2.1.1, r39.2.1.2.1, ()), (out.take r39.1.1.toNat), ())
  else
    jn (fun t => B_s_someOps_J2 k c_s_reader_pick c_s_likelyOps c_s_someGraph c_s_written c_s_someOp c_s_reader_one t.1.1 t.1.2.1 t.2.1) ((r32.2.1.1, r32.2.1.2.1, ()), out, ())
def B_s_someOps_J0 (k : Nat) (c_s_reader_pick : List Int → Int → Int → Option ((Int × Unit) × ((List Int × Int × Unit) × Unit))) (c_s_likelyOps : List Int → Int → Option (((List (Int × Int)) × Unit) × ((List Int × Int × Unit) × Unit))) (c_s_someGraph : List Int → Int → Option ((((List (Int × Int × List Int)) × Int × Unit) × Unit) × ((List Int × Int × Unit) × Unit))) (c_s_written : (List (Int × Int × List Int)) → Int → Int → Option (((List (Int × Int)) × Unit) × (Unit))) (c_s_someOp : List Int → Int → Option (((Int × Int × Unit) × Unit) × ((List Int × Int × Unit) × Unit))) (c_s_reader_one : List Int → Int → List Int → Option ((Int × Unit) × ((List Int × Int × Unit) × Unit))) (r_b : List Int) (r_p : Int) (out : List (Int × Int)) (t22 : Bool) : Option (((List (Int × Int)) × Unit) × ((List Int × Int × Unit) × Unit)) :=
  bif t22 then
    (c_s_reader_pick r_b r_p (len out)).bind fun r27 =>
    (c_s_someOp r27.2.1.1 r27.2.1.2.1).bind fun r29 =>
    chk (inb r27.1.1 out.length) <|
    chk (decide (r27.1.1.toNat < out.length)) <|
    jn (fun t => B_s_someOps_J1 k c_s_reader_pick c_s_likelyOps c_s_someGraph c_s_written c_s_someOp c_s_reader_one t.1.1 t.1.2.1 t.2.1) ((r29.2.1.1, r29.2.1.2.1, ()), (out.set r27.1.1.toNat (r29.1.1.1, r29.1.1.2.1)), ())
  else
    jn (fun t => B_s_someOps_J1 k c_s_reader_pick c_s_likelyOps c_s_someGraph c_s_written c_s_someOp c_s_reader_one t.1.1 t.1.2.1 t.2.1) ((r_b, r_p, ()), out, ())
def B_s_someOps (k : Nat) (c_s_reader_pick : List Int → Int → Int → Option ((Int × Unit) × ((List Int × Int × Unit) × Unit))) (c_s_likelyOps : List Int → Int → Option (((List (Int × Int)) × Unit) × ((List Int × Int × Unit) × Unit))) (c_s_someGraph : List Int → Int → Option ((((List (Int × Int × List Int)) × Int × Unit) × Unit) × ((List Int × Int × Unit) × Unit))) (c_s_written : (List (Int × Int × List Int)) → Int → Int → Option (((List (Int × Int)) × Unit) × (Unit))) (c_s_someOp : List Int → Int → Option (((Int × Int × Unit) × Unit) × ((List Int × Int × Unit) × Unit))) (c_s_reader_one : List Int → Int → List Int → Option ((Int × Unit) × ((List Int × Int × Unit) × Unit))) (r_b : List Int) (r_p : Int) : Option (((List (Int × Int)) × Unit) × ((List Int × Int × Unit) × Unit)) :=
  (c_s_reader_pick r_b r_p 2).bind fun r6 =>
  bif (r6.1.1 == 0) then
    (c_s_likelyOps r6.2.1.1 r6.2.1.2.1).bind fun r9 =>
    jn (fun t => B_s_someOps_J2 k c_s_reader_pick c_s_likelyOps c_s_someGraph c_s_written c_s_someOp c_s_reader_one t.1.1 t.1.2.1 t.2.1) ((r9.2.1.1, r9.2.1.2.1, ()), r9.1.1, ())
  else
    (c_s_someGraph r6.2.1.1 r6.2.1.2.1).bind fun r11 =>
    (c_s_reader_pick r11.2.1.1 r11.2.1.2.1 2).bind fun r13 =>
    (c_s_written r11.1.1.1 r11.1.1.2.1 r13.1.1).bind fun r14 =>
    (c_s_reader_pick r13.2.1.1 r13.2.1.2.1 4).bind fun r16 =>
    bif (r16.1.1 == 0) then
      jn (fun t => B_s_someOps_J0 k c_s_reader_pick c_s_likelyOps c_s_someGraph c_s_written c_s_someOp c_s_reader_one t.1.1 t.1.2.1 t.2.1 t.2.2.1) ((r16.2.1.1, r16.2.1.2.1, ()), r14.1.1, decide ((len r14.1.1) > 0), ())
    else
      jn (fun t => B_s_someOps_J0 k c_s_reader_pick c_s_likelyOps c_s_someGraph c_s_written c_s_someOp c_s_reader_one t.1.1 t.1.2.1 t.2.1 t.2.2.1) ((r16.2.1.1, r16.2.1.2.1, ()), r14.1.1, false, ())
def F_s_someOps : Nat → List Int → Int → Option (((List (Int × Int)) × Unit) × ((List Int × Int × Unit) × Unit))
  | 0, _, _ => none
  | k + 1, r_b, r_p => B_s_someOps k (F_s_reader_pick k) (F_s_likelyOps k) (F_s_someGraph k) (F_s_written k) (F_s_someOp k) (F_s_reader_one k) r_b r_p
theorem F_s_someOps_succ (k : Nat) (r_b : List Int) (r_p : Int) : F_s_someOps (k + 1) r_b r_p = B_s_someOps k (F_s_reader_pick k) (F_s_likelyOps k) (F_s_someGraph k) (F_s_written k) (F_s_someOp k) (F_s_reader_one k) r_b r_p := rfl
theorem tot_s_someOps {r_b : List Int} {r_p : Int} {Q : ((((List (Int × Int)) × Unit) × ((List Int × Int × Unit) × Unit))) → Prop} (h : Tot (fun σ => B_s_someOps (σ 0) (F_s_reader_pick (σ 0)) (F_s_likelyOps (σ 0)) (F_s_someGraph (σ 0)) (F_s_written (σ 0)) (F_s_someOp (σ 0)) (F_s_reader_one (σ 0)) r_b r_p) Q) : Tot (fun σ => F_s_someOps (σ 0) r_b r_p) Q :=
  Tot.call (F := fun k => F_s_someOps k r_b r_p) (B := fun k => B_s_someOps k (F_s_reader_pick k) (F_s_likelyOps k) (F_s_someGraph k) (F_s_written k) (F_s_someOp k) (F_s_reader_one k) r_b r_p) (fun k => F_s_someOps_succ k r_b r_p) h
def B_s_DrawMarksOf (k : Nat) (c_s_newReader : List Int → Option (((List Int × Int × Unit) × Unit) × (Unit))) (c_s_someOps : List Int → Int → Option (((List (Int × Int)) × Unit) × ((List Int × Int × Unit) × Unit))) (code : List Int) : Option (((List (Int × Int)) × Unit) × (Unit)) :=
  (c_s_newReader code).bind fun r4 =>
  (c_s_someOps r4.1.1.1 r4.1.1.2.1).bind fun r5 =>
  some ((r5.1.1, ()), ())
def F_s_DrawMarksOf : Nat → List Int → Option (((List (Int × Int)) × Unit) × (Unit))
  | 0, _ => none
  | k + 1, code => B_s_DrawMarksOf k (F_s_newReader k) (F_s_someOps k) code
theorem F_s_DrawMarksOf_succ (k : Nat) (code : List Int) : F_s_DrawMarksOf (k + 1) code = B_s_DrawMarksOf k (F_s_newReader k) (F_s_someOps k) code := rfl
theorem tot_s_DrawMarksOf {code : List Int} {Q : ((((List (Int × Int)) × Unit) × (Unit))) → Prop} (h : Tot (fun σ => B_s_DrawMarksOf (σ 0) (F_s_newReader (σ 0)) (F_s_someOps (σ 0)) code) Q) : Tot (fun σ => F_s_DrawMarksOf (σ 0) code) Q :=
  Tot.call (F := fun k => F_s_DrawMarksOf k code) (B := fun k => B_s_DrawMarksOf k (F_s_newReader k) (F_s_someOps k) code) (fun k => F_s_DrawMarksOf_succ k code) h
def B_i_mostArg_J0 (k : Nat) (t10 : Bool) : Option ((Int × Unit) × (Unit)) :=
  bif t10 then
    some ((19, ()), ())
  else
    some ((0, ()), ())
def B_i_mostArg (k : Nat) (code : Int) : Option ((Int × Unit) × (Unit)) :=
  bif (code == 0) then
    some ((999, ()), ())
  else
    bif (code == 1) then
      some ((9, ()), ())
    else
      bif (code == 13) then
        some ((9, ()), ())
      else
        bif (code == 15) then
          jn (fun t => B_i_mostArg_J0 k t.1) ((code == 15), ())
        else
          jn (fun t => B_i_mostArg_J0 k t.1) ((code == 16), ())
def F_i_mostArg : Nat → Int → Option ((Int × Unit) × (Unit))
  | 0, _ => none
  | k + 1, code => B_i_mostArg k code
theorem F_i_mostArg_succ (k : Nat) (code : Int) : F_i_mostArg (k + 1) code = B_i_mostArg k code := rfl
theorem tot_i_mostArg {code : Int} {Q : (((Int × Unit) × (Unit))) → Prop} (h : Tot (fun σ => B_i_mostArg (σ 0) code) Q) : Tot (fun σ => F_i_mostArg (σ 0) code) Q :=
  Tot.call (F := fun k => F_i_mostArg k code) (B := fun k => B_i_mostArg k code) (fun k => F_i_mostArg_succ k code) h
def B_i_opOk (k : Nat) (c_i_mostArg : Int → Option ((Int × Unit) × (Unit))) (o_0 : Int) (o_1 : Int) : Option ((Bool × Unit) × (Unit)) :=
  bif decide (o_0 ≥ 0) then
    bif decide (o_0 ≤ 19) then
      bif decide (o_1 ≥ 0) then
        (c_i_mostArg o_0).bind fun r21 =>
        some ((decide (o_1 ≤ r21.1.1), ()), ())
      else
        some ((false, ()), ())
    else
      some ((false, ()), ())
  else
    some ((false, ()), ())
def F_i_opOk : Nat → Int → Int → Option ((Bool × Unit) × (Unit))
  | 0, _, _ => none
  | k + 1, o_0, o_1 => B_i_opOk k (F_i_mostArg k) o_0 o_1
theorem F_i_opOk_succ (k : Nat) (o_0 : Int) (o_1 : Int) : F_i_opOk (k + 1) o_0 o_1 = B_i_opOk k (F_i_mostArg k) o_0 o_1 := rfl
theorem tot_i_opOk {o_0 : Int} {o_1 : Int} {Q : (((Bool × Unit) × (Unit))) → Prop} (h : Tot (fun σ => B_i_opOk (σ 0) (F_i_mostArg (σ 0)) o_0 o_1) Q) : Tot (fun σ => F_i_opOk (σ 0) o_0 o_1) Q :=
  Tot.call (F := fun k => F_i_opOk k o_0 o_1) (B := fun k => B_i_opOk k (F_i_mostArg k) o_0 o_1) (fun k => F_i_opOk_succ k o_0 o_1) h
def B_i_ValidOps_L0b (k : Nat) (c_i_opOk : Int → Int → Option ((Bool × Unit) × (Unit))) (again0 : ((List (Int × Int)) × (List (Int × Int)) × Int × Int × Unit) → Option ((Bool × Unit) × (Unit))) (ops : List (Int × Int)) (t5 : List (Int × Int)) (t6 : Int) (t7 : Int) : Option ((Bool × Unit) × (Unit)) :=
  bif decide (t7 < t6) then
    chk (inb t7 t5.length) <|
    (c_i_opOk ((rdx ((0 : Int), (0 : Int)) t5 t7).1) ((rdx ((0 : Int), (0 : Int)) t5 t7).2)).bind fun r12 =>
    bif (!r12.1.1) then
      some ((false, ()), ())
    else
      again0 (ops, t5, t6, w64 (t7 + 1), ())
  else
    some ((decide ((len ops) ≤ 300), ()), ())
def B_i_ValidOps_L0 (k : Nat) (c_i_opOk : Int → Int → Option ((Bool × Unit) × (Unit))) (n : Nat) (t : (List (Int × Int)) × (List (Int × Int)) × Int × Int × Unit) : Option ((Bool × Unit) × (Unit)) :=
  lfix n (fun again t => B_i_ValidOps_L0b k c_i_opOk again t.1 t.2.1 t.2.2.1 t.2.2.2.1) t
def B_i_ValidOps (k : Nat) (c_i_opOk : Int → Int → Option ((Bool × Unit) × (Unit))) (ops : List (Int × Int)) : Option ((Bool × Unit) × (Unit)) :=
  B_i_ValidOps_L0 k c_i_opOk k (ops, ops, len ops, 0, ())
def F_i_ValidOps : Nat → (List (Int × Int)) → Option ((Bool × Unit) × (Unit))
  | 0, _ => none
  | k + 1, ops => B_i_ValidOps k (F_i_opOk k) ops
theorem F_i_ValidOps_succ (k : Nat) (ops : List (Int × Int)) : F_i_ValidOps (k + 1) ops = B_i_ValidOps k (F_i_opOk k) ops := rfl
theorem tot_i_ValidOps {ops : List (Int × Int)} {Q : (((Bool × Unit) × (Unit))) → Prop} (h : Tot (fun σ => B_i_ValidOps (σ 0) (F_i_opOk (σ 0)) ops) Q) : Tot (fun σ => F_i_ValidOps (σ 0) ops) Q :=
  Tot.call (F := fun k => F_i_ValidOps k ops) (B := fun k => B_i_ValidOps k (F_i_opOk k) ops) (fun k => F_i_ValidOps_succ k ops) h
theorem loop_i_ValidOps_L0 {Q : (List (Int × Int)) → (List (Int × Int)) → Int → Int → ((Bool × Unit) × (Unit)) → Prop} (I : (List (Int × Int)) → (List (Int × Int)) → Int → Int → Prop) (μ : (List (Int × Int)) → (List (Int × Int)) → Int → Int → Nat)
    (step : ∀ (ops : List (Int × Int)) (t5 : List (Int × Int)) (t6 : Int) (t7 : Int), I ops t5 t6 t7 → ∀ again : (Nat → Nat) → ((List (Int × Int)) × (List (Int × Int)) × Int × Int × Unit) → Option ((Bool × Unit) × (Unit)), Dep 2 again → (∀ (y0 : List (Int × Int)) (y1 : List (Int × Int)) (y2 : Int) (y3 : Int), I y0 y1 y2 y3 → μ y0 y1 y2 y3 < μ ops t5 t6 t7 → Tot (fun σ => again σ (y0, y1, y2, y3, ())) (Q y0 y1 y2 y3)) →
      Tot (fun σ => B_i_ValidOps_L0b (σ 0) (F_i_opOk (σ 0)) (again σ) ops t5 t6 t7) (Q ops t5 t6 t7)) :
    ∀ (ops : List (Int × Int)) (t5 : List (Int × Int)) (t6 : Int) (t7 : Int), I ops t5 t6 t7 → Tot (fun σ => B_i_ValidOps_L0 (σ 0) (F_i_opOk (σ 0)) (σ 0) (ops, t5, t6, t7, ())) (Q ops t5 t6 t7) := fun ops t5 t6 t7 hI =>
  Tot.loop (L := fun σ n t => B_i_ValidOps_L0 (σ 0) (F_i_opOk (σ 0)) n t) (B := fun σ g t => B_i_ValidOps_L0b (σ 0) (F_i_opOk (σ 0)) g t.1 t.2.1 t.2.2.1 t.2.2.2.1) (Q := fun t => Q t.1 t.2.1 t.2.2.1 t.2.2.2.1) 1 (by decide)
    (fun s s' h => by have e0 : s 0 = s' 0 := h 0 (by decide); simp only [e0]) (fun s s' h => by have e0 : s 0 = s' 0 := h 0 (by decide); simp only [e0]) (fun _ _ _ => rfl) (fun t => I t.1 t.2.1 t.2.2.1 t.2.2.2.1) (fun t => μ t.1 t.2.1 t.2.2.1 t.2.2.2.1)
    (fun t ht again hag h => step t.1 t.2.1 t.2.2.1 t.2.2.2.1 ht again hag (fun y0 y1 y2 y3 hI hm => h (y0, y1, y2, y3, ()) hI hm)) (ops, t5, t6, t7, ()) hI
def B_i_marks_J0 (k : Nat) (again1 : (Int × List Int × Int × Int × Unit) → Option ((Int × Unit) × (Unit))) (n3 : Int) (t7 : List Int) (t8 : Int) (t9 : Int) : Option ((Int × Unit) × (Unit)) :=
  again1 (n3, t7, t8, w64 (t9 + 1), ())
def B_i_marks_L1b (k : Nat) (again1 : (Int × List Int × Int × Int × Unit) → Option ((Int × Unit) × (Unit))) (n3 : Int) (t7 : List Int) (t8 : Int) (t9 : Int) : Option ((Int × Unit) × (Unit)) :=
  bif decide (t9 < t8) then
    chk (inb t9 t7.length) <|
    bif decide ((rdx (0 : Int) t7 t9) < 0) then
      jn (fun t => B_i_marks_J0 k again1 t.1 t.2.1 t.2.2.1 t.2.2.2.1) (w64 (n3 + 1), t7, t8, t9, ())
    else
      jn (fun t => B_i_marks_J0 k again1 t.1 t.2.1 t.2.2.1 t.2.2.2.1) (n3, t7, t8, t9, ())
  else
    some ((n3, ()), ())
def B_i_marks_L1 (k : Nat) (n : Nat) (t : Int × List Int × Int × Int × Unit) : Option ((Int × Unit) × (Unit)) :=
  lfix n (fun again t => B_i_marks_L1b k again t.1 t.2.1 t.2.2.1 t.2.2.2.1) t
def B_i_marks (k : Nat) (m_0 : List (Int × Int × List Int)) (m_1 : List Int) (m_2 : List Int) (m_3 : Bool) : Option ((Int × Unit) × (Unit)) :=
  B_i_marks_L1 k k (0, m_1, len m_1, 0, ())
def F_i_marks : Nat → (List (Int × Int × List Int)) → List Int → List Int → Bool → Option ((Int × Unit) × (Unit))
  | 0, _, _, _, _ => none
  | k + 1, m_0, m_1, m_2, m_3 => B_i_marks k m_0 m_1 m_2 m_3
theorem F_i_marks_succ (k : Nat) (m_0 : List (Int × Int × List Int)) (m_1 : List Int) (m_2 : List Int) (m_3 : Bool) : F_i_marks (k + 1) m_0 m_1 m_2 m_3 = B_i_marks k m_0 m_1 m_2 m_3 := rfl
theorem tot_i_marks {m_0 : List (Int × Int × List Int)} {m_1 : List Int} {m_2 : List Int} {m_3 : Bool} {Q : (((Int × Unit) × (Unit))) → Prop} (h : Tot (fun σ => B_i_marks (σ 0) m_0 m_1 m_2 m_3) Q) : Tot (fun σ => F_i_marks (σ 0) m_0 m_1 m_2 m_3) Q :=
  Tot.call (F := fun k => F_i_marks k m_0 m_1 m_2 m_3) (B := fun k => B_i_marks k m_0 m_1 m_2 m_3) (fun k => F_i_marks_succ k m_0 m_1 m_2 m_3) h
theorem loop_i_marks_L1 {Q : Int → List Int → Int → Int → ((Int × Unit) × (Unit)) → Prop} (I : Int → List Int → Int → Int → Prop) (μ : Int → List Int → Int → Int → Nat)
    (step : ∀ (n3 : Int) (t7 : List Int) (t8 : Int) (t9 : Int), I n3 t7 t8 t9 → ∀ again : (Nat → Nat) → (Int × List Int × Int × Int × Unit) → Option ((Int × Unit) × (Unit)), Dep 2 again → (∀ (y0 : Int) (y1 : List Int) (y2 : Int) (y3 : Int), I y0 y1 y2 y3 → μ y0 y1 y2 y3 < μ n3 t7 t8 t9 → Tot (fun σ => again σ (y0, y1, y2, y3, ())) (Q y0 y1 y2 y3)) →
      Tot (fun σ => B_i_marks_L1b (σ 0) (again σ) n3 t7 t8 t9) (Q n3 t7 t8 t9)) :
    ∀ (n3 : Int) (t7 : List Int) (t8 : Int) (t9 : Int), I n3 t7 t8 t9 → Tot (fun σ => B_i_marks_L1 (σ 0) (σ 0) (n3, t7, t8, t9, ())) (Q n3 t7 t8 t9) := fun n3 t7 t8 t9 hI =>
  Tot.loop (L := fun σ n t => B_i_marks_L1 (σ 0) n t) (B := fun σ g t => B_i_marks_L1b (σ 0) g t.1 t.2.1 t.2.2.1 t.2.2.2.1) (Q := fun t => Q t.1 t.2.1 t.2.2.1 t.2.2.2.1) 1 (by decide)
    (fun s s' h => by have e0 : s 0 = s' 0 := h 0 (by decide); simp only [e0]) (fun s s' h => by have e0 : s 0 = s' 0 := h 0 (by decide); simp only [e0]) (fun _ _ _ => rfl) (fun t => I t.1 t.2.1 t.2.2.1 t.2.2.2.1) (fun t => μ t.1 t.2.1 t.2.2.1 t.2.2.2.1)
    (fun t ht again hag h => step t.1 t.2.1 t.2.2.1 t.2.2.2.1 ht again hag (fun y0 y1 y2 y3 hI hm => h (y0, y1, y2, y3, ()) hI hm)) (n3, t7, t8, t9, ()) hI
def B_i_MarksOf_1 (k : Nat) (c_i_marks : (List (Int × Int × List Int)) → List Int → List Int → Bool → Option ((Int × Unit) × (Unit))) (m_0 : List (Int × Int × List Int)) (m_1 : List Int) (m_2 : List Int) (m_3 : Bool) (t1 : List Int) : Option ((Unit) × ((List Int × Unit) × Unit)) :=
  (c_i_marks m_0 m_1 m_2 m_3).bind fun r5 =>
  chk (room t1.length ([r5.1.1]).length) <|
  some ((), (((t1 ++ [r5.1.1]), ()), ()))
def F_i_MarksOf_1 : Nat → (List (Int × Int × List Int)) → List Int → List Int → Bool → List Int → Option ((Unit) × ((List Int × Unit) × Unit))
  | 0, _, _, _, _, _ => none
  | k + 1, m_0, m_1, m_2, m_3, t1 => B_i_MarksOf_1 k (F_i_marks k) m_0 m_1 m_2 m_3 t1
theorem F_i_MarksOf_1_succ (k : Nat) (m_0 : List (Int × Int × List Int)) (m_1 : List Int) (m_2 : List Int) (m_3 : Bool) (t1 : List Int) : F_i_MarksOf_1 (k + 1) m_0 m_1 m_2 m_3 t1 = B_i_MarksOf_1 k (F_i_marks k) m_0 m_1 m_2 m_3 t1 := rfl
theorem tot_i_MarksOf_1 {m_0 : List (Int × Int × List Int)} {m_1 : List Int} {m_2 : List Int} {m_3 : Bool} {t1 : List Int} {Q : (((Unit) × ((List Int × Unit) × Unit))) → Prop} (h : Tot (fun σ => B_i_MarksOf_1 (σ 0) (F_i_marks (σ 0)) m_0 m_1 m_2 m_3 t1) Q) : Tot (fun σ => F_i_MarksOf_1 (σ 0) m_0 m_1 m_2 m_3 t1) Q :=
  Tot.call (F := fun k => F_i_MarksOf_1 k m_0 m_1 m_2 m_3 t1) (B := fun k => B_i_MarksOf_1 k (F_i_marks k) m_0 m_1 m_2 m_3 t1) (fun k => F_i_MarksOf_1_succ k m_0 m_1 m_2 m_3 t1) h
def B_i_NewMachine_J1 (k : Nat) (again2 : (Int × (Unit × Unit × Unit × Bool × Unit) × (Unit × Unit × List Int × Bool × Unit) × Int × Int × Unit) → Option ((((List (Int × Int × List Int)) × Unit × List Int × Bool × Unit) × Unit) × (Unit))) (filled : Int) (t2_Done : Bool) (m_Memo : List Int) (m_Done : Bool) (t16 : Int) (t17 : Int) : Option ((((List (Int × Int × List Int)) × Unit × List Int × Bool × Unit) × Unit) × (Unit)) :=
  again2 (filled, ((), (), (), t2_Done, ()), ((), (), m_Memo, m_Done, ()), t16, w64 (t17 + 1), ())
def B_i_NewMachine_J3 (k : Nat) (t2_Done : Bool) (m_Nodes : List (Int × Int × List Int)) (m_Memo : List Int) (m_Done : Bool) : Option ((((List (Int × Int × List Int)) × Unit × List Int × Bool × Unit) × Unit) × (Unit)) :=
  some (((m_Nodes, (), m_Memo, m_Done, ()), ()), ())
def B_i_NewMachine_L2b (k : Nat) (again2 : (Int × (Unit × Unit × Unit × Bool × Unit) × (Unit × Unit × List Int × Bool × Unit) × Int × Int × Unit) → Option ((((List (Int × Int × List Int)) × Unit × List Int × Bool × Unit) × Unit) × (Unit))) (filled : Int) (t2_Done : Bool) (m_Memo : List Int) (m_Done : Bool) (t16 : Int) (t17 : Int) : Option ((((List (Int × Int × List Int)) × Unit × List Int × Bool × Unit) × Unit) × (Unit)) :=
  bif decide (t17 < t16) then
    bif decide (t17 ≥ filled) then
      chk (inb t17 m_Memo.length) <|
      chk (decide (t17.toNat < m_Memo.length)) <|
      jn (fun t => B_i_NewMachine_J1 k again2 t.1 t.2.1.2.2.2.1 t.2.2.1.2.2.1 t.2.2.1.2.2.2.1 t.2.2.2.1 t.2.2.2.2.1) (filled, ((), (), (), t2_Done, ()), ((), (), (m_Memo.set t17.toNat (-1)), m_Done, ()), t16, t17, ())
    else
      jn (fun t => B_i_NewMachine_J1 k again2 t.1 t.2.1.2.2.2.1 t.2.2.1.2.2.1 t.2.2.1.2.2.2.1 t.2.2.2.1 t.2.2.2.2.1) (filled, ((), (), (), t2_Done, ()), ((), (), m_Memo, m_Done, ()), t16, t17, ())
  else
    bif (filled == 1) then
      jn (fun t => B_i_NewMachine_J3 k t.1.2.2.2.1 t.2.1.1 t.2.1.2.2.1 t.2.1.2.2.2.1) (((), (), (), t2_Done, ()), ([(0, (0, []))], (), m_Memo, m_Done, ()), ())
    else
      jn (fun t => B_i_NewMachine_J3 k t.1.2.2.2.1 t.2.1.1 t.2.1.2.2.1 t.2.1.2.2.2.1) (((), (), (), t2_Done, ()), ([], (), m_Memo, m_Done, ()), ())
def B_i_NewMachine_L2 (k : Nat) (n : Nat) (t : Int × (Unit × Unit × Unit × Bool × Unit) × (Unit × Unit × List Int × Bool × Unit) × Int × Int × Unit) : Option ((((List (Int × Int × List Int)) × Unit × List Int × Bool × Unit) × Unit) × (Unit)) :=
  lfix n (fun again t => B_i_NewMachine_L2b k again t.1 t.2.1.2.2.2.1 t.2.2.1.2.2.1 t.2.2.1.2.2.2.1 t.2.2.2.1 t.2.2.2.2.1) t
def B_i_NewMachine_J0 (k : Nat) (filled : Int) (t2_Done : Bool) (t10 : Bool) : Option ((((List (Int × Int × List Int)) × Unit × List Int × Bool × Unit) × Unit) × (Unit)) :=
  bif t10 then
    some ((([], (), [], false, ()), ()), ())
  else
    chk ((decide (0 ≤ 20 ∧ 20 ≤ (lim : Int)) && (20 == 20))) <|
    B_i_NewMachine_L2 k k (filled, ((), (), (), t2_Done, ()), ((), (), (List.replicate (20 : Int).toNat (0 : Int)), false, ()), len (List.replicate (20 : Int).toNat (0 : Int)), 0, ())
def B_i_NewMachine (k : Nat) (filled : Int) : Option ((((List (Int × Int × List Int)) × Unit × List Int × Bool × Unit) × Unit) × (Unit)) :=
  bif decide (filled < 0) then
    jn (fun t => B_i_NewMachine_J0 k t.1 t.2.1.2.2.2.1 t.2.2.1) (filled, ((), (), (), false, ()), true, ())
  else
    jn (fun t => B_i_NewMachine_J0 k t.1 t.2.1.2.2.2.1 t.2.2.1) (filled, ((), (), (), false, ()), decide (filled > 1), ())
def F_i_NewMachine : Nat → Int → Option ((((List (Int × Int × List Int)) × Unit × List Int × Bool × Unit) × Unit) × (Unit))
  | 0, _ => none
  | k + 1, filled => B_i_NewMachine k filled
theorem F_i_NewMachine_succ (k : Nat) (filled : Int) : F_i_NewMachine (k + 1) filled = B_i_NewMachine k filled := rfl
theorem tot_i_NewMachine {filled : Int} {Q : (((((List (Int × Int × List Int)) × Unit × List Int × Bool × Unit) × Unit) × (Unit))) → Prop} (h : Tot (fun σ => B_i_NewMachine (σ 0) filled) Q) : Tot (fun σ => F_i_NewMachine (σ 0) filled) Q :=
  Tot.call (F := fun k => F_i_NewMachine k filled) (B := fun k => B_i_NewMachine k filled) (fun k => F_i_NewMachine_succ k filled) h
theorem loop_i_NewMachine_L2 {Q : Int → Bool → List Int → Bool → Int → Int → ((((List (Int × Int × List Int)) × Unit × List Int × Bool × Unit) × Unit) × (Unit)) → Prop} (I : Int → Bool → List Int → Bool → Int → Int → Prop) (μ : Int → Bool → List Int → Bool → Int → Int → Nat)
    (step : ∀ (filled : Int) (t2_Done : Bool) (m_Memo : List Int) (m_Done : Bool) (t16 : Int) (t17 : Int), I filled t2_Done m_Memo m_Done t16 t17 → ∀ again : (Nat → Nat) → (Int × (Unit × Unit × Unit × Bool × Unit) × (Unit × Unit × List Int × Bool × Unit) × Int × Int × Unit) → Option ((((List (Int × Int × List Int)) × Unit × List Int × Bool × Unit) × Unit) × (Unit)), Dep 2 again → (∀ (y0 : Int) (y1 : Bool) (y2 : List Int) (y3 : Bool) (y4 : Int) (y5 : Int), I y0 y1 y2 y3 y4 y5 → μ y0 y1 y2 y3 y4 y5 < μ filled t2_Done m_Memo m_Done t16 t17 → Tot (fun σ => again σ (y0, ((), (), (), y1, ()), ((), (), y2, y3, ()), y4, y5, ())) (Q y0 y1 y2 y3 y4 y5)) →
      Tot (fun σ => B_i_NewMachine_L2b (σ 0) (again σ) filled t2_Done m_Memo m_Done t16 t17) (Q filled t2_Done m_Memo m_Done t16 t17)) :
    ∀ (filled : Int) (t2_Done : Bool) (m_Memo : List Int) (m_Done : Bool) (t16 : Int) (t17 : Int), I filled t2_Done m_Memo m_Done t16 t17 → Tot (fun σ => B_i_NewMachine_L2 (σ 0) (σ 0) (filled, ((), (), (), t2_Done, ()), ((), (), m_Memo, m_Done, ()), t16, t17, ())) (Q filled t2_Done m_Memo m_Done t16 t17) := fun filled t2_Done m_Memo m_Done t16 t17 hI =>
  Tot.loop (L := fun σ n t => B_i_NewMachine_L2 (σ 0) n t) (B := fun σ g t => B_i_NewMachine_L2b (σ 0) g t.1 t.2.1.2.2.2.1 t.2.2.1.2.2.1 t.2.2.1.2.2.2.1 t.2.2.2.1 t.2.2.2.2.1) (Q := fun t => Q t.1 t.2.1.2.2.2.1 t.2.2.1.2.2.1 t.2.2.1.2.2.2.1 t.2.2.2.1 t.2.2.2.2.1) 1 (by decide)
    (fun s s' h => by have e0 : s 0 = s' 0 := h 0 (by decide); simp only [e0]) (fun s s' h => by have e0 : s 0 = s' 0 := h 0 (by decide); simp only [e0]) (fun _ _ _ => rfl) (fun t => I t.1 t.2.1.2.2.2.1 t.2.2.1.2.2.1 t.2.2.1.2.2.2.1 t.2.2.2.1 t.2.2.2.2.1) (fun t => μ t.1 t.2.1.2.2.2.1 t.2.2.1.2.2.1 t.2.2.1.2.2.2.1 t.2.2.2.1 t.2.2.2.2.1)
    (fun t ht again hag h => step t.1 t.2.1.2.2.2.1 t.2.2.1.2.2.1 t.2.2.1.2.2.2.1 t.2.2.2.1 t.2.2.2.2.1 ht again hag (fun y0 y1 y2 y3 y4 y5 hI hm => h (y0, ((), (), (), y1, ()), ((), (), y2, y3, ()), y4, y5, ()) hI hm)) (filled, ((), (), (), t2_Done, ()), ((), (), m_Memo, m_Done, ()), t16, t17, ()) hI
def B_slices_Clone_int_int (k : Nat) (s : List Int) : Option ((List Int × Unit) × (Unit)) :=
  chk (room ([] : List Int).length s.length) <|
  some ((s, ()), ())
def F_slices_Clone_int_int : Nat → List Int → Option ((List Int × Unit) × (Unit))
  | 0, _ => none
  | k + 1, s => B_slices_Clone_int_int k s
theorem F_slices_Clone_int_int_succ (k : Nat) (s : List Int) : F_slices_Clone_int_int (k + 1) s = B_slices_Clone_int_int k s := rfl
theorem tot_slices_Clone_int_int {s : List Int} {Q : (((List Int × Unit) × (Unit))) → Prop} (h : Tot (fun σ => B_slices_Clone_int_int (σ 0) s) Q) : Tot (fun σ => F_slices_Clone_int_int (σ 0) s) Q :=
  Tot.call (F := fun k => F_slices_Clone_int_int k s) (B := fun k => B_slices_Clone_int_int k s) (fun k => F_slices_Clone_int_int_succ k s) h
def B_i_Machine_nodes_J0 (k : Nat) (again1 : (((List (Int × Int × List Int)) × List Int × List Int × Bool × Unit) × Int × Unit) → Option ((Int × Unit) × (((List (Int × Int × List Int)) × List Int × List Int × Bool × Unit) × Unit))) (m_Nodes : List (Int × Int × List Int)) (m_Stack : List Int) (m_Memo : List Int) (m_Done : Bool) (n3 : Int) (t27 : Bool) : Option ((Int × Unit) × (((List (Int × Int × List Int)) × List Int × List Int × Bool × Unit) × Unit)) :=
  bif t27 then
    again1 ((m_Nodes, m_Stack, m_Memo, m_Done, ()), w64 (n3 + 1), ())
  else
    some ((n3, ()), ((m_Nodes, m_Stack, m_Memo, m_Done, ()), ()))
def B_i_Machine_nodes_L1b (k : Nat) (again1 : (((List (Int × Int × List Int)) × List Int × List Int × Bool × Unit) × Int × Unit) → Option ((Int × Unit) × (((List (Int × Int × List Int)) × List Int × List Int × Bool × Unit) × Unit))) (m_Nodes : List (Int × Int × List Int)) (m_Stack : List Int) (m_Memo : List Int) (m_Done : Bool) (n3 : Int) : Option ((Int × Unit) × (((List (Int × Int × List Int)) × List Int × List Int × Bool × Unit) × Unit)) :=
  bif decide (n3 < (len m_Stack)) then
    chk (inb (w64 ((w64 ((len m_Stack) - 1)) - n3)) m_Stack.length) <|
    chk (decide ((w64 ((w64 ((len m_Stack) - 1)) - n3)).toNat < m_Stack.length)) <|
    jn (fun t => B_i_Machine_nodes_J0 k again1 t.1.1 t.1.2.1 t.1.2.2.1 t.1.2.2.2.1 t.2.1 t.2.2.1) ((m_Nodes, m_Stack, m_Memo, m_Done, ()), n3, decide ((m_Stack.getD ((w64 ((w64 ((len m_Stack) - 1)) - n3)).toNat) (0 : Int)) ≥ 0), ())
  else
    jn (fun t => B_i_Machine_nodes_J0 k again1 t.1.1 t.1.2.1 t.1.2.2.1 t.1.2.2.2.1 t.2.1 t.2.2.1) ((m_Nodes, m_Stack, m_Memo, m_Done, ()), n3, false, ())
def B_i_Machine_nodes_L1 (k : Nat) (n : Nat) (t : ((List (Int × Int × List Int)) × List Int × List Int × Bool × Unit) × Int × Unit) : Option ((Int × Unit) × (((List (Int × Int × List Int)) × List Int × List Int × Bool × Unit) × Unit)) :=
  lfix n (fun again t => B_i_Machine_nodes_L1b k again t.1.1 t.1.2.1 t.1.2.2.1 t.1.2.2.2.1 t.2.1) t
def B_i_Machine_nodes (k : Nat) (m_Nodes : List (Int × Int × List Int)) (m_Stack : List Int) (m_Memo : List Int) (m_Done : Bool) : Option ((Int × Unit) × (((List (Int × Int × List Int)) × List Int × List Int × Bool × Unit) × Unit)) :=
  B_i_Machine_nodes_L1 k k ((m_Nodes, m_Stack, m_Memo, m_Done, ()), 0, ())
end Go.Gx

/-
  The functions, as Gx tells them (printed by gen.py).
-/
import Derived.Test.YtpcnmlpikiigaaaXSh1
set_option linter.unusedVariables false
namespace Go.Gx
def B_s_saveTuple_J4 (k : Nat) (c_s_emit : (List (Int × Int)) → (List (Int × Int)) → Option (((List (Int × Int)) × Unit) × (Unit))) (c_s_memoed : (List (Int × Int)) → List Int → Int → Option (((List (Int × Int)) × List Int × Unit) × (Unit))) (c_s_saveAll : (List (Int × Int × List Int)) → Int → Int → List Int → (List (Int × Int)) → List Int → Option (((List (Int × Int)) × List Int × Unit) × (Unit))) (at2 : Int) (ops : List (Int × Int)) (memo : List Int) : Option (((List (Int × Int)) × List Int × Unit) × (Unit)) :=
  chk (inb at2 memo.length) <|
  (c_s_emit ops ([(16, (rdx (0 : Int) memo at2))])).bind fun r87 =>
  some ((r87.1.1, memo, ()), ())
def B_s_saveTuple_J2 (k : Nat) (c_s_emit : (List (Int × Int)) → (List (Int × Int)) → Option (((List (Int × Int)) × Unit) × (Unit))) (c_s_memoed : (List (Int × Int)) → List Int → Int → Option (((List (Int × Int)) × List Int × Unit) × (Unit))) (c_s_saveAll : (List (Int × Int × List Int)) → Int → Int → List Int → (List (Int × Int)) → List Int → Option (((List (Int × Int)) × List Int × Unit) × (Unit))) (again3 : (Int × (List (Int × Int)) × List Int × List Int × Bool × Int × Unit) → Option (((List (Int × Int)) × List Int × Unit) × (Unit))) (at2 : Int) (ops : List (Int × Int)) (memo : List Int) (kids : List Int) (short : Bool) (i : Int) (t67 : Bool) : Option (((List (Int × Int)) × List Int × Unit) × (Unit)) :=
  bif t67 then
    (c_s_emit ops ([(17, 0)])).bind fun r73 =>
    again3 (at2, r73.1.1, memo, kids, short, w64 (i + 1), ())
  else
    bif (!short) then
      (c_s_emit ops ([(18, 0)])).bind fun r79 =>
      jn (fun t => B_s_saveTuple_J4 k c_s_emit c_s_memoed c_s_saveAll t.1 t.2.1 t.2.2.1) (at2, r79.1.1, memo, ())
    else
      jn (fun t => B_s_saveTuple_J4 k c_s_emit c_s_memoed c_s_saveAll t.1 t.2.1 t.2.2.1) (at2, ops, memo, ())
def B_s_saveTuple_L3b (k : Nat) (c_s_emit : (List (Int × Int)) → (List (Int × Int)) → Option (((List (Int × Int)) × Unit) × (Unit))) (c_s_memoed : (List (Int × Int)) → List Int → Int → Option (((List (Int × Int)) × List Int × Unit) × (Unit))) (c_s_saveAll : (List (Int × Int × List Int)) → Int → Int → List Int → (List (Int × Int)) → List Int → Option (((List (Int × Int)) × List Int × Unit) × (Unit))) (again3 : (Int × (List (Int × Int)) × List Int × List Int × Bool × Int × Unit) → Option (((List (Int × Int)) × List Int × Unit) × (Unit))) (at2 : Int) (ops : List (Int × Int)) (memo : List Int) (kids : List Int) (short : Bool) (i : Int) : Option (((List (Int × Int)) × List Int × Unit) × (Unit)) :=
  bif decide (i < (len kids)) then
    jn (fun t => B_s_saveTuple_J2 k c_s_emit c_s_memoed c_s_saveAll again3 t.1 t.2.1 t.2.2.1 t.2.2.2.1 t.2.2.2.2.1 t.2.2.2.2.2.1 t.2.2.2.2.2.2.1) (at2, ops, memo, kids, short, i, short, ())
  else
    jn (fun t => B_s_saveTuple_J2 k c_s_emit c_s_memoed c_s_saveAll again3 t.1 t.2.1 t.2.2.1 t.2.2.2.1 t.2.2.2.2.1 t.2.2.2.2.2.1 t.2.2.2.2.2.2.1) (at2, ops, memo, kids, short, i, false, ())
def B_s_saveTuple_L3 (k : Nat) (c_s_emit : (List (Int × Int)) → (List (Int × Int)) → Option (((List (Int × Int)) × Unit) × (Unit))) (c_s_memoed : (List (Int × Int)) → List Int → Int → Option (((List (Int × Int)) × List Int × Unit) × (Unit))) (c_s_saveAll : (List (Int × Int × List Int)) → Int → Int → List Int → (List (Int × Int)) → List Int → Option (((List (Int × Int)) × List Int × Unit) × (Unit))) (n : Nat) (t : Int × (List (Int × Int)) × List Int × List Int × Bool × Int × Unit) : Option (((List (Int × Int)) × List Int × Unit) × (Unit)) :=
  lfix n (fun again t => B_s_saveTuple_L3b k c_s_emit c_s_memoed c_s_saveAll again t.1 t.2.1 t.2.2.1 t.2.2.2.1 t.2.2.2.2.1 t.2.2.2.2.2.1) t
theorem B_s_saveTuple_L3_succ (k : Nat) (c_s_emit : (List (Int × Int)) → (List (Int × Int)) → Option (((List (Int × Int)) × Unit) × (Unit))) (c_s_memoed : (List (Int × Int)) → List Int → Int → Option (((List (Int × Int)) × List Int × Unit) × (Unit))) (c_s_saveAll : (List (Int × Int × List Int)) → Int → Int → List Int → (List (Int × Int)) → List Int → Option (((List (Int × Int)) × List Int × Unit) × (Unit))) (n : Nat) (at2 : Int) (ops : List (Int × Int)) (memo : List Int) (kids : List Int) (short : Bool) (i : Int) : B_s_saveTuple_L3 k c_s_emit c_s_memoed c_s_saveAll (n + 1) (at2, ops, memo, kids, short, i, ()) = B_s_saveTuple_L3b k c_s_emit c_s_memoed c_s_saveAll (B_s_saveTuple_L3 k c_s_emit c_s_memoed c_s_saveAll n) at2 ops memo kids short i := rfl
def B_s_saveTuple_J5 (k : Nat) (c_s_emit : (List (Int × Int)) → (List (Int × Int)) → Option (((List (Int × Int)) × Unit) × (Unit))) (c_s_memoed : (List (Int × Int)) → List Int → Int → Option (((List (Int × Int)) × List Int × Unit) × (Unit))) (c_s_saveAll : (List (Int × Int × List Int)) → Int → Int → List Int → (List (Int × Int)) → List Int → Option (((List (Int × Int)) × List Int × Unit) × (Unit))) (at2 : Int) (ops : List (Int × Int)) (memo : List Int) (c : Int) : Option (((List (Int × Int)) × List Int × Unit) × (Unit)) :=
  (c_s_emit ops ([(c, 0)])).bind fun r97 =>
  (c_s_memoed r97.1.1 memo at2).bind fun r100 =>
  some ((r100.1.1, r100.1.2.1, ()), ())
def B_s_saveTuple_J1 (k : Nat) (c_s_emit : (List (Int × Int)) → (List (Int × Int)) → Option (((List (Int × Int)) × Unit) × (Unit))) (c_s_memoed : (List (Int × Int)) → List Int → Int → Option (((List (Int × Int)) × List Int × Unit) × (Unit))) (c_s_saveAll : (List (Int × Int × List Int)) → Int → Int → List Int → (List (Int × Int)) → List Int → Option (((List (Int × Int)) × List Int × Unit) × (Unit))) (level : Int) (at2 : Int) (ops : List (Int × Int)) (memo : List Int) (g_Nodes : List (Int × Int × List Int)) (g_Root : Int) (kids : List Int) (short : Bool) : Option (((List (Int × Int)) × List Int × Unit) × (Unit)) :=
  (c_s_saveAll g_Nodes g_Root level kids ops memo).bind fun r53 =>
  chk (inb at2 r53.1.2.1.length) <|
  bif decide ((rdx (0 : Int) r53.1.2.1 at2) ≥ 0) then
    B_s_saveTuple_L3 k c_s_emit c_s_memoed c_s_saveAll k (at2, r53.1.1, r53.1.2.1, kids, short, 0, ())
  else
    bif short then
      jn (fun t => B_s_saveTuple_J5 k c_s_emit c_s_memoed c_s_saveAll t.1 t.2.1 t.2.2.1 t.2.2.2.1) (at2, r53.1.1, r53.1.2.1, w64 (4 + (len kids)), ())
    else
      jn (fun t => B_s_saveTuple_J5 k c_s_emit c_s_memoed c_s_saveAll t.1 t.2.1 t.2.2.1 t.2.2.2.1) (at2, r53.1.1, r53.1.2.1, 3, ())
def B_s_saveTuple_J0 (k : Nat) (c_s_emit : (List (Int × Int)) → (List (Int × Int)) → Option (((List (Int × Int)) × Unit) × (Unit))) (c_s_memoed : (List (Int × Int)) → List Int → Int → Option (((List (Int × Int)) × List Int × Unit) × (Unit))) (c_s_saveAll : (List (Int × Int × List Int)) → Int → Int → List Int → (List (Int × Int)) → List Int → Option (((List (Int × Int)) × List Int × Unit) × (Unit))) (level : Int) (at2 : Int) (ops : List (Int × Int)) (memo : List Int) (g_Nodes : List (Int × Int × List Int)) (g_Root : Int) (kids : List Int) (short : Bool) : Option (((List (Int × Int)) × List Int × Unit) × (Unit)) :=
  bif (!short) then
    (c_s_emit ops ([(2, 0)])).bind fun r46 =>
    jn (fun t => B_s_saveTuple_J1 k c_s_emit c_s_memoed c_s_saveAll t.1 t.2.1 t.2.2.1 t.2.2.2.1 t.2.2.2.2.1.1 t.2.2.2.2.1.2.1 t.2.2.2.2.2.1 t.2.2.2.2.2.2.1) (level, at2, r46.1.1, memo, (g_Nodes, g_Root, ()), kids, short, ())
  else
    jn (fun t => B_s_saveTuple_J1 k c_s_emit c_s_memoed c_s_saveAll t.1 t.2.1 t.2.2.1 t.2.2.2.1 t.2.2.2.2.1.1 t.2.2.2.2.1.2.1 t.2.2.2.2.2.1 t.2.2.2.2.2.2.1) (level, at2, ops, memo, (g_Nodes, g_Root, ()), kids, short, ())
def B_s_saveTuple (k : Nat) (c_s_emit : (List (Int × Int)) → (List (Int × Int)) → Option (((List (Int × Int)) × Unit) × (Unit))) (c_s_memoed : (List (Int × Int)) → List Int → Int → Option (((List (Int × Int)) × List Int × Unit) × (Unit))) (c_s_saveAll : (List (Int × Int × List Int)) → Int → Int → List Int → (List (Int × Int)) → List Int → Option (((List (Int × Int)) × List Int × Unit) × (Unit))) (g_0 : List (Int × Int × List Int)) (g_1 : Int) (level : Int) (at2 : Int) (ops : List (Int × Int)) (memo : List Int) : Option (((List (Int × Int)) × List Int × Unit) × (Unit)) :=
  chk (inb at2 g_0.length) <|
  bif ((len (((rdx ((0 : Int), ((0 : Int), ([] : List Int))) g_0 at2).2).2)) == 0) then
    (c_s_emit ops ([(4, 0)])).bind fun r28 =>
    (c_s_memoed r28.1.1 memo at2).bind fun r31 =>
    some ((r31.1.1, r31.1.2.1, ()), ())
  else
    bif decide (level > 0) then
      jn (fun t => B_s_saveTuple_J0 k c_s_emit c_s_memoed c_s_saveAll t.1 t.2.1 t.2.2.1 t.2.2.2.1 t.2.2.2.2.1.1 t.2.2.2.2.1.2.1 t.2.2.2.2.2.1 t.2.2.2.2.2.2.1) (level, at2, ops, memo, (g_0, g_1, ()), ((rdx ((0 : Int), ((0 : Int), ([] : List Int))) g_0 at2).2).2, decide ((len (((rdx ((0 : Int), ((0 : Int), ([] : List Int))) g_0 at2).2).2)) ≤ 2), ())
    else
      jn (fun t => B_s_saveTuple_J0 k c_s_emit c_s_memoed c_s_saveAll t.1 t.2.1 t.2.2.1 t.2.2.2.1 t.2.2.2.2.1.1 t.2.2.2.2.1.2.1 t.2.2.2.2.2.1 t.2.2.2.2.2.2.1) (level, at2, ops, memo, (g_0, g_1, ()), ((rdx ((0 : Int), ((0 : Int), ([] : List Int))) g_0 at2).2).2, false, ())
def B_s_fill_L1b (k : Nat) (c_s_emit : (List (Int × Int)) → (List (Int × Int)) → Option (((List (Int × Int)) × Unit) × (Unit))) (c_s_saveAll : (List (Int × Int × List Int)) → Int → Int → List Int → (List (Int × Int)) → List Int → Option (((List (Int × Int)) × List Int × Unit) × (Unit))) (again1 : (Int × List Int × Int × Int × (List (Int × Int)) × List Int × ((List (Int × Int × List Int)) × Int × Unit) × Int × Unit) → Option (((List (Int × Int)) × List Int × Unit) × (Unit))) (level : Int) (kids : List Int) (each : Int) (one : Int) (ops : List (Int × Int)) (memo : List Int) (g_Nodes : List (Int × Int × List Int)) (g_Root : Int) (i : Int) : Option (((List (Int × Int)) × List Int × Unit) × (Unit)) :=
  bif decide (i < (len kids)) then
    chk (cutb i (w64 (i + each)) kids.length) <|
    (c_s_saveAll g_Nodes g_Root level (sub kids i (w64 (i + each))) ops memo).bind fun r64 =>
    (c_s_emit r64.1.1 ([(one, 0)])).bind fun r71 =>
    again1 (level, kids, each, one, r71.1.1, r64.1.2.1, (g_Nodes, g_Root, ()), w64 (i + each), ())
  else
    some ((ops, memo, ()), ())
def B_s_fill_L1 (k : Nat) (c_s_emit : (List (Int × Int)) → (List (Int × Int)) → Option (((List (Int × Int)) × Unit) × (Unit))) (c_s_saveAll : (List (Int × Int × List Int)) → Int → Int → List Int → (List (Int × Int)) → List Int → Option (((List (Int × Int)) × List Int × Unit) × (Unit))) (n : Nat) (t : Int × List Int × Int × Int × (List (Int × Int)) × List Int × ((List (Int × Int × List Int)) × Int × Unit) × Int × Unit) : Option (((List (Int × Int)) × List Int × Unit) × (Unit)) :=
  lfix n (fun again t => B_s_fill_L1b k c_s_emit c_s_saveAll again t.1 t.2.1 t.2.2.1 t.2.2.2.1 t.2.2.2.2.1 t.2.2.2.2.2.1 t.2.2.2.2.2.2.1.1 t.2.2.2.2.2.2.1.2.1 t.2.2.2.2.2.2.2.1) t
theorem B_s_fill_L1_succ (k : Nat) (c_s_emit : (List (Int × Int)) → (List (Int × Int)) → Option (((List (Int × Int)) × Unit) × (Unit))) (c_s_saveAll : (List (Int × Int × List Int)) → Int → Int → List Int → (List (Int × Int)) → List Int → Option (((List (Int × Int)) × List Int × Unit) × (Unit))) (n : Nat) (level : Int) (kids : List Int) (each : Int) (one : Int) (ops : List (Int × Int)) (memo : List Int) (g_Nodes : List (Int × Int × List Int)) (g_Root : Int) (i : Int) : B_s_fill_L1 k c_s_emit c_s_saveAll (n + 1) (level, kids, each, one, ops, memo, (g_Nodes, g_Root, ()), i, ()) = B_s_fill_L1b k c_s_emit c_s_saveAll (B_s_fill_L1 k c_s_emit c_s_saveAll n) level kids each one ops memo g_Nodes g_Root i := rfl
def B_s_fill_J0 (k : Nat) (c_s_emit : (List (Int × Int)) → (List (Int × Int)) → Option (((List (Int × Int)) × Unit) × (Unit))) (c_s_saveAll : (List (Int × Int × List Int)) → Int → Int → List Int → (List (Int × Int)) → List Int → Option (((List (Int × Int)) × List Int × Unit) × (Unit))) (level : Int) (kids : List Int) (each : Int) (one : Int) (all : Int) (ops : List (Int × Int)) (memo : List Int) (g_Nodes : List (Int × Int × List Int)) (g_Root : Int) (t26 : Bool) : Option (((List (Int × Int)) × List Int × Unit) × (Unit)) :=
  bif t26 then
    (c_s_emit ops ([(2, 0)])).bind fun r30 =>
    (c_s_saveAll g_Nodes g_Root level kids r30.1.1 memo).bind fun r37 =>
    (c_s_emit r37.1.1 ([(all, 0)])).bind fun r44 =>
    some ((r44.1.1, r37.1.2.1, ()), ())
  else
    B_s_fill_L1 k c_s_emit c_s_saveAll k (level, kids, each, one, ops, memo, (g_Nodes, g_Root, ()), 0, ())
def B_s_fill (k : Nat) (c_s_emit : (List (Int × Int)) → (List (Int × Int)) → Option (((List (Int × Int)) × Unit) × (Unit))) (c_s_saveAll : (List (Int × Int × List Int)) → Int → Int → List Int → (List (Int × Int)) → List Int → Option (((List (Int × Int)) × List Int × Unit) × (Unit))) (g_0 : List (Int × Int × List Int)) (g_1 : Int) (level : Int) (kids : List Int) (each : Int) (one : Int) (all : Int) (ops : List (Int × Int)) (memo : List Int) : Option (((List (Int × Int)) × List Int × Unit) × (Unit)) :=
  bif decide (level > 0) then
    jn (fun t => B_s_fill_J0 k c_s_emit c_s_saveAll t.1 t.2.1 t.2.2.1 t.2.2.2.1 t.2.2.2.2.1 t.2.2.2.2.2.1 t.2.2.2.2.2.2.1 t.2.2.2.2.2.2.2.1.1 t.2.2.2.2.2.2.2.1.2.1 t.2.2.2.2.2.2.2.2.1) (level, kids, each, one, all, ops, memo, (g_0, g_1, ()), decide ((len kids) > each), ())
  else
    jn (fun t => B_s_fill_J0 k c_s_emit c_s_saveAll t.1 t.2.1 t.2.2.1 t.2.2.2.1 t.2.2.2.2.1 t.2.2.2.2.2.1 t.2.2.2.2.2.2.1 t.2.2.2.2.2.2.2.1.1 t.2.2.2.2.2.2.2.1.2.1 t.2.2.2.2.2.2.2.2.1) (level, kids, each, one, all, ops, memo, (g_0, g_1, ()), false, ())
def B_s_save_J0 (k : Nat) (c_s_emit : (List (Int × Int)) → (List (Int × Int)) → Option (((List (Int × Int)) × Unit) × (Unit))) (c_s_memoed : (List (Int × Int)) → List Int → Int → Option (((List (Int × Int)) × List Int × Unit) × (Unit))) (c_s_saveTuple : (List (Int × Int × List Int)) → Int → Int → Int → (List (Int × Int)) → List Int → Option (((List (Int × Int)) × List Int × Unit) × (Unit))) (c_s_fill : (List (Int × Int × List Int)) → Int → Int → List Int → Int → Int → Int → (List (Int × Int)) → List Int → Option (((List (Int × Int)) × List Int × Unit) × (Unit))) (c_s_saveAll : (List (Int × Int × List Int)) → Int → Int → List Int → (List (Int × Int)) → List Int → Option (((List (Int × Int)) × List Int × Unit) × (Unit))) (ops : List (Int × Int)) (memo : List Int) : Option (((List (Int × Int)) × List Int × Unit) × (Unit)) :=
  some ((ops, memo, ()), ())
def B_s_save (k : Nat) (c_s_emit : (List (Int × Int)) → (List (Int × Int)) → Option (((List (Int × Int)) × Unit) × (Unit))) (c_s_memoed : (List (Int × Int)) → List Int → Int → Option (((List (Int × Int)) × List Int × Unit) × (Unit))) (c_s_saveTuple : (List (Int × Int × List Int)) → Int → Int → Int → (List (Int × Int)) → List Int → Option (((List (Int × Int)) × List Int × Unit) × (Unit))) (c_s_fill : (List (Int × Int × List Int)) → Int → Int → List Int → Int → Int → Int → (List (Int × Int)) → List Int → Option (((List (Int × Int)) × List Int × Unit) × (Unit))) (c_s_saveAll : (List (Int × Int × List Int)) → Int → Int → List Int → (List (Int × Int)) → List Int → Option (((List (Int × Int)) × List Int × Unit) × (Unit))) (g_0 : List (Int × Int × List Int)) (g_1 : Int) (level : Int) (at2 : Int) (ops : List (Int × Int)) (memo : List Int) : Option (((List (Int × Int)) × List Int × Unit) × (Unit)) :=
  chk (inb at2 g_0.length) <|
  chk (inb at2 memo.length) <|
  bif decide ((rdx (0 : Int) memo at2) ≥ 0) then
    chk (inb at2 memo.length) <|
    (c_s_emit ops ([(16, (rdx (0 : Int) memo at2))])).bind fun r30 =>
    some ((r30.1.1, memo, ()), ())
  else
    bif (((rdx ((0 : Int), ((0 : Int), ([] : List Int))) g_0 at2).1) == 0) then
      (c_s_emit ops ([(0, ((rdx ((0 : Int), ((0 : Int), ([] : List Int))) g_0 at2).2).1)])).bind fun r41 =>
      some ((r41.1.1, memo, ()), ())
    else
      bif (((rdx ((0 : Int), ((0 : Int), ([] : List Int))) g_0 at2).1) == 1) then
        (c_s_emit ops ([(1, ((rdx ((0 : Int), ((0 : Int), ([] : List Int))) g_0 at2).2).1)])).bind fun r50 =>
        (c_s_memoed r50.1.1 memo at2).bind fun r53 =>
        some ((r53.1.1, r53.1.2.1, ()), ())
      else
        bif (((rdx ((0 : Int), ((0 : Int), ([] : List Int))) g_0 at2).1) == 2) then
          (c_s_saveTuple g_0 g_1 level at2 ops memo).bind fun r63 =>
          some ((r63.1.1, r63.1.2.1, ()), ())
        else
          bif (((rdx ((0 : Int), ((0 : Int), ([] : List Int))) g_0 at2).1) == 3) then
            (c_s_emit ops ([(7, 0)])).bind fun r72 =>
            (c_s_memoed r72.1.1 memo at2).bind fun r75 =>
            (c_s_fill g_0 g_1 level (((rdx ((0 : Int), ((0 : Int), ([] : List Int))) g_0 at2).2).2) 1 8 9 r75.1.1 r75.1.2.1).bind fun r84 =>
            some ((r84.1.1, r84.1.2.1, ()), ())
          else
            bif (((rdx ((0 : Int), ((0 : Int), ([] : List Int))) g_0 at2).1) == 4) then
              (c_s_emit ops ([(10, 0)])).bind fun r93 =>
              (c_s_memoed r93.1.1 memo at2).bind fun r96 =>
              (c_s_fill g_0 g_1 level (((rdx ((0 : Int), ((0 : Int), ([] : List Int))) g_0 at2).2).2) 2 11 12 r96.1.1 r96.1.2.1).bind fun r105 =>
              some ((r105.1.1, r105.1.2.1, ()), ())
            else
              (c_s_emit ops ([(13, ((rdx ((0 : Int), ((0 : Int), ([] : List Int))) g_0 at2).2).1)])).bind fun r114 =>
              (c_s_memoed r114.1.1 memo at2).bind fun r117 =>
              (c_s_saveAll g_0 g_1 level (((rdx ((0 : Int), ((0 : Int), ([] : List Int))) g_0 at2).2).2) r117.1.1 r117.1.2.1).bind fun r127 =>
              bif decide ((len (((rdx ((0 : Int), ((0 : Int), ([] : List Int))) g_0 at2).2).2)) > 0) then
                (c_s_emit r127.1.1 ([(14, 0)])).bind fun r137 =>
                jn (fun t => B_s_save_J0 k c_s_emit c_s_memoed c_s_saveTuple c_s_fill c_s_saveAll t.1 t.2.1) (r137.1.1, r127.1.2.1, ())
              else
                jn (fun t => B_s_save_J0 k c_s_emit c_s_memoed c_s_saveTuple c_s_fill c_s_saveAll t.1 t.2.1) (r127.1.1, r127.1.2.1, ())
mutual
def F_s_saveAll : Nat → (List (Int × Int × List Int)) → Int → Int → List Int → (List (Int × Int)) → List Int → Option (((List (Int × Int)) × List Int × Unit) × (Unit))
  | 0, _, _, _, _, _, _ => none
  | k + 1, g_0, g_1, level, list, ops, memo => B_s_saveAll k (F_s_save k) g_0 g_1 level list ops memo
def F_s_saveTuple : Nat → (List (Int × Int × List Int)) → Int → Int → Int → (List (Int × Int)) → List Int → Option (((List (Int × Int)) × List Int × Unit) × (Unit))
  | 0, _, _, _, _, _, _ => none
  | k + 1, g_0, g_1, level, at2, ops, memo => B_s_saveTuple k (F_s_emit k) (F_s_memoed k) (F_s_saveAll k) g_0 g_1 level at2 ops memo
def F_s_fill : Nat → (List (Int × Int × List Int)) → Int → Int → List Int → Int → Int → Int → (List (Int × Int)) → List Int → Option (((List (Int × Int)) × List Int × Unit) × (Unit))
  | 0, _, _, _, _, _, _, _, _, _ => none
  | k + 1, g_0, g_1, level, kids, each, one, all, ops, memo => B_s_fill k (F_s_emit k) (F_s_saveAll k) g_0 g_1 level kids each one all ops memo
def F_s_save : Nat → (List (Int × Int × List Int)) → Int → Int → Int → (List (Int × Int)) → List Int → Option (((List (Int × Int)) × List Int × Unit) × (Unit))
  | 0, _, _, _, _, _, _ => none
  | k + 1, g_0, g_1, level, at2, ops, memo => B_s_save k (F_s_emit k) (F_s_memoed k) (F_s_saveTuple k) (F_s_fill k) (F_s_saveAll k) g_0 g_1 level at2 ops memo
end
theorem F_s_saveAll_succ (k : Nat) (g_0 : List (Int × Int × List Int)) (g_1 : Int) (level : Int) (list : List Int) (ops : List (Int × Int)) (memo : List Int) : F_s_saveAll (k + 1) g_0 g_1 level list ops memo = B_s_saveAll k (F_s_save k) g_0 g_1 level list ops memo := by rw [F_s_saveAll]
theorem tot_s_saveAll {g_0 : List (Int × Int × List Int)} {g_1 : Int} {level : Int} {list : List Int} {ops : List (Int × Int)} {memo : List Int} {Q : ((((List (Int × Int)) × List Int × Unit) × (Unit))) → Prop} (h : Tot (fun σ => B_s_saveAll (σ 0) (F_s_save (σ 0)) g_0 g_1 level list ops memo) Q) : Tot (fun σ => F_s_saveAll (σ 0) g_0 g_1 level list ops memo) Q :=
  Tot.call (F := fun k => F_s_saveAll k g_0 g_1 level list ops memo) (B := fun k => B_s_saveAll k (F_s_save k) g_0 g_1 level list ops memo) (fun k => F_s_saveAll_succ k g_0 g_1 level list ops memo) h
theorem loop_s_saveAll_L0 {Q : Int → List Int → (List (Int × Int)) → List Int → (List (Int × Int × List Int)) → Int → Int → (((List (Int × Int)) × List Int × Unit) × (Unit)) → Prop} (I : Int → List Int → (List (Int × Int)) → List Int → (List (Int × Int × List Int)) → Int → Int → Prop) (μ : Int → List Int → (List (Int × Int)) → List Int → (List (Int × Int × List Int)) → Int → Int → Nat)
    (step : ∀ (level : Int) (list : List Int) (ops : List (Int × Int)) (memo : List Int) (g_Nodes : List (Int × Int × List Int)) (g_Root : Int) (i : Int), I level list ops memo g_Nodes g_Root i → ∀ again : (Nat → Nat) → (Int × List Int × (List (Int × Int)) × List Int × ((List (Int × Int × List Int)) × Int × Unit) × Int × Unit) → Option (((List (Int × Int)) × List Int × Unit) × (Unit)), Dep 2 again → (∀ (y0 : Int) (y1 : List Int) (y2 : List (Int × Int)) (y3 : List Int) (y4 : List (Int × Int × List Int)) (y5 : Int) (y6 : Int), I y0 y1 y2 y3 y4 y5 y6 → μ y0 y1 y2 y3 y4 y5 y6 < μ level list ops memo g_Nodes g_Root i → Tot (fun σ => again σ (y0, y1, y2, y3, (y4, y5, ()), y6, ())) (Q y0 y1 y2 y3 y4 y5 y6)) →
      Tot (fun σ => B_s_saveAll_L0b (σ 0) (F_s_save (σ 0)) (again σ) level list ops memo g_Nodes g_Root i) (Q level list ops memo g_Nodes g_Root i)) :
    ∀ (level : Int) (list : List Int) (ops : List (Int × Int)) (memo : List Int) (g_Nodes : List (Int × Int × List Int)) (g_Root : Int) (i : Int), I level list ops memo g_Nodes g_Root i → Tot (fun σ => B_s_saveAll_L0 (σ 0) (F_s_save (σ 0)) (σ 0) (level, list, ops, memo, (g_Nodes, g_Root, ()), i, ())) (Q level list ops memo g_Nodes g_Root i) := fun level list ops memo g_Nodes g_Root i hI =>
  Tot.loop (L := fun σ n t => B_s_saveAll_L0 (σ 0) (F_s_save (σ 0)) n t) (B := fun σ g t => B_s_saveAll_L0b (σ 0) (F_s_save (σ 0)) g t.1 t.2.1 t.2.2.1 t.2.2.2.1 t.2.2.2.2.1.1 t.2.2.2.2.1.2.1 t.2.2.2.2.2.1) (Q := fun t => Q t.1 t.2.1 t.2.2.1 t.2.2.2.1 t.2.2.2.2.1.1 t.2.2.2.2.1.2.1 t.2.2.2.2.2.1) 1 (by decide)
    (fun s s' h => by have e0 : s 0 = s' 0 := h 0 (by decide); simp only [e0]) (fun s s' h => by have e0 : s 0 = s' 0 := h 0 (by decide); simp only [e0]) (fun _ _ _ => rfl) (fun t => I t.1 t.2.1 t.2.2.1 t.2.2.2.1 t.2.2.2.2.1.1 t.2.2.2.2.1.2.1 t.2.2.2.2.2.1) (fun t => μ t.1 t.2.1 t.2.2.1 t.2.2.2.1 t.2.2.2.2.1.1 t.2.2.2.2.1.2.1 t.2.2.2.2.2.1)
    (fun t ht again hag h => step t.1 t.2.1 t.2.2.1 t.2.2.2.1 t.2.2.2.2.1.1 t.2.2.2.2.1.2.1 t.2.2.2.2.2.1 ht again hag (fun y0 y1 y2 y3 y4 y5 y6 hI hm => h (y0, y1, y2, y3, (y4, y5, ()), y6, ()) hI hm)) (level, list, ops, memo, (g_Nodes, g_Root, ()), i, ()) hI
theorem F_s_saveTuple_succ (k : Nat) (g_0 : List (Int × Int × List Int)) (g_1 : Int) (level : Int) (at2 : Int) (ops : List (Int × Int)) (memo : List Int) : F_s_saveTuple (k + 1) g_0 g_1 level at2 ops memo = B_s_saveTuple k (F_s_emit k) (F_s_memoed k) (F_s_saveAll k) g_0 g_1 level at2 ops memo := by rw [F_s_saveTuple]
theorem tot_s_saveTuple {g_0 : List (Int × Int × List Int)} {g_1 : Int} {level : Int} {at2 : Int} {ops : List (Int × Int)} {memo : List Int} {Q : ((((List (Int × Int)) × List Int × Unit) × (Unit))) → Prop} (h : Tot (fun σ => B_s_saveTuple (σ 0) (F_s_emit (σ 0)) (F_s_memoed (σ 0)) (F_s_saveAll (σ 0)) g_0 g_1 level at2 ops memo) Q) : Tot (fun σ => F_s_saveTuple (σ 0) g_0 g_1 level at2 ops memo) Q :=
  Tot.call (F := fun k => F_s_saveTuple k g_0 g_1 level at2 ops memo) (B := fun k => B_s_saveTuple k (F_s_emit k) (F_s_memoed k) (F_s_saveAll k) g_0 g_1 level at2 ops memo) (fun k => F_s_saveTuple_succ k g_0 g_1 level at2 ops memo) h
theorem loop_s_saveTuple_L3 {Q : Int → (List (Int × Int)) → List Int → List Int → Bool → Int → (((List (Int × Int)) × List Int × Unit) × (Unit)) → Prop} (I : Int → (List (Int × Int)) → List Int → List Int → Bool → Int → Prop) (μ : Int → (List (Int × Int)) → List Int → List Int → Bool → Int → Nat)
    (step : ∀ (at2 : Int) (ops : List (Int × Int)) (memo : List Int) (kids : List Int) (short : Bool) (i : Int), I at2 ops memo kids short i → ∀ again : (Nat → Nat) → (Int × (List (Int × Int)) × List Int × List Int × Bool × Int × Unit) → Option (((List (Int × Int)) × List Int × Unit) × (Unit)), Dep 2 again → (∀ (y0 : Int) (y1 : List (Int × Int)) (y2 : List Int) (y3 : List Int) (y4 : Bool) (y5 : Int), I y0 y1 y2 y3 y4 y5 → μ y0 y1 y2 y3 y4 y5 < μ at2 ops memo kids short i → Tot (fun σ => again σ (y0, y1, y2, y3, y4, y5, ())) (Q y0 y1 y2 y3 y4 y5)) →
      Tot (fun σ => B_s_saveTuple_L3b (σ 0) (F_s_emit (σ 0)) (F_s_memoed (σ 0)) (F_s_saveAll (σ 0)) (again σ) at2 ops memo kids short i) (Q at2 ops memo kids short i)) :
    ∀ (at2 : Int) (ops : List (Int × Int)) (memo : List Int) (kids : List Int) (short : Bool) (i : Int), I at2 ops memo kids short i → Tot (fun σ => B_s_saveTuple_L3 (σ 0) (F_s_emit (σ 0)) (F_s_memoed (σ 0)) (F_s_saveAll (σ 0)) (σ 0) (at2, ops, memo, kids, short, i, ())) (Q at2 ops memo kids short i) := fun at2 ops memo kids short i hI =>
  Tot.loop (L := fun σ n t => B_s_saveTuple_L3 (σ 0) (F_s_emit (σ 0)) (F_s_memoed (σ 0)) (F_s_saveAll (σ 0)) n t) (B := fun σ g t => B_s_saveTuple_L3b (σ 0) (F_s_emit (σ 0)) (F_s_memoed (σ 0)) (F_s_saveAll (σ 0)) g t.1 t.2.1 t.2.2.1 t.2.2.2.1 t.2.2.2.2.1 t.2.2.2.2.2.1) (Q := fun t => Q t.1 t.2.1 t.2.2.1 t.2.2.2.1 t.2.2.2.2.1 t.2.2.2.2.2.1) 1 (by decide)
    (fun s s' h => by have e0 : s 0 = s' 0 := h 0 (by decide); simp only [e0]) (fun s s' h => by have e0 : s 0 = s' 0 := h 0 (by decide); simp only [e0]) (fun _ _ _ => rfl) (fun t => I t.1 t.2.1 t.2.2.1 t.2.2.2.1 t.2.2.2.2.1 t.2.2.2.2.2.1) (fun t => μ t.1 t.2.1 t.2.2.1 t.2.2.2.1 t.2.2.2.2.1 t.2.2.2.2.2.1)
    (fun t ht again hag h => step t.1 t.2.1 t.2.2.1 t.2.2.2.1 t.2.2.2.2.1 t.2.2.2.2.2.1 ht again hag (fun y0 y1 y2 y3 y4 y5 hI hm => h (y0, y1, y2, y3, y4, y5, ()) hI hm)) (at2, ops, memo, kids, short, i, ()) hI
theorem F_s_fill_succ (k : Nat) (g_0 : List (Int × Int × List Int)) (g_1 : Int) (level : Int) (kids : List Int) (each : Int) (one : Int) (all : Int) (ops : List (Int × Int)) (memo : List Int) : F_s_fill (k + 1) g_0 g_1 level kids each one all ops memo = B_s_fill k (F_s_emit k) (F_s_saveAll k) g_0 g_1 level kids each one all ops memo := by rw [F_s_fill]
theorem tot_s_fill {g_0 : List (Int × Int × List Int)} {g_1 : Int} {level : Int} {kids : List Int} {each : Int} {one : Int} {all : Int} {ops : List (Int × Int)} {memo : List Int} {Q : ((((List (Int × Int)) × List Int × Unit) × (Unit))) → Prop} (h : Tot (fun σ => B_s_fill (σ 0) (F_s_emit (σ 0)) (F_s_saveAll (σ 0)) g_0 g_1 level kids each one all ops memo) Q) : Tot (fun σ => F_s_fill (σ 0) g_0 g_1 level kids each one all ops memo) Q :=
  Tot.call (F := fun k => F_s_fill k g_0 g_1 level kids each one all ops memo) (B := fun k => B_s_fill k (F_s_emit k) (F_s_saveAll k) g_0 g_1 level kids each one all ops memo) (fun k => F_s_fill_succ k g_0 g_1 level kids each one all ops memo) h
theorem loop_s_fill_L1 {Q : Int → List Int → Int → Int → (List (Int × Int)) → List Int → (List (Int × Int × List Int)) → Int → Int → (((List (Int × Int)) × List Int × Unit) × (Unit)) → Prop} (I : Int → List Int → Int → Int → (List (Int × Int)) → List Int → (List (Int × Int × List Int)) → Int → Int → Prop) (μ : Int → List Int → Int → Int → (List (Int × Int)) → List Int → (List (Int × Int × List Int)) → Int → Int → Nat)
    (step : ∀ (level : Int) (kids : List Int) (each : Int) (one : Int) (ops : List (Int × Int)) (memo : List Int) (g_Nodes : List (Int × Int × List Int)) (g_Root : Int) (i : Int), I level kids each one ops memo g_Nodes g_Root i → ∀ again : (Nat → Nat) → (Int × List Int × Int × Int × (List (Int × Int)) × List Int × ((List (Int × Int × List Int)) × Int × Unit) × Int × Unit) → Option (((List (Int × Int)) × List Int × Unit) × (Unit)), Dep 2 again → (∀ (y0 : Int) (y1 : List Int) (y2 : Int) (y3 : Int) (y4 : List (Int × Int)) (y5 : List Int) (y6 : List (Int × Int × List Int)) (y7 : Int) (y8 : Int), I y0 y1 y2 y3 y4 y5 y6 y7 y8 → μ y0 y1 y2 y3 y4 y5 y6 y7 y8 < μ level kids each one ops memo g_Nodes g_Root i → Tot (fun σ => again σ (y0, y1, y2, y3, y4, y5, (y6, y7, ()), y8, ())) (Q y0 y1 y2 y3 y4 y5 y6 y7 y8)) →
      Tot (fun σ => B_s_fill_L1b (σ 0) (F_s_emit (σ 0)) (F_s_saveAll (σ 0)) (again σ) level kids each one ops memo g_Nodes g_Root i) (Q level kids each one ops memo g_Nodes g_Root i)) :
    ∀ (level : Int) (kids : List Int) (each : Int) (one : Int) (ops : List (Int × Int)) (memo : List Int) (g_Nodes : List (Int × Int × List Int)) (g_Root : Int) (i : Int), I level kids each one ops memo g_Nodes g_Root i → Tot (fun σ => B_s_fill_L1 (σ 0) (F_s_emit (σ 0)) (F_s_saveAll (σ 0)) (σ 0) (level, kids, each, one, ops, memo, (g_Nodes, g_Root, ()), i, ())) (Q level kids each one ops memo g_Nodes g_Root i) := fun level kids each one ops memo g_Nodes g_Root i hI =>
  Tot.loop (L := fun σ n t => B_s_fill_L1 (σ 0) (F_s_emit (σ 0)) (F_s_saveAll (σ 0)) n t) (B := fun σ g t => B_s_fill_L1b (σ 0) (F_s_emit (σ 0)) (F_s_saveAll (σ 0)) g t.1 t.2.1 t.2.2.1 t.2.2.2.1 t.2.2.2.2.1 t.2.2.2.2.2.1 t.2.2.2.2.2.2.1.1 t.2.2.2.2.2.2.1.2.1 t.2.2.2.2.2.2.2.1) (Q := fun t => Q t.1 t.2.1 t.2.2.1 t.2.2.2.1 t.2.2.2.2.1 t.2.2.2.2.2.1 t.2.2.2.2.2.2.1.1 t.2.2.2.2.2.2.1.2.1 t.2.2.2.2.2.2.2.1) 1 (by decide)
    (fun s s' h => by have e0 : s 0 = s' 0 := h 0 (by decide); simp only [e0]) (fun s s' h => by have e0 : s 0 = s' 0 := h 0 (by decide); simp only [e0]) (fun _ _ _ => rfl) (fun t => I t.1 t.2.1 t.2.2.1 t.2.2.2.1 t.2.2.2.2.1 t.2.2.2.2.2.1 t.2.2.2.2.2.2.1.1 t.2.2.2.2.2.2.1.2.1 t.2.2.2.2.2.2.2.1) (fun t => μ t.1 t.2.1 t.2.2.1 t.2.2.2.1 t.2.2.2.2.1 t.2.2.2.2.2.1 t.2.2.2.2.2.2.1.1 t.2.2.2.2.2.2.1.2.1 t.2.2.2.2.2.2.2.1)
    (fun t ht again hag h => step t.1 t.2.1 t.2.2.1 t.2.2.2.1 t.2.2.2.2.1 t.2.2.2.2.2.1 t.2.2.2.2.2.2.1.1 t.2.2.2.2.2.2.1.2.1 t.2.2.2.2.2.2.2.1 ht again hag (fun y0 y1 y2 y3 y4 y5 y6 y7 y8 hI hm => h (y0, y1, y2, y3, y4, y5, (y6, y7, ()), y8, ()) hI hm)) (level, kids, each, one, ops, memo, (g_Nodes, g_Root, ()), i, ()) hI
theorem F_s_save_succ (k : Nat) (g_0 : List (Int × Int × List Int)) (g_1 : Int) (level : Int) (at2 : Int) (ops : List (Int × Int)) (memo : List Int) : F_s_save (k + 1) g_0 g_1 level at2 ops memo = B_s_save k (F_s_emit k) (F_s_memoed k) (F_s_saveTuple k) (F_s_fill k) (F_s_saveAll k) g_0 g_1 level at2 ops memo := by rw [F_s_save]
theorem tot_s_save {g_0 : List (Int × Int × List Int)} {g_1 : Int} {level : Int} {at2 : Int} {ops : List (Int × Int)} {memo : List Int} {Q : ((((List (Int × Int)) × List Int × Unit) × (Unit))) → Prop} (h : Tot (fun σ => B_s_save (σ 0) (F_s_emit (σ 0)) (F_s_memoed (σ 0)) (F_s_saveTuple (σ 0)) (F_s_fill (σ 0)) (F_s_saveAll (σ 0)) g_0 g_1 level at2 ops memo) Q) : Tot (fun σ => F_s_save (σ 0) g_0 g_1 level at2 ops memo) Q :=
  Tot.call (F := fun k => F_s_save k g_0 g_1 level at2 ops memo) (B := fun k => B_s_save k (F_s_emit k) (F_s_memoed k) (F_s_saveTuple k) (F_s_fill k) (F_s_saveAll k) g_0 g_1 level at2 ops memo) (fun k => F_s_save_succ k g_0 g_1 level at2 ops memo) h
def B_s_written (k : Nat) (c_s_emptyMemo : (List (Int × Int × List Int)) → Int → Option ((List Int × Unit) × (Unit))) (c_s_save : (List (Int × Int × List Int)) → Int → Int → Int → (List (Int × Int)) → List Int → Option (((List (Int × Int)) × List Int × Unit) × (Unit))) (c_s_emit : (List (Int × Int)) → (List (Int × Int)) → Option (((List (Int × Int)) × Unit) × (Unit))) (g_0 : List (Int × Int × List Int)) (g_1 : Int) (level : Int) : Option (((List (Int × Int)) × Unit) × (Unit)) :=
  (c_s_emptyMemo g_0 g_1).bind fun r14 =>
  (c_s_save g_0 g_1 level g_1 ([]) r14.1.1).bind fun r15 =>
  (c_s_emit r15.1.1 ([(19, 0)])).bind fun r21 =>
  some ((r21.1.1, ()), ())
def F_s_written : Nat → (List (Int × Int × List Int)) → Int → Int → Option (((List (Int × Int)) × Unit) × (Unit))
  | 0, _, _, _ => none
  | k + 1, g_0, g_1, level => B_s_written k (F_s_emptyMemo k) (F_s_save k) (F_s_emit k) g_0 g_1 level
theorem F_s_written_succ (k : Nat) (g_0 : List (Int × Int × List Int)) (g_1 : Int) (level : Int) : F_s_written (k + 1) g_0 g_1 level = B_s_written k (F_s_emptyMemo k) (F_s_save k) (F_s_emit k) g_0 g_1 level := rfl
theorem tot_s_written {g_0 : List (Int × Int × List Int)} {g_1 : Int} {level : Int} {Q : ((((List (Int × Int)) × Unit) × (Unit))) → Prop} (h : Tot (fun σ => B_s_written (σ 0) (F_s_emptyMemo (σ 0)) (F_s_save (σ 0)) (F_s_emit (σ 0)) g_0 g_1 level) Q) : Tot (fun σ => F_s_written (σ 0) g_0 g_1 level) Q :=
  Tot.call (F := fun k => F_s_written k g_0 g_1 level) (B := fun k => B_s_written k (F_s_emptyMemo k) (F_s_save k) (F_s_emit k) g_0 g_1 level) (fun k => F_s_written_succ k g_0 g_1 level) h
def B_s_someOps_J2 (k : Nat) (c_s_reader_pick : List Int → Int → Int → Option ((Int × Unit) × ((List Int × Int × Unit) × Unit))) (c_s_likelyOps : List Int → Int → Option (((List (Int × Int)) × Unit) × ((List Int × Int × Unit) × Unit))) (c_s_someGraph : List Int → Int → Option ((((List (Int × Int × List Int)) × Int × Unit) × Unit) × ((List Int × Int × Unit) × Unit))) (c_s_written : (List (Int × Int × List Int)) → Int → Int → Option (((List (Int × Int)) × Unit) × (Unit))) (c_s_someOp : List Int → Int → Option (((Int × Int × Unit) × Unit) × ((List Int × Int × Unit) × Unit))) (c_s_reader_one : List Int → Int → List Int → Option ((Int × Unit) × ((List Int × Int × Unit) × Unit))) (r_b : List Int) (r_p : Int) (out : List (Int × Int)) : Option (((List (Int × Int)) × Unit) × ((List Int × Int × Unit) × Unit)) :=
  bif decide ((len out) > 0) then
    (c_s_reader_pick r_b r_p 24).bind fun r45 =>
    bif (r45.1.1 == 0) then
      (c_s_reader_one r45.2.1.1 r45.2.1.2.1 ([(-1), 20])).bind fun r51 =>
      chk (inb 0 out.length) <|
      chk (decide ((0 : Int).toNat < out.length)) <|
      some (((out.set ((0 : Int).toNat) (r51.1.1, (out.getD ((0 : Int).toNat) ((0 : Int), (0 : Int))).2)), ()), ((r51.2.1.1, r51.2.1.2.1, ()), ()))
    else
      bif (r45.1.1 == 1) then
        (c_s_reader_one r45.2.1.1 r45.2.1.2.1 ([(-1), 1000, 1])).bind fun r62 =>
        chk (inb (w64 ((len out) - 1)) out.length) <|
        chk (decide ((w64 ((len out) - 1)).toNat < out.length)) <|
        some (((out.set ((w64 ((len out) - 1)).toNat) ((out.getD ((w64 ((len out) - 1)).toNat) ((0 : Int), (0 : Int))).1, r62.1.1)), ()), ((r62.2.1.1, r62.2.1.2.1, ()), ()))
      else
        some ((out, ()), ((r45.2.1.1, r45.2.1.2.1, ()), ()))
  else
    some ((out, ()), ((r_b, r_p, ()), ()))
def B_s_someOps_J1 (k : Nat) (c_s_reader_pick : List Int → Int → Int → Option ((Int × Unit) × ((List Int × Int × Unit) × Unit))) (c_s_likelyOps : List Int → Int → Option (((List (Int × Int)) × Unit) × ((List Int × Int × Unit) × Unit))) (c_s_someGraph : List Int → Int → Option ((((List (Int × Int × List Int)) × Int × Unit) × Unit) × ((List Int × Int × Unit) × Unit))) (c_s_written : (List (Int × Int × List Int)) → Int → Int → Option (((List (Int × Int)) × Unit) × (Unit))) (c_s_someOp : List Int → Int → Option (((Int × Int × Unit) × Unit) × ((List Int × Int × Unit) × Unit))) (c_s_reader_one : List Int → Int → List Int → Option ((Int × Unit) × ((List Int × Int × Unit) × Unit))) (r_b : List Int) (r_p : Int) (out : List (Int × Int)) : Option (((List (Int × Int)) × Unit) × ((List Int × Int × Unit) × Unit)) :=
  (c_s_reader_pick r_b r_p 6).bind fun r32 =>
  bif (r32.1.1 == 0) then
    (c_s_reader_pick r32.2.1.1 r32.2.1.2.1 (w64 ((len out) + 1))).bind fun r39 =>
    chk (cutb 0 r39.1.1 out.length) <|
    jn (fun t => B_s_someOps_J2 k c_s_reader_pick c_s_likelyOps c_s_someGraph c_s_written c_s_someOp c_s_reader_one t.1.1 t.1.2.1 t.2.1) ((r39.2.1.1, r39.2.1.2.1, ()), (out.take r39.1.1.toNat), ())
  else
    jn (fun t => B_s_someOps_J2 k c_s_reader_pick c_s_likelyOps c_s_someGraph c_s_written c_s_someOp c_s_reader_one t.1.1 t.1.2.1 t.2.1) ((r32.2.1.1, r32.2.1.2.1, ()), out, ())
def B_s_someOps_J0 (k : Nat) (c_s_reader_pick : List Int → Int → Int → Option ((Int × Unit) × ((List Int × Int × Unit) × Unit))) (c_s_likelyOps : List Int → Int → Option (((List (Int × Int)) × Unit) × ((List Int × Int × Unit) × Unit))) (c_s_someGraph : List Int → Int → Option ((((List (Int × Int × List Int)) × Int × Unit) × Unit) × ((List Int × Int × Unit) × Unit))) (c_s_written : (List (Int × Int × List Int)) → Int → Int → Option (((List (Int × Int)) × Unit) × (Unit))) (c_s_someOp : List Int → Int → Option (((Int × Int × Unit) × Unit) × ((List Int × Int × Unit) × Unit))) (c_s_reader_one : List Int → Int → List Int → Option ((Int × Unit) × ((List Int × Int × Unit) × Unit))) (r_b : List Int) (r_p : Int) (out : List (Int × Int)) (t22 : Bool) : Option (((List (Int × Int)) × Unit) × ((List Int × Int × Unit) × Unit)) :=
  bif t22 then
    (c_s_reader_pick r_b r_p (len out)).bind fun r27 =>
    (c_s_someOp r27.2.1.1 r27.2.1.2.1).bind fun r29 =>
    chk (inb r27.1.1 out.length) <|
    chk (decide (r27.1.1.toNat < out.length)) <|
    jn (fun t => B_s_someOps_J1 k c_s_reader_pick c_s_likelyOps c_s_someGraph c_s_written c_s_someOp c_s_reader_one t.1.1 t.1.2.1 t.2.1) ((r29.2.1.1, r29.2.1.2.1, ()), (out.set r27.1.1.toNat (r29.1.1.1, r29.1.1.2.1)), ())
  else
    jn (fun t => B_s_someOps_J1 k c_s_reader_pick c_s_likelyOps c_s_someGraph c_s_written c_s_someOp c_s_reader_one t.1.1 t.1.2.1 t.2.1) ((r_b, r_p, ()), out, ())
def B_s_someOps (k : Nat) (c_s_reader_pick : List Int → Int → Int → Option ((Int × Unit) × ((List Int × Int × Unit) × Unit))) (c_s_likelyOps : List Int → Int → Option (((List (Int × Int)) × Unit) × ((List Int × Int × Unit) × Unit))) (c_s_someGraph : List Int → Int → Option ((((List (Int × Int × List Int)) × Int × Unit) × Unit) × ((List Int × Int × Unit) × Unit))) (c_s_written : (List (Int × Int × List Int)) → Int → Int → Option (((List (Int × Int)) × Unit) × (Unit))) (c_s_someOp : List Int → Int → Option (((Int × Int × Unit) × Unit) × ((List Int × Int × Unit) × Unit))) (c_s_reader_one : List Int → Int → List Int → Option ((Int × Unit) × ((List Int × Int × Unit) × Unit))) (r_b : List Int) (r_p : Int) : Option (((List (Int × Int)) × Unit) × ((List Int × Int × Unit) × Unit)) :=
  (c_s_reader_pick r_b r_p 2).bind fun r6 =>
  bif (r6.1.1 == 0) then
    (c_s_likelyOps r6.2.1.1 r6.2.1.2.1).bind fun r9 =>
    jn (fun t => B_s_someOps_J2 k c_s_reader_pick c_s_likelyOps c_s_someGraph c_s_written c_s_someOp c_s_reader_one t.1.1 t.1.2.1 t.2.1) ((r9.2.1.1, r9.2.1.2.1, ()), r9.1.1, ())
  else
    (c_s_someGraph r6.2.1.1 r6.2.1.2.1).bind fun r11 =>
    (c_s_reader_pick r11.2.1.1 r11.2.1.2.1 2).bind fun r13 =>
    (c_s_written r11.1.1.1 r11.1.1.2.1 r13.1.1).bind fun r14 =>
    (c_s_reader_pick r13.2.1.1 r13.2.1.2.1 4).bind fun r16 =>
    bif (r16.1.1 == 0) then
      jn (fun t => B_s_someOps_J0 k c_s_reader_pick c_s_likelyOps c_s_someGraph c_s_written c_s_someOp c_s_reader_one t.1.1 t.1.2.1 t.2.1 t.2.2.1) ((r16.2.1.1, r16.2.1.2.1, ()), r14.1.1, decide ((len r14.1.1) > 0), ())
    else
      jn (fun t => B_s_someOps_J0 k c_s_reader_pick c_s_likelyOps c_s_someGraph c_s_written c_s_someOp c_s_reader_one t.1.1 t.1.2.1 t.2.1 t.2.2.1) ((r16.2.1.1, r16.2.1.2.1, ()), r14.1.1, false, ())
def F_s_someOps : Nat → List Int → Int → Option (((List (Int × Int)) × Unit) × ((List Int × Int × Unit) × Unit))
  | 0, _, _ => none
  | k + 1, r_b, r_p => B_s_someOps k (F_s_reader_pick k) (F_s_likelyOps k) (F_s_someGraph k) (F_s_written k) (F_s_someOp k) (F_s_reader_one k) r_b r_p
theorem F_s_someOps_succ (k : Nat) (r_b : List Int) (r_p : Int) : F_s_someOps (k + 1) r_b r_p = B_s_someOps k (F_s_reader_pick k) (F_s_likelyOps k) (F_s_someGraph k) (F_s_written k) (F_s_someOp k) (F_s_reader_one k) r_b r_p := rfl
theorem tot_s_someOps {r_b : List Int} {r_p : Int} {Q : ((((List (Int × Int)) × Unit) × ((List Int × Int × Unit) × Unit))) → Prop} (h : Tot (fun σ => B_s_someOps (σ 0) (F_s_reader_pick (σ 0)) (F_s_likelyOps (σ 0)) (F_s_someGraph (σ 0)) (F_s_written (σ 0)) (F_s_someOp (σ 0)) (F_s_reader_one (σ 0)) r_b r_p) Q) : Tot (fun σ => F_s_someOps (σ 0) r_b r_p) Q :=
  Tot.call (F := fun k => F_s_someOps k r_b r_p) (B := fun k => B_s_someOps k (F_s_reader_pick k) (F_s_likelyOps k) (F_s_someGraph k) (F_s_written k) (F_s_someOp k) (F_s_reader_one k) r_b r_p) (fun k => F_s_someOps_succ k r_b r_p) h
def B_s_bytesOf (k : Nat) (c_s_argOf : Int → Option ((Int × Unit) × (Unit))) (o_0 : Int) (o_1 : Int) : Option ((List Int × Unit) × (Unit)) :=
  (c_s_argOf o_0).bind fun r5 =>
  bif decide (r5.1.1 < 0) then
    some (([o_0], ()), ())
  else
    bif decide (o_1 < 128) then
      some (([o_0, o_1], ()), ())
    else
      some (([o_0, w64 (128 + (o_1.tmod 128)), w64 (o_1.tdiv 128)], ()), ())
def F_s_bytesOf : Nat → Int → Int → Option ((List Int × Unit) × (Unit))
  | 0, _, _ => none
  | k + 1, o_0, o_1 => B_s_bytesOf k (F_s_argOf k) o_0 o_1
theorem F_s_bytesOf_succ (k : Nat) (o_0 : Int) (o_1 : Int) : F_s_bytesOf (k + 1) o_0 o_1 = B_s_bytesOf k (F_s_argOf k) o_0 o_1 := rfl
theorem tot_s_bytesOf {o_0 : Int} {o_1 : Int} {Q : (((List Int × Unit) × (Unit))) → Prop} (h : Tot (fun σ => B_s_bytesOf (σ 0) (F_s_argOf (σ 0)) o_0 o_1) Q) : Tot (fun σ => F_s_bytesOf (σ 0) o_0 o_1) Q :=
  Tot.call (F := fun k => F_s_bytesOf k o_0 o_1) (B := fun k => B_s_bytesOf k (F_s_argOf k) o_0 o_1) (fun k => F_s_bytesOf_succ k o_0 o_1) h
def B_s_EncodeOps_L0b (k : Nat) (c_s_validOps : (List (Int × Int)) → Option ((Bool × Unit) × (Unit))) (c_s_bytesOf : Int → Int → Option ((List Int × Unit) × (Unit))) (again0 : ((List (Int × Int)) × List Int × Int × Unit) → Option ((List Int × Unit) × (Unit))) (ops : List (Int × Int)) (out : List Int) (i : Int) : Option ((List Int × Unit) × (Unit)) :=
  bif decide (i < (len ops)) then
    chk (inb i ops.length) <|
    (c_s_bytesOf ((rdx ((0 : Int), (0 : Int)) ops i).1) ((rdx ((0 : Int), (0 : Int)) ops i).2)).bind fun r20 =>
    chk (room out.length r20.1.1.length) <|
    again0 (ops, (out ++ r20.1.1), w64 (i + 1), ())
  else
    some ((out, ()), ())
def B_s_EncodeOps_L0 (k : Nat) (c_s_validOps : (List (Int × Int)) → Option ((Bool × Unit) × (Unit))) (c_s_bytesOf : Int → Int → Option ((List Int × Unit) × (Unit))) (n : Nat) (t : (List (Int × Int)) × List Int × Int × Unit) : Option ((List Int × Unit) × (Unit)) :=
  lfix n (fun again t => B_s_EncodeOps_L0b k c_s_validOps c_s_bytesOf again t.1 t.2.1 t.2.2.1) t
theorem B_s_EncodeOps_L0_succ (k : Nat) (c_s_validOps : (List (Int × Int)) → Option ((Bool × Unit) × (Unit))) (c_s_bytesOf : Int → Int → Option ((List Int × Unit) × (Unit))) (n : Nat) (ops : List (Int × Int)) (out : List Int) (i : Int) : B_s_EncodeOps_L0 k c_s_validOps c_s_bytesOf (n + 1) (ops, out, i, ()) = B_s_EncodeOps_L0b k c_s_validOps c_s_bytesOf (B_s_EncodeOps_L0 k c_s_validOps c_s_bytesOf n) ops out i := rfl
def B_s_EncodeOps (k : Nat) (c_s_validOps : (List (Int × Int)) → Option ((Bool × Unit) × (Unit))) (c_s_bytesOf : Int → Int → Option ((List Int × Unit) × (Unit))) (ops : List (Int × Int)) : Option ((List Int × Unit) × (Unit)) :=
  (c_s_validOps ops).bind fun r6 =>
  bif (!r6.1.1) then
    some (([], ()), ())
  else
    B_s_EncodeOps_L0 k c_s_validOps c_s_bytesOf k (ops, [], 0, ())
def F_s_EncodeOps : Nat → (List (Int × Int)) → Option ((List Int × Unit) × (Unit))
  | 0, _ => none
  | k + 1, ops => B_s_EncodeOps k (F_s_validOps k) (F_s_bytesOf k) ops
theorem F_s_EncodeOps_succ (k : Nat) (ops : List (Int × Int)) : F_s_EncodeOps (k + 1) ops = B_s_EncodeOps k (F_s_validOps k) (F_s_bytesOf k) ops := rfl
theorem tot_s_EncodeOps {ops : List (Int × Int)} {Q : (((List Int × Unit) × (Unit))) → Prop} (h : Tot (fun σ => B_s_EncodeOps (σ 0) (F_s_validOps (σ 0)) (F_s_bytesOf (σ 0)) ops) Q) : Tot (fun σ => F_s_EncodeOps (σ 0) ops) Q :=
  Tot.call (F := fun k => F_s_EncodeOps k ops) (B := fun k => B_s_EncodeOps k (F_s_validOps k) (F_s_bytesOf k) ops) (fun k => F_s_EncodeOps_succ k ops) h
theorem loop_s_EncodeOps_L0 {Q : (List (Int × Int)) → List Int → Int → ((List Int × Unit) × (Unit)) → Prop} (I : (List (Int × Int)) → List Int → Int → Prop) (μ : (List (Int × Int)) → List Int → Int → Nat)
    (step : ∀ (ops : List (Int × Int)) (out : List Int) (i : Int), I ops out i → ∀ again : (Nat → Nat) → ((List (Int × Int)) × List Int × Int × Unit) → Option ((List Int × Unit) × (Unit)), Dep 2 again → (∀ (y0 : List (Int × Int)) (y1 : List Int) (y2 : Int), I y0 y1 y2 → μ y0 y1 y2 < μ ops out i → Tot (fun σ => again σ (y0, y1, y2, ())) (Q y0 y1 y2)) →
      Tot (fun σ => B_s_EncodeOps_L0b (σ 0) (F_s_validOps (σ 0)) (F_s_bytesOf (σ 0)) (again σ) ops out i) (Q ops out i)) :
    ∀ (ops : List (Int × Int)) (out : List Int) (i : Int), I ops out i → Tot (fun σ => B_s_EncodeOps_L0 (σ 0) (F_s_validOps (σ 0)) (F_s_bytesOf (σ 0)) (σ 0) (ops, out, i, ())) (Q ops out i) := fun ops out i hI =>
  Tot.loop (L := fun σ n t => B_s_EncodeOps_L0 (σ 0) (F_s_validOps (σ 0)) (F_s_bytesOf (σ 0)) n t) (B := fun σ g t => B_s_EncodeOps_L0b (σ 0) (F_s_validOps (σ 0)) (F_s_bytesOf (σ 0)) g t.1 t.2.1 t.2.2.1) (Q := fun t => Q t.1 t.2.1 t.2.2.1) 1 (by decide)
    (fun s s' h => by have e0 : s 0 = s' 0 := h 0 (by decide); simp only [e0]) (fun s s' h => by have e0 : s 0 = s' 0 := h 0 (by decide); simp only [e0]) (fun _ _ _ => rfl) (fun t => I t.1 t.2.1 t.2.2.1) (fun t => μ t.1 t.2.1 t.2.2.1)
    (fun t ht again hag h => step t.1 t.2.1 t.2.2.1 ht again hag (fun y0 y1 y2 hI hm => h (y0, y1, y2, ()) hI hm)) (ops, out, i, ()) hI
def B_s_someBytes_J2 (k : Nat) (c_s_someOps : List Int → Int → Option (((List (Int × Int)) × Unit) × ((List Int × Int × Unit) × Unit))) (c_s_validOps : (List (Int × Int)) → Option ((Bool × Unit) × (Unit))) (c_s_EncodeOps : (List (Int × Int)) → Option ((List Int × Unit) × (Unit))) (c_s_reader_pick : List Int → Int → Int → Option ((Int × Unit) × ((List Int × Int × Unit) × Unit))) (c_s_reader_one : List Int → Int → List Int → Option ((Int × Unit) × ((List Int × Int × Unit) × Unit))) (r_b : List Int) (r_p : Int) (out : List Int) (t45 : Bool) : Option ((List Int × Unit) × ((List Int × Int × Unit) × Unit)) :=
  bif t45 then
    (c_s_reader_one r_b r_p ([(-1), 256])).bind fun r49 =>
    chk (inb 0 out.length) <|
    chk (decide ((0 : Int).toNat < out.length)) <|
    some (((out.set ((0 : Int).toNat) r49.1.1), ()), ((r49.2.1.1, r49.2.1.2.1, ()), ()))
  else
    some ((out, ()), ((r_b, r_p, ()), ()))
def B_s_someBytes_J1 (k : Nat) (c_s_someOps : List Int → Int → Option (((List (Int × Int)) × Unit) × ((List Int × Int × Unit) × Unit))) (c_s_validOps : (List (Int × Int)) → Option ((Bool × Unit) × (Unit))) (c_s_EncodeOps : (List (Int × Int)) → Option ((List Int × Unit) × (Unit))) (c_s_reader_pick : List Int → Int → Int → Option ((Int × Unit) × ((List Int × Int × Unit) × Unit))) (c_s_reader_one : List Int → Int → List Int → Option ((Int × Unit) × ((List Int × Int × Unit) × Unit))) (r_b : List Int) (r_p : Int) (out : List Int) : Option ((List Int × Unit) × ((List Int × Int × Unit) × Unit)) :=
  (c_s_reader_pick r_b r_p 30).bind fun r39 =>
  bif (r39.1.1 == 0) then
    jn (fun t => B_s_someBytes_J2 k c_s_someOps c_s_validOps c_s_EncodeOps c_s_reader_pick c_s_reader_one t.1.1 t.1.2.1 t.2.1 t.2.2.1) ((r39.2.1.1, r39.2.1.2.1, ()), out, decide ((len out) > 0), ())
  else
    jn (fun t => B_s_someBytes_J2 k c_s_someOps c_s_validOps c_s_EncodeOps c_s_reader_pick c_s_reader_one t.1.1 t.1.2.1 t.2.1 t.2.2.1) ((r39.2.1.1, r39.2.1.2.1, ()), out, false, ())
def B_s_someBytes_J0 (k : Nat) (c_s_someOps : List Int → Int → Option (((List (Int × Int)) × Unit) × ((List Int × Int × Unit) × Unit))) (c_s_validOps : (List (Int × Int)) → Option ((Bool × Unit) × (Unit))) (c_s_EncodeOps : (List (Int × Int)) → Option ((List Int × Unit) × (Unit))) (c_s_reader_pick : List Int → Int → Int → Option ((Int × Unit) × ((List Int × Int × Unit) × Unit))) (c_s_reader_one : List Int → Int → List Int → Option ((Int × Unit) × ((List Int × Int × Unit) × Unit))) (r_b : List Int) (r_p : Int) (out : List Int) : Option ((List Int × Unit) × ((List Int × Int × Unit) × Unit)) :=
  bif decide ((len out) > 0) then
    (c_s_reader_pick r_b r_p 4).bind fun r16 =>
    bif (r16.1.1 == 0) then
      (c_s_reader_pick r16.2.1.1 r16.2.1.2.1 (len out)).bind fun r23 =>
      (c_s_reader_pick r23.2.1.1 r23.2.1.2.1 256).bind fun r26 =>
      (c_s_reader_one r26.2.1.1 r26.2.1.2.1 ([r26.1.1, 128, 20, 255])).bind fun r28 =>
      chk (inb r23.1.1 out.length) <|
      chk (decide (r23.1.1.toNat < out.length)) <|
      jn (fun t => B_s_someBytes_J1 k c_s_someOps c_s_validOps c_s_EncodeOps c_s_reader_pick c_s_reader_one t.1.1 t.1.2.1 t.2.1) ((r28.2.1.1, r28.2.1.2.1, ()), (out.set r23.1.1.toNat r28.1.1), ())
    else
      bif (r16.1.1 == 1) then
        (c_s_reader_pick r16.2.1.1 r16.2.1.2.1 (len out)).bind fun r36 =>
        chk (cutb 0 r36.1.1 out.length) <|
        jn (fun t => B_s_someBytes_J1 k c_s_someOps c_s_validOps c_s_EncodeOps c_s_reader_pick c_s_reader_one t.1.1 t.1.2.1 t.2.1) ((r36.2.1.1, r36.2.1.2.1, ()), (out.take r36.1.1.toNat), ())
      else
        jn (fun t => B_s_someBytes_J1 k c_s_someOps c_s_validOps c_s_EncodeOps c_s_reader_pick c_s_reader_one t.1.1 t.1.2.1 t.2.1) ((r16.2.1.1, r16.2.1.2.1, ()), out, ())
  else
    some ((out, ()), ((r_b, r_p, ()), ()))
def B_s_someBytes (k : Nat) (c_s_someOps : List Int → Int → Option (((List (Int × Int)) × Unit) × ((List Int × Int × Unit) × Unit))) (c_s_validOps : (List (Int × Int)) → Option ((Bool × Unit) × (Unit))) (c_s_EncodeOps : (List (Int × Int)) → Option ((List Int × Unit) × (Unit))) (c_s_reader_pick : List Int → Int → Int → Option ((Int × Unit) × ((List Int × Int × Unit) × Unit))) (c_s_reader_one : List Int → Int → List Int → Option ((Int × Unit) × ((List Int × Int × Unit) × Unit))) (r_b : List Int) (r_p : Int) : Option ((List Int × Unit) × ((List Int × Int × Unit) × Unit)) :=
  (c_s_someOps r_b r_p).bind fun r6 =>
  (c_s_validOps r6.1.1).bind fun r9 =>
  bif r9.1.1 then
    (c_s_EncodeOps r6.1.1).bind fun r11 =>
    jn (fun t => B_s_someBytes_J0 k c_s_someOps c_s_validOps c_s_EncodeOps c_s_reader_pick c_s_reader_one t.1.1 t.1.2.1 t.2.1) ((r6.2.1.1, r6.2.1.2.1, ()), r11.1.1, ())
  else
    jn (fun t => B_s_someBytes_J0 k c_s_someOps c_s_validOps c_s_EncodeOps c_s_reader_pick c_s_reader_one t.1.1 t.1.2.1 t.2.1) ((r6.2.1.1, r6.2.1.2.1, ()), [], ())
def F_s_someBytes : Nat → List Int → Int → Option ((List Int × Unit) × ((List Int × Int × Unit) × Unit))
  | 0, _, _ => none
  | k + 1, r_b, r_p => B_s_someBytes k (F_s_someOps k) (F_s_validOps k) (F_s_EncodeOps k) (F_s_reader_pick k) (F_s_reader_one k) r_b r_p
theorem F_s_someBytes_succ (k : Nat) (r_b : List Int) (r_p : Int) : F_s_someBytes (k + 1) r_b r_p = B_s_someBytes k (F_s_someOps k) (F_s_validOps k) (F_s_EncodeOps k) (F_s_reader_pick k) (F_s_reader_one k) r_b r_p := rfl
theorem tot_s_someBytes {r_b : List Int} {r_p : Int} {Q : (((List Int × Unit) × ((List Int × Int × Unit) × Unit))) → Prop} (h : Tot (fun σ => B_s_someBytes (σ 0) (F_s_someOps (σ 0)) (F_s_validOps (σ 0)) (F_s_EncodeOps (σ 0)) (F_s_reader_pick (σ 0)) (F_s_reader_one (σ 0)) r_b r_p) Q) : Tot (fun σ => F_s_someBytes (σ 0) r_b r_p) Q :=
  Tot.call (F := fun k => F_s_someBytes k r_b r_p) (B := fun k => B_s_someBytes k (F_s_someOps k) (F_s_validOps k) (F_s_EncodeOps k) (F_s_reader_pick k) (F_s_reader_one k) r_b r_p) (fun k => F_s_someBytes_succ k r_b r_p) h
def B_s_DrawDecodeTorn (k : Nat) (c_s_newReader : List Int → Option (((List Int × Int × Unit) × Unit) × (Unit))) (c_s_someBytes : List Int → Int → Option ((List Int × Unit) × ((List Int × Int × Unit) × Unit))) (code : List Int) : Option ((List Int × Unit) × (Unit)) :=
  (c_s_newReader code).bind fun r4 =>
  (c_s_someBytes r4.1.1.1 r4.1.1.2.1).bind fun r5 =>
  some ((r5.1.1, ()), ())
def F_s_DrawDecodeTorn : Nat → List Int → Option ((List Int × Unit) × (Unit))
  | 0, _ => none
  | k + 1, code => B_s_DrawDecodeTorn k (F_s_newReader k) (F_s_someBytes k) code
theorem F_s_DrawDecodeTorn_succ (k : Nat) (code : List Int) : F_s_DrawDecodeTorn (k + 1) code = B_s_DrawDecodeTorn k (F_s_newReader k) (F_s_someBytes k) code := rfl
theorem tot_s_DrawDecodeTorn {code : List Int} {Q : (((List Int × Unit) × (Unit))) → Prop} (h : Tot (fun σ => B_s_DrawDecodeTorn (σ 0) (F_s_newReader (σ 0)) (F_s_someBytes (σ 0)) code) Q) : Tot (fun σ => F_s_DrawDecodeTorn (σ 0) code) Q :=
  Tot.call (F := fun k => F_s_DrawDecodeTorn k code) (B := fun k => B_s_DrawDecodeTorn k (F_s_newReader k) (F_s_someBytes k) code) (fun k => F_s_DrawDecodeTorn_succ k code) h
def B_i_bytesOk_1 (k : Nat) (n0 : Int) : Option ((Bool × Unit) × (Unit)) :=
  bif decide (n0 < 0) then
    some ((true, ()), ())
  else
    some ((decide (n0 > 255), ()), ())
def F_i_bytesOk_1 : Nat → Int → Option ((Bool × Unit) × (Unit))
  | 0, _ => none
  | k + 1, n0 => B_i_bytesOk_1 k n0
theorem F_i_bytesOk_1_succ (k : Nat) (n0 : Int) : F_i_bytesOk_1 (k + 1) n0 = B_i_bytesOk_1 k n0 := rfl
theorem tot_i_bytesOk_1 {n0 : Int} {Q : (((Bool × Unit) × (Unit))) → Prop} (h : Tot (fun σ => B_i_bytesOk_1 (σ 0) n0) Q) : Tot (fun σ => F_i_bytesOk_1 (σ 0) n0) Q :=
  Tot.call (F := fun k => F_i_bytesOk_1 k n0) (B := fun k => B_i_bytesOk_1 k n0) (fun k => F_i_bytesOk_1_succ k n0) h
def B_slices_IndexFunc_int_int__i_bytesOk_1_L0b (k : Nat) (c_i_bytesOk_1 : Int → Option ((Bool × Unit) × (Unit))) (again0 : (List Int × Unit × Int × Int × Unit) → Option ((Int × Unit) × (Unit))) (s : List Int) (t7 : Int) (t8 : Int) : Option ((Int × Unit) × (Unit)) :=
  bif decide (t8 < t7) then
    chk (inb t8 s.length) <|
    (c_i_bytesOk_1 (rdx (0 : Int) s t8)).bind fun r16 =>
    bif r16.1.1 then
      some ((t8, ()), ())
    else
      again0 (s, (), t7, w64 (t8 + 1), ())
  else
    some (((-1), ()), ())
def B_slices_IndexFunc_int_int__i_bytesOk_1_L0 (k : Nat) (c_i_bytesOk_1 : Int → Option ((Bool × Unit) × (Unit))) (n : Nat) (t : List Int × Unit × Int × Int × Unit) : Option ((Int × Unit) × (Unit)) :=
  lfix n (fun again t => B_slices_IndexFunc_int_int__i_bytesOk_1_L0b k c_i_bytesOk_1 again t.1 t.2.2.1 t.2.2.2.1) t
theorem B_slices_IndexFunc_int_int__i_bytesOk_1_L0_succ (k : Nat) (c_i_bytesOk_1 : Int → Option ((Bool × Unit) × (Unit))) (n : Nat) (s : List Int) (t7 : Int) (t8 : Int) : B_slices_IndexFunc_int_int__i_bytesOk_1_L0 k c_i_bytesOk_1 (n + 1) (s, (), t7, t8, ()) = B_slices_IndexFunc_int_int__i_bytesOk_1_L0b k c_i_bytesOk_1 (B_slices_IndexFunc_int_int__i_bytesOk_1_L0 k c_i_bytesOk_1 n) s t7 t8 := rfl
def B_slices_IndexFunc_int_int__i_bytesOk_1 (k : Nat) (c_i_bytesOk_1 : Int → Option ((Bool × Unit) × (Unit))) (s : List Int) : Option ((Int × Unit) × (Unit)) :=
  B_slices_IndexFunc_int_int__i_bytesOk_1_L0 k c_i_bytesOk_1 k (s, (), len s, 0, ())
def F_slices_IndexFunc_int_int__i_bytesOk_1 : Nat → List Int → Option ((Int × Unit) × (Unit))
  | 0, _ => none
  | k + 1, s => B_slices_IndexFunc_int_int__i_bytesOk_1 k (F_i_bytesOk_1 k) s
theorem F_slices_IndexFunc_int_int__i_bytesOk_1_succ (k : Nat) (s : List Int) : F_slices_IndexFunc_int_int__i_bytesOk_1 (k + 1) s = B_slices_IndexFunc_int_int__i_bytesOk_1 k (F_i_bytesOk_1 k) s := rfl
theorem tot_slices_IndexFunc_int_int__i_bytesOk_1 {s : List Int} {Q : (((Int × Unit) × (Unit))) → Prop} (h : Tot (fun σ => B_slices_IndexFunc_int_int__i_bytesOk_1 (σ 0) (F_i_bytesOk_1 (σ 0)) s) Q) : Tot (fun σ => F_slices_IndexFunc_int_int__i_bytesOk_1 (σ 0) s) Q :=
  Tot.call (F := fun k => F_slices_IndexFunc_int_int__i_bytesOk_1 k s) (B := fun k => B_slices_IndexFunc_int_int__i_bytesOk_1 k (F_i_bytesOk_1 k) s) (fun k => F_slices_IndexFunc_int_int__i_bytesOk_1_succ k s) h
theorem loop_slices_IndexFunc_int_int__i_bytesOk_1_L0 {Q : List Int → Int → Int → ((Int × Unit) × (Unit)) → Prop} (I : List Int → Int → Int → Prop) (μ : List Int → Int → Int → Nat)
    (step : ∀ (s : List Int) (t7 : Int) (t8 : Int), I s t7 t8 → ∀ again : (Nat → Nat) → (List Int × Unit × Int × Int × Unit) → Option ((Int × Unit) × (Unit)), Dep 2 again → (∀ (y0 : List Int) (y1 : Int) (y2 : Int), I y0 y1 y2 → μ y0 y1 y2 < μ s t7 t8 → Tot (fun σ => again σ (y0, (), y1, y2, ())) (Q y0 y1 y2)) →
      Tot (fun σ => B_slices_IndexFunc_int_int__i_bytesOk_1_L0b (σ 0) (F_i_bytesOk_1 (σ 0)) (again σ) s t7 t8) (Q s t7 t8)) :
    ∀ (s : List Int) (t7 : Int) (t8 : Int), I s t7 t8 → Tot (fun σ => B_slices_IndexFunc_int_int__i_bytesOk_1_L0 (σ 0) (F_i_bytesOk_1 (σ 0)) (σ 0) (s, (), t7, t8, ())) (Q s t7 t8) := fun s t7 t8 hI =>
  Tot.loop (L := fun σ n t => B_slices_IndexFunc_int_int__i_bytesOk_1_L0 (σ 0) (F_i_bytesOk_1 (σ 0)) n t) (B := fun σ g t => B_slices_IndexFunc_int_int__i_bytesOk_1_L0b (σ 0) (F_i_bytesOk_1 (σ 0)) g t.1 t.2.2.1 t.2.2.2.1) (Q := fun t => Q t.1 t.2.2.1 t.2.2.2.1) 1 (by decide)
    (fun s s' h => by have e0 : s 0 = s' 0 := h 0 (by decide); simp only [e0]) (fun s s' h => by have e0 : s 0 = s' 0 := h 0 (by decide); simp only [e0]) (fun _ _ _ => rfl) (fun t => I t.1 t.2.2.1 t.2.2.2.1) (fun t => μ t.1 t.2.2.1 t.2.2.2.1)
    (fun t ht again hag h => step t.1 t.2.2.1 t.2.2.2.1 ht again hag (fun y0 y1 y2 hI hm => h (y0, (), y1, y2, ()) hI hm)) (s, (), t7, t8, ()) hI
def B_slices_ContainsFunc_int_int__i_bytesOk_1 (k : Nat) (c_slices_IndexFunc_int_int__i_bytesOk_1 : List Int → Option ((Int × Unit) × (Unit))) (s : List Int) : Option ((Bool × Unit) × (Unit)) :=
  (c_slices_IndexFunc_int_int__i_bytesOk_1 s).bind fun r7 =>
  some ((decide (r7.1.1 ≥ 0), ()), ())
def F_slices_ContainsFunc_int_int__i_bytesOk_1 : Nat → List Int → Option ((Bool × Unit) × (Unit))
  | 0, _ => none
  | k + 1, s => B_slices_ContainsFunc_int_int__i_bytesOk_1 k (F_slices_IndexFunc_int_int__i_bytesOk_1 k) s
theorem F_slices_ContainsFunc_int_int__i_bytesOk_1_succ (k : Nat) (s : List Int) : F_slices_ContainsFunc_int_int__i_bytesOk_1 (k + 1) s = B_slices_ContainsFunc_int_int__i_bytesOk_1 k (F_slices_IndexFunc_int_int__i_bytesOk_1 k) s := rfl
theorem tot_slices_ContainsFunc_int_int__i_bytesOk_1 {s : List Int} {Q : (((Bool × Unit) × (Unit))) → Prop} (h : Tot (fun σ => B_slices_ContainsFunc_int_int__i_bytesOk_1 (σ 0) (F_slices_IndexFunc_int_int__i_bytesOk_1 (σ 0)) s) Q) : Tot (fun σ => F_slices_ContainsFunc_int_int__i_bytesOk_1 (σ 0) s) Q :=
  Tot.call (F := fun k => F_slices_ContainsFunc_int_int__i_bytesOk_1 k s) (B := fun k => B_slices_ContainsFunc_int_int__i_bytesOk_1 k (F_slices_IndexFunc_int_int__i_bytesOk_1 k) s) (fun k => F_slices_ContainsFunc_int_int__i_bytesOk_1_succ k s) h
def B_i_bytesOk (k : Nat) (c_slices_ContainsFunc_int_int__i_bytesOk_1 : List Int → Option ((Bool × Unit) × (Unit))) (list : List Int) (most : Int) : Option ((Bool × Unit) × (Unit)) :=
  bif decide ((len list) ≤ most) then
    (c_slices_ContainsFunc_int_int__i_bytesOk_1 list).bind fun r11 =>
    some (((!r11.1.1), ()), ())
  else
    some ((false, ()), ())
def F_i_bytesOk : Nat → List Int → Int → Option ((Bool × Unit) × (Unit))
  | 0, _, _ => none
  | k + 1, list, most => B_i_bytesOk k (F_slices_ContainsFunc_int_int__i_bytesOk_1 k) list most
theorem F_i_bytesOk_succ (k : Nat) (list : List Int) (most : Int) : F_i_bytesOk (k + 1) list most = B_i_bytesOk k (F_slices_ContainsFunc_int_int__i_bytesOk_1 k) list most := rfl
theorem tot_i_bytesOk {list : List Int} {most : Int} {Q : (((Bool × Unit) × (Unit))) → Prop} (h : Tot (fun σ => B_i_bytesOk (σ 0) (F_slices_ContainsFunc_int_int__i_bytesOk_1 (σ 0)) list most) Q) : Tot (fun σ => F_i_bytesOk (σ 0) list most) Q :=
  Tot.call (F := fun k => F_i_bytesOk k list most) (B := fun k => B_i_bytesOk k (F_slices_ContainsFunc_int_int__i_bytesOk_1 k) list most) (fun k => F_i_bytesOk_succ k list most) h
def B_i_mostArg_J0 (k : Nat) (t10 : Bool) : Option ((Int × Unit) × (Unit)) :=
  bif t10 then
    some ((19, ()), ())
  else
    some ((0, ()), ())
def B_i_mostArg (k : Nat) (code : Int) : Option ((Int × Unit) × (Unit)) :=
  bif (code == 0) then
    some ((999, ()), ())
  else
    bif (code == 1) then
      some ((9, ()), ())
    else
      bif (code == 13) then
        some ((9, ()), ())
      else
        bif (code == 15) then
          jn (fun t => B_i_mostArg_J0 k t.1) ((code == 15), ())
        else
          jn (fun t => B_i_mostArg_J0 k t.1) ((code == 16), ())
def F_i_mostArg : Nat → Int → Option ((Int × Unit) × (Unit))
  | 0, _ => none
  | k + 1, code => B_i_mostArg k code
theorem F_i_mostArg_succ (k : Nat) (code : Int) : F_i_mostArg (k + 1) code = B_i_mostArg k code := rfl
theorem tot_i_mostArg {code : Int} {Q : (((Int × Unit) × (Unit))) → Prop} (h : Tot (fun σ => B_i_mostArg (σ 0) code) Q) : Tot (fun σ => F_i_mostArg (σ 0) code) Q :=
  Tot.call (F := fun k => F_i_mostArg k code) (B := fun k => B_i_mostArg k code) (fun k => F_i_mostArg_succ k code) h
def B_i_opOk (k : Nat) (c_i_mostArg : Int → Option ((Int × Unit) × (Unit))) (o_0 : Int) (o_1 : Int) : Option ((Bool × Unit) × (Unit)) :=
  bif decide (o_0 ≥ 0) then
    bif decide (o_0 ≤ 19) then
      bif decide (o_1 ≥ 0) then
        (c_i_mostArg o_0).bind fun r21 =>
        some ((decide (o_1 ≤ r21.1.1), ()), ())
      else
        some ((false, ()), ())
    else
      some ((false, ()), ())
  else
    some ((false, ()), ())
def F_i_opOk : Nat → Int → Int → Option ((Bool × Unit) × (Unit))
  | 0, _, _ => none
  | k + 1, o_0, o_1 => B_i_opOk k (F_i_mostArg k) o_0 o_1
theorem F_i_opOk_succ (k : Nat) (o_0 : Int) (o_1 : Int) : F_i_opOk (k + 1) o_0 o_1 = B_i_opOk k (F_i_mostArg k) o_0 o_1 := rfl
theorem tot_i_opOk {o_0 : Int} {o_1 : Int} {Q : (((Bool × Unit) × (Unit))) → Prop} (h : Tot (fun σ => B_i_opOk (σ 0) (F_i_mostArg (σ 0)) o_0 o_1) Q) : Tot (fun σ => F_i_opOk (σ 0) o_0 o_1) Q :=
  Tot.call (F := fun k => F_i_opOk k o_0 o_1) (B := fun k => B_i_opOk k (F_i_mostArg k) o_0 o_1) (fun k => F_i_opOk_succ k o_0 o_1) h
def B_i_decoded_J5 (k : Nat) (c_i_mostArg : Int → Option ((Int × Unit) × (Unit))) (c_i_opOk : Int → Int → Option ((Bool × Unit) × (Unit))) (out : List (Int × Int)) (at5 : Int) : Option (((List (Int × Int)) × Int × Unit) × (Unit)) :=
  some ((out, at5, ()), ())
def B_i_decoded_J3 (k : Nat) (c_i_mostArg : Int → Option ((Int × Unit) × (Unit))) (c_i_opOk : Int → Int → Option ((Bool × Unit) × (Unit))) (again4 : (List Int × (List (Int × Int)) × Int × Unit) → Option (((List (Int × Int)) × Int × Unit) × (Unit))) (list : List Int) (out : List (Int × Int)) (at5 : Int) (o_Code : Int) (o_Arg : Int) (n7 : Int) : Option (((List (Int × Int)) × Int × Unit) × (Unit)) :=
  (c_i_opOk o_Code o_Arg).bind fun r71 =>
  bif (!r71.1.1) then
    jn (fun t => B_i_decoded_J5 k c_i_mostArg c_i_opOk t.1 t.2.1) (out, at5, ())
  else
    chk (room out.length ([(o_Code, o_Arg)]).length) <|
    again4 (list, (out ++ [(o_Code, o_Arg)]), w64 (at5 + n7), ())
def B_i_decoded_J2 (k : Nat) (c_i_mostArg : Int → Option ((Int × Unit) × (Unit))) (c_i_opOk : Int → Int → Option ((Bool × Unit) × (Unit))) (again4 : (List Int × (List (Int × Int)) × Int × Unit) → Option (((List (Int × Int)) × Int × Unit) × (Unit))) (list : List Int) (out : List (Int × Int)) (at5 : Int) (o_Code : Int) (o_Arg : Int) (t58 : Bool) : Option (((List (Int × Int)) × Int × Unit) × (Unit)) :=
  bif t58 then
    jn (fun t => B_i_decoded_J5 k c_i_mostArg c_i_opOk t.1 t.2.1) (out, at5, ())
  else
    chk (inb (w64 (at5 + 2)) list.length) <|
    jn (fun t => B_i_decoded_J3 k c_i_mostArg c_i_opOk again4 t.1 t.2.1 t.2.2.1 t.2.2.2.1.1 t.2.2.2.1.2.1 t.2.2.2.2.1) (list, out, at5, (o_Code, w64 ((w64 (o_Arg - 128)) + (w64 (128 * (rdx (0 : Int) list (w64 (at5 + 2)))))), ()), 3, ())
def B_i_decoded_J1 (k : Nat) (c_i_mostArg : Int → Option ((Int × Unit) × (Unit))) (c_i_opOk : Int → Int → Option ((Bool × Unit) × (Unit))) (again4 : (List Int × (List (Int × Int)) × Int × Unit) → Option (((List (Int × Int)) × Int × Unit) × (Unit))) (list : List Int) (out : List (Int × Int)) (at5 : Int) (o_Code : Int) (o_Arg : Int) (n7 : Int) (t31 : Bool) : Option (((List (Int × Int)) × Int × Unit) × (Unit)) :=
  bif t31 then
    bif decide ((w64 (at5 + 1)) ≥ (len list)) then
      jn (fun t => B_i_decoded_J5 k c_i_mostArg c_i_opOk t.1 t.2.1) (out, at5, ())
    else
      chk (inb (w64 (at5 + 1)) list.length) <|
      bif decide ((rdx (0 : Int) list (w64 (at5 + 1))) ≥ 128) then
        bif decide ((w64 (at5 + 2)) ≥ (len list)) then
          jn (fun t => B_i_decoded_J2 k c_i_mostArg c_i_opOk again4 t.1 t.2.1 t.2.2.1 t.2.2.2.1.1 t.2.2.2.1.2.1 t.2.2.2.2.1) (list, out, at5, (o_Code, (rdx (0 : Int) list (w64 (at5 + 1))), ()), true, ())
        else
          chk (inb (w64 (at5 + 2)) list.length) <|
          jn (fun t => B_i_decoded_J2 k c_i_mostArg c_i_opOk again4 t.1 t.2.1 t.2.2.1 t.2.2.2.1.1 t.2.2.2.1.2.1 t.2.2.2.2.1) (list, out, at5, (o_Code, (rdx (0 : Int) list (w64 (at5 + 1))), ()), ((rdx (0 : Int) list (w64 (at5 + 2))) == 0), ())
      else
        jn (fun t => B_i_decoded_J3 k c_i_mostArg c_i_opOk again4 t.1 t.2.1 t.2.2.1 t.2.2.2.1.1 t.2.2.2.1.2.1 t.2.2.2.2.1) (list, out, at5, (o_Code, (rdx (0 : Int) list (w64 (at5 + 1))), ()), 2, ())
  else
    jn (fun t => B_i_decoded_J3 k c_i_mostArg c_i_opOk again4 t.1 t.2.1 t.2.2.1 t.2.2.2.1.1 t.2.2.2.1.2.1 t.2.2.2.2.1) (list, out, at5, (o_Code, o_Arg, ()), n7, ())
def B_i_decoded_J0 (k : Nat) (c_i_mostArg : Int → Option ((Int × Unit) × (Unit))) (c_i_opOk : Int → Int → Option ((Bool × Unit) × (Unit))) (again4 : (List Int × (List (Int × Int)) × Int × Unit) → Option (((List (Int × Int)) × Int × Unit) × (Unit))) (list : List Int) (out : List (Int × Int)) (at5 : Int) (t17 : Bool) : Option (((List (Int × Int)) × Int × Unit) × (Unit)) :=
  bif t17 then
    chk (inb at5 list.length) <|
    bif decide ((rdx (0 : Int) list at5) ≤ 19) then
      (c_i_mostArg (rdx (0 : Int) list at5)).bind fun r29 =>
      jn (fun t => B_i_decoded_J1 k c_i_mostArg c_i_opOk again4 t.1 t.2.1 t.2.2.1 t.2.2.2.1.1 t.2.2.2.1.2.1 t.2.2.2.2.1 t.2.2.2.2.2.1) (list, out, at5, ((rdx (0 : Int) list at5), 0, ()), 1, decide (r29.1.1 > 0), ())
    else
      jn (fun t => B_i_decoded_J1 k c_i_mostArg c_i_opOk again4 t.1 t.2.1 t.2.2.1 t.2.2.2.1.1 t.2.2.2.1.2.1 t.2.2.2.2.1 t.2.2.2.2.2.1) (list, out, at5, ((rdx (0 : Int) list at5), 0, ()), 1, false, ())
  else
    jn (fun t => B_i_decoded_J5 k c_i_mostArg c_i_opOk t.1 t.2.1) (out, at5, ())
def B_i_decoded_L4b (k : Nat) (c_i_mostArg : Int → Option ((Int × Unit) × (Unit))) (c_i_opOk : Int → Int → Option ((Bool × Unit) × (Unit))) (again4 : (List Int × (List (Int × Int)) × Int × Unit) → Option (((List (Int × Int)) × Int × Unit) × (Unit))) (list : List Int) (out : List (Int × Int)) (at5 : Int) : Option (((List (Int × Int)) × Int × Unit) × (Unit)) :=
  bif decide ((len out) < 300) then
    jn (fun t => B_i_decoded_J0 k c_i_mostArg c_i_opOk again4 t.1 t.2.1 t.2.2.1 t.2.2.2.1) (list, out, at5, decide (at5 < (len list)), ())
  else
    jn (fun t => B_i_decoded_J0 k c_i_mostArg c_i_opOk again4 t.1 t.2.1 t.2.2.1 t.2.2.2.1) (list, out, at5, false, ())
def B_i_decoded_L4 (k : Nat) (c_i_mostArg : Int → Option ((Int × Unit) × (Unit))) (c_i_opOk : Int → Int → Option ((Bool × Unit) × (Unit))) (n : Nat) (t : List Int × (List (Int × Int)) × Int × Unit) : Option (((List (Int × Int)) × Int × Unit) × (Unit)) :=
  lfix n (fun again t => B_i_decoded_L4b k c_i_mostArg c_i_opOk again t.1 t.2.1 t.2.2.1) t
theorem B_i_decoded_L4_succ (k : Nat) (c_i_mostArg : Int → Option ((Int × Unit) × (Unit))) (c_i_opOk : Int → Int → Option ((Bool × Unit) × (Unit))) (n : Nat) (list : List Int) (out : List (Int × Int)) (at5 : Int) : B_i_decoded_L4 k c_i_mostArg c_i_opOk (n + 1) (list, out, at5, ()) = B_i_decoded_L4b k c_i_mostArg c_i_opOk (B_i_decoded_L4 k c_i_mostArg c_i_opOk n) list out at5 := rfl
def B_i_decoded (k : Nat) (c_i_mostArg : Int → Option ((Int × Unit) × (Unit))) (c_i_opOk : Int → Int → Option ((Bool × Unit) × (Unit))) (list : List Int) : Option (((List (Int × Int)) × Int × Unit) × (Unit)) :=
  B_i_decoded_L4 k c_i_mostArg c_i_opOk k (list, [], 0, ())
def F_i_decoded : Nat → List Int → Option (((List (Int × Int)) × Int × Unit) × (Unit))
  | 0, _ => none
  | k + 1, list => B_i_decoded k (F_i_mostArg k) (F_i_opOk k) list
theorem F_i_decoded_succ (k : Nat) (list : List Int) : F_i_decoded (k + 1) list = B_i_decoded k (F_i_mostArg k) (F_i_opOk k) list := rfl
theorem tot_i_decoded {list : List Int} {Q : ((((List (Int × Int)) × Int × Unit) × (Unit))) → Prop} (h : Tot (fun σ => B_i_decoded (σ 0) (F_i_mostArg (σ 0)) (F_i_opOk (σ 0)) list) Q) : Tot (fun σ => F_i_decoded (σ 0) list) Q :=
  Tot.call (F := fun k => F_i_decoded k list) (B := fun k => B_i_decoded k (F_i_mostArg k) (F_i_opOk k) list) (fun k => F_i_decoded_succ k list) h
theorem loop_i_decoded_L4 {Q : List Int → (List (Int × Int)) → Int → (((List (Int × Int)) × Int × Unit) × (Unit)) → Prop} (I : List Int → (List (Int × Int)) → Int → Prop) (μ : List Int → (List (Int × Int)) → Int → Nat)
    (step : ∀ (list : List Int) (out : List (Int × Int)) (at5 : Int), I list out at5 → ∀ again : (Nat → Nat) → (List Int × (List (Int × Int)) × Int × Unit) → Option (((List (Int × Int)) × Int × Unit) × (Unit)), Dep 2 again → (∀ (y0 : List Int) (y1 : List (Int × Int)) (y2 : Int), I y0 y1 y2 → μ y0 y1 y2 < μ list out at5 → Tot (fun σ => again σ (y0, y1, y2, ())) (Q y0 y1 y2)) →
      Tot (fun σ => B_i_decoded_L4b (σ 0) (F_i_mostArg (σ 0)) (F_i_opOk (σ 0)) (again σ) list out at5) (Q list out at5)) :
    ∀ (list : List Int) (out : List (Int × Int)) (at5 : Int), I list out at5 → Tot (fun σ => B_i_decoded_L4 (σ 0) (F_i_mostArg (σ 0)) (F_i_opOk (σ 0)) (σ 0) (list, out, at5, ())) (Q list out at5) := fun list out at5 hI =>
  Tot.loop (L := fun σ n t => B_i_decoded_L4 (σ 0) (F_i_mostArg (σ 0)) (F_i_opOk (σ 0)) n t) (B := fun σ g t => B_i_decoded_L4b (σ 0) (F_i_mostArg (σ 0)) (F_i_opOk (σ 0)) g t.1 t.2.1 t.2.2.1) (Q := fun t => Q t.1 t.2.1 t.2.2.1) 1 (by decide)
    (fun s s' h => by have e0 : s 0 = s' 0 := h 0 (by decide); simp only [e0]) (fun s s' h => by have e0 : s 0 = s' 0 := h 0 (by decide); simp only [e0]) (fun _ _ _ => rfl) (fun t => I t.1 t.2.1 t.2.2.1) (fun t => μ t.1 t.2.1 t.2.2.1)
    (fun t ht again hag h => step t.1 t.2.1 t.2.2.1 ht again hag (fun y0 y1 y2 hI hm => h (y0, y1, y2, ()) hI hm)) (list, out, at5, ()) hI
def B_i_DecodeTorn (k : Nat) (c_i_bytesOk : List Int → Int → Option ((Bool × Unit) × (Unit))) (c_i_decoded : List Int → Option (((List (Int × Int)) × Int × Unit) × (Unit))) (list : List Int) : Option (((List (Int × Int)) × Int × Unit) × (Unit)) :=
  (c_i_bytesOk list 1000).bind fun r5 =>
  bif (!r5.1.1) then
    some (([], (-1), ()), ())
  else
    (c_i_decoded list).bind fun r8 =>
    some ((r8.1.1, r8.1.2.1, ()), ())
def F_i_DecodeTorn : Nat → List Int → Option (((List (Int × Int)) × Int × Unit) × (Unit))
  | 0, _ => none
  | k + 1, list => B_i_DecodeTorn k (F_i_bytesOk k) (F_i_decoded k) list
theorem F_i_DecodeTorn_succ (k : Nat) (list : List Int) : F_i_DecodeTorn (k + 1) list = B_i_DecodeTorn k (F_i_bytesOk k) (F_i_decoded k) list := rfl
theorem tot_i_DecodeTorn {list : List Int} {Q : ((((List (Int × Int)) × Int × Unit) × (Unit))) → Prop} (h : Tot (fun σ => B_i_DecodeTorn (σ 0) (F_i_bytesOk (σ 0)) (F_i_decoded (σ 0)) list) Q) : Tot (fun σ => F_i_DecodeTorn (σ 0) list) Q :=
  Tot.call (F := fun k => F_i_DecodeTorn k list) (B := fun k => B_i_DecodeTorn k (F_i_bytesOk k) (F_i_decoded k) list) (fun k => F_i_DecodeTorn_succ k list) h
def B_s_validBytes (k : Nat) (c_s_allIn : List Int → Int → Int → Option ((Bool × Unit) × (Unit))) (list : List Int) : Option ((Bool × Unit) × (Unit)) :=
  bif decide ((len list) ≤ 1000) then
    (c_s_allIn list 0 255).bind fun r8 =>
    some ((r8.1.1, ()), ())
  else
    some ((false, ()), ())
def F_s_validBytes : Nat → List Int → Option ((Bool × Unit) × (Unit))
  | 0, _ => none
  | k + 1, list => B_s_validBytes k (F_s_allIn k) list
theorem F_s_validBytes_succ (k : Nat) (list : List Int) : F_s_validBytes (k + 1) list = B_s_validBytes k (F_s_allIn k) list := rfl
theorem tot_s_validBytes {list : List Int} {Q : (((Bool × Unit) × (Unit))) → Prop} (h : Tot (fun σ => B_s_validBytes (σ 0) (F_s_allIn (σ 0)) list) Q) : Tot (fun σ => F_s_validBytes (σ 0) list) Q :=
  Tot.call (F := fun k => F_s_validBytes k list) (B := fun k => B_s_validBytes k (F_s_allIn k) list) (fun k => F_s_validBytes_succ k list) h
def B_s_readOp_J1 (k : Nat) (c_s_argOf : Int → Option ((Int × Unit) × (Unit))) (c_s_validOp : Int → Int → Option ((Bool × Unit) × (Unit))) (c_s_bytesOf : Int → Int → Option ((List Int × Unit) × (Unit))) (t2_Code : Int) (t2_Arg : Int) (o_Code : Int) (o_Arg : Int) (n5 : Int) (t53 : Bool) : Option (((Int × Int × Unit) × Int × Unit) × (Unit)) :=
  bif t53 then
    some (((0, 0, ()), 0, ()), ())
  else
    some (((o_Code, o_Arg, ()), n5, ()), ())
def B_s_readOp_J0 (k : Nat) (c_s_argOf : Int → Option ((Int × Unit) × (Unit))) (c_s_validOp : Int → Int → Option ((Bool × Unit) × (Unit))) (c_s_bytesOf : Int → Int → Option ((List Int × Unit) × (Unit))) (t2_Code : Int) (t2_Arg : Int) (o_Code : Int) (o_Arg : Int) (n5 : Int) : Option (((Int × Int × Unit) × Int × Unit) × (Unit)) :=
  (c_s_validOp o_Code o_Arg).bind fun r45 =>
  bif (!r45.1.1) then
    jn (fun t => B_s_readOp_J1 k c_s_argOf c_s_validOp c_s_bytesOf t.1.1 t.1.2.1 t.2.1.1 t.2.1.2.1 t.2.2.1 t.2.2.2.1) ((t2_Code, t2_Arg, ()), (o_Code, o_Arg, ()), n5, true, ())
  else
    (c_s_bytesOf o_Code o_Arg).bind fun r49 =>
    jn (fun t => B_s_readOp_J1 k c_s_argOf c_s_validOp c_s_bytesOf t.1.1 t.1.2.1 t.2.1.1 t.2.1.2.1 t.2.2.1 t.2.2.2.1) ((t2_Code, t2_Arg, ()), (o_Code, o_Arg, ()), n5, ((len r49.1.1) != n5), ())
def B_s_readOp (k : Nat) (c_s_argOf : Int → Option ((Int × Unit) × (Unit))) (c_s_validOp : Int → Int → Option ((Bool × Unit) × (Unit))) (c_s_bytesOf : Int → Int → Option ((List Int × Unit) × (Unit))) (list : List Int) : Option (((Int × Int × Unit) × Int × Unit) × (Unit)) :=
  bif ((len list) == 0) then
    some (((0, 0, ()), 0, ()), ())
  else
    chk (inb 0 list.length) <|
    (c_s_argOf (rdx (0 : Int) list 0)).bind fun r16 =>
    bif decide (r16.1.1 ≥ 0) then
      bif decide ((len list) < 2) then
        some (((0, 0, ()), 0, ()), ())
      else
        chk (inb 1 list.length) <|
        chk (inb 1 list.length) <|
        bif decide ((rdx (0 : Int) list 1) ≥ 128) then
          bif decide ((len list) < 3) then
            some (((0, 0, ()), 0, ()), ())
          else
            chk (inb 1 list.length) <|
            chk (inb 2 list.length) <|
            jn (fun t => B_s_readOp_J0 k c_s_argOf c_s_validOp c_s_bytesOf t.1.1 t.1.2.1 t.2.1.1 t.2.1.2.1 t.2.2.1) ((0, 0, ()), ((rdx (0 : Int) list 0), w64 ((w64 ((rdx (0 : Int) list 1) - 128)) + (w64 (128 * (rdx (0 : Int) list 2)))), ()), 3, ())
        else
          jn (fun t => B_s_readOp_J0 k c_s_argOf c_s_validOp c_s_bytesOf t.1.1 t.1.2.1 t.2.1.1 t.2.1.2.1 t.2.2.1) ((0, 0, ()), ((rdx (0 : Int) list 0), (rdx (0 : Int) list 1), ()), 2, ())
    else
      jn (fun t => B_s_readOp_J0 k c_s_argOf c_s_validOp c_s_bytesOf t.1.1 t.1.2.1 t.2.1.1 t.2.1.2.1 t.2.2.1) ((0, 0, ()), ((rdx (0 : Int) list 0), 0, ()), 1, ())
def F_s_readOp : Nat → List Int → Option (((Int × Int × Unit) × Int × Unit) × (Unit))
  | 0, _ => none
  | k + 1, list => B_s_readOp k (F_s_argOf k) (F_s_validOp k) (F_s_bytesOf k) list
theorem F_s_readOp_succ (k : Nat) (list : List Int) : F_s_readOp (k + 1) list = B_s_readOp k (F_s_argOf k) (F_s_validOp k) (F_s_bytesOf k) list := rfl
theorem tot_s_readOp {list : List Int} {Q : ((((Int × Int × Unit) × Int × Unit) × (Unit))) → Prop} (h : Tot (fun σ => B_s_readOp (σ 0) (F_s_argOf (σ 0)) (F_s_validOp (σ 0)) (F_s_bytesOf (σ 0)) list) Q) : Tot (fun σ => F_s_readOp (σ 0) list) Q :=
  Tot.call (F := fun k => F_s_readOp k list) (B := fun k => B_s_readOp k (F_s_argOf k) (F_s_validOp k) (F_s_bytesOf k) list) (fun k => F_s_readOp_succ k list) h
def B_s_readOps_L0b (k : Nat) (c_s_readOp : List Int → Option (((Int × Int × Unit) × Int × Unit) × (Unit))) (again0 : (List Int × (List (Int × Int)) × Int × Unit) → Option (((List (Int × Int)) × Int × Unit) × (Unit))) (list : List Int) (out : List (Int × Int)) (at5 : Int) : Option (((List (Int × Int)) × Int × Unit) × (Unit)) :=
  bif decide ((len out) < 300) then
    chk (cutb at5 (len list) list.length) <|
    (c_s_readOp (sub list at5 (len list))).bind fun r16 =>
    bif (r16.1.2.1 == 0) then
      some ((out, at5, ()), ())
    else
      chk (room out.length ([(r16.1.1.1, r16.1.1.2.1)]).length) <|
      again0 (list, (out ++ [(r16.1.1.1, r16.1.1.2.1)]), w64 (at5 + r16.1.2.1), ())
  else
    some ((out, at5, ()), ())
def B_s_readOps_L0 (k : Nat) (c_s_readOp : List Int → Option (((Int × Int × Unit) × Int × Unit) × (Unit))) (n : Nat) (t : List Int × (List (Int × Int)) × Int × Unit) : Option (((List (Int × Int)) × Int × Unit) × (Unit)) :=
  lfix n (fun again t => B_s_readOps_L0b k c_s_readOp again t.1 t.2.1 t.2.2.1) t
theorem B_s_readOps_L0_succ (k : Nat) (c_s_readOp : List Int → Option (((Int × Int × Unit) × Int × Unit) × (Unit))) (n : Nat) (list : List Int) (out : List (Int × Int)) (at5 : Int) : B_s_readOps_L0 k c_s_readOp (n + 1) (list, out, at5, ()) = B_s_readOps_L0b k c_s_readOp (B_s_readOps_L0 k c_s_readOp n) list out at5 := rfl
def B_s_readOps (k : Nat) (c_s_readOp : List Int → Option (((Int × Int × Unit) × Int × Unit) × (Unit))) (list : List Int) : Option (((List (Int × Int)) × Int × Unit) × (Unit)) :=
  B_s_readOps_L0 k c_s_readOp k (list, [], 0, ())
def F_s_readOps : Nat → List Int → Option (((List (Int × Int)) × Int × Unit) × (Unit))
  | 0, _ => none
  | k + 1, list => B_s_readOps k (F_s_readOp k) list
theorem F_s_readOps_succ (k : Nat) (list : List Int) : F_s_readOps (k + 1) list = B_s_readOps k (F_s_readOp k) list := rfl
theorem tot_s_readOps {list : List Int} {Q : ((((List (Int × Int)) × Int × Unit) × (Unit))) → Prop} (h : Tot (fun σ => B_s_readOps (σ 0) (F_s_readOp (σ 0)) list) Q) : Tot (fun σ => F_s_readOps (σ 0) list) Q :=
  Tot.call (F := fun k => F_s_readOps k list) (B := fun k => B_s_readOps k (F_s_readOp k) list) (fun k => F_s_readOps_succ k list) h
theorem loop_s_readOps_L0 {Q : List Int → (List (Int × Int)) → Int → (((List (Int × Int)) × Int × Unit) × (Unit)) → Prop} (I : List Int → (List (Int × Int)) → Int → Prop) (μ : List Int → (List (Int × Int)) → Int → Nat)
    (step : ∀ (list : List Int) (out : List (Int × Int)) (at5 : Int), I list out at5 → ∀ again : (Nat → Nat) → (List Int × (List (Int × Int)) × Int × Unit) → Option (((List (Int × Int)) × Int × Unit) × (Unit)), Dep 2 again → (∀ (y0 : List Int) (y1 : List (Int × Int)) (y2 : Int), I y0 y1 y2 → μ y0 y1 y2 < μ list out at5 → Tot (fun σ => again σ (y0, y1, y2, ())) (Q y0 y1 y2)) →
      Tot (fun σ => B_s_readOps_L0b (σ 0) (F_s_readOp (σ 0)) (again σ) list out at5) (Q list out at5)) :
    ∀ (list : List Int) (out : List (Int × Int)) (at5 : Int), I list out at5 → Tot (fun σ => B_s_readOps_L0 (σ 0) (F_s_readOp (σ 0)) (σ 0) (list, out, at5, ())) (Q list out at5) := fun list out at5 hI =>
  Tot.loop (L := fun σ n t => B_s_readOps_L0 (σ 0) (F_s_readOp (σ 0)) n t) (B := fun σ g t => B_s_readOps_L0b (σ 0) (F_s_readOp (σ 0)) g t.1 t.2.1 t.2.2.1) (Q := fun t => Q t.1 t.2.1 t.2.2.1) 1 (by decide)
    (fun s s' h => by have e0 : s 0 = s' 0 := h 0 (by decide); simp only [e0]) (fun s s' h => by have e0 : s 0 = s' 0 := h 0 (by decide); simp only [e0]) (fun _ _ _ => rfl) (fun t => I t.1 t.2.1 t.2.2.1) (fun t => μ t.1 t.2.1 t.2.2.1)
    (fun t ht again hag h => step t.1 t.2.1 t.2.2.1 ht again hag (fun y0 y1 y2 hI hm => h (y0, y1, y2, ()) hI hm)) (list, out, at5, ()) hI
def B_s_DecodeTorn (k : Nat) (c_s_validBytes : List Int → Option ((Bool × Unit) × (Unit))) (c_s_readOps : List Int → Option (((List (Int × Int)) × Int × Unit) × (Unit))) (list : List Int) : Option (((List (Int × Int)) × Int × Unit) × (Unit)) :=
  (c_s_validBytes list).bind fun r5 =>
  bif (!r5.1.1) then
    some (([], (-1), ()), ())
  else
    (c_s_readOps list).bind fun r8 =>
    some ((r8.1.1, r8.1.2.1, ()), ())
def F_s_DecodeTorn : Nat → List Int → Option (((List (Int × Int)) × Int × Unit) × (Unit))
  | 0, _ => none
  | k + 1, list => B_s_DecodeTorn k (F_s_validBytes k) (F_s_readOps k) list
theorem F_s_DecodeTorn_succ (k : Nat) (list : List Int) : F_s_DecodeTorn (k + 1) list = B_s_DecodeTorn k (F_s_validBytes k) (F_s_readOps k) list := rfl
theorem tot_s_DecodeTorn {list : List Int} {Q : ((((List (Int × Int)) × Int × Unit) × (Unit))) → Prop} (h : Tot (fun σ => B_s_DecodeTorn (σ 0) (F_s_validBytes (σ 0)) (F_s_readOps (σ 0)) list) Q) : Tot (fun σ => F_s_DecodeTorn (σ 0) list) Q :=
  Tot.call (F := fun k => F_s_DecodeTorn k list) (B := fun k => B_s_DecodeTorn k (F_s_validBytes k) (F_s_readOps k) list) (fun k => F_s_DecodeTorn_succ k list) h
def B_l_equalOps_L0b (k : Nat) (again0 : ((List (Int × Int)) × (List (Int × Int)) × Int × Unit) → Option ((Bool × Unit) × (Unit))) (a : List (Int × Int)) (b : List (Int × Int)) (i : Int) : Option ((Bool × Unit) × (Unit)) :=
  bif decide (i < (len a)) then
    chk (inb i a.length) <|
    chk (inb i b.length) <|
    let v25 : Bool := (!(((rdx ((0 : Int), (0 : Int)) a i).1) == ((rdx ((0 : Int), (0 : Int)) b i).1) && (((rdx ((0 : Int), (0 : Int)) a i).2) == ((rdx ((0 : Int), (0 : Int)) b i).2))))
    bif v25 then
      some ((false, ()), ())
    else
      again0 (a, b, w64 (i + 1), ())
  else
    some ((true, ()), ())
def B_l_equalOps_L0 (k : Nat) (n : Nat) (t : (List (Int × Int)) × (List (Int × Int)) × Int × Unit) : Option ((Bool × Unit) × (Unit)) :=
  lfix n (fun again t => B_l_equalOps_L0b k again t.1 t.2.1 t.2.2.1) t
theorem B_l_equalOps_L0_succ (k : Nat) (n : Nat) (a : List (Int × Int)) (b : List (Int × Int)) (i : Int) : B_l_equalOps_L0 k (n + 1) (a, b, i, ()) = B_l_equalOps_L0b k (B_l_equalOps_L0 k n) a b i := rfl
def B_l_equalOps (k : Nat) (a : List (Int × Int)) (b : List (Int × Int)) : Option ((Bool × Unit) × (Unit)) :=
  bif ((len a) != (len b)) then
    some ((false, ()), ())
  else
    B_l_equalOps_L0 k k (a, b, 0, ())
def F_l_equalOps : Nat → (List (Int × Int)) → (List (Int × Int)) → Option ((Bool × Unit) × (Unit))
  | 0, _, _ => none
  | k + 1, a, b => B_l_equalOps k a b
theorem F_l_equalOps_succ (k : Nat) (a : List (Int × Int)) (b : List (Int × Int)) : F_l_equalOps (k + 1) a b = B_l_equalOps k a b := rfl
theorem tot_l_equalOps {a : List (Int × Int)} {b : List (Int × Int)} {Q : (((Bool × Unit) × (Unit))) → Prop} (h : Tot (fun σ => B_l_equalOps (σ 0) a b) Q) : Tot (fun σ => F_l_equalOps (σ 0) a b) Q :=
  Tot.call (F := fun k => F_l_equalOps k a b) (B := fun k => B_l_equalOps k a b) (fun k => F_l_equalOps_succ k a b) h
theorem loop_l_equalOps_L0 {Q : (List (Int × Int)) → (List (Int × Int)) → Int → ((Bool × Unit) × (Unit)) → Prop} (I : (List (Int × Int)) → (List (Int × Int)) → Int → Prop) (μ : (List (Int × Int)) → (List (Int × Int)) → Int → Nat)
    (step : ∀ (a : List (Int × Int)) (b : List (Int × Int)) (i : Int), I a b i → ∀ again : (Nat → Nat) → ((List (Int × Int)) × (List (Int × Int)) × Int × Unit) → Option ((Bool × Unit) × (Unit)), Dep 2 again → (∀ (y0 : List (Int × Int)) (y1 : List (Int × Int)) (y2 : Int), I y0 y1 y2 → μ y0 y1 y2 < μ a b i → Tot (fun σ => again σ (y0, y1, y2, ())) (Q y0 y1 y2)) →
      Tot (fun σ => B_l_equalOps_L0b (σ 0) (again σ) a b i) (Q a b i)) :
    ∀ (a : List (Int × Int)) (b : List (Int × Int)) (i : Int), I a b i → Tot (fun σ => B_l_equalOps_L0 (σ 0) (σ 0) (a, b, i, ())) (Q a b i) := fun a b i hI =>
  Tot.loop (L := fun σ n t => B_l_equalOps_L0 (σ 0) n t) (B := fun σ g t => B_l_equalOps_L0b (σ 0) g t.1 t.2.1 t.2.2.1) (Q := fun t => Q t.1 t.2.1 t.2.2.1) 1 (by decide)
    (fun s s' h => by have e0 : s 0 = s' 0 := h 0 (by decide); simp only [e0]) (fun s s' h => by have e0 : s 0 = s' 0 := h 0 (by decide); simp only [e0]) (fun _ _ _ => rfl) (fun t => I t.1 t.2.1 t.2.2.1) (fun t => μ t.1 t.2.1 t.2.2.1)
    (fun t ht again hag h => step t.1 t.2.1 t.2.2.1 ht again hag (fun y0 y1 y2 hI hm => h (y0, y1, y2, ()) hI hm)) (a, b, i, ()) hI
def B_l_begins (k : Nat) (c_l_equalOps : (List (Int × Int)) → (List (Int × Int)) → Option ((Bool × Unit) × (Unit))) (a : List (Int × Int)) (b : List (Int × Int)) : Option ((Bool × Unit) × (Unit)) :=
  bif decide ((len b) ≤ (len a)) then
    chk (cutb 0 (len b) a.length) <|
    (c_l_equalOps (sub a 0 (len b)) b).bind fun r16 =>
    some ((r16.1.1, ()), ())
  else
    some ((false, ()), ())
def F_l_begins : Nat → (List (Int × Int)) → (List (Int × Int)) → Option ((Bool × Unit) × (Unit))
  | 0, _, _ => none
  | k + 1, a, b => B_l_begins k (F_l_equalOps k) a b
theorem F_l_begins_succ (k : Nat) (a : List (Int × Int)) (b : List (Int × Int)) : F_l_begins (k + 1) a b = B_l_begins k (F_l_equalOps k) a b := rfl
theorem tot_l_begins {a : List (Int × Int)} {b : List (Int × Int)} {Q : (((Bool × Unit) × (Unit))) → Prop} (h : Tot (fun σ => B_l_begins (σ 0) (F_l_equalOps (σ 0)) a b) Q) : Tot (fun σ => F_l_begins (σ 0) a b) Q :=
  Tot.call (F := fun k => F_l_begins k a b) (B := fun k => B_l_begins k (F_l_equalOps k) a b) (fun k => F_l_begins_succ k a b) h
def B_i_DecodeOps (k : Nat) (c_i_bytesOk : List Int → Int → Option ((Bool × Unit) × (Unit))) (c_i_decoded : List Int → Option (((List (Int × Int)) × Int × Unit) × (Unit))) (list : List Int) : Option (((List (Int × Int)) × Bool × Unit) × (Unit)) :=
  (c_i_bytesOk list 1000).bind fun r7 =>
  bif (!r7.1.1) then
    some (([], false, ()), ())
  else
    (c_i_decoded list).bind fun r11 =>
    bif decide (r11.1.2.1 < (len list)) then
      some (([], false, ()), ())
    else
      some ((r11.1.1, true, ()), ())
def F_i_DecodeOps : Nat → List Int → Option (((List (Int × Int)) × Bool × Unit) × (Unit))
  | 0, _ => none
  | k + 1, list => B_i_DecodeOps k (F_i_bytesOk k) (F_i_decoded k) list
theorem F_i_DecodeOps_succ (k : Nat) (list : List Int) : F_i_DecodeOps (k + 1) list = B_i_DecodeOps k (F_i_bytesOk k) (F_i_decoded k) list := rfl
theorem tot_i_DecodeOps {list : List Int} {Q : ((((List (Int × Int)) × Bool × Unit) × (Unit))) → Prop} (h : Tot (fun σ => B_i_DecodeOps (σ 0) (F_i_bytesOk (σ 0)) (F_i_decoded (σ 0)) list) Q) : Tot (fun σ => F_i_DecodeOps (σ 0) list) Q :=
  Tot.call (F := fun k => F_i_DecodeOps k list) (B := fun k => B_i_DecodeOps k (F_i_bytesOk k) (F_i_decoded k) list) (fun k => F_i_DecodeOps_succ k list) h
def B_i_ValidOps_L0b (k : Nat) (c_i_opOk : Int → Int → Option ((Bool × Unit) × (Unit))) (again0 : ((List (Int × Int)) × (List (Int × Int)) × Int × Int × Unit) → Option ((Bool × Unit) × (Unit))) (ops : List (Int × Int)) (t5 : List (Int × Int)) (t6 : Int) (t7 : Int) : Option ((Bool × Unit) × (Unit)) :=
  bif decide (t7 < t6) then
    chk (inb t7 t5.length) <|
    (c_i_opOk ((rdx ((0 : Int), (0 : Int)) t5 t7).1) ((rdx ((0 : Int), (0 : Int)) t5 t7).2)).bind fun r12 =>
    bif (!r12.1.1) then
      some ((false, ()), ())
    else
      again0 (ops, t5, t6, w64 (t7 + 1), ())
  else
    some ((decide ((len ops) ≤ 300), ()), ())
def B_i_ValidOps_L0 (k : Nat) (c_i_opOk : Int → Int → Option ((Bool × Unit) × (Unit))) (n : Nat) (t : (List (Int × Int)) × (List (Int × Int)) × Int × Int × Unit) : Option ((Bool × Unit) × (Unit)) :=
  lfix n (fun again t => B_i_ValidOps_L0b k c_i_opOk again t.1 t.2.1 t.2.2.1 t.2.2.2.1) t
theorem B_i_ValidOps_L0_succ (k : Nat) (c_i_opOk : Int → Int → Option ((Bool × Unit) × (Unit))) (n : Nat) (ops : List (Int × Int)) (t5 : List (Int × Int)) (t6 : Int) (t7 : Int) : B_i_ValidOps_L0 k c_i_opOk (n + 1) (ops, t5, t6, t7, ()) = B_i_ValidOps_L0b k c_i_opOk (B_i_ValidOps_L0 k c_i_opOk n) ops t5 t6 t7 := rfl
def B_i_ValidOps (k : Nat) (c_i_opOk : Int → Int → Option ((Bool × Unit) × (Unit))) (ops : List (Int × Int)) : Option ((Bool × Unit) × (Unit)) :=
  B_i_ValidOps_L0 k c_i_opOk k (ops, ops, len ops, 0, ())
def F_i_ValidOps : Nat → (List (Int × Int)) → Option ((Bool × Unit) × (Unit))
  | 0, _ => none
  | k + 1, ops => B_i_ValidOps k (F_i_opOk k) ops
theorem F_i_ValidOps_succ (k : Nat) (ops : List (Int × Int)) : F_i_ValidOps (k + 1) ops = B_i_ValidOps k (F_i_opOk k) ops := rfl
theorem tot_i_ValidOps {ops : List (Int × Int)} {Q : (((Bool × Unit) × (Unit))) → Prop} (h : Tot (fun σ => B_i_ValidOps (σ 0) (F_i_opOk (σ 0)) ops) Q) : Tot (fun σ => F_i_ValidOps (σ 0) ops) Q :=
  Tot.call (F := fun k => F_i_ValidOps k ops) (B := fun k => B_i_ValidOps k (F_i_opOk k) ops) (fun k => F_i_ValidOps_succ k ops) h
theorem loop_i_ValidOps_L0 {Q : (List (Int × Int)) → (List (Int × Int)) → Int → Int → ((Bool × Unit) × (Unit)) → Prop} (I : (List (Int × Int)) → (List (Int × Int)) → Int → Int → Prop) (μ : (List (Int × Int)) → (List (Int × Int)) → Int → Int → Nat)
    (step : ∀ (ops : List (Int × Int)) (t5 : List (Int × Int)) (t6 : Int) (t7 : Int), I ops t5 t6 t7 → ∀ again : (Nat → Nat) → ((List (Int × Int)) × (List (Int × Int)) × Int × Int × Unit) → Option ((Bool × Unit) × (Unit)), Dep 2 again → (∀ (y0 : List (Int × Int)) (y1 : List (Int × Int)) (y2 : Int) (y3 : Int), I y0 y1 y2 y3 → μ y0 y1 y2 y3 < μ ops t5 t6 t7 → Tot (fun σ => again σ (y0, y1, y2, y3, ())) (Q y0 y1 y2 y3)) →
      Tot (fun σ => B_i_ValidOps_L0b (σ 0) (F_i_opOk (σ 0)) (again σ) ops t5 t6 t7) (Q ops t5 t6 t7)) :
    ∀ (ops : List (Int × Int)) (t5 : List (Int × Int)) (t6 : Int) (t7 : Int), I ops t5 t6 t7 → Tot (fun σ => B_i_ValidOps_L0 (σ 0) (F_i_opOk (σ 0)) (σ 0) (ops, t5, t6, t7, ())) (Q ops t5 t6 t7) := fun ops t5 t6 t7 hI =>
  Tot.loop (L := fun σ n t => B_i_ValidOps_L0 (σ 0) (F_i_opOk (σ 0)) n t) (B := fun σ g t => B_i_ValidOps_L0b (σ 0) (F_i_opOk (σ 0)) g t.1 t.2.1 t.2.2.1 t.2.2.2.1) (Q := fun t => Q t.1 t.2.1 t.2.2.1 t.2.2.2.1) 1 (by decide)
    (fun s s' h => by have e0 : s 0 = s' 0 := h 0 (by decide); simp only [e0]) (fun s s' h => by have e0 : s 0 = s' 0 := h 0 (by decide); simp only [e0]) (fun _ _ _ => rfl) (fun t => I t.1 t.2.1 t.2.2.1 t.2.2.2.1) (fun t => μ t.1 t.2.1 t.2.2.1 t.2.2.2.1)
    (fun t ht again hag h => step t.1 t.2.1 t.2.2.1 t.2.2.2.1 ht again hag (fun y0 y1 y2 y3 hI hm => h (y0, y1, y2, y3, ()) hI hm)) (ops, t5, t6, t7, ()) hI
def B_i_EncodeOps_J0 (k : Nat) (c_i_ValidOps : (List (Int × Int)) → Option ((Bool × Unit) × (Unit))) (c_i_mostArg : Int → Option ((Int × Unit) × (Unit))) (again1 : (List Int × (List (Int × Int)) × Int × Int × Unit) → Option ((List Int × Unit) × (Unit))) (out : List Int) (t10 : List (Int × Int)) (t11 : Int) (t12 : Int) : Option ((List Int × Unit) × (Unit)) :=
  again1 (out, t10, t11, w64 (t12 + 1), ())
def B_i_EncodeOps_L1b (k : Nat) (c_i_ValidOps : (List (Int × Int)) → Option ((Bool × Unit) × (Unit))) (c_i_mostArg : Int → Option ((Int × Unit) × (Unit))) (again1 : (List Int × (List (Int × Int)) × Int × Int × Unit) → Option ((List Int × Unit) × (Unit))) (out : List Int) (t10 : List (Int × Int)) (t11 : Int) (t12 : Int) : Option ((List Int × Unit) × (Unit)) :=
  bif decide (t12 < t11) then
    chk (inb t12 t10.length) <|
    chk (room out.length ([(rdx ((0 : Int), (0 : Int)) t10 t12).1]).length) <|
    (c_i_mostArg ((rdx ((0 : Int), (0 : Int)) t10 t12).1)).bind fun r34 =>
    bif (r34.1.1 == 0) then
      jn (fun t => B_i_EncodeOps_J0 k c_i_ValidOps c_i_mostArg again1 t.1 t.2.1 t.2.2.1 t.2.2.2.1) ((out ++ [(rdx ((0 : Int), (0 : Int)) t10 t12).1]), t10, t11, t12, ())
    else
      bif decide (((rdx ((0 : Int), (0 : Int)) t10 t12).2) < 128) then
        chk (room (out ++ [(rdx ((0 : Int), (0 : Int)) t10 t12).1]).length ([(rdx ((0 : Int), (0 : Int)) t10 t12).2]).length) <|
        jn (fun t => B_i_EncodeOps_J0 k c_i_ValidOps c_i_mostArg again1 t.1 t.2.1 t.2.2.1 t.2.2.2.1) (((out ++ [(rdx ((0 : Int), (0 : Int)) t10 t12).1]) ++ [(rdx ((0 : Int), (0 : Int)) t10 t12).2]), t10, t11, t12, ())
      else
        chk (room (out ++ [(rdx ((0 : Int), (0 : Int)) t10 t12).1]).length ([w64 (128 + (((rdx ((0 : Int), (0 : Int)) t10 t12).2).tmod 128)), w64 (((rdx ((0 : Int), (0 : Int)) t10 t12).2).tdiv 128)]).length) <|
        jn (fun t => B_i_EncodeOps_J0 k c_i_ValidOps c_i_mostArg again1 t.1 t.2.1 t.2.2.1 t.2.2.2.1) (((out ++ [(rdx ((0 : Int), (0 : Int)) t10 t12).1]) ++ [w64 (128 + (((rdx ((0 : Int), (0 : Int)) t10 t12).2).tmod 128)), w64 (((rdx ((0 : Int), (0 : Int)) t10 t12).2).tdiv 128)]), t10, t11, t12, ())
  else
    some ((out, ()), ())
def B_i_EncodeOps_L1 (k : Nat) (c_i_ValidOps : (List (Int × Int)) → Option ((Bool × Unit) × (Unit))) (c_i_mostArg : Int → Option ((Int × Unit) × (Unit))) (n : Nat) (t : List Int × (List (Int × Int)) × Int × Int × Unit) : Option ((List Int × Unit) × (Unit)) :=
  lfix n (fun again t => B_i_EncodeOps_L1b k c_i_ValidOps c_i_mostArg again t.1 t.2.1 t.2.2.1 t.2.2.2.1) t
theorem B_i_EncodeOps_L1_succ (k : Nat) (c_i_ValidOps : (List (Int × Int)) → Option ((Bool × Unit) × (Unit))) (c_i_mostArg : Int → Option ((Int × Unit) × (Unit))) (n : Nat) (out : List Int) (t10 : List (Int × Int)) (t11 : Int) (t12 : Int) : B_i_EncodeOps_L1 k c_i_ValidOps c_i_mostArg (n + 1) (out, t10, t11, t12, ()) = B_i_EncodeOps_L1b k c_i_ValidOps c_i_mostArg (B_i_EncodeOps_L1 k c_i_ValidOps c_i_mostArg n) out t10 t11 t12 := rfl
def B_i_EncodeOps (k : Nat) (c_i_ValidOps : (List (Int × Int)) → Option ((Bool × Unit) × (Unit))) (c_i_mostArg : Int → Option ((Int × Unit) × (Unit))) (ops : List (Int × Int)) : Option ((List Int × Unit) × (Unit)) :=
  (c_i_ValidOps ops).bind fun r7 =>
  bif (!r7.1.1) then
    some (([], ()), ())
  else
    B_i_EncodeOps_L1 k c_i_ValidOps c_i_mostArg k ([], ops, len ops, 0, ())
def F_i_EncodeOps : Nat → (List (Int × Int)) → Option ((List Int × Unit) × (Unit))
  | 0, _ => none
  | k + 1, ops => B_i_EncodeOps k (F_i_ValidOps k) (F_i_mostArg k) ops
theorem F_i_EncodeOps_succ (k : Nat) (ops : List (Int × Int)) : F_i_EncodeOps (k + 1) ops = B_i_EncodeOps k (F_i_ValidOps k) (F_i_mostArg k) ops := rfl
theorem tot_i_EncodeOps {ops : List (Int × Int)} {Q : (((List Int × Unit) × (Unit))) → Prop} (h : Tot (fun σ => B_i_EncodeOps (σ 0) (F_i_ValidOps (σ 0)) (F_i_mostArg (σ 0)) ops) Q) : Tot (fun σ => F_i_EncodeOps (σ 0) ops) Q :=
  Tot.call (F := fun k => F_i_EncodeOps k ops) (B := fun k => B_i_EncodeOps k (F_i_ValidOps k) (F_i_mostArg k) ops) (fun k => F_i_EncodeOps_succ k ops) h
theorem loop_i_EncodeOps_L1 {Q : List Int → (List (Int × Int)) → Int → Int → ((List Int × Unit) × (Unit)) → Prop} (I : List Int → (List (Int × Int)) → Int → Int → Prop) (μ : List Int → (List (Int × Int)) → Int → Int → Nat)
    (step : ∀ (out : List Int) (t10 : List (Int × Int)) (t11 : Int) (t12 : Int), I out t10 t11 t12 → ∀ again : (Nat → Nat) → (List Int × (List (Int × Int)) × Int × Int × Unit) → Option ((List Int × Unit) × (Unit)), Dep 2 again → (∀ (y0 : List Int) (y1 : List (Int × Int)) (y2 : Int) (y3 : Int), I y0 y1 y2 y3 → μ y0 y1 y2 y3 < μ out t10 t11 t12 → Tot (fun σ => again σ (y0, y1, y2, y3, ())) (Q y0 y1 y2 y3)) →
      Tot (fun σ => B_i_EncodeOps_L1b (σ 0) (F_i_ValidOps (σ 0)) (F_i_mostArg (σ 0)) (again σ) out t10 t11 t12) (Q out t10 t11 t12)) :
    ∀ (out : List Int) (t10 : List (Int × Int)) (t11 : Int) (t12 : Int), I out t10 t11 t12 → Tot (fun σ => B_i_EncodeOps_L1 (σ 0) (F_i_ValidOps (σ 0)) (F_i_mostArg (σ 0)) (σ 0) (out, t10, t11, t12, ())) (Q out t10 t11 t12) := fun out t10 t11 t12 hI =>
  Tot.loop (L := fun σ n t => B_i_EncodeOps_L1 (σ 0) (F_i_ValidOps (σ 0)) (F_i_mostArg (σ 0)) n t) (B := fun σ g t => B_i_EncodeOps_L1b (σ 0) (F_i_ValidOps (σ 0)) (F_i_mostArg (σ 0)) g t.1 t.2.1 t.2.2.1 t.2.2.2.1) (Q := fun t => Q t.1 t.2.1 t.2.2.1 t.2.2.2.1) 1 (by decide)
    (fun s s' h => by have e0 : s 0 = s' 0 := h 0 (by decide); simp only [e0]) (fun s s' h => by have e0 : s 0 = s' 0 := h 0 (by decide); simp only [e0]) (fun _ _ _ => rfl) (fun t => I t.1 t.2.1 t.2.2.1 t.2.2.2.1) (fun t => μ t.1 t.2.1 t.2.2.1 t.2.2.2.1)
    (fun t ht again hag h => step t.1 t.2.1 t.2.2.1 t.2.2.2.1 ht again hag (fun y0 y1 y2 y3 hI hm => h (y0, y1, y2, y3, ()) hI hm)) (out, t10, t11, t12, ()) hI
def B_l_equalInts_L0b (k : Nat) (again0 : (List Int × List Int × Int × Unit) → Option ((Bool × Unit) × (Unit))) (a : List Int) (b : List Int) (i : Int) : Option ((Bool × Unit) × (Unit)) :=
  bif decide (i < (len a)) then
    chk (inb i a.length) <|
    chk (inb i b.length) <|
    bif ((rdx (0 : Int) a i) != (rdx (0 : Int) b i)) then
      some ((false, ()), ())
    else
      again0 (a, b, w64 (i + 1), ())
  else
    some ((true, ()), ())
def B_l_equalInts_L0 (k : Nat) (n : Nat) (t : List Int × List Int × Int × Unit) : Option ((Bool × Unit) × (Unit)) :=
  lfix n (fun again t => B_l_equalInts_L0b k again t.1 t.2.1 t.2.2.1) t
theorem B_l_equalInts_L0_succ (k : Nat) (n : Nat) (a : List Int) (b : List Int) (i : Int) : B_l_equalInts_L0 k (n + 1) (a, b, i, ()) = B_l_equalInts_L0b k (B_l_equalInts_L0 k n) a b i := rfl
def B_l_equalInts (k : Nat) (a : List Int) (b : List Int) : Option ((Bool × Unit) × (Unit)) :=
  bif ((len a) != (len b)) then
    some ((false, ()), ())
  else
    B_l_equalInts_L0 k k (a, b, 0, ())
def F_l_equalInts : Nat → List Int → List Int → Option ((Bool × Unit) × (Unit))
  | 0, _, _ => none
  | k + 1, a, b => B_l_equalInts k a b
theorem F_l_equalInts_succ (k : Nat) (a : List Int) (b : List Int) : F_l_equalInts (k + 1) a b = B_l_equalInts k a b := rfl
theorem tot_l_equalInts {a : List Int} {b : List Int} {Q : (((Bool × Unit) × (Unit))) → Prop} (h : Tot (fun σ => B_l_equalInts (σ 0) a b) Q) : Tot (fun σ => F_l_equalInts (σ 0) a b) Q :=
  Tot.call (F := fun k => F_l_equalInts k a b) (B := fun k => B_l_equalInts k a b) (fun k => F_l_equalInts_succ k a b) h
theorem loop_l_equalInts_L0 {Q : List Int → List Int → Int → ((Bool × Unit) × (Unit)) → Prop} (I : List Int → List Int → Int → Prop) (μ : List Int → List Int → Int → Nat)
    (step : ∀ (a : List Int) (b : List Int) (i : Int), I a b i → ∀ again : (Nat → Nat) → (List Int × List Int × Int × Unit) → Option ((Bool × Unit) × (Unit)), Dep 2 again → (∀ (y0 : List Int) (y1 : List Int) (y2 : Int), I y0 y1 y2 → μ y0 y1 y2 < μ a b i → Tot (fun σ => again σ (y0, y1, y2, ())) (Q y0 y1 y2)) →
      Tot (fun σ => B_l_equalInts_L0b (σ 0) (again σ) a b i) (Q a b i)) :
    ∀ (a : List Int) (b : List Int) (i : Int), I a b i → Tot (fun σ => B_l_equalInts_L0 (σ 0) (σ 0) (a, b, i, ())) (Q a b i) := fun a b i hI =>
  Tot.loop (L := fun σ n t => B_l_equalInts_L0 (σ 0) n t) (B := fun σ g t => B_l_equalInts_L0b (σ 0) g t.1 t.2.1 t.2.2.1) (Q := fun t => Q t.1 t.2.1 t.2.2.1) 1 (by decide)
    (fun s s' h => by have e0 : s 0 = s' 0 := h 0 (by decide); simp only [e0]) (fun s s' h => by have e0 : s 0 = s' 0 := h 0 (by decide); simp only [e0]) (fun _ _ _ => rfl) (fun t => I t.1 t.2.1 t.2.2.1) (fun t => μ t.1 t.2.1 t.2.2.1)
    (fun t ht again hag h => step t.1 t.2.1 t.2.2.1 ht again hag (fun y0 y1 y2 hI hm => h (y0, y1, y2, ()) hI hm)) (a, b, i, ()) hI
def B_l_FnDecodeTorn_J1 (k : Nat) (c_s_DrawDecodeTorn : List Int → Option ((List Int × Unit) × (Unit))) (c_i_DecodeTorn : List Int → Option (((List (Int × Int)) × Int × Unit) × (Unit))) (c_s_DecodeTorn : List Int → Option (((List (Int × Int)) × Int × Unit) × (Unit))) (c_l_equalOps : (List (Int × Int)) → (List (Int × Int)) → Option ((Bool × Unit) × (Unit))) (c_l_begins : (List (Int × Int)) → (List (Int × Int)) → Option ((Bool × Unit) × (Unit))) (c_i_DecodeOps : List Int → Option (((List (Int × Int)) × Bool × Unit) × (Unit))) (c_i_EncodeOps : (List (Int × Int)) → Option ((List Int × Unit) × (Unit))) (c_l_equalInts : List Int → List Int → Option ((Bool × Unit) × (Unit))) (again2 : (List Int × (List (Int × Int)) × Int × Int × Unit) → Option ((Bool × Unit) × (Unit))) (list : List Int) (ops : List (Int × Int)) (n5 : Int) (k8 : Int) (t79 : Bool) : Option ((Bool × Unit) × (Unit)) :=
  bif t79 then
    some ((false, ()), ())
  else
    again2 (list, ops, n5, w64 ((w64 (k8 + 1)) + (w64 ((len list).tdiv 20))), ())
def B_l_FnDecodeTorn_L2b (k : Nat) (c_s_DrawDecodeTorn : List Int → Option ((List Int × Unit) × (Unit))) (c_i_DecodeTorn : List Int → Option (((List (Int × Int)) × Int × Unit) × (Unit))) (c_s_DecodeTorn : List Int → Option (((List (Int × Int)) × Int × Unit) × (Unit))) (c_l_equalOps : (List (Int × Int)) → (List (Int × Int)) → Option ((Bool × Unit) × (Unit))) (c_l_begins : (List (Int × Int)) → (List (Int × Int)) → Option ((Bool × Unit) × (Unit))) (c_i_DecodeOps : List Int → Option (((List (Int × Int)) × Bool × Unit) × (Unit))) (c_i_EncodeOps : (List (Int × Int)) → Option ((List Int × Unit) × (Unit))) (c_l_equalInts : List Int → List Int → Option ((Bool × Unit) × (Unit))) (again2 : (List Int × (List (Int × Int)) × Int × Int × Unit) → Option ((Bool × Unit) × (Unit))) (list : List Int) (ops : List (Int × Int)) (n5 : Int) (k8 : Int) : Option ((Bool × Unit) × (Unit)) :=
  bif decide (k8 ≤ (len list)) then
    chk (cutb 0 k8 list.length) <|
    (c_i_DecodeTorn ((list.take k8.toNat).drop 0)).bind fun r63 =>
    (c_l_begins ops r63.1.1).bind fun r68 =>
    bif (!r68.1.1) then
      jn (fun t => B_l_FnDecodeTorn_J1 k c_s_DrawDecodeTorn c_i_DecodeTorn c_s_DecodeTorn c_l_equalOps c_l_begins c_i_DecodeOps c_i_EncodeOps c_l_equalInts again2 t.1 t.2.1 t.2.2.1 t.2.2.2.1 t.2.2.2.2.1) (list, ops, n5, k8, true, ())
    else
      bif decide (r63.1.2.1 > k8) then
        jn (fun t => B_l_FnDecodeTorn_J1 k c_s_DrawDecodeTorn c_i_DecodeTorn c_s_DecodeTorn c_l_equalOps c_l_begins c_i_DecodeOps c_i_EncodeOps c_l_equalInts again2 t.1 t.2.1 t.2.2.1 t.2.2.2.1 t.2.2.2.2.1) (list, ops, n5, k8, true, ())
      else
        jn (fun t => B_l_FnDecodeTorn_J1 k c_s_DrawDecodeTorn c_i_DecodeTorn c_s_DecodeTorn c_l_equalOps c_l_begins c_i_DecodeOps c_i_EncodeOps c_l_equalInts again2 t.1 t.2.1 t.2.2.1 t.2.2.2.1 t.2.2.2.2.1) (list, ops, n5, k8, decide (r63.1.2.1 > n5), ())
  else
    (c_i_DecodeOps list).bind fun r82 =>
    (c_i_EncodeOps ops).bind fun r86 =>
    chk (cutb 0 n5 list.length) <|
    (c_l_equalInts r86.1.1 ((list.take n5.toNat).drop 0)).bind fun r90 =>
    bif r90.1.1 then
      some (((r82.1.2.1 == (n5 == (len list))), ()), ())
    else
      some ((false, ()), ())
def B_l_FnDecodeTorn_L2 (k : Nat) (c_s_DrawDecodeTorn : List Int → Option ((List Int × Unit) × (Unit))) (c_i_DecodeTorn : List Int → Option (((List (Int × Int)) × Int × Unit) × (Unit))) (c_s_DecodeTorn : List Int → Option (((List (Int × Int)) × Int × Unit) × (Unit))) (c_l_equalOps : (List (Int × Int)) → (List (Int × Int)) → Option ((Bool × Unit) × (Unit))) (c_l_begins : (List (Int × Int)) → (List (Int × Int)) → Option ((Bool × Unit) × (Unit))) (c_i_DecodeOps : List Int → Option (((List (Int × Int)) × Bool × Unit) × (Unit))) (c_i_EncodeOps : (List (Int × Int)) → Option ((List Int × Unit) × (Unit))) (c_l_equalInts : List Int → List Int → Option ((Bool × Unit) × (Unit))) (n : Nat) (t : List Int × (List (Int × Int)) × Int × Int × Unit) : Option ((Bool × Unit) × (Unit)) :=
  lfix n (fun again t => B_l_FnDecodeTorn_L2b k c_s_DrawDecodeTorn c_i_DecodeTorn c_s_DecodeTorn c_l_equalOps c_l_begins c_i_DecodeOps c_i_EncodeOps c_l_equalInts again t.1 t.2.1 t.2.2.1 t.2.2.2.1) t
theorem B_l_FnDecodeTorn_L2_succ (k : Nat) (c_s_DrawDecodeTorn : List Int → Option ((List Int × Unit) × (Unit))) (c_i_DecodeTorn : List Int → Option (((List (Int × Int)) × Int × Unit) × (Unit))) (c_s_DecodeTorn : List Int → Option (((List (Int × Int)) × Int × Unit) × (Unit))) (c_l_equalOps : (List (Int × Int)) → (List (Int × Int)) → Option ((Bool × Unit) × (Unit))) (c_l_begins : (List (Int × Int)) → (List (Int × Int)) → Option ((Bool × Unit) × (Unit))) (c_i_DecodeOps : List Int → Option (((List (Int × Int)) × Bool × Unit) × (Unit))) (c_i_EncodeOps : (List (Int × Int)) → Option ((List Int × Unit) × (Unit))) (c_l_equalInts : List Int → List Int → Option ((Bool × Unit) × (Unit))) (n : Nat) (list : List Int) (ops : List (Int × Int)) (n5 : Int) (k8 : Int) : B_l_FnDecodeTorn_L2 k c_s_DrawDecodeTorn c_i_DecodeTorn c_s_DecodeTorn c_l_equalOps c_l_begins c_i_DecodeOps c_i_EncodeOps c_l_equalInts (n + 1) (list, ops, n5, k8, ()) = B_l_FnDecodeTorn_L2b k c_s_DrawDecodeTorn c_i_DecodeTorn c_s_DecodeTorn c_l_equalOps c_l_begins c_i_DecodeOps c_i_EncodeOps c_l_equalInts (B_l_FnDecodeTorn_L2 k c_s_DrawDecodeTorn c_i_DecodeTorn c_s_DecodeTorn c_l_equalOps c_l_begins c_i_DecodeOps c_i_EncodeOps c_l_equalInts n) list ops n5 k8 := rfl
def B_l_FnDecodeTorn_J0 (k : Nat) (c_s_DrawDecodeTorn : List Int → Option ((List Int × Unit) × (Unit))) (c_i_DecodeTorn : List Int → Option (((List (Int × Int)) × Int × Unit) × (Unit))) (c_s_DecodeTorn : List Int → Option (((List (Int × Int)) × Int × Unit) × (Unit))) (c_l_equalOps : (List (Int × Int)) → (List (Int × Int)) → Option ((Bool × Unit) × (Unit))) (c_l_begins : (List (Int × Int)) → (List (Int × Int)) → Option ((Bool × Unit) × (Unit))) (c_i_DecodeOps : List Int → Option (((List (Int × Int)) × Bool × Unit) × (Unit))) (c_i_EncodeOps : (List (Int × Int)) → Option ((List Int × Unit) × (Unit))) (c_l_equalInts : List Int → List Int → Option ((Bool × Unit) × (Unit))) (list : List Int) (ops : List (Int × Int)) (n5 : Int) (x : List (Int × Int)) (y : Int) (t40 : Bool) : Option ((Bool × Unit) × (Unit)) :=
  bif t40 then
    (c_l_equalOps ops x).bind fun r43 =>
    bif r43.1.1 then
      some (((n5 == y), ()), ())
    else
      some ((false, ()), ())
  else
    B_l_FnDecodeTorn_L2 k c_s_DrawDecodeTorn c_i_DecodeTorn c_s_DecodeTorn c_l_equalOps c_l_begins c_i_DecodeOps c_i_EncodeOps c_l_equalInts k (list, ops, n5, 0, ())
def B_l_FnDecodeTorn (k : Nat) (c_s_DrawDecodeTorn : List Int → Option ((List Int × Unit) × (Unit))) (c_i_DecodeTorn : List Int → Option (((List (Int × Int)) × Int × Unit) × (Unit))) (c_s_DecodeTorn : List Int → Option (((List (Int × Int)) × Int × Unit) × (Unit))) (c_l_equalOps : (List (Int × Int)) → (List (Int × Int)) → Option ((Bool × Unit) × (Unit))) (c_l_begins : (List (Int × Int)) → (List (Int × Int)) → Option ((Bool × Unit) × (Unit))) (c_i_DecodeOps : List Int → Option (((List (Int × Int)) × Bool × Unit) × (Unit))) (c_i_EncodeOps : (List (Int × Int)) → Option ((List Int × Unit) × (Unit))) (c_l_equalInts : List Int → List Int → Option ((Bool × Unit) × (Unit))) (code : List Int) : Option ((Bool × Unit) × (Unit)) :=
  bif decide ((len code) > 1048576) then
    some ((true, ()), ())
  else
    (c_s_DrawDecodeTorn code).bind fun r17 =>
    (c_i_DecodeTorn r17.1.1).bind fun r20 =>
    (c_s_DecodeTorn r17.1.1).bind fun r25 =>
    (c_l_equalOps r20.1.1 r25.1.1).bind fun r30 =>
    bif (!r30.1.1) then
      jn (fun t => B_l_FnDecodeTorn_J0 k c_s_DrawDecodeTorn c_i_DecodeTorn c_s_DecodeTorn c_l_equalOps c_l_begins c_i_DecodeOps c_i_EncodeOps c_l_equalInts t.1 t.2.1 t.2.2.1 t.2.2.2.1 t.2.2.2.2.1 t.2.2.2.2.2.1) (r17.1.1, r20.1.1, r20.1.2.1, r25.1.1, r25.1.2.1, true, ())
    else
      bif (r20.1.2.1 != r25.1.2.1) then
        jn (fun t => B_l_FnDecodeTorn_J0 k c_s_DrawDecodeTorn c_i_DecodeTorn c_s_DecodeTorn c_l_equalOps c_l_begins c_i_DecodeOps c_i_EncodeOps c_l_equalInts t.1 t.2.1 t.2.2.1 t.2.2.2.1 t.2.2.2.2.1 t.2.2.2.2.2.1) (r17.1.1, r20.1.1, r20.1.2.1, r25.1.1, r25.1.2.1, true, ())
      else
        jn (fun t => B_l_FnDecodeTorn_J0 k c_s_DrawDecodeTorn c_i_DecodeTorn c_s_DecodeTorn c_l_equalOps c_l_begins c_i_DecodeOps c_i_EncodeOps c_l_equalInts t.1 t.2.1 t.2.2.1 t.2.2.2.1 t.2.2.2.2.1 t.2.2.2.2.2.1) (r17.1.1, r20.1.1, r20.1.2.1, r25.1.1, r25.1.2.1, decide (r20.1.2.1 < 0), ())
def F_l_FnDecodeTorn : Nat → List Int → Option ((Bool × Unit) × (Unit))
  | 0, _ => none
  | k + 1, code => B_l_FnDecodeTorn k (F_s_DrawDecodeTorn k) (F_i_DecodeTorn k) (F_s_DecodeTorn k) (F_l_equalOps k) (F_l_begins k) (F_i_DecodeOps k) (F_i_EncodeOps k) (F_l_equalInts k) code
theorem F_l_FnDecodeTorn_succ (k : Nat) (code : List Int) : F_l_FnDecodeTorn (k + 1) code = B_l_FnDecodeTorn k (F_s_DrawDecodeTorn k) (F_i_DecodeTorn k) (F_s_DecodeTorn k) (F_l_equalOps k) (F_l_begins k) (F_i_DecodeOps k) (F_i_EncodeOps k) (F_l_equalInts k) code := rfl
theorem tot_l_FnDecodeTorn {code : List Int} {Q : (((Bool × Unit) × (Unit))) → Prop} (h : Tot (fun σ => B_l_FnDecodeTorn (σ 0) (F_s_DrawDecodeTorn (σ 0)) (F_i_DecodeTorn (σ 0)) (F_s_DecodeTorn (σ 0)) (F_l_equalOps (σ 0)) (F_l_begins (σ 0)) (F_i_DecodeOps (σ 0)) (F_i_EncodeOps (σ 0)) (F_l_equalInts (σ 0)) code) Q) : Tot (fun σ => F_l_FnDecodeTorn (σ 0) code) Q :=
  Tot.call (F := fun k => F_l_FnDecodeTorn k code) (B := fun k => B_l_FnDecodeTorn k (F_s_DrawDecodeTorn k) (F_i_DecodeTorn k) (F_s_DecodeTorn k) (F_l_equalOps k) (F_l_begins k) (F_i_DecodeOps k) (F_i_EncodeOps k) (F_l_equalInts k) code) (fun k => F_l_FnDecodeTorn_succ k code) h
theorem loop_l_FnDecodeTorn_L2 {Q : List Int → (List (Int × Int)) → Int → Int → ((Bool × Unit) × (Unit)) → Prop} (I : List Int → (List (Int × Int)) → Int → Int → Prop) (μ : List Int → (List (Int × Int)) → Int → Int → Nat)
    (step : ∀ (list : List Int) (ops : List (Int × Int)) (n5 : Int) (k8 : Int), I list ops n5 k8 → ∀ again : (Nat → Nat) → (List Int × (List (Int × Int)) × Int × Int × Unit) → Option ((Bool × Unit) × (Unit)), Dep 2 again → (∀ (y0 : List Int) (y1 : List (Int × Int)) (y2 : Int) (y3 : Int), I y0 y1 y2 y3 → μ y0 y1 y2 y3 < μ list ops n5 k8 → Tot (fun σ => again σ (y0, y1, y2, y3, ())) (Q y0 y1 y2 y3)) →
      Tot (fun σ => B_l_FnDecodeTorn_L2b (σ 0) (F_s_DrawDecodeTorn (σ 0)) (F_i_DecodeTorn (σ 0)) (F_s_DecodeTorn (σ 0)) (F_l_equalOps (σ 0)) (F_l_begins (σ 0)) (F_i_DecodeOps (σ 0)) (F_i_EncodeOps (σ 0)) (F_l_equalInts (σ 0)) (again σ) list ops n5 k8) (Q list ops n5 k8)) :
    ∀ (list : List Int) (ops : List (Int × Int)) (n5 : Int) (k8 : Int), I list ops n5 k8 → Tot (fun σ => B_l_FnDecodeTorn_L2 (σ 0) (F_s_DrawDecodeTorn (σ 0)) (F_i_DecodeTorn (σ 0)) (F_s_DecodeTorn (σ 0)) (F_l_equalOps (σ 0)) (F_l_begins (σ 0)) (F_i_DecodeOps (σ 0)) (F_i_EncodeOps (σ 0)) (F_l_equalInts (σ 0)) (σ 0) (list, ops, n5, k8, ())) (Q list ops n5 k8) := fun list ops n5 k8 hI =>
  Tot.loop (L := fun σ n t => B_l_FnDecodeTorn_L2 (σ 0) (F_s_DrawDecodeTorn (σ 0)) (F_i_DecodeTorn (σ 0)) (F_s_DecodeTorn (σ 0)) (F_l_equalOps (σ 0)) (F_l_begins (σ 0)) (F_i_DecodeOps (σ 0)) (F_i_EncodeOps (σ 0)) (F_l_equalInts (σ 0)) n t) (B := fun σ g t => B_l_FnDecodeTorn_L2b (σ 0) (F_s_DrawDecodeTorn (σ 0)) (F_i_DecodeTorn (σ 0)) (F_s_DecodeTorn (σ 0)) (F_l_equalOps (σ 0)) (F_l_begins (σ 0)) (F_i_DecodeOps (σ 0)) (F_i_EncodeOps (σ 0)) (F_l_equalInts (σ 0)) g t.1 t.2.1 t.2.2.1 t.2.2.2.1) (Q := fun t => Q t.1 t.2.1 t.2.2.1 t.2.2.2.1) 1 (by decide)
    (fun s s' h => by have e0 : s 0 = s' 0 := h 0 (by decide); simp only [e0]) (fun s s' h => by have e0 : s 0 = s' 0 := h 0 (by decide); simp only [e0]) (fun _ _ _ => rfl) (fun t => I t.1 t.2.1 t.2.2.1 t.2.2.2.1) (fun t => μ t.1 t.2.1 t.2.2.1 t.2.2.2.1)
    (fun t ht again hag h => step t.1 t.2.1 t.2.2.1 t.2.2.2.1 ht again hag (fun y0 y1 y2 y3 hI hm => h (y0, y1, y2, y3, ()) hI hm)) (list, ops, n5, k8, ()) hI
end Go.Gx

/-
  Gx, part B: what each operation of the model does to an abstract state, and the run of a function's body.
-/
import Derived.Test.YtpcnmlpikiigaaaXA
set_option linter.unusedVariables false
namespace Go.Gx

/-! ### 1. Words of the data -/
def inb (z : Int) (n : Nat) : Bool := decide (0 ≤ z ∧ z < (n : Int))
def rdx {α : Type} (d : α) (xs : List α) (z : Int) : α := xs.getD z.toNat d
def btx (s : ByteArray) (z : Int) : Int := ((s[z.toNat]?).map fun b => (b.toNat : Int)).getD 0
/-- How long a row may grow. -/
def lim : Nat := 549755813888
def room (n m : Nat) : Bool := decide (n + m ≤ lim)
def sub {α : Type} (xs : List α) (l h : Int) : List α := (xs.take h.toNat).drop l.toNat
/-- 0 ≤ l ≤ h ≤ n. -/
def cutb (l h : Int) (n : Nat) : Bool := decide (0 ≤ l ∧ l ≤ h ∧ h ≤ (n : Int))
def newId (dst : Nat) : Nat := 1000000 + dst * 1024

/-! ### 2. Small steps -/
abbrev MU := M Unit
def ev {α : Type} (x : Operand) (K : SV → M α) : M α :=
  match x with
  | .tmp t => .getS t K
  | .const v => K (svOf v)
  | .func f => K (.fn f [])
  | .global _ => .fail
def evO {α : Type} : List Operand → (List SV → M α) → M α
  | [], K => K []
  | x :: xs, K => ev x fun v => evO xs fun vs => K (v :: vs)
def evOp {α : Type} (x : Option Operand) (K : Option SV → M α) : M α :=
  match x with
  | none => K none
  | some y => ev y fun v => K (some v)
def hasN (l : List Nat) (n : Nat) : Bool := l.any (Nat.beq n)
/-- A frame: how many slots, and those that are never written (pointers that came in). -/
structure Fr where
  nt : Nat
  pin : List Nat
def put (nt : Fr) (dst : Option Nat) (v : SV) : MU :=
  match dst with
  | none => .ret ()
  | some d => .test (Nat.blt d nt.nt && !hasN nt.pin d) (.setS d v (.ret ()))
/-- May lie in a cell. -/
def SV.cell : SV → Bool
  | .int _ _ | .bool _ | .str _ | .nil | .ro _ _ | .roo _ _ | .own _ | .view _ _ _ | .box _ _ => true
  | .fn _ [] => true
  | _ => false
def SV.cellsOf : SV → List SV
  | .agg vs => vs
  | v => [v]
/-- Owned rows among the cells are read-only from here on. -/
def frz {α : Type} : List SV → (List SV → M α) → M α
  | [], K => K []
  | .own n :: vs, K => .getO n fun
    | .row _ t xs => .setO n .dead (frz vs fun us => K (.ro t xs :: us))
    | _ => .fail
  | .view n lo hi :: vs, K => .getO n fun
    | .row _ t xs => .setO n .dead (frz vs fun us => K (.ro t ((xs.take hi).drop lo) :: us))
    | _ => .fail
  | v :: vs, K => frz vs fun us => K (v :: us)
def fromL {α : Type} : (t : Ty) → List SV → (t.I → List SV → M α) → M α
  | .int k, .int k' z :: r, K => .test (decide (k' = k)) (K z r)
  | .bool, .bool b :: r, K => K b r
  | .str, .str s :: r, K => K s r
  | .sl t, .nil :: r, K => K [] r
  | .sl t, .ro t' xs :: r, K => castL t xs fun ys => K ys r
  | .sl t, .roo t' x :: r, K => castL t (x.getD []) fun ys => K ys r
  | .slo t, .nil :: r, K => K none r
  | .slo t, .ro t' xs :: r, K => castL t xs fun ys => K (some ys) r
  | .slo t, .roo t' x :: r, K => if h : t' = t then K (h ▸ x) r else .fail
  | .pair a b, vs, K => fromL a vs fun x r => fromL b r fun y r' => K (x, y) r'
  | _, _, _ => .fail
def elemOf {α : Type} (t : Ty) (v : SV) (K : t.I → M α) : M α :=
  .test (v.cellsOf.all SV.cell) <| frz v.cellsOf fun cs => fromL t cs fun x r => match r with | [] => K x | _ => .fail
def elems {α : Type} (t : Ty) : List SV → (List t.I → M α) → M α
  | [], K => K []
  | v :: vs, K => elemOf t v fun x => elems t vs fun xs => K (x :: xs)

/-- 'eb': the operands are bools; 'es': structs of two ints, which may be compared. -/
def binM (eb es : Bool) (op : BinOp) (a b : SV) (K : SV → MU) : MU :=
  match a, b with
  | .int k x, .int k' y => .test (decide (k = k')) <| match op with
    | .add => K (.int k (k.wrap (x + y)))
    | .sub => K (.int k (k.wrap (x - y)))
    | .mul => K (.int k (k.wrap (x * y)))
    | .quo => .test (y != 0) (K (.int k (k.wrap (x.tdiv y))))
    | .rem => .test (y != 0) (K (.int k (x.tmod y)))
    | .xor => K (.int k (k.wrap ((BitVec.ofInt k.bits x ^^^ BitVec.ofInt k.bits y).toNat : Int)))
    | .eql => K (.bool (x == y))
    | .neq => K (.bool (x != y))
    | .lss => K (.bool (decide (x < y)))
    | .leq => K (.bool (decide (x ≤ y)))
    | .gtr => K (.bool (decide (x > y)))
    | .geq => K (.bool (decide (x ≥ y)))
    | _ => .fail
  | .str x, .str y => match op with
    | .add => .test (room x.size y.size) (K (.str (x ++ y)))
    | .eql => K (.bool (x.toList == y.toList))
    | .neq => K (.bool (!(x.toList == y.toList)))
    | _ => .fail
  | .bool x, .bool y => .test eb <| match op with
    | .eql => K (.bool (x == y))
    | .neq => K (.bool (!(x == y)))
    | _ => .fail
  | .agg [.int .i64 x, .int .i64 x'], .agg [.int .i64 y, .int .i64 y'] => .test es <| match op with
    | .eql => K (.bool (x == y && (x' == y')))
    | .neq => K (.bool (!(x == y && (x' == y'))))
    | _ => .fail
  | _, _ => .fail
def unM (op : UnOp) (a : SV) (K : SV → MU) : MU :=
  match op, a with
  | .not, .bool b => K (.bool (!b))
  | .neg, .int k z => K (.int k (k.wrap (0 - z)))
  | _, _ => .fail

def addrM {α : Type} (a : SV) (K : List SV → M α) : M α :=
  match a with
  | .box n off => .getO n fun
    | .box _ vs => K (vs.drop off)
    | _ => .fail
  | .el n i off => .getO n fun
    | .row _ t xs => .test (decide (i < xs.length)) (K ((leaves t (xs.getD i t.dflt)).drop off))
    | _ => .fail
  | .rp vs => K vs
  | _ => .fail
def loadM {α : Type} (i : TI) (a : SV) (K : SV → M α) : M α := addrM a fun ls =>
  .test (Nat.ble i.size ls.length) <| bif i.agg then K (.agg (ls.take i.size)) else match ls with
    | v :: _ => K v
    | [] => .fail
def splice (vs cs : List SV) (off : Nat) : List SV := vs.take off ++ cs ++ vs.drop (off + cs.length)
def storeM (i : TI) (a v : SV) : MU :=
  let cs := v.cellsOf
  .test (Nat.beq cs.length i.size) <| match a with
  | .box n off => .getO n fun
    | .box e vs => .test (cs.all SV.cell && Nat.ble (off + cs.length) vs.length) (.setO n (.box e (splice vs cs off)) (.ret ()))
    | _ => .fail
  | .el n j off => .test (cs.all SV.cell) <| frz cs fun us => .getO n fun
    | .row e t xs => .test (decide (j < xs.length)) <| .test (Nat.ble (off + us.length) t.sz) <|
        fromL t (splice (leaves t (xs.getD j t.dflt)) us off) fun x r => match r with
          | [] => .setO n (.row e t (xs.set j x)) (.ret ())
          | _ => .fail
    | _ => .fail
  | _ => .fail
def fieldAddrM (i : TI) (a : SV) (f : Nat) (K : SV → MU) : MU :=
  match i.fields[f]? with
  | some (o, z, _) => .test (Nat.blt 0 z) <| match a with
    | .box n off => K (.box n (off + o))
    | .el n j off => K (.el n j (off + o))
    | .rp vs => K (.rp (vs.drop o))
    | _ => .fail
  | none => .fail
def fieldM (i : TI) (a : SV) (f : Nat) (K : SV → MU) : MU :=
  match i.fields[f]?, a with
  | some (o, _, false), .agg vs => match vs[o]? with
    | some v => K v
    | none => .fail
  | _, _ => .fail
def indexAddrM (esz : Nat) (a i : SV) (K : SV → MU) : MU :=
  match a, i with
  | .ro t xs, .int _ z => .test (Nat.beq t.sz esz && inb z xs.length) (K (.rp (leaves t (rdx t.dflt xs z))))
  | .own n, .int _ z => .getO n fun
    | .row _ t xs => .test (Nat.beq t.sz esz && inb z xs.length) (K (.el n z.toNat 0))
    | _ => .fail
  | .view n lo hi, .int _ z => .getO n fun
    | .row _ t xs => .test (Nat.beq t.sz esz && inb z (hi - lo) && decide (hi ≤ xs.length)) (K (.el n (lo + z.toNat) 0))
    | _ => .fail
  | _, _ => .fail
def indexM (a i : SV) (K : SV → MU) : MU :=
  match a, i with
  | .str s, .int _ z => .test (inb z s.size) (K (.int .u8 (btx s z)))
  | _, _ => .fail
def lenM (a : SV) (K : Int → MU) : MU :=
  match a with
  | .ro _ xs => K xs.length
  | .own n => .getO n fun
    | .row _ _ xs => K xs.length
    | _ => .fail
  | .view n lo hi => K ((hi - lo : Nat) : Int)
  | .nil => K 0
  | .str s => K s.size
  | _ => .fail
def bound (d : Int) (x : Option SV) (K : Int → MU) : MU :=
  match x with
  | none => K d
  | some (.int _ z) => K z
  | _ => .fail
def sliceM (esz : Nat) (a : SV) (lo hi mx : Option SV) (K : SV → MU) : MU :=
  match a with
  | .ro t xs => bound 0 lo fun l => bound xs.length hi fun h => bound h mx fun m =>
      .test (Nat.beq t.sz esz && (mx.isNone || (m == h)) && cutb l h xs.length) (K (.ro t (sub xs l h)))
  | .own n => .getO n fun
    | .row _ t xs => bound 0 lo fun l => bound xs.length hi fun h =>
        .test (Nat.beq t.sz esz && cutb l h xs.length) <| match mx with
          | none => K (.view n l.toNat h.toNat)
          | some (.int _ m) => .test (m == h) (.setO n .dead (K (.ro t (sub xs l h))))
          | _ => .fail
    | _ => .fail
  | .view n l0 h0 => .getO n fun
    | .row _ t xs => bound 0 lo fun l => bound ((h0 - l0 : Nat) : Int) hi fun h =>
        .test (Nat.beq t.sz esz && mx.isNone && cutb l h (h0 - l0) && decide (h0 ≤ xs.length)) (K (.view n (l0 + l.toNat) (l0 + h.toNat)))
    | _ => .fail
  | .nil => bound 0 lo fun l => bound 0 hi fun h => .test (mx.isNone && cutb l h 0) (K .nil)
  | _ => .fail
def sliceS (s : ByteArray) (lo hi : Option SV) (K : SV → MU) : MU :=
  bound 0 lo fun l => bound s.size hi fun h => .test (cutb l h s.size) (K (.str (s.extract l.toNat h.toNat)))

/-- What is appended. -/
def srcM (n : Nat) (x : SV) (t : Ty) (K : List t.I → MU) : MU :=
  match x with
  | .nil => K []
  | .ro t' ys => castL t ys K
  | .own m => .test (!Nat.beq m n) <| .getO m fun
    | .row _ t' ys => castL t ys K
    | _ => .fail
  | .view m lo hi => .test (!Nat.beq m n) <| .getO m fun
    | .row _ t' ys => .test (decide (lo ≤ hi ∧ hi ≤ ys.length)) (castL t ys fun zs => K ((zs.take hi).drop lo))
    | _ => .fail
  | _ => .fail
def appendM (e : TypeId) (esz : Nat) (ty : Option Ty) (s x : SV) (id : Nat) (K : SV → MU) : MU :=
  let fin (t : Ty) (xs ys : List t.I) : MU := .test (Nat.beq t.sz esz && room xs.length ys.length) (newO id (.row e t (xs ++ ys)) (K (.own id)))
  match s with
  | .nil => match ty with
    | some t => srcM id x t fun ys => fin t [] ys
    | none => .fail
  | .own n => .getO n fun
    | .row e' t xs => .test (Nat.beq e' e) (srcM n x t fun ys => .setO n .dead (fin t xs ys))
    | _ => .fail
  | .view n 0 h => .getO n fun
    | .row e' t xs => .test (Nat.beq e' e && decide (h ≤ xs.length)) (srcM n x t fun ys => .setO n .dead (fin t (xs.take h) ys))
    | _ => .fail
  | _ => .fail

def fillM : List SV → List (Nat × Nat × Bool) → List (Nat × SV) → (List SV → MU) → MU
  | vs, _, [], K => K vs
  | vs, fs, (i, v) :: r, K => match fs[i]? with
    | some (o, z, _) => .test (Nat.beq v.cellsOf.length z && Nat.ble (o + z) vs.length && v.cellsOf.all SV.cell) (fillM (splice vs v.cellsOf o) fs r K)
    | none => .fail
def zeroOf (i : TI) : List SV := (svOf i.zero).cellsOf
/-- The zero of a type's data lies in its zero value. -/
def zmatch : Ty → List Value → Option (List Value)
  | .int k, .int k' 0 :: r => if k' = k then some r else none
  | .bool, .bool false :: r => some r
  | .sl _, .slice none 0 0 :: r => some r
  | .slo _, .slice none 0 0 :: r => some r
  | .pair a b, vs => (zmatch a vs).bind (zmatch b)
  | _, _ => none
def retSV : List SV → SV
  | [v] => v
  | vs => .tup vs

/-- The boxes that were lent come back. -/
def backs : (ss : List VS) → VsI ss → List Nat → Nat → MU → MU
  | [], _, _, _, K => K
  | .box e ls :: ss, x, n :: ns, id, K => buildLs ls x.1 id fun vs => .getO n fun
    | .dead => .setO n (.box e vs) (backs ss x.2 ns (id + 64) K)
    | _ => .fail
  | _ :: _, _, _, _, _ => .fail
def boxIds : List VS → List SV → List Nat
  | .box _ _ :: ss, .box n _ :: vs => n :: boxIds ss vs
  | _ :: ss, _ :: vs => boxIds ss vs
  | _, _ => []
/-- Where a box is wanted, a box's begin is given. -/
def boxOk : List VS → List SV → Bool
  | .box _ _ :: ss, .box _ 0 :: vs => boxOk ss vs
  | .box _ _ :: _, _ :: _ => false
  | _ :: ss, _ :: vs => boxOk ss vs
  | _, _ => true
def callM (sg : Sig) (f : sg.A → Option sg.R) (args : List SV) (id : Nat) (K : SV → MU) : MU :=
  .test (boxOk sg.ps args) <| takeVs sg.lends sg.ps args fun x => .opt (f x) fun r =>
    backs (boxes sg.ps) r.2 (boxIds sg.ps args) (id + 512) (buildVs sg.rs r.1 id fun svs => K (retSV svs))

/-! ### 3. An operation -/
def opM (E : Env) (nt : Fr) (o : Oper) : MU :=
  let P : SV → MU := put nt o.dst
  let id := newId (o.dst.getD 0)
  match o.op with
  | .move x => ev x P
  | .assign x => ev x P
  | .pick c a b => ev c fun
    | .bool t => bif t then ev a P else ev b P
    | _ => .fail
  | .alloc t => match E.tt t with
    | some i => .test i.hasZ (newO id (.box t (zeroOf i)) (P (.box id 0)))
    | none => .fail
  | .box t x => ev x fun v => .test (v.cellsOf.all SV.cell) (newO id (.box t v.cellsOf) (P (.box id 0)))
  | .build t parts => match E.tt t with
    | some i => .test (i.hasZ && !i.fields.isEmpty && i.fields.all fun f => Nat.blt 0 f.2.1) <| evO (parts.toList.map (·.2)) fun vs => fillM (zeroOf i) i.fields ((parts.toList.map (·.1)).zip vs) fun cs => P (.agg cs)
    | none => .fail
  | .buildSlice t n parts => match (E.tt t).bind (·.elem) with
    | some e => match E.tt e, E.ty e with
      | some i, some ty => .test (i.hasZ && Nat.beq ty.sz i.size && ((parts.toList.map (·.1)) == List.range n) && Nat.ble (n * i.size) 16777216)
          (evO (parts.toList.map (·.2)) fun vs => elems ty vs fun xs => newO id (.row e ty xs) (P (.own id)))
      | _, _ => .fail
    | none => .fail
  | .load t a => match E.tt t with
    | some i => ev a fun p => loadM i p P
    | none => .fail
  | .store t a x => match E.tt t with
    | some i => .test o.dst.isNone (ev a fun p => ev x fun v => storeM i p v)
    | none => .fail
  | .nilCheck x => ev x fun v => match v with
    | .box _ _ => P v
    | .el _ _ _ => P v
    | .rp _ => P v
    | .fn _ _ => P v
    | _ => .fail
  | .binOp op t x y _ => ev x fun a => ev y fun b => binM (match E.tt t with | some i => i.isB | none => false) (E.eqt t) op a b P
  | .unOp op _ x => ev x fun a => unM op a P
  | .convert s t x => match E.tt s, (E.tt t).bind (·.ik) with
    | some _, some k => ev x fun v => match v with
      | .int _ z => P (.int k (k.wrap z))
      | _ => .fail
    | _, _ => .fail
  | .makeSlice t l c => match (E.tt t).bind (·.elem) with
    | some e => match E.tt e, E.ty e with
      | some i, some ty => .test (i.hasZ && Nat.beq ty.sz i.size && Nat.ble i.bytes 64 && ((zmatch ty i.zero.cells.toList).map (·.length) == some 0)) <|
          ev l fun a => ev c fun b => match a, b with
            | .int .i64 z, .int .i64 y => .test (decide (0 ≤ z ∧ z ≤ (lim : Int)) && (y == z)) (newO id (.row e ty (List.replicate z.toNat ty.dflt)) (P (.own id)))
            | _, _ => .fail
      | _, _ => .fail
    | none => .fail
  | .slice t x lo hi mx => match E.tt t with
    | some i => ev x fun a => evOp lo fun l => evOp hi fun h => evOp mx fun m => match a with
        | .str s => .test (i.isStr && mx.isNone) (sliceS s l h P)
        | _ => match i.elem with
          | some e => match E.tt e with
            | some j => .test (!mx.isSome || hi.isSome) (sliceM j.size a l h m P)
            | none => .fail
          | none => .fail
    | none => .fail
  | .fieldAddr t x f => match E.tt t with
    | some i => ev x fun a => fieldAddrM i a f P
    | none => .fail
  | .field t x f => match E.tt t with
    | some i => ev x fun a => fieldM i a f P
    | none => .fail
  | .indexAddr t x y => match ((E.tt t).bind (·.elem)).bind E.tt with
    | some j => ev x fun a => ev y fun b => indexAddrM j.size a b P
    | none => .fail
  | .index t x y => match E.tt t with
    | some i => .test i.isStr (ev x fun a => ev y fun b => indexM a b P)
    | none => .fail
  | .extract x j => ev x fun
    | .tup vs => match vs[j]? with
      | some v => P v
      | none => .fail
    | _ => .fail
  | .call { callee := .value x, args := as, argTypes := _ } => ev x fun v => match v with
    | .fn f [] => match E.sig f with
      | some sg => evO as.toList fun vs => callM sg (E.cl f sg) vs id P
      | none => .fail
    | _ => .fail
  | .call { callee := .builtin .len, args := as, argTypes := ts } => match (ts[0]?).bind E.tt, as.toList with
    | some i, [x] => ev x fun v => .test (match v with | .str _ => i.isStr | _ => i.elem.isSome) (lenM v fun n => P (.int .i64 n))
    | _, _ => .fail
  | .call { callee := .builtin .append, args := as, argTypes := ts } => match ts.toList, as.toList with
    | [t, t'], [s, x] => match (E.tt t).bind (·.elem) with
      | some e => match E.tt e with
        | some i => .test (i.hasZ && Nat.beq t t' && Nat.ble i.bytes 64 && Nat.blt 0 i.size && Nat.beq i.zero.cells.size i.size) (ev s fun a => ev x fun b => appendM e i.size (E.ty e) a b id P)
        | none => .fail
      | none => .fail
    | _, _ => .fail
  | .call { callee := .builtin .min, args := as, argTypes := _ } => match as.toList with
    | [x, y] => ev x fun a => ev y fun b => match a, b with
      | .int k u, .int _ v => P (.int k (if v < u then v else u))
      | _, _ => .fail
    | _ => .fail
  | .call { callee := .builtin .max, args := as, argTypes := _ } => match as.toList with
    | [x, y] => ev x fun a => ev y fun b => match a, b with
      | .int k u, .int _ v => P (.int k (if v > u then v else u))
      | _, _ => .fail
    | _ => .fail
  | _ => .fail

def dstAt (all : Array Oper) (j : Nat) : Option Nat := (all[j]?).bind (·.dst)
/-- With its guard. -/
def opG (E : Env) (nt : Fr) (all : Array Oper) (o : Oper) : MU :=
  match o.guard with
  | none => opM E nt o
  | some (j, want) => match dstAt all j with
    | none => .fail
    | some d => .getS d fun
      | .bool b => bif b == want then opM E nt o else put nt o.dst .und
      | .und => put nt o.dst .und
      | _ => .fail

/-! ### 4. A region -/
/-- Is the operation's answer asked by a guard? Then the run parts behind it. -/
def asked (all : Array Oper) (i : Nat) : Bool := all.toList.any fun o => match o.guard with
  | some (j, _) => Nat.beq j i
  | none => false
def part {R : Type} (all : Array Oper) (i : Nat) (o : Oper) (σ : St) (K : St → Option R) : Option R :=
  bif asked all i then
    match o.dst with
    | some d => match σ.sl d with
      | .bool b => bif b then K (σ.setS d (.bool true)) else K (σ.setS d (.bool false))
      | .und => K σ
      | _ => none
    | none => none
  else K σ
def runOps {R : Type} (E : Env) (nt : Fr) (all : Array Oper) : List Oper → Nat → St → List Log → (St → List Log → Option R) → Option R
  | [], _, σ, tr, K => K σ tr
  | o :: r, i, σ, tr, K => (opG E nt all o).run σ ⟨[], []⟩ fun _ σ' l => part all i o σ' fun σ'' => runOps E nt all r (i + 1) σ'' (l :: tr) K

/-! Of a region that draws its order: unordered operations touch different things. -/
def preds (o : Oper) : List Nat := (o.after.toList.filter fun e => Region.binds .any e).map (·.on)
def mergeN : List Nat → List Nat → List Nat
  | [], l => l
  | n :: r, l => bif hasN l n then mergeN r l else mergeN r (n :: l)
/-- All that must come ahead of each operation. -/
def ancs : List Oper → List (List Nat) → List (List Nat)
  | [], acc => acc
  | o :: r, acc => ancs r (acc ++ [(preds o).foldl (fun s p => mergeN (p :: acc.getD p []) s) []])
def ancOk (ops : List Oper) (an : List (List Nat)) : Bool :=
  (List.range ops.length).all fun i => match ops[i]? with
    | none => false
    | some o => ((preds o).all fun p => Nat.blt p i) &&
        ((an.getD i []).all fun j => (preds o).any fun p => Nat.beq p j || hasN (an.getD p []) j)
def Key.beq (a b : Key) : Bool := (match a.1, b.1 with | true, true => true | false, false => true | _, _ => false) && Nat.beq a.2 b.2
def meet (a b : List Key) : Bool := a.any fun x => b.any fun y => Key.beq x y
def apart (a b : Log) : Bool := !(meet a.w b.w || meet a.w b.r || meet a.r b.w)
/-- 'tr': the logs, the last operation's first. -/
def drawOk (ops : List Oper) (tr : List Log) : Bool :=
  let an := ancs ops []
  let lg := tr.reverse
  ancOk ops an && Nat.beq lg.length ops.length &&
    (List.range ops.length).all fun i => (List.range i).all fun j => hasN (an.getD i []) j || apart (lg.getD j ⟨[], []⟩) (lg.getD i ⟨[], []⟩)

/-! ### 5. Code -/
inductive Ex where
  | normal
  | exit (id : Nat)
  | ret
inductive Ann where
  | leaf
  | seq (j : Option Live) (a b : Ann)
  | cond (a b : Ann)
  | block (a : Ann)
  | loop (L : Live) (a : Ann)
/-- Where ways meet. -/
def jn {T R : Type} (f : T → Option R) (t : T) : Option R := f t
def lfix {T R : Type} : Nat → ((T → Option R) → T → Option R) → T → Option R
  | 0, _, _ => none
  | k + 1, f, t => f (lfix k f) t
def exec {R : Type} (E : Env) (k : Nat) (nt : Fr) : Code → Ann → St → (Ex → St → Option R) → Option R
  | .skip, _, σ, K => K .normal σ
  | .region _ ops draw, _, σ, K => runOps E nt ops ops.toList 0 σ [] fun σ' tr => bif !draw || drawOk ops.toList tr then K .normal σ' else none
  | .seq x y, .seq j a b, σ, K => match j with
    | none => exec E k nt x a σ fun e σ' => match e with
      | .normal => exec E k nt y b σ' K
      | .exit i => K (.exit i) σ'
      | .ret => K .ret σ'
    | some L => exec E k nt x a σ fun e σ' => match e with
      | .normal => (L.take fun t => M.ret t).run σ' ⟨[], []⟩ fun t _ _ => jn (fun t => (L.build t).run St.empty ⟨[], []⟩ fun _ σ2 _ => exec E k nt y b σ2 K) t
      | .exit i => K (.exit i) σ'
      | .ret => K .ret σ'
  | .cond c x y, .cond a b, σ, K => (ev c fun v => M.ret v).run σ ⟨[], []⟩ fun v _ _ => match v with
    | .bool t => bif t then exec E k nt x a σ K else exec E k nt y b σ K
    | _ => none
  | .block id c, .block a, σ, K => exec E k nt c a σ fun e σ' => match e with
    | .exit i => bif Nat.beq i id then K .normal σ' else K (.exit i) σ'
    | .normal => K .normal σ'
    | .ret => K .ret σ'
  | .exit id, _, σ, K => K (.exit id) σ
  | .ret, _, σ, K => K .ret σ
  | .loop c, .loop L a, σ, K => (L.take fun t => M.ret t).run σ ⟨[], []⟩ fun t _ _ =>
      lfix k (fun again t => (L.build t).run St.empty ⟨[], []⟩ fun _ σ2 _ => exec E k nt c a σ2 fun e σ' => match e with
        | .normal => (L.take fun t => M.ret t).run σ' ⟨[], []⟩ fun t _ _ => again t
        | .exit i => K (.exit i) σ'
        | .ret => K .ret σ') t
  | _, _, _, _ => none

/-! ### 6. A function -/
/-- The slots or boxes of the results. -/
def resSV {α : Type} (tt : TypeId → Option TI) : List ResultVar → (List SV → M α) → M α
  | [], K => K []
  | .tmp s :: r, K => .getS s fun v => resSV tt r fun vs => K (v :: vs)
  | .cell s t :: r, K => match tt t with
    | some i => .getS s fun p => match p with
      | .box n o => loadM i (.box n o) fun v => resSV tt r fun vs => K (v :: vs)
      | _ => .fail
    | none => .fail
/-- The slots of the boxes that came in. -/
def boxSlots : List VS → Nat → List Nat
  | [], _ => []
  | s :: ss, n => bif s.isBox then n :: boxSlots ss (n + 1) else boxSlots ss (n + 1)
def outM (tt : TypeId → Option TI) (sg : Sig) (rs : List ResultVar) : M sg.R :=
  resSV tt rs fun vs => evs (boxSlots sg.ps 0) fun bs => takeVs false sg.rs vs fun x => takeVs false (boxes sg.ps) bs fun y => .ret (x, y)
structure FnI where
  fn : Func
  ann : Ann
  ty : TypeId → Option Ty
def inM (sg : Sig) (x : sg.A) : MU := buildVs sg.ps x 0 fun svs => puts (List.range sg.ps.length) svs (.ret ())
def runFn (E0 : Env) (k : Nat) (fi : FnI) (sg : Sig) (x : sg.A) : Option sg.R :=
  let E : Env := ⟨E0.tt, fi.ty, E0.eqt, E0.sig, E0.cl⟩
  match fi.fn.body with
  | none => none
  | some c => (inM sg x).run St.empty ⟨[], []⟩ fun _ σ0 _ => exec E k ⟨fi.fn.ntmps, boxSlots sg.ps 0⟩ c fi.ann σ0 fun e σ => match e with
    | .exit _ => none
    | .normal => (outM E.tt sg fi.fn.results.toList).run σ ⟨[], []⟩ fun r _ _ => some r
    | .ret => (outM E.tt sg fi.fn.results.toList).run σ ⟨[], []⟩ fun r _ _ => some r
/-- The table of a program: what is run, and what is proved by hand. -/
structure Tab where
  tt : TypeId → Option TI
  eqt : TypeId → Bool
  sig : FuncId → Option Sig
  fns : FuncId → Option FnI
  ext : Nat → (f : FuncId) → (s : Sig) → Option (s.A → Option s.R)
def Tab.call (T : Tab) : Nat → (f : FuncId) → (s : Sig) → s.A → Option s.R
  | 0, _, _, _ => none
  | k + 1, f, s, x => match T.ext k f s with
    | some g => g x
    | none => match T.fns f with
      | some fi => runFn ⟨T.tt, fun _ => none, T.eqt, T.sig, fun f s => T.call k f s⟩ k fi s x
      | none => none

end Go.Gx

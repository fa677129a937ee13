/-
  Gx: an interpreter of our own, and that it is sound for the model.
-/
import Derived.Orders
import Derived.Laws.OwnMore
import Derived.KernelRfl
set_option linter.unusedVariables false
namespace Go.Gx

inductive Ty where
  | int (k : IntKind)
  | bool
  | str
  | sl (t : Ty)
  | slo (t : Ty)
  | os (e : TypeId) (t : Ty)
  | oso (e : TypeId) (t : Ty)
  | pair (a b : Ty)
  deriving DecidableEq

@[reducible] def Ty.I : Ty → Type
  | .int _ => Int
  | .bool => Bool
  | .str => ByteArray
  | .sl t => List t.I
  | .slo t => Option (List t.I)
  | .os _ t => List t.I
  | .oso _ t => Option (List t.I)
  | .pair a b => a.I × b.I
def Ty.sz : Ty → Nat
  | .pair a b => a.sz + b.sz
  | _ => 1
def Ty.dflt : (t : Ty) → t.I
  | .int _ => (0 : Int)
  | .bool => false
  | .str => ByteArray.empty
  | .sl t => ([] : List t.I)
  | .slo t => (none : Option (List t.I))
  | .os _ t => ([] : List t.I)
  | .oso _ t => (none : Option (List t.I))
  | .pair a b => (a.dflt, b.dflt)
/-- No slice in it. -/
def Ty.flat : Ty → Bool
  | .sl _ => false
  | .slo _ => false
  | .os _ _ => false
  | .oso _ _ => false
  | .pair a b => a.flat && b.flat
  | _ => true
/-- No slice in it that is owned with it. -/
def Ty.noOs : Ty → Bool
  | .os _ _ => false
  | .oso _ _ => false
  | .pair a b => a.noOs && b.noOs
  | _ => true
/-- No slice in it that may be anybody's. -/
def Ty.self : Ty → Bool
  | .sl _ => false
  | .slo _ => false
  | .os _ t => t.flat
  | .oso _ t => t.flat
  | .pair a b => a.self && b.self
  | _ => true
/-- As read-only data. -/
def Ty.ro : Ty → Ty
  | .os _ t => .sl t
  | .oso _ t => .slo t
  | .pair a b => .pair a.ro b.ro
  | t => t
theorem Ty.roI : ∀ t : Ty, t.ro.I = t.I
  | .int _ => rfl
  | .bool => rfl
  | .str => rfl
  | .sl _ => rfl
  | .slo _ => rfl
  | .os _ _ => rfl
  | .oso _ _ => rfl
  | .pair a b => by show (a.ro.I × b.ro.I) = (a.I × b.I); rw [a.roI, b.roI]
theorem Ty.ro_sz : ∀ t : Ty, t.ro.sz = t.sz
  | .int _ => rfl
  | .bool => rfl
  | .str => rfl
  | .sl _ => rfl
  | .slo _ => rfl
  | .os _ _ => rfl
  | .oso _ _ => rfl
  | .pair a b => by simp only [Ty.ro, Ty.sz, a.ro_sz, b.ro_sz]
def roL (t : Ty) (xs : List t.I) : List t.ro.I := cast (congrArg List t.roI.symm) xs
/-- The owned slice at a place of the data. -/
def Ty.osAt : (t : Ty) → Nat → Option (TypeId × Ty)
  | .os e t, 0 => some (e, t)
  | .pair a b, n => bif Nat.blt n a.sz then a.osAt n else b.osAt (n - a.sz)
  | _, _ => none
/-- Put a leaf's data at a place. -/
def Ty.osGet : (t : Ty) → (n : Nat) → (t' : Ty) → t.I → List t'.I
  | .os _ t, 0, t', x => if h : t = t' then h ▸ x else []
  | .pair a b, n, t', x => bif Nat.blt n a.sz then a.osGet n t' x.1 else b.osGet (n - a.sz) t' x.2
  | _, _, _, _ => []
def Ty.osPut : (t : Ty) → (n : Nat) → (t' : Ty) → t.I → List t'.I → t.I
  | .os _ t, 0, t', x, y => if h : t' = t then h ▸ y else x
  | .pair a b, n, t', x, y => bif Nat.blt n a.sz then (a.osPut n t' x.1 y, x.2) else (x.1, b.osPut (n - a.sz) t' x.2 y)
  | _, _, _, x, _ => x

/-- What a slot holds. -/
inductive SV where
  | bot
  | und
  | int (k : IntKind) (z : Int)
  | bool (b : Bool)
  | str (s : ByteArray)
  | nil
  | ro (t : Ty) (xs : List t.I)
  | roo (t : Ty) (x : Option (List t.I))
  | own (n : Nat)
  | view (n lo hi : Nat)
  | agg (vs : List SV)
  | tup (vs : List SV)
  | box (n off : Nat)
  | el (n i off : Nat)
  | rp (vs : List SV)
  | fn (f : FuncId) (caps : List SV)
  | mp (n : Nat)
  | arr (n : Nat)
  | elo (n off : Nat) (i : Option Nat)
  | nilp
  /-- some value of one cell -/
  | any
  /-- a slice of which is known whether it is nil -/
  | sk (t : Ty) (xs : List t.I) (b : Bool)
  /-- a slice of which the length is known -/
  | ln (n : Nat)
  /-- a slice that is nil if b -/
  | nlo (b : Bool)

inductive Obj where
  | absent
  | dead
  | row (e : TypeId) (t : Ty) (xs : List t.I)
  | box (e : TypeId) (vs : List SV)
  | hrow (e : TypeId) (t : Ty) (xs : List t.I) (i off id : Nat)
  | mrow (e : TypeId) (t : Ty) (x : Option (List t.I))
  | moved (id : Nat) (fl : Bool)
  | map (t : Ty) (es : List (Int × t.I))

structure St where
  sl : Nat → SV
  ob : Nat → Obj
def St.empty : St := ⟨fun _ => .bot, fun _ => .absent⟩
def St.setS (σ : St) (s : Nat) (v : SV) : St := ⟨fun s' => bif Nat.beq s' s then v else σ.sl s', σ.ob⟩
def St.setO (σ : St) (n : Nat) (o : Obj) : St := ⟨σ.sl, fun n' => bif Nat.beq n' n then o else σ.ob n'⟩

def leaves : (t : Ty) → t.I → List SV
  | .int k, x => [.int k x]
  | .bool, x => [.bool x]
  | .str, x => [.str x]
  | .sl t, x => [.ro t x]
  | .slo t, x => [.roo t x]
  | .os _ _, _ => [.any]
  | .oso _ _, x => [.nlo (Option.isNone x)]
  | .pair a b, x => leaves a x.1 ++ leaves b x.2

def lenOf : Obj → Option Nat
  | .row _ _ xs => some xs.length
  | .hrow _ _ xs _ _ _ => some xs.length
  | _ => none
inductive M (α : Type) : Type 1 where
  | ret (a : α)
  | fail
  | getS (s : Nat) (k : SV → M α)
  | setS (s : Nat) (v : SV) (k : M α)
  | getO (n : Nat) (k : Obj → M α)
  | setO (n : Nat) (o : Obj) (k : M α)
  /-- how long a row is -/
  | getL (n : Nat) (k : Option Nat → M α)
  /-- of a row a slice is taken out -/
  | hole (n i off id : Nat) (k : M α)
  | test (b : Bool) (k : M α)
  | opt {β : Type} (o : Option β) (k : β → M α)

def M.exec {α : Type} : M α → St → Option (α × St)
  | .ret a, σ => some (a, σ)
  | .fail, _ => none
  | .getS s k, σ => (k (σ.sl s)).exec σ
  | .setS s v k, σ => k.exec (σ.setS s v)
  | .getO n k, σ => (k (σ.ob n)).exec σ
  | .setO n o k, σ => k.exec (σ.setO n o)
  | .getL n k, σ => (k (lenOf (σ.ob n))).exec σ
  | .hole n i off id k, σ => match σ.ob n with
    | .row e t xs => k.exec (σ.setO n (.hrow e t xs i off id))
    | _ => none
  | .test b k, σ => bif b then k.exec σ else none
  | .opt o k, σ => match o with
    | none => none
    | some b => (k b).exec σ

/-- A key: a slot (false), an object (true), or a row's length (none). -/
abbrev Key := Option Bool × Nat
/-- What was read, and what was written. -/
structure Log where
  r : List Key
  w : List Key

def M.fp {α : Type} : M α → St → Log → Log
  | .ret _, _, l => l
  | .fail, _, l => l
  | .getS s k, σ, l => (k (σ.sl s)).fp σ ⟨(some false, s) :: l.r, l.w⟩
  | .setS s v k, σ, l => k.fp (σ.setS s v) ⟨l.r, (some false, s) :: l.w⟩
  | .getO n k, σ, l => (k (σ.ob n)).fp σ ⟨(some true, n) :: l.r, l.w⟩
  | .setO n o k, σ, l => k.fp (σ.setO n o) ⟨l.r, (some true, n) :: (none, n) :: l.w⟩
  | .getL n k, σ, l => (k (lenOf (σ.ob n))).fp σ ⟨(none, n) :: l.r, l.w⟩
  | .hole n i off id k, σ, l => match σ.ob n with
    | .row e t xs => k.fp (σ.setO n (.hrow e t xs i off id)) ⟨(some true, n) :: l.r, (some true, n) :: l.w⟩
    | _ => l
  | .test _ k, σ, l => k.fp σ l
  | .opt o k, σ, l => match o with
    | none => l
    | some b => (k b).fp σ l

def force {R : Type} (v : SV) (K : SV → Option R) : Option R :=
  match v with
  | .bot => K .bot
  | .und => K .und
  | .int k z => K (.int k z)
  | .bool b => K (.bool b)
  | .str s => K (.str s)
  | .nil => K .nil
  | .ro t xs => K (.ro t xs)
  | .roo t x => K (.roo t x)
  | .own n => K (.own n)
  | .view n lo hi => K (.view n lo hi)
  | .agg vs => K (.agg vs)
  | .tup vs => K (.tup vs)
  | .box n off => K (.box n off)
  | .el n i off => K (.el n i off)
  | .rp vs => K (.rp vs)
  | .fn f cs => K (.fn f cs)
  | .mp n => K (.mp n)
  | .arr n => K (.arr n)
  | .elo n off i => K (.elo n off i)
  | .nilp => K .nilp
  | .sk t xs b => K (.sk t xs b)
  | .any => K .any
  | .ln n => K (.ln n)
  | .nlo b => K (.nlo b)
theorem force_eq {R : Type} (v : SV) (K : SV → Option R) : force v K = K v := by cases v <;> rfl
def forceO {R : Type} (o : Obj) (K : Obj → Option R) : Option R :=
  match o with
  | .absent => K .absent
  | .dead => K .dead
  | .row e t xs => K (.row e t xs)
  | .box e vs => K (.box e vs)
  | .hrow e t xs i off id => K (.hrow e t xs i off id)
  | .mrow e t x => K (.mrow e t x)
  | .moved id fl => K (.moved id fl)
  | .map t es => K (.map t es)
theorem forceO_eq {R : Type} (o : Obj) (K : Obj → Option R) : forceO o K = K o := by cases o <;> rfl

def M.run {α R : Type} : M α → St → Log → (α → St → Log → Option R) → Option R
  | .ret a, σ, l, K => K a σ l
  | .fail, _, _, _ => none
  | .getS s k, σ, l, K => force (σ.sl s) fun v => (k v).run σ ⟨(some false, s) :: l.r, l.w⟩ K
  | .setS s v k, σ, l, K => force v fun v => k.run (σ.setS s v) ⟨l.r, (some false, s) :: l.w⟩ K
  | .getO n k, σ, l, K => forceO (σ.ob n) fun o => (k o).run σ ⟨(some true, n) :: l.r, l.w⟩ K
  | .setO n o k, σ, l, K => forceO o fun o => k.run (σ.setO n o) ⟨l.r, (some true, n) :: (none, n) :: l.w⟩ K
  | .getL n k, σ, l, K => match lenOf (σ.ob n) with
    | none => (k none).run σ ⟨(none, n) :: l.r, l.w⟩ K
    | some x => (k (some x)).run σ ⟨(none, n) :: l.r, l.w⟩ K
  | .hole n i off id k, σ, l, K => match σ.ob n with
    | .row e t xs => k.run (σ.setO n (.hrow e t xs i off id)) ⟨(some true, n) :: l.r, (some true, n) :: l.w⟩ K
    | _ => none
  | .test b k, σ, l, K => bif b then k.run σ l K else none
  | .opt o k, σ, l, K => match o with
    | none => none
    | some b => (k b).run σ l K

theorem M.run_eq {α R : Type} (m : M α) : ∀ (σ : St) (l : Log) (K : α → St → Log → Option R),
    m.run σ l K = match m.exec σ with | none => none | some x => K x.1 x.2 (m.fp σ l) := by
  induction m with
  | ret a => intro σ l K; rfl
  | fail => intro σ l K; rfl
  | getS s k ih => intro σ l K; simp only [M.run, M.exec, M.fp, force_eq]; exact ih _ _ _ _
  | setS s v k ih => intro σ l K; simp only [M.run, M.exec, M.fp, force_eq]; exact ih _ _ _
  | getO n k ih => intro σ l K; simp only [M.run, M.exec, M.fp, forceO_eq]; exact ih _ _ _ _
  | setO n o k ih => intro σ l K; simp only [M.run, M.exec, M.fp, forceO_eq]; exact ih _ _ _
  | getL n k ih =>
    intro σ l K
    simp only [M.run, M.exec, M.fp]
    cases lenOf (σ.ob n) with
    | none => exact ih _ _ _ _
    | some x => exact ih _ _ _ _
  | hole n i off id k ih =>
    intro σ l K
    simp only [M.run, M.exec, M.fp]
    cases σ.ob n with
    | row e t xs => exact ih _ _ _
    | _ => rfl
  | test b k ih => intro σ l K; cases b <;> simp only [M.run, M.exec, M.fp, cond_true, cond_false]; exact ih _ _ _
  | opt o k ih =>
    intro σ l K
    cases o with
    | none => rfl
    | some b => simp only [M.run, M.exec, M.fp]; exact ih _ _ _ _

def M.bind {α β : Type} : M α → (α → M β) → M β
  | .ret a, f => f a
  | .fail, _ => .fail
  | .getS s k, f => .getS s fun v => (k v).bind f
  | .setS s v k, f => .setS s v (k.bind f)
  | .getO n k, f => .getO n fun o => (k o).bind f
  | .setO n o k, f => .setO n o (k.bind f)
  | .getL n k, f => .getL n fun o => (k o).bind f
  | .hole n i off id k, f => .hole n i off id (k.bind f)
  | .test b k, f => .test b (k.bind f)
  | .opt o k, f => .opt o fun b => (k b).bind f

structure TI where
  agg : Bool
  size : Nat
  bytes : Nat
  zero : Value
  fields : List (Nat × Nat × Bool)
  elem : Option TypeId
  ik : Option IntKind
  isStr : Bool
  isB : Bool
  hasZ : Bool
  arr : Option (Nat × TypeId)
  mp : Option (TypeId × TypeId)
  deriving Inhabited
def aggD : TypeDesc → Bool
  | .struct _ => true
  | .array _ _ => true
  | _ => false
def tinfo (P : Program) (t : TypeId) : Option TI :=
  match P.underlying t, P.info? t with
  | some d, some i => some {
      agg := aggD d
      size := i.size
      bytes := i.bytes
      zero := i.zero.getD undef
      fields := match d with | .struct fs => fs.toList.map fun f => (f.offset, ((P.info? f.type).map (·.size)).getD 0, ((P.underlying f.type).map aggD).getD true) | _ => []
      elem := match d with | .slice e => some e | _ => none
      ik := match d with | .int k => some k | _ => none
      isStr := match d with | .string => true | _ => false
      isB := match d with | .bool => true | _ => false
      hasZ := i.zero.isSome
      arr := match d with | .array n e => some (n, e) | _ => none
      mp := match d with | .map k v => some (k, v) | _ => none }
  | _, _ => none

def leafOf : Value → SV
  | .int k z => .int k z
  | .bool b => .bool b
  | .string s => .str s
  | .slice none 0 0 => .nil
  | .func (.func f) ⟨[]⟩ ⟨[]⟩ => .fn f []
  | .pointer none => .nilp
  | _ => .bot
def svOf : Value → SV
  | .agg cs => .agg (cs.toList.map leafOf)
  | v => leafOf v

/-- 'ownA': a row with a name; 'ownk': a row, and whether it is the one with the name; 'may': a row or nothing that may be read; 'hol': a row of which one slice was taken out for a while; 'elA', 'elo': a pointer into a row with a name; 'slf': a function that holds the boxes with these names; 'mp': a map. -/
inductive LS where
  | int (k : IntKind)
  | bool
  | str
  | ro (t : Ty)
  | own (e : TypeId) (t : Ty)
  | fn
  | fnc (f : FuncId)
  | nil
  | skip
  | ownA (id : Nat) (e : TypeId) (t : Ty)
  | ownk (id : Nat) (e : TypeId) (t : Ty)
  | may (e : TypeId) (t : Ty)
  | hol (id : Nat) (e : TypeId) (t : Ty) (off id2 : Nat)
  | elA (id off : Nat)
  | elo (id off : Nat)
  | slf (f : FuncId) (ids : List Nat)
  | mp (t : Ty)
  | rk (t : Ty) (b : Bool)
  /-- data, and whether they are nil -/
  | rkb (t : Ty)
  | any
  /-- the row with a name, once more -/
  | ali (id : Nat)
  /-- a part of the row with a name -/
  | vw (id : Nat)
  /-- a slice of which the length is known -/
  | ln
@[reducible] def LS.I : LS → Type
  | .int _ => Int
  | .bool => Bool
  | .str => ByteArray
  | .ro t => List t.I
  | .own _ t => List t.I
  | .fn => FuncId
  | .fnc _ => Unit
  | .nil => Unit
  | .skip => Unit
  | .ownA _ _ t => List t.I
  | .ownk _ _ t => Bool × List t.I
  | .may _ t => Option (List t.I)
  | .hol _ _ t _ _ => List t.I × Nat
  | .elA _ _ => Nat
  | .elo _ _ => Option Nat
  | .slf _ _ => Unit
  | .mp t => List (Int × t.I)
  | .rk t _ => List t.I
  | .rkb t => List t.I × Bool
  | .any => Unit
  | .ali _ => Unit
  | .vw _ => Nat × Nat
  | .ln => Nat
@[reducible] def LsI : List LS → Type
  | [] => Unit
  | l :: ls => l.I × LsI ls
/-- 'box': a pointer; 'outs': what its cells are when it comes back; 'boxA': with a name; 'clo': a function that holds one pointer; 'mut': a slice of which the elements may be changed. -/
inductive VS where
  | leaf (l : LS)
  | agg (ls : List LS)
  | box (e : TypeId) (ls outs : List LS)
  | boxA (id : Nat) (e : TypeId) (ls outs : List LS)
  | clo (f : FuncId) (e : TypeId) (ls outs : List LS)
  | muts (id : Nat) (e : TypeId) (t : Ty)
  /-- a struct of which what the slices lead to may be changed -/
  | aggm (ls : List LS)
@[reducible] def VS.I : VS → Type
  | .leaf l => l.I
  | .agg ls => LsI ls
  | .box _ ls _ => LsI ls
  | .boxA _ _ ls _ => LsI ls
  | .clo _ _ ls _ => LsI ls
  | .muts _ _ t => List t.I
  | .aggm ls => LsI ls
@[reducible] def VsI : List VS → Type
  | [] => Unit
  | v :: vs => v.I × VsI vs
/-- Nothing in it that others may read or own. -/
def LS.flat : LS → Bool
  | .ro _ => false
  | .rk _ _ => false
  | .rkb _ => false
  | .own _ t => t.self
  | .ownA _ _ t => t.self
  | .ownk _ _ t => t.self
  | .may _ t => t.self
  | .hol _ _ _ _ _ => false
  | _ => true
def VS.flat : VS → Bool
  | .leaf l => l.flat
  | .agg ls => ls.all LS.flat
  | .box _ ls _ => ls.all LS.flat
  | .boxA _ _ ls _ => ls.all LS.flat
  | .clo _ _ ls _ => ls.all LS.flat
  | .muts _ _ t => t.self
  | .aggm ls => ls.all LS.flat
def LS.names : LS → List Nat
  | .ownA id _ _ => [id]
  | .ownk id _ _ => [id]
  | .hol id _ _ _ id2 => [id, id2]
  | .elA id _ => [id]
  | .ali id => [id]
  | .vw id => [id]
  | .elo id _ => [id]
  | .slf _ ids => ids
  | _ => []
def VS.names : VS → List Nat
  | .leaf l => l.names
  | .agg ls => ls.flatMap LS.names
  | .box _ ls _ => ls.flatMap LS.names
  | .boxA id _ ls _ => id :: ls.flatMap LS.names
  | .clo _ _ ls _ => ls.flatMap LS.names
  | .muts id _ _ => [id]
  | .aggm ls => ls.flatMap LS.names

def castL {α : Type} {t' : Ty} (t : Ty) (xs : List t'.I) (K : List t.I → M α) : M α :=
  if h : t' = t then K (h ▸ xs) else .fail
def castM {α : Type} {t' : Ty} (t : Ty) (xs : List (Int × t'.I)) (K : List (Int × t.I) → M α) : M α :=
  if h : t' = t then K (h ▸ xs) else .fail
def castO {α : Type} {t' : Ty} (t : Ty) (xs : Option (List t'.I)) (K : Option (List t.I) → M α) : M α :=
  if h : t' = t then K (h ▸ xs) else .fail
/-- Data of one type as those of another one: a slice that may be nil as a slice. -/
def convT : (t' t : Ty) → Option (t'.I → t.I)
  | .slo a, .sl b => if h : a = b then some (fun (x : Option (List a.I)) => h ▸ (x.getD [])) else none
  | .pair a b, .pair c d => match convT a c, convT b d with
    | some f, some g => some fun p => (f p.1, g p.2)
    | _, _ => none
  | .int a, .int b => if a = b then some (fun x => x) else none
  | .bool, .bool => some (fun x => x)
  | .str, .str => some (fun x => x)
  | _, _ => none
def convL {α : Type} {t' : Ty} (t : Ty) (xs : List t'.I) (K : List t.I → M α) : M α :=
  if h : t' = t then K (h ▸ xs) else match convT t' t with
    | some f => K (xs.map f)
    | none => .fail
/-- Rows that own slices that may be nil, as rows that own slices. -/
def convO : (t' t : Ty) → Option (t'.I → t.I)
  | .oso e a, .os e2 b => if h : a = b then (if e = e2 then some (fun (x : Option (List a.I)) => h ▸ (x.getD [])) else none) else none
  | .pair a b, .pair c d => match convO a c, convO b d with
    | some f, some g => some fun p => (f p.1, g p.2)
    | _, _ => none
  | .int a, .int b => if a = b then some (fun x => x) else none
  | .bool, .bool => some (fun x => x)
  | .str, .str => some (fun x => x)
  | _, _ => none
def castW {α : Type} {t' : Ty} (t : Ty) (xs : List t'.I) (K : List t.I → M α) : M α :=
  if h : t' = t then K (h ▸ xs) else match convO t' t with
    | some f => K (xs.map f)
    | none => .fail
/-- A row of which a slice was taken out, with this slice put back. -/
def putBack {t t1 : Ty} (xs : List t.I) (i off : Nat) (ys : List t1.I) : List t.I := xs.set i (t.osPut off t1 (xs.getD i t.dflt) ys)
/-- A row is whole again. -/
def closeM {α : Type} (n : Nat) (K : M α) : M α := .getO n fun
  | .hrow e t xs i off id => .getO id fun
    | .row e1 t1 ys => match t.osAt off with
      | some (e2, t2) => .test (Nat.beq e1 e2 && decide (t1 = t2) && t1.noOs) (.setO id .dead (.setO n (.row e t (putBack xs i off ys)) K))
      | none => .fail
    | _ => .fail
  | .mrow e t x => .opt x fun xs => .setO n (.row e t xs) K
  | _ => K
/-- May lie in a cell. -/
def SV.cell : SV → Bool
  | .int _ _ | .bool _ | .str _ | .nil | .ro _ _ | .roo _ _ | .own _ | .view _ _ _ | .box _ _ | .fn _ _ | .mp _ | .nilp | .any | .ln _ | .nlo _ => true
  | _ => false
/-- Are these the boxes with these names? -/
def capsOk (B : Nat → Nat) : List Nat → List SV → Bool
  | [], [] => true
  | i :: is, .box n 0 :: vs => Nat.beq n (B i) && capsOk B is vs
  | _, _ => false
/-- Take a value: 'b': what is owned is lent where it is only read. 'B': which object has a name. -/
def takeL {α : Type} (b : Bool) (B : Nat → Nat) : (l : LS) → SV → (l.I → M α) → M α
  | .int k, .int k' z, K => .test (decide (k' = k)) (K z)
  | .bool, .bool x, K => K x
  | .str, .str s, K => K s
  | .ro t, .nil, K => K []
  | .ro t, .ro t' xs, K => convL t xs K
  | .ro t, .sk t' xs _, K => convL t xs K
  | .ro t, .own n, K => bif b then .getO n fun
      | .row _ t' xs => convL t (roL t' xs) K
      | .hrow _ t' xs i off id => .getO id fun
        | .row e1 t1 ys => match t'.osAt off with
          | some (e2, t2) => .test (Nat.beq e1 e2 && decide (t1 = t2) && t1.noOs) (convL t (roL t' (putBack xs i off ys)) K)
          | none => .fail
        | _ => .fail
      | .mrow _ t' x => .opt x fun xs => convL t (roL t' xs) K
      | _ => .fail
    else closeM n (.getO n fun
      | .row _ t' xs => convL t (roL t' xs) fun ys => .setO n .dead (K ys)
      | _ => .fail)
  | .ro t, .view n lo hi, K => .getO n fun
    | .row _ t' xs => convL t (roL t' xs) fun ys => bif b then K ((ys.take hi).drop lo) else .setO n .dead (K ((ys.take hi).drop lo))
    | _ => .fail
  | .ro t, .roo t' x, K => convL t (x.getD []) K
  | .fn, .fn f [], K => K f
  | .fnc g, .fn f [], K => .test (Nat.beq f g) (K ())
  | .nil, .nil, K => K ()
  | .own e t, .nil, K => K []
  | .own e t, .roo t' x, K => .test x.isNone (K [])
  | .own e t, .nlo b, K => .test b (K [])
  | .own e t, .own n, K => closeM n (.getO n fun
    | .row e' t' xs => .test (Nat.beq e' e) (castW t xs fun ys => .setO n .dead (K ys))
    | _ => .fail)
  | .own e t, .view n 0 hi, K => .getO n fun
    | .row e' t' xs => .test (Nat.beq e' e && t'.noOs) (castL t xs fun ys => .setO n .dead (K (ys.take hi)))
    | _ => .fail
  | .skip, _, K => K ()
  | .any, v, K => .test v.cell (K ())
  | .ownA id e t, .own n, K => .test (Nat.beq n (B id)) (closeM n (.getO n fun
    | .row e' t' xs => .test (Nat.beq e' e && Nat.beq t'.sz t.sz) (castW t xs fun ys => .setO n .dead (K ys))
    | _ => .fail))
  | .ownk id e t, .nil, K => K (false, [])
  | .ownk id e t, .own n, K => closeM n (.getO n fun
    | .row e' t' xs => .test (Nat.beq e' e) (castL t xs fun ys => .setO n .dead (K (Nat.beq n (B id), ys)))
    | _ => .fail)
  | .may e t, .nil, K => K (some [])
  | .may e t, .own n, K => .getO n fun
    | .row e' t' xs => .test (Nat.beq e' e) (castL t xs fun ys => .setO n .dead (K (some ys)))
    | .mrow e' t' x => .test (Nat.beq e' e) (castO t x fun y => .setO n .dead (K y))
    | .moved id fl => .getO id fun
      | .row e' t' xs => .test (Nat.beq e' e) (castL t xs fun ys => .setO id .dead (K (bif fl then some ys else none)))
      | _ => .fail
    | .dead => K none
    | _ => .fail
  | .hol id e t off id2, .own n, K => .test (Nat.beq n (B id)) (.getO n fun
    | .hrow e' t' xs i off' j => .test (Nat.beq e' e && Nat.beq off' off && Nat.beq j (B id2)) (castL t xs fun ys => .setO n .dead (K (ys, i)))
    | _ => .fail)
  | .ali id, .own n, K => .test (Nat.beq n (B id)) (K ())
  | .vw id, .view n lo hi, K => .test (Nat.beq n (B id)) (K (lo, hi))
  | .ln, .own n, K => .getO n fun
    | .row _ _ xs => K xs.length
    | .mrow _ _ x => .opt x fun xs => K xs.length
    | _ => .fail
  | .ln, .nil, K => K 0
  | .ln, .ro _ xs, K => K xs.length
  | .ln, .ln n, K => K n
  | .elA id off, .el n i off', K => .test (Nat.beq n (B id) && Nat.beq off' off) (K i)
  | .elo id off, .nilp, K => K none
  | .elo id off, .el n i off', K => .test (Nat.beq n (B id) && Nat.beq off' off) (K (some i))
  | .elo id off, .elo n off' x, K => .test (Nat.beq n (B id) && Nat.beq off' off) (K x)
  | .slf f ids, .fn g caps, K => .test (Nat.beq g f && capsOk B ids caps && !ids.isEmpty) (K ())
  | .mp t, .mp n, K => .getO n fun
    | .map t' es => castM t es fun fs => .setO n .dead (K fs)
    | _ => .fail
  | .rkb t, .nil, K => K ([], true)
  | .rkb t, .sk t' xs b', K => castL t xs fun ys => K (ys, b')
  | .rkb t, .ro t' xs, K => convL t xs fun ys => .test (Nat.blt 0 ys.length) (K (ys, false))
  | .rkb t, .own n, K => closeM n (.getO n fun
    | .row _ t' xs => convL t (roL t' xs) fun ys => .test (Nat.blt 0 ys.length) (.setO n .dead (K (ys, false)))
    | _ => .fail)
  | _, _, _ => .fail
def takeLs {α : Type} (b : Bool) (B : Nat → Nat) : (ls : List LS) → List SV → (LsI ls → M α) → M α
  | [], [], K => K ()
  | l :: ls, v :: vs, K => takeL b B l v fun x => takeLs b B ls vs fun y => K (x, y)
  | _, _, _ => .fail
def takeBox {α : Type} (b : Bool) (B : Nat → Nat) (e : TypeId) (ls : List LS) (n : Nat) (K : LsI ls → M α) : M α := .getO n fun
  | .box e' vs => .test (Nat.beq e' e) (.setO n .dead (takeLs b B ls vs K))
  | _ => .fail
def takeV {α : Type} (b : Bool) (B : Nat → Nat) : (s : VS) → SV → (s.I → M α) → M α
  | .leaf l, v, K => takeL b B l v K
  | .agg ls, .agg vs, K => takeLs b B ls vs K
  | .box e ls _, .box n 0, K => takeBox b B e ls n K
  | .boxA id e ls _, .box n 0, K => .test (Nat.beq n (B id)) (takeBox b B e ls n K)
  | .clo f e ls _, .fn g [.box n 0], K => .test (Nat.beq g f) (takeBox b B e ls n K)
  | .muts id e t, v, K => takeL b B (.ownA id e t) v K
  | .aggm ls, .agg vs, K => takeLs b B ls vs K
  | _, _, _ => .fail
def takeVs {α : Type} (b : Bool) (B : Nat → Nat) : (ss : List VS) → List SV → (VsI ss → M α) → M α
  | [], [], K => K ()
  | s :: ss, v :: vs, K => takeV b B s v fun x => takeVs b B ss vs fun y => K (x, y)
  | _, _, _ => .fail

def LS.plain : LS → Bool
  | .own _ _ => false
  | .ownA _ _ _ => false
  | .ownk _ _ _ => false
  | .may _ _ => false
  | .hol _ _ _ _ _ => false
  | .elA _ _ => false
  | .ali _ => false
  | .vw _ => false
  | .ln => false
  | .elo _ _ => false
  | .slf _ _ => false
  | .mp _ => false
  | .rkb _ => false
  | _ => true
def VS.plain : VS → Bool
  | .leaf l => l.plain
  | .agg ls => ls.all LS.plain
  | _ => false
/-- As 'takeVs'; what is only read is lent, when all else is taken. -/
def mixVs {α : Type} (B : Nat → Nat) : (ss : List VS) → List SV → (VsI ss → M α) → M α
  | [], [], K => K ()
  | s :: ss, v :: vs, K => bif s.plain then mixVs B ss vs fun y => takeV true B s v fun x => K (x, y) else takeV false B s v fun x => mixVs B ss vs fun y => K (x, y)
  | _, _, _ => .fail

/-- Which objects have the names. -/
def bindLs : List LS → List SV → List (Nat × Nat)
  | .ownA id _ _ :: ls, .own n :: vs => (id, n) :: bindLs ls vs
  | .hol id _ _ _ _ :: ls, .own n :: vs => (id, n) :: bindLs ls vs
  | _ :: ls, _ :: vs => bindLs ls vs
  | _, _ => []
def bindBox {α : Type} (ls : List LS) (n : Nat) (K : List (Nat × Nat) → M α) : M α := .getO n fun
  | .box _ vs => K (bindLs ls vs)
  | _ => .fail
def bindV {α : Type} : (s : VS) → SV → (List (Nat × Nat) → M α) → M α
  | .leaf l, v, K => K (bindLs [l] [v])
  | .agg ls, .agg vs, K => K (bindLs ls vs)
  | .box _ ls _, .box n _, K => bindBox ls n K
  | .boxA id _ ls _, .box n _, K => bindBox ls n fun l => K ((id, n) :: l)
  | .clo _ _ ls _, .fn _ [.box n _], K => bindBox ls n K
  | .muts id _ _, .own n, K => K [(id, n)]
  | .aggm ls, .agg vs, K => K (bindLs ls vs)
  | _, _, K => K []
def bindVs {α : Type} : List VS → List SV → (List (Nat × Nat) → M α) → M α
  | s :: ss, v :: vs, K => bindV s v fun l => bindVs ss vs fun l' => K (l ++ l')
  | _, _, K => K []
def lkN : List (Nat × Nat) → Nat → Nat
  | [], n => n
  | (m, a) :: r, n => bif Nat.beq m n then a else lkN r n

/-- A new object. -/
def newO {α : Type} (n : Nat) (o : Obj) (K : M α) : M α := .getO n fun
  | .absent => .setO n o K
  | _ => .fail
/-- An object that has a name: new, or it comes back. -/
def oldO {α : Type} (n : Nat) (o : Obj) (K : M α) : M α := .getO n fun
  | .absent => .setO n o K
  | .dead => .setO n o K
  | _ => .fail
def isThere {α : Type} (n : Nat) (K : M α) : M α := .getO n fun
  | .absent => .fail
  | _ => K
def buildL {α : Type} (B : Nat → Nat) : (l : LS) → l.I → Nat → (SV → M α) → M α
  | .int k, x, _, K => K (.int k x)
  | .bool, x, _, K => K (.bool x)
  | .str, x, _, K => K (.str x)
  | .ro t, x, _, K => K (.ro t x)
  | .own e t, x, n, K => newO n (.row e t x) (K (.own n))
  | .fn, f, _, K => K (.fn f [])
  | .fnc f, _, _, K => K (.fn f [])
  | .nil, _, _, K => K .nil
  | .skip, _, _, K => K .bot
  | .any, _, _, K => K .any
  | .ownA id e t, x, _, K => oldO (B id) (.row e t x) (K (.own (B id)))
  | .ownk id e t, x, n, K => newO n (.row e t x.2) (.getO (B id) fun
    | .dead => .setO (B id) (.moved n x.1) (K (.own n))
    | _ => .fail)
  | .may e t, x, n, K => newO n (.mrow e t x) (K (.own n))
  | .hol id e t off id2, x, _, K => isThere (B id2) (oldO (B id) (.hrow e t x.1 x.2 off (B id2)) (K (.own (B id))))
  | .ali id, _, _, K => isThere (B id) (K (.own (B id)))
  | .vw id, x, _, K => isThere (B id) (K (.view (B id) x.1 x.2))
  | .ln, x, _, K => K (.ln x)
  | .elA id off, i, _, K => isThere (B id) (K (.el (B id) i off))
  | .elo id off, x, _, K => isThere (B id) (K (.elo (B id) off x))
  | .slf f ids, _, _, K => .test (!ids.isEmpty) (K (.fn f (ids.map fun i => .box (B i) 0)))
  | .mp t, es, n, K => newO n (.map t es) (K (.mp n))
  | .rk t b, x, _, K => K (.sk t x b)
  | .rkb t, x, _, K => K (.sk t x.1 x.2)
def buildLs {α : Type} (B : Nat → Nat) : (ls : List LS) → LsI ls → Nat → (List SV → M α) → M α
  | [], _, _, K => K []
  | l :: ls, x, n, K => buildL B l x.1 n fun v => buildLs B ls x.2 (n + 1) fun vs => K (v :: vs)
def buildV {α : Type} (B : Nat → Nat) : (s : VS) → s.I → Nat → (SV → M α) → M α
  | .leaf l, x, n, K => buildL B l x n K
  | .agg ls, x, n, K => buildLs B ls x n fun vs => K (.agg vs)
  | .box e ls _, x, n, K => buildLs B ls x (n + 1) fun vs => newO n (.box e vs) (K (.box n 0))
  | .boxA id e ls _, x, n, K => buildLs B ls x (n + 1) fun vs => oldO (B id) (.box e vs) (K (.box (B id) 0))
  | .clo f e ls _, x, n, K => buildLs B ls x (n + 1) fun vs => newO n (.box e vs) (K (.fn f [.box n 0]))
  | .muts id e t, x, n, K => buildL B (.ownA id e t) x n K
  | .aggm ls, x, n, K => buildLs B ls x n fun vs => K (.agg vs)
def buildVs {α : Type} (B : Nat → Nat) : (ss : List VS) → VsI ss → Nat → (List SV → M α) → M α
  | [], _, _, K => K []
  | s :: ss, x, n, K => buildV B s x.1 n fun v => buildVs B ss x.2 (n + 64) fun vs => K (v :: vs)

def evs {α : Type} : List Nat → (List SV → M α) → M α
  | [], K => K []
  | s :: ss, K => .getS s fun v => evs ss fun vs => K (v :: vs)
def puts {α : Type} : List Nat → List SV → M α → M α
  | [], _, K => K
  | s :: ss, v :: vs, K => .setS s v (puts ss vs K)
  | _ :: _, [], _ => .fail

/-- What is live at a point: slots, and what they hold. -/
structure Live where
  ss : List Nat
  vs : List VS
def idB : Nat → Nat := fun n => n
/-- Names are below. -/
def liveId : Nat := 500000
/-- Where the objects of a join are put. -/
def liveBase : Nat := 2000000000
def LS.selfs : LS → List Nat
  | .slf _ ids => ids
  | _ => []
def VS.selfs : VS → List Nat
  | .leaf l => l.selfs
  | .agg ls => ls.flatMap LS.selfs
  | .box _ ls _ => ls.flatMap LS.selfs
  | .boxA _ _ ls _ => ls.flatMap LS.selfs
  | .clo _ _ ls _ => ls.flatMap LS.selfs
  | .muts _ _ _ => []
  | .aggm ls => ls.flatMap LS.selfs
def hasN (l : List Nat) (n : Nat) : Bool := l.any (Nat.beq n)
/-- Names that last stand for themselves; the others are bound anew. -/
def Live.take {α : Type} (L : Live) (K : VsI L.vs → M α) : M α := evs L.ss fun svs => bindVs L.vs svs fun bl =>
  .test (L.vs.all fun s => s.names.all fun i => Nat.ble liveId i || Nat.beq (lkN bl i) i) (takeVs false (lkN bl) L.vs svs K)
/-- Objects that are only named yet. -/
def reserve {α : Type} : List Nat → M α → M α
  | [], K => K
  | n :: r, K => .getO n fun
    | .absent => .setO n .dead (reserve r K)
    | .dead => reserve r K
    | _ => .fail
/-- Of names that a function holds itself, and that do not last, the objects are there ahead of the others. -/
def Live.build (fix : List Nat) (L : Live) (x : VsI L.vs) : M Unit :=
  .test (L.vs.all fun s => s.names.all (fun n => Nat.blt n liveBase)) <| reserve ((L.vs.flatMap VS.selfs).filter fun i => !hasN fix i) <| buildVs idB L.vs x liveBase fun svs => puts L.ss svs (.ret ())

structure Sig where
  ps : List VS
  rs : List VS
/-- What comes back of what was handed in. -/
def VS.back : VS → Option VS
  | .box e _ outs => some (.box e outs [])
  | .boxA id e _ outs => some (.boxA id e outs [])
  | .clo f e _ outs => some (.clo f e outs [])
  | .muts id e t => some (.muts id e t)
  | .aggm ls => some (.aggm ls)
  | _ => none
def boxes : List VS → List VS
  | [] => []
  | s :: ss => match s.back with
    | some s' => s' :: boxes ss
    | none => boxes ss
abbrev Sig.A (s : Sig) : Type := VsI s.ps
/-- The results, and what comes back. -/
abbrev Sig.R (s : Sig) : Type := VsI s.rs × VsI (boxes s.ps)
/-- What it gets is only lent: nothing comes back that could lead there. -/
def Sig.lends (s : Sig) : Bool := s.rs.all VS.flat && (boxes s.ps).all VS.flat
def Sig.names (s : Sig) : List Nat := s.ps.flatMap VS.names
/-- Names of what comes out are among those of what goes in. -/
def Sig.ok (s : Sig) : Bool := (s.rs ++ boxes s.ps).all (fun v => v.names.all (hasN s.names)) && s.names.all (fun n => Nat.blt n liveId)

structure Env where
  tt : TypeId → Option TI
  ty : TypeId → Option Ty
  eqt : TypeId → Bool
  sig : FuncId → Option Sig
  cl : (f : FuncId) → (s : Sig) → s.A → Option s.R
  /-- which variant of a function is called, by the call's slot -/
  vr : Nat → Nat
/-- The number of a function's variant. -/
def vid (f : Nat) : Nat → Nat
  | 0 => f
  | v + 1 => f + 100000 * (v + 1)
theorem vid_mod {f : Nat} (v : Nat) (h : Nat.blt f 100000 = true) : vid f v % 100000 = f := by
  have h : f < 100000 := Nat.le_of_ble_eq_true h
  cases v with
  | zero => show f % 100000 = f; omega
  | succ v => show (f + 100000 * (v + 1)) % 100000 = f; omega

end Go.Gx

/-
  Gx, part B: what each operation of the model does to an abstract state, and the run of a function's body.
-/
set_option linter.unusedVariables false
namespace Go.Gx

def inb (z : Int) (n : Nat) : Bool := decide (0 ≤ z ∧ z < (n : Int))
def rdx {α : Type} (d : α) (xs : List α) (z : Int) : α := xs.getD z.toNat d
def btx (s : ByteArray) (z : Int) : Int := ((s[z.toNat]?).map fun b => (b.toNat : Int)).getD 0
/-- How long a row may grow. -/
def lim : Nat := 549755813888
def room (n m : Nat) : Bool := decide (n + m ≤ lim)
def sub {α : Type} (xs : List α) (l h : Int) : List α := (xs.take h.toNat).drop l.toNat
/-- 0 ≤ l ≤ h ≤ n. -/
def cutb (l h : Int) (n : Nat) : Bool := decide (0 ≤ l ∧ l ≤ h ∧ h ≤ (n : Int))
def newId (dst : Nat) : Nat := 1000000 + dst * 1024

abbrev MU := M Unit
def ev {α : Type} (x : Operand) (K : SV → M α) : M α :=
  match x with
  | .tmp t => .getS t K
  | .const v => K (svOf v)
  | .func f => K (.fn f [])
  | .global _ => .fail
def evO {α : Type} : List Operand → (List SV → M α) → M α
  | [], K => K []
  | x :: xs, K => ev x fun v => evO xs fun vs => K (v :: vs)
def evOp {α : Type} (x : Option Operand) (K : Option SV → M α) : M α :=
  match x with
  | none => K none
  | some y => ev y fun v => K (some v)
/-- A frame: how many slots, and those that are never written (pointers that came in). -/
structure Fr where
  nt : Nat
  pin : List Nat
  fix : List Nat
def put (nt : Fr) (dst : Option Nat) (v : SV) : MU :=
  match dst with
  | none => .ret ()
  | some d => .test (Nat.blt d nt.nt && !hasN nt.pin d) (.setS d v (.ret ()))
def SV.cellsOf : SV → List SV
  | .agg vs => vs
  | v => [v]
/-- Owned rows among the cells are read-only from here on. -/
def frz {α : Type} : List SV → (List SV → M α) → M α
  | [], K => K []
  | .own n :: vs, K => .getO n fun
    | .row _ t xs => .setO n .dead (frz vs fun us => K (.ro t.ro (roL t xs) :: us))
    | _ => .fail
  | .view n lo hi :: vs, K => .getO n fun
    | .row _ t xs => .setO n .dead (frz vs fun us => K (.ro t.ro (((roL t xs).take hi).drop lo) :: us))
    | _ => .fail
  | v :: vs, K => frz vs fun us => K (v :: us)
def fromL {α : Type} : (t : Ty) → List SV → (t.I → List SV → M α) → M α
  | .int k, .int k' z :: r, K => .test (decide (k' = k)) (K z r)
  | .bool, .bool b :: r, K => K b r
  | .str, .str s :: r, K => K s r
  | .sl t, .nil :: r, K => K [] r
  | .sl t, .ro t' xs :: r, K => castL t xs fun ys => K ys r
  | .sl t, .roo t' x :: r, K => castL t (x.getD []) fun ys => K ys r
  | .slo t, .nil :: r, K => K none r
  | .slo t, .ro t' xs :: r, K => castL t xs fun ys => K (some ys) r
  | .slo t, .roo t' x :: r, K => if h : t' = t then K (h ▸ x) r else .fail
  | .pair a b, vs, K => fromL a vs fun x r => fromL b r fun y r' => K (x, y) r'
  | _, _, _ => .fail
/-- Data with slices of their own: these are taken in. -/
def fromD {α : Type} : (t : Ty) → List SV → (t.I → List SV → M α) → M α
  | .os e t, .nil :: r, K => K [] r
  | .os e t, .own n :: r, K => .getO n fun
    | .row e' t' xs => .test (Nat.beq e' e && t'.noOs) (castL t xs fun ys => .setO n .dead (K ys r))
    | _ => .fail
  | .os e t, .view n 0 hi :: r, K => .getO n fun
    | .row e' t' xs => .test (Nat.beq e' e && t'.noOs) (castL t xs fun ys => .setO n .dead (K (ys.take hi) r))
    | _ => .fail
  | .os _ _, _, _ => .fail
  | .oso e t, .nil :: r, K => K none r
  | .oso e t, .nlo b :: r, K => .test b (K none r)
  | .oso e t, .own n :: r, K => .getO n fun
    | .row e' t' xs => .test (Nat.beq e' e && t'.noOs) (castL t xs fun ys => .setO n .dead (K (some ys) r))
    | _ => .fail
  | .oso _ _, _, _ => .fail
  | .pair a b, vs, K => fromD a vs fun x r => fromD b r fun y r' => K (x, y) r'
  | .int k, vs, K => fromL (.int k) vs K
  | .bool, vs, K => fromL .bool vs K
  | .str, vs, K => fromL .str vs K
  | .sl t, vs, K => fromL (.sl t) vs K
  | .slo t, vs, K => fromL (.slo t) vs K
def elemOf {α : Type} (t : Ty) (v : SV) (K : t.I → M α) : M α :=
  .test (v.cellsOf.all SV.cell) <| bif t.noOs then frz v.cellsOf fun cs => fromL t cs fun x r => match r with | [] => K x | _ => .fail
    else fromD t v.cellsOf fun x r => match r with | [] => K x | _ => .fail
def elems {α : Type} (t : Ty) : List SV → (List t.I → M α) → M α
  | [], K => K []
  | v :: vs, K => elemOf t v fun x => elems t vs fun xs => K (x :: xs)

def intM (k : IntKind) (x y : Int) (op : BinOp) (K : SV → MU) : MU := match op with
  | .add => K (.int k (k.wrap (x + y)))
  | .sub => K (.int k (k.wrap (x - y)))
  | .mul => K (.int k (k.wrap (x * y)))
  | .quo => .test (y != 0) (K (.int k (k.wrap (x.tdiv y))))
  | .rem => .test (y != 0) (K (.int k (x.tmod y)))
  | .xor => K (.int k (k.wrap ((BitVec.ofInt k.bits x ^^^ BitVec.ofInt k.bits y).toNat : Int)))
  | .eql => K (.bool (x == y))
  | .neq => K (.bool (x != y))
  | .lss => K (.bool (decide (x < y)))
  | .leq => K (.bool (decide (x ≤ y)))
  | .gtr => K (.bool (decide (x > y)))
  | .geq => K (.bool (decide (x ≥ y)))
  | .and => K (.int k (k.wrap ((BitVec.ofInt k.bits x &&& BitVec.ofInt k.bits y).toNat : Int)))
  | .or => K (.int k (k.wrap ((BitVec.ofInt k.bits x ||| BitVec.ofInt k.bits y).toNat : Int)))
  | _ => .fail
/-- 'eb': the operands are bools; 'es': structs of two ints, which may be compared; 'el': slices. -/
def binM (eb es el : Bool) (op : BinOp) (a b : SV) (K : SV → MU) : MU :=
  match a, b with
  | .int k x, .int k' y => match op with
    | .shl => .test (decide (0 ≤ y)) (K (.int k (k.wrap (x * 2 ^ min y.toNat k.bits))))
    | .shr => .test (decide (0 ≤ y)) (K (.int k (x.fdiv (2 ^ min y.toNat k.bits))))
    | _ => .test (decide (k = k')) (intM k x y op K)
  | .str x, .str y => match op with
    | .add => .test (room x.size y.size) (K (.str (x ++ y)))
    | .eql => K (.bool (x.toList == y.toList))
    | .neq => K (.bool (!(x.toList == y.toList)))
    | _ => .fail
  | .bool x, .bool y => .test eb <| match op with
    | .eql => K (.bool (x == y))
    | .neq => K (.bool (!(x == y)))
    | _ => .fail
  | .agg [.int .i64 x, .int .i64 x'], .agg [.int .i64 y, .int .i64 y'] => .test es <| match op with
    | .eql => K (.bool (x == y && (x' == y')))
    | .neq => K (.bool (!(x == y && (x' == y'))))
    | _ => .fail
  | .sk _ _ b, .nil => .test el <| match op with
    | .eql => K (.bool b)
    | .neq => K (.bool (!b))
    | _ => .fail
  | _, _ => .fail
def unM (op : UnOp) (a : SV) (K : SV → MU) : MU :=
  match op, a with
  | .not, .bool b => K (.bool (!b))
  | .neg, .int k z => K (.int k (k.wrap (0 - z)))
  | _, _ => .fail

def addrM {α : Type} (a : SV) (K : List SV → M α) : M α :=
  match a with
  | .box n off => .getO n fun
    | .box _ vs => K (vs.drop off)
    | _ => .fail
  | .el n i off => .getO n fun
    | .row _ t xs => .test (decide (i < xs.length)) (K ((leaves t (xs.getD i t.dflt)).drop off))
    | .hrow _ t xs _ _ _ => .test (decide (i < xs.length)) (K ((leaves t (xs.getD i t.dflt)).drop off))
    | .mrow _ t x => .opt x fun xs => .test (decide (i < xs.length)) (K ((leaves t (xs.getD i t.dflt)).drop off))
    | _ => .fail
  | .rp vs => K vs
  | _ => .fail
def loadM {α : Type} (i : TI) (a : SV) (K : SV → M α) : M α := addrM a fun ls =>
  .test (Nat.ble i.size ls.length) <| bif i.agg then K (.agg (ls.take i.size)) else match ls with
    | v :: _ => K v
    | [] => .fail
/-- A slice that a row's element owns is taken out for a while. -/
def focus (n j off id : Nat) (K : SV → MU) : MU := closeM n <| .getO n fun
  | .row e t xs => match t.osAt off with
    | some (e', t') => .test t'.noOs <| .test (decide (j < xs.length)) <| newO id (.row e' t' (t.osGet off t' (xs.getD j t.dflt))) (.hole n j off id (K (.own id)))
    | none => .fail
  | _ => .fail
def isOs (off : Nat) : Obj → Bool
  | .row _ t _ => (t.osAt off).isSome
  | .hrow _ t _ _ _ _ => (t.osAt off).isSome
  | _ => false
/-- A slice that was taken out of a row, once more. -/
def aliasF (i : TI) (a : SV) (K : SV → MU) : MU :=
  match a with
  | .el n j off => .test (!i.agg && Nat.beq i.size 1) <| .getO n fun
    | .hrow _ _ _ k off' q => .test (Nat.beq off' off) (.test (Nat.beq k j) (K (.own q)))
    | _ => .fail
  | _ => .fail
def loadF (i : TI) (a : SV) (id : Nat) (K : SV → MU) : MU :=
  match a with
  | .el n j off => .getO n fun o => bif isOs off o && !i.agg && Nat.beq i.size 1 then focus n j off id K else loadM i a K
  | _ => loadM i a K
/-- Data of which some cells are written: the slices among these are taken in. -/
def putD {α : Type} : (t : Ty) → t.I → Nat → List SV → (t.I → List SV → M α) → M α
  | .pair a b, x, off, cs, K => bif Nat.blt off a.sz then putD a x.1 off cs fun y r => match r with
      | [] => K (y, x.2) []
      | _ => putD b x.2 0 r fun z r' => K (y, z) r'
    else putD b x.2 (off - a.sz) cs fun z r => K (x.1, z) r
  | t, _, 0, cs, K => fromD t cs K
  | _, _, _, _, _ => .fail
def splice (vs cs : List SV) (off : Nat) : List SV := vs.take off ++ cs ++ vs.drop (off + cs.length)
def storeM (i : TI) (a v : SV) : MU :=
  let cs := v.cellsOf
  .test (Nat.beq cs.length i.size) <| match a with
  | .box n off => .getO n fun
    | .box e vs => .test (cs.all SV.cell && Nat.ble (off + cs.length) vs.length) (.setO n (.box e (splice vs cs off)) (.ret ()))
    | _ => .fail
  | .el n j off => .test (cs.all SV.cell) <| .getO n fun
    | .row e t xs => bif t.noOs then frz cs fun us => .getO n fun
      | .row e t xs => .test (decide (j < xs.length)) <| .test (Nat.ble (off + us.length) t.sz) <| .test t.noOs <|
          fromL t (splice (leaves t (xs.getD j t.dflt)) us off) fun x r => match r with
            | [] => .setO n (.row e t (xs.set j x)) (.ret ())
            | _ => .fail
      | _ => .fail
      else .test (decide (j < xs.length)) <| .test (Nat.ble (off + cs.length) t.sz) <|
        putD t (xs.getD j t.dflt) off cs fun x r => match r with
          | [] => .getO n fun
            | .row _ _ _ => .setO n (.row e t (xs.set j x)) (.ret ())
            | _ => .fail
          | _ => .fail
    | .hrow e t xs j' off' id => .test (decide (j = j')) <| match cs, t.osAt off with
      | [.own m], some (e', t') => .test (Nat.beq off off') <| .getO m fun
        | .row e1 t1 ys => .test (Nat.beq e1 e' && decide (t1 = t') && t1.noOs) <| .setO m .dead <| .getO n fun
          | .hrow _ _ _ _ _ _ => .setO n (.row e t (putBack xs j off ys)) (.ret ())
          | _ => .fail
        | _ => .fail
      | _, _ => .fail
    | _ => .fail
  | _ => .fail
def fieldAddrM (i : TI) (a : SV) (f : Nat) (K : SV → MU) : MU :=
  match i.fields[f]? with
  | some (o, z, _) => .test (Nat.blt 0 z) <| match a with
    | .box n off => K (.box n (off + o))
    | .el n j off => K (.el n j (off + o))
    | .rp vs => K (.rp (vs.drop o))
    | _ => .fail
  | none => .fail
def fieldM (i : TI) (a : SV) (f : Nat) (K : SV → MU) : MU :=
  match i.fields[f]?, a with
  | some (o, _, false), .agg vs => match vs[o]? with
    | some v => K v
    | none => .fail
  | _, _ => .fail
def indexAddrM (esz : Nat) (a i : SV) (K : SV → MU) : MU :=
  match a, i with
  | .ro t xs, .int _ z => .test (Nat.beq t.sz esz && inb z xs.length) (K (.rp (leaves t (rdx t.dflt xs z))))
  | .own n, .int _ z => .getO n fun
    | .row _ t xs => .test (Nat.beq t.sz esz && inb z xs.length) (K (.el n z.toNat 0))
    | .hrow _ t xs _ _ _ => .test (Nat.beq t.sz esz && inb z xs.length) (K (.el n z.toNat 0))
    | .mrow _ t x => .opt x fun xs => .test (Nat.beq t.sz esz && inb z xs.length) (K (.el n z.toNat 0))
    | _ => .fail
  | .view n lo hi, .int _ z => .getO n fun
    | .row _ t xs => .test (Nat.beq t.sz esz && inb z (hi - lo) && decide (hi ≤ xs.length)) (K (.el n (lo + z.toNat) 0))
    | _ => .fail
  | _, _ => .fail
def indexM (a i : SV) (K : SV → MU) : MU :=
  match a, i with
  | .str s, .int _ z => .test (inb z s.size) (K (.int .u8 (btx s z)))
  | _, _ => .fail
def lenM (a : SV) (K : Int → MU) : MU :=
  match a with
  | .ro _ xs => K xs.length
  | .own n => .getL n fun
    | some l => K l
    | none => .fail
  | .view n lo hi => K ((hi - lo : Nat) : Int)
  | .ln n => K (n : Int)
  | .nil => K 0
  | .str s => K s.size
  | _ => .fail
def bound (d : Int) (x : Option SV) (K : Int → MU) : MU :=
  match x with
  | none => K d
  | some (.int _ z) => K z
  | _ => .fail
def sliceM (esz : Nat) (a : SV) (lo hi mx : Option SV) (K : SV → MU) : MU :=
  match a with
  | .ro t xs => bound 0 lo fun l => bound xs.length hi fun h => bound h mx fun m =>
      .test (Nat.beq t.sz esz && (mx.isNone || (m == h)) && cutb l h xs.length) (K (.ro t (sub xs l h)))
  | .own n => .getO n fun
    | .row _ t xs => bound 0 lo fun l => bound xs.length hi fun h =>
        .test (Nat.beq t.sz esz && cutb l h xs.length) <| match mx with
          | none => K (.view n l.toNat h.toNat)
          | some (.int _ m) => .test (m == h) (.setO n .dead (K (.ro t.ro (sub (roL t xs) l h))))
          | _ => .fail
    | _ => .fail
  | .view n l0 h0 => .getO n fun
    | .row _ t xs => bound 0 lo fun l => bound ((h0 - l0 : Nat) : Int) hi fun h =>
        .test (Nat.beq t.sz esz && mx.isNone && cutb l h (h0 - l0) && decide (h0 ≤ xs.length)) (K (.view n (l0 + l.toNat) (l0 + h.toNat)))
    | _ => .fail
  | .nil => bound 0 lo fun l => bound 0 hi fun h => .test (mx.isNone && cutb l h 0) (K .nil)
  | _ => .fail
/-- A row with its room cut to its length: it stays a row. -/
def clipM (esz : Nat) (a : SV) (lo hi mx : Option SV) (id : Nat) (K : SV → MU) : MU :=
  match a, lo, hi, mx with
  | .own n, none, some (.int _ h), some (.int _ m) => .getO n fun
    | .row e t xs => .test (Nat.beq t.sz esz && (h == (xs.length : Int)) && (m == (xs.length : Int))) (.setO n .dead (newO id (.row e t xs) (K (.own id))))
    | _ => .fail
  | _, _, _, _ => .fail
def sliceS (s : ByteArray) (lo hi : Option SV) (K : SV → MU) : MU :=
  bound 0 lo fun l => bound s.size hi fun h => .test (cutb l h s.size) (K (.str (s.extract l.toNat h.toNat)))

/-- What is appended. -/
def srcM (n : Nat) (x : SV) (t : Ty) (K : List t.I → MU) : MU :=
  bif !t.noOs then match x with
    | .nil => K []
    | .own m => .test (!Nat.beq m n) <| .getO m fun
      | .row _ t' ys => castL t ys fun zs => .setO m .dead (K zs)
      | _ => .fail
    | _ => .fail
  else match x with
  | .nil => K []
  | .ro t' ys => castL t ys K
  | .sk t' ys _ => castL t ys K
  | .own m => .test (!Nat.beq m n) <| .getO m fun
    | .row _ t' ys => castL t ys K
    | _ => .fail
  | .view m lo hi => .test (!Nat.beq m n) <| .getO m fun
    | .row _ t' ys => .test (decide (lo ≤ hi ∧ hi ≤ ys.length)) (castL t ys fun zs => K ((zs.take hi).drop lo))
    | _ => .fail
  | _ => .fail
def appendM (e : TypeId) (esz : Nat) (ty : Option Ty) (s x : SV) (id : Nat) (K : SV → MU) : MU :=
  let fin (t : Ty) (xs ys : List t.I) : MU := .test (Nat.beq t.sz esz && room xs.length ys.length) (newO id (.row e t (xs ++ ys)) (K (.own id)))
  match s with
  | .nil => match ty with
    | some t => srcM id x t fun ys => fin t [] ys
    | none => .fail
  | .nlo b => match ty with
    | some t => .test b (srcM id x t fun ys => fin t [] ys)
    | none => .fail
  | .own n => .getO n fun
    | .row e' t xs => .test (Nat.beq e' e) (srcM n x t fun ys => .setO n .dead (fin t xs ys))
    | _ => .fail
  | .view n 0 h => .getO n fun
    | .row e' t xs => .test (Nat.beq e' e && t.noOs && decide (h ≤ xs.length)) (srcM n x t fun ys => .setO n .dead (fin t (xs.take h) ys))
    | _ => .fail
  | _ => .fail

def fillM : List SV → List (Nat × Nat × Bool) → List (Nat × SV) → (List SV → MU) → MU
  | vs, _, [], K => K vs
  | vs, fs, (i, v) :: r, K => match fs[i]? with
    | some (o, z, _) => .test (Nat.beq v.cellsOf.length z && Nat.ble (o + z) vs.length && v.cellsOf.all SV.cell) (fillM (splice vs v.cellsOf o) fs r K)
    | none => .fail
def zeroOf (i : TI) : List SV := (svOf i.zero).cellsOf
/-- The zero of a type's data lies in its zero value. -/
def zmatch : Ty → List Value → Option (List Value)
  | .int k, .int k' 0 :: r => if k' = k then some r else none
  | .bool, .bool false :: r => some r
  | .sl _, .slice none 0 0 :: r => some r
  | .slo _, .slice none 0 0 :: r => some r
  | .os _ _, .slice none 0 0 :: r => some r
  | .oso _ _, .slice none 0 0 :: r => some r
  | .pair a b, vs => (zmatch a vs).bind (zmatch b)
  | _, _ => none
def retSV : List SV → SV
  | [v] => v
  | vs => .tup vs

/-- What was handed in comes back. 'svs': what stood there. -/
def backs (B : Nat → Nat) : (ss : List VS) → VsI ss → List SV → Nat → MU → MU
  | [], _, _, _, K => K
  | .box e ls _ :: ss, x, .box n 0 :: vs, id, K => buildLs B ls x.1 id fun us => .getO n fun
    | .dead => .setO n (.box e us) (backs B ss x.2 vs (id + 64) K)
    | _ => .fail
  | .boxA id' e ls _ :: ss, x, .box n 0 :: vs, id, K => .test (Nat.beq n (B id')) <| buildLs B ls x.1 id fun us => .getO n fun
    | .dead => .setO n (.box e us) (backs B ss x.2 vs (id + 64) K)
    | _ => .fail
  | .clo f e ls _ :: ss, x, .fn g [.box n 0] :: vs, id, K => .test (Nat.beq g f) <| buildLs B ls x.1 id fun us => .getO n fun
    | .dead => .setO n (.box e us) (backs B ss x.2 vs (id + 64) K)
    | _ => .fail
  | .muts id' e t :: ss, x, .own n :: vs, id, K => .test (Nat.beq n (B id')) <| .getO n fun
    | .dead => .setO n (.row e t x.1) (backs B ss x.2 vs (id + 64) K)
    | _ => .fail
  | .aggm ls :: ss, x, .agg _ :: vs, id, K => buildLs B ls x.1 id fun _ => backs B ss x.2 vs (id + 64) K
  | _ :: _, _, _, _, _ => .fail
/-- The values that stand where something comes back. -/
def backSVs : List VS → List SV → List SV
  | s :: ss, v :: vs => match s.back with
    | some _ => v :: backSVs ss vs
    | none => backSVs ss vs
  | _, _ => []
/-- These objects are there. -/
def theres {α : Type} : List Nat → M α → M α
  | [], K => K
  | n :: ns, K => isThere n (theres ns K)
def callM (sg : Sig) (f : sg.A → Option sg.R) (args : List SV) (id : Nat) (K : SV → MU) : MU :=
  .test sg.ok <| bindVs sg.ps args fun bl => theres (sg.names.map (lkN bl)) <| (bif sg.lends then mixVs (lkN bl) sg.ps args else takeVs false (lkN bl) sg.ps args) fun x => .opt (f x) fun r =>
    backs (lkN bl) (boxes sg.ps) r.2 (backSVs sg.ps args) (id + 512) (buildVs (lkN bl) sg.rs r.1 id fun svs => K (retSV svs))

def mfind {α : Type} : List (Int × α) → Int → Option α
  | [], _ => none
  | (k, v) :: r, z => bif k == z then some v else mfind r z
def mput {α : Type} : List (Int × α) → Int → α → List (Int × α)
  | [], z, x => [(z, x)]
  | (k, v) :: r, z, x => bif k == z then (k, x) :: r else (k, v) :: mput r z x

def opM (E : Env) (nt : Fr) (o : Oper) : MU :=
  let P : SV → MU := put nt o.dst
  let id := newId (o.dst.getD 0)
  match o.op with
  | .move x => ev x P
  | .assign x => ev x P
  | .pick c a b => ev c fun
    | .bool t => bif t then ev a P else ev b P
    | _ => .fail
  | .alloc t => match E.tt t with
    | some i => .test i.hasZ (newO id (.box t (zeroOf i)) (P (.box id 0)))
    | none => .fail
  | .box t x => ev x fun v => .test (v.cellsOf.all SV.cell) (newO id (.box t v.cellsOf) (P (.box id 0)))
  | .build t parts => match E.tt t with
    | some i => .test (i.hasZ && !i.fields.isEmpty && i.fields.all fun f => Nat.blt 0 f.2.1) <| evO (parts.toList.map (·.2)) fun vs => fillM (zeroOf i) i.fields ((parts.toList.map (·.1)).zip vs) fun cs => P (.agg cs)
    | none => .fail
  | .buildSlice t n parts => match (E.tt t).bind (·.elem) with
    | some e => match E.tt e, E.ty e with
      | some i, some ty => .test (i.hasZ && Nat.beq ty.sz i.size && ((parts.toList.map (·.1)) == List.range n) && Nat.ble (n * i.size) 16777216)
          (evO (parts.toList.map (·.2)) fun vs => elems ty vs fun xs => newO id (.row e ty xs) (P (.own id)))
      | _, _ => .fail
    | none => .fail
  | .load t a => match E.tt t with
    | some i => ev a fun p => bif Nat.beq (E.vr (o.dst.getD 0)) 1 then aliasF i p P else loadF i p id P
    | none => .fail
  | .store t a x => match E.tt t with
    | some i => .test o.dst.isNone (ev a fun p => ev x fun v => storeM i p v)
    | none => .fail
  | .nilCheck x => ev x fun v => match v with
    | .box _ _ => P v
    | .el _ _ _ => P v
    | .rp _ => P v
    | .fn _ _ => P v
    | .elo n off x => .opt x fun i => P (.el n i off)
    | .arr _ => P v
    | _ => .fail
  | .binOp op t x y _ => ev x fun a => ev y fun b => binM (match E.tt t with | some i => i.isB | none => false) (E.eqt t) (match E.tt t with | some i => i.elem.isSome | none => false) op a b P
  | .unOp op _ x => ev x fun a => unM op a P
  | .convert s t x => match E.tt s, (E.tt t).bind (·.ik) with
    | some _, some k => ev x fun v => match v with
      | .int _ z => P (.int k (k.wrap z))
      | _ => .fail
    | _, _ => .fail
  | .makeSlice t l c => match (E.tt t).bind (·.elem) with
    | some e => match E.tt e, E.ty e with
      | some i, some ty => .test (i.hasZ && Nat.beq ty.sz i.size && Nat.ble i.bytes 64 && ((zmatch ty i.zero.cells.toList).map (·.length) == some 0)) <|
          ev l fun a => ev c fun b => match a, b with
            | .int .i64 z, .int .i64 y => .test (decide (0 ≤ z ∧ z ≤ (lim : Int)) && (y == z)) (newO id (.row e ty (List.replicate z.toNat ty.dflt)) (P (.own id)))
            | _, _ => .fail
      | _, _ => .fail
    | none => .fail
  | .slice t x lo hi mx => match E.tt t with
    | some i => ev x fun a => evOp lo fun l => evOp hi fun h => evOp mx fun m => match a with
        | .str s => .test (i.isStr && mx.isNone) (sliceS s l h P)
        | _ => match i.elem with
          | some e => match E.tt e with
            | some j => .test (!mx.isSome || hi.isSome) (bif Nat.beq (E.vr (o.dst.getD 0)) 2 then clipM j.size a l h m id P else sliceM j.size a l h m P)
            | none => .fail
          | none => .fail
    | none => .fail
  | .fieldAddr t x f => match E.tt t with
    | some i => ev x fun a => fieldAddrM i a f P
    | none => .fail
  | .field t x f => match E.tt t with
    | some i => ev x fun a => fieldM i a f P
    | none => .fail
  | .indexAddr t x y => match ((E.tt t).bind (·.elem)).bind E.tt with
    | some j => ev x fun a => ev y fun b => indexAddrM j.size a b P
    | none => .fail
  | .index t x y => match E.tt t with
    | some i => .test i.isStr (ev x fun a => ev y fun b => indexM a b P)
    | none => .fail
  | .extract x j => ev x fun
    | .tup vs => match vs[j]? with
      | some v => P v
      | none => .fail
    | _ => .fail
  | .call { callee := .value x, args := as, argTypes := _ } => ev x fun v => match v with
    | .fn f caps => .test (Nat.blt f 100000) <| match E.sig (vid f (E.vr (o.dst.getD 0))) with
      | some sg => evO as.toList fun vs => callM sg (E.cl (vid f (E.vr (o.dst.getD 0))) sg) (vs ++ caps) id P
      | none => .fail
    | _ => .fail
  | .makeFunc (.func f) first captured => .test first.isEmpty <| evO captured.toList fun vs => .test (!vs.isEmpty && vs.all fun v => match v with | .box _ 0 => true | _ => false) (P (.fn f vs))
  | .makeMap t none => match (E.tt t).bind (·.mp) with
    | some (_, v) => match E.ty v with
      | some ty => .test (Nat.beq ty.sz 1 && ty.flat) (newO id (.map ty []) (P (.mp id)))
      | none => .fail
    | none => .fail
  | .lookup t x y ok => match (E.tt t).bind (·.mp) with
    | some (k, v) => match (E.tt k).bind (·.ik), E.tt v, E.ty v with
      | some .i64, some i, some ty => ev x fun m => ev y fun z => match m, z with
        | .mp n, .int .i64 z => .getO n fun
          | .map t' es => .test (decide (t' = ty) && i.hasZ && (match i.zero with | .int _ _ => true | .bool _ => true | _ => false) && ((zmatch ty i.zero.cells.toList).map (·.length) == some 0)) <|
              let u := (leaves t' ((mfind es z).getD t'.dflt)).headD .bot
              bif ok then P (.tup [u, .bool (mfind es z).isSome]) else P u
          | _ => .fail
        | _, _ => .fail
      | _, _, _ => .fail
    | none => .fail
  | .mapUpdate t x y u => match (E.tt t).bind (·.mp) with
    | some (k, v) => match (E.tt k).bind (·.ik) with
      | some .i64 => .test o.dst.isNone <| ev x fun m => ev y fun z => ev u fun w => match m, z with
        | .mp n, .int .i64 z => .getO n fun
          | .map t' es => .test (w.cell && Nat.beq t'.sz 1 && t'.flat) <| fromL t' [w] fun a r => match r with
            | [] => .setO n (.map t' (mput es z a)) (.ret ())
            | _ => .fail
          | _ => .fail
        | _, _ => .fail
      | _ => .fail
    | none => .fail
  | .call { callee := .builtin .len, args := as, argTypes := ts } => match (ts[0]?).bind E.tt, as.toList with
    | some i, [x] => ev x fun v => match v with
      | .mp n => .test i.mp.isSome (.getO n fun
        | .map _ es => P (.int .i64 (es.length : Int))
        | _ => .fail)
      | _ => .test (match v with | .str _ => i.isStr | _ => i.elem.isSome) (lenM v fun n => P (.int .i64 n))
    | _, _ => .fail
  | .call { callee := .builtin .append, args := as, argTypes := ts } => match ts.toList, as.toList with
    | [t, t'], [s, x] => match (E.tt t).bind (·.elem) with
      | some e => match E.tt e with
        | some i => .test (i.hasZ && Nat.beq t t' && Nat.ble i.bytes 64 && Nat.blt 0 i.size && Nat.beq i.zero.cells.size i.size) (ev s fun a => ev x fun b => appendM e i.size (E.ty e) a b id P)
        | none => .fail
      | none => .fail
    | _, _ => .fail
  | .call { callee := .builtin .clear, args := as, argTypes := ts } => match (ts[0]?).bind E.tt, as.toList with
    | some i, [x] => match i.elem.bind E.tt with
      | some j => match j.zero with
        | .int k 0 => .test j.hasZ <| ev x fun v => match v with
          | .view n lo hi => .getO n fun
            | .row e (.int k') xs => .test (decide (k' = k) && decide (lo ≤ hi ∧ hi ≤ xs.length)) (.setO n (.row e (.int k') (xs.take lo ++ List.replicate (hi - lo) (0 : Int) ++ xs.drop hi)) (P .bot))
            | _ => .fail
          | _ => .fail
        | _ => .fail
      | none => .fail
    | _, _ => .fail
  | .call { callee := .builtin .min, args := as, argTypes := _ } => match as.toList with
    | [x, y] => ev x fun a => ev y fun b => match a, b with
      | .int k u, .int _ v => P (.int k (if v < u then v else u))
      | _, _ => .fail
    | _ => .fail
  | .call { callee := .builtin .max, args := as, argTypes := _ } => match as.toList with
    | [x, y] => ev x fun a => ev y fun b => match a, b with
      | .int k u, .int _ v => P (.int k (if v > u then v else u))
      | _, _ => .fail
    | _ => .fail
  | _ => .fail

def dstAt (all : Array Oper) (j : Nat) : Option Nat := (all[j]?).bind (·.dst)
/-- With its guard. -/
def opG (E : Env) (nt : Fr) (all : Array Oper) (o : Oper) : MU :=
  match o.guard with
  | none => opM E nt o
  | some (j, want) => match dstAt all j with
    | none => .fail
    | some d => .getS d fun
      | .bool b => bif b == want then opM E nt o else put nt o.dst .und
      | .und => put nt o.dst .und
      | _ => .fail

/-- Is the operation's answer asked by a guard? Then the run parts behind it. -/
def asked (all : Array Oper) (i : Nat) : Bool := all.toList.any fun o => match o.guard with
  | some (j, _) => Nat.beq j i
  | none => false
def part {R : Type} (all : Array Oper) (i : Nat) (o : Oper) (σ : St) (K : St → Option R) : Option R :=
  bif asked all i then
    match o.dst with
    | some d => match σ.sl d with
      | .bool b => bif b then K (σ.setS d (.bool true)) else K (σ.setS d (.bool false))
      | .und => K σ
      | _ => none
    | none => none
  else K σ
def runOps {R : Type} (E : Env) (nt : Fr) (all : Array Oper) : List Oper → Nat → St → List Log → (St → List Log → Option R) → Option R
  | [], _, σ, tr, K => K σ tr
  | o :: r, i, σ, tr, K => (opG E nt all o).run σ ⟨[], []⟩ fun _ σ' l => part all i o σ' fun σ'' => runOps E nt all r (i + 1) σ'' (l :: tr) K

def preds (o : Oper) : List Nat := (o.after.toList.filter fun e => Region.binds .any e).map (·.on)
def mergeN : List Nat → List Nat → List Nat
  | [], l => l
  | n :: r, l => bif hasN l n then mergeN r l else mergeN r (n :: l)
/-- All that must come ahead of each operation. -/
def ancs : List Oper → List (List Nat) → List (List Nat)
  | [], acc => acc
  | o :: r, acc => ancs r (acc ++ [(preds o).foldl (fun s p => mergeN (p :: acc.getD p []) s) []])
def ancOk (ops : List Oper) (an : List (List Nat)) : Bool :=
  (List.range ops.length).all fun i => match ops[i]? with
    | none => false
    | some o => ((preds o).all fun p => Nat.blt p i) &&
        ((an.getD i []).all fun j => (preds o).any fun p => Nat.beq p j || hasN (an.getD p []) j)
def Key.beq (a b : Key) : Bool := (match a.1, b.1 with | some true, some true => true | some false, some false => true | none, none => true | _, _ => false) && Nat.beq a.2 b.2
def meet (a b : List Key) : Bool := a.any fun x => b.any fun y => Key.beq x y
def apart (a b : Log) : Bool := !(meet a.w b.w || meet a.w b.r || meet a.r b.w)
/-- 'tr': the logs, the last operation's first. -/
def drawOk (ops : List Oper) (tr : List Log) : Bool :=
  let an := ancs ops []
  let lg := tr.reverse
  ancOk ops an && Nat.beq lg.length ops.length &&
    (List.range ops.length).all fun i => (List.range i).all fun j => hasN (an.getD i []) j || apart (lg.getD j ⟨[], []⟩) (lg.getD i ⟨[], []⟩)

inductive Ex where
  | normal
  | exit (id : Nat)
  | ret
inductive Ann where
  | leaf
  | seq (j : Option Live) (a b : Ann)
  | cond (a b : Ann)
  | block (a : Ann)
  | loop (L : Live) (a : Ann)
/-- Where ways meet. -/
def jn {T R : Type} (f : T → Option R) (t : T) : Option R := f t
def lfix {T R : Type} : Nat → ((T → Option R) → T → Option R) → T → Option R
  | 0, _, _ => none
  | k + 1, f, t => f (lfix k f) t
def exec {R : Type} (E : Env) (k : Nat) (nt : Fr) : Code → Ann → St → (Ex → St → Option R) → Option R
  | .skip, _, σ, K => K .normal σ
  | .region _ ops draw, _, σ, K => runOps E nt ops ops.toList 0 σ [] fun σ' tr => bif !draw || drawOk ops.toList tr then K .normal σ' else none
  | .seq x y, .seq j a b, σ, K => match j with
    | none => exec E k nt x a σ fun e σ' => match e with
      | .normal => exec E k nt y b σ' K
      | .exit i => K (.exit i) σ'
      | .ret => K .ret σ'
    | some L => exec E k nt x a σ fun e σ' => match e with
      | .normal => (L.take fun t => M.ret t).run σ' ⟨[], []⟩ fun t _ _ => jn (fun t => (L.build nt.fix t).run St.empty ⟨[], []⟩ fun _ σ2 _ => exec E k nt y b σ2 K) t
      | .exit i => K (.exit i) σ'
      | .ret => K .ret σ'
  | .cond c x y, .cond a b, σ, K => (ev c fun v => M.ret v).run σ ⟨[], []⟩ fun v _ _ => match v with
    | .bool t => bif t then exec E k nt x a σ K else exec E k nt y b σ K
    | _ => none
  | .block id c, .block a, σ, K => exec E k nt c a σ fun e σ' => match e with
    | .exit i => bif Nat.beq i id then K .normal σ' else K (.exit i) σ'
    | .normal => K .normal σ'
    | .ret => K .ret σ'
  | .exit id, _, σ, K => K (.exit id) σ
  | .ret, _, σ, K => K .ret σ
  | .loop c, .loop L a, σ, K => (L.take fun t => M.ret t).run σ ⟨[], []⟩ fun t _ _ =>
      lfix k (fun again t => (L.build nt.fix t).run St.empty ⟨[], []⟩ fun _ σ2 _ => exec E k nt c a σ2 fun e σ' => match e with
        | .normal => (L.take fun t => M.ret t).run σ' ⟨[], []⟩ fun t _ _ => again t
        | .exit i => K (.exit i) σ'
        | .ret => K .ret σ') t
  | _, _, _, _ => none

/-- The slots or boxes of the results. -/
def resSV {α : Type} (tt : TypeId → Option TI) : List ResultVar → (List SV → M α) → M α
  | [], K => K []
  | .tmp s :: r, K => .getS s fun v => resSV tt r fun vs => K (v :: vs)
  | .cell s t :: r, K => match tt t with
    | some i => .getS s fun p => match p with
      | .box n o => loadM i (.box n o) fun v => resSV tt r fun vs => K (v :: vs)
      | _ => .fail
    | none => .fail
/-- The slots of what came in and goes back. -/
def boxSlots : List VS → Nat → List Nat
  | [], _ => []
  | s :: ss, n => bif s.back.isSome then n :: boxSlots ss (n + 1) else boxSlots ss (n + 1)
def outM (tt : TypeId → Option TI) (sg : Sig) (rs : List ResultVar) : M sg.R :=
  resSV tt rs fun vs => evs (boxSlots sg.ps 0) fun bs => takeVs false idB sg.rs vs fun x => takeVs false idB (boxes sg.ps) bs fun y => .ret (x, y)
structure FnI where
  fn : Func
  ann : Ann
  ty : TypeId → Option Ty
  vr : Nat → Nat := fun _ => 0
def inM (sg : Sig) (x : sg.A) : MU := .test sg.ok <| buildVs idB sg.ps x liveBase fun svs => puts (List.range sg.ps.length) svs (.ret ())
def runFn (E0 : Env) (k : Nat) (fi : FnI) (sg : Sig) (x : sg.A) : Option sg.R :=
  let E : Env := ⟨E0.tt, fi.ty, E0.eqt, E0.sig, E0.cl, fi.vr⟩
  match fi.fn.body with
  | none => none
  | some c => (inM sg x).run St.empty ⟨[], []⟩ fun _ σ0 _ => exec E k ⟨fi.fn.ntmps, boxSlots sg.ps 0, sg.names⟩ c fi.ann σ0 fun e σ => match e with
    | .exit _ => none
    | .normal => (outM E.tt sg fi.fn.results.toList).run σ ⟨[], []⟩ fun r _ _ => some r
    | .ret => (outM E.tt sg fi.fn.results.toList).run σ ⟨[], []⟩ fun r _ _ => some r
/-- The table of a program: what is run, and what is proved by hand. -/
structure Tab where
  tt : TypeId → Option TI
  eqt : TypeId → Bool
  sig : FuncId → Option Sig
  fns : FuncId → Option FnI
  ext : Nat → (f : FuncId) → (s : Sig) → Option (s.A → Option s.R)
def Tab.call (T : Tab) : Nat → (f : FuncId) → (s : Sig) → s.A → Option s.R
  | 0, _, _, _ => none
  | k + 1, f, s, x => match T.ext k f s with
    | some g => g x
    | none => match T.fns f with
      | some fi => runFn ⟨T.tt, fun _ => none, T.eqt, T.sig, fun f s => T.call k f s, fun _ => 0⟩ k fi s x
      | none => none

end Go.Gx

/-
  Gx, part C: how an abstract state and the model's memory agree, and the one lemma by which they still agree behind a step.
-/
set_option linter.unusedVariables false
set_option linter.unusedSimpArgs false
namespace Go.Gx

def All2 {α β : Type} (R : α → β → Prop) : List α → List β → Prop
  | [], [] => True
  | a :: as, b :: bs => R a b ∧ All2 R as bs
  | _, _ => False
section
variable {α β : Type} {R S : α → β → Prop}
theorem All2.length : ∀ {as : List α} {bs : List β}, All2 R as bs → as.length = bs.length
  | [], [], _ => rfl
  | a :: as, b :: bs, h => by simp [All2.length h.2]
  | [], _ :: _, h => h.elim
  | _ :: _, [], h => h.elim
theorem All2.imp (hi : ∀ a b, R a b → S a b) : ∀ {as : List α} {bs : List β}, All2 R as bs → All2 S as bs
  | [], [], _ => trivial
  | a :: as, b :: bs, h => ⟨hi _ _ h.1, All2.imp hi h.2⟩
  | [], _ :: _, h => h.elim
  | _ :: _, [], h => h.elim
theorem All2.get : ∀ {as : List α} {bs : List β}, All2 R as bs → ∀ {i : Nat} {a : α}, as[i]? = some a → ∃ b, bs[i]? = some b ∧ R a b
  | [], [], _, i, a, ha => by simp at ha
  | x :: as, y :: bs, h, 0, a, ha => by simp at ha; subst ha; exact ⟨y, by simp, h.1⟩
  | x :: as, y :: bs, h, i + 1, a, ha => by
    obtain ⟨b, hb, hr⟩ := All2.get h.2 (i := i) (a := a) (by simpa using ha)
    exact ⟨b, by simpa using hb, hr⟩
  | [], _ :: _, h, _, _, _ => h.elim
  | _ :: _, [], h, _, _, _ => h.elim
theorem All2.append : ∀ {as : List α} {bs : List β} {as' : List α} {bs' : List β}, All2 R as bs → All2 R as' bs' → All2 R (as ++ as') (bs ++ bs')
  | [], [], _, _, _, h' => h'
  | _ :: _, _ :: _, _, _, h, h' => ⟨h.1, All2.append h.2 h'⟩
  | [], _ :: _, _, _, h, _ => h.elim
  | _ :: _, [], _, _, h, _ => h.elim
theorem All2.drop : ∀ (n : Nat) {as : List α} {bs : List β}, All2 R as bs → All2 R (as.drop n) (bs.drop n)
  | 0, _, _, h => by simpa using h
  | n + 1, [], [], h => by simpa using h
  | n + 1, _ :: _, _ :: _, h => by simpa using All2.drop n h.2
  | _ + 1, [], _ :: _, h => h.elim
  | _ + 1, _ :: _, [], h => h.elim
theorem All2.take : ∀ (n : Nat) {as : List α} {bs : List β}, All2 R as bs → All2 R (as.take n) (bs.take n)
  | 0, _, _, h => by simp [All2]
  | n + 1, [], [], h => by simpa using h
  | n + 1, _ :: _, _ :: _, h => by simpa using ⟨h.1, All2.take n h.2⟩
  | _ + 1, [], _ :: _, h => h.elim
  | _ + 1, _ :: _, [], h => h.elim
theorem All2.split : ∀ {as as' : List α} {bs : List β}, All2 R (as ++ as') bs → ∃ b1 b2, bs = b1 ++ b2 ∧ All2 R as b1 ∧ All2 R as' b2
  | [], as', bs, h => ⟨[], bs, rfl, trivial, h⟩
  | a :: as, as', [], h => h.elim
  | a :: as, as', b :: bs, h => by
    obtain ⟨b1, b2, rfl, h1, h2⟩ := All2.split (as := as) h.2
    exact ⟨b :: b1, b2, rfl, ⟨h.1, h1⟩, h2⟩
theorem All2.map_left {γ : Type} (f : γ → α) : ∀ {cs : List γ} {bs : List β}, All2 (fun c b => R (f c) b) cs bs → All2 R (cs.map f) bs
  | [], [], _ => trivial
  | _ :: _, _ :: _, h => ⟨h.1, All2.map_left f h.2⟩
  | [], _ :: _, h => h.elim
  | _ :: _, [], h => h.elim
theorem All2.nil_left {bs : List β} (h : All2 R [] bs) : bs = [] := by cases bs with | nil => rfl | cons => exact h.elim
end

theorem Ty.sz_pos : ∀ t : Ty, 0 < t.sz
  | .int _ => by simp [Ty.sz]
  | .bool => by simp [Ty.sz]
  | .str => by simp [Ty.sz]
  | .sl _ => by simp [Ty.sz]
  | .slo _ => by simp [Ty.sz]
  | .os _ _ => by simp [Ty.sz]
  | .oso _ _ => by simp [Ty.sz]
  | .pair a b => by have := a.sz_pos; simp only [Ty.sz]; omega
/-- A slice whose block nobody else has: of the block's cells the first are the data, and there are not fewer than the slice has room for. -/
def ownsX (w : World) (e : TypeId) (size : Nat) (v : Value) (n : Nat) (xs : List Value) : Prop :=
  xs.length = n * size ∧ ((v = .slice none 0 0 ∧ n = 0) ∨
    ∃ g cap cur, v = .slice (some ⟨g, 0, none⟩) n cap ∧ 0 ≤ g ∧ w.heap[g]? = some (.cells cur e (0, 0)) ∧ n ≤ cap ∧ cap ≤ maxLen ∧ cap * size ≤ cur.size ∧ cur.toList.take (n * size) = xs)
theorem ownsX.of {w : World} {e : TypeId} {size n : Nat} {v : Value} {xs : List Value} (h : w.ownsRow 0 e size v n xs) : ownsX w e size v n xs := by
  refine ⟨h.1, ?_⟩
  rcases h.2 with h | ⟨g, cap, cur, h1, h2, h3, h4, h5, h6, h7⟩
  · exact .inl h
  · exact .inr ⟨g, cap, cur, h1, h2, h3, h4, h5, by omega, h7⟩
theorem ownsX.cells {w : World} {e : TypeId} {size n : Nat} {v : Value} {xs : List Value} (h : ownsX w e size v n xs) {g : Nat} (hg : v.ownBlock = some g) : ∀ j u, xs[j]? = some u → w.cell? ((⟨g, 0, none⟩ : Addr).add j) = some u := by
  intro j u hu
  rcases h.2 with ⟨e1, _⟩ | ⟨g', cap, cur, e1, _, hgg, _, _, _, ht⟩
  · subst e1; simp [Value.ownBlock] at hg
  · subst e1
    have : g' = g := by simpa [Value.ownBlock] using hg
    subst this
    have hadd : (⟨g', 0, none⟩ : Addr).add j = ⟨g', j, none⟩ := by unfold Addr.add; split <;> simp_all
    rw [hadd, cell_of_row w g' j cur e (0, 0) hgg]
    rw [← ht, List.getElem?_take] at hu
    split at hu
    · simpa using hu
    · cases hu
theorem ownsX.lt {w : World} {e : TypeId} {size n : Nat} {v : Value} {xs : List Value} (h : ownsX w e size v n xs) : ∀ k, v.ownBlock = some k → 0 ≤ k ∧ k < w.heap.size := by
  intro k hk
  rcases h.2 with ⟨e1, _⟩ | ⟨g, cap, cur, e1, hb, hg, _⟩
  · subst e1; simp [Value.ownBlock] at hk
  · subst e1
    have : g = k := by simpa [Value.ownBlock] using hk
    subst this
    exact ⟨hb, (Array.getElem?_eq_some_iff.1 hg).1⟩
/-- 'cs' are the cells of the data 'x'; all that it reads further lies in blocks of 'F'. -/
def TC (F : Nat → Prop) (w : World) : (t : Ty) → t.I → List Value → Prop
  | .int k, x, cs => cs = [.int k x]
  | .bool, x, cs => cs = [.bool x]
  | .str, x, cs => cs = [.string x]
  | .sl t, xs, cs => ∃ A c, cs = [.slice A xs.length c] ∧ xs.length ≤ c ∧ c ≤ maxLen ∧
      ∀ (i : Nat) (x : t.I), xs[i]? = some x → ∃ ad ds, A = some ad ∧ F ad.block ∧ TC F w t x ds ∧ ∀ j u, ds[j]? = some u → w.cell? (ad.add (i * t.sz + j)) = some u
  | .slo t, xo, cs => (xo = none → cs = [.slice none 0 0]) ∧ ∃ A c, cs = [.slice A ((xo.getD []).length) c] ∧ (xo.getD []).length ≤ c ∧ c ≤ maxLen ∧
      ∀ (i : Nat) (x : t.I), (xo.getD [])[i]? = some x → ∃ ad ds, A = some ad ∧ F ad.block ∧ TC F w t x ds ∧ ∀ j u, ds[j]? = some u → w.cell? (ad.add (i * t.sz + j)) = some u
  | .os _ _, _, _ => False
  | .oso _ _, _, _ => False
  | .pair a b, x, cs => ∃ c1 c2, cs = c1 ++ c2 ∧ TC F w a x.1 c1 ∧ TC F w b x.2 c2
theorem TC_len {F : Nat → Prop} {w : World} : ∀ {t : Ty} {x : t.I} {cs : List Value}, TC F w t x cs → cs.length = t.sz
  | .int _, _, _, h => by simp only [TC] at h; subst h; rfl
  | .bool, _, _, h => by simp only [TC] at h; subst h; rfl
  | .str, _, _, h => by simp only [TC] at h; subst h; rfl
  | .sl _, _, _, h => by obtain ⟨A, c, rfl, _⟩ := h; rfl
  | .slo _, _, _, h => by obtain ⟨_, A, c, rfl, _⟩ := h; rfl
  | .pair a b, _, _, h => by
    obtain ⟨c1, c2, rfl, h1, h2⟩ := h
    simp only [List.length_append, Ty.sz, TC_len h1, TC_len h2]
theorem cell_same {w w' : World} {a : Addr} (h : w'.heap[a.block]? = w.heap[a.block]?) : w'.cell? a = w.cell? a := by simp [World.cell?, h]
theorem add_block (a : Addr) (n : Nat) : (a.add n).block = a.block := by unfold Addr.add; split <;> rfl
theorem TC_mono {F F' : Nat → Prop} {w w' : World} (hF : ∀ b, F b → F' b) (hw : ∀ b, F b → w'.heap[b]? = w.heap[b]?) :
    ∀ {t : Ty} {x : t.I} {cs : List Value}, TC F w t x cs → TC F' w' t x cs
  | .int _, _, _, h => h
  | .bool, _, _, h => h
  | .str, _, _, h => h
  | .sl t, _, _, h => by
    obtain ⟨A, c, e, hl, hc, hx⟩ := h
    refine ⟨A, c, e, hl, hc, fun i x hi => ?_⟩
    obtain ⟨ad, ds, ha, hb, ht, hcell⟩ := hx i x hi
    refine ⟨ad, ds, ha, hF _ hb, TC_mono hF hw ht, fun j u hj => ?_⟩
    exact (cell_same (by rw [add_block]; exact hw _ hb)).trans (hcell j u hj)
  | .slo t, _, _, h => by
    obtain ⟨h0, A, c, e, hl, hc, hx⟩ := h
    refine ⟨h0, A, c, e, hl, hc, fun i x hi => ?_⟩
    obtain ⟨ad, ds, ha, hb, ht, hcell⟩ := hx i x hi
    refine ⟨ad, ds, ha, hF _ hb, TC_mono hF hw ht, fun j u hj => ?_⟩
    exact (cell_same (by rw [add_block]; exact hw _ hb)).trans (hcell j u hj)
  | .os _ _, _, _, h => h.elim
  | .oso _ _, _, _, h => h.elim
  | .pair a b, _, _, h => by
    obtain ⟨c1, c2, e, h1, h2⟩ := h
    exact ⟨c1, c2, e, TC_mono hF hw h1, TC_mono hF hw h2⟩
/-- Flat data read nothing further. -/
theorem TC_flat {F F' : Nat → Prop} {w w' : World} : ∀ {t : Ty} {x : t.I} {cs : List Value}, t.flat = true → TC F w t x cs → TC F' w' t x cs
  | .int _, _, _, _, h => h
  | .bool, _, _, _, h => h
  | .str, _, _, _, h => h
  | .sl t, _, _, hf, _ => by simp [Ty.flat] at hf
  | .slo t, _, _, hf, _ => by simp [Ty.flat] at hf
  | .os _ _, _, _, hf, _ => by simp [Ty.flat] at hf
  | .oso _ _, _, _, hf, _ => by simp [Ty.flat] at hf
  | .pair a b, _, _, hf, h => by
    simp only [Ty.flat, Bool.and_eq_true] at hf
    obtain ⟨c1, c2, e, h1, h2⟩ := h
    exact ⟨c1, c2, e, TC_flat hf.1 h1, TC_flat hf.2 h2⟩

def RowC (F : Nat → Prop) (w : World) (t : Ty) (xs : List t.I) (cells : List Value) : Prop :=
  ∀ (i : Nat) (x : t.I), xs[i]? = some x → TC F w t x ((cells.drop (i * t.sz)).take t.sz)
def DC (F : Nat → Prop) (w : World) : (t : Ty) → t.I → List Value → List Nat → Prop
  | .os e t, xs, cs, bs => ∃ v cells, cs = [v] ∧ ownsX w e t.sz v xs.length cells ∧ RowC F w t xs cells ∧ bs = v.ownBlock.toList
  | .oso e t, x, cs, bs => ∃ v cells, cs = [v] ∧ ownsX w e t.sz v (Option.getD x []).length cells ∧ RowC F w t (Option.getD x []) cells ∧ bs = v.ownBlock.toList ∧ (x = none → v = .slice none 0 0)
  | .pair a b, x, cs, bs => ∃ c1 c2 b1 b2, cs = c1 ++ c2 ∧ bs = b1 ++ b2 ∧ DC F w a x.1 c1 b1 ∧ DC F w b x.2 c2 b2
  | .int k, x, cs, bs => TC F w (.int k) x cs ∧ bs = []
  | .bool, x, cs, bs => TC F w .bool x cs ∧ bs = []
  | .str, x, cs, bs => TC F w .str x cs ∧ bs = []
  | .sl t, x, cs, bs => TC F w (.sl t) x cs ∧ bs = []
  | .slo t, x, cs, bs => TC F w (.slo t) x cs ∧ bs = []
def DRow (F : Nat → Prop) (w : World) (t : Ty) : List t.I → List Value → List (List Nat) → Prop
  | [], _, bss => bss = []
  | x :: xs, cells, bss => ∃ b bss', bss = b :: bss' ∧ DC F w t x (cells.take t.sz) b ∧ DRow F w t xs (cells.drop t.sz) bss'
theorem ownsRow_slice {w : World} {e : TypeId} {sz n : Nat} {v : Value} {xs : List Value} (h : ownsX w e sz v n xs) : ∃ A c, v = .slice A n c := by
  rcases h.2 with ⟨rfl, rfl⟩ | ⟨g, cap, cur, rfl, _⟩
  · exact ⟨none, 0, rfl⟩
  · exact ⟨_, cap, rfl⟩
theorem ownsRow_same {w w' : World} {e : TypeId} {sz n : Nat} {v : Value} {xs : List Value} (h : ownsX w e sz v n xs) (hb : ∀ k, v.ownBlock = some k → w'.heap[k]? = w.heap[k]?) :
    ownsX w' e sz v n xs := by
  refine ⟨h.1, ?_⟩
  rcases h.2 with hn | ⟨g, cap, cur, rfl, h0, hg, rest⟩
  · exact .inl hn
  · exact .inr ⟨g, cap, cur, rfl, h0, by rw [hb g (by simp [Value.ownBlock])]; exact hg, rest⟩
theorem RowC_mono {F F' : Nat → Prop} {w w' : World} (hF : ∀ b, F b → F' b) (hw : ∀ b, F b → w'.heap[b]? = w.heap[b]?) {t : Ty} {xs : List t.I} {cells : List Value} (h : RowC F w t xs cells) :
    RowC F' w' t xs cells := fun i x hi => TC_mono hF hw (h i x hi)
theorem DC_mono {F F' : Nat → Prop} {w w' : World} (hF : ∀ b, F b → F' b) (hw : ∀ b, F b → w'.heap[b]? = w.heap[b]?) : ∀ {t : Ty} {x : t.I} {cs : List Value} {bs : List Nat}, (∀ b ∈ bs, w'.heap[b]? = w.heap[b]?) → DC F w t x cs bs → DC F' w' t x cs bs
  | .int _, _, _, _, _, h => ⟨TC_mono hF hw h.1, h.2⟩
  | .bool, _, _, _, _, h => ⟨TC_mono hF hw h.1, h.2⟩
  | .str, _, _, _, _, h => ⟨TC_mono hF hw h.1, h.2⟩
  | .sl _, _, _, _, _, h => ⟨TC_mono hF hw h.1, h.2⟩
  | .slo _, _, _, _, _, h => ⟨TC_mono hF hw h.1, h.2⟩
  | .os _ _, _, _, _, hb, h => by
    obtain ⟨v, cells, e1, h1, h2, rfl⟩ := h
    exact ⟨v, cells, e1, ownsRow_same h1 (fun k hk => hb k (by simp [hk])), RowC_mono hF hw h2, rfl⟩
  | .oso _ _, _, _, _, hb, h => by
    obtain ⟨v, cells, e1, h1, h2, rfl, h3⟩ := h
    exact ⟨v, cells, e1, ownsRow_same h1 (fun k hk => hb k (by simp [hk])), RowC_mono hF hw h2, rfl, h3⟩
  | .pair a b, _, _, _, hb, h => by
    obtain ⟨c1, c2, b1, b2, e1, rfl, h1, h2⟩ := h
    exact ⟨c1, c2, b1, b2, e1, rfl, DC_mono hF hw (fun k hk => hb k (by simp [hk])) h1, DC_mono hF hw (fun k hk => hb k (by simp [hk])) h2⟩
theorem DC_len {F : Nat → Prop} {w : World} : ∀ {t : Ty} {x : t.I} {cs : List Value} {bs : List Nat}, DC F w t x cs bs → cs.length = t.sz
  | .int _, _, _, _, h => TC_len h.1
  | .bool, _, _, _, h => TC_len h.1
  | .str, _, _, _, h => TC_len h.1
  | .sl _, _, _, _, h => TC_len h.1
  | .slo _, _, _, _, h => TC_len h.1
  | .os _ _, _, _, _, h => by obtain ⟨v, cells, rfl, _⟩ := h; rfl
  | .oso _ _, _, _, _, h => by obtain ⟨v, cells, rfl, _⟩ := h; rfl
  | .pair a b, _, _, _, h => by
    obtain ⟨c1, c2, b1, b2, rfl, rfl, h1, h2⟩ := h
    simp only [List.length_append, Ty.sz, DC_len h1, DC_len h2]
theorem DC_lt {F : Nat → Prop} {w : World} : ∀ {t : Ty} {x : t.I} {cs : List Value} {bs : List Nat}, DC F w t x cs bs → ∀ b ∈ bs, b < w.heap.size
  | .int _, _, _, _, h, b, hb => by rw [h.2] at hb; simp at hb
  | .bool, _, _, _, h, b, hb => by rw [h.2] at hb; simp at hb
  | .str, _, _, _, h, b, hb => by rw [h.2] at hb; simp at hb
  | .sl _, _, _, _, h, b, hb => by rw [h.2] at hb; simp at hb
  | .slo _, _, _, _, h, b, hb => by rw [h.2] at hb; simp at hb
  | .os _ _, _, _, _, h, b, hb => by
    obtain ⟨v, cells, rfl, h1, _, rfl⟩ := h
    exact (h1.lt b (by simpa using hb)).2
  | .oso _ _, _, _, _, h, b, hb => by
    obtain ⟨v, cells, rfl, h1, _, rfl, _⟩ := h
    exact (h1.lt b (by simpa using hb)).2
  | .pair a b, _, _, _, h, k, hk => by
    obtain ⟨c1, c2, b1, b2, rfl, rfl, h1, h2⟩ := h
    rcases List.mem_append.1 hk with hk | hk
    · exact DC_lt h1 k hk
    · exact DC_lt h2 k hk
/-- As read-only data. -/
theorem DC_TC {F F' : Nat → Prop} {w : World} (hF : ∀ b, F b → F' b) : ∀ {t : Ty} {x : t.I} {cs : List Value} {bs : List Nat}, (∀ b ∈ bs, F' b) → DC F w t x cs bs → TC F' w t.ro (cast t.roI.symm x) cs
  | .int _, _, _, _, _, h => TC_mono hF (fun _ _ => rfl) h.1
  | .bool, _, _, _, _, h => TC_mono hF (fun _ _ => rfl) h.1
  | .str, _, _, _, _, h => TC_mono hF (fun _ _ => rfl) h.1
  | .sl _, _, _, _, _, h => TC_mono hF (fun _ _ => rfl) h.1
  | .slo _, _, _, _, _, h => TC_mono hF (fun _ _ => rfl) h.1
  | .os e t, xs, cs, bs, hb, h => by
    obtain ⟨v, cells, rfl, h1, h2, rfl⟩ := h
    rcases h1.2 with ⟨rfl, h0⟩ | ⟨g, cap, cur, rfl, _, hg, hn, hm, _⟩
    · have : xs = [] := List.eq_nil_of_length_eq_zero h0
      subst this
      exact ⟨none, 0, rfl, Nat.le_refl _, by simp [maxLen], fun i x hi => by simp [cast] at hi⟩
    · refine ⟨_, _, rfl, hn, hm, fun i x hi => ⟨_, _, rfl, hb g (by simp [Value.ownBlock]), TC_mono hF (fun _ _ => rfl) (h2 i x hi), fun j u hj => ?_⟩⟩
      refine h1.cells (g := g) rfl _ u ?_
      rw [List.getElem?_take] at hj
      split at hj
      · rwa [List.getElem?_drop] at hj
      · cases hj
  | .oso e t, x, cs, bs, hb, h => by
    obtain ⟨v, cells, rfl, h1, h2, rfl, h3⟩ := h
    refine ⟨fun e => by rw [h3 e], ?_⟩
    have hx : (cast (Ty.roI (.oso e t)).symm x) = x := rfl
    rw [hx]
    rcases h1.2 with ⟨rfl, h0⟩ | ⟨g, cap, cur, rfl, _, hg, hn, hm, _⟩
    · have : Option.getD x [] = [] := List.eq_nil_of_length_eq_zero h0
      rw [this]
      exact ⟨none, 0, rfl, Nat.le_refl _, by simp [maxLen], fun i x hi => by simp at hi⟩
    · refine ⟨_, _, rfl, hn, hm, fun i x hi => ⟨_, _, rfl, hb g (by simp [Value.ownBlock]), TC_mono hF (fun _ _ => rfl) (h2 i x hi), fun j u hj => ?_⟩⟩
      refine h1.cells (g := g) rfl _ u ?_
      rw [List.getElem?_take] at hj
      split at hj
      · rwa [List.getElem?_drop] at hj
      · cases hj
  | .pair a b, x, cs, bs, hb, h => by
    obtain ⟨c1, c2, b1, b2, rfl, rfl, h1, h2⟩ := h
    have q1 := DC_TC hF (fun k hk => hb k (by simp [hk])) h1
    have q2 := DC_TC hF (fun k hk => hb k (by simp [hk])) h2
    have key : ∀ {A A' B B' : Type} (ha : A = A') (hb : B = B') (hab : (A × B) = (A' × B')) (y : A × B), cast hab y = (cast ha y.1, cast hb y.2) := by
      intro A A' B B' ha hb hab y; subst ha; subst hb; rfl
    have e := key a.roI.symm b.roI.symm (Ty.roI (.pair a b)).symm x
    refine ⟨c1, c2, rfl, ?_, ?_⟩
    · rw [show (cast (Ty.roI (.pair a b)).symm x).1 = cast a.roI.symm x.1 from congrArg Prod.fst e]; exact q1
    · rw [show (cast (Ty.roI (.pair a b)).symm x).2 = cast b.roI.symm x.2 from congrArg Prod.snd e]; exact q2
/-- Data without slices of their own. -/
theorem DC_of_TC {F : Nat → Prop} {w : World} : ∀ {t : Ty} {x : t.I} {cs : List Value}, t.noOs = true → TC F w t x cs → DC F w t x cs []
  | .int _, _, _, _, h => ⟨h, rfl⟩
  | .bool, _, _, _, h => ⟨h, rfl⟩
  | .str, _, _, _, h => ⟨h, rfl⟩
  | .sl _, _, _, _, h => ⟨h, rfl⟩
  | .slo _, _, _, _, h => ⟨h, rfl⟩
  | .os _ _, _, _, hn, _ => by simp [Ty.noOs] at hn
  | .oso _ _, _, _, hn, _ => by simp [Ty.noOs] at hn
  | .pair a b, _, _, hn, h => by
    simp only [Ty.noOs, Bool.and_eq_true] at hn
    obtain ⟨c1, c2, e, h1, h2⟩ := h
    exact ⟨c1, c2, [], [], e, rfl, DC_of_TC hn.1 h1, DC_of_TC hn.2 h2⟩
theorem TC_of_DC {F : Nat → Prop} {w : World} : ∀ {t : Ty} {x : t.I} {cs : List Value} {bs : List Nat}, t.noOs = true → DC F w t x cs bs → TC F w t x cs ∧ bs = []
  | .int _, _, _, _, _, h => h
  | .bool, _, _, _, _, h => h
  | .str, _, _, _, _, h => h
  | .sl _, _, _, _, _, h => h
  | .slo _, _, _, _, _, h => h
  | .os _ _, _, _, _, hn, _ => by simp [Ty.noOs] at hn
  | .oso _ _, _, _, _, hn, _ => by simp [Ty.noOs] at hn
  | .pair a b, _, _, _, hn, h => by
    simp only [Ty.noOs, Bool.and_eq_true] at hn
    obtain ⟨c1, c2, b1, b2, e, rfl, h1, h2⟩ := h
    obtain ⟨k1, rfl⟩ := TC_of_DC hn.1 h1
    obtain ⟨k2, rfl⟩ := TC_of_DC hn.2 h2
    exact ⟨⟨c1, c2, e, k1, k2⟩, rfl⟩
/-- Data that may read nothing but their own blocks. -/
theorem DC_self {F F' : Nat → Prop} {w : World} : ∀ {t : Ty} {x : t.I} {cs : List Value} {bs : List Nat}, t.self = true → DC F w t x cs bs → DC F' w t x cs bs
  | .int _, _, _, _, _, h => h
  | .bool, _, _, _, _, h => h
  | .str, _, _, _, _, h => h
  | .sl _, _, _, _, hn, _ => by simp [Ty.self] at hn
  | .slo _, _, _, _, hn, _ => by simp [Ty.self] at hn
  | .os _ _, _, _, _, hn, h => by
    obtain ⟨v, cells, e1, h1, h2, e2⟩ := h
    exact ⟨v, cells, e1, h1, fun i x hi => TC_flat hn (h2 i x hi), e2⟩
  | .oso _ _, _, _, _, hn, h => by
    obtain ⟨v, cells, e1, h1, h2, e2, h3⟩ := h
    exact ⟨v, cells, e1, h1, fun i x hi => TC_flat hn (h2 i x hi), e2, h3⟩
  | .pair a b, _, _, _, hn, h => by
    simp only [Ty.self, Bool.and_eq_true] at hn
    obtain ⟨c1, c2, b1, b2, e, e2, h1, h2⟩ := h
    exact ⟨c1, c2, b1, b2, e, e2, DC_self hn.1 h1, DC_self hn.2 h2⟩
section
variable {F F' : Nat → Prop} {w w' : World}
theorem DRow_len {t : Ty} : ∀ {xs : List t.I} {cells : List Value} {bss : List (List Nat)}, DRow F w t xs cells bss → bss.length = xs.length
  | [], _, _, h => by rw [show _ = [] from h]; rfl
  | _ :: _, _, _, h => by obtain ⟨b, bss', rfl, _, h⟩ := h; simp [DRow_len h]
theorem DRow_get {t : Ty} : ∀ {xs : List t.I} {cells : List Value} {bss : List (List Nat)}, DRow F w t xs cells bss → ∀ (i : Nat) (x : t.I), xs[i]? = some x → ∃ b, bss[i]? = some b ∧ DC F w t x ((cells.drop (i * t.sz)).take t.sz) b
  | [], _, _, _, i, x, hi => by simp at hi
  | y :: xs, cells, _, h, 0, x, hi => by
    obtain ⟨b, bss', rfl, h1, h2⟩ := h
    simp only [List.getElem?_cons_zero, Option.some.injEq] at hi
    subst hi
    exact ⟨b, by simp, by simpa using h1⟩
  | y :: xs, cells, _, h, i + 1, x, hi => by
    obtain ⟨b, bss', rfl, h1, h2⟩ := h
    obtain ⟨b', e, h3⟩ := DRow_get h2 i x (by simpa using hi)
    refine ⟨b', by simpa using e, ?_⟩
    rwa [List.drop_drop, show t.sz + i * t.sz = (i + 1) * t.sz by rw [Nat.succ_mul]; omega] at h3
theorem DRow_of {t : Ty} : ∀ {xs : List t.I} {cells : List Value} {bss : List (List Nat)}, bss.length = xs.length → (∀ (i : Nat) (x : t.I) (b : List Nat), xs[i]? = some x → bss[i]? = some b → DC F w t x ((cells.drop (i * t.sz)).take t.sz) b) → DRow F w t xs cells bss
  | [], _, bss, hl, _ => List.eq_nil_of_length_eq_zero hl
  | x :: xs, cells, [], hl, _ => by simp at hl
  | x :: xs, cells, b :: bss, hl, h => by
    refine ⟨b, bss, rfl, by simpa using h 0 x b (by simp) (by simp), DRow_of (by simpa using hl) fun i y b' hi hb => ?_⟩
    have := h (i + 1) y b' (by simpa using hi) (by simpa using hb)
    rwa [List.drop_drop, show t.sz + i * t.sz = (i + 1) * t.sz by rw [Nat.succ_mul]; omega]
theorem DRow_mono (hF : ∀ b, F b → F' b) (hw : ∀ b, F b → w'.heap[b]? = w.heap[b]?) {t : Ty} {xs : List t.I} {cells : List Value} {bss : List (List Nat)} (hb : ∀ b ∈ bss.flatten, w'.heap[b]? = w.heap[b]?) (h : DRow F w t xs cells bss) : DRow F' w' t xs cells bss :=
  DRow_of (DRow_len h) fun i x b hi hbi => by
    obtain ⟨b', e, h1⟩ := DRow_get h i x hi
    rw [hbi] at e; cases e
    exact DC_mono hF hw (fun k hk => hb k (List.mem_flatten.2 ⟨b, List.mem_of_getElem? hbi, hk⟩)) h1
theorem DRow_self {t : Ty} (ht : t.self = true) {xs : List t.I} {cells : List Value} {bss : List (List Nat)} (h : DRow F w t xs cells bss) : DRow F' w t xs cells bss :=
  DRow_of (DRow_len h) fun i x b hi hbi => by
    obtain ⟨b', e, h1⟩ := DRow_get h i x hi
    rw [hbi] at e; cases e
    exact DC_self ht h1
theorem DRow_lt {t : Ty} {xs : List t.I} {cells : List Value} {bss : List (List Nat)} (h : DRow F w t xs cells bss) : ∀ b ∈ bss.flatten, b < w.heap.size := by
  intro b hb
  obtain ⟨l, hl, hb⟩ := List.mem_flatten.1 hb
  obtain ⟨i, hi⟩ := List.getElem?_of_mem hl
  have hlt : i < xs.length := by rw [← DRow_len h]; exact (List.getElem?_eq_some_iff.1 hi).1
  obtain ⟨b', e, h1⟩ := DRow_get h i xs[i] (List.getElem?_eq_getElem hlt)
  rw [hi] at e; cases e
  exact DC_lt h1 b hb
/-- Rows without slices of their own. -/
theorem DRow_of_RowC {t : Ty} (ht : t.noOs = true) {xs : List t.I} {cells : List Value} (h : RowC F w t xs cells) : DRow F w t xs cells (xs.map fun _ => []) :=
  DRow_of (by simp) fun i x b hi hb => by
    rw [List.getElem?_map, hi] at hb
    cases hb
    exact DC_of_TC ht (h i x hi)
theorem flatten_nils {α β : Type} (xs : List α) : (xs.map fun _ => ([] : List β)).flatten = [] := by
  induction xs with
  | nil => rfl
  | cons x xs ih => simp
theorem RowC_of_DRow {t : Ty} (ht : t.noOs = true) {xs : List t.I} {cells : List Value} {bss : List (List Nat)} (h : DRow F w t xs cells bss) : RowC F w t xs cells ∧ bss.flatten = [] := by
  refine ⟨fun i x hi => ?_, ?_⟩
  · obtain ⟨b, _, h1⟩ := DRow_get h i x hi
    exact (TC_of_DC ht h1).1
  · rw [List.flatten_eq_nil_iff]
    intro l hl
    obtain ⟨i, hi⟩ := List.getElem?_of_mem hl
    have hlt : i < xs.length := by rw [← DRow_len h]; exact (List.getElem?_eq_some_iff.1 hi).1
    obtain ⟨b', e, h1⟩ := DRow_get h i xs[i] (List.getElem?_eq_getElem hlt)
    rw [hi] at e; cases e
    exact (TC_of_DC ht h1).2
/-- A row as read-only data. -/
theorem RowC_ro (hF : ∀ b, F b → F' b) {t : Ty} {xs : List t.I} {cells : List Value} {bss : List (List Nat)} (hb : ∀ b ∈ bss.flatten, F' b) (h : DRow F w t xs cells bss) : RowC F' w t.ro (roL t xs) cells := by
  have key : ∀ {A B : Type} (e : A = B) (l : List A) (i : Nat) (y : B), (cast (congrArg List e) l)[i]? = some y → ∃ x, l[i]? = some x ∧ y = cast e x := by
    intro A B e l i y hi; subst e; exact ⟨y, hi, rfl⟩
  intro i y hi
  obtain ⟨x, hx, rfl⟩ := key t.roI.symm xs i y hi
  obtain ⟨b, e, h1⟩ := DRow_get h i x hx
  rw [t.ro_sz]
  exact DC_TC hF (fun k hk => hb k (List.mem_flatten.2 ⟨b, List.mem_of_getElem? e, hk⟩)) h1
theorem roL_len (t : Ty) (xs : List t.I) : (roL t xs).length = xs.length := by
  have key : ∀ {A B : Type} (e : A = B) (l : List A), (cast (congrArg List e) l).length = l.length := by
    intro A B e l; subst e; rfl
  exact key t.roI.symm xs
end

/-- What is not told in a state: headers of rows, blocks of boxes, sizes of elements, blocks that an object owns, and names that last for a whole function. -/
structure Rho where
  hd : Nat → Value
  bx : Nat → Nat
  es : Nat → Nat
  bk : Nat → List Nat
  fx : Nat → Prop
/-- The same of an object. -/
def Rho.same (ρ ρ' : Rho) (n m : Nat) : Prop := ρ'.hd m = ρ.hd n ∧ ρ'.bx m = ρ.bx n ∧ ρ'.es m = ρ.es n
theorem Rho.same_refl (ρ : Rho) (n : Nat) : ρ.same ρ n n := ⟨rfl, rfl, rfl⟩
theorem Rho.same_trans {ρ ρ1 ρ2 : Rho} {n m k : Nat} (h : ρ.same ρ1 n m) (h' : ρ1.same ρ2 m k) : ρ.same ρ2 n k := ⟨h'.1.trans h.1, h'.2.1.trans h.2.1, h'.2.2.trans h.2.2⟩
/-- The value of a part of a row. -/
def SubV (h : Value) (sz lo hi : Nat) (v : Value) : Prop :=
  ∃ A l c A', h = .slice A l c ∧ lo ≤ hi ∧ hi ≤ l ∧ v = .slice A' (hi - lo) (c - lo) ∧ (c ≠ lo → A' = A.map (·.add (lo * sz))) ∧ (lo = 0 → A' = A)
/-- A pointer into a row. -/
def ElV (ρ : Rho) (n i off : Nat) (v : Value) : Prop := ∃ b l c, ρ.hd n = .slice (some ⟨b, 0, none⟩) l c ∧ v = .pointer (some ⟨b, i * ρ.es n + off, none⟩)
def CapR (ρ : Rho) (lv : Nat → Prop) : List SV → List Value → Prop
  | [], [] => True
  | .box n 0 :: vs, u :: us => lv n ∧ u = .pointer (some ⟨ρ.bx n, 0, none⟩) ∧ CapR ρ lv vs us
  | _, _ => False
def LR0 (ρ : Rho) (F : Nat → Prop) (w : World) (lv : Nat → Prop) : SV → Value → Prop
  | .bot, _ => True
  | .und, v => v = undef
  | .int k z, v => v = .int k z
  | .bool b, v => v = .bool b
  | .str s, v => v = .string s
  | .nil, v => v = .slice none 0 0
  | .ro t xs, v => TC F w (.sl t) xs [v]
  | .roo t xo, v => TC F w (.slo t) xo [v]
  | .own n, v => lv n ∧ v = ρ.hd n ∧ ∃ A l c, v = .slice A l c
  | .view n lo hi, v => lv n ∧ SubV (ρ.hd n) (ρ.es n) lo hi v
  | .box n off, v => lv n ∧ v = .pointer (some ⟨ρ.bx n, off, none⟩)
  | .el n i off, v => lv n ∧ ElV ρ n i off v
  | .fn f cs, v => ∃ us : List Value, v = .func (.func f) #[] us.toArray ∧ CapR ρ lv cs us
  | .mp n, v => lv n ∧ v = .map (some (ρ.bx n))
  | .arr n, v => lv n ∧ ∃ b l c, ρ.hd n = .slice (some ⟨b, 0, none⟩) l c ∧ v = .pointer (some ⟨b, 0, none⟩)
  | .elo n off none, v => lv n ∧ v = .pointer none
  | .elo n off (some i), v => lv n ∧ ElV ρ n i off v
  | .nilp, v => v = .pointer none
  | .any, v => v.oneCell' = true
  | .ln n, v => ∃ A c, v = .slice A n c
  | .nlo b, v => (∃ A n c, v = .slice A n c) ∧ (b = true → v = .slice none 0 0)
  | .sk t xs b, v => TC F w (.sl t) xs [v] ∧ ∃ A n c, v = .slice A n c ∧ A.isNone = b
  | _, _ => False
def LR1 (ρ : Rho) (F : Nat → Prop) (w : World) (lv : Nat → Prop) : SV → Value → Prop
  | .agg vs, v => ∃ us, v = .agg us ∧ All2 (LR0 ρ F w lv) vs us.toList
  | .rp vs, v => ∃ a, v = .pointer (some a) ∧ ∀ j sv, vs[j]? = some sv → F a.block ∧ ∃ u, w.cell? (a.add j) = some u ∧ LR0 ρ F w lv sv u
  | sv, v => LR0 ρ F w lv sv v
def VR (ρ : Rho) (F : Nat → Prop) (w : World) (lv : Nat → Prop) : SV → Value → Prop
  | .tup vs, v => ∃ us, v = .tuple us ∧ All2 (LR1 ρ F w lv) vs us.toList
  | sv, v => LR1 ρ F w lv sv v
section
variable {ρ ρ' : Rho} {F F' : Nat → Prop} {w w' : World} {lv lv' : Nat → Prop}
theorem ElV_same {n i off : Nat} {v : Value} (h : ρ.same ρ' n n) (hv : ElV ρ n i off v) : ElV ρ' n i off v := by
  unfold ElV; rw [h.1, h.2.2]; exact hv
theorem CapR_mono (hlv : ∀ n, lv n → lv' n) (hρ : ∀ n, lv n → ρ.same ρ' n n) : ∀ {cs : List SV} {us : List Value}, CapR ρ lv cs us → CapR ρ' lv' cs us
  | [], [], _ => trivial
  | c :: cs, [], h => by cases c <;> first | exact h.elim | (rename_i n off; cases off <;> exact h.elim)
  | [], u :: us, h => h.elim
  | c :: cs, u :: us, h => by
    cases c with
    | box n off =>
      cases off with
      | zero =>
        obtain ⟨h1, h2, h3⟩ := h
        exact ⟨hlv _ h1, by rw [(hρ n h1).2.1]; exact h2, CapR_mono hlv hρ h3⟩
      | succ => exact h.elim
    | _ => exact h.elim
theorem LR0_mono (hlv : ∀ n, lv n → lv' n) (hρ : ∀ n, lv n → ρ.same ρ' n n) (hF : ∀ b, F b → F' b) (hw : ∀ b, F b → w'.heap[b]? = w.heap[b]?) :
    ∀ {sv : SV} {v : Value}, LR0 ρ F w lv sv v → LR0 ρ' F' w' lv' sv v
  | .bot, _, _ => trivial
  | .und, _, h => h
  | .int _ _, _, h => h
  | .bool _, _, h => h
  | .str _, _, h => h
  | .nil, _, h => h
  | .ro _ _, _, h => TC_mono hF hw h
  | .roo _ _, _, h => TC_mono hF hw h
  | .own n, _, h => ⟨hlv _ h.1, by rw [(hρ n h.1).1]; exact h.2.1, h.2.2⟩
  | .view n _ _, _, h => ⟨hlv _ h.1, by rw [(hρ n h.1).1, (hρ n h.1).2.2]; exact h.2⟩
  | .box n _, _, h => ⟨hlv _ h.1, by rw [(hρ n h.1).2.1]; exact h.2⟩
  | .el n _ _, _, h => ⟨hlv _ h.1, ElV_same (hρ n h.1) h.2⟩
  | .fn _ _, _, h => by obtain ⟨us, e, h⟩ := h; exact ⟨us, e, CapR_mono hlv hρ h⟩
  | .mp n, _, h => ⟨hlv _ h.1, by rw [(hρ n h.1).2.1]; exact h.2⟩
  | .arr n, _, h => ⟨hlv _ h.1, by rw [(hρ n h.1).1]; exact h.2⟩
  | .elo n _ none, _, h => ⟨hlv _ h.1, h.2⟩
  | .elo n _ (some _), _, h => ⟨hlv _ h.1, ElV_same (hρ n h.1) h.2⟩
  | .nilp, _, h => h
  | .sk _ _ _, _, h => ⟨TC_mono hF hw h.1, h.2⟩
  | .any, _, h => h
  | .ln _, _, h => h
  | .nlo _, _, h => h
  | .agg _, _, h => h.elim
  | .tup _, _, h => h.elim
  | .rp _, _, h => h.elim
theorem LR1_eq {sv : SV} {v : Value} (h1 : ∀ vs, sv ≠ .agg vs) (h2 : ∀ vs, sv ≠ .rp vs) : LR1 ρ F w lv sv v = LR0 ρ F w lv sv v := by
  cases sv <;> first | rfl | exact absurd rfl (h1 _) | exact absurd rfl (h2 _)
theorem VR_eq {sv : SV} {v : Value} (h1 : ∀ vs, sv ≠ .tup vs) : VR ρ F w lv sv v = LR1 ρ F w lv sv v := by
  cases sv <;> first | rfl | exact absurd rfl (h1 _)
theorem LR1_mono (hlv : ∀ n, lv n → lv' n) (hρ : ∀ n, lv n → ρ.same ρ' n n) (hF : ∀ b, F b → F' b) (hw : ∀ b, F b → w'.heap[b]? = w.heap[b]?)
    {sv : SV} {v : Value} (h : LR1 ρ F w lv sv v) : LR1 ρ' F' w' lv' sv v := by
  cases sv with
  | agg vs => obtain ⟨us, e, h⟩ := h; exact ⟨us, e, h.imp fun _ _ h => LR0_mono hlv hρ hF hw h⟩
  | rp vs =>
    obtain ⟨a, e, h⟩ := h
    refine ⟨a, e, fun j sv hj => ?_⟩
    obtain ⟨hb, u, hu, hr⟩ := h j sv hj
    exact ⟨hF _ hb, u, (cell_same (by rw [add_block]; exact hw _ hb)).trans hu, LR0_mono hlv hρ hF hw hr⟩
  | _ => rw [LR1_eq (by simp) (by simp)] at h ⊢; exact LR0_mono hlv hρ hF hw h
theorem VR_mono (hlv : ∀ n, lv n → lv' n) (hρ : ∀ n, lv n → ρ.same ρ' n n) (hF : ∀ b, F b → F' b) (hw : ∀ b, F b → w'.heap[b]? = w.heap[b]?)
    {sv : SV} {v : Value} (h : VR ρ F w lv sv v) : VR ρ' F' w' lv' sv v := by
  cases sv with
  | tup vs => obtain ⟨us, e, h⟩ := h; exact ⟨us, e, h.imp fun _ _ h => LR1_mono hlv hρ hF hw h⟩
  | _ => rw [VR_eq (by simp)] at h ⊢; exact LR1_mono hlv hρ hF hw h
theorem VR_of_LR0 {sv : SV} {v : Value} (h : LR0 ρ F w lv sv v) : VR ρ F w lv sv v := by
  cases sv <;> first | exact h | exact h.elim
theorem LR1_of_LR0 {sv : SV} {v : Value} (h : LR0 ρ F w lv sv v) : LR1 ρ F w lv sv v := by
  cases sv <;> first | exact h | exact h.elim
theorem VR_of_LR1 {sv : SV} {v : Value} (h : LR1 ρ F w lv sv v) : VR ρ F w lv sv v := by
  cases sv <;> first | exact h | exact h.elim
theorem LR0_of_VR {sv : SV} {v : Value} (hc : sv.cell = true) (h : VR ρ F w lv sv v) : LR0 ρ F w lv sv v := by
  cases sv <;> first | exact h | (simp [SV.cell] at hc)
theorem TC_leaves : ∀ {t : Ty} {x : t.I} {cs : List Value}, TC F w t x cs → All2 (LR0 ρ F w lv) (leaves t x) cs
  | .int _, _, _, h => by simp only [TC] at h; subst h; exact ⟨rfl, trivial⟩
  | .bool, _, _, h => by simp only [TC] at h; subst h; exact ⟨rfl, trivial⟩
  | .str, _, _, h => by simp only [TC] at h; subst h; exact ⟨rfl, trivial⟩
  | .sl t, xs, _, h => by
    have h' := h
    obtain ⟨A, c, rfl, _⟩ := h'
    exact ⟨h, trivial⟩
  | .slo t, xo, _, h => by
    have h' := h
    obtain ⟨_, A, c, rfl, _⟩ := h'
    exact ⟨h, trivial⟩
  | .os _ _, _, _, h => h.elim
  | .oso _ _, _, _, h => h.elim
  | .pair a b, _, _, h => by
    obtain ⟨c1, c2, rfl, h1, h2⟩ := h
    exact (TC_leaves h1).append (TC_leaves h2)
theorem DC_leaves : ∀ {t : Ty} {x : t.I} {cs : List Value} {bs : List Nat}, DC F w t x cs bs → All2 (LR0 ρ F w lv) (leaves t x) cs
  | .int _, _, _, _, h => TC_leaves h.1
  | .bool, _, _, _, h => TC_leaves h.1
  | .str, _, _, _, h => TC_leaves h.1
  | .sl _, _, _, _, h => TC_leaves h.1
  | .slo _, _, _, _, h => TC_leaves h.1
  | .os _ _, _, _, _, h => by obtain ⟨v, cells, rfl, ho, _⟩ := h; obtain ⟨A, c, rfl⟩ := ownsRow_slice ho; exact ⟨rfl, trivial⟩
  | .oso _ _, _, _, _, h => by
    obtain ⟨v, cells, rfl, ho, _, _, h3⟩ := h
    obtain ⟨A, c, e⟩ := ownsRow_slice ho
    exact ⟨⟨⟨A, _, c, e⟩, fun hb => h3 (Option.isNone_iff_eq_none.1 hb)⟩, trivial⟩
  | .pair a b, _, _, _, h => by
    obtain ⟨c1, c2, b1, b2, rfl, rfl, h1, h2⟩ := h
    exact (DC_leaves h1).append (DC_leaves h2)
theorem leaves_len : ∀ (t : Ty) (x : t.I), (leaves t x).length = t.sz
  | .int _, _ => rfl
  | .bool, _ => rfl
  | .str, _ => rfl
  | .sl _, _ => rfl
  | .slo _, _ => rfl
  | .os _ _, _ => rfl
  | .oso _ _, _ => rfl
  | .pair a b, x => by simp only [leaves, List.length_append, Ty.sz, leaves_len a, leaves_len b]
theorem leaves_cell : ∀ {t : Ty} (x : t.I), t.noOs = true → (leaves t x).all SV.cell = true
  | .int _, _, _ => rfl
  | .bool, _, _ => rfl
  | .str, _, _ => rfl
  | .sl _, _, _ => rfl
  | .slo _, _, _ => rfl
  | .os _ _, _, h => by simp [Ty.noOs] at h
  | .oso _ _, _, h => by simp [Ty.noOs] at h
  | .pair a b, x, h => by
    simp only [Ty.noOs, Bool.and_eq_true] at h
    simp [leaves, List.all_append, leaves_cell x.1 h.1, leaves_cell x.2 h.2]
theorem LR0_leafOf {v : Value} : LR0 ρ F w lv (leafOf v) v := by
  unfold leafOf
  split <;> first | exact rfl | exact trivial | exact ⟨[], rfl, trivial⟩
theorem VR_svOf {v : Value} : VR ρ F w lv (svOf v) v := by
  unfold svOf
  split
  · rename_i cs
    refine ⟨cs, rfl, All2.map_left leafOf ?_⟩
    generalize cs.toList = l
    induction l with
    | nil => trivial
    | cons a l ih => exact ⟨LR0_leafOf, ih⟩
  · exact VR_of_LR0 LR0_leafOf
theorem One_of_LR0 {sv : SV} {v : Value} (hc : sv.cell = true) (h : LR0 ρ F w lv sv v) : v.oneCell' = true ∧ v.cells = #[v] := by
  cases sv with
  | own n => obtain ⟨_, _, A, l, c, e⟩ := h; rw [e]; exact ⟨rfl, rfl⟩
  | int => rw [h]; exact ⟨rfl, rfl⟩
  | bool => rw [h]; exact ⟨rfl, rfl⟩
  | str => rw [h]; exact ⟨rfl, rfl⟩
  | nil => rw [h]; exact ⟨rfl, rfl⟩
  | nilp => rw [h]; exact ⟨rfl, rfl⟩
  | any =>
    have h : v.oneCell' = true := h
    refine ⟨h, ?_⟩
    cases v <;> first | rfl | (simp [Value.oneCell'] at h)
  | mp => rw [h.2]; exact ⟨rfl, rfl⟩
  | ln n => obtain ⟨A, c, e⟩ := h; rw [e]; exact ⟨rfl, rfl⟩
  | nlo b => obtain ⟨⟨A, n, c, e⟩, _⟩ := h; rw [e]; exact ⟨rfl, rfl⟩
  | ro t xs => obtain ⟨A, c, e, _⟩ := h; simp only [List.cons.injEq, and_true] at e; rw [e]; exact ⟨rfl, rfl⟩
  | roo t xs => obtain ⟨_, A, c, e, _⟩ := h; simp only [List.cons.injEq, and_true] at e; rw [e]; exact ⟨rfl, rfl⟩
  | view n lo hi => obtain ⟨A, l, c, A', _, _, _, e, _⟩ := h.2; rw [e]; exact ⟨rfl, rfl⟩
  | box n off => rw [h.2]; exact ⟨rfl, rfl⟩
  | fn f cs => obtain ⟨us, e, _⟩ := h; rw [e]; exact ⟨rfl, rfl⟩
  | _ => simp [SV.cell] at hc
/-- The cells of a value that may lie in cells. -/
theorem cells_of {sv : SV} {v : Value} (hc : sv.cellsOf.all SV.cell = true) (h : VR ρ F w lv sv v) : All2 (LR0 ρ F w lv) sv.cellsOf v.cells.toList ∧ ∀ u ∈ v.cells.toList, u.oneCell' = true := by
  cases sv with
  | agg vs =>
    obtain ⟨us, rfl, hu⟩ := h
    refine ⟨hu, ?_⟩
    simp only [Value.cells]
    simp only [SV.cellsOf] at hc
    generalize us.toList = l at hu
    induction vs generalizing l with
    | nil => rw [hu.nil_left]; simp
    | cons x xs ih =>
      cases l with
      | nil => exact hu.elim
      | cons y ys =>
        simp only [List.all_cons, Bool.and_eq_true] at hc
        intro u hm
        rcases List.mem_cons.1 hm with rfl | hm
        · exact (One_of_LR0 hc.1 hu.1).1
        · exact ih hc.2 ys hu.2 u hm
  | tup vs => simp [SV.cellsOf, SV.cell] at hc
  | rp vs => simp [SV.cellsOf, SV.cell] at hc
  | _ =>
    simp only [SV.cellsOf, List.all_cons, List.all_nil, Bool.and_true] at hc
    have h0 := LR0_of_VR hc h
    obtain ⟨h1, h2⟩ := One_of_LR0 hc h0
    rw [h2]
    exact ⟨⟨h0, trivial⟩, by simpa using h1⟩
end

/-- A row with its data; 'bs': the blocks that it owns. -/
def OwnR (F : Nat → Prop) (w : World) (e : TypeId) (t : Ty) (xs : List t.I) (v : Value) (bs : List Nat) : Prop :=
  ∃ cells bss, ownsX w e t.sz v xs.length cells ∧ DRow F w t xs cells bss ∧ bs = v.ownBlock.toList ++ bss.flatten
/-- A row of which one slice was taken out: in its place stands the header of the row 'h'. -/
def HolR (F : Nat → Prop) (w : World) (e : TypeId) (t : Ty) (xs : List t.I) (i off : Nat) (h : Value) (v : Value) (bs : List Nat) : Prop :=
  i < xs.length ∧ (∃ A l c, h = .slice A l c) ∧ ∃ e' t', t.osAt off = some (e', t') ∧ ∃ cells bss, ownsX w e t.sz v xs.length cells ∧ cells[i * t.sz + off]? = some h ∧
    DRow F w t (putBack xs i off ([] : List t'.I)) (cells.set (i * t.sz + off) (.slice none 0 0)) bss ∧ bs = v.ownBlock.toList ++ bss.flatten
def MapR (F : Nat → Prop) (w : World) (t : Ty) : List (Int × t.I) → List MapEntry → Prop := All2 fun p e => e.key = .int .i64 p.1 ∧ TC F w t p.2 [e.val]
def MapB (F : Nat → Prop) (w : World) (t : Ty) (es : List (Int × t.I)) (r : Nat) : Prop := t.flat = true ∧ t.sz = 1 ∧ ∃ ents clock, w.heap[r]? = some (.map ents clock) ∧ MapR F w t es ents.toList
def OR (ρ : Rho) (F : Nat → Prop) (w : World) (lv : Nat → Prop) (n : Nat) : Obj → Prop
  | .absent => True
  | .dead => True
  | .row e t xs => ρ.es n = t.sz ∧ OwnR F w e t xs (ρ.hd n) (ρ.bk n) ∧ (ρ.bk n).Nodup
  | .hrow e t xs i off id => ρ.es n = t.sz ∧ lv id ∧ HolR F w e t xs i off (ρ.hd id) (ρ.hd n) (ρ.bk n) ∧ (ρ.bk n).Nodup
  | .mrow e t x => match x with
    | none => True
    | some xs => ρ.es n = t.sz ∧ OwnR F w e t xs (ρ.hd n) (ρ.bk n) ∧ (ρ.bk n).Nodup
  | .moved id fl => lv id ∧ (fl = true → ρ.hd n = ρ.hd id)
  | .map t es => MapB F w t es (ρ.bx n) ∧ ρ.bk n = [ρ.bx n]
  | .box e vs => ρ.bk n = [ρ.bx n] ∧ ∃ us, w.heap[ρ.bx n]? = some (.cells us e (0, 0)) ∧ All2 (LR0 ρ F w lv) vs us.toList
def Obj.held : Obj → Bool
  | .row _ _ _ | .hrow _ _ _ _ _ _ | .map _ _ | .box _ _ => true
  | .mrow _ _ x => x.isSome
  | _ => false
def blk (ρ : Rho) (n : Nat) (o : Obj) (b : Nat) : Prop := o.held = true ∧ b ∈ ρ.bk n
def St.live (σ : St) (n : Nat) : Prop := σ.ob n ≠ .absent
theorem OwnR_mono {F F' : Nat → Prop} {w w' : World} (hF : ∀ b, F b → F' b) (hw : ∀ b, F b → w'.heap[b]? = w.heap[b]?) {e : TypeId} {t : Ty} {xs : List t.I} {v : Value} {bs : List Nat} (hb : ∀ b ∈ bs, w'.heap[b]? = w.heap[b]?) (h : OwnR F w e t xs v bs) : OwnR F' w' e t xs v bs := by
  obtain ⟨cells, bss, h1, h2, rfl⟩ := h
  exact ⟨cells, bss, ownsRow_same h1 (fun k hk => hb k (by simp [hk])), DRow_mono hF hw (fun b hm => hb b (List.mem_append_right _ hm)) h2, rfl⟩
theorem HolR_mono {F F' : Nat → Prop} {w w' : World} (hF : ∀ b, F b → F' b) (hw : ∀ b, F b → w'.heap[b]? = w.heap[b]?) {e : TypeId} {t : Ty} {xs : List t.I} {i off : Nat} {h v : Value} {bs : List Nat} (hb : ∀ b ∈ bs, w'.heap[b]? = w.heap[b]?) (hh : HolR F w e t xs i off h v bs) : HolR F' w' e t xs i off h v bs := by
  obtain ⟨hi, hsl, e', t', ho, cells, bss, h1, h2, h3, rfl⟩ := hh
  exact ⟨hi, hsl, e', t', ho, cells, bss, ownsRow_same h1 (fun k hk => hb k (by simp [hk])), h2, DRow_mono hF hw (fun b hm => hb b (List.mem_append_right _ hm)) h3, rfl⟩
theorem MapB_mono {F F' : Nat → Prop} {w w' : World} {t : Ty} {es : List (Int × t.I)} {r : Nat} (hr : w'.heap[r]? = w.heap[r]?) (h : MapB F w t es r) : MapB F' w' t es r := by
  obtain ⟨hf, hz, ents, clock, h1, h2⟩ := h
  exact ⟨hf, hz, ents, clock, by rw [hr]; exact h1, All2.imp (fun p e hp => ⟨hp.1, TC_flat hf hp.2⟩) h2⟩
theorem OwnR_lt {F : Nat → Prop} {w : World} {e : TypeId} {t : Ty} {xs : List t.I} {v : Value} {bs : List Nat} (h : OwnR F w e t xs v bs) : ∀ b ∈ bs, b < w.heap.size := by
  obtain ⟨cells, bss, h1, h2, rfl⟩ := h
  intro b hb
  rcases List.mem_append.1 hb with hb | hb
  · exact (h1.lt b (by simpa using hb)).2
  · exact DRow_lt h2 b hb
theorem HolR_lt {F : Nat → Prop} {w : World} {e : TypeId} {t : Ty} {xs : List t.I} {i off : Nat} {h v : Value} {bs : List Nat} (hh : HolR F w e t xs i off h v bs) : ∀ b ∈ bs, b < w.heap.size := by
  obtain ⟨hi, hsl, e', t', ho, cells, bss, h1, h2, h3, rfl⟩ := hh
  intro b hb
  rcases List.mem_append.1 hb with hb | hb
  · exact (h1.lt b (by simpa using hb)).2
  · exact DRow_lt h3 b hb
theorem OwnR_slice {F : Nat → Prop} {w : World} {e : TypeId} {t : Ty} {xs : List t.I} {v : Value} {bs : List Nat} (h : OwnR F w e t xs v bs) : ∃ A c, v = .slice A xs.length c := by
  obtain ⟨cells, bss, h1, _⟩ := h; exact ownsRow_slice h1
theorem lt_of_heap {w : World} {b : Nat} {o : Go.Obj} (h : w.heap[b]? = some o) : b < w.heap.size := (Array.getElem?_eq_some_iff.1 h).1
theorem OR_mono {ρ ρ' : Rho} {F F' : Nat → Prop} {w w' : World} {lv lv' : Nat → Prop} (hlv : ∀ n, lv n → lv' n) (hρ : ∀ n, lv n → ρ.same ρ' n n)
    (hF : ∀ b, F b → F' b) (hw : ∀ b, F b → w'.heap[b]? = w.heap[b]?) {n : Nat} (hn : lv n) {o : Obj} (hbk : ρ'.bk n = ρ.bk n) (hb : ∀ k, blk ρ n o k → w'.heap[k]? = w.heap[k]?) (h : OR ρ F w lv n o) :
    OR ρ' F' w' lv' n o := by
  obtain ⟨h1, h2, h3⟩ := hρ n hn
  cases o with
  | absent => trivial
  | dead => trivial
  | row e t xs =>
    obtain ⟨he, ho, hd⟩ := h
    exact ⟨by rw [h3]; exact he, by rw [h1, hbk]; exact OwnR_mono hF hw (fun b hm => hb b ⟨rfl, hm⟩) ho, by rw [hbk]; exact hd⟩
  | hrow e t xs i off id =>
    obtain ⟨he, hl, ho, hd⟩ := h
    exact ⟨by rw [h3]; exact he, hlv _ hl, by rw [h1, hbk, (hρ id hl).1]; exact HolR_mono hF hw (fun b hm => hb b ⟨rfl, hm⟩) ho, by rw [hbk]; exact hd⟩
  | mrow e t x =>
    cases x with
    | none => trivial
    | some xs =>
      obtain ⟨he, ho, hd⟩ := h
      exact ⟨by rw [h3]; exact he, by rw [h1, hbk]; exact OwnR_mono hF hw (fun b hm => hb b ⟨rfl, hm⟩) ho, by rw [hbk]; exact hd⟩
  | moved id fl => exact ⟨hlv _ h.1, fun hf => by rw [h1, (hρ id h.1).1]; exact h.2 hf⟩
  | map t es =>
    obtain ⟨hm, hk⟩ := h
    exact ⟨by rw [h2]; exact MapB_mono (hb _ ⟨rfl, by rw [hk]; simp⟩) hm, by rw [hbk, h2]; exact hk⟩
  | box e vs =>
    obtain ⟨hk, us, hu, ha⟩ := h
    exact ⟨by rw [hbk, h2]; exact hk, us, by rw [h2, hb _ ⟨rfl, by rw [hk]; simp⟩]; exact hu, ha.imp fun _ _ h => LR0_mono hlv hρ hF hw h⟩
theorem blk_lt {ρ : Rho} {F : Nat → Prop} {w : World} {lv : Nat → Prop} {n b : Nat} {o : Obj} (h : OR ρ F w lv n o) (hb : blk ρ n o b) : b < w.heap.size := by
  obtain ⟨h0, hb⟩ := hb
  cases o with
  | absent => simp [Obj.held] at h0
  | dead => simp [Obj.held] at h0
  | moved => simp [Obj.held] at h0
  | row e t xs => exact OwnR_lt h.2.1 b hb
  | hrow e t xs i off id => exact HolR_lt h.2.2.1 b hb
  | mrow e t x =>
    cases x with
    | none => simp [Obj.held] at h0
    | some xs => exact OwnR_lt h.2.1 b hb
  | map t es =>
    obtain ⟨⟨_, _, ents, clock, h1, _⟩, hk⟩ := h
    rw [hk] at hb
    simp only [List.mem_singleton] at hb
    subst hb
    exact lt_of_heap h1
  | box e vs =>
    obtain ⟨hk, us, hu, _⟩ := h
    rw [hk] at hb
    simp only [List.mem_singleton] at hb
    subst hb
    exact lt_of_heap hu
theorem bk_nodup {ρ : Rho} {F : Nat → Prop} {w : World} {lv : Nat → Prop} {n : Nat} {o : Obj} (h : OR ρ F w lv n o) (hh : o.held = true) : (ρ.bk n).Nodup := by
  cases o with
  | absent => simp [Obj.held] at hh
  | dead => simp [Obj.held] at hh
  | moved => simp [Obj.held] at hh
  | row e t xs => exact h.2.2
  | hrow e t xs i off id => exact h.2.2.2
  | mrow e t x =>
    cases x with
    | none => simp [Obj.held] at hh
    | some xs => exact h.2.2
  | map t es => rw [h.2]; simp
  | box e vs => rw [h.1]; simp

/-- What of an old world may have changed: the blocks of 'C', and new ones. -/
structure Pr (C : Nat → Prop) (w w' : World) : Prop where
  os : w'.os = w.os
  tape : w'.tape = w.tape
  output : w'.output = w.output
  size : w.heap.size ≤ w'.heap.size
  block : ∀ b, b < w.heap.size → ¬ C b → w'.heap[b]? = w.heap[b]?
theorem Pr.refl (C : Nat → Prop) (w : World) : Pr C w w := ⟨rfl, rfl, rfl, Nat.le_refl _, fun _ _ _ => rfl⟩
theorem Pr.then {C C' : Nat → Prop} {w w1 w2 : World} (h : Pr C w w1) (h' : Pr C' w1 w2) (hc : ∀ b, b < w.heap.size → C' b → C b) : Pr C w w2 :=
  ⟨h'.os.trans h.os, h'.tape.trans h.tape, h'.output.trans h.output, Nat.le_trans h.size h'.size, fun b hb hn =>
    (h'.block b (Nat.lt_of_lt_of_le hb h.size) fun hb' => hn (hc b hb hb')).trans (h.block b hb hn)⟩
theorem Pr.mono {C C' : Nat → Prop} {w w' : World} (h : Pr C w w') (hc : ∀ b, C b → C' b) : Pr C' w w' :=
  ⟨h.os, h.tape, h.output, h.size, fun b hb hn => h.block b hb fun hc' => hn (hc b hc')⟩
theorem Pr.of_grown {w w' : World} {row : Option Nat} (h : w.grownBy w' row) : Pr (fun b => row = some b) w w' :=
  ⟨h.os, h.tape, h.output, h.size, fun b hb hn => h.block b hb fun e => hn e.symm⟩
theorem Pr.drew (C : Nat → Prop) (w : World) : Pr C w w.drew := ⟨rfl, rfl, rfl, Nat.le_refl _, fun _ _ _ => rfl⟩

structure Ctx where
  w0 : World
  F0 : Nat → Prop
  C : Nat → Prop
  pv : Nat → Value
  r0 : Rho
/-- What is known of an object: it is there, or its name lasts. -/
def St.lv (σ : St) (ρ : Rho) (n : Nat) : Prop := σ.live n ∨ ρ.fx n
structure Sim (cx : Ctx) (nt : Fr) (ρ : Rho) (F : Nat → Prop) (σ : St) (a : Act) (w : World) : Prop where
  defers : a.defers = []
  size : a.tmps.size = nt.nt
  pin : ∀ s ∈ nt.pin, a.tmps.getD s undef = cx.pv s
  slots : ∀ s, VR ρ F w (σ.lv ρ) (σ.sl s) (a.tmps.getD s undef)
  objs : ∀ n, OR ρ F w (σ.lv ρ) n (σ.ob n)
  disj : ∀ n m b, n ≠ m → blk ρ n (σ.ob n) b → ¬ blk ρ m (σ.ob m) b
  own : ∀ n b, blk ρ n (σ.ob n) b → ¬ F b ∧ (cx.C b ∨ cx.w0.heap.size ≤ b)
  Fb : ∀ b, F b → b < w.heap.size ∧ (cx.F0 b ∨ cx.C b ∨ cx.w0.heap.size ≤ b)
  F0 : ∀ b, cx.F0 b → F b
  pr : Pr cx.C cx.w0 w
  fx : ρ.fx = cx.r0.fx
  fxl : ∀ n, n ∈ nt.fix → ρ.fx n
  fix : ∀ n, ρ.fx n → n < liveId ∧ cx.r0.same ρ n n
/-- A ghost goes on: what is known stays; 'N': objects that change. -/
structure Goes (ρ ρ' : Rho) (lv N : Nat → Prop) : Prop where
  same : ∀ n, lv n → ρ.same ρ' n n
  fx : ρ'.fx = ρ.fx
  bk : ∀ n, ¬ N n → ρ'.bk n = ρ.bk n
theorem Goes.refl (ρ : Rho) (lv N : Nat → Prop) : Goes ρ ρ lv N := ⟨fun _ _ => ρ.same_refl _, rfl, fun _ _ => rfl⟩
/-- Blocks that are nobody's, and may be taken in. -/
def Free (cx : Ctx) (ρ : Rho) (F : Nat → Prop) (σ : St) (b : Nat) : Prop := (cx.C b ∨ cx.w0.heap.size ≤ b) ∧ ¬ F b ∧ ∀ m, ¬ blk ρ m (σ.ob m) b
theorem Sim.step {cx : Ctx} {nt : Fr} {ρ ρ' : Rho} {F F' : Nat → Prop} {σ σ' : St} {a a' : Act} {w w' : World} (h : Sim cx nt ρ F σ a w) (N R Ad : Nat → Prop) (hw : Pr R w w')
    (hAd : ∀ b, Ad b → Free cx ρ F σ b)
    (hR : ∀ b, R b → b < w.heap.size → (∃ n, N n ∧ blk ρ n (σ.ob n) b) ∨ Ad b)
    (hob : ∀ n, ¬ N n → σ'.ob n = σ.ob n)
    (hlv : ∀ n, σ.live n → σ'.live n)
    (hρ : Goes ρ ρ' (σ.lv ρ) N)
    (hF : ∀ b, F b → F' b)
    (hF' : ∀ b, F' b → F b ∨ (b < w'.heap.size ∧ ((∃ n, N n ∧ blk ρ n (σ.ob n) b) ∨ w.heap.size ≤ b ∨ Ad b)))
    (hN : ∀ n, N n → OR ρ' F' w' (σ'.lv ρ') n (σ'.ob n))
    (hNb : ∀ n b, N n → blk ρ' n (σ'.ob n) b → ¬ F' b ∧ ((∃ m, N m ∧ blk ρ m (σ.ob m) b) ∨ w.heap.size ≤ b ∨ Ad b))
    (hNd : ∀ n m b, N n → N m → n ≠ m → blk ρ' n (σ'.ob n) b → ¬ blk ρ' m (σ'.ob m) b)
    (hd : a'.defers = []) (hs : a'.tmps.size = nt.nt) (hpin : ∀ s ∈ nt.pin, a'.tmps.getD s undef = cx.pv s)
    (hsl : ∀ s, (σ'.sl s = σ.sl s ∧ a'.tmps.getD s undef = a.tmps.getD s undef) ∨ VR ρ' F' w' (σ'.lv ρ') (σ'.sl s) (a'.tmps.getD s undef)) :
    Sim cx nt ρ' F' σ' a' w' := by
  have hlv' : ∀ n, σ.lv ρ n → σ'.lv ρ' n := fun n hn => hn.imp (hlv n) (fun h => by rw [hρ.fx]; exact h)
  have hFw : ∀ b, F b → w'.heap[b]? = w.heap[b]? := fun b hb => hw.block b (h.Fb b hb).1 fun hr => by
    rcases hR b hr (h.Fb b hb).1 with ⟨n, _, hn⟩ | ha
    · exact (h.own n b hn).1 hb
    · exact (hAd b ha).2.1 hb
  have hlt : ∀ n b, blk ρ n (σ.ob n) b → b < w.heap.size := fun n b hb => blk_lt (h.objs n) hb
  have hnb : ∀ n, ¬ N n → ∀ b, blk ρ n (σ.ob n) b → w'.heap[b]? = w.heap[b]? := fun n hn b hb => hw.block b (hlt n b hb) fun hr => by
    rcases hR b hr (hlt n b hb) with ⟨m, hm, hmb⟩ | ha
    · exact h.disj n m b (fun e => hn (e ▸ hm)) hb hmb
    · exact (hAd b ha).2.2 n hb
  have hsame : ∀ n, ¬ N n → ∀ b, blk ρ' n (σ'.ob n) b ↔ blk ρ n (σ.ob n) b := fun n hn b => by
    unfold blk; rw [hob n hn, hρ.bk n hn]
  refine ⟨hd, hs, hpin, fun s => ?_, fun n => ?_, fun n m b hnm hb hb' => ?_, fun n b hb => ?_, fun b hb => ?_, fun b hb => hF b (h.F0 b hb), ?_, hρ.fx.trans h.fx, fun n hn => by rw [hρ.fx]; exact h.fxl n hn, fun n hn => ?_⟩
  · rcases hsl s with ⟨e1, e2⟩ | h1
    · rw [e1, e2]; exact VR_mono hlv' hρ.same hF hFw (h.slots s)
    · exact h1
  · by_cases hn : N n
    · exact hN n hn
    · have ho := h.objs n
      rw [hob n hn]
      by_cases hl : σ.live n
      · exact OR_mono hlv' hρ.same hF hFw (.inl hl) (hρ.bk n hn) (hnb n hn) ho
      · have : σ.ob n = .absent := Classical.not_not.1 hl
        rw [this]; trivial
  · by_cases hn : N n
    · by_cases hm : N m
      · exact hNd n m b hn hm hnm hb hb'
      · have hb' := (hsame m hm b).1 hb'
        rcases (hNb n b hn hb).2 with ⟨m', hm', hmb⟩ | hge | ha
        · exact h.disj m' m b (fun e => hm (e ▸ hm')) hmb hb'
        · have := hlt m b hb'; omega
        · exact (hAd b ha).2.2 m hb'
    · have hb := (hsame n hn b).1 hb
      by_cases hm : N m
      · rcases (hNb m b hm hb').2 with ⟨m', hm', hmb⟩ | hge | ha
        · exact h.disj m' n b (fun e => hn (e ▸ hm')) hmb hb
        · have := hlt n b hb; omega
        · exact (hAd b ha).2.2 n hb
      · exact h.disj n m b hnm hb ((hsame m hm b).1 hb')
  · by_cases hn : N n
    · obtain ⟨h1, h2⟩ := hNb n b hn hb
      refine ⟨h1, ?_⟩
      rcases h2 with ⟨m, _, hm⟩ | hge | ha
      · exact (h.own m b hm).2
      · exact .inr (Nat.le_trans h.pr.size hge)
      · exact (hAd b ha).1
    · have hb := (hsame n hn b).1 hb
      refine ⟨fun hf => ?_, (h.own n b hb).2⟩
      rcases hF' b hf with h1 | ⟨_, ⟨m, hm, hmb⟩ | hge | ha⟩
      · exact (h.own n b hb).1 h1
      · exact h.disj m n b (fun e => hn (e ▸ hm)) hmb hb
      · have := hlt n b hb; omega
      · exact (hAd b ha).2.2 n hb
  · rcases hF' b hb with h1 | ⟨h0, ⟨m, hm, hmb⟩ | hge | ha⟩
    · exact ⟨Nat.lt_of_lt_of_le (h.Fb b h1).1 hw.size, (h.Fb b h1).2⟩
    · refine ⟨h0, ?_⟩
      rcases (h.own m b hmb).2 with hc | hc
      · exact .inr (.inl hc)
      · exact .inr (.inr hc)
    · exact ⟨h0, .inr (.inr (Nat.le_trans h.pr.size hge))⟩
    · refine ⟨h0, ?_⟩
      rcases (hAd b ha).1 with hc | hc
      · exact .inr (.inl hc)
      · exact .inr (.inr hc)
  · refine h.pr.then hw fun b hb hr => ?_
    rcases hR b hr (Nat.lt_of_lt_of_le hb h.pr.size) with ⟨n, _, hn⟩ | ha
    · rcases (h.own n b hn).2 with hc | hc
      · exact hc
      · omega
    · rcases (hAd b ha).1 with hc | hc
      · exact hc
      · omega
  · have hn' : ρ.fx n := by rw [← hρ.fx]; exact hn
    exact ⟨(h.fix n hn').1, Rho.same_trans (h.fix n hn').2 (hρ.same n (.inr hn'))⟩
end Go.Gx

/-
  Gx, part D: what is handed on (to a call, from it, to a round): taken out of a state, and built into one.
-/
set_option linter.unusedVariables false
set_option linter.unusedSimpArgs false
namespace Go.Gx

def BRL (ρ : Rho) (F : Nat → Prop) (w : World) : (l : LS) → l.I → Value → List Nat → Prop
  | .int k, x, v, bs => v = .int k x ∧ bs = []
  | .bool, x, v, bs => v = .bool x ∧ bs = []
  | .str, x, v, bs => v = .string x ∧ bs = []
  | .ro t, xs, v, bs => TC F w (.sl t) xs [v] ∧ bs = []
  | .own e t, xs, v, bs => OwnR F w e t xs v bs
  | .fn, f, v, bs => v = .func (.func f) #[] #[] ∧ bs = []
  | .fnc f, _, v, bs => v = .func (.func f) #[] #[] ∧ bs = []
  | .nil, _, v, bs => v = .slice none 0 0 ∧ bs = []
  | .skip, _, _, bs => bs = []
  | .any, _, v, bs => v.oneCell' = true ∧ bs = []
  | .ownA id e t, xs, v, bs => OwnR F w e t xs v bs ∧ ρ.hd id = v ∧ ρ.es id = t.sz
  | .ownk id e t, x, v, bs => OwnR F w e t x.2 v bs ∧ (x.1 = true → ρ.hd id = v)
  | .may e t, x, v, bs => (∃ A l c, v = .slice A l c) ∧ match x with
    | none => bs = []
    | some xs => OwnR F w e t xs v bs
  | .hol id e t off id2, x, v, bs => HolR F w e t x.1 x.2 off (ρ.hd id2) v bs ∧ ρ.hd id = v ∧ ρ.es id = t.sz
  | .ali id, _, v, bs => (v = ρ.hd id ∧ ∃ A l c, v = .slice A l c) ∧ bs = []
  | .ln, n, v, bs => (∃ A c, v = .slice A n c) ∧ bs = []
  | .vw id, x, v, bs => SubV (ρ.hd id) (ρ.es id) x.1 x.2 v ∧ bs = []
  | .elA id off, i, v, bs => ElV ρ id i off v ∧ bs = []
  | .elo id off, x, v, bs => (match x with
    | none => v = .pointer none
    | some i => ElV ρ id i off v) ∧ bs = []
  | .slf f ids, _, v, bs => v = .func (.func f) #[] (ids.map fun i => Value.pointer (some ⟨ρ.bx i, 0, none⟩)).toArray ∧ bs = []
  | .rk t b, xs, v, bs => (TC F w (.sl t) xs [v] ∧ ∃ A n c, v = .slice A n c ∧ A.isNone = b) ∧ bs = []
  | .rkb t, x, v, bs => (TC F w (.sl t) x.1 [v] ∧ ∃ A n c, v = .slice A n c ∧ A.isNone = x.2) ∧ bs = []
  | .mp t, es, v, bs => ∃ r, v = .map (some r) ∧ bs = [r] ∧ MapB F w t es r
def BRLs (ρ : Rho) (F : Nat → Prop) (w : World) : (ls : List LS) → LsI ls → List Value → List Nat → Prop
  | [], _, vs, bs => vs = [] ∧ bs = []
  | l :: ls, x, vs, bs => ∃ v vs' b1 b2, vs = v :: vs' ∧ bs = b1 ++ b2 ∧ BRL ρ F w l x.1 v b1 ∧ BRLs ρ F w ls x.2 vs' b2
/-- What lies in the block of a box. -/
def BoxG (ρ : Rho) (F : Nat → Prop) (w : World) (e : TypeId) (ls : List LS) (x : LsI ls) (g : Nat) (bs : List Nat) : Prop :=
  ∃ us b2, w.heap[g]? = some (.cells us e (0, 0)) ∧ bs = g :: b2 ∧ BRLs ρ F w ls x us.toList b2
def BRV (ρ : Rho) (F : Nat → Prop) (w : World) : (s : VS) → s.I → Value → List Nat → Prop
  | .leaf l, x, v, bs => BRL ρ F w l x v bs
  | .agg ls, x, v, bs => ∃ us, v = .agg us ∧ BRLs ρ F w ls x us.toList bs
  | .box e ls _, x, v, bs => ∃ g, v = .pointer (some ⟨g, 0, none⟩) ∧ BoxG ρ F w e ls x g bs
  | .boxA id e ls _, x, v, bs => v = .pointer (some ⟨ρ.bx id, 0, none⟩) ∧ BoxG ρ F w e ls x (ρ.bx id) bs
  | .clo f e ls _, x, v, bs => ∃ g, v = .func (.func f) #[] #[.pointer (some ⟨g, 0, none⟩)] ∧ BoxG ρ F w e ls x g bs
  | .muts id e t, xs, v, bs => OwnR F w e t xs v bs ∧ ρ.hd id = v ∧ ρ.es id = t.sz
  | .aggm ls, x, v, bs => ∃ us, v = .agg us ∧ BRLs ρ F w ls x us.toList bs
def BRVs (ρ : Rho) (F : Nat → Prop) (w : World) : (ss : List VS) → VsI ss → List Value → List Nat → Prop
  | [], _, vs, bs => vs = [] ∧ bs = []
  | s :: ss, x, vs, bs => ∃ v vs' b1 b2, vs = v :: vs' ∧ bs = b1 ++ b2 ∧ BRV ρ F w s x.1 v b1 ∧ BRVs ρ F w ss x.2 vs' b2
section
variable {ρ ρ' : Rho} {F F' : Nat → Prop} {w w' : World}
theorem ownBlock_bs {e : TypeId} {t : Ty} {xs : List t.I} {v : Value} {bs : List Nat} (h : OwnR F w e t xs v bs) : ∀ b, v.ownBlock = some b → b ∈ bs := by
  obtain ⟨cells, bss, _, _, rfl⟩ := h; intro b hb; simp [hb]
theorem BRL_mono (hF : ∀ b, F b → F' b) (hw : ∀ b, F b → w'.heap[b]? = w.heap[b]?) {l : LS} {x : l.I} {v : Value} {bs : List Nat} (hb : ∀ b ∈ bs, w'.heap[b]? = w.heap[b]?)
    (h : BRL ρ F w l x v bs) : BRL ρ F' w' l x v bs := by
  cases l with
  | ro t => exact ⟨TC_mono hF hw h.1, h.2⟩
  | rk t b => exact ⟨⟨TC_mono hF hw h.1.1, h.1.2⟩, h.2⟩
  | rkb t => exact ⟨⟨TC_mono hF hw h.1.1, h.1.2⟩, h.2⟩
  | own e t => exact OwnR_mono hF hw hb h
  | ownA id e t => exact ⟨OwnR_mono hF hw hb h.1, h.2⟩
  | ownk id e t => exact ⟨OwnR_mono hF hw hb h.1, h.2⟩
  | may e t =>
    refine ⟨h.1, ?_⟩
    cases x with
    | none => exact h.2
    | some xs => exact OwnR_mono hF hw hb h.2
  | hol id e t off id2 => exact ⟨HolR_mono hF hw hb h.1, h.2⟩
  | mp t => obtain ⟨r, e1, e2, h⟩ := h; exact ⟨r, e1, e2, MapB_mono (hb r (by rw [e2]; simp)) h⟩
  | _ => exact h
theorem BRLs_mono (hF : ∀ b, F b → F' b) (hw : ∀ b, F b → w'.heap[b]? = w.heap[b]?) : ∀ {ls : List LS} {x : LsI ls} {vs : List Value} {bs : List Nat}, (∀ b ∈ bs, w'.heap[b]? = w.heap[b]?) →
    BRLs ρ F w ls x vs bs → BRLs ρ F' w' ls x vs bs
  | [], _, _, _, _, h => h
  | l :: ls, x, vs, bs, hb, h => by
    obtain ⟨v, vs', b1, b2, rfl, rfl, h1, h2⟩ := h
    exact ⟨v, vs', b1, b2, rfl, rfl, BRL_mono hF hw (fun b hm => hb b (by simp [hm])) h1, BRLs_mono hF hw (fun b hm => hb b (by simp [hm])) h2⟩
theorem BoxG_mono (hF : ∀ b, F b → F' b) (hw : ∀ b, F b → w'.heap[b]? = w.heap[b]?) {e : TypeId} {ls : List LS} {x : LsI ls} {g : Nat} {bs : List Nat} (hb : ∀ b ∈ bs, w'.heap[b]? = w.heap[b]?) (h : BoxG ρ F w e ls x g bs) : BoxG ρ F' w' e ls x g bs := by
  obtain ⟨us, b2, hg, rfl, h⟩ := h
  exact ⟨us, b2, by rw [hb g (by simp)]; exact hg, rfl, BRLs_mono hF hw (fun b hm => hb b (by simp [hm])) h⟩
theorem BRV_mono (hF : ∀ b, F b → F' b) (hw : ∀ b, F b → w'.heap[b]? = w.heap[b]?) {s : VS} {x : s.I} {v : Value} {bs : List Nat} (hb : ∀ b ∈ bs, w'.heap[b]? = w.heap[b]?)
    (h : BRV ρ F w s x v bs) : BRV ρ F' w' s x v bs := by
  cases s with
  | leaf l => exact BRL_mono hF hw hb h
  | agg ls => obtain ⟨us, e, h⟩ := h; exact ⟨us, e, BRLs_mono hF hw hb h⟩
  | box e ls o => obtain ⟨g, e1, h⟩ := h; exact ⟨g, e1, BoxG_mono hF hw hb h⟩
  | boxA id e ls o => exact ⟨h.1, BoxG_mono hF hw hb h.2⟩
  | clo f e ls o => obtain ⟨g, e1, h⟩ := h; exact ⟨g, e1, BoxG_mono hF hw hb h⟩
  | muts id e t => exact ⟨OwnR_mono hF hw hb h.1, h.2⟩
  | aggm ls => obtain ⟨us, e, h⟩ := h; exact ⟨us, e, BRLs_mono hF hw hb h⟩
theorem BRVs_mono (hF : ∀ b, F b → F' b) (hw : ∀ b, F b → w'.heap[b]? = w.heap[b]?) : ∀ {ss : List VS} {x : VsI ss} {vs : List Value} {bs : List Nat}, (∀ b ∈ bs, w'.heap[b]? = w.heap[b]?) →
    BRVs ρ F w ss x vs bs → BRVs ρ F' w' ss x vs bs
  | [], _, _, _, _, h => h
  | s :: ss, x, vs, bs, hb, h => by
    obtain ⟨v, vs', b1, b2, rfl, rfl, h1, h2⟩ := h
    exact ⟨v, vs', b1, b2, rfl, rfl, BRV_mono hF hw (fun b hm => hb b (by simp [hm])) h1, BRVs_mono hF hw (fun b hm => hb b (by simp [hm])) h2⟩
/-- Flat bundles don't care for F. -/
theorem BRL_flat {l : LS} {x : l.I} {v : Value} {bs : List Nat} (hf : l.flat = true) (h : BRL ρ F w l x v bs) : BRL ρ F' w l x v bs := by
  have own : ∀ {e : TypeId} {t : Ty} {xs : List t.I}, t.self = true → OwnR F w e t xs v bs → OwnR F' w e t xs v bs := by
    intro e t xs ht h
    obtain ⟨cells, bss, h1, h2, h3⟩ := h
    exact ⟨cells, bss, h1, DRow_self ht h2, h3⟩
  cases l with
  | ro t => simp [LS.flat] at hf
  | rk t b => simp [LS.flat] at hf
  | rkb t => simp [LS.flat] at hf
  | own e t => exact own hf h
  | ownA id e t => exact ⟨own hf h.1, h.2⟩
  | ownk id e t => exact ⟨own hf h.1, h.2⟩
  | may e t =>
    refine ⟨h.1, ?_⟩
    cases x with
    | none => exact h.2
    | some xs => exact own hf h.2
  | hol id e t off id2 => simp [LS.flat] at hf
  | mp t => obtain ⟨r, e1, e2, h⟩ := h; exact ⟨r, e1, e2, MapB_mono rfl h⟩
  | _ => exact h
theorem BRLs_flat : ∀ {ls : List LS} {x : LsI ls} {vs : List Value} {bs : List Nat}, ls.all LS.flat = true → BRLs ρ F w ls x vs bs → BRLs ρ F' w ls x vs bs
  | [], _, _, _, _, h => h
  | l :: ls, x, vs, bs, hf, h => by
    simp only [List.all_cons, Bool.and_eq_true] at hf
    obtain ⟨v, vs', b1, b2, rfl, rfl, h1, h2⟩ := h
    exact ⟨v, vs', b1, b2, rfl, rfl, BRL_flat hf.1 h1, BRLs_flat hf.2 h2⟩
theorem BoxG_flat {e : TypeId} {ls : List LS} {x : LsI ls} {g : Nat} {bs : List Nat} (hf : ls.all LS.flat = true) (h : BoxG ρ F w e ls x g bs) : BoxG ρ F' w e ls x g bs := by
  obtain ⟨us, b2, hg, rfl, h⟩ := h
  exact ⟨us, b2, hg, rfl, BRLs_flat hf h⟩
theorem BRV_flat {s : VS} {x : s.I} {v : Value} {bs : List Nat} (hf : s.flat = true) (h : BRV ρ F w s x v bs) : BRV ρ F' w s x v bs := by
  cases s with
  | leaf l => exact BRL_flat hf h
  | agg ls => obtain ⟨us, e, h⟩ := h; exact ⟨us, e, BRLs_flat hf h⟩
  | box e ls o => obtain ⟨g, e1, h⟩ := h; exact ⟨g, e1, BoxG_flat hf h⟩
  | boxA id e ls o => exact ⟨h.1, BoxG_flat hf h.2⟩
  | clo f e ls o => obtain ⟨g, e1, h⟩ := h; exact ⟨g, e1, BoxG_flat hf h⟩
  | muts id e t =>
    obtain ⟨⟨cells, bss, h1, h2, h3⟩, h⟩ := h
    exact ⟨⟨cells, bss, h1, DRow_self hf h2, h3⟩, h⟩
  | aggm ls => obtain ⟨us, e, h⟩ := h; exact ⟨us, e, BRLs_flat hf h⟩
theorem BRVs_flat : ∀ {ss : List VS} {x : VsI ss} {vs : List Value} {bs : List Nat}, ss.all VS.flat = true → BRVs ρ F w ss x vs bs → BRVs ρ F' w ss x vs bs
  | [], _, _, _, _, h => h
  | s :: ss, x, vs, bs, hf, h => by
    simp only [List.all_cons, Bool.and_eq_true] at hf
    obtain ⟨v, vs', b1, b2, rfl, rfl, h1, h2⟩ := h
    exact ⟨v, vs', b1, b2, rfl, rfl, BRV_flat hf.1 h1, BRVs_flat hf.2 h2⟩
end

theorem add_add (a : Addr) (m n : Nat) : (a.add m).add n = a.add (m + n) := by
  unfold Addr.add
  by_cases hm : m = 0 <;> by_cases hn : n = 0 <;> simp [hm, hn]
  omega
theorem chunk_get {cells : List Value} {i sz j : Nat} {u : Value} (h : ((cells.drop (i * sz)).take sz)[j]? = some u) : cells[i * sz + j]? = some u := by
  rw [List.getElem?_take] at h
  split at h
  · rwa [List.getElem?_drop] at h
  · cases h
theorem ro_of_row {F F1 : Nat → Prop} {w : World} {e : TypeId} {t : Ty} {v : Value} {xs : List t.I} {cells : List Value} (h : ownsX w e t.sz v xs.length cells) (hc : RowC F w t xs cells)
    (hF : ∀ b, F b → F1 b) (hb : ∀ b, v.ownBlock = some b → F1 b) : TC F1 w (.sl t) xs [v] := by
  have h' := h
  rcases h'.2 with ⟨rfl, h0⟩ | ⟨g, cap, cur, rfl, _, hg, hn, hm, _⟩
  · refine ⟨none, 0, ?_, by omega, by simp [maxLen], fun i x hi => ?_⟩
    · rw [h0]
    · have : xs = [] := List.eq_nil_of_length_eq_zero h0
      rw [this] at hi; simp at hi
  · refine ⟨_, _, rfl, hn, hm, fun i x hi => ⟨_, _, rfl, hb _ rfl, TC_mono hF (fun _ _ => rfl) (hc i x hi), fun j u hj => h.cells (g := g) rfl _ u (chunk_get hj)⟩⟩
theorem sub_get {α : Type} {xs : List α} {lo hi i : Nat} {x : α} (h : ((xs.take hi).drop lo)[i]? = some x) : xs[lo + i]? = some x ∧ lo + i < hi := by
  rw [List.getElem?_drop, List.getElem?_take] at h
  split at h
  · exact ⟨h, by assumption⟩
  · cases h
theorem sub_len {α : Type} {xs : List α} {lo hi : Nat} (h : hi ≤ xs.length) : ((xs.take hi).drop lo).length = hi - lo := by
  rw [List.length_drop, List.length_take]; omega
theorem TC_sub {F : Nat → Prop} {w : World} {t : Ty} {xs : List t.I} {h v : Value} {lo hi : Nat} (hc : TC F w (.sl t) xs [h]) (hs : SubV h t.sz lo hi v) :
    TC F w (.sl t) ((xs.take hi).drop lo) [v] := by
  obtain ⟨A, c, e, hl, hm, hx⟩ := hc
  simp only [List.cons.injEq, and_true] at e
  subst e
  obtain ⟨A', l', c', A2, e, h1, h2, rfl, hA1, hA2⟩ := hs
  simp only [Value.slice.injEq] at e
  obtain ⟨rfl, rfl, rfl⟩ := e
  refine ⟨_, _, by rw [sub_len h2], by rw [sub_len h2]; omega, by omega, fun i x hi' => ?_⟩
  obtain ⟨hi1, hi2⟩ := sub_get hi'
  obtain ⟨ad, ds, rfl, hb, ht, hcell⟩ := hx _ x hi1
  have hne : c ≠ lo := by omega
  rw [hA1 hne]
  refine ⟨ad.add (lo * t.sz), ds, rfl, by rw [add_block]; exact hb, ht, fun j u hj => ?_⟩
  rw [add_add, show lo * t.sz + (i * t.sz + j) = (lo + i) * t.sz + j by rw [Nat.add_mul]; omega]
  exact hcell j u hj
theorem add_zero (a : Addr) : a.add 0 = a := by simp [Addr.add]
theorem own_take {w : World} {e : TypeId} {sz n hi : Nat} {h v : Value} {cells : List Value} (ho : ownsX w e sz h n cells) (hs : SubV h sz 0 hi v) :
    ownsX w e sz v hi (cells.take (hi * sz)) ∧ v.ownBlock = h.ownBlock := by
  obtain ⟨A, l, c, A2, rfl, _, hl, rfl, hA1, hA2⟩ := hs
  rw [hA2 rfl, Nat.sub_zero, Nat.sub_zero]
  rcases ho.2 with ⟨e0, hn⟩ | ⟨g, cap, cur, e0, hb, hg, hnc, hcm, hcs, ht⟩
  · simp only [Value.slice.injEq] at e0
    obtain ⟨rfl, rfl, rfl⟩ := e0
    have : hi = 0 := by omega
    subst this
    exact ⟨⟨by simp, .inl ⟨rfl, rfl⟩⟩, rfl⟩
  · simp only [Value.slice.injEq] at e0
    obtain ⟨rfl, rfl, rfl⟩ := e0
    have hle : hi * sz ≤ l * sz := Nat.mul_le_mul_right _ hl
    refine ⟨⟨?_, .inr ⟨g, c, cur, rfl, hb, hg, by omega, hcm, hcs, ?_⟩⟩, rfl⟩
    · rw [List.length_take, ho.1]; omega
    · rw [← ht, List.take_take, Nat.min_eq_left hle]
theorem RowC_take {F : Nat → Prop} {w : World} {t : Ty} {xs : List t.I} {cells : List Value} (h : RowC F w t xs cells) (hi : Nat) : RowC F w t (xs.take hi) (cells.take (hi * t.sz)) := by
  intro i x hx
  rw [List.getElem?_take] at hx
  split at hx
  · rename_i hlt
    have := h i x hx
    have hle : i * t.sz + t.sz ≤ hi * t.sz := by rw [← Nat.succ_mul]; exact Nat.mul_le_mul_right _ hlt
    rwa [List.drop_take, List.take_take, Nat.min_eq_left (by omega)]
  · cases hx

/-- An owned row read only. -/
theorem ro_of_own {F F1 : Nat → Prop} {w : World} {e : TypeId} {t : Ty} {v : Value} {xs : List t.I} {bs : List Nat} (h : OwnR F w e t xs v bs) (hF : ∀ b, F b → F1 b) (hb : ∀ b ∈ bs, F1 b) : TC F1 w (.sl t.ro) (roL t xs) [v] := by
  have hbb := ownBlock_bs h
  obtain ⟨cells, bss, h1, h2, rfl⟩ := h
  exact ro_of_row (t := t.ro) (by rw [t.ro_sz, roL_len]; exact h1) (RowC_ro hF (fun b hm => hb b (List.mem_append_right _ hm)) h2) (fun _ h => h) (fun b hv => hb b (hbb b hv))
/-- A row without slices of its own. -/
theorem own_noOs {F : Nat → Prop} {w : World} {e : TypeId} {t : Ty} {v : Value} {xs : List t.I} {bs : List Nat} (ht : t.noOs = true) : OwnR F w e t xs v bs ↔ (∃ cells, ownsX w e t.sz v xs.length cells ∧ RowC F w t xs cells) ∧ bs = v.ownBlock.toList := by
  constructor
  · rintro ⟨cells, bss, h1, h2, rfl⟩
    obtain ⟨h3, h4⟩ := RowC_of_DRow ht h2
    exact ⟨⟨cells, h1, h3⟩, by rw [h4, List.append_nil]⟩
  · rintro ⟨⟨cells, h1, h2⟩, rfl⟩
    exact ⟨cells, _, h1, DRow_of_RowC ht h2, by rw [flatten_nils, List.append_nil]⟩
theorem own_nil {F : Nat → Prop} {w : World} {e : TypeId} {t : Ty} : OwnR F w e t [] (.slice none 0 0) [] := ⟨[], [], ⟨by simp, .inl ⟨rfl, rfl⟩⟩, rfl, rfl⟩

theorem osAt_lt : ∀ {t : Ty} {off : Nat} {p : TypeId × Ty}, t.osAt off = some p → off < t.sz
  | .os _ _, 0, _, _ => by simp [Ty.sz]
  | .os _ _, _ + 1, _, h => by simp [Ty.osAt] at h
  | .pair a b, off, p, h => by
    simp only [Ty.osAt] at h
    simp only [Ty.sz]
    cases hb : Nat.blt off a.sz with
    | true => rw [hb] at h; have := osAt_lt (t := a) h; omega
    | false => rw [hb] at h; have := osAt_lt (t := b) h; omega
  | .int _, off, _, h => by cases off <;> simp [Ty.osAt] at h
  | .bool, off, _, h => by cases off <;> simp [Ty.osAt] at h
  | .str, off, _, h => by cases off <;> simp [Ty.osAt] at h
  | .sl _, off, _, h => by cases off <;> simp [Ty.osAt] at h
  | .slo _, off, _, h => by cases off <;> simp [Ty.osAt] at h
  | .oso _ _, off, _, h => by cases off <;> simp [Ty.osAt] at h
theorem set_append_left {α : Type} {l1 l2 : List α} {i : Nat} {a : α} (h : i < l1.length) : (l1 ++ l2).set i a = l1.set i a ++ l2 := by
  rw [List.set_append, if_pos h]
theorem set_append_right {α : Type} {l1 l2 : List α} {i : Nat} {a : α} (h : l1.length ≤ i) : (l1 ++ l2).set i a = l1 ++ l2.set (i - l1.length) a := by
  rw [List.set_append, if_neg (by omega)]
/-- In one element: the slice is there again. -/
theorem DC_put {F : Nat → Prop} {w : World} {e1 : TypeId} {t1 : Ty} {ys : List t1.I} {u : Value} {c1 : List Value} (ho : ownsX w e1 t1.sz u ys.length c1) (hc : RowC F w t1 ys c1) :
    ∀ {t : Ty} {off : Nat} {x : t.I} {cs : List Value} {b : List Nat}, t.osAt off = some (e1, t1) → DC F w t (t.osPut off t1 x []) (cs.set off (.slice none 0 0)) b → ∃ b', DC F w t (t.osPut off t1 x ys) (cs.set off u) b' ∧ b'.Perm (b ++ u.ownBlock.toList)
  | .os e t, 0, x, cs, b, h, hd => by
    simp only [Ty.osAt, Option.some.injEq, Prod.mk.injEq] at h
    obtain ⟨rfl, rfl⟩ := h
    simp only [Ty.osPut, dif_pos] at hd ⊢
    obtain ⟨v, c2, e1, h1, h2, rfl⟩ := hd
    have hl : (cs.set 0 (Value.slice none 0 0)).length = 1 := by rw [e1]; rfl
    rw [List.length_set] at hl
    match cs, hl with
    | [c], _ =>
      simp only [List.set_cons_zero, List.cons.injEq, and_true] at e1
      subst e1
      refine ⟨_, ⟨u, c1, rfl, ho, hc, rfl⟩, ?_⟩
      simp [Value.ownBlock]
  | .os _ _, _ + 1, _, _, _, h, _ => by simp [Ty.osAt] at h
  | .pair a c, off, x, cs, b, h, hd => by
    simp only [Ty.osAt] at h
    simp only [Ty.osPut] at hd ⊢
    cases hb : Nat.blt off a.sz with
    | true =>
      have hlt : off < a.sz := by simp only [Nat.blt] at hb; exact Nat.le_of_ble_eq_true hb
      rw [hb] at h hd
      simp only [cond_true] at h hd ⊢
      obtain ⟨k1, k2, b1, b2, e, rfl, h1, h2⟩ := hd
      have hl1 := DC_len h1
      have ecs : cs = (cs.take a.sz) ++ (cs.drop a.sz) := (List.take_append_drop _ _).symm
      have hlen : (cs.take a.sz).length = a.sz := by
        have : cs.length = k1.length + k2.length := by have := congrArg List.length e; simpa using this
        rw [List.length_take]; omega
      have e2 : (cs.take a.sz).set off (.slice none 0 0) ++ cs.drop a.sz = k1 ++ k2 := by
        rw [← set_append_left (by omega), ← ecs]; exact e
      obtain ⟨e3, e4⟩ := List.append_inj e2 (by rw [List.length_set, hlen, hl1])
      rw [← e3] at h1
      obtain ⟨b', h3, h4⟩ := DC_put ho hc (t := a) h h1
      refine ⟨b' ++ b2, ⟨(cs.take a.sz).set off u, cs.drop a.sz, b', b2, ?_, rfl, h3, by rw [e4]; exact h2⟩, ?_⟩
      · rw [← set_append_left (by omega), ← ecs]
      · refine (h4.append_right b2).trans ?_
        rw [List.append_assoc, List.append_assoc]
        exact List.Perm.append_left b1 List.perm_append_comm
    | false =>
      have hge : a.sz ≤ off := by
        simp only [Nat.blt] at hb
        rcases Nat.lt_or_ge off a.sz with h | h
        · have : Nat.ble (off + 1) a.sz = true := Nat.ble_eq_true_of_le h
          rw [this] at hb; cases hb
        · exact h
      rw [hb] at h hd
      simp only [cond_false] at h hd ⊢
      obtain ⟨k1, k2, b1, b2, e, rfl, h1, h2⟩ := hd
      have hl1 := DC_len h1
      have hl2 := DC_len h2
      have ecs : cs = (cs.take a.sz) ++ (cs.drop a.sz) := (List.take_append_drop _ _).symm
      have hlen : (cs.take a.sz).length = a.sz := by
        have : cs.length = k1.length + k2.length := by have := congrArg List.length e; simpa using this
        rw [List.length_take]; omega
      have e2 : cs.take a.sz ++ (cs.drop a.sz).set (off - a.sz) (.slice none 0 0) = k1 ++ k2 := by
        have := set_append_right (l1 := cs.take a.sz) (l2 := cs.drop a.sz) (i := off) (a := Value.slice none 0 0) (by omega)
        rw [hlen] at this
        rw [← this, ← ecs]; exact e
      obtain ⟨e3, e4⟩ := List.append_inj e2 (by rw [hlen, hl1])
      rw [← e4] at h2
      obtain ⟨b', h3, h4⟩ := DC_put ho hc (t := c) h h2
      refine ⟨b1 ++ b', ⟨cs.take a.sz, (cs.drop a.sz).set (off - a.sz) u, b1, b', ?_, rfl, by rw [e3]; exact h1, h3⟩, ?_⟩
      · have := set_append_right (l1 := cs.take a.sz) (l2 := cs.drop a.sz) (i := off) (a := u) (by omega)
        rw [hlen] at this
        rw [← this, ← ecs]
      · rw [List.append_assoc]
        exact List.Perm.append_left b1 h4
  | .int _, off, _, _, _, h, _ => by cases off <;> simp [Ty.osAt] at h
  | .bool, off, _, _, _, h, _ => by cases off <;> simp [Ty.osAt] at h
  | .str, off, _, _, _, h, _ => by cases off <;> simp [Ty.osAt] at h
  | .sl _, off, _, _, _, h, _ => by cases off <;> simp [Ty.osAt] at h
  | .slo _, off, _, _, _, h, _ => by cases off <;> simp [Ty.osAt] at h
  | .oso _ _, off, _, _, _, h, _ => by cases off <;> simp [Ty.osAt] at h
/-- In one element: the slice is taken out. -/
theorem DC_get {F : Nat → Prop} {w : World} {e1 : TypeId} {t1 : Ty} : ∀ {t : Ty} {off : Nat} {x : t.I} {cs : List Value} {b : List Nat}, t.osAt off = some (e1, t1) → DC F w t x cs b →
    ∃ u c1 b', ownsX w e1 t1.sz u (t.osGet off t1 x).length c1 ∧ RowC F w t1 (t.osGet off t1 x) c1 ∧ cs[off]? = some u ∧ DC F w t (t.osPut off t1 x []) (cs.set off (.slice none 0 0)) b' ∧ b.Perm (b' ++ u.ownBlock.toList) ∧ t.osPut off t1 x (t.osGet off t1 x) = x
  | .os e t, 0, x, cs, b, h, hd => by
    simp only [Ty.osAt, Option.some.injEq, Prod.mk.injEq] at h
    obtain ⟨rfl, rfl⟩ := h
    obtain ⟨v, c2, rfl, h1, h2, rfl⟩ := hd
    refine ⟨v, c2, [], by simpa [Ty.osGet] using h1, by simpa [Ty.osGet] using h2, rfl, ?_, by simp, by simp [Ty.osPut, Ty.osGet]⟩
    simp only [Ty.osPut, dif_pos]
    exact ⟨_, [], rfl, ⟨by simp, .inl ⟨rfl, rfl⟩⟩, fun i x hi => by simp at hi, rfl⟩
  | .os _ _, _ + 1, _, _, _, h, _ => by simp [Ty.osAt] at h
  | .pair a c, off, x, cs, b, h, hd => by
    simp only [Ty.osAt] at h
    obtain ⟨k1, k2, b1, b2, rfl, rfl, h1, h2⟩ := hd
    have hl1 := DC_len h1
    cases hb : Nat.blt off a.sz with
    | true =>
      have hlt : off < a.sz := by simp only [Nat.blt] at hb; exact Nat.le_of_ble_eq_true hb
      rw [hb] at h
      obtain ⟨u, c1, b', q1, q2, q3, q4, q5, q6⟩ := DC_get (t := a) h h1
      simp only [Ty.osGet, Ty.osPut, hb, cond_true]
      refine ⟨u, c1, b' ++ b2, q1, q2, by rw [List.getElem?_append_left (by omega)]; exact q3, ⟨k1.set off _, k2, b', b2, set_append_left (by omega), rfl, q4, h2⟩, ?_, by rw [q6]⟩
      refine (q5.append_right b2).trans ?_
      rw [List.append_assoc, List.append_assoc]
      exact List.Perm.append_left b' List.perm_append_comm
    | false =>
      have hge : a.sz ≤ off := by
        simp only [Nat.blt] at hb
        rcases Nat.lt_or_ge off a.sz with h | h
        · have : Nat.ble (off + 1) a.sz = true := Nat.ble_eq_true_of_le h
          rw [this] at hb; cases hb
        · exact h
      rw [hb] at h
      obtain ⟨u, c1, b', q1, q2, q3, q4, q5, q6⟩ := DC_get (t := c) h h2
      simp only [Ty.osGet, Ty.osPut, hb, cond_false]
      refine ⟨u, c1, b1 ++ b', q1, q2, by rw [List.getElem?_append_right (by omega), hl1]; exact q3, ⟨k1, k2.set (off - a.sz) _, b1, b', ?_, rfl, h1, q4⟩, ?_, by rw [q6]⟩
      · rw [set_append_right (by omega), hl1]
      · rw [List.append_assoc]; exact List.Perm.append_left b1 q5
  | .int _, off, _, _, _, h, _ => by cases off <;> simp [Ty.osAt] at h
  | .bool, off, _, _, _, h, _ => by cases off <;> simp [Ty.osAt] at h
  | .str, off, _, _, _, h, _ => by cases off <;> simp [Ty.osAt] at h
  | .sl _, off, _, _, _, h, _ => by cases off <;> simp [Ty.osAt] at h
  | .slo _, off, _, _, _, h, _ => by cases off <;> simp [Ty.osAt] at h
  | .oso _ _, off, _, _, _, h, _ => by cases off <;> simp [Ty.osAt] at h
theorem chunk_set {cells : List Value} {i k sz off : Nat} {u : Value} (ho : off < sz) : ((cells.set (i * sz + off) u).drop (k * sz)).take sz = if k = i then ((cells.drop (i * sz)).take sz).set off u else (cells.drop (k * sz)).take sz := by
  apply List.ext_getElem?
  intro j
  rw [List.getElem?_take]
  by_cases hj : j < sz
  · rw [if_pos hj, List.getElem?_drop, List.getElem?_set]
    by_cases e : k = i
    · subst e
      rw [if_pos rfl, List.getElem?_set]
      by_cases h1 : off = j
      · subst h1
        rw [if_pos rfl, if_pos rfl]
        simp only [List.length_take, List.length_drop]
        by_cases h2 : k * sz + off < cells.length
        · rw [if_pos h2, if_pos (by omega)]
        · rw [if_neg h2, if_neg (by omega)]
      · rw [if_neg (by omega), if_neg h1, List.getElem?_take, if_pos hj, List.getElem?_drop]
    · rw [if_neg e, List.getElem?_take, if_pos hj, List.getElem?_drop, if_neg]
      intro h
      rcases Nat.lt_or_gt_of_ne e with h1 | h1
      · have : k * sz + sz ≤ i * sz := by rw [← Nat.succ_mul]; exact Nat.mul_le_mul_right _ h1
        omega
      · have : i * sz + sz ≤ k * sz := by rw [← Nat.succ_mul]; exact Nat.mul_le_mul_right _ h1
        omega
  · rw [if_neg hj]
    split
    · rw [List.getElem?_eq_none]; rw [List.length_set, List.length_take]; omega
    · rw [List.getElem?_eq_none]; rw [List.length_take]; omega
theorem perm_set {l : List (List Nat)} {i : Nat} {b b' c : List Nat} (hi : l[i]? = some b) (h : b'.Perm (b ++ c)) : (l.set i b').flatten.Perm (l.flatten ++ c) := by
  induction l generalizing i with
  | nil => simp at hi
  | cons x l ih =>
    cases i with
    | zero =>
      simp only [List.getElem?_cons_zero, Option.some.injEq] at hi
      subst hi
      simp only [List.set_cons_zero, List.flatten_cons]
      refine (h.append_right _).trans ?_
      rw [List.append_assoc, List.append_assoc]
      exact List.Perm.append_left x List.perm_append_comm
    | succ i =>
      simp only [List.set_cons_succ, List.flatten_cons, List.append_assoc]
      exact List.Perm.append_left x (ih (by simpa using hi))
/-- A slice goes back to where its header still stands. -/
theorem Hol_close {F : Nat → Prop} {w : World} {e e1 : TypeId} {t t1 : Ty} {xs : List t.I} {i off : Nat} {u v : Value} {bs bs1 : List Nat} {ys : List t1.I} (ht1 : t.osAt off = some (e1, t1)) (hn : t1.noOs = true) (h : HolR F w e t xs i off u v bs) (h1 : OwnR F w e1 t1 ys u bs1) :
    ∃ bs', OwnR F w e t (putBack xs i off ys) v bs' ∧ bs'.Perm (bs ++ bs1) := by
  obtain ⟨hi, hsl, e', t', ho, cells, bss, k1, k2, k3, rfl⟩ := h
  rw [ht1] at ho
  simp only [Option.some.injEq, Prod.mk.injEq] at ho
  obtain ⟨rfl, rfl⟩ := ho
  obtain ⟨⟨c1, k4, k5⟩, rfl⟩ := (own_noOs hn).1 h1
  have hlt := osAt_lt ht1
  have hlen := DRow_len k3
  have hxl : (putBack xs i off ([] : List t1.I)).length = xs.length := by simp [putBack]
  have hbi : i < bss.length := by rw [hlen, hxl]; exact hi
  have hxi : (putBack xs i off ([] : List t1.I))[i]? = some (t.osPut off t1 (xs.getD i t.dflt) []) := by
    unfold putBack; rw [List.getElem?_set, if_pos rfl, if_pos hi]
  obtain ⟨b, hb, k6⟩ := DRow_get k3 i _ hxi
  rw [chunk_set hlt, if_pos rfl] at k6
  obtain ⟨b', k7, k8⟩ := DC_put k4 k5 ht1 k6
  have hcu : ((cells.drop (i * t.sz)).take t.sz).set off u = (cells.drop (i * t.sz)).take t.sz := by
    have : ((cells.drop (i * t.sz)).take t.sz)[off]? = some u := by rw [List.getElem?_take, if_pos hlt, List.getElem?_drop]; exact k2
    apply List.ext_getElem?
    intro j
    rw [List.getElem?_set]
    split
    · rename_i e
      subst e
      split
      · rw [this]
      · rename_i hh
        have := (List.getElem?_eq_some_iff.1 this).1
        exact absurd this hh
    · rfl
  rw [hcu] at k7
  refine ⟨_, ⟨cells, bss.set i b', by simpa [putBack] using k1, DRow_of (by rw [List.length_set, hlen]; simp [putBack]) fun k y bb hk hbb => ?_, rfl⟩, ?_⟩
  · unfold putBack at hk
    rw [List.getElem?_set] at hk hbb
    split at hk
    · rename_i e
      subst e
      rw [if_pos rfl, if_pos hbi] at hbb
      try rw [if_pos hi] at hk
      cases hk; cases hbb
      exact k7
    · rename_i e
      rw [if_neg e] at hbb
      obtain ⟨b2, e2, k9⟩ := DRow_get k3 k y (by unfold putBack; rw [List.getElem?_set, if_neg e]; exact hk)
      rw [hbb] at e2; cases e2
      rwa [chunk_set hlt, if_neg (fun h => e h.symm)] at k9
  · rw [List.append_assoc]
    exact List.Perm.append_left _ (perm_set hb k8)
/-- A slice is taken out. -/
theorem Own_open {F : Nat → Prop} {w : World} {e e1 : TypeId} {t t1 : Ty} {xs : List t.I} {i off : Nat} {v : Value} {bs : List Nat} (ht1 : t.osAt off = some (e1, t1)) (hn : t1.noOs = true) (hi : i < xs.length) (h : OwnR F w e t xs v bs) :
    ∃ u bs' bs1, HolR F w e t xs i off u v bs' ∧ OwnR F w e1 t1 (t.osGet off t1 (xs.getD i t.dflt)) u bs1 ∧ bs.Perm (bs' ++ bs1) := by
  obtain ⟨cells, bss, k1, k3, rfl⟩ := h
  have hlt := osAt_lt ht1
  have hlen := DRow_len k3
  have hbi : i < bss.length := by rw [hlen]; exact hi
  have hxi : xs[i]? = some (xs.getD i t.dflt) := by rw [List.getElem?_eq_getElem hi, List.getD_eq_getElem?_getD, List.getElem?_eq_getElem hi]; rfl
  obtain ⟨b, hb, k6⟩ := DRow_get k3 i _ hxi
  obtain ⟨u, c1, b', q1, q2, q3, q4, q5, q6⟩ := DC_get ht1 k6
  rw [List.getElem?_take, if_pos hlt, List.getElem?_drop] at q3
  refine ⟨u, _, _, ⟨hi, by obtain ⟨A, c, e⟩ := ownsRow_slice q1; exact ⟨A, _, c, e⟩, e1, t1, ht1, cells, bss.set i b', k1, q3, DRow_of (by rw [List.length_set, hlen]; simp [putBack]) fun k y bb hk hbb => ?_, rfl⟩, (own_noOs hn).2 ⟨⟨c1, q1, q2⟩, rfl⟩, ?_⟩
  · unfold putBack at hk
    rw [List.getElem?_set] at hk hbb
    split at hk
    · rename_i e
      subst e
      rw [if_pos rfl, if_pos hbi] at hbb
      try rw [if_pos hi] at hk
      cases hk; cases hbb
      rw [chunk_set hlt, if_pos rfl]
      exact q4
    · rename_i e
      rw [if_neg e] at hbb
      obtain ⟨b2, e2, k9⟩ := DRow_get k3 k y hk
      rw [hbb] at e2; cases e2
      rwa [chunk_set hlt, if_neg (fun h => e h.symm)]
  · rw [List.append_assoc]
    refine List.Perm.append_left _ ?_
    have : bss = (bss.set i b').set i b := by
      rw [List.set_set]
      apply List.ext_getElem?
      intro k
      rw [List.getElem?_set]
      split
      · rename_i e; subst e; first | exact hb | rw [if_pos hbi, hb]
      · rfl
    conv => lhs; rw [this]
    exact perm_set (by rw [List.getElem?_set, if_pos rfl, if_pos hbi]) q5

end Go.Gx

/-
  Gx, part D1: what is handed on is taken out of a state.
-/
set_option linter.unusedVariables false
set_option linter.unusedSimpArgs false
namespace Go.Gx

structure Tk (ρ : Rho) (F F1 : Nat → Prop) (σ σ1 : St) (bs : List Nat) : Prop where
  sl : σ1.sl = σ.sl
  ob : ∀ n, σ1.ob n = σ.ob n ∨ (σ1.ob n = .dead ∧ σ.live n)
  up : ∀ b, F b → F1 b
  dn : ∀ b, F1 b → F b ∨ ∃ n, blk ρ n (σ.ob n) b ∧ σ1.ob n = .dead
  hb : ∀ b ∈ bs, ¬ F1 b ∧ ∃ n, blk ρ n (σ.ob n) b ∧ σ1.ob n = .dead
  nd : bs.Nodup
theorem Tk.refl (ρ : Rho) (F : Nat → Prop) (σ : St) : Tk ρ F F σ σ [] :=
  ⟨rfl, fun _ => .inl rfl, fun _ h => h, fun _ h => .inl h, fun _ h => by simp at h, by simp⟩
theorem Tk.live {ρ : Rho} {F F1 : Nat → Prop} {σ σ1 : St} {bs : List Nat} (h : Tk ρ F F1 σ σ1 bs) : ∀ n, σ.live n → σ1.live n := by
  intro n hn e
  rcases h.ob n with h1 | ⟨h1, _⟩
  · rw [h1] at e; exact hn e
  · rw [h1] at e; cases e
theorem Tk.lv {ρ : Rho} {F F1 : Nat → Prop} {σ σ1 : St} {bs : List Nat} (h : Tk ρ F F1 σ σ1 bs) : ∀ n, σ.lv ρ n → σ1.lv ρ n := fun n hn => hn.imp (h.live n) id
theorem blk_dead {ρ : Rho} {n b : Nat} : ¬ blk ρ n .dead b := by simp [blk, Obj.held]
theorem Tk.trans {cx : Ctx} {nt : Fr} {ρ : Rho} {F F1 F2 : Nat → Prop} {σ σ1 σ2 : St} {a : Act} {w : World} {b1 b2 : List Nat} (hs : Sim cx nt ρ F σ a w) (h : Tk ρ F F1 σ σ1 b1) (h' : Tk ρ F1 F2 σ1 σ2 b2) :
    Tk ρ F F2 σ σ2 (b1 ++ b2) := by
  have same : ∀ n b, blk ρ n (σ1.ob n) b → blk ρ n (σ.ob n) b ∧ σ1.ob n ≠ .dead := by
    intro n b hb
    rcases h.ob n with h1 | ⟨h1, _⟩
    · exact ⟨by rw [← h1]; exact hb, fun e => by rw [e] at hb; exact blk_dead hb⟩
    · rw [h1] at hb; exact absurd hb blk_dead
  have dead2 : ∀ n, σ1.ob n = .dead → σ2.ob n = .dead := by
    intro n hn
    rcases h'.ob n with h1 | ⟨h1, _⟩
    · rw [h1]; exact hn
    · exact h1
  refine ⟨h'.sl.trans h.sl, fun n => ?_, fun b hb => h'.up b (h.up b hb), fun b hb => ?_, fun b hb => ?_, ?_⟩
  · rcases h'.ob n with h1 | ⟨h1, hl⟩
    · rcases h.ob n with h2 | ⟨h2, hl⟩
      · exact .inl (h1.trans h2)
      · exact .inr ⟨h1.trans h2, hl⟩
    · refine .inr ⟨h1, ?_⟩
      rcases h.ob n with h2 | ⟨h2, hl'⟩
      · intro e; exact hl (h2.trans e)
      · exact hl'
  · rcases h'.dn b hb with h1 | ⟨n, hn, hd⟩
    · rcases h.dn b h1 with h2 | ⟨n, hn, hd⟩
      · exact .inl h2
      · exact .inr ⟨n, hn, dead2 n hd⟩
    · exact .inr ⟨n, (same n b hn).1, hd⟩
  · rcases List.mem_append.1 hb with hb | hb
    · obtain ⟨h1, n, hn, hd⟩ := h.hb b hb
      refine ⟨fun hf => ?_, n, hn, dead2 n hd⟩
      rcases h'.dn b hf with h2 | ⟨m, hm, _⟩
      · exact h1 h2
      · obtain ⟨hm1, hm2⟩ := same m b hm
        exact hs.disj n m b (fun e => hm2 (e ▸ hd)) hn hm1
    · obtain ⟨h1, n, hn, hd⟩ := h'.hb b hb
      exact ⟨h1, n, (same n b hn).1, hd⟩
  · rw [List.nodup_append]
    refine ⟨h.nd, h'.nd, fun b hb b' hb' e => ?_⟩
    subst e
    obtain ⟨_, n, hn, hd⟩ := h.hb b hb
    obtain ⟨_, m, hm, _⟩ := h'.hb b hb'
    obtain ⟨hm1, hm2⟩ := same m b hm
    exact hs.disj n m b (fun e => hm2 (e ▸ hd)) hn hm1
/-- The same blocks in another order. -/
theorem Tk.perm {ρ : Rho} {F F1 : Nat → Prop} {σ σ1 : St} {bs bs' : List Nat} (h : Tk ρ F F1 σ σ1 bs) (hp : bs'.Perm bs) : Tk ρ F F1 σ σ1 bs' :=
  ⟨h.sl, h.ob, h.up, h.dn, fun b hb => h.hb b (hp.mem_iff.1 hb), hp.nodup_iff.2 h.nd⟩
theorem setO_ob (σ : St) (n : Nat) (o : Obj) (m : Nat) : (σ.setO n o).ob m = if m = n then o else σ.ob m := by
  by_cases h : m = n
  · subst h; simp [St.setO]
  · have : Nat.beq m n = false := by cases hb : Nat.beq m n with
      | false => rfl
      | true => exact absurd (Nat.eq_of_beq_eq_true hb) h
    simp [St.setO, this, h]
theorem setS_sl (σ : St) (n : Nat) (o : SV) (m : Nat) : (σ.setS n o).sl m = if m = n then o else σ.sl m := by
  by_cases h : m = n
  · subst h; simp [St.setS]
  · have : Nat.beq m n = false := by cases hb : Nat.beq m n with
      | false => rfl
      | true => exact absurd (Nat.eq_of_beq_eq_true hb) h
    simp [St.setS, this, h]
theorem St.ext' {σ τ : St} (h1 : σ.sl = τ.sl) (h2 : ∀ n, σ.ob n = τ.ob n) : σ = τ := by
  cases σ; cases τ; simp only at h1 h2; subst h1; congr; exact funext h2
theorem setO_twice (σ : St) (n : Nat) (o o' : Obj) : (σ.setO n o).setO n o' = σ.setO n o' := St.ext' rfl fun m => by
  simp only [setO_ob]; split <;> rfl
theorem setO_self (σ : St) {n : Nat} {o : Obj} (h : σ.ob n = o) : σ.setO n o = σ := St.ext' rfl fun m => by
  rw [setO_ob]; split
  · rename_i e; rw [e, h]
  · rfl
theorem Sim.kill {cx : Ctx} {nt : Fr} {ρ : Rho} {F : Nat → Prop} {σ : St} {a : Act} {w : World} (h : Sim cx nt ρ F σ a w) {n : Nat} (hl : σ.live n) (fz : Bool) :
    Sim cx nt ρ (fun b => F b ∨ (fz = true ∧ blk ρ n (σ.ob n) b)) (σ.setO n .dead) a w := by
  have hlv : ∀ m, σ.live m → (σ.setO n .dead).live m := by
    intro m hm e
    rw [setO_ob] at e
    split at e
    · cases e
    · exact hm e
  refine h.step (fun m => m = n) (fun _ => False) (fun _ => False) (Pr.refl _ _) (fun _ h => h.elim) (fun _ h => h.elim) (fun m hm => by rw [setO_ob, if_neg hm]) hlv (Goes.refl _ _ _) (fun _ h => .inl h)
    (fun b hb => ?_) (fun m hm => ?_) (fun m b hm hb => ?_) (fun m k b hm hk hne => absurd (hm.trans hk.symm) hne) h.defers h.size h.pin (fun s => .inl ⟨rfl, rfl⟩)
  · rcases hb with hb | ⟨_, hb⟩
    · exact .inl hb
    · exact .inr ⟨blk_lt (h.objs n) hb, .inl ⟨n, rfl, hb⟩⟩
  · subst hm; rw [setO_ob, if_pos rfl]; trivial
  · subst hm; rw [setO_ob, if_pos rfl] at hb; exact absurd hb blk_dead
theorem Tk.kill {cx : Ctx} {nt : Fr} {ρ : Rho} {F : Nat → Prop} {σ : St} {a : Act} {w : World} (h : Sim cx nt ρ F σ a w) {n : Nat} (hl : σ.live n) (hh : (σ.ob n).held = true) (fz : Bool) :
    Tk ρ F (fun b => F b ∨ (fz = true ∧ blk ρ n (σ.ob n) b)) σ (σ.setO n .dead) (if fz then [] else ρ.bk n) := by
  refine ⟨rfl, fun m => ?_, fun _ h => .inl h, fun b hb => ?_, fun b hb => ?_, ?_⟩
  · rw [setO_ob]
    split
    · rename_i e; exact .inr ⟨rfl, e ▸ hl⟩
    · exact .inl rfl
  · rcases hb with hb | ⟨_, hb⟩
    · exact .inl hb
    · exact .inr ⟨n, hb, by rw [setO_ob, if_pos rfl]⟩
  · cases fz with
    | true => simp at hb
    | false =>
      simp only [Bool.false_eq_true, if_false] at hb
      refine ⟨fun hf => ?_, n, ⟨hh, hb⟩, by rw [setO_ob, if_pos rfl]⟩
      rcases hf with hf | ⟨hf, _⟩
      · exact (h.own n b ⟨hh, hb⟩).1 hf
      · cases hf
  · cases fz with
    | true => simp
    | false => simpa using bk_nodup (h.objs n) hh
/-- It is given up without being read. -/
theorem Tk.drop {cx : Ctx} {nt : Fr} {ρ : Rho} {F : Nat → Prop} {σ : St} {a : Act} {w : World} (h : Sim cx nt ρ F σ a w) {n : Nat} (hl : σ.live n) :
    Tk ρ F (fun b => F b ∨ (false = true ∧ blk ρ n (σ.ob n) b)) σ (σ.setO n .dead) [] := by
  refine ⟨rfl, fun m => ?_, fun _ h => .inl h, fun b hb => ?_, fun b hb => by simp at hb, by simp⟩
  · rw [setO_ob]
    split
    · rename_i e; exact .inr ⟨rfl, e ▸ hl⟩
    · exact .inl rfl
  · rcases hb with hb | ⟨hb, _⟩
    · exact .inl hb
    · cases hb
section
variable {α : Type} {cx : Ctx} {nt : Fr} {ρ : Rho} {F : Nat → Prop} {σ : St} {a : Act} {w : World} {r : α × St}
theorem castL_exec {t' t : Ty} {xs : List t'.I} {K : List t.I → M α} (h : (castL t xs K).exec σ = some r) : ∃ e : t' = t, (K (e ▸ xs)).exec σ = some r := by
  unfold castL at h
  split at h
  · rename_i e; exact ⟨e, h⟩
  · simp [M.exec] at h
theorem castM_exec {t' t : Ty} {xs : List (Int × t'.I)} {K : List (Int × t.I) → M α} (h : (castM t xs K).exec σ = some r) : ∃ e : t' = t, (K (e ▸ xs)).exec σ = some r := by
  unfold castM at h
  split at h
  · rename_i e; exact ⟨e, h⟩
  · simp [M.exec] at h
theorem castO_exec {t' t : Ty} {xs : Option (List t'.I)} {K : Option (List t.I) → M α} (h : (castO t xs K).exec σ = some r) : ∃ e : t' = t, (K (e ▸ xs)).exec σ = some r := by
  unfold castO at h
  split at h
  · rename_i e; exact ⟨e, h⟩
  · simp [M.exec] at h
theorem opt_exec {β : Type} {x : Option β} {k : β → M α} (h : (M.opt x k).exec σ = some r) : ∃ b, x = some b ∧ (k b).exec σ = some r := by
  cases x with
  | none => cases h
  | some b => exact ⟨b, rfl, h⟩
theorem test_exec {b : Bool} {m : M α} (h : (M.test b m).exec σ = some r) : b = true ∧ m.exec σ = some r := by
  cases b with
  | false => simp [M.exec] at h
  | true => exact ⟨rfl, h⟩
/-- Data told as those of another type. -/
theorem convT_TC {F : Nat → Prop} {w : World} : ∀ {t' t : Ty} {f : t'.I → t.I}, convT t' t = some f → ∀ {x : t'.I} {cs : List Value}, TC F w t' x cs → TC F w t (f x) cs
  | .slo a, .sl b, f, h, x, cs, hx => by
    simp only [convT] at h
    split at h
    · rename_i e
      subst e
      simp only [Option.some.injEq] at h
      subst h
      obtain ⟨_, A, c, h1, h2, h3, h4⟩ := hx
      exact ⟨A, c, h1, h2, h3, h4⟩
    · cases h
  | .pair a b, .pair c d, f, h, x, cs, hx => by
    simp only [convT] at h
    split at h
    · rename_i f1 f2 e1 e2
      simp only [Option.some.injEq] at h
      subst h
      obtain ⟨c1, c2, e, h1, h2⟩ := hx
      exact ⟨c1, c2, e, convT_TC e1 h1, convT_TC e2 h2⟩
    · cases h
  | .int a, .int b, f, h, x, cs, hx => by
    simp only [convT] at h
    split at h
    · rename_i e
      subst e
      simp only [Option.some.injEq] at h
      subst h
      exact hx
    · cases h
  | .bool, .bool, f, h, x, cs, hx => by
    simp only [convT, Option.some.injEq] at h
    subst h
    exact hx
  | .str, .str, f, h, x, cs, hx => by
    simp only [convT, Option.some.injEq] at h
    subst h
    exact hx
  | .slo a, .int _, f, h, x, cs, hx => by simp [convT] at h
  | .slo a, .bool, f, h, x, cs, hx => by simp [convT] at h
  | .slo a, .str, f, h, x, cs, hx => by simp [convT] at h
  | .slo a, .slo _, f, h, x, cs, hx => by simp [convT] at h
  | .slo a, .pair _ _, f, h, x, cs, hx => by simp [convT] at h
  | .sl a, _, f, h, x, cs, hx => by simp [convT] at h
  | .pair a b, .int _, f, h, x, cs, hx => by simp [convT] at h
  | .pair a b, .bool, f, h, x, cs, hx => by simp [convT] at h
  | .pair a b, .str, f, h, x, cs, hx => by simp [convT] at h
  | .pair a b, .slo _, f, h, x, cs, hx => by simp [convT] at h
  | .pair a b, .sl _, f, h, x, cs, hx => by simp [convT] at h
  | .int a, .pair _ _, f, h, x, cs, hx => by simp [convT] at h
  | .int a, .bool, f, h, x, cs, hx => by simp [convT] at h
  | .int a, .str, f, h, x, cs, hx => by simp [convT] at h
  | .int a, .slo _, f, h, x, cs, hx => by simp [convT] at h
  | .int a, .sl _, f, h, x, cs, hx => by simp [convT] at h
  | .bool, .int _, f, h, x, cs, hx => by simp [convT] at h
  | .bool, .pair _ _, f, h, x, cs, hx => by simp [convT] at h
  | .bool, .str, f, h, x, cs, hx => by simp [convT] at h
  | .bool, .slo _, f, h, x, cs, hx => by simp [convT] at h
  | .bool, .sl _, f, h, x, cs, hx => by simp [convT] at h
  | .str, .int _, f, h, x, cs, hx => by simp [convT] at h
  | .str, .bool, f, h, x, cs, hx => by simp [convT] at h
  | .str, .pair _ _, f, h, x, cs, hx => by simp [convT] at h
  | .str, .slo _, f, h, x, cs, hx => by simp [convT] at h
  | .str, .sl _, f, h, x, cs, hx => by simp [convT] at h
theorem convT_sz {t' : Ty} : ∀ {t : Ty} {f : t'.I → t.I}, convT t' t = some f → t.sz = t'.sz := by
  induction t' with
  | pair a b iha ihb =>
    intro t f h
    cases t with
    | pair c d =>
      simp only [convT] at h
      split at h
      · rename_i f1 f2 e1 e2
        simp only [Ty.sz, iha e1, ihb e2]
      · cases h
    | _ => simp [convT] at h
  | _ => intro t f h; cases t <;> first | rfl | (simp [convT] at h)
/-- Rows that own slices, told as such. -/
theorem convO_sz {t' : Ty} : ∀ {t : Ty} {f : t'.I → t.I}, convO t' t = some f → t.sz = t'.sz := by
  induction t' with
  | pair a b iha ihb =>
    intro t f h
    cases t with
    | pair c d =>
      simp only [convO] at h
      split at h
      · rename_i f1 f2 e1 e2
        simp only [Ty.sz, iha e1, ihb e2]
      · cases h
    | _ => simp [convO] at h
  | _ => intro t f h; cases t <;> first | rfl | (simp [convO] at h)
theorem convO_DC {F : Nat → Prop} {w : World} {t' : Ty} : ∀ {t : Ty} {f : t'.I → t.I}, convO t' t = some f → ∀ {x : t'.I} {cs : List Value} {bs : List Nat}, DC F w t' x cs bs → DC F w t (f x) cs bs := by
  induction t' with
  | pair a b iha ihb =>
    intro t f h x cs bs hx
    cases t with
    | pair c d =>
      simp only [convO] at h
      split at h
      · rename_i f1 f2 e1 e2
        simp only [Option.some.injEq] at h
        subst h
        obtain ⟨c1, c2, b1, b2, e, e', h1, h2⟩ := hx
        exact ⟨c1, c2, b1, b2, e, e', iha e1 h1, ihb e2 h2⟩
      · cases h
    | _ => simp [convO] at h
  | oso e a =>
    intro t f h x cs bs hx
    cases t with
    | os e2 b =>
      simp only [convO] at h
      split at h
      · rename_i ea
        subst ea
        split at h
        · rename_i ee
          subst ee
          simp only [Option.some.injEq] at h
          subst h
          obtain ⟨v, cells, h1, h2, h3, h4, _⟩ := hx
          exact ⟨v, cells, h1, h2, h3, h4⟩
        · cases h
      · cases h
    | _ => simp [convO] at h
  | int k =>
    intro t f h x cs bs hx
    cases t with
    | int k2 =>
      simp only [convO] at h
      split at h
      · rename_i e
        subst e
        simp only [Option.some.injEq] at h
        subst h
        exact hx
      · cases h
    | _ => simp [convO] at h
  | bool =>
    intro t f h x cs bs hx
    cases t with
    | bool => simp only [convO, Option.some.injEq] at h; subst h; exact hx
    | _ => simp [convO] at h
  | str =>
    intro t f h x cs bs hx
    cases t with
    | str => simp only [convO, Option.some.injEq] at h; subst h; exact hx
    | _ => simp [convO] at h
  | _ => intro t f h; cases t <;> simp [convO] at h
theorem convO_DRow {F : Nat → Prop} {w : World} {t' t : Ty} {f : t'.I → t.I} (hf : convO t' t = some f) : ∀ {xs : List t'.I} {cells : List Value} {bss : List (List Nat)}, DRow F w t' xs cells bss → DRow F w t (xs.map f) cells bss
  | [], _, _, h => h
  | x :: xs, cells, bss, h => by
    obtain ⟨b, bss', e, h1, h2⟩ := h
    have hz := convO_sz hf
    refine ⟨b, bss', e, ?_, ?_⟩
    · rw [hz]; exact convO_DC hf h1
    · rw [hz]; exact convO_DRow hf h2
theorem castW_exec {t' t : Ty} {xs : List t'.I} {K : List t.I → M α} (h : (castW t xs K).exec σ = some r) : ∃ ys, (∀ {F w e v bs}, OwnR F w e t' xs v bs → OwnR F w e t ys v bs) ∧ (K ys).exec σ = some r := by
  unfold castW at h
  split at h
  · rename_i e
    subst e
    exact ⟨xs, fun h => h, h⟩
  · split at h
    · rename_i f hf
      refine ⟨_, ?_, h⟩
      rintro F w e v bs ⟨cells, bss, h1, h2, h3⟩
      exact ⟨cells, bss, by rw [List.length_map, convO_sz hf]; exact h1, convO_DRow hf h2, h3⟩
    · simp [M.exec] at h
structure Cv (t' t : Ty) (xs : List t'.I) (ys : List t.I) : Prop where
  len : ys.length = xs.length
  sz : t.sz = t'.sz
  el : ∀ (i : Nat) (y : t.I), ys[i]? = some y → ∃ x, xs[i]? = some x ∧ ∀ F w cs, TC F w t' x cs → TC F w t y cs
theorem convL_exec {t' t : Ty} {xs : List t'.I} {K : List t.I → M α} (h : (convL t xs K).exec σ = some r) : ∃ ys, Cv t' t xs ys ∧ (K ys).exec σ = some r := by
  unfold convL at h
  split at h
  · rename_i e
    subst e
    exact ⟨xs, ⟨rfl, rfl, fun i y hy => ⟨y, hy, fun _ _ _ h => h⟩⟩, h⟩
  · split at h
    · rename_i f hf
      refine ⟨_, ⟨by simp, convT_sz hf, fun i y hy => ?_⟩, h⟩
      rw [List.getElem?_map] at hy
      cases hx : xs[i]? with
      | none => rw [hx] at hy; simp at hy
      | some x =>
        rw [hx] at hy
        simp only [Option.map_some, Option.some.injEq] at hy
        subst hy
        exact ⟨x, rfl, fun F w cs => convT_TC hf⟩
    · simp [M.exec] at h
theorem Cv.TC {t' t : Ty} {xs : List t'.I} {ys : List t.I} (h : Cv t' t xs ys) {F : Nat → Prop} {w : World} {v : Value} (hx : TC F w (.sl t') xs [v]) : TC F w (.sl t) ys [v] := by
  obtain ⟨A, c, h1, h2, h3, h4⟩ := hx
  refine ⟨A, c, by rw [h.len]; exact h1, by rw [h.len]; exact h2, h3, fun i y hy => ?_⟩
  obtain ⟨x, hx, ht⟩ := h.el i y hy
  obtain ⟨ad, ds, q1, q2, q3, q4⟩ := h4 i x hx
  exact ⟨ad, ds, q1, q2, ht _ _ _ q3, fun j u hj => by rw [h.sz]; exact q4 j u hj⟩
theorem Cv.RowC {t' t : Ty} {xs : List t'.I} {ys : List t.I} (h : Cv t' t xs ys) {F : Nat → Prop} {w : World} {cells : List Value} (hx : RowC F w t' xs cells) : RowC F w t ys cells := by
  intro i y hy
  obtain ⟨x, hx', ht⟩ := h.el i y hy
  rw [h.sz]
  exact ht _ _ _ (hx i x hx')
theorem Cv.sub {t' t : Ty} {xs : List t'.I} {ys : List t.I} (h : Cv t' t xs ys) (lo hi : Nat) : Cv t' t ((xs.take hi).drop lo) ((ys.take hi).drop lo) := by
  refine ⟨by simp [h.len], h.sz, fun i y hy => ?_⟩
  obtain ⟨h1, h2⟩ := sub_get hy
  obtain ⟨x, hx, ht⟩ := h.el _ y h1
  refine ⟨x, ?_, ht⟩
  rw [List.getElem?_drop, List.getElem?_take, if_pos h2]
  exact hx
theorem TC_roo {F : Nat → Prop} {w : World} {t : Ty} {x : Option (List t.I)} {cs : List Value} (h : TC F w (.slo t) x cs) : TC F w (.sl t) (x.getD []) cs := by
  obtain ⟨_, A, c, h1, h2, h3, h4⟩ := h
  exact ⟨A, c, h1, h2, h3, h4⟩
/-- What 'closeM' does. -/
inductive Closed (σ : St) (n : Nat) : St → Prop where
  | same : Closed σ n σ
  | hol (e e1 : TypeId) (t t1 : Ty) (xs : List t.I) (i off id : Nat) (ys : List t1.I) (h1 : σ.ob n = .hrow e t xs i off id) (h2 : σ.ob id = .row e1 t1 ys) (h3 : t.osAt off = some (e1, t1)) (h4 : t1.noOs = true) :
      Closed σ n ((σ.setO id .dead).setO n (.row e t (putBack xs i off ys)))
  | may (e : TypeId) (t : Ty) (xs : List t.I) (h1 : σ.ob n = .mrow e t (some xs)) : Closed σ n (σ.setO n (.row e t xs))
theorem closeM_exec {n : Nat} {K : M α} (h : (closeM n K).exec σ = some r) : ∃ σ1, Closed σ n σ1 ∧ K.exec σ1 = some r := by
  unfold closeM at h
  simp only [M.exec] at h
  split at h
  · rename_i e t xs i off id hob
    simp only [M.exec] at h
    split at h
    · rename_i e1 t1 ys hob2
      split at h
      · rename_i e2 t2 ho
        obtain ⟨ht, hx⟩ := test_exec h
        clear h
        simp only [Bool.and_eq_true, decide_eq_true_eq] at ht
        obtain ⟨⟨h1, h2⟩, h3⟩ := ht
        have h1 := Nat.eq_of_beq_eq_true h1
        subst h1 h2
        simp only [M.exec] at hx
        exact ⟨_, .hol e e1 t t1 xs i off id ys hob hob2 ho h3, hx⟩
      · simp [M.exec] at h
    · simp [M.exec] at h
  · rename_i e t x hob
    obtain ⟨xs, rfl, h⟩ := opt_exec h
    simp only [M.exec] at h
    exact ⟨_, .may e t xs hob, h⟩
  · exact ⟨_, .same, h⟩
/-- A row that is taken whole. -/
theorem whole_sound {n : Nat} {k : Obj → M α} (hk : ∀ o, (∀ e t xs, o ≠ .row e t xs) → k o = .fail) (h : (closeM n (.getO n k)).exec σ = some r) (hs : Sim cx nt ρ F σ a w) (fz : Bool) :
    ∃ (e : TypeId) (t : Ty) (xs : List t.I) (σ1 : St), (k (.row e t xs)).exec σ1 = some r ∧ ∃ F1 bs, Sim cx nt ρ F1 (σ1.setO n .dead) a w ∧ Tk ρ F F1 σ (σ1.setO n .dead) (if fz then [] else bs) ∧
      OwnR F w e t xs (ρ.hd n) bs ∧ ρ.es n = t.sz ∧ (fz = true → ∀ b ∈ bs, F1 b) := by
  obtain ⟨σ1, hc, h⟩ := closeM_exec h
  have hkr : ∀ {σ1 : St}, (M.getO n k).exec σ1 = some r → ∃ (e : TypeId) (t : Ty) (xs : List t.I), σ1.ob n = .row e t xs ∧ (k (.row e t xs)).exec σ1 = some r := by
    intro σ1 h
    simp only [M.exec] at h
    cases ho : σ1.ob n with
    | row e t xs => rw [ho] at h; exact ⟨e, t, xs, rfl, h⟩
    | _ => rw [ho, hk _ (by simp)] at h; simp [M.exec] at h
  obtain ⟨e, t, xs, hob, h⟩ := hkr h
  cases hc with
  | same =>
    have hor := hs.objs n
    rw [hob] at hor
    have hl : σ.live n := by intro e; rw [hob] at e; cases e
    have hh : (σ.ob n).held = true := by rw [hob]; rfl
    refine ⟨e, t, xs, σ, h, _, ρ.bk n, hs.kill hl fz, Tk.kill hs hl hh fz, hor.2.1, hor.1, fun hf b hb => .inr ⟨hf, hh, hb⟩⟩
  | may e' t' xs' h1 =>
    rw [setO_ob, if_pos rfl] at hob
    cases hob
    have hor := hs.objs n
    rw [h1] at hor
    have hl : σ.live n := by intro e; rw [h1] at e; cases e
    have hh : (σ.ob n).held = true := by rw [h1]; rfl
    refine ⟨e, t, xs, _, h, ?_⟩
    rw [setO_twice]
    exact ⟨_, ρ.bk n, hs.kill hl fz, Tk.kill hs hl hh fz, hor.2.1, hor.1, fun hf b hb => .inr ⟨hf, hh, hb⟩⟩
  | hol e' e1 t' t1 xs' i off id ys h1 h2 h3 h4 =>
    rw [setO_ob, if_pos rfl] at hob
    cases hob
    have hor := hs.objs n
    rw [h1] at hor
    have hor2 := hs.objs id
    rw [h2] at hor2
    have hne : id ≠ n := by intro e; subst e; rw [h1] at h2; cases h2
    have hl : σ.live n := by intro e; rw [h1] at e; cases e
    have hl2 : σ.live id := by intro e; rw [h2] at e; cases e
    have hh : (σ.ob n).held = true := by rw [h1]; rfl
    have hh2 : (σ.ob id).held = true := by rw [h2]; rfl
    obtain ⟨he, hlv, hho, hnd⟩ := hor
    obtain ⟨bs', hb1, hb2⟩ := Hol_close h3 h4 hho hor2.2.1
    have s1 := hs.kill hl2 fz
    have hob1 : (σ.setO id .dead).ob n = σ.ob n := by rw [setO_ob, if_neg (fun e => hne e.symm)]
    have hl1 : (σ.setO id .dead).live n := by intro e; rw [hob1] at e; exact hl e
    have s2 := s1.kill hl1 fz
    have k1 := Tk.kill hs hl2 hh2 fz
    have k2 := Tk.kill s1 hl1 (by rw [hob1]; exact hh) fz
    have k3 := Tk.trans hs k1 k2
    refine ⟨e, t, _, _, h, ?_⟩
    rw [setO_twice]
    refine ⟨_, bs', s2, ?_, hb1, he, fun hf b hb => ?_⟩
    · cases fz with
      | true => simpa using k3
      | false =>
        simp only [Bool.false_eq_true, if_false] at k3 ⊢
        exact k3.perm (hb2.trans List.perm_append_comm)
    · rcases List.mem_append.1 (hb2.mem_iff.1 hb) with hb | hb
      · exact .inr ⟨hf, by rw [hob1]; exact ⟨hh, hb⟩⟩
      · exact .inl (.inr ⟨hf, hh2, hb⟩)
/-- The names as seen from a call. -/
def Rho.pull (ρ : Rho) (B : Nat → Nat) : Rho := ⟨fun i => ρ.hd (B i), fun i => ρ.bx (B i), fun i => ρ.es (B i), fun _ => [], fun _ => False⟩
theorem capsOk_R {B : Nat → Nat} {lv : Nat → Prop} : ∀ {ids : List Nat} {cs : List SV} {us : List Value}, capsOk B ids cs = true → CapR ρ lv cs us → us = ids.map fun i => Value.pointer (some ⟨ρ.bx (B i), 0, none⟩)
  | [], [], [], _, _ => rfl
  | [], [], _ :: _, _, h => h.elim
  | [], _ :: _, _, h, _ => by simp [capsOk] at h
  | _ :: _, [], _, h, _ => by simp [capsOk] at h
  | i :: ids, c :: cs, us, h, hc => by
    cases c with
    | box n off =>
      cases off with
      | zero =>
        simp only [capsOk, Bool.and_eq_true] at h
        have := Nat.eq_of_beq_eq_true h.1
        subst this
        cases us with
        | nil => exact hc.elim
        | cons u us =>
          obtain ⟨_, h2, h3⟩ := hc
          rw [h2, capsOk_R h.2 h3]; rfl
      | succ => simp [capsOk] at h
    | _ => simp [capsOk] at h
theorem takeL_sound {B : Nat → Nat} {l : LS} {sv : SV} {K : l.I → M α} {v : Value} (h : (takeL false B l sv K).exec σ = some r) (hs : Sim cx nt ρ F σ a w) (hv : LR0 ρ F w (σ.lv ρ) sv v) :
    ∃ x σ1 F1 bs, (K x).exec σ1 = some r ∧ Sim cx nt ρ F1 σ1 a w ∧ Tk ρ F F1 σ σ1 bs ∧ BRL (ρ.pull B) F1 w l x v bs := by
  have plain : ∀ (x : l.I), (K x).exec σ = some r → BRL (ρ.pull B) F w l x v [] → ∃ x σ1 F1 bs, (K x).exec σ1 = some r ∧ Sim cx nt ρ F1 σ1 a w ∧ Tk ρ F F1 σ σ1 bs ∧ BRL (ρ.pull B) F1 w l x v bs :=
    fun x h1 h2 => ⟨x, σ, F, [], h1, hs, Tk.refl _ _ _, h2⟩
  have up : ∀ {F1 : Nat → Prop} {e : TypeId} {t : Ty} {xs : List t.I} {v : Value} {bs : List Nat}, (∀ b, F b → F1 b) → OwnR F w e t xs v bs → OwnR F1 w e t xs v bs :=
    fun hF h => OwnR_mono hF (fun _ _ => rfl) (fun _ _ => rfl) h
  unfold takeL at h
  split at h
  · obtain ⟨h1, h2⟩ := test_exec h
    have := of_decide_eq_true h1
    subst this
    exact plain _ h2 ⟨hv, rfl⟩
  · exact plain _ h ⟨hv, rfl⟩
  · exact plain _ h ⟨hv, rfl⟩
  · refine plain _ h ⟨?_, rfl⟩
    have : v = .slice none 0 0 := hv
    subst this
    exact ⟨none, 0, rfl, Nat.le_refl _, by simp [maxLen], fun i x hi => by simp at hi⟩
  · obtain ⟨ys, hc, h1⟩ := convL_exec h
    exact plain _ h1 ⟨hc.TC hv, rfl⟩
  · obtain ⟨ys, hc, h1⟩ := convL_exec h
    exact plain _ h1 ⟨hc.TC hv.1, rfl⟩
  · -- a row becomes read-only
    rename_i t n K
    obtain ⟨_, rfl, _⟩ := hv
    simp only [cond_false] at h
    obtain ⟨e, t', xs, σ1, h1, F1, bs, q1, q2, q3, q4, q5⟩ := whole_sound (fun o ho => by cases o <;> first | rfl | exact absurd rfl (ho _ _ _)) h hs true
    obtain ⟨ys, hcv, h1⟩ := convL_exec h1
    simp only [M.exec] at h1
    exact ⟨_, _, F1, [], h1, q1, q2, hcv.TC (ro_of_own q3 q2.up (q5 rfl)), rfl⟩
  · rename_i t n lo hi K
    obtain ⟨hl, hsub⟩ := hv
    simp only [M.exec] at h
    split at h
    · rename_i e t' xs ho
      obtain ⟨ys, hcv, h1⟩ := convL_exec h
      simp only [cond_false, M.exec] at h1
      have hob := hs.objs n
      rw [ho] at hob
      have hl : σ.live n := by intro e; rw [ho] at e; cases e
      have hh : (σ.ob n).held = true := by rw [ho]; rfl
      obtain ⟨hes, hown, _⟩ := hob
      rw [hes] at hsub
      refine ⟨_, _, _, _, h1, hs.kill hl true, Tk.kill hs hl hh true, ?_, rfl⟩
      exact (hcv.sub lo hi).TC <| TC_sub (ro_of_own hown (fun _ h => .inl h) (fun b hb => .inr ⟨rfl, hh, hb⟩)) (by rw [t'.ro_sz]; exact hsub)
    · simp [M.exec] at h
  · obtain ⟨ys, hc, h1⟩ := convL_exec h
    exact plain _ h1 ⟨hc.TC (TC_roo hv), rfl⟩
  · obtain ⟨us, e, hc⟩ := hv
    cases us with
    | nil => exact plain _ h ⟨e, rfl⟩
    | cons => exact hc.elim
  · obtain ⟨h1, h2⟩ := test_exec h
    have := Nat.eq_of_beq_eq_true h1
    subst this
    obtain ⟨us, e, hc⟩ := hv
    cases us with
    | nil => exact plain _ h2 ⟨e, rfl⟩
    | cons => exact hc.elim
  · exact plain _ h ⟨hv, rfl⟩
  · refine plain _ h ?_
    have : v = .slice none 0 0 := hv
    subst this
    exact own_nil
  · rename_i e t t' x K
    obtain ⟨h1, h2⟩ := test_exec h
    have hn : x = none := by simpa using h1
    have hv' : v = .slice none 0 0 := by have := hv.1 hn; simpa using this
    subst hv'
    exact plain _ h2 own_nil
  · rename_i e t b K
    obtain ⟨h1, h2⟩ := test_exec h
    have hv' : v = .slice none 0 0 := hv.2 h1
    subst hv'
    exact plain _ h2 own_nil
  · -- a row
    rename_i e t n K
    obtain ⟨_, rfl, _⟩ := hv
    obtain ⟨e1, t', xs, σ1, h1, F1, bs, q1, q2, q3, q4, q5⟩ := whole_sound (fun o ho => by cases o <;> first | rfl | exact absurd rfl (ho _ _ _)) h hs false
    obtain ⟨ht, h1⟩ := test_exec h1
    have := Nat.eq_of_beq_eq_true ht
    subst this
    obtain ⟨ys, e', h1⟩ := castW_exec h1
    simp only [M.exec] at h1
    exact ⟨_, _, F1, bs, h1, q1, q2, up q2.up (e' q3)⟩
  · rename_i e t n hi K
    obtain ⟨hl, hsub⟩ := hv
    simp only [M.exec] at h
    split at h
    · rename_i e1 t' xs ho
      obtain ⟨ht, h⟩ := test_exec h
      simp only [Bool.and_eq_true] at ht
      have := Nat.eq_of_beq_eq_true ht.1
      subst this
      obtain ⟨e', h1⟩ := castL_exec h
      subst e'
      simp only [M.exec] at h1
      have hob := hs.objs n
      rw [ho] at hob
      have hl : σ.live n := by intro e; rw [ho] at e; cases e
      have hh : (σ.ob n).held = true := by rw [ho]; rfl
      obtain ⟨hes, hown, _⟩ := hob
      obtain ⟨⟨cells, hrow, hc⟩, hbk⟩ := (own_noOs ht.2).1 hown
      rw [hes] at hsub
      obtain ⟨ht1, ht2⟩ := own_take hrow hsub
      have hlen : (xs.take hi).length = hi := by
        obtain ⟨A, l, c, A2, e0, _, hle, _⟩ := hsub
        rw [List.length_take]
        rcases hrow.2 with ⟨e1, e2⟩ | ⟨g, cap, cur, e1, _⟩
        · rw [e0] at e1; simp only [Value.slice.injEq] at e1; omega
        · rw [e0] at e1; simp only [Value.slice.injEq] at e1; omega
      refine ⟨_, _, _, _, h1, hs.kill hl false, Tk.kill hs hl hh false, ?_⟩
      simp only [Bool.false_eq_true, if_false]
      exact up (fun _ h => .inl h) ((own_noOs ht.2).2 ⟨⟨cells.take (hi * t'.sz), by rw [hlen]; exact ht1, RowC_take hc hi⟩, by rw [hbk, ht2]⟩)
    · simp [M.exec] at h
  · exact plain _ h rfl
  · obtain ⟨h1, h2⟩ := test_exec h
    exact plain _ h2 ⟨(One_of_LR0 h1 hv).1, rfl⟩
  · -- a row with a name
    rename_i id e t n K
    obtain ⟨_, rfl, _⟩ := hv
    obtain ⟨hn, h⟩ := test_exec h
    have hn := Nat.eq_of_beq_eq_true hn
    obtain ⟨e1, t', xs, σ1, h1, F1, bs, q1, q2, q3, q4, q5⟩ := whole_sound (fun o ho => by cases o <;> first | rfl | exact absurd rfl (ho _ _ _)) h hs false
    obtain ⟨ht, h1⟩ := test_exec h1
    simp only [Bool.and_eq_true] at ht
    have hsz := Nat.eq_of_beq_eq_true ht.2
    have := Nat.eq_of_beq_eq_true ht.1
    subst this
    obtain ⟨ys, e', h1⟩ := castW_exec h1
    simp only [M.exec] at h1
    exact ⟨_, _, F1, bs, h1, q1, q2, up q2.up (e' q3), by simp [Rho.pull, hn], by simp [Rho.pull, ← hn, q4, hsz]⟩
  · refine plain _ h ?_
    have : v = .slice none 0 0 := hv
    subst this
    exact ⟨own_nil, fun h => by cases h⟩
  · rename_i id e t n K
    obtain ⟨_, rfl, _⟩ := hv
    obtain ⟨e1, t', xs, σ1, h1, F1, bs, q1, q2, q3, q4, q5⟩ := whole_sound (fun o ho => by cases o <;> first | rfl | exact absurd rfl (ho _ _ _)) h hs false
    obtain ⟨ht, h1⟩ := test_exec h1
    have := Nat.eq_of_beq_eq_true ht
    subst this
    obtain ⟨e', h1⟩ := castL_exec h1
    subst e'
    simp only [M.exec] at h1
    exact ⟨_, _, F1, bs, h1, q1, q2, up q2.up q3, fun hf => by have := Nat.eq_of_beq_eq_true hf; simp [Rho.pull, ← this]⟩
  · refine plain _ h ?_
    have : v = .slice none 0 0 := hv
    subst this
    exact ⟨⟨_, _, _, rfl⟩, own_nil⟩
  · -- perhaps a row
    rename_i e t n K
    obtain ⟨hlv, rfl, hsl⟩ := hv
    simp only [M.exec] at h
    split at h
    · rename_i e1 t' xs ho
      obtain ⟨ht, h⟩ := test_exec h
      have := Nat.eq_of_beq_eq_true ht
      subst this
      obtain ⟨e', h1⟩ := castL_exec h
      subst e'
      simp only [M.exec] at h1
      have hob := hs.objs n
      rw [ho] at hob
      have hl : σ.live n := by intro e; rw [ho] at e; cases e
      have hh : (σ.ob n).held = true := by rw [ho]; rfl
      refine ⟨_, _, _, _, h1, hs.kill hl false, Tk.kill hs hl hh false, hsl, ?_⟩
      exact up (fun _ h => .inl h) hob.2.1
    · rename_i e1 t' x ho
      obtain ⟨ht, h⟩ := test_exec h
      have := Nat.eq_of_beq_eq_true ht
      subst this
      obtain ⟨e', h1⟩ := castO_exec h
      subst e'
      simp only [M.exec] at h1
      have hl : σ.live n := by intro e; rw [ho] at e; cases e
      have hob := hs.objs n
      rw [ho] at hob
      cases x with
      | none => exact ⟨_, _, _, _, h1, hs.kill hl false, Tk.drop hs hl, hsl, rfl⟩
      | some xs =>
        have hh : (σ.ob n).held = true := by rw [ho]; rfl
        refine ⟨_, _, _, _, h1, hs.kill hl false, Tk.kill hs hl hh false, hsl, ?_⟩
        exact up (fun _ h => .inl h) hob.2.1
    · rename_i id fl ho
      simp only [M.exec] at h
      split at h
      · rename_i e1 t' xs ho2
        obtain ⟨ht, h⟩ := test_exec h
        have := Nat.eq_of_beq_eq_true ht
        subst this
        obtain ⟨e', h1⟩ := castL_exec h
        subst e'
        simp only [M.exec] at h1
        have hob := hs.objs n
        rw [ho] at hob
        have hob2 := hs.objs id
        rw [ho2] at hob2
        have hl : σ.live id := by intro e; rw [ho2] at e; cases e
        have hh : (σ.ob id).held = true := by rw [ho2]; rfl
        cases fl with
        | true =>
          refine ⟨_, _, _, _, h1, hs.kill hl false, Tk.kill hs hl hh false, hsl, ?_⟩
          rw [hob.2 rfl]
          exact up (fun _ h => .inl h) hob2.2.1
        | false => exact ⟨_, _, _, _, h1, hs.kill hl false, Tk.drop hs hl, hsl, rfl⟩
      · simp [M.exec] at h
    · exact plain _ h ⟨hsl, rfl⟩
    · simp [M.exec] at h
  · -- a row with a hole
    rename_i id e t off id2 n K
    obtain ⟨hlv, rfl, hsl⟩ := hv
    obtain ⟨hn, h⟩ := test_exec h
    have hn := Nat.eq_of_beq_eq_true hn
    simp only [M.exec] at h
    split at h
    · rename_i e1 t' xs i off' j ho
      obtain ⟨ht, hx⟩ := test_exec h
      clear h
      simp only [Bool.and_eq_true] at ht
      have h1 := Nat.eq_of_beq_eq_true ht.1.1
      have h2 := Nat.eq_of_beq_eq_true ht.1.2
      have h3 := Nat.eq_of_beq_eq_true ht.2
      subst h1 h2 h3
      obtain ⟨e', h1⟩ := castL_exec hx
      subst e'
      simp only [M.exec] at h1
      have hob := hs.objs n
      rw [ho] at hob
      have hl : σ.live n := by intro e; rw [ho] at e; cases e
      have hh : (σ.ob n).held = true := by rw [ho]; rfl
      refine ⟨_, _, _, _, h1, hs.kill hl false, Tk.kill hs hl hh false, ?_, by simp [Rho.pull, hn], by simp [Rho.pull, ← hn, hob.1]⟩
      exact HolR_mono (fun _ h => .inl h) (fun _ _ => rfl) (fun _ _ => rfl) hob.2.2.1
    · simp [M.exec] at h
  · obtain ⟨h1, h2⟩ := test_exec h
    have e1 := Nat.eq_of_beq_eq_true h1
    subst e1
    exact plain _ h2 ⟨hv.2, rfl⟩
  · obtain ⟨h1, h2⟩ := test_exec h
    have e1 := Nat.eq_of_beq_eq_true h1
    subst e1
    exact plain _ h2 ⟨hv.2, rfl⟩
  · rename_i n K
    simp only [M.exec] at h
    split at h
    · rename_i e t xs ho
      have hob := hs.objs n
      rw [ho] at hob
      obtain ⟨A, c, e1⟩ := OwnR_slice hob.2.1
      exact plain _ h ⟨⟨A, c, hv.2.1.trans e1⟩, rfl⟩
    · rename_i e t x ho
      obtain ⟨xs, hx, h⟩ := opt_exec h
      subst hx
      have hob := hs.objs n
      rw [ho] at hob
      obtain ⟨A, c, e1⟩ := OwnR_slice hob.2.1
      exact plain _ h ⟨⟨A, c, hv.2.1.trans e1⟩, rfl⟩
    · simp [M.exec] at h
  · exact plain _ h ⟨⟨none, 0, hv⟩, rfl⟩
  · obtain ⟨A, c, e1, _⟩ := hv
    simp only [List.cons.injEq, and_true] at e1
    exact plain _ h ⟨⟨A, c, e1⟩, rfl⟩
  · exact plain _ h ⟨hv, rfl⟩
  · obtain ⟨h1, h2⟩ := test_exec h
    simp only [Bool.and_eq_true] at h1
    have e1 := Nat.eq_of_beq_eq_true h1.1
    have e2 := Nat.eq_of_beq_eq_true h1.2
    subst e1 e2
    exact plain _ h2 ⟨hv.2, rfl⟩
  · exact plain _ h ⟨hv, rfl⟩
  · obtain ⟨h1, h2⟩ := test_exec h
    simp only [Bool.and_eq_true] at h1
    have e1 := Nat.eq_of_beq_eq_true h1.1
    have e2 := Nat.eq_of_beq_eq_true h1.2
    subst e1 e2
    exact plain _ h2 ⟨hv.2, rfl⟩
  · rename_i id off n off' x K
    obtain ⟨h1, h2⟩ := test_exec h
    simp only [Bool.and_eq_true] at h1
    have e1 := Nat.eq_of_beq_eq_true h1.1
    have e2 := Nat.eq_of_beq_eq_true h1.2
    subst e1 e2
    cases x with
    | none => exact plain _ h2 ⟨hv.2, rfl⟩
    | some i => exact plain _ h2 ⟨hv.2, rfl⟩
  · obtain ⟨h1, h2⟩ := test_exec h
    simp only [Bool.and_eq_true] at h1
    have e1 := Nat.eq_of_beq_eq_true h1.1.1
    subst e1
    obtain ⟨us, e, hc⟩ := hv
    refine plain _ h2 ⟨?_, rfl⟩
    rw [e, capsOk_R h1.1.2 hc]; rfl
  · rename_i t n K
    obtain ⟨hlv, rfl⟩ := hv
    simp only [M.exec] at h
    split at h
    · rename_i t' es ho
      obtain ⟨e', h1⟩ := castM_exec h
      subst e'
      simp only [M.exec] at h1
      have hob := hs.objs n
      rw [ho] at hob
      have hl : σ.live n := by intro e; rw [ho] at e; cases e
      have hh : (σ.ob n).held = true := by rw [ho]; rfl
      have hk := Tk.kill hs hl hh false
      simp only [Bool.false_eq_true, if_false, hob.2] at hk
      exact ⟨_, _, _, _, h1, hs.kill hl false, by simpa using hk, _, rfl, rfl, MapB_mono rfl hob.1⟩
    · simp [M.exec] at h
  · refine plain _ h ⟨⟨?_, none, 0, 0, ?_, rfl⟩, rfl⟩
    · have : v = .slice none 0 0 := hv
      subst this
      exact ⟨none, 0, rfl, Nat.le_refl _, by simp [maxLen], fun i x hi => by simp at hi⟩
    · exact hv
  · obtain ⟨e, h1⟩ := castL_exec h
    subst e
    exact plain _ h1 ⟨hv, rfl⟩
  · obtain ⟨ys, hcv, h1⟩ := convL_exec h
    obtain ⟨hlen, h1⟩ := test_exec h1
    have htc := hcv.TC hv
    refine plain _ h1 ⟨⟨htc, ?_⟩, rfl⟩
    obtain ⟨A, c, e1, _, _, hel⟩ := htc
    simp only [List.cons.injEq, and_true] at e1
    have hl0 : 0 < ys.length := Nat.le_of_ble_eq_true hlen
    obtain ⟨ad, _, hA, _⟩ := hel 0 _ (List.getElem?_eq_getElem hl0)
    exact ⟨A, _, c, e1, by rw [hA]; rfl⟩
  · rename_i t n K
    obtain ⟨_, rfl, _⟩ := hv
    obtain ⟨e, t', xs, σ1, h1, F1, bs, q1, q2, q3, q4, q5⟩ := whole_sound (fun o ho => by cases o <;> first | rfl | exact absurd rfl (ho _ _ _)) h hs true
    obtain ⟨ys, hcv, h1⟩ := convL_exec h1
    obtain ⟨hlen, h1⟩ := test_exec h1
    simp only [M.exec] at h1
    have htc := hcv.TC (ro_of_own q3 q2.up (q5 rfl))
    refine ⟨_, _, F1, [], h1, q1, q2, ⟨htc, ?_⟩, rfl⟩
    obtain ⟨A, c, e1, _, _, hel⟩ := htc
    simp only [List.cons.injEq, and_true] at e1
    have hl0 : 0 < ys.length := Nat.le_of_ble_eq_true hlen
    obtain ⟨ad, _, hA, _⟩ := hel 0 _ (List.getElem?_eq_getElem hl0)
    exact ⟨A, _, c, e1, by rw [hA]; rfl⟩
  · simp [M.exec] at h
end
end Go.Gx

/-
  Gx, part D2: lists of values taken, and lent.
-/
set_option linter.unusedVariables false
set_option linter.unusedSimpArgs false
namespace Go.Gx
section
variable {α : Type} {cx : Ctx} {nt : Fr} {B : Nat → Nat}
theorem Tk.LR0 {ρ : Rho} {F F1 : Nat → Prop} {σ σ1 : St} {bs : List Nat} {w : World} (h : Tk ρ F F1 σ σ1 bs) {sv : SV} {v : Value} (hv : LR0 ρ F w (σ.lv ρ) sv v) : LR0 ρ F1 w (σ1.lv ρ) sv v :=
  LR0_mono h.lv (fun _ _ => ρ.same_refl _) h.up (fun _ _ => rfl) hv
theorem Tk.VR {ρ : Rho} {F F1 : Nat → Prop} {σ σ1 : St} {bs : List Nat} {w : World} (h : Tk ρ F F1 σ σ1 bs) {sv : SV} {v : Value} (hv : VR ρ F w (σ.lv ρ) sv v) : VR ρ F1 w (σ1.lv ρ) sv v :=
  VR_mono h.lv (fun _ _ => ρ.same_refl _) h.up (fun _ _ => rfl) hv
theorem takeLs_sound {a : Act} {w : World} {r : α × St} {ρ : Rho} : ∀ {ls : List LS} {svs : List SV} {K : LsI ls → M α} {vs : List Value} {F : Nat → Prop} {σ : St}, (takeLs false B ls svs K).exec σ = some r → Sim cx nt ρ F σ a w → All2 (LR0 ρ F w (σ.lv ρ)) svs vs →
    ∃ x σ1 F1 bs, (K x).exec σ1 = some r ∧ Sim cx nt ρ F1 σ1 a w ∧ Tk ρ F F1 σ σ1 bs ∧ BRLs (ρ.pull B) F1 w ls x vs bs
  | [], [], K, vs, F, σ, h, hs, hv => ⟨(), σ, F, [], h, hs, Tk.refl _ _ _, hv.nil_left, rfl⟩
  | [], _ :: _, K, vs, F, σ, h, hs, hv => by simp [takeLs, M.exec] at h
  | _ :: _, [], K, vs, F, σ, h, hs, hv => by simp [takeLs, M.exec] at h
  | l :: ls, sv :: svs, K, [], F, σ, h, hs, hv => hv.elim
  | l :: ls, sv :: svs, K, v :: vs, F, σ, h, hs, hv => by
    simp only [takeLs] at h
    obtain ⟨x, σ1, F1, b1, h1, hs1, ht1, hb1⟩ := takeL_sound h hs hv.1
    obtain ⟨y, σ2, F2, b2, h2, hs2, ht2, hb2⟩ := takeLs_sound h1 hs1 (hv.2.imp fun _ _ h => ht1.LR0 h)
    exact ⟨(x, y), σ2, F2, b1 ++ b2, h2, hs2, Tk.trans hs ht1 ht2, v, vs, b1, b2, rfl, rfl, BRL_mono ht2.up (fun _ _ => rfl) (fun _ _ => rfl) hb1, hb2⟩
theorem takeBox_sound {a : Act} {w : World} {r : α × St} {ρ : Rho} {e : TypeId} {ls : List LS} {n : Nat} {K : LsI ls → M α} {F : Nat → Prop} {σ : St} (h : (takeBox false B e ls n K).exec σ = some r) (hs : Sim cx nt ρ F σ a w) :
    ∃ x σ1 F1 bs, (K x).exec σ1 = some r ∧ Sim cx nt ρ F1 σ1 a w ∧ Tk ρ F F1 σ σ1 bs ∧ BoxG (ρ.pull B) F1 w e ls x (ρ.bx n) bs := by
  simp only [takeBox, M.exec] at h
  split at h
  · rename_i e' vs ho
    obtain ⟨he, hx⟩ := test_exec h
    clear h
    have := Nat.eq_of_beq_eq_true he
    subst this
    simp only [M.exec] at hx
    have hob := hs.objs n
    rw [ho] at hob
    obtain ⟨hbk, us, hg, hu⟩ := hob
    have hl : σ.live n := by intro e; rw [ho] at e; cases e
    have hh : (σ.ob n).held = true := by rw [ho]; rfl
    have hk := hs.kill hl false
    have hkt := Tk.kill hs hl hh false
    simp only [Bool.false_eq_true, if_false, hbk] at hkt
    obtain ⟨x, σ1, F1, bs, h1, h2, h3, h4⟩ := takeLs_sound hx hk (hu.imp fun _ _ h => LR0_mono hkt.lv (fun _ _ => ρ.same_refl _) (fun _ h => .inl h) (fun _ _ => rfl) h)
    refine ⟨x, σ1, F1, ρ.bx n :: bs, h1, h2, ?_, us, bs, hg, rfl, h4⟩
    have := Tk.trans hs hkt (by simpa using h3)
    simpa using this
  · simp [M.exec] at h
theorem takeV_sound {a : Act} {w : World} {r : α × St} {ρ : Rho} {s : VS} {sv : SV} {K : s.I → M α} {v : Value} {F : Nat → Prop} {σ : St} (h : (takeV false B s sv K).exec σ = some r) (hs : Sim cx nt ρ F σ a w) (hv : VR ρ F w (σ.lv ρ) sv v) :
    ∃ x σ1 F1 bs, (K x).exec σ1 = some r ∧ Sim cx nt ρ F1 σ1 a w ∧ Tk ρ F F1 σ σ1 bs ∧ BRV (ρ.pull B) F1 w s x v bs := by
  have leaf : ∀ {l : LS} {K : l.I → M α}, (takeL false B l sv K).exec σ = some r → ∃ x σ1 F1 bs, (K x).exec σ1 = some r ∧ Sim cx nt ρ F1 σ1 a w ∧ Tk ρ F F1 σ σ1 bs ∧ BRL (ρ.pull B) F1 w l x v bs := by
    intro l K h
    by_cases hl : l = .skip
    · subst hl
      have h' : (K ()).exec σ = some r := by cases sv <;> exact h
      exact ⟨(), σ, F, [], h', hs, Tk.refl _ _ _, rfl⟩
    · have hv0 : Gx.LR0 ρ F w (σ.lv ρ) sv v := by
        cases sv with
        | agg vs => cases l <;> first | exact absurd rfl hl | (simp [takeL, M.exec, SV.cell] at h; done)
        | tup vs => cases l <;> first | exact absurd rfl hl | (simp [takeL, M.exec, SV.cell] at h; done)
        | rp vs => cases l <;> first | exact absurd rfl hl | (simp [takeL, M.exec, SV.cell] at h; done)
        | _ => exact hv
      exact takeL_sound h hs hv0
  cases s with
  | leaf l => exact leaf h
  | agg ls =>
    cases sv with
    | agg vs =>
      simp only [takeV] at h
      obtain ⟨us, rfl, hu⟩ := hv
      obtain ⟨x, σ1, F1, bs, h1, h2, h3, h4⟩ := takeLs_sound h hs hu
      exact ⟨x, σ1, F1, bs, h1, h2, h3, us, rfl, h4⟩
    | _ => simp [takeV, M.exec] at h
  | box e ls outs =>
    cases sv with
    | box n off =>
      cases off with
      | succ off => simp [takeV, M.exec] at h
      | zero =>
        obtain ⟨_, rfl⟩ := hv
        obtain ⟨x, σ1, F1, bs, h1, h2, h3, h4⟩ := takeBox_sound h hs
        exact ⟨x, σ1, F1, bs, h1, h2, h3, _, rfl, h4⟩
    | _ => simp [takeV, M.exec] at h
  | boxA id e ls outs =>
    cases sv with
    | box n off =>
      cases off with
      | succ off => simp [takeV, M.exec] at h
      | zero =>
        obtain ⟨_, rfl⟩ := hv
        simp only [takeV] at h
        obtain ⟨hn, h⟩ := test_exec h
        have hn := Nat.eq_of_beq_eq_true hn
        obtain ⟨x, σ1, F1, bs, h1, h2, h3, h4⟩ := takeBox_sound h hs
        exact ⟨x, σ1, F1, bs, h1, h2, h3, by simp [Rho.pull, hn], by simpa [Rho.pull, hn] using h4⟩
    | _ => simp [takeV, M.exec] at h
  | clo f e ls outs =>
    cases sv with
    | fn g cs =>
      cases cs with
      | nil => simp [takeV, M.exec] at h
      | cons c cs =>
        cases cs with
        | cons => cases c with
          | box n off => cases off <;> simp [takeV, M.exec] at h
          | _ => simp [takeV, M.exec] at h
        | nil => cases c with
          | box n off =>
            cases off with
            | succ => simp [takeV, M.exec] at h
            | zero =>
              simp only [takeV] at h
              obtain ⟨hn, h⟩ := test_exec h
              have hn := Nat.eq_of_beq_eq_true hn
              subst hn
              obtain ⟨us, e1, hc⟩ := hv
              match us, hc with
              | [u], hc =>
                obtain ⟨_, rfl, _⟩ := hc
                obtain ⟨x, σ1, F1, bs, h1, h2, h3, h4⟩ := takeBox_sound h hs
                exact ⟨x, σ1, F1, bs, h1, h2, h3, _, e1, h4⟩
          | _ => simp [takeV, M.exec] at h
    | _ => simp [takeV, M.exec] at h
  | muts id e t =>
    obtain ⟨x, σ1, F1, bs, h1, h2, h3, h4⟩ := leaf (l := .ownA id e t) h
    exact ⟨x, σ1, F1, bs, h1, h2, h3, h4⟩
  | aggm ls =>
    cases sv with
    | agg vs =>
      simp only [takeV] at h
      obtain ⟨us, rfl, hu⟩ := hv
      obtain ⟨x, σ1, F1, bs, h1, h2, h3, h4⟩ := takeLs_sound h hs hu
      exact ⟨x, σ1, F1, bs, h1, h2, h3, us, rfl, h4⟩
    | _ => simp [takeV, M.exec] at h
theorem takeVs_sound {a : Act} {w : World} {r : α × St} {ρ : Rho} : ∀ {ss : List VS} {svs : List SV} {K : VsI ss → M α} {vs : List Value} {F : Nat → Prop} {σ : St}, (takeVs false B ss svs K).exec σ = some r → Sim cx nt ρ F σ a w → All2 (VR ρ F w (σ.lv ρ)) svs vs →
    ∃ x σ1 F1 bs, (K x).exec σ1 = some r ∧ Sim cx nt ρ F1 σ1 a w ∧ Tk ρ F F1 σ σ1 bs ∧ BRVs (ρ.pull B) F1 w ss x vs bs
  | [], [], K, vs, F, σ, h, hs, hv => ⟨(), σ, F, [], h, hs, Tk.refl _ _ _, hv.nil_left, rfl⟩
  | [], _ :: _, K, vs, F, σ, h, hs, hv => by simp [takeVs, M.exec] at h
  | _ :: _, [], K, vs, F, σ, h, hs, hv => by simp [takeVs, M.exec] at h
  | l :: ls, sv :: svs, K, [], F, σ, h, hs, hv => hv.elim
  | l :: ls, sv :: svs, K, v :: vs, F, σ, h, hs, hv => by
    simp only [takeVs] at h
    obtain ⟨x, σ1, F1, b1, h1, hs1, ht1, hb1⟩ := takeV_sound h hs hv.1
    obtain ⟨y, σ2, F2, b2, h2, hs2, ht2, hb2⟩ := takeVs_sound h1 hs1 (hv.2.imp fun _ _ h => ht1.VR h)
    exact ⟨(x, y), σ2, F2, b1 ++ b2, h2, hs2, Tk.trans hs ht1 ht2, v, vs, b1, b2, rfl, rfl, BRV_mono ht2.up (fun _ _ => rfl) (fun _ _ => rfl) hb1, hb2⟩

def Lent (ρ : Rho) (F : Nat → Prop) (σ : St) (b : Nat) : Prop := F b ∨ ∃ n, blk ρ n (σ.ob n) b
theorem lendL_sound {a : Act} {w : World} {r : α × St} {ρ ρb : Rho} {l : LS} {sv : SV} {K : l.I → M α} {v : Value} {F : Nat → Prop} {σ : St} (h : (takeL true B l sv K).exec σ = some r) (hp : l.plain = true) (hs : Sim cx nt ρ F σ a w) (hv : LR0 ρ F w (σ.lv ρ) sv v) :
    ∃ x, (K x).exec σ = some r ∧ BRL ρb (Lent ρ F σ) w l x v [] := by
  unfold takeL at h
  split at h <;> try (simp [LS.plain] at hp; done)
  · obtain ⟨h1, h2⟩ := test_exec h
    have := of_decide_eq_true h1
    subst this
    exact ⟨_, h2, hv, rfl⟩
  · exact ⟨_, h, hv, rfl⟩
  · exact ⟨_, h, hv, rfl⟩
  · refine ⟨_, h, ?_, rfl⟩
    have : v = .slice none 0 0 := hv
    subst this
    exact ⟨none, 0, rfl, Nat.le_refl _, by simp [maxLen], fun i x hi => by simp at hi⟩
  · obtain ⟨ys, hc, h1⟩ := convL_exec h
    exact ⟨_, h1, hc.TC (TC_mono (fun _ h => .inl h) (fun _ _ => rfl) hv), rfl⟩
  · obtain ⟨ys, hc, h1⟩ := convL_exec h
    exact ⟨_, h1, hc.TC (TC_mono (fun _ h => .inl h) (fun _ _ => rfl) hv.1), rfl⟩
  · rename_i t n K
    obtain ⟨_, rfl, _⟩ := hv
    simp only [cond_true, M.exec] at h
    split at h
    · rename_i e t' xs ho
      obtain ⟨ys, hcv, h1⟩ := convL_exec h
      have hob := hs.objs n
      rw [ho] at hob
      have hh : (σ.ob n).held = true := by rw [ho]; rfl
      exact ⟨_, h1, hcv.TC (ro_of_own hob.2.1 (fun _ h => .inl h) (fun b hb => .inr ⟨n, hh, hb⟩)), rfl⟩
    · rename_i e t' xs i off id ho
      simp only [M.exec] at h
      split at h
      · rename_i e1 t1 ys ho2
        split at h
        · rename_i e2 t2 ha
          obtain ⟨ht, hx⟩ := test_exec h
          clear h
          simp only [Bool.and_eq_true, decide_eq_true_eq] at ht
          obtain ⟨⟨q1, q2⟩, q3⟩ := ht
          have q1 := Nat.eq_of_beq_eq_true q1
          subst q1 q2
          obtain ⟨zs, hcv, h1⟩ := convL_exec hx
          have hob := hs.objs n
          rw [ho] at hob
          have hob2 := hs.objs id
          rw [ho2] at hob2
          have hh : (σ.ob n).held = true := by rw [ho]; rfl
          have hh2 : (σ.ob id).held = true := by rw [ho2]; rfl
          obtain ⟨bs', k1, k2⟩ := Hol_close ha q3 hob.2.2.1 hob2.2.1
          refine ⟨_, h1, hcv.TC (ro_of_own k1 (fun _ h => .inl h) (fun b hb => ?_)), rfl⟩
          rcases List.mem_append.1 (k2.mem_iff.1 hb) with hb | hb
          · exact .inr ⟨n, hh, hb⟩
          · exact .inr ⟨id, hh2, hb⟩
        · simp [M.exec] at h
      · simp [M.exec] at h
    · rename_i e t' x ho
      obtain ⟨xs, hx, h⟩ := opt_exec h
      subst hx
      obtain ⟨ys, hcv, h1⟩ := convL_exec h
      have hob := hs.objs n
      rw [ho] at hob
      have hh : (σ.ob n).held = true := by rw [ho]; rfl
      exact ⟨_, h1, hcv.TC (ro_of_own hob.2.1 (fun _ h => .inl h) (fun b hb => .inr ⟨n, hh, hb⟩)), rfl⟩
    · simp [M.exec] at h
  · rename_i t n lo hi K
    obtain ⟨hl, hsub⟩ := hv
    simp only [M.exec] at h
    split at h
    · rename_i e t' xs ho
      obtain ⟨ys, hcv, h1⟩ := convL_exec h
      simp only [cond_true] at h1
      have hob := hs.objs n
      rw [ho] at hob
      have hh : (σ.ob n).held = true := by rw [ho]; rfl
      obtain ⟨hes, hown, _⟩ := hob
      rw [hes] at hsub
      exact ⟨_, h1, (hcv.sub lo hi).TC <| TC_sub (ro_of_own hown (fun _ h => .inl h) (fun b hb => .inr ⟨n, hh, hb⟩)) (by rw [t'.ro_sz]; exact hsub), rfl⟩
    · simp [M.exec] at h
  · obtain ⟨ys, hc, h1⟩ := convL_exec h
    exact ⟨_, h1, hc.TC (TC_roo (TC_mono (fun _ h => .inl h) (fun _ _ => rfl) hv)), rfl⟩
  · obtain ⟨us, e, hc⟩ := hv
    cases us with
    | nil => exact ⟨_, h, e, rfl⟩
    | cons => exact hc.elim
  · obtain ⟨h1, h2⟩ := test_exec h
    have := Nat.eq_of_beq_eq_true h1
    subst this
    obtain ⟨us, e, hc⟩ := hv
    cases us with
    | nil => exact ⟨_, h2, e, rfl⟩
    | cons => exact hc.elim
  · exact ⟨_, h, hv, rfl⟩
  · exact ⟨_, h, rfl⟩
  · obtain ⟨h1, h2⟩ := test_exec h
    exact ⟨_, h2, (One_of_LR0 h1 hv).1, rfl⟩
  · simp [M.exec] at h
theorem lendLs_sound {a : Act} {w : World} {r : α × St} {ρ ρb : Rho} {F : Nat → Prop} {σ : St} (hs : Sim cx nt ρ F σ a w) : ∀ {ls : List LS} {svs : List SV} {K : LsI ls → M α} {vs : List Value}, (takeLs true B ls svs K).exec σ = some r → ls.all LS.plain = true → All2 (LR0 ρ F w (σ.lv ρ)) svs vs →
    ∃ x, (K x).exec σ = some r ∧ BRLs ρb (Lent ρ F σ) w ls x vs []
  | [], [], K, vs, h, hp, hv => ⟨(), h, hv.nil_left, rfl⟩
  | [], _ :: _, K, vs, h, hp, hv => by simp [takeLs, M.exec] at h
  | _ :: _, [], K, vs, h, hp, hv => by simp [takeLs, M.exec] at h
  | l :: ls, sv :: svs, K, [], h, hp, hv => hv.elim
  | l :: ls, sv :: svs, K, v :: vs, h, hp, hv => by
    simp only [List.all_cons, Bool.and_eq_true] at hp
    simp only [takeLs] at h
    obtain ⟨x, h1, hb1⟩ := lendL_sound h hp.1 hs hv.1
    obtain ⟨y, h2, hb2⟩ := lendLs_sound hs h1 hp.2 hv.2
    exact ⟨(x, y), h2, v, vs, [], [], rfl, rfl, hb1, hb2⟩
theorem lendV_sound {a : Act} {w : World} {r : α × St} {ρ ρb : Rho} {s : VS} {sv : SV} {K : s.I → M α} {v : Value} {F : Nat → Prop} {σ : St} (h : (takeV true B s sv K).exec σ = some r) (hp : s.plain = true) (hs : Sim cx nt ρ F σ a w) (hv : VR ρ F w (σ.lv ρ) sv v) :
    ∃ x, (K x).exec σ = some r ∧ BRV ρb (Lent ρ F σ) w s x v [] := by
  cases s with
  | leaf l =>
    simp only [takeV] at h
    by_cases hl : l = .skip
    · subst hl
      have h' : (K ()).exec σ = some r := by cases sv <;> exact h
      exact ⟨(), h', rfl⟩
    · have hv0 : LR0 ρ F w (σ.lv ρ) sv v := by
        cases sv with
        | agg vs => cases l <;> first | exact absurd rfl hl | (simp [takeL, M.exec, SV.cell] at h; done)
        | tup vs => cases l <;> first | exact absurd rfl hl | (simp [takeL, M.exec, SV.cell] at h; done)
        | rp vs => cases l <;> first | exact absurd rfl hl | (simp [takeL, M.exec, SV.cell] at h; done)
        | _ => exact hv
      exact lendL_sound h hp hs hv0
  | agg ls =>
    cases sv with
    | agg vs =>
      simp only [takeV] at h
      obtain ⟨us, rfl, hu⟩ := hv
      obtain ⟨x, h1, h4⟩ := lendLs_sound hs h hp hu
      exact ⟨x, h1, us, rfl, h4⟩
    | _ => simp [takeV, M.exec] at h
  | _ => simp [VS.plain] at hp
theorem mixVs_sound {a : Act} {w : World} {r : α × St} {ρ : Rho} : ∀ {ss : List VS} {svs : List SV} {K : VsI ss → M α} {vs : List Value} {F : Nat → Prop} {σ : St}, (mixVs B ss svs K).exec σ = some r → Sim cx nt ρ F σ a w → All2 (VR ρ F w (σ.lv ρ)) svs vs →
    ∃ x σ1 F1 bs, (K x).exec σ1 = some r ∧ Sim cx nt ρ F1 σ1 a w ∧ Tk ρ F F1 σ σ1 bs ∧ BRVs (ρ.pull B) (Lent ρ F1 σ1) w ss x vs bs
  | [], [], K, vs, F, σ, h, hs, hv => ⟨(), σ, F, [], h, hs, Tk.refl _ _ _, hv.nil_left, rfl⟩
  | [], _ :: _, K, vs, F, σ, h, hs, hv => by simp [mixVs, M.exec] at h
  | _ :: _, [], K, vs, F, σ, h, hs, hv => by simp [mixVs, M.exec] at h
  | l :: ls, sv :: svs, K, [], F, σ, h, hs, hv => hv.elim
  | l :: ls, sv :: svs, K, v :: vs, F, σ, h, hs, hv => by
    simp only [mixVs] at h
    cases hp : l.plain with
    | true =>
      rw [hp, cond_true] at h
      obtain ⟨y, σ1, F1, bs, h1, hs1, ht1, hb1⟩ := mixVs_sound h hs hv.2
      obtain ⟨x, h2, hb2⟩ := lendV_sound (ρb := ρ.pull B) h1 hp hs1 (ht1.VR hv.1)
      exact ⟨(x, y), σ1, F1, bs, h2, hs1, ht1, v, vs, [], bs, rfl, rfl, hb2, hb1⟩
    | false =>
      rw [hp, cond_false] at h
      obtain ⟨x, σ1, F1, b1, h1, hs1, ht1, hb1⟩ := takeV_sound h hs hv.1
      obtain ⟨y, σ2, F2, b2, h2, hs2, ht2, hb2⟩ := mixVs_sound h1 hs1 (hv.2.imp fun _ _ h => ht1.VR h)
      exact ⟨(x, y), σ2, F2, b1 ++ b2, h2, hs2, Tk.trans hs ht1 ht2, v, vs, b1, b2, rfl, rfl, BRV_mono (fun b hb => .inl (ht2.up b hb)) (fun _ _ => rfl) (fun _ _ => rfl) hb1, hb2⟩
end
end Go.Gx

/-
  Gx, part D3: what is handed on is built into a state.
-/
set_option linter.unusedVariables false
set_option linter.unusedSimpArgs false
namespace Go.Gx
structure Bd (ρ ρ1 : Rho) (σ σ1 : St) (bs : List Nat) : Prop where
  sl : σ1.sl = σ.sl
  ob : ∀ m, σ.live m → σ1.ob m = σ.ob m ∨ σ.ob m = .dead
  lv : ∀ m, σ.live m → σ1.live m
  rho : ∀ m, σ.lv ρ m → ρ.same ρ1 m m
  fx : ρ1.fx = ρ.fx
  nb : ∀ m b, blk ρ1 m (σ1.ob m) b → blk ρ m (σ.ob m) b ∨ b ∈ bs
theorem Bd.refl (ρ : Rho) (σ : St) (bs : List Nat) : Bd ρ ρ σ σ bs := ⟨rfl, fun _ _ => .inl rfl, fun _ h => h, fun _ _ => ρ.same_refl _, rfl, fun _ _ h => .inl h⟩
theorem Bd.lv' {ρ ρ1 : Rho} {σ σ1 : St} {bs : List Nat} (h : Bd ρ ρ1 σ σ1 bs) : ∀ m, σ.lv ρ m → σ1.lv ρ1 m := fun m hm => hm.imp (h.lv m) fun hf => by rw [h.fx]; exact hf
theorem Bd.trans {ρ ρ1 ρ2 : Rho} {σ σ1 σ2 : St} {b1 b2 : List Nat} (h : Bd ρ ρ1 σ σ1 b1) (h' : Bd ρ1 ρ2 σ1 σ2 b2) : Bd ρ ρ2 σ σ2 (b1 ++ b2) := by
  refine ⟨h'.sl.trans h.sl, fun m hm => ?_, fun m hm => h'.lv m (h.lv m hm), fun m hm => Rho.same_trans (h.rho m hm) (h'.rho m (h.lv' m hm)), h'.fx.trans h.fx, fun m b hb => ?_⟩
  · rcases h'.ob m (h.lv m hm) with h1 | h1
    · rcases h.ob m hm with h2 | h2
      · exact .inl (h1.trans h2)
      · exact .inr h2
    · rcases h.ob m hm with h2 | h2
      · exact .inr (h2.symm.trans h1)
      · exact .inr h2
  · rcases h'.nb m b hb with h1 | h1
    · rcases h.nb m b h1 with h2 | h2
      · exact .inl h2
      · exact .inr (List.mem_append_left _ h2)
    · exact .inr (List.mem_append_right _ h1)
theorem Bd.wide {ρ ρ1 : Rho} {σ σ1 : St} {b1 b2 : List Nat} (h : Bd ρ ρ1 σ σ1 b1) (hb : ∀ b ∈ b1, b ∈ b2) : Bd ρ ρ1 σ σ1 b2 :=
  ⟨h.sl, h.ob, h.lv, h.rho, h.fx, fun m b hm => (h.nb m b hm).imp id (hb b)⟩
section
variable {α : Type} {cx : Ctx} {nt : Fr} {B : Nat → Nat}
theorem Bd.free {ρ ρ1 : Rho} {F : Nat → Prop} {σ σ1 : St} {b1 : List Nat} (h : Bd ρ ρ1 σ σ1 b1) {b : Nat} (hb : Free cx ρ F σ b) (hn : b ∉ b1) : Free cx ρ1 F σ1 b :=
  ⟨hb.1, hb.2.1, fun m hm => by
    rcases h.nb m b hm with h1 | h1
    · exact hb.2.2 m h1
    · exact hn h1⟩
theorem Bd.LR0 {ρ ρ1 : Rho} {F : Nat → Prop} {w : World} {σ σ1 : St} {b1 : List Nat} (h : Bd ρ ρ1 σ σ1 b1) {sv : SV} {v : Value} (hv : LR0 ρ F w (σ.lv ρ) sv v) : LR0 ρ1 F w (σ1.lv ρ1) sv v :=
  LR0_mono h.lv' h.rho (fun _ h => h) (fun _ _ => rfl) hv
theorem Bd.VR {ρ ρ1 : Rho} {F : Nat → Prop} {w : World} {σ σ1 : St} {b1 : List Nat} (h : Bd ρ ρ1 σ σ1 b1) {sv : SV} {v : Value} (hv : VR ρ F w (σ.lv ρ) sv v) : VR ρ1 F w (σ1.lv ρ1) sv v :=
  VR_mono h.lv' h.rho (fun _ h => h) (fun _ _ => rfl) hv
theorem Bd.LR1 {ρ ρ1 : Rho} {F : Nat → Prop} {w : World} {σ σ1 : St} {b1 : List Nat} (h : Bd ρ ρ1 σ σ1 b1) {sv : SV} {v : Value} (hv : LR1 ρ F w (σ.lv ρ) sv v) : LR1 ρ1 F w (σ1.lv ρ1) sv v :=
  LR1_mono h.lv' h.rho (fun _ h => h) (fun _ _ => rfl) hv
theorem live_setO {σ : St} {n : Nat} {o : Obj} (ho : o ≠ .absent) : ∀ m, σ.live m → (σ.setO n o).live m := by
  intro m hm e
  rw [setO_ob] at e
  split at e
  · exact ho e
  · exact hm e
theorem live_set {σ : St} {n : Nat} {o : Obj} (ho : o ≠ .absent) : (σ.setO n o).live n := by
  intro e; rw [setO_ob, if_pos rfl] at e; exact ho e
/-- Ghosts with one object changed. -/
def Rho.put (ρ : Rho) (n : Nat) (v : Value) (b sz : Nat) (bs : List Nat) : Rho :=
  ⟨fun m => if m = n then v else ρ.hd m, fun m => if m = n then b else ρ.bx m, fun m => if m = n then sz else ρ.es m, fun m => if m = n then bs else ρ.bk m, ρ.fx⟩
theorem Rho.put_ne (ρ : Rho) {n : Nat} {v : Value} {b sz m : Nat} {bs : List Nat} (h : m ≠ n) : ρ.same (ρ.put n v b sz bs) m m ∧ (ρ.put n v b sz bs).bk m = ρ.bk m := by
  simp [Rho.put, Rho.same, h]
/-- The same object, other blocks. -/
def Rho.bks (ρ : Rho) (n : Nat) (bs : List Nat) : Rho := ρ.put n (ρ.hd n) (ρ.bx n) (ρ.es n) bs
theorem Rho.bks_same (ρ : Rho) (n : Nat) (bs : List Nat) (m : Nat) : ρ.same (ρ.bks n bs) m m := by
  by_cases h : m = n
  · subst h; simp [Rho.bks, Rho.put, Rho.same]
  · exact (ρ.put_ne h).1
/-- A new object over free blocks, or one that was there comes back. -/
theorem Sim.make {ρ ρ1 : Rho} {F : Nat → Prop} {σ : St} {a : Act} {w : World} (h : Sim cx nt ρ F σ a w) {n : Nat} {o : Obj} (hn : σ.ob n = .absent ∨ σ.ob n = .dead) (hne : o ≠ .absent)
    (hρ : ∀ m, m ≠ n → ρ.same ρ1 m m ∧ ρ1.bk m = ρ.bk m) (hρn : σ.lv ρ n → ρ.same ρ1 n n) (hfx : ρ1.fx = ρ.fx) (hor : OR ρ1 F w ((σ.setO n o).lv ρ1) n o) (hf : ∀ b, blk ρ1 n o b → Free cx ρ F σ b) {bs : List Nat} (hbs : ∀ b, blk ρ1 n o b → b ∈ bs) :
    Sim cx nt ρ1 F (σ.setO n o) a w ∧ Bd ρ ρ1 σ (σ.setO n o) bs := by
  have hlv := live_setO (σ := σ) (n := n) hne
  have hr : ∀ m, σ.lv ρ m → ρ.same ρ1 m m := by
    intro m hm
    by_cases e : m = n
    · subst e; exact hρn hm
    · exact (hρ m e).1
  refine ⟨h.step (fun m => m = n) (fun _ => False) (fun b => blk ρ1 n o b) (Pr.refl _ _) hf (fun _ h => h.elim) (fun m hm => by rw [setO_ob, if_neg hm]) hlv ⟨hr, hfx, fun m hm => (hρ m hm).2⟩ (fun _ h => h) (fun _ h => .inl h)
    (fun m hm => ?_) (fun m b hm hb => ?_) (fun m k b hm hk hne => absurd (hm.trans hk.symm) hne) h.defers h.size h.pin (fun s => .inl ⟨rfl, rfl⟩), rfl, fun m hm => ?_, hlv, hr, hfx, fun m b hb => ?_⟩
  · subst hm; rw [setO_ob, if_pos rfl]; exact hor
  · subst hm; rw [setO_ob, if_pos rfl] at hb; exact ⟨(hf b hb).2.1, .inr (.inr hb)⟩
  · rw [setO_ob]
    split
    · rename_i e
      subst e
      rcases hn with h0 | h0
      · exact absurd h0 hm
      · exact .inr h0
    · exact .inl rfl
  · rw [setO_ob] at hb
    split at hb
    · rename_i e; subst e; exact .inr (hbs b hb)
    · rename_i e
      exact .inl ⟨hb.1, by rw [← (hρ m e).2]; exact hb.2⟩
theorem newO_exec {σ : St} {n : Nat} {o : Obj} {K : M α} {r : α × St} (h : (newO n o K).exec σ = some r) : σ.ob n = .absent ∧ K.exec (σ.setO n o) = some r := by
  simp only [newO, M.exec] at h
  split at h
  · exact ⟨by assumption, h⟩
  · simp [M.exec] at h
theorem oldO_exec {σ : St} {n : Nat} {o : Obj} {K : M α} {r : α × St} (h : (oldO n o K).exec σ = some r) : (σ.ob n = .absent ∨ σ.ob n = .dead) ∧ K.exec (σ.setO n o) = some r := by
  simp only [oldO, M.exec] at h
  split at h
  · exact ⟨.inl (by assumption), h⟩
  · exact ⟨.inr (by assumption), h⟩
  · simp [M.exec] at h
theorem isThere_exec {σ : St} {n : Nat} {K : M α} {r : α × St} (h : (isThere n K).exec σ = some r) : σ.live n ∧ K.exec σ = some r := by
  simp only [isThere, M.exec] at h
  split at h
  · simp [M.exec] at h
  · rename_i hne
    exact ⟨fun e => hne e, h⟩
/-- What a name stands for is known: 'ρb': the ghost of the bundle. -/
def Nm (ρb : Rho) (B : Nat → Nat) (Q : Nat → Prop) (ρ : Rho) (σ : St) (id : Nat) : Prop := ρb.same (ρ.pull B) id id ∧ (σ.lv ρ (B id) ∨ ¬ Q (B id))
theorem Nm.bd {ρb ρ ρ1 : Rho} {Q : Nat → Prop} {σ σ1 : St} {bs : List Nat} {id : Nat} (h : Nm ρb B Q ρ σ id) (hb : Bd ρ ρ1 σ σ1 bs) (hq : σ.lv ρ (B id) ∨ ρ.same ρ1 (B id) (B id)) : Nm ρb B Q ρ1 σ1 id := by
  have hs : ρ.same ρ1 (B id) (B id) := hq.elim (hb.rho _) (fun h => h)
  exact ⟨⟨hs.1.trans h.1.1, hs.2.1.trans h.1.2.1, hs.2.2.trans h.1.2.2⟩, h.2.imp (hb.lv' _) (fun h => h)⟩
/-- A regular new object leaves names alone. -/
theorem Nm.new {ρb ρ ρ1 : Rho} {F : Nat → Prop} {Q : Nat → Prop} {σ σ1 : St} {a : Act} {w : World} {bs : List Nat} {n : Nat} (hs : Sim cx nt ρ F σ a w) (hQ : Q n) (hq : ∀ m, Q m → liveId ≤ m) (hn : σ.ob n = .absent) (hb : Bd ρ ρ1 σ σ1 bs) (hρ : ∀ m, m ≠ n → ρ.same ρ1 m m ∧ ρ1.bk m = ρ.bk m) :
    ∀ id, Nm ρb B Q ρ σ id → Nm ρb B Q ρ1 σ1 id := by
  intro id h
  refine h.bd hb ?_
  rcases h.2 with h1 | h1
  · exact .inl h1
  · refine .inr (hρ _ fun e => h1 (by rw [e]; exact hQ)).1
theorem not_lv {ρ : Rho} {F : Nat → Prop} {Q : Nat → Prop} {σ : St} {a : Act} {w : World} {n : Nat} (hs : Sim cx nt ρ F σ a w) (hQ : Q n) (hq : ∀ m, Q m → liveId ≤ m) (hn : σ.ob n = .absent) : ¬ σ.lv ρ n := by
  rintro (h | h)
  · exact h hn
  · have := (hs.fix n h).1
    have := hq n hQ
    omega
/-- A row is taken in. -/
theorem Sim.makeRow {ρ : Rho} {F : Nat → Prop} {σ : St} {a : Act} {w : World} (h : Sim cx nt ρ F σ a w) {n : Nat} {e : TypeId} {t : Ty} {xs : List t.I} {v : Value} {bs : List Nat} (hn : σ.ob n = .absent) (hl : ¬ σ.lv ρ n)
    (ho : OwnR F w e t xs v bs) (hnd : bs.Nodup) (hf : ∀ b ∈ bs, Free cx ρ F σ b) :
    Sim cx nt (ρ.put n v 0 t.sz bs) F (σ.setO n (.row e t xs)) a w ∧ Bd ρ (ρ.put n v 0 t.sz bs) σ (σ.setO n (.row e t xs)) bs := by
  have hb : ∀ b, blk (ρ.put n v 0 t.sz bs) n (.row e t xs) b → b ∈ bs := fun b hb => by simpa [Rho.put] using hb.2
  exact h.make (ρ1 := ρ.put n v 0 t.sz bs) (n := n) (o := .row e t xs) (.inl hn) (by simp) (fun m hm => ρ.put_ne hm) (fun h => absurd h hl) rfl ⟨by simp [Rho.put], by simpa [Rho.put] using ho, by simpa [Rho.put] using hnd⟩ (fun b hb' => hf b (hb b hb')) hb
theorem Sim.makeBox {ρ : Rho} {F : Nat → Prop} {σ : St} {a : Act} {w : World} (h : Sim cx nt ρ F σ a w) {n : Nat} {e : TypeId} {vs : List SV} {g : Nat} {us : Array Value} (hn : σ.ob n = .absent) (hl : ¬ σ.lv ρ n)
    (hg : w.heap[g]? = some (.cells us e (0, 0))) (hu : All2 (LR0 ρ F w (σ.lv ρ)) vs us.toList) (hf : Free cx ρ F σ g) :
    Sim cx nt (ρ.put n undef g 0 [g]) F (σ.setO n (.box e vs)) a w ∧ Bd ρ (ρ.put n undef g 0 [g]) σ (σ.setO n (.box e vs)) [g] := by
  have hb : ∀ b, blk (ρ.put n undef g 0 [g]) n (.box e vs) b → b = g := fun b hb => by simpa [Rho.put] using hb.2
  have hne : Obj.box e vs ≠ .absent := by simp
  have hlv : ∀ m, σ.lv ρ m → (σ.setO n (.box e vs)).lv (ρ.put n undef g 0 [g]) m := fun m hm => hm.imp (live_setO hne m) id
  exact h.make (ρ1 := ρ.put n undef g 0 [g]) (n := n) (o := .box e vs) (.inl hn) hne (fun m hm => ρ.put_ne hm) (fun h => absurd h hl) rfl
    ⟨by simp [Rho.put], us, by simpa [Rho.put] using hg, hu.imp fun _ _ h => LR0_mono hlv (fun m hm => (ρ.put_ne (fun e => hl (by rw [← e]; exact hm))).1) (fun _ h => h) (fun _ _ => rfl) h⟩ (fun b hb' => by rw [hb b hb']; exact hf) (fun b hb' => by simp [hb b hb'])
theorem ElV_pull {ρb ρ : Rho} {id i off : Nat} {v : Value} (h : ρb.same (ρ.pull B) id id) (hv : ElV ρb id i off v) : ElV ρ (B id) i off v := by
  obtain ⟨b, l, c, h1, h2⟩ := hv
  have e1 : ρ.hd (B id) = ρb.hd id := h.1
  have e2 : ρ.es (B id) = ρb.es id := h.2.2
  exact ⟨b, l, c, by rw [e1]; exact h1, by rw [e2]; exact h2⟩
theorem CapR_pull {ρb ρ : Rho} {lv : Nat → Prop} : ∀ {ids : List Nat}, (∀ i ∈ ids, ρb.same (ρ.pull B) i i ∧ lv (B i)) → CapR ρ lv (ids.map fun i => .box (B i) 0) (ids.map fun i => Value.pointer (some ⟨ρb.bx i, 0, none⟩))
  | [], _ => trivial
  | i :: ids, h => ⟨(h i (by simp)).2, by show Value.pointer (some ⟨ρb.bx i, 0, none⟩) = Value.pointer (some ⟨ρ.bx (B i), 0, none⟩); rw [← (h i (by simp)).1.2.1]; rfl, CapR_pull fun j hj => h j (by simp [hj])⟩
theorem buildL_sound {a : Act} {w : World} {r : α × St} {ρ ρb : Rho} {Q : Nat → Prop} {l : LS} {x : l.I} {n : Nat} {K : SV → M α} {v : Value} {F : Nat → Prop} {σ : St} {bs : List Nat} (h : (buildL B l x n K).exec σ = some r) (hs : Sim cx nt ρ F σ a w) (hb : BRL ρb F w l x v bs) (hf : ∀ b ∈ bs, Free cx ρ F σ b) (hnd : bs.Nodup)
    (hQ : Q n) (hq : ∀ m, Q m → liveId ≤ m) (hN : ∀ id ∈ l.names, Nm ρb B Q ρ σ id) (hS : ∀ id ∈ l.selfs, σ.lv ρ (B id)) :
    ∃ sv σ1 ρ1, (K sv).exec σ1 = some r ∧ Sim cx nt ρ1 F σ1 a w ∧ Bd ρ ρ1 σ σ1 bs ∧ LR0 ρ1 F w (σ1.lv ρ1) sv v ∧ ∀ id, Nm ρb B Q ρ σ id → Nm ρb B Q ρ1 σ1 id := by
  -- a row with a name
  have named : ∀ {id : Nat} {o : Obj} {K : M α}, Nm ρb B Q ρ σ id → (σ.ob (B id) = .absent ∨ σ.ob (B id) = .dead) → o ≠ .absent → (o.held = true) → OR (ρ.bks (B id) bs) F w ((σ.setO (B id) o).lv (ρ.bks (B id) bs)) (B id) o → K.exec (σ.setO (B id) o) = some r →
      ∃ σ1 ρ1, K.exec σ1 = some r ∧ σ1 = σ.setO (B id) o ∧ ρ1 = ρ.bks (B id) bs ∧ Sim cx nt ρ1 F σ1 a w ∧ Bd ρ ρ1 σ σ1 bs ∧ ∀ id, Nm ρb B Q ρ σ id → Nm ρb B Q ρ1 σ1 id := by
    intro id o K hNm ho hne hheld hor hk
    obtain ⟨h1, h2⟩ := hs.make (ρ1 := ρ.bks (B id) bs) (n := B id) (o := o) ho hne (fun m hm => ρ.put_ne hm) (fun _ => ρ.bks_same _ _ _) rfl hor (fun b hb => hf b (by simpa [Rho.bks, Rho.put] using hb.2)) (bs := bs) (fun b hb => by simpa [Rho.bks, Rho.put] using hb.2)
    exact ⟨_, _, hk, rfl, rfl, h1, h2, fun id' h' => h'.bd h2 (.inr (ρ.bks_same _ _ _))⟩
  cases l with
  | int k => exact ⟨_, σ, ρ, h, hs, Bd.refl _ _ _, hb.1, fun _ h => h⟩
  | bool => exact ⟨_, σ, ρ, h, hs, Bd.refl _ _ _, hb.1, fun _ h => h⟩
  | str => exact ⟨_, σ, ρ, h, hs, Bd.refl _ _ _, hb.1, fun _ h => h⟩
  | ro t => exact ⟨_, σ, ρ, h, hs, Bd.refl _ _ _, hb.1, fun _ h => h⟩
  | rk t b => exact ⟨_, σ, ρ, h, hs, Bd.refl _ _ _, hb.1, fun _ h => h⟩
  | rkb t => exact ⟨_, σ, ρ, h, hs, Bd.refl _ _ _, hb.1, fun _ h => h⟩
  | any => exact ⟨_, σ, ρ, h, hs, Bd.refl _ _ _, hb.1, fun _ h => h⟩
  | fn => exact ⟨_, σ, ρ, h, hs, Bd.refl _ _ _, ⟨[], hb.1, trivial⟩, fun _ h => h⟩
  | fnc f => exact ⟨_, σ, ρ, h, hs, Bd.refl _ _ _, ⟨[], hb.1, trivial⟩, fun _ h => h⟩
  | nil => exact ⟨_, σ, ρ, h, hs, Bd.refl _ _ _, hb.1, fun _ h => h⟩
  | ln => exact ⟨_, σ, ρ, h, hs, Bd.refl _ _ _, hb.1, fun _ h => h⟩
  | skip => exact ⟨_, σ, ρ, h, hs, Bd.refl _ _ _, trivial, fun _ h => h⟩
  | own e t =>
    obtain ⟨h1, h2⟩ := newO_exec h
    have hl := not_lv hs hQ hq h1
    obtain ⟨hs1, hb1⟩ := hs.makeRow h1 hl hb hnd hf
    obtain ⟨A, c, hsl⟩ := OwnR_slice hb
    exact ⟨_, _, _, h2, hs1, hb1, ⟨.inl (live_set (by simp)), by simp [Rho.put], A, _, c, hsl⟩, Nm.new hs hQ hq h1 hb1 fun m hm => ρ.put_ne hm⟩
  | ownA id e t =>
    obtain ⟨h1, h2⟩ := oldO_exec h
    have hNm := hN id (by simp [LS.names])
    obtain ⟨hown, hv, hes⟩ := hb
    have e1 : ρ.hd (B id) = v := hNm.1.1.trans hv
    have e2 : ρ.es (B id) = t.sz := hNm.1.2.2.trans hes
    obtain ⟨σ1, ρ1, q1, q2, q3, q4, q5, q6⟩ := named hNm h1 (o := .row e t x) (by simp) rfl ⟨by simp [Rho.bks, Rho.put, e2], by simpa [Rho.bks, Rho.put, e1] using hown, by simpa [Rho.bks, Rho.put] using hnd⟩ h2
    obtain ⟨A, c, hsl⟩ := OwnR_slice hown
    refine ⟨_, σ1, ρ1, q1, q4, q5, ⟨.inl ?_, ?_, A, _, c, hsl⟩, q6⟩
    · rw [q2]; exact live_set (by simp)
    · rw [q3]; simp [Rho.bks, Rho.put, e1]
  | ownk id e t =>
    obtain ⟨h1, h2⟩ := newO_exec h
    have hl := not_lv hs hQ hq h1
    have hNm := hN id (by simp [LS.names])
    obtain ⟨hown, hfl⟩ := hb
    obtain ⟨hs1, hb1⟩ := hs.makeRow h1 hl hown hnd hf
    obtain ⟨A, c, hsl⟩ := OwnR_slice hown
    have hNm1 := Nm.new (ρb := ρb) (B := B) hs hQ hq h1 hb1 (fun m hm => ρ.put_ne hm)
    simp only [M.exec] at h2
    split at h2
    · rename_i hd
      simp only [M.exec] at h2
      have hne : B id ≠ n := by
        intro e; rw [e, setO_ob, if_pos rfl] at hd; cases hd
      obtain ⟨hs2, hb2⟩ := hs1.make (ρ1 := ρ.put n v 0 t.sz bs) (n := B id) (o := .moved n x.1) (.inr hd) (by simp) (fun m _ => ⟨Rho.same_refl _ _, rfl⟩) (fun _ => Rho.same_refl _ _) rfl
        ⟨.inl (live_setO (by simp) _ (live_set (by simp))), fun hf => by
          have e1 : ρ.hd (B id) = v := hNm.1.1.trans (hfl hf)
          simp [Rho.put, hne, e1]⟩ (fun b hb => by simp [blk, Obj.held] at hb) (bs := []) (fun b hb => by simp [blk, Obj.held] at hb)
      have hb3 := (hb1.trans hb2).wide (b2 := bs) (by simp)
      exact ⟨_, _, _, h2, hs2, hb3, ⟨.inl (live_setO (by simp) _ (live_set (by simp))), by simp [Rho.put], A, _, c, hsl⟩, fun id' h' => (hNm1 id' h').bd hb2 (.inr (Rho.same_refl _ _))⟩
    · simp [M.exec] at h2
  | may e t =>
    obtain ⟨h1, h2⟩ := newO_exec h
    have hl := not_lv hs hQ hq h1
    obtain ⟨hsl, hb⟩ := hb
    have hor : OR (ρ.put n v 0 t.sz bs) F w ((σ.setO n (.mrow e t x)).lv (ρ.put n v 0 t.sz bs)) n (.mrow e t x) := by
      cases x with
      | none => trivial
      | some xs => exact ⟨by simp [Rho.put], by simpa [Rho.put] using hb, by simpa [Rho.put] using hnd⟩
    obtain ⟨hs1, hb1⟩ := hs.make (ρ1 := ρ.put n v 0 t.sz bs) (n := n) (o := .mrow e t x) (.inl h1) (by simp) (fun m hm => ρ.put_ne hm) (fun h => absurd h hl) rfl hor (fun b hb => hf b (by simpa [Rho.put] using hb.2)) (bs := bs) (fun b hb => by simpa [Rho.put] using hb.2)
    exact ⟨_, _, _, h2, hs1, hb1, ⟨.inl (live_set (by simp)), by simp [Rho.put], hsl⟩, Nm.new hs hQ hq h1 hb1 fun m hm => ρ.put_ne hm⟩
  | hol id e t off id2 =>
    obtain ⟨h0, h⟩ := isThere_exec h
    obtain ⟨h1, h2⟩ := oldO_exec h
    have hNm := hN id (by simp [LS.names])
    have hNm2 := hN id2 (by simp [LS.names])
    obtain ⟨hown, hv, hes⟩ := hb
    have e1 : ρ.hd (B id) = v := hNm.1.1.trans hv
    have e2 : ρ.es (B id) = t.sz := hNm.1.2.2.trans hes
    have e3 : ρ.hd (B id2) = ρb.hd id2 := hNm2.1.1
    obtain ⟨σ1, ρ1, q1, q2, q3, q4, q5, q6⟩ := named hNm h1 (o := .hrow e t x.1 x.2 off (B id2)) (by simp) rfl ⟨by simp [Rho.bks, Rho.put, e2], .inl (live_setO (by simp) _ h0), by
      have hh : (ρ.bks (B id) bs).hd (B id2) = ρb.hd id2 := ((ρ.bks_same (B id) bs (B id2)).1).trans e3
      rw [hh]; simpa [Rho.bks, Rho.put, e1] using hown, by simpa [Rho.bks, Rho.put] using hnd⟩ h2
    obtain ⟨_, _, _, _, _, cells, bss, k1, _⟩ := hown
    obtain ⟨A, c, hsl⟩ := ownsRow_slice k1
    refine ⟨_, σ1, ρ1, q1, q4, q5, ⟨.inl ?_, ?_, A, _, c, hsl⟩, q6⟩
    · rw [q2]; exact live_set (by simp)
    · rw [q3]; simp [Rho.bks, Rho.put, e1]
  | ali id =>
    obtain ⟨h0, h⟩ := isThere_exec h
    have hNm := hN id (by simp [LS.names])
    exact ⟨_, σ, ρ, h, hs, Bd.refl _ _ _, ⟨.inl h0, hb.1.1.trans hNm.1.1.symm, hb.1.2⟩, fun _ h => h⟩
  | vw id =>
    obtain ⟨h0, h⟩ := isThere_exec h
    have hNm := hN id (by simp [LS.names])
    refine ⟨_, σ, ρ, h, hs, Bd.refl _ _ _, ⟨.inl h0, ?_⟩, fun _ h => h⟩
    show SubV ((ρ.pull B).hd id) ((ρ.pull B).es id) x.1 x.2 v
    rw [hNm.1.1, hNm.1.2.2]; exact hb.1
  | elA id off =>
    obtain ⟨h0, h⟩ := isThere_exec h
    have hNm := hN id (by simp [LS.names])
    exact ⟨_, σ, ρ, h, hs, Bd.refl _ _ _, ⟨.inl h0, ElV_pull hNm.1 hb.1⟩, fun _ h => h⟩
  | elo id off =>
    obtain ⟨h0, h⟩ := isThere_exec h
    have hNm := hN id (by simp [LS.names])
    refine ⟨_, σ, ρ, h, hs, Bd.refl _ _ _, ?_, fun _ h => h⟩
    cases x with
    | none => exact ⟨.inl h0, hb.1⟩
    | some i => exact ⟨.inl h0, ElV_pull hNm.1 hb.1⟩
  | slf f ids =>
    obtain ⟨_, h⟩ := test_exec h
    refine ⟨_, σ, ρ, h, hs, Bd.refl _ _ _, ⟨_, hb.1, ?_⟩, fun _ h => h⟩
    exact CapR_pull fun i hi => ⟨(hN i (by simpa [LS.names] using hi)).1, hS i (by simpa [LS.selfs] using hi)⟩
  | mp t =>
    obtain ⟨h1, h2⟩ := newO_exec h
    have hl := not_lv hs hQ hq h1
    obtain ⟨g, rfl, rfl, hm⟩ := hb
    obtain ⟨hs1, hb1⟩ := hs.make (ρ1 := ρ.put n undef g 0 [g]) (n := n) (o := .map t x) (.inl h1) (by simp) (fun m hm => ρ.put_ne hm) (fun h => absurd h hl) rfl ⟨by simpa [Rho.put] using hm, by simp [Rho.put]⟩ (fun b hb => hf b (by simpa [Rho.put] using hb.2)) (bs := [g]) (fun b hb => by simpa [Rho.put] using hb.2)
    exact ⟨_, _, _, h2, hs1, hb1, ⟨.inl (live_set (by simp)), by simp [Rho.put]⟩, Nm.new hs hQ hq h1 hb1 fun m hm => ρ.put_ne hm⟩
theorem buildLs_sound {a : Act} {w : World} {r : α × St} {F : Nat → Prop} {ρb : Rho} {Q : Nat → Prop} (hq : ∀ m, Q m → liveId ≤ m) (hQ1 : ∀ m, Q m → Q (m + 1)) : ∀ {ls : List LS} {x : LsI ls} {n : Nat} {K : List SV → M α} {vs : List Value} {ρ : Rho} {σ : St} {bs : List Nat}, (buildLs B ls x n K).exec σ = some r → Sim cx nt ρ F σ a w → BRLs ρb F w ls x vs bs → (∀ b ∈ bs, Free cx ρ F σ b) → bs.Nodup → Q n → (∀ id ∈ ls.flatMap LS.names, Nm ρb B Q ρ σ id) → (∀ id ∈ ls.flatMap LS.selfs, σ.lv ρ (B id)) →
    ∃ svs σ1 ρ1, (K svs).exec σ1 = some r ∧ Sim cx nt ρ1 F σ1 a w ∧ Bd ρ ρ1 σ σ1 bs ∧ All2 (LR0 ρ1 F w (σ1.lv ρ1)) svs vs ∧ ∀ id, Nm ρb B Q ρ σ id → Nm ρb B Q ρ1 σ1 id
  | [], x, n, K, vs, ρ, σ, bs, h, hs, hb, hf, hn, hQ, hN, hS => by
    obtain ⟨rfl, rfl⟩ := hb
    exact ⟨[], σ, ρ, h, hs, Bd.refl _ _ _, trivial, fun _ h => h⟩
  | l :: ls, x, n, K, vs, ρ, σ, bs, h, hs, hb, hf, hn, hQ, hN, hS => by
    obtain ⟨v, vs', b1, b2, rfl, rfl, hb1, hb2⟩ := hb
    simp only [buildLs] at h
    rw [List.nodup_append] at hn
    obtain ⟨sv, σ1, ρ1, h1, hs1, hd1, hv1, hn1⟩ := buildL_sound h hs hb1 (fun b hb => hf b (List.mem_append_left _ hb)) hn.1 hQ hq (fun id hid => hN id (by simp [hid])) (fun id hid => hS id (by simp [hid]))
    obtain ⟨svs, σ2, ρ2, h2, hs2, hd2, hv2, hn2⟩ := buildLs_sound hq hQ1 h1 hs1 hb2 (fun b hb => hd1.free (hf b (List.mem_append_right _ hb)) (fun hb' => hn.2.2 b hb' b hb rfl)) hn.2.1 (hQ1 _ hQ) (fun id hid => hn1 id (hN id (by simp only [List.flatMap_cons, List.mem_append]; exact .inr hid)))
      (fun id hid => hd1.lv' _ (hS id (by simp only [List.flatMap_cons, List.mem_append]; exact .inr hid)))
    exact ⟨sv :: svs, σ2, ρ2, h2, hs2, hd1.trans hd2, ⟨hd2.LR0 hv1, hv2⟩, fun id hid => hn2 id (hn1 id hid)⟩
theorem Q_add {Q : Nat → Prop} (hQ1 : ∀ m, Q m → Q (m + 1)) : ∀ (k n : Nat), Q n → Q (n + k)
  | 0, _, h => h
  | k + 1, n, h => hQ1 _ (Q_add hQ1 k n h)
theorem buildV_sound {a : Act} {w : World} {r : α × St} {ρ ρb : Rho} {Q : Nat → Prop} (hq : ∀ m, Q m → liveId ≤ m) (hQ1 : ∀ m, Q m → Q (m + 1)) {s : VS} {x : s.I} {n : Nat} {K : SV → M α} {v : Value} {F : Nat → Prop} {σ : St} {bs : List Nat} (h : (buildV B s x n K).exec σ = some r) (hs : Sim cx nt ρ F σ a w) (hb : BRV ρb F w s x v bs) (hf : ∀ b ∈ bs, Free cx ρ F σ b) (hn : bs.Nodup)
    (hQ : Q n) (hN : ∀ id ∈ s.names, Nm ρb B Q ρ σ id) (hS : ∀ id ∈ s.selfs, σ.lv ρ (B id)) :
    ∃ sv σ1 ρ1, (K sv).exec σ1 = some r ∧ Sim cx nt ρ1 F σ1 a w ∧ Bd ρ ρ1 σ σ1 bs ∧ LR1 ρ1 F w (σ1.lv ρ1) sv v ∧ ∀ id, Nm ρb B Q ρ σ id → Nm ρb B Q ρ1 σ1 id := by
  have box : ∀ {e : TypeId} {ls : List LS} {x : LsI ls} {g : Nat} {K : SV → M α} {f : Nat → SV}, (buildLs B ls x (n + 1) fun vs => newO n (.box e vs) (K (f n))).exec σ = some r → BoxG ρb F w e ls x g bs → (∀ id ∈ ls.flatMap LS.names, Nm ρb B Q ρ σ id) → (∀ id ∈ ls.flatMap LS.selfs, σ.lv ρ (B id)) →
      ∃ σ1 ρ1, (K (f n)).exec σ1 = some r ∧ Sim cx nt ρ1 F σ1 a w ∧ Bd ρ ρ1 σ σ1 bs ∧ σ1.lv ρ1 n ∧ ρ1.bx n = g ∧ ∀ id, Nm ρb B Q ρ σ id → Nm ρb B Q ρ1 σ1 id := by
    intro e ls x g K f h hb' hN hS
    obtain ⟨us, b2, hg, rfl, hb'⟩ := hb'
    simp only [List.nodup_cons] at hn
    obtain ⟨svs, σ1, ρ1, h1, h2, h3, h4, hn1⟩ := buildLs_sound hq hQ1 h hs hb' (fun b hb => hf b (by simp [hb])) hn.2 (hQ1 _ hQ) hN hS
    obtain ⟨h5, h6⟩ := newO_exec h1
    have hl := not_lv h2 hQ hq h5
    obtain ⟨h7, h8⟩ := h2.makeBox h5 hl hg h4 (h3.free (hf g (by simp)) hn.1)
    refine ⟨_, _, h6, h7, (h3.trans h8).wide (by simp [or_comm]), .inl (live_set (by simp)), by simp [Rho.put], fun id hid => Nm.new h2 hQ hq h5 h8 (fun m hm => ρ1.put_ne hm) id (hn1 id hid)⟩
  cases s with
  | leaf l =>
    obtain ⟨sv, σ1, ρ1, h1, h2, h3, h4, h5⟩ := buildL_sound h hs hb hf hn hQ hq hN hS
    exact ⟨sv, σ1, ρ1, h1, h2, h3, LR1_of_LR0 h4, h5⟩
  | agg ls =>
    obtain ⟨us, rfl, hb⟩ := hb
    obtain ⟨svs, σ1, ρ1, h1, h2, h3, h4, h5⟩ := buildLs_sound hq hQ1 h hs hb hf hn hQ hN hS
    exact ⟨.agg svs, σ1, ρ1, h1, h2, h3, ⟨us, rfl, h4⟩, h5⟩
  | box e ls outs =>
    obtain ⟨g, rfl, hb⟩ := hb
    obtain ⟨σ1, ρ1, h1, h2, h3, h4, h5, h6⟩ := box (f := fun n => .box n 0) h hb hN hS
    exact ⟨_, σ1, ρ1, h1, h2, h3, ⟨h4, by rw [h5]⟩, h6⟩
  | boxA id e ls outs =>
    obtain ⟨rfl, us, b2, hg, rfl, hb⟩ := hb
    simp only [List.nodup_cons] at hn
    simp only [buildV] at h
    obtain ⟨svs, σ1, ρ1, h1, h2, h3, h4, hn1⟩ := buildLs_sound hq hQ1 h hs hb (fun b hb => hf b (by simp [hb])) hn.2 (hQ1 _ hQ) (fun i hi => hN i (by simp [VS.names, hi])) hS
    obtain ⟨h5, h6⟩ := oldO_exec h1
    have hNm := hn1 id (hN id (by simp [VS.names]))
    have e1 : ρ1.bx (B id) = ρb.bx id := hNm.1.2.1
    have hne : Obj.box e svs ≠ .absent := by simp
    have hlv : ∀ m, σ1.lv ρ1 m → (σ1.setO (B id) (.box e svs)).lv (ρ1.bks (B id) [ρb.bx id]) m := fun m hm => hm.imp (live_setO hne m) (fun h => h)
    obtain ⟨h7, h8⟩ := h2.make (ρ1 := ρ1.bks (B id) [ρb.bx id]) (n := B id) (o := .box e svs) h5 hne (fun m hm => ρ1.put_ne hm) (fun _ => ρ1.bks_same _ _ _) rfl
      ⟨by simp [Rho.bks, Rho.put, e1], us, by simpa [Rho.bks, Rho.put, e1] using hg, h4.imp fun _ _ h => LR0_mono hlv (fun m _ => ρ1.bks_same _ _ m) (fun _ h => h) (fun _ _ => rfl) h⟩
      (fun b hb => by
        have : b = ρb.bx id := by simpa [Rho.bks, Rho.put] using hb.2
        rw [this]; exact h3.free (hf _ (by simp)) hn.1) (bs := [ρb.bx id]) (fun b hb => by simpa [Rho.bks, Rho.put] using hb.2)
    refine ⟨_, _, _, h6, h7, (h3.trans h8).wide (by simp [or_comm]), ⟨.inl (live_set hne), ?_⟩, fun i hi => (hn1 i hi).bd h8 (.inr (ρ1.bks_same _ _ _))⟩
    simp [Rho.bks, Rho.put, e1]
  | clo f e ls outs =>
    obtain ⟨g, rfl, hb⟩ := hb
    obtain ⟨σ1, ρ1, h1, h2, h3, h4, h5, h6⟩ := box (f := fun n => .fn f [.box n 0]) h hb hN hS
    exact ⟨_, σ1, ρ1, h1, h2, h3, ⟨[.pointer (some ⟨ρ1.bx n, 0, none⟩)], by rw [h5], h4, rfl, trivial⟩, h6⟩
  | muts id e t =>
    obtain ⟨sv, σ1, ρ1, h1, h2, h3, h4, h5⟩ := buildL_sound (l := .ownA id e t) h hs hb hf hn hQ hq hN hS
    exact ⟨sv, σ1, ρ1, h1, h2, h3, LR1_of_LR0 h4, h5⟩
  | aggm ls =>
    obtain ⟨us, rfl, hb⟩ := hb
    obtain ⟨svs, σ1, ρ1, h1, h2, h3, h4, h5⟩ := buildLs_sound hq hQ1 h hs hb hf hn hQ hN hS
    exact ⟨.agg svs, σ1, ρ1, h1, h2, h3, ⟨us, rfl, h4⟩, h5⟩
theorem buildVs_sound {a : Act} {w : World} {r : α × St} {F : Nat → Prop} {ρb : Rho} {Q : Nat → Prop} (hq : ∀ m, Q m → liveId ≤ m) (hQ1 : ∀ m, Q m → Q (m + 1)) : ∀ {ss : List VS} {x : VsI ss} {n : Nat} {K : List SV → M α} {vs : List Value} {ρ : Rho} {σ : St} {bs : List Nat}, (buildVs B ss x n K).exec σ = some r → Sim cx nt ρ F σ a w → BRVs ρb F w ss x vs bs → (∀ b ∈ bs, Free cx ρ F σ b) → bs.Nodup → Q n → (∀ s ∈ ss, ∀ id ∈ s.names, Nm ρb B Q ρ σ id) → (∀ s ∈ ss, ∀ id ∈ s.selfs, σ.lv ρ (B id)) →
    ∃ svs σ1 ρ1, (K svs).exec σ1 = some r ∧ Sim cx nt ρ1 F σ1 a w ∧ Bd ρ ρ1 σ σ1 bs ∧ All2 (LR1 ρ1 F w (σ1.lv ρ1)) svs vs ∧ ∀ id, Nm ρb B Q ρ σ id → Nm ρb B Q ρ1 σ1 id
  | [], x, n, K, vs, ρ, σ, bs, h, hs, hb, hf, hn, hQ, hN, hS => by
    obtain ⟨rfl, rfl⟩ := hb
    exact ⟨[], σ, ρ, h, hs, Bd.refl _ _ _, trivial, fun _ h => h⟩
  | l :: ls, x, n, K, vs, ρ, σ, bs, h, hs, hb, hf, hn, hQ, hN, hS => by
    obtain ⟨v, vs', b1, b2, rfl, rfl, hb1, hb2⟩ := hb
    simp only [buildVs] at h
    rw [List.nodup_append] at hn
    obtain ⟨sv, σ1, ρ1, h1, hs1, hd1, hv1, hn1⟩ := buildV_sound hq hQ1 h hs hb1 (fun b hb => hf b (List.mem_append_left _ hb)) hn.1 hQ (hN l (by simp)) (hS l (by simp))
    obtain ⟨svs, σ2, ρ2, h2, hs2, hd2, hv2, hn2⟩ := buildVs_sound hq hQ1 h1 hs1 hb2 (fun b hb => hd1.free (hf b (List.mem_append_right _ hb)) (fun hb' => hn.2.2 b hb' b hb rfl)) hn.2.1 (Q_add hQ1 64 _ hQ) (fun s hs id hid => hn1 id (hN s (by simp [hs]) id hid)) (fun s hs id hid => hd1.lv' _ (hS s (by simp [hs]) id hid))
    exact ⟨sv :: svs, σ2, ρ2, h2, hs2, hd1.trans hd2, ⟨hd2.LR1 hv1, hv2⟩, fun id hid => hn2 id (hn1 id hid)⟩
end
end Go.Gx

/-
  Gx, part D4: what was handed in comes back.
-/
set_option linter.unusedVariables false
set_option linter.unusedSimpArgs false
namespace Go.Gx
section
variable {α : Type} {cx : Ctx} {nt : Fr} {B : Nat → Nat}
theorem backs_sound {a : Act} {w : World} {F : Nat → Prop} {r : Unit × St} {ρb : Rho} {Q : Nat → Prop} (hq : ∀ m, Q m → liveId ≤ m) (hQ1 : ∀ m, Q m → Q (m + 1)) : ∀ {ss : List VS} {x : VsI ss} {svs : List SV} {id : Nat} {K : MU} {vs : List Value} {ρ : Rho} {σ : St} {bs : List Nat}, (backs B ss x svs id K).exec σ = some r → Sim cx nt ρ F σ a w →
    All2 (VR ρ F w (σ.lv ρ)) svs vs → BRVs ρb F w ss x vs bs → (∀ b ∈ bs, Free cx ρ F σ b) → bs.Nodup → Q id → (∀ s ∈ ss, ∀ i ∈ s.names, Nm ρb B Q ρ σ i) → (∀ s ∈ ss, ∀ i ∈ s.selfs, σ.lv ρ (B i)) →
    ∃ σ1 ρ1, K.exec σ1 = some r ∧ Sim cx nt ρ1 F σ1 a w ∧ Bd ρ ρ1 σ σ1 bs ∧ ∀ i, Nm ρb B Q ρ σ i → Nm ρb B Q ρ1 σ1 i
  | [], x, svs, id, K, vs, ρ, σ, bs, h, hs, hp, hb, hf, hn, hQ, hN, hS => by
    have h' : K.exec σ = some r := by simpa [backs] using h
    exact ⟨σ, ρ, h', hs, Bd.refl _ _ _, fun _ h => h⟩
  | s :: ss, x, [], id, K, vs, ρ, σ, bs, h, hs, hp, hb, hf, hn, hQ, hN, hS => by cases s <;> simp [backs, M.exec] at h
  | s :: ss, x, sv :: svs, id, K, [], ρ, σ, bs, h, hs, hp, hb, hf, hn, hQ, hN, hS => hp.elim
  | s :: ss, x, sv :: svs, id, K, v0 :: vs0, ρ, σ, bs, h, hs, hp, hb, hf, hn, hQ, hN, hS => by
    obtain ⟨v, vs', b1, b2, ev, rfl, hb1, hb2⟩ := hb
    cases ev
    rw [List.nodup_append] at hn
    have hN0 := hN s (by simp)
    have hS0 := hS s (by simp)
    -- what follows behind the first one
    have rest : ∀ {σ1 : St} {ρ1 : Rho}, (backs B ss x.2 svs (id + 64) K).exec σ1 = some r → Sim cx nt ρ1 F σ1 a w → Bd ρ ρ1 σ σ1 b1 → (∀ i, Nm ρb B Q ρ σ i → Nm ρb B Q ρ1 σ1 i) →
        ∃ σ1 ρ1, K.exec σ1 = some r ∧ Sim cx nt ρ1 F σ1 a w ∧ Bd ρ ρ1 σ σ1 (b1 ++ b2) ∧ ∀ i, Nm ρb B Q ρ σ i → Nm ρb B Q ρ1 σ1 i := by
      intro σ1 ρ1 h1 h2 h3 h4
      obtain ⟨σ2, ρ2, k1, k2, k3, k4⟩ := backs_sound hq hQ1 h1 h2 (hp.2.imp fun _ _ h => h3.VR h) hb2 (fun b hb => h3.free (hf b (List.mem_append_right _ hb)) (fun hb' => hn.2.2 b hb' b hb rfl)) hn.2.1 (Q_add hQ1 64 _ hQ)
        (fun s hs i hi => h4 i (hN s (by simp [hs]) i hi)) (fun s hs i hi => h3.lv' _ (hS s (by simp [hs]) i hi))
      exact ⟨σ2, ρ2, k1, k2, h3.trans k3, fun i hi => k4 i (h4 i hi)⟩
    -- a box
    have box : ∀ {e : TypeId} {ls : List LS} {y : LsI ls} {n : Nat}, σ.lv ρ n → (buildLs B ls y id fun us => .getO n fun | .dead => .setO n (.box e us) (backs B ss x.2 svs (id + 64) K) | _ => .fail).exec σ = some r → BoxG ρb F w e ls y (ρ.bx n) b1 → (∀ i ∈ ls.flatMap LS.names, Nm ρb B Q ρ σ i) → (∀ i ∈ ls.flatMap LS.selfs, σ.lv ρ (B i)) →
        ∃ σ1 ρ1, K.exec σ1 = some r ∧ Sim cx nt ρ1 F σ1 a w ∧ Bd ρ ρ1 σ σ1 (b1 ++ b2) ∧ ∀ i, Nm ρb B Q ρ σ i → Nm ρb B Q ρ1 σ1 i := by
      intro e ls y n hl h hb hN hS
      obtain ⟨us, b3, hg, rfl, hb⟩ := hb
      have hn1 := hn.1
      simp only [List.nodup_cons] at hn1
      obtain ⟨svs', σ1, ρ1, h1, h2, h3, h4, h5⟩ := buildLs_sound hq hQ1 h hs hb (fun b hb => hf b (by simp [hb])) hn1.2 hQ hN hS
      simp only [M.exec] at h1
      split at h1
      · rename_i hd
        simp only [M.exec] at h1
        have hne : Obj.box e svs' ≠ .absent := by simp
        have hr : ρ1.bx n = ρ.bx n := (h3.rho n hl).2.1
        have hlv : ∀ m, σ1.lv ρ1 m → (σ1.setO n (.box e svs')).lv (ρ1.bks n [ρ.bx n]) m := fun m hm => hm.imp (live_setO hne m) (fun h => h)
        obtain ⟨h6, h7⟩ := h2.make (ρ1 := ρ1.bks n [ρ.bx n]) (n := n) (o := .box e svs') (.inr hd) hne (fun m hm => ρ1.put_ne hm) (fun _ => ρ1.bks_same _ _ _) rfl
          ⟨by simp [Rho.bks, Rho.put, hr], us, by simpa [Rho.bks, Rho.put, hr] using hg, h4.imp fun _ _ h => LR0_mono hlv (fun m _ => ρ1.bks_same _ _ m) (fun _ h => h) (fun _ _ => rfl) h⟩
          (fun b hb => by
            have : b = ρ.bx n := by simpa [Rho.bks, Rho.put] using hb.2
            rw [this]; exact h3.free (hf _ (by simp)) hn1.1) (bs := [ρ.bx n]) (fun b hb => by simpa [Rho.bks, Rho.put] using hb.2)
        exact rest h1 h6 ((h3.trans h7).wide (by simp [or_comm])) fun i hi => (h5 i hi).bd h7 (.inr (ρ1.bks_same _ _ _))
      · simp [M.exec] at h1
    cases s with
    | leaf l => simp [backs, M.exec] at h
    | agg ls => simp [backs, M.exec] at h
    | box e ls outs =>
      cases sv with
      | box n off =>
        cases off with
        | succ => simp [backs, M.exec] at h
        | zero =>
          obtain ⟨hl, e2⟩ := hp.1
          obtain ⟨g, e1, hb1⟩ := hb1
          rw [e2] at e1
          simp only [Value.pointer.injEq, Option.some.injEq, Addr.mk.injEq, and_true] at e1
          subst e1
          simp only [backs] at h
          exact box hl h hb1 hN0 hS0
      | _ => simp [backs, M.exec] at h
    | boxA id' e ls outs =>
      cases sv with
      | box n off =>
        cases off with
        | succ => simp [backs, M.exec] at h
        | zero =>
          obtain ⟨hl, e2⟩ := hp.1
          obtain ⟨e1, hb1⟩ := hb1
          rw [e2] at e1
          simp only [Value.pointer.injEq, Option.some.injEq, Addr.mk.injEq, and_true] at e1
          rw [← e1] at hb1
          simp only [backs] at h
          obtain ⟨_, h⟩ := test_exec h
          exact box hl h hb1 (fun i hi => hN0 i (by simp [VS.names, hi])) hS0
      | _ => simp [backs, M.exec] at h
    | clo f e ls outs =>
      cases sv with
      | fn g cs =>
        match cs with
        | [] => simp [backs, M.exec] at h
        | [c] =>
          cases c with
          | box n off =>
            cases off with
            | succ => simp [backs, M.exec] at h
            | zero =>
              simp only [backs] at h
              obtain ⟨_, h⟩ := test_exec h
              obtain ⟨us, e2, hc⟩ := hp.1
              match us, hc with
              | [u], hc =>
                obtain ⟨hl, rfl, _⟩ := hc
                obtain ⟨g', e1, hb1⟩ := hb1
                rw [e2] at e1
                simp only [Value.func.injEq, true_and] at e1
                have e3 := congrArg (fun q : Array Value => q[0]?) e1.2
                simp only [List.getElem?_toArray, List.getElem?_cons_zero, Option.some.injEq, Value.pointer.injEq, Addr.mk.injEq, and_true] at e3
                subst e3
                exact box hl h hb1 hN0 hS0
          | _ => simp [backs, M.exec] at h
        | c :: c' :: cs => cases c with
          | box n off => cases off <;> simp [backs, M.exec] at h
          | _ => simp [backs, M.exec] at h
      | _ => simp [backs, M.exec] at h
    | muts id' e t =>
      cases sv with
      | own n =>
        obtain ⟨hl, e2, _⟩ := hp.1
        simp only [backs] at h
        obtain ⟨hnn, h⟩ := test_exec h
        have hnn := Nat.eq_of_beq_eq_true hnn
        subst hnn
        obtain ⟨hown, e3, e4⟩ := hb1
        have hNm := hN0 id' (by simp [VS.names])
        have e5 : ρ.es (B id') = t.sz := hNm.1.2.2.trans e4
        simp only [M.exec] at h
        split at h
        · rename_i hd
          simp only [M.exec] at h
          obtain ⟨h6, h7⟩ := hs.make (ρ1 := ρ.bks (B id') b1) (n := B id') (o := .row e t x.1) (.inr hd) (by simp) (fun m hm => ρ.put_ne hm) (fun _ => ρ.bks_same _ _ _) rfl
            ⟨by simp [Rho.bks, Rho.put, e5], by simpa [Rho.bks, Rho.put, ← e2] using hown, by simpa [Rho.bks, Rho.put] using hn.1⟩
            (fun b hb => hf b (List.mem_append_left _ (by simpa [Rho.bks, Rho.put] using hb.2))) (bs := b1) (fun b hb => by simpa [Rho.bks, Rho.put] using hb.2)
          exact rest h h6 h7 fun i hi => hi.bd h7 (.inr (ρ.bks_same _ _ _))
        · simp [M.exec] at h
      | _ => simp [backs, M.exec] at h
    | aggm ls =>
      cases sv with
      | agg svs' =>
        simp only [backs] at h
        obtain ⟨us, e1, hb1⟩ := hb1
        obtain ⟨svs2, σ1, ρ1, h1, h2, h3, h4, h5⟩ := buildLs_sound hq hQ1 h hs hb1 (fun b hb => hf b (List.mem_append_left _ hb)) hn.1 hQ hN0 hS0
        exact rest h1 h2 h3 h5
      | _ => simp [backs, M.exec] at h
end
end Go.Gx

/-
  Gx, part E1: the operations that touch no memory.
-/
set_option linter.unusedVariables false
set_option linter.unusedSimpArgs false
namespace Go.Gx
section
variable {P : Program} {cx : Ctx} {nt : Fr} {ρ : Rho} {F : Nat → Prop} {σ σ' : St} {a : Act} {w w' : World} {o : Oper} {K : Act → World → Prop} {Q : Exit → Act → World → Prop}
theorem wp_val {v : Value} (hr : (execOp a.eval o).run P w = .ok (.value v) w') (hK : K (a.put o.dst v) w') : o.wp P a w K Q := by
  unfold Oper.wp; rw [hr]; exact hK
theorem wp_skp (hr : (execOp a.eval o).run P w = .ok .skip w') (hK : K (a.put o.dst undef) w') : o.wp P a w K Q := by
  unfold Oper.wp; rw [hr]; exact hK
theorem Act.put_size (a : Act) (d : Option Tmp) (v : Value) : (a.put d v).tmps.size = a.tmps.size := by cases d <;> simp [Act.put]
theorem Act.put_defers' (a : Act) (d : Option Tmp) (v : Value) : (a.put d v).defers = a.defers := by cases d <;> rfl
theorem put_get (a : Act) (d s : Nat) (v : Value) (h : d < a.tmps.size) : (a.put (some d) v).tmps.getD s undef = if s = d then v else a.tmps.getD s undef := by
  simp only [Act.put, Array.getD_eq_getD_getElem?, Array.getElem?_setIfInBounds]
  by_cases e : d = s
  · subst e; simp [h]
  · have : ¬ s = d := fun h => e h.symm
    simp [e, this]
theorem put_sound {sv : SV} {v : Value} {dst : Option Nat} (h : (put nt dst sv).exec σ = some ((), σ')) (hs : Sim cx nt ρ F σ a w) (hv : VR ρ F w (σ.lv ρ) sv v) : Sim cx nt ρ F σ' (a.put dst v) w := by
  unfold put at h
  cases dst with
  | none => simp only [M.exec, Option.some.injEq, Prod.mk.injEq, true_and] at h; subst h; exact hs
  | some d =>
    replace h := test_exec h; obtain ⟨hd, h⟩ := h
    simp only [M.exec, Option.some.injEq, Prod.mk.injEq, true_and] at h
    subst h
    simp only [Bool.and_eq_true, Bool.not_eq_true'] at hd
    obtain ⟨hd, hpin⟩ := hd
    have hlt : d < a.tmps.size := by
      rw [hs.size]
      simp only [Nat.blt] at hd
      exact Nat.le_of_ble_eq_true hd
    refine ⟨by rw [Act.put_defers']; exact hs.defers, by rw [Act.put_size]; exact hs.size, fun s hm => ?_, fun s => ?_, hs.objs, hs.disj, hs.own, hs.Fb, hs.F0, hs.pr, hs.fx, hs.fxl, hs.fix⟩
    · rw [put_get _ _ _ _ hlt, if_neg]
      · exact hs.pin s hm
      · intro e
        subst e
        have : hasN nt.pin s = true := by
          simp only [hasN, List.any_eq_true]
          exact ⟨s, hm, by simp⟩
        rw [hpin] at this; cases this
    · rw [setS_sl, put_get _ _ _ _ hlt]
      split
      · exact hv
      · exact hs.slots s
theorem ev_sound {α : Type} {x : Operand} {k : SV → M α} {r : α × St} (h : (ev x k).exec σ = some r) (hs : Sim cx nt ρ F σ a w) : ∃ sv, (k sv).exec σ = some r ∧ VR ρ F w (σ.lv ρ) sv (a.eval x) := by
  cases x with
  | tmp t => exact ⟨_, h, hs.slots t⟩
  | const v => exact ⟨_, h, VR_svOf⟩
  | func f => exact ⟨_, h, [], rfl, trivial⟩
  | global g => simp [ev, M.exec] at h
theorem evO_sound {α : Type} : ∀ {xs : List Operand} {k : List SV → M α} {r : α × St}, (evO xs k).exec σ = some r → Sim cx nt ρ F σ a w → ∃ svs, (k svs).exec σ = some r ∧ All2 (VR ρ F w (σ.lv ρ)) svs (xs.map a.eval)
  | [], k, r, h, hs => ⟨[], h, trivial⟩
  | x :: xs, k, r, h, hs => by
    obtain ⟨sv, h1, hv⟩ := ev_sound h hs
    obtain ⟨svs, h2, hvs⟩ := evO_sound h1 hs
    exact ⟨sv :: svs, h2, hv, hvs⟩
structure EnvOK (P : Program) (E : Env) : Prop where
  tt : ∀ t i, E.tt t = some i → tinfo P t = some i
  eqt : ∀ t, E.eqt t = true → ∀ (x x' y y' : Int) (p q : Operand) (w : World),
    (eqGuard .eql t p q (.agg #[.int .i64 x, .int .i64 x']) (.agg #[.int .i64 y, .int .i64 y'])).run P w = .ok () w ∧
    (eqGuard .neq t p q (.agg #[.int .i64 x, .int .i64 x']) (.agg #[.int .i64 y, .int .i64 y'])).run P w = .ok () w ∧
    (Op.equal t (.agg #[.int .i64 x, .int .i64 x']) (.agg #[.int .i64 y, .int .i64 y'])).run P w = .ok (x == y && (x' == y')) w
theorem tinfo_spec {t : TypeId} {i : TI} (h : tinfo P t = some i) : ∃ d inf, P.underlying t = some d ∧ P.info? t = some inf ∧ i.agg = aggD d ∧ i.size = inf.size ∧ i.bytes = inf.bytes ∧ i.zero = inf.zero.getD undef ∧
    (i.fields = match d with | .struct fs => fs.toList.map fun f => (f.offset, ((P.info? f.type).map (·.size)).getD 0, ((P.underlying f.type).map aggD).getD true) | _ => []) ∧
    (i.elem = match d with | .slice e => some e | _ => none) ∧ (i.ik = match d with | .int k => some k | _ => none) ∧ (i.isStr = match d with | .string => true | _ => false) ∧ (i.isB = match d with | .bool => true | _ => false) ∧ i.hasZ = inf.zero.isSome := by
  unfold tinfo at h
  split at h
  · rename_i d inf h1 h2
    cases h
    exact ⟨d, inf, h1, h2, rfl, rfl, rfl, rfl, rfl, rfl, rfl, rfl, rfl, rfl⟩
  · cases h
theorem elem_spec {t e : TypeId} {i : TI} (h : tinfo P t = some i) (he : i.elem = some e) : P.underlying t = some (.slice e) := by
  obtain ⟨d, inf, h1, h2, _, _, _, _, _, h3, _⟩ := tinfo_spec h
  rw [he] at h3
  cases d <;> simp at h3
  subst h3
  exact h1
theorem ik_spec {t : TypeId} {k : IntKind} {i : TI} (h : tinfo P t = some i) (he : i.ik = some k) : P.underlying t = some (.int k) := by
  obtain ⟨d, inf, h1, h2, _, _, _, _, _, _, h3, _⟩ := tinfo_spec h
  rw [he] at h3
  cases d <;> simp at h3
  subst h3
  exact h1
theorem str_spec {t : TypeId} {i : TI} (h : tinfo P t = some i) (he : i.isStr = true) : P.underlying t = some .string := by
  obtain ⟨d, inf, h1, h2, _, _, _, _, _, _, _, h3, _⟩ := tinfo_spec h
  rw [he] at h3
  cases d <;> simp at h3
  exact h1
theorem size_spec {t : TypeId} {i : TI} (h : tinfo P t = some i) : ∃ inf, P.info? t = some inf ∧ inf.size = i.size ∧ inf.bytes = i.bytes ∧ inf.zero.getD undef = i.zero := by
  obtain ⟨d, inf, h1, h2, _, h3, h4, h5, _⟩ := tinfo_spec h
  exact ⟨inf, h2, h3.symm, h4.symm, h5.symm⟩
theorem zero_spec {t : TypeId} {i : TI} (h : tinfo P t = some i) (hz : i.hasZ = true) : ∃ inf, P.info? t = some inf ∧ inf.size = i.size ∧ inf.bytes = i.bytes ∧ inf.zero = some i.zero := by
  obtain ⟨d, inf, h1, h2, _, h3, h4, h5, _, _, _, _, _, h6⟩ := tinfo_spec h
  refine ⟨inf, h2, h3.symm, h4.symm, ?_⟩
  rw [hz] at h6
  obtain ⟨z, hz⟩ := Option.isSome_iff_exists.1 h6.symm
  rw [h5, hz]; rfl
theorem run_sizeOf {t : TypeId} {i : TI} (h : tinfo P t = some i) (w : World) : (sizeOf t).run P w = .ok i.size w := by
  obtain ⟨inf, h1, h2, _⟩ := size_spec h
  simp [sizeOf, typeInfo, h1, h2]
theorem run_isAgg {t : TypeId} {i : TI} (h : tinfo P t = some i) (w : World) : (isAgg t).run P w = .ok i.agg w := by
  obtain ⟨d, inf, h1, h2, h3, _⟩ := tinfo_spec h
  rw [h3]
  cases d <;> simp [isAgg, run_underlying h1, aggD]

theorem bool_spec {t : TypeId} {i : TI} (h : tinfo P t = some i) (he : i.isB = true) : P.underlying t = some .bool := by
  obtain ⟨d, inf, h1, h2, _, _, _, _, _, _, _, _, h3, _⟩ := tinfo_spec h
  rw [he] at h3
  cases d <;> simp at h3
  exact h1
theorem run_equalIn_bool {t : TypeId} (hu : P.underlying t = some .bool) (d : Nat) (x y : Bool) (w : World) : (Op.equalIn (d + 1) t (.bool x) (.bool y)).run P w = .ok (x == y) w := by
  simp [Op.equalIn, run_underlying hu]
theorem run_equal_bool {t : TypeId} (hu : P.underlying t = some .bool) (x y : Bool) (w : World) : (Op.equal t (.bool x) (.bool y)).run P w = .ok (x == y) w := run_equalIn_bool hu 9999 x y w
theorem eql_eq (t : TypeId) (x y : Bool) : binOp .eql t (.bool x) (.bool y) = (do pure (.bool (← Op.equal t (.bool x) (.bool y)))) := rfl
theorem neq_eq (t : TypeId) (x y : Bool) : binOp .neq t (.bool x) (.bool y) = (do pure (.bool (!(← Op.equal t (.bool x) (.bool y))))) := rfl
theorem eql_agg (t : TypeId) (x y : Array Value) : binOp .eql t (.agg x) (.agg y) = (do pure (.bool (← Op.equal t (.agg x) (.agg y)))) := rfl
theorem neq_agg (t : TypeId) (x y : Array Value) : binOp .neq t (.agg x) (.agg y) = (do pure (.bool (!(← Op.equal t (.agg x) (.agg y))))) := rfl
theorem eql_slice (t : TypeId) (A B : Option Addr) (n c m d : Nat) : binOp .eql t (.slice A n c) (.slice B m d) = (do pure (.bool (← Op.equal t (.slice A n c) (.slice B m d)))) := rfl
theorem neq_slice (t : TypeId) (A B : Option Addr) (n c m d : Nat) : binOp .neq t (.slice A n c) (.slice B m d) = (do pure (.bool (!(← Op.equal t (.slice A n c) (.slice B m d))))) := rfl
theorem run_equalIn_nil {t e : TypeId} (hu : P.underlying t = some (.slice e)) (d : Nat) (A : Option Addr) (n c : Nat) (w : World) : (Op.equalIn (d + 1) t (.slice A n c) (.slice none 0 0)).run P w = .ok A.isNone w := by
  cases A <;> simp [Op.equalIn, run_underlying hu]
theorem run_equal_nil {t e : TypeId} (hu : P.underlying t = some (.slice e)) (A : Option Addr) (n c : Nat) (w : World) : (Op.equal t (.slice A n c) (.slice none 0 0)).run P w = .ok A.isNone w := run_equalIn_nil hu 9999 A n c w
theorem bin_sound {E : Env} (hE : EnvOK P E) {op : BinOp} {xt yt : TypeId} {x y : Operand} {sa sb : SV} {kk : SV → MU} {r : Unit × St} (h : (binM (match E.tt xt with | some i => i.isB | none => false) (E.eqt xt) (match E.tt xt with | some i => i.elem.isSome | none => false) op sa sb kk).exec σ = some r) (ha : VR ρ F w (σ.lv ρ) sa (a.eval x)) (hb : VR ρ F w (σ.lv ρ) sb (a.eval y)) (ho : o.op = .binOp op xt x y yt) :
    ∃ sv v, (kk sv).exec σ = some r ∧ VR ρ F w (σ.lv ρ) sv v ∧ (execOp a.eval o).run P w = .ok (.value v) w := by
  unfold binM at h
  split at h
  · rename_i k z k' z'
    have ha : a.eval x = .int k z := ha
    have hb : a.eval y = .int k' z' := hb
    split at h
    · replace h := test_exec h; obtain ⟨h0, h⟩ := h
      have h0 : ¬ z' < 0 := by have := of_decide_eq_true h0; omega
      exact ⟨_, _, h, rfl, by simp [execOp, ho, ha, hb, eqGuard, binOp, Op.shift, h0]⟩
    · replace h := test_exec h; obtain ⟨h0, h⟩ := h
      have h0 : ¬ z' < 0 := by have := of_decide_eq_true h0; omega
      exact ⟨_, _, h, rfl, by simp [execOp, ho, ha, hb, eqGuard, binOp, Op.shift, h0]⟩
    replace h := test_exec h; obtain ⟨hk, h⟩ := h
    have hk := of_decide_eq_true hk
    subst hk
    unfold intM at h
    split at h
    · exact ⟨_, _, h, rfl, by simp [execOp, ho, ha, hb, eqGuard, binOp, Op.intArith]⟩
    · exact ⟨_, _, h, rfl, by simp [execOp, ho, ha, hb, eqGuard, binOp, Op.intArith]⟩
    · exact ⟨_, _, h, rfl, by simp [execOp, ho, ha, hb, eqGuard, binOp, Op.intArith]⟩
    · replace h := test_exec h; obtain ⟨h0, h⟩ := h
      have h0 : ¬ z' = 0 := by simpa using h0
      exact ⟨_, _, h, rfl, by simp [execOp, ho, ha, hb, eqGuard, binOp, Op.intDiv, h0]⟩
    · replace h := test_exec h; obtain ⟨h0, h⟩ := h
      have h0 : ¬ z' = 0 := by simpa using h0
      exact ⟨_, _, h, rfl, by simp [execOp, ho, ha, hb, eqGuard, binOp, Op.intDiv, h0]⟩
    · exact ⟨_, _, h, rfl, by simp [execOp, ho, ha, hb, eqGuard, binOp, Op.intBits]⟩
    · exact ⟨_, _, h, rfl, by simp [execOp, ho, ha, hb, eqGuard, binOp, Op.intCmp]⟩
    · exact ⟨_, _, h, rfl, by simp [execOp, ho, ha, hb, eqGuard, binOp, Op.intCmp]⟩
    · exact ⟨_, _, h, rfl, by simp [execOp, ho, ha, hb, eqGuard, binOp, Op.intCmp]⟩
    · exact ⟨_, _, h, rfl, by simp [execOp, ho, ha, hb, eqGuard, binOp, Op.intCmp]⟩
    · exact ⟨_, _, h, rfl, by simp [execOp, ho, ha, hb, eqGuard, binOp, Op.intCmp]⟩
    · exact ⟨_, _, h, rfl, by simp [execOp, ho, ha, hb, eqGuard, binOp, Op.intCmp]⟩
    · exact ⟨_, _, h, rfl, by simp [execOp, ho, ha, hb, eqGuard, binOp, Op.intBits]⟩
    · exact ⟨_, _, h, rfl, by simp [execOp, ho, ha, hb, eqGuard, binOp, Op.intBits]⟩
    · simp [M.exec] at h
  · rename_i z z'
    have ha : a.eval x = .string z := ha
    have hb : a.eval y = .string z' := hb
    split at h
    · replace h := test_exec h; obtain ⟨h0, h⟩ := h
      have h0 : z.size + z'.size ≤ lim := of_decide_eq_true h0
      have h1 : ¬ ((z.size + z'.size : Nat) : Int) > IntKind.i64.max := by
        have : IntKind.i64.max = 9223372036854775807 := by decide
        rw [this]; unfold lim at h0; omega
      exact ⟨_, _, h, rfl, by simp only [execOp, ho, ha, hb]; simp [eqGuard, binOp, Op.stringOp]; unfold lim at h0; omega⟩
    · exact ⟨_, _, h, rfl, by simp [execOp, ho, ha, hb, eqGuard, binOp, Op.stringOp]⟩
    · exact ⟨_, _, h, rfl, by simp [execOp, ho, ha, hb, eqGuard, binOp, Op.stringOp]⟩
    · simp [M.exec] at h
  · rename_i z z'
    have ha : a.eval x = .bool z := ha
    have hb : a.eval y = .bool z' := hb
    replace h := test_exec h; obtain ⟨hi, h⟩ := h
    obtain ⟨i, hi1, hi2⟩ : ∃ i, E.tt xt = some i ∧ i.isB = true := by
      cases hq : E.tt xt with
      | none => rw [hq] at hi; simp at hi
      | some i => rw [hq] at hi; exact ⟨i, rfl, hi⟩
    have hu := bool_spec (hE.tt _ _ hi1) hi2
    split at h
    · exact ⟨_, _, h, rfl, by simp [execOp, ho, ha, hb, eqGuard, eql_eq, run_equal_bool hu]⟩
    · exact ⟨_, _, h, rfl, by simp [execOp, ho, ha, hb, eqGuard, neq_eq, run_equal_bool hu]⟩
    · simp [M.exec] at h
  · rename_i z1 z2 z3 z4
    have two : ∀ {u v : Int} {V : Value}, VR ρ F w (σ.lv ρ) (.agg [.int .i64 u, .int .i64 v]) V → V = .agg #[.int .i64 u, .int .i64 v] := by
      rintro u v V ⟨us, rfl, hu⟩
      obtain ⟨l⟩ := us
      match l, hu with
      | [p, q], hu =>
        have h1 : p = .int .i64 u := hu.1
        have h2 : q = .int .i64 v := hu.2.1
        rw [h1, h2]
    have ha := two ha
    have hb := two hb
    replace h := test_exec h; obtain ⟨hi, h⟩ := h
    obtain ⟨e1, e2, e3⟩ := hE.eqt _ hi z1 z2 z3 z4 x y w
    split at h
    · exact ⟨_, _, h, rfl, by simp [execOp, ho, ha, hb, e1, eql_agg, e3]⟩
    · exact ⟨_, _, h, rfl, by simp [execOp, ho, ha, hb, e2, neq_agg, e3]⟩
    · simp [M.exec] at h
  · rename_i t xs b
    replace h := test_exec h; obtain ⟨hi, h⟩ := h
    obtain ⟨i, hi1, hi2⟩ : ∃ i, E.tt xt = some i ∧ i.elem.isSome = true := by
      cases hq : E.tt xt with
      | none => rw [hq] at hi; simp at hi
      | some i => rw [hq] at hi; exact ⟨i, rfl, hi⟩
    obtain ⟨e, he⟩ := Option.isSome_iff_exists.1 hi2
    have hu := elem_spec (hE.tt _ _ hi1) he
    obtain ⟨_, A, n, c, ha, rfl⟩ := ha
    have hb : a.eval y = .slice none 0 0 := hb
    split at h
    · exact ⟨_, _, h, rfl, by simp [execOp, ho, ha, hb, eqGuard, eql_slice, run_equal_nil hu]⟩
    · exact ⟨_, _, h, rfl, by simp [execOp, ho, ha, hb, eqGuard, neq_slice, run_equal_nil hu]⟩
    · simp [M.exec] at h
  · simp [M.exec] at h
theorem un_sound {op : UnOp} {xt : TypeId} {x : Operand} {sa : SV} {kk : SV → MU} {r : Unit × St} (h : (unM op sa kk).exec σ = some r) (ha : VR ρ F w (σ.lv ρ) sa (a.eval x)) (ho : o.op = .unOp op xt x) :
    ∃ sv v, (kk sv).exec σ = some r ∧ VR ρ F w (σ.lv ρ) sv v ∧ (execOp a.eval o).run P w = .ok (.value v) w := by
  unfold unM at h
  split at h
  · rename_i b
    have ha : a.eval x = .bool b := ha
    exact ⟨_, _, h, rfl, by simp [execOp, ho, ha, Op.unary]⟩
  · rename_i k z
    have ha : a.eval x = .int k z := ha
    exact ⟨_, _, h, rfl, by simp [execOp, ho, ha, Op.unary, Op.intArith]⟩
  · simp [M.exec] at h
theorem fieldAddr_sound {t : TypeId} {i : TI} {x : Operand} {f : Nat} {sa : SV} {kk : SV → MU} {r : Unit × St} (hi : tinfo P t = some i) (h : (fieldAddrM i sa f kk).exec σ = some r) (ha : VR ρ F w (σ.lv ρ) sa (a.eval x)) (ho : o.op = .fieldAddr t x f) :
    ∃ sv v, (kk sv).exec σ = some r ∧ VR ρ F w (σ.lv ρ) sv v ∧ (execOp a.eval o).run P w = .ok (.value v) w := by
  obtain ⟨d, inf, h1, h2, _, _, _, _, hf, _⟩ := tinfo_spec hi
  unfold fieldAddrM at h
  split at h
  · rename_i off z ag hfd
    replace h := test_exec h; obtain ⟨hz, h⟩ := h
    have hz : 0 < z := by simp only [Nat.blt] at hz; exact Nat.le_of_ble_eq_true hz
    rw [hf] at hfd
    cases d with
    | struct fs =>
      simp only [List.getElem?_map, Option.map_eq_some_iff] at hfd
      obtain ⟨fd, hfd, e⟩ := hfd
      simp only [Prod.mk.injEq] at e
      obtain ⟨rfl, hsz, _⟩ := e
      have hfd' : fs[f]? = some fd := by rw [← Array.getElem?_toList]; exact hfd
      obtain ⟨fi, hfi, hfz⟩ : ∃ fi, P.info? fd.type = some fi ∧ fi.size = z := by
        cases hq : P.info? fd.type with
        | none => rw [hq] at hsz; simp at hsz; omega
        | some fi => rw [hq] at hsz; exact ⟨fi, rfl, by simpa using hsz⟩
      have hne : ¬ fi.size = 0 := by omega
      have run : ∀ ad : Addr, a.eval x = .pointer (some ad) → (execOp a.eval o).run P w = .ok (.value (.pointer (some (ad.add fd.offset)))) w := by
        intro ad had
        simp [execOp, ho, had, Instr.fieldAt, run_underlying h1, hfd', Instr.sureAddr, fieldPlace, sizeOf, typeInfo, hfi, hne]
      split at h
      · rename_i n off
        obtain ⟨hl, ha⟩ := ha
        refine ⟨_, _, h, ⟨hl, ?_⟩, run _ ha⟩
        congr 2
        unfold Addr.add
        split <;> simp_all
      · rename_i n j off
        obtain ⟨hl, b, l, c, hh, ha⟩ := ha
        refine ⟨_, _, h, ⟨hl, b, l, c, hh, ?_⟩, run _ ha⟩
        congr 2
        unfold Addr.add
        split <;> simp_all [Nat.add_assoc]
      · rename_i vs
        obtain ⟨ad, ha, hv⟩ := ha
        refine ⟨_, _, h, ⟨_, rfl, fun j sv hj => ?_⟩, run _ ha⟩
        rw [List.getElem?_drop] at hj
        obtain ⟨hb, u, hu, hr⟩ := hv _ sv hj
        exact ⟨by rw [add_block]; exact hb, u, by rw [add_add]; exact hu, hr⟩
      · simp [M.exec] at h
    | _ => simp at hfd
  · simp [M.exec] at h
theorem field_sound {t : TypeId} {i : TI} {x : Operand} {f : Nat} {sa : SV} {kk : SV → MU} {r : Unit × St} (hi : tinfo P t = some i) (h : (fieldM i sa f kk).exec σ = some r) (ha : VR ρ F w (σ.lv ρ) sa (a.eval x)) (ho : o.op = .field t x f) :
    ∃ sv v, (kk sv).exec σ = some r ∧ VR ρ F w (σ.lv ρ) sv v ∧ (execOp a.eval o).run P w = .ok (.value v) w := by
  obtain ⟨d, inf, h1, h2, _, _, _, _, hf, _⟩ := tinfo_spec hi
  unfold fieldM at h
  split at h
  · rename_i off z vs hfd
    split at h
    · rename_i sv hsv
      rw [hf] at hfd
      obtain ⟨us, ha, hu⟩ := ha
      obtain ⟨u, hu1, hu2⟩ := hu.get hsv
      cases d with
      | struct fs =>
        simp only [List.getElem?_map, Option.map_eq_some_iff] at hfd
        obtain ⟨fd, hfd, e⟩ := hfd
        simp only [Prod.mk.injEq] at e
        obtain ⟨rfl, hsz, hag⟩ := e
        have hfd' : fs[f]? = some fd := by rw [← Array.getElem?_toList]; exact hfd
        obtain ⟨fu, hfu, hfa⟩ : ∃ fu, P.underlying fd.type = some fu ∧ aggD fu = false := by
          cases hq : P.underlying fd.type with
          | none => rw [hq] at hag; simp at hag
          | some fu => rw [hq] at hag; exact ⟨fu, rfl, by simpa using hag⟩
        have hna : (isAgg fd.type).run P w = .ok false w := by cases fu <;> simp [aggD] at hfa <;> simp [isAgg, run_underlying hfu]
        have hu1' : us[fd.offset]? = some u := by rw [← Array.getElem?_toList]; exact hu1
        exact ⟨_, _, h, VR_of_LR0 hu2, by simp [execOp, ho, ha, Instr.field, run_underlying h1, hfd', asAgg, Go.part, hna, hu1']⟩
      | _ => simp at hfd
    · simp [M.exec] at h
  · simp [M.exec] at h
theorem index_sound {t : TypeId} {i : TI} {x y : Operand} {sa sb : SV} {kk : SV → MU} {r : Unit × St} (hi : tinfo P t = some i) (hst : i.isStr = true) (h : (indexM sa sb kk).exec σ = some r) (ha : VR ρ F w (σ.lv ρ) sa (a.eval x)) (hb : VR ρ F w (σ.lv ρ) sb (a.eval y)) (ho : o.op = .index t x y) :
    ∃ sv v, (kk sv).exec σ = some r ∧ VR ρ F w (σ.lv ρ) sv v ∧ (execOp a.eval o).run P w = .ok (.value v) w := by
  have hu := str_spec hi hst
  unfold indexM at h
  split at h
  · rename_i s k z
    replace h := test_exec h; obtain ⟨hz, h⟩ := h
    have hz := of_decide_eq_true hz
    have ha : a.eval x = .string s := ha
    have hb : a.eval y = .int k z := hb
    have hlt : z.toNat < s.size := by omega
    have hs : s[z.toNat]? = some s[z.toNat] := getElem?_pos s z.toNat hlt
    refine ⟨_, _, h, rfl, ?_⟩
    simp [execOp, ho, ha, hb, Instr.index, asIntOf, run_underlying hu, hz.1, hs, btx]
  · simp [M.exec] at h
theorem len_sound {t : TypeId} {i : TI} {x : Operand} {as : Array Operand} {ts : Array TypeId} {sa : SV} {kk : Int → MU} {r : Unit × St} (hi : tinfo P t = some i) (hts : ts[0]? = some t) (has : as.toList = [x])
    (hst : (match sa with | .str _ => i.isStr | _ => i.elem.isSome) = true) (hs : Sim cx nt ρ F σ a w) (h : (lenM sa kk).exec σ = some r) (ha : VR ρ F w (σ.lv ρ) sa (a.eval x))
    (ho : o.op = .call { callee := .builtin .len, args := as, argTypes := ts }) :
    ∃ n, (kk n).exec σ = some r ∧ (execOp a.eval o).run P w = .ok (.value (.int .i64 n)) w := by
  have has' : as = #[x] := by rw [← has]
  subst has'
  have hsl : i.elem.isSome = true → ∀ A l c, a.eval x = .slice A l c → (execOp a.eval o).run P w = .ok (.value (.int .i64 l)) w := by
    intro he A l c hx
    obtain ⟨e, he⟩ := Option.isSome_iff_exists.1 he
    have hu := elem_spec hi he
    simp [execOp, ho, resolve, invoke, builtin, Builtin.len_, hts, hx, run_underlying hu, goInt]
  unfold lenM at h
  split at h
  · rename_i t' xs
    obtain ⟨A, c, e, _⟩ := (show TC F w (.sl t') xs [a.eval x] from ha)
    simp only [List.cons.injEq, and_true] at e
    exact ⟨_, h, hsl hst _ _ _ e⟩
  · rename_i n
    obtain ⟨hl, ha, _⟩ := ha
    simp only [M.exec] at h
    cases hob : σ.ob n with
    | row e t' xs =>
      have := hs.objs n
      rw [hob] at this h
      obtain ⟨A, c, e1⟩ := OwnR_slice this.2.1
      exact ⟨_, h, hsl hst _ _ _ (ha.trans e1)⟩
    | hrow e t' xs i' off id =>
      have := hs.objs n
      rw [hob] at this h
      obtain ⟨_, _, ⟨_, _, _, _, _, cells, bss, hrow, _⟩, _⟩ := this
      obtain ⟨A, c, e1⟩ := ownsRow_slice hrow
      exact ⟨_, h, hsl hst _ _ _ (ha.trans e1)⟩
    | _ => rw [hob] at h; simp [lenOf, M.exec] at h
  · rename_i n lo hi'
    obtain ⟨hl, A, l, c, A2, _, _, _, ha, _⟩ := ha
    exact ⟨_, h, hsl hst _ _ _ ha⟩
  · obtain ⟨A, c, ha⟩ := ha
    exact ⟨_, h, hsl hst _ _ _ ha⟩
  · exact ⟨_, h, hsl hst none 0 0 ha⟩
  · rename_i s
    have ha : a.eval x = .string s := ha
    have hu := str_spec hi hst
    exact ⟨_, h, by simp [execOp, ho, resolve, invoke, builtin, Builtin.len_, hts, ha, run_underlying hu, goInt]⟩
  · simp [M.exec] at h
end
end Go.Gx

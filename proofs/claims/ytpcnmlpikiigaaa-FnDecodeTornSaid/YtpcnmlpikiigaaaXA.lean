/-
  Gx, part A: pure data, abstract states, the small monad in which each operation of the model is told, and the run of a body.
-/
import Derived.Orders
import Derived.Laws.OwnMore
import Derived.KernelRfl
set_option linter.unusedVariables false
namespace Go.Gx

/-! ### 1. Types and data -/
inductive Ty where
  | int (k : IntKind)
  | bool
  | str
  | sl (t : Ty)
  | slo (t : Ty)
  | pair (a b : Ty)
  deriving DecidableEq

@[reducible] def Ty.I : Ty → Type
  | .int _ => Int
  | .bool => Bool
  | .str => ByteArray
  | .sl t => List t.I
  | .slo t => Option (List t.I)
  | .pair a b => a.I × b.I
def Ty.sz : Ty → Nat
  | .pair a b => a.sz + b.sz
  | _ => 1
def Ty.dflt : (t : Ty) → t.I
  | .int _ => (0 : Int)
  | .bool => false
  | .str => ByteArray.empty
  | .sl t => ([] : List t.I)
  | .slo t => (none : Option (List t.I))
  | .pair a b => (a.dflt, b.dflt)
/-- No slice in it. -/
def Ty.flat : Ty → Bool
  | .sl _ => false
  | .slo _ => false
  | .pair a b => a.flat && b.flat
  | _ => true

/-- What a slot holds. -/
inductive SV where
  | bot
  | und
  | int (k : IntKind) (z : Int)
  | bool (b : Bool)
  | str (s : ByteArray)
  | nil
  | ro (t : Ty) (xs : List t.I)
  | roo (t : Ty) (x : Option (List t.I))
  | own (n : Nat)
  | view (n lo hi : Nat)
  | agg (vs : List SV)
  | tup (vs : List SV)
  | box (n off : Nat)
  | el (n i off : Nat)
  | rp (vs : List SV)
  | fn (f : FuncId) (caps : List SV)

inductive Obj where
  | absent
  | dead
  | row (e : TypeId) (t : Ty) (xs : List t.I)
  | box (e : TypeId) (vs : List SV)

structure St where
  sl : Nat → SV
  ob : Nat → Obj
def St.empty : St := ⟨fun _ => .bot, fun _ => .absent⟩
def St.setS (σ : St) (s : Nat) (v : SV) : St := ⟨fun s' => bif Nat.beq s' s then v else σ.sl s', σ.ob⟩
def St.setO (σ : St) (n : Nat) (o : Obj) : St := ⟨σ.sl, fun n' => bif Nat.beq n' n then o else σ.ob n'⟩

def leaves : (t : Ty) → t.I → List SV
  | .int k, x => [.int k x]
  | .bool, x => [.bool x]
  | .str, x => [.str x]
  | .sl t, x => [.ro t x]
  | .slo t, x => [.roo t x]
  | .pair a b, x => leaves a x.1 ++ leaves b x.2

/-! ### 2. The monad -/
inductive M (α : Type) : Type 1 where
  | ret (a : α)
  | fail
  | getS (s : Nat) (k : SV → M α)
  | setS (s : Nat) (v : SV) (k : M α)
  | getO (n : Nat) (k : Obj → M α)
  | setO (n : Nat) (o : Obj) (k : M α)
  | test (b : Bool) (k : M α)
  | opt {β : Type} (o : Option β) (k : β → M α)

def M.exec {α : Type} : M α → St → Option (α × St)
  | .ret a, σ => some (a, σ)
  | .fail, _ => none
  | .getS s k, σ => (k (σ.sl s)).exec σ
  | .setS s v k, σ => k.exec (σ.setS s v)
  | .getO n k, σ => (k (σ.ob n)).exec σ
  | .setO n o k, σ => k.exec (σ.setO n o)
  | .test b k, σ => bif b then k.exec σ else none
  | .opt o k, σ => match o with
    | none => none
    | some b => (k b).exec σ

/-- A key: a slot (false) or an object (true). -/
abbrev Key := Bool × Nat
/-- What was read, and what was written. -/
structure Log where
  r : List Key
  w : List Key

def M.fp {α : Type} : M α → St → Log → Log
  | .ret _, _, l => l
  | .fail, _, l => l
  | .getS s k, σ, l => (k (σ.sl s)).fp σ ⟨(false, s) :: l.r, l.w⟩
  | .setS s v k, σ, l => k.fp (σ.setS s v) ⟨l.r, (false, s) :: l.w⟩
  | .getO n k, σ, l => (k (σ.ob n)).fp σ ⟨(true, n) :: l.r, l.w⟩
  | .setO n o k, σ, l => k.fp (σ.setO n o) ⟨l.r, (true, n) :: l.w⟩
  | .test _ k, σ, l => k.fp σ l
  | .opt o k, σ, l => match o with
    | none => l
    | some b => (k b).fp σ l

def force {R : Type} (v : SV) (K : SV → Option R) : Option R :=
  match v with
  | .bot => K .bot
  | .und => K .und
  | .int k z => K (.int k z)
  | .bool b => K (.bool b)
  | .str s => K (.str s)
  | .nil => K .nil
  | .ro t xs => K (.ro t xs)
  | .roo t x => K (.roo t x)
  | .own n => K (.own n)
  | .view n lo hi => K (.view n lo hi)
  | .agg vs => K (.agg vs)
  | .tup vs => K (.tup vs)
  | .box n off => K (.box n off)
  | .el n i off => K (.el n i off)
  | .rp vs => K (.rp vs)
  | .fn f cs => K (.fn f cs)
theorem force_eq {R : Type} (v : SV) (K : SV → Option R) : force v K = K v := by cases v <;> rfl
def forceO {R : Type} (o : Obj) (K : Obj → Option R) : Option R :=
  match o with
  | .absent => K .absent
  | .dead => K .dead
  | .row e t xs => K (.row e t xs)
  | .box e vs => K (.box e vs)
theorem forceO_eq {R : Type} (o : Obj) (K : Obj → Option R) : forceO o K = K o := by cases o <;> rfl

def M.run {α R : Type} : M α → St → Log → (α → St → Log → Option R) → Option R
  | .ret a, σ, l, K => K a σ l
  | .fail, _, _, _ => none
  | .getS s k, σ, l, K => force (σ.sl s) fun v => (k v).run σ ⟨(false, s) :: l.r, l.w⟩ K
  | .setS s v k, σ, l, K => force v fun v => k.run (σ.setS s v) ⟨l.r, (false, s) :: l.w⟩ K
  | .getO n k, σ, l, K => forceO (σ.ob n) fun o => (k o).run σ ⟨(true, n) :: l.r, l.w⟩ K
  | .setO n o k, σ, l, K => forceO o fun o => k.run (σ.setO n o) ⟨l.r, (true, n) :: l.w⟩ K
  | .test b k, σ, l, K => bif b then k.run σ l K else none
  | .opt o k, σ, l, K => match o with
    | none => none
    | some b => (k b).run σ l K

theorem M.run_eq {α R : Type} (m : M α) : ∀ (σ : St) (l : Log) (K : α → St → Log → Option R),
    m.run σ l K = match m.exec σ with | none => none | some x => K x.1 x.2 (m.fp σ l) := by
  induction m with
  | ret a => intro σ l K; rfl
  | fail => intro σ l K; rfl
  | getS s k ih => intro σ l K; simp only [M.run, M.exec, M.fp, force_eq]; exact ih _ _ _ _
  | setS s v k ih => intro σ l K; simp only [M.run, M.exec, M.fp, force_eq]; exact ih _ _ _
  | getO n k ih => intro σ l K; simp only [M.run, M.exec, M.fp, forceO_eq]; exact ih _ _ _ _
  | setO n o k ih => intro σ l K; simp only [M.run, M.exec, M.fp, forceO_eq]; exact ih _ _ _
  | test b k ih => intro σ l K; cases b <;> simp only [M.run, M.exec, M.fp, cond_true, cond_false]; exact ih _ _ _
  | opt o k ih =>
    intro σ l K
    cases o with
    | none => rfl
    | some b => simp only [M.run, M.exec, M.fp]; exact ih _ _ _ _

def M.bind {α β : Type} : M α → (α → M β) → M β
  | .ret a, f => f a
  | .fail, _ => .fail
  | .getS s k, f => .getS s fun v => (k v).bind f
  | .setS s v k, f => .setS s v (k.bind f)
  | .getO n k, f => .getO n fun o => (k o).bind f
  | .setO n o k, f => .setO n o (k.bind f)
  | .test b k, f => .test b (k.bind f)
  | .opt o k, f => .opt o fun b => (k b).bind f

/-! ### 3. What is known of the types -/
structure TI where
  agg : Bool
  size : Nat
  bytes : Nat
  zero : Value
  fields : List (Nat × Nat × Bool)
  elem : Option TypeId
  ik : Option IntKind
  isStr : Bool
  isB : Bool
  hasZ : Bool
  deriving Inhabited
def aggD : TypeDesc → Bool
  | .struct _ => true
  | .array _ _ => true
  | _ => false
def tinfo (P : Program) (t : TypeId) : Option TI :=
  match P.underlying t, P.info? t with
  | some d, some i => some {
      agg := aggD d
      size := i.size
      bytes := i.bytes
      zero := i.zero.getD undef
      fields := match d with | .struct fs => fs.toList.map fun f => (f.offset, ((P.info? f.type).map (·.size)).getD 0, ((P.underlying f.type).map aggD).getD true) | _ => []
      elem := match d with | .slice e => some e | _ => none
      ik := match d with | .int k => some k | _ => none
      isStr := match d with | .string => true | _ => false
      isB := match d with | .bool => true | _ => false
      hasZ := i.zero.isSome }
  | _, _ => none

def leafOf : Value → SV
  | .int k z => .int k z
  | .bool b => .bool b
  | .string s => .str s
  | .slice none 0 0 => .nil
  | .func (.func f) ⟨[]⟩ ⟨[]⟩ => .fn f []
  | _ => .bot
def svOf : Value → SV
  | .agg cs => .agg (cs.toList.map leafOf)
  | v => leafOf v

/-! ### 4. Specs of values that are handed on: to a call, from it, to a round, to what stands behind an if -/
inductive LS where
  | int (k : IntKind)
  | bool
  | str
  | ro (t : Ty)
  | own (e : TypeId) (t : Ty)
  | fn
  | fnc (f : FuncId)
  | nil
  | skip
@[reducible] def LS.I : LS → Type
  | .int _ => Int
  | .bool => Bool
  | .str => ByteArray
  | .ro t => List t.I
  | .own _ t => List t.I
  | .fn => FuncId
  | .fnc _ => Unit
  | .nil => Unit
  | .skip => Unit
@[reducible] def LsI : List LS → Type
  | [] => Unit
  | l :: ls => l.I × LsI ls
inductive VS where
  | leaf (l : LS)
  | agg (ls : List LS)
  | box (e : TypeId) (ls : List LS)
@[reducible] def VS.I : VS → Type
  | .leaf l => l.I
  | .agg ls => LsI ls
  | .box _ ls => LsI ls
@[reducible] def VsI : List VS → Type
  | [] => Unit
  | v :: vs => v.I × VsI vs
def LS.flat : LS → Bool
  | .ro _ => false
  | .own _ t => t.flat
  | _ => true
def VS.flat : VS → Bool
  | .leaf l => l.flat
  | .agg ls => ls.all LS.flat
  | .box _ ls => ls.all LS.flat

def castL {α : Type} {t' : Ty} (t : Ty) (xs : List t'.I) (K : List t.I → M α) : M α :=
  if h : t' = t then K (h ▸ xs) else .fail
/-- Data of one type as those of another one: a slice that may be nil as a slice. -/
def convT : (t' t : Ty) → Option (t'.I → t.I)
  | .slo a, .sl b => if h : a = b then some (fun (x : Option (List a.I)) => h ▸ (x.getD [])) else none
  | .pair a b, .pair c d => match convT a c, convT b d with
    | some f, some g => some fun p => (f p.1, g p.2)
    | _, _ => none
  | .int a, .int b => if a = b then some (fun x => x) else none
  | .bool, .bool => some (fun x => x)
  | .str, .str => some (fun x => x)
  | _, _ => none
def convL {α : Type} {t' : Ty} (t : Ty) (xs : List t'.I) (K : List t.I → M α) : M α :=
  if h : t' = t then K (h ▸ xs) else match convT t' t with
    | some f => K (xs.map f)
    | none => .fail
/-- Take a value: 'b': what is owned is lent where it is only read. -/
def takeL {α : Type} (b : Bool) : (l : LS) → SV → (l.I → M α) → M α
  | .int k, .int k' z, K => .test (decide (k' = k)) (K z)
  | .bool, .bool x, K => K x
  | .str, .str s, K => K s
  | .ro t, .nil, K => K []
  | .ro t, .ro t' xs, K => convL t xs K
  | .ro t, .own n, K => .getO n fun
    | .row _ t' xs => convL t xs fun ys => bif b then K ys else .setO n .dead (K ys)
    | _ => .fail
  | .ro t, .view n lo hi, K => .getO n fun
    | .row _ t' xs => convL t xs fun ys => bif b then K ((ys.take hi).drop lo) else .setO n .dead (K ((ys.take hi).drop lo))
    | _ => .fail
  | .ro t, .roo t' x, K => convL t (x.getD []) K
  | .fn, .fn f [], K => K f
  | .fnc g, .fn f [], K => .test (Nat.beq f g) (K ())
  | .nil, .nil, K => K ()
  | .own e t, .nil, K => K []
  | .own e t, .roo t' x, K => .test x.isNone (K [])
  | .own e t, .own n, K => .getO n fun
    | .row e' t' xs => .test (Nat.beq e' e) (castL t xs fun ys => .setO n .dead (K ys))
    | _ => .fail
  | .own e t, .view n 0 hi, K => .getO n fun
    | .row e' t' xs => .test (Nat.beq e' e) (castL t xs fun ys => .setO n .dead (K (ys.take hi)))
    | _ => .fail
  | .skip, _, K => K ()
  | _, _, _ => .fail
def takeLs {α : Type} (b : Bool) : (ls : List LS) → List SV → (LsI ls → M α) → M α
  | [], [], K => K ()
  | l :: ls, v :: vs, K => takeL b l v fun x => takeLs b ls vs fun y => K (x, y)
  | _, _, _ => .fail
def takeV {α : Type} (b : Bool) : (s : VS) → SV → (s.I → M α) → M α
  | .leaf l, v, K => takeL b l v K
  | .agg ls, .agg vs, K => takeLs b ls vs K
  | .box e ls, .box n 0, K => .getO n fun
    | .box e' vs => .test (Nat.beq e' e) (.setO n .dead (takeLs b ls vs K))
    | _ => .fail
  | _, _, _ => .fail
def takeVs {α : Type} (b : Bool) : (ss : List VS) → List SV → (VsI ss → M α) → M α
  | [], [], K => K ()
  | s :: ss, v :: vs, K => takeV b s v fun x => takeVs b ss vs fun y => K (x, y)
  | _, _, _ => .fail

/-- A new object. -/
def newO {α : Type} (n : Nat) (o : Obj) (K : M α) : M α := .getO n fun
  | .absent => .setO n o K
  | _ => .fail
def buildL {α : Type} : (l : LS) → l.I → Nat → (SV → M α) → M α
  | .int k, x, _, K => K (.int k x)
  | .bool, x, _, K => K (.bool x)
  | .str, x, _, K => K (.str x)
  | .ro t, x, _, K => K (.ro t x)
  | .own e t, x, n, K => newO n (.row e t x) (K (.own n))
  | .fn, f, _, K => K (.fn f [])
  | .fnc f, _, _, K => K (.fn f [])
  | .nil, _, _, K => K .nil
  | .skip, _, _, K => K .bot
def buildLs {α : Type} : (ls : List LS) → LsI ls → Nat → (List SV → M α) → M α
  | [], _, _, K => K []
  | l :: ls, x, n, K => buildL l x.1 n fun v => buildLs ls x.2 (n + 1) fun vs => K (v :: vs)
/-- 'g': where a box is put: a new one, or (for a pointer that was lent) the one that was there. -/
def buildV {α : Type} : (s : VS) → s.I → Nat → (SV → M α) → M α
  | .leaf l, x, n, K => buildL l x n K
  | .agg ls, x, n, K => buildLs ls x n fun vs => K (.agg vs)
  | .box e ls, x, n, K => buildLs ls x (n + 1) fun vs => newO n (.box e vs) (K (.box n 0))
def buildVs {α : Type} : (ss : List VS) → VsI ss → Nat → (List SV → M α) → M α
  | [], _, _, K => K []
  | s :: ss, x, n, K => buildV s x.1 n fun v => buildVs ss x.2 (n + 64) fun vs => K (v :: vs)

def evs {α : Type} : List Nat → (List SV → M α) → M α
  | [], K => K []
  | s :: ss, K => .getS s fun v => evs ss fun vs => K (v :: vs)
def puts {α : Type} : List Nat → List SV → M α → M α
  | [], _, K => K
  | s :: ss, v :: vs, K => .setS s v (puts ss vs K)
  | _ :: _, [], _ => .fail

/-- What is live at a point: slots, and what they hold. -/
structure Live where
  ss : List Nat
  vs : List VS
def Live.take {α : Type} (L : Live) (K : VsI L.vs → M α) : M α := evs L.ss fun svs => takeVs false L.vs svs K
def Live.build (L : Live) (x : VsI L.vs) : M Unit := buildVs L.vs x 0 fun svs => puts L.ss svs (.ret ())

/-! ### 5. A function's sign -/
structure Sig where
  ps : List VS
  rs : List VS
def VS.isBox : VS → Bool
  | .box _ _ => true
  | _ => false
def boxes : List VS → List VS
  | [] => []
  | s :: ss => if s.isBox then s :: boxes ss else boxes ss
abbrev Sig.A (s : Sig) : Type := VsI s.ps
/-- The results, and what the boxes hold that were lent. -/
abbrev Sig.R (s : Sig) : Type := VsI s.rs × VsI (boxes s.ps)
def LS.plain : LS → Bool
  | .own _ _ => false
  | _ => true
def VS.plain : VS → Bool
  | .leaf l => l.plain
  | .agg ls => ls.all LS.plain
  | .box _ _ => false
/-- What it gets is only lent: nothing comes back that could lead there. -/
def Sig.lends (s : Sig) : Bool := s.rs.all VS.flat && s.ps.all VS.plain

structure Env where
  tt : TypeId → Option TI
  ty : TypeId → Option Ty
  eqt : TypeId → Bool
  sig : FuncId → Option Sig
  cl : (f : FuncId) → (s : Sig) → s.A → Option s.R

end Go.Gx

/-
  Gx, part S: words of the printed functions.
-/
import Derived.Test.YtpcnmlpikiigaaaXB
set_option linter.unusedVariables false
namespace Go.Gx
def chk {R : Type} (b : Bool) (o : Option R) : Option R := bif b then o else none
theorem chk_true {R : Type} (o : Option R) : chk true o = o := rfl
theorem chk_of {R : Type} {b : Bool} {o : Option R} (h : b = true) : chk b o = o := by rw [h]; rfl
abbrev len {α : Type} (xs : List α) : Int := (xs.length : Int)
def w64 (z : Int) : Int := IntKind.wrap .i64 z
def wu8 (z : Int) : Int := IntKind.wrap .u8 z
def xor64 (x y : Int) : Int := IntKind.wrap .i64 ((BitVec.ofInt (IntKind.bits .i64) x ^^^ BitVec.ofInt (IntKind.bits .i64) y).toNat : Int)
def xor8 (x y : Int) : Int := IntKind.wrap .u8 ((BitVec.ofInt (IntKind.bits .u8) x ^^^ BitVec.ofInt (IntKind.bits .u8) y).toNat : Int)
theorem jn_eq {T R : Type} (f : T → Option R) (t : T) : jn f t = f t := rfl
theorem lfix_zero {T R : Type} (f : (T → Option R) → T → Option R) (t : T) : lfix 0 f t = none := rfl
theorem lfix_succ {T R : Type} (k : Nat) (f : (T → Option R) → T → Option R) (t : T) : lfix (k + 1) f t = f (lfix k f) t := rfl
/-- A table by numbers. -/
def lk {α : Type} : List (Nat × α) → Nat → Option α
  | [], _ => none
  | (m, a) :: r, n => bif Nat.beq m n then some a else lk r n
theorem lk_mem {α : Type} : ∀ {l : List (Nat × α)} {n : Nat} {a : α}, lk l n = some a → (n, a) ∈ l
  | [], n, a, h => by cases h
  | (m, b) :: r, n, a, h => by
    unfold lk at h
    cases hm : Nat.beq m n with
    | true =>
      rw [hm] at h
      cases h
      have := Nat.eq_of_beq_eq_true hm
      subst this
      exact List.mem_cons_self
    | false =>
      rw [hm] at h
      exact List.mem_cons_of_mem _ (lk_mem h)
def AllP {α : Type} (p : α → Prop) : List α → Prop
  | [] => True
  | a :: l => p a ∧ AllP p l
theorem AllP.mem {α : Type} {p : α → Prop} : ∀ {l : List α}, AllP p l → ∀ a ∈ l, p a
  | [], _, a, h => by cases h
  | b :: l, h, a, hm => by
    rcases List.mem_cons.1 hm with rfl | hm
    · exact h.1
    · exact h.2.mem a hm
end Go.Gx

/-
  Gx: an interpreter of our own, and that it is sound for the model.
-/
import Derived.Test.YtpcnmlpikiigaaaXGpart4
import Derived.WalkKit
import Derived.ProofKit
import Derived.OpenShut
import Derived.ShutString
import Derived.ChangeOld
import Derived.Below
import Derived.SizedLaws
import Derived.Laws.StructEq
set_option linter.unusedVariables false
set_option linter.unusedSimpArgs false
namespace Go.Gx
open Go.RowKit
def sgLaw : Sig := ⟨[.leaf (.ro (.int .u8))], [.leaf .bool]⟩
def IsBytes (w : World) (a : Option Addr) (len cap : Nat) (zs : List Int) : Prop :=
  (a = none ∧ len = 0 ∧ cap = 0 ∧ zs = []) ∨
  ∃ x, a = some x ∧ len ≤ cap ∧ cap ≤ maxLen ∧ zs.length = cap ∧ (∀ i, i < zs.length → w.cell? (x.add i) = some (.int .u8 (zs.getD i 0))) ∧ ∀ n ∈ zs, (Lit.int .u8 n).wf = true
theorem law_walk {P : Program} {T : Tab} (hT : TabOK P T) {f : FuncId} (hfm : f % 100000 = f) (hs : T.sig f = some sgLaw) (hp : ∀ code : List Int, (∀ z ∈ code, 0 ≤ z ∧ z ≤ 255) → ∃ k, T.call k f sgLaw (code, ()) = some ((true, ()), ()))
    {a : Option Addr} {len cap : Nat} {zs : List Int} {w : World} (h : IsBytes w a len cap zs) : Calls P f #[.slice a len cap] w fun e w' => e = .returned (.bool true) ∧ Below w.heap.size w w' := by
  have hwf : ∀ z ∈ zs.take len, 0 ≤ z ∧ z ≤ 255 := by
    intro z hz
    rcases h with ⟨_, _, _, rfl⟩ | ⟨x, _, _, _, _, _, h⟩
    · simp at hz
    · have := h z (List.mem_of_mem_take hz)
      simp only [Lit.wf, Bool.and_eq_true, decide_eq_true_eq] at this
      exact this
  obtain ⟨k, hk⟩ := hp _ hwf
  have hc := Tab.call_sound hT k f sgLaw _ _ hs hk
  rw [hfm] at hc
  have hb : BRVs ⟨fun _ => undef, fun _ => 0, fun _ => 0, fun _ => [], fun _ => False⟩ (fun b => b < w.heap.size) w sgLaw.ps (zs.take len, ()) [.slice a len cap] [] := by
    refine ⟨_, [], [], [], rfl, rfl, ⟨?_, rfl⟩, rfl, rfl⟩
    rcases h with ⟨rfl, rfl, rfl, rfl⟩ | ⟨x, rfl, h1, h2, h3, h4, _⟩
    · exact ⟨none, 0, rfl, Nat.le_refl _, by simp [maxLen], fun i x hi => by simp at hi⟩
    · have hl : (zs.take len).length = len := by rw [List.length_take]; omega
      refine ⟨some x, cap, by rw [hl], by show (zs.take len).length ≤ cap; rw [hl]; exact h1, h2, fun i z hi => ?_⟩
      rw [List.getElem?_take] at hi
      split at hi
      · rename_i hlt
        have hi' : i < zs.length := by omega
        have hcell := h4 i hi'
        refine ⟨x, [.int .u8 z], rfl, ?_, rfl, fun j u hj => ?_⟩
        · have : (x.add i).block < w.heap.size := by
            unfold World.cell? at hcell
            cases hq : w.heap[(x.add i).block]? with
            | none => rw [hq] at hcell; simp at hcell
            | some b => exact (Array.getElem?_eq_some_iff.1 hq).1
          rwa [add_block] at this
        · cases j with
          | succ j => simp at hj
          | zero =>
            simp only [List.getElem?_cons_zero, Option.some.injEq] at hj
            subst hj
            rw [show i * Ty.sz (.int .u8) + 0 = i by simp [Ty.sz], hcell]
            simp [List.getD_eq_getElem?_getD, hi]
      · cases hi
  refine (hc w _ (fun b => b < w.heap.size) [.slice a len cap] [] hb (by simp) (by simp) (fun _ h => h)).mono ?_
  rintro e w' ⟨v, rfl, ⟨ρ', rv, F', b1, b2, rfl, hp, _, hr, _⟩⟩
  obtain ⟨v, vs, c1, c2, rfl, _, ⟨hv, _⟩, hvs, _⟩ := hr
  subst hvs
  refine ⟨by rw [show retV [v] = v from rfl, hv], hp.os, hp.tape, hp.output, hp.size, fun b hb => hp.block b hb (by simp)⟩
/-- Structs of two ints are compared part by part. -/
theorem part_int {P : Program} {t : TypeId} {i : TI} (hi : tinfo P t = some i) (ha : i.agg = false) {xs : Array Value} {o : Nat} {v : Value} (hv : xs[o]? = some v) (w : World) : (Go.part t xs o).run P w = .ok v w := by
  have := run_isAgg hi w
  rw [ha] at this
  simp [Go.part, this, hv]
theorem eq_int {P : Program} {t : TypeId} {k : IntKind} (hu : P.underlying t = some (.int k)) (d : Nat) (x y : Int) (w : World) : (Op.equalIn (d + 1) t (.int k x) (.int k y)).run P w = .ok (x == y) w := by
  simp [Op.equalIn, run_underlying hu]
theorem eqt_pair {P : Program} {t : TypeId} {f1 f2 : Field} {i1 i2 : TI} (hu : P.underlying t = some (.struct #[f1, f2])) (n1 : (f1.name == "_") = false) (n2 : (f2.name == "_") = false) (h1 : P.underlying f1.type = some (.int .i64)) (h2 : P.underlying f2.type = some (.int .i64))
    (o1 : f1.offset = 0) (o2 : f2.offset = 1) (t1 : tinfo P f1.type = some i1) (t2 : tinfo P f2.type = some i2) (a1 : i1.agg = false) (a2 : i2.agg = false) (hs : P.stoodInHeld t = false) (hg : P.eqGuardType P.depth t = false) (x x' y y' : Int) (p q : Operand) (w : World) :
    (eqGuard .eql t p q (.agg #[.int .i64 x, .int .i64 x']) (.agg #[.int .i64 y, .int .i64 y'])).run P w = .ok () w ∧
    (eqGuard .neq t p q (.agg #[.int .i64 x, .int .i64 x']) (.agg #[.int .i64 y, .int .i64 y'])).run P w = .ok () w ∧
    (Op.equal t (.agg #[.int .i64 x, .int .i64 x']) (.agg #[.int .i64 y, .int .i64 y'])).run P w = .ok (x == y && (x' == y')) w := by
  refine ⟨?_, ?_, ?_⟩
  · simp [eqGuard, hg]
  · simp [eqGuard, hg]
  · have hf : P.fieldsOf t = #[f1, f2] := by simp [Program.fieldsOf, hu]
    show (Op.equalIn (9999 + 1) t (.agg #[.int .i64 x, .int .i64 x']) (.agg #[.int .i64 y, .int .i64 y'])).run P w = _
    rw [run_equalIn_struct (P := P) w 9999 t _ _ (by rw [hf]; exact hu) hs, hf]
    have n1' : f1.name ≠ "_" := by simpa using n1
    have n2' : f2.name ≠ "_" := by simpa using n2
    have e1 : (Op.equalIn 9999 f1.type (.int .i64 x) (.int .i64 y)).run P w = .ok (x == y) w := eq_int h1 9998 x y w
    have e2 : (Op.equalIn 9999 f2.type (.int .i64 x') (.int .i64 y')).run P w = .ok (x' == y') w := eq_int h2 9998 x' y' w
    simp only [Op.eqFields, if_pos n1', if_pos n2', o1, o2, Sem.run_bind, part_int t1 a1 (xs := #[.int .i64 x, .int .i64 x']) (o := 0) rfl, part_int t1 a1 (xs := #[.int .i64 y, .int .i64 y']) (o := 0) rfl, part_int t2 a2 (xs := #[.int .i64 x, .int .i64 x']) (o := 1) rfl, part_int t2 a2 (xs := #[.int .i64 y, .int .i64 y']) (o := 1) rfl, Result.andThen_ok, e1, e2]
    erw [e1]
    cases h : x == y <;> cases h' : x' == y' <;> simp [part_int t2 a2 (xs := #[.int .i64 x, .int .i64 x']) (o := 1) rfl, part_int t2 a2 (xs := #[.int .i64 y, .int .i64 y']) (o := 1) rfl] <;> (first | done | (erw [e2]; simp [h']))
end Go.Gx

/-
  Gx, part X: slices.Clone, which asks whether its slice is nil.
-/
set_option linter.unusedVariables false
set_option linter.unusedSimpArgs false
namespace Go.Gx
/-- What a clone is: its data are the same, in new memory. -/
def cloneX : (s : Sig) → Option (s.A → Option s.R)
  | ⟨[.leaf (.ro t)], [.leaf (.own _ t')]⟩ => if h : t = t' then some fun x => chk (room ([] : List t.I).length x.1.length) (some ((h ▸ x.1, ()), ())) else none
  | _ => none
def anClone : Ann := .seq none .leaf (.seq none (.seq none .leaf (.cond (.seq none .leaf .leaf) .leaf)) (.seq none .leaf .leaf))
def envX (tt : TypeId → Option TI) (eqt : TypeId → Bool) : Env := ⟨tt, fun _ => none, eqt, fun _ => none, fun _ _ _ => none, fun _ => 0⟩
end Go.Gx

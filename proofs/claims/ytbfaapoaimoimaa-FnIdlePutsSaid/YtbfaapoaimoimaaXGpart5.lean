/-
  Gx: an interpreter of our own, and that it is sound for the model.
-/
import Derived.Test.YtbfaapoaimoimaaXGpart4
import Derived.WalkKit
import Derived.ProofKit
import Derived.OpenShut
import Derived.ShutString
import Derived.ChangeOld
import Derived.Below
import Derived.SizedLaws
import Derived.Laws.StructEq
set_option linter.unusedVariables false
set_option linter.unusedSimpArgs false
namespace Go.Gx
open Go.RowKit
def sgLaw : Sig := ⟨[.leaf (.ro (.int .u8))], [.leaf .bool]⟩
def IsBytes (w : World) (a : Option Addr) (len cap : Nat) (zs : List Int) : Prop :=
  (a = none ∧ len = 0 ∧ cap = 0 ∧ zs = []) ∨
  ∃ x, a = some x ∧ len ≤ cap ∧ cap ≤ maxLen ∧ zs.length = cap ∧ (∀ i, i < zs.length → w.cell? (x.add i) = some (.int .u8 (zs.getD i 0))) ∧ ∀ n ∈ zs, (Lit.int .u8 n).wf = true
theorem law_walk {P : Program} {T : Tab} (hT : TabOK P T) {f : FuncId} (hfm : f % 100000 = f) (hs : T.sig f = some sgLaw) (hp : ∀ code : List Int, (∀ z ∈ code, 0 ≤ z ∧ z ≤ 255) → ∃ k, T.call k f sgLaw (code, ()) = some ((true, ()), ()))
    {a : Option Addr} {len cap : Nat} {zs : List Int} {w : World} (h : IsBytes w a len cap zs) : Calls P f #[.slice a len cap] w fun e w' => e = .returned (.bool true) ∧ Below w.heap.size w w' := by
  have hwf : ∀ z ∈ zs.take len, 0 ≤ z ∧ z ≤ 255 := by
    intro z hz
    rcases h with ⟨_, _, _, rfl⟩ | ⟨x, _, _, _, _, _, h⟩
    · simp at hz
    · have := h z (List.mem_of_mem_take hz)
      simp only [Lit.wf, Bool.and_eq_true, decide_eq_true_eq] at this
      exact this
  obtain ⟨k, hk⟩ := hp _ hwf
  have hc := Tab.call_sound hT k f sgLaw _ _ hs hk
  rw [hfm] at hc
  have hb : BRVs ⟨fun _ => undef, fun _ => 0, fun _ => 0, fun _ => [], fun _ => False⟩ (fun b => b < w.heap.size) w sgLaw.ps (zs.take len, ()) [.slice a len cap] [] := by
    refine ⟨_, [], [], [], rfl, rfl, ⟨?_, rfl⟩, rfl, rfl⟩
    rcases h with ⟨rfl, rfl, rfl, rfl⟩ | ⟨x, rfl, h1, h2, h3, h4, _⟩
    · exact ⟨none, 0, rfl, Nat.le_refl _, by simp [maxLen], fun i x hi => by simp at hi⟩
    · have hl : (zs.take len).length = len := by rw [List.length_take]; omega
      refine ⟨some x, cap, by rw [hl], by show (zs.take len).length ≤ cap; rw [hl]; exact h1, h2, fun i z hi => ?_⟩
      rw [List.getElem?_take] at hi
      split at hi
      · rename_i hlt
        have hi' : i < zs.length := by omega
        have hcell := h4 i hi'
        refine ⟨x, [.int .u8 z], rfl, ?_, rfl, fun j u hj => ?_⟩
        · have : (x.add i).block < w.heap.size := by
            unfold World.cell? at hcell
            cases hq : w.heap[(x.add i).block]? with
            | none => rw [hq] at hcell; simp at hcell
            | some b => exact (Array.getElem?_eq_some_iff.1 hq).1
          rwa [add_block] at this
        · cases j with
          | succ j => simp at hj
          | zero =>
            simp only [List.getElem?_cons_zero, Option.some.injEq] at hj
            subst hj
            rw [show i * Ty.sz (.int .u8) + 0 = i by simp [Ty.sz], hcell]
            simp [List.getD_eq_getElem?_getD, hi]
      · cases hi
  refine (hc w _ (fun b => b < w.heap.size) [.slice a len cap] [] hb (by simp) (by simp) (fun _ h => h)).mono ?_
  rintro e w' ⟨v, rfl, ⟨ρ', rv, F', b1, b2, rfl, hp, _, hr, _⟩⟩
  obtain ⟨v, vs, c1, c2, rfl, _, ⟨hv, _⟩, hvs, _⟩ := hr
  subst hvs
  refine ⟨by rw [show retV [v] = v from rfl, hv], hp.os, hp.tape, hp.output, hp.size, fun b hb => hp.block b hb (by simp)⟩
end Go.Gx

/-
  Gx, part X: slices.Clone, which asks whether its slice is nil.
-/
set_option linter.unusedVariables false
set_option linter.unusedSimpArgs false
namespace Go.Gx
/-- What a clone is: its data are the same, in new memory. -/
def cloneX : (s : Sig) → Option (s.A → Option s.R)
  | ⟨[.leaf (.ro t)], [.leaf (.own _ t')]⟩ => if h : t = t' then some fun x => chk (room ([] : List t.I).length x.1.length) (some ((h ▸ x.1, ()), ())) else none
  | _ => none
def anClone : Ann := .seq none .leaf (.seq none (.seq none .leaf (.cond (.seq none .leaf .leaf) .leaf)) (.seq none .leaf .leaf))
def envX (tt : TypeId → Option TI) (eqt : TypeId → Bool) : Env := ⟨tt, fun _ => none, eqt, fun _ => none, fun _ _ _ => none, fun _ => 0⟩
theorem clone_ok {P : Program} (hm : P.follows .mixedOrders = true) {E0 : Env} (hE : EnvCl P E0) {f : FuncId} {fi : FnI} {e : TypeId} {t : Ty} (hf : P.funcs[f]? = some fi.fn) (hn : 1 ≤ fi.fn.ntmps)
    (hT : runFn E0 1 fi ⟨[.leaf (.rk t true)], [.leaf (.own e t)]⟩ (([] : List t.I), ()) = some ((([] : List t.I), ()), ()))
    (hF : ∀ xs : List t.I, runFn E0 1 fi ⟨[.leaf (.rk t false)], [.leaf (.own e t)]⟩ (xs, ()) = chk (room ([] : List t.I).length xs.length) (some ((xs, ()), ()))) (xs : List t.I) (r : (Sig.mk [.leaf (.ro t)] [.leaf (.own e t)]).R)
    (h : chk (room ([] : List t.I).length xs.length) (some ((xs, ()), ())) = some r) : CallOK P f ⟨[.leaf (.ro t)], [.leaf (.own e t)]⟩ (xs, ()) r := by
  intro w ρ0 F vs bs hb hnd hbs hF0
  obtain ⟨v, vs', b1, b2, rfl, rfl, ⟨hv, rfl⟩, rfl, rfl⟩ := hb
  have hv' := hv
  obtain ⟨A, c, e1, _, _, hel⟩ := hv'
  simp only [List.cons.injEq, and_true] at e1
  have hr : r = ((xs, ()), ()) := by
    cases hq : room ([] : List t.I).length xs.length with
    | false => rw [hq] at h; cases h
    | true => rw [hq] at h; cases h; rfl
  subst hr
  cases A with
  | none =>
    have hx : xs = [] := by
      cases xs with
      | nil => rfl
      | cons x xs => obtain ⟨ad, ds, h1, _⟩ := hel 0 x rfl; cases h1
    subst hx
    refine (runFn_sound hE hm hf (by simpa using hn) hT w ρ0 F [v] _ ⟨v, [], [], [], rfl, rfl, ⟨⟨hv, none, _, c, e1, rfl⟩, rfl⟩, rfl, rfl⟩ hnd hbs hF0).mono ?_
    rintro e' w' ⟨u, rfl, ⟨h⟩⟩
    exact ⟨u, rfl, ⟨h⟩⟩
  | some ad =>
    refine (runFn_sound hE hm hf (by simpa using hn) ((hF xs).trans h) w ρ0 F [v] _ ⟨v, [], [], [], rfl, rfl, ⟨⟨hv, some ad, _, c, e1, rfl⟩, rfl⟩, rfl, rfl⟩ hnd hbs hF0).mono ?_
    rintro e' w' ⟨u, rfl, ⟨h⟩⟩
    exact ⟨u, rfl, ⟨h⟩⟩
theorem cloneX_ok {P : Program} {f : FuncId} {e : TypeId} {t : Ty} {sg : Sig} (hsg : sg = ⟨[.leaf (.ro t)], [.leaf (.own e t)]⟩)
    (hc : ∀ (xs : List t.I) (r : (Sig.mk [.leaf (.ro t)] [.leaf (.own e t)]).R), chk (room ([] : List t.I).length xs.length) (some ((xs, ()), ())) = some r → CallOK P f ⟨[.leaf (.ro t)], [.leaf (.own e t)]⟩ (xs, ()) r)
    {g : sg.A → Option sg.R} {x : sg.A} {r : sg.R} (h1 : cloneX sg = some g) (h2 : g x = some r) : CallOK P f sg x r := by
  subst hsg
  simp only [cloneX, dite_true, Option.some.injEq] at h1
  subst h1
  exact hc x.1 r h2
end Go.Gx

/-
  Gx: an interpreter of our own, and that it is sound for the model.
-/
import Derived.Test.YtahpblckgakjjaaXGpart4
import Derived.WalkKit
import Derived.ProofKit
import Derived.OpenShut
import Derived.ShutString
import Derived.ChangeOld
import Derived.Below
import Derived.SizedLaws
import Derived.Laws.StructEq
set_option linter.unusedVariables false
set_option linter.unusedSimpArgs false
namespace Go.Gx
open Go.RowKit
def sgLaw : Sig := ⟨[.leaf (.ro (.int .u8))], [.leaf .bool]⟩
def IsBytes (w : World) (a : Option Addr) (len cap : Nat) (zs : List Int) : Prop :=
  (a = none ∧ len = 0 ∧ cap = 0 ∧ zs = []) ∨
  ∃ x, a = some x ∧ len ≤ cap ∧ cap ≤ maxLen ∧ zs.length = cap ∧ (∀ i, i < zs.length → w.cell? (x.add i) = some (.int .u8 (zs.getD i 0))) ∧ ∀ n ∈ zs, (Lit.int .u8 n).wf = true
end Go.Gx

/-
  Gx, part RX: the row of a law over arguments of any data.
-/
set_option linter.unusedVariables false
set_option linter.unusedSimpArgs false
namespace Go.Gx
open Go.RowKit
/-- No slice is longer than a slice may be. -/
def SzT : (t : Ty) → t.I → Prop
  | .sl t, xs => xs.length ≤ maxLen ∧ ∀ x ∈ xs, SzT t x
  | .pair a b, x => SzT a x.1 ∧ SzT b x.2
  | .str, s => s.size ≤ maxLen
  | .int k, z => (Lit.int k z).wf = true
  | _, _ => True
/-- What reads as a type's data is this data. -/
def Opens (H : Type) (enc : TypeId × Value → H) (P : Program) (w : World) (t : TypeId) (T : Ty) : Prop :=
  ∀ (fuel : Nat) (cs : List Value) (x : DataW H × List MemPlace), DataW.trod enc P w 0 (fun _ => true) true fuel t cs = some x → ∃ d : T.I, TC (fun b => b < w.heap.size) w T d cs ∧ SzT T d
section
variable {H : Type} {enc : TypeId × Value → H} {P : Program} {w : World} {t : TypeId}
theorem opens_int {k : IntKind} (ht : P.underlying t = some (.int k)) : Opens H enc P w t (.int k) := by
  intro fuel cs x h
  obtain ⟨n, rfl, _, hw⟩ := DataW.trod_int ht h
  exact ⟨n, rfl, hw⟩
theorem cell_lt {a : Addr} {v : Value} (h : w.cell? a = some v) : a.block < w.heap.size := by
  unfold World.cell? at h
  cases hq : w.heap[a.block]? with
  | none => rw [hq] at h; simp at h
  | some b => exact (Array.getElem?_eq_some_iff.1 hq).1
theorem opens_sl {e : TypeId} {T : Ty} (ht : P.underlying t = some (.slice e)) (hc : P.cellsOf e = T.sz) (he : Opens H enc P w e T) : Opens H enc P w t (.sl T) := by
  intro fuel cs x h
  rcases DataW.trod_slice ht h with ⟨rfl, _⟩ | ⟨a, len, cap, elems, rest, n, _, rfl, _, _, hl, hm, hlen, hel, _, _⟩
  · exact ⟨[], ⟨none, 0, rfl, Nat.le_refl _, by simp [maxLen], fun i x hi => by simp at hi⟩, by simp [maxLen], fun x hx => by simp at hx⟩
  · have each : ∀ i, i < len → ∃ d : T.I, (∃ ds, a.block < w.heap.size ∧ TC (fun b => b < w.heap.size) w T d ds ∧ ∀ j u, ds[j]? = some u → w.cell? (a.add (i * T.sz + j)) = some u) ∧ SzT T d := by
      intro i hi
      have h1 := hel i hi
      have h2 : ∃ y, elems[i]? = some y := ⟨_, List.getElem?_eq_getElem (by omega)⟩
      obtain ⟨y, hy⟩ := h2
      rw [hy, hc, Option.bind_eq_some_iff] at h1
      obtain ⟨ds, h3, h4⟩ := h1
      obtain ⟨_, h5, h6⟩ := World.cells?_some h3
      obtain ⟨d, h7, h8⟩ := he _ _ _ h4
      have hp := T.sz_pos
      refine ⟨d, ⟨ds, ?_, h7, ?_⟩, h8⟩
      · have h9 := h6 0 hp
        rw [List.getElem?_eq_getElem (by omega)] at h9
        have := cell_lt h9
        rwa [add_block, add_block] at this
      · intro j u hj
        have hj' : j < T.sz := by
          have := (List.getElem?_eq_some_iff.1 hj).1
          omega
        have h9 := h6 j hj'
        rw [hj, Addr.add_add] at h9
        exact h9
    have pick : ∀ m, m ≤ len → ∃ xs : List T.I, xs.length = m ∧ ∀ (i : Nat) (x : T.I), xs[i]? = some x → (∃ ds, a.block < w.heap.size ∧ TC (fun b => b < w.heap.size) w T x ds ∧ ∀ j u, ds[j]? = some u → w.cell? (a.add (i * T.sz + j)) = some u) ∧ SzT T x := by
      intro m
      induction m with
      | zero => intro _; exact ⟨[], rfl, fun i x hi => by simp at hi⟩
      | succ m ih =>
        intro hm
        obtain ⟨xs, h1, h2⟩ := ih (by omega)
        obtain ⟨d, h3⟩ := each m (by omega)
        refine ⟨xs ++ [d], by simp [h1], fun i x hi => ?_⟩
        rw [List.getElem?_append] at hi
        split at hi
        · exact h2 i x hi
        · rename_i hlt
          have : i = m := by
            have := (List.getElem?_eq_some_iff.1 hi).1
            simp at this; omega
          subst this
          rw [h1, Nat.sub_self] at hi
          simp only [List.getElem?_cons_zero, Option.some.injEq] at hi
          subst hi
          exact h3
    obtain ⟨xs, h1, h2⟩ := pick len (Nat.le_refl _)
    subst h1
    refine ⟨xs, ⟨some a, cap, rfl, hl, hm, fun i x hi => ?_⟩, Nat.le_trans hl hm, fun x hx => ?_⟩
    · obtain ⟨⟨ds, k1, k2, k3⟩, _⟩ := h2 i x hi
      exact ⟨a, ds, rfl, k1, k2, k3⟩
    · obtain ⟨i, hi⟩ := List.getElem?_of_mem hx
      exact (h2 i x hi).2
theorem opens_2 {f0 f1 : Field} {A B : Ty} (ht : P.underlying t = some (.struct #[f0, f1])) (o0 : f0.offset = 0) (o1 : f1.offset = A.sz) (c0 : P.cellsOf f0.type = A.sz) (c1 : P.cellsOf f1.type = B.sz) (c : P.cellsOf t = A.sz + B.sz)
    (h0 : Opens H enc P w f0.type A) (h1 : Opens H enc P w f1.type B) : Opens H enc P w t (.pair A B) := by
  intro fuel cs x h
  obtain ⟨xs, n, _, _, hl, hlen, hf⟩ := DataW.trod_struct ht h
  match xs, hlen with
  | [y0, y1], _ =>
    have e0 := hf 0 f0 rfl
    have e1 := hf 1 f1 rfl
    rw [o0, c0] at e0
    rw [o1, c1] at e1
    obtain ⟨d0, k0, s0⟩ := h0 _ _ _ e0
    obtain ⟨d1, k1, s1⟩ := h1 _ _ _ e1
    refine ⟨(d0, d1), ⟨_, _, ?_, k0, k1⟩, s0, s1⟩
    have : (cs.drop A.sz).take B.sz = cs.drop A.sz := List.take_of_length_le (by rw [List.length_drop]; omega)
    rw [this, List.drop_zero, List.take_append_drop]
/-- One cell. -/
theorem open_cell {T : Ty} (ho : Opens H enc P w t T) {v : Value} {d : DataW H} {ps : List MemPlace} (hn : ∀ us, v ≠ .agg us) (h : DataW.Trod enc P w 0 (fun _ => true) true t v d ps) : ∃ x : T.I, TC (fun b => b < w.heap.size) w T x [v] ∧ SzT T x := by
  obtain ⟨fuel, h⟩ := h
  have : v.cells.toList = [v] := by
    cases v <;> first | rfl | exact absurd rfl (hn _)
  rw [this] at h
  exact ho _ _ _ h
end
def rho0 : Rho := ⟨fun _ => undef, fun _ => 0, fun _ => 0, fun _ => [], fun _ => False⟩
theorem law_walkG {G : World → Prop} {P : Program} {T : Tab} {w : World} (hT : TabOK G P T) (hG : G w) {f : FuncId} (hfm : f % 100000 = f) {ps : List VS} (hs : T.sig f = some ⟨ps, [.leaf .bool]⟩) {x : VsI ps} (hp : ∃ k y, T.call k f ⟨ps, [.leaf .bool]⟩ x = some ((true, ()), y))
    {vs : List Value} (hb : BRVs rho0 (fun b => b < w.heap.size) w ps x vs []) : Calls P f vs.toArray w fun e w' => e = .returned (.bool true) ∧ Below w.heap.size w w' := by
  obtain ⟨k, y, hk⟩ := hp
  have hc := Tab.call_sound hT k f ⟨ps, [.leaf .bool]⟩ _ _ hs hk
  rw [hfm] at hc
  refine (hc w rho0 (fun b => b < w.heap.size) vs [] ⟨w, hG, fun b hb => ⟨hb, rfl⟩⟩ hb (by simp) (by simp) (fun _ h => h)).mono ?_
  rintro e w' ⟨v, rfl, ⟨ρ', rv, F', b1, b2, rfl, hp, _, hr, _⟩⟩
  obtain ⟨v, vs, c1, c2, rfl, _, ⟨hv, _⟩, hvs, _⟩ := hr
  subst hvs
  refine ⟨by rw [show retV [v] = v from rfl, hv], hp.os, hp.tape, hp.output, hp.size, fun b hb => hp.block b hb (by simp)⟩
/-- A slice as an argument. -/
theorem brvs_slice {t : Ty} {w : World} {F : Nat → Prop} {v : Value} {x : List t.I} (h : TC F w (.sl t) x [v]) : BRVs rho0 F w [.leaf (.ro t)] (x, ()) [v] [] :=
  ⟨_, [], [], [], rfl, rfl, ⟨h, rfl⟩, rfl, rfl⟩
end Go.Gx

/-
  Gx, part X: slices.Clone, which asks whether its slice is nil.
-/
set_option linter.unusedVariables false
set_option linter.unusedSimpArgs false
namespace Go.Gx
/-- What a clone is: its data are the same, in new memory. -/
def cloneX : (s : Sig) → Option (s.A → Option s.R)
  | ⟨[.leaf (.ro t)], [.leaf (.own _ t')]⟩ => if h : t = t' then some fun x => chk (room ([] : List t.I).length x.1.length) (some ((h ▸ x.1, ()), ())) else none
  | _ => none
def anClone : Ann := .seq none .leaf (.seq none (.seq none .leaf (.cond (.seq none .leaf .leaf) .leaf)) (.seq none .leaf .leaf))
def envX (tt : TypeId → Option TI) (eqt : TypeId → Bool) : Env := ⟨tt, fun _ => none, eqt, fun _ => none, fun _ _ _ => none, fun _ => 0⟩
theorem clone_ok {G : World → Prop} {P : Program} (hm : P.follows .mixedOrders = true) {E0 : Env} (hE : EnvCl G P E0) {f : FuncId} {fi : FnI} {e : TypeId} {t : Ty} (hf : P.funcs[f]? = some fi.fn) (hn : 1 ≤ fi.fn.ntmps)
    (hT : runFn E0 1 fi ⟨[.leaf (.rk t true)], [.leaf (.own e t)]⟩ (([] : List t.I), ()) = some ((([] : List t.I), ()), ()))
    (hF : ∀ xs : List t.I, runFn E0 1 fi ⟨[.leaf (.rk t false)], [.leaf (.own e t)]⟩ (xs, ()) = chk (room ([] : List t.I).length xs.length) (some ((xs, ()), ()))) (xs : List t.I) (r : (Sig.mk [.leaf (.ro t)] [.leaf (.own e t)]).R)
    (h : chk (room ([] : List t.I).length xs.length) (some ((xs, ()), ())) = some r) : CallOK G P f ⟨[.leaf (.ro t)], [.leaf (.own e t)]⟩ (xs, ()) r := by
  intro w ρ0 F vs bs hg hb hnd hbs hF0
  obtain ⟨v, vs', b1, b2, rfl, rfl, ⟨hv, rfl⟩, rfl, rfl⟩ := hb
  have hv' := hv
  obtain ⟨A, c, e1, _, _, hel⟩ := hv'
  simp only [List.cons.injEq, and_true] at e1
  have hr : r = ((xs, ()), ()) := by
    cases hq : room ([] : List t.I).length xs.length with
    | false => rw [hq] at h; cases h
    | true => rw [hq] at h; cases h; rfl
  subst hr
  cases A with
  | none =>
    have hx : xs = [] := by
      cases xs with
      | nil => rfl
      | cons x xs => obtain ⟨ad, ds, h1, _⟩ := hel 0 x rfl; cases h1
    subst hx
    refine (runFn_sound hE hm hf (by simpa using hn) hT w ρ0 F [v] _ hg ⟨v, [], [], [], rfl, rfl, ⟨⟨hv, none, _, c, e1, rfl⟩, rfl⟩, rfl, rfl⟩ hnd hbs hF0).mono ?_
    rintro e' w' ⟨u, rfl, ⟨h⟩⟩
    exact ⟨u, rfl, ⟨h⟩⟩
  | some ad =>
    refine (runFn_sound hE hm hf (by simpa using hn) ((hF xs).trans h) w ρ0 F [v] _ hg ⟨v, [], [], [], rfl, rfl, ⟨⟨hv, some ad, _, c, e1, rfl⟩, rfl⟩, rfl, rfl⟩ hnd hbs hF0).mono ?_
    rintro e' w' ⟨u, rfl, ⟨h⟩⟩
    exact ⟨u, rfl, ⟨h⟩⟩
theorem cloneX_ok {G : World → Prop} {P : Program} {f : FuncId} {e : TypeId} {t : Ty} {sg : Sig} (hsg : sg = ⟨[.leaf (.ro t)], [.leaf (.own e t)]⟩)
    (hc : ∀ (xs : List t.I) (r : (Sig.mk [.leaf (.ro t)] [.leaf (.own e t)]).R), chk (room ([] : List t.I).length xs.length) (some ((xs, ()), ())) = some r → CallOK G P f ⟨[.leaf (.ro t)], [.leaf (.own e t)]⟩ (xs, ()) r)
    {g : sg.A → Option sg.R} {x : sg.A} {r : sg.R} (h1 : cloneX sg = some g) (h2 : g x = some r) : CallOK G P f sg x r := by
  subst hsg
  simp only [cloneX, dite_true, Option.some.injEq] at h1
  subst h1
  exact hc x.1 r h2
end Go.Gx

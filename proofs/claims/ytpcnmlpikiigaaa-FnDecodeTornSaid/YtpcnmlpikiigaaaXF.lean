/-
  Gx, part F: regions, in the text's order and in any order.
-/
import Derived.Test.YtpcnmlpikiigaaaXE8
set_option linter.unusedVariables false
set_option linter.unusedSimpArgs false
namespace Go.Gx

/-! ### 1. Keys -/
def agree (σ τ : St) (k : Key) : Prop := match k.1 with
  | true => σ.ob k.2 = τ.ob k.2
  | false => σ.sl k.2 = τ.sl k.2
theorem agree.symm {σ τ : St} {k : Key} (h : agree σ τ k) : agree τ σ k := by
  unfold agree at *; split at h <;> simp_all
theorem agree.trans {σ τ υ : St} {k : Key} (h : agree σ τ k) (h' : agree τ υ k) : agree σ υ k := by
  unfold agree at *; split at h <;> simp_all
theorem agree.refl (σ : St) (k : Key) : agree σ σ k := by unfold agree; split <;> rfl
theorem St.ext_keys {σ τ : St} (h : ∀ k, agree σ τ k) : σ = τ := by
  cases σ; cases τ
  congr 1
  · funext s; exact h (false, s)
  · funext n; exact h (true, n)
theorem agree_setS {σ τ : St} {s : Nat} {v : SV} {k : Key} (h : k ≠ (false, s) → agree σ τ k) : agree (σ.setS s v) (τ.setS s v) k := by
  obtain ⟨b, n⟩ := k
  cases b with
  | true => exact h (by simp)
  | false =>
    show (σ.setS s v).sl n = (τ.setS s v).sl n
    rw [setS_sl, setS_sl]
    split
    · rfl
    · rename_i hne; exact h (by simp [hne])
theorem agree_setO {σ τ : St} {s : Nat} {v : Obj} {k : Key} (h : k ≠ (true, s) → agree σ τ k) : agree (σ.setO s v) (τ.setO s v) k := by
  obtain ⟨b, n⟩ := k
  cases b with
  | false => exact h (by simp)
  | true =>
    show (σ.setO s v).ob n = (τ.setO s v).ob n
    rw [setO_ob, setO_ob]
    split
    · rfl
    · rename_i hne; exact h (by simp [hne])
theorem agree_setS_ne {σ : St} {s : Nat} {v : SV} {k : Key} (h : k ≠ (false, s)) : agree (σ.setS s v) σ k := by
  obtain ⟨b, n⟩ := k
  cases b with
  | true => rfl
  | false =>
    show (σ.setS s v).sl n = σ.sl n
    rw [setS_sl, if_neg]; intro e; exact h (by rw [e])
theorem agree_setO_ne {σ : St} {s : Nat} {v : Obj} {k : Key} (h : k ≠ (true, s)) : agree (σ.setO s v) σ k := by
  obtain ⟨b, n⟩ := k
  cases b with
  | false => rfl
  | true =>
    show (σ.setO s v).ob n = σ.ob n
    rw [setO_ob, if_neg]; intro e; exact h (by rw [e])
theorem fp_mono {α : Type} (m : M α) : ∀ (σ : St) (l : Log), (∀ k ∈ l.r, k ∈ (m.fp σ l).r) ∧ (∀ k ∈ l.w, k ∈ (m.fp σ l).w) := by
  induction m with
  | ret a => intro σ l; exact ⟨fun _ h => h, fun _ h => h⟩
  | fail => intro σ l; exact ⟨fun _ h => h, fun _ h => h⟩
  | getS s k ih => intro σ l; have := ih (σ.sl s) σ ⟨(false, s) :: l.r, l.w⟩; exact ⟨fun x h => this.1 x (by simp [h]), this.2⟩
  | setS s v k ih => intro σ l; have := ih (σ.setS s v) ⟨l.r, (false, s) :: l.w⟩; exact ⟨this.1, fun x h => this.2 x (by simp [h])⟩
  | getO n k ih => intro σ l; have := ih (σ.ob n) σ ⟨(true, n) :: l.r, l.w⟩; exact ⟨fun x h => this.1 x (by simp [h]), this.2⟩
  | setO n o k ih => intro σ l; have := ih (σ.setO n o) ⟨l.r, (true, n) :: l.w⟩; exact ⟨this.1, fun x h => this.2 x (by simp [h])⟩
  | test b k ih => intro σ l; exact ih σ l
  | opt o k ih =>
    intro σ l
    cases o with
    | none => exact ⟨fun _ h => h, fun _ h => h⟩
    | some b => exact ih b σ l
/-- A step looks at what it reads, and at nothing else. 'D': what has been written so far, alike in both. -/
theorem M.local {α : Type} (m : M α) : ∀ (σ τ : St) (l : Log) (x : α) (σ1 : St), m.exec σ = some (x, σ1) → (∀ k ∈ (m.fp σ l).r, agree σ τ k ∨ k ∈ l.w) → (∀ k ∈ l.w, agree σ τ k) →
    ∃ τ1, m.exec τ = some (x, τ1) ∧ m.fp τ l = m.fp σ l ∧ (∀ k ∈ (m.fp σ l).w, agree σ1 τ1 k) ∧ (∀ k, k ∉ (m.fp σ l).w → agree τ1 τ k ∧ agree σ1 σ k) := by
  induction m with
  | ret a =>
    intro σ τ l x σ1 h hr hw
    simp only [M.exec, Option.some.injEq, Prod.mk.injEq] at h
    obtain ⟨rfl, rfl⟩ := h
    exact ⟨τ, rfl, rfl, hw, fun k _ => ⟨agree.refl _ _, agree.refl _ _⟩⟩
  | fail => intro σ τ l x σ1 h; simp [M.exec] at h
  | getS s k ih =>
    intro σ τ l x σ1 h hr hw
    have hs : agree σ τ (false, s) := by
      rcases hr (false, s) ((fp_mono (k (σ.sl s)) σ ⟨(false, s) :: l.r, l.w⟩).1 _ (by simp)) with h1 | h1
      · exact h1
      · exact hw _ h1
    have e : τ.sl s = σ.sl s := Eq.symm hs
    obtain ⟨τ1, h1, h2, h3, h4⟩ := ih (σ.sl s) σ τ ⟨(false, s) :: l.r, l.w⟩ x σ1 h hr hw
    exact ⟨τ1, by simp only [M.exec, e]; exact h1, by simp only [M.fp, e]; exact h2, h3, h4⟩
  | getO s k ih =>
    intro σ τ l x σ1 h hr hw
    have hs : agree σ τ (true, s) := by
      rcases hr (true, s) ((fp_mono (k (σ.ob s)) σ ⟨(true, s) :: l.r, l.w⟩).1 _ (by simp)) with h1 | h1
      · exact h1
      · exact hw _ h1
    have e : τ.ob s = σ.ob s := Eq.symm hs
    obtain ⟨τ1, h1, h2, h3, h4⟩ := ih (σ.ob s) σ τ ⟨(true, s) :: l.r, l.w⟩ x σ1 h hr hw
    exact ⟨τ1, by simp only [M.exec, e]; exact h1, by simp only [M.fp, e]; exact h2, h3, h4⟩
  | setS s v k ih =>
    intro σ τ l x σ1 h hr hw
    obtain ⟨τ1, h1, h2, h3, h4⟩ := ih (σ.setS s v) (τ.setS s v) ⟨l.r, (false, s) :: l.w⟩ x σ1 h (fun q hq => by
        by_cases e : q = (false, s)
        · exact .inr (by simp [e])
        · rcases hr q hq with h1 | h1
          · exact .inl (agree_setS fun _ => h1)
          · exact .inr (by simp [h1])) (fun q hq => by
        by_cases e : q = (false, s)
        · exact agree_setS fun hne => absurd e hne
        · exact agree_setS fun _ => hw q (by simpa [e] using hq))
    refine ⟨τ1, h1, h2, h3, fun q hq => ?_⟩
    have hne : q ≠ (false, s) := fun e => hq ((fp_mono k (σ.setS s v) ⟨l.r, (false, s) :: l.w⟩).2 q (by simp [e]))
    exact ⟨(h4 q hq).1.trans (agree_setS_ne hne), (h4 q hq).2.trans (agree_setS_ne hne)⟩
  | setO s v k ih =>
    intro σ τ l x σ1 h hr hw
    obtain ⟨τ1, h1, h2, h3, h4⟩ := ih (σ.setO s v) (τ.setO s v) ⟨l.r, (true, s) :: l.w⟩ x σ1 h (fun q hq => by
        by_cases e : q = (true, s)
        · exact .inr (by simp [e])
        · rcases hr q hq with h1 | h1
          · exact .inl (agree_setO fun _ => h1)
          · exact .inr (by simp [h1])) (fun q hq => by
        by_cases e : q = (true, s)
        · exact agree_setO fun hne => absurd e hne
        · exact agree_setO fun _ => hw q (by simpa [e] using hq))
    refine ⟨τ1, h1, h2, h3, fun q hq => ?_⟩
    have hne : q ≠ (true, s) := fun e => hq ((fp_mono k (σ.setO s v) ⟨l.r, (true, s) :: l.w⟩).2 q (by simp [e]))
    exact ⟨(h4 q hq).1.trans (agree_setO_ne hne), (h4 q hq).2.trans (agree_setO_ne hne)⟩
  | test b k ih =>
    intro σ τ l x σ1 h hr hw
    obtain ⟨hb, h⟩ := test_exec h
    subst hb
    exact ih σ τ l x σ1 h hr hw
  | opt o k ih =>
    intro σ τ l x σ1 h hr hw
    obtain ⟨b, rfl, h⟩ := opt_exec h
    exact ih b σ τ l x σ1 h hr hw
abbrev l0 : Log := ⟨[], []⟩
/-- Two steps that touch different things. -/
def Apart (a b : Log) : Prop := (∀ k ∈ a.w, k ∉ b.w) ∧ (∀ k ∈ a.w, k ∉ b.r) ∧ (∀ k ∈ a.r, k ∉ b.w)
theorem swap {m1 m2 : MU} {σ σ1 σ2 : St} (h1 : m1.exec σ = some ((), σ1)) (h2 : m2.exec σ1 = some ((), σ2)) (ha : Apart (m1.fp σ l0) (m2.fp σ1 l0)) :
    ∃ τ, m2.exec σ = some ((), τ) ∧ m1.exec τ = some ((), σ2) ∧ m2.fp σ l0 = m2.fp σ1 l0 ∧ m1.fp τ l0 = m1.fp σ l0 := by
  obtain ⟨a1, a2, a3⟩ := ha
  obtain ⟨_, _, _, _, k1⟩ := M.local m1 σ σ l0 () σ1 h1 (fun k _ => .inl (agree.refl _ _)) (fun k hk => agree.refl _ _)
  obtain ⟨τ, e1, e2, e3, e4⟩ := M.local m2 σ1 σ l0 () σ2 h2 (fun k hk => .inl (k1 k (fun hw => a2 k hw hk)).2) (fun k hk => by simp at hk)
  obtain ⟨ρ, f1, f2, f3, f4⟩ := M.local m1 σ τ l0 () σ1 h1 (fun k hk => .inl (e4 k (fun hw => a3 k hk hw)).1.symm) (fun k hk => by simp at hk)
  refine ⟨τ, e1, ?_, e2, f2⟩
  rw [f1]
  congr 2
  refine St.ext_keys fun k => ?_
  by_cases hk1 : k ∈ (m1.fp σ l0).w
  · exact (f3 k hk1).symm.trans (e4 k (a1 k hk1)).2.symm
  · refine (f4 k hk1).1.trans ?_
    by_cases hk2 : k ∈ (m2.fp σ1 l0).w
    · exact (e3 k hk2).symm
    · exact (e4 k hk2).1.trans ((k1 k hk1).2.symm.trans (e4 k hk2).2.symm)
/-- A run of some steps, by their numbers, with their logs. -/
inductive Runs (f : Nat → MU) : List Nat → St → List (Nat × Log) → St → Prop
  | nil (σ : St) : Runs f [] σ [] σ
  | cons {i : Nat} {l : List Nat} {σ σ1 σ2 : St} {tr : List (Nat × Log)} (h : (f i).exec σ = some ((), σ1)) (hr : Runs f l σ1 tr σ2) : Runs f (i :: l) σ ((i, (f i).fp σ l0) :: tr) σ2
theorem Runs.fst {f : Nat → MU} {l : List Nat} {σ σ' : St} {tr : List (Nat × Log)} (h : Runs f l σ tr σ') : tr.map (·.1) = l := by
  induction h with
  | nil => rfl
  | cons h hr ih => simp [ih]
/-- A step that touches other things than those ahead of it may come first. -/
theorem Runs.front {f : Nat → MU} {i : Nat} {lg : Log} {post : List Nat} {σ' : St} : ∀ {pre : List Nat} {tp tq : List (Nat × Log)} {σ : St}, tp.length = pre.length → Runs f (pre ++ i :: post) σ (tp ++ (i, lg) :: tq) σ' → (∀ x ∈ tp, Apart x.2 lg) →
    Runs f (i :: (pre ++ post)) σ ((i, lg) :: (tp ++ tq)) σ'
  | [], [], tq, σ, _, h, _ => h
  | [], _ :: _, tq, σ, hl, h, _ => by simp at hl
  | _ :: _, [], tq, σ, hl, h, _ => by simp at hl
  | j :: pre, x :: tp, tq, σ, hl, h, ha => by
    simp only [List.cons_append] at h
    cases h with
    | cons h1 hr =>
      rename_i σ1
      have ih := Runs.front (by simpa using hl) hr (fun y hy => ha y (by simp [hy]))
      have hap := ha _ (List.mem_cons_self ..)
      cases ih with
      | cons h2 hr2 =>
        rename_i τ1
        obtain ⟨τ, e1, e2, e3, e4⟩ := swap h1 h2 hap
        have := Runs.cons e1 (Runs.cons e2 hr2)
        rw [e3, e4] at this
        exact this
end Go.Gx

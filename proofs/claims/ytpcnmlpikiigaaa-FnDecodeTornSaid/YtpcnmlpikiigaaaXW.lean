/-
  Gx, part W: what is said of the printed functions: with rounds enough they answer, and so.
-/
import Derived.Test.YtpcnmlpikiigaaaXS
set_option linter.unusedVariables false
set_option linter.unusedSimpArgs false
namespace Go.Gx
/-- With all budgets great enough the answer is one, and Q holds of it. -/
def Tot {R : Type} (f : (Nat → Nat) → Option R) (Q : R → Prop) : Prop :=
  ∃ r, Q r ∧ ∃ K, ∀ s : Nat → Nat, (∀ i, K ≤ s i) → f s = some r
section
variable {R S : Type} {Q Q' : R → Prop} {f g : (Nat → Nat) → Option R}
theorem Tot.mono (h : Tot f Q) (hq : ∀ r, Q r → Q' r) : Tot f Q' := by
  obtain ⟨r, h1, h2⟩ := h
  exact ⟨r, hq r h1, h2⟩
theorem tot_some {r : R} : Tot (fun _ => some r) Q ↔ Q r := by
  constructor
  · rintro ⟨r', h1, K, h2⟩
    have := h2 (fun _ => K) (fun _ => Nat.le_refl _)
    cases this
    exact h1
  · exact fun h => ⟨r, h, 0, fun _ _ => rfl⟩
theorem tot_chk {b : Bool} : Tot (fun s => chk b (f s)) Q ↔ b = true ∧ Tot f Q := by
  cases b with
  | true => simp [chk]
  | false =>
    simp only [chk, cond_false, Bool.false_eq_true, false_and, iff_false]
    rintro ⟨r, _, K, h⟩
    have := h (fun _ => K) (fun _ => Nat.le_refl _)
    cases this
theorem tot_cond {b : Bool} : Tot (fun s => bif b then f s else g s) Q ↔ (b = true → Tot f Q) ∧ (b = false → Tot g Q) := by
  cases b <;> simp
theorem tot_jn {T : Type} {f : (Nat → Nat) → T → Option R} {t : T} : Tot (fun s => jn (f s) t) Q ↔ Tot (fun s => f s t) Q := Iff.rfl
theorem Tot.bind {f : (Nat → Nat) → Option S} {g : (Nat → Nat) → S → Option R} {P : S → Prop} (h : Tot f P) (hg : ∀ x, P x → Tot (fun s => g s x) Q) : Tot (fun s => (f s).bind (g s)) Q := by
  obtain ⟨x, h1, K1, h2⟩ := h
  obtain ⟨r, h3, K2, h4⟩ := hg x h1
  refine ⟨r, h3, max K1 K2, fun s hs => ?_⟩
  show (f s).bind (g s) = some r
  rw [h2 s (fun i => by have := hs i; omega)]
  exact h4 s (fun i => by have := hs i; omega)
/-- The budgets but for one. -/
def upd (s : Nat → Nat) (i n : Nat) : Nat → Nat := fun j => bif Nat.beq j i then n else s j
theorem upd_eq (s : Nat → Nat) (i n : Nat) : upd s i n i = n := by simp [upd]
theorem upd_ne (s : Nat → Nat) {i j : Nat} (n : Nat) (h : j ≠ i) : upd s i n j = s j := by
  unfold upd
  cases hq : Nat.beq j i with
  | true => exact absurd (Nat.eq_of_beq_eq_true hq) h
  | false => rfl
/-- A function's call. -/
theorem Tot.call {F B : Nat → Option R} (he : ∀ k, F (k + 1) = B k) (h : Tot (fun s => B (s 0)) Q) : Tot (fun s => F (s 0)) Q := by
  obtain ⟨r, h1, K, h2⟩ := h
  refine ⟨r, h1, K + 1, fun s hs => ?_⟩
  obtain ⟨m, hm⟩ : ∃ m, s 0 = m + 1 := ⟨s 0 - 1, by have := hs 0; omega⟩
  show F (s 0) = some r
  rw [hm, he]
  have h3 : B (upd s 0 m 0) = some r := h2 (upd s 0 m) (fun i => by
    by_cases hi : i = 0
    · subst hi; rw [upd_eq]; have := hs 0; omega
    · rw [upd_ne _ _ hi]; have := hs i; omega)
  rwa [upd_eq] at h3
/-- It asks the budgets below i only. -/
def Dep {α : Type} (i : Nat) (f : (Nat → Nat) → α) : Prop := ∀ s s' : Nat → Nat, (∀ j, j < i → s j = s' j) → f s = f s'
theorem Dep.zero {α : Type} {i : Nat} (hi : 0 < i) (f : Nat → α) : Dep i (fun s => f (s 0)) := fun s s' h => by
  show f (s 0) = f (s' 0)
  rw [h 0 hi]
theorem Dep.mono {α : Type} {i j : Nat} {f : (Nat → Nat) → α} (h : Dep i f) (hij : i ≤ j) : Dep j f := fun s s' hs => h s s' fun k hk => hs k (by omega)
/-- A loop. 'L s n t': n rounds from t on; 'B s again t': a round. -/
theorem Tot.loop {T : Type} {L : (Nat → Nat) → Nat → T → Option R} {B : (Nat → Nat) → (T → Option R) → T → Option R} {Q : T → R → Prop} (i : Nat) (hi : 0 < i) (hL : Dep i L) (hB : Dep i B)
    (hs : ∀ s n t, L s (n + 1) t = B s (L s n) t) (I : T → Prop) (μ : T → Nat)
    (step : ∀ t, I t → ∀ again : (Nat → Nat) → T → Option R, Dep (i + 1) again → (∀ t', I t' → μ t' < μ t → Tot (fun s => again s t') (Q t')) → Tot (fun s => B s (again s) t) (Q t)) :
    ∀ t, I t → Tot (fun s => L s (s 0) t) (Q t) := by
  have key : ∀ (n : Nat) (t : T), μ t < n → I t → Tot (fun s => L s (s i) t) (Q t) := by
    intro n
    induction n with
    | zero => intro t h; omega
    | succ n ih =>
      intro t hn ht
      have hag : Dep (i + 1) (fun s t => L s (s i) t) := fun s s' h => by
        show (fun t => L s (s i) t) = (fun t => L s' (s' i) t)
        rw [hL s s' (fun j hj => h j (by omega)), h i (by omega)]
      obtain ⟨r, h1, K, h2⟩ := step t ht (fun s t => L s (s i) t) hag (fun t' ht' hlt => ih t' (by omega) ht')
      refine ⟨r, h1, K + 1, fun s hs' => ?_⟩
      obtain ⟨m, hm⟩ : ∃ m, s i = m + 1 := ⟨s i - 1, by have := hs' i; omega⟩
      show L s (s i) t = some r
      rw [hm, hs]
      have h3 : B (upd s i m) (fun t => L (upd s i m) (upd s i m i) t) t = some r := h2 (upd s i m) (fun j => by
        by_cases hj : j = i
        · subst hj; rw [upd_eq]; have := hs' j; omega
        · rw [upd_ne _ _ hj]; have := hs' j; omega)
      have e : ∀ j, j < i → (upd s i m) j = s j := fun j hj => upd_ne _ _ (by omega)
      rw [hB _ _ e, upd_eq, hL _ _ e] at h3
      exact h3
  intro t ht
  obtain ⟨r, h1, K, h2⟩ := key (μ t + 1) t (Nat.lt_succ_self _) ht
  refine ⟨r, h1, K, fun s hs' => ?_⟩
  have h3 : L (upd s i (s 0)) (upd s i (s 0) i) t = some r := h2 (upd s i (s 0)) (fun j => by
    by_cases hj : j = i
    · subst hj; rw [upd_eq]; exact hs' 0
    · rw [upd_ne _ _ hj]; exact hs' j)
  rw [upd_eq, hL (upd s i (s 0)) s (fun j hj => upd_ne _ _ (by omega))] at h3
  exact h3
end

/-! ### Words -/
theorem w64_id {z : Int} (h1 : -9223372036854775808 ≤ z) (h2 : z ≤ 9223372036854775807) : w64 z = z := by
  unfold w64 IntKind.wrap
  simp [IntKind.bits, IntKind.signed]
  split <;> omega
theorem w64_range (z : Int) : -9223372036854775808 ≤ w64 z ∧ w64 z ≤ 9223372036854775807 := by
  unfold w64 IntKind.wrap
  simp [IntKind.bits, IntKind.signed]
  split <;> omega
theorem inb_iff {z : Int} {n : Nat} : inb z n = true ↔ 0 ≤ z ∧ z < (n : Int) := by simp [inb]
theorem cutb_iff {l h : Int} {n : Nat} : cutb l h n = true ↔ 0 ≤ l ∧ l ≤ h ∧ h ≤ (n : Int) := by simp [cutb]
theorem room_iff {n m : Nat} : room n m = true ↔ n + m ≤ 549755813888 := by unfold room lim; exact decide_eq_true_iff
theorem rdx_eq {α : Type} {d : α} {xs : List α} {z : Int} : rdx d xs z = xs.getD z.toNat d := rfl
theorem rdx_mem {α : Type} {d : α} {xs : List α} {z : Int} (h0 : 0 ≤ z) (h1 : z < (xs.length : Int)) : rdx d xs z ∈ xs := by
  have : z.toNat < xs.length := by omega
  rw [rdx_eq, List.getD_eq_getElem?_getD, List.getElem?_eq_getElem this]
  exact List.getElem_mem this
end Go.Gx

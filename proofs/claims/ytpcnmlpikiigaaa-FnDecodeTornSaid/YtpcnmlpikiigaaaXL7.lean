/-
  Laws, part 7: which graphs are valid.
-/
import Derived.Test.YtpcnmlpikiigaaaXL1
set_option linter.unusedVariables false
set_option linter.unusedSimpArgs false
namespace Go.Gx
abbrev PNode : Type := Int × Int × List Int
def nd (g : List PNode) (i : Int) : PNode := rdx ((0 : Int), ((0 : Int), ([] : List Int))) g i
def InR (g : List PNode) (l : List Int) : Prop := ∀ k ∈ l, 0 ≤ k ∧ k < (g.length : Int)
def isKeyP (n : PNode) : Prop := n.1 = 0 ∨ n.1 = 1
def sameP (a b : PNode) : Prop := a.1 = b.1 ∧ a.2.1 = b.2.1
def DictOk (g : List PNode) (kids : List Int) : Prop :=
  (∀ i, i < kids.length → i % 2 = 0 → isKeyP (nd g (kids.getD i 0)) ∧ ∀ k, k < i → k % 2 = 0 → ¬ sameP (nd g (kids.getD i 0)) (nd g (kids.getD k 0))) ∧ kids.length % 2 = 0
def NodeOk (g : List PNode) (n : PNode) : Prop :=
  n.2.2.length ≤ 6 ∧ InR g n.2.2 ∧
  (if n.1 = 0 then 0 ≤ n.2.1 ∧ n.2.1 ≤ 999 ∧ n.2.2 = []
   else if n.1 = 1 then 0 ≤ n.2.1 ∧ n.2.1 ≤ 9 ∧ n.2.2 = []
   else if n.1 = 2 ∨ n.1 = 3 then n.2.1 = 0
   else if n.1 = 4 then n.2.1 = 0 ∧ DictOk g n.2.2
   else if n.1 = 5 then 0 ≤ n.2.1 ∧ n.2.1 ≤ 9 ∧ n.2.2.length ≤ 1
   else False)
/-- Reached from the kids of a node, over tuples. -/
inductive TReach (g : List PNode) (at1 : Int) : Int → Prop
  | kid {k : Int} : k ∈ (nd g at1).2.2 → TReach g at1 k
  | step {x k : Int} : TReach g at1 x → (nd g x).1 = 2 → k ∈ (nd g x).2.2 → TReach g at1 k
structure ValidG (g : List PNode) (root : Int) : Prop where
  pos : 1 ≤ g.length
  most : g.length ≤ 12
  root : 0 ≤ root ∧ root < (g.length : Int)
  node : ∀ n ∈ g, NodeOk g n
  tup : ∀ i : Nat, i < g.length → (nd g i).1 = 2 → ¬ TReach g i i
def Says (P : Prop) (r : (Bool × Unit) × Unit) : Prop := ∃ b, r = ((b, ()), ()) ∧ (b = true ↔ P)
theorem says_true {P : Prop} (h : P) : Says P ((true, ()), ()) := ⟨true, rfl, by simp [h]⟩
theorem says_false {P : Prop} (h : ¬ P) : Says P ((false, ()), ()) := ⟨false, rfl, by simp [h]⟩
theorem w64_succ {n : Nat} {c : Int} (hc : 0 ≤ c ∧ c ≤ 1000) (h : n ≤ 1000000000000) : w64 ((n : Int) + c) = ((n + c.toNat : Nat) : Int) := by
  rw [w64_id (by omega) (by omega)]; omega
theorem inRange_tot' (n lo hi : Int) : Tot (fun σ => F_s_inRange (σ 0) n lo hi) (fun r => r = ((decide (lo ≤ n ∧ n ≤ hi), ()), ())) := by
  refine tot_s_inRange ?_
  unfold B_s_inRange
  simp only [tot_cond, tot_some, decide_eq_true_eq, decide_eq_false_iff_not]
  exact ⟨fun h => by simp [h], fun h => by simp [h]⟩
theorem copyInts_tot' {l : List Int} (h : l.length ≤ 500000000000) : Tot (fun σ => F_s_copyInts (σ 0) l) (fun r => r = ((l, ()), ())) := by
  refine tot_s_copyInts ?_
  unfold B_s_copyInts
  simp only [tot_chk, tot_some, room_iff, List.length_nil, and_true]
  omega
theorem placeIn_tot {l : List Int} (hl : l.length ≤ 900000000000) (n : Int) : Tot (fun σ => F_s_placeIn (σ 0) l n) (fun r => ∃ v, r = ((v, ()), ()) ∧ ((v = -1 ∧ n ∉ l) ∨ ∃ j : Nat, v = j ∧ j < l.length ∧ l.getD j 0 = n ∧ ∀ i, i < j → l.getD i 0 ≠ n)) := by
  refine tot_s_placeIn ?_
  unfold B_s_placeIn
  have key := loop_s_placeIn_L0 (Q := fun _ _ _ r => ∃ v, r = ((v, ()), ()) ∧ ((v = -1 ∧ n ∉ l) ∨ ∃ j : Nat, v = j ∧ j < l.length ∧ l.getD j 0 = n ∧ ∀ i, i < j → l.getD i 0 ≠ n)) (I := fun l' n' i => l' = l ∧ n' = n ∧ ∃ j : Nat, i = j ∧ j ≤ l.length ∧ ∀ q, q < j → l.getD q 0 ≠ n) (μ := fun _ _ i => (l.length - i).toNat) ?_
  · exact key l n 0 ⟨rfl, rfl, 0, rfl, by omega, fun q hq => by omega⟩
  intro l' n' i ⟨e1, e2, j, e3, hj, hq⟩ again hag ih
  subst e1 e2 e3
  unfold B_s_placeIn_L0b
  simp only [tot_cond, tot_chk, tot_some, decide_eq_true_eq, decide_eq_false_iff_not, len, inb_iff, beq_iff_eq, beq_eq_false_iff_ne, ne_eq]
  simp only [rdx_eq, Int.toNat_natCast]
  refine ⟨fun hlt => ⟨by omega, fun he => ⟨_, rfl, .inr ⟨j, rfl, by omega, he, hq⟩⟩, fun hne => ?_⟩, fun hge => ⟨_, rfl, .inl ⟨rfl, fun hm => ?_⟩⟩⟩
  · rw [w64_succ (by omega) (by omega)]
    refine ih _ _ _ ⟨rfl, rfl, j + 1, rfl, by omega, fun q h => ?_⟩ (by simp; omega)
    by_cases e : q = j
    · subst e; exact hne
    · exact hq q (by omega)
  · obtain ⟨i, hi, e⟩ := List.getElem_of_mem hm
    refine hq i (by omega) ?_
    rw [List.getD_eq_getElem?_getD, List.getElem?_eq_getElem hi]; exact e
theorem allIn_tot {l : List Int} (hl : l.length ≤ 900000000000) (lo hi : Int) : Tot (fun σ => F_s_allIn (σ 0) l lo hi) (Says (∀ x ∈ l, lo ≤ x ∧ x ≤ hi)) := by
  refine tot_s_allIn ?_
  unfold B_s_allIn
  have key := loop_s_allIn_L0 (Q := fun _ _ _ _ r => Says (∀ x ∈ l, lo ≤ x ∧ x ≤ hi) r) (I := fun l' a b i => l' = l ∧ a = lo ∧ b = hi ∧ ∃ j : Nat, i = j ∧ j ≤ l.length ∧ ∀ q, q < j → lo ≤ l.getD q 0 ∧ l.getD q 0 ≤ hi) (μ := fun _ _ _ i => (l.length - i).toNat) ?_
  · exact key l lo hi 0 ⟨rfl, rfl, rfl, 0, rfl, by omega, fun q hq => by omega⟩
  intro l' a b i ⟨e1, e2, e3, j, e4, hj, hq⟩ again hag ih
  subst e1 e2 e3 e4
  unfold B_s_allIn_L0b
  simp only [tot_cond, tot_chk, tot_some, decide_eq_true_eq, decide_eq_false_iff_not, len, inb_iff]
  refine ⟨fun hlt => ⟨by omega, ?_⟩, fun hge => says_true fun x hx => ?_⟩
  · refine (inRange_tot' _ a b).bind ?_
    rintro _ rfl
    simp only [tot_cond, tot_some, Bool.not_eq_true', Bool.not_eq_false', decide_eq_true_eq, decide_eq_false_iff_not]
    simp only [rdx_eq, Int.toNat_natCast]
    have hm : l'.getD j 0 ∈ l' := by
      rw [List.getD_eq_getElem?_getD, List.getElem?_eq_getElem (by omega)]; exact List.getElem_mem _
    refine ⟨fun hn => says_false fun h => hn (h _ hm), fun hy => ?_⟩
    rw [w64_succ (by omega) (by omega)]
    refine ih _ _ _ _ ⟨rfl, rfl, rfl, j + 1, rfl, by omega, fun q h => ?_⟩ (by simp; omega)
    by_cases e : q = j
    · subst e; exact hy
    · exact hq q (by omega)
  · obtain ⟨i, hi', e⟩ := List.getElem_of_mem hx
    have := hq i (by omega)
    rw [List.getD_eq_getElem?_getD, List.getElem?_eq_getElem hi', Option.getD_some, e] at this
    exact this
theorem isKey_tot (a b : Int) (c : List Int) : Tot (fun σ => F_s_isKey (σ 0) a b c) (Says (isKeyP (a, b, c))) := by
  refine tot_s_isKey ?_
  unfold B_s_isKey isKeyP
  simp only [tot_cond, tot_some, beq_iff_eq, beq_eq_false_iff_ne, ne_eq]
  exact ⟨fun h => says_true (.inl h), fun h => ⟨_, rfl, by simp [h]⟩⟩
theorem sameKey_tot (a b : Int) (c : List Int) (d e : Int) (f : List Int) : Tot (fun σ => F_s_sameKey (σ 0) a b c d e f) (Says (sameP (a, b, c) (d, e, f))) := by
  refine tot_s_sameKey ?_
  unfold B_s_sameKey sameP
  simp only [tot_cond, tot_some, beq_iff_eq, beq_eq_false_iff_ne, ne_eq]
  exact ⟨fun h => ⟨_, rfl, by simp [h]⟩, fun h => says_false fun hc => h hc.1⟩
theorem InR.get {g : List PNode} {l : List Int} (h : InR g l) {j : Nat} (hj : j < l.length) : 0 ≤ l.getD j 0 ∧ l.getD j 0 < (g.length : Int) := h _ (by
  rw [List.getD_eq_getElem?_getD, List.getElem?_eq_getElem hj]; exact List.getElem_mem _)
theorem validDict_tot {g : List PNode} {root k v : Int} {kids : List Int} (h : InR g kids) (hl : kids.length ≤ 6) : Tot (fun σ => F_s_validDict (σ 0) g root k v kids) (Says (DictOk g kids)) := by
  refine tot_s_validDict ?_
  unfold B_s_validDict
  have key := loop_s_validDict_L1 (Q := fun _ _ _ _ _ _ r => Says (DictOk g kids) r) (I := fun g' _ _ _ kids' i => g' = g ∧ kids' = kids ∧ ∃ j : Nat, i = j ∧ j ≤ kids.length + 1 ∧ j % 2 = 0 ∧
      ∀ q, q < j → q % 2 = 0 → q < kids.length → isKeyP (nd g (kids.getD q 0)) ∧ ∀ p, p < q → p % 2 = 0 → ¬ sameP (nd g (kids.getD q 0)) (nd g (kids.getD p 0))) (μ := fun _ _ _ _ _ i => (kids.length + 2 - i).toNat) ?_
  · exact key g root k v kids 0 ⟨rfl, rfl, 0, rfl, by omega, rfl, fun q hq => by omega⟩
  intro g' root' k' v' kids' i ⟨e1, e2, j, e3, hj, hj2, hq⟩ again hag ih
  subst e1 e2 e3
  unfold B_s_validDict_L1b
  simp only [tot_cond, tot_chk, tot_some, decide_eq_true_eq, decide_eq_false_iff_not, len, inb_iff]
  refine ⟨fun hlt => ?_, fun hge => ?_⟩
  · have hj' : j < kids'.length := by omega
    have hr := h.get hj'
    refine ⟨by omega, by rw [rdx_eq, Int.toNat_natCast]; exact hr, ?_⟩
    refine (isKey_tot _ _ _).bind ?_
    rintro _ ⟨b, rfl, hb⟩
    have hb : b = true ↔ isKeyP (nd g' (kids'.getD j 0)) := hb
    simp only [tot_cond, tot_some, Bool.not_eq_true', Bool.not_eq_false']
    refine ⟨fun hf => says_false fun hd => ?_, fun ht => ?_⟩
    · have := (hd.1 j hj' hj2).1
      rw [hf] at hb
      exact absurd (hb.2 this) (by decide)
    · have hkey := hb.1 ht
      have key2 := loop_s_validDict_L0 hag (Q := fun _ _ _ _ _ _ _ r => Says (DictOk g' kids') r) (I := fun g2 _ _ _ kids2 i2 k2 => g2 = g' ∧ kids2 = kids' ∧ i2 = (j : Int) ∧ ∃ m : Nat, k2 = m ∧ m % 2 = 0 ∧ m ≤ j ∧ ∀ p, p < m → p % 2 = 0 → ¬ sameP (nd g' (kids'.getD j 0)) (nd g' (kids'.getD p 0))) (μ := fun _ _ _ _ _ _ k2 => (j + 2 - k2).toNat) ?_
      · exact key2 g' root' k' v' kids' j 0 ⟨rfl, rfl, rfl, 0, rfl, rfl, by omega, fun p hp => by omega⟩
      intro g2 r2 kk2 v2 kids2 i2 k2 ⟨e1, e2, e3, m, e4, hm2, hmj, hp⟩ again2 hag2 ih2
      subst e1 e2 e3 e4
      unfold B_s_validDict_L0b
      simp only [tot_cond, tot_chk, tot_some, decide_eq_true_eq, decide_eq_false_iff_not, len, inb_iff]
      refine ⟨fun hmlt => ?_, fun hmge => ?_⟩
      · have hr2 := h.get (j := m) (by omega)
        refine ⟨by omega, by rw [rdx_eq, Int.toNat_natCast]; exact hr, by omega, by rw [rdx_eq, Int.toNat_natCast]; exact hr2, ?_⟩
        refine (sameKey_tot _ _ _ _ _ _).bind ?_
        rintro _ ⟨b2, rfl, hb2⟩
        have hb2 : b2 = true ↔ sameP (nd g2 (kids2.getD j 0)) (nd g2 (kids2.getD m 0)) := hb2
        simp only [tot_cond, tot_some]
        refine ⟨fun hs => says_false fun hd => (hd.1 j hj' hj2).2 m (by omega) hm2 (hb2.1 hs), fun hs => ?_⟩
        rw [w64_succ (by omega) (by omega)]
        refine ih2 _ _ _ _ _ _ _ ⟨rfl, rfl, rfl, m + 2, rfl, by omega, by omega, fun p h1 h2 => ?_⟩ (by simp; omega)
        by_cases e : p = m
        · subst e; intro hc; rw [hs] at hb2; exact absurd (hb2.2 hc) (by decide)
        · exact hp p (by omega) h2
      · have : m = j := by omega
        subst this
        rw [w64_succ (by omega) (by omega)]
        refine ih _ _ _ _ _ _ ⟨rfl, rfl, m + 2, rfl, by omega, by omega, fun q h1 h2 h3 => ?_⟩ (by simp; omega)
        by_cases e : q = m
        · subst e; exact ⟨hkey, hp⟩
        · exact hq q (by omega) h2 h3
  · refine ⟨_, rfl, ?_⟩
    rw [Int.tmod_eq_emod_of_nonneg (by omega), beq_iff_eq]
    constructor
    · intro h2; exact ⟨fun i hi hi2 => hq i (by omega) hi2 hi, by omega⟩
    · intro h2; have := h2.2; omega
end Go.Gx

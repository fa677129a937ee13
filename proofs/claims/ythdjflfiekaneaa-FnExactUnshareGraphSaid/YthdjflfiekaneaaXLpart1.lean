/-
  Plain laws about the printed functions.
-/
import Derived.Test.YthdjflfiekaneaaXGpart4
import Derived.Test.YthdjflfiekaneaaXSh
import Derived.Sort.AssemblyPlain
import Derived.Test.YthdjflfiekaneaaXGpart5
set_option linter.unusedVariables false
set_option linter.unusedSimpArgs false
namespace Go.Gx
/-- What is known of the reader's bytes and its place. -/
structure RD (b : List Int) (p : Int) : Prop where
  byte : ∀ z ∈ b, 0 ≤ z ∧ z ≤ 255
  len : b.length ≤ 2000
  p0 : 0 ≤ p
  p1 : p ≤ 1000000000
theorem RD.next {b : List Int} {p q : Int} (h : RD b p) (h0 : p ≤ q) (h1 : q ≤ 1000000000) : RD b q := ⟨h.byte, h.len, by have := h.p0; omega, h1⟩
theorem RD.at {b : List Int} {p : Int} (h : RD b p) {z : Int} (h0 : 0 ≤ z) (h1 : z < (b.length : Int)) : 0 ≤ rdx (0 : Int) b z ∧ rdx (0 : Int) b z ≤ 255 := h.byte _ (rdx_mem h0 h1)
end Go.Gx

/-
  Laws, part 7k: keys.
-/
set_option linter.unusedVariables false
set_option linter.unusedSimpArgs false
namespace Go.Gx
abbrev PNode : Type := Int × Int × List Int
def nd (g : List PNode) (i : Int) : PNode := rdx ((0 : Int), ((0 : Int), ([] : List Int))) g i
def InR (g : List PNode) (l : List Int) : Prop := ∀ k ∈ l, 0 ≤ k ∧ k < (g.length : Int)
def isKeyP (n : PNode) : Prop := n.1 = 0 ∨ n.1 = 1
def sameP (a b : PNode) : Prop := a.1 = b.1 ∧ a.2.1 = b.2.1
def Says (P : Prop) (r : (Bool × Unit) × Unit) : Prop := ∃ b, r = ((b, ()), ()) ∧ (b = true ↔ P)
theorem says_true {P : Prop} (h : P) : Says P ((true, ()), ()) := ⟨true, rfl, by simp [h]⟩
theorem says_false {P : Prop} (h : ¬ P) : Says P ((false, ()), ()) := ⟨false, rfl, by simp [h]⟩
theorem isKey_tot (a b : Int) (c : List Int) : Tot (fun σ => F_s_isKey (σ 0) a b) (Says (isKeyP (a, b, c))) := by
  refine tot_s_isKey ?_
  unfold B_s_isKey isKeyP
  simp only [tot_cond, tot_some, beq_iff_eq, beq_eq_false_iff_ne, ne_eq]
  exact ⟨fun h => says_true (.inl h), fun h => ⟨_, rfl, by simp [h]⟩⟩
theorem sameKey_tot (a b : Int) (c : List Int) (d e : Int) (f : List Int) : Tot (fun σ => F_Z59 (σ 0) a b d e) (Says (sameP (a, b, c) (d, e, f))) := by
  refine tot_Z59 ?_
  unfold B_Z59 sameP
  simp only [tot_cond, tot_some, beq_iff_eq, beq_eq_false_iff_ne, ne_eq]
  exact ⟨fun h => ⟨_, rfl, by simp [h]⟩, fun h => says_false fun hc => h hc.1⟩
end Go.Gx

/-
  Laws: small words.
-/
set_option linter.unusedVariables false
set_option linter.unusedSimpArgs false
namespace Go.Gx
theorem w64_succ {n : Nat} {c : Int} (hc : 0 ≤ c ∧ c ≤ 1000) (h : n ≤ 1000000000000) : w64 ((n : Int) + c) = ((n + c.toNat : Nat) : Int) := by
  rw [w64_id (by omega) (by omega)]; omega
theorem getD_at {α : Type} {l : List α} {i : Nat} {d : α} (h : i < l.length) : l.getD i d = l[i] := by
  rw [List.getD_eq_getElem?_getD, List.getElem?_eq_getElem h]; rfl
theorem ext_getD {α : Type} {a b : List α} {d : α} (hl : a.length = b.length) (h : ∀ i, i < a.length → a.getD i d = b.getD i d) : a = b := by
  apply List.ext_getElem hl
  intro i h1 h2
  have := h i h1
  rwa [getD_at h1, getD_at h2] at this
theorem Tot.ex {R : Type} {F : Nat → Option R} {r : R} (h : Tot (fun σ => F (σ 0)) (fun x => x = r)) : ∃ k, F k = some r := by
  obtain ⟨x, rfl, K, h2⟩ := h
  exact ⟨K, h2 (fun _ => K) (fun _ => Nat.le_refl _)⟩
end Go.Gx

/-
  Laws, part 7: which graphs are valid.
-/
set_option linter.unusedVariables false
set_option linter.unusedSimpArgs false
namespace Go.Gx
def DictOk (g : List PNode) (kids : List Int) : Prop :=
  (∀ i, i < kids.length → i % 2 = 0 → isKeyP (nd g (kids.getD i 0)) ∧ ∀ k, k < i → k % 2 = 0 → ¬ sameP (nd g (kids.getD i 0)) (nd g (kids.getD k 0))) ∧ kids.length % 2 = 0
def NodeOk (g : List PNode) (n : PNode) : Prop :=
  n.2.2.length ≤ 6 ∧ InR g n.2.2 ∧
  (if n.1 = 0 then 0 ≤ n.2.1 ∧ n.2.1 ≤ 999 ∧ n.2.2 = []
   else if n.1 = 1 then 0 ≤ n.2.1 ∧ n.2.1 ≤ 9 ∧ n.2.2 = []
   else if n.1 = 2 ∨ n.1 = 3 then n.2.1 = 0
   else if n.1 = 4 then n.2.1 = 0 ∧ DictOk g n.2.2
   else if n.1 = 5 then 0 ≤ n.2.1 ∧ n.2.1 ≤ 9 ∧ n.2.2.length ≤ 1
   else False)
/-- Reached from the kids of a node, over tuples. -/
inductive TReach (g : List PNode) (at1 : Int) : Int → Prop
  | kid {k : Int} : k ∈ (nd g at1).2.2 → TReach g at1 k
  | step {x k : Int} : TReach g at1 x → (nd g x).1 = 2 → k ∈ (nd g x).2.2 → TReach g at1 k
structure ValidG (g : List PNode) (root : Int) : Prop where
  pos : 1 ≤ g.length
  most : g.length ≤ 12
  root : 0 ≤ root ∧ root < (g.length : Int)
  node : ∀ n ∈ g, NodeOk g n
  tup : ∀ i : Nat, i < g.length → (nd g i).1 = 2 → ¬ TReach g i i
theorem inRange_tot' (n lo hi : Int) : Tot (fun σ => F_Z53 (σ 0) n lo hi) (fun r => r = ((decide (lo ≤ n ∧ n ≤ hi), ()), ())) := by
  refine tot_Z53 ?_
  unfold B_Z53
  simp only [tot_cond, tot_some, decide_eq_true_eq, decide_eq_false_iff_not]
  exact ⟨fun h => by simp [h], fun h => by simp [h]⟩
theorem copyInts_tot' {l : List Int} (h : l.length ≤ 500000000000) : Tot (fun σ => F_Z47 (σ 0) l) (fun r => r = ((l, ()), ())) := by
  refine tot_Z47 ?_
  unfold B_Z47
  simp only [tot_chk, tot_some, room_iff, List.length_nil, and_true]
  omega
theorem placeIn_tot {l : List Int} (hl : l.length ≤ 900000000000) (n : Int) : Tot (fun σ => F_Z54 (σ 0) l n) (fun r => ∃ v, r = ((v, ()), ()) ∧ ((v = -1 ∧ n ∉ l) ∨ ∃ j : Nat, v = j ∧ j < l.length ∧ l.getD j 0 = n ∧ ∀ i, i < j → l.getD i 0 ≠ n)) := by
  refine tot_Z54 ?_
  unfold B_Z54
  have key := loop_Z54_L0 (Q := fun _ _ _ r => ∃ v, r = ((v, ()), ()) ∧ ((v = -1 ∧ n ∉ l) ∨ ∃ j : Nat, v = j ∧ j < l.length ∧ l.getD j 0 = n ∧ ∀ i, i < j → l.getD i 0 ≠ n)) (I := fun l' n' i => l' = l ∧ n' = n ∧ ∃ j : Nat, i = j ∧ j ≤ l.length ∧ ∀ q, q < j → l.getD q 0 ≠ n) (μ := fun _ _ i => (l.length - i).toNat) ?_
  · exact key l n 0 ⟨rfl, rfl, 0, rfl, by omega, fun q hq => by omega⟩
  intro l' n' i ⟨e1, e2, j, e3, hj, hq⟩ again hag ih
  subst e1 e2 e3
  unfold B_Z54_L0b
  simp only [tot_cond, tot_chk, tot_some, decide_eq_true_eq, decide_eq_false_iff_not, len, inb_iff, beq_iff_eq, beq_eq_false_iff_ne, ne_eq]
  simp only [rdx_eq, Int.toNat_natCast]
  refine ⟨fun hlt => ⟨by omega, fun he => ⟨_, rfl, .inr ⟨j, rfl, by omega, he, hq⟩⟩, fun hne => ?_⟩, fun hge => ⟨_, rfl, .inl ⟨rfl, fun hm => ?_⟩⟩⟩
  · rw [w64_succ (by omega) (by omega)]
    refine ih _ _ _ ⟨rfl, rfl, j + 1, rfl, by omega, fun q h => ?_⟩ (by simp; omega)
    by_cases e : q = j
    · subst e; exact hne
    · exact hq q (by omega)
  · obtain ⟨i, hi, e⟩ := List.getElem_of_mem hm
    refine hq i (by omega) ?_
    rw [List.getD_eq_getElem?_getD, List.getElem?_eq_getElem hi]; exact e
theorem allIn_tot {l : List Int} (hl : l.length ≤ 900000000000) (lo hi : Int) : Tot (fun σ => F_s_allIn (σ 0) l lo hi) (Says (∀ x ∈ l, lo ≤ x ∧ x ≤ hi)) := by
  refine tot_s_allIn ?_
  unfold B_s_allIn
  have key := loop_s_allIn_L0 (Q := fun _ _ _ _ r => Says (∀ x ∈ l, lo ≤ x ∧ x ≤ hi) r) (I := fun l' a b i => l' = l ∧ a = lo ∧ b = hi ∧ ∃ j : Nat, i = j ∧ j ≤ l.length ∧ ∀ q, q < j → lo ≤ l.getD q 0 ∧ l.getD q 0 ≤ hi) (μ := fun _ _ _ i => (l.length - i).toNat) ?_
  · exact key l lo hi 0 ⟨rfl, rfl, rfl, 0, rfl, by omega, fun q hq => by omega⟩
  intro l' a b i ⟨e1, e2, e3, j, e4, hj, hq⟩ again hag ih
  subst e1 e2 e3 e4
  unfold B_s_allIn_L0b
  simp only [tot_cond, tot_chk, tot_some, decide_eq_true_eq, decide_eq_false_iff_not, len, inb_iff]
  refine ⟨fun hlt => ⟨by omega, ?_⟩, fun hge => says_true fun x hx => ?_⟩
  · refine (inRange_tot' _ a b).bind ?_
    rintro _ rfl
    simp only [tot_cond, tot_some, Bool.not_eq_true', Bool.not_eq_false', decide_eq_true_eq, decide_eq_false_iff_not]
    simp only [rdx_eq, Int.toNat_natCast]
    have hm : l'.getD j 0 ∈ l' := by
      rw [List.getD_eq_getElem?_getD, List.getElem?_eq_getElem (by omega)]; exact List.getElem_mem _
    refine ⟨fun hn => says_false fun h => hn (h _ hm), fun hy => ?_⟩
    rw [w64_succ (by omega) (by omega)]
    refine ih _ _ _ _ ⟨rfl, rfl, rfl, j + 1, rfl, by omega, fun q h => ?_⟩ (by simp; omega)
    by_cases e : q = j
    · subst e; exact hy
    · exact hq q (by omega)
  · obtain ⟨i, hi', e⟩ := List.getElem_of_mem hx
    have := hq i (by omega)
    rw [List.getD_eq_getElem?_getD, List.getElem?_eq_getElem hi', Option.getD_some, e] at this
    exact this
theorem InR.get {g : List PNode} {l : List Int} (h : InR g l) {j : Nat} (hj : j < l.length) : 0 ≤ l.getD j 0 ∧ l.getD j 0 < (g.length : Int) := h _ (by
  rw [List.getD_eq_getElem?_getD, List.getElem?_eq_getElem hj]; exact List.getElem_mem _)
theorem validDict_tot {g : List PNode} {root k v : Int} {kids : List Int} (h : InR g kids) (hl : kids.length ≤ 6) : Tot (fun σ => F_Z39 (σ 0) g root k v kids) (Says (DictOk g kids)) := by
  refine tot_Z39 ?_
  unfold B_Z39
  have key := loop_Z39_L1 (Q := fun _ _ _ _ _ _ r => Says (DictOk g kids) r) (I := fun g' _ _ _ kids' i => g' = g ∧ kids' = kids ∧ ∃ j : Nat, i = j ∧ j ≤ kids.length + 1 ∧ j % 2 = 0 ∧
      ∀ q, q < j → q % 2 = 0 → q < kids.length → isKeyP (nd g (kids.getD q 0)) ∧ ∀ p, p < q → p % 2 = 0 → ¬ sameP (nd g (kids.getD q 0)) (nd g (kids.getD p 0))) (μ := fun _ _ _ _ _ i => (kids.length + 2 - i).toNat) ?_
  · exact key g root k v kids 0 ⟨rfl, rfl, 0, rfl, by omega, rfl, fun q hq => by omega⟩
  intro g' root' k' v' kids' i ⟨e1, e2, j, e3, hj, hj2, hq⟩ again hag ih
  subst e1 e2 e3
  unfold B_Z39_L1b
  simp only [tot_cond, tot_chk, tot_some, decide_eq_true_eq, decide_eq_false_iff_not, len, inb_iff]
  refine ⟨fun hlt => ?_, fun hge => ?_⟩
  · have hj' : j < kids'.length := by omega
    have hr := h.get hj'
    refine ⟨by omega, by rw [rdx_eq, Int.toNat_natCast]; exact hr, ?_⟩
    refine (isKey_tot _ _ []).bind ?_
    rintro _ ⟨b, rfl, hb⟩
    have hb : b = true ↔ isKeyP (nd g' (kids'.getD j 0)) := hb
    simp only [tot_cond, tot_some, Bool.not_eq_true', Bool.not_eq_false']
    refine ⟨fun hf => says_false fun hd => ?_, fun ht => ?_⟩
    · have := (hd.1 j hj' hj2).1
      rw [hf] at hb
      exact absurd (hb.2 this) (by decide)
    · have hkey := hb.1 ht
      have key2 := loop_Z39_L0 hag (Q := fun _ _ _ _ _ _ _ r => Says (DictOk g' kids') r) (I := fun g2 _ _ _ kids2 i2 k2 => g2 = g' ∧ kids2 = kids' ∧ i2 = (j : Int) ∧ ∃ m : Nat, k2 = m ∧ m % 2 = 0 ∧ m ≤ j ∧ ∀ p, p < m → p % 2 = 0 → ¬ sameP (nd g' (kids'.getD j 0)) (nd g' (kids'.getD p 0))) (μ := fun _ _ _ _ _ _ k2 => (j + 2 - k2).toNat) ?_
      · exact key2 g' root' k' v' kids' j 0 ⟨rfl, rfl, rfl, 0, rfl, rfl, by omega, fun p hp => by omega⟩
      intro g2 r2 kk2 v2 kids2 i2 k2 ⟨e1, e2, e3, m, e4, hm2, hmj, hp⟩ again2 hag2 ih2
      subst e1 e2 e3 e4
      unfold B_Z39_L0b
      simp only [tot_cond, tot_chk, tot_some, decide_eq_true_eq, decide_eq_false_iff_not, len, inb_iff]
      refine ⟨fun hmlt => ?_, fun hmge => ?_⟩
      · have hr2 := h.get (j := m) (by omega)
        refine ⟨by omega, by rw [rdx_eq, Int.toNat_natCast]; exact hr, by omega, by rw [rdx_eq, Int.toNat_natCast]; exact hr2, ?_⟩
        refine (sameKey_tot _ _ [] _ _ []).bind ?_
        rintro _ ⟨b2, rfl, hb2⟩
        have hb2 : b2 = true ↔ sameP (nd g2 (kids2.getD j 0)) (nd g2 (kids2.getD m 0)) := hb2
        simp only [tot_cond, tot_some]
        refine ⟨fun hs => says_false fun hd => (hd.1 j hj' hj2).2 m (by omega) hm2 (hb2.1 hs), fun hs => ?_⟩
        rw [w64_succ (by omega) (by omega)]
        refine ih2 _ _ _ _ _ _ _ ⟨rfl, rfl, rfl, m + 2, rfl, by omega, by omega, fun p h1 h2 => ?_⟩ (by simp; omega)
        by_cases e : p = m
        · subst e; intro hc; rw [hs] at hb2; exact absurd (hb2.2 hc) (by decide)
        · exact hp p (by omega) h2
      · have : m = j := by omega
        subst this
        rw [w64_succ (by omega) (by omega)]
        refine ih _ _ _ _ _ _ ⟨rfl, rfl, m + 2, rfl, by omega, by omega, fun q h1 h2 h3 => ?_⟩ (by simp; omega)
        by_cases e : q = m
        · subst e; exact ⟨hkey, hp⟩
        · exact hq q (by omega) h2 h3
  · refine ⟨_, rfl, ?_⟩
    rw [Int.tmod_eq_emod_of_nonneg (by omega), beq_iff_eq]
    constructor
    · intro h2; exact ⟨fun i hi hi2 => hq i (by omega) hi2 hi, by omega⟩
    · intro h2; have := h2.2; omega
end Go.Gx

/-
  Laws, part 8: valid graphs.
-/
set_option linter.unusedVariables false
set_option linter.unusedSimpArgs false
namespace Go.Gx
theorem says_iff {P : Prop} {b : Bool} (h : b = true ↔ P) : Says P ((b, ()), ()) := ⟨b, rfl, h⟩
theorem validNode_tot {g : List PNode} {root : Int} (hg : g.length ≤ 2000000) (n : PNode) (hn : n.2.2.length ≤ 2000000) : Tot (fun σ => F_Z36 (σ 0) g root n.1 n.2.1 n.2.2) (Says (NodeOk g n)) := by
  obtain ⟨k, v, kids⟩ := n
  refine tot_Z36 ?_
  unfold B_Z36
  have j0 : ∀ b : Bool, (b = false ↔ kids.length ≤ 6 ∧ InR g kids) → Tot (fun σ => B_Z36_J0 (σ 0) (F_s_allIn (σ 0)) (F_Z53 (σ 0)) (F_Z39 (σ 0)) g root k v kids b) (Says (NodeOk g (k, v, kids))) := by
    intro b hb
    unfold B_Z36_J0 B_Z36_J1
    rw [tot_cond]
    refine ⟨fun ht => ?_, fun hf => ?_⟩
    · rw [tot_some]
      refine says_false fun h => ?_
      have := hb.2 ⟨h.1, h.2.1⟩
      rw [ht] at this
      cases this
    obtain ⟨h6, hin⟩ := hb.1 hf
    have ok : ∀ {Q : Prop}, (NodeOk g (k, v, kids) ↔ Q) ↔ ((if k = 0 then 0 ≤ v ∧ v ≤ 999 ∧ kids = [] else if k = 1 then 0 ≤ v ∧ v ≤ 9 ∧ kids = [] else if k = 2 ∨ k = 3 then v = 0 else if k = 4 then v = 0 ∧ DictOk g kids else if k = 5 then 0 ≤ v ∧ v ≤ 9 ∧ kids.length ≤ 1 else False) ↔ Q) := by
      intro Q
      unfold NodeOk
      simp only [h6, hin, true_and]
    have fin : ∀ (b : Bool), ((if k = 0 then 0 ≤ v ∧ v ≤ 999 ∧ kids = [] else if k = 1 then 0 ≤ v ∧ v ≤ 9 ∧ kids = [] else if k = 2 ∨ k = 3 then v = 0 else if k = 4 then v = 0 ∧ DictOk g kids else if k = 5 then 0 ≤ v ∧ v ≤ 9 ∧ kids.length ≤ 1 else False) ↔ b = true) → Says (NodeOk g (k, v, kids)) ((b, ()), ()) := fun b h => says_iff (ok.2 h).symm
    have hlen : (len kids == 0) = decide (kids = []) := by
      rw [Bool.eq_iff_iff]; simp [len]
    simp only [tot_cond, tot_jn, beq_iff_eq, beq_eq_false_iff_ne, ne_eq]
    refine ⟨fun h0 => ?_, fun h0 => ⟨fun h1 => ?_, fun h1 => ⟨fun h2 => ?_, fun h2 => ⟨fun h3 => ?_, fun h3 => ⟨fun h4 => ⟨fun hv => ?_, fun hv => ?_⟩, fun h4 => ⟨fun h5 => ?_, fun h5 => ?_⟩⟩⟩⟩⟩⟩
    · refine (inRange_tot' v 0 999).bind ?_
      rintro _ rfl
      simp only [tot_cond, tot_some, decide_eq_true_eq, decide_eq_false_iff_not]
      exact ⟨fun hr => fin _ (by rw [if_pos h0, hlen, decide_eq_true_eq]; exact ⟨fun h => h.2.2, fun h => ⟨hr.1, hr.2, h⟩⟩), fun hr => fin _ (by rw [if_pos h0]; exact ⟨fun h => absurd ⟨h.1, h.2.1⟩ hr, fun h => by cases h⟩)⟩
    · refine (inRange_tot' v 0 9).bind ?_
      rintro _ rfl
      simp only [tot_cond, tot_some, decide_eq_true_eq, decide_eq_false_iff_not]
      exact ⟨fun hr => fin _ (by rw [if_neg h0, if_pos h1, hlen, decide_eq_true_eq]; exact ⟨fun h => h.2.2, fun h => ⟨hr.1, hr.2, h⟩⟩), fun hr => fin _ (by rw [if_neg h0, if_pos h1]; exact ⟨fun h => absurd ⟨h.1, h.2.1⟩ hr, fun h => by cases h⟩)⟩
    · refine ⟨fun _ => ?_, fun h => absurd h2 h⟩
      rw [tot_some]
      exact fin _ (by rw [if_neg h0, if_neg h1, if_pos (.inl h2), beq_iff_eq])
    · rw [tot_some]
      exact fin _ (by rw [if_neg h0, if_neg h1, if_pos (.inr h3), beq_iff_eq])
    · refine (validDict_tot hin h6).bind ?_
      rintro _ ⟨b2, rfl, hb2⟩
      rw [tot_some]
      exact fin _ (by rw [if_neg h0, if_neg h1, if_neg (by simp [h2, h3]), if_pos h4]; exact ⟨fun h => hb2.2 h.2, fun h => ⟨hv, hb2.1 h⟩⟩)
    · rw [tot_some]
      exact fin _ (by rw [if_neg h0, if_neg h1, if_neg (by simp [h2, h3]), if_pos h4]; exact ⟨fun h => absurd h.1 hv, fun h => by cases h⟩)
    · refine (inRange_tot' v 0 9).bind ?_
      rintro _ rfl
      simp only [tot_cond, tot_some, decide_eq_true_eq, decide_eq_false_iff_not]
      exact ⟨fun hr => fin _ (by rw [if_neg h0, if_neg h1, if_neg (by simp [h2, h3]), if_neg h4, if_pos h5, decide_eq_true_eq]; exact ⟨fun h => by have := h.2.2; simp only [len]; omega, fun h => ⟨hr.1, hr.2, by simp only [len] at h; omega⟩⟩),
        fun hr => fin _ (by rw [if_neg h0, if_neg h1, if_neg (by simp [h2, h3]), if_neg h4, if_pos h5]; exact ⟨fun h => absurd ⟨h.1, h.2.1⟩ hr, fun h => by cases h⟩)⟩
    · rw [tot_some]
      exact fin _ (by rw [if_neg h0, if_neg h1, if_neg (by simp [h2, h3]), if_neg h4, if_neg h5]; simp)
  simp only [tot_cond, tot_jn, decide_eq_true_eq, decide_eq_false_iff_not, len]
  refine ⟨fun h => j0 true ⟨fun h' => Bool.noConfusion h', fun h' => by omega⟩, fun h => ?_⟩
  rw [show w64 ((g.length : Int) - 1) = (g.length : Int) - 1 from w64_id (by omega) (by omega)]
  refine (allIn_tot (by simp only [] at hn; omega) 0 _).bind ?_
  rintro _ ⟨b, rfl, hb⟩
  rw [tot_jn]
  refine j0 (!b) ?_
  rw [Bool.not_eq_false', hb]
  constructor
  · intro h1; exact ⟨by omega, fun x hx => by have := h1 x hx; omega⟩
  · intro h1 x hx; have := h1.2 x hx; omega
/-- Every node's kids are nodes, and not too many. -/
def Kidly (g : List PNode) : Prop := ∀ n ∈ g, n.2.2.length ≤ 6 ∧ InR g n.2.2
theorem nd_mem {g : List PNode} {i : Int} (h0 : 0 ≤ i) (h1 : i < (g.length : Int)) : nd g i ∈ g := rdx_mem h0 h1
theorem nodup_len {n : Nat} : ∀ {l : List Int}, l.Nodup → (∀ x ∈ l, 0 ≤ x ∧ x < (n : Int)) → l.length ≤ n := by
  induction n with
  | zero =>
    intro l _ h
    cases l with
    | nil => simp
    | cons x l => have := h x (by simp); omega
  | succ n ih =>
    intro l hn h
    have h1 : (l.erase (n : Int)).Nodup := hn.erase _
    have h2 := ih h1 (fun x hx => by
      have hx' := List.mem_of_mem_erase hx
      have := h x hx'
      have hne : x ≠ (n : Int) := fun e => by subst e; exact (List.Nodup.not_mem_erase hn) hx
      omega)
    by_cases hm : (n : Int) ∈ l
    · rw [List.length_erase_of_mem hm] at h2; omega
    · rw [List.erase_of_not_mem hm] at h2; omega
theorem getD_left {α : Type} {l m : List α} {i : Nat} {d : α} (h : i < l.length) : (l ++ m).getD i d = l.getD i d := by
  rw [List.getD_eq_getElem?_getD, List.getD_eq_getElem?_getD, List.getElem?_append_left h]
theorem tupleReach_tot {g : List PNode} {root : Int} (hk : Kidly g) (hg : g.length ≤ 2000000) {at1 : Int} (h0 : 0 ≤ at1) (h1 : at1 < (g.length : Int)) :
    Tot (fun σ => F_Z32 (σ 0) g root at1) (fun r => ∃ out : List Int, r = ((out, ()), ()) ∧ (∀ x, x ∈ out ↔ TReach g at1 x) ∧ out.Nodup ∧ out.length ≤ g.length) := by
  refine tot_Z32 ?_
  unfold B_Z32
  have hat := hk _ (nd_mem h0 h1)
  rw [tot_chk]
  refine ⟨inb_iff.2 ⟨h0, h1⟩, (copyInts_tot' (l := (nd g at1).2.2) (by omega)).bind ?_⟩
  rintro _ rfl
  have key := loop_Z32_L1 (Q := fun _ _ _ _ _ r => ∃ out : List Int, r = ((out, ()), ()) ∧ (∀ x, x ∈ out ↔ TReach g at1 x) ∧ out.Nodup ∧ out.length ≤ g.length)
    (I := fun g' _ out list k7 => g' = g ∧ ∃ j : Nat, k7 = j ∧ j ≤ list.length ∧ (∀ x ∈ list, TReach g at1 x ∧ 0 ≤ x ∧ x < (g.length : Int)) ∧ out.Nodup ∧ (∀ x ∈ out, x ∈ list) ∧ (∀ q, q < j → list.getD q 0 ∈ out) ∧
      (∀ x ∈ (nd g at1).2.2, x ∈ list) ∧ (∀ x ∈ out, (nd g x).1 = 2 → ∀ y ∈ (nd g x).2.2, y ∈ list) ∧ list.length ≤ 6 + 6 * out.length) (μ := fun _ _ out list k7 => 7 * (g.length - out.length) + (list.length - k7.toNat)) ?_
  · exact key g root [] _ 0 ⟨rfl, 0, rfl, by omega, fun x hx => ⟨.kid hx, hat.2 x hx⟩, List.nodup_nil, fun x hx => by simp at hx, fun q hq => by omega, fun x hx => hx, fun x hx => by simp at hx, by simp; exact hat.1⟩
  intro g' r' out list k7 ⟨e1, j, e2, hj, hl, hnd, hol, hq, hkid, hst, hlen⟩ again hag ih
  subst e1 e2
  unfold B_Z32_L1b B_Z32_J0
  have hout : out.length ≤ g'.length := nodup_len hnd fun x hx => (hl x (hol x hx)).2
  simp only [tot_cond, tot_chk, tot_jn, tot_some, decide_eq_true_eq, decide_eq_false_iff_not, len, inb_iff, Int.toNat_natCast]
  refine ⟨fun hlt => ⟨by omega, by omega, ?_⟩, fun hge => ?_⟩
  · have hj' : j < list.length := by omega
    have hm : list.getD j 0 ∈ list := by rw [List.getD_eq_getElem?_getD, List.getElem?_eq_getElem hj']; exact List.getElem_mem _
    generalize hx : list.getD j 0 = x at hm
    have hxr := hl x hm
    refine (placeIn_tot (by omega) x).bind ?_
    rintro _ ⟨v, rfl, hv⟩
    simp only [tot_cond, tot_chk, tot_jn, decide_eq_true_eq, decide_eq_false_iff_not, room_iff, inb_iff, List.length_cons, List.length_nil, beq_iff_eq, beq_eq_false_iff_ne, ne_eq]
    have wj : w64 ((j : Int) + 1) = ((j + 1 : Nat) : Int) := w64_succ (by omega) (by omega)
    refine ⟨fun hneg => ?_, fun hpos => ?_⟩
    · have hni : x ∉ out := by
        rcases hv with ⟨_, h⟩ | ⟨i, e, _⟩
        · exact h
        · omega
      have hnd2 : (out ++ [x]).Nodup := by
        rw [List.nodup_append]
        exact ⟨hnd, by simp, fun a ha b hb e => by simp at hb; subst hb; subst e; exact hni ha⟩
      have hout2 : (out ++ [x]).length ≤ g'.length := nodup_len hnd2 fun y hy => by
        rcases List.mem_append.1 hy with h | h
        · exact (hl y (hol y h)).2
        · simp at h; subst h; exact hxr.2
      simp only [List.length_append, List.length_cons, List.length_nil] at hout2
      have hkx := hk _ (nd_mem hxr.2.1 hxr.2.2)
      have hkl : (nd g' x).2.2.length ≤ 6 := hkx.1
      refine ⟨by omega, by omega, by omega, by omega, by omega, hxr.2, fun ht => ⟨by omega, by omega, hxr.2, by show list.length + (nd g' x).2.2.length ≤ _; omega, ?_⟩, fun ht => ?_⟩
      · rw [wj]
        refine ih _ _ _ _ _ ⟨rfl, j + 1, rfl, by simp only [List.length_append]; omega, fun y hy => ?_, hnd2, fun y hy => ?_, fun q h => ?_, fun y hy => List.mem_append_left _ (hkid y hy), fun y hy h2 z hz => ?_, ?_⟩ ?_
        · rcases List.mem_append.1 hy with h | h
          · exact hl y h
          · exact ⟨.step hxr.1 ht h, hkx.2 y h⟩
        · rcases List.mem_append.1 hy with h | h
          · exact List.mem_append_left _ (hol y h)
          · simp at h; subst h; exact List.mem_append_left _ hm
        · rw [getD_left (by omega)]
          by_cases e : q = j
          · subst e; rw [hx]; simp
          · exact List.mem_append_left _ (hq q (by omega))
        · rcases List.mem_append.1 hy with h | h
          · exact List.mem_append_left _ (hst y h h2 z hz)
          · simp at h; subst h; exact List.mem_append_right _ hz
        · simp only [List.length_append, List.length_cons, List.length_nil]
          have : (rdx ((0 : Int), ((0 : Int), ([] : List Int))) g' x).2.2.length ≤ 6 := hkl
          omega
        · simp only [List.length_append, List.length_cons, List.length_nil, Int.toNat_natCast]
          have : (rdx ((0 : Int), ((0 : Int), ([] : List Int))) g' x).2.2.length ≤ 6 := hkl
          omega
      · rw [wj]
        refine ih _ _ _ _ _ ⟨rfl, j + 1, rfl, by omega, hl, hnd2, fun y hy => ?_, fun q h => ?_, hkid, fun y hy h2 z hz => ?_, ?_⟩ ?_
        · rcases List.mem_append.1 hy with h | h
          · exact hol y h
          · simp at h; subst h; exact hm
        · by_cases e : q = j
          · subst e; rw [hx]; simp
          · exact List.mem_append_left _ (hq q (by omega))
        · rcases List.mem_append.1 hy with h | h
          · exact hst y h h2 z hz
          · simp at h; subst h; exact absurd h2 ht
        · simp only [List.length_append, List.length_cons, List.length_nil]; omega
        · simp only [List.length_append, List.length_cons, List.length_nil, Int.toNat_natCast]; omega
    · have hmo : x ∈ out := by
        rcases hv with ⟨e, _⟩ | ⟨i, e, hi, he, _⟩
        · omega
        · rw [← he, List.getD_eq_getElem?_getD, List.getElem?_eq_getElem hi]; exact List.getElem_mem _
      rw [wj]
      refine ih _ _ _ _ _ ⟨rfl, j + 1, rfl, by omega, hl, hnd, hol, fun q h => ?_, hkid, hst, hlen⟩ (by simp only [Int.toNat_natCast]; omega)
      by_cases e : q = j
      · subst e; rw [hx]; exact hmo
      · exact hq q (by omega)
  · have hall : ∀ x ∈ list, x ∈ out := by
      intro x hx
      obtain ⟨i, hi, e⟩ := List.getElem_of_mem hx
      have := hq i (by omega)
      rwa [List.getD_eq_getElem?_getD, List.getElem?_eq_getElem hi, Option.getD_some, e] at this
    refine ⟨out, rfl, fun x => ⟨fun hx => (hl x (hol x hx)).1, fun hx => ?_⟩, hnd, hout⟩
    induction hx with
    | kid hk' => exact hall _ (hkid _ hk')
    | step _ h2 hk' ih' => exact hall _ (hst _ ih' h2 _ hk')
end Go.Gx

/-
  Laws, part U0: walks, without any program.
-/
set_option linter.unusedVariables false
set_option linter.unusedSimpArgs false
namespace Go.Gx
/-- The kids of a node. -/
def kd (g : List PNode) (i : Int) : List Int := (nd g i).2.2
/-- The nodes that were met, behind a walk. -/
def rch (g : List PNode) : Nat → Int → List Int → List Int
  | 0, _, met => met
  | f + 1, at1, met => if at1 ∈ met then met else (kd g at1).foldl (fun m k => rch g f k m) (met ++ [at1])
def MetOk (g : List PNode) (met : List Int) : Prop := met.Nodup ∧ ∀ x ∈ met, 0 ≤ x ∧ x < (g.length : Int)
theorem MetOk.len {g : List PNode} {met : List Int} (h : MetOk g met) : met.length ≤ g.length := nodup_len h.1 h.2
theorem MetOk.nil {g : List PNode} : MetOk g [] := ⟨List.nodup_nil, fun x hx => by simp at hx⟩
theorem MetOk.snoc {g : List PNode} {met : List Int} {x : Int} (h : MetOk g met) (h0 : 0 ≤ x) (h1 : x < (g.length : Int)) (hx : x ∉ met) : MetOk g (met ++ [x]) := by
  refine ⟨?_, fun y hy => ?_⟩
  · rw [List.nodup_append]
    exact ⟨h.1, by simp, fun a ha b hb e => by simp at hb; subst hb; subst e; exact hx ha⟩
  · rcases List.mem_append.1 hy with h' | h'
    · exact h.2 y h'
    · simp at h'; subst h'; exact ⟨h0, h1⟩
theorem foldl_met {g : List PNode} {F : List Int → Int → List Int} (hF : ∀ m k, 0 ≤ k → k < (g.length : Int) → MetOk g m → MetOk g (F m k) ∧ m.length ≤ (F m k).length) :
    ∀ (l m : List Int), InR g l → MetOk g m → MetOk g (l.foldl F m) ∧ m.length ≤ (l.foldl F m).length := by
  intro l
  induction l with
  | nil => intro m _ h; exact ⟨h, Nat.le_refl _⟩
  | cons k l ih =>
    intro m hl h
    have hk := hl k (by simp)
    have h1 := hF m k hk.1 hk.2 h
    have h2 := ih (F m k) (fun x hx => hl x (by simp [hx])) h1.1
    exact ⟨h2.1, Nat.le_trans h1.2 h2.2⟩
theorem rch_ok {g : List PNode} (hk : Kidly g) : ∀ (f : Nat) (at1 : Int) (met : List Int), 0 ≤ at1 → at1 < (g.length : Int) → MetOk g met → MetOk g (rch g f at1 met) ∧ met.length ≤ (rch g f at1 met).length := by
  intro f
  induction f with
  | zero => intro at1 met _ _ h; exact ⟨h, Nat.le_refl _⟩
  | succ f ih =>
    intro at1 met h0 h1 h
    unfold rch
    by_cases hm : at1 ∈ met
    · rw [if_pos hm]; exact ⟨h, Nat.le_refl _⟩
    · rw [if_neg hm]
      have := foldl_met (F := fun m k => rch g f k m) (fun m k a b c => ih k m a b c) (kd g at1) (met ++ [at1]) (hk _ (nd_mem h0 h1)).2 (h.snoc h0 h1 hm)
      exact ⟨this.1, by have := this.2; simp only [List.length_append, List.length_cons, List.length_nil] at this; omega⟩
theorem inR_take {g : List PNode} {l : List Int} (h : InR g l) (j : Nat) : InR g (l.take j) := fun x hx => h x (List.mem_of_mem_take hx)
theorem foldl_take_succ {α : Type} {F : α → Int → α} {l : List Int} {j : Nat} (h : j < l.length) (m : α) : (l.take (j + 1)).foldl F m = F ((l.take j).foldl F m) (rdx (0 : Int) l (j : Int)) := by
  have e : rdx (0 : Int) l (j : Int) = l[j] := by
    show l.getD (Int.toNat (j : Int)) 0 = _
    rw [Int.toNat_natCast, List.getD_eq_getElem?_getD, List.getElem?_eq_getElem h]; rfl
  rw [e, List.take_add_one, List.getElem?_eq_getElem h, List.foldl_append]
  rfl
/-- What a map of marks says. -/
def Seen (t : List (Int × Bool)) (met : List Int) : Prop := ∀ x, (mfind t x).getD false = true ↔ x ∈ met
theorem mfind_mput {α : Type} (x : α) (z y : Int) : ∀ t : List (Int × α), mfind (mput t z x) y = if y = z then some x else mfind t y := by
  intro t
  induction t with
  | nil =>
    by_cases h : y = z
    · subst h; simp [mput, mfind]
    · have : (z == y) = false := by simpa using fun e => h e.symm
      simp [mput, mfind, this, h]
  | cons p t ih =>
    obtain ⟨k, v⟩ := p
    by_cases hkz : k = z
    · subst hkz
      by_cases h : y = k
      · subst h; simp [mput, mfind]
      · have : (k == y) = false := by simpa using fun e => h e.symm
        simp [mput, mfind, this, h]
    · have e1 : (k == z) = false := by simpa using hkz
      by_cases h : k = y
      · subst h; simp [mput, mfind, e1, hkz]
      · have : (k == y) = false := by simpa using h
        simp [mput, mfind, this, e1, ih]
theorem Seen.put {t : List (Int × Bool)} {met : List Int} (h : Seen t met) (z : Int) : Seen (mput t z true) (met ++ [z]) := by
  intro x
  rw [mfind_mput]
  by_cases e : x = z
  · subst e; simp
  · rw [if_neg e, h x]; simp [e]
def sumN (l : List Nat) : Nat := l.foldr (· + ·) 0
theorem sumN_append (a b : List Nat) : sumN (a ++ b) = sumN a + sumN b := by
  induction a with
  | nil => simp [sumN]
  | cons x a ih => simp only [sumN, List.cons_append, List.foldr_cons] at ih ⊢; omega
theorem sumN_take_le : ∀ (l : List Nat) (j : Nat), sumN (l.take j) ≤ sumN l := by
  intro l j
  have := sumN_append (l.take j) (l.drop j)
  rw [List.take_append_drop] at this
  omega
theorem getDm {l : List Int} {i : Nat} (h : i < l.length) : l.getD i 0 ∈ l := by
  rw [List.getD_eq_getElem?_getD, List.getElem?_eq_getElem h]; exact List.getElem_mem _
theorem mem_getD {l : List Int} {x : Int} (h : x ∈ l) : ∃ q, q < l.length ∧ l.getD q 0 = x := by
  obtain ⟨q, hq, e⟩ := List.getElem_of_mem h
  exact ⟨q, hq, by rw [List.getD_eq_getElem?_getD, List.getElem?_eq_getElem hq]; exact e⟩
end Go.Gx

/-
  Laws, part U1: what is reached.
-/
set_option linter.unusedVariables false
set_option linter.unusedSimpArgs false
namespace Go.Gx
theorem reach_tot {g : List PNode} {root : Int} (hk : Kidly g) (hg : g.length ≤ 2000000) : ∀ (f : Nat) (at1 : Int) (met : List Int), 0 ≤ at1 → at1 < (g.length : Int) → MetOk g met → g.length < f + met.length →
    Tot (fun σ => F_s_reach (σ 0) g root at1 met) (fun r => r = ((rch g f at1 met, ()), ())) := by
  intro f
  induction f with
  | zero => intro at1 met _ _ hm hf; have := hm.len; omega
  | succ f ihf =>
    intro at1 met h0 h1 hm hf
    have hml := hm.len
    refine tot_s_reach ?_
    unfold B_s_reach
    refine (placeIn_tot (by omega) at1).bind ?_
    rintro _ ⟨v, rfl, hv⟩
    simp only [tot_cond, tot_some, decide_eq_true_eq, decide_eq_false_iff_not, ge_iff_le]
    refine ⟨fun hge => ?_, fun hlt => ?_⟩
    · have hmo : at1 ∈ met := by
        rcases hv with ⟨e, _⟩ | ⟨i, e, hi, he, _⟩
        · omega
        · rw [← he, List.getD_eq_getElem?_getD, List.getElem?_eq_getElem hi]; exact List.getElem_mem _
      simp only [rch, if_pos hmo]
    have hni : at1 ∉ met := by
      rcases hv with ⟨_, h⟩ | ⟨i, e, _⟩
      · exact h
      · omega
    have hkx := hk _ (nd_mem h0 h1)
    have hsn := hm.snoc h0 h1 hni
    refine (copyInts_tot' (by omega)).bind ?_
    rintro _ rfl
    rw [tot_chk, room_iff]
    refine ⟨by simp only [List.length_cons, List.length_nil]; omega, ?_⟩
    have key := loop_s_reach_L0 (Q := fun _ _ _ _ _ r => r = ((rch g (f + 1) at1 met, ()), ()))
      (I := fun a m g' r' i => a = at1 ∧ g' = g ∧ r' = root ∧ ∃ j : Nat, i = j ∧ j ≤ (kd g at1).length ∧ m = ((kd g at1).take j).foldl (fun m k => rch g f k m) (met ++ [at1])) (μ := fun _ _ _ _ i => (kd g at1).length - i.toNat) ?_
    · exact key at1 _ g root 0 ⟨rfl, rfl, rfl, 0, rfl, by omega, by simp⟩
    intro a m g' r' i ⟨e1, e2, e3, j, e4, hj, e5⟩ again hag ih
    subst e1 e2 e3 e4
    have hmk := foldl_met (F := fun m k => rch g' f k m) (fun m k a b c => rch_ok hk f k m a b c) ((kd g' a).take j) (met ++ [a]) (inR_take hkx.2 j) hsn
    rw [← e5] at hmk
    have hmk2 := hmk.2
    simp only [List.length_append, List.length_cons, List.length_nil] at hmk2
    unfold B_s_reach_L0b
    simp only [tot_cond, tot_chk, tot_some, decide_eq_true_eq, decide_eq_false_iff_not, len, inb_iff]
    refine ⟨⟨h0, h1⟩, fun hlt => ⟨⟨h0, h1⟩, ⟨by omega, hlt⟩, ?_⟩, fun hge => ?_⟩
    · have hlt' : j < (kd g' a).length := by have : (j : Int) < ((kd g' a).length : Int) := hlt; omega
      have hl6 : (kd g' a).length ≤ 6 := hkx.1
      have hr := hkx.2 (rdx (0 : Int) (kd g' a) (j : Int)) (rdx_mem (by omega) (show (j : Int) < ((kd g' a).length : Int) by omega))
      refine (ihf (rdx (0 : Int) (kd g' a) (j : Int)) m hr.1 hr.2 hmk.1 (by omega)).bind ?_
      rintro _ rfl
      rw [show w64 ((j : Int) + 1) = ((j + 1 : Nat) : Int) from w64_succ (by omega) (by omega)]
      refine ih _ _ _ _ _ ⟨rfl, rfl, rfl, j + 1, rfl, by omega, ?_⟩ (by simp only [Int.toNat_natCast]; omega)
      rw [foldl_take_succ hlt', ← e5]
    · have hge' : (kd g' a).length ≤ j := by have : ¬ (j : Int) < ((kd g' a).length : Int) := hge; omega
      rw [e5, List.take_of_length_le hge']
      simp only [rch, if_neg hni]
theorem reachOf1_tot {g : List PNode} {root : Int} (hk : Kidly g) (hg : g.length ≤ 2000000) : ∀ (f : Nat) (at1 : Int) (t : List (Int × Bool)) (met : List Int), 0 ≤ at1 → at1 < (g.length : Int) → MetOk g met → Seen t met → g.length < f + met.length →
    Tot (fun σ => F_Z33 (σ 0) at1 t met g root) (fun r => ∃ t2, r = ((), ((t2, ()), (rch g f at1 met, ()), (g, root, ()), ((), ()), ())) ∧ Seen t2 (rch g f at1 met)) := by
  intro f
  induction f with
  | zero => intro at1 t met _ _ hm _ hf; have := hm.len; omega
  | succ f ihf =>
    intro at1 t met h0 h1 hm hs hf
    have hml := hm.len
    refine tot_Z33 ?_
    unfold B_Z33
    simp only [tot_cond, tot_some, tot_chk, room_iff, inb_iff, List.length_cons, List.length_nil]
    refine ⟨fun hy => ?_, fun hn => ⟨by omega, ⟨h0, h1⟩, ?_⟩⟩
    · have hmo : at1 ∈ met := (hs at1).1 hy
      refine ⟨t, ?_, ?_⟩ <;> simp only [rch, if_pos hmo]
      exact hs
    have hni : at1 ∉ met := fun h => by rw [(hs at1).2 h] at hn; cases hn
    have hkx := hk _ (nd_mem h0 h1)
    have hsn := hm.snoc h0 h1 hni
    have key := loop_Z33_L0 (Q := fun _ _ _ _ _ _ _ r => ∃ t2, r = ((), ((t2, ()), (rch g (f + 1) at1 met, ()), (g, root, ()), ((), ()), ())) ∧ Seen t2 (rch g (f + 1) at1 met))
      (I := fun t m g' r' ks n i => g' = g ∧ r' = root ∧ ks = kd g at1 ∧ n = ((kd g at1).length : Int) ∧ Seen t m ∧ ∃ j : Nat, i = j ∧ j ≤ (kd g at1).length ∧ m = ((kd g at1).take j).foldl (fun m k => rch g f k m) (met ++ [at1])) (μ := fun _ _ _ _ _ _ i => (kd g at1).length - i.toNat) ?_
    · exact key _ _ g root _ _ 0 ⟨rfl, rfl, rfl, rfl, hs.put at1, 0, rfl, by omega, by simp⟩
    intro t' m g' r' ks n i ⟨e1, e2, e3, e4, hs', j, e6, hj, e5⟩ again hag ih
    subst e1 e2 e3 e4 e6
    have hmk := foldl_met (F := fun m k => rch g' f k m) (fun m k a b c => rch_ok hk f k m a b c) ((kd g' at1).take j) (met ++ [at1]) (inR_take hkx.2 j) hsn
    rw [← e5] at hmk
    have hmk2 := hmk.2
    simp only [List.length_append, List.length_cons, List.length_nil] at hmk2
    unfold B_Z33_L0b
    simp only [tot_cond, tot_chk, tot_some, decide_eq_true_eq, decide_eq_false_iff_not, inb_iff]
    refine ⟨fun hlt => ⟨⟨by omega, hlt⟩, ?_⟩, fun hge => ?_⟩
    · have hl6 : (kd g' at1).length ≤ 6 := hkx.1
      have hr := hkx.2 (rdx (0 : Int) (kd g' at1) (j : Int)) (rdx_mem (by omega) (show (j : Int) < ((kd g' at1).length : Int) by omega))
      refine (ihf (rdx (0 : Int) (kd g' at1) (j : Int)) t' m hr.1 hr.2 hmk.1 hs' (by omega)).bind ?_
      rintro _ ⟨t2, rfl, hs2⟩
      rw [show w64 ((j : Int) + 1) = ((j + 1 : Nat) : Int) from w64_succ (by omega) (by omega)]
      refine ih _ _ _ _ _ _ _ ⟨rfl, rfl, rfl, rfl, hs2, j + 1, rfl, by omega, ?_⟩ (by simp only [Int.toNat_natCast]; omega)
      rw [foldl_take_succ (by omega), ← e5]
    · have hge' : (kd g' at1).length ≤ j := by omega
      have e7 : m = rch g' (f + 1) at1 met := by
        rw [e5, List.take_of_length_le hge']
        simp only [rch, if_neg hni]
      exact ⟨t', by rw [e7], by rw [← e7]; exact hs'⟩
/-- What is reached from the root. -/
def reachP (g : List PNode) (root : Int) : List Int := rch g (g.length + 1) root []
theorem reachOf_tot {g : List PNode} {root : Int} (hk : Kidly g) (hg : g.length ≤ 2000000) (h0 : 0 ≤ root) (h1 : root < (g.length : Int)) : Tot (fun σ => F_Z55 (σ 0) g root) (fun r => r = ((reachP g root, ()), ())) := by
  refine tot_Z55 ?_
  unfold B_Z55
  refine (reachOf1_tot (f := g.length + 1) (met := []) hk hg root [] h0 h1 .nil (fun x => by simp [mfind]) (by simp)).bind ?_
  rintro _ ⟨t2, rfl, _⟩
  rw [tot_some]; rfl
theorem s_reach_tot {g : List PNode} {root : Int} (hk : Kidly g) (hg : g.length ≤ 2000000) (h0 : 0 ≤ root) (h1 : root < (g.length : Int)) : Tot (fun σ => F_s_reach (σ 0) g root root []) (fun r => r = ((reachP g root, ()), ())) :=
  reach_tot hk hg (g.length + 1) root [] h0 h1 .nil (by simp)
end Go.Gx

/-
  Laws, part U2: circles: does a way lead back?
-/
set_option linter.unusedVariables false
set_option linter.unusedSimpArgs false
namespace Go.Gx
/-- Ways from a node over nodes with p. -/
inductive PReach (g : List PNode) (p : Int → Prop) (s : Int) : Int → Prop
  | kid {k : Int} : k ∈ kd g s → PReach g p s k
  | step {x k : Int} : PReach g p s x → p x → k ∈ kd g x → PReach g p s k
/-- A search: S is marked, L is still to do, E is told, D is done. -/
structure Srch (g : List PNode) (p : Int → Prop) (s : Int) (S L : List Int) (E D : Int → Prop) (c : Nat) : Prop where
  ok : MetOk g S
  reach : ∀ x ∈ S, PReach g p s x ∧ p x
  inl : ∀ x ∈ L, x = s ∨ x ∈ S
  all : ∀ x, x = s ∨ x ∈ S → x ∈ L ∨ E x
  len : L.length ≤ c + S.length
  done : ∀ x, D x → ∀ k ∈ kd g x, k ≠ s ∧ (p k → k ∈ S)
theorem Srch.none {g : List PNode} {p : Int → Prop} {s : Int} {S : List Int} {E : Int → Prop} {c : Nat} (h : Srch g p s S [] E E c) : ¬ PReach g p s s := by
  have hE : ∀ x, x = s ∨ x ∈ S → E x := fun x hx => (h.all x hx).resolve_left (by simp)
  have key : ∀ k, PReach g p s k → k ≠ s ∧ (p k → k ∈ S) := by
    intro k hk
    induction hk with
    | kid hk => exact h.done s (hE s (.inl rfl)) _ hk
    | step _ hp hk ih => exact h.done _ (hE _ (.inr (ih.2 hp))) _ hk
  exact fun hs => (key s hs).1 rfl
theorem Srch.pop {g : List PNode} {p : Int → Prop} {s x : Int} {S L : List Int} {E : Int → Prop} (h : Srch g p s S (L ++ [x]) E E 1) : Srch g p s S L (fun y => E y ∨ y = x) E 0 := by
  refine ⟨h.ok, h.reach, fun y hy => h.inl y (List.mem_append_left _ hy), fun y hy => ?_, ?_, h.done⟩
  · rcases h.all y hy with h' | h'
    · rcases List.mem_append.1 h' with h'' | h''
      · exact .inl h''
      · exact .inr (.inr (by simpa using h''))
    · exact .inr (.inl h')
  · have := h.len; simp only [List.length_append, List.length_cons, List.length_nil] at this; omega
theorem Srch.push {g : List PNode} {p : Int → Prop} {s k : Int} {S L : List Int} {E D : Int → Prop} {c : Nat} (h : Srch g p s S L E D c) (h0 : 0 ≤ k) (h1 : k < (g.length : Int)) (hk : k ∉ S) (hr : PReach g p s k) (hp : p k) : Srch g p s (S ++ [k]) (L ++ [k]) E D c := by
  refine ⟨h.ok.snoc h0 h1 hk, fun y hy => ?_, fun y hy => ?_, fun y hy => ?_, ?_, fun x hx q hq => ?_⟩
  · rcases List.mem_append.1 hy with h' | h'
    · exact h.reach y h'
    · simp at h'; subst h'; exact ⟨hr, hp⟩
  · rcases List.mem_append.1 hy with h' | h'
    · exact (h.inl y h').imp id (List.mem_append_left _)
    · exact .inr (List.mem_append_right _ h')
  · have : (y = s ∨ y ∈ S) ∨ y ∈ [k] := by
      rcases hy with h' | h'
      · exact .inl (.inl h')
      · rcases List.mem_append.1 h' with h'' | h''
        · exact .inl (.inr h'')
        · exact .inr h''
    rcases this with h' | h'
    · exact (h.all y h').imp (List.mem_append_left _) id
    · exact .inl (List.mem_append_right _ h')
  · have := h.len; simp only [List.length_append, List.length_cons, List.length_nil]; omega
  · have := h.done x hx q hq
    exact ⟨this.1, fun hq => List.mem_append_left _ (this.2 hq)⟩
theorem Srch.fin {g : List PNode} {p : Int → Prop} {s x : Int} {S L : List Int} {E : Int → Prop} (h : Srch g p s S L (fun y => E y ∨ y = x) E 0) (hx : ∀ k ∈ kd g x, k ≠ s ∧ (p k → k ∈ S)) : Srch g p s S L (fun y => E y ∨ y = x) (fun y => E y ∨ y = x) 1 :=
  ⟨h.ok, h.reach, h.inl, h.all, by have := h.len; omega, fun y hy => hy.elim (h.done y) (fun e => by subst e; exact hx)⟩
def marks (S : List Int) : List (Int × Bool) := S.map fun x => (x, true)
theorem marks_len (S : List Int) : (marks S).length = S.length := by simp [marks]
theorem mfind_marks (x : Int) : ∀ S : List Int, (mfind (marks S) x).getD false = decide (x ∈ S) := by
  intro S
  induction S with
  | nil => simp [marks, mfind]
  | cons y S ih =>
    by_cases h : y = x
    · subst h; simp [marks, mfind]
    · have e : (y == x) = false := by simpa using h
      have h' : ¬ x = y := fun e => h e.symm
      simp only [marks, List.map_cons, mfind, e, cond_false]
      simp only [List.mem_cons, h', false_or]
      exact ih
theorem mput_marks (z : Int) : ∀ S : List Int, z ∉ S → mput (marks S) z true = marks (S ++ [z]) := by
  intro S
  induction S with
  | nil => intro _; rfl
  | cons y S ih =>
    intro h
    simp only [List.mem_cons, not_or] at h
    have e : (y == z) = false := by simpa using fun e : y = z => h.1 e.symm
    have := ih h.2
    simp only [marks, List.map_cons, List.cons_append, mput, e, cond_false] at this ⊢
    rw [this]
end Go.Gx

/-
  Laws, part U2v: circles over the nodes that ValidGraph_2 takes.
-/
set_option linter.unusedVariables false
set_option linter.unusedSimpArgs false
namespace Go.Gx
theorem circles_ValidGraph_2_tot {g : List PNode} (hk : Kidly g) (hg : g.length ≤ 2000000) {s : Int} (h0 : 0 ≤ s) (h1 : s < (g.length : Int)) (p : Int → Prop) [DecidablePred p]
    (hp : ∀ x, 0 ≤ x → x < (g.length : Int) → Tot (fun σ => F_Z25 (σ 0) (nd g x).1 (nd g x).2.1 (nd g x).2.2) (fun r => r = ((decide (p x), ()), ()))) :
    Tot (fun σ => F_Z12 (σ 0) g s) (Says (PReach g p s s)) := by
  refine tot_Z12 ?_
  unfold B_Z12
  have key := loop_Z12_L3 (Q := fun _ _ _ _ r => Says (PReach g p s s) r)
    (I := fun g' s' t L => g' = g ∧ s' = s ∧ ∃ (S : List Int) (E : Int → Prop), t = marks S ∧ Srch g p s S L E E 1) (μ := fun _ _ t L => 2 * (g.length - t.length) + L.length) ?_
  · refine key g s _ _ ⟨rfl, rfl, [], fun _ => False, rfl, .nil, fun x hx => by simp at hx, fun x hx => .inl (by simpa using hx), fun x hx => .inl (by simpa using hx), by simp, fun x hx => hx.elim⟩
  intro g' s' t L ⟨e1, e2, S, E, e3, hS⟩ again3 hag3 ih3
  subst e1 e2 e3
  have hSl := hS.ok.len
  have hLl := hS.len
  unfold B_Z12_L3b
  rcases List.eq_nil_or_concat L with e | ⟨L', x, e⟩
  · subst e
    simp only [tot_cond, tot_some, decide_eq_true_eq, decide_eq_false_iff_not, len, List.length_nil]
    exact ⟨fun h => absurd h (by omega), fun _ => says_false hS.none⟩
  rw [List.concat_eq_append] at e
  subst e
  simp only [List.length_append, List.length_cons, List.length_nil] at hLl
  have hw : w64 (len (L' ++ [x]) - 1) = (L'.length : Int) := by
    simp only [len, List.length_append, List.length_cons, List.length_nil]
    rw [w64_id (by omega) (by omega)]; omega
  have hx : (L' ++ [x]).getD L'.length 0 = x := by
    rw [List.getD_eq_getElem?_getD, List.getElem?_append_right (Nat.le_refl _)]; simp
  have hxr : 0 ≤ x ∧ x < (g'.length : Int) := by
    rcases hS.inl x (by simp) with e | h
    · subst e; exact ⟨h0, h1⟩
    · exact hS.ok.2 x h
  have hxp : x = s' ∨ (PReach g' p s' x ∧ p x) := (hS.inl x (by simp)).imp id (hS.reach x)
  have hkx := hk _ (nd_mem hxr.1 hxr.2)
  simp only [hw, Int.toNat_natCast, hx, List.take_left]
  simp only [tot_cond, tot_chk, tot_some, decide_eq_true_eq, decide_eq_false_iff_not, inb_iff, len, List.length_append, List.length_cons, List.length_nil]
  refine ⟨fun _ => ⟨by omega, by omega, by simp [cutb]; try omega, hxr, ?_⟩, fun h => absurd h (by omega)⟩
  have key2 := loop_Z12_L2 hag3 (Q := fun _ _ _ _ _ _ _ r => Says (PReach g' p s' s') r)
    (I := fun g2 s2 t L ks n i => g2 = g' ∧ s2 = s' ∧ ks = kd g' x ∧ n = ((kd g' x).length : Int) ∧ ∃ (S2 : List Int) (j : Nat), t = marks S2 ∧ Srch g' p s' S2 L (fun y => E y ∨ y = x) E 0 ∧ i = j ∧ j ≤ (kd g' x).length ∧
      (∀ q, q < j → (kd g' x).getD q 0 ≠ s' ∧ (p ((kd g' x).getD q 0) → (kd g' x).getD q 0 ∈ S2)) ∧ 2 * (g'.length - S2.length) + L.length < 2 * (g'.length - S.length) + (L'.length + 1)) (μ := fun _ _ _ _ _ n i => n.toNat - i.toNat) ?_
  · exact key2 g' s' _ _ _ _ 0 ⟨rfl, rfl, rfl, rfl, S, 0, rfl, hS.pop, rfl, by omega, fun q hq => by omega, by omega⟩
  intro g2 s2 t L ks n i ⟨e1, e2, e3, e4, S2, j, e5, hS2, e6, hj, hq, hM⟩ again2 hag2 ih2
  subst e1 e2 e3 e4 e5 e6
  have hS2l := hS2.ok.len
  have hL2 := hS2.len
  unfold B_Z12_L2b
  simp only [tot_cond, tot_chk, tot_jn, decide_eq_true_eq, decide_eq_false_iff_not, inb_iff, beq_iff_eq, beq_eq_false_iff_ne, ne_eq]
  refine ⟨fun hlt => ⟨⟨by omega, hlt⟩, fun heq => ?_, fun hne => ?_⟩, fun hge => ?_⟩
  · have hm : s2 ∈ kd g2 x := by rw [← heq]; exact rdx_mem (by omega) (by omega)
    rw [tot_some]
    refine says_true ?_
    rcases hxp with e | ⟨h, h'⟩
    · rw [e] at hm; exact .kid hm
    · exact .step h h' hm
  · have hl6 : (kd g2 x).length ≤ 6 := hkx.1
    have hm : rdx (0 : Int) (kd g2 x) (j : Int) ∈ kd g2 x := rdx_mem (by omega) (by omega)
    have hgd : rdx (0 : Int) (kd g2 x) (j : Int) = (kd g2 x).getD j 0 := rfl
    generalize hkk : rdx (0 : Int) (kd g2 x) (j : Int) = k at *
    have hkr := hkx.2 k hm
    have hreach : PReach g2 p s2 k := by
      rcases hxp with e | ⟨h, h'⟩
      · rw [e] at hm; exact .kid hm
      · exact .step h h' hm
    have wj : w64 ((j : Int) + 1) = ((j + 1 : Nat) : Int) := w64_succ (by omega) (by omega)
    have stay : (p k → k ∈ S2) → Tot (fun σ => again2 σ (g2, s2, (), marks S2, L, kd g2 x, ((kd g2 x).length : Int), w64 ((j : Int) + 1), ())) (Says (PReach g2 p s2 s2)) := by
      intro hin
      rw [wj]
      refine ih2 _ _ _ _ _ _ _ ⟨rfl, rfl, rfl, rfl, S2, j + 1, rfl, hS2, rfl, by omega, fun q h => ?_, hM⟩ (by simp only [Int.toNat_natCast]; omega)
      by_cases e : q = j
      · subst e; rw [← hgd]; exact ⟨hne, hin⟩
      · exact hq q (by omega)
    refine ⟨hkr, (hp k hkr.1 hkr.2).bind ?_⟩
    rintro _ rfl
    unfold B_Z12_J0 B_Z12_J1
    simp only [tot_cond, tot_chk, tot_jn, decide_eq_true_eq, decide_eq_false_iff_not, room_iff, List.length_cons, List.length_nil, mfind_marks, Bool.not_eq_true', Bool.not_eq_false', Bool.false_eq_true, false_implies, true_and, forall_const]
    refine ⟨fun hpk => ⟨fun hni => ⟨by omega, ?_⟩, fun hin => stay fun _ => hin⟩, fun hpk => stay fun h => absurd h hpk⟩
    have hS3 := hS2.push hkr.1 hkr.2 hni hreach hpk
    have hS3l := hS3.ok.len
    simp only [List.length_append, List.length_cons, List.length_nil] at hS3l
    rw [wj, mput_marks k S2 hni]
    refine ih2 _ _ _ _ _ _ _ ⟨rfl, rfl, rfl, rfl, S2 ++ [k], j + 1, rfl, hS3, rfl, by omega, fun q h => ?_, by simp only [List.length_append, List.length_cons, List.length_nil]; omega⟩ (by simp only [Int.toNat_natCast]; omega)
    by_cases e : q = j
    · subst e; rw [← hgd]; exact ⟨hne, fun _ => by simp⟩
    · exact ⟨(hq q (by omega)).1, fun h => List.mem_append_left _ ((hq q (by omega)).2 h)⟩
  · refine ih3 _ _ _ _ ⟨rfl, rfl, S2, _, rfl, hS2.fin fun k hk => ?_⟩ (by simp only [marks_len, List.length_append, List.length_cons, List.length_nil]; omega)
    obtain ⟨q, hq1, hq2⟩ := mem_getD hk
    have := hq q (by omega)
    rw [hq2] at this
    exact this
end Go.Gx

/-
  Laws, part U3: the program's nodes that are valid.
-/
set_option linter.unusedVariables false
set_option linter.unusedSimpArgs false
namespace Go.Gx
theorem subU {α : Type} {l : List α} {n : Nat} : sub l 0 (n : Int) = l.take n := by simp [sub]
theorem getD_take {l : List Int} {i n : Nat} (h : i < n) : (l.take n).getD i 0 = l.getD i 0 := by
  rw [List.getD_eq_getElem?_getD, List.getD_eq_getElem?_getD, List.getElem?_take, if_pos h]
theorem findKeyG_tot {g : List PNode} {kids : List Int} (h : InR g kids) (hl : kids.length ≤ 2000000) (key : PNode) :
    Tot (fun σ => F_Z49 (σ 0) g kids key.1 key.2.1) (fun r => ∃ v : Int, r = ((v, ()), ()) ∧ (0 ≤ v ↔ ∃ i, i < kids.length ∧ i % 2 = 0 ∧ sameP key (nd g (kids.getD i 0)))) := by
  refine tot_Z49 ?_
  unfold B_Z49
  have keyy := loop_Z49_L1 (Q := fun _ _ _ _ _ r => ∃ v : Int, r = ((v, ()), ()) ∧ (0 ≤ v ↔ ∃ i, i < kids.length ∧ i % 2 = 0 ∧ sameP key (nd g (kids.getD i 0))))
    (I := fun N' kids' a b i => N' = g ∧ kids' = kids ∧ a = key.1 ∧ b = key.2.1 ∧ ∃ j : Nat, i = (j : Int) ∧ j ≤ kids.length + 1 ∧ j % 2 = 0 ∧ ∀ q, q < j → q % 2 = 0 → q < kids.length → ¬ sameP key (nd g (kids.getD q 0))) (μ := fun _ _ _ _ i => (kids.length + 2 - i).toNat) ?_
  · exact keyy g kids key.1 key.2.1 0 ⟨rfl, rfl, rfl, rfl, 0, rfl, by omega, rfl, fun q hq => by omega⟩
  intro N' kids' a b i ⟨e1, e2, e3, e4, j, e5, hj, hj2, hq⟩ again hag ih
  subst e1 e2 e3 e4 e5
  unfold B_Z49_L1b B_Z49_J0
  have hrd : rdx (0 : Int) kids' (j : Int) = kids'.getD j 0 := by rw [rdx_eq, Int.toNat_natCast]
  simp only [hrd]
  simp only [tot_cond, tot_chk, tot_jn, tot_some, decide_eq_true_eq, decide_eq_false_iff_not, inb_iff, len, beq_iff_eq, beq_eq_false_iff_ne, ne_eq, Bool.false_eq_true, false_implies, true_and, forall_const]
  refine ⟨fun hlt => ?_, fun hge => ?_⟩
  · have hj' : j < kids'.length := by omega
    have hr := h.get hj'
    have next : ¬ sameP key (nd N' (kids'.getD j 0)) → Tot (fun s => again s (N', kids', (key.1, key.2.1, (), ()), w64 ((j : Int) + 2), ())) (fun r => ∃ v : Int, r = ((v, ()), ()) ∧ (0 ≤ v ↔ ∃ i, i < kids'.length ∧ i % 2 = 0 ∧ sameP key (nd N' (kids'.getD i 0)))) := by
      intro hn
      rw [w64_succ (by omega) (by omega)]
      refine ih _ _ _ _ _ ⟨rfl, rfl, rfl, rfl, j + 2, rfl, by omega, by omega, fun q h1 h2 h3 => ?_⟩ (by simp; omega)
      by_cases e : q = j
      · subst e; exact hn
      · exact hq q (by omega) h2 h3
    refine ⟨by omega, hr, fun hk => ⟨fun hv => ?_, fun hv => next fun hs => hv hs.2.symm⟩, fun hk => next fun hs => hk hs.1.symm⟩
    exact ⟨_, rfl, fun _ => ⟨j, hj', hj2, hk.symm, hv.symm⟩, fun _ => by omega⟩
  · refine ⟨_, rfl, fun h => by omega, fun ⟨i, h1, h2, h3⟩ => absurd h3 (hq i (by omega) h2 h1)⟩
theorem contains1_tot {s : List Int} (hs : s.length ≤ 400000000) (n : Int) :
    Tot (fun σ => F_Z0 (σ 0) s n) (fun r => ∃ b : Bool, r = ((b, ()), ((n, ()), ())) ∧ (b = true ↔ ∃ k ∈ s, ¬ (0 ≤ k ∧ k < n))) := by
  refine tot_Z0 ?_
  unfold B_Z0
  have idx : Tot (fun σ => F_Z1 (σ 0) s n) (fun r => ∃ i : Int, r = ((i, ()), ((n, ()), ())) ∧ (0 ≤ i ↔ ∃ k ∈ s, ¬ (0 ≤ k ∧ k < n))) := by
    refine tot_Z1 ?_
    unfold B_Z1
    have key := loop_Z1_L0 (Q := fun _ _ _ _ r => ∃ i : Int, r = ((i, ()), ((n, ()), ())) ∧ (0 ≤ i ↔ ∃ k ∈ s, ¬ (0 ≤ k ∧ k < n)))
      (I := fun s' n' t7 t8 => s' = s ∧ n' = n ∧ t7 = (s.length : Int) ∧ ∃ j : Nat, t8 = (j : Int) ∧ j ≤ s.length ∧ ∀ i, i < j → (0 ≤ s.getD i 0 ∧ s.getD i 0 < n)) (μ := fun _ _ _ t8 => (s.length - t8).toNat) ?_
    · exact key _ _ _ 0 ⟨rfl, rfl, rfl, 0, rfl, Nat.zero_le _, fun i hi => absurd hi (Nat.not_lt_zero _)⟩
    intro s' n' t7 t8 ⟨e1, e2, e3, j, e7, hj, hin⟩ again hag ih
    subst e1 e2 e3 e7
    unfold B_Z1_L0b
    have hrd : rdx (0 : Int) s' (j : Int) = s'.getD j 0 := by rw [rdx_eq, Int.toNat_natCast]
    rw [tot_cond]
    refine ⟨fun hlt => tot_chk.2 ⟨inb_iff.2 (by have := of_decide_eq_true hlt; omega), ?_⟩, fun hge => tot_some.2 ?_⟩
    · have hlt := of_decide_eq_true hlt
      rw [hrd]
      have one : Tot (fun σ => F_Z23 (σ 0) (s'.getD j 0) n') (fun r => r = ((decide (¬ (0 ≤ s'.getD j 0 ∧ s'.getD j 0 < n')), ()), ((n', ()), ()))) := by
        refine tot_Z23 ?_
        unfold B_Z23
        simp only [tot_cond, tot_some, decide_eq_true_eq, decide_eq_false_iff_not]
        refine ⟨fun h => ?_, fun h => ?_⟩
        · have : ¬ (0 ≤ s'.getD j 0 ∧ s'.getD j 0 < n') := fun hc => by omega
          simp only [this, not_false_eq_true, decide_true]
        · have : (s'.getD j 0 ≥ n') ↔ ¬ (0 ≤ s'.getD j 0 ∧ s'.getD j 0 < n') := by omega
          rw [decide_eq_decide.2 this]
      refine one.bind ?_
      rintro _ rfl
      simp only [tot_cond, tot_some, decide_eq_true_eq, decide_eq_false_iff_not]
      refine ⟨fun hn => ⟨(j : Int), rfl, fun _ => ⟨_, getDm (by omega), hn⟩, fun _ => by omega⟩, fun hm => ?_⟩
      rw [w64_succ (by omega) (by omega)]
      refine ih _ _ _ _ ⟨rfl, rfl, rfl, j + 1, rfl, by omega, fun i hi => ?_⟩ (by simp; omega)
      by_cases e : i = j
      · subst e; exact Decidable.not_not.1 hm
      · exact hin i (by omega)
    · have hge := of_decide_eq_false hge
      refine ⟨-1, rfl, fun h => by omega, fun ⟨c, hcs, hn⟩ => ?_⟩
      obtain ⟨i, hi, e⟩ := mem_getD hcs
      exact absurd (e ▸ hin i (by omega)) hn
  refine idx.bind ?_
  rintro _ ⟨i, rfl, hi⟩
  rw [tot_some]
  exact ⟨_, rfl, by rw [decide_eq_true_eq]; exact hi⟩
theorem nodeOk_tot {g : List PNode} (hg : g.length ≤ 2000000) (n : PNode) (h6 : n.2.2.length ≤ 6) (hin : InR g n.2.2) : Tot (fun σ => F_i_nodeOk (σ 0) g n.1 n.2.1 n.2.2) (Says (NodeOk g n)) := by
  obtain ⟨k, v, kids⟩ := n
  have h6 : kids.length ≤ 6 := h6
  have hin : InR g kids := hin
  refine tot_i_nodeOk ?_
  unfold B_i_nodeOk
  have fin : ∀ (b : Bool), ((if k = 0 then 0 ≤ v ∧ v ≤ 999 ∧ kids = [] else if k = 1 then 0 ≤ v ∧ v ≤ 9 ∧ kids = [] else if k = 2 ∨ k = 3 then v = 0 else if k = 4 then v = 0 ∧ DictOk g kids else if k = 5 then 0 ≤ v ∧ v ≤ 9 ∧ kids.length ≤ 1 else False) ↔ b = true) → Says (NodeOk g (k, v, kids)) ((b, ()), ()) := by
    intro b hb
    refine ⟨b, rfl, ?_⟩
    unfold NodeOk
    simp only [h6, hin, true_and]
    exact hb.symm
  have hlen : (len kids == 0) = decide (kids = []) := by
    rw [Bool.eq_iff_iff]; simp [len]
  have dict : k = 4 → Tot (fun σ => B_i_nodeOk_L2 (σ 0) (F_Z49 (σ 0)) (σ 0) (g, (k, v, kids, ()), 0, ())) (Says (NodeOk g (k, v, kids))) := by
    intro hk4
    have key := loop_i_nodeOk_L2 (Q := fun _ _ _ _ _ r => Says (NodeOk g (k, v, kids)) r) (I := fun g' k' v' kids' i => g' = g ∧ k' = k ∧ v' = v ∧ kids' = kids ∧ ∃ j : Nat, i = j ∧ j ≤ kids.length + 1 ∧ j % 2 = 0 ∧
      ∀ q, q < j → q % 2 = 0 → q < kids.length → isKeyP (nd g (kids.getD q 0)) ∧ ∀ p, p < q → p % 2 = 0 → ¬ sameP (nd g (kids.getD q 0)) (nd g (kids.getD p 0))) (μ := fun _ _ _ _ i => (kids.length + 2 - i).toNat) ?_
    · exact key g k v kids 0 ⟨rfl, rfl, rfl, rfl, 0, rfl, by omega, rfl, fun q hq => by omega⟩
    intro g' k' v' kids' i ⟨e1, e2, e3, e4, j, e5, hj, hj2, hq⟩ again hag ih
    subst e1 e2 e3 e4 e5
    have bad : ¬ DictOk g' kids' → Says (NodeOk g' (k', v', kids')) ((false, ()), ()) := fun hd => fin false (by rw [hk4]; simp [hd])
    unfold B_i_nodeOk_L2b B_i_nodeOk_J1
    have hrd : rdx (0 : Int) kids' (j : Int) = kids'.getD j 0 := by rw [rdx_eq, Int.toNat_natCast]
    simp only [hrd, subU]
    simp only [tot_cond, tot_chk, tot_jn, tot_some, decide_eq_true_eq, decide_eq_false_iff_not, inb_iff, cutb_iff, len, beq_iff_eq, beq_eq_false_iff_ne, ne_eq, Bool.true_eq_false, false_implies, and_true, true_implies]
    refine ⟨fun hlt => ?_, fun hge => ?_⟩
    · have hj' : j < kids'.length := by omega
      have hr := hin.get hj'
      refine ⟨by omega, hr, fun hgt => bad fun hd => ?_, fun hle => ⟨fun hneg => bad fun hd => ?_, fun hnn => ⟨by omega, ?_⟩⟩⟩
      · have := (hd.1 j hj' hj2).1
        have hgt : (nd g' (kids'.getD j 0)).1 > 1 := hgt
        rcases this with h | h <;> omega
      · have := (hd.1 j hj' hj2).1
        have hneg : (nd g' (kids'.getD j 0)).1 < 0 := hneg
        rcases this with h | h <;> omega
      · have hkey : isKeyP (nd g' (kids'.getD j 0)) := by
          have h1 : ¬ (nd g' (kids'.getD j 0)).1 > 1 := hle
          have h2 : ¬ (nd g' (kids'.getD j 0)).1 < 0 := hnn
          unfold isKeyP; omega
        refine (findKeyG_tot (g := g') (kids := kids'.take j) (inR_take hin j) (by rw [List.length_take]; omega) (nd g' (kids'.getD j 0))).bind ?_
        rintro _ ⟨w, rfl, hw⟩
        simp only [tot_cond, tot_jn, tot_some, decide_eq_true_eq, decide_eq_false_iff_not, ge_iff_le]
        have hlt2 : (kids'.take j).length = j := by rw [List.length_take]; omega
        refine ⟨fun hge => bad fun hd => ?_, fun hlt3 => ?_⟩
        · obtain ⟨i, h1, h2, h3⟩ := hw.1 hge
          rw [getD_take (by omega)] at h3
          exact (hd.1 j hj' hj2).2 i (by omega) h2 h3
        · rw [w64_succ (by omega) (by omega)]
          refine ih _ _ _ _ _ ⟨rfl, rfl, rfl, rfl, j + 2, rfl, by omega, by omega, fun q h1 h2 h3 => ?_⟩ (by simp; omega)
          by_cases e : q = j
          · subst e
            refine ⟨hkey, fun p hp hp2 hs => hlt3 (hw.2 ⟨p, by omega, hp2, ?_⟩)⟩
            rw [getD_take hp]; exact hs
          · exact hq q (by omega) h2 h3
    · have hd : DictOk g' kids' ↔ kids'.length % 2 = 0 := ⟨fun h => h.2, fun h => ⟨fun i hi hi2 => hq i (by omega) hi2 hi, h⟩⟩
      refine ⟨fun hv => fin _ ?_, fun hv => fin _ ?_⟩
      · rw [hk4]
        simp only [hd, hv, true_and, Int.reduceEq, if_false, or_self, if_true]
        rw [Int.tmod_eq_emod_of_nonneg (by omega), beq_iff_eq]; omega
      · rw [hk4]; simp [hv]
  simp only [tot_cond, tot_jn, tot_some, beq_iff_eq, beq_eq_false_iff_ne, ne_eq, decide_eq_true_eq, decide_eq_false_iff_not, ge_iff_le]
  have j0 : k ≠ 0 → k ≠ 1 → ∀ b : Bool, (b = true ↔ k = 2 ∨ k = 3) → Tot (fun σ => B_i_nodeOk_J0 (σ 0) (F_Z49 (σ 0)) g k v kids k b) (Says (NodeOk g (k, v, kids))) := by
    intro n0 n1 b hb
    unfold B_i_nodeOk_J0
    simp only [tot_cond, tot_jn, tot_some, beq_iff_eq, beq_eq_false_iff_ne, ne_eq, decide_eq_true_eq, decide_eq_false_iff_not, ge_iff_le]
    refine ⟨fun ht => fin _ ?_, fun hf => ?_⟩
    · rw [if_neg n0, if_neg n1, if_pos (hb.1 ht), beq_iff_eq]
    have n23 : ¬ (k = 2 ∨ k = 3) := fun h => by rw [hb.2 h] at hf; cases hf
    refine ⟨fun h5 => ?_, fun h5 => ⟨fun h4 => dict h4, fun h4 => fin _ (by rw [if_neg n0, if_neg n1, if_neg n23, if_neg h4, if_neg h5]; simp)⟩⟩
    have n4 : ¬ k = 4 := by omega
    refine ⟨fun a => ⟨fun b => fin _ ?_, fun b => fin _ ?_⟩, fun a => fin _ ?_⟩ <;> rw [if_neg n0, if_neg n1, if_neg n23, if_neg n4, if_pos h5]
    · simp only [len, decide_eq_true_eq]; omega
    · simp; omega
    · simp; omega
  refine ⟨fun h0 => ⟨fun a => ⟨fun b => fin _ ?_, fun b => fin _ ?_⟩, fun a => fin _ ?_⟩, fun h0 => ⟨fun h1 => ⟨fun a => ⟨fun b => fin _ ?_, fun b => fin _ ?_⟩, fun a => fin _ ?_⟩, fun h1 => ⟨fun h2 => j0 h0 h1 _ (by simp [h2]), fun h2 => j0 h0 h1 _ (by simp [h2])⟩⟩⟩
  · rw [if_pos h0, hlen, decide_eq_true_eq]; exact ⟨fun h => h.2.2, fun h => ⟨a, b, h⟩⟩
  · rw [if_pos h0]; exact ⟨fun h => absurd h.2.1 b, fun h => by cases h⟩
  · rw [if_pos h0]; exact ⟨fun h => absurd h.1 a, fun h => by cases h⟩
  · rw [if_neg h0, if_pos h1, hlen, decide_eq_true_eq]; exact ⟨fun h => h.2.2, fun h => ⟨a, b, h⟩⟩
  · rw [if_neg h0, if_pos h1]; exact ⟨fun h => absurd h.2.1 b, fun h => by cases h⟩
  · rw [if_neg h0, if_pos h1]; exact ⟨fun h => absurd h.1 a, fun h => by cases h⟩
end Go.Gx

/-
  Laws, part 9: graphs that are drawn.
-/
set_option linter.unusedVariables false
set_option linter.unusedSimpArgs false
namespace Go.Gx
theorem NodeOk.kidly {g : List PNode} {n : PNode} (h : NodeOk g n) : n.2.2.length ≤ 6 ∧ InR g n.2.2 := ⟨h.1, h.2.1⟩
theorem validGraph_tot {g : List PNode} {root : Int} (hg : g.length ≤ 2000000) (hk : ∀ n ∈ g, n.2.2.length ≤ 2000000) : Tot (fun σ => F_Z30 (σ 0) g root) (Says (ValidG g root)) := by
  refine tot_Z30 ?_
  unfold B_Z30
  refine (inRange_tot' (len g) 1 12).bind ?_
  rintro _ rfl
  have j0 : ∀ b : Bool, (b = false ↔ 1 ≤ g.length ∧ g.length ≤ 12 ∧ 0 ≤ root ∧ root < (g.length : Int)) → Tot (fun σ => B_Z30_J0 (σ 0) (F_Z53 (σ 0)) (F_Z36 (σ 0)) (F_Z32 (σ 0)) (F_Z54 (σ 0)) g root b) (Says (ValidG g root)) := by
    intro b hb
    unfold B_Z30_J0
    rw [tot_cond]
    refine ⟨fun ht => ?_, fun hf => ?_⟩
    · rw [tot_some]
      refine says_false fun h => ?_
      have := hb.2 ⟨h.pos, h.most, h.root⟩
      rw [ht] at this
      cases this
    obtain ⟨p1, p2, p3⟩ := hb.1 hf
    have key := loop_Z30_L1 (Q := fun _ _ _ r => Says (ValidG g root) r) (I := fun g' r' i => g' = g ∧ r' = root ∧ ∃ j : Nat, i = j ∧ j ≤ g.length ∧ ∀ q : Nat, q < j → NodeOk g (nd g q)) (μ := fun _ _ i => (g.length - i).toNat) ?_
    · exact key g root 0 ⟨rfl, rfl, 0, rfl, by omega, fun q hq => by omega⟩
    intro g' r' i ⟨e1, e2, j, e3, hj, hq⟩ again hag ih
    subst e1 e2 e3
    unfold B_Z30_L1b
    simp only [tot_cond, tot_chk, tot_some, decide_eq_true_eq, decide_eq_false_iff_not, len, inb_iff]
    refine ⟨fun hlt => ⟨by omega, ?_⟩, fun hge => ?_⟩
    · have hm : nd g' (j : Int) ∈ g' := nd_mem (by omega) hlt
      refine (validNode_tot hg (nd g' (j : Int)) (hk _ hm)).bind ?_
      rintro _ ⟨b2, rfl, hb2⟩
      simp only [tot_cond, tot_some, Bool.not_eq_true', Bool.not_eq_false']
      refine ⟨fun hf2 => says_false fun h => ?_, fun ht2 => ?_⟩
      · have := hb2.2 (h.node _ hm); rw [hf2] at this; cases this
      · rw [w64_succ (by omega) (by omega)]
        refine ih _ _ _ ⟨rfl, rfl, j + 1, rfl, by omega, fun q h => ?_⟩ (by simp; omega)
        by_cases e : q = j
        · subst e; exact hb2.1 ht2
        · exact hq q (by omega)
    · have hnode : ∀ n ∈ g', NodeOk g' n := by
        intro n hn
        obtain ⟨i, hi, e⟩ := List.getElem_of_mem hn
        have := hq i (by omega)
        rw [nd, rdx_eq, Int.toNat_natCast, List.getD_eq_getElem?_getD, List.getElem?_eq_getElem hi, Option.getD_some, e] at this
        exact this
      have hkid : Kidly g' := fun n hn => (hnode n hn).kidly
      have key2 := loop_Z30_L3 (Q := fun _ _ _ r => Says (ValidG g' r') r) (I := fun g2 r2 i => g2 = g' ∧ r2 = r' ∧ ∃ j : Nat, i = j ∧ j ≤ g'.length ∧ ∀ q : Nat, q < j → (nd g' q).1 = 2 → ¬ TReach g' q q) (μ := fun _ _ i => (g'.length - i).toNat) ?_
      · exact key2 g' r' 0 ⟨rfl, rfl, 0, rfl, by omega, fun q hq => by omega⟩
      intro g2 r2 i ⟨e1, e2, m, e3, hm, ht⟩ again2 hag2 ih2
      subst e1 e2 e3
      unfold B_Z30_L3b B_Z30_J2
      have next : ¬ ((nd g2 (m : Int)).1 = 2 ∧ TReach g2 m m) → (m : Int) < g2.length → Tot (fun σ => again2 σ ((g2, r2, ()), w64 ((m : Int) + 1), ())) (Says (ValidG g2 r2)) := by
        intro hn hlt
        rw [w64_succ (by omega) (by omega)]
        refine ih2 _ _ _ ⟨rfl, rfl, m + 1, rfl, by omega, fun q h h2 => ?_⟩ (by simp; omega)
        by_cases e : q = m
        · subst e; exact fun h3 => hn ⟨h2, h3⟩
        · exact ht q (by omega) h2
      simp only [tot_cond, tot_chk, tot_jn, tot_some, decide_eq_true_eq, decide_eq_false_iff_not, len, inb_iff, beq_iff_eq, beq_eq_false_iff_ne, ne_eq]
      refine ⟨fun hlt => ⟨by omega, fun h2 => ?_, fun h2 => ⟨fun h => absurd h (by decide), fun _ => next (fun h => h2 h.1) hlt⟩⟩, fun hge => says_true ⟨p1, p2, p3, hnode, fun i hi => ht i (by omega)⟩⟩
      refine (tupleReach_tot hkid hg (by omega) hlt).bind ?_
      rintro _ ⟨out, rfl, ho, hnd, hol⟩
      refine (placeIn_tot (by simp only []; omega) _).bind ?_
      rintro _ ⟨v, rfl, hv⟩
      simp only [tot_cond, tot_jn, tot_some, decide_eq_true_eq, decide_eq_false_iff_not]
      refine ⟨fun hpos => says_false fun h => ?_, fun hneg => next (fun h => ?_) hlt⟩
      · refine h.tup m (by omega) h2 ((ho _).1 ?_)
        rcases hv with ⟨e, _⟩ | ⟨i, e, hi, he, _⟩
        · omega
        · rw [← he, List.getD_eq_getElem?_getD, List.getElem?_eq_getElem hi]; exact List.getElem_mem _
      · rcases hv with ⟨_, hno⟩ | ⟨i, e, _⟩
        · exact hno ((ho _).2 h.2)
        · omega
  simp only [tot_cond, tot_jn, Bool.not_eq_true', Bool.not_eq_false', decide_eq_true_eq, decide_eq_false_iff_not, len]
  refine ⟨fun h => j0 true ⟨fun h' => Bool.noConfusion h', fun h' => by omega⟩, fun h => ?_⟩
  rw [show w64 ((g.length : Int) - 1) = (g.length : Int) - 1 from w64_id (by omega) (by omega)]
  refine (inRange_tot' root 0 _).bind ?_
  rintro _ rfl
  rw [tot_jn]
  refine j0 _ ?_
  rw [Bool.not_eq_false', decide_eq_true_eq]
  omega
end Go.Gx

/-
  Laws, part U4: the program's ValidGraph.
-/
set_option linter.unusedVariables false
set_option linter.unusedSimpArgs false
namespace Go.Gx
theorem pReach_iff {g : List PNode} {s x : Int} : PReach g (fun x => (nd g x).1 = 2) s x ↔ TReach g s x := by
  constructor
  · intro h
    induction h with
    | kid h => exact .kid h
    | step _ hp hk ih => exact .step ih hp hk
  · intro h
    induction h with
    | kid h => exact .kid h
    | step _ hp hk ih => exact .step ih hp hk
theorem circlesV_tot {g : List PNode} (hk : Kidly g) (hg : g.length ≤ 2000000) {s : Int} (h0 : 0 ≤ s) (h1 : s < (g.length : Int)) : Tot (fun σ => F_Z12 (σ 0) g s) (Says (TReach g s s)) := by
  refine (circles_ValidGraph_2_tot hk hg h0 h1 (fun x => (nd g x).1 = 2) fun x _ _ => ?_).mono fun r ⟨b, e, h⟩ => ⟨b, e, h.trans pReach_iff⟩
  refine tot_Z25 ?_
  unfold B_Z25
  rw [tot_some]
  have : ((nd g x).1 == 2) = decide ((nd g x).1 = 2) := by rw [Bool.eq_iff_iff]; simp
  rw [this]
theorem i_ValidGraph_big {g : List PNode} {root : Int} (hg : g.length ≤ 2000000) (hkk : ∀ n ∈ g, n.2.2.length ≤ 400000000) : Tot (fun σ => F_Z28 (σ 0) g root) (Says (ValidG g root)) := by
  refine tot_Z28 ?_
  unfold B_Z28
  have st5 : 1 ≤ g.length → g.length ≤ 12 → (0 ≤ root ∧ root < (g.length : Int)) → (∀ n ∈ g, NodeOk g n) →
      Tot (fun σ => B_Z28_L5 (σ 0) (F_Z0 (σ 0)) (F_i_nodeOk (σ 0)) (F_Z12 (σ 0)) (σ 0) ((g, root, ()), len g, 0, ())) (Says (ValidG g root)) := by
    intro a1 a2 a3 hn
    have key := loop_Z28_L5 (Q := fun _ _ _ _ r => Says (ValidG g root) r) (I := fun g' r' n i => g' = g ∧ r' = root ∧ n = (g.length : Int) ∧ ∃ j : Nat, i = j ∧ j ≤ g.length ∧ ∀ q : Nat, q < j → (nd g q).1 = 2 → ¬ TReach g q q) (μ := fun _ _ _ i => g.length - i.toNat) ?_
    · exact key g root _ 0 ⟨rfl, rfl, rfl, 0, rfl, by omega, fun q hq => by omega⟩
    intro g' r' n i ⟨e1, e2, e3, j, e4, hj, hq⟩ again hag ih
    subst e1 e2 e3 e4
    unfold B_Z28_L5b B_Z28_J4
    simp only [tot_cond, tot_chk, tot_jn, tot_some, decide_eq_true_eq, decide_eq_false_iff_not, inb_iff, beq_iff_eq, beq_eq_false_iff_ne, ne_eq, Bool.false_eq_true, false_implies, true_and, forall_const]
    have next : ((nd g' (j : Int)).1 = 2 → ¬ TReach g' j j) → j < g'.length → Tot (fun s => again s ((g', r', ()), (g'.length : Int), w64 ((j : Int) + 1), ())) (Says (ValidG g' r')) := by
      intro hn2 hlt
      rw [w64_succ (by omega) (by omega)]
      refine ih _ _ _ _ ⟨rfl, rfl, rfl, j + 1, rfl, by omega, fun q h => ?_⟩ (by simp; omega)
      by_cases e : q = j
      · subst e; exact hn2
      · exact hq q (by omega)
    refine ⟨fun hlt => ⟨⟨by omega, hlt⟩, fun h2 => ?_, fun h2 => next (fun h => absurd h h2) (by omega)⟩, fun hge => says_true ⟨a1, a2, a3, hn, fun i hi => hq i (by omega)⟩⟩
    refine (circlesV_tot (fun n hn' => (hn n hn').kidly) hg (s := (j : Int)) (by omega) hlt).bind ?_
    rintro _ ⟨b, rfl, hb⟩
    simp only [tot_cond, tot_jn, tot_some]
    refine ⟨fun ht => says_false fun hv => hv.tup j (by omega) h2 (hb.1 ht), fun hf => next (fun _ hr => ?_) (by omega)⟩
    rw [hb.2 hr] at hf; cases hf
  have st3 : 1 ≤ g.length → g.length ≤ 12 → (0 ≤ root ∧ root < (g.length : Int)) → Kidly g →
      Tot (fun σ => B_Z28_L3 (σ 0) (F_Z0 (σ 0)) (F_i_nodeOk (σ 0)) (F_Z12 (σ 0)) (σ 0) ((g, root, ()), g, len g, 0, ())) (Says (ValidG g root)) := by
    intro a1 a2 a3 hk
    have key := loop_Z28_L3 (Q := fun _ _ _ _ _ r => Says (ValidG g root) r) (I := fun g' r' l n i => g' = g ∧ r' = root ∧ l = g ∧ n = (g.length : Int) ∧ ∃ j : Nat, i = j ∧ j ≤ g.length ∧ ∀ q : Nat, q < j → NodeOk g (nd g q)) (μ := fun _ _ _ _ i => g.length - i.toNat) ?_
    · exact key g root _ _ 0 ⟨rfl, rfl, rfl, rfl, 0, rfl, by omega, fun q hq => by omega⟩
    intro g' r' l n i ⟨e1, e2, e3, e4, j, e5, hj, hq⟩ again hag ih
    subst e1 e2 e3 e4 e5
    unfold B_Z28_L3b
    simp only [tot_cond, tot_chk, tot_jn, tot_some, decide_eq_true_eq, decide_eq_false_iff_not, inb_iff]
    refine ⟨fun hlt => ⟨⟨by omega, hlt⟩, ?_⟩, fun hge => st5 a1 a2 a3 fun n hn => ?_⟩
    · have hm := nd_mem (g := l) (i := (j : Int)) (by omega) hlt
      have hkj := hk _ hm
      refine (nodeOk_tot hg (nd l (j : Int)) hkj.1 hkj.2).bind ?_
      rintro _ ⟨b, rfl, hb⟩
      simp only [tot_cond, tot_some, Bool.not_eq_true', Bool.not_eq_false']
      refine ⟨fun hf => says_false fun hv => ?_, fun ht => ?_⟩
      · rw [hb.2 (hv.node _ hm)] at hf; cases hf
      · rw [w64_succ (by omega) (by omega)]
        refine ih _ _ _ _ _ ⟨rfl, rfl, rfl, rfl, j + 1, rfl, by omega, fun q h => ?_⟩ (by simp; omega)
        by_cases e : q = j
        · subst e; exact hb.1 ht
        · exact hq q (by omega)
    · obtain ⟨q, hq1, hq2⟩ := List.getElem_of_mem hn
      have := hq q (by omega)
      have e : nd l (q : Int) = n := by
        show l.getD (Int.toNat (q : Int)) _ = n
        rw [Int.toNat_natCast, List.getD_eq_getElem?_getD, List.getElem?_eq_getElem hq1]; exact hq2
      rw [e] at this; exact this
  have st2 : 1 ≤ g.length → g.length ≤ 12 → (0 ≤ root ∧ root < (g.length : Int)) →
      Tot (fun σ => B_Z28_L2 (σ 0) (F_Z0 (σ 0)) (F_i_nodeOk (σ 0)) (F_Z12 (σ 0)) (σ 0) ((g, root, ()), (len g, ()), g, len g, 0, ())) (Says (ValidG g root)) := by
    intro a1 a2 a3
    have key := loop_Z28_L2 (Q := fun _ _ _ _ _ _ r => Says (ValidG g root) r) (I := fun g' r' m l n i => g' = g ∧ r' = root ∧ m = (g.length : Int) ∧ l = g ∧ n = (g.length : Int) ∧ ∃ j : Nat, i = j ∧ j ≤ g.length ∧ ∀ q : Nat, q < j → (nd g q).2.2.length ≤ 6 ∧ InR g (nd g q).2.2) (μ := fun _ _ _ _ _ i => g.length - i.toNat) ?_
    · exact key g root _ _ _ 0 ⟨rfl, rfl, rfl, rfl, rfl, 0, rfl, by omega, fun q hq => by omega⟩
    intro g' r' m l n i ⟨e1, e2, e6, e3, e4, j, e5, hj, hq⟩ again hag ih
    subst e1 e2 e3 e4 e5 e6
    unfold B_Z28_L2b B_Z28_J1
    simp only [tot_cond, tot_chk, tot_jn, tot_some, decide_eq_true_eq, decide_eq_false_iff_not, inb_iff, Bool.true_eq_false, false_implies, and_true, true_implies]
    refine ⟨fun hlt => ⟨⟨by omega, hlt⟩, fun h6 => says_false fun hv => ?_, fun h6 => ?_⟩, fun hge => st3 a1 a2 a3 fun n hn => ?_⟩
    · have := (hv.node _ (nd_mem (g := l) (i := (j : Int)) (by omega) hlt)).1
      have h6 : ((nd l (j : Int)).2.2.length : Int) > 6 := h6
      omega
    · have hm := nd_mem (g := l) (i := (j : Int)) (by omega) hlt
      have h6 : ¬ ((nd l (j : Int)).2.2.length : Int) > 6 := h6
      refine (contains1_tot (s := (nd l (j : Int)).2.2) (hkk _ hm) (l.length : Int)).bind ?_
      rintro _ ⟨b, rfl, hb⟩
      simp only [tot_cond, tot_jn, tot_some]
      refine ⟨fun ht => says_false fun hv => ?_, fun hf => ?_⟩
      · obtain ⟨k, hk1, hk2⟩ := hb.1 ht
        exact hk2 ((hv.node _ hm).2.1 k hk1)
      · rw [w64_succ (by omega) (by omega)]
        refine ih _ _ _ _ _ _ ⟨rfl, rfl, rfl, rfl, rfl, j + 1, rfl, by omega, fun q h => ?_⟩ (by simp; omega)
        by_cases e : q = j
        · subst e
          refine ⟨by omega, fun k hk1 => ?_⟩
          by_cases hc : 0 ≤ k ∧ k < (l.length : Int)
          · exact hc
          · rw [hb.2 ⟨k, hk1, hc⟩] at hf; cases hf
        · exact hq q (by omega)
    · obtain ⟨q, hq1, hq2⟩ := List.getElem_of_mem hn
      have := hq q (by omega)
      have e : nd l (q : Int) = n := by
        show l.getD (Int.toNat (q : Int)) _ = n
        rw [Int.toNat_natCast, List.getD_eq_getElem?_getD, List.getElem?_eq_getElem hq1]; exact hq2
      rw [e] at this; exact this
  unfold B_Z28_J0
  simp only [tot_cond, tot_jn, tot_some, decide_eq_true_eq, decide_eq_false_iff_not, Bool.true_eq_false, false_implies, and_true, true_implies, len, forall_const, imp_false, not_true_eq_false]
  refine ⟨fun h => says_false fun hv => by have := hv.pos; omega, fun h1 => ⟨fun h => says_false fun hv => by have := hv.most; omega, fun h2 => ⟨fun h => says_false fun hv => by have := hv.root; omega, fun h3 => ⟨fun h => says_false fun hv => by have := hv.root; omega, fun h4 => st2 (by omega) (by omega) ⟨by omega, by omega⟩⟩⟩⟩⟩
theorem i_ValidGraph_tot {g : List PNode} {root : Int} (hg : g.length ≤ 2000000) (hkk : ∀ n ∈ g, n.2.2.length ≤ 2000000) : Tot (fun σ => F_Z28 (σ 0) g root) (Says (ValidG g root)) :=
  i_ValidGraph_big hg fun n hn => by have := hkk n hn; omega
end Go.Gx

/-
  Laws, part U5: how often nodes are used.
-/
set_option linter.unusedVariables false
set_option linter.unusedSimpArgs false
namespace Go.Gx
structure UOk (n : Nat) (u : List Int) (c : Nat) : Prop where
  len : u.length = n
  val : ∀ i, 0 ≤ u.getD i 0 ∧ u.getD i 0 ≤ (c : Int)
theorem UOk.mono {n c d : Nat} {u : List Int} (h : UOk n u c) (hd : c ≤ d) : UOk n u d := ⟨h.len, fun i => by have := h.val i; omega⟩
theorem UOk.first {n : Nat} (root : Int) : UOk n ((List.replicate n (0 : Int)).set root.toNat 1) 1 := by
  refine ⟨by simp, fun i => ?_⟩
  rw [List.getD_eq_getElem?_getD, List.getElem?_set]
  have hz : ∀ j : Nat, (List.replicate n (0 : Int))[j]?.getD 0 = 0 := fun j => by rw [List.getElem?_replicate]; split <;> rfl
  by_cases e : root.toNat = i
  · rw [if_pos e]; split
    · simp
    · simp
  · rw [if_neg e, hz]; omega
theorem reachP_ok {g : List PNode} {root : Int} (hk : Kidly g) (h0 : 0 ≤ root) (h1 : root < (g.length : Int)) : MetOk g (reachP g root) := (rch_ok hk _ _ _ h0 h1 .nil).1
end Go.Gx

/-
  Laws, part U6: SharedOf, of the reference and of the program.
-/
set_option linter.unusedVariables false
set_option linter.unusedSimpArgs false
namespace Go.Gx
theorem ValidG.kidly {g : List PNode} {root : Int} (h : ValidG g root) : Kidly g := fun n hn => (h.node n hn).kidly
end Go.Gx

/-
  Laws, part U2c: circles over the nodes that CyclesOf_1 takes.
-/
set_option linter.unusedVariables false
set_option linter.unusedSimpArgs false
namespace Go.Gx
theorem circles_CyclesOf_1_tot {g : List PNode} (hk : Kidly g) (hg : g.length ≤ 2000000) {s : Int} (h0 : 0 ≤ s) (h1 : s < (g.length : Int)) (p : Int → Prop) [DecidablePred p]
    (hp : ∀ x, 0 ≤ x → x < (g.length : Int) → Tot (fun σ => F_Z27 (σ 0) (nd g x).1 (nd g x).2.1 (nd g x).2.2) (fun r => r = ((decide (p x), ()), ()))) :
    Tot (fun σ => F_Z16 (σ 0) g s) (Says (PReach g p s s)) := by
  refine tot_Z16 ?_
  unfold B_Z16
  have key := loop_Z16_L3 (Q := fun _ _ _ _ r => Says (PReach g p s s) r)
    (I := fun g' s' t L => g' = g ∧ s' = s ∧ ∃ (S : List Int) (E : Int → Prop), t = marks S ∧ Srch g p s S L E E 1) (μ := fun _ _ t L => 2 * (g.length - t.length) + L.length) ?_
  · refine key g s _ _ ⟨rfl, rfl, [], fun _ => False, rfl, .nil, fun x hx => by simp at hx, fun x hx => .inl (by simpa using hx), fun x hx => .inl (by simpa using hx), by simp, fun x hx => hx.elim⟩
  intro g' s' t L ⟨e1, e2, S, E, e3, hS⟩ again3 hag3 ih3
  subst e1 e2 e3
  have hSl := hS.ok.len
  have hLl := hS.len
  unfold B_Z16_L3b
  rcases List.eq_nil_or_concat L with e | ⟨L', x, e⟩
  · subst e
    simp only [tot_cond, tot_some, decide_eq_true_eq, decide_eq_false_iff_not, len, List.length_nil]
    exact ⟨fun h => absurd h (by omega), fun _ => says_false hS.none⟩
  rw [List.concat_eq_append] at e
  subst e
  simp only [List.length_append, List.length_cons, List.length_nil] at hLl
  have hw : w64 (len (L' ++ [x]) - 1) = (L'.length : Int) := by
    simp only [len, List.length_append, List.length_cons, List.length_nil]
    rw [w64_id (by omega) (by omega)]; omega
  have hx : (L' ++ [x]).getD L'.length 0 = x := by
    rw [List.getD_eq_getElem?_getD, List.getElem?_append_right (Nat.le_refl _)]; simp
  have hxr : 0 ≤ x ∧ x < (g'.length : Int) := by
    rcases hS.inl x (by simp) with e | h
    · subst e; exact ⟨h0, h1⟩
    · exact hS.ok.2 x h
  have hxp : x = s' ∨ (PReach g' p s' x ∧ p x) := (hS.inl x (by simp)).imp id (hS.reach x)
  have hkx := hk _ (nd_mem hxr.1 hxr.2)
  simp only [hw, Int.toNat_natCast, hx, List.take_left]
  simp only [tot_cond, tot_chk, tot_some, decide_eq_true_eq, decide_eq_false_iff_not, inb_iff, len, List.length_append, List.length_cons, List.length_nil]
  refine ⟨fun _ => ⟨by omega, by omega, by simp [cutb]; try omega, hxr, ?_⟩, fun h => absurd h (by omega)⟩
  have key2 := loop_Z16_L2 hag3 (Q := fun _ _ _ _ _ _ _ r => Says (PReach g' p s' s') r)
    (I := fun g2 s2 t L ks n i => g2 = g' ∧ s2 = s' ∧ ks = kd g' x ∧ n = ((kd g' x).length : Int) ∧ ∃ (S2 : List Int) (j : Nat), t = marks S2 ∧ Srch g' p s' S2 L (fun y => E y ∨ y = x) E 0 ∧ i = j ∧ j ≤ (kd g' x).length ∧
      (∀ q, q < j → (kd g' x).getD q 0 ≠ s' ∧ (p ((kd g' x).getD q 0) → (kd g' x).getD q 0 ∈ S2)) ∧ 2 * (g'.length - S2.length) + L.length < 2 * (g'.length - S.length) + (L'.length + 1)) (μ := fun _ _ _ _ _ n i => n.toNat - i.toNat) ?_
  · exact key2 g' s' _ _ _ _ 0 ⟨rfl, rfl, rfl, rfl, S, 0, rfl, hS.pop, rfl, by omega, fun q hq => by omega, by omega⟩
  intro g2 s2 t L ks n i ⟨e1, e2, e3, e4, S2, j, e5, hS2, e6, hj, hq, hM⟩ again2 hag2 ih2
  subst e1 e2 e3 e4 e5 e6
  have hS2l := hS2.ok.len
  have hL2 := hS2.len
  unfold B_Z16_L2b
  simp only [tot_cond, tot_chk, tot_jn, decide_eq_true_eq, decide_eq_false_iff_not, inb_iff, beq_iff_eq, beq_eq_false_iff_ne, ne_eq]
  refine ⟨fun hlt => ⟨⟨by omega, hlt⟩, fun heq => ?_, fun hne => ?_⟩, fun hge => ?_⟩
  · have hm : s2 ∈ kd g2 x := by rw [← heq]; exact rdx_mem (by omega) (by omega)
    rw [tot_some]
    refine says_true ?_
    rcases hxp with e | ⟨h, h'⟩
    · rw [e] at hm; exact .kid hm
    · exact .step h h' hm
  · have hl6 : (kd g2 x).length ≤ 6 := hkx.1
    have hm : rdx (0 : Int) (kd g2 x) (j : Int) ∈ kd g2 x := rdx_mem (by omega) (by omega)
    have hgd : rdx (0 : Int) (kd g2 x) (j : Int) = (kd g2 x).getD j 0 := rfl
    generalize hkk : rdx (0 : Int) (kd g2 x) (j : Int) = k at *
    have hkr := hkx.2 k hm
    have hreach : PReach g2 p s2 k := by
      rcases hxp with e | ⟨h, h'⟩
      · rw [e] at hm; exact .kid hm
      · exact .step h h' hm
    have wj : w64 ((j : Int) + 1) = ((j + 1 : Nat) : Int) := w64_succ (by omega) (by omega)
    have stay : (p k → k ∈ S2) → Tot (fun σ => again2 σ (g2, s2, (), marks S2, L, kd g2 x, ((kd g2 x).length : Int), w64 ((j : Int) + 1), ())) (Says (PReach g2 p s2 s2)) := by
      intro hin
      rw [wj]
      refine ih2 _ _ _ _ _ _ _ ⟨rfl, rfl, rfl, rfl, S2, j + 1, rfl, hS2, rfl, by omega, fun q h => ?_, hM⟩ (by simp only [Int.toNat_natCast]; omega)
      by_cases e : q = j
      · subst e; rw [← hgd]; exact ⟨hne, hin⟩
      · exact hq q (by omega)
    refine ⟨hkr, (hp k hkr.1 hkr.2).bind ?_⟩
    rintro _ rfl
    unfold B_Z16_J0 B_Z16_J1
    simp only [tot_cond, tot_chk, tot_jn, decide_eq_true_eq, decide_eq_false_iff_not, room_iff, List.length_cons, List.length_nil, mfind_marks, Bool.not_eq_true', Bool.not_eq_false', Bool.false_eq_true, false_implies, true_and, forall_const]
    refine ⟨fun hpk => ⟨fun hni => ⟨by omega, ?_⟩, fun hin => stay fun _ => hin⟩, fun hpk => stay fun h => absurd h hpk⟩
    have hS3 := hS2.push hkr.1 hkr.2 hni hreach hpk
    have hS3l := hS3.ok.len
    simp only [List.length_append, List.length_cons, List.length_nil] at hS3l
    rw [wj, mput_marks k S2 hni]
    refine ih2 _ _ _ _ _ _ _ ⟨rfl, rfl, rfl, rfl, S2 ++ [k], j + 1, rfl, hS3, rfl, by omega, fun q h => ?_, by simp only [List.length_append, List.length_cons, List.length_nil]; omega⟩ (by simp only [Int.toNat_natCast]; omega)
    by_cases e : q = j
    · subst e; rw [← hgd]; exact ⟨hne, fun _ => by simp⟩
    · exact ⟨(hq q (by omega)).1, fun h => List.mem_append_left _ ((hq q (by omega)).2 h)⟩
  · refine ih3 _ _ _ _ ⟨rfl, rfl, S2, _, rfl, hS2.fin fun k hk => ?_⟩ (by simp only [marks_len, List.length_append, List.length_cons, List.length_nil]; omega)
    obtain ⟨q, hq1, hq2⟩ := mem_getD hk
    have := hq q (by omega)
    rw [hq2] at this
    exact this
end Go.Gx

/-
  Laws, part SO0: small words.
-/
set_option linter.unusedVariables false
set_option linter.unusedSimpArgs false
namespace Go.Gx
theorem w64n_pred {j : Nat} (h1 : 1 ≤ j) (h2 : j ≤ 2000000) : w64 ((j : Int) - 1) = ((j - 1 : Nat) : Int) := by rw [w64_id (by omega) (by omega)]; omega
theorem w64n_succ {j : Nat} (h2 : j ≤ 2000000) : w64 ((j : Int) + 1) = ((j + 1 : Nat) : Int) := by rw [w64_id (by omega) (by omega)]; omega
theorem w64n_add {i j : Nat} (h2 : i + j ≤ 2000000) : w64 ((i : Int) + (j : Int)) = ((i + j : Nat) : Int) := by rw [w64_id (by omega) (by omega)]; omega
theorem w64n_sub {i j : Nat} (h1 : j ≤ i) (h2 : i ≤ 2000000) : w64 ((i : Int) - (j : Int)) = ((i - j : Nat) : Int) := by rw [w64_id (by omega) (by omega)]; omega
theorem w64n_two {i : Nat} (h2 : i ≤ 2000000) : w64 (2 * (i : Int)) = ((2 * i : Nat) : Int) := by rw [w64_id (by omega) (by omega)]; omega
theorem inbn {j n : Nat} : inb (j : Int) n = true ↔ j < n := by rw [inb_iff]; omega

end Go.Gx

/-
  Laws, part SO1: slices.Sort: insertion, heap, the turning round.
-/
set_option linter.unusedVariables false
set_option linter.unusedSimpArgs false
namespace Go.Gx
open Go.Sort
theorem ga (l : List Int) (i : Nat) : l.toArray[i]! = l.getD i 0 := by
  rw [List.getD_eq_getElem?_getD]
  simp only [getElem!_def, List.getElem?_toArray]
  cases l[i]? <;> rfl
theorem sw (l : List Int) (i j : Nat) : swp l.toArray i j = ((l.set i (l.getD j 0)).set j (l.getD i 0)).toArray := by
  unfold swp
  rw [ga, ga]
  simp
theorem less_tot (x y : Int) : Tot (fun σ => F_Z29 (σ 0) x y) (fun r => r = ((ltInt x y, ()), ())) := by
  have nan : ∀ z : Int, Tot (fun σ => F_Z26 (σ 0) z) (fun r => r = ((false, ()), ())) := fun z => by
    refine tot_Z26 ?_
    unfold B_Z26
    rw [tot_some]; simp
  refine tot_Z29 ?_
  unfold B_Z29
  refine (nan x).bind ?_
  rintro _ rfl
  rw [tot_cond]
  refine ⟨fun h => absurd h (by decide), fun _ => ?_⟩
  rw [tot_some]; rfl

theorem insOuter_lt {a b i : Nat} (d : Array Int) (h : i < b) : insOuter ltInt a b i d = insOuter ltInt a b (i + 1) (insInner ltInt a i d) := by
  rw [insOuter, if_pos h]
theorem insOuter_ge {a b i : Nat} (d : Array Int) (h : ¬ i < b) : insOuter ltInt a b i d = d := by
  rw [insOuter, if_neg h]
theorem insertionSort_tot {l : List Int} {a b : Nat} (hb : b ≤ l.length) (hl : l.length ≤ 1000) (ha : a ≤ l.length) :
    Tot (fun σ => F_Z6 (σ 0) l (a : Int) (b : Int)) (fun r => r = ((), ((insertionSort ltInt l.toArray a b).toList, ()))) := by
  refine tot_Z6 ?_
  unfold B_Z6
  rw [w64n_succ (by omega)]
  have key := loop_Z6_L2 (Q := fun d x y i r => r = ((), ((insOuter ltInt a b i.toNat d.toArray).toList, ()))) (I := fun d x y i => x = (a : Int) ∧ y = (b : Int) ∧ d.length = l.length ∧ ∃ n : Nat, i = (n : Int) ∧ n ≤ l.length + 1) (μ := fun _ _ _ i => (b - i).toNat) ?_
  · have := key l a b ((a + 1 : Nat) : Int) ⟨rfl, rfl, rfl, a + 1, rfl, by omega⟩
    rw [Int.toNat_natCast] at this
    exact this
  rintro d _ _ _ ⟨rfl, rfl, hd, n, rfl, hn⟩ again hag ih
  unfold B_Z6_L2b
  simp only [Int.toNat_natCast]
  rw [tot_cond]
  refine ⟨fun h => ?_, fun h => ?_⟩
  · have h := of_decide_eq_true h
    have hnb : n < b := by omega
    rw [insOuter_lt _ hnb]
    have key1 := loop_Z6_L1 hag (Q := fun d x y i j r => r = ((), ((insOuter ltInt a b (n + 1) (insInner ltInt a j.toNat d.toArray)).toList, ()))) (I := fun d x y i j => x = (a : Int) ∧ y = (b : Int) ∧ i = (n : Int) ∧ d.length = l.length ∧ ∃ q : Nat, j = (q : Int) ∧ q ≤ n) (μ := fun _ _ _ _ j => j.toNat) ?_
    · have := key1 d a b n n ⟨rfl, rfl, rfl, hd, n, rfl, Nat.le_refl _⟩
      rw [Int.toNat_natCast] at this
      exact this
    rintro d _ _ _ _ ⟨rfl, rfl, rfl, hd, q, rfl, hq⟩ again1 hag1 ih1
    unfold B_Z6_L1b
    simp only [Int.toNat_natCast]
    have stop : insInner ltInt a q d.toArray = d.toArray → Tot (fun σ => B_Z6_J0 (σ 0) (F_Z29 (σ 0)) (again1 σ) (again σ) d (a : Int) (b : Int) (n : Int) (q : Int) false) (fun r => r = ((), ((insOuter ltInt a b (n + 1) (insInner ltInt a q d.toArray)).toList, ()))) := by
      intro he
      unfold B_Z6_J0
      rw [tot_cond]
      refine ⟨fun h => absurd h (by decide), fun _ => ?_⟩
      rw [he, w64n_succ (by omega)]
      have := ih d a b ((n + 1 : Nat) : Int) ⟨rfl, rfl, hd, n + 1, rfl, by omega⟩ (by omega)
      rw [Int.toNat_natCast] at this
      exact this
    rw [tot_cond]
    refine ⟨fun h => ?_, fun h => ?_⟩
    · have h := of_decide_eq_true h
      obtain ⟨q', rfl⟩ : ∃ q', q = q' + 1 := ⟨q - 1, by omega⟩
      rw [w64n_pred (by omega) (by omega), Nat.add_sub_cancel]
      simp only [tot_chk, inbn, decide_eq_true_eq, Int.toNat_natCast]
      refine ⟨by omega, by omega, by omega, by omega, (less_tot _ _).bind ?_⟩
      rintro _ rfl
      rw [tot_jn]
      cases hlt : ltInt (d.getD (q' + 1) 0) (d.getD q' 0) with
      | false =>
        refine stop ?_
        rw [insInner, ga, ga, hlt]
        simp
      | true =>
        have e : insInner ltInt a (q' + 1) d.toArray = insInner ltInt a q' ((d.set (q' + 1) (d.getD q' 0)).set q' (d.getD (q' + 1) 0)).toArray := by
          rw [insInner, ga, ga, hlt, sw, if_pos (by simp; omega)]
        rw [e]
        show Tot (fun σ => B_Z6_J0 (σ 0) (F_Z29 (σ 0)) (again1 σ) (again σ) d (a : Int) (b : Int) (n : Int) ((q' + 1 : Nat) : Int) true) _
        unfold B_Z6_J0
        rw [tot_cond]
        refine ⟨fun _ => ?_, fun h => absurd h (by decide)⟩
        rw [w64n_pred (by omega) (by omega), Nat.add_sub_cancel]
        simp only [tot_chk, inbn, decide_eq_true_eq, Int.toNat_natCast, List.length_set]
        refine ⟨by omega, by omega, by omega, by omega, by omega, by omega, by omega, by omega, ?_⟩
        have := fun (dd : List Int) (hdd : dd.length = l.length) => ih1 dd a b n (q' : Int) ⟨rfl, rfl, rfl, hdd, q', rfl, by omega⟩ (by omega)
        simp only [Int.toNat_natCast] at this
        exact this _ (by rw [List.length_set, List.length_set]; exact hd)
    · have h := of_decide_eq_false h
      rw [tot_jn]
      refine stop ?_
      cases q with
      | zero => rw [insInner]
      | succ q =>
        rw [insInner, if_neg]
        simp only [Bool.and_eq_true, decide_eq_true_eq, not_and]
        intro h'; omega
  · rw [tot_some, insOuter_ge _ (by have := of_decide_eq_false h; omega)]

theorem siftDown_tot {l : List Int} {hi first root : Nat} (h : first + hi ≤ l.length) (hl : l.length ≤ 1000) (hr : root ≤ 1000) :
    Tot (fun σ => F_Z11 (σ 0) l (root : Int) (hi : Int) (first : Int)) (fun r => r = ((), ((siftDown ltInt hi first root l.toArray).toList, ()))) := by
  refine tot_Z11 ?_
  unfold B_Z11
  have key := loop_Z11_L2 (Q := fun d x y i r => r = ((), ((siftDown ltInt hi first i.toNat d.toArray).toList, ()))) (I := fun d x y i => x = (hi : Int) ∧ y = (first : Int) ∧ d.length = l.length ∧ ∃ n : Nat, i = (n : Int) ∧ n ≤ 1000) (μ := fun _ _ _ i => (1000 - i).toNat) ?_
  · have := key l hi first (root : Int) ⟨rfl, rfl, rfl, root, rfl, by omega⟩
    rw [Int.toNat_natCast] at this
    exact this
  rintro d _ _ _ ⟨rfl, rfl, hd, n, rfl, hn⟩ again hag ih
  unfold B_Z11_L2b
  rw [Int.toNat_natCast, w64n_two (by omega), w64n_succ (by omega), w64n_succ (by omega)]
  rw [tot_cond]
  refine ⟨fun h => ?_, fun h => ?_⟩
  · have h := of_decide_eq_true h
    rw [tot_some, siftDown, dif_pos (by omega)]
  have h := of_decide_eq_false h
  have hlt : 2 * n + 1 < hi := by omega
  have j1 : ∀ c : Nat, n < c → c < hi → (ltInt (d.getD (first + n) 0) (d.getD (first + c) 0) = false → siftDown ltInt hi first n d.toArray = d.toArray) →
      (ltInt (d.getD (first + n) 0) (d.getD (first + c) 0) = true → siftDown ltInt hi first n d.toArray = siftDown ltInt hi first c (swp d.toArray (first + n) (first + c))) →
      Tot (fun σ => B_Z11_J1 (σ 0) (F_Z29 (σ 0)) (again σ) d (hi : Int) (first : Int) (n : Int) (c : Int)) (fun r => r = ((), ((siftDown ltInt hi first n d.toArray).toList, ()))) := by
    intro c hnc hc e0 e1
    unfold B_Z11_J1
    rw [w64n_add (by omega), w64n_add (by omega)]
    simp only [tot_chk, inbn, decide_eq_true_eq, Int.toNat_natCast, List.length_set]
    refine ⟨by omega, by omega, by omega, by omega, (less_tot _ _).bind ?_⟩
    rintro _ rfl
    rw [tot_cond]
    refine ⟨fun h => ?_, fun h => ?_⟩
    · rw [tot_some, e0 (by simpa using h)]
    · simp only [tot_chk, inbn, decide_eq_true_eq, Int.toNat_natCast, List.length_set]
      refine ⟨by omega, by omega, by omega, by omega, by omega, by omega, by omega, by omega, ?_⟩
      have := fun (dd : List Int) (hdd : dd.length = l.length) => ih dd hi first (c : Int) ⟨rfl, rfl, hdd, c, rfl, by omega⟩ (by omega)
      simp only [Int.toNat_natCast] at this
      rw [e1 (by simpa using h), sw]
      exact this _ (by rw [List.length_set, List.length_set]; exact hd)
  have j0 : ∀ t : Bool, (t = (decide (2 * n + 1 + 1 < hi) && ltInt (d.getD (first + (2 * n + 1)) 0) (d.getD (first + (2 * n + 1) + 1) 0))) →
      Tot (fun σ => B_Z11_J0 (σ 0) (F_Z29 (σ 0)) (again σ) d (hi : Int) (first : Int) (n : Int) ((2 * n + 1 : Nat) : Int) t) (fun r => r = ((), ((siftDown ltInt hi first n d.toArray).toList, ()))) := by
    intro t ht
    unfold B_Z11_J0
    rw [tot_cond]
    refine ⟨fun h => ?_, fun h => ?_⟩
    · rw [ht] at h
      have h2 := h
      simp only [Bool.and_eq_true, decide_eq_true_eq] at h2
      rw [tot_jn, w64n_succ (by omega)]
      refine j1 (2 * n + 1 + 1) (by omega) h2.1 (fun e => ?_) (fun e => ?_)
      · rw [siftDown, dif_neg (by omega), if_pos (by rw [ga, ga]; exact h), if_pos (by rw [ga, ga, e]; rfl)]
      · rw [siftDown, dif_neg (by omega), if_pos (by rw [ga, ga]; exact h), if_neg (by rw [ga, ga, e]; decide), dif_pos (by omega)]
    · rw [ht] at h
      rw [tot_jn]
      refine j1 (2 * n + 1) (by omega) hlt (fun e => ?_) (fun e => ?_)
      · rw [siftDown, dif_neg (by omega), if_neg (by rw [ga, ga, h]; decide), if_pos (by rw [ga, ga, e]; rfl)]
      · rw [siftDown, dif_neg (by omega), if_neg (by rw [ga, ga, h]; decide), if_neg (by rw [ga, ga, e]; decide)]
  rw [tot_cond]
  refine ⟨fun h => ?_, fun h => ?_⟩
  · have h := of_decide_eq_true h
    rw [w64n_add (by omega), w64n_succ (by omega)]
    simp only [tot_chk, inbn, decide_eq_true_eq, Int.toNat_natCast, List.length_set]
    refine ⟨by omega, by omega, by omega, by omega, (less_tot _ _).bind ?_⟩
    rintro _ rfl
    rw [tot_jn]
    exact j0 _ (by rw [decide_eq_true (by omega : 2 * n + 1 + 1 < hi)]; rfl)
  · have h := of_decide_eq_false h
    rw [tot_jn]
    exact j0 _ (by rw [decide_eq_false (by omega : ¬ 2 * n + 1 + 1 < hi)]; rfl)
theorem siftDown_size {hi first : Nat} : ∀ (n root : Nat) (d : Array Int), hi - root ≤ n → (siftDown ltInt hi first root d).size = d.size := by
  intro n
  induction n with
  | zero => intro root d h; rw [siftDown, dif_pos (by omega)]
  | succ n ih =>
    intro root d h
    rw [siftDown]
    split
    · rfl
    · split <;> split
      · rfl
      · split
        · rw [ih _ _ (by omega), swp_size]
        · rfl
      · rfl
      · rw [ih _ _ (by omega), swp_size]
theorem heapSort_tot {l : List Int} {a b : Nat} (hb : b ≤ l.length) (hl : l.length ≤ 1000) (ha : a < b) :
    Tot (fun σ => F_Z10 (σ 0) l (a : Int) (b : Int)) (fun r => r = ((), ((heapSort ltInt l.toArray a b).toList, ()))) := by
  refine tot_Z10 ?_
  unfold B_Z10
  rw [w64n_sub (by omega) (by omega), w64n_pred (by omega) (by omega)]
  have ed : w64 (((b - a - 1 : Nat) : Int).tdiv 2) = (((b - a - 1) / 2 : Nat) : Int) := by
    rw [Int.tdiv_eq_ediv_of_nonneg (by omega), w64_id (by omega) (by omega)]; omega
  rw [ed]
  have key := loop_Z10_L0 (Q := fun d x y z i r => r = ((), ((heapPop ltInt a (b - a) (heapBuild ltInt (b - a) a (i + 1).toNat d.toArray)).toList, ()))) (I := fun d x y z i => x = (a : Int) ∧ y = 0 ∧ z = ((b - a : Nat) : Int) ∧ d.length = l.length ∧ ∃ k : Nat, i = (k : Int) - 1 ∧ k ≤ 1000) (μ := fun _ _ _ _ i => (i + 1).toNat) ?_
  · have := key l a 0 ((b - a : Nat) : Int) (((b - a - 1) / 2 : Nat) : Int) ⟨rfl, rfl, rfl, rfl, (b - a - 1) / 2 + 1, by omega, by omega⟩
    rw [show ((((b - a - 1) / 2 : Nat) : Int) + 1).toNat = (b - a - 1) / 2 + 1 by omega] at this
    exact this
  rintro d _ _ _ _ ⟨rfl, rfl, rfl, hd, k, rfl, hk⟩ again hag ih
  unfold B_Z10_L0b
  rw [show ((k : Int) - 1 + 1).toNat = k by omega, tot_cond]
  refine ⟨fun h => ?_, fun h => ?_⟩
  · have h := of_decide_eq_true h
    obtain ⟨q, rfl⟩ : ∃ q, k = q + 1 := ⟨k - 1, by omega⟩
    rw [show (((q + 1 : Nat) : Int) - 1) = (q : Int) by omega]
    refine (siftDown_tot (by omega) (by omega) (by omega)).bind ?_
    rintro _ rfl
    rw [w64_id (by omega) (by omega)]
    have := fun (dd : List Int) (hdd : dd.length = l.length) => ih dd a 0 ((b - a : Nat) : Int) ((q : Int) - 1) ⟨rfl, rfl, rfl, hdd, q, rfl, by omega⟩ (by omega)
    simp only [show ((q : Int) - 1 + 1).toNat = q by omega] at this
    exact this _ (by rw [Array.length_toList, siftDown_size _ _ _ (Nat.le_refl _)]; simpa using hd)
  · have h := of_decide_eq_false h
    obtain rfl : k = 0 := by omega
    rw [heapBuild, w64n_pred (by omega) (by omega)]
    have key1 := loop_Z10_L1 (Q := fun d x y i r => r = ((), ((heapPop ltInt a (i + 1).toNat d.toArray).toList, ()))) (I := fun d x y i => x = (a : Int) ∧ y = 0 ∧ d.length = l.length ∧ ∃ k : Nat, i = (k : Int) - 1 ∧ k ≤ b - a) (μ := fun _ _ _ i => (i + 1).toNat) ?_
    · have := key1 d a 0 ((b - a - 1 : Nat) : Int) ⟨rfl, rfl, hd, b - a, by omega, by omega⟩
      rw [show (((b - a - 1 : Nat) : Int) + 1).toNat = b - a by omega] at this
      exact this
    rintro d _ _ _ ⟨rfl, rfl, hd, k, rfl, hk⟩ again1 hag1 ih1
    unfold B_Z10_L1b
    rw [show ((k : Int) - 1 + 1).toNat = k by omega, tot_cond]
    refine ⟨fun h => ?_, fun h => ?_⟩
    · have h := of_decide_eq_true h
      obtain ⟨q, rfl⟩ : ∃ q, k = q + 1 := ⟨k - 1, by omega⟩
      rw [show (((q + 1 : Nat) : Int) - 1) = (q : Int) by omega, w64n_add (by omega)]
      simp only [tot_chk, inbn, decide_eq_true_eq, Int.toNat_natCast, List.length_set]
      refine ⟨by omega, by omega, by omega, by omega, by omega, by omega, by omega, by omega, (siftDown_tot (root := 0) (by rw [List.length_set, List.length_set]; omega) (by rw [List.length_set, List.length_set]; omega) (by omega)).bind ?_⟩
      rintro _ rfl
      rw [w64_id (by omega) (by omega)]
      have := fun (dd : List Int) (hdd : dd.length = l.length) => ih1 dd a 0 ((q : Int) - 1) ⟨rfl, rfl, hdd, q, rfl, by omega⟩ (by omega)
      simp only [show ((q : Int) - 1 + 1).toNat = q by omega] at this
      rw [heapPop, sw]
      exact this _ (by rw [Array.length_toList, siftDown_size _ _ _ (Nat.le_refl _)]; simpa using hd)
    · have h := of_decide_eq_false h
      obtain rfl : k = 0 := by omega
      rw [tot_some, heapPop]
theorem swP {l : List Int} {a b i j : Nat} (h1 : a ≤ i) (h2 : i < b) (h3 : a ≤ j) (h4 : j < b) (hb : b ≤ l.length) : PermIn a b l.toArray ((l.set i (l.getD j 0)).set j (l.getD i 0)).toArray := by
  rw [← sw]
  exact swp_permIn l.toArray a b i j h1 h2 h3 h4 (by simpa using hb)
theorem reverse_tot {l : List Int} {a b : Nat} (hb : b ≤ l.length) (hl : l.length ≤ 1000) (ha : a < b) :
    Tot (fun σ => F_Z7 (σ 0) l (a : Int) (b : Int)) (fun r => ∃ l' : List Int, r = ((), (l', ())) ∧ PermIn a b l.toArray l'.toArray) := by
  refine tot_Z7 ?_
  unfold B_Z7
  rw [w64n_pred (by omega) (by omega)]
  have key := loop_Z7_L0 (Q := fun d i j r => ∃ l' : List Int, r = ((), (l', ())) ∧ PermIn a b l.toArray l'.toArray) (I := fun d i j => PermIn a b l.toArray d.toArray ∧ ∃ p q : Nat, i = (p : Int) ∧ j = (q : Int) ∧ a ≤ p ∧ q < b ∧ p ≤ q + 1) (μ := fun _ i j => (j - i).toNat) ?_
  · exact key l a ((b - 1 : Nat) : Int) ⟨permIn_refl _ _ _, a, b - 1, rfl, rfl, by omega, by omega, by omega⟩
  rintro d _ _ ⟨hp, p, q, rfl, rfl, h1, h2, h3⟩ again hag ih
  have hd : d.length = l.length := by simpa using hp.1
  unfold B_Z7_L0b
  rw [tot_cond]
  refine ⟨fun h => ?_, fun h => ?_⟩
  · have h := of_decide_eq_true h
    simp only [tot_chk, inbn, decide_eq_true_eq, Int.toNat_natCast, List.length_set]
    refine ⟨by omega, by omega, by omega, by omega, by omega, by omega, by omega, by omega, ?_⟩
    rw [w64n_succ (by omega), w64n_pred (by omega) (by omega)]
    exact ih _ _ _ ⟨permIn_trans _ _ _ a b hp (swP (by omega) (by omega) (by omega) (by omega) (by omega)), p + 1, q - 1, rfl, rfl, by omega, by omega, by omega⟩ (by omega)
  · rw [tot_some]
    exact ⟨d, rfl, hp⟩
end Go.Gx

/-
  Laws, part SO2: slices.Sort: broken patterns.
-/
set_option linter.unusedVariables false
set_option linter.unusedSimpArgs false
namespace Go.Gx
open Go.Sort
theorem lenTab : ∀ y : Fin 256, B_Z46_J2 0 (y.val : Int) 0 = some ((((bitsLen y.val : Nat) : Int), ()), ()) ∧ B_Z46_J2 0 (y.val : Int) 8 = some ((((8 + bitsLen y.val : Nat) : Int), ()), ()) := by decide +kernel
theorem bitsLen_tot {x : Nat} (hx : x < 65536) : Tot (fun σ => F_bits_Len (σ 0) (x : Int)) (fun r => ∃ L : Nat, r = (((L : Int), ()), ()) ∧ x < 2 ^ L ∧ (0 < x → 2 ^ L ≤ 2 * x) ∧ L ≤ 17) := by
  refine tot_bits_Len ?_
  unfold B_bits_Len
  refine Tot.bind (P := fun r => ∃ L : Nat, r = (((L : Int), ()), ()) ∧ x < 2 ^ L ∧ (0 < x → 2 ^ L ≤ 2 * x) ∧ L ≤ 17) ?_ ?_
  · refine tot_Z46 ?_
    unfold B_Z46
    rw [tot_cond]
    refine ⟨fun h => by have := of_decide_eq_true h; omega, fun _ => ?_⟩
    rw [tot_jn]
    unfold B_Z46_J0
    rw [tot_cond]
    refine ⟨fun h => by have := of_decide_eq_true h; simp only at this; omega, fun _ => ?_⟩
    rw [tot_jn]
    unfold B_Z46_J1
    simp only
    rw [tot_cond]
    refine ⟨fun h => ?_, fun h => ?_⟩
    · have h := of_decide_eq_true h
      have e1 : shrK .u64 (x : Int) 8 = ((x / 256 : Nat) : Int) := by
        unfold shrK
        rw [show (2 ^ min (8 : Int).toNat IntKind.u64.bits : Int) = 256 by decide]
        rw [Int.fdiv_eq_ediv_of_nonneg _ (by decide)]; omega
      rw [tot_jn, e1, show w64 (0 + 8) = 8 by decide]
      have := (lenTab ⟨x / 256, by omega⟩).2
      simp only at this
      have e2 : ∀ k, B_Z46_J2 k ((x / 256 : Nat) : Int) 8 = B_Z46_J2 0 ((x / 256 : Nat) : Int) 8 := fun _ => rfl
      simp only [e2, this, tot_some]
      have h1 := lt_two_pow_bitsLen (x / 256)
      have h2 := two_pow_bitsLen_le (n := x / 256) (by omega)
      have h3 := (bitsLen_le_iff (x / 256) 8).2 (by omega)
      refine ⟨_, rfl, ?_, fun _ => ?_, by omega⟩
      · rw [Nat.pow_add]; omega
      · rw [Nat.pow_add]; omega
    · have h := of_decide_eq_false h
      rw [tot_jn]
      have := (lenTab ⟨x, by omega⟩).1
      simp only at this
      have e2 : ∀ k, B_Z46_J2 k (x : Int) 0 = B_Z46_J2 0 (x : Int) 0 := fun _ => rfl
      simp only [e2, this, tot_some]
      exact ⟨_, rfl, lt_two_pow_bitsLen x, fun h => two_pow_bitsLen_le h, by have := (bitsLen_le_iff x 8).2 (by omega); omega⟩
  · rintro _ ⟨L, rfl, h⟩
    rw [tot_some]
    exact ⟨L, rfl, h⟩
theorem wrap_id {z : Int} (h1 : 0 ≤ z) (h2 : z ≤ 4294967296) : IntKind.wrap .u64 z = z := by
  unfold IntKind.wrap
  simp [IntKind.bits, IntKind.signed]
  omega
theorem pow2_tot {x : Nat} (h1 : 0 < x) (hx : x < 65536) : Tot (fun σ => F_Z17 (σ 0) (x : Int)) (fun r => ∃ m : Nat, r = (((m : Int), ()), ()) ∧ 0 < m ∧ m ≤ 2 * x) := by
  refine tot_Z17 ?_
  unfold B_Z17
  rw [wrap_id (by omega) (by omega)]
  refine (bitsLen_tot hx).bind ?_
  rintro _ ⟨L, rfl, h2, h3, h4⟩
  rw [tot_chk]
  refine ⟨decide_eq_true (by simp), ?_⟩
  rw [tot_some]
  refine ⟨2 ^ L, ?_, Nat.two_pow_pos L, h3 h1⟩
  have : shlK .u64 1 (L : Int) = ((2 ^ L : Nat) : Int) := by
    unfold shlK
    rw [Int.toNat_natCast, show min L IntKind.u64.bits = L by simp [IntKind.bits]; omega, wrap_id (by rw [Int.one_mul]; exact_mod_cast Nat.zero_le _) ?_]
    · simp
    · rw [Int.one_mul]
      have : 2 ^ L ≤ 2 ^ 17 := Nat.pow_le_pow_right (by decide) h4
      have h5 : ((2 ^ L : Nat) : Int) ≤ 4294967296 := by omega
      simpa using h5
  simp only [this]
theorem andK_le {r : Int} {m : Nat} (h1 : 0 < m) (h2 : m ≤ 2000000) : ∃ o : Nat, andK .u64 r (IntKind.wrap .u64 ((m : Int) - 1)) = (o : Int) ∧ o < m := by
  rw [wrap_id (by omega) (by omega)]
  unfold andK
  have hb : (BitVec.ofInt IntKind.u64.bits ((m : Int) - 1)).toNat = m - 1 := by
    simp [IntKind.bits, BitVec.toNat_ofInt]
    omega
  have h : (BitVec.ofInt IntKind.u64.bits r &&& BitVec.ofInt IntKind.u64.bits ((m : Int) - 1)).toNat ≤ m - 1 := by
    rw [BitVec.toNat_and, hb]
    exact Nat.and_le_right
  exact ⟨_, wrap_id (by omega) (by omega), by omega⟩
theorem break_tot {l : List Int} {a b : Nat} (hb : b ≤ l.length) (hl : l.length ≤ 1000) (ha : a + 12 < b) :
    Tot (fun σ => F_Z5 (σ 0) l (a : Int) (b : Int)) (fun r => ∃ l' : List Int, r = ((), (l', ())) ∧ PermIn a b l.toArray l'.toArray) := by
  refine tot_Z5 ?_
  unfold B_Z5
  rw [w64n_sub (by omega) (by omega), tot_cond]
  refine ⟨fun _ => ?_, fun h => by have := of_decide_eq_false h; omega⟩
  refine (pow2_tot (by omega) (by omega)).bind ?_
  rintro _ ⟨m, rfl, hm1, hm2⟩
  have e4 : w64 (((b - a : Nat) : Int).tdiv 4) = (((b - a) / 4 : Nat) : Int) := by
    rw [Int.tdiv_eq_ediv_of_nonneg (by omega), w64_id (by omega) (by omega)]; omega
  have e5 : w64 ((((b - a) / 4 : Nat) : Int) * 2) = (((b - a) / 4 * 2 : Nat) : Int) := by rw [w64_id (by omega) (by omega)]; omega
  rw [e4, e5, w64n_add (by omega), w64n_pred (by omega) (by omega), wrap_id (by omega) (by omega)]
  have key := loop_Z5_L1 (Q := fun _ _ _ _ _ _ r => ∃ l' : List Int, r = ((), (l', ())) ∧ PermIn a b l.toArray l'.toArray) (I := fun d x y z u i => PermIn a b l.toArray d.toArray ∧ x = (a : Int) ∧ y = ((b - a : Nat) : Int) ∧ u = (m : Int) ∧ ∃ p : Nat, i = (p : Int) ∧ a ≤ p ∧ p ≤ a + (b - a) / 4 * 2 + 2) (μ := fun _ _ _ _ _ i => (2000 - i).toNat) ?_
  · exact key l a ((b - a : Nat) : Int) _ m ((a + (b - a) / 4 * 2 - 1 : Nat) : Int) ⟨permIn_refl _ _ _, rfl, rfl, rfl, _, rfl, by omega, by omega⟩
  rintro d _ _ z _ _ ⟨hp, rfl, rfl, rfl, p, rfl, h1, h2⟩ again hag ih
  have hd : d.length = l.length := by simpa using hp.1
  unfold B_Z5_L1b
  rw [e4, e5, w64n_add (by omega), w64n_succ (by omega), tot_cond]
  refine ⟨fun h => ?_, fun h => by rw [tot_some]; exact ⟨d, rfl, hp⟩⟩
  have h := of_decide_eq_true h
  refine Tot.bind (P := fun _ => True) ?_ ?_
  · refine tot_Z19 ?_
    unfold B_Z19
    rw [tot_some]; trivial
  rintro ⟨⟨v, _⟩, ⟨⟨w, _⟩, _⟩⟩ -
  obtain ⟨o, ho, hom⟩ := andK_le (r := v) hm1 (by omega)
  simp only
  rw [ho, w64_id (by omega) (by omega)]
  have j0 : ∀ q : Nat, q < b - a → Tot (fun σ => B_Z5_J0 (σ 0) (F_Z17 (σ 0)) (F_Z19 (σ 0)) (again σ) d (a : Int) ((b - a : Nat) : Int) w (m : Int) (p : Int) (q : Int)) (fun r => ∃ l' : List Int, r = ((), (l', ())) ∧ PermIn a b l.toArray l'.toArray) := by
    intro q hq
    unfold B_Z5_J0
    rw [w64n_add (by omega), w64n_succ (by omega)]
    simp only [tot_chk, inbn, decide_eq_true_eq, Int.toNat_natCast, List.length_set]
    refine ⟨by omega, by omega, by omega, by omega, by omega, by omega, by omega, by omega, ?_⟩
    exact ih _ _ _ _ _ _ ⟨permIn_trans _ _ _ a b hp (swP (by omega) (by omega) (by omega) (by omega) (by omega)), rfl, rfl, rfl, p + 1, rfl, by omega, by omega⟩ (by omega)
  rw [tot_cond]
  refine ⟨fun h => ?_, fun h => ?_⟩
  · have h := of_decide_eq_true h
    rw [tot_jn, w64n_sub (by omega) (by omega)]
    exact j0 (o - (b - a)) (by omega)
  · have h := of_decide_eq_false h
    rw [tot_jn]
    exact j0 o (by omega)
end Go.Gx

/-
  Laws, part SO3: slices.Sort: the partial insertion sort, the pivot.
-/
set_option linter.unusedVariables false
set_option linter.unusedSimpArgs false
namespace Go.Gx
open Go.Sort
def pisR (x : Array Int × Bool) : (Bool × Unit) × (List Int × Unit) := ((x.2, ()), (x.1.toList, ()))
theorem scanSorted_step {d : Array Int} {b i : Nat} (h : (decide (i < b) && !ltInt d[i]! d[i - 1]!) = true) : scanSorted ltInt d b i = scanSorted ltInt d b (i + 1) := by
  rw [scanSorted, if_pos h]
theorem scanSorted_stop {d : Array Int} {b i : Nat} (h : (decide (i < b) && !ltInt d[i]! d[i - 1]!) = false) : scanSorted ltInt d b i = i := by
  rw [scanSorted, if_neg (by rw [h]; decide)]
theorem partialIns_tot {l : List Int} {a b : Nat} (hb : b ≤ l.length) (hl : l.length ≤ 1000) (ha : a < b) :
    Tot (fun σ => F_Z2 (σ 0) l (a : Int) (b : Int)) (fun r => r = pisR (partialInsertionSort ltInt l.toArray a b)) := by
  refine tot_Z2 ?_
  unfold B_Z2
  rw [w64n_succ (by omega)]
  have key := loop_Z2_L6 (Q := fun d x y i j r => r = pisR (partialIns ltInt a b (5 - j).toNat i.toNat d.toArray)) (I := fun d x y i j => x = (a : Int) ∧ y = (b : Int) ∧ d.length = l.length ∧ (∃ p : Nat, i = (p : Int) ∧ a < p ∧ p ≤ b) ∧ ∃ q : Nat, j = (q : Int) ∧ q ≤ 5) (μ := fun _ _ _ _ j => (5 - j).toNat) ?_
  · exact key l a b ((a + 1 : Nat) : Int) 0 ⟨rfl, rfl, rfl, ⟨a + 1, rfl, by omega, by omega⟩, 0, rfl, by omega⟩
  rintro d _ _ _ _ ⟨rfl, rfl, hd, ⟨p, rfl, hp1, hp2⟩, q, rfl, hq⟩ again hag ih
  unfold B_Z2_L6b
  rw [Int.toNat_natCast, tot_cond]
  refine ⟨fun h => ?_, fun h => by
    have := of_decide_eq_false h
    rw [tot_some, show (5 - (q : Int)).toNat = 0 by omega, partialIns]; rfl⟩
  have h := of_decide_eq_true h
  obtain ⟨s, hs⟩ : ∃ s : Nat, s + 1 = 5 - q := ⟨5 - q - 1, by omega⟩
  rw [show (5 - (q : Int)).toNat = s + 1 by omega]
  have j5 : ∀ (d : List Int) (i : Nat), d.length = l.length → a < i → i ≤ b → Tot (fun σ => B_Z2_J5 (σ 0) (F_Z29 (σ 0)) (again σ) d (a : Int) (b : Int) (i : Int) (q : Int)) (fun r => r = pisR (partialIns ltInt a b s i d.toArray)) := by
    intro d i hd h1 h2
    unfold B_Z2_J5
    rw [w64n_succ (by omega)]
    have := ih d a b (i : Int) ((q + 1 : Nat) : Int) ⟨rfl, rfl, hd, ⟨i, rfl, h1, h2⟩, q + 1, rfl, by omega⟩ (by omega)
    rw [show (5 - ((q + 1 : Nat) : Int)).toNat = s by omega, Int.toNat_natCast] at this
    exact this
  have j3 : ∀ (d : List Int) (i : Nat), d.length = l.length → a < i → i < b → Tot (fun σ => B_Z2_J3 (σ 0) (F_Z29 (σ 0)) (again σ) d (a : Int) (b : Int) (i : Int) (q : Int)) (fun r => r = pisR (partialIns ltInt a b s i (fixUp ltInt b i d.toArray))) := by
    intro d i hd h1 h2
    unfold B_Z2_J3 fixUp
    rw [w64n_sub (by omega) (by omega), tot_cond]
    refine ⟨fun h => ?_, fun h => ?_⟩
    · have h := of_decide_eq_true h
      rw [if_pos (by omega), w64n_succ (by omega)]
      have key4 := loop_Z2_L4 hag (Q := fun d x y z u j r => r = pisR (partialIns ltInt a b s i (shiftUp ltInt b j.toNat d.toArray))) (I := fun d x y z u j => x = (a : Int) ∧ y = (b : Int) ∧ z = (i : Int) ∧ u = (q : Int) ∧ d.length = l.length ∧ ∃ c : Nat, j = (c : Int) ∧ 1 ≤ c ∧ c ≤ b) (μ := fun _ _ _ _ _ j => (b - j).toNat) ?_
      · have := key4 d a b i q ((i + 1 : Nat) : Int) ⟨rfl, rfl, rfl, rfl, hd, i + 1, rfl, by omega, by omega⟩
        rw [Int.toNat_natCast] at this
        exact this
      rintro d _ _ _ _ _ ⟨rfl, rfl, rfl, rfl, hd, c, rfl, hc1, hc2⟩ again4 hag4 ih4
      unfold B_Z2_L4b
      rw [Int.toNat_natCast, w64n_pred (by omega) (by omega), tot_cond]
      refine ⟨fun h => ?_, fun h => ?_⟩
      · have h := of_decide_eq_true h
        simp only [tot_chk, inbn, decide_eq_true_eq, Int.toNat_natCast, List.length_set]
        refine ⟨by omega, by omega, by omega, by omega, (less_tot _ _).bind ?_⟩
        rintro _ rfl
        rw [shiftUp, if_pos (by omega), ga, ga]
        simp only
        cases hlt : ltInt (d.getD c 0) (d.getD (c - 1) 0) with
        | false =>
          simp only [Bool.not_false, cond_true, if_true, tot_jn]
          exact j5 d i hd h1 (by omega)
        | true =>
          simp only [Bool.not_true, cond_false, Bool.false_eq_true, if_false, tot_chk, inbn, decide_eq_true_eq, Int.toNat_natCast, List.length_set]
          refine ⟨by omega, by omega, by omega, by omega, by omega, by omega, by omega, by omega, ?_⟩
          rw [w64n_succ (by omega), sw]
          have := fun (dd : List Int) (hdd : dd.length = l.length) => ih4 dd a b i q ((c + 1 : Nat) : Int) ⟨rfl, rfl, rfl, rfl, hdd, c + 1, rfl, by omega, by omega⟩ (by omega)
          simp only [Int.toNat_natCast] at this
          exact this _ (by rw [List.length_set, List.length_set]; exact hd)
      · have h := of_decide_eq_false h
        rw [tot_jn, shiftUp, if_neg (by omega)]
        exact j5 d i hd h1 (by omega)
    · have h := of_decide_eq_false h
      rw [tot_jn, if_neg (by omega)]
      exact j5 d i hd h1 (by omega)
  have key1 := loop_Z2_L1 hag (Q := fun d x y i j r => r = pisR (partialIns ltInt a b (s + 1) i.toNat d.toArray)) (I := fun d' x y i j => d' = d ∧ x = (a : Int) ∧ y = (b : Int) ∧ j = (q : Int) ∧ ∃ p : Nat, i = (p : Int) ∧ a < p ∧ p ≤ b) (μ := fun _ _ _ i _ => (b - i).toNat) ?_
  · have := key1 d a b (p : Int) q ⟨rfl, rfl, rfl, rfl, p, rfl, hp1, hp2⟩
    rw [Int.toNat_natCast] at this
    exact this
  clear hp1 hp2 p
  rintro d _ _ _ _ ⟨rfl, rfl, rfl, rfl, p, rfl, hp1, hp2⟩ again1 hag1 ih1
  unfold B_Z2_L1b
  rw [Int.toNat_natCast]
  have j0 : ∀ t : Bool, t = (decide (p < b) && !ltInt (d.getD p 0) (d.getD (p - 1) 0)) → Tot (fun σ => B_Z2_J0 (σ 0) (F_Z29 (σ 0)) (again1 σ) (again σ) d (a : Int) (b : Int) (p : Int) (q : Int) t) (fun r => r = pisR (partialIns ltInt a b (s + 1) p d.toArray)) := by
    intro t ht
    unfold B_Z2_J0
    rw [tot_cond]
    refine ⟨fun h => ?_, fun h => ?_⟩
    · rw [ht] at h
      have h2 := h
      simp only [Bool.and_eq_true, decide_eq_true_eq] at h2
      rw [w64n_succ (by omega), partialIns_succ, scanSorted_step (by rw [ga, ga]; exact h), ← partialIns_succ]
      have := ih1 d a b ((p + 1 : Nat) : Int) q ⟨rfl, rfl, rfl, rfl, p + 1, rfl, by omega, by omega⟩ (by omega)
      rw [Int.toNat_natCast] at this
      exact this
    · rw [ht] at h
      rw [partialIns_succ, scanSorted_stop (by rw [ga, ga]; exact h), tot_cond]
      refine ⟨fun he => ?_, fun he => ?_⟩
      · rw [beq_iff_eq] at he
        rw [tot_some, if_pos (by omega)]; rfl
      · have he : p ≠ b := by intro e; subst e; simp at he
        rw [if_neg he, w64n_sub (by omega) (by omega), tot_cond]
        refine ⟨fun h5 => ?_, fun h5 => ?_⟩
        · have h5 := of_decide_eq_true h5
          rw [tot_some, if_pos (by omega)]; rfl
        · have h5 := of_decide_eq_false h5
          rw [if_neg (by omega), w64n_pred (by omega) (by omega), w64n_sub (by omega) (by omega)]
          simp only [tot_chk, inbn, decide_eq_true_eq, Int.toNat_natCast, List.length_set]
          refine ⟨by omega, by omega, by omega, by omega, by omega, by omega, by omega, by omega, ?_⟩
          rw [sw]
          have hd' : ((d.set p (d.getD (p - 1) 0)).set (p - 1) (d.getD p 0)).length = l.length := by rw [List.length_set, List.length_set]; exact hd
          revert hd'
          generalize (d.set p (d.getD (p - 1) 0)).set (p - 1) (d.getD p 0) = d'
          intro hd'
          unfold fixDown
          rw [tot_cond]
          refine ⟨fun h6 => ?_, fun h6 => ?_⟩
          · have h6 := of_decide_eq_true h6
            rw [if_pos (by omega)]
            have key2 := loop_Z2_L2 hag (Q := fun d x y z u j r => r = pisR (partialIns ltInt a b s p (fixUp ltInt b p (shiftDown ltInt j.toNat d.toArray)))) (I := fun d x y z u j => x = (a : Int) ∧ y = (b : Int) ∧ z = (p : Int) ∧ u = (q : Int) ∧ d.length = l.length ∧ ∃ c : Nat, j = (c : Int) ∧ c < b) (μ := fun _ _ _ _ _ j => j.toNat) ?_
            · have := key2 d' a b p q ((p - 1 : Nat) : Int) ⟨rfl, rfl, rfl, rfl, hd', p - 1, rfl, by omega⟩
              rw [Int.toNat_natCast] at this
              exact this
            rintro d _ _ _ _ _ ⟨rfl, rfl, rfl, rfl, hd, c, rfl, hc⟩ again2 hag2 ih2
            unfold B_Z2_L2b
            rw [Int.toNat_natCast, tot_cond]
            refine ⟨fun h => ?_, fun h => ?_⟩
            · have h := of_decide_eq_true h
              obtain ⟨e, rfl⟩ : ∃ e, c = e + 1 := ⟨c - 1, by omega⟩
              rw [w64n_pred (by omega) (by omega), Nat.add_sub_cancel]
              simp only [tot_chk, inbn, decide_eq_true_eq, Int.toNat_natCast, List.length_set]
              refine ⟨by omega, by omega, by omega, by omega, (less_tot _ _).bind ?_⟩
              rintro _ rfl
              rw [shiftDown, ga, ga]
              simp only
              cases hlt : ltInt (d.getD (e + 1) 0) (d.getD e 0) with
              | false =>
                simp only [Bool.not_false, cond_true, if_true, tot_jn]
                exact j3 d p hd hp1 (by omega)
              | true =>
                simp only [Bool.not_true, cond_false, Bool.false_eq_true, if_false, tot_chk, inbn, decide_eq_true_eq, Int.toNat_natCast, List.length_set]
                refine ⟨by omega, by omega, by omega, by omega, by omega, by omega, by omega, by omega, ?_⟩
                rw [sw]
                have := fun (dd : List Int) (hdd : dd.length = l.length) => ih2 dd a b p q (e : Int) ⟨rfl, rfl, rfl, rfl, hdd, e, rfl, by omega⟩ (by omega)
                simp only [Int.toNat_natCast] at this
                exact this _ (by rw [List.length_set, List.length_set]; exact hd)
            · have h := of_decide_eq_false h
              obtain rfl : c = 0 := by omega
              rw [tot_jn, shiftDown]
              exact j3 d p hd hp1 (by omega)
          · have h6 := of_decide_eq_false h6
            rw [if_neg (by omega), tot_jn]
            exact j3 d' p hd' hp1 (by omega)
  rw [tot_cond]
  refine ⟨fun h => ?_, fun h => ?_⟩
  · have h := of_decide_eq_true h
    rw [w64n_pred (by omega) (by omega)]
    simp only [tot_chk, inbn, decide_eq_true_eq, Int.toNat_natCast, List.length_set]
    refine ⟨by omega, by omega, by omega, by omega, (less_tot _ _).bind ?_⟩
    rintro _ rfl
    rw [tot_jn]
    exact j0 _ (by rw [decide_eq_true (by omega : p < b)]; rfl)
  · have h := of_decide_eq_false h
    rw [tot_jn]
    exact j0 _ (by rw [decide_eq_false (by omega : ¬ p < b)]; rfl)

theorem order2_tot {l : List Int} {a b : Nat} (s : Int) (ha : a < l.length) (hb : b < l.length) :
    Tot (fun σ => F_Z14 (σ 0) l (a : Int) (b : Int) s) (fun r => ∃ (x y : Nat) (z : Int), r = (((x : Int), (y : Int), ()), ((z, ()), ())) ∧ (x = a ∧ y = b ∨ x = b ∧ y = a)) := by
  refine tot_Z14 ?_
  unfold B_Z14
  simp only [tot_chk, inbn]
  refine ⟨hb, ha, (less_tot _ _).bind ?_⟩
  rintro _ rfl
  rw [tot_cond]
  refine ⟨fun _ => ?_, fun _ => ?_⟩
  · rw [tot_some]; exact ⟨b, a, _, rfl, Or.inr ⟨rfl, rfl⟩⟩
  · rw [tot_some]; exact ⟨a, b, _, rfl, Or.inl ⟨rfl, rfl⟩⟩
theorem median_tot {l : List Int} {a b c : Nat} (s : Int) (ha : a < l.length) (hb : b < l.length) (hc : c < l.length) :
    Tot (fun σ => F_Z15 (σ 0) l (a : Int) (b : Int) (c : Int) s) (fun r => ∃ (x : Nat) (z : Int), r = (((x : Int), ()), ((z, ()), ())) ∧ (x = a ∨ x = b ∨ x = c)) := by
  refine tot_Z15 ?_
  unfold B_Z15
  refine (order2_tot s ha hb).bind ?_
  rintro _ ⟨x, y, z, rfl, h1⟩
  refine (order2_tot (a := y) (b := c) z (by omega) hc).bind ?_
  rintro _ ⟨x2, y2, z2, rfl, h2⟩
  refine (order2_tot (a := x) (b := x2) z2 (by omega) (by omega)).bind ?_
  rintro _ ⟨x3, y3, z3, rfl, h3⟩
  rw [tot_some]
  exact ⟨y3, z3, rfl, by omega⟩
theorem medianAdj_tot {l : List Int} {a : Nat} (s : Int) (h1 : 1 ≤ a) (ha : a + 1 < l.length) (hl : l.length ≤ 1000) :
    Tot (fun σ => F_Z4 (σ 0) l (a : Int) s) (fun r => ∃ (x : Nat) (z : Int), r = (((x : Int), ()), ((z, ()), ())) ∧ (x = a - 1 ∨ x = a ∨ x = a + 1)) := by
  refine tot_Z4 ?_
  unfold B_Z4
  rw [w64n_pred h1 (by omega), w64n_succ (by omega)]
  refine (median_tot s (by omega) (by omega) ha).bind ?_
  rintro _ ⟨x, z, rfl, h⟩
  rw [tot_some]
  exact ⟨x, z, rfl, h⟩
theorem pivot_tot {l : List Int} {a b : Nat} (hb : b ≤ l.length) (hl : l.length ≤ 1000) (ha : a + 12 < b) :
    Tot (fun σ => F_Z8 (σ 0) l (a : Int) (b : Int)) (fun r => ∃ (p : Nat) (h : Int), r = (((p : Int), h, ()), ()) ∧ a ≤ p ∧ p < b) := by
  refine tot_Z8 ?_
  unfold B_Z8
  have e4 : w64 (((b - a : Nat) : Int).tdiv 4) = (((b - a) / 4 : Nat) : Int) := by
    rw [Int.tdiv_eq_ediv_of_nonneg (by omega), w64_id (by omega) (by omega)]; omega
  have e1 : w64 ((((b - a) / 4 : Nat) : Int) * 1) = (((b - a) / 4 : Nat) : Int) := by rw [w64_id (by omega) (by omega)]; omega
  have e2 : w64 ((((b - a) / 4 : Nat) : Int) * 2) = (((b - a) / 4 * 2 : Nat) : Int) := by rw [w64_id (by omega) (by omega)]; omega
  have e3 : w64 ((((b - a) / 4 : Nat) : Int) * 3) = (((b - a) / 4 * 3 : Nat) : Int) := by rw [w64_id (by omega) (by omega)]; omega
  rw [w64n_sub (by omega) (by omega), e4, e1, e2, e3, w64n_add (by omega), w64n_add (by omega), w64n_add (by omega)]
  have j0 : ∀ (i j k : Nat) (s : Int), a ≤ i → i < b → a ≤ j → j < b → a ≤ k → k < b → Tot (fun σ => B_Z8_J0 (σ 0) (F_Z4 (σ 0)) (F_Z15 (σ 0)) l s (i : Int) (j : Int) (k : Int)) (fun r => ∃ (p : Nat) (h : Int), r = (((p : Int), h, ()), ()) ∧ a ≤ p ∧ p < b) := by
    intro i j k s h1 h2 h3 h4 h5 h6
    unfold B_Z8_J0
    refine (median_tot s (by omega) (by omega) (by omega)).bind ?_
    rintro _ ⟨x, z, rfl, h⟩
    rw [tot_jn]
    unfold B_Z8_J1
    simp only [tot_cond, tot_some]
    exact ⟨fun _ => ⟨x, _, rfl, by omega, by omega⟩, fun _ => ⟨fun _ => ⟨x, _, rfl, by omega, by omega⟩, fun _ => ⟨x, _, rfl, by omega, by omega⟩⟩⟩
  rw [tot_cond]
  refine ⟨fun _ => ?_, fun h => by have := of_decide_eq_false h; omega⟩
  rw [tot_cond]
  refine ⟨fun h => ?_, fun h => ?_⟩
  · have h := of_decide_eq_true h
    refine (medianAdj_tot 0 (by omega) (by omega) hl).bind ?_
    rintro _ ⟨x1, z1, rfl, h1⟩
    refine (medianAdj_tot z1 (by omega) (by omega) hl).bind ?_
    rintro _ ⟨x2, z2, rfl, h2⟩
    refine (medianAdj_tot z2 (by omega) (by omega) hl).bind ?_
    rintro _ ⟨x3, z3, rfl, h3⟩
    rw [tot_jn]
    exact j0 x1 x2 x3 _ (by omega) (by omega) (by omega) (by omega) (by omega) (by omega)
  · rw [tot_jn]
    exact j0 _ _ _ _ (by omega) (by omega) (by omega) (by omega) (by omega) (by omega)
end Go.Gx

/-
  Laws, part SO4: slices.Sort: the partitions.
-/
set_option linter.unusedVariables false
set_option linter.unusedSimpArgs false
namespace Go.Gx
open Go.Sort
theorem scanUp_step {p : Int → Bool} {d : Array Int} {j i : Nat} (h : (decide (i ≤ j) && p d[i]!) = true) : scanUp p d j i = scanUp p d j (i + 1) := by
  rw [scanUp, if_pos h]
theorem scanUp_stop {p : Int → Bool} {d : Array Int} {j i : Nat} (h : (decide (i ≤ j) && p d[i]!) = false) : scanUp p d j i = i := by
  rw [scanUp, if_neg (by rw [h]; decide)]
theorem scanDown_step {p : Int → Bool} {d : Array Int} {j i : Nat} (h : (decide (i ≤ j + 1) && p d[j + 1]!) = true) : scanDown p d i (j + 1) = scanDown p d i j := by
  rw [scanDown, if_pos h]
theorem scanDown_stop {p : Int → Bool} {d : Array Int} {j i : Nat} (hi : 0 < i) (h : (decide (i ≤ j) && p d[j]!) = false) : scanDown p d i j = j := by
  cases j with
  | zero => rw [scanDown]
  | succ j => rw [scanDown, if_neg (by rw [h]; decide)]

def peqR (x : Nat × Array Int) : (Int × Unit) × (List Int × Unit) := (((x.1 : Int), ()), (x.2.toList, ()))
/-- What is left after the upward scan; after both. -/
def peqC (a i j : Nat) (d : Array Int) : Nat × Array Int := if i > j then (i, d) else partEqLoop ltInt a (i + 1) (j - 1) (swp d i j)
theorem peq_eq (a i j : Nat) (d : Array Int) : partEqLoop ltInt a i j d = peqC a (scanUp (fun x => !ltInt d[a]! x) d j i) (scanDown (fun x => ltInt d[a]! x) d (scanUp (fun x => !ltInt d[a]! x) d j i) j) d := partEqLoop_eq ltInt a i j d
theorem partEq_tot {l : List Int} {a b pivot : Nat} (hb : b ≤ l.length) (hl : l.length ≤ 1000) (h1 : a ≤ pivot) (h2 : pivot < b) :
    Tot (fun σ => F_Z3 (σ 0) l (a : Int) (b : Int) (pivot : Int)) (fun r => r = peqR (partitionEqual ltInt l.toArray a b pivot)) := by
  refine tot_Z3 ?_
  unfold B_Z3
  rw [w64n_succ (by omega), w64n_pred (by omega) (by omega)]
  simp only [tot_chk, inbn, decide_eq_true_eq, Int.toNat_natCast, List.length_set]
  refine ⟨by omega, by omega, by omega, by omega, by omega, by omega, by omega, by omega, ?_⟩
  unfold partitionEqual
  rw [sw]
  have hd' : ((l.set a (l.getD pivot 0)).set pivot (l.getD a 0)).length = l.length := by rw [List.length_set, List.length_set]
  revert hd'
  generalize (l.set a (l.getD pivot 0)).set pivot (l.getD a 0) = d'
  intro hd'
  have key := loop_Z3_L4 (Q := fun d x i j r => r = peqR (partEqLoop ltInt a i.toNat j.toNat d.toArray)) (I := fun d x i j => x = (a : Int) ∧ d.length = l.length ∧ ∃ p q : Nat, i = (p : Int) ∧ j = (q : Int) ∧ a < p ∧ p ≤ 2000 - q ∧ q < b) (μ := fun _ _ i j => (2000 + j - i).toNat) ?_
  · have := key d' a ((a + 1 : Nat) : Int) ((b - 1 : Nat) : Int) ⟨rfl, hd', a + 1, b - 1, rfl, rfl, by omega, by omega, by omega⟩
    rw [Int.toNat_natCast, Int.toNat_natCast] at this
    exact this
  rintro d _ _ _ ⟨rfl, hd, p, q, rfl, rfl, h3, h4, h5⟩ again hag ih
  unfold B_Z3_L4b
  rw [Int.toNat_natCast, Int.toNat_natCast]
  -- what both scans come to
  have c3 : ∀ i : Nat, p ≤ i → i ≤ q + 1 ∨ i = p → Tot (fun σ => B_Z3_L3 (σ 0) (F_Z29 (σ 0)) (again σ) (σ 0) (d, (a : Int), (i : Int), (q : Int), ())) (fun r => r = peqR (peqC a i (scanDown (fun x => ltInt d.toArray[a]! x) d.toArray i q) d.toArray)) := by
    intro i hi1 hi2
    have key3 := loop_Z3_L3 hag (Q := fun d' x i' j r => r = peqR (peqC a i (scanDown (fun x => ltInt d.toArray[a]! x) d.toArray i j.toNat) d.toArray)) (I := fun d' x i' j => d' = d ∧ x = (a : Int) ∧ i' = (i : Int) ∧ ∃ c : Nat, j = (c : Int) ∧ c ≤ q) (μ := fun _ _ _ j => j.toNat) ?_
    · have := key3 d a i (q : Int) ⟨rfl, rfl, rfl, q, rfl, Nat.le_refl _⟩
      rw [Int.toNat_natCast] at this
      exact this
    rintro d _ _ _ ⟨rfl, rfl, rfl, c, rfl, hc⟩ again3 hag3 ih3
    unfold B_Z3_L3b
    rw [Int.toNat_natCast]
    have j2 : ∀ t : Bool, t = (decide (i ≤ c) && ltInt (d.getD a 0) (d.getD c 0)) → Tot (fun σ => B_Z3_J2 (σ 0) (F_Z29 (σ 0)) (again3 σ) (again σ) d (a : Int) (i : Int) (c : Int) t) (fun r => r = peqR (peqC a i (scanDown (fun x => ltInt d.toArray[a]! x) d.toArray i c) d.toArray)) := by
      intro t ht
      unfold B_Z3_J2
      rw [tot_cond]
      refine ⟨fun h => ?_, fun h => ?_⟩
      · rw [ht] at h
        have h6 := h
        simp only [Bool.and_eq_true, decide_eq_true_eq] at h6
        obtain ⟨e, rfl⟩ : ∃ e, c = e + 1 := ⟨c - 1, by omega⟩
        rw [w64n_pred (by omega) (by omega), Nat.add_sub_cancel, scanDown_step (by simp only [ga]; exact h)]
        have := ih3 d a i (e : Int) ⟨rfl, rfl, rfl, e, rfl, by omega⟩ (by omega)
        rw [Int.toNat_natCast] at this
        exact this
      · rw [ht] at h
        rw [scanDown_stop (by omega) (by simp only [ga]; exact h), tot_cond]
        unfold peqC
        refine ⟨fun h6 => ?_, fun h6 => ?_⟩
        · have h6 := of_decide_eq_true h6
          rw [tot_some, if_pos (by omega)]; rfl
        · have h6 := of_decide_eq_false h6
          rw [if_neg (by omega)]
          simp only [tot_chk, inbn, decide_eq_true_eq, Int.toNat_natCast, List.length_set]
          refine ⟨by omega, by omega, by omega, by omega, by omega, by omega, by omega, by omega, ?_⟩
          rw [w64n_succ (by omega), w64n_pred (by omega) (by omega), sw]
          have := fun (dd : List Int) (hdd : dd.length = l.length) => ih dd a ((i + 1 : Nat) : Int) ((c - 1 : Nat) : Int) ⟨rfl, hdd, i + 1, c - 1, rfl, rfl, by omega, by omega, by omega⟩ (by omega)
          simp only [Int.toNat_natCast] at this
          exact this _ (by rw [List.length_set, List.length_set]; exact hd)
    rw [tot_cond]
    refine ⟨fun h => ?_, fun h => ?_⟩
    · have h := of_decide_eq_true h
      simp only [tot_chk, inbn, decide_eq_true_eq, Int.toNat_natCast, List.length_set]
      refine ⟨by omega, by omega, by omega, by omega, (less_tot _ _).bind ?_⟩
      rintro _ rfl
      rw [tot_jn]
      exact j2 _ (by rw [decide_eq_true (by omega : i ≤ c)]; rfl)
    · have h := of_decide_eq_false h
      rw [tot_jn]
      exact j2 _ (by rw [decide_eq_false (by omega : ¬ i ≤ c)]; rfl)
  rw [peq_eq]
  have key1 := loop_Z3_L1 hag (Q := fun d' x i j r => r = peqR (peqC a (scanUp (fun x => !ltInt d.toArray[a]! x) d.toArray q i.toNat) (scanDown (fun x => ltInt d.toArray[a]! x) d.toArray (scanUp (fun x => !ltInt d.toArray[a]! x) d.toArray q i.toNat) q) d.toArray)) (I := fun d' x i' j => d' = d ∧ x = (a : Int) ∧ j = (q : Int) ∧ ∃ i : Nat, i' = (i : Int) ∧ p ≤ i ∧ (i ≤ q + 1 ∨ i = p)) (μ := fun _ _ i _ => (3000 - i).toNat) ?_
  · have := key1 d a (p : Int) q ⟨rfl, rfl, rfl, p, rfl, Nat.le_refl _, Or.inr rfl⟩
    rw [Int.toNat_natCast] at this
    exact this
  rintro d _ _ _ ⟨rfl, rfl, rfl, i, rfl, hi1, hi2⟩ again1 hag1 ih1
  unfold B_Z3_L1b
  rw [Int.toNat_natCast]
  have j0 : ∀ t : Bool, t = (decide (i ≤ q) && !ltInt (d.getD a 0) (d.getD i 0)) → Tot (fun σ => B_Z3_J0 (σ 0) (F_Z29 (σ 0)) (again1 σ) (again σ) d (a : Int) (i : Int) (q : Int) t) (fun r => r = peqR (peqC a (scanUp (fun x => !ltInt d.toArray[a]! x) d.toArray q i) (scanDown (fun x => ltInt d.toArray[a]! x) d.toArray (scanUp (fun x => !ltInt d.toArray[a]! x) d.toArray q i) q) d.toArray)) := by
    intro t ht
    unfold B_Z3_J0
    rw [tot_cond]
    refine ⟨fun h => ?_, fun h => ?_⟩
    · rw [ht] at h
      have h6 := h
      simp only [Bool.and_eq_true, decide_eq_true_eq] at h6
      rw [w64n_succ (by omega), scanUp_step (by simp only [ga]; exact h)]
      have := ih1 d a ((i + 1 : Nat) : Int) q ⟨rfl, rfl, rfl, i + 1, rfl, by omega, by omega⟩ (by omega)
      rw [Int.toNat_natCast] at this
      exact this
    · rw [ht] at h
      rw [scanUp_stop (by simp only [ga]; exact h)]
      exact c3 i hi1 hi2
  rw [tot_cond]
  refine ⟨fun h => ?_, fun h => ?_⟩
  · have h := of_decide_eq_true h
    simp only [tot_chk, inbn, decide_eq_true_eq, Int.toNat_natCast, List.length_set]
    refine ⟨by omega, by omega, by omega, by omega, (less_tot _ _).bind ?_⟩
    rintro _ rfl
    rw [tot_jn]
    exact j0 _ (by rw [decide_eq_true (by omega : i ≤ q)]; rfl)
  · have h := of_decide_eq_false h
    rw [tot_jn]
    exact j0 _ (by rw [decide_eq_false (by omega : ¬ i ≤ q)]; rfl)
end Go.Gx

/-
  Laws, part SO5: slices.Sort: the other partition.
-/
set_option linter.unusedVariables false
set_option linter.unusedSimpArgs false
namespace Go.Gx
open Go.Sort
def parR (x : Nat × Bool × Array Int) : (Int × Bool × Unit) × (List Int × Unit) := (((x.1 : Int), x.2.1, ()), (x.2.2.toList, ()))
def parE (a : Nat) (x : Nat × Array Int) : Nat × Bool × Array Int := (x.1, false, swp x.2 x.1 a)
def parC (a i j : Nat) (d : Array Int) : Nat × Array Int := if i > j then (j, d) else partLoop ltInt a (i + 1) (j - 1) (swp d i j)
def parC1 (a i j : Nat) (d : Array Int) : Nat × Bool × Array Int := if i > j then (j, true, swp d j a) else parE a (partLoop ltInt a (i + 1) (j - 1) (swp d i j))
theorem par_eq (a i j : Nat) (d : Array Int) : partLoop ltInt a i j d = parC a (scanUp (fun x => ltInt x d[a]!) d j i) (scanDown (fun x => !ltInt x d[a]!) d (scanUp (fun x => ltInt x d[a]!) d j i) j) d := partLoop_eq ltInt a i j d
theorem partition_tot {l : List Int} {a b pivot : Nat} (hb : b ≤ l.length) (hl : l.length ≤ 1000) (h1 : a ≤ pivot) (h2 : pivot < b) :
    Tot (fun σ => F_Z9 (σ 0) l (a : Int) (b : Int) (pivot : Int)) (fun r => r = parR (partition ltInt l.toArray a b pivot)) := by
  refine tot_Z9 ?_
  unfold B_Z9
  rw [w64n_succ (by omega), w64n_pred (by omega) (by omega)]
  simp only [tot_chk, inbn, decide_eq_true_eq, Int.toNat_natCast, List.length_set]
  refine ⟨by omega, by omega, by omega, by omega, by omega, by omega, by omega, by omega, ?_⟩
  have e0 : partition ltInt l.toArray a b pivot = parC1 a (scanUp (fun x => ltInt x (swp l.toArray a pivot)[a]!) (swp l.toArray a pivot) (b - 1) (a + 1)) (scanDown (fun x => !ltInt x (swp l.toArray a pivot)[a]!) (swp l.toArray a pivot) (scanUp (fun x => ltInt x (swp l.toArray a pivot)[a]!) (swp l.toArray a pivot) (b - 1) (a + 1)) (b - 1)) (swp l.toArray a pivot) := rfl
  rw [e0, sw]
  have hd' : ((l.set a (l.getD pivot 0)).set pivot (l.getD a 0)).length = l.length := by rw [List.length_set, List.length_set]
  revert hd'
  generalize (l.set a (l.getD pivot 0)).set pivot (l.getD a 0) = d'
  intro hd'
  -- the second loop
  have rest : ∀ (d : List Int) (p q : Nat), d.length = l.length → a < p → p ≤ 2000 - q → q < b → Tot (fun σ => B_Z9_L8 (σ 0) (F_Z29 (σ 0)) (σ 0) (d, (a : Int), (p : Int), (q : Int), ())) (fun r => r = parR (parE a (partLoop ltInt a p q d.toArray))) := by
    intro d p q hd h3 h4 h5
    have key := loop_Z9_L8 (Q := fun d x i j r => r = parR (parE a (partLoop ltInt a i.toNat j.toNat d.toArray))) (I := fun d x i j => x = (a : Int) ∧ d.length = l.length ∧ ∃ p q : Nat, i = (p : Int) ∧ j = (q : Int) ∧ a < p ∧ p ≤ 2000 - q ∧ q < b) (μ := fun _ _ i j => (2000 + j - i).toNat) ?_
    · have := key d a p q ⟨rfl, hd, p, q, rfl, rfl, h3, h4, h5⟩
      rw [Int.toNat_natCast, Int.toNat_natCast] at this
      exact this
    clear h3 h4 h5 hd d p q
    rintro d _ _ _ ⟨rfl, hd, p, q, rfl, rfl, h3, h4, h5⟩ again hag ih
    unfold B_Z9_L8b
    rw [Int.toNat_natCast, Int.toNat_natCast]
    have c3 : ∀ i : Nat, p ≤ i → i ≤ q + 1 ∨ i = p → Tot (fun σ => B_Z9_L7 (σ 0) (F_Z29 (σ 0)) (again σ) (σ 0) (d, (a : Int), (i : Int), (q : Int), ())) (fun r => r = parR (parE a (parC a i (scanDown (fun x => !ltInt x d.toArray[a]!) d.toArray i q) d.toArray))) := by
      intro i hi1 hi2
      have key3 := loop_Z9_L7 hag (Q := fun d' x i' j r => r = parR (parE a (parC a i (scanDown (fun x => !ltInt x d.toArray[a]!) d.toArray i j.toNat) d.toArray))) (I := fun d' x i' j => d' = d ∧ x = (a : Int) ∧ i' = (i : Int) ∧ ∃ c : Nat, j = (c : Int) ∧ c ≤ q) (μ := fun _ _ _ j => j.toNat) ?_
      · have := key3 d a i (q : Int) ⟨rfl, rfl, rfl, q, rfl, Nat.le_refl _⟩
        rw [Int.toNat_natCast] at this
        exact this
      rintro d _ _ _ ⟨rfl, rfl, rfl, c, rfl, hc⟩ again3 hag3 ih3
      unfold B_Z9_L7b
      rw [Int.toNat_natCast]
      have j2 : ∀ t : Bool, t = (decide (i ≤ c) && !ltInt (d.getD c 0) (d.getD a 0)) → Tot (fun σ => B_Z9_J6 (σ 0) (F_Z29 (σ 0)) (again3 σ) (again σ) d (a : Int) (i : Int) (c : Int) t) (fun r => r = parR (parE a (parC a i (scanDown (fun x => !ltInt x d.toArray[a]!) d.toArray i c) d.toArray))) := by
        intro t ht
        unfold B_Z9_J6
        rw [tot_cond]
        refine ⟨fun h => ?_, fun h => ?_⟩
        · rw [ht] at h
          have h6 := h
          simp only [Bool.and_eq_true, decide_eq_true_eq] at h6
          obtain ⟨e, rfl⟩ : ∃ e, c = e + 1 := ⟨c - 1, by omega⟩
          rw [w64n_pred (by omega) (by omega), Nat.add_sub_cancel, scanDown_step (by simp only [ga]; exact h)]
          have := ih3 d a i (e : Int) ⟨rfl, rfl, rfl, e, rfl, by omega⟩ (by omega)
          rw [Int.toNat_natCast] at this
          exact this
        · rw [ht] at h
          rw [scanDown_stop (by omega) (by simp only [ga]; exact h), tot_cond]
          unfold parC
          refine ⟨fun h6 => ?_, fun h6 => ?_⟩
          · have h6 := of_decide_eq_true h6
            rw [if_pos (by omega)]
            simp only [tot_chk, inbn, decide_eq_true_eq, Int.toNat_natCast, List.length_set]
            refine ⟨by omega, by omega, by omega, by omega, by omega, by omega, by omega, by omega, ?_⟩
            rw [tot_some]
            unfold parE
            rw [sw]; rfl
          · have h6 := of_decide_eq_false h6
            rw [if_neg (by omega)]
            simp only [tot_chk, inbn, decide_eq_true_eq, Int.toNat_natCast, List.length_set]
            refine ⟨by omega, by omega, by omega, by omega, by omega, by omega, by omega, by omega, ?_⟩
            rw [w64n_succ (by omega), w64n_pred (by omega) (by omega), sw]
            have := fun (dd : List Int) (hdd : dd.length = l.length) => ih dd a ((i + 1 : Nat) : Int) ((c - 1 : Nat) : Int) ⟨rfl, hdd, i + 1, c - 1, rfl, rfl, by omega, by omega, by omega⟩ (by omega)
            simp only [Int.toNat_natCast] at this
            exact this _ (by rw [List.length_set, List.length_set]; exact hd)
      rw [tot_cond]
      refine ⟨fun h => ?_, fun h => ?_⟩
      · have h := of_decide_eq_true h
        simp only [tot_chk, inbn, decide_eq_true_eq, Int.toNat_natCast, List.length_set]
        refine ⟨by omega, by omega, by omega, by omega, (less_tot _ _).bind ?_⟩
        rintro _ rfl
        rw [tot_jn]
        exact j2 _ (by rw [decide_eq_true (by omega : i ≤ c)]; rfl)
      · have h := of_decide_eq_false h
        rw [tot_jn]
        exact j2 _ (by rw [decide_eq_false (by omega : ¬ i ≤ c)]; rfl)
    rw [par_eq]
    have key1 := loop_Z9_L5 hag (Q := fun d' x i j r => r = parR (parE a (parC a (scanUp (fun x => ltInt x d.toArray[a]!) d.toArray q i.toNat) (scanDown (fun x => !ltInt x d.toArray[a]!) d.toArray (scanUp (fun x => ltInt x d.toArray[a]!) d.toArray q i.toNat) q) d.toArray))) (I := fun d' x i' j => d' = d ∧ x = (a : Int) ∧ j = (q : Int) ∧ ∃ i : Nat, i' = (i : Int) ∧ p ≤ i ∧ (i ≤ q + 1 ∨ i = p)) (μ := fun _ _ i _ => (3000 - i).toNat) ?_
    · have := key1 d a (p : Int) q ⟨rfl, rfl, rfl, p, rfl, Nat.le_refl _, Or.inr rfl⟩
      rw [Int.toNat_natCast] at this
      exact this
    rintro d _ _ _ ⟨rfl, rfl, rfl, i, rfl, hi1, hi2⟩ again1 hag1 ih1
    unfold B_Z9_L5b
    rw [Int.toNat_natCast]
    have j0 : ∀ t : Bool, t = (decide (i ≤ q) && ltInt (d.getD i 0) (d.getD a 0)) → Tot (fun σ => B_Z9_J4 (σ 0) (F_Z29 (σ 0)) (again1 σ) (again σ) d (a : Int) (i : Int) (q : Int) t) (fun r => r = parR (parE a (parC a (scanUp (fun x => ltInt x d.toArray[a]!) d.toArray q i) (scanDown (fun x => !ltInt x d.toArray[a]!) d.toArray (scanUp (fun x => ltInt x d.toArray[a]!) d.toArray q i) q) d.toArray))) := by
      intro t ht
      unfold B_Z9_J4
      rw [tot_cond]
      refine ⟨fun h => ?_, fun h => ?_⟩
      · rw [ht] at h
        have h6 := h
        simp only [Bool.and_eq_true, decide_eq_true_eq] at h6
        rw [w64n_succ (by omega), scanUp_step (by simp only [ga]; exact h)]
        have := ih1 d a ((i + 1 : Nat) : Int) q ⟨rfl, rfl, rfl, i + 1, rfl, by omega, by omega⟩ (by omega)
        rw [Int.toNat_natCast] at this
        exact this
      · rw [ht] at h
        rw [scanUp_stop (by simp only [ga]; exact h)]
        exact c3 i hi1 hi2
    rw [tot_cond]
    refine ⟨fun h => ?_, fun h => ?_⟩
    · have h := of_decide_eq_true h
      simp only [tot_chk, inbn, decide_eq_true_eq, Int.toNat_natCast, List.length_set]
      refine ⟨by omega, by omega, by omega, by omega, (less_tot _ _).bind ?_⟩
      rintro _ rfl
      rw [tot_jn]
      exact j0 _ (by rw [decide_eq_true (by omega : i ≤ q)]; rfl)
    · have h := of_decide_eq_false h
      rw [tot_jn]
      exact j0 _ (by rw [decide_eq_false (by omega : ¬ i ≤ q)]; rfl)
  -- the first round
  obtain ⟨q, hq⟩ : ∃ q, q = b - 1 := ⟨_, rfl⟩
  rw [← hq]
  have c3 : ∀ i : Nat, a + 1 ≤ i → i ≤ q + 1 ∨ i = a + 1 → Tot (fun σ => B_Z9_L3 (σ 0) (F_Z29 (σ 0)) (σ 0) (d', (a : Int), (i : Int), (q : Int), ())) (fun r => r = parR (parC1 a i (scanDown (fun x => !ltInt x d'.toArray[a]!) d'.toArray i q) d'.toArray)) := by
    intro i hi1 hi2
    have key3 := loop_Z9_L3 (Q := fun d x i' j r => r = parR (parC1 a i (scanDown (fun x => !ltInt x d'.toArray[a]!) d'.toArray i j.toNat) d'.toArray)) (I := fun d x i' j => d = d' ∧ x = (a : Int) ∧ i' = (i : Int) ∧ ∃ c : Nat, j = (c : Int) ∧ c ≤ q) (μ := fun _ _ _ j => j.toNat) ?_
    · have := key3 d' a i (q : Int) ⟨rfl, rfl, rfl, q, rfl, Nat.le_refl _⟩
      rw [Int.toNat_natCast] at this
      exact this
    rintro d _ _ _ ⟨rfl, rfl, rfl, c, rfl, hc⟩ again3 hag3 ih3
    unfold B_Z9_L3b
    rw [Int.toNat_natCast]
    have j2 : ∀ t : Bool, t = (decide (i ≤ c) && !ltInt (d.getD c 0) (d.getD a 0)) → Tot (fun σ => B_Z9_J2 (σ 0) (F_Z29 (σ 0)) (again3 σ) d (a : Int) (i : Int) (c : Int) t) (fun r => r = parR (parC1 a i (scanDown (fun x => !ltInt x d.toArray[a]!) d.toArray i c) d.toArray)) := by
      intro t ht
      unfold B_Z9_J2
      rw [tot_cond]
      refine ⟨fun h => ?_, fun h => ?_⟩
      · rw [ht] at h
        have h6 := h
        simp only [Bool.and_eq_true, decide_eq_true_eq] at h6
        obtain ⟨e, rfl⟩ : ∃ e, c = e + 1 := ⟨c - 1, by omega⟩
        rw [w64n_pred (by omega) (by omega), Nat.add_sub_cancel, scanDown_step (by simp only [ga]; exact h)]
        have := ih3 d a i (e : Int) ⟨rfl, rfl, rfl, e, rfl, by omega⟩ (by omega)
        rw [Int.toNat_natCast] at this
        exact this
      · rw [ht] at h
        rw [scanDown_stop (by omega) (by simp only [ga]; exact h), tot_cond]
        unfold parC1
        refine ⟨fun h6 => ?_, fun h6 => ?_⟩
        · have h6 := of_decide_eq_true h6
          rw [if_pos (by omega)]
          simp only [tot_chk, inbn, decide_eq_true_eq, Int.toNat_natCast, List.length_set]
          refine ⟨by omega, by omega, by omega, by omega, by omega, by omega, by omega, by omega, ?_⟩
          rw [tot_some, sw]; rfl
        · have h6 := of_decide_eq_false h6
          rw [if_neg (by omega)]
          simp only [tot_chk, inbn, decide_eq_true_eq, Int.toNat_natCast, List.length_set]
          refine ⟨by omega, by omega, by omega, by omega, by omega, by omega, by omega, by omega, ?_⟩
          rw [w64n_succ (by omega), w64n_pred (by omega) (by omega), sw]
          exact rest _ _ _ (by rw [List.length_set, List.length_set]; exact hd') (by omega) (by omega) (by omega)
    rw [tot_cond]
    refine ⟨fun h => ?_, fun h => ?_⟩
    · have h := of_decide_eq_true h
      simp only [tot_chk, inbn, decide_eq_true_eq, Int.toNat_natCast, List.length_set]
      refine ⟨by omega, by omega, by omega, by omega, (less_tot _ _).bind ?_⟩
      rintro _ rfl
      rw [tot_jn]
      exact j2 _ (by rw [decide_eq_true (by omega : i ≤ c)]; rfl)
    · have h := of_decide_eq_false h
      rw [tot_jn]
      exact j2 _ (by rw [decide_eq_false (by omega : ¬ i ≤ c)]; rfl)
  have key1 := loop_Z9_L1 (Q := fun d x i j r => r = parR (parC1 a (scanUp (fun x => ltInt x d'.toArray[a]!) d'.toArray q i.toNat) (scanDown (fun x => !ltInt x d'.toArray[a]!) d'.toArray (scanUp (fun x => ltInt x d'.toArray[a]!) d'.toArray q i.toNat) q) d'.toArray)) (I := fun d x i' j => d = d' ∧ x = (a : Int) ∧ j = (q : Int) ∧ ∃ i : Nat, i' = (i : Int) ∧ a + 1 ≤ i ∧ (i ≤ q + 1 ∨ i = a + 1)) (μ := fun _ _ i _ => (3000 - i).toNat) ?_
  · have := key1 d' a ((a + 1 : Nat) : Int) q ⟨rfl, rfl, rfl, a + 1, rfl, Nat.le_refl _, Or.inr rfl⟩
    rw [Int.toNat_natCast] at this
    exact this
  rintro d _ _ _ ⟨rfl, rfl, rfl, i, rfl, hi1, hi2⟩ again1 hag1 ih1
  unfold B_Z9_L1b
  rw [Int.toNat_natCast]
  have j0 : ∀ t : Bool, t = (decide (i ≤ q) && ltInt (d.getD i 0) (d.getD a 0)) → Tot (fun σ => B_Z9_J0 (σ 0) (F_Z29 (σ 0)) (again1 σ) d (a : Int) (i : Int) (q : Int) t) (fun r => r = parR (parC1 a (scanUp (fun x => ltInt x d.toArray[a]!) d.toArray q i) (scanDown (fun x => !ltInt x d.toArray[a]!) d.toArray (scanUp (fun x => ltInt x d.toArray[a]!) d.toArray q i) q) d.toArray)) := by
    intro t ht
    unfold B_Z9_J0
    rw [tot_cond]
    refine ⟨fun h => ?_, fun h => ?_⟩
    · rw [ht] at h
      have h6 := h
      simp only [Bool.and_eq_true, decide_eq_true_eq] at h6
      rw [w64n_succ (by omega), scanUp_step (by simp only [ga]; exact h)]
      have := ih1 d a ((i + 1 : Nat) : Int) q ⟨rfl, rfl, rfl, i + 1, rfl, by omega, by omega⟩ (by omega)
      rw [Int.toNat_natCast] at this
      exact this
    · rw [ht] at h
      rw [scanUp_stop (by simp only [ga]; exact h)]
      exact c3 i hi1 hi2
  rw [tot_cond]
  refine ⟨fun h => ?_, fun h => ?_⟩
  · have h := of_decide_eq_true h
    simp only [tot_chk, inbn, decide_eq_true_eq, Int.toNat_natCast, List.length_set]
    refine ⟨by omega, by omega, by omega, by omega, (less_tot _ _).bind ?_⟩
    rintro _ rfl
    rw [tot_jn]
    exact j0 _ (by rw [decide_eq_true (by omega : i ≤ q)]; rfl)
  · have h := of_decide_eq_false h
    rw [tot_jn]
    exact j0 _ (by rw [decide_eq_false (by omega : ¬ i ≤ q)]; rfl)
end Go.Gx

/-
  Laws, part SO6: slices.Sort sorts.
-/
set_option linter.unusedVariables false
set_option linter.unusedSimpArgs false
namespace Go.Gx
open Go.Sort
/-- A sorted permutation of the part. -/
def SrtR (a b : Nat) (l : List Int) (r : Unit × (List Int × Unit)) : Prop := ∃ l' : List Int, r = ((), (l', ())) ∧ PermIn a b l.toArray l'.toArray ∧ SortedIn ltInt a b l'.toArray
theorem pdq_tot : ∀ (n : Nat) {l : List Int} {a b : Nat} (limit : Int), b - a ≤ n → a ≤ b → b ≤ l.length → l.length ≤ 1000 → Below ltInt a b l.toArray →
    Tot (fun σ => F_Z13 (σ 0) l (a : Int) (b : Int) limit) (SrtR a b l) := by
  intro n
  induction n using Nat.strongRecOn with
  | ind n IH =>
  intro l a b limit hn hab hb hl hB
  refine tot_Z13 ?_
  unfold B_Z13
  have key := loop_Z13_L5 (Q := fun d x y z u v => SrtR x.toNat y.toNat d) (I := fun d x y z u v => d.length = l.length ∧ ∃ a b : Nat, x = (a : Int) ∧ y = (b : Int) ∧ a ≤ b ∧ b ≤ d.length ∧ b - a ≤ n ∧ Below ltInt a b d.toArray) (μ := fun _ x y _ _ _ => (y - x).toNat) ?_
  · have := key l a b limit true true ⟨rfl, a, b, rfl, rfl, hab, hb, hn, hB⟩
    rw [Int.toNat_natCast, Int.toNat_natCast] at this
    exact this
  clear hn hab hb hB a b limit
  rintro d _ _ limit wb wp ⟨hd, a, b, rfl, rfl, hab, hb, hn, hB⟩ again hag ih
  rw [Int.toNat_natCast, Int.toNat_natCast]
  unfold B_Z13_L5b
  rw [w64n_sub (by omega) (by omega), tot_cond]
  refine ⟨fun h => ?_, fun h => ?_⟩
  · refine (insertionSort_tot hb (by omega) (by omega)).bind ?_
    rintro _ rfl
    rw [tot_some]
    have := insertionSort_holds (lt := ltInt) swo_ltInt d.toArray a b hab (by simpa using hb)
    exact ⟨_, rfl, by simpa using this.1, by simpa using this.2⟩
  have h12 := of_decide_eq_false h
  rw [tot_cond]
  refine ⟨fun h => ?_, fun h => ?_⟩
  · refine (heapSort_tot hb (by omega) (by omega)).bind ?_
    rintro _ rfl
    rw [tot_some]
    have := heapSort_holds (lt := ltInt) swo_ltInt d.toArray a b hab (by simpa using hb)
    exact ⟨_, rfl, by simpa using this.1, by simpa using this.2⟩
  -- from the two partitions on
  have glue : ∀ {x y z : List Int} {a b : Nat}, PermIn a b x.toArray y.toArray → SrtR a b y ((), (z, ())) → SrtR a b x ((), (z, ())) := by
    rintro x y z a b h ⟨l', e, h2, h3⟩
    exact ⟨l', e, permIn_trans _ _ _ a b h h2, h3⟩
  have j4 : ∀ (x : List Int) (limit : Int) (p : Nat) (t : Bool), PermIn a b d.toArray x.toArray → a ≤ p → p < b → (t = true → 0 < a ∧ ltInt (x.getD (a - 1) 0) (x.getD p 0) = false) →
      Tot (fun σ => B_Z13_J4 (σ 0) (F_Z6 (σ 0)) (F_Z10 (σ 0)) (F_Z5 (σ 0)) (F_Z8 (σ 0)) (F_Z7 (σ 0)) (F_Z2 (σ 0)) (F_Z29 (σ 0)) (F_Z3 (σ 0)) (F_Z9 (σ 0)) (F_Z13 (σ 0)) (again σ) x (a : Int) (b : Int) limit wb wp ((b - a : Nat) : Int) (p : Int) t) (SrtR a b d) := by
    intro x limit p t hx hp1 hp2 ht
    have hxl : x.length = d.length := by simpa using hx.1
    have hBx : Below ltInt a b x.toArray := hB.perm (by simpa using hb) hx
    unfold B_Z13_J4
    rw [tot_cond]
    refine ⟨fun h => ?_, fun h => ?_⟩
    · obtain ⟨ha0, hnl⟩ := ht h
      refine (partEq_tot (by omega) (by omega) hp1 hp2).bind ?_
      rintro _ rfl
      obtain ⟨g1, g2, g3, g4, g5⟩ := round_eq swo_ltInt (partitionEqual_holds ltInt) (d4 := (partitionEqual ltInt x.toArray a b p).2) (mid := (partitionEqual ltInt x.toArray a b p).1) ha0 hp1 hp2 (by simp; omega) hBx (by rw [ga, ga]; exact hnl) rfl
      generalize partitionEqual ltInt x.toArray a b p = w at g1 g2 g3 g4 g5
      obtain ⟨mid, d4⟩ := w
      simp only at g1 g2 g3 g4 g5
      simp only [peqR]
      have g3' : d4.toList.length = x.length := by simpa using g3
      have := ih d4.toList (mid : Int) b limit wb wp ⟨by omega, mid, b, rfl, rfl, by omega, by omega, by omega, by simpa using g4⟩ (by omega)
      rw [Int.toNat_natCast, Int.toNat_natCast] at this
      refine this.mono ?_
      rintro _ ⟨l', rfl, q1, q2⟩
      obtain ⟨q3, q4⟩ := g5 l'.toArray (by simpa using q1) q2
      exact ⟨l', rfl, permIn_trans _ _ _ a b hx q3, q4⟩
    · refine (partition_tot (by omega) (by omega) hp1 hp2).bind ?_
      rintro r hr
      obtain ⟨g1, g2, g3, g4, g5, g6, g7⟩ := round_part swo_ltInt (partition_holds ltInt) (d4 := (partition ltInt x.toArray a b p).2.2) (ap := (partition ltInt x.toArray a b p).2.1) (mid := (partition ltInt x.toArray a b p).1) hp1 hp2 (by simp; omega) hBx rfl
      generalize partition ltInt x.toArray a b p = w at g1 g2 g3 g4 g5 g6 g7 hr
      obtain ⟨mid, ap, d4⟩ := w
      simp only at g1 g2 g3 g4 g5 g6 g7
      have hr' : r = (((mid : Int), ap, ()), (d4.toList, ())) := hr
      subst hr'
      have g3' : d4.toList.length = x.length := by simpa using g3
      rw [w64n_sub (by omega) (by omega), w64n_sub (by omega) (by omega), w64n_succ (by omega), tot_cond]
      refine ⟨fun h => ?_, fun h => ?_⟩
      · have h := of_decide_eq_true h
        refine (IH (mid - a) (by omega) (l := d4.toList) (a := a) (b := mid) limit (Nat.le_refl _) g1 (by omega) (by omega) (by simpa using g4)).bind ?_
        rintro _ ⟨l', rfl, q1, q2⟩
        obtain ⟨q3, q4⟩ := g6 l'.toArray (by simpa using q1) q2
        have hl' : l'.length = x.length := by have := q1.1; simp only [List.size_toArray] at this; omega
        have := ih l' ((mid + 1 : Nat) : Int) b limit (decide (((mid - a : Nat) : Int) ≥ w64 (((b - a : Nat) : Int).tdiv 8))) ap ⟨by omega, mid + 1, b, rfl, rfl, by omega, by omega, by omega, q3⟩ (by omega)
        rw [Int.toNat_natCast, Int.toNat_natCast] at this
        refine this.mono ?_
        rintro _ ⟨l2, rfl, q5, q6⟩
        obtain ⟨q7, q8⟩ := q4 l2.toArray q5 q6
        exact ⟨l2, rfl, permIn_trans _ _ _ a b hx q7, q8⟩
      · have h := of_decide_eq_false h
        refine (IH (b - (mid + 1)) (by omega) (l := d4.toList) (a := mid + 1) (b := b) limit (Nat.le_refl _) (by omega) (by omega) (by omega) (by simpa using g5)).bind ?_
        rintro _ ⟨l', rfl, q1, q2⟩
        obtain ⟨q3, q4⟩ := g7 l'.toArray (by simpa using q1) q2
        have hl' : l'.length = x.length := by have := q1.1; simp only [List.size_toArray] at this; omega
        have := ih l' (a : Int) (mid : Int) limit (decide (((b - mid : Nat) : Int) ≥ w64 (((b - a : Nat) : Int).tdiv 8))) ap ⟨by omega, a, mid, rfl, rfl, by omega, by omega, by omega, q3⟩ (by omega)
        rw [Int.toNat_natCast, Int.toNat_natCast] at this
        refine this.mono ?_
        rintro _ ⟨l2, rfl, q5, q6⟩
        obtain ⟨q7, q8⟩ := q4 l2.toArray q5 q6
        exact ⟨l2, rfl, permIn_trans _ _ _ a b hx q7, q8⟩
  have j3 : ∀ (x : List Int) (limit : Int) (p : Nat), PermIn a b d.toArray x.toArray → a ≤ p → p < b →
      Tot (fun σ => B_Z13_J3 (σ 0) (F_Z6 (σ 0)) (F_Z10 (σ 0)) (F_Z5 (σ 0)) (F_Z8 (σ 0)) (F_Z7 (σ 0)) (F_Z2 (σ 0)) (F_Z29 (σ 0)) (F_Z3 (σ 0)) (F_Z9 (σ 0)) (F_Z13 (σ 0)) (again σ) x (a : Int) (b : Int) limit wb wp ((b - a : Nat) : Int) (p : Int)) (SrtR a b d) := by
    intro x limit p hx hp1 hp2
    have hxl : x.length = d.length := by simpa using hx.1
    unfold B_Z13_J3
    rw [tot_cond]
    refine ⟨fun h => ?_, fun h => ?_⟩
    · have h := of_decide_eq_true h
      rw [w64n_pred (by omega) (by omega)]
      simp only [tot_chk, inbn, decide_eq_true_eq, Int.toNat_natCast, List.length_set]
      refine ⟨by omega, by omega, by omega, by omega, (less_tot _ _).bind ?_⟩
      rintro _ rfl
      rw [tot_jn]
      exact j4 x limit p _ hx hp1 hp2 fun h => ⟨by omega, by simpa using h⟩
    · rw [tot_jn]
      exact j4 x limit p false hx hp1 hp2 fun h => absurd h (by decide)
  have j2 : ∀ (x : List Int) (limit : Int) (p : Nat) (t : Bool), PermIn a b d.toArray x.toArray → a ≤ p → p < b →
      Tot (fun σ => B_Z13_J2 (σ 0) (F_Z6 (σ 0)) (F_Z10 (σ 0)) (F_Z5 (σ 0)) (F_Z8 (σ 0)) (F_Z7 (σ 0)) (F_Z2 (σ 0)) (F_Z29 (σ 0)) (F_Z3 (σ 0)) (F_Z9 (σ 0)) (F_Z13 (σ 0)) (again σ) x (a : Int) (b : Int) limit wb wp ((b - a : Nat) : Int) (p : Int) t) (SrtR a b d) := by
    intro x limit p t hx hp1 hp2
    have hxl : x.length = d.length := by simpa using hx.1
    have hBx : Below ltInt a b x.toArray := hB.perm (by simpa using hb) hx
    unfold B_Z13_J2
    rw [tot_cond]
    refine ⟨fun h => ?_, fun h => ?_⟩
    · refine (partialIns_tot (by omega) (by omega) (by omega)).bind ?_
      rintro _ rfl
      obtain ⟨q1, q2⟩ := partialInsertionSort_holds (lt := ltInt) swo_ltInt x.toArray a b (by omega) (by simp; omega) hBx
      generalize partialInsertionSort ltInt x.toArray a b = w at q1 q2
      obtain ⟨d4, ok⟩ := w
      simp only at q1 q2
      simp only [pisR]
      have hq : PermIn a b d.toArray d4.toList.toArray := by simpa using permIn_trans _ _ _ a b hx q1
      rw [tot_cond]
      refine ⟨fun h => ?_, fun h => ?_⟩
      · rw [tot_some]
        exact ⟨_, rfl, hq, by simpa using q2 h⟩
      · rw [tot_jn]
        exact j3 d4.toList limit p hq hp1 hp2
    · rw [tot_jn]
      exact j3 x limit p hx hp1 hp2
  have j1 : ∀ (x : List Int) (limit : Int) (p : Nat) (hint : Int), PermIn a b d.toArray x.toArray → a ≤ p → p < b →
      Tot (fun σ => B_Z13_J1 (σ 0) (F_Z6 (σ 0)) (F_Z10 (σ 0)) (F_Z5 (σ 0)) (F_Z8 (σ 0)) (F_Z7 (σ 0)) (F_Z2 (σ 0)) (F_Z29 (σ 0)) (F_Z3 (σ 0)) (F_Z9 (σ 0)) (F_Z13 (σ 0)) (again σ) x (a : Int) (b : Int) limit wb wp ((b - a : Nat) : Int) (p : Int) hint) (SrtR a b d) := by
    intro x limit p hint hx hp1 hp2
    unfold B_Z13_J1
    simp only [tot_cond, tot_jn]
    exact ⟨fun _ => ⟨fun _ => j2 x limit p _ hx hp1 hp2, fun _ => j2 x limit p _ hx hp1 hp2⟩, fun _ => j2 x limit p _ hx hp1 hp2⟩
  have j0 : ∀ (x : List Int) (limit : Int), PermIn a b d.toArray x.toArray →
      Tot (fun σ => B_Z13_J0 (σ 0) (F_Z6 (σ 0)) (F_Z10 (σ 0)) (F_Z5 (σ 0)) (F_Z8 (σ 0)) (F_Z7 (σ 0)) (F_Z2 (σ 0)) (F_Z29 (σ 0)) (F_Z3 (σ 0)) (F_Z9 (σ 0)) (F_Z13 (σ 0)) (again σ) x (a : Int) (b : Int) limit wb wp ((b - a : Nat) : Int)) (SrtR a b d) := by
    intro x limit hx
    have hxl : x.length = d.length := by simpa using hx.1
    unfold B_Z13_J0
    refine (pivot_tot (by omega) (by omega) (by omega)).bind ?_
    rintro _ ⟨p, hint, rfl, hp1, hp2⟩
    rw [tot_cond]
    refine ⟨fun h => ?_, fun h => ?_⟩
    · refine (reverse_tot (by omega) (by omega) (by omega)).bind ?_
      rintro _ ⟨y, rfl, hy⟩
      rw [tot_jn, w64n_pred (by omega) (by omega), w64n_sub (by omega) (by omega), w64n_sub (by omega) (by omega)]
      exact j1 y limit _ _ (permIn_trans _ _ _ a b hx hy) (by omega) (by omega)
    · rw [tot_jn]
      exact j1 x limit _ _ hx hp1 hp2
  rw [tot_cond]
  refine ⟨fun h => ?_, fun h => ?_⟩
  · refine (break_tot hb (by omega) (by omega)).bind ?_
    rintro _ ⟨y, rfl, hy⟩
    rw [tot_jn]
    exact j0 y _ hy
  · rw [tot_jn]
    exact j0 d limit (permIn_refl _ _ _)
/-- slices.Sort. -/
theorem sort_tot {l : List Int} (hl : l.length ≤ 1000) : Tot (fun σ => F_Z20 (σ 0) l) (fun r => ∃ l' : List Int, r = ((), (l', ())) ∧ l'.Perm l ∧ l'.Pairwise (· ≤ ·)) := by
  refine tot_Z20 ?_
  unfold B_Z20
  unfold len
  rw [wrap_id (by omega) (by omega)]
  refine (bitsLen_tot (by omega)).bind ?_
  rintro _ ⟨L, rfl, -⟩
  have := pdq_tot l.length (l := l) (a := 0) (b := l.length) (L : Int) (by omega) (by omega) (by omega) hl (Or.inl rfl)
  refine Tot.bind this ?_
  rintro _ ⟨l', rfl, h1, h2⟩
  rw [tot_some]
  have hlen : l'.length = l.length := by simpa using h1.1
  refine ⟨l', rfl, ?_, ?_⟩
  · have := h1.2.2
    simp only [List.extract_toArray, List.toList_toArray, List.extract_eq_take_drop] at this
    simp only [Nat.sub_zero, List.drop_zero] at this
    rwa [List.take_of_length_le (by omega), List.take_of_length_le (Nat.le_refl _)] at this
  · rw [List.pairwise_iff_getElem]
    intro i j hi hj hij
    have := h2 i j (Nat.zero_le _) hij (by omega)
    rw [ga, ga, List.getD_eq_getElem?_getD, List.getD_eq_getElem?_getD, List.getElem?_eq_getElem hi, List.getElem?_eq_getElem hj] at this
    simp only [Option.getD_some, ltInt, decide_eq_false_iff_not] at this
    omega
end Go.Gx

/-
  Laws, part U7: CyclesOf of the program.
-/
set_option linter.unusedVariables false
set_option linter.unusedSimpArgs false
namespace Go.Gx
/-- A way leads from a node back to it. -/
def OnCyc (g : List PNode) (x : Int) : Prop := PReach g (fun _ => True) x x
theorem circlesC_tot {g : List PNode} (hk : Kidly g) (hg : g.length ≤ 2000000) {s : Int} (h0 : 0 ≤ s) (h1 : s < (g.length : Int)) : Tot (fun σ => F_Z16 (σ 0) g s) (Says (OnCyc g s)) := by
  refine circles_CyclesOf_1_tot hk hg h0 h1 (fun _ => True) fun x _ _ => ?_
  refine tot_Z27 ?_
  unfold B_Z27
  rw [tot_some]
  simp
/-- What CyclesOf answers. -/
def CycQ (g : List PNode) (root : Int) (r : (List Int × Unit) × Unit) : Prop := ∃ l : List Int, r = ((l, ()), ()) ∧ (ValidG g root → ∀ x, x ∈ l ↔ x ∈ reachP g root ∧ OnCyc g x) ∧ (¬ ValidG g root → l = [])
theorem i_CyclesOf_tot {g : List PNode} {root : Int} (hs : g.length ≤ 1000) (hkk : ∀ n ∈ g, n.2.2.length ≤ 2000000) : Tot (fun σ => F_Z44 (σ 0) g root) (CycQ g root) := by
  refine tot_Z44 ?_
  unfold B_Z44
  refine (i_ValidGraph_tot (by omega) hkk).bind ?_
  rintro _ ⟨b, rfl, hb⟩
  rw [tot_cond, tot_some]
  simp only [Bool.not_eq_true', Bool.not_eq_false']
  refine ⟨fun hf => ⟨[], rfl, fun h => (by rw [hb.2 h] at hf; exact Bool.noConfusion hf), fun _ => rfl⟩, fun ht => ?_⟩
  have hv := hb.1 ht
  have hk := hv.kidly
  have h0 := hv.root.1
  have h1 := hv.root.2
  have hmo := reachP_ok hk h0 h1
  have hml := hmo.len
  refine (reachOf_tot hk (by omega) h0 h1).bind ?_
  rintro _ rfl
  have key := loop_Z44_L1 (Q := fun _ _ _ _ _ _ r => CycQ g root r) (I := fun g' r' out l n i => g' = g ∧ r' = root ∧ l = reachP g root ∧ n = (l.length : Int) ∧ ∃ j : Nat, i = j ∧ j ≤ l.length ∧ out.length ≤ j ∧ ∀ x, x ∈ out ↔ x ∈ l.take j ∧ OnCyc g x) (μ := fun _ _ _ l _ i => l.length - i.toNat) ?_
  · exact key g root _ _ _ 0 ⟨rfl, rfl, rfl, rfl, 0, rfl, by omega, by simp, fun x => by simp⟩
  intro g' r' out l n i ⟨e1, e2, e3, e6, j, e4, hj, hol, hq⟩ again hag ih
  subst e1 e2 e4 e6
  rw [← e3] at hmo hml
  unfold B_Z44_L1b B_Z44_J0
  simp only [tot_cond, tot_chk, decide_eq_true_eq, decide_eq_false_iff_not, inb_iff, Int.toNat_natCast]
  refine ⟨fun hlt => ?_, fun hge => ?_⟩
  · have hlt' : j < l.length := by omega
    have hm : l.getD j 0 ∈ l := getDm hlt'
    have htk : l.take (j + 1) = l.take j ++ [l.getD j 0] := by
      rw [List.take_add_one, List.getD_eq_getElem?_getD, List.getElem?_eq_getElem hlt']; rfl
    generalize hx : l.getD j 0 = x at *
    have hxr := hmo.2 x hm
    refine ⟨⟨by omega, hlt⟩, hlt', (circlesC_tot hk (by omega) hxr.1 hxr.2).bind ?_⟩
    rintro _ ⟨b2, rfl, hb2⟩
    simp only [tot_cond, tot_chk, tot_jn, room_iff, List.length_cons, List.length_nil]
    rw [w64_succ (by omega) (by omega)]
    refine ⟨fun hy => ⟨by omega, ih _ _ _ _ _ _ ⟨rfl, rfl, e3, rfl, j + 1, rfl, by omega, by simp only [List.length_append, List.length_cons, List.length_nil]; omega, fun y => ?_⟩ (by simp; omega)⟩, fun hn => ih _ _ _ _ _ _ ⟨rfl, rfl, e3, rfl, j + 1, rfl, by omega, by omega, fun y => ?_⟩ (by simp; omega)⟩
    · rw [htk]
      simp only [List.mem_append, List.mem_singleton, hq y]
      constructor
      · rintro (h | h)
        · exact ⟨.inl h.1, h.2⟩
        · subst h; exact ⟨.inr rfl, hb2.1 hy⟩
      · rintro ⟨h | h, h2⟩
        · exact .inl ⟨h, h2⟩
        · exact .inr h
    · rw [htk]
      simp only [List.mem_append, List.mem_singleton, hq y]
      constructor
      · rintro h; exact ⟨.inl h.1, h.2⟩
      · rintro ⟨h | h, h2⟩
        · exact ⟨h, h2⟩
        · subst h; rw [hb2.2 h2] at hn; cases hn
  · refine (sort_tot (by omega)).bind ?_
    rintro _ ⟨l', rfl, hp, _⟩
    rw [tot_some]
    refine ⟨l', rfl, fun _ x => ?_, fun h => absurd hv h⟩
    rw [hp.mem_iff, hq x, List.take_of_length_le (by omega), e3]
end Go.Gx

/-
  Laws, part U8: the size of the tree.
-/
set_option linter.unusedVariables false
set_option linter.unusedSimpArgs false
namespace Go.Gx
/-- The nodes of the tree that a node unfolds to, so deep. -/
def tsz (g : List PNode) : Nat → Int → Nat
  | 0, _ => 1
  | f + 1, i => 1 + sumN ((kd g i).map (tsz g f))
/-- All ways from a node end. -/
def Deep (g : List PNode) : Nat → Int → Prop
  | 0, _ => False
  | f + 1, i => ∀ k ∈ kd g i, Deep g f k
theorem deep_of {g : List PNode} (hk : Kidly g) {R : Int → Prop} (hR : ∀ x, R x → (∀ k ∈ kd g x, R k)) (hc : ∀ x, R x → ¬ OnCyc g x) :
    ∀ (f : Nat) (i : Int) (P : List Int), P.Nodup → (∀ x ∈ P, 0 ≤ x ∧ x < (g.length : Int)) → 0 ≤ i → i < (g.length : Int) → R i → (∀ p ∈ P, PReach g (fun _ => True) p i) → P.length + f = g.length + 1 → Deep g f i := by
  intro f
  induction f with
  | zero => intro i P hn hP _ _ _ _ hl; have := nodup_len hn hP; omega
  | succ f ih =>
    intro i P hn hP h0 h1 hr hp hl k hkk
    have hkr := (hk _ (nd_mem h0 h1)).2 k hkk
    have hni : i ∉ P := fun h => hc i hr (hp i h)
    refine ih k (i :: P) (List.nodup_cons.2 ⟨hni, hn⟩) (fun x hx => ?_) hkr.1 hkr.2 (hR i hr k hkk) (fun p hp' => ?_) (by simp only [List.length_cons]; omega)
    · rcases List.mem_cons.1 hx with e | h
      · subst e; exact ⟨h0, h1⟩
      · exact hP x h
    · rcases List.mem_cons.1 hp' with e | h
      · subst e; exact .kid hkk
      · exact .step (hp p h) trivial hkk
theorem tsize1_tot {g : List PNode} {root : Int} (hk : Kidly g) : ∀ (f : Nat) (i : Int), 0 ≤ i → i < (g.length : Int) → Deep g f i →
    Tot (fun σ => F_Z31 (σ 0) i g root) (fun r => r = ((((min 5000 (tsz g f i) : Nat) : Int), ()), ((g, root, ()), ((), ()), ()))) := by
  intro f
  induction f with
  | zero => intro i _ _ h; exact h.elim
  | succ f ihf =>
    intro i h0 h1 hd
    refine tot_Z31 ?_
    unfold B_Z31
    have hkx := hk _ (nd_mem h0 h1)
    have hl6 : (kd g i).length ≤ 6 := hkx.1
    rw [tot_chk, inb_iff]
    refine ⟨⟨h0, h1⟩, ?_⟩
    have key := loop_Z31_L0 (Q := fun _ _ _ _ _ _ r => r = ((((min 5000 (tsz g (f + 1) i) : Nat) : Int), ()), ((g, root, ()), ((), ()), ())))
      (I := fun g' r' n ks m q => g' = g ∧ r' = root ∧ ks = kd g i ∧ m = ((kd g i).length : Int) ∧ ∃ j : Nat, q = j ∧ j ≤ (kd g i).length ∧ n = ((1 + sumN (((kd g i).take j).map (tsz g f)) : Nat) : Int) ∧ n < 5000) (μ := fun _ _ _ _ _ q => (kd g i).length - q.toNat) ?_
    · exact key g root 1 _ _ 0 ⟨rfl, rfl, rfl, rfl, 0, rfl, by omega, rfl, by omega⟩
    intro g' r' n ks m q ⟨e1, e2, e3, e4, j, e5, hj, e6, hn⟩ again hag ih
    subst e1 e2 e3 e4 e5
    unfold B_Z31_L0b
    simp only [tot_cond, tot_chk, tot_some, decide_eq_true_eq, decide_eq_false_iff_not, inb_iff]
    refine ⟨fun hlt => ?_, fun hge => ?_⟩
    · have hlt' : j < (kd g' i).length := by omega
      have hm : rdx (0 : Int) (kd g' i) (j : Int) ∈ kd g' i := rdx_mem (by omega) (by omega)
      have hs : sumN (((kd g' i).take (j + 1)).map (tsz g' f)) = sumN (((kd g' i).take j).map (tsz g' f)) + tsz g' f (rdx (0 : Int) (kd g' i) (j : Int)) := by
        have e : rdx (0 : Int) (kd g' i) (j : Int) = (kd g' i)[j] := by
          rw [rdx_eq, Int.toNat_natCast, List.getD_eq_getElem?_getD, List.getElem?_eq_getElem hlt']; rfl
        rw [e, List.take_add_one, List.getElem?_eq_getElem hlt', List.map_append, sumN_append]
        simp [sumN]
      have hle : sumN (((kd g' i).take (j + 1)).map (tsz g' f)) ≤ sumN ((kd g' i).map (tsz g' f)) := by
        rw [List.map_take]; exact sumN_take_le _ _
      have ht : tsz g' (f + 1) i = 1 + sumN ((kd g' i).map (tsz g' f)) := rfl
      have hr := hkx.2 _ hm
      refine ⟨⟨by omega, hlt⟩, (ihf _ hr.1 hr.2 (hd _ hm)).bind ?_⟩
      rintro _ rfl
      generalize hz : tsz g' f (rdx (0 : Int) (kd g' i) (j : Int)) = z at *
      have hw : w64 (n + ((min 5000 z : Nat) : Int)) = n + ((min 5000 z : Nat) : Int) := w64_id (by omega) (by omega)
      simp only [hw]
      simp only [tot_cond, tot_some, beq_iff_eq, beq_eq_false_iff_ne, ne_eq]
      refine ⟨fun h5 => ?_, fun h5 => ?_⟩
      · rw [h5]
        have : min 5000 (tsz g' (f + 1) i) = 5000 := by rw [ht]; split at h5 <;> omega
        rw [this]; rfl
      · rw [w64_succ (by omega) (by omega)]
        refine ih _ _ _ _ _ _ ⟨rfl, rfl, rfl, rfl, j + 1, rfl, by omega, ?_, ?_⟩ (by simp only [Int.toNat_natCast]; omega)
        · rw [hs]; split <;> split at h5 <;> omega
        · split <;> split at h5 <;> omega
    · have e : min 5000 (tsz g' (f + 1) i) = tsz g' (f + 1) i := by
        have : (kd g' i).take j = kd g' i := List.take_of_length_le (by omega)
        rw [this] at e6
        show min 5000 (1 + sumN ((kd g' i).map (tsz g' f))) = _
        have : tsz g' (f + 1) i = 1 + sumN ((kd g' i).map (tsz g' f)) := rfl
        omega
      rw [e, e6, List.take_of_length_le (by omega)]
      rfl
end Go.Gx

/-
  Laws, part 10: a graph that is drawn is valid.
-/
set_option linter.unusedVariables false
set_option linter.unusedSimpArgs false
namespace Go.Gx
abbrev ONode : Type := Int × Int × Option (List Int)
abbrev od : ONode := ((0 : Int), ((0 : Int), (none : Option (List Int))))
abbrev cvN (p : ONode) : PNode := (p.1, (p.2.1, p.2.2.getD []))
theorem getD_set_ne {α : Type} {l : List α} {i j : Nat} {x d : α} (h : j ≠ i) : (l.set i x).getD j d = l.getD j d := by
  rw [List.getD_eq_getElem?_getD, List.getD_eq_getElem?_getD, List.getElem?_set_ne (by omega)]
end Go.Gx

/-
  Laws, part UU1: graphs unfolded.
-/
set_option linter.unusedVariables false
set_option linter.unusedSimpArgs false
namespace Go.Gx
/-- One step over the kids: the nodes, and the places of the kids. -/
def unfStep (F : Int → List ONode → List ONode) (p : List ONode × List Int) (k : Int) : List ONode × List Int := (F k p.1, p.2 ++ [(p.1.length : Int)])
def unfFin (at1 : Nat) (p : List ONode × List Int) : List ONode := p.1.set at1 ((p.1.getD at1 (0, 0, none)).1, (p.1.getD at1 (0, 0, none)).2.1, some p.2)
/-- Nodes with those of a tree behind them. -/
def unf (g : List PNode) : Nat → Int → List ONode → List ONode
  | 0, _, ns => ns
  | f + 1, i, ns => unfFin ns.length ((kd g i).foldl (unfStep (unf g f)) (ns ++ [((nd g i).1, (nd g i).2.1, none)], []))
theorem fold_len {g : List PNode} {f : Nat} (h : ∀ (i : Int) (ns : List ONode), Deep g f i → (unf g f i ns).length = ns.length + tsz g f i) : ∀ (l : List Int) (p : List ONode × List Int), (∀ k ∈ l, Deep g f k) →
    (l.foldl (unfStep (unf g f)) p).1.length = p.1.length + sumN (l.map (tsz g f)) ∧ (l.foldl (unfStep (unf g f)) p).2.length = p.2.length + l.length := by
  intro l
  induction l with
  | nil => intro p _; exact ⟨by simp [sumN], by simp⟩
  | cons k l ih =>
    intro p hd
    have h1 := ih (unfStep (unf g f) p k) fun q hq => hd q (by simp [hq])
    have h2 := h k p.1 (hd k (by simp))
    have h3 : sumN ((k :: l).map (tsz g f)) = tsz g f k + sumN (l.map (tsz g f)) := rfl
    have e1 : (unfStep (unf g f) p k).1.length = p.1.length + tsz g f k := h2
    have e2 : (unfStep (unf g f) p k).2.length = p.2.length + 1 := by simp [unfStep]
    simp only [List.foldl_cons, List.length_cons]
    exact ⟨by omega, by omega⟩
theorem unf_len {g : List PNode} : ∀ (f : Nat) (i : Int) (ns : List ONode), Deep g f i → (unf g f i ns).length = ns.length + tsz g f i := by
  intro f
  induction f with
  | zero => intro i ns h; exact h.elim
  | succ f ih =>
    intro i ns hd
    have h := (fold_len ih (kd g i) (ns ++ [((nd g i).1, (nd g i).2.1, none)], []) hd).1
    have ht : tsz g (f + 1) i = 1 + sumN ((kd g i).map (tsz g f)) := rfl
    simp only [List.length_append, List.length_cons, List.length_nil] at h
    unfold unf unfFin
    rw [List.length_set]
    omega
theorem s_unfold_tot {g : List PNode} {root : Int} (hk : Kidly g) : ∀ (f : Nat) (i : Int) (ns : List ONode), 0 ≤ i → i < (g.length : Int) → Deep g f i → ns.length + tsz g f i ≤ 2000000 →
    Tot (fun σ => F_s_unfold (σ 0) g root i ns) (fun r => r = ((unf g f i ns, (ns.length : Int), ()), ())) := by
  intro f
  induction f with
  | zero => intro i ns _ _ h; exact h.elim
  | succ f ihf =>
    intro i ns h0 h1 hd hb
    refine tot_s_unfold ?_
    unfold B_s_unfold
    have hkx := hk _ (nd_mem h0 h1)
    have hl6 : (kd g i).length ≤ 6 := hkx.1
    have ht : tsz g (f + 1) i = 1 + sumN ((kd g i).map (tsz g f)) := rfl
    simp only [tot_chk, inb_iff, room_iff, List.length_cons, List.length_nil]
    refine ⟨⟨h0, h1⟩, ⟨h0, h1⟩, by omega, ?_⟩
    have key := loop_s_unfold_L0 (Q := fun _ _ _ _ _ _ _ r => r = ((unf g (f + 1) i ns, (ns.length : Int), ()), ()))
      (I := fun a m g' r' me ks q => a = i ∧ g' = g ∧ r' = root ∧ me = (ns.length : Int) ∧ ∃ j : Nat, q = j ∧ j ≤ (kd g i).length ∧ (m, ks) = ((kd g i).take j).foldl (unfStep (unf g f)) (ns ++ [((nd g i).1, (nd g i).2.1, none)], [])) (μ := fun _ _ _ _ _ _ q => (kd g i).length - q.toNat) ?_
    · exact key i _ g root _ [] 0 ⟨rfl, rfl, rfl, rfl, 0, rfl, by omega, rfl⟩
    intro a m g' r' me ks q ⟨e1, e2, e3, e4, j, e5, hj, e6⟩ again hag ih
    subst e1 e2 e3 e4 e5
    have hfl := fold_len (unf_len f) ((kd g' a).take j) (ns ++ [((nd g' a).1, (nd g' a).2.1, none)], []) fun k hk' => hd k (List.mem_of_mem_take hk')
    rw [← e6] at hfl
    simp only [List.length_append, List.length_cons, List.length_nil, List.length_take] at hfl
    have hle : sumN (((kd g' a).take j).map (tsz g' f)) ≤ sumN ((kd g' a).map (tsz g' f)) := by
      rw [List.map_take]; exact sumN_take_le _ _
    unfold B_s_unfold_L0b
    simp only [tot_cond, tot_chk, tot_some, decide_eq_true_eq, decide_eq_false_iff_not, inb_iff, len, room_iff, List.length_cons, List.length_nil, Int.toNat_natCast]
    refine ⟨⟨h0, h1⟩, fun hlt => ⟨⟨h0, h1⟩, ⟨by omega, hlt⟩, ?_⟩, fun hge => ⟨by omega, by omega, ?_⟩⟩
    · have hlt' : j < (kd g' a).length := by have : (j : Int) < ((kd g' a).length : Int) := hlt; omega
      have hm : rdx (0 : Int) (kd g' a) (j : Int) ∈ kd g' a := rdx_mem (by omega) (by omega)
      have hr := hkx.2 _ hm
      have hs : sumN (((kd g' a).take (j + 1)).map (tsz g' f)) = sumN (((kd g' a).take j).map (tsz g' f)) + tsz g' f (rdx (0 : Int) (kd g' a) (j : Int)) := by
        have e : rdx (0 : Int) (kd g' a) (j : Int) = (kd g' a)[j] := by
          rw [rdx_eq, Int.toNat_natCast, List.getD_eq_getElem?_getD, List.getElem?_eq_getElem hlt']; rfl
        rw [e, List.take_add_one, List.getElem?_eq_getElem hlt', List.map_append, sumN_append]
        simp [sumN]
      have hle2 : sumN (((kd g' a).take (j + 1)).map (tsz g' f)) ≤ sumN ((kd g' a).map (tsz g' f)) := by
        rw [List.map_take]; exact sumN_take_le _ _
      refine (ihf (rdx (0 : Int) (kd g' a) (j : Int)) m hr.1 hr.2 (hd _ hm) (by omega)).bind ?_
      rintro _ rfl
      simp only [tot_chk, room_iff, List.length_cons, List.length_nil]
      rw [w64_succ (by omega) (by omega)]
      refine ⟨by omega, ih _ _ _ _ _ _ _ ⟨rfl, rfl, rfl, rfl, j + 1, rfl, by omega, ?_⟩ (by simp only [Int.toNat_natCast]; omega)⟩
      rw [foldl_take_succ hlt', ← e6]
      rfl
    · have hge' : (kd g' a).length ≤ j := by have : ¬ (j : Int) < ((kd g' a).length : Int) := hge; omega
      rw [List.take_of_length_le hge'] at e6
      unfold unf unfFin
      rw [← e6]
theorem i_walk_tot {g : List PNode} {root : Int} {o : Int} (hk : Kidly g) : ∀ (f : Nat) (i : Int) (ns : List ONode), 0 ≤ i → i < (g.length : Int) → Deep g f i → ns.length + tsz g f i ≤ 2000000 →
    Tot (fun σ => F_Z21 (σ 0) i ns o g root) (fun r => r = (((ns.length : Int), ()), ((unf g f i ns, o, ()), (g, root, ()), ((), ()), ()))) := by
  intro f
  induction f with
  | zero => intro i ns _ _ h; exact h.elim
  | succ f ihf =>
    intro i ns h0 h1 hd hb
    refine tot_Z21 ?_
    unfold B_Z21
    have hkx := hk _ (nd_mem h0 h1)
    have hl6 : (kd g i).length ≤ 6 := hkx.1
    have ht : tsz g (f + 1) i = 1 + sumN ((kd g i).map (tsz g f)) := rfl
    simp only [tot_chk, inb_iff, room_iff, List.length_cons, List.length_nil]
    refine ⟨⟨h0, h1⟩, by omega, ?_⟩
    have key := loop_Z21_L0 (Q := fun _ _ _ _ _ _ _ _ _ r => r = (((ns.length : Int), ()), ((unf g (f + 1) i ns, o, ()), (g, root, ()), ((), ()), ())))
      (I := fun m o' g' r' me ks l n q => o' = o ∧ g' = g ∧ r' = root ∧ me = (ns.length : Int) ∧ l = kd g i ∧ n = ((kd g i).length : Int) ∧ ∃ j : Nat, q = j ∧ j ≤ (kd g i).length ∧ (m, ks) = ((kd g i).take j).foldl (unfStep (unf g f)) (ns ++ [((nd g i).1, (nd g i).2.1, none)], [])) (μ := fun _ _ _ _ _ _ _ _ q => (kd g i).length - q.toNat) ?_
    · exact key _ o g root _ [] _ _ 0 ⟨rfl, rfl, rfl, rfl, rfl, rfl, 0, rfl, by omega, rfl⟩
    intro m o' g' r' me ks l n q ⟨e1, e2, e3, e4, a1, a2, j, e5, hj, e6⟩ again hag ih
    subst e1 e2 e3 e4 a1 a2 e5
    have hfl := fold_len (unf_len f) ((kd g' i).take j) (ns ++ [((nd g' i).1, (nd g' i).2.1, none)], []) fun k hk' => hd k (List.mem_of_mem_take hk')
    rw [← e6] at hfl
    simp only [List.length_append, List.length_cons, List.length_nil, List.length_take] at hfl
    have hle : sumN (((kd g' i).take j).map (tsz g' f)) ≤ sumN ((kd g' i).map (tsz g' f)) := by
      rw [List.map_take]; exact sumN_take_le _ _
    unfold B_Z21_L0b
    simp only [tot_cond, tot_chk, tot_some, decide_eq_true_eq, decide_eq_false_iff_not, inb_iff, len, room_iff, List.length_cons, List.length_nil, Int.toNat_natCast]
    refine ⟨fun hlt => ⟨⟨by omega, hlt⟩, ?_⟩, fun hge => ⟨by omega, by omega, ?_⟩⟩
    · have hlt' : j < (kd g' i).length := by have : (j : Int) < ((kd g' i).length : Int) := hlt; omega
      have hm : rdx (0 : Int) (kd g' i) (j : Int) ∈ kd g' i := rdx_mem (by omega) (by omega)
      have hr := hkx.2 _ hm
      have hs : sumN (((kd g' i).take (j + 1)).map (tsz g' f)) = sumN (((kd g' i).take j).map (tsz g' f)) + tsz g' f (rdx (0 : Int) (kd g' i) (j : Int)) := by
        have e : rdx (0 : Int) (kd g' i) (j : Int) = (kd g' i)[j] := by
          rw [rdx_eq, Int.toNat_natCast, List.getD_eq_getElem?_getD, List.getElem?_eq_getElem hlt']; rfl
        rw [e, List.take_add_one, List.getElem?_eq_getElem hlt', List.map_append, sumN_append]
        simp [sumN]
      have hle2 : sumN (((kd g' i).take (j + 1)).map (tsz g' f)) ≤ sumN ((kd g' i).map (tsz g' f)) := by
        rw [List.map_take]; exact sumN_take_le _ _
      refine (ihf (rdx (0 : Int) (kd g' i) (j : Int)) m hr.1 hr.2 (hd _ hm) (by omega)).bind ?_
      rintro _ rfl
      simp only [tot_chk, room_iff, List.length_cons, List.length_nil]
      rw [w64_succ (by omega) (by omega)]
      refine ⟨by omega, ih _ _ _ _ _ _ _ _ _ ⟨rfl, rfl, rfl, rfl, rfl, rfl, j + 1, rfl, by omega, ?_⟩ (by simp only [Int.toNat_natCast]; omega)⟩
      rw [foldl_take_succ hlt', ← e6]
      rfl
    · have hge' : (kd g' i).length ≤ j := by have : ¬ (j : Int) < ((kd g' i).length : Int) := hge; omega
      rw [List.take_of_length_le hge'] at e6
      unfold unf unfFin
      rw [← e6]
end Go.Gx

/-
  Laws, part UU2: the size of the tree, by the reference.
-/
set_option linter.unusedVariables false
set_option linter.unusedSimpArgs false
namespace Go.Gx
theorem s_treeSize_tot {g : List PNode} {root : Int} (hk : Kidly g) : ∀ (f : Nat) (i : Int) (most : Nat), 0 ≤ i → i < (g.length : Int) → Deep g f i → 1 ≤ most → most ≤ 5000 →
    Tot (fun σ => F_Z45 (σ 0) g root i (most : Int)) (fun r => r = ((((min most (tsz g f i) : Nat) : Int), ()), ())) := by
  intro f
  induction f with
  | zero => intro i most _ _ h; exact h.elim
  | succ f ihf =>
    intro i most h0 h1 hd hm1 hm2
    refine tot_Z45 ?_
    unfold B_Z45
    have hkx := hk _ (nd_mem h0 h1)
    have hl6 : (kd g i).length ≤ 6 := hkx.1
    have ht : tsz g (f + 1) i = 1 + sumN ((kd g i).map (tsz g f)) := rfl
    have key := loop_Z45_L1 (Q := fun _ _ _ _ _ _ r => r = ((((min most (tsz g (f + 1) i) : Nat) : Int), ()), ()))
      (I := fun a mo g' r' n q => a = i ∧ mo = (most : Int) ∧ g' = g ∧ r' = root ∧ ∃ j : Nat, q = j ∧ j ≤ (kd g i).length ∧ n = ((min most (1 + sumN (((kd g i).take j).map (tsz g f))) : Nat) : Int)) (μ := fun _ _ _ _ _ q => (kd g i).length - q.toNat) ?_
    · exact key i _ g root 1 0 ⟨rfl, rfl, rfl, rfl, 0, rfl, by omega, by simp only [List.take_zero, List.map_nil, sumN, List.foldr_nil]; omega⟩
    intro a mo g' r' n q ⟨e1, e2, e3, e4, j, e5, hj, e6⟩ again hag ih
    subst e1 e2 e3 e4 e5
    have hle : sumN (((kd g' a).take j).map (tsz g' f)) ≤ sumN ((kd g' a).map (tsz g' f)) := by
      rw [List.map_take]; exact sumN_take_le _ _
    unfold B_Z45_L1b B_Z45_J0
    simp only [tot_cond, tot_chk, tot_jn, tot_some, decide_eq_true_eq, decide_eq_false_iff_not, inb_iff, len, Bool.false_eq_true, false_implies, true_and, forall_const]
    refine ⟨⟨h0, h1⟩, fun hlt => ⟨fun hn => ⟨⟨h0, h1⟩, ⟨by omega, hlt⟩, ?_⟩, fun hn => ?_⟩, fun hge => ?_⟩
    · have hlt' : j < (kd g' a).length := by have : (j : Int) < ((kd g' a).length : Int) := hlt; omega
      have hm : rdx (0 : Int) (kd g' a) (j : Int) ∈ kd g' a := rdx_mem (by omega) (by omega)
      have hr := hkx.2 _ hm
      have hs : sumN (((kd g' a).take (j + 1)).map (tsz g' f)) = sumN (((kd g' a).take j).map (tsz g' f)) + tsz g' f (rdx (0 : Int) (kd g' a) (j : Int)) := by
        have e : rdx (0 : Int) (kd g' a) (j : Int) = (kd g' a)[j] := by
          rw [rdx_eq, Int.toNat_natCast, List.getD_eq_getElem?_getD, List.getElem?_eq_getElem hlt']; rfl
        rw [e, List.take_add_one, List.getElem?_eq_getElem hlt', List.map_append, sumN_append]
        simp [sumN]
      obtain ⟨rest, hrest⟩ : ∃ rest : Nat, w64 ((most : Int) - n) = (rest : Int) ∧ (rest : Int) = (most : Int) - n := by
        refine ⟨((most : Int) - n).toNat, ?_, by omega⟩
        rw [w64_id (by omega) (by omega)]; omega
      rw [hrest.1]
      refine (ihf (rdx (0 : Int) (kd g' a) (j : Int)) rest hr.1 hr.2 (hd _ hm) (by omega) (by omega)).bind ?_
      rintro _ rfl
      generalize hz : tsz g' f (rdx (0 : Int) (kd g' a) (j : Int)) = z at *
      rw [show w64 (n + ((min rest z : Nat) : Int)) = n + ((min rest z : Nat) : Int) from w64_id (by omega) (by omega), w64_succ (by omega) (by omega)]
      refine ih _ _ _ _ _ _ ⟨rfl, rfl, rfl, rfl, j + 1, rfl, by omega, ?_⟩ (by simp only [Int.toNat_natCast]; omega)
      rw [hs]; omega
    · have e : (if (most : Int) < n then (most : Int) else n) = ((min most (tsz g' (f + 1) a) : Nat) : Int) := by split <;> omega
      rw [e]
    · have hge' : (kd g' a).length ≤ j := by have : ¬ (j : Int) < ((kd g' a).length : Int) := hge; omega
      rw [List.take_of_length_le hge'] at e6
      have e : (if (most : Int) < n then (most : Int) else n) = ((min most (tsz g' (f + 1) a) : Nat) : Int) := by split <;> omega
      rw [e]
end Go.Gx

/-
  Laws, part U9: trees share nothing.
-/
set_option linter.unusedVariables false
set_option linter.unusedSimpArgs false
namespace Go.Gx
theorem rch_sub {g : List PNode} : ∀ (f : Nat) (i : Int) (met : List Int), ∀ x ∈ met, x ∈ rch g f i met := by
  intro f
  induction f with
  | zero => intro i met x h; exact h
  | succ f ih =>
    intro i met x h
    have hf : ∀ (l : List Int) (m : List Int), x ∈ m → x ∈ l.foldl (fun m k => rch g f k m) m := by
      intro l
      induction l with
      | nil => intro m h; exact h
      | cons k l ihl => intro m h; exact ihl _ (ih k m x h)
    unfold rch
    by_cases hm : i ∈ met
    · rw [if_pos hm]; exact h
    · rw [if_neg hm]; exact hf _ _ (List.mem_append_left _ h)
theorem fold_sub {g : List PNode} {f : Nat} {x : Int} : ∀ (l m : List Int), x ∈ m → x ∈ l.foldl (fun m k => rch g f k m) m := by
  intro l
  induction l with
  | nil => intro m h; exact h
  | cons k l ihl => intro m h; exact ihl _ (rch_sub f k m x h)
theorem rch_self {g : List PNode} {f : Nat} {i : Int} {met : List Int} (hf : 0 < f) : i ∈ rch g f i met := by
  cases f with
  | zero => omega
  | succ f =>
    unfold rch
    by_cases hm : i ∈ met
    · rw [if_pos hm]; exact hm
    · rw [if_neg hm]; exact fold_sub _ _ (by simp)
theorem rch_new {g : List PNode} : ∀ (f : Nat) (i : Int) (met : List Int), ∀ y ∈ rch g f i met, y ∈ met ∨ y = i ∨ ∃ z ∈ rch g f i met, y ∈ kd g z := by
  intro f
  induction f with
  | zero => intro i met y h; exact .inl h
  | succ f ih =>
    intro i met y h
    have hf : ∀ (l : List Int) (m : List Int), y ∈ l.foldl (fun m k => rch g f k m) m → y ∈ m ∨ y ∈ l ∨ ∃ z ∈ l.foldl (fun m k => rch g f k m) m, y ∈ kd g z := by
      intro l
      induction l with
      | nil => intro m h; exact .inl h
      | cons k l ihl =>
        intro m h
        rcases ihl _ h with h1 | h1 | h1
        · rcases ih k m y h1 with h2 | h2 | ⟨z, hz, h2⟩
          · exact .inl h2
          · exact .inr (.inl (by simp [h2]))
          · exact .inr (.inr ⟨z, fold_sub l (rch g f k m) hz, h2⟩)
        · exact .inr (.inl (by simp [h1]))
        · exact .inr (.inr h1)
    unfold rch at h ⊢
    by_cases hm : i ∈ met
    · rw [if_pos hm] at h ⊢; exact .inl h
    · rw [if_neg hm] at h ⊢
      rcases hf _ _ h with h1 | h1 | h1
      · rcases List.mem_append.1 h1 with h2 | h2
        · exact .inl h2
        · exact .inr (.inl (by simpa using h2))
      · exact .inr (.inr ⟨i, fold_sub _ _ (by simp), h1⟩)
      · exact .inr (.inr h1)
theorem rch_closed {g : List PNode} (hk : Kidly g) : ∀ (f : Nat) (i : Int) (met : List Int), 0 ≤ i → i < (g.length : Int) → MetOk g met → g.length < f + met.length → ∀ z ∈ rch g f i met, z ∈ met ∨ ∀ k ∈ kd g z, k ∈ rch g f i met := by
  intro f
  induction f with
  | zero => intro i met _ _ hm hf; have := hm.len; omega
  | succ f ih =>
    intro i met h0 h1 hm hf z hz
    have hfo : ∀ (l : List Int) (m : List Int), InR g l → MetOk g m → g.length < f + m.length → (∀ k ∈ l, k ∈ l.foldl (fun m k => rch g f k m) m) ∧ ∀ z ∈ l.foldl (fun m k => rch g f k m) m, z ∈ m ∨ ∀ k ∈ kd g z, k ∈ l.foldl (fun m k => rch g f k m) m := by
      intro l
      induction l with
      | nil => intro m _ _ _; exact ⟨fun k h => by simp at h, fun z h => .inl h⟩
      | cons k l ihl =>
        intro m hl hmo hlt
        have hkr := hl k (by simp)
        have hok := rch_ok hk f k m hkr.1 hkr.2 hmo
        have hml := hmo.len
        have h1 := ihl (rch g f k m) (fun x hx => hl x (by simp [hx])) hok.1 (by omega)
        refine ⟨fun q hq => ?_, fun z hz => ?_⟩
        · rcases List.mem_cons.1 hq with e | h
          · subst e; exact fold_sub l (rch g f q m) (rch_self (f := f) (by omega))
          · exact h1.1 q h
        · rcases h1.2 z hz with h2 | h2
          · rcases ih k m hkr.1 hkr.2 hmo hlt z h2 with h3 | h3
            · exact .inl h3
            · exact .inr fun q hq => fold_sub l (rch g f k m) (h3 q hq)
          · exact .inr h2
    unfold rch at hz ⊢
    by_cases hmm : i ∈ met
    · rw [if_pos hmm] at hz ⊢; exact .inl hz
    · rw [if_neg hmm] at hz ⊢
      have h2 := hfo (kd g i) (met ++ [i]) (hk _ (nd_mem h0 h1)).2 (hm.snoc h0 h1 hmm) (by simp only [List.length_append, List.length_cons, List.length_nil]; omega)
      rcases h2.2 z hz with h3 | h3
      · rcases List.mem_append.1 h3 with h4 | h4
        · exact .inl h4
        · have : z = i := by simpa using h4
          subst this
          exact .inr fun k hkk => h2.1 k hkk
      · exact .inr h3
/-- All uses: the root, and the kids of nodes. -/
def allUses (g : List PNode) (root : Int) (l : List Int) : List Int := root :: l.flatMap (kd g)
/-- What is reached is the root, or a kid of what is reached; and its kids are reached. -/
theorem reachP_uses {g : List PNode} {root : Int} (hk : Kidly g) (h0 : 0 ≤ root) (h1 : root < (g.length : Int)) (x : Int) : x ∈ reachP g root ↔ x ∈ allUses g root (reachP g root) := by
  unfold allUses
  rw [List.mem_cons, List.mem_flatMap]
  constructor
  · intro h
    rcases rch_new _ _ _ x h with h2 | h2 | ⟨z, hz, h2⟩
    · simp at h2
    · exact .inl h2
    · exact .inr ⟨z, hz, h2⟩
  · rintro (h | ⟨z, hz, h2⟩)
    · subst h; exact rch_self (by omega)
    · rcases rch_closed hk (g.length + 1) root [] h0 h1 .nil (by simp) z hz with h3 | h3
      · simp at h3
      · exact h3 x h2
end Go.Gx

/-
  Laws, part UU3: cycles, by the reference.
-/
set_option linter.unusedVariables false
set_option linter.unusedSimpArgs false
namespace Go.Gx
theorem rch_from {g : List PNode} {P : Int → Prop} (hP : ∀ z, P z → ∀ k ∈ kd g z, P k) : ∀ (f : Nat) (i : Int) (met : List Int), P i → (∀ x ∈ met, P x) → ∀ y ∈ rch g f i met, P y := by
  intro f
  induction f with
  | zero => intro i met _ h y hy; exact h y hy
  | succ f ih =>
    intro i met hi h y hy
    have hf : ∀ (l : List Int) (m : List Int), (∀ k ∈ l, P k) → (∀ x ∈ m, P x) → ∀ y ∈ l.foldl (fun m k => rch g f k m) m, P y := by
      intro l
      induction l with
      | nil => intro m _ h y hy; exact h y hy
      | cons k l ihl => intro m hl h y hy; exact ihl (rch g f k m) (fun q hq => hl q (by simp [hq])) (ih k m (hl k (by simp)) h) y hy
    unfold rch at hy
    by_cases hm : i ∈ met
    · rw [if_pos hm] at hy; exact h y hy
    · rw [if_neg hm] at hy
      refine hf (kd g i) (met ++ [i]) (fun k hk => hP i hi k hk) (fun x hx => ?_) y hy
      rcases List.mem_append.1 hx with h' | h'
      · exact h x h'
      · have : x = i := by simpa using h'
        subst this; exact hi
theorem fold_closed {g : List PNode} (hk : Kidly g) {f : Nat} : ∀ (l : List Int) (m : List Int), InR g l → MetOk g m → g.length < f + m.length → (∀ k ∈ l, k ∈ l.foldl (fun m k => rch g f k m) m) ∧ ∀ z ∈ l.foldl (fun m k => rch g f k m) m, z ∈ m ∨ ∀ k ∈ kd g z, k ∈ l.foldl (fun m k => rch g f k m) m := by
  intro l
  induction l with
  | nil => intro m _ _ _; exact ⟨fun k h => by simp at h, fun z h => .inl h⟩
  | cons k l ihl =>
    intro m hl hmo hlt
    have hkr := hl k (by simp)
    have hok := rch_ok hk f k m hkr.1 hkr.2 hmo
    have hml := hmo.len
    have h1 := ihl (rch g f k m) (fun x hx => hl x (by simp [hx])) hok.1 (by omega)
    refine ⟨fun q hq => ?_, fun z hz => ?_⟩
    · rcases List.mem_cons.1 hq with e | h
      · subst e; exact fold_sub l (rch g f q m) (rch_self (f := f) (by omega))
      · exact h1.1 q h
    · rcases h1.2 z hz with h2 | h2
      · rcases rch_closed hk f k m hkr.1 hkr.2 hmo hlt z h2 with h3 | h3
        · exact .inl h3
        · exact .inr fun q hq => fold_sub l (rch g f k m) (h3 q hq)
      · exact .inr h2
/-- What is reached over the kids of a node. -/
def fromKids (g : List PNode) (s : Int) : List Int := (kd g s).foldl (fun m k => rch g (g.length + 1) k m) []
theorem fromKids_iff {g : List PNode} (hk : Kidly g) {s : Int} (h0 : 0 ≤ s) (h1 : s < (g.length : Int)) (x : Int) : x ∈ fromKids g s ↔ PReach g (fun _ => True) s x := by
  have hc := fold_closed hk (f := g.length + 1) (kd g s) [] (hk _ (nd_mem h0 h1)).2 .nil (by simp)
  constructor
  · intro h
    have hP : ∀ z, PReach g (fun _ => True) s z → ∀ k ∈ kd g z, PReach g (fun _ => True) s k := fun z hz k hk => .step hz trivial hk
    have hf : ∀ (l : List Int) (m : List Int), (∀ k ∈ l, PReach g (fun _ => True) s k) → (∀ x ∈ m, PReach g (fun _ => True) s x) → ∀ y ∈ l.foldl (fun m k => rch g (g.length + 1) k m) m, PReach g (fun _ => True) s y := by
      intro l
      induction l with
      | nil => intro m _ h y hy; exact h y hy
      | cons k l ihl => intro m hl h y hy; exact ihl _ (fun q hq => hl q (by simp [hq])) (rch_from hP _ k m (hl k (by simp)) h) y hy
    exact hf (kd g s) [] (fun k hk => .kid hk) (fun x hx => by simp at hx) x h
  · intro h
    induction h with
    | kid h => exact hc.1 _ h
    | step _ _ hkk ih =>
      rcases hc.2 _ ih with h3 | h3
      · simp at h3
      · exact h3 _ hkk
theorem s_onCycle_tot {g : List PNode} {root : Int} (hk : Kidly g) (hg : g.length ≤ 2000000) {s : Int} (h0 : 0 ≤ s) (h1 : s < (g.length : Int)) : Tot (fun σ => F_Z57 (σ 0) g root s) (Says (OnCyc g s)) := by
  refine tot_Z57 ?_
  unfold B_Z57
  have hkx := hk _ (nd_mem h0 h1)
  have hl6 : (kd g s).length ≤ 6 := hkx.1
  have hnd : ∀ q : Int, (nd g q).2.2 = kd g q := fun _ => rfl
  have key := loop_Z57_L0 (Q := fun _ _ _ _ _ r => Says (OnCyc g s) r)
    (I := fun a g' r' m i => a = s ∧ g' = g ∧ r' = root ∧ ∃ j : Nat, i = j ∧ j ≤ (kd g s).length ∧ m = ((kd g s).take j).foldl (fun m k => rch g (g.length + 1) k m) []) (μ := fun _ _ _ _ i => (kd g s).length - i.toNat) ?_
  · exact key s g root [] 0 ⟨rfl, rfl, rfl, 0, rfl, by omega, rfl⟩
  intro a g' r' m i ⟨e1, e2, e3, j, e4, hj, e5⟩ again hag ih
  subst e1 e2 e3 e4
  have hmk := foldl_met (F := fun m k => rch g' (g'.length + 1) k m) (fun m k x y z => rch_ok hk (g'.length + 1) k m x y z) ((kd g' a).take j) [] (inR_take hkx.2 j) .nil
  rw [← e5] at hmk
  have hml := hmk.1.len
  unfold B_Z57_L0b
  simp only [tot_cond, tot_chk, tot_some, decide_eq_true_eq, decide_eq_false_iff_not, len, inb_iff]
  refine ⟨⟨h0, h1⟩, fun hlt => ⟨⟨h0, h1⟩, ⟨by omega, hlt⟩, ?_⟩, fun hge => ?_⟩
  · have hlt' : j < (kd g' a).length := by have : (j : Int) < ((kd g' a).length : Int) := hlt; omega
    have hr := hkx.2 (rdx (0 : Int) (kd g' a) (j : Int)) (rdx_mem (by omega) (show (j : Int) < ((kd g' a).length : Int) by omega))
    refine (reach_tot hk hg (g'.length + 1) (rdx (0 : Int) (kd g' a) (j : Int)) m hr.1 hr.2 hmk.1 (by omega)).bind ?_
    rintro _ rfl
    rw [show w64 ((j : Int) + 1) = ((j + 1 : Nat) : Int) from w64_succ (by omega) (by omega)]
    refine ih _ _ _ _ _ ⟨rfl, rfl, rfl, j + 1, rfl, by omega, ?_⟩ (by simp only [Int.toNat_natCast]; omega)
    rw [foldl_take_succ hlt', ← e5]
  · have hge' : (kd g' a).length ≤ j := by have : ¬ (j : Int) < ((kd g' a).length : Int) := hge; omega
    have e6 : m = fromKids g' a := by rw [e5, List.take_of_length_le hge']; rfl
    refine (placeIn_tot (by omega) a).bind ?_
    rintro _ ⟨v, rfl, hv⟩
    rw [tot_some]
    refine ⟨_, rfl, ?_⟩
    rw [decide_eq_true_eq, show OnCyc g' a ↔ a ∈ m from by rw [e6]; exact (fromKids_iff hk h0 h1 a).symm]
    rcases hv with ⟨e, h⟩ | ⟨q, e, hq1, hq2, _⟩
    · exact ⟨fun h' => absurd (show v ≥ 0 from h') (by omega), fun h' => absurd h' h⟩
    · exact ⟨fun _ => by rw [← hq2]; exact getDm hq1, fun _ => show v ≥ 0 by omega⟩
theorem s_CyclesOf_tot {g : List PNode} {root : Int} (hs : g.length ≤ 1000) (hkk : ∀ n ∈ g, n.2.2.length ≤ 2000000) : Tot (fun σ => F_Z43 (σ 0) g root) (CycQ g root) := by
  refine tot_Z43 ?_
  unfold B_Z43
  refine (validGraph_tot (by omega) hkk).bind ?_
  rintro _ ⟨b, rfl, hb⟩
  rw [tot_cond, tot_some]
  simp only [Bool.not_eq_true', Bool.not_eq_false']
  refine ⟨fun hf => ⟨[], rfl, fun h => (by rw [hb.2 h] at hf; exact Bool.noConfusion hf), fun _ => rfl⟩, fun ht => ?_⟩
  have hv := hb.1 ht
  have hk := hv.kidly
  have h0 := hv.root.1
  have h1 := hv.root.2
  have hmo := reachP_ok hk h0 h1
  have hml := hmo.len
  refine (s_reach_tot hk (by omega) h0 h1).bind ?_
  rintro _ rfl
  have key := loop_Z43_L2 (Q := fun _ _ _ _ _ r => CycQ g root r) (I := fun g' r' out l i => g' = g ∧ r' = root ∧ l = reachP g root ∧ ∃ j : Nat, i = j ∧ j ≤ g.length ∧ out.length ≤ j ∧ ∀ x, x ∈ out ↔ x < (j : Int) ∧ x ∈ l ∧ OnCyc g x) (μ := fun _ _ _ _ i => g.length - i.toNat) ?_
  · exact key g root _ _ 0 ⟨rfl, rfl, rfl, 0, rfl, by omega, by simp, fun x => ⟨fun h => by simp at h, fun h => by have := hmo.2 x h.2.1; omega⟩⟩
  intro g' r' out l i ⟨e1, e2, e3, j, e4, hj, hol, hq⟩ again hag ih
  subst e1 e2 e4
  rw [← e3] at hmo hml
  unfold B_Z43_L2b B_Z43_J0 B_Z43_J1
  simp only [tot_cond, tot_some, decide_eq_true_eq, decide_eq_false_iff_not, len]
  refine ⟨fun hlt => ?_, fun hge => ⟨out, rfl, fun _ x => ?_, fun h => absurd hv h⟩⟩
  · have no : ¬ ((j : Int) ∈ l ∧ OnCyc g' j) → Tot (fun s => again s ((g', r', ()), out, l, w64 ((j : Int) + 1), ())) (CycQ g' r') := by
      intro hn
      rw [w64_succ (by omega) (by omega)]
      refine ih _ _ _ _ _ ⟨rfl, rfl, e3, j + 1, rfl, by omega, by omega, fun x => ?_⟩ (by simp; omega)
      rw [hq x]
      refine ⟨fun h => ⟨by omega, h.2⟩, fun h => ⟨?_, h.2⟩⟩
      by_cases e : x = (j : Int)
      · subst e; exact absurd h.2 hn
      · omega
    refine (placeIn_tot (by omega) (j : Int)).bind ?_
    rintro _ ⟨v, rfl, hv2⟩
    simp only [tot_cond, tot_jn, decide_eq_true_eq, decide_eq_false_iff_not, Bool.false_eq_true, false_implies, true_and, forall_const]
    refine ⟨fun hp => ?_, fun hn => no fun h => ?_⟩
    · have hin : (j : Int) ∈ l := by
        rcases hv2 with ⟨e, _⟩ | ⟨q, _, hq1, hq2, _⟩
        · omega
        · rw [← hq2]; exact getDm hq1
      refine (s_onCycle_tot hk (by omega) (s := (j : Int)) (by omega) hlt).bind ?_
      rintro _ ⟨b2, rfl, hb2⟩
      simp only [tot_cond, tot_chk, tot_jn, room_iff, List.length_cons, List.length_nil]
      refine ⟨fun hy => ⟨by omega, ?_⟩, fun hn => no fun h => (by rw [hb2.2 h.2] at hn; exact Bool.noConfusion hn)⟩
      rw [w64_succ (by omega) (by omega)]
      refine ih _ _ _ _ _ ⟨rfl, rfl, e3, j + 1, rfl, by omega, by simp only [List.length_append, List.length_cons, List.length_nil]; omega, fun x => ?_⟩ (by simp; omega)
      rw [List.mem_append, List.mem_singleton, hq x]
      constructor
      · rintro (h | h)
        · exact ⟨by omega, h.2⟩
        · subst h; exact ⟨by omega, hin, hb2.1 hy⟩
      · intro h
        by_cases e : x = (j : Int)
        · exact .inr e
        · exact .inl ⟨by omega, h.2⟩
    · rcases hv2 with ⟨_, h2⟩ | ⟨q, e, _⟩
      · exact h2 h.1
      · omega
  · rw [hq x, e3]
    exact ⟨fun h => h.2, fun h => ⟨by have := hmo.2 x (by rw [e3]; exact h.1); omega, h⟩⟩
end Go.Gx

/-
  Laws, part UU5: what a graph unfolds to.
-/
set_option linter.unusedVariables false
set_option linter.unusedSimpArgs false
namespace Go.Gx
/-- All that nodes tell as kids. -/
def oKids (B : List ONode) : List Int := B.flatMap fun n => n.2.2.getD []
theorem getD_right {α : Type} {l m : List α} {i : Nat} {d : α} (h : l.length ≤ i) : (l ++ m).getD i d = m.getD (i - l.length) d := by
  rw [List.getD_eq_getElem?_getD, List.getD_eq_getElem?_getD, List.getElem?_append_right h]
/-- A node of the tree: one of the graph's, its kids behind it. -/
def NodeT (g : List PNode) (ns : List ONode) (os : List Int) (p : Nat) : Prop :=
  ∃ ks : List Int, ns.getD p od = ((nd g (os.getD p 0)).1, (nd g (os.getD p 0)).2.1, some ks) ∧ (∀ k ∈ ks, (p : Int) < k ∧ k < (ns.length : Int)) ∧ ks.map (fun k => os.getD k.toNat 0) = kd g (os.getD p 0)
theorem NodeT.append {g : List PNode} {ns : List ONode} {os : List Int} {p : Nat} (h : NodeT g ns os p) (hp : p < ns.length) (hl : os.length = ns.length) (B : List ONode) (O : List Int) : NodeT g (ns ++ B) (os ++ O) p := by
  obtain ⟨ks, h1, h2, h3⟩ := h
  refine ⟨ks, ?_, fun k hk => ?_, ?_⟩
  · rw [getD_left hp, getD_left (by omega), h1]
  · have := h2 k hk
    rw [List.length_append]; omega
  · rw [getD_left (by omega : p < os.length), ← h3]
    refine List.map_congr_left fun k hk => ?_
    have := h2 k hk
    exact getD_left (by omega)
theorem NodeT.congr {g : List PNode} {ns ns2 : List ONode} {os : List Int} {p : Nat} (h : NodeT g ns os p) (e : ns2.getD p od = ns.getD p od) (hl : ns2.length = ns.length) : NodeT g ns2 os p := by
  obtain ⟨ks, h1, h2, h3⟩ := h
  exact ⟨ks, by rw [e, h1], fun k hk => by rw [hl]; exact h2 k hk, h3⟩
/-- What a walk adds. -/
structure Blk (g : List PNode) (ns : List ONode) (i : Int) (B : List ONode) (O : List Int) : Prop where
  len : O.length = B.length
  pos : 0 < B.length
  top : O.getD 0 0 = i
  ok : ∀ os : List Int, os.length = ns.length → ∀ p, ns.length ≤ p → p < ns.length + B.length → NodeT g (ns ++ B) (os ++ O) p
  use : ∀ q : Int, (oKids B).count q = if (ns.length : Int) < q ∧ q < (ns.length : Int) + (B.length : Int) then 1 else 0
  rng : ∀ o ∈ O, 0 ≤ o ∧ o < (g.length : Int)
/-- What walks to some kids add. -/
structure Blks (g : List PNode) (m : List ONode) (l : List Int) (B : List ONode) (O ks : List Int) : Prop where
  len : O.length = B.length
  at1 : ∀ os : List Int, os.length = m.length → ks.map (fun k => (os ++ O).getD k.toNat 0) = l
  kin : ∀ k ∈ ks, (m.length : Int) ≤ k ∧ k < (m.length : Int) + (B.length : Int)
  ok : ∀ os : List Int, os.length = m.length → ∀ p, m.length ≤ p → p < m.length + B.length → NodeT g (m ++ B) (os ++ O) p
  use : ∀ q : Int, ks.count q + (oKids B).count q = if (m.length : Int) ≤ q ∧ q < (m.length : Int) + (B.length : Int) then 1 else 0
  rng : ∀ o ∈ O, 0 ≤ o ∧ o < (g.length : Int)
theorem fold_blk {g : List PNode} {f : Nat} (IH : ∀ (i : Int) (ns : List ONode), 0 ≤ i → i < (g.length : Int) → Deep g f i → ∃ B O, unf g f i ns = ns ++ B ∧ Blk g ns i B O) :
    ∀ (l : List Int) (m : List ONode) (ks : List Int), (∀ k ∈ l, 0 ≤ k ∧ k < (g.length : Int) ∧ Deep g f k) → ∃ B O ks2, l.foldl (unfStep (unf g f)) (m, ks) = (m ++ B, ks ++ ks2) ∧ Blks g m l B O ks2 := by
  intro l
  induction l with
  | nil =>
    intro m ks _
    refine ⟨[], [], [], by simp, rfl, fun os _ => rfl, fun k hk => by simp at hk, fun os _ p h1 h2 => absurd h2 (by simp; omega), fun q => ?_, fun o ho => by simp at ho⟩
    rw [if_neg (by simp)]; rfl
  | cons k l ih =>
    intro m ks hl
    have hk := hl k (by simp)
    obtain ⟨B1, O1, e1, b1⟩ := IH k m hk.1 hk.2.1 hk.2.2
    obtain ⟨B2, O2, ks2, e2, b2⟩ := ih (m ++ B1) (ks ++ [(m.length : Int)]) fun x hx => hl x (by simp [hx])
    have hl1 := b1.len
    have hp1 := b1.pos
    have hl2 := b2.len
    refine ⟨B1 ++ B2, O1 ++ O2, (m.length : Int) :: ks2, ?_, by simp [hl1, hl2], fun os ho => ?_, fun x hx => ?_, fun os ho p h1 h2 => ?_, fun q => ?_, fun o ho => ?_⟩
    · rw [List.foldl_cons, show unfStep (unf g f) (m, ks) k = (m ++ B1, ks ++ [(m.length : Int)]) from by unfold unfStep; rw [e1], e2]
      simp
    · have h3 := b2.at1 (os ++ O1) (by simp [ho, hl1])
      rw [List.append_assoc] at h3
      rw [List.map_cons, h3, Int.toNat_natCast, ← ho, getD_right (by omega), Nat.sub_self, getD_left (by omega), b1.top]
    · rcases List.mem_cons.1 hx with rfl | hx
      · simp only [List.length_append]; omega
      · have := b2.kin x hx
        simp only [List.length_append] at this ⊢
        omega
    · by_cases h : p < m.length + B1.length
      · have := (b1.ok os ho p h1 h).append (by simp; omega) (by simp [ho, hl1]) B2 O2
        rwa [List.append_assoc, List.append_assoc] at this
      · have := b2.ok (os ++ O1) (by simp [ho, hl1]) p (by simp; omega) (by simp at h2 ⊢; omega)
        rwa [List.append_assoc, List.append_assoc] at this
    · have h3 := b1.use q
      have h4 := b2.use q
      have h5 : (oKids (B1 ++ B2)).count q = (oKids B1).count q + (oKids B2).count q := by
        unfold oKids; rw [List.flatMap_append, List.count_append]
      rw [h5, List.count_cons]
      simp only [List.length_append] at h4 ⊢
      by_cases e : (m.length : Int) = q
      · subst e
        simp only [beq_self_eq_true, if_true] at *
        split at h3 <;> split at h4 <;> split <;> omega
      · have e' : ((m.length : Int) == q) = false := by simpa using e
        simp only [e', Bool.false_eq_true, if_false] at *
        split at h3 <;> split at h4 <;> split <;> omega
    · rcases List.mem_append.1 ho with h | h
      · exact b1.rng o h
      · exact b2.rng o h
theorem unf_blk {g : List PNode} (hk : Kidly g) : ∀ (f : Nat) (i : Int) (ns : List ONode), 0 ≤ i → i < (g.length : Int) → Deep g f i → ∃ B O, unf g f i ns = ns ++ B ∧ Blk g ns i B O := by
  intro f
  induction f with
  | zero => intro i ns _ _ h; exact h.elim
  | succ f ihf =>
    intro i ns h0 h1 hd
    have hkx := hk _ (nd_mem h0 h1)
    obtain ⟨B, O, ks2, e, b⟩ := fold_blk ihf (kd g i) (ns ++ [((nd g i).1, (nd g i).2.1, none)]) [] fun k hk' => ⟨(hkx.2 k hk').1, (hkx.2 k hk').2, hd k hk'⟩
    have hl := b.len
    have eT : unf g (f + 1) i ns = ns ++ (((nd g i).1, (nd g i).2.1, some ks2) :: B) := by
      unfold unf unfFin
      rw [e]
      simp only [List.nil_append, List.append_assoc, List.cons_append]
      rw [getD_right (by omega), Nat.sub_self, List.set_append_right _ _ (by omega), Nat.sub_self]
      rfl
    refine ⟨_, i :: O, eT, by simp [hl], by simp, rfl, fun os ho p g1 g2 => ?_, fun q => ?_, fun o ho => ?_⟩
    · have ho' : (os ++ [i]).length = (ns ++ [((nd g i).1, (nd g i).2.1, (none : Option (List Int)))]).length := by simp [ho]
      by_cases hp : p = ns.length
      · subst hp
        refine ⟨ks2, ?_, fun k hk' => ?_, ?_⟩
        · rw [getD_right (by omega), Nat.sub_self, ← ho, getD_right (by omega), Nat.sub_self]
          rfl
        · have := b.kin k hk'
          simp only [List.length_append, List.length_cons, List.length_nil] at this ⊢
          omega
        · have h3 := b.at1 (os ++ [i]) ho'
          rw [List.append_assoc] at h3
          rw [← ho, getD_right (by omega : os.length ≤ os.length), Nat.sub_self]
          exact h3
      · have h3 := b.ok (os ++ [i]) ho' p (by simp; omega) (by simp at g2 ⊢; omega)
        rw [List.append_assoc, List.append_assoc] at h3
        refine h3.congr ?_ (by simp)
        rw [getD_right (by omega), getD_right (by omega)]
        obtain ⟨r, hr⟩ : ∃ r, p - ns.length = r + 1 := ⟨p - ns.length - 1, by omega⟩
        rw [hr]
        rfl
    · have h3 := b.use q
      have h4 : (oKids (((nd g i).1, (nd g i).2.1, some ks2) :: B)).count q = ks2.count q + (oKids B).count q := by
        unfold oKids; rw [List.flatMap_cons, List.count_append]; rfl
      rw [h4, h3]
      simp only [List.length_append, List.length_cons, List.length_nil]
      split <;> split <;> omega
    · rcases List.mem_cons.1 ho with rfl | h
      · exact ⟨h0, h1⟩
      · exact b.rng o h
/-- A tree: told by the places of its nodes in the graph. -/
structure Tree (g : List PNode) (root : Int) (T : List ONode) (O : List Int) : Prop where
  len : O.length = T.length
  pos : 0 < T.length
  top : O.getD 0 0 = root
  ok : ∀ p, p < T.length → NodeT g T O p
  use : ∀ q : Int, (oKids T).count q = if (0 : Int) < q ∧ q < (T.length : Int) then 1 else 0
  rng : ∀ o ∈ O, 0 ≤ o ∧ o < (g.length : Int)
theorem unf_tree {g : List PNode} (hk : Kidly g) {f : Nat} {i : Int} (h0 : 0 ≤ i) (h1 : i < (g.length : Int)) (hd : Deep g f i) : ∃ O, Tree g i (unf g f i []) O := by
  obtain ⟨B, O, e, b⟩ := unf_blk hk f i [] h0 h1 hd
  rw [List.nil_append] at e
  rw [e]
  refine ⟨O, b.len, b.pos, b.top, fun p hp => ?_, fun q => ?_, b.rng⟩
  · have := b.ok [] rfl p (by simp) (by simpa using hp)
    simpa using this
  · have := b.use q
    simpa using this
end Go.Gx

/-
  Laws, part UU4: UnshareGraph of both sides.
-/
set_option linter.unusedVariables false
set_option linter.unusedSimpArgs false
namespace Go.Gx
/-- A graph that unfolds to a small tree. -/
structure Unf (g : List PNode) (root : Int) : Prop where
  va : ValidG g root
  deep : Deep g (g.length + 1) root
  small : tsz g (g.length + 1) root ≤ 12
theorem deep_root {g : List PNode} {root : Int} (hv : ValidG g root) (hc : ∀ x ∈ reachP g root, ¬ OnCyc g x) : Deep g (g.length + 1) root := by
  refine deep_of hv.kidly (R := fun x => x ∈ reachP g root) (fun x hx k hkk => ?_) hc _ _ [] List.nodup_nil (fun x hx => by simp at hx) hv.root.1 hv.root.2 (rch_self (by omega)) (fun p hp => by simp at hp) (by simp)
  refine (reachP_uses hv.kidly hv.root.1 hv.root.2 k).2 ?_
  unfold allUses
  rw [List.mem_cons, List.mem_flatMap]
  exact .inr ⟨x, hx, hkk⟩
theorem PReach.head {g : List PNode} {s x : Int} (h : PReach g (fun _ => True) s x) : ∃ k ∈ kd g s, k = x ∨ PReach g (fun _ => True) k x := by
  induction h with
  | kid h => exact ⟨_, h, .inl rfl⟩
  | step _ _ hk ih =>
    obtain ⟨k, h1, h2⟩ := ih
    refine ⟨k, h1, .inr ?_⟩
    rcases h2 with rfl | h2
    · exact .kid hk
    · exact .step h2 trivial hk
theorem deep_noCyc {g : List PNode} {x : Int} (hc : OnCyc g x) : ∀ (f : Nat) (i : Int), (i = x ∨ PReach g (fun _ => True) i x) → ¬ Deep g f i := by
  intro f
  induction f with
  | zero => intro i _ h; exact h
  | succ f ih =>
    intro i hi hd
    have : PReach g (fun _ => True) i x := by
      rcases hi with rfl | h
      · exact hc
      · exact h
    obtain ⟨k, h1, h2⟩ := this.head
    exact ih k h2 (hd k h1)
theorem reachP_way {g : List PNode} {root : Int} (hk : Kidly g) (h0 : 0 ≤ root) (h1 : root < (g.length : Int)) {x : Int} (hx : x ∈ reachP g root) : root = x ∨ PReach g (fun _ => True) root x := by
  refine rch_from (P := fun z => root = z ∨ PReach g (fun _ => True) root z) (fun z hz k hkk => .inr ?_) (g.length + 1) root [] (.inl rfl) (fun y hy => by simp at hy) x hx
  rcases hz with rfl | hz
  · exact .kid hkk
  · exact .step hz trivial hkk
theorem cyc_deep {g : List PNode} {root : Int} (hv : ValidG g root) {l : List Int} (hl : ∀ x, x ∈ l ↔ x ∈ reachP g root ∧ OnCyc g x) : l = [] ↔ Deep g (g.length + 1) root := by
  constructor
  · rintro rfl
    exact deep_root hv fun x hx hc => absurd ((hl x).2 ⟨hx, hc⟩) (by simp)
  · intro hd
    cases l with
    | nil => rfl
    | cons x l =>
      have := (hl x).1 (by simp)
      exact absurd hd (deep_noCyc this.2 _ _ (reachP_way hv.kidly hv.root.1 hv.root.2 this.1))
theorem i_TreeSize_deep {g : List PNode} {root : Int} (hv : ValidG g root) (hd : Deep g (g.length + 1) root) : Tot (fun σ => F_Z41 (σ 0) g root) (fun r => r = ((((min 5000 (tsz g (g.length + 1) root) : Nat) : Int), ()), ())) := by
  refine tot_Z41 ?_
  unfold B_Z41
  have hm := hv.most
  have hk := hv.kidly
  refine (i_ValidGraph_tot (by omega) (fun n hn => by have := (hk n hn).1; omega)).bind ?_
  rintro _ ⟨b, rfl, hb⟩
  rw [tot_cond]
  simp only [Bool.not_eq_true', Bool.not_eq_false']
  refine ⟨fun hf => (by rw [hb.2 hv] at hf; exact Bool.noConfusion hf), fun _ => (i_CyclesOf_tot (by omega) (fun n hn => by have := (hk n hn).1; omega)).bind ?_⟩
  rintro _ ⟨l, rfl, hl, _⟩
  have hnil : l = [] := (cyc_deep hv (hl hv)).2 hd
  subst hnil
  simp only [tot_cond, tot_some, decide_eq_true_eq, decide_eq_false_iff_not, len]
  refine ⟨fun h => absurd h (by simp), fun h0 => ?_⟩
  refine (tsize1_tot hk (g.length + 1) root hv.root.1 hv.root.2 hd).bind ?_
  rintro _ rfl
  rw [tot_some]
/-- What UnshareGraph answers. -/
def UnsQ (g : List PNode) (root : Int) (r : ((List ONode × Int × Unit) × Bool × Unit) × Unit) : Prop := (Unf g root → r = (((unf g (g.length + 1) root [], 0, ()), true, ()), ())) ∧ (¬ Unf g root → r = ((([], 0, ()), false, ()), ()))
theorem i_UnshareGraph_tot {g : List PNode} {root : Int} (hs : g.length ≤ 1000) (hkk : ∀ n ∈ g, n.2.2.length ≤ 2000000) : Tot (fun σ => F_Z22 (σ 0) g root) (UnsQ g root) := by
  refine tot_Z22 ?_
  unfold B_Z22 B_Z22_J0
  have no : ¬ Unf g root → UnsQ g root ((([], 0, ()), false, ()), ()) := fun h => ⟨fun h' => absurd h' h, fun _ => rfl⟩
  refine (i_ValidGraph_tot (by omega) hkk).bind ?_
  rintro _ ⟨b, rfl, hb⟩
  simp only [tot_cond, tot_jn, tot_some, Bool.not_eq_true', Bool.not_eq_false', Bool.true_eq_false, false_implies, and_true, forall_const]
  refine ⟨fun hf => no fun h => (by rw [hb.2 h.va] at hf; exact Bool.noConfusion hf), fun ht => (i_CyclesOf_tot hs hkk).bind ?_⟩
  rintro _ ⟨l, rfl, hl, _⟩
  have hv := hb.1 ht
  have hcd := cyc_deep hv (hl hv)
  simp only [tot_cond, tot_jn, tot_some, decide_eq_true_eq, decide_eq_false_iff_not, len, Bool.true_eq_false, false_implies, and_true, forall_const]
  refine ⟨fun h => no fun hu => ?_, fun h => ?_⟩
  · rw [hcd.2 hu.deep] at h; simp at h
  have hnil : l = [] := List.length_eq_zero_iff.1 (by omega)
  have hd := hcd.1 hnil
  refine (i_TreeSize_deep hv hd).bind ?_
  rintro _ rfl
  simp only [tot_cond, tot_jn, tot_some, decide_eq_true_eq, decide_eq_false_iff_not]
  refine ⟨fun h => no fun hu => ?_, fun h => ?_⟩
  · have := hu.small; omega
  refine (i_walk_tot hv.kidly (g.length + 1) root [] hv.root.1 hv.root.2 hd (by simp only [List.length_nil]; omega)).bind ?_
  rintro _ rfl
  rw [tot_some]
  exact ⟨fun _ => rfl, fun hn => absurd ⟨hv, hd, by omega⟩ hn⟩
theorem s_UnshareGraph_tot {g : List PNode} {root : Int} (hs : g.length ≤ 1000) (hkk : ∀ n ∈ g, n.2.2.length ≤ 2000000) : Tot (fun σ => F_Z24 (σ 0) g root) (UnsQ g root) := by
  refine tot_Z24 ?_
  unfold B_Z24 B_Z24_J0
  have no : ¬ Unf g root → UnsQ g root ((([], 0, ()), false, ()), ()) := fun h => ⟨fun h' => absurd h' h, fun _ => rfl⟩
  refine (validGraph_tot (by omega) hkk).bind ?_
  rintro _ ⟨b, rfl, hb⟩
  simp only [tot_cond, tot_jn, tot_some, Bool.not_eq_true', Bool.not_eq_false', Bool.true_eq_false, false_implies, and_true, forall_const]
  refine ⟨fun hf => no fun h => (by rw [hb.2 h.va] at hf; exact Bool.noConfusion hf), fun ht => (s_CyclesOf_tot hs hkk).bind ?_⟩
  rintro _ ⟨l, rfl, hl, _⟩
  have hv := hb.1 ht
  have hcd := cyc_deep hv (hl hv)
  simp only [tot_cond, tot_jn, tot_some, decide_eq_true_eq, decide_eq_false_iff_not, len, Bool.true_eq_false, false_implies, and_true, forall_const]
  refine ⟨fun h => no fun hu => ?_, fun h => ?_⟩
  · rw [hcd.2 hu.deep] at h; simp at h
  have hnil : l = [] := List.length_eq_zero_iff.1 (by omega)
  have hd := hcd.1 hnil
  refine (s_treeSize_tot hv.kidly (g.length + 1) root 5000 hv.root.1 hv.root.2 hd (by omega) (by omega)).bind ?_
  rintro _ rfl
  simp only [tot_cond, tot_jn, tot_some, decide_eq_true_eq, decide_eq_false_iff_not]
  refine ⟨fun h => no fun hu => ?_, fun h => ?_⟩
  · have := hu.small; omega
  refine (s_unfold_tot hv.kidly (g.length + 1) root [] hv.root.1 hv.root.2 hd (by simp only [List.length_nil]; omega)).bind ?_
  rintro _ rfl
  rw [tot_some]
  exact ⟨fun _ => rfl, fun hn => absurd ⟨hv, hd, by omega⟩ hn⟩
end Go.Gx

/-
  Laws, part UU6: trees are valid, share nothing and have no cycles.
-/
set_option linter.unusedVariables false
set_option linter.unusedSimpArgs false
namespace Go.Gx
theorem nd_cv (T : List ONode) (i : Int) : nd (T.map cvN) i = cvN (T.getD i.toNat od) := by
  unfold nd
  rw [rdx_eq, List.getD_eq_getElem?_getD, List.getD_eq_getElem?_getD, List.getElem?_map]
  cases T[i.toNat]? <;> rfl
section
variable {g : List PNode} {root : Int} {T : List ONode} {O : List Int}
theorem Tree.orng (h : Tree g root T O) {p : Nat} (hp : p < T.length) : 0 ≤ O.getD p 0 ∧ O.getD p 0 < (g.length : Int) := h.rng _ (getDm (by rw [h.len]; exact hp))
theorem Tree.nd (h : Tree g root T O) {p : Nat} (hp : p < T.length) : (Go.Gx.nd (T.map cvN) p).1 = (Go.Gx.nd g (O.getD p 0)).1 ∧ (Go.Gx.nd (T.map cvN) p).2.1 = (Go.Gx.nd g (O.getD p 0)).2.1 := by
  obtain ⟨ks, h1, _⟩ := h.ok p hp
  rw [nd_cv, Int.toNat_natCast, h1]
  exact ⟨rfl, rfl⟩
theorem Tree.kd (h : Tree g root T O) {p : Nat} (hp : p < T.length) : (∀ k ∈ Go.Gx.kd (T.map cvN) p, (p : Int) < k ∧ k < (T.length : Int)) ∧ (Go.Gx.kd (T.map cvN) p).map (fun k => O.getD k.toNat 0) = Go.Gx.kd g (O.getD p 0) := by
  obtain ⟨ks, h1, h2, h3⟩ := h.ok p hp
  have e : Go.Gx.kd (T.map cvN) p = ks := by
    unfold Go.Gx.kd
    rw [nd_cv, Int.toNat_natCast, h1]; rfl
  rw [e]
  exact ⟨h2, h3⟩
theorem Tree.mem (h : Tree g root T O) {n : PNode} (hn : n ∈ T.map cvN) : ∃ p : Nat, p < T.length ∧ n = Go.Gx.nd (T.map cvN) p := by
  obtain ⟨i, hi, e⟩ := List.mem_iff_getElem.1 hn
  refine ⟨i, by simpa using hi, ?_⟩
  unfold Go.Gx.nd
  rw [rdx_eq, Int.toNat_natCast, getD_at hi, e]
theorem Tree.kidsLen (h : Tree g root T O) {p : Nat} (hp : p < T.length) : (Go.Gx.kd (T.map cvN) p).length = (Go.Gx.kd g (O.getD p 0)).length := by
  rw [← (h.kd hp).2, List.length_map]
theorem Tree.kidAt (h : Tree g root T O) {p : Nat} (hp : p < T.length) {j : Nat} (hj : j < (Go.Gx.kd g (O.getD p 0)).length) : ∃ q : Nat, (Go.Gx.kd (T.map cvN) p).getD j 0 = q ∧ p < q ∧ q < T.length ∧ O.getD q 0 = (Go.Gx.kd g (O.getD p 0)).getD j 0 := by
  have hj' : j < (Go.Gx.kd (T.map cvN) p).length := by rw [h.kidsLen hp]; exact hj
  have h1 := (h.kd hp).1 _ (getDm hj')
  refine ⟨((Go.Gx.kd (T.map cvN) p).getD j 0).toNat, by omega, by omega, by omega, ?_⟩
  rw [← (h.kd hp).2, List.getD_eq_getElem?_getD (i := j), List.getD_eq_getElem?_getD (i := j), List.getElem?_map, List.getElem?_eq_getElem hj']
  rfl
theorem Tree.nodeOk (h : Tree g root T O) (hv : ValidG g root) {p : Nat} (hp : p < T.length) : NodeOk (T.map cvN) (Go.Gx.nd (T.map cvN) p) := by
  have ho := h.orng hp
  have hn := hv.node _ (nd_mem ho.1 ho.2)
  have hk := h.kd hp
  have hl := h.kidsLen hp
  have hnd := h.nd hp
  unfold NodeOk at hn ⊢
  have e1 : (Go.Gx.nd (T.map cvN) p).2.2 = Go.Gx.kd (T.map cvN) p := rfl
  have e2 : (Go.Gx.nd g (O.getD p 0)).2.2 = Go.Gx.kd g (O.getD p 0) := rfl
  rw [e2] at hn
  rw [e1, hnd.1, hnd.2]
  have nil : Go.Gx.kd g (O.getD p 0) = [] → Go.Gx.kd (T.map cvN) p = [] := fun e => List.length_eq_zero_iff.1 (by rw [hl, e]; rfl)
  refine ⟨by rw [hl]; exact hn.1, fun k hk' => ?_, ?_⟩
  · have := hk.1 k hk'
    rw [List.length_map]; omega
  have hc := hn.2.2
  split
  · rename_i c; rw [if_pos c] at hc; exact ⟨hc.1, hc.2.1, nil hc.2.2⟩
  rename_i c0; rw [if_neg c0] at hc
  split
  · rename_i c; rw [if_pos c] at hc; exact ⟨hc.1, hc.2.1, nil hc.2.2⟩
  rename_i c1; rw [if_neg c1] at hc
  split
  · rename_i c; rw [if_pos c] at hc; exact hc
  rename_i c2; rw [if_neg c2] at hc
  split
  · rename_i c; rw [if_pos c] at hc
    refine ⟨hc.1, fun i hi hi2 => ?_, by rw [hl]; exact hc.2.2⟩
    rw [hl] at hi
    obtain ⟨q, a1, a2, a3, a4⟩ := h.kidAt hp hi
    have b1 := hc.2.1 i hi hi2
    have b2 := h.nd a3
    rw [a1]
    refine ⟨?_, fun k hk3 hk4 => ?_⟩
    · have := b1.1
      rw [← a4] at this
      unfold isKeyP at this ⊢
      rw [b2.1]; exact this
    · obtain ⟨q2, d1, d2, d3, d4⟩ := h.kidAt hp (show k < _ by omega)
      have d5 := h.nd d3
      have := b1.2 k hk3 hk4
      rw [← a4, ← d4] at this
      rw [d1]
      unfold sameP at this ⊢
      rw [b2.1, b2.2, d5.1, d5.2]; exact this
  rename_i c3; rw [if_neg c3] at hc
  split
  · rename_i c; rw [if_pos c] at hc; exact ⟨hc.1, hc.2.1, by rw [hl]; exact hc.2.2⟩
  · rename_i c; rw [if_neg c] at hc; exact hc
theorem Tree.reach (h : Tree g root T O) {P : Int → Prop} {p : Nat} (hp : p < T.length) {x : Int} (hr : PReach (T.map cvN) P p x) : (p : Int) < x ∧ x < (T.length : Int) := by
  induction hr with
  | kid hk => exact (h.kd hp).1 _ hk
  | step _ _ hk ih =>
    rename_i x y _ _
    obtain ⟨q, rfl⟩ := Int.eq_ofNat_of_zero_le (show 0 ≤ x by omega)
    have := (h.kd (show q < T.length by omega)).1 _ hk
    omega
theorem Tree.valid (h : Tree g root T O) (hv : ValidG g root) (hm : T.length ≤ 12) : ValidG (T.map cvN) 0 := by
  have hp := h.pos
  refine ⟨by rw [List.length_map]; omega, by rw [List.length_map]; omega, ⟨by omega, by rw [List.length_map]; omega⟩, fun n hn => ?_, fun i hi _ ht => ?_⟩
  · obtain ⟨p, hp2, rfl⟩ := h.mem hn
    exact h.nodeOk hv hp2
  · rw [List.length_map] at hi
    have := h.reach hi (pReach_iff.2 ht)
    omega
end
end Go.Gx

/-
  Laws of exactness, part 0: numbers are copied, compared, marked and held.
-/
set_option linter.unusedVariables false
set_option linter.unusedSimpArgs false
namespace Go.Gx
/-- A list is copied up to j. -/
def CpTo {α : Type} (d : α) (a o : List α) (j : Nat) : Prop := o.length = a.length ∧ j ≤ a.length ∧ ∀ q, q < j → o.getD q d = a.getD q d
theorem CpTo.new {α : Type} (d e : α) (a : List α) : CpTo d a (List.replicate a.length e) 0 := ⟨by simp, by omega, fun q hq => by omega⟩
theorem CpTo.next {α : Type} {d : α} {a o : List α} {j : Nat} (h : CpTo d a o j) (hj : j < a.length) : CpTo d a (o.set j (a.getD j d)) (j + 1) := by
  obtain ⟨h1, h2, h3⟩ := h
  refine ⟨by simp [h1], by omega, fun q hq => ?_⟩
  rw [List.getD_eq_getElem?_getD, List.getElem?_set]
  by_cases e : j = q
  · subst e; simp [h1, hj]
  · rw [if_neg e, ← List.getD_eq_getElem?_getD]; exact h3 q (by omega)
theorem CpTo.stop {α : Type} {d : α} {a o : List α} {j : Nat} (h : CpTo d a o j) (hj : ¬ j < a.length) : o = a := ext_getD h.1 fun q hq => h.2.2 q (by have := h.1; omega)
theorem makeOk {n : Nat} (h : n ≤ 100000000000) : (decide (0 ≤ (n : Int) ∧ (n : Int) ≤ (lim : Int)) && ((n : Int) == (n : Int))) = true := by
  simp [lim]; omega
theorem toIntS_tot {a : List Int} (ha : a.length ≤ 100000000000) : Tot (fun σ => F_l_toIntS (σ 0) a) (fun r => r = ((a, ()), ())) := by
  refine tot_l_toIntS ?_
  unfold B_l_toIntS
  rw [tot_chk]
  refine ⟨makeOk ha, ?_⟩
  have key := loop_l_toIntS_L0 (Q := fun _ _ _ r => r = ((a, ()), ())) (I := fun x o i => x = a ∧ ∃ j : Nat, i = j ∧ CpTo 0 a o j) (μ := fun _ _ i => a.length - i.toNat) ?_
  · exact key a _ 0 ⟨rfl, 0, rfl, by simpa using CpTo.new 0 0 a⟩
  intro x o i ⟨e1, j, e2, hc⟩ again hag ih
  subst e1 e2
  have hc1 := hc.1
  have hc2 := hc.2.1
  unfold B_l_toIntS_L0b
  simp only [tot_cond, tot_chk, tot_some, decide_eq_true_eq, decide_eq_false_iff_not, len, inb_iff, rdx_eq, Int.toNat_natCast]
  refine ⟨fun hlt => ⟨by omega, by omega, by omega, ?_⟩, fun hge => by rw [hc.stop (by omega)]⟩
  rw [w64_succ (by omega) (by omega)]
  exact ih _ _ _ ⟨rfl, j + 1, rfl, hc.next (by omega)⟩ (by simp; omega)
theorem eqIntS_tot {a b : List Int} (ha : a.length ≤ 900000000000) : Tot (fun σ => F_l_eqIntS (σ 0) a b) (Says (a = b)) := by
  refine tot_l_eqIntS ?_
  unfold B_l_eqIntS
  simp only [tot_cond, tot_some, len, bne_iff_ne, ne_eq, bne_eq_false_iff_eq]
  refine ⟨fun h => says_false fun e => h (by rw [e]), fun h => ?_⟩
  have hl : a.length = b.length := by omega
  have key := loop_l_eqIntS_L0 (Q := fun _ _ _ r => Says (a = b) r) (I := fun x y i => x = a ∧ y = b ∧ ∃ j : Nat, i = j ∧ j ≤ a.length ∧ ∀ q, q < j → a.getD q 0 = b.getD q 0) (μ := fun _ _ i => (a.length - i).toNat) ?_
  · exact key a b 0 ⟨rfl, rfl, 0, rfl, by omega, fun q hq => by omega⟩
  intro x y i ⟨e1, e2, j, e3, hj, hq⟩ again hag ih
  subst e1 e2 e3
  unfold B_l_eqIntS_L0b
  simp only [tot_cond, tot_chk, tot_some, decide_eq_true_eq, decide_eq_false_iff_not, len, inb_iff, bne_iff_ne, ne_eq, bne_eq_false_iff_eq]
  simp only [rdx_eq, Int.toNat_natCast]
  refine ⟨fun hlt => ⟨by omega, by omega, fun hne => says_false fun e => hne (by rw [e]), fun he => ?_⟩, fun hge => says_true (ext_getD hl fun i hi => hq i (by omega))⟩
  rw [w64_succ (by omega) (by omega)]
  refine ih _ _ _ ⟨rfl, rfl, j + 1, rfl, by omega, fun q h => ?_⟩ (by simp; omega)
  by_cases e : q = j
  · subst e; exact he
  · exact hq q (by omega)
/-- Numbers from k on. -/
def HldI (a : List Int) (k : Int) : Prop := ∀ q, q < a.length → a.getD q 0 = k + q
theorem markIntS_tot {a : List Int} {k : Int} (ha : a.length ≤ 100000000) (hk : 0 ≤ k ∧ k ≤ 9000000000000000) : Tot (fun σ => F_Z42 (σ 0) a k) (fun r => ∃ b : List Int, r = ((k + (a.length : Int), ()), (b, ())) ∧ b.length = a.length ∧ HldI b k) := by
  refine tot_Z42 ?_
  unfold B_Z42
  have key := loop_Z42_L0 (Q := fun _ _ _ r => ∃ b : List Int, r = ((k + (a.length : Int), ()), (b, ())) ∧ b.length = a.length ∧ HldI b k) (I := fun b z i => b.length = a.length ∧ ∃ j : Nat, i = j ∧ j ≤ a.length ∧ z = k + j ∧ ∀ q, q < j → b.getD q 0 = k + q) (μ := fun _ _ i => a.length - i.toNat) ?_
  · exact key a k 0 ⟨rfl, 0, rfl, by omega, by omega, fun q hq => by omega⟩
  intro b z i ⟨e1, j, e2, hj, e3, hq⟩ again hag ih
  subst e2 e3
  unfold B_Z42_L0b
  simp only [tot_cond, tot_chk, tot_some, decide_eq_true_eq, decide_eq_false_iff_not, len, inb_iff, Int.toNat_natCast]
  refine ⟨fun hlt => ⟨by omega, by omega, ?_⟩, fun hge => ⟨b, by rw [show j = a.length by omega], e1, fun q h => hq q (by omega)⟩⟩
  rw [w64_succ (by omega) (by omega), show w64 (k + (j : Int) + 1) = k + ((j + 1 : Nat) : Int) by rw [w64_id (by omega) (by omega)]; omega]
  refine ih _ _ _ ⟨by simp [e1], j + 1, rfl, by omega, rfl, fun q h => ?_⟩ (by simp; omega)
  rw [List.getD_eq_getElem?_getD, List.getElem?_set]
  by_cases e : j = q
  · subst e; simp [show j < b.length by omega]
  · rw [if_neg e, ← List.getD_eq_getElem?_getD]; exact hq q (by omega)
theorem heldIntS_tot {a : List Int} {k : Int} (ha : a.length ≤ 100000000) (hk : 0 ≤ k ∧ k ≤ 9000000000000000) (h : HldI a k) : Tot (fun σ => F_Z40 (σ 0) a k) (fun r => r = ((k + (a.length : Int), ()), ())) := by
  refine tot_Z40 ?_
  unfold B_Z40
  have key := loop_Z40_L0 (Q := fun _ _ _ r => r = ((k + (a.length : Int), ()), ())) (I := fun b z i => b = a ∧ ∃ j : Nat, i = j ∧ j ≤ a.length ∧ z = k + j) (μ := fun _ _ i => a.length - i.toNat) ?_
  · exact key a k 0 ⟨rfl, 0, rfl, by omega, by omega⟩
  intro b z i ⟨e1, j, e2, hj, e3⟩ again hag ih
  subst e1 e2 e3
  unfold B_Z40_L0b
  simp only [tot_cond, tot_chk, tot_some, decide_eq_true_eq, decide_eq_false_iff_not, len, inb_iff, rdx_eq, Int.toNat_natCast, bne_iff_ne, ne_eq, bne_eq_false_iff_eq]
  refine ⟨fun hlt => ⟨by omega, fun hne => absurd (h j (by omega)) hne, fun _ => ?_⟩, fun hge => by rw [show j = b.length by omega]⟩
  rw [w64_succ (by omega) (by omega), show w64 (k + (j : Int) + 1) = k + ((j + 1 : Nat) : Int) by rw [w64_id (by omega) (by omega)]; omega]
  exact ih _ _ _ ⟨rfl, j + 1, rfl, by omega, rfl⟩ (by simp; omega)
/-- What a measuring function answers: -1, or what is left. -/
def SzQ (P : Prop) (left : Int) (r : (Int × Unit) × Unit) : Prop := r = ((-1, ()), ()) ∨ ∃ z, r = ((z, ()), ()) ∧ 0 ≤ z ∧ z ≤ left ∧ P
theorem szIntS_tot {a : List Int} {left : Int} (ha : a.length ≤ maxLen) (hl : 0 ≤ left ∧ left ≤ 2000000) : Tot (fun σ => F_l_szIntS (σ 0) a left) (SzQ ((a.length : Int) ≤ left) left) := by
  refine tot_l_szIntS ?_
  unfold B_l_szIntS
  have hm : maxLen = 9223372036854775807 := by decide
  rw [show w64 (left - len a) = left - len a from w64_id (by unfold len; omega) (by unfold len; omega)]
  simp only [tot_cond, tot_some, decide_eq_true_eq, decide_eq_false_iff_not, len]
  exact ⟨fun _ => .inl rfl, fun h => .inr ⟨_, rfl, by omega, by omega, by omega⟩⟩
end Go.Gx

/-
  Laws of exactness: graphs are copied, compared, marked and held.
-/
set_option linter.unusedVariables false
set_option linter.unusedSimpArgs false
namespace Go.Gx
abbrev dNode : PNode := ((0 : Int), ((0 : Int), ([] : List Int)))
theorem getD_mem' {l : List PNode} {j : Nat} (h : j < l.length) : l.getD j dNode ∈ l := by rw [getD_at h]; exact List.getElem_mem _
theorem toNode_tot {n : PNode} (h : n.2.2.length ≤ 100000000000) : Tot (fun σ => F_l_toNode (σ 0) n.1 n.2.1 n.2.2) (fun r => r = (((n.1, n.2.1, n.2.2, ()), ()), ())) := by
  refine tot_l_toNode ?_
  unfold B_l_toNode
  refine (toIntS_tot h).bind ?_
  rintro _ rfl
  rw [tot_some]
theorem toNodeS_tot {a : List PNode} (ha : a.length ≤ 100000000000) (hk : ∀ n ∈ a, n.2.2.length ≤ 100000000000) : Tot (fun σ => F_Z58 (σ 0) a) (fun r => r = ((a, ()), ())) := by
  refine tot_Z58 ?_
  unfold B_Z58
  rw [tot_chk]
  refine ⟨makeOk ha, ?_⟩
  have key := loop_Z58_L0 (Q := fun _ _ _ r => r = ((a, ()), ())) (I := fun x o i => x = a ∧ ∃ j : Nat, i = j ∧ CpTo dNode a o j) (μ := fun _ _ i => a.length - i.toNat) ?_
  · exact key a _ 0 ⟨rfl, 0, rfl, by simpa using CpTo.new dNode dNode a⟩
  intro x o i ⟨e1, j, e2, hc⟩ again hag ih
  subst e1 e2
  have hc1 := hc.1
  have hc2 := hc.2.1
  unfold B_Z58_L0b
  simp only [tot_cond, tot_chk, tot_some, decide_eq_true_eq, decide_eq_false_iff_not, len, inb_iff, rdx_eq, Int.toNat_natCast]
  refine ⟨fun hlt => ⟨by omega, ?_⟩, fun hge => by rw [hc.stop (by omega)]⟩
  refine (toNode_tot (n := x.getD j dNode) (hk _ (getD_mem' (by omega)))).bind ?_
  rintro _ rfl
  simp only [tot_chk, inb_iff, decide_eq_true_eq]
  refine ⟨by omega, by omega, ?_⟩
  rw [w64_succ (by omega) (by omega)]
  exact ih _ _ _ ⟨rfl, j + 1, rfl, hc.next (by omega)⟩ (by simp; omega)
theorem toGraph_tot {a : List PNode} {root : Int} (ha : a.length ≤ 100000000000) (hk : ∀ n ∈ a, n.2.2.length ≤ 100000000000) : Tot (fun σ => F_Z52 (σ 0) a root) (fun r => r = (((a, root, ()), ()), ())) := by
  refine tot_Z52 ?_
  unfold B_Z52
  refine (toNodeS_tot ha hk).bind ?_
  rintro _ rfl
  rw [tot_some]
theorem eqNode_tot {n m : PNode} (hk : n.2.2.length ≤ 900000000000) : Tot (fun σ => F_l_eqNode (σ 0) n.1 n.2.1 n.2.2 m.1 m.2.1 m.2.2) (Says (n = m)) := by
  refine tot_l_eqNode ?_
  unfold B_l_eqNode
  simp only [tot_cond, tot_some, bne_iff_ne, ne_eq, bne_eq_false_iff_eq]
  refine ⟨fun h => says_false fun e => h (by rw [e]), fun h1 => ⟨fun h => says_false fun e => h (by rw [e]), fun h2 => ?_⟩⟩
  refine (eqIntS_tot hk).bind ?_
  rintro _ ⟨b, rfl, hb⟩
  simp only [tot_cond, tot_some, Bool.not_eq_true', Bool.not_eq_false']
  exact ⟨fun hf => says_false fun e => (by rw [hb.2 (by rw [e])] at hf; cases hf), fun ht => says_true (Prod.ext h1 (Prod.ext h2 (hb.1 ht)))⟩
theorem eqNodeS_tot {a b : List PNode} (ha : a.length ≤ 900000000000) (hk : ∀ n ∈ a, n.2.2.length ≤ 900000000000) : Tot (fun σ => F_Z48 (σ 0) a b) (Says (a = b)) := by
  refine tot_Z48 ?_
  unfold B_Z48
  simp only [tot_cond, tot_some, len, bne_iff_ne, ne_eq, bne_eq_false_iff_eq]
  refine ⟨fun h => says_false fun e => h (by rw [e]), fun h => ?_⟩
  have hl : a.length = b.length := by omega
  have key := loop_Z48_L0 (Q := fun _ _ _ r => Says (a = b) r) (I := fun x y i => x = a ∧ y = b ∧ ∃ j : Nat, i = j ∧ j ≤ a.length ∧ ∀ q, q < j → a.getD q dNode = b.getD q dNode) (μ := fun _ _ i => (a.length - i).toNat) ?_
  · exact key a b 0 ⟨rfl, rfl, 0, rfl, by omega, fun q hq => by omega⟩
  intro x y i ⟨e1, e2, j, e3, hj, hq⟩ again hag ih
  subst e1 e2 e3
  unfold B_Z48_L0b
  simp only [tot_cond, tot_chk, tot_some, decide_eq_true_eq, decide_eq_false_iff_not, len, inb_iff]
  simp only [rdx_eq, Int.toNat_natCast]
  refine ⟨fun hlt => ⟨by omega, by omega, ?_⟩, fun hge => says_true (ext_getD hl fun i hi => hq i (by omega))⟩
  refine (eqNode_tot (n := x.getD j dNode) (m := y.getD j dNode) (hk _ (getD_mem' (by omega)))).bind ?_
  rintro _ ⟨c, rfl, hc⟩
  simp only [tot_cond, tot_some, Bool.not_eq_true', Bool.not_eq_false']
  refine ⟨fun hf => says_false fun e => ?_, fun ht => ?_⟩
  · rw [hc.2 (by rw [e])] at hf; cases hf
  · rw [w64_succ (by omega) (by omega)]
    refine ih _ _ _ ⟨rfl, rfl, j + 1, rfl, by omega, fun q h => ?_⟩ (by simp; omega)
    by_cases e : q = j
    · subst e; exact hc.1 ht
    · exact hq q (by omega)
theorem eqGraph_tot {a b : List PNode} {ra rb : Int} (ha : a.length ≤ 900000000000) (hk : ∀ n ∈ a, n.2.2.length ≤ 900000000000) : Tot (fun σ => F_Z50 (σ 0) a ra b rb) (Says (a = b ∧ ra = rb)) := by
  refine tot_Z50 ?_
  unfold B_Z50
  refine (eqNodeS_tot ha hk).bind ?_
  rintro _ ⟨c, rfl, hc⟩
  simp only [tot_cond, tot_some, Bool.not_eq_true', Bool.not_eq_false', bne_iff_ne, ne_eq, bne_eq_false_iff_eq]
  exact ⟨fun hf => says_false fun e => (by rw [hc.2 e.1] at hf; cases hf), fun ht => ⟨fun h => says_false fun e => h e.2, fun h => says_true ⟨hc.1 ht, h⟩⟩⟩
theorem szNode_tot {n : PNode} {left : Int} (hn : n.2.2.length ≤ maxLen) (hl : 0 ≤ left ∧ left ≤ 2000000) : Tot (fun σ => F_l_szNode (σ 0) n.1 n.2.1 n.2.2 left) (SzQ ((n.2.2.length : Int) ≤ left) left) := by
  refine tot_l_szNode ?_
  unfold B_l_szNode
  refine (szIntS_tot hn hl).bind ?_
  rintro _ (rfl | ⟨z, rfl, h1, h2, h3⟩)
  · simp only [tot_cond, tot_some]
    exact ⟨fun _ => .inl rfl, fun h => absurd h (by decide)⟩
  · simp only [tot_cond, tot_some, decide_eq_true_eq, decide_eq_false_iff_not]
    exact ⟨fun h => by omega, fun _ => .inr ⟨z, rfl, h1, h2, h3⟩⟩
theorem szNodeS_tot {a : List PNode} {left : Int} (ha : a.length ≤ maxLen) (hk : ∀ n ∈ a, n.2.2.length ≤ maxLen) (hl : 0 ≤ left ∧ left ≤ 2000000) : Tot (fun σ => F_Z56 (σ 0) a left) (SzQ ((a.length : Int) ≤ left ∧ ∀ n ∈ a, (n.2.2.length : Int) ≤ left) left) := by
  refine tot_Z56 ?_
  unfold B_Z56
  have hm : maxLen = 9223372036854775807 := by decide
  rw [show w64 (left - len a) = left - len a from w64_id (by unfold len; omega) (by unfold len; omega)]
  simp only [tot_cond, tot_some, decide_eq_true_eq, decide_eq_false_iff_not, len]
  refine ⟨fun _ => .inl rfl, fun h => ?_⟩
  have key := loop_Z56_L0 (Q := fun _ _ _ r => SzQ ((a.length : Int) ≤ left ∧ ∀ n ∈ a, (n.2.2.length : Int) ≤ left) left r) (I := fun x z i => x = a ∧ 0 ≤ z ∧ z ≤ left ∧ ∃ j : Nat, i = j ∧ j ≤ a.length ∧ ∀ q, q < j → ((a.getD q dNode).2.2.length : Int) ≤ left) (μ := fun _ _ i => a.length - i.toNat) ?_
  · exact key a _ 0 ⟨rfl, by omega, by omega, 0, rfl, by omega, fun q hq => by omega⟩
  intro x z i ⟨e1, z1, z2, j, e2, hj, hq⟩ again hag ih
  subst e1 e2
  unfold B_Z56_L0b
  simp only [tot_cond, tot_chk, tot_some, decide_eq_true_eq, decide_eq_false_iff_not, len, inb_iff]
  simp only [rdx_eq, Int.toNat_natCast]
  refine ⟨fun hlt => ⟨by omega, ?_⟩, fun hge => .inr ⟨z, rfl, z1, z2, by omega, fun n hn => ?_⟩⟩
  · refine (szNode_tot (n := x.getD j dNode) (left := z) (hk _ (getD_mem' (by omega))) ⟨z1, by omega⟩).bind ?_
    rintro _ (rfl | ⟨z', rfl, h1, h2, h3⟩)
    · simp only [tot_cond, tot_some]
      exact ⟨fun _ => .inl rfl, fun h => absurd h (by decide)⟩
    · simp only [tot_cond, tot_some, decide_eq_true_eq, decide_eq_false_iff_not]
      refine ⟨fun h => by omega, fun _ => ?_⟩
      rw [w64_succ (by omega) (by omega)]
      refine ih _ _ _ ⟨rfl, h1, by omega, j + 1, rfl, by omega, fun q h => ?_⟩ (by simp; omega)
      by_cases e : q = j
      · subst e; omega
      · exact hq q (by omega)
  · obtain ⟨q, h1, rfl⟩ := List.getElem_of_mem hn
    have := hq q (by omega)
    rw [getD_at h1] at this
    exact this
theorem szGraph_tot {a : List PNode} {root left : Int} (ha : a.length ≤ maxLen) (hk : ∀ n ∈ a, n.2.2.length ≤ maxLen) (hl : 0 ≤ left ∧ left ≤ 2000000) : Tot (fun σ => F_Z51 (σ 0) a root left) (SzQ ((a.length : Int) ≤ left ∧ ∀ n ∈ a, (n.2.2.length : Int) ≤ left) left) := by
  refine tot_Z51 ?_
  unfold B_Z51
  refine (szNodeS_tot ha hk hl).bind ?_
  rintro _ (rfl | ⟨z, rfl, h1, h2, h3⟩)
  · simp only [tot_cond, tot_some]
    exact ⟨fun _ => .inl rfl, fun h => absurd h (by decide)⟩
  · simp only [tot_cond, tot_some, decide_eq_true_eq, decide_eq_false_iff_not]
    exact ⟨fun h => by omega, fun _ => .inr ⟨z, rfl, h1, h2, h3⟩⟩
/-- Nodes are numbered from k up to k'. -/
inductive Hld : List PNode → Int → Int → Prop where
  | nil (k : Int) : Hld [] k k
  | cons {n : PNode} {r : List PNode} {k k' : Int} : n.1 = k → n.2.1 = k + 1 → HldI n.2.2 (k + 2) → Hld r (k + 2 + (n.2.2.length : Int)) k' → Hld (n :: r) k k'
theorem Hld.snoc {l : List PNode} {n : PNode} {k k' : Int} (h : Hld l k k') (h1 : n.1 = k') (h2 : n.2.1 = k' + 1) (h3 : HldI n.2.2 (k' + 2)) : Hld (l ++ [n]) k (k' + 2 + (n.2.2.length : Int)) := by
  induction h with
  | nil k => exact .cons h1 h2 h3 (.nil _)
  | cons e1 e2 e3 _ ih => exact .cons e1 e2 e3 (ih h1 h2 h3)
theorem take_snoc {α : Type} {l : List α} {j : Nat} (d : α) (h : j < l.length) : l.take (j + 1) = l.take j ++ [l.getD j d] := by
  rw [List.take_add_one, List.getElem?_eq_getElem h, getD_at h]; rfl
theorem drop_step {α : Type} {l : List α} {j : Nat} (d : α) (h : j < l.length) : l.drop j = l.getD j d :: l.drop (j + 1) := by
  rw [List.drop_eq_getElem_cons h, getD_at h]
theorem markNodeS_tot {a : List PNode} {k : Int} (ha : a.length ≤ 3000000) (hk : ∀ n ∈ a, n.2.2.length ≤ 3000000) (h0 : 0 ≤ k ∧ k ≤ 1000) : Tot (fun σ => F_Z34 (σ 0) a k) (fun r => ∃ (b : List PNode) (k' : Int), r = ((k', ()), (b, ())) ∧ 0 ≤ k' ∧ b.length = a.length ∧ (∀ n ∈ b, n.2.2.length ≤ 3000000) ∧ Hld b k k') := by
  refine tot_Z34 ?_
  unfold B_Z34
  have key := loop_Z34_L0 (Q := fun _ _ _ r => ∃ (b : List PNode) (k' : Int), r = ((k', ()), (b, ())) ∧ 0 ≤ k' ∧ b.length = a.length ∧ (∀ n ∈ b, n.2.2.length ≤ 3000000) ∧ Hld b k k')
    (I := fun b z i => b.length = a.length ∧ (∀ n ∈ b, n.2.2.length ≤ 3000000) ∧ ∃ j : Nat, i = j ∧ j ≤ a.length ∧ 0 ≤ z ∧ z ≤ 1000 + (j : Int) * 4000000 ∧ Hld (b.take j) k z) (μ := fun _ _ i => a.length - i.toNat) ?_
  · exact key a k 0 ⟨rfl, hk, 0, rfl, by omega, h0.1, by omega, .nil _⟩
  intro b z i ⟨e1, hb, j, e2, hj, z1, z2, hh⟩ again hag ih
  subst e2
  unfold B_Z34_L0b
  simp only [tot_cond, tot_chk, tot_some, decide_eq_true_eq, decide_eq_false_iff_not, len, inb_iff, Int.toNat_natCast, List.length_set]
  refine ⟨fun hlt => ⟨by omega, by omega, by omega, by omega, by omega, by omega, ?_⟩, fun hge => ⟨b, z, rfl, z1, e1, hb, by rw [List.take_of_length_le (by omega)] at hh; exact hh⟩⟩
  have hlt' : j < b.length := by omega
  have w1 : w64 (z + 1) = z + 1 := w64_id (by omega) (by omega)
  have w2 : w64 (z + 1 + 1) = z + 2 := by rw [w64_id (by omega) (by omega)]; omega
  have hm := hb _ (getD_mem' hlt')
  have g1 : ∀ (x : PNode), (b.set j x).getD j dNode = x := fun x => by rw [List.getD_eq_getElem?_getD, List.getElem?_set]; simp [hlt']
  simp only [g1, List.set_set, w1, w2]
  refine (markIntS_tot (a := (b.getD j dNode).2.2) (k := z + 2) (by omega) ⟨by omega, by omega⟩).bind ?_
  rintro _ ⟨c, rfl, hc1, hc2⟩
  dsimp only
  rw [w64_succ (by omega) (by omega)]
  refine ih _ _ _ ⟨by simp [e1], fun n hn => ?_, j + 1, rfl, by omega, by omega, by push_cast; omega, ?_⟩ (by simp; omega)
  · rcases List.mem_or_eq_of_mem_set hn with hn | rfl
    · exact hb n hn
    · simp only [hc1]; exact hm
  · have hl' : j < (b.set j (z, z + 1, c)).length := by simpa using hlt'
    rw [take_snoc dNode hl', g1, List.take_set_of_le (by omega)]
    have := hh.snoc (n := (z, z + 1, c)) rfl rfl hc2
    rw [show z + 2 + ((b.getD j dNode).2.2.length : Int) = z + 2 + (c.length : Int) by rw [hc1]]
    exact this
theorem heldNodeS_tot {a : List PNode} {k k' : Int} (ha : a.length ≤ 3000000) (hk : ∀ n ∈ a, n.2.2.length ≤ 3000000) (h0 : 0 ≤ k ∧ k ≤ 1000) (h : Hld a k k') : Tot (fun σ => F_Z38 (σ 0) a k) (fun r => r = ((k', ()), ())) := by
  refine tot_Z38 ?_
  unfold B_Z38
  have key := loop_Z38_L0 (Q := fun _ _ _ r => r = ((k', ()), ())) (I := fun b z i => b = a ∧ ∃ j : Nat, i = j ∧ j ≤ a.length ∧ 0 ≤ z ∧ z ≤ 1000 + (j : Int) * 4000000 ∧ Hld (a.drop j) z k') (μ := fun _ _ i => a.length - i.toNat) ?_
  · exact key a k 0 ⟨rfl, 0, rfl, by omega, h0.1, by omega, h⟩
  intro b z i ⟨e1, j, e2, hj, z1, z2, hh⟩ again hag ih
  subst e1 e2
  unfold B_Z38_L0b
  simp only [tot_cond, tot_chk, tot_some, decide_eq_true_eq, decide_eq_false_iff_not, len, inb_iff, Int.toNat_natCast, bne_iff_ne, ne_eq, bne_eq_false_iff_eq]
  simp only [rdx_eq, Int.toNat_natCast]
  have w1 : w64 (z + 1) = z + 1 := w64_id (by omega) (by omega)
  have w2 : w64 (z + 1 + 1) = z + 2 := by rw [w64_id (by omega) (by omega)]; omega
  simp only [w1, w2]
  refine ⟨fun hlt => ?_, fun hge => ?_⟩
  · have hlt' : j < b.length := by omega
    rw [drop_step dNode hlt'] at hh
    generalize hrest : b.drop (j + 1) = rest at hh
    generalize hn : b.getD j dNode = n at hh ⊢
    have hm : n.2.2.length ≤ 3000000 := by rw [← hn]; exact hk _ (getD_mem' hlt')
    cases hh with
    | cons h1 h2 h3 h4 =>
      refine ⟨by omega, fun h => absurd h1 h, fun _ => ⟨by omega, fun h => absurd h2 h, fun _ => ⟨by omega, ?_⟩⟩⟩
      refine (heldIntS_tot (by omega) ⟨by omega, by omega⟩ h3).bind ?_
      rintro _ rfl
      simp only [tot_cond, tot_some, decide_eq_true_eq, decide_eq_false_iff_not]
      refine ⟨fun h => by omega, fun _ => ?_⟩
      rw [w64_succ (by omega) (by omega)]
      exact ih _ _ _ ⟨rfl, j + 1, rfl, by omega, by omega, by push_cast; omega, by rw [hrest]; exact h4⟩ (by simp; omega)
  · rw [List.drop_eq_nil_of_le (by omega)] at hh
    cases hh
    rfl
theorem markGraph_tot {a : List PNode} {root k : Int} (ha : a.length ≤ 3000000) (hk : ∀ n ∈ a, n.2.2.length ≤ 3000000) (h0 : 0 ≤ k ∧ k ≤ 1000) : Tot (fun σ => F_Z35 (σ 0) a root k) (fun r => ∃ (b : List PNode) (k' : Int), r = ((k', ()), ((b, root, ()), ())) ∧ 0 ≤ k' ∧ b.length = a.length ∧ (∀ n ∈ b, n.2.2.length ≤ 3000000) ∧ Hld b k k') := by
  refine tot_Z35 ?_
  unfold B_Z35
  refine (markNodeS_tot ha hk h0).bind ?_
  rintro _ ⟨b, k', rfl, h1, h2, h3, h4⟩
  rw [tot_some]
  exact ⟨b, k', rfl, h1, h2, h3, h4⟩
theorem heldGraph_tot {a : List PNode} {root k k' : Int} (ha : a.length ≤ 3000000) (hk : ∀ n ∈ a, n.2.2.length ≤ 3000000) (h0 : 0 ≤ k ∧ k ≤ 1000) (h1 : 0 ≤ k') (h : Hld a k k') : Tot (fun σ => F_Z37 (σ 0) a root k) (fun r => r = ((k', ()), ())) := by
  refine tot_Z37 ?_
  unfold B_Z37
  refine (heldNodeS_tot ha hk h0 h).bind ?_
  rintro _ rfl
  simp only [tot_cond, tot_some, decide_eq_true_eq, decide_eq_false_iff_not]
  exact ⟨fun h => by omega, fun _ => trivial⟩
end Go.Gx

/-
  The plain law of FnExactUnshareGraph.
-/
set_option linter.unusedVariables false
set_option linter.unusedSimpArgs false
namespace Go.Gx
theorem i_UnshareGraph_big {g : List PNode} {root : Int} (hs : g.length ≤ 1100000) (hkk : ∀ n ∈ g, n.2.2.length ≤ 2000000) : Tot (fun σ => F_Z22 (σ 0) g root) (UnsQ g root) := by
  by_cases h : g.length ≤ 1000
  · exact i_UnshareGraph_tot h hkk
  refine tot_Z22 ?_
  unfold B_Z22 B_Z22_J0
  refine (i_ValidGraph_tot (by omega) hkk).bind ?_
  rintro _ ⟨b, rfl, hb⟩
  have hn : ¬ ValidG g root := fun hv => by have := hv.most; omega
  have hf : b = false := by cases b; rfl; exact absurd (hb.1 rfl) hn
  subst hf
  simp only [tot_cond, tot_jn, tot_some, Bool.not_false, Bool.true_eq_false, false_implies, and_true, forall_const]
  exact ⟨fun h' => absurd h'.va hn, fun _ => rfl⟩
theorem s_UnshareGraph_big {g : List PNode} {root : Int} (hs : g.length ≤ 1100000) (hkk : ∀ n ∈ g, n.2.2.length ≤ 2000000) : Tot (fun σ => F_Z24 (σ 0) g root) (UnsQ g root) := by
  by_cases h : g.length ≤ 1000
  · exact s_UnshareGraph_tot h hkk
  refine tot_Z24 ?_
  unfold B_Z24 B_Z24_J0
  refine (validGraph_tot (by omega) hkk).bind ?_
  rintro _ ⟨b, rfl, hb⟩
  have hn : ¬ ValidG g root := fun hv => by have := hv.most; omega
  have hf : b = false := by cases b; rfl; exact absurd (hb.1 rfl) hn
  subst hf
  simp only [tot_cond, tot_jn, tot_some, Bool.not_false, Bool.true_eq_false, false_implies, and_true, forall_const]
  exact ⟨fun h' => absurd h'.va hn, fun _ => rfl⟩
/-- What UnshareGraph answers is small. -/
theorem unsQ_small {g : List PNode} {root : Int} {r : ((List ONode × Int × Unit) × Bool × Unit) × Unit} (h : UnsQ g root r) : ∃ (T : List ONode) (q : Int) (b : Bool), r = (((T, q, ()), b, ()), ()) ∧ (T.map cvN).length ≤ 3000000 ∧ ∀ n ∈ T.map cvN, n.2.2.length ≤ 3000000 := by
  by_cases hu : Unf g root
  · have hv := hu.va
    obtain ⟨O, ht⟩ := unf_tree hv.kidly hv.root.1 hv.root.2 hu.deep
    have hlen := unf_len (g.length + 1) root [] hu.deep
    have hsm := hu.small
    simp only [List.length_nil, Nat.zero_add] at hlen
    refine ⟨_, _, _, h.1 hu, by simp; omega, fun n hn => ?_⟩
    have hvT := ht.valid hv (by omega)
    have := (hvT.kidly n hn).1
    omega
  · exact ⟨_, _, _, h.2 hu, by simp, fun n hn => by simp at hn⟩
theorem p_Z18 (x : List PNode × Int) (hz : SzT (.pair (.sl (.pair (.int .i64) (.pair (.int .i64) (.sl (.int .i64))))) (.int .i64)) x) : ∃ k, F_Z18 k x.1 x.2 = some ((true, ()), ()) := by
  obtain ⟨g, root⟩ := x
  obtain ⟨⟨hz1, hz2⟩, _⟩ := hz
  have hz1 : g.length ≤ maxLen := hz1
  have hz2 : ∀ n ∈ g, n.2.2.length ≤ maxLen := fun n hn => (hz2 n hn).2.2.1
  refine Tot.ex (F := fun k => F_Z18 k g root) ?_
  refine tot_Z18 ?_
  unfold B_Z18 B_Z18_J0 B_Z18_J1 B_Z18_J2
  refine (szGraph_tot (root := root) (left := 1048576) hz1 hz2 (by omega)).bind ?_
  rintro _ (rfl | ⟨z, rfl, z1, z2, hg, hk⟩)
  · simp only [tot_cond, tot_some]
    exact ⟨fun _ => trivial, fun h => absurd h (by decide)⟩
  simp only [tot_cond, decide_eq_true_eq, decide_eq_false_iff_not]
  refine ⟨fun h => by omega, fun _ => ?_⟩
  have hkk : ∀ n ∈ g, n.2.2.length ≤ 2000000 := fun n hn => by have := hk n hn; omega
  have to1 : Tot (fun σ => F_Z52 (σ 0) g root) (fun r => r = (((g, root, ()), ()), ())) := toGraph_tot (by omega) (fun n hn => by have := hkk n hn; omega)
  refine to1.bind ?_
  rintro _ rfl
  refine (s_UnshareGraph_big (root := root) (by omega) hkk).bind ?_
  intro w hw
  refine to1.bind ?_
  rintro _ rfl
  have im := i_UnshareGraph_big (g := g) (root := root) (by omega) hkk
  have uni : ∀ {r r'}, UnsQ g root r → UnsQ g root r' → r = r' := fun {r r'} h h' => by
    by_cases hu : Unf g root
    · rw [h.1 hu, h'.1 hu]
    · rw [h.2 hu, h'.2 hu]
  refine im.bind ?_
  intro r hr
  cases uni hr hw
  obtain ⟨T, q, b, rfl, hT, hTk⟩ := unsQ_small hw
  have cv : List.map (fun p : ONode => (p.1, p.2.1, p.2.2.getD [])) T = T.map cvN := rfl
  simp only [cv]
  have eqT : Tot (fun σ => F_Z50 (σ 0) (T.map cvN) q (T.map cvN) q) (fun r => r = ((true, ()), ())) := (eqGraph_tot (by omega) (fun n hn => by have := hTk n hn; omega)).mono fun r hr => by
    obtain ⟨c, rfl, hc⟩ := hr
    rw [hc.2 ⟨rfl, rfl⟩]
  have eqg : Tot (fun σ => F_Z50 (σ 0) g root g root) (fun r => r = ((true, ()), ())) := (eqGraph_tot (by omega) (fun n hn => by have := hkk n hn; omega)).mono fun r hr => by
    obtain ⟨c, rfl, hc⟩ := hr
    rw [hc.2 ⟨rfl, rfl⟩]
  refine eqT.bind ?_
  rintro _ rfl
  simp only [tot_cond, tot_jn, Bool.not_true, beq_self_eq_true, Bool.false_eq_true, Bool.true_eq_false, false_implies, true_and, and_true, forall_const]
  refine to1.bind ?_
  rintro _ rfl
  refine eqg.bind ?_
  rintro _ rfl
  simp only [tot_cond, Bool.not_true, Bool.true_eq_false, Bool.false_eq_true, false_implies, true_and, and_true, forall_const]
  refine (markGraph_tot (a := g) (root := root) (k := 1) (by omega) (fun n hn => by have := hkk n hn; omega) (by omega)).bind ?_
  rintro _ ⟨_, k1, rfl, hk1, _⟩
  simp only [tot_cond, tot_jn, decide_eq_true_eq, decide_eq_false_iff_not]
  refine ⟨fun h => by omega, fun _ => ?_⟩
  refine eqT.bind ?_
  rintro _ rfl
  simp only [tot_cond, tot_jn, Bool.not_true, beq_self_eq_true, Bool.false_eq_true, Bool.true_eq_false, false_implies, true_and, and_true, forall_const]
  refine (markGraph_tot (a := T.map cvN) (root := q) (k := 1) hT hTk (by omega)).bind ?_
  rintro _ ⟨T', m, rfl, hm, hl', hk', hh⟩
  have held : Tot (fun σ => F_Z37 (σ 0) T' q 1) (fun r => r = ((m, ()), ())) := heldGraph_tot (by omega) hk' (by omega) hm hh
  refine held.bind ?_
  rintro _ rfl
  simp only [tot_cond, decide_eq_true_eq, decide_eq_false_iff_not, bne_self_eq_false, Bool.false_eq_true, Bool.true_eq_false, false_implies, true_and, and_true, forall_const]
  refine ⟨fun h => by omega, fun _ => ?_⟩
  refine to1.bind ?_
  rintro _ rfl
  refine im.bind ?_
  intro r2 hr2
  cases uni hr2 hw
  simp only [cv]
  refine eqT.bind ?_
  rintro _ rfl
  simp only [tot_cond, tot_jn, Bool.not_true, beq_self_eq_true, Bool.false_eq_true, Bool.true_eq_false, false_implies, true_and, and_true, forall_const]
  refine held.bind ?_
  rintro _ rfl
  simp only [tot_cond, tot_some, decide_eq_true_eq, decide_eq_false_iff_not, bne_self_eq_false, Bool.false_eq_true, Bool.true_eq_false, false_implies, true_and, and_true, forall_const]
  exact ⟨fun h => by omega, fun _ => trivial⟩
end Go.Gx

/-
  Plain laws about the printed functions.
-/
import Derived.Test.YthdjflfiekaneaaXGpart4
import Derived.Test.YthdjflfiekaneaaXSh
import Derived.Sort.AssemblyPlain
set_option linter.unusedVariables false
set_option linter.unusedSimpArgs false
namespace Go.Gx
/-- What is known of the reader's bytes and its place. -/
structure RD (b : List Int) (p : Int) : Prop where
  byte : ∀ z ∈ b, 0 ≤ z ∧ z ≤ 255
  len : b.length ≤ 2000
  p0 : 0 ≤ p
  p1 : p ≤ 1000000000
theorem RD.next {b : List Int} {p q : Int} (h : RD b p) (h0 : p ≤ q) (h1 : q ≤ 1000000000) : RD b q := ⟨h.byte, h.len, by have := h.p0; omega, h1⟩
theorem RD.at {b : List Int} {p : Int} (h : RD b p) {z : Int} (h0 : 0 ≤ z) (h1 : z < (b.length : Int)) : 0 ≤ rdx (0 : Int) b z ∧ rdx (0 : Int) b z ≤ 255 := h.byte _ (rdx_mem h0 h1)
theorem xor64_nonneg {x y : Int} (hx : 0 ≤ x) (hx' : x < 9223372036854775808) (hy : 0 ≤ y) (hy' : y < 9223372036854775808) : 0 ≤ xor64 x y ∧ xor64 x y < 9223372036854775808 := by
  have e : xor64 x y = w64 ((x.toNat ^^^ y.toNat : Nat) : Int) := by
    unfold xor64 w64
    congr 1
    show ((BitVec.ofInt 64 x ^^^ BitVec.ofInt 64 y).toNat : Int) = _
    rw [BitVec.toNat_xor, BitVec.toNat_ofInt, BitVec.toNat_ofInt]
    congr 2 <;> omega
  have h1 : x.toNat < 2 ^ 63 := by omega
  have h2 : y.toNat < 2 ^ 63 := by omega
  have h3 := Nat.xor_lt_two_pow h1 h2
  rw [e, w64_id (by omega) (by omega)]
  omega
/-- What a function that draws leaves of the reader. -/
def Drawn {R : Type} (b : List Int) (p c : Int) (Q : R → Prop) (r : R × ((List Int × Int × Unit) × Unit)) : Prop := ∃ x q, r = (x, ((b, q, ()), ())) ∧ p ≤ q ∧ q ≤ p + c ∧ Q x
theorem tmod_in {x n : Int} (hx : 0 ≤ x) (hn : 0 < n) : 0 ≤ x.tmod n ∧ x.tmod n < n := ⟨Int.tmod_nonneg _ hx, Int.tmod_lt_of_pos _ hn⟩
theorem tdiv_in {x n : Int} (hx : 0 ≤ x) (hn : 0 < n) : 0 ≤ x.tdiv n ∧ x.tdiv n ≤ x := ⟨Int.tdiv_nonneg hx (by omega), Int.tdiv_le_self _ hx⟩
theorem pick_tot {b : List Int} {p n : Int} (h : RD b p) (hp : p < 1000000000) (hn : -9223372036854775808 ≤ n ∧ n ≤ 9223372036854775807) :
    Tot (fun s => F_Z23 (s 0) b p n) (Drawn b p 1 fun x => ∃ v, x = (v, ()) ∧ 0 ≤ v ∧ (1 ≤ n → v < n)) := by
  refine tot_Z23 ?_
  unfold B_Z23 B_Z23_J0
  have h0 := h.p0
  have hl := h.len
  have e1 : w64 (p + 1) = p + 1 := w64_id (by omega) (by omega)
  have e2 : w64 (p + 1 - 1) = p := by rw [w64_id (by omega) (by omega)]; omega
  have fin : ∀ v : Int, 0 ≤ v → (1 ≤ n → v < n) → Drawn b p 1 (fun x => ∃ v, x = (v, ()) ∧ 0 ≤ v ∧ (1 ≤ n → v < n)) ((v, ()), ((b, p + 1, ()), ())) :=
    fun v h1 h2 => ⟨_, _, rfl, by omega, by omega, v, rfl, h1, h2⟩
  have e3 : w64 (p * 7) = p * 7 := w64_id (by omega) (by omega)
  have e4 : w64 (p * 7 + 3) = p * 7 + 3 := w64_id (by omega) (by omega)
  have e5 : w64 (p * 29) = p * 29 := w64_id (by omega) (by omega)
  simp only [tot_cond, tot_jn, tot_chk, tot_some, e1, e2, e3, e4, e5, len, decide_eq_true_eq, decide_eq_false_iff_not, bne_iff_ne, ne_eq, beq_iff_eq, beq_eq_false_iff_ne, inb_iff]
  refine ⟨fun hn1 => ⟨fun _ => fin 0 (Int.le_refl _) (by omega), fun h => by cases h⟩, fun hn1 => ⟨fun _ => fin 0 (Int.le_refl _) (by omega), fun hb => ⟨fun hlt => ?_, fun hlt => ?_⟩⟩⟩
  · refine ⟨⟨h0, hlt⟩, by omega, ?_⟩
    have hz := h.at h0 hlt
    rw [w64_id (by omega) (by omega)]
    have := tmod_in hz.1 (n := n) (by omega)
    exact fin _ this.1 (fun _ => this.2)
  · have hbl : (0 : Int) < (b.length : Int) := by omega
    have m1 := tmod_in h0 hbl
    have m2 := tmod_in (x := p * 7 + 3) (by omega) hbl
    refine ⟨hb, m1, hb, m2, hb, by omega, ?_⟩
    have z1 := h.at m1.1 m1.2
    have z2 := h.at m2.1 m2.2
    have d1 := tdiv_in h0 hbl
    generalize rdx (0 : Int) b (p.tmod b.length) = y1 at z1
    generalize rdx (0 : Int) b ((p * 7 + 3).tmod b.length) = y2 at z2
    generalize p.tdiv (b.length : Int) = y3 at d1
    simp (disch := omega) only [w64_id]
    have hX : 0 ≤ y1 * 131 + y2 * 1117 + p * 29 + y3 * 53 := by omega
    have hX' : y1 * 131 + y2 * 1117 + p * 29 + y3 * 53 < 9223372036854775808 := by omega
    generalize y1 * 131 + y2 * 1117 + p * 29 + y3 * 53 = X at hX hX'
    have d2 := tdiv_in hX (n := 64) (by omega)
    rw [w64_id (z := X.tdiv 64) (by omega) (by omega)]
    have hx := xor64_nonneg hX hX' d2.1 (by omega)
    have := tmod_in hx.1 (n := n) (by omega)
    exact fin _ this.1 (fun _ => this.2)
theorem one_tot {b : List Int} {p : Int} {l : List Int} (h : RD b p) (hp : p < 1000000000) (hl : 0 < l.length) (hm : l.length ≤ 1000000000) :
    Tot (fun s => F_Z29 (s 0) b p l) (Drawn b p 1 fun x => ∃ v, x = (v, ()) ∧ v ∈ l) := by
  refine tot_Z29 ?_
  unfold B_Z29
  refine (pick_tot h hp (n := len l) (by constructor <;> simp only [len] <;> omega)).bind ?_
  rintro _ ⟨_, q, rfl, h1, h2, v, rfl, h3, h4⟩
  simp only [len] at h4
  simp only [tot_chk, tot_some, inb_iff]
  have h5 := h4 (by omega)
  exact ⟨⟨h3, h5⟩, _, _, rfl, h1, h2, _, rfl, rdx_mem h3 h5⟩
theorem newReader_tot {code : List Int} (hc : ∀ z ∈ code, 0 ≤ z ∧ z ≤ 255) (hl : code.length ≤ 1048576) : Tot (fun s => F_Z33 (s 0) code) (fun r => ∃ b, r = (((b, 0, ()), ()), ()) ∧ RD b 0) := by
  refine tot_Z33 ?_
  unfold B_Z33 B_Z33_J0
  simp only [tot_cond, tot_jn, tot_chk, tot_some, len, decide_eq_true_eq, decide_eq_false_iff_not, cutb_iff]
  refine ⟨fun h => ⟨by omega, _, rfl, ?_⟩, fun h => ⟨_, rfl, hc, by omega, by omega, by omega⟩⟩
  refine ⟨fun z hz => hc z (List.mem_of_mem_take (List.mem_of_mem_drop hz)), ?_, by omega, by omega⟩
  simp only [sub, List.length_drop, List.length_take]
  omega
end Go.Gx

/-
  Laws, part 7k: keys.
-/
set_option linter.unusedVariables false
set_option linter.unusedSimpArgs false
namespace Go.Gx
abbrev PNode : Type := Int × Int × List Int
def nd (g : List PNode) (i : Int) : PNode := rdx ((0 : Int), ((0 : Int), ([] : List Int))) g i
def InR (g : List PNode) (l : List Int) : Prop := ∀ k ∈ l, 0 ≤ k ∧ k < (g.length : Int)
def isKeyP (n : PNode) : Prop := n.1 = 0 ∨ n.1 = 1
def sameP (a b : PNode) : Prop := a.1 = b.1 ∧ a.2.1 = b.2.1
def Says (P : Prop) (r : (Bool × Unit) × Unit) : Prop := ∃ b, r = ((b, ()), ()) ∧ (b = true ↔ P)
theorem says_true {P : Prop} (h : P) : Says P ((true, ()), ()) := ⟨true, rfl, by simp [h]⟩
theorem says_false {P : Prop} (h : ¬ P) : Says P ((false, ()), ()) := ⟨false, rfl, by simp [h]⟩
theorem isKey_tot (a b : Int) (c : List Int) : Tot (fun σ => F_s_isKey (σ 0) a b) (Says (isKeyP (a, b, c))) := by
  refine tot_s_isKey ?_
  unfold B_s_isKey isKeyP
  simp only [tot_cond, tot_some, beq_iff_eq, beq_eq_false_iff_ne, ne_eq]
  exact ⟨fun h => says_true (.inl h), fun h => ⟨_, rfl, by simp [h]⟩⟩
theorem sameKey_tot (a b : Int) (c : List Int) (d e : Int) (f : List Int) : Tot (fun σ => F_Z51 (σ 0) a b d e) (Says (sameP (a, b, c) (d, e, f))) := by
  refine tot_Z51 ?_
  unfold B_Z51 sameP
  simp only [tot_cond, tot_some, beq_iff_eq, beq_eq_false_iff_ne, ne_eq]
  exact ⟨fun h => ⟨_, rfl, by simp [h]⟩, fun h => says_false fun hc => h hc.1⟩
end Go.Gx

/-
  Laws: small words.
-/
set_option linter.unusedVariables false
set_option linter.unusedSimpArgs false
namespace Go.Gx
theorem w64_succ {n : Nat} {c : Int} (hc : 0 ≤ c ∧ c ≤ 1000) (h : n ≤ 1000000000000) : w64 ((n : Int) + c) = ((n + c.toNat : Nat) : Int) := by
  rw [w64_id (by omega) (by omega)]; omega
theorem getD_at {α : Type} {l : List α} {i : Nat} {d : α} (h : i < l.length) : l.getD i d = l[i] := by
  rw [List.getD_eq_getElem?_getD, List.getElem?_eq_getElem h]; rfl
theorem ext_getD {α : Type} {a b : List α} {d : α} (hl : a.length = b.length) (h : ∀ i, i < a.length → a.getD i d = b.getD i d) : a = b := by
  apply List.ext_getElem hl
  intro i h1 h2
  have := h i h1
  rwa [getD_at h1, getD_at h2] at this
theorem Tot.ex {R : Type} {F : Nat → Option R} {r : R} (h : Tot (fun σ => F (σ 0)) (fun x => x = r)) : ∃ k, F k = some r := by
  obtain ⟨x, rfl, K, h2⟩ := h
  exact ⟨K, h2 (fun _ => K) (fun _ => Nat.le_refl _)⟩
end Go.Gx

/-
  Laws, part 7: which graphs are valid.
-/
set_option linter.unusedVariables false
set_option linter.unusedSimpArgs false
namespace Go.Gx
def DictOk (g : List PNode) (kids : List Int) : Prop :=
  (∀ i, i < kids.length → i % 2 = 0 → isKeyP (nd g (kids.getD i 0)) ∧ ∀ k, k < i → k % 2 = 0 → ¬ sameP (nd g (kids.getD i 0)) (nd g (kids.getD k 0))) ∧ kids.length % 2 = 0
def NodeOk (g : List PNode) (n : PNode) : Prop :=
  n.2.2.length ≤ 6 ∧ InR g n.2.2 ∧
  (if n.1 = 0 then 0 ≤ n.2.1 ∧ n.2.1 ≤ 999 ∧ n.2.2 = []
   else if n.1 = 1 then 0 ≤ n.2.1 ∧ n.2.1 ≤ 9 ∧ n.2.2 = []
   else if n.1 = 2 ∨ n.1 = 3 then n.2.1 = 0
   else if n.1 = 4 then n.2.1 = 0 ∧ DictOk g n.2.2
   else if n.1 = 5 then 0 ≤ n.2.1 ∧ n.2.1 ≤ 9 ∧ n.2.2.length ≤ 1
   else False)
/-- Reached from the kids of a node, over tuples. -/
inductive TReach (g : List PNode) (at1 : Int) : Int → Prop
  | kid {k : Int} : k ∈ (nd g at1).2.2 → TReach g at1 k
  | step {x k : Int} : TReach g at1 x → (nd g x).1 = 2 → k ∈ (nd g x).2.2 → TReach g at1 k
structure ValidG (g : List PNode) (root : Int) : Prop where
  pos : 1 ≤ g.length
  most : g.length ≤ 12
  root : 0 ≤ root ∧ root < (g.length : Int)
  node : ∀ n ∈ g, NodeOk g n
  tup : ∀ i : Nat, i < g.length → (nd g i).1 = 2 → ¬ TReach g i i
theorem inRange_tot' (n lo hi : Int) : Tot (fun σ => F_Z49 (σ 0) n lo hi) (fun r => r = ((decide (lo ≤ n ∧ n ≤ hi), ()), ())) := by
  refine tot_Z49 ?_
  unfold B_Z49
  simp only [tot_cond, tot_some, decide_eq_true_eq, decide_eq_false_iff_not]
  exact ⟨fun h => by simp [h], fun h => by simp [h]⟩
theorem copyInts_tot' {l : List Int} (h : l.length ≤ 500000000000) : Tot (fun σ => F_Z44 (σ 0) l) (fun r => r = ((l, ()), ())) := by
  refine tot_Z44 ?_
  unfold B_Z44
  simp only [tot_chk, tot_some, room_iff, List.length_nil, and_true]
  omega
theorem placeIn_tot {l : List Int} (hl : l.length ≤ 900000000000) (n : Int) : Tot (fun σ => F_Z48 (σ 0) l n) (fun r => ∃ v, r = ((v, ()), ()) ∧ ((v = -1 ∧ n ∉ l) ∨ ∃ j : Nat, v = j ∧ j < l.length ∧ l.getD j 0 = n ∧ ∀ i, i < j → l.getD i 0 ≠ n)) := by
  refine tot_Z48 ?_
  unfold B_Z48
  have key := loop_Z48_L0 (Q := fun _ _ _ r => ∃ v, r = ((v, ()), ()) ∧ ((v = -1 ∧ n ∉ l) ∨ ∃ j : Nat, v = j ∧ j < l.length ∧ l.getD j 0 = n ∧ ∀ i, i < j → l.getD i 0 ≠ n)) (I := fun l' n' i => l' = l ∧ n' = n ∧ ∃ j : Nat, i = j ∧ j ≤ l.length ∧ ∀ q, q < j → l.getD q 0 ≠ n) (μ := fun _ _ i => (l.length - i).toNat) ?_
  · exact key l n 0 ⟨rfl, rfl, 0, rfl, by omega, fun q hq => by omega⟩
  intro l' n' i ⟨e1, e2, j, e3, hj, hq⟩ again hag ih
  subst e1 e2 e3
  unfold B_Z48_L0b
  simp only [tot_cond, tot_chk, tot_some, decide_eq_true_eq, decide_eq_false_iff_not, len, inb_iff, beq_iff_eq, beq_eq_false_iff_ne, ne_eq]
  simp only [rdx_eq, Int.toNat_natCast]
  refine ⟨fun hlt => ⟨by omega, fun he => ⟨_, rfl, .inr ⟨j, rfl, by omega, he, hq⟩⟩, fun hne => ?_⟩, fun hge => ⟨_, rfl, .inl ⟨rfl, fun hm => ?_⟩⟩⟩
  · rw [w64_succ (by omega) (by omega)]
    refine ih _ _ _ ⟨rfl, rfl, j + 1, rfl, by omega, fun q h => ?_⟩ (by simp; omega)
    by_cases e : q = j
    · subst e; exact hne
    · exact hq q (by omega)
  · obtain ⟨i, hi, e⟩ := List.getElem_of_mem hm
    refine hq i (by omega) ?_
    rw [List.getD_eq_getElem?_getD, List.getElem?_eq_getElem hi]; exact e
theorem allIn_tot {l : List Int} (hl : l.length ≤ 900000000000) (lo hi : Int) : Tot (fun σ => F_s_allIn (σ 0) l lo hi) (Says (∀ x ∈ l, lo ≤ x ∧ x ≤ hi)) := by
  refine tot_s_allIn ?_
  unfold B_s_allIn
  have key := loop_s_allIn_L0 (Q := fun _ _ _ _ r => Says (∀ x ∈ l, lo ≤ x ∧ x ≤ hi) r) (I := fun l' a b i => l' = l ∧ a = lo ∧ b = hi ∧ ∃ j : Nat, i = j ∧ j ≤ l.length ∧ ∀ q, q < j → lo ≤ l.getD q 0 ∧ l.getD q 0 ≤ hi) (μ := fun _ _ _ i => (l.length - i).toNat) ?_
  · exact key l lo hi 0 ⟨rfl, rfl, rfl, 0, rfl, by omega, fun q hq => by omega⟩
  intro l' a b i ⟨e1, e2, e3, j, e4, hj, hq⟩ again hag ih
  subst e1 e2 e3 e4
  unfold B_s_allIn_L0b
  simp only [tot_cond, tot_chk, tot_some, decide_eq_true_eq, decide_eq_false_iff_not, len, inb_iff]
  refine ⟨fun hlt => ⟨by omega, ?_⟩, fun hge => says_true fun x hx => ?_⟩
  · refine (inRange_tot' _ a b).bind ?_
    rintro _ rfl
    simp only [tot_cond, tot_some, Bool.not_eq_true', Bool.not_eq_false', decide_eq_true_eq, decide_eq_false_iff_not]
    simp only [rdx_eq, Int.toNat_natCast]
    have hm : l'.getD j 0 ∈ l' := by
      rw [List.getD_eq_getElem?_getD, List.getElem?_eq_getElem (by omega)]; exact List.getElem_mem _
    refine ⟨fun hn => says_false fun h => hn (h _ hm), fun hy => ?_⟩
    rw [w64_succ (by omega) (by omega)]
    refine ih _ _ _ _ ⟨rfl, rfl, rfl, j + 1, rfl, by omega, fun q h => ?_⟩ (by simp; omega)
    by_cases e : q = j
    · subst e; exact hy
    · exact hq q (by omega)
  · obtain ⟨i, hi', e⟩ := List.getElem_of_mem hx
    have := hq i (by omega)
    rw [List.getD_eq_getElem?_getD, List.getElem?_eq_getElem hi', Option.getD_some, e] at this
    exact this
theorem InR.get {g : List PNode} {l : List Int} (h : InR g l) {j : Nat} (hj : j < l.length) : 0 ≤ l.getD j 0 ∧ l.getD j 0 < (g.length : Int) := h _ (by
  rw [List.getD_eq_getElem?_getD, List.getElem?_eq_getElem hj]; exact List.getElem_mem _)
theorem validDict_tot {g : List PNode} {root k v : Int} {kids : List Int} (h : InR g kids) (hl : kids.length ≤ 6) : Tot (fun σ => F_Z37 (σ 0) g root k v kids) (Says (DictOk g kids)) := by
  refine tot_Z37 ?_
  unfold B_Z37
  have key := loop_Z37_L1 (Q := fun _ _ _ _ _ _ r => Says (DictOk g kids) r) (I := fun g' _ _ _ kids' i => g' = g ∧ kids' = kids ∧ ∃ j : Nat, i = j ∧ j ≤ kids.length + 1 ∧ j % 2 = 0 ∧
      ∀ q, q < j → q % 2 = 0 → q < kids.length → isKeyP (nd g (kids.getD q 0)) ∧ ∀ p, p < q → p % 2 = 0 → ¬ sameP (nd g (kids.getD q 0)) (nd g (kids.getD p 0))) (μ := fun _ _ _ _ _ i => (kids.length + 2 - i).toNat) ?_
  · exact key g root k v kids 0 ⟨rfl, rfl, 0, rfl, by omega, rfl, fun q hq => by omega⟩
  intro g' root' k' v' kids' i ⟨e1, e2, j, e3, hj, hj2, hq⟩ again hag ih
  subst e1 e2 e3
  unfold B_Z37_L1b
  simp only [tot_cond, tot_chk, tot_some, decide_eq_true_eq, decide_eq_false_iff_not, len, inb_iff]
  refine ⟨fun hlt => ?_, fun hge => ?_⟩
  · have hj' : j < kids'.length := by omega
    have hr := h.get hj'
    refine ⟨by omega, by rw [rdx_eq, Int.toNat_natCast]; exact hr, ?_⟩
    refine (isKey_tot _ _ []).bind ?_
    rintro _ ⟨b, rfl, hb⟩
    have hb : b = true ↔ isKeyP (nd g' (kids'.getD j 0)) := hb
    simp only [tot_cond, tot_some, Bool.not_eq_true', Bool.not_eq_false']
    refine ⟨fun hf => says_false fun hd => ?_, fun ht => ?_⟩
    · have := (hd.1 j hj' hj2).1
      rw [hf] at hb
      exact absurd (hb.2 this) (by decide)
    · have hkey := hb.1 ht
      have key2 := loop_Z37_L0 hag (Q := fun _ _ _ _ _ _ _ r => Says (DictOk g' kids') r) (I := fun g2 _ _ _ kids2 i2 k2 => g2 = g' ∧ kids2 = kids' ∧ i2 = (j : Int) ∧ ∃ m : Nat, k2 = m ∧ m % 2 = 0 ∧ m ≤ j ∧ ∀ p, p < m → p % 2 = 0 → ¬ sameP (nd g' (kids'.getD j 0)) (nd g' (kids'.getD p 0))) (μ := fun _ _ _ _ _ _ k2 => (j + 2 - k2).toNat) ?_
      · exact key2 g' root' k' v' kids' j 0 ⟨rfl, rfl, rfl, 0, rfl, rfl, by omega, fun p hp => by omega⟩
      intro g2 r2 kk2 v2 kids2 i2 k2 ⟨e1, e2, e3, m, e4, hm2, hmj, hp⟩ again2 hag2 ih2
      subst e1 e2 e3 e4
      unfold B_Z37_L0b
      simp only [tot_cond, tot_chk, tot_some, decide_eq_true_eq, decide_eq_false_iff_not, len, inb_iff]
      refine ⟨fun hmlt => ?_, fun hmge => ?_⟩
      · have hr2 := h.get (j := m) (by omega)
        refine ⟨by omega, by rw [rdx_eq, Int.toNat_natCast]; exact hr, by omega, by rw [rdx_eq, Int.toNat_natCast]; exact hr2, ?_⟩
        refine (sameKey_tot _ _ [] _ _ []).bind ?_
        rintro _ ⟨b2, rfl, hb2⟩
        have hb2 : b2 = true ↔ sameP (nd g2 (kids2.getD j 0)) (nd g2 (kids2.getD m 0)) := hb2
        simp only [tot_cond, tot_some]
        refine ⟨fun hs => says_false fun hd => (hd.1 j hj' hj2).2 m (by omega) hm2 (hb2.1 hs), fun hs => ?_⟩
        rw [w64_succ (by omega) (by omega)]
        refine ih2 _ _ _ _ _ _ _ ⟨rfl, rfl, rfl, m + 2, rfl, by omega, by omega, fun p h1 h2 => ?_⟩ (by simp; omega)
        by_cases e : p = m
        · subst e; intro hc; rw [hs] at hb2; exact absurd (hb2.2 hc) (by decide)
        · exact hp p (by omega) h2
      · have : m = j := by omega
        subst this
        rw [w64_succ (by omega) (by omega)]
        refine ih _ _ _ _ _ _ ⟨rfl, rfl, m + 2, rfl, by omega, by omega, fun q h1 h2 h3 => ?_⟩ (by simp; omega)
        by_cases e : q = m
        · subst e; exact ⟨hkey, hp⟩
        · exact hq q (by omega) h2 h3
  · refine ⟨_, rfl, ?_⟩
    rw [Int.tmod_eq_emod_of_nonneg (by omega), beq_iff_eq]
    constructor
    · intro h2; exact ⟨fun i hi hi2 => hq i (by omega) hi2 hi, by omega⟩
    · intro h2; have := h2.2; omega
end Go.Gx

/-
  Laws, part 8: valid graphs.
-/
set_option linter.unusedVariables false
set_option linter.unusedSimpArgs false
namespace Go.Gx
theorem says_iff {P : Prop} {b : Bool} (h : b = true ↔ P) : Says P ((b, ()), ()) := ⟨b, rfl, h⟩
theorem validNode_tot {g : List PNode} {root : Int} (hg : g.length ≤ 1000000) (n : PNode) (hn : n.2.2.length ≤ 1000000) : Tot (fun σ => F_Z35 (σ 0) g root n.1 n.2.1 n.2.2) (Says (NodeOk g n)) := by
  obtain ⟨k, v, kids⟩ := n
  refine tot_Z35 ?_
  unfold B_Z35
  have j0 : ∀ b : Bool, (b = false ↔ kids.length ≤ 6 ∧ InR g kids) → Tot (fun σ => B_Z35_J0 (σ 0) (F_s_allIn (σ 0)) (F_Z49 (σ 0)) (F_Z37 (σ 0)) g root k v kids b) (Says (NodeOk g (k, v, kids))) := by
    intro b hb
    unfold B_Z35_J0 B_Z35_J1
    rw [tot_cond]
    refine ⟨fun ht => ?_, fun hf => ?_⟩
    · rw [tot_some]
      refine says_false fun h => ?_
      have := hb.2 ⟨h.1, h.2.1⟩
      rw [ht] at this
      cases this
    obtain ⟨h6, hin⟩ := hb.1 hf
    have ok : ∀ {Q : Prop}, (NodeOk g (k, v, kids) ↔ Q) ↔ ((if k = 0 then 0 ≤ v ∧ v ≤ 999 ∧ kids = [] else if k = 1 then 0 ≤ v ∧ v ≤ 9 ∧ kids = [] else if k = 2 ∨ k = 3 then v = 0 else if k = 4 then v = 0 ∧ DictOk g kids else if k = 5 then 0 ≤ v ∧ v ≤ 9 ∧ kids.length ≤ 1 else False) ↔ Q) := by
      intro Q
      unfold NodeOk
      simp only [h6, hin, true_and]
    have fin : ∀ (b : Bool), ((if k = 0 then 0 ≤ v ∧ v ≤ 999 ∧ kids = [] else if k = 1 then 0 ≤ v ∧ v ≤ 9 ∧ kids = [] else if k = 2 ∨ k = 3 then v = 0 else if k = 4 then v = 0 ∧ DictOk g kids else if k = 5 then 0 ≤ v ∧ v ≤ 9 ∧ kids.length ≤ 1 else False) ↔ b = true) → Says (NodeOk g (k, v, kids)) ((b, ()), ()) := fun b h => says_iff (ok.2 h).symm
    have hlen : (len kids == 0) = decide (kids = []) := by
      rw [Bool.eq_iff_iff]; simp [len]
    simp only [tot_cond, tot_jn, beq_iff_eq, beq_eq_false_iff_ne, ne_eq]
    refine ⟨fun h0 => ?_, fun h0 => ⟨fun h1 => ?_, fun h1 => ⟨fun h2 => ?_, fun h2 => ⟨fun h3 => ?_, fun h3 => ⟨fun h4 => ⟨fun hv => ?_, fun hv => ?_⟩, fun h4 => ⟨fun h5 => ?_, fun h5 => ?_⟩⟩⟩⟩⟩⟩
    · refine (inRange_tot' v 0 999).bind ?_
      rintro _ rfl
      simp only [tot_cond, tot_some, decide_eq_true_eq, decide_eq_false_iff_not]
      exact ⟨fun hr => fin _ (by rw [if_pos h0, hlen, decide_eq_true_eq]; exact ⟨fun h => h.2.2, fun h => ⟨hr.1, hr.2, h⟩⟩), fun hr => fin _ (by rw [if_pos h0]; exact ⟨fun h => absurd ⟨h.1, h.2.1⟩ hr, fun h => by cases h⟩)⟩
    · refine (inRange_tot' v 0 9).bind ?_
      rintro _ rfl
      simp only [tot_cond, tot_some, decide_eq_true_eq, decide_eq_false_iff_not]
      exact ⟨fun hr => fin _ (by rw [if_neg h0, if_pos h1, hlen, decide_eq_true_eq]; exact ⟨fun h => h.2.2, fun h => ⟨hr.1, hr.2, h⟩⟩), fun hr => fin _ (by rw [if_neg h0, if_pos h1]; exact ⟨fun h => absurd ⟨h.1, h.2.1⟩ hr, fun h => by cases h⟩)⟩
    · refine ⟨fun _ => ?_, fun h => absurd h2 h⟩
      rw [tot_some]
      exact fin _ (by rw [if_neg h0, if_neg h1, if_pos (.inl h2), beq_iff_eq])
    · rw [tot_some]
      exact fin _ (by rw [if_neg h0, if_neg h1, if_pos (.inr h3), beq_iff_eq])
    · refine (validDict_tot hin h6).bind ?_
      rintro _ ⟨b2, rfl, hb2⟩
      rw [tot_some]
      exact fin _ (by rw [if_neg h0, if_neg h1, if_neg (by simp [h2, h3]), if_pos h4]; exact ⟨fun h => hb2.2 h.2, fun h => ⟨hv, hb2.1 h⟩⟩)
    · rw [tot_some]
      exact fin _ (by rw [if_neg h0, if_neg h1, if_neg (by simp [h2, h3]), if_pos h4]; exact ⟨fun h => absurd h.1 hv, fun h => by cases h⟩)
    · refine (inRange_tot' v 0 9).bind ?_
      rintro _ rfl
      simp only [tot_cond, tot_some, decide_eq_true_eq, decide_eq_false_iff_not]
      exact ⟨fun hr => fin _ (by rw [if_neg h0, if_neg h1, if_neg (by simp [h2, h3]), if_neg h4, if_pos h5, decide_eq_true_eq]; exact ⟨fun h => by have := h.2.2; simp only [len]; omega, fun h => ⟨hr.1, hr.2, by simp only [len] at h; omega⟩⟩),
        fun hr => fin _ (by rw [if_neg h0, if_neg h1, if_neg (by simp [h2, h3]), if_neg h4, if_pos h5]; exact ⟨fun h => absurd ⟨h.1, h.2.1⟩ hr, fun h => by cases h⟩)⟩
    · rw [tot_some]
      exact fin _ (by rw [if_neg h0, if_neg h1, if_neg (by simp [h2, h3]), if_neg h4, if_neg h5]; simp)
  simp only [tot_cond, tot_jn, decide_eq_true_eq, decide_eq_false_iff_not, len]
  refine ⟨fun h => j0 true ⟨fun h' => Bool.noConfusion h', fun h' => by omega⟩, fun h => ?_⟩
  rw [show w64 ((g.length : Int) - 1) = (g.length : Int) - 1 from w64_id (by omega) (by omega)]
  refine (allIn_tot (by simp only [] at hn; omega) 0 _).bind ?_
  rintro _ ⟨b, rfl, hb⟩
  rw [tot_jn]
  refine j0 (!b) ?_
  rw [Bool.not_eq_false', hb]
  constructor
  · intro h1; exact ⟨by omega, fun x hx => by have := h1 x hx; omega⟩
  · intro h1 x hx; have := h1.2 x hx; omega
/-- Every node's kids are nodes, and not too many. -/
def Kidly (g : List PNode) : Prop := ∀ n ∈ g, n.2.2.length ≤ 6 ∧ InR g n.2.2
theorem nd_mem {g : List PNode} {i : Int} (h0 : 0 ≤ i) (h1 : i < (g.length : Int)) : nd g i ∈ g := rdx_mem h0 h1
theorem nodup_len {n : Nat} : ∀ {l : List Int}, l.Nodup → (∀ x ∈ l, 0 ≤ x ∧ x < (n : Int)) → l.length ≤ n := by
  induction n with
  | zero =>
    intro l _ h
    cases l with
    | nil => simp
    | cons x l => have := h x (by simp); omega
  | succ n ih =>
    intro l hn h
    have h1 : (l.erase (n : Int)).Nodup := hn.erase _
    have h2 := ih h1 (fun x hx => by
      have hx' := List.mem_of_mem_erase hx
      have := h x hx'
      have hne : x ≠ (n : Int) := fun e => by subst e; exact (List.Nodup.not_mem_erase hn) hx
      omega)
    by_cases hm : (n : Int) ∈ l
    · rw [List.length_erase_of_mem hm] at h2; omega
    · rw [List.erase_of_not_mem hm] at h2; omega
theorem getD_left {α : Type} {l m : List α} {i : Nat} {d : α} (h : i < l.length) : (l ++ m).getD i d = l.getD i d := by
  rw [List.getD_eq_getElem?_getD, List.getD_eq_getElem?_getD, List.getElem?_append_left h]
theorem tupleReach_tot {g : List PNode} {root : Int} (hk : Kidly g) (hg : g.length ≤ 1000000) {at1 : Int} (h0 : 0 ≤ at1) (h1 : at1 < (g.length : Int)) :
    Tot (fun σ => F_Z28 (σ 0) g root at1) (fun r => ∃ out : List Int, r = ((out, ()), ()) ∧ (∀ x, x ∈ out ↔ TReach g at1 x) ∧ out.Nodup ∧ out.length ≤ g.length) := by
  refine tot_Z28 ?_
  unfold B_Z28
  have hat := hk _ (nd_mem h0 h1)
  rw [tot_chk]
  refine ⟨inb_iff.2 ⟨h0, h1⟩, (copyInts_tot' (l := (nd g at1).2.2) (by omega)).bind ?_⟩
  rintro _ rfl
  have key := loop_Z28_L1 (Q := fun _ _ _ _ _ r => ∃ out : List Int, r = ((out, ()), ()) ∧ (∀ x, x ∈ out ↔ TReach g at1 x) ∧ out.Nodup ∧ out.length ≤ g.length)
    (I := fun g' _ out list k7 => g' = g ∧ ∃ j : Nat, k7 = j ∧ j ≤ list.length ∧ (∀ x ∈ list, TReach g at1 x ∧ 0 ≤ x ∧ x < (g.length : Int)) ∧ out.Nodup ∧ (∀ x ∈ out, x ∈ list) ∧ (∀ q, q < j → list.getD q 0 ∈ out) ∧
      (∀ x ∈ (nd g at1).2.2, x ∈ list) ∧ (∀ x ∈ out, (nd g x).1 = 2 → ∀ y ∈ (nd g x).2.2, y ∈ list) ∧ list.length ≤ 6 + 6 * out.length) (μ := fun _ _ out list k7 => 7 * (g.length - out.length) + (list.length - k7.toNat)) ?_
  · exact key g root [] _ 0 ⟨rfl, 0, rfl, by omega, fun x hx => ⟨.kid hx, hat.2 x hx⟩, List.nodup_nil, fun x hx => by simp at hx, fun q hq => by omega, fun x hx => hx, fun x hx => by simp at hx, by simp; exact hat.1⟩
  intro g' r' out list k7 ⟨e1, j, e2, hj, hl, hnd, hol, hq, hkid, hst, hlen⟩ again hag ih
  subst e1 e2
  unfold B_Z28_L1b B_Z28_J0
  have hout : out.length ≤ g'.length := nodup_len hnd fun x hx => (hl x (hol x hx)).2
  simp only [tot_cond, tot_chk, tot_jn, tot_some, decide_eq_true_eq, decide_eq_false_iff_not, len, inb_iff, Int.toNat_natCast]
  refine ⟨fun hlt => ⟨by omega, by omega, ?_⟩, fun hge => ?_⟩
  · have hj' : j < list.length := by omega
    have hm : list.getD j 0 ∈ list := by rw [List.getD_eq_getElem?_getD, List.getElem?_eq_getElem hj']; exact List.getElem_mem _
    generalize hx : list.getD j 0 = x at hm
    have hxr := hl x hm
    refine (placeIn_tot (by omega) x).bind ?_
    rintro _ ⟨v, rfl, hv⟩
    simp only [tot_cond, tot_chk, tot_jn, decide_eq_true_eq, decide_eq_false_iff_not, room_iff, inb_iff, List.length_cons, List.length_nil, beq_iff_eq, beq_eq_false_iff_ne, ne_eq]
    have wj : w64 ((j : Int) + 1) = ((j + 1 : Nat) : Int) := w64_succ (by omega) (by omega)
    refine ⟨fun hneg => ?_, fun hpos => ?_⟩
    · have hni : x ∉ out := by
        rcases hv with ⟨_, h⟩ | ⟨i, e, _⟩
        · exact h
        · omega
      have hnd2 : (out ++ [x]).Nodup := by
        rw [List.nodup_append]
        exact ⟨hnd, by simp, fun a ha b hb e => by simp at hb; subst hb; subst e; exact hni ha⟩
      have hout2 : (out ++ [x]).length ≤ g'.length := nodup_len hnd2 fun y hy => by
        rcases List.mem_append.1 hy with h | h
        · exact (hl y (hol y h)).2
        · simp at h; subst h; exact hxr.2
      simp only [List.length_append, List.length_cons, List.length_nil] at hout2
      have hkx := hk _ (nd_mem hxr.2.1 hxr.2.2)
      have hkl : (nd g' x).2.2.length ≤ 6 := hkx.1
      refine ⟨by omega, by omega, by omega, by omega, by omega, hxr.2, fun ht => ⟨by omega, by omega, hxr.2, by show list.length + (nd g' x).2.2.length ≤ _; omega, ?_⟩, fun ht => ?_⟩
      · rw [wj]
        refine ih _ _ _ _ _ ⟨rfl, j + 1, rfl, by simp only [List.length_append]; omega, fun y hy => ?_, hnd2, fun y hy => ?_, fun q h => ?_, fun y hy => List.mem_append_left _ (hkid y hy), fun y hy h2 z hz => ?_, ?_⟩ ?_
        · rcases List.mem_append.1 hy with h | h
          · exact hl y h
          · exact ⟨.step hxr.1 ht h, hkx.2 y h⟩
        · rcases List.mem_append.1 hy with h | h
          · exact List.mem_append_left _ (hol y h)
          · simp at h; subst h; exact List.mem_append_left _ hm
        · rw [getD_left (by omega)]
          by_cases e : q = j
          · subst e; rw [hx]; simp
          · exact List.mem_append_left _ (hq q (by omega))
        · rcases List.mem_append.1 hy with h | h
          · exact List.mem_append_left _ (hst y h h2 z hz)
          · simp at h; subst h; exact List.mem_append_right _ hz
        · simp only [List.length_append, List.length_cons, List.length_nil]
          have : (rdx ((0 : Int), ((0 : Int), ([] : List Int))) g' x).2.2.length ≤ 6 := hkl
          omega
        · simp only [List.length_append, List.length_cons, List.length_nil, Int.toNat_natCast]
          have : (rdx ((0 : Int), ((0 : Int), ([] : List Int))) g' x).2.2.length ≤ 6 := hkl
          omega
      · rw [wj]
        refine ih _ _ _ _ _ ⟨rfl, j + 1, rfl, by omega, hl, hnd2, fun y hy => ?_, fun q h => ?_, hkid, fun y hy h2 z hz => ?_, ?_⟩ ?_
        · rcases List.mem_append.1 hy with h | h
          · exact hol y h
          · simp at h; subst h; exact hm
        · by_cases e : q = j
          · subst e; rw [hx]; simp
          · exact List.mem_append_left _ (hq q (by omega))
        · rcases List.mem_append.1 hy with h | h
          · exact hst y h h2 z hz
          · simp at h; subst h; exact absurd h2 ht
        · simp only [List.length_append, List.length_cons, List.length_nil]; omega
        · simp only [List.length_append, List.length_cons, List.length_nil, Int.toNat_natCast]; omega
    · have hmo : x ∈ out := by
        rcases hv with ⟨e, _⟩ | ⟨i, e, hi, he, _⟩
        · omega
        · rw [← he, List.getD_eq_getElem?_getD, List.getElem?_eq_getElem hi]; exact List.getElem_mem _
      rw [wj]
      refine ih _ _ _ _ _ ⟨rfl, j + 1, rfl, by omega, hl, hnd, hol, fun q h => ?_, hkid, hst, hlen⟩ (by simp only [Int.toNat_natCast]; omega)
      by_cases e : q = j
      · subst e; rw [hx]; exact hmo
      · exact hq q (by omega)
  · have hall : ∀ x ∈ list, x ∈ out := by
      intro x hx
      obtain ⟨i, hi, e⟩ := List.getElem_of_mem hx
      have := hq i (by omega)
      rwa [List.getD_eq_getElem?_getD, List.getElem?_eq_getElem hi, Option.getD_some, e] at this
    refine ⟨out, rfl, fun x => ⟨fun hx => (hl x (hol x hx)).1, fun hx => ?_⟩, hnd, hout⟩
    induction hx with
    | kid hk' => exact hall _ (hkid _ hk')
    | step _ h2 hk' ih' => exact hall _ (hst _ ih' h2 _ hk')
end Go.Gx

/-
  Laws, part U1: what is reached.
-/
set_option linter.unusedVariables false
set_option linter.unusedSimpArgs false
namespace Go.Gx
/-- The kids of a node. -/
def kd (g : List PNode) (i : Int) : List Int := (nd g i).2.2
/-- The nodes that were met, behind a walk. -/
def rch (g : List PNode) : Nat → Int → List Int → List Int
  | 0, _, met => met
  | f + 1, at1, met => if at1 ∈ met then met else (kd g at1).foldl (fun m k => rch g f k m) (met ++ [at1])
def MetOk (g : List PNode) (met : List Int) : Prop := met.Nodup ∧ ∀ x ∈ met, 0 ≤ x ∧ x < (g.length : Int)
theorem MetOk.len {g : List PNode} {met : List Int} (h : MetOk g met) : met.length ≤ g.length := nodup_len h.1 h.2
theorem MetOk.nil {g : List PNode} : MetOk g [] := ⟨List.nodup_nil, fun x hx => by simp at hx⟩
theorem MetOk.snoc {g : List PNode} {met : List Int} {x : Int} (h : MetOk g met) (h0 : 0 ≤ x) (h1 : x < (g.length : Int)) (hx : x ∉ met) : MetOk g (met ++ [x]) := by
  refine ⟨?_, fun y hy => ?_⟩
  · rw [List.nodup_append]
    exact ⟨h.1, by simp, fun a ha b hb e => by simp at hb; subst hb; subst e; exact hx ha⟩
  · rcases List.mem_append.1 hy with h' | h'
    · exact h.2 y h'
    · simp at h'; subst h'; exact ⟨h0, h1⟩
theorem foldl_met {g : List PNode} {F : List Int → Int → List Int} (hF : ∀ m k, 0 ≤ k → k < (g.length : Int) → MetOk g m → MetOk g (F m k) ∧ m.length ≤ (F m k).length) :
    ∀ (l m : List Int), InR g l → MetOk g m → MetOk g (l.foldl F m) ∧ m.length ≤ (l.foldl F m).length := by
  intro l
  induction l with
  | nil => intro m _ h; exact ⟨h, Nat.le_refl _⟩
  | cons k l ih =>
    intro m hl h
    have hk := hl k (by simp)
    have h1 := hF m k hk.1 hk.2 h
    have h2 := ih (F m k) (fun x hx => hl x (by simp [hx])) h1.1
    exact ⟨h2.1, Nat.le_trans h1.2 h2.2⟩
theorem rch_ok {g : List PNode} (hk : Kidly g) : ∀ (f : Nat) (at1 : Int) (met : List Int), 0 ≤ at1 → at1 < (g.length : Int) → MetOk g met → MetOk g (rch g f at1 met) ∧ met.length ≤ (rch g f at1 met).length := by
  intro f
  induction f with
  | zero => intro at1 met _ _ h; exact ⟨h, Nat.le_refl _⟩
  | succ f ih =>
    intro at1 met h0 h1 h
    unfold rch
    by_cases hm : at1 ∈ met
    · rw [if_pos hm]; exact ⟨h, Nat.le_refl _⟩
    · rw [if_neg hm]
      have := foldl_met (F := fun m k => rch g f k m) (fun m k a b c => ih k m a b c) (kd g at1) (met ++ [at1]) (hk _ (nd_mem h0 h1)).2 (h.snoc h0 h1 hm)
      exact ⟨this.1, by have := this.2; simp only [List.length_append, List.length_cons, List.length_nil] at this; omega⟩
theorem inR_take {g : List PNode} {l : List Int} (h : InR g l) (j : Nat) : InR g (l.take j) := fun x hx => h x (List.mem_of_mem_take hx)
theorem foldl_take_succ {α : Type} {F : α → Int → α} {l : List Int} {j : Nat} (h : j < l.length) (m : α) : (l.take (j + 1)).foldl F m = F ((l.take j).foldl F m) (rdx (0 : Int) l (j : Int)) := by
  have e : rdx (0 : Int) l (j : Int) = l[j] := by
    show l.getD (Int.toNat (j : Int)) 0 = _
    rw [Int.toNat_natCast, List.getD_eq_getElem?_getD, List.getElem?_eq_getElem h]; rfl
  rw [e, List.take_add_one, List.getElem?_eq_getElem h, List.foldl_append]
  rfl
theorem reach_tot {g : List PNode} {root : Int} (hk : Kidly g) (hg : g.length ≤ 1000000) : ∀ (f : Nat) (at1 : Int) (met : List Int), 0 ≤ at1 → at1 < (g.length : Int) → MetOk g met → g.length < f + met.length →
    Tot (fun σ => F_s_reach (σ 0) g root at1 met) (fun r => r = ((rch g f at1 met, ()), ())) := by
  intro f
  induction f with
  | zero => intro at1 met _ _ hm hf; have := hm.len; omega
  | succ f ihf =>
    intro at1 met h0 h1 hm hf
    have hml := hm.len
    refine tot_s_reach ?_
    unfold B_s_reach
    refine (placeIn_tot (by omega) at1).bind ?_
    rintro _ ⟨v, rfl, hv⟩
    simp only [tot_cond, tot_some, decide_eq_true_eq, decide_eq_false_iff_not, ge_iff_le]
    refine ⟨fun hge => ?_, fun hlt => ?_⟩
    · have hmo : at1 ∈ met := by
        rcases hv with ⟨e, _⟩ | ⟨i, e, hi, he, _⟩
        · omega
        · rw [← he, List.getD_eq_getElem?_getD, List.getElem?_eq_getElem hi]; exact List.getElem_mem _
      simp only [rch, if_pos hmo]
    have hni : at1 ∉ met := by
      rcases hv with ⟨_, h⟩ | ⟨i, e, _⟩
      · exact h
      · omega
    have hkx := hk _ (nd_mem h0 h1)
    have hsn := hm.snoc h0 h1 hni
    refine (copyInts_tot' (by omega)).bind ?_
    rintro _ rfl
    rw [tot_chk, room_iff]
    refine ⟨by simp only [List.length_cons, List.length_nil]; omega, ?_⟩
    have key := loop_s_reach_L0 (Q := fun _ _ _ _ _ r => r = ((rch g (f + 1) at1 met, ()), ()))
      (I := fun a m g' r' i => a = at1 ∧ g' = g ∧ r' = root ∧ ∃ j : Nat, i = j ∧ j ≤ (kd g at1).length ∧ m = ((kd g at1).take j).foldl (fun m k => rch g f k m) (met ++ [at1])) (μ := fun _ _ _ _ i => (kd g at1).length - i.toNat) ?_
    · exact key at1 _ g root 0 ⟨rfl, rfl, rfl, 0, rfl, by omega, by simp⟩
    intro a m g' r' i ⟨e1, e2, e3, j, e4, hj, e5⟩ again hag ih
    subst e1 e2 e3 e4
    have hmk := foldl_met (F := fun m k => rch g' f k m) (fun m k a b c => rch_ok hk f k m a b c) ((kd g' a).take j) (met ++ [a]) (inR_take hkx.2 j) hsn
    rw [← e5] at hmk
    have hmk2 := hmk.2
    simp only [List.length_append, List.length_cons, List.length_nil] at hmk2
    unfold B_s_reach_L0b
    simp only [tot_cond, tot_chk, tot_some, decide_eq_true_eq, decide_eq_false_iff_not, len, inb_iff]
    refine ⟨⟨h0, h1⟩, fun hlt => ⟨⟨h0, h1⟩, ⟨by omega, hlt⟩, ?_⟩, fun hge => ?_⟩
    · have hlt' : j < (kd g' a).length := by have : (j : Int) < ((kd g' a).length : Int) := hlt; omega
      have hl6 : (kd g' a).length ≤ 6 := hkx.1
      have hr := hkx.2 (rdx (0 : Int) (kd g' a) (j : Int)) (rdx_mem (by omega) (show (j : Int) < ((kd g' a).length : Int) by omega))
      refine (ihf (rdx (0 : Int) (kd g' a) (j : Int)) m hr.1 hr.2 hmk.1 (by omega)).bind ?_
      rintro _ rfl
      rw [show w64 ((j : Int) + 1) = ((j + 1 : Nat) : Int) from w64_succ (by omega) (by omega)]
      refine ih _ _ _ _ _ ⟨rfl, rfl, rfl, j + 1, rfl, by omega, ?_⟩ (by simp only [Int.toNat_natCast]; omega)
      rw [foldl_take_succ hlt', ← e5]
    · have hge' : (kd g' a).length ≤ j := by have : ¬ (j : Int) < ((kd g' a).length : Int) := hge; omega
      rw [e5, List.take_of_length_le hge']
      simp only [rch, if_neg hni]
/-- What a map of marks says. -/
def Seen (t : List (Int × Bool)) (met : List Int) : Prop := ∀ x, (mfind t x).getD false = true ↔ x ∈ met
theorem mfind_mput {α : Type} (x : α) (z y : Int) : ∀ t : List (Int × α), mfind (mput t z x) y = if y = z then some x else mfind t y := by
  intro t
  induction t with
  | nil =>
    by_cases h : y = z
    · subst h; simp [mput, mfind]
    · have : (z == y) = false := by simpa using fun e => h e.symm
      simp [mput, mfind, this, h]
  | cons p t ih =>
    obtain ⟨k, v⟩ := p
    by_cases hkz : k = z
    · subst hkz
      by_cases h : y = k
      · subst h; simp [mput, mfind]
      · have : (k == y) = false := by simpa using fun e => h e.symm
        simp [mput, mfind, this, h]
    · have e1 : (k == z) = false := by simpa using hkz
      by_cases h : k = y
      · subst h; simp [mput, mfind, e1, hkz]
      · have : (k == y) = false := by simpa using h
        simp [mput, mfind, this, e1, ih]
theorem Seen.put {t : List (Int × Bool)} {met : List Int} (h : Seen t met) (z : Int) : Seen (mput t z true) (met ++ [z]) := by
  intro x
  rw [mfind_mput]
  by_cases e : x = z
  · subst e; simp
  · rw [if_neg e, h x]; simp [e]
theorem reachOf1_tot {g : List PNode} {root : Int} (hk : Kidly g) (hg : g.length ≤ 1000000) : ∀ (f : Nat) (at1 : Int) (t : List (Int × Bool)) (met : List Int), 0 ≤ at1 → at1 < (g.length : Int) → MetOk g met → Seen t met → g.length < f + met.length →
    Tot (fun σ => F_Z38 (σ 0) at1 t met g root) (fun r => ∃ t2, r = ((), ((t2, ()), (rch g f at1 met, ()), (g, root, ()), ((), ()), ())) ∧ Seen t2 (rch g f at1 met)) := by
  intro f
  induction f with
  | zero => intro at1 t met _ _ hm _ hf; have := hm.len; omega
  | succ f ihf =>
    intro at1 t met h0 h1 hm hs hf
    have hml := hm.len
    refine tot_Z38 ?_
    unfold B_Z38
    simp only [tot_cond, tot_some, tot_chk, room_iff, inb_iff, List.length_cons, List.length_nil]
    refine ⟨fun hy => ?_, fun hn => ⟨by omega, ⟨h0, h1⟩, ?_⟩⟩
    · have hmo : at1 ∈ met := (hs at1).1 hy
      refine ⟨t, ?_, ?_⟩ <;> simp only [rch, if_pos hmo]
      exact hs
    have hni : at1 ∉ met := fun h => by rw [(hs at1).2 h] at hn; cases hn
    have hkx := hk _ (nd_mem h0 h1)
    have hsn := hm.snoc h0 h1 hni
    have key := loop_Z38_L0 (Q := fun _ _ _ _ _ _ _ r => ∃ t2, r = ((), ((t2, ()), (rch g (f + 1) at1 met, ()), (g, root, ()), ((), ()), ())) ∧ Seen t2 (rch g (f + 1) at1 met))
      (I := fun t m g' r' ks n i => g' = g ∧ r' = root ∧ ks = kd g at1 ∧ n = ((kd g at1).length : Int) ∧ Seen t m ∧ ∃ j : Nat, i = j ∧ j ≤ (kd g at1).length ∧ m = ((kd g at1).take j).foldl (fun m k => rch g f k m) (met ++ [at1])) (μ := fun _ _ _ _ _ _ i => (kd g at1).length - i.toNat) ?_
    · exact key _ _ g root _ _ 0 ⟨rfl, rfl, rfl, rfl, hs.put at1, 0, rfl, by omega, by simp⟩
    intro t' m g' r' ks n i ⟨e1, e2, e3, e4, hs', j, e6, hj, e5⟩ again hag ih
    subst e1 e2 e3 e4 e6
    have hmk := foldl_met (F := fun m k => rch g' f k m) (fun m k a b c => rch_ok hk f k m a b c) ((kd g' at1).take j) (met ++ [at1]) (inR_take hkx.2 j) hsn
    rw [← e5] at hmk
    have hmk2 := hmk.2
    simp only [List.length_append, List.length_cons, List.length_nil] at hmk2
    unfold B_Z38_L0b
    simp only [tot_cond, tot_chk, tot_some, decide_eq_true_eq, decide_eq_false_iff_not, inb_iff]
    refine ⟨fun hlt => ⟨⟨by omega, hlt⟩, ?_⟩, fun hge => ?_⟩
    · have hl6 : (kd g' at1).length ≤ 6 := hkx.1
      have hr := hkx.2 (rdx (0 : Int) (kd g' at1) (j : Int)) (rdx_mem (by omega) (show (j : Int) < ((kd g' at1).length : Int) by omega))
      refine (ihf (rdx (0 : Int) (kd g' at1) (j : Int)) t' m hr.1 hr.2 hmk.1 hs' (by omega)).bind ?_
      rintro _ ⟨t2, rfl, hs2⟩
      rw [show w64 ((j : Int) + 1) = ((j + 1 : Nat) : Int) from w64_succ (by omega) (by omega)]
      refine ih _ _ _ _ _ _ _ ⟨rfl, rfl, rfl, rfl, hs2, j + 1, rfl, by omega, ?_⟩ (by simp only [Int.toNat_natCast]; omega)
      rw [foldl_take_succ (by omega), ← e5]
    · have hge' : (kd g' at1).length ≤ j := by omega
      have e7 : m = rch g' (f + 1) at1 met := by
        rw [e5, List.take_of_length_le hge']
        simp only [rch, if_neg hni]
      exact ⟨t', by rw [e7], by rw [← e7]; exact hs'⟩
/-- What is reached from the root. -/
def reachP (g : List PNode) (root : Int) : List Int := rch g (g.length + 1) root []
theorem reachOf_tot {g : List PNode} {root : Int} (hk : Kidly g) (hg : g.length ≤ 1000000) (h0 : 0 ≤ root) (h1 : root < (g.length : Int)) : Tot (fun σ => F_Z52 (σ 0) g root) (fun r => r = ((reachP g root, ()), ())) := by
  refine tot_Z52 ?_
  unfold B_Z52
  refine (reachOf1_tot (f := g.length + 1) (met := []) hk hg root [] h0 h1 .nil (fun x => by simp [mfind]) (by simp)).bind ?_
  rintro _ ⟨t2, rfl, _⟩
  rw [tot_some]; rfl
theorem s_reach_tot {g : List PNode} {root : Int} (hk : Kidly g) (hg : g.length ≤ 1000000) (h0 : 0 ≤ root) (h1 : root < (g.length : Int)) : Tot (fun σ => F_s_reach (σ 0) g root root []) (fun r => r = ((reachP g root, ()), ())) :=
  reach_tot hk hg (g.length + 1) root [] h0 h1 .nil (by simp)
end Go.Gx

/-
  Laws, part U2: circles: does a way lead back?
-/
set_option linter.unusedVariables false
set_option linter.unusedSimpArgs false
namespace Go.Gx
/-- Ways from a node over nodes with p. -/
inductive PReach (g : List PNode) (p : Int → Prop) (s : Int) : Int → Prop
  | kid {k : Int} : k ∈ kd g s → PReach g p s k
  | step {x k : Int} : PReach g p s x → p x → k ∈ kd g x → PReach g p s k
/-- A search: S is marked, L is still to do, E is told, D is done. -/
structure Srch (g : List PNode) (p : Int → Prop) (s : Int) (S L : List Int) (E D : Int → Prop) (c : Nat) : Prop where
  ok : MetOk g S
  reach : ∀ x ∈ S, PReach g p s x ∧ p x
  inl : ∀ x ∈ L, x = s ∨ x ∈ S
  all : ∀ x, x = s ∨ x ∈ S → x ∈ L ∨ E x
  len : L.length ≤ c + S.length
  done : ∀ x, D x → ∀ k ∈ kd g x, k ≠ s ∧ (p k → k ∈ S)
theorem Srch.none {g : List PNode} {p : Int → Prop} {s : Int} {S : List Int} {E : Int → Prop} {c : Nat} (h : Srch g p s S [] E E c) : ¬ PReach g p s s := by
  have hE : ∀ x, x = s ∨ x ∈ S → E x := fun x hx => (h.all x hx).resolve_left (by simp)
  have key : ∀ k, PReach g p s k → k ≠ s ∧ (p k → k ∈ S) := by
    intro k hk
    induction hk with
    | kid hk => exact h.done s (hE s (.inl rfl)) _ hk
    | step _ hp hk ih => exact h.done _ (hE _ (.inr (ih.2 hp))) _ hk
  exact fun hs => (key s hs).1 rfl
theorem Srch.pop {g : List PNode} {p : Int → Prop} {s x : Int} {S L : List Int} {E : Int → Prop} (h : Srch g p s S (L ++ [x]) E E 1) : Srch g p s S L (fun y => E y ∨ y = x) E 0 := by
  refine ⟨h.ok, h.reach, fun y hy => h.inl y (List.mem_append_left _ hy), fun y hy => ?_, ?_, h.done⟩
  · rcases h.all y hy with h' | h'
    · rcases List.mem_append.1 h' with h'' | h''
      · exact .inl h''
      · exact .inr (.inr (by simpa using h''))
    · exact .inr (.inl h')
  · have := h.len; simp only [List.length_append, List.length_cons, List.length_nil] at this; omega
theorem Srch.push {g : List PNode} {p : Int → Prop} {s k : Int} {S L : List Int} {E D : Int → Prop} {c : Nat} (h : Srch g p s S L E D c) (h0 : 0 ≤ k) (h1 : k < (g.length : Int)) (hk : k ∉ S) (hr : PReach g p s k) (hp : p k) : Srch g p s (S ++ [k]) (L ++ [k]) E D c := by
  refine ⟨h.ok.snoc h0 h1 hk, fun y hy => ?_, fun y hy => ?_, fun y hy => ?_, ?_, fun x hx q hq => ?_⟩
  · rcases List.mem_append.1 hy with h' | h'
    · exact h.reach y h'
    · simp at h'; subst h'; exact ⟨hr, hp⟩
  · rcases List.mem_append.1 hy with h' | h'
    · exact (h.inl y h').imp id (List.mem_append_left _)
    · exact .inr (List.mem_append_right _ h')
  · have : (y = s ∨ y ∈ S) ∨ y ∈ [k] := by
      rcases hy with h' | h'
      · exact .inl (.inl h')
      · rcases List.mem_append.1 h' with h'' | h''
        · exact .inl (.inr h'')
        · exact .inr h''
    rcases this with h' | h'
    · exact (h.all y h').imp (List.mem_append_left _) id
    · exact .inl (List.mem_append_right _ h')
  · have := h.len; simp only [List.length_append, List.length_cons, List.length_nil]; omega
  · have := h.done x hx q hq
    exact ⟨this.1, fun hq => List.mem_append_left _ (this.2 hq)⟩
theorem Srch.fin {g : List PNode} {p : Int → Prop} {s x : Int} {S L : List Int} {E : Int → Prop} (h : Srch g p s S L (fun y => E y ∨ y = x) E 0) (hx : ∀ k ∈ kd g x, k ≠ s ∧ (p k → k ∈ S)) : Srch g p s S L (fun y => E y ∨ y = x) (fun y => E y ∨ y = x) 1 :=
  ⟨h.ok, h.reach, h.inl, h.all, by have := h.len; omega, fun y hy => hy.elim (h.done y) (fun e => by subst e; exact hx)⟩
def marks (S : List Int) : List (Int × Bool) := S.map fun x => (x, true)
theorem marks_len (S : List Int) : (marks S).length = S.length := by simp [marks]
theorem mfind_marks (x : Int) : ∀ S : List Int, (mfind (marks S) x).getD false = decide (x ∈ S) := by
  intro S
  induction S with
  | nil => simp [marks, mfind]
  | cons y S ih =>
    by_cases h : y = x
    · subst h; simp [marks, mfind]
    · have e : (y == x) = false := by simpa using h
      have h' : ¬ x = y := fun e => h e.symm
      simp only [marks, List.map_cons, mfind, e, cond_false]
      simp only [List.mem_cons, h', false_or]
      exact ih
theorem mput_marks (z : Int) : ∀ S : List Int, z ∉ S → mput (marks S) z true = marks (S ++ [z]) := by
  intro S
  induction S with
  | nil => intro _; rfl
  | cons y S ih =>
    intro h
    simp only [List.mem_cons, not_or] at h
    have e : (y == z) = false := by simpa using fun e : y = z => h.1 e.symm
    have := ih h.2
    simp only [marks, List.map_cons, List.cons_append, mput, e, cond_false] at this ⊢
    rw [this]
theorem mem_getD {l : List Int} {x : Int} (h : x ∈ l) : ∃ q, q < l.length ∧ l.getD q 0 = x := by
  obtain ⟨q, hq, e⟩ := List.getElem_of_mem h
  exact ⟨q, hq, by rw [List.getD_eq_getElem?_getD, List.getElem?_eq_getElem hq]; exact e⟩
end Go.Gx

/-
  Laws, part U2v: circles over the nodes that ValidGraph_2 takes.
-/
set_option linter.unusedVariables false
set_option linter.unusedSimpArgs false
namespace Go.Gx
theorem circles_ValidGraph_2_tot {g : List PNode} (hk : Kidly g) (hg : g.length ≤ 1000000) {s : Int} (h0 : 0 ≤ s) (h1 : s < (g.length : Int)) (p : Int → Prop) [DecidablePred p]
    (hp : ∀ x, 0 ≤ x → x < (g.length : Int) → Tot (fun σ => F_Z20 (σ 0) (nd g x).1 (nd g x).2.1 (nd g x).2.2) (fun r => r = ((decide (p x), ()), ()))) :
    Tot (fun σ => F_Z13 (σ 0) g s) (Says (PReach g p s s)) := by
  refine tot_Z13 ?_
  unfold B_Z13
  have key := loop_Z13_L3 (Q := fun _ _ _ _ r => Says (PReach g p s s) r)
    (I := fun g' s' t L => g' = g ∧ s' = s ∧ ∃ (S : List Int) (E : Int → Prop), t = marks S ∧ Srch g p s S L E E 1) (μ := fun _ _ t L => 2 * (g.length - t.length) + L.length) ?_
  · refine key g s _ _ ⟨rfl, rfl, [], fun _ => False, rfl, .nil, fun x hx => by simp at hx, fun x hx => .inl (by simpa using hx), fun x hx => .inl (by simpa using hx), by simp, fun x hx => hx.elim⟩
  intro g' s' t L ⟨e1, e2, S, E, e3, hS⟩ again3 hag3 ih3
  subst e1 e2 e3
  have hSl := hS.ok.len
  have hLl := hS.len
  unfold B_Z13_L3b
  rcases List.eq_nil_or_concat L with e | ⟨L', x, e⟩
  · subst e
    simp only [tot_cond, tot_some, decide_eq_true_eq, decide_eq_false_iff_not, len, List.length_nil]
    exact ⟨fun h => absurd h (by omega), fun _ => says_false hS.none⟩
  rw [List.concat_eq_append] at e
  subst e
  simp only [List.length_append, List.length_cons, List.length_nil] at hLl
  have hw : w64 (len (L' ++ [x]) - 1) = (L'.length : Int) := by
    simp only [len, List.length_append, List.length_cons, List.length_nil]
    rw [w64_id (by omega) (by omega)]; omega
  have hx : (L' ++ [x]).getD L'.length 0 = x := by
    rw [List.getD_eq_getElem?_getD, List.getElem?_append_right (Nat.le_refl _)]; simp
  have hxr : 0 ≤ x ∧ x < (g'.length : Int) := by
    rcases hS.inl x (by simp) with e | h
    · subst e; exact ⟨h0, h1⟩
    · exact hS.ok.2 x h
  have hxp : x = s' ∨ (PReach g' p s' x ∧ p x) := (hS.inl x (by simp)).imp id (hS.reach x)
  have hkx := hk _ (nd_mem hxr.1 hxr.2)
  simp only [hw, Int.toNat_natCast, hx, List.take_left]
  simp only [tot_cond, tot_chk, tot_some, decide_eq_true_eq, decide_eq_false_iff_not, inb_iff, len, List.length_append, List.length_cons, List.length_nil]
  refine ⟨fun _ => ⟨by omega, by omega, by simp [cutb]; try omega, hxr, ?_⟩, fun h => absurd h (by omega)⟩
  have key2 := loop_Z13_L2 hag3 (Q := fun _ _ _ _ _ _ _ r => Says (PReach g' p s' s') r)
    (I := fun g2 s2 t L ks n i => g2 = g' ∧ s2 = s' ∧ ks = kd g' x ∧ n = ((kd g' x).length : Int) ∧ ∃ (S2 : List Int) (j : Nat), t = marks S2 ∧ Srch g' p s' S2 L (fun y => E y ∨ y = x) E 0 ∧ i = j ∧ j ≤ (kd g' x).length ∧
      (∀ q, q < j → (kd g' x).getD q 0 ≠ s' ∧ (p ((kd g' x).getD q 0) → (kd g' x).getD q 0 ∈ S2)) ∧ 2 * (g'.length - S2.length) + L.length < 2 * (g'.length - S.length) + (L'.length + 1)) (μ := fun _ _ _ _ _ n i => n.toNat - i.toNat) ?_
  · exact key2 g' s' _ _ _ _ 0 ⟨rfl, rfl, rfl, rfl, S, 0, rfl, hS.pop, rfl, by omega, fun q hq => by omega, by omega⟩
  intro g2 s2 t L ks n i ⟨e1, e2, e3, e4, S2, j, e5, hS2, e6, hj, hq, hM⟩ again2 hag2 ih2
  subst e1 e2 e3 e4 e5 e6
  have hS2l := hS2.ok.len
  have hL2 := hS2.len
  unfold B_Z13_L2b
  simp only [tot_cond, tot_chk, tot_jn, decide_eq_true_eq, decide_eq_false_iff_not, inb_iff, beq_iff_eq, beq_eq_false_iff_ne, ne_eq]
  refine ⟨fun hlt => ⟨⟨by omega, hlt⟩, fun heq => ?_, fun hne => ?_⟩, fun hge => ?_⟩
  · have hm : s2 ∈ kd g2 x := by rw [← heq]; exact rdx_mem (by omega) (by omega)
    rw [tot_some]
    refine says_true ?_
    rcases hxp with e | ⟨h, h'⟩
    · rw [e] at hm; exact .kid hm
    · exact .step h h' hm
  · have hl6 : (kd g2 x).length ≤ 6 := hkx.1
    have hm : rdx (0 : Int) (kd g2 x) (j : Int) ∈ kd g2 x := rdx_mem (by omega) (by omega)
    have hgd : rdx (0 : Int) (kd g2 x) (j : Int) = (kd g2 x).getD j 0 := rfl
    generalize hkk : rdx (0 : Int) (kd g2 x) (j : Int) = k at *
    have hkr := hkx.2 k hm
    have hreach : PReach g2 p s2 k := by
      rcases hxp with e | ⟨h, h'⟩
      · rw [e] at hm; exact .kid hm
      · exact .step h h' hm
    have wj : w64 ((j : Int) + 1) = ((j + 1 : Nat) : Int) := w64_succ (by omega) (by omega)
    have stay : (p k → k ∈ S2) → Tot (fun σ => again2 σ (g2, s2, (), marks S2, L, kd g2 x, ((kd g2 x).length : Int), w64 ((j : Int) + 1), ())) (Says (PReach g2 p s2 s2)) := by
      intro hin
      rw [wj]
      refine ih2 _ _ _ _ _ _ _ ⟨rfl, rfl, rfl, rfl, S2, j + 1, rfl, hS2, rfl, by omega, fun q h => ?_, hM⟩ (by simp only [Int.toNat_natCast]; omega)
      by_cases e : q = j
      · subst e; rw [← hgd]; exact ⟨hne, hin⟩
      · exact hq q (by omega)
    refine ⟨hkr, (hp k hkr.1 hkr.2).bind ?_⟩
    rintro _ rfl
    unfold B_Z13_J0 B_Z13_J1
    simp only [tot_cond, tot_chk, tot_jn, decide_eq_true_eq, decide_eq_false_iff_not, room_iff, List.length_cons, List.length_nil, mfind_marks, Bool.not_eq_true', Bool.not_eq_false', Bool.false_eq_true, false_implies, true_and, forall_const]
    refine ⟨fun hpk => ⟨fun hni => ⟨by omega, ?_⟩, fun hin => stay fun _ => hin⟩, fun hpk => stay fun h => absurd h hpk⟩
    have hS3 := hS2.push hkr.1 hkr.2 hni hreach hpk
    have hS3l := hS3.ok.len
    simp only [List.length_append, List.length_cons, List.length_nil] at hS3l
    rw [wj, mput_marks k S2 hni]
    refine ih2 _ _ _ _ _ _ _ ⟨rfl, rfl, rfl, rfl, S2 ++ [k], j + 1, rfl, hS3, rfl, by omega, fun q h => ?_, by simp only [List.length_append, List.length_cons, List.length_nil]; omega⟩ (by simp only [Int.toNat_natCast]; omega)
    by_cases e : q = j
    · subst e; rw [← hgd]; exact ⟨hne, fun _ => by simp⟩
    · exact ⟨(hq q (by omega)).1, fun h => List.mem_append_left _ ((hq q (by omega)).2 h)⟩
  · refine ih3 _ _ _ _ ⟨rfl, rfl, S2, _, rfl, hS2.fin fun k hk => ?_⟩ (by simp only [marks_len, List.length_append, List.length_cons, List.length_nil]; omega)
    obtain ⟨q, hq1, hq2⟩ := mem_getD hk
    have := hq q (by omega)
    rw [hq2] at this
    exact this
end Go.Gx

/-
  Laws, part U3: the program's nodes that are valid.
-/
set_option linter.unusedVariables false
set_option linter.unusedSimpArgs false
namespace Go.Gx
theorem subU {α : Type} {l : List α} {n : Nat} : sub l 0 (n : Int) = l.take n := by simp [sub]
theorem getD_take {l : List Int} {i n : Nat} (h : i < n) : (l.take n).getD i 0 = l.getD i 0 := by
  rw [List.getD_eq_getElem?_getD, List.getD_eq_getElem?_getD, List.getElem?_take, if_pos h]
theorem getDm {l : List Int} {i : Nat} (h : i < l.length) : l.getD i 0 ∈ l := by
  rw [List.getD_eq_getElem?_getD, List.getElem?_eq_getElem h]; exact List.getElem_mem _
theorem findKeyG_tot {g : List PNode} {kids : List Int} (h : InR g kids) (hl : kids.length ≤ 1000000) (key : PNode) :
    Tot (fun σ => F_Z47 (σ 0) g kids key.1 key.2.1) (fun r => ∃ v : Int, r = ((v, ()), ()) ∧ (0 ≤ v ↔ ∃ i, i < kids.length ∧ i % 2 = 0 ∧ sameP key (nd g (kids.getD i 0)))) := by
  refine tot_Z47 ?_
  unfold B_Z47
  have keyy := loop_Z47_L1 (Q := fun _ _ _ _ _ r => ∃ v : Int, r = ((v, ()), ()) ∧ (0 ≤ v ↔ ∃ i, i < kids.length ∧ i % 2 = 0 ∧ sameP key (nd g (kids.getD i 0))))
    (I := fun N' kids' a b i => N' = g ∧ kids' = kids ∧ a = key.1 ∧ b = key.2.1 ∧ ∃ j : Nat, i = (j : Int) ∧ j ≤ kids.length + 1 ∧ j % 2 = 0 ∧ ∀ q, q < j → q % 2 = 0 → q < kids.length → ¬ sameP key (nd g (kids.getD q 0))) (μ := fun _ _ _ _ i => (kids.length + 2 - i).toNat) ?_
  · exact keyy g kids key.1 key.2.1 0 ⟨rfl, rfl, rfl, rfl, 0, rfl, by omega, rfl, fun q hq => by omega⟩
  intro N' kids' a b i ⟨e1, e2, e3, e4, j, e5, hj, hj2, hq⟩ again hag ih
  subst e1 e2 e3 e4 e5
  unfold B_Z47_L1b B_Z47_J0
  have hrd : rdx (0 : Int) kids' (j : Int) = kids'.getD j 0 := by rw [rdx_eq, Int.toNat_natCast]
  simp only [hrd]
  simp only [tot_cond, tot_chk, tot_jn, tot_some, decide_eq_true_eq, decide_eq_false_iff_not, inb_iff, len, beq_iff_eq, beq_eq_false_iff_ne, ne_eq, Bool.false_eq_true, false_implies, true_and, forall_const]
  refine ⟨fun hlt => ?_, fun hge => ?_⟩
  · have hj' : j < kids'.length := by omega
    have hr := h.get hj'
    have next : ¬ sameP key (nd N' (kids'.getD j 0)) → Tot (fun s => again s (N', kids', (key.1, key.2.1, (), ()), w64 ((j : Int) + 2), ())) (fun r => ∃ v : Int, r = ((v, ()), ()) ∧ (0 ≤ v ↔ ∃ i, i < kids'.length ∧ i % 2 = 0 ∧ sameP key (nd N' (kids'.getD i 0)))) := by
      intro hn
      rw [w64_succ (by omega) (by omega)]
      refine ih _ _ _ _ _ ⟨rfl, rfl, rfl, rfl, j + 2, rfl, by omega, by omega, fun q h1 h2 h3 => ?_⟩ (by simp; omega)
      by_cases e : q = j
      · subst e; exact hn
      · exact hq q (by omega) h2 h3
    refine ⟨by omega, hr, fun hk => ⟨fun hv => ?_, fun hv => next fun hs => hv hs.2.symm⟩, fun hk => next fun hs => hk hs.1.symm⟩
    exact ⟨_, rfl, fun _ => ⟨j, hj', hj2, hk.symm, hv.symm⟩, fun _ => by omega⟩
  · refine ⟨_, rfl, fun h => by omega, fun ⟨i, h1, h2, h3⟩ => absurd h3 (hq i (by omega) h2 h1)⟩
theorem contains1_tot {s : List Int} (hs : s.length ≤ 1000000) (n : Int) :
    Tot (fun σ => F_Z0 (σ 0) s n) (fun r => ∃ b : Bool, r = ((b, ()), ((n, ()), ())) ∧ (b = true ↔ ∃ k ∈ s, ¬ (0 ≤ k ∧ k < n))) := by
  refine tot_Z0 ?_
  unfold B_Z0
  have idx : Tot (fun σ => F_Z1 (σ 0) s n) (fun r => ∃ i : Int, r = ((i, ()), ((n, ()), ())) ∧ (0 ≤ i ↔ ∃ k ∈ s, ¬ (0 ≤ k ∧ k < n))) := by
    refine tot_Z1 ?_
    unfold B_Z1
    have key := loop_Z1_L0 (Q := fun _ _ _ _ r => ∃ i : Int, r = ((i, ()), ((n, ()), ())) ∧ (0 ≤ i ↔ ∃ k ∈ s, ¬ (0 ≤ k ∧ k < n)))
      (I := fun s' n' t7 t8 => s' = s ∧ n' = n ∧ t7 = (s.length : Int) ∧ ∃ j : Nat, t8 = (j : Int) ∧ j ≤ s.length ∧ ∀ i, i < j → (0 ≤ s.getD i 0 ∧ s.getD i 0 < n)) (μ := fun _ _ _ t8 => (s.length - t8).toNat) ?_
    · exact key _ _ _ 0 ⟨rfl, rfl, rfl, 0, rfl, Nat.zero_le _, fun i hi => absurd hi (Nat.not_lt_zero _)⟩
    intro s' n' t7 t8 ⟨e1, e2, e3, j, e7, hj, hin⟩ again hag ih
    subst e1 e2 e3 e7
    unfold B_Z1_L0b
    have hrd : rdx (0 : Int) s' (j : Int) = s'.getD j 0 := by rw [rdx_eq, Int.toNat_natCast]
    rw [tot_cond]
    refine ⟨fun hlt => tot_chk.2 ⟨inb_iff.2 (by have := of_decide_eq_true hlt; omega), ?_⟩, fun hge => tot_some.2 ?_⟩
    · have hlt := of_decide_eq_true hlt
      rw [hrd]
      have one : Tot (fun σ => F_Z21 (σ 0) (s'.getD j 0) n') (fun r => r = ((decide (¬ (0 ≤ s'.getD j 0 ∧ s'.getD j 0 < n')), ()), ((n', ()), ()))) := by
        refine tot_Z21 ?_
        unfold B_Z21
        simp only [tot_cond, tot_some, decide_eq_true_eq, decide_eq_false_iff_not]
        refine ⟨fun h => ?_, fun h => ?_⟩
        · have : ¬ (0 ≤ s'.getD j 0 ∧ s'.getD j 0 < n') := fun hc => by omega
          simp only [this, not_false_eq_true, decide_true]
        · have : (s'.getD j 0 ≥ n') ↔ ¬ (0 ≤ s'.getD j 0 ∧ s'.getD j 0 < n') := by omega
          rw [decide_eq_decide.2 this]
      refine one.bind ?_
      rintro _ rfl
      simp only [tot_cond, tot_some, decide_eq_true_eq, decide_eq_false_iff_not]
      refine ⟨fun hn => ⟨(j : Int), rfl, fun _ => ⟨_, getDm (by omega), hn⟩, fun _ => by omega⟩, fun hm => ?_⟩
      rw [w64_succ (by omega) (by omega)]
      refine ih _ _ _ _ ⟨rfl, rfl, rfl, j + 1, rfl, by omega, fun i hi => ?_⟩ (by simp; omega)
      by_cases e : i = j
      · subst e; exact Decidable.not_not.1 hm
      · exact hin i (by omega)
    · have hge := of_decide_eq_false hge
      refine ⟨-1, rfl, fun h => by omega, fun ⟨c, hcs, hn⟩ => ?_⟩
      obtain ⟨i, hi, e⟩ := mem_getD hcs
      exact absurd (e ▸ hin i (by omega)) hn
  refine idx.bind ?_
  rintro _ ⟨i, rfl, hi⟩
  rw [tot_some]
  exact ⟨_, rfl, by rw [decide_eq_true_eq]; exact hi⟩
theorem nodeOk_tot {g : List PNode} (hg : g.length ≤ 1000000) (n : PNode) (h6 : n.2.2.length ≤ 6) (hin : InR g n.2.2) : Tot (fun σ => F_i_nodeOk (σ 0) g n.1 n.2.1 n.2.2) (Says (NodeOk g n)) := by
  obtain ⟨k, v, kids⟩ := n
  have h6 : kids.length ≤ 6 := h6
  have hin : InR g kids := hin
  refine tot_i_nodeOk ?_
  unfold B_i_nodeOk
  have fin : ∀ (b : Bool), ((if k = 0 then 0 ≤ v ∧ v ≤ 999 ∧ kids = [] else if k = 1 then 0 ≤ v ∧ v ≤ 9 ∧ kids = [] else if k = 2 ∨ k = 3 then v = 0 else if k = 4 then v = 0 ∧ DictOk g kids else if k = 5 then 0 ≤ v ∧ v ≤ 9 ∧ kids.length ≤ 1 else False) ↔ b = true) → Says (NodeOk g (k, v, kids)) ((b, ()), ()) := by
    intro b hb
    refine ⟨b, rfl, ?_⟩
    unfold NodeOk
    simp only [h6, hin, true_and]
    exact hb.symm
  have hlen : (len kids == 0) = decide (kids = []) := by
    rw [Bool.eq_iff_iff]; simp [len]
  have dict : k = 4 → Tot (fun σ => B_i_nodeOk_L2 (σ 0) (F_Z47 (σ 0)) (σ 0) (g, (k, v, kids, ()), 0, ())) (Says (NodeOk g (k, v, kids))) := by
    intro hk4
    have key := loop_i_nodeOk_L2 (Q := fun _ _ _ _ _ r => Says (NodeOk g (k, v, kids)) r) (I := fun g' k' v' kids' i => g' = g ∧ k' = k ∧ v' = v ∧ kids' = kids ∧ ∃ j : Nat, i = j ∧ j ≤ kids.length + 1 ∧ j % 2 = 0 ∧
      ∀ q, q < j → q % 2 = 0 → q < kids.length → isKeyP (nd g (kids.getD q 0)) ∧ ∀ p, p < q → p % 2 = 0 → ¬ sameP (nd g (kids.getD q 0)) (nd g (kids.getD p 0))) (μ := fun _ _ _ _ i => (kids.length + 2 - i).toNat) ?_
    · exact key g k v kids 0 ⟨rfl, rfl, rfl, rfl, 0, rfl, by omega, rfl, fun q hq => by omega⟩
    intro g' k' v' kids' i ⟨e1, e2, e3, e4, j, e5, hj, hj2, hq⟩ again hag ih
    subst e1 e2 e3 e4 e5
    have bad : ¬ DictOk g' kids' → Says (NodeOk g' (k', v', kids')) ((false, ()), ()) := fun hd => fin false (by rw [hk4]; simp [hd])
    unfold B_i_nodeOk_L2b B_i_nodeOk_J1
    have hrd : rdx (0 : Int) kids' (j : Int) = kids'.getD j 0 := by rw [rdx_eq, Int.toNat_natCast]
    simp only [hrd, subU]
    simp only [tot_cond, tot_chk, tot_jn, tot_some, decide_eq_true_eq, decide_eq_false_iff_not, inb_iff, cutb_iff, len, beq_iff_eq, beq_eq_false_iff_ne, ne_eq, Bool.true_eq_false, false_implies, and_true, true_implies]
    refine ⟨fun hlt => ?_, fun hge => ?_⟩
    · have hj' : j < kids'.length := by omega
      have hr := hin.get hj'
      refine ⟨by omega, hr, fun hgt => bad fun hd => ?_, fun hle => ⟨fun hneg => bad fun hd => ?_, fun hnn => ⟨by omega, ?_⟩⟩⟩
      · have := (hd.1 j hj' hj2).1
        have hgt : (nd g' (kids'.getD j 0)).1 > 1 := hgt
        rcases this with h | h <;> omega
      · have := (hd.1 j hj' hj2).1
        have hneg : (nd g' (kids'.getD j 0)).1 < 0 := hneg
        rcases this with h | h <;> omega
      · have hkey : isKeyP (nd g' (kids'.getD j 0)) := by
          have h1 : ¬ (nd g' (kids'.getD j 0)).1 > 1 := hle
          have h2 : ¬ (nd g' (kids'.getD j 0)).1 < 0 := hnn
          unfold isKeyP; omega
        refine (findKeyG_tot (g := g') (kids := kids'.take j) (inR_take hin j) (by rw [List.length_take]; omega) (nd g' (kids'.getD j 0))).bind ?_
        rintro _ ⟨w, rfl, hw⟩
        simp only [tot_cond, tot_jn, tot_some, decide_eq_true_eq, decide_eq_false_iff_not, ge_iff_le]
        have hlt2 : (kids'.take j).length = j := by rw [List.length_take]; omega
        refine ⟨fun hge => bad fun hd => ?_, fun hlt3 => ?_⟩
        · obtain ⟨i, h1, h2, h3⟩ := hw.1 hge
          rw [getD_take (by omega)] at h3
          exact (hd.1 j hj' hj2).2 i (by omega) h2 h3
        · rw [w64_succ (by omega) (by omega)]
          refine ih _ _ _ _ _ ⟨rfl, rfl, rfl, rfl, j + 2, rfl, by omega, by omega, fun q h1 h2 h3 => ?_⟩ (by simp; omega)
          by_cases e : q = j
          · subst e
            refine ⟨hkey, fun p hp hp2 hs => hlt3 (hw.2 ⟨p, by omega, hp2, ?_⟩)⟩
            rw [getD_take hp]; exact hs
          · exact hq q (by omega) h2 h3
    · have hd : DictOk g' kids' ↔ kids'.length % 2 = 0 := ⟨fun h => h.2, fun h => ⟨fun i hi hi2 => hq i (by omega) hi2 hi, h⟩⟩
      refine ⟨fun hv => fin _ ?_, fun hv => fin _ ?_⟩
      · rw [hk4]
        simp only [hd, hv, true_and, Int.reduceEq, if_false, or_self, if_true]
        rw [Int.tmod_eq_emod_of_nonneg (by omega), beq_iff_eq]; omega
      · rw [hk4]; simp [hv]
  simp only [tot_cond, tot_jn, tot_some, beq_iff_eq, beq_eq_false_iff_ne, ne_eq, decide_eq_true_eq, decide_eq_false_iff_not, ge_iff_le]
  have j0 : k ≠ 0 → k ≠ 1 → ∀ b : Bool, (b = true ↔ k = 2 ∨ k = 3) → Tot (fun σ => B_i_nodeOk_J0 (σ 0) (F_Z47 (σ 0)) g k v kids k b) (Says (NodeOk g (k, v, kids))) := by
    intro n0 n1 b hb
    unfold B_i_nodeOk_J0
    simp only [tot_cond, tot_jn, tot_some, beq_iff_eq, beq_eq_false_iff_ne, ne_eq, decide_eq_true_eq, decide_eq_false_iff_not, ge_iff_le]
    refine ⟨fun ht => fin _ ?_, fun hf => ?_⟩
    · rw [if_neg n0, if_neg n1, if_pos (hb.1 ht), beq_iff_eq]
    have n23 : ¬ (k = 2 ∨ k = 3) := fun h => by rw [hb.2 h] at hf; cases hf
    refine ⟨fun h5 => ?_, fun h5 => ⟨fun h4 => dict h4, fun h4 => fin _ (by rw [if_neg n0, if_neg n1, if_neg n23, if_neg h4, if_neg h5]; simp)⟩⟩
    have n4 : ¬ k = 4 := by omega
    refine ⟨fun a => ⟨fun b => fin _ ?_, fun b => fin _ ?_⟩, fun a => fin _ ?_⟩ <;> rw [if_neg n0, if_neg n1, if_neg n23, if_neg n4, if_pos h5]
    · simp only [len, decide_eq_true_eq]; omega
    · simp; omega
    · simp; omega
  refine ⟨fun h0 => ⟨fun a => ⟨fun b => fin _ ?_, fun b => fin _ ?_⟩, fun a => fin _ ?_⟩, fun h0 => ⟨fun h1 => ⟨fun a => ⟨fun b => fin _ ?_, fun b => fin _ ?_⟩, fun a => fin _ ?_⟩, fun h1 => ⟨fun h2 => j0 h0 h1 _ (by simp [h2]), fun h2 => j0 h0 h1 _ (by simp [h2])⟩⟩⟩
  · rw [if_pos h0, hlen, decide_eq_true_eq]; exact ⟨fun h => h.2.2, fun h => ⟨a, b, h⟩⟩
  · rw [if_pos h0]; exact ⟨fun h => absurd h.2.1 b, fun h => by cases h⟩
  · rw [if_pos h0]; exact ⟨fun h => absurd h.1 a, fun h => by cases h⟩
  · rw [if_neg h0, if_pos h1, hlen, decide_eq_true_eq]; exact ⟨fun h => h.2.2, fun h => ⟨a, b, h⟩⟩
  · rw [if_neg h0, if_pos h1]; exact ⟨fun h => absurd h.2.1 b, fun h => by cases h⟩
  · rw [if_neg h0, if_pos h1]; exact ⟨fun h => absurd h.1 a, fun h => by cases h⟩
end Go.Gx

/-
  Laws, part 9: graphs that are drawn.
-/
set_option linter.unusedVariables false
set_option linter.unusedSimpArgs false
namespace Go.Gx
theorem NodeOk.kidly {g : List PNode} {n : PNode} (h : NodeOk g n) : n.2.2.length ≤ 6 ∧ InR g n.2.2 := ⟨h.1, h.2.1⟩
theorem validGraph_tot {g : List PNode} {root : Int} (hg : g.length ≤ 1000000) (hk : ∀ n ∈ g, n.2.2.length ≤ 1000000) : Tot (fun σ => F_Z25 (σ 0) g root) (Says (ValidG g root)) := by
  refine tot_Z25 ?_
  unfold B_Z25
  refine (inRange_tot' (len g) 1 12).bind ?_
  rintro _ rfl
  have j0 : ∀ b : Bool, (b = false ↔ 1 ≤ g.length ∧ g.length ≤ 12 ∧ 0 ≤ root ∧ root < (g.length : Int)) → Tot (fun σ => B_Z25_J0 (σ 0) (F_Z49 (σ 0)) (F_Z35 (σ 0)) (F_Z28 (σ 0)) (F_Z48 (σ 0)) g root b) (Says (ValidG g root)) := by
    intro b hb
    unfold B_Z25_J0
    rw [tot_cond]
    refine ⟨fun ht => ?_, fun hf => ?_⟩
    · rw [tot_some]
      refine says_false fun h => ?_
      have := hb.2 ⟨h.pos, h.most, h.root⟩
      rw [ht] at this
      cases this
    obtain ⟨p1, p2, p3⟩ := hb.1 hf
    have key := loop_Z25_L1 (Q := fun _ _ _ r => Says (ValidG g root) r) (I := fun g' r' i => g' = g ∧ r' = root ∧ ∃ j : Nat, i = j ∧ j ≤ g.length ∧ ∀ q : Nat, q < j → NodeOk g (nd g q)) (μ := fun _ _ i => (g.length - i).toNat) ?_
    · exact key g root 0 ⟨rfl, rfl, 0, rfl, by omega, fun q hq => by omega⟩
    intro g' r' i ⟨e1, e2, j, e3, hj, hq⟩ again hag ih
    subst e1 e2 e3
    unfold B_Z25_L1b
    simp only [tot_cond, tot_chk, tot_some, decide_eq_true_eq, decide_eq_false_iff_not, len, inb_iff]
    refine ⟨fun hlt => ⟨by omega, ?_⟩, fun hge => ?_⟩
    · have hm : nd g' (j : Int) ∈ g' := nd_mem (by omega) hlt
      refine (validNode_tot hg (nd g' (j : Int)) (hk _ hm)).bind ?_
      rintro _ ⟨b2, rfl, hb2⟩
      simp only [tot_cond, tot_some, Bool.not_eq_true', Bool.not_eq_false']
      refine ⟨fun hf2 => says_false fun h => ?_, fun ht2 => ?_⟩
      · have := hb2.2 (h.node _ hm); rw [hf2] at this; cases this
      · rw [w64_succ (by omega) (by omega)]
        refine ih _ _ _ ⟨rfl, rfl, j + 1, rfl, by omega, fun q h => ?_⟩ (by simp; omega)
        by_cases e : q = j
        · subst e; exact hb2.1 ht2
        · exact hq q (by omega)
    · have hnode : ∀ n ∈ g', NodeOk g' n := by
        intro n hn
        obtain ⟨i, hi, e⟩ := List.getElem_of_mem hn
        have := hq i (by omega)
        rw [nd, rdx_eq, Int.toNat_natCast, List.getD_eq_getElem?_getD, List.getElem?_eq_getElem hi, Option.getD_some, e] at this
        exact this
      have hkid : Kidly g' := fun n hn => (hnode n hn).kidly
      have key2 := loop_Z25_L3 (Q := fun _ _ _ r => Says (ValidG g' r') r) (I := fun g2 r2 i => g2 = g' ∧ r2 = r' ∧ ∃ j : Nat, i = j ∧ j ≤ g'.length ∧ ∀ q : Nat, q < j → (nd g' q).1 = 2 → ¬ TReach g' q q) (μ := fun _ _ i => (g'.length - i).toNat) ?_
      · exact key2 g' r' 0 ⟨rfl, rfl, 0, rfl, by omega, fun q hq => by omega⟩
      intro g2 r2 i ⟨e1, e2, m, e3, hm, ht⟩ again2 hag2 ih2
      subst e1 e2 e3
      unfold B_Z25_L3b B_Z25_J2
      have next : ¬ ((nd g2 (m : Int)).1 = 2 ∧ TReach g2 m m) → (m : Int) < g2.length → Tot (fun σ => again2 σ ((g2, r2, ()), w64 ((m : Int) + 1), ())) (Says (ValidG g2 r2)) := by
        intro hn hlt
        rw [w64_succ (by omega) (by omega)]
        refine ih2 _ _ _ ⟨rfl, rfl, m + 1, rfl, by omega, fun q h h2 => ?_⟩ (by simp; omega)
        by_cases e : q = m
        · subst e; exact fun h3 => hn ⟨h2, h3⟩
        · exact ht q (by omega) h2
      simp only [tot_cond, tot_chk, tot_jn, tot_some, decide_eq_true_eq, decide_eq_false_iff_not, len, inb_iff, beq_iff_eq, beq_eq_false_iff_ne, ne_eq]
      refine ⟨fun hlt => ⟨by omega, fun h2 => ?_, fun h2 => ⟨fun h => absurd h (by decide), fun _ => next (fun h => h2 h.1) hlt⟩⟩, fun hge => says_true ⟨p1, p2, p3, hnode, fun i hi => ht i (by omega)⟩⟩
      refine (tupleReach_tot hkid hg (by omega) hlt).bind ?_
      rintro _ ⟨out, rfl, ho, hnd, hol⟩
      refine (placeIn_tot (by simp only []; omega) _).bind ?_
      rintro _ ⟨v, rfl, hv⟩
      simp only [tot_cond, tot_jn, tot_some, decide_eq_true_eq, decide_eq_false_iff_not]
      refine ⟨fun hpos => says_false fun h => ?_, fun hneg => next (fun h => ?_) hlt⟩
      · refine h.tup m (by omega) h2 ((ho _).1 ?_)
        rcases hv with ⟨e, _⟩ | ⟨i, e, hi, he, _⟩
        · omega
        · rw [← he, List.getD_eq_getElem?_getD, List.getElem?_eq_getElem hi]; exact List.getElem_mem _
      · rcases hv with ⟨_, hno⟩ | ⟨i, e, _⟩
        · exact hno ((ho _).2 h.2)
        · omega
  simp only [tot_cond, tot_jn, Bool.not_eq_true', Bool.not_eq_false', decide_eq_true_eq, decide_eq_false_iff_not, len]
  refine ⟨fun h => j0 true ⟨fun h' => Bool.noConfusion h', fun h' => by omega⟩, fun h => ?_⟩
  rw [show w64 ((g.length : Int) - 1) = (g.length : Int) - 1 from w64_id (by omega) (by omega)]
  refine (inRange_tot' root 0 _).bind ?_
  rintro _ rfl
  rw [tot_jn]
  refine j0 _ ?_
  rw [Bool.not_eq_false', decide_eq_true_eq]
  omega
/-- A node without kids, drawn. -/
def LeafOk (k v : Int) : Prop := (k = 0 ∧ 0 ≤ v ∧ v ≤ 999) ∨ (k = 1 ∧ 0 ≤ v ∧ v ≤ 9) ∨ (2 ≤ k ∧ k ≤ 4 ∧ v = 0) ∨ (k = 5 ∧ 0 ≤ v ∧ v ≤ 9)
theorem someNode_tot {b : List Int} {p : Int} (h : RD b p) (hp : p ≤ 900000000) : Tot (fun σ => F_Z40 (σ 0) b p) (Drawn b p 3 fun x => ∃ k v, x = ((k, v, (), ()), ()) ∧ LeafOk k v) := by
  refine tot_Z40 ?_
  unfold B_Z40 B_Z40_J0 B_Z40_J1
  refine (pick_tot h (by omega) (by omega)).bind ?_
  rintro _ ⟨_, q, rfl, h1, h2, c, rfl, h3, h4⟩
  have h4 := h4 (by omega)
  have hq := h.next h1 (by omega)
  have fin : ∀ (q' k v : Int), p ≤ q' → q' ≤ p + 3 → LeafOk k v → Drawn b p 3 (fun x => ∃ k v, x = ((k, v, (), ()), ()) ∧ LeafOk k v) (((k, v, (), ()), ()), ((b, q', ()), ())) := fun q' k v h1 h2 h3 => ⟨_, _, rfl, h1, h2, k, v, rfl, h3⟩
  have last : Tot (fun σ => (F_Z23 (σ 0) b q 3).bind fun r30 => some ((((5 : Int), r30.1.1, (), ()), ()), ((r30.2.1.1, r30.2.1.2.1, ()), ()))) (Drawn b p 3 (fun x => ∃ k v, x = ((k, v, (), ()), ()) ∧ LeafOk k v)) := by
    refine (pick_tot hq (by omega) (by omega)).bind ?_
    rintro _ ⟨_, q2, rfl, g1, g2, a, rfl, g3, g4⟩
    have g4 := g4 (by omega)
    rw [tot_some]
    exact fin q2 5 a (by omega) (by omega) (.inr (.inr (.inr (by omega))))
  simp only [tot_cond, tot_jn, tot_some, beq_iff_eq, beq_eq_false_iff_ne, ne_eq]
  have s2 : Drawn b p 3 (fun x => ∃ k v, x = ((k, v, (), ()), ()) ∧ LeafOk k v) (((2, 0, (), ()), ()), ((b, q, ()), ())) := fin q 2 0 (by omega) (by omega) (.inr (.inr (.inl (by omega))))
  have s3 : Drawn b p 3 (fun x => ∃ k v, x = ((k, v, (), ()), ()) ∧ LeafOk k v) (((3, 0, (), ()), ()), ((b, q, ()), ())) := fin q 3 0 (by omega) (by omega) (.inr (.inr (.inl (by omega))))
  have s4 : Drawn b p 3 (fun x => ∃ k v, x = ((k, v, (), ()), ()) ∧ LeafOk k v) (((4, 0, (), ()), ()), ((b, q, ()), ())) := fin q 4 0 (by omega) (by omega) (.inr (.inr (.inl (by omega))))
  refine ⟨fun h0 => ?_, fun h0 => ⟨fun h1' => ?_, fun h1' => ?_⟩⟩
  · refine (pick_tot hq (by omega) (by omega)).bind ?_
    rintro _ ⟨_, q2, rfl, g1, g2, a, rfl, g3, g4⟩
    have g4 := g4 (by omega)
    refine (one_tot (hq.next g1 (by omega)) (by omega) (by simp) (by simp)).bind ?_
    rintro _ ⟨_, q3, rfl, f1, f2, v, rfl, hv⟩
    rw [tot_some]
    simp only [List.mem_cons, List.not_mem_nil, or_false] at hv
    exact fin q3 0 v (by omega) (by omega) (.inl (by omega))
  · refine (pick_tot hq (by omega) (by omega)).bind ?_
    rintro _ ⟨_, q2, rfl, g1, g2, a, rfl, g3, g4⟩
    have g4 := g4 (by omega)
    rw [tot_some]
    exact fin q2 1 a (by omega) (by omega) (.inr (.inl (by omega)))
  · simp only [s2, s3, s4, last, implies_true, and_self]
end Go.Gx

/-
  Laws, part U4: the program's ValidGraph.
-/
set_option linter.unusedVariables false
set_option linter.unusedSimpArgs false
namespace Go.Gx
theorem pReach_iff {g : List PNode} {s x : Int} : PReach g (fun x => (nd g x).1 = 2) s x ↔ TReach g s x := by
  constructor
  · intro h
    induction h with
    | kid h => exact .kid h
    | step _ hp hk ih => exact .step ih hp hk
  · intro h
    induction h with
    | kid h => exact .kid h
    | step _ hp hk ih => exact .step ih hp hk
theorem circlesV_tot {g : List PNode} (hk : Kidly g) (hg : g.length ≤ 1000000) {s : Int} (h0 : 0 ≤ s) (h1 : s < (g.length : Int)) : Tot (fun σ => F_Z13 (σ 0) g s) (Says (TReach g s s)) := by
  refine (circles_ValidGraph_2_tot hk hg h0 h1 (fun x => (nd g x).1 = 2) fun x _ _ => ?_).mono fun r ⟨b, e, h⟩ => ⟨b, e, h.trans pReach_iff⟩
  refine tot_Z20 ?_
  unfold B_Z20
  rw [tot_some]
  have : ((nd g x).1 == 2) = decide ((nd g x).1 = 2) := by rw [Bool.eq_iff_iff]; simp
  rw [this]
theorem i_ValidGraph_tot {g : List PNode} {root : Int} (hg : g.length ≤ 1000000) (hkk : ∀ n ∈ g, n.2.2.length ≤ 1000000) : Tot (fun σ => F_Z32 (σ 0) g root) (Says (ValidG g root)) := by
  refine tot_Z32 ?_
  unfold B_Z32
  have st5 : 1 ≤ g.length → g.length ≤ 12 → (0 ≤ root ∧ root < (g.length : Int)) → (∀ n ∈ g, NodeOk g n) →
      Tot (fun σ => B_Z32_L5 (σ 0) (F_Z0 (σ 0)) (F_i_nodeOk (σ 0)) (F_Z13 (σ 0)) (σ 0) ((g, root, ()), len g, 0, ())) (Says (ValidG g root)) := by
    intro a1 a2 a3 hn
    have key := loop_Z32_L5 (Q := fun _ _ _ _ r => Says (ValidG g root) r) (I := fun g' r' n i => g' = g ∧ r' = root ∧ n = (g.length : Int) ∧ ∃ j : Nat, i = j ∧ j ≤ g.length ∧ ∀ q : Nat, q < j → (nd g q).1 = 2 → ¬ TReach g q q) (μ := fun _ _ _ i => g.length - i.toNat) ?_
    · exact key g root _ 0 ⟨rfl, rfl, rfl, 0, rfl, by omega, fun q hq => by omega⟩
    intro g' r' n i ⟨e1, e2, e3, j, e4, hj, hq⟩ again hag ih
    subst e1 e2 e3 e4
    unfold B_Z32_L5b B_Z32_J4
    simp only [tot_cond, tot_chk, tot_jn, tot_some, decide_eq_true_eq, decide_eq_false_iff_not, inb_iff, beq_iff_eq, beq_eq_false_iff_ne, ne_eq, Bool.false_eq_true, false_implies, true_and, forall_const]
    have next : ((nd g' (j : Int)).1 = 2 → ¬ TReach g' j j) → j < g'.length → Tot (fun s => again s ((g', r', ()), (g'.length : Int), w64 ((j : Int) + 1), ())) (Says (ValidG g' r')) := by
      intro hn2 hlt
      rw [w64_succ (by omega) (by omega)]
      refine ih _ _ _ _ ⟨rfl, rfl, rfl, j + 1, rfl, by omega, fun q h => ?_⟩ (by simp; omega)
      by_cases e : q = j
      · subst e; exact hn2
      · exact hq q (by omega)
    refine ⟨fun hlt => ⟨⟨by omega, hlt⟩, fun h2 => ?_, fun h2 => next (fun h => absurd h h2) (by omega)⟩, fun hge => says_true ⟨a1, a2, a3, hn, fun i hi => hq i (by omega)⟩⟩
    refine (circlesV_tot (fun n hn' => (hn n hn').kidly) hg (s := (j : Int)) (by omega) hlt).bind ?_
    rintro _ ⟨b, rfl, hb⟩
    simp only [tot_cond, tot_jn, tot_some]
    refine ⟨fun ht => says_false fun hv => hv.tup j (by omega) h2 (hb.1 ht), fun hf => next (fun _ hr => ?_) (by omega)⟩
    rw [hb.2 hr] at hf; cases hf
  have st3 : 1 ≤ g.length → g.length ≤ 12 → (0 ≤ root ∧ root < (g.length : Int)) → Kidly g →
      Tot (fun σ => B_Z32_L3 (σ 0) (F_Z0 (σ 0)) (F_i_nodeOk (σ 0)) (F_Z13 (σ 0)) (σ 0) ((g, root, ()), g, len g, 0, ())) (Says (ValidG g root)) := by
    intro a1 a2 a3 hk
    have key := loop_Z32_L3 (Q := fun _ _ _ _ _ r => Says (ValidG g root) r) (I := fun g' r' l n i => g' = g ∧ r' = root ∧ l = g ∧ n = (g.length : Int) ∧ ∃ j : Nat, i = j ∧ j ≤ g.length ∧ ∀ q : Nat, q < j → NodeOk g (nd g q)) (μ := fun _ _ _ _ i => g.length - i.toNat) ?_
    · exact key g root _ _ 0 ⟨rfl, rfl, rfl, rfl, 0, rfl, by omega, fun q hq => by omega⟩
    intro g' r' l n i ⟨e1, e2, e3, e4, j, e5, hj, hq⟩ again hag ih
    subst e1 e2 e3 e4 e5
    unfold B_Z32_L3b
    simp only [tot_cond, tot_chk, tot_jn, tot_some, decide_eq_true_eq, decide_eq_false_iff_not, inb_iff]
    refine ⟨fun hlt => ⟨⟨by omega, hlt⟩, ?_⟩, fun hge => st5 a1 a2 a3 fun n hn => ?_⟩
    · have hm := nd_mem (g := l) (i := (j : Int)) (by omega) hlt
      have hkj := hk _ hm
      refine (nodeOk_tot hg (nd l (j : Int)) hkj.1 hkj.2).bind ?_
      rintro _ ⟨b, rfl, hb⟩
      simp only [tot_cond, tot_some, Bool.not_eq_true', Bool.not_eq_false']
      refine ⟨fun hf => says_false fun hv => ?_, fun ht => ?_⟩
      · rw [hb.2 (hv.node _ hm)] at hf; cases hf
      · rw [w64_succ (by omega) (by omega)]
        refine ih _ _ _ _ _ ⟨rfl, rfl, rfl, rfl, j + 1, rfl, by omega, fun q h => ?_⟩ (by simp; omega)
        by_cases e : q = j
        · subst e; exact hb.1 ht
        · exact hq q (by omega)
    · obtain ⟨q, hq1, hq2⟩ := List.getElem_of_mem hn
      have := hq q (by omega)
      have e : nd l (q : Int) = n := by
        show l.getD (Int.toNat (q : Int)) _ = n
        rw [Int.toNat_natCast, List.getD_eq_getElem?_getD, List.getElem?_eq_getElem hq1]; exact hq2
      rw [e] at this; exact this
  have st2 : 1 ≤ g.length → g.length ≤ 12 → (0 ≤ root ∧ root < (g.length : Int)) →
      Tot (fun σ => B_Z32_L2 (σ 0) (F_Z0 (σ 0)) (F_i_nodeOk (σ 0)) (F_Z13 (σ 0)) (σ 0) ((g, root, ()), (len g, ()), g, len g, 0, ())) (Says (ValidG g root)) := by
    intro a1 a2 a3
    have key := loop_Z32_L2 (Q := fun _ _ _ _ _ _ r => Says (ValidG g root) r) (I := fun g' r' m l n i => g' = g ∧ r' = root ∧ m = (g.length : Int) ∧ l = g ∧ n = (g.length : Int) ∧ ∃ j : Nat, i = j ∧ j ≤ g.length ∧ ∀ q : Nat, q < j → (nd g q).2.2.length ≤ 6 ∧ InR g (nd g q).2.2) (μ := fun _ _ _ _ _ i => g.length - i.toNat) ?_
    · exact key g root _ _ _ 0 ⟨rfl, rfl, rfl, rfl, rfl, 0, rfl, by omega, fun q hq => by omega⟩
    intro g' r' m l n i ⟨e1, e2, e6, e3, e4, j, e5, hj, hq⟩ again hag ih
    subst e1 e2 e3 e4 e5 e6
    unfold B_Z32_L2b B_Z32_J1
    simp only [tot_cond, tot_chk, tot_jn, tot_some, decide_eq_true_eq, decide_eq_false_iff_not, inb_iff, Bool.true_eq_false, false_implies, and_true, true_implies]
    refine ⟨fun hlt => ⟨⟨by omega, hlt⟩, fun h6 => says_false fun hv => ?_, fun h6 => ?_⟩, fun hge => st3 a1 a2 a3 fun n hn => ?_⟩
    · have := (hv.node _ (nd_mem (g := l) (i := (j : Int)) (by omega) hlt)).1
      have h6 : ((nd l (j : Int)).2.2.length : Int) > 6 := h6
      omega
    · have hm := nd_mem (g := l) (i := (j : Int)) (by omega) hlt
      have h6 : ¬ ((nd l (j : Int)).2.2.length : Int) > 6 := h6
      refine (contains1_tot (s := (nd l (j : Int)).2.2) (hkk _ hm) (l.length : Int)).bind ?_
      rintro _ ⟨b, rfl, hb⟩
      simp only [tot_cond, tot_jn, tot_some]
      refine ⟨fun ht => says_false fun hv => ?_, fun hf => ?_⟩
      · obtain ⟨k, hk1, hk2⟩ := hb.1 ht
        exact hk2 ((hv.node _ hm).2.1 k hk1)
      · rw [w64_succ (by omega) (by omega)]
        refine ih _ _ _ _ _ _ ⟨rfl, rfl, rfl, rfl, rfl, j + 1, rfl, by omega, fun q h => ?_⟩ (by simp; omega)
        by_cases e : q = j
        · subst e
          refine ⟨by omega, fun k hk1 => ?_⟩
          by_cases hc : 0 ≤ k ∧ k < (l.length : Int)
          · exact hc
          · rw [hb.2 ⟨k, hk1, hc⟩] at hf; cases hf
        · exact hq q (by omega)
    · obtain ⟨q, hq1, hq2⟩ := List.getElem_of_mem hn
      have := hq q (by omega)
      have e : nd l (q : Int) = n := by
        show l.getD (Int.toNat (q : Int)) _ = n
        rw [Int.toNat_natCast, List.getD_eq_getElem?_getD, List.getElem?_eq_getElem hq1]; exact hq2
      rw [e] at this; exact this
  unfold B_Z32_J0
  simp only [tot_cond, tot_jn, tot_some, decide_eq_true_eq, decide_eq_false_iff_not, Bool.true_eq_false, false_implies, and_true, true_implies, len, forall_const, imp_false, not_true_eq_false]
  refine ⟨fun h => says_false fun hv => by have := hv.pos; omega, fun h1 => ⟨fun h => says_false fun hv => by have := hv.most; omega, fun h2 => ⟨fun h => says_false fun hv => by have := hv.root; omega, fun h3 => ⟨fun h => says_false fun hv => by have := hv.root; omega, fun h4 => st2 (by omega) (by omega) ⟨by omega, by omega⟩⟩⟩⟩⟩
end Go.Gx

/-
  Laws, part U5: how often nodes are used.
-/
set_option linter.unusedVariables false
set_option linter.unusedSimpArgs false
namespace Go.Gx
def bump (u : List Int) (k : Int) : List Int := u.set k.toNat (u.getD k.toNat 0 + 1)
structure UOk (n : Nat) (u : List Int) (c : Nat) : Prop where
  len : u.length = n
  val : ∀ i, 0 ≤ u.getD i 0 ∧ u.getD i 0 ≤ (c : Int)
theorem UOk.bump {n c : Nat} {u : List Int} (h : UOk n u c) (k : Int) : UOk n (bump u k) (c + 1) := by
  refine ⟨by simp [Go.Gx.bump, h.len], fun i => ?_⟩
  unfold Go.Gx.bump
  rw [List.getD_eq_getElem?_getD, List.getElem?_set]
  have h1 := h.val i
  have h2 := h.val k.toNat
  by_cases e : k.toNat = i
  · subst e
    rw [if_pos rfl]
    split
    · simp only [Option.getD_some]; omega
    · simp only [Option.getD_none]; omega
  · rw [if_neg e, ← List.getD_eq_getElem?_getD]; omega
theorem UOk.mono {n c d : Nat} {u : List Int} (h : UOk n u c) (hd : c ≤ d) : UOk n u d := ⟨h.len, fun i => by have := h.val i; omega⟩
theorem UOk.bumps {n : Nat} : ∀ (l : List Int) {c : Nat} {u : List Int}, UOk n u c → UOk n (l.foldl Go.Gx.bump u) (c + l.length) := by
  intro l
  induction l with
  | nil => intro c u h; exact h
  | cons k l ih =>
    intro c u h
    have := ih (h.bump k)
    simp only [List.foldl_cons, List.length_cons]
    exact this.mono (by omega)
theorem UOk.first {n : Nat} (root : Int) : UOk n ((List.replicate n (0 : Int)).set root.toNat 1) 1 := by
  refine ⟨by simp, fun i => ?_⟩
  rw [List.getD_eq_getElem?_getD, List.getElem?_set]
  have hz : ∀ j : Nat, (List.replicate n (0 : Int))[j]?.getD 0 = 0 := fun j => by rw [List.getElem?_replicate]; split <;> rfl
  by_cases e : root.toNat = i
  · rw [if_pos e]; split
    · simp
    · simp
  · rw [if_neg e, hz]; omega
/-- How often the nodes are used, behind some nodes of a list. -/
def usesTo (g : List PNode) (root : Int) (l : List Int) : List Int := l.foldl (fun u i => (kd g i).foldl bump u) ((List.replicate g.length (0 : Int)).set root.toNat 1)
def usesP (g : List PNode) (root : Int) : List Int := usesTo g root (reachP g root)
theorem usesTo_ok {g : List PNode} {root : Int} (hk : Kidly g) : ∀ (l : List Int), (∀ x ∈ l, 0 ≤ x ∧ x < (g.length : Int)) → UOk g.length (usesTo g root l) (1 + 6 * l.length) := by
  have key : ∀ (l : List Int) (u : List Int) (c : Nat), (∀ x ∈ l, 0 ≤ x ∧ x < (g.length : Int)) → UOk g.length u c → UOk g.length (l.foldl (fun u i => (kd g i).foldl bump u) u) (c + 6 * l.length) := by
    intro l
    induction l with
    | nil => intro u c _ h; exact h
    | cons x l ih =>
      intro u c hl h
      have hx := hl x (by simp)
      have h6 : (kd g x).length ≤ 6 := (hk _ (nd_mem hx.1 hx.2)).1
      have := ih _ _ (fun y hy => hl y (by simp [hy])) (h.bumps (kd g x))
      simp only [List.foldl_cons, List.length_cons]
      exact this.mono (by omega)
  exact fun l hl => key l _ 1 hl (.first root)
theorem reachP_ok {g : List PNode} {root : Int} (hk : Kidly g) (h0 : 0 ≤ root) (h1 : root < (g.length : Int)) : MetOk g (reachP g root) := (rch_ok hk _ _ _ h0 h1 .nil).1
theorem usesTo_succ {g : List PNode} {root : Int} {l : List Int} {j : Nat} (h : j < l.length) : usesTo g root (l.take (j + 1)) = (kd g (l.getD j 0)).foldl bump (usesTo g root (l.take j)) := by
  have e : l.getD j 0 = l[j] := by rw [List.getD_eq_getElem?_getD, List.getElem?_eq_getElem h]; rfl
  unfold usesTo
  rw [e, List.take_add_one, List.getElem?_eq_getElem h, List.foldl_append]
  rfl
theorem s_uses_tot {g : List PNode} {root : Int} (hk : Kidly g) (hg : g.length ≤ 1000000) (h0 : 0 ≤ root) (h1 : root < (g.length : Int)) : Tot (fun σ => F_s_uses (σ 0) g root) (fun r => r = ((usesP g root, ()), ())) := by
  refine tot_s_uses ?_
  unfold B_s_uses
  have hmo := reachP_ok hk h0 h1
  have hml := hmo.len
  simp only [tot_chk, len, Int.toNat_natCast, List.length_replicate, inb_iff, decide_eq_true_eq, Bool.and_eq_true, beq_self_eq_true, and_true]
  refine ⟨⟨by omega, by simp only [lim]; omega⟩, ⟨h0, h1⟩, by omega, (s_reach_tot hk hg h0 h1).bind ?_⟩
  rintro _ rfl
  have key := loop_s_uses_L1 (Q := fun _ _ _ _ _ r => r = ((usesP g root, ()), ())) (I := fun g' r' u l i => g' = g ∧ r' = root ∧ l = reachP g root ∧ ∃ j : Nat, i = j ∧ j ≤ l.length ∧ u = usesTo g root (l.take j)) (μ := fun _ _ _ l i => l.length - i.toNat) ?_
  · exact key g root _ _ 0 ⟨rfl, rfl, rfl, 0, rfl, by omega, rfl⟩
  intro g' r' u l i ⟨e1, e2, e3, j, e4, hj, e5⟩ again1 hag1 ih1
  subst e1 e2 e4
  unfold B_s_uses_L1b
  simp only [tot_cond, tot_some, decide_eq_true_eq, decide_eq_false_iff_not, len]
  rw [← e3] at hmo hml
  refine ⟨fun hlt => ?_, fun hge => ?_⟩
  · have hlt' : j < l.length := by omega
    have hrd : rdx (0 : Int) l (j : Int) = l.getD j 0 := by rw [rdx_eq, Int.toNat_natCast]
    have hm : l.getD j 0 ∈ l := getDm hlt'
    generalize hx : l.getD j 0 = x at *
    have hxr := hmo.2 x hm
    have hkx := hk _ (nd_mem hxr.1 hxr.2)
    have hl6 : (kd g' x).length ≤ 6 := hkx.1
    have hu := usesTo_ok (root := r') hk (l.take j) (fun y hy => hmo.2 y (List.mem_of_mem_take hy))
    rw [← e5, List.length_take] at hu
    have key2 := loop_s_uses_L0 hag1 (Q := fun _ _ _ _ _ _ r => r = ((usesP g' r', ()), ())) (I := fun g2 r2 u2 l2 i2 k => g2 = g' ∧ r2 = r' ∧ l2 = l ∧ i2 = (j : Int) ∧ ∃ m : Nat, k = m ∧ m ≤ (kd g' x).length ∧ u2 = ((kd g' x).take m).foldl bump u) (μ := fun _ _ _ _ _ k => (kd g' x).length - k.toNat) ?_
    · exact key2 g' r' u l j 0 ⟨rfl, rfl, rfl, rfl, 0, rfl, by omega, rfl⟩
    intro g2 r2 u2 l2 i2 k ⟨a1, a2, a3, a4, m, a5, hmm, a6⟩ again2 hag2 ih2
    subst a1 a2 a3 a4 a5
    have hu2 := hu.bumps ((kd g2 x).take m)
    rw [← a6, List.length_take] at hu2
    unfold B_s_uses_L0b
    simp only [hrd]
    simp only [tot_cond, tot_chk, tot_some, decide_eq_true_eq, decide_eq_false_iff_not, len, inb_iff]
    refine ⟨⟨by omega, hlt⟩, hxr, fun hlt2 => ?_, fun hge2 => ?_⟩
    · have hm' : m < (kd g2 x).length := by have : (m : Int) < ((kd g2 x).length : Int) := hlt2; omega
      have hq := hkx.2 (rdx (0 : Int) (kd g2 x) (m : Int)) (rdx_mem (by omega) (show (m : Int) < ((kd g2 x).length : Int) by omega))
      have hv := hu2.val (rdx (0 : Int) (kd g2 x) (m : Int)).toNat
      refine ⟨⟨by omega, hlt⟩, hxr, ⟨by omega, hlt2⟩, ?_⟩
      simp only [show rdx (0 : Int) (rdx ((0 : Int), ((0 : Int), ([] : List Int))) g2 x).2.2 (m : Int) = rdx (0 : Int) (kd g2 x) (m : Int) from rfl]
      rw [hu2.len]
      refine ⟨hq, by omega, hq, by omega, ?_⟩
      rw [show w64 ((m : Int) + 1) = ((m + 1 : Nat) : Int) from w64_succ (by omega) (by omega), w64_id (by omega) (by omega)]
      refine ih2 _ _ _ _ _ _ ⟨rfl, rfl, rfl, rfl, m + 1, rfl, by omega, ?_⟩ (by simp only [Int.toNat_natCast]; omega)
      rw [foldl_take_succ hm', ← a6]; rfl
    · have hge' : (kd g2 x).length ≤ m := by have : ¬ (m : Int) < ((kd g2 x).length : Int) := hge2; omega
      rw [w64_succ (by omega) (by omega)]
      refine ih1 _ _ _ _ _ ⟨rfl, rfl, e3, j + 1, rfl, by omega, ?_⟩ (by simp; omega)
      rw [usesTo_succ hlt', hx, a6, List.take_of_length_le hge', ← e5]
  · rw [e5, List.take_of_length_le (by omega), e3]; rfl
end Go.Gx

/-
  Laws, part U6: SharedOf, of the reference and of the program.
-/
set_option linter.unusedVariables false
set_option linter.unusedSimpArgs false
namespace Go.Gx
/-- The nodes below j that are used more than once and are no numbers. -/
def sharedTo (g : List PNode) (u : List Int) (j : Nat) : List Int := List.map (fun i : Nat => (i : Int)) (List.filter (fun i : Nat => decide (u.getD i 0 > 1) && decide ((nd g (i : Int)).1 ≠ 0)) (List.range j))
def sharedP (g : List PNode) (root : Int) : List Int := sharedTo g (usesP g root) g.length
theorem sharedTo_len (g : List PNode) (u : List Int) (j : Nat) : (sharedTo g u j).length ≤ j := by
  unfold sharedTo
  rw [List.length_map]
  exact Nat.le_trans (List.length_filter_le _ _) (by simp)
theorem sharedTo_yes {g : List PNode} {u : List Int} {j : Nat} (h1 : u.getD j 0 > 1) (h2 : (nd g (j : Int)).1 ≠ 0) : sharedTo g u (j + 1) = sharedTo g u j ++ [(j : Int)] := by
  unfold sharedTo
  rw [List.range_succ, List.filter_append, List.map_append]
  have e : (decide (u.getD j 0 > 1) && decide ((nd g (j : Int)).1 ≠ 0)) = true := by
    rw [← Bool.decide_and, decide_eq_true_eq]; exact ⟨h1, h2⟩
  simp only [List.filter_cons, e, if_true, List.filter_nil, List.map_cons, List.map_nil]
theorem sharedTo_no {g : List PNode} {u : List Int} {j : Nat} (h : ¬ (u.getD j 0 > 1 ∧ (nd g (j : Int)).1 ≠ 0)) : sharedTo g u (j + 1) = sharedTo g u j := by
  unfold sharedTo
  rw [List.range_succ, List.filter_append, List.map_append]
  have e : (decide (u.getD j 0 > 1) && decide ((nd g (j : Int)).1 ≠ 0)) = false := by
    rw [← Bool.decide_and, decide_eq_false_iff_not]; exact h
  simp only [List.filter_cons, e, Bool.false_eq_true, if_false, List.filter_nil, List.map_nil, List.append_nil]
theorem ValidG.kidly {g : List PNode} {root : Int} (h : ValidG g root) : Kidly g := fun n hn => (h.node n hn).kidly
theorem usesP_len {g : List PNode} {root : Int} (h : ValidG g root) : (usesP g root).length = g.length := (usesTo_ok h.kidly _ fun x hx => (reachP_ok h.kidly h.root.1 h.root.2).2 x hx).len
/-- What SharedOf answers: the list if the graph is valid, or nothing. -/
def SharedQ (g : List PNode) (root : Int) (r : (List Int × Unit) × Unit) : Prop := (ValidG g root → r = ((sharedP g root, ()), ())) ∧ (¬ ValidG g root → r = (([], ()), ()))
theorem s_SharedOf_tot {g : List PNode} {root : Int} (hs : g.length ≤ 1000000) (hkk : ∀ n ∈ g, n.2.2.length ≤ 1000000) : Tot (fun σ => F_Z46 (σ 0) g root) (SharedQ g root) := by
  refine tot_Z46 ?_
  unfold B_Z46
  refine (validGraph_tot hs hkk).bind ?_
  rintro _ ⟨b, rfl, hb⟩
  rw [tot_cond, tot_some]
  simp only [Bool.not_eq_true', Bool.not_eq_false']
  refine ⟨fun hf => ⟨fun h => (by rw [hb.2 h] at hf; exact Bool.noConfusion hf), fun _ => rfl⟩, fun ht => ?_⟩
  have hv := hb.1 ht
  refine (s_uses_tot hv.kidly hs hv.root.1 hv.root.2).bind ?_
  rintro _ rfl
  have hul := usesP_len hv
  have key := loop_Z46_L2 (Q := fun _ _ _ _ _ r => SharedQ g root r) (I := fun g' r' out l i => g' = g ∧ r' = root ∧ l = usesP g root ∧ ∃ j : Nat, i = j ∧ j ≤ g.length ∧ out = sharedTo g (usesP g root) j) (μ := fun _ _ _ _ i => g.length - i.toNat) ?_
  · exact key g root _ _ 0 ⟨rfl, rfl, rfl, 0, rfl, by omega, rfl⟩
  intro g' r' out l i ⟨e1, e2, e3, j, e4, hj, e5⟩ again hag ih
  subst e1 e2 e3 e4
  have hol := sharedTo_len g' (usesP g' r') j
  rw [← e5] at hol
  unfold B_Z46_L2b B_Z46_J0 B_Z46_J1
  simp only [tot_cond, tot_chk, tot_jn, tot_some, decide_eq_true_eq, decide_eq_false_iff_not, len, inb_iff, room_iff, List.length_cons, List.length_nil, Int.toNat_natCast, Bool.false_eq_true, false_implies, true_and, forall_const, bne_iff_ne, bne_eq_false_iff_eq, ne_eq]
  refine ⟨fun hlt => ⟨⟨by omega, hlt⟩, by omega, fun h1 => ⟨⟨by omega, by omega⟩, fun h2 => ⟨by omega, ?_⟩, fun h2 => ?_⟩, fun h1 => ?_⟩, fun hge => ⟨fun _ => ?_, fun h => absurd hv h⟩⟩
  · rw [w64_succ (by omega) (by omega)]
    exact ih _ _ _ _ _ ⟨rfl, rfl, rfl, j + 1, rfl, by omega, by rw [e5]; exact (sharedTo_yes h1 h2).symm⟩ (by simp; omega)
  · rw [w64_succ (by omega) (by omega)]
    exact ih _ _ _ _ _ ⟨rfl, rfl, rfl, j + 1, rfl, by omega, by rw [e5]; exact (sharedTo_no fun h => h.2 h2).symm⟩ (by simp; omega)
  · rw [w64_succ (by omega) (by omega)]
    exact ih _ _ _ _ _ ⟨rfl, rfl, rfl, j + 1, rfl, by omega, by rw [e5]; exact (sharedTo_no fun h => h1 h.1).symm⟩ (by simp; omega)
  · rw [e5, show j = g'.length by omega]; rfl
theorem i_SharedOf_tot {g : List PNode} {root : Int} (hs : g.length ≤ 1000000) (hkk : ∀ n ∈ g, n.2.2.length ≤ 1000000) : Tot (fun σ => F_Z39 (σ 0) g root) (SharedQ g root) := by
  refine tot_Z39 ?_
  unfold B_Z39
  refine (i_ValidGraph_tot hs hkk).bind ?_
  rintro _ ⟨b, rfl, hb⟩
  rw [tot_cond, tot_some]
  simp only [Bool.not_eq_true', Bool.not_eq_false']
  refine ⟨fun hf => ⟨fun h => (by rw [hb.2 h] at hf; exact Bool.noConfusion hf), fun _ => rfl⟩, fun ht => ?_⟩
  have hv := hb.1 ht
  have hk := hv.kidly
  have hul := usesP_len hv
  have h0 := hv.root.1
  have h1 := hv.root.2
  have hmo := reachP_ok hk h0 h1
  have hml := hmo.len
  simp only [tot_chk, len, Int.toNat_natCast, List.length_replicate, inb_iff, decide_eq_true_eq, Bool.and_eq_true, beq_self_eq_true, and_true]
  refine ⟨⟨by omega, by simp only [lim]; omega⟩, ⟨h0, h1⟩, by omega, ⟨h0, h1⟩, by omega, (reachOf_tot hk hs h0 h1).bind ?_⟩
  rintro _ rfl
  have hz : (List.replicate g.length (0 : Int)).getD root.toNat 0 = 0 := by
    rw [List.getD_eq_getElem?_getD, List.getElem?_replicate]; split <;> rfl
  rw [hz, show w64 ((0 : Int) + 1) = 1 from w64_id (by omega) (by omega)]
  have st4 : Tot (fun σ => B_Z39_L4 (σ 0) (F_Z32 (σ 0)) (F_Z52 (σ 0)) (σ 0) ((g, root, ()), [], usesP g root, ((usesP g root).length : Int), 0, ())) (SharedQ g root) := by
    have key := loop_Z39_L4 (Q := fun _ _ _ _ _ _ r => SharedQ g root r) (I := fun g' r' out l n i => g' = g ∧ r' = root ∧ l = usesP g root ∧ n = (g.length : Int) ∧ ∃ j : Nat, i = j ∧ j ≤ g.length ∧ out = sharedTo g (usesP g root) j) (μ := fun _ _ _ _ _ i => g.length - i.toNat) ?_
    · exact key g root _ _ _ 0 ⟨rfl, rfl, rfl, by rw [hul], 0, rfl, by omega, rfl⟩
    intro g' r' out l n i ⟨e1, e2, e3, e6, j, e4, hj, e5⟩ again hag ih
    subst e1 e2 e3 e4 e6
    have hol := sharedTo_len g' (usesP g' r') j
    rw [← e5] at hol
    unfold B_Z39_L4b B_Z39_J2 B_Z39_J3
    simp only [tot_cond, tot_chk, tot_jn, tot_some, decide_eq_true_eq, decide_eq_false_iff_not, len, inb_iff, room_iff, List.length_cons, List.length_nil, Int.toNat_natCast, Bool.false_eq_true, false_implies, true_and, forall_const, bne_iff_ne, bne_eq_false_iff_eq, ne_eq]
    refine ⟨fun hlt => ⟨⟨by omega, by omega⟩, by omega, fun h1 => ⟨⟨by omega, by omega⟩, fun h2 => ⟨by omega, ?_⟩, fun h2 => ?_⟩, fun h1 => ?_⟩, fun hge => ⟨fun _ => ?_, fun h => absurd hv h⟩⟩
    · rw [w64_succ (by omega) (by omega)]
      exact ih _ _ _ _ _ _ ⟨rfl, rfl, rfl, rfl, j + 1, rfl, by omega, by rw [e5]; exact (sharedTo_yes h1 h2).symm⟩ (by simp; omega)
    · rw [w64_succ (by omega) (by omega)]
      exact ih _ _ _ _ _ _ ⟨rfl, rfl, rfl, rfl, j + 1, rfl, by omega, by rw [e5]; exact (sharedTo_no fun h => h.2 h2).symm⟩ (by simp; omega)
    · rw [w64_succ (by omega) (by omega)]
      exact ih _ _ _ _ _ _ ⟨rfl, rfl, rfl, rfl, j + 1, rfl, by omega, by rw [e5]; exact (sharedTo_no fun h => h1 h.1).symm⟩ (by simp; omega)
    · rw [e5, show j = g'.length by omega]; rfl
  have key := loop_Z39_L1 (Q := fun _ _ _ _ _ _ r => SharedQ g root r) (I := fun g' r' u l n i => g' = g ∧ r' = root ∧ l = reachP g root ∧ n = (l.length : Int) ∧ ∃ j : Nat, i = j ∧ j ≤ l.length ∧ u = usesTo g root (l.take j)) (μ := fun _ _ _ l _ i => l.length - i.toNat) ?_
  · exact key g root _ _ _ 0 ⟨rfl, rfl, rfl, rfl, 0, rfl, by omega, rfl⟩
  intro g' r' u l n i ⟨e1, e2, e3, e6, j, e4, hj, e5⟩ again1 hag1 ih1
  subst e1 e2 e4 e6
  unfold B_Z39_L1b
  rw [← e3] at hmo hml
  simp only [tot_cond, tot_chk, tot_some, decide_eq_true_eq, decide_eq_false_iff_not, len, inb_iff, Int.toNat_natCast]
  refine ⟨fun hlt => ?_, fun hge => ?_⟩
  · have hlt' : j < l.length := by omega
    have hm : l.getD j 0 ∈ l := getDm hlt'
    generalize hx : l.getD j 0 = x at *
    have hxr := hmo.2 x hm
    have hkx := hk _ (nd_mem hxr.1 hxr.2)
    have hl6 : (kd g' x).length ≤ 6 := hkx.1
    have hu := usesTo_ok (root := r') hk (l.take j) (fun y hy => hmo.2 y (List.mem_of_mem_take hy))
    rw [← e5, List.length_take] at hu
    refine ⟨⟨by omega, hlt⟩, hlt', hxr, ?_⟩
    have key2 := loop_Z39_L0 hag1 (Q := fun _ _ _ _ _ _ _ _ _ r => SharedQ g' r' r) (I := fun g2 r2 u2 l2 n2 i2 ks n3 k => g2 = g' ∧ r2 = r' ∧ l2 = l ∧ n2 = (l.length : Int) ∧ i2 = (j : Int) ∧ ks = kd g' x ∧ n3 = ((kd g' x).length : Int) ∧ ∃ m : Nat, k = m ∧ m ≤ (kd g' x).length ∧ u2 = ((kd g' x).take m).foldl bump u) (μ := fun _ _ _ _ _ _ _ _ k => (kd g' x).length - k.toNat) ?_
    · exact key2 g' r' u l _ j _ _ 0 ⟨rfl, rfl, rfl, rfl, rfl, rfl, rfl, 0, rfl, by omega, rfl⟩
    intro g2 r2 u2 l2 n2 i2 ks n3 k ⟨a1, a2, a3, a4, a5, a6, a7, m, a8, hmm, a9⟩ again2 hag2 ih2
    subst a1 a2 a3 a4 a5 a6 a7 a8
    have hu2 := hu.bumps ((kd g2 x).take m)
    rw [← a9, List.length_take] at hu2
    unfold B_Z39_L0b
    simp only [tot_cond, tot_chk, tot_some, decide_eq_true_eq, decide_eq_false_iff_not, inb_iff]
    refine ⟨fun hlt2 => ?_, fun hge2 => ?_⟩
    · have hm' : m < (kd g2 x).length := by omega
      have hq := hkx.2 (rdx (0 : Int) (kd g2 x) (m : Int)) (rdx_mem (by omega) (show (m : Int) < ((kd g2 x).length : Int) by omega))
      have hv2 := hu2.val (rdx (0 : Int) (kd g2 x) (m : Int)).toNat
      rw [hu2.len]
      refine ⟨⟨by omega, hlt2⟩, hq, by omega, hq, by omega, ?_⟩
      rw [show w64 ((m : Int) + 1) = ((m + 1 : Nat) : Int) from w64_succ (by omega) (by omega), w64_id (by omega) (by omega)]
      refine ih2 _ _ _ _ _ _ _ _ _ ⟨rfl, rfl, rfl, rfl, rfl, rfl, rfl, m + 1, rfl, by omega, ?_⟩ (by simp only [Int.toNat_natCast]; omega)
      rw [foldl_take_succ hm', ← a9]; rfl
    · have hge' : (kd g2 x).length ≤ m := by omega
      rw [w64_succ (by omega) (by omega)]
      refine ih1 _ _ _ _ _ _ ⟨rfl, rfl, e3, rfl, j + 1, rfl, by omega, ?_⟩ (by simp; omega)
      rw [usesTo_succ hlt', hx, a9, List.take_of_length_le hge', ← e5]
  · have e7 : u = usesP g' r' := by rw [e5, List.take_of_length_le (by omega), e3]; rfl
    rw [e7]
    exact st4
end Go.Gx

/-
  Laws, part U2c: circles over the nodes that CyclesOf_1 takes.
-/
set_option linter.unusedVariables false
set_option linter.unusedSimpArgs false
namespace Go.Gx
theorem circles_CyclesOf_1_tot {g : List PNode} (hk : Kidly g) (hg : g.length ≤ 1000000) {s : Int} (h0 : 0 ≤ s) (h1 : s < (g.length : Int)) (p : Int → Prop) [DecidablePred p]
    (hp : ∀ x, 0 ≤ x → x < (g.length : Int) → Tot (fun σ => F_Z30 (σ 0) (nd g x).1 (nd g x).2.1 (nd g x).2.2) (fun r => r = ((decide (p x), ()), ()))) :
    Tot (fun σ => F_Z16 (σ 0) g s) (Says (PReach g p s s)) := by
  refine tot_Z16 ?_
  unfold B_Z16
  have key := loop_Z16_L3 (Q := fun _ _ _ _ r => Says (PReach g p s s) r)
    (I := fun g' s' t L => g' = g ∧ s' = s ∧ ∃ (S : List Int) (E : Int → Prop), t = marks S ∧ Srch g p s S L E E 1) (μ := fun _ _ t L => 2 * (g.length - t.length) + L.length) ?_
  · refine key g s _ _ ⟨rfl, rfl, [], fun _ => False, rfl, .nil, fun x hx => by simp at hx, fun x hx => .inl (by simpa using hx), fun x hx => .inl (by simpa using hx), by simp, fun x hx => hx.elim⟩
  intro g' s' t L ⟨e1, e2, S, E, e3, hS⟩ again3 hag3 ih3
  subst e1 e2 e3
  have hSl := hS.ok.len
  have hLl := hS.len
  unfold B_Z16_L3b
  rcases List.eq_nil_or_concat L with e | ⟨L', x, e⟩
  · subst e
    simp only [tot_cond, tot_some, decide_eq_true_eq, decide_eq_false_iff_not, len, List.length_nil]
    exact ⟨fun h => absurd h (by omega), fun _ => says_false hS.none⟩
  rw [List.concat_eq_append] at e
  subst e
  simp only [List.length_append, List.length_cons, List.length_nil] at hLl
  have hw : w64 (len (L' ++ [x]) - 1) = (L'.length : Int) := by
    simp only [len, List.length_append, List.length_cons, List.length_nil]
    rw [w64_id (by omega) (by omega)]; omega
  have hx : (L' ++ [x]).getD L'.length 0 = x := by
    rw [List.getD_eq_getElem?_getD, List.getElem?_append_right (Nat.le_refl _)]; simp
  have hxr : 0 ≤ x ∧ x < (g'.length : Int) := by
    rcases hS.inl x (by simp) with e | h
    · subst e; exact ⟨h0, h1⟩
    · exact hS.ok.2 x h
  have hxp : x = s' ∨ (PReach g' p s' x ∧ p x) := (hS.inl x (by simp)).imp id (hS.reach x)
  have hkx := hk _ (nd_mem hxr.1 hxr.2)
  simp only [hw, Int.toNat_natCast, hx, List.take_left]
  simp only [tot_cond, tot_chk, tot_some, decide_eq_true_eq, decide_eq_false_iff_not, inb_iff, len, List.length_append, List.length_cons, List.length_nil]
  refine ⟨fun _ => ⟨by omega, by omega, by simp [cutb]; try omega, hxr, ?_⟩, fun h => absurd h (by omega)⟩
  have key2 := loop_Z16_L2 hag3 (Q := fun _ _ _ _ _ _ _ r => Says (PReach g' p s' s') r)
    (I := fun g2 s2 t L ks n i => g2 = g' ∧ s2 = s' ∧ ks = kd g' x ∧ n = ((kd g' x).length : Int) ∧ ∃ (S2 : List Int) (j : Nat), t = marks S2 ∧ Srch g' p s' S2 L (fun y => E y ∨ y = x) E 0 ∧ i = j ∧ j ≤ (kd g' x).length ∧
      (∀ q, q < j → (kd g' x).getD q 0 ≠ s' ∧ (p ((kd g' x).getD q 0) → (kd g' x).getD q 0 ∈ S2)) ∧ 2 * (g'.length - S2.length) + L.length < 2 * (g'.length - S.length) + (L'.length + 1)) (μ := fun _ _ _ _ _ n i => n.toNat - i.toNat) ?_
  · exact key2 g' s' _ _ _ _ 0 ⟨rfl, rfl, rfl, rfl, S, 0, rfl, hS.pop, rfl, by omega, fun q hq => by omega, by omega⟩
  intro g2 s2 t L ks n i ⟨e1, e2, e3, e4, S2, j, e5, hS2, e6, hj, hq, hM⟩ again2 hag2 ih2
  subst e1 e2 e3 e4 e5 e6
  have hS2l := hS2.ok.len
  have hL2 := hS2.len
  unfold B_Z16_L2b
  simp only [tot_cond, tot_chk, tot_jn, decide_eq_true_eq, decide_eq_false_iff_not, inb_iff, beq_iff_eq, beq_eq_false_iff_ne, ne_eq]
  refine ⟨fun hlt => ⟨⟨by omega, hlt⟩, fun heq => ?_, fun hne => ?_⟩, fun hge => ?_⟩
  · have hm : s2 ∈ kd g2 x := by rw [← heq]; exact rdx_mem (by omega) (by omega)
    rw [tot_some]
    refine says_true ?_
    rcases hxp with e | ⟨h, h'⟩
    · rw [e] at hm; exact .kid hm
    · exact .step h h' hm
  · have hl6 : (kd g2 x).length ≤ 6 := hkx.1
    have hm : rdx (0 : Int) (kd g2 x) (j : Int) ∈ kd g2 x := rdx_mem (by omega) (by omega)
    have hgd : rdx (0 : Int) (kd g2 x) (j : Int) = (kd g2 x).getD j 0 := rfl
    generalize hkk : rdx (0 : Int) (kd g2 x) (j : Int) = k at *
    have hkr := hkx.2 k hm
    have hreach : PReach g2 p s2 k := by
      rcases hxp with e | ⟨h, h'⟩
      · rw [e] at hm; exact .kid hm
      · exact .step h h' hm
    have wj : w64 ((j : Int) + 1) = ((j + 1 : Nat) : Int) := w64_succ (by omega) (by omega)
    have stay : (p k → k ∈ S2) → Tot (fun σ => again2 σ (g2, s2, (), marks S2, L, kd g2 x, ((kd g2 x).length : Int), w64 ((j : Int) + 1), ())) (Says (PReach g2 p s2 s2)) := by
      intro hin
      rw [wj]
      refine ih2 _ _ _ _ _ _ _ ⟨rfl, rfl, rfl, rfl, S2, j + 1, rfl, hS2, rfl, by omega, fun q h => ?_, hM⟩ (by simp only [Int.toNat_natCast]; omega)
      by_cases e : q = j
      · subst e; rw [← hgd]; exact ⟨hne, hin⟩
      · exact hq q (by omega)
    refine ⟨hkr, (hp k hkr.1 hkr.2).bind ?_⟩
    rintro _ rfl
    unfold B_Z16_J0 B_Z16_J1
    simp only [tot_cond, tot_chk, tot_jn, decide_eq_true_eq, decide_eq_false_iff_not, room_iff, List.length_cons, List.length_nil, mfind_marks, Bool.not_eq_true', Bool.not_eq_false', Bool.false_eq_true, false_implies, true_and, forall_const]
    refine ⟨fun hpk => ⟨fun hni => ⟨by omega, ?_⟩, fun hin => stay fun _ => hin⟩, fun hpk => stay fun h => absurd h hpk⟩
    have hS3 := hS2.push hkr.1 hkr.2 hni hreach hpk
    have hS3l := hS3.ok.len
    simp only [List.length_append, List.length_cons, List.length_nil] at hS3l
    rw [wj, mput_marks k S2 hni]
    refine ih2 _ _ _ _ _ _ _ ⟨rfl, rfl, rfl, rfl, S2 ++ [k], j + 1, rfl, hS3, rfl, by omega, fun q h => ?_, by simp only [List.length_append, List.length_cons, List.length_nil]; omega⟩ (by simp only [Int.toNat_natCast]; omega)
    by_cases e : q = j
    · subst e; rw [← hgd]; exact ⟨hne, fun _ => by simp⟩
    · exact ⟨(hq q (by omega)).1, fun h => List.mem_append_left _ ((hq q (by omega)).2 h)⟩
  · refine ih3 _ _ _ _ ⟨rfl, rfl, S2, _, rfl, hS2.fin fun k hk => ?_⟩ (by simp only [marks_len, List.length_append, List.length_cons, List.length_nil]; omega)
    obtain ⟨q, hq1, hq2⟩ := mem_getD hk
    have := hq q (by omega)
    rw [hq2] at this
    exact this
end Go.Gx

/-
  Laws, part SO0: small words.
-/
set_option linter.unusedVariables false
set_option linter.unusedSimpArgs false
namespace Go.Gx
theorem w64n_pred {j : Nat} (h1 : 1 ≤ j) (h2 : j ≤ 1000000) : w64 ((j : Int) - 1) = ((j - 1 : Nat) : Int) := by rw [w64_id (by omega) (by omega)]; omega
theorem w64n_succ {j : Nat} (h2 : j ≤ 1000000) : w64 ((j : Int) + 1) = ((j + 1 : Nat) : Int) := by rw [w64_id (by omega) (by omega)]; omega
theorem w64n_add {i j : Nat} (h2 : i + j ≤ 1000000) : w64 ((i : Int) + (j : Int)) = ((i + j : Nat) : Int) := by rw [w64_id (by omega) (by omega)]; omega
theorem w64n_sub {i j : Nat} (h1 : j ≤ i) (h2 : i ≤ 1000000) : w64 ((i : Int) - (j : Int)) = ((i - j : Nat) : Int) := by rw [w64_id (by omega) (by omega)]; omega
theorem w64n_two {i : Nat} (h2 : i ≤ 1000000) : w64 (2 * (i : Int)) = ((2 * i : Nat) : Int) := by rw [w64_id (by omega) (by omega)]; omega
theorem inbn {j n : Nat} : inb (j : Int) n = true ↔ j < n := by rw [inb_iff]; omega

end Go.Gx

/-
  Laws, part SO1: slices.Sort: insertion, heap, the turning round.
-/
set_option linter.unusedVariables false
set_option linter.unusedSimpArgs false
namespace Go.Gx
open Go.Sort
theorem ga (l : List Int) (i : Nat) : l.toArray[i]! = l.getD i 0 := by
  rw [List.getD_eq_getElem?_getD]
  simp only [getElem!_def, List.getElem?_toArray]
  cases l[i]? <;> rfl
theorem sw (l : List Int) (i j : Nat) : swp l.toArray i j = ((l.set i (l.getD j 0)).set j (l.getD i 0)).toArray := by
  unfold swp
  rw [ga, ga]
  simp
theorem less_tot (x y : Int) : Tot (fun σ => F_Z26 (σ 0) x y) (fun r => r = ((ltInt x y, ()), ())) := by
  have nan : ∀ z : Int, Tot (fun σ => F_Z24 (σ 0) z) (fun r => r = ((false, ()), ())) := fun z => by
    refine tot_Z24 ?_
    unfold B_Z24
    rw [tot_some]; simp
  refine tot_Z26 ?_
  unfold B_Z26
  refine (nan x).bind ?_
  rintro _ rfl
  rw [tot_cond]
  refine ⟨fun h => absurd h (by decide), fun _ => ?_⟩
  rw [tot_some]; rfl

theorem insOuter_lt {a b i : Nat} (d : Array Int) (h : i < b) : insOuter ltInt a b i d = insOuter ltInt a b (i + 1) (insInner ltInt a i d) := by
  rw [insOuter, if_pos h]
theorem insOuter_ge {a b i : Nat} (d : Array Int) (h : ¬ i < b) : insOuter ltInt a b i d = d := by
  rw [insOuter, if_neg h]
theorem insertionSort_tot {l : List Int} {a b : Nat} (hb : b ≤ l.length) (hl : l.length ≤ 1000) (ha : a ≤ l.length) :
    Tot (fun σ => F_Z6 (σ 0) l (a : Int) (b : Int)) (fun r => r = ((), ((insertionSort ltInt l.toArray a b).toList, ()))) := by
  refine tot_Z6 ?_
  unfold B_Z6
  rw [w64n_succ (by omega)]
  have key := loop_Z6_L2 (Q := fun d x y i r => r = ((), ((insOuter ltInt a b i.toNat d.toArray).toList, ()))) (I := fun d x y i => x = (a : Int) ∧ y = (b : Int) ∧ d.length = l.length ∧ ∃ n : Nat, i = (n : Int) ∧ n ≤ l.length + 1) (μ := fun _ _ _ i => (b - i).toNat) ?_
  · have := key l a b ((a + 1 : Nat) : Int) ⟨rfl, rfl, rfl, a + 1, rfl, by omega⟩
    rw [Int.toNat_natCast] at this
    exact this
  rintro d _ _ _ ⟨rfl, rfl, hd, n, rfl, hn⟩ again hag ih
  unfold B_Z6_L2b
  simp only [Int.toNat_natCast]
  rw [tot_cond]
  refine ⟨fun h => ?_, fun h => ?_⟩
  · have h := of_decide_eq_true h
    have hnb : n < b := by omega
    rw [insOuter_lt _ hnb]
    have key1 := loop_Z6_L1 hag (Q := fun d x y i j r => r = ((), ((insOuter ltInt a b (n + 1) (insInner ltInt a j.toNat d.toArray)).toList, ()))) (I := fun d x y i j => x = (a : Int) ∧ y = (b : Int) ∧ i = (n : Int) ∧ d.length = l.length ∧ ∃ q : Nat, j = (q : Int) ∧ q ≤ n) (μ := fun _ _ _ _ j => j.toNat) ?_
    · have := key1 d a b n n ⟨rfl, rfl, rfl, hd, n, rfl, Nat.le_refl _⟩
      rw [Int.toNat_natCast] at this
      exact this
    rintro d _ _ _ _ ⟨rfl, rfl, rfl, hd, q, rfl, hq⟩ again1 hag1 ih1
    unfold B_Z6_L1b
    simp only [Int.toNat_natCast]
    have stop : insInner ltInt a q d.toArray = d.toArray → Tot (fun σ => B_Z6_J0 (σ 0) (F_Z26 (σ 0)) (again1 σ) (again σ) d (a : Int) (b : Int) (n : Int) (q : Int) false) (fun r => r = ((), ((insOuter ltInt a b (n + 1) (insInner ltInt a q d.toArray)).toList, ()))) := by
      intro he
      unfold B_Z6_J0
      rw [tot_cond]
      refine ⟨fun h => absurd h (by decide), fun _ => ?_⟩
      rw [he, w64n_succ (by omega)]
      have := ih d a b ((n + 1 : Nat) : Int) ⟨rfl, rfl, hd, n + 1, rfl, by omega⟩ (by omega)
      rw [Int.toNat_natCast] at this
      exact this
    rw [tot_cond]
    refine ⟨fun h => ?_, fun h => ?_⟩
    · have h := of_decide_eq_true h
      obtain ⟨q', rfl⟩ : ∃ q', q = q' + 1 := ⟨q - 1, by omega⟩
      rw [w64n_pred (by omega) (by omega), Nat.add_sub_cancel]
      simp only [tot_chk, inbn, decide_eq_true_eq, Int.toNat_natCast]
      refine ⟨by omega, by omega, by omega, by omega, (less_tot _ _).bind ?_⟩
      rintro _ rfl
      rw [tot_jn]
      cases hlt : ltInt (d.getD (q' + 1) 0) (d.getD q' 0) with
      | false =>
        refine stop ?_
        rw [insInner, ga, ga, hlt]
        simp
      | true =>
        have e : insInner ltInt a (q' + 1) d.toArray = insInner ltInt a q' ((d.set (q' + 1) (d.getD q' 0)).set q' (d.getD (q' + 1) 0)).toArray := by
          rw [insInner, ga, ga, hlt, sw, if_pos (by simp; omega)]
        rw [e]
        show Tot (fun σ => B_Z6_J0 (σ 0) (F_Z26 (σ 0)) (again1 σ) (again σ) d (a : Int) (b : Int) (n : Int) ((q' + 1 : Nat) : Int) true) _
        unfold B_Z6_J0
        rw [tot_cond]
        refine ⟨fun _ => ?_, fun h => absurd h (by decide)⟩
        rw [w64n_pred (by omega) (by omega), Nat.add_sub_cancel]
        simp only [tot_chk, inbn, decide_eq_true_eq, Int.toNat_natCast, List.length_set]
        refine ⟨by omega, by omega, by omega, by omega, by omega, by omega, by omega, by omega, ?_⟩
        have := fun (dd : List Int) (hdd : dd.length = l.length) => ih1 dd a b n (q' : Int) ⟨rfl, rfl, rfl, hdd, q', rfl, by omega⟩ (by omega)
        simp only [Int.toNat_natCast] at this
        exact this _ (by rw [List.length_set, List.length_set]; exact hd)
    · have h := of_decide_eq_false h
      rw [tot_jn]
      refine stop ?_
      cases q with
      | zero => rw [insInner]
      | succ q =>
        rw [insInner, if_neg]
        simp only [Bool.and_eq_true, decide_eq_true_eq, not_and]
        intro h'; omega
  · rw [tot_some, insOuter_ge _ (by have := of_decide_eq_false h; omega)]

theorem siftDown_tot {l : List Int} {hi first root : Nat} (h : first + hi ≤ l.length) (hl : l.length ≤ 1000) (hr : root ≤ 1000) :
    Tot (fun σ => F_Z10 (σ 0) l (root : Int) (hi : Int) (first : Int)) (fun r => r = ((), ((siftDown ltInt hi first root l.toArray).toList, ()))) := by
  refine tot_Z10 ?_
  unfold B_Z10
  have key := loop_Z10_L2 (Q := fun d x y i r => r = ((), ((siftDown ltInt hi first i.toNat d.toArray).toList, ()))) (I := fun d x y i => x = (hi : Int) ∧ y = (first : Int) ∧ d.length = l.length ∧ ∃ n : Nat, i = (n : Int) ∧ n ≤ 1000) (μ := fun _ _ _ i => (1000 - i).toNat) ?_
  · have := key l hi first (root : Int) ⟨rfl, rfl, rfl, root, rfl, by omega⟩
    rw [Int.toNat_natCast] at this
    exact this
  rintro d _ _ _ ⟨rfl, rfl, hd, n, rfl, hn⟩ again hag ih
  unfold B_Z10_L2b
  rw [Int.toNat_natCast, w64n_two (by omega), w64n_succ (by omega), w64n_succ (by omega)]
  rw [tot_cond]
  refine ⟨fun h => ?_, fun h => ?_⟩
  · have h := of_decide_eq_true h
    rw [tot_some, siftDown, dif_pos (by omega)]
  have h := of_decide_eq_false h
  have hlt : 2 * n + 1 < hi := by omega
  have j1 : ∀ c : Nat, n < c → c < hi → (ltInt (d.getD (first + n) 0) (d.getD (first + c) 0) = false → siftDown ltInt hi first n d.toArray = d.toArray) →
      (ltInt (d.getD (first + n) 0) (d.getD (first + c) 0) = true → siftDown ltInt hi first n d.toArray = siftDown ltInt hi first c (swp d.toArray (first + n) (first + c))) →
      Tot (fun σ => B_Z10_J1 (σ 0) (F_Z26 (σ 0)) (again σ) d (hi : Int) (first : Int) (n : Int) (c : Int)) (fun r => r = ((), ((siftDown ltInt hi first n d.toArray).toList, ()))) := by
    intro c hnc hc e0 e1
    unfold B_Z10_J1
    rw [w64n_add (by omega), w64n_add (by omega)]
    simp only [tot_chk, inbn, decide_eq_true_eq, Int.toNat_natCast, List.length_set]
    refine ⟨by omega, by omega, by omega, by omega, (less_tot _ _).bind ?_⟩
    rintro _ rfl
    rw [tot_cond]
    refine ⟨fun h => ?_, fun h => ?_⟩
    · rw [tot_some, e0 (by simpa using h)]
    · simp only [tot_chk, inbn, decide_eq_true_eq, Int.toNat_natCast, List.length_set]
      refine ⟨by omega, by omega, by omega, by omega, by omega, by omega, by omega, by omega, ?_⟩
      have := fun (dd : List Int) (hdd : dd.length = l.length) => ih dd hi first (c : Int) ⟨rfl, rfl, hdd, c, rfl, by omega⟩ (by omega)
      simp only [Int.toNat_natCast] at this
      rw [e1 (by simpa using h), sw]
      exact this _ (by rw [List.length_set, List.length_set]; exact hd)
  have j0 : ∀ t : Bool, (t = (decide (2 * n + 1 + 1 < hi) && ltInt (d.getD (first + (2 * n + 1)) 0) (d.getD (first + (2 * n + 1) + 1) 0))) →
      Tot (fun σ => B_Z10_J0 (σ 0) (F_Z26 (σ 0)) (again σ) d (hi : Int) (first : Int) (n : Int) ((2 * n + 1 : Nat) : Int) t) (fun r => r = ((), ((siftDown ltInt hi first n d.toArray).toList, ()))) := by
    intro t ht
    unfold B_Z10_J0
    rw [tot_cond]
    refine ⟨fun h => ?_, fun h => ?_⟩
    · rw [ht] at h
      have h2 := h
      simp only [Bool.and_eq_true, decide_eq_true_eq] at h2
      rw [tot_jn, w64n_succ (by omega)]
      refine j1 (2 * n + 1 + 1) (by omega) h2.1 (fun e => ?_) (fun e => ?_)
      · rw [siftDown, dif_neg (by omega), if_pos (by rw [ga, ga]; exact h), if_pos (by rw [ga, ga, e]; rfl)]
      · rw [siftDown, dif_neg (by omega), if_pos (by rw [ga, ga]; exact h), if_neg (by rw [ga, ga, e]; decide), dif_pos (by omega)]
    · rw [ht] at h
      rw [tot_jn]
      refine j1 (2 * n + 1) (by omega) hlt (fun e => ?_) (fun e => ?_)
      · rw [siftDown, dif_neg (by omega), if_neg (by rw [ga, ga, h]; decide), if_pos (by rw [ga, ga, e]; rfl)]
      · rw [siftDown, dif_neg (by omega), if_neg (by rw [ga, ga, h]; decide), if_neg (by rw [ga, ga, e]; decide)]
  rw [tot_cond]
  refine ⟨fun h => ?_, fun h => ?_⟩
  · have h := of_decide_eq_true h
    rw [w64n_add (by omega), w64n_succ (by omega)]
    simp only [tot_chk, inbn, decide_eq_true_eq, Int.toNat_natCast, List.length_set]
    refine ⟨by omega, by omega, by omega, by omega, (less_tot _ _).bind ?_⟩
    rintro _ rfl
    rw [tot_jn]
    exact j0 _ (by rw [decide_eq_true (by omega : 2 * n + 1 + 1 < hi)]; rfl)
  · have h := of_decide_eq_false h
    rw [tot_jn]
    exact j0 _ (by rw [decide_eq_false (by omega : ¬ 2 * n + 1 + 1 < hi)]; rfl)
theorem siftDown_size {hi first : Nat} : ∀ (n root : Nat) (d : Array Int), hi - root ≤ n → (siftDown ltInt hi first root d).size = d.size := by
  intro n
  induction n with
  | zero => intro root d h; rw [siftDown, dif_pos (by omega)]
  | succ n ih =>
    intro root d h
    rw [siftDown]
    split
    · rfl
    · split <;> split
      · rfl
      · split
        · rw [ih _ _ (by omega), swp_size]
        · rfl
      · rfl
      · rw [ih _ _ (by omega), swp_size]
theorem heapSort_tot {l : List Int} {a b : Nat} (hb : b ≤ l.length) (hl : l.length ≤ 1000) (ha : a < b) :
    Tot (fun σ => F_Z11 (σ 0) l (a : Int) (b : Int)) (fun r => r = ((), ((heapSort ltInt l.toArray a b).toList, ()))) := by
  refine tot_Z11 ?_
  unfold B_Z11
  rw [w64n_sub (by omega) (by omega), w64n_pred (by omega) (by omega)]
  have ed : w64 (((b - a - 1 : Nat) : Int).tdiv 2) = (((b - a - 1) / 2 : Nat) : Int) := by
    rw [Int.tdiv_eq_ediv_of_nonneg (by omega), w64_id (by omega) (by omega)]; omega
  rw [ed]
  have key := loop_Z11_L0 (Q := fun d x y z i r => r = ((), ((heapPop ltInt a (b - a) (heapBuild ltInt (b - a) a (i + 1).toNat d.toArray)).toList, ()))) (I := fun d x y z i => x = (a : Int) ∧ y = 0 ∧ z = ((b - a : Nat) : Int) ∧ d.length = l.length ∧ ∃ k : Nat, i = (k : Int) - 1 ∧ k ≤ 1000) (μ := fun _ _ _ _ i => (i + 1).toNat) ?_
  · have := key l a 0 ((b - a : Nat) : Int) (((b - a - 1) / 2 : Nat) : Int) ⟨rfl, rfl, rfl, rfl, (b - a - 1) / 2 + 1, by omega, by omega⟩
    rw [show ((((b - a - 1) / 2 : Nat) : Int) + 1).toNat = (b - a - 1) / 2 + 1 by omega] at this
    exact this
  rintro d _ _ _ _ ⟨rfl, rfl, rfl, hd, k, rfl, hk⟩ again hag ih
  unfold B_Z11_L0b
  rw [show ((k : Int) - 1 + 1).toNat = k by omega, tot_cond]
  refine ⟨fun h => ?_, fun h => ?_⟩
  · have h := of_decide_eq_true h
    obtain ⟨q, rfl⟩ : ∃ q, k = q + 1 := ⟨k - 1, by omega⟩
    rw [show (((q + 1 : Nat) : Int) - 1) = (q : Int) by omega]
    refine (siftDown_tot (by omega) (by omega) (by omega)).bind ?_
    rintro _ rfl
    rw [w64_id (by omega) (by omega)]
    have := fun (dd : List Int) (hdd : dd.length = l.length) => ih dd a 0 ((b - a : Nat) : Int) ((q : Int) - 1) ⟨rfl, rfl, rfl, hdd, q, rfl, by omega⟩ (by omega)
    simp only [show ((q : Int) - 1 + 1).toNat = q by omega] at this
    exact this _ (by rw [Array.length_toList, siftDown_size _ _ _ (Nat.le_refl _)]; simpa using hd)
  · have h := of_decide_eq_false h
    obtain rfl : k = 0 := by omega
    rw [heapBuild, w64n_pred (by omega) (by omega)]
    have key1 := loop_Z11_L1 (Q := fun d x y i r => r = ((), ((heapPop ltInt a (i + 1).toNat d.toArray).toList, ()))) (I := fun d x y i => x = (a : Int) ∧ y = 0 ∧ d.length = l.length ∧ ∃ k : Nat, i = (k : Int) - 1 ∧ k ≤ b - a) (μ := fun _ _ _ i => (i + 1).toNat) ?_
    · have := key1 d a 0 ((b - a - 1 : Nat) : Int) ⟨rfl, rfl, hd, b - a, by omega, by omega⟩
      rw [show (((b - a - 1 : Nat) : Int) + 1).toNat = b - a by omega] at this
      exact this
    rintro d _ _ _ ⟨rfl, rfl, hd, k, rfl, hk⟩ again1 hag1 ih1
    unfold B_Z11_L1b
    rw [show ((k : Int) - 1 + 1).toNat = k by omega, tot_cond]
    refine ⟨fun h => ?_, fun h => ?_⟩
    · have h := of_decide_eq_true h
      obtain ⟨q, rfl⟩ : ∃ q, k = q + 1 := ⟨k - 1, by omega⟩
      rw [show (((q + 1 : Nat) : Int) - 1) = (q : Int) by omega, w64n_add (by omega)]
      simp only [tot_chk, inbn, decide_eq_true_eq, Int.toNat_natCast, List.length_set]
      refine ⟨by omega, by omega, by omega, by omega, by omega, by omega, by omega, by omega, (siftDown_tot (root := 0) (by rw [List.length_set, List.length_set]; omega) (by rw [List.length_set, List.length_set]; omega) (by omega)).bind ?_⟩
      rintro _ rfl
      rw [w64_id (by omega) (by omega)]
      have := fun (dd : List Int) (hdd : dd.length = l.length) => ih1 dd a 0 ((q : Int) - 1) ⟨rfl, rfl, hdd, q, rfl, by omega⟩ (by omega)
      simp only [show ((q : Int) - 1 + 1).toNat = q by omega] at this
      rw [heapPop, sw]
      exact this _ (by rw [Array.length_toList, siftDown_size _ _ _ (Nat.le_refl _)]; simpa using hd)
    · have h := of_decide_eq_false h
      obtain rfl : k = 0 := by omega
      rw [tot_some, heapPop]
theorem swP {l : List Int} {a b i j : Nat} (h1 : a ≤ i) (h2 : i < b) (h3 : a ≤ j) (h4 : j < b) (hb : b ≤ l.length) : PermIn a b l.toArray ((l.set i (l.getD j 0)).set j (l.getD i 0)).toArray := by
  rw [← sw]
  exact swp_permIn l.toArray a b i j h1 h2 h3 h4 (by simpa using hb)
theorem reverse_tot {l : List Int} {a b : Nat} (hb : b ≤ l.length) (hl : l.length ≤ 1000) (ha : a < b) :
    Tot (fun σ => F_Z7 (σ 0) l (a : Int) (b : Int)) (fun r => ∃ l' : List Int, r = ((), (l', ())) ∧ PermIn a b l.toArray l'.toArray) := by
  refine tot_Z7 ?_
  unfold B_Z7
  rw [w64n_pred (by omega) (by omega)]
  have key := loop_Z7_L0 (Q := fun d i j r => ∃ l' : List Int, r = ((), (l', ())) ∧ PermIn a b l.toArray l'.toArray) (I := fun d i j => PermIn a b l.toArray d.toArray ∧ ∃ p q : Nat, i = (p : Int) ∧ j = (q : Int) ∧ a ≤ p ∧ q < b ∧ p ≤ q + 1) (μ := fun _ i j => (j - i).toNat) ?_
  · exact key l a ((b - 1 : Nat) : Int) ⟨permIn_refl _ _ _, a, b - 1, rfl, rfl, by omega, by omega, by omega⟩
  rintro d _ _ ⟨hp, p, q, rfl, rfl, h1, h2, h3⟩ again hag ih
  have hd : d.length = l.length := by simpa using hp.1
  unfold B_Z7_L0b
  rw [tot_cond]
  refine ⟨fun h => ?_, fun h => ?_⟩
  · have h := of_decide_eq_true h
    simp only [tot_chk, inbn, decide_eq_true_eq, Int.toNat_natCast, List.length_set]
    refine ⟨by omega, by omega, by omega, by omega, by omega, by omega, by omega, by omega, ?_⟩
    rw [w64n_succ (by omega), w64n_pred (by omega) (by omega)]
    exact ih _ _ _ ⟨permIn_trans _ _ _ a b hp (swP (by omega) (by omega) (by omega) (by omega) (by omega)), p + 1, q - 1, rfl, rfl, by omega, by omega, by omega⟩ (by omega)
  · rw [tot_some]
    exact ⟨d, rfl, hp⟩
end Go.Gx

/-
  Laws, part SO2: slices.Sort: broken patterns.
-/
set_option linter.unusedVariables false
set_option linter.unusedSimpArgs false
namespace Go.Gx
open Go.Sort
theorem lenTab : ∀ y : Fin 256, B_Z42_J2 0 (y.val : Int) 0 = some ((((bitsLen y.val : Nat) : Int), ()), ()) ∧ B_Z42_J2 0 (y.val : Int) 8 = some ((((8 + bitsLen y.val : Nat) : Int), ()), ()) := by decide +kernel
theorem bitsLen_tot {x : Nat} (hx : x < 65536) : Tot (fun σ => F_bits_Len (σ 0) (x : Int)) (fun r => ∃ L : Nat, r = (((L : Int), ()), ()) ∧ x < 2 ^ L ∧ (0 < x → 2 ^ L ≤ 2 * x) ∧ L ≤ 17) := by
  refine tot_bits_Len ?_
  unfold B_bits_Len
  refine Tot.bind (P := fun r => ∃ L : Nat, r = (((L : Int), ()), ()) ∧ x < 2 ^ L ∧ (0 < x → 2 ^ L ≤ 2 * x) ∧ L ≤ 17) ?_ ?_
  · refine tot_Z42 ?_
    unfold B_Z42
    rw [tot_cond]
    refine ⟨fun h => by have := of_decide_eq_true h; omega, fun _ => ?_⟩
    rw [tot_jn]
    unfold B_Z42_J0
    rw [tot_cond]
    refine ⟨fun h => by have := of_decide_eq_true h; simp only at this; omega, fun _ => ?_⟩
    rw [tot_jn]
    unfold B_Z42_J1
    simp only
    rw [tot_cond]
    refine ⟨fun h => ?_, fun h => ?_⟩
    · have h := of_decide_eq_true h
      have e1 : shrK .u64 (x : Int) 8 = ((x / 256 : Nat) : Int) := by
        unfold shrK
        rw [show (2 ^ min (8 : Int).toNat IntKind.u64.bits : Int) = 256 by decide]
        rw [Int.fdiv_eq_ediv_of_nonneg _ (by decide)]; omega
      rw [tot_jn, e1, show w64 (0 + 8) = 8 by decide]
      have := (lenTab ⟨x / 256, by omega⟩).2
      simp only at this
      have e2 : ∀ k, B_Z42_J2 k ((x / 256 : Nat) : Int) 8 = B_Z42_J2 0 ((x / 256 : Nat) : Int) 8 := fun _ => rfl
      simp only [e2, this, tot_some]
      have h1 := lt_two_pow_bitsLen (x / 256)
      have h2 := two_pow_bitsLen_le (n := x / 256) (by omega)
      have h3 := (bitsLen_le_iff (x / 256) 8).2 (by omega)
      refine ⟨_, rfl, ?_, fun _ => ?_, by omega⟩
      · rw [Nat.pow_add]; omega
      · rw [Nat.pow_add]; omega
    · have h := of_decide_eq_false h
      rw [tot_jn]
      have := (lenTab ⟨x, by omega⟩).1
      simp only at this
      have e2 : ∀ k, B_Z42_J2 k (x : Int) 0 = B_Z42_J2 0 (x : Int) 0 := fun _ => rfl
      simp only [e2, this, tot_some]
      exact ⟨_, rfl, lt_two_pow_bitsLen x, fun h => two_pow_bitsLen_le h, by have := (bitsLen_le_iff x 8).2 (by omega); omega⟩
  · rintro _ ⟨L, rfl, h⟩
    rw [tot_some]
    exact ⟨L, rfl, h⟩
theorem wrap_id {z : Int} (h1 : 0 ≤ z) (h2 : z ≤ 4294967296) : IntKind.wrap .u64 z = z := by
  unfold IntKind.wrap
  simp [IntKind.bits, IntKind.signed]
  omega
theorem pow2_tot {x : Nat} (h1 : 0 < x) (hx : x < 65536) : Tot (fun σ => F_Z17 (σ 0) (x : Int)) (fun r => ∃ m : Nat, r = (((m : Int), ()), ()) ∧ 0 < m ∧ m ≤ 2 * x) := by
  refine tot_Z17 ?_
  unfold B_Z17
  rw [wrap_id (by omega) (by omega)]
  refine (bitsLen_tot hx).bind ?_
  rintro _ ⟨L, rfl, h2, h3, h4⟩
  rw [tot_chk]
  refine ⟨decide_eq_true (by simp), ?_⟩
  rw [tot_some]
  refine ⟨2 ^ L, ?_, Nat.two_pow_pos L, h3 h1⟩
  have : shlK .u64 1 (L : Int) = ((2 ^ L : Nat) : Int) := by
    unfold shlK
    rw [Int.toNat_natCast, show min L IntKind.u64.bits = L by simp [IntKind.bits]; omega, wrap_id (by rw [Int.one_mul]; exact_mod_cast Nat.zero_le _) ?_]
    · simp
    · rw [Int.one_mul]
      have : 2 ^ L ≤ 2 ^ 17 := Nat.pow_le_pow_right (by decide) h4
      have h5 : ((2 ^ L : Nat) : Int) ≤ 4294967296 := by omega
      simpa using h5
  simp only [this]
theorem andK_le {r : Int} {m : Nat} (h1 : 0 < m) (h2 : m ≤ 1000000) : ∃ o : Nat, andK .u64 r (IntKind.wrap .u64 ((m : Int) - 1)) = (o : Int) ∧ o < m := by
  rw [wrap_id (by omega) (by omega)]
  unfold andK
  have hb : (BitVec.ofInt IntKind.u64.bits ((m : Int) - 1)).toNat = m - 1 := by
    simp [IntKind.bits, BitVec.toNat_ofInt]
    omega
  have h : (BitVec.ofInt IntKind.u64.bits r &&& BitVec.ofInt IntKind.u64.bits ((m : Int) - 1)).toNat ≤ m - 1 := by
    rw [BitVec.toNat_and, hb]
    exact Nat.and_le_right
  exact ⟨_, wrap_id (by omega) (by omega), by omega⟩
theorem break_tot {l : List Int} {a b : Nat} (hb : b ≤ l.length) (hl : l.length ≤ 1000) (ha : a + 12 < b) :
    Tot (fun σ => F_Z5 (σ 0) l (a : Int) (b : Int)) (fun r => ∃ l' : List Int, r = ((), (l', ())) ∧ PermIn a b l.toArray l'.toArray) := by
  refine tot_Z5 ?_
  unfold B_Z5
  rw [w64n_sub (by omega) (by omega), tot_cond]
  refine ⟨fun _ => ?_, fun h => by have := of_decide_eq_false h; omega⟩
  refine (pow2_tot (by omega) (by omega)).bind ?_
  rintro _ ⟨m, rfl, hm1, hm2⟩
  have e4 : w64 (((b - a : Nat) : Int).tdiv 4) = (((b - a) / 4 : Nat) : Int) := by
    rw [Int.tdiv_eq_ediv_of_nonneg (by omega), w64_id (by omega) (by omega)]; omega
  have e5 : w64 ((((b - a) / 4 : Nat) : Int) * 2) = (((b - a) / 4 * 2 : Nat) : Int) := by rw [w64_id (by omega) (by omega)]; omega
  rw [e4, e5, w64n_add (by omega), w64n_pred (by omega) (by omega), wrap_id (by omega) (by omega)]
  have key := loop_Z5_L1 (Q := fun _ _ _ _ _ _ r => ∃ l' : List Int, r = ((), (l', ())) ∧ PermIn a b l.toArray l'.toArray) (I := fun d x y z u i => PermIn a b l.toArray d.toArray ∧ x = (a : Int) ∧ y = ((b - a : Nat) : Int) ∧ u = (m : Int) ∧ ∃ p : Nat, i = (p : Int) ∧ a ≤ p ∧ p ≤ a + (b - a) / 4 * 2 + 2) (μ := fun _ _ _ _ _ i => (2000 - i).toNat) ?_
  · exact key l a ((b - a : Nat) : Int) _ m ((a + (b - a) / 4 * 2 - 1 : Nat) : Int) ⟨permIn_refl _ _ _, rfl, rfl, rfl, _, rfl, by omega, by omega⟩
  rintro d _ _ z _ _ ⟨hp, rfl, rfl, rfl, p, rfl, h1, h2⟩ again hag ih
  have hd : d.length = l.length := by simpa using hp.1
  unfold B_Z5_L1b
  rw [e4, e5, w64n_add (by omega), w64n_succ (by omega), tot_cond]
  refine ⟨fun h => ?_, fun h => by rw [tot_some]; exact ⟨d, rfl, hp⟩⟩
  have h := of_decide_eq_true h
  refine Tot.bind (P := fun _ => True) ?_ ?_
  · refine tot_Z18 ?_
    unfold B_Z18
    rw [tot_some]; trivial
  rintro ⟨⟨v, _⟩, ⟨⟨w, _⟩, _⟩⟩ -
  obtain ⟨o, ho, hom⟩ := andK_le (r := v) hm1 (by omega)
  simp only
  rw [ho, w64_id (by omega) (by omega)]
  have j0 : ∀ q : Nat, q < b - a → Tot (fun σ => B_Z5_J0 (σ 0) (F_Z17 (σ 0)) (F_Z18 (σ 0)) (again σ) d (a : Int) ((b - a : Nat) : Int) w (m : Int) (p : Int) (q : Int)) (fun r => ∃ l' : List Int, r = ((), (l', ())) ∧ PermIn a b l.toArray l'.toArray) := by
    intro q hq
    unfold B_Z5_J0
    rw [w64n_add (by omega), w64n_succ (by omega)]
    simp only [tot_chk, inbn, decide_eq_true_eq, Int.toNat_natCast, List.length_set]
    refine ⟨by omega, by omega, by omega, by omega, by omega, by omega, by omega, by omega, ?_⟩
    exact ih _ _ _ _ _ _ ⟨permIn_trans _ _ _ a b hp (swP (by omega) (by omega) (by omega) (by omega) (by omega)), rfl, rfl, rfl, p + 1, rfl, by omega, by omega⟩ (by omega)
  rw [tot_cond]
  refine ⟨fun h => ?_, fun h => ?_⟩
  · have h := of_decide_eq_true h
    rw [tot_jn, w64n_sub (by omega) (by omega)]
    exact j0 (o - (b - a)) (by omega)
  · have h := of_decide_eq_false h
    rw [tot_jn]
    exact j0 o (by omega)
end Go.Gx

/-
  Laws, part SO3: slices.Sort: the partial insertion sort, the pivot.
-/
set_option linter.unusedVariables false
set_option linter.unusedSimpArgs false
namespace Go.Gx
open Go.Sort
def pisR (x : Array Int × Bool) : (Bool × Unit) × (List Int × Unit) := ((x.2, ()), (x.1.toList, ()))
theorem scanSorted_step {d : Array Int} {b i : Nat} (h : (decide (i < b) && !ltInt d[i]! d[i - 1]!) = true) : scanSorted ltInt d b i = scanSorted ltInt d b (i + 1) := by
  rw [scanSorted, if_pos h]
theorem scanSorted_stop {d : Array Int} {b i : Nat} (h : (decide (i < b) && !ltInt d[i]! d[i - 1]!) = false) : scanSorted ltInt d b i = i := by
  rw [scanSorted, if_neg (by rw [h]; decide)]
theorem partialIns_tot {l : List Int} {a b : Nat} (hb : b ≤ l.length) (hl : l.length ≤ 1000) (ha : a < b) :
    Tot (fun σ => F_Z2 (σ 0) l (a : Int) (b : Int)) (fun r => r = pisR (partialInsertionSort ltInt l.toArray a b)) := by
  refine tot_Z2 ?_
  unfold B_Z2
  rw [w64n_succ (by omega)]
  have key := loop_Z2_L6 (Q := fun d x y i j r => r = pisR (partialIns ltInt a b (5 - j).toNat i.toNat d.toArray)) (I := fun d x y i j => x = (a : Int) ∧ y = (b : Int) ∧ d.length = l.length ∧ (∃ p : Nat, i = (p : Int) ∧ a < p ∧ p ≤ b) ∧ ∃ q : Nat, j = (q : Int) ∧ q ≤ 5) (μ := fun _ _ _ _ j => (5 - j).toNat) ?_
  · exact key l a b ((a + 1 : Nat) : Int) 0 ⟨rfl, rfl, rfl, ⟨a + 1, rfl, by omega, by omega⟩, 0, rfl, by omega⟩
  rintro d _ _ _ _ ⟨rfl, rfl, hd, ⟨p, rfl, hp1, hp2⟩, q, rfl, hq⟩ again hag ih
  unfold B_Z2_L6b
  rw [Int.toNat_natCast, tot_cond]
  refine ⟨fun h => ?_, fun h => by
    have := of_decide_eq_false h
    rw [tot_some, show (5 - (q : Int)).toNat = 0 by omega, partialIns]; rfl⟩
  have h := of_decide_eq_true h
  obtain ⟨s, hs⟩ : ∃ s : Nat, s + 1 = 5 - q := ⟨5 - q - 1, by omega⟩
  rw [show (5 - (q : Int)).toNat = s + 1 by omega]
  have j5 : ∀ (d : List Int) (i : Nat), d.length = l.length → a < i → i ≤ b → Tot (fun σ => B_Z2_J5 (σ 0) (F_Z26 (σ 0)) (again σ) d (a : Int) (b : Int) (i : Int) (q : Int)) (fun r => r = pisR (partialIns ltInt a b s i d.toArray)) := by
    intro d i hd h1 h2
    unfold B_Z2_J5
    rw [w64n_succ (by omega)]
    have := ih d a b (i : Int) ((q + 1 : Nat) : Int) ⟨rfl, rfl, hd, ⟨i, rfl, h1, h2⟩, q + 1, rfl, by omega⟩ (by omega)
    rw [show (5 - ((q + 1 : Nat) : Int)).toNat = s by omega, Int.toNat_natCast] at this
    exact this
  have j3 : ∀ (d : List Int) (i : Nat), d.length = l.length → a < i → i < b → Tot (fun σ => B_Z2_J3 (σ 0) (F_Z26 (σ 0)) (again σ) d (a : Int) (b : Int) (i : Int) (q : Int)) (fun r => r = pisR (partialIns ltInt a b s i (fixUp ltInt b i d.toArray))) := by
    intro d i hd h1 h2
    unfold B_Z2_J3 fixUp
    rw [w64n_sub (by omega) (by omega), tot_cond]
    refine ⟨fun h => ?_, fun h => ?_⟩
    · have h := of_decide_eq_true h
      rw [if_pos (by omega), w64n_succ (by omega)]
      have key4 := loop_Z2_L4 hag (Q := fun d x y z u j r => r = pisR (partialIns ltInt a b s i (shiftUp ltInt b j.toNat d.toArray))) (I := fun d x y z u j => x = (a : Int) ∧ y = (b : Int) ∧ z = (i : Int) ∧ u = (q : Int) ∧ d.length = l.length ∧ ∃ c : Nat, j = (c : Int) ∧ 1 ≤ c ∧ c ≤ b) (μ := fun _ _ _ _ _ j => (b - j).toNat) ?_
      · have := key4 d a b i q ((i + 1 : Nat) : Int) ⟨rfl, rfl, rfl, rfl, hd, i + 1, rfl, by omega, by omega⟩
        rw [Int.toNat_natCast] at this
        exact this
      rintro d _ _ _ _ _ ⟨rfl, rfl, rfl, rfl, hd, c, rfl, hc1, hc2⟩ again4 hag4 ih4
      unfold B_Z2_L4b
      rw [Int.toNat_natCast, w64n_pred (by omega) (by omega), tot_cond]
      refine ⟨fun h => ?_, fun h => ?_⟩
      · have h := of_decide_eq_true h
        simp only [tot_chk, inbn, decide_eq_true_eq, Int.toNat_natCast, List.length_set]
        refine ⟨by omega, by omega, by omega, by omega, (less_tot _ _).bind ?_⟩
        rintro _ rfl
        rw [shiftUp, if_pos (by omega), ga, ga]
        simp only
        cases hlt : ltInt (d.getD c 0) (d.getD (c - 1) 0) with
        | false =>
          simp only [Bool.not_false, cond_true, if_true, tot_jn]
          exact j5 d i hd h1 (by omega)
        | true =>
          simp only [Bool.not_true, cond_false, Bool.false_eq_true, if_false, tot_chk, inbn, decide_eq_true_eq, Int.toNat_natCast, List.length_set]
          refine ⟨by omega, by omega, by omega, by omega, by omega, by omega, by omega, by omega, ?_⟩
          rw [w64n_succ (by omega), sw]
          have := fun (dd : List Int) (hdd : dd.length = l.length) => ih4 dd a b i q ((c + 1 : Nat) : Int) ⟨rfl, rfl, rfl, rfl, hdd, c + 1, rfl, by omega, by omega⟩ (by omega)
          simp only [Int.toNat_natCast] at this
          exact this _ (by rw [List.length_set, List.length_set]; exact hd)
      · have h := of_decide_eq_false h
        rw [tot_jn, shiftUp, if_neg (by omega)]
        exact j5 d i hd h1 (by omega)
    · have h := of_decide_eq_false h
      rw [tot_jn, if_neg (by omega)]
      exact j5 d i hd h1 (by omega)
  have key1 := loop_Z2_L1 hag (Q := fun d x y i j r => r = pisR (partialIns ltInt a b (s + 1) i.toNat d.toArray)) (I := fun d' x y i j => d' = d ∧ x = (a : Int) ∧ y = (b : Int) ∧ j = (q : Int) ∧ ∃ p : Nat, i = (p : Int) ∧ a < p ∧ p ≤ b) (μ := fun _ _ _ i _ => (b - i).toNat) ?_
  · have := key1 d a b (p : Int) q ⟨rfl, rfl, rfl, rfl, p, rfl, hp1, hp2⟩
    rw [Int.toNat_natCast] at this
    exact this
  clear hp1 hp2 p
  rintro d _ _ _ _ ⟨rfl, rfl, rfl, rfl, p, rfl, hp1, hp2⟩ again1 hag1 ih1
  unfold B_Z2_L1b
  rw [Int.toNat_natCast]
  have j0 : ∀ t : Bool, t = (decide (p < b) && !ltInt (d.getD p 0) (d.getD (p - 1) 0)) → Tot (fun σ => B_Z2_J0 (σ 0) (F_Z26 (σ 0)) (again1 σ) (again σ) d (a : Int) (b : Int) (p : Int) (q : Int) t) (fun r => r = pisR (partialIns ltInt a b (s + 1) p d.toArray)) := by
    intro t ht
    unfold B_Z2_J0
    rw [tot_cond]
    refine ⟨fun h => ?_, fun h => ?_⟩
    · rw [ht] at h
      have h2 := h
      simp only [Bool.and_eq_true, decide_eq_true_eq] at h2
      rw [w64n_succ (by omega), partialIns_succ, scanSorted_step (by rw [ga, ga]; exact h), ← partialIns_succ]
      have := ih1 d a b ((p + 1 : Nat) : Int) q ⟨rfl, rfl, rfl, rfl, p + 1, rfl, by omega, by omega⟩ (by omega)
      rw [Int.toNat_natCast] at this
      exact this
    · rw [ht] at h
      rw [partialIns_succ, scanSorted_stop (by rw [ga, ga]; exact h), tot_cond]
      refine ⟨fun he => ?_, fun he => ?_⟩
      · rw [beq_iff_eq] at he
        rw [tot_some, if_pos (by omega)]; rfl
      · have he : p ≠ b := by intro e; subst e; simp at he
        rw [if_neg he, w64n_sub (by omega) (by omega), tot_cond]
        refine ⟨fun h5 => ?_, fun h5 => ?_⟩
        · have h5 := of_decide_eq_true h5
          rw [tot_some, if_pos (by omega)]; rfl
        · have h5 := of_decide_eq_false h5
          rw [if_neg (by omega), w64n_pred (by omega) (by omega), w64n_sub (by omega) (by omega)]
          simp only [tot_chk, inbn, decide_eq_true_eq, Int.toNat_natCast, List.length_set]
          refine ⟨by omega, by omega, by omega, by omega, by omega, by omega, by omega, by omega, ?_⟩
          rw [sw]
          have hd' : ((d.set p (d.getD (p - 1) 0)).set (p - 1) (d.getD p 0)).length = l.length := by rw [List.length_set, List.length_set]; exact hd
          revert hd'
          generalize (d.set p (d.getD (p - 1) 0)).set (p - 1) (d.getD p 0) = d'
          intro hd'
          unfold fixDown
          rw [tot_cond]
          refine ⟨fun h6 => ?_, fun h6 => ?_⟩
          · have h6 := of_decide_eq_true h6
            rw [if_pos (by omega)]
            have key2 := loop_Z2_L2 hag (Q := fun d x y z u j r => r = pisR (partialIns ltInt a b s p (fixUp ltInt b p (shiftDown ltInt j.toNat d.toArray)))) (I := fun d x y z u j => x = (a : Int) ∧ y = (b : Int) ∧ z = (p : Int) ∧ u = (q : Int) ∧ d.length = l.length ∧ ∃ c : Nat, j = (c : Int) ∧ c < b) (μ := fun _ _ _ _ _ j => j.toNat) ?_
            · have := key2 d' a b p q ((p - 1 : Nat) : Int) ⟨rfl, rfl, rfl, rfl, hd', p - 1, rfl, by omega⟩
              rw [Int.toNat_natCast] at this
              exact this
            rintro d _ _ _ _ _ ⟨rfl, rfl, rfl, rfl, hd, c, rfl, hc⟩ again2 hag2 ih2
            unfold B_Z2_L2b
            rw [Int.toNat_natCast, tot_cond]
            refine ⟨fun h => ?_, fun h => ?_⟩
            · have h := of_decide_eq_true h
              obtain ⟨e, rfl⟩ : ∃ e, c = e + 1 := ⟨c - 1, by omega⟩
              rw [w64n_pred (by omega) (by omega), Nat.add_sub_cancel]
              simp only [tot_chk, inbn, decide_eq_true_eq, Int.toNat_natCast, List.length_set]
              refine ⟨by omega, by omega, by omega, by omega, (less_tot _ _).bind ?_⟩
              rintro _ rfl
              rw [shiftDown, ga, ga]
              simp only
              cases hlt : ltInt (d.getD (e + 1) 0) (d.getD e 0) with
              | false =>
                simp only [Bool.not_false, cond_true, if_true, tot_jn]
                exact j3 d p hd hp1 (by omega)
              | true =>
                simp only [Bool.not_true, cond_false, Bool.false_eq_true, if_false, tot_chk, inbn, decide_eq_true_eq, Int.toNat_natCast, List.length_set]
                refine ⟨by omega, by omega, by omega, by omega, by omega, by omega, by omega, by omega, ?_⟩
                rw [sw]
                have := fun (dd : List Int) (hdd : dd.length = l.length) => ih2 dd a b p q (e : Int) ⟨rfl, rfl, rfl, rfl, hdd, e, rfl, by omega⟩ (by omega)
                simp only [Int.toNat_natCast] at this
                exact this _ (by rw [List.length_set, List.length_set]; exact hd)
            · have h := of_decide_eq_false h
              obtain rfl : c = 0 := by omega
              rw [tot_jn, shiftDown]
              exact j3 d p hd hp1 (by omega)
          · have h6 := of_decide_eq_false h6
            rw [if_neg (by omega), tot_jn]
            exact j3 d' p hd' hp1 (by omega)
  rw [tot_cond]
  refine ⟨fun h => ?_, fun h => ?_⟩
  · have h := of_decide_eq_true h
    rw [w64n_pred (by omega) (by omega)]
    simp only [tot_chk, inbn, decide_eq_true_eq, Int.toNat_natCast, List.length_set]
    refine ⟨by omega, by omega, by omega, by omega, (less_tot _ _).bind ?_⟩
    rintro _ rfl
    rw [tot_jn]
    exact j0 _ (by rw [decide_eq_true (by omega : p < b)]; rfl)
  · have h := of_decide_eq_false h
    rw [tot_jn]
    exact j0 _ (by rw [decide_eq_false (by omega : ¬ p < b)]; rfl)

theorem order2_tot {l : List Int} {a b : Nat} (s : Int) (ha : a < l.length) (hb : b < l.length) :
    Tot (fun σ => F_Z14 (σ 0) l (a : Int) (b : Int) s) (fun r => ∃ (x y : Nat) (z : Int), r = (((x : Int), (y : Int), ()), ((z, ()), ())) ∧ (x = a ∧ y = b ∨ x = b ∧ y = a)) := by
  refine tot_Z14 ?_
  unfold B_Z14
  simp only [tot_chk, inbn]
  refine ⟨hb, ha, (less_tot _ _).bind ?_⟩
  rintro _ rfl
  rw [tot_cond]
  refine ⟨fun _ => ?_, fun _ => ?_⟩
  · rw [tot_some]; exact ⟨b, a, _, rfl, Or.inr ⟨rfl, rfl⟩⟩
  · rw [tot_some]; exact ⟨a, b, _, rfl, Or.inl ⟨rfl, rfl⟩⟩
theorem median_tot {l : List Int} {a b c : Nat} (s : Int) (ha : a < l.length) (hb : b < l.length) (hc : c < l.length) :
    Tot (fun σ => F_Z15 (σ 0) l (a : Int) (b : Int) (c : Int) s) (fun r => ∃ (x : Nat) (z : Int), r = (((x : Int), ()), ((z, ()), ())) ∧ (x = a ∨ x = b ∨ x = c)) := by
  refine tot_Z15 ?_
  unfold B_Z15
  refine (order2_tot s ha hb).bind ?_
  rintro _ ⟨x, y, z, rfl, h1⟩
  refine (order2_tot (a := y) (b := c) z (by omega) hc).bind ?_
  rintro _ ⟨x2, y2, z2, rfl, h2⟩
  refine (order2_tot (a := x) (b := x2) z2 (by omega) (by omega)).bind ?_
  rintro _ ⟨x3, y3, z3, rfl, h3⟩
  rw [tot_some]
  exact ⟨y3, z3, rfl, by omega⟩
theorem medianAdj_tot {l : List Int} {a : Nat} (s : Int) (h1 : 1 ≤ a) (ha : a + 1 < l.length) (hl : l.length ≤ 1000) :
    Tot (fun σ => F_Z4 (σ 0) l (a : Int) s) (fun r => ∃ (x : Nat) (z : Int), r = (((x : Int), ()), ((z, ()), ())) ∧ (x = a - 1 ∨ x = a ∨ x = a + 1)) := by
  refine tot_Z4 ?_
  unfold B_Z4
  rw [w64n_pred h1 (by omega), w64n_succ (by omega)]
  refine (median_tot s (by omega) (by omega) ha).bind ?_
  rintro _ ⟨x, z, rfl, h⟩
  rw [tot_some]
  exact ⟨x, z, rfl, h⟩
theorem pivot_tot {l : List Int} {a b : Nat} (hb : b ≤ l.length) (hl : l.length ≤ 1000) (ha : a + 12 < b) :
    Tot (fun σ => F_Z8 (σ 0) l (a : Int) (b : Int)) (fun r => ∃ (p : Nat) (h : Int), r = (((p : Int), h, ()), ()) ∧ a ≤ p ∧ p < b) := by
  refine tot_Z8 ?_
  unfold B_Z8
  have e4 : w64 (((b - a : Nat) : Int).tdiv 4) = (((b - a) / 4 : Nat) : Int) := by
    rw [Int.tdiv_eq_ediv_of_nonneg (by omega), w64_id (by omega) (by omega)]; omega
  have e1 : w64 ((((b - a) / 4 : Nat) : Int) * 1) = (((b - a) / 4 : Nat) : Int) := by rw [w64_id (by omega) (by omega)]; omega
  have e2 : w64 ((((b - a) / 4 : Nat) : Int) * 2) = (((b - a) / 4 * 2 : Nat) : Int) := by rw [w64_id (by omega) (by omega)]; omega
  have e3 : w64 ((((b - a) / 4 : Nat) : Int) * 3) = (((b - a) / 4 * 3 : Nat) : Int) := by rw [w64_id (by omega) (by omega)]; omega
  rw [w64n_sub (by omega) (by omega), e4, e1, e2, e3, w64n_add (by omega), w64n_add (by omega), w64n_add (by omega)]
  have j0 : ∀ (i j k : Nat) (s : Int), a ≤ i → i < b → a ≤ j → j < b → a ≤ k → k < b → Tot (fun σ => B_Z8_J0 (σ 0) (F_Z4 (σ 0)) (F_Z15 (σ 0)) l s (i : Int) (j : Int) (k : Int)) (fun r => ∃ (p : Nat) (h : Int), r = (((p : Int), h, ()), ()) ∧ a ≤ p ∧ p < b) := by
    intro i j k s h1 h2 h3 h4 h5 h6
    unfold B_Z8_J0
    refine (median_tot s (by omega) (by omega) (by omega)).bind ?_
    rintro _ ⟨x, z, rfl, h⟩
    rw [tot_jn]
    unfold B_Z8_J1
    simp only [tot_cond, tot_some]
    exact ⟨fun _ => ⟨x, _, rfl, by omega, by omega⟩, fun _ => ⟨fun _ => ⟨x, _, rfl, by omega, by omega⟩, fun _ => ⟨x, _, rfl, by omega, by omega⟩⟩⟩
  rw [tot_cond]
  refine ⟨fun _ => ?_, fun h => by have := of_decide_eq_false h; omega⟩
  rw [tot_cond]
  refine ⟨fun h => ?_, fun h => ?_⟩
  · have h := of_decide_eq_true h
    refine (medianAdj_tot 0 (by omega) (by omega) hl).bind ?_
    rintro _ ⟨x1, z1, rfl, h1⟩
    refine (medianAdj_tot z1 (by omega) (by omega) hl).bind ?_
    rintro _ ⟨x2, z2, rfl, h2⟩
    refine (medianAdj_tot z2 (by omega) (by omega) hl).bind ?_
    rintro _ ⟨x3, z3, rfl, h3⟩
    rw [tot_jn]
    exact j0 x1 x2 x3 _ (by omega) (by omega) (by omega) (by omega) (by omega) (by omega)
  · rw [tot_jn]
    exact j0 _ _ _ _ (by omega) (by omega) (by omega) (by omega) (by omega) (by omega)
end Go.Gx

/-
  Laws, part SO4: slices.Sort: the partitions.
-/
set_option linter.unusedVariables false
set_option linter.unusedSimpArgs false
namespace Go.Gx
open Go.Sort
theorem scanUp_step {p : Int → Bool} {d : Array Int} {j i : Nat} (h : (decide (i ≤ j) && p d[i]!) = true) : scanUp p d j i = scanUp p d j (i + 1) := by
  rw [scanUp, if_pos h]
theorem scanUp_stop {p : Int → Bool} {d : Array Int} {j i : Nat} (h : (decide (i ≤ j) && p d[i]!) = false) : scanUp p d j i = i := by
  rw [scanUp, if_neg (by rw [h]; decide)]
theorem scanDown_step {p : Int → Bool} {d : Array Int} {j i : Nat} (h : (decide (i ≤ j + 1) && p d[j + 1]!) = true) : scanDown p d i (j + 1) = scanDown p d i j := by
  rw [scanDown, if_pos h]
theorem scanDown_stop {p : Int → Bool} {d : Array Int} {j i : Nat} (hi : 0 < i) (h : (decide (i ≤ j) && p d[j]!) = false) : scanDown p d i j = j := by
  cases j with
  | zero => rw [scanDown]
  | succ j => rw [scanDown, if_neg (by rw [h]; decide)]

def peqR (x : Nat × Array Int) : (Int × Unit) × (List Int × Unit) := (((x.1 : Int), ()), (x.2.toList, ()))
/-- What is left after the upward scan; after both. -/
def peqC (a i j : Nat) (d : Array Int) : Nat × Array Int := if i > j then (i, d) else partEqLoop ltInt a (i + 1) (j - 1) (swp d i j)
theorem peq_eq (a i j : Nat) (d : Array Int) : partEqLoop ltInt a i j d = peqC a (scanUp (fun x => !ltInt d[a]! x) d j i) (scanDown (fun x => ltInt d[a]! x) d (scanUp (fun x => !ltInt d[a]! x) d j i) j) d := partEqLoop_eq ltInt a i j d
theorem partEq_tot {l : List Int} {a b pivot : Nat} (hb : b ≤ l.length) (hl : l.length ≤ 1000) (h1 : a ≤ pivot) (h2 : pivot < b) :
    Tot (fun σ => F_Z3 (σ 0) l (a : Int) (b : Int) (pivot : Int)) (fun r => r = peqR (partitionEqual ltInt l.toArray a b pivot)) := by
  refine tot_Z3 ?_
  unfold B_Z3
  rw [w64n_succ (by omega), w64n_pred (by omega) (by omega)]
  simp only [tot_chk, inbn, decide_eq_true_eq, Int.toNat_natCast, List.length_set]
  refine ⟨by omega, by omega, by omega, by omega, by omega, by omega, by omega, by omega, ?_⟩
  unfold partitionEqual
  rw [sw]
  have hd' : ((l.set a (l.getD pivot 0)).set pivot (l.getD a 0)).length = l.length := by rw [List.length_set, List.length_set]
  revert hd'
  generalize (l.set a (l.getD pivot 0)).set pivot (l.getD a 0) = d'
  intro hd'
  have key := loop_Z3_L4 (Q := fun d x i j r => r = peqR (partEqLoop ltInt a i.toNat j.toNat d.toArray)) (I := fun d x i j => x = (a : Int) ∧ d.length = l.length ∧ ∃ p q : Nat, i = (p : Int) ∧ j = (q : Int) ∧ a < p ∧ p ≤ 2000 - q ∧ q < b) (μ := fun _ _ i j => (2000 + j - i).toNat) ?_
  · have := key d' a ((a + 1 : Nat) : Int) ((b - 1 : Nat) : Int) ⟨rfl, hd', a + 1, b - 1, rfl, rfl, by omega, by omega, by omega⟩
    rw [Int.toNat_natCast, Int.toNat_natCast] at this
    exact this
  rintro d _ _ _ ⟨rfl, hd, p, q, rfl, rfl, h3, h4, h5⟩ again hag ih
  unfold B_Z3_L4b
  rw [Int.toNat_natCast, Int.toNat_natCast]
  -- what both scans come to
  have c3 : ∀ i : Nat, p ≤ i → i ≤ q + 1 ∨ i = p → Tot (fun σ => B_Z3_L3 (σ 0) (F_Z26 (σ 0)) (again σ) (σ 0) (d, (a : Int), (i : Int), (q : Int), ())) (fun r => r = peqR (peqC a i (scanDown (fun x => ltInt d.toArray[a]! x) d.toArray i q) d.toArray)) := by
    intro i hi1 hi2
    have key3 := loop_Z3_L3 hag (Q := fun d' x i' j r => r = peqR (peqC a i (scanDown (fun x => ltInt d.toArray[a]! x) d.toArray i j.toNat) d.toArray)) (I := fun d' x i' j => d' = d ∧ x = (a : Int) ∧ i' = (i : Int) ∧ ∃ c : Nat, j = (c : Int) ∧ c ≤ q) (μ := fun _ _ _ j => j.toNat) ?_
    · have := key3 d a i (q : Int) ⟨rfl, rfl, rfl, q, rfl, Nat.le_refl _⟩
      rw [Int.toNat_natCast] at this
      exact this
    rintro d _ _ _ ⟨rfl, rfl, rfl, c, rfl, hc⟩ again3 hag3 ih3
    unfold B_Z3_L3b
    rw [Int.toNat_natCast]
    have j2 : ∀ t : Bool, t = (decide (i ≤ c) && ltInt (d.getD a 0) (d.getD c 0)) → Tot (fun σ => B_Z3_J2 (σ 0) (F_Z26 (σ 0)) (again3 σ) (again σ) d (a : Int) (i : Int) (c : Int) t) (fun r => r = peqR (peqC a i (scanDown (fun x => ltInt d.toArray[a]! x) d.toArray i c) d.toArray)) := by
      intro t ht
      unfold B_Z3_J2
      rw [tot_cond]
      refine ⟨fun h => ?_, fun h => ?_⟩
      · rw [ht] at h
        have h6 := h
        simp only [Bool.and_eq_true, decide_eq_true_eq] at h6
        obtain ⟨e, rfl⟩ : ∃ e, c = e + 1 := ⟨c - 1, by omega⟩
        rw [w64n_pred (by omega) (by omega), Nat.add_sub_cancel, scanDown_step (by simp only [ga]; exact h)]
        have := ih3 d a i (e : Int) ⟨rfl, rfl, rfl, e, rfl, by omega⟩ (by omega)
        rw [Int.toNat_natCast] at this
        exact this
      · rw [ht] at h
        rw [scanDown_stop (by omega) (by simp only [ga]; exact h), tot_cond]
        unfold peqC
        refine ⟨fun h6 => ?_, fun h6 => ?_⟩
        · have h6 := of_decide_eq_true h6
          rw [tot_some, if_pos (by omega)]; rfl
        · have h6 := of_decide_eq_false h6
          rw [if_neg (by omega)]
          simp only [tot_chk, inbn, decide_eq_true_eq, Int.toNat_natCast, List.length_set]
          refine ⟨by omega, by omega, by omega, by omega, by omega, by omega, by omega, by omega, ?_⟩
          rw [w64n_succ (by omega), w64n_pred (by omega) (by omega), sw]
          have := fun (dd : List Int) (hdd : dd.length = l.length) => ih dd a ((i + 1 : Nat) : Int) ((c - 1 : Nat) : Int) ⟨rfl, hdd, i + 1, c - 1, rfl, rfl, by omega, by omega, by omega⟩ (by omega)
          simp only [Int.toNat_natCast] at this
          exact this _ (by rw [List.length_set, List.length_set]; exact hd)
    rw [tot_cond]
    refine ⟨fun h => ?_, fun h => ?_⟩
    · have h := of_decide_eq_true h
      simp only [tot_chk, inbn, decide_eq_true_eq, Int.toNat_natCast, List.length_set]
      refine ⟨by omega, by omega, by omega, by omega, (less_tot _ _).bind ?_⟩
      rintro _ rfl
      rw [tot_jn]
      exact j2 _ (by rw [decide_eq_true (by omega : i ≤ c)]; rfl)
    · have h := of_decide_eq_false h
      rw [tot_jn]
      exact j2 _ (by rw [decide_eq_false (by omega : ¬ i ≤ c)]; rfl)
  rw [peq_eq]
  have key1 := loop_Z3_L1 hag (Q := fun d' x i j r => r = peqR (peqC a (scanUp (fun x => !ltInt d.toArray[a]! x) d.toArray q i.toNat) (scanDown (fun x => ltInt d.toArray[a]! x) d.toArray (scanUp (fun x => !ltInt d.toArray[a]! x) d.toArray q i.toNat) q) d.toArray)) (I := fun d' x i' j => d' = d ∧ x = (a : Int) ∧ j = (q : Int) ∧ ∃ i : Nat, i' = (i : Int) ∧ p ≤ i ∧ (i ≤ q + 1 ∨ i = p)) (μ := fun _ _ i _ => (3000 - i).toNat) ?_
  · have := key1 d a (p : Int) q ⟨rfl, rfl, rfl, p, rfl, Nat.le_refl _, Or.inr rfl⟩
    rw [Int.toNat_natCast] at this
    exact this
  rintro d _ _ _ ⟨rfl, rfl, rfl, i, rfl, hi1, hi2⟩ again1 hag1 ih1
  unfold B_Z3_L1b
  rw [Int.toNat_natCast]
  have j0 : ∀ t : Bool, t = (decide (i ≤ q) && !ltInt (d.getD a 0) (d.getD i 0)) → Tot (fun σ => B_Z3_J0 (σ 0) (F_Z26 (σ 0)) (again1 σ) (again σ) d (a : Int) (i : Int) (q : Int) t) (fun r => r = peqR (peqC a (scanUp (fun x => !ltInt d.toArray[a]! x) d.toArray q i) (scanDown (fun x => ltInt d.toArray[a]! x) d.toArray (scanUp (fun x => !ltInt d.toArray[a]! x) d.toArray q i) q) d.toArray)) := by
    intro t ht
    unfold B_Z3_J0
    rw [tot_cond]
    refine ⟨fun h => ?_, fun h => ?_⟩
    · rw [ht] at h
      have h6 := h
      simp only [Bool.and_eq_true, decide_eq_true_eq] at h6
      rw [w64n_succ (by omega), scanUp_step (by simp only [ga]; exact h)]
      have := ih1 d a ((i + 1 : Nat) : Int) q ⟨rfl, rfl, rfl, i + 1, rfl, by omega, by omega⟩ (by omega)
      rw [Int.toNat_natCast] at this
      exact this
    · rw [ht] at h
      rw [scanUp_stop (by simp only [ga]; exact h)]
      exact c3 i hi1 hi2
  rw [tot_cond]
  refine ⟨fun h => ?_, fun h => ?_⟩
  · have h := of_decide_eq_true h
    simp only [tot_chk, inbn, decide_eq_true_eq, Int.toNat_natCast, List.length_set]
    refine ⟨by omega, by omega, by omega, by omega, (less_tot _ _).bind ?_⟩
    rintro _ rfl
    rw [tot_jn]
    exact j0 _ (by rw [decide_eq_true (by omega : i ≤ q)]; rfl)
  · have h := of_decide_eq_false h
    rw [tot_jn]
    exact j0 _ (by rw [decide_eq_false (by omega : ¬ i ≤ q)]; rfl)
end Go.Gx

/-
  Laws, part SO5: slices.Sort: the other partition.
-/
set_option linter.unusedVariables false
set_option linter.unusedSimpArgs false
namespace Go.Gx
open Go.Sort
def parR (x : Nat × Bool × Array Int) : (Int × Bool × Unit) × (List Int × Unit) := (((x.1 : Int), x.2.1, ()), (x.2.2.toList, ()))
def parE (a : Nat) (x : Nat × Array Int) : Nat × Bool × Array Int := (x.1, false, swp x.2 x.1 a)
def parC (a i j : Nat) (d : Array Int) : Nat × Array Int := if i > j then (j, d) else partLoop ltInt a (i + 1) (j - 1) (swp d i j)
def parC1 (a i j : Nat) (d : Array Int) : Nat × Bool × Array Int := if i > j then (j, true, swp d j a) else parE a (partLoop ltInt a (i + 1) (j - 1) (swp d i j))
theorem par_eq (a i j : Nat) (d : Array Int) : partLoop ltInt a i j d = parC a (scanUp (fun x => ltInt x d[a]!) d j i) (scanDown (fun x => !ltInt x d[a]!) d (scanUp (fun x => ltInt x d[a]!) d j i) j) d := partLoop_eq ltInt a i j d
theorem partition_tot {l : List Int} {a b pivot : Nat} (hb : b ≤ l.length) (hl : l.length ≤ 1000) (h1 : a ≤ pivot) (h2 : pivot < b) :
    Tot (fun σ => F_Z9 (σ 0) l (a : Int) (b : Int) (pivot : Int)) (fun r => r = parR (partition ltInt l.toArray a b pivot)) := by
  refine tot_Z9 ?_
  unfold B_Z9
  rw [w64n_succ (by omega), w64n_pred (by omega) (by omega)]
  simp only [tot_chk, inbn, decide_eq_true_eq, Int.toNat_natCast, List.length_set]
  refine ⟨by omega, by omega, by omega, by omega, by omega, by omega, by omega, by omega, ?_⟩
  have e0 : partition ltInt l.toArray a b pivot = parC1 a (scanUp (fun x => ltInt x (swp l.toArray a pivot)[a]!) (swp l.toArray a pivot) (b - 1) (a + 1)) (scanDown (fun x => !ltInt x (swp l.toArray a pivot)[a]!) (swp l.toArray a pivot) (scanUp (fun x => ltInt x (swp l.toArray a pivot)[a]!) (swp l.toArray a pivot) (b - 1) (a + 1)) (b - 1)) (swp l.toArray a pivot) := rfl
  rw [e0, sw]
  have hd' : ((l.set a (l.getD pivot 0)).set pivot (l.getD a 0)).length = l.length := by rw [List.length_set, List.length_set]
  revert hd'
  generalize (l.set a (l.getD pivot 0)).set pivot (l.getD a 0) = d'
  intro hd'
  -- the second loop
  have rest : ∀ (d : List Int) (p q : Nat), d.length = l.length → a < p → p ≤ 2000 - q → q < b → Tot (fun σ => B_Z9_L8 (σ 0) (F_Z26 (σ 0)) (σ 0) (d, (a : Int), (p : Int), (q : Int), ())) (fun r => r = parR (parE a (partLoop ltInt a p q d.toArray))) := by
    intro d p q hd h3 h4 h5
    have key := loop_Z9_L8 (Q := fun d x i j r => r = parR (parE a (partLoop ltInt a i.toNat j.toNat d.toArray))) (I := fun d x i j => x = (a : Int) ∧ d.length = l.length ∧ ∃ p q : Nat, i = (p : Int) ∧ j = (q : Int) ∧ a < p ∧ p ≤ 2000 - q ∧ q < b) (μ := fun _ _ i j => (2000 + j - i).toNat) ?_
    · have := key d a p q ⟨rfl, hd, p, q, rfl, rfl, h3, h4, h5⟩
      rw [Int.toNat_natCast, Int.toNat_natCast] at this
      exact this
    clear h3 h4 h5 hd d p q
    rintro d _ _ _ ⟨rfl, hd, p, q, rfl, rfl, h3, h4, h5⟩ again hag ih
    unfold B_Z9_L8b
    rw [Int.toNat_natCast, Int.toNat_natCast]
    have c3 : ∀ i : Nat, p ≤ i → i ≤ q + 1 ∨ i = p → Tot (fun σ => B_Z9_L7 (σ 0) (F_Z26 (σ 0)) (again σ) (σ 0) (d, (a : Int), (i : Int), (q : Int), ())) (fun r => r = parR (parE a (parC a i (scanDown (fun x => !ltInt x d.toArray[a]!) d.toArray i q) d.toArray))) := by
      intro i hi1 hi2
      have key3 := loop_Z9_L7 hag (Q := fun d' x i' j r => r = parR (parE a (parC a i (scanDown (fun x => !ltInt x d.toArray[a]!) d.toArray i j.toNat) d.toArray))) (I := fun d' x i' j => d' = d ∧ x = (a : Int) ∧ i' = (i : Int) ∧ ∃ c : Nat, j = (c : Int) ∧ c ≤ q) (μ := fun _ _ _ j => j.toNat) ?_
      · have := key3 d a i (q : Int) ⟨rfl, rfl, rfl, q, rfl, Nat.le_refl _⟩
        rw [Int.toNat_natCast] at this
        exact this
      rintro d _ _ _ ⟨rfl, rfl, rfl, c, rfl, hc⟩ again3 hag3 ih3
      unfold B_Z9_L7b
      rw [Int.toNat_natCast]
      have j2 : ∀ t : Bool, t = (decide (i ≤ c) && !ltInt (d.getD c 0) (d.getD a 0)) → Tot (fun σ => B_Z9_J6 (σ 0) (F_Z26 (σ 0)) (again3 σ) (again σ) d (a : Int) (i : Int) (c : Int) t) (fun r => r = parR (parE a (parC a i (scanDown (fun x => !ltInt x d.toArray[a]!) d.toArray i c) d.toArray))) := by
        intro t ht
        unfold B_Z9_J6
        rw [tot_cond]
        refine ⟨fun h => ?_, fun h => ?_⟩
        · rw [ht] at h
          have h6 := h
          simp only [Bool.and_eq_true, decide_eq_true_eq] at h6
          obtain ⟨e, rfl⟩ : ∃ e, c = e + 1 := ⟨c - 1, by omega⟩
          rw [w64n_pred (by omega) (by omega), Nat.add_sub_cancel, scanDown_step (by simp only [ga]; exact h)]
          have := ih3 d a i (e : Int) ⟨rfl, rfl, rfl, e, rfl, by omega⟩ (by omega)
          rw [Int.toNat_natCast] at this
          exact this
        · rw [ht] at h
          rw [scanDown_stop (by omega) (by simp only [ga]; exact h), tot_cond]
          unfold parC
          refine ⟨fun h6 => ?_, fun h6 => ?_⟩
          · have h6 := of_decide_eq_true h6
            rw [if_pos (by omega)]
            simp only [tot_chk, inbn, decide_eq_true_eq, Int.toNat_natCast, List.length_set]
            refine ⟨by omega, by omega, by omega, by omega, by omega, by omega, by omega, by omega, ?_⟩
            rw [tot_some]
            unfold parE
            rw [sw]; rfl
          · have h6 := of_decide_eq_false h6
            rw [if_neg (by omega)]
            simp only [tot_chk, inbn, decide_eq_true_eq, Int.toNat_natCast, List.length_set]
            refine ⟨by omega, by omega, by omega, by omega, by omega, by omega, by omega, by omega, ?_⟩
            rw [w64n_succ (by omega), w64n_pred (by omega) (by omega), sw]
            have := fun (dd : List Int) (hdd : dd.length = l.length) => ih dd a ((i + 1 : Nat) : Int) ((c - 1 : Nat) : Int) ⟨rfl, hdd, i + 1, c - 1, rfl, rfl, by omega, by omega, by omega⟩ (by omega)
            simp only [Int.toNat_natCast] at this
            exact this _ (by rw [List.length_set, List.length_set]; exact hd)
      rw [tot_cond]
      refine ⟨fun h => ?_, fun h => ?_⟩
      · have h := of_decide_eq_true h
        simp only [tot_chk, inbn, decide_eq_true_eq, Int.toNat_natCast, List.length_set]
        refine ⟨by omega, by omega, by omega, by omega, (less_tot _ _).bind ?_⟩
        rintro _ rfl
        rw [tot_jn]
        exact j2 _ (by rw [decide_eq_true (by omega : i ≤ c)]; rfl)
      · have h := of_decide_eq_false h
        rw [tot_jn]
        exact j2 _ (by rw [decide_eq_false (by omega : ¬ i ≤ c)]; rfl)
    rw [par_eq]
    have key1 := loop_Z9_L5 hag (Q := fun d' x i j r => r = parR (parE a (parC a (scanUp (fun x => ltInt x d.toArray[a]!) d.toArray q i.toNat) (scanDown (fun x => !ltInt x d.toArray[a]!) d.toArray (scanUp (fun x => ltInt x d.toArray[a]!) d.toArray q i.toNat) q) d.toArray))) (I := fun d' x i' j => d' = d ∧ x = (a : Int) ∧ j = (q : Int) ∧ ∃ i : Nat, i' = (i : Int) ∧ p ≤ i ∧ (i ≤ q + 1 ∨ i = p)) (μ := fun _ _ i _ => (3000 - i).toNat) ?_
    · have := key1 d a (p : Int) q ⟨rfl, rfl, rfl, p, rfl, Nat.le_refl _, Or.inr rfl⟩
      rw [Int.toNat_natCast] at this
      exact this
    rintro d _ _ _ ⟨rfl, rfl, rfl, i, rfl, hi1, hi2⟩ again1 hag1 ih1
    unfold B_Z9_L5b
    rw [Int.toNat_natCast]
    have j0 : ∀ t : Bool, t = (decide (i ≤ q) && ltInt (d.getD i 0) (d.getD a 0)) → Tot (fun σ => B_Z9_J4 (σ 0) (F_Z26 (σ 0)) (again1 σ) (again σ) d (a : Int) (i : Int) (q : Int) t) (fun r => r = parR (parE a (parC a (scanUp (fun x => ltInt x d.toArray[a]!) d.toArray q i) (scanDown (fun x => !ltInt x d.toArray[a]!) d.toArray (scanUp (fun x => ltInt x d.toArray[a]!) d.toArray q i) q) d.toArray))) := by
      intro t ht
      unfold B_Z9_J4
      rw [tot_cond]
      refine ⟨fun h => ?_, fun h => ?_⟩
      · rw [ht] at h
        have h6 := h
        simp only [Bool.and_eq_true, decide_eq_true_eq] at h6
        rw [w64n_succ (by omega), scanUp_step (by simp only [ga]; exact h)]
        have := ih1 d a ((i + 1 : Nat) : Int) q ⟨rfl, rfl, rfl, i + 1, rfl, by omega, by omega⟩ (by omega)
        rw [Int.toNat_natCast] at this
        exact this
      · rw [ht] at h
        rw [scanUp_stop (by simp only [ga]; exact h)]
        exact c3 i hi1 hi2
    rw [tot_cond]
    refine ⟨fun h => ?_, fun h => ?_⟩
    · have h := of_decide_eq_true h
      simp only [tot_chk, inbn, decide_eq_true_eq, Int.toNat_natCast, List.length_set]
      refine ⟨by omega, by omega, by omega, by omega, (less_tot _ _).bind ?_⟩
      rintro _ rfl
      rw [tot_jn]
      exact j0 _ (by rw [decide_eq_true (by omega : i ≤ q)]; rfl)
    · have h := of_decide_eq_false h
      rw [tot_jn]
      exact j0 _ (by rw [decide_eq_false (by omega : ¬ i ≤ q)]; rfl)
  -- the first round
  obtain ⟨q, hq⟩ : ∃ q, q = b - 1 := ⟨_, rfl⟩
  rw [← hq]
  have c3 : ∀ i : Nat, a + 1 ≤ i → i ≤ q + 1 ∨ i = a + 1 → Tot (fun σ => B_Z9_L3 (σ 0) (F_Z26 (σ 0)) (σ 0) (d', (a : Int), (i : Int), (q : Int), ())) (fun r => r = parR (parC1 a i (scanDown (fun x => !ltInt x d'.toArray[a]!) d'.toArray i q) d'.toArray)) := by
    intro i hi1 hi2
    have key3 := loop_Z9_L3 (Q := fun d x i' j r => r = parR (parC1 a i (scanDown (fun x => !ltInt x d'.toArray[a]!) d'.toArray i j.toNat) d'.toArray)) (I := fun d x i' j => d = d' ∧ x = (a : Int) ∧ i' = (i : Int) ∧ ∃ c : Nat, j = (c : Int) ∧ c ≤ q) (μ := fun _ _ _ j => j.toNat) ?_
    · have := key3 d' a i (q : Int) ⟨rfl, rfl, rfl, q, rfl, Nat.le_refl _⟩
      rw [Int.toNat_natCast] at this
      exact this
    rintro d _ _ _ ⟨rfl, rfl, rfl, c, rfl, hc⟩ again3 hag3 ih3
    unfold B_Z9_L3b
    rw [Int.toNat_natCast]
    have j2 : ∀ t : Bool, t = (decide (i ≤ c) && !ltInt (d.getD c 0) (d.getD a 0)) → Tot (fun σ => B_Z9_J2 (σ 0) (F_Z26 (σ 0)) (again3 σ) d (a : Int) (i : Int) (c : Int) t) (fun r => r = parR (parC1 a i (scanDown (fun x => !ltInt x d.toArray[a]!) d.toArray i c) d.toArray)) := by
      intro t ht
      unfold B_Z9_J2
      rw [tot_cond]
      refine ⟨fun h => ?_, fun h => ?_⟩
      · rw [ht] at h
        have h6 := h
        simp only [Bool.and_eq_true, decide_eq_true_eq] at h6
        obtain ⟨e, rfl⟩ : ∃ e, c = e + 1 := ⟨c - 1, by omega⟩
        rw [w64n_pred (by omega) (by omega), Nat.add_sub_cancel, scanDown_step (by simp only [ga]; exact h)]
        have := ih3 d a i (e : Int) ⟨rfl, rfl, rfl, e, rfl, by omega⟩ (by omega)
        rw [Int.toNat_natCast] at this
        exact this
      · rw [ht] at h
        rw [scanDown_stop (by omega) (by simp only [ga]; exact h), tot_cond]
        unfold parC1
        refine ⟨fun h6 => ?_, fun h6 => ?_⟩
        · have h6 := of_decide_eq_true h6
          rw [if_pos (by omega)]
          simp only [tot_chk, inbn, decide_eq_true_eq, Int.toNat_natCast, List.length_set]
          refine ⟨by omega, by omega, by omega, by omega, by omega, by omega, by omega, by omega, ?_⟩
          rw [tot_some, sw]; rfl
        · have h6 := of_decide_eq_false h6
          rw [if_neg (by omega)]
          simp only [tot_chk, inbn, decide_eq_true_eq, Int.toNat_natCast, List.length_set]
          refine ⟨by omega, by omega, by omega, by omega, by omega, by omega, by omega, by omega, ?_⟩
          rw [w64n_succ (by omega), w64n_pred (by omega) (by omega), sw]
          exact rest _ _ _ (by rw [List.length_set, List.length_set]; exact hd') (by omega) (by omega) (by omega)
    rw [tot_cond]
    refine ⟨fun h => ?_, fun h => ?_⟩
    · have h := of_decide_eq_true h
      simp only [tot_chk, inbn, decide_eq_true_eq, Int.toNat_natCast, List.length_set]
      refine ⟨by omega, by omega, by omega, by omega, (less_tot _ _).bind ?_⟩
      rintro _ rfl
      rw [tot_jn]
      exact j2 _ (by rw [decide_eq_true (by omega : i ≤ c)]; rfl)
    · have h := of_decide_eq_false h
      rw [tot_jn]
      exact j2 _ (by rw [decide_eq_false (by omega : ¬ i ≤ c)]; rfl)
  have key1 := loop_Z9_L1 (Q := fun d x i j r => r = parR (parC1 a (scanUp (fun x => ltInt x d'.toArray[a]!) d'.toArray q i.toNat) (scanDown (fun x => !ltInt x d'.toArray[a]!) d'.toArray (scanUp (fun x => ltInt x d'.toArray[a]!) d'.toArray q i.toNat) q) d'.toArray)) (I := fun d x i' j => d = d' ∧ x = (a : Int) ∧ j = (q : Int) ∧ ∃ i : Nat, i' = (i : Int) ∧ a + 1 ≤ i ∧ (i ≤ q + 1 ∨ i = a + 1)) (μ := fun _ _ i _ => (3000 - i).toNat) ?_
  · have := key1 d' a ((a + 1 : Nat) : Int) q ⟨rfl, rfl, rfl, a + 1, rfl, Nat.le_refl _, Or.inr rfl⟩
    rw [Int.toNat_natCast] at this
    exact this
  rintro d _ _ _ ⟨rfl, rfl, rfl, i, rfl, hi1, hi2⟩ again1 hag1 ih1
  unfold B_Z9_L1b
  rw [Int.toNat_natCast]
  have j0 : ∀ t : Bool, t = (decide (i ≤ q) && ltInt (d.getD i 0) (d.getD a 0)) → Tot (fun σ => B_Z9_J0 (σ 0) (F_Z26 (σ 0)) (again1 σ) d (a : Int) (i : Int) (q : Int) t) (fun r => r = parR (parC1 a (scanUp (fun x => ltInt x d.toArray[a]!) d.toArray q i) (scanDown (fun x => !ltInt x d.toArray[a]!) d.toArray (scanUp (fun x => ltInt x d.toArray[a]!) d.toArray q i) q) d.toArray)) := by
    intro t ht
    unfold B_Z9_J0
    rw [tot_cond]
    refine ⟨fun h => ?_, fun h => ?_⟩
    · rw [ht] at h
      have h6 := h
      simp only [Bool.and_eq_true, decide_eq_true_eq] at h6
      rw [w64n_succ (by omega), scanUp_step (by simp only [ga]; exact h)]
      have := ih1 d a ((i + 1 : Nat) : Int) q ⟨rfl, rfl, rfl, i + 1, rfl, by omega, by omega⟩ (by omega)
      rw [Int.toNat_natCast] at this
      exact this
    · rw [ht] at h
      rw [scanUp_stop (by simp only [ga]; exact h)]
      exact c3 i hi1 hi2
  rw [tot_cond]
  refine ⟨fun h => ?_, fun h => ?_⟩
  · have h := of_decide_eq_true h
    simp only [tot_chk, inbn, decide_eq_true_eq, Int.toNat_natCast, List.length_set]
    refine ⟨by omega, by omega, by omega, by omega, (less_tot _ _).bind ?_⟩
    rintro _ rfl
    rw [tot_jn]
    exact j0 _ (by rw [decide_eq_true (by omega : i ≤ q)]; rfl)
  · have h := of_decide_eq_false h
    rw [tot_jn]
    exact j0 _ (by rw [decide_eq_false (by omega : ¬ i ≤ q)]; rfl)
end Go.Gx

/-
  Laws, part SO6: slices.Sort sorts.
-/
set_option linter.unusedVariables false
set_option linter.unusedSimpArgs false
namespace Go.Gx
open Go.Sort
/-- A sorted permutation of the part. -/
def SrtR (a b : Nat) (l : List Int) (r : Unit × (List Int × Unit)) : Prop := ∃ l' : List Int, r = ((), (l', ())) ∧ PermIn a b l.toArray l'.toArray ∧ SortedIn ltInt a b l'.toArray
theorem pdq_tot : ∀ (n : Nat) {l : List Int} {a b : Nat} (limit : Int), b - a ≤ n → a ≤ b → b ≤ l.length → l.length ≤ 1000 → Below ltInt a b l.toArray →
    Tot (fun σ => F_Z12 (σ 0) l (a : Int) (b : Int) limit) (SrtR a b l) := by
  intro n
  induction n using Nat.strongRecOn with
  | ind n IH =>
  intro l a b limit hn hab hb hl hB
  refine tot_Z12 ?_
  unfold B_Z12
  have key := loop_Z12_L5 (Q := fun d x y z u v => SrtR x.toNat y.toNat d) (I := fun d x y z u v => d.length = l.length ∧ ∃ a b : Nat, x = (a : Int) ∧ y = (b : Int) ∧ a ≤ b ∧ b ≤ d.length ∧ b - a ≤ n ∧ Below ltInt a b d.toArray) (μ := fun _ x y _ _ _ => (y - x).toNat) ?_
  · have := key l a b limit true true ⟨rfl, a, b, rfl, rfl, hab, hb, hn, hB⟩
    rw [Int.toNat_natCast, Int.toNat_natCast] at this
    exact this
  clear hn hab hb hB a b limit
  rintro d _ _ limit wb wp ⟨hd, a, b, rfl, rfl, hab, hb, hn, hB⟩ again hag ih
  rw [Int.toNat_natCast, Int.toNat_natCast]
  unfold B_Z12_L5b
  rw [w64n_sub (by omega) (by omega), tot_cond]
  refine ⟨fun h => ?_, fun h => ?_⟩
  · refine (insertionSort_tot hb (by omega) (by omega)).bind ?_
    rintro _ rfl
    rw [tot_some]
    have := insertionSort_holds (lt := ltInt) swo_ltInt d.toArray a b hab (by simpa using hb)
    exact ⟨_, rfl, by simpa using this.1, by simpa using this.2⟩
  have h12 := of_decide_eq_false h
  rw [tot_cond]
  refine ⟨fun h => ?_, fun h => ?_⟩
  · refine (heapSort_tot hb (by omega) (by omega)).bind ?_
    rintro _ rfl
    rw [tot_some]
    have := heapSort_holds (lt := ltInt) swo_ltInt d.toArray a b hab (by simpa using hb)
    exact ⟨_, rfl, by simpa using this.1, by simpa using this.2⟩
  -- from the two partitions on
  have glue : ∀ {x y z : List Int} {a b : Nat}, PermIn a b x.toArray y.toArray → SrtR a b y ((), (z, ())) → SrtR a b x ((), (z, ())) := by
    rintro x y z a b h ⟨l', e, h2, h3⟩
    exact ⟨l', e, permIn_trans _ _ _ a b h h2, h3⟩
  have j4 : ∀ (x : List Int) (limit : Int) (p : Nat) (t : Bool), PermIn a b d.toArray x.toArray → a ≤ p → p < b → (t = true → 0 < a ∧ ltInt (x.getD (a - 1) 0) (x.getD p 0) = false) →
      Tot (fun σ => B_Z12_J4 (σ 0) (F_Z6 (σ 0)) (F_Z11 (σ 0)) (F_Z5 (σ 0)) (F_Z8 (σ 0)) (F_Z7 (σ 0)) (F_Z2 (σ 0)) (F_Z26 (σ 0)) (F_Z3 (σ 0)) (F_Z9 (σ 0)) (F_Z12 (σ 0)) (again σ) x (a : Int) (b : Int) limit wb wp ((b - a : Nat) : Int) (p : Int) t) (SrtR a b d) := by
    intro x limit p t hx hp1 hp2 ht
    have hxl : x.length = d.length := by simpa using hx.1
    have hBx : Below ltInt a b x.toArray := hB.perm (by simpa using hb) hx
    unfold B_Z12_J4
    rw [tot_cond]
    refine ⟨fun h => ?_, fun h => ?_⟩
    · obtain ⟨ha0, hnl⟩ := ht h
      refine (partEq_tot (by omega) (by omega) hp1 hp2).bind ?_
      rintro _ rfl
      obtain ⟨g1, g2, g3, g4, g5⟩ := round_eq swo_ltInt (partitionEqual_holds ltInt) (d4 := (partitionEqual ltInt x.toArray a b p).2) (mid := (partitionEqual ltInt x.toArray a b p).1) ha0 hp1 hp2 (by simp; omega) hBx (by rw [ga, ga]; exact hnl) rfl
      generalize partitionEqual ltInt x.toArray a b p = w at g1 g2 g3 g4 g5
      obtain ⟨mid, d4⟩ := w
      simp only at g1 g2 g3 g4 g5
      simp only [peqR]
      have g3' : d4.toList.length = x.length := by simpa using g3
      have := ih d4.toList (mid : Int) b limit wb wp ⟨by omega, mid, b, rfl, rfl, by omega, by omega, by omega, by simpa using g4⟩ (by omega)
      rw [Int.toNat_natCast, Int.toNat_natCast] at this
      refine this.mono ?_
      rintro _ ⟨l', rfl, q1, q2⟩
      obtain ⟨q3, q4⟩ := g5 l'.toArray (by simpa using q1) q2
      exact ⟨l', rfl, permIn_trans _ _ _ a b hx q3, q4⟩
    · refine (partition_tot (by omega) (by omega) hp1 hp2).bind ?_
      rintro r hr
      obtain ⟨g1, g2, g3, g4, g5, g6, g7⟩ := round_part swo_ltInt (partition_holds ltInt) (d4 := (partition ltInt x.toArray a b p).2.2) (ap := (partition ltInt x.toArray a b p).2.1) (mid := (partition ltInt x.toArray a b p).1) hp1 hp2 (by simp; omega) hBx rfl
      generalize partition ltInt x.toArray a b p = w at g1 g2 g3 g4 g5 g6 g7 hr
      obtain ⟨mid, ap, d4⟩ := w
      simp only at g1 g2 g3 g4 g5 g6 g7
      have hr' : r = (((mid : Int), ap, ()), (d4.toList, ())) := hr
      subst hr'
      have g3' : d4.toList.length = x.length := by simpa using g3
      rw [w64n_sub (by omega) (by omega), w64n_sub (by omega) (by omega), w64n_succ (by omega), tot_cond]
      refine ⟨fun h => ?_, fun h => ?_⟩
      · have h := of_decide_eq_true h
        refine (IH (mid - a) (by omega) (l := d4.toList) (a := a) (b := mid) limit (Nat.le_refl _) g1 (by omega) (by omega) (by simpa using g4)).bind ?_
        rintro _ ⟨l', rfl, q1, q2⟩
        obtain ⟨q3, q4⟩ := g6 l'.toArray (by simpa using q1) q2
        have hl' : l'.length = x.length := by have := q1.1; simp only [List.size_toArray] at this; omega
        have := ih l' ((mid + 1 : Nat) : Int) b limit (decide (((mid - a : Nat) : Int) ≥ w64 (((b - a : Nat) : Int).tdiv 8))) ap ⟨by omega, mid + 1, b, rfl, rfl, by omega, by omega, by omega, q3⟩ (by omega)
        rw [Int.toNat_natCast, Int.toNat_natCast] at this
        refine this.mono ?_
        rintro _ ⟨l2, rfl, q5, q6⟩
        obtain ⟨q7, q8⟩ := q4 l2.toArray q5 q6
        exact ⟨l2, rfl, permIn_trans _ _ _ a b hx q7, q8⟩
      · have h := of_decide_eq_false h
        refine (IH (b - (mid + 1)) (by omega) (l := d4.toList) (a := mid + 1) (b := b) limit (Nat.le_refl _) (by omega) (by omega) (by omega) (by simpa using g5)).bind ?_
        rintro _ ⟨l', rfl, q1, q2⟩
        obtain ⟨q3, q4⟩ := g7 l'.toArray (by simpa using q1) q2
        have hl' : l'.length = x.length := by have := q1.1; simp only [List.size_toArray] at this; omega
        have := ih l' (a : Int) (mid : Int) limit (decide (((b - mid : Nat) : Int) ≥ w64 (((b - a : Nat) : Int).tdiv 8))) ap ⟨by omega, a, mid, rfl, rfl, by omega, by omega, by omega, q3⟩ (by omega)
        rw [Int.toNat_natCast, Int.toNat_natCast] at this
        refine this.mono ?_
        rintro _ ⟨l2, rfl, q5, q6⟩
        obtain ⟨q7, q8⟩ := q4 l2.toArray q5 q6
        exact ⟨l2, rfl, permIn_trans _ _ _ a b hx q7, q8⟩
  have j3 : ∀ (x : List Int) (limit : Int) (p : Nat), PermIn a b d.toArray x.toArray → a ≤ p → p < b →
      Tot (fun σ => B_Z12_J3 (σ 0) (F_Z6 (σ 0)) (F_Z11 (σ 0)) (F_Z5 (σ 0)) (F_Z8 (σ 0)) (F_Z7 (σ 0)) (F_Z2 (σ 0)) (F_Z26 (σ 0)) (F_Z3 (σ 0)) (F_Z9 (σ 0)) (F_Z12 (σ 0)) (again σ) x (a : Int) (b : Int) limit wb wp ((b - a : Nat) : Int) (p : Int)) (SrtR a b d) := by
    intro x limit p hx hp1 hp2
    have hxl : x.length = d.length := by simpa using hx.1
    unfold B_Z12_J3
    rw [tot_cond]
    refine ⟨fun h => ?_, fun h => ?_⟩
    · have h := of_decide_eq_true h
      rw [w64n_pred (by omega) (by omega)]
      simp only [tot_chk, inbn, decide_eq_true_eq, Int.toNat_natCast, List.length_set]
      refine ⟨by omega, by omega, by omega, by omega, (less_tot _ _).bind ?_⟩
      rintro _ rfl
      rw [tot_jn]
      exact j4 x limit p _ hx hp1 hp2 fun h => ⟨by omega, by simpa using h⟩
    · rw [tot_jn]
      exact j4 x limit p false hx hp1 hp2 fun h => absurd h (by decide)
  have j2 : ∀ (x : List Int) (limit : Int) (p : Nat) (t : Bool), PermIn a b d.toArray x.toArray → a ≤ p → p < b →
      Tot (fun σ => B_Z12_J2 (σ 0) (F_Z6 (σ 0)) (F_Z11 (σ 0)) (F_Z5 (σ 0)) (F_Z8 (σ 0)) (F_Z7 (σ 0)) (F_Z2 (σ 0)) (F_Z26 (σ 0)) (F_Z3 (σ 0)) (F_Z9 (σ 0)) (F_Z12 (σ 0)) (again σ) x (a : Int) (b : Int) limit wb wp ((b - a : Nat) : Int) (p : Int) t) (SrtR a b d) := by
    intro x limit p t hx hp1 hp2
    have hxl : x.length = d.length := by simpa using hx.1
    have hBx : Below ltInt a b x.toArray := hB.perm (by simpa using hb) hx
    unfold B_Z12_J2
    rw [tot_cond]
    refine ⟨fun h => ?_, fun h => ?_⟩
    · refine (partialIns_tot (by omega) (by omega) (by omega)).bind ?_
      rintro _ rfl
      obtain ⟨q1, q2⟩ := partialInsertionSort_holds (lt := ltInt) swo_ltInt x.toArray a b (by omega) (by simp; omega) hBx
      generalize partialInsertionSort ltInt x.toArray a b = w at q1 q2
      obtain ⟨d4, ok⟩ := w
      simp only at q1 q2
      simp only [pisR]
      have hq : PermIn a b d.toArray d4.toList.toArray := by simpa using permIn_trans _ _ _ a b hx q1
      rw [tot_cond]
      refine ⟨fun h => ?_, fun h => ?_⟩
      · rw [tot_some]
        exact ⟨_, rfl, hq, by simpa using q2 h⟩
      · rw [tot_jn]
        exact j3 d4.toList limit p hq hp1 hp2
    · rw [tot_jn]
      exact j3 x limit p hx hp1 hp2
  have j1 : ∀ (x : List Int) (limit : Int) (p : Nat) (hint : Int), PermIn a b d.toArray x.toArray → a ≤ p → p < b →
      Tot (fun σ => B_Z12_J1 (σ 0) (F_Z6 (σ 0)) (F_Z11 (σ 0)) (F_Z5 (σ 0)) (F_Z8 (σ 0)) (F_Z7 (σ 0)) (F_Z2 (σ 0)) (F_Z26 (σ 0)) (F_Z3 (σ 0)) (F_Z9 (σ 0)) (F_Z12 (σ 0)) (again σ) x (a : Int) (b : Int) limit wb wp ((b - a : Nat) : Int) (p : Int) hint) (SrtR a b d) := by
    intro x limit p hint hx hp1 hp2
    unfold B_Z12_J1
    simp only [tot_cond, tot_jn]
    exact ⟨fun _ => ⟨fun _ => j2 x limit p _ hx hp1 hp2, fun _ => j2 x limit p _ hx hp1 hp2⟩, fun _ => j2 x limit p _ hx hp1 hp2⟩
  have j0 : ∀ (x : List Int) (limit : Int), PermIn a b d.toArray x.toArray →
      Tot (fun σ => B_Z12_J0 (σ 0) (F_Z6 (σ 0)) (F_Z11 (σ 0)) (F_Z5 (σ 0)) (F_Z8 (σ 0)) (F_Z7 (σ 0)) (F_Z2 (σ 0)) (F_Z26 (σ 0)) (F_Z3 (σ 0)) (F_Z9 (σ 0)) (F_Z12 (σ 0)) (again σ) x (a : Int) (b : Int) limit wb wp ((b - a : Nat) : Int)) (SrtR a b d) := by
    intro x limit hx
    have hxl : x.length = d.length := by simpa using hx.1
    unfold B_Z12_J0
    refine (pivot_tot (by omega) (by omega) (by omega)).bind ?_
    rintro _ ⟨p, hint, rfl, hp1, hp2⟩
    rw [tot_cond]
    refine ⟨fun h => ?_, fun h => ?_⟩
    · refine (reverse_tot (by omega) (by omega) (by omega)).bind ?_
      rintro _ ⟨y, rfl, hy⟩
      rw [tot_jn, w64n_pred (by omega) (by omega), w64n_sub (by omega) (by omega), w64n_sub (by omega) (by omega)]
      exact j1 y limit _ _ (permIn_trans _ _ _ a b hx hy) (by omega) (by omega)
    · rw [tot_jn]
      exact j1 x limit _ _ hx hp1 hp2
  rw [tot_cond]
  refine ⟨fun h => ?_, fun h => ?_⟩
  · refine (break_tot hb (by omega) (by omega)).bind ?_
    rintro _ ⟨y, rfl, hy⟩
    rw [tot_jn]
    exact j0 y _ hy
  · rw [tot_jn]
    exact j0 d limit (permIn_refl _ _ _)
/-- slices.Sort. -/
theorem sort_tot {l : List Int} (hl : l.length ≤ 1000) : Tot (fun σ => F_Z19 (σ 0) l) (fun r => ∃ l' : List Int, r = ((), (l', ())) ∧ l'.Perm l ∧ l'.Pairwise (· ≤ ·)) := by
  refine tot_Z19 ?_
  unfold B_Z19
  unfold len
  rw [wrap_id (by omega) (by omega)]
  refine (bitsLen_tot (by omega)).bind ?_
  rintro _ ⟨L, rfl, -⟩
  have := pdq_tot l.length (l := l) (a := 0) (b := l.length) (L : Int) (by omega) (by omega) (by omega) hl (Or.inl rfl)
  refine Tot.bind this ?_
  rintro _ ⟨l', rfl, h1, h2⟩
  rw [tot_some]
  have hlen : l'.length = l.length := by simpa using h1.1
  refine ⟨l', rfl, ?_, ?_⟩
  · have := h1.2.2
    simp only [List.extract_toArray, List.toList_toArray, List.extract_eq_take_drop] at this
    simp only [Nat.sub_zero, List.drop_zero] at this
    rwa [List.take_of_length_le (by omega), List.take_of_length_le (Nat.le_refl _)] at this
  · rw [List.pairwise_iff_getElem]
    intro i j hi hj hij
    have := h2 i j (Nat.zero_le _) hij (by omega)
    rw [ga, ga, List.getD_eq_getElem?_getD, List.getD_eq_getElem?_getD, List.getElem?_eq_getElem hi, List.getElem?_eq_getElem hj] at this
    simp only [Option.getD_some, ltInt, decide_eq_false_iff_not] at this
    omega
end Go.Gx

/-
  Laws, part U7: CyclesOf of the program.
-/
set_option linter.unusedVariables false
set_option linter.unusedSimpArgs false
namespace Go.Gx
/-- A way leads from a node back to it. -/
def OnCyc (g : List PNode) (x : Int) : Prop := PReach g (fun _ => True) x x
theorem circlesC_tot {g : List PNode} (hk : Kidly g) (hg : g.length ≤ 1000000) {s : Int} (h0 : 0 ≤ s) (h1 : s < (g.length : Int)) : Tot (fun σ => F_Z16 (σ 0) g s) (Says (OnCyc g s)) := by
  refine circles_CyclesOf_1_tot hk hg h0 h1 (fun _ => True) fun x _ _ => ?_
  refine tot_Z30 ?_
  unfold B_Z30
  rw [tot_some]
  simp
/-- What CyclesOf answers. -/
def CycQ (g : List PNode) (root : Int) (r : (List Int × Unit) × Unit) : Prop := ∃ l : List Int, r = ((l, ()), ()) ∧ (ValidG g root → ∀ x, x ∈ l ↔ x ∈ reachP g root ∧ OnCyc g x) ∧ (¬ ValidG g root → l = [])
theorem i_CyclesOf_tot {g : List PNode} {root : Int} (hs : g.length ≤ 1000) (hkk : ∀ n ∈ g, n.2.2.length ≤ 1000000) : Tot (fun σ => F_Z43 (σ 0) g root) (CycQ g root) := by
  refine tot_Z43 ?_
  unfold B_Z43
  refine (i_ValidGraph_tot (by omega) hkk).bind ?_
  rintro _ ⟨b, rfl, hb⟩
  rw [tot_cond, tot_some]
  simp only [Bool.not_eq_true', Bool.not_eq_false']
  refine ⟨fun hf => ⟨[], rfl, fun h => (by rw [hb.2 h] at hf; exact Bool.noConfusion hf), fun _ => rfl⟩, fun ht => ?_⟩
  have hv := hb.1 ht
  have hk := hv.kidly
  have h0 := hv.root.1
  have h1 := hv.root.2
  have hmo := reachP_ok hk h0 h1
  have hml := hmo.len
  refine (reachOf_tot hk (by omega) h0 h1).bind ?_
  rintro _ rfl
  have key := loop_Z43_L1 (Q := fun _ _ _ _ _ _ r => CycQ g root r) (I := fun g' r' out l n i => g' = g ∧ r' = root ∧ l = reachP g root ∧ n = (l.length : Int) ∧ ∃ j : Nat, i = j ∧ j ≤ l.length ∧ out.length ≤ j ∧ ∀ x, x ∈ out ↔ x ∈ l.take j ∧ OnCyc g x) (μ := fun _ _ _ l _ i => l.length - i.toNat) ?_
  · exact key g root _ _ _ 0 ⟨rfl, rfl, rfl, rfl, 0, rfl, by omega, by simp, fun x => by simp⟩
  intro g' r' out l n i ⟨e1, e2, e3, e6, j, e4, hj, hol, hq⟩ again hag ih
  subst e1 e2 e4 e6
  rw [← e3] at hmo hml
  unfold B_Z43_L1b B_Z43_J0
  simp only [tot_cond, tot_chk, decide_eq_true_eq, decide_eq_false_iff_not, inb_iff, Int.toNat_natCast]
  refine ⟨fun hlt => ?_, fun hge => ?_⟩
  · have hlt' : j < l.length := by omega
    have hm : l.getD j 0 ∈ l := getDm hlt'
    have htk : l.take (j + 1) = l.take j ++ [l.getD j 0] := by
      rw [List.take_add_one, List.getD_eq_getElem?_getD, List.getElem?_eq_getElem hlt']; rfl
    generalize hx : l.getD j 0 = x at *
    have hxr := hmo.2 x hm
    refine ⟨⟨by omega, hlt⟩, hlt', (circlesC_tot hk (by omega) hxr.1 hxr.2).bind ?_⟩
    rintro _ ⟨b2, rfl, hb2⟩
    simp only [tot_cond, tot_chk, tot_jn, room_iff, List.length_cons, List.length_nil]
    rw [w64_succ (by omega) (by omega)]
    refine ⟨fun hy => ⟨by omega, ih _ _ _ _ _ _ ⟨rfl, rfl, e3, rfl, j + 1, rfl, by omega, by simp only [List.length_append, List.length_cons, List.length_nil]; omega, fun y => ?_⟩ (by simp; omega)⟩, fun hn => ih _ _ _ _ _ _ ⟨rfl, rfl, e3, rfl, j + 1, rfl, by omega, by omega, fun y => ?_⟩ (by simp; omega)⟩
    · rw [htk]
      simp only [List.mem_append, List.mem_singleton, hq y]
      constructor
      · rintro (h | h)
        · exact ⟨.inl h.1, h.2⟩
        · subst h; exact ⟨.inr rfl, hb2.1 hy⟩
      · rintro ⟨h | h, h2⟩
        · exact .inl ⟨h, h2⟩
        · exact .inr h
    · rw [htk]
      simp only [List.mem_append, List.mem_singleton, hq y]
      constructor
      · rintro h; exact ⟨.inl h.1, h.2⟩
      · rintro ⟨h | h, h2⟩
        · exact ⟨h, h2⟩
        · subst h; rw [hb2.2 h2] at hn; cases hn
  · refine (sort_tot (by omega)).bind ?_
    rintro _ ⟨l', rfl, hp, _⟩
    rw [tot_some]
    refine ⟨l', rfl, fun _ x => ?_, fun h => absurd hv h⟩
    rw [hp.mem_iff, hq x, List.take_of_length_le (by omega), e3]
end Go.Gx

/-
  Laws, part U8: the size of the tree.
-/
set_option linter.unusedVariables false
set_option linter.unusedSimpArgs false
namespace Go.Gx
def sumN (l : List Nat) : Nat := l.foldr (· + ·) 0
/-- The nodes of the tree that a node unfolds to, so deep. -/
def tsz (g : List PNode) : Nat → Int → Nat
  | 0, _ => 1
  | f + 1, i => 1 + sumN ((kd g i).map (tsz g f))
/-- All ways from a node end. -/
def Deep (g : List PNode) : Nat → Int → Prop
  | 0, _ => False
  | f + 1, i => ∀ k ∈ kd g i, Deep g f k
theorem deep_of {g : List PNode} (hk : Kidly g) {R : Int → Prop} (hR : ∀ x, R x → (∀ k ∈ kd g x, R k)) (hc : ∀ x, R x → ¬ OnCyc g x) :
    ∀ (f : Nat) (i : Int) (P : List Int), P.Nodup → (∀ x ∈ P, 0 ≤ x ∧ x < (g.length : Int)) → 0 ≤ i → i < (g.length : Int) → R i → (∀ p ∈ P, PReach g (fun _ => True) p i) → P.length + f = g.length + 1 → Deep g f i := by
  intro f
  induction f with
  | zero => intro i P hn hP _ _ _ _ hl; have := nodup_len hn hP; omega
  | succ f ih =>
    intro i P hn hP h0 h1 hr hp hl k hkk
    have hkr := (hk _ (nd_mem h0 h1)).2 k hkk
    have hni : i ∉ P := fun h => hc i hr (hp i h)
    refine ih k (i :: P) (List.nodup_cons.2 ⟨hni, hn⟩) (fun x hx => ?_) hkr.1 hkr.2 (hR i hr k hkk) (fun p hp' => ?_) (by simp only [List.length_cons]; omega)
    · rcases List.mem_cons.1 hx with e | h
      · subst e; exact ⟨h0, h1⟩
      · exact hP x h
    · rcases List.mem_cons.1 hp' with e | h
      · subst e; exact .kid hkk
      · exact .step (hp p h) trivial hkk
theorem sumN_append (a b : List Nat) : sumN (a ++ b) = sumN a + sumN b := by
  induction a with
  | nil => simp [sumN]
  | cons x a ih => simp only [sumN, List.cons_append, List.foldr_cons] at ih ⊢; omega
theorem sumN_take_le : ∀ (l : List Nat) (j : Nat), sumN (l.take j) ≤ sumN l := by
  intro l j
  have := sumN_append (l.take j) (l.drop j)
  rw [List.take_append_drop] at this
  omega
theorem tsize1_tot {g : List PNode} {root : Int} (hk : Kidly g) : ∀ (f : Nat) (i : Int), 0 ≤ i → i < (g.length : Int) → Deep g f i →
    Tot (fun σ => F_Z31 (σ 0) i g root) (fun r => r = ((((min 5000 (tsz g f i) : Nat) : Int), ()), ((g, root, ()), ((), ()), ()))) := by
  intro f
  induction f with
  | zero => intro i _ _ h; exact h.elim
  | succ f ihf =>
    intro i h0 h1 hd
    refine tot_Z31 ?_
    unfold B_Z31
    have hkx := hk _ (nd_mem h0 h1)
    have hl6 : (kd g i).length ≤ 6 := hkx.1
    rw [tot_chk, inb_iff]
    refine ⟨⟨h0, h1⟩, ?_⟩
    have key := loop_Z31_L0 (Q := fun _ _ _ _ _ _ r => r = ((((min 5000 (tsz g (f + 1) i) : Nat) : Int), ()), ((g, root, ()), ((), ()), ())))
      (I := fun g' r' n ks m q => g' = g ∧ r' = root ∧ ks = kd g i ∧ m = ((kd g i).length : Int) ∧ ∃ j : Nat, q = j ∧ j ≤ (kd g i).length ∧ n = ((1 + sumN (((kd g i).take j).map (tsz g f)) : Nat) : Int) ∧ n < 5000) (μ := fun _ _ _ _ _ q => (kd g i).length - q.toNat) ?_
    · exact key g root 1 _ _ 0 ⟨rfl, rfl, rfl, rfl, 0, rfl, by omega, rfl, by omega⟩
    intro g' r' n ks m q ⟨e1, e2, e3, e4, j, e5, hj, e6, hn⟩ again hag ih
    subst e1 e2 e3 e4 e5
    unfold B_Z31_L0b
    simp only [tot_cond, tot_chk, tot_some, decide_eq_true_eq, decide_eq_false_iff_not, inb_iff]
    refine ⟨fun hlt => ?_, fun hge => ?_⟩
    · have hlt' : j < (kd g' i).length := by omega
      have hm : rdx (0 : Int) (kd g' i) (j : Int) ∈ kd g' i := rdx_mem (by omega) (by omega)
      have hs : sumN (((kd g' i).take (j + 1)).map (tsz g' f)) = sumN (((kd g' i).take j).map (tsz g' f)) + tsz g' f (rdx (0 : Int) (kd g' i) (j : Int)) := by
        have e : rdx (0 : Int) (kd g' i) (j : Int) = (kd g' i)[j] := by
          rw [rdx_eq, Int.toNat_natCast, List.getD_eq_getElem?_getD, List.getElem?_eq_getElem hlt']; rfl
        rw [e, List.take_add_one, List.getElem?_eq_getElem hlt', List.map_append, sumN_append]
        simp [sumN]
      have hle : sumN (((kd g' i).take (j + 1)).map (tsz g' f)) ≤ sumN ((kd g' i).map (tsz g' f)) := by
        rw [List.map_take]; exact sumN_take_le _ _
      have ht : tsz g' (f + 1) i = 1 + sumN ((kd g' i).map (tsz g' f)) := rfl
      have hr := hkx.2 _ hm
      refine ⟨⟨by omega, hlt⟩, (ihf _ hr.1 hr.2 (hd _ hm)).bind ?_⟩
      rintro _ rfl
      generalize hz : tsz g' f (rdx (0 : Int) (kd g' i) (j : Int)) = z at *
      have hw : w64 (n + ((min 5000 z : Nat) : Int)) = n + ((min 5000 z : Nat) : Int) := w64_id (by omega) (by omega)
      simp only [hw]
      simp only [tot_cond, tot_some, beq_iff_eq, beq_eq_false_iff_ne, ne_eq]
      refine ⟨fun h5 => ?_, fun h5 => ?_⟩
      · rw [h5]
        have : min 5000 (tsz g' (f + 1) i) = 5000 := by rw [ht]; split at h5 <;> omega
        rw [this]; rfl
      · rw [w64_succ (by omega) (by omega)]
        refine ih _ _ _ _ _ _ ⟨rfl, rfl, rfl, rfl, j + 1, rfl, by omega, ?_, ?_⟩ (by simp only [Int.toNat_natCast]; omega)
        · rw [hs]; split <;> split at h5 <;> omega
        · split <;> split at h5 <;> omega
    · have e : min 5000 (tsz g' (f + 1) i) = tsz g' (f + 1) i := by
        have : (kd g' i).take j = kd g' i := List.take_of_length_le (by omega)
        rw [this] at e6
        show min 5000 (1 + sumN ((kd g' i).map (tsz g' f))) = _
        have : tsz g' (f + 1) i = 1 + sumN ((kd g' i).map (tsz g' f)) := rfl
        omega
      rw [e, e6, List.take_of_length_le (by omega)]
      rfl
/-- Walks tell no more kids than the tree has nodes. -/
def kidsN (g : List PNode) (l : List Int) : Nat := sumN (l.map fun x => (kd g x).length)
theorem kids_le {g : List PNode} : ∀ (f : Nat) (i : Int) (met : List Int), kidsN g (rch g f i met) + 1 ≤ kidsN g met + tsz g f i := by
  intro f
  induction f with
  | zero => intro i met; exact Nat.le_refl _
  | succ f ih =>
    intro i met
    have hf : ∀ (l : List Int) (m : List Int), kidsN g (l.foldl (fun m k => rch g f k m) m) + l.length ≤ kidsN g m + sumN (l.map (tsz g f)) := by
      intro l
      induction l with
      | nil => intro m; exact Nat.le_refl _
      | cons k l ihl =>
        intro m
        have h1 := ihl (rch g f k m)
        have h2 := ih k m
        have h3 : sumN ((k :: l).map (tsz g f)) = tsz g f k + sumN (l.map (tsz g f)) := rfl
        simp only [List.foldl_cons, List.length_cons]
        omega
    have ht : tsz g (f + 1) i = 1 + sumN ((kd g i).map (tsz g f)) := rfl
    unfold rch
    by_cases hm : i ∈ met
    · rw [if_pos hm]; omega
    · rw [if_neg hm]
      have h1 := hf (kd g i) (met ++ [i])
      have h2 : kidsN g (met ++ [i]) = kidsN g met + (kd g i).length := by
        unfold kidsN; rw [List.map_append, sumN_append]; simp [sumN]
      omega
end Go.Gx

/-
  Laws, part U9: trees share nothing.
-/
set_option linter.unusedVariables false
set_option linter.unusedSimpArgs false
namespace Go.Gx
theorem rch_sub {g : List PNode} : ∀ (f : Nat) (i : Int) (met : List Int), ∀ x ∈ met, x ∈ rch g f i met := by
  intro f
  induction f with
  | zero => intro i met x h; exact h
  | succ f ih =>
    intro i met x h
    have hf : ∀ (l : List Int) (m : List Int), x ∈ m → x ∈ l.foldl (fun m k => rch g f k m) m := by
      intro l
      induction l with
      | nil => intro m h; exact h
      | cons k l ihl => intro m h; exact ihl _ (ih k m x h)
    unfold rch
    by_cases hm : i ∈ met
    · rw [if_pos hm]; exact h
    · rw [if_neg hm]; exact hf _ _ (List.mem_append_left _ h)
theorem fold_sub {g : List PNode} {f : Nat} {x : Int} : ∀ (l m : List Int), x ∈ m → x ∈ l.foldl (fun m k => rch g f k m) m := by
  intro l
  induction l with
  | nil => intro m h; exact h
  | cons k l ihl => intro m h; exact ihl _ (rch_sub f k m x h)
theorem rch_self {g : List PNode} {f : Nat} {i : Int} {met : List Int} (hf : 0 < f) : i ∈ rch g f i met := by
  cases f with
  | zero => omega
  | succ f =>
    unfold rch
    by_cases hm : i ∈ met
    · rw [if_pos hm]; exact hm
    · rw [if_neg hm]; exact fold_sub _ _ (by simp)
theorem rch_new {g : List PNode} : ∀ (f : Nat) (i : Int) (met : List Int), ∀ y ∈ rch g f i met, y ∈ met ∨ y = i ∨ ∃ z ∈ rch g f i met, y ∈ kd g z := by
  intro f
  induction f with
  | zero => intro i met y h; exact .inl h
  | succ f ih =>
    intro i met y h
    have hf : ∀ (l : List Int) (m : List Int), y ∈ l.foldl (fun m k => rch g f k m) m → y ∈ m ∨ y ∈ l ∨ ∃ z ∈ l.foldl (fun m k => rch g f k m) m, y ∈ kd g z := by
      intro l
      induction l with
      | nil => intro m h; exact .inl h
      | cons k l ihl =>
        intro m h
        rcases ihl _ h with h1 | h1 | h1
        · rcases ih k m y h1 with h2 | h2 | ⟨z, hz, h2⟩
          · exact .inl h2
          · exact .inr (.inl (by simp [h2]))
          · exact .inr (.inr ⟨z, fold_sub l (rch g f k m) hz, h2⟩)
        · exact .inr (.inl (by simp [h1]))
        · exact .inr (.inr h1)
    unfold rch at h ⊢
    by_cases hm : i ∈ met
    · rw [if_pos hm] at h ⊢; exact .inl h
    · rw [if_neg hm] at h ⊢
      rcases hf _ _ h with h1 | h1 | h1
      · rcases List.mem_append.1 h1 with h2 | h2
        · exact .inl h2
        · exact .inr (.inl (by simpa using h2))
      · exact .inr (.inr ⟨i, fold_sub _ _ (by simp), h1⟩)
      · exact .inr (.inr h1)
theorem rch_closed {g : List PNode} (hk : Kidly g) : ∀ (f : Nat) (i : Int) (met : List Int), 0 ≤ i → i < (g.length : Int) → MetOk g met → g.length < f + met.length → ∀ z ∈ rch g f i met, z ∈ met ∨ ∀ k ∈ kd g z, k ∈ rch g f i met := by
  intro f
  induction f with
  | zero => intro i met _ _ hm hf; have := hm.len; omega
  | succ f ih =>
    intro i met h0 h1 hm hf z hz
    have hfo : ∀ (l : List Int) (m : List Int), InR g l → MetOk g m → g.length < f + m.length → (∀ k ∈ l, k ∈ l.foldl (fun m k => rch g f k m) m) ∧ ∀ z ∈ l.foldl (fun m k => rch g f k m) m, z ∈ m ∨ ∀ k ∈ kd g z, k ∈ l.foldl (fun m k => rch g f k m) m := by
      intro l
      induction l with
      | nil => intro m _ _ _; exact ⟨fun k h => by simp at h, fun z h => .inl h⟩
      | cons k l ihl =>
        intro m hl hmo hlt
        have hkr := hl k (by simp)
        have hok := rch_ok hk f k m hkr.1 hkr.2 hmo
        have hml := hmo.len
        have h1 := ihl (rch g f k m) (fun x hx => hl x (by simp [hx])) hok.1 (by omega)
        refine ⟨fun q hq => ?_, fun z hz => ?_⟩
        · rcases List.mem_cons.1 hq with e | h
          · subst e; exact fold_sub l (rch g f q m) (rch_self (f := f) (by omega))
          · exact h1.1 q h
        · rcases h1.2 z hz with h2 | h2
          · rcases ih k m hkr.1 hkr.2 hmo hlt z h2 with h3 | h3
            · exact .inl h3
            · exact .inr fun q hq => fold_sub l (rch g f k m) (h3 q hq)
          · exact .inr h2
    unfold rch at hz ⊢
    by_cases hmm : i ∈ met
    · rw [if_pos hmm] at hz ⊢; exact .inl hz
    · rw [if_neg hmm] at hz ⊢
      have h2 := hfo (kd g i) (met ++ [i]) (hk _ (nd_mem h0 h1)).2 (hm.snoc h0 h1 hmm) (by simp only [List.length_append, List.length_cons, List.length_nil]; omega)
      rcases h2.2 z hz with h3 | h3
      · rcases List.mem_append.1 h3 with h4 | h4
        · exact .inl h4
        · have : z = i := by simpa using h4
          subst this
          exact .inr fun k hkk => h2.1 k hkk
      · exact .inr h3
theorem nodup_sub : ∀ {R M : List Int}, R.Nodup → (∀ y ∈ R, y ∈ M) → R.length ≤ M.length := by
  intro R
  induction R with
  | nil => intro M _ _; simp
  | cons y R ih =>
    intro M hn hs
    have hy := hs y (by simp)
    have hn' := List.nodup_cons.1 hn
    have := ih (M := M.erase y) hn'.2 fun z hz => (List.mem_erase_of_ne (fun e => by subst e; exact hn'.1 hz)).2 (hs z (by simp [hz]))
    rw [List.length_erase_of_mem hy] at this
    have : 0 < M.length := List.length_pos_of_mem hy
    simp only [List.length_cons]; omega
/-- All uses: the root, and the kids of nodes. -/
def allUses (g : List PNode) (root : Int) (l : List Int) : List Int := root :: l.flatMap (kd g)
theorem allUses_len (g : List PNode) (root : Int) (l : List Int) : (allUses g root l).length = 1 + kidsN g l := by
  unfold allUses kidsN
  rw [List.length_cons, Nat.add_comm]
  congr 1
  induction l with
  | nil => rfl
  | cons x l ih => rw [List.flatMap_cons, List.length_append, ih]; rfl
theorem bump_count {n : Nat} {x : Int} (hx : 0 ≤ x ∧ x < (n : Int)) : ∀ (ks : List Int) (u : List Int), u.length = n → (∀ k ∈ ks, 0 ≤ k ∧ k < (n : Int)) → (ks.foldl bump u).getD x.toNat 0 = u.getD x.toNat 0 + (ks.count x : Int) ∧ (ks.foldl bump u).length = n := by
  intro ks
  induction ks with
  | nil => intro u hu _; exact ⟨by simp, hu⟩
  | cons k ks ih =>
    intro u hu hks
    have hkr := hks k (by simp)
    have hb : (bump u k).length = n := by simp [bump, hu]
    have h1 := ih (bump u k) hb fun q hq => hks q (by simp [hq])
    refine ⟨?_, h1.2⟩
    rw [List.foldl_cons, h1.1, List.count_cons]
    have : (bump u k).getD x.toNat 0 = u.getD x.toNat 0 + if k = x then 1 else 0 := by
      unfold bump
      rw [List.getD_eq_getElem?_getD, List.getElem?_set]
      by_cases e : k = x
      · subst e
        rw [if_pos rfl, if_pos (by omega), if_pos rfl]; rfl
      · rw [if_neg (by omega), if_neg e, List.getD_eq_getElem?_getD]; omega
    rw [this]
    by_cases e : k = x
    · subst e; simp; omega
    · have e2 : (k == x) = false := by simpa using e
      simp only [e2, if_neg e, Bool.false_eq_true, if_false]; omega
theorem uses_count {g : List PNode} {root x : Int} (hk : Kidly g) (hr : 0 ≤ root ∧ root < (g.length : Int)) (hx : 0 ≤ x ∧ x < (g.length : Int)) (l : List Int) (hl : ∀ y ∈ l, 0 ≤ y ∧ y < (g.length : Int)) :
    (usesTo g root l).getD x.toNat 0 = ((allUses g root l).count x : Int) := by
  have key : ∀ (l : List Int) (u : List Int), u.length = g.length → (∀ y ∈ l, 0 ≤ y ∧ y < (g.length : Int)) → (l.foldl (fun u i => (kd g i).foldl bump u) u).getD x.toNat 0 = u.getD x.toNat 0 + ((l.flatMap (kd g)).count x : Int) := by
    intro l
    induction l with
    | nil => intro u _ _; simp
    | cons y l ih =>
      intro u hu hl
      have hy := hl y (by simp)
      have h1 := bump_count hx (kd g y) u hu (hk _ (nd_mem hy.1 hy.2)).2
      rw [List.foldl_cons, ih _ h1.2 fun z hz => hl z (by simp [hz]), h1.1, List.flatMap_cons, List.count_append]
      omega
  unfold usesTo allUses
  rw [key l _ (by simp) hl, List.count_cons]
  have : ((List.replicate g.length (0 : Int)).set root.toNat 1).getD x.toNat 0 = if root = x then 1 else 0 := by
    rw [List.getD_eq_getElem?_getD, List.getElem?_set]
    by_cases e : root = x
    · subst e
      rw [if_pos rfl, if_pos (by simp; omega), if_pos rfl]; rfl
    · rw [if_neg (by omega), if_neg e, List.getElem?_replicate]; split <;> rfl
  rw [this]
  by_cases e : root = x
  · subst e; simp; omega
  · have e2 : (root == x) = false := by simpa using e
    simp only [e2, if_neg e, Bool.false_eq_true, if_false]; omega
/-- What is reached is the root, or a kid of what is reached; and its kids are reached. -/
theorem reachP_uses {g : List PNode} {root : Int} (hk : Kidly g) (h0 : 0 ≤ root) (h1 : root < (g.length : Int)) (x : Int) : x ∈ reachP g root ↔ x ∈ allUses g root (reachP g root) := by
  unfold allUses
  rw [List.mem_cons, List.mem_flatMap]
  constructor
  · intro h
    rcases rch_new _ _ _ x h with h2 | h2 | ⟨z, hz, h2⟩
    · simp at h2
    · exact .inl h2
    · exact .inr ⟨z, hz, h2⟩
  · rintro (h | ⟨z, hz, h2⟩)
    · subst h; exact rch_self (by omega)
    · rcases rch_closed hk (g.length + 1) root [] h0 h1 .nil (by simp) z hz with h3 | h3
      · simp at h3
      · exact h3 x h2
theorem shared_big {g : List PNode} {root x : Int} (hk : Kidly g) (h0 : 0 ≤ root) (h1 : root < (g.length : Int)) (hx : 0 ≤ x ∧ x < (g.length : Int)) (h : (usesP g root).getD x.toNat 0 > 1) : x ∈ reachP g root ∧ (reachP g root).length < tsz g (g.length + 1) root := by
  have hmo := reachP_ok hk h0 h1
  unfold usesP at h
  rw [uses_count hk ⟨h0, h1⟩ hx _ hmo.2] at h
  have hc : 1 < (allUses g root (reachP g root)).count x := by omega
  have hm : x ∈ allUses g root (reachP g root) := List.count_pos_iff.1 (by omega)
  have hk2 : kidsN g (reachP g root) + 1 ≤ 0 + tsz g (g.length + 1) root := kids_le (g.length + 1) root []
  have hlen := allUses_len g root (reachP g root)
  have hsub : (reachP g root).length ≤ ((allUses g root (reachP g root)).erase x).length := by
    refine nodup_sub hmo.1 fun y hy => ?_
    have hy2 := (reachP_uses hk h0 h1 y).1 hy
    by_cases e : y = x
    · subst e
      exact List.count_pos_iff.1 (by rw [List.count_erase_self]; omega)
    · exact (List.mem_erase_of_ne e).2 hy2
  rw [List.length_erase_of_mem hm] at hsub
  exact ⟨(reachP_uses hk h0 h1 x).2 hm, by omega⟩
end Go.Gx

/-
  Laws: lists of numbers are compared.
-/
set_option linter.unusedVariables false
set_option linter.unusedSimpArgs false
namespace Go.Gx
theorem equalInts_tot {a b : List Int} (ha : a.length ≤ 900000000000) : Tot (fun σ => F_Z34 (σ 0) a b) (Says (a = b)) := by
  refine tot_Z34 ?_
  unfold B_Z34
  simp only [tot_cond, tot_some, len, bne_iff_ne, ne_eq, bne_eq_false_iff_eq]
  refine ⟨fun h => says_false fun e => h (by rw [e]), fun h => ?_⟩
  have hl : a.length = b.length := by omega
  have key := loop_Z34_L0 (Q := fun _ _ _ r => Says (a = b) r) (I := fun x y i => x = a ∧ y = b ∧ ∃ j : Nat, i = j ∧ j ≤ a.length ∧ ∀ q, q < j → a.getD q 0 = b.getD q 0) (μ := fun _ _ i => (a.length - i).toNat) ?_
  · exact key a b 0 ⟨rfl, rfl, 0, rfl, by omega, fun q hq => by omega⟩
  intro x y i ⟨e1, e2, j, e3, hj, hq⟩ again hag ih
  subst e1 e2 e3
  unfold B_Z34_L0b
  simp only [tot_cond, tot_chk, tot_some, decide_eq_true_eq, decide_eq_false_iff_not, len, inb_iff, bne_iff_ne, ne_eq, bne_eq_false_iff_eq]
  simp only [rdx_eq, Int.toNat_natCast]
  refine ⟨fun hlt => ⟨by omega, by omega, fun hne => says_false fun e => hne (by rw [e]), fun he => ?_⟩, fun hge => says_true (ext_getD hl fun i hi => hq i (by omega))⟩
  rw [w64_succ (by omega) (by omega)]
  refine ih _ _ _ ⟨rfl, rfl, j + 1, rfl, by omega, fun q h => ?_⟩ (by simp; omega)
  by_cases e : q = j
  · subst e; exact he
  · exact hq q (by omega)
end Go.Gx

/-
  Laws, part 10: a graph that is drawn is valid.
-/
set_option linter.unusedVariables false
set_option linter.unusedSimpArgs false
namespace Go.Gx
abbrev ONode : Type := Int × Int × Option (List Int)
abbrev od : ONode := ((0 : Int), ((0 : Int), (none : Option (List Int))))
abbrev cvN (p : ONode) : PNode := (p.1, (p.2.1, p.2.2.getD []))
theorem set_getD {α : Type} {l : List α} {i : Nat} {d : α} : l.set i (l.getD i d) = l := by
  by_cases h : i < l.length
  · rw [List.getD_eq_getElem?_getD, List.getElem?_eq_getElem h, Option.getD_some]; exact List.set_getElem_self h
  · rw [List.set_eq_of_length_le (by omega)]
theorem getD_set_ne {α : Type} {l : List α} {i j : Nat} {x d : α} (h : j ≠ i) : (l.set i x).getD j d = l.getD j d := by
  rw [List.getD_eq_getElem?_getD, List.getD_eq_getElem?_getD, List.getElem?_set_ne (by omega)]
def AddOk (g : List ONode) (root : Int) (i : Nat) (x : (List ONode × Int × Unit) × Unit) : Prop :=
  ∃ g', x = ((g', root, ()), ()) ∧ ValidG (g'.map cvN) root ∧ g'.length = g.length ∧ ∀ j, j ≠ i → g'.getD j od = g.getD j od
theorem addKids_tot {b : List Int} {p : Int} (h : RD b p) (hp : p ≤ 800000000) {g : List ONode} {root : Int} (hv : ValidG (g.map cvN) root) {i : Nat} (hi : i < g.length) (hn : (g.getD i od).2.2 = none) :
    Tot (fun σ => F_Z53 (σ 0) b p g root i) (Drawn b p 20 (AddOk g root i)) := by
  have hlen : g.length ≤ 12 := by have := hv.most; simpa using this
  refine tot_Z53 ?_
  unfold B_Z53
  simp only [tot_chk, inb_iff, decide_eq_true_eq, Int.toNat_natCast]
  refine ⟨by omega, hi, (one_tot h (by omega) (by simp) (by simp)).bind ?_⟩
  rintro _ ⟨_, q, rfl, h1, h2, n, rfl, hnm⟩
  have hnn : 0 ≤ n ∧ n ≤ 4 := by
    simp only [List.mem_cons, List.not_mem_nil, or_false] at hnm
    omega
  rw [tot_chk]
  refine ⟨by rw [show (g.getD i od).2.2 = none from hn]; rfl, ?_⟩
  have key := loop_Z53_L3 (Q := fun _ _ _ _ _ _ _ _ _ _ r => Drawn b p 20 (AddOk g root i) r)
    (I := fun b' q' at2 g' r' _ k v kids m => b' = b ∧ at2 = (i : Int) ∧ g' = g ∧ r' = root ∧ p ≤ q' ∧ q' + 4 * m ≤ p + 17 ∧ 0 ≤ m ∧ m ≤ 4 ∧ (kids.length : Int) + 2 * m ≤ 10) (μ := fun _ _ _ _ _ _ _ _ _ m => m.toNat) ?_
  · exact key b q i g root 0 _ _ [] n ⟨rfl, rfl, rfl, rfl, h1, by omega, hnn.1, hnn.2, by simp; omega⟩
  intro b' q' at2 g' r' t6 k v kids m ⟨e1, e2, e3, e4, g1, g2, g3, g4, g5⟩ again hag ih
  subst e1 e2 e3 e4
  have hr := h.next g1 (by omega)
  unfold B_Z53_L3b
  rw [tot_cond]
  simp only [decide_eq_true_eq, decide_eq_false_iff_not]
  refine ⟨fun hm => ?_, fun hm => ?_⟩
  · -- a round
    have w : w64 (m - 1) = m - 1 := w64_id (by omega) (by omega)
    have j2 : ∀ (q2 : Int) (kids2 : List Int), q' ≤ q2 → q2 ≤ q' + 4 → kids2.length ≤ kids.length + 2 → Tot (fun σ => B_Z53_J2 (σ 0) (F_Z29 (σ 0)) (F_Z23 (σ 0)) (F_s_isKey (σ 0)) (F_Z25 (σ 0)) (again σ) b' q2 i g' r' t6 k v kids2 m) (Drawn b' p 20 (AddOk g' r' i)) := by
      intro q2 kids2 k1 k2 k3
      unfold B_Z53_J2
      rw [w]
      exact ih _ _ _ _ _ _ _ _ _ _ ⟨rfl, rfl, rfl, rfl, by omega, by omega, by omega, by omega, by omega⟩ (by omega)
    have hkl : kids.length ≤ 10 := by omega
    have j1 : ∀ (q2 kid : Int) (t : Bool), q' ≤ q2 → q2 ≤ q' + 2 → Tot (fun σ => B_Z53_J1 (σ 0) (F_Z29 (σ 0)) (F_Z23 (σ 0)) (F_s_isKey (σ 0)) (F_Z25 (σ 0)) (again σ) b' q2 i g' r' t6 k v kids m kid t) (Drawn b' p 20 (AddOk g' r' i)) := by
      intro q2 kid t k1 k2
      unfold B_Z53_J1
      rw [tot_cond]
      refine ⟨fun _ => ?_, fun _ => ?_⟩
      · refine (pick_tot (hr.next k1 (by omega)) (by omega) (by simp only [len]; omega)).bind ?_
        rintro _ ⟨_, q3, rfl, f1, f2, y, rfl, f3, f4⟩
        rw [tot_chk]
        refine ⟨room_iff.2 (by simp only [List.length_cons, List.length_nil]; omega), ?_⟩
        rw [tot_jn]
        exact j2 q3 _ (by omega) (by omega) (by simp)
      · rw [tot_jn]
        exact j2 q2 kids k1 (by omega) (by omega)
    refine (pick_tot hr (by omega) (by simp only [len]; omega)).bind ?_
    rintro _ ⟨_, q2, rfl, f1, f2, kid, rfl, f3, f4⟩
    have f4 := f4 (by simp only [len]; omega)
    simp only [len] at f4
    have j0 : ∀ (t : Bool), Tot (fun σ => B_Z53_J0 (σ 0) (F_Z29 (σ 0)) (F_Z23 (σ 0)) (F_s_isKey (σ 0)) (F_Z25 (σ 0)) (again σ) b' q2 i g' r' t6 k v kids m kid k t) (Drawn b' p 20 (AddOk g' r' i)) := by
      intro t
      unfold B_Z53_J0
      rw [tot_cond]
      refine ⟨fun _ => ?_, fun _ => ?_⟩
      · rw [tot_chk]
        refine ⟨room_iff.2 (by simp only [List.length_cons, List.length_nil]; omega), ?_⟩
        rw [tot_jn]
        exact j2 q2 _ f1 (by omega) (by simp)
      · rw [tot_cond]
        refine ⟨fun _ => ?_, fun _ => ?_⟩
        · rw [tot_jn]
          exact j2 q2 _ f1 (by omega) (by simp)
        · rw [tot_cond]
          refine ⟨fun _ => ?_, fun _ => ?_⟩
          · rw [tot_cond]
            refine ⟨fun _ => ?_, fun _ => ?_⟩
            · simp only [tot_chk, inb_iff, decide_eq_true_eq]
              refine ⟨by omega, by omega, (isKey_tot _ _ []).bind ?_⟩
              rintro _ ⟨b2, rfl, _⟩
              rw [tot_jn]
              exact j1 q2 kid _ f1 (by omega)
            · rw [tot_jn]
              exact j1 q2 kid _ f1 (by omega)
          · rw [tot_jn]
            exact j2 q2 kids f1 (by omega) (by omega)
    rw [tot_cond]
    refine ⟨fun _ => ?_, fun _ => ?_⟩
    · rw [tot_jn]; exact j0 _
    · rw [tot_jn]; exact j0 _
  · -- the end
    have hkl : kids.length ≤ 10 := by omega
    simp only [tot_chk, inb_iff, decide_eq_true_eq, Int.toNat_natCast]
    refine ⟨by omega, hi, by omega, hi, ?_⟩
    have hkl2 : ∀ n ∈ (g'.set i (k, (v, (some kids)))).map cvN, n.2.2.length ≤ 1000000 := by
      intro n hn'
      obtain ⟨o, ho, rfl⟩ := List.mem_map.1 hn'
      rcases List.mem_or_eq_of_mem_set ho with ho | rfl
      · have := (hv.node (cvN o) (List.mem_map.2 ⟨o, ho, rfl⟩)).1
        omega
      · show kids.length ≤ _; omega
    refine (validGraph_tot (root := r') (by simp; omega) hkl2).bind ?_
    rintro _ ⟨b2, rfl, hb2⟩
    unfold B_Z53_J4
    simp only [tot_cond, tot_chk, tot_jn, tot_some, Bool.not_eq_true', Bool.not_eq_false', inb_iff, decide_eq_true_eq, List.length_set, Int.toNat_natCast]
    have hn' : (g'.getD i od).2.2 = none := hn
    refine ⟨fun _ => ⟨by omega, hi, by rw [show (g'.getD i ((0 : Int), ((0 : Int), (none : Option (List Int))))).2.2 = none from hn']; rfl, _, _, rfl, g1, by omega, g', ?_, hv, rfl, fun j _ => rfl⟩, fun ht => ⟨_, _, rfl, g1, by omega, _, rfl, hb2.1 ht, by simp, fun j hj => getD_set_ne hj⟩⟩
    rw [List.set_set]
    have e : ((g'.getD i od).1, ((g'.getD i od).2.1, (none : Option (List Int)))) = g'.getD i od := by rw [← hn']
    show ((g'.set i ((g'.getD i od).1, ((g'.getD i od).2.1, (none : Option (List Int)))), r', ()), ()) = _
    rw [e]
    exact congrArg (fun l => ((l, r', ()), ())) (set_getD (d := od))
theorem leaf_valid {g : List ONode} {root : Int} (hp : 1 ≤ g.length) (hm : g.length ≤ 12) (hr : 0 ≤ root ∧ root < (g.length : Int)) (hn : ∀ n ∈ g, LeafOk n.1 n.2.1 ∧ n.2.2 = none) : ValidG (g.map cvN) root := by
  have hnd : ∀ i, (nd (g.map cvN) i).2.2 = [] := by
    intro i
    unfold nd
    rw [rdx_eq, List.getD_eq_getElem?_getD, List.getElem?_map]
    cases hq : g[i.toNat]? with
    | none => rfl
    | some o =>
      have := (hn o (List.mem_of_getElem? hq)).2
      simp [this]
  refine ⟨by simpa using hp, by simpa using hm, by simpa using hr, fun n hn' => ?_, fun i _ _ ht => ?_⟩
  · obtain ⟨o, ho, rfl⟩ := List.mem_map.1 hn'
    obtain ⟨hl, hno⟩ := hn o ho
    refine ⟨by simp [hno], fun x hx => by simp [hno] at hx, ?_⟩
    simp only [hno, Option.getD_none]
    rcases hl with ⟨e, h1, h2⟩ | ⟨e, h1, h2⟩ | ⟨h1, h2, h3⟩ | ⟨e, h1, h2⟩
    · rw [if_pos e]; exact ⟨h1, h2, trivial⟩
    · rw [if_neg (by omega), if_pos e]; exact ⟨h1, h2, trivial⟩
    · rw [if_neg (by omega), if_neg (by omega)]
      by_cases e : o.1 = 2 ∨ o.1 = 3
      · rw [if_pos e]; exact h3
      · rw [if_neg e, if_pos (by omega)]
        exact ⟨h3, ⟨fun i hi => by simp at hi, by simp⟩⟩
    · rw [if_neg (by omega), if_neg (by omega), if_neg (by omega), if_neg (by omega), if_pos e]; exact ⟨h1, h2, by simp⟩
  · cases ht with
    | kid hk => rw [hnd] at hk; simp at hk
    | step _ _ hk => rw [hnd] at hk; simp at hk
theorem someGraph_tot {b : List Int} {p : Int} (h : RD b p) (hp : p ≤ 700000000) : Tot (fun σ => F_Z36 (σ 0) b p) (Drawn b p 400 fun x => ∃ (g : List PNode) (root : Int), x = ((g, root, ()), ()) ∧ ValidG g root) := by
  refine tot_Z36 ?_
  unfold B_Z36
  refine (one_tot h (by omega) (by simp) (by simp)).bind ?_
  rintro _ ⟨_, q, rfl, h1, h2, n, rfl, hnm⟩
  have hnn : 1 ≤ n ∧ n ≤ 10 := by
    simp only [List.mem_cons, List.not_mem_nil, or_false] at hnm
    omega
  have key := loop_Z36_L0 (Q := fun _ _ _ _ _ _ r => Drawn b p 400 (fun x => ∃ (g : List PNode) (root : Int), x = ((g, root, ()), ()) ∧ ValidG g root) r)
    (I := fun b' q' _ g' _ m => b' = b ∧ p ≤ q' ∧ q' + 3 * m ≤ p + 40 ∧ 0 ≤ m ∧ m ≤ 10 ∧ 1 ≤ (g'.length : Int) + m ∧ (g'.length : Int) + m ≤ 10 ∧ ∀ x ∈ g', LeafOk x.1 x.2.1 ∧ x.2.2 = none) (μ := fun _ _ _ _ _ m => m.toNat) ?_
  · exact key b q 0 [] 0 n ⟨rfl, h1, by omega, by omega, hnn.2, by simp; omega, by simp; omega, fun x hx => by simp at hx⟩
  intro b' q' t2 g' r0 m ⟨e1, g1, g2, g3, g4, g5, g6, g7⟩ again hag ih
  subst e1
  have hr := h.next g1 (by omega)
  unfold B_Z36_L0b
  rw [tot_cond]
  simp only [decide_eq_true_eq, decide_eq_false_iff_not]
  refine ⟨fun hm => ?_, fun hm => ?_⟩
  · refine (someNode_tot hr (by omega)).bind ?_
    rintro _ ⟨_, q2, rfl, f1, f2, k, v, rfl, hl⟩
    rw [tot_chk]
    refine ⟨room_iff.2 (by simp only [List.length_cons, List.length_nil]; omega), ?_⟩
    rw [show w64 (m - 1) = m - 1 from w64_id (by omega) (by omega)]
    refine ih b' q2 t2 (g' ++ [(k, (v, none))]) r0 (m - 1) ⟨rfl, by omega, by omega, by omega, by omega, ?_, ?_, fun x hx => ?_⟩ (by omega)
    · simp only [List.length_append, List.length_cons, List.length_nil]; omega
    · simp only [List.length_append, List.length_cons, List.length_nil]; omega
    · rcases List.mem_append.1 hx with hx | hx
      · exact g7 x hx
      · simp only [List.mem_cons, List.not_mem_nil, or_false] at hx
        subst hx
        exact ⟨hl, rfl⟩
  · have hgl : 1 ≤ g'.length ∧ g'.length ≤ 10 := by omega
    have hrt : w64 (len g' - 1) = (g'.length : Int) - 1 := by rw [w64_id] <;> simp only [len] <;> omega
    rw [hrt]
    have key2 := loop_Z36_L1 (Q := fun _ _ _ _ _ _ r => Drawn b' p 400 (fun x => ∃ (g : List PNode) (root : Int), x = ((g, root, ()), ()) ∧ ValidG g root) r)
      (I := fun b2 q2 _ g2 r2 i => b2 = b' ∧ p ≤ q2 ∧ ∃ j : Nat, i = j ∧ j ≤ g2.length ∧ g2.length ≤ 10 ∧ 1 ≤ g2.length ∧ q2 ≤ p + 40 + 20 * i ∧ ValidG (g2.map cvN) r2 ∧ ∀ x : Nat, j ≤ x → (g2.getD x od).2.2 = none) (μ := fun _ _ _ g2 _ i => (g2.length - i).toNat) ?_
    · refine key2 b' q' t2 g' _ 0 ⟨rfl, g1, 0, rfl, by omega, hgl.2, hgl.1, by omega, leaf_valid hgl.1 (by omega) (by omega) g7, fun x _ => ?_⟩
      rw [List.getD_eq_getElem?_getD]
      cases hq : g'[x]? with
      | none => rfl
      | some o => exact (g7 o (List.mem_of_getElem? hq)).2
    intro b2 q2 t3 g2 r2 i ⟨e1, f1, j, e2, hj, hl10, hl1, f2, hv, hno⟩ again2 hag2 ih2
    subst e1 e2
    have hr2 := h.next f1 (by omega)
    unfold B_Z36_L1b B_Z36_J2
    rw [tot_cond]
    simp only [decide_eq_true_eq, decide_eq_false_iff_not, len]
    refine ⟨fun hlt => ?_, fun hge => ?_⟩
    · refine (addKids_tot hr2 (by omega) hv (i := j) (by omega) (hno j (Nat.le_refl _))).bind ?_
      rintro _ ⟨_, q3, rfl, k1, k2, g3', rfl, hv3, hlen3, hsame⟩
      rw [w64_succ (by omega) (by omega)]
      refine ih2 b2 q3 t3 g3' r2 ((j + 1 : Nat) : Int) ⟨rfl, by omega, j + 1, rfl, by omega, by omega, by omega, by omega, hv3, fun x hx => ?_⟩ (by omega)
      rw [hsame x (by omega)]
      exact hno x (by omega)
    · refine (pick_tot hr2 (by omega) (by omega)).bind ?_
      rintro _ ⟨_, q3, rfl, k1, k2, u, rfl, k3, k4⟩
      rw [tot_cond]
      refine ⟨fun _ => ?_, fun _ => ?_⟩
      · refine (pick_tot (hr2.next k1 (by omega)) (by omega) (by omega)).bind ?_
        rintro _ ⟨_, q4, rfl, l1, l2, rt, rfl, l3, l4⟩
        have l4 := l4 (by omega)
        rw [tot_jn, tot_some]
        exact ⟨_, q4, rfl, by omega, by omega, _, rt, rfl, ⟨hv.pos, hv.most, by simpa using ⟨l3, l4⟩, hv.node, hv.tup⟩⟩
      · rw [tot_jn, tot_some]
        exact ⟨_, q3, rfl, by omega, by omega, _, r2, rfl, hv⟩
end Go.Gx

/-
  Laws, part 17g: graphs that are drawn and need not be valid.
-/
set_option linter.unusedVariables false
set_option linter.unusedSimpArgs false
namespace Go.Gx
theorem getD_memG {α : Type} {xs : List α} {i : Nat} {d : α} (h : i < xs.length) : xs.getD i d ∈ xs := by
  rw [List.getD_eq_getElem?_getD, List.getElem?_eq_getElem h]
  exact List.getElem_mem h
/-- A graph that need not be valid: small all the same. -/
structure SmallG (g : List PNode) : Prop where
  pos : 1 ≤ g.length
  most : g.length ≤ 12
  kids : ∀ n ∈ g, n.2.2.length ≤ 1000
theorem ValidG.small {g : List PNode} {root : Int} (h : ValidG g root) : SmallG g := ⟨h.pos, h.most, fun n hn => by have := (h.node n hn).1; omega⟩
theorem anyGraph_tot {b : List Int} {p : Int} (h : RD b p) (hp : p ≤ 600000000) : Tot (fun σ => F_Z45 (σ 0) b p) (Drawn b p 500 fun x => ∃ (g : List PNode) (root : Int), x = ((g, root, ()), ()) ∧ SmallG g) := by
  refine tot_Z45 ?_
  unfold B_Z45
  refine (someGraph_tot h (by omega)).bind ?_
  rintro _ ⟨_, q, rfl, h1, h2, g, root, rfl, hv⟩
  have hq := h.next h1 (by omega)
  have hpos := hv.pos; have hmost := hv.most
  simp only [len]
  refine (pick_tot hq (by omega) (by omega)).bind ?_
  rintro _ ⟨_, q2, rfl, f1, f2, k, rfl, f3, f4⟩
  have f4 := f4 (by omega)
  obtain ⟨i, rfl⟩ := Int.eq_ofNat_of_zero_le f3
  have hil : i < g.length := by omega
  have hq2 := hq.next f1 (by omega)
  refine (pick_tot hq2 (by omega) (by omega)).bind ?_
  rintro _ ⟨_, q3, rfl, k1, k2, v, rfl, _⟩
  have hq3 := hq2.next k1 (by omega)
  have hkn := (hv.node _ (getD_memG (xs := g) (d := ((0 : Int), ((0 : Int), ([] : List Int)))) hil)).1
  have fin : ∀ (q4 : Int) (g2 : List PNode) (r2 : Int), q3 ≤ q4 → q4 ≤ q3 + 1 → SmallG g2 → Tot (fun σ => B_Z45_J0 (σ 0) (F_Z36 (σ 0)) (F_Z23 (σ 0)) (F_Z29 (σ 0)) b q4 0 g2 r2) (Drawn b p 500 fun x => ∃ (g : List PNode) (root : Int), x = ((g, root, ()), ()) ∧ SmallG g) := by
    intro q4 g2 r2 m1 m2 hs
    unfold B_Z45_J0
    rw [tot_some]
    exact ⟨_, q4, rfl, by omega, by omega, g2, r2, rfl, hs⟩
  have hset : ∀ n : PNode, n.2.2.length ≤ 1000 → SmallG (g.set i n) := fun n hn => ⟨by rw [List.length_set]; exact hpos, by rw [List.length_set]; exact hmost, fun m hm => by
    rcases List.mem_or_eq_of_mem_set hm with hm | rfl
    · exact hv.small.kids m hm
    · exact hn⟩
  simp only [tot_cond]
  refine ⟨fun _ => ?_, fun _ => ⟨fun _ => ?_, fun _ => ⟨fun _ => ?_, fun _ => ⟨fun _ => ?_, fun _ => ?_⟩⟩⟩⟩
  · simp only [tot_chk, inb_iff, decide_eq_true_eq, Int.toNat_natCast]
    refine ⟨by omega, hil, (one_tot hq3 (by omega) (by simp) (by simp)).bind ?_⟩
    rintro _ ⟨_, q4, rfl, m1, m2, u, rfl, _⟩
    simp only [tot_chk, tot_jn, inb_iff, decide_eq_true_eq, Int.toNat_natCast, room_iff, List.length_cons, List.length_nil]
    refine ⟨by omega, by omega, trivial, fin q4 _ _ m1 (by omega) (hset _ ?_)⟩
    simp only [List.length_append, List.length_cons, List.length_nil]; omega
  · refine (one_tot hq3 (by omega) (by simp) (by simp)).bind ?_
    rintro _ ⟨_, q4, rfl, m1, m2, u, rfl, _⟩
    simp only [tot_chk, tot_jn, inb_iff, decide_eq_true_eq, Int.toNat_natCast]
    exact ⟨by omega, hil, fin q4 _ _ m1 (by omega) (hset _ (by simp only; omega))⟩
  · simp only [tot_chk, tot_jn, inb_iff, decide_eq_true_eq, Int.toNat_natCast]
    exact ⟨by omega, hil, fin q3 _ _ (by omega) (by omega) (hset _ (by simp))⟩
  · refine (one_tot hq3 (by omega) (by simp) (by simp)).bind ?_
    rintro _ ⟨_, q4, rfl, m1, m2, u, rfl, _⟩
    rw [tot_jn]
    exact fin q4 _ _ m1 (by omega) hv.small
  · rw [tot_jn]
    exact fin q3 _ _ (by omega) (by omega) hv.small
end Go.Gx

/-
  The plain law of FnSharedOf.
-/
set_option linter.unusedVariables false
set_option linter.unusedSimpArgs false
namespace Go.Gx
theorem i_ReachOf_tot {g : List PNode} {root : Int} (hv : ValidG g root) : Tot (fun σ => F_Z50 (σ 0) g root) (fun r => r = ((reachP g root, ()), ())) := by
  refine tot_Z50 ?_
  unfold B_Z50
  have hm := hv.most
  refine (i_ValidGraph_tot (by omega) (fun n hn => by have := (hv.kidly n hn).1; omega)).bind ?_
  rintro _ ⟨b, rfl, hb⟩
  rw [tot_cond, tot_some]
  simp only [Bool.not_eq_true', Bool.not_eq_false']
  refine ⟨fun hf => (by rw [hb.2 hv] at hf; exact Bool.noConfusion hf), fun _ => (reachOf_tot hv.kidly (by omega) hv.root.1 hv.root.2).bind ?_⟩
  rintro _ rfl
  rw [tot_some]
theorem i_TreeSize_tot {g : List PNode} {root : Int} (hv : ValidG g root) : Tot (fun σ => F_Z41 (σ 0) g root) (fun r => ∃ t : Int, r = ((t, ()), ()) ∧ (t = 5000 ∨ t = ((min 5000 (tsz g (g.length + 1) root) : Nat) : Int))) := by
  refine tot_Z41 ?_
  unfold B_Z41
  have hm := hv.most
  have hk := hv.kidly
  refine (i_ValidGraph_tot (by omega) (fun n hn => by have := (hk n hn).1; omega)).bind ?_
  rintro _ ⟨b, rfl, hb⟩
  rw [tot_cond]
  simp only [Bool.not_eq_true', Bool.not_eq_false']
  refine ⟨fun hf => (by rw [hb.2 hv] at hf; exact Bool.noConfusion hf), fun _ => (i_CyclesOf_tot (by omega) (fun n hn => by have := (hk n hn).1; omega)).bind ?_⟩
  rintro _ ⟨l, rfl, hl, _⟩
  have hl := hl hv
  simp only [tot_cond, tot_some, decide_eq_true_eq, decide_eq_false_iff_not, len]
  refine ⟨fun _ => ⟨_, rfl, .inl rfl⟩, fun h0 => ?_⟩
  have hnil : l = [] := List.length_eq_zero_iff.1 (by omega)
  subst hnil
  have hd : Deep g (g.length + 1) root := by
    refine deep_of hk (R := fun x => x ∈ reachP g root) (fun x hx k hkk => ?_) (fun x hx hc => absurd ((hl x).2 ⟨hx, hc⟩) (by simp)) _ _ [] List.nodup_nil (fun x hx => by simp at hx) hv.root.1 hv.root.2 (rch_self (by omega)) (fun p hp => by simp at hp) (by simp)
    refine (reachP_uses hk hv.root.1 hv.root.2 k).2 ?_
    unfold allUses
    rw [List.mem_cons, List.mem_flatMap]
    exact .inr ⟨x, hx, hkk⟩
  refine (tsize1_tot hk (g.length + 1) root hv.root.1 hv.root.2 hd).bind ?_
  rintro _ rfl
  rw [tot_some]
  exact ⟨_, rfl, .inr rfl⟩
theorem l_isIn_tot {l : List Int} (hl : l.length ≤ 1000000) (n : Int) : Tot (fun σ => F_l_isIn (σ 0) l n) (Says (n ∈ l)) := by
  refine tot_l_isIn ?_
  unfold B_l_isIn
  have key := loop_l_isIn_L0 (Q := fun _ _ _ r => Says (n ∈ l) r) (I := fun l' n' i => l' = l ∧ n' = n ∧ ∃ j : Nat, i = j ∧ j ≤ l.length ∧ ∀ q, q < j → l.getD q 0 ≠ n) (μ := fun _ _ i => l.length - i.toNat) ?_
  · exact key l n 0 ⟨rfl, rfl, 0, rfl, by omega, fun q hq => by omega⟩
  intro l' n' i ⟨e1, e2, j, e3, hj, hq⟩ again hag ih
  subst e1 e2 e3
  unfold B_l_isIn_L0b
  have hrd : rdx (0 : Int) l' (j : Int) = l'.getD j 0 := by rw [rdx_eq, Int.toNat_natCast]
  simp only [tot_cond, tot_chk, tot_some, decide_eq_true_eq, decide_eq_false_iff_not, len, inb_iff, beq_iff_eq, beq_eq_false_iff_ne, ne_eq, hrd]
  refine ⟨fun hlt => ⟨by omega, fun he => says_true (by rw [← he]; exact getDm (by omega)), fun hne => ?_⟩, fun hge => says_false fun hm => ?_⟩
  · rw [w64_succ (by omega) (by omega)]
    refine ih _ _ _ ⟨rfl, rfl, j + 1, rfl, by omega, fun q h => ?_⟩ (by simp; omega)
    by_cases e : q = j
    · subst e; exact hne
    · exact hq q (by omega)
  · obtain ⟨q, h1, h2⟩ := mem_getD hm
    exact hq q (by omega) h2
theorem l_within_tot {a b : List Int} (ha : a.length ≤ 1000000) (hb : b.length ≤ 1000000) (h : ∀ x ∈ a, x ∈ b) : Tot (fun σ => F_l_within (σ 0) a b) (fun r => r = ((true, ()), ())) := by
  refine tot_l_within ?_
  unfold B_l_within
  have key := loop_l_within_L0 (Q := fun _ _ _ r => r = ((true, ()), ())) (I := fun a' b' i => a' = a ∧ b' = b ∧ ∃ j : Nat, i = j ∧ j ≤ a.length) (μ := fun _ _ i => a.length - i.toNat) ?_
  · exact key a b 0 ⟨rfl, rfl, 0, rfl, by omega⟩
  intro a' b' i ⟨e1, e2, j, e3, hj⟩ again hag ih
  subst e1 e2 e3
  unfold B_l_within_L0b
  have hrd : rdx (0 : Int) a' (j : Int) = a'.getD j 0 := by rw [rdx_eq, Int.toNat_natCast]
  simp only [tot_cond, tot_chk, tot_some, decide_eq_true_eq, decide_eq_false_iff_not, len, inb_iff, hrd]
  refine ⟨fun hlt => ⟨by omega, (l_isIn_tot hb (a'.getD j 0)).bind ?_⟩, fun _ => trivial⟩
  rintro _ ⟨x, rfl, hx⟩
  have hx2 : x = true := hx.2 (h _ (getDm (by omega)))
  subst hx2
  simp only [tot_cond, Bool.not_true]
  refine ⟨fun h0 => absurd h0 (by decide), fun _ => ?_⟩
  rw [w64_succ (by omega) (by omega)]
  exact ih _ _ _ ⟨rfl, rfl, j + 1, rfl, by omega⟩ (by simp; omega)
theorem l_ascends_tot {l : List Int} (hl : l.length ≤ 1000000) (h : l.Pairwise (· < ·)) : Tot (fun σ => F_Z54 (σ 0) l) (fun r => r = ((true, ()), ())) := by
  refine tot_Z54 ?_
  unfold B_Z54
  have key := loop_Z54_L0 (Q := fun _ _ r => r = ((true, ()), ())) (I := fun l' i => l' = l ∧ ∃ j : Nat, i = j ∧ 1 ≤ j ∧ j ≤ l.length + 1) (μ := fun _ i => l.length + 1 - i.toNat) ?_
  · exact key l 1 ⟨rfl, 1, rfl, by omega, by omega⟩
  intro l' i ⟨e1, j, e3, hj1, hj⟩ again hag ih
  subst e1 e3
  unfold B_Z54_L0b
  have hw : w64 ((j : Int) - 1) = ((j - 1 : Nat) : Int) := by rw [w64_id (by omega) (by omega)]; omega
  have hrd : ∀ q : Nat, rdx (0 : Int) l' (q : Int) = l'.getD q 0 := fun q => by rw [rdx_eq, Int.toNat_natCast]
  simp only [hw, hrd]
  simp only [tot_cond, tot_chk, tot_some, decide_eq_true_eq, decide_eq_false_iff_not, len, inb_iff]
  refine ⟨fun hlt => ⟨by omega, by omega, fun hle => ?_, fun _ => ?_⟩, fun _ => trivial⟩
  · have hj' : j < l'.length := by omega
    have := List.pairwise_iff_getElem.1 h (j - 1) j (by omega) hj' (by omega)
    rw [List.getD_eq_getElem?_getD, List.getD_eq_getElem?_getD, List.getElem?_eq_getElem hj', List.getElem?_eq_getElem (show j - 1 < l'.length by omega)] at hle
    simp only [Option.getD_some] at hle
    omega
  · rw [w64_succ (by omega) (by omega)]
    exact ih _ _ ⟨rfl, j + 1, rfl, by omega, by omega⟩ (by simp; omega)
theorem sharedTo_asc (g : List PNode) (u : List Int) (j : Nat) : (sharedTo g u j).Pairwise (· < ·) := by
  unfold sharedTo
  rw [List.pairwise_map]
  exact (List.pairwise_lt_range.filter _).imp fun h => by omega
theorem sharedTo_mem {g : List PNode} {u : List Int} {j : Nat} {x : Int} (h : x ∈ sharedTo g u j) : 0 ≤ x ∧ x < (j : Int) ∧ u.getD x.toNat 0 > 1 ∧ (nd g x).1 ≠ 0 := by
  unfold sharedTo at h
  rw [List.mem_map] at h
  obtain ⟨i, h1, rfl⟩ := h
  rw [List.mem_filter, List.mem_range, ← Bool.decide_and, decide_eq_true_eq] at h1
  exact ⟨by omega, by omega, h1.2.1, h1.2.2⟩
theorem p_Z27 (code : List Int) (hc : ∀ z ∈ code, 0 ≤ z ∧ z ≤ 255) : ∃ k, F_Z27 k code = some ((true, ()), ()) := by
  refine Tot.ex (F := fun k => F_Z27 k code) ?_
  refine tot_Z27 ?_
  unfold B_Z27 B_Z27_J0 B_Z27_J1
  simp only [tot_cond, tot_some, decide_eq_true_eq, decide_eq_false_iff_not, len]
  refine ⟨fun _ => trivial, fun hl => ?_⟩
  have draw : Tot (fun σ => F_Z22 (σ 0) code) (fun r => ∃ (g : List PNode) (root : Int), r = (((g, root, ()), ()), ()) ∧ SmallG g) := by
    refine tot_Z22 ?_
    unfold B_Z22
    refine (newReader_tot hc (by omega)).bind ?_
    rintro _ ⟨b, rfl, hb⟩
    refine (anyGraph_tot hb (by omega)).bind ?_
    rintro _ ⟨_, q, rfl, _, _, g, root, rfl, hs⟩
    rw [tot_some]
    exact ⟨g, root, rfl, hs⟩
  refine draw.bind ?_
  rintro _ ⟨g, root, rfl, hs⟩
  have hmost := hs.most
  have hkk : ∀ n ∈ g, n.2.2.length ≤ 1000000 := fun n hn => by have := hs.kids n hn; omega
  by_cases hv : ValidG g root
  · have ol : (sharedP g root).length ≤ g.length := sharedTo_len _ _ _
    refine (i_SharedOf_tot (g := g) (root := root) (by omega) hkk).bind ?_
    rintro _ ⟨h1, _⟩
    rw [h1 hv]
    refine (s_SharedOf_tot (g := g) (root := root) (by omega) hkk).bind ?_
    rintro _ ⟨h2, _⟩
    rw [h2 hv]
    refine (equalInts_tot (by simp only []; omega)).bind ?_
    rintro _ ⟨b, rfl, hb⟩
    have hb2 : b = true := hb.2 rfl
    subst hb2
    simp only [tot_cond, Bool.not_true]
    refine ⟨fun h0 => absurd h0 (by decide), fun _ => (i_ValidGraph_tot (by omega) hkk).bind ?_⟩
    rintro _ ⟨b, rfl, hb⟩
    have hb2 : b = true := hb.2 hv
    subst hb2
    simp only [tot_cond, tot_jn, Bool.not_true]
    refine ⟨fun h0 => absurd h0 (by decide), fun _ => (i_ReachOf_tot hv).bind ?_⟩
    rintro _ rfl
    refine (i_TreeSize_tot hv).bind ?_
    rintro _ ⟨t, rfl, ht⟩
    have hmo := reachP_ok hv.kidly hv.root.1 hv.root.2
    have hml := hmo.len
    have mem : ∀ x ∈ sharedP g root, (0 ≤ x ∧ x < (g.length : Int)) ∧ (nd g x).1 ≠ 0 ∧ x ∈ reachP g root ∧ (reachP g root).length < tsz g (g.length + 1) root := by
      intro x hx
      have h3 := sharedTo_mem hx
      have h4 := shared_big hv.kidly hv.root.1 hv.root.2 ⟨h3.1, h3.2.1⟩ h3.2.2.1
      exact ⟨⟨h3.1, h3.2.1⟩, h3.2.2.2, h4⟩
    have st2 : Tot (fun σ => B_Z27_L2 (σ 0) (F_Z22 (σ 0)) (F_Z39 (σ 0)) (F_Z46 (σ 0)) (F_Z34 (σ 0)) (F_Z32 (σ 0)) (F_Z50 (σ 0)) (F_Z41 (σ 0)) (F_l_within (σ 0)) (F_Z54 (σ 0)) (σ 0) ((g, root, ()), sharedP g root, reachP g root, 0, ())) (fun r => r = ((true, ()), ())) := by
      have key := loop_Z27_L2 (Q := fun _ _ _ _ _ r => r = ((true, ()), ())) (I := fun g' r' o l i => g' = g ∧ r' = root ∧ o = sharedP g root ∧ l = reachP g root ∧ ∃ j : Nat, i = j ∧ j ≤ o.length) (μ := fun _ _ o _ i => o.length - i.toNat) ?_
      · exact key g root _ _ 0 ⟨rfl, rfl, rfl, rfl, 0, rfl, by omega⟩
      intro g' r' o l i ⟨e1, e2, e3, e4, j, e5, hj⟩ again hag ih
      subst e1 e2 e3 e4 e5
      unfold B_Z27_L2b
      simp only [tot_cond, tot_chk, tot_some, decide_eq_true_eq, decide_eq_false_iff_not, len, inb_iff, beq_iff_eq, beq_eq_false_iff_ne, ne_eq, Int.toNat_natCast]
      refine ⟨fun hlt => ?_, fun _ => ?_⟩
      · have hm := mem _ (getDm (show j < (sharedP g' r').length by omega))
        refine ⟨by omega, by omega, hm.1, fun h0 => absurd h0 hm.2.1, fun _ => ?_⟩
        rw [w64_succ (by omega) (by omega)]
        exact ih _ _ _ _ _ ⟨rfl, rfl, rfl, rfl, j + 1, rfl, by omega⟩ (by simp; omega)
      · refine (l_within_tot (by omega) (by omega) fun x hx => (mem x hx).2.2.1).bind ?_
        rintro _ rfl
        simp only [tot_cond]
        refine ⟨fun _ => (l_ascends_tot (l := sharedP g' r') (by omega) (sharedTo_asc _ _ _)).bind ?_, fun h0 => absurd h0 (by decide)⟩
        rintro _ rfl
        rw [tot_some]
    simp only [tot_cond, tot_jn, tot_some, beq_iff_eq, beq_eq_false_iff_ne, ne_eq, decide_eq_true_eq, decide_eq_false_iff_not, len]
    refine ⟨fun he => ⟨fun hpos => ?_, fun _ => st2⟩, fun _ => ⟨fun h0 => absurd h0 (by decide), fun _ => st2⟩⟩
    have hx := mem _ (getDm (show 0 < (sharedP g root).length by omega))
    have := hx.2.2.2
    omega
  · refine (i_SharedOf_tot (g := g) (root := root) (by omega) hkk).bind ?_
    rintro _ ⟨_, h1⟩
    rw [h1 hv]
    refine (s_SharedOf_tot (g := g) (root := root) (by omega) hkk).bind ?_
    rintro _ ⟨_, h2⟩
    rw [h2 hv]
    refine (equalInts_tot (by simp)).bind ?_
    rintro _ ⟨b, rfl, hb⟩
    have hb2 : b = true := hb.2 rfl
    subst hb2
    simp only [tot_cond, Bool.not_true]
    refine ⟨fun h0 => absurd h0 (by decide), fun _ => (i_ValidGraph_tot (by omega) hkk).bind ?_⟩
    rintro _ ⟨b, rfl, hb⟩
    have hb2 : b = false := by cases b with | false => rfl | true => exact absurd (hb.1 rfl) hv
    subst hb2
    simp only [tot_cond, tot_jn, Bool.not_false]
    refine ⟨fun _ => (s_SharedOf_tot (by omega) hkk).bind ?_, fun h0 => absurd h0 (by decide)⟩
    rintro _ ⟨_, h3⟩
    rw [h3 hv]
    refine (equalInts_tot (by simp)).bind ?_
    rintro _ ⟨b, rfl, hb⟩
    have hb2 : b = true := hb.2 rfl
    subst hb2
    rw [tot_some]
end Go.Gx

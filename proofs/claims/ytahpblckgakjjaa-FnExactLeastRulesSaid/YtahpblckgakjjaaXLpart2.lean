/-
  Plain laws about the printed functions.
-/
import Derived.Test.YtahpblckgakjjaaXLpart1
import Derived.Test.YtahpblckgakjjaaXGpart5
set_option linter.unusedVariables false
set_option linter.unusedSimpArgs false
namespace Go.Gx
/-- A list is copied up to j. -/
def CpTo {α : Type} (d : α) (a o : List α) (j : Nat) : Prop := o.length = a.length ∧ j ≤ a.length ∧ ∀ q, q < j → o.getD q d = a.getD q d
theorem CpTo.new {α : Type} (d e : α) (a : List α) : CpTo d a (List.replicate a.length e) 0 := ⟨by simp, by omega, fun q hq => by omega⟩
theorem CpTo.next {α : Type} {d : α} {a o : List α} {j : Nat} (h : CpTo d a o j) (hj : j < a.length) : CpTo d a (o.set j (a.getD j d)) (j + 1) := by
  obtain ⟨h1, h2, h3⟩ := h
  refine ⟨by simp [h1], by omega, fun q hq => ?_⟩
  rw [List.getD_eq_getElem?_getD, List.getElem?_set]
  by_cases e : j = q
  · subst e; simp [h1, hj]
  · rw [if_neg e, ← List.getD_eq_getElem?_getD]; exact h3 q (by omega)
theorem CpTo.stop {α : Type} {d : α} {a o : List α} {j : Nat} (h : CpTo d a o j) (hj : ¬ j < a.length) : o = a := ext_getD h.1 fun q hq => h.2.2 q (by have := h.1; omega)
theorem makeOk {n : Nat} (h : n ≤ 100000000000) : (decide (0 ≤ (n : Int) ∧ (n : Int) ≤ (lim : Int)) && ((n : Int) == (n : Int))) = true := by
  simp [lim]; omega
theorem eqIntS_tot {a b : List Int} (ha : a.length ≤ 900000000000) : Tot (fun σ => F_l_eqIntS (σ 0) a b) (Says (a = b)) := by
  refine tot_l_eqIntS ?_
  unfold B_l_eqIntS
  simp only [tot_cond, tot_some, len, bne_iff_ne, ne_eq, bne_eq_false_iff_eq]
  refine ⟨fun h => says_false fun e => h (by rw [e]), fun h => ?_⟩
  have hl : a.length = b.length := by omega
  have key := loop_l_eqIntS_L0 (Q := fun _ _ _ r => Says (a = b) r) (I := fun x y i => x = a ∧ y = b ∧ ∃ j : Nat, i = j ∧ j ≤ a.length ∧ ∀ q, q < j → a.getD q 0 = b.getD q 0) (μ := fun _ _ i => (a.length - i).toNat) ?_
  · exact key a b 0 ⟨rfl, rfl, 0, rfl, by omega, fun q hq => by omega⟩
  intro x y i ⟨e1, e2, j, e3, hj, hq⟩ again hag ih
  subst e1 e2 e3
  unfold B_l_eqIntS_L0b
  simp only [tot_cond, tot_chk, tot_some, decide_eq_true_eq, decide_eq_false_iff_not, len, inb_iff, bne_iff_ne, ne_eq, bne_eq_false_iff_eq]
  simp only [rdx_eq, Int.toNat_natCast]
  refine ⟨fun hlt => ⟨by omega, by omega, fun hne => says_false fun e => hne (by rw [e]), fun he => ?_⟩, fun hge => says_true (ext_getD hl fun i hi => hq i (by omega))⟩
  rw [w64_succ (by omega) (by omega)]
  refine ih _ _ _ ⟨rfl, rfl, j + 1, rfl, by omega, fun q h => ?_⟩ (by simp; omega)
  by_cases e : q = j
  · subst e; exact he
  · exact hq q (by omega)
/-- Numbers from k on. -/
def HldI (a : List Int) (k : Int) : Prop := ∀ q, q < a.length → a.getD q 0 = k + q
theorem markIntS_tot {a : List Int} {k : Int} (ha : a.length ≤ 1000000000) (hk : 0 ≤ k ∧ k ≤ 9000000000000000) : Tot (fun σ => F_Z55 (σ 0) a k) (fun r => ∃ b : List Int, r = ((k + (a.length : Int), ()), (b, ())) ∧ b.length = a.length ∧ HldI b k) := by
  refine tot_Z55 ?_
  unfold B_Z55
  have key := loop_Z55_L0 (Q := fun _ _ _ r => ∃ b : List Int, r = ((k + (a.length : Int), ()), (b, ())) ∧ b.length = a.length ∧ HldI b k) (I := fun b z i => b.length = a.length ∧ ∃ j : Nat, i = j ∧ j ≤ a.length ∧ z = k + j ∧ ∀ q, q < j → b.getD q 0 = k + q) (μ := fun _ _ i => a.length - i.toNat) ?_
  · exact key a k 0 ⟨rfl, 0, rfl, by omega, by omega, fun q hq => by omega⟩
  intro b z i ⟨e1, j, e2, hj, e3, hq⟩ again hag ih
  subst e2 e3
  unfold B_Z55_L0b
  simp only [tot_cond, tot_chk, tot_some, decide_eq_true_eq, decide_eq_false_iff_not, len, inb_iff, Int.toNat_natCast]
  refine ⟨fun hlt => ⟨by omega, by omega, ?_⟩, fun hge => ⟨b, by rw [show j = a.length by omega], e1, fun q h => hq q (by omega)⟩⟩
  rw [w64_succ (by omega) (by omega), show w64 (k + (j : Int) + 1) = k + ((j + 1 : Nat) : Int) by rw [w64_id (by omega) (by omega)]; omega]
  refine ih _ _ _ ⟨by simp [e1], j + 1, rfl, by omega, rfl, fun q h => ?_⟩ (by simp; omega)
  rw [List.getD_eq_getElem?_getD, List.getElem?_set]
  by_cases e : j = q
  · subst e; simp [show j < b.length by omega]
  · rw [if_neg e, ← List.getD_eq_getElem?_getD]; exact hq q (by omega)
theorem heldIntS_tot {a : List Int} {k : Int} (ha : a.length ≤ 1000000000) (hk : 0 ≤ k ∧ k ≤ 9000000000000000) (h : HldI a k) : Tot (fun σ => F_Z54 (σ 0) a k) (fun r => r = ((k + (a.length : Int), ()), ())) := by
  refine tot_Z54 ?_
  unfold B_Z54
  have key := loop_Z54_L0 (Q := fun _ _ _ r => r = ((k + (a.length : Int), ()), ())) (I := fun b z i => b = a ∧ ∃ j : Nat, i = j ∧ j ≤ a.length ∧ z = k + j) (μ := fun _ _ i => a.length - i.toNat) ?_
  · exact key a k 0 ⟨rfl, 0, rfl, by omega, by omega⟩
  intro b z i ⟨e1, j, e2, hj, e3⟩ again hag ih
  subst e1 e2 e3
  unfold B_Z54_L0b
  simp only [tot_cond, tot_chk, tot_some, decide_eq_true_eq, decide_eq_false_iff_not, len, inb_iff, rdx_eq, Int.toNat_natCast, bne_iff_ne, ne_eq, bne_eq_false_iff_eq]
  refine ⟨fun hlt => ⟨by omega, fun hne => absurd (h j (by omega)) hne, fun _ => ?_⟩, fun hge => by rw [show j = b.length by omega]⟩
  rw [w64_succ (by omega) (by omega), show w64 (k + (j : Int) + 1) = k + ((j + 1 : Nat) : Int) by rw [w64_id (by omega) (by omega)]; omega]
  exact ih _ _ _ ⟨rfl, j + 1, rfl, by omega, rfl⟩ (by simp; omega)
/-- What a measuring function answers: -1, or what is left. -/
def SzQ (P : Prop) (left : Int) (r : (Int × Unit) × Unit) : Prop := r = ((-1, ()), ()) ∨ ∃ z, r = ((z, ()), ()) ∧ 0 ≤ z ∧ z ≤ left ∧ P
end Go.Gx

/-
  Laws of exactness: programs are copied, compared and marked; rules are compared, marked and held.
-/
set_option linter.unusedVariables false
set_option linter.unusedSimpArgs false
namespace Go.Gx
abbrev dOp : POp := ((0 : Int), (0 : Int))
theorem toOpS_tot {a : List POp} (ha : a.length ≤ 100000000000) : Tot (fun σ => F_l_toOpS (σ 0) a) (fun r => r = ((a, ()), ())) := by
  refine tot_l_toOpS ?_
  unfold B_l_toOpS
  rw [tot_chk]
  refine ⟨makeOk ha, ?_⟩
  have key := loop_l_toOpS_L0 (Q := fun _ _ _ r => r = ((a, ()), ())) (I := fun x o i => x = a ∧ ∃ j : Nat, i = j ∧ CpTo dOp a o j) (μ := fun _ _ i => a.length - i.toNat) ?_
  · exact key a _ 0 ⟨rfl, 0, rfl, by simpa using CpTo.new dOp dOp a⟩
  intro x o i ⟨e1, j, e2, hc⟩ again hag ih
  subst e1 e2
  have hc1 := hc.1
  have hc2 := hc.2.1
  unfold B_l_toOpS_L0b
  simp only [tot_cond, tot_chk, tot_some, decide_eq_true_eq, decide_eq_false_iff_not, len, inb_iff, rdx_eq, Int.toNat_natCast]
  refine ⟨fun hlt => ⟨by omega, ?_⟩, fun hge => by rw [hc.stop (by omega)]⟩
  have h1 : Tot (fun σ => F_l_toOp (σ 0) (x.getD j dOp).1 (x.getD j dOp).2) (fun r => r = ((((x.getD j dOp).1, (x.getD j dOp).2, ()), ()), ())) := by
    refine tot_l_toOp ?_
    unfold B_l_toOp
    rw [tot_some]
  refine h1.bind ?_
  rintro _ rfl
  simp only [tot_chk, inb_iff, decide_eq_true_eq]
  refine ⟨by omega, by omega, ?_⟩
  rw [w64_succ (by omega) (by omega)]
  exact ih _ _ _ ⟨rfl, j + 1, rfl, hc.next (by omega)⟩ (by simp; omega)
theorem szOpS_tot {a : List POp} {left : Int} (ha : a.length ≤ maxLen) (hl : 0 ≤ left ∧ left ≤ 2000000) : Tot (fun σ => F_l_szOpS (σ 0) a left) (SzQ ((a.length : Int) ≤ left) left) := by
  refine tot_l_szOpS ?_
  unfold B_l_szOpS
  have hm : maxLen = 9223372036854775807 := by decide
  rw [show w64 (left - len a) = left - len a from w64_id (by unfold len; omega) (by unfold len; omega)]
  simp only [tot_cond, tot_some, decide_eq_true_eq, decide_eq_false_iff_not, len]
  exact ⟨fun _ => .inl rfl, fun h => .inr ⟨_, rfl, by omega, by omega, by omega⟩⟩
theorem eqOpS_tot {a b : List POp} (ha : a.length ≤ 900000000000) : Tot (fun σ => F_l_eqOpS (σ 0) a b) (Says (a = b)) := by
  refine tot_l_eqOpS ?_
  unfold B_l_eqOpS
  simp only [tot_cond, tot_some, len, bne_iff_ne, ne_eq, bne_eq_false_iff_eq]
  refine ⟨fun h => says_false fun e => h (by rw [e]), fun h => ?_⟩
  have hl : a.length = b.length := by omega
  have key := loop_l_eqOpS_L0 (Q := fun _ _ _ r => Says (a = b) r) (I := fun x y i => x = a ∧ y = b ∧ ∃ j : Nat, i = j ∧ j ≤ a.length ∧ ∀ q, q < j → a.getD q dOp = b.getD q dOp) (μ := fun _ _ i => (a.length - i).toNat) ?_
  · exact key a b 0 ⟨rfl, rfl, 0, rfl, by omega, fun q hq => by omega⟩
  intro x y i ⟨e1, e2, j, e3, hj, hq⟩ again hag ih
  subst e1 e2 e3
  unfold B_l_eqOpS_L0b
  simp only [tot_cond, tot_chk, tot_some, decide_eq_true_eq, decide_eq_false_iff_not, len, inb_iff]
  simp only [rdx_eq, Int.toNat_natCast]
  refine ⟨fun hlt => ⟨by omega, by omega, ?_⟩, fun hge => says_true (ext_getD hl fun i hi => hq i (by omega))⟩
  have h1 : Tot (fun σ => F_l_eqOp (σ 0) (x.getD j dOp).1 (x.getD j dOp).2 (y.getD j dOp).1 (y.getD j dOp).2) (Says (x.getD j dOp = y.getD j dOp)) := by
    refine tot_l_eqOp ?_
    unfold B_l_eqOp
    simp only [tot_cond, tot_some, bne_iff_ne, ne_eq, bne_eq_false_iff_eq]
    exact ⟨fun h => says_false fun e => h (by rw [e]), fun h1 => ⟨fun h => says_false fun e => h (by rw [e]), fun h2 => says_true (Prod.ext h1 h2)⟩⟩
  refine h1.bind ?_
  rintro _ ⟨c, rfl, hc⟩
  simp only [tot_cond, tot_some, Bool.not_eq_true', Bool.not_eq_false']
  refine ⟨fun hf => says_false fun e => ?_, fun ht => ?_⟩
  · rw [hc.2 (by rw [e])] at hf; cases hf
  · rw [w64_succ (by omega) (by omega)]
    refine ih _ _ _ ⟨rfl, rfl, j + 1, rfl, by omega, fun q h => ?_⟩ (by simp; omega)
    by_cases e : q = j
    · subst e; exact hc.1 ht
    · exact hq q (by omega)
theorem markOpS_tot {a : List POp} (ha : a.length ≤ 3000000) : Tot (fun σ => F_Z60 (σ 0) a 1) (fun r => ∃ (b : List POp) (k' : Int), r = ((k', ()), (b, ())) ∧ 0 ≤ k') := by
  refine tot_Z60 ?_
  unfold B_Z60
  have key := loop_Z60_L0 (Q := fun _ _ _ r => ∃ (b : List POp) (k' : Int), r = ((k', ()), (b, ())) ∧ 0 ≤ k')
    (I := fun b z i => b.length = a.length ∧ ∃ j : Nat, i = j ∧ j ≤ a.length ∧ z = 1 + 2 * (j : Int)) (μ := fun _ _ i => a.length - i.toNat) ?_
  · exact key a 1 0 ⟨rfl, 0, rfl, by omega, by omega⟩
  intro b z i ⟨e1, j, e2, hj, e3⟩ again hag ih
  subst e2 e3
  unfold B_Z60_L0b
  simp only [tot_cond, tot_chk, tot_some, decide_eq_true_eq, decide_eq_false_iff_not, len, inb_iff, Int.toNat_natCast, List.length_set]
  refine ⟨fun hlt => ⟨by omega, by omega, by omega, by omega, ?_⟩, fun hge => ⟨b, _, rfl, by omega⟩⟩
  have w1 : w64 (1 + 2 * (j : Int) + 1) = 2 + 2 * (j : Int) := by rw [w64_id (by omega) (by omega)]; omega
  have w2 : w64 (2 + 2 * (j : Int) + 1) = 1 + 2 * ((j + 1 : Nat) : Int) := by rw [w64_id (by omega) (by omega)]; omega
  rw [w1, w2, w64_succ (by omega) (by omega)]
  exact ih _ _ _ ⟨by simp [e1], j + 1, rfl, by omega, rfl⟩ (by simp; omega)
theorem eqRules_tot {a b c a' b' c' : Int} {l l' : List Int} (ha : l.length ≤ 900000000000) : Tot (fun σ => F_Z64 (σ 0) a b c l a' b' c' l') (Says (a = a' ∧ b = b' ∧ c = c' ∧ l = l')) := by
  refine tot_Z64 ?_
  unfold B_Z64
  simp only [tot_cond, tot_some, bne_iff_ne, ne_eq, bne_eq_false_iff_eq]
  refine ⟨fun h => says_false fun e => h e.1, fun h1 => ⟨fun h => says_false fun e => h e.2.1, fun h2 => ⟨fun h => says_false fun e => h e.2.2.1, fun h3 => ?_⟩⟩⟩
  refine (eqIntS_tot ha).bind ?_
  rintro _ ⟨x, rfl, hx⟩
  simp only [tot_cond, tot_some, Bool.not_eq_true', Bool.not_eq_false']
  exact ⟨fun hf => says_false fun e => (by rw [hx.2 e.2.2.2] at hf; cases hf), fun ht => says_true ⟨h1, h2, h3, hx.1 ht⟩⟩
theorem markRules_tot {a b c k : Int} {l : List Int} (ha : l.length ≤ 1000000000) (hk : 0 ≤ k ∧ k ≤ 1000) : Tot (fun σ => F_Z43 (σ 0) a b c l k) (fun r => ∃ l', r = ((k + (l.length : Int), ()), ((a, b, c, l', ()), ())) ∧ l'.length = l.length ∧ HldI l' k) := by
  refine tot_Z43 ?_
  unfold B_Z43
  refine (markIntS_tot ha ⟨hk.1, by omega⟩).bind ?_
  rintro _ ⟨l', rfl, h1, h2⟩
  rw [tot_some]
  exact ⟨l', rfl, h1, h2⟩
theorem heldRules_tot {a b c k : Int} {l : List Int} (ha : l.length ≤ 1000000000) (hk : 0 ≤ k ∧ k ≤ 1000) (h : HldI l k) : Tot (fun σ => F_Z50 (σ 0) a b c l k) (fun r => r = ((k + (l.length : Int), ()), ())) := by
  refine tot_Z50 ?_
  unfold B_Z50
  refine (heldIntS_tot ha ⟨hk.1, by omega⟩ h).bind ?_
  rintro _ rfl
  simp only [tot_cond, tot_some, decide_eq_true_eq, decide_eq_false_iff_not]
  exact ⟨fun h => by omega, fun _ => trivial⟩
end Go.Gx

/-
  The plain law of FnExactLeastRules.
-/
set_option linter.unusedVariables false
set_option linter.unusedSimpArgs false
namespace Go.Gx
theorem p_Z20 (x : List POp) (hz : SzT (.sl (.pair (.int .i64) (.int .i64))) x) : ∃ k, F_Z20 k x = some ((true, ()), ()) := by
  obtain ⟨hz1, _⟩ := hz
  refine Tot.ex (F := fun k => F_Z20 k x) ?_
  refine tot_Z20 ?_
  unfold B_Z20 B_Z20_J0 B_Z20_J1 B_Z20_J2
  refine (szOpS_tot (left := 1048576) hz1 (by omega)).bind ?_
  rintro _ (rfl | ⟨z, rfl, z1, z2, hg⟩)
  · simp only [tot_cond, tot_some]
    exact ⟨fun _ => trivial, fun h => absurd h (by decide)⟩
  simp only [tot_cond, decide_eq_true_eq, decide_eq_false_iff_not]
  refine ⟨fun h => by omega, fun _ => ?_⟩
  have hlen : x.length ≤ 1048576 := by omega
  have to1 : Tot (fun σ => F_l_toOpS (σ 0) x) (fun r => r = ((x, ()), ())) := toOpS_tot (by omega)
  refine to1.bind ?_
  rintro _ rfl
  refine (s_LeastRules_tot (ops := x) (by omega)).bind ?_
  rintro _ rfl
  refine to1.bind ?_
  rintro _ rfl
  have im := i_LeastRules_tot (ops := x) (by omega)
  refine im.bind ?_
  rintro _ rfl
  have hcl : (leastP x).1.cl.length ≤ 10 := by
    unfold leastP
    split
    · exact classesP_len x
    · simp
  generalize leastP x = L at hcl im ⊢
  obtain ⟨⟨a, b, c, l⟩, d⟩ := L
  dsimp only at hcl im ⊢
  have eqT : Tot (fun σ => F_Z64 (σ 0) a b c l a b c l) (fun r => r = ((true, ()), ())) := (eqRules_tot (by omega)).mono fun r hr => by
    obtain ⟨e, rfl, he⟩ := hr
    rw [he.2 ⟨rfl, rfl, rfl, rfl⟩]
  have eqg : Tot (fun σ => F_l_eqOpS (σ 0) x x) (fun r => r = ((true, ()), ())) := (eqOpS_tot (by omega)).mono fun r hr => by
    obtain ⟨e, rfl, he⟩ := hr
    rw [he.2 rfl]
  refine eqT.bind ?_
  rintro _ rfl
  simp only [tot_cond, tot_jn, Bool.not_true, beq_self_eq_true, Bool.false_eq_true, Bool.true_eq_false, false_implies, true_and, and_true, forall_const]
  refine to1.bind ?_
  rintro _ rfl
  refine eqg.bind ?_
  rintro _ rfl
  simp only [tot_cond, Bool.not_true, Bool.true_eq_false, Bool.false_eq_true, false_implies, true_and, and_true, forall_const]
  refine (markOpS_tot (a := x) (by omega)).bind ?_
  rintro _ ⟨_, k1, rfl, hk1⟩
  simp only [tot_cond, tot_jn, decide_eq_true_eq, decide_eq_false_iff_not]
  refine ⟨fun h => by omega, fun _ => ?_⟩
  refine eqT.bind ?_
  rintro _ rfl
  simp only [tot_cond, tot_jn, Bool.not_true, beq_self_eq_true, Bool.false_eq_true, Bool.true_eq_false, false_implies, true_and, and_true, forall_const]
  refine (markRules_tot (a := a) (b := b) (c := c) (l := l) (k := 1) (by omega) (by omega)).bind ?_
  rintro _ ⟨l', rfl, hl', hh⟩
  have held : Tot (fun σ => F_Z50 (σ 0) a b c l' 1) (fun r => r = ((1 + (l.length : Int), ()), ())) := by rw [← hl']; exact heldRules_tot (by omega) (by omega) hh
  refine held.bind ?_
  rintro _ rfl
  simp only [tot_cond, decide_eq_true_eq, decide_eq_false_iff_not, bne_self_eq_false, Bool.false_eq_true, Bool.true_eq_false, false_implies, true_and, and_true, forall_const]
  refine ⟨fun h => by omega, fun _ => ?_⟩
  refine to1.bind ?_
  rintro _ rfl
  refine im.bind ?_
  rintro _ rfl
  refine eqT.bind ?_
  rintro _ rfl
  simp only [tot_cond, tot_jn, Bool.not_true, beq_self_eq_true, Bool.false_eq_true, Bool.true_eq_false, false_implies, true_and, and_true, forall_const]
  refine held.bind ?_
  rintro _ rfl
  simp only [tot_cond, tot_some, decide_eq_true_eq, decide_eq_false_iff_not, bne_self_eq_false, Bool.false_eq_true, Bool.true_eq_false, false_implies, true_and, and_true, forall_const]
  exact ⟨fun h => by omega, fun _ => trivial⟩
end Go.Gx

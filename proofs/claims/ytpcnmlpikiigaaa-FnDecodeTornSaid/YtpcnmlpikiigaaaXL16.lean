/-
  Laws, part 16: lists are compared; programs are checked and written as bytes.
-/
import Derived.Test.YtpcnmlpikiigaaaXL15
set_option linter.unusedVariables false
set_option linter.unusedSimpArgs false
namespace Go.Gx
theorem getD_at {α : Type} {l : List α} {i : Nat} {d : α} (h : i < l.length) : l.getD i d = l[i] := by
  rw [List.getD_eq_getElem?_getD, List.getElem?_eq_getElem h]; rfl
theorem ext_getD {α : Type} {a b : List α} {d : α} (hl : a.length = b.length) (h : ∀ i, i < a.length → a.getD i d = b.getD i d) : a = b := by
  apply List.ext_getElem hl
  intro i h1 h2
  have := h i h1
  rwa [getD_at h1, getD_at h2] at this
theorem equalInts_tot {a b : List Int} (ha : a.length ≤ 900000000000) : Tot (fun σ => F_l_equalInts (σ 0) a b) (Says (a = b)) := by
  refine tot_l_equalInts ?_
  unfold B_l_equalInts
  simp only [tot_cond, tot_some, len, bne_iff_ne, ne_eq, bne_eq_false_iff_eq]
  refine ⟨fun h => says_false fun e => h (by rw [e]), fun h => ?_⟩
  have hl : a.length = b.length := by omega
  have key := loop_l_equalInts_L0 (Q := fun _ _ _ r => Says (a = b) r) (I := fun x y i => x = a ∧ y = b ∧ ∃ j : Nat, i = j ∧ j ≤ a.length ∧ ∀ q, q < j → a.getD q 0 = b.getD q 0) (μ := fun _ _ i => (a.length - i).toNat) ?_
  · exact key a b 0 ⟨rfl, rfl, 0, rfl, by omega, fun q hq => by omega⟩
  intro x y i ⟨e1, e2, j, e3, hj, hq⟩ again hag ih
  subst e1 e2 e3
  unfold B_l_equalInts_L0b
  simp only [tot_cond, tot_chk, tot_some, decide_eq_true_eq, decide_eq_false_iff_not, len, inb_iff, bne_iff_ne, ne_eq, bne_eq_false_iff_eq]
  simp only [rdx_eq, Int.toNat_natCast]
  refine ⟨fun hlt => ⟨by omega, by omega, fun hne => says_false fun e => hne (by rw [e]), fun he => ?_⟩, fun hge => says_true (ext_getD hl fun i hi => hq i (by omega))⟩
  rw [w64_succ (by omega) (by omega)]
  refine ih _ _ _ ⟨rfl, rfl, j + 1, rfl, by omega, fun q h => ?_⟩ (by simp; omega)
  by_cases e : q = j
  · subst e; exact he
  · exact hq q (by omega)
theorem equalOps_tot {a b : List POp} (ha : a.length ≤ 900000000000) : Tot (fun σ => F_l_equalOps (σ 0) a b) (Says (a = b)) := by
  refine tot_l_equalOps ?_
  unfold B_l_equalOps
  simp only [tot_cond, tot_some, len, bne_iff_ne, ne_eq, bne_eq_false_iff_eq]
  refine ⟨fun h => says_false fun e => h (by rw [e]), fun h => ?_⟩
  have hl : a.length = b.length := by omega
  have key := loop_l_equalOps_L0 (Q := fun _ _ _ r => Says (a = b) r) (I := fun x y i => x = a ∧ y = b ∧ ∃ j : Nat, i = j ∧ j ≤ a.length ∧ ∀ q, q < j → a.getD q ((0 : Int), (0 : Int)) = b.getD q ((0 : Int), (0 : Int))) (μ := fun _ _ i => (a.length - i).toNat) ?_
  · exact key a b 0 ⟨rfl, rfl, 0, rfl, by omega, fun q hq => by omega⟩
  intro x y i ⟨e1, e2, j, e3, hj, hq⟩ again hag ih
  subst e1 e2 e3
  unfold B_l_equalOps_L0b
  simp only [tot_cond, tot_chk, tot_some, decide_eq_true_eq, decide_eq_false_iff_not, len, inb_iff, Bool.not_eq_true', Bool.not_eq_false', Bool.and_eq_true, Bool.and_eq_false_iff, beq_iff_eq, beq_eq_false_iff_ne, ne_eq]
  simp only [rdx_eq, Int.toNat_natCast]
  refine ⟨fun hlt => ⟨by omega, by omega, fun hne => says_false fun e => ?_, fun he => ?_⟩, fun hge => says_true (ext_getD hl fun i hi => hq i (by omega))⟩
  · subst e; rcases hne with h | h <;> exact h rfl
  · rw [w64_succ (by omega) (by omega)]
    refine ih _ _ _ ⟨rfl, rfl, j + 1, rfl, by omega, fun q h => ?_⟩ (by simp; omega)
    by_cases e : q = j
    · subst e; exact Prod.ext he.1 he.2
    · exact hq q (by omega)
theorem i_ValidOps_tot {ops : List POp} (hl : ops.length ≤ 900000000000) : Tot (fun σ => F_i_ValidOps (σ 0) ops) (fun r => r = ((okOps ops, ()), ())) := by
  refine tot_i_ValidOps ?_
  unfold B_i_ValidOps
  have key := loop_i_ValidOps_L0 (Q := fun _ _ _ _ r => r = ((okOps ops, ()), ())) (I := fun o t5 t6 i => o = ops ∧ t5 = ops ∧ t6 = ops.length ∧ ∃ n : Nat, i = n ∧ n ≤ ops.length ∧ ops.all okOp = (ops.drop n).all okOp) (μ := fun _ _ _ i => (ops.length - i).toNat) ?_
  · exact key ops ops _ 0 ⟨rfl, rfl, rfl, 0, rfl, by omega, rfl⟩
  intro o t5 t6 i ⟨e1, e2, e3, n, e4, hn, hall⟩ again hag ih
  subst e1 e2 e3 e4
  unfold B_i_ValidOps_L0b
  simp only [tot_cond, tot_chk, tot_some, decide_eq_true_eq, decide_eq_false_iff_not, len, inb_iff]
  refine ⟨fun hlt => ⟨by omega, ?_⟩, fun hge => ?_⟩
  · have hn' : n < t5.length := by omega
    have hd : t5.drop n = rdx ((0 : Int), (0 : Int)) t5 n :: t5.drop (n + 1) := by
      rw [rdx_eq, List.drop_eq_getElem_cons hn', List.getD_eq_getElem?_getD, Int.toNat_natCast, List.getElem?_eq_getElem hn']; rfl
    refine (i_opOk_tot _ _).bind ?_
    rintro _ rfl
    simp only [tot_cond, tot_some, Bool.not_eq_true', Bool.not_eq_false']
    refine ⟨fun hb => ?_, fun hb => ?_⟩
    · have : t5.all okOp = false := by rw [hall, hd, List.all_cons, hb]; rfl
      simp [okOps, this]
    · rw [w64_succ (by omega) (by omega)]
      exact ih _ _ _ _ ⟨rfl, rfl, rfl, n + 1, rfl, by omega, by rw [hall, hd, List.all_cons, hb, Bool.true_and]⟩ (by simp; omega)
  · have : t5.all okOp = true := by rw [hall, List.drop_eq_nil_of_le (by omega)]; rfl
    simp [okOps, this]
    omega
theorem bytesP_most {o : POp} (h : okOp o = true) : bytesP o = if mostP o.1 = 0 then [o.1] else if o.2 < 128 then [o.1, o.2] else [o.1, 128 + o.2 % 128, o.2 / 128] := by
  unfold bytesP
  rcases arg_most o.1 with ⟨h1, h2⟩ | ⟨h1, h2⟩
  · rw [if_pos h1, if_pos h2]
  · rw [if_neg (by omega)]
    by_cases h3 : mostP o.1 = 0
    · exfalso
      rw [h3] at h2
      unfold argP at h2
      split at h2
      · omega
      split at h2
      · omega
      split at h2 <;> omega
    · rw [if_neg h3]
theorem i_EncodeOps_tot {ops : List POp} (hl : ops.length ≤ 900000000000) : Tot (fun σ => F_i_EncodeOps (σ 0) ops) (fun r => r = ((encP ops, ()), ())) := by
  refine tot_i_EncodeOps ?_
  unfold B_i_EncodeOps
  refine (i_ValidOps_tot hl).bind ?_
  rintro _ rfl
  simp only [tot_cond, tot_some, Bool.not_eq_true', Bool.not_eq_false']
  refine ⟨fun h => by simp [encP, h], fun h => ?_⟩
  obtain ⟨h1, h2⟩ := okOps_all h
  have hE : encP ops = ops.flatMap bytesP := by rw [encP, if_pos h]
  rw [hE]
  have key := loop_i_EncodeOps_L1 (Q := fun _ _ _ _ r => r = ((ops.flatMap bytesP, ()), ())) (I := fun out t10 t11 i => t10 = ops ∧ t11 = ops.length ∧ ∃ j : Nat, i = j ∧ j ≤ ops.length ∧ out = (ops.take j).flatMap bytesP) (μ := fun _ _ _ i => (ops.length - i).toNat) ?_
  · exact key [] ops _ 0 ⟨rfl, rfl, 0, rfl, by omega, rfl⟩
  intro out t10 t11 i ⟨e1, e2, j, e3, hj, e4⟩ again hag ih
  subst e1 e2 e3 e4
  unfold B_i_EncodeOps_L1b B_i_EncodeOps_J0
  have hfl := flatMap_len (t10.take j)
  simp only [List.length_take] at hfl
  simp only [tot_cond, tot_chk, tot_some, decide_eq_true_eq, decide_eq_false_iff_not, len, inb_iff]
  refine ⟨fun hlt => ⟨by omega, room_iff.2 (by simp only [List.length_cons, List.length_nil]; omega), ?_⟩, fun hge => ?_⟩
  · have hj' : j < t10.length := by omega
    have ho : okOp (rdx ((0 : Int), (0 : Int)) t10 j) = true := List.all_eq_true.1 h1 _ (rdx_mem (by omega) hlt)
    have hstep : (t10.take (j + 1)).flatMap bytesP = (t10.take j).flatMap bytesP ++ bytesP (rdx ((0 : Int), (0 : Int)) t10 j) := by
      rw [List.take_add_one, List.flatMap_append, rdx_eq, Int.toNat_natCast, List.getD_eq_getElem?_getD, List.getElem?_eq_getElem hj']
      simp
    rw [bytesP_most ho] at hstep
    have hr : 0 ≤ (rdx ((0 : Int), (0 : Int)) t10 j).2 ∧ (rdx ((0 : Int), (0 : Int)) t10 j).2 ≤ 999 := by
      simp only [okOp, decide_eq_true_eq] at ho
      have : mostP (rdx ((0 : Int), (0 : Int)) t10 j).1 ≤ 999 := by
        unfold mostP
        split
        · omega
        split
        · omega
        split <;> omega
      omega
    generalize rdx ((0 : Int), (0 : Int)) t10 j = o at ho hstep hr
    refine (i_mostArg_tot o.1).bind ?_
    rintro _ rfl
    have next : ∀ out' : List Int, out' = (t10.take (j + 1)).flatMap bytesP → Tot (fun σ => again σ (out', t10, (t10.length : Int), w64 ((j : Int) + 1), ())) (fun r => r = ((t10.flatMap bytesP, ()), ())) := by
      intro out' he
      rw [w64_succ (by omega) (by omega)]
      exact ih _ _ _ _ ⟨rfl, rfl, j + 1, rfl, by omega, he⟩ (by simp; omega)
    simp only [tot_cond, tot_chk, tot_jn, decide_eq_true_eq, decide_eq_false_iff_not, beq_iff_eq, beq_eq_false_iff_ne, ne_eq]
    refine ⟨fun h0 => next _ (by rw [hstep, if_pos h0]), fun h0 => ⟨fun h128 => ⟨room_iff.2 (by simp only [List.length_append, List.length_cons, List.length_nil]; omega), next _ (by rw [hstep, if_neg h0, if_pos h128]; simp)⟩, fun h128 => ⟨room_iff.2 (by simp only [List.length_append, List.length_cons, List.length_nil]; omega), next _ ?_⟩⟩⟩
    rw [hstep, if_neg h0, if_neg h128, Int.tmod_eq_emod_of_nonneg hr.1, Int.tdiv_eq_ediv_of_nonneg hr.1, w64_id (by omega) (by omega), w64_id (by omega) (by omega)]
    simp
  · have : j = t10.length := by omega
    subst this
    rw [List.take_length]
def decodeP (l : List Int) (r : ((List POp) × Bool × Unit) × Unit) : Prop :=
  (okBytes 1000 l ∧ (decP 300 l).2 = l.length ∧ r = (((decP 300 l).1, true, ()), ())) ∨ (¬ (okBytes 1000 l ∧ (decP 300 l).2 = l.length) ∧ r = (([], false, ()), ()))
theorem i_DecodeOps_tot {l : List Int} (hl : l.length ≤ 100000) : Tot (fun σ => F_i_DecodeOps (σ 0) l) (decodeP l) := by
  refine tot_i_DecodeOps ?_
  unfold B_i_DecodeOps
  refine (i_bytesOk_tot (by omega) 1000).bind ?_
  rintro _ ⟨b, rfl, hb⟩
  simp only [tot_cond, tot_some, Bool.not_eq_true', Bool.not_eq_false']
  refine ⟨fun hf => .inr ⟨fun h => absurd (hb.2 h.1) (by rw [hf]; decide), rfl⟩, fun ht => ?_⟩
  have hok := hb.1 ht
  refine (i_decoded_tot hok.2 (by omega)).bind ?_
  rintro _ rfl
  have := (decP_spec 300 hok.2).2.2.2
  simp only [tot_cond, tot_some, decide_eq_true_eq, decide_eq_false_iff_not, len]
  exact ⟨fun h => .inr ⟨fun hc => by omega, rfl⟩, fun h => .inl ⟨hok, by omega, rfl⟩⟩
theorem Tot.ex {R : Type} {F : Nat → Option R} {r : R} (h : Tot (fun σ => F (σ 0)) (fun x => x = r)) : ∃ k, F k = some r := by
  obtain ⟨x, rfl, K, h2⟩ := h
  exact ⟨K, h2 (fun _ => K) (fun _ => Nat.le_refl _)⟩
end Go.Gx

/-
  Plain laws about the printed functions.
-/
import Derived.Test.YtebjpbnpnmckcaaXLpart1
import Derived.Test.YtebjpbnpnmckcaaXGpart5
set_option linter.unusedVariables false
set_option linter.unusedSimpArgs false
namespace Go.Gx
def AnsI (m : Mc) (o : Option Mc) (r : (Bool × Unit) × ((Option (List PNode) × List Int × List Int × Bool × Unit) × Unit)) : Prop := match o with
  | some m' => r = ((true, ()), ((some m'.N, m'.S, m'.M, m'.D, ()), ()))
  | none => r.1.1 = false ∧ (m.N.length < 300 ∧ m.S.length < 300 → r = ((false, ()), ((some m.N, m.S, m.M, m.D, ()), ())))
theorem i_step_tot {m : Mc} {L : Nat} (h : MI m L) (hL : L ≤ 950000000) (hN : m.N.length ≤ 300) (hS : m.S.length ≤ 300) {c a : Int} (hc : okOp (c, a) = true) : Tot (fun σ => F_Z11 (σ 0) m.N m.S m.M m.D c a) (AnsI m (stepM m c a)) := by
  refine tot_Z11 ?_
  unfold B_Z11
  refine (clone_tot (by omega)).bind ?_
  rintro _ rfl
  rw [tot_cond]
  refine ⟨fun hd => ?_, fun hd => ?_⟩
  · have hD : m.D = false := by simpa using hd
    refine (do_tot h hL hN hS hD hc).bind fun r hr => ?_
    cases hs : stepM m c a with
    | some m' =>
      rw [hs] at hr
      obtain ⟨b, rfl⟩ := hr
      simp only [tot_cond, tot_some]
      exact ⟨fun _ => rfl, fun h0 => absurd h0 (by decide)⟩
    | none =>
      rw [hs] at hr
      obtain ⟨h1, h2, h3, h4⟩ := hr
      simp only [h1, tot_cond, tot_some]
      refine ⟨fun h0 => absurd h0 (by decide), fun _ => ⟨rfl, fun hlt => ?_⟩⟩
      have h4 := h4 hlt
      simp only [h4, h2, h3, cond_true]
  · have hD : m.D = true := by simpa using hd
    rw [tot_some, stepM_rawn (raw_none hD)]
    exact ⟨rfl, fun _ => rfl⟩
theorem copyNodes_tot {N : List PNode} (hN : N.length ≤ 1000000) (hk : ∀ n ∈ N, n.2.2.length ≤ 500000000000) : Tot (fun σ => F_Z34 (σ 0) N) (fun r => r = ((N, ()), ())) := by
  refine tot_Z34 ?_
  unfold B_Z34
  have key := loop_Z34_L0 (Q := fun out t7 t8 t9 r => r = ((N, ()), ())) (I := fun out t7 t8 t9 => t7 = N ∧ t8 = (N.length : Int) ∧ ∃ j : Nat, t9 = (j : Int) ∧ j ≤ N.length ∧ out = N.take j) (μ := fun _ _ _ t9 => (N.length - t9).toNat) ?_
  · exact key [] N _ 0 ⟨rfl, rfl, 0, rfl, by omega, rfl⟩
  intro out t7 t8 t9 ⟨e1, e2, j, e3, hj, e4⟩ again hag ih
  subst e1 e2 e3 e4
  unfold B_Z34_L0b
  simp only [tot_cond, tot_chk, tot_some, decide_eq_true_eq, decide_eq_false_iff_not, inb_iff, rdx_eq, Int.toNat_natCast]
  refine ⟨fun hlt => ?_, fun hge => ?_⟩
  · have hj' : j < t7.length := by omega
    refine ⟨by omega, (clone_tot (hk (t7.getD j d0) (getD_mem hj'))).bind ?_⟩
    rintro _ rfl
    simp only [tot_chk, room_iff, List.length_take, List.length_cons, List.length_nil]
    refine ⟨by omega, ?_⟩
    rw [show w64 ((j : Int) + 1) = ((j + 1 : Nat) : Int) by rw [w64_id (by omega) (by omega)]; omega]
    refine ih _ _ _ _ ⟨rfl, rfl, j + 1, rfl, by omega, ?_⟩ (by omega)
    rw [List.take_add_one, List.getElem?_eq_getElem hj', List.getD_eq_getElem?_getD, List.getElem?_eq_getElem hj']
    rfl
  · rw [List.take_of_length_le (by omega)]
theorem copyM_tot {m : Mc} {L : Nat} (h : MI m L) (hL : L ≤ 500000000000) : Tot (fun σ => F_Z19 (σ 0) m.N m.S m.M m.D) (fun r => r = ((MD m, ()), ())) := by
  have hN := h.kl; have hS := h.sl; have hM := h.ml
  refine tot_Z19 ?_
  unfold B_Z19
  refine (copyNodes_tot hN (fun n hn => by have := h.ni.ln n hn; omega)).bind ?_
  rintro _ rfl
  refine (clone_tot (by omega)).bind ?_
  rintro _ rfl
  refine (clone_tot (by omega)).bind ?_
  rintro _ rfl
  rw [tot_some]
theorem newM_tot : Tot (fun σ => F_Z24 (σ 0) 0) (fun r => r = ((([], (), List.replicate 20 (-1), false, ()), ()), ())) := by
  refine tot_Z24 ?_
  unfold B_Z24 B_Z24_J0
  simp only [tot_cond, tot_jn, tot_chk, tot_some]
  have hl : ((decide (0 ≤ 20 ∧ 20 ≤ (lim : Int)) && (20 == 20)) = true) := by decide
  have main : Tot (fun s => B_Z24_L2 (s 0) (s 0) (0, ((), (), (), false, ()), ((), (), (List.replicate (20 : Int).toNat (0 : Int)), false, ()), len (List.replicate (20 : Int).toNat (0 : Int)), 0, ())) (fun r => r = ((([], (), List.replicate 20 (-1), false, ()), ()), ())) := by
    have key := loop_Z24_L2 (Q := fun f t2 M D t16 t17 r => r = ((([], (), List.replicate 20 (-1), false, ()), ()), ())) (I := fun f t2 M D t16 t17 => f = 0 ∧ D = false ∧ t16 = 20 ∧ M.length = 20 ∧ ∃ j : Nat, t17 = (j : Int) ∧ j ≤ 20 ∧ ∀ i, i < j → M.getD i 0 = -1) (μ := fun _ _ _ _ _ t17 => (20 - t17).toNat) ?_
    · exact key 0 false _ false _ 0 ⟨rfl, rfl, rfl, rfl, 0, rfl, by omega, fun i hi => by omega⟩
    intro f t2 M D t16 t17 ⟨e1, e2, e3, hM, j, e4, hj, hp⟩ again hag ih
    subst e1 e2 e3 e4
    unfold B_Z24_L2b B_Z24_J1 B_Z24_J3
    simp only [tot_cond, tot_chk, tot_jn, tot_some, decide_eq_true_eq, decide_eq_false_iff_not, inb_iff, Int.toNat_natCast]
    refine ⟨fun hlt => ⟨fun _ => ⟨by omega, by omega, ?_⟩, fun h0 => by omega⟩, fun hge => ⟨fun h0 => absurd h0 (by decide), fun _ => ?_⟩⟩
    · rw [show w64 ((j : Int) + 1) = ((j + 1 : Nat) : Int) by rw [w64_id (by omega) (by omega)]; omega]
      refine ih _ _ _ _ _ _ ⟨rfl, rfl, rfl, by rw [List.length_set]; exact hM, j + 1, rfl, by omega, fun i hi => ?_⟩ (by omega)
      by_cases e : i = j
      · subst e
        rw [List.getD_eq_getElem?_getD, List.getElem?_set_self (by omega)]; rfl
      · rw [List.getD_eq_getElem?_getD, List.getElem?_set_ne (by omega), ← List.getD_eq_getElem?_getD]
        exact hp i (by omega)
    · have : M = List.replicate 20 (-1) := by
        apply List.ext_getElem
        · rw [hM, List.length_replicate]
        · intro i h1 h2
          have := hp i (by omega)
          rw [List.getD_eq_getElem?_getD, List.getElem?_eq_getElem h1, Option.getD_some] at this
          rw [this, List.getElem_replicate]
      rw [this]
  refine ⟨fun h0 => absurd h0 (by decide), fun _ => ⟨fun h0 => absurd h0 (by decide), fun _ => ⟨hl, main⟩⟩⟩
end Go.Gx

/-
  Laws, part M2: the reference's small functions on machines.
-/
set_option linter.unusedVariables false
set_option linter.unusedSimpArgs false
namespace Go.Gx
theorem s_push_tot {N : List PNode} {S M : List Int} {D : Bool} {k v : Int} {ks : List Int} (hN : N.length ≤ 2000000) (hS : S.length ≤ 2000000) :
    Tot (fun σ => F_s_push (σ 0) N S M D k v ks) (fun r => r = (((N ++ [(k, (v, ks))], S ++ [(N.length : Int)], M, D, ()), ()), ())) := by
  refine tot_s_push ?_
  unfold B_s_push
  have e : w64 (len (N ++ [(k, (v, ks))]) - 1) = (N.length : Int) := by
    rw [w64_id] <;> simp only [len, List.length_append, List.length_cons, List.length_nil] <;> omega
  simp only [tot_chk, tot_some, room_iff, e, List.length_cons, List.length_nil]
  exact ⟨by omega, by omega, trivial⟩
theorem s_drop_tot {N : List PNode} {S M : List Int} {D : Bool} {n : Nat} (hS : S.length ≤ 2000000) (hn : n ≤ S.length) :
    Tot (fun σ => F_s_drop (σ 0) N S M D (n : Int)) (fun r => r = (((N, S.take (S.length - n), M, D, ()), ()), ())) := by
  refine tot_s_drop ?_
  unfold B_s_drop
  have e : w64 (len S - (n : Int)) = (S.length : Int) - n := by rw [w64_id] <;> simp only [len] <;> omega
  simp only [tot_chk, tot_some, cutb_iff, e]
  refine ⟨by omega, ?_⟩
  rw [show ((S.length : Int) - n).toNat = S.length - n by omega]
theorem s_top_tot {N : List PNode} {S M : List Int} {D : Bool} (d : Nat) (hS : S.length ≤ 2000000) (hd : d ≤ 1000) :
    Tot (fun σ => F_s_top (σ 0) N S M D (d : Int)) (fun r => r = ((topO S d, ()), ())) := by
  refine tot_s_top ?_
  unfold B_s_top
  have e1 : w64 (len S - 1) = (S.length : Int) - 1 := by rw [w64_id] <;> simp only [len] <;> omega
  have e2 : w64 ((S.length : Int) - 1 - d) = (S.length : Int) - 1 - d := by rw [w64_id] <;> omega
  simp only [tot_cond, tot_chk, tot_some, e1, e2, decide_eq_true_eq, decide_eq_false_iff_not, inb_iff]
  refine ⟨fun h => ?_, fun h => ⟨by omega, ?_⟩⟩
  · rw [topO, if_neg (by omega)]
  · rw [topO, if_pos (by omega), rdx_eq, topN, show ((S.length : Int) - 1 - d).toNat = S.length - 1 - d by omega]
theorem s_kindOf_tot {N : List PNode} {S M : List Int} {D : Bool} {x : Int} (hx : x < (N.length : Int)) :
    Tot (fun σ => F_s_kindOf (σ 0) N S M D x) (fun r => r = (((if x < 0 then -1 else (N.getD x.toNat d0).1), ()), ())) := by
  refine tot_s_kindOf ?_
  unfold B_s_kindOf
  simp only [tot_cond, tot_chk, tot_some, decide_eq_true_eq, decide_eq_false_iff_not, inb_iff]
  refine ⟨fun h => by rw [if_pos h], fun h => ⟨by omega, by rw [if_neg h]; rfl⟩⟩
theorem s_markAt_tot {N : List PNode} {S M : List Int} {D : Bool} (hS : S.length ≤ 2000000) :
    Tot (fun σ => F_s_markAt (σ 0) N S M D) (fun r => r = (((match markAt S S.length with | some i => (i : Int) | none => -1), ()), ())) := by
  refine tot_s_markAt ?_
  unfold B_s_markAt
  have e : w64 (len S - 1) = (S.length : Int) - 1 := by rw [w64_id] <;> simp only [len] <;> omega
  rw [e]
  have key := loop_s_markAt_L0 (Q := fun N' S' M' D' i r => r = (((match markAt S S.length with | some i => (i : Int) | none => -1), ()), ())) (I := fun N' S' M' D' i => S' = S ∧ ∃ n : Nat, i = (n : Int) - 1 ∧ n ≤ S.length ∧ markAt S n = markAt S S.length) (μ := fun _ _ _ _ i => (i + 1).toNat) ?_
  · exact key N S M D _ ⟨rfl, S.length, rfl, Nat.le_refl _, rfl⟩
  intro N' S' M' D' i ⟨e1, n, e2, hn, hm⟩ again hag ih
  subst e1 e2
  unfold B_s_markAt_L0b
  simp only [tot_cond, tot_chk, tot_some, decide_eq_true_eq, decide_eq_false_iff_not, inb_iff]
  cases n with
  | zero => exact ⟨fun h => by omega, fun _ => by rw [← hm]; rfl⟩
  | succ j =>
    simp only [show ((j + 1 : Nat) : Int) - 1 = (j : Int) by omega, rdx_eq, Int.toNat_natCast]
    refine ⟨fun _ => ⟨by omega, fun hlt => ?_, fun hge => ?_⟩, fun h => by omega⟩
    · rw [← hm, markAt, if_pos hlt]
    · rw [w64_id (by omega) (by omega)]
      exact ih _ _ _ _ _ ⟨rfl, j, rfl, by omega, by rw [← hm, markAt, if_neg hge]⟩ (by omega)
theorem s_copyInts' {l : List Int} (h : l.length ≤ 500000000000) : Tot (fun σ => F_Z48 (σ 0) l) (fun r => r = ((l, ()), ())) := copyInts_tot h
theorem s_goodKeys_tot {N : List PNode} {S M : List Int} {D : Bool} {l : List Int} (hl : l.length ≤ 2000000) (hr : ∀ x ∈ l, 0 ≤ x ∧ x < (N.length : Int)) :
    Tot (fun σ => F_Z52 (σ 0) N S M D l) (fun r => r = ((keysOk (N.map (·.1)) l && decide (l.length % 2 = 0), ()), ())) := by
  refine tot_Z52 ?_
  unfold B_Z52
  have key := loop_Z52_L0 (Q := fun l' N' S' M' D' i r => r = ((keysOk (N.map (·.1)) l && decide (l.length % 2 = 0), ()), ())) (I := fun l' N' S' M' D' i => l' = l ∧ N' = N ∧ ∃ j : Nat, i = (j : Int) ∧ j ≤ l.length + 1 ∧ j % 2 = 0 ∧ keysOk (N.map (·.1)) l = keysOk (N.map (·.1)) (l.drop j)) (μ := fun _ _ _ _ _ i => (l.length + 2 - i).toNat) ?_
  · exact key l N S M D 0 ⟨rfl, rfl, 0, rfl, by omega, rfl, rfl⟩
  intro l' N' S' M' D' i ⟨e1, e2, j, e3, hj, hj2, hk⟩ again hag ih
  subst e1 e2 e3
  unfold B_Z52_L0b
  simp only [tot_cond, tot_chk, tot_some, decide_eq_true_eq, decide_eq_false_iff_not, inb_iff, len]
  refine ⟨fun hlt => ?_, fun hge => ?_⟩
  · have hj3 : j < l'.length := by omega
    have hx := hr _ (getD_mem (d := 0) hj3)
    simp only [rdx_eq, Int.toNat_natCast]
    refine ⟨by omega, hx, (isKey_tot _ _ []).bind ?_⟩
    rintro _ ⟨b, rfl, hb⟩
    have hdrop : l'.drop j = l'.getD j 0 :: l'.drop (j + 1) := by
      rw [List.drop_eq_getElem_cons hj3, List.getD_eq_getElem?_getD, List.getElem?_eq_getElem hj3]; rfl
    have hkp : b = keyP ((N'.map (·.1)).getD (l'.getD j 0).toNat 0) := by
      have e := getD_map' (fun n : PNode => n.1) N' (l'.getD j 0).toNat d0
      have e' : (N'.map (·.1)).getD (l'.getD j 0).toNat 0 = (N'.getD (l'.getD j 0).toNat d0).1 := e
      rw [e', Bool.eq_iff_iff, hb]
      simp [isKeyP, keyP]
    simp only [tot_cond, tot_some]
    refine ⟨fun hb' => ?_, fun hb' => ?_⟩
    · have hbf : b = false := by simpa using hb'
      rw [hbf] at hkp
      have : keysOk (N'.map (·.1)) l' = false := by
        rw [hk, hdrop]
        cases hq : l'.drop (j + 1) with
        | nil => simp only [keysOk, ← hkp]
        | cons y r => simp only [keysOk, ← hkp, Bool.false_and]
      rw [this]; rfl
    · have hbt : b = true := by simpa using hb'
      rw [hbt] at hkp
      rw [show w64 ((j : Int) + 2) = ((j + 2 : Nat) : Int) by rw [w64_id (by omega) (by omega)]; omega]
      refine ih _ _ _ _ _ _ ⟨rfl, rfl, j + 2, rfl, by omega, by omega, ?_⟩ (by omega)
      rw [hk, hdrop]
      cases hq : l'.drop (j + 1) with
      | nil =>
        have : l'.drop (j + 2) = [] := by rw [show j + 2 = j + 1 + 1 by omega, ← List.drop_drop, hq]; rfl
        simp only [keysOk, ← hkp, this]
      | cons y r =>
        have : l'.drop (j + 2) = r := by rw [show j + 2 = j + 1 + 1 by omega, ← List.drop_drop, hq]; rfl
        simp only [keysOk, ← hkp, this, Bool.true_and]
  · have hko : keysOk (N'.map (·.1)) l' = true := by rw [hk, List.drop_eq_nil_of_le (by omega)]; rfl
    have e3 : ((l'.length : Int).tmod 2 == 0) = decide (l'.length % 2 = 0) := by
      rw [Int.tmod_eq_emod_of_nonneg (by omega)]
      rw [Bool.eq_iff_iff]; simp only [beq_iff_eq, decide_eq_true_eq]; omega
    rw [hko, e3]; rfl
end Go.Gx

/-
  Laws, part M3: an order, by the reference.
-/
set_option linter.unusedVariables false
set_option linter.unusedSimpArgs false
namespace Go.Gx
theorem s_putItem_tot {N : List PNode} {S M : List Int} {D : Bool} {dict key value : Int} {L : Nat} (hL : L ≤ 1000000000) (hni : NI N N.length L) (hN : N.length ≤ 1000000) (hd : 0 ≤ dict ∧ dict < (N.length : Int)) (hk : 0 ≤ key ∧ key < (N.length : Int)) (h4 : (N.getD dict.toNat d0).1 = 4) :
    Tot (fun σ => F_Z69 (σ 0) N S M D dict key value) (fun r => r = (((putItemP N dict key value, S, M, D, ()), ()), ())) := by
  refine tot_Z69 ?_
  unfold B_Z69
  have hm := getD_mem (d := d0) (show dict.toNat < N.length by omega)
  have hev := hni.ev _ hm h4
  have hrg := hni.rg _ hm
  have hln := hni.ln _ hm
  have hkids : (N.getD dict.toNat d0).2.2 = kidsAt N dict := rfl
  rw [hkids] at hev hrg hln
  simp only [tot_chk, inb_iff, decide_eq_true_eq]
  refine ⟨hd, by omega, ?_⟩
  have key' := loop_Z69_L0 (Q := fun d' k' v' t8 kids i m_Nodes m_Stack m_Memo m_Done r => r = (((putItemP N dict key value, S, M, D, ()), ()), ()))
    (I := fun d' k' v' t8 kids i m_Nodes m_Stack m_Memo m_Done => d' = dict ∧ k' = key ∧ v' = value ∧ kids = kidsAt N dict ∧ m_Nodes = (N, dict.toNat) ∧ m_Stack = S ∧ m_Memo = M ∧ m_Done = D ∧ ∃ j : Nat, i = (j : Int) ∧ j % 2 = 0 ∧ j ≤ kids.length ∧ fk N (N.getD key.toNat d0) kids 0 = fk N (N.getD key.toNat d0) kids j)
    (μ := fun _ _ _ _ kids i _ _ _ _ => (kids.length + 2 - i).toNat) ?_
  · exact key' dict key value false (kidsAt N dict) 0 (N, dict.toNat) S M D ⟨rfl, rfl, rfl, rfl, rfl, rfl, rfl, rfl, 0, rfl, rfl, by omega, rfl⟩
  intro d' k' v' t8 kids i m_Nodes m_Stack m_Memo m_Done ⟨e1, e2, e3, e4, e5, e6, e7, e8, j, e9, hj2, hjl, hf⟩ again hag ih
  subst e1 e2 e3 e5 e6 e7 e8 e9
  unfold B_Z69_L0b
  simp only [tot_cond, tot_chk, decide_eq_true_eq, decide_eq_false_iff_not, inb_iff, len]
  refine ⟨fun hlt => ?_, fun hge => ?_⟩
  · have hj : j < kids.length := by omega
    rw [← e4] at hev hrg hln
    have hx := hrg _ (getD_mem (d := 0) hj)
    simp only [Int.toNat_natCast]
    refine ⟨by omega, hj, hx, by omega, hk, by omega, (sameKey_tot _ _ [] _ _ []).bind ?_⟩
    rintro _ ⟨b, rfl, hb⟩
    have hbs : b = sameB (N.getD (kids.getD j 0).toNat d0) (N.getD k'.toNat d0) := by
      rw [Bool.eq_iff_iff, hb]
      simp [sameP, sameB]
    have e1 : w64 ((j : Int) + 1) = ((j + 1 : Nat) : Int) := by rw [w64_id (by omega) (by omega)]; omega
    have e2 : w64 ((j : Int) + 2) = ((j + 2 : Nat) : Int) := by rw [w64_id (by omega) (by omega)]; omega
    simp only [tot_cond, tot_chk, tot_some, decide_eq_true_eq, inb_iff, e1, e2, Int.toNat_natCast]
    have hfj := hf
    rw [fk.eq_1 (i := j), if_pos hj] at hfj
    refine ⟨fun hb' => ?_, fun hb' => ?_⟩
    · rw [hbs] at hb'
      rw [if_pos hb'] at hfj
      refine ⟨by omega, by omega, ?_⟩
      unfold putItemP putK
      rw [← e4, hfj]
      rfl
    · rw [hbs] at hb'
      rw [if_neg (by rw [hb']; decide)] at hfj
      exact ih _ _ _ _ _ _ _ _ _ _ ⟨rfl, rfl, rfl, e4, rfl, rfl, rfl, rfl, j + 2, rfl, by omega, by omega, hfj⟩ (by omega)
  · have hj : ¬ j < kids.length := by omega
    rw [← e4] at hln
    simp only [tot_some, room_iff, List.length_cons, List.length_nil]
    refine ⟨by omega, hd, trivial, ?_⟩
    rw [fk.eq_1 (i := j), if_neg hj] at hf
    unfold putItemP putK
    rw [← e4, hf]
    rfl
/-- What the parts of an order answer. -/
def AnsQ (o : Option Mc) (r : ((List PNode × List Int × List Int × Bool × Unit) × Bool × Unit) × Unit) : Prop := match o with
  | some m => r = ((MD m, true, ()), ())
  | none => r.1.2.1 = false
def markQ (m : Mc) (c : Int) : Option Mc := (markP m.sh c).map fun s => ⟨nodesP m c 0, s.S, s.M, s.D⟩
def takeQ (m : Mc) (c a : Int) : Option Mc := (takeP m.sh c a).map fun s => ⟨nodesP m c a, s.S, s.M, s.D⟩
theorem s_stepMark_tot {m : Mc} {L : Nat} (h : MI m L) (hL : L ≤ 900000000) {c a : Int} (hc : c = 3 ∨ c = 9 ∨ c = 12 ∨ c = 18) : Tot (fun σ => F_Z53 (σ 0) m.N m.S m.M m.D c a) (AnsQ (markQ m c)) := by
  have hN := h.kl; have hS := h.sl
  refine tot_Z53 ?_
  unfold B_Z53
  refine (s_markAt_tot (by omega)).bind ?_
  rintro _ rfl
  unfold markQ
  cases hi : markAt m.S m.S.length with
  | none =>
    have e : markP m.sh c = none := by rw [markP]; show (match markAt m.S m.S.length with | none => none | some i => _) = none; rw [hi]
    rw [e]
    simp only [tot_cond, tot_some]
    exact ⟨fun _ => rfl, fun h0 => absurd h0 (by decide)⟩
  | some i =>
    obtain ⟨hil, _, _⟩ := markAt_lt hi
    have hab := above_in h hi
    have hmk : mkAt m.S = i := by unfold mkAt; rw [hi]; rfl
    have e : markP m.sh c = if c = 3 then some (pushP { m.sh with S := m.S.take i } 2) else if c = 9 then (if shapeP (m.N.map (·.1)) (m.S.take i) 0 = 3 then some { m.sh with S := m.S.take i } else none)
        else if c = 12 then (if shapeP (m.N.map (·.1)) (m.S.take i) 0 = 4 ∧ (m.S.drop (i + 1)).length % 2 = 0 ∧ keysOk (m.N.map (·.1)) (m.S.drop (i + 1)) = true then some { m.sh with S := m.S.take i } else none) else some { m.sh with S := m.S.take i } := by
      rw [markP]; show (match markAt m.S m.S.length with | none => none | some i => _) = _; rw [hi]; rfl
    rw [e]
    have e1 : w64 ((i : Int) + 1) = (i : Int) + 1 := w64_id (by omega) (by omega)
    have hSt : ∀ x ∈ m.S.take i, -1 ≤ x ∧ x < (m.N.length : Int) := fun x hx => h.st x (List.mem_of_mem_take hx)
    simp only [tot_cond, decide_eq_true_eq, decide_eq_false_iff_not, tot_chk, cutb_iff, e1, len, Int.toNat_natCast, List.take_length, show ((i : Int) + 1).toNat = i + 1 by omega]
    refine ⟨fun h0 => by omega, fun _ => ⟨by omega, (s_copyInts' (by simp only [List.length_drop]; omega)).bind ?_⟩⟩
    rintro _ rfl
    have e2 : w64 (((m.S.drop (i + 1)).length : Int) + 1) = ((m.S.length - i : Nat) : Int) := by
      rw [w64_id] <;> simp only [List.length_drop] <;> omega
    simp only [e2]
    refine (s_drop_tot (by omega) (by omega)).bind ?_
    rintro _ rfl
    simp only [show m.S.length - (m.S.length - i) = i by omega]
    refine (s_top_tot 0 (by simp only [List.length_take]; omega) (by omega)).bind ?_
    rintro _ rfl
    simp only [tot_cond, beq_iff_eq, beq_eq_false_iff_ne, ne_eq]
    refine ⟨fun h3 => ?_, fun h3 => ⟨fun h9 => ?_, fun h9 => ⟨fun h12 => ?_, fun h12 => ?_⟩⟩⟩
    · subst h3
      refine (s_push_tot (by omega) (by simp only [List.length_take]; omega)).bind ?_
      rintro _ rfl
      rw [tot_some, if_pos rfl]
      show _ = _
      simp only [pushP, nodesP, Mc.sh, hmk, MD, List.length_map]
      rfl
    · subst h9
      refine (s_kindOf_tot (topO_lt hSt 0)).bind ?_
      rintro _ rfl
      simp only [kindOf_top, tot_cond, tot_some, bne_iff_ne, ne_eq, bne_eq_false_iff_eq]
      simp only [Int.reduceEq, if_false, if_true]
      refine ⟨fun hk => by rw [if_neg hk]; rfl, fun hk => ?_⟩
      rw [if_pos hk]
      obtain ⟨q1, q2, q3⟩ := shapeP_top (d := 0) hSt (by rw [hk]; decide)
      have et : topO (m.S.take i) 0 = topN (m.S.take i) 0 := by unfold topO; rw [if_pos q1]
      rw [et]
      have hm := getD_mem (d := d0) (show (topN (m.S.take i) 0).toNat < m.N.length by omega)
      have hln : ((m.N.getD (topN (m.S.take i) 0).toNat ((0 : Int), ((0 : Int), ([] : List Int)))).2.2).length ≤ L := h.ni.ln _ hm
      simp only [tot_chk, tot_jn, tot_some, inb_iff, decide_eq_true_eq, room_iff, List.length_drop]
      refine ⟨⟨q2, q3⟩, by omega, by omega, ⟨q2, q3⟩, trivial, ?_⟩
      unfold B_Z53_J2
      rw [tot_some]
      show _ = _
      simp only [nodesP, hmk, MD]
      rfl
    · subst h12
      refine (s_kindOf_tot (topO_lt hSt 0)).bind ?_
      rintro _ rfl
      simp only [kindOf_top, tot_cond, tot_jn, bne_iff_ne, ne_eq, bne_eq_false_iff_eq]
      simp only [Int.reduceEq, if_false, if_true]
      unfold B_Z53_J0
      refine ⟨fun hk => ?_, fun hk => ?_⟩
      · rw [if_neg (fun h0 => hk h0.1)]
        simp only [tot_cond, tot_some]
        exact ⟨fun _ => rfl, fun h0 => absurd h0 (by decide)⟩
      refine (s_goodKeys_tot (by simp only [List.length_drop]; omega) hab).bind ?_
      rintro _ rfl
      simp only [tot_jn, tot_cond, tot_some, Bool.not_eq_true', Bool.not_eq_false', Bool.and_eq_true, Bool.and_eq_false_iff, decide_eq_true_eq, decide_eq_false_iff_not]
      refine ⟨fun hg => ?_, fun hg => ?_⟩
      · rw [if_neg]
        · rfl
        · rintro ⟨_, h1, h2⟩
          rcases hg with hg | hg
          · rw [h2] at hg; cases hg
          · exact hg h1
      · rw [if_pos ⟨hk, hg.2, hg.1⟩]
        obtain ⟨q1, q2, q3⟩ := shapeP_top (d := 0) hSt (by rw [hk]; decide)
        have et : topO (m.S.take i) 0 = topN (m.S.take i) 0 := by unfold topO; rw [if_pos q1]
        rw [et]
        obtain ⟨_, _, hk4⟩ := kindP hk (by decide)
        have hl1 : (m.S.drop (i + 1)).length ≤ 1000000 := by simp only [List.length_drop]; omega
        have hev := hg.2
        have hnod : nodesP m 12 0 = putsP m.N (topN (m.S.take i) 0) (m.S.drop (i + 1)) := by simp only [nodesP, hmk]; rfl
        rw [hnod]
        generalize hl : m.S.drop (i + 1) = l at hab hl1 hev
        generalize hd : topN (m.S.take i) 0 = d at q2 q3 hk4
        have key := loop_Z53_L1 (Q := fun N' S' M' D' t4 l' b' i' r => AnsQ (some ⟨putsP m.N d l, m.S.take i, m.M, m.D⟩) r)
          (I := fun N' S' M' D' t4 l' b' i' => S' = m.S.take i ∧ M' = m.M ∧ D' = m.D ∧ l' = l ∧ b' = d ∧ ∃ j : Nat, i' = (j : Int) ∧ j % 2 = 0 ∧ j ≤ l.length ∧ NI N' m.N.length (L + j) ∧ N'.length = m.N.length ∧ (N'.getD d.toNat d0).1 = 4 ∧ putsP m.N d l = putsP N' d (l.drop j))
          (μ := fun _ _ _ _ _ _ _ i' => (l.length + 2 - i').toNat) ?_
        · exact key m.N (m.S.take i) m.M m.D false l d 0 ⟨rfl, rfl, rfl, rfl, rfl, 0, rfl, rfl, by omega, h.ni, rfl, hk4, rfl⟩
        intro N' S' M' D' t4 l' b' i' ⟨f1, f2, f3, f4, f5, j, f6, hj2, hjl, hni, hNl, h4, hp⟩ again hag ih
        subst f1 f2 f3 f4 f5 f6
        unfold B_Z53_L1b
        simp only [tot_cond, tot_chk, decide_eq_true_eq, decide_eq_false_iff_not, inb_iff, len, Int.toNat_natCast]
        refine ⟨fun hlt => ?_, fun hge => ?_⟩
        · have hj : j + 1 < l'.length := by omega
          have f1 : w64 ((j : Int) + 1) = ((j + 1 : Nat) : Int) := by rw [w64_id (by omega) (by omega)]; omega
          have f2 : w64 ((j : Int) + 2) = ((j + 2 : Nat) : Int) := by rw [w64_id (by omega) (by omega)]; omega
          simp only [f1, f2, Int.toNat_natCast]
          have hx := hab _ (getD_mem (d := 0) (show j < l'.length by omega))
          have hy := hab _ (getD_mem (d := 0) hj)
          refine ⟨by omega, by omega, by omega, by omega, (s_putItem_tot (L := L + j) (by omega) (by rw [hNl]; exact hni) (by omega) (by omega) (by omega) h4).bind ?_⟩
          rintro _ rfl
          have hdrop : l'.drop j = l'.getD j 0 :: l'.getD (j + 1) 0 :: l'.drop (j + 2) := by
            rw [List.drop_eq_getElem_cons (by omega : j < l'.length), List.drop_eq_getElem_cons hj, List.getD_eq_getElem?_getD, List.getD_eq_getElem?_getD, List.getElem?_eq_getElem (by omega : j < l'.length), List.getElem?_eq_getElem hj]; rfl
          refine ih _ _ _ _ _ _ _ _ ⟨rfl, rfl, rfl, rfl, rfl, j + 2, rfl, by omega, by omega, (hni.putItem (by omega) hx hy), by rw [putItemP_len]; exact hNl, ?_, ?_⟩ (by omega)
          · unfold putItemP; rw [kind_eq (setK_kinds _ _ _)]; exact h4
          · rw [hp, hdrop, putsP]
        · simp only [tot_jn]
          unfold B_Z53_J2
          rw [tot_some, hp, List.drop_eq_nil_of_le (by omega), putsP]
          · rfl
          · intro k v r h0; cases h0
    · have h18 : c = 18 := by omega
      subst h18
      simp only [tot_jn, Int.reduceEq, if_false]
      unfold B_Z53_J2
      rw [tot_some]
      show _ = _
      simp only [nodesP, Mc.sh, MD]
      rfl
end Go.Gx

/-
  Laws, part M4: an order, by the reference: its whole.
-/
set_option linter.unusedVariables false
set_option linter.unusedSimpArgs false
namespace Go.Gx
theorem s_stepTop_tot {m : Mc} {L : Nat} (h : MI m L) (hL : L ≤ 900000000) {c a : Int} (hc : c = 5 ∨ c = 6 ∨ c = 8 ∨ c = 11 ∨ c = 14 ∨ c = 15 ∨ c = 17 ∨ c = 19) (ha : c = 15 → 0 ≤ a ∧ a < 20) : Tot (fun σ => F_Z60 (σ 0) m.N m.S m.M m.D c a) (AnsQ (takeQ m c a)) := by
  have hN := h.kl; have hS := h.sl; have hst := h.st; have hml := h.ml
  refine tot_Z60 ?_
  unfold B_Z60
  refine (s_top_tot 0 (by omega) (by omega)).bind ?_
  rintro _ rfl
  refine (s_top_tot 1 (by omega) (by omega)).bind ?_
  rintro _ rfl
  refine (s_top_tot 2 (by omega) (by omega)).bind ?_
  rintro _ rfl
  have n0 := top_neg h.ni m.S 0
  have n1 := top_neg h.ni m.S 1
  have n2 := top_neg h.ni m.S 2
  unfold takeQ takeP
  simp only
  have hsK : m.sh.K = m.N.map (·.1) := rfl
  have hsS : m.sh.S = m.S := rfl
  have hsF : m.sh.Fu = m.N.map fullN := rfl
  rw [hsK, hsS, hsF]
  rw [tot_cond]
  simp only [decide_eq_true_eq, decide_eq_false_iff_not]
  refine ⟨fun h0 => ?_, fun h0 => ?_⟩
  · rw [if_pos (n0.2 h0), tot_some]; rfl
  rw [if_neg (fun h1 => h0 (n0.1 h1))]
  obtain ⟨p1, p2, p3⟩ := topO_pos h0
  have p4 := topN_lt hst p1
  rw [p2]
  rcases hc with rfl | rfl | rfl | rfl | rfl | rfl | rfl | rfl
  · simp only [Int.reduceBEq, cond_true, if_true]
    refine (s_drop_tot (n := 1) (by omega) (by omega)).bind ?_
    rintro _ rfl
    dsimp only
    refine (s_push_tot (by omega) (by simp only [List.length_take]; omega)).bind ?_
    rintro _ rfl
    rw [tot_some]
    show _ = _
    simp only [pushP, dropP, Mc.sh, nodesP, MD, List.length_map]
    rfl
  · simp only [Int.reduceBEq, cond_true, cond_false, Int.reduceEq, if_false, if_true, tot_cond, decide_eq_true_eq, decide_eq_false_iff_not]
    refine ⟨fun h1 => ?_, fun h1 => ?_⟩
    · rw [if_pos (n1.2 h1), tot_some]; rfl
    · rw [if_neg (fun h2 => h1 (n1.1 h2))]
      obtain ⟨q1, q2, q3⟩ := topO_pos h1
      rw [q2]
      refine (s_drop_tot (n := 2) (by omega) (by omega)).bind ?_
      rintro _ rfl
      dsimp only
      refine (s_push_tot (by omega) (by simp only [List.length_take]; omega)).bind ?_
      rintro _ rfl
      rw [tot_some]
      show _ = _
      simp only [pushP, dropP, Mc.sh, nodesP, MD, List.length_map]
      rfl
  · simp only [Int.reduceBEq, cond_true, cond_false, Int.reduceEq, if_false, if_true]
    refine (s_kindOf_tot (topO_lt hst 1)).bind ?_
    rintro _ rfl
    simp only [kindOf_top, tot_cond, tot_some, bne_iff_ne, ne_eq, bne_eq_false_iff_eq]
    refine ⟨fun hk => by rw [if_neg hk]; rfl, fun hk => ?_⟩
    rw [if_pos hk]
    obtain ⟨q1, q2, q3⟩ := shapeP_top (d := 1) hst (by rw [hk]; decide)
    have et : topO m.S 1 = topN m.S 1 := by unfold topO; rw [if_pos q1]
    rw [et]
    have hm := getD_mem (d := d0) (show (topN m.S 1).toNat < m.N.length by omega)
    have hln : ((m.N.getD (topN m.S 1).toNat ((0 : Int), ((0 : Int), ([] : List Int)))).2.2).length ≤ L := h.ni.ln _ hm
    simp only [tot_chk, inb_iff, decide_eq_true_eq, room_iff, List.length_cons, List.length_nil]
    refine ⟨⟨q2, q3⟩, by omega, by omega, ⟨q2, q3⟩, trivial, (s_drop_tot (n := 1) (by omega) (by omega)).bind ?_⟩
    rintro _ rfl
    rw [tot_some]
    show _ = _
    simp only [dropP, Mc.sh, nodesP, MD]
    rfl
  · simp only [Int.reduceBEq, cond_true, cond_false, Int.reduceEq, if_false, if_true, tot_cond, decide_eq_true_eq, decide_eq_false_iff_not, tot_jn]
    unfold B_Z60_J0
    have bad : ∀ {o : Option Sh} {t4 : Bool} {x y z : Int}, o = none → Tot (fun s => bif true then some (((m.N, m.S, m.M, m.D, ()), false, ()), ()) else (F_Z69 (s 0) m.N m.S m.M m.D z y x).bind fun r87 => (F_s_drop (s 0) r87.1.1.1 r87.1.1.2.1 r87.1.1.2.2.1 r87.1.1.2.2.2.1 2).bind fun r88 => some (((r88.1.1.1, r88.1.1.2.1, r88.1.1.2.2.1, r88.1.1.2.2.2.1, ()), true, ()), ())) (AnsQ (o.map fun s => ⟨nodesP m 11 a, s.S, s.M, s.D⟩)) := by
      intro o t4 x y z ho
      subst ho
      simp only [tot_cond, tot_some]
      exact ⟨fun _ => rfl, fun h0 => absurd h0 (by decide)⟩
    refine ⟨fun h1 => bad (t4 := false) (if_neg fun hq => ?_), fun h1 => ?_⟩
    · have := n1.2 h1
      have hkp := hq.1
      unfold keyP at hkp
      simp only [Bool.or_eq_true, beq_iff_eq] at hkp
      omega
    refine (s_kindOf_tot (topO_lt hst 2)).bind ?_
    rintro _ rfl
    simp only [kindOf_top, tot_cond, tot_jn, bne_iff_ne, ne_eq, bne_eq_false_iff_eq]
    refine ⟨fun hk => ?_, fun hk => ?_⟩
    · have := bad (t4 := false) (x := topN m.S 0) (y := topO m.S 1) (z := topO m.S 2) (o := if keyP (shapeP (m.N.map (·.1)) m.S 1) = true ∧ shapeP (m.N.map (·.1)) m.S 2 = 4 then some (dropP m.sh 2) else none) (if_neg fun hq => hk hq.2)
      simpa only [tot_cond] using this
    obtain ⟨q1, q2, q3⟩ := topO_pos h1
    obtain ⟨z1, z2, z3⟩ := shapeP_top (d := 2) hst (by rw [hk]; decide)
    have et : topO m.S 2 = topN m.S 2 := by unfold topO; rw [if_pos z1]
    have q4 := topN_lt hst q1
    rw [q2, et]
    simp only [tot_chk, inb_iff, decide_eq_true_eq]
    refine ⟨⟨q3, q4⟩, by omega, (isKey_tot _ _ []).bind ?_⟩
    rintro _ ⟨b, rfl, hb⟩
    have hkp : b = keyP (shapeP (m.N.map (·.1)) m.S 1) := by
      rw [← kindOf_top, if_neg h1, q2, Bool.eq_iff_iff, hb]
      simp [isKeyP, keyP]
    simp only [tot_jn]
    cases hbq : b with
    | false =>
      rw [hbq] at hkp
      have := bad (t4 := false) (x := topN m.S 0) (y := topN m.S 1) (z := topN m.S 2) (o := if keyP (shapeP (m.N.map (·.1)) m.S 1) = true ∧ shapeP (m.N.map (·.1)) m.S 2 = 4 then some (dropP m.sh 2) else none) (if_neg fun hq => by rw [← hkp] at hq; exact absurd hq.1 (by decide))
      simpa only [tot_cond, Bool.not_false] using this
    | true =>
      rw [hbq] at hkp
      rw [if_pos ⟨hkp.symm, hk⟩]
      simp only [Bool.not_true, tot_cond]
      refine ⟨fun h0 => absurd h0 (by decide), fun _ => ?_⟩
      obtain ⟨_, _, hk4⟩ := kindP hk (by decide)
      refine (s_putItem_tot (L := L) (by omega) h.ni (by omega) ⟨z2, z3⟩ ⟨q3, q4⟩ hk4).bind ?_
      rintro _ rfl
      dsimp only
      refine (s_drop_tot (n := 2) (by omega) (by omega)).bind ?_
      rintro _ rfl
      rw [tot_some]
      show _ = _
      simp only [dropP, Mc.sh, nodesP, MD]
      rfl
  · simp only [Int.reduceBEq, cond_true, cond_false, Int.reduceEq, if_false, if_true]
    refine (s_kindOf_tot (topO_lt hst 1)).bind ?_
    rintro _ rfl
    simp only [kindOf_top, tot_cond, tot_jn, bne_iff_ne, ne_eq, bne_eq_false_iff_eq]
    unfold B_Z60_J1
    refine ⟨fun hk => ?_, fun hk => ?_⟩
    · rw [if_neg (fun hq => hk hq.1)]
      simp only [tot_cond, tot_some]
      exact ⟨fun _ => rfl, fun h0 => absurd h0 (by decide)⟩
    obtain ⟨q1, q2, q3⟩ := shapeP_top (d := 1) hst (by rw [hk]; decide)
    have et : topO m.S 1 = topN m.S 1 := by unfold topO; rw [if_pos q1]
    obtain ⟨_, _, hk5⟩ := kindP hk (by decide)
    rw [et]
    have hse : m.N.set (topN m.S 1).toNat ((m.N.getD (topN m.S 1).toNat ((0 : Int), ((0 : Int), ([] : List Int)))).1, ((m.N.getD (topN m.S 1).toNat ((0 : Int), ((0 : Int), ([] : List Int)))).2.1, (m.N.getD (topN m.S 1).toNat ((0 : Int), ((0 : Int), ([] : List Int)))).2.2)) = m.N := set_eta
    have hidx : m.S.getD (m.S.length - 2) 0 = topN m.S 1 := by unfold topN; congr 1
    have hfa := full_at (i := (topN m.S 1).toNat) hk5
    simp only [tot_chk, tot_jn, inb_iff, decide_eq_true_eq, hse, tot_cond, len, decide_eq_false_iff_not, tot_some]
    refine ⟨⟨q2, q3⟩, by omega, fun hf => ?_, fun hf => ?_⟩
    · rw [if_neg]
      · rfl
      · rintro ⟨_, hq⟩
        rw [hidx, hfa] at hq
        have hq : (m.N.getD (topN m.S 1).toNat ((0 : Int), ((0 : Int), ([] : List Int)))).2.2 = [] := hq
        rw [hq] at hf
        exact absurd hf (by decide)
    · have hq : (m.N.getD (topN m.S 1).toNat d0).2.2 = [] := List.eq_nil_of_length_eq_zero (by
        have hf : ¬ (((m.N.getD (topN m.S 1).toNat d0).2.2.length : Int) > 0) := hf
        omega)
      rw [if_pos ⟨hk, by rw [hidx, hfa]; exact hq⟩]
      refine ⟨⟨q2, q3⟩, by omega, (s_drop_tot (n := 1) (by omega) (by omega)).bind ?_⟩
      rintro _ rfl
      rw [tot_some]
      show _ = _
      simp only [dropP, Mc.sh, nodesP, MD]
      rfl
  · simp only [Int.reduceBEq, cond_true, cond_false, Int.reduceEq, if_false, if_true, tot_chk, tot_some, inb_iff, decide_eq_true_eq]
    have := ha rfl
    refine ⟨by omega, by omega, ?_⟩
    show _ = _
    simp only [Mc.sh, nodesP, MD]
    rfl
  · simp only [Int.reduceBEq, cond_true, cond_false, Int.reduceEq, if_false]
    refine (s_drop_tot (n := 1) (by omega) (by omega)).bind ?_
    rintro _ rfl
    rw [tot_some]
    show _ = _
    simp only [dropP, Mc.sh, nodesP, MD]
    rfl
  · simp only [Int.reduceBEq, cond_true, cond_false, Int.reduceEq, if_false, if_true, tot_some]
    split
    · rename_i h1
      show _ = _
      simp only [Mc.sh, nodesP, MD, len, h1]
      rfl
    · rename_i h1
      show ((len m.S == 1) = false)
      rw [beq_eq_false_iff_ne]
      simp only [len]; omega
end Go.Gx

/-
  Laws, part M5: an order, by the reference: all codes; what holds of a machine goes on.
-/
set_option linter.unusedVariables false
set_option linter.unusedSimpArgs false
namespace Go.Gx
def AnsM (o : Option Mc) (r : ((Option (List PNode) × Option (List Int) × Option (List Int) × Bool × Unit) × Bool × Unit) × Unit) : Prop := match o with
  | some m => r = (((some m.N, some m.S, some m.M, m.D, ()), true, ()), ())
  | none => r.1.2.1 = false
theorem s_step_J1 {m : Mc} {t : Bool} (h1 : m.N.length ≤ 900000000) (h2 : m.S.length ≤ 900000000) : Tot (fun σ => B_s_step_J1 (σ 0) (F_s_push (σ 0)) (F_Z53 (σ 0)) (F_Z60 (σ 0)) m.N m.S m.M m.D t) (AnsM (fitM m)) := by
  unfold B_s_step_J1 fitM
  simp only [tot_cond, tot_some, decide_eq_true_eq, decide_eq_false_iff_not, len]
  refine ⟨fun h => ?_, fun h => ?_⟩
  · by_cases hs : m.S.length ≤ 300
    · rw [if_pos ⟨by omega, hs⟩]
      simp only [AnsM]
      rw [decide_eq_true (by omega)]
    · rw [if_neg (fun hq => hs hq.2)]
      exact decide_eq_false (by omega)
  · rw [if_neg (fun hq => h (by omega))]
    rfl
theorem s_step_tot {m : Mc} {L : Nat} (h : MI m L) (hL : L ≤ 900000000) (hk9 : m.N.length ≤ 900000) (hs9 : m.S.length ≤ 900000) {c a : Int} (hc : okOp (c, a) = true) : Tot (fun σ => F_s_step (σ 0) m.N m.S m.M m.D c a) (AnsM (stepM m c a)) := by
  have hN := h.kl; have hS := h.sl; have hst := h.st; have hml := h.ml
  have hcc : 0 ≤ c ∧ c ≤ 19 := by simp only [okOp, decide_eq_true_eq] at hc; omega
  have ha := okOp_arg hc
  refine tot_s_step ?_
  unfold B_s_step
  rw [stepM_eq]
  unfold stepQ stepRaw
  have hsD : m.sh.D = m.D := rfl
  rw [hsD, tot_cond]
  refine ⟨fun hd => by rw [if_pos hd, tot_some]; rfl, fun hd => ?_⟩
  rw [if_neg (by rw [hd]; decide)]
  have mark : ∀ {c : Int}, (c = 3 ∨ c = 9 ∨ c = 12 ∨ c = 18) → nodesP m c a = nodesP m c 0 → Tot (fun s => jn (fun t => B_s_step_J0 (s 0) (F_s_push (s 0)) (F_Z53 (s 0)) (F_Z60 (s 0)) t.1.1 t.1.2.1 t.1.2.2.1 t.1.2.2.2.1 t.2.1.1 t.2.1.2.1 t.2.2.1.2.2.2.1 t.2.2.2.1) ((m.N, m.S, m.M, m.D, ()), (c, a, ()), ((), (), (), false, ()), true, ()))
      (AnsM (((markP m.sh c).map fun s => (⟨nodesP m c a, s.S, s.M, s.D⟩ : Mc)).bind fitM)) := by
    intro c hc hn
    rw [tot_jn]
    unfold B_s_step_J0
    dsimp only
    rw [tot_cond]
    refine ⟨fun _ => ?_, fun h0 => absurd h0 (by decide)⟩
    refine (s_stepMark_tot h hL hc).bind fun r hr => ?_
    unfold markQ at hr
    rw [hn]
    cases hq : markP m.sh c with
    | none =>
      rw [hq] at hr
      have hr : r.1.2.1 = false := hr
      simp only [hr, tot_cond, tot_some]
      exact ⟨fun _ => rfl, fun h0 => absurd h0 (by decide)⟩
    | some s =>
      rw [hq] at hr
      have hr : r = ((MD ⟨nodesP m c 0, s.S, s.M, s.D⟩, true, ()), ()) := hr
      subst hr
      simp only [tot_cond, tot_jn, Bool.not_true]
      refine ⟨fun h0 => absurd h0 (by decide), fun _ => ?_⟩
      have hraw : stepRaw m.sh c 0 = some s := by
        unfold stepRaw
        rw [hsD, if_neg (by rw [hd]; decide), if_neg, if_neg, if_neg, if_pos hc]
        · exact hq
        · rcases hc with rfl | rfl | rfl | rfl <;> decide
        · rcases hc with rfl | rfl | rfl | rfl <;> decide
        · rcases hc with rfl | rfl | rfl | rfl <;> decide
      have hi := stepRaw_inv h.sh (by simp only [Mc.sh, List.length_map]; omega) (by simp only [Mc.sh]; omega) (fun hq => by omega) hraw
      have hk := hi.kl
      rw [(sh_raw hraw).1, List.length_map] at hk
      exact s_step_J1 (m := ⟨nodesP m c 0, s.S, s.M, s.D⟩) (by show (nodesP m c 0).length ≤ _; omega) (by have := hi.sl; show s.S.length ≤ _; omega)
  have push : ∀ {k v : Int}, 0 ≤ k → nodesP m c a = m.N ++ [(k, (v, []))] → Tot (fun s => (F_s_push (s 0) m.N m.S m.M m.D k v []).bind fun r31 => jn (fun t => B_s_step_J1 (s 0) (F_s_push (s 0)) (F_Z53 (s 0)) (F_Z60 (s 0)) t.1.1 t.1.2.1 t.1.2.2.1 t.1.2.2.2.1 t.2.1.2.2.2.1) ((r31.1.1.1, r31.1.1.2.1, r31.1.1.2.2.1, r31.1.1.2.2.2.1, ()), ((), (), (), false, ()), ()))
      (AnsM (((some (pushP m.sh k)).map fun s => (⟨nodesP m c a, s.S, s.M, s.D⟩ : Mc)).bind fitM)) := by
    intro k v hk hn
    refine (s_push_tot (by omega) (by omega)).bind ?_
    rintro _ rfl
    rw [tot_jn, hn]
    have e : (pushP m.sh k).S = m.S ++ [(m.N.length : Int)] := by simp [pushP, Mc.sh]
    simp only [Option.map_some, Option.bind_some]
    have := s_step_J1 (t := false) (m := ⟨m.N ++ [(k, (v, []))], (pushP m.sh k).S, (pushP m.sh k).M, (pushP m.sh k).D⟩) (by simp only [List.length_append, List.length_cons, List.length_nil]; omega) (by rw [e]; simp only [List.length_append, List.length_cons, List.length_nil]; omega)
    rw [e] at this ⊢
    exact this
  rcases code_cases hcc with h1 | h1 | h1 | h1 | h1
  · rcases h1 with rfl | rfl | rfl | rfl | rfl | rfl <;> simp only [Int.reduceBEq, cond_true, cond_false] <;> rw [if_pos (by decide)] <;> exact push (by decide) rfl
  · subst h1
    rw [if_neg (by decide), if_pos rfl]
    simp only [Int.reduceBEq, cond_true, cond_false, tot_chk, tot_jn, room_iff, List.length_cons, List.length_nil]
    refine ⟨by omega, ?_⟩
    have := s_step_J1 (t := false) (m := ⟨m.N, m.S ++ [-1], m.M, m.D⟩) (by show m.N.length ≤ _; omega) (by simp only [List.length_append, List.length_cons, List.length_nil]; omega)
    exact this
  · subst h1
    have ha' := ha (.inr rfl)
    rw [if_neg (by decide), if_neg (by decide), if_pos rfl]
    simp only [Int.reduceBEq, cond_true, cond_false, tot_chk, tot_jn, tot_cond, tot_some, room_iff, List.length_cons, List.length_nil, inb_iff, decide_eq_true_eq, decide_eq_false_iff_not]
    refine ⟨by omega, by omega, fun hq => ?_, fun hq => ?_⟩
    · rw [if_pos (show m.sh.M.getD a.toNat 0 < 0 from hq)]; rfl
    · rw [if_neg (show ¬ m.sh.M.getD a.toNat 0 < 0 from hq)]
      refine ⟨by omega, by omega, by omega, ?_⟩
      have := s_step_J1 (t := false) (m := ⟨m.N, m.S ++ [m.M.getD a.toNat 0], m.M, m.D⟩) (by show m.N.length ≤ _; omega) (by simp only [List.length_append, List.length_cons, List.length_nil]; omega)
      exact this
  · rw [if_neg (show ¬ 0 ≤ newKindP c by rcases h1 with rfl | rfl | rfl | rfl <;> decide), if_neg (show ¬ c = 2 by omega), if_neg (show ¬ c = 16 by omega), if_pos h1]
    rcases h1 with rfl | rfl | rfl | rfl <;> simp only [Int.reduceBEq, cond_true, cond_false] <;> exact mark (by omega) rfl
  · have g1 : ¬ 0 ≤ newKindP c := by rcases h1 with rfl | rfl | rfl | rfl | rfl | rfl | rfl | rfl <;> decide
    have g2 : ¬ c = 2 := by omega
    have g3 : ¬ c = 16 := by omega
    have g4 : ¬ (c = 3 ∨ c = 9 ∨ c = 12 ∨ c = 18) := by omega
    rw [if_neg g1, if_neg g2, if_neg g3, if_neg g4]
    have main : Tot (fun s => jn (fun t => B_s_step_J0 (s 0) (F_s_push (s 0)) (F_Z53 (s 0)) (F_Z60 (s 0)) t.1.1 t.1.2.1 t.1.2.2.1 t.1.2.2.2.1 t.2.1.1 t.2.1.2.1 t.2.2.1.2.2.2.1 t.2.2.2.1) ((m.N, m.S, m.M, m.D, ()), (c, a, ()), ((), (), (), false, ()), false, ()))
        (AnsM (((takeP m.sh c a).map fun s => (⟨nodesP m c a, s.S, s.M, s.D⟩ : Mc)).bind fitM)) := by
      rw [tot_jn]
      unfold B_s_step_J0
      dsimp only
      rw [tot_cond]
      refine ⟨fun h0 => absurd h0 (by decide), fun _ => ?_⟩
      refine (s_stepTop_tot h hL h1 (fun h15 => ha (.inl h15))).bind fun r hr => ?_
      unfold takeQ at hr
      cases hq : takeP m.sh c a with
      | none =>
        rw [hq] at hr
        have hr : r.1.2.1 = false := hr
        simp only [hr, tot_cond, tot_some]
        exact ⟨fun _ => rfl, fun h0 => absurd h0 (by decide)⟩
      | some s =>
        rw [hq] at hr
        have hr : r = ((MD ⟨nodesP m c a, s.S, s.M, s.D⟩, true, ()), ()) := hr
        subst hr
        simp only [tot_cond, tot_jn, Bool.not_true]
        refine ⟨fun h0 => absurd h0 (by decide), fun _ => ?_⟩
        have hraw : stepRaw m.sh c a = some s := by
          unfold stepRaw
          rw [hsD, if_neg (by rw [hd]; decide), if_neg g1, if_neg g2, if_neg g3, if_neg g4]
          exact hq
        have hi := stepRaw_inv h.sh (by simp only [Mc.sh, List.length_map]; omega) (by simp only [Mc.sh]; omega) ha hraw
        have hk := hi.kl
        rw [(sh_raw hraw).1, List.length_map] at hk
        exact s_step_J1 (m := ⟨nodesP m c a, s.S, s.M, s.D⟩) (by show (nodesP m c a).length ≤ _; omega) (by have := hi.sl; show s.S.length ≤ _; omega)
    rcases h1 with rfl | rfl | rfl | rfl | rfl | rfl | rfl | rfl <;> simp only [Int.reduceBEq, cond_true, cond_false] <;> exact main
end Go.Gx

/-
  Laws: runs of whole programs.
-/
set_option linter.unusedVariables false
set_option linter.unusedSimpArgs false
namespace Go.Gx
abbrev rM (ops : List POp) : Mc := (runM newMc ops 0).1
abbrev rN (ops : List POp) : Nat := (runM newMc ops 0).2
theorem rM_inv {ops : List POp} (h : okOps ops = true) : MI (rM ops) (1000002 * ops.length) ∧ (rM ops).N.length ≤ 300 ∧ (rM ops).S.length ≤ 300 ∧ rN ops ≤ ops.length := by
  obtain ⟨h1, h2⟩ := okOps_all h
  obtain ⟨i1, i2, i3, i4, i5⟩ := runM_inv ops newMc 0 0 newMc_inv (by simp [newMc]) (by simp [newMc]) h1
  exact ⟨by simpa using i1, i2, i3, by simpa using i5⟩
end Go.Gx

/-
  Laws, part M11c: machines are copied, by the reference.
-/
set_option linter.unusedVariables false
set_option linter.unusedSimpArgs false
namespace Go.Gx
theorem s_copyM_tot {m : Mc} {L : Nat} (h : MI m L) (hL : L ≤ 500000000000) : Tot (fun σ => F_Z20 (σ 0) m.N m.S m.M m.D) (fun r => r = ((MD m, ()), ())) := by
  have hN := h.kl; have hS := h.sl; have hM := h.ml
  refine tot_Z20 ?_
  unfold B_Z20
  refine (s_copyInts' (by omega)).bind ?_
  rintro _ rfl
  refine (s_copyInts' (by omega)).bind ?_
  rintro _ rfl
  have key := loop_Z20_L0 (Q := fun N S M D t2 oN oS oM oD i r => r = ((MD m, ()), ())) (I := fun N S M D t2 oN oS oM oD i => N = m.N ∧ S = m.S ∧ M = m.M ∧ D = m.D ∧ oS = m.S ∧ oM = m.M ∧ oD = m.D ∧ ∃ j : Nat, i = (j : Int) ∧ j ≤ m.N.length ∧ oN = m.N.take j) (μ := fun _ _ _ _ _ _ _ _ _ i => (m.N.length - i).toNat) ?_
  · exact key m.N m.S m.M m.D false [] m.S m.M m.D 0 ⟨rfl, rfl, rfl, rfl, rfl, rfl, rfl, 0, rfl, by omega, rfl⟩
  intro N S M D t2 oN oS oM oD i ⟨e1, e2, e3, e4, e5, e6, e7, j, e8, hj, e9⟩ again hag ih
  subst e1 e2 e3 e4 e5 e6 e7 e8 e9
  unfold B_Z20_L0b
  simp only [tot_cond, tot_chk, tot_some, decide_eq_true_eq, decide_eq_false_iff_not, inb_iff, len, rdx_eq, Int.toNat_natCast]
  refine ⟨fun hlt => ?_, fun hge => ?_⟩
  · have hj' : j < m.N.length := by omega
    have hln := h.ni.ln (m.N.getD j d0) (getD_mem hj')
    refine ⟨by omega, by omega, by omega, (s_copyInts' (by show (m.N.getD j d0).2.2.length ≤ _; omega)).bind ?_⟩
    rintro _ rfl
    simp only [tot_chk, room_iff, List.length_take, List.length_cons, List.length_nil]
    refine ⟨by omega, ?_⟩
    rw [show w64 ((j : Int) + 1) = ((j + 1 : Nat) : Int) by rw [w64_id (by omega) (by omega)]; omega]
    refine ih _ _ _ _ _ _ _ _ _ _ ⟨rfl, rfl, rfl, rfl, rfl, rfl, rfl, j + 1, rfl, by omega, ?_⟩ (by omega)
    rw [List.take_add_one, List.getElem?_eq_getElem hj', List.getD_eq_getElem?_getD, List.getElem?_eq_getElem hj']
    rfl
  · rw [List.take_of_length_le (by omega)]
theorem s_newM_tot : Tot (fun σ => F_Z28 (σ 0)) (fun r => r = ((((), (), List.replicate 20 (-1), false, ()), ()), ())) := by
  refine tot_Z28 ?_
  unfold B_Z28
  have key := loop_Z28_L0 (Q := fun t M D i r => r = ((((), (), List.replicate 20 (-1), false, ()), ()), ())) (I := fun t M D i => D = false ∧ ∃ j : Nat, i = (j : Int) ∧ j ≤ 20 ∧ M = List.replicate j (-1)) (μ := fun _ _ _ i => (20 - i).toNat) ?_
  · exact key false [] false 0 ⟨rfl, 0, rfl, by omega, rfl⟩
  intro t M D i ⟨e1, j, e2, hj, e3⟩ again hag ih
  subst e1 e2 e3
  unfold B_Z28_L0b
  simp only [tot_cond, tot_chk, tot_some, decide_eq_true_eq, decide_eq_false_iff_not, room_iff, List.length_replicate, List.length_cons, List.length_nil]
  refine ⟨fun hlt => ⟨by omega, ?_⟩, fun hge => ?_⟩
  · rw [show w64 ((j : Int) + 1) = ((j + 1 : Nat) : Int) by rw [w64_id (by omega) (by omega)]; omega]
    exact ih _ _ _ _ ⟨rfl, j + 1, rfl, by omega, by rw [List.replicate_succ']⟩ (by omega)
  · rw [show j = 20 by omega]
end Go.Gx

/-
  Laws, part MZ: machines that are done.
-/
set_option linter.unusedVariables false
set_option linter.unusedSimpArgs false
namespace Go.Gx
/-- Does a program build a graph? -/
def wholeM (ops : List POp) : Bool := okOps ops && decide (rN ops = ops.length) && (rM ops).D
theorem stepRaw_D {s s' : Sh} {c a : Int} (h : stepRaw s c a = some s') : s.D = false ∧ (s'.D = true → s'.S.length = 1 ∧ c = 19 ∧ ∀ x ∈ s'.S, 0 ≤ x) := by
  have hD : s.D = false := by
    cases hq : s.D with
    | false => rfl
    | true => unfold stepRaw at h; rw [if_pos hq] at h; cases h
  refine ⟨hD, fun h' => ?_⟩
  unfold stepRaw at h
  rw [if_neg (by rw [hD]; decide)] at h
  split at h
  · cases h; simp only [pushP] at h'; rw [hD] at h'; cases h'
  split at h
  · cases h; simp only at h'; rw [hD] at h'; cases h'
  split at h
  · split at h
    · cases h
    · cases h; simp only at h'; rw [hD] at h'; cases h'
  split at h
  · exfalso
    unfold markP at h
    cases hm : markAt s.S s.S.length with
    | none => rw [hm] at h; cases h
    | some i =>
      rw [hm] at h
      simp only at h
      split at h
      · cases h; simp only [pushP] at h'; rw [hD] at h'; cases h'
      split at h
      · split at h
        · cases h; simp only at h'; rw [hD] at h'; cases h'
        · cases h
      split at h
      · split at h
        · cases h; simp only at h'; rw [hD] at h'; cases h'
        · cases h
      · cases h; simp only at h'; rw [hD] at h'; cases h'
  · unfold takeP at h
    simp only at h
    split at h
    · cases h
    rename_i hx
    split at h
    · cases h; simp only [pushP, dropP] at h'; rw [hD] at h'; cases h'
    split at h
    · split at h
      · cases h
      · cases h; simp only [pushP, dropP] at h'; rw [hD] at h'; cases h'
    split at h
    · split at h
      · cases h; simp only [dropP] at h'; rw [hD] at h'; cases h'
      · cases h
    split at h
    · split at h
      · cases h; simp only [dropP] at h'; rw [hD] at h'; cases h'
      · cases h
    split at h
    · split at h
      · cases h; simp only [dropP] at h'; rw [hD] at h'; cases h'
      · cases h
    split at h
    · cases h; simp only at h'; rw [hD] at h'; cases h'
    split at h
    · rename_i hc
      split at h
      · rename_i hl
        cases h
        simp only
        refine ⟨hl, hc, fun x hx' => ?_⟩
        have hp := shapeP_pos hx
        match hS : s.S, hl with
        | [y], _ =>
          rw [hS] at hp hx'
          simp only [List.mem_singleton] at hx'
          rw [hx']
          exact hp.2
      · cases h
    · cases h; simp only [dropP] at h'; rw [hD] at h'; cases h'
theorem stepM_D {m m' : Mc} {c a : Int} (h : stepM m c a = some m') : m.D = false ∧ (m'.D = true → m'.S.length = 1 ∧ c = 19 ∧ ∀ x ∈ m'.S, 0 ≤ x) := stepRaw_D (stepP_raw (stepM_sh h)).1
theorem runM_D : ∀ (ops : List POp) (m : Mc) (n : Nat), (m.D = true → m.S.length = 1 ∧ ∀ x ∈ m.S, 0 ≤ x) → (runM m ops n).1.D = true → (runM m ops n).1.S.length = 1 ∧ ∀ x ∈ (runM m ops n).1.S, 0 ≤ x
  | [], m, n, h, hd => h hd
  | o :: r, m, n, h, hd => by
    cases hs : stepM m o.1 o.2 with
    | none => simp only [runM, hs] at hd ⊢; exact h hd
    | some m' =>
      simp only [runM, hs] at hd ⊢
      exact runM_D r m' (n + 1) (fun hd' => by have := (stepM_D hs).2 hd'; exact ⟨this.1, this.2.2⟩) hd
theorem rM_D {ops : List POp} (h : (rM ops).D = true) : (rM ops).S.length = 1 ∧ ∀ x ∈ (rM ops).S, 0 ≤ x := runM_D ops newMc 0 (fun h => by simp [newMc] at h) h
end Go.Gx

/-
  Laws: programs are checked, by the program.
-/
set_option linter.unusedVariables false
set_option linter.unusedSimpArgs false
namespace Go.Gx
theorem i_mostArg_tot (c : Int) : Tot (fun σ => F_Z61 (σ 0) c) (fun r => r = ((mostP c, ()), ())) := by
  refine tot_Z61 ?_
  unfold B_Z61 B_Z61_J0 mostP
  simp only [tot_cond, tot_jn, tot_some, beq_iff_eq, beq_eq_false_iff_ne, ne_eq]
  refine ⟨fun h => by simp [h], fun h0 => ⟨fun h => by simp [h], fun h1 => ⟨fun h => by simp [h], fun h13 => ⟨fun h => ⟨fun _ => by simp [h], fun h' => absurd h h'⟩, fun h15 => ⟨fun h => by simp [h], fun h16 => by simp [h0, h1, h13, h15, h16]⟩⟩⟩⟩⟩
theorem i_opOk_tot (c a : Int) : Tot (fun σ => F_i_opOk (σ 0) c a) (fun r => r = ((okOp (c, a), ()), ())) := by
  refine tot_i_opOk ?_
  unfold B_i_opOk
  have key : ∀ b : Bool, (b = true ↔ 0 ≤ c ∧ c ≤ 19 ∧ 0 ≤ a ∧ a ≤ mostP c) → ((b, ()), ()) = ((okOp (c, a), ()), ()) := by
    intro b hb
    have : b = okOp (c, a) := by
      rw [Bool.eq_iff_iff, hb]; simp [okOp]
    rw [this]
  simp only [tot_cond, tot_some, decide_eq_true_eq, decide_eq_false_iff_not]
  refine ⟨fun h1 => ⟨fun h2 => ⟨fun h3 => ?_, fun h3 => key _ (by simp; omega)⟩, fun h2 => key _ (by simp; omega)⟩, fun h1 => key _ (by simp; omega)⟩
  refine (i_mostArg_tot c).bind ?_
  rintro _ rfl
  rw [tot_some]
  exact key _ (by simp only [decide_eq_true_eq]; omega)
theorem i_ValidOps_tot {ops : List POp} (hl : ops.length ≤ 900000000000) : Tot (fun σ => F_Z49 (σ 0) ops) (fun r => r = ((okOps ops, ()), ())) := by
  refine tot_Z49 ?_
  unfold B_Z49
  have key := loop_Z49_L0 (Q := fun _ _ _ _ r => r = ((okOps ops, ()), ())) (I := fun o t5 t6 i => o = ops ∧ t5 = ops ∧ t6 = ops.length ∧ ∃ n : Nat, i = n ∧ n ≤ ops.length ∧ ops.all okOp = (ops.drop n).all okOp) (μ := fun _ _ _ i => (ops.length - i).toNat) ?_
  · exact key ops ops _ 0 ⟨rfl, rfl, rfl, 0, rfl, by omega, rfl⟩
  intro o t5 t6 i ⟨e1, e2, e3, n, e4, hn, hall⟩ again hag ih
  subst e1 e2 e3 e4
  unfold B_Z49_L0b
  simp only [tot_cond, tot_chk, tot_some, decide_eq_true_eq, decide_eq_false_iff_not, len, inb_iff]
  refine ⟨fun hlt => ⟨by omega, ?_⟩, fun hge => ?_⟩
  · have hn' : n < t5.length := by omega
    have hd : t5.drop n = rdx ((0 : Int), (0 : Int)) t5 n :: t5.drop (n + 1) := by
      rw [rdx_eq, List.drop_eq_getElem_cons hn', List.getD_eq_getElem?_getD, Int.toNat_natCast, List.getElem?_eq_getElem hn']; rfl
    refine (i_opOk_tot _ _).bind ?_
    rintro _ rfl
    simp only [tot_cond, tot_some, Bool.not_eq_true', Bool.not_eq_false']
    refine ⟨fun hb => ?_, fun hb => ?_⟩
    · have : t5.all okOp = false := by rw [hall, hd, List.all_cons, hb]; rfl
      simp [okOps, this]
    · rw [w64_succ (by omega) (by omega)]
      exact ih _ _ _ _ ⟨rfl, rfl, rfl, n + 1, rfl, by omega, by rw [hall, hd, List.all_cons, hb, Bool.true_and]⟩ (by simp; omega)
  · have : t5.all okOp = true := by rw [hall, List.drop_eq_nil_of_le (by omega)]; rfl
    simp [okOps, this]
    omega
end Go.Gx

/-
  Laws, part MW: reading programs of several roots.
-/
set_option linter.unusedVariables false
set_option linter.unusedSimpArgs false
namespace Go.Gx
/-- What was read: the nodes at the last stop, the roots, the orders up to there. -/
structure Rd where
  N : List PNode
  rs : List Int
  e : Nat
structure Acc (acc : Rd) (j L : Nat) : Prop where
  e : acc.e ≤ j
  nl : acc.N.length ≤ 300
  nk : ∀ n ∈ acc.N, n.2.2.length ≤ L
  rl : acc.rs.length ≤ j
theorem Acc.mono {acc : Rd} {j L j' L' : Nat} (h : Acc acc j L) (hj : j ≤ j') (hL : L ≤ L') : Acc acc j' L' := ⟨Nat.le_trans h.e hj, h.nl, fun n hn => Nat.le_trans (h.nk n hn) hL, Nat.le_trans h.rl hj⟩
/-- A count of orders. -/
def cnt (ops : List POp) : Nat := (ops.filter (fun o => o.1 == 19)).length
end Go.Gx

/-
  Laws, part CO1: codes of graphs, as plain lists.
-/
set_option linter.unusedVariables false
set_option linter.unusedSimpArgs false
namespace Go.Gx
/-- The place of a number in a list. -/
def idx (l : List Int) (x : Int) : Option Nat := l.findIdx? (fun y => y == x)
theorem idx_none {l : List Int} {x : Int} : idx l x = none ↔ x ∉ l := by
  unfold idx
  rw [List.findIdx?_eq_none_iff]
  constructor
  · intro h hx; have := h x hx; simp at this
  · intro h y hy; simp only [beq_eq_false_iff_ne, ne_eq]; exact fun e => h (e ▸ hy)
theorem idx_append {l : List Int} {x y : Int} (hy : y ∉ l) : idx (l ++ [y]) x = if x = y then some l.length else idx l x := by
  unfold idx
  rw [List.findIdx?_append]
  by_cases e : x = y
  · subst e
    have : idx l x = none := idx_none.2 hy
    unfold idx at this
    rw [this]
    simp
  · rw [if_neg e]
    have : List.findIdx? (fun z => z == x) [y] = none := by
      simp only [List.findIdx?_cons, List.findIdx?_nil]
      rw [if_neg (by simpa using fun h => e h.symm)]
      rfl
    rw [this]
    cases List.findIdx? (fun z => z == x) l <;> rfl
/-- The code of a node behind another one, and the nodes that were met. -/
def cod (g : List PNode) : Nat → Int → List Int × List Int → List Int × List Int
  | 0, _, p => p
  | f + 1, i, p => match idx p.2 i with
    | some n => (p.1 ++ [-1, (n : Int)], p.2)
    | none => (kd g i).foldl (fun p k => cod g f k p) (p.1 ++ [(nd g i).1, (nd g i).2.1, ((kd g i).length : Int)], if (nd g i).1 ≠ 0 then p.2 ++ [i] else p.2)
/-- Nodes of a kind have no kids. -/
def IntLeaf (g : List PNode) : Prop := ∀ n ∈ g, n.1 = 0 → n.2.2 = []
/-- Every node's kids are nodes. -/
def Kids (g : List PNode) : Prop := ∀ n ∈ g, InR g n.2.2
theorem Kidly.kids {g : List PNode} (h : Kidly g) : Kids g := fun n hn => (h n hn).2
/-- The kids of the nodes that were not met. -/
def restN (g : List PNode) (met : List Int) : Nat := sumN ((List.range g.length).map fun i : Nat => if (i : Int) ∈ met then 0 else (kd g (i : Int)).length)
theorem sum_ins {h : Nat → Nat} {i : Nat} {c : Nat} : ∀ {l : List Nat}, l.Nodup → i ∈ l → h i = c → sumN (l.map h) = c + sumN (l.map fun j => if j = i then 0 else h j) := by
  intro l
  induction l with
  | nil => intro _ hi; simp at hi
  | cons a l ih =>
    intro hn hi hc
    have hn' := List.nodup_cons.1 hn
    simp only [List.map_cons, sumN, List.foldr_cons]
    by_cases e : a = i
    · subst e
      rw [if_pos rfl, hc]
      have : l.map h = l.map fun j => if j = a then 0 else h j := List.map_congr_left fun j hj => by
        rw [if_neg (fun e : j = a => hn'.1 (by rw [← e]; exact hj))]
      rw [this]; omega
    · rw [if_neg e]
      have := ih hn'.2 (by rcases List.mem_cons.1 hi with h | h; exact absurd h.symm e; exact h) hc
      simp only [sumN] at this
      omega
theorem restN_snoc {g : List PNode} {met : List Int} {i : Int} (h0 : 0 ≤ i) (h1 : i < (g.length : Int)) (hi : i ∉ met) : restN g met = (kd g i).length + restN g (met ++ [i]) := by
  obtain ⟨q, rfl⟩ := Int.eq_ofNat_of_zero_le h0
  unfold restN
  rw [sum_ins (i := q) (c := (kd g (q : Int)).length) List.nodup_range (List.mem_range.2 (by omega)) (by rw [if_neg hi])]
  congr 2
  refine List.map_congr_left fun j _ => ?_
  by_cases e : j = q
  · subst e; simp
  · simp [e, show (j : Int) ≠ (q : Int) from fun h => e (by omega)]
theorem cod_ok {g : List PNode} (hk : Kids g) (hL : IntLeaf g) : ∀ (f : Nat) (i : Int) (p : List Int × List Int) (c : Nat), 0 ≤ i → i < (g.length : Int) → MetOk g p.2 → g.length + 1 ≤ f + p.2.length → p.1.length + 3 * restN g p.2 + 3 * (c + 1) ≤ 500000000000 →
    MetOk g (cod g f i p).2 ∧ p.2.length ≤ (cod g f i p).2.length ∧ (cod g f i p).1.length + 3 * restN g (cod g f i p).2 + 3 * c ≤ 500000000000 := by
  intro f
  induction f with
  | zero => intro i p c _ _ h1 h2 h3; have := h1.len; omega
  | succ f ih =>
    intro i p c h0 h1 hm hf hr
    unfold cod
    cases hq : idx p.2 i with
    | some n => exact ⟨hm, Nat.le_refl _, by simp only [List.length_append, List.length_cons, List.length_nil]; omega⟩
    | none =>
      have hni := idx_none.1 hq
      have fold : ∀ (l : List Int) (p : List Int × List Int) (c : Nat), InR g l → MetOk g p.2 → g.length + 1 ≤ f + p.2.length → p.1.length + 3 * restN g p.2 + 3 * (c + l.length) ≤ 500000000000 →
          MetOk g (l.foldl (fun p k => cod g f k p) p).2 ∧ p.2.length ≤ (l.foldl (fun p k => cod g f k p) p).2.length ∧ (l.foldl (fun p k => cod g f k p) p).1.length + 3 * restN g (l.foldl (fun p k => cod g f k p) p).2 + 3 * c ≤ 500000000000 := by
        intro l
        induction l with
        | nil => intro p c _ a _ b; exact ⟨a, Nat.le_refl _, by simpa using b⟩
        | cons k l ihl =>
          intro p c hl a b d
          have hkr := hl k (by simp)
          have h2 := ih k p (c + l.length) hkr.1 hkr.2 a b (by simp only [List.length_cons] at d; omega)
          have h3 := ihl (cod g f k p) c (fun x hx => hl x (by simp [hx])) h2.1 (by omega) h2.2.2
          exact ⟨h3.1, by simp only [List.foldl_cons]; omega, h3.2.2⟩
      by_cases hz : (nd g i).1 = 0
      · have hnil : kd g i = [] := hL _ (nd_mem h0 h1) hz
        simp only [hnil, hz, ne_eq, not_true_eq_false, if_false, List.foldl_nil, List.length_nil, List.length_append, List.length_cons]
        exact ⟨hm, Nat.le_refl _, by omega⟩
      · simp only [ne_eq, hz, not_false_eq_true, if_true]
        have hs := restN_snoc h0 h1 hni
        have := fold (kd g i) (p.1 ++ [(nd g i).1, (nd g i).2.1, ((kd g i).length : Int)], p.2 ++ [i]) c (hk _ (nd_mem h0 h1)) (hm.snoc h0 h1 hni) (by simp only [List.length_append, List.length_cons, List.length_nil]; omega)
          (by simp only [List.length_append, List.length_cons, List.length_nil]; omega)
        exact ⟨this.1, by have := this.2.1; simp only [List.length_append, List.length_cons, List.length_nil] at this; omega, this.2.2⟩
theorem sumN_le {L : Nat} {h : Nat → Nat} : ∀ {l : List Nat}, (∀ i ∈ l, h i ≤ L) → sumN (l.map h) ≤ l.length * L := by
  intro l
  induction l with
  | nil => intro _; simp [sumN]
  | cons a l ih =>
    intro hl
    have h1 := hl a (by simp)
    have h2 := ih fun i hi => hl i (by simp [hi])
    simp only [List.map_cons, sumN, List.foldr_cons, List.length_cons] at h2 ⊢
    rw [Nat.succ_mul]
    omega
theorem restN_le {g : List PNode} {met : List Int} {L : Nat} (h : ∀ n ∈ g, n.2.2.length ≤ L) : restN g met ≤ g.length * L := by
  unfold restN
  have := sumN_le (L := L) (h := fun i : Nat => if (i : Int) ∈ met then 0 else (kd g (i : Int)).length) (l := List.range g.length) fun i hi => by
    have hi := List.mem_range.1 hi
    split
    · exact Nat.zero_le _
    · exact h _ (nd_mem (by omega) (by omega))
  rwa [List.length_range] at this
end Go.Gx

/-
  Laws, part CO3: codes, by the program and by the reference.
-/
set_option linter.unusedVariables false
set_option linter.unusedSimpArgs false
namespace Go.Gx
/-- What a walk has, in the midst of some kids. -/
structure Mid (g : List PNode) (f : Nat) (p0 : List Int × List Int) (l : List Int) (j : Nat) (p : List Int × List Int) (c : Nat) : Prop where
  eq : p = (l.take j).foldl (fun p k => cod g f k p) p0
  met : MetOk g p.2
  fuel : j < l.length → g.length + 1 ≤ f + p.2.length
  room : p.1.length + 3 * restN g p.2 + 3 * (l.length - j + c) ≤ 500000000000
theorem Mid.next {g : List PNode} (hk : Kids g) (hL : IntLeaf g) {f : Nat} {p0 : List Int × List Int} {l : List Int} {j : Nat} {p : List Int × List Int} {c : Nat} (h : Mid g f p0 l j p c) (hl : InR g l) (hj : j < l.length) : Mid g f p0 l (j + 1) (cod g f (l.getD j 0) p) c := by
  have hr := hl _ (getDm hj)
  have h2 := h.room
  have h3 := h.fuel hj
  have h1 := cod_ok hk hL f (l.getD j 0) p (l.length - (j + 1) + c) hr.1 hr.2 h.met h3 (by omega)
  refine ⟨?_, h1.1, fun _ => by omega, h1.2.2⟩
  rw [foldl_take_succ hj, ← h.eq, rdx_eq, Int.toNat_natCast]
theorem Mid.end {g : List PNode} {f : Nat} {p0 : List Int × List Int} {l : List Int} {j : Nat} {p : List Int × List Int} {c : Nat} (h : Mid g f p0 l j p c) (hj : l.length ≤ j) : p = l.foldl (fun p k => cod g f k p) p0 := by
  rw [h.eq, List.take_of_length_le hj]
/-- What a map of numbers says. -/
structure Num (t : List (Int × Int)) (met : List Int) : Prop where
  len : t.length = met.length
  find : ∀ x, mfind t x = (idx met x).map fun n => (n : Int)
theorem mput_len {t : List (Int × Int)} {z x : Int} (h : mfind t z = none) : (mput t z x).length = t.length + 1 := by
  induction t with
  | nil => rfl
  | cons p t ih =>
    obtain ⟨k, v⟩ := p
    by_cases e : (k == z) = true
    · simp only [mfind, e, cond_true] at h; cases h
    · have e' : (k == z) = false := by simpa using e
      simp only [mfind, e', cond_false] at h
      simp only [mput, e', cond_false, List.length_cons, ih h]
theorem Num.put {t : List (Int × Int)} {met : List Int} (h : Num t met) {z : Int} (hz : z ∉ met) : Num (mput t z (t.length : Int)) (met ++ [z]) := by
  refine ⟨by rw [mput_len (by rw [h.find, idx_none.2 hz]; rfl), h.len]; simp, fun x => ?_⟩
  rw [mfind_mput, idx_append hz, h.len]
  by_cases e : x = z
  · rw [if_pos e, if_pos e]; rfl
  · rw [if_neg e, if_neg e, h.find]
/-- A graph that is small enough for its code. -/
structure CodG (g : List PNode) : Prop where
  kids : Kids g
  leaf : IntLeaf g
  len : g.length ≤ 2000000
  each : ∀ n ∈ g, n.2.2.length ≤ 400000000
  all : restN g [] ≤ 100000000000
end Go.Gx

/-
  Laws, part MK1: machines build graphs that have codes.
-/
set_option linter.unusedVariables false
set_option linter.unusedSimpArgs false
namespace Go.Gx
theorem setK_leaf {N : List PNode} {i : Nat} {ks : List Int} (h : IntLeaf N) (hk : (N.getD i d0).1 ≠ 0) : IntLeaf (setK N i ks) := fun n hn h0 => by
  unfold setK at hn
  rcases List.mem_or_eq_of_mem_set hn with h1 | rfl
  · exact h n h1 h0
  · exact absurd h0 hk
theorem putsP_leaf : ∀ (l : List Int) {N : List PNode} {d : Int}, IntLeaf N → (N.getD d.toNat d0).1 ≠ 0 → IntLeaf (putsP N d l)
  | [], _, _, h, _ => h
  | [_], _, _, h, _ => h
  | k :: v :: r, N, d, h, hk => by
    rw [putsP]
    refine putsP_leaf r (setK_leaf h hk) ?_
    unfold putItemP
    rw [kind_eq (setK_kinds _ _ _)]
    exact hk
theorem leaf_new {N : List PNode} {n : PNode} (h : IntLeaf N) (hn : n.1 = 0 → n.2.2 = []) : IntLeaf (N ++ [n]) := fun x hx h0 => by
  rcases List.mem_append.1 hx with h1 | h1
  · exact h x h1 h0
  · have : x = n := by simpa using h1
    subst this; exact hn h0
theorem nodesP_leaf {m : Mc} {L : Nat} (h : MI m L) (hl : IntLeaf m.N) {c a : Int} (hcc : 0 ≤ c ∧ c ≤ 19) {s : Sh} (hr : stepRaw m.sh c a = some s) : IntLeaf (nodesP m c a) := by
  have hD : ¬ m.D = true := fun hd => by rw [raw_none hd] at hr; cases hr
  rcases code_cases hcc with h1 | h1 | h1 | h1 | h1
  · have e : nodesP m c a = m.N ++ [(newKindP c, ((if c = 0 ∨ c = 1 ∨ c = 13 then a else 0), []))] := by
      unfold nodesP; rw [if_pos (show 0 ≤ newKindP c by rcases h1 with rfl | rfl | rfl | rfl | rfl | rfl <;> decide)]
    rw [e]
    exact leaf_new hl fun _ => rfl
  · subst h1; exact hl
  · subst h1; exact hl
  · rw [raw_mark hD h1, markP_eq] at hr
    cases hi : markAt m.S m.S.length with
    | none => rw [hi] at hr; cases hr
    | some i =>
      rw [hi] at hr
      have hmk : mkAt m.S = i := by unfold mkAt; rw [hi]; rfl
      rcases h1 with rfl | rfl | rfl | rfl
      · have e : nodesP m 3 a = m.N ++ [(2, (0, m.S.drop (i + 1)))] := by simp only [nodesP, hmk]; rfl
        rw [e]
        exact leaf_new hl fun h0 => absurd (show (2 : Int) = 0 from h0) (by decide)
      · have e : nodesP m 9 a = setK m.N (topN (m.S.take i) 0).toNat (kidsAt m.N (topN (m.S.take i) 0) ++ m.S.drop (i + 1)) := by simp only [nodesP, hmk]; rfl
        simp only [Int.reduceEq, if_false, if_true] at hr
        split at hr
        · rename_i hk
          obtain ⟨_, _, hk3⟩ := kindP hk (by decide)
          rw [e]
          exact setK_leaf hl (by rw [hk3]; decide)
        · cases hr
      · have e : nodesP m 12 a = putsP m.N (topN (m.S.take i) 0) (m.S.drop (i + 1)) := by simp only [nodesP, hmk]; rfl
        simp only [Int.reduceEq, if_false, if_true] at hr
        split at hr
        · rename_i hk
          obtain ⟨_, _, hk3⟩ := kindP hk.1 (by decide)
          rw [e]
          exact putsP_leaf _ hl (by rw [hk3]; decide)
        · cases hr
      · exact hl
  · rw [raw_take hD h1, takeP_eq] at hr
    split at hr
    · cases hr
    rename_i h0
    rcases h1 with rfl | rfl | rfl | rfl | rfl | rfl | rfl | rfl
    · exact leaf_new hl fun h0 => absurd (show (2 : Int) = 0 from h0) (by decide)
    · exact leaf_new hl fun h0 => absurd (show (2 : Int) = 0 from h0) (by decide)
    · simp only [Int.reduceEq, if_false, if_true] at hr
      split at hr
      · rename_i hk
        obtain ⟨_, _, hk3⟩ := kindP hk (by decide)
        exact setK_leaf hl (by rw [hk3]; decide)
      · cases hr
    · simp only [Int.reduceEq, if_false, if_true] at hr
      split at hr
      · rename_i hk
        obtain ⟨_, _, hk3⟩ := kindP hk.2 (by decide)
        exact setK_leaf hl (by rw [hk3]; decide)
      · cases hr
    · simp only [Int.reduceEq, if_false, if_true] at hr
      split at hr
      · rename_i hk
        obtain ⟨_, _, hk5⟩ := kindP hk.1 (by decide)
        exact setK_leaf hl (by rw [hk5]; decide)
      · cases hr
    · exact hl
    · exact hl
    · exact hl
theorem stepM_nodes {m m' : Mc} {c a : Int} (h : stepM m c a = some m') : m'.N = nodesP m c a := by
  unfold stepM at h
  rw [Option.map_eq_some_iff] at h
  obtain ⟨s, _, rfl⟩ := h
  rfl
theorem stepM_leaf {m m' : Mc} {L : Nat} (h : MI m L) (hl : IntLeaf m.N) {c a : Int} (hc : okOp (c, a) = true) (hs : stepM m c a = some m') : IntLeaf m'.N := by
  have hcc : 0 ≤ c ∧ c ≤ 19 := by simp only [okOp, decide_eq_true_eq] at hc; omega
  rw [stepM_nodes hs]
  exact nodesP_leaf h hl hcc (stepP_raw (stepM_sh hs)).1
theorem runM_leaf : ∀ (ops : List POp) (m : Mc) (n L : Nat), MI m L → m.N.length ≤ 300 → m.S.length ≤ 300 → ops.all okOp = true → IntLeaf m.N → IntLeaf (runM m ops n).1.N
  | [], m, n, L, _, _, _, _, h => h
  | o :: r, m, n, L, hI, h1, h2, ho, h => by
    simp only [List.all_cons, Bool.and_eq_true] at ho
    cases hs : stepM m o.1 o.2 with
    | none => simp only [runM, hs]; exact h
    | some m' =>
      simp only [runM, hs]
      obtain ⟨i1, i2, i3⟩ := hI.step (by omega) (by omega) ho.1 hs
      exact runM_leaf r m' (n + 1) _ i1 i2 i3 ho.2 (stepM_leaf hI h ho.1 hs)
theorem codG_of {N : List PNode} {L : Nat} (h : NI N N.length L) (hl : IntLeaf N) (hn : N.length ≤ 300) (hL : L ≤ 300000600) : CodG N := by
  refine ⟨h.rg, hl, by omega, fun n hn => by have := h.ln n hn; omega, ?_⟩
  have h1 := restN_le (met := []) h.ln
  have h2 : N.length * L ≤ 300 * 300000600 := Nat.mul_le_mul hn hL
  omega
theorem rM_cod {ops : List POp} (h : okOps ops = true) : CodG (rM ops).N := by
  have h2 := okOps_all h
  obtain ⟨i1, i2, _⟩ := rM_inv h
  exact codG_of i1.ni (runM_leaf ops newMc 0 0 newMc_inv (by simp [newMc]) (by simp [newMc]) h2.1 (fun n hn => by simp [newMc] at hn)) i2 (by have := h2.2; omega)
/-- The root of a whole program. -/
theorem rM_root {ops : List POp} (h : wholeM ops = true) : 0 ≤ (rM ops).S.getD 0 0 ∧ (rM ops).S.getD 0 0 < ((rM ops).N.length : Int) := by
  unfold wholeM at h
  simp only [Bool.and_eq_true, decide_eq_true_eq] at h
  have hd := rM_D h.2
  have hm : (rM ops).S.getD 0 0 ∈ (rM ops).S := getDm (by omega)
  exact ⟨hd.2 _ hm, ((rM_inv h.1.1).1.st _ hm).2⟩
/-- What was read, and the roots. -/
structure AccK (acc : Rd) (L : Nat) : Prop where
  ni : NI acc.N acc.N.length L
  leaf : IntLeaf acc.N
  nl : acc.N.length ≤ 300
  rr : ∀ r ∈ acc.rs, 0 ≤ r ∧ r < (acc.N.length : Int)
theorem AccK.mono {acc : Rd} {L L' : Nat} (h : AccK acc L) (hL : L ≤ L') : AccK acc L' := ⟨h.ni.mono (Nat.le_refl _) hL, h.leaf, h.nl, h.rr⟩
end Go.Gx

/-
  Laws: running for BuildGraph (written by mkrun.py).
-/
set_option linter.unusedVariables false
set_option linter.unusedSimpArgs false
namespace Go.Gx
theorem after_BuildGraph_tot {N : List PNode} {S M : List Int} {D : Bool} : Tot (fun σ => F_Z14 (σ 0) N S M D) (fun r => r = ((), ())) := by
  refine tot_Z14 ?_
  unfold B_Z14
  rw [tot_some]
theorem running_BuildGraph_tot {ops : List POp} (hok : okOps ops = true) : Tot (fun σ => F_Z3 (σ 0) ops) (fun r => r = ((MD (runM newMc ops 0).1, ((runM newMc ops 0).2 : Int), ()), ())) := by
  obtain ⟨h1, h2⟩ := okOps_all hok
  refine tot_Z3 ?_
  unfold B_Z3
  refine newM_tot.bind ?_
  rintro _ rfl
  have key := loop_Z3_L0 (Q := fun ops' t4 N S M D t10 t11 t12 r => r = ((MD (runM newMc ops 0).1, ((runM newMc ops 0).2 : Int), ()), ()))
    (I := fun ops' t4 N S M D t10 t11 t12 => ops' = ops ∧ t10 = ops ∧ t11 = (ops.length : Int) ∧ ∃ j : Nat, t12 = (j : Int) ∧ j ≤ ops.length ∧ MI ⟨N, S, M, D⟩ (1000002 * j) ∧ N.length ≤ j ∧ S.length ≤ j ∧ runM newMc ops 0 = runM ⟨N, S, M, D⟩ (ops.drop j) j)
    (μ := fun _ _ _ _ _ _ _ _ t12 => (ops.length - t12).toNat) ?_
  · exact key ops false [] [] _ false ops _ 0 ⟨rfl, rfl, rfl, 0, rfl, by omega, newMc_inv, by simp, by simp, rfl⟩
  intro ops' t4 N S M D t10 t11 t12 ⟨e1, e2, e3, j, e4, hj, hI, hN, hS, hr⟩ again hag ih
  subst e1 e2 e3 e4
  unfold B_Z3_L0b
  simp only [tot_cond, tot_chk, decide_eq_true_eq, decide_eq_false_iff_not, inb_iff, rdx_eq, Int.toNat_natCast]
  refine ⟨fun hlt => ?_, fun hge => ?_⟩
  · have hj' : j < t10.length := by omega
    have hd : t10.drop j = t10.getD j (0, 0) :: t10.drop (j + 1) := by
      rw [List.drop_eq_getElem_cons hj', List.getD_eq_getElem?_getD, List.getElem?_eq_getElem hj']; rfl
    have hoo : okOp (t10.getD j (0, 0)) = true := List.all_eq_true.1 h1 _ (getD_mem hj')
    rw [hd] at hr
    refine ⟨by omega, (i_step_tot hI (by omega) (by show N.length ≤ _; omega) (by show S.length ≤ _; omega) (c := (t10.getD j (0, 0)).1) (a := (t10.getD j (0, 0)).2) hoo).bind fun r ha => ?_⟩
    cases hs : stepM ⟨N, S, M, D⟩ (t10.getD j (0, 0)).1 (t10.getD j (0, 0)).2 with
    | none =>
      rw [hs] at ha
      obtain ⟨_, ha⟩ := ha
      have ha := ha ⟨by show N.length < _; omega, by show S.length < _; omega⟩
      subst ha
      simp only [Bool.not_false, tot_cond, Option.bind_some]
      refine ⟨fun _ => (copyM_tot hI (by omega)).bind ?_, fun h0 => absurd h0 (by decide)⟩
      rintro _ rfl
      rw [tot_some, hr, runM, hs]
    | some m' =>
      rw [hs] at ha
      have ha : r = ((true, ()), ((some m'.N, m'.S, m'.M, m'.D, ()), ())) := ha
      subst ha
      simp only [Bool.not_true, tot_cond, Option.bind_some]
      refine ⟨fun h0 => absurd h0 (by decide), fun _ => after_BuildGraph_tot.bind ?_⟩
      rintro _ rfl
      obtain ⟨g1, g2⟩ := stepM_grow hs
      obtain ⟨i1, i2, i3⟩ := hI.step (by show N.length ≤ _; omega) (by show S.length ≤ _; omega) hoo hs
      rw [show w64 ((j : Int) + 1) = ((j + 1 : Nat) : Int) by rw [w64_id (by omega) (by omega)]; omega]
      refine ih _ _ _ _ _ _ _ _ _ ⟨rfl, rfl, rfl, j + 1, rfl, by omega, ⟨i1.sh, i1.ni.mono (Nat.le_refl _) (by omega)⟩, by show m'.N.length ≤ _; simp only at g1; omega, by show m'.S.length ≤ _; simp only at g2; omega, ?_⟩ (by omega)
      rw [hr, runM, hs]
  · refine (copyM_tot hI (by omega)).bind ?_
    rintro _ rfl
    rw [tot_some, hr, List.drop_eq_nil_of_le (by omega), runM]
    have : j = t10.length := by omega
    rw [this]
end Go.Gx

/-
  Laws: BuildGraph and IsWhole, by the program.
-/
set_option linter.unusedVariables false
set_option linter.unusedSimpArgs false
namespace Go.Gx
def graphA (ops : List POp) : ((List PNode × Int × Unit) × Bool × Unit) × Unit := if wholeM ops = true then ((((rM ops).N, (rM ops).S.getD 0 0, ()), true, ()), ()) else ((([], 0, ()), false, ()), ())
theorem i_BuildGraph_tot {ops : List POp} (hl : ops.length ≤ 900000000000) : Tot (fun σ => F_Z31 (σ 0) ops) (fun r => r = graphA ops) := by
  refine tot_Z31 ?_
  unfold B_Z31 B_Z31_J0 graphA wholeM
  refine (i_ValidOps_tot hl).bind ?_
  rintro _ rfl
  simp only [tot_cond, tot_some, Bool.not_eq_true', Bool.not_eq_false']
  refine ⟨fun h => by rw [if_neg (by rw [h]; simp)], fun h => ?_⟩
  refine (running_BuildGraph_tot h).bind ?_
  rintro _ rfl
  have hn := (rM_inv h).2.2.2
  simp only [tot_cond, tot_jn, tot_chk, tot_some, decide_eq_true_eq, decide_eq_false_iff_not, len, inb_iff, Bool.not_eq_true', Bool.not_eq_false']
  refine ⟨fun hlt => ⟨fun _ => ?_, fun h0 => absurd h0 (by decide)⟩, fun hge => ⟨fun hd => ?_, fun hd => ?_⟩⟩
  · have hlt : (rN ops : Int) < ops.length := hlt
    rw [if_neg (by simp only [Bool.and_eq_true, decide_eq_true_eq]; omega)]
  · rw [if_neg]
    show ¬ (_ && _ && (rM ops).D) = true
    have : (rM ops).D = false := hd
    rw [this, Bool.and_false]; decide
  · have hge : ¬ (rN ops : Int) < ops.length := hge
    have hd : (rM ops).D = true := hd
    obtain ⟨hs, _⟩ := rM_D hd
    have hs' : (runM newMc ops 0).1.S.length = 1 := hs
    refine ⟨by omega, by rw [hs']; decide, ?_⟩
    rw [if_pos]
    · rfl
    · rw [h, hd, decide_eq_true (by omega)]; rfl
end Go.Gx

/-
  Laws, part M11: runs, by the reference.
-/
set_option linter.unusedVariables false
set_option linter.unusedSimpArgs false
namespace Go.Gx
theorem s_run_tot {ops : List POp} {m0 : Mc} {L : Nat} (hm0 : MI m0 L) (h0 : m0.N.length ≤ 300) (h0' : m0.S.length ≤ 300) (hL : L + 1000002 * ops.length ≤ 900000000) (h1 : ops.all okOp = true) : Tot (fun σ => F_s_run (σ 0) m0.N m0.S m0.M m0.D ops) (fun r => r = ((MD (runM m0 ops 0).1, ((runM m0 ops 0).2 : Int), ()), ())) := by
  refine tot_s_run ?_
  unfold B_s_run
  have key := loop_s_run_L0 (Q := fun ops' N S M D t4 i r => r = ((MD (runM m0 ops 0).1, ((runM m0 ops 0).2 : Int), ()), ()))
    (I := fun ops' N S M D t4 i => ops' = ops ∧ ∃ j : Nat, i = (j : Int) ∧ j ≤ ops.length ∧ MI ⟨N, S, M, D⟩ (L + 1000002 * j) ∧ N.length ≤ 300 ∧ S.length ≤ 300 ∧ runM m0 ops 0 = runM ⟨N, S, M, D⟩ (ops.drop j) j)
    (μ := fun _ _ _ _ _ _ i => (ops.length - i).toNat) ?_
  · exact key ops m0.N m0.S m0.M m0.D false 0 ⟨rfl, 0, rfl, by omega, by simpa using hm0, h0, h0', rfl⟩
  intro ops' N S M D t4 i ⟨e1, j, e2, hj, hI, hN, hS, hr⟩ again hag ih
  subst e1 e2
  unfold B_s_run_L0b
  simp only [tot_cond, tot_chk, decide_eq_true_eq, decide_eq_false_iff_not, inb_iff, rdx_eq, Int.toNat_natCast, len]
  refine ⟨fun hlt => ?_, fun hge => ?_⟩
  · have hj' : j < ops'.length := by omega
    have hd : ops'.drop j = ops'.getD j (0, 0) :: ops'.drop (j + 1) := by
      rw [List.drop_eq_getElem_cons hj', List.getD_eq_getElem?_getD, List.getElem?_eq_getElem hj']; rfl
    have hoo : okOp (ops'.getD j (0, 0)) = true := List.all_eq_true.1 h1 _ (getD_mem hj')
    rw [hd] at hr
    refine (s_copyM_tot hI (by omega)).bind ?_
    rintro _ rfl
    rw [tot_chk]
    refine ⟨inb_iff.2 (by omega), (s_step_tot hI (by omega) (by show N.length ≤ _; omega) (by show S.length ≤ _; omega) (c := (ops'.getD j (0, 0)).1) (a := (ops'.getD j (0, 0)).2) hoo).bind fun r ha => ?_⟩
    cases hs : stepM ⟨N, S, M, D⟩ (ops'.getD j (0, 0)).1 (ops'.getD j (0, 0)).2 with
    | none =>
      rw [hs] at ha
      have ha : r.1.2.1 = false := ha
      simp only [ha, Bool.not_false, tot_cond, tot_some]
      exact ⟨fun _ => by rw [hr, runM, hs], fun h0 => absurd h0 (by decide)⟩
    | some m' =>
      rw [hs] at ha
      have ha : r = (((some m'.N, some m'.S, some m'.M, m'.D, ()), true, ()), ()) := ha
      subst ha
      simp only [Bool.not_true, tot_cond, Option.bind_some]
      refine ⟨fun h0 => absurd h0 (by decide), fun _ => ?_⟩
      obtain ⟨i1, i2, i3⟩ := hI.step (by show N.length ≤ _; omega) (by show S.length ≤ _; omega) hoo hs
      rw [show w64 ((j : Int) + 1) = ((j + 1 : Nat) : Int) by rw [w64_id (by omega) (by omega)]; omega]
      refine ih _ _ _ _ _ _ _ ⟨rfl, j + 1, rfl, by omega, ⟨i1.sh, i1.ni.mono (Nat.le_refl _) (by omega)⟩, i2, i3, ?_⟩ (by omega)
      rw [hr, runM, hs]
  · rw [tot_some, hr, List.drop_eq_nil_of_le (by omega), runM]
    have : j = ops'.length := by omega
    rw [this]
theorem s_run_new {ops : List POp} (hok : okOps ops = true) : Tot (fun σ => F_s_run (σ 0) [] [] (List.replicate 20 (-1)) false ops) (fun r => r = ((MD (rM ops), (rN ops : Int), ()), ())) := by
  obtain ⟨h1, h2⟩ := okOps_all hok
  exact s_run_tot (m0 := newMc) newMc_inv (by simp [newMc]) (by simp [newMc]) (by omega) h1
end Go.Gx

/-
  Laws: BuildGraph, by the reference.
-/
set_option linter.unusedVariables false
set_option linter.unusedSimpArgs false
namespace Go.Gx
theorem s_built_tot {m : Mc} {L : Nat} (h : MI m L) (hL : L ≤ 500000000000) (h1 : m.S.length = 1) : Tot (fun σ => F_s_built (σ 0) m.N m.S m.M m.D) (fun r => r = (((m.N, m.S.getD 0 0, ()), ()), ())) := by
  refine tot_s_built ?_
  unfold B_s_built
  refine (s_copyM_tot h hL).bind ?_
  rintro _ rfl
  simp only [tot_chk, tot_some, inb_iff, rdx_eq, h1]
  exact ⟨by decide, rfl⟩
theorem s_BuildGraph_tot {ops : List POp} (hl : ops.length ≤ 900000000000) : Tot (fun σ => F_Z33 (σ 0) ops) (fun r => r = graphA ops) := by
  refine tot_Z33 ?_
  unfold B_Z33 B_Z33_J0 graphA wholeM
  refine (validOps_tot hl).bind ?_
  rintro _ rfl
  simp only [tot_cond, tot_some, Bool.not_eq_true', Bool.not_eq_false']
  refine ⟨fun h => by rw [if_neg (by rw [h]; simp)], fun h => ?_⟩
  refine s_newM_tot.bind ?_
  rintro _ rfl
  refine (s_run_new h).bind ?_
  rintro _ rfl
  have hn := (rM_inv h).2.2.2
  have h2 := (okOps_all h).2
  simp only [tot_cond, tot_jn, tot_chk, tot_some, decide_eq_true_eq, decide_eq_false_iff_not, len, inb_iff, Bool.not_eq_true', Bool.not_eq_false']
  refine ⟨fun hlt => ⟨fun _ => ?_, fun h0 => absurd h0 (by decide)⟩, fun hge => ⟨fun hd => ?_, fun hd => ?_⟩⟩
  · have hlt : (rN ops : Int) < ops.length := hlt
    rw [if_neg (by simp only [Bool.and_eq_true, decide_eq_true_eq]; omega)]
  · rw [if_neg]
    show ¬ (_ && _ && (rM ops).D) = true
    have : (rM ops).D = false := hd
    rw [this, Bool.and_false]; decide
  · have hge : ¬ (rN ops : Int) < ops.length := hge
    have hd : (rM ops).D = true := hd
    obtain ⟨hs, _⟩ := rM_D hd
    refine (s_built_tot (rM_inv h).1 (by omega) hs).bind ?_
    rintro _ rfl
    rw [tot_some, if_pos]
    · rw [h, hd, decide_eq_true (by omega)]; rfl
end Go.Gx

/-
  Laws, part CP1: copies of graphs, of both sides.
-/
set_option linter.unusedVariables false
set_option linter.unusedSimpArgs false
namespace Go.Gx
theorem CodG.w {g : List PNode} (h : CodG g) : KidW g := fun n hn => ⟨h.each n hn, h.kids n hn⟩
open Classical in
/-- What a copy is: its nodes, and whether there is one. -/
noncomputable def copyA (g : List PNode) (root : Int) : List PNode × Bool :=
  if ValidG g root ∧ (writtenP g root).length ≤ 300 ∧ wholeM (writtenP g root) = true then (prunN (rM (writtenP g root)).N (reachP (rM (writtenP g root)).N ((rM (writtenP g root)).S.getD 0 0)), true) else ([], false)
theorem copyA_yes {g : List PNode} {root : Int} (h : ValidG g root ∧ (writtenP g root).length ≤ 300 ∧ wholeM (writtenP g root) = true) : copyA g root = (prunN (rM (writtenP g root)).N (reachP (rM (writtenP g root)).N ((rM (writtenP g root)).S.getD 0 0)), true) := by
  unfold copyA; rw [if_pos h]
theorem copyA_no {g : List PNode} {root : Int} (h : ¬ (ValidG g root ∧ (writtenP g root).length ≤ 300 ∧ wholeM (writtenP g root) = true)) : copyA g root = ([], false) := by
  unfold copyA; rw [if_neg h]
theorem whole_ok {ops : List POp} (hw : wholeM ops = true) : okOps ops = true := by unfold wholeM at hw; simp only [Bool.and_eq_true] at hw; exact hw.1.1
theorem i_WriteGraph_tot {g : List PNode} {root : Int} (hg : g.length ≤ 2000000) (hkk : ∀ n ∈ g, n.2.2.length ≤ 2000000) : Tot (fun σ => F_Z32 (σ 0) g root 0) (fun r => (¬ ValidG g root → r = ((([], true), ()), ())) ∧ (ValidG g root → r = (if (writtenP g root).length > 300 then ((([], true), ()), ()) else (((writtenP g root, false), ()), ())))) := by
  refine tot_Z32 ?_
  unfold B_Z32
  refine (i_ValidGraph_tot hg hkk).bind ?_
  rintro _ ⟨b, rfl, hb⟩
  unfold B_Z32_J0
  simp only [tot_cond, tot_jn, tot_some, Bool.not_eq_true', Bool.not_eq_false', decide_eq_true_eq, decide_eq_false_iff_not, Bool.true_eq_false, false_implies, and_true, forall_const]
  refine ⟨fun hf => ⟨fun _ => trivial, fun hv => by rw [hb.2 hv] at hf; cases hf⟩, fun ht => ⟨fun h => absurd h (by decide), fun _ => ⟨fun h => absurd h (by decide), fun _ => ?_⟩⟩⟩
  have hv := hb.1 ht
  refine (i_written_eq hv).bind ?_
  rintro r rfl
  rw [tot_some]
  refine ⟨fun h => absurd hv h, fun _ => ?_⟩
  by_cases h : (writtenP g root).length > 300
  · simp only [if_pos h]
  · simp only [if_neg h]
theorem i_CopyGraph_tot {g : List PNode} {root : Int} (hg : g.length ≤ 2000000) (hkk : ∀ n ∈ g, n.2.2.length ≤ 2000000) : Tot (fun σ => F_Z43 (σ 0) g root) (fun r => r = ((((copyA g root).1, 0, ()), (copyA g root).2, ()), ())) := by
  refine tot_Z43 ?_
  unfold B_Z43
  refine (i_WriteGraph_tot hg hkk).bind ?_
  intro r ⟨h1, h2⟩
  by_cases hv : ValidG g root
  · rw [h2 hv]
    by_cases hl : (writtenP g root).length > 300
    · rw [if_pos hl, copyA_no (fun h => by omega)]
      simp only [tot_cond, tot_some, Bool.true_eq_false, false_implies, and_true, forall_const]
    · rw [if_neg hl]
      simp only [tot_cond, tot_some, Bool.false_eq_true, false_implies, true_and, forall_const]
      refine (i_BuildGraph_tot (by omega)).bind ?_
      rintro _ rfl
      unfold graphA
      by_cases hw : wholeM (writtenP g root) = true
      · rw [copyA_yes ⟨hv, by omega, hw⟩]
        simp only [if_pos hw, tot_cond, tot_some, Bool.not_true, Bool.false_eq_true, false_implies, true_and, forall_const]
        have hr := rM_root hw
        have hc := rM_cod (whole_ok hw)
        refine (i_pruned_tot hc.w hc.len hr.1 hr.2).bind ?_
        rintro _ rfl
        rw [tot_some]
      · rw [copyA_no (fun h => hw h.2.2)]
        simp only [if_neg hw, tot_cond, tot_some, Bool.not_false, Bool.true_eq_false, false_implies, and_true, forall_const]
  · rw [h1 hv, copyA_no (fun h => hv h.1)]
    simp only [tot_cond, tot_some, Bool.true_eq_false, false_implies, and_true, forall_const]
theorem s_CopyGraph_tot {g : List PNode} {root : Int} (hg : g.length ≤ 2000000) (hkk : ∀ n ∈ g, n.2.2.length ≤ 2000000) : Tot (fun σ => F_Z37 (σ 0) g root) (fun r => r = (((((copyA g root).1.map liftN, 0, ()), (copyA g root).2, ()), ()))) := by
  refine tot_Z37 ?_
  unfold B_Z37
  have j0 : ∀ (t : Int) (b : Bool), (b = true → copyA g root = ([], false)) → (b = false → ValidG g root ∧ (writtenP g root).length ≤ 300) → Tot (fun σ => B_Z37_J0 (σ 0) (F_Z26 (σ 0)) (F_Z65 (σ 0)) (F_Z33 (σ 0)) (F_s_pruned (σ 0)) g root t b) (fun r => r = (((((copyA g root).1.map liftN, 0, ()), (copyA g root).2, ()), ()))) := by
    intro t b hb1 hb2
    unfold B_Z37_J0
    rw [tot_cond]
    refine ⟨fun ht => ?_, fun hf => ?_⟩
    · rw [tot_some, hb1 ht]; rfl
    · obtain ⟨hv, hl⟩ := hb2 hf
      refine (s_written_eq hv).bind ?_
      rintro _ rfl
      refine (s_BuildGraph_tot (by simp only []; omega)).bind ?_
      rintro _ rfl
      unfold graphA
      by_cases hw : wholeM (writtenP g root) = true
      · rw [copyA_yes ⟨hv, by omega, hw⟩]
        simp only [if_pos hw, tot_cond, tot_some, Bool.not_true, Bool.false_eq_true, false_implies, true_and, forall_const]
        have hr := rM_root hw
        have hc := rM_cod (whole_ok hw)
        refine (s_pruned_tot hc.w hc.len hr.1 hr.2).bind ?_
        rintro _ rfl
        rw [tot_some]
      · rw [copyA_no (fun h => hw h.2.2)]
        simp only [if_neg hw, tot_cond, tot_some, Bool.not_false, Bool.true_eq_false, false_implies, and_true, forall_const]
        rfl
  refine (validGraph_tot hg hkk).bind ?_
  rintro _ ⟨b, rfl, hb⟩
  rw [tot_cond]
  simp only [Bool.not_eq_true', Bool.not_eq_false']
  refine ⟨fun hf => ?_, fun ht => ?_⟩
  · rw [tot_jn]
    exact j0 _ true (fun _ => copyA_no fun h => by rw [hb.2 h.1] at hf; cases hf) (fun h => absurd h (by decide))
  · have hv := hb.1 ht
    refine (s_written_eq hv).bind ?_
    rintro _ rfl
    rw [tot_jn]
    refine j0 _ _ (fun h => copyA_no fun h' => ?_) (fun h => ⟨hv, ?_⟩)
    · have := h'.2.1
      simp only [decide_eq_true_eq, len] at h; omega
    · simp only [decide_eq_false_iff_not, len] at h; omega
/-- A copy is small. -/
theorem copyA_small (g : List PNode) (root : Int) : (copyA g root).1.length ≤ 2000000 ∧ ∀ n ∈ (copyA g root).1, n.2.2.length ≤ 400000000 := by
  by_cases h : ValidG g root ∧ (writtenP g root).length ≤ 300 ∧ wholeM (writtenP g root) = true
  · rw [copyA_yes h]
    have hr := rM_root h.2.2
    have hc := rM_cod (whole_ok h.2.2)
    have hm := (reachP_closedW hc.w hr.1 hr.2).1
    have hl := hm.len
    have hlen := hc.len
    refine ⟨by simp only [prunN, List.length_map]; unfold reachP; omega, fun n hn => ?_⟩
    obtain ⟨x, hx, rfl⟩ := List.mem_map.1 hn
    have hx' := hm.2 x hx
    simp only [List.length_map]
    exact hc.each _ (nd_mem hx'.1 hx'.2)
  · rw [copyA_no h]
    exact ⟨by simp, fun n hn => by simp at hn⟩
end Go.Gx

/-
  Laws of exactness, part 0: numbers are copied, compared, marked and held.
-/
set_option linter.unusedVariables false
set_option linter.unusedSimpArgs false
namespace Go.Gx
/-- A list is copied up to j. -/
def CpTo {α : Type} (d : α) (a o : List α) (j : Nat) : Prop := o.length = a.length ∧ j ≤ a.length ∧ ∀ q, q < j → o.getD q d = a.getD q d
theorem CpTo.new {α : Type} (d e : α) (a : List α) : CpTo d a (List.replicate a.length e) 0 := ⟨by simp, by omega, fun q hq => by omega⟩
theorem CpTo.next {α : Type} {d : α} {a o : List α} {j : Nat} (h : CpTo d a o j) (hj : j < a.length) : CpTo d a (o.set j (a.getD j d)) (j + 1) := by
  obtain ⟨h1, h2, h3⟩ := h
  refine ⟨by simp [h1], by omega, fun q hq => ?_⟩
  rw [List.getD_eq_getElem?_getD, List.getElem?_set]
  by_cases e : j = q
  · subst e; simp [h1, hj]
  · rw [if_neg e, ← List.getD_eq_getElem?_getD]; exact h3 q (by omega)
theorem CpTo.stop {α : Type} {d : α} {a o : List α} {j : Nat} (h : CpTo d a o j) (hj : ¬ j < a.length) : o = a := ext_getD h.1 fun q hq => h.2.2 q (by have := h.1; omega)
theorem makeOk {n : Nat} (h : n ≤ 100000000000) : (decide (0 ≤ (n : Int) ∧ (n : Int) ≤ (lim : Int)) && ((n : Int) == (n : Int))) = true := by
  simp [lim]; omega
theorem toIntS_tot {a : List Int} (ha : a.length ≤ 100000000000) : Tot (fun σ => F_l_toIntS (σ 0) a) (fun r => r = ((a, ()), ())) := by
  refine tot_l_toIntS ?_
  unfold B_l_toIntS
  rw [tot_chk]
  refine ⟨makeOk ha, ?_⟩
  have key := loop_l_toIntS_L0 (Q := fun _ _ _ r => r = ((a, ()), ())) (I := fun x o i => x = a ∧ ∃ j : Nat, i = j ∧ CpTo 0 a o j) (μ := fun _ _ i => a.length - i.toNat) ?_
  · exact key a _ 0 ⟨rfl, 0, rfl, by simpa using CpTo.new 0 0 a⟩
  intro x o i ⟨e1, j, e2, hc⟩ again hag ih
  subst e1 e2
  have hc1 := hc.1
  have hc2 := hc.2.1
  unfold B_l_toIntS_L0b
  simp only [tot_cond, tot_chk, tot_some, decide_eq_true_eq, decide_eq_false_iff_not, len, inb_iff, rdx_eq, Int.toNat_natCast]
  refine ⟨fun hlt => ⟨by omega, by omega, by omega, ?_⟩, fun hge => by rw [hc.stop (by omega)]⟩
  rw [w64_succ (by omega) (by omega)]
  exact ih _ _ _ ⟨rfl, j + 1, rfl, hc.next (by omega)⟩ (by simp; omega)
theorem eqIntS_tot {a b : List Int} (ha : a.length ≤ 900000000000) : Tot (fun σ => F_l_eqIntS (σ 0) a b) (Says (a = b)) := by
  refine tot_l_eqIntS ?_
  unfold B_l_eqIntS
  simp only [tot_cond, tot_some, len, bne_iff_ne, ne_eq, bne_eq_false_iff_eq]
  refine ⟨fun h => says_false fun e => h (by rw [e]), fun h => ?_⟩
  have hl : a.length = b.length := by omega
  have key := loop_l_eqIntS_L0 (Q := fun _ _ _ r => Says (a = b) r) (I := fun x y i => x = a ∧ y = b ∧ ∃ j : Nat, i = j ∧ j ≤ a.length ∧ ∀ q, q < j → a.getD q 0 = b.getD q 0) (μ := fun _ _ i => (a.length - i).toNat) ?_
  · exact key a b 0 ⟨rfl, rfl, 0, rfl, by omega, fun q hq => by omega⟩
  intro x y i ⟨e1, e2, j, e3, hj, hq⟩ again hag ih
  subst e1 e2 e3
  unfold B_l_eqIntS_L0b
  simp only [tot_cond, tot_chk, tot_some, decide_eq_true_eq, decide_eq_false_iff_not, len, inb_iff, bne_iff_ne, ne_eq, bne_eq_false_iff_eq]
  simp only [rdx_eq, Int.toNat_natCast]
  refine ⟨fun hlt => ⟨by omega, by omega, fun hne => says_false fun e => hne (by rw [e]), fun he => ?_⟩, fun hge => says_true (ext_getD hl fun i hi => hq i (by omega))⟩
  rw [w64_succ (by omega) (by omega)]
  refine ih _ _ _ ⟨rfl, rfl, j + 1, rfl, by omega, fun q h => ?_⟩ (by simp; omega)
  by_cases e : q = j
  · subst e; exact he
  · exact hq q (by omega)
/-- Numbers from k on. -/
def HldI (a : List Int) (k : Int) : Prop := ∀ q, q < a.length → a.getD q 0 = k + q
theorem markIntS_tot {a : List Int} {k : Int} (ha : a.length ≤ 1000000000) (hk : 0 ≤ k ∧ k ≤ 9000000000000000) : Tot (fun σ => F_Z50 (σ 0) a k) (fun r => ∃ b : List Int, r = ((k + (a.length : Int), ()), (b, ())) ∧ b.length = a.length ∧ HldI b k) := by
  refine tot_Z50 ?_
  unfold B_Z50
  have key := loop_Z50_L0 (Q := fun _ _ _ r => ∃ b : List Int, r = ((k + (a.length : Int), ()), (b, ())) ∧ b.length = a.length ∧ HldI b k) (I := fun b z i => b.length = a.length ∧ ∃ j : Nat, i = j ∧ j ≤ a.length ∧ z = k + j ∧ ∀ q, q < j → b.getD q 0 = k + q) (μ := fun _ _ i => a.length - i.toNat) ?_
  · exact key a k 0 ⟨rfl, 0, rfl, by omega, by omega, fun q hq => by omega⟩
  intro b z i ⟨e1, j, e2, hj, e3, hq⟩ again hag ih
  subst e2 e3
  unfold B_Z50_L0b
  simp only [tot_cond, tot_chk, tot_some, decide_eq_true_eq, decide_eq_false_iff_not, len, inb_iff, Int.toNat_natCast]
  refine ⟨fun hlt => ⟨by omega, by omega, ?_⟩, fun hge => ⟨b, by rw [show j = a.length by omega], e1, fun q h => hq q (by omega)⟩⟩
  rw [w64_succ (by omega) (by omega), show w64 (k + (j : Int) + 1) = k + ((j + 1 : Nat) : Int) by rw [w64_id (by omega) (by omega)]; omega]
  refine ih _ _ _ ⟨by simp [e1], j + 1, rfl, by omega, rfl, fun q h => ?_⟩ (by simp; omega)
  rw [List.getD_eq_getElem?_getD, List.getElem?_set]
  by_cases e : j = q
  · subst e; simp [show j < b.length by omega]
  · rw [if_neg e, ← List.getD_eq_getElem?_getD]; exact hq q (by omega)
theorem heldIntS_tot {a : List Int} {k : Int} (ha : a.length ≤ 1000000000) (hk : 0 ≤ k ∧ k ≤ 9000000000000000) (h : HldI a k) : Tot (fun σ => F_Z47 (σ 0) a k) (fun r => r = ((k + (a.length : Int), ()), ())) := by
  refine tot_Z47 ?_
  unfold B_Z47
  have key := loop_Z47_L0 (Q := fun _ _ _ r => r = ((k + (a.length : Int), ()), ())) (I := fun b z i => b = a ∧ ∃ j : Nat, i = j ∧ j ≤ a.length ∧ z = k + j) (μ := fun _ _ i => a.length - i.toNat) ?_
  · exact key a k 0 ⟨rfl, 0, rfl, by omega, by omega⟩
  intro b z i ⟨e1, j, e2, hj, e3⟩ again hag ih
  subst e1 e2 e3
  unfold B_Z47_L0b
  simp only [tot_cond, tot_chk, tot_some, decide_eq_true_eq, decide_eq_false_iff_not, len, inb_iff, rdx_eq, Int.toNat_natCast, bne_iff_ne, ne_eq, bne_eq_false_iff_eq]
  refine ⟨fun hlt => ⟨by omega, fun hne => absurd (h j (by omega)) hne, fun _ => ?_⟩, fun hge => by rw [show j = b.length by omega]⟩
  rw [w64_succ (by omega) (by omega), show w64 (k + (j : Int) + 1) = k + ((j + 1 : Nat) : Int) by rw [w64_id (by omega) (by omega)]; omega]
  exact ih _ _ _ ⟨rfl, j + 1, rfl, by omega, rfl⟩ (by simp; omega)
/-- What a measuring function answers: -1, or what is left. -/
def SzQ (P : Prop) (left : Int) (r : (Int × Unit) × Unit) : Prop := r = ((-1, ()), ()) ∨ ∃ z, r = ((z, ()), ()) ∧ 0 ≤ z ∧ z ≤ left ∧ P
theorem szIntS_tot {a : List Int} {left : Int} (ha : a.length ≤ maxLen) (hl : 0 ≤ left ∧ left ≤ 2000000) : Tot (fun σ => F_l_szIntS (σ 0) a left) (SzQ ((a.length : Int) ≤ left) left) := by
  refine tot_l_szIntS ?_
  unfold B_l_szIntS
  have hm : maxLen = 9223372036854775807 := by decide
  rw [show w64 (left - len a) = left - len a from w64_id (by unfold len; omega) (by unfold len; omega)]
  simp only [tot_cond, tot_some, decide_eq_true_eq, decide_eq_false_iff_not, len]
  exact ⟨fun _ => .inl rfl, fun h => .inr ⟨_, rfl, by omega, by omega, by omega⟩⟩
end Go.Gx

/-
  Laws of exactness: graphs are copied, compared, marked and held.
-/
set_option linter.unusedVariables false
set_option linter.unusedSimpArgs false
namespace Go.Gx
abbrev dNode : PNode := ((0 : Int), ((0 : Int), ([] : List Int)))
theorem getD_mem' {l : List PNode} {j : Nat} (h : j < l.length) : l.getD j dNode ∈ l := by rw [getD_at h]; exact List.getElem_mem _
theorem toNode_tot {n : PNode} (h : n.2.2.length ≤ 100000000000) : Tot (fun σ => F_l_toNode (σ 0) n.1 n.2.1 n.2.2) (fun r => r = (((n.1, n.2.1, n.2.2, ()), ()), ())) := by
  refine tot_l_toNode ?_
  unfold B_l_toNode
  refine (toIntS_tot h).bind ?_
  rintro _ rfl
  rw [tot_some]
theorem toNodeS_tot {a : List PNode} (ha : a.length ≤ 100000000000) (hk : ∀ n ∈ a, n.2.2.length ≤ 100000000000) : Tot (fun σ => F_Z58 (σ 0) a) (fun r => r = ((a, ()), ())) := by
  refine tot_Z58 ?_
  unfold B_Z58
  rw [tot_chk]
  refine ⟨makeOk ha, ?_⟩
  have key := loop_Z58_L0 (Q := fun _ _ _ r => r = ((a, ()), ())) (I := fun x o i => x = a ∧ ∃ j : Nat, i = j ∧ CpTo dNode a o j) (μ := fun _ _ i => a.length - i.toNat) ?_
  · exact key a _ 0 ⟨rfl, 0, rfl, by simpa using CpTo.new dNode dNode a⟩
  intro x o i ⟨e1, j, e2, hc⟩ again hag ih
  subst e1 e2
  have hc1 := hc.1
  have hc2 := hc.2.1
  unfold B_Z58_L0b
  simp only [tot_cond, tot_chk, tot_some, decide_eq_true_eq, decide_eq_false_iff_not, len, inb_iff, rdx_eq, Int.toNat_natCast]
  refine ⟨fun hlt => ⟨by omega, ?_⟩, fun hge => by rw [hc.stop (by omega)]⟩
  refine (toNode_tot (n := x.getD j dNode) (hk _ (getD_mem' (by omega)))).bind ?_
  rintro _ rfl
  simp only [tot_chk, inb_iff, decide_eq_true_eq]
  refine ⟨by omega, by omega, ?_⟩
  rw [w64_succ (by omega) (by omega)]
  exact ih _ _ _ ⟨rfl, j + 1, rfl, hc.next (by omega)⟩ (by simp; omega)
theorem toGraph_tot {a : List PNode} {root : Int} (ha : a.length ≤ 100000000000) (hk : ∀ n ∈ a, n.2.2.length ≤ 100000000000) : Tot (fun σ => F_Z71 (σ 0) a root) (fun r => r = (((a, root, ()), ()), ())) := by
  refine tot_Z71 ?_
  unfold B_Z71
  refine (toNodeS_tot ha hk).bind ?_
  rintro _ rfl
  rw [tot_some]
theorem eqNode_tot {n m : PNode} (hk : n.2.2.length ≤ 900000000000) : Tot (fun σ => F_l_eqNode (σ 0) n.1 n.2.1 n.2.2 m.1 m.2.1 m.2.2) (Says (n = m)) := by
  refine tot_l_eqNode ?_
  unfold B_l_eqNode
  simp only [tot_cond, tot_some, bne_iff_ne, ne_eq, bne_eq_false_iff_eq]
  refine ⟨fun h => says_false fun e => h (by rw [e]), fun h1 => ⟨fun h => says_false fun e => h (by rw [e]), fun h2 => ?_⟩⟩
  refine (eqIntS_tot hk).bind ?_
  rintro _ ⟨b, rfl, hb⟩
  simp only [tot_cond, tot_some, Bool.not_eq_true', Bool.not_eq_false']
  exact ⟨fun hf => says_false fun e => (by rw [hb.2 (by rw [e])] at hf; cases hf), fun ht => says_true (Prod.ext h1 (Prod.ext h2 (hb.1 ht)))⟩
theorem eqNodeS_tot {a b : List PNode} (ha : a.length ≤ 900000000000) (hk : ∀ n ∈ a, n.2.2.length ≤ 900000000000) : Tot (fun σ => F_Z54 (σ 0) a b) (Says (a = b)) := by
  refine tot_Z54 ?_
  unfold B_Z54
  simp only [tot_cond, tot_some, len, bne_iff_ne, ne_eq, bne_eq_false_iff_eq]
  refine ⟨fun h => says_false fun e => h (by rw [e]), fun h => ?_⟩
  have hl : a.length = b.length := by omega
  have key := loop_Z54_L0 (Q := fun _ _ _ r => Says (a = b) r) (I := fun x y i => x = a ∧ y = b ∧ ∃ j : Nat, i = j ∧ j ≤ a.length ∧ ∀ q, q < j → a.getD q dNode = b.getD q dNode) (μ := fun _ _ i => (a.length - i).toNat) ?_
  · exact key a b 0 ⟨rfl, rfl, 0, rfl, by omega, fun q hq => by omega⟩
  intro x y i ⟨e1, e2, j, e3, hj, hq⟩ again hag ih
  subst e1 e2 e3
  unfold B_Z54_L0b
  simp only [tot_cond, tot_chk, tot_some, decide_eq_true_eq, decide_eq_false_iff_not, len, inb_iff]
  simp only [rdx_eq, Int.toNat_natCast]
  refine ⟨fun hlt => ⟨by omega, by omega, ?_⟩, fun hge => says_true (ext_getD hl fun i hi => hq i (by omega))⟩
  refine (eqNode_tot (n := x.getD j dNode) (m := y.getD j dNode) (hk _ (getD_mem' (by omega)))).bind ?_
  rintro _ ⟨c, rfl, hc⟩
  simp only [tot_cond, tot_some, Bool.not_eq_true', Bool.not_eq_false']
  refine ⟨fun hf => says_false fun e => ?_, fun ht => ?_⟩
  · rw [hc.2 (by rw [e])] at hf; cases hf
  · rw [w64_succ (by omega) (by omega)]
    refine ih _ _ _ ⟨rfl, rfl, j + 1, rfl, by omega, fun q h => ?_⟩ (by simp; omega)
    by_cases e : q = j
    · subst e; exact hc.1 ht
    · exact hq q (by omega)
theorem eqGraph_tot {a b : List PNode} {ra rb : Int} (ha : a.length ≤ 900000000000) (hk : ∀ n ∈ a, n.2.2.length ≤ 900000000000) : Tot (fun σ => F_Z57 (σ 0) a ra b rb) (Says (a = b ∧ ra = rb)) := by
  refine tot_Z57 ?_
  unfold B_Z57
  refine (eqNodeS_tot ha hk).bind ?_
  rintro _ ⟨c, rfl, hc⟩
  simp only [tot_cond, tot_some, Bool.not_eq_true', Bool.not_eq_false', bne_iff_ne, ne_eq, bne_eq_false_iff_eq]
  exact ⟨fun hf => says_false fun e => (by rw [hc.2 e.1] at hf; cases hf), fun ht => ⟨fun h => says_false fun e => h e.2, fun h => says_true ⟨hc.1 ht, h⟩⟩⟩
theorem szNode_tot {n : PNode} {left : Int} (hn : n.2.2.length ≤ maxLen) (hl : 0 ≤ left ∧ left ≤ 2000000) : Tot (fun σ => F_l_szNode (σ 0) n.1 n.2.1 n.2.2 left) (SzQ ((n.2.2.length : Int) ≤ left) left) := by
  refine tot_l_szNode ?_
  unfold B_l_szNode
  refine (szIntS_tot hn hl).bind ?_
  rintro _ (rfl | ⟨z, rfl, h1, h2, h3⟩)
  · simp only [tot_cond, tot_some]
    exact ⟨fun _ => .inl rfl, fun h => absurd h (by decide)⟩
  · simp only [tot_cond, tot_some, decide_eq_true_eq, decide_eq_false_iff_not]
    exact ⟨fun h => by omega, fun _ => .inr ⟨z, rfl, h1, h2, h3⟩⟩
theorem szNodeS_tot {a : List PNode} {left : Int} (ha : a.length ≤ maxLen) (hk : ∀ n ∈ a, n.2.2.length ≤ maxLen) (hl : 0 ≤ left ∧ left ≤ 2000000) : Tot (fun σ => F_Z59 (σ 0) a left) (SzQ ((a.length : Int) ≤ left ∧ ∀ n ∈ a, (n.2.2.length : Int) ≤ left) left) := by
  refine tot_Z59 ?_
  unfold B_Z59
  have hm : maxLen = 9223372036854775807 := by decide
  rw [show w64 (left - len a) = left - len a from w64_id (by unfold len; omega) (by unfold len; omega)]
  simp only [tot_cond, tot_some, decide_eq_true_eq, decide_eq_false_iff_not, len]
  refine ⟨fun _ => .inl rfl, fun h => ?_⟩
  have key := loop_Z59_L0 (Q := fun _ _ _ r => SzQ ((a.length : Int) ≤ left ∧ ∀ n ∈ a, (n.2.2.length : Int) ≤ left) left r) (I := fun x z i => x = a ∧ 0 ≤ z ∧ z ≤ left ∧ ∃ j : Nat, i = j ∧ j ≤ a.length ∧ ∀ q, q < j → ((a.getD q dNode).2.2.length : Int) ≤ left) (μ := fun _ _ i => a.length - i.toNat) ?_
  · exact key a _ 0 ⟨rfl, by omega, by omega, 0, rfl, by omega, fun q hq => by omega⟩
  intro x z i ⟨e1, z1, z2, j, e2, hj, hq⟩ again hag ih
  subst e1 e2
  unfold B_Z59_L0b
  simp only [tot_cond, tot_chk, tot_some, decide_eq_true_eq, decide_eq_false_iff_not, len, inb_iff]
  simp only [rdx_eq, Int.toNat_natCast]
  refine ⟨fun hlt => ⟨by omega, ?_⟩, fun hge => .inr ⟨z, rfl, z1, z2, by omega, fun n hn => ?_⟩⟩
  · refine (szNode_tot (n := x.getD j dNode) (left := z) (hk _ (getD_mem' (by omega))) ⟨z1, by omega⟩).bind ?_
    rintro _ (rfl | ⟨z', rfl, h1, h2, h3⟩)
    · simp only [tot_cond, tot_some]
      exact ⟨fun _ => .inl rfl, fun h => absurd h (by decide)⟩
    · simp only [tot_cond, tot_some, decide_eq_true_eq, decide_eq_false_iff_not]
      refine ⟨fun h => by omega, fun _ => ?_⟩
      rw [w64_succ (by omega) (by omega)]
      refine ih _ _ _ ⟨rfl, h1, by omega, j + 1, rfl, by omega, fun q h => ?_⟩ (by simp; omega)
      by_cases e : q = j
      · subst e; omega
      · exact hq q (by omega)
  · obtain ⟨q, h1, rfl⟩ := List.getElem_of_mem hn
    have := hq q (by omega)
    rw [getD_at h1] at this
    exact this
theorem szGraph_tot {a : List PNode} {root left : Int} (ha : a.length ≤ maxLen) (hk : ∀ n ∈ a, n.2.2.length ≤ maxLen) (hl : 0 ≤ left ∧ left ≤ 2000000) : Tot (fun σ => F_Z68 (σ 0) a root left) (SzQ ((a.length : Int) ≤ left ∧ ∀ n ∈ a, (n.2.2.length : Int) ≤ left) left) := by
  refine tot_Z68 ?_
  unfold B_Z68
  refine (szNodeS_tot ha hk hl).bind ?_
  rintro _ (rfl | ⟨z, rfl, h1, h2, h3⟩)
  · simp only [tot_cond, tot_some]
    exact ⟨fun _ => .inl rfl, fun h => absurd h (by decide)⟩
  · simp only [tot_cond, tot_some, decide_eq_true_eq, decide_eq_false_iff_not]
    exact ⟨fun h => by omega, fun _ => .inr ⟨z, rfl, h1, h2, h3⟩⟩
/-- Nodes are numbered from k up to k'. -/
inductive Hld : List PNode → Int → Int → Prop where
  | nil (k : Int) : Hld [] k k
  | cons {n : PNode} {r : List PNode} {k k' : Int} : n.1 = k → n.2.1 = k + 1 → HldI n.2.2 (k + 2) → Hld r (k + 2 + (n.2.2.length : Int)) k' → Hld (n :: r) k k'
theorem Hld.snoc {l : List PNode} {n : PNode} {k k' : Int} (h : Hld l k k') (h1 : n.1 = k') (h2 : n.2.1 = k' + 1) (h3 : HldI n.2.2 (k' + 2)) : Hld (l ++ [n]) k (k' + 2 + (n.2.2.length : Int)) := by
  induction h with
  | nil k => exact .cons h1 h2 h3 (.nil _)
  | cons e1 e2 e3 _ ih => exact .cons e1 e2 e3 (ih h1 h2 h3)
theorem take_snoc {α : Type} {l : List α} {j : Nat} (d : α) (h : j < l.length) : l.take (j + 1) = l.take j ++ [l.getD j d] := by
  rw [List.take_add_one, List.getElem?_eq_getElem h, getD_at h]; rfl
theorem drop_step {α : Type} {l : List α} {j : Nat} (d : α) (h : j < l.length) : l.drop j = l.getD j d :: l.drop (j + 1) := by
  rw [List.drop_eq_getElem_cons h, getD_at h]
theorem markNodeS_tot {a : List PNode} {k : Int} (ha : a.length ≤ 3000000) (hk : ∀ n ∈ a, n.2.2.length ≤ 400000000) (h0 : 0 ≤ k ∧ k ≤ 1000) : Tot (fun σ => F_Z42 (σ 0) a k) (fun r => ∃ (b : List PNode) (k' : Int), r = ((k', ()), (b, ())) ∧ 0 ≤ k' ∧ b.length = a.length ∧ (∀ n ∈ b, n.2.2.length ≤ 400000000) ∧ Hld b k k') := by
  refine tot_Z42 ?_
  unfold B_Z42
  have key := loop_Z42_L0 (Q := fun _ _ _ r => ∃ (b : List PNode) (k' : Int), r = ((k', ()), (b, ())) ∧ 0 ≤ k' ∧ b.length = a.length ∧ (∀ n ∈ b, n.2.2.length ≤ 400000000) ∧ Hld b k k')
    (I := fun b z i => b.length = a.length ∧ (∀ n ∈ b, n.2.2.length ≤ 400000000) ∧ ∃ j : Nat, i = j ∧ j ≤ a.length ∧ 0 ≤ z ∧ z ≤ 1000 + (j : Int) * 500000000 ∧ Hld (b.take j) k z) (μ := fun _ _ i => a.length - i.toNat) ?_
  · exact key a k 0 ⟨rfl, hk, 0, rfl, by omega, h0.1, by omega, .nil _⟩
  intro b z i ⟨e1, hb, j, e2, hj, z1, z2, hh⟩ again hag ih
  subst e2
  unfold B_Z42_L0b
  simp only [tot_cond, tot_chk, tot_some, decide_eq_true_eq, decide_eq_false_iff_not, len, inb_iff, Int.toNat_natCast, List.length_set]
  refine ⟨fun hlt => ⟨by omega, by omega, by omega, by omega, by omega, by omega, ?_⟩, fun hge => ⟨b, z, rfl, z1, e1, hb, by rw [List.take_of_length_le (by omega)] at hh; exact hh⟩⟩
  have hlt' : j < b.length := by omega
  have w1 : w64 (z + 1) = z + 1 := w64_id (by omega) (by omega)
  have w2 : w64 (z + 1 + 1) = z + 2 := by rw [w64_id (by omega) (by omega)]; omega
  have hm := hb _ (getD_mem' hlt')
  have g1 : ∀ (x : PNode), (b.set j x).getD j dNode = x := fun x => by rw [List.getD_eq_getElem?_getD, List.getElem?_set]; simp [hlt']
  simp only [g1, List.set_set, w1, w2]
  refine (markIntS_tot (a := (b.getD j dNode).2.2) (k := z + 2) (by omega) ⟨by omega, by omega⟩).bind ?_
  rintro _ ⟨c, rfl, hc1, hc2⟩
  dsimp only
  rw [w64_succ (by omega) (by omega)]
  refine ih _ _ _ ⟨by simp [e1], fun n hn => ?_, j + 1, rfl, by omega, by omega, by push_cast; omega, ?_⟩ (by simp; omega)
  · rcases List.mem_or_eq_of_mem_set hn with hn | rfl
    · exact hb n hn
    · simp only [hc1]; exact hm
  · have hl' : j < (b.set j (z, z + 1, c)).length := by simpa using hlt'
    rw [take_snoc dNode hl', g1, List.take_set_of_le (by omega)]
    have := hh.snoc (n := (z, z + 1, c)) rfl rfl hc2
    rw [show z + 2 + ((b.getD j dNode).2.2.length : Int) = z + 2 + (c.length : Int) by rw [hc1]]
    exact this
theorem heldNodeS_tot {a : List PNode} {k k' : Int} (ha : a.length ≤ 3000000) (hk : ∀ n ∈ a, n.2.2.length ≤ 400000000) (h0 : 0 ≤ k ∧ k ≤ 1000) (h : Hld a k k') : Tot (fun σ => F_Z35 (σ 0) a k) (fun r => r = ((k', ()), ())) := by
  refine tot_Z35 ?_
  unfold B_Z35
  have key := loop_Z35_L0 (Q := fun _ _ _ r => r = ((k', ()), ())) (I := fun b z i => b = a ∧ ∃ j : Nat, i = j ∧ j ≤ a.length ∧ 0 ≤ z ∧ z ≤ 1000 + (j : Int) * 500000000 ∧ Hld (a.drop j) z k') (μ := fun _ _ i => a.length - i.toNat) ?_
  · exact key a k 0 ⟨rfl, 0, rfl, by omega, h0.1, by omega, h⟩
  intro b z i ⟨e1, j, e2, hj, z1, z2, hh⟩ again hag ih
  subst e1 e2
  unfold B_Z35_L0b
  simp only [tot_cond, tot_chk, tot_some, decide_eq_true_eq, decide_eq_false_iff_not, len, inb_iff, Int.toNat_natCast, bne_iff_ne, ne_eq, bne_eq_false_iff_eq]
  simp only [rdx_eq, Int.toNat_natCast]
  have w1 : w64 (z + 1) = z + 1 := w64_id (by omega) (by omega)
  have w2 : w64 (z + 1 + 1) = z + 2 := by rw [w64_id (by omega) (by omega)]; omega
  simp only [w1, w2]
  refine ⟨fun hlt => ?_, fun hge => ?_⟩
  · have hlt' : j < b.length := by omega
    rw [drop_step dNode hlt'] at hh
    generalize hrest : b.drop (j + 1) = rest at hh
    generalize hn : b.getD j dNode = n at hh ⊢
    have hm : n.2.2.length ≤ 400000000 := by rw [← hn]; exact hk _ (getD_mem' hlt')
    cases hh with
    | cons h1 h2 h3 h4 =>
      refine ⟨by omega, fun h => absurd h1 h, fun _ => ⟨by omega, fun h => absurd h2 h, fun _ => ⟨by omega, ?_⟩⟩⟩
      refine (heldIntS_tot (by omega) ⟨by omega, by omega⟩ h3).bind ?_
      rintro _ rfl
      simp only [tot_cond, tot_some, decide_eq_true_eq, decide_eq_false_iff_not]
      refine ⟨fun h => by omega, fun _ => ?_⟩
      rw [w64_succ (by omega) (by omega)]
      exact ih _ _ _ ⟨rfl, j + 1, rfl, by omega, by omega, by push_cast; omega, by rw [hrest]; exact h4⟩ (by simp; omega)
  · rw [List.drop_eq_nil_of_le (by omega)] at hh
    cases hh
    rfl
theorem markGraph_tot {a : List PNode} {root k : Int} (ha : a.length ≤ 3000000) (hk : ∀ n ∈ a, n.2.2.length ≤ 400000000) (h0 : 0 ≤ k ∧ k ≤ 1000) : Tot (fun σ => F_Z46 (σ 0) a root k) (fun r => ∃ (b : List PNode) (k' : Int), r = ((k', ()), ((b, root, ()), ())) ∧ 0 ≤ k' ∧ b.length = a.length ∧ (∀ n ∈ b, n.2.2.length ≤ 400000000) ∧ Hld b k k') := by
  refine tot_Z46 ?_
  unfold B_Z46
  refine (markNodeS_tot ha hk h0).bind ?_
  rintro _ ⟨b, k', rfl, h1, h2, h3, h4⟩
  rw [tot_some]
  exact ⟨b, k', rfl, h1, h2, h3, h4⟩
theorem heldGraph_tot {a : List PNode} {root k k' : Int} (ha : a.length ≤ 3000000) (hk : ∀ n ∈ a, n.2.2.length ≤ 400000000) (h0 : 0 ≤ k ∧ k ≤ 1000) (h1 : 0 ≤ k') (h : Hld a k k') : Tot (fun σ => F_Z38 (σ 0) a root k) (fun r => r = ((k', ()), ())) := by
  refine tot_Z38 ?_
  unfold B_Z38
  refine (heldNodeS_tot ha hk h0 h).bind ?_
  rintro _ rfl
  simp only [tot_cond, tot_some, decide_eq_true_eq, decide_eq_false_iff_not]
  exact ⟨fun h => by omega, fun _ => trivial⟩
end Go.Gx

/-
  The plain law of FnExactCopyGraph.
-/
set_option linter.unusedVariables false
set_option linter.unusedSimpArgs false
namespace Go.Gx
theorem p_Z6 (x : List PNode × Int) (hz : SzT (.pair (.sl (.pair (.int .i64) (.pair (.int .i64) (.sl (.int .i64))))) (.int .i64)) x) : ∃ k, F_Z6 k x.1 x.2 = some ((true, ()), ()) := by
  obtain ⟨g, root⟩ := x
  obtain ⟨⟨hz1, hz2⟩, _⟩ := hz
  have hz1 : g.length ≤ maxLen := hz1
  have hz2 : ∀ n ∈ g, n.2.2.length ≤ maxLen := fun n hn => (hz2 n hn).2.2.1
  refine Tot.ex (F := fun k => F_Z6 k g root) ?_
  refine tot_Z6 ?_
  unfold B_Z6 B_Z6_J0 B_Z6_J1 B_Z6_J2
  refine (szGraph_tot (root := root) (left := 1048576) hz1 hz2 (by omega)).bind ?_
  rintro _ (rfl | ⟨z, rfl, z1, z2, hg, hk⟩)
  · simp only [tot_cond, tot_some]
    exact ⟨fun _ => trivial, fun h => absurd h (by decide)⟩
  simp only [tot_cond, decide_eq_true_eq, decide_eq_false_iff_not]
  refine ⟨fun h => by omega, fun _ => ?_⟩
  have hkk : ∀ n ∈ g, n.2.2.length ≤ 2000000 := fun n hn => by have := hk n hn; omega
  have to1 : Tot (fun σ => F_Z71 (σ 0) g root) (fun r => r = (((g, root, ()), ()), ())) := toGraph_tot (by omega) (fun n hn => by have := hkk n hn; omega)
  refine to1.bind ?_
  rintro _ rfl
  refine (s_CopyGraph_tot (root := root) (by omega) hkk).bind ?_
  rintro _ rfl
  refine to1.bind ?_
  rintro _ rfl
  have im := i_CopyGraph_tot (g := g) (root := root) (by omega) hkk
  refine im.bind ?_
  rintro _ rfl
  have cv : ∀ T : List PNode, List.map (fun p : Int × Int × Option (List Int) => (p.1, p.2.1, p.2.2.getD [])) (T.map liftN) = T := fun T => by
    rw [List.map_map]
    exact (List.map_congr_left fun n _ => rfl).trans (List.map_id T)
  obtain ⟨hT, hTk⟩ := copyA_small g root
  generalize copyA g root = C at hT hTk im ⊢
  obtain ⟨T, b⟩ := C
  simp only [cv] at hT hTk im ⊢
  have eqT : Tot (fun σ => F_Z57 (σ 0) T 0 T 0) (fun r => r = ((true, ()), ())) := (eqGraph_tot (by omega) (fun n hn => by have := hTk n hn; omega)).mono fun r hr => by
    obtain ⟨c, rfl, hc⟩ := hr
    rw [hc.2 ⟨rfl, rfl⟩]
  have eqg : Tot (fun σ => F_Z57 (σ 0) g root g root) (fun r => r = ((true, ()), ())) := (eqGraph_tot (by omega) (fun n hn => by have := hkk n hn; omega)).mono fun r hr => by
    obtain ⟨c, rfl, hc⟩ := hr
    rw [hc.2 ⟨rfl, rfl⟩]
  refine eqT.bind ?_
  rintro _ rfl
  simp only [cv, tot_cond, tot_jn, Bool.not_true, beq_self_eq_true, Bool.false_eq_true, Bool.true_eq_false, false_implies, true_and, and_true, forall_const]
  refine to1.bind ?_
  rintro _ rfl
  refine eqg.bind ?_
  rintro _ rfl
  simp only [cv, tot_cond, Bool.not_true, Bool.true_eq_false, Bool.false_eq_true, false_implies, true_and, and_true, forall_const]
  refine (markGraph_tot (a := g) (root := root) (k := 1) (by omega) (fun n hn => by have := hkk n hn; omega) (by omega)).bind ?_
  rintro _ ⟨_, k1, rfl, hk1, _⟩
  simp only [cv, tot_cond, tot_jn, decide_eq_true_eq, decide_eq_false_iff_not]
  refine ⟨fun h => by omega, fun _ => ?_⟩
  refine eqT.bind ?_
  rintro _ rfl
  simp only [cv, tot_cond, tot_jn, Bool.not_true, beq_self_eq_true, Bool.false_eq_true, Bool.true_eq_false, false_implies, true_and, and_true, forall_const]
  refine (markGraph_tot (a := T) (root := 0) (k := 1) (by omega) hTk (by omega)).bind ?_
  rintro _ ⟨T', m, rfl, hm, hl', hk', hh⟩
  have held : Tot (fun σ => F_Z38 (σ 0) T' 0 1) (fun r => r = ((m, ()), ())) := heldGraph_tot (by omega) hk' (by omega) hm hh
  refine held.bind ?_
  rintro _ rfl
  simp only [cv, tot_cond, decide_eq_true_eq, decide_eq_false_iff_not, bne_self_eq_false, Bool.false_eq_true, Bool.true_eq_false, false_implies, true_and, and_true, forall_const]
  refine ⟨fun h => by omega, fun _ => ?_⟩
  refine to1.bind ?_
  rintro _ rfl
  refine im.bind ?_
  rintro _ rfl
  refine eqT.bind ?_
  rintro _ rfl
  simp only [cv, tot_cond, tot_jn, Bool.not_true, beq_self_eq_true, Bool.false_eq_true, Bool.true_eq_false, false_implies, true_and, and_true, forall_const]
  refine held.bind ?_
  rintro _ rfl
  simp only [cv, tot_cond, tot_some, decide_eq_true_eq, decide_eq_false_iff_not, bne_self_eq_false, Bool.false_eq_true, Bool.true_eq_false, false_implies, true_and, and_true, forall_const]
  exact ⟨fun h => by omega, fun _ => trivial⟩
end Go.Gx

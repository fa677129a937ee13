/-
  Plain laws about the printed functions.
-/
import Derived.Test.YtccllfbilobfhaaXLpart1
set_option linter.unusedVariables false
set_option linter.unusedSimpArgs false
namespace Go.Gx
theorem someOps_tot {b : List Int} {p : Int} (h : RD b p) (hp : p ≤ 90000000) : Tot (fun σ => F_s_someOps (σ 0) b p) (Drawn b p 2000 fun x => ∃ ops : List POp, x = (ops, ()) ∧ ops.length ≤ 500000000000) := by
  refine tot_s_someOps ?_
  unfold B_s_someOps
  have fin : ∀ (q : Int) (o : List POp), p ≤ q → q ≤ p + 2000 → o.length ≤ 500000000000 → Drawn b p 2000 (fun x => ∃ ops : List POp, x = (ops, ()) ∧ ops.length ≤ 500000000000) ((o, ()), ((b, q, ()), ())) := fun q o h1 h2 h3 => ⟨_, q, rfl, h1, h2, o, rfl, h3⟩
  have j2 : ∀ (q : Int) (o : List POp), p ≤ q → q ≤ p + 1900 → o.length ≤ 500000000000 → Tot (fun σ => B_s_someOps_J2 (σ 0) (F_s_reader_pick (σ 0)) (F_s_likelyOps (σ 0)) (F_s_someGraph (σ 0)) (F_s_written (σ 0)) (F_s_someOp (σ 0)) (F_s_reader_one (σ 0)) b q o) (Drawn b p 2000 fun x => ∃ ops : List POp, x = (ops, ()) ∧ ops.length ≤ 500000000000) := by
    intro q o h1 h2 h3
    have hq := h.next h1 (by omega)
    unfold B_s_someOps_J2
    rw [tot_cond]
    simp only [decide_eq_true_eq, decide_eq_false_iff_not, len]
    refine ⟨fun hlt => ?_, fun _ => by rw [tot_some]; exact fin q o h1 (by omega) h3⟩
    refine (pick_tot hq (by omega) (by omega)).bind ?_
    rintro _ ⟨_, q2, rfl, k1, k2, v, rfl, k3, k4⟩
    rw [tot_cond]
    refine ⟨fun _ => ?_, fun _ => ?_⟩
    · refine (one_tot (hq.next k1 (by omega)) (by omega) (by simp) (by simp)).bind ?_
      rintro _ ⟨_, q3, rfl, f1, f2, u, rfl, hu⟩
      simp only [tot_chk, tot_some, inb_iff, decide_eq_true_eq]
      exact ⟨by omega, by simp; omega, fin q3 _ (by omega) (by omega) (by simpa using h3)⟩
    · rw [tot_cond]
      refine ⟨fun _ => ?_, fun _ => by rw [tot_some]; exact fin q2 o (by omega) (by omega) h3⟩
      refine (one_tot (hq.next k1 (by omega)) (by omega) (by simp) (by simp)).bind ?_
      rintro _ ⟨_, q3, rfl, f1, f2, u, rfl, hu⟩
      have w : w64 ((o.length : Int) - 1) = (o.length : Int) - 1 := w64_id (by omega) (by omega)
      simp only [tot_chk, tot_some, inb_iff, decide_eq_true_eq, w]
      exact ⟨by omega, by omega, fin q3 _ (by omega) (by omega) (by simpa using h3)⟩
  have j1 : ∀ (q : Int) (o : List POp), p ≤ q → q ≤ p + 1800 → o.length ≤ 500000000000 → Tot (fun σ => B_s_someOps_J1 (σ 0) (F_s_reader_pick (σ 0)) (F_s_likelyOps (σ 0)) (F_s_someGraph (σ 0)) (F_s_written (σ 0)) (F_s_someOp (σ 0)) (F_s_reader_one (σ 0)) b q o) (Drawn b p 2000 fun x => ∃ ops : List POp, x = (ops, ()) ∧ ops.length ≤ 500000000000) := by
    intro q o h1 h2 h3
    have hq := h.next h1 (by omega)
    unfold B_s_someOps_J1
    refine (pick_tot hq (by omega) (by omega)).bind ?_
    rintro _ ⟨_, q2, rfl, k1, k2, v, rfl, k3, k4⟩
    rw [tot_cond]
    refine ⟨fun _ => ?_, fun _ => by rw [tot_jn]; exact j2 q2 o (by omega) (by omega) h3⟩
    have w : w64 (len o + 1) = (o.length : Int) + 1 := by rw [w64_id] <;> simp only [len] <;> omega
    rw [w]
    refine (pick_tot (hq.next k1 (by omega)) (by omega) (by omega)).bind ?_
    rintro _ ⟨_, q3, rfl, f1, f2, u, rfl, f3, f4⟩
    have f4 := f4 (by omega)
    rw [tot_chk]
    refine ⟨cutb_iff.2 ⟨Int.le_refl _, f3, by show u ≤ (o.length : Int); omega⟩, ?_⟩
    rw [tot_jn]
    exact j2 q3 (o.take u.toNat) (by omega) (by omega) (by simp only [List.length_take]; omega)
  refine (pick_tot h (by omega) (by omega)).bind ?_
  rintro _ ⟨_, q, rfl, h1, h2, v, rfl, h3, h4⟩
  have hq := h.next h1 (by omega)
  rw [tot_cond]
  refine ⟨fun _ => ?_, fun _ => ?_⟩
  · refine (likelyOps_tot hq (by omega)).bind ?_
    rintro _ ⟨_, q2, rfl, k1, k2, o, rfl, ho, _⟩
    rw [tot_jn]
    exact j2 q2 o (by omega) (by omega) (by omega)
  · refine (someGraph_tot hq (by omega)).bind ?_
    rintro _ ⟨_, q2, rfl, k1, k2, g, root, rfl, hv⟩
    have hq2 := hq.next k1 (by omega)
    refine (pick_tot hq2 (by omega) (by omega)).bind ?_
    rintro _ ⟨_, q3, rfl, f1, f2, u, rfl, f3, f4⟩
    have hq3 := hq2.next f1 (by omega)
    refine (written_tot hv u).bind ?_
    rintro _ ⟨o, rfl, ho⟩
    refine (pick_tot hq3 (by omega) (by omega)).bind ?_
    rintro _ ⟨_, q4, rfl, m1, m2, u2, rfl, m3, m4⟩
    have hq4 := hq3.next m1 (by omega)
    have j0 : ∀ t : Bool, (t = true → 0 < o.length) → Tot (fun σ => B_s_someOps_J0 (σ 0) (F_s_reader_pick (σ 0)) (F_s_likelyOps (σ 0)) (F_s_someGraph (σ 0)) (F_s_written (σ 0)) (F_s_someOp (σ 0)) (F_s_reader_one (σ 0)) b q4 o t) (Drawn b p 2000 fun x => ∃ ops : List POp, x = (ops, ()) ∧ ops.length ≤ 500000000000) := by
      intro t ht
      unfold B_s_someOps_J0
      rw [tot_cond]
      refine ⟨fun hb => ?_, fun _ => by rw [tot_jn]; exact j1 q4 o (by omega) (by omega) ho⟩
      have hpos := ht hb
      refine (pick_tot hq4 (by omega) (by simp only [len]; omega)).bind ?_
      rintro _ ⟨_, q5, rfl, n1, n2, w, rfl, n3, n4⟩
      have n4 := n4 (by simp only [len]; omega)
      simp only [len] at n4
      refine (someOp_tot (hq4.next n1 (by omega)) (by omega)).bind ?_
      rintro _ ⟨_, q6, rfl, l1, l2, c, a, rfl, _⟩
      simp only [tot_chk, inb_iff, decide_eq_true_eq]
      refine ⟨by omega, by omega, ?_⟩
      rw [tot_jn]
      exact j1 q6 _ (by omega) (by omega) (by simpa using ho)
    rw [tot_cond]
    refine ⟨fun _ => ?_, fun _ => ?_⟩
    · rw [tot_jn]; exact j0 _ (fun h => by simp only [decide_eq_true_eq, len] at h; omega)
    · rw [tot_jn]; exact j0 false (fun h => absurd h (by decide))
def bytesP (o : POp) : List Int := if argP o.1 < 0 then [o.1] else if o.2 < 128 then [o.1, o.2] else [o.1, 128 + o.2 % 128, o.2 / 128]
def encP (ops : List POp) : List Int := if okOps ops = true then ops.flatMap bytesP else []
end Go.Gx

/-
  Laws, part M2: the reference's small functions on machines.
-/
set_option linter.unusedVariables false
set_option linter.unusedSimpArgs false
namespace Go.Gx
/-! ### The reference's functions -/
theorem s_push_tot {N : List PNode} {S M : List Int} {D : Bool} {k v : Int} {ks : List Int} (hN : N.length ≤ 2000000) (hS : S.length ≤ 2000000) :
    Tot (fun σ => F_s_push (σ 0) N S M D k v ks) (fun r => r = (((N ++ [(k, (v, ks))], S ++ [(N.length : Int)], M, D, ()), ()), ())) := by
  refine tot_s_push ?_
  unfold B_s_push
  have e : w64 (len (N ++ [(k, (v, ks))]) - 1) = (N.length : Int) := by
    rw [w64_id] <;> simp only [len, List.length_append, List.length_cons, List.length_nil] <;> omega
  simp only [tot_chk, tot_some, room_iff, e, List.length_cons, List.length_nil]
  exact ⟨by omega, by omega, trivial⟩
theorem s_drop_tot {N : List PNode} {S M : List Int} {D : Bool} {n : Nat} (hS : S.length ≤ 2000000) (hn : n ≤ S.length) :
    Tot (fun σ => F_s_drop (σ 0) N S M D (n : Int)) (fun r => r = (((N, S.take (S.length - n), M, D, ()), ()), ())) := by
  refine tot_s_drop ?_
  unfold B_s_drop
  have e : w64 (len S - (n : Int)) = (S.length : Int) - n := by rw [w64_id] <;> simp only [len] <;> omega
  simp only [tot_chk, tot_some, cutb_iff, e]
  refine ⟨by omega, ?_⟩
  rw [show ((S.length : Int) - n).toNat = S.length - n by omega]
theorem s_top_tot {N : List PNode} {S M : List Int} {D : Bool} (d : Nat) (hS : S.length ≤ 2000000) (hd : d ≤ 1000) :
    Tot (fun σ => F_s_top (σ 0) N S M D (d : Int)) (fun r => r = ((topO S d, ()), ())) := by
  refine tot_s_top ?_
  unfold B_s_top
  have e1 : w64 (len S - 1) = (S.length : Int) - 1 := by rw [w64_id] <;> simp only [len] <;> omega
  have e2 : w64 ((S.length : Int) - 1 - d) = (S.length : Int) - 1 - d := by rw [w64_id] <;> omega
  simp only [tot_cond, tot_chk, tot_some, e1, e2, decide_eq_true_eq, decide_eq_false_iff_not, inb_iff]
  refine ⟨fun h => ?_, fun h => ⟨by omega, ?_⟩⟩
  · rw [topO, if_neg (by omega)]
  · rw [topO, if_pos (by omega), rdx_eq, topN, show ((S.length : Int) - 1 - d).toNat = S.length - 1 - d by omega]
theorem s_kindOf_tot {N : List PNode} {S M : List Int} {D : Bool} {x : Int} (hx : x < (N.length : Int)) :
    Tot (fun σ => F_s_kindOf (σ 0) N S M D x) (fun r => r = (((if x < 0 then -1 else (N.getD x.toNat d0).1), ()), ())) := by
  refine tot_s_kindOf ?_
  unfold B_s_kindOf
  simp only [tot_cond, tot_chk, tot_some, decide_eq_true_eq, decide_eq_false_iff_not, inb_iff]
  refine ⟨fun h => by rw [if_pos h], fun h => ⟨by omega, by rw [if_neg h]; rfl⟩⟩
theorem s_markAt_tot {N : List PNode} {S M : List Int} {D : Bool} (hS : S.length ≤ 2000000) :
    Tot (fun σ => F_s_markAt (σ 0) N S M D) (fun r => r = (((match markAt S S.length with | some i => (i : Int) | none => -1), ()), ())) := by
  refine tot_s_markAt ?_
  unfold B_s_markAt
  have e : w64 (len S - 1) = (S.length : Int) - 1 := by rw [w64_id] <;> simp only [len] <;> omega
  rw [e]
  have key := loop_s_markAt_L0 (Q := fun N' S' M' D' i r => r = (((match markAt S S.length with | some i => (i : Int) | none => -1), ()), ())) (I := fun N' S' M' D' i => S' = S ∧ ∃ n : Nat, i = (n : Int) - 1 ∧ n ≤ S.length ∧ markAt S n = markAt S S.length) (μ := fun _ _ _ _ i => (i + 1).toNat) ?_
  · exact key N S M D _ ⟨rfl, S.length, rfl, Nat.le_refl _, rfl⟩
  intro N' S' M' D' i ⟨e1, n, e2, hn, hm⟩ again hag ih
  subst e1 e2
  unfold B_s_markAt_L0b
  simp only [tot_cond, tot_chk, tot_some, decide_eq_true_eq, decide_eq_false_iff_not, inb_iff]
  cases n with
  | zero => exact ⟨fun h => by omega, fun _ => by rw [← hm]; rfl⟩
  | succ j =>
    simp only [show ((j + 1 : Nat) : Int) - 1 = (j : Int) by omega, rdx_eq, Int.toNat_natCast]
    refine ⟨fun _ => ⟨by omega, fun hlt => ?_, fun hge => ?_⟩, fun h => by omega⟩
    · rw [← hm, markAt, if_pos hlt]
    · rw [w64_id (by omega) (by omega)]
      exact ih _ _ _ _ _ ⟨rfl, j, rfl, by omega, by rw [← hm, markAt, if_neg hge]⟩ (by omega)
theorem s_copyInts' {l : List Int} (h : l.length ≤ 500000000000) : Tot (fun σ => F_s_copyInts (σ 0) l) (fun r => r = ((l, ()), ())) := copyInts_tot h
theorem s_goodKeys_tot {N : List PNode} {S M : List Int} {D : Bool} {l : List Int} (hl : l.length ≤ 2000000) (hr : ∀ x ∈ l, 0 ≤ x ∧ x < (N.length : Int)) :
    Tot (fun σ => F_s_goodKeys (σ 0) N S M D l) (fun r => r = ((keysOk (N.map (·.1)) l && decide (l.length % 2 = 0), ()), ())) := by
  refine tot_s_goodKeys ?_
  unfold B_s_goodKeys
  have key := loop_s_goodKeys_L0 (Q := fun l' N' S' M' D' i r => r = ((keysOk (N.map (·.1)) l && decide (l.length % 2 = 0), ()), ())) (I := fun l' N' S' M' D' i => l' = l ∧ N' = N ∧ ∃ j : Nat, i = (j : Int) ∧ j ≤ l.length + 1 ∧ j % 2 = 0 ∧ keysOk (N.map (·.1)) l = keysOk (N.map (·.1)) (l.drop j)) (μ := fun _ _ _ _ _ i => (l.length + 2 - i).toNat) ?_
  · exact key l N S M D 0 ⟨rfl, rfl, 0, rfl, by omega, rfl, rfl⟩
  intro l' N' S' M' D' i ⟨e1, e2, j, e3, hj, hj2, hk⟩ again hag ih
  subst e1 e2 e3
  unfold B_s_goodKeys_L0b
  simp only [tot_cond, tot_chk, tot_some, decide_eq_true_eq, decide_eq_false_iff_not, inb_iff, len]
  refine ⟨fun hlt => ?_, fun hge => ?_⟩
  · have hj3 : j < l'.length := by omega
    have hx := hr _ (getD_mem (d := 0) hj3)
    simp only [rdx_eq, Int.toNat_natCast]
    refine ⟨by omega, hx, (isKey_tot _ _ []).bind ?_⟩
    rintro _ ⟨b, rfl, hb⟩
    have hdrop : l'.drop j = l'.getD j 0 :: l'.drop (j + 1) := by
      rw [List.drop_eq_getElem_cons hj3, List.getD_eq_getElem?_getD, List.getElem?_eq_getElem hj3]; rfl
    have hkp : b = keyP ((N'.map (·.1)).getD (l'.getD j 0).toNat 0) := by
      have e := getD_map' (fun n : PNode => n.1) N' (l'.getD j 0).toNat d0
      have e' : (N'.map (·.1)).getD (l'.getD j 0).toNat 0 = (N'.getD (l'.getD j 0).toNat d0).1 := e
      rw [e', Bool.eq_iff_iff, hb]
      simp [isKeyP, keyP]
    simp only [tot_cond, tot_some]
    refine ⟨fun hb' => ?_, fun hb' => ?_⟩
    · have hbf : b = false := by simpa using hb'
      rw [hbf] at hkp
      have : keysOk (N'.map (·.1)) l' = false := by
        rw [hk, hdrop]
        cases hq : l'.drop (j + 1) with
        | nil => simp only [keysOk, ← hkp]
        | cons y r => simp only [keysOk, ← hkp, Bool.false_and]
      rw [this]; rfl
    · have hbt : b = true := by simpa using hb'
      rw [hbt] at hkp
      rw [show w64 ((j : Int) + 2) = ((j + 2 : Nat) : Int) by rw [w64_id (by omega) (by omega)]; omega]
      refine ih _ _ _ _ _ _ ⟨rfl, rfl, j + 2, rfl, by omega, by omega, ?_⟩ (by omega)
      rw [hk, hdrop]
      cases hq : l'.drop (j + 1) with
      | nil =>
        have : l'.drop (j + 2) = [] := by rw [show j + 2 = j + 1 + 1 by omega, ← List.drop_drop, hq]; rfl
        simp only [keysOk, ← hkp, this]
      | cons y r =>
        have : l'.drop (j + 2) = r := by rw [show j + 2 = j + 1 + 1 by omega, ← List.drop_drop, hq]; rfl
        simp only [keysOk, ← hkp, this, Bool.true_and]
  · have hko : keysOk (N'.map (·.1)) l' = true := by rw [hk, List.drop_eq_nil_of_le (by omega)]; rfl
    have e3 : ((l'.length : Int).tmod 2 == 0) = decide (l'.length % 2 = 0) := by
      rw [Int.tmod_eq_emod_of_nonneg (by omega)]
      rw [Bool.eq_iff_iff]; simp only [beq_iff_eq, decide_eq_true_eq]; omega
    rw [hko, e3]; rfl
end Go.Gx

/-
  Laws, part M3: an order, by the reference.
-/
set_option linter.unusedVariables false
set_option linter.unusedSimpArgs false
namespace Go.Gx
theorem s_putItem_tot {N : List PNode} {S M : List Int} {D : Bool} {dict key value : Int} {L : Nat} (hL : L ≤ 1000000000) (hni : NI N N.length L) (hN : N.length ≤ 2000000) (hd : 0 ≤ dict ∧ dict < (N.length : Int)) (hk : 0 ≤ key ∧ key < (N.length : Int)) (h4 : (N.getD dict.toNat d0).1 = 4) :
    Tot (fun σ => F_s_putItem (σ 0) N S M D dict key value) (fun r => r = (((putItemP N dict key value, S, M, D, ()), ()), ())) := by
  refine tot_s_putItem ?_
  unfold B_s_putItem
  have hm := getD_mem (d := d0) (show dict.toNat < N.length by omega)
  have hev := hni.ev _ hm h4
  have hrg := hni.rg _ hm
  have hln := hni.ln _ hm
  have hkids : (N.getD dict.toNat d0).2.2 = kidsAt N dict := rfl
  rw [hkids] at hev hrg hln
  simp only [tot_chk, inb_iff, decide_eq_true_eq]
  refine ⟨hd, by omega, ?_⟩
  have key' := loop_s_putItem_L0 (Q := fun d' k' v' t8 kids i m_Nodes m_Stack m_Memo m_Done r => r = (((putItemP N dict key value, S, M, D, ()), ()), ()))
    (I := fun d' k' v' t8 kids i m_Nodes m_Stack m_Memo m_Done => d' = dict ∧ k' = key ∧ v' = value ∧ kids = kidsAt N dict ∧ m_Nodes = (N, dict.toNat) ∧ m_Stack = S ∧ m_Memo = M ∧ m_Done = D ∧ ∃ j : Nat, i = (j : Int) ∧ j % 2 = 0 ∧ j ≤ kids.length ∧ fk N (N.getD key.toNat d0) kids 0 = fk N (N.getD key.toNat d0) kids j)
    (μ := fun _ _ _ _ kids i _ _ _ _ => (kids.length + 2 - i).toNat) ?_
  · exact key' dict key value false (kidsAt N dict) 0 (N, dict.toNat) S M D ⟨rfl, rfl, rfl, rfl, rfl, rfl, rfl, rfl, 0, rfl, rfl, by omega, rfl⟩
  intro d' k' v' t8 kids i m_Nodes m_Stack m_Memo m_Done ⟨e1, e2, e3, e4, e5, e6, e7, e8, j, e9, hj2, hjl, hf⟩ again hag ih
  subst e1 e2 e3 e5 e6 e7 e8 e9
  unfold B_s_putItem_L0b
  simp only [tot_cond, tot_chk, decide_eq_true_eq, decide_eq_false_iff_not, inb_iff, len]
  refine ⟨fun hlt => ?_, fun hge => ?_⟩
  · have hj : j < kids.length := by omega
    rw [← e4] at hev hrg hln
    have hx := hrg _ (getD_mem (d := 0) hj)
    simp only [Int.toNat_natCast]
    refine ⟨by omega, hj, hx, by omega, hk, by omega, (sameKey_tot _ _ [] _ _ []).bind ?_⟩
    rintro _ ⟨b, rfl, hb⟩
    have hbs : b = sameB (N.getD (kids.getD j 0).toNat d0) (N.getD k'.toNat d0) := by
      rw [Bool.eq_iff_iff, hb]
      simp [sameP, sameB]
    have e1 : w64 ((j : Int) + 1) = ((j + 1 : Nat) : Int) := by rw [w64_id (by omega) (by omega)]; omega
    have e2 : w64 ((j : Int) + 2) = ((j + 2 : Nat) : Int) := by rw [w64_id (by omega) (by omega)]; omega
    simp only [tot_cond, tot_chk, tot_some, decide_eq_true_eq, inb_iff, e1, e2, Int.toNat_natCast]
    have hfj := hf
    rw [fk.eq_1 (i := j), if_pos hj] at hfj
    refine ⟨fun hb' => ?_, fun hb' => ?_⟩
    · rw [hbs] at hb'
      rw [if_pos hb'] at hfj
      refine ⟨by omega, by omega, ?_⟩
      unfold putItemP putK
      rw [← e4, hfj]
      rfl
    · rw [hbs] at hb'
      rw [if_neg (by rw [hb']; decide)] at hfj
      exact ih _ _ _ _ _ _ _ _ _ _ ⟨rfl, rfl, rfl, e4, rfl, rfl, rfl, rfl, j + 2, rfl, by omega, by omega, hfj⟩ (by omega)
  · have hj : ¬ j < kids.length := by omega
    rw [← e4] at hln
    simp only [tot_some, room_iff, List.length_cons, List.length_nil]
    refine ⟨by omega, hd, trivial, ?_⟩
    rw [fk.eq_1 (i := j), if_neg hj] at hf
    unfold putItemP putK
    rw [← e4, hf]
    rfl
/-- What the parts of an order answer. -/
def AnsQ (o : Option Mc) (r : ((List PNode × List Int × List Int × Bool × Unit) × Bool × Unit) × Unit) : Prop := match o with
  | some m => r = ((MD m, true, ()), ())
  | none => r.1.2.1 = false
def markQ (m : Mc) (c : Int) : Option Mc := (markP m.sh c).map fun s => ⟨nodesP m c 0, s.S, s.M, s.D⟩
def takeQ (m : Mc) (c a : Int) : Option Mc := (takeP m.sh c a).map fun s => ⟨nodesP m c a, s.S, s.M, s.D⟩
theorem s_stepMark_tot {m : Mc} {L : Nat} (h : MI m L) (hL : L ≤ 900000000) {c a : Int} (hc : c = 3 ∨ c = 9 ∨ c = 12 ∨ c = 18) : Tot (fun σ => F_s_stepMark (σ 0) m.N m.S m.M m.D c a) (AnsQ (markQ m c)) := by
  have hN := h.kl; have hS := h.sl
  refine tot_s_stepMark ?_
  unfold B_s_stepMark
  refine (s_markAt_tot (by omega)).bind ?_
  rintro _ rfl
  unfold markQ
  cases hi : markAt m.S m.S.length with
  | none =>
    have e : markP m.sh c = none := by rw [markP]; show (match markAt m.S m.S.length with | none => none | some i => _) = none; rw [hi]
    rw [e]
    simp only [tot_cond, tot_some]
    exact ⟨fun _ => rfl, fun h0 => absurd h0 (by decide)⟩
  | some i =>
    obtain ⟨hil, _, _⟩ := markAt_lt hi
    have hab := above_in h hi
    have hmk : mkAt m.S = i := by unfold mkAt; rw [hi]; rfl
    have e : markP m.sh c = if c = 3 then some (pushP { m.sh with S := m.S.take i } 2) else if c = 9 then (if shapeP (m.N.map (·.1)) (m.S.take i) 0 = 3 then some { m.sh with S := m.S.take i } else none)
        else if c = 12 then (if shapeP (m.N.map (·.1)) (m.S.take i) 0 = 4 ∧ (m.S.drop (i + 1)).length % 2 = 0 ∧ keysOk (m.N.map (·.1)) (m.S.drop (i + 1)) = true then some { m.sh with S := m.S.take i } else none) else some { m.sh with S := m.S.take i } := by
      rw [markP]; show (match markAt m.S m.S.length with | none => none | some i => _) = _; rw [hi]; rfl
    rw [e]
    have e1 : w64 ((i : Int) + 1) = (i : Int) + 1 := w64_id (by omega) (by omega)
    have hSt : ∀ x ∈ m.S.take i, -1 ≤ x ∧ x < (m.N.length : Int) := fun x hx => h.st x (List.mem_of_mem_take hx)
    simp only [tot_cond, decide_eq_true_eq, decide_eq_false_iff_not, tot_chk, cutb_iff, e1, len, Int.toNat_natCast, List.take_length, show ((i : Int) + 1).toNat = i + 1 by omega]
    refine ⟨fun h0 => by omega, fun _ => ⟨by omega, (s_copyInts' (by simp only [List.length_drop]; omega)).bind ?_⟩⟩
    rintro _ rfl
    have e2 : w64 (((m.S.drop (i + 1)).length : Int) + 1) = ((m.S.length - i : Nat) : Int) := by
      rw [w64_id] <;> simp only [List.length_drop] <;> omega
    simp only [e2]
    refine (s_drop_tot (by omega) (by omega)).bind ?_
    rintro _ rfl
    simp only [show m.S.length - (m.S.length - i) = i by omega]
    refine (s_top_tot 0 (by simp only [List.length_take]; omega) (by omega)).bind ?_
    rintro _ rfl
    simp only [tot_cond, beq_iff_eq, beq_eq_false_iff_ne, ne_eq]
    refine ⟨fun h3 => ?_, fun h3 => ⟨fun h9 => ?_, fun h9 => ⟨fun h12 => ?_, fun h12 => ?_⟩⟩⟩
    · subst h3
      refine (s_push_tot (by omega) (by simp only [List.length_take]; omega)).bind ?_
      rintro _ rfl
      rw [tot_some, if_pos rfl]
      show _ = _
      simp only [pushP, nodesP, Mc.sh, hmk, MD, List.length_map]
      rfl
    · subst h9
      refine (s_kindOf_tot (topO_lt hSt 0)).bind ?_
      rintro _ rfl
      simp only [kindOf_top, tot_cond, tot_some, bne_iff_ne, ne_eq, bne_eq_false_iff_eq]
      simp only [Int.reduceEq, if_false, if_true]
      refine ⟨fun hk => by rw [if_neg hk]; rfl, fun hk => ?_⟩
      rw [if_pos hk]
      obtain ⟨q1, q2, q3⟩ := shapeP_top (d := 0) hSt (by rw [hk]; decide)
      have et : topO (m.S.take i) 0 = topN (m.S.take i) 0 := by unfold topO; rw [if_pos q1]
      rw [et]
      have hm := getD_mem (d := d0) (show (topN (m.S.take i) 0).toNat < m.N.length by omega)
      have hln : ((m.N.getD (topN (m.S.take i) 0).toNat ((0 : Int), ((0 : Int), ([] : List Int)))).2.2).length ≤ L := h.ni.ln _ hm
      simp only [tot_chk, tot_jn, tot_some, inb_iff, decide_eq_true_eq, room_iff, List.length_drop]
      refine ⟨⟨q2, q3⟩, by omega, by omega, ⟨q2, q3⟩, trivial, ?_⟩
      unfold B_s_stepMark_J2
      rw [tot_some]
      show _ = _
      simp only [nodesP, hmk, MD]
      rfl
    · subst h12
      refine (s_kindOf_tot (topO_lt hSt 0)).bind ?_
      rintro _ rfl
      simp only [kindOf_top, tot_cond, tot_jn, bne_iff_ne, ne_eq, bne_eq_false_iff_eq]
      simp only [Int.reduceEq, if_false, if_true]
      unfold B_s_stepMark_J0
      refine ⟨fun hk => ?_, fun hk => ?_⟩
      · rw [if_neg (fun h0 => hk h0.1)]
        simp only [tot_cond, tot_some]
        exact ⟨fun _ => rfl, fun h0 => absurd h0 (by decide)⟩
      refine (s_goodKeys_tot (by simp only [List.length_drop]; omega) hab).bind ?_
      rintro _ rfl
      simp only [tot_jn, tot_cond, tot_some, Bool.not_eq_true', Bool.not_eq_false', Bool.and_eq_true, Bool.and_eq_false_iff, decide_eq_true_eq, decide_eq_false_iff_not]
      refine ⟨fun hg => ?_, fun hg => ?_⟩
      · rw [if_neg]
        · rfl
        · rintro ⟨_, h1, h2⟩
          rcases hg with hg | hg
          · rw [h2] at hg; cases hg
          · exact hg h1
      · rw [if_pos ⟨hk, hg.2, hg.1⟩]
        obtain ⟨q1, q2, q3⟩ := shapeP_top (d := 0) hSt (by rw [hk]; decide)
        have et : topO (m.S.take i) 0 = topN (m.S.take i) 0 := by unfold topO; rw [if_pos q1]
        rw [et]
        obtain ⟨_, _, hk4⟩ := kindP hk (by decide)
        have hl1 : (m.S.drop (i + 1)).length ≤ 1000000 := by simp only [List.length_drop]; omega
        have hev := hg.2
        have hnod : nodesP m 12 0 = putsP m.N (topN (m.S.take i) 0) (m.S.drop (i + 1)) := by simp only [nodesP, hmk]; rfl
        rw [hnod]
        generalize hl : m.S.drop (i + 1) = l at hab hl1 hev
        generalize hd : topN (m.S.take i) 0 = d at q2 q3 hk4
        have key := loop_s_stepMark_L1 (Q := fun N' S' M' D' t4 l' b' i' r => AnsQ (some ⟨putsP m.N d l, m.S.take i, m.M, m.D⟩) r)
          (I := fun N' S' M' D' t4 l' b' i' => S' = m.S.take i ∧ M' = m.M ∧ D' = m.D ∧ l' = l ∧ b' = d ∧ ∃ j : Nat, i' = (j : Int) ∧ j % 2 = 0 ∧ j ≤ l.length ∧ NI N' m.N.length (L + j) ∧ N'.length = m.N.length ∧ (N'.getD d.toNat d0).1 = 4 ∧ putsP m.N d l = putsP N' d (l.drop j))
          (μ := fun _ _ _ _ _ _ _ i' => (l.length + 2 - i').toNat) ?_
        · exact key m.N (m.S.take i) m.M m.D false l d 0 ⟨rfl, rfl, rfl, rfl, rfl, 0, rfl, rfl, by omega, h.ni, rfl, hk4, rfl⟩
        intro N' S' M' D' t4 l' b' i' ⟨f1, f2, f3, f4, f5, j, f6, hj2, hjl, hni, hNl, h4, hp⟩ again hag ih
        subst f1 f2 f3 f4 f5 f6
        unfold B_s_stepMark_L1b
        simp only [tot_cond, tot_chk, decide_eq_true_eq, decide_eq_false_iff_not, inb_iff, len, Int.toNat_natCast]
        refine ⟨fun hlt => ?_, fun hge => ?_⟩
        · have hj : j + 1 < l'.length := by omega
          have f1 : w64 ((j : Int) + 1) = ((j + 1 : Nat) : Int) := by rw [w64_id (by omega) (by omega)]; omega
          have f2 : w64 ((j : Int) + 2) = ((j + 2 : Nat) : Int) := by rw [w64_id (by omega) (by omega)]; omega
          simp only [f1, f2, Int.toNat_natCast]
          have hx := hab _ (getD_mem (d := 0) (show j < l'.length by omega))
          have hy := hab _ (getD_mem (d := 0) hj)
          refine ⟨by omega, by omega, by omega, by omega, (s_putItem_tot (L := L + j) (by omega) (by rw [hNl]; exact hni) (by omega) (by omega) (by omega) h4).bind ?_⟩
          rintro _ rfl
          have hdrop : l'.drop j = l'.getD j 0 :: l'.getD (j + 1) 0 :: l'.drop (j + 2) := by
            rw [List.drop_eq_getElem_cons (by omega : j < l'.length), List.drop_eq_getElem_cons hj, List.getD_eq_getElem?_getD, List.getD_eq_getElem?_getD, List.getElem?_eq_getElem (by omega : j < l'.length), List.getElem?_eq_getElem hj]; rfl
          refine ih _ _ _ _ _ _ _ _ ⟨rfl, rfl, rfl, rfl, rfl, j + 2, rfl, by omega, by omega, (hni.putItem (by omega) hx hy), by rw [putItemP_len]; exact hNl, ?_, ?_⟩ (by omega)
          · unfold putItemP; rw [kind_eq (setK_kinds _ _ _)]; exact h4
          · rw [hp, hdrop, putsP]
        · simp only [tot_jn]
          unfold B_s_stepMark_J2
          rw [tot_some, hp, List.drop_eq_nil_of_le (by omega), putsP]
          · rfl
          · intro k v r h0; cases h0
    · have h18 : c = 18 := by omega
      subst h18
      simp only [tot_jn, Int.reduceEq, if_false]
      unfold B_s_stepMark_J2
      rw [tot_some]
      show _ = _
      simp only [nodesP, Mc.sh, MD]
      rfl
end Go.Gx

/-
  Laws, part M4: an order, by the reference: its whole.
-/
set_option linter.unusedVariables false
set_option linter.unusedSimpArgs false
namespace Go.Gx
theorem s_stepTop_tot {m : Mc} {L : Nat} (h : MI m L) (hL : L ≤ 900000000) {c a : Int} (hc : c = 5 ∨ c = 6 ∨ c = 8 ∨ c = 11 ∨ c = 14 ∨ c = 15 ∨ c = 17 ∨ c = 19) (ha : c = 15 → 0 ≤ a ∧ a < 20) : Tot (fun σ => F_s_stepTop (σ 0) m.N m.S m.M m.D c a) (AnsQ (takeQ m c a)) := by
  have hN := h.kl; have hS := h.sl; have hst := h.st; have hml := h.ml
  refine tot_s_stepTop ?_
  unfold B_s_stepTop
  refine (s_top_tot 0 (by omega) (by omega)).bind ?_
  rintro _ rfl
  refine (s_top_tot 1 (by omega) (by omega)).bind ?_
  rintro _ rfl
  refine (s_top_tot 2 (by omega) (by omega)).bind ?_
  rintro _ rfl
  have n0 := top_neg h.ni m.S 0
  have n1 := top_neg h.ni m.S 1
  have n2 := top_neg h.ni m.S 2
  unfold takeQ takeP
  simp only
  have hsK : m.sh.K = m.N.map (·.1) := rfl
  have hsS : m.sh.S = m.S := rfl
  have hsF : m.sh.Fu = m.N.map fullN := rfl
  rw [hsK, hsS, hsF]
  rw [tot_cond]
  simp only [decide_eq_true_eq, decide_eq_false_iff_not]
  refine ⟨fun h0 => ?_, fun h0 => ?_⟩
  · rw [if_pos (n0.2 h0), tot_some]; rfl
  rw [if_neg (fun h1 => h0 (n0.1 h1))]
  obtain ⟨p1, p2, p3⟩ := topO_pos h0
  have p4 := topN_lt hst p1
  rw [p2]
  rcases hc with rfl | rfl | rfl | rfl | rfl | rfl | rfl | rfl
  · simp only [Int.reduceBEq, cond_true, if_true]
    refine (s_drop_tot (n := 1) (by omega) (by omega)).bind ?_
    rintro _ rfl
    dsimp only
    refine (s_push_tot (by omega) (by simp only [List.length_take]; omega)).bind ?_
    rintro _ rfl
    rw [tot_some]
    show _ = _
    simp only [pushP, dropP, Mc.sh, nodesP, MD, List.length_map]
    rfl
  · simp only [Int.reduceBEq, cond_true, cond_false, Int.reduceEq, if_false, if_true, tot_cond, decide_eq_true_eq, decide_eq_false_iff_not]
    refine ⟨fun h1 => ?_, fun h1 => ?_⟩
    · rw [if_pos (n1.2 h1), tot_some]; rfl
    · rw [if_neg (fun h2 => h1 (n1.1 h2))]
      obtain ⟨q1, q2, q3⟩ := topO_pos h1
      rw [q2]
      refine (s_drop_tot (n := 2) (by omega) (by omega)).bind ?_
      rintro _ rfl
      dsimp only
      refine (s_push_tot (by omega) (by simp only [List.length_take]; omega)).bind ?_
      rintro _ rfl
      rw [tot_some]
      show _ = _
      simp only [pushP, dropP, Mc.sh, nodesP, MD, List.length_map]
      rfl
  · simp only [Int.reduceBEq, cond_true, cond_false, Int.reduceEq, if_false, if_true]
    refine (s_kindOf_tot (topO_lt hst 1)).bind ?_
    rintro _ rfl
    simp only [kindOf_top, tot_cond, tot_some, bne_iff_ne, ne_eq, bne_eq_false_iff_eq]
    refine ⟨fun hk => by rw [if_neg hk]; rfl, fun hk => ?_⟩
    rw [if_pos hk]
    obtain ⟨q1, q2, q3⟩ := shapeP_top (d := 1) hst (by rw [hk]; decide)
    have et : topO m.S 1 = topN m.S 1 := by unfold topO; rw [if_pos q1]
    rw [et]
    have hm := getD_mem (d := d0) (show (topN m.S 1).toNat < m.N.length by omega)
    have hln : ((m.N.getD (topN m.S 1).toNat ((0 : Int), ((0 : Int), ([] : List Int)))).2.2).length ≤ L := h.ni.ln _ hm
    simp only [tot_chk, inb_iff, decide_eq_true_eq, room_iff, List.length_cons, List.length_nil]
    refine ⟨⟨q2, q3⟩, by omega, by omega, ⟨q2, q3⟩, trivial, (s_drop_tot (n := 1) (by omega) (by omega)).bind ?_⟩
    rintro _ rfl
    rw [tot_some]
    show _ = _
    simp only [dropP, Mc.sh, nodesP, MD]
    rfl
  · simp only [Int.reduceBEq, cond_true, cond_false, Int.reduceEq, if_false, if_true, tot_cond, decide_eq_true_eq, decide_eq_false_iff_not, tot_jn]
    unfold B_s_stepTop_J0
    have bad : ∀ {o : Option Sh} {t4 : Bool} {x y z : Int}, o = none → Tot (fun s => bif true then some (((m.N, m.S, m.M, m.D, ()), false, ()), ()) else (F_s_putItem (s 0) m.N m.S m.M m.D z y x).bind fun r87 => (F_s_drop (s 0) r87.1.1.1 r87.1.1.2.1 r87.1.1.2.2.1 r87.1.1.2.2.2.1 2).bind fun r88 => some (((r88.1.1.1, r88.1.1.2.1, r88.1.1.2.2.1, r88.1.1.2.2.2.1, ()), true, ()), ())) (AnsQ (o.map fun s => ⟨nodesP m 11 a, s.S, s.M, s.D⟩)) := by
      intro o t4 x y z ho
      subst ho
      simp only [tot_cond, tot_some]
      exact ⟨fun _ => rfl, fun h0 => absurd h0 (by decide)⟩
    refine ⟨fun h1 => bad (t4 := false) (if_neg fun hq => ?_), fun h1 => ?_⟩
    · have := n1.2 h1
      have hkp := hq.1
      unfold keyP at hkp
      simp only [Bool.or_eq_true, beq_iff_eq] at hkp
      omega
    refine (s_kindOf_tot (topO_lt hst 2)).bind ?_
    rintro _ rfl
    simp only [kindOf_top, tot_cond, tot_jn, bne_iff_ne, ne_eq, bne_eq_false_iff_eq]
    refine ⟨fun hk => ?_, fun hk => ?_⟩
    · have := bad (t4 := false) (x := topN m.S 0) (y := topO m.S 1) (z := topO m.S 2) (o := if keyP (shapeP (m.N.map (·.1)) m.S 1) = true ∧ shapeP (m.N.map (·.1)) m.S 2 = 4 then some (dropP m.sh 2) else none) (if_neg fun hq => hk hq.2)
      simpa only [tot_cond] using this
    obtain ⟨q1, q2, q3⟩ := topO_pos h1
    obtain ⟨z1, z2, z3⟩ := shapeP_top (d := 2) hst (by rw [hk]; decide)
    have et : topO m.S 2 = topN m.S 2 := by unfold topO; rw [if_pos z1]
    have q4 := topN_lt hst q1
    rw [q2, et]
    simp only [tot_chk, inb_iff, decide_eq_true_eq]
    refine ⟨⟨q3, q4⟩, by omega, (isKey_tot _ _ []).bind ?_⟩
    rintro _ ⟨b, rfl, hb⟩
    have hkp : b = keyP (shapeP (m.N.map (·.1)) m.S 1) := by
      rw [← kindOf_top, if_neg h1, q2, Bool.eq_iff_iff, hb]
      simp [isKeyP, keyP]
    simp only [tot_jn]
    cases hbq : b with
    | false =>
      rw [hbq] at hkp
      have := bad (t4 := false) (x := topN m.S 0) (y := topN m.S 1) (z := topN m.S 2) (o := if keyP (shapeP (m.N.map (·.1)) m.S 1) = true ∧ shapeP (m.N.map (·.1)) m.S 2 = 4 then some (dropP m.sh 2) else none) (if_neg fun hq => by rw [← hkp] at hq; exact absurd hq.1 (by decide))
      simpa only [tot_cond, Bool.not_false] using this
    | true =>
      rw [hbq] at hkp
      rw [if_pos ⟨hkp.symm, hk⟩]
      simp only [Bool.not_true, tot_cond]
      refine ⟨fun h0 => absurd h0 (by decide), fun _ => ?_⟩
      obtain ⟨_, _, hk4⟩ := kindP hk (by decide)
      refine (s_putItem_tot (L := L) (by omega) h.ni (by omega) ⟨z2, z3⟩ ⟨q3, q4⟩ hk4).bind ?_
      rintro _ rfl
      dsimp only
      refine (s_drop_tot (n := 2) (by omega) (by omega)).bind ?_
      rintro _ rfl
      rw [tot_some]
      show _ = _
      simp only [dropP, Mc.sh, nodesP, MD]
      rfl
  · simp only [Int.reduceBEq, cond_true, cond_false, Int.reduceEq, if_false, if_true]
    refine (s_kindOf_tot (topO_lt hst 1)).bind ?_
    rintro _ rfl
    simp only [kindOf_top, tot_cond, tot_jn, bne_iff_ne, ne_eq, bne_eq_false_iff_eq]
    unfold B_s_stepTop_J1
    refine ⟨fun hk => ?_, fun hk => ?_⟩
    · rw [if_neg (fun hq => hk hq.1)]
      simp only [tot_cond, tot_some]
      exact ⟨fun _ => rfl, fun h0 => absurd h0 (by decide)⟩
    obtain ⟨q1, q2, q3⟩ := shapeP_top (d := 1) hst (by rw [hk]; decide)
    have et : topO m.S 1 = topN m.S 1 := by unfold topO; rw [if_pos q1]
    obtain ⟨_, _, hk5⟩ := kindP hk (by decide)
    rw [et]
    have hse : m.N.set (topN m.S 1).toNat ((m.N.getD (topN m.S 1).toNat ((0 : Int), ((0 : Int), ([] : List Int)))).1, ((m.N.getD (topN m.S 1).toNat ((0 : Int), ((0 : Int), ([] : List Int)))).2.1, (m.N.getD (topN m.S 1).toNat ((0 : Int), ((0 : Int), ([] : List Int)))).2.2)) = m.N := set_eta
    have hidx : m.S.getD (m.S.length - 2) 0 = topN m.S 1 := by unfold topN; congr 1
    have hfa := full_at (i := (topN m.S 1).toNat) hk5
    simp only [tot_chk, tot_jn, inb_iff, decide_eq_true_eq, hse, tot_cond, len, decide_eq_false_iff_not, tot_some]
    refine ⟨⟨q2, q3⟩, by omega, fun hf => ?_, fun hf => ?_⟩
    · rw [if_neg]
      · rfl
      · rintro ⟨_, hq⟩
        rw [hidx, hfa] at hq
        have hq : (m.N.getD (topN m.S 1).toNat ((0 : Int), ((0 : Int), ([] : List Int)))).2.2 = [] := hq
        rw [hq] at hf
        exact absurd hf (by decide)
    · have hq : (m.N.getD (topN m.S 1).toNat d0).2.2 = [] := List.eq_nil_of_length_eq_zero (by
        have hf : ¬ (((m.N.getD (topN m.S 1).toNat d0).2.2.length : Int) > 0) := hf
        omega)
      rw [if_pos ⟨hk, by rw [hidx, hfa]; exact hq⟩]
      refine ⟨⟨q2, q3⟩, by omega, (s_drop_tot (n := 1) (by omega) (by omega)).bind ?_⟩
      rintro _ rfl
      rw [tot_some]
      show _ = _
      simp only [dropP, Mc.sh, nodesP, MD]
      rfl
  · simp only [Int.reduceBEq, cond_true, cond_false, Int.reduceEq, if_false, if_true, tot_chk, tot_some, inb_iff, decide_eq_true_eq]
    have := ha rfl
    refine ⟨by omega, by omega, ?_⟩
    show _ = _
    simp only [Mc.sh, nodesP, MD]
    rfl
  · simp only [Int.reduceBEq, cond_true, cond_false, Int.reduceEq, if_false]
    refine (s_drop_tot (n := 1) (by omega) (by omega)).bind ?_
    rintro _ rfl
    rw [tot_some]
    show _ = _
    simp only [dropP, Mc.sh, nodesP, MD]
    rfl
  · simp only [Int.reduceBEq, cond_true, cond_false, Int.reduceEq, if_false, if_true, tot_some]
    split
    · rename_i h1
      show _ = _
      simp only [Mc.sh, nodesP, MD, len, h1]
      rfl
    · rename_i h1
      show ((len m.S == 1) = false)
      rw [beq_eq_false_iff_ne]
      simp only [len]; omega
end Go.Gx

/-
  Laws, part M5: an order, by the reference: all codes; what holds of a machine goes on.
-/
set_option linter.unusedVariables false
set_option linter.unusedSimpArgs false
namespace Go.Gx
def AnsM (o : Option Mc) (r : ((Option (List PNode) × Option (List Int) × Option (List Int) × Bool × Unit) × Bool × Unit) × Unit) : Prop := match o with
  | some m => r = (((some m.N, some m.S, some m.M, m.D, ()), true, ()), ())
  | none => r.1.2.1 = false
theorem s_step_J1 {m : Mc} {t : Bool} (h1 : m.N.length ≤ 900000000) (h2 : m.S.length ≤ 900000000) : Tot (fun σ => B_s_step_J1 (σ 0) (F_s_push (σ 0)) (F_s_stepMark (σ 0)) (F_s_stepTop (σ 0)) m.N m.S m.M m.D t) (AnsM (fitM m)) := by
  unfold B_s_step_J1 fitM
  simp only [tot_cond, tot_some, decide_eq_true_eq, decide_eq_false_iff_not, len]
  refine ⟨fun h => ?_, fun h => ?_⟩
  · by_cases hs : m.S.length ≤ 300
    · rw [if_pos ⟨by omega, hs⟩]
      simp only [AnsM]
      rw [decide_eq_true (by omega)]
    · rw [if_neg (fun hq => hs hq.2)]
      exact decide_eq_false (by omega)
  · rw [if_neg (fun hq => h (by omega))]
    rfl
theorem s_step_tot {m : Mc} {L : Nat} (h : MI m L) (hL : L ≤ 900000000) (hk9 : m.N.length ≤ 900000) (hs9 : m.S.length ≤ 900000) {c a : Int} (hc : okOp (c, a) = true) : Tot (fun σ => F_s_step (σ 0) m.N m.S m.M m.D c a) (AnsM (stepM m c a)) := by
  have hN := h.kl; have hS := h.sl; have hst := h.st; have hml := h.ml
  have hcc : 0 ≤ c ∧ c ≤ 19 := by simp only [okOp, decide_eq_true_eq] at hc; omega
  have ha := okOp_arg hc
  refine tot_s_step ?_
  unfold B_s_step
  rw [stepM_eq]
  unfold stepQ stepRaw
  have hsD : m.sh.D = m.D := rfl
  rw [hsD, tot_cond]
  refine ⟨fun hd => by rw [if_pos hd, tot_some]; rfl, fun hd => ?_⟩
  rw [if_neg (by rw [hd]; decide)]
  have mark : ∀ {c : Int}, (c = 3 ∨ c = 9 ∨ c = 12 ∨ c = 18) → nodesP m c a = nodesP m c 0 → Tot (fun s => jn (fun t => B_s_step_J0 (s 0) (F_s_push (s 0)) (F_s_stepMark (s 0)) (F_s_stepTop (s 0)) t.1.1 t.1.2.1 t.1.2.2.1 t.1.2.2.2.1 t.2.1.1 t.2.1.2.1 t.2.2.1.2.2.2.1 t.2.2.2.1) ((m.N, m.S, m.M, m.D, ()), (c, a, ()), ((), (), (), false, ()), true, ()))
      (AnsM (((markP m.sh c).map fun s => (⟨nodesP m c a, s.S, s.M, s.D⟩ : Mc)).bind fitM)) := by
    intro c hc hn
    rw [tot_jn]
    unfold B_s_step_J0
    dsimp only
    rw [tot_cond]
    refine ⟨fun _ => ?_, fun h0 => absurd h0 (by decide)⟩
    refine (s_stepMark_tot h hL hc).bind fun r hr => ?_
    unfold markQ at hr
    rw [hn]
    cases hq : markP m.sh c with
    | none =>
      rw [hq] at hr
      have hr : r.1.2.1 = false := hr
      simp only [hr, tot_cond, tot_some]
      exact ⟨fun _ => rfl, fun h0 => absurd h0 (by decide)⟩
    | some s =>
      rw [hq] at hr
      have hr : r = ((MD ⟨nodesP m c 0, s.S, s.M, s.D⟩, true, ()), ()) := hr
      subst hr
      simp only [tot_cond, tot_jn, Bool.not_true]
      refine ⟨fun h0 => absurd h0 (by decide), fun _ => ?_⟩
      have hraw : stepRaw m.sh c 0 = some s := by
        unfold stepRaw
        rw [hsD, if_neg (by rw [hd]; decide), if_neg, if_neg, if_neg, if_pos hc]
        · exact hq
        · rcases hc with rfl | rfl | rfl | rfl <;> decide
        · rcases hc with rfl | rfl | rfl | rfl <;> decide
        · rcases hc with rfl | rfl | rfl | rfl <;> decide
      have hi := stepRaw_inv h.sh (by simp only [Mc.sh, List.length_map]; omega) (by simp only [Mc.sh]; omega) (fun hq => by omega) hraw
      have hk := hi.kl
      rw [(sh_raw hraw).1, List.length_map] at hk
      exact s_step_J1 (m := ⟨nodesP m c 0, s.S, s.M, s.D⟩) (by show (nodesP m c 0).length ≤ _; omega) (by have := hi.sl; show s.S.length ≤ _; omega)
  have push : ∀ {k v : Int}, 0 ≤ k → nodesP m c a = m.N ++ [(k, (v, []))] → Tot (fun s => (F_s_push (s 0) m.N m.S m.M m.D k v []).bind fun r31 => jn (fun t => B_s_step_J1 (s 0) (F_s_push (s 0)) (F_s_stepMark (s 0)) (F_s_stepTop (s 0)) t.1.1 t.1.2.1 t.1.2.2.1 t.1.2.2.2.1 t.2.1.2.2.2.1) ((r31.1.1.1, r31.1.1.2.1, r31.1.1.2.2.1, r31.1.1.2.2.2.1, ()), ((), (), (), false, ()), ()))
      (AnsM (((some (pushP m.sh k)).map fun s => (⟨nodesP m c a, s.S, s.M, s.D⟩ : Mc)).bind fitM)) := by
    intro k v hk hn
    refine (s_push_tot (by omega) (by omega)).bind ?_
    rintro _ rfl
    rw [tot_jn, hn]
    have e : (pushP m.sh k).S = m.S ++ [(m.N.length : Int)] := by simp [pushP, Mc.sh]
    simp only [Option.map_some, Option.bind_some]
    have := s_step_J1 (t := false) (m := ⟨m.N ++ [(k, (v, []))], (pushP m.sh k).S, (pushP m.sh k).M, (pushP m.sh k).D⟩) (by simp only [List.length_append, List.length_cons, List.length_nil]; omega) (by rw [e]; simp only [List.length_append, List.length_cons, List.length_nil]; omega)
    rw [e] at this ⊢
    exact this
  rcases code_cases hcc with h1 | h1 | h1 | h1 | h1
  · rcases h1 with rfl | rfl | rfl | rfl | rfl | rfl <;> simp only [Int.reduceBEq, cond_true, cond_false] <;> rw [if_pos (by decide)] <;> exact push (by decide) rfl
  · subst h1
    rw [if_neg (by decide), if_pos rfl]
    simp only [Int.reduceBEq, cond_true, cond_false, tot_chk, tot_jn, room_iff, List.length_cons, List.length_nil]
    refine ⟨by omega, ?_⟩
    have := s_step_J1 (t := false) (m := ⟨m.N, m.S ++ [-1], m.M, m.D⟩) (by show m.N.length ≤ _; omega) (by simp only [List.length_append, List.length_cons, List.length_nil]; omega)
    exact this
  · subst h1
    have ha' := ha (.inr rfl)
    rw [if_neg (by decide), if_neg (by decide), if_pos rfl]
    simp only [Int.reduceBEq, cond_true, cond_false, tot_chk, tot_jn, tot_cond, tot_some, room_iff, List.length_cons, List.length_nil, inb_iff, decide_eq_true_eq, decide_eq_false_iff_not]
    refine ⟨by omega, by omega, fun hq => ?_, fun hq => ?_⟩
    · rw [if_pos (show m.sh.M.getD a.toNat 0 < 0 from hq)]; rfl
    · rw [if_neg (show ¬ m.sh.M.getD a.toNat 0 < 0 from hq)]
      refine ⟨by omega, by omega, by omega, ?_⟩
      have := s_step_J1 (t := false) (m := ⟨m.N, m.S ++ [m.M.getD a.toNat 0], m.M, m.D⟩) (by show m.N.length ≤ _; omega) (by simp only [List.length_append, List.length_cons, List.length_nil]; omega)
      exact this
  · rw [if_neg (show ¬ 0 ≤ newKindP c by rcases h1 with rfl | rfl | rfl | rfl <;> decide), if_neg (show ¬ c = 2 by omega), if_neg (show ¬ c = 16 by omega), if_pos h1]
    rcases h1 with rfl | rfl | rfl | rfl <;> simp only [Int.reduceBEq, cond_true, cond_false] <;> exact mark (by omega) rfl
  · have g1 : ¬ 0 ≤ newKindP c := by rcases h1 with rfl | rfl | rfl | rfl | rfl | rfl | rfl | rfl <;> decide
    have g2 : ¬ c = 2 := by omega
    have g3 : ¬ c = 16 := by omega
    have g4 : ¬ (c = 3 ∨ c = 9 ∨ c = 12 ∨ c = 18) := by omega
    rw [if_neg g1, if_neg g2, if_neg g3, if_neg g4]
    have main : Tot (fun s => jn (fun t => B_s_step_J0 (s 0) (F_s_push (s 0)) (F_s_stepMark (s 0)) (F_s_stepTop (s 0)) t.1.1 t.1.2.1 t.1.2.2.1 t.1.2.2.2.1 t.2.1.1 t.2.1.2.1 t.2.2.1.2.2.2.1 t.2.2.2.1) ((m.N, m.S, m.M, m.D, ()), (c, a, ()), ((), (), (), false, ()), false, ()))
        (AnsM (((takeP m.sh c a).map fun s => (⟨nodesP m c a, s.S, s.M, s.D⟩ : Mc)).bind fitM)) := by
      rw [tot_jn]
      unfold B_s_step_J0
      dsimp only
      rw [tot_cond]
      refine ⟨fun h0 => absurd h0 (by decide), fun _ => ?_⟩
      refine (s_stepTop_tot h hL h1 (fun h15 => ha (.inl h15))).bind fun r hr => ?_
      unfold takeQ at hr
      cases hq : takeP m.sh c a with
      | none =>
        rw [hq] at hr
        have hr : r.1.2.1 = false := hr
        simp only [hr, tot_cond, tot_some]
        exact ⟨fun _ => rfl, fun h0 => absurd h0 (by decide)⟩
      | some s =>
        rw [hq] at hr
        have hr : r = ((MD ⟨nodesP m c a, s.S, s.M, s.D⟩, true, ()), ()) := hr
        subst hr
        simp only [tot_cond, tot_jn, Bool.not_true]
        refine ⟨fun h0 => absurd h0 (by decide), fun _ => ?_⟩
        have hraw : stepRaw m.sh c a = some s := by
          unfold stepRaw
          rw [hsD, if_neg (by rw [hd]; decide), if_neg g1, if_neg g2, if_neg g3, if_neg g4]
          exact hq
        have hi := stepRaw_inv h.sh (by simp only [Mc.sh, List.length_map]; omega) (by simp only [Mc.sh]; omega) ha hraw
        have hk := hi.kl
        rw [(sh_raw hraw).1, List.length_map] at hk
        exact s_step_J1 (m := ⟨nodesP m c a, s.S, s.M, s.D⟩) (by show (nodesP m c a).length ≤ _; omega) (by have := hi.sl; show s.S.length ≤ _; omega)
    rcases h1 with rfl | rfl | rfl | rfl | rfl | rfl | rfl | rfl <;> simp only [Int.reduceBEq, cond_true, cond_false] <;> exact main
end Go.Gx

/-
  Laws, part M11: runs, by the reference.
-/
set_option linter.unusedVariables false
set_option linter.unusedSimpArgs false
namespace Go.Gx
theorem s_copyM_tot {m : Mc} {L : Nat} (h : MI m L) (hL : L ≤ 500000000000) : Tot (fun σ => F_s_copyMachine (σ 0) m.N m.S m.M m.D) (fun r => r = ((MD m, ()), ())) := by
  have hN := h.kl; have hS := h.sl; have hM := h.ml
  refine tot_s_copyMachine ?_
  unfold B_s_copyMachine
  refine (s_copyInts' (by omega)).bind ?_
  rintro _ rfl
  refine (s_copyInts' (by omega)).bind ?_
  rintro _ rfl
  have key := loop_s_copyMachine_L0 (Q := fun N S M D t2 oN oS oM oD i r => r = ((MD m, ()), ())) (I := fun N S M D t2 oN oS oM oD i => N = m.N ∧ S = m.S ∧ M = m.M ∧ D = m.D ∧ oS = m.S ∧ oM = m.M ∧ oD = m.D ∧ ∃ j : Nat, i = (j : Int) ∧ j ≤ m.N.length ∧ oN = m.N.take j) (μ := fun _ _ _ _ _ _ _ _ _ i => (m.N.length - i).toNat) ?_
  · exact key m.N m.S m.M m.D false [] m.S m.M m.D 0 ⟨rfl, rfl, rfl, rfl, rfl, rfl, rfl, 0, rfl, by omega, rfl⟩
  intro N S M D t2 oN oS oM oD i ⟨e1, e2, e3, e4, e5, e6, e7, j, e8, hj, e9⟩ again hag ih
  subst e1 e2 e3 e4 e5 e6 e7 e8 e9
  unfold B_s_copyMachine_L0b
  simp only [tot_cond, tot_chk, tot_some, decide_eq_true_eq, decide_eq_false_iff_not, inb_iff, len, rdx_eq, Int.toNat_natCast]
  refine ⟨fun hlt => ?_, fun hge => ?_⟩
  · have hj' : j < m.N.length := by omega
    have hln := h.ni.ln (m.N.getD j d0) (getD_mem hj')
    refine ⟨by omega, by omega, by omega, (s_copyInts' (by show (m.N.getD j d0).2.2.length ≤ _; omega)).bind ?_⟩
    rintro _ rfl
    simp only [tot_chk, room_iff, List.length_take, List.length_cons, List.length_nil]
    refine ⟨by omega, ?_⟩
    rw [show w64 ((j : Int) + 1) = ((j + 1 : Nat) : Int) by rw [w64_id (by omega) (by omega)]; omega]
    refine ih _ _ _ _ _ _ _ _ _ _ ⟨rfl, rfl, rfl, rfl, rfl, rfl, rfl, j + 1, rfl, by omega, ?_⟩ (by omega)
    rw [List.take_add_one, List.getElem?_eq_getElem hj', List.getD_eq_getElem?_getD, List.getElem?_eq_getElem hj']
    rfl
  · rw [List.take_of_length_le (by omega)]
theorem s_newM_tot : Tot (fun σ => F_s_newMachine (σ 0)) (fun r => r = ((((), (), List.replicate 20 (-1), false, ()), ()), ())) := by
  refine tot_s_newMachine ?_
  unfold B_s_newMachine
  have key := loop_s_newMachine_L0 (Q := fun t M D i r => r = ((((), (), List.replicate 20 (-1), false, ()), ()), ())) (I := fun t M D i => D = false ∧ ∃ j : Nat, i = (j : Int) ∧ j ≤ 20 ∧ M = List.replicate j (-1)) (μ := fun _ _ _ i => (20 - i).toNat) ?_
  · exact key false [] false 0 ⟨rfl, 0, rfl, by omega, rfl⟩
  intro t M D i ⟨e1, j, e2, hj, e3⟩ again hag ih
  subst e1 e2 e3
  unfold B_s_newMachine_L0b
  simp only [tot_cond, tot_chk, tot_some, decide_eq_true_eq, decide_eq_false_iff_not, room_iff, List.length_replicate, List.length_cons, List.length_nil]
  refine ⟨fun hlt => ⟨by omega, ?_⟩, fun hge => ?_⟩
  · rw [show w64 ((j : Int) + 1) = ((j + 1 : Nat) : Int) by rw [w64_id (by omega) (by omega)]; omega]
    exact ih _ _ _ _ ⟨rfl, j + 1, rfl, by omega, by rw [List.replicate_succ']⟩ (by omega)
  · rw [show j = 20 by omega]
theorem s_run_tot {ops : List POp} {m0 : Mc} {L : Nat} (hm0 : MI m0 L) (h0 : m0.N.length ≤ 300) (h0' : m0.S.length ≤ 300) (hL : L + 1000002 * ops.length ≤ 900000000) (h1 : ops.all okOp = true) : Tot (fun σ => F_s_run (σ 0) m0.N m0.S m0.M m0.D ops) (fun r => r = ((MD (runM m0 ops 0).1, ((runM m0 ops 0).2 : Int), ()), ())) := by
  refine tot_s_run ?_
  unfold B_s_run
  have key := loop_s_run_L0 (Q := fun ops' N S M D t4 i r => r = ((MD (runM m0 ops 0).1, ((runM m0 ops 0).2 : Int), ()), ()))
    (I := fun ops' N S M D t4 i => ops' = ops ∧ ∃ j : Nat, i = (j : Int) ∧ j ≤ ops.length ∧ MI ⟨N, S, M, D⟩ (L + 1000002 * j) ∧ N.length ≤ 300 ∧ S.length ≤ 300 ∧ runM m0 ops 0 = runM ⟨N, S, M, D⟩ (ops.drop j) j)
    (μ := fun _ _ _ _ _ _ i => (ops.length - i).toNat) ?_
  · exact key ops m0.N m0.S m0.M m0.D false 0 ⟨rfl, 0, rfl, by omega, by simpa using hm0, h0, h0', rfl⟩
  intro ops' N S M D t4 i ⟨e1, j, e2, hj, hI, hN, hS, hr⟩ again hag ih
  subst e1 e2
  unfold B_s_run_L0b
  simp only [tot_cond, tot_chk, decide_eq_true_eq, decide_eq_false_iff_not, inb_iff, rdx_eq, Int.toNat_natCast, len]
  refine ⟨fun hlt => ?_, fun hge => ?_⟩
  · have hj' : j < ops'.length := by omega
    have hd : ops'.drop j = ops'.getD j (0, 0) :: ops'.drop (j + 1) := by
      rw [List.drop_eq_getElem_cons hj', List.getD_eq_getElem?_getD, List.getElem?_eq_getElem hj']; rfl
    have hoo : okOp (ops'.getD j (0, 0)) = true := List.all_eq_true.1 h1 _ (getD_mem hj')
    rw [hd] at hr
    refine (s_copyM_tot hI (by omega)).bind ?_
    rintro _ rfl
    rw [tot_chk]
    refine ⟨inb_iff.2 (by omega), (s_step_tot hI (by omega) (by show N.length ≤ _; omega) (by show S.length ≤ _; omega) (c := (ops'.getD j (0, 0)).1) (a := (ops'.getD j (0, 0)).2) hoo).bind fun r ha => ?_⟩
    cases hs : stepM ⟨N, S, M, D⟩ (ops'.getD j (0, 0)).1 (ops'.getD j (0, 0)).2 with
    | none =>
      rw [hs] at ha
      have ha : r.1.2.1 = false := ha
      simp only [ha, Bool.not_false, tot_cond, tot_some]
      exact ⟨fun _ => by rw [hr, runM, hs], fun h0 => absurd h0 (by decide)⟩
    | some m' =>
      rw [hs] at ha
      have ha : r = (((some m'.N, some m'.S, some m'.M, m'.D, ()), true, ()), ()) := ha
      subst ha
      simp only [Bool.not_true, tot_cond, Option.bind_some]
      refine ⟨fun h0 => absurd h0 (by decide), fun _ => ?_⟩
      obtain ⟨i1, i2, i3⟩ := hI.step (by show N.length ≤ _; omega) (by show S.length ≤ _; omega) hoo hs
      rw [show w64 ((j : Int) + 1) = ((j + 1 : Nat) : Int) by rw [w64_id (by omega) (by omega)]; omega]
      refine ih _ _ _ _ _ _ _ ⟨rfl, j + 1, rfl, by omega, ⟨i1.sh, i1.ni.mono (Nat.le_refl _) (by omega)⟩, i2, i3, ?_⟩ (by omega)
      rw [hr, runM, hs]
  · rw [tot_some, hr, List.drop_eq_nil_of_le (by omega), runM]
    have : j = ops'.length := by omega
    rw [this]
theorem s_run_new {ops : List POp} (hok : okOps ops = true) : Tot (fun σ => F_s_run (σ 0) [] [] (List.replicate 20 (-1)) false ops) (fun r => r = ((MD (rM ops), (rN ops : Int), ()), ())) := by
  obtain ⟨h1, h2⟩ := okOps_all hok
  exact s_run_tot (m0 := newMc) newMc_inv (by simp [newMc]) (by simp [newMc]) (by omega) h1
end Go.Gx

/-
  The plain law of FnBuildGraph.
-/
set_option linter.unusedVariables false
set_option linter.unusedSimpArgs false
namespace Go.Gx
theorem DrawBuildGraph_tot {code : List Int} (hc : ∀ z ∈ code, 0 ≤ z ∧ z ≤ 255) (hl : code.length ≤ 1048576) : Tot (fun σ => F_s_DrawBuildGraph (σ 0) code) (fun r => ∃ ops : List POp, r = ((ops, ()), ()) ∧ ops.length ≤ 500000000000) := by
  refine tot_s_DrawBuildGraph ?_
  unfold B_s_DrawBuildGraph
  refine (newReader_tot hc hl).bind ?_
  rintro _ ⟨b, rfl, hb⟩
  refine (someOps_tot hb (by omega)).bind ?_
  rintro _ ⟨_, q, rfl, _, _, ops, rfl, hl⟩
  rw [tot_some]
  exact ⟨ops, rfl, hl⟩
theorem s_built_tot {m : Mc} {L : Nat} (h : MI m L) (hL : L ≤ 500000000000) (h1 : m.S.length = 1) : Tot (fun σ => F_s_built (σ 0) m.N m.S m.M m.D) (fun r => r = (((m.N, m.S.getD 0 0, ()), ()), ())) := by
  refine tot_s_built ?_
  unfold B_s_built
  refine (s_copyM_tot h hL).bind ?_
  rintro _ rfl
  simp only [tot_chk, tot_some, inb_iff, rdx_eq, h1]
  exact ⟨by decide, rfl⟩
theorem s_BuildGraph_tot {ops : List POp} (hl : ops.length ≤ 900000000000) : Tot (fun σ => F_s_BuildGraph (σ 0) ops) (fun r => r = graphA ops) := by
  refine tot_s_BuildGraph ?_
  unfold B_s_BuildGraph B_s_BuildGraph_J0 graphA wholeM
  refine (validOps_tot hl).bind ?_
  rintro _ rfl
  simp only [tot_cond, tot_some, Bool.not_eq_true', Bool.not_eq_false']
  refine ⟨fun h => by rw [if_neg (by rw [h]; simp)], fun h => ?_⟩
  refine s_newM_tot.bind ?_
  rintro _ rfl
  refine (s_run_new h).bind ?_
  rintro _ rfl
  have hn := (rM_inv h).2.2.2
  have h2 := (okOps_all h).2
  simp only [tot_cond, tot_jn, tot_chk, tot_some, decide_eq_true_eq, decide_eq_false_iff_not, len, inb_iff, Bool.not_eq_true', Bool.not_eq_false']
  refine ⟨fun hlt => ⟨fun _ => ?_, fun h0 => absurd h0 (by decide)⟩, fun hge => ⟨fun hd => ?_, fun hd => ?_⟩⟩
  · have hlt : (rN ops : Int) < ops.length := hlt
    rw [if_neg (by simp only [Bool.and_eq_true, decide_eq_true_eq]; omega)]
  · rw [if_neg]
    show ¬ (_ && _ && (rM ops).D) = true
    have : (rM ops).D = false := hd
    rw [this, Bool.and_false]; decide
  · have hge : ¬ (rN ops : Int) < ops.length := hge
    have hd : (rM ops).D = true := hd
    obtain ⟨hs, _⟩ := rM_D hd
    refine (s_built_tot (rM_inv h).1 (by omega) hs).bind ?_
    rintro _ rfl
    rw [tot_some, if_pos]
    · rw [h, hd, decide_eq_true (by omega)]; rfl
theorem last_stop : ∀ (ops : List POp) (m : Mc) (k : Nat), (runM m ops k).2 = k + ops.length → m.D = false → (runM m ops k).1.D = true → 1 ≤ ops.length ∧ (ops.getD (ops.length - 1) ((0 : Int), (0 : Int))).1 = 19
  | [], m, k, _, h0, h1 => by simp only [runM] at h1; rw [h0] at h1; cases h1
  | o :: r, m, k, h, h0, h1 => by
    refine ⟨by simp, ?_⟩
    cases hs : stepM m o.1 o.2 with
    | none => simp only [runM, hs, List.length_cons] at h; omega
    | some m' =>
      have e : runM m (o :: r) k = runM m' r (k + 1) := by simp only [runM, hs]
      rw [e] at h h1
      match r with
      | [] => exact ((stepM_D hs).2 h1).2.1
      | o2 :: r2 =>
        have hd : m'.D = false := by
          cases hq : m'.D with
          | false => rfl
          | true =>
            have : stepM m' o2.1 o2.2 = none := stepM_rawn (raw_none hq)
            simp only [runM, this, List.length_cons] at h
            omega
        have := (last_stop (o2 :: r2) m' (k + 1) (by rw [h]; simp only [List.length_cons]; omega) hd h1).2
        simpa using this
theorem equalGraph_tot {N N' : List PNode} {r r' : Int} (ha : N.length ≤ 900000000000) (hk : ∀ n ∈ N, n.2.2.length ≤ 900000000000) : Tot (fun σ => F_l_equalGraph (σ 0) N r N' r') (Says (N = N' ∧ r = r')) := by
  refine tot_l_equalGraph ?_
  unfold B_l_equalGraph
  simp only [tot_cond, tot_some, beq_iff_eq, beq_eq_false_iff_ne, ne_eq]
  refine ⟨fun he => ?_, fun hne => says_false fun e => hne e.2⟩
  refine (equalNodes_tot ha hk).bind ?_
  rintro _ ⟨a, rfl, ha⟩
  rw [tot_some]
  exact ⟨_, rfl, by rw [ha]; exact ⟨fun e => ⟨e, he⟩, fun e => e.1⟩⟩
theorem p_l_FnBuildGraph (code : List Int) (hc : ∀ z ∈ code, 0 ≤ z ∧ z ≤ 255) : ∃ k, F_l_FnBuildGraph k code = some ((true, ()), ()) := by
  refine Tot.ex (F := fun k => F_l_FnBuildGraph k code) ?_
  refine tot_l_FnBuildGraph ?_
  unfold B_l_FnBuildGraph B_l_FnBuildGraph_J0
  simp only [tot_cond, tot_some, decide_eq_true_eq, decide_eq_false_iff_not, len]
  refine ⟨fun _ => trivial, fun hl => ?_⟩
  refine (DrawBuildGraph_tot hc (by omega)).bind ?_
  rintro _ ⟨ops, rfl, hll⟩
  refine (i_BuildGraph_tot (by simp only []; omega)).bind ?_
  rintro _ rfl
  refine (s_BuildGraph_tot (by simp only []; omega)).bind ?_
  rintro _ rfl
  have hsz : (graphA ops).1.1.1.length ≤ 900000000000 ∧ ∀ n ∈ (graphA ops).1.1.1, n.2.2.length ≤ 900000000000 := by
    unfold graphA
    split
    · rename_i hw
      unfold wholeM at hw
      simp only [Bool.and_eq_true] at hw
      obtain ⟨i1, i2, i3, _⟩ := rM_inv hw.1.1
      have h2 := (okOps_all hw.1.1).2
      refine ⟨by show (rM ops).N.length ≤ _; omega, fun n hn => ?_⟩
      have := i1.ni.ln n hn
      omega
    · exact ⟨by simp, fun n hn => absurd hn (by simp)⟩
  refine (equalGraph_tot hsz.1 hsz.2).bind ?_
  rintro _ ⟨b, rfl, hb⟩
  rw [hb.2 ⟨rfl, rfl⟩]
  simp only [tot_cond, tot_jn, beq_self_eq_true, Bool.not_true]
  refine ⟨fun h0 => absurd h0 (by decide), fun _ => ?_⟩
  refine ⟨fun h0 => absurd h0 (by decide), fun _ => ?_⟩
  refine (i_RunOps_tot (by omega)).bind ?_
  rintro _ rfl
  simp only [tot_cond, tot_some, Bool.not_eq_true', Bool.not_eq_false', decide_eq_true_eq, decide_eq_false_iff_not, len, beq_iff_eq, beq_eq_false_iff_ne, ne_eq]
  by_cases hw : wholeM ops = true
  · have eg : graphA ops = ((((rM ops).N, (rM ops).S.getD 0 0, ()), true, ()), ()) := by unfold graphA; rw [if_pos hw]
    have hw' := hw
    unfold wholeM at hw'
    simp only [Bool.and_eq_true, decide_eq_true_eq] at hw'
    obtain ⟨⟨hok, hn⟩, hD⟩ := hw'
    have er : runA ops = ((MD (rM ops), (rN ops : Int), ()), ()) := by unfold runA; rw [if_pos hok]
    have h2 := (okOps_all hok).2
    obtain ⟨h1, h19⟩ := last_stop ops newMc 0 (by rw [Nat.zero_add]; exact hn) rfl hD
    have hs := (rM_D hD).1
    rw [eg] at hsz ⊢
    rw [er]
    refine ⟨fun h0 => (by cases h0), fun _ => ⟨fun _ => ⟨fun _ => ?_, fun h0 => ?_⟩, fun h0 => absurd (by show (rN ops : Int) = _; omega) h0⟩⟩
    · refine (equalNodes_tot (a := (rM ops).N) hsz.1 hsz.2).bind ?_
      rintro _ ⟨b2, rfl, hb2⟩
      rw [hb2.2 rfl]
      have e : w64 ((ops.length : Int) - 1) = (ops.length : Int) - 1 := w64_id (by omega) (by omega)
      simp only [tot_cond, tot_chk, tot_some, inb_iff, decide_eq_true_eq, decide_eq_false_iff_not, beq_iff_eq, beq_eq_false_iff_ne, ne_eq, e]
      refine ⟨fun _ => ⟨by show (0 : Int) ≤ 0 ∧ (0 : Int) < ((rM ops).S.length : Int); omega, by show (0 : Int).toNat < (rM ops).S.length; rw [hs]; decide, fun _ => ⟨by omega, by omega, ?_⟩, fun h0 => absurd rfl h0⟩, fun h0 => absurd h0 (by decide)⟩
      rw [show ((ops.length : Int) - 1).toNat = ops.length - 1 by omega, h19]
      rfl
    · have h0 : (rM ops).D = false := h0
      rw [hD] at h0; cases h0
  · have eg : graphA ops = ((([], 0, ()), false, ()), ()) := by unfold graphA; rw [if_neg hw]
    rw [eg]
    refine ⟨fun _ => ⟨fun _ => trivial, fun hge => ?_⟩, fun h0 => by cases h0⟩
    by_cases hok : okOps ops = true
    · have er : runA ops = ((MD (rM ops), (rN ops : Int), ()), ()) := by unfold runA; rw [if_pos hok]
      rw [er] at hge ⊢
      have hge : ¬ (rN ops : Int) < ops.length := hge
      have hn := (rM_inv hok).2.2.2
      have hD : (rM ops).D = false := by
        cases hq : (rM ops).D with
        | false => rfl
        | true => exact absurd (by unfold wholeM; rw [hok, hq, decide_eq_true (by omega)]; rfl) hw
      show (((!(rM ops).D), ()), ()) = _
      rw [hD]; rfl
    · have er : runA ops = ((([], [], [], false, ()), -1, ()), ()) := by unfold runA; rw [if_neg hok]
      rw [er]; rfl
end Go.Gx

/-
  Laws, part 6: orders that are drawn.
-/
import Derived.Test.YtpcnmlpikiigaaaXL5
set_option linter.unusedVariables false
set_option linter.unusedSimpArgs false
namespace Go.Gx
theorem someOp_tot {b : List Int} {p : Int} (h : RD b p) (hp : p ≤ 900000000) : Tot (fun σ => F_s_someOp (σ 0) b p) (Drawn b p 3 fun x => ∃ c a, x = ((c, a, ()), ()) ∧ okOp (c, a) = true) := by
  refine tot_s_someOp ?_
  unfold B_s_someOp B_s_someOp_J0 B_s_someOp_J1
  refine (pick_tot h (by omega) (by omega)).bind ?_
  rintro _ ⟨_, q, rfl, h1, h2, c, rfl, h3, h4⟩
  have h4 := h4 (by omega)
  have hq := h.next h1 (by omega)
  have fin : ∀ (q' a : Int), p ≤ q' → q' ≤ p + 3 → okOp (c, a) = true → Drawn b p 3 (fun x => ∃ c a, x = ((c, a, ()), ()) ∧ okOp (c, a) = true) (((c, a, ()), ()), ((b, q', ()), ())) := fun q' a h1 h2 h3 => ⟨_, _, rfl, h1, h2, c, a, rfl, h3⟩
  have four : (c = 1 ∨ c = 13 ∨ c = 15 ∨ c = 16) → Tot (fun σ => (F_s_reader_pick (σ 0) b q 4).bind fun r23 => jn (fun t => some (((t.2.2.1.1, t.2.2.1.2.1, ()), ()), ((t.1.1, t.1.2.1, ()), ()))) ((r23.2.1.1, r23.2.1.2.1, ()), ((0 : Int), (0 : Int), ()), (c, r23.1.1, ()), ()))
      (Drawn b p 3 fun x => ∃ c a, x = ((c, a, ()), ()) ∧ okOp (c, a) = true) := by
    intro hc
    refine (pick_tot hq (by omega) (by omega)).bind ?_
    rintro _ ⟨_, q2, rfl, g1, g2, a, rfl, g3, g4⟩
    have g4 := g4 (by omega)
    rw [tot_jn, tot_some]
    refine fin q2 a (by omega) (by omega) ?_
    rcases hc with rfl | rfl | rfl | rfl <;> · simp [okOp, mostP]; omega
  have none : mostP c = 0 → Drawn b p 3 (fun x => ∃ c a, x = ((c, a, ()), ()) ∧ okOp (c, a) = true) (((c, 0, ()), ()), ((b, q, ()), ())) := fun hm => fin _ _ (by omega) (by omega) (by simp [okOp, hm]; omega)
  rw [tot_cond]
  simp only [beq_iff_eq, beq_eq_false_iff_ne, ne_eq]
  refine ⟨fun h0 => ?_, fun h0 => ?_⟩
  · refine (pick_tot hq (by omega) (by omega)).bind ?_
    rintro _ ⟨_, q2, rfl, g1, g2, a, rfl, g3, g4⟩
    have g4 := g4 (by omega)
    refine (one_tot (hq.next g1 (by omega)) (by omega) (by simp) (by simp)).bind ?_
    rintro _ ⟨_, q3, rfl, f1, f2, v, rfl, hv⟩
    rw [tot_jn, tot_some]
    refine fin q3 v (by omega) (by omega) ?_
    simp only [List.mem_cons, List.not_mem_nil, or_false] at hv
    simp [okOp, h0, mostP]
    omega
  · rw [tot_cond]
    simp only [beq_iff_eq, beq_eq_false_iff_ne, ne_eq]
    refine ⟨fun h1' => ?_, fun h1' => ?_⟩
    · rw [tot_jn, tot_cond]
      exact ⟨fun _ => four (by omega), fun h' => by simp [h1'] at h'⟩
    · rw [tot_cond]
      simp only [beq_iff_eq, beq_eq_false_iff_ne, ne_eq]
      refine ⟨fun h13 => ?_, fun h13 => ?_⟩
      · rw [tot_jn, tot_cond]
        exact ⟨fun _ => four (by omega), fun h' => by simp [h13] at h'⟩
      · rw [tot_cond]
        simp only [beq_iff_eq, beq_eq_false_iff_ne, ne_eq]
        refine ⟨fun h15 => ?_, fun h15 => ?_⟩
        · rw [tot_jn, tot_cond]
          exact ⟨fun _ => four (by omega), fun h' => by simp [h15] at h'⟩
        · rw [tot_jn, tot_cond]
          simp only [beq_iff_eq, beq_eq_false_iff_ne, ne_eq]
          refine ⟨fun h16 => four (by omega), fun h16 => ?_⟩
          rw [tot_jn, tot_some]
          exact none (by simp [mostP, h0, h1', h13, h15, h16])
theorem endP_ok (ops : List POp) : (endP ops).1.all okOp = true := by
  unfold endP
  split
  · rfl
  split
  · rfl
  unfold finP
  split
  · rename_i hk
    have := (okOps_all hk.1).1
    rw [List.all_append, Bool.and_eq_true] at this
    exact this.2
  · rfl
theorem likelyOps_tot {b : List Int} {p : Int} (h : RD b p) (hp : p ≤ 100000000) : Tot (fun σ => F_s_likelyOps (σ 0) b p) (Drawn b p 1000 fun x => ∃ ops : List POp, x = (ops, ()) ∧ ops.length ≤ 3000 ∧ ops.all okOp = true) := by
  refine tot_s_likelyOps ?_
  unfold B_s_likelyOps
  refine newShapes_tot.bind ?_
  rintro _ rfl
  refine (one_tot h (by omega) (by simp) (by simp)).bind ?_
  rintro _ ⟨_, q, rfl, h1, h2, v, rfl, hv⟩
  have hv : 0 ≤ v ∧ v ≤ 30 := by
    simp only [List.mem_cons, List.not_mem_nil, or_false] at hv
    omega
  have key := loop_s_likelyOps_L4 (Q := fun _ _ _ _ _ _ _ _ _ r => Drawn b p 1000 (fun x => ∃ ops : List POp, x = (ops, ()) ∧ ops.length ≤ 3000 ∧ ops.all okOp = true) r)
    (I := fun b' q' out K Fu S M D n => b' = b ∧ RD b q' ∧ p ≤ q' ∧ q' + 10 * n ≤ p + 400 ∧ 0 ≤ n ∧ n ≤ 30 ∧ (out.length : Int) + n ≤ 30 ∧ out.all okOp = true ∧ ShI ⟨K, Fu, S, M, D⟩ ∧ K.length ≤ 300 ∧ S.length ≤ 300) (μ := fun _ _ _ _ _ _ _ _ n => n.toNat) ?_
  · exact key b q [] [] [] [] _ false v ⟨rfl, h.next h1 (by omega), h1, by omega, hv.1, hv.2, by simp; omega, rfl, newSh_inv, by simp, by simp⟩
  intro b' q' out K Fu S M D n ⟨e1, hr, g1, g2, g3, g4, g5, g6, hs, hk, hS⟩ again hag ih
  subst e1
  unfold B_s_likelyOps_L4b
  rw [tot_cond]
  simp only [decide_eq_true_eq, decide_eq_false_iff_not]
  have w : w64 (n - 1) = n - 1 := w64_id (by omega) (by omega)
  -- the end of a round
  have j3 : ∀ (q2 : Int) (out2 : List POp) (s2 : Sh), 0 < n → q' ≤ q2 → q2 ≤ q' + 10 → (out2.length : Int) ≤ out.length + 1 → out2.all okOp = true → ShI s2 → s2.K.length ≤ 300 → s2.S.length ≤ 300 →
      Tot (fun σ => again σ ((b', q2, ()), out2, (s2.K, s2.Fu, s2.S, s2.M, s2.D, ()), w64 (n - 1), ())) (Drawn b' p 1000 fun x => ∃ ops : List POp, x = (ops, ()) ∧ ops.length ≤ 3000 ∧ ops.all okOp = true) := by
    intro q2 out2 s2 k0 k1 k2 k3 k4 k5 k6 k7
    rw [w]
    exact ih _ _ _ _ _ _ _ _ _ ⟨rfl, hr.next k1 (by omega), by omega, by omega, by omega, by omega, by omega, k4, k5, k6, k7⟩ (by omega)
  have j0 : ∀ (q2 c a : Int) (t : Bool), 0 < n → q' ≤ q2 → q2 ≤ q' + 6 → okOp (c, a) = true → Tot (fun σ => B_s_likelyOps_J0 (σ 0) (F_s_newShapes (σ 0)) (F_s_reader_one (σ 0)) (F_s_someOp (σ 0)) (F_s_reader_pick (σ 0)) (F_s_copyShapes (σ 0)) (F_s_stepShapes (σ 0)) (F_s_EndOps (σ 0)) (F_s_CutOps (σ 0)) (again σ) b' q2 out K Fu S M D n c a t)
      (Drawn b' p 1000 fun x => ∃ ops : List POp, x = (ops, ()) ∧ ops.length ≤ 3000 ∧ ops.all okOp = true) := by
    intro q2 c a t k0 k1 k2 ho
    unfold B_s_likelyOps_J0 B_s_likelyOps_J1 B_s_likelyOps_J2 B_s_likelyOps_J3
    rw [tot_cond]
    refine ⟨fun _ => ?_, fun _ => ?_⟩
    · rw [tot_jn]
      exact j3 q2 out ⟨K, Fu, S, M, D⟩ k0 k1 (by omega) (by omega) g6 hs hk hS
    · refine (copyShapes_tot hs).bind ?_
      rintro _ rfl
      refine (stepShapes_tot hs (by show K.length ≤ _; omega) (by show S.length ≤ _; omega) c a (okOp_arg ho)).bind fun r hr' => ?_
      have add : ∀ o : List POp, o = out ++ [(c, a)] → (o.length : Int) ≤ out.length + 1 ∧ o.all okOp = true := by
        rintro o rfl
        exact ⟨by simp, all_append_ok g6 (by simp [ho])⟩
      cases hst : stepP ⟨K, Fu, S, M, D⟩ c a with
      | none =>
        rw [hst] at hr'
        have hr' : r.1.2.1 = false := hr'
        rw [tot_cond]
        simp only [hr']
        refine ⟨fun h0 => absurd (show false = true from h0) (by decide), fun _ => ?_⟩
        rw [tot_jn, tot_cond]
        refine ⟨fun h0 => absurd (show false = true from h0) (by decide), fun _ => ?_⟩
        refine (pick_tot (hr.next k1 (by omega)) (by omega) (by omega)).bind ?_
        rintro _ ⟨_, q3, rfl, m1, m2, u, rfl, m3, m4⟩
        rw [tot_jn, tot_cond]
        refine ⟨fun _ => ?_, fun _ => ?_⟩
        · rw [tot_chk]
          refine ⟨room_iff.2 (by simp only [List.length_cons, List.length_nil]; omega), ?_⟩
          rw [tot_jn]
          exact j3 q3 _ ⟨K, Fu, S, M, D⟩ k0 (by omega) (by omega) (add _ rfl).1 (add _ rfl).2 hs hk hS
        · rw [tot_jn]
          exact j3 q3 out ⟨K, Fu, S, M, D⟩ k0 (by omega) (by omega) (by omega) g6 hs hk hS
      | some s' =>
        rw [hst] at hr'
        have hr' : r = ((s'.dat, true, ()), ()) := hr'
        subst hr'
        have hinv := stepP_inv hs (by show K.length ≤ _; omega) (by show S.length ≤ _; omega) (okOp_arg ho) hst
        rw [tot_cond]
        refine ⟨fun _ => ?_, fun h0 => absurd (show true = false from h0) (by decide)⟩
        rw [tot_jn, tot_cond]
        refine ⟨fun _ => ?_, fun h0 => absurd (show true = false from h0) (by decide)⟩
        rw [tot_jn, tot_cond]
        refine ⟨fun _ => ?_, fun h0 => absurd (show true = false from h0) (by decide)⟩
        rw [tot_chk]
        refine ⟨room_iff.2 (by simp only [List.length_cons, List.length_nil]; omega), ?_⟩
        rw [tot_jn]
        exact j3 q2 _ s' k0 k1 (by omega) (add _ rfl).1 (add _ rfl).2 hinv.1 hinv.2.1 hinv.2.2
  refine ⟨fun hn => ?_, fun hn => ?_⟩
  · refine (someOp_tot hr (by omega)).bind ?_
    rintro _ ⟨_, q2, rfl, k1, k2, c, a, rfl, ho⟩
    rw [tot_cond]
    refine ⟨fun _ => ?_, fun _ => ?_⟩
    · refine (pick_tot (hr.next k1 (by omega)) (by omega) (by omega)).bind ?_
      rintro _ ⟨_, q3, rfl, m1, m2, u, rfl, m3, m4⟩
      rw [tot_jn]
      exact j0 q3 c a _ hn (by omega) (by omega) ho
    · rw [tot_jn]
      exact j0 q2 c a _ hn k1 (by omega) ho
  · have hol : out.length ≤ 30 := by omega
    refine (pick_tot hr (by omega) (by omega)).bind ?_
    rintro _ ⟨_, q2, rfl, k1, k2, u, rfl, k3, k4⟩
    have fin : ∀ o : List POp, o.length ≤ 3000 → o.all okOp = true → Drawn b' p 1000 (fun x => ∃ ops : List POp, x = (ops, ()) ∧ ops.length ≤ 3000 ∧ ops.all okOp = true) ((o, ()), ((b', q2, ()), ())) := fun o h1 h2 => ⟨_, _, rfl, by omega, by omega, o, rfl, h1, h2⟩
    rw [tot_cond]
    refine ⟨fun _ => ?_, fun _ => ?_⟩
    · refine (EndOps_tot (by omega)).bind ?_
      rintro _ rfl
      rw [tot_cond]
      refine ⟨fun _ => ?_, fun _ => ?_⟩
      · refine (CutOps_tot (by omega)).bind ?_
        rintro _ rfl
        have e1 := endP_len (ops := out) (by omega)
        have e2 := cutP_len out
        rw [tot_chk, tot_some]
        refine ⟨room_iff.2 (by simp only []; omega), fin _ (by simp only [List.length_append]; omega) ?_⟩
        refine all_append_ok ?_ ?_
        · unfold cutP; split
          · exact take_ok g6 _
          · rfl
        · exact endP_ok out
      · rw [tot_some]; exact fin _ (by omega) g6
    · rw [tot_some]; exact fin _ (by omega) g6
end Go.Gx

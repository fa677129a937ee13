/-
  Laws, part 13: programs and bytes that are drawn.
-/
import Derived.Test.YtpcnmlpikiigaaaXL6
import Derived.Test.YtpcnmlpikiigaaaXL12
set_option linter.unusedVariables false
set_option linter.unusedSimpArgs false
namespace Go.Gx
theorem someOps_tot {b : List Int} {p : Int} (h : RD b p) (hp : p ≤ 90000000) : Tot (fun σ => F_s_someOps (σ 0) b p) (Drawn b p 2000 fun x => ∃ ops : List POp, x = (ops, ()) ∧ ops.length ≤ 500000000000) := by
  refine tot_s_someOps ?_
  unfold B_s_someOps
  have fin : ∀ (q : Int) (o : List POp), p ≤ q → q ≤ p + 2000 → o.length ≤ 500000000000 → Drawn b p 2000 (fun x => ∃ ops : List POp, x = (ops, ()) ∧ ops.length ≤ 500000000000) ((o, ()), ((b, q, ()), ())) := fun q o h1 h2 h3 => ⟨_, q, rfl, h1, h2, o, rfl, h3⟩
  have j2 : ∀ (q : Int) (o : List POp), p ≤ q → q ≤ p + 1900 → o.length ≤ 500000000000 → Tot (fun σ => B_s_someOps_J2 (σ 0) (F_s_reader_pick (σ 0)) (F_s_likelyOps (σ 0)) (F_s_someGraph (σ 0)) (F_s_written (σ 0)) (F_s_someOp (σ 0)) (F_s_reader_one (σ 0)) b q o) (Drawn b p 2000 fun x => ∃ ops : List POp, x = (ops, ()) ∧ ops.length ≤ 500000000000) := by
    intro q o h1 h2 h3
    have hq := h.next h1 (by omega)
    unfold B_s_someOps_J2
    rw [tot_cond]
    simp only [decide_eq_true_eq, decide_eq_false_iff_not, len]
    refine ⟨fun hlt => ?_, fun _ => by rw [tot_some]; exact fin q o h1 (by omega) h3⟩
    refine (pick_tot hq (by omega) (by omega)).bind ?_
    rintro _ ⟨_, q2, rfl, k1, k2, v, rfl, k3, k4⟩
    rw [tot_cond]
    refine ⟨fun _ => ?_, fun _ => ?_⟩
    · refine (one_tot (hq.next k1 (by omega)) (by omega) (by simp) (by simp)).bind ?_
      rintro _ ⟨_, q3, rfl, f1, f2, u, rfl, hu⟩
      simp only [tot_chk, tot_some, inb_iff, decide_eq_true_eq]
      exact ⟨by omega, by simp; omega, fin q3 _ (by omega) (by omega) (by simpa using h3)⟩
    · rw [tot_cond]
      refine ⟨fun _ => ?_, fun _ => by rw [tot_some]; exact fin q2 o (by omega) (by omega) h3⟩
      refine (one_tot (hq.next k1 (by omega)) (by omega) (by simp) (by simp)).bind ?_
      rintro _ ⟨_, q3, rfl, f1, f2, u, rfl, hu⟩
      have w : w64 ((o.length : Int) - 1) = (o.length : Int) - 1 := w64_id (by omega) (by omega)
      simp only [tot_chk, tot_some, inb_iff, decide_eq_true_eq, w]
      exact ⟨by omega, by omega, fin q3 _ (by omega) (by omega) (by simpa using h3)⟩
  have j1 : ∀ (q : Int) (o : List POp), p ≤ q → q ≤ p + 1800 → o.length ≤ 500000000000 → Tot (fun σ => B_s_someOps_J1 (σ 0) (F_s_reader_pick (σ 0)) (F_s_likelyOps (σ 0)) (F_s_someGraph (σ 0)) (F_s_written (σ 0)) (F_s_someOp (σ 0)) (F_s_reader_one (σ 0)) b q o) (Drawn b p 2000 fun x => ∃ ops : List POp, x = (ops, ()) ∧ ops.length ≤ 500000000000) := by
    intro q o h1 h2 h3
    have hq := h.next h1 (by omega)
    unfold B_s_someOps_J1
    refine (pick_tot hq (by omega) (by omega)).bind ?_
    rintro _ ⟨_, q2, rfl, k1, k2, v, rfl, k3, k4⟩
    rw [tot_cond]
    refine ⟨fun _ => ?_, fun _ => by rw [tot_jn]; exact j2 q2 o (by omega) (by omega) h3⟩
    have w : w64 (len o + 1) = (o.length : Int) + 1 := by rw [w64_id] <;> simp only [len] <;> omega
    rw [w]
    refine (pick_tot (hq.next k1 (by omega)) (by omega) (by omega)).bind ?_
    rintro _ ⟨_, q3, rfl, f1, f2, u, rfl, f3, f4⟩
    have f4 := f4 (by omega)
    rw [tot_chk]
    refine ⟨cutb_iff.2 ⟨Int.le_refl _, f3, by show u ≤ (o.length : Int); omega⟩, ?_⟩
    rw [tot_jn]
    exact j2 q3 (o.take u.toNat) (by omega) (by omega) (by simp only [List.length_take]; omega)
  refine (pick_tot h (by omega) (by omega)).bind ?_
  rintro _ ⟨_, q, rfl, h1, h2, v, rfl, h3, h4⟩
  have hq := h.next h1 (by omega)
  rw [tot_cond]
  refine ⟨fun _ => ?_, fun _ => ?_⟩
  · refine (likelyOps_tot hq (by omega)).bind ?_
    rintro _ ⟨_, q2, rfl, k1, k2, o, rfl, ho, _⟩
    rw [tot_jn]
    exact j2 q2 o (by omega) (by omega) (by omega)
  · refine (someGraph_tot hq (by omega)).bind ?_
    rintro _ ⟨_, q2, rfl, k1, k2, g, root, rfl, hv⟩
    have hq2 := hq.next k1 (by omega)
    refine (pick_tot hq2 (by omega) (by omega)).bind ?_
    rintro _ ⟨_, q3, rfl, f1, f2, u, rfl, f3, f4⟩
    have hq3 := hq2.next f1 (by omega)
    refine (written_tot hv u).bind ?_
    rintro _ ⟨o, rfl, ho⟩
    refine (pick_tot hq3 (by omega) (by omega)).bind ?_
    rintro _ ⟨_, q4, rfl, m1, m2, u2, rfl, m3, m4⟩
    have hq4 := hq3.next m1 (by omega)
    have j0 : ∀ t : Bool, (t = true → 0 < o.length) → Tot (fun σ => B_s_someOps_J0 (σ 0) (F_s_reader_pick (σ 0)) (F_s_likelyOps (σ 0)) (F_s_someGraph (σ 0)) (F_s_written (σ 0)) (F_s_someOp (σ 0)) (F_s_reader_one (σ 0)) b q4 o t) (Drawn b p 2000 fun x => ∃ ops : List POp, x = (ops, ()) ∧ ops.length ≤ 500000000000) := by
      intro t ht
      unfold B_s_someOps_J0
      rw [tot_cond]
      refine ⟨fun hb => ?_, fun _ => by rw [tot_jn]; exact j1 q4 o (by omega) (by omega) ho⟩
      have hpos := ht hb
      refine (pick_tot hq4 (by omega) (by simp only [len]; omega)).bind ?_
      rintro _ ⟨_, q5, rfl, n1, n2, w, rfl, n3, n4⟩
      have n4 := n4 (by simp only [len]; omega)
      simp only [len] at n4
      refine (someOp_tot (hq4.next n1 (by omega)) (by omega)).bind ?_
      rintro _ ⟨_, q6, rfl, l1, l2, c, a, rfl, _⟩
      simp only [tot_chk, inb_iff, decide_eq_true_eq]
      refine ⟨by omega, by omega, ?_⟩
      rw [tot_jn]
      exact j1 q6 _ (by omega) (by omega) (by simpa using ho)
    rw [tot_cond]
    refine ⟨fun _ => ?_, fun _ => ?_⟩
    · rw [tot_jn]; exact j0 _ (fun h => by simp only [decide_eq_true_eq, len] at h; omega)
    · rw [tot_jn]; exact j0 false (fun h => absurd h (by decide))
def bytesP (o : POp) : List Int := if argP o.1 < 0 then [o.1] else if o.2 < 128 then [o.1, o.2] else [o.1, 128 + o.2 % 128, o.2 / 128]
def encP (ops : List POp) : List Int := if okOps ops = true then ops.flatMap bytesP else []
theorem bytesP_len (o : POp) : (bytesP o).length ≤ 3 := by
  unfold bytesP
  split
  · simp
  split <;> simp
theorem flatMap_len (ops : List POp) : (ops.flatMap bytesP).length ≤ 3 * ops.length := by
  induction ops with
  | nil => simp
  | cons o r ih => have := bytesP_len o; simp only [List.flatMap_cons, List.length_append, List.length_cons]; omega
theorem bytesOf_tot {o : POp} (h : okOp o = true) : Tot (fun σ => F_s_bytesOf (σ 0) o.1 o.2) (fun r => r = ((bytesP o, ()), ())) := by
  have ho : 0 ≤ o.2 ∧ o.2 ≤ 999 := by
    simp only [okOp, decide_eq_true_eq] at h
    have : mostP o.1 ≤ 999 := by
      unfold mostP
      split
      · omega
      split
      · omega
      split <;> omega
    omega
  refine tot_s_bytesOf ?_
  unfold B_s_bytesOf bytesP
  refine (argOf_tot o.1).bind ?_
  rintro _ rfl
  simp only [tot_cond, tot_some, decide_eq_true_eq, decide_eq_false_iff_not]
  refine ⟨fun h => by rw [if_pos h], fun h => ⟨fun h2 => by rw [if_neg h, if_pos h2], fun h2 => ?_⟩⟩
  rw [if_neg h, if_neg h2, Int.tmod_eq_emod_of_nonneg ho.1, Int.tdiv_eq_ediv_of_nonneg ho.1, w64_id (by omega) (by omega), w64_id (by omega) (by omega)]
theorem EncodeOps_tot {ops : List POp} (hl : ops.length ≤ 900000000000) : Tot (fun σ => F_s_EncodeOps (σ 0) ops) (fun r => r = ((encP ops, ()), ())) := by
  refine tot_s_EncodeOps ?_
  unfold B_s_EncodeOps
  refine (validOps_tot hl).bind ?_
  rintro _ rfl
  simp only [tot_cond, tot_some, Bool.not_eq_true', Bool.not_eq_false']
  refine ⟨fun h => by simp [encP, h], fun h => ?_⟩
  obtain ⟨h1, h2⟩ := okOps_all h
  have hE : encP ops = ops.flatMap bytesP := by rw [encP, if_pos h]
  rw [hE]
  have key := loop_s_EncodeOps_L0 (Q := fun _ _ _ r => r = ((ops.flatMap bytesP, ()), ())) (I := fun ops' out i => ops' = ops ∧ ∃ j : Nat, i = j ∧ j ≤ ops.length ∧ out = (ops.take j).flatMap bytesP) (μ := fun _ _ i => (ops.length - i).toNat) ?_
  · exact key ops [] 0 ⟨rfl, 0, rfl, by omega, rfl⟩
  intro ops' out i ⟨e1, j, e2, hj, e3⟩ again hag ih
  subst e1 e2 e3
  unfold B_s_EncodeOps_L0b
  have hfl := flatMap_len (ops'.take j)
  simp only [List.length_take] at hfl
  simp only [tot_cond, tot_chk, tot_some, decide_eq_true_eq, decide_eq_false_iff_not, len, inb_iff]
  refine ⟨fun hlt => ⟨by omega, ?_⟩, fun hge => ?_⟩
  · have hj' : j < ops'.length := by omega
    refine (bytesOf_tot (List.all_eq_true.1 h1 _ (rdx_mem (d := ((0 : Int), (0 : Int))) (by omega) hlt))).bind ?_
    rintro _ rfl
    have hb := bytesP_len (rdx ((0 : Int), (0 : Int)) ops' j)
    rw [tot_chk]
    refine ⟨room_iff.2 (by simp only []; omega), ?_⟩
    rw [w64_succ (by omega) (by omega)]
    refine ih _ _ _ ⟨rfl, j + 1, rfl, by omega, ?_⟩ (by simp; omega)
    rw [List.take_add_one, List.flatMap_append, rdx_eq, Int.toNat_natCast, List.getD_eq_getElem?_getD, List.getElem?_eq_getElem hj']
    simp
  · have : j = ops'.length := by omega
    subst this
    rw [List.take_length]
theorem encP_len (ops : List POp) : (encP ops).length ≤ 900 := by
  unfold encP
  split
  · rename_i h
    have := (okOps_all h).2
    have := flatMap_len ops
    omega
  · simp
theorem someBytes_tot {b : List Int} {p : Int} (h : RD b p) (hp : p ≤ 80000000) : Tot (fun σ => F_s_someBytes (σ 0) b p) (Drawn b p 3000 fun x => ∃ l : List Int, x = (l, ()) ∧ l.length ≤ 900) := by
  refine tot_s_someBytes ?_
  unfold B_s_someBytes
  have fin : ∀ (q : Int) (o : List Int), p ≤ q → q ≤ p + 3000 → o.length ≤ 900 → Drawn b p 3000 (fun x => ∃ l : List Int, x = (l, ()) ∧ l.length ≤ 900) ((o, ()), ((b, q, ()), ())) := fun q o h1 h2 h3 => ⟨_, q, rfl, h1, h2, o, rfl, h3⟩
  have j2 : ∀ (q : Int) (o : List Int) (t : Bool), p ≤ q → q ≤ p + 2900 → o.length ≤ 900 → (t = true → 0 < o.length) → Tot (fun σ => B_s_someBytes_J2 (σ 0) (F_s_someOps (σ 0)) (F_s_validOps (σ 0)) (F_s_EncodeOps (σ 0)) (F_s_reader_pick (σ 0)) (F_s_reader_one (σ 0)) b q o t) (Drawn b p 3000 fun x => ∃ l : List Int, x = (l, ()) ∧ l.length ≤ 900) := by
    intro q o t h1 h2 h3 ht
    unfold B_s_someBytes_J2
    rw [tot_cond]
    refine ⟨fun hb => ?_, fun _ => by rw [tot_some]; exact fin q o h1 (by omega) h3⟩
    have := ht hb
    refine (one_tot (h.next h1 (by omega)) (by omega) (by simp) (by simp)).bind ?_
    rintro _ ⟨_, q3, rfl, f1, f2, u, rfl, hu⟩
    simp only [tot_chk, tot_some, inb_iff, decide_eq_true_eq]
    exact ⟨by omega, by simp; omega, fin q3 _ (by omega) (by omega) (by simpa using h3)⟩
  have j1 : ∀ (q : Int) (o : List Int), p ≤ q → q ≤ p + 2800 → o.length ≤ 900 → Tot (fun σ => B_s_someBytes_J1 (σ 0) (F_s_someOps (σ 0)) (F_s_validOps (σ 0)) (F_s_EncodeOps (σ 0)) (F_s_reader_pick (σ 0)) (F_s_reader_one (σ 0)) b q o) (Drawn b p 3000 fun x => ∃ l : List Int, x = (l, ()) ∧ l.length ≤ 900) := by
    intro q o h1 h2 h3
    unfold B_s_someBytes_J1
    refine (pick_tot (h.next h1 (by omega)) (by omega) (by omega)).bind ?_
    rintro _ ⟨_, q2, rfl, k1, k2, v, rfl, k3, k4⟩
    rw [tot_cond]
    refine ⟨fun _ => ?_, fun _ => ?_⟩
    · rw [tot_jn]; exact j2 q2 o _ (by omega) (by omega) h3 (fun h => by simp only [decide_eq_true_eq, len] at h; omega)
    · rw [tot_jn]; exact j2 q2 o false (by omega) (by omega) h3 (fun h => absurd h (by decide))
  have j0 : ∀ (q : Int) (o : List Int), p ≤ q → q ≤ p + 2500 → o.length ≤ 900 → Tot (fun σ => B_s_someBytes_J0 (σ 0) (F_s_someOps (σ 0)) (F_s_validOps (σ 0)) (F_s_EncodeOps (σ 0)) (F_s_reader_pick (σ 0)) (F_s_reader_one (σ 0)) b q o) (Drawn b p 3000 fun x => ∃ l : List Int, x = (l, ()) ∧ l.length ≤ 900) := by
    intro q o h1 h2 h3
    have hq := h.next h1 (by omega)
    unfold B_s_someBytes_J0
    rw [tot_cond]
    simp only [decide_eq_true_eq, decide_eq_false_iff_not, len]
    refine ⟨fun hlt => ?_, fun _ => by rw [tot_some]; exact fin q o h1 (by omega) h3⟩
    refine (pick_tot hq (by omega) (by omega)).bind ?_
    rintro _ ⟨_, q2, rfl, k1, k2, v, rfl, k3, k4⟩
    have hq2 := hq.next k1 (by omega)
    rw [tot_cond]
    refine ⟨fun _ => ?_, fun _ => ?_⟩
    · refine (pick_tot hq2 (by omega) (by omega)).bind ?_
      rintro _ ⟨_, q3, rfl, f1, f2, u, rfl, f3, f4⟩
      have f4 := f4 (by omega)
      have hq3 := hq2.next f1 (by omega)
      refine (pick_tot hq3 (by omega) (by omega)).bind ?_
      rintro _ ⟨_, q4, rfl, m1, m2, u2, rfl, m3, m4⟩
      refine (one_tot (hq3.next m1 (by omega)) (by omega) (by simp) (by simp)).bind ?_
      rintro _ ⟨_, q5, rfl, n1, n2, u3, rfl, hu⟩
      simp only [tot_chk, inb_iff, decide_eq_true_eq]
      refine ⟨by omega, by omega, ?_⟩
      rw [tot_jn]
      exact j1 q5 _ (by omega) (by omega) (by simpa using h3)
    · rw [tot_cond]
      refine ⟨fun _ => ?_, fun _ => ?_⟩
      · refine (pick_tot hq2 (by omega) (by omega)).bind ?_
        rintro _ ⟨_, q3, rfl, f1, f2, u, rfl, f3, f4⟩
        have f4 := f4 (by omega)
        rw [tot_chk]
        refine ⟨cutb_iff.2 ⟨Int.le_refl _, f3, by show u ≤ (o.length : Int); omega⟩, ?_⟩
        rw [tot_jn]
        exact j1 q3 (o.take u.toNat) (by omega) (by omega) (by simp only [List.length_take]; omega)
      · rw [tot_jn]; exact j1 q2 o (by omega) (by omega) h3
  refine (someOps_tot h (by omega)).bind ?_
  rintro _ ⟨_, q, rfl, h1, h2, o, rfl, ho⟩
  refine (validOps_tot (by simp only []; omega)).bind ?_
  rintro _ rfl
  rw [tot_cond]
  refine ⟨fun hv => ?_, fun _ => ?_⟩
  · refine (EncodeOps_tot (by simp only []; omega)).bind ?_
    rintro _ rfl
    rw [tot_jn]
    exact j0 q _ h1 (by omega) (encP_len o)
  · rw [tot_jn]; exact j0 q [] h1 (by omega) (by simp)
end Go.Gx

/-
  Plain laws about the printed functions.
-/
import Derived.Test.YtccllfbilobfhaaXLpart1
set_option linter.unusedVariables false
set_option linter.unusedSimpArgs false
namespace Go.Gx
theorem someOps_tot {b : List Int} {p : Int} (h : RD b p) (hp : p ≤ 90000000) : Tot (fun σ => F_s_someOps (σ 0) b p) (Drawn b p 2000 fun x => ∃ ops : List POp, x = (ops, ()) ∧ ops.length ≤ 500000000000) := by
  refine tot_s_someOps ?_
  unfold B_s_someOps
  have fin : ∀ (q : Int) (o : List POp), p ≤ q → q ≤ p + 2000 → o.length ≤ 500000000000 → Drawn b p 2000 (fun x => ∃ ops : List POp, x = (ops, ()) ∧ ops.length ≤ 500000000000) ((o, ()), ((b, q, ()), ())) := fun q o h1 h2 h3 => ⟨_, q, rfl, h1, h2, o, rfl, h3⟩
  have j2 : ∀ (q : Int) (o : List POp), p ≤ q → q ≤ p + 1900 → o.length ≤ 500000000000 → Tot (fun σ => B_s_someOps_J2 (σ 0) (F_s_reader_pick (σ 0)) (F_s_likelyOps (σ 0)) (F_s_someGraph (σ 0)) (F_s_written (σ 0)) (F_s_someOp (σ 0)) (F_s_reader_one (σ 0)) b q o) (Drawn b p 2000 fun x => ∃ ops : List POp, x = (ops, ()) ∧ ops.length ≤ 500000000000) := by
    intro q o h1 h2 h3
    have hq := h.next h1 (by omega)
    unfold B_s_someOps_J2
    rw [tot_cond]
    simp only [decide_eq_true_eq, decide_eq_false_iff_not, len]
    refine ⟨fun hlt => ?_, fun _ => by rw [tot_some]; exact fin q o h1 (by omega) h3⟩
    refine (pick_tot hq (by omega) (by omega)).bind ?_
    rintro _ ⟨_, q2, rfl, k1, k2, v, rfl, k3, k4⟩
    rw [tot_cond]
    refine ⟨fun _ => ?_, fun _ => ?_⟩
    · refine (one_tot (hq.next k1 (by omega)) (by omega) (by simp) (by simp)).bind ?_
      rintro _ ⟨_, q3, rfl, f1, f2, u, rfl, hu⟩
      simp only [tot_chk, tot_some, inb_iff, decide_eq_true_eq]
      exact ⟨by omega, by simp; omega, fin q3 _ (by omega) (by omega) (by simpa using h3)⟩
    · rw [tot_cond]
      refine ⟨fun _ => ?_, fun _ => by rw [tot_some]; exact fin q2 o (by omega) (by omega) h3⟩
      refine (one_tot (hq.next k1 (by omega)) (by omega) (by simp) (by simp)).bind ?_
      rintro _ ⟨_, q3, rfl, f1, f2, u, rfl, hu⟩
      have w : w64 ((o.length : Int) - 1) = (o.length : Int) - 1 := w64_id (by omega) (by omega)
      simp only [tot_chk, tot_some, inb_iff, decide_eq_true_eq, w]
      exact ⟨by omega, by omega, fin q3 _ (by omega) (by omega) (by simpa using h3)⟩
  have j1 : ∀ (q : Int) (o : List POp), p ≤ q → q ≤ p + 1800 → o.length ≤ 500000000000 → Tot (fun σ => B_s_someOps_J1 (σ 0) (F_s_reader_pick (σ 0)) (F_s_likelyOps (σ 0)) (F_s_someGraph (σ 0)) (F_s_written (σ 0)) (F_s_someOp (σ 0)) (F_s_reader_one (σ 0)) b q o) (Drawn b p 2000 fun x => ∃ ops : List POp, x = (ops, ()) ∧ ops.length ≤ 500000000000) := by
    intro q o h1 h2 h3
    have hq := h.next h1 (by omega)
    unfold B_s_someOps_J1
    refine (pick_tot hq (by omega) (by omega)).bind ?_
    rintro _ ⟨_, q2, rfl, k1, k2, v, rfl, k3, k4⟩
    rw [tot_cond]
    refine ⟨fun _ => ?_, fun _ => by rw [tot_jn]; exact j2 q2 o (by omega) (by omega) h3⟩
    have w : w64 (len o + 1) = (o.length : Int) + 1 := by rw [w64_id] <;> simp only [len] <;> omega
    rw [w]
    refine (pick_tot (hq.next k1 (by omega)) (by omega) (by omega)).bind ?_
    rintro _ ⟨_, q3, rfl, f1, f2, u, rfl, f3, f4⟩
    have f4 := f4 (by omega)
    rw [tot_chk]
    refine ⟨cutb_iff.2 ⟨Int.le_refl _, f3, by show u ≤ (o.length : Int); omega⟩, ?_⟩
    rw [tot_jn]
    exact j2 q3 (o.take u.toNat) (by omega) (by omega) (by simp only [List.length_take]; omega)
  refine (pick_tot h (by omega) (by omega)).bind ?_
  rintro _ ⟨_, q, rfl, h1, h2, v, rfl, h3, h4⟩
  have hq := h.next h1 (by omega)
  rw [tot_cond]
  refine ⟨fun _ => ?_, fun _ => ?_⟩
  · refine (likelyOps_tot hq (by omega)).bind ?_
    rintro _ ⟨_, q2, rfl, k1, k2, o, rfl, ho, _⟩
    rw [tot_jn]
    exact j2 q2 o (by omega) (by omega) (by omega)
  · refine (someGraph_tot hq (by omega)).bind ?_
    rintro _ ⟨_, q2, rfl, k1, k2, g, root, rfl, hv⟩
    have hq2 := hq.next k1 (by omega)
    refine (pick_tot hq2 (by omega) (by omega)).bind ?_
    rintro _ ⟨_, q3, rfl, f1, f2, u, rfl, f3, f4⟩
    have hq3 := hq2.next f1 (by omega)
    refine (written_tot hv u).bind ?_
    rintro _ ⟨o, rfl, ho⟩
    refine (pick_tot hq3 (by omega) (by omega)).bind ?_
    rintro _ ⟨_, q4, rfl, m1, m2, u2, rfl, m3, m4⟩
    have hq4 := hq3.next m1 (by omega)
    have j0 : ∀ t : Bool, (t = true → 0 < o.length) → Tot (fun σ => B_s_someOps_J0 (σ 0) (F_s_reader_pick (σ 0)) (F_s_likelyOps (σ 0)) (F_s_someGraph (σ 0)) (F_s_written (σ 0)) (F_s_someOp (σ 0)) (F_s_reader_one (σ 0)) b q4 o t) (Drawn b p 2000 fun x => ∃ ops : List POp, x = (ops, ()) ∧ ops.length ≤ 500000000000) := by
      intro t ht
      unfold B_s_someOps_J0
      rw [tot_cond]
      refine ⟨fun hb => ?_, fun _ => by rw [tot_jn]; exact j1 q4 o (by omega) (by omega) ho⟩
      have hpos := ht hb
      refine (pick_tot hq4 (by omega) (by simp only [len]; omega)).bind ?_
      rintro _ ⟨_, q5, rfl, n1, n2, w, rfl, n3, n4⟩
      have n4 := n4 (by simp only [len]; omega)
      simp only [len] at n4
      refine (someOp_tot (hq4.next n1 (by omega)) (by omega)).bind ?_
      rintro _ ⟨_, q6, rfl, l1, l2, c, a, rfl, _⟩
      simp only [tot_chk, inb_iff, decide_eq_true_eq]
      refine ⟨by omega, by omega, ?_⟩
      rw [tot_jn]
      exact j1 q6 _ (by omega) (by omega) (by simpa using ho)
    rw [tot_cond]
    refine ⟨fun _ => ?_, fun _ => ?_⟩
    · rw [tot_jn]; exact j0 _ (fun h => by simp only [decide_eq_true_eq, len] at h; omega)
    · rw [tot_jn]; exact j0 false (fun h => absurd h (by decide))
def bytesP (o : POp) : List Int := if argP o.1 < 0 then [o.1] else if o.2 < 128 then [o.1, o.2] else [o.1, 128 + o.2 % 128, o.2 / 128]
def encP (ops : List POp) : List Int := if okOps ops = true then ops.flatMap bytesP else []
end Go.Gx

/-
  The plain law of FnIsWhole.
-/
set_option linter.unusedVariables false
set_option linter.unusedSimpArgs false
namespace Go.Gx
theorem DrawIsWhole_tot {code : List Int} (hc : ∀ z ∈ code, 0 ≤ z ∧ z ≤ 255) (hl : code.length ≤ 1048576) : Tot (fun σ => F_s_DrawIsWhole (σ 0) code) (fun r => ∃ ops : List POp, r = ((ops, ()), ()) ∧ ops.length ≤ 500000000000) := by
  refine tot_s_DrawIsWhole ?_
  unfold B_s_DrawIsWhole
  refine (newReader_tot hc hl).bind ?_
  rintro _ ⟨b, rfl, hb⟩
  refine (someOps_tot hb (by omega)).bind ?_
  rintro _ ⟨_, q, rfl, _, _, ops, rfl, hl⟩
  rw [tot_some]
  exact ⟨ops, rfl, hl⟩
theorem s_IsWhole_tot {ops : List POp} (hl : ops.length ≤ 900000000000) : Tot (fun σ => F_s_IsWhole (σ 0) ops) (fun r => r = ((wholeM ops, ()), ())) := by
  refine tot_s_IsWhole ?_
  unfold B_s_IsWhole wholeM
  refine (validOps_tot hl).bind ?_
  rintro _ rfl
  simp only [tot_cond, tot_some, Bool.not_eq_true', Bool.not_eq_false']
  refine ⟨fun h => by rw [h]; rfl, fun h => ?_⟩
  refine (runShapes_tot hl (okOps_all h).1).bind ?_
  rintro _ ⟨rfl, _⟩
  simp only [tot_cond, tot_some, beq_iff_eq, beq_eq_false_iff_ne, ne_eq, len, rN_eq, rM_sh]
  rw [h]
  refine ⟨fun he => ?_, fun he => ?_⟩
  · rw [decide_eq_true (by omega)]; rfl
  · rw [decide_eq_false (by omega)]; rfl
theorem whole_cut {ops : List POp} (h : wholeM ops = true) : 1 ≤ ops.length ∧ wholeM (ops.take (ops.length - 1)) = false := by
  unfold wholeM at h
  simp only [Bool.and_eq_true, decide_eq_true_eq] at h
  obtain ⟨⟨hok, hn⟩, hD⟩ := h
  have hpos : 1 ≤ ops.length := by
    cases ops with
    | nil => exact absurd hD (by simp [rM, runM, newMc])
    | cons o r => simp
  refine ⟨hpos, ?_⟩
  cases hq : wholeM (ops.take (ops.length - 1)) with
  | false => rfl
  | true =>
    exfalso
    unfold wholeM at hq
    simp only [Bool.and_eq_true, decide_eq_true_eq] at hq
    obtain ⟨⟨_, hn'⟩, hD'⟩ := hq
    have happ := runM_append (ops.take (ops.length - 1)) (ops.drop (ops.length - 1)) newMc 0 (by rw [Nat.zero_add]; exact hn')
    rw [List.take_append_drop] at happ
    have hlast : ops.drop (ops.length - 1) = [ops.getD (ops.length - 1) (0, 0)] := by
      rw [List.drop_eq_getElem_cons (by omega), List.drop_eq_nil_of_le (by omega), List.getD_eq_getElem?_getD, List.getElem?_eq_getElem (by omega)]
      rfl
    rw [hlast, runM, stepM_rawn (raw_none hD')] at happ
    have : rN ops = 0 + (ops.take (ops.length - 1)).length := congrArg (·.2) happ
    rw [List.length_take] at this
    omega
theorem p_l_FnIsWhole (code : List Int) (hc : ∀ z ∈ code, 0 ≤ z ∧ z ≤ 255) : ∃ k, F_l_FnIsWhole k code = some ((true, ()), ()) := by
  refine Tot.ex (F := fun k => F_l_FnIsWhole k code) ?_
  refine tot_l_FnIsWhole ?_
  unfold B_l_FnIsWhole B_l_FnIsWhole_J0
  simp only [tot_cond, tot_some, decide_eq_true_eq, decide_eq_false_iff_not, len]
  refine ⟨fun _ => trivial, fun hl => ?_⟩
  refine (DrawIsWhole_tot hc (by omega)).bind ?_
  rintro _ ⟨ops, rfl, hll⟩
  refine (i_IsWhole_tot (by simp only []; omega)).bind ?_
  rintro _ rfl
  refine (s_IsWhole_tot (by simp only []; omega)).bind ?_
  rintro _ rfl
  simp only [tot_cond, tot_jn, beq_self_eq_true, Bool.not_true]
  refine ⟨fun h0 => absurd h0 (by decide), fun _ => ?_⟩
  refine (i_ValidOps_tot (by omega)).bind ?_
  rintro _ rfl
  simp only [tot_cond, tot_jn, Bool.not_eq_true', Bool.not_eq_false']
  refine ⟨fun hno => ?_, fun hok => ?_⟩
  · refine (s_IsWhole_tot (by omega)).bind ?_
    rintro _ rfl
    rw [tot_some, beq_self_eq_true]
  · refine (i_BuildGraph_tot (by omega)).bind ?_
    rintro _ rfl
    rw [← i_IsWhole_tot']
    simp only [tot_cond, tot_some, beq_self_eq_true, Bool.not_eq_true', Bool.not_eq_false']
    refine ⟨fun _ => ⟨fun _ => trivial, fun hw => ?_⟩, fun h0 => absurd h0 (by decide)⟩
    obtain ⟨hpos, hcut⟩ := whole_cut hw
    have h2 := (okOps_all hok).2
    have e : w64 ((ops.length : Int) - 1) = (ops.length : Int) - 1 := w64_id (by omega) (by omega)
    simp only [tot_chk, cutb_iff, e, List.drop_zero, show ((ops.length : Int) - 1).toNat = ops.length - 1 by omega]
    refine ⟨by omega, (i_IsWhole_tot (by simp only [List.length_take]; omega)).bind ?_⟩
    rintro _ rfl
    rw [hcut]
    simp only [Bool.not_false, tot_cond, tot_some]
    refine ⟨fun _ => ?_, fun h0 => absurd h0 (by decide)⟩
    refine (i_FirstBad_tot (by omega)).bind ?_
    rintro _ rfl
    have hb : badM ops = -1 := by
      unfold wholeM at hw
      simp only [Bool.and_eq_true, decide_eq_true_eq] at hw
      unfold badM
      rw [if_pos hok, if_pos hw.1.2]
    rw [tot_some, hb]
    rfl
end Go.Gx

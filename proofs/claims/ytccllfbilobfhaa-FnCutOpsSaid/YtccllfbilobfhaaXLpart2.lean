/-
  Plain laws about the printed functions.
-/
import Derived.Test.YtccllfbilobfhaaXLpart1
set_option linter.unusedVariables false
set_option linter.unusedSimpArgs false
namespace Go.Gx
theorem someOps_tot {b : List Int} {p : Int} (h : RD b p) (hp : p ≤ 90000000) : Tot (fun σ => F_s_someOps (σ 0) b p) (Drawn b p 2000 fun x => ∃ ops : List POp, x = (ops, ()) ∧ ops.length ≤ 500000000000) := by
  refine tot_s_someOps ?_
  unfold B_s_someOps
  have fin : ∀ (q : Int) (o : List POp), p ≤ q → q ≤ p + 2000 → o.length ≤ 500000000000 → Drawn b p 2000 (fun x => ∃ ops : List POp, x = (ops, ()) ∧ ops.length ≤ 500000000000) ((o, ()), ((b, q, ()), ())) := fun q o h1 h2 h3 => ⟨_, q, rfl, h1, h2, o, rfl, h3⟩
  have j2 : ∀ (q : Int) (o : List POp), p ≤ q → q ≤ p + 1900 → o.length ≤ 500000000000 → Tot (fun σ => B_s_someOps_J2 (σ 0) (F_s_reader_pick (σ 0)) (F_s_likelyOps (σ 0)) (F_s_someGraph (σ 0)) (F_s_written (σ 0)) (F_s_someOp (σ 0)) (F_s_reader_one (σ 0)) b q o) (Drawn b p 2000 fun x => ∃ ops : List POp, x = (ops, ()) ∧ ops.length ≤ 500000000000) := by
    intro q o h1 h2 h3
    have hq := h.next h1 (by omega)
    unfold B_s_someOps_J2
    rw [tot_cond]
    simp only [decide_eq_true_eq, decide_eq_false_iff_not, len]
    refine ⟨fun hlt => ?_, fun _ => by rw [tot_some]; exact fin q o h1 (by omega) h3⟩
    refine (pick_tot hq (by omega) (by omega)).bind ?_
    rintro _ ⟨_, q2, rfl, k1, k2, v, rfl, k3, k4⟩
    rw [tot_cond]
    refine ⟨fun _ => ?_, fun _ => ?_⟩
    · refine (one_tot (hq.next k1 (by omega)) (by omega) (by simp) (by simp)).bind ?_
      rintro _ ⟨_, q3, rfl, f1, f2, u, rfl, hu⟩
      simp only [tot_chk, tot_some, inb_iff, decide_eq_true_eq]
      exact ⟨by omega, by simp; omega, fin q3 _ (by omega) (by omega) (by simpa using h3)⟩
    · rw [tot_cond]
      refine ⟨fun _ => ?_, fun _ => by rw [tot_some]; exact fin q2 o (by omega) (by omega) h3⟩
      refine (one_tot (hq.next k1 (by omega)) (by omega) (by simp) (by simp)).bind ?_
      rintro _ ⟨_, q3, rfl, f1, f2, u, rfl, hu⟩
      have w : w64 ((o.length : Int) - 1) = (o.length : Int) - 1 := w64_id (by omega) (by omega)
      simp only [tot_chk, tot_some, inb_iff, decide_eq_true_eq, w]
      exact ⟨by omega, by omega, fin q3 _ (by omega) (by omega) (by simpa using h3)⟩
  have j1 : ∀ (q : Int) (o : List POp), p ≤ q → q ≤ p + 1800 → o.length ≤ 500000000000 → Tot (fun σ => B_s_someOps_J1 (σ 0) (F_s_reader_pick (σ 0)) (F_s_likelyOps (σ 0)) (F_s_someGraph (σ 0)) (F_s_written (σ 0)) (F_s_someOp (σ 0)) (F_s_reader_one (σ 0)) b q o) (Drawn b p 2000 fun x => ∃ ops : List POp, x = (ops, ()) ∧ ops.length ≤ 500000000000) := by
    intro q o h1 h2 h3
    have hq := h.next h1 (by omega)
    unfold B_s_someOps_J1
    refine (pick_tot hq (by omega) (by omega)).bind ?_
    rintro _ ⟨_, q2, rfl, k1, k2, v, rfl, k3, k4⟩
    rw [tot_cond]
    refine ⟨fun _ => ?_, fun _ => by rw [tot_jn]; exact j2 q2 o (by omega) (by omega) h3⟩
    have w : w64 (len o + 1) = (o.length : Int) + 1 := by rw [w64_id] <;> simp only [len] <;> omega
    rw [w]
    refine (pick_tot (hq.next k1 (by omega)) (by omega) (by omega)).bind ?_
    rintro _ ⟨_, q3, rfl, f1, f2, u, rfl, f3, f4⟩
    have f4 := f4 (by omega)
    rw [tot_chk]
    refine ⟨cutb_iff.2 ⟨Int.le_refl _, f3, by show u ≤ (o.length : Int); omega⟩, ?_⟩
    rw [tot_jn]
    exact j2 q3 (o.take u.toNat) (by omega) (by omega) (by simp only [List.length_take]; omega)
  refine (pick_tot h (by omega) (by omega)).bind ?_
  rintro _ ⟨_, q, rfl, h1, h2, v, rfl, h3, h4⟩
  have hq := h.next h1 (by omega)
  rw [tot_cond]
  refine ⟨fun _ => ?_, fun _ => ?_⟩
  · refine (likelyOps_tot hq (by omega)).bind ?_
    rintro _ ⟨_, q2, rfl, k1, k2, o, rfl, ho, _⟩
    rw [tot_jn]
    exact j2 q2 o (by omega) (by omega) (by omega)
  · refine (someGraph_tot hq (by omega)).bind ?_
    rintro _ ⟨_, q2, rfl, k1, k2, g, root, rfl, hv⟩
    have hq2 := hq.next k1 (by omega)
    refine (pick_tot hq2 (by omega) (by omega)).bind ?_
    rintro _ ⟨_, q3, rfl, f1, f2, u, rfl, f3, f4⟩
    have hq3 := hq2.next f1 (by omega)
    refine (written_tot hv u).bind ?_
    rintro _ ⟨o, rfl, ho⟩
    refine (pick_tot hq3 (by omega) (by omega)).bind ?_
    rintro _ ⟨_, q4, rfl, m1, m2, u2, rfl, m3, m4⟩
    have hq4 := hq3.next m1 (by omega)
    have j0 : ∀ t : Bool, (t = true → 0 < o.length) → Tot (fun σ => B_s_someOps_J0 (σ 0) (F_s_reader_pick (σ 0)) (F_s_likelyOps (σ 0)) (F_s_someGraph (σ 0)) (F_s_written (σ 0)) (F_s_someOp (σ 0)) (F_s_reader_one (σ 0)) b q4 o t) (Drawn b p 2000 fun x => ∃ ops : List POp, x = (ops, ()) ∧ ops.length ≤ 500000000000) := by
      intro t ht
      unfold B_s_someOps_J0
      rw [tot_cond]
      refine ⟨fun hb => ?_, fun _ => by rw [tot_jn]; exact j1 q4 o (by omega) (by omega) ho⟩
      have hpos := ht hb
      refine (pick_tot hq4 (by omega) (by simp only [len]; omega)).bind ?_
      rintro _ ⟨_, q5, rfl, n1, n2, w, rfl, n3, n4⟩
      have n4 := n4 (by simp only [len]; omega)
      simp only [len] at n4
      refine (someOp_tot (hq4.next n1 (by omega)) (by omega)).bind ?_
      rintro _ ⟨_, q6, rfl, l1, l2, c, a, rfl, _⟩
      simp only [tot_chk, inb_iff, decide_eq_true_eq]
      refine ⟨by omega, by omega, ?_⟩
      rw [tot_jn]
      exact j1 q6 _ (by omega) (by omega) (by simpa using ho)
    rw [tot_cond]
    refine ⟨fun _ => ?_, fun _ => ?_⟩
    · rw [tot_jn]; exact j0 _ (fun h => by simp only [decide_eq_true_eq, len] at h; omega)
    · rw [tot_jn]; exact j0 false (fun h => absurd h (by decide))
def bytesP (o : POp) : List Int := if argP o.1 < 0 then [o.1] else if o.2 < 128 then [o.1, o.2] else [o.1, 128 + o.2 % 128, o.2 / 128]
def encP (ops : List POp) : List Int := if okOps ops = true then ops.flatMap bytesP else []
end Go.Gx

/-
  The plain law of FnCutOps.
-/
set_option linter.unusedVariables false
set_option linter.unusedSimpArgs false
namespace Go.Gx
theorem DrawCutOps_tot {code : List Int} (hc : ∀ z ∈ code, 0 ≤ z ∧ z ≤ 255) (hl : code.length ≤ 1048576) : Tot (fun σ => F_s_DrawCutOps (σ 0) code) (fun r => ∃ ops : List POp, r = ((ops, ()), ()) ∧ ops.length ≤ 500000000000) := by
  refine tot_s_DrawCutOps ?_
  unfold B_s_DrawCutOps
  refine (newReader_tot hc hl).bind ?_
  rintro _ ⟨b, rfl, hb⟩
  refine (someOps_tot hb (by omega)).bind ?_
  rintro _ ⟨_, q, rfl, _, _, ops, rfl, hl⟩
  rw [tot_some]
  exact ⟨ops, rfl, hl⟩
theorem begins_tot {a b : List POp} (ha : a.length ≤ 900000000000) (h : b.length ≤ a.length) (hb : b = a.take b.length) : Tot (fun σ => F_l_begins (σ 0) a b) (fun r => r = ((true, ()), ())) := by
  refine tot_l_begins ?_
  unfold B_l_begins
  simp only [tot_cond, tot_chk, tot_some, decide_eq_true_eq, decide_eq_false_iff_not, cutb_iff, len]
  refine ⟨fun _ => ⟨by omega, ?_⟩, fun h0 => absurd (by omega) h0⟩
  have e : sub a 0 (b.length : Int) = b := by
    unfold sub
    rw [Int.toNat_natCast, ← hb]; rfl
  rw [e]
  refine (equalOps_tot (by omega)).bind ?_
  rintro _ ⟨c, rfl, hc⟩
  rw [tot_some, hc.2 rfl]
theorem p_l_FnCutOps (code : List Int) (hc : ∀ z ∈ code, 0 ≤ z ∧ z ≤ 255) : ∃ k, F_l_FnCutOps k code = some ((true, ()), ()) := by
  refine Tot.ex (F := fun k => F_l_FnCutOps k code) ?_
  refine tot_l_FnCutOps ?_
  unfold B_l_FnCutOps B_l_FnCutOps_J0
  simp only [tot_cond, tot_some, decide_eq_true_eq, decide_eq_false_iff_not, len]
  refine ⟨fun _ => trivial, fun hl => ?_⟩
  refine (DrawCutOps_tot hc (by omega)).bind ?_
  rintro _ ⟨ops, rfl, hll⟩
  refine (i_CutOps_tot (by simp only []; omega)).bind ?_
  rintro _ rfl
  refine (CutOps_tot (by simp only []; omega)).bind ?_
  rintro _ rfl
  rw [cutM_eq]
  have hcl : (cutM ops).length ≤ ops.length := by
    unfold cutM
    split
    · rw [List.length_take]; omega
    · simp
  have eqc : ∀ {x : List POp}, x = cutM ops → Tot (fun σ => F_l_equalOps (σ 0) x (cutM ops)) (fun r => r = ((true, ()), ())) := by
    intro x hx
    subst hx
    refine (equalOps_tot (by omega)).mono ?_
    rintro _ ⟨b, rfl, hb⟩
    rw [hb.2 rfl]
  refine (eqc rfl).bind ?_
  rintro _ rfl
  simp only [tot_cond, tot_jn, Bool.not_true]
  refine ⟨fun h0 => absurd h0 (by decide), fun _ => ⟨fun _ => ?_, fun hne => ?_⟩⟩
  · refine (CutOps_tot (by omega)).bind ?_
    rintro _ rfl
    rw [cutM_eq]
    refine (eqc rfl).bind ?_
    rintro _ rfl
    rw [tot_some]
  · have hok : okOps ops = true := by
      cases hq : okOps ops with
      | true => rfl
      | false =>
        have : cutM ops = [] := by unfold cutM; rw [if_neg (by rw [hq]; decide)]
        rw [this] at hne
        exact absurd hne (by decide)
    obtain ⟨hI, hN, hS, hn⟩ := rM_inv hok
    have h2 := (okOps_all hok).2
    have e : cutM ops = ops.take (rN ops) := by unfold cutM; rw [if_pos hok]
    have hok2 : okOps (cutM ops) = true := by rw [e]; exact okOps_take hok _
    have hcn : (cutM ops).length = rN ops := by rw [e, List.length_take]; omega
    have hrun : runM newMc (cutM ops) 0 = runM newMc ops 0 := by rw [e]; exact rN_take ops
    have hra : runA (cutM ops) = runA ops := by
      unfold runA rM rN
      rw [if_pos hok, if_pos hok2, hrun]
    refine (i_RunOps_tot (by omega)).bind ?_
    rintro _ rfl
    refine (i_RunOps_tot (by omega)).bind ?_
    rintro _ rfl
    refine (begins_tot (by omega) hcl (by rw [hcn, e])).bind ?_
    rintro _ rfl
    rw [hra]
    have hA : runA ops = ((MD (rM ops), (rN ops : Int), ()), ()) := by unfold runA; rw [if_pos hok]
    simp only [tot_cond, tot_some, hA, beq_self_eq_true, beq_iff_eq, beq_eq_false_iff_ne, ne_eq, hcn]
    refine ⟨fun _ => ⟨fun _ => ⟨fun _ => ?_, fun h0 => absurd h0 (by decide)⟩, fun h0 => absurd h0 (by decide)⟩, fun h0 => absurd h0 (by decide)⟩
    refine (equalMachine_tot (by omega) (fun n hn => by have := hI.ni.ln n hn; omega) (by omega) (by have := hI.ml; omega)).bind ?_
    rintro _ ⟨b, rfl, hb⟩
    have hb : b = true := hb.2 ⟨rfl, rfl, rfl, rfl⟩
    subst hb
    simp only [tot_cond, tot_some]
    refine ⟨fun _ => ?_, fun h0 => absurd h0 (by decide)⟩
    refine (i_CutOps_tot (by omega)).bind ?_
    rintro _ rfl
    have hcc : cutM (cutM ops) = cutM ops := by
      have h3 : cutM (cutM ops) = (cutM ops).take (rN (cutM ops)) := by unfold cutM; rw [if_pos hok, if_pos (by rw [← e]; exact hok2)]
      have h4 : rN (cutM ops) = rN ops := congrArg (·.2) hrun
      rw [h3, h4, ← hcn, List.take_length]
    refine (eqc hcc).bind ?_
    rintro _ rfl
    rw [tot_some]
end Go.Gx

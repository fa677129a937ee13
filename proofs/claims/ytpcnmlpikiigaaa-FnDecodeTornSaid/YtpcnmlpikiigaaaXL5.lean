/-
  Laws, part 5: the end of a program, and its beginning that is possible.
-/
import Derived.Test.YtpcnmlpikiigaaaXL4
set_option linter.unusedVariables false
set_option linter.unusedSimpArgs false
namespace Go.Gx
def finP (ops : List POp) (n : Nat) (out : List POp) : List POp × Bool :=
  if okOps (ops.take n ++ (out ++ [(19, 0)])) = true ∧ (runP (ops.take n ++ (out ++ [(19, 0)]))).2 = (ops.take n ++ (out ++ [(19, 0)])).length then (out ++ [(19, 0)], true) else ([], false)
def marksP (S : List Int) : Nat := (S.filter (fun x => decide (x < 0))).length
def restP (S : List Int) : Nat := (S.takeWhile (fun x => decide (0 ≤ x))).length
def restP' (S : List Int) : Nat := if 0 < marksP S then restP S + 1 else restP S
def endOut (S : List Int) : List POp := List.replicate (marksP S) (3, 0) ++ List.replicate (restP' S - 1) (6, 0) ++ (if restP' S = 0 then [(4, 0)] else [])
def endP (ops : List POp) : List POp × Bool :=
  if okOps ops = false then ([], false)
  else if (runP ops).1.D = true then ([], true)
  else finP ops (runP ops).2 (endOut (runP ops).1.S)
def cutP (ops : List POp) : List POp := if okOps ops = true then ops.take (runP ops).2 else []
theorem marksP_le (S : List Int) : marksP S ≤ S.length := List.length_filter_le _ _
theorem restP_le (S : List Int) : restP S ≤ S.length := List.IsPrefix.length_le (List.takeWhile_prefix _)
theorem okOps_all {ops : List POp} (h : okOps ops = true) : ops.all okOp = true ∧ ops.length ≤ 300 := by simpa [okOps] using h
theorem CutOps_tot {ops : List POp} (hl : ops.length ≤ 900000) : Tot (fun σ => F_s_CutOps (σ 0) ops) (fun r => r = ((cutP ops, ()), ())) := by
  refine tot_s_CutOps ?_
  unfold B_s_CutOps
  refine (validOps_tot (by omega)).bind ?_
  rintro _ rfl
  simp only [tot_cond, tot_some, Bool.not_eq_true', Bool.not_eq_false']
  refine ⟨fun h => by simp [cutP, h], fun h => ?_⟩
  obtain ⟨h1, h2⟩ := okOps_all h
  refine (runShapes_tot (by omega) h1).bind ?_
  rintro _ ⟨rfl, h3, h4, h5, h6⟩
  simp only [tot_chk, tot_some, cutb_iff, room_iff, sub, Int.toNat_natCast, List.length_drop, List.length_take, List.length_nil]
  exact ⟨by omega, by omega, by simp [cutP, h]⟩
theorem all_append_ok {a b : List POp} (ha : a.all okOp = true) (hb : b.all okOp = true) : (a ++ b).all okOp = true := by rw [List.all_append, ha, hb]; rfl
theorem take_ok {a : List POp} (ha : a.all okOp = true) (n : Nat) : (a.take n).all okOp = true := List.all_eq_true.2 fun x hx => List.all_eq_true.1 ha x (List.mem_of_mem_take hx)
theorem EndOps_J7_tot {ops out : List POp} {n : Nat} (h1 : ops.all okOp = true) (hl : ops.length ≤ 300) (ho : out.all okOp = true) (hol : out.length ≤ 2000) (hn : n ≤ ops.length) :
    Tot (fun σ => B_s_EndOps_J7 (σ 0) (F_s_validOps (σ 0)) (F_s_runShapes (σ 0)) ops n out) (fun r => r = (((finP ops n out).1, (finP ops n out).2, ()), ())) := by
  unfold B_s_EndOps_J7 B_s_EndOps_J8 B_s_EndOps_J9
  have e : sub ops 0 (n : Int) = ops.take n := by simp [sub]
  simp only [tot_chk, tot_jn, cutb_iff, room_iff, e, List.length_append, List.length_cons, List.length_nil, List.length_take]
  refine ⟨by omega, by omega, by omega, by omega, ?_⟩
  have hall : (ops.take n ++ (out ++ [(19, 0)])).all okOp = true := all_append_ok (take_ok h1 n) (all_append_ok ho (by decide))
  have hlen : (ops.take n ++ (out ++ [(19, 0)])).length ≤ 3000 := by simp only [List.length_append, List.length_cons, List.length_nil, List.length_take]; omega
  unfold finP
  generalize ops.take n ++ (out ++ [((19 : Int), (0 : Int))]) = all at hall hlen
  refine (runShapes_tot (by omega) hall).bind ?_
  rintro _ ⟨rfl, _, _, _, h6⟩
  refine (validOps_tot (by omega)).bind ?_
  rintro _ rfl
  simp only [tot_cond, tot_jn, tot_some, Bool.not_eq_true', Bool.not_eq_false', len, decide_eq_true_eq, decide_eq_false_iff_not]
  refine ⟨fun hv => ⟨fun _ => by simp [hv], fun h0 => absurd h0 (by decide)⟩, fun hv => ⟨fun hlt => ?_, fun hge => ?_⟩⟩
  · rw [if_neg (fun h => by omega)]
  · rw [if_pos ⟨hv, by omega⟩]
theorem EndOps_L6_tot {ops out : List POp} {n m : Nat} (h1 : ops.all okOp = true) (hl : ops.length ≤ 300) (ho : out.all okOp = true) (hol : out.length + m ≤ 1000) (hn : n ≤ ops.length) :
    Tot (fun σ => B_s_EndOps_J5 (σ 0) (F_s_validOps (σ 0)) (F_s_runShapes (σ 0)) ops n out m)
      (fun r => r = (((finP ops n (out ++ List.replicate (m - 1) (6, 0) ++ (if m = 0 then [(4, 0)] else []))).1, (finP ops n (out ++ List.replicate (m - 1) (6, 0) ++ (if m = 0 then [(4, 0)] else []))).2, ()), ())) := by
  unfold B_s_EndOps_J5
  generalize hR : finP ops n (out ++ List.replicate (m - 1) (6, 0) ++ (if m = 0 then [(4, 0)] else [])) = R
  have key := loop_s_EndOps_L6 (Q := fun _ _ _ _ _ r => r = ((R.1, R.2, ()), ())) (I := fun ops' n' o m' i => ops' = ops ∧ n' = n ∧ m' = m ∧ ∃ j : Nat, i = (j : Int) + 1 ∧ (j + 1 ≤ m ∨ j = 0) ∧ o = out ++ List.replicate j (6, 0)) (μ := fun _ _ _ _ i => (m + 1 - i).toNat) ?_
  · exact key ops n out m 1 ⟨rfl, rfl, rfl, 0, by omega, .inr rfl, by simp⟩
  intro ops' n' o m' i ⟨e1, e2, e3, j, e4, hj, e5⟩ again hag ih
  subst e1 e2 e3 e4 e5
  unfold B_s_EndOps_L6b
  have hok : (out ++ List.replicate j ((6, 0) : POp)).all okOp = true := all_append_ok ho (List.all_eq_true.2 fun x hx => by rw [List.eq_of_mem_replicate hx]; decide)
  simp only [tot_cond, tot_chk, tot_jn, decide_eq_true_eq, decide_eq_false_iff_not, room_iff, List.length_append, List.length_replicate, List.length_cons, List.length_nil, beq_iff_eq, beq_eq_false_iff_ne, ne_eq]
  refine ⟨fun hlt => ⟨by omega, ?_⟩, fun hge => ⟨fun h0 => ⟨by omega, ?_⟩, fun h0 => ?_⟩⟩
  · rw [show w64 ((j : Int) + 1 + 1) = ((j + 1 : Nat) : Int) + 1 by rw [w64_id (by omega) (by omega)]; omega]
    refine ih _ _ _ _ _ ⟨rfl, rfl, rfl, j + 1, rfl, .inl ?_, by rw [List.append_assoc, ← List.replicate_succ']⟩ ?_ <;> omega
  · have hm0 : m = 0 := by omega
    have hj0 : j = 0 := by omega
    subst hm0 hj0
    rw [← hR]
    simp only [List.replicate_zero, List.append_nil, Nat.zero_sub, if_true]
    exact EndOps_J7_tot h1 hl (all_append_ok ho (by decide)) (by simp only [List.length_append, List.length_cons, List.length_nil]; omega) hn
  · rw [← hR]
    have hj' : j = m - 1 := by omega
    rw [if_neg (by omega), List.append_nil, hj']
    rw [hj'] at hok
    exact EndOps_J7_tot h1 hl hok (by simp only [List.length_append, List.length_replicate]; omega) hn
theorem takeWhile_drop_len {S : List Int} : ∀ {n : Nat}, (∀ j, j < n → 0 ≤ S.getD j 0) → n ≤ S.length → (n < S.length → S.getD n 0 < 0) → restP S = n := by
  unfold restP
  induction S with
  | nil => intro n _ h _; simp at h; simp [h]
  | cons x S ih =>
    intro n h1 h2 h3
    cases n with
    | zero =>
      have := h3 (by simp)
      simp only [List.getD_cons_zero] at this
      rw [List.takeWhile_cons_of_neg (by simpa using this)]
      rfl
    | succ n =>
      have h0 := h1 0 (by omega)
      simp only [List.getD_cons_zero] at h0
      rw [List.takeWhile_cons_of_pos (by simpa using h0), List.length_cons, ih (n := n) (fun j hj => by have := h1 (j + 1) (by omega); simpa using this) (by simpa using h2) (fun h => by have := h3 (by simpa using h); simpa using this)]
theorem EndOps_tot {ops : List POp} (hl : ops.length ≤ 900000) : Tot (fun σ => F_s_EndOps (σ 0) ops) (fun r => r = (((endP ops).1, (endP ops).2, ()), ())) := by
  refine tot_s_EndOps ?_
  unfold B_s_EndOps
  refine (validOps_tot (by omega)).bind ?_
  rintro _ rfl
  simp only [tot_cond, tot_some, Bool.not_eq_true', Bool.not_eq_false']
  refine ⟨fun h => by simp [endP, h], fun h => ?_⟩
  obtain ⟨h1, h2⟩ := okOps_all h
  refine (runShapes_tot (by omega) h1).bind ?_
  rintro _ ⟨rfl, h3, h4, h5, h6⟩
  simp only [tot_cond, tot_some]
  refine ⟨fun hd => by simp [endP, h, hd], fun hd => ?_⟩
  have hE : endP ops = finP ops (runP ops).2 (endOut (runP ops).1.S) := by rw [endP, if_neg (by rw [h]; decide), if_neg (by rw [hd]; decide)]
  rw [hE]
  generalize runP ops = q at h3 h4 h5 h6
  obtain ⟨s, n⟩ := q
  generalize hR : finP ops n (endOut s.S) = R
  simp only
  have hS : s.S.length ≤ 300 := h5
  -- the rest
  have l4 : Tot (fun σ => B_s_EndOps_L4 (σ 0) (F_s_validOps (σ 0)) (F_s_runShapes (σ 0)) (σ 0) (ops, (s.K, s.Fu, s.S, s.M, s.D, ()), (n : Int), List.replicate (marksP s.S) (3, 0), (marksP s.S : Int), 0, ())) (fun r => r = ((R.1, R.2, ()), ())) := by
    have key := loop_s_EndOps_L4 (Q := fun _ _ _ _ _ _ _ _ _ _ r => r = ((R.1, R.2, ()), ())) (I := fun ops' K Fu S M D n' out m rest => ops' = ops ∧ S = s.S ∧ n' = n ∧ out = List.replicate (marksP s.S) (3, 0) ∧ m = (marksP s.S : Int) ∧ ∃ j : Nat, rest = j ∧ j ≤ s.S.length ∧ ∀ i, i < j → 0 ≤ s.S.getD i 0)
      (μ := fun _ _ _ _ _ _ _ _ _ rest => (s.S.length - rest).toNat) ?_
    · exact key ops s.K s.Fu s.S s.M s.D n _ _ 0 ⟨rfl, rfl, rfl, rfl, rfl, 0, rfl, by omega, fun i hi => by omega⟩
    intro ops' K Fu S M D n' out m rest ⟨e1, e2, e3, e4, e5, j, e6, hj, hp⟩ again hag ih
    subst e1 e2 e3 e4 e5 e6
    unfold B_s_EndOps_L4b B_s_EndOps_J3
    have hml := marksP_le s.S
    have fin : restP s.S = j → Tot (fun σ => bif decide ((marksP s.S : Int) > 0) then jn (fun t => B_s_EndOps_J5 (σ 0) (F_s_validOps (σ 0)) (F_s_runShapes (σ 0)) t.1 t.2.1 t.2.2.1 t.2.2.2.1) (ops', (n : Int), List.replicate (marksP s.S) (3, 0), w64 ((j : Int) + 1), ()) else jn (fun t => B_s_EndOps_J5 (σ 0) (F_s_validOps (σ 0)) (F_s_runShapes (σ 0)) t.1 t.2.1 t.2.2.1 t.2.2.2.1) (ops', (n : Int), List.replicate (marksP s.S) (3, 0), (j : Int), ())) (fun r => r = ((R.1, R.2, ()), ())) := by
      intro hr
      have hok : (List.replicate (marksP s.S) ((3, 0) : POp)).all okOp = true := List.all_eq_true.2 fun x hx => by rw [List.eq_of_mem_replicate hx]; decide
      simp only [tot_cond, tot_jn, decide_eq_true_eq, decide_eq_false_iff_not]
      refine ⟨fun hm => ?_, fun hm => ?_⟩
      · rw [show w64 ((j : Int) + 1) = ((j + 1 : Nat) : Int) by rw [w64_id (by omega) (by omega)]; omega]
        have := EndOps_L6_tot (m := j + 1) h1 h2 hok (by simp only [List.length_replicate]; omega) h6
        have e : restP' s.S = j + 1 := by rw [restP', if_pos (by omega), hr]
        rw [← e] at this ⊢
        rw [← hR]
        exact this
      · have := EndOps_L6_tot (m := j) h1 h2 hok (by simp only [List.length_replicate]; omega) h6
        have e : restP' s.S = j := by rw [restP', if_neg (by omega), hr]
        rw [← e] at this ⊢
        rw [← hR]
        exact this
    rw [tot_cond]
    refine ⟨fun hlt => ?_, fun hge => ?_⟩
    · simp only [decide_eq_true_eq, len] at hlt
      rw [tot_chk]
      refine ⟨inb_iff.2 (by omega), ?_⟩
      simp only [tot_jn, tot_cond, decide_eq_true_eq, decide_eq_false_iff_not]
      simp only [rdx_eq, Int.toNat_natCast]
      refine ⟨fun hp' => ?_, fun hn' => by
        have := fin (takeWhile_drop_len hp hj (fun _ => by omega))
        simp only [tot_cond, tot_jn, decide_eq_true_eq, decide_eq_false_iff_not] at this
        exact this⟩
      rw [show w64 ((j : Int) + 1) = ((j + 1 : Nat) : Int) by rw [w64_id (by omega) (by omega)]; omega]
      refine ih _ _ _ _ _ _ _ _ _ _ ⟨rfl, rfl, rfl, rfl, rfl, j + 1, rfl, by omega, fun i hi => ?_⟩ (by omega)
      by_cases e : i = j
      · subst e; exact hp'
      · exact hp i (by omega)
    · simp only [decide_eq_false_iff_not, len] at hge
      rw [tot_jn, tot_cond]
      exact ⟨fun h0 => Bool.noConfusion h0, fun _ => fin (takeWhile_drop_len hp hj (fun h => by omega))⟩
  -- the marks
  have l2 : Tot (fun σ => B_s_EndOps_L2 (σ 0) (F_s_validOps (σ 0)) (F_s_runShapes (σ 0)) (σ 0) (ops, (s.K, s.Fu, s.S, s.M, s.D, ()), (n : Int), [], (marksP s.S : Int), 0, ())) (fun r => r = ((R.1, R.2, ()), ())) := by
    have key := loop_s_EndOps_L2 (Q := fun _ _ _ _ _ _ _ _ _ _ r => r = ((R.1, R.2, ()), ())) (I := fun ops' K Fu S M D n' out m i => ops' = ops ∧ K = s.K ∧ Fu = s.Fu ∧ S = s.S ∧ M = s.M ∧ D = s.D ∧ n' = n ∧ m = (marksP s.S : Int) ∧ ∃ j : Nat, i = j ∧ j ≤ marksP s.S ∧ out = List.replicate j (3, 0))
      (μ := fun _ _ _ _ _ _ _ _ _ i => (marksP s.S - i).toNat) ?_
    · exact key ops s.K s.Fu s.S s.M s.D n [] _ 0 ⟨rfl, rfl, rfl, rfl, rfl, rfl, rfl, rfl, 0, rfl, by omega, rfl⟩
    intro ops' K Fu S M D n' out m i ⟨e1, e2, e3, e4, e5, e6, e7, e8, j, e9, hj, e10⟩ again hag ih
    subst e1 e2 e3 e4 e5 e6 e7 e8 e9 e10
    unfold B_s_EndOps_L2b
    have hml := marksP_le s.S
    simp only [tot_cond, tot_chk, decide_eq_true_eq, decide_eq_false_iff_not, room_iff, List.length_replicate, List.length_cons, List.length_nil]
    refine ⟨fun hlt => ⟨by omega, ?_⟩, fun hge => ?_⟩
    · rw [show w64 ((j : Int) + 1) = ((j + 1 : Nat) : Int) by rw [w64_id (by omega) (by omega)]; omega]
      exact ih _ _ _ _ _ _ _ _ _ _ ⟨rfl, rfl, rfl, rfl, rfl, rfl, rfl, rfl, j + 1, rfl, by omega, by rw [List.replicate_succ']⟩ (by omega)
    · have : j = marksP s.S := by omega
      subst this
      exact l4
  have key := loop_s_EndOps_L1 (Q := fun _ _ _ _ _ _ _ _ _ _ r => r = ((R.1, R.2, ()), ())) (I := fun ops' K Fu S M D n' out m i => ops' = ops ∧ K = s.K ∧ Fu = s.Fu ∧ S = s.S ∧ M = s.M ∧ D = s.D ∧ n' = n ∧ out = [] ∧ ∃ j : Nat, i = j ∧ j ≤ s.S.length ∧ m = (marksP (s.S.take j) : Int))
    (μ := fun _ _ _ _ _ _ _ _ _ i => (s.S.length - i).toNat) ?_
  · exact key ops s.K s.Fu s.S s.M s.D n [] 0 0 ⟨rfl, rfl, rfl, rfl, rfl, rfl, rfl, rfl, 0, rfl, by omega, rfl⟩
  intro ops' K Fu S M D n' out m i ⟨e1, e2, e3, e4, e5, e6, e7, e8, j, e9, hj, e10⟩ again hag ih
  subst e1 e2 e3 e4 e5 e6 e7 e8 e9 e10
  unfold B_s_EndOps_L1b B_s_EndOps_J0
  have hml := marksP_le (s.S.take j)
  simp only [List.length_take] at hml
  simp only [tot_cond, tot_chk, tot_jn, decide_eq_true_eq, decide_eq_false_iff_not, inb_iff, len]
  simp only [rdx_eq, Int.toNat_natCast]
  have step : j < s.S.length → marksP (s.S.take (j + 1)) = marksP (s.S.take j) + (if s.S.getD j 0 < 0 then 1 else 0) := by
    intro hlt
    rw [List.take_add_one, List.getElem?_eq_getElem hlt, marksP, marksP, List.filter_append, List.length_append, List.getD_eq_getElem?_getD, List.getElem?_eq_getElem hlt, Option.getD_some]
    split
    · rename_i h; simp [h]
    · rename_i h; simp [h]
  refine ⟨fun hlt => ⟨by omega, fun hneg => ?_, fun hneg => ?_⟩, fun hge => ?_⟩
  · rw [show w64 ((j : Int) + 1) = ((j + 1 : Nat) : Int) by rw [w64_id (by omega) (by omega)]; omega, w64_id (by omega) (by omega)]
    refine ih _ _ _ _ _ _ _ _ _ _ ⟨rfl, rfl, rfl, rfl, rfl, rfl, rfl, rfl, j + 1, rfl, by omega, ?_⟩ (by omega)
    rw [step (by omega), if_pos hneg]; omega
  · rw [show w64 ((j : Int) + 1) = ((j + 1 : Nat) : Int) by rw [w64_id (by omega) (by omega)]; omega]
    refine ih _ _ _ _ _ _ _ _ _ _ ⟨rfl, rfl, rfl, rfl, rfl, rfl, rfl, rfl, j + 1, rfl, by omega, ?_⟩ (by omega)
    rw [step (by omega), if_neg hneg]; omega
  · have : j = s.S.length := by omega
    subst this
    rw [List.take_length]
    exact l2
theorem endP_len {ops : List POp} (h : ops.length ≤ 900000) : (endP ops).1.length ≤ 2000 := by
  unfold endP
  split
  · simp
  split
  · simp
  rename_i h1 h2
  unfold finP
  split
  · rename_i hk
    have := (okOps_all hk.1).2
    simp only [List.length_append, List.length_cons, List.length_nil] at this ⊢
    omega
  · simp
theorem cutP_len (ops : List POp) : (cutP ops).length ≤ ops.length := by
  unfold cutP
  split
  · simp only [List.length_take]; omega
  · simp
end Go.Gx

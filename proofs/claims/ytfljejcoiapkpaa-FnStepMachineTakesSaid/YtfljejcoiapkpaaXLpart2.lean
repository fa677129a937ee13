/-
  Plain laws about the printed functions.
-/
import Derived.Test.YtfljejcoiapkpaaXLpart1
set_option linter.unusedVariables false
set_option linter.unusedSimpArgs false
namespace Go.Gx
theorem someMachine_tot {b : List Int} {p : Int} (h : RD b p) (hp : p ≤ 90000000) : Tot (fun σ => F_s_someMachine (σ 0) b p) (Drawn b p 1010 fun x => ∃ m : Mc, x = (MD m, ()) ∧ m.N.length ≤ 300 ∧ m.S.length ≤ 301 ∧ m.M.length ≤ 20 ∧ ∀ n ∈ m.N, n.2.2.length ≤ 300100000) := by
  refine tot_s_someMachine ?_
  unfold B_s_someMachine
  refine (likelyOps_tot h (by omega)).bind ?_
  rintro _ ⟨_, q, rfl, hq1, hq2, ops, rfl, hl, hall⟩
  refine s_newM_tot.bind ?_
  rintro _ rfl
  refine (validOps_tot (by simp only; omega)).bind ?_
  rintro _ rfl
  have hb := h.next hq1 (by omega)
  have j0 : ∀ (m : Mc) (d : Bool), m.N.length ≤ 300 → m.S.length ≤ 300 → m.M.length = 20 → (∀ n ∈ m.N, n.2.2.length ≤ 300100000) → Tot (fun σ => B_s_someMachine_J0 (σ 0) (F_s_likelyOps (σ 0)) (F_s_newMachine (σ 0)) (F_s_validOps (σ 0)) (F_s_run (σ 0)) (F_s_reader_pick (σ 0)) (F_s_reader_one (σ 0)) b q d m.N m.S m.M m.D) (Drawn b p 1010 fun x => ∃ m : Mc, x = (MD m, ()) ∧ m.N.length ≤ 300 ∧ m.S.length ≤ 301 ∧ m.M.length ≤ 20 ∧ ∀ n ∈ m.N, n.2.2.length ≤ 300100000) := by
    intro m d h1 h2 h3 h4
    unfold B_s_someMachine_J0 B_s_someMachine_J1
    refine (pick_tot hb (by omega) (by omega)).bind ?_
    rintro _ ⟨_, q2, rfl, hr1, hr2, v, rfl, hv⟩
    have hb2 := hb.next hr1 (by omega)
    simp only [tot_cond, tot_jn, tot_chk, tot_some]
    refine ⟨fun _ => ?_, fun _ => ⟨fun _ => ⟨?_, ?_⟩, fun _ => ⟨fun _ => ?_, fun _ => ?_⟩⟩⟩
    · refine (one_tot hb2 (by omega) (by simp) (by simp)).bind ?_
      rintro _ ⟨_, q3, rfl, hr3, hr4, w, rfl, hw⟩
      simp only [tot_cond, tot_jn, tot_chk, tot_some, room_iff, List.length_cons, List.length_nil]
      exact ⟨by omega, _, q3, rfl, by omega, by omega, ⟨m.N, m.S ++ [w], m.M, m.D⟩, rfl, h1, by simp only [List.length_append, List.length_cons, List.length_nil]; omega, by show m.M.length ≤ 20; omega, h4⟩
    · rw [cutb_iff]; unfold len; omega
    · exact ⟨_, q2, rfl, by omega, by omega, ⟨m.N, m.S, ((m.M.take ((len m.M).toNat)).drop ((1 : Int).toNat)), m.D⟩, rfl, h1, by show m.S.length ≤ 301; omega, by simp only [List.length_drop, List.length_take]; omega, h4⟩
    · exact ⟨_, q2, rfl, by omega, by omega, ⟨m.N, m.S, m.M, !m.D⟩, rfl, h1, by show m.S.length ≤ 301; omega, by show m.M.length ≤ 20; omega, h4⟩
    · exact ⟨_, q2, rfl, by omega, by omega, m, rfl, h1, by omega, by omega, h4⟩
  simp only [tot_cond, tot_jn]
  refine ⟨fun hok => ?_, fun _ => ?_⟩
  · refine (s_run_new hok).bind ?_
    rintro _ rfl
    obtain ⟨i1, i2, i3, _⟩ := rM_inv hok
    have h2 := (okOps_all hok).2
    exact j0 (rM ops) false i2 i3 i1.sh.ml (fun n hn => by have := i1.ni.ln n hn; omega)
  · exact j0 newMc false (by simp [newMc]) (by simp [newMc]) (by simp [newMc]) (fun n hn => by simp [newMc] at hn)
theorem DrawStepMachine_tot {code : List Int} (hc : ∀ z ∈ code, 0 ≤ z ∧ z ≤ 255) (hl : code.length ≤ 1048576) : Tot (fun σ => F_s_DrawStepMachine (σ 0) code) (fun r => ∃ (m : Mc) (c a : Int), r = ((MD m, (c, a, ()), ()), ()) ∧ m.N.length ≤ 300 ∧ m.S.length ≤ 301 ∧ m.M.length ≤ 20 ∧ ∀ n ∈ m.N, n.2.2.length ≤ 300100000) := by
  refine tot_s_DrawStepMachine ?_
  unfold B_s_DrawStepMachine B_s_DrawStepMachine_J0
  refine (newReader_tot hc hl).bind ?_
  rintro _ ⟨b, rfl, hb⟩
  refine (someMachine_tot hb (by omega)).bind ?_
  rintro _ ⟨_, q, rfl, hq1, hq2, m, rfl, h1, h2, h3, h4⟩
  have hb2 := hb.next hq1 (by omega)
  refine (someOp_tot hb2 (by omega)).bind ?_
  rintro _ ⟨_, q2, rfl, hq3, hq4, c, a, rfl, hok⟩
  have hb3 := hb2.next hq3 (by omega)
  refine (pick_tot hb3 (by omega) (by omega)).bind ?_
  rintro _ ⟨_, q3, rfl, hq5, hq6, v, rfl, hv⟩
  have hb4 := hb3.next hq5 (by omega)
  simp only [tot_cond, tot_jn, tot_some]
  refine ⟨fun _ => (one_tot hb4 (by omega) (by simp) (by simp)).bind ?_, fun _ => ⟨m, c, a, rfl, h1, h2, h3, h4⟩⟩
  rintro _ ⟨_, q4, rfl, hq7, hq8, w, rfl, hw⟩
  rw [tot_jn, tot_some]
  exact ⟨m, c, w, rfl, h1, h2, h3, h4⟩
end Go.Gx

/-
  Laws: lists of numbers are compared.
-/
set_option linter.unusedVariables false
set_option linter.unusedSimpArgs false
namespace Go.Gx
theorem equalInts_tot {a b : List Int} (ha : a.length ≤ 900000000000) : Tot (fun σ => F_l_equalInts (σ 0) a b) (Says (a = b)) := by
  refine tot_l_equalInts ?_
  unfold B_l_equalInts
  simp only [tot_cond, tot_some, len, bne_iff_ne, ne_eq, bne_eq_false_iff_eq]
  refine ⟨fun h => says_false fun e => h (by rw [e]), fun h => ?_⟩
  have hl : a.length = b.length := by omega
  have key := loop_l_equalInts_L0 (Q := fun _ _ _ r => Says (a = b) r) (I := fun x y i => x = a ∧ y = b ∧ ∃ j : Nat, i = j ∧ j ≤ a.length ∧ ∀ q, q < j → a.getD q 0 = b.getD q 0) (μ := fun _ _ i => (a.length - i).toNat) ?_
  · exact key a b 0 ⟨rfl, rfl, 0, rfl, by omega, fun q hq => by omega⟩
  intro x y i ⟨e1, e2, j, e3, hj, hq⟩ again hag ih
  subst e1 e2 e3
  unfold B_l_equalInts_L0b
  simp only [tot_cond, tot_chk, tot_some, decide_eq_true_eq, decide_eq_false_iff_not, len, inb_iff, bne_iff_ne, ne_eq, bne_eq_false_iff_eq]
  simp only [rdx_eq, Int.toNat_natCast]
  refine ⟨fun hlt => ⟨by omega, by omega, fun hne => says_false fun e => hne (by rw [e]), fun he => ?_⟩, fun hge => says_true (ext_getD hl fun i hi => hq i (by omega))⟩
  rw [w64_succ (by omega) (by omega)]
  refine ih _ _ _ ⟨rfl, rfl, j + 1, rfl, by omega, fun q h => ?_⟩ (by simp; omega)
  by_cases e : q = j
  · subst e; exact he
  · exact hq q (by omega)
end Go.Gx

/-
  Laws: lists of nodes are compared.
-/
set_option linter.unusedVariables false
set_option linter.unusedSimpArgs false
namespace Go.Gx
theorem equalNodes_tot {a b : List PNode} (ha : a.length ≤ 900000000000) (hk : ∀ n ∈ a, n.2.2.length ≤ 900000000000) : Tot (fun σ => F_l_equalNodes (σ 0) a b) (Says (a = b)) := by
  refine tot_l_equalNodes ?_
  unfold B_l_equalNodes
  simp only [tot_cond, tot_some, len, bne_iff_ne, ne_eq, bne_eq_false_iff_eq]
  refine ⟨fun h => says_false fun e => h (by rw [e]), fun h => ?_⟩
  have hl : a.length = b.length := by omega
  have key := loop_l_equalNodes_L1 (Q := fun _ _ _ r => Says (a = b) r) (I := fun x y i => x = a ∧ y = b ∧ ∃ j : Nat, i = j ∧ j ≤ a.length ∧ ∀ q, q < j → a.getD q ((0 : Int), ((0 : Int), ([] : List Int))) = b.getD q ((0 : Int), ((0 : Int), ([] : List Int)))) (μ := fun _ _ i => (a.length - i).toNat) ?_
  · exact key a b 0 ⟨rfl, rfl, 0, rfl, by omega, fun q hq => by omega⟩
  intro x y i ⟨e1, e2, j, e3, hj, hq⟩ again hag ih
  subst e1 e2 e3
  unfold B_l_equalNodes_L1b B_l_equalNodes_J0
  simp only [tot_cond, tot_chk, tot_jn, tot_some, decide_eq_true_eq, decide_eq_false_iff_not, len, inb_iff, bne_iff_ne, ne_eq, bne_eq_false_iff_eq]
  simp only [rdx_eq, Int.toNat_natCast]
  refine ⟨fun hlt => ⟨by omega, by omega, fun hne => ⟨fun _ => says_false fun e => hne (by rw [e]), fun h0 => absurd h0 (by decide)⟩, fun he1 => ⟨by omega, by omega, fun hne => ⟨fun _ => says_false fun e => hne (by rw [e]), fun h0 => absurd h0 (by decide)⟩, fun he2 => ⟨by omega, by omega, ?_⟩⟩⟩, fun hge => says_true (ext_getD hl fun i hi => hq i (by omega))⟩
  have hm : (x.getD j ((0 : Int), ((0 : Int), ([] : List Int)))) ∈ x := by rw [getD_at (by omega : j < x.length)]; exact List.getElem_mem _
  refine (equalInts_tot (hk _ hm)).bind ?_
  rintro _ ⟨c, rfl, hc⟩
  simp only [tot_jn, tot_cond, tot_some, Bool.not_eq_true', Bool.not_eq_false']
  refine ⟨fun hf => says_false fun e => ?_, fun ht => ?_⟩
  · have := hc.2 (by rw [e])
    rw [hf] at this; cases this
  · rw [w64_succ (by omega) (by omega)]
    refine ih _ _ _ ⟨rfl, rfl, j + 1, rfl, by omega, fun q h => ?_⟩ (by simp; omega)
    by_cases e : q = j
    · subst e; exact Prod.ext he1 (Prod.ext he2 (hc.1 ht))
    · exact hq q (by omega)
end Go.Gx

/-
  Laws: machines are compared.
-/
set_option linter.unusedVariables false
set_option linter.unusedSimpArgs false
namespace Go.Gx
theorem equalMachine_tot {N N' : List PNode} {S S' M M' : List Int} {D D' : Bool} (h1 : N.length ≤ 900000000000) (h2 : ∀ n ∈ N, n.2.2.length ≤ 900000000000) (h3 : S.length ≤ 900000000000) (h4 : M.length ≤ 900000000000) :
    Tot (fun σ => F_l_equalMachine (σ 0) N S M D N' S' M' D') (Says (N = N' ∧ S = S' ∧ M = M' ∧ D = D')) := by
  refine tot_l_equalMachine ?_
  unfold B_l_equalMachine
  refine (equalNodes_tot h1 h2).bind ?_
  rintro _ ⟨a, rfl, ha⟩
  simp only [tot_cond, tot_some]
  refine ⟨fun ht => ?_, fun hf => says_false fun e => by rw [ha.2 e.1] at hf; cases hf⟩
  refine (equalInts_tot h3).bind ?_
  rintro _ ⟨b, rfl, hb⟩
  simp only [tot_cond, tot_some]
  refine ⟨fun ht2 => ?_, fun hf => says_false fun e => by rw [hb.2 e.2.1] at hf; cases hf⟩
  refine (equalInts_tot h4).bind ?_
  rintro _ ⟨c, rfl, hc⟩
  simp only [tot_cond, tot_some]
  refine ⟨fun ht3 => ⟨_, rfl, ?_⟩, fun hf => says_false fun e => by rw [hc.2 e.2.2.1] at hf; cases hf⟩
  rw [beq_iff_eq]
  exact ⟨fun e => ⟨ha.1 ht, hb.1 ht2, hc.1 ht3, e⟩, fun e => e.2.2.2⟩
end Go.Gx

/-
  The plain law of FnStepMachineTakes.
-/
set_option linter.unusedVariables false
set_option linter.unusedSimpArgs false
namespace Go.Gx
theorem p_l_FnStepMachineTakes (code : List Int) (hc : ∀ z ∈ code, 0 ≤ z ∧ z ≤ 255) : ∃ k, F_l_FnStepMachineTakes k code = some ((true, ()), ()) := by
  refine Tot.ex (F := fun k => F_l_FnStepMachineTakes k code) ?_
  refine tot_l_FnStepMachineTakes ?_
  unfold B_l_FnStepMachineTakes B_l_FnStepMachineTakes_J0
  simp only [tot_cond, tot_some, decide_eq_true_eq, decide_eq_false_iff_not, len]
  refine ⟨fun _ => trivial, fun hl => ?_⟩
  refine (DrawStepMachine_tot hc (by omega)).bind ?_
  rintro _ ⟨m, c, a, rfl, h1, h2, h3, h4⟩
  refine (i_StepMachine_tot (L := 300100000) (by omega) (by omega) h4 (by omega) (by omega) c a).bind fun r hr => ?_
  refine (s_StepMachine_tot (L := 300100000) (by omega) (by omega) h4 (by omega) (by omega) c a).bind fun r' hr' => ?_
  have e := hr.eq hr'
  subst e
  have hsz : r.1.1.1.length ≤ 900000000000 ∧ (∀ n ∈ r.1.1.1, n.2.2.length ≤ 900000000000) ∧ r.1.1.2.1.length ≤ 900000000000 ∧ r.1.1.2.2.1.length ≤ 900000000000 := by
    rcases hr with ⟨m', hv, hok, hs, e⟩ | ⟨_, e⟩
    · obtain ⟨i1, i2, i3⟩ := (hv.mi h4).step (by omega) (by omega) hok hs
      rw [e]
      exact ⟨by show m'.N.length ≤ _; omega, fun n hn => by have := i1.ni.ln n hn; omega, by show m'.S.length ≤ _; omega, by have := i1.sh.ml; show m'.M.length ≤ _; have : m'.M.length = 20 := this; omega⟩
    · rw [e]; exact ⟨by simp, fun n hn => absurd hn (by simp), by simp, by simp⟩
  refine (equalMachine_tot hsz.1 hsz.2.1 hsz.2.2.1 hsz.2.2.2).bind ?_
  rintro _ ⟨b, rfl, hb⟩
  have hb : b = true := hb.2 ⟨rfl, rfl, rfl, rfl⟩
  subst hb
  simp only [tot_cond, tot_jn, Bool.not_true, beq_self_eq_true, Bool.not_eq_true', Bool.not_eq_false']
  refine ⟨fun h0 => absurd h0 (by decide), fun _ => ⟨fun h0 => absurd h0 (by decide), fun _ => ⟨fun hf => ?_, fun ht => ?_⟩⟩⟩
  · refine (equalMachine_tot hsz.1 hsz.2.1 hsz.2.2.1 hsz.2.2.2).bind ?_
    rintro _ ⟨b, rfl, hb⟩
    have hb : b = true := hb.2 ⟨rfl, rfl, rfl, rfl⟩
    subst hb
    simp only [tot_cond, tot_some]
    exact ⟨fun _ => trivial, fun h0 => absurd h0 (by decide)⟩
  · obtain ⟨m', hv, hok, hs, e⟩ := hr.resolve_right fun h => by rw [h.2] at ht; exact absurd ht (by decide)
    subst e
    have hI := hv.mi h4
    obtain ⟨i1, i2, i3⟩ := hI.step (by omega) (by omega) hok hs
    have hcc := (okOp_val hok).1
    have hst := stepM_stk hcc hs
    refine (i_TakesOf_tot hcc).bind ?_
    rintro _ rfl
    have g1 : gvP c ≤ 1 := by unfold gvP; split <;> omega
    have g2 : tkP c ≤ 2 := by unfold tkP; split <;> (try split) <;> omega
    cases hmk : isMk c with
    | false =>
      obtain ⟨l, hl⟩ := hst.2 hmk
      have e : takesI c = (tkP c : Int) := by unfold takesI; rw [if_neg (by rw [hmk]; decide)]
      have hle := hl.le
      have hlen : m'.S.length + tkP c = m.S.length + gvP c := by
        rw [hl.eq, List.length_append, List.length_take, hl.ln]; omega
      have e1 : w64 ((m.S.length : Int) + gvP c) = (m.S.length : Int) + gvP c := w64_id (by omega) (by omega)
      have e2 : w64 ((m.S.length : Int) + gvP c - tkP c) = (m'.S.length : Int) := by rw [w64_id (by omega) (by omega)]; omega
      have e3 : w64 ((m.S.length : Int) - tkP c) = ((m.S.length - tkP c : Nat) : Int) := by rw [w64_id (by omega) (by omega)]; omega
      have ht : m'.S.take (m.S.length - tkP c) = m.S.take (m.S.length - tkP c) := by
        rw [hl.eq, List.take_append_of_le_length (by rw [List.length_take]; omega), List.take_take, Nat.min_self]
      simp only [e, e1, e2, e3, tot_cond, tot_chk, decide_eq_true_eq, decide_eq_false_iff_not, beq_self_eq_true, len, cutb_iff, Int.toNat_natCast, List.drop_zero, ht]
      refine ⟨fun _ => ⟨fun _ => ⟨by omega, by omega, ?_⟩, fun h0 => absurd h0 (by decide)⟩, fun h0 => by omega⟩
      refine (equalInts_tot (by rw [List.length_take]; omega)).bind ?_
      rintro _ ⟨b, rfl, hb⟩
      rw [hb.2 rfl, tot_some]
    | true =>
      obtain ⟨i, l, hl⟩ := hst.1 hmk
      have e : takesI c = -1 := by unfold takesI; rw [if_pos hmk]
      have hma := marks_at hl.ma
      have hmm := (stk_marks hst).1 hmk
      have hlen : m'.S.length = i + gvP c := by
        rw [hl.eq, List.length_append, List.length_take, hl.ln]; omega
      simp only [e, tot_cond, decide_eq_true_eq, decide_eq_false_iff_not]
      refine ⟨fun h0 => by omega, fun _ => ?_⟩
      have key := loop_l_FnStepMachineTakes_L2 (Q := fun _ _ _ _ _ _ _ _ _ _ _ r => r = ((true, ()), ()))
        (I := fun N S M D N' S' M' D' g k i => S = m.S ∧ S' = m'.S ∧ g = (gvP c : Int) ∧ ∃ j : Nat, i = (j : Int) ∧ j ≤ m.S.length ∧ k = (marksP (m.S.take j) : Int)) (μ := fun _ _ _ _ _ _ _ _ _ _ i => (m.S.length - i).toNat) ?_
      · exact key _ _ _ _ _ _ _ _ _ _ 0 ⟨rfl, rfl, rfl, 0, rfl, Nat.zero_le _, rfl⟩
      intro N S M D N' S' M' D' g k i' ⟨e1, e2, e3, j, e4, hj, e5⟩ again hag ih
      subst e1 e2 e3 e4 e5
      unfold B_l_FnStepMachineTakes_L2b B_l_FnStepMachineTakes_J1
      have hml := marksP_le (m.S.take j)
      rw [List.length_take] at hml
      simp only [tot_cond, tot_chk, tot_jn, decide_eq_true_eq, decide_eq_false_iff_not, inb_iff, Int.toNat_natCast, len]
      refine ⟨fun hlt => ⟨by omega, by omega, fun hn => ?_, fun hn => ?_⟩, fun hge => ?_⟩
      · rw [w64_id (z := (j : Int) + 1) (by omega) (by omega), w64_id (by omega) (by omega)]
        refine ih _ _ _ _ _ _ _ _ _ _ _ ⟨rfl, rfl, rfl, j + 1, by omega, by omega, ?_⟩ (by omega)
        rw [marksP_take (by omega), if_pos hn]; omega
      · rw [w64_id (z := (j : Int) + 1) (by omega) (by omega)]
        refine ih _ _ _ _ _ _ _ _ _ _ _ ⟨rfl, rfl, rfl, j + 1, by omega, by omega, ?_⟩ (by omega)
        rw [marksP_take (by omega), if_neg hn]; omega
      · have : j = m.S.length := by omega
        subst this
        rw [List.take_length]
        have key4 := loop_l_FnStepMachineTakes_L4 (Q := fun _ _ _ _ _ _ _ _ _ _ _ _ r => r = ((true, ()), ()))
          (I := fun N S M D N' S' M' D' g k q i => S = m.S ∧ S' = m'.S ∧ g = (gvP c : Int) ∧ k = (marksP m.S : Int) ∧ ∃ j : Nat, i = (j : Int) ∧ j ≤ m'.S.length ∧ q = (marksP (m'.S.take j) : Int)) (μ := fun _ _ _ _ _ _ _ _ _ _ _ i => (m'.S.length - i).toNat) ?_
        · exact key4 _ _ _ _ _ _ _ _ _ _ _ 0 ⟨rfl, rfl, rfl, rfl, 0, rfl, Nat.zero_le _, rfl⟩
        intro N S M D N' S' M' D' g k q i' ⟨e1, e2, e3, e4, j, e5, hj, e6⟩ again4 hag4 ih4
        subst e1 e2 e3 e4 e5 e6
        unfold B_l_FnStepMachineTakes_L4b B_l_FnStepMachineTakes_J3
        have hml := marksP_le (m'.S.take j)
        rw [List.length_take] at hml
        have hml2 := marksP_le m.S
        simp only [tot_cond, tot_chk, tot_jn, tot_some, decide_eq_true_eq, decide_eq_false_iff_not, inb_iff, Int.toNat_natCast, len]
        refine ⟨fun hlt => ⟨by omega, by omega, fun hn => ?_, fun hn => ?_⟩, fun hge => ?_⟩
        · rw [w64_id (z := (j : Int) + 1) (by omega) (by omega), w64_id (by omega) (by omega)]
          refine ih4 _ _ _ _ _ _ _ _ _ _ _ _ ⟨rfl, rfl, rfl, rfl, j + 1, by omega, by omega, ?_⟩ (by omega)
          rw [marksP_take (by omega), if_pos hn]; omega
        · rw [w64_id (z := (j : Int) + 1) (by omega) (by omega)]
          refine ih4 _ _ _ _ _ _ _ _ _ _ _ _ ⟨rfl, rfl, rfl, rfl, j + 1, by omega, by omega, ?_⟩ (by omega)
          rw [marksP_take (by omega), if_neg hn]; omega
        · have : j = m'.S.length := by omega
          subst this
          rw [List.take_length, w64_id (z := (marksP m.S : Int) - 1) (by omega) (by omega), w64_id (by omega) (by omega), beq_iff_eq]
          have hd : decide ((m'.S.length : Int) < (m.S.length : Int) + (gvP c : Int)) = true := decide_eq_true (by omega)
          rw [hd]
          exact ⟨fun _ => rfl, fun h0 => absurd (by omega) (beq_eq_false_iff_ne.1 h0)⟩
end Go.Gx

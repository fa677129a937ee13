/-
  Laws, part 4: programs: which are valid, what the shapes are after them, how they are ended.
-/
import Derived.Test.YtpcnmlpikiigaaaXL3
set_option linter.unusedVariables false
set_option linter.unusedSimpArgs false
namespace Go.Gx
abbrev POp : Type := Int × Int
def argP (c : Int) : Int := if c = 0 then 999 else if c = 1 ∨ c = 13 then 9 else if c = 15 ∨ c = 16 then 19 else -1
def mostP (c : Int) : Int := if c = 0 then 999 else if c = 1 ∨ c = 13 then 9 else if c = 15 ∨ c = 16 then 19 else 0
def okOp (o : POp) : Bool := decide (0 ≤ o.1 ∧ o.1 ≤ 19 ∧ 0 ≤ o.2 ∧ o.2 ≤ mostP o.1)
def okOps (ops : List POp) : Bool := ops.all okOp && decide (ops.length ≤ 300)
def newSh : Sh := ⟨[], [], [], List.replicate 20 (-1), false⟩
def runFrom (s : Sh) : List POp → Nat → Sh × Nat
  | [], n => (s, n)
  | o :: r, n => match stepP s o.1 o.2 with
    | none => (s, n)
    | some s' => runFrom s' r (n + 1)
def runP (ops : List POp) : Sh × Nat := runFrom newSh ops 0
theorem newSh_inv : ShI newSh := ⟨rfl, fun x hx => by simp [newSh] at hx, by simp [newSh], fun x hx => by
  simp only [newSh, List.mem_replicate] at hx
  rw [hx.2]
  simp [newSh], by simp [newSh], by simp [newSh]⟩
theorem argOf_tot (c : Int) : Tot (fun σ => F_s_argOf (σ 0) c) (fun r => r = ((argP c, ()), ())) := by
  refine tot_s_argOf ?_
  unfold B_s_argOf B_s_argOf_J0 argP
  simp only [tot_cond, tot_jn, tot_some, beq_iff_eq, beq_eq_false_iff_ne, ne_eq]
  refine ⟨fun h => by simp [h], fun h0 => ⟨fun h => by simp [h], fun h1 => ⟨fun h => by simp [h], fun h13 => ⟨fun h => ⟨fun _ => by simp [h], fun h' => absurd h h'⟩, fun h15 => ⟨fun h => by simp [h], fun h16 => by simp [h0, h1, h13, h15, h16]⟩⟩⟩⟩⟩
theorem inRange_tot (n lo hi : Int) : Tot (fun σ => F_s_inRange (σ 0) n lo hi) (fun r => r = ((decide (lo ≤ n ∧ n ≤ hi), ()), ())) := by
  refine tot_s_inRange ?_
  unfold B_s_inRange
  simp only [tot_cond, tot_some, decide_eq_true_eq, decide_eq_false_iff_not]
  exact ⟨fun h => by simp [h], fun h => by simp [h]⟩
theorem arg_most (c : Int) : (argP c < 0 ∧ mostP c = 0) ∨ (0 ≤ argP c ∧ argP c = mostP c) := by
  unfold argP mostP
  split
  · right; omega
  split
  · right; omega
  split
  · right; omega
  · left; omega
theorem validOp_tot (c a : Int) : Tot (fun σ => F_s_validOp (σ 0) c a) (fun r => r = ((okOp (c, a), ()), ())) := by
  refine tot_s_validOp ?_
  unfold B_s_validOp
  refine (argOf_tot c).bind ?_
  rintro _ rfl
  refine (inRange_tot c 0 19).bind ?_
  rintro _ rfl
  have key : ∀ b : Bool, (b = true ↔ 0 ≤ c ∧ c ≤ 19 ∧ 0 ≤ a ∧ a ≤ mostP c) → ((b, ()), ()) = ((okOp (c, a), ()), ()) := by
    intro b hb
    have : b = okOp (c, a) := by
      rw [Bool.eq_iff_iff, hb]; simp [okOp]
    rw [this]
  have am := arg_most c
  simp only [tot_cond, tot_some, decide_eq_true_eq, decide_eq_false_iff_not, beq_iff_eq, beq_eq_false_iff_ne, ne_eq]
  refine ⟨fun hc => ⟨fun hn => ⟨fun h0 => key _ (by simp; omega), fun h0 => ⟨fun hp => by omega, fun _ => key _ (by simp; omega)⟩⟩, fun hn => ⟨fun hp => ?_, fun h0 => by omega⟩⟩, fun hc => key _ (by simp; omega)⟩
  refine (inRange_tot a 0 (argP c)).bind ?_
  rintro _ rfl
  rw [tot_some]
  exact key _ (by simp only [decide_eq_true_eq]; omega)
theorem validOps_tot {ops : List POp} (hl : ops.length ≤ 900000000000) : Tot (fun σ => F_s_validOps (σ 0) ops) (fun r => r = ((okOps ops, ()), ())) := by
  refine tot_s_validOps ?_
  unfold B_s_validOps
  have key := loop_s_validOps_L0 (Q := fun ops' i r => r = ((okOps ops, ()), ())) (I := fun ops' i => ops' = ops ∧ ∃ n : Nat, i = n ∧ n ≤ ops.length ∧ ops.all okOp = (ops.drop n).all okOp) (μ := fun _ i => (ops.length - i).toNat) ?_
  · exact key ops 0 ⟨rfl, 0, rfl, by omega, rfl⟩
  intro ops' i ⟨ho, n, hi, hn, hall⟩ again hag ih
  subst ho hi
  unfold B_s_validOps_L0b
  simp only [tot_cond, tot_chk, tot_some, decide_eq_true_eq, decide_eq_false_iff_not, len, inb_iff]
  refine ⟨fun hlt => ⟨by omega, ?_⟩, fun hge => ?_⟩
  · have hn' : n < ops'.length := by omega
    have hd : ops'.drop n = rdx ((0 : Int), (0 : Int)) ops' n :: ops'.drop (n + 1) := by
      rw [rdx_eq, List.drop_eq_getElem_cons hn', List.getD_eq_getElem?_getD, Int.toNat_natCast, List.getElem?_eq_getElem hn']; rfl
    refine (validOp_tot _ _).bind ?_
    rintro _ rfl
    simp only [tot_cond, tot_some, Bool.not_eq_true', Bool.not_eq_false']
    refine ⟨fun hb => ?_, fun hb => ?_⟩
    · have : ops'.all okOp = false := by rw [hall, hd, List.all_cons, hb]; rfl
      simp [okOps, this]
    · rw [show w64 ((n : Int) + 1) = ((n + 1 : Nat) : Int) by rw [w64_id (by omega) (by omega)]; omega]
      exact ih _ _ ⟨rfl, n + 1, rfl, by omega, by rw [hall, hd, List.all_cons, hb, Bool.true_and]⟩ (by omega)
  · have : ops'.all okOp = true := by rw [hall, List.drop_eq_nil_of_le (by omega)]; rfl
    simp [okOps, this]
    omega
theorem newShapes_tot : Tot (fun σ => F_s_newShapes (σ 0)) (fun r => r = ((((), (), (), List.replicate 20 (-1), false, ()), ()), ())) := by
  refine tot_s_newShapes ?_
  unfold B_s_newShapes
  have key := loop_s_newShapes_L0 (Q := fun _ _ _ _ r => r = ((((), (), (), List.replicate 20 (-1), false, ()), ()), ())) (I := fun _ m d i => d = false ∧ ∃ n : Nat, i = n ∧ n ≤ 20 ∧ m = List.replicate n (-1)) (μ := fun _ _ _ i => (20 - i).toNat) ?_
  · exact key false [] false 0 ⟨rfl, 0, rfl, by omega, rfl⟩
  intro t0 m d i ⟨hd, n, hi, hn, hm⟩ again hag ih
  subst hd hi hm
  unfold B_s_newShapes_L0b
  simp only [tot_cond, tot_chk, tot_some, decide_eq_true_eq, decide_eq_false_iff_not, room_iff, List.length_replicate, List.length_cons, List.length_nil]
  refine ⟨fun hlt => ⟨by omega, ?_⟩, fun hge => ?_⟩
  · rw [show w64 ((n : Int) + 1) = ((n + 1 : Nat) : Int) by rw [w64_id (by omega) (by omega)]; omega]
    exact ih _ _ _ _ ⟨rfl, n + 1, rfl, by omega, by rw [List.replicate_succ']⟩ (by omega)
  · have : n = 20 := by omega
    subst this
    rfl
theorem okOp_arg {o : POp} (h : okOp o = true) : o.1 = 15 ∨ o.1 = 16 → 0 ≤ o.2 ∧ o.2 < 20 := by
  simp only [okOp, decide_eq_true_eq] at h
  rintro (e | e) <;> · rw [e] at h; simp only [mostP] at h; omega
theorem runShapes_tot {ops : List POp} (hl : ops.length ≤ 900000000000) (hok : ops.all okOp = true) : Tot (fun σ => F_s_runShapes (σ 0) ops) (fun r => r = (((runP ops).1.dat, ((runP ops).2 : Int), ()), ()) ∧ ShI (runP ops).1 ∧ (runP ops).1.K.length ≤ 300 ∧ (runP ops).1.S.length ≤ 300 ∧ (runP ops).2 ≤ ops.length) := by
  refine tot_s_runShapes ?_
  unfold B_s_runShapes
  refine newShapes_tot.bind ?_
  rintro _ rfl
  have key := loop_s_runShapes_L0 (Q := fun _ _ _ _ _ _ _ _ r => r = (((runP ops).1.dat, ((runP ops).2 : Int), ()), ()) ∧ ShI (runP ops).1 ∧ (runP ops).1.K.length ≤ 300 ∧ (runP ops).1.S.length ≤ 300 ∧ (runP ops).2 ≤ ops.length)
    (I := fun ops' _ K Fu S M D i => ops' = ops ∧ ∃ n : Nat, i = n ∧ n ≤ ops.length ∧ ShI ⟨K, Fu, S, M, D⟩ ∧ K.length ≤ 300 ∧ S.length ≤ 300 ∧ runP ops = runFrom ⟨K, Fu, S, M, D⟩ (ops.drop n) n) (μ := fun _ _ _ _ _ _ _ i => (ops.length - i).toNat) ?_
  · exact key ops false [] [] [] _ false 0 ⟨rfl, 0, rfl, by omega, newSh_inv, by simp, by simp, rfl⟩
  intro ops' t2 K Fu S M D i ⟨ho, n, hi, hn, hs, hk, hS, hr⟩ again hag ih
  subst ho hi
  unfold B_s_runShapes_L0b
  simp only [tot_cond, tot_chk, tot_some, decide_eq_true_eq, decide_eq_false_iff_not, len, inb_iff]
  refine ⟨fun hlt => ?_, fun hge => ?_⟩
  · have hn' : n < ops'.length := by omega
    have hd : ops'.drop n = rdx ((0 : Int), (0 : Int)) ops' n :: ops'.drop (n + 1) := by
      rw [rdx_eq, List.drop_eq_getElem_cons hn', List.getD_eq_getElem?_getD, Int.toNat_natCast, List.getElem?_eq_getElem hn']; rfl
    have hoo : okOp (rdx ((0 : Int), (0 : Int)) ops' n) = true := List.all_eq_true.1 hok _ (rdx_mem (by omega) (by omega))
    refine (copyShapes_tot hs).bind ?_
    rintro _ rfl
    rw [tot_chk]
    refine ⟨inb_iff.2 (by omega), (stepShapes_tot hs (by show K.length ≤ _; omega) (by show S.length ≤ _; omega) _ _ (okOp_arg hoo)).bind fun r hr' => ?_⟩
    rw [hd, runFrom] at hr
    cases hst : stepP ⟨K, Fu, S, M, D⟩ (rdx ((0 : Int), (0 : Int)) ops' n).1 (rdx ((0 : Int), (0 : Int)) ops' n).2 with
    | none =>
      rw [hst] at hr hr'
      have hr' : r.1.2.1 = false := hr'
      simp only [tot_cond, tot_some, hr', Bool.not_false]
      exact ⟨fun _ => by rw [hr]; exact ⟨rfl, hs, hk, hS, hn⟩, fun h0 => absurd h0 (by decide)⟩
    | some s' =>
      rw [hst] at hr hr'
      have hr' : r = ((s'.dat, true, ()), ()) := hr'
      subst hr'
      have hinv := stepP_inv hs (by show K.length ≤ _; omega) (by show S.length ≤ _; omega) (okOp_arg hoo) hst
      simp only [tot_cond, tot_some, Bool.not_true]
      refine ⟨fun h0 => absurd h0 (by decide), fun _ => ?_⟩
      rw [show w64 ((n : Int) + 1) = ((n + 1 : Nat) : Int) by rw [w64_id (by omega) (by omega)]; omega]
      exact ih _ _ _ _ _ _ _ _ ⟨rfl, n + 1, rfl, by omega, hinv.1, hinv.2.1, hinv.2.2, hr⟩ (by omega)
  · have hn' : n = ops'.length := by omega
    rw [hr, hn', List.drop_length, runFrom]
    subst hn'
    exact ⟨rfl, hs, hk, hS, Nat.le_refl _⟩
end Go.Gx

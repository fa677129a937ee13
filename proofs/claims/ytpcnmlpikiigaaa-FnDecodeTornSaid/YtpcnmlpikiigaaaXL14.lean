/-
  Laws, part 14: bytes are read.
-/
import Derived.Test.YtpcnmlpikiigaaaXL13
set_option linter.unusedVariables false
set_option linter.unusedSimpArgs false
namespace Go.Gx
def okByte (z : Int) : Prop := 0 ≤ z ∧ z ≤ 255
def headP : List Int → Option (POp × Nat)
  | [] => none
  | c :: r => if 0 ≤ argP c then (match r with
      | [] => none
      | a :: r2 => if a < 128 then (if okOp (c, a) = true then some ((c, a), 2) else none) else (match r2 with
        | [] => none
        | b :: _ => if b = 0 then none else if okOp (c, a - 128 + 128 * b) = true then some ((c, a - 128 + 128 * b), 3) else none))
    else if okOp (c, 0) = true then some ((c, 0), 1) else none
def decP : Nat → List Int → List POp × Nat
  | 0, _ => ([], 0)
  | k + 1, l => match headP l with
    | none => ([], 0)
    | some (o, n) => (o :: (decP k (l.drop n)).1, n + (decP k (l.drop n)).2)
theorem headP_spec {l : List Int} {o : POp} {n : Nat} (hb : ∀ z ∈ l, okByte z) (h : headP l = some (o, n)) : okOp o = true ∧ bytesP o = l.take n ∧ 1 ≤ n ∧ n ≤ l.length ∧ n ≤ 3 := by
  cases l with
  | nil => simp [headP] at h
  | cons c r =>
    simp only [headP] at h
    split at h
    · rename_i hc
      cases r with
      | nil => simp at h
      | cons a r2 =>
        simp only at h
        have ha := hb a (by simp)
        split at h
        · rename_i h128
          split at h
          · rename_i hok
            cases h
            exact ⟨hok, by simp only [bytesP]; rw [if_neg (by omega), if_pos h128]; rfl, by omega, by simp, by omega⟩
          · cases h
        · rename_i h128
          cases r2 with
          | nil => simp at h
          | cons b r3 =>
            simp only at h
            have hbb := hb b (by simp)
            unfold okByte at ha hbb
            split at h
            · cases h
            · rename_i hb0
              split at h
              · rename_i hok
                cases h
                refine ⟨hok, ?_, by omega, by simp, by omega⟩
                simp only [bytesP]
                rw [if_neg (by omega), if_neg (by omega), show 128 + (a - 128 + 128 * b) % 128 = a by omega, show (a - 128 + 128 * b) / 128 = b by omega]
                rfl
              · cases h
    · rename_i hc
      split at h
      · rename_i hok
        cases h
        exact ⟨hok, by simp only [bytesP]; rw [if_pos (by omega)]; rfl, by omega, by simp, by omega⟩
      · cases h
theorem decP_spec : ∀ (k : Nat) {l : List Int}, (∀ z ∈ l, okByte z) → (decP k l).1.all okOp = true ∧ (decP k l).1.length ≤ k ∧ (decP k l).1.flatMap bytesP = l.take (decP k l).2 ∧ (decP k l).2 ≤ l.length
  | 0, l, _ => by simp [decP]
  | k + 1, l, hb => by
    unfold decP
    cases hh : headP l with
    | none => simp
    | some x =>
      obtain ⟨o, n⟩ := x
      obtain ⟨h1, h2, h3, h4, h5⟩ := headP_spec hb hh
      obtain ⟨i1, i2, i3, i4⟩ := decP_spec k (l := l.drop n) (fun z hz => hb z (List.mem_of_mem_drop hz))
      simp only
      refine ⟨by simp [h1, i1], by simp; exact i2, ?_, by simp only [List.length_drop] at i4; omega⟩
      rw [List.flatMap_cons, h2, i3, List.take_add]
/-! ### The spec's reader -/
theorem readOp_tot {l : List Int} (hb : ∀ z ∈ l, okByte z) (hl : l.length ≤ 1000000) : Tot (fun σ => F_s_readOp (σ 0) l) (fun r => match headP l with
    | none => r.1.2.1 = 0
    | some (o, n) => r = (((o.1, o.2, ()), (n : Int), ()), ())) := by
  refine tot_s_readOp ?_
  unfold B_s_readOp
  have j0 : ∀ (c a : Int) (n : Nat), (okOp (c, a) = true → (bytesP (c, a)).length = n ∨ (bytesP (c, a)).length ≠ n) → Tot (fun σ => B_s_readOp_J0 (σ 0) (F_s_argOf (σ 0)) (F_s_validOp (σ 0)) (F_s_bytesOf (σ 0)) 0 0 c a n)
      (fun r => if okOp (c, a) = true ∧ (bytesP (c, a)).length = n then r = (((c, a, ()), (n : Int), ()), ()) else r.1.2.1 = 0) := by
    intro c a n _
    unfold B_s_readOp_J0 B_s_readOp_J1
    refine (validOp_tot c a).bind ?_
    rintro _ rfl
    simp only [tot_cond, tot_jn, tot_some, Bool.not_eq_true', Bool.not_eq_false']
    refine ⟨fun h => ⟨fun _ => ?_, fun h => absurd h (by decide)⟩, fun h => ?_⟩
    · rw [if_neg (by simp [h])]; trivial
    · refine (bytesOf_tot (o := (c, a)) h).bind ?_
      rintro _ rfl
      simp only [tot_cond, tot_jn, tot_some, len, bne_iff_ne, ne_eq, bne_eq_false_iff_eq]
      refine ⟨fun hne => ?_, fun he => ?_⟩
      · rw [if_neg (fun hc => hne (by rw [hc.2]))]; trivial
      · rw [if_pos ⟨h, by omega⟩]; trivial
  cases l with
  | nil => simp only [tot_cond, tot_some]; exact ⟨fun _ => trivial, fun h => absurd h (by decide)⟩
  | cons c r =>
    rw [tot_cond]
    refine ⟨fun h => by simp [len] at h; omega, fun _ => ?_⟩
    rw [tot_chk]
    refine ⟨inb_iff.2 (by simp only [List.length_cons]; omega), ?_⟩
    refine (argOf_tot _).bind ?_
    rintro _ rfl
    have e0 : rdx (0 : Int) (c :: r) 0 = c := rfl
    simp only [e0, headP]
    simp only [tot_cond, decide_eq_true_eq, decide_eq_false_iff_not]
    refine ⟨fun hc => ?_, fun hc => ?_⟩
    · rw [if_pos (show 0 ≤ argP c from hc)]
      cases r with
      | nil => exact ⟨fun _ => by rw [tot_some], fun h => absurd h (by simp [len])⟩
      | cons a r2 =>
        have e1 : rdx (0 : Int) (c :: a :: r2) 1 = a := rfl
        have ha := hb a (by simp)
        unfold okByte at ha
        refine ⟨fun h => by simp [len] at h; omega, fun _ => ?_⟩
        simp only [tot_chk, e1, tot_cond, decide_eq_true_eq, decide_eq_false_iff_not]
        refine ⟨inb_iff.2 (by simp; omega), inb_iff.2 (by simp; omega), fun h128 => ?_, fun h128 => ?_⟩
        · rw [if_neg (by omega)]
          cases r2 with
          | nil => exact ⟨fun _ => by rw [tot_some], fun h => absurd h (by simp [len])⟩
          | cons b r3 =>
            have e2 : rdx (0 : Int) (c :: a :: b :: r3) 2 = b := rfl
            have hbb := hb b (by simp)
            unfold okByte at hbb
            refine ⟨fun h => by simp [len] at h; omega, fun _ => ?_⟩
            rw [e2, w64_id (z := a - 128) (by omega) (by omega), w64_id (z := 128 * b) (by omega) (by omega), w64_id (by omega) (by omega)]
            refine ⟨inb_iff.2 (by simp; omega), inb_iff.2 (by simp; omega), ?_⟩
            rw [tot_jn]
            refine (j0 c (a - 128 + 128 * b) 3 (fun _ => Classical.em _)).mono fun q hq => ?_
            simp only
            by_cases hb0 : b = 0
            · rw [if_pos hb0]
              rw [if_neg] at hq
              · exact hq
              · rintro ⟨_, h3⟩
                simp only [bytesP] at h3
                rw [if_neg (by omega), if_pos (by omega)] at h3
                simp at h3
            · rw [if_neg hb0]
              by_cases hok : okOp (c, a - 128 + 128 * b) = true
              · rw [if_pos hok]
                rw [if_pos ⟨hok, by simp only [bytesP]; rw [if_neg (by omega), if_neg (by omega)]; rfl⟩] at hq
                exact hq
              · rw [if_neg hok]
                rw [if_neg (fun h => hok h.1)] at hq
                exact hq
        · rw [if_pos (by omega)]
          rw [tot_jn]
          refine (j0 c a 2 (fun _ => Classical.em _)).mono fun q hq => ?_
          by_cases hok : okOp (c, a) = true
          · rw [if_pos hok]
            rw [if_pos ⟨hok, by simp only [bytesP]; rw [if_neg (by omega), if_pos (by omega)]; rfl⟩] at hq
            exact hq
          · rw [if_neg hok]
            rw [if_neg (fun h => hok h.1)] at hq
            exact hq
    · rw [if_neg (show ¬ 0 ≤ argP c from hc), tot_jn]
      refine (j0 c 0 1 (fun _ => Classical.em _)).mono fun q hq => ?_
      by_cases hok : okOp (c, 0) = true
      · rw [if_pos hok]
        rw [if_pos ⟨hok, by simp only [bytesP]; rw [if_pos (show argP c < 0 by have : ¬ 0 ≤ argP c := hc; omega)]; rfl⟩] at hq
        exact hq
      · rw [if_neg hok]
        rw [if_neg (fun h => hok h.1)] at hq
        exact hq
theorem readOps_tot {l : List Int} (hb : ∀ z ∈ l, okByte z) (hl : l.length ≤ 1000000) : Tot (fun σ => F_s_readOps (σ 0) l) (fun r => r = (((decP 300 l).1, ((decP 300 l).2 : Int), ()), ())) := by
  refine tot_s_readOps ?_
  unfold B_s_readOps
  have key := loop_s_readOps_L0 (Q := fun _ _ _ r => r = (((decP 300 l).1, ((decP 300 l).2 : Int), ()), ())) (I := fun l' out at5 => l' = l ∧ ∃ j : Nat, at5 = j ∧ j ≤ l.length ∧ out.length ≤ 300 ∧ (decP 300 l).1 = out ++ (decP (300 - out.length) (l.drop j)).1 ∧ (decP 300 l).2 = j + (decP (300 - out.length) (l.drop j)).2)
    (μ := fun _ out _ => 300 - out.length) ?_
  · exact key l [] 0 ⟨rfl, 0, rfl, by omega, by simp, by simp, by simp⟩
  intro l' out at5 ⟨e1, j, e2, hj, ho, hd1, hd2⟩ again hag ih
  subst e1 e2
  unfold B_s_readOps_L0b
  have fin : decP (300 - out.length) (l'.drop j) = ([], 0) → ((out, (j : Int), ()), ()) = (((decP 300 l').1, ((decP 300 l').2 : Int), ()), ()) := by
    intro h; rw [hd1, hd2, h]; simp
  simp only [tot_cond, tot_chk, tot_some, decide_eq_true_eq, decide_eq_false_iff_not, len, cutb_iff]
  refine ⟨fun hlt => ⟨by omega, ?_⟩, fun hge => fin (by rw [show 300 - out.length = 0 by omega]; rfl)⟩
  have hs : sub l' (j : Int) (l'.length : Int) = l'.drop j := by simp [sub]
  rw [hs]
  refine (readOp_tot (fun z hz => hb z (List.mem_of_mem_drop hz)) (by simp only [List.length_drop]; omega)).bind fun r hr => ?_
  obtain ⟨k, hk⟩ : ∃ k, 300 - out.length = k + 1 := ⟨300 - out.length - 1, by omega⟩
  have hdk : decP (k + 1) (l'.drop j) = match headP (l'.drop j) with
      | none => ([], 0)
      | some (o, n) => (o :: (decP k ((l'.drop j).drop n)).1, n + (decP k ((l'.drop j).drop n)).2) := rfl
  rw [hk, hdk] at hd1 hd2 fin
  cases hh : headP (l'.drop j) with
  | none =>
    rw [hh] at hr fin
    have hr : r.1.2.1 = 0 := hr
    rw [tot_cond]
    simp only [hr]
    exact ⟨fun _ => by rw [tot_some]; exact fin rfl, fun h => absurd h (by decide)⟩
  | some x =>
    obtain ⟨o, n⟩ := x
    rw [hh] at hr hd1 hd2
    have hr : r = (((o.1, o.2, ()), (n : Int), ()), ()) := hr
    subst hr
    obtain ⟨h1, h2, h3, h4, h5⟩ := headP_spec (fun z hz => hb z (List.mem_of_mem_drop hz)) hh
    simp only [List.length_drop] at h4
    simp only [tot_cond, tot_chk, beq_iff_eq, beq_eq_false_iff_ne, ne_eq]
    refine ⟨fun h => by omega, fun _ => ⟨room_iff.2 (by simp only [List.length_cons, List.length_nil]; omega), ?_⟩⟩
    rw [show w64 ((j : Int) + (n : Int)) = ((j + n : Nat) : Int) by rw [w64_id (by omega) (by omega)]; omega]
    refine ih _ _ _ ⟨rfl, j + n, rfl, by omega, by simp only [List.length_append, List.length_cons, List.length_nil]; omega, ?_, ?_⟩ (by simp only [List.length_append, List.length_cons, List.length_nil]; omega)
    · simp only [List.length_append, List.length_cons, List.length_nil]
      rw [hd1, show 300 - (out.length + (0 + 1)) = k by omega]
      simp only [List.drop_drop, List.append_assoc, List.singleton_append]
    · simp only [List.length_append, List.length_cons, List.length_nil]
      rw [hd2, show 300 - (out.length + (0 + 1)) = k by omega]
      simp only [List.drop_drop]; omega
end Go.Gx

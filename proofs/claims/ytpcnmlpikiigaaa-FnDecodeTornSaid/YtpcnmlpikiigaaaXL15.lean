/-
  Laws, part 15: the program reads and writes bytes as the spec does.
-/
import Derived.Test.YtpcnmlpikiigaaaXL14
set_option linter.unusedVariables false
set_option linter.unusedSimpArgs false
namespace Go.Gx
theorem i_mostArg_tot (c : Int) : Tot (fun σ => F_i_mostArg (σ 0) c) (fun r => r = ((mostP c, ()), ())) := by
  refine tot_i_mostArg ?_
  unfold B_i_mostArg B_i_mostArg_J0 mostP
  simp only [tot_cond, tot_jn, tot_some, beq_iff_eq, beq_eq_false_iff_ne, ne_eq]
  refine ⟨fun h => by simp [h], fun h0 => ⟨fun h => by simp [h], fun h1 => ⟨fun h => by simp [h], fun h13 => ⟨fun h => ⟨fun _ => by simp [h], fun h' => absurd h h'⟩, fun h15 => ⟨fun h => by simp [h], fun h16 => by simp [h0, h1, h13, h15, h16]⟩⟩⟩⟩⟩
theorem i_opOk_tot (c a : Int) : Tot (fun σ => F_i_opOk (σ 0) c a) (fun r => r = ((okOp (c, a), ()), ())) := by
  refine tot_i_opOk ?_
  unfold B_i_opOk
  have key : ∀ b : Bool, (b = true ↔ 0 ≤ c ∧ c ≤ 19 ∧ 0 ≤ a ∧ a ≤ mostP c) → ((b, ()), ()) = ((okOp (c, a), ()), ()) := by
    intro b hb
    have : b = okOp (c, a) := by
      rw [Bool.eq_iff_iff, hb]; simp [okOp]
    rw [this]
  simp only [tot_cond, tot_some, decide_eq_true_eq, decide_eq_false_iff_not]
  refine ⟨fun h1 => ⟨fun h2 => ⟨fun h3 => ?_, fun h3 => key _ (by simp; omega)⟩, fun h2 => key _ (by simp; omega)⟩, fun h1 => key _ (by simp; omega)⟩
  refine (i_mostArg_tot c).bind ?_
  rintro _ rfl
  rw [tot_some]
  exact key _ (by simp only [decide_eq_true_eq]; omega)
def okBytes (most : Nat) (l : List Int) : Prop := l.length ≤ most ∧ ∀ z ∈ l, okByte z
theorem i_IndexFunc_tot {l : List Int} (hl : l.length ≤ 900000000000) : Tot (fun σ => F_slices_IndexFunc_int_int__i_bytesOk_1 (σ 0) l) (fun r => ∃ v : Int, r = ((v, ()), ()) ∧ (0 ≤ v ↔ ¬ ∀ z ∈ l, okByte z)) := by
  refine tot_slices_IndexFunc_int_int__i_bytesOk_1 ?_
  unfold B_slices_IndexFunc_int_int__i_bytesOk_1
  have key := loop_slices_IndexFunc_int_int__i_bytesOk_1_L0 (Q := fun _ _ _ r => ∃ v : Int, r = ((v, ()), ()) ∧ (0 ≤ v ↔ ¬ ∀ z ∈ l, okByte z)) (I := fun s n i => s = l ∧ n = l.length ∧ ∃ j : Nat, i = j ∧ j ≤ l.length ∧ ∀ q, q < j → okByte (l.getD q 0)) (μ := fun _ _ i => (l.length - i).toNat) ?_
  · exact key l _ 0 ⟨rfl, rfl, 0, rfl, by omega, fun q hq => by omega⟩
  intro s n i ⟨e1, e2, j, e3, hj, hq⟩ again hag ih
  subst e1 e2 e3
  unfold B_slices_IndexFunc_int_int__i_bytesOk_1_L0b
  simp only [tot_cond, tot_chk, tot_some, decide_eq_true_eq, decide_eq_false_iff_not, inb_iff]
  refine ⟨fun hlt => ⟨by omega, ?_⟩, fun hge => ⟨_, rfl, ⟨fun h => by omega, fun h => ?_⟩⟩⟩
  · have hm : rdx (0 : Int) s (j : Int) ∈ s := rdx_mem (by omega) hlt
    have cl : Tot (fun σ => F_i_bytesOk_1 (σ 0) (rdx (0 : Int) s (j : Int))) (fun r => ∃ b, r = ((b, ()), ()) ∧ (b = true ↔ ¬ okByte (rdx (0 : Int) s (j : Int)))) := by
      refine tot_i_bytesOk_1 ?_
      unfold B_i_bytesOk_1 okByte
      simp only [tot_cond, tot_some, decide_eq_true_eq, decide_eq_false_iff_not]
      exact ⟨fun h => ⟨_, rfl, by simp; omega⟩, fun h => ⟨_, rfl, by simp; omega⟩⟩
    refine cl.bind ?_
    rintro _ ⟨b, rfl, hb⟩
    simp only [tot_cond, tot_some]
    refine ⟨fun ht => ⟨_, rfl, ⟨fun _ h => hb.1 ht (h _ hm), fun _ => by omega⟩⟩, fun hf => ?_⟩
    rw [w64_succ (by omega) (by omega)]
    refine ih _ _ _ ⟨rfl, rfl, j + 1, rfl, by omega, fun q h => ?_⟩ (by simp; omega)
    by_cases e : q = j
    · subst e
      have hn : ¬ ¬ okByte (rdx (0 : Int) s (q : Int)) := fun h => by rw [hb.2 h] at hf; cases hf
      have := Classical.not_not.1 hn
      rwa [rdx_eq, Int.toNat_natCast] at this
    · exact hq q (by omega)
  · refine absurd (fun z hz => ?_) h
    obtain ⟨i, hi, e⟩ := List.getElem_of_mem hz
    have := hq i (by omega)
    rwa [List.getD_eq_getElem?_getD, List.getElem?_eq_getElem hi, Option.getD_some, e] at this
theorem i_bytesOk_tot {l : List Int} (hl : l.length ≤ 900000000000) (most : Nat) : Tot (fun σ => F_i_bytesOk (σ 0) l most) (Says (okBytes most l)) := by
  refine tot_i_bytesOk ?_
  unfold B_i_bytesOk
  simp only [tot_cond, tot_some, decide_eq_true_eq, decide_eq_false_iff_not, len]
  refine ⟨fun h => ?_, fun h => says_false fun hc => by have := hc.1; omega⟩
  refine (Tot.mono (Q' := fun r => ∃ b, r = ((b, ()), ()) ∧ (b = true ↔ ¬ ∀ z ∈ l, okByte z)) (tot_slices_ContainsFunc_int_int__i_bytesOk_1 (Q := fun r => ∃ b, r = ((b, ()), ()) ∧ (b = true ↔ ¬ ∀ z ∈ l, okByte z)) ?_) fun _ h => h).bind ?_
  · unfold B_slices_ContainsFunc_int_int__i_bytesOk_1
    refine (i_IndexFunc_tot hl).bind ?_
    rintro _ ⟨v, rfl, hv⟩
    rw [tot_some]
    exact ⟨_, rfl, by simp only [decide_eq_true_eq]; exact hv⟩
  · rintro _ ⟨b, rfl, hb⟩
    rw [tot_some]
    refine says_iff ?_
    rw [Bool.not_eq_true']
    constructor
    · intro hf
      refine ⟨by omega, Classical.not_not.1 fun h => ?_⟩
      rw [hb.2 h] at hf; cases hf
    · intro h
      cases b with
      | false => rfl
      | true => exact absurd h.2 (hb.1 rfl)
theorem s_validBytes_tot {l : List Int} (hl : l.length ≤ 900000000000) : Tot (fun σ => F_s_validBytes (σ 0) l) (Says (okBytes 1000 l)) := by
  refine tot_s_validBytes ?_
  unfold B_s_validBytes
  simp only [tot_cond, tot_some, decide_eq_true_eq, decide_eq_false_iff_not, len]
  refine ⟨fun h => ?_, fun h => says_false fun hc => by have := hc.1; omega⟩
  refine (allIn_tot hl 0 255).bind ?_
  rintro _ ⟨b, rfl, hb⟩
  rw [tot_some]
  exact says_iff ⟨fun h' => ⟨by omega, hb.1 h'⟩, fun h' => hb.2 h'.2⟩
theorem i_decoded_tot {l : List Int} (hb : ∀ z ∈ l, okByte z) (hl : l.length ≤ 1000000) : Tot (fun σ => F_i_decoded (σ 0) l) (fun r => r = (((decP 300 l).1, ((decP 300 l).2 : Int), ()), ())) := by
  refine tot_i_decoded ?_
  unfold B_i_decoded
  have key := loop_i_decoded_L4 (Q := fun _ _ _ r => r = (((decP 300 l).1, ((decP 300 l).2 : Int), ()), ())) (I := fun l' out at5 => l' = l ∧ ∃ j : Nat, at5 = j ∧ j ≤ l.length ∧ out.length ≤ 300 ∧ (decP 300 l).1 = out ++ (decP (300 - out.length) (l.drop j)).1 ∧ (decP 300 l).2 = j + (decP (300 - out.length) (l.drop j)).2)
    (μ := fun _ out _ => 300 - out.length) ?_
  · exact key l [] 0 ⟨rfl, 0, rfl, by omega, by simp, by simp, by simp⟩
  intro l' out at5 ⟨e1, j, e2, hj, ho, hd1, hd2⟩ again hag ih
  subst e1 e2
  unfold B_i_decoded_L4b
  have fin : decP (300 - out.length) (l'.drop j) = ([], 0) → Tot (fun σ => B_i_decoded_J5 (σ 0) (F_i_mostArg (σ 0)) (F_i_opOk (σ 0)) out (j : Int)) (fun r => r = (((decP 300 l').1, ((decP 300 l').2 : Int), ()), ())) := by
    intro h
    unfold B_i_decoded_J5
    rw [tot_some, hd1, hd2, h]; simp
  have hjj : ∀ i : Nat, rdx (0 : Int) l' ((j + i : Nat) : Int) = (l'.drop j).getD i 0 := by
    intro i
    rw [rdx_eq, Int.toNat_natCast, List.getD_eq_getElem?_getD, List.getD_eq_getElem?_getD, List.getElem?_drop]
  have h0 : rdx (0 : Int) l' (j : Int) = (l'.drop j).getD 0 0 := hjj 0
  have w1 : w64 ((j : Int) + 1) = ((j + 1 : Nat) : Int) := w64_succ (by omega) (by omega)
  have w2 : w64 ((j : Int) + 2) = ((j + 2 : Nat) : Int) := w64_succ (by omega) (by omega)
  rw [tot_cond]
  simp only [decide_eq_true_eq, decide_eq_false_iff_not, len]
  refine ⟨fun hlt => ?_, fun hge => ?_⟩
  rotate_left
  · rw [tot_jn]
    unfold B_i_decoded_J0
    rw [tot_cond]
    exact ⟨fun h => absurd (show false = true from h) (by decide), fun _ => by rw [tot_jn]; exact fin (by rw [show 300 - out.length = 0 by omega]; rfl)⟩
  rw [tot_jn]
  obtain ⟨k, hk⟩ : ∃ k, 300 - out.length = k + 1 := ⟨300 - out.length - 1, by omega⟩
  have hdk : decP (k + 1) (l'.drop j) = match headP (l'.drop j) with
      | none => ([], 0)
      | some (o, n) => (o :: (decP k ((l'.drop j).drop n)).1, n + (decP k ((l'.drop j).drop n)).2) := rfl
  rw [hk, hdk] at hd1 hd2 fin
  have hL : (l'.drop j).length = l'.length - j := List.length_drop
  have hbj : ∀ z ∈ l'.drop j, okByte z := fun z hz => hb z (List.mem_of_mem_drop hz)
  generalize hLd : l'.drop j = L at *
  -- an order was there, or not
  have j3 : ∀ (c a : Int) (n : Nat), (headP L = if okOp (c, a) = true then some ((c, a), n) else none) → 1 ≤ n → j + n ≤ l'.length → Tot (fun σ => B_i_decoded_J3 (σ 0) (F_i_mostArg (σ 0)) (F_i_opOk (σ 0)) (again σ) l' out j c a n) (fun r => r = (((decP 300 l').1, ((decP 300 l').2 : Int), ()), ())) := by
    intro c a n hh hn1 hn
    unfold B_i_decoded_J3
    refine (i_opOk_tot c a).bind ?_
    rintro _ rfl
    simp only [tot_cond, tot_chk, tot_jn, Bool.not_eq_true', Bool.not_eq_false']
    refine ⟨fun hf => fin (by rw [hh, if_neg (by simp [hf])]), fun ht => ⟨room_iff.2 (by simp only [List.length_cons, List.length_nil]; omega), ?_⟩⟩
    rw [hh, if_pos ht] at hd1 hd2
    rw [show w64 ((j : Int) + (n : Int)) = ((j + n : Nat) : Int) by rw [w64_id (by omega) (by omega)]; omega]
    refine ih _ _ _ ⟨rfl, j + n, rfl, hn, by simp only [List.length_append, List.length_cons, List.length_nil]; omega, ?_, ?_⟩ (by simp only [List.length_append, List.length_cons, List.length_nil]; omega)
    · simp only [List.length_append, List.length_cons, List.length_nil]
      rw [hd1, show 300 - (out.length + (0 + 1)) = k by omega, ← List.drop_drop, hLd]
      simp only [List.append_assoc, List.singleton_append]
    · simp only [List.length_append, List.length_cons, List.length_nil]
      rw [hd2, show 300 - (out.length + (0 + 1)) = k by omega, ← List.drop_drop, hLd]
      simp only; omega
  unfold B_i_decoded_J0
  rw [tot_cond]
  simp only [decide_eq_true_eq, decide_eq_false_iff_not]
  refine ⟨fun hjl => ?_, fun hjl => ?_⟩
  rotate_left
  · rw [tot_jn]
    refine fin ?_
    cases L with
    | nil => rfl
    | cons x r => simp only [List.length_cons] at hL; omega
  rw [tot_chk]
  refine ⟨inb_iff.2 (by omega), ?_⟩
  cases L with
  | nil => simp only [List.length_nil] at hL; omega
  | cons c r =>
    simp only [List.length_cons] at hL
    have h0' : rdx (0 : Int) l' (j : Int) = c := h0
    rw [h0']
    have am := arg_most c
    have j1 : ∀ t : Bool, (t = true ↔ 0 ≤ argP c) → Tot (fun σ => B_i_decoded_J1 (σ 0) (F_i_mostArg (σ 0)) (F_i_opOk (σ 0)) (again σ) l' out j c 0 1 t) (fun r => r = (((decP 300 l').1, ((decP 300 l').2 : Int), ()), ())) := by
      intro t ht
      unfold B_i_decoded_J1
      rw [tot_cond]
      refine ⟨fun h => ?_, fun h => ?_⟩
      · have hc := ht.1 h
        rw [w1, w2, tot_cond]
        simp only [decide_eq_true_eq, decide_eq_false_iff_not, len]
        refine ⟨fun hge => ?_, fun hlt1 => ?_⟩
        · rw [tot_jn]
          refine fin ?_
          cases r with
          | nil => simp only [headP, if_pos hc]
          | cons a r2 => simp only [List.length_cons] at hL; omega
        · cases r with
          | nil => simp only [List.length_nil] at hL; omega
          | cons a r2 =>
            simp only [List.length_cons] at hL
            have e1 : rdx (0 : Int) l' ((j + 1 : Nat) : Int) = a := hjj 1
            have ha := hbj a (by simp)
            unfold okByte at ha
            rw [tot_chk, e1]
            refine ⟨inb_iff.2 (by omega), ?_⟩
            rw [tot_cond]
            simp only [decide_eq_true_eq, decide_eq_false_iff_not, len]
            refine ⟨fun h128 => ?_, fun h128 => ?_⟩
            · rw [tot_cond]
              simp only [decide_eq_true_eq, decide_eq_false_iff_not, len]
              refine ⟨fun hge2 => ?_, fun hlt2 => ?_⟩
              · rw [tot_jn]
                unfold B_i_decoded_J2
                rw [tot_cond]
                refine ⟨fun _ => ?_, fun h => absurd (show true = false from h) (by decide)⟩
                rw [tot_jn]
                refine fin ?_
                cases r2 with
                | nil => simp only [headP, if_pos hc]; rw [if_neg (by omega)]
                | cons b r3 => simp only [List.length_cons] at hL; omega
              · cases r2 with
                | nil => simp only [List.length_nil] at hL; omega
                | cons b r3 =>
                  simp only [List.length_cons] at hL
                  have e2 : rdx (0 : Int) l' ((j + 2 : Nat) : Int) = b := hjj 2
                  have hbb := hbj b (by simp)
                  unfold okByte at hbb
                  rw [tot_chk, e2]
                  refine ⟨inb_iff.2 (by omega), ?_⟩
                  rw [tot_jn]
                  unfold B_i_decoded_J2
                  rw [w2, e2, tot_cond]
                  simp only [beq_iff_eq, beq_eq_false_iff_ne, ne_eq]
                  refine ⟨fun hb0 => ?_, fun hb0 => ?_⟩
                  · rw [tot_jn]
                    refine fin ?_
                    simp only [headP, if_pos hc]
                    rw [if_neg (by omega), if_pos hb0]
                  · rw [tot_chk]
                    refine ⟨inb_iff.2 (by omega), ?_⟩
                    rw [tot_jn, w64_id (z := a - 128) (by omega) (by omega), w64_id (z := 128 * b) (by omega) (by omega), w64_id (by omega) (by omega)]
                    refine j3 c (a - 128 + 128 * b) 3 ?_ (by omega) (by omega)
                    simp only [headP, if_pos hc]
                    rw [if_neg (by omega), if_neg hb0]
            · rw [tot_jn]
              refine j3 c a 2 ?_ (by omega) (by omega)
              simp only [headP, if_pos hc]
              rw [if_pos (by omega)]
      · rw [tot_jn]
        refine j3 c 0 1 ?_ (by omega) (by omega)
        simp only [headP]
        rw [if_neg (fun hc => by rw [ht.2 hc] at h; cases h)]
    rw [tot_cond]
    simp only [decide_eq_true_eq, decide_eq_false_iff_not]
    have hneg : ¬ c ≤ 19 → argP c < 0 := by
      intro h; unfold argP; rw [if_neg (by omega), if_neg (by omega), if_neg (by omega)]; omega
    refine ⟨fun h19 => ?_, fun h19 => ?_⟩
    · refine (i_mostArg_tot c).bind ?_
      rintro _ rfl
      rw [tot_jn]
      refine j1 _ ?_
      simp only [decide_eq_true_eq]
      have : 0 ≤ argP c → 0 < mostP c := by
        intro h
        rcases am with ⟨h1, _⟩ | ⟨_, h2⟩
        · omega
        · rw [← h2]; unfold argP at h ⊢; split
          · omega
          split
          · omega
          split
          · omega
          · rename_i a1 a2 a3; rw [if_neg a1, if_neg a2, if_neg a3] at h; omega
      exact ⟨fun h => by omega, this⟩
    · rw [tot_jn]
      exact j1 false ⟨fun h => absurd h (by decide), fun h => by have := hneg h19; omega⟩
end Go.Gx

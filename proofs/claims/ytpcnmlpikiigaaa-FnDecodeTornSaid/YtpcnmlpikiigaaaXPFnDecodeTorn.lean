/-
  The plain law of FnDecodeTorn.
-/
import Derived.Test.YtpcnmlpikiigaaaXL16
import Derived.Test.YtpcnmlpikiigaaaXLDrawTorn
set_option linter.unusedVariables false
set_option linter.unusedSimpArgs false
namespace Go.Gx
theorem headP_take {l : List Int} {m : Nat} {x : POp × Nat} (h : headP (l.take m) = some x) : headP l = some x := by
  cases l with
  | nil => simp [headP] at h
  | cons c r =>
    cases m with
    | zero => simp [headP] at h
    | succ m =>
      rw [List.take_succ_cons] at h
      simp only [headP] at h ⊢
      split
      · rename_i hc
        rw [if_pos hc] at h
        cases r with
        | nil => simp at h
        | cons a r2 =>
          cases m with
          | zero => simp at h
          | succ m =>
            rw [List.take_succ_cons] at h
            simp only at h ⊢
            split
            · rename_i h1; rw [if_pos h1] at h; exact h
            · rename_i h1
              rw [if_neg h1] at h
              cases r2 with
              | nil => simp at h
              | cons b r3 =>
                cases m with
                | zero => simp at h
                | succ m => rw [List.take_succ_cons] at h; exact h
      · rename_i hc
        rw [if_neg hc] at h
        exact h
theorem decP_take : ∀ (k : Nat) (l : List Int) (m : Nat), (∃ s, (decP k l).1 = (decP k (l.take m)).1 ++ s) ∧ (decP k (l.take m)).2 ≤ (decP k l).2
  | 0, l, m => by simp [decP]
  | k + 1, l, m => by
    cases hh : headP (l.take m) with
    | none =>
      have e : decP (k + 1) (l.take m) = ([], 0) := by simp only [decP, hh]
      rw [e]
      exact ⟨⟨_, rfl⟩, Nat.zero_le _⟩
    | some x =>
      obtain ⟨o, n⟩ := x
      have h2 := headP_take hh
      have e1 : decP (k + 1) (l.take m) = (o :: (decP k ((l.take m).drop n)).1, n + (decP k ((l.take m).drop n)).2) := by simp only [decP, hh]
      have e2 : decP (k + 1) l = (o :: (decP k (l.drop n)).1, n + (decP k (l.drop n)).2) := by simp only [decP, h2]
      obtain ⟨⟨s, hs⟩, hn⟩ := decP_take k (l.drop n) (m - n)
      rw [e1, e2, List.drop_take]
      exact ⟨⟨s, by simp only; rw [hs]; rfl⟩, by simp only; omega⟩
def tornP (l : List Int) (r : ((List POp) × Int × Unit) × Unit) : Prop :=
  (okBytes 1000 l ∧ r = (((decP 300 l).1, ((decP 300 l).2 : Int), ()), ())) ∨ (¬ okBytes 1000 l ∧ r = (([], -1, ()), ()))
theorem i_DecodeTorn_tot {l : List Int} (hl : l.length ≤ 100000) : Tot (fun σ => F_i_DecodeTorn (σ 0) l) (tornP l) := by
  refine tot_i_DecodeTorn ?_
  unfold B_i_DecodeTorn
  refine (i_bytesOk_tot (by omega) 1000).bind ?_
  rintro _ ⟨b, rfl, hb⟩
  simp only [tot_cond, tot_some, Bool.not_eq_true', Bool.not_eq_false']
  refine ⟨fun hf => .inr ⟨fun h => absurd (hb.2 h) (by rw [hf]; decide), rfl⟩, fun ht => ?_⟩
  have hok := hb.1 ht
  refine (i_decoded_tot hok.2 (by omega)).bind ?_
  rintro _ rfl
  rw [tot_some]
  exact .inl ⟨hok, rfl⟩
theorem s_DecodeTorn_tot {l : List Int} (hl : l.length ≤ 100000) : Tot (fun σ => F_s_DecodeTorn (σ 0) l) (tornP l) := by
  refine tot_s_DecodeTorn ?_
  unfold B_s_DecodeTorn
  refine (s_validBytes_tot (by omega)).bind ?_
  rintro _ ⟨b, rfl, hb⟩
  simp only [tot_cond, tot_some, Bool.not_eq_true', Bool.not_eq_false']
  refine ⟨fun hf => .inr ⟨fun h => absurd (hb.2 h) (by rw [hf]; decide), rfl⟩, fun ht => ?_⟩
  have hok := hb.1 ht
  refine (readOps_tot hok.2 (by omega)).bind ?_
  rintro _ rfl
  rw [tot_some]
  exact .inl ⟨hok, rfl⟩
theorem p_l_FnDecodeTorn (code : List Int) (hc : ∀ z ∈ code, 0 ≤ z ∧ z ≤ 255) : ∃ k, F_l_FnDecodeTorn k code = some ((true, ()), ()) := by
  refine Tot.ex (F := fun k => F_l_FnDecodeTorn k code) ?_
  refine tot_l_FnDecodeTorn ?_
  unfold B_l_FnDecodeTorn B_l_FnDecodeTorn_J0
  simp only [tot_cond, tot_some, decide_eq_true_eq, decide_eq_false_iff_not, len]
  refine ⟨fun _ => trivial, fun hl => ?_⟩
  refine (DrawDecodeTorn_tot hc (by omega)).bind ?_
  rintro _ ⟨l, rfl, hll⟩
  refine (i_DecodeTorn_tot (l := l) (by omega)).bind ?_
  intro r1 h1
  refine (s_DecodeTorn_tot (l := l) (by omega)).bind ?_
  intro r2 h2
  rcases h1 with ⟨ok, rfl⟩ | ⟨nok, rfl⟩
  · rcases h2 with ⟨_, rfl⟩ | ⟨nok, _⟩
    · obtain ⟨d1, d2, d3, d4⟩ := decP_spec 300 (l := l) ok.2
      have hok : okOps (decP 300 l).1 = true := by simp [okOps, d1, d2]
      have henc : encP (decP 300 l).1 = l.take (decP 300 l).2 := by rw [encP, if_pos hok, d3]
      refine (equalOps_tot (show (decP 300 l).1.length ≤ _ by omega)).bind ?_
      rintro _ ⟨b, rfl, hb⟩
      have hb : b = true := hb.2 rfl
      subst hb
      simp only [tot_cond, tot_jn, tot_some, bne_self_eq_false]
      refine ⟨fun h => absurd h (by decide), fun _ => ⟨fun h => absurd h (by decide), fun _ => ⟨fun h => ?_, fun _ => ?_⟩⟩⟩
      · simp only [decide_eq_true_eq] at h; omega
      have key := loop_l_FnDecodeTorn_L2 (Q := fun _ _ _ _ r => r = ((true, ()), ())) (I := fun l' o n k => l' = l ∧ o = (decP 300 l).1 ∧ n = ((decP 300 l).2 : Int) ∧ 0 ≤ k ∧ k ≤ 100000) (μ := fun _ _ _ k => (l.length + 1 - k).toNat) ?_
      · exact key l _ _ 0 ⟨rfl, rfl, rfl, by omega, by omega⟩
      intro l' o n k ⟨e1, e2, e3, hk0, hk1⟩ again hag ih
      subst e1 e2 e3
      unfold B_l_FnDecodeTorn_L2b B_l_FnDecodeTorn_J1
      rw [tot_cond]
      simp only [decide_eq_true_eq, decide_eq_false_iff_not, len]
      refine ⟨fun hle => ?_, fun hgt => ?_⟩
      · rw [tot_chk]
        refine ⟨cutb_iff.2 ⟨by omega, hk0, hle⟩, ?_⟩
        rw [List.drop_zero]
        have hokt : okBytes 1000 (l'.take k.toNat) := ⟨by have := ok.1; simp only [List.length_take]; omega, fun z hz => ok.2 z (List.mem_of_mem_take hz)⟩
        refine (i_DecodeTorn_tot (l := l'.take k.toNat) (by have := hokt.1; omega)).bind ?_
        intro r3 h3
        rcases h3 with ⟨_, rfl⟩ | ⟨hn, _⟩
        · obtain ⟨⟨s, hs⟩, hn2⟩ := decP_take 300 l' k.toNat
          obtain ⟨_, t2, _, t4⟩ := decP_spec 300 (l := l'.take k.toNat) hokt.2
          simp only [List.length_take] at t4
          generalize hD : decP 300 (l'.take k.toNat) = D at hs hn2 t2 t4
          have hbeg : Tot (fun σ => F_l_begins (σ 0) (decP 300 l').1 D.1) (fun r => r = ((true, ()), ())) := by
            refine tot_l_begins ?_
            unfold B_l_begins
            have hlen : (decP 300 l').1.length = D.1.length + s.length := by rw [hs, List.length_append]
            simp only [tot_cond, tot_chk, tot_some, decide_eq_true_eq, decide_eq_false_iff_not, len, cutb_iff]
            refine ⟨fun _ => ⟨by omega, ?_⟩, fun h => by omega⟩
            refine (equalOps_tot (by simp only [sub, List.length_drop, List.length_take]; omega)).bind ?_
            rintro _ ⟨b, rfl, hb⟩
            rw [tot_some]
            have : b = true := hb.2 (by simp [sub, hs])
            rw [this]
          refine hbeg.bind ?_
          rintro _ rfl
          simp only [tot_cond, tot_jn, tot_some, decide_eq_true_eq, decide_eq_false_iff_not]
          refine ⟨fun h => absurd h (by decide), fun _ => ⟨fun h => by omega, fun _ => ⟨fun h => by omega, fun _ => ?_⟩⟩⟩
          have hd := tdiv_in (x := (l'.length : Int)) (n := 20) (by omega) (by omega)
          have e : w64 (w64 (k + 1) + w64 ((l'.length : Int).tdiv 20)) = k + 1 + (l'.length : Int).tdiv 20 := by
            simp (disch := omega) only [w64_id]
          rw [e]
          exact ih _ _ _ _ ⟨rfl, rfl, rfl, by omega, by omega⟩ (by omega)
        · exact absurd hokt hn
      · refine (i_DecodeOps_tot (l := l') (by omega)).bind ?_
        intro r4 h4
        refine (i_EncodeOps_tot (show (decP 300 l').1.length ≤ _ by omega)).bind ?_
        rintro _ rfl
        rw [tot_chk]
        refine ⟨cutb_iff.2 (by omega), ?_⟩
        refine (equalInts_tot (show (encP (decP 300 l').1).length ≤ _ by rw [henc]; simp only [List.length_take]; omega)).bind ?_
        rintro _ ⟨b, rfl, hb⟩
        have hb : b = true := hb.2 (by simp [henc])
        subst hb
        simp only [tot_cond, tot_some]
        refine ⟨fun _ => ?_, fun h => absurd h (by decide)⟩
        rcases h4 with ⟨_, hn, rfl⟩ | ⟨hn, rfl⟩
        · simp [hn]
        · have : ¬ (decP 300 l').2 = l'.length := fun h => hn ⟨ok, h⟩
          have h2 : (((decP 300 l').2 : Int) == (l'.length : Int)) = false := by simp; omega
          simp [h2]
    · exact absurd ok nok
  · rcases h2 with ⟨ok, _⟩ | ⟨_, rfl⟩
    · exact absurd ok nok
    · have eq : Tot (fun σ => F_l_equalOps (σ 0) [] []) (fun r => r = ((true, ()), ())) := by
        refine (equalOps_tot (by simp)).mono ?_
        rintro _ ⟨b, rfl, hb⟩
        rw [hb.2 rfl]
      refine eq.bind ?_
      rintro _ rfl
      simp only [tot_cond, tot_jn, tot_some]
      refine ⟨fun h => absurd h (by decide), fun _ => ⟨fun h => absurd h (by decide), fun _ => ⟨fun _ => ?_, fun h => absurd h (by decide)⟩⟩⟩
      refine eq.bind ?_
      rintro _ rfl
      simp only [tot_cond, tot_some]
      exact ⟨fun _ => rfl, fun h => absurd h (by decide)⟩
end Go.Gx

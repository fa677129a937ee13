/-
  Laws, part 3: a step of the shapes.
-/
import Derived.Test.YtpcnmlpikiigaaaXL2
set_option linter.unusedVariables false
set_option linter.unusedSimpArgs false
namespace Go.Gx
theorem ShI.push {s : Sh} (h : ShI s) (hk : s.K.length < 1000000) (hs : s.S.length < 1000000) (k : Int) : ShI (pushP s k) := by
  refine ⟨by simp [pushP, h.full], fun x hx => ?_, h.ml, fun x hx => ?_, by simp only [pushP, List.length_append, List.length_cons, List.length_nil]; omega, by simp only [pushP, List.length_append, List.length_cons, List.length_nil]; omega⟩
  · simp only [pushP, List.mem_append, List.mem_cons, List.not_mem_nil, or_false, List.length_append, List.length_cons, List.length_nil] at hx ⊢
    rcases hx with hx | rfl
    · have := h.st x hx; omega
    · omega
  · have := h.me x hx
    simp only [pushP, List.length_append, List.length_cons, List.length_nil]
    omega
theorem shapeP_pos {s : Sh} {d : Nat} (h : ¬ shapeP s.K s.S d < 0) : d < s.S.length ∧ 0 ≤ s.S.getD (s.S.length - 1 - d) 0 := by
  unfold shapeP at h
  split at h
  · omega
  · split at h
    · omega
    · omega
theorem takeShapes_tot {s : Sh} (h : ShI s) (c a : Int) (ha : c = 15 → 0 ≤ a ∧ a < 20) : Tot (fun σ => F_s_takeShapes (σ 0) s.K s.Fu s.S s.M s.D c a) (Ans (takeP s c a)) := by
  have h1 := h.kl; have h2 := h.sl; have h3 := h.ml; have h4 := h.full
  refine tot_s_takeShapes ?_
  unfold B_s_takeShapes
  refine (shapeAt_tot h 0 (by omega)).bind ?_
  rintro _ rfl
  refine (shapeAt_tot h 1 (by omega)).bind ?_
  rintro _ rfl
  have pos0 : ¬ shapeP s.K s.S 0 < 0 → 1 ≤ s.S.length ∧ 0 ≤ s.S.getD (s.S.length - 1) 0 := fun h => by have := shapeP_pos h; exact ⟨by omega, this.2⟩
  have pos1 : ¬ shapeP s.K s.S 1 < 0 → 2 ≤ s.S.length ∧ 0 ≤ s.S.getD (s.S.length - 2) 0 := fun h => by have := shapeP_pos h; exact ⟨by omega, by rw [show s.S.length - 1 - 1 = s.S.length - 2 by omega] at this; exact this.2⟩
  have w1 : w64 (len s.S - 1) = (s.S.length : Int) - 1 := by rw [w64_id] <;> simp only [len] <;> omega
  have w2 : w64 (len s.S - 2) = (s.S.length : Int) - 2 := by rw [w64_id] <;> simp only [len] <;> omega
  have w0 : w64 (len s.S - 0) = (s.S.length : Int) := by rw [w64_id] <;> simp only [len] <;> omega
  unfold takeP
  simp only
  generalize hx : shapeP s.K s.S 0 = x at pos0
  generalize hy : shapeP s.K s.S 1 = y at pos1
  have tk : ∀ n : Nat, s.S.take (((s.S.length : Int) - n).toNat) = s.S.take (s.S.length - n) := fun n => by congr 1; omega
  -- the end
  have j2 : ∀ (t4 ok : Bool) (n : Nat) (o : Option Sh), n ≤ 2 → (ok = true → n ≤ s.S.length) → o = (if ok = true then some (dropP s n) else none) →
      Tot (fun σ => B_s_takeShapes_J2 (σ 0) (F_s_shapeAt (σ 0)) (F_s_pushShape (σ 0)) (F_s_keyKind (σ 0)) s.K s.Fu s.S s.M s.D t4 ok (n : Int)) (Ans o) := by
    intro t4 ok n o hn hok ho
    subst ho
    unfold B_s_takeShapes_J2
    have wn : w64 (len s.S - (n : Int)) = (s.S.length : Int) - n := by rw [w64_id] <;> simp only [len] <;> omega
    cases ok with
    | true =>
      have := hok rfl
      simp only [tot_cond, tot_chk, tot_some, wn, cutb_iff, tk]
      exact ⟨fun h0 => absurd h0 (by decide), fun _ => ⟨by omega, rfl⟩⟩
    | false =>
      simp only [tot_cond, tot_some]
      exact ⟨fun _ => rfl, fun h0 => absurd h0 (by decide)⟩
  simp only [tot_cond, tot_jn, tot_chk, tot_some, beq_iff_eq, beq_eq_false_iff_ne, ne_eq, decide_eq_true_eq, decide_eq_false_iff_not, Bool.not_eq_true', Bool.not_eq_false', w1, w2, cutb_iff, inb_iff]
  have i1 : ((s.S.length : Int) - 1).toNat = s.S.length - 1 := by omega
  have i2 : ((s.S.length : Int) - 2).toNat = s.S.length - 2 := by omega
  simp only [i1, i2]
  refine ⟨fun h5 => ?_, fun h5 => ⟨fun h6 => ?_, fun h6 => ⟨fun h8 => ?_, fun h8 => ⟨fun h11 => ?_, fun h11 => ⟨fun h14 => ?_, fun h14 => ⟨fun h15 => ?_, fun h15 => ⟨fun h19 => ?_, fun h19 => ?_⟩⟩⟩⟩⟩⟩⟩
  · subst h5
    refine ⟨fun hn => ?_, fun hn => ?_⟩
    · rw [if_pos (by omega)]; exact rfl
    · have hp := pos0 (by omega)
      rw [if_neg (by omega)]
      simp only [↓reduceIte]
      refine ⟨by omega, (pushShape_tot (h.take (s.S.length - 1)) 2).bind ?_⟩
      rintro _ rfl
      rw [tot_some]
      rfl
  · subst h6
    unfold B_s_takeShapes_J0
    simp only [tot_cond, tot_chk, tot_some, w2, cutb_iff, i2, decide_eq_true_eq, decide_eq_false_iff_not]
    refine ⟨fun hn => ⟨fun _ => ?_, fun h0 => absurd h0 (by decide)⟩, fun hn => ⟨fun hy0 => ?_, fun hy0 => ?_⟩⟩
    · rw [if_pos (by omega)]; exact rfl
    · rw [if_neg (by omega)]
      simp only [↓reduceIte, Int.reduceEq]
      rw [if_pos hy0]; exact rfl
    · rw [if_neg (by omega)]
      simp only [↓reduceIte, Int.reduceEq]
      rw [if_neg hy0]
      have hp := pos1 hy0
      refine ⟨by omega, (pushShape_tot (h.take (s.S.length - 2)) 2).bind ?_⟩
      rintro _ rfl
      rw [tot_some]
      rfl
  · subst h8
    simp only [↓reduceIte, Int.reduceEq]
    refine ⟨fun hp => ?_, fun hp => ?_⟩
    · rw [if_neg (by omega)]
      exact j2 false (y == 3) 1 _ (by omega) (fun _ => (pos0 (by omega)).1) (by simp)
    · rw [if_pos (by omega)]
      exact j2 false false 1 _ (by omega) (fun h0 => absurd h0 (by decide)) (by simp)
  · subst h11
    simp only [↓reduceIte, Int.reduceEq]
    refine ⟨fun hp => ?_, fun hp => ?_⟩
    · rw [if_neg (by omega)]
      refine (keyKind_tot y).bind ?_
      rintro _ rfl
      simp only [tot_cond, tot_jn]
      refine ⟨fun hk => ?_, fun hk => ?_⟩
      · refine (shapeAt_tot h 2 (by omega)).bind ?_
        rintro _ rfl
        rw [tot_jn]
        refine j2 false (shapeP s.K s.S 2 == 4) 2 _ (by omega) (fun h4 => ?_) (by simp [hk])
        have h4 : shapeP s.K s.S 2 = 4 := by simpa using h4
        have := shapeP_pos (s := s) (d := 2) (by omega)
        omega
      · exact j2 false false 2 _ (by omega) (fun h0 => absurd h0 (by decide)) (by simp [hk])
    · rw [if_pos (by omega)]
      exact j2 false false 2 _ (by omega) (fun h0 => absurd h0 (by decide)) (by simp)
  · subst h14
    simp only [↓reduceIte, Int.reduceEq]
    unfold B_s_takeShapes_J1
    simp only [tot_cond, tot_chk, tot_jn, w2, i2, inb_iff, decide_eq_true_eq, Bool.not_eq_true', Bool.not_eq_false']
    have bad : ∀ (ok : Bool), ok = false → ∀ t4 : Bool, ∀ o : Option Sh, o = none → Tot (fun σ => B_s_takeShapes_J2 (σ 0) (F_s_shapeAt (σ 0)) (F_s_pushShape (σ 0)) (F_s_keyKind (σ 0)) s.K s.Fu s.S s.M s.D t4 ok 1) (Ans o) := fun ok hok t4 o ho => j2 t4 ok 1 o (by omega) (fun h0 => by rw [hok] at h0; cases h0) (by rw [ho, hok]; rfl)
    refine ⟨fun hp => ⟨fun h5 => ?_, fun h5 => ⟨fun h0 => absurd h0 (by decide), fun _ => ?_⟩⟩, fun hp => ⟨fun h0 => absurd h0 (by decide), fun _ => ?_⟩⟩
    · have hp1 := pos1 (by omega)
      have hm := h.st _ (getD_mem (xs := s.S) (i := s.S.length - 2) (d := 0) (by omega))
      rw [if_neg (by omega)]
      refine ⟨by omega, by omega, by omega, by omega, fun hf => ?_, fun hf => ?_⟩
      · refine ⟨by omega, by omega, by omega, by omega, ?_⟩
        rw [if_pos ⟨h5, hf⟩]
        have hs' : ShI { s with Fu := s.Fu.set (s.S.getD (s.S.length - 2) 0).toNat true } := ⟨by simp [h.full], h.st, h.ml, h.me, h.kl, h.sl⟩
        unfold B_s_takeShapes_J2
        rw [hf]
        simp only [tot_cond, tot_chk, tot_some, w1, cutb_iff, i1]
        exact ⟨fun h0 => absurd h0 (by decide), fun _ => ⟨by omega, rfl⟩⟩
      · exact bad _ (by rw [hf]; rfl) false _ (by rw [if_neg (by rw [hf]; simp)])
    · rw [if_neg (by omega)]
      exact bad false rfl false _ (by rw [if_neg (by simp [h5])])
    · rw [if_pos (by omega)]
      exact bad false rfl false _ rfl
  · subst h15
    have ha' := ha rfl
    simp only [↓reduceIte, Int.reduceEq]
    refine ⟨fun hp => ⟨by have := pos0 (by omega); omega, by have := pos0 (by omega); omega, by omega, by omega, ?_⟩, fun hp => ?_⟩
    · rw [if_neg (by omega), show decide (x ≥ 0) = true by simpa using hp]
      unfold B_s_takeShapes_J2
      simp only [tot_cond, tot_chk, tot_some, w0, cutb_iff, Int.toNat_natCast, List.take_length]
      exact ⟨fun h0 => absurd h0 (by decide), fun _ => ⟨by omega, rfl⟩⟩
    · rw [if_pos (by omega), show decide (x ≥ 0) = false by simpa using hp]
      exact j2 false false 0 _ (by omega) (fun h0 => absurd h0 (by decide)) (by simp)
  · subst h19
    simp only [↓reduceIte, Int.reduceEq]
    unfold B_s_takeShapes_J2
    simp only [tot_cond, tot_chk, tot_some, w0, cutb_iff, Int.toNat_natCast, List.take_length]
    refine ⟨fun hp => ⟨fun hl => ?_, fun hl => ⟨by omega, ?_⟩⟩, fun hp => ⟨fun _ => ?_, fun h0 => absurd h0 (by decide)⟩⟩
    · have hl' : ¬ s.S.length = 1 := by
        intro e
        simp [len, e] at hl
      rw [if_neg (by omega), if_neg hl']; exact rfl
    · have hl' : s.S.length = 1 := by
        have : (len s.S == 1) = true := by simpa using hl
        simp only [len, beq_iff_eq] at this
        omega
      rw [if_neg (by omega), if_pos hl']; exact rfl
    · rw [if_pos (by omega)]; exact rfl
  · simp only [h5, h6, h8, h11, h14, h15, h19, ↓reduceIte]
    by_cases hx0 : x < 0
    · rw [if_pos hx0, show decide (x ≥ 0) = false by simp; omega]
      exact j2 false false 1 _ (by omega) (fun h0 => absurd h0 (by decide)) (by simp)
    · rw [if_neg hx0, show decide (x ≥ 0) = true by simp; omega]
      exact j2 false true 1 _ (by omega) (fun _ => (pos0 hx0).1) (by simp)
theorem takeP_inv {s : Sh} (h : ShI s) (hk : s.K.length ≤ 900000) (hs : s.S.length ≤ 900000) {c a : Int} {s' : Sh} (ht : takeP s c a = some s') : ShI s' := by
  have hd : ∀ n, ShI (dropP s n) := fun n => h.take _
  have hp : ∀ n k, ShI (pushP (dropP s n) k) := fun n k => (hd n).push (by show s.K.length < _; omega) (by show (s.S.take _).length < _; simp only [List.length_take]; omega) k
  unfold takeP at ht
  simp only at ht
  split at ht
  · cases ht
  rename_i hx
  have hpos := shapeP_pos hx
  have hm := h.st _ (getD_mem (xs := s.S) (i := s.S.length - 1) (d := 0) (by omega))
  split at ht
  · cases ht; exact hp 1 2
  split at ht
  · split at ht
    · cases ht
    · cases ht; exact hp 2 2
  split at ht
  · split at ht
    · cases ht; exact hd 1
    · cases ht
  split at ht
  · split at ht
    · cases ht; exact hd 2
    · cases ht
  split at ht
  · split at ht
    · cases ht
      exact ⟨by show (s.Fu.set _ _).length = s.K.length; simp [h.full], fun x hx => h.st x (List.mem_of_mem_take hx), h.ml, h.me, h.kl, (hd 1).sl⟩
    · cases ht
  split at ht
  · cases ht
    refine ⟨h.full, h.st, by simp [h.ml], fun x hx => ?_, h.kl, h.sl⟩
    rcases List.mem_or_eq_of_mem_set hx with hx | rfl
    · exact h.me x hx
    · exact hm
  split at ht
  · split at ht
    · cases ht; exact ⟨h.full, h.st, h.ml, h.me, h.kl, h.sl⟩
    · cases ht
  · cases ht; exact hd 1
theorem markP_inv {s : Sh} (h : ShI s) (hk : s.K.length ≤ 900000) (hs : s.S.length ≤ 900000) {c : Int} {s' : Sh} (ht : markP s c = some s') : ShI s' := by
  unfold markP at ht
  split at ht
  · cases ht
  rename_i i hi
  split at ht
  · cases ht
    exact (h.take i).push (by show s.K.length < _; omega) (by show (s.S.take _).length < _; simp only [List.length_take]; omega) 2
  split at ht
  · split at ht
    · cases ht; exact h.take i
    · cases ht
  split at ht
  · split at ht
    · cases ht; exact h.take i
    · cases ht
  · cases ht; exact h.take i
theorem stepRaw_inv {s : Sh} (h : ShI s) (hk : s.K.length ≤ 900000) (hs : s.S.length ≤ 900000) {c a : Int} (ha : c = 15 ∨ c = 16 → 0 ≤ a ∧ a < 20) {s' : Sh} (ht : stepRaw s c a = some s') : ShI s' := by
  unfold stepRaw at ht
  split at ht
  · cases ht
  split at ht
  · cases ht; exact h.push (by omega) (by omega) _
  split at ht
  · cases ht
    refine ⟨h.full, fun x hx => ?_, h.ml, h.me, h.kl, by simp only [List.length_append, List.length_cons, List.length_nil]; omega⟩
    simp only [List.mem_append, List.mem_cons, List.not_mem_nil, or_false] at hx
    rcases hx with hx | rfl
    · exact h.st x hx
    · show -1 ≤ -1 ∧ -1 < (s.K.length : Int); omega
  split at ht
  · split at ht
    · cases ht
    · rename_i hc hneg
      cases ht
      have ha' := ha (.inr hc)
      have hm := h.me _ (getD_mem (xs := s.M) (i := a.toNat) (d := 0) (by have := h.ml; omega))
      refine ⟨h.full, fun x hx => ?_, h.ml, h.me, h.kl, by simp only [List.length_append, List.length_cons, List.length_nil]; omega⟩
      simp only [List.mem_append, List.mem_cons, List.not_mem_nil, or_false] at hx
      rcases hx with hx | rfl
      · exact h.st x hx
      · exact hm
  split at ht
  · exact markP_inv h hk hs ht
  · exact takeP_inv h hk hs ht
theorem stepP_inv {s : Sh} (h : ShI s) (hk : s.K.length ≤ 900000) (hs : s.S.length ≤ 900000) {c a : Int} (ha : c = 15 ∨ c = 16 → 0 ≤ a ∧ a < 20) {s' : Sh} (ht : stepP s c a = some s') : ShI s' ∧ s'.K.length ≤ 300 ∧ s'.S.length ≤ 300 := by
  unfold stepP at ht
  split at ht
  · rename_i s1 h1
    split at ht
    · rename_i hf
      cases ht
      simp only [fitsP, Bool.and_eq_true, decide_eq_true_eq] at hf
      exact ⟨stepRaw_inv h hk hs ha h1, hf⟩
    · cases ht
  · cases ht
theorem stepShapes_tot {s : Sh} (h : ShI s) (hk : s.K.length ≤ 900000) (hs : s.S.length ≤ 900000) (c a : Int) (ha : c = 15 ∨ c = 16 → 0 ≤ a ∧ a < 20) : Tot (fun σ => F_s_stepShapes (σ 0) s.K s.Fu s.S s.M s.D c a) (Ans (stepP s c a)) := by
  have h3 := h.ml
  refine tot_s_stepShapes ?_
  unfold B_s_stepShapes
  -- the end
  have j1 : ∀ (t4 : Bool) (o : Option Sh) (r : ((List Int × List Bool × List Int × List Int × Bool × Unit) × Bool × Unit) × Unit), Ans o r →
      Tot (fun σ => B_s_stepShapes_J1 (σ 0) (F_s_newKind (σ 0)) (F_s_pushShape (σ 0)) (F_s_markShapes (σ 0)) (F_s_takeShapes (σ 0)) r.1.1.1 r.1.1.2.1 r.1.1.2.2.1 r.1.1.2.2.2.1 r.1.1.2.2.2.2.1 t4 r.1.2.1)
        (Ans (match o with | some s' => if fitsP s' = true then some s' else none | none => none)) := by
    intro t4 o r hr
    unfold B_s_stepShapes_J1
    cases o with
    | none =>
      have hr : r.1.2.1 = false := hr
      simp only [tot_cond, tot_some, hr]
      exact ⟨fun h0 => absurd h0 (by decide), fun _ => rfl⟩
    | some s' =>
      have hr : r = ((s'.dat, true, ()), ()) := hr
      subst hr
      simp only [tot_cond, tot_some, decide_eq_true_eq, decide_eq_false_iff_not, len]
      refine ⟨fun _ => ⟨fun hk' => ?_, fun hk' => ?_⟩, fun h0 => absurd h0 (by decide)⟩
      · by_cases hs' : s'.S.length ≤ 300
        · rw [if_pos (by simp [fitsP, hs']; omega)]
          show _ = _
          simp [Sh.dat]; omega
        · rw [if_neg (by simp [fitsP, hs'])]
          show _ = _
          simp; omega
      · rw [if_neg (by simp [fitsP]; omega)]
        exact rfl
  unfold stepP stepRaw
  simp only [tot_cond, tot_some, Bool.not_not]
  refine ⟨fun hd => ?_, fun hd => ?_⟩
  · rw [if_pos hd]; exact rfl
  rw [if_neg (by rw [hd]; decide)]
  refine (newKind_tot c).bind ?_
  rintro _ rfl
  simp only [tot_cond, tot_jn, tot_chk, decide_eq_true_eq, decide_eq_false_iff_not, beq_iff_eq, beq_eq_false_iff_ne, ne_eq]
  refine ⟨fun hn => ?_, fun hn => ?_⟩
  · rw [if_pos hn]
    refine (newKind_tot c).bind ?_
    rintro _ rfl
    refine (pushShape_tot h _).bind ?_
    rintro _ rfl
    rw [tot_jn]
    have := j1 false (some (pushP s (newKindP c))) (((pushP s (newKindP c)).dat, true, ()), ()) rfl
    rw [show (!s.D) = true by rw [hd]; rfl]
    exact this
  rw [if_neg (by omega)]
  have j0 : ∀ (t4 b : Bool), (b = true ↔ c = 3 ∨ c = 9 ∨ c = 12 ∨ c = 18) → ¬ c = 2 → ¬ c = 16 →
      Tot (fun σ => B_s_stepShapes_J0 (σ 0) (F_s_newKind (σ 0)) (F_s_pushShape (σ 0)) (F_s_markShapes (σ 0)) (F_s_takeShapes (σ 0)) s.K s.Fu s.S s.M s.D c a t4 b)
        (Ans (match (if c = 3 ∨ c = 9 ∨ c = 12 ∨ c = 18 then markP s c else takeP s c a) with | some s' => if fitsP s' = true then some s' else none | none => none)) := by
    intro t4 b hb h2 h16
    unfold B_s_stepShapes_J0
    rw [tot_cond]
    refine ⟨fun hb' => ?_, fun hb' => ?_⟩
    · rw [if_pos (hb.1 hb')]
      refine (markShapes_tot h c).bind fun r hr => ?_
      rw [tot_jn]
      exact j1 t4 _ r hr
    · rw [if_neg (fun hc => by rw [hb.2 hc] at hb'; cases hb')]
      refine (takeShapes_tot h c a (fun e => ha (.inl e))).bind fun r hr => ?_
      rw [tot_jn]
      exact j1 t4 _ r hr
  refine ⟨fun h2 => ?_, fun h2 => ⟨fun h16 => ?_, fun h16 => ?_⟩⟩
  · rw [if_pos h2]
    refine ⟨room_iff.2 (by simp only [List.length_cons, List.length_nil]; omega), ?_⟩
    have := j1 false (some { s with S := s.S ++ [-1] }) ((Sh.dat { s with S := s.S ++ [-1] }, true, ()), ()) rfl
    rw [show (!s.D) = true by rw [hd]; rfl]
    exact this
  · have ha' := ha (.inr h16)
    rw [if_neg h2, if_pos h16]
    refine ⟨inb_iff.2 (by omega), by omega, fun hm => ?_, fun hm => ?_⟩
    · rw [if_pos hm, tot_some]; exact rfl
    · rw [if_neg hm]
      refine ⟨inb_iff.2 (by omega), by omega, room_iff.2 (by simp only [List.length_cons, List.length_nil]; omega), ?_⟩
      have := j1 false (some { s with S := s.S ++ [s.M.getD a.toNat 0] }) ((Sh.dat { s with S := s.S ++ [s.M.getD a.toNat 0] }, true, ()), ()) rfl
      rw [show (!s.D) = true by rw [hd]; rfl]
      exact this
  · rw [if_neg h2, if_neg h16]
    exact ⟨fun h3 => j0 false true (by simp [h3]) h2 h16, fun h3 => ⟨fun h9 => j0 false true (by simp [h9]) h2 h16, fun h9 => ⟨fun h12 => j0 false true (by simp [h12]) h2 h16, fun h12 => j0 false (c == 18) (by simp [h3, h9, h12]) h2 h16⟩⟩⟩
end Go.Gx

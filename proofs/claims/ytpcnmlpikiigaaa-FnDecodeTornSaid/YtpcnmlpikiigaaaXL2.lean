/-
  Laws, part 2: the shapes of a machine: what each function of them comes to.
-/
import Derived.Test.YtpcnmlpikiigaaaXL1
set_option linter.unusedVariables false
set_option linter.unusedSimpArgs false
namespace Go.Gx
structure Sh where
  K : List Int
  Fu : List Bool
  S : List Int
  M : List Int
  D : Bool
/-- What always holds of shapes. -/
structure ShI (s : Sh) : Prop where
  full : s.Fu.length = s.K.length
  st : ∀ x ∈ s.S, -1 ≤ x ∧ x < (s.K.length : Int)
  ml : s.M.length = 20
  me : ∀ x ∈ s.M, -1 ≤ x ∧ x < (s.K.length : Int)
  kl : s.K.length ≤ 1000000
  sl : s.S.length ≤ 1000000
/-- The kind of the thing at a place from the top of the stack. -/
def shapeP (K S : List Int) (d : Nat) : Int := if S.length ≤ d then -1 else if S.getD (S.length - 1 - d) 0 < 0 then -1 else K.getD (S.getD (S.length - 1 - d) 0).toNat 0
def keyP (k : Int) : Bool := k == 0 || k == 1
/-- The topmost mark below a place. -/
def markAt (S : List Int) : Nat → Option Nat
  | 0 => none
  | i + 1 => if S.getD i 0 < 0 then some i else markAt S i
def keysOk (K : List Int) : List Int → Bool
  | [] => true
  | [x] => keyP (K.getD x.toNat 0)
  | x :: _ :: r => keyP (K.getD x.toNat 0) && keysOk K r
def pushP (s : Sh) (kind : Int) : Sh := { s with K := s.K ++ [kind], Fu := s.Fu ++ [false], S := s.S ++ [(s.K.length : Int)] }
def markP (s : Sh) (c : Int) : Option Sh := match markAt s.S s.S.length with
  | none => none
  | some i =>
    if c = 3 then some (pushP { s with S := s.S.take i } 2)
    else if c = 9 then (if shapeP s.K (s.S.take i) 0 = 3 then some { s with S := s.S.take i } else none)
    else if c = 12 then (if shapeP s.K (s.S.take i) 0 = 4 ∧ (s.S.drop (i + 1)).length % 2 = 0 ∧ keysOk s.K (s.S.drop (i + 1)) = true then some { s with S := s.S.take i } else none)
    else some { s with S := s.S.take i }
def dropP (s : Sh) (n : Nat) : Sh := { s with S := s.S.take (s.S.length - n) }
def takeP (s : Sh) (c a : Int) : Option Sh :=
  let x := shapeP s.K s.S 0
  let y := shapeP s.K s.S 1
  if x < 0 then none
  else if c = 5 then some (pushP (dropP s 1) 2)
  else if c = 6 then (if y < 0 then none else some (pushP (dropP s 2) 2))
  else if c = 8 then (if y = 3 then some (dropP s 1) else none)
  else if c = 11 then (if keyP y = true ∧ shapeP s.K s.S 2 = 4 then some (dropP s 2) else none)
  else if c = 14 then (if y = 5 ∧ s.Fu.getD (s.S.getD (s.S.length - 2) 0).toNat false = false then some { dropP s 1 with Fu := s.Fu.set (s.S.getD (s.S.length - 2) 0).toNat true } else none)
  else if c = 15 then some { s with M := s.M.set a.toNat (s.S.getD (s.S.length - 1) 0) }
  else if c = 19 then (if s.S.length = 1 then some { s with D := true } else none)
  else some (dropP s 1)
def newKindP (c : Int) : Int := if c = 0 then 0 else if c = 1 then 1 else if c = 4 then 2 else if c = 7 then 3 else if c = 10 then 4 else if c = 13 then 5 else -1
def stepRaw (s : Sh) (c a : Int) : Option Sh :=
  if s.D = true then none
  else if 0 ≤ newKindP c then some (pushP s (newKindP c))
  else if c = 2 then some { s with S := s.S ++ [-1] }
  else if c = 16 then (if s.M.getD a.toNat 0 < 0 then none else some { s with S := s.S ++ [s.M.getD a.toNat 0] })
  else if c = 3 ∨ c = 9 ∨ c = 12 ∨ c = 18 then markP s c
  else takeP s c a
def fitsP (s : Sh) : Bool := decide (s.K.length ≤ 300) && decide (s.S.length ≤ 300)
def stepP (s : Sh) (c a : Int) : Option Sh := match stepRaw s c a with
  | some s' => if fitsP s' = true then some s' else none
  | none => none
abbrev Sh.dat (s : Sh) : List Int × List Bool × List Int × List Int × Bool × Unit := (s.K, s.Fu, s.S, s.M, s.D, ())
/-- Answers like o: the shapes count only if it is possible. -/
def Ans (o : Option Sh) (r : ((List Int × List Bool × List Int × List Int × Bool × Unit) × Bool × Unit) × Unit) : Prop := match o with
  | some s => r = ((s.dat, true, ()), ())
  | none => r.1.2.1 = false
theorem getD_mem {α : Type} {xs : List α} {i : Nat} {d : α} (h : i < xs.length) : xs.getD i d ∈ xs := by
  rw [List.getD_eq_getElem?_getD, List.getElem?_eq_getElem h]
  exact List.getElem_mem h
theorem copyInts_tot {l : List Int} (h : l.length ≤ 500000000000) : Tot (fun σ => F_s_copyInts (σ 0) l) (fun r => r = ((l, ()), ())) := by
  refine tot_s_copyInts ?_
  unfold B_s_copyInts
  simp only [tot_chk, tot_some, room_iff, List.length_nil, and_true]
  omega
theorem copyShapes_tot {s : Sh} (h : ShI s) : Tot (fun σ => F_s_copyShapes (σ 0) s.K s.Fu s.S s.M s.D) (fun r => r = ((s.dat, ()), ())) := by
  have h1 := h.kl; have h2 := h.sl; have h3 := h.ml; have h4 := h.full
  refine tot_s_copyShapes ?_
  unfold B_s_copyShapes
  refine (copyInts_tot (by omega)).bind ?_
  rintro _ rfl
  simp only [tot_chk, room_iff, List.length_nil]
  refine ⟨by omega, (copyInts_tot (by omega)).bind ?_⟩
  rintro _ rfl
  refine (copyInts_tot (by omega)).bind ?_
  rintro _ rfl
  simp only [tot_some]
theorem newKind_tot (c : Int) : Tot (fun σ => F_s_newKind (σ 0) c) (fun r => r = ((newKindP c, ()), ())) := by
  refine tot_s_newKind ?_
  unfold B_s_newKind newKindP
  simp only [tot_cond, tot_some, beq_iff_eq, beq_eq_false_iff_ne, ne_eq]
  split <;> rename_i h0 <;> simp [h0]
  split <;> rename_i h1 <;> simp [h1]
  split <;> rename_i h2 <;> simp [h2]
  split <;> rename_i h3 <;> simp [h3]
  split <;> rename_i h4 <;> simp [h4]
theorem keyKind_tot (c : Int) : Tot (fun σ => F_s_keyKind (σ 0) c) (fun r => r = ((keyP c, ()), ())) := by
  refine tot_s_keyKind ?_
  unfold B_s_keyKind keyP
  simp only [tot_cond, tot_some]
  constructor <;> intro h <;> simp [h]
theorem pushShape_tot {s : Sh} (h : ShI s) (kind : Int) : Tot (fun σ => F_s_pushShape (σ 0) s.K s.Fu s.S s.M s.D kind) (fun r => r = (((pushP s kind).dat, ()), ())) := by
  have h1 := h.kl; have h2 := h.sl; have h4 := h.full
  refine tot_s_pushShape ?_
  unfold B_s_pushShape
  have e : w64 ((len (s.K ++ [kind])) - 1) = (s.K.length : Int) := by
    rw [w64_id] <;> simp only [len, List.length_append, List.length_cons, List.length_nil] <;> omega
  simp only [tot_chk, tot_some, room_iff, List.length_cons, List.length_nil, e]
  exact ⟨by omega, by omega, by omega, rfl⟩
theorem shapeAt_tot {s : Sh} (h : ShI s) (d : Nat) (hd : d ≤ 1000) : Tot (fun σ => F_s_shapeAt (σ 0) s.K s.Fu s.S s.M s.D (d : Int)) (fun r => r = ((shapeP s.K s.S d, ()), ())) := by
  have h1 := h.kl; have h2 := h.sl
  refine tot_s_shapeAt ?_
  unfold B_s_shapeAt B_s_shapeAt_J0
  have e : w64 (w64 (len s.S - 1) - d) = (s.S.length : Int) - 1 - d := by
    rw [w64_id (z := len s.S - 1)] <;> (try rw [w64_id]) <;> simp only [len] <;> omega
  simp only [e, tot_cond, tot_jn, tot_chk, tot_some, decide_eq_true_eq, decide_eq_false_iff_not, inb_iff, rdx_eq]
  refine ⟨fun hl => ⟨fun _ => ?_, fun h => by cases h⟩, fun hl => ⟨by omega, fun hn => ?_, fun hn => ⟨by omega, ?_⟩⟩⟩
  · rw [shapeP, if_pos (by omega)]
  · rw [show ((s.S.length : Int) - 1 - d).toNat = s.S.length - 1 - d by omega] at hn
    rw [shapeP, if_neg (by omega), if_pos hn]
  · rw [show ((s.S.length : Int) - 1 - d).toNat = s.S.length - 1 - d by omega] at hn ⊢
    have := (h.st _ (getD_mem (xs := s.S) (i := s.S.length - 1 - d) (d := 0) (by omega))).2
    rw [shapeP, if_neg (by omega), if_neg hn]
    exact ⟨⟨by omega, this⟩, rfl⟩
theorem markAt_lt {S : List Int} : ∀ {n i : Nat}, markAt S n = some i → i < n ∧ S.getD i 0 < 0 ∧ ∀ j, i < j → j < n → 0 ≤ S.getD j 0
  | 0, i, h => by simp [markAt] at h
  | n + 1, i, h => by
    simp only [markAt] at h
    split at h
    · rename_i hn
      cases h
      exact ⟨by omega, hn, fun j h1 h2 => by omega⟩
    · rename_i hn
      obtain ⟨h1, h2, h3⟩ := markAt_lt h
      refine ⟨by omega, h2, fun j hj hj' => ?_⟩
      by_cases e : j = n
      · subst e; omega
      · exact h3 j hj (by omega)
theorem ShI.take {s : Sh} (h : ShI s) (i : Nat) : ShI { s with S := s.S.take i } :=
  ⟨h.full, fun x hx => h.st x (List.mem_of_mem_take hx), h.ml, h.me, h.kl, by have := h.sl; simp only [List.length_take]; omega⟩
theorem keysOk_cons2 (K : List Int) (x y : Int) (r : List Int) : keysOk K (x :: y :: r) = (keyP (K.getD x.toNat 0) && keysOk K r) := rfl
theorem markShapes_tot {s : Sh} (h : ShI s) (c : Int) : Tot (fun σ => F_s_markShapes (σ 0) s.K s.Fu s.S s.M s.D c) (Ans (markP s c)) := by
  have h1 := h.kl; have h2 := h.sl
  refine tot_s_markShapes ?_
  unfold B_s_markShapes
  have e : w64 (len s.S - 1) = (s.S.length : Int) - 1 := by rw [w64_id] <;> simp only [len] <;> omega
  rw [e]
  have key := loop_s_markShapes_L1 (Q := fun c' K Fu S M D _ at6 => Ans (markP s c)) (I := fun c' K Fu S M D _ at6 => c' = c ∧ K = s.K ∧ Fu = s.Fu ∧ S = s.S ∧ M = s.M ∧ D = s.D ∧ ∃ n : Nat, at6 = (n : Int) - 1 ∧ n ≤ s.S.length ∧ markAt s.S n = markAt s.S s.S.length)
    (μ := fun _ _ _ _ _ _ _ at6 => (at6 + 1).toNat) ?_
  · exact key c s.K s.Fu s.S s.M s.D false _ ⟨rfl, rfl, rfl, rfl, rfl, rfl, s.S.length, rfl, Nat.le_refl _, rfl⟩
  intro c' K Fu S M D t4 at6 ⟨hc, hK, hFu, hS, hM, hD, n, hat, hn, hm⟩ again hag ih
  subst hc hK hFu hS hM hD hat
  unfold B_s_markShapes_L1b B_s_markShapes_J0
  simp only [tot_cond, tot_jn, tot_chk, decide_eq_true_eq, decide_eq_false_iff_not, inb_iff]
  cases n with
  | zero =>
    refine ⟨fun h0 => by omega, fun _ => ⟨fun h0 => absurd h0 (by decide), fun _ => ⟨fun _ => ?_, fun h0 => by omega⟩⟩⟩
    rw [tot_some, markP, ← hm]
    rfl
  | succ i =>
    simp only [show ((i + 1 : Nat) : Int) - 1 = (i : Int) by omega, Int.toNat_natCast]
    refine ⟨fun _ => ⟨⟨by omega, by omega⟩, by omega, fun hge => ?_, fun hlt => ⟨fun h0 => by omega, fun _ => ?_⟩⟩, fun h0 => by omega⟩
    · rw [show w64 ((i : Int) - 1) = (i : Int) - 1 from w64_id (by omega) (by omega)]
      refine ih c' s.K s.Fu s.S s.M s.D t4 _ ⟨rfl, rfl, rfl, rfl, rfl, rfl, i, rfl, by omega, ?_⟩ (by omega)
      rw [← hm, markAt, if_neg (by omega)]
    · have hmk : markAt s.S s.S.length = some i := by rw [← hm, markAt, if_pos (by omega)]
      obtain ⟨hi, hneg, hpos⟩ := markAt_lt hmk
      have hit : ShI { s with S := s.S.take i } := h.take i
      have e1 : w64 ((i : Int) + 1) = (i : Int) + 1 := w64_id (by omega) (by omega)
      simp only [e1, len, cutb_iff, Int.toNat_natCast, List.take_length, List.drop_zero, show ((i : Int) + 1).toNat = i + 1 by omega]
      refine ⟨by omega, (copyInts_tot (by simp only [List.length_drop]; omega)).bind ?_⟩
      rintro _ rfl
      simp only [tot_chk, cutb_iff, tot_cond, beq_iff_eq, beq_eq_false_iff_ne, ne_eq]
      refine ⟨by omega, fun hc3 => ?_, fun hc3 => ⟨fun hc9 => ?_, fun hc9 => ⟨fun hc12 => ?_, fun hc12 => ?_⟩⟩⟩
      · refine (pushShape_tot hit 2).bind ?_
        rintro _ rfl
        rw [tot_some, markP, hmk]
        simp only [hc3, if_true]
        rfl
      · refine (shapeAt_tot hit 0 (by omega)).bind ?_
        rintro _ rfl
        rw [tot_some, markP, hmk]
        simp only [hc9, hc3, if_true, show ¬ (9 : Int) = 3 by omega, if_false]
        split
        · rename_i hk; simp [Ans, hk, Sh.dat]
        · rename_i hk; simp [Ans, hk]
      · have hmp : markP s c' = if shapeP s.K (s.S.take i) 0 = 4 ∧ (s.S.drop (i + 1)).length % 2 = 0 ∧ keysOk s.K (s.S.drop (i + 1)) = true then some { s with S := s.S.take i } else none := by
          rw [markP, hmk]; simp [hc3, hc9, hc12]
        rw [hmp]
        generalize hl : s.S.drop (i + 1) = l
        have hlm : ∀ x ∈ l, 0 ≤ x ∧ x < (s.K.length : Int) := by
          intro x hx
          rw [← hl] at hx
          obtain ⟨j, hj, e⟩ := List.getElem_of_mem hx
          rw [List.getElem_drop] at e
          have hj' : i + 1 + j < s.S.length := by simp only [List.length_drop] at hj; omega
          have h3 := hpos (i + 1 + j) (by omega) hj'
          rw [List.getD_eq_getElem?_getD, List.getElem?_eq_getElem hj', Option.getD_some, e] at h3
          exact ⟨h3, (h.st x (by rw [← e]; exact List.getElem_mem _)).2⟩
        have hll : l.length ≤ 1000000 := by rw [← hl, List.length_drop]; omega
        have key2 := loop_s_markShapes_L2 (Q := fun K Fu S M D _ list i' => Ans (if shapeP s.K (s.S.take i) 0 = 4 ∧ l.length % 2 = 0 ∧ keysOk s.K l = true then some { s with S := s.S.take i } else none))
          (I := fun K Fu S M D _ list i' => K = s.K ∧ Fu = s.Fu ∧ S = s.S.take i ∧ M = s.M ∧ D = s.D ∧ list = l ∧ ∃ j : Nat, i' = (j : Int) ∧ j ≤ l.length + 1 ∧ j % 2 = 0 ∧ keysOk s.K l = keysOk s.K (l.drop j)) (μ := fun _ _ _ _ _ _ _ i' => (l.length + 2 - i').toNat) ?_
        · exact key2 s.K s.Fu (s.S.take i) s.M s.D t4 l 0 ⟨rfl, rfl, rfl, rfl, rfl, rfl, 0, rfl, by omega, rfl, rfl⟩
        intro K Fu S M D t5 list i' ⟨hK, hFu, hS, hM, hD, hL, j, hj, hjl, hj2, hk⟩ again2 hag2 ih2
        subst hK hFu hS hM hD hL hj
        unfold B_s_markShapes_L2b
        simp only [tot_cond, tot_chk, decide_eq_true_eq, decide_eq_false_iff_not, inb_iff, len, Int.toNat_natCast]
        refine ⟨fun hlt => ?_, fun hge => ?_⟩
        · have hj3 : j < list.length := by omega
          have hx := hlm _ (getD_mem (d := 0) hj3)
          refine ⟨by omega, hj3, hx, by omega, (keyKind_tot _).bind ?_⟩
          rintro _ rfl
          rw [tot_cond]
          have hdrop : list.drop j = list.getD j 0 :: list.drop (j + 1) := by
            rw [List.drop_eq_getElem_cons hj3, List.getD_eq_getElem?_getD, List.getElem?_eq_getElem hj3]; rfl
          refine ⟨fun hb => ?_, fun hb => ?_⟩
          · rw [tot_some]
            have : keysOk s.K list = false := by
              rw [hk, hdrop]
              have hb' : keyP (s.K.getD (list.getD j 0).toNat 0) = false := by simpa using hb
              cases hq : list.drop (j + 1) with
              | nil => simp only [keysOk, hb']
              | cons y r => simp only [keysOk, hb', Bool.false_and]
            simp [Ans, this]
          · have e2 : w64 ((j : Int) + 2) = ((j + 2 : Nat) : Int) := by rw [w64_id (by omega) (by omega)]; omega
            rw [e2]
            refine ih2 _ _ _ _ _ _ _ _ ⟨rfl, rfl, rfl, rfl, rfl, rfl, j + 2, rfl, by omega, by omega, ?_⟩ (by omega)
            rw [hk, hdrop]
            have hb' : keyP (s.K.getD (list.getD j 0).toNat 0) = true := by simpa using hb
            cases hq : list.drop (j + 1) with
            | nil =>
              have : list.drop (j + 2) = [] := by rw [show j + 2 = j + 1 + 1 by omega, ← List.drop_drop, hq]; rfl
              simp only [keysOk, hb', this]
            | cons y r =>
              have : list.drop (j + 2) = r := by rw [show j + 2 = j + 1 + 1 by omega, ← List.drop_drop, hq]; rfl
              simp only [keysOk, hb', this, Bool.true_and]
        · have hko : keysOk s.K list = true := by rw [hk, List.drop_eq_nil_of_le (by omega)]; rfl
          refine (shapeAt_tot hit 0 (by omega)).bind ?_
          rintro _ rfl
          rw [tot_cond]
          simp only [tot_some, beq_iff_eq, beq_eq_false_iff_ne, ne_eq, hko, and_true]
          refine ⟨fun h4 => ?_, fun h4 => ?_⟩
          · have e3 : ((list.length : Int).tmod 2 == 0) = decide (list.length % 2 = 0) := by
              rw [Int.tmod_eq_emod_of_nonneg (by omega)]
              rw [Bool.eq_iff_iff]; simp only [beq_iff_eq, decide_eq_true_eq]; omega
            simp only [h4, true_and, e3]
            split
            · rename_i hq; simp [Ans, hq, Sh.dat]
            · rename_i hq; simp [Ans, hq]
          · simp [Ans, h4]
      · rw [tot_some, markP, hmk]
        simp [hc3, hc9, hc12, Ans, Sh.dat]
end Go.Gx

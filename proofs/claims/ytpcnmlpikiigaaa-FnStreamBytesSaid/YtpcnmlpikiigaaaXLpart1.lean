/-
  Plain laws about the printed functions.
-/
import Derived.Test.YtpcnmlpikiigaaaXGpart4
import Derived.Test.YtpcnmlpikiigaaaXSh
set_option linter.unusedVariables false
set_option linter.unusedSimpArgs false
namespace Go.Gx
/-- What is known of the reader's bytes and its place. -/
structure RD (b : List Int) (p : Int) : Prop where
  byte : ∀ z ∈ b, 0 ≤ z ∧ z ≤ 255
  len : b.length ≤ 2000
  p0 : 0 ≤ p
  p1 : p ≤ 1000000000
theorem RD.next {b : List Int} {p q : Int} (h : RD b p) (h0 : p ≤ q) (h1 : q ≤ 1000000000) : RD b q := ⟨h.byte, h.len, by have := h.p0; omega, h1⟩
theorem RD.at {b : List Int} {p : Int} (h : RD b p) {z : Int} (h0 : 0 ≤ z) (h1 : z < (b.length : Int)) : 0 ≤ rdx (0 : Int) b z ∧ rdx (0 : Int) b z ≤ 255 := h.byte _ (rdx_mem h0 h1)
theorem xor64_nonneg {x y : Int} (hx : 0 ≤ x) (hx' : x < 9223372036854775808) (hy : 0 ≤ y) (hy' : y < 9223372036854775808) : 0 ≤ xor64 x y ∧ xor64 x y < 9223372036854775808 := by
  have e : xor64 x y = w64 ((x.toNat ^^^ y.toNat : Nat) : Int) := by
    unfold xor64 w64
    congr 1
    show ((BitVec.ofInt 64 x ^^^ BitVec.ofInt 64 y).toNat : Int) = _
    rw [BitVec.toNat_xor, BitVec.toNat_ofInt, BitVec.toNat_ofInt]
    congr 2 <;> omega
  have h1 : x.toNat < 2 ^ 63 := by omega
  have h2 : y.toNat < 2 ^ 63 := by omega
  have h3 := Nat.xor_lt_two_pow h1 h2
  rw [e, w64_id (by omega) (by omega)]
  omega
/-- What a function that draws leaves of the reader. -/
def Drawn {R : Type} (b : List Int) (p c : Int) (Q : R → Prop) (r : R × ((List Int × Int × Unit) × Unit)) : Prop := ∃ x q, r = (x, ((b, q, ()), ())) ∧ p ≤ q ∧ q ≤ p + c ∧ Q x
theorem tmod_in {x n : Int} (hx : 0 ≤ x) (hn : 0 < n) : 0 ≤ x.tmod n ∧ x.tmod n < n := ⟨Int.tmod_nonneg _ hx, Int.tmod_lt_of_pos _ hn⟩
theorem tdiv_in {x n : Int} (hx : 0 ≤ x) (hn : 0 < n) : 0 ≤ x.tdiv n ∧ x.tdiv n ≤ x := ⟨Int.tdiv_nonneg hx (by omega), Int.tdiv_le_self _ hx⟩
theorem pick_tot {b : List Int} {p n : Int} (h : RD b p) (hp : p < 1000000000) (hn : -9223372036854775808 ≤ n ∧ n ≤ 9223372036854775807) :
    Tot (fun s => F_Z10 (s 0) b p n) (Drawn b p 1 fun x => ∃ v, x = (v, ()) ∧ 0 ≤ v ∧ (1 ≤ n → v < n)) := by
  refine tot_Z10 ?_
  unfold B_Z10 B_Z10_J0
  have h0 := h.p0
  have hl := h.len
  have e1 : w64 (p + 1) = p + 1 := w64_id (by omega) (by omega)
  have e2 : w64 (p + 1 - 1) = p := by rw [w64_id (by omega) (by omega)]; omega
  have fin : ∀ v : Int, 0 ≤ v → (1 ≤ n → v < n) → Drawn b p 1 (fun x => ∃ v, x = (v, ()) ∧ 0 ≤ v ∧ (1 ≤ n → v < n)) ((v, ()), ((b, p + 1, ()), ())) :=
    fun v h1 h2 => ⟨_, _, rfl, by omega, by omega, v, rfl, h1, h2⟩
  have e3 : w64 (p * 7) = p * 7 := w64_id (by omega) (by omega)
  have e4 : w64 (p * 7 + 3) = p * 7 + 3 := w64_id (by omega) (by omega)
  have e5 : w64 (p * 29) = p * 29 := w64_id (by omega) (by omega)
  simp only [tot_cond, tot_jn, tot_chk, tot_some, e1, e2, e3, e4, e5, len, decide_eq_true_eq, decide_eq_false_iff_not, bne_iff_ne, ne_eq, beq_iff_eq, beq_eq_false_iff_ne, inb_iff]
  refine ⟨fun hn1 => ⟨fun _ => fin 0 (Int.le_refl _) (by omega), fun h => by cases h⟩, fun hn1 => ⟨fun _ => fin 0 (Int.le_refl _) (by omega), fun hb => ⟨fun hlt => ?_, fun hlt => ?_⟩⟩⟩
  · refine ⟨⟨h0, hlt⟩, by omega, ?_⟩
    have hz := h.at h0 hlt
    rw [w64_id (by omega) (by omega)]
    have := tmod_in hz.1 (n := n) (by omega)
    exact fin _ this.1 (fun _ => this.2)
  · have hbl : (0 : Int) < (b.length : Int) := by omega
    have m1 := tmod_in h0 hbl
    have m2 := tmod_in (x := p * 7 + 3) (by omega) hbl
    refine ⟨hb, m1, hb, m2, hb, by omega, ?_⟩
    have z1 := h.at m1.1 m1.2
    have z2 := h.at m2.1 m2.2
    have d1 := tdiv_in h0 hbl
    generalize rdx (0 : Int) b (p.tmod b.length) = y1 at z1
    generalize rdx (0 : Int) b ((p * 7 + 3).tmod b.length) = y2 at z2
    generalize p.tdiv (b.length : Int) = y3 at d1
    simp (disch := omega) only [w64_id]
    have hX : 0 ≤ y1 * 131 + y2 * 1117 + p * 29 + y3 * 53 := by omega
    have hX' : y1 * 131 + y2 * 1117 + p * 29 + y3 * 53 < 9223372036854775808 := by omega
    generalize y1 * 131 + y2 * 1117 + p * 29 + y3 * 53 = X at hX hX'
    have d2 := tdiv_in hX (n := 64) (by omega)
    rw [w64_id (z := X.tdiv 64) (by omega) (by omega)]
    have hx := xor64_nonneg hX hX' d2.1 (by omega)
    have := tmod_in hx.1 (n := n) (by omega)
    exact fin _ this.1 (fun _ => this.2)
theorem one_tot {b : List Int} {p : Int} {l : List Int} (h : RD b p) (hp : p < 1000000000) (hl : 0 < l.length) (hm : l.length ≤ 1000000000) :
    Tot (fun s => F_Z14 (s 0) b p l) (Drawn b p 1 fun x => ∃ v, x = (v, ()) ∧ v ∈ l) := by
  refine tot_Z14 ?_
  unfold B_Z14
  refine (pick_tot h hp (n := len l) (by constructor <;> simp only [len] <;> omega)).bind ?_
  rintro _ ⟨_, q, rfl, h1, h2, v, rfl, h3, h4⟩
  simp only [len] at h4
  simp only [tot_chk, tot_some, inb_iff]
  have h5 := h4 (by omega)
  exact ⟨⟨h3, h5⟩, _, _, rfl, h1, h2, _, rfl, rdx_mem h3 h5⟩
theorem newReader_tot {code : List Int} (hc : ∀ z ∈ code, 0 ≤ z ∧ z ≤ 255) (hl : code.length ≤ 1048576) : Tot (fun s => F_Z38 (s 0) code) (fun r => ∃ b, r = (((b, 0, ()), ()), ()) ∧ RD b 0) := by
  refine tot_Z38 ?_
  unfold B_Z38 B_Z38_J0
  simp only [tot_cond, tot_jn, tot_chk, tot_some, len, decide_eq_true_eq, decide_eq_false_iff_not, cutb_iff]
  refine ⟨fun h => ⟨by omega, _, rfl, ?_⟩, fun h => ⟨_, rfl, hc, by omega, by omega, by omega⟩⟩
  refine ⟨fun z hz => hc z (List.mem_of_mem_take (List.mem_of_mem_drop hz)), ?_, by omega, by omega⟩
  simp only [sub, List.length_drop, List.length_take]
  omega
end Go.Gx

/-
  Laws, part 2: the shapes of a machine: what each function of them comes to.
-/
set_option linter.unusedVariables false
set_option linter.unusedSimpArgs false
namespace Go.Gx
structure Sh where
  K : List Int
  Fu : List Bool
  S : List Int
  M : List Int
  D : Bool
/-- What always holds of shapes. -/
structure ShI (s : Sh) : Prop where
  full : s.Fu.length = s.K.length
  st : ∀ x ∈ s.S, -1 ≤ x ∧ x < (s.K.length : Int)
  ml : s.M.length = 20
  me : ∀ x ∈ s.M, -1 ≤ x ∧ x < (s.K.length : Int)
  kl : s.K.length ≤ 1000000
  sl : s.S.length ≤ 1000000
/-- The kind of the thing at a place from the top of the stack. -/
def shapeP (K S : List Int) (d : Nat) : Int := if S.length ≤ d then -1 else if S.getD (S.length - 1 - d) 0 < 0 then -1 else K.getD (S.getD (S.length - 1 - d) 0).toNat 0
def keyP (k : Int) : Bool := k == 0 || k == 1
/-- The topmost mark below a place. -/
def markAt (S : List Int) : Nat → Option Nat
  | 0 => none
  | i + 1 => if S.getD i 0 < 0 then some i else markAt S i
def keysOk (K : List Int) : List Int → Bool
  | [] => true
  | [x] => keyP (K.getD x.toNat 0)
  | x :: _ :: r => keyP (K.getD x.toNat 0) && keysOk K r
def pushP (s : Sh) (kind : Int) : Sh := { s with K := s.K ++ [kind], Fu := s.Fu ++ [false], S := s.S ++ [(s.K.length : Int)] }
def markP (s : Sh) (c : Int) : Option Sh := match markAt s.S s.S.length with
  | none => none
  | some i =>
    if c = 3 then some (pushP { s with S := s.S.take i } 2)
    else if c = 9 then (if shapeP s.K (s.S.take i) 0 = 3 then some { s with S := s.S.take i } else none)
    else if c = 12 then (if shapeP s.K (s.S.take i) 0 = 4 ∧ (s.S.drop (i + 1)).length % 2 = 0 ∧ keysOk s.K (s.S.drop (i + 1)) = true then some { s with S := s.S.take i } else none)
    else some { s with S := s.S.take i }
def dropP (s : Sh) (n : Nat) : Sh := { s with S := s.S.take (s.S.length - n) }
def takeP (s : Sh) (c a : Int) : Option Sh :=
  let x := shapeP s.K s.S 0
  let y := shapeP s.K s.S 1
  if x < 0 then none
  else if c = 5 then some (pushP (dropP s 1) 2)
  else if c = 6 then (if y < 0 then none else some (pushP (dropP s 2) 2))
  else if c = 8 then (if y = 3 then some (dropP s 1) else none)
  else if c = 11 then (if keyP y = true ∧ shapeP s.K s.S 2 = 4 then some (dropP s 2) else none)
  else if c = 14 then (if y = 5 ∧ s.Fu.getD (s.S.getD (s.S.length - 2) 0).toNat false = false then some { dropP s 1 with Fu := s.Fu.set (s.S.getD (s.S.length - 2) 0).toNat true } else none)
  else if c = 15 then some { s with M := s.M.set a.toNat (s.S.getD (s.S.length - 1) 0) }
  else if c = 19 then (if s.S.length = 1 then some { s with D := true } else none)
  else some (dropP s 1)
def newKindP (c : Int) : Int := if c = 0 then 0 else if c = 1 then 1 else if c = 4 then 2 else if c = 7 then 3 else if c = 10 then 4 else if c = 13 then 5 else -1
def stepRaw (s : Sh) (c a : Int) : Option Sh :=
  if s.D = true then none
  else if 0 ≤ newKindP c then some (pushP s (newKindP c))
  else if c = 2 then some { s with S := s.S ++ [-1] }
  else if c = 16 then (if s.M.getD a.toNat 0 < 0 then none else some { s with S := s.S ++ [s.M.getD a.toNat 0] })
  else if c = 3 ∨ c = 9 ∨ c = 12 ∨ c = 18 then markP s c
  else takeP s c a
def fitsP (s : Sh) : Bool := decide (s.K.length ≤ 300) && decide (s.S.length ≤ 300)
def stepP (s : Sh) (c a : Int) : Option Sh := match stepRaw s c a with
  | some s' => if fitsP s' = true then some s' else none
  | none => none
abbrev Sh.dat (s : Sh) : List Int × List Bool × List Int × List Int × Bool × Unit := (s.K, s.Fu, s.S, s.M, s.D, ())
/-- Answers like o: the shapes count only if it is possible. -/
def Ans (o : Option Sh) (r : ((List Int × List Bool × List Int × List Int × Bool × Unit) × Bool × Unit) × Unit) : Prop := match o with
  | some s => r = ((s.dat, true, ()), ())
  | none => r.1.2.1 = false
theorem getD_mem {α : Type} {xs : List α} {i : Nat} {d : α} (h : i < xs.length) : xs.getD i d ∈ xs := by
  rw [List.getD_eq_getElem?_getD, List.getElem?_eq_getElem h]
  exact List.getElem_mem h
theorem copyInts_tot {l : List Int} (h : l.length ≤ 500000000000) : Tot (fun σ => F_Z45 (σ 0) l) (fun r => r = ((l, ()), ())) := by
  refine tot_Z45 ?_
  unfold B_Z45
  simp only [tot_chk, tot_some, room_iff, List.length_nil, and_true]
  omega
theorem copyShapes_tot {s : Sh} (h : ShI s) : Tot (fun σ => F_Z15 (σ 0) s.K s.Fu s.S s.M s.D) (fun r => r = ((s.dat, ()), ())) := by
  have h1 := h.kl; have h2 := h.sl; have h3 := h.ml; have h4 := h.full
  refine tot_Z15 ?_
  unfold B_Z15
  refine (copyInts_tot (by omega)).bind ?_
  rintro _ rfl
  simp only [tot_chk, room_iff, List.length_nil]
  refine ⟨by omega, (copyInts_tot (by omega)).bind ?_⟩
  rintro _ rfl
  refine (copyInts_tot (by omega)).bind ?_
  rintro _ rfl
  simp only [tot_some]
theorem newKind_tot (c : Int) : Tot (fun σ => F_Z52 (σ 0) c) (fun r => r = ((newKindP c, ()), ())) := by
  refine tot_Z52 ?_
  unfold B_Z52 newKindP
  simp only [tot_cond, tot_some, beq_iff_eq, beq_eq_false_iff_ne, ne_eq]
  split <;> rename_i h0 <;> simp [h0]
  split <;> rename_i h1 <;> simp [h1]
  split <;> rename_i h2 <;> simp [h2]
  split <;> rename_i h3 <;> simp [h3]
  split <;> rename_i h4 <;> simp [h4]
theorem keyKind_tot (c : Int) : Tot (fun σ => F_Z57 (σ 0) c) (fun r => r = ((keyP c, ()), ())) := by
  refine tot_Z57 ?_
  unfold B_Z57 keyP
  simp only [tot_cond, tot_some]
  constructor <;> intro h <;> simp [h]
theorem pushShape_tot {s : Sh} (h : ShI s) (kind : Int) : Tot (fun σ => F_Z27 (σ 0) s.K s.Fu s.S s.M s.D kind) (fun r => r = (((pushP s kind).dat, ()), ())) := by
  have h1 := h.kl; have h2 := h.sl; have h4 := h.full
  refine tot_Z27 ?_
  unfold B_Z27
  have e : w64 ((len (s.K ++ [kind])) - 1) = (s.K.length : Int) := by
    rw [w64_id] <;> simp only [len, List.length_append, List.length_cons, List.length_nil] <;> omega
  simp only [tot_chk, tot_some, room_iff, List.length_cons, List.length_nil, e]
  exact ⟨by omega, by omega, by omega, rfl⟩
theorem shapeAt_tot {s : Sh} (h : ShI s) (d : Nat) (hd : d ≤ 1000) : Tot (fun σ => F_Z61 (σ 0) s.K s.Fu s.S s.M s.D (d : Int)) (fun r => r = ((shapeP s.K s.S d, ()), ())) := by
  have h1 := h.kl; have h2 := h.sl
  refine tot_Z61 ?_
  unfold B_Z61 B_Z61_J0
  have e : w64 (w64 (len s.S - 1) - d) = (s.S.length : Int) - 1 - d := by
    rw [w64_id (z := len s.S - 1)] <;> (try rw [w64_id]) <;> simp only [len] <;> omega
  simp only [e, tot_cond, tot_jn, tot_chk, tot_some, decide_eq_true_eq, decide_eq_false_iff_not, inb_iff, rdx_eq]
  refine ⟨fun hl => ⟨fun _ => ?_, fun h => by cases h⟩, fun hl => ⟨by omega, fun hn => ?_, fun hn => ⟨by omega, ?_⟩⟩⟩
  · rw [shapeP, if_pos (by omega)]
  · rw [show ((s.S.length : Int) - 1 - d).toNat = s.S.length - 1 - d by omega] at hn
    rw [shapeP, if_neg (by omega), if_pos hn]
  · rw [show ((s.S.length : Int) - 1 - d).toNat = s.S.length - 1 - d by omega] at hn ⊢
    have := (h.st _ (getD_mem (xs := s.S) (i := s.S.length - 1 - d) (d := 0) (by omega))).2
    rw [shapeP, if_neg (by omega), if_neg hn]
    exact ⟨⟨by omega, this⟩, rfl⟩
theorem markAt_lt {S : List Int} : ∀ {n i : Nat}, markAt S n = some i → i < n ∧ S.getD i 0 < 0 ∧ ∀ j, i < j → j < n → 0 ≤ S.getD j 0
  | 0, i, h => by simp [markAt] at h
  | n + 1, i, h => by
    simp only [markAt] at h
    split at h
    · rename_i hn
      cases h
      exact ⟨by omega, hn, fun j h1 h2 => by omega⟩
    · rename_i hn
      obtain ⟨h1, h2, h3⟩ := markAt_lt h
      refine ⟨by omega, h2, fun j hj hj' => ?_⟩
      by_cases e : j = n
      · subst e; omega
      · exact h3 j hj (by omega)
theorem ShI.take {s : Sh} (h : ShI s) (i : Nat) : ShI { s with S := s.S.take i } :=
  ⟨h.full, fun x hx => h.st x (List.mem_of_mem_take hx), h.ml, h.me, h.kl, by have := h.sl; simp only [List.length_take]; omega⟩
theorem markShapes_tot {s : Sh} (h : ShI s) (c : Int) : Tot (fun σ => F_Z21 (σ 0) s.K s.Fu s.S s.M s.D c) (Ans (markP s c)) := by
  have h1 := h.kl; have h2 := h.sl
  refine tot_Z21 ?_
  unfold B_Z21
  have e : w64 (len s.S - 1) = (s.S.length : Int) - 1 := by rw [w64_id] <;> simp only [len] <;> omega
  rw [e]
  have key := loop_Z21_L1 (Q := fun c' K Fu S M D _ at6 => Ans (markP s c)) (I := fun c' K Fu S M D _ at6 => c' = c ∧ K = s.K ∧ Fu = s.Fu ∧ S = s.S ∧ M = s.M ∧ D = s.D ∧ ∃ n : Nat, at6 = (n : Int) - 1 ∧ n ≤ s.S.length ∧ markAt s.S n = markAt s.S s.S.length)
    (μ := fun _ _ _ _ _ _ _ at6 => (at6 + 1).toNat) ?_
  · exact key c s.K s.Fu s.S s.M s.D false _ ⟨rfl, rfl, rfl, rfl, rfl, rfl, s.S.length, rfl, Nat.le_refl _, rfl⟩
  intro c' K Fu S M D t4 at6 ⟨hc, hK, hFu, hS, hM, hD, n, hat, hn, hm⟩ again hag ih
  subst hc hK hFu hS hM hD hat
  unfold B_Z21_L1b B_Z21_J0
  simp only [tot_cond, tot_jn, tot_chk, decide_eq_true_eq, decide_eq_false_iff_not, inb_iff]
  cases n with
  | zero =>
    refine ⟨fun h0 => by omega, fun _ => ⟨fun h0 => absurd h0 (by decide), fun _ => ⟨fun _ => ?_, fun h0 => by omega⟩⟩⟩
    rw [tot_some, markP, ← hm]
    rfl
  | succ i =>
    simp only [show ((i + 1 : Nat) : Int) - 1 = (i : Int) by omega, Int.toNat_natCast]
    refine ⟨fun _ => ⟨⟨by omega, by omega⟩, by omega, fun hge => ?_, fun hlt => ⟨fun h0 => by omega, fun _ => ?_⟩⟩, fun h0 => by omega⟩
    · rw [show w64 ((i : Int) - 1) = (i : Int) - 1 from w64_id (by omega) (by omega)]
      refine ih c' s.K s.Fu s.S s.M s.D t4 _ ⟨rfl, rfl, rfl, rfl, rfl, rfl, i, rfl, by omega, ?_⟩ (by omega)
      rw [← hm, markAt, if_neg (by omega)]
    · have hmk : markAt s.S s.S.length = some i := by rw [← hm, markAt, if_pos (by omega)]
      obtain ⟨hi, hneg, hpos⟩ := markAt_lt hmk
      have hit : ShI { s with S := s.S.take i } := h.take i
      have e1 : w64 ((i : Int) + 1) = (i : Int) + 1 := w64_id (by omega) (by omega)
      simp only [e1, len, cutb_iff, Int.toNat_natCast, List.take_length, List.drop_zero, show ((i : Int) + 1).toNat = i + 1 by omega]
      refine ⟨by omega, (copyInts_tot (by simp only [List.length_drop]; omega)).bind ?_⟩
      rintro _ rfl
      simp only [tot_chk, cutb_iff, tot_cond, beq_iff_eq, beq_eq_false_iff_ne, ne_eq]
      refine ⟨by omega, fun hc3 => ?_, fun hc3 => ⟨fun hc9 => ?_, fun hc9 => ⟨fun hc12 => ?_, fun hc12 => ?_⟩⟩⟩
      · refine (pushShape_tot hit 2).bind ?_
        rintro _ rfl
        rw [tot_some, markP, hmk]
        simp only [hc3, if_true]
        rfl
      · refine (shapeAt_tot hit 0 (by omega)).bind ?_
        rintro _ rfl
        rw [tot_some, markP, hmk]
        simp only [hc9, hc3, if_true, show ¬ (9 : Int) = 3 by omega, if_false]
        split
        · rename_i hk; simp [Ans, hk, Sh.dat]
        · rename_i hk; simp [Ans, hk]
      · have hmp : markP s c' = if shapeP s.K (s.S.take i) 0 = 4 ∧ (s.S.drop (i + 1)).length % 2 = 0 ∧ keysOk s.K (s.S.drop (i + 1)) = true then some { s with S := s.S.take i } else none := by
          rw [markP, hmk]; simp [hc3, hc9, hc12]
        rw [hmp]
        generalize hl : s.S.drop (i + 1) = l
        have hlm : ∀ x ∈ l, 0 ≤ x ∧ x < (s.K.length : Int) := by
          intro x hx
          rw [← hl] at hx
          obtain ⟨j, hj, e⟩ := List.getElem_of_mem hx
          rw [List.getElem_drop] at e
          have hj' : i + 1 + j < s.S.length := by simp only [List.length_drop] at hj; omega
          have h3 := hpos (i + 1 + j) (by omega) hj'
          rw [List.getD_eq_getElem?_getD, List.getElem?_eq_getElem hj', Option.getD_some, e] at h3
          exact ⟨h3, (h.st x (by rw [← e]; exact List.getElem_mem _)).2⟩
        have hll : l.length ≤ 1000000 := by rw [← hl, List.length_drop]; omega
        have key2 := loop_Z21_L2 (Q := fun K Fu S M D _ list i' => Ans (if shapeP s.K (s.S.take i) 0 = 4 ∧ l.length % 2 = 0 ∧ keysOk s.K l = true then some { s with S := s.S.take i } else none))
          (I := fun K Fu S M D _ list i' => K = s.K ∧ Fu = s.Fu ∧ S = s.S.take i ∧ M = s.M ∧ D = s.D ∧ list = l ∧ ∃ j : Nat, i' = (j : Int) ∧ j ≤ l.length + 1 ∧ j % 2 = 0 ∧ keysOk s.K l = keysOk s.K (l.drop j)) (μ := fun _ _ _ _ _ _ _ i' => (l.length + 2 - i').toNat) ?_
        · exact key2 s.K s.Fu (s.S.take i) s.M s.D t4 l 0 ⟨rfl, rfl, rfl, rfl, rfl, rfl, 0, rfl, by omega, rfl, rfl⟩
        intro K Fu S M D t5 list i' ⟨hK, hFu, hS, hM, hD, hL, j, hj, hjl, hj2, hk⟩ again2 hag2 ih2
        subst hK hFu hS hM hD hL hj
        unfold B_Z21_L2b
        simp only [tot_cond, tot_chk, decide_eq_true_eq, decide_eq_false_iff_not, inb_iff, len, Int.toNat_natCast]
        refine ⟨fun hlt => ?_, fun hge => ?_⟩
        · have hj3 : j < list.length := by omega
          have hx := hlm _ (getD_mem (d := 0) hj3)
          refine ⟨by omega, hj3, hx, by omega, (keyKind_tot _).bind ?_⟩
          rintro _ rfl
          rw [tot_cond]
          have hdrop : list.drop j = list.getD j 0 :: list.drop (j + 1) := by
            rw [List.drop_eq_getElem_cons hj3, List.getD_eq_getElem?_getD, List.getElem?_eq_getElem hj3]; rfl
          refine ⟨fun hb => ?_, fun hb => ?_⟩
          · rw [tot_some]
            have : keysOk s.K list = false := by
              rw [hk, hdrop]
              have hb' : keyP (s.K.getD (list.getD j 0).toNat 0) = false := by simpa using hb
              cases hq : list.drop (j + 1) with
              | nil => simp only [keysOk, hb']
              | cons y r => simp only [keysOk, hb', Bool.false_and]
            simp [Ans, this]
          · have e2 : w64 ((j : Int) + 2) = ((j + 2 : Nat) : Int) := by rw [w64_id (by omega) (by omega)]; omega
            rw [e2]
            refine ih2 _ _ _ _ _ _ _ _ ⟨rfl, rfl, rfl, rfl, rfl, rfl, j + 2, rfl, by omega, by omega, ?_⟩ (by omega)
            rw [hk, hdrop]
            have hb' : keyP (s.K.getD (list.getD j 0).toNat 0) = true := by simpa using hb
            cases hq : list.drop (j + 1) with
            | nil =>
              have : list.drop (j + 2) = [] := by rw [show j + 2 = j + 1 + 1 by omega, ← List.drop_drop, hq]; rfl
              simp only [keysOk, hb', this]
            | cons y r =>
              have : list.drop (j + 2) = r := by rw [show j + 2 = j + 1 + 1 by omega, ← List.drop_drop, hq]; rfl
              simp only [keysOk, hb', this, Bool.true_and]
        · have hko : keysOk s.K list = true := by rw [hk, List.drop_eq_nil_of_le (by omega)]; rfl
          refine (shapeAt_tot hit 0 (by omega)).bind ?_
          rintro _ rfl
          rw [tot_cond]
          simp only [tot_some, beq_iff_eq, beq_eq_false_iff_ne, ne_eq, hko, and_true]
          refine ⟨fun h4 => ?_, fun h4 => ?_⟩
          · have e3 : ((list.length : Int).tmod 2 == 0) = decide (list.length % 2 = 0) := by
              rw [Int.tmod_eq_emod_of_nonneg (by omega)]
              rw [Bool.eq_iff_iff]; simp only [beq_iff_eq, decide_eq_true_eq]; omega
            simp only [h4, true_and, e3]
            split
            · rename_i hq; simp [Ans, hq, Sh.dat]
            · rename_i hq; simp [Ans, hq]
          · simp [Ans, h4]
      · rw [tot_some, markP, hmk]
        simp [hc3, hc9, hc12, Ans, Sh.dat]
end Go.Gx

/-
  Laws, part 3: a step of the shapes.
-/
set_option linter.unusedVariables false
set_option linter.unusedSimpArgs false
namespace Go.Gx
theorem ShI.push {s : Sh} (h : ShI s) (hk : s.K.length < 1000000) (hs : s.S.length < 1000000) (k : Int) : ShI (pushP s k) := by
  refine ⟨by simp [pushP, h.full], fun x hx => ?_, h.ml, fun x hx => ?_, by simp only [pushP, List.length_append, List.length_cons, List.length_nil]; omega, by simp only [pushP, List.length_append, List.length_cons, List.length_nil]; omega⟩
  · simp only [pushP, List.mem_append, List.mem_cons, List.not_mem_nil, or_false, List.length_append, List.length_cons, List.length_nil] at hx ⊢
    rcases hx with hx | rfl
    · have := h.st x hx; omega
    · omega
  · have := h.me x hx
    simp only [pushP, List.length_append, List.length_cons, List.length_nil]
    omega
theorem shapeP_pos {s : Sh} {d : Nat} (h : ¬ shapeP s.K s.S d < 0) : d < s.S.length ∧ 0 ≤ s.S.getD (s.S.length - 1 - d) 0 := by
  unfold shapeP at h
  split at h
  · omega
  · split at h
    · omega
    · omega
theorem takeShapes_tot {s : Sh} (h : ShI s) (c a : Int) (ha : c = 15 → 0 ≤ a ∧ a < 20) : Tot (fun σ => F_Z23 (σ 0) s.K s.Fu s.S s.M s.D c a) (Ans (takeP s c a)) := by
  have h1 := h.kl; have h2 := h.sl; have h3 := h.ml; have h4 := h.full
  refine tot_Z23 ?_
  unfold B_Z23
  refine (shapeAt_tot h 0 (by omega)).bind ?_
  rintro _ rfl
  refine (shapeAt_tot h 1 (by omega)).bind ?_
  rintro _ rfl
  have pos0 : ¬ shapeP s.K s.S 0 < 0 → 1 ≤ s.S.length ∧ 0 ≤ s.S.getD (s.S.length - 1) 0 := fun h => by have := shapeP_pos h; exact ⟨by omega, this.2⟩
  have pos1 : ¬ shapeP s.K s.S 1 < 0 → 2 ≤ s.S.length ∧ 0 ≤ s.S.getD (s.S.length - 2) 0 := fun h => by have := shapeP_pos h; exact ⟨by omega, by rw [show s.S.length - 1 - 1 = s.S.length - 2 by omega] at this; exact this.2⟩
  have w1 : w64 (len s.S - 1) = (s.S.length : Int) - 1 := by rw [w64_id] <;> simp only [len] <;> omega
  have w2 : w64 (len s.S - 2) = (s.S.length : Int) - 2 := by rw [w64_id] <;> simp only [len] <;> omega
  have w0 : w64 (len s.S - 0) = (s.S.length : Int) := by rw [w64_id] <;> simp only [len] <;> omega
  unfold takeP
  simp only
  generalize hx : shapeP s.K s.S 0 = x at pos0
  generalize hy : shapeP s.K s.S 1 = y at pos1
  have tk : ∀ n : Nat, s.S.take (((s.S.length : Int) - n).toNat) = s.S.take (s.S.length - n) := fun n => by congr 1; omega
  -- the end
  have j2 : ∀ (t4 ok : Bool) (n : Nat) (o : Option Sh), n ≤ 2 → (ok = true → n ≤ s.S.length) → o = (if ok = true then some (dropP s n) else none) →
      Tot (fun σ => B_Z23_J2 (σ 0) (F_Z61 (σ 0)) (F_Z27 (σ 0)) (F_Z57 (σ 0)) s.K s.Fu s.S s.M s.D t4 ok (n : Int)) (Ans o) := by
    intro t4 ok n o hn hok ho
    subst ho
    unfold B_Z23_J2
    have wn : w64 (len s.S - (n : Int)) = (s.S.length : Int) - n := by rw [w64_id] <;> simp only [len] <;> omega
    cases ok with
    | true =>
      have := hok rfl
      simp only [tot_cond, tot_chk, tot_some, wn, cutb_iff, tk]
      exact ⟨fun h0 => absurd h0 (by decide), fun _ => ⟨by omega, rfl⟩⟩
    | false =>
      simp only [tot_cond, tot_some]
      exact ⟨fun _ => rfl, fun h0 => absurd h0 (by decide)⟩
  simp only [tot_cond, tot_jn, tot_chk, tot_some, beq_iff_eq, beq_eq_false_iff_ne, ne_eq, decide_eq_true_eq, decide_eq_false_iff_not, Bool.not_eq_true', Bool.not_eq_false', w1, w2, cutb_iff, inb_iff]
  have i1 : ((s.S.length : Int) - 1).toNat = s.S.length - 1 := by omega
  have i2 : ((s.S.length : Int) - 2).toNat = s.S.length - 2 := by omega
  simp only [i1, i2]
  refine ⟨fun h5 => ?_, fun h5 => ⟨fun h6 => ?_, fun h6 => ⟨fun h8 => ?_, fun h8 => ⟨fun h11 => ?_, fun h11 => ⟨fun h14 => ?_, fun h14 => ⟨fun h15 => ?_, fun h15 => ⟨fun h19 => ?_, fun h19 => ?_⟩⟩⟩⟩⟩⟩⟩
  · subst h5
    refine ⟨fun hn => ?_, fun hn => ?_⟩
    · rw [if_pos (by omega)]; exact rfl
    · have hp := pos0 (by omega)
      rw [if_neg (by omega)]
      simp only [↓reduceIte]
      refine ⟨by omega, (pushShape_tot (h.take (s.S.length - 1)) 2).bind ?_⟩
      rintro _ rfl
      rw [tot_some]
      rfl
  · subst h6
    unfold B_Z23_J0
    simp only [tot_cond, tot_chk, tot_some, w2, cutb_iff, i2, decide_eq_true_eq, decide_eq_false_iff_not]
    refine ⟨fun hn => ⟨fun _ => ?_, fun h0 => absurd h0 (by decide)⟩, fun hn => ⟨fun hy0 => ?_, fun hy0 => ?_⟩⟩
    · rw [if_pos (by omega)]; exact rfl
    · rw [if_neg (by omega)]
      simp only [↓reduceIte, Int.reduceEq]
      rw [if_pos hy0]; exact rfl
    · rw [if_neg (by omega)]
      simp only [↓reduceIte, Int.reduceEq]
      rw [if_neg hy0]
      have hp := pos1 hy0
      refine ⟨by omega, (pushShape_tot (h.take (s.S.length - 2)) 2).bind ?_⟩
      rintro _ rfl
      rw [tot_some]
      rfl
  · subst h8
    simp only [↓reduceIte, Int.reduceEq]
    refine ⟨fun hp => ?_, fun hp => ?_⟩
    · rw [if_neg (by omega)]
      exact j2 false (y == 3) 1 _ (by omega) (fun _ => (pos0 (by omega)).1) (by simp)
    · rw [if_pos (by omega)]
      exact j2 false false 1 _ (by omega) (fun h0 => absurd h0 (by decide)) (by simp)
  · subst h11
    simp only [↓reduceIte, Int.reduceEq]
    refine ⟨fun hp => ?_, fun hp => ?_⟩
    · rw [if_neg (by omega)]
      refine (keyKind_tot y).bind ?_
      rintro _ rfl
      simp only [tot_cond, tot_jn]
      refine ⟨fun hk => ?_, fun hk => ?_⟩
      · refine (shapeAt_tot h 2 (by omega)).bind ?_
        rintro _ rfl
        rw [tot_jn]
        refine j2 false (shapeP s.K s.S 2 == 4) 2 _ (by omega) (fun h4 => ?_) (by simp [hk])
        have h4 : shapeP s.K s.S 2 = 4 := by simpa using h4
        have := shapeP_pos (s := s) (d := 2) (by omega)
        omega
      · exact j2 false false 2 _ (by omega) (fun h0 => absurd h0 (by decide)) (by simp [hk])
    · rw [if_pos (by omega)]
      exact j2 false false 2 _ (by omega) (fun h0 => absurd h0 (by decide)) (by simp)
  · subst h14
    simp only [↓reduceIte, Int.reduceEq]
    unfold B_Z23_J1
    simp only [tot_cond, tot_chk, tot_jn, w2, i2, inb_iff, decide_eq_true_eq, Bool.not_eq_true', Bool.not_eq_false']
    have bad : ∀ (ok : Bool), ok = false → ∀ t4 : Bool, ∀ o : Option Sh, o = none → Tot (fun σ => B_Z23_J2 (σ 0) (F_Z61 (σ 0)) (F_Z27 (σ 0)) (F_Z57 (σ 0)) s.K s.Fu s.S s.M s.D t4 ok 1) (Ans o) := fun ok hok t4 o ho => j2 t4 ok 1 o (by omega) (fun h0 => by rw [hok] at h0; cases h0) (by rw [ho, hok]; rfl)
    refine ⟨fun hp => ⟨fun h5 => ?_, fun h5 => ⟨fun h0 => absurd h0 (by decide), fun _ => ?_⟩⟩, fun hp => ⟨fun h0 => absurd h0 (by decide), fun _ => ?_⟩⟩
    · have hp1 := pos1 (by omega)
      have hm := h.st _ (getD_mem (xs := s.S) (i := s.S.length - 2) (d := 0) (by omega))
      rw [if_neg (by omega)]
      refine ⟨by omega, by omega, by omega, by omega, fun hf => ?_, fun hf => ?_⟩
      · refine ⟨by omega, by omega, by omega, by omega, ?_⟩
        rw [if_pos ⟨h5, hf⟩]
        have hs' : ShI { s with Fu := s.Fu.set (s.S.getD (s.S.length - 2) 0).toNat true } := ⟨by simp [h.full], h.st, h.ml, h.me, h.kl, h.sl⟩
        unfold B_Z23_J2
        rw [hf]
        simp only [tot_cond, tot_chk, tot_some, w1, cutb_iff, i1]
        exact ⟨fun h0 => absurd h0 (by decide), fun _ => ⟨by omega, rfl⟩⟩
      · exact bad _ (by rw [hf]; rfl) false _ (by rw [if_neg (by rw [hf]; simp)])
    · rw [if_neg (by omega)]
      exact bad false rfl false _ (by rw [if_neg (by simp [h5])])
    · rw [if_pos (by omega)]
      exact bad false rfl false _ rfl
  · subst h15
    have ha' := ha rfl
    simp only [↓reduceIte, Int.reduceEq]
    refine ⟨fun hp => ⟨by have := pos0 (by omega); omega, by have := pos0 (by omega); omega, by omega, by omega, ?_⟩, fun hp => ?_⟩
    · rw [if_neg (by omega), show decide (x ≥ 0) = true by simpa using hp]
      unfold B_Z23_J2
      simp only [tot_cond, tot_chk, tot_some, w0, cutb_iff, Int.toNat_natCast, List.take_length]
      exact ⟨fun h0 => absurd h0 (by decide), fun _ => ⟨by omega, rfl⟩⟩
    · rw [if_pos (by omega), show decide (x ≥ 0) = false by simpa using hp]
      exact j2 false false 0 _ (by omega) (fun h0 => absurd h0 (by decide)) (by simp)
  · subst h19
    simp only [↓reduceIte, Int.reduceEq]
    unfold B_Z23_J2
    simp only [tot_cond, tot_chk, tot_some, w0, cutb_iff, Int.toNat_natCast, List.take_length]
    refine ⟨fun hp => ⟨fun hl => ?_, fun hl => ⟨by omega, ?_⟩⟩, fun hp => ⟨fun _ => ?_, fun h0 => absurd h0 (by decide)⟩⟩
    · have hl' : ¬ s.S.length = 1 := by
        intro e
        simp [len, e] at hl
      rw [if_neg (by omega), if_neg hl']; exact rfl
    · have hl' : s.S.length = 1 := by
        have : (len s.S == 1) = true := by simpa using hl
        simp only [len, beq_iff_eq] at this
        omega
      rw [if_neg (by omega), if_pos hl']; exact rfl
    · rw [if_pos (by omega)]; exact rfl
  · simp only [h5, h6, h8, h11, h14, h15, h19, ↓reduceIte]
    by_cases hx0 : x < 0
    · rw [if_pos hx0, show decide (x ≥ 0) = false by simp; omega]
      exact j2 false false 1 _ (by omega) (fun h0 => absurd h0 (by decide)) (by simp)
    · rw [if_neg hx0, show decide (x ≥ 0) = true by simp; omega]
      exact j2 false true 1 _ (by omega) (fun _ => (pos0 hx0).1) (by simp)
theorem takeP_inv {s : Sh} (h : ShI s) (hk : s.K.length ≤ 900000) (hs : s.S.length ≤ 900000) {c a : Int} {s' : Sh} (ht : takeP s c a = some s') : ShI s' := by
  have hd : ∀ n, ShI (dropP s n) := fun n => h.take _
  have hp : ∀ n k, ShI (pushP (dropP s n) k) := fun n k => (hd n).push (by show s.K.length < _; omega) (by show (s.S.take _).length < _; simp only [List.length_take]; omega) k
  unfold takeP at ht
  simp only at ht
  split at ht
  · cases ht
  rename_i hx
  have hpos := shapeP_pos hx
  have hm := h.st _ (getD_mem (xs := s.S) (i := s.S.length - 1) (d := 0) (by omega))
  split at ht
  · cases ht; exact hp 1 2
  split at ht
  · split at ht
    · cases ht
    · cases ht; exact hp 2 2
  split at ht
  · split at ht
    · cases ht; exact hd 1
    · cases ht
  split at ht
  · split at ht
    · cases ht; exact hd 2
    · cases ht
  split at ht
  · split at ht
    · cases ht
      exact ⟨by show (s.Fu.set _ _).length = s.K.length; simp [h.full], fun x hx => h.st x (List.mem_of_mem_take hx), h.ml, h.me, h.kl, (hd 1).sl⟩
    · cases ht
  split at ht
  · cases ht
    refine ⟨h.full, h.st, by simp [h.ml], fun x hx => ?_, h.kl, h.sl⟩
    rcases List.mem_or_eq_of_mem_set hx with hx | rfl
    · exact h.me x hx
    · exact hm
  split at ht
  · split at ht
    · cases ht; exact ⟨h.full, h.st, h.ml, h.me, h.kl, h.sl⟩
    · cases ht
  · cases ht; exact hd 1
theorem markP_inv {s : Sh} (h : ShI s) (hk : s.K.length ≤ 900000) (hs : s.S.length ≤ 900000) {c : Int} {s' : Sh} (ht : markP s c = some s') : ShI s' := by
  unfold markP at ht
  split at ht
  · cases ht
  rename_i i hi
  split at ht
  · cases ht
    exact (h.take i).push (by show s.K.length < _; omega) (by show (s.S.take _).length < _; simp only [List.length_take]; omega) 2
  split at ht
  · split at ht
    · cases ht; exact h.take i
    · cases ht
  split at ht
  · split at ht
    · cases ht; exact h.take i
    · cases ht
  · cases ht; exact h.take i
theorem stepRaw_inv {s : Sh} (h : ShI s) (hk : s.K.length ≤ 900000) (hs : s.S.length ≤ 900000) {c a : Int} (ha : c = 15 ∨ c = 16 → 0 ≤ a ∧ a < 20) {s' : Sh} (ht : stepRaw s c a = some s') : ShI s' := by
  unfold stepRaw at ht
  split at ht
  · cases ht
  split at ht
  · cases ht; exact h.push (by omega) (by omega) _
  split at ht
  · cases ht
    refine ⟨h.full, fun x hx => ?_, h.ml, h.me, h.kl, by simp only [List.length_append, List.length_cons, List.length_nil]; omega⟩
    simp only [List.mem_append, List.mem_cons, List.not_mem_nil, or_false] at hx
    rcases hx with hx | rfl
    · exact h.st x hx
    · show -1 ≤ -1 ∧ -1 < (s.K.length : Int); omega
  split at ht
  · split at ht
    · cases ht
    · rename_i hc hneg
      cases ht
      have ha' := ha (.inr hc)
      have hm := h.me _ (getD_mem (xs := s.M) (i := a.toNat) (d := 0) (by have := h.ml; omega))
      refine ⟨h.full, fun x hx => ?_, h.ml, h.me, h.kl, by simp only [List.length_append, List.length_cons, List.length_nil]; omega⟩
      simp only [List.mem_append, List.mem_cons, List.not_mem_nil, or_false] at hx
      rcases hx with hx | rfl
      · exact h.st x hx
      · exact hm
  split at ht
  · exact markP_inv h hk hs ht
  · exact takeP_inv h hk hs ht
theorem stepP_inv {s : Sh} (h : ShI s) (hk : s.K.length ≤ 900000) (hs : s.S.length ≤ 900000) {c a : Int} (ha : c = 15 ∨ c = 16 → 0 ≤ a ∧ a < 20) {s' : Sh} (ht : stepP s c a = some s') : ShI s' ∧ s'.K.length ≤ 300 ∧ s'.S.length ≤ 300 := by
  unfold stepP at ht
  split at ht
  · rename_i s1 h1
    split at ht
    · rename_i hf
      cases ht
      simp only [fitsP, Bool.and_eq_true, decide_eq_true_eq] at hf
      exact ⟨stepRaw_inv h hk hs ha h1, hf⟩
    · cases ht
  · cases ht
theorem stepShapes_tot {s : Sh} (h : ShI s) (hk : s.K.length ≤ 900000) (hs : s.S.length ≤ 900000) (c a : Int) (ha : c = 15 ∨ c = 16 → 0 ≤ a ∧ a < 20) : Tot (fun σ => F_Z13 (σ 0) s.K s.Fu s.S s.M s.D c a) (Ans (stepP s c a)) := by
  have h3 := h.ml
  refine tot_Z13 ?_
  unfold B_Z13
  -- the end
  have j1 : ∀ (t4 : Bool) (o : Option Sh) (r : ((List Int × List Bool × List Int × List Int × Bool × Unit) × Bool × Unit) × Unit), Ans o r →
      Tot (fun σ => B_Z13_J1 (σ 0) (F_Z52 (σ 0)) (F_Z27 (σ 0)) (F_Z21 (σ 0)) (F_Z23 (σ 0)) r.1.1.1 r.1.1.2.1 r.1.1.2.2.1 r.1.1.2.2.2.1 r.1.1.2.2.2.2.1 t4 r.1.2.1)
        (Ans (match o with | some s' => if fitsP s' = true then some s' else none | none => none)) := by
    intro t4 o r hr
    unfold B_Z13_J1
    cases o with
    | none =>
      have hr : r.1.2.1 = false := hr
      simp only [tot_cond, tot_some, hr]
      exact ⟨fun h0 => absurd h0 (by decide), fun _ => rfl⟩
    | some s' =>
      have hr : r = ((s'.dat, true, ()), ()) := hr
      subst hr
      simp only [tot_cond, tot_some, decide_eq_true_eq, decide_eq_false_iff_not, len]
      refine ⟨fun _ => ⟨fun hk' => ?_, fun hk' => ?_⟩, fun h0 => absurd h0 (by decide)⟩
      · by_cases hs' : s'.S.length ≤ 300
        · rw [if_pos (by simp [fitsP, hs']; omega)]
          show _ = _
          simp [Sh.dat]; omega
        · rw [if_neg (by simp [fitsP, hs'])]
          show _ = _
          simp; omega
      · rw [if_neg (by simp [fitsP]; omega)]
        exact rfl
  unfold stepP stepRaw
  simp only [tot_cond, tot_some, Bool.not_not]
  refine ⟨fun hd => ?_, fun hd => ?_⟩
  · rw [if_pos hd]; exact rfl
  rw [if_neg (by rw [hd]; decide)]
  refine (newKind_tot c).bind ?_
  rintro _ rfl
  simp only [tot_cond, tot_jn, tot_chk, decide_eq_true_eq, decide_eq_false_iff_not, beq_iff_eq, beq_eq_false_iff_ne, ne_eq]
  refine ⟨fun hn => ?_, fun hn => ?_⟩
  · rw [if_pos hn]
    refine (newKind_tot c).bind ?_
    rintro _ rfl
    refine (pushShape_tot h _).bind ?_
    rintro _ rfl
    rw [tot_jn]
    have := j1 false (some (pushP s (newKindP c))) (((pushP s (newKindP c)).dat, true, ()), ()) rfl
    rw [show (!s.D) = true by rw [hd]; rfl]
    exact this
  rw [if_neg (by omega)]
  have j0 : ∀ (t4 b : Bool), (b = true ↔ c = 3 ∨ c = 9 ∨ c = 12 ∨ c = 18) → ¬ c = 2 → ¬ c = 16 →
      Tot (fun σ => B_Z13_J0 (σ 0) (F_Z52 (σ 0)) (F_Z27 (σ 0)) (F_Z21 (σ 0)) (F_Z23 (σ 0)) s.K s.Fu s.S s.M s.D c a t4 b)
        (Ans (match (if c = 3 ∨ c = 9 ∨ c = 12 ∨ c = 18 then markP s c else takeP s c a) with | some s' => if fitsP s' = true then some s' else none | none => none)) := by
    intro t4 b hb h2 h16
    unfold B_Z13_J0
    rw [tot_cond]
    refine ⟨fun hb' => ?_, fun hb' => ?_⟩
    · rw [if_pos (hb.1 hb')]
      refine (markShapes_tot h c).bind fun r hr => ?_
      rw [tot_jn]
      exact j1 t4 _ r hr
    · rw [if_neg (fun hc => by rw [hb.2 hc] at hb'; cases hb')]
      refine (takeShapes_tot h c a (fun e => ha (.inl e))).bind fun r hr => ?_
      rw [tot_jn]
      exact j1 t4 _ r hr
  refine ⟨fun h2 => ?_, fun h2 => ⟨fun h16 => ?_, fun h16 => ?_⟩⟩
  · rw [if_pos h2]
    refine ⟨room_iff.2 (by simp only [List.length_cons, List.length_nil]; omega), ?_⟩
    have := j1 false (some { s with S := s.S ++ [-1] }) ((Sh.dat { s with S := s.S ++ [-1] }, true, ()), ()) rfl
    rw [show (!s.D) = true by rw [hd]; rfl]
    exact this
  · have ha' := ha (.inr h16)
    rw [if_neg h2, if_pos h16]
    refine ⟨inb_iff.2 (by omega), by omega, fun hm => ?_, fun hm => ?_⟩
    · rw [if_pos hm, tot_some]; exact rfl
    · rw [if_neg hm]
      refine ⟨inb_iff.2 (by omega), by omega, room_iff.2 (by simp only [List.length_cons, List.length_nil]; omega), ?_⟩
      have := j1 false (some { s with S := s.S ++ [s.M.getD a.toNat 0] }) ((Sh.dat { s with S := s.S ++ [s.M.getD a.toNat 0] }, true, ()), ()) rfl
      rw [show (!s.D) = true by rw [hd]; rfl]
      exact this
  · rw [if_neg h2, if_neg h16]
    exact ⟨fun h3 => j0 false true (by simp [h3]) h2 h16, fun h3 => ⟨fun h9 => j0 false true (by simp [h9]) h2 h16, fun h9 => ⟨fun h12 => j0 false true (by simp [h12]) h2 h16, fun h12 => j0 false (c == 18) (by simp [h3, h9, h12]) h2 h16⟩⟩⟩
end Go.Gx

/-
  Laws, part 4: programs: which are valid, what the shapes are after them, how they are ended.
-/
set_option linter.unusedVariables false
set_option linter.unusedSimpArgs false
namespace Go.Gx
abbrev POp : Type := Int × Int
def argP (c : Int) : Int := if c = 0 then 999 else if c = 1 ∨ c = 13 then 9 else if c = 15 ∨ c = 16 then 19 else -1
def mostP (c : Int) : Int := if c = 0 then 999 else if c = 1 ∨ c = 13 then 9 else if c = 15 ∨ c = 16 then 19 else 0
def okOp (o : POp) : Bool := decide (0 ≤ o.1 ∧ o.1 ≤ 19 ∧ 0 ≤ o.2 ∧ o.2 ≤ mostP o.1)
def okOps (ops : List POp) : Bool := ops.all okOp && decide (ops.length ≤ 300)
def newSh : Sh := ⟨[], [], [], List.replicate 20 (-1), false⟩
def runFrom (s : Sh) : List POp → Nat → Sh × Nat
  | [], n => (s, n)
  | o :: r, n => match stepP s o.1 o.2 with
    | none => (s, n)
    | some s' => runFrom s' r (n + 1)
def runP (ops : List POp) : Sh × Nat := runFrom newSh ops 0
theorem newSh_inv : ShI newSh := ⟨rfl, fun x hx => by simp [newSh] at hx, by simp [newSh], fun x hx => by
  simp only [newSh, List.mem_replicate] at hx
  rw [hx.2]
  simp [newSh], by simp [newSh], by simp [newSh]⟩
theorem argOf_tot (c : Int) : Tot (fun σ => F_s_argOf (σ 0) c) (fun r => r = ((argP c, ()), ())) := by
  refine tot_s_argOf ?_
  unfold B_s_argOf B_s_argOf_J0 argP
  simp only [tot_cond, tot_jn, tot_some, beq_iff_eq, beq_eq_false_iff_ne, ne_eq]
  refine ⟨fun h => by simp [h], fun h0 => ⟨fun h => by simp [h], fun h1 => ⟨fun h => by simp [h], fun h13 => ⟨fun h => ⟨fun _ => by simp [h], fun h' => absurd h h'⟩, fun h15 => ⟨fun h => by simp [h], fun h16 => by simp [h0, h1, h13, h15, h16]⟩⟩⟩⟩⟩
theorem inRange_tot (n lo hi : Int) : Tot (fun σ => F_Z62 (σ 0) n lo hi) (fun r => r = ((decide (lo ≤ n ∧ n ≤ hi), ()), ())) := by
  refine tot_Z62 ?_
  unfold B_Z62
  simp only [tot_cond, tot_some, decide_eq_true_eq, decide_eq_false_iff_not]
  exact ⟨fun h => by simp [h], fun h => by simp [h]⟩
theorem arg_most (c : Int) : (argP c < 0 ∧ mostP c = 0) ∨ (0 ≤ argP c ∧ argP c = mostP c) := by
  unfold argP mostP
  split
  · right; omega
  split
  · right; omega
  split
  · right; omega
  · left; omega
theorem validOp_tot (c a : Int) : Tot (fun σ => F_Z53 (σ 0) c a) (fun r => r = ((okOp (c, a), ()), ())) := by
  refine tot_Z53 ?_
  unfold B_Z53
  refine (argOf_tot c).bind ?_
  rintro _ rfl
  refine (inRange_tot c 0 19).bind ?_
  rintro _ rfl
  have key : ∀ b : Bool, (b = true ↔ 0 ≤ c ∧ c ≤ 19 ∧ 0 ≤ a ∧ a ≤ mostP c) → ((b, ()), ()) = ((okOp (c, a), ()), ()) := by
    intro b hb
    have : b = okOp (c, a) := by
      rw [Bool.eq_iff_iff, hb]; simp [okOp]
    rw [this]
  have am := arg_most c
  simp only [tot_cond, tot_some, decide_eq_true_eq, decide_eq_false_iff_not, beq_iff_eq, beq_eq_false_iff_ne, ne_eq]
  refine ⟨fun hc => ⟨fun hn => ⟨fun h0 => key _ (by simp; omega), fun h0 => ⟨fun hp => by omega, fun _ => key _ (by simp; omega)⟩⟩, fun hn => ⟨fun hp => ?_, fun h0 => by omega⟩⟩, fun hc => key _ (by simp; omega)⟩
  refine (inRange_tot a 0 (argP c)).bind ?_
  rintro _ rfl
  rw [tot_some]
  exact key _ (by simp only [decide_eq_true_eq]; omega)
theorem validOps_tot {ops : List POp} (hl : ops.length ≤ 900000000000) : Tot (fun σ => F_Z42 (σ 0) ops) (fun r => r = ((okOps ops, ()), ())) := by
  refine tot_Z42 ?_
  unfold B_Z42
  have key := loop_Z42_L0 (Q := fun ops' i r => r = ((okOps ops, ()), ())) (I := fun ops' i => ops' = ops ∧ ∃ n : Nat, i = n ∧ n ≤ ops.length ∧ ops.all okOp = (ops.drop n).all okOp) (μ := fun _ i => (ops.length - i).toNat) ?_
  · exact key ops 0 ⟨rfl, 0, rfl, by omega, rfl⟩
  intro ops' i ⟨ho, n, hi, hn, hall⟩ again hag ih
  subst ho hi
  unfold B_Z42_L0b
  simp only [tot_cond, tot_chk, tot_some, decide_eq_true_eq, decide_eq_false_iff_not, len, inb_iff]
  refine ⟨fun hlt => ⟨by omega, ?_⟩, fun hge => ?_⟩
  · have hn' : n < ops'.length := by omega
    have hd : ops'.drop n = rdx ((0 : Int), (0 : Int)) ops' n :: ops'.drop (n + 1) := by
      rw [rdx_eq, List.drop_eq_getElem_cons hn', List.getD_eq_getElem?_getD, Int.toNat_natCast, List.getElem?_eq_getElem hn']; rfl
    refine (validOp_tot _ _).bind ?_
    rintro _ rfl
    simp only [tot_cond, tot_some, Bool.not_eq_true', Bool.not_eq_false']
    refine ⟨fun hb => ?_, fun hb => ?_⟩
    · have : ops'.all okOp = false := by rw [hall, hd, List.all_cons, hb]; rfl
      simp [okOps, this]
    · rw [show w64 ((n : Int) + 1) = ((n + 1 : Nat) : Int) by rw [w64_id (by omega) (by omega)]; omega]
      exact ih _ _ ⟨rfl, n + 1, rfl, by omega, by rw [hall, hd, List.all_cons, hb, Bool.true_and]⟩ (by omega)
  · have : ops'.all okOp = true := by rw [hall, List.drop_eq_nil_of_le (by omega)]; rfl
    simp [okOps, this]
    omega
theorem newShapes_tot : Tot (fun σ => F_Z25 (σ 0)) (fun r => r = ((([], [], [], List.replicate 20 (-1), false, ()), ()), ())) := by
  refine tot_Z25 ?_
  unfold B_Z25
  have key := loop_Z25_L0 (Q := fun _ _ _ _ r => r = ((([], [], [], List.replicate 20 (-1), false, ()), ()), ())) (I := fun _ m d i => d = false ∧ ∃ n : Nat, i = n ∧ n ≤ 20 ∧ m = List.replicate n (-1)) (μ := fun _ _ _ i => (20 - i).toNat) ?_
  · exact key false [] false 0 ⟨rfl, 0, rfl, by omega, rfl⟩
  intro t0 m d i ⟨hd, n, hi, hn, hm⟩ again hag ih
  subst hd hi hm
  unfold B_Z25_L0b
  simp only [tot_cond, tot_chk, tot_some, decide_eq_true_eq, decide_eq_false_iff_not, room_iff, List.length_replicate, List.length_cons, List.length_nil]
  refine ⟨fun hlt => ⟨by omega, ?_⟩, fun hge => ?_⟩
  · rw [show w64 ((n : Int) + 1) = ((n + 1 : Nat) : Int) by rw [w64_id (by omega) (by omega)]; omega]
    exact ih _ _ _ _ ⟨rfl, n + 1, rfl, by omega, by rw [List.replicate_succ']⟩ (by omega)
  · have : n = 20 := by omega
    subst this
    rfl
theorem okOp_arg {o : POp} (h : okOp o = true) : o.1 = 15 ∨ o.1 = 16 → 0 ≤ o.2 ∧ o.2 < 20 := by
  simp only [okOp, decide_eq_true_eq] at h
  rintro (e | e) <;> · rw [e] at h; simp only [mostP] at h; omega
theorem runShapes_tot {ops : List POp} (hl : ops.length ≤ 900000000000) (hok : ops.all okOp = true) : Tot (fun σ => F_Z35 (σ 0) ops) (fun r => r = (((runP ops).1.dat, ((runP ops).2 : Int), ()), ()) ∧ ShI (runP ops).1 ∧ (runP ops).1.K.length ≤ 300 ∧ (runP ops).1.S.length ≤ 300 ∧ (runP ops).2 ≤ ops.length) := by
  refine tot_Z35 ?_
  unfold B_Z35
  refine newShapes_tot.bind ?_
  rintro _ rfl
  have key := loop_Z35_L0 (Q := fun _ _ _ _ _ _ _ _ r => r = (((runP ops).1.dat, ((runP ops).2 : Int), ()), ()) ∧ ShI (runP ops).1 ∧ (runP ops).1.K.length ≤ 300 ∧ (runP ops).1.S.length ≤ 300 ∧ (runP ops).2 ≤ ops.length)
    (I := fun ops' _ K Fu S M D i => ops' = ops ∧ ∃ n : Nat, i = n ∧ n ≤ ops.length ∧ ShI ⟨K, Fu, S, M, D⟩ ∧ K.length ≤ 300 ∧ S.length ≤ 300 ∧ runP ops = runFrom ⟨K, Fu, S, M, D⟩ (ops.drop n) n) (μ := fun _ _ _ _ _ _ _ i => (ops.length - i).toNat) ?_
  · exact key ops false [] [] [] _ false 0 ⟨rfl, 0, rfl, by omega, newSh_inv, by simp, by simp, rfl⟩
  intro ops' t2 K Fu S M D i ⟨ho, n, hi, hn, hs, hk, hS, hr⟩ again hag ih
  subst ho hi
  unfold B_Z35_L0b
  simp only [tot_cond, tot_chk, tot_some, decide_eq_true_eq, decide_eq_false_iff_not, len, inb_iff]
  refine ⟨fun hlt => ?_, fun hge => ?_⟩
  · have hn' : n < ops'.length := by omega
    have hd : ops'.drop n = rdx ((0 : Int), (0 : Int)) ops' n :: ops'.drop (n + 1) := by
      rw [rdx_eq, List.drop_eq_getElem_cons hn', List.getD_eq_getElem?_getD, Int.toNat_natCast, List.getElem?_eq_getElem hn']; rfl
    have hoo : okOp (rdx ((0 : Int), (0 : Int)) ops' n) = true := List.all_eq_true.1 hok _ (rdx_mem (by omega) (by omega))
    refine (copyShapes_tot hs).bind ?_
    rintro _ rfl
    rw [tot_chk]
    refine ⟨inb_iff.2 (by omega), (stepShapes_tot hs (by show K.length ≤ _; omega) (by show S.length ≤ _; omega) _ _ (okOp_arg hoo)).bind fun r hr' => ?_⟩
    rw [hd, runFrom] at hr
    cases hst : stepP ⟨K, Fu, S, M, D⟩ (rdx ((0 : Int), (0 : Int)) ops' n).1 (rdx ((0 : Int), (0 : Int)) ops' n).2 with
    | none =>
      rw [hst] at hr hr'
      have hr' : r.1.2.1 = false := hr'
      simp only [tot_cond, tot_some, hr', Bool.not_false]
      exact ⟨fun _ => by rw [hr]; exact ⟨rfl, hs, hk, hS, hn⟩, fun h0 => absurd h0 (by decide)⟩
    | some s' =>
      rw [hst] at hr hr'
      have hr' : r = ((s'.dat, true, ()), ()) := hr'
      subst hr'
      have hinv := stepP_inv hs (by show K.length ≤ _; omega) (by show S.length ≤ _; omega) (okOp_arg hoo) hst
      simp only [tot_cond, tot_some, Bool.not_true]
      refine ⟨fun h0 => absurd h0 (by decide), fun _ => ?_⟩
      rw [show w64 ((n : Int) + 1) = ((n + 1 : Nat) : Int) by rw [w64_id (by omega) (by omega)]; omega]
      exact ih _ _ _ _ _ _ _ _ ⟨rfl, n + 1, rfl, by omega, hinv.1, hinv.2.1, hinv.2.2, hr⟩ (by omega)
  · have hn' : n = ops'.length := by omega
    rw [hr, hn', List.drop_length, runFrom]
    subst hn'
    exact ⟨rfl, hs, hk, hS, Nat.le_refl _⟩
end Go.Gx

/-
  Laws, part 5: the end of a program, and its beginning that is possible.
-/
set_option linter.unusedVariables false
set_option linter.unusedSimpArgs false
namespace Go.Gx
def finP (ops : List POp) (n : Nat) (out : List POp) : List POp × Bool :=
  if okOps (ops.take n ++ (out ++ [(19, 0)])) = true ∧ (runP (ops.take n ++ (out ++ [(19, 0)]))).2 = (ops.take n ++ (out ++ [(19, 0)])).length then (out ++ [(19, 0)], true) else ([], false)
def marksP (S : List Int) : Nat := (S.filter (fun x => decide (x < 0))).length
def restP (S : List Int) : Nat := (S.takeWhile (fun x => decide (0 ≤ x))).length
def restP' (S : List Int) : Nat := if 0 < marksP S then restP S + 1 else restP S
def endOut (S : List Int) : List POp := List.replicate (marksP S) (3, 0) ++ List.replicate (restP' S - 1) (6, 0) ++ (if restP' S = 0 then [(4, 0)] else [])
def endP (ops : List POp) : List POp × Bool :=
  if okOps ops = false then ([], false)
  else if (runP ops).1.D = true then ([], true)
  else finP ops (runP ops).2 (endOut (runP ops).1.S)
def cutP (ops : List POp) : List POp := if okOps ops = true then ops.take (runP ops).2 else []
theorem marksP_le (S : List Int) : marksP S ≤ S.length := List.length_filter_le _ _
theorem okOps_all {ops : List POp} (h : okOps ops = true) : ops.all okOp = true ∧ ops.length ≤ 300 := by simpa [okOps] using h
theorem CutOps_tot {ops : List POp} (hl : ops.length ≤ 900000000000) : Tot (fun σ => F_s_CutOps (σ 0) ops) (fun r => r = ((cutP ops, ()), ())) := by
  refine tot_s_CutOps ?_
  unfold B_s_CutOps
  refine (validOps_tot (by omega)).bind ?_
  rintro _ rfl
  simp only [tot_cond, tot_some, Bool.not_eq_true', Bool.not_eq_false']
  refine ⟨fun h => by simp [cutP, h], fun h => ?_⟩
  obtain ⟨h1, h2⟩ := okOps_all h
  refine (runShapes_tot (by omega) h1).bind ?_
  rintro _ ⟨rfl, h3, h4, h5, h6⟩
  simp only [tot_chk, tot_some, cutb_iff, room_iff, sub, Int.toNat_natCast, List.length_drop, List.length_take, List.length_nil]
  exact ⟨by omega, by omega, by simp [cutP, h]⟩
theorem all_append_ok {a b : List POp} (ha : a.all okOp = true) (hb : b.all okOp = true) : (a ++ b).all okOp = true := by rw [List.all_append, ha, hb]; rfl
theorem take_ok {a : List POp} (ha : a.all okOp = true) (n : Nat) : (a.take n).all okOp = true := List.all_eq_true.2 fun x hx => List.all_eq_true.1 ha x (List.mem_of_mem_take hx)
theorem EndOps_J7_tot {ops out : List POp} {n : Nat} (h1 : ops.all okOp = true) (hl : ops.length ≤ 300) (ho : out.all okOp = true) (hol : out.length ≤ 2000) (hn : n ≤ ops.length) :
    Tot (fun σ => B_s_EndOps_J7 (σ 0) (F_Z42 (σ 0)) (F_Z35 (σ 0)) ops n out) (fun r => r = (((finP ops n out).1, (finP ops n out).2, ()), ())) := by
  unfold B_s_EndOps_J7 B_s_EndOps_J8 B_s_EndOps_J9
  have e : sub ops 0 (n : Int) = ops.take n := by simp [sub]
  simp only [tot_chk, tot_jn, cutb_iff, room_iff, e, List.length_append, List.length_cons, List.length_nil, List.length_take]
  refine ⟨by omega, by omega, by omega, by omega, ?_⟩
  have hall : (ops.take n ++ (out ++ [(19, 0)])).all okOp = true := all_append_ok (take_ok h1 n) (all_append_ok ho (by decide))
  have hlen : (ops.take n ++ (out ++ [(19, 0)])).length ≤ 3000 := by simp only [List.length_append, List.length_cons, List.length_nil, List.length_take]; omega
  unfold finP
  generalize ops.take n ++ (out ++ [((19 : Int), (0 : Int))]) = all at hall hlen
  refine (runShapes_tot (by omega) hall).bind ?_
  rintro _ ⟨rfl, _, _, _, h6⟩
  refine (validOps_tot (by omega)).bind ?_
  rintro _ rfl
  simp only [tot_cond, tot_jn, tot_some, Bool.not_eq_true', Bool.not_eq_false', len, decide_eq_true_eq, decide_eq_false_iff_not]
  refine ⟨fun hv => ⟨fun _ => by simp [hv], fun h0 => absurd h0 (by decide)⟩, fun hv => ⟨fun hlt => ?_, fun hge => ?_⟩⟩
  · rw [if_neg (fun h => by omega)]
  · rw [if_pos ⟨hv, by omega⟩]
theorem EndOps_L6_tot {ops out : List POp} {n m : Nat} (h1 : ops.all okOp = true) (hl : ops.length ≤ 300) (ho : out.all okOp = true) (hol : out.length + m ≤ 1000) (hn : n ≤ ops.length) :
    Tot (fun σ => B_s_EndOps_J5 (σ 0) (F_Z42 (σ 0)) (F_Z35 (σ 0)) ops n out m)
      (fun r => r = (((finP ops n (out ++ List.replicate (m - 1) (6, 0) ++ (if m = 0 then [(4, 0)] else []))).1, (finP ops n (out ++ List.replicate (m - 1) (6, 0) ++ (if m = 0 then [(4, 0)] else []))).2, ()), ())) := by
  unfold B_s_EndOps_J5
  generalize hR : finP ops n (out ++ List.replicate (m - 1) (6, 0) ++ (if m = 0 then [(4, 0)] else [])) = R
  have key := loop_s_EndOps_L6 (Q := fun _ _ _ _ _ r => r = ((R.1, R.2, ()), ())) (I := fun ops' n' o m' i => ops' = ops ∧ n' = n ∧ m' = m ∧ ∃ j : Nat, i = (j : Int) + 1 ∧ (j + 1 ≤ m ∨ j = 0) ∧ o = out ++ List.replicate j (6, 0)) (μ := fun _ _ _ _ i => (m + 1 - i).toNat) ?_
  · exact key ops n out m 1 ⟨rfl, rfl, rfl, 0, by omega, .inr rfl, by simp⟩
  intro ops' n' o m' i ⟨e1, e2, e3, j, e4, hj, e5⟩ again hag ih
  subst e1 e2 e3 e4 e5
  unfold B_s_EndOps_L6b
  have hok : (out ++ List.replicate j ((6, 0) : POp)).all okOp = true := all_append_ok ho (List.all_eq_true.2 fun x hx => by rw [List.eq_of_mem_replicate hx]; decide)
  simp only [tot_cond, tot_chk, tot_jn, decide_eq_true_eq, decide_eq_false_iff_not, room_iff, List.length_append, List.length_replicate, List.length_cons, List.length_nil, beq_iff_eq, beq_eq_false_iff_ne, ne_eq]
  refine ⟨fun hlt => ⟨by omega, ?_⟩, fun hge => ⟨fun h0 => ⟨by omega, ?_⟩, fun h0 => ?_⟩⟩
  · rw [show w64 ((j : Int) + 1 + 1) = ((j + 1 : Nat) : Int) + 1 by rw [w64_id (by omega) (by omega)]; omega]
    refine ih _ _ _ _ _ ⟨rfl, rfl, rfl, j + 1, rfl, .inl ?_, by rw [List.append_assoc, ← List.replicate_succ']⟩ ?_ <;> omega
  · have hm0 : m = 0 := by omega
    have hj0 : j = 0 := by omega
    subst hm0 hj0
    rw [← hR]
    simp only [List.replicate_zero, List.append_nil, Nat.zero_sub, if_true]
    exact EndOps_J7_tot h1 hl (all_append_ok ho (by decide)) (by simp only [List.length_append, List.length_cons, List.length_nil]; omega) hn
  · rw [← hR]
    have hj' : j = m - 1 := by omega
    rw [if_neg (by omega), List.append_nil, hj']
    rw [hj'] at hok
    exact EndOps_J7_tot h1 hl hok (by simp only [List.length_append, List.length_replicate]; omega) hn
theorem takeWhile_drop_len {S : List Int} : ∀ {n : Nat}, (∀ j, j < n → 0 ≤ S.getD j 0) → n ≤ S.length → (n < S.length → S.getD n 0 < 0) → restP S = n := by
  unfold restP
  induction S with
  | nil => intro n _ h _; simp at h; simp [h]
  | cons x S ih =>
    intro n h1 h2 h3
    cases n with
    | zero =>
      have := h3 (by simp)
      simp only [List.getD_cons_zero] at this
      rw [List.takeWhile_cons_of_neg (by simpa using this)]
      rfl
    | succ n =>
      have h0 := h1 0 (by omega)
      simp only [List.getD_cons_zero] at h0
      rw [List.takeWhile_cons_of_pos (by simpa using h0), List.length_cons, ih (n := n) (fun j hj => by have := h1 (j + 1) (by omega); simpa using this) (by simpa using h2) (fun h => by have := h3 (by simpa using h); simpa using this)]
theorem EndOps_tot {ops : List POp} (hl : ops.length ≤ 900000000000) : Tot (fun σ => F_s_EndOps (σ 0) ops) (fun r => r = (((endP ops).1, (endP ops).2, ()), ())) := by
  refine tot_s_EndOps ?_
  unfold B_s_EndOps
  refine (validOps_tot (by omega)).bind ?_
  rintro _ rfl
  simp only [tot_cond, tot_some, Bool.not_eq_true', Bool.not_eq_false']
  refine ⟨fun h => by simp [endP, h], fun h => ?_⟩
  obtain ⟨h1, h2⟩ := okOps_all h
  refine (runShapes_tot (by omega) h1).bind ?_
  rintro _ ⟨rfl, h3, h4, h5, h6⟩
  simp only [tot_cond, tot_some]
  refine ⟨fun hd => by simp [endP, h, hd], fun hd => ?_⟩
  have hE : endP ops = finP ops (runP ops).2 (endOut (runP ops).1.S) := by rw [endP, if_neg (by rw [h]; decide), if_neg (by rw [hd]; decide)]
  rw [hE]
  generalize runP ops = q at h3 h4 h5 h6
  obtain ⟨s, n⟩ := q
  generalize hR : finP ops n (endOut s.S) = R
  simp only
  have hS : s.S.length ≤ 300 := h5
  -- the rest
  have l4 : Tot (fun σ => B_s_EndOps_L4 (σ 0) (F_Z42 (σ 0)) (F_Z35 (σ 0)) (σ 0) (ops, (s.K, s.Fu, s.S, s.M, s.D, ()), (n : Int), List.replicate (marksP s.S) (3, 0), (marksP s.S : Int), 0, ())) (fun r => r = ((R.1, R.2, ()), ())) := by
    have key := loop_s_EndOps_L4 (Q := fun _ _ _ _ _ _ _ _ _ _ r => r = ((R.1, R.2, ()), ())) (I := fun ops' K Fu S M D n' out m rest => ops' = ops ∧ S = s.S ∧ n' = n ∧ out = List.replicate (marksP s.S) (3, 0) ∧ m = (marksP s.S : Int) ∧ ∃ j : Nat, rest = j ∧ j ≤ s.S.length ∧ ∀ i, i < j → 0 ≤ s.S.getD i 0)
      (μ := fun _ _ _ _ _ _ _ _ _ rest => (s.S.length - rest).toNat) ?_
    · exact key ops s.K s.Fu s.S s.M s.D n _ _ 0 ⟨rfl, rfl, rfl, rfl, rfl, 0, rfl, by omega, fun i hi => by omega⟩
    intro ops' K Fu S M D n' out m rest ⟨e1, e2, e3, e4, e5, j, e6, hj, hp⟩ again hag ih
    subst e1 e2 e3 e4 e5 e6
    unfold B_s_EndOps_L4b B_s_EndOps_J3
    have hml := marksP_le s.S
    have fin : restP s.S = j → Tot (fun σ => bif decide ((marksP s.S : Int) > 0) then jn (fun t => B_s_EndOps_J5 (σ 0) (F_Z42 (σ 0)) (F_Z35 (σ 0)) t.1 t.2.1 t.2.2.1 t.2.2.2.1) (ops', (n : Int), List.replicate (marksP s.S) (3, 0), w64 ((j : Int) + 1), ()) else jn (fun t => B_s_EndOps_J5 (σ 0) (F_Z42 (σ 0)) (F_Z35 (σ 0)) t.1 t.2.1 t.2.2.1 t.2.2.2.1) (ops', (n : Int), List.replicate (marksP s.S) (3, 0), (j : Int), ())) (fun r => r = ((R.1, R.2, ()), ())) := by
      intro hr
      have hok : (List.replicate (marksP s.S) ((3, 0) : POp)).all okOp = true := List.all_eq_true.2 fun x hx => by rw [List.eq_of_mem_replicate hx]; decide
      simp only [tot_cond, tot_jn, decide_eq_true_eq, decide_eq_false_iff_not]
      refine ⟨fun hm => ?_, fun hm => ?_⟩
      · rw [show w64 ((j : Int) + 1) = ((j + 1 : Nat) : Int) by rw [w64_id (by omega) (by omega)]; omega]
        have := EndOps_L6_tot (m := j + 1) h1 h2 hok (by simp only [List.length_replicate]; omega) h6
        have e : restP' s.S = j + 1 := by rw [restP', if_pos (by omega), hr]
        rw [← e] at this ⊢
        rw [← hR]
        exact this
      · have := EndOps_L6_tot (m := j) h1 h2 hok (by simp only [List.length_replicate]; omega) h6
        have e : restP' s.S = j := by rw [restP', if_neg (by omega), hr]
        rw [← e] at this ⊢
        rw [← hR]
        exact this
    rw [tot_cond]
    refine ⟨fun hlt => ?_, fun hge => ?_⟩
    · simp only [decide_eq_true_eq, len] at hlt
      rw [tot_chk]
      refine ⟨inb_iff.2 (by omega), ?_⟩
      rw [tot_chk]
      refine ⟨decide_eq_true (by omega), ?_⟩
      simp only [tot_jn, tot_cond, decide_eq_true_eq, decide_eq_false_iff_not]
      simp only [Int.toNat_natCast]
      refine ⟨fun hp' => ?_, fun hn' => by
        have := fin (takeWhile_drop_len hp hj (fun _ => by omega))
        simp only [tot_cond, tot_jn, decide_eq_true_eq, decide_eq_false_iff_not] at this
        exact this⟩
      rw [show w64 ((j : Int) + 1) = ((j + 1 : Nat) : Int) by rw [w64_id (by omega) (by omega)]; omega]
      refine ih _ _ _ _ _ _ _ _ _ _ ⟨rfl, rfl, rfl, rfl, rfl, j + 1, rfl, by omega, fun i hi => ?_⟩ (by omega)
      by_cases e : i = j
      · subst e; exact hp'
      · exact hp i (by omega)
    · simp only [decide_eq_false_iff_not, len] at hge
      rw [tot_jn, tot_cond]
      exact ⟨fun h0 => Bool.noConfusion h0, fun _ => fin (takeWhile_drop_len hp hj (fun h => by omega))⟩
  -- the marks
  have l2 : Tot (fun σ => B_s_EndOps_L2 (σ 0) (F_Z42 (σ 0)) (F_Z35 (σ 0)) (σ 0) (ops, (s.K, s.Fu, s.S, s.M, s.D, ()), (n : Int), [], (marksP s.S : Int), 0, ())) (fun r => r = ((R.1, R.2, ()), ())) := by
    have key := loop_s_EndOps_L2 (Q := fun _ _ _ _ _ _ _ _ _ _ r => r = ((R.1, R.2, ()), ())) (I := fun ops' K Fu S M D n' out m i => ops' = ops ∧ K = s.K ∧ Fu = s.Fu ∧ S = s.S ∧ M = s.M ∧ D = s.D ∧ n' = n ∧ m = (marksP s.S : Int) ∧ ∃ j : Nat, i = j ∧ j ≤ marksP s.S ∧ out = List.replicate j (3, 0))
      (μ := fun _ _ _ _ _ _ _ _ _ i => (marksP s.S - i).toNat) ?_
    · exact key ops s.K s.Fu s.S s.M s.D n [] _ 0 ⟨rfl, rfl, rfl, rfl, rfl, rfl, rfl, rfl, 0, rfl, by omega, rfl⟩
    intro ops' K Fu S M D n' out m i ⟨e1, e2, e3, e4, e5, e6, e7, e8, j, e9, hj, e10⟩ again hag ih
    subst e1 e2 e3 e4 e5 e6 e7 e8 e9 e10
    unfold B_s_EndOps_L2b
    have hml := marksP_le s.S
    simp only [tot_cond, tot_chk, decide_eq_true_eq, decide_eq_false_iff_not, room_iff, List.length_replicate, List.length_cons, List.length_nil]
    refine ⟨fun hlt => ⟨by omega, ?_⟩, fun hge => ?_⟩
    · rw [show w64 ((j : Int) + 1) = ((j + 1 : Nat) : Int) by rw [w64_id (by omega) (by omega)]; omega]
      exact ih _ _ _ _ _ _ _ _ _ _ ⟨rfl, rfl, rfl, rfl, rfl, rfl, rfl, rfl, j + 1, rfl, by omega, by rw [List.replicate_succ']⟩ (by omega)
    · have : j = marksP s.S := by omega
      subst this
      exact l4
  have key := loop_s_EndOps_L1 (Q := fun _ _ _ _ _ _ _ _ _ _ r => r = ((R.1, R.2, ()), ())) (I := fun ops' K Fu S M D n' out m i => ops' = ops ∧ K = s.K ∧ Fu = s.Fu ∧ S = s.S ∧ M = s.M ∧ D = s.D ∧ n' = n ∧ out = [] ∧ ∃ j : Nat, i = j ∧ j ≤ s.S.length ∧ m = (marksP (s.S.take j) : Int))
    (μ := fun _ _ _ _ _ _ _ _ _ i => (s.S.length - i).toNat) ?_
  · exact key ops s.K s.Fu s.S s.M s.D n [] 0 0 ⟨rfl, rfl, rfl, rfl, rfl, rfl, rfl, rfl, 0, rfl, by omega, rfl⟩
  intro ops' K Fu S M D n' out m i ⟨e1, e2, e3, e4, e5, e6, e7, e8, j, e9, hj, e10⟩ again hag ih
  subst e1 e2 e3 e4 e5 e6 e7 e8 e9 e10
  unfold B_s_EndOps_L1b B_s_EndOps_J0
  have hml := marksP_le (s.S.take j)
  simp only [List.length_take] at hml
  simp only [tot_cond, tot_chk, tot_jn, decide_eq_true_eq, decide_eq_false_iff_not, inb_iff, len]
  simp only [Int.toNat_natCast]
  have step : j < s.S.length → marksP (s.S.take (j + 1)) = marksP (s.S.take j) + (if s.S.getD j 0 < 0 then 1 else 0) := by
    intro hlt
    rw [List.take_add_one, List.getElem?_eq_getElem hlt, marksP, marksP, List.filter_append, List.length_append, List.getD_eq_getElem?_getD, List.getElem?_eq_getElem hlt, Option.getD_some]
    split
    · rename_i h; simp [h]
    · rename_i h; simp [h]
  refine ⟨fun hlt => ⟨by omega, by omega, fun hneg => ?_, fun hneg => ?_⟩, fun hge => ?_⟩
  · rw [show w64 ((j : Int) + 1) = ((j + 1 : Nat) : Int) by rw [w64_id (by omega) (by omega)]; omega, w64_id (by omega) (by omega)]
    refine ih _ _ _ _ _ _ _ _ _ _ ⟨rfl, rfl, rfl, rfl, rfl, rfl, rfl, rfl, j + 1, rfl, by omega, ?_⟩ (by omega)
    rw [step (by omega), if_pos hneg]; omega
  · rw [show w64 ((j : Int) + 1) = ((j + 1 : Nat) : Int) by rw [w64_id (by omega) (by omega)]; omega]
    refine ih _ _ _ _ _ _ _ _ _ _ ⟨rfl, rfl, rfl, rfl, rfl, rfl, rfl, rfl, j + 1, rfl, by omega, ?_⟩ (by omega)
    rw [step (by omega), if_neg hneg]; omega
  · have : j = s.S.length := by omega
    subst this
    rw [List.take_length]
    exact l2
theorem endP_len {ops : List POp} (h : ops.length ≤ 900000) : (endP ops).1.length ≤ 2000 := by
  unfold endP
  split
  · simp
  split
  · simp
  rename_i h1 h2
  unfold finP
  split
  · rename_i hk
    have := (okOps_all hk.1).2
    simp only [List.length_append, List.length_cons, List.length_nil] at this ⊢
    omega
  · simp
theorem cutP_len (ops : List POp) : (cutP ops).length ≤ ops.length := by
  unfold cutP
  split
  · simp only [List.length_take]; omega
  · simp
end Go.Gx

/-
  Laws, part 6: orders that are drawn.
-/
set_option linter.unusedVariables false
set_option linter.unusedSimpArgs false
namespace Go.Gx
theorem someOp_tot {b : List Int} {p : Int} (h : RD b p) (hp : p ≤ 900000000) : Tot (fun σ => F_s_someOp (σ 0) b p) (Drawn b p 3 fun x => ∃ c a, x = ((c, a, ()), ()) ∧ okOp (c, a) = true) := by
  refine tot_s_someOp ?_
  unfold B_s_someOp B_s_someOp_J0 B_s_someOp_J1
  refine (pick_tot h (by omega) (by omega)).bind ?_
  rintro _ ⟨_, q, rfl, h1, h2, c, rfl, h3, h4⟩
  have h4 := h4 (by omega)
  have hq := h.next h1 (by omega)
  have fin : ∀ (q' a : Int), p ≤ q' → q' ≤ p + 3 → okOp (c, a) = true → Drawn b p 3 (fun x => ∃ c a, x = ((c, a, ()), ()) ∧ okOp (c, a) = true) (((c, a, ()), ()), ((b, q', ()), ())) := fun q' a h1 h2 h3 => ⟨_, _, rfl, h1, h2, c, a, rfl, h3⟩
  have four : (c = 1 ∨ c = 13 ∨ c = 15 ∨ c = 16) → Tot (fun σ => (F_Z10 (σ 0) b q 4).bind fun r23 => jn (fun t => some (((t.2.2.1.1, t.2.2.1.2.1, ()), ()), ((t.1.1, t.1.2.1, ()), ()))) ((r23.2.1.1, r23.2.1.2.1, ()), ((0 : Int), (0 : Int), ()), (c, r23.1.1, ()), ()))
      (Drawn b p 3 fun x => ∃ c a, x = ((c, a, ()), ()) ∧ okOp (c, a) = true) := by
    intro hc
    refine (pick_tot hq (by omega) (by omega)).bind ?_
    rintro _ ⟨_, q2, rfl, g1, g2, a, rfl, g3, g4⟩
    have g4 := g4 (by omega)
    rw [tot_jn, tot_some]
    refine fin q2 a (by omega) (by omega) ?_
    rcases hc with rfl | rfl | rfl | rfl <;> · simp [okOp, mostP]; omega
  have none : mostP c = 0 → Drawn b p 3 (fun x => ∃ c a, x = ((c, a, ()), ()) ∧ okOp (c, a) = true) (((c, 0, ()), ()), ((b, q, ()), ())) := fun hm => fin _ _ (by omega) (by omega) (by simp [okOp, hm]; omega)
  rw [tot_cond]
  simp only [beq_iff_eq, beq_eq_false_iff_ne, ne_eq]
  refine ⟨fun h0 => ?_, fun h0 => ?_⟩
  · refine (pick_tot hq (by omega) (by omega)).bind ?_
    rintro _ ⟨_, q2, rfl, g1, g2, a, rfl, g3, g4⟩
    have g4 := g4 (by omega)
    refine (one_tot (hq.next g1 (by omega)) (by omega) (by simp) (by simp)).bind ?_
    rintro _ ⟨_, q3, rfl, f1, f2, v, rfl, hv⟩
    rw [tot_jn, tot_some]
    refine fin q3 v (by omega) (by omega) ?_
    simp only [List.mem_cons, List.not_mem_nil, or_false] at hv
    simp [okOp, h0, mostP]
    omega
  · rw [tot_cond]
    simp only [beq_iff_eq, beq_eq_false_iff_ne, ne_eq]
    refine ⟨fun h1' => ?_, fun h1' => ?_⟩
    · rw [tot_jn, tot_cond]
      exact ⟨fun _ => four (by omega), fun h' => by simp [h1'] at h'⟩
    · rw [tot_cond]
      simp only [beq_iff_eq, beq_eq_false_iff_ne, ne_eq]
      refine ⟨fun h13 => ?_, fun h13 => ?_⟩
      · rw [tot_jn, tot_cond]
        exact ⟨fun _ => four (by omega), fun h' => by simp [h13] at h'⟩
      · rw [tot_cond]
        simp only [beq_iff_eq, beq_eq_false_iff_ne, ne_eq]
        refine ⟨fun h15 => ?_, fun h15 => ?_⟩
        · rw [tot_jn, tot_cond]
          exact ⟨fun _ => four (by omega), fun h' => by simp [h15] at h'⟩
        · rw [tot_jn, tot_cond]
          simp only [beq_iff_eq, beq_eq_false_iff_ne, ne_eq]
          refine ⟨fun h16 => four (by omega), fun h16 => ?_⟩
          rw [tot_jn, tot_some]
          exact none (by simp [mostP, h0, h1', h13, h15, h16])
theorem endP_ok (ops : List POp) : (endP ops).1.all okOp = true := by
  unfold endP
  split
  · rfl
  split
  · rfl
  unfold finP
  split
  · rename_i hk
    have := (okOps_all hk.1).1
    rw [List.all_append, Bool.and_eq_true] at this
    exact this.2
  · rfl
theorem likelyOps_tot {b : List Int} {p : Int} (h : RD b p) (hp : p ≤ 100000000) : Tot (fun σ => F_Z29 (σ 0) b p) (Drawn b p 1000 fun x => ∃ ops : List POp, x = (ops, ()) ∧ ops.length ≤ 3000 ∧ ops.all okOp = true) := by
  refine tot_Z29 ?_
  unfold B_Z29
  refine newShapes_tot.bind ?_
  rintro _ rfl
  refine (one_tot h (by omega) (by simp) (by simp)).bind ?_
  rintro _ ⟨_, q, rfl, h1, h2, v, rfl, hv⟩
  have hv : 0 ≤ v ∧ v ≤ 30 := by
    simp only [List.mem_cons, List.not_mem_nil, or_false] at hv
    omega
  have key := loop_Z29_L4 (Q := fun _ _ _ _ _ _ _ _ _ r => Drawn b p 1000 (fun x => ∃ ops : List POp, x = (ops, ()) ∧ ops.length ≤ 3000 ∧ ops.all okOp = true) r)
    (I := fun b' q' out K Fu S M D n => b' = b ∧ RD b q' ∧ p ≤ q' ∧ q' + 10 * n ≤ p + 400 ∧ 0 ≤ n ∧ n ≤ 30 ∧ (out.length : Int) + n ≤ 30 ∧ out.all okOp = true ∧ ShI ⟨K, Fu, S, M, D⟩ ∧ K.length ≤ 300 ∧ S.length ≤ 300) (μ := fun _ _ _ _ _ _ _ _ n => n.toNat) ?_
  · exact key b q [] [] [] [] _ false v ⟨rfl, h.next h1 (by omega), h1, by omega, hv.1, hv.2, by simp; omega, rfl, newSh_inv, by simp, by simp⟩
  intro b' q' out K Fu S M D n ⟨e1, hr, g1, g2, g3, g4, g5, g6, hs, hk, hS⟩ again hag ih
  subst e1
  unfold B_Z29_L4b
  rw [tot_cond]
  simp only [decide_eq_true_eq, decide_eq_false_iff_not]
  have w : w64 (n - 1) = n - 1 := w64_id (by omega) (by omega)
  -- the end of a round
  have j3 : ∀ (q2 : Int) (out2 : List POp) (s2 : Sh), 0 < n → q' ≤ q2 → q2 ≤ q' + 10 → (out2.length : Int) ≤ out.length + 1 → out2.all okOp = true → ShI s2 → s2.K.length ≤ 300 → s2.S.length ≤ 300 →
      Tot (fun σ => again σ ((b', q2, ()), out2, (s2.K, s2.Fu, s2.S, s2.M, s2.D, ()), w64 (n - 1), ())) (Drawn b' p 1000 fun x => ∃ ops : List POp, x = (ops, ()) ∧ ops.length ≤ 3000 ∧ ops.all okOp = true) := by
    intro q2 out2 s2 k0 k1 k2 k3 k4 k5 k6 k7
    rw [w]
    exact ih _ _ _ _ _ _ _ _ _ ⟨rfl, hr.next k1 (by omega), by omega, by omega, by omega, by omega, by omega, k4, k5, k6, k7⟩ (by omega)
  have j0 : ∀ (q2 c a : Int) (t : Bool), 0 < n → q' ≤ q2 → q2 ≤ q' + 6 → okOp (c, a) = true → Tot (fun σ => B_Z29_J0 (σ 0) (F_Z25 (σ 0)) (F_Z14 (σ 0)) (F_s_someOp (σ 0)) (F_Z10 (σ 0)) (F_Z15 (σ 0)) (F_Z13 (σ 0)) (F_s_EndOps (σ 0)) (F_s_CutOps (σ 0)) (again σ) b' q2 out K Fu S M D n c a t)
      (Drawn b' p 1000 fun x => ∃ ops : List POp, x = (ops, ()) ∧ ops.length ≤ 3000 ∧ ops.all okOp = true) := by
    intro q2 c a t k0 k1 k2 ho
    unfold B_Z29_J0 B_Z29_J1 B_Z29_J2 B_Z29_J3
    rw [tot_cond]
    refine ⟨fun _ => ?_, fun _ => ?_⟩
    · rw [tot_jn]
      exact j3 q2 out ⟨K, Fu, S, M, D⟩ k0 k1 (by omega) (by omega) g6 hs hk hS
    · refine (copyShapes_tot hs).bind ?_
      rintro _ rfl
      refine (stepShapes_tot hs (by show K.length ≤ _; omega) (by show S.length ≤ _; omega) c a (okOp_arg ho)).bind fun r hr' => ?_
      have add : ∀ o : List POp, o = out ++ [(c, a)] → (o.length : Int) ≤ out.length + 1 ∧ o.all okOp = true := by
        rintro o rfl
        exact ⟨by simp, all_append_ok g6 (by simp [ho])⟩
      cases hst : stepP ⟨K, Fu, S, M, D⟩ c a with
      | none =>
        rw [hst] at hr'
        have hr' : r.1.2.1 = false := hr'
        rw [tot_cond]
        simp only [hr']
        refine ⟨fun h0 => absurd (show false = true from h0) (by decide), fun _ => ?_⟩
        rw [tot_jn, tot_cond]
        refine ⟨fun h0 => absurd (show false = true from h0) (by decide), fun _ => ?_⟩
        refine (pick_tot (hr.next k1 (by omega)) (by omega) (by omega)).bind ?_
        rintro _ ⟨_, q3, rfl, m1, m2, u, rfl, m3, m4⟩
        rw [tot_jn, tot_cond]
        refine ⟨fun _ => ?_, fun _ => ?_⟩
        · rw [tot_chk]
          refine ⟨room_iff.2 (by simp only [List.length_cons, List.length_nil]; omega), ?_⟩
          rw [tot_jn]
          exact j3 q3 _ ⟨K, Fu, S, M, D⟩ k0 (by omega) (by omega) (add _ rfl).1 (add _ rfl).2 hs hk hS
        · rw [tot_jn]
          exact j3 q3 out ⟨K, Fu, S, M, D⟩ k0 (by omega) (by omega) (by omega) g6 hs hk hS
      | some s' =>
        rw [hst] at hr'
        have hr' : r = ((s'.dat, true, ()), ()) := hr'
        subst hr'
        have hinv := stepP_inv hs (by show K.length ≤ _; omega) (by show S.length ≤ _; omega) (okOp_arg ho) hst
        rw [tot_cond]
        refine ⟨fun _ => ?_, fun h0 => absurd (show true = false from h0) (by decide)⟩
        rw [tot_jn, tot_cond]
        refine ⟨fun _ => ?_, fun h0 => absurd (show true = false from h0) (by decide)⟩
        rw [tot_jn, tot_cond]
        refine ⟨fun _ => ?_, fun h0 => absurd (show true = false from h0) (by decide)⟩
        rw [tot_chk]
        refine ⟨room_iff.2 (by simp only [List.length_cons, List.length_nil]; omega), ?_⟩
        rw [tot_jn]
        exact j3 q2 _ s' k0 k1 (by omega) (add _ rfl).1 (add _ rfl).2 hinv.1 hinv.2.1 hinv.2.2
  refine ⟨fun hn => ?_, fun hn => ?_⟩
  · refine (someOp_tot hr (by omega)).bind ?_
    rintro _ ⟨_, q2, rfl, k1, k2, c, a, rfl, ho⟩
    rw [tot_cond]
    refine ⟨fun _ => ?_, fun _ => ?_⟩
    · refine (pick_tot (hr.next k1 (by omega)) (by omega) (by omega)).bind ?_
      rintro _ ⟨_, q3, rfl, m1, m2, u, rfl, m3, m4⟩
      rw [tot_jn]
      exact j0 q3 c a _ hn (by omega) (by omega) ho
    · rw [tot_jn]
      exact j0 q2 c a _ hn k1 (by omega) ho
  · have hol : out.length ≤ 30 := by omega
    refine (pick_tot hr (by omega) (by omega)).bind ?_
    rintro _ ⟨_, q2, rfl, k1, k2, u, rfl, k3, k4⟩
    have fin : ∀ o : List POp, o.length ≤ 3000 → o.all okOp = true → Drawn b' p 1000 (fun x => ∃ ops : List POp, x = (ops, ()) ∧ ops.length ≤ 3000 ∧ ops.all okOp = true) ((o, ()), ((b', q2, ()), ())) := fun o h1 h2 => ⟨_, _, rfl, by omega, by omega, o, rfl, h1, h2⟩
    rw [tot_cond]
    refine ⟨fun _ => ?_, fun _ => ?_⟩
    · refine (EndOps_tot (by omega)).bind ?_
      rintro _ rfl
      rw [tot_cond]
      refine ⟨fun _ => ?_, fun _ => ?_⟩
      · refine (CutOps_tot (by omega)).bind ?_
        rintro _ rfl
        have e1 := endP_len (ops := out) (by omega)
        have e2 := cutP_len out
        rw [tot_chk, tot_some]
        refine ⟨room_iff.2 (by simp only []; omega), fin _ (by simp only [List.length_append]; omega) ?_⟩
        refine all_append_ok ?_ ?_
        · unfold cutP; split
          · exact take_ok g6 _
          · rfl
        · exact endP_ok out
      · rw [tot_some]; exact fin _ (by omega) g6
    · rw [tot_some]; exact fin _ (by omega) g6
end Go.Gx

/-
  Laws, part 7k: keys.
-/
set_option linter.unusedVariables false
set_option linter.unusedSimpArgs false
namespace Go.Gx
abbrev PNode : Type := Int × Int × List Int
def nd (g : List PNode) (i : Int) : PNode := rdx ((0 : Int), ((0 : Int), ([] : List Int))) g i
def InR (g : List PNode) (l : List Int) : Prop := ∀ k ∈ l, 0 ≤ k ∧ k < (g.length : Int)
def isKeyP (n : PNode) : Prop := n.1 = 0 ∨ n.1 = 1
def sameP (a b : PNode) : Prop := a.1 = b.1 ∧ a.2.1 = b.2.1
def Says (P : Prop) (r : (Bool × Unit) × Unit) : Prop := ∃ b, r = ((b, ()), ()) ∧ (b = true ↔ P)
theorem says_true {P : Prop} (h : P) : Says P ((true, ()), ()) := ⟨true, rfl, by simp [h]⟩
theorem says_false {P : Prop} (h : ¬ P) : Says P ((false, ()), ()) := ⟨false, rfl, by simp [h]⟩
theorem isKey_tot (a b : Int) (c : List Int) : Tot (fun σ => F_s_isKey (σ 0) a b) (Says (isKeyP (a, b, c))) := by
  refine tot_s_isKey ?_
  unfold B_s_isKey isKeyP
  simp only [tot_cond, tot_some, beq_iff_eq, beq_eq_false_iff_ne, ne_eq]
  exact ⟨fun h => says_true (.inl h), fun h => ⟨_, rfl, by simp [h]⟩⟩
theorem sameKey_tot (a b : Int) (c : List Int) (d e : Int) (f : List Int) : Tot (fun σ => F_Z51 (σ 0) a b d e) (Says (sameP (a, b, c) (d, e, f))) := by
  refine tot_Z51 ?_
  unfold B_Z51 sameP
  simp only [tot_cond, tot_some, beq_iff_eq, beq_eq_false_iff_ne, ne_eq]
  exact ⟨fun h => ⟨_, rfl, by simp [h]⟩, fun h => says_false fun hc => h hc.1⟩
end Go.Gx

/-
  Laws: small words.
-/
set_option linter.unusedVariables false
set_option linter.unusedSimpArgs false
namespace Go.Gx
theorem w64_succ {n : Nat} {c : Int} (hc : 0 ≤ c ∧ c ≤ 1000) (h : n ≤ 1000000000000) : w64 ((n : Int) + c) = ((n + c.toNat : Nat) : Int) := by
  rw [w64_id (by omega) (by omega)]; omega
theorem getD_at {α : Type} {l : List α} {i : Nat} {d : α} (h : i < l.length) : l.getD i d = l[i] := by
  rw [List.getD_eq_getElem?_getD, List.getElem?_eq_getElem h]; rfl
theorem ext_getD {α : Type} {a b : List α} {d : α} (hl : a.length = b.length) (h : ∀ i, i < a.length → a.getD i d = b.getD i d) : a = b := by
  apply List.ext_getElem hl
  intro i h1 h2
  have := h i h1
  rwa [getD_at h1, getD_at h2] at this
theorem Tot.ex {R : Type} {F : Nat → Option R} {r : R} (h : Tot (fun σ => F (σ 0)) (fun x => x = r)) : ∃ k, F k = some r := by
  obtain ⟨x, rfl, K, h2⟩ := h
  exact ⟨K, h2 (fun _ => K) (fun _ => Nat.le_refl _)⟩
end Go.Gx

/-
  Laws, part 7: which graphs are valid.
-/
set_option linter.unusedVariables false
set_option linter.unusedSimpArgs false
namespace Go.Gx
def DictOk (g : List PNode) (kids : List Int) : Prop :=
  (∀ i, i < kids.length → i % 2 = 0 → isKeyP (nd g (kids.getD i 0)) ∧ ∀ k, k < i → k % 2 = 0 → ¬ sameP (nd g (kids.getD i 0)) (nd g (kids.getD k 0))) ∧ kids.length % 2 = 0
def NodeOk (g : List PNode) (n : PNode) : Prop :=
  n.2.2.length ≤ 6 ∧ InR g n.2.2 ∧
  (if n.1 = 0 then 0 ≤ n.2.1 ∧ n.2.1 ≤ 999 ∧ n.2.2 = []
   else if n.1 = 1 then 0 ≤ n.2.1 ∧ n.2.1 ≤ 9 ∧ n.2.2 = []
   else if n.1 = 2 ∨ n.1 = 3 then n.2.1 = 0
   else if n.1 = 4 then n.2.1 = 0 ∧ DictOk g n.2.2
   else if n.1 = 5 then 0 ≤ n.2.1 ∧ n.2.1 ≤ 9 ∧ n.2.2.length ≤ 1
   else False)
/-- Reached from the kids of a node, over tuples. -/
inductive TReach (g : List PNode) (at1 : Int) : Int → Prop
  | kid {k : Int} : k ∈ (nd g at1).2.2 → TReach g at1 k
  | step {x k : Int} : TReach g at1 x → (nd g x).1 = 2 → k ∈ (nd g x).2.2 → TReach g at1 k
structure ValidG (g : List PNode) (root : Int) : Prop where
  pos : 1 ≤ g.length
  most : g.length ≤ 12
  root : 0 ≤ root ∧ root < (g.length : Int)
  node : ∀ n ∈ g, NodeOk g n
  tup : ∀ i : Nat, i < g.length → (nd g i).1 = 2 → ¬ TReach g i i
theorem inRange_tot' (n lo hi : Int) : Tot (fun σ => F_Z62 (σ 0) n lo hi) (fun r => r = ((decide (lo ≤ n ∧ n ≤ hi), ()), ())) := by
  refine tot_Z62 ?_
  unfold B_Z62
  simp only [tot_cond, tot_some, decide_eq_true_eq, decide_eq_false_iff_not]
  exact ⟨fun h => by simp [h], fun h => by simp [h]⟩
theorem copyInts_tot' {l : List Int} (h : l.length ≤ 500000000000) : Tot (fun σ => F_Z45 (σ 0) l) (fun r => r = ((l, ()), ())) := by
  refine tot_Z45 ?_
  unfold B_Z45
  simp only [tot_chk, tot_some, room_iff, List.length_nil, and_true]
  omega
theorem placeIn_tot {l : List Int} (hl : l.length ≤ 900000000000) (n : Int) : Tot (fun σ => F_Z59 (σ 0) l n) (fun r => ∃ v, r = ((v, ()), ()) ∧ ((v = -1 ∧ n ∉ l) ∨ ∃ j : Nat, v = j ∧ j < l.length ∧ l.getD j 0 = n ∧ ∀ i, i < j → l.getD i 0 ≠ n)) := by
  refine tot_Z59 ?_
  unfold B_Z59
  have key := loop_Z59_L0 (Q := fun _ _ _ r => ∃ v, r = ((v, ()), ()) ∧ ((v = -1 ∧ n ∉ l) ∨ ∃ j : Nat, v = j ∧ j < l.length ∧ l.getD j 0 = n ∧ ∀ i, i < j → l.getD i 0 ≠ n)) (I := fun l' n' i => l' = l ∧ n' = n ∧ ∃ j : Nat, i = j ∧ j ≤ l.length ∧ ∀ q, q < j → l.getD q 0 ≠ n) (μ := fun _ _ i => (l.length - i).toNat) ?_
  · exact key l n 0 ⟨rfl, rfl, 0, rfl, by omega, fun q hq => by omega⟩
  intro l' n' i ⟨e1, e2, j, e3, hj, hq⟩ again hag ih
  subst e1 e2 e3
  unfold B_Z59_L0b
  simp only [tot_cond, tot_chk, tot_some, decide_eq_true_eq, decide_eq_false_iff_not, len, inb_iff, beq_iff_eq, beq_eq_false_iff_ne, ne_eq]
  simp only [rdx_eq, Int.toNat_natCast]
  refine ⟨fun hlt => ⟨by omega, fun he => ⟨_, rfl, .inr ⟨j, rfl, by omega, he, hq⟩⟩, fun hne => ?_⟩, fun hge => ⟨_, rfl, .inl ⟨rfl, fun hm => ?_⟩⟩⟩
  · rw [w64_succ (by omega) (by omega)]
    refine ih _ _ _ ⟨rfl, rfl, j + 1, rfl, by omega, fun q h => ?_⟩ (by simp; omega)
    by_cases e : q = j
    · subst e; exact hne
    · exact hq q (by omega)
  · obtain ⟨i, hi, e⟩ := List.getElem_of_mem hm
    refine hq i (by omega) ?_
    rw [List.getD_eq_getElem?_getD, List.getElem?_eq_getElem hi]; exact e
theorem allIn_tot {l : List Int} (hl : l.length ≤ 900000000000) (lo hi : Int) : Tot (fun σ => F_s_allIn (σ 0) l lo hi) (Says (∀ x ∈ l, lo ≤ x ∧ x ≤ hi)) := by
  refine tot_s_allIn ?_
  unfold B_s_allIn
  have key := loop_s_allIn_L0 (Q := fun _ _ _ _ r => Says (∀ x ∈ l, lo ≤ x ∧ x ≤ hi) r) (I := fun l' a b i => l' = l ∧ a = lo ∧ b = hi ∧ ∃ j : Nat, i = j ∧ j ≤ l.length ∧ ∀ q, q < j → lo ≤ l.getD q 0 ∧ l.getD q 0 ≤ hi) (μ := fun _ _ _ i => (l.length - i).toNat) ?_
  · exact key l lo hi 0 ⟨rfl, rfl, rfl, 0, rfl, by omega, fun q hq => by omega⟩
  intro l' a b i ⟨e1, e2, e3, j, e4, hj, hq⟩ again hag ih
  subst e1 e2 e3 e4
  unfold B_s_allIn_L0b
  simp only [tot_cond, tot_chk, tot_some, decide_eq_true_eq, decide_eq_false_iff_not, len, inb_iff]
  refine ⟨fun hlt => ⟨by omega, ?_⟩, fun hge => says_true fun x hx => ?_⟩
  · refine (inRange_tot' _ a b).bind ?_
    rintro _ rfl
    simp only [tot_cond, tot_some, Bool.not_eq_true', Bool.not_eq_false', decide_eq_true_eq, decide_eq_false_iff_not]
    simp only [rdx_eq, Int.toNat_natCast]
    have hm : l'.getD j 0 ∈ l' := by
      rw [List.getD_eq_getElem?_getD, List.getElem?_eq_getElem (by omega)]; exact List.getElem_mem _
    refine ⟨fun hn => says_false fun h => hn (h _ hm), fun hy => ?_⟩
    rw [w64_succ (by omega) (by omega)]
    refine ih _ _ _ _ ⟨rfl, rfl, rfl, j + 1, rfl, by omega, fun q h => ?_⟩ (by simp; omega)
    by_cases e : q = j
    · subst e; exact hy
    · exact hq q (by omega)
  · obtain ⟨i, hi', e⟩ := List.getElem_of_mem hx
    have := hq i (by omega)
    rw [List.getD_eq_getElem?_getD, List.getElem?_eq_getElem hi', Option.getD_some, e] at this
    exact this
theorem InR.get {g : List PNode} {l : List Int} (h : InR g l) {j : Nat} (hj : j < l.length) : 0 ≤ l.getD j 0 ∧ l.getD j 0 < (g.length : Int) := h _ (by
  rw [List.getD_eq_getElem?_getD, List.getElem?_eq_getElem hj]; exact List.getElem_mem _)
theorem validDict_tot {g : List PNode} {root k v : Int} {kids : List Int} (h : InR g kids) (hl : kids.length ≤ 6) : Tot (fun σ => F_Z37 (σ 0) g root k v kids) (Says (DictOk g kids)) := by
  refine tot_Z37 ?_
  unfold B_Z37
  have key := loop_Z37_L1 (Q := fun _ _ _ _ _ _ r => Says (DictOk g kids) r) (I := fun g' _ _ _ kids' i => g' = g ∧ kids' = kids ∧ ∃ j : Nat, i = j ∧ j ≤ kids.length + 1 ∧ j % 2 = 0 ∧
      ∀ q, q < j → q % 2 = 0 → q < kids.length → isKeyP (nd g (kids.getD q 0)) ∧ ∀ p, p < q → p % 2 = 0 → ¬ sameP (nd g (kids.getD q 0)) (nd g (kids.getD p 0))) (μ := fun _ _ _ _ _ i => (kids.length + 2 - i).toNat) ?_
  · exact key g root k v kids 0 ⟨rfl, rfl, 0, rfl, by omega, rfl, fun q hq => by omega⟩
  intro g' root' k' v' kids' i ⟨e1, e2, j, e3, hj, hj2, hq⟩ again hag ih
  subst e1 e2 e3
  unfold B_Z37_L1b
  simp only [tot_cond, tot_chk, tot_some, decide_eq_true_eq, decide_eq_false_iff_not, len, inb_iff]
  refine ⟨fun hlt => ?_, fun hge => ?_⟩
  · have hj' : j < kids'.length := by omega
    have hr := h.get hj'
    refine ⟨by omega, by rw [rdx_eq, Int.toNat_natCast]; exact hr, ?_⟩
    refine (isKey_tot _ _ []).bind ?_
    rintro _ ⟨b, rfl, hb⟩
    have hb : b = true ↔ isKeyP (nd g' (kids'.getD j 0)) := hb
    simp only [tot_cond, tot_some, Bool.not_eq_true', Bool.not_eq_false']
    refine ⟨fun hf => says_false fun hd => ?_, fun ht => ?_⟩
    · have := (hd.1 j hj' hj2).1
      rw [hf] at hb
      exact absurd (hb.2 this) (by decide)
    · have hkey := hb.1 ht
      have key2 := loop_Z37_L0 hag (Q := fun _ _ _ _ _ _ _ r => Says (DictOk g' kids') r) (I := fun g2 _ _ _ kids2 i2 k2 => g2 = g' ∧ kids2 = kids' ∧ i2 = (j : Int) ∧ ∃ m : Nat, k2 = m ∧ m % 2 = 0 ∧ m ≤ j ∧ ∀ p, p < m → p % 2 = 0 → ¬ sameP (nd g' (kids'.getD j 0)) (nd g' (kids'.getD p 0))) (μ := fun _ _ _ _ _ _ k2 => (j + 2 - k2).toNat) ?_
      · exact key2 g' root' k' v' kids' j 0 ⟨rfl, rfl, rfl, 0, rfl, rfl, by omega, fun p hp => by omega⟩
      intro g2 r2 kk2 v2 kids2 i2 k2 ⟨e1, e2, e3, m, e4, hm2, hmj, hp⟩ again2 hag2 ih2
      subst e1 e2 e3 e4
      unfold B_Z37_L0b
      simp only [tot_cond, tot_chk, tot_some, decide_eq_true_eq, decide_eq_false_iff_not, len, inb_iff]
      refine ⟨fun hmlt => ?_, fun hmge => ?_⟩
      · have hr2 := h.get (j := m) (by omega)
        refine ⟨by omega, by rw [rdx_eq, Int.toNat_natCast]; exact hr, by omega, by rw [rdx_eq, Int.toNat_natCast]; exact hr2, ?_⟩
        refine (sameKey_tot _ _ [] _ _ []).bind ?_
        rintro _ ⟨b2, rfl, hb2⟩
        have hb2 : b2 = true ↔ sameP (nd g2 (kids2.getD j 0)) (nd g2 (kids2.getD m 0)) := hb2
        simp only [tot_cond, tot_some]
        refine ⟨fun hs => says_false fun hd => (hd.1 j hj' hj2).2 m (by omega) hm2 (hb2.1 hs), fun hs => ?_⟩
        rw [w64_succ (by omega) (by omega)]
        refine ih2 _ _ _ _ _ _ _ ⟨rfl, rfl, rfl, m + 2, rfl, by omega, by omega, fun p h1 h2 => ?_⟩ (by simp; omega)
        by_cases e : p = m
        · subst e; intro hc; rw [hs] at hb2; exact absurd (hb2.2 hc) (by decide)
        · exact hp p (by omega) h2
      · have : m = j := by omega
        subst this
        rw [w64_succ (by omega) (by omega)]
        refine ih _ _ _ _ _ _ ⟨rfl, rfl, m + 2, rfl, by omega, by omega, fun q h1 h2 h3 => ?_⟩ (by simp; omega)
        by_cases e : q = m
        · subst e; exact ⟨hkey, hp⟩
        · exact hq q (by omega) h2 h3
  · refine ⟨_, rfl, ?_⟩
    rw [Int.tmod_eq_emod_of_nonneg (by omega), beq_iff_eq]
    constructor
    · intro h2; exact ⟨fun i hi hi2 => hq i (by omega) hi2 hi, by omega⟩
    · intro h2; have := h2.2; omega
end Go.Gx

/-
  Laws, part 8: valid graphs.
-/
set_option linter.unusedVariables false
set_option linter.unusedSimpArgs false
namespace Go.Gx
theorem says_iff {P : Prop} {b : Bool} (h : b = true ↔ P) : Says P ((b, ()), ()) := ⟨b, rfl, h⟩
theorem validNode_tot {g : List PNode} {root : Int} (hg : g.length ≤ 1000000) (n : PNode) (hn : n.2.2.length ≤ 1000000) : Tot (fun σ => F_Z30 (σ 0) g root n.1 n.2.1 n.2.2) (Says (NodeOk g n)) := by
  obtain ⟨k, v, kids⟩ := n
  refine tot_Z30 ?_
  unfold B_Z30
  have j0 : ∀ b : Bool, (b = false ↔ kids.length ≤ 6 ∧ InR g kids) → Tot (fun σ => B_Z30_J0 (σ 0) (F_s_allIn (σ 0)) (F_Z62 (σ 0)) (F_Z37 (σ 0)) g root k v kids b) (Says (NodeOk g (k, v, kids))) := by
    intro b hb
    unfold B_Z30_J0 B_Z30_J1
    rw [tot_cond]
    refine ⟨fun ht => ?_, fun hf => ?_⟩
    · rw [tot_some]
      refine says_false fun h => ?_
      have := hb.2 ⟨h.1, h.2.1⟩
      rw [ht] at this
      cases this
    obtain ⟨h6, hin⟩ := hb.1 hf
    have ok : ∀ {Q : Prop}, (NodeOk g (k, v, kids) ↔ Q) ↔ ((if k = 0 then 0 ≤ v ∧ v ≤ 999 ∧ kids = [] else if k = 1 then 0 ≤ v ∧ v ≤ 9 ∧ kids = [] else if k = 2 ∨ k = 3 then v = 0 else if k = 4 then v = 0 ∧ DictOk g kids else if k = 5 then 0 ≤ v ∧ v ≤ 9 ∧ kids.length ≤ 1 else False) ↔ Q) := by
      intro Q
      unfold NodeOk
      simp only [h6, hin, true_and]
    have fin : ∀ (b : Bool), ((if k = 0 then 0 ≤ v ∧ v ≤ 999 ∧ kids = [] else if k = 1 then 0 ≤ v ∧ v ≤ 9 ∧ kids = [] else if k = 2 ∨ k = 3 then v = 0 else if k = 4 then v = 0 ∧ DictOk g kids else if k = 5 then 0 ≤ v ∧ v ≤ 9 ∧ kids.length ≤ 1 else False) ↔ b = true) → Says (NodeOk g (k, v, kids)) ((b, ()), ()) := fun b h => says_iff (ok.2 h).symm
    have hlen : (len kids == 0) = decide (kids = []) := by
      rw [Bool.eq_iff_iff]; simp [len]
    simp only [tot_cond, tot_jn, beq_iff_eq, beq_eq_false_iff_ne, ne_eq]
    refine ⟨fun h0 => ?_, fun h0 => ⟨fun h1 => ?_, fun h1 => ⟨fun h2 => ?_, fun h2 => ⟨fun h3 => ?_, fun h3 => ⟨fun h4 => ⟨fun hv => ?_, fun hv => ?_⟩, fun h4 => ⟨fun h5 => ?_, fun h5 => ?_⟩⟩⟩⟩⟩⟩
    · refine (inRange_tot' v 0 999).bind ?_
      rintro _ rfl
      simp only [tot_cond, tot_some, decide_eq_true_eq, decide_eq_false_iff_not]
      exact ⟨fun hr => fin _ (by rw [if_pos h0, hlen, decide_eq_true_eq]; exact ⟨fun h => h.2.2, fun h => ⟨hr.1, hr.2, h⟩⟩), fun hr => fin _ (by rw [if_pos h0]; exact ⟨fun h => absurd ⟨h.1, h.2.1⟩ hr, fun h => by cases h⟩)⟩
    · refine (inRange_tot' v 0 9).bind ?_
      rintro _ rfl
      simp only [tot_cond, tot_some, decide_eq_true_eq, decide_eq_false_iff_not]
      exact ⟨fun hr => fin _ (by rw [if_neg h0, if_pos h1, hlen, decide_eq_true_eq]; exact ⟨fun h => h.2.2, fun h => ⟨hr.1, hr.2, h⟩⟩), fun hr => fin _ (by rw [if_neg h0, if_pos h1]; exact ⟨fun h => absurd ⟨h.1, h.2.1⟩ hr, fun h => by cases h⟩)⟩
    · refine ⟨fun _ => ?_, fun h => absurd h2 h⟩
      rw [tot_some]
      exact fin _ (by rw [if_neg h0, if_neg h1, if_pos (.inl h2), beq_iff_eq])
    · rw [tot_some]
      exact fin _ (by rw [if_neg h0, if_neg h1, if_pos (.inr h3), beq_iff_eq])
    · refine (validDict_tot hin h6).bind ?_
      rintro _ ⟨b2, rfl, hb2⟩
      rw [tot_some]
      exact fin _ (by rw [if_neg h0, if_neg h1, if_neg (by simp [h2, h3]), if_pos h4]; exact ⟨fun h => hb2.2 h.2, fun h => ⟨hv, hb2.1 h⟩⟩)
    · rw [tot_some]
      exact fin _ (by rw [if_neg h0, if_neg h1, if_neg (by simp [h2, h3]), if_pos h4]; exact ⟨fun h => absurd h.1 hv, fun h => by cases h⟩)
    · refine (inRange_tot' v 0 9).bind ?_
      rintro _ rfl
      simp only [tot_cond, tot_some, decide_eq_true_eq, decide_eq_false_iff_not]
      exact ⟨fun hr => fin _ (by rw [if_neg h0, if_neg h1, if_neg (by simp [h2, h3]), if_neg h4, if_pos h5, decide_eq_true_eq]; exact ⟨fun h => by have := h.2.2; simp only [len]; omega, fun h => ⟨hr.1, hr.2, by simp only [len] at h; omega⟩⟩),
        fun hr => fin _ (by rw [if_neg h0, if_neg h1, if_neg (by simp [h2, h3]), if_neg h4, if_pos h5]; exact ⟨fun h => absurd ⟨h.1, h.2.1⟩ hr, fun h => by cases h⟩)⟩
    · rw [tot_some]
      exact fin _ (by rw [if_neg h0, if_neg h1, if_neg (by simp [h2, h3]), if_neg h4, if_neg h5]; simp)
  simp only [tot_cond, tot_jn, decide_eq_true_eq, decide_eq_false_iff_not, len]
  refine ⟨fun h => j0 true ⟨fun h' => Bool.noConfusion h', fun h' => by omega⟩, fun h => ?_⟩
  rw [show w64 ((g.length : Int) - 1) = (g.length : Int) - 1 from w64_id (by omega) (by omega)]
  refine (allIn_tot (by simp only [] at hn; omega) 0 _).bind ?_
  rintro _ ⟨b, rfl, hb⟩
  rw [tot_jn]
  refine j0 (!b) ?_
  rw [Bool.not_eq_false', hb]
  constructor
  · intro h1; exact ⟨by omega, fun x hx => by have := h1 x hx; omega⟩
  · intro h1 x hx; have := h1.2 x hx; omega
/-- Every node's kids are nodes, and not too many. -/
def Kidly (g : List PNode) : Prop := ∀ n ∈ g, n.2.2.length ≤ 6 ∧ InR g n.2.2
theorem nd_mem {g : List PNode} {i : Int} (h0 : 0 ≤ i) (h1 : i < (g.length : Int)) : nd g i ∈ g := rdx_mem h0 h1
theorem nodup_len {n : Nat} : ∀ {l : List Int}, l.Nodup → (∀ x ∈ l, 0 ≤ x ∧ x < (n : Int)) → l.length ≤ n := by
  induction n with
  | zero =>
    intro l _ h
    cases l with
    | nil => simp
    | cons x l => have := h x (by simp); omega
  | succ n ih =>
    intro l hn h
    have h1 : (l.erase (n : Int)).Nodup := hn.erase _
    have h2 := ih h1 (fun x hx => by
      have hx' := List.mem_of_mem_erase hx
      have := h x hx'
      have hne : x ≠ (n : Int) := fun e => by subst e; exact (List.Nodup.not_mem_erase hn) hx
      omega)
    by_cases hm : (n : Int) ∈ l
    · rw [List.length_erase_of_mem hm] at h2; omega
    · rw [List.erase_of_not_mem hm] at h2; omega
theorem getD_left {α : Type} {l m : List α} {i : Nat} {d : α} (h : i < l.length) : (l ++ m).getD i d = l.getD i d := by
  rw [List.getD_eq_getElem?_getD, List.getD_eq_getElem?_getD, List.getElem?_append_left h]
theorem tupleReach_tot {g : List PNode} {root : Int} (hk : Kidly g) (hg : g.length ≤ 1000000) {at1 : Int} (h0 : 0 ≤ at1) (h1 : at1 < (g.length : Int)) :
    Tot (fun σ => F_Z12 (σ 0) g root at1) (fun r => ∃ out : List Int, r = ((out, ()), ()) ∧ (∀ x, x ∈ out ↔ TReach g at1 x) ∧ out.Nodup ∧ out.length ≤ g.length) := by
  refine tot_Z12 ?_
  unfold B_Z12
  have hat := hk _ (nd_mem h0 h1)
  rw [tot_chk]
  refine ⟨inb_iff.2 ⟨h0, h1⟩, (copyInts_tot' (l := (nd g at1).2.2) (by omega)).bind ?_⟩
  rintro _ rfl
  have key := loop_Z12_L1 (Q := fun _ _ _ _ _ r => ∃ out : List Int, r = ((out, ()), ()) ∧ (∀ x, x ∈ out ↔ TReach g at1 x) ∧ out.Nodup ∧ out.length ≤ g.length)
    (I := fun g' _ out list k7 => g' = g ∧ ∃ j : Nat, k7 = j ∧ j ≤ list.length ∧ (∀ x ∈ list, TReach g at1 x ∧ 0 ≤ x ∧ x < (g.length : Int)) ∧ out.Nodup ∧ (∀ x ∈ out, x ∈ list) ∧ (∀ q, q < j → list.getD q 0 ∈ out) ∧
      (∀ x ∈ (nd g at1).2.2, x ∈ list) ∧ (∀ x ∈ out, (nd g x).1 = 2 → ∀ y ∈ (nd g x).2.2, y ∈ list) ∧ list.length ≤ 6 + 6 * out.length) (μ := fun _ _ out list k7 => 7 * (g.length - out.length) + (list.length - k7.toNat)) ?_
  · exact key g root [] _ 0 ⟨rfl, 0, rfl, by omega, fun x hx => ⟨.kid hx, hat.2 x hx⟩, List.nodup_nil, fun x hx => by simp at hx, fun q hq => by omega, fun x hx => hx, fun x hx => by simp at hx, by simp; exact hat.1⟩
  intro g' r' out list k7 ⟨e1, j, e2, hj, hl, hnd, hol, hq, hkid, hst, hlen⟩ again hag ih
  subst e1 e2
  unfold B_Z12_L1b B_Z12_J0
  have hout : out.length ≤ g'.length := nodup_len hnd fun x hx => (hl x (hol x hx)).2
  simp only [tot_cond, tot_chk, tot_jn, tot_some, decide_eq_true_eq, decide_eq_false_iff_not, len, inb_iff, Int.toNat_natCast]
  refine ⟨fun hlt => ⟨by omega, by omega, ?_⟩, fun hge => ?_⟩
  · have hj' : j < list.length := by omega
    have hm : list.getD j 0 ∈ list := by rw [List.getD_eq_getElem?_getD, List.getElem?_eq_getElem hj']; exact List.getElem_mem _
    generalize hx : list.getD j 0 = x at hm
    have hxr := hl x hm
    refine (placeIn_tot (by omega) x).bind ?_
    rintro _ ⟨v, rfl, hv⟩
    simp only [tot_cond, tot_chk, tot_jn, decide_eq_true_eq, decide_eq_false_iff_not, room_iff, inb_iff, List.length_cons, List.length_nil, beq_iff_eq, beq_eq_false_iff_ne, ne_eq]
    have wj : w64 ((j : Int) + 1) = ((j + 1 : Nat) : Int) := w64_succ (by omega) (by omega)
    refine ⟨fun hneg => ?_, fun hpos => ?_⟩
    · have hni : x ∉ out := by
        rcases hv with ⟨_, h⟩ | ⟨i, e, _⟩
        · exact h
        · omega
      have hnd2 : (out ++ [x]).Nodup := by
        rw [List.nodup_append]
        exact ⟨hnd, by simp, fun a ha b hb e => by simp at hb; subst hb; subst e; exact hni ha⟩
      have hout2 : (out ++ [x]).length ≤ g'.length := nodup_len hnd2 fun y hy => by
        rcases List.mem_append.1 hy with h | h
        · exact (hl y (hol y h)).2
        · simp at h; subst h; exact hxr.2
      simp only [List.length_append, List.length_cons, List.length_nil] at hout2
      have hkx := hk _ (nd_mem hxr.2.1 hxr.2.2)
      have hkl : (nd g' x).2.2.length ≤ 6 := hkx.1
      refine ⟨by omega, by omega, by omega, by omega, by omega, hxr.2, fun ht => ⟨by omega, by omega, hxr.2, by show list.length + (nd g' x).2.2.length ≤ _; omega, ?_⟩, fun ht => ?_⟩
      · rw [wj]
        refine ih _ _ _ _ _ ⟨rfl, j + 1, rfl, by simp only [List.length_append]; omega, fun y hy => ?_, hnd2, fun y hy => ?_, fun q h => ?_, fun y hy => List.mem_append_left _ (hkid y hy), fun y hy h2 z hz => ?_, ?_⟩ ?_
        · rcases List.mem_append.1 hy with h | h
          · exact hl y h
          · exact ⟨.step hxr.1 ht h, hkx.2 y h⟩
        · rcases List.mem_append.1 hy with h | h
          · exact List.mem_append_left _ (hol y h)
          · simp at h; subst h; exact List.mem_append_left _ hm
        · rw [getD_left (by omega)]
          by_cases e : q = j
          · subst e; rw [hx]; simp
          · exact List.mem_append_left _ (hq q (by omega))
        · rcases List.mem_append.1 hy with h | h
          · exact List.mem_append_left _ (hst y h h2 z hz)
          · simp at h; subst h; exact List.mem_append_right _ hz
        · simp only [List.length_append, List.length_cons, List.length_nil]
          have : (rdx ((0 : Int), ((0 : Int), ([] : List Int))) g' x).2.2.length ≤ 6 := hkl
          omega
        · simp only [List.length_append, List.length_cons, List.length_nil, Int.toNat_natCast]
          have : (rdx ((0 : Int), ((0 : Int), ([] : List Int))) g' x).2.2.length ≤ 6 := hkl
          omega
      · rw [wj]
        refine ih _ _ _ _ _ ⟨rfl, j + 1, rfl, by omega, hl, hnd2, fun y hy => ?_, fun q h => ?_, hkid, fun y hy h2 z hz => ?_, ?_⟩ ?_
        · rcases List.mem_append.1 hy with h | h
          · exact hol y h
          · simp at h; subst h; exact hm
        · by_cases e : q = j
          · subst e; rw [hx]; simp
          · exact List.mem_append_left _ (hq q (by omega))
        · rcases List.mem_append.1 hy with h | h
          · exact hst y h h2 z hz
          · simp at h; subst h; exact absurd h2 ht
        · simp only [List.length_append, List.length_cons, List.length_nil]; omega
        · simp only [List.length_append, List.length_cons, List.length_nil, Int.toNat_natCast]; omega
    · have hmo : x ∈ out := by
        rcases hv with ⟨e, _⟩ | ⟨i, e, hi, he, _⟩
        · omega
        · rw [← he, List.getD_eq_getElem?_getD, List.getElem?_eq_getElem hi]; exact List.getElem_mem _
      rw [wj]
      refine ih _ _ _ _ _ ⟨rfl, j + 1, rfl, by omega, hl, hnd, hol, fun q h => ?_, hkid, hst, hlen⟩ (by simp only [Int.toNat_natCast]; omega)
      by_cases e : q = j
      · subst e; rw [hx]; exact hmo
      · exact hq q (by omega)
  · have hall : ∀ x ∈ list, x ∈ out := by
      intro x hx
      obtain ⟨i, hi, e⟩ := List.getElem_of_mem hx
      have := hq i (by omega)
      rwa [List.getD_eq_getElem?_getD, List.getElem?_eq_getElem hi, Option.getD_some, e] at this
    refine ⟨out, rfl, fun x => ⟨fun hx => (hl x (hol x hx)).1, fun hx => ?_⟩, hnd, hout⟩
    induction hx with
    | kid hk' => exact hall _ (hkid _ hk')
    | step _ h2 hk' ih' => exact hall _ (hst _ ih' h2 _ hk')
end Go.Gx

/-
  Laws, part 9: graphs that are drawn.
-/
set_option linter.unusedVariables false
set_option linter.unusedSimpArgs false
namespace Go.Gx
theorem NodeOk.kidly {g : List PNode} {n : PNode} (h : NodeOk g n) : n.2.2.length ≤ 6 ∧ InR g n.2.2 := ⟨h.1, h.2.1⟩
theorem validGraph_tot {g : List PNode} {root : Int} (hg : g.length ≤ 1000000) (hk : ∀ n ∈ g, n.2.2.length ≤ 1000000) : Tot (fun σ => F_Z17 (σ 0) g root) (Says (ValidG g root)) := by
  refine tot_Z17 ?_
  unfold B_Z17
  refine (inRange_tot' (len g) 1 12).bind ?_
  rintro _ rfl
  have j0 : ∀ b : Bool, (b = false ↔ 1 ≤ g.length ∧ g.length ≤ 12 ∧ 0 ≤ root ∧ root < (g.length : Int)) → Tot (fun σ => B_Z17_J0 (σ 0) (F_Z62 (σ 0)) (F_Z30 (σ 0)) (F_Z12 (σ 0)) (F_Z59 (σ 0)) g root b) (Says (ValidG g root)) := by
    intro b hb
    unfold B_Z17_J0
    rw [tot_cond]
    refine ⟨fun ht => ?_, fun hf => ?_⟩
    · rw [tot_some]
      refine says_false fun h => ?_
      have := hb.2 ⟨h.pos, h.most, h.root⟩
      rw [ht] at this
      cases this
    obtain ⟨p1, p2, p3⟩ := hb.1 hf
    have key := loop_Z17_L1 (Q := fun _ _ _ r => Says (ValidG g root) r) (I := fun g' r' i => g' = g ∧ r' = root ∧ ∃ j : Nat, i = j ∧ j ≤ g.length ∧ ∀ q : Nat, q < j → NodeOk g (nd g q)) (μ := fun _ _ i => (g.length - i).toNat) ?_
    · exact key g root 0 ⟨rfl, rfl, 0, rfl, by omega, fun q hq => by omega⟩
    intro g' r' i ⟨e1, e2, j, e3, hj, hq⟩ again hag ih
    subst e1 e2 e3
    unfold B_Z17_L1b
    simp only [tot_cond, tot_chk, tot_some, decide_eq_true_eq, decide_eq_false_iff_not, len, inb_iff]
    refine ⟨fun hlt => ⟨by omega, ?_⟩, fun hge => ?_⟩
    · have hm : nd g' (j : Int) ∈ g' := nd_mem (by omega) hlt
      refine (validNode_tot hg (nd g' (j : Int)) (hk _ hm)).bind ?_
      rintro _ ⟨b2, rfl, hb2⟩
      simp only [tot_cond, tot_some, Bool.not_eq_true', Bool.not_eq_false']
      refine ⟨fun hf2 => says_false fun h => ?_, fun ht2 => ?_⟩
      · have := hb2.2 (h.node _ hm); rw [hf2] at this; cases this
      · rw [w64_succ (by omega) (by omega)]
        refine ih _ _ _ ⟨rfl, rfl, j + 1, rfl, by omega, fun q h => ?_⟩ (by simp; omega)
        by_cases e : q = j
        · subst e; exact hb2.1 ht2
        · exact hq q (by omega)
    · have hnode : ∀ n ∈ g', NodeOk g' n := by
        intro n hn
        obtain ⟨i, hi, e⟩ := List.getElem_of_mem hn
        have := hq i (by omega)
        rw [nd, rdx_eq, Int.toNat_natCast, List.getD_eq_getElem?_getD, List.getElem?_eq_getElem hi, Option.getD_some, e] at this
        exact this
      have hkid : Kidly g' := fun n hn => (hnode n hn).kidly
      have key2 := loop_Z17_L3 (Q := fun _ _ _ r => Says (ValidG g' r') r) (I := fun g2 r2 i => g2 = g' ∧ r2 = r' ∧ ∃ j : Nat, i = j ∧ j ≤ g'.length ∧ ∀ q : Nat, q < j → (nd g' q).1 = 2 → ¬ TReach g' q q) (μ := fun _ _ i => (g'.length - i).toNat) ?_
      · exact key2 g' r' 0 ⟨rfl, rfl, 0, rfl, by omega, fun q hq => by omega⟩
      intro g2 r2 i ⟨e1, e2, m, e3, hm, ht⟩ again2 hag2 ih2
      subst e1 e2 e3
      unfold B_Z17_L3b B_Z17_J2
      have next : ¬ ((nd g2 (m : Int)).1 = 2 ∧ TReach g2 m m) → (m : Int) < g2.length → Tot (fun σ => again2 σ ((g2, r2, ()), w64 ((m : Int) + 1), ())) (Says (ValidG g2 r2)) := by
        intro hn hlt
        rw [w64_succ (by omega) (by omega)]
        refine ih2 _ _ _ ⟨rfl, rfl, m + 1, rfl, by omega, fun q h h2 => ?_⟩ (by simp; omega)
        by_cases e : q = m
        · subst e; exact fun h3 => hn ⟨h2, h3⟩
        · exact ht q (by omega) h2
      simp only [tot_cond, tot_chk, tot_jn, tot_some, decide_eq_true_eq, decide_eq_false_iff_not, len, inb_iff, beq_iff_eq, beq_eq_false_iff_ne, ne_eq]
      refine ⟨fun hlt => ⟨by omega, fun h2 => ?_, fun h2 => ⟨fun h => absurd h (by decide), fun _ => next (fun h => h2 h.1) hlt⟩⟩, fun hge => says_true ⟨p1, p2, p3, hnode, fun i hi => ht i (by omega)⟩⟩
      refine (tupleReach_tot hkid hg (by omega) hlt).bind ?_
      rintro _ ⟨out, rfl, ho, hnd, hol⟩
      refine (placeIn_tot (by simp only []; omega) _).bind ?_
      rintro _ ⟨v, rfl, hv⟩
      simp only [tot_cond, tot_jn, tot_some, decide_eq_true_eq, decide_eq_false_iff_not]
      refine ⟨fun hpos => says_false fun h => ?_, fun hneg => next (fun h => ?_) hlt⟩
      · refine h.tup m (by omega) h2 ((ho _).1 ?_)
        rcases hv with ⟨e, _⟩ | ⟨i, e, hi, he, _⟩
        · omega
        · rw [← he, List.getD_eq_getElem?_getD, List.getElem?_eq_getElem hi]; exact List.getElem_mem _
      · rcases hv with ⟨_, hno⟩ | ⟨i, e, _⟩
        · exact hno ((ho _).2 h.2)
        · omega
  simp only [tot_cond, tot_jn, Bool.not_eq_true', Bool.not_eq_false', decide_eq_true_eq, decide_eq_false_iff_not, len]
  refine ⟨fun h => j0 true ⟨fun h' => Bool.noConfusion h', fun h' => by omega⟩, fun h => ?_⟩
  rw [show w64 ((g.length : Int) - 1) = (g.length : Int) - 1 from w64_id (by omega) (by omega)]
  refine (inRange_tot' root 0 _).bind ?_
  rintro _ rfl
  rw [tot_jn]
  refine j0 _ ?_
  rw [Bool.not_eq_false', decide_eq_true_eq]
  omega
/-- A node without kids, drawn. -/
def LeafOk (k v : Int) : Prop := (k = 0 ∧ 0 ≤ v ∧ v ≤ 999) ∨ (k = 1 ∧ 0 ≤ v ∧ v ≤ 9) ∨ (2 ≤ k ∧ k ≤ 4 ∧ v = 0) ∨ (k = 5 ∧ 0 ≤ v ∧ v ≤ 9)
theorem someNode_tot {b : List Int} {p : Int} (h : RD b p) (hp : p ≤ 900000000) : Tot (fun σ => F_Z44 (σ 0) b p) (Drawn b p 3 fun x => ∃ k v, x = ((k, v, (), ()), ()) ∧ LeafOk k v) := by
  refine tot_Z44 ?_
  unfold B_Z44 B_Z44_J0 B_Z44_J1
  refine (pick_tot h (by omega) (by omega)).bind ?_
  rintro _ ⟨_, q, rfl, h1, h2, c, rfl, h3, h4⟩
  have h4 := h4 (by omega)
  have hq := h.next h1 (by omega)
  have fin : ∀ (q' k v : Int), p ≤ q' → q' ≤ p + 3 → LeafOk k v → Drawn b p 3 (fun x => ∃ k v, x = ((k, v, (), ()), ()) ∧ LeafOk k v) (((k, v, (), ()), ()), ((b, q', ()), ())) := fun q' k v h1 h2 h3 => ⟨_, _, rfl, h1, h2, k, v, rfl, h3⟩
  have last : Tot (fun σ => (F_Z10 (σ 0) b q 3).bind fun r30 => some ((((5 : Int), r30.1.1, (), ()), ()), ((r30.2.1.1, r30.2.1.2.1, ()), ()))) (Drawn b p 3 (fun x => ∃ k v, x = ((k, v, (), ()), ()) ∧ LeafOk k v)) := by
    refine (pick_tot hq (by omega) (by omega)).bind ?_
    rintro _ ⟨_, q2, rfl, g1, g2, a, rfl, g3, g4⟩
    have g4 := g4 (by omega)
    rw [tot_some]
    exact fin q2 5 a (by omega) (by omega) (.inr (.inr (.inr (by omega))))
  simp only [tot_cond, tot_jn, tot_some, beq_iff_eq, beq_eq_false_iff_ne, ne_eq]
  have s2 : Drawn b p 3 (fun x => ∃ k v, x = ((k, v, (), ()), ()) ∧ LeafOk k v) (((2, 0, (), ()), ()), ((b, q, ()), ())) := fin q 2 0 (by omega) (by omega) (.inr (.inr (.inl (by omega))))
  have s3 : Drawn b p 3 (fun x => ∃ k v, x = ((k, v, (), ()), ()) ∧ LeafOk k v) (((3, 0, (), ()), ()), ((b, q, ()), ())) := fin q 3 0 (by omega) (by omega) (.inr (.inr (.inl (by omega))))
  have s4 : Drawn b p 3 (fun x => ∃ k v, x = ((k, v, (), ()), ()) ∧ LeafOk k v) (((4, 0, (), ()), ()), ((b, q, ()), ())) := fin q 4 0 (by omega) (by omega) (.inr (.inr (.inl (by omega))))
  refine ⟨fun h0 => ?_, fun h0 => ⟨fun h1' => ?_, fun h1' => ?_⟩⟩
  · refine (pick_tot hq (by omega) (by omega)).bind ?_
    rintro _ ⟨_, q2, rfl, g1, g2, a, rfl, g3, g4⟩
    have g4 := g4 (by omega)
    refine (one_tot (hq.next g1 (by omega)) (by omega) (by simp) (by simp)).bind ?_
    rintro _ ⟨_, q3, rfl, f1, f2, v, rfl, hv⟩
    rw [tot_some]
    simp only [List.mem_cons, List.not_mem_nil, or_false] at hv
    exact fin q3 0 v (by omega) (by omega) (.inl (by omega))
  · refine (pick_tot hq (by omega) (by omega)).bind ?_
    rintro _ ⟨_, q2, rfl, g1, g2, a, rfl, g3, g4⟩
    have g4 := g4 (by omega)
    rw [tot_some]
    exact fin q2 1 a (by omega) (by omega) (.inr (.inl (by omega)))
  · simp only [s2, s3, s4, last, implies_true, and_self]
end Go.Gx

/-
  Laws, part 10: a graph that is drawn is valid.
-/
set_option linter.unusedVariables false
set_option linter.unusedSimpArgs false
namespace Go.Gx
abbrev ONode : Type := Int × Int × Option (List Int)
abbrev od : ONode := ((0 : Int), ((0 : Int), (none : Option (List Int))))
abbrev cvN (p : ONode) : PNode := (p.1, (p.2.1, p.2.2.getD []))
theorem set_getD {α : Type} {l : List α} {i : Nat} {d : α} : l.set i (l.getD i d) = l := by
  by_cases h : i < l.length
  · rw [List.getD_eq_getElem?_getD, List.getElem?_eq_getElem h, Option.getD_some]; exact List.set_getElem_self h
  · rw [List.set_eq_of_length_le (by omega)]
theorem getD_set_ne {α : Type} {l : List α} {i j : Nat} {x d : α} (h : j ≠ i) : (l.set i x).getD j d = l.getD j d := by
  rw [List.getD_eq_getElem?_getD, List.getD_eq_getElem?_getD, List.getElem?_set_ne (by omega)]
def AddOk (g : List ONode) (root : Int) (i : Nat) (x : (List ONode × Int × Unit) × Unit) : Prop :=
  ∃ g', x = ((g', root, ()), ()) ∧ ValidG (g'.map cvN) root ∧ g'.length = g.length ∧ ∀ j, j ≠ i → g'.getD j od = g.getD j od
theorem addKids_tot {b : List Int} {p : Int} (h : RD b p) (hp : p ≤ 800000000) {g : List ONode} {root : Int} (hv : ValidG (g.map cvN) root) {i : Nat} (hi : i < g.length) (hn : (g.getD i od).2.2 = none) :
    Tot (fun σ => F_Z54 (σ 0) b p g root i) (Drawn b p 20 (AddOk g root i)) := by
  have hlen : g.length ≤ 12 := by have := hv.most; simpa using this
  refine tot_Z54 ?_
  unfold B_Z54
  simp only [tot_chk, inb_iff, decide_eq_true_eq, Int.toNat_natCast]
  refine ⟨by omega, hi, (one_tot h (by omega) (by simp) (by simp)).bind ?_⟩
  rintro _ ⟨_, q, rfl, h1, h2, n, rfl, hnm⟩
  have hnn : 0 ≤ n ∧ n ≤ 4 := by
    simp only [List.mem_cons, List.not_mem_nil, or_false] at hnm
    omega
  rw [tot_chk]
  refine ⟨by rw [show (g.getD i od).2.2 = none from hn]; rfl, ?_⟩
  have key := loop_Z54_L3 (Q := fun _ _ _ _ _ _ _ _ _ _ r => Drawn b p 20 (AddOk g root i) r)
    (I := fun b' q' at2 g' r' _ k v kids m => b' = b ∧ at2 = (i : Int) ∧ g' = g ∧ r' = root ∧ p ≤ q' ∧ q' + 4 * m ≤ p + 17 ∧ 0 ≤ m ∧ m ≤ 4 ∧ (kids.length : Int) + 2 * m ≤ 10) (μ := fun _ _ _ _ _ _ _ _ _ m => m.toNat) ?_
  · exact key b q i g root 0 _ _ [] n ⟨rfl, rfl, rfl, rfl, h1, by omega, hnn.1, hnn.2, by simp; omega⟩
  intro b' q' at2 g' r' t6 k v kids m ⟨e1, e2, e3, e4, g1, g2, g3, g4, g5⟩ again hag ih
  subst e1 e2 e3 e4
  have hr := h.next g1 (by omega)
  unfold B_Z54_L3b
  rw [tot_cond]
  simp only [decide_eq_true_eq, decide_eq_false_iff_not]
  refine ⟨fun hm => ?_, fun hm => ?_⟩
  · -- a round
    have w : w64 (m - 1) = m - 1 := w64_id (by omega) (by omega)
    have j2 : ∀ (q2 : Int) (kids2 : List Int), q' ≤ q2 → q2 ≤ q' + 4 → kids2.length ≤ kids.length + 2 → Tot (fun σ => B_Z54_J2 (σ 0) (F_Z14 (σ 0)) (F_Z10 (σ 0)) (F_s_isKey (σ 0)) (F_Z17 (σ 0)) (again σ) b' q2 i g' r' t6 k v kids2 m) (Drawn b' p 20 (AddOk g' r' i)) := by
      intro q2 kids2 k1 k2 k3
      unfold B_Z54_J2
      rw [w]
      exact ih _ _ _ _ _ _ _ _ _ _ ⟨rfl, rfl, rfl, rfl, by omega, by omega, by omega, by omega, by omega⟩ (by omega)
    have hkl : kids.length ≤ 10 := by omega
    have j1 : ∀ (q2 kid : Int) (t : Bool), q' ≤ q2 → q2 ≤ q' + 2 → Tot (fun σ => B_Z54_J1 (σ 0) (F_Z14 (σ 0)) (F_Z10 (σ 0)) (F_s_isKey (σ 0)) (F_Z17 (σ 0)) (again σ) b' q2 i g' r' t6 k v kids m kid t) (Drawn b' p 20 (AddOk g' r' i)) := by
      intro q2 kid t k1 k2
      unfold B_Z54_J1
      rw [tot_cond]
      refine ⟨fun _ => ?_, fun _ => ?_⟩
      · refine (pick_tot (hr.next k1 (by omega)) (by omega) (by simp only [len]; omega)).bind ?_
        rintro _ ⟨_, q3, rfl, f1, f2, y, rfl, f3, f4⟩
        rw [tot_chk]
        refine ⟨room_iff.2 (by simp only [List.length_cons, List.length_nil]; omega), ?_⟩
        rw [tot_jn]
        exact j2 q3 _ (by omega) (by omega) (by simp)
      · rw [tot_jn]
        exact j2 q2 kids k1 (by omega) (by omega)
    refine (pick_tot hr (by omega) (by simp only [len]; omega)).bind ?_
    rintro _ ⟨_, q2, rfl, f1, f2, kid, rfl, f3, f4⟩
    have f4 := f4 (by simp only [len]; omega)
    simp only [len] at f4
    have j0 : ∀ (t : Bool), Tot (fun σ => B_Z54_J0 (σ 0) (F_Z14 (σ 0)) (F_Z10 (σ 0)) (F_s_isKey (σ 0)) (F_Z17 (σ 0)) (again σ) b' q2 i g' r' t6 k v kids m kid k t) (Drawn b' p 20 (AddOk g' r' i)) := by
      intro t
      unfold B_Z54_J0
      rw [tot_cond]
      refine ⟨fun _ => ?_, fun _ => ?_⟩
      · rw [tot_chk]
        refine ⟨room_iff.2 (by simp only [List.length_cons, List.length_nil]; omega), ?_⟩
        rw [tot_jn]
        exact j2 q2 _ f1 (by omega) (by simp)
      · rw [tot_cond]
        refine ⟨fun _ => ?_, fun _ => ?_⟩
        · rw [tot_jn]
          exact j2 q2 _ f1 (by omega) (by simp)
        · rw [tot_cond]
          refine ⟨fun _ => ?_, fun _ => ?_⟩
          · rw [tot_cond]
            refine ⟨fun _ => ?_, fun _ => ?_⟩
            · simp only [tot_chk, inb_iff, decide_eq_true_eq]
              refine ⟨by omega, by omega, (isKey_tot _ _ []).bind ?_⟩
              rintro _ ⟨b2, rfl, _⟩
              rw [tot_jn]
              exact j1 q2 kid _ f1 (by omega)
            · rw [tot_jn]
              exact j1 q2 kid _ f1 (by omega)
          · rw [tot_jn]
            exact j2 q2 kids f1 (by omega) (by omega)
    rw [tot_cond]
    refine ⟨fun _ => ?_, fun _ => ?_⟩
    · rw [tot_jn]; exact j0 _
    · rw [tot_jn]; exact j0 _
  · -- the end
    have hkl : kids.length ≤ 10 := by omega
    simp only [tot_chk, inb_iff, decide_eq_true_eq, Int.toNat_natCast]
    refine ⟨by omega, hi, by omega, hi, ?_⟩
    have hkl2 : ∀ n ∈ (g'.set i (k, (v, (some kids)))).map cvN, n.2.2.length ≤ 1000000 := by
      intro n hn'
      obtain ⟨o, ho, rfl⟩ := List.mem_map.1 hn'
      rcases List.mem_or_eq_of_mem_set ho with ho | rfl
      · have := (hv.node (cvN o) (List.mem_map.2 ⟨o, ho, rfl⟩)).1
        omega
      · show kids.length ≤ _; omega
    refine (validGraph_tot (root := r') (by simp; omega) hkl2).bind ?_
    rintro _ ⟨b2, rfl, hb2⟩
    unfold B_Z54_J4
    simp only [tot_cond, tot_chk, tot_jn, tot_some, Bool.not_eq_true', Bool.not_eq_false', inb_iff, decide_eq_true_eq, List.length_set, Int.toNat_natCast]
    have hn' : (g'.getD i od).2.2 = none := hn
    refine ⟨fun _ => ⟨by omega, hi, by rw [show (g'.getD i ((0 : Int), ((0 : Int), (none : Option (List Int))))).2.2 = none from hn']; rfl, _, _, rfl, g1, by omega, g', ?_, hv, rfl, fun j _ => rfl⟩, fun ht => ⟨_, _, rfl, g1, by omega, _, rfl, hb2.1 ht, by simp, fun j hj => getD_set_ne hj⟩⟩
    rw [List.set_set]
    have e : ((g'.getD i od).1, ((g'.getD i od).2.1, (none : Option (List Int)))) = g'.getD i od := by rw [← hn']
    show ((g'.set i ((g'.getD i od).1, ((g'.getD i od).2.1, (none : Option (List Int)))), r', ()), ()) = _
    rw [e]
    exact congrArg (fun l => ((l, r', ()), ())) (set_getD (d := od))
theorem leaf_valid {g : List ONode} {root : Int} (hp : 1 ≤ g.length) (hm : g.length ≤ 12) (hr : 0 ≤ root ∧ root < (g.length : Int)) (hn : ∀ n ∈ g, LeafOk n.1 n.2.1 ∧ n.2.2 = none) : ValidG (g.map cvN) root := by
  have hnd : ∀ i, (nd (g.map cvN) i).2.2 = [] := by
    intro i
    unfold nd
    rw [rdx_eq, List.getD_eq_getElem?_getD, List.getElem?_map]
    cases hq : g[i.toNat]? with
    | none => rfl
    | some o =>
      have := (hn o (List.mem_of_getElem? hq)).2
      simp [this]
  refine ⟨by simpa using hp, by simpa using hm, by simpa using hr, fun n hn' => ?_, fun i _ _ ht => ?_⟩
  · obtain ⟨o, ho, rfl⟩ := List.mem_map.1 hn'
    obtain ⟨hl, hno⟩ := hn o ho
    refine ⟨by simp [hno], fun x hx => by simp [hno] at hx, ?_⟩
    simp only [hno, Option.getD_none]
    rcases hl with ⟨e, h1, h2⟩ | ⟨e, h1, h2⟩ | ⟨h1, h2, h3⟩ | ⟨e, h1, h2⟩
    · rw [if_pos e]; exact ⟨h1, h2, trivial⟩
    · rw [if_neg (by omega), if_pos e]; exact ⟨h1, h2, trivial⟩
    · rw [if_neg (by omega), if_neg (by omega)]
      by_cases e : o.1 = 2 ∨ o.1 = 3
      · rw [if_pos e]; exact h3
      · rw [if_neg e, if_pos (by omega)]
        exact ⟨h3, ⟨fun i hi => by simp at hi, by simp⟩⟩
    · rw [if_neg (by omega), if_neg (by omega), if_neg (by omega), if_neg (by omega), if_pos e]; exact ⟨h1, h2, by simp⟩
  · cases ht with
    | kid hk => rw [hnd] at hk; simp at hk
    | step _ _ hk => rw [hnd] at hk; simp at hk
theorem someGraph_tot {b : List Int} {p : Int} (h : RD b p) (hp : p ≤ 700000000) : Tot (fun σ => F_Z36 (σ 0) b p) (Drawn b p 400 fun x => ∃ (g : List PNode) (root : Int), x = ((g, root, ()), ()) ∧ ValidG g root) := by
  refine tot_Z36 ?_
  unfold B_Z36
  refine (one_tot h (by omega) (by simp) (by simp)).bind ?_
  rintro _ ⟨_, q, rfl, h1, h2, n, rfl, hnm⟩
  have hnn : 1 ≤ n ∧ n ≤ 10 := by
    simp only [List.mem_cons, List.not_mem_nil, or_false] at hnm
    omega
  have key := loop_Z36_L0 (Q := fun _ _ _ _ _ _ r => Drawn b p 400 (fun x => ∃ (g : List PNode) (root : Int), x = ((g, root, ()), ()) ∧ ValidG g root) r)
    (I := fun b' q' _ g' _ m => b' = b ∧ p ≤ q' ∧ q' + 3 * m ≤ p + 40 ∧ 0 ≤ m ∧ m ≤ 10 ∧ 1 ≤ (g'.length : Int) + m ∧ (g'.length : Int) + m ≤ 10 ∧ ∀ x ∈ g', LeafOk x.1 x.2.1 ∧ x.2.2 = none) (μ := fun _ _ _ _ _ m => m.toNat) ?_
  · exact key b q 0 [] 0 n ⟨rfl, h1, by omega, by omega, hnn.2, by simp; omega, by simp; omega, fun x hx => by simp at hx⟩
  intro b' q' t2 g' r0 m ⟨e1, g1, g2, g3, g4, g5, g6, g7⟩ again hag ih
  subst e1
  have hr := h.next g1 (by omega)
  unfold B_Z36_L0b
  rw [tot_cond]
  simp only [decide_eq_true_eq, decide_eq_false_iff_not]
  refine ⟨fun hm => ?_, fun hm => ?_⟩
  · refine (someNode_tot hr (by omega)).bind ?_
    rintro _ ⟨_, q2, rfl, f1, f2, k, v, rfl, hl⟩
    rw [tot_chk]
    refine ⟨room_iff.2 (by simp only [List.length_cons, List.length_nil]; omega), ?_⟩
    rw [show w64 (m - 1) = m - 1 from w64_id (by omega) (by omega)]
    refine ih b' q2 t2 (g' ++ [(k, (v, none))]) r0 (m - 1) ⟨rfl, by omega, by omega, by omega, by omega, ?_, ?_, fun x hx => ?_⟩ (by omega)
    · simp only [List.length_append, List.length_cons, List.length_nil]; omega
    · simp only [List.length_append, List.length_cons, List.length_nil]; omega
    · rcases List.mem_append.1 hx with hx | hx
      · exact g7 x hx
      · simp only [List.mem_cons, List.not_mem_nil, or_false] at hx
        subst hx
        exact ⟨hl, rfl⟩
  · have hgl : 1 ≤ g'.length ∧ g'.length ≤ 10 := by omega
    have hrt : w64 (len g' - 1) = (g'.length : Int) - 1 := by rw [w64_id] <;> simp only [len] <;> omega
    rw [hrt]
    have key2 := loop_Z36_L1 (Q := fun _ _ _ _ _ _ r => Drawn b' p 400 (fun x => ∃ (g : List PNode) (root : Int), x = ((g, root, ()), ()) ∧ ValidG g root) r)
      (I := fun b2 q2 _ g2 r2 i => b2 = b' ∧ p ≤ q2 ∧ ∃ j : Nat, i = j ∧ j ≤ g2.length ∧ g2.length ≤ 10 ∧ 1 ≤ g2.length ∧ q2 ≤ p + 40 + 20 * i ∧ ValidG (g2.map cvN) r2 ∧ ∀ x : Nat, j ≤ x → (g2.getD x od).2.2 = none) (μ := fun _ _ _ g2 _ i => (g2.length - i).toNat) ?_
    · refine key2 b' q' t2 g' _ 0 ⟨rfl, g1, 0, rfl, by omega, hgl.2, hgl.1, by omega, leaf_valid hgl.1 (by omega) (by omega) g7, fun x _ => ?_⟩
      rw [List.getD_eq_getElem?_getD]
      cases hq : g'[x]? with
      | none => rfl
      | some o => exact (g7 o (List.mem_of_getElem? hq)).2
    intro b2 q2 t3 g2 r2 i ⟨e1, f1, j, e2, hj, hl10, hl1, f2, hv, hno⟩ again2 hag2 ih2
    subst e1 e2
    have hr2 := h.next f1 (by omega)
    unfold B_Z36_L1b B_Z36_J2
    rw [tot_cond]
    simp only [decide_eq_true_eq, decide_eq_false_iff_not, len]
    refine ⟨fun hlt => ?_, fun hge => ?_⟩
    · refine (addKids_tot hr2 (by omega) hv (i := j) (by omega) (hno j (Nat.le_refl _))).bind ?_
      rintro _ ⟨_, q3, rfl, k1, k2, g3', rfl, hv3, hlen3, hsame⟩
      rw [w64_succ (by omega) (by omega)]
      refine ih2 b2 q3 t3 g3' r2 ((j + 1 : Nat) : Int) ⟨rfl, by omega, j + 1, rfl, by omega, by omega, by omega, by omega, hv3, fun x hx => ?_⟩ (by omega)
      rw [hsame x (by omega)]
      exact hno x (by omega)
    · refine (pick_tot hr2 (by omega) (by omega)).bind ?_
      rintro _ ⟨_, q3, rfl, k1, k2, u, rfl, k3, k4⟩
      rw [tot_cond]
      refine ⟨fun _ => ?_, fun _ => ?_⟩
      · refine (pick_tot (hr2.next k1 (by omega)) (by omega) (by omega)).bind ?_
        rintro _ ⟨_, q4, rfl, l1, l2, rt, rfl, l3, l4⟩
        have l4 := l4 (by omega)
        rw [tot_jn, tot_some]
        exact ⟨_, q4, rfl, by omega, by omega, _, rt, rfl, ⟨hv.pos, hv.most, by simpa using ⟨l3, l4⟩, hv.node, hv.tup⟩⟩
      · rw [tot_jn, tot_some]
        exact ⟨_, q3, rfl, by omega, by omega, _, r2, rfl, hv⟩
end Go.Gx

/-
  Laws, part 11: to write a valid graph comes to an end.
-/
set_option linter.unusedVariables false
set_option linter.unusedSimpArgs false
namespace Go.Gx
open Classical in
noncomputable def rk (g : List PNode) (i : Int) : Nat := ((List.range g.length).filter (fun (j : Nat) => decide (TReach g i (j : Int)))).length
theorem filter_lt {α : Type} {p q : α → Bool} : ∀ {l : List α}, (∀ x ∈ l, p x = true → q x = true) → (l.filter p).length ≤ (l.filter q).length
  | [], _ => by simp
  | x :: l, h => by
    have ih := filter_lt (p := p) (q := q) (l := l) (fun y hy => h y (List.mem_cons_of_mem _ hy))
    cases hp : p x with
    | true => simp [List.filter_cons, hp, h x (by simp) hp, ih]
    | false =>
      cases hq : q x with
      | true => simp [List.filter_cons, hp, hq]; omega
      | false => simp [List.filter_cons, hp, hq, ih]
theorem filter_lt' {α : Type} {p q : α → Bool} {a : α} : ∀ {l : List α}, (∀ x ∈ l, p x = true → q x = true) → a ∈ l → p a = false → q a = true → (l.filter p).length < (l.filter q).length
  | [], _, ha, _, _ => by simp at ha
  | x :: l, h, ha, hp, hq => by
    have h' := fun y hy => h y (List.mem_cons_of_mem x hy)
    rcases List.mem_cons.1 ha with rfl | ha
    · have := filter_lt (p := p) (q := q) (l := l) h'
      simp [List.filter_cons, hp, hq]
      omega
    · have ih := filter_lt' h' ha hp hq
      cases hpx : p x with
      | true => simp [List.filter_cons, hpx, h x (by simp) hpx, ih]
      | false =>
        cases hqx : q x with
        | true => simp [List.filter_cons, hpx, hqx]; omega
        | false => simp [List.filter_cons, hpx, hqx, ih]
theorem rk_le (g : List PNode) (i : Int) : rk g i ≤ g.length := by
  unfold rk
  refine Nat.le_trans (List.length_filter_le _ _) ?_
  simp
theorem reach_in {g : List PNode} (hk : Kidly g) {i x : Int} (hi : 0 ≤ i ∧ i < (g.length : Int)) (h : TReach g i x) : 0 ≤ x ∧ x < (g.length : Int) := by
  induction h with
  | kid hm => exact (hk _ (nd_mem hi.1 hi.2)).2 _ hm
  | step _ _ hm ih => exact (hk _ (nd_mem ih.1 ih.2)).2 _ hm
theorem rk_lt {g : List PNode} {root : Int} (hv : ValidG g root) {i k : Int} (hi : 0 ≤ i ∧ i < (g.length : Int)) (hm : k ∈ (nd g i).2.2) (h2 : (nd g k).1 = 2) : rk g k < rk g i := by
  have hk : Kidly g := fun n hn => (hv.node n hn).kidly
  have hki := reach_in hk hi (.kid hm)
  obtain ⟨m, rfl⟩ := Int.eq_ofNat_of_zero_le hki.1
  have up : ∀ x, TReach g (m : Int) x → TReach g i x := by
    intro x hx
    induction hx with
    | kid hk' => exact .step (.kid hm) h2 hk'
    | step _ h3 hk' ih => exact .step ih h3 hk'
  unfold rk
  refine filter_lt' (a := m) (fun x _ hx => ?_) (by simp; omega) ?_ ?_
  · simp only [decide_eq_true_eq] at hx ⊢
    exact up _ hx
  · simp only [decide_eq_false_iff_not]
    exact hv.tup m (by omega) h2
  · simp only [decide_eq_true_eq]
    exact .kid hm
theorem rk_pos {g : List PNode} {root : Int} (hv : ValidG g root) {i k : Int} (hi : 0 ≤ i ∧ i < (g.length : Int)) (hm : k ∈ (nd g i).2.2) : 0 < rk g i := by
  have hk : Kidly g := fun n hn => (hv.node n hn).kidly
  have hki := reach_in hk hi (.kid hm)
  obtain ⟨m, rfl⟩ := Int.eq_ofNat_of_zero_le hki.1
  unfold rk
  refine List.length_pos_of_mem (a := m) ?_
  simp only [List.mem_filter, List.mem_range, decide_eq_true_eq]
  exact ⟨by omega, .kid hm⟩
/-- How many nodes that are no tuples are not in the memo. -/
def un (g : List PNode) (memo : List Int) : Nat := ((List.range g.length).filter (fun (i : Nat) => !((nd g (i : Int)).1 == 2) && decide (memo.getD i 0 < 0))).length
theorem un_le (g : List PNode) (memo : List Int) : un g memo ≤ g.length := by
  unfold un
  have := List.length_filter_le (fun (i : Nat) => !((nd g (i : Int)).1 == 2) && decide (memo.getD i 0 < 0)) (List.range g.length)
  simpa using this
theorem getD_set_eq {α : Type} {l : List α} {i : Nat} {x d : α} (h : i < l.length) : (l.set i x).getD i d = x := by
  rw [List.getD_eq_getElem?_getD, List.getElem?_set_self h]; rfl
theorem un_set {g : List PNode} {memo : List Int} {i : Nat} {v : Int} (hi : i < memo.length) (hv : 0 ≤ v) : un g (memo.set i v) ≤ un g memo := by
  unfold un
  refine filter_lt fun x _ hx => ?_
  simp only [Bool.and_eq_true, decide_eq_true_eq] at hx ⊢
  by_cases e : x = i
  · subst e; rw [getD_set_eq hi] at hx; omega
  · rw [getD_set_ne e] at hx; exact hx
theorem un_set' {g : List PNode} {memo : List Int} {i : Nat} {v : Int} (hi : i < memo.length) (hg : i < g.length) (hv : 0 ≤ v) (h2 : (nd g (i : Int)).1 ≠ 2) (hm : memo.getD i 0 < 0) : un g (memo.set i v) < un g memo := by
  unfold un
  refine filter_lt' (a := i) (fun x _ hx => ?_) (by simpa using hg) ?_ ?_
  · simp only [Bool.and_eq_true, decide_eq_true_eq] at hx ⊢
    by_cases e : x = i
    · subst e; rw [getD_set_eq hi] at hx; omega
    · rw [getD_set_ne e] at hx; exact hx
  · rw [getD_set_eq hi]
    simp; intro _; omega
  · simp only [Bool.and_eq_true, Bool.not_eq_true', beq_eq_false_iff_ne, ne_eq, decide_eq_true_eq]
    exact ⟨h2, hm⟩
theorem emit_tot {a b : List (Int × Int)} (h : a.length + b.length ≤ 540000000000) : Tot (fun σ => F_s_emit (σ 0) a b) (fun r => r = ((a ++ b, ()), ())) := by
  refine tot_s_emit ?_
  unfold B_s_emit
  simp only [tot_chk, tot_some, room_iff, List.length_nil, and_true]
  omega
theorem memoed_tot {ops : List (Int × Int)} {memo : List Int} {at2 : Nat} (hm : memo.length ≤ 1000) (ho : ops.length ≤ 530000000000) (ha : at2 < memo.length) :
    Tot (fun σ => F_s_memoed (σ 0) ops memo at2) (fun r => ∃ n : Int, 0 ≤ n ∧ r = ((ops ++ [(15, n)], memo.set at2 n, ()), ())) := by
  refine tot_s_memoed ?_
  unfold B_s_memoed
  have key := loop_s_memoed_L1 (Q := fun _ _ _ _ _ r => ∃ n : Int, 0 ≤ n ∧ r = ((ops ++ [(15, n)], memo.set at2 n, ()), ())) (I := fun o m a n i => o = ops ∧ m = memo ∧ a = (at2 : Int) ∧ ∃ j : Nat, i = j ∧ j ≤ memo.length ∧ 0 ≤ n ∧ n ≤ i) (μ := fun _ _ _ _ i => (memo.length - i).toNat) ?_
  · exact key ops memo at2 0 0 ⟨rfl, rfl, rfl, 0, rfl, by omega, by omega, by omega⟩
  intro o m a n i ⟨e1, e2, e3, j, e4, hj, h0, h1⟩ again hag ih
  subst e1 e2 e3 e4
  unfold B_s_memoed_L1b B_s_memoed_J0
  simp only [tot_cond, tot_chk, tot_jn, decide_eq_true_eq, decide_eq_false_iff_not, len, inb_iff]
  have wj : w64 ((j : Int) + 1) = ((j + 1 : Nat) : Int) := w64_succ (by omega) (by omega)
  have wn : w64 (n + 1) = n + 1 := w64_id (by omega) (by omega)
  rw [wj, wn]
  refine ⟨fun hlt => ⟨by omega, fun _ => ?_, fun _ => ?_⟩, fun hge => ?_⟩
  · exact ih o m at2 (n + 1) _ ⟨rfl, rfl, rfl, j + 1, rfl, by omega, by omega, by omega⟩ (by omega)
  · exact ih o m at2 n _ ⟨rfl, rfl, rfl, j + 1, rfl, by omega, by omega, by omega⟩ (by omega)
  · refine (copyInts_tot' (by omega)).bind ?_
    rintro _ rfl
    simp only [tot_chk, inb_iff, decide_eq_true_eq, Int.toNat_natCast]
    refine ⟨by omega, ha, (emit_tot (by simp only [List.length_cons, List.length_nil]; omega)).bind ?_⟩
    rintro _ rfl
    rw [tot_some]
    exact ⟨n, h0, rfl⟩
def GG : Nat → Nat
  | 0 => 2
  | r + 1 => 6 * GG r + 3
theorem GG_12 : GG 12 = 5659634073 := by decide
theorem GG_le : ∀ r, 2 ≤ GG r
  | 0 => by decide
  | r + 1 => by have := GG_le r; simp only [GG]; omega
/-- What a writing leaves. -/
def Wr (g : List PNode) (ops : List (Int × Int)) (memo : List Int) (c : Nat) (r : (List (Int × Int) × List Int × Unit) × Unit) : Prop :=
  ∃ ops' memo', r = ((ops', memo', ()), ()) ∧ memo'.length = g.length ∧ un g memo' ≤ un g memo ∧ ops'.length + 33957804446 * un g memo' ≤ ops.length + c + 33957804446 * un g memo
def SaveOk (g : List PNode) (root level : Int) (u r c : Nat) (at2 : Int) : Prop :=
  ∀ (ops : List (Int × Int)) (memo : List Int), memo.length = g.length → un g memo ≤ u → ops.length + c + 33957804446 * un g memo ≤ 500000000000 → Tot (fun σ => F_s_save (σ 0) g root level at2 ops memo) (Wr g ops memo c)
theorem saveAll_tot {g : List PNode} {root level : Int} {u r c : Nat} {list : List Int} (hl : list.length ≤ 6) (hS : ∀ x ∈ list, SaveOk g root level u r c x) {ops : List (Int × Int)} {memo : List Int} (hm : memo.length = g.length) (hu : un g memo ≤ u)
    (hb : ops.length + list.length * c + 33957804446 * un g memo ≤ 500000000000) : Tot (fun σ => F_Z47 (σ 0) g root level list ops memo) (Wr g ops memo (list.length * c)) := by
  refine tot_Z47 ?_
  unfold B_Z47
  have key := loop_Z47_L0 (Q := fun _ _ _ _ _ _ _ r => Wr g ops memo (list.length * c) r)
    (I := fun l' list' o m g' r' i => l' = level ∧ list' = list ∧ g' = g ∧ r' = root ∧ ∃ j : Nat, i = j ∧ j ≤ list.length ∧ m.length = g.length ∧ un g m ≤ un g memo ∧ o.length + 33957804446 * un g m ≤ ops.length + j * c + 33957804446 * un g memo) (μ := fun _ _ _ _ _ _ i => (list.length - i).toNat) ?_
  · exact key level list ops memo g root 0 ⟨rfl, rfl, rfl, rfl, 0, rfl, by omega, hm, Nat.le_refl _, by omega⟩
  intro l' list' o m g' r' i ⟨e1, e2, e3, e4, j, e5, hj, hml, hmu, hmo⟩ again hag ih
  subst e1 e2 e3 e4 e5
  unfold B_Z47_L0b
  simp only [tot_cond, tot_chk, tot_some, decide_eq_true_eq, decide_eq_false_iff_not, len, inb_iff]
  refine ⟨fun hlt => ⟨by omega, ?_⟩, fun hge => ?_⟩
  · have hjl : j + 1 ≤ list'.length := by omega
    have hmul : (j + 1) * c ≤ list'.length * c := Nat.mul_le_mul_right _ hjl
    rw [Nat.add_mul, Nat.one_mul] at hmul
    refine (hS _ (rdx_mem (by omega) hlt) o m hml (by omega) (by omega)).bind ?_
    rintro _ ⟨o2, m2, rfl, k1, k2, k3⟩
    rw [w64_succ (by omega) (by omega)]
    refine ih l' list' o2 m2 g' r' _ ⟨rfl, rfl, rfl, rfl, j + 1, rfl, by omega, k1, by omega, ?_⟩ (by simp; omega)
    rw [Nat.add_mul, Nat.one_mul]
    omega
  · have : j = list'.length := by omega
    subst this
    exact ⟨o, m, rfl, hml, hmu, hmo⟩
end Go.Gx

/-
  Laws, part 12: to write a valid graph comes to an end.
-/
set_option linter.unusedVariables false
set_option linter.unusedSimpArgs false
namespace Go.Gx
theorem sub_len' {α : Type} {l : List α} {a b : Nat} (h : a ≤ b) (hb : b ≤ l.length) : (sub l (a : Int) (b : Int)).length = b - a := by
  simp only [sub, Int.toNat_natCast, List.length_drop, List.length_take]; omega
theorem sub_mem {α : Type} {l : List α} {a b : Int} {x : α} (h : x ∈ sub l a b) : x ∈ l := List.mem_of_mem_take (List.mem_of_mem_drop h)
theorem fill_tot {g : List PNode} {root level : Int} {u c : Nat} {kids : List Int} (hl : kids.length ≤ 6) (hS : ∀ x ∈ kids, SaveOk g root level u 0 c x) {each one all : Int} (he : each = 1 ∨ each = 2 ∧ kids.length % 2 = 0) {ops : List (Int × Int)} {memo : List Int} (hm : memo.length = g.length) (hu : un g memo ≤ u)
    (hb : ops.length + (6 * c + 6) + 33957804446 * un g memo ≤ 500000000000) : Tot (fun σ => F_s_fill (σ 0) g root level kids each one all ops memo) (Wr g ops memo (6 * c + 6)) := by
  refine tot_s_fill ?_
  unfold B_s_fill
  have hkc : kids.length * c ≤ 6 * c := Nat.mul_le_mul_right _ hl
  have j0 : ∀ b : Bool, Tot (fun σ => B_s_fill_J0 (σ 0) (F_s_emit (σ 0)) (F_Z47 (σ 0)) level kids each one all ops memo g root b) (Wr g ops memo (6 * c + 6)) := by
    intro b
    unfold B_s_fill_J0
    rw [tot_cond]
    refine ⟨fun _ => ?_, fun _ => ?_⟩
    · refine (emit_tot (by simp only [List.length_cons, List.length_nil]; omega)).bind ?_
      rintro _ rfl
      refine (saveAll_tot hl hS hm hu (by simp only [List.length_append, List.length_cons, List.length_nil]; omega)).bind ?_
      rintro _ ⟨o2, m2, rfl, k1, k2, k3⟩
      simp only [List.length_append, List.length_cons, List.length_nil] at k3
      refine (emit_tot (by simp only [List.length_cons, List.length_nil]; omega)).bind ?_
      rintro _ rfl
      rw [tot_some]
      exact ⟨_, _, rfl, k1, k2, by simp only [List.length_append, List.length_cons, List.length_nil]; omega⟩
    · have key := loop_s_fill_L1 (Q := fun _ _ _ _ _ _ _ _ _ r => Wr g ops memo (6 * c + 6) r)
        (I := fun l' kids' each' one' o m g' r' i => l' = level ∧ kids' = kids ∧ each' = each ∧ one' = one ∧ g' = g ∧ r' = root ∧ ∃ j : Nat, i = j ∧ j ≤ kids.length ∧ (each = 2 → j % 2 = 0) ∧ m.length = g.length ∧ un g m ≤ un g memo ∧ o.length + 33957804446 * un g m ≤ ops.length + (j * c + j) + 33957804446 * un g memo)
        (μ := fun _ _ _ _ _ _ _ _ i => (kids.length - i).toNat) ?_
      · exact key level kids each one ops memo g root 0 ⟨rfl, rfl, rfl, rfl, rfl, rfl, 0, rfl, by omega, fun _ => rfl, hm, Nat.le_refl _, by omega⟩
      intro l' kids' each' one' o m g' r' i ⟨e1, e2, e3, e4, e5, e6, j, e7, hj, hj2, hml, hmu, hmo⟩ again hag ih
      subst e1 e2 e3 e4 e5 e6 e7
      unfold B_s_fill_L1b
      simp only [tot_cond, tot_chk, tot_some, decide_eq_true_eq, decide_eq_false_iff_not, len, cutb_iff]
      refine ⟨fun hlt => ?_, fun hge => ?_⟩
      · obtain ⟨e, he', he1⟩ : ∃ e : Nat, each' = (e : Int) ∧ 1 ≤ e ∧ e ≤ 2 ∧ j + e ≤ kids'.length ∧ (each' = 2 → (j + e) % 2 = 0) := by
          rcases he with h | ⟨h, h2⟩
          · exact ⟨1, h, by omega, by omega, by omega, fun h' => by omega⟩
          · have := hj2 h; exact ⟨2, h, by omega, by omega, by omega, fun _ => by omega⟩
        subst he'
        have wj : w64 ((j : Int) + (e : Int)) = ((j + e : Nat) : Int) := by rw [w64_id (by omega) (by omega)]; omega
        simp only [wj]
        have hsl := sub_len' (l := kids') (a := j) (b := j + e) (by omega) (by omega)
        have hec : (j + e) * c ≤ kids'.length * c := Nat.mul_le_mul_right _ (by omega)
        rw [Nat.add_mul] at hec
        refine ⟨by omega, (saveAll_tot (list := sub kids' (j : Int) ((j + e : Nat) : Int)) (by omega) (fun x hx => hS x (sub_mem hx)) hml (by omega) (by rw [hsl, show j + e - j = e by omega]; omega)).bind ?_⟩
        rintro _ ⟨o2, m2, rfl, k1, k2, k3⟩
        rw [hsl, show j + e - j = e by omega] at k3
        refine (emit_tot (by simp only [List.length_cons, List.length_nil]; omega)).bind ?_
        rintro _ rfl
        refine ih l' kids' _ one' _ m2 g' r' _ ⟨rfl, rfl, rfl, rfl, rfl, rfl, j + e, rfl, by omega, he1.2.2.2, k1, by omega, ?_⟩ (by simp; omega)
        simp only [List.length_append, List.length_cons, List.length_nil]
        rw [Nat.add_mul]
        omega
      · have : j = kids'.length := by omega
        subst this
        exact ⟨o, m, rfl, hml, hmu, by omega⟩
  rw [tot_cond]
  refine ⟨fun _ => ?_, fun _ => ?_⟩
  · rw [tot_jn]; exact j0 _
  · rw [tot_jn]; exact j0 _
theorem saveTuple_tot {g : List PNode} {root level : Int} {u r : Nat} (hg : g.length ≤ 12) {at2 : Nat} (ha : at2 < g.length) (h6 : (nd g (at2 : Int)).2.2.length ≤ 6) (hr : (nd g (at2 : Int)).2.2 ≠ [] → ∃ r', r = r' + 1 ∧ ∀ x ∈ (nd g (at2 : Int)).2.2, SaveOk g root level u 0 (GG r') x)
    {ops : List (Int × Int)} {memo : List Int} (hm : memo.length = g.length) (hu : un g memo ≤ u) (hb : ops.length + GG r + 33957804446 * un g memo ≤ 500000000000) : Tot (fun σ => F_Z39 (σ 0) g root level at2 ops memo) (Wr g ops memo (GG r)) := by
  refine tot_Z39 ?_
  unfold B_Z39
  have hG := GG_le r
  rw [tot_chk]
  refine ⟨inb_iff.2 (by omega), ?_⟩
  generalize hk : (nd g (at2 : Int)).2.2 = kids at h6 hr
  have hk' : (rdx ((0 : Int), ((0 : Int), ([] : List Int))) g (at2 : Int)).2.2 = kids := hk
  simp only [hk']
  rw [tot_cond]
  refine ⟨fun _ => ?_, fun hne => ?_⟩
  · refine (emit_tot (by simp only [List.length_cons, List.length_nil]; omega)).bind ?_
    rintro _ rfl
    refine (memoed_tot (by omega) (by simp only [List.length_append, List.length_cons, List.length_nil]; omega) (by omega)).bind ?_
    rintro _ ⟨n, hn, rfl⟩
    rw [tot_some]
    have := un_set (g := g) (memo := memo) (i := at2) (v := n) (by omega) hn
    exact ⟨_, _, rfl, by simp [hm], this, by simp only [List.length_append, List.length_cons, List.length_nil]; omega⟩
  · have hne' : kids ≠ [] := by
      intro e; subst e; simp [len] at hne
    obtain ⟨r', rfl, hS⟩ := hr hne'
    have hGr : GG (r' + 1) = 6 * GG r' + 3 := rfl
    have hkc : kids.length * GG r' ≤ 6 * GG r' := Nat.mul_le_mul_right _ h6
    -- behind the kids
    have j1 : ∀ (o : List (Int × Int)) (short : Bool), o.length ≤ ops.length + 1 → (short = true → o.length = ops.length ∧ kids.length ≤ 2) → Tot (fun σ => B_Z39_J1 (σ 0) (F_s_emit (σ 0)) (F_s_memoed (σ 0)) (F_Z47 (σ 0)) level at2 o memo g root kids short) (Wr g ops memo (GG (r' + 1))) := by
      intro o short ho hsh
      unfold B_Z39_J1
      refine (saveAll_tot h6 hS hm hu (by omega)).bind ?_
      rintro _ ⟨o2, m2, rfl, k1, k2, k3⟩
      rw [tot_chk]
      refine ⟨inb_iff.2 (by simp only []; omega), ?_⟩
      -- the tuple is made
      have j5 : ∀ c : Int, Tot (fun σ => B_Z39_J5 (σ 0) (F_s_emit (σ 0)) (F_s_memoed (σ 0)) (F_Z47 (σ 0)) at2 o2 m2 c) (Wr g ops memo (GG (r' + 1))) := by
        intro c
        unfold B_Z39_J5
        refine (emit_tot (by simp only [List.length_cons, List.length_nil]; omega)).bind ?_
        rintro _ rfl
        refine (memoed_tot (by omega) (by simp only [List.length_append, List.length_cons, List.length_nil]; omega) (by omega)).bind ?_
        rintro _ ⟨n, hn, rfl⟩
        rw [tot_some]
        have := un_set (g := g) (memo := m2) (i := at2) (v := n) (by omega) hn
        exact ⟨o2 ++ [(c, 0)] ++ [(15, n)], m2.set at2 n, rfl, by simp [k1], by omega, by simp only [List.length_append, List.length_cons, List.length_nil]; omega⟩
      -- it was there
      have j4 : ∀ o3 : List (Int × Int), o3.length + 33957804446 * un g m2 + 1 ≤ ops.length + GG (r' + 1) + 33957804446 * un g memo → Tot (fun σ => B_Z39_J4 (σ 0) (F_s_emit (σ 0)) (F_s_memoed (σ 0)) (F_Z47 (σ 0)) at2 o3 m2) (Wr g ops memo (GG (r' + 1))) := by
        intro o3 h3
        unfold B_Z39_J4
        rw [tot_chk]
        refine ⟨inb_iff.2 (by omega), (emit_tot (by simp only [List.length_cons, List.length_nil]; omega)).bind ?_⟩
        rintro _ rfl
        rw [tot_some]
        exact ⟨_, _, rfl, k1, k2, by simp only [List.length_append, List.length_cons, List.length_nil]; omega⟩
      rw [tot_cond]
      refine ⟨fun _ => ?_, fun _ => ?_⟩
      · have key := loop_Z39_L3 (Q := fun _ _ _ _ _ _ r => Wr g ops memo (GG (r' + 1)) r) (I := fun a o3 m3 kd sh i => a = (at2 : Int) ∧ m3 = m2 ∧ kd = kids ∧ sh = short ∧ ∃ j : Nat, i = j ∧ j ≤ kids.length ∧ (short = true → o3.length = o2.length + j) ∧ (short = false → o3.length = o2.length)) (μ := fun _ _ _ _ _ i => (kids.length - i).toNat) ?_
        · exact key at2 o2 m2 kids short 0 ⟨rfl, rfl, rfl, rfl, 0, rfl, by omega, fun _ => rfl, fun _ => rfl⟩
        intro a o3 m3 kd sh i ⟨e1, e2, e3, e4, j, e5, hj, hs1, hs2⟩ again hag ih
        subst e1 e2 e3 e4 e5
        unfold B_Z39_L3b B_Z39_J2
        simp only [tot_cond, tot_jn, decide_eq_true_eq, decide_eq_false_iff_not, len, Bool.not_eq_true', Bool.not_eq_false']
        cases sh with
        | true =>
          have h1 := hs1 rfl
          have h2 := hsh rfl
          refine ⟨fun hlt => ⟨fun _ => ?_, fun h => absurd h (by decide)⟩, fun hge => ⟨fun h => absurd h (by decide), fun _ => ⟨fun h => absurd h (by decide), fun _ => j4 o3 (by omega)⟩⟩⟩
          refine (emit_tot (by simp only [List.length_cons, List.length_nil]; omega)).bind ?_
          rintro _ rfl
          rw [w64_succ (by omega) (by omega)]
          refine ih _ _ _ _ _ _ ⟨rfl, rfl, rfl, rfl, j + 1, rfl, by omega, fun _ => ?_, fun h => absurd h (by decide)⟩ (by simp; omega)
          simp only [List.length_append, List.length_cons, List.length_nil]; omega
        | false =>
          have h1 := hs2 rfl
          have fin : Tot (fun σ => (F_s_emit (σ 0) o3 [(18, 0)]).bind fun r79 => jn (fun t => B_Z39_J4 (σ 0) (F_s_emit (σ 0)) (F_s_memoed (σ 0)) (F_Z47 (σ 0)) t.1 t.2.1 t.2.2.1) ((at2 : Int), r79.1.1, m3, ())) (Wr g ops memo (GG (r' + 1))) := by
            refine (emit_tot (by simp only [List.length_cons, List.length_nil]; omega)).bind ?_
            rintro _ rfl
            rw [tot_jn]
            exact j4 _ (by simp only [List.length_append, List.length_cons, List.length_nil]; omega)
          exact ⟨fun hlt => ⟨fun h => absurd h (by decide), fun _ => ⟨fun _ => fin, fun h => absurd h (by decide)⟩⟩, fun hge => ⟨fun h => absurd h (by decide), fun _ => ⟨fun _ => fin, fun h => absurd h (by decide)⟩⟩⟩
      · rw [tot_cond]
        refine ⟨fun _ => ?_, fun _ => ?_⟩
        · rw [tot_jn]; exact j5 _
        · rw [tot_jn]; exact j5 _
    have j0 : ∀ (short : Bool), (short = true → kids.length ≤ 2) → Tot (fun σ => B_Z39_J0 (σ 0) (F_s_emit (σ 0)) (F_s_memoed (σ 0)) (F_Z47 (σ 0)) level at2 ops memo g root kids short) (Wr g ops memo (GG (r' + 1))) := by
      intro short hsh
      unfold B_Z39_J0
      rw [tot_cond]
      refine ⟨fun hs => ?_, fun hs => ?_⟩
      · refine (emit_tot (by simp only [List.length_cons, List.length_nil]; omega)).bind ?_
        rintro _ rfl
        rw [tot_jn]
        exact j1 _ short (by simp) (fun h => by rw [h] at hs; cases hs)
      · rw [tot_jn]
        have : short = true := by simpa using hs
        exact j1 ops short (by omega) (fun h => ⟨rfl, hsh h⟩)
    rw [tot_cond]
    refine ⟨fun _ => ?_, fun _ => ?_⟩
    · rw [tot_jn]
      exact j0 _ (fun h => by simp only [decide_eq_true_eq, len] at h; omega)
    · rw [tot_jn]
      exact j0 false (fun h => absurd h (by decide))
theorem SaveOk.mono {g : List PNode} {root level : Int} {u r r2 c c2 : Nat} {x : Int} (h : SaveOk g root level u r c x) (hc : c ≤ c2) : SaveOk g root level u r2 c2 x := by
  intro ops memo h1 h2 h3
  refine (h ops memo h1 h2 (by omega)).mono ?_
  rintro _ ⟨o, m, rfl, k1, k2, k3⟩
  exact ⟨o, m, rfl, k1, k2, by omega⟩
theorem save_tot {g : List PNode} {root level : Int} (hv : ValidG g root) : ∀ (u r : Nat), r ≤ 12 → ∀ at2 : Nat, at2 < g.length → ((nd g (at2 : Int)).1 = 2 → rk g (at2 : Int) ≤ r) → SaveOk g root level u 0 (GG r) (at2 : Int) := by
  have hk : Kidly g := fun n hn => (hv.node n hn).kidly
  have hg := hv.most
  intro u
  induction u using Nat.strongRecOn with
  | _ u ihu =>
  intro r
  induction r using Nat.strongRecOn with
  | _ r ihr =>
  intro hr12 at2 ha hrk ops memo hm hu hb
  have hG := GG_le r
  have hG12 := GG_12
  have hin : 0 ≤ (at2 : Int) ∧ (at2 : Int) < (g.length : Int) := by omega
  have hnode := hv.node _ (nd_mem hin.1 hin.2)
  refine tot_s_save ?_
  unfold B_s_save
  simp only [tot_chk]
  refine ⟨inb_iff.2 (by omega), inb_iff.2 (by omega), ?_⟩
  have hrd : rdx (0 : Int) memo (at2 : Int) = memo.getD at2 0 := by rw [rdx_eq, Int.toNat_natCast]
  have hndd : rdx ((0 : Int), ((0 : Int), ([] : List Int))) g (at2 : Int) = nd g (at2 : Int) := rfl
  rw [hrd, hndd]
  rw [tot_cond]
  refine ⟨fun _ => ?_, fun hneg => ?_⟩
  · rw [tot_chk]
    refine ⟨inb_iff.2 (by omega), (emit_tot (by simp only [List.length_cons, List.length_nil]; omega)).bind ?_⟩
    rintro _ rfl
    rw [tot_some]
    exact ⟨_, memo, rfl, hm, Nat.le_refl _, by simp only [List.length_append, List.length_cons, List.length_nil]; omega⟩
  have hneg : memo.getD at2 0 < 0 := by simpa using hneg
  -- it gets into the memo
  have mem : ∀ (o : List (Int × Int)), o.length ≤ 520000000000 → (nd g (at2 : Int)).1 ≠ 2 → Tot (fun σ => F_s_memoed (σ 0) o memo at2) (fun r => ∃ n : Int, r = ((o ++ [(15, n)], memo.set at2 n, ()), ()) ∧ un g (memo.set at2 n) < un g memo ∧ (memo.set at2 n).length = g.length) := by
    intro o ho h2
    refine (memoed_tot (by omega) (by omega) (by omega)).mono ?_
    rintro _ ⟨n, hn, rfl⟩
    exact ⟨n, rfl, un_set' (by omega) ha hn h2 hneg, by simp [hm]⟩
  -- all kids, when it is there
  have kids12 : ∀ u1, u1 < u → ∀ x ∈ (nd g (at2 : Int)).2.2, SaveOk g root level u1 0 (GG 12) x := by
    intro u1 hu1 x hx
    have hx' := hnode.2.1 x hx
    obtain ⟨m, rfl⟩ := Int.eq_ofNat_of_zero_le hx'.1
    exact ihu u1 hu1 12 (Nat.le_refl _) m (by omega) (fun _ => Nat.le_trans (rk_le g _) hg)
  rw [tot_cond]
  simp only [beq_iff_eq, beq_eq_false_iff_ne, ne_eq]
  refine ⟨fun h0 => ?_, fun h0 => ?_⟩
  · refine (emit_tot (by simp only [List.length_cons, List.length_nil]; omega)).bind ?_
    rintro _ rfl
    rw [tot_some]
    exact ⟨_, memo, rfl, hm, Nat.le_refl _, by simp only [List.length_append, List.length_cons, List.length_nil]; omega⟩
  rw [tot_cond]
  simp only [beq_iff_eq, beq_eq_false_iff_ne, ne_eq]
  refine ⟨fun h1 => ?_, fun h1 => ?_⟩
  · refine (emit_tot (by simp only [List.length_cons, List.length_nil]; omega)).bind ?_
    rintro _ rfl
    refine (mem _ (by simp only [List.length_append, List.length_cons, List.length_nil]; omega) (by omega)).bind ?_
    rintro _ ⟨n, rfl, k1, k2⟩
    rw [tot_some]
    exact ⟨_, memo.set at2 n, rfl, k2, by omega, by simp only [List.length_append, List.length_cons, List.length_nil]; omega⟩
  rw [tot_cond]
  simp only [beq_iff_eq, beq_eq_false_iff_ne, ne_eq]
  refine ⟨fun h2 => ?_, fun h2 => ?_⟩
  · have hrk := hrk h2
    refine (saveTuple_tot (u := u) (r := r) hg ha hnode.1 (fun hne => ?_) hm hu hb).bind ?_
    · obtain ⟨x, hx⟩ := List.exists_mem_of_ne_nil _ hne
      have hpos := rk_pos hv hin hx
      refine ⟨r - 1, by omega, fun y hy => ?_⟩
      have hy' := hnode.2.1 y hy
      obtain ⟨m, rfl⟩ := Int.eq_ofNat_of_zero_le hy'.1
      exact ihr (r - 1) (by omega) (by omega) m (by omega) (fun hk2 => by have := rk_lt hv hin hy hk2; omega)
    · rintro _ ⟨o, m, rfl, k1, k2, k3⟩
      rw [tot_some]
      exact ⟨o, m, rfl, k1, k2, k3⟩
  -- a list, a dictionary, an object
  have filled : ∀ (o : List (Int × Int)) (n each one all : Int), o.length ≤ ops.length + 2 → un g (memo.set at2 n) < un g memo → (memo.set at2 n).length = g.length → (each = 1 ∨ each = 2 ∧ (nd g (at2 : Int)).2.2.length % 2 = 0) →
      Tot (fun σ => (F_s_fill (σ 0) g root level (nd g (at2 : Int)).2.2 each one all o (memo.set at2 n)).bind fun r84 => some ((r84.1.1, r84.1.2.1, ()), ())) (Wr g ops memo (GG r)) := by
    intro o n each one all ho k1 k2 he
    refine (fill_tot (u := u - 1) (c := GG 12) hnode.1 (kids12 (u - 1) (by omega)) he k2 (by omega) (by omega)).bind ?_
    rintro _ ⟨o2, m2, rfl, q1, q2, q3⟩
    rw [tot_some]
    exact ⟨o2, m2, rfl, q1, by omega, by omega⟩
  rw [tot_cond]
  simp only [beq_iff_eq, beq_eq_false_iff_ne, ne_eq]
  refine ⟨fun h3 => ?_, fun h3 => ?_⟩
  · refine (emit_tot (by simp only [List.length_cons, List.length_nil]; omega)).bind ?_
    rintro _ rfl
    refine (mem _ (by simp only [List.length_append, List.length_cons, List.length_nil]; omega) h2).bind ?_
    rintro _ ⟨n, rfl, k1, k2⟩
    exact filled _ n 1 8 9 (by simp) k1 k2 (.inl rfl)
  rw [tot_cond]
  simp only [beq_iff_eq, beq_eq_false_iff_ne, ne_eq]
  refine ⟨fun h4 => ?_, fun h4 => ?_⟩
  · have hd : (nd g (at2 : Int)).2.2.length % 2 = 0 := by
      have := hnode.2.2
      rw [if_neg h0, if_neg h1, if_neg (by simp [h2, h3]), if_pos h4] at this
      exact this.2.2
    refine (emit_tot (by simp only [List.length_cons, List.length_nil]; omega)).bind ?_
    rintro _ rfl
    refine (mem _ (by simp only [List.length_append, List.length_cons, List.length_nil]; omega) h2).bind ?_
    rintro _ ⟨n, rfl, k1, k2⟩
    exact filled _ n 2 11 12 (by simp) k1 k2 (.inr ⟨rfl, hd⟩)
  · refine (emit_tot (by simp only [List.length_cons, List.length_nil]; omega)).bind ?_
    rintro _ rfl
    refine (mem _ (by simp only [List.length_append, List.length_cons, List.length_nil]; omega) h2).bind ?_
    rintro _ ⟨n, rfl, k1, k2⟩
    have hkc : (nd g (at2 : Int)).2.2.length * GG 12 ≤ 6 * GG 12 := Nat.mul_le_mul_right _ hnode.1
    refine (saveAll_tot (u := u - 1) hnode.1 (kids12 (u - 1) (by omega)) k2 (by omega) (by simp only [List.length_append, List.length_cons, List.length_nil]; omega)).bind ?_
    rintro _ ⟨o2, m2, rfl, q1, q2, q3⟩
    simp only [List.length_append, List.length_cons, List.length_nil] at q3
    unfold B_s_save_J0
    rw [tot_cond]
    refine ⟨fun _ => ?_, fun _ => ?_⟩
    · refine (emit_tot (by simp only [List.length_cons, List.length_nil]; omega)).bind ?_
      rintro _ rfl
      rw [tot_jn, tot_some]
      exact ⟨_, m2, rfl, q1, by omega, by simp only [List.length_append, List.length_cons, List.length_nil]; omega⟩
    · rw [tot_jn, tot_some]
      exact ⟨o2, m2, rfl, q1, by omega, by omega⟩
theorem emptyMemo_tot {g : List PNode} {root : Int} (hg : g.length ≤ 1000) : Tot (fun σ => F_Z26 (σ 0) g root) (fun r => r = ((List.replicate g.length (-1), ()), ())) := by
  refine tot_Z26 ?_
  unfold B_Z26
  have key := loop_Z26_L0 (Q := fun _ _ _ _ r => r = ((List.replicate g.length (-1), ()), ())) (I := fun g' _ o i => g' = g ∧ ∃ j : Nat, i = j ∧ j ≤ g.length ∧ o = List.replicate j (-1)) (μ := fun _ _ _ i => (g.length - i).toNat) ?_
  · exact key g root [] 0 ⟨rfl, 0, rfl, by omega, rfl⟩
  intro g' r' o i ⟨e1, j, e2, hj, e3⟩ again hag ih
  subst e1 e2 e3
  unfold B_Z26_L0b
  simp only [tot_cond, tot_chk, tot_some, decide_eq_true_eq, decide_eq_false_iff_not, len, room_iff, List.length_replicate, List.length_cons, List.length_nil]
  refine ⟨fun hlt => ⟨by omega, ?_⟩, fun hge => ?_⟩
  · rw [w64_succ (by omega) (by omega)]
    exact ih _ _ _ _ ⟨rfl, j + 1, rfl, by omega, by rw [List.replicate_succ']⟩ (by simp; omega)
  · have : j = g'.length := by omega
    rw [this]
theorem written_tot {g : List PNode} {root : Int} (hv : ValidG g root) (level : Int) : Tot (fun σ => F_Z50 (σ 0) g root level) (fun r => ∃ ops : List (Int × Int), r = ((ops, ()), ()) ∧ ops.length ≤ 500000000000) := by
  have hg := hv.most
  refine tot_Z50 ?_
  unfold B_Z50
  refine (emptyMemo_tot (by omega)).bind ?_
  rintro _ rfl
  obtain ⟨m, hm⟩ := Int.eq_ofNat_of_zero_le hv.root.1
  have hroot := hv.root
  subst hm
  have hun := un_le g (List.replicate g.length (-1))
  have hG := GG_12
  refine (save_tot hv g.length 12 (Nat.le_refl _) m (by omega) (fun _ => Nat.le_trans (rk_le g _) hg) [] _ (by simp) hun (by simp only [List.length_nil]; omega)).bind ?_
  rintro _ ⟨o, m2, rfl, k1, k2, k3⟩
  simp only [List.length_nil] at k3
  refine (emit_tot (by simp only [List.length_cons, List.length_nil]; omega)).bind ?_
  rintro _ rfl
  rw [tot_some]
  exact ⟨_, rfl, by simp only [List.length_append, List.length_cons, List.length_nil]; omega⟩
end Go.Gx

/-
  Laws, part 13: programs and bytes that are drawn.
-/
set_option linter.unusedVariables false
set_option linter.unusedSimpArgs false
namespace Go.Gx
theorem someOps_tot {b : List Int} {p : Int} (h : RD b p) (hp : p ≤ 90000000) : Tot (fun σ => F_Z46 (σ 0) b p) (Drawn b p 2000 fun x => ∃ ops : List POp, x = (ops, ()) ∧ ops.length ≤ 500000000000) := by
  refine tot_Z46 ?_
  unfold B_Z46
  have fin : ∀ (q : Int) (o : List POp), p ≤ q → q ≤ p + 2000 → o.length ≤ 500000000000 → Drawn b p 2000 (fun x => ∃ ops : List POp, x = (ops, ()) ∧ ops.length ≤ 500000000000) ((o, ()), ((b, q, ()), ())) := fun q o h1 h2 h3 => ⟨_, q, rfl, h1, h2, o, rfl, h3⟩
  have j2 : ∀ (q : Int) (o : List POp), p ≤ q → q ≤ p + 1900 → o.length ≤ 500000000000 → Tot (fun σ => B_Z46_J2 (σ 0) (F_Z10 (σ 0)) (F_Z29 (σ 0)) (F_Z36 (σ 0)) (F_Z50 (σ 0)) (F_s_someOp (σ 0)) (F_Z14 (σ 0)) b q o) (Drawn b p 2000 fun x => ∃ ops : List POp, x = (ops, ()) ∧ ops.length ≤ 500000000000) := by
    intro q o h1 h2 h3
    have hq := h.next h1 (by omega)
    unfold B_Z46_J2
    rw [tot_cond]
    simp only [decide_eq_true_eq, decide_eq_false_iff_not, len]
    refine ⟨fun hlt => ?_, fun _ => by rw [tot_some]; exact fin q o h1 (by omega) h3⟩
    refine (pick_tot hq (by omega) (by omega)).bind ?_
    rintro _ ⟨_, q2, rfl, k1, k2, v, rfl, k3, k4⟩
    rw [tot_cond]
    refine ⟨fun _ => ?_, fun _ => ?_⟩
    · refine (one_tot (hq.next k1 (by omega)) (by omega) (by simp) (by simp)).bind ?_
      rintro _ ⟨_, q3, rfl, f1, f2, u, rfl, hu⟩
      simp only [tot_chk, tot_some, inb_iff, decide_eq_true_eq]
      exact ⟨by omega, by simp; omega, fin q3 _ (by omega) (by omega) (by simpa using h3)⟩
    · rw [tot_cond]
      refine ⟨fun _ => ?_, fun _ => by rw [tot_some]; exact fin q2 o (by omega) (by omega) h3⟩
      refine (one_tot (hq.next k1 (by omega)) (by omega) (by simp) (by simp)).bind ?_
      rintro _ ⟨_, q3, rfl, f1, f2, u, rfl, hu⟩
      have w : w64 ((o.length : Int) - 1) = (o.length : Int) - 1 := w64_id (by omega) (by omega)
      simp only [tot_chk, tot_some, inb_iff, decide_eq_true_eq, w]
      exact ⟨by omega, by omega, fin q3 _ (by omega) (by omega) (by simpa using h3)⟩
  have j1 : ∀ (q : Int) (o : List POp), p ≤ q → q ≤ p + 1800 → o.length ≤ 500000000000 → Tot (fun σ => B_Z46_J1 (σ 0) (F_Z10 (σ 0)) (F_Z29 (σ 0)) (F_Z36 (σ 0)) (F_Z50 (σ 0)) (F_s_someOp (σ 0)) (F_Z14 (σ 0)) b q o) (Drawn b p 2000 fun x => ∃ ops : List POp, x = (ops, ()) ∧ ops.length ≤ 500000000000) := by
    intro q o h1 h2 h3
    have hq := h.next h1 (by omega)
    unfold B_Z46_J1
    refine (pick_tot hq (by omega) (by omega)).bind ?_
    rintro _ ⟨_, q2, rfl, k1, k2, v, rfl, k3, k4⟩
    rw [tot_cond]
    refine ⟨fun _ => ?_, fun _ => by rw [tot_jn]; exact j2 q2 o (by omega) (by omega) h3⟩
    have w : w64 (len o + 1) = (o.length : Int) + 1 := by rw [w64_id] <;> simp only [len] <;> omega
    rw [w]
    refine (pick_tot (hq.next k1 (by omega)) (by omega) (by omega)).bind ?_
    rintro _ ⟨_, q3, rfl, f1, f2, u, rfl, f3, f4⟩
    have f4 := f4 (by omega)
    rw [tot_chk]
    refine ⟨cutb_iff.2 ⟨Int.le_refl _, f3, by show u ≤ (o.length : Int); omega⟩, ?_⟩
    rw [tot_jn]
    exact j2 q3 (o.take u.toNat) (by omega) (by omega) (by simp only [List.length_take]; omega)
  refine (pick_tot h (by omega) (by omega)).bind ?_
  rintro _ ⟨_, q, rfl, h1, h2, v, rfl, h3, h4⟩
  have hq := h.next h1 (by omega)
  rw [tot_cond]
  refine ⟨fun _ => ?_, fun _ => ?_⟩
  · refine (likelyOps_tot hq (by omega)).bind ?_
    rintro _ ⟨_, q2, rfl, k1, k2, o, rfl, ho, _⟩
    rw [tot_jn]
    exact j2 q2 o (by omega) (by omega) (by omega)
  · refine (someGraph_tot hq (by omega)).bind ?_
    rintro _ ⟨_, q2, rfl, k1, k2, g, root, rfl, hv⟩
    have hq2 := hq.next k1 (by omega)
    refine (pick_tot hq2 (by omega) (by omega)).bind ?_
    rintro _ ⟨_, q3, rfl, f1, f2, u, rfl, f3, f4⟩
    have hq3 := hq2.next f1 (by omega)
    refine (written_tot hv u).bind ?_
    rintro _ ⟨o, rfl, ho⟩
    refine (pick_tot hq3 (by omega) (by omega)).bind ?_
    rintro _ ⟨_, q4, rfl, m1, m2, u2, rfl, m3, m4⟩
    have hq4 := hq3.next m1 (by omega)
    have j0 : ∀ t : Bool, (t = true → 0 < o.length) → Tot (fun σ => B_Z46_J0 (σ 0) (F_Z10 (σ 0)) (F_Z29 (σ 0)) (F_Z36 (σ 0)) (F_Z50 (σ 0)) (F_s_someOp (σ 0)) (F_Z14 (σ 0)) b q4 o t) (Drawn b p 2000 fun x => ∃ ops : List POp, x = (ops, ()) ∧ ops.length ≤ 500000000000) := by
      intro t ht
      unfold B_Z46_J0
      rw [tot_cond]
      refine ⟨fun hb => ?_, fun _ => by rw [tot_jn]; exact j1 q4 o (by omega) (by omega) ho⟩
      have hpos := ht hb
      refine (pick_tot hq4 (by omega) (by simp only [len]; omega)).bind ?_
      rintro _ ⟨_, q5, rfl, n1, n2, w, rfl, n3, n4⟩
      have n4 := n4 (by simp only [len]; omega)
      simp only [len] at n4
      refine (someOp_tot (hq4.next n1 (by omega)) (by omega)).bind ?_
      rintro _ ⟨_, q6, rfl, l1, l2, c, a, rfl, _⟩
      simp only [tot_chk, inb_iff, decide_eq_true_eq]
      refine ⟨by omega, by omega, ?_⟩
      rw [tot_jn]
      exact j1 q6 _ (by omega) (by omega) (by simpa using ho)
    rw [tot_cond]
    refine ⟨fun _ => ?_, fun _ => ?_⟩
    · rw [tot_jn]; exact j0 _ (fun h => by simp only [decide_eq_true_eq, len] at h; omega)
    · rw [tot_jn]; exact j0 false (fun h => absurd h (by decide))
def bytesP (o : POp) : List Int := if argP o.1 < 0 then [o.1] else if o.2 < 128 then [o.1, o.2] else [o.1, 128 + o.2 % 128, o.2 / 128]
def encP (ops : List POp) : List Int := if okOps ops = true then ops.flatMap bytesP else []
end Go.Gx

/-
  Laws, part 13b: programs and bytes that are drawn.
-/
set_option linter.unusedVariables false
set_option linter.unusedSimpArgs false
namespace Go.Gx
theorem bytesP_len (o : POp) : (bytesP o).length ≤ 3 := by
  unfold bytesP
  split
  · simp
  split <;> simp
theorem flatMap_len (ops : List POp) : (ops.flatMap bytesP).length ≤ 3 * ops.length := by
  induction ops with
  | nil => simp
  | cons o r ih => have := bytesP_len o; simp only [List.flatMap_cons, List.length_append, List.length_cons]; omega
theorem bytesOf_tot {o : POp} (h : okOp o = true) : Tot (fun σ => F_Z60 (σ 0) o.1 o.2) (fun r => r = ((bytesP o, ()), ())) := by
  have ho : 0 ≤ o.2 ∧ o.2 ≤ 999 := by
    simp only [okOp, decide_eq_true_eq] at h
    have : mostP o.1 ≤ 999 := by
      unfold mostP
      split
      · omega
      split
      · omega
      split <;> omega
    omega
  refine tot_Z60 ?_
  unfold B_Z60 bytesP
  refine (argOf_tot o.1).bind ?_
  rintro _ rfl
  simp only [tot_cond, tot_some, decide_eq_true_eq, decide_eq_false_iff_not]
  refine ⟨fun h => by rw [if_pos h], fun h => ⟨fun h2 => by rw [if_neg h, if_pos h2], fun h2 => ?_⟩⟩
  rw [if_neg h, if_neg h2, Int.tmod_eq_emod_of_nonneg ho.1, Int.tdiv_eq_ediv_of_nonneg ho.1, w64_id (by omega) (by omega), w64_id (by omega) (by omega)]
theorem EncodeOps_tot {ops : List POp} (hl : ops.length ≤ 900000000000) : Tot (fun σ => F_Z28 (σ 0) ops) (fun r => r = ((encP ops, ()), ())) := by
  refine tot_Z28 ?_
  unfold B_Z28
  refine (validOps_tot hl).bind ?_
  rintro _ rfl
  simp only [tot_cond, tot_some, Bool.not_eq_true', Bool.not_eq_false']
  refine ⟨fun h => by simp [encP, h], fun h => ?_⟩
  obtain ⟨h1, h2⟩ := okOps_all h
  have hE : encP ops = ops.flatMap bytesP := by rw [encP, if_pos h]
  rw [hE]
  have key := loop_Z28_L0 (Q := fun _ _ _ r => r = ((ops.flatMap bytesP, ()), ())) (I := fun ops' out i => ops' = ops ∧ ∃ j : Nat, i = j ∧ j ≤ ops.length ∧ out = (ops.take j).flatMap bytesP) (μ := fun _ _ i => (ops.length - i).toNat) ?_
  · exact key ops [] 0 ⟨rfl, 0, rfl, by omega, rfl⟩
  intro ops' out i ⟨e1, j, e2, hj, e3⟩ again hag ih
  subst e1 e2 e3
  unfold B_Z28_L0b
  have hfl := flatMap_len (ops'.take j)
  simp only [List.length_take] at hfl
  simp only [tot_cond, tot_chk, tot_some, decide_eq_true_eq, decide_eq_false_iff_not, len, inb_iff]
  refine ⟨fun hlt => ⟨by omega, ?_⟩, fun hge => ?_⟩
  · have hj' : j < ops'.length := by omega
    refine (bytesOf_tot (List.all_eq_true.1 h1 _ (rdx_mem (d := ((0 : Int), (0 : Int))) (by omega) hlt))).bind ?_
    rintro _ rfl
    have hb := bytesP_len (rdx ((0 : Int), (0 : Int)) ops' j)
    rw [tot_chk]
    refine ⟨room_iff.2 (by simp only []; omega), ?_⟩
    rw [w64_succ (by omega) (by omega)]
    refine ih _ _ _ ⟨rfl, j + 1, rfl, by omega, ?_⟩ (by simp; omega)
    rw [List.take_add_one, List.flatMap_append, rdx_eq, Int.toNat_natCast, List.getD_eq_getElem?_getD, List.getElem?_eq_getElem hj']
    simp
  · have : j = ops'.length := by omega
    subst this
    rw [List.take_length]
theorem encP_len (ops : List POp) : (encP ops).length ≤ 900 := by
  unfold encP
  split
  · rename_i h
    have := (okOps_all h).2
    have := flatMap_len ops
    omega
  · simp
end Go.Gx

/-
  Laws: programs are checked, by the program.
-/
set_option linter.unusedVariables false
set_option linter.unusedSimpArgs false
namespace Go.Gx
theorem i_mostArg_tot (c : Int) : Tot (fun σ => F_Z49 (σ 0) c) (fun r => r = ((mostP c, ()), ())) := by
  refine tot_Z49 ?_
  unfold B_Z49 B_Z49_J0 mostP
  simp only [tot_cond, tot_jn, tot_some, beq_iff_eq, beq_eq_false_iff_ne, ne_eq]
  refine ⟨fun h => by simp [h], fun h0 => ⟨fun h => by simp [h], fun h1 => ⟨fun h => by simp [h], fun h13 => ⟨fun h => ⟨fun _ => by simp [h], fun h' => absurd h h'⟩, fun h15 => ⟨fun h => by simp [h], fun h16 => by simp [h0, h1, h13, h15, h16]⟩⟩⟩⟩⟩
theorem i_opOk_tot (c a : Int) : Tot (fun σ => F_i_opOk (σ 0) c a) (fun r => r = ((okOp (c, a), ()), ())) := by
  refine tot_i_opOk ?_
  unfold B_i_opOk
  have key : ∀ b : Bool, (b = true ↔ 0 ≤ c ∧ c ≤ 19 ∧ 0 ≤ a ∧ a ≤ mostP c) → ((b, ()), ()) = ((okOp (c, a), ()), ()) := by
    intro b hb
    have : b = okOp (c, a) := by
      rw [Bool.eq_iff_iff, hb]; simp [okOp]
    rw [this]
  simp only [tot_cond, tot_some, decide_eq_true_eq, decide_eq_false_iff_not]
  refine ⟨fun h1 => ⟨fun h2 => ⟨fun h3 => ?_, fun h3 => key _ (by simp; omega)⟩, fun h2 => key _ (by simp; omega)⟩, fun h1 => key _ (by simp; omega)⟩
  refine (i_mostArg_tot c).bind ?_
  rintro _ rfl
  rw [tot_some]
  exact key _ (by simp only [decide_eq_true_eq]; omega)
theorem i_ValidOps_tot {ops : List POp} (hl : ops.length ≤ 900000000000) : Tot (fun σ => F_Z40 (σ 0) ops) (fun r => r = ((okOps ops, ()), ())) := by
  refine tot_Z40 ?_
  unfold B_Z40
  have key := loop_Z40_L0 (Q := fun _ _ _ _ r => r = ((okOps ops, ()), ())) (I := fun o t5 t6 i => o = ops ∧ t5 = ops ∧ t6 = ops.length ∧ ∃ n : Nat, i = n ∧ n ≤ ops.length ∧ ops.all okOp = (ops.drop n).all okOp) (μ := fun _ _ _ i => (ops.length - i).toNat) ?_
  · exact key ops ops _ 0 ⟨rfl, rfl, rfl, 0, rfl, by omega, rfl⟩
  intro o t5 t6 i ⟨e1, e2, e3, n, e4, hn, hall⟩ again hag ih
  subst e1 e2 e3 e4
  unfold B_Z40_L0b
  simp only [tot_cond, tot_chk, tot_some, decide_eq_true_eq, decide_eq_false_iff_not, len, inb_iff]
  refine ⟨fun hlt => ⟨by omega, ?_⟩, fun hge => ?_⟩
  · have hn' : n < t5.length := by omega
    have hd : t5.drop n = rdx ((0 : Int), (0 : Int)) t5 n :: t5.drop (n + 1) := by
      rw [rdx_eq, List.drop_eq_getElem_cons hn', List.getD_eq_getElem?_getD, Int.toNat_natCast, List.getElem?_eq_getElem hn']; rfl
    refine (i_opOk_tot _ _).bind ?_
    rintro _ rfl
    simp only [tot_cond, tot_some, Bool.not_eq_true', Bool.not_eq_false']
    refine ⟨fun hb => ?_, fun hb => ?_⟩
    · have : t5.all okOp = false := by rw [hall, hd, List.all_cons, hb]; rfl
      simp [okOps, this]
    · rw [w64_succ (by omega) (by omega)]
      exact ih _ _ _ _ ⟨rfl, rfl, rfl, n + 1, rfl, by omega, by rw [hall, hd, List.all_cons, hb, Bool.true_and]⟩ (by simp; omega)
  · have : t5.all okOp = true := by rw [hall, List.drop_eq_nil_of_le (by omega)]; rfl
    simp [okOps, this]
    omega
end Go.Gx

/-
  Laws, part 14: bytes are read.
-/
set_option linter.unusedVariables false
set_option linter.unusedSimpArgs false
namespace Go.Gx
def okByte (z : Int) : Prop := 0 ≤ z ∧ z ≤ 255
def headP : List Int → Option (POp × Nat)
  | [] => none
  | c :: r => if 0 ≤ argP c then (match r with
      | [] => none
      | a :: r2 => if a < 128 then (if okOp (c, a) = true then some ((c, a), 2) else none) else (match r2 with
        | [] => none
        | b :: _ => if b = 0 then none else if okOp (c, a - 128 + 128 * b) = true then some ((c, a - 128 + 128 * b), 3) else none))
    else if okOp (c, 0) = true then some ((c, 0), 1) else none
def decP : Nat → List Int → List POp × Nat
  | 0, _ => ([], 0)
  | k + 1, l => match headP l with
    | none => ([], 0)
    | some (o, n) => (o :: (decP k (l.drop n)).1, n + (decP k (l.drop n)).2)
theorem headP_spec {l : List Int} {o : POp} {n : Nat} (hb : ∀ z ∈ l, okByte z) (h : headP l = some (o, n)) : okOp o = true ∧ bytesP o = l.take n ∧ 1 ≤ n ∧ n ≤ l.length ∧ n ≤ 3 := by
  cases l with
  | nil => simp [headP] at h
  | cons c r =>
    simp only [headP] at h
    split at h
    · rename_i hc
      cases r with
      | nil => simp at h
      | cons a r2 =>
        simp only at h
        have ha := hb a (by simp)
        split at h
        · rename_i h128
          split at h
          · rename_i hok
            cases h
            exact ⟨hok, by simp only [bytesP]; rw [if_neg (by omega), if_pos h128]; rfl, by omega, by simp, by omega⟩
          · cases h
        · rename_i h128
          cases r2 with
          | nil => simp at h
          | cons b r3 =>
            simp only at h
            have hbb := hb b (by simp)
            unfold okByte at ha hbb
            split at h
            · cases h
            · rename_i hb0
              split at h
              · rename_i hok
                cases h
                refine ⟨hok, ?_, by omega, by simp, by omega⟩
                simp only [bytesP]
                rw [if_neg (by omega), if_neg (by omega), show 128 + (a - 128 + 128 * b) % 128 = a by omega, show (a - 128 + 128 * b) / 128 = b by omega]
                rfl
              · cases h
    · rename_i hc
      split at h
      · rename_i hok
        cases h
        exact ⟨hok, by simp only [bytesP]; rw [if_pos (by omega)]; rfl, by omega, by simp, by omega⟩
      · cases h
theorem decP_spec : ∀ (k : Nat) {l : List Int}, (∀ z ∈ l, okByte z) → (decP k l).1.all okOp = true ∧ (decP k l).1.length ≤ k ∧ (decP k l).1.flatMap bytesP = l.take (decP k l).2 ∧ (decP k l).2 ≤ l.length
  | 0, l, _ => by simp [decP]
  | k + 1, l, hb => by
    unfold decP
    cases hh : headP l with
    | none => simp
    | some x =>
      obtain ⟨o, n⟩ := x
      obtain ⟨h1, h2, h3, h4, h5⟩ := headP_spec hb hh
      obtain ⟨i1, i2, i3, i4⟩ := decP_spec k (l := l.drop n) (fun z hz => hb z (List.mem_of_mem_drop hz))
      simp only
      refine ⟨by simp [h1, i1], by simp; exact i2, ?_, by simp only [List.length_drop] at i4; omega⟩
      rw [List.flatMap_cons, h2, i3, List.take_add]
end Go.Gx

/-
  Laws, part 15: the program reads and writes bytes as the spec does.
-/
set_option linter.unusedVariables false
set_option linter.unusedSimpArgs false
namespace Go.Gx
def okBytes (most : Nat) (l : List Int) : Prop := l.length ≤ most ∧ ∀ z ∈ l, okByte z
theorem i_IndexFunc_tot {l : List Int} (hl : l.length ≤ 900000000000) : Tot (fun σ => F_Z1 (σ 0) l) (fun r => ∃ v : Int, r = ((v, ()), ()) ∧ (0 ≤ v ↔ ¬ ∀ z ∈ l, okByte z)) := by
  refine tot_Z1 ?_
  unfold B_Z1
  have key := loop_Z1_L0 (Q := fun _ _ _ r => ∃ v : Int, r = ((v, ()), ()) ∧ (0 ≤ v ↔ ¬ ∀ z ∈ l, okByte z)) (I := fun s n i => s = l ∧ n = l.length ∧ ∃ j : Nat, i = j ∧ j ≤ l.length ∧ ∀ q, q < j → okByte (l.getD q 0)) (μ := fun _ _ i => (l.length - i).toNat) ?_
  · exact key l _ 0 ⟨rfl, rfl, 0, rfl, by omega, fun q hq => by omega⟩
  intro s n i ⟨e1, e2, j, e3, hj, hq⟩ again hag ih
  subst e1 e2 e3
  unfold B_Z1_L0b
  simp only [tot_cond, tot_chk, tot_some, decide_eq_true_eq, decide_eq_false_iff_not, inb_iff]
  refine ⟨fun hlt => ⟨by omega, ?_⟩, fun hge => ⟨_, rfl, ⟨fun h => by omega, fun h => ?_⟩⟩⟩
  · have hm : rdx (0 : Int) s (j : Int) ∈ s := rdx_mem (by omega) hlt
    have cl : Tot (fun σ => F_Z31 (σ 0) (rdx (0 : Int) s (j : Int))) (fun r => ∃ b, r = ((b, ()), ()) ∧ (b = true ↔ ¬ okByte (rdx (0 : Int) s (j : Int)))) := by
      refine tot_Z31 ?_
      unfold B_Z31 okByte
      simp only [tot_cond, tot_some, decide_eq_true_eq, decide_eq_false_iff_not]
      exact ⟨fun h => ⟨_, rfl, by simp; omega⟩, fun h => ⟨_, rfl, by simp; omega⟩⟩
    refine cl.bind ?_
    rintro _ ⟨b, rfl, hb⟩
    simp only [tot_cond, tot_some]
    refine ⟨fun ht => ⟨_, rfl, ⟨fun _ h => hb.1 ht (h _ hm), fun _ => by omega⟩⟩, fun hf => ?_⟩
    rw [w64_succ (by omega) (by omega)]
    refine ih _ _ _ ⟨rfl, rfl, j + 1, rfl, by omega, fun q h => ?_⟩ (by simp; omega)
    by_cases e : q = j
    · subst e
      have hn : ¬ ¬ okByte (rdx (0 : Int) s (q : Int)) := fun h => by rw [hb.2 h] at hf; cases hf
      have := Classical.not_not.1 hn
      rwa [rdx_eq, Int.toNat_natCast] at this
    · exact hq q (by omega)
  · refine absurd (fun z hz => ?_) h
    obtain ⟨i, hi, e⟩ := List.getElem_of_mem hz
    have := hq i (by omega)
    rwa [List.getD_eq_getElem?_getD, List.getElem?_eq_getElem hi, Option.getD_some, e] at this
theorem i_bytesOk_tot {l : List Int} (hl : l.length ≤ 900000000000) (most : Nat) : Tot (fun σ => F_Z56 (σ 0) l most) (Says (okBytes most l)) := by
  refine tot_Z56 ?_
  unfold B_Z56
  simp only [tot_cond, tot_some, decide_eq_true_eq, decide_eq_false_iff_not, len]
  refine ⟨fun h => ?_, fun h => says_false fun hc => by have := hc.1; omega⟩
  refine (Tot.mono (Q' := fun r => ∃ b, r = ((b, ()), ()) ∧ (b = true ↔ ¬ ∀ z ∈ l, okByte z)) (tot_Z0 (Q := fun r => ∃ b, r = ((b, ()), ()) ∧ (b = true ↔ ¬ ∀ z ∈ l, okByte z)) ?_) fun _ h => h).bind ?_
  · unfold B_Z0
    refine (i_IndexFunc_tot hl).bind ?_
    rintro _ ⟨v, rfl, hv⟩
    rw [tot_some]
    exact ⟨_, rfl, by simp only [decide_eq_true_eq]; exact hv⟩
  · rintro _ ⟨b, rfl, hb⟩
    rw [tot_some]
    refine says_iff ?_
    rw [Bool.not_eq_true']
    constructor
    · intro hf
      refine ⟨by omega, Classical.not_not.1 fun h => ?_⟩
      rw [hb.2 h] at hf; cases hf
    · intro h
      cases b with
      | false => rfl
      | true => exact absurd h.2 (hb.1 rfl)
theorem s_validBytes_tot {l : List Int} (hl : l.length ≤ 900000000000) : Tot (fun σ => F_Z24 (σ 0) l) (Says (okBytes 1000 l)) := by
  refine tot_Z24 ?_
  unfold B_Z24
  simp only [tot_cond, tot_some, decide_eq_true_eq, decide_eq_false_iff_not, len]
  refine ⟨fun h => ?_, fun h => says_false fun hc => by have := hc.1; omega⟩
  refine (allIn_tot hl 0 255).bind ?_
  rintro _ ⟨b, rfl, hb⟩
  rw [tot_some]
  exact says_iff ⟨fun h' => ⟨by omega, hb.1 h'⟩, fun h' => hb.2 h'.2⟩
theorem i_decoded_tot {l : List Int} (hb : ∀ z ∈ l, okByte z) (hl : l.length ≤ 1000000) : Tot (fun σ => F_Z48 (σ 0) l) (fun r => r = (((decP 300 l).1, ((decP 300 l).2 : Int), ()), ())) := by
  refine tot_Z48 ?_
  unfold B_Z48
  have key := loop_Z48_L4 (Q := fun _ _ _ r => r = (((decP 300 l).1, ((decP 300 l).2 : Int), ()), ())) (I := fun l' out at5 => l' = l ∧ ∃ j : Nat, at5 = j ∧ j ≤ l.length ∧ out.length ≤ 300 ∧ (decP 300 l).1 = out ++ (decP (300 - out.length) (l.drop j)).1 ∧ (decP 300 l).2 = j + (decP (300 - out.length) (l.drop j)).2)
    (μ := fun _ out _ => 300 - out.length) ?_
  · exact key l [] 0 ⟨rfl, 0, rfl, by omega, by simp, by simp, by simp⟩
  intro l' out at5 ⟨e1, j, e2, hj, ho, hd1, hd2⟩ again hag ih
  subst e1 e2
  unfold B_Z48_L4b
  have fin : decP (300 - out.length) (l'.drop j) = ([], 0) → Tot (fun σ => B_Z48_J5 (σ 0) (F_Z49 (σ 0)) (F_i_opOk (σ 0)) out (j : Int)) (fun r => r = (((decP 300 l').1, ((decP 300 l').2 : Int), ()), ())) := by
    intro h
    unfold B_Z48_J5
    rw [tot_some, hd1, hd2, h]; simp
  have hjj : ∀ i : Nat, rdx (0 : Int) l' ((j + i : Nat) : Int) = (l'.drop j).getD i 0 := by
    intro i
    rw [rdx_eq, Int.toNat_natCast, List.getD_eq_getElem?_getD, List.getD_eq_getElem?_getD, List.getElem?_drop]
  have h0 : rdx (0 : Int) l' (j : Int) = (l'.drop j).getD 0 0 := hjj 0
  have w1 : w64 ((j : Int) + 1) = ((j + 1 : Nat) : Int) := w64_succ (by omega) (by omega)
  have w2 : w64 ((j : Int) + 2) = ((j + 2 : Nat) : Int) := w64_succ (by omega) (by omega)
  rw [tot_cond]
  simp only [decide_eq_true_eq, decide_eq_false_iff_not, len]
  refine ⟨fun hlt => ?_, fun hge => ?_⟩
  rotate_left
  · rw [tot_jn]
    unfold B_Z48_J0
    rw [tot_cond]
    exact ⟨fun h => absurd (show false = true from h) (by decide), fun _ => by rw [tot_jn]; exact fin (by rw [show 300 - out.length = 0 by omega]; rfl)⟩
  rw [tot_jn]
  obtain ⟨k, hk⟩ : ∃ k, 300 - out.length = k + 1 := ⟨300 - out.length - 1, by omega⟩
  have hdk : decP (k + 1) (l'.drop j) = match headP (l'.drop j) with
      | none => ([], 0)
      | some (o, n) => (o :: (decP k ((l'.drop j).drop n)).1, n + (decP k ((l'.drop j).drop n)).2) := rfl
  rw [hk, hdk] at hd1 hd2 fin
  have hL : (l'.drop j).length = l'.length - j := List.length_drop
  have hbj : ∀ z ∈ l'.drop j, okByte z := fun z hz => hb z (List.mem_of_mem_drop hz)
  generalize hLd : l'.drop j = L at *
  -- an order was there, or not
  have j3 : ∀ (c a : Int) (n : Nat), (headP L = if okOp (c, a) = true then some ((c, a), n) else none) → 1 ≤ n → j + n ≤ l'.length → Tot (fun σ => B_Z48_J3 (σ 0) (F_Z49 (σ 0)) (F_i_opOk (σ 0)) (again σ) l' out j c a n) (fun r => r = (((decP 300 l').1, ((decP 300 l').2 : Int), ()), ())) := by
    intro c a n hh hn1 hn
    unfold B_Z48_J3
    refine (i_opOk_tot c a).bind ?_
    rintro _ rfl
    simp only [tot_cond, tot_chk, tot_jn, Bool.not_eq_true', Bool.not_eq_false']
    refine ⟨fun hf => fin (by rw [hh, if_neg (by simp [hf])]), fun ht => ⟨room_iff.2 (by simp only [List.length_cons, List.length_nil]; omega), ?_⟩⟩
    rw [hh, if_pos ht] at hd1 hd2
    rw [show w64 ((j : Int) + (n : Int)) = ((j + n : Nat) : Int) by rw [w64_id (by omega) (by omega)]; omega]
    refine ih _ _ _ ⟨rfl, j + n, rfl, hn, by simp only [List.length_append, List.length_cons, List.length_nil]; omega, ?_, ?_⟩ (by simp only [List.length_append, List.length_cons, List.length_nil]; omega)
    · simp only [List.length_append, List.length_cons, List.length_nil]
      rw [hd1, show 300 - (out.length + (0 + 1)) = k by omega, ← List.drop_drop, hLd]
      simp only [List.append_assoc, List.singleton_append]
    · simp only [List.length_append, List.length_cons, List.length_nil]
      rw [hd2, show 300 - (out.length + (0 + 1)) = k by omega, ← List.drop_drop, hLd]
      simp only; omega
  unfold B_Z48_J0
  rw [tot_cond]
  simp only [decide_eq_true_eq, decide_eq_false_iff_not]
  refine ⟨fun hjl => ?_, fun hjl => ?_⟩
  rotate_left
  · rw [tot_jn]
    refine fin ?_
    cases L with
    | nil => rfl
    | cons x r => simp only [List.length_cons] at hL; omega
  rw [tot_chk]
  refine ⟨inb_iff.2 (by omega), ?_⟩
  cases L with
  | nil => simp only [List.length_nil] at hL; omega
  | cons c r =>
    simp only [List.length_cons] at hL
    have h0' : rdx (0 : Int) l' (j : Int) = c := h0
    rw [h0']
    have am := arg_most c
    have j1 : ∀ t : Bool, (t = true ↔ 0 ≤ argP c) → Tot (fun σ => B_Z48_J1 (σ 0) (F_Z49 (σ 0)) (F_i_opOk (σ 0)) (again σ) l' out j c 0 1 t) (fun r => r = (((decP 300 l').1, ((decP 300 l').2 : Int), ()), ())) := by
      intro t ht
      unfold B_Z48_J1
      rw [tot_cond]
      refine ⟨fun h => ?_, fun h => ?_⟩
      · have hc := ht.1 h
        rw [w1, w2, tot_cond]
        simp only [decide_eq_true_eq, decide_eq_false_iff_not, len]
        refine ⟨fun hge => ?_, fun hlt1 => ?_⟩
        · rw [tot_jn]
          refine fin ?_
          cases r with
          | nil => simp only [headP, if_pos hc]
          | cons a r2 => simp only [List.length_cons] at hL; omega
        · cases r with
          | nil => simp only [List.length_nil] at hL; omega
          | cons a r2 =>
            simp only [List.length_cons] at hL
            have e1 : rdx (0 : Int) l' ((j + 1 : Nat) : Int) = a := hjj 1
            have ha := hbj a (by simp)
            unfold okByte at ha
            rw [tot_chk, e1]
            refine ⟨inb_iff.2 (by omega), ?_⟩
            rw [tot_cond]
            simp only [decide_eq_true_eq, decide_eq_false_iff_not, len]
            refine ⟨fun h128 => ?_, fun h128 => ?_⟩
            · rw [tot_cond]
              simp only [decide_eq_true_eq, decide_eq_false_iff_not, len]
              refine ⟨fun hge2 => ?_, fun hlt2 => ?_⟩
              · rw [tot_jn]
                unfold B_Z48_J2
                rw [tot_cond]
                refine ⟨fun _ => ?_, fun h => absurd (show true = false from h) (by decide)⟩
                rw [tot_jn]
                refine fin ?_
                cases r2 with
                | nil => simp only [headP, if_pos hc]; rw [if_neg (by omega)]
                | cons b r3 => simp only [List.length_cons] at hL; omega
              · cases r2 with
                | nil => simp only [List.length_nil] at hL; omega
                | cons b r3 =>
                  simp only [List.length_cons] at hL
                  have e2 : rdx (0 : Int) l' ((j + 2 : Nat) : Int) = b := hjj 2
                  have hbb := hbj b (by simp)
                  unfold okByte at hbb
                  rw [tot_chk, e2]
                  refine ⟨inb_iff.2 (by omega), ?_⟩
                  rw [tot_jn]
                  unfold B_Z48_J2
                  rw [w2, e2, tot_cond]
                  simp only [beq_iff_eq, beq_eq_false_iff_ne, ne_eq]
                  refine ⟨fun hb0 => ?_, fun hb0 => ?_⟩
                  · rw [tot_jn]
                    refine fin ?_
                    simp only [headP, if_pos hc]
                    rw [if_neg (by omega), if_pos hb0]
                  · rw [tot_chk]
                    refine ⟨inb_iff.2 (by omega), ?_⟩
                    rw [tot_jn, w64_id (z := a - 128) (by omega) (by omega), w64_id (z := 128 * b) (by omega) (by omega), w64_id (by omega) (by omega)]
                    refine j3 c (a - 128 + 128 * b) 3 ?_ (by omega) (by omega)
                    simp only [headP, if_pos hc]
                    rw [if_neg (by omega), if_neg hb0]
            · rw [tot_jn]
              refine j3 c a 2 ?_ (by omega) (by omega)
              simp only [headP, if_pos hc]
              rw [if_pos (by omega)]
      · rw [tot_jn]
        refine j3 c 0 1 ?_ (by omega) (by omega)
        simp only [headP]
        rw [if_neg (fun hc => by rw [ht.2 hc] at h; cases h)]
    rw [tot_cond]
    simp only [decide_eq_true_eq, decide_eq_false_iff_not]
    have hneg : ¬ c ≤ 19 → argP c < 0 := by
      intro h; unfold argP; rw [if_neg (by omega), if_neg (by omega), if_neg (by omega)]; omega
    refine ⟨fun h19 => ?_, fun h19 => ?_⟩
    · refine (i_mostArg_tot c).bind ?_
      rintro _ rfl
      rw [tot_jn]
      refine j1 _ ?_
      simp only [decide_eq_true_eq]
      have : 0 ≤ argP c → 0 < mostP c := by
        intro h
        rcases am with ⟨h1, _⟩ | ⟨_, h2⟩
        · omega
        · rw [← h2]; unfold argP at h ⊢; split
          · omega
          split
          · omega
          split
          · omega
          · rename_i a1 a2 a3; rw [if_neg a1, if_neg a2, if_neg a3] at h; omega
      exact ⟨fun h => by omega, this⟩
    · rw [tot_jn]
      exact j1 false ⟨fun h => absurd h (by decide), fun h => by have := hneg h19; omega⟩
end Go.Gx

/-
  Laws, part ST1: frames, and programs as bytes, as plain lists.
-/
set_option linter.unusedVariables false
set_option linter.unusedSimpArgs false
namespace Go.Gx
theorem headP_enc {o : POp} (h : okOp o = true) (r : List Int) : headP (bytesP o ++ r) = some (o, (bytesP o).length) := by
  obtain ⟨c, a⟩ := o
  have ho := h
  simp only [okOp, decide_eq_true_eq] at ho
  unfold bytesP
  simp only []
  by_cases hc : argP c < 0
  · rw [if_pos hc]
    have hm : mostP c = 0 := by
      rcases arg_most c with ⟨_, h2⟩ | ⟨h1, _⟩
      · exact h2
      · omega
    have ha : a = 0 := by omega
    subst ha
    simp only [List.cons_append, List.nil_append, headP, List.length_cons, List.length_nil]
    rw [if_neg (by omega), if_pos h]
  · rw [if_neg hc]
    by_cases h128 : a < 128
    · rw [if_pos h128]
      simp only [List.cons_append, List.nil_append, headP, List.length_cons, List.length_nil]
      rw [if_pos (by omega), if_pos h128, if_pos h]
    · rw [if_neg h128]
      simp only [List.cons_append, List.nil_append, headP, List.length_cons, List.length_nil]
      have e : 128 + a % 128 - 128 + 128 * (a / 128) = a := by omega
      rw [if_pos (by omega), if_neg (by omega), if_neg (by omega), e, if_pos h]
theorem decP_enc : ∀ (k : Nat) (ops : List POp), ops.all okOp = true → ops.length ≤ k → decP k (ops.flatMap bytesP) = (ops, (ops.flatMap bytesP).length)
  | 0, ops, _, hl => by
    have : ops = [] := List.length_eq_zero_iff.1 (by omega)
    subst this; rfl
  | k + 1, [], _, _ => rfl
  | k + 1, o :: r, h, hl => by
    simp only [List.all_cons, Bool.and_eq_true] at h
    unfold decP
    rw [List.flatMap_cons, headP_enc h.1]
    simp only []
    rw [List.drop_left, decP_enc k r h.2 (by simpa using hl)]
    simp
theorem bytesP_ok {o : POp} (h : okOp o = true) : ∀ z ∈ bytesP o, okByte z := by
  obtain ⟨c, a⟩ := o
  simp only [okOp, decide_eq_true_eq] at h
  have hm : mostP c ≤ 999 := by
    unfold mostP
    split
    · omega
    split
    · omega
    split <;> omega
  unfold bytesP okByte
  simp only []
  intro z hz
  split at hz
  · simp only [List.mem_cons, List.not_mem_nil, or_false] at hz; omega
  split at hz
  · simp only [List.mem_cons, List.not_mem_nil, or_false] at hz; omega
  · simp only [List.mem_cons, List.not_mem_nil, or_false] at hz; omega
/-- Bytes in frames. -/
def frm (m : Nat) : Nat → List Int → List Int
  | 0, _ => []
  | f + 1, l => if l = [] then [] else ((min m l.length : Nat) : Int) :: (l.take m ++ frm m f (l.drop m))
/-- The bytes of whole frames, and where these end. -/
def frP : Nat → List Int → List Int × Nat
  | 0, _ => ([], 0)
  | _ + 1, [] => ([], 0)
  | f + 1, c :: r => if 1 ≤ c ∧ c ≤ 200 ∧ c.toNat ≤ r.length then (r.take c.toNat ++ (frP f (r.drop c.toNat)).1, 1 + c.toNat + (frP f (r.drop c.toNat)).2) else ([], 0)
theorem frP_fuel : ∀ (f f' : Nat) (l : List Int), l.length ≤ f → l.length ≤ f' → frP f l = frP f' l
  | 0, f', l, h, _ => by
    have : l = [] := List.length_eq_zero_iff.1 (by omega)
    subst this
    cases f' <;> rfl
  | f + 1, f', [], _, _ => by cases f' <;> rfl
  | f + 1, 0, c :: r, _, h => by simp at h
  | f + 1, f' + 1, c :: r, h, h' => by
    simp only [frP]
    split
    · rename_i hc
      rw [frP_fuel f f' (r.drop c.toNat) (by simp only [List.length_drop, List.length_cons] at *; omega) (by simp only [List.length_drop, List.length_cons] at *; omega)]
    · rfl
def unfr (l : List Int) : List Int × Nat := frP l.length l
theorem unfr_nil : unfr [] = ([], 0) := rfl
theorem unfr_cons (c : Int) (r : List Int) : unfr (c :: r) = if 1 ≤ c ∧ c ≤ 200 ∧ c.toNat ≤ r.length then (r.take c.toNat ++ (unfr (r.drop c.toNat)).1, 1 + c.toNat + (unfr (r.drop c.toNat)).2) else ([], 0) := by
  unfold unfr
  simp only [List.length_cons, frP]
  rw [frP_fuel r.length (r.drop c.toNat).length (r.drop c.toNat) (by simp) (by simp)]
theorem unfr_app {m : Nat} (h1 : 1 ≤ m) (h2 : m ≤ 200) : ∀ (f : Nat) (l r : List Int), l.length ≤ f → unfr (frm m f l ++ r) = (l ++ (unfr r).1, (frm m f l).length + (unfr r).2)
  | 0, l, r, h => by
    have : l = [] := List.length_eq_zero_iff.1 (by omega)
    subst this
    simp [frm]
  | f + 1, l, r, h => by
    unfold frm
    by_cases hl : l = []
    · subst hl; simp
    · rw [if_neg hl]
      have hpos : 0 < l.length := List.length_pos_iff.2 hl
      have ht : (l.take m).length = min m l.length := List.length_take
      rw [List.cons_append, unfr_cons, Int.toNat_natCast]
      rw [if_pos ⟨by omega, by omega, by rw [List.append_assoc, List.length_append, ht]; omega⟩]
      rw [List.append_assoc, ← ht, List.take_left, List.drop_left, unfr_app h1 h2 f (l.drop m) r (by simp only [List.length_drop]; omega)]
      refine Prod.ext ?_ ?_
      · simp only []
        rw [← List.append_assoc, List.take_append_drop]
      · simp only [List.length_cons, List.length_append]
        omega
theorem frm_len {m : Nat} (h1 : 1 ≤ m) : ∀ (f : Nat) (l : List Int), (frm m f l).length ≤ 2 * l.length
  | 0, l => by simp [frm]
  | f + 1, l => by
    unfold frm
    by_cases hl : l = []
    · rw [if_pos hl]; simp
    · rw [if_neg hl]
      have hpos : 0 < l.length := List.length_pos_iff.2 hl
      have := frm_len h1 f (l.drop m)
      simp only [List.length_cons, List.length_append, List.length_take, List.length_drop] at this ⊢
      omega
theorem frm_ok {m : Nat} (h2 : m ≤ 200) : ∀ (f : Nat) (l : List Int), (∀ z ∈ l, okByte z) → ∀ z ∈ frm m f l, okByte z
  | 0, l, _ => by simp [frm]
  | f + 1, l, h => by
    unfold frm
    by_cases hl : l = []
    · rw [if_pos hl]; simp
    · rw [if_neg hl]
      intro z hz
      rcases List.mem_cons.1 hz with rfl | hz
      · unfold okByte; omega
      rcases List.mem_append.1 hz with hz | hz
      · exact h z (List.mem_of_mem_take hz)
      · exact frm_ok h2 f (l.drop m) (fun z hz => h z (List.mem_of_mem_drop hz)) z hz
theorem frm_fuel {m : Nat} (h1 : 1 ≤ m) : ∀ (f f' : Nat) (l : List Int), l.length ≤ f → l.length ≤ f' → frm m f l = frm m f' l
  | 0, f', l, h, _ => by
    have : l = [] := List.length_eq_zero_iff.1 (by omega)
    subst this
    cases f' <;> simp [frm]
  | f + 1, 0, l, _, h => by
    have : l = [] := List.length_eq_zero_iff.1 (by omega)
    subst this
    simp [frm]
  | f + 1, f' + 1, l, h, h' => by
    unfold frm
    by_cases hl : l = []
    · rw [if_pos hl, if_pos hl]
    · rw [if_neg hl, if_neg hl, frm_fuel h1 f f' (l.drop m) (by have := List.length_pos_iff.2 hl; simp only [List.length_drop]; omega) (by have := List.length_pos_iff.2 hl; simp only [List.length_drop]; omega)]
/-- Bytes in frames of at most m. -/
def framed (m : Nat) (l : List Int) : List Int := frm m l.length l
theorem framed_step {m : Nat} (h1 : 1 ≤ m) {l : List Int} (hl : l ≠ []) : framed m l = ((min m l.length : Nat) : Int) :: (l.take m ++ framed m (l.drop m)) := by
  have hpos : 0 < l.length := List.length_pos_iff.2 hl
  unfold framed
  obtain ⟨k, hk⟩ : ∃ k, l.length = k + 1 := ⟨l.length - 1, by omega⟩
  conv => lhs; rw [hk]; unfold frm
  rw [if_neg hl, frm_fuel h1 k (l.drop m).length (l.drop m) (by simp only [List.length_drop]; omega) (Nat.le_refl _)]
/-- A program in parts. -/
def parts : List POp → List POp → List (List POp)
  | p, [] => if p = [] then [] else [p]
  | p, o :: r => if o.1 = 19 then (p ++ [o]) :: parts [] r else parts (p ++ [o]) r
theorem parts_flat : ∀ (r p : List POp), (parts p r).flatten = p ++ r
  | [], p => by
    unfold parts
    split
    · rename_i h; subst h; rfl
    · simp
  | o :: r, p => by
    unfold parts
    split
    · rw [List.flatten_cons, parts_flat r []]; simp
    · rw [parts_flat r (p ++ [o])]; simp
theorem parts_len : ∀ (r p : List POp), (parts p r).length ≤ r.length + 1
  | [], p => by unfold parts; split <;> simp
  | o :: r, p => by
    unfold parts
    split
    · have := parts_len r []
      simp only [List.length_cons]; omega
    · have := parts_len r (p ++ [o])
      simp only [List.length_cons]; omega
/-- The bytes of a stream. -/
def stream (m : Nat) (ps : List (List POp)) : List Int := ps.flatMap fun p => framed m (encP p)
theorem stream_unfr {m : Nat} (h1 : 1 ≤ m) (h2 : m ≤ 200) : ∀ (ps : List (List POp)) (r : List Int), unfr (stream m ps ++ r) = (ps.flatMap encP ++ (unfr r).1, (stream m ps).length + (unfr r).2)
  | [], r => by simp [stream]
  | p :: ps, r => by
    have e : stream m (p :: ps) ++ r = frm m (encP p).length (encP p) ++ (stream m ps ++ r) := by
      unfold stream; rw [List.flatMap_cons, List.append_assoc]; rfl
    have e2 : (stream m (p :: ps)).length = (frm m (encP p).length (encP p)).length + (stream m ps).length := by
      unfold stream; rw [List.flatMap_cons, List.length_append]; rfl
    rw [e, unfr_app h1 h2 _ _ _ (Nat.le_refl _), stream_unfr h1 h2 ps r, e2, List.flatMap_cons]
    refine Prod.ext (by simp only [List.append_assoc]) (by simp only []; omega)
theorem stream_len {m : Nat} (h1 : 1 ≤ m) : ∀ (ps : List (List POp)), (stream m ps).length ≤ 2 * (ps.flatMap encP).length
  | [] => by simp [stream]
  | p :: ps => by
    have := stream_len h1 ps
    have h := frm_len h1 (encP p).length (encP p)
    unfold stream at this ⊢
    rw [List.flatMap_cons, List.flatMap_cons, List.length_append, List.length_append]
    show (frm m (encP p).length (encP p)).length + _ ≤ _
    omega
theorem encP_ok (p : List POp) : ∀ z ∈ encP p, okByte z := by
  unfold encP
  split
  · rename_i h
    intro z hz
    obtain ⟨o, ho, hz⟩ := List.mem_flatMap.1 hz
    exact bytesP_ok (List.all_eq_true.1 (okOps_all h).1 o ho) z hz
  · simp
theorem stream_ok {m : Nat} (h2 : m ≤ 200) (ps : List (List POp)) : ∀ z ∈ stream m ps, okByte z := by
  intro z hz
  obtain ⟨p, _, hz⟩ := List.mem_flatMap.1 hz
  exact frm_ok h2 _ _ (encP_ok p) z hz
theorem parts_enc {ops : List POp} (h : okOps ops = true) : (parts [] ops).flatMap encP = encP ops := by
  have hall := okOps_all h
  have hf := parts_flat ops []
  rw [List.nil_append] at hf
  have key : ∀ ps : List (List POp), (∀ p ∈ ps, okOps p = true) → ps.flatMap encP = ps.flatten.flatMap bytesP := by
    intro ps
    induction ps with
    | nil => intro _; rfl
    | cons p ps ih =>
      intro hp
      rw [List.flatMap_cons, List.flatten_cons, List.flatMap_append, ih fun q hq => hp q (by simp [hq])]
      congr 1
      unfold encP
      rw [if_pos (hp p (by simp))]
  rw [key, hf]
  · unfold encP; rw [if_pos h]
  · intro p hp
    simp only [okOps, Bool.and_eq_true, decide_eq_true_eq]
    have hsub : ∀ o ∈ p, o ∈ ops := fun o ho => by rw [← hf]; exact List.mem_flatten.2 ⟨p, hp, ho⟩
    refine ⟨List.all_eq_true.2 fun o ho => List.all_eq_true.1 hall.1 o (hsub o ho), ?_⟩
    have h3 := hall.2
    have h4 : p.length ≤ ops.length := by
      rw [← hf]
      exact (List.sublist_flatten_of_mem hp).length_le
    omega
/-- Up to the last stop. -/
def stopTo (ops : List POp) : Nat → Nat
  | 0 => 0
  | i + 1 => if (ops.getD i (0, 0)).1 = 19 then i + 1 else stopTo ops i
def stopN (ops : List POp) : Nat := stopTo ops ops.length
theorem stopTo_le (ops : List POp) : ∀ i, stopTo ops i ≤ i
  | 0 => Nat.le_refl _
  | i + 1 => by
    unfold stopTo
    split
    · exact Nat.le_refl _
    · have := stopTo_le ops i; omega
end Go.Gx

/-
  Laws: lists of numbers are compared.
-/
set_option linter.unusedVariables false
set_option linter.unusedSimpArgs false
namespace Go.Gx
theorem equalInts_tot {a b : List Int} (ha : a.length ≤ 900000000000) : Tot (fun σ => F_Z32 (σ 0) a b) (Says (a = b)) := by
  refine tot_Z32 ?_
  unfold B_Z32
  simp only [tot_cond, tot_some, len, bne_iff_ne, ne_eq, bne_eq_false_iff_eq]
  refine ⟨fun h => says_false fun e => h (by rw [e]), fun h => ?_⟩
  have hl : a.length = b.length := by omega
  have key := loop_Z32_L0 (Q := fun _ _ _ r => Says (a = b) r) (I := fun x y i => x = a ∧ y = b ∧ ∃ j : Nat, i = j ∧ j ≤ a.length ∧ ∀ q, q < j → a.getD q 0 = b.getD q 0) (μ := fun _ _ i => (a.length - i).toNat) ?_
  · exact key a b 0 ⟨rfl, rfl, 0, rfl, by omega, fun q hq => by omega⟩
  intro x y i ⟨e1, e2, j, e3, hj, hq⟩ again hag ih
  subst e1 e2 e3
  unfold B_Z32_L0b
  simp only [tot_cond, tot_chk, tot_some, decide_eq_true_eq, decide_eq_false_iff_not, len, inb_iff, bne_iff_ne, ne_eq, bne_eq_false_iff_eq]
  simp only [rdx_eq, Int.toNat_natCast]
  refine ⟨fun hlt => ⟨by omega, by omega, fun hne => says_false fun e => hne (by rw [e]), fun he => ?_⟩, fun hge => says_true (ext_getD hl fun i hi => hq i (by omega))⟩
  rw [w64_succ (by omega) (by omega)]
  refine ih _ _ _ ⟨rfl, rfl, j + 1, rfl, by omega, fun q h => ?_⟩ (by simp; omega)
  by_cases e : q = j
  · subst e; exact he
  · exact hq q (by omega)
end Go.Gx

/-
  Laws: programs are compared.
-/
set_option linter.unusedVariables false
set_option linter.unusedSimpArgs false
namespace Go.Gx
theorem equalOps_tot {a b : List POp} (ha : a.length ≤ 900000000000) : Tot (fun σ => F_Z43 (σ 0) a b) (Says (a = b)) := by
  refine tot_Z43 ?_
  unfold B_Z43
  simp only [tot_cond, tot_some, len, bne_iff_ne, ne_eq, bne_eq_false_iff_eq]
  refine ⟨fun h => says_false fun e => h (by rw [e]), fun h => ?_⟩
  have hl : a.length = b.length := by omega
  have key := loop_Z43_L0 (Q := fun _ _ _ r => Says (a = b) r) (I := fun x y i => x = a ∧ y = b ∧ ∃ j : Nat, i = j ∧ j ≤ a.length ∧ ∀ q, q < j → a.getD q ((0 : Int), (0 : Int)) = b.getD q ((0 : Int), (0 : Int))) (μ := fun _ _ i => (a.length - i).toNat) ?_
  · exact key a b 0 ⟨rfl, rfl, 0, rfl, by omega, fun q hq => by omega⟩
  intro x y i ⟨e1, e2, j, e3, hj, hq⟩ again hag ih
  subst e1 e2 e3
  unfold B_Z43_L0b
  simp only [tot_cond, tot_chk, tot_some, decide_eq_true_eq, decide_eq_false_iff_not, len, inb_iff, Bool.not_eq_true', Bool.not_eq_false', Bool.and_eq_true, Bool.and_eq_false_iff, beq_iff_eq, beq_eq_false_iff_ne, ne_eq]
  simp only [rdx_eq, Int.toNat_natCast]
  refine ⟨fun hlt => ⟨by omega, by omega, fun hne => says_false fun e => ?_, fun he => ?_⟩, fun hge => says_true (ext_getD hl fun i hi => hq i (by omega))⟩
  · subst e; rcases hne with h | h <;> exact h rfl
  · rw [w64_succ (by omega) (by omega)]
    refine ih _ _ _ ⟨rfl, rfl, j + 1, rfl, by omega, fun q h => ?_⟩ (by simp; omega)
    by_cases e : q = j
    · subst e; exact Prod.ext he.1 he.2
    · exact hq q (by omega)
end Go.Gx

/-
  Laws, part 16: lists are compared; programs are checked and written as bytes.
-/
set_option linter.unusedVariables false
set_option linter.unusedSimpArgs false
namespace Go.Gx
theorem bytesP_most {o : POp} (h : okOp o = true) : bytesP o = if mostP o.1 = 0 then [o.1] else if o.2 < 128 then [o.1, o.2] else [o.1, 128 + o.2 % 128, o.2 / 128] := by
  unfold bytesP
  rcases arg_most o.1 with ⟨h1, h2⟩ | ⟨h1, h2⟩
  · rw [if_pos h1, if_pos h2]
  · rw [if_neg (by omega)]
    by_cases h3 : mostP o.1 = 0
    · exfalso
      rw [h3] at h2
      unfold argP at h2
      split at h2
      · omega
      split at h2
      · omega
      split at h2 <;> omega
    · rw [if_neg h3]
theorem i_EncodeOps_tot {ops : List POp} (hl : ops.length ≤ 900000000000) : Tot (fun σ => F_Z33 (σ 0) ops) (fun r => r = ((encP ops, ()), ())) := by
  refine tot_Z33 ?_
  unfold B_Z33
  refine (i_ValidOps_tot hl).bind ?_
  rintro _ rfl
  simp only [tot_cond, tot_some, Bool.not_eq_true', Bool.not_eq_false']
  refine ⟨fun h => by simp [encP, h], fun h => ?_⟩
  obtain ⟨h1, h2⟩ := okOps_all h
  have hE : encP ops = ops.flatMap bytesP := by rw [encP, if_pos h]
  rw [hE]
  have key := loop_Z33_L1 (Q := fun _ _ _ _ r => r = ((ops.flatMap bytesP, ()), ())) (I := fun out t10 t11 i => t10 = ops ∧ t11 = ops.length ∧ ∃ j : Nat, i = j ∧ j ≤ ops.length ∧ out = (ops.take j).flatMap bytesP) (μ := fun _ _ _ i => (ops.length - i).toNat) ?_
  · exact key [] ops _ 0 ⟨rfl, rfl, 0, rfl, by omega, rfl⟩
  intro out t10 t11 i ⟨e1, e2, j, e3, hj, e4⟩ again hag ih
  subst e1 e2 e3 e4
  unfold B_Z33_L1b B_Z33_J0
  have hfl := flatMap_len (t10.take j)
  simp only [List.length_take] at hfl
  simp only [tot_cond, tot_chk, tot_some, decide_eq_true_eq, decide_eq_false_iff_not, len, inb_iff]
  refine ⟨fun hlt => ⟨by omega, room_iff.2 (by simp only [List.length_cons, List.length_nil]; omega), ?_⟩, fun hge => ?_⟩
  · have hj' : j < t10.length := by omega
    have ho : okOp (rdx ((0 : Int), (0 : Int)) t10 j) = true := List.all_eq_true.1 h1 _ (rdx_mem (by omega) hlt)
    have hstep : (t10.take (j + 1)).flatMap bytesP = (t10.take j).flatMap bytesP ++ bytesP (rdx ((0 : Int), (0 : Int)) t10 j) := by
      rw [List.take_add_one, List.flatMap_append, rdx_eq, Int.toNat_natCast, List.getD_eq_getElem?_getD, List.getElem?_eq_getElem hj']
      simp
    rw [bytesP_most ho] at hstep
    have hr : 0 ≤ (rdx ((0 : Int), (0 : Int)) t10 j).2 ∧ (rdx ((0 : Int), (0 : Int)) t10 j).2 ≤ 999 := by
      simp only [okOp, decide_eq_true_eq] at ho
      have : mostP (rdx ((0 : Int), (0 : Int)) t10 j).1 ≤ 999 := by
        unfold mostP
        split
        · omega
        split
        · omega
        split <;> omega
      omega
    generalize rdx ((0 : Int), (0 : Int)) t10 j = o at ho hstep hr
    refine (i_mostArg_tot o.1).bind ?_
    rintro _ rfl
    have next : ∀ out' : List Int, out' = (t10.take (j + 1)).flatMap bytesP → Tot (fun σ => again σ (out', t10, (t10.length : Int), w64 ((j : Int) + 1), ())) (fun r => r = ((t10.flatMap bytesP, ()), ())) := by
      intro out' he
      rw [w64_succ (by omega) (by omega)]
      exact ih _ _ _ _ ⟨rfl, rfl, j + 1, rfl, by omega, he⟩ (by simp; omega)
    simp only [tot_cond, tot_chk, tot_jn, decide_eq_true_eq, decide_eq_false_iff_not, beq_iff_eq, beq_eq_false_iff_ne, ne_eq]
    refine ⟨fun h0 => next _ (by rw [hstep, if_pos h0]), fun h0 => ⟨fun h128 => ⟨room_iff.2 (by simp only [List.length_append, List.length_cons, List.length_nil]; omega), next _ (by rw [hstep, if_neg h0, if_pos h128]; simp)⟩, fun h128 => ⟨room_iff.2 (by simp only [List.length_append, List.length_cons, List.length_nil]; omega), next _ ?_⟩⟩⟩
    rw [hstep, if_neg h0, if_neg h128, Int.tmod_eq_emod_of_nonneg hr.1, Int.tdiv_eq_ediv_of_nonneg hr.1, w64_id (by omega) (by omega), w64_id (by omega) (by omega)]
    simp
  · have : j = t10.length := by omega
    subst this
    rw [List.take_length]
end Go.Gx

/-
  Laws, part ST2: frames of both sides.
-/
set_option linter.unusedVariables false
set_option linter.unusedSimpArgs false
namespace Go.Gx
theorem unfr_step {l : List Int} {j : Nat} (h : j < l.length) : unfr (l.drop j) = if 1 ≤ l.getD j 0 ∧ l.getD j 0 ≤ 200 ∧ j + 1 + (l.getD j 0).toNat ≤ l.length then
    ((l.drop (j + 1)).take (l.getD j 0).toNat ++ (unfr (l.drop (j + 1 + (l.getD j 0).toNat))).1, 1 + (l.getD j 0).toNat + (unfr (l.drop (j + 1 + (l.getD j 0).toNat))).2) else ([], 0) := by
  rw [List.drop_eq_getElem_cons h, unfr_cons, ← getD_at (d := 0) h, List.drop_drop]
  by_cases hc : 1 ≤ l.getD j 0 ∧ l.getD j 0 ≤ 200 ∧ j + 1 + (l.getD j 0).toNat ≤ l.length
  · rw [if_pos hc, if_pos ⟨hc.1, hc.2.1, by rw [List.length_drop]; omega⟩]
  · rw [if_neg hc, if_neg (fun h' => hc ⟨h'.1, h'.2.1, by have := h'.2.2; rw [List.length_drop] at this; omega⟩)]
/-- In the midst of frames. -/
structure Fr1 (l out : List Int) (j : Nat) : Prop where
  le : j ≤ l.length
  ol : out.length ≤ j
  e1 : (unfr l).1 = out ++ (unfr (l.drop j)).1
  e2 : (unfr l).2 = j + (unfr (l.drop j)).2
theorem Fr1.new (l : List Int) : Fr1 l [] 0 := ⟨by omega, by simp, by simp, by simp⟩
theorem Fr1.stop {l out : List Int} {j : Nat} (h : Fr1 l out j) (hj : ¬ (j < l.length ∧ 1 ≤ l.getD j 0 ∧ l.getD j 0 ≤ 200 ∧ j + 1 + (l.getD j 0).toNat ≤ l.length)) : unfr l = (out, j) := by
  have e : unfr (l.drop j) = ([], 0) := by
    by_cases hl : j < l.length
    · rw [unfr_step hl, if_neg (fun h' => hj ⟨hl, h'⟩)]
    · rw [List.drop_eq_nil_of_le (by omega)]; rfl
  refine Prod.ext ?_ ?_
  · rw [h.e1, e]; simp
  · rw [h.e2, e]; rfl
theorem Fr1.next {l out : List Int} {j : Nat} (h : Fr1 l out j) (hj : j < l.length) (hc : 1 ≤ l.getD j 0 ∧ l.getD j 0 ≤ 200 ∧ j + 1 + (l.getD j 0).toNat ≤ l.length) : Fr1 l (out ++ (l.drop (j + 1)).take (l.getD j 0).toNat) (j + 1 + (l.getD j 0).toNat) := by
  have e := unfr_step hj
  rw [if_pos hc] at e
  have h1 := h.e1; have h2 := h.e2; have h3 := h.ol
  rw [e] at h1 h2
  refine ⟨hc.2.2, ?_, by rw [h1, List.append_assoc], by rw [h2]; simp only []; omega⟩
  rw [List.length_append, List.length_take, List.length_drop]; omega
theorem subN {l : List Int} {a b : Nat} (h : a ≤ b) : sub l (a : Int) (b : Int) = (l.drop a).take (b - a) := by
  unfold sub
  rw [Int.toNat_natCast, Int.toNat_natCast, List.drop_take]
theorem i_UnframeTorn_tot {l : List Int} (hl : l.length ≤ 100000) : Tot (fun σ => F_Z11 (σ 0) l) (fun r => (okBytes 2000 l → r = (((unfr l).1, ((unfr l).2 : Int), ()), ())) ∧ (¬ okBytes 2000 l → r = (([], -1, ()), ()))) := by
  refine tot_Z11 ?_
  unfold B_Z11
  refine (i_bytesOk_tot (by omega) 2000).bind ?_
  rintro _ ⟨b, rfl, hb⟩
  simp only [tot_cond, tot_some, Bool.not_eq_true', Bool.not_eq_false']
  refine ⟨fun hf => ⟨fun h => (by rw [hb.2 h] at hf; cases hf), fun _ => trivial⟩, fun ht => ?_⟩
  have hok := hb.1 ht
  refine Tot.mono (Q := fun r => r = (((unfr l).1, ((unfr l).2 : Int), ()), ())) ?_ fun r hr => ⟨fun _ => hr, fun h => absurd hok h⟩
  have key := loop_Z11_L1 (Q := fun _ _ _ r => r = (((unfr l).1, ((unfr l).2 : Int), ()), ())) (I := fun l' out a => l' = l ∧ ∃ j : Nat, a = j ∧ Fr1 l out j) (μ := fun _ _ a => l.length - a.toNat) ?_
  · exact key l [] 0 ⟨rfl, 0, rfl, Fr1.new l⟩
  intro l' out a ⟨e1, j, e2, hF⟩ again hag ih
  subst e1 e2
  have hle := hF.le
  have hol := hF.ol
  unfold B_Z11_L1b B_Z11_J0
  have hrd : rdx (0 : Int) l' (j : Int) = l'.getD j 0 := by rw [rdx_eq, Int.toNat_natCast]
  have stop : ¬ (j < l'.length ∧ 1 ≤ l'.getD j 0 ∧ l'.getD j 0 ≤ 200 ∧ j + 1 + (l'.getD j 0).toNat ≤ l'.length) → ((out, (j : Int), ()), ()) = (((unfr l').1, ((unfr l').2 : Int), ()), ()) := fun h => by rw [hF.stop h]
  have w1 : w64 ((j : Int) + 1) = ((j + 1 : Nat) : Int) := w64_succ (by omega) (by omega)
  simp only [hrd, w1, tot_cond, tot_chk, tot_some, tot_jn, decide_eq_true_eq, decide_eq_false_iff_not, inb_iff, cutb_iff, room_iff, len, Bool.false_eq_true, Bool.true_eq_false, false_implies, true_and, and_true, forall_const]
  refine ⟨fun hlt => ⟨by omega, fun h1 => ⟨by omega, fun h2 => ⟨by omega, ?_⟩, fun h2 => stop fun h => by omega⟩, fun h1 => stop fun h => by omega⟩, fun hge => stop fun h => by omega⟩
  have hlt' : j < l'.length := by omega
  obtain ⟨c, hc⟩ := Int.eq_ofNat_of_zero_le (show 0 ≤ l'.getD j 0 by omega)
  have hcN : (l'.getD j 0).toNat = c := by omega
  have w2 : w64 (((j + 1 : Nat) : Int) + l'.getD j 0) = ((j + 1 + c : Nat) : Int) := by rw [w64_id (by omega) (by omega)]; omega
  have w3 : w64 (1 + l'.getD j 0) = ((1 + c : Nat) : Int) := by rw [w64_id (by omega) (by omega)]; omega
  have w4 : w64 ((j : Int) + ((1 + c : Nat) : Int)) = ((j + 1 + c : Nat) : Int) := by rw [w64_id (by omega) (by omega)]; omega
  rw [w2, w3, w4, subN (by omega)]
  refine ⟨fun h3 => ⟨by omega, by omega, by rw [List.length_take, List.length_drop]; omega, by omega, ?_⟩, fun h3 => stop fun h => by omega⟩
  have hn := hF.next hlt' ⟨by omega, by omega, by omega⟩
  rw [hcN] at hn
  rw [show j + 1 + c - (j + 1) = c from by omega]
  exact ih _ _ _ ⟨rfl, j + 1 + c, rfl, hn⟩ (by simp; omega)
theorem clip_tot {l : List POp} (hl : l.length ≤ 900000000000) : Tot (fun σ => F_Z2 (σ 0) l) (fun r => r = ((l, ()), ())) := by
  refine tot_Z2 ?_
  unfold B_Z2
  simp only [tot_chk, tot_some]
  refine ⟨?_, ?_⟩
  · simp [len, cutb]
  · simp [sub, len]
/-- What RecoverStream answers. -/
def RecQ (l : List Int) (r : (List POp × Bool × Unit) × Unit) : Prop :=
  (okBytes 2000 l ∧ (unfr l).1.length ≤ 1000 → r = ((((decP 300 (unfr l).1).1.take (stopN (decP 300 (unfr l).1).1)), true, ()), ())) ∧ (¬ (okBytes 2000 l ∧ (unfr l).1.length ≤ 1000) → r = (([], false, ()), ()))
theorem unfr_ok {l : List Int} (h : ∀ z ∈ l, okByte z) : ∀ z ∈ (unfr l).1, okByte z := by
  have key : ∀ (f : Nat) (l : List Int), (∀ z ∈ l, okByte z) → ∀ z ∈ (frP f l).1, okByte z := by
    intro f
    induction f with
    | zero => intro l _ z hz; simp [frP] at hz
    | succ f ih =>
      intro l hl z hz
      cases l with
      | nil => simp [frP] at hz
      | cons c r =>
        simp only [frP] at hz
        split at hz
        · rcases List.mem_append.1 hz with hz | hz
          · exact hl z (by simp [List.mem_of_mem_take hz])
          · exact ih _ (fun y hy => hl y (by simp [List.mem_of_mem_drop hy])) z hz
        · simp at hz
  exact key _ l h
theorem unfr_len (l : List Int) : (unfr l).1.length ≤ l.length := by
  have key : ∀ (f : Nat) (l : List Int), (frP f l).1.length ≤ l.length := by
    intro f
    induction f with
    | zero => intro l; simp [frP]
    | succ f ih =>
      intro l
      cases l with
      | nil => simp [frP]
      | cons c r =>
        simp only [frP]
        split
        · have := ih (r.drop c.toNat)
          simp only [List.length_append, List.length_take, List.length_drop, List.length_cons] at this ⊢
          omega
        · simp
  exact key _ l
theorem i_recovered_tot {l : List Int} (hl : l.length ≤ 100000) : Tot (fun σ => F_Z34 (σ 0) l) (RecQ l) := by
  refine tot_Z34 ?_
  unfold B_Z34 B_Z34_J0
  refine (i_UnframeTorn_tot hl).bind ?_
  rintro r ⟨h1, h2⟩
  by_cases hok : okBytes 2000 l
  · rw [h1 hok]
    have hul := unfr_len l
    simp only [tot_cond, tot_jn, tot_some, decide_eq_true_eq, decide_eq_false_iff_not, len, Bool.true_eq_false, false_implies, and_true, forall_const]
    refine ⟨fun h => by omega, fun _ => ⟨fun h => ⟨fun h' => by omega, fun _ => rfl⟩, fun h => ?_⟩⟩
    have hu := unfr_ok hok.2
    refine (i_decoded_tot hu (by omega)).bind ?_
    rintro _ rfl
    have hd := decP_spec 300 hu
    generalize hD : (decP 300 (unfr l).1).1 = D at hd ⊢
    refine Tot.mono (Q := fun r => r = (((D.take (stopN D)), true, ()), ())) ?_ fun r hr => ⟨fun _ => by rw [hD]; exact hr, fun h' => absurd ⟨hok, by omega⟩ h'⟩
    have key := loop_Z34_L2 (Q := fun _ r => r = (((D.take (stopN D)), true, ()), ())) (I := fun o => ∃ q : Nat, q ≤ D.length ∧ o = D.take q ∧ stopTo D q = stopN D) (μ := fun o => o.length) ?_
    · exact key D ⟨D.length, Nat.le_refl _, by simp, rfl⟩
    intro o ⟨q, hq, e1, e2⟩ again hag ih
    subst e1
    unfold B_Z34_L2b B_Z34_J1
    have htl : (D.take q).length = q := by rw [List.length_take]; omega
    have fin : stopN D = q → Tot (fun σ => (F_Z2 (σ 0) (D.take q)).bind fun r44 => some ((r44.1.1, true, ()), ())) (fun r => r = (((D.take (stopN D)), true, ()), ())) := by
      intro h
      refine (clip_tot (by rw [htl]; omega)).bind ?_
      rintro _ rfl
      rw [tot_some, h]
    simp only [tot_cond, tot_chk, tot_jn, decide_eq_true_eq, decide_eq_false_iff_not, inb_iff, cutb_iff, len, htl, bne_iff_ne, ne_eq, bne_eq_false_iff_eq, Bool.false_eq_true, false_implies, true_and, forall_const]
    refine ⟨fun hpos => ?_, fun h0 => ?_⟩
    · obtain ⟨p, rfl⟩ : ∃ p, q = p + 1 := ⟨q - 1, by omega⟩
      have hw : w64 (((p + 1 : Nat) : Int) - 1) = (p : Int) := by rw [w64_id (by omega) (by omega)]; omega
      have hg : (D.take (p + 1)).getD p ((0 : Int), (0 : Int)) = D.getD p (0, 0) := by
        rw [List.getD_eq_getElem?_getD, List.getD_eq_getElem?_getD, List.getElem?_take_of_lt (by omega)]
      rw [hw, Int.toNat_natCast, hg]
      refine ⟨by omega, by omega, fun hne => ⟨by omega, ?_⟩, fun h19 => fin ?_⟩
      · rw [List.take_take, Nat.min_eq_left (by omega)]
        refine ih _ ⟨p, by omega, rfl, ?_⟩ (by rw [htl, List.length_take]; omega)
        rw [← e2]
        conv => rhs; unfold stopTo
        rw [if_neg hne]
      · rw [← e2]
        unfold stopTo
        rw [if_pos h19]
    · have : q = 0 := by omega
      subst this
      exact fin (by rw [← e2]; rfl)
  · rw [h2 hok]
    simp only [tot_cond, tot_jn, tot_some, decide_eq_true_eq, decide_eq_false_iff_not, len, Bool.true_eq_false, false_implies, and_true, forall_const]
    exact ⟨fun _ => ⟨fun h' => absurd h'.1 hok, fun _ => rfl⟩, fun h => absurd h (by decide)⟩
/-- The program of a stream. -/
def RecP (l : List Int) (x : List POp) : Prop := (okBytes 2000 l ∧ (unfr l).1.length ≤ 1000 → x = (decP 300 (unfr l).1).1.take (stopN (decP 300 (unfr l).1).1)) ∧ (¬ (okBytes 2000 l ∧ (unfr l).1.length ≤ 1000) → x = [])
theorem i_RecoverStream_tot {l : List Int} (hl : l.length ≤ 100000) : Tot (fun σ => F_Z5 (σ 0) l) (fun r => ∃ x, r = ((x, ()), ()) ∧ RecP l x) := by
  refine tot_Z5 ?_
  unfold B_Z5
  refine (i_recovered_tot hl).bind ?_
  rintro r ⟨h1, h2⟩
  by_cases h : okBytes 2000 l ∧ (unfr l).1.length ≤ 1000
  · rw [h1 h]
    simp only [tot_cond, tot_some, Bool.not_true, Bool.false_eq_true, false_implies, true_and, forall_const]
    exact ⟨_, rfl, fun _ => rfl, fun h' => absurd h h'⟩
  · rw [h2 h]
    simp only [tot_cond, tot_some, Bool.not_false, Bool.true_eq_false, false_implies, and_true, forall_const]
    exact ⟨_, rfl, fun h' => absurd h' h, fun _ => rfl⟩
end Go.Gx

/-
  Laws, part ST3: StreamBytes of both sides.
-/
set_option linter.unusedVariables false
set_option linter.unusedSimpArgs false
namespace Go.Gx
theorem drop_consP {ops : List POp} {j : Nat} (h : j < ops.length) : ops.drop j = ops.getD j (0, 0) :: ops.drop (j + 1) := by
  rw [List.drop_eq_getElem_cons h, getD_at h]
/-- In the midst of the parts. -/
structure Pr1 (ops : List POp) (out : List (List POp)) (part : List POp) (j : Nat) : Prop where
  le : j ≤ ops.length
  ol : out.length ≤ j
  pl : part.length ≤ j
  eq : parts [] ops = out ++ parts part (ops.drop j)
theorem Pr1.new (ops : List POp) : Pr1 ops [] [] 0 := ⟨by omega, by simp, by simp, by simp⟩
theorem Pr1.stop {ops : List POp} {out : List (List POp)} {part : List POp} {j : Nat} (h : Pr1 ops out part j) (hj : j < ops.length) (h19 : (ops.getD j (0, 0)).1 = 19) : Pr1 ops (out ++ [part ++ [ops.getD j (0, 0)]]) [] (j + 1) := by
  have h1 := h.eq; have h2 := h.ol
  rw [drop_consP hj] at h1
  conv at h1 => rhs; rw [parts]
  rw [if_pos h19] at h1
  exact ⟨by omega, by simp; omega, by simp, by rw [List.append_assoc]; exact h1⟩
theorem Pr1.next {ops : List POp} {out : List (List POp)} {part : List POp} {j : Nat} (h : Pr1 ops out part j) (hj : j < ops.length) (h19 : (ops.getD j (0, 0)).1 ≠ 19) : Pr1 ops out (part ++ [ops.getD j (0, 0)]) (j + 1) := by
  have h1 := h.eq; have h2 := h.ol; have h3 := h.pl
  rw [drop_consP hj] at h1
  conv at h1 => rhs; rw [parts]
  rw [if_neg h19] at h1
  exact ⟨by omega, by omega, by simp; omega, h1⟩
theorem Pr1.end {ops : List POp} {out : List (List POp)} {part : List POp} {j : Nat} (h : Pr1 ops out part j) (hj : ops.length ≤ j) : parts [] ops = if part = [] then out else out ++ [part] := by
  have h1 := h.eq
  rw [List.drop_eq_nil_of_le hj] at h1
  rw [h1]
  unfold parts
  split <;> simp_all
theorem eta2 (o : POp) : (o.1, o.2) = o := rfl
theorem i_SplitStops_tot {ops : List POp} (hok : okOps ops = true) : Tot (fun σ => F_Z16 (σ 0) ops) (fun r => r = ((parts [] ops, ()), ())) := by
  refine tot_Z16 ?_
  unfold B_Z16
  have h3 := (okOps_all hok).2
  refine (i_ValidOps_tot (by omega)).bind ?_
  rintro _ rfl
  rw [hok]
  simp only [tot_cond, Bool.not_true, Bool.false_eq_true, false_implies, true_and, forall_const]
  have key := loop_Z16_L1 (Q := fun _ _ _ _ _ r => r = ((parts [] ops, ()), ())) (I := fun out part t n i => t = ops ∧ n = (ops.length : Int) ∧ ∃ j : Nat, i = j ∧ Pr1 ops out part j) (μ := fun _ _ _ _ i => ops.length - i.toNat) ?_
  · exact key [] [] ops _ 0 ⟨rfl, rfl, 0, rfl, Pr1.new ops⟩
  intro out part t n i ⟨e1, e2, j, e3, hP⟩ again hag ih
  subst e1 e2 e3
  have hle := hP.le; have hol := hP.ol; have hpl := hP.pl
  unfold B_Z16_L1b B_Z16_J0
  have hrd : rdx ((0 : Int), (0 : Int)) t (j : Int) = t.getD j (0, 0) := by rw [rdx_eq, Int.toNat_natCast]
  simp only [hrd, eta2, tot_cond, tot_chk, tot_jn, tot_some, decide_eq_true_eq, decide_eq_false_iff_not, inb_iff, room_iff, beq_iff_eq, beq_eq_false_iff_ne, ne_eq, List.length_cons, List.length_nil, len]
  have hw : w64 ((j : Int) + 1) = ((j + 1 : Nat) : Int) := w64_succ (by omega) (by omega)
  rw [hw]
  refine ⟨fun hlt => ⟨by omega, by omega, fun h19 => (clip_tot (by simp; omega)).bind ?_, fun h19 => ih _ _ _ _ _ ⟨rfl, rfl, j + 1, rfl, hP.next (by omega) h19⟩ (by simp; omega)⟩, fun hge => ⟨fun hpos => (clip_tot (by omega)).bind ?_, fun h0 => ?_⟩⟩
  · rintro _ rfl
    simp only [hw, tot_chk, tot_jn, room_iff, List.length_cons, List.length_nil]
    exact ⟨by omega, ih _ _ _ _ _ ⟨rfl, rfl, j + 1, rfl, hP.stop (by omega) h19⟩ (by simp; omega)⟩
  · rintro _ rfl
    simp only [tot_chk, tot_some, room_iff, List.length_cons, List.length_nil]
    refine ⟨by omega, ?_⟩
    rw [hP.end (by omega), if_neg (fun h => by rw [h] at hpos; simp at hpos)]
  · rw [hP.end (by omega), if_pos (List.length_eq_zero_iff.1 (by omega))]
theorem s_SplitStops_tot {ops : List POp} (hok : okOps ops = true) : Tot (fun σ => F_Z18 (σ 0) ops) (fun r => r = ((parts [] ops, ()), ())) := by
  refine tot_Z18 ?_
  unfold B_Z18
  have h3 := (okOps_all hok).2
  refine (validOps_tot (by omega)).bind ?_
  rintro _ rfl
  rw [hok]
  simp only [tot_cond, Bool.not_true, Bool.false_eq_true, false_implies, true_and, forall_const]
  have key := loop_Z18_L1 (Q := fun _ _ _ _ r => r = ((parts [] ops, ()), ())) (I := fun t out part i => t = ops ∧ ∃ j : Nat, i = j ∧ Pr1 ops out part j) (μ := fun _ _ _ i => ops.length - i.toNat) ?_
  · exact key ops [] [] 0 ⟨rfl, 0, rfl, Pr1.new ops⟩
  intro t out part i ⟨e1, j, e3, hP⟩ again hag ih
  subst e1 e3
  have hle := hP.le; have hol := hP.ol; have hpl := hP.pl
  unfold B_Z18_L1b B_Z18_J0
  have hrd : rdx ((0 : Int), (0 : Int)) t (j : Int) = t.getD j (0, 0) := by rw [rdx_eq, Int.toNat_natCast]
  simp only [hrd, eta2, tot_cond, tot_chk, tot_jn, tot_some, decide_eq_true_eq, decide_eq_false_iff_not, inb_iff, room_iff, beq_iff_eq, beq_eq_false_iff_ne, ne_eq, List.length_cons, List.length_nil, len]
  rw [w64_succ (by omega) (by omega)]
  refine ⟨fun hlt => ⟨by omega, by omega, by omega, fun h19 => ⟨by omega, ih _ _ _ _ ⟨rfl, j + 1, rfl, hP.stop (by omega) h19⟩ (by simp; omega)⟩, fun h19 => ih _ _ _ _ ⟨rfl, j + 1, rfl, hP.next (by omega) h19⟩ (by simp; omega)⟩, fun hge => ⟨fun hpos => ⟨by omega, ?_⟩, fun h0 => ?_⟩⟩
  · rw [hP.end (by omega), if_neg (fun h => by rw [h] at hpos; simp at hpos)]
  · rw [hP.end (by omega), if_pos (List.length_eq_zero_iff.1 (by omega))]
theorem i_FrameBytes_tot {l : List Int} (hok : okBytes 1000 l) {m : Nat} (h1 : 1 ≤ m) (h2 : m ≤ 200) : Tot (fun σ => F_Z19 (σ 0) l (m : Int)) (fun r => r = ((framed m l, ()), ())) := by
  refine tot_Z19 ?_
  unfold B_Z19 B_Z19_J0
  have hl := hok.1
  refine (i_bytesOk_tot (by omega) 1000).bind ?_
  rintro _ ⟨b, rfl, hb⟩
  have hb2 := hb.2 hok
  subst hb2
  simp only [tot_cond, tot_jn, tot_some, Bool.not_true, decide_eq_true_eq, decide_eq_false_iff_not, Bool.false_eq_true, Bool.true_eq_false, false_implies, true_and, and_true, forall_const]
  refine ⟨fun h => by omega, fun _ => ⟨fun h => by omega, fun _ => ?_⟩⟩
  have key := loop_Z19_L1 (Q := fun _ _ _ r => r = ((framed m l, ()), ())) (I := fun m' out rest => m' = (m : Int) ∧ framed m l = out ++ framed m rest ∧ rest.length ≤ 1000 ∧ out.length + 2 * rest.length ≤ 2000) (μ := fun _ _ rest => rest.length) ?_
  · exact key _ [] l ⟨rfl, rfl, hl, by simp; omega⟩
  intro m' out rest ⟨e1, e2, hr, ho⟩ again hag ih
  subst e1
  unfold B_Z19_L1b
  have hmin : (if len rest < (m : Int) then len rest else (m : Int)) = ((min m rest.length : Nat) : Int) := by
    simp only [len]; split <;> omega
  simp only [hmin, tot_cond, tot_chk, tot_some, decide_eq_true_eq, decide_eq_false_iff_not, cutb_iff, room_iff, List.length_cons, List.length_nil, len]
  refine ⟨fun hpos => ?_, fun h0 => ?_⟩
  · have hs1 : sub rest 0 ((min m rest.length : Nat) : Int) = rest.take m := by
      unfold sub
      simp only [Int.toNat_natCast, Int.toNat_zero, List.drop_zero]
      by_cases hm : m ≤ rest.length
      · rw [Nat.min_eq_left hm]
      · rw [Nat.min_eq_right (by omega), List.take_of_length_le (Nat.le_refl _), List.take_of_length_le (by omega)]
    have hs2 : sub rest ((min m rest.length : Nat) : Int) (rest.length : Int) = rest.drop m := by
      unfold sub
      simp only [Int.toNat_natCast, List.take_length]
      by_cases hm : m ≤ rest.length
      · rw [Nat.min_eq_left hm]
      · rw [Nat.min_eq_right (by omega), List.drop_eq_nil_of_le (Nat.le_refl _), List.drop_eq_nil_of_le (by omega)]
    rw [hs1, hs2]
    have hne : rest ≠ [] := fun h => by rw [h] at hpos; simp at hpos
    refine ⟨by omega, by omega, by simp only [List.length_append, List.length_cons, List.length_nil, List.length_take]; omega, by omega, ih _ _ _ ⟨rfl, ?_, by simp only [List.length_drop]; omega, by simp only [List.length_append, List.length_cons, List.length_nil, List.length_take, List.length_drop]; omega⟩ (by simp only [List.length_drop]; omega)⟩
    rw [e2, framed_step h1 hne]
    simp
  · rw [e2, List.length_eq_zero_iff.1 (show rest.length = 0 by omega)]
    simp [framed, frm]
theorem s_FrameBytes_tot {l : List Int} (hok : okBytes 1000 l) {m : Nat} (h1 : 1 ≤ m) (h2 : m ≤ 200) : Tot (fun σ => F_Z20 (σ 0) l (m : Int)) (fun r => r = ((framed m l, ()), ())) := by
  refine tot_Z20 ?_
  unfold B_Z20 B_Z20_J0
  have hl := hok.1
  refine (s_validBytes_tot (by omega)).bind ?_
  rintro _ ⟨b, rfl, hb⟩
  have hb2 := hb.2 hok
  subst hb2
  simp only [tot_cond, tot_jn, tot_some, Bool.not_true, Bool.false_eq_true, Bool.true_eq_false, false_implies, true_and, and_true, forall_const]
  refine (inRange_tot' (m : Int) 1 200).bind ?_
  rintro _ rfl
  simp only [tot_cond, tot_jn, tot_some, Bool.not_eq_true', Bool.not_eq_false', decide_eq_true_eq, decide_eq_false_iff_not]
  refine ⟨fun h => absurd ⟨by omega, by omega⟩ h, fun _ => ?_⟩
  have key := loop_Z20_L1 (Q := fun _ _ _ _ r => r = ((framed m l, ()), ())) (I := fun l' m' out i => l' = l ∧ m' = (m : Int) ∧ ∃ j : Nat, i = j ∧ framed m l = out ++ framed m (l.drop j) ∧ j ≤ 1200 ∧ out.length + 2 * (l.drop j).length ≤ 2000) (μ := fun _ _ _ i => l.length - i.toNat) ?_
  · exact key l _ [] 0 ⟨rfl, rfl, 0, rfl, rfl, by omega, by simp; omega⟩
  intro l' m' out i ⟨e1, e2, j, e3, e4, hj, ho⟩ again hag ih
  subst e1 e2 e3
  unfold B_Z20_L1b
  simp only [tot_cond, tot_chk, tot_some, decide_eq_true_eq, decide_eq_false_iff_not, cutb_iff, room_iff, List.length_cons, List.length_nil, len]
  refine ⟨fun hlt => ?_, fun hge => ?_⟩
  · have hw1 : w64 ((l'.length : Int) - (j : Int)) = ((l'.length - j : Nat) : Int) := by rw [w64_id (by omega) (by omega)]; omega
    have hmin : (if ((l'.length - j : Nat) : Int) < (m : Int) then ((l'.length - j : Nat) : Int) else (m : Int)) = ((min m (l'.length - j) : Nat) : Int) := by
      split <;> omega
    have hw2 : w64 ((j : Int) + ((min m (l'.length - j) : Nat) : Int)) = ((j + min m (l'.length - j) : Nat) : Int) := by rw [w64_id (by omega) (by omega)]; omega
    have hw3 : w64 ((j : Int) + (m : Int)) = ((j + m : Nat) : Int) := by rw [w64_id (by omega) (by omega)]; omega
    rw [hw1, hmin, hw2, hw3, subN (by omega)]
    have hdl : (l'.drop j).length = l'.length - j := List.length_drop
    have hs1 : (l'.drop j).take (j + min m (l'.length - j) - j) = (l'.drop j).take m := by
      rw [Nat.add_sub_cancel_left]
      by_cases hm : m ≤ l'.length - j
      · rw [Nat.min_eq_left hm]
      · rw [Nat.min_eq_right (by omega), List.take_of_length_le (by omega), List.take_of_length_le (by omega)]
    rw [hs1]
    have hne : l'.drop j ≠ [] := fun h => by rw [h] at hdl; simp at hdl; omega
    refine ⟨by omega, by omega, by simp only [List.length_append, List.length_cons, List.length_nil, List.length_take]; omega, ih _ _ _ _ ⟨rfl, rfl, j + m, rfl, ?_, by omega, ?_⟩ (by simp; omega)⟩
    · rw [e4, framed_step h1 hne, hdl, List.drop_drop]
      simp
    · simp only [List.length_append, List.length_cons, List.length_nil, List.length_take, List.length_drop] at ho ⊢; omega
  · rw [e4, List.drop_eq_nil_of_le (by omega)]
    simp [framed, frm]
/-- What StreamBytes answers. -/
def StrQ (ops : List POp) (most : Int) (r : (List Int × Unit) × Unit) : Prop := (okOps ops = true ∧ 1 ≤ most ∧ most ≤ 200 → r = ((stream most.toNat (parts [] ops), ()), ())) ∧ (¬ (okOps ops = true ∧ 1 ≤ most ∧ most ≤ 200) → r = (([], ()), ()))
theorem encP_okB (p : List POp) : okBytes 1000 (encP p) := ⟨by have := encP_len p; omega, encP_ok p⟩
theorem stream_small {ops : List POp} (hok : okOps ops = true) {m : Nat} (h1 : 1 ≤ m) : (stream m (parts [] ops)).length ≤ 1800 := by
  have := stream_len h1 (parts [] ops)
  rw [parts_enc hok] at this
  have := encP_len ops
  omega
theorem stream_take {m : Nat} {ps : List (List POp)} {j : Nat} (h : j < ps.length) : stream m (ps.take (j + 1)) = stream m (ps.take j) ++ framed m (encP (ps.getD j [])) := by
  unfold stream
  rw [List.take_add_one, List.getElem?_eq_getElem h, List.flatMap_append, getD_at h]
  simp
theorem getD_memP {ps : List (List POp)} {i : Nat} (h : i < ps.length) : ps.getD i [] ∈ ps := by
  rw [getD_at h]; exact List.getElem_mem h
theorem i_StreamBytes_tot {ops : List POp} (hl : ops.length ≤ 900000000000) (most : Int) : Tot (fun σ => F_Z8 (σ 0) ops most) (StrQ ops most) := by
  refine tot_Z8 ?_
  unfold B_Z8 B_Z8_J0
  refine (i_ValidOps_tot hl).bind ?_
  rintro _ rfl
  have no : ¬ (okOps ops = true ∧ 1 ≤ most ∧ most ≤ 200) → StrQ ops most (([], ()), ()) := fun h => ⟨fun h' => absurd h' h, fun _ => rfl⟩
  simp only [tot_cond, tot_jn, tot_some, Bool.not_eq_true', Bool.not_eq_false', decide_eq_true_eq, decide_eq_false_iff_not, Bool.true_eq_false, false_implies, and_true, forall_const]
  refine ⟨fun h => no fun h' => (by rw [h'.1] at h; cases h), fun hok => ⟨fun h => no fun h' => (by omega), fun hm1 => ⟨fun h => no fun h' => (by omega), fun hm2 => (i_SplitStops_tot hok).bind ?_⟩⟩⟩
  rintro _ rfl
  refine Tot.mono (Q := fun r => r = ((stream most.toNat (parts [] ops), ()), ())) ?_ fun r hr => ⟨fun _ => hr, fun h => absurd ⟨hok, by omega, by omega⟩ h⟩
  obtain ⟨m, rfl⟩ := Int.eq_ofNat_of_zero_le (show 0 ≤ most by omega)
  have hpl := parts_len ops []
  have h3 := (okOps_all hok).2
  generalize hps : parts [] ops = ps at hpl
  have hsm : (stream m ps).length ≤ 1800 := by rw [← hps]; exact stream_small hok (by omega)
  have hpre : ∀ j, (stream m (ps.take j)).length ≤ 1800 := fun j => by
    have : stream m ps = stream m (ps.take j) ++ stream m (ps.drop j) := by unfold stream; rw [← List.flatMap_append, List.take_append_drop]
    rw [this, List.length_append] at hsm; omega
  have key := loop_Z8_L1 (Q := fun _ _ _ _ _ r => r = ((stream m ps, ()), ())) (I := fun m' out t n i => m' = (m : Int) ∧ t = ps ∧ n = (ps.length : Int) ∧ ∃ j : Nat, i = j ∧ j ≤ ps.length ∧ out = stream m (ps.take j)) (μ := fun _ _ _ _ i => ps.length - i.toNat) ?_
  · exact key _ [] ps _ 0 ⟨rfl, rfl, rfl, 0, rfl, by omega, by simp [stream]⟩
  intro m' out t n i ⟨e1, e2, e3, j, e4, hj, e5⟩ again hag ih
  subst e1 e2 e3 e4
  unfold B_Z8_L1b
  have hpj := hpre j
  simp only [tot_cond, tot_chk, tot_some, decide_eq_true_eq, decide_eq_false_iff_not, inb_iff, len, Int.toNat_natCast]
  refine ⟨fun hlt => ⟨by omega, by omega, (i_EncodeOps_tot ?_).bind ?_⟩, fun hge => ?_⟩
  · have hm := getD_memP (ps := t) (show j < t.length by omega)
    have h1 := (List.sublist_flatten_of_mem hm).length_le
    have h2 : t.flatten = ops := by rw [← hps, parts_flat]; rfl
    rw [h2] at h1; omega
  · rintro _ rfl
    refine (i_FrameBytes_tot (encP_okB _) (by omega) (by omega)).bind ?_
    rintro _ rfl
    have hpj1 := hpre (j + 1)
    rw [stream_take (show j < t.length by omega), List.length_append] at hpj1
    simp only [tot_chk, room_iff]
    refine ⟨by rw [e5]; omega, ?_⟩
    rw [w64_succ (by omega) (by omega)]
    exact ih _ _ _ _ _ ⟨rfl, rfl, rfl, j + 1, rfl, by omega, by rw [e5, stream_take (by omega)]⟩ (by simp; omega)
  · rw [List.take_of_length_le (by omega)] at e5
    rw [e5]
    exact ⟨fun h => by omega, fun _ => rfl⟩
theorem s_StreamBytes_tot {ops : List POp} (hl : ops.length ≤ 900000000000) (most : Int) : Tot (fun σ => F_Z9 (σ 0) ops most) (StrQ ops most) := by
  refine tot_Z9 ?_
  unfold B_Z9 B_Z9_J0
  refine (validOps_tot hl).bind ?_
  rintro _ rfl
  have no : ¬ (okOps ops = true ∧ 1 ≤ most ∧ most ≤ 200) → StrQ ops most (([], ()), ()) := fun h => ⟨fun h' => absurd h' h, fun _ => rfl⟩
  simp only [tot_cond, tot_jn, tot_some, Bool.not_eq_true', Bool.not_eq_false', decide_eq_true_eq, decide_eq_false_iff_not, Bool.true_eq_false, false_implies, and_true, forall_const]
  refine ⟨fun h => no fun h' => (by rw [h'.1] at h; cases h), fun hok => (inRange_tot' most 1 200).bind ?_⟩
  rintro _ rfl
  simp only [tot_cond, tot_jn, tot_some, Bool.not_eq_true', Bool.not_eq_false', decide_eq_true_eq, decide_eq_false_iff_not, Bool.true_eq_false, false_implies, and_true, forall_const]
  refine ⟨fun h => no fun h' => h ⟨h'.2.1, h'.2.2⟩, fun hm => (s_SplitStops_tot hok).bind ?_⟩
  rintro _ rfl
  refine Tot.mono (Q := fun r => r = ((stream most.toNat (parts [] ops), ()), ())) ?_ fun r hr => ⟨fun _ => hr, fun h => absurd ⟨hok, by omega, by omega⟩ h⟩
  obtain ⟨m, rfl⟩ := Int.eq_ofNat_of_zero_le (show 0 ≤ most by omega)
  have hpl := parts_len ops []
  have h3 := (okOps_all hok).2
  generalize hps : parts [] ops = ps at hpl
  have hsm : (stream m ps).length ≤ 1800 := by rw [← hps]; exact stream_small hok (by omega)
  have hpre : ∀ j, (stream m (ps.take j)).length ≤ 1800 := fun j => by
    have : stream m ps = stream m (ps.take j) ++ stream m (ps.drop j) := by unfold stream; rw [← List.flatMap_append, List.take_append_drop]
    rw [this, List.length_append] at hsm; omega
  have key := loop_Z9_L1 (Q := fun _ _ _ _ r => r = ((stream m ps, ()), ())) (I := fun m' out t i => m' = (m : Int) ∧ t = ps ∧ ∃ j : Nat, i = j ∧ j ≤ ps.length ∧ out = stream m (ps.take j)) (μ := fun _ _ _ i => ps.length - i.toNat) ?_
  · exact key _ [] ps 0 ⟨rfl, rfl, 0, rfl, by omega, by simp [stream]⟩
  intro m' out t i ⟨e1, e2, j, e4, hj, e5⟩ again hag ih
  subst e1 e2 e4
  unfold B_Z9_L1b
  have hpj := hpre j
  simp only [tot_cond, tot_chk, tot_some, decide_eq_true_eq, decide_eq_false_iff_not, inb_iff, len, Int.toNat_natCast]
  refine ⟨fun hlt => ⟨by omega, by omega, (EncodeOps_tot ?_).bind ?_⟩, fun hge => ?_⟩
  · have hm := getD_memP (ps := t) (show j < t.length by omega)
    have h1 := (List.sublist_flatten_of_mem hm).length_le
    have h2 : t.flatten = ops := by rw [← hps, parts_flat]; rfl
    rw [h2] at h1; omega
  · rintro _ rfl
    refine (s_FrameBytes_tot (encP_okB _) (by omega) (by omega)).bind ?_
    rintro _ rfl
    have hpj1 := hpre (j + 1)
    rw [stream_take (show j < t.length by omega), List.length_append] at hpj1
    simp only [tot_chk, room_iff]
    refine ⟨by rw [e5]; omega, ?_⟩
    rw [w64_succ (by omega) (by omega)]
    exact ih _ _ _ _ ⟨rfl, rfl, j + 1, rfl, by omega, by rw [e5, stream_take (by omega)]⟩ (by simp; omega)
  · rw [List.take_of_length_le (by omega)] at e5
    rw [e5]
    exact ⟨fun h => by omega, fun _ => rfl⟩
end Go.Gx

/-
  Laws, part 17g: graphs that are drawn and need not be valid.
-/
set_option linter.unusedVariables false
set_option linter.unusedSimpArgs false
namespace Go.Gx
theorem getD_memG {α : Type} {xs : List α} {i : Nat} {d : α} (h : i < xs.length) : xs.getD i d ∈ xs := by
  rw [List.getD_eq_getElem?_getD, List.getElem?_eq_getElem h]
  exact List.getElem_mem h
/-- A graph that need not be valid: small all the same. -/
structure SmallG (g : List PNode) : Prop where
  pos : 1 ≤ g.length
  most : g.length ≤ 12
  kids : ∀ n ∈ g, n.2.2.length ≤ 1000
theorem ValidG.small {g : List PNode} {root : Int} (h : ValidG g root) : SmallG g := ⟨h.pos, h.most, fun n hn => by have := (h.node n hn).1; omega⟩
theorem anyGraph_tot {b : List Int} {p : Int} (h : RD b p) (hp : p ≤ 600000000) : Tot (fun σ => F_Z41 (σ 0) b p) (Drawn b p 500 fun x => ∃ (g : List PNode) (root : Int), x = ((g, root, ()), ()) ∧ SmallG g) := by
  refine tot_Z41 ?_
  unfold B_Z41
  refine (someGraph_tot h (by omega)).bind ?_
  rintro _ ⟨_, q, rfl, h1, h2, g, root, rfl, hv⟩
  have hq := h.next h1 (by omega)
  have hpos := hv.pos; have hmost := hv.most
  simp only [len]
  refine (pick_tot hq (by omega) (by omega)).bind ?_
  rintro _ ⟨_, q2, rfl, f1, f2, k, rfl, f3, f4⟩
  have f4 := f4 (by omega)
  obtain ⟨i, rfl⟩ := Int.eq_ofNat_of_zero_le f3
  have hil : i < g.length := by omega
  have hq2 := hq.next f1 (by omega)
  refine (pick_tot hq2 (by omega) (by omega)).bind ?_
  rintro _ ⟨_, q3, rfl, k1, k2, v, rfl, _⟩
  have hq3 := hq2.next k1 (by omega)
  have hkn := (hv.node _ (getD_memG (xs := g) (d := ((0 : Int), ((0 : Int), ([] : List Int)))) hil)).1
  have fin : ∀ (q4 : Int) (g2 : List PNode) (r2 : Int), q3 ≤ q4 → q4 ≤ q3 + 1 → SmallG g2 → Tot (fun σ => B_Z41_J0 (σ 0) (F_Z36 (σ 0)) (F_Z10 (σ 0)) (F_Z14 (σ 0)) b q4 0 g2 r2) (Drawn b p 500 fun x => ∃ (g : List PNode) (root : Int), x = ((g, root, ()), ()) ∧ SmallG g) := by
    intro q4 g2 r2 m1 m2 hs
    unfold B_Z41_J0
    rw [tot_some]
    exact ⟨_, q4, rfl, by omega, by omega, g2, r2, rfl, hs⟩
  have hset : ∀ n : PNode, n.2.2.length ≤ 1000 → SmallG (g.set i n) := fun n hn => ⟨by rw [List.length_set]; exact hpos, by rw [List.length_set]; exact hmost, fun m hm => by
    rcases List.mem_or_eq_of_mem_set hm with hm | rfl
    · exact hv.small.kids m hm
    · exact hn⟩
  simp only [tot_cond]
  refine ⟨fun _ => ?_, fun _ => ⟨fun _ => ?_, fun _ => ⟨fun _ => ?_, fun _ => ⟨fun _ => ?_, fun _ => ?_⟩⟩⟩⟩
  · simp only [tot_chk, inb_iff, decide_eq_true_eq, Int.toNat_natCast]
    refine ⟨by omega, hil, (one_tot hq3 (by omega) (by simp) (by simp)).bind ?_⟩
    rintro _ ⟨_, q4, rfl, m1, m2, u, rfl, _⟩
    simp only [tot_chk, tot_jn, inb_iff, decide_eq_true_eq, Int.toNat_natCast, room_iff, List.length_cons, List.length_nil]
    refine ⟨by omega, by omega, trivial, fin q4 _ _ m1 (by omega) (hset _ ?_)⟩
    simp only [List.length_append, List.length_cons, List.length_nil]; omega
  · refine (one_tot hq3 (by omega) (by simp) (by simp)).bind ?_
    rintro _ ⟨_, q4, rfl, m1, m2, u, rfl, _⟩
    simp only [tot_chk, tot_jn, inb_iff, decide_eq_true_eq, Int.toNat_natCast]
    exact ⟨by omega, hil, fin q4 _ _ m1 (by omega) (hset _ (by simp only; omega))⟩
  · simp only [tot_chk, tot_jn, inb_iff, decide_eq_true_eq, Int.toNat_natCast]
    exact ⟨by omega, hil, fin q3 _ _ (by omega) (by omega) (hset _ (by simp))⟩
  · refine (one_tot hq3 (by omega) (by simp) (by simp)).bind ?_
    rintro _ ⟨_, q4, rfl, m1, m2, u, rfl, _⟩
    rw [tot_jn]
    exact fin q4 _ _ m1 (by omega) hv.small
  · rw [tot_jn]
    exact fin q3 _ _ (by omega) (by omega) hv.small
end Go.Gx

/-
  Laws, part 17: programs of several roots that are drawn.
-/
set_option linter.unusedVariables false
set_option linter.unusedSimpArgs false
namespace Go.Gx
theorem rootsOf_tot {b : List Int} {p : Int} (h : RD b p) (hp : p ≤ 500000000) : Tot (fun σ => F_Z58 (σ 0) b p) (Drawn b p 600 fun x => ∃ (g : List PNode) (root : Int) (rs : List Int), x = ((g, root, ()), rs, ()) ∧ SmallG g ∧ rs.length ≤ 5) := by
  refine tot_Z58 ?_
  unfold B_Z58
  refine (anyGraph_tot h (by omega)).bind ?_
  rintro _ ⟨_, q, rfl, h1, h2, g, root, rfl, hs⟩
  have hq := h.next h1 (by omega)
  have hpos := hs.pos; have hmost := hs.most
  refine (one_tot hq (by omega) (by simp) (by simp)).bind ?_
  rintro _ ⟨_, q1, rfl, g1, g2, n, rfl, hnm⟩
  have hnn : 0 ≤ n ∧ n ≤ 5 := by
    simp only [List.mem_cons, List.not_mem_nil, or_false] at hnm
    omega
  have key := loop_Z58_L0 (Q := fun _ _ _ _ _ _ _ r => Drawn b p 600 (fun x => ∃ (g : List PNode) (root : Int) (rs : List Int), x = ((g, root, ()), rs, ()) ∧ SmallG g ∧ rs.length ≤ 5) r)
    (I := fun b' q' t g' r' o m => b' = b ∧ g' = g ∧ r' = root ∧ p ≤ q' ∧ q' + m ≤ p + 510 ∧ 0 ≤ m ∧ (o.length : Int) + m ≤ 5) (μ := fun _ _ _ _ _ _ m => m.toNat) ?_
  · exact key b q1 0 g root [] n ⟨rfl, rfl, rfl, by omega, by omega, hnn.1, by simp; omega⟩
  rintro b q' t g root o m ⟨rfl, rfl, rfl, a1, a2, a3, a4⟩ again hag ih
  have hr := h.next a1 (by omega)
  unfold B_Z58_L0b
  rw [tot_cond]
  simp only [decide_eq_true_eq, decide_eq_false_iff_not, len]
  refine ⟨fun hm => ?_, fun hm => ?_⟩
  · refine (pick_tot hr (by omega) (by omega)).bind ?_
    rintro _ ⟨_, q2, rfl, f1, f2, v, rfl, _⟩
    rw [tot_chk]
    refine ⟨room_iff.2 (by simp only [List.length_cons, List.length_nil]; omega), ?_⟩
    rw [show w64 (m - 1) = m - 1 from w64_id (by omega) (by omega)]
    exact ih b q2 t g root (o ++ [v]) (m - 1) ⟨rfl, rfl, rfl, by omega, by omega, by omega, by simp only [List.length_append, List.length_cons, List.length_nil]; omega⟩ (by omega)
  · have fin : ∀ (q4 : Int) (rs : List Int), p ≤ q4 → q4 ≤ p + 600 → rs.length ≤ 5 → Tot (fun σ => B_Z58_J2 (σ 0) (F_Z41 (σ 0)) (F_Z14 (σ 0)) (F_Z10 (σ 0)) b q4 t g root rs) (Drawn b p 600 fun x => ∃ (g : List PNode) (root : Int) (rs : List Int), x = ((g, root, ()), rs, ()) ∧ SmallG g ∧ rs.length ≤ 5) := by
      intro q4 rs m1 m2 m3
      unfold B_Z58_J2
      rw [tot_some]
      exact ⟨_, q4, rfl, m1, m2, g, root, rs, rfl, hs, m3⟩
    have hol : o.length ≤ 5 := by omega
    rw [tot_cond]
    simp only [decide_eq_true_eq, decide_eq_false_iff_not]
    refine ⟨fun hlt => ?_, fun _ => ?_⟩
    · refine (pick_tot hr (by omega) (by omega)).bind ?_
      rintro _ ⟨_, q2, rfl, f1, f2, v, rfl, _⟩
      rw [tot_jn]
      unfold B_Z58_J1
      rw [tot_cond]
      refine ⟨fun _ => ?_, fun _ => by rw [tot_jn]; exact fin q2 o (by omega) (by omega) hol⟩
      refine (one_tot (hr.next f1 (by omega)) (by omega) (by simp) (by simp)).bind ?_
      rintro _ ⟨_, q3, rfl, m1, m2, u, rfl, _⟩
      simp only [tot_chk, tot_jn, inb_iff, decide_eq_true_eq]
      exact ⟨by omega, by simp; omega, fin q3 _ (by omega) (by omega) (by rw [List.length_set]; exact hol)⟩
    · rw [tot_jn]
      unfold B_Z58_J1
      rw [tot_cond]
      exact ⟨fun h0 => Bool.noConfusion h0, fun _ => by rw [tot_jn]; exact fin q' o (by omega) (by omega) hol⟩
theorem validRoots_tot {g : List PNode} {root : Int} {rs : List Int} (hs : SmallG g) (hl : rs.length ≤ 5) : Tot (fun σ => F_Z22 (σ 0) g root rs) (Says (ValidG g root ∧ ∀ x ∈ rs, 0 ≤ x ∧ x ≤ (g.length : Int) - 1)) := by
  have hmost := hs.most
  refine tot_Z22 ?_
  unfold B_Z22
  refine (validGraph_tot (by omega) (fun n hn => by have := hs.kids n hn; omega)).bind ?_
  rintro _ ⟨t, rfl, ht⟩
  rw [tot_cond]
  refine ⟨fun h1 => ?_, fun h1 => ?_⟩
  · simp only [len]
    rw [tot_cond]
    refine ⟨fun _ => ?_, fun h2 => by have := of_decide_eq_false h2; omega⟩
    rw [show w64 ((g.length : Int) - 1) = (g.length : Int) - 1 from w64_id (by omega) (by omega)]
    refine (allIn_tot (by omega) _ _).bind ?_
    rintro _ ⟨t2, rfl, ht2⟩
    rw [tot_some]
    exact ⟨t2, rfl, fun h => ⟨ht.1 h1, ht2.1 h⟩, fun h => ht2.2 h.2⟩
  · rw [tot_some]
    exact says_false fun h => by rw [ht.2 h.1] at h1; cases h1
theorem writtenMany_tot {g : List PNode} {root : Int} {rs : List Int} (hv : ValidG g root) (hl : rs.length ≤ 5) (hr : ∀ x ∈ rs, 0 ≤ x ∧ x ≤ (g.length : Int) - 1) (level : Int) :
    Tot (fun σ => F_Z7 (σ 0) g root rs level) (fun r => ∃ ops : List POp, r = ((ops, ()), ()) ∧ ops.length ≤ 500000000000) := by
  have hg := hv.most
  refine tot_Z7 ?_
  unfold B_Z7
  refine (emptyMemo_tot (by omega)).bind ?_
  rintro _ rfl
  have hun := un_le g (List.replicate g.length (-1))
  have hG := GG_12
  have key := loop_Z7_L0 (Q := fun _ _ _ _ _ _ _ r => ∃ ops : List POp, r = ((ops, ()), ()) ∧ ops.length ≤ 500000000000)
    (I := fun rs' l' g' r' o m i => rs' = rs ∧ l' = level ∧ g' = g ∧ r' = root ∧ ∃ j : Nat, i = (j : Int) ∧ j ≤ rs.length ∧ m.length = g.length ∧ un g m ≤ g.length ∧ o.length + 33957804446 * un g m ≤ 6000000000 * j + 33957804446 * 12) (μ := fun _ _ _ _ _ _ i => (rs.length - i).toNat) ?_
  · exact key rs level g root [] _ 0 ⟨rfl, rfl, rfl, rfl, 0, rfl, Nat.zero_le _, by simp, hun, by simp only [List.length_nil]; omega⟩
  rintro rs level g root o m _ ⟨rfl, rfl, rfl, rfl, j, rfl, hj, hm, hu, hb⟩ again hag ih
  unfold B_Z7_L0b
  have hrd : rdx (0 : Int) rs (j : Int) = rs.getD j 0 := by rw [rdx_eq, Int.toNat_natCast]
  rw [hrd, tot_cond]
  simp only [decide_eq_true_eq, decide_eq_false_iff_not, len]
  refine ⟨fun hlt => ?_, fun hge => ?_⟩
  · have hjl : j < rs.length := by omega
    rw [tot_chk]
    refine ⟨inb_iff.2 (by omega), ?_⟩
    have hx := hr _ (getD_mem (xs := rs) (d := 0) hjl)
    obtain ⟨a, ha⟩ := Int.eq_ofNat_of_zero_le hx.1
    rw [ha] at hx ⊢
    refine (save_tot hv g.length 12 (Nat.le_refl _) a (by omega) (fun _ => Nat.le_trans (rk_le g _) hg) o _ hm hu (by omega)).bind ?_
    rintro _ ⟨o2, m2, rfl, k1, k2, k3⟩
    refine (emit_tot (by simp only [List.length_cons, List.length_nil]; omega)).bind ?_
    rintro _ rfl
    rw [w64_succ (by omega) (by omega)]
    exact ih rs level g root (o2 ++ [(19, 0)]) m2 _ ⟨rfl, rfl, rfl, rfl, j + 1, rfl, hjl, k1, by omega, by simp only [List.length_append, List.length_cons, List.length_nil]; omega⟩ (by simp; omega)
  · rw [tot_some]
    exact ⟨o, rfl, by omega⟩
theorem manyOps_tot {b : List Int} {p : Int} (h : RD b p) (hp : p ≤ 80000000) : Tot (fun σ => F_Z55 (σ 0) b p) (Drawn b p 4000 fun x => ∃ ops : List POp, x = (ops, ()) ∧ ops.length ≤ 500000000000) := by
  refine tot_Z55 ?_
  unfold B_Z55
  refine (rootsOf_tot h (by omega)).bind ?_
  rintro _ ⟨_, q, rfl, h1, h2, g, root, rs, rfl, hs, hl⟩
  have hq := h.next h1 (by omega)
  refine (validRoots_tot hs hl).bind ?_
  rintro _ ⟨t, rfl, ht⟩
  have fin : ∀ (q4 : Int) (o : List POp), p ≤ q4 → q4 ≤ p + 4000 → o.length ≤ 500000000000 → Drawn b p 4000 (fun x => ∃ ops : List POp, x = (ops, ()) ∧ ops.length ≤ 500000000000) ((o, ()), ((b, q4, ()), ())) := fun q4 o m1 m2 m3 => ⟨_, q4, rfl, m1, m2, o, rfl, m3⟩
  have j3 : ∀ (q4 : Int) (o : List POp) (t : Bool), (t = true → 0 < o.length) → p ≤ q4 → q4 ≤ p + 3900 → o.length ≤ 500000000000 → Tot (fun σ => B_Z55_J3 (σ 0) (F_Z58 (σ 0)) (F_Z22 (σ 0)) (F_Z10 (σ 0)) (F_Z46 (σ 0)) (F_Z7 (σ 0)) (F_s_someOp (σ 0)) b q4 o t) (Drawn b p 4000 fun x => ∃ ops : List POp, x = (ops, ()) ∧ ops.length ≤ 500000000000) := by
    intro q4 o t ht m1 m2 m3
    have hr := h.next m1 (by omega)
    unfold B_Z55_J3
    rw [tot_cond]
    refine ⟨fun h0 => ?_, fun _ => by rw [tot_some]; exact fin q4 o m1 (by omega) m3⟩
    have hpos := ht h0
    simp only [len]
    refine (pick_tot hr (by omega) (by omega)).bind ?_
    rintro _ ⟨_, q5, rfl, f1, f2, v, rfl, f3, f4⟩
    have f4 := f4 (by omega)
    refine (someOp_tot (hr.next f1 (by omega)) (by omega)).bind ?_
    rintro _ ⟨_, q6, rfl, e1, e2, c, a, rfl, _⟩
    simp only [tot_chk, tot_some, inb_iff, decide_eq_true_eq]
    exact ⟨by omega, by omega, fin q6 _ (by omega) (by omega) (by rw [List.length_set]; exact m3)⟩
  have j2 : ∀ (q4 : Int) (o : List POp), p ≤ q4 → q4 ≤ p + 3800 → o.length ≤ 500000000000 → Tot (fun σ => B_Z55_J2 (σ 0) (F_Z58 (σ 0)) (F_Z22 (σ 0)) (F_Z10 (σ 0)) (F_Z46 (σ 0)) (F_Z7 (σ 0)) (F_s_someOp (σ 0)) b q4 o) (Drawn b p 4000 fun x => ∃ ops : List POp, x = (ops, ()) ∧ ops.length ≤ 500000000000) := by
    intro q4 o m1 m2 m3
    have hr := h.next m1 (by omega)
    unfold B_Z55_J2
    rw [tot_cond]
    simp only [decide_eq_true_eq, decide_eq_false_iff_not, len]
    refine ⟨fun hlt => ?_, fun _ => by rw [tot_jn]; exact j3 q4 o false (fun h => by cases h) m1 (by omega) m3⟩
    refine (pick_tot hr (by omega) (by omega)).bind ?_
    rintro _ ⟨_, q5, rfl, f1, f2, v, rfl, f3, f4⟩
    rw [tot_jn]
    exact j3 q5 o _ (fun _ => by omega) (by omega) (by omega) m3
  have j1 : ∀ (q4 : Int) (o : List POp) (t : Bool), (t = true → 0 < o.length) → p ≤ q4 → q4 ≤ p + 3700 → o.length ≤ 500000000000 → Tot (fun σ => B_Z55_J1 (σ 0) (F_Z58 (σ 0)) (F_Z22 (σ 0)) (F_Z10 (σ 0)) (F_Z46 (σ 0)) (F_Z7 (σ 0)) (F_s_someOp (σ 0)) b q4 o t) (Drawn b p 4000 fun x => ∃ ops : List POp, x = (ops, ()) ∧ ops.length ≤ 500000000000) := by
    intro q4 o t ht m1 m2 m3
    have hr := h.next m1 (by omega)
    unfold B_Z55_J1
    rw [tot_cond]
    refine ⟨fun h0 => ?_, fun _ => by rw [tot_jn]; exact j2 q4 o m1 (by omega) m3⟩
    have hpos := ht h0
    simp only [len]
    refine (pick_tot hr (by omega) (by omega)).bind ?_
    rintro _ ⟨_, q5, rfl, f1, f2, v, rfl, f3, f4⟩
    have f4 := f4 (by omega)
    simp only [tot_chk, cutb_iff, tot_jn]
    refine ⟨⟨by omega, by omega, by omega⟩, ?_⟩
    exact j2 q5 _ (by omega) (by omega) (by rw [List.length_take]; omega)
  have j0 : ∀ (q4 : Int) (t : Bool), (t = false → ValidG g root ∧ ∀ x ∈ rs, 0 ≤ x ∧ x ≤ (g.length : Int) - 1) → p ≤ q4 → q4 ≤ p + 1000 → Tot (fun σ => B_Z55_J0 (σ 0) (F_Z58 (σ 0)) (F_Z22 (σ 0)) (F_Z10 (σ 0)) (F_Z46 (σ 0)) (F_Z7 (σ 0)) (F_s_someOp (σ 0)) b q4 g root rs t) (Drawn b p 4000 fun x => ∃ ops : List POp, x = (ops, ()) ∧ ops.length ≤ 500000000000) := by
    intro q4 t ht m1 m2
    have hr := h.next m1 (by omega)
    unfold B_Z55_J0
    rw [tot_cond]
    refine ⟨fun _ => ?_, fun h0 => ?_⟩
    · refine (someOps_tot hr (by omega)).bind ?_
      rintro _ ⟨_, q5, rfl, f1, f2, ops, rfl, hol⟩
      rw [tot_some]
      exact fin q5 ops (by omega) (by omega) hol
    · obtain ⟨hv, hrs⟩ := ht h0
      refine (pick_tot hr (by omega) (by omega)).bind ?_
      rintro _ ⟨_, q5, rfl, f1, f2, v, rfl, f3, f4⟩
      refine (writtenMany_tot hv hl hrs v).bind ?_
      rintro _ ⟨ops, rfl, hol⟩
      rw [tot_cond]
      simp only [decide_eq_true_eq, decide_eq_false_iff_not, len]
      refine ⟨fun hlt => ?_, fun _ => by rw [tot_jn]; exact j1 q5 ops false (fun h => by cases h) (by omega) (by omega) hol⟩
      refine (pick_tot (hr.next f1 (by omega)) (by omega) (by omega)).bind ?_
      rintro _ ⟨_, q6, rfl, e1, e2, v2, rfl, _⟩
      rw [tot_jn]
      exact j1 q6 ops _ (fun _ => by omega) (by omega) (by omega) hol
  rw [tot_cond]
  refine ⟨fun _ => by rw [tot_jn]; exact j0 q true (fun h => by cases h) h1 (by omega), fun h0 => ?_⟩
  have ht2 : t = true := by simpa using h0
  refine (pick_tot hq (by omega) (by omega)).bind ?_
  rintro _ ⟨_, q5, rfl, f1, f2, v, rfl, _⟩
  rw [tot_jn]
  exact j0 q5 _ (fun _ => ht.1 ht2) (by omega) (by omega)
end Go.Gx

/-
  The plain law of FnStreamBytes.
-/
set_option linter.unusedVariables false
set_option linter.unusedSimpArgs false
namespace Go.Gx
theorem DrawStreamBytes_tot {code : List Int} (hc : ∀ z ∈ code, 0 ≤ z ∧ z ≤ 255) (hl : code.length ≤ 1048576) : Tot (fun σ => F_Z3 (σ 0) code) (fun r => ∃ (ops : List POp) (m : Int), r = ((ops, m, ()), ()) ∧ ops.length ≤ 500000000000) := by
  refine tot_Z3 ?_
  unfold B_Z3
  refine (newReader_tot hc hl).bind ?_
  rintro _ ⟨b, rfl, hb⟩
  refine (manyOps_tot hb (by omega)).bind ?_
  rintro _ ⟨_, q, rfl, hq1, hq2, ops, rfl, hl⟩
  refine (one_tot (hb.next hq1 (by omega)) (by omega) (by simp) (by simp)).bind ?_
  rintro _ ⟨_, q2, rfl, _, _, m, rfl, _⟩
  rw [tot_some]
  exact ⟨ops, m, rfl, hl⟩
theorem p_Z4 (code : List Int) (hc : ∀ z ∈ code, 0 ≤ z ∧ z ≤ 255) : ∃ k, F_Z4 k code = some ((true, ()), ()) := by
  refine Tot.ex (F := fun k => F_Z4 k code) ?_
  refine tot_Z4 ?_
  unfold B_Z4 B_Z4_J0
  simp only [tot_cond, tot_some, decide_eq_true_eq, decide_eq_false_iff_not, len]
  refine ⟨fun _ => trivial, fun hl => ?_⟩
  refine (DrawStreamBytes_tot hc (by omega)).bind ?_
  rintro _ ⟨ops, most, rfl, hll⟩
  refine (i_StreamBytes_tot (by first | omega | (simp only []; omega)) most).bind ?_
  rintro r1 hr1
  refine (s_StreamBytes_tot (by first | omega | (simp only []; omega)) most).bind ?_
  rintro r2 hr2
  by_cases h : okOps ops = true ∧ 1 ≤ most ∧ most ≤ 200
  · rw [hr1.1 h, hr2.1 h]
    obtain ⟨hok, h1, h2⟩ := h
    obtain ⟨m, rfl⟩ := Int.eq_ofNat_of_zero_le (show 0 ≤ most by omega)
    rw [Int.toNat_natCast]
    have hsm := stream_small hok (m := m) (by omega)
    have hall := okOps_all hok
    have henc := encP_len ops
    have eq1 : Tot (fun σ => F_Z32 (σ 0) (stream m (parts [] ops)) (stream m (parts [] ops))) (fun r => r = ((true, ()), ())) := (equalInts_tot (by omega)).mono fun x hx => by
      obtain ⟨b, rfl, hb⟩ := hx
      rw [hb.2 rfl]
    refine eq1.bind ?_
    rintro _ rfl
    simp only [tot_cond, tot_jn, tot_some, Bool.not_true, beq_iff_eq, beq_eq_false_iff_ne, ne_eq, Bool.false_eq_true, Bool.true_eq_false, false_implies, true_and, and_true, forall_const]
    refine ⟨fun _ => (s_StreamBytes_tot (by omega) _).bind ?_, fun _ => ?_⟩
    · rintro r3 hr3
      rw [hr3.1 ⟨hok, h1, h2⟩, Int.toNat_natCast]
      refine eq1.bind ?_
      rintro _ rfl
      rw [tot_some]
    have hun : unfr (stream m (parts [] ops)) = (encP ops, (stream m (parts [] ops)).length) := by
      have := stream_unfr (m := m) (by omega) (by omega) (parts [] ops) []
      rw [List.append_nil, unfr_nil, List.append_nil, parts_enc hok, Nat.add_zero] at this
      exact this
    have hokB : okBytes 2000 (stream m (parts [] ops)) := ⟨by omega, stream_ok (by omega) _⟩
    have hdec : decP 300 (encP ops) = (ops, (encP ops).length) := by
      have := decP_enc 300 ops hall.1 hall.2
      unfold encP
      rw [if_pos hok]; exact this
    generalize hS : stream m (parts [] ops) = S at *
    have key := loop_Z4_L2 (Q := fun _ _ _ _ r => r = ((true, ()), ())) (I := fun o out e i => o = ops ∧ out = S ∧ ∃ j : Nat, i = j ∧ j ≤ ops.length ∧ e = (stopTo ops j : Int)) (μ := fun _ _ _ i => ops.length - i.toNat) ?_
    · exact key ops S 0 0 ⟨rfl, rfl, 0, rfl, by omega, rfl⟩
    intro o out e i ⟨e1, e2, j, e3, hj, e4⟩ again hag ih
    subst e1 e2 e3 e4
    have hsl := stopTo_le o j
    unfold B_Z4_L2b B_Z4_J1
    simp only [tot_cond, tot_chk, tot_jn, decide_eq_true_eq, decide_eq_false_iff_not, inb_iff, len, Int.toNat_natCast, beq_iff_eq, beq_eq_false_iff_ne, ne_eq]
    rw [w64_succ (by omega) (by omega)]
    refine ⟨fun hlt => ⟨by omega, by omega, fun h19 => ih _ _ _ _ ⟨rfl, rfl, j + 1, rfl, by omega, ?_⟩ (by simp; omega), fun h19 => ih _ _ _ _ ⟨rfl, rfl, j + 1, rfl, by omega, ?_⟩ (by simp; omega)⟩, fun hge => ?_⟩
    · unfold stopTo; rw [if_pos h19]; rfl
    · conv => rhs; unfold stopTo
      rw [if_neg h19]
    · have hub : Tot (fun σ => F_Z6 (σ 0) out) (fun r => r = ((encP o, true, ()), ())) := by
        refine tot_Z6 ?_
        unfold B_Z6
        refine (i_UnframeTorn_tot (by omega)).bind ?_
        rintro _ ⟨h3, _⟩
        rw [h3 hokB, hun]
        simp only [tot_cond, tot_some, decide_eq_true_eq, decide_eq_false_iff_not, len]
        exact ⟨fun h => by omega, fun _ => trivial⟩
      refine hub.bind ?_
      rintro _ rfl
      refine (i_RecoverStream_tot (by omega)).bind ?_
      rintro _ ⟨x, rfl, hx, _⟩
      have hx2 := hx ⟨hokB, by rw [hun]; simp only []; omega⟩
      rw [hun] at hx2
      simp only [] at hx2
      rw [hdec] at hx2
      have hje : j = o.length := by omega
      simp only [tot_chk, cutb_iff]
      refine ⟨by omega, (equalOps_tot (by rw [hx2]; simp only [List.length_take]; omega)).bind ?_⟩
      rintro _ ⟨b, rfl, hb⟩
      have hb2 : b = true := hb.2 (by rw [hx2, hje]; simp [stopN])
      subst hb2
      simp only [tot_cond, Bool.true_eq_false, false_implies, and_true, forall_const]
      refine (i_EncodeOps_tot (by omega)).bind ?_
      rintro _ rfl
      refine (equalInts_tot (by omega)).bind ?_
      rintro _ ⟨b, rfl, hb⟩
      have hb2 : b = true := hb.2 rfl
      subst hb2
      rw [tot_some]
  · rw [hr1.2 h, hr2.2 h]
    have eq1 : Tot (fun σ => F_Z32 (σ 0) [] []) (fun r => r = ((true, ()), ())) := (equalInts_tot (by simp)).mono fun x hx => by
      obtain ⟨b, rfl, hb⟩ := hx
      rw [hb.2 rfl]
    refine eq1.bind ?_
    rintro _ rfl
    simp only [tot_cond, tot_jn, tot_some, Bool.not_true, Bool.false_eq_true, Bool.true_eq_false, false_implies, true_and, and_true, forall_const, List.length_nil]
    refine ⟨fun _ => (s_StreamBytes_tot (by omega) most).bind ?_, fun h0 => absurd h0 (by decide)⟩
    rintro r3 hr3
    rw [hr3.2 h]
    refine eq1.bind ?_
    rintro _ rfl
    rw [tot_some]
end Go.Gx

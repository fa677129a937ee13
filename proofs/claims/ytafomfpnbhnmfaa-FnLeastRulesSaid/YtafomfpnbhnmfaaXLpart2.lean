/-
  Plain laws about the printed functions.
-/
import Derived.Test.YtafomfpnbhnmfaaXLpart1
set_option linter.unusedVariables false
set_option linter.unusedSimpArgs false
namespace Go.Gx
open Go.Sort
def parR (x : Nat × Bool × Array Int) : (Int × Bool × Unit) × (List Int × Unit) := (((x.1 : Int), x.2.1, ()), (x.2.2.toList, ()))
def parE (a : Nat) (x : Nat × Array Int) : Nat × Bool × Array Int := (x.1, false, swp x.2 x.1 a)
def parC (a i j : Nat) (d : Array Int) : Nat × Array Int := if i > j then (j, d) else partLoop ltInt a (i + 1) (j - 1) (swp d i j)
def parC1 (a i j : Nat) (d : Array Int) : Nat × Bool × Array Int := if i > j then (j, true, swp d j a) else parE a (partLoop ltInt a (i + 1) (j - 1) (swp d i j))
theorem par_eq (a i j : Nat) (d : Array Int) : partLoop ltInt a i j d = parC a (scanUp (fun x => ltInt x d[a]!) d j i) (scanDown (fun x => !ltInt x d[a]!) d (scanUp (fun x => ltInt x d[a]!) d j i) j) d := partLoop_eq ltInt a i j d
theorem partition_tot {l : List Int} {a b pivot : Nat} (hb : b ≤ l.length) (hl : l.length ≤ 1000) (h1 : a ≤ pivot) (h2 : pivot < b) :
    Tot (fun σ => F_Z7 (σ 0) l (a : Int) (b : Int) (pivot : Int)) (fun r => r = parR (partition ltInt l.toArray a b pivot)) := by
  refine tot_Z7 ?_
  unfold B_Z7
  rw [w64n_succ (by omega), w64n_pred (by omega) (by omega)]
  simp only [tot_chk, inbn, decide_eq_true_eq, Int.toNat_natCast, List.length_set]
  refine ⟨by omega, by omega, by omega, by omega, by omega, by omega, by omega, by omega, ?_⟩
  have e0 : partition ltInt l.toArray a b pivot = parC1 a (scanUp (fun x => ltInt x (swp l.toArray a pivot)[a]!) (swp l.toArray a pivot) (b - 1) (a + 1)) (scanDown (fun x => !ltInt x (swp l.toArray a pivot)[a]!) (swp l.toArray a pivot) (scanUp (fun x => ltInt x (swp l.toArray a pivot)[a]!) (swp l.toArray a pivot) (b - 1) (a + 1)) (b - 1)) (swp l.toArray a pivot) := rfl
  rw [e0, sw]
  have hd' : ((l.set a (l.getD pivot 0)).set pivot (l.getD a 0)).length = l.length := by rw [List.length_set, List.length_set]
  revert hd'
  generalize (l.set a (l.getD pivot 0)).set pivot (l.getD a 0) = d'
  intro hd'
  -- the second loop
  have rest : ∀ (d : List Int) (p q : Nat), d.length = l.length → a < p → p ≤ 2000 - q → q < b → Tot (fun σ => B_Z7_L8 (σ 0) (F_Z48 (σ 0)) (σ 0) (d, (a : Int), (p : Int), (q : Int), ())) (fun r => r = parR (parE a (partLoop ltInt a p q d.toArray))) := by
    intro d p q hd h3 h4 h5
    have key := loop_Z7_L8 (Q := fun d x i j r => r = parR (parE a (partLoop ltInt a i.toNat j.toNat d.toArray))) (I := fun d x i j => x = (a : Int) ∧ d.length = l.length ∧ ∃ p q : Nat, i = (p : Int) ∧ j = (q : Int) ∧ a < p ∧ p ≤ 2000 - q ∧ q < b) (μ := fun _ _ i j => (2000 + j - i).toNat) ?_
    · have := key d a p q ⟨rfl, hd, p, q, rfl, rfl, h3, h4, h5⟩
      rw [Int.toNat_natCast, Int.toNat_natCast] at this
      exact this
    clear h3 h4 h5 hd d p q
    rintro d _ _ _ ⟨rfl, hd, p, q, rfl, rfl, h3, h4, h5⟩ again hag ih
    unfold B_Z7_L8b
    rw [Int.toNat_natCast, Int.toNat_natCast]
    have c3 : ∀ i : Nat, p ≤ i → i ≤ q + 1 ∨ i = p → Tot (fun σ => B_Z7_L7 (σ 0) (F_Z48 (σ 0)) (again σ) (σ 0) (d, (a : Int), (i : Int), (q : Int), ())) (fun r => r = parR (parE a (parC a i (scanDown (fun x => !ltInt x d.toArray[a]!) d.toArray i q) d.toArray))) := by
      intro i hi1 hi2
      have key3 := loop_Z7_L7 hag (Q := fun d' x i' j r => r = parR (parE a (parC a i (scanDown (fun x => !ltInt x d.toArray[a]!) d.toArray i j.toNat) d.toArray))) (I := fun d' x i' j => d' = d ∧ x = (a : Int) ∧ i' = (i : Int) ∧ ∃ c : Nat, j = (c : Int) ∧ c ≤ q) (μ := fun _ _ _ j => j.toNat) ?_
      · have := key3 d a i (q : Int) ⟨rfl, rfl, rfl, q, rfl, Nat.le_refl _⟩
        rw [Int.toNat_natCast] at this
        exact this
      rintro d _ _ _ ⟨rfl, rfl, rfl, c, rfl, hc⟩ again3 hag3 ih3
      unfold B_Z7_L7b
      rw [Int.toNat_natCast]
      have j2 : ∀ t : Bool, t = (decide (i ≤ c) && !ltInt (d.getD c 0) (d.getD a 0)) → Tot (fun σ => B_Z7_J6 (σ 0) (F_Z48 (σ 0)) (again3 σ) (again σ) d (a : Int) (i : Int) (c : Int) t) (fun r => r = parR (parE a (parC a i (scanDown (fun x => !ltInt x d.toArray[a]!) d.toArray i c) d.toArray))) := by
        intro t ht
        unfold B_Z7_J6
        rw [tot_cond]
        refine ⟨fun h => ?_, fun h => ?_⟩
        · rw [ht] at h
          have h6 := h
          simp only [Bool.and_eq_true, decide_eq_true_eq] at h6
          obtain ⟨e, rfl⟩ : ∃ e, c = e + 1 := ⟨c - 1, by omega⟩
          rw [w64n_pred (by omega) (by omega), Nat.add_sub_cancel, scanDown_step (by simp only [ga]; exact h)]
          have := ih3 d a i (e : Int) ⟨rfl, rfl, rfl, e, rfl, by omega⟩ (by omega)
          rw [Int.toNat_natCast] at this
          exact this
        · rw [ht] at h
          rw [scanDown_stop (by omega) (by simp only [ga]; exact h), tot_cond]
          unfold parC
          refine ⟨fun h6 => ?_, fun h6 => ?_⟩
          · have h6 := of_decide_eq_true h6
            rw [if_pos (by omega)]
            simp only [tot_chk, inbn, decide_eq_true_eq, Int.toNat_natCast, List.length_set]
            refine ⟨by omega, by omega, by omega, by omega, by omega, by omega, by omega, by omega, ?_⟩
            rw [tot_some]
            unfold parE
            rw [sw]; rfl
          · have h6 := of_decide_eq_false h6
            rw [if_neg (by omega)]
            simp only [tot_chk, inbn, decide_eq_true_eq, Int.toNat_natCast, List.length_set]
            refine ⟨by omega, by omega, by omega, by omega, by omega, by omega, by omega, by omega, ?_⟩
            rw [w64n_succ (by omega), w64n_pred (by omega) (by omega), sw]
            have := fun (dd : List Int) (hdd : dd.length = l.length) => ih dd a ((i + 1 : Nat) : Int) ((c - 1 : Nat) : Int) ⟨rfl, hdd, i + 1, c - 1, rfl, rfl, by omega, by omega, by omega⟩ (by omega)
            simp only [Int.toNat_natCast] at this
            exact this _ (by rw [List.length_set, List.length_set]; exact hd)
      rw [tot_cond]
      refine ⟨fun h => ?_, fun h => ?_⟩
      · have h := of_decide_eq_true h
        simp only [tot_chk, inbn, decide_eq_true_eq, Int.toNat_natCast, List.length_set]
        refine ⟨by omega, by omega, by omega, by omega, (less_tot _ _).bind ?_⟩
        rintro _ rfl
        rw [tot_jn]
        exact j2 _ (by rw [decide_eq_true (by omega : i ≤ c)]; rfl)
      · have h := of_decide_eq_false h
        rw [tot_jn]
        exact j2 _ (by rw [decide_eq_false (by omega : ¬ i ≤ c)]; rfl)
    rw [par_eq]
    have key1 := loop_Z7_L5 hag (Q := fun d' x i j r => r = parR (parE a (parC a (scanUp (fun x => ltInt x d.toArray[a]!) d.toArray q i.toNat) (scanDown (fun x => !ltInt x d.toArray[a]!) d.toArray (scanUp (fun x => ltInt x d.toArray[a]!) d.toArray q i.toNat) q) d.toArray))) (I := fun d' x i' j => d' = d ∧ x = (a : Int) ∧ j = (q : Int) ∧ ∃ i : Nat, i' = (i : Int) ∧ p ≤ i ∧ (i ≤ q + 1 ∨ i = p)) (μ := fun _ _ i _ => (3000 - i).toNat) ?_
    · have := key1 d a (p : Int) q ⟨rfl, rfl, rfl, p, rfl, Nat.le_refl _, Or.inr rfl⟩
      rw [Int.toNat_natCast] at this
      exact this
    rintro d _ _ _ ⟨rfl, rfl, rfl, i, rfl, hi1, hi2⟩ again1 hag1 ih1
    unfold B_Z7_L5b
    rw [Int.toNat_natCast]
    have j0 : ∀ t : Bool, t = (decide (i ≤ q) && ltInt (d.getD i 0) (d.getD a 0)) → Tot (fun σ => B_Z7_J4 (σ 0) (F_Z48 (σ 0)) (again1 σ) (again σ) d (a : Int) (i : Int) (q : Int) t) (fun r => r = parR (parE a (parC a (scanUp (fun x => ltInt x d.toArray[a]!) d.toArray q i) (scanDown (fun x => !ltInt x d.toArray[a]!) d.toArray (scanUp (fun x => ltInt x d.toArray[a]!) d.toArray q i) q) d.toArray))) := by
      intro t ht
      unfold B_Z7_J4
      rw [tot_cond]
      refine ⟨fun h => ?_, fun h => ?_⟩
      · rw [ht] at h
        have h6 := h
        simp only [Bool.and_eq_true, decide_eq_true_eq] at h6
        rw [w64n_succ (by omega), scanUp_step (by simp only [ga]; exact h)]
        have := ih1 d a ((i + 1 : Nat) : Int) q ⟨rfl, rfl, rfl, i + 1, rfl, by omega, by omega⟩ (by omega)
        rw [Int.toNat_natCast] at this
        exact this
      · rw [ht] at h
        rw [scanUp_stop (by simp only [ga]; exact h)]
        exact c3 i hi1 hi2
    rw [tot_cond]
    refine ⟨fun h => ?_, fun h => ?_⟩
    · have h := of_decide_eq_true h
      simp only [tot_chk, inbn, decide_eq_true_eq, Int.toNat_natCast, List.length_set]
      refine ⟨by omega, by omega, by omega, by omega, (less_tot _ _).bind ?_⟩
      rintro _ rfl
      rw [tot_jn]
      exact j0 _ (by rw [decide_eq_true (by omega : i ≤ q)]; rfl)
    · have h := of_decide_eq_false h
      rw [tot_jn]
      exact j0 _ (by rw [decide_eq_false (by omega : ¬ i ≤ q)]; rfl)
  -- the first round
  obtain ⟨q, hq⟩ : ∃ q, q = b - 1 := ⟨_, rfl⟩
  rw [← hq]
  have c3 : ∀ i : Nat, a + 1 ≤ i → i ≤ q + 1 ∨ i = a + 1 → Tot (fun σ => B_Z7_L3 (σ 0) (F_Z48 (σ 0)) (σ 0) (d', (a : Int), (i : Int), (q : Int), ())) (fun r => r = parR (parC1 a i (scanDown (fun x => !ltInt x d'.toArray[a]!) d'.toArray i q) d'.toArray)) := by
    intro i hi1 hi2
    have key3 := loop_Z7_L3 (Q := fun d x i' j r => r = parR (parC1 a i (scanDown (fun x => !ltInt x d'.toArray[a]!) d'.toArray i j.toNat) d'.toArray)) (I := fun d x i' j => d = d' ∧ x = (a : Int) ∧ i' = (i : Int) ∧ ∃ c : Nat, j = (c : Int) ∧ c ≤ q) (μ := fun _ _ _ j => j.toNat) ?_
    · have := key3 d' a i (q : Int) ⟨rfl, rfl, rfl, q, rfl, Nat.le_refl _⟩
      rw [Int.toNat_natCast] at this
      exact this
    rintro d _ _ _ ⟨rfl, rfl, rfl, c, rfl, hc⟩ again3 hag3 ih3
    unfold B_Z7_L3b
    rw [Int.toNat_natCast]
    have j2 : ∀ t : Bool, t = (decide (i ≤ c) && !ltInt (d.getD c 0) (d.getD a 0)) → Tot (fun σ => B_Z7_J2 (σ 0) (F_Z48 (σ 0)) (again3 σ) d (a : Int) (i : Int) (c : Int) t) (fun r => r = parR (parC1 a i (scanDown (fun x => !ltInt x d.toArray[a]!) d.toArray i c) d.toArray)) := by
      intro t ht
      unfold B_Z7_J2
      rw [tot_cond]
      refine ⟨fun h => ?_, fun h => ?_⟩
      · rw [ht] at h
        have h6 := h
        simp only [Bool.and_eq_true, decide_eq_true_eq] at h6
        obtain ⟨e, rfl⟩ : ∃ e, c = e + 1 := ⟨c - 1, by omega⟩
        rw [w64n_pred (by omega) (by omega), Nat.add_sub_cancel, scanDown_step (by simp only [ga]; exact h)]
        have := ih3 d a i (e : Int) ⟨rfl, rfl, rfl, e, rfl, by omega⟩ (by omega)
        rw [Int.toNat_natCast] at this
        exact this
      · rw [ht] at h
        rw [scanDown_stop (by omega) (by simp only [ga]; exact h), tot_cond]
        unfold parC1
        refine ⟨fun h6 => ?_, fun h6 => ?_⟩
        · have h6 := of_decide_eq_true h6
          rw [if_pos (by omega)]
          simp only [tot_chk, inbn, decide_eq_true_eq, Int.toNat_natCast, List.length_set]
          refine ⟨by omega, by omega, by omega, by omega, by omega, by omega, by omega, by omega, ?_⟩
          rw [tot_some, sw]; rfl
        · have h6 := of_decide_eq_false h6
          rw [if_neg (by omega)]
          simp only [tot_chk, inbn, decide_eq_true_eq, Int.toNat_natCast, List.length_set]
          refine ⟨by omega, by omega, by omega, by omega, by omega, by omega, by omega, by omega, ?_⟩
          rw [w64n_succ (by omega), w64n_pred (by omega) (by omega), sw]
          exact rest _ _ _ (by rw [List.length_set, List.length_set]; exact hd') (by omega) (by omega) (by omega)
    rw [tot_cond]
    refine ⟨fun h => ?_, fun h => ?_⟩
    · have h := of_decide_eq_true h
      simp only [tot_chk, inbn, decide_eq_true_eq, Int.toNat_natCast, List.length_set]
      refine ⟨by omega, by omega, by omega, by omega, (less_tot _ _).bind ?_⟩
      rintro _ rfl
      rw [tot_jn]
      exact j2 _ (by rw [decide_eq_true (by omega : i ≤ c)]; rfl)
    · have h := of_decide_eq_false h
      rw [tot_jn]
      exact j2 _ (by rw [decide_eq_false (by omega : ¬ i ≤ c)]; rfl)
  have key1 := loop_Z7_L1 (Q := fun d x i j r => r = parR (parC1 a (scanUp (fun x => ltInt x d'.toArray[a]!) d'.toArray q i.toNat) (scanDown (fun x => !ltInt x d'.toArray[a]!) d'.toArray (scanUp (fun x => ltInt x d'.toArray[a]!) d'.toArray q i.toNat) q) d'.toArray)) (I := fun d x i' j => d = d' ∧ x = (a : Int) ∧ j = (q : Int) ∧ ∃ i : Nat, i' = (i : Int) ∧ a + 1 ≤ i ∧ (i ≤ q + 1 ∨ i = a + 1)) (μ := fun _ _ i _ => (3000 - i).toNat) ?_
  · have := key1 d' a ((a + 1 : Nat) : Int) q ⟨rfl, rfl, rfl, a + 1, rfl, Nat.le_refl _, Or.inr rfl⟩
    rw [Int.toNat_natCast] at this
    exact this
  rintro d _ _ _ ⟨rfl, rfl, rfl, i, rfl, hi1, hi2⟩ again1 hag1 ih1
  unfold B_Z7_L1b
  rw [Int.toNat_natCast]
  have j0 : ∀ t : Bool, t = (decide (i ≤ q) && ltInt (d.getD i 0) (d.getD a 0)) → Tot (fun σ => B_Z7_J0 (σ 0) (F_Z48 (σ 0)) (again1 σ) d (a : Int) (i : Int) (q : Int) t) (fun r => r = parR (parC1 a (scanUp (fun x => ltInt x d.toArray[a]!) d.toArray q i) (scanDown (fun x => !ltInt x d.toArray[a]!) d.toArray (scanUp (fun x => ltInt x d.toArray[a]!) d.toArray q i) q) d.toArray)) := by
    intro t ht
    unfold B_Z7_J0
    rw [tot_cond]
    refine ⟨fun h => ?_, fun h => ?_⟩
    · rw [ht] at h
      have h6 := h
      simp only [Bool.and_eq_true, decide_eq_true_eq] at h6
      rw [w64n_succ (by omega), scanUp_step (by simp only [ga]; exact h)]
      have := ih1 d a ((i + 1 : Nat) : Int) q ⟨rfl, rfl, rfl, i + 1, rfl, by omega, by omega⟩ (by omega)
      rw [Int.toNat_natCast] at this
      exact this
    · rw [ht] at h
      rw [scanUp_stop (by simp only [ga]; exact h)]
      exact c3 i hi1 hi2
  rw [tot_cond]
  refine ⟨fun h => ?_, fun h => ?_⟩
  · have h := of_decide_eq_true h
    simp only [tot_chk, inbn, decide_eq_true_eq, Int.toNat_natCast, List.length_set]
    refine ⟨by omega, by omega, by omega, by omega, (less_tot _ _).bind ?_⟩
    rintro _ rfl
    rw [tot_jn]
    exact j0 _ (by rw [decide_eq_true (by omega : i ≤ q)]; rfl)
  · have h := of_decide_eq_false h
    rw [tot_jn]
    exact j0 _ (by rw [decide_eq_false (by omega : ¬ i ≤ q)]; rfl)
end Go.Gx

/-
  Laws, part SO6: slices.Sort sorts.
-/
set_option linter.unusedVariables false
set_option linter.unusedSimpArgs false
namespace Go.Gx
open Go.Sort
/-- A sorted permutation of the part. -/
def SrtR (a b : Nat) (l : List Int) (r : Unit × (List Int × Unit)) : Prop := ∃ l' : List Int, r = ((), (l', ())) ∧ PermIn a b l.toArray l'.toArray ∧ SortedIn ltInt a b l'.toArray
theorem pdq_tot : ∀ (n : Nat) {l : List Int} {a b : Nat} (limit : Int), b - a ≤ n → a ≤ b → b ≤ l.length → l.length ≤ 1000 → Below ltInt a b l.toArray →
    Tot (fun σ => F_Z11 (σ 0) l (a : Int) (b : Int) limit) (SrtR a b l) := by
  intro n
  induction n using Nat.strongRecOn with
  | ind n IH =>
  intro l a b limit hn hab hb hl hB
  refine tot_Z11 ?_
  unfold B_Z11
  have key := loop_Z11_L5 (Q := fun d x y z u v => SrtR x.toNat y.toNat d) (I := fun d x y z u v => d.length = l.length ∧ ∃ a b : Nat, x = (a : Int) ∧ y = (b : Int) ∧ a ≤ b ∧ b ≤ d.length ∧ b - a ≤ n ∧ Below ltInt a b d.toArray) (μ := fun _ x y _ _ _ => (y - x).toNat) ?_
  · have := key l a b limit true true ⟨rfl, a, b, rfl, rfl, hab, hb, hn, hB⟩
    rw [Int.toNat_natCast, Int.toNat_natCast] at this
    exact this
  clear hn hab hb hB a b limit
  rintro d _ _ limit wb wp ⟨hd, a, b, rfl, rfl, hab, hb, hn, hB⟩ again hag ih
  rw [Int.toNat_natCast, Int.toNat_natCast]
  unfold B_Z11_L5b
  rw [w64n_sub (by omega) (by omega), tot_cond]
  refine ⟨fun h => ?_, fun h => ?_⟩
  · refine (insertionSort_tot hb (by omega) (by omega)).bind ?_
    rintro _ rfl
    rw [tot_some]
    have := insertionSort_holds (lt := ltInt) swo_ltInt d.toArray a b hab (by simpa using hb)
    exact ⟨_, rfl, by simpa using this.1, by simpa using this.2⟩
  have h12 := of_decide_eq_false h
  rw [tot_cond]
  refine ⟨fun h => ?_, fun h => ?_⟩
  · refine (heapSort_tot hb (by omega) (by omega)).bind ?_
    rintro _ rfl
    rw [tot_some]
    have := heapSort_holds (lt := ltInt) swo_ltInt d.toArray a b hab (by simpa using hb)
    exact ⟨_, rfl, by simpa using this.1, by simpa using this.2⟩
  -- from the two partitions on
  have glue : ∀ {x y z : List Int} {a b : Nat}, PermIn a b x.toArray y.toArray → SrtR a b y ((), (z, ())) → SrtR a b x ((), (z, ())) := by
    rintro x y z a b h ⟨l', e, h2, h3⟩
    exact ⟨l', e, permIn_trans _ _ _ a b h h2, h3⟩
  have j4 : ∀ (x : List Int) (limit : Int) (p : Nat) (t : Bool), PermIn a b d.toArray x.toArray → a ≤ p → p < b → (t = true → 0 < a ∧ ltInt (x.getD (a - 1) 0) (x.getD p 0) = false) →
      Tot (fun σ => B_Z11_J4 (σ 0) (F_Z4 (σ 0)) (F_Z9 (σ 0)) (F_Z3 (σ 0)) (F_Z6 (σ 0)) (F_Z5 (σ 0)) (F_Z0 (σ 0)) (F_Z48 (σ 0)) (F_Z2 (σ 0)) (F_Z7 (σ 0)) (F_Z11 (σ 0)) (again σ) x (a : Int) (b : Int) limit wb wp ((b - a : Nat) : Int) (p : Int) t) (SrtR a b d) := by
    intro x limit p t hx hp1 hp2 ht
    have hxl : x.length = d.length := by simpa using hx.1
    have hBx : Below ltInt a b x.toArray := hB.perm (by simpa using hb) hx
    unfold B_Z11_J4
    rw [tot_cond]
    refine ⟨fun h => ?_, fun h => ?_⟩
    · obtain ⟨ha0, hnl⟩ := ht h
      refine (partEq_tot (by omega) (by omega) hp1 hp2).bind ?_
      rintro _ rfl
      obtain ⟨g1, g2, g3, g4, g5⟩ := round_eq swo_ltInt (partitionEqual_holds ltInt) (d4 := (partitionEqual ltInt x.toArray a b p).2) (mid := (partitionEqual ltInt x.toArray a b p).1) ha0 hp1 hp2 (by simp; omega) hBx (by rw [ga, ga]; exact hnl) rfl
      generalize partitionEqual ltInt x.toArray a b p = w at g1 g2 g3 g4 g5
      obtain ⟨mid, d4⟩ := w
      simp only at g1 g2 g3 g4 g5
      simp only [peqR]
      have g3' : d4.toList.length = x.length := by simpa using g3
      have := ih d4.toList (mid : Int) b limit wb wp ⟨by omega, mid, b, rfl, rfl, by omega, by omega, by omega, by simpa using g4⟩ (by omega)
      rw [Int.toNat_natCast, Int.toNat_natCast] at this
      refine this.mono ?_
      rintro _ ⟨l', rfl, q1, q2⟩
      obtain ⟨q3, q4⟩ := g5 l'.toArray (by simpa using q1) q2
      exact ⟨l', rfl, permIn_trans _ _ _ a b hx q3, q4⟩
    · refine (partition_tot (by omega) (by omega) hp1 hp2).bind ?_
      rintro r hr
      obtain ⟨g1, g2, g3, g4, g5, g6, g7⟩ := round_part swo_ltInt (partition_holds ltInt) (d4 := (partition ltInt x.toArray a b p).2.2) (ap := (partition ltInt x.toArray a b p).2.1) (mid := (partition ltInt x.toArray a b p).1) hp1 hp2 (by simp; omega) hBx rfl
      generalize partition ltInt x.toArray a b p = w at g1 g2 g3 g4 g5 g6 g7 hr
      obtain ⟨mid, ap, d4⟩ := w
      simp only at g1 g2 g3 g4 g5 g6 g7
      have hr' : r = (((mid : Int), ap, ()), (d4.toList, ())) := hr
      subst hr'
      have g3' : d4.toList.length = x.length := by simpa using g3
      rw [w64n_sub (by omega) (by omega), w64n_sub (by omega) (by omega), w64n_succ (by omega), tot_cond]
      refine ⟨fun h => ?_, fun h => ?_⟩
      · have h := of_decide_eq_true h
        refine (IH (mid - a) (by omega) (l := d4.toList) (a := a) (b := mid) limit (Nat.le_refl _) g1 (by omega) (by omega) (by simpa using g4)).bind ?_
        rintro _ ⟨l', rfl, q1, q2⟩
        obtain ⟨q3, q4⟩ := g6 l'.toArray (by simpa using q1) q2
        have hl' : l'.length = x.length := by have := q1.1; simp only [List.size_toArray] at this; omega
        have := ih l' ((mid + 1 : Nat) : Int) b limit (decide (((mid - a : Nat) : Int) ≥ w64 (((b - a : Nat) : Int).tdiv 8))) ap ⟨by omega, mid + 1, b, rfl, rfl, by omega, by omega, by omega, q3⟩ (by omega)
        rw [Int.toNat_natCast, Int.toNat_natCast] at this
        refine this.mono ?_
        rintro _ ⟨l2, rfl, q5, q6⟩
        obtain ⟨q7, q8⟩ := q4 l2.toArray q5 q6
        exact ⟨l2, rfl, permIn_trans _ _ _ a b hx q7, q8⟩
      · have h := of_decide_eq_false h
        refine (IH (b - (mid + 1)) (by omega) (l := d4.toList) (a := mid + 1) (b := b) limit (Nat.le_refl _) (by omega) (by omega) (by omega) (by simpa using g5)).bind ?_
        rintro _ ⟨l', rfl, q1, q2⟩
        obtain ⟨q3, q4⟩ := g7 l'.toArray (by simpa using q1) q2
        have hl' : l'.length = x.length := by have := q1.1; simp only [List.size_toArray] at this; omega
        have := ih l' (a : Int) (mid : Int) limit (decide (((b - mid : Nat) : Int) ≥ w64 (((b - a : Nat) : Int).tdiv 8))) ap ⟨by omega, a, mid, rfl, rfl, by omega, by omega, by omega, q3⟩ (by omega)
        rw [Int.toNat_natCast, Int.toNat_natCast] at this
        refine this.mono ?_
        rintro _ ⟨l2, rfl, q5, q6⟩
        obtain ⟨q7, q8⟩ := q4 l2.toArray q5 q6
        exact ⟨l2, rfl, permIn_trans _ _ _ a b hx q7, q8⟩
  have j3 : ∀ (x : List Int) (limit : Int) (p : Nat), PermIn a b d.toArray x.toArray → a ≤ p → p < b →
      Tot (fun σ => B_Z11_J3 (σ 0) (F_Z4 (σ 0)) (F_Z9 (σ 0)) (F_Z3 (σ 0)) (F_Z6 (σ 0)) (F_Z5 (σ 0)) (F_Z0 (σ 0)) (F_Z48 (σ 0)) (F_Z2 (σ 0)) (F_Z7 (σ 0)) (F_Z11 (σ 0)) (again σ) x (a : Int) (b : Int) limit wb wp ((b - a : Nat) : Int) (p : Int)) (SrtR a b d) := by
    intro x limit p hx hp1 hp2
    have hxl : x.length = d.length := by simpa using hx.1
    unfold B_Z11_J3
    rw [tot_cond]
    refine ⟨fun h => ?_, fun h => ?_⟩
    · have h := of_decide_eq_true h
      rw [w64n_pred (by omega) (by omega)]
      simp only [tot_chk, inbn, decide_eq_true_eq, Int.toNat_natCast, List.length_set]
      refine ⟨by omega, by omega, by omega, by omega, (less_tot _ _).bind ?_⟩
      rintro _ rfl
      rw [tot_jn]
      exact j4 x limit p _ hx hp1 hp2 fun h => ⟨by omega, by simpa using h⟩
    · rw [tot_jn]
      exact j4 x limit p false hx hp1 hp2 fun h => absurd h (by decide)
  have j2 : ∀ (x : List Int) (limit : Int) (p : Nat) (t : Bool), PermIn a b d.toArray x.toArray → a ≤ p → p < b →
      Tot (fun σ => B_Z11_J2 (σ 0) (F_Z4 (σ 0)) (F_Z9 (σ 0)) (F_Z3 (σ 0)) (F_Z6 (σ 0)) (F_Z5 (σ 0)) (F_Z0 (σ 0)) (F_Z48 (σ 0)) (F_Z2 (σ 0)) (F_Z7 (σ 0)) (F_Z11 (σ 0)) (again σ) x (a : Int) (b : Int) limit wb wp ((b - a : Nat) : Int) (p : Int) t) (SrtR a b d) := by
    intro x limit p t hx hp1 hp2
    have hxl : x.length = d.length := by simpa using hx.1
    have hBx : Below ltInt a b x.toArray := hB.perm (by simpa using hb) hx
    unfold B_Z11_J2
    rw [tot_cond]
    refine ⟨fun h => ?_, fun h => ?_⟩
    · refine (partialIns_tot (by omega) (by omega) (by omega)).bind ?_
      rintro _ rfl
      obtain ⟨q1, q2⟩ := partialInsertionSort_holds (lt := ltInt) swo_ltInt x.toArray a b (by omega) (by simp; omega) hBx
      generalize partialInsertionSort ltInt x.toArray a b = w at q1 q2
      obtain ⟨d4, ok⟩ := w
      simp only at q1 q2
      simp only [pisR]
      have hq : PermIn a b d.toArray d4.toList.toArray := by simpa using permIn_trans _ _ _ a b hx q1
      rw [tot_cond]
      refine ⟨fun h => ?_, fun h => ?_⟩
      · rw [tot_some]
        exact ⟨_, rfl, hq, by simpa using q2 h⟩
      · rw [tot_jn]
        exact j3 d4.toList limit p hq hp1 hp2
    · rw [tot_jn]
      exact j3 x limit p hx hp1 hp2
  have j1 : ∀ (x : List Int) (limit : Int) (p : Nat) (hint : Int), PermIn a b d.toArray x.toArray → a ≤ p → p < b →
      Tot (fun σ => B_Z11_J1 (σ 0) (F_Z4 (σ 0)) (F_Z9 (σ 0)) (F_Z3 (σ 0)) (F_Z6 (σ 0)) (F_Z5 (σ 0)) (F_Z0 (σ 0)) (F_Z48 (σ 0)) (F_Z2 (σ 0)) (F_Z7 (σ 0)) (F_Z11 (σ 0)) (again σ) x (a : Int) (b : Int) limit wb wp ((b - a : Nat) : Int) (p : Int) hint) (SrtR a b d) := by
    intro x limit p hint hx hp1 hp2
    unfold B_Z11_J1
    simp only [tot_cond, tot_jn]
    exact ⟨fun _ => ⟨fun _ => j2 x limit p _ hx hp1 hp2, fun _ => j2 x limit p _ hx hp1 hp2⟩, fun _ => j2 x limit p _ hx hp1 hp2⟩
  have j0 : ∀ (x : List Int) (limit : Int), PermIn a b d.toArray x.toArray →
      Tot (fun σ => B_Z11_J0 (σ 0) (F_Z4 (σ 0)) (F_Z9 (σ 0)) (F_Z3 (σ 0)) (F_Z6 (σ 0)) (F_Z5 (σ 0)) (F_Z0 (σ 0)) (F_Z48 (σ 0)) (F_Z2 (σ 0)) (F_Z7 (σ 0)) (F_Z11 (σ 0)) (again σ) x (a : Int) (b : Int) limit wb wp ((b - a : Nat) : Int)) (SrtR a b d) := by
    intro x limit hx
    have hxl : x.length = d.length := by simpa using hx.1
    unfold B_Z11_J0
    refine (pivot_tot (by omega) (by omega) (by omega)).bind ?_
    rintro _ ⟨p, hint, rfl, hp1, hp2⟩
    rw [tot_cond]
    refine ⟨fun h => ?_, fun h => ?_⟩
    · refine (reverse_tot (by omega) (by omega) (by omega)).bind ?_
      rintro _ ⟨y, rfl, hy⟩
      rw [tot_jn, w64n_pred (by omega) (by omega), w64n_sub (by omega) (by omega), w64n_sub (by omega) (by omega)]
      exact j1 y limit _ _ (permIn_trans _ _ _ a b hx hy) (by omega) (by omega)
    · rw [tot_jn]
      exact j1 x limit _ _ hx hp1 hp2
  rw [tot_cond]
  refine ⟨fun h => ?_, fun h => ?_⟩
  · refine (break_tot hb (by omega) (by omega)).bind ?_
    rintro _ ⟨y, rfl, hy⟩
    rw [tot_jn]
    exact j0 y _ hy
  · rw [tot_jn]
    exact j0 d limit (permIn_refl _ _ _)
/-- slices.Sort. -/
theorem sort_tot {l : List Int} (hl : l.length ≤ 1000) : Tot (fun σ => F_Z21 (σ 0) l) (fun r => ∃ l' : List Int, r = ((), (l', ())) ∧ l'.Perm l ∧ l'.Pairwise (· ≤ ·)) := by
  refine tot_Z21 ?_
  unfold B_Z21
  unfold len
  rw [wrap_id (by omega) (by omega)]
  refine (bitsLen_tot (by omega)).bind ?_
  rintro _ ⟨L, rfl, -⟩
  have := pdq_tot l.length (l := l) (a := 0) (b := l.length) (L : Int) (by omega) (by omega) (by omega) hl (Or.inl rfl)
  refine Tot.bind this ?_
  rintro _ ⟨l', rfl, h1, h2⟩
  rw [tot_some]
  have hlen : l'.length = l.length := by simpa using h1.1
  refine ⟨l', rfl, ?_, ?_⟩
  · have := h1.2.2
    simp only [List.extract_toArray, List.toList_toArray, List.extract_eq_take_drop] at this
    simp only [Nat.sub_zero, List.drop_zero] at this
    rwa [List.take_of_length_le (by omega), List.take_of_length_le (Nat.le_refl _)] at this
  · rw [List.pairwise_iff_getElem]
    intro i j hi hj hij
    have := h2 i j (Nat.zero_le _) hij (by omega)
    rw [ga, ga, List.getD_eq_getElem?_getD, List.getD_eq_getElem?_getD, List.getElem?_eq_getElem hi, List.getElem?_eq_getElem hj] at this
    simp only [Option.getD_some, ltInt, decide_eq_false_iff_not] at this
    omega
end Go.Gx

/-
  Laws, part 8: valid graphs.
-/
set_option linter.unusedVariables false
set_option linter.unusedSimpArgs false
namespace Go.Gx
theorem says_iff {P : Prop} {b : Bool} (h : b = true ↔ P) : Says P ((b, ()), ()) := ⟨b, rfl, h⟩
theorem validNode_tot {g : List PNode} {root : Int} (hg : g.length ≤ 1000000) (n : PNode) (hn : n.2.2.length ≤ 1000000) : Tot (fun σ => F_Z58 (σ 0) g root n.1 n.2.1 n.2.2) (Says (NodeOk g n)) := by
  obtain ⟨k, v, kids⟩ := n
  refine tot_Z58 ?_
  unfold B_Z58
  have j0 : ∀ b : Bool, (b = false ↔ kids.length ≤ 6 ∧ InR g kids) → Tot (fun σ => B_Z58_J0 (σ 0) (F_s_allIn (σ 0)) (F_Z82 (σ 0)) (F_Z52 (σ 0)) g root k v kids b) (Says (NodeOk g (k, v, kids))) := by
    intro b hb
    unfold B_Z58_J0 B_Z58_J1
    rw [tot_cond]
    refine ⟨fun ht => ?_, fun hf => ?_⟩
    · rw [tot_some]
      refine says_false fun h => ?_
      have := hb.2 ⟨h.1, h.2.1⟩
      rw [ht] at this
      cases this
    obtain ⟨h6, hin⟩ := hb.1 hf
    have ok : ∀ {Q : Prop}, (NodeOk g (k, v, kids) ↔ Q) ↔ ((if k = 0 then 0 ≤ v ∧ v ≤ 999 ∧ kids = [] else if k = 1 then 0 ≤ v ∧ v ≤ 9 ∧ kids = [] else if k = 2 ∨ k = 3 then v = 0 else if k = 4 then v = 0 ∧ DictOk g kids else if k = 5 then 0 ≤ v ∧ v ≤ 9 ∧ kids.length ≤ 1 else False) ↔ Q) := by
      intro Q
      unfold NodeOk
      simp only [h6, hin, true_and]
    have fin : ∀ (b : Bool), ((if k = 0 then 0 ≤ v ∧ v ≤ 999 ∧ kids = [] else if k = 1 then 0 ≤ v ∧ v ≤ 9 ∧ kids = [] else if k = 2 ∨ k = 3 then v = 0 else if k = 4 then v = 0 ∧ DictOk g kids else if k = 5 then 0 ≤ v ∧ v ≤ 9 ∧ kids.length ≤ 1 else False) ↔ b = true) → Says (NodeOk g (k, v, kids)) ((b, ()), ()) := fun b h => says_iff (ok.2 h).symm
    have hlen : (len kids == 0) = decide (kids = []) := by
      rw [Bool.eq_iff_iff]; simp [len]
    simp only [tot_cond, tot_jn, beq_iff_eq, beq_eq_false_iff_ne, ne_eq]
    refine ⟨fun h0 => ?_, fun h0 => ⟨fun h1 => ?_, fun h1 => ⟨fun h2 => ?_, fun h2 => ⟨fun h3 => ?_, fun h3 => ⟨fun h4 => ⟨fun hv => ?_, fun hv => ?_⟩, fun h4 => ⟨fun h5 => ?_, fun h5 => ?_⟩⟩⟩⟩⟩⟩
    · refine (inRange_tot' v 0 999).bind ?_
      rintro _ rfl
      simp only [tot_cond, tot_some, decide_eq_true_eq, decide_eq_false_iff_not]
      exact ⟨fun hr => fin _ (by rw [if_pos h0, hlen, decide_eq_true_eq]; exact ⟨fun h => h.2.2, fun h => ⟨hr.1, hr.2, h⟩⟩), fun hr => fin _ (by rw [if_pos h0]; exact ⟨fun h => absurd ⟨h.1, h.2.1⟩ hr, fun h => by cases h⟩)⟩
    · refine (inRange_tot' v 0 9).bind ?_
      rintro _ rfl
      simp only [tot_cond, tot_some, decide_eq_true_eq, decide_eq_false_iff_not]
      exact ⟨fun hr => fin _ (by rw [if_neg h0, if_pos h1, hlen, decide_eq_true_eq]; exact ⟨fun h => h.2.2, fun h => ⟨hr.1, hr.2, h⟩⟩), fun hr => fin _ (by rw [if_neg h0, if_pos h1]; exact ⟨fun h => absurd ⟨h.1, h.2.1⟩ hr, fun h => by cases h⟩)⟩
    · refine ⟨fun _ => ?_, fun h => absurd h2 h⟩
      rw [tot_some]
      exact fin _ (by rw [if_neg h0, if_neg h1, if_pos (.inl h2), beq_iff_eq])
    · rw [tot_some]
      exact fin _ (by rw [if_neg h0, if_neg h1, if_pos (.inr h3), beq_iff_eq])
    · refine (validDict_tot hin h6).bind ?_
      rintro _ ⟨b2, rfl, hb2⟩
      rw [tot_some]
      exact fin _ (by rw [if_neg h0, if_neg h1, if_neg (by simp [h2, h3]), if_pos h4]; exact ⟨fun h => hb2.2 h.2, fun h => ⟨hv, hb2.1 h⟩⟩)
    · rw [tot_some]
      exact fin _ (by rw [if_neg h0, if_neg h1, if_neg (by simp [h2, h3]), if_pos h4]; exact ⟨fun h => absurd h.1 hv, fun h => by cases h⟩)
    · refine (inRange_tot' v 0 9).bind ?_
      rintro _ rfl
      simp only [tot_cond, tot_some, decide_eq_true_eq, decide_eq_false_iff_not]
      exact ⟨fun hr => fin _ (by rw [if_neg h0, if_neg h1, if_neg (by simp [h2, h3]), if_neg h4, if_pos h5, decide_eq_true_eq]; exact ⟨fun h => by have := h.2.2; simp only [len]; omega, fun h => ⟨hr.1, hr.2, by simp only [len] at h; omega⟩⟩),
        fun hr => fin _ (by rw [if_neg h0, if_neg h1, if_neg (by simp [h2, h3]), if_neg h4, if_pos h5]; exact ⟨fun h => absurd ⟨h.1, h.2.1⟩ hr, fun h => by cases h⟩)⟩
    · rw [tot_some]
      exact fin _ (by rw [if_neg h0, if_neg h1, if_neg (by simp [h2, h3]), if_neg h4, if_neg h5]; simp)
  simp only [tot_cond, tot_jn, decide_eq_true_eq, decide_eq_false_iff_not, len]
  refine ⟨fun h => j0 true ⟨fun h' => Bool.noConfusion h', fun h' => by omega⟩, fun h => ?_⟩
  rw [show w64 ((g.length : Int) - 1) = (g.length : Int) - 1 from w64_id (by omega) (by omega)]
  refine (allIn_tot (by simp only [] at hn; omega) 0 _).bind ?_
  rintro _ ⟨b, rfl, hb⟩
  rw [tot_jn]
  refine j0 (!b) ?_
  rw [Bool.not_eq_false', hb]
  constructor
  · intro h1; exact ⟨by omega, fun x hx => by have := h1 x hx; omega⟩
  · intro h1 x hx; have := h1.2 x hx; omega
/-- Every node's kids are nodes, and not too many. -/
def Kidly (g : List PNode) : Prop := ∀ n ∈ g, n.2.2.length ≤ 6 ∧ InR g n.2.2
theorem nd_mem {g : List PNode} {i : Int} (h0 : 0 ≤ i) (h1 : i < (g.length : Int)) : nd g i ∈ g := rdx_mem h0 h1
theorem nodup_len {n : Nat} : ∀ {l : List Int}, l.Nodup → (∀ x ∈ l, 0 ≤ x ∧ x < (n : Int)) → l.length ≤ n := by
  induction n with
  | zero =>
    intro l _ h
    cases l with
    | nil => simp
    | cons x l => have := h x (by simp); omega
  | succ n ih =>
    intro l hn h
    have h1 : (l.erase (n : Int)).Nodup := hn.erase _
    have h2 := ih h1 (fun x hx => by
      have hx' := List.mem_of_mem_erase hx
      have := h x hx'
      have hne : x ≠ (n : Int) := fun e => by subst e; exact (List.Nodup.not_mem_erase hn) hx
      omega)
    by_cases hm : (n : Int) ∈ l
    · rw [List.length_erase_of_mem hm] at h2; omega
    · rw [List.erase_of_not_mem hm] at h2; omega
theorem getD_left {α : Type} {l m : List α} {i : Nat} {d : α} (h : i < l.length) : (l ++ m).getD i d = l.getD i d := by
  rw [List.getD_eq_getElem?_getD, List.getD_eq_getElem?_getD, List.getElem?_append_left h]
theorem tupleReach_tot {g : List PNode} {root : Int} (hk : Kidly g) (hg : g.length ≤ 1000000) {at1 : Int} (h0 : 0 ≤ at1) (h1 : at1 < (g.length : Int)) :
    Tot (fun σ => F_Z44 (σ 0) g root at1) (fun r => ∃ out : List Int, r = ((out, ()), ()) ∧ (∀ x, x ∈ out ↔ TReach g at1 x) ∧ out.Nodup ∧ out.length ≤ g.length) := by
  refine tot_Z44 ?_
  unfold B_Z44
  have hat := hk _ (nd_mem h0 h1)
  rw [tot_chk]
  refine ⟨inb_iff.2 ⟨h0, h1⟩, (copyInts_tot' (l := (nd g at1).2.2) (by omega)).bind ?_⟩
  rintro _ rfl
  have key := loop_Z44_L1 (Q := fun _ _ _ _ _ r => ∃ out : List Int, r = ((out, ()), ()) ∧ (∀ x, x ∈ out ↔ TReach g at1 x) ∧ out.Nodup ∧ out.length ≤ g.length)
    (I := fun g' _ out list k7 => g' = g ∧ ∃ j : Nat, k7 = j ∧ j ≤ list.length ∧ (∀ x ∈ list, TReach g at1 x ∧ 0 ≤ x ∧ x < (g.length : Int)) ∧ out.Nodup ∧ (∀ x ∈ out, x ∈ list) ∧ (∀ q, q < j → list.getD q 0 ∈ out) ∧
      (∀ x ∈ (nd g at1).2.2, x ∈ list) ∧ (∀ x ∈ out, (nd g x).1 = 2 → ∀ y ∈ (nd g x).2.2, y ∈ list) ∧ list.length ≤ 6 + 6 * out.length) (μ := fun _ _ out list k7 => 7 * (g.length - out.length) + (list.length - k7.toNat)) ?_
  · exact key g root [] _ 0 ⟨rfl, 0, rfl, by omega, fun x hx => ⟨.kid hx, hat.2 x hx⟩, List.nodup_nil, fun x hx => by simp at hx, fun q hq => by omega, fun x hx => hx, fun x hx => by simp at hx, by simp; exact hat.1⟩
  intro g' r' out list k7 ⟨e1, j, e2, hj, hl, hnd, hol, hq, hkid, hst, hlen⟩ again hag ih
  subst e1 e2
  unfold B_Z44_L1b B_Z44_J0
  have hout : out.length ≤ g'.length := nodup_len hnd fun x hx => (hl x (hol x hx)).2
  simp only [tot_cond, tot_chk, tot_jn, tot_some, decide_eq_true_eq, decide_eq_false_iff_not, len, inb_iff, Int.toNat_natCast]
  refine ⟨fun hlt => ⟨by omega, by omega, ?_⟩, fun hge => ?_⟩
  · have hj' : j < list.length := by omega
    have hm : list.getD j 0 ∈ list := by rw [List.getD_eq_getElem?_getD, List.getElem?_eq_getElem hj']; exact List.getElem_mem _
    generalize hx : list.getD j 0 = x at hm
    have hxr := hl x hm
    refine (placeIn_tot (by omega) x).bind ?_
    rintro _ ⟨v, rfl, hv⟩
    simp only [tot_cond, tot_chk, tot_jn, decide_eq_true_eq, decide_eq_false_iff_not, room_iff, inb_iff, List.length_cons, List.length_nil, beq_iff_eq, beq_eq_false_iff_ne, ne_eq]
    have wj : w64 ((j : Int) + 1) = ((j + 1 : Nat) : Int) := w64_succ (by omega) (by omega)
    refine ⟨fun hneg => ?_, fun hpos => ?_⟩
    · have hni : x ∉ out := by
        rcases hv with ⟨_, h⟩ | ⟨i, e, _⟩
        · exact h
        · omega
      have hnd2 : (out ++ [x]).Nodup := by
        rw [List.nodup_append]
        exact ⟨hnd, by simp, fun a ha b hb e => by simp at hb; subst hb; subst e; exact hni ha⟩
      have hout2 : (out ++ [x]).length ≤ g'.length := nodup_len hnd2 fun y hy => by
        rcases List.mem_append.1 hy with h | h
        · exact (hl y (hol y h)).2
        · simp at h; subst h; exact hxr.2
      simp only [List.length_append, List.length_cons, List.length_nil] at hout2
      have hkx := hk _ (nd_mem hxr.2.1 hxr.2.2)
      have hkl : (nd g' x).2.2.length ≤ 6 := hkx.1
      refine ⟨by omega, by omega, by omega, by omega, by omega, hxr.2, fun ht => ⟨by omega, by omega, hxr.2, by show list.length + (nd g' x).2.2.length ≤ _; omega, ?_⟩, fun ht => ?_⟩
      · rw [wj]
        refine ih _ _ _ _ _ ⟨rfl, j + 1, rfl, by simp only [List.length_append]; omega, fun y hy => ?_, hnd2, fun y hy => ?_, fun q h => ?_, fun y hy => List.mem_append_left _ (hkid y hy), fun y hy h2 z hz => ?_, ?_⟩ ?_
        · rcases List.mem_append.1 hy with h | h
          · exact hl y h
          · exact ⟨.step hxr.1 ht h, hkx.2 y h⟩
        · rcases List.mem_append.1 hy with h | h
          · exact List.mem_append_left _ (hol y h)
          · simp at h; subst h; exact List.mem_append_left _ hm
        · rw [getD_left (by omega)]
          by_cases e : q = j
          · subst e; rw [hx]; simp
          · exact List.mem_append_left _ (hq q (by omega))
        · rcases List.mem_append.1 hy with h | h
          · exact List.mem_append_left _ (hst y h h2 z hz)
          · simp at h; subst h; exact List.mem_append_right _ hz
        · simp only [List.length_append, List.length_cons, List.length_nil]
          have : (rdx ((0 : Int), ((0 : Int), ([] : List Int))) g' x).2.2.length ≤ 6 := hkl
          omega
        · simp only [List.length_append, List.length_cons, List.length_nil, Int.toNat_natCast]
          have : (rdx ((0 : Int), ((0 : Int), ([] : List Int))) g' x).2.2.length ≤ 6 := hkl
          omega
      · rw [wj]
        refine ih _ _ _ _ _ ⟨rfl, j + 1, rfl, by omega, hl, hnd2, fun y hy => ?_, fun q h => ?_, hkid, fun y hy h2 z hz => ?_, ?_⟩ ?_
        · rcases List.mem_append.1 hy with h | h
          · exact hol y h
          · simp at h; subst h; exact hm
        · by_cases e : q = j
          · subst e; rw [hx]; simp
          · exact List.mem_append_left _ (hq q (by omega))
        · rcases List.mem_append.1 hy with h | h
          · exact hst y h h2 z hz
          · simp at h; subst h; exact absurd h2 ht
        · simp only [List.length_append, List.length_cons, List.length_nil]; omega
        · simp only [List.length_append, List.length_cons, List.length_nil, Int.toNat_natCast]; omega
    · have hmo : x ∈ out := by
        rcases hv with ⟨e, _⟩ | ⟨i, e, hi, he, _⟩
        · omega
        · rw [← he, List.getD_eq_getElem?_getD, List.getElem?_eq_getElem hi]; exact List.getElem_mem _
      rw [wj]
      refine ih _ _ _ _ _ ⟨rfl, j + 1, rfl, by omega, hl, hnd, hol, fun q h => ?_, hkid, hst, hlen⟩ (by simp only [Int.toNat_natCast]; omega)
      by_cases e : q = j
      · subst e; rw [hx]; exact hmo
      · exact hq q (by omega)
  · have hall : ∀ x ∈ list, x ∈ out := by
      intro x hx
      obtain ⟨i, hi, e⟩ := List.getElem_of_mem hx
      have := hq i (by omega)
      rwa [List.getD_eq_getElem?_getD, List.getElem?_eq_getElem hi, Option.getD_some, e] at this
    refine ⟨out, rfl, fun x => ⟨fun hx => (hl x (hol x hx)).1, fun hx => ?_⟩, hnd, hout⟩
    induction hx with
    | kid hk' => exact hall _ (hkid _ hk')
    | step _ h2 hk' ih' => exact hall _ (hst _ ih' h2 _ hk')
end Go.Gx

/-
  Laws, part 9: graphs that are drawn.
-/
set_option linter.unusedVariables false
set_option linter.unusedSimpArgs false
namespace Go.Gx
theorem NodeOk.kidly {g : List PNode} {n : PNode} (h : NodeOk g n) : n.2.2.length ≤ 6 ∧ InR g n.2.2 := ⟨h.1, h.2.1⟩
theorem validGraph_tot {g : List PNode} {root : Int} (hg : g.length ≤ 1000000) (hk : ∀ n ∈ g, n.2.2.length ≤ 1000000) : Tot (fun σ => F_Z45 (σ 0) g root) (Says (ValidG g root)) := by
  refine tot_Z45 ?_
  unfold B_Z45
  refine (inRange_tot' (len g) 1 12).bind ?_
  rintro _ rfl
  have j0 : ∀ b : Bool, (b = false ↔ 1 ≤ g.length ∧ g.length ≤ 12 ∧ 0 ≤ root ∧ root < (g.length : Int)) → Tot (fun σ => B_Z45_J0 (σ 0) (F_Z82 (σ 0)) (F_Z58 (σ 0)) (F_Z44 (σ 0)) (F_Z77 (σ 0)) g root b) (Says (ValidG g root)) := by
    intro b hb
    unfold B_Z45_J0
    rw [tot_cond]
    refine ⟨fun ht => ?_, fun hf => ?_⟩
    · rw [tot_some]
      refine says_false fun h => ?_
      have := hb.2 ⟨h.pos, h.most, h.root⟩
      rw [ht] at this
      cases this
    obtain ⟨p1, p2, p3⟩ := hb.1 hf
    have key := loop_Z45_L1 (Q := fun _ _ _ r => Says (ValidG g root) r) (I := fun g' r' i => g' = g ∧ r' = root ∧ ∃ j : Nat, i = j ∧ j ≤ g.length ∧ ∀ q : Nat, q < j → NodeOk g (nd g q)) (μ := fun _ _ i => (g.length - i).toNat) ?_
    · exact key g root 0 ⟨rfl, rfl, 0, rfl, by omega, fun q hq => by omega⟩
    intro g' r' i ⟨e1, e2, j, e3, hj, hq⟩ again hag ih
    subst e1 e2 e3
    unfold B_Z45_L1b
    simp only [tot_cond, tot_chk, tot_some, decide_eq_true_eq, decide_eq_false_iff_not, len, inb_iff]
    refine ⟨fun hlt => ⟨by omega, ?_⟩, fun hge => ?_⟩
    · have hm : nd g' (j : Int) ∈ g' := nd_mem (by omega) hlt
      refine (validNode_tot hg (nd g' (j : Int)) (hk _ hm)).bind ?_
      rintro _ ⟨b2, rfl, hb2⟩
      simp only [tot_cond, tot_some, Bool.not_eq_true', Bool.not_eq_false']
      refine ⟨fun hf2 => says_false fun h => ?_, fun ht2 => ?_⟩
      · have := hb2.2 (h.node _ hm); rw [hf2] at this; cases this
      · rw [w64_succ (by omega) (by omega)]
        refine ih _ _ _ ⟨rfl, rfl, j + 1, rfl, by omega, fun q h => ?_⟩ (by simp; omega)
        by_cases e : q = j
        · subst e; exact hb2.1 ht2
        · exact hq q (by omega)
    · have hnode : ∀ n ∈ g', NodeOk g' n := by
        intro n hn
        obtain ⟨i, hi, e⟩ := List.getElem_of_mem hn
        have := hq i (by omega)
        rw [nd, rdx_eq, Int.toNat_natCast, List.getD_eq_getElem?_getD, List.getElem?_eq_getElem hi, Option.getD_some, e] at this
        exact this
      have hkid : Kidly g' := fun n hn => (hnode n hn).kidly
      have key2 := loop_Z45_L3 (Q := fun _ _ _ r => Says (ValidG g' r') r) (I := fun g2 r2 i => g2 = g' ∧ r2 = r' ∧ ∃ j : Nat, i = j ∧ j ≤ g'.length ∧ ∀ q : Nat, q < j → (nd g' q).1 = 2 → ¬ TReach g' q q) (μ := fun _ _ i => (g'.length - i).toNat) ?_
      · exact key2 g' r' 0 ⟨rfl, rfl, 0, rfl, by omega, fun q hq => by omega⟩
      intro g2 r2 i ⟨e1, e2, m, e3, hm, ht⟩ again2 hag2 ih2
      subst e1 e2 e3
      unfold B_Z45_L3b B_Z45_J2
      have next : ¬ ((nd g2 (m : Int)).1 = 2 ∧ TReach g2 m m) → (m : Int) < g2.length → Tot (fun σ => again2 σ ((g2, r2, ()), w64 ((m : Int) + 1), ())) (Says (ValidG g2 r2)) := by
        intro hn hlt
        rw [w64_succ (by omega) (by omega)]
        refine ih2 _ _ _ ⟨rfl, rfl, m + 1, rfl, by omega, fun q h h2 => ?_⟩ (by simp; omega)
        by_cases e : q = m
        · subst e; exact fun h3 => hn ⟨h2, h3⟩
        · exact ht q (by omega) h2
      simp only [tot_cond, tot_chk, tot_jn, tot_some, decide_eq_true_eq, decide_eq_false_iff_not, len, inb_iff, beq_iff_eq, beq_eq_false_iff_ne, ne_eq]
      refine ⟨fun hlt => ⟨by omega, fun h2 => ?_, fun h2 => ⟨fun h => absurd h (by decide), fun _ => next (fun h => h2 h.1) hlt⟩⟩, fun hge => says_true ⟨p1, p2, p3, hnode, fun i hi => ht i (by omega)⟩⟩
      refine (tupleReach_tot hkid hg (by omega) hlt).bind ?_
      rintro _ ⟨out, rfl, ho, hnd, hol⟩
      refine (placeIn_tot (by simp only []; omega) _).bind ?_
      rintro _ ⟨v, rfl, hv⟩
      simp only [tot_cond, tot_jn, tot_some, decide_eq_true_eq, decide_eq_false_iff_not]
      refine ⟨fun hpos => says_false fun h => ?_, fun hneg => next (fun h => ?_) hlt⟩
      · refine h.tup m (by omega) h2 ((ho _).1 ?_)
        rcases hv with ⟨e, _⟩ | ⟨i, e, hi, he, _⟩
        · omega
        · rw [← he, List.getD_eq_getElem?_getD, List.getElem?_eq_getElem hi]; exact List.getElem_mem _
      · rcases hv with ⟨_, hno⟩ | ⟨i, e, _⟩
        · exact hno ((ho _).2 h.2)
        · omega
  simp only [tot_cond, tot_jn, Bool.not_eq_true', Bool.not_eq_false', decide_eq_true_eq, decide_eq_false_iff_not, len]
  refine ⟨fun h => j0 true ⟨fun h' => Bool.noConfusion h', fun h' => by omega⟩, fun h => ?_⟩
  rw [show w64 ((g.length : Int) - 1) = (g.length : Int) - 1 from w64_id (by omega) (by omega)]
  refine (inRange_tot' root 0 _).bind ?_
  rintro _ rfl
  rw [tot_jn]
  refine j0 _ ?_
  rw [Bool.not_eq_false', decide_eq_true_eq]
  omega
/-- A node without kids, drawn. -/
def LeafOk (k v : Int) : Prop := (k = 0 ∧ 0 ≤ v ∧ v ≤ 999) ∨ (k = 1 ∧ 0 ≤ v ∧ v ≤ 9) ∨ (2 ≤ k ∧ k ≤ 4 ∧ v = 0) ∨ (k = 5 ∧ 0 ≤ v ∧ v ≤ 9)
theorem someNode_tot {b : List Int} {p : Int} (h : RD b p) (hp : p ≤ 900000000) : Tot (fun σ => F_Z71 (σ 0) b p) (Drawn b p 3 fun x => ∃ k v, x = ((k, v, (), ()), ()) ∧ LeafOk k v) := by
  refine tot_Z71 ?_
  unfold B_Z71 B_Z71_J0 B_Z71_J1
  refine (pick_tot h (by omega) (by omega)).bind ?_
  rintro _ ⟨_, q, rfl, h1, h2, c, rfl, h3, h4⟩
  have h4 := h4 (by omega)
  have hq := h.next h1 (by omega)
  have fin : ∀ (q' k v : Int), p ≤ q' → q' ≤ p + 3 → LeafOk k v → Drawn b p 3 (fun x => ∃ k v, x = ((k, v, (), ()), ()) ∧ LeafOk k v) (((k, v, (), ()), ()), ((b, q', ()), ())) := fun q' k v h1 h2 h3 => ⟨_, _, rfl, h1, h2, k, v, rfl, h3⟩
  have last : Tot (fun σ => (F_Z32 (σ 0) b q 3).bind fun r30 => some ((((5 : Int), r30.1.1, (), ()), ()), ((r30.2.1.1, r30.2.1.2.1, ()), ()))) (Drawn b p 3 (fun x => ∃ k v, x = ((k, v, (), ()), ()) ∧ LeafOk k v)) := by
    refine (pick_tot hq (by omega) (by omega)).bind ?_
    rintro _ ⟨_, q2, rfl, g1, g2, a, rfl, g3, g4⟩
    have g4 := g4 (by omega)
    rw [tot_some]
    exact fin q2 5 a (by omega) (by omega) (.inr (.inr (.inr (by omega))))
  simp only [tot_cond, tot_jn, tot_some, beq_iff_eq, beq_eq_false_iff_ne, ne_eq]
  have s2 : Drawn b p 3 (fun x => ∃ k v, x = ((k, v, (), ()), ()) ∧ LeafOk k v) (((2, 0, (), ()), ()), ((b, q, ()), ())) := fin q 2 0 (by omega) (by omega) (.inr (.inr (.inl (by omega))))
  have s3 : Drawn b p 3 (fun x => ∃ k v, x = ((k, v, (), ()), ()) ∧ LeafOk k v) (((3, 0, (), ()), ()), ((b, q, ()), ())) := fin q 3 0 (by omega) (by omega) (.inr (.inr (.inl (by omega))))
  have s4 : Drawn b p 3 (fun x => ∃ k v, x = ((k, v, (), ()), ()) ∧ LeafOk k v) (((4, 0, (), ()), ()), ((b, q, ()), ())) := fin q 4 0 (by omega) (by omega) (.inr (.inr (.inl (by omega))))
  refine ⟨fun h0 => ?_, fun h0 => ⟨fun h1' => ?_, fun h1' => ?_⟩⟩
  · refine (pick_tot hq (by omega) (by omega)).bind ?_
    rintro _ ⟨_, q2, rfl, g1, g2, a, rfl, g3, g4⟩
    have g4 := g4 (by omega)
    refine (one_tot (hq.next g1 (by omega)) (by omega) (by simp) (by simp)).bind ?_
    rintro _ ⟨_, q3, rfl, f1, f2, v, rfl, hv⟩
    rw [tot_some]
    simp only [List.mem_cons, List.not_mem_nil, or_false] at hv
    exact fin q3 0 v (by omega) (by omega) (.inl (by omega))
  · refine (pick_tot hq (by omega) (by omega)).bind ?_
    rintro _ ⟨_, q2, rfl, g1, g2, a, rfl, g3, g4⟩
    have g4 := g4 (by omega)
    rw [tot_some]
    exact fin q2 1 a (by omega) (by omega) (.inr (.inl (by omega)))
  · simp only [s2, s3, s4, last, implies_true, and_self]
end Go.Gx

/-
  Laws, part 10: a graph that is drawn is valid.
-/
set_option linter.unusedVariables false
set_option linter.unusedSimpArgs false
namespace Go.Gx
abbrev ONode : Type := Int × Int × Option (List Int)
abbrev od : ONode := ((0 : Int), ((0 : Int), (none : Option (List Int))))
abbrev cvN (p : ONode) : PNode := (p.1, (p.2.1, p.2.2.getD []))
theorem set_getD {α : Type} {l : List α} {i : Nat} {d : α} : l.set i (l.getD i d) = l := by
  by_cases h : i < l.length
  · rw [List.getD_eq_getElem?_getD, List.getElem?_eq_getElem h, Option.getD_some]; exact List.set_getElem_self h
  · rw [List.set_eq_of_length_le (by omega)]
theorem getD_set_ne {α : Type} {l : List α} {i j : Nat} {x d : α} (h : j ≠ i) : (l.set i x).getD j d = l.getD j d := by
  rw [List.getD_eq_getElem?_getD, List.getD_eq_getElem?_getD, List.getElem?_set_ne (by omega)]
def AddOk (g : List ONode) (root : Int) (i : Nat) (x : (List ONode × Int × Unit) × Unit) : Prop :=
  ∃ g', x = ((g', root, ()), ()) ∧ ValidG (g'.map cvN) root ∧ g'.length = g.length ∧ ∀ j, j ≠ i → g'.getD j od = g.getD j od
theorem addKids_tot {b : List Int} {p : Int} (h : RD b p) (hp : p ≤ 800000000) {g : List ONode} {root : Int} (hv : ValidG (g.map cvN) root) {i : Nat} (hi : i < g.length) (hn : (g.getD i od).2.2 = none) :
    Tot (fun σ => F_Z76 (σ 0) b p g root i) (Drawn b p 20 (AddOk g root i)) := by
  have hlen : g.length ≤ 12 := by have := hv.most; simpa using this
  refine tot_Z76 ?_
  unfold B_Z76
  simp only [tot_chk, inb_iff, decide_eq_true_eq, Int.toNat_natCast]
  refine ⟨by omega, hi, (one_tot h (by omega) (by simp) (by simp)).bind ?_⟩
  rintro _ ⟨_, q, rfl, h1, h2, n, rfl, hnm⟩
  have hnn : 0 ≤ n ∧ n ≤ 4 := by
    simp only [List.mem_cons, List.not_mem_nil, or_false] at hnm
    omega
  rw [tot_chk]
  refine ⟨by rw [show (g.getD i od).2.2 = none from hn]; rfl, ?_⟩
  have key := loop_Z76_L3 (Q := fun _ _ _ _ _ _ _ _ _ _ r => Drawn b p 20 (AddOk g root i) r)
    (I := fun b' q' at2 g' r' _ k v kids m => b' = b ∧ at2 = (i : Int) ∧ g' = g ∧ r' = root ∧ p ≤ q' ∧ q' + 4 * m ≤ p + 17 ∧ 0 ≤ m ∧ m ≤ 4 ∧ (kids.length : Int) + 2 * m ≤ 10) (μ := fun _ _ _ _ _ _ _ _ _ m => m.toNat) ?_
  · exact key b q i g root 0 _ _ [] n ⟨rfl, rfl, rfl, rfl, h1, by omega, hnn.1, hnn.2, by simp; omega⟩
  intro b' q' at2 g' r' t6 k v kids m ⟨e1, e2, e3, e4, g1, g2, g3, g4, g5⟩ again hag ih
  subst e1 e2 e3 e4
  have hr := h.next g1 (by omega)
  unfold B_Z76_L3b
  rw [tot_cond]
  simp only [decide_eq_true_eq, decide_eq_false_iff_not]
  refine ⟨fun hm => ?_, fun hm => ?_⟩
  · -- a round
    have w : w64 (m - 1) = m - 1 := w64_id (by omega) (by omega)
    have j2 : ∀ (q2 : Int) (kids2 : List Int), q' ≤ q2 → q2 ≤ q' + 4 → kids2.length ≤ kids.length + 2 → Tot (fun σ => B_Z76_J2 (σ 0) (F_Z40 (σ 0)) (F_Z32 (σ 0)) (F_s_isKey (σ 0)) (F_Z45 (σ 0)) (again σ) b' q2 i g' r' t6 k v kids2 m) (Drawn b' p 20 (AddOk g' r' i)) := by
      intro q2 kids2 k1 k2 k3
      unfold B_Z76_J2
      rw [w]
      exact ih _ _ _ _ _ _ _ _ _ _ ⟨rfl, rfl, rfl, rfl, by omega, by omega, by omega, by omega, by omega⟩ (by omega)
    have hkl : kids.length ≤ 10 := by omega
    have j1 : ∀ (q2 kid : Int) (t : Bool), q' ≤ q2 → q2 ≤ q' + 2 → Tot (fun σ => B_Z76_J1 (σ 0) (F_Z40 (σ 0)) (F_Z32 (σ 0)) (F_s_isKey (σ 0)) (F_Z45 (σ 0)) (again σ) b' q2 i g' r' t6 k v kids m kid t) (Drawn b' p 20 (AddOk g' r' i)) := by
      intro q2 kid t k1 k2
      unfold B_Z76_J1
      rw [tot_cond]
      refine ⟨fun _ => ?_, fun _ => ?_⟩
      · refine (pick_tot (hr.next k1 (by omega)) (by omega) (by simp only [len]; omega)).bind ?_
        rintro _ ⟨_, q3, rfl, f1, f2, y, rfl, f3, f4⟩
        rw [tot_chk]
        refine ⟨room_iff.2 (by simp only [List.length_cons, List.length_nil]; omega), ?_⟩
        rw [tot_jn]
        exact j2 q3 _ (by omega) (by omega) (by simp)
      · rw [tot_jn]
        exact j2 q2 kids k1 (by omega) (by omega)
    refine (pick_tot hr (by omega) (by simp only [len]; omega)).bind ?_
    rintro _ ⟨_, q2, rfl, f1, f2, kid, rfl, f3, f4⟩
    have f4 := f4 (by simp only [len]; omega)
    simp only [len] at f4
    have j0 : ∀ (t : Bool), Tot (fun σ => B_Z76_J0 (σ 0) (F_Z40 (σ 0)) (F_Z32 (σ 0)) (F_s_isKey (σ 0)) (F_Z45 (σ 0)) (again σ) b' q2 i g' r' t6 k v kids m kid k t) (Drawn b' p 20 (AddOk g' r' i)) := by
      intro t
      unfold B_Z76_J0
      rw [tot_cond]
      refine ⟨fun _ => ?_, fun _ => ?_⟩
      · rw [tot_chk]
        refine ⟨room_iff.2 (by simp only [List.length_cons, List.length_nil]; omega), ?_⟩
        rw [tot_jn]
        exact j2 q2 _ f1 (by omega) (by simp)
      · rw [tot_cond]
        refine ⟨fun _ => ?_, fun _ => ?_⟩
        · rw [tot_jn]
          exact j2 q2 _ f1 (by omega) (by simp)
        · rw [tot_cond]
          refine ⟨fun _ => ?_, fun _ => ?_⟩
          · rw [tot_cond]
            refine ⟨fun _ => ?_, fun _ => ?_⟩
            · simp only [tot_chk, inb_iff, decide_eq_true_eq]
              refine ⟨by omega, by omega, (isKey_tot _ _ []).bind ?_⟩
              rintro _ ⟨b2, rfl, _⟩
              rw [tot_jn]
              exact j1 q2 kid _ f1 (by omega)
            · rw [tot_jn]
              exact j1 q2 kid _ f1 (by omega)
          · rw [tot_jn]
            exact j2 q2 kids f1 (by omega) (by omega)
    rw [tot_cond]
    refine ⟨fun _ => ?_, fun _ => ?_⟩
    · rw [tot_jn]; exact j0 _
    · rw [tot_jn]; exact j0 _
  · -- the end
    have hkl : kids.length ≤ 10 := by omega
    simp only [tot_chk, inb_iff, decide_eq_true_eq, Int.toNat_natCast]
    refine ⟨by omega, hi, by omega, hi, ?_⟩
    have hkl2 : ∀ n ∈ (g'.set i (k, (v, (some kids)))).map cvN, n.2.2.length ≤ 1000000 := by
      intro n hn'
      obtain ⟨o, ho, rfl⟩ := List.mem_map.1 hn'
      rcases List.mem_or_eq_of_mem_set ho with ho | rfl
      · have := (hv.node (cvN o) (List.mem_map.2 ⟨o, ho, rfl⟩)).1
        omega
      · show kids.length ≤ _; omega
    refine (validGraph_tot (root := r') (by simp; omega) hkl2).bind ?_
    rintro _ ⟨b2, rfl, hb2⟩
    unfold B_Z76_J4
    simp only [tot_cond, tot_chk, tot_jn, tot_some, Bool.not_eq_true', Bool.not_eq_false', inb_iff, decide_eq_true_eq, List.length_set, Int.toNat_natCast]
    refine ⟨fun _ => ⟨by omega, hi, _, _, rfl, g1, by omega, g', ?_, hv, rfl, fun j _ => rfl⟩, fun ht => ⟨_, _, rfl, g1, by omega, _, rfl, hb2.1 ht, by simp, fun j hj => getD_set_ne hj⟩⟩
    rw [List.set_set]
    exact congrArg (fun l => ((l, r', ()), ())) (set_getD (d := od))
theorem leaf_valid {g : List ONode} {root : Int} (hp : 1 ≤ g.length) (hm : g.length ≤ 12) (hr : 0 ≤ root ∧ root < (g.length : Int)) (hn : ∀ n ∈ g, LeafOk n.1 n.2.1 ∧ n.2.2 = none) : ValidG (g.map cvN) root := by
  have hnd : ∀ i, (nd (g.map cvN) i).2.2 = [] := by
    intro i
    unfold nd
    rw [rdx_eq, List.getD_eq_getElem?_getD, List.getElem?_map]
    cases hq : g[i.toNat]? with
    | none => rfl
    | some o =>
      have := (hn o (List.mem_of_getElem? hq)).2
      simp [this]
  refine ⟨by simpa using hp, by simpa using hm, by simpa using hr, fun n hn' => ?_, fun i _ _ ht => ?_⟩
  · obtain ⟨o, ho, rfl⟩ := List.mem_map.1 hn'
    obtain ⟨hl, hno⟩ := hn o ho
    refine ⟨by simp [hno], fun x hx => by simp [hno] at hx, ?_⟩
    simp only [hno, Option.getD_none]
    rcases hl with ⟨e, h1, h2⟩ | ⟨e, h1, h2⟩ | ⟨h1, h2, h3⟩ | ⟨e, h1, h2⟩
    · rw [if_pos e]; exact ⟨h1, h2, trivial⟩
    · rw [if_neg (by omega), if_pos e]; exact ⟨h1, h2, trivial⟩
    · rw [if_neg (by omega), if_neg (by omega)]
      by_cases e : o.1 = 2 ∨ o.1 = 3
      · rw [if_pos e]; exact h3
      · rw [if_neg e, if_pos (by omega)]
        exact ⟨h3, ⟨fun i hi => by simp at hi, by simp⟩⟩
    · rw [if_neg (by omega), if_neg (by omega), if_neg (by omega), if_neg (by omega), if_pos e]; exact ⟨h1, h2, by simp⟩
  · cases ht with
    | kid hk => rw [hnd] at hk; simp at hk
    | step _ _ hk => rw [hnd] at hk; simp at hk
theorem someGraph_tot {b : List Int} {p : Int} (h : RD b p) (hp : p ≤ 700000000) : Tot (fun σ => F_Z62 (σ 0) b p) (Drawn b p 400 fun x => ∃ (g : List PNode) (root : Int), x = ((g, root, ()), ()) ∧ ValidG g root) := by
  refine tot_Z62 ?_
  unfold B_Z62
  refine (one_tot h (by omega) (by simp) (by simp)).bind ?_
  rintro _ ⟨_, q, rfl, h1, h2, n, rfl, hnm⟩
  have hnn : 1 ≤ n ∧ n ≤ 10 := by
    simp only [List.mem_cons, List.not_mem_nil, or_false] at hnm
    omega
  have key := loop_Z62_L0 (Q := fun _ _ _ _ _ _ r => Drawn b p 400 (fun x => ∃ (g : List PNode) (root : Int), x = ((g, root, ()), ()) ∧ ValidG g root) r)
    (I := fun b' q' _ g' _ m => b' = b ∧ p ≤ q' ∧ q' + 3 * m ≤ p + 40 ∧ 0 ≤ m ∧ m ≤ 10 ∧ 1 ≤ (g'.length : Int) + m ∧ (g'.length : Int) + m ≤ 10 ∧ ∀ x ∈ g', LeafOk x.1 x.2.1 ∧ x.2.2 = none) (μ := fun _ _ _ _ _ m => m.toNat) ?_
  · exact key b q 0 [] 0 n ⟨rfl, h1, by omega, by omega, hnn.2, by simp; omega, by simp; omega, fun x hx => by simp at hx⟩
  intro b' q' t2 g' r0 m ⟨e1, g1, g2, g3, g4, g5, g6, g7⟩ again hag ih
  subst e1
  have hr := h.next g1 (by omega)
  unfold B_Z62_L0b
  rw [tot_cond]
  simp only [decide_eq_true_eq, decide_eq_false_iff_not]
  refine ⟨fun hm => ?_, fun hm => ?_⟩
  · refine (someNode_tot hr (by omega)).bind ?_
    rintro _ ⟨_, q2, rfl, f1, f2, k, v, rfl, hl⟩
    rw [tot_chk]
    refine ⟨room_iff.2 (by simp only [List.length_cons, List.length_nil]; omega), ?_⟩
    rw [show w64 (m - 1) = m - 1 from w64_id (by omega) (by omega)]
    refine ih b' q2 t2 (g' ++ [(k, (v, none))]) r0 (m - 1) ⟨rfl, by omega, by omega, by omega, by omega, ?_, ?_, fun x hx => ?_⟩ (by omega)
    · simp only [List.length_append, List.length_cons, List.length_nil]; omega
    · simp only [List.length_append, List.length_cons, List.length_nil]; omega
    · rcases List.mem_append.1 hx with hx | hx
      · exact g7 x hx
      · simp only [List.mem_cons, List.not_mem_nil, or_false] at hx
        subst hx
        exact ⟨hl, rfl⟩
  · have hgl : 1 ≤ g'.length ∧ g'.length ≤ 10 := by omega
    have hrt : w64 (len g' - 1) = (g'.length : Int) - 1 := by rw [w64_id] <;> simp only [len] <;> omega
    rw [hrt]
    have key2 := loop_Z62_L1 (Q := fun _ _ _ _ _ _ r => Drawn b' p 400 (fun x => ∃ (g : List PNode) (root : Int), x = ((g, root, ()), ()) ∧ ValidG g root) r)
      (I := fun b2 q2 _ g2 r2 i => b2 = b' ∧ p ≤ q2 ∧ ∃ j : Nat, i = j ∧ j ≤ g2.length ∧ g2.length ≤ 10 ∧ 1 ≤ g2.length ∧ q2 ≤ p + 40 + 20 * i ∧ ValidG (g2.map cvN) r2 ∧ ∀ x : Nat, j ≤ x → (g2.getD x od).2.2 = none) (μ := fun _ _ _ g2 _ i => (g2.length - i).toNat) ?_
    · refine key2 b' q' t2 g' _ 0 ⟨rfl, g1, 0, rfl, by omega, hgl.2, hgl.1, by omega, leaf_valid hgl.1 (by omega) (by omega) g7, fun x _ => ?_⟩
      rw [List.getD_eq_getElem?_getD]
      cases hq : g'[x]? with
      | none => rfl
      | some o => exact (g7 o (List.mem_of_getElem? hq)).2
    intro b2 q2 t3 g2 r2 i ⟨e1, f1, j, e2, hj, hl10, hl1, f2, hv, hno⟩ again2 hag2 ih2
    subst e1 e2
    have hr2 := h.next f1 (by omega)
    unfold B_Z62_L1b B_Z62_J2
    rw [tot_cond]
    simp only [decide_eq_true_eq, decide_eq_false_iff_not, len]
    refine ⟨fun hlt => ?_, fun hge => ?_⟩
    · refine (addKids_tot hr2 (by omega) hv (i := j) (by omega) (hno j (Nat.le_refl _))).bind ?_
      rintro _ ⟨_, q3, rfl, k1, k2, g3', rfl, hv3, hlen3, hsame⟩
      rw [w64_succ (by omega) (by omega)]
      refine ih2 b2 q3 t3 g3' r2 ((j + 1 : Nat) : Int) ⟨rfl, by omega, j + 1, rfl, by omega, by omega, by omega, by omega, hv3, fun x hx => ?_⟩ (by omega)
      rw [hsame x (by omega)]
      exact hno x (by omega)
    · refine (pick_tot hr2 (by omega) (by omega)).bind ?_
      rintro _ ⟨_, q3, rfl, k1, k2, u, rfl, k3, k4⟩
      rw [tot_cond]
      refine ⟨fun _ => ?_, fun _ => ?_⟩
      · refine (pick_tot (hr2.next k1 (by omega)) (by omega) (by omega)).bind ?_
        rintro _ ⟨_, q4, rfl, l1, l2, rt, rfl, l3, l4⟩
        have l4 := l4 (by omega)
        rw [tot_jn, tot_some]
        exact ⟨_, q4, rfl, by omega, by omega, _, rt, rfl, ⟨hv.pos, hv.most, by simpa using ⟨l3, l4⟩, hv.node, hv.tup⟩⟩
      · rw [tot_jn, tot_some]
        exact ⟨_, q3, rfl, by omega, by omega, _, r2, rfl, hv⟩
end Go.Gx

/-
  Laws, part 11: to write a valid graph comes to an end.
-/
set_option linter.unusedVariables false
set_option linter.unusedSimpArgs false
namespace Go.Gx
open Classical in
noncomputable def rk (g : List PNode) (i : Int) : Nat := ((List.range g.length).filter (fun (j : Nat) => decide (TReach g i (j : Int)))).length
theorem filter_lt {α : Type} {p q : α → Bool} : ∀ {l : List α}, (∀ x ∈ l, p x = true → q x = true) → (l.filter p).length ≤ (l.filter q).length
  | [], _ => by simp
  | x :: l, h => by
    have ih := filter_lt (p := p) (q := q) (l := l) (fun y hy => h y (List.mem_cons_of_mem _ hy))
    cases hp : p x with
    | true => simp [List.filter_cons, hp, h x (by simp) hp, ih]
    | false =>
      cases hq : q x with
      | true => simp [List.filter_cons, hp, hq]; omega
      | false => simp [List.filter_cons, hp, hq, ih]
theorem filter_lt' {α : Type} {p q : α → Bool} {a : α} : ∀ {l : List α}, (∀ x ∈ l, p x = true → q x = true) → a ∈ l → p a = false → q a = true → (l.filter p).length < (l.filter q).length
  | [], _, ha, _, _ => by simp at ha
  | x :: l, h, ha, hp, hq => by
    have h' := fun y hy => h y (List.mem_cons_of_mem x hy)
    rcases List.mem_cons.1 ha with rfl | ha
    · have := filter_lt (p := p) (q := q) (l := l) h'
      simp [List.filter_cons, hp, hq]
      omega
    · have ih := filter_lt' h' ha hp hq
      cases hpx : p x with
      | true => simp [List.filter_cons, hpx, h x (by simp) hpx, ih]
      | false =>
        cases hqx : q x with
        | true => simp [List.filter_cons, hpx, hqx]; omega
        | false => simp [List.filter_cons, hpx, hqx, ih]
theorem rk_le (g : List PNode) (i : Int) : rk g i ≤ g.length := by
  unfold rk
  refine Nat.le_trans (List.length_filter_le _ _) ?_
  simp
theorem reach_in {g : List PNode} (hk : Kidly g) {i x : Int} (hi : 0 ≤ i ∧ i < (g.length : Int)) (h : TReach g i x) : 0 ≤ x ∧ x < (g.length : Int) := by
  induction h with
  | kid hm => exact (hk _ (nd_mem hi.1 hi.2)).2 _ hm
  | step _ _ hm ih => exact (hk _ (nd_mem ih.1 ih.2)).2 _ hm
theorem rk_lt {g : List PNode} {root : Int} (hv : ValidG g root) {i k : Int} (hi : 0 ≤ i ∧ i < (g.length : Int)) (hm : k ∈ (nd g i).2.2) (h2 : (nd g k).1 = 2) : rk g k < rk g i := by
  have hk : Kidly g := fun n hn => (hv.node n hn).kidly
  have hki := reach_in hk hi (.kid hm)
  obtain ⟨m, rfl⟩ := Int.eq_ofNat_of_zero_le hki.1
  have up : ∀ x, TReach g (m : Int) x → TReach g i x := by
    intro x hx
    induction hx with
    | kid hk' => exact .step (.kid hm) h2 hk'
    | step _ h3 hk' ih => exact .step ih h3 hk'
  unfold rk
  refine filter_lt' (a := m) (fun x _ hx => ?_) (by simp; omega) ?_ ?_
  · simp only [decide_eq_true_eq] at hx ⊢
    exact up _ hx
  · simp only [decide_eq_false_iff_not]
    exact hv.tup m (by omega) h2
  · simp only [decide_eq_true_eq]
    exact .kid hm
theorem rk_pos {g : List PNode} {root : Int} (hv : ValidG g root) {i k : Int} (hi : 0 ≤ i ∧ i < (g.length : Int)) (hm : k ∈ (nd g i).2.2) : 0 < rk g i := by
  have hk : Kidly g := fun n hn => (hv.node n hn).kidly
  have hki := reach_in hk hi (.kid hm)
  obtain ⟨m, rfl⟩ := Int.eq_ofNat_of_zero_le hki.1
  unfold rk
  refine List.length_pos_of_mem (a := m) ?_
  simp only [List.mem_filter, List.mem_range, decide_eq_true_eq]
  exact ⟨by omega, .kid hm⟩
/-- How many nodes that are no tuples are not in the memo. -/
def un (g : List PNode) (memo : List Int) : Nat := ((List.range g.length).filter (fun (i : Nat) => !((nd g (i : Int)).1 == 2) && decide (memo.getD i 0 < 0))).length
theorem un_le (g : List PNode) (memo : List Int) : un g memo ≤ g.length := by
  unfold un
  have := List.length_filter_le (fun (i : Nat) => !((nd g (i : Int)).1 == 2) && decide (memo.getD i 0 < 0)) (List.range g.length)
  simpa using this
theorem getD_set_eq {α : Type} {l : List α} {i : Nat} {x d : α} (h : i < l.length) : (l.set i x).getD i d = x := by
  rw [List.getD_eq_getElem?_getD, List.getElem?_set_self h]; rfl
theorem un_set {g : List PNode} {memo : List Int} {i : Nat} {v : Int} (hi : i < memo.length) (hv : 0 ≤ v) : un g (memo.set i v) ≤ un g memo := by
  unfold un
  refine filter_lt fun x _ hx => ?_
  simp only [Bool.and_eq_true, decide_eq_true_eq] at hx ⊢
  by_cases e : x = i
  · subst e; rw [getD_set_eq hi] at hx; omega
  · rw [getD_set_ne e] at hx; exact hx
theorem un_set' {g : List PNode} {memo : List Int} {i : Nat} {v : Int} (hi : i < memo.length) (hg : i < g.length) (hv : 0 ≤ v) (h2 : (nd g (i : Int)).1 ≠ 2) (hm : memo.getD i 0 < 0) : un g (memo.set i v) < un g memo := by
  unfold un
  refine filter_lt' (a := i) (fun x _ hx => ?_) (by simpa using hg) ?_ ?_
  · simp only [Bool.and_eq_true, decide_eq_true_eq] at hx ⊢
    by_cases e : x = i
    · subst e; rw [getD_set_eq hi] at hx; omega
    · rw [getD_set_ne e] at hx; exact hx
  · rw [getD_set_eq hi]
    simp; intro _; omega
  · simp only [Bool.and_eq_true, Bool.not_eq_true', beq_eq_false_iff_ne, ne_eq, decide_eq_true_eq]
    exact ⟨h2, hm⟩
theorem emit_tot {a b : List (Int × Int)} (h : a.length + b.length ≤ 540000000000) : Tot (fun σ => F_s_emit (σ 0) a b) (fun r => r = ((a ++ b, ()), ())) := by
  refine tot_s_emit ?_
  unfold B_s_emit
  simp only [tot_chk, tot_some, room_iff, List.length_nil, and_true]
  omega
theorem memoed_tot {ops : List (Int × Int)} {memo : List Int} {at2 : Nat} (hm : memo.length ≤ 1000) (ho : ops.length ≤ 530000000000) (ha : at2 < memo.length) :
    Tot (fun σ => F_s_memoed (σ 0) ops memo at2) (fun r => ∃ n : Int, 0 ≤ n ∧ r = ((ops ++ [(15, n)], memo.set at2 n, ()), ())) := by
  refine tot_s_memoed ?_
  unfold B_s_memoed
  have key := loop_s_memoed_L1 (Q := fun _ _ _ _ _ r => ∃ n : Int, 0 ≤ n ∧ r = ((ops ++ [(15, n)], memo.set at2 n, ()), ())) (I := fun o m a n i => o = ops ∧ m = memo ∧ a = (at2 : Int) ∧ ∃ j : Nat, i = j ∧ j ≤ memo.length ∧ 0 ≤ n ∧ n ≤ i) (μ := fun _ _ _ _ i => (memo.length - i).toNat) ?_
  · exact key ops memo at2 0 0 ⟨rfl, rfl, rfl, 0, rfl, by omega, by omega, by omega⟩
  intro o m a n i ⟨e1, e2, e3, j, e4, hj, h0, h1⟩ again hag ih
  subst e1 e2 e3 e4
  unfold B_s_memoed_L1b B_s_memoed_J0
  simp only [tot_cond, tot_chk, tot_jn, decide_eq_true_eq, decide_eq_false_iff_not, len, inb_iff]
  have wj : w64 ((j : Int) + 1) = ((j + 1 : Nat) : Int) := w64_succ (by omega) (by omega)
  have wn : w64 (n + 1) = n + 1 := w64_id (by omega) (by omega)
  rw [wj, wn]
  refine ⟨fun hlt => ⟨by omega, fun _ => ?_, fun _ => ?_⟩, fun hge => ?_⟩
  · exact ih o m at2 (n + 1) _ ⟨rfl, rfl, rfl, j + 1, rfl, by omega, by omega, by omega⟩ (by omega)
  · exact ih o m at2 n _ ⟨rfl, rfl, rfl, j + 1, rfl, by omega, by omega, by omega⟩ (by omega)
  · refine (copyInts_tot' (by omega)).bind ?_
    rintro _ rfl
    simp only [tot_chk, inb_iff, decide_eq_true_eq, Int.toNat_natCast]
    refine ⟨by omega, ha, (emit_tot (by simp only [List.length_cons, List.length_nil]; omega)).bind ?_⟩
    rintro _ rfl
    rw [tot_some]
    exact ⟨n, h0, rfl⟩
def GG : Nat → Nat
  | 0 => 2
  | r + 1 => 6 * GG r + 3
theorem GG_12 : GG 12 = 5659634073 := by decide
theorem GG_le : ∀ r, 2 ≤ GG r
  | 0 => by decide
  | r + 1 => by have := GG_le r; simp only [GG]; omega
/-- What a writing leaves. -/
def Wr (g : List PNode) (ops : List (Int × Int)) (memo : List Int) (c : Nat) (r : (List (Int × Int) × List Int × Unit) × Unit) : Prop :=
  ∃ ops' memo', r = ((ops', memo', ()), ()) ∧ memo'.length = g.length ∧ un g memo' ≤ un g memo ∧ ops'.length + 33957804446 * un g memo' ≤ ops.length + c + 33957804446 * un g memo
def SaveOk (g : List PNode) (root level : Int) (u r c : Nat) (at2 : Int) : Prop :=
  ∀ (ops : List (Int × Int)) (memo : List Int), memo.length = g.length → un g memo ≤ u → ops.length + c + 33957804446 * un g memo ≤ 500000000000 → Tot (fun σ => F_s_save (σ 0) g root level at2 ops memo) (Wr g ops memo c)
theorem saveAll_tot {g : List PNode} {root level : Int} {u r c : Nat} {list : List Int} (hl : list.length ≤ 6) (hS : ∀ x ∈ list, SaveOk g root level u r c x) {ops : List (Int × Int)} {memo : List Int} (hm : memo.length = g.length) (hu : un g memo ≤ u)
    (hb : ops.length + list.length * c + 33957804446 * un g memo ≤ 500000000000) : Tot (fun σ => F_Z73 (σ 0) g root level list ops memo) (Wr g ops memo (list.length * c)) := by
  refine tot_Z73 ?_
  unfold B_Z73
  have key := loop_Z73_L0 (Q := fun _ _ _ _ _ _ _ r => Wr g ops memo (list.length * c) r)
    (I := fun l' list' o m g' r' i => l' = level ∧ list' = list ∧ g' = g ∧ r' = root ∧ ∃ j : Nat, i = j ∧ j ≤ list.length ∧ m.length = g.length ∧ un g m ≤ un g memo ∧ o.length + 33957804446 * un g m ≤ ops.length + j * c + 33957804446 * un g memo) (μ := fun _ _ _ _ _ _ i => (list.length - i).toNat) ?_
  · exact key level list ops memo g root 0 ⟨rfl, rfl, rfl, rfl, 0, rfl, by omega, hm, Nat.le_refl _, by omega⟩
  intro l' list' o m g' r' i ⟨e1, e2, e3, e4, j, e5, hj, hml, hmu, hmo⟩ again hag ih
  subst e1 e2 e3 e4 e5
  unfold B_Z73_L0b
  simp only [tot_cond, tot_chk, tot_some, decide_eq_true_eq, decide_eq_false_iff_not, len, inb_iff]
  refine ⟨fun hlt => ⟨by omega, ?_⟩, fun hge => ?_⟩
  · have hjl : j + 1 ≤ list'.length := by omega
    have hmul : (j + 1) * c ≤ list'.length * c := Nat.mul_le_mul_right _ hjl
    rw [Nat.add_mul, Nat.one_mul] at hmul
    refine (hS _ (rdx_mem (by omega) hlt) o m hml (by omega) (by omega)).bind ?_
    rintro _ ⟨o2, m2, rfl, k1, k2, k3⟩
    rw [w64_succ (by omega) (by omega)]
    refine ih l' list' o2 m2 g' r' _ ⟨rfl, rfl, rfl, rfl, j + 1, rfl, by omega, k1, by omega, ?_⟩ (by simp; omega)
    rw [Nat.add_mul, Nat.one_mul]
    omega
  · have : j = list'.length := by omega
    subst this
    exact ⟨o, m, rfl, hml, hmu, hmo⟩
end Go.Gx

/-
  Laws, part 12: to write a valid graph comes to an end.
-/
set_option linter.unusedVariables false
set_option linter.unusedSimpArgs false
namespace Go.Gx
theorem sub_len' {α : Type} {l : List α} {a b : Nat} (h : a ≤ b) (hb : b ≤ l.length) : (sub l (a : Int) (b : Int)).length = b - a := by
  simp only [sub, Int.toNat_natCast, List.length_drop, List.length_take]; omega
theorem sub_mem {α : Type} {l : List α} {a b : Int} {x : α} (h : x ∈ sub l a b) : x ∈ l := List.mem_of_mem_take (List.mem_of_mem_drop h)
theorem fill_tot {g : List PNode} {root level : Int} {u c : Nat} {kids : List Int} (hl : kids.length ≤ 6) (hS : ∀ x ∈ kids, SaveOk g root level u 0 c x) {each one all : Int} (he : each = 1 ∨ each = 2 ∧ kids.length % 2 = 0) {ops : List (Int × Int)} {memo : List Int} (hm : memo.length = g.length) (hu : un g memo ≤ u)
    (hb : ops.length + (6 * c + 6) + 33957804446 * un g memo ≤ 500000000000) : Tot (fun σ => F_s_fill (σ 0) g root level kids each one all ops memo) (Wr g ops memo (6 * c + 6)) := by
  refine tot_s_fill ?_
  unfold B_s_fill
  have hkc : kids.length * c ≤ 6 * c := Nat.mul_le_mul_right _ hl
  have j0 : ∀ b : Bool, Tot (fun σ => B_s_fill_J0 (σ 0) (F_s_emit (σ 0)) (F_Z73 (σ 0)) level kids each one all ops memo g root b) (Wr g ops memo (6 * c + 6)) := by
    intro b
    unfold B_s_fill_J0
    rw [tot_cond]
    refine ⟨fun _ => ?_, fun _ => ?_⟩
    · refine (emit_tot (by simp only [List.length_cons, List.length_nil]; omega)).bind ?_
      rintro _ rfl
      refine (saveAll_tot hl hS hm hu (by simp only [List.length_append, List.length_cons, List.length_nil]; omega)).bind ?_
      rintro _ ⟨o2, m2, rfl, k1, k2, k3⟩
      simp only [List.length_append, List.length_cons, List.length_nil] at k3
      refine (emit_tot (by simp only [List.length_cons, List.length_nil]; omega)).bind ?_
      rintro _ rfl
      rw [tot_some]
      exact ⟨_, _, rfl, k1, k2, by simp only [List.length_append, List.length_cons, List.length_nil]; omega⟩
    · have key := loop_s_fill_L1 (Q := fun _ _ _ _ _ _ _ _ _ r => Wr g ops memo (6 * c + 6) r)
        (I := fun l' kids' each' one' o m g' r' i => l' = level ∧ kids' = kids ∧ each' = each ∧ one' = one ∧ g' = g ∧ r' = root ∧ ∃ j : Nat, i = j ∧ j ≤ kids.length ∧ (each = 2 → j % 2 = 0) ∧ m.length = g.length ∧ un g m ≤ un g memo ∧ o.length + 33957804446 * un g m ≤ ops.length + (j * c + j) + 33957804446 * un g memo)
        (μ := fun _ _ _ _ _ _ _ _ i => (kids.length - i).toNat) ?_
      · exact key level kids each one ops memo g root 0 ⟨rfl, rfl, rfl, rfl, rfl, rfl, 0, rfl, by omega, fun _ => rfl, hm, Nat.le_refl _, by omega⟩
      intro l' kids' each' one' o m g' r' i ⟨e1, e2, e3, e4, e5, e6, j, e7, hj, hj2, hml, hmu, hmo⟩ again hag ih
      subst e1 e2 e3 e4 e5 e6 e7
      unfold B_s_fill_L1b
      simp only [tot_cond, tot_chk, tot_some, decide_eq_true_eq, decide_eq_false_iff_not, len, cutb_iff]
      refine ⟨fun hlt => ?_, fun hge => ?_⟩
      · obtain ⟨e, he', he1⟩ : ∃ e : Nat, each' = (e : Int) ∧ 1 ≤ e ∧ e ≤ 2 ∧ j + e ≤ kids'.length ∧ (each' = 2 → (j + e) % 2 = 0) := by
          rcases he with h | ⟨h, h2⟩
          · exact ⟨1, h, by omega, by omega, by omega, fun h' => by omega⟩
          · have := hj2 h; exact ⟨2, h, by omega, by omega, by omega, fun _ => by omega⟩
        subst he'
        have wj : w64 ((j : Int) + (e : Int)) = ((j + e : Nat) : Int) := by rw [w64_id (by omega) (by omega)]; omega
        simp only [wj]
        have hsl := sub_len' (l := kids') (a := j) (b := j + e) (by omega) (by omega)
        have hec : (j + e) * c ≤ kids'.length * c := Nat.mul_le_mul_right _ (by omega)
        rw [Nat.add_mul] at hec
        refine ⟨by omega, (saveAll_tot (list := sub kids' (j : Int) ((j + e : Nat) : Int)) (by omega) (fun x hx => hS x (sub_mem hx)) hml (by omega) (by rw [hsl, show j + e - j = e by omega]; omega)).bind ?_⟩
        rintro _ ⟨o2, m2, rfl, k1, k2, k3⟩
        rw [hsl, show j + e - j = e by omega] at k3
        refine (emit_tot (by simp only [List.length_cons, List.length_nil]; omega)).bind ?_
        rintro _ rfl
        refine ih l' kids' _ one' _ m2 g' r' _ ⟨rfl, rfl, rfl, rfl, rfl, rfl, j + e, rfl, by omega, he1.2.2.2, k1, by omega, ?_⟩ (by simp; omega)
        simp only [List.length_append, List.length_cons, List.length_nil]
        rw [Nat.add_mul]
        omega
      · have : j = kids'.length := by omega
        subst this
        exact ⟨o, m, rfl, hml, hmu, by omega⟩
  rw [tot_cond]
  refine ⟨fun _ => ?_, fun _ => ?_⟩
  · rw [tot_jn]; exact j0 _
  · rw [tot_jn]; exact j0 _
theorem saveTuple_tot {g : List PNode} {root level : Int} {u r : Nat} (hg : g.length ≤ 12) {at2 : Nat} (ha : at2 < g.length) (h6 : (nd g (at2 : Int)).2.2.length ≤ 6) (hr : (nd g (at2 : Int)).2.2 ≠ [] → ∃ r', r = r' + 1 ∧ ∀ x ∈ (nd g (at2 : Int)).2.2, SaveOk g root level u 0 (GG r') x)
    {ops : List (Int × Int)} {memo : List Int} (hm : memo.length = g.length) (hu : un g memo ≤ u) (hb : ops.length + GG r + 33957804446 * un g memo ≤ 500000000000) : Tot (fun σ => F_Z57 (σ 0) g root level at2 ops memo) (Wr g ops memo (GG r)) := by
  refine tot_Z57 ?_
  unfold B_Z57
  have hG := GG_le r
  rw [tot_chk]
  refine ⟨inb_iff.2 (by omega), ?_⟩
  generalize hk : (nd g (at2 : Int)).2.2 = kids at h6 hr
  have hk' : (rdx ((0 : Int), ((0 : Int), ([] : List Int))) g (at2 : Int)).2.2 = kids := hk
  simp only [hk']
  rw [tot_cond]
  refine ⟨fun _ => ?_, fun hne => ?_⟩
  · refine (emit_tot (by simp only [List.length_cons, List.length_nil]; omega)).bind ?_
    rintro _ rfl
    refine (memoed_tot (by omega) (by simp only [List.length_append, List.length_cons, List.length_nil]; omega) (by omega)).bind ?_
    rintro _ ⟨n, hn, rfl⟩
    rw [tot_some]
    have := un_set (g := g) (memo := memo) (i := at2) (v := n) (by omega) hn
    exact ⟨_, _, rfl, by simp [hm], this, by simp only [List.length_append, List.length_cons, List.length_nil]; omega⟩
  · have hne' : kids ≠ [] := by
      intro e; subst e; simp [len] at hne
    obtain ⟨r', rfl, hS⟩ := hr hne'
    have hGr : GG (r' + 1) = 6 * GG r' + 3 := rfl
    have hkc : kids.length * GG r' ≤ 6 * GG r' := Nat.mul_le_mul_right _ h6
    -- behind the kids
    have j1 : ∀ (o : List (Int × Int)) (short : Bool), o.length ≤ ops.length + 1 → (short = true → o.length = ops.length ∧ kids.length ≤ 2) → Tot (fun σ => B_Z57_J1 (σ 0) (F_s_emit (σ 0)) (F_s_memoed (σ 0)) (F_Z73 (σ 0)) level at2 o memo g root kids short) (Wr g ops memo (GG (r' + 1))) := by
      intro o short ho hsh
      unfold B_Z57_J1
      refine (saveAll_tot h6 hS hm hu (by omega)).bind ?_
      rintro _ ⟨o2, m2, rfl, k1, k2, k3⟩
      rw [tot_chk]
      refine ⟨inb_iff.2 (by simp only []; omega), ?_⟩
      -- the tuple is made
      have j5 : ∀ c : Int, Tot (fun σ => B_Z57_J5 (σ 0) (F_s_emit (σ 0)) (F_s_memoed (σ 0)) (F_Z73 (σ 0)) at2 o2 m2 c) (Wr g ops memo (GG (r' + 1))) := by
        intro c
        unfold B_Z57_J5
        refine (emit_tot (by simp only [List.length_cons, List.length_nil]; omega)).bind ?_
        rintro _ rfl
        refine (memoed_tot (by omega) (by simp only [List.length_append, List.length_cons, List.length_nil]; omega) (by omega)).bind ?_
        rintro _ ⟨n, hn, rfl⟩
        rw [tot_some]
        have := un_set (g := g) (memo := m2) (i := at2) (v := n) (by omega) hn
        exact ⟨o2 ++ [(c, 0)] ++ [(15, n)], m2.set at2 n, rfl, by simp [k1], by omega, by simp only [List.length_append, List.length_cons, List.length_nil]; omega⟩
      -- it was there
      have j4 : ∀ o3 : List (Int × Int), o3.length + 33957804446 * un g m2 + 1 ≤ ops.length + GG (r' + 1) + 33957804446 * un g memo → Tot (fun σ => B_Z57_J4 (σ 0) (F_s_emit (σ 0)) (F_s_memoed (σ 0)) (F_Z73 (σ 0)) at2 o3 m2) (Wr g ops memo (GG (r' + 1))) := by
        intro o3 h3
        unfold B_Z57_J4
        rw [tot_chk]
        refine ⟨inb_iff.2 (by omega), (emit_tot (by simp only [List.length_cons, List.length_nil]; omega)).bind ?_⟩
        rintro _ rfl
        rw [tot_some]
        exact ⟨_, _, rfl, k1, k2, by simp only [List.length_append, List.length_cons, List.length_nil]; omega⟩
      rw [tot_cond]
      refine ⟨fun _ => ?_, fun _ => ?_⟩
      · have key := loop_Z57_L3 (Q := fun _ _ _ _ _ _ r => Wr g ops memo (GG (r' + 1)) r) (I := fun a o3 m3 kd sh i => a = (at2 : Int) ∧ m3 = m2 ∧ kd = kids ∧ sh = short ∧ ∃ j : Nat, i = j ∧ j ≤ kids.length ∧ (short = true → o3.length = o2.length + j) ∧ (short = false → o3.length = o2.length)) (μ := fun _ _ _ _ _ i => (kids.length - i).toNat) ?_
        · exact key at2 o2 m2 kids short 0 ⟨rfl, rfl, rfl, rfl, 0, rfl, by omega, fun _ => rfl, fun _ => rfl⟩
        intro a o3 m3 kd sh i ⟨e1, e2, e3, e4, j, e5, hj, hs1, hs2⟩ again hag ih
        subst e1 e2 e3 e4 e5
        unfold B_Z57_L3b B_Z57_J2
        simp only [tot_cond, tot_jn, decide_eq_true_eq, decide_eq_false_iff_not, len, Bool.not_eq_true', Bool.not_eq_false']
        cases sh with
        | true =>
          have h1 := hs1 rfl
          have h2 := hsh rfl
          refine ⟨fun hlt => ⟨fun _ => ?_, fun h => absurd h (by decide)⟩, fun hge => ⟨fun h => absurd h (by decide), fun _ => ⟨fun h => absurd h (by decide), fun _ => j4 o3 (by omega)⟩⟩⟩
          refine (emit_tot (by simp only [List.length_cons, List.length_nil]; omega)).bind ?_
          rintro _ rfl
          rw [w64_succ (by omega) (by omega)]
          refine ih _ _ _ _ _ _ ⟨rfl, rfl, rfl, rfl, j + 1, rfl, by omega, fun _ => ?_, fun h => absurd h (by decide)⟩ (by simp; omega)
          simp only [List.length_append, List.length_cons, List.length_nil]; omega
        | false =>
          have h1 := hs2 rfl
          have fin : Tot (fun σ => (F_s_emit (σ 0) o3 [(18, 0)]).bind fun r79 => jn (fun t => B_Z57_J4 (σ 0) (F_s_emit (σ 0)) (F_s_memoed (σ 0)) (F_Z73 (σ 0)) t.1 t.2.1 t.2.2.1) ((at2 : Int), r79.1.1, m3, ())) (Wr g ops memo (GG (r' + 1))) := by
            refine (emit_tot (by simp only [List.length_cons, List.length_nil]; omega)).bind ?_
            rintro _ rfl
            rw [tot_jn]
            exact j4 _ (by simp only [List.length_append, List.length_cons, List.length_nil]; omega)
          exact ⟨fun hlt => ⟨fun h => absurd h (by decide), fun _ => ⟨fun _ => fin, fun h => absurd h (by decide)⟩⟩, fun hge => ⟨fun h => absurd h (by decide), fun _ => ⟨fun _ => fin, fun h => absurd h (by decide)⟩⟩⟩
      · rw [tot_cond]
        refine ⟨fun _ => ?_, fun _ => ?_⟩
        · rw [tot_jn]; exact j5 _
        · rw [tot_jn]; exact j5 _
    have j0 : ∀ (short : Bool), (short = true → kids.length ≤ 2) → Tot (fun σ => B_Z57_J0 (σ 0) (F_s_emit (σ 0)) (F_s_memoed (σ 0)) (F_Z73 (σ 0)) level at2 ops memo g root kids short) (Wr g ops memo (GG (r' + 1))) := by
      intro short hsh
      unfold B_Z57_J0
      rw [tot_cond]
      refine ⟨fun hs => ?_, fun hs => ?_⟩
      · refine (emit_tot (by simp only [List.length_cons, List.length_nil]; omega)).bind ?_
        rintro _ rfl
        rw [tot_jn]
        exact j1 _ short (by simp) (fun h => by rw [h] at hs; cases hs)
      · rw [tot_jn]
        have : short = true := by simpa using hs
        exact j1 ops short (by omega) (fun h => ⟨rfl, hsh h⟩)
    rw [tot_cond]
    refine ⟨fun _ => ?_, fun _ => ?_⟩
    · rw [tot_jn]
      exact j0 _ (fun h => by simp only [decide_eq_true_eq, len] at h; omega)
    · rw [tot_jn]
      exact j0 false (fun h => absurd h (by decide))
theorem SaveOk.mono {g : List PNode} {root level : Int} {u r r2 c c2 : Nat} {x : Int} (h : SaveOk g root level u r c x) (hc : c ≤ c2) : SaveOk g root level u r2 c2 x := by
  intro ops memo h1 h2 h3
  refine (h ops memo h1 h2 (by omega)).mono ?_
  rintro _ ⟨o, m, rfl, k1, k2, k3⟩
  exact ⟨o, m, rfl, k1, k2, by omega⟩
theorem save_tot {g : List PNode} {root level : Int} (hv : ValidG g root) : ∀ (u r : Nat), r ≤ 12 → ∀ at2 : Nat, at2 < g.length → ((nd g (at2 : Int)).1 = 2 → rk g (at2 : Int) ≤ r) → SaveOk g root level u 0 (GG r) (at2 : Int) := by
  have hk : Kidly g := fun n hn => (hv.node n hn).kidly
  have hg := hv.most
  intro u
  induction u using Nat.strongRecOn with
  | _ u ihu =>
  intro r
  induction r using Nat.strongRecOn with
  | _ r ihr =>
  intro hr12 at2 ha hrk ops memo hm hu hb
  have hG := GG_le r
  have hG12 := GG_12
  have hin : 0 ≤ (at2 : Int) ∧ (at2 : Int) < (g.length : Int) := by omega
  have hnode := hv.node _ (nd_mem hin.1 hin.2)
  refine tot_s_save ?_
  unfold B_s_save
  simp only [tot_chk]
  refine ⟨inb_iff.2 (by omega), inb_iff.2 (by omega), ?_⟩
  have hrd : rdx (0 : Int) memo (at2 : Int) = memo.getD at2 0 := by rw [rdx_eq, Int.toNat_natCast]
  have hndd : rdx ((0 : Int), ((0 : Int), ([] : List Int))) g (at2 : Int) = nd g (at2 : Int) := rfl
  rw [hrd, hndd]
  rw [tot_cond]
  refine ⟨fun _ => ?_, fun hneg => ?_⟩
  · rw [tot_chk]
    refine ⟨inb_iff.2 (by omega), (emit_tot (by simp only [List.length_cons, List.length_nil]; omega)).bind ?_⟩
    rintro _ rfl
    rw [tot_some]
    exact ⟨_, memo, rfl, hm, Nat.le_refl _, by simp only [List.length_append, List.length_cons, List.length_nil]; omega⟩
  have hneg : memo.getD at2 0 < 0 := by simpa using hneg
  -- it gets into the memo
  have mem : ∀ (o : List (Int × Int)), o.length ≤ 520000000000 → (nd g (at2 : Int)).1 ≠ 2 → Tot (fun σ => F_s_memoed (σ 0) o memo at2) (fun r => ∃ n : Int, r = ((o ++ [(15, n)], memo.set at2 n, ()), ()) ∧ un g (memo.set at2 n) < un g memo ∧ (memo.set at2 n).length = g.length) := by
    intro o ho h2
    refine (memoed_tot (by omega) (by omega) (by omega)).mono ?_
    rintro _ ⟨n, hn, rfl⟩
    exact ⟨n, rfl, un_set' (by omega) ha hn h2 hneg, by simp [hm]⟩
  -- all kids, when it is there
  have kids12 : ∀ u1, u1 < u → ∀ x ∈ (nd g (at2 : Int)).2.2, SaveOk g root level u1 0 (GG 12) x := by
    intro u1 hu1 x hx
    have hx' := hnode.2.1 x hx
    obtain ⟨m, rfl⟩ := Int.eq_ofNat_of_zero_le hx'.1
    exact ihu u1 hu1 12 (Nat.le_refl _) m (by omega) (fun _ => Nat.le_trans (rk_le g _) hg)
  rw [tot_cond]
  simp only [beq_iff_eq, beq_eq_false_iff_ne, ne_eq]
  refine ⟨fun h0 => ?_, fun h0 => ?_⟩
  · refine (emit_tot (by simp only [List.length_cons, List.length_nil]; omega)).bind ?_
    rintro _ rfl
    rw [tot_some]
    exact ⟨_, memo, rfl, hm, Nat.le_refl _, by simp only [List.length_append, List.length_cons, List.length_nil]; omega⟩
  rw [tot_cond]
  simp only [beq_iff_eq, beq_eq_false_iff_ne, ne_eq]
  refine ⟨fun h1 => ?_, fun h1 => ?_⟩
  · refine (emit_tot (by simp only [List.length_cons, List.length_nil]; omega)).bind ?_
    rintro _ rfl
    refine (mem _ (by simp only [List.length_append, List.length_cons, List.length_nil]; omega) (by omega)).bind ?_
    rintro _ ⟨n, rfl, k1, k2⟩
    rw [tot_some]
    exact ⟨_, memo.set at2 n, rfl, k2, by omega, by simp only [List.length_append, List.length_cons, List.length_nil]; omega⟩
  rw [tot_cond]
  simp only [beq_iff_eq, beq_eq_false_iff_ne, ne_eq]
  refine ⟨fun h2 => ?_, fun h2 => ?_⟩
  · have hrk := hrk h2
    refine (saveTuple_tot (u := u) (r := r) hg ha hnode.1 (fun hne => ?_) hm hu hb).bind ?_
    · obtain ⟨x, hx⟩ := List.exists_mem_of_ne_nil _ hne
      have hpos := rk_pos hv hin hx
      refine ⟨r - 1, by omega, fun y hy => ?_⟩
      have hy' := hnode.2.1 y hy
      obtain ⟨m, rfl⟩ := Int.eq_ofNat_of_zero_le hy'.1
      exact ihr (r - 1) (by omega) (by omega) m (by omega) (fun hk2 => by have := rk_lt hv hin hy hk2; omega)
    · rintro _ ⟨o, m, rfl, k1, k2, k3⟩
      rw [tot_some]
      exact ⟨o, m, rfl, k1, k2, k3⟩
  -- a list, a dictionary, an object
  have filled : ∀ (o : List (Int × Int)) (n each one all : Int), o.length ≤ ops.length + 2 → un g (memo.set at2 n) < un g memo → (memo.set at2 n).length = g.length → (each = 1 ∨ each = 2 ∧ (nd g (at2 : Int)).2.2.length % 2 = 0) →
      Tot (fun σ => (F_s_fill (σ 0) g root level (nd g (at2 : Int)).2.2 each one all o (memo.set at2 n)).bind fun r84 => some ((r84.1.1, r84.1.2.1, ()), ())) (Wr g ops memo (GG r)) := by
    intro o n each one all ho k1 k2 he
    refine (fill_tot (u := u - 1) (c := GG 12) hnode.1 (kids12 (u - 1) (by omega)) he k2 (by omega) (by omega)).bind ?_
    rintro _ ⟨o2, m2, rfl, q1, q2, q3⟩
    rw [tot_some]
    exact ⟨o2, m2, rfl, q1, by omega, by omega⟩
  rw [tot_cond]
  simp only [beq_iff_eq, beq_eq_false_iff_ne, ne_eq]
  refine ⟨fun h3 => ?_, fun h3 => ?_⟩
  · refine (emit_tot (by simp only [List.length_cons, List.length_nil]; omega)).bind ?_
    rintro _ rfl
    refine (mem _ (by simp only [List.length_append, List.length_cons, List.length_nil]; omega) h2).bind ?_
    rintro _ ⟨n, rfl, k1, k2⟩
    exact filled _ n 1 8 9 (by simp) k1 k2 (.inl rfl)
  rw [tot_cond]
  simp only [beq_iff_eq, beq_eq_false_iff_ne, ne_eq]
  refine ⟨fun h4 => ?_, fun h4 => ?_⟩
  · have hd : (nd g (at2 : Int)).2.2.length % 2 = 0 := by
      have := hnode.2.2
      rw [if_neg h0, if_neg h1, if_neg (by simp [h2, h3]), if_pos h4] at this
      exact this.2.2
    refine (emit_tot (by simp only [List.length_cons, List.length_nil]; omega)).bind ?_
    rintro _ rfl
    refine (mem _ (by simp only [List.length_append, List.length_cons, List.length_nil]; omega) h2).bind ?_
    rintro _ ⟨n, rfl, k1, k2⟩
    exact filled _ n 2 11 12 (by simp) k1 k2 (.inr ⟨rfl, hd⟩)
  · refine (emit_tot (by simp only [List.length_cons, List.length_nil]; omega)).bind ?_
    rintro _ rfl
    refine (mem _ (by simp only [List.length_append, List.length_cons, List.length_nil]; omega) h2).bind ?_
    rintro _ ⟨n, rfl, k1, k2⟩
    have hkc : (nd g (at2 : Int)).2.2.length * GG 12 ≤ 6 * GG 12 := Nat.mul_le_mul_right _ hnode.1
    refine (saveAll_tot (u := u - 1) hnode.1 (kids12 (u - 1) (by omega)) k2 (by omega) (by simp only [List.length_append, List.length_cons, List.length_nil]; omega)).bind ?_
    rintro _ ⟨o2, m2, rfl, q1, q2, q3⟩
    simp only [List.length_append, List.length_cons, List.length_nil] at q3
    unfold B_s_save_J0
    rw [tot_cond]
    refine ⟨fun _ => ?_, fun _ => ?_⟩
    · refine (emit_tot (by simp only [List.length_cons, List.length_nil]; omega)).bind ?_
      rintro _ rfl
      rw [tot_jn, tot_some]
      exact ⟨_, m2, rfl, q1, by omega, by simp only [List.length_append, List.length_cons, List.length_nil]; omega⟩
    · rw [tot_jn, tot_some]
      exact ⟨o2, m2, rfl, q1, by omega, by omega⟩
theorem emptyMemo_tot {g : List PNode} {root : Int} (hg : g.length ≤ 1000) : Tot (fun σ => F_Z56 (σ 0) g root) (fun r => r = ((List.replicate g.length (-1), ()), ())) := by
  refine tot_Z56 ?_
  unfold B_Z56
  have key := loop_Z56_L0 (Q := fun _ _ _ _ r => r = ((List.replicate g.length (-1), ()), ())) (I := fun g' _ o i => g' = g ∧ ∃ j : Nat, i = j ∧ j ≤ g.length ∧ o = List.replicate j (-1)) (μ := fun _ _ _ i => (g.length - i).toNat) ?_
  · exact key g root [] 0 ⟨rfl, 0, rfl, by omega, rfl⟩
  intro g' r' o i ⟨e1, j, e2, hj, e3⟩ again hag ih
  subst e1 e2 e3
  unfold B_Z56_L0b
  simp only [tot_cond, tot_chk, tot_some, decide_eq_true_eq, decide_eq_false_iff_not, len, room_iff, List.length_replicate, List.length_cons, List.length_nil]
  refine ⟨fun hlt => ⟨by omega, ?_⟩, fun hge => ?_⟩
  · rw [w64_succ (by omega) (by omega)]
    exact ih _ _ _ _ ⟨rfl, j + 1, rfl, by omega, by rw [List.replicate_succ']⟩ (by simp; omega)
  · have : j = g'.length := by omega
    rw [this]
theorem written_tot {g : List PNode} {root : Int} (hv : ValidG g root) (level : Int) : Tot (fun σ => F_Z74 (σ 0) g root level) (fun r => ∃ ops : List (Int × Int), r = ((ops, ()), ()) ∧ ops.length ≤ 500000000000) := by
  have hg := hv.most
  refine tot_Z74 ?_
  unfold B_Z74
  refine (emptyMemo_tot (by omega)).bind ?_
  rintro _ rfl
  obtain ⟨m, hm⟩ := Int.eq_ofNat_of_zero_le hv.root.1
  have hroot := hv.root
  subst hm
  have hun := un_le g (List.replicate g.length (-1))
  have hG := GG_12
  refine (save_tot hv g.length 12 (Nat.le_refl _) m (by omega) (fun _ => Nat.le_trans (rk_le g _) hg) [] _ (by simp) hun (by simp only [List.length_nil]; omega)).bind ?_
  rintro _ ⟨o, m2, rfl, k1, k2, k3⟩
  simp only [List.length_nil] at k3
  refine (emit_tot (by simp only [List.length_cons, List.length_nil]; omega)).bind ?_
  rintro _ rfl
  rw [tot_some]
  exact ⟨_, rfl, by simp only [List.length_append, List.length_cons, List.length_nil]; omega⟩
end Go.Gx

/-
  Laws, part 13: programs and bytes that are drawn.
-/
set_option linter.unusedVariables false
set_option linter.unusedSimpArgs false
namespace Go.Gx
theorem someOps_tot {b : List Int} {p : Int} (h : RD b p) (hp : p ≤ 90000000) : Tot (fun σ => F_Z85 (σ 0) b p) (Drawn b p 2000 fun x => ∃ ops : List POp, x = (ops, ()) ∧ ops.length ≤ 500000000000) := by
  refine tot_Z85 ?_
  unfold B_Z85
  have fin : ∀ (q : Int) (o : List POp), p ≤ q → q ≤ p + 2000 → o.length ≤ 500000000000 → Drawn b p 2000 (fun x => ∃ ops : List POp, x = (ops, ()) ∧ ops.length ≤ 500000000000) ((o, ()), ((b, q, ()), ())) := fun q o h1 h2 h3 => ⟨_, q, rfl, h1, h2, o, rfl, h3⟩
  have j2 : ∀ (q : Int) (o : List POp), p ≤ q → q ≤ p + 1900 → o.length ≤ 500000000000 → Tot (fun σ => B_Z85_J2 (σ 0) (F_Z32 (σ 0)) (F_Z55 (σ 0)) (F_Z62 (σ 0)) (F_Z74 (σ 0)) (F_s_someOp (σ 0)) (F_Z40 (σ 0)) b q o) (Drawn b p 2000 fun x => ∃ ops : List POp, x = (ops, ()) ∧ ops.length ≤ 500000000000) := by
    intro q o h1 h2 h3
    have hq := h.next h1 (by omega)
    unfold B_Z85_J2
    rw [tot_cond]
    simp only [decide_eq_true_eq, decide_eq_false_iff_not, len]
    refine ⟨fun hlt => ?_, fun _ => by rw [tot_some]; exact fin q o h1 (by omega) h3⟩
    refine (pick_tot hq (by omega) (by omega)).bind ?_
    rintro _ ⟨_, q2, rfl, k1, k2, v, rfl, k3, k4⟩
    rw [tot_cond]
    refine ⟨fun _ => ?_, fun _ => ?_⟩
    · refine (one_tot (hq.next k1 (by omega)) (by omega) (by simp) (by simp)).bind ?_
      rintro _ ⟨_, q3, rfl, f1, f2, u, rfl, hu⟩
      simp only [tot_chk, tot_some, inb_iff, decide_eq_true_eq]
      exact ⟨by omega, by simp; omega, fin q3 _ (by omega) (by omega) (by simpa using h3)⟩
    · rw [tot_cond]
      refine ⟨fun _ => ?_, fun _ => by rw [tot_some]; exact fin q2 o (by omega) (by omega) h3⟩
      refine (one_tot (hq.next k1 (by omega)) (by omega) (by simp) (by simp)).bind ?_
      rintro _ ⟨_, q3, rfl, f1, f2, u, rfl, hu⟩
      have w : w64 ((o.length : Int) - 1) = (o.length : Int) - 1 := w64_id (by omega) (by omega)
      simp only [tot_chk, tot_some, inb_iff, decide_eq_true_eq, w]
      exact ⟨by omega, by omega, fin q3 _ (by omega) (by omega) (by simpa using h3)⟩
  have j1 : ∀ (q : Int) (o : List POp), p ≤ q → q ≤ p + 1800 → o.length ≤ 500000000000 → Tot (fun σ => B_Z85_J1 (σ 0) (F_Z32 (σ 0)) (F_Z55 (σ 0)) (F_Z62 (σ 0)) (F_Z74 (σ 0)) (F_s_someOp (σ 0)) (F_Z40 (σ 0)) b q o) (Drawn b p 2000 fun x => ∃ ops : List POp, x = (ops, ()) ∧ ops.length ≤ 500000000000) := by
    intro q o h1 h2 h3
    have hq := h.next h1 (by omega)
    unfold B_Z85_J1
    refine (pick_tot hq (by omega) (by omega)).bind ?_
    rintro _ ⟨_, q2, rfl, k1, k2, v, rfl, k3, k4⟩
    rw [tot_cond]
    refine ⟨fun _ => ?_, fun _ => by rw [tot_jn]; exact j2 q2 o (by omega) (by omega) h3⟩
    have w : w64 (len o + 1) = (o.length : Int) + 1 := by rw [w64_id] <;> simp only [len] <;> omega
    rw [w]
    refine (pick_tot (hq.next k1 (by omega)) (by omega) (by omega)).bind ?_
    rintro _ ⟨_, q3, rfl, f1, f2, u, rfl, f3, f4⟩
    have f4 := f4 (by omega)
    rw [tot_chk]
    refine ⟨cutb_iff.2 ⟨Int.le_refl _, f3, by show u ≤ (o.length : Int); omega⟩, ?_⟩
    rw [tot_jn]
    exact j2 q3 (o.take u.toNat) (by omega) (by omega) (by simp only [List.length_take]; omega)
  refine (pick_tot h (by omega) (by omega)).bind ?_
  rintro _ ⟨_, q, rfl, h1, h2, v, rfl, h3, h4⟩
  have hq := h.next h1 (by omega)
  rw [tot_cond]
  refine ⟨fun _ => ?_, fun _ => ?_⟩
  · refine (likelyOps_tot hq (by omega)).bind ?_
    rintro _ ⟨_, q2, rfl, k1, k2, o, rfl, ho, _⟩
    rw [tot_jn]
    exact j2 q2 o (by omega) (by omega) (by omega)
  · refine (someGraph_tot hq (by omega)).bind ?_
    rintro _ ⟨_, q2, rfl, k1, k2, g, root, rfl, hv⟩
    have hq2 := hq.next k1 (by omega)
    refine (pick_tot hq2 (by omega) (by omega)).bind ?_
    rintro _ ⟨_, q3, rfl, f1, f2, u, rfl, f3, f4⟩
    have hq3 := hq2.next f1 (by omega)
    refine (written_tot hv u).bind ?_
    rintro _ ⟨o, rfl, ho⟩
    refine (pick_tot hq3 (by omega) (by omega)).bind ?_
    rintro _ ⟨_, q4, rfl, m1, m2, u2, rfl, m3, m4⟩
    have hq4 := hq3.next m1 (by omega)
    have j0 : ∀ t : Bool, (t = true → 0 < o.length) → Tot (fun σ => B_Z85_J0 (σ 0) (F_Z32 (σ 0)) (F_Z55 (σ 0)) (F_Z62 (σ 0)) (F_Z74 (σ 0)) (F_s_someOp (σ 0)) (F_Z40 (σ 0)) b q4 o t) (Drawn b p 2000 fun x => ∃ ops : List POp, x = (ops, ()) ∧ ops.length ≤ 500000000000) := by
      intro t ht
      unfold B_Z85_J0
      rw [tot_cond]
      refine ⟨fun hb => ?_, fun _ => by rw [tot_jn]; exact j1 q4 o (by omega) (by omega) ho⟩
      have hpos := ht hb
      refine (pick_tot hq4 (by omega) (by simp only [len]; omega)).bind ?_
      rintro _ ⟨_, q5, rfl, n1, n2, w, rfl, n3, n4⟩
      have n4 := n4 (by simp only [len]; omega)
      simp only [len] at n4
      refine (someOp_tot (hq4.next n1 (by omega)) (by omega)).bind ?_
      rintro _ ⟨_, q6, rfl, l1, l2, c, a, rfl, _⟩
      simp only [tot_chk, inb_iff, decide_eq_true_eq]
      refine ⟨by omega, by omega, ?_⟩
      rw [tot_jn]
      exact j1 q6 _ (by omega) (by omega) (by simpa using ho)
    rw [tot_cond]
    refine ⟨fun _ => ?_, fun _ => ?_⟩
    · rw [tot_jn]; exact j0 _ (fun h => by simp only [decide_eq_true_eq, len] at h; omega)
    · rw [tot_jn]; exact j0 false (fun h => absurd h (by decide))
end Go.Gx

/-
  Laws: DepthsOf, by the reference.
-/
set_option linter.unusedVariables false
set_option linter.unusedSimpArgs false
namespace Go.Gx
theorem sub_take {α : Type} {l : List α} {n : Nat} : sub l 0 (n : Int) = l.take n := by simp [sub]
theorem s_DepthsOf_tot {ops : List POp} (hl : ops.length ≤ 900000000000) : Tot (fun σ => F_Z69 (σ 0) ops) (fun r => r = ((if okOps ops = true then traceM (fun m => (m.S.length : Int)) ops (rN ops) else [], ()), ())) := by
  refine tot_Z69 ?_
  unfold B_Z69
  refine (validOps_tot hl).bind ?_
  rintro _ rfl
  simp only [tot_cond, tot_some, Bool.not_eq_true', Bool.not_eq_false']
  refine ⟨fun h => by rw [if_neg (by rw [h]; decide)], fun h => ?_⟩
  obtain ⟨h1, h2⟩ := okOps_all h
  refine (runShapes_tot hl h1).bind ?_
  rintro _ ⟨rfl, _⟩
  rw [if_pos h]
  simp only [rN_eq]
  have hn := rN_le ops
  have key := loop_Z69_L0 (Q := fun _ _ _ _ r => r = ((traceM (fun m => (m.S.length : Int)) ops (rN ops), ()), ())) (I := fun ops' out n5 i => ops' = ops ∧ n5 = (rN ops : Int) ∧ ∃ j : Nat, i = (j : Int) + 1 ∧ j ≤ rN ops ∧ out = traceM (fun m => (m.S.length : Int)) ops j) (μ := fun _ _ _ i => (rN ops + 1 - i).toNat) ?_
  · exact key ops [] _ 1 ⟨rfl, rfl, 0, rfl, Nat.zero_le _, rfl⟩
  intro ops' out n5 i ⟨e1, e2, j, e3, hj, e4⟩ again hag ih
  subst e1 e2 e3 e4
  unfold B_Z69_L0b
  simp only [tot_cond, tot_chk, tot_some, decide_eq_true_eq, decide_eq_false_iff_not, cutb_iff]
  refine ⟨fun hlt => ⟨by omega, ?_⟩, fun hge => ?_⟩
  · rw [show (j : Int) + 1 = ((j + 1 : Nat) : Int) by omega]
    simp only [sub_take]
    refine (runShapes_tot (by rw [List.length_take]; omega) (take_ok h1 _)).bind ?_
    rintro _ ⟨rfl, _⟩
    rw [tot_chk, rM_sh]
    refine ⟨by simp only [room_iff, traceM_len, List.length_cons, List.length_nil]; omega, ?_⟩
    rw [show w64 (((j + 1 : Nat) : Int) + 1) = ((j + 1 : Nat) : Int) + 1 from w64_id (by omega) (by omega)]
    exact ih _ _ _ _ ⟨rfl, rfl, j + 1, rfl, by omega, by rw [traceM_succ]; rfl⟩ (by omega)
  · have : j = rN ops' := by omega
    rw [this]
end Go.Gx

/-
  Laws, part R4: rules that are drawn.
-/
set_option linter.unusedVariables false
set_option linter.unusedSimpArgs false
namespace Go.Gx
/-- The Args of all orders to make an object. -/
def newArgs (ops : List POp) : List Int := (ops.filter (fun o => o.1 == 13)).map (·.2)
def classesP (ops : List POp) : List Int := if okOps ops = true then (List.range 10).filterMap (fun c : Nat => if (c : Int) ∈ newArgs ops then some (c : Int) else none) else []
theorem newArgs_mem {ops : List POp} {c : Int} : c ∈ newArgs ops ↔ ∃ i, i < ops.length ∧ (ops.getD i (0, 0)).1 = 13 ∧ (ops.getD i (0, 0)).2 = c := by
  unfold newArgs
  simp only [List.mem_map, List.mem_filter, beq_iff_eq]
  constructor
  · rintro ⟨o, ⟨ho, h1⟩, h2⟩
    obtain ⟨i, hi, e⟩ := List.getElem_of_mem ho
    refine ⟨i, hi, ?_⟩
    rw [List.getD_eq_getElem?_getD, List.getElem?_eq_getElem hi]
    simp only [Option.getD_some, e]
    exact ⟨h1, h2⟩
  · rintro ⟨i, hi, h1, h2⟩
    exact ⟨_, ⟨getD_mem hi, h1⟩, h2⟩
theorem range_filterMap_succ (f : Nat → Option Int) (n : Nat) : (List.range (n + 1)).filterMap f = (List.range n).filterMap f ++ (f n).toList := by
  rw [List.range_succ, List.filterMap_append]
  cases h : f n with
  | none => simp [h]
  | some y => simp [h]
theorem s_ClassesIn_tot {ops : List POp} (hl : ops.length ≤ 900000000000) : Tot (fun σ => F_Z65 (σ 0) ops) (fun r => r = ((classesP ops, ()), ())) := by
  refine tot_Z65 ?_
  unfold B_Z65
  refine (validOps_tot hl).bind ?_
  rintro _ rfl
  simp only [tot_cond, tot_some, Bool.not_eq_true', Bool.not_eq_false']
  refine ⟨fun h => by unfold classesP; rw [if_neg (by rw [h]; decide)], fun h => ?_⟩
  generalize hf : (fun c : Nat => if (c : Int) ∈ newArgs ops then some (c : Int) else none) = f
  have hp : classesP ops = (List.range 10).filterMap f := by unfold classesP; rw [if_pos h, hf]
  have hfl : ∀ n, ((List.range n).filterMap f).length ≤ n := fun n => by
    have := List.length_filterMap_le f (List.range n)
    rw [List.length_range] at this; exact this
  rw [hp]
  have key := loop_Z65_L3 (Q := fun _ _ _ r => r = (((List.range 10).filterMap f, ()), ())) (I := fun o u c => o = ops ∧ ∃ q : Nat, c = (q : Int) ∧ q ≤ 10 ∧ u = (List.range q).filterMap f) (μ := fun _ _ c => (10 - c).toNat) ?_
  · exact key ops [] 0 ⟨rfl, 0, rfl, Nat.zero_le _, rfl⟩
  intro o u c ⟨e1, q, e2, hq, e3⟩ again hag ih
  subst e1 e2 e3
  unfold B_Z65_L3b
  simp only [tot_cond, tot_some, decide_eq_true_eq, decide_eq_false_iff_not]
  refine ⟨fun hle => ?_, fun hgt => by rw [show q = 10 by omega]⟩
  have next : ∀ v : Option Int, f q = v → Tot (fun σ => again σ (o, (List.range q).filterMap f ++ v.toList, w64 ((q : Int) + 1), ())) (fun r => r = (((List.range 10).filterMap f, ()), ())) := by
    intro v hv
    rw [w64_succ (by omega) (by omega)]
    exact ih _ _ _ ⟨rfl, q + 1, rfl, by omega, by rw [range_filterMap_succ, hv]⟩ (by simp; omega)
  have key1 := loop_Z65_L1 hag (Q := fun _ _ _ _ r => r = (((List.range 10).filterMap f, ()), ())) (I := fun o' u c i => o' = o ∧ u = (List.range q).filterMap f ∧ c = (q : Int) ∧ ∃ j : Nat, i = (j : Int) ∧ j ≤ o.length ∧ ∀ z, z < j → ¬ ((o.getD z (0, 0)).1 = 13 ∧ (o.getD z (0, 0)).2 = (q : Int))) (μ := fun _ _ _ i => (o.length - i).toNat) ?_
  · exact key1 _ _ _ 0 ⟨rfl, rfl, rfl, 0, rfl, Nat.zero_le _, fun i hi => absurd hi (Nat.not_lt_zero _)⟩
  intro o' u c i ⟨e1, e2, e3, j, e4, hj, hno⟩ again1 hag1 ih1
  subst e1 e2 e3 e4
  unfold B_Z65_L1b
  have hrd : rdx ((0 : Int), (0 : Int)) o' (j : Int) = o'.getD j (0, 0) := by rw [rdx_eq, Int.toNat_natCast]
  rw [tot_cond]
  refine ⟨fun hlt => tot_chk.2 ⟨inb_iff.2 (by have := of_decide_eq_true hlt; unfold len at this; omega), ?_⟩, fun hge => ?_⟩
  · have hlt := of_decide_eq_true hlt
    unfold len at hlt
    have hjl : j < o'.length := by omega
    have j0 : ∀ b : Bool, (b = true ↔ (o'.getD j (0, 0)).1 = 13 ∧ (o'.getD j (0, 0)).2 = (q : Int)) → Tot (fun σ => B_Z65_J0 (σ 0) (F_Z66 (σ 0)) (again1 σ) (again σ) o' ((List.range q).filterMap f) (q : Int) (j : Int) b) (fun r => r = (((List.range 10).filterMap f, ()), ())) := by
      intro b hb
      unfold B_Z65_J0 B_Z65_J2
      simp only [tot_cond, tot_chk, tot_jn, room_iff, List.length_cons, List.length_nil]
      refine ⟨fun ht => ⟨by have := hfl q; omega, ?_⟩, fun hf2 => ?_⟩
      · refine next (some (q : Int)) ?_
        rw [← hf]
        exact if_pos (newArgs_mem.2 ⟨j, hjl, hb.1 ht⟩)
      · rw [w64_succ (by omega) (by omega)]
        refine ih1 _ _ _ _ ⟨rfl, rfl, rfl, j + 1, rfl, hjl, fun z hz => ?_⟩ (by simp; omega)
        by_cases e : z = j
        · subst e; exact fun h => by rw [hb.2 h] at hf2; cases hf2
        · exact hno z (by omega)
    rw [hrd]
    simp only [tot_cond, tot_chk, tot_jn, beq_iff_eq, beq_eq_false_iff_ne, ne_eq, inb_iff]
    refine ⟨fun h13 => ⟨by omega, j0 _ ?_⟩, fun h13 => j0 _ ⟨fun h0 => absurd h0 (by simp), fun h0 => absurd h0.1 h13⟩⟩
    rw [beq_iff_eq]
    exact ⟨fun h0 => ⟨h13, h0⟩, fun h0 => h0.2⟩
  · have hge := of_decide_eq_false hge
    unfold len at hge
    unfold B_Z65_J2
    rw [tot_jn]
    have hn : f q = none := by
      rw [← hf]
      refine if_neg fun h0 => ?_
      obtain ⟨i, hi, h1⟩ := newArgs_mem.1 h0
      exact hno i (by omega) h1
    have := next none hn
    rw [show (none : Option Int).toList = [] from rfl, List.append_nil] at this
    exact this
theorem classesP_len (ops : List POp) : (classesP ops).length ≤ 10 := by
  unfold classesP
  split
  · have := List.length_filterMap_le (fun c : Nat => if (c : Int) ∈ newArgs ops then some (c : Int) else none) (List.range 10)
    rw [List.length_range] at this; exact this
  · simp
/-- The greatest of numbers, 0 if there are none. -/
def maxP (l : List Int) : Int := l.foldl (fun a x => if x > a then x else a) 0
def leastP (ops : List POp) : Ru × Bool := if okOps ops = true ∧ rN ops = ops.length then (⟨(ops.length : Int), ((rM ops).N.length : Int), maxP (traceM (fun m => (m.S.length : Int)) ops (rN ops)), classesP ops⟩, true) else (⟨0, 0, 0, []⟩, false)
theorem s_LeastRules_tot {ops : List POp} (hl : ops.length ≤ 900000000000) : Tot (fun σ => F_Z46 (σ 0) ops) (fun r => r = ((((leastP ops).1.st, (leastP ops).1.nd, (leastP ops).1.dp, (leastP ops).1.cl, ()), (leastP ops).2, ()), ())) := by
  refine tot_Z46 ?_
  unfold B_Z46
  refine (validOps_tot hl).bind ?_
  rintro _ rfl
  simp only [tot_cond, tot_some, Bool.not_eq_true', Bool.not_eq_false']
  refine ⟨fun h => by unfold leastP; rw [if_neg (fun hc => by rw [hc.1] at h; cases h)], fun h => ?_⟩
  obtain ⟨h1, h2⟩ := okOps_all h
  refine (runShapes_tot hl h1).bind ?_
  rintro _ ⟨rfl, _⟩
  simp only [tot_cond, tot_some, decide_eq_true_eq, decide_eq_false_iff_not, len, rN_eq]
  have hle := rN_le ops
  refine ⟨fun hlt => by unfold leastP; rw [if_neg (fun hc => by omega)], fun hge => ?_⟩
  have hn : rN ops = ops.length := by omega
  have hL : leastP ops = (⟨(ops.length : Int), ((rM ops).N.length : Int), maxP (traceM (fun m => (m.S.length : Int)) ops (rN ops)), classesP ops⟩, true) := by unfold leastP; rw [if_pos ⟨h, hn⟩]
  refine (s_DepthsOf_tot hl).bind ?_
  rintro _ rfl
  rw [if_pos h, hL]
  have htl := traceM_len (fun m => (m.S.length : Int)) ops (rN ops)
  generalize traceM (fun m => (m.S.length : Int)) ops (rN ops) = tr at htl
  have key := loop_Z46_L0 (Q := fun _ _ _ _ _ _ _ _ _ _ _ _ r => r = ((((ops.length : Int), ((rM ops).N.length : Int), maxP tr, classesP ops, ()), true, ()), ()))
    (I := fun o a b c K Fu S M D dp l i => o = ops ∧ K = (rM ops).N.map (·.1) ∧ l = tr ∧ ∃ j : Nat, i = (j : Int) ∧ j ≤ tr.length ∧ dp = maxP (tr.take j)) (μ := fun _ _ _ _ _ _ _ _ _ _ _ i => (tr.length - i).toNat) ?_
  · refine key _ _ _ _ _ _ _ _ _ _ _ 0 ⟨rfl, ?_, rfl, 0, rfl, Nat.zero_le _, rfl⟩
    rw [rM_sh]; rfl
  intro o a b c K Fu S M D dp l i ⟨e1, e2, e3, j, e4, hj, e5⟩ again hag ih
  subst e1 e2 e3 e4 e5
  unfold B_Z46_L0b
  simp only [tot_cond, tot_chk, decide_eq_true_eq, decide_eq_false_iff_not, inb_iff, Int.toNat_natCast, len]
  refine ⟨fun hlt => ⟨by omega, by omega, ?_⟩, fun hge => ?_⟩
  · have hjl : j < l.length := by omega
    rw [w64_succ (by omega) (by omega)]
    refine ih _ _ _ _ _ _ _ _ _ _ _ _ ⟨rfl, rfl, rfl, j + 1, rfl, hjl, ?_⟩ (by simp; omega)
    have e : l.take (j + 1) = l.take j ++ [l.getD j 0] := by
      rw [List.take_add_one, List.getElem?_eq_getElem hjl, List.getD_eq_getElem?_getD, List.getElem?_eq_getElem hjl]; rfl
    rw [e]
    unfold maxP
    rw [List.foldl_append]
    rfl
  · have : j = l.length := by omega
    subst this
    refine (s_ClassesIn_tot hl).bind ?_
    rintro _ rfl
    rw [tot_some, List.take_length, List.length_map]
end Go.Gx

/-
  Laws: lists of numbers are compared.
-/
set_option linter.unusedVariables false
set_option linter.unusedSimpArgs false
namespace Go.Gx
theorem equalInts_tot {a b : List Int} (ha : a.length ≤ 900000000000) : Tot (fun σ => F_Z61 (σ 0) a b) (Says (a = b)) := by
  refine tot_Z61 ?_
  unfold B_Z61
  simp only [tot_cond, tot_some, len, bne_iff_ne, ne_eq, bne_eq_false_iff_eq]
  refine ⟨fun h => says_false fun e => h (by rw [e]), fun h => ?_⟩
  have hl : a.length = b.length := by omega
  have key := loop_Z61_L0 (Q := fun _ _ _ r => Says (a = b) r) (I := fun x y i => x = a ∧ y = b ∧ ∃ j : Nat, i = j ∧ j ≤ a.length ∧ ∀ q, q < j → a.getD q 0 = b.getD q 0) (μ := fun _ _ i => (a.length - i).toNat) ?_
  · exact key a b 0 ⟨rfl, rfl, 0, rfl, by omega, fun q hq => by omega⟩
  intro x y i ⟨e1, e2, j, e3, hj, hq⟩ again hag ih
  subst e1 e2 e3
  unfold B_Z61_L0b
  simp only [tot_cond, tot_chk, tot_some, decide_eq_true_eq, decide_eq_false_iff_not, len, inb_iff, bne_iff_ne, ne_eq, bne_eq_false_iff_eq]
  simp only [rdx_eq, Int.toNat_natCast]
  refine ⟨fun hlt => ⟨by omega, by omega, fun hne => says_false fun e => hne (by rw [e]), fun he => ?_⟩, fun hge => says_true (ext_getD hl fun i hi => hq i (by omega))⟩
  rw [w64_succ (by omega) (by omega)]
  refine ih _ _ _ ⟨rfl, rfl, j + 1, rfl, by omega, fun q h => ?_⟩ (by simp; omega)
  by_cases e : q = j
  · subst e; exact he
  · exact hq q (by omega)
end Go.Gx

/-
  Laws, part R6: slices.Compact; the classes of a program, by the program.
-/
set_option linter.unusedVariables false
set_option linter.unusedSimpArgs false
namespace Go.Gx
theorem getD_z {l : List Int} {i : Nat} (h : i < l.length) : l.getD i 0 = l[i] := by
  rw [List.getD_eq_getElem?_getD, List.getElem?_eq_getElem h]; rfl
theorem take_snoc {l : List Int} {i : Nat} (h : i < l.length) : l.take (i + 1) = l.take i ++ [l.getD i 0] := by
  rw [List.take_add_one, List.getElem?_eq_getElem h, getD_z h]; rfl
theorem sorted_at {l : List Int} (hs : l.Pairwise (· ≤ ·)) {i j : Nat} (h : i ≤ j) (hj : j < l.length) : l.getD i 0 ≤ l.getD j 0 := by
  by_cases e : i = j
  · subst e; exact Int.le_refl _
  · rw [getD_z (by omega), getD_z hj]
    exact List.pairwise_iff_getElem.1 hs i j (by omega) hj (by omega)
theorem sorted_take {l : List Int} (hs : l.Pairwise (· ≤ ·)) {m : Nat} (h1 : 1 ≤ m) (hm : m ≤ l.length) {c : Int} (hc : c ∈ l.take m) : c ≤ l.getD (m - 1) 0 := by
  obtain ⟨i, hi, e⟩ := List.getElem_of_mem hc
  have hi' : i < m := by rw [List.length_take] at hi; omega
  rw [← e, List.getElem_take, ← getD_z (by omega : i < l.length)]
  exact sorted_at hs (by omega) (by omega)
/-- slices.Compact of what is sorted. -/
def CptR (s : List Int) (r : (List Int × Unit) × Unit) : Prop := ∃ l : List Int, r = ((l, ()), ()) ∧ l.Pairwise (· < ·) ∧ (∀ c, c ∈ l ↔ c ∈ s) ∧ l.length ≤ s.length
theorem compact_tot {s : List Int} (hl : s.length ≤ 1000) (hs : s.Pairwise (· ≤ ·)) : Tot (fun σ => F_Z16 (σ 0) s) (CptR s) := by
  refine tot_Z16 ?_
  unfold B_Z16 len
  rw [tot_cond]
  refine ⟨fun h => ?_, fun h => ?_⟩
  · have h := of_decide_eq_true h
    rw [tot_some]
    refine ⟨s, rfl, ?_, fun c => Iff.rfl, Nat.le_refl _⟩
    match s, h with
    | [], _ => exact List.Pairwise.nil
    | [x], _ => exact List.pairwise_singleton _ _
    | x :: y :: r, h => simp only [List.length_cons] at h; omega
  have h2 := of_decide_eq_false h
  have key := loop_Z16_L2 (Q := fun _ _ r => CptR s r) (I := fun d k => d = s ∧ ∃ p : Nat, k = (p : Int) ∧ 1 ≤ p ∧ p ≤ s.length ∧ (s.take p).Pairwise (· < ·)) (μ := fun _ k => (s.length - k).toNat) ?_
  · refine key s 1 ⟨rfl, 1, rfl, Nat.le_refl _, by omega, ?_⟩
    rw [take_snoc (i := 0) (by omega)]
    exact List.pairwise_singleton _ _
  rintro d _ ⟨rfl, p, rfl, hp1, hp2, hp3⟩ again hag ih
  unfold B_Z16_L2b len
  rw [tot_cond]
  refine ⟨fun h => ?_, fun h => ?_⟩
  · have h := of_decide_eq_true h
    rw [w64n_pred hp1 (by omega)]
    simp only [tot_chk, inbn, decide_eq_true_eq, Int.toNat_natCast]
    refine ⟨by omega, by omega, by omega, by omega, ?_⟩
    have hle := sorted_at hs (show p - 1 ≤ p by omega) (by omega)
    rw [tot_cond]
    refine ⟨fun he => ?_, fun he => ?_⟩
    · rw [beq_iff_eq] at he
      rw [tot_chk]
      refine ⟨cutb_iff.2 ⟨by omega, by omega, by omega⟩, ?_⟩
      have key1 := loop_Z16_L1 (Q := fun _ _ _ _ r => CptR d r) (I := fun x i j v => v = (p, d.length) ∧ x.length = d.length ∧ ∃ q m : Nat, i = (q : Int) ∧ j = (m : Int) ∧ 1 ≤ m ∧ 1 ≤ q ∧ q ≤ p + m - 1 ∧ p + m ≤ d.length ∧ (∀ z, q ≤ z → x.getD z 0 = d.getD z 0) ∧ (x.take q).Pairwise (· < ·) ∧ ∀ c, c ∈ x.take q ↔ c ∈ d.take (p + m)) (μ := fun _ _ j _ => (d.length - j).toNat) ?_
      · refine key1 d p 1 (p, d.length) ⟨rfl, rfl, p, 1, rfl, rfl, by omega, by omega, by omega, by omega, fun _ _ => rfl, hp3, fun c => ?_⟩
        rw [take_snoc (by omega : p < d.length), List.mem_append, List.mem_singleton]
        refine ⟨Or.inl, fun hc => hc.elim id fun e => ?_⟩
        rw [e, he, show p = (p - 1) + 1 by omega, take_snoc (by omega : p - 1 < d.length), Nat.add_sub_cancel]
        simp
      rintro x _ _ _ ⟨rfl, hx, q, m, rfl, rfl, hm1, hq0, hq1, hm2, hrest, hasc, hmem⟩ again1 hag1 ih1
      unfold B_Z16_L1b B_Z16_J0 len
      simp only
      rw [tot_cond]
      refine ⟨fun h => ?_, fun h => ?_⟩
      · have h := of_decide_eq_true h
        rw [w64n_pred hm1 (by omega)]
        simp only [tot_chk, inbn, decide_eq_true_eq, Int.toNat_natCast, Bool.and_eq_true]
        refine ⟨⟨by omega, by omega⟩, by omega, ⟨by omega, by omega⟩, by omega, ?_⟩
        rw [hrest _ (show q ≤ p + m by omega), hrest _ (show q ≤ p + (m - 1) by omega)]
        have hle := sorted_at hs (show p + (m - 1) ≤ p + m by omega) (by omega)
        rw [tot_cond]
        refine ⟨fun hne => ?_, fun heq => ?_⟩
        · rw [bne_iff_ne] at hne
          simp only [tot_chk, tot_jn, inbn, decide_eq_true_eq, Int.toNat_natCast, Bool.and_eq_true]
          refine ⟨⟨by omega, by omega⟩, by omega, by omega, by omega, ?_⟩
          rw [w64n_succ (by omega), w64n_succ (by omega)]
          have et : (x.set q (d.getD (p + m) 0)).take (q + 1) = x.take q ++ [d.getD (p + m) 0] := by
            rw [take_snoc (by rw [List.length_set]; omega), List.take_set_of_le (Nat.le_refl _), getD_z (by rw [List.length_set]; omega), List.getElem_set_self]
          refine ih1 _ _ _ _ ⟨rfl, by rw [List.length_set]; exact hx, q + 1, m + 1, rfl, rfl, by omega, by omega, by omega, by omega, fun z hz => ?_, ?_, fun c => ?_⟩ (by omega)
          · rw [← hrest z (by omega), List.getD_eq_getElem?_getD, List.getElem?_set_ne (by omega), ← List.getD_eq_getElem?_getD]
          · rw [et, List.pairwise_append]
            refine ⟨hasc, List.pairwise_singleton _ _, fun a ha b hb => ?_⟩
            rw [List.mem_singleton] at hb
            subst hb
            have := sorted_take hs (by omega) hm2 ((hmem a).1 ha)
            rw [show p + m - 1 = p + (m - 1) by omega] at this
            omega
          · rw [et, List.mem_append, List.mem_singleton, hmem, ← Nat.add_assoc, take_snoc (by omega : p + m < d.length), List.mem_append, List.mem_singleton]
        · have heq : d.getD (p + m) 0 = d.getD (p + (m - 1)) 0 := by simpa using heq
          rw [tot_jn, w64n_succ (by omega)]
          refine ih1 _ _ _ _ ⟨rfl, hx, q, m + 1, rfl, rfl, by omega, by omega, by omega, by omega, hrest, hasc, fun c => ?_⟩ (by omega)
          rw [hmem, ← Nat.add_assoc, take_snoc (by omega : p + m < d.length), List.mem_append, List.mem_singleton]
          refine ⟨Or.inl, fun hc => hc.elim id fun e => ?_⟩
          rw [e, heq, show p + m = (p + (m - 1)) + 1 by omega, take_snoc (by omega : p + (m - 1) < d.length)]
          simp
      · have h := of_decide_eq_false h
        have e : p + m = d.length := by omega
        have hq : (x.take q ++ List.replicate (x.length - q) (0 : Int) ++ x.drop x.length).take q = x.take q := by
          rw [List.append_assoc, List.take_append_of_le_length (by rw [List.length_take]; omega), List.take_take, Nat.min_self]
        simp only [tot_chk, tot_some, decide_eq_true_eq, Int.toNat_natCast, cutb_iff]
        refine ⟨⟨by omega, by omega, by omega⟩, ⟨by omega, Nat.le_refl _⟩, ⟨by omega, by omega, ?_⟩, ?_⟩
        · simp only [List.length_append, List.length_take, List.length_replicate, List.length_drop]; omega
        · refine ⟨_, rfl, ?_⟩
          rw [hq]
          refine ⟨hasc, fun c => ?_, by rw [List.length_take]; omega⟩
          rw [hmem, e, List.take_length]
    · have he : d.getD p 0 ≠ d.getD (p - 1) 0 := by simpa using he
      rw [w64n_succ (by omega)]
      refine ih _ _ ⟨rfl, p + 1, rfl, by omega, by omega, ?_⟩ (by omega)
      rw [take_snoc (by omega : p < d.length), List.pairwise_append]
      refine ⟨hp3, List.pairwise_singleton _ _, fun a ha b hb => ?_⟩
      rw [List.mem_singleton] at hb
      subst hb
      have := sorted_take hs hp1 hp2 ha
      omega
  · have h := of_decide_eq_false h
    have e : p = d.length := by omega
    rw [e, List.take_length] at hp3
    rw [tot_some]
    exact ⟨d, rfl, hp3, fun _ => Iff.rfl, Nat.le_refl _⟩
/-- What ascends is told by what is in it. -/
theorem asc_ext : ∀ {a b : List Int}, a.Pairwise (· < ·) → b.Pairwise (· < ·) → (∀ c, c ∈ a ↔ c ∈ b) → a = b
  | [], [], _, _, _ => rfl
  | [], y :: b, _, _, h => absurd ((h y).2 (List.mem_cons_self ..)) (List.not_mem_nil)
  | x :: a, [], _, _, h => absurd ((h x).1 (List.mem_cons_self ..)) (List.not_mem_nil)
  | x :: a, y :: b, ha, hb, h => by
    rw [List.pairwise_cons] at ha hb
    have hxy : x = y := by
      rcases List.mem_cons.1 ((h x).1 (List.mem_cons_self ..)) with e | e
      · exact e
      · rcases List.mem_cons.1 ((h y).2 (List.mem_cons_self ..)) with e' | e'
        · exact e'.symm
        · have := hb.1 x e; have := ha.1 y e'; omega
    subst hxy
    rw [asc_ext ha.2 hb.2 fun c => ?_]
    constructor
    · intro hc
      rcases List.mem_cons.1 ((h c).1 (List.mem_cons_of_mem _ hc)) with e | e
      · subst e; have := ha.1 c hc; omega
      · exact e
    · intro hc
      rcases List.mem_cons.1 ((h c).2 (List.mem_cons_of_mem _ hc)) with e | e
      · subst e; have := hb.1 c hc; omega
      · exact e
theorem newArgs_snoc {ops : List POp} {i : Nat} (h : i < ops.length) : newArgs (ops.take (i + 1)) = newArgs (ops.take i) ++ (if (ops.getD i (0, 0)).1 = 13 then [(ops.getD i (0, 0)).2] else []) := by
  rw [take_last h]
  unfold newArgs
  rw [List.filter_append, List.map_append]
  by_cases hc : (ops.getD i (0, 0)).1 = 13
  · rw [if_pos hc, List.filter_cons, if_pos (by rw [hc]; rfl)]; rfl
  · rw [if_neg hc, List.filter_cons, if_neg (by simpa using hc)]; rfl
theorem newArgs_range {ops : List POp} (h : okOps ops = true) {c : Int} (hc : c ∈ newArgs ops) : 0 ≤ c ∧ c ≤ 9 := by
  obtain ⟨i, hi, h13, rfl⟩ := newArgs_mem.1 hc
  have hoo := okOps_at h hi
  have hm : mostP 13 = 9 := rfl
  simp only [okOp, decide_eq_true_eq, h13, hm] at hoo
  omega
theorem classesP_asc (ops : List POp) : (classesP ops).Pairwise (· < ·) := by
  unfold classesP
  split
  · rw [List.pairwise_filterMap]
    refine List.pairwise_lt_range.imp ?_
    intro a b hab x hx y hy
    split at hx
    · split at hy
      · simp only [Option.some.injEq] at hx hy; omega
      · cases hy
    · cases hx
  · exact List.Pairwise.nil
theorem classesP_mem {ops : List POp} (h : okOps ops = true) (c : Int) : c ∈ classesP ops ↔ c ∈ newArgs ops := by
  unfold classesP
  rw [if_pos h, List.mem_filterMap]
  constructor
  · rintro ⟨a, -, ha⟩
    split at ha
    · rename_i hm
      simp only [Option.some.injEq] at ha
      rw [← ha]; exact hm
    · cases ha
  · intro hc
    have := newArgs_range h hc
    refine ⟨c.toNat, List.mem_range.2 (by omega), ?_⟩
    rw [show ((c.toNat : Nat) : Int) = c by omega, if_pos hc]
theorem i_ClassesIn_tot {ops : List POp} (hl : ops.length ≤ 900000000000) : Tot (fun σ => F_Z54 (σ 0) ops) (fun r => r = ((classesP ops, ()), ())) := by
  refine tot_Z54 ?_
  unfold B_Z54
  refine (i_ValidOps_tot hl).bind ?_
  rintro _ rfl
  simp only [tot_cond, tot_some, Bool.not_eq_true', Bool.not_eq_false']
  refine ⟨fun h => by unfold classesP; rw [if_neg (by rw [h]; decide)], fun h => ?_⟩
  have h3 := (okOps_all h).2
  unfold len
  have hlen : ∀ i, (newArgs (ops.take i)).length ≤ 300 := fun i => by
    unfold newArgs
    rw [List.length_map]
    have := List.length_filter_le (fun o : POp => o.1 == 13) (ops.take i)
    rw [List.length_take] at this
    omega
  have key := loop_Z54_L1 (Q := fun _ _ _ _ r => r = ((classesP ops, ()), ())) (I := fun u o n i => o = ops ∧ n = (ops.length : Int) ∧ ∃ j : Nat, i = (j : Int) ∧ j ≤ ops.length ∧ u = newArgs (ops.take j)) (μ := fun _ _ _ i => (ops.length - i).toNat) ?_
  · exact key [] ops _ 0 ⟨rfl, rfl, 0, rfl, Nat.zero_le _, rfl⟩
  rintro _ o _ _ ⟨rfl, rfl, j, rfl, hj, rfl⟩ again hag ih
  unfold B_Z54_L1b
  have hrd : rdx ((0 : Int), (0 : Int)) o (j : Int) = o.getD j (0, 0) := by rw [rdx_eq, Int.toNat_natCast]
  rw [hrd, tot_cond]
  refine ⟨fun hlt => ?_, fun hge => ?_⟩
  · have hlt := of_decide_eq_true hlt
    have hjl : j < o.length := by omega
    simp only [tot_chk, inbn, tot_cond, tot_jn, room_iff, beq_iff_eq, beq_eq_false_iff_ne, ne_eq]
    have e := newArgs_snoc hjl
    refine ⟨hjl, fun h13 => ⟨by have := hlen j; simp only [List.length_cons, List.length_nil]; omega, ?_⟩, fun h13 => ?_⟩
    · rw [if_pos h13] at e
      unfold B_Z54_J0
      rw [w64n_succ (by omega), ← e]
      exact ih _ _ _ _ ⟨rfl, rfl, j + 1, rfl, hjl, rfl⟩ (by omega)
    · rw [if_neg h13, List.append_nil] at e
      unfold B_Z54_J0
      rw [w64n_succ (by omega), ← e]
      exact ih _ _ _ _ ⟨rfl, rfl, j + 1, rfl, hjl, rfl⟩ (by omega)
  · have hge := of_decide_eq_false hge
    have : j = o.length := by omega
    subst this
    rw [List.take_length]
    have hn : (newArgs o).length ≤ 300 := by have := hlen o.length; rwa [List.take_length] at this
    refine (sort_tot (by omega)).bind ?_
    rintro _ ⟨l1, rfl, h1, h2⟩
    have hl1 : l1.length ≤ 300 := by rw [h1.length_eq]; exact hn
    refine (compact_tot (s := l1) (by omega) h2).bind ?_
    rintro _ ⟨l2, rfl, h4, h5, h6⟩
    refine Tot.bind (P := fun r => r = ((l2, ()), ())) ?_ ?_
    · refine tot_Z22 ?_
      unfold B_Z22 len
      rw [tot_chk, tot_some]
      refine ⟨by rw [Bool.and_eq_true]; exact ⟨by simp, cutb_iff.2 ⟨by omega, by omega, by omega⟩⟩, ?_⟩
      unfold sub
      rw [Int.toNat_natCast, List.take_length]; rfl
    · rintro _ rfl
      rw [tot_some, asc_ext h4 (classesP_asc o) fun c => by rw [h5, classesP_mem h, h1.mem_iff]]
end Go.Gx

/-
  Laws: running for FirstBad (written by mkrun.py).
-/
set_option linter.unusedVariables false
set_option linter.unusedSimpArgs false
namespace Go.Gx
theorem after_FirstBad_tot {N : List PNode} {S M : List Int} {D : Bool} : Tot (fun σ => F_Z50 (σ 0) N S M D) (fun r => r = ((), ())) := by
  refine tot_Z50 ?_
  unfold B_Z50
  rw [tot_some]
theorem running_FirstBad_tot {ops : List POp} (hok : okOps ops = true) : Tot (fun σ => F_Z15 (σ 0) ops) (fun r => r = ((MD (runM newMc ops 0).1, ((runM newMc ops 0).2 : Int), ()), ())) := by
  obtain ⟨h1, h2⟩ := okOps_all hok
  refine tot_Z15 ?_
  unfold B_Z15
  refine newM_tot.bind ?_
  rintro _ rfl
  have key := loop_Z15_L0 (Q := fun ops' t4 N S M D t10 t11 t12 r => r = ((MD (runM newMc ops 0).1, ((runM newMc ops 0).2 : Int), ()), ()))
    (I := fun ops' t4 N S M D t10 t11 t12 => ops' = ops ∧ t10 = ops ∧ t11 = (ops.length : Int) ∧ ∃ j : Nat, t12 = (j : Int) ∧ j ≤ ops.length ∧ MI ⟨N, S, M, D⟩ (1000002 * j) ∧ N.length ≤ j ∧ S.length ≤ j ∧ runM newMc ops 0 = runM ⟨N, S, M, D⟩ (ops.drop j) j)
    (μ := fun _ _ _ _ _ _ _ _ t12 => (ops.length - t12).toNat) ?_
  · exact key ops false [] [] _ false ops _ 0 ⟨rfl, rfl, rfl, 0, rfl, by omega, newMc_inv, by simp, by simp, rfl⟩
  intro ops' t4 N S M D t10 t11 t12 ⟨e1, e2, e3, j, e4, hj, hI, hN, hS, hr⟩ again hag ih
  subst e1 e2 e3 e4
  unfold B_Z15_L0b
  simp only [tot_cond, tot_chk, decide_eq_true_eq, decide_eq_false_iff_not, inb_iff, rdx_eq, Int.toNat_natCast]
  refine ⟨fun hlt => ?_, fun hge => ?_⟩
  · have hj' : j < t10.length := by omega
    have hd : t10.drop j = t10.getD j (0, 0) :: t10.drop (j + 1) := by
      rw [List.drop_eq_getElem_cons hj', List.getD_eq_getElem?_getD, List.getElem?_eq_getElem hj']; rfl
    have hoo : okOp (t10.getD j (0, 0)) = true := List.all_eq_true.1 h1 _ (getD_mem hj')
    rw [hd] at hr
    refine ⟨by omega, (i_step_tot hI (by omega) (by show N.length ≤ _; omega) (by show S.length ≤ _; omega) (c := (t10.getD j (0, 0)).1) (a := (t10.getD j (0, 0)).2) hoo).bind fun r ha => ?_⟩
    cases hs : stepM ⟨N, S, M, D⟩ (t10.getD j (0, 0)).1 (t10.getD j (0, 0)).2 with
    | none =>
      rw [hs] at ha
      obtain ⟨_, ha⟩ := ha
      have ha := ha ⟨by show N.length < _; omega, by show S.length < _; omega⟩
      subst ha
      simp only [Bool.not_false, tot_cond, Option.bind_some]
      refine ⟨fun _ => (copyM_tot hI (by omega)).bind ?_, fun h0 => absurd h0 (by decide)⟩
      rintro _ rfl
      rw [tot_some, hr, runM, hs]
    | some m' =>
      rw [hs] at ha
      have ha : r = ((true, ()), ((some m'.N, m'.S, m'.M, m'.D, ()), ())) := ha
      subst ha
      simp only [Bool.not_true, tot_cond, Option.bind_some]
      refine ⟨fun h0 => absurd h0 (by decide), fun _ => after_FirstBad_tot.bind ?_⟩
      rintro _ rfl
      obtain ⟨g1, g2⟩ := stepM_grow hs
      obtain ⟨i1, i2, i3⟩ := hI.step (by show N.length ≤ _; omega) (by show S.length ≤ _; omega) hoo hs
      rw [show w64 ((j : Int) + 1) = ((j + 1 : Nat) : Int) by rw [w64_id (by omega) (by omega)]; omega]
      refine ih _ _ _ _ _ _ _ _ _ ⟨rfl, rfl, rfl, j + 1, rfl, by omega, ⟨i1.sh, i1.ni.mono (Nat.le_refl _) (by omega)⟩, by show m'.N.length ≤ _; simp only at g1; omega, by show m'.S.length ≤ _; simp only at g2; omega, ?_⟩ (by omega)
      rw [hr, runM, hs]
  · refine (copyM_tot hI (by omega)).bind ?_
    rintro _ rfl
    rw [tot_some, hr, List.drop_eq_nil_of_le (by omega), runM]
    have : j = t10.length := by omega
    rw [this]
end Go.Gx

/-
  Laws: FirstBad, by the program.
-/
set_option linter.unusedVariables false
set_option linter.unusedSimpArgs false
namespace Go.Gx
theorem i_FirstBad_tot {ops : List POp} (hl : ops.length ≤ 900000000000) : Tot (fun σ => F_Z70 (σ 0) ops) (fun r => r = ((badM ops, ()), ())) := by
  refine tot_Z70 ?_
  unfold B_Z70 badM
  refine (i_ValidOps_tot hl).bind ?_
  rintro _ rfl
  simp only [tot_cond, tot_some, Bool.not_eq_true', Bool.not_eq_false']
  refine ⟨fun h => by rw [if_neg (by rw [h]; decide)], fun h => ?_⟩
  refine (running_FirstBad_tot h).bind ?_
  rintro _ rfl
  simp only [tot_cond, tot_some, beq_iff_eq, beq_eq_false_iff_ne, ne_eq, len]
  rw [if_pos h]
  refine ⟨fun he => by rw [if_pos (by show (runM newMc ops 0).2 = _; omega)], fun he => by rw [if_neg (by show ¬ (runM newMc ops 0).2 = _; omega)]⟩
end Go.Gx

/-
  Laws: running for LeastRules, which keeps rules.
-/
set_option linter.unusedVariables false
set_option linter.unusedSimpArgs false
namespace Go.Gx
theorem maxP_snoc (l : List Int) (x : Int) : maxP (l ++ [x]) = if x > maxP l then x else maxP l := by
  unfold maxP; rw [List.foldl_append]; rfl
theorem after_LeastRules_tot {n s : Nat} {D : Bool} (a b c : Int) (l : List Int) : Tot (fun σ => F_Z30 (σ 0) n s D a b c l) (fun r => r = ((), ((a, (n : Int), (if (s : Int) > c then (s : Int) else c), l, ()), ()))) := by
  refine tot_Z30 ?_
  unfold B_Z30
  rw [tot_some]
theorem running_LeastRules_tot {ops : List POp} (hok : okOps ops = true) (st : Int) (cl : List Int) : Tot (fun σ => F_Z8 (σ 0) ops st 0 0 cl) (fun r => r = ((MD (rM ops), (rN ops : Int), ()), ((st, ((rM ops).N.length : Int), maxP (traceM (fun m => (m.S.length : Int)) ops (rN ops)), cl, ()), ()))) := by
  obtain ⟨h1, h2⟩ := okOps_all hok
  refine tot_Z8 ?_
  unfold B_Z8
  refine newM_tot.bind ?_
  rintro _ rfl
  have key := loop_Z8_L0 (Q := fun ops' a1 a2 a3 a4 t4 N S M D t10 t11 t12 r => r = ((MD (rM ops), (rN ops : Int), ()), ((st, ((rM ops).N.length : Int), maxP (traceM (fun m => (m.S.length : Int)) ops (rN ops)), cl, ()), ())))
    (I := fun ops' a1 a2 a3 a4 t4 N S M D t10 t11 t12 => ops' = ops ∧ t10 = ops ∧ t11 = (ops.length : Int) ∧ ∃ j : Nat, t12 = (j : Int) ∧ j ≤ ops.length ∧ MI ⟨N, S, M, D⟩ (1000002 * j) ∧ N.length ≤ j ∧ S.length ≤ j ∧ runM newMc (ops.take j) 0 = (⟨N, S, M, D⟩, j) ∧ a1 = st ∧ a2 = (N.length : Int) ∧ a3 = maxP (traceM (fun m => (m.S.length : Int)) ops j) ∧ a4 = cl)
    (μ := fun _ _ _ _ _ _ _ _ _ _ _ _ t12 => (ops.length - t12).toNat) ?_
  · exact key ops st 0 0 cl false [] [] _ false ops _ 0 ⟨rfl, rfl, rfl, 0, rfl, by omega, newMc_inv, by simp, by simp, rfl, rfl, rfl, rfl, rfl⟩
  intro ops' a1 a2 a3 a4 t4 N S M D t10 t11 t12 ⟨e1, e2, e3, j, e4, hj, hI, hN, hS, hr, f1, f2, f3, f4⟩ again hag ih
  subst e1 e2 e3 e4 f1 f2 f3 f4
  unfold B_Z8_L0b
  simp only [tot_cond, tot_chk, decide_eq_true_eq, decide_eq_false_iff_not, inb_iff, rdx_eq, Int.toNat_natCast]
  refine ⟨fun hlt => ?_, fun hge => ?_⟩
  · have hj' : j < t10.length := by omega
    have hoo : okOp (t10.getD j (0, 0)) = true := List.all_eq_true.1 h1 _ (getD_mem hj')
    refine ⟨by omega, (i_step_tot hI (by omega) (by show N.length ≤ _; omega) (by show S.length ≤ _; omega) (c := (t10.getD j (0, 0)).1) (a := (t10.getD j (0, 0)).2) hoo).bind fun r ha => ?_⟩
    cases hs : stepM ⟨N, S, M, D⟩ (t10.getD j (0, 0)).1 (t10.getD j (0, 0)).2 with
    | none =>
      rw [hs] at ha
      obtain ⟨_, ha⟩ := ha
      have ha := ha ⟨by show N.length < _; omega, by show S.length < _; omega⟩
      subst ha
      simp only [Bool.not_false, tot_cond, Option.bind_some]
      refine ⟨fun _ => (copyM_tot hI (by omega)).bind ?_, fun h0 => absurd h0 (by decide)⟩
      rintro _ rfl
      have he := run_end hj' hr hs
      have en : rN t10 = j := congrArg (·.2) he
      rw [tot_some, en, show rM t10 = ⟨N, S, M, D⟩ from congrArg (·.1) he]
    | some m' =>
      rw [hs] at ha
      have ha : r = ((true, ()), ((some m'.N, m'.S, m'.M, m'.D, ()), ())) := ha
      subst ha
      obtain ⟨g1, g2⟩ := stepM_grow hs
      obtain ⟨i1, i2, i3⟩ := hI.step (by show N.length ≤ _; omega) (by show S.length ≤ _; omega) hoo hs
      have hm := run_more hj' hr hs
      simp only [Bool.not_true, tot_cond, Option.bind_some]
      refine ⟨fun h0 => absurd h0 (by decide), fun _ => (after_LeastRules_tot _ _ _ _).bind ?_⟩
      rintro _ rfl
      rw [show w64 ((j : Int) + 1) = ((j + 1 : Nat) : Int) by rw [w64_id (by omega) (by omega)]; omega]
      refine ih _ _ _ _ _ _ _ _ _ _ _ _ _ ⟨rfl, rfl, rfl, j + 1, rfl, by omega, ⟨i1.sh, i1.ni.mono (Nat.le_refl _) (by omega)⟩, by show m'.N.length ≤ _; simp only at g1; omega, by show m'.S.length ≤ _; simp only at g2; omega, hm, rfl, rfl, ?_, rfl⟩ (by omega)
      rw [traceM_succ, maxP_snoc]
      rw [show rM (t10.take (j + 1)) = m' from congrArg (·.1) hm]
  · refine (copyM_tot hI (by omega)).bind ?_
    rintro _ rfl
    have : j = t10.length := by omega
    subst this
    rw [List.take_length] at hr
    have en : rN t10 = t10.length := congrArg (·.2) hr
    rw [tot_some, en, show rM t10 = ⟨N, S, M, D⟩ from congrArg (·.1) hr]
theorem i_LeastRules_tot {ops : List POp} (hl : ops.length ≤ 900000000000) : Tot (fun σ => F_Z51 (σ 0) ops) (fun r => r = ((((leastP ops).1.st, (leastP ops).1.nd, (leastP ops).1.dp, (leastP ops).1.cl, ()), (leastP ops).2, ()), ())) := by
  refine tot_Z51 ?_
  unfold B_Z51
  refine (i_FirstBad_tot hl).bind ?_
  rintro _ rfl
  rw [tot_cond]
  refine ⟨fun h => ?_, fun h => ?_⟩
  · rw [tot_some]
    have : leastP ops = (⟨0, 0, 0, []⟩, false) := by
      unfold leastP
      refine if_neg fun hc => ?_
      have hb : badM ops = -1 := by unfold badM; rw [if_pos hc.1, if_pos hc.2]
      simp only [hb] at h
      exact absurd h (by decide)
    rw [this]
  · have hb : badM ops = -1 := by simpa using h
    have hc : okOps ops = true ∧ rN ops = ops.length := by
      unfold badM at hb
      split at hb
      · rename_i h1
        split at hb
        · rename_i h2; exact ⟨h1, h2⟩
        · omega
      · omega
    have e : leastP ops = (⟨(ops.length : Int), ((rM ops).N.length : Int), maxP (traceM (fun m => (m.S.length : Int)) ops (rN ops)), classesP ops⟩, true) := by unfold leastP; rw [if_pos hc]
    refine (i_ClassesIn_tot hl).bind ?_
    rintro _ rfl
    refine (running_LeastRules_tot hc.1 _ _).bind ?_
    rintro _ rfl
    rw [tot_some, e]
end Go.Gx

/-
  The plain law of FnClassesIn.
-/
set_option linter.unusedVariables false
set_option linter.unusedSimpArgs false
namespace Go.Gx
def kvN (n : PNode) : Int × Int := (n.1, n.2.1)
def addKV (c a : Int) : List (Int × Int) := if 0 ≤ newKindP c then [(newKindP c, if c = 0 ∨ c = 1 ∨ c = 13 then a else 0)] else if c = 3 ∨ c = 5 ∨ c = 6 then [(2, 0)] else []
theorem setK_kv (N : List PNode) (i : Nat) (ks : List Int) : (setK N i ks).map kvN = N.map kvN := setK_map _ _ _ _ rfl
theorem putsP_kv : ∀ (l : List Int) (N : List PNode) (d : Int), (putsP N d l).map kvN = N.map kvN
  | [], _, _ => rfl
  | [_], _, _ => rfl
  | k :: v :: r, N, d => by rw [putsP, putsP_kv r]; exact setK_kv _ _ _
/-- What an order adds to the nodes' kinds and values. -/
theorem nodesP_kv (m : Mc) (c a : Int) : (nodesP m c a).map kvN = m.N.map kvN ++ addKV c a := by
  unfold nodesP addKV
  split
  · rw [List.map_append]; rfl
  · split
    · rename_i h; rw [if_pos (by omega), List.map_append]; rfl
    · split
      · rename_i h; rw [if_pos (by omega), List.map_append]; rfl
      · split
        · rename_i h; rw [if_pos (by omega), List.map_append]; rfl
        · have e : (if c = 3 ∨ c = 5 ∨ c = 6 then [((2 : Int), (0 : Int))] else []) = [] := if_neg (by omega)
          rw [e, List.append_nil]
          split
          · exact setK_kv _ _ _
          · split
            · exact setK_kv _ _ _
            · split
              · exact setK_kv _ _ _
              · split
                · exact putsP_kv _ _ _
                · split
                  · exact setK_kv _ _ _
                  · rfl
theorem stepM_kv {m m' : Mc} {c a : Int} (h : stepM m c a = some m') : m'.N.map kvN = m.N.map kvN ++ addKV c a := by
  unfold stepM at h
  cases hs : stepP m.sh c a with
  | none => rw [hs] at h; cases h
  | some s => rw [hs] at h; cases h; exact nodesP_kv m c a
end Go.Gx

/-
  The plain law of FnLeastRules.
-/
set_option linter.unusedVariables false
set_option linter.unusedSimpArgs false
namespace Go.Gx
theorem maxP_rec : ∀ l : List Int, 0 ≤ maxP l.reverse ∧ (∀ x ∈ l, x ≤ maxP l.reverse) ∧ (maxP l.reverse ≠ 0 → maxP l.reverse ∈ l)
  | [] => ⟨by decide, fun x hx => absurd hx (List.not_mem_nil), fun h => absurd rfl h⟩
  | x :: l => by
    obtain ⟨h1, h2, h3⟩ := maxP_rec l
    rw [List.reverse_cons, maxP_snoc]
    split
    · rename_i h
      refine ⟨by omega, fun y hy => ?_, fun _ => List.mem_cons_self ..⟩
      rcases List.mem_cons.1 hy with e | e
      · omega
      · have := h2 y e; omega
    · rename_i h
      refine ⟨h1, fun y hy => ?_, fun hn => List.mem_cons_of_mem _ (h3 hn)⟩
      rcases List.mem_cons.1 hy with e | e
      · omega
      · exact h2 y e
theorem maxP_facts (l : List Int) : 0 ≤ maxP l ∧ (∀ x ∈ l, x ≤ maxP l) ∧ (maxP l ≠ 0 → maxP l ∈ l) := by
  have := maxP_rec l.reverse
  rw [List.reverse_reverse] at this
  exact ⟨this.1, fun x hx => this.2.1 x (List.mem_reverse.2 hx), fun h => List.mem_reverse.1 (this.2.2 h)⟩
theorem tot_or {R : Type} {A B : Bool} {f g h : (Nat → Nat) → Option R} {Q : R → Prop} (hab : A = true ∨ B = true) (hf : Tot f Q) (hg : Tot g Q) : Tot (fun s => bif A then f s else bif B then g s else h s) Q := by
  cases A with
  | true => exact hf
  | false =>
    rcases hab with h | h
    · cases h
    · subst h; exact hg
theorem DrawLeastRules_tot {code : List Int} (hc : ∀ z ∈ code, 0 ≤ z ∧ z ≤ 255) (hl : code.length ≤ 1048576) : Tot (fun σ => F_Z23 (σ 0) code) (fun r => ∃ ops : List POp, r = ((ops, ()), ()) ∧ ops.length ≤ 500000000000) := by
  refine tot_Z23 ?_
  unfold B_Z23
  refine (newReader_tot hc hl).bind ?_
  rintro _ ⟨b, rfl, hb⟩
  refine (someOps_tot hb (by omega)).bind ?_
  rintro _ ⟨_, q, rfl, hq1, hq2, ops, rfl, hl⟩
  rw [tot_some]
  exact ⟨ops, rfl, hl⟩
/-- Nodes are never taken away. -/
theorem rM_grow {ops : List POp} : ∀ {i j : Nat}, i ≤ j → j ≤ rN ops → (rM (ops.take i)).N.length ≤ (rM (ops.take j)).N.length := by
  intro i j hij
  induction j with
  | zero => intro _; rw [show i = 0 by omega]; exact Nat.le_refl _
  | succ j ih =>
    intro hj
    by_cases e : i = j + 1
    · subst e; exact Nat.le_refl _
    · have h1 := ih (by omega) (by omega)
      have h2 := stepM_kv (rM_step (show j < rN ops by omega))
      have h3 := congrArg List.length h2
      rw [List.length_map, List.length_append, List.length_map] at h3
      omega
def leastR (ops : List POp) : Ru := ⟨(ops.length : Int), ((rM ops).N.length : Int), maxP (traceM (fun m => (m.S.length : Int)) ops (rN ops)), classesP ops⟩
theorem leastR_ok {ops : List POp} (hok : okOps ops = true) (hn : rN ops = ops.length) : RuOk (leastR ops) := by
  have h3 := (okOps_all hok).2
  have hi := rM_inv hok
  have hm := maxP_facts (traceM (fun m => (m.S.length : Int)) ops (rN ops))
  refine ⟨fun c hc => newArgs_range hok ((classesP_mem hok c).1 hc), fun i hi hm => ?_, ⟨by simp only [leastR]; omega, by simp only [leastR]; omega⟩, ⟨by simp only [leastR]; omega, by simp only [leastR]; omega⟩, ⟨by simp only [leastR]; omega, ?_⟩⟩
  · have hi' : i < (classesP ops).length := hi
    obtain ⟨k, hk, e⟩ := List.getElem_of_mem hm
    have hk' : k < i := by rw [List.length_take] at hk; omega
    have e : (classesP ops)[k]'(by omega) = (classesP ops)[i] := by
      have e2 : (leastR ops).cl.getD i 0 = (classesP ops)[i] := getD_z hi'
      rw [← e2, ← e, List.getElem_take]; rfl
    have := List.pairwise_iff_getElem.1 (classesP_asc ops) k i (by omega) hi' hk'
    omega
  · by_cases h0 : maxP (traceM (fun m => (m.S.length : Int)) ops (rN ops)) = 0
    · simp only [leastR]; omega
    · have := hm.2.2 h0
      unfold traceM at this
      obtain ⟨i, hi, e⟩ := List.mem_map.1 this
      have := (rM_inv (okOps_take hok (i + 1))).2.2.1
      have e : ((rM (ops.take (i + 1))).S.length : Int) = (leastR ops).dp := e
      show (leastR ops).dp ≤ 300
      omega
theorem p_Z26 (code : List Int) (hc : ∀ z ∈ code, 0 ≤ z ∧ z ≤ 255) : ∃ k, F_Z26 k code = some ((true, ()), ()) := by
  refine Tot.ex (F := fun k => F_Z26 k code) ?_
  refine tot_Z26 ?_
  unfold B_Z26
  simp only [tot_cond, tot_some, decide_eq_true_eq, decide_eq_false_iff_not, len]
  refine ⟨fun _ => trivial, fun hl => ?_⟩
  refine (DrawLeastRules_tot hc (by omega)).bind ?_
  rintro _ ⟨ops, rfl, hll⟩
  refine (i_LeastRules_tot (by simp only; omega)).bind ?_
  rintro _ rfl
  refine (s_LeastRules_tot (by simp only; omega)).bind ?_
  rintro _ rfl
  have hcl : (leastP ops).1.cl.length ≤ 10 := by
    unfold leastP
    split
    · exact classesP_len ops
    · simp
  have eqq : Tot (fun σ => F_Z43 (σ 0) (leastP ops).1.st (leastP ops).1.nd (leastP ops).1.dp (leastP ops).1.cl (leastP ops).1.st (leastP ops).1.nd (leastP ops).1.dp (leastP ops).1.cl) (fun r => r = ((true, ()), ())) := by
    refine tot_Z43 ?_
    unfold B_Z43
    simp only [beq_self_eq_true, cond_true]
    refine (equalInts_tot (by omega)).bind ?_
    rintro _ ⟨t, rfl, ht⟩
    rw [tot_some, ht.2 rfl]
  refine eqq.bind ?_
  rintro _ rfl
  rw [tot_cond]
  refine ⟨fun h => absurd h (by decide), fun _ => ?_⟩
  simp only [beq_self_eq_true, Bool.not_true, cond_false, tot_jn]
  unfold B_Z26_J0
  rw [tot_cond]
  refine ⟨fun h => ?_, fun h => ?_⟩
  · refine eqq.bind ?_
    rintro _ rfl
    rw [tot_cond]
    refine ⟨fun _ => by rw [tot_some, beq_self_eq_true], fun h => absurd h (by decide)⟩
  have hc : okOps ops = true ∧ rN ops = ops.length := by
    unfold leastP at h
    split at h
    · rename_i h0; exact h0
    · simp at h
  obtain ⟨hok, hn⟩ := hc
  have e : leastP ops = (leastR ops, true) := by unfold leastP leastR; rw [if_pos ⟨hok, hn⟩]
  rw [e]
  have hR := leastR_ok hok hn
  have h3 := (okOps_all hok).2
  have hcl' : (leastR ops).cl.length ≤ 10 := classesP_len ops
  have hm := maxP_facts (traceM (fun m => (m.S.length : Int)) ops (rN ops))
  -- what the least rules let
  have hb : ∀ i, i < ops.length → brk ops (leastR ops) i = 0 := by
    intro i hi
    unfold brk
    rw [if_neg (by omega), if_neg (by simp only [leastR]; omega), if_neg, if_neg, if_neg]
    · have : ((rM (ops.take (i + 1))).S.length : Int) ∈ traceM (fun m => (m.S.length : Int)) ops (rN ops) := by
        rw [← traceM_get (fun m => (m.S.length : Int)) ops (show i < rN ops by omega)]
        exact getD_mem0 (by rw [traceM_len]; omega)
      have := hm.2.1 _ this
      simp only [leastR]; omega
    · have := rM_grow (ops := ops) (i := i + 1) (j := rN ops) (by omega) (Nat.le_refl _)
      rw [rM_all] at this
      simp only [leastR]; omega
    · rintro ⟨h13, hno⟩
      exact hno ((classesP_mem hok _).2 (newArgs_mem.2 ⟨i, hi, h13, rfl⟩))
  -- rules of which one thing is less
  have less : ∀ (r : Ru) (x : (Int × Int × Unit) × Unit), AnsR ops r x → (∃ i, i < ops.length ∧ brk ops r i ≠ 0) → x.1.1 < (ops.length : Int) := by
    rintro r x (⟨_, rfl⟩ | ⟨_, _, n, w, hS, rfl⟩) ⟨i, hi, hb⟩
    · show (-1 : Int) < _; omega
    · show (n : Int) < _
      have := hS.le
      by_cases hni : n ≤ i
      · omega
      · exact absurd (hS.ok i (by omega)) hb
  refine (i_SafeRun_tot (r := leastR ops) (by omega) (by omega)).bind fun x hx => ?_
  have hx : AnsR ops (leastR ops) x := hx
  have hx1 : x.1.1 = (ops.length : Int) := by
    rcases hx with ⟨h1, _⟩ | ⟨_, _, n, w, hS, rfl⟩
    · exact absurd ⟨hok, hR⟩ h1
    · show (n : Int) = _
      have := hS.le
      by_cases hlt : n < ops.length
      · exact absurd (hb n hlt) (hS.no hlt).1
      · omega
  have dec : ∀ z : Int, 0 ≤ z → z ≤ 300 → z ≠ 0 → (if 0 > w64 (z - 1) then 0 else w64 (z - 1)) = z - 1 := by
    intro z h1 h2 h3
    rw [w64_id (by omega) (by omega), if_neg (by omega)]
  refine (i_SafeRun_tot (r := ⟨if 0 > w64 ((leastR ops).st - 1) then 0 else w64 ((leastR ops).st - 1), (leastR ops).nd, (leastR ops).dp, (leastR ops).cl⟩) (by omega) (by simp only; omega)).bind fun a ha => ?_
  refine (i_SafeRun_tot (r := ⟨(leastR ops).st, if 0 > w64 ((leastR ops).nd - 1) then 0 else w64 ((leastR ops).nd - 1), (leastR ops).dp, (leastR ops).cl⟩) (by omega) (by simp only; omega)).bind fun b hb' => ?_
  refine (i_SafeRun_tot (r := ⟨(leastR ops).st, (leastR ops).nd, if 0 > w64 ((leastR ops).dp - 1) then 0 else w64 ((leastR ops).dp - 1), (leastR ops).cl⟩) (by omega) (by simp only; omega)).bind fun c hc' => ?_
  have a1 : ((leastR ops).st == 0) = true ∨ decide (a.1.1 < x.1.1) = true := by
    by_cases h0 : (leastR ops).st = 0
    · exact Or.inl (by rw [h0]; rfl)
    · refine Or.inr (decide_eq_true ?_)
      rw [hx1]
      have hst : (leastR ops).st = (ops.length : Int) := rfl
      refine less _ a ha ⟨ops.length - 1, by omega, ?_⟩
      unfold brk
      rw [if_neg (by omega), if_pos]
      · decide
      · simp only [dec _ hR.st.1 hR.st.2 h0]; omega
  have a2 : ((leastR ops).nd == 0) = true ∨ decide (b.1.1 < x.1.1) = true := by
    by_cases h0 : (leastR ops).nd = 0
    · exact Or.inl (by rw [h0]; rfl)
    · refine Or.inr (decide_eq_true ?_)
      rw [hx1]
      have hnd : (leastR ops).nd = ((rM ops).N.length : Int) := rfl
      have hpos : 0 < ops.length := by
        rcases Nat.eq_zero_or_pos ops.length with h | h
        · exfalso
          have : ops = [] := List.length_eq_zero_iff.1 h
          subst this
          exact h0 rfl
        · exact h
      refine less _ b hb' ⟨ops.length - 1, by omega, ?_⟩
      have : ops.take (ops.length - 1 + 1) = ops := by rw [Nat.sub_add_cancel hpos, List.take_length]
      unfold brk
      rw [if_neg (by omega), this]
      simp only [dec _ hR.nd.1 hR.nd.2 h0]
      split
      · decide
      · split
        · decide
        · rw [if_pos (by omega)]; decide
  have a3 : ((leastR ops).dp == 0) = true ∨ decide (c.1.1 < x.1.1) = true := by
    by_cases h0 : (leastR ops).dp = 0
    · exact Or.inl (by rw [h0]; rfl)
    · refine Or.inr (decide_eq_true ?_)
      rw [hx1]
      have := hm.2.2 h0
      unfold traceM at this
      obtain ⟨i, hi, e⟩ := List.mem_map.1 this
      rw [List.mem_range] at hi
      have e : ((rM (ops.take (i + 1))).S.length : Int) = (leastR ops).dp := e
      refine less _ c hc' ⟨i, by omega, ?_⟩
      unfold brk
      rw [if_neg (by omega)]
      simp only [dec _ hR.dp.1 hR.dp.2 h0]
      split
      · decide
      · split
        · decide
        · split
          · decide
          · rw [if_pos (by omega)]; decide
  have hv : Tot (fun σ => (F_Z41 (σ 0) (leastR ops).st (leastR ops).nd (leastR ops).dp (leastR ops).cl).bind fun r133 => some ((r133.1.1, ()), ())) (fun r => r = ((true, ()), ())) := by
    refine (i_ValidRules_tot (r := leastR ops) (by omega)).bind ?_
    rintro _ ⟨t, rfl, ht⟩
    rw [tot_some, ht.2 hR]
  have h4 : (x.1.1 == ((ops.length : Nat) : Int)) = true := by rw [hx1, beq_self_eq_true]
  rw [tot_cond]
  refine ⟨fun _ => ?_, fun h => by rw [h4] at h; cases h⟩
  exact tot_or a1 (tot_or a2 (tot_or a3 hv hv) (tot_or a3 hv hv)) (tot_or a2 (tot_or a3 hv hv) (tot_or a3 hv hv))
end Go.Gx

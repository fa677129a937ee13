/-
  Plain laws about the printed functions.
-/
import Derived.Test.YtbfaapoaimoimaaXLpart1
set_option linter.unusedVariables false
set_option linter.unusedSimpArgs false
namespace Go.Gx
theorem idx_of_place {l : List Int} {x v : Int} (h : (v = -1 ∧ x ∉ l) ∨ ∃ j : Nat, v = j ∧ j < l.length ∧ l.getD j 0 = x ∧ ∀ i, i < j → l.getD i 0 ≠ x) : (v < 0 ∧ idx l x = none) ∨ ∃ j : Nat, v = j ∧ idx l x = some j := by
  rcases h with ⟨h1, h2⟩ | ⟨j, h1, h2, h3, h4⟩
  · exact .inl ⟨by omega, idx_none.2 h2⟩
  · refine .inr ⟨j, h1, ?_⟩
    unfold idx
    rw [List.findIdx?_eq_some_iff_getElem]
    refine ⟨h2, ?_, fun i hi => ?_⟩
    · rw [getD_at h2] at h3; simpa using h3
    · have := h4 i hi
      rw [getD_at (by omega)] at this
      simpa using this
/-- What a walk has, in the midst of some kids. -/
structure Mid (g : List PNode) (f : Nat) (p0 : List Int × List Int) (l : List Int) (j : Nat) (p : List Int × List Int) (c : Nat) : Prop where
  eq : p = (l.take j).foldl (fun p k => cod g f k p) p0
  met : MetOk g p.2
  fuel : j < l.length → g.length + 1 ≤ f + p.2.length
  room : p.1.length + 3 * restN g p.2 + 3 * (l.length - j + c) ≤ 500000000000
theorem Mid.next {g : List PNode} (hk : Kids g) (hL : IntLeaf g) {f : Nat} {p0 : List Int × List Int} {l : List Int} {j : Nat} {p : List Int × List Int} {c : Nat} (h : Mid g f p0 l j p c) (hl : InR g l) (hj : j < l.length) : Mid g f p0 l (j + 1) (cod g f (l.getD j 0) p) c := by
  have hr := hl _ (getDm hj)
  have h2 := h.room
  have h3 := h.fuel hj
  have h1 := cod_ok hk hL f (l.getD j 0) p (l.length - (j + 1) + c) hr.1 hr.2 h.met h3 (by omega)
  refine ⟨?_, h1.1, fun _ => by omega, h1.2.2⟩
  rw [foldl_take_succ hj, ← h.eq, rdx_eq, Int.toNat_natCast]
theorem Mid.end {g : List PNode} {f : Nat} {p0 : List Int × List Int} {l : List Int} {j : Nat} {p : List Int × List Int} {c : Nat} (h : Mid g f p0 l j p c) (hj : l.length ≤ j) : p = l.foldl (fun p k => cod g f k p) p0 := by
  rw [h.eq, List.take_of_length_le hj]
/-- A node that was not met. -/
theorem cod_new {g : List PNode} (hL : IntLeaf g) {f : Nat} {i : Int} {o m : List Int} (h0 : 0 ≤ i) (h1 : i < (g.length : Int)) (hm : MetOk g m) (hf : g.length + 1 ≤ f + 1 + m.length) (hr : o.length + 3 * restN g m + 3 ≤ 500000000000) (hq : idx m i = none) {m1 : List Int} (hm1 : m1 = if (nd g i).1 ≠ 0 then m ++ [i] else m) :
    cod g (f + 1) i (o, m) = (kd g i).foldl (fun p k => cod g f k p) (o ++ [(nd g i).1, (nd g i).2.1, len (nd g i).2.2], m1) ∧
    Mid g f (o ++ [(nd g i).1, (nd g i).2.1, len (nd g i).2.2], m1) (kd g i) 0 (o ++ [(nd g i).1, (nd g i).2.1, len (nd g i).2.2], m1) 0 := by
  have hni := idx_none.1 hq
  constructor
  · conv => lhs; unfold cod
    simp only [hq]
    rw [← hm1]; rfl
  · by_cases hz : (nd g i).1 = 0
    · rw [if_neg (by simpa using hz)] at hm1
      subst hm1
      have hnil : kd g i = [] := hL _ (nd_mem h0 h1) hz
      exact ⟨rfl, hm, fun h => absurd h (by simp [hnil]), by simp only [List.length_append, List.length_cons, List.length_nil, hnil]; omega⟩
    · rw [if_pos hz] at hm1
      subst hm1
      have hs := restN_snoc h0 h1 hni
      exact ⟨rfl, hm.snoc h0 h1 hni, fun _ => by simp only [List.length_append, List.length_cons, List.length_nil]; omega, by simp only [List.length_append, List.length_cons, List.length_nil]; omega⟩
theorem cod_old {g : List PNode} {f : Nat} {i : Int} {o m : List Int} {n : Nat} (hq : idx m i = some n) : cod g (f + 1) i (o, m) = (o ++ [-1, (n : Int)], m) := by
  conv => lhs; unfold cod
  simp only [hq]
theorem s_code_tot {g : List PNode} {root : Int} (hk : Kids g) (hL : IntLeaf g) (hg : g.length ≤ 1000000) (hl : ∀ n ∈ g, n.2.2.length ≤ 400000000) : ∀ (f : Nat) (i : Int) (o m : List Int), 0 ≤ i → i < (g.length : Int) → MetOk g m → g.length + 1 ≤ f + m.length → o.length + 3 * restN g m + 3 ≤ 500000000000 →
    Tot (fun σ => F_s_code (σ 0) g root i o m) (fun r => r = (((cod g f i (o, m)).1, (cod g f i (o, m)).2, ()), ())) := by
  intro f
  induction f with
  | zero => intro i o m _ _ hm hf; have := hm.len; omega
  | succ f ihf =>
    intro i o m h0 h1 hm hf hr
    have hml := hm.len
    have hmi := nd_mem h0 h1
    refine tot_s_code ?_
    unfold B_s_code
    simp only [tot_chk, inb_iff]
    refine ⟨⟨h0, h1⟩, (placeIn_tot (by omega) i).bind ?_⟩
    rintro _ ⟨v, rfl, hv⟩
    have hx : rdx ((0 : Int), ((0 : Int), ([] : List Int))) g i = nd g i := rfl
    simp only [tot_cond, decide_eq_true_eq, decide_eq_false_iff_not, hx]
    rcases idx_of_place hv with ⟨v0, hq⟩ | ⟨n, v0, hq⟩
    · refine ⟨fun h => absurd h (by omega), fun _ => (copyInts_tot' (by omega)).bind ?_⟩
      rintro _ rfl
      have hni := idx_none.1 hq
      -- the kids
      have kids : ∀ m1 : List Int, (m1 = if (nd g i).1 ≠ 0 then m ++ [i] else m) → Tot (fun σ => B_s_code_J0 (σ 0) (F_Z64 (σ 0)) (F_Z50 (σ 0)) (F_s_code (σ 0)) (o ++ [(nd g i).1, (nd g i).2.1, len (nd g i).2.2]) m1 g root (nd g i).1 (nd g i).2.1 (nd g i).2.2) (fun r => r = (((cod g (f + 1) i (o, m)).1, (cod g (f + 1) i (o, m)).2, ()), ())) := by
        intro m1 hm1
        obtain ⟨e0, st⟩ := cod_new (f := f) hL h0 h1 hm hf hr hq hm1
        unfold B_s_code_J0
        rw [e0]
        generalize hp0 : (o ++ [(nd g i).1, (nd g i).2.1, len (nd g i).2.2], m1) = p0 at st ⊢
        have hp1 : o ++ [(nd g i).1, (nd g i).2.1, len (nd g i).2.2] = p0.1 := by rw [← hp0]
        have hp2 : m1 = p0.2 := by rw [← hp0]
        rw [hp1, hp2]
        have key := loop_s_code_L1 (Q := fun _ _ _ _ _ _ _ _ r => r = ((((kd g i).foldl (fun p k => cod g f k p) p0).1, ((kd g i).foldl (fun p k => cod g f k p) p0).2, ()), ()))
          (I := fun o1 m1 g' r' a b ks q => g' = g ∧ r' = root ∧ ks = kd g i ∧ ∃ j : Nat, q = j ∧ j ≤ (kd g i).length ∧ Mid g f p0 (kd g i) j (o1, m1) 0) (μ := fun _ _ _ _ _ _ _ q => (kd g i).length - q.toNat) ?_
        · exact key p0.1 p0.2 g root _ _ _ 0 ⟨rfl, rfl, rfl, 0, rfl, by omega, st⟩
        intro o1 m1 g' r' a b ks q ⟨e1, e2, e3, j, e4, hj, mid⟩ again hag ih
        subst e1 e2 e3 e4
        unfold B_s_code_L1b
        simp only [tot_cond, tot_chk, tot_some, decide_eq_true_eq, decide_eq_false_iff_not, inb_iff, len, rdx_eq, Int.toNat_natCast]
        have hl6 : (kd g' i).length ≤ 400000000 := hl _ hmi
        refine ⟨fun hlt => ⟨⟨by omega, hlt⟩, ?_⟩, fun hge => by rw [← mid.end (by omega)]⟩
        have hj' : j < (kd g' i).length := by omega
        have hr1 := hk _ hmi _ (getDm hj')
        have hroom := mid.room
        simp only [] at hroom
        refine (ihf _ o1 m1 hr1.1 hr1.2 mid.met (mid.fuel hj') (by omega)).bind ?_
        rintro _ rfl
        rw [w64_succ (by omega) (by omega)]
        exact ih _ _ _ _ _ _ _ _ ⟨rfl, rfl, rfl, j + 1, rfl, by omega, mid.next hk hL (hk _ hmi) hj'⟩ (by simp; omega)
      simp only [tot_cond, tot_chk, tot_jn, room_iff, List.length_cons, List.length_nil, bne_iff_ne, ne_eq, bne_eq_false_iff_eq]
      refine ⟨by omega, fun hz => (copyInts_tot' (by omega)).bind ?_, fun hz => kids m (by rw [if_neg (by simpa using hz)])⟩
      rintro _ rfl
      simp only [tot_chk, tot_jn, room_iff, List.length_cons, List.length_nil]
      exact ⟨by omega, kids _ (by rw [if_pos hz])⟩
    · refine ⟨fun _ => (copyInts_tot' (by omega)).bind ?_, fun h => absurd h (by omega)⟩
      rintro _ rfl
      simp only [tot_chk, tot_some, room_iff, List.length_cons, List.length_nil]
      refine ⟨by omega, ?_⟩
      rw [cod_old hq, v0]
/-- What a map of numbers says. -/
structure Num (t : List (Int × Int)) (met : List Int) : Prop where
  len : t.length = met.length
  find : ∀ x, mfind t x = (idx met x).map fun n => (n : Int)
theorem mput_len {t : List (Int × Int)} {z x : Int} (h : mfind t z = none) : (mput t z x).length = t.length + 1 := by
  induction t with
  | nil => rfl
  | cons p t ih =>
    obtain ⟨k, v⟩ := p
    by_cases e : (k == z) = true
    · simp only [mfind, e, cond_true] at h; cases h
    · have e' : (k == z) = false := by simpa using e
      simp only [mfind, e', cond_false] at h
      simp only [mput, e', cond_false, List.length_cons, ih h]
theorem Num.put {t : List (Int × Int)} {met : List Int} (h : Num t met) {z : Int} (hz : z ∉ met) : Num (mput t z (t.length : Int)) (met ++ [z]) := by
  refine ⟨by rw [mput_len (by rw [h.find, idx_none.2 hz]; rfl), h.len]; simp, fun x => ?_⟩
  rw [mfind_mput, idx_append hz, h.len]
  by_cases e : x = z
  · rw [if_pos e, if_pos e]; rfl
  · rw [if_neg e, if_neg e, h.find]
theorem i_code_tot {g : List PNode} (hk : Kids g) (hL : IntLeaf g) (hg : g.length ≤ 1000000) (hl : ∀ n ∈ g, n.2.2.length ≤ 400000000) : ∀ (f : Nat) (i : Int) (t : List (Int × Int)) (o m : List Int), 0 ≤ i → i < (g.length : Int) → MetOk g m → Num t m → g.length + 1 ≤ f + m.length → o.length + 3 * restN g m + 3 ≤ 500000000000 →
    Tot (fun σ => F_Z37 (σ 0) i t o g) (fun r => ∃ t2, r = ((), ((t2, ()), ((cod g f i (o, m)).1, ()), (g, ()), ((), ()), ())) ∧ Num t2 (cod g f i (o, m)).2) := by
  intro f
  induction f with
  | zero => intro i t o m _ _ hm _ hf; have := hm.len; omega
  | succ f ihf =>
    intro i t o m h0 h1 hm hn hf hr
    have hml := hm.len
    have hmi := nd_mem h0 h1
    refine tot_Z37 ?_
    unfold B_Z37
    have hx : rdx ((0 : Int), ((0 : Int), ([] : List Int))) g i = nd g i := rfl
    simp only [tot_cond, tot_chk, tot_jn, tot_some, inb_iff, room_iff, List.length_cons, List.length_nil, bne_iff_ne, ne_eq, bne_eq_false_iff_eq, hx, hn.find]
    cases hq : idx m i with
    | some n =>
      refine ⟨fun _ => ⟨by omega, t, ?_, ?_⟩, fun h => absurd h (by simp)⟩
      · rw [cod_old hq]; rfl
      · rw [cod_old hq]; exact hn
    | none =>
      have hni := idx_none.1 hq
      have kids : ∀ (t1 : List (Int × Int)) (m1 : List Int), (m1 = if (nd g i).1 ≠ 0 then m ++ [i] else m) → Num t1 m1 → Tot (fun σ => B_Z37_J0 (σ 0) (F_Z37 (σ 0)) t1 o g (nd g i).1 (nd g i).2.1 (nd g i).2.2) (fun r => ∃ t2, r = ((), ((t2, ()), ((cod g (f + 1) i (o, m)).1, ()), (g, ()), ((), ()), ())) ∧ Num t2 (cod g (f + 1) i (o, m)).2) := by
        intro t1 m1 hm1 hn1
        obtain ⟨e0, st⟩ := cod_new (f := f) hL h0 h1 hm hf hr hq hm1
        unfold B_Z37_J0
        rw [e0]
        simp only [tot_chk, room_iff, List.length_cons, List.length_nil]
        refine ⟨by omega, ?_⟩
        generalize hp0 : (o ++ [(nd g i).1, (nd g i).2.1, len (nd g i).2.2], m1) = p0 at st ⊢
        have hp1 : o ++ [(nd g i).1, (nd g i).2.1, len (nd g i).2.2] = p0.1 := by rw [← hp0]
        have hp2 : m1 = p0.2 := by rw [← hp0]
        rw [hp1]
        have key := loop_Z37_L1 (Q := fun _ _ _ _ _ _ r => ∃ t2, r = ((), ((t2, ()), (((kd g i).foldl (fun p k => cod g f k p) p0).1, ()), (g, ()), ((), ()), ())) ∧ Num t2 ((kd g i).foldl (fun p k => cod g f k p) p0).2)
          (I := fun t1 o1 g' ks n q => g' = g ∧ ks = kd g i ∧ n = ((kd g i).length : Int) ∧ ∃ (j : Nat) (m1 : List Int), q = j ∧ j ≤ (kd g i).length ∧ Num t1 m1 ∧ Mid g f p0 (kd g i) j (o1, m1) 0) (μ := fun _ _ _ _ _ q => (kd g i).length - q.toNat) ?_
        · exact key t1 p0.1 g _ _ 0 ⟨rfl, rfl, rfl, 0, p0.2, rfl, by omega, by rw [hp2] at hn1; exact hn1, st⟩
        intro t1 o1 g' ks n q ⟨e1, e2, e3, j, m1, e4, hj, hn1, mid⟩ again hag ih
        subst e1 e2 e3 e4
        unfold B_Z37_L1b
        simp only [tot_cond, tot_chk, tot_some, decide_eq_true_eq, decide_eq_false_iff_not, inb_iff, rdx_eq, Int.toNat_natCast]
        have hl6 : (kd g' i).length ≤ 400000000 := hl _ hmi
        refine ⟨fun hlt => ⟨⟨by omega, hlt⟩, ?_⟩, fun hge => ⟨t1, by rw [← mid.end (by omega)], by rw [← mid.end (by omega)]; exact hn1⟩⟩
        have hj' : j < (kd g' i).length := by omega
        have hr1 := hk _ hmi _ (getDm hj')
        have hroom := mid.room
        simp only [] at hroom
        refine (ihf _ t1 o1 m1 hr1.1 hr1.2 mid.met hn1 (mid.fuel hj') (by omega)).bind ?_
        rintro _ ⟨t2, rfl, hn2⟩
        rw [w64_succ (by omega) (by omega)]
        exact ih _ _ _ _ _ _ ⟨rfl, rfl, rfl, j + 1, _, rfl, by omega, hn2, mid.next hk hL (hk _ hmi) hj'⟩ (by simp; omega)
      refine ⟨fun h => absurd h (by simp), fun _ => ⟨⟨h0, h1⟩, fun hz => kids _ _ (by rw [if_pos hz]) (hn.put hni), fun hz => kids t m (by rw [if_neg (by simpa using hz)]) hn⟩⟩
/-- The code of some roots, one after the other. -/
def codsP (g : List PNode) (roots : List Int) : List Int := (roots.foldl (fun p k => cod g (g.length + 1) k p) ([], [])).1
/-- A graph that is small enough for its code. -/
structure CodG (g : List PNode) : Prop where
  kids : Kids g
  leaf : IntLeaf g
  len : g.length ≤ 1000000
  each : ∀ n ∈ g, n.2.2.length ≤ 400000000
  all : restN g [] ≤ 100000000000
theorem codsP_start {g : List PNode} (h : CodG g) {roots : List Int} (hr : roots.length ≤ 1000000) : Mid g (g.length + 1) ([], []) roots 0 ([], []) 0 := by
  have := h.all
  exact ⟨rfl, .nil, fun _ => by simp, by simp only [List.length_nil]; omega⟩
theorem i_codesOf_tot {g : List PNode} (h : CodG g) {roots : List Int} (hr : InR g roots) (hrl : roots.length ≤ 1000000) : Tot (fun σ => F_Z62 (σ 0) g roots) (fun r => r = ((codsP g roots, ()), ())) := by
  refine tot_Z62 ?_
  unfold B_Z62
  have key := loop_Z62_L0 (Q := fun _ _ _ _ _ _ r => r = ((codsP g roots, ()), ())) (I := fun g' o t l n q => g' = g ∧ l = roots ∧ n = (roots.length : Int) ∧ ∃ (j : Nat) (m : List Int), q = j ∧ j ≤ roots.length ∧ Num t m ∧ Mid g (g.length + 1) ([], []) roots j (o, m) 0) (μ := fun _ _ _ _ _ q => roots.length - q.toNat) ?_
  · exact key g [] [] _ _ 0 ⟨rfl, rfl, rfl, 0, [], rfl, by omega, ⟨rfl, fun x => rfl⟩, codsP_start h hrl⟩
  intro g' o t l n q ⟨e1, e2, e3, j, m, e4, hj, hn, mid⟩ again hag ih
  subst e1 e2 e3 e4
  unfold B_Z62_L0b
  simp only [tot_cond, tot_chk, tot_some, decide_eq_true_eq, decide_eq_false_iff_not, inb_iff, rdx_eq, Int.toNat_natCast]
  refine ⟨fun hlt => ⟨⟨by omega, hlt⟩, ?_⟩, fun hge => ?_⟩
  · have hj' : j < l.length := by omega
    have hr1 := hr _ (getDm hj')
    have hroom := mid.room
    simp only [] at hroom
    refine (i_code_tot h.kids h.leaf h.len h.each (g'.length + 1) _ t o m hr1.1 hr1.2 mid.met hn (mid.fuel hj') (by omega)).bind ?_
    rintro _ ⟨t2, rfl, hn2⟩
    rw [w64_succ (by omega) (by omega)]
    exact ih _ _ _ _ _ _ ⟨rfl, rfl, rfl, j + 1, _, rfl, by omega, hn2, mid.next h.kids h.leaf hr hj'⟩ (by simp; omega)
  · unfold codsP
    rw [← mid.end (by omega)]
end Go.Gx

/-
  Laws, part MK1: machines build graphs that have codes.
-/
set_option linter.unusedVariables false
set_option linter.unusedSimpArgs false
namespace Go.Gx
theorem setK_leaf {N : List PNode} {i : Nat} {ks : List Int} (h : IntLeaf N) (hk : (N.getD i d0).1 ≠ 0) : IntLeaf (setK N i ks) := fun n hn h0 => by
  unfold setK at hn
  rcases List.mem_or_eq_of_mem_set hn with h1 | rfl
  · exact h n h1 h0
  · exact absurd h0 hk
theorem putsP_leaf : ∀ (l : List Int) {N : List PNode} {d : Int}, IntLeaf N → (N.getD d.toNat d0).1 ≠ 0 → IntLeaf (putsP N d l)
  | [], _, _, h, _ => h
  | [_], _, _, h, _ => h
  | k :: v :: r, N, d, h, hk => by
    rw [putsP]
    refine putsP_leaf r (setK_leaf h hk) ?_
    unfold putItemP
    rw [kind_eq (setK_kinds _ _ _)]
    exact hk
theorem leaf_new {N : List PNode} {n : PNode} (h : IntLeaf N) (hn : n.1 = 0 → n.2.2 = []) : IntLeaf (N ++ [n]) := fun x hx h0 => by
  rcases List.mem_append.1 hx with h1 | h1
  · exact h x h1 h0
  · have : x = n := by simpa using h1
    subst this; exact hn h0
theorem nodesP_leaf {m : Mc} {L : Nat} (h : MI m L) (hl : IntLeaf m.N) {c a : Int} (hcc : 0 ≤ c ∧ c ≤ 19) {s : Sh} (hr : stepRaw m.sh c a = some s) : IntLeaf (nodesP m c a) := by
  have hD : ¬ m.D = true := fun hd => by rw [raw_none hd] at hr; cases hr
  rcases code_cases hcc with h1 | h1 | h1 | h1 | h1
  · have e : nodesP m c a = m.N ++ [(newKindP c, ((if c = 0 ∨ c = 1 ∨ c = 13 then a else 0), []))] := by
      unfold nodesP; rw [if_pos (show 0 ≤ newKindP c by rcases h1 with rfl | rfl | rfl | rfl | rfl | rfl <;> decide)]
    rw [e]
    exact leaf_new hl fun _ => rfl
  · subst h1; exact hl
  · subst h1; exact hl
  · rw [raw_mark hD h1, markP_eq] at hr
    cases hi : markAt m.S m.S.length with
    | none => rw [hi] at hr; cases hr
    | some i =>
      rw [hi] at hr
      have hmk : mkAt m.S = i := by unfold mkAt; rw [hi]; rfl
      rcases h1 with rfl | rfl | rfl | rfl
      · have e : nodesP m 3 a = m.N ++ [(2, (0, m.S.drop (i + 1)))] := by simp only [nodesP, hmk]; rfl
        rw [e]
        exact leaf_new hl fun h0 => absurd (show (2 : Int) = 0 from h0) (by decide)
      · have e : nodesP m 9 a = setK m.N (topN (m.S.take i) 0).toNat (kidsAt m.N (topN (m.S.take i) 0) ++ m.S.drop (i + 1)) := by simp only [nodesP, hmk]; rfl
        simp only [Int.reduceEq, if_false, if_true] at hr
        split at hr
        · rename_i hk
          obtain ⟨_, _, hk3⟩ := kindP hk (by decide)
          rw [e]
          exact setK_leaf hl (by rw [hk3]; decide)
        · cases hr
      · have e : nodesP m 12 a = putsP m.N (topN (m.S.take i) 0) (m.S.drop (i + 1)) := by simp only [nodesP, hmk]; rfl
        simp only [Int.reduceEq, if_false, if_true] at hr
        split at hr
        · rename_i hk
          obtain ⟨_, _, hk3⟩ := kindP hk.1 (by decide)
          rw [e]
          exact putsP_leaf _ hl (by rw [hk3]; decide)
        · cases hr
      · exact hl
  · rw [raw_take hD h1, takeP_eq] at hr
    split at hr
    · cases hr
    rename_i h0
    rcases h1 with rfl | rfl | rfl | rfl | rfl | rfl | rfl | rfl
    · exact leaf_new hl fun h0 => absurd (show (2 : Int) = 0 from h0) (by decide)
    · exact leaf_new hl fun h0 => absurd (show (2 : Int) = 0 from h0) (by decide)
    · simp only [Int.reduceEq, if_false, if_true] at hr
      split at hr
      · rename_i hk
        obtain ⟨_, _, hk3⟩ := kindP hk (by decide)
        exact setK_leaf hl (by rw [hk3]; decide)
      · cases hr
    · simp only [Int.reduceEq, if_false, if_true] at hr
      split at hr
      · rename_i hk
        obtain ⟨_, _, hk3⟩ := kindP hk.2 (by decide)
        exact setK_leaf hl (by rw [hk3]; decide)
      · cases hr
    · simp only [Int.reduceEq, if_false, if_true] at hr
      split at hr
      · rename_i hk
        obtain ⟨_, _, hk5⟩ := kindP hk.1 (by decide)
        exact setK_leaf hl (by rw [hk5]; decide)
      · cases hr
    · exact hl
    · exact hl
    · exact hl
theorem stepM_nodes {m m' : Mc} {c a : Int} (h : stepM m c a = some m') : m'.N = nodesP m c a := by
  unfold stepM at h
  rw [Option.map_eq_some_iff] at h
  obtain ⟨s, _, rfl⟩ := h
  rfl
theorem stepM_leaf {m m' : Mc} {L : Nat} (h : MI m L) (hl : IntLeaf m.N) {c a : Int} (hc : okOp (c, a) = true) (hs : stepM m c a = some m') : IntLeaf m'.N := by
  have hcc : 0 ≤ c ∧ c ≤ 19 := by simp only [okOp, decide_eq_true_eq] at hc; omega
  rw [stepM_nodes hs]
  exact nodesP_leaf h hl hcc (stepP_raw (stepM_sh hs)).1
theorem runM_leaf : ∀ (ops : List POp) (m : Mc) (n L : Nat), MI m L → m.N.length ≤ 300 → m.S.length ≤ 300 → ops.all okOp = true → IntLeaf m.N → IntLeaf (runM m ops n).1.N
  | [], m, n, L, _, _, _, _, h => h
  | o :: r, m, n, L, hI, h1, h2, ho, h => by
    simp only [List.all_cons, Bool.and_eq_true] at ho
    cases hs : stepM m o.1 o.2 with
    | none => simp only [runM, hs]; exact h
    | some m' =>
      simp only [runM, hs]
      obtain ⟨i1, i2, i3⟩ := hI.step (by omega) (by omega) ho.1 hs
      exact runM_leaf r m' (n + 1) _ i1 i2 i3 ho.2 (stepM_leaf hI h ho.1 hs)
theorem codG_of {N : List PNode} {L : Nat} (h : NI N N.length L) (hl : IntLeaf N) (hn : N.length ≤ 300) (hL : L ≤ 300000600) : CodG N := by
  refine ⟨h.rg, hl, by omega, fun n hn => by have := h.ln n hn; omega, ?_⟩
  have h1 := restN_le (met := []) h.ln
  have h2 : N.length * L ≤ 300 * 300000600 := Nat.mul_le_mul hn hL
  omega
theorem rM_cod {ops : List POp} (h : okOps ops = true) : CodG (rM ops).N := by
  have h2 := okOps_all h
  obtain ⟨i1, i2, _⟩ := rM_inv h
  exact codG_of i1.ni (runM_leaf ops newMc 0 0 newMc_inv (by simp [newMc]) (by simp [newMc]) h2.1 (fun n hn => by simp [newMc] at hn)) i2 (by have := h2.2; omega)
/-- The root of a whole program. -/
theorem rM_root {ops : List POp} (h : wholeM ops = true) : 0 ≤ (rM ops).S.getD 0 0 ∧ (rM ops).S.getD 0 0 < ((rM ops).N.length : Int) := by
  unfold wholeM at h
  simp only [Bool.and_eq_true, decide_eq_true_eq] at h
  have hd := rM_D h.2
  have hm : (rM ops).S.getD 0 0 ∈ (rM ops).S := getDm (by omega)
  exact ⟨hd.2 _ hm, ((rM_inv h.1.1).1.st _ hm).2⟩
/-- What was read, and the roots. -/
structure AccK (acc : Rd) (L : Nat) : Prop where
  ni : NI acc.N acc.N.length L
  leaf : IntLeaf acc.N
  nl : acc.N.length ≤ 300
  rr : ∀ r ∈ acc.rs, 0 ≤ r ∧ r < (acc.N.length : Int)
theorem AccK.mono {acc : Rd} {L L' : Nat} (h : AccK acc L) (hL : L ≤ L') : AccK acc L' := ⟨h.ni.mono (Nat.le_refl _) hL, h.leaf, h.nl, h.rr⟩
end Go.Gx

/-
  Laws: lists of numbers are compared.
-/
set_option linter.unusedVariables false
set_option linter.unusedSimpArgs false
namespace Go.Gx
theorem equalInts_tot {a b : List Int} (ha : a.length ≤ 900000000000) : Tot (fun σ => F_Z34 (σ 0) a b) (Says (a = b)) := by
  refine tot_Z34 ?_
  unfold B_Z34
  simp only [tot_cond, tot_some, len, bne_iff_ne, ne_eq, bne_eq_false_iff_eq]
  refine ⟨fun h => says_false fun e => h (by rw [e]), fun h => ?_⟩
  have hl : a.length = b.length := by omega
  have key := loop_Z34_L0 (Q := fun _ _ _ r => Says (a = b) r) (I := fun x y i => x = a ∧ y = b ∧ ∃ j : Nat, i = j ∧ j ≤ a.length ∧ ∀ q, q < j → a.getD q 0 = b.getD q 0) (μ := fun _ _ i => (a.length - i).toNat) ?_
  · exact key a b 0 ⟨rfl, rfl, 0, rfl, by omega, fun q hq => by omega⟩
  intro x y i ⟨e1, e2, j, e3, hj, hq⟩ again hag ih
  subst e1 e2 e3
  unfold B_Z34_L0b
  simp only [tot_cond, tot_chk, tot_some, decide_eq_true_eq, decide_eq_false_iff_not, len, inb_iff, bne_iff_ne, ne_eq, bne_eq_false_iff_eq]
  simp only [rdx_eq, Int.toNat_natCast]
  refine ⟨fun hlt => ⟨by omega, by omega, fun hne => says_false fun e => hne (by rw [e]), fun he => ?_⟩, fun hge => says_true (ext_getD hl fun i hi => hq i (by omega))⟩
  rw [w64_succ (by omega) (by omega)]
  refine ih _ _ _ ⟨rfl, rfl, j + 1, rfl, by omega, fun q h => ?_⟩ (by simp; omega)
  by_cases e : q = j
  · subst e; exact he
  · exact hq q (by omega)
end Go.Gx

/-
  Laws, part BC: the code of what is built, by the program.
-/
set_option linter.unusedVariables false
set_option linter.unusedSimpArgs false
namespace Go.Gx
/-- The code of what is built. -/
def builtA (ops : List POp) : List Int × Bool := if wholeM ops = true then (codsP (rM ops).N [(rM ops).S.getD 0 0], true) else ([], false)
theorem i_BuiltCode_tot {ops : List POp} (hl : ops.length ≤ 900000000000) : Tot (fun σ => F_Z48 (σ 0) ops) (fun r => r = (((builtA ops).1, (builtA ops).2, ()), ())) := by
  refine tot_Z48 ?_
  unfold B_Z48 builtA
  refine (i_BuildGraph_tot hl).bind ?_
  rintro _ rfl
  unfold graphA
  by_cases hw : wholeM ops = true
  · simp only [if_pos hw, tot_cond, tot_some, Bool.not_true]
    refine ⟨fun h0 => absurd h0 (by decide), fun _ => ?_⟩
    have hok : okOps ops = true := by unfold wholeM at hw; simp only [Bool.and_eq_true] at hw; exact hw.1.1
    have hr := rM_root hw
    refine (i_codesOf_tot (rM_cod hok) (fun x hx => by rw [List.mem_singleton] at hx; subst hx; exact hr) (by simp)).bind ?_
    rintro _ rfl
    rw [tot_some]
  · simp only [if_neg hw, tot_cond, tot_some, Bool.not_false]
    exact ⟨fun _ => trivial, fun h0 => absurd h0 (by decide)⟩
theorem codsP_small {g : List PNode} (h : CodG g) {roots : List Int} (hr : InR g roots) (hrl : roots.length ≤ 1000000) : (codsP g roots).length ≤ 500000000000 := by
  have key : ∀ (l : List Int) (p : List Int × List Int), InR g l → MetOk g p.2 → g.length + 1 ≤ g.length + 1 + p.2.length → p.1.length + 3 * restN g p.2 + 3 * l.length ≤ 500000000000 → (l.foldl (fun p k => cod g (g.length + 1) k p) p).1.length ≤ 500000000000 := by
    intro l
    induction l with
    | nil => intro p _ _ _ h; simp only [List.foldl_nil]; omega
    | cons k l ih =>
      intro p hl hm hf h1
      have hk := hl k (by simp)
      simp only [List.length_cons] at h1
      have h2 := cod_ok h.kids h.leaf (g.length + 1) k p l.length hk.1 hk.2 hm hf (by omega)
      exact ih _ (fun x hx => hl x (by simp [hx])) h2.1 (by omega) h2.2.2
  have := h.all
  exact key roots ([], []) hr .nil (by simp) (by simp only [List.length_nil]; omega)
end Go.Gx

/-
  Laws, part CO2: graphs with one code go together, node by node.
-/
set_option linter.unusedVariables false
set_option linter.unusedSimpArgs false
namespace Go.Gx
theorem cod_fold_pre {g : List PNode} {f : Nat} (H : ∀ (i : Int) (p : List Int × List Int), p.1 <+: (cod g f i p).1 ∧ p.2 <+: (cod g f i p).2) : ∀ (l : List Int) (p : List Int × List Int), p.1 <+: (l.foldl (fun p k => cod g f k p) p).1 ∧ p.2 <+: (l.foldl (fun p k => cod g f k p) p).2 := by
  intro l
  induction l with
  | nil => intro p; exact ⟨List.prefix_refl _, List.prefix_refl _⟩
  | cons k l ih =>
    intro p
    have h1 := H k p
    have h2 := ih (cod g f k p)
    exact ⟨h1.1.trans h2.1, h1.2.trans h2.2⟩
theorem cod_pre {g : List PNode} : ∀ (f : Nat) (i : Int) (p : List Int × List Int), p.1 <+: (cod g f i p).1 ∧ p.2 <+: (cod g f i p).2 := by
  intro f
  induction f with
  | zero => intro i p; exact ⟨List.prefix_refl _, List.prefix_refl _⟩
  | succ f ih =>
    intro i p
    unfold cod
    cases idx p.2 i with
    | some n => exact ⟨List.prefix_append _ _, List.prefix_refl _⟩
    | none =>
      have h := cod_fold_pre ih (kd g i) (p.1 ++ [(nd g i).1, (nd g i).2.1, ((kd g i).length : Int)], if (nd g i).1 ≠ 0 then p.2 ++ [i] else p.2)
      refine ⟨(List.prefix_append _ _).trans h.1, List.IsPrefix.trans ?_ h.2⟩
      show p.2 <+: if (nd g i).1 ≠ 0 then p.2 ++ [i] else p.2
      split
      · exact List.prefix_append _ _
      · exact List.prefix_refl _
section
variable {a b : List PNode}
end
end Go.Gx

/-
  Laws, part CO4: the code of one root, by the reference.
-/
set_option linter.unusedVariables false
set_option linter.unusedSimpArgs false
namespace Go.Gx
theorem s_codeOf_tot {g : List PNode} {root : Int} (h : CodG g) (h0 : 0 ≤ root) (h1 : root < (g.length : Int)) : Tot (fun σ => F_s_codeOf (σ 0) g root) (fun r => r = ((codsP g [root], ()), ())) := by
  refine tot_s_codeOf ?_
  unfold B_s_codeOf
  have := h.all
  refine (s_code_tot h.kids h.leaf h.len h.each (g.length + 1) root [] [] h0 h1 .nil (by simp) (by simp only [List.length_nil]; omega)).bind ?_
  rintro _ rfl
  rw [tot_some]
  rfl
end Go.Gx

/-
  Laws, part U2: circles: does a way lead back?
-/
set_option linter.unusedVariables false
set_option linter.unusedSimpArgs false
namespace Go.Gx
/-- Ways from a node over nodes with p. -/
inductive PReach (g : List PNode) (p : Int → Prop) (s : Int) : Int → Prop
  | kid {k : Int} : k ∈ kd g s → PReach g p s k
  | step {x k : Int} : PReach g p s x → p x → k ∈ kd g x → PReach g p s k
/-- A search: S is marked, L is still to do, E is told, D is done. -/
structure Srch (g : List PNode) (p : Int → Prop) (s : Int) (S L : List Int) (E D : Int → Prop) (c : Nat) : Prop where
  ok : MetOk g S
  reach : ∀ x ∈ S, PReach g p s x ∧ p x
  inl : ∀ x ∈ L, x = s ∨ x ∈ S
  all : ∀ x, x = s ∨ x ∈ S → x ∈ L ∨ E x
  len : L.length ≤ c + S.length
  done : ∀ x, D x → ∀ k ∈ kd g x, k ≠ s ∧ (p k → k ∈ S)
theorem Srch.none {g : List PNode} {p : Int → Prop} {s : Int} {S : List Int} {E : Int → Prop} {c : Nat} (h : Srch g p s S [] E E c) : ¬ PReach g p s s := by
  have hE : ∀ x, x = s ∨ x ∈ S → E x := fun x hx => (h.all x hx).resolve_left (by simp)
  have key : ∀ k, PReach g p s k → k ≠ s ∧ (p k → k ∈ S) := by
    intro k hk
    induction hk with
    | kid hk => exact h.done s (hE s (.inl rfl)) _ hk
    | step _ hp hk ih => exact h.done _ (hE _ (.inr (ih.2 hp))) _ hk
  exact fun hs => (key s hs).1 rfl
theorem Srch.pop {g : List PNode} {p : Int → Prop} {s x : Int} {S L : List Int} {E : Int → Prop} (h : Srch g p s S (L ++ [x]) E E 1) : Srch g p s S L (fun y => E y ∨ y = x) E 0 := by
  refine ⟨h.ok, h.reach, fun y hy => h.inl y (List.mem_append_left _ hy), fun y hy => ?_, ?_, h.done⟩
  · rcases h.all y hy with h' | h'
    · rcases List.mem_append.1 h' with h'' | h''
      · exact .inl h''
      · exact .inr (.inr (by simpa using h''))
    · exact .inr (.inl h')
  · have := h.len; simp only [List.length_append, List.length_cons, List.length_nil] at this; omega
theorem Srch.push {g : List PNode} {p : Int → Prop} {s k : Int} {S L : List Int} {E D : Int → Prop} {c : Nat} (h : Srch g p s S L E D c) (h0 : 0 ≤ k) (h1 : k < (g.length : Int)) (hk : k ∉ S) (hr : PReach g p s k) (hp : p k) : Srch g p s (S ++ [k]) (L ++ [k]) E D c := by
  refine ⟨h.ok.snoc h0 h1 hk, fun y hy => ?_, fun y hy => ?_, fun y hy => ?_, ?_, fun x hx q hq => ?_⟩
  · rcases List.mem_append.1 hy with h' | h'
    · exact h.reach y h'
    · simp at h'; subst h'; exact ⟨hr, hp⟩
  · rcases List.mem_append.1 hy with h' | h'
    · exact (h.inl y h').imp id (List.mem_append_left _)
    · exact .inr (List.mem_append_right _ h')
  · have : (y = s ∨ y ∈ S) ∨ y ∈ [k] := by
      rcases hy with h' | h'
      · exact .inl (.inl h')
      · rcases List.mem_append.1 h' with h'' | h''
        · exact .inl (.inr h'')
        · exact .inr h''
    rcases this with h' | h'
    · exact (h.all y h').imp (List.mem_append_left _) id
    · exact .inl (List.mem_append_right _ h')
  · have := h.len; simp only [List.length_append, List.length_cons, List.length_nil]; omega
  · have := h.done x hx q hq
    exact ⟨this.1, fun hq => List.mem_append_left _ (this.2 hq)⟩
theorem Srch.fin {g : List PNode} {p : Int → Prop} {s x : Int} {S L : List Int} {E : Int → Prop} (h : Srch g p s S L (fun y => E y ∨ y = x) E 0) (hx : ∀ k ∈ kd g x, k ≠ s ∧ (p k → k ∈ S)) : Srch g p s S L (fun y => E y ∨ y = x) (fun y => E y ∨ y = x) 1 :=
  ⟨h.ok, h.reach, h.inl, h.all, by have := h.len; omega, fun y hy => hy.elim (h.done y) (fun e => by subst e; exact hx)⟩
def marks (S : List Int) : List (Int × Bool) := S.map fun x => (x, true)
theorem marks_len (S : List Int) : (marks S).length = S.length := by simp [marks]
theorem mfind_marks (x : Int) : ∀ S : List Int, (mfind (marks S) x).getD false = decide (x ∈ S) := by
  intro S
  induction S with
  | nil => simp [marks, mfind]
  | cons y S ih =>
    by_cases h : y = x
    · subst h; simp [marks, mfind]
    · have e : (y == x) = false := by simpa using h
      have h' : ¬ x = y := fun e => h e.symm
      simp only [marks, List.map_cons, mfind, e, cond_false]
      simp only [List.mem_cons, h', false_or]
      exact ih
theorem mput_marks (z : Int) : ∀ S : List Int, z ∉ S → mput (marks S) z true = marks (S ++ [z]) := by
  intro S
  induction S with
  | nil => intro _; rfl
  | cons y S ih =>
    intro h
    simp only [List.mem_cons, not_or] at h
    have e : (y == z) = false := by simpa using fun e : y = z => h.1 e.symm
    have := ih h.2
    simp only [marks, List.map_cons, List.cons_append, mput, e, cond_false] at this ⊢
    rw [this]
end Go.Gx

/-
  Laws, part U2v: circles over the nodes that ValidGraph_2 takes.
-/
set_option linter.unusedVariables false
set_option linter.unusedSimpArgs false
namespace Go.Gx
theorem circles_ValidGraph_2_tot {g : List PNode} (hk : Kidly g) (hg : g.length ≤ 1000000) {s : Int} (h0 : 0 ≤ s) (h1 : s < (g.length : Int)) (p : Int → Prop) [DecidablePred p]
    (hp : ∀ x, 0 ≤ x → x < (g.length : Int) → Tot (fun σ => F_Z8 (σ 0) (nd g x).1 (nd g x).2.1 (nd g x).2.2) (fun r => r = ((decide (p x), ()), ()))) :
    Tot (fun σ => F_Z3 (σ 0) g s) (Says (PReach g p s s)) := by
  refine tot_Z3 ?_
  unfold B_Z3
  have key := loop_Z3_L3 (Q := fun _ _ _ _ r => Says (PReach g p s s) r)
    (I := fun g' s' t L => g' = g ∧ s' = s ∧ ∃ (S : List Int) (E : Int → Prop), t = marks S ∧ Srch g p s S L E E 1) (μ := fun _ _ t L => 2 * (g.length - t.length) + L.length) ?_
  · refine key g s _ _ ⟨rfl, rfl, [], fun _ => False, rfl, .nil, fun x hx => by simp at hx, fun x hx => .inl (by simpa using hx), fun x hx => .inl (by simpa using hx), by simp, fun x hx => hx.elim⟩
  intro g' s' t L ⟨e1, e2, S, E, e3, hS⟩ again3 hag3 ih3
  subst e1 e2 e3
  have hSl := hS.ok.len
  have hLl := hS.len
  unfold B_Z3_L3b
  rcases List.eq_nil_or_concat L with e | ⟨L', x, e⟩
  · subst e
    simp only [tot_cond, tot_some, decide_eq_true_eq, decide_eq_false_iff_not, len, List.length_nil]
    exact ⟨fun h => absurd h (by omega), fun _ => says_false hS.none⟩
  rw [List.concat_eq_append] at e
  subst e
  simp only [List.length_append, List.length_cons, List.length_nil] at hLl
  have hw : w64 (len (L' ++ [x]) - 1) = (L'.length : Int) := by
    simp only [len, List.length_append, List.length_cons, List.length_nil]
    rw [w64_id (by omega) (by omega)]; omega
  have hx : (L' ++ [x]).getD L'.length 0 = x := by
    rw [List.getD_eq_getElem?_getD, List.getElem?_append_right (Nat.le_refl _)]; simp
  have hxr : 0 ≤ x ∧ x < (g'.length : Int) := by
    rcases hS.inl x (by simp) with e | h
    · subst e; exact ⟨h0, h1⟩
    · exact hS.ok.2 x h
  have hxp : x = s' ∨ (PReach g' p s' x ∧ p x) := (hS.inl x (by simp)).imp id (hS.reach x)
  have hkx := hk _ (nd_mem hxr.1 hxr.2)
  simp only [hw, Int.toNat_natCast, hx, List.take_left]
  simp only [tot_cond, tot_chk, tot_some, decide_eq_true_eq, decide_eq_false_iff_not, inb_iff, len, List.length_append, List.length_cons, List.length_nil]
  refine ⟨fun _ => ⟨by omega, by omega, by simp [cutb]; try omega, hxr, ?_⟩, fun h => absurd h (by omega)⟩
  have key2 := loop_Z3_L2 hag3 (Q := fun _ _ _ _ _ _ _ r => Says (PReach g' p s' s') r)
    (I := fun g2 s2 t L ks n i => g2 = g' ∧ s2 = s' ∧ ks = kd g' x ∧ n = ((kd g' x).length : Int) ∧ ∃ (S2 : List Int) (j : Nat), t = marks S2 ∧ Srch g' p s' S2 L (fun y => E y ∨ y = x) E 0 ∧ i = j ∧ j ≤ (kd g' x).length ∧
      (∀ q, q < j → (kd g' x).getD q 0 ≠ s' ∧ (p ((kd g' x).getD q 0) → (kd g' x).getD q 0 ∈ S2)) ∧ 2 * (g'.length - S2.length) + L.length < 2 * (g'.length - S.length) + (L'.length + 1)) (μ := fun _ _ _ _ _ n i => n.toNat - i.toNat) ?_
  · exact key2 g' s' _ _ _ _ 0 ⟨rfl, rfl, rfl, rfl, S, 0, rfl, hS.pop, rfl, by omega, fun q hq => by omega, by omega⟩
  intro g2 s2 t L ks n i ⟨e1, e2, e3, e4, S2, j, e5, hS2, e6, hj, hq, hM⟩ again2 hag2 ih2
  subst e1 e2 e3 e4 e5 e6
  have hS2l := hS2.ok.len
  have hL2 := hS2.len
  unfold B_Z3_L2b
  simp only [tot_cond, tot_chk, tot_jn, decide_eq_true_eq, decide_eq_false_iff_not, inb_iff, beq_iff_eq, beq_eq_false_iff_ne, ne_eq]
  refine ⟨fun hlt => ⟨⟨by omega, hlt⟩, fun heq => ?_, fun hne => ?_⟩, fun hge => ?_⟩
  · have hm : s2 ∈ kd g2 x := by rw [← heq]; exact rdx_mem (by omega) (by omega)
    rw [tot_some]
    refine says_true ?_
    rcases hxp with e | ⟨h, h'⟩
    · rw [e] at hm; exact .kid hm
    · exact .step h h' hm
  · have hl6 : (kd g2 x).length ≤ 6 := hkx.1
    have hm : rdx (0 : Int) (kd g2 x) (j : Int) ∈ kd g2 x := rdx_mem (by omega) (by omega)
    have hgd : rdx (0 : Int) (kd g2 x) (j : Int) = (kd g2 x).getD j 0 := rfl
    generalize hkk : rdx (0 : Int) (kd g2 x) (j : Int) = k at *
    have hkr := hkx.2 k hm
    have hreach : PReach g2 p s2 k := by
      rcases hxp with e | ⟨h, h'⟩
      · rw [e] at hm; exact .kid hm
      · exact .step h h' hm
    have wj : w64 ((j : Int) + 1) = ((j + 1 : Nat) : Int) := w64_succ (by omega) (by omega)
    have stay : (p k → k ∈ S2) → Tot (fun σ => again2 σ (g2, s2, (), marks S2, L, kd g2 x, ((kd g2 x).length : Int), w64 ((j : Int) + 1), ())) (Says (PReach g2 p s2 s2)) := by
      intro hin
      rw [wj]
      refine ih2 _ _ _ _ _ _ _ ⟨rfl, rfl, rfl, rfl, S2, j + 1, rfl, hS2, rfl, by omega, fun q h => ?_, hM⟩ (by simp only [Int.toNat_natCast]; omega)
      by_cases e : q = j
      · subst e; rw [← hgd]; exact ⟨hne, hin⟩
      · exact hq q (by omega)
    refine ⟨hkr, (hp k hkr.1 hkr.2).bind ?_⟩
    rintro _ rfl
    unfold B_Z3_J0 B_Z3_J1
    simp only [tot_cond, tot_chk, tot_jn, decide_eq_true_eq, decide_eq_false_iff_not, room_iff, List.length_cons, List.length_nil, mfind_marks, Bool.not_eq_true', Bool.not_eq_false', Bool.false_eq_true, false_implies, true_and, forall_const]
    refine ⟨fun hpk => ⟨fun hni => ⟨by omega, ?_⟩, fun hin => stay fun _ => hin⟩, fun hpk => stay fun h => absurd h hpk⟩
    have hS3 := hS2.push hkr.1 hkr.2 hni hreach hpk
    have hS3l := hS3.ok.len
    simp only [List.length_append, List.length_cons, List.length_nil] at hS3l
    rw [wj, mput_marks k S2 hni]
    refine ih2 _ _ _ _ _ _ _ ⟨rfl, rfl, rfl, rfl, S2 ++ [k], j + 1, rfl, hS3, rfl, by omega, fun q h => ?_, by simp only [List.length_append, List.length_cons, List.length_nil]; omega⟩ (by simp only [Int.toNat_natCast]; omega)
    by_cases e : q = j
    · subst e; rw [← hgd]; exact ⟨hne, fun _ => by simp⟩
    · exact ⟨(hq q (by omega)).1, fun h => List.mem_append_left _ ((hq q (by omega)).2 h)⟩
  · refine ih3 _ _ _ _ ⟨rfl, rfl, S2, _, rfl, hS2.fin fun k hk => ?_⟩ (by simp only [marks_len, List.length_append, List.length_cons, List.length_nil]; omega)
    obtain ⟨q, hq1, hq2⟩ := mem_getD hk
    have := hq q (by omega)
    rw [hq2] at this
    exact this
end Go.Gx

/-
  Laws, part U3: the program's nodes that are valid.
-/
set_option linter.unusedVariables false
set_option linter.unusedSimpArgs false
namespace Go.Gx
theorem subU {α : Type} {l : List α} {n : Nat} : sub l 0 (n : Int) = l.take n := by simp [sub]
theorem getD_take {l : List Int} {i n : Nat} (h : i < n) : (l.take n).getD i 0 = l.getD i 0 := by
  rw [List.getD_eq_getElem?_getD, List.getD_eq_getElem?_getD, List.getElem?_take, if_pos h]
theorem findKeyG_tot {g : List PNode} {kids : List Int} (h : InR g kids) (hl : kids.length ≤ 1000000) (key : PNode) :
    Tot (fun σ => F_Z58 (σ 0) g kids key.1 key.2.1) (fun r => ∃ v : Int, r = ((v, ()), ()) ∧ (0 ≤ v ↔ ∃ i, i < kids.length ∧ i % 2 = 0 ∧ sameP key (nd g (kids.getD i 0)))) := by
  refine tot_Z58 ?_
  unfold B_Z58
  have keyy := loop_Z58_L1 (Q := fun _ _ _ _ _ r => ∃ v : Int, r = ((v, ()), ()) ∧ (0 ≤ v ↔ ∃ i, i < kids.length ∧ i % 2 = 0 ∧ sameP key (nd g (kids.getD i 0))))
    (I := fun N' kids' a b i => N' = g ∧ kids' = kids ∧ a = key.1 ∧ b = key.2.1 ∧ ∃ j : Nat, i = (j : Int) ∧ j ≤ kids.length + 1 ∧ j % 2 = 0 ∧ ∀ q, q < j → q % 2 = 0 → q < kids.length → ¬ sameP key (nd g (kids.getD q 0))) (μ := fun _ _ _ _ i => (kids.length + 2 - i).toNat) ?_
  · exact keyy g kids key.1 key.2.1 0 ⟨rfl, rfl, rfl, rfl, 0, rfl, by omega, rfl, fun q hq => by omega⟩
  intro N' kids' a b i ⟨e1, e2, e3, e4, j, e5, hj, hj2, hq⟩ again hag ih
  subst e1 e2 e3 e4 e5
  unfold B_Z58_L1b B_Z58_J0
  have hrd : rdx (0 : Int) kids' (j : Int) = kids'.getD j 0 := by rw [rdx_eq, Int.toNat_natCast]
  simp only [hrd]
  simp only [tot_cond, tot_chk, tot_jn, tot_some, decide_eq_true_eq, decide_eq_false_iff_not, inb_iff, len, beq_iff_eq, beq_eq_false_iff_ne, ne_eq, Bool.false_eq_true, false_implies, true_and, forall_const]
  refine ⟨fun hlt => ?_, fun hge => ?_⟩
  · have hj' : j < kids'.length := by omega
    have hr := h.get hj'
    have next : ¬ sameP key (nd N' (kids'.getD j 0)) → Tot (fun s => again s (N', kids', (key.1, key.2.1, (), ()), w64 ((j : Int) + 2), ())) (fun r => ∃ v : Int, r = ((v, ()), ()) ∧ (0 ≤ v ↔ ∃ i, i < kids'.length ∧ i % 2 = 0 ∧ sameP key (nd N' (kids'.getD i 0)))) := by
      intro hn
      rw [w64_succ (by omega) (by omega)]
      refine ih _ _ _ _ _ ⟨rfl, rfl, rfl, rfl, j + 2, rfl, by omega, by omega, fun q h1 h2 h3 => ?_⟩ (by simp; omega)
      by_cases e : q = j
      · subst e; exact hn
      · exact hq q (by omega) h2 h3
    refine ⟨by omega, hr, fun hk => ⟨fun hv => ?_, fun hv => next fun hs => hv hs.2.symm⟩, fun hk => next fun hs => hk hs.1.symm⟩
    exact ⟨_, rfl, fun _ => ⟨j, hj', hj2, hk.symm, hv.symm⟩, fun _ => by omega⟩
  · refine ⟨_, rfl, fun h => by omega, fun ⟨i, h1, h2, h3⟩ => absurd h3 (hq i (by omega) h2 h1)⟩
theorem contains1_tot {s : List Int} (hs : s.length ≤ 400000000) (n : Int) :
    Tot (fun σ => F_Z0 (σ 0) s n) (fun r => ∃ b : Bool, r = ((b, ()), ((n, ()), ())) ∧ (b = true ↔ ∃ k ∈ s, ¬ (0 ≤ k ∧ k < n))) := by
  refine tot_Z0 ?_
  unfold B_Z0
  have idx : Tot (fun σ => F_Z1 (σ 0) s n) (fun r => ∃ i : Int, r = ((i, ()), ((n, ()), ())) ∧ (0 ≤ i ↔ ∃ k ∈ s, ¬ (0 ≤ k ∧ k < n))) := by
    refine tot_Z1 ?_
    unfold B_Z1
    have key := loop_Z1_L0 (Q := fun _ _ _ _ r => ∃ i : Int, r = ((i, ()), ((n, ()), ())) ∧ (0 ≤ i ↔ ∃ k ∈ s, ¬ (0 ≤ k ∧ k < n)))
      (I := fun s' n' t7 t8 => s' = s ∧ n' = n ∧ t7 = (s.length : Int) ∧ ∃ j : Nat, t8 = (j : Int) ∧ j ≤ s.length ∧ ∀ i, i < j → (0 ≤ s.getD i 0 ∧ s.getD i 0 < n)) (μ := fun _ _ _ t8 => (s.length - t8).toNat) ?_
    · exact key _ _ _ 0 ⟨rfl, rfl, rfl, 0, rfl, Nat.zero_le _, fun i hi => absurd hi (Nat.not_lt_zero _)⟩
    intro s' n' t7 t8 ⟨e1, e2, e3, j, e7, hj, hin⟩ again hag ih
    subst e1 e2 e3 e7
    unfold B_Z1_L0b
    have hrd : rdx (0 : Int) s' (j : Int) = s'.getD j 0 := by rw [rdx_eq, Int.toNat_natCast]
    rw [tot_cond]
    refine ⟨fun hlt => tot_chk.2 ⟨inb_iff.2 (by have := of_decide_eq_true hlt; omega), ?_⟩, fun hge => tot_some.2 ?_⟩
    · have hlt := of_decide_eq_true hlt
      rw [hrd]
      have one : Tot (fun σ => F_Z11 (σ 0) (s'.getD j 0) n') (fun r => r = ((decide (¬ (0 ≤ s'.getD j 0 ∧ s'.getD j 0 < n')), ()), ((n', ()), ()))) := by
        refine tot_Z11 ?_
        unfold B_Z11
        simp only [tot_cond, tot_some, decide_eq_true_eq, decide_eq_false_iff_not]
        refine ⟨fun h => ?_, fun h => ?_⟩
        · have : ¬ (0 ≤ s'.getD j 0 ∧ s'.getD j 0 < n') := fun hc => by omega
          simp only [this, not_false_eq_true, decide_true]
        · have : (s'.getD j 0 ≥ n') ↔ ¬ (0 ≤ s'.getD j 0 ∧ s'.getD j 0 < n') := by omega
          rw [decide_eq_decide.2 this]
      refine one.bind ?_
      rintro _ rfl
      simp only [tot_cond, tot_some, decide_eq_true_eq, decide_eq_false_iff_not]
      refine ⟨fun hn => ⟨(j : Int), rfl, fun _ => ⟨_, getDm (by omega), hn⟩, fun _ => by omega⟩, fun hm => ?_⟩
      rw [w64_succ (by omega) (by omega)]
      refine ih _ _ _ _ ⟨rfl, rfl, rfl, j + 1, rfl, by omega, fun i hi => ?_⟩ (by simp; omega)
      by_cases e : i = j
      · subst e; exact Decidable.not_not.1 hm
      · exact hin i (by omega)
    · have hge := of_decide_eq_false hge
      refine ⟨-1, rfl, fun h => by omega, fun ⟨c, hcs, hn⟩ => ?_⟩
      obtain ⟨i, hi, e⟩ := mem_getD hcs
      exact absurd (e ▸ hin i (by omega)) hn
  refine idx.bind ?_
  rintro _ ⟨i, rfl, hi⟩
  rw [tot_some]
  exact ⟨_, rfl, by rw [decide_eq_true_eq]; exact hi⟩
theorem nodeOk_tot {g : List PNode} (hg : g.length ≤ 1000000) (n : PNode) (h6 : n.2.2.length ≤ 6) (hin : InR g n.2.2) : Tot (fun σ => F_i_nodeOk (σ 0) g n.1 n.2.1 n.2.2) (Says (NodeOk g n)) := by
  obtain ⟨k, v, kids⟩ := n
  have h6 : kids.length ≤ 6 := h6
  have hin : InR g kids := hin
  refine tot_i_nodeOk ?_
  unfold B_i_nodeOk
  have fin : ∀ (b : Bool), ((if k = 0 then 0 ≤ v ∧ v ≤ 999 ∧ kids = [] else if k = 1 then 0 ≤ v ∧ v ≤ 9 ∧ kids = [] else if k = 2 ∨ k = 3 then v = 0 else if k = 4 then v = 0 ∧ DictOk g kids else if k = 5 then 0 ≤ v ∧ v ≤ 9 ∧ kids.length ≤ 1 else False) ↔ b = true) → Says (NodeOk g (k, v, kids)) ((b, ()), ()) := by
    intro b hb
    refine ⟨b, rfl, ?_⟩
    unfold NodeOk
    simp only [h6, hin, true_and]
    exact hb.symm
  have hlen : (len kids == 0) = decide (kids = []) := by
    rw [Bool.eq_iff_iff]; simp [len]
  have dict : k = 4 → Tot (fun σ => B_i_nodeOk_L2 (σ 0) (F_Z58 (σ 0)) (σ 0) (g, (k, v, kids, ()), 0, ())) (Says (NodeOk g (k, v, kids))) := by
    intro hk4
    have key := loop_i_nodeOk_L2 (Q := fun _ _ _ _ _ r => Says (NodeOk g (k, v, kids)) r) (I := fun g' k' v' kids' i => g' = g ∧ k' = k ∧ v' = v ∧ kids' = kids ∧ ∃ j : Nat, i = j ∧ j ≤ kids.length + 1 ∧ j % 2 = 0 ∧
      ∀ q, q < j → q % 2 = 0 → q < kids.length → isKeyP (nd g (kids.getD q 0)) ∧ ∀ p, p < q → p % 2 = 0 → ¬ sameP (nd g (kids.getD q 0)) (nd g (kids.getD p 0))) (μ := fun _ _ _ _ i => (kids.length + 2 - i).toNat) ?_
    · exact key g k v kids 0 ⟨rfl, rfl, rfl, rfl, 0, rfl, by omega, rfl, fun q hq => by omega⟩
    intro g' k' v' kids' i ⟨e1, e2, e3, e4, j, e5, hj, hj2, hq⟩ again hag ih
    subst e1 e2 e3 e4 e5
    have bad : ¬ DictOk g' kids' → Says (NodeOk g' (k', v', kids')) ((false, ()), ()) := fun hd => fin false (by rw [hk4]; simp [hd])
    unfold B_i_nodeOk_L2b B_i_nodeOk_J1
    have hrd : rdx (0 : Int) kids' (j : Int) = kids'.getD j 0 := by rw [rdx_eq, Int.toNat_natCast]
    simp only [hrd, subU]
    simp only [tot_cond, tot_chk, tot_jn, tot_some, decide_eq_true_eq, decide_eq_false_iff_not, inb_iff, cutb_iff, len, beq_iff_eq, beq_eq_false_iff_ne, ne_eq, Bool.true_eq_false, false_implies, and_true, true_implies]
    refine ⟨fun hlt => ?_, fun hge => ?_⟩
    · have hj' : j < kids'.length := by omega
      have hr := hin.get hj'
      refine ⟨by omega, hr, fun hgt => bad fun hd => ?_, fun hle => ⟨fun hneg => bad fun hd => ?_, fun hnn => ⟨by omega, ?_⟩⟩⟩
      · have := (hd.1 j hj' hj2).1
        have hgt : (nd g' (kids'.getD j 0)).1 > 1 := hgt
        rcases this with h | h <;> omega
      · have := (hd.1 j hj' hj2).1
        have hneg : (nd g' (kids'.getD j 0)).1 < 0 := hneg
        rcases this with h | h <;> omega
      · have hkey : isKeyP (nd g' (kids'.getD j 0)) := by
          have h1 : ¬ (nd g' (kids'.getD j 0)).1 > 1 := hle
          have h2 : ¬ (nd g' (kids'.getD j 0)).1 < 0 := hnn
          unfold isKeyP; omega
        refine (findKeyG_tot (g := g') (kids := kids'.take j) (inR_take hin j) (by rw [List.length_take]; omega) (nd g' (kids'.getD j 0))).bind ?_
        rintro _ ⟨w, rfl, hw⟩
        simp only [tot_cond, tot_jn, tot_some, decide_eq_true_eq, decide_eq_false_iff_not, ge_iff_le]
        have hlt2 : (kids'.take j).length = j := by rw [List.length_take]; omega
        refine ⟨fun hge => bad fun hd => ?_, fun hlt3 => ?_⟩
        · obtain ⟨i, h1, h2, h3⟩ := hw.1 hge
          rw [getD_take (by omega)] at h3
          exact (hd.1 j hj' hj2).2 i (by omega) h2 h3
        · rw [w64_succ (by omega) (by omega)]
          refine ih _ _ _ _ _ ⟨rfl, rfl, rfl, rfl, j + 2, rfl, by omega, by omega, fun q h1 h2 h3 => ?_⟩ (by simp; omega)
          by_cases e : q = j
          · subst e
            refine ⟨hkey, fun p hp hp2 hs => hlt3 (hw.2 ⟨p, by omega, hp2, ?_⟩)⟩
            rw [getD_take hp]; exact hs
          · exact hq q (by omega) h2 h3
    · have hd : DictOk g' kids' ↔ kids'.length % 2 = 0 := ⟨fun h => h.2, fun h => ⟨fun i hi hi2 => hq i (by omega) hi2 hi, h⟩⟩
      refine ⟨fun hv => fin _ ?_, fun hv => fin _ ?_⟩
      · rw [hk4]
        simp only [hd, hv, true_and, Int.reduceEq, if_false, or_self, if_true]
        rw [Int.tmod_eq_emod_of_nonneg (by omega), beq_iff_eq]; omega
      · rw [hk4]; simp [hv]
  simp only [tot_cond, tot_jn, tot_some, beq_iff_eq, beq_eq_false_iff_ne, ne_eq, decide_eq_true_eq, decide_eq_false_iff_not, ge_iff_le]
  have j0 : k ≠ 0 → k ≠ 1 → ∀ b : Bool, (b = true ↔ k = 2 ∨ k = 3) → Tot (fun σ => B_i_nodeOk_J0 (σ 0) (F_Z58 (σ 0)) g k v kids k b) (Says (NodeOk g (k, v, kids))) := by
    intro n0 n1 b hb
    unfold B_i_nodeOk_J0
    simp only [tot_cond, tot_jn, tot_some, beq_iff_eq, beq_eq_false_iff_ne, ne_eq, decide_eq_true_eq, decide_eq_false_iff_not, ge_iff_le]
    refine ⟨fun ht => fin _ ?_, fun hf => ?_⟩
    · rw [if_neg n0, if_neg n1, if_pos (hb.1 ht), beq_iff_eq]
    have n23 : ¬ (k = 2 ∨ k = 3) := fun h => by rw [hb.2 h] at hf; cases hf
    refine ⟨fun h5 => ?_, fun h5 => ⟨fun h4 => dict h4, fun h4 => fin _ (by rw [if_neg n0, if_neg n1, if_neg n23, if_neg h4, if_neg h5]; simp)⟩⟩
    have n4 : ¬ k = 4 := by omega
    refine ⟨fun a => ⟨fun b => fin _ ?_, fun b => fin _ ?_⟩, fun a => fin _ ?_⟩ <;> rw [if_neg n0, if_neg n1, if_neg n23, if_neg n4, if_pos h5]
    · simp only [len, decide_eq_true_eq]; omega
    · simp; omega
    · simp; omega
  refine ⟨fun h0 => ⟨fun a => ⟨fun b => fin _ ?_, fun b => fin _ ?_⟩, fun a => fin _ ?_⟩, fun h0 => ⟨fun h1 => ⟨fun a => ⟨fun b => fin _ ?_, fun b => fin _ ?_⟩, fun a => fin _ ?_⟩, fun h1 => ⟨fun h2 => j0 h0 h1 _ (by simp [h2]), fun h2 => j0 h0 h1 _ (by simp [h2])⟩⟩⟩
  · rw [if_pos h0, hlen, decide_eq_true_eq]; exact ⟨fun h => h.2.2, fun h => ⟨a, b, h⟩⟩
  · rw [if_pos h0]; exact ⟨fun h => absurd h.2.1 b, fun h => by cases h⟩
  · rw [if_pos h0]; exact ⟨fun h => absurd h.1 a, fun h => by cases h⟩
  · rw [if_neg h0, if_pos h1, hlen, decide_eq_true_eq]; exact ⟨fun h => h.2.2, fun h => ⟨a, b, h⟩⟩
  · rw [if_neg h0, if_pos h1]; exact ⟨fun h => absurd h.2.1 b, fun h => by cases h⟩
  · rw [if_neg h0, if_pos h1]; exact ⟨fun h => absurd h.1 a, fun h => by cases h⟩
end Go.Gx

/-
  Laws, part 9: graphs that are drawn.
-/
set_option linter.unusedVariables false
set_option linter.unusedSimpArgs false
namespace Go.Gx
theorem NodeOk.kidly {g : List PNode} {n : PNode} (h : NodeOk g n) : n.2.2.length ≤ 6 ∧ InR g n.2.2 := ⟨h.1, h.2.1⟩
theorem validGraph_tot {g : List PNode} {root : Int} (hg : g.length ≤ 1000000) (hk : ∀ n ∈ g, n.2.2.length ≤ 1000000) : Tot (fun σ => F_Z31 (σ 0) g root) (Says (ValidG g root)) := by
  refine tot_Z31 ?_
  unfold B_Z31
  refine (inRange_tot' (len g) 1 12).bind ?_
  rintro _ rfl
  have j0 : ∀ b : Bool, (b = false ↔ 1 ≤ g.length ∧ g.length ≤ 12 ∧ 0 ≤ root ∧ root < (g.length : Int)) → Tot (fun σ => B_Z31_J0 (σ 0) (F_Z69 (σ 0)) (F_Z38 (σ 0)) (F_Z27 (σ 0)) (F_Z64 (σ 0)) g root b) (Says (ValidG g root)) := by
    intro b hb
    unfold B_Z31_J0
    rw [tot_cond]
    refine ⟨fun ht => ?_, fun hf => ?_⟩
    · rw [tot_some]
      refine says_false fun h => ?_
      have := hb.2 ⟨h.pos, h.most, h.root⟩
      rw [ht] at this
      cases this
    obtain ⟨p1, p2, p3⟩ := hb.1 hf
    have key := loop_Z31_L1 (Q := fun _ _ _ r => Says (ValidG g root) r) (I := fun g' r' i => g' = g ∧ r' = root ∧ ∃ j : Nat, i = j ∧ j ≤ g.length ∧ ∀ q : Nat, q < j → NodeOk g (nd g q)) (μ := fun _ _ i => (g.length - i).toNat) ?_
    · exact key g root 0 ⟨rfl, rfl, 0, rfl, by omega, fun q hq => by omega⟩
    intro g' r' i ⟨e1, e2, j, e3, hj, hq⟩ again hag ih
    subst e1 e2 e3
    unfold B_Z31_L1b
    simp only [tot_cond, tot_chk, tot_some, decide_eq_true_eq, decide_eq_false_iff_not, len, inb_iff]
    refine ⟨fun hlt => ⟨by omega, ?_⟩, fun hge => ?_⟩
    · have hm : nd g' (j : Int) ∈ g' := nd_mem (by omega) hlt
      refine (validNode_tot hg (nd g' (j : Int)) (hk _ hm)).bind ?_
      rintro _ ⟨b2, rfl, hb2⟩
      simp only [tot_cond, tot_some, Bool.not_eq_true', Bool.not_eq_false']
      refine ⟨fun hf2 => says_false fun h => ?_, fun ht2 => ?_⟩
      · have := hb2.2 (h.node _ hm); rw [hf2] at this; cases this
      · rw [w64_succ (by omega) (by omega)]
        refine ih _ _ _ ⟨rfl, rfl, j + 1, rfl, by omega, fun q h => ?_⟩ (by simp; omega)
        by_cases e : q = j
        · subst e; exact hb2.1 ht2
        · exact hq q (by omega)
    · have hnode : ∀ n ∈ g', NodeOk g' n := by
        intro n hn
        obtain ⟨i, hi, e⟩ := List.getElem_of_mem hn
        have := hq i (by omega)
        rw [nd, rdx_eq, Int.toNat_natCast, List.getD_eq_getElem?_getD, List.getElem?_eq_getElem hi, Option.getD_some, e] at this
        exact this
      have hkid : Kidly g' := fun n hn => (hnode n hn).kidly
      have key2 := loop_Z31_L3 (Q := fun _ _ _ r => Says (ValidG g' r') r) (I := fun g2 r2 i => g2 = g' ∧ r2 = r' ∧ ∃ j : Nat, i = j ∧ j ≤ g'.length ∧ ∀ q : Nat, q < j → (nd g' q).1 = 2 → ¬ TReach g' q q) (μ := fun _ _ i => (g'.length - i).toNat) ?_
      · exact key2 g' r' 0 ⟨rfl, rfl, 0, rfl, by omega, fun q hq => by omega⟩
      intro g2 r2 i ⟨e1, e2, m, e3, hm, ht⟩ again2 hag2 ih2
      subst e1 e2 e3
      unfold B_Z31_L3b B_Z31_J2
      have next : ¬ ((nd g2 (m : Int)).1 = 2 ∧ TReach g2 m m) → (m : Int) < g2.length → Tot (fun σ => again2 σ ((g2, r2, ()), w64 ((m : Int) + 1), ())) (Says (ValidG g2 r2)) := by
        intro hn hlt
        rw [w64_succ (by omega) (by omega)]
        refine ih2 _ _ _ ⟨rfl, rfl, m + 1, rfl, by omega, fun q h h2 => ?_⟩ (by simp; omega)
        by_cases e : q = m
        · subst e; exact fun h3 => hn ⟨h2, h3⟩
        · exact ht q (by omega) h2
      simp only [tot_cond, tot_chk, tot_jn, tot_some, decide_eq_true_eq, decide_eq_false_iff_not, len, inb_iff, beq_iff_eq, beq_eq_false_iff_ne, ne_eq]
      refine ⟨fun hlt => ⟨by omega, fun h2 => ?_, fun h2 => ⟨fun h => absurd h (by decide), fun _ => next (fun h => h2 h.1) hlt⟩⟩, fun hge => says_true ⟨p1, p2, p3, hnode, fun i hi => ht i (by omega)⟩⟩
      refine (tupleReach_tot hkid hg (by omega) hlt).bind ?_
      rintro _ ⟨out, rfl, ho, hnd, hol⟩
      refine (placeIn_tot (by simp only []; omega) _).bind ?_
      rintro _ ⟨v, rfl, hv⟩
      simp only [tot_cond, tot_jn, tot_some, decide_eq_true_eq, decide_eq_false_iff_not]
      refine ⟨fun hpos => says_false fun h => ?_, fun hneg => next (fun h => ?_) hlt⟩
      · refine h.tup m (by omega) h2 ((ho _).1 ?_)
        rcases hv with ⟨e, _⟩ | ⟨i, e, hi, he, _⟩
        · omega
        · rw [← he, List.getD_eq_getElem?_getD, List.getElem?_eq_getElem hi]; exact List.getElem_mem _
      · rcases hv with ⟨_, hno⟩ | ⟨i, e, _⟩
        · exact hno ((ho _).2 h.2)
        · omega
  simp only [tot_cond, tot_jn, Bool.not_eq_true', Bool.not_eq_false', decide_eq_true_eq, decide_eq_false_iff_not, len]
  refine ⟨fun h => j0 true ⟨fun h' => Bool.noConfusion h', fun h' => by omega⟩, fun h => ?_⟩
  rw [show w64 ((g.length : Int) - 1) = (g.length : Int) - 1 from w64_id (by omega) (by omega)]
  refine (inRange_tot' root 0 _).bind ?_
  rintro _ rfl
  rw [tot_jn]
  refine j0 _ ?_
  rw [Bool.not_eq_false', decide_eq_true_eq]
  omega
/-- A node without kids, drawn. -/
def LeafOk (k v : Int) : Prop := (k = 0 ∧ 0 ≤ v ∧ v ≤ 999) ∨ (k = 1 ∧ 0 ≤ v ∧ v ≤ 9) ∨ (2 ≤ k ∧ k ≤ 4 ∧ v = 0) ∨ (k = 5 ∧ 0 ≤ v ∧ v ≤ 9)
theorem someNode_tot {b : List Int} {p : Int} (h : RD b p) (hp : p ≤ 900000000) : Tot (fun σ => F_Z52 (σ 0) b p) (Drawn b p 3 fun x => ∃ k v, x = ((k, v, (), ()), ()) ∧ LeafOk k v) := by
  refine tot_Z52 ?_
  unfold B_Z52 B_Z52_J0 B_Z52_J1
  refine (pick_tot h (by omega) (by omega)).bind ?_
  rintro _ ⟨_, q, rfl, h1, h2, c, rfl, h3, h4⟩
  have h4 := h4 (by omega)
  have hq := h.next h1 (by omega)
  have fin : ∀ (q' k v : Int), p ≤ q' → q' ≤ p + 3 → LeafOk k v → Drawn b p 3 (fun x => ∃ k v, x = ((k, v, (), ()), ()) ∧ LeafOk k v) (((k, v, (), ()), ()), ((b, q', ()), ())) := fun q' k v h1 h2 h3 => ⟨_, _, rfl, h1, h2, k, v, rfl, h3⟩
  have last : Tot (fun σ => (F_Z15 (σ 0) b q 3).bind fun r30 => some ((((5 : Int), r30.1.1, (), ()), ()), ((r30.2.1.1, r30.2.1.2.1, ()), ()))) (Drawn b p 3 (fun x => ∃ k v, x = ((k, v, (), ()), ()) ∧ LeafOk k v)) := by
    refine (pick_tot hq (by omega) (by omega)).bind ?_
    rintro _ ⟨_, q2, rfl, g1, g2, a, rfl, g3, g4⟩
    have g4 := g4 (by omega)
    rw [tot_some]
    exact fin q2 5 a (by omega) (by omega) (.inr (.inr (.inr (by omega))))
  simp only [tot_cond, tot_jn, tot_some, beq_iff_eq, beq_eq_false_iff_ne, ne_eq]
  have s2 : Drawn b p 3 (fun x => ∃ k v, x = ((k, v, (), ()), ()) ∧ LeafOk k v) (((2, 0, (), ()), ()), ((b, q, ()), ())) := fin q 2 0 (by omega) (by omega) (.inr (.inr (.inl (by omega))))
  have s3 : Drawn b p 3 (fun x => ∃ k v, x = ((k, v, (), ()), ()) ∧ LeafOk k v) (((3, 0, (), ()), ()), ((b, q, ()), ())) := fin q 3 0 (by omega) (by omega) (.inr (.inr (.inl (by omega))))
  have s4 : Drawn b p 3 (fun x => ∃ k v, x = ((k, v, (), ()), ()) ∧ LeafOk k v) (((4, 0, (), ()), ()), ((b, q, ()), ())) := fin q 4 0 (by omega) (by omega) (.inr (.inr (.inl (by omega))))
  refine ⟨fun h0 => ?_, fun h0 => ⟨fun h1' => ?_, fun h1' => ?_⟩⟩
  · refine (pick_tot hq (by omega) (by omega)).bind ?_
    rintro _ ⟨_, q2, rfl, g1, g2, a, rfl, g3, g4⟩
    have g4 := g4 (by omega)
    refine (one_tot (hq.next g1 (by omega)) (by omega) (by simp) (by simp)).bind ?_
    rintro _ ⟨_, q3, rfl, f1, f2, v, rfl, hv⟩
    rw [tot_some]
    simp only [List.mem_cons, List.not_mem_nil, or_false] at hv
    exact fin q3 0 v (by omega) (by omega) (.inl (by omega))
  · refine (pick_tot hq (by omega) (by omega)).bind ?_
    rintro _ ⟨_, q2, rfl, g1, g2, a, rfl, g3, g4⟩
    have g4 := g4 (by omega)
    rw [tot_some]
    exact fin q2 1 a (by omega) (by omega) (.inr (.inl (by omega)))
  · simp only [s2, s3, s4, last, implies_true, and_self]
end Go.Gx

/-
  Laws, part U4: the program's ValidGraph.
-/
set_option linter.unusedVariables false
set_option linter.unusedSimpArgs false
namespace Go.Gx
theorem pReach_iff {g : List PNode} {s x : Int} : PReach g (fun x => (nd g x).1 = 2) s x ↔ TReach g s x := by
  constructor
  · intro h
    induction h with
    | kid h => exact .kid h
    | step _ hp hk ih => exact .step ih hp hk
  · intro h
    induction h with
    | kid h => exact .kid h
    | step _ hp hk ih => exact .step ih hp hk
theorem circlesV_tot {g : List PNode} (hk : Kidly g) (hg : g.length ≤ 1000000) {s : Int} (h0 : 0 ≤ s) (h1 : s < (g.length : Int)) : Tot (fun σ => F_Z3 (σ 0) g s) (Says (TReach g s s)) := by
  refine (circles_ValidGraph_2_tot hk hg h0 h1 (fun x => (nd g x).1 = 2) fun x _ _ => ?_).mono fun r ⟨b, e, h⟩ => ⟨b, e, h.trans pReach_iff⟩
  refine tot_Z8 ?_
  unfold B_Z8
  rw [tot_some]
  have : ((nd g x).1 == 2) = decide ((nd g x).1 = 2) := by rw [Bool.eq_iff_iff]; simp
  rw [this]
theorem i_ValidGraph_big {g : List PNode} {root : Int} (hg : g.length ≤ 1000000) (hkk : ∀ n ∈ g, n.2.2.length ≤ 400000000) : Tot (fun σ => F_Z23 (σ 0) g root) (Says (ValidG g root)) := by
  refine tot_Z23 ?_
  unfold B_Z23
  have st5 : 1 ≤ g.length → g.length ≤ 12 → (0 ≤ root ∧ root < (g.length : Int)) → (∀ n ∈ g, NodeOk g n) →
      Tot (fun σ => B_Z23_L5 (σ 0) (F_Z0 (σ 0)) (F_i_nodeOk (σ 0)) (F_Z3 (σ 0)) (σ 0) ((g, root, ()), len g, 0, ())) (Says (ValidG g root)) := by
    intro a1 a2 a3 hn
    have key := loop_Z23_L5 (Q := fun _ _ _ _ r => Says (ValidG g root) r) (I := fun g' r' n i => g' = g ∧ r' = root ∧ n = (g.length : Int) ∧ ∃ j : Nat, i = j ∧ j ≤ g.length ∧ ∀ q : Nat, q < j → (nd g q).1 = 2 → ¬ TReach g q q) (μ := fun _ _ _ i => g.length - i.toNat) ?_
    · exact key g root _ 0 ⟨rfl, rfl, rfl, 0, rfl, by omega, fun q hq => by omega⟩
    intro g' r' n i ⟨e1, e2, e3, j, e4, hj, hq⟩ again hag ih
    subst e1 e2 e3 e4
    unfold B_Z23_L5b B_Z23_J4
    simp only [tot_cond, tot_chk, tot_jn, tot_some, decide_eq_true_eq, decide_eq_false_iff_not, inb_iff, beq_iff_eq, beq_eq_false_iff_ne, ne_eq, Bool.false_eq_true, false_implies, true_and, forall_const]
    have next : ((nd g' (j : Int)).1 = 2 → ¬ TReach g' j j) → j < g'.length → Tot (fun s => again s ((g', r', ()), (g'.length : Int), w64 ((j : Int) + 1), ())) (Says (ValidG g' r')) := by
      intro hn2 hlt
      rw [w64_succ (by omega) (by omega)]
      refine ih _ _ _ _ ⟨rfl, rfl, rfl, j + 1, rfl, by omega, fun q h => ?_⟩ (by simp; omega)
      by_cases e : q = j
      · subst e; exact hn2
      · exact hq q (by omega)
    refine ⟨fun hlt => ⟨⟨by omega, hlt⟩, fun h2 => ?_, fun h2 => next (fun h => absurd h h2) (by omega)⟩, fun hge => says_true ⟨a1, a2, a3, hn, fun i hi => hq i (by omega)⟩⟩
    refine (circlesV_tot (fun n hn' => (hn n hn').kidly) hg (s := (j : Int)) (by omega) hlt).bind ?_
    rintro _ ⟨b, rfl, hb⟩
    simp only [tot_cond, tot_jn, tot_some]
    refine ⟨fun ht => says_false fun hv => hv.tup j (by omega) h2 (hb.1 ht), fun hf => next (fun _ hr => ?_) (by omega)⟩
    rw [hb.2 hr] at hf; cases hf
  have st3 : 1 ≤ g.length → g.length ≤ 12 → (0 ≤ root ∧ root < (g.length : Int)) → Kidly g →
      Tot (fun σ => B_Z23_L3 (σ 0) (F_Z0 (σ 0)) (F_i_nodeOk (σ 0)) (F_Z3 (σ 0)) (σ 0) ((g, root, ()), g, len g, 0, ())) (Says (ValidG g root)) := by
    intro a1 a2 a3 hk
    have key := loop_Z23_L3 (Q := fun _ _ _ _ _ r => Says (ValidG g root) r) (I := fun g' r' l n i => g' = g ∧ r' = root ∧ l = g ∧ n = (g.length : Int) ∧ ∃ j : Nat, i = j ∧ j ≤ g.length ∧ ∀ q : Nat, q < j → NodeOk g (nd g q)) (μ := fun _ _ _ _ i => g.length - i.toNat) ?_
    · exact key g root _ _ 0 ⟨rfl, rfl, rfl, rfl, 0, rfl, by omega, fun q hq => by omega⟩
    intro g' r' l n i ⟨e1, e2, e3, e4, j, e5, hj, hq⟩ again hag ih
    subst e1 e2 e3 e4 e5
    unfold B_Z23_L3b
    simp only [tot_cond, tot_chk, tot_jn, tot_some, decide_eq_true_eq, decide_eq_false_iff_not, inb_iff]
    refine ⟨fun hlt => ⟨⟨by omega, hlt⟩, ?_⟩, fun hge => st5 a1 a2 a3 fun n hn => ?_⟩
    · have hm := nd_mem (g := l) (i := (j : Int)) (by omega) hlt
      have hkj := hk _ hm
      refine (nodeOk_tot hg (nd l (j : Int)) hkj.1 hkj.2).bind ?_
      rintro _ ⟨b, rfl, hb⟩
      simp only [tot_cond, tot_some, Bool.not_eq_true', Bool.not_eq_false']
      refine ⟨fun hf => says_false fun hv => ?_, fun ht => ?_⟩
      · rw [hb.2 (hv.node _ hm)] at hf; cases hf
      · rw [w64_succ (by omega) (by omega)]
        refine ih _ _ _ _ _ ⟨rfl, rfl, rfl, rfl, j + 1, rfl, by omega, fun q h => ?_⟩ (by simp; omega)
        by_cases e : q = j
        · subst e; exact hb.1 ht
        · exact hq q (by omega)
    · obtain ⟨q, hq1, hq2⟩ := List.getElem_of_mem hn
      have := hq q (by omega)
      have e : nd l (q : Int) = n := by
        show l.getD (Int.toNat (q : Int)) _ = n
        rw [Int.toNat_natCast, List.getD_eq_getElem?_getD, List.getElem?_eq_getElem hq1]; exact hq2
      rw [e] at this; exact this
  have st2 : 1 ≤ g.length → g.length ≤ 12 → (0 ≤ root ∧ root < (g.length : Int)) →
      Tot (fun σ => B_Z23_L2 (σ 0) (F_Z0 (σ 0)) (F_i_nodeOk (σ 0)) (F_Z3 (σ 0)) (σ 0) ((g, root, ()), (len g, ()), g, len g, 0, ())) (Says (ValidG g root)) := by
    intro a1 a2 a3
    have key := loop_Z23_L2 (Q := fun _ _ _ _ _ _ r => Says (ValidG g root) r) (I := fun g' r' m l n i => g' = g ∧ r' = root ∧ m = (g.length : Int) ∧ l = g ∧ n = (g.length : Int) ∧ ∃ j : Nat, i = j ∧ j ≤ g.length ∧ ∀ q : Nat, q < j → (nd g q).2.2.length ≤ 6 ∧ InR g (nd g q).2.2) (μ := fun _ _ _ _ _ i => g.length - i.toNat) ?_
    · exact key g root _ _ _ 0 ⟨rfl, rfl, rfl, rfl, rfl, 0, rfl, by omega, fun q hq => by omega⟩
    intro g' r' m l n i ⟨e1, e2, e6, e3, e4, j, e5, hj, hq⟩ again hag ih
    subst e1 e2 e3 e4 e5 e6
    unfold B_Z23_L2b B_Z23_J1
    simp only [tot_cond, tot_chk, tot_jn, tot_some, decide_eq_true_eq, decide_eq_false_iff_not, inb_iff, Bool.true_eq_false, false_implies, and_true, true_implies]
    refine ⟨fun hlt => ⟨⟨by omega, hlt⟩, fun h6 => says_false fun hv => ?_, fun h6 => ?_⟩, fun hge => st3 a1 a2 a3 fun n hn => ?_⟩
    · have := (hv.node _ (nd_mem (g := l) (i := (j : Int)) (by omega) hlt)).1
      have h6 : ((nd l (j : Int)).2.2.length : Int) > 6 := h6
      omega
    · have hm := nd_mem (g := l) (i := (j : Int)) (by omega) hlt
      have h6 : ¬ ((nd l (j : Int)).2.2.length : Int) > 6 := h6
      refine (contains1_tot (s := (nd l (j : Int)).2.2) (hkk _ hm) (l.length : Int)).bind ?_
      rintro _ ⟨b, rfl, hb⟩
      simp only [tot_cond, tot_jn, tot_some]
      refine ⟨fun ht => says_false fun hv => ?_, fun hf => ?_⟩
      · obtain ⟨k, hk1, hk2⟩ := hb.1 ht
        exact hk2 ((hv.node _ hm).2.1 k hk1)
      · rw [w64_succ (by omega) (by omega)]
        refine ih _ _ _ _ _ _ ⟨rfl, rfl, rfl, rfl, rfl, j + 1, rfl, by omega, fun q h => ?_⟩ (by simp; omega)
        by_cases e : q = j
        · subst e
          refine ⟨by omega, fun k hk1 => ?_⟩
          by_cases hc : 0 ≤ k ∧ k < (l.length : Int)
          · exact hc
          · rw [hb.2 ⟨k, hk1, hc⟩] at hf; cases hf
        · exact hq q (by omega)
    · obtain ⟨q, hq1, hq2⟩ := List.getElem_of_mem hn
      have := hq q (by omega)
      have e : nd l (q : Int) = n := by
        show l.getD (Int.toNat (q : Int)) _ = n
        rw [Int.toNat_natCast, List.getD_eq_getElem?_getD, List.getElem?_eq_getElem hq1]; exact hq2
      rw [e] at this; exact this
  unfold B_Z23_J0
  simp only [tot_cond, tot_jn, tot_some, decide_eq_true_eq, decide_eq_false_iff_not, Bool.true_eq_false, false_implies, and_true, true_implies, len, forall_const, imp_false, not_true_eq_false]
  refine ⟨fun h => says_false fun hv => by have := hv.pos; omega, fun h1 => ⟨fun h => says_false fun hv => by have := hv.most; omega, fun h2 => ⟨fun h => says_false fun hv => by have := hv.root; omega, fun h3 => ⟨fun h => says_false fun hv => by have := hv.root; omega, fun h4 => st2 (by omega) (by omega) ⟨by omega, by omega⟩⟩⟩⟩⟩
end Go.Gx

/-
  Laws, part 10: a graph that is drawn is valid.
-/
set_option linter.unusedVariables false
set_option linter.unusedSimpArgs false
namespace Go.Gx
abbrev ONode : Type := Int × Int × Option (List Int)
abbrev od : ONode := ((0 : Int), ((0 : Int), (none : Option (List Int))))
abbrev cvN (p : ONode) : PNode := (p.1, (p.2.1, p.2.2.getD []))
theorem set_getD {α : Type} {l : List α} {i : Nat} {d : α} : l.set i (l.getD i d) = l := by
  by_cases h : i < l.length
  · rw [List.getD_eq_getElem?_getD, List.getElem?_eq_getElem h, Option.getD_some]; exact List.set_getElem_self h
  · rw [List.set_eq_of_length_le (by omega)]
theorem getD_set_ne {α : Type} {l : List α} {i j : Nat} {x d : α} (h : j ≠ i) : (l.set i x).getD j d = l.getD j d := by
  rw [List.getD_eq_getElem?_getD, List.getD_eq_getElem?_getD, List.getElem?_set_ne (by omega)]
def AddOk (g : List ONode) (root : Int) (i : Nat) (x : (List ONode × Int × Unit) × Unit) : Prop :=
  ∃ g', x = ((g', root, ()), ()) ∧ ValidG (g'.map cvN) root ∧ g'.length = g.length ∧ ∀ j, j ≠ i → g'.getD j od = g.getD j od
theorem addKids_tot {b : List Int} {p : Int} (h : RD b p) (hp : p ≤ 800000000) {g : List ONode} {root : Int} (hv : ValidG (g.map cvN) root) {i : Nat} (hi : i < g.length) (hn : (g.getD i od).2.2 = none) :
    Tot (fun σ => F_Z55 (σ 0) b p g root i) (Drawn b p 20 (AddOk g root i)) := by
  have hlen : g.length ≤ 12 := by have := hv.most; simpa using this
  refine tot_Z55 ?_
  unfold B_Z55
  simp only [tot_chk, inb_iff, decide_eq_true_eq, Int.toNat_natCast]
  refine ⟨by omega, hi, (one_tot h (by omega) (by simp) (by simp)).bind ?_⟩
  rintro _ ⟨_, q, rfl, h1, h2, n, rfl, hnm⟩
  have hnn : 0 ≤ n ∧ n ≤ 4 := by
    simp only [List.mem_cons, List.not_mem_nil, or_false] at hnm
    omega
  rw [tot_chk]
  refine ⟨by rw [show (g.getD i od).2.2 = none from hn]; rfl, ?_⟩
  have key := loop_Z55_L3 (Q := fun _ _ _ _ _ _ _ _ _ _ r => Drawn b p 20 (AddOk g root i) r)
    (I := fun b' q' at2 g' r' _ k v kids m => b' = b ∧ at2 = (i : Int) ∧ g' = g ∧ r' = root ∧ p ≤ q' ∧ q' + 4 * m ≤ p + 17 ∧ 0 ≤ m ∧ m ≤ 4 ∧ (kids.length : Int) + 2 * m ≤ 10) (μ := fun _ _ _ _ _ _ _ _ _ m => m.toNat) ?_
  · exact key b q i g root 0 _ _ [] n ⟨rfl, rfl, rfl, rfl, h1, by omega, hnn.1, hnn.2, by simp; omega⟩
  intro b' q' at2 g' r' t6 k v kids m ⟨e1, e2, e3, e4, g1, g2, g3, g4, g5⟩ again hag ih
  subst e1 e2 e3 e4
  have hr := h.next g1 (by omega)
  unfold B_Z55_L3b
  rw [tot_cond]
  simp only [decide_eq_true_eq, decide_eq_false_iff_not]
  refine ⟨fun hm => ?_, fun hm => ?_⟩
  · -- a round
    have w : w64 (m - 1) = m - 1 := w64_id (by omega) (by omega)
    have j2 : ∀ (q2 : Int) (kids2 : List Int), q' ≤ q2 → q2 ≤ q' + 4 → kids2.length ≤ kids.length + 2 → Tot (fun σ => B_Z55_J2 (σ 0) (F_Z30 (σ 0)) (F_Z15 (σ 0)) (F_s_isKey (σ 0)) (F_Z31 (σ 0)) (again σ) b' q2 i g' r' t6 k v kids2 m) (Drawn b' p 20 (AddOk g' r' i)) := by
      intro q2 kids2 k1 k2 k3
      unfold B_Z55_J2
      rw [w]
      exact ih _ _ _ _ _ _ _ _ _ _ ⟨rfl, rfl, rfl, rfl, by omega, by omega, by omega, by omega, by omega⟩ (by omega)
    have hkl : kids.length ≤ 10 := by omega
    have j1 : ∀ (q2 kid : Int) (t : Bool), q' ≤ q2 → q2 ≤ q' + 2 → Tot (fun σ => B_Z55_J1 (σ 0) (F_Z30 (σ 0)) (F_Z15 (σ 0)) (F_s_isKey (σ 0)) (F_Z31 (σ 0)) (again σ) b' q2 i g' r' t6 k v kids m kid t) (Drawn b' p 20 (AddOk g' r' i)) := by
      intro q2 kid t k1 k2
      unfold B_Z55_J1
      rw [tot_cond]
      refine ⟨fun _ => ?_, fun _ => ?_⟩
      · refine (pick_tot (hr.next k1 (by omega)) (by omega) (by simp only [len]; omega)).bind ?_
        rintro _ ⟨_, q3, rfl, f1, f2, y, rfl, f3, f4⟩
        rw [tot_chk]
        refine ⟨room_iff.2 (by simp only [List.length_cons, List.length_nil]; omega), ?_⟩
        rw [tot_jn]
        exact j2 q3 _ (by omega) (by omega) (by simp)
      · rw [tot_jn]
        exact j2 q2 kids k1 (by omega) (by omega)
    refine (pick_tot hr (by omega) (by simp only [len]; omega)).bind ?_
    rintro _ ⟨_, q2, rfl, f1, f2, kid, rfl, f3, f4⟩
    have f4 := f4 (by simp only [len]; omega)
    simp only [len] at f4
    have j0 : ∀ (t : Bool), Tot (fun σ => B_Z55_J0 (σ 0) (F_Z30 (σ 0)) (F_Z15 (σ 0)) (F_s_isKey (σ 0)) (F_Z31 (σ 0)) (again σ) b' q2 i g' r' t6 k v kids m kid k t) (Drawn b' p 20 (AddOk g' r' i)) := by
      intro t
      unfold B_Z55_J0
      rw [tot_cond]
      refine ⟨fun _ => ?_, fun _ => ?_⟩
      · rw [tot_chk]
        refine ⟨room_iff.2 (by simp only [List.length_cons, List.length_nil]; omega), ?_⟩
        rw [tot_jn]
        exact j2 q2 _ f1 (by omega) (by simp)
      · rw [tot_cond]
        refine ⟨fun _ => ?_, fun _ => ?_⟩
        · rw [tot_jn]
          exact j2 q2 _ f1 (by omega) (by simp)
        · rw [tot_cond]
          refine ⟨fun _ => ?_, fun _ => ?_⟩
          · rw [tot_cond]
            refine ⟨fun _ => ?_, fun _ => ?_⟩
            · simp only [tot_chk, inb_iff, decide_eq_true_eq]
              refine ⟨by omega, by omega, (isKey_tot _ _ []).bind ?_⟩
              rintro _ ⟨b2, rfl, _⟩
              rw [tot_jn]
              exact j1 q2 kid _ f1 (by omega)
            · rw [tot_jn]
              exact j1 q2 kid _ f1 (by omega)
          · rw [tot_jn]
            exact j2 q2 kids f1 (by omega) (by omega)
    rw [tot_cond]
    refine ⟨fun _ => ?_, fun _ => ?_⟩
    · rw [tot_jn]; exact j0 _
    · rw [tot_jn]; exact j0 _
  · -- the end
    have hkl : kids.length ≤ 10 := by omega
    simp only [tot_chk, inb_iff, decide_eq_true_eq, Int.toNat_natCast]
    refine ⟨by omega, hi, by omega, hi, ?_⟩
    have hkl2 : ∀ n ∈ (g'.set i (k, (v, (some kids)))).map cvN, n.2.2.length ≤ 1000000 := by
      intro n hn'
      obtain ⟨o, ho, rfl⟩ := List.mem_map.1 hn'
      rcases List.mem_or_eq_of_mem_set ho with ho | rfl
      · have := (hv.node (cvN o) (List.mem_map.2 ⟨o, ho, rfl⟩)).1
        omega
      · show kids.length ≤ _; omega
    refine (validGraph_tot (root := r') (by simp; omega) hkl2).bind ?_
    rintro _ ⟨b2, rfl, hb2⟩
    unfold B_Z55_J4
    simp only [tot_cond, tot_chk, tot_jn, tot_some, Bool.not_eq_true', Bool.not_eq_false', inb_iff, decide_eq_true_eq, List.length_set, Int.toNat_natCast]
    have hn' : (g'.getD i od).2.2 = none := hn
    refine ⟨fun _ => ⟨by omega, hi, by rw [show (g'.getD i ((0 : Int), ((0 : Int), (none : Option (List Int))))).2.2 = none from hn']; rfl, _, _, rfl, g1, by omega, g', ?_, hv, rfl, fun j _ => rfl⟩, fun ht => ⟨_, _, rfl, g1, by omega, _, rfl, hb2.1 ht, by simp, fun j hj => getD_set_ne hj⟩⟩
    rw [List.set_set]
    have e : ((g'.getD i od).1, ((g'.getD i od).2.1, (none : Option (List Int)))) = g'.getD i od := by rw [← hn']
    show ((g'.set i ((g'.getD i od).1, ((g'.getD i od).2.1, (none : Option (List Int)))), r', ()), ()) = _
    rw [e]
    exact congrArg (fun l => ((l, r', ()), ())) (set_getD (d := od))
theorem leaf_valid {g : List ONode} {root : Int} (hp : 1 ≤ g.length) (hm : g.length ≤ 12) (hr : 0 ≤ root ∧ root < (g.length : Int)) (hn : ∀ n ∈ g, LeafOk n.1 n.2.1 ∧ n.2.2 = none) : ValidG (g.map cvN) root := by
  have hnd : ∀ i, (nd (g.map cvN) i).2.2 = [] := by
    intro i
    unfold nd
    rw [rdx_eq, List.getD_eq_getElem?_getD, List.getElem?_map]
    cases hq : g[i.toNat]? with
    | none => rfl
    | some o =>
      have := (hn o (List.mem_of_getElem? hq)).2
      simp [this]
  refine ⟨by simpa using hp, by simpa using hm, by simpa using hr, fun n hn' => ?_, fun i _ _ ht => ?_⟩
  · obtain ⟨o, ho, rfl⟩ := List.mem_map.1 hn'
    obtain ⟨hl, hno⟩ := hn o ho
    refine ⟨by simp [hno], fun x hx => by simp [hno] at hx, ?_⟩
    simp only [hno, Option.getD_none]
    rcases hl with ⟨e, h1, h2⟩ | ⟨e, h1, h2⟩ | ⟨h1, h2, h3⟩ | ⟨e, h1, h2⟩
    · rw [if_pos e]; exact ⟨h1, h2, trivial⟩
    · rw [if_neg (by omega), if_pos e]; exact ⟨h1, h2, trivial⟩
    · rw [if_neg (by omega), if_neg (by omega)]
      by_cases e : o.1 = 2 ∨ o.1 = 3
      · rw [if_pos e]; exact h3
      · rw [if_neg e, if_pos (by omega)]
        exact ⟨h3, ⟨fun i hi => by simp at hi, by simp⟩⟩
    · rw [if_neg (by omega), if_neg (by omega), if_neg (by omega), if_neg (by omega), if_pos e]; exact ⟨h1, h2, by simp⟩
  · cases ht with
    | kid hk => rw [hnd] at hk; simp at hk
    | step _ _ hk => rw [hnd] at hk; simp at hk
theorem someGraph_tot {b : List Int} {p : Int} (h : RD b p) (hp : p ≤ 700000000) : Tot (fun σ => F_Z41 (σ 0) b p) (Drawn b p 400 fun x => ∃ (g : List PNode) (root : Int), x = ((g, root, ()), ()) ∧ ValidG g root) := by
  refine tot_Z41 ?_
  unfold B_Z41
  refine (one_tot h (by omega) (by simp) (by simp)).bind ?_
  rintro _ ⟨_, q, rfl, h1, h2, n, rfl, hnm⟩
  have hnn : 1 ≤ n ∧ n ≤ 10 := by
    simp only [List.mem_cons, List.not_mem_nil, or_false] at hnm
    omega
  have key := loop_Z41_L0 (Q := fun _ _ _ _ _ _ r => Drawn b p 400 (fun x => ∃ (g : List PNode) (root : Int), x = ((g, root, ()), ()) ∧ ValidG g root) r)
    (I := fun b' q' _ g' _ m => b' = b ∧ p ≤ q' ∧ q' + 3 * m ≤ p + 40 ∧ 0 ≤ m ∧ m ≤ 10 ∧ 1 ≤ (g'.length : Int) + m ∧ (g'.length : Int) + m ≤ 10 ∧ ∀ x ∈ g', LeafOk x.1 x.2.1 ∧ x.2.2 = none) (μ := fun _ _ _ _ _ m => m.toNat) ?_
  · exact key b q 0 [] 0 n ⟨rfl, h1, by omega, by omega, hnn.2, by simp; omega, by simp; omega, fun x hx => by simp at hx⟩
  intro b' q' t2 g' r0 m ⟨e1, g1, g2, g3, g4, g5, g6, g7⟩ again hag ih
  subst e1
  have hr := h.next g1 (by omega)
  unfold B_Z41_L0b
  rw [tot_cond]
  simp only [decide_eq_true_eq, decide_eq_false_iff_not]
  refine ⟨fun hm => ?_, fun hm => ?_⟩
  · refine (someNode_tot hr (by omega)).bind ?_
    rintro _ ⟨_, q2, rfl, f1, f2, k, v, rfl, hl⟩
    rw [tot_chk]
    refine ⟨room_iff.2 (by simp only [List.length_cons, List.length_nil]; omega), ?_⟩
    rw [show w64 (m - 1) = m - 1 from w64_id (by omega) (by omega)]
    refine ih b' q2 t2 (g' ++ [(k, (v, none))]) r0 (m - 1) ⟨rfl, by omega, by omega, by omega, by omega, ?_, ?_, fun x hx => ?_⟩ (by omega)
    · simp only [List.length_append, List.length_cons, List.length_nil]; omega
    · simp only [List.length_append, List.length_cons, List.length_nil]; omega
    · rcases List.mem_append.1 hx with hx | hx
      · exact g7 x hx
      · simp only [List.mem_cons, List.not_mem_nil, or_false] at hx
        subst hx
        exact ⟨hl, rfl⟩
  · have hgl : 1 ≤ g'.length ∧ g'.length ≤ 10 := by omega
    have hrt : w64 (len g' - 1) = (g'.length : Int) - 1 := by rw [w64_id] <;> simp only [len] <;> omega
    rw [hrt]
    have key2 := loop_Z41_L1 (Q := fun _ _ _ _ _ _ r => Drawn b' p 400 (fun x => ∃ (g : List PNode) (root : Int), x = ((g, root, ()), ()) ∧ ValidG g root) r)
      (I := fun b2 q2 _ g2 r2 i => b2 = b' ∧ p ≤ q2 ∧ ∃ j : Nat, i = j ∧ j ≤ g2.length ∧ g2.length ≤ 10 ∧ 1 ≤ g2.length ∧ q2 ≤ p + 40 + 20 * i ∧ ValidG (g2.map cvN) r2 ∧ ∀ x : Nat, j ≤ x → (g2.getD x od).2.2 = none) (μ := fun _ _ _ g2 _ i => (g2.length - i).toNat) ?_
    · refine key2 b' q' t2 g' _ 0 ⟨rfl, g1, 0, rfl, by omega, hgl.2, hgl.1, by omega, leaf_valid hgl.1 (by omega) (by omega) g7, fun x _ => ?_⟩
      rw [List.getD_eq_getElem?_getD]
      cases hq : g'[x]? with
      | none => rfl
      | some o => exact (g7 o (List.mem_of_getElem? hq)).2
    intro b2 q2 t3 g2 r2 i ⟨e1, f1, j, e2, hj, hl10, hl1, f2, hv, hno⟩ again2 hag2 ih2
    subst e1 e2
    have hr2 := h.next f1 (by omega)
    unfold B_Z41_L1b B_Z41_J2
    rw [tot_cond]
    simp only [decide_eq_true_eq, decide_eq_false_iff_not, len]
    refine ⟨fun hlt => ?_, fun hge => ?_⟩
    · refine (addKids_tot hr2 (by omega) hv (i := j) (by omega) (hno j (Nat.le_refl _))).bind ?_
      rintro _ ⟨_, q3, rfl, k1, k2, g3', rfl, hv3, hlen3, hsame⟩
      rw [w64_succ (by omega) (by omega)]
      refine ih2 b2 q3 t3 g3' r2 ((j + 1 : Nat) : Int) ⟨rfl, by omega, j + 1, rfl, by omega, by omega, by omega, by omega, hv3, fun x hx => ?_⟩ (by omega)
      rw [hsame x (by omega)]
      exact hno x (by omega)
    · refine (pick_tot hr2 (by omega) (by omega)).bind ?_
      rintro _ ⟨_, q3, rfl, k1, k2, u, rfl, k3, k4⟩
      rw [tot_cond]
      refine ⟨fun _ => ?_, fun _ => ?_⟩
      · refine (pick_tot (hr2.next k1 (by omega)) (by omega) (by omega)).bind ?_
        rintro _ ⟨_, q4, rfl, l1, l2, rt, rfl, l3, l4⟩
        have l4 := l4 (by omega)
        rw [tot_jn, tot_some]
        exact ⟨_, q4, rfl, by omega, by omega, _, rt, rfl, ⟨hv.pos, hv.most, by simpa using ⟨l3, l4⟩, hv.node, hv.tup⟩⟩
      · rw [tot_jn, tot_some]
        exact ⟨_, q3, rfl, by omega, by omega, _, r2, rfl, hv⟩
end Go.Gx

/-
  Laws, part 11: to write a valid graph comes to an end.
-/
set_option linter.unusedVariables false
set_option linter.unusedSimpArgs false
namespace Go.Gx
open Classical in
noncomputable def rk (g : List PNode) (i : Int) : Nat := ((List.range g.length).filter (fun (j : Nat) => decide (TReach g i (j : Int)))).length
theorem filter_lt {α : Type} {p q : α → Bool} : ∀ {l : List α}, (∀ x ∈ l, p x = true → q x = true) → (l.filter p).length ≤ (l.filter q).length
  | [], _ => by simp
  | x :: l, h => by
    have ih := filter_lt (p := p) (q := q) (l := l) (fun y hy => h y (List.mem_cons_of_mem _ hy))
    cases hp : p x with
    | true => simp [List.filter_cons, hp, h x (by simp) hp, ih]
    | false =>
      cases hq : q x with
      | true => simp [List.filter_cons, hp, hq]; omega
      | false => simp [List.filter_cons, hp, hq, ih]
theorem filter_lt' {α : Type} {p q : α → Bool} {a : α} : ∀ {l : List α}, (∀ x ∈ l, p x = true → q x = true) → a ∈ l → p a = false → q a = true → (l.filter p).length < (l.filter q).length
  | [], _, ha, _, _ => by simp at ha
  | x :: l, h, ha, hp, hq => by
    have h' := fun y hy => h y (List.mem_cons_of_mem x hy)
    rcases List.mem_cons.1 ha with rfl | ha
    · have := filter_lt (p := p) (q := q) (l := l) h'
      simp [List.filter_cons, hp, hq]
      omega
    · have ih := filter_lt' h' ha hp hq
      cases hpx : p x with
      | true => simp [List.filter_cons, hpx, h x (by simp) hpx, ih]
      | false =>
        cases hqx : q x with
        | true => simp [List.filter_cons, hpx, hqx]; omega
        | false => simp [List.filter_cons, hpx, hqx, ih]
theorem rk_le (g : List PNode) (i : Int) : rk g i ≤ g.length := by
  unfold rk
  refine Nat.le_trans (List.length_filter_le _ _) ?_
  simp
theorem reach_in {g : List PNode} (hk : Kidly g) {i x : Int} (hi : 0 ≤ i ∧ i < (g.length : Int)) (h : TReach g i x) : 0 ≤ x ∧ x < (g.length : Int) := by
  induction h with
  | kid hm => exact (hk _ (nd_mem hi.1 hi.2)).2 _ hm
  | step _ _ hm ih => exact (hk _ (nd_mem ih.1 ih.2)).2 _ hm
theorem rk_lt {g : List PNode} {root : Int} (hv : ValidG g root) {i k : Int} (hi : 0 ≤ i ∧ i < (g.length : Int)) (hm : k ∈ (nd g i).2.2) (h2 : (nd g k).1 = 2) : rk g k < rk g i := by
  have hk : Kidly g := fun n hn => (hv.node n hn).kidly
  have hki := reach_in hk hi (.kid hm)
  obtain ⟨m, rfl⟩ := Int.eq_ofNat_of_zero_le hki.1
  have up : ∀ x, TReach g (m : Int) x → TReach g i x := by
    intro x hx
    induction hx with
    | kid hk' => exact .step (.kid hm) h2 hk'
    | step _ h3 hk' ih => exact .step ih h3 hk'
  unfold rk
  refine filter_lt' (a := m) (fun x _ hx => ?_) (by simp; omega) ?_ ?_
  · simp only [decide_eq_true_eq] at hx ⊢
    exact up _ hx
  · simp only [decide_eq_false_iff_not]
    exact hv.tup m (by omega) h2
  · simp only [decide_eq_true_eq]
    exact .kid hm
theorem rk_pos {g : List PNode} {root : Int} (hv : ValidG g root) {i k : Int} (hi : 0 ≤ i ∧ i < (g.length : Int)) (hm : k ∈ (nd g i).2.2) : 0 < rk g i := by
  have hk : Kidly g := fun n hn => (hv.node n hn).kidly
  have hki := reach_in hk hi (.kid hm)
  obtain ⟨m, rfl⟩ := Int.eq_ofNat_of_zero_le hki.1
  unfold rk
  refine List.length_pos_of_mem (a := m) ?_
  simp only [List.mem_filter, List.mem_range, decide_eq_true_eq]
  exact ⟨by omega, .kid hm⟩
/-- How many nodes that are no tuples are not in the memo. -/
def un (g : List PNode) (memo : List Int) : Nat := ((List.range g.length).filter (fun (i : Nat) => !((nd g (i : Int)).1 == 2) && decide (memo.getD i 0 < 0))).length
theorem un_le (g : List PNode) (memo : List Int) : un g memo ≤ g.length := by
  unfold un
  have := List.length_filter_le (fun (i : Nat) => !((nd g (i : Int)).1 == 2) && decide (memo.getD i 0 < 0)) (List.range g.length)
  simpa using this
theorem getD_set_eq {α : Type} {l : List α} {i : Nat} {x d : α} (h : i < l.length) : (l.set i x).getD i d = x := by
  rw [List.getD_eq_getElem?_getD, List.getElem?_set_self h]; rfl
theorem un_set {g : List PNode} {memo : List Int} {i : Nat} {v : Int} (hi : i < memo.length) (hv : 0 ≤ v) : un g (memo.set i v) ≤ un g memo := by
  unfold un
  refine filter_lt fun x _ hx => ?_
  simp only [Bool.and_eq_true, decide_eq_true_eq] at hx ⊢
  by_cases e : x = i
  · subst e; rw [getD_set_eq hi] at hx; omega
  · rw [getD_set_ne e] at hx; exact hx
theorem un_set' {g : List PNode} {memo : List Int} {i : Nat} {v : Int} (hi : i < memo.length) (hg : i < g.length) (hv : 0 ≤ v) (h2 : (nd g (i : Int)).1 ≠ 2) (hm : memo.getD i 0 < 0) : un g (memo.set i v) < un g memo := by
  unfold un
  refine filter_lt' (a := i) (fun x _ hx => ?_) (by simpa using hg) ?_ ?_
  · simp only [Bool.and_eq_true, decide_eq_true_eq] at hx ⊢
    by_cases e : x = i
    · subst e; rw [getD_set_eq hi] at hx; omega
    · rw [getD_set_ne e] at hx; exact hx
  · rw [getD_set_eq hi]
    simp; intro _; omega
  · simp only [Bool.and_eq_true, Bool.not_eq_true', beq_eq_false_iff_ne, ne_eq, decide_eq_true_eq]
    exact ⟨h2, hm⟩
theorem emit_tot {a b : List (Int × Int)} (h : a.length + b.length ≤ 540000000000) : Tot (fun σ => F_s_emit (σ 0) a b) (fun r => r = ((a ++ b, ()), ())) := by
  refine tot_s_emit ?_
  unfold B_s_emit
  simp only [tot_chk, tot_some, room_iff, List.length_nil, and_true]
  omega
theorem memoed_tot {ops : List (Int × Int)} {memo : List Int} {at2 : Nat} (hm : memo.length ≤ 1000) (ho : ops.length ≤ 530000000000) (ha : at2 < memo.length) :
    Tot (fun σ => F_s_memoed (σ 0) ops memo at2) (fun r => ∃ n : Int, 0 ≤ n ∧ r = ((ops ++ [(15, n)], memo.set at2 n, ()), ())) := by
  refine tot_s_memoed ?_
  unfold B_s_memoed
  have key := loop_s_memoed_L1 (Q := fun _ _ _ _ _ r => ∃ n : Int, 0 ≤ n ∧ r = ((ops ++ [(15, n)], memo.set at2 n, ()), ())) (I := fun o m a n i => o = ops ∧ m = memo ∧ a = (at2 : Int) ∧ ∃ j : Nat, i = j ∧ j ≤ memo.length ∧ 0 ≤ n ∧ n ≤ i) (μ := fun _ _ _ _ i => (memo.length - i).toNat) ?_
  · exact key ops memo at2 0 0 ⟨rfl, rfl, rfl, 0, rfl, by omega, by omega, by omega⟩
  intro o m a n i ⟨e1, e2, e3, j, e4, hj, h0, h1⟩ again hag ih
  subst e1 e2 e3 e4
  unfold B_s_memoed_L1b B_s_memoed_J0
  simp only [tot_cond, tot_chk, tot_jn, decide_eq_true_eq, decide_eq_false_iff_not, len, inb_iff]
  have wj : w64 ((j : Int) + 1) = ((j + 1 : Nat) : Int) := w64_succ (by omega) (by omega)
  have wn : w64 (n + 1) = n + 1 := w64_id (by omega) (by omega)
  rw [wj, wn]
  refine ⟨fun hlt => ⟨by omega, fun _ => ?_, fun _ => ?_⟩, fun hge => ?_⟩
  · exact ih o m at2 (n + 1) _ ⟨rfl, rfl, rfl, j + 1, rfl, by omega, by omega, by omega⟩ (by omega)
  · exact ih o m at2 n _ ⟨rfl, rfl, rfl, j + 1, rfl, by omega, by omega, by omega⟩ (by omega)
  · refine (copyInts_tot' (by omega)).bind ?_
    rintro _ rfl
    simp only [tot_chk, inb_iff, decide_eq_true_eq, Int.toNat_natCast]
    refine ⟨by omega, ha, (emit_tot (by simp only [List.length_cons, List.length_nil]; omega)).bind ?_⟩
    rintro _ rfl
    rw [tot_some]
    exact ⟨n, h0, rfl⟩
def GG : Nat → Nat
  | 0 => 2
  | r + 1 => 6 * GG r + 3
theorem GG_12 : GG 12 = 5659634073 := by decide
theorem GG_le : ∀ r, 2 ≤ GG r
  | 0 => by decide
  | r + 1 => by have := GG_le r; simp only [GG]; omega
/-- What a writing leaves. -/
def Wr (g : List PNode) (ops : List (Int × Int)) (memo : List Int) (c : Nat) (r : (List (Int × Int) × List Int × Unit) × Unit) : Prop :=
  ∃ ops' memo', r = ((ops', memo', ()), ()) ∧ memo'.length = g.length ∧ un g memo' ≤ un g memo ∧ ops'.length + 33957804446 * un g memo' ≤ ops.length + c + 33957804446 * un g memo
def SaveOk (g : List PNode) (root level : Int) (u r c : Nat) (at2 : Int) : Prop :=
  ∀ (ops : List (Int × Int)) (memo : List Int), memo.length = g.length → un g memo ≤ u → ops.length + c + 33957804446 * un g memo ≤ 500000000000 → Tot (fun σ => F_s_save (σ 0) g root level at2 ops memo) (Wr g ops memo c)
theorem saveAll_tot {g : List PNode} {root level : Int} {u r c : Nat} {list : List Int} (hl : list.length ≤ 6) (hS : ∀ x ∈ list, SaveOk g root level u r c x) {ops : List (Int × Int)} {memo : List Int} (hm : memo.length = g.length) (hu : un g memo ≤ u)
    (hb : ops.length + list.length * c + 33957804446 * un g memo ≤ 500000000000) : Tot (fun σ => F_Z70 (σ 0) g root level list ops memo) (Wr g ops memo (list.length * c)) := by
  refine tot_Z70 ?_
  unfold B_Z70
  have key := loop_Z70_L0 (Q := fun _ _ _ _ _ _ _ r => Wr g ops memo (list.length * c) r)
    (I := fun l' list' o m g' r' i => l' = level ∧ list' = list ∧ g' = g ∧ r' = root ∧ ∃ j : Nat, i = j ∧ j ≤ list.length ∧ m.length = g.length ∧ un g m ≤ un g memo ∧ o.length + 33957804446 * un g m ≤ ops.length + j * c + 33957804446 * un g memo) (μ := fun _ _ _ _ _ _ i => (list.length - i).toNat) ?_
  · exact key level list ops memo g root 0 ⟨rfl, rfl, rfl, rfl, 0, rfl, by omega, hm, Nat.le_refl _, by omega⟩
  intro l' list' o m g' r' i ⟨e1, e2, e3, e4, j, e5, hj, hml, hmu, hmo⟩ again hag ih
  subst e1 e2 e3 e4 e5
  unfold B_Z70_L0b
  simp only [tot_cond, tot_chk, tot_some, decide_eq_true_eq, decide_eq_false_iff_not, len, inb_iff]
  refine ⟨fun hlt => ⟨by omega, ?_⟩, fun hge => ?_⟩
  · have hjl : j + 1 ≤ list'.length := by omega
    have hmul : (j + 1) * c ≤ list'.length * c := Nat.mul_le_mul_right _ hjl
    rw [Nat.add_mul, Nat.one_mul] at hmul
    refine (hS _ (rdx_mem (by omega) hlt) o m hml (by omega) (by omega)).bind ?_
    rintro _ ⟨o2, m2, rfl, k1, k2, k3⟩
    rw [w64_succ (by omega) (by omega)]
    refine ih l' list' o2 m2 g' r' _ ⟨rfl, rfl, rfl, rfl, j + 1, rfl, by omega, k1, by omega, ?_⟩ (by simp; omega)
    rw [Nat.add_mul, Nat.one_mul]
    omega
  · have : j = list'.length := by omega
    subst this
    exact ⟨o, m, rfl, hml, hmu, hmo⟩
end Go.Gx

/-
  Laws, part 12: to write a valid graph comes to an end.
-/
set_option linter.unusedVariables false
set_option linter.unusedSimpArgs false
namespace Go.Gx
theorem sub_len' {α : Type} {l : List α} {a b : Nat} (h : a ≤ b) (hb : b ≤ l.length) : (sub l (a : Int) (b : Int)).length = b - a := by
  simp only [sub, Int.toNat_natCast, List.length_drop, List.length_take]; omega
theorem sub_mem {α : Type} {l : List α} {a b : Int} {x : α} (h : x ∈ sub l a b) : x ∈ l := List.mem_of_mem_take (List.mem_of_mem_drop h)
theorem fill_tot {g : List PNode} {root level : Int} {u c : Nat} {kids : List Int} (hl : kids.length ≤ 6) (hS : ∀ x ∈ kids, SaveOk g root level u 0 c x) {each one all : Int} (he : each = 1 ∨ each = 2 ∧ kids.length % 2 = 0) {ops : List (Int × Int)} {memo : List Int} (hm : memo.length = g.length) (hu : un g memo ≤ u)
    (hb : ops.length + (6 * c + 6) + 33957804446 * un g memo ≤ 500000000000) : Tot (fun σ => F_s_fill (σ 0) g root level kids each one all ops memo) (Wr g ops memo (6 * c + 6)) := by
  refine tot_s_fill ?_
  unfold B_s_fill
  have hkc : kids.length * c ≤ 6 * c := Nat.mul_le_mul_right _ hl
  have j0 : ∀ b : Bool, Tot (fun σ => B_s_fill_J0 (σ 0) (F_s_emit (σ 0)) (F_Z70 (σ 0)) level kids each one all ops memo g root b) (Wr g ops memo (6 * c + 6)) := by
    intro b
    unfold B_s_fill_J0
    rw [tot_cond]
    refine ⟨fun _ => ?_, fun _ => ?_⟩
    · refine (emit_tot (by simp only [List.length_cons, List.length_nil]; omega)).bind ?_
      rintro _ rfl
      refine (saveAll_tot hl hS hm hu (by simp only [List.length_append, List.length_cons, List.length_nil]; omega)).bind ?_
      rintro _ ⟨o2, m2, rfl, k1, k2, k3⟩
      simp only [List.length_append, List.length_cons, List.length_nil] at k3
      refine (emit_tot (by simp only [List.length_cons, List.length_nil]; omega)).bind ?_
      rintro _ rfl
      rw [tot_some]
      exact ⟨_, _, rfl, k1, k2, by simp only [List.length_append, List.length_cons, List.length_nil]; omega⟩
    · have key := loop_s_fill_L1 (Q := fun _ _ _ _ _ _ _ _ _ r => Wr g ops memo (6 * c + 6) r)
        (I := fun l' kids' each' one' o m g' r' i => l' = level ∧ kids' = kids ∧ each' = each ∧ one' = one ∧ g' = g ∧ r' = root ∧ ∃ j : Nat, i = j ∧ j ≤ kids.length ∧ (each = 2 → j % 2 = 0) ∧ m.length = g.length ∧ un g m ≤ un g memo ∧ o.length + 33957804446 * un g m ≤ ops.length + (j * c + j) + 33957804446 * un g memo)
        (μ := fun _ _ _ _ _ _ _ _ i => (kids.length - i).toNat) ?_
      · exact key level kids each one ops memo g root 0 ⟨rfl, rfl, rfl, rfl, rfl, rfl, 0, rfl, by omega, fun _ => rfl, hm, Nat.le_refl _, by omega⟩
      intro l' kids' each' one' o m g' r' i ⟨e1, e2, e3, e4, e5, e6, j, e7, hj, hj2, hml, hmu, hmo⟩ again hag ih
      subst e1 e2 e3 e4 e5 e6 e7
      unfold B_s_fill_L1b
      simp only [tot_cond, tot_chk, tot_some, decide_eq_true_eq, decide_eq_false_iff_not, len, cutb_iff]
      refine ⟨fun hlt => ?_, fun hge => ?_⟩
      · obtain ⟨e, he', he1⟩ : ∃ e : Nat, each' = (e : Int) ∧ 1 ≤ e ∧ e ≤ 2 ∧ j + e ≤ kids'.length ∧ (each' = 2 → (j + e) % 2 = 0) := by
          rcases he with h | ⟨h, h2⟩
          · exact ⟨1, h, by omega, by omega, by omega, fun h' => by omega⟩
          · have := hj2 h; exact ⟨2, h, by omega, by omega, by omega, fun _ => by omega⟩
        subst he'
        have wj : w64 ((j : Int) + (e : Int)) = ((j + e : Nat) : Int) := by rw [w64_id (by omega) (by omega)]; omega
        simp only [wj]
        have hsl := sub_len' (l := kids') (a := j) (b := j + e) (by omega) (by omega)
        have hec : (j + e) * c ≤ kids'.length * c := Nat.mul_le_mul_right _ (by omega)
        rw [Nat.add_mul] at hec
        refine ⟨by omega, (saveAll_tot (list := sub kids' (j : Int) ((j + e : Nat) : Int)) (by omega) (fun x hx => hS x (sub_mem hx)) hml (by omega) (by rw [hsl, show j + e - j = e by omega]; omega)).bind ?_⟩
        rintro _ ⟨o2, m2, rfl, k1, k2, k3⟩
        rw [hsl, show j + e - j = e by omega] at k3
        refine (emit_tot (by simp only [List.length_cons, List.length_nil]; omega)).bind ?_
        rintro _ rfl
        refine ih l' kids' _ one' _ m2 g' r' _ ⟨rfl, rfl, rfl, rfl, rfl, rfl, j + e, rfl, by omega, he1.2.2.2, k1, by omega, ?_⟩ (by simp; omega)
        simp only [List.length_append, List.length_cons, List.length_nil]
        rw [Nat.add_mul]
        omega
      · have : j = kids'.length := by omega
        subst this
        exact ⟨o, m, rfl, hml, hmu, by omega⟩
  rw [tot_cond]
  refine ⟨fun _ => ?_, fun _ => ?_⟩
  · rw [tot_jn]; exact j0 _
  · rw [tot_jn]; exact j0 _
theorem saveTuple_tot {g : List PNode} {root level : Int} {u r : Nat} (hg : g.length ≤ 12) {at2 : Nat} (ha : at2 < g.length) (h6 : (nd g (at2 : Int)).2.2.length ≤ 6) (hr : (nd g (at2 : Int)).2.2 ≠ [] → ∃ r', r = r' + 1 ∧ ∀ x ∈ (nd g (at2 : Int)).2.2, SaveOk g root level u 0 (GG r') x)
    {ops : List (Int × Int)} {memo : List Int} (hm : memo.length = g.length) (hu : un g memo ≤ u) (hb : ops.length + GG r + 33957804446 * un g memo ≤ 500000000000) : Tot (fun σ => F_Z40 (σ 0) g root level at2 ops memo) (Wr g ops memo (GG r)) := by
  refine tot_Z40 ?_
  unfold B_Z40
  have hG := GG_le r
  rw [tot_chk]
  refine ⟨inb_iff.2 (by omega), ?_⟩
  generalize hk : (nd g (at2 : Int)).2.2 = kids at h6 hr
  have hk' : (rdx ((0 : Int), ((0 : Int), ([] : List Int))) g (at2 : Int)).2.2 = kids := hk
  simp only [hk']
  rw [tot_cond]
  refine ⟨fun _ => ?_, fun hne => ?_⟩
  · refine (emit_tot (by simp only [List.length_cons, List.length_nil]; omega)).bind ?_
    rintro _ rfl
    refine (memoed_tot (by omega) (by simp only [List.length_append, List.length_cons, List.length_nil]; omega) (by omega)).bind ?_
    rintro _ ⟨n, hn, rfl⟩
    rw [tot_some]
    have := un_set (g := g) (memo := memo) (i := at2) (v := n) (by omega) hn
    exact ⟨_, _, rfl, by simp [hm], this, by simp only [List.length_append, List.length_cons, List.length_nil]; omega⟩
  · have hne' : kids ≠ [] := by
      intro e; subst e; simp [len] at hne
    obtain ⟨r', rfl, hS⟩ := hr hne'
    have hGr : GG (r' + 1) = 6 * GG r' + 3 := rfl
    have hkc : kids.length * GG r' ≤ 6 * GG r' := Nat.mul_le_mul_right _ h6
    -- behind the kids
    have j1 : ∀ (o : List (Int × Int)) (short : Bool), o.length ≤ ops.length + 1 → (short = true → o.length = ops.length ∧ kids.length ≤ 2) → Tot (fun σ => B_Z40_J1 (σ 0) (F_s_emit (σ 0)) (F_s_memoed (σ 0)) (F_Z70 (σ 0)) level at2 o memo g root kids short) (Wr g ops memo (GG (r' + 1))) := by
      intro o short ho hsh
      unfold B_Z40_J1
      refine (saveAll_tot h6 hS hm hu (by omega)).bind ?_
      rintro _ ⟨o2, m2, rfl, k1, k2, k3⟩
      rw [tot_chk]
      refine ⟨inb_iff.2 (by simp only []; omega), ?_⟩
      -- the tuple is made
      have j5 : ∀ c : Int, Tot (fun σ => B_Z40_J5 (σ 0) (F_s_emit (σ 0)) (F_s_memoed (σ 0)) (F_Z70 (σ 0)) at2 o2 m2 c) (Wr g ops memo (GG (r' + 1))) := by
        intro c
        unfold B_Z40_J5
        refine (emit_tot (by simp only [List.length_cons, List.length_nil]; omega)).bind ?_
        rintro _ rfl
        refine (memoed_tot (by omega) (by simp only [List.length_append, List.length_cons, List.length_nil]; omega) (by omega)).bind ?_
        rintro _ ⟨n, hn, rfl⟩
        rw [tot_some]
        have := un_set (g := g) (memo := m2) (i := at2) (v := n) (by omega) hn
        exact ⟨o2 ++ [(c, 0)] ++ [(15, n)], m2.set at2 n, rfl, by simp [k1], by omega, by simp only [List.length_append, List.length_cons, List.length_nil]; omega⟩
      -- it was there
      have j4 : ∀ o3 : List (Int × Int), o3.length + 33957804446 * un g m2 + 1 ≤ ops.length + GG (r' + 1) + 33957804446 * un g memo → Tot (fun σ => B_Z40_J4 (σ 0) (F_s_emit (σ 0)) (F_s_memoed (σ 0)) (F_Z70 (σ 0)) at2 o3 m2) (Wr g ops memo (GG (r' + 1))) := by
        intro o3 h3
        unfold B_Z40_J4
        rw [tot_chk]
        refine ⟨inb_iff.2 (by omega), (emit_tot (by simp only [List.length_cons, List.length_nil]; omega)).bind ?_⟩
        rintro _ rfl
        rw [tot_some]
        exact ⟨_, _, rfl, k1, k2, by simp only [List.length_append, List.length_cons, List.length_nil]; omega⟩
      rw [tot_cond]
      refine ⟨fun _ => ?_, fun _ => ?_⟩
      · have key := loop_Z40_L3 (Q := fun _ _ _ _ _ _ r => Wr g ops memo (GG (r' + 1)) r) (I := fun a o3 m3 kd sh i => a = (at2 : Int) ∧ m3 = m2 ∧ kd = kids ∧ sh = short ∧ ∃ j : Nat, i = j ∧ j ≤ kids.length ∧ (short = true → o3.length = o2.length + j) ∧ (short = false → o3.length = o2.length)) (μ := fun _ _ _ _ _ i => (kids.length - i).toNat) ?_
        · exact key at2 o2 m2 kids short 0 ⟨rfl, rfl, rfl, rfl, 0, rfl, by omega, fun _ => rfl, fun _ => rfl⟩
        intro a o3 m3 kd sh i ⟨e1, e2, e3, e4, j, e5, hj, hs1, hs2⟩ again hag ih
        subst e1 e2 e3 e4 e5
        unfold B_Z40_L3b B_Z40_J2
        simp only [tot_cond, tot_jn, decide_eq_true_eq, decide_eq_false_iff_not, len, Bool.not_eq_true', Bool.not_eq_false']
        cases sh with
        | true =>
          have h1 := hs1 rfl
          have h2 := hsh rfl
          refine ⟨fun hlt => ⟨fun _ => ?_, fun h => absurd h (by decide)⟩, fun hge => ⟨fun h => absurd h (by decide), fun _ => ⟨fun h => absurd h (by decide), fun _ => j4 o3 (by omega)⟩⟩⟩
          refine (emit_tot (by simp only [List.length_cons, List.length_nil]; omega)).bind ?_
          rintro _ rfl
          rw [w64_succ (by omega) (by omega)]
          refine ih _ _ _ _ _ _ ⟨rfl, rfl, rfl, rfl, j + 1, rfl, by omega, fun _ => ?_, fun h => absurd h (by decide)⟩ (by simp; omega)
          simp only [List.length_append, List.length_cons, List.length_nil]; omega
        | false =>
          have h1 := hs2 rfl
          have fin : Tot (fun σ => (F_s_emit (σ 0) o3 [(18, 0)]).bind fun r79 => jn (fun t => B_Z40_J4 (σ 0) (F_s_emit (σ 0)) (F_s_memoed (σ 0)) (F_Z70 (σ 0)) t.1 t.2.1 t.2.2.1) ((at2 : Int), r79.1.1, m3, ())) (Wr g ops memo (GG (r' + 1))) := by
            refine (emit_tot (by simp only [List.length_cons, List.length_nil]; omega)).bind ?_
            rintro _ rfl
            rw [tot_jn]
            exact j4 _ (by simp only [List.length_append, List.length_cons, List.length_nil]; omega)
          exact ⟨fun hlt => ⟨fun h => absurd h (by decide), fun _ => ⟨fun _ => fin, fun h => absurd h (by decide)⟩⟩, fun hge => ⟨fun h => absurd h (by decide), fun _ => ⟨fun _ => fin, fun h => absurd h (by decide)⟩⟩⟩
      · rw [tot_cond]
        refine ⟨fun _ => ?_, fun _ => ?_⟩
        · rw [tot_jn]; exact j5 _
        · rw [tot_jn]; exact j5 _
    have j0 : ∀ (short : Bool), (short = true → kids.length ≤ 2) → Tot (fun σ => B_Z40_J0 (σ 0) (F_s_emit (σ 0)) (F_s_memoed (σ 0)) (F_Z70 (σ 0)) level at2 ops memo g root kids short) (Wr g ops memo (GG (r' + 1))) := by
      intro short hsh
      unfold B_Z40_J0
      rw [tot_cond]
      refine ⟨fun hs => ?_, fun hs => ?_⟩
      · refine (emit_tot (by simp only [List.length_cons, List.length_nil]; omega)).bind ?_
        rintro _ rfl
        rw [tot_jn]
        exact j1 _ short (by simp) (fun h => by rw [h] at hs; cases hs)
      · rw [tot_jn]
        have : short = true := by simpa using hs
        exact j1 ops short (by omega) (fun h => ⟨rfl, hsh h⟩)
    rw [tot_cond]
    refine ⟨fun _ => ?_, fun _ => ?_⟩
    · rw [tot_jn]
      exact j0 _ (fun h => by simp only [decide_eq_true_eq, len] at h; omega)
    · rw [tot_jn]
      exact j0 false (fun h => absurd h (by decide))
theorem SaveOk.mono {g : List PNode} {root level : Int} {u r r2 c c2 : Nat} {x : Int} (h : SaveOk g root level u r c x) (hc : c ≤ c2) : SaveOk g root level u r2 c2 x := by
  intro ops memo h1 h2 h3
  refine (h ops memo h1 h2 (by omega)).mono ?_
  rintro _ ⟨o, m, rfl, k1, k2, k3⟩
  exact ⟨o, m, rfl, k1, k2, by omega⟩
theorem save_tot {g : List PNode} {root level : Int} (hv : ValidG g root) : ∀ (u r : Nat), r ≤ 12 → ∀ at2 : Nat, at2 < g.length → ((nd g (at2 : Int)).1 = 2 → rk g (at2 : Int) ≤ r) → SaveOk g root level u 0 (GG r) (at2 : Int) := by
  have hk : Kidly g := fun n hn => (hv.node n hn).kidly
  have hg := hv.most
  intro u
  induction u using Nat.strongRecOn with
  | _ u ihu =>
  intro r
  induction r using Nat.strongRecOn with
  | _ r ihr =>
  intro hr12 at2 ha hrk ops memo hm hu hb
  have hG := GG_le r
  have hG12 := GG_12
  have hin : 0 ≤ (at2 : Int) ∧ (at2 : Int) < (g.length : Int) := by omega
  have hnode := hv.node _ (nd_mem hin.1 hin.2)
  refine tot_s_save ?_
  unfold B_s_save
  simp only [tot_chk]
  refine ⟨inb_iff.2 (by omega), inb_iff.2 (by omega), ?_⟩
  have hrd : rdx (0 : Int) memo (at2 : Int) = memo.getD at2 0 := by rw [rdx_eq, Int.toNat_natCast]
  have hndd : rdx ((0 : Int), ((0 : Int), ([] : List Int))) g (at2 : Int) = nd g (at2 : Int) := rfl
  rw [hrd, hndd]
  rw [tot_cond]
  refine ⟨fun _ => ?_, fun hneg => ?_⟩
  · rw [tot_chk]
    refine ⟨inb_iff.2 (by omega), (emit_tot (by simp only [List.length_cons, List.length_nil]; omega)).bind ?_⟩
    rintro _ rfl
    rw [tot_some]
    exact ⟨_, memo, rfl, hm, Nat.le_refl _, by simp only [List.length_append, List.length_cons, List.length_nil]; omega⟩
  have hneg : memo.getD at2 0 < 0 := by simpa using hneg
  -- it gets into the memo
  have mem : ∀ (o : List (Int × Int)), o.length ≤ 520000000000 → (nd g (at2 : Int)).1 ≠ 2 → Tot (fun σ => F_s_memoed (σ 0) o memo at2) (fun r => ∃ n : Int, r = ((o ++ [(15, n)], memo.set at2 n, ()), ()) ∧ un g (memo.set at2 n) < un g memo ∧ (memo.set at2 n).length = g.length) := by
    intro o ho h2
    refine (memoed_tot (by omega) (by omega) (by omega)).mono ?_
    rintro _ ⟨n, hn, rfl⟩
    exact ⟨n, rfl, un_set' (by omega) ha hn h2 hneg, by simp [hm]⟩
  -- all kids, when it is there
  have kids12 : ∀ u1, u1 < u → ∀ x ∈ (nd g (at2 : Int)).2.2, SaveOk g root level u1 0 (GG 12) x := by
    intro u1 hu1 x hx
    have hx' := hnode.2.1 x hx
    obtain ⟨m, rfl⟩ := Int.eq_ofNat_of_zero_le hx'.1
    exact ihu u1 hu1 12 (Nat.le_refl _) m (by omega) (fun _ => Nat.le_trans (rk_le g _) hg)
  rw [tot_cond]
  simp only [beq_iff_eq, beq_eq_false_iff_ne, ne_eq]
  refine ⟨fun h0 => ?_, fun h0 => ?_⟩
  · refine (emit_tot (by simp only [List.length_cons, List.length_nil]; omega)).bind ?_
    rintro _ rfl
    rw [tot_some]
    exact ⟨_, memo, rfl, hm, Nat.le_refl _, by simp only [List.length_append, List.length_cons, List.length_nil]; omega⟩
  rw [tot_cond]
  simp only [beq_iff_eq, beq_eq_false_iff_ne, ne_eq]
  refine ⟨fun h1 => ?_, fun h1 => ?_⟩
  · refine (emit_tot (by simp only [List.length_cons, List.length_nil]; omega)).bind ?_
    rintro _ rfl
    refine (mem _ (by simp only [List.length_append, List.length_cons, List.length_nil]; omega) (by omega)).bind ?_
    rintro _ ⟨n, rfl, k1, k2⟩
    rw [tot_some]
    exact ⟨_, memo.set at2 n, rfl, k2, by omega, by simp only [List.length_append, List.length_cons, List.length_nil]; omega⟩
  rw [tot_cond]
  simp only [beq_iff_eq, beq_eq_false_iff_ne, ne_eq]
  refine ⟨fun h2 => ?_, fun h2 => ?_⟩
  · have hrk := hrk h2
    refine (saveTuple_tot (u := u) (r := r) hg ha hnode.1 (fun hne => ?_) hm hu hb).bind ?_
    · obtain ⟨x, hx⟩ := List.exists_mem_of_ne_nil _ hne
      have hpos := rk_pos hv hin hx
      refine ⟨r - 1, by omega, fun y hy => ?_⟩
      have hy' := hnode.2.1 y hy
      obtain ⟨m, rfl⟩ := Int.eq_ofNat_of_zero_le hy'.1
      exact ihr (r - 1) (by omega) (by omega) m (by omega) (fun hk2 => by have := rk_lt hv hin hy hk2; omega)
    · rintro _ ⟨o, m, rfl, k1, k2, k3⟩
      rw [tot_some]
      exact ⟨o, m, rfl, k1, k2, k3⟩
  -- a list, a dictionary, an object
  have filled : ∀ (o : List (Int × Int)) (n each one all : Int), o.length ≤ ops.length + 2 → un g (memo.set at2 n) < un g memo → (memo.set at2 n).length = g.length → (each = 1 ∨ each = 2 ∧ (nd g (at2 : Int)).2.2.length % 2 = 0) →
      Tot (fun σ => (F_s_fill (σ 0) g root level (nd g (at2 : Int)).2.2 each one all o (memo.set at2 n)).bind fun r84 => some ((r84.1.1, r84.1.2.1, ()), ())) (Wr g ops memo (GG r)) := by
    intro o n each one all ho k1 k2 he
    refine (fill_tot (u := u - 1) (c := GG 12) hnode.1 (kids12 (u - 1) (by omega)) he k2 (by omega) (by omega)).bind ?_
    rintro _ ⟨o2, m2, rfl, q1, q2, q3⟩
    rw [tot_some]
    exact ⟨o2, m2, rfl, q1, by omega, by omega⟩
  rw [tot_cond]
  simp only [beq_iff_eq, beq_eq_false_iff_ne, ne_eq]
  refine ⟨fun h3 => ?_, fun h3 => ?_⟩
  · refine (emit_tot (by simp only [List.length_cons, List.length_nil]; omega)).bind ?_
    rintro _ rfl
    refine (mem _ (by simp only [List.length_append, List.length_cons, List.length_nil]; omega) h2).bind ?_
    rintro _ ⟨n, rfl, k1, k2⟩
    exact filled _ n 1 8 9 (by simp) k1 k2 (.inl rfl)
  rw [tot_cond]
  simp only [beq_iff_eq, beq_eq_false_iff_ne, ne_eq]
  refine ⟨fun h4 => ?_, fun h4 => ?_⟩
  · have hd : (nd g (at2 : Int)).2.2.length % 2 = 0 := by
      have := hnode.2.2
      rw [if_neg h0, if_neg h1, if_neg (by simp [h2, h3]), if_pos h4] at this
      exact this.2.2
    refine (emit_tot (by simp only [List.length_cons, List.length_nil]; omega)).bind ?_
    rintro _ rfl
    refine (mem _ (by simp only [List.length_append, List.length_cons, List.length_nil]; omega) h2).bind ?_
    rintro _ ⟨n, rfl, k1, k2⟩
    exact filled _ n 2 11 12 (by simp) k1 k2 (.inr ⟨rfl, hd⟩)
  · refine (emit_tot (by simp only [List.length_cons, List.length_nil]; omega)).bind ?_
    rintro _ rfl
    refine (mem _ (by simp only [List.length_append, List.length_cons, List.length_nil]; omega) h2).bind ?_
    rintro _ ⟨n, rfl, k1, k2⟩
    have hkc : (nd g (at2 : Int)).2.2.length * GG 12 ≤ 6 * GG 12 := Nat.mul_le_mul_right _ hnode.1
    refine (saveAll_tot (u := u - 1) hnode.1 (kids12 (u - 1) (by omega)) k2 (by omega) (by simp only [List.length_append, List.length_cons, List.length_nil]; omega)).bind ?_
    rintro _ ⟨o2, m2, rfl, q1, q2, q3⟩
    simp only [List.length_append, List.length_cons, List.length_nil] at q3
    unfold B_s_save_J0
    rw [tot_cond]
    refine ⟨fun _ => ?_, fun _ => ?_⟩
    · refine (emit_tot (by simp only [List.length_cons, List.length_nil]; omega)).bind ?_
      rintro _ rfl
      rw [tot_jn, tot_some]
      exact ⟨_, m2, rfl, q1, by omega, by simp only [List.length_append, List.length_cons, List.length_nil]; omega⟩
    · rw [tot_jn, tot_some]
      exact ⟨o2, m2, rfl, q1, by omega, by omega⟩
theorem emptyMemo_tot {g : List PNode} {root : Int} (hg : g.length ≤ 1000) : Tot (fun σ => F_Z36 (σ 0) g root) (fun r => r = ((List.replicate g.length (-1), ()), ())) := by
  refine tot_Z36 ?_
  unfold B_Z36
  have key := loop_Z36_L0 (Q := fun _ _ _ _ r => r = ((List.replicate g.length (-1), ()), ())) (I := fun g' _ o i => g' = g ∧ ∃ j : Nat, i = j ∧ j ≤ g.length ∧ o = List.replicate j (-1)) (μ := fun _ _ _ i => (g.length - i).toNat) ?_
  · exact key g root [] 0 ⟨rfl, 0, rfl, by omega, rfl⟩
  intro g' r' o i ⟨e1, j, e2, hj, e3⟩ again hag ih
  subst e1 e2 e3
  unfold B_Z36_L0b
  simp only [tot_cond, tot_chk, tot_some, decide_eq_true_eq, decide_eq_false_iff_not, len, room_iff, List.length_replicate, List.length_cons, List.length_nil]
  refine ⟨fun hlt => ⟨by omega, ?_⟩, fun hge => ?_⟩
  · rw [w64_succ (by omega) (by omega)]
    exact ih _ _ _ _ ⟨rfl, j + 1, rfl, by omega, by rw [List.replicate_succ']⟩ (by simp; omega)
  · have : j = g'.length := by omega
    rw [this]
theorem written_tot {g : List PNode} {root : Int} (hv : ValidG g root) (level : Int) : Tot (fun σ => F_Z67 (σ 0) g root level) (fun r => ∃ ops : List (Int × Int), r = ((ops, ()), ()) ∧ ops.length ≤ 500000000000) := by
  have hg := hv.most
  refine tot_Z67 ?_
  unfold B_Z67
  refine (emptyMemo_tot (by omega)).bind ?_
  rintro _ rfl
  obtain ⟨m, hm⟩ := Int.eq_ofNat_of_zero_le hv.root.1
  have hroot := hv.root
  subst hm
  have hun := un_le g (List.replicate g.length (-1))
  have hG := GG_12
  refine (save_tot hv g.length 12 (Nat.le_refl _) m (by omega) (fun _ => Nat.le_trans (rk_le g _) hg) [] _ (by simp) hun (by simp only [List.length_nil]; omega)).bind ?_
  rintro _ ⟨o, m2, rfl, k1, k2, k3⟩
  simp only [List.length_nil] at k3
  refine (emit_tot (by simp only [List.length_cons, List.length_nil]; omega)).bind ?_
  rintro _ rfl
  rw [tot_some]
  exact ⟨_, rfl, by simp only [List.length_append, List.length_cons, List.length_nil]; omega⟩
end Go.Gx

/-
  Laws, part 13: programs and bytes that are drawn.
-/
set_option linter.unusedVariables false
set_option linter.unusedSimpArgs false
namespace Go.Gx
theorem someOps_tot {b : List Int} {p : Int} (h : RD b p) (hp : p ≤ 90000000) : Tot (fun σ => F_Z61 (σ 0) b p) (Drawn b p 2000 fun x => ∃ ops : List POp, x = (ops, ()) ∧ ops.length ≤ 500000000000) := by
  refine tot_Z61 ?_
  unfold B_Z61
  have fin : ∀ (q : Int) (o : List POp), p ≤ q → q ≤ p + 2000 → o.length ≤ 500000000000 → Drawn b p 2000 (fun x => ∃ ops : List POp, x = (ops, ()) ∧ ops.length ≤ 500000000000) ((o, ()), ((b, q, ()), ())) := fun q o h1 h2 h3 => ⟨_, q, rfl, h1, h2, o, rfl, h3⟩
  have j2 : ∀ (q : Int) (o : List POp), p ≤ q → q ≤ p + 1900 → o.length ≤ 500000000000 → Tot (fun σ => B_Z61_J2 (σ 0) (F_Z15 (σ 0)) (F_Z45 (σ 0)) (F_Z41 (σ 0)) (F_Z67 (σ 0)) (F_s_someOp (σ 0)) (F_Z30 (σ 0)) b q o) (Drawn b p 2000 fun x => ∃ ops : List POp, x = (ops, ()) ∧ ops.length ≤ 500000000000) := by
    intro q o h1 h2 h3
    have hq := h.next h1 (by omega)
    unfold B_Z61_J2
    rw [tot_cond]
    simp only [decide_eq_true_eq, decide_eq_false_iff_not, len]
    refine ⟨fun hlt => ?_, fun _ => by rw [tot_some]; exact fin q o h1 (by omega) h3⟩
    refine (pick_tot hq (by omega) (by omega)).bind ?_
    rintro _ ⟨_, q2, rfl, k1, k2, v, rfl, k3, k4⟩
    rw [tot_cond]
    refine ⟨fun _ => ?_, fun _ => ?_⟩
    · refine (one_tot (hq.next k1 (by omega)) (by omega) (by simp) (by simp)).bind ?_
      rintro _ ⟨_, q3, rfl, f1, f2, u, rfl, hu⟩
      simp only [tot_chk, tot_some, inb_iff, decide_eq_true_eq]
      exact ⟨by omega, by simp; omega, fin q3 _ (by omega) (by omega) (by simpa using h3)⟩
    · rw [tot_cond]
      refine ⟨fun _ => ?_, fun _ => by rw [tot_some]; exact fin q2 o (by omega) (by omega) h3⟩
      refine (one_tot (hq.next k1 (by omega)) (by omega) (by simp) (by simp)).bind ?_
      rintro _ ⟨_, q3, rfl, f1, f2, u, rfl, hu⟩
      have w : w64 ((o.length : Int) - 1) = (o.length : Int) - 1 := w64_id (by omega) (by omega)
      simp only [tot_chk, tot_some, inb_iff, decide_eq_true_eq, w]
      exact ⟨by omega, by omega, fin q3 _ (by omega) (by omega) (by simpa using h3)⟩
  have j1 : ∀ (q : Int) (o : List POp), p ≤ q → q ≤ p + 1800 → o.length ≤ 500000000000 → Tot (fun σ => B_Z61_J1 (σ 0) (F_Z15 (σ 0)) (F_Z45 (σ 0)) (F_Z41 (σ 0)) (F_Z67 (σ 0)) (F_s_someOp (σ 0)) (F_Z30 (σ 0)) b q o) (Drawn b p 2000 fun x => ∃ ops : List POp, x = (ops, ()) ∧ ops.length ≤ 500000000000) := by
    intro q o h1 h2 h3
    have hq := h.next h1 (by omega)
    unfold B_Z61_J1
    refine (pick_tot hq (by omega) (by omega)).bind ?_
    rintro _ ⟨_, q2, rfl, k1, k2, v, rfl, k3, k4⟩
    rw [tot_cond]
    refine ⟨fun _ => ?_, fun _ => by rw [tot_jn]; exact j2 q2 o (by omega) (by omega) h3⟩
    have w : w64 (len o + 1) = (o.length : Int) + 1 := by rw [w64_id] <;> simp only [len] <;> omega
    rw [w]
    refine (pick_tot (hq.next k1 (by omega)) (by omega) (by omega)).bind ?_
    rintro _ ⟨_, q3, rfl, f1, f2, u, rfl, f3, f4⟩
    have f4 := f4 (by omega)
    rw [tot_chk]
    refine ⟨cutb_iff.2 ⟨Int.le_refl _, f3, by show u ≤ (o.length : Int); omega⟩, ?_⟩
    rw [tot_jn]
    exact j2 q3 (o.take u.toNat) (by omega) (by omega) (by simp only [List.length_take]; omega)
  refine (pick_tot h (by omega) (by omega)).bind ?_
  rintro _ ⟨_, q, rfl, h1, h2, v, rfl, h3, h4⟩
  have hq := h.next h1 (by omega)
  rw [tot_cond]
  refine ⟨fun _ => ?_, fun _ => ?_⟩
  · refine (likelyOps_tot hq (by omega)).bind ?_
    rintro _ ⟨_, q2, rfl, k1, k2, o, rfl, ho, _⟩
    rw [tot_jn]
    exact j2 q2 o (by omega) (by omega) (by omega)
  · refine (someGraph_tot hq (by omega)).bind ?_
    rintro _ ⟨_, q2, rfl, k1, k2, g, root, rfl, hv⟩
    have hq2 := hq.next k1 (by omega)
    refine (pick_tot hq2 (by omega) (by omega)).bind ?_
    rintro _ ⟨_, q3, rfl, f1, f2, u, rfl, f3, f4⟩
    have hq3 := hq2.next f1 (by omega)
    refine (written_tot hv u).bind ?_
    rintro _ ⟨o, rfl, ho⟩
    refine (pick_tot hq3 (by omega) (by omega)).bind ?_
    rintro _ ⟨_, q4, rfl, m1, m2, u2, rfl, m3, m4⟩
    have hq4 := hq3.next m1 (by omega)
    have j0 : ∀ t : Bool, (t = true → 0 < o.length) → Tot (fun σ => B_Z61_J0 (σ 0) (F_Z15 (σ 0)) (F_Z45 (σ 0)) (F_Z41 (σ 0)) (F_Z67 (σ 0)) (F_s_someOp (σ 0)) (F_Z30 (σ 0)) b q4 o t) (Drawn b p 2000 fun x => ∃ ops : List POp, x = (ops, ()) ∧ ops.length ≤ 500000000000) := by
      intro t ht
      unfold B_Z61_J0
      rw [tot_cond]
      refine ⟨fun hb => ?_, fun _ => by rw [tot_jn]; exact j1 q4 o (by omega) (by omega) ho⟩
      have hpos := ht hb
      refine (pick_tot hq4 (by omega) (by simp only [len]; omega)).bind ?_
      rintro _ ⟨_, q5, rfl, n1, n2, w, rfl, n3, n4⟩
      have n4 := n4 (by simp only [len]; omega)
      simp only [len] at n4
      refine (someOp_tot (hq4.next n1 (by omega)) (by omega)).bind ?_
      rintro _ ⟨_, q6, rfl, l1, l2, c, a, rfl, _⟩
      simp only [tot_chk, inb_iff, decide_eq_true_eq]
      refine ⟨by omega, by omega, ?_⟩
      rw [tot_jn]
      exact j1 q6 _ (by omega) (by omega) (by simpa using ho)
    rw [tot_cond]
    refine ⟨fun _ => ?_, fun _ => ?_⟩
    · rw [tot_jn]; exact j0 _ (fun h => by simp only [decide_eq_true_eq, len] at h; omega)
    · rw [tot_jn]; exact j0 false (fun h => absurd h (by decide))
end Go.Gx

/-
  The plain law of FnBuiltCode.
-/
set_option linter.unusedVariables false
set_option linter.unusedSimpArgs false
namespace Go.Gx
theorem s_BuiltCode_tot {ops : List POp} (hl : ops.length ≤ 900000000000) : Tot (fun σ => F_Z35 (σ 0) ops) (fun r => r = (((builtA ops).1, (builtA ops).2, ()), ())) := by
  refine tot_Z35 ?_
  unfold B_Z35 builtA
  refine (s_BuildGraph_tot hl).bind ?_
  rintro _ rfl
  unfold graphA
  by_cases hw : wholeM ops = true
  · simp only [if_pos hw, tot_cond, tot_some, Bool.not_true]
    refine ⟨fun h0 => absurd h0 (by decide), fun _ => ?_⟩
    have hok : okOps ops = true := by unfold wholeM at hw; simp only [Bool.and_eq_true] at hw; exact hw.1.1
    have hr := rM_root hw
    refine (s_codeOf_tot (rM_cod hok) hr.1 hr.2).bind ?_
    rintro _ rfl
    rw [tot_some]
  · simp only [if_neg hw, tot_cond, tot_some, Bool.not_false]
    exact ⟨fun _ => trivial, fun h0 => absurd h0 (by decide)⟩
theorem DrawBuiltCode_tot {code : List Int} (hc : ∀ z ∈ code, 0 ≤ z ∧ z ≤ 255) (hl : code.length ≤ 1048576) : Tot (fun σ => F_Z5 (σ 0) code) (fun r => ∃ ops : List POp, r = ((ops, ()), ()) ∧ ops.length ≤ 500000000000) := by
  refine tot_Z5 ?_
  unfold B_Z5
  refine (newReader_tot hc hl).bind ?_
  rintro _ ⟨b, rfl, hb⟩
  refine (someOps_tot hb (by omega)).bind ?_
  rintro _ ⟨_, q, rfl, _, _, ops, rfl, hl⟩
  rw [tot_some]
  exact ⟨ops, rfl, hl⟩
theorem i_CodeOf_tot {g : List PNode} {root : Int} (hc : CodG g) (hg : g.length ≤ 1000) (hkk : ∀ n ∈ g, n.2.2.length ≤ 400000000) : Tot (fun σ => F_i_CodeOf (σ 0) g root) (fun r => (ValidG g root → r = ((codsP g [root], ()), ())) ∧ (¬ ValidG g root → r = (([], ()), ()))) := by
  refine tot_i_CodeOf ?_
  unfold B_i_CodeOf
  refine (i_ValidGraph_big (by omega) hkk).bind ?_
  rintro _ ⟨b, rfl, hb⟩
  simp only [tot_cond, tot_some, Bool.not_eq_true', Bool.not_eq_false']
  refine ⟨fun hf => ⟨fun hv => (by rw [hb.2 hv] at hf; exact Bool.noConfusion hf), fun _ => by first | rfl | trivial⟩, fun ht => ?_⟩
  have hv := hb.1 ht
  refine (i_codesOf_tot hc (fun x hx => by rw [List.mem_singleton] at hx; subst hx; exact hv.root) (by simp)).bind ?_
  rintro _ rfl
  rw [tot_some]
  exact ⟨fun _ => rfl, fun h => absurd hv h⟩
/-- A code begins with the root's kind. -/
theorem codsP_head {g : List PNode} {root : Int} : 0 < (codsP g [root]).length ∧ (codsP g [root]).getD 0 0 = (nd g root).1 := by
  have e : codsP g [root] = ((kd g root).foldl (fun p k => cod g g.length k p) ([(nd g root).1, (nd g root).2.1, ((kd g root).length : Int)], if (nd g root).1 ≠ 0 then [root] else [])).1 := by
    unfold codsP
    simp only [List.foldl_cons, List.foldl_nil]
    conv => lhs; unfold cod
    rfl
  obtain ⟨s, h⟩ := (cod_fold_pre (cod_pre g.length) (kd g root) ([(nd g root).1, (nd g root).2.1, ((kd g root).length : Int)], if (nd g root).1 ≠ 0 then [root] else [])).1
  rw [e, ← h]
  simp
theorem p_Z17 (code : List Int) (hc : ∀ z ∈ code, 0 ≤ z ∧ z ≤ 255) : ∃ k, F_Z17 k code = some ((true, ()), ()) := by
  refine Tot.ex (F := fun k => F_Z17 k code) ?_
  refine tot_Z17 ?_
  unfold B_Z17 B_Z17_J0
  simp only [tot_cond, tot_some, decide_eq_true_eq, decide_eq_false_iff_not, len]
  refine ⟨fun _ => trivial, fun hl => ?_⟩
  refine (DrawBuiltCode_tot hc (by omega)).bind ?_
  rintro _ ⟨ops, rfl, hll⟩
  refine (i_BuiltCode_tot (by first | omega | (simp only []; omega))).bind ?_
  rintro _ rfl
  refine (s_BuiltCode_tot (by first | omega | (simp only []; omega))).bind ?_
  rintro _ rfl
  by_cases hw : wholeM ops = true
  · have hok : okOps ops = true := by unfold wholeM at hw; simp only [Bool.and_eq_true] at hw; exact hw.1.1
    have hr := rM_root hw
    have hcg := rM_cod hok
    have eb : builtA ops = (codsP (rM ops).N [(rM ops).S.getD 0 0], true) := by unfold builtA; rw [if_pos hw]
    have eg : graphA ops = ((((rM ops).N, (rM ops).S.getD 0 0, ()), true, ()), ()) := by unfold graphA; rw [if_pos hw]
    rw [eb]
    have hsz := codsP_small hcg (roots := [(rM ops).S.getD 0 0]) (fun x hx => by rw [List.mem_singleton] at hx; subst hx; exact hr) (by simp)
    have eq1 : Tot (fun σ => F_Z34 (σ 0) (codsP (rM ops).N [(rM ops).S.getD 0 0]) (codsP (rM ops).N [(rM ops).S.getD 0 0])) (fun r => r = ((true, ()), ())) := (equalInts_tot (by omega)).mono fun x hx => by
      obtain ⟨b, rfl, hb⟩ := hx
      rw [hb.2 rfl]
    obtain ⟨h1, h2⟩ := codsP_head (g := (rM ops).N) (root := (rM ops).S.getD 0 0)
    refine eq1.bind ?_
    rintro _ rfl
    simp only [tot_cond, tot_jn, Bool.not_true, beq_self_eq_true, Bool.false_eq_true, Bool.true_eq_false, false_implies, true_and, and_true, forall_const]
    refine (i_BuildGraph_tot (by omega)).bind ?_
    rintro _ rfl
    rw [eg]
    simp only [tot_cond, tot_jn, Bool.not_true, beq_self_eq_true, Bool.false_eq_true, Bool.true_eq_false, false_implies, true_and, and_true, forall_const]
    have hnl := (rM_inv hok).2.1
    have hop := (okOps_all hok).2
    have hkk : ∀ n ∈ (rM ops).N, n.2.2.length ≤ 400000000 := hcg.each
    have last : ((codsP (rM ops).N [(rM ops).S.getD 0 0]).getD 0 0 == ((rM ops).N.getD ((rM ops).S.getD 0 0).toNat ((0 : Int), ((0 : Int), ([] : List Int)))).1) = true := by
      rw [h2, beq_iff_eq]; rfl
    have fin : Tot (fun _ => some (((codsP (rM ops).N [(rM ops).S.getD 0 0]).getD 0 0 == ((rM ops).N.getD ((rM ops).S.getD 0 0).toNat ((0 : Int), ((0 : Int), ([] : List Int)))).1, ()), ())) (fun r => r = ((true, ()), ())) := by
      rw [tot_some, last]
    refine (i_ValidGraph_big (by omega) hkk).bind ?_
    rintro _ ⟨b, rfl, hb⟩
    simp only [tot_cond, tot_chk, tot_some, inb_iff, decide_eq_true_eq, Bool.not_eq_true', Bool.not_eq_false']
    refine ⟨fun _ => ⟨by omega, by simp only [Int.toNat_zero]; omega, hr, by omega, by rw [← last]; rfl⟩, fun ht => (i_CodeOf_tot hcg (by omega) hkk).bind ?_⟩
    rintro _ ⟨h3, _⟩
    rw [h3 (hb.1 ht)]
    refine eq1.bind ?_
    rintro _ rfl
    simp only [tot_cond, tot_chk, tot_some, inb_iff, decide_eq_true_eq, Bool.true_eq_false, false_implies, and_true, forall_const]
    exact ⟨by omega, by simp only [Int.toNat_zero]; omega, hr, by omega, by rw [← last]; rfl⟩
  · have eb : builtA ops = ([], false) := by unfold builtA; rw [if_neg hw]
    rw [eb]
    have eq1 : Tot (fun σ => F_Z34 (σ 0) [] []) (fun r => r = ((true, ()), ())) := (equalInts_tot (by simp)).mono fun x hx => by
      obtain ⟨b, rfl, hb⟩ := hx
      rw [hb.2 rfl]
    refine eq1.bind ?_
    rintro _ rfl
    simp only [tot_cond, tot_jn, Bool.not_true, Bool.not_false, beq_self_eq_true, Bool.false_eq_true, Bool.true_eq_false, false_implies, true_and, and_true, forall_const]
    refine eq1.bind ?_
    rintro _ rfl
    simp only [tot_cond, tot_some, Bool.true_eq_false, false_implies, and_true, forall_const]
end Go.Gx

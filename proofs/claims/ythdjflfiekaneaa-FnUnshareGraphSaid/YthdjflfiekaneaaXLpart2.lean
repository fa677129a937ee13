/-
  Plain laws about the printed functions.
-/
import Derived.Test.YthdjflfiekaneaaXLpart1
set_option linter.unusedVariables false
set_option linter.unusedSimpArgs false
namespace Go.Gx
theorem rdN (l : List Int) (j : Nat) : rdx (0 : Int) l (j : Int) = l.getD j 0 := by rw [rdx_eq, Int.toNat_natCast]
theorem eqFunc_tot {s1 s2 o : List Int} (h1 : ∀ k ∈ s1, 0 ≤ k ∧ k < (o.length : Int)) (h2 : ∀ k ∈ s2, 0 ≤ k ∧ k < (o.length : Int)) (hl : s1.length ≤ 1000000) :
    Tot (fun σ => F_Z0 (σ 0) s1 s2 o) (fun r => ∃ b, r = ((b, ()), ((o, ()), ())) ∧ (b = true ↔ s1.map (fun k => o.getD k.toNat 0) = s2.map (fun k => o.getD k.toNat 0))) := by
  refine tot_Z0 ?_
  unfold B_Z0
  simp only [tot_cond, tot_some, len, bne_iff_ne, ne_eq, bne_eq_false_iff_eq]
  refine ⟨fun hne => ⟨false, rfl, by simp only [Bool.false_eq_true, false_iff]; intro h; have := congrArg List.length h; simp at this; omega⟩, fun he => ?_⟩
  have hlen : s1.length = s2.length := by omega
  have key := loop_Z0_L0 (Q := fun _ _ _ _ _ r => ∃ b, r = ((b, ()), ((o, ()), ())) ∧ (b = true ↔ s1.map (fun k => o.getD k.toNat 0) = s2.map (fun k => o.getD k.toNat 0)))
    (I := fun x e t n i => x = s2 ∧ e = o ∧ t = s1 ∧ n = (s1.length : Int) ∧ ∃ j : Nat, i = j ∧ j ≤ s1.length ∧ ∀ q, q < j → o.getD (s1.getD q 0).toNat 0 = o.getD (s2.getD q 0).toNat 0) (μ := fun _ _ _ _ i => s1.length - i.toNat) ?_
  · exact key s2 o s1 _ 0 ⟨rfl, rfl, rfl, rfl, 0, rfl, by omega, fun q hq => by omega⟩
  intro x e t n i ⟨e1, e2, e3, e4, j, e5, hj, hq⟩ again hag ih
  subst e1 e2 e3 e4 e5
  unfold B_Z0_L0b
  simp only [rdN]
  simp only [tot_cond, tot_chk, tot_some, decide_eq_true_eq, decide_eq_false_iff_not, inb_iff]
  refine ⟨fun hlt => ⟨⟨by omega, hlt⟩, by omega, ?_⟩, fun hge => ⟨true, rfl, ?_⟩⟩
  · have m1 := h1 _ (getDm (l := t) (i := j) (by omega))
    have m2 := h2 _ (getDm (l := x) (i := j) (by omega))
    have step : Tot (fun σ => F_Z43 (σ 0) (t.getD j 0) (x.getD j 0) e) (fun r => r = (((e.getD (t.getD j 0).toNat 0 == e.getD (x.getD j 0).toNat 0), ()), ((e, ()), ()))) := by
      refine tot_Z43 ?_
      unfold B_Z43
      simp only [tot_chk, tot_some, inb_iff]
      exact ⟨m1, m2, rfl⟩
    refine step.bind ?_
    rintro _ rfl
    simp only [tot_cond, tot_some, Bool.not_eq_true', Bool.not_eq_false', beq_iff_eq, beq_eq_false_iff_ne, ne_eq]
    refine ⟨fun hne => ⟨false, rfl, ?_⟩, fun heq => ?_⟩
    · simp only [Bool.false_eq_true, false_iff]
      intro h
      have hj1 : j < t.length := by omega
      have hj2 : j < x.length := by omega
      have := congrArg (fun l => l[j]?) h
      simp only [List.getElem?_map, List.getElem?_eq_getElem hj1, List.getElem?_eq_getElem hj2, Option.map_some, Option.some.injEq] at this
      rw [getD_at hj1, getD_at hj2] at hne
      exact hne this
    · rw [w64_succ (by omega) (by omega)]
      refine ih _ _ _ _ _ ⟨rfl, rfl, rfl, rfl, j + 1, rfl, by omega, fun q hq2 => ?_⟩ (by simp; omega)
      by_cases eq : q = j
      · subst eq; exact heq
      · exact hq q (by omega)
  · simp only [true_iff]
    refine List.ext_getElem (by simp [hlen]) fun q q1 q2 => ?_
    have q3 : q < t.length := by simpa using q1
    have q4 : q < x.length := by omega
    rw [List.getElem_map, List.getElem_map, ← getD_at (d := 0) q3, ← getD_at (d := 0) q4]
    exact hq q (by omega)
theorem kyAt_iff {g : List PNode} {o : List Int} {k i : Nat} : kyAt g o k = kyAt g o i ↔ o.getD k 0 = o.getD i 0 ∧ (nd g (i : Int)).1 = (nd g (k : Int)).1 ∧ (nd g (i : Int)).2.1 = (nd g (k : Int)).2.1 ∧ (kd g (i : Int)).map (fun k => o.getD k.toNat 0) = (kd g (k : Int)).map (fun k => o.getD k.toNat 0) := by
  unfold kyAt
  simp only [Prod.mk.injEq]
  exact ⟨fun h => ⟨h.1, h.2.1.symm, h.2.2.1.symm, h.2.2.2.symm⟩, fun h => ⟨h.1, h.2.1.symm, h.2.2.1.symm, h.2.2.2.symm⟩⟩
theorem i_classes_tot {g : List PNode} (hg : g.length ≤ 1000) (hk : ∀ n ∈ g, InR g n.2.2) (hl : ∀ n ∈ g, n.2.2.length ≤ 1000000) : Tot (fun σ => F_Z60 (σ 0) g) (fun r => r = ((cls g (g.length + 1), ()), ())) := by
  refine tot_Z60 ?_
  unfold B_Z60
  simp only [tot_chk]
  refine ⟨by simp [len, lim]; omega, ?_⟩
  have e0 : List.replicate (len g).toNat (0 : Int) = cls g 0 := by simp [len, cls]
  have e1 : w64 (len g + 1) = ((g.length + 1 : Nat) : Int) := w64_succ (by omega) (by omega)
  rw [e0, e1]
  have key := loop_Z60_L4 (Q := fun _ _ _ _ r => r = ((cls g (g.length + 1), ()), ())) (I := fun g' o n r => g' = g ∧ n = ((g.length + 1 : Nat) : Int) ∧ ∃ q : Nat, r = q ∧ q ≤ g.length + 1 ∧ o = cls g q) (μ := fun _ _ _ r => g.length + 1 - r.toNat) ?_
  · exact key g _ _ 0 ⟨rfl, rfl, 0, rfl, by omega, rfl⟩
  intro g' o n r ⟨e1, e2, q, e3, hq, e4⟩ again4 hag4 ih4
  subst e1 e2 e3
  have hol : o.length = g'.length := by rw [e4]; exact cls_len _ _
  unfold B_Z60_L4b
  simp only [tot_cond, tot_some, decide_eq_true_eq, decide_eq_false_iff_not]
  refine ⟨fun hlt => ?_, fun hge => by rw [e4, show q = g'.length + 1 from by omega]⟩
  have key3 := loop_Z60_L3 hag4 (Q := fun _ _ _ _ _ _ _ _ r => r = ((cls g' (g'.length + 1), ()), ())) (I := fun g2 o2 nx n2 r2 g3 n3 i => g2 = g' ∧ o2 = o ∧ n2 = ((g'.length + 1 : Nat) : Int) ∧ r2 = (q : Int) ∧ g3 = g' ∧ n3 = (g'.length : Int) ∧ ∃ j : Nat, i = j ∧ j ≤ g'.length ∧ nx = (List.range j).map fun i => (nxtAt g' o i : Int)) (μ := fun _ _ _ _ _ _ _ i => g'.length - i.toNat) ?_
  · exact key3 g' o [] _ _ g' _ 0 ⟨rfl, rfl, rfl, rfl, rfl, rfl, 0, rfl, by omega, rfl⟩
  intro g2 o2 nx n2 r2 g3 n3 i ⟨a1, a2, a3, a4, a5, a6, j, a7, hj, a8⟩ again3 hag3 ih3
  subst a1 a2 a3 a4 a5 a6 a7
  unfold B_Z60_L3b
  simp only [tot_cond, tot_chk, decide_eq_true_eq, decide_eq_false_iff_not, inb_iff, cutb_iff]
  refine ⟨fun hlt2 => ⟨⟨by omega, hlt2⟩, by omega, ?_⟩, fun hge2 => ?_⟩
  · have hj' : j < g3.length := by omega
    have hx : rdx ((0 : Int), ((0 : Int), ([] : List Int))) g3 (j : Int) = nd g3 (j : Int) := rfl
    rw [hx]
    have hmi := nd_mem (g := g3) (i := (j : Int)) (by omega) hlt2
    have hsl : (sub g3 0 (j : Int)).length = j := by simp [sub]; omega
    -- the node that was found
    have found : ∀ k : Nat, kyAt g3 o2 k = kyAt g3 o2 j → (∀ p, p < k → kyAt g3 o2 p ≠ kyAt g3 o2 j) → Tot (fun σ => B_Z60_J2 (σ 0) (F_Z0 (σ 0)) (again3 σ) g3 o2 nx (k : Int) ((g3.length + 1 : Nat) : Int) (q : Int) g3 (g3.length : Int) (j : Int)) (fun r => r = ((cls g3 (g3.length + 1), ()), ())) := by
      intro k hk1 hk2
      unfold B_Z60_J2
      simp only [tot_chk, room_iff, List.length_cons, List.length_nil]
      refine ⟨by rw [a8]; simp; omega, ?_⟩
      rw [w64_succ (by omega) (by omega)]
      refine ih3 _ _ _ _ _ _ _ _ ⟨rfl, rfl, rfl, rfl, rfl, rfl, j + 1, rfl, by omega, ?_⟩ (by simp; omega)
      rw [a8, List.range_succ, List.map_append]
      simp only [List.map_cons, List.map_nil, nxtAt_unique hk1 hk2]
    have key1 := loop_Z60_L1 hag3 (Q := fun _ _ _ _ _ _ _ _ _ _ _ _ _ _ _ _ r => r = ((cls g3 (g3.length + 1), ()), ()))
      (I := fun g4 o4 nx4 i4 xk xv xs le n4 r4 g5 n5 i5 sb n6 k => g4 = g3 ∧ o4 = o2 ∧ nx4 = nx ∧ i4 = (j : Int) ∧ xk = (nd g3 (j : Int)).1 ∧ xv = (nd g3 (j : Int)).2.1 ∧ xs = kd g3 (j : Int) ∧ le = (j : Int) ∧ n4 = ((g3.length + 1 : Nat) : Int) ∧ r4 = (q : Int) ∧ g5 = g3 ∧ n5 = (g3.length : Int) ∧ i5 = (j : Int) ∧ sb = sub g3 0 (j : Int) ∧ n6 = (j : Int) ∧ ∃ p : Nat, k = p ∧ p ≤ j ∧ ∀ c, c < p → kyAt g3 o2 c ≠ kyAt g3 o2 j) (μ := fun _ _ _ _ _ _ _ _ _ _ _ _ _ _ _ k => j - k.toNat) ?_
    · exact key1 _ _ _ _ _ _ _ _ _ _ _ _ _ _ _ 0 ⟨rfl, rfl, rfl, rfl, rfl, rfl, rfl, rfl, rfl, rfl, rfl, rfl, rfl, rfl, by simp only [len, hsl], 0, rfl, by omega, fun c hc => by omega⟩
    intro g4 o4 nx4 i4 xk xv xs le n4 r4 g5 n5 i5 sb n6 k ⟨b1, b2, b3, b4, b5, b6, b7, b8, b9, b10, b11, b12, b13, b14, b15, p, b16, hp, hc⟩ again1 hag1 ih1
    subst b1 b2 b3 b4 b5 b6 b7 b8 b9 b10 b11 b12 b13 b14 b15 b16
    unfold B_Z60_L1b B_Z60_J0
    have hsb : p < j → rdx ((0 : Int), ((0 : Int), ([] : List Int))) (sub g5 0 (j : Int)) (p : Int) = nd g5 (p : Int) := by
      intro hpj
      unfold nd sub
      rw [rdx_eq, rdx_eq, List.getD_eq_getElem?_getD, List.getD_eq_getElem?_getD]
      simp only [Int.toNat_natCast, Int.toNat_zero, List.drop_zero]
      rw [List.getElem?_take_of_lt (by omega)]
    have next : p < j → kyAt g5 o4 p ≠ kyAt g5 o4 j → Tot (fun σ => again1 σ (g5, (o4, ()), nx4, (j : Int), ((nd g5 (j : Int)).1, (nd g5 (j : Int)).2.1, kd g5 (j : Int), ()), (j : Int), ((g5.length + 1 : Nat) : Int), (q : Int), g5, (g5.length : Int), (j : Int), sub g5 0 (j : Int), (j : Int), w64 ((p : Int) + 1), ())) (fun r => r = ((cls g5 (g5.length + 1), ()), ())) := by
      intro hpj hne
      rw [w64_succ (by omega) (by omega)]
      refine ih1 _ _ _ _ _ _ _ _ _ _ _ _ _ _ _ _ ⟨rfl, rfl, rfl, rfl, rfl, rfl, rfl, rfl, rfl, rfl, rfl, rfl, rfl, rfl, rfl, p + 1, rfl, by omega, fun c hc2 => ?_⟩ (by simp; omega)
      by_cases ec : c = p
      · subst ec; exact hne
      · exact hc c (by omega)
    simp only [tot_cond, tot_chk, tot_jn, decide_eq_true_eq, decide_eq_false_iff_not, inb_iff, rdN, beq_iff_eq, beq_eq_false_iff_ne, ne_eq, Bool.false_eq_true, false_implies, true_and, forall_const]
    refine ⟨fun hlt3 => ?_, fun hge3 => ?_⟩
    · have hpj : p < j := by omega
      rw [hsb hpj]
      refine ⟨by omega, by omega, by omega, fun h1 => ⟨fun h2 => ⟨fun h3 => ?_, fun h3 => next hpj fun h => h3 (kyAt_iff.1 h).2.2.1⟩, fun h2 => next hpj fun h => h2 (kyAt_iff.1 h).2.1⟩, fun h1 => next hpj fun h => h1 (kyAt_iff.1 h).1⟩
      have hmp := nd_mem (g := g5) (i := (p : Int)) (by omega) (by omega)
      have rng : ∀ n ∈ g5, ∀ k ∈ n.2.2, 0 ≤ k ∧ k < (o4.length : Int) := fun n hn k hk' => by have := hk n hn k hk'; omega
      refine (eqFunc_tot (s1 := kd g5 (j : Int)) (s2 := (nd g5 (p : Int)).2.2) (rng _ hmi) (rng _ hmp) (hl _ hmi)).bind ?_
      rintro _ ⟨b, rfl, hb⟩
      simp only [tot_jn, tot_cond]
      refine ⟨fun ht => found p (kyAt_iff.2 ⟨h1, h2, h3, hb.1 ht⟩) hc, fun hf => next hpj fun h => ?_⟩
      rw [hb.2 (kyAt_iff.1 h).2.2.2] at hf
      cases hf
    · have : p = j := by omega
      subst this
      exact found p rfl hc
  · have : j = g3.length := by omega
    subst this
    rw [w64_succ (by omega) (by omega)]
    exact ih4 _ _ _ _ ⟨rfl, rfl, q + 1, rfl, by omega, by rw [a8, e4]; rfl⟩ (by simp; omega)
theorem i_mapped_tot {order : List Int} {x0 x1 : Int} {l : List Int} (hr : ∀ k ∈ l, 0 ≤ k ∧ k < (order.length : Int)) (hl : l.length ≤ 1000000) : Tot (fun σ => F_i_mapped (σ 0) x0 x1 l order) (fun r => r = (((x0, x1, l.map fun k => order.getD k.toNat 0, ()), ()), ())) := by
  refine tot_i_mapped ?_
  unfold B_i_mapped
  have key := loop_i_mapped_L0 (Q := fun _ _ _ _ _ _ _ _ _ r => r = (((x0, x1, l.map fun k => order.getD k.toNat 0, ()), ()), ()))
    (I := fun o a b c d ks t n i => o = order ∧ c = x0 ∧ d = x1 ∧ t = l ∧ n = (l.length : Int) ∧ ∃ j : Nat, i = j ∧ j ≤ l.length ∧ ks = (l.take j).map fun k => order.getD k.toNat 0) (μ := fun _ _ _ _ _ _ _ _ i => l.length - i.toNat) ?_
  · exact key order _ _ x0 x1 [] l _ 0 ⟨rfl, rfl, rfl, rfl, rfl, 0, rfl, by omega, rfl⟩
  intro o a b c d ks t n i ⟨e1, e2, e3, e4, e5, j, e6, hj, e7⟩ again hag ih
  subst e1 e2 e3 e4 e5 e6
  unfold B_i_mapped_L0b
  simp only [rdN]
  simp only [tot_cond, tot_chk, tot_some, decide_eq_true_eq, decide_eq_false_iff_not, inb_iff, room_iff, List.length_cons, List.length_nil]
  refine ⟨fun hlt => ?_, fun hge => by rw [e7, List.take_of_length_le (by omega)]⟩
  have hj' : j < t.length := by omega
  have hm := hr _ (getDm (l := t) (i := j) hj')
  refine ⟨⟨by omega, hlt⟩, hm, by rw [e7, List.length_map, List.length_take]; omega, ?_⟩
  rw [w64_succ (by omega) (by omega)]
  refine ih _ _ _ _ _ _ _ _ _ ⟨rfl, rfl, rfl, rfl, rfl, j + 1, rfl, by omega, ?_⟩ (by simp; omega)
  rw [e7, List.take_add_one, List.getElem?_eq_getElem hj', List.map_append, getD_at hj']
  congr 1
theorem i_EqualDeep_tot {a b : List PNode} {ra rb : Int} (ha : a.length ≤ 1000) (hka : ∀ n ∈ a, n.2.2.length ≤ 1000000) (hb : b.length ≤ 1000) (hkb : ∀ n ∈ b, n.2.2.length ≤ 1000000) :
    Tot (fun σ => F_Z45 (σ 0) a ra b rb) (Says (ValidG a ra ∧ ValidG b rb ∧ EqDeep a ra b rb)) := by
  refine tot_Z45 ?_
  unfold B_Z45 B_Z45_J0
  refine (i_ValidGraph_tot (by omega) hka).bind ?_
  rintro _ ⟨c1, rfl, h1⟩
  simp only [tot_cond, tot_jn, tot_some, Bool.not_eq_true', Bool.not_eq_false', Bool.true_eq_false, false_implies, and_true, forall_const]
  refine ⟨fun hf => says_false fun h => (by rw [h1.2 h.1] at hf; exact Bool.noConfusion hf), fun ht => (i_ValidGraph_tot (by omega) hkb).bind ?_⟩
  rintro _ ⟨c2, rfl, h2⟩
  simp only [tot_cond, tot_jn, tot_some, Bool.not_eq_true', Bool.not_eq_false', Bool.true_eq_false, false_implies, and_true, forall_const]
  refine ⟨fun hf => says_false fun h => (by rw [h2.2 h.2.1] at hf; exact Bool.noConfusion hf), fun ht2 => ?_⟩
  have va := h1.1 ht
  have vb := h2.1 ht2
  have ma := va.most
  have mb := vb.most
  have key := loop_Z45_L1 (Q := fun _ _ _ _ _ _ _ r => Says (ValidG a ra ∧ ValidG b rb ∧ EqDeep a ra b rb) r)
    (I := fun x rx y ry o n i => x = a ∧ rx = ra ∧ y = b ∧ ry = rb ∧ n = (b.length : Int) ∧ ∃ j : Nat, i = j ∧ j ≤ b.length ∧ o = (List.range j).map fun i : Nat => ((i + a.length : Nat) : Int)) (μ := fun _ _ _ _ _ _ i => b.length - i.toNat) ?_
  · exact key a ra b rb [] _ 0 ⟨rfl, rfl, rfl, rfl, rfl, 0, rfl, by omega, rfl⟩
  intro x rx y ry o n i ⟨e1, e2, e3, e4, e5, j, e6, hj, e7⟩ again hag ih
  subst e1 e2 e3 e4 e5 e6
  unfold B_Z45_L1b
  have hw : w64 ((j : Int) + len x) = ((j + x.length : Nat) : Int) := by rw [w64_id (by simp only [len]; omega) (by simp only [len]; omega)]; simp [len]
  simp only [hw, tot_cond, tot_chk, decide_eq_true_eq, decide_eq_false_iff_not, room_iff, List.length_cons, List.length_nil]
  refine ⟨fun hlt => ⟨by rw [e7]; simp; omega, ?_⟩, fun hge => ?_⟩
  · rw [w64_succ (by omega) (by omega)]
    refine ih _ _ _ _ _ _ _ ⟨rfl, rfl, rfl, rfl, rfl, j + 1, rfl, by omega, ?_⟩ (by simp; omega)
    rw [e7, List.range_succ, List.map_append]; rfl
  have hjl : j = y.length := by omega
  subst hjl
  have hol : o.length = y.length := by rw [e7]; simp
  have hog : ∀ k : Int, 0 ≤ k → k < (y.length : Int) → o.getD k.toNat 0 = k + (x.length : Int) := by
    intro k k0 k1
    rw [e7, List.getD_eq_getElem?_getD, List.getElem?_map, List.getElem?_range (by omega)]
    simp only [Option.map_some, Option.getD_some]; omega
  have clone : Tot (fun σ => F_Z5 (σ 0) x) (fun r => r = ((x, ()), ())) := by
    refine tot_Z5 ?_
    unfold B_Z5
    simp only [tot_chk, tot_some, room_iff, List.length_nil]
    exact ⟨by omega, trivial⟩
  refine clone.bind ?_
  rintro _ rfl
  have key2 := loop_Z45_L2 (Q := fun _ _ _ _ _ _ _ _ _ r => Says (ValidG x rx ∧ ValidG y ry ∧ EqDeep x rx y ry) r)
    (I := fun x1 rx1 y1 ry1 o1 ns t n i => x1 = x ∧ rx1 = rx ∧ y1 = y ∧ ry1 = ry ∧ o1 = o ∧ t = y ∧ n = (y.length : Int) ∧ ∃ j : Nat, i = j ∧ j ≤ y.length ∧ ns = x ++ (y.take j).map (shN x.length)) (μ := fun _ _ _ _ _ _ _ _ i => y.length - i.toNat) ?_
  · exact key2 x rx y ry o _ y _ 0 ⟨rfl, rfl, rfl, rfl, rfl, rfl, rfl, 0, rfl, by omega, by simp⟩
  intro x1 rx1 y1 ry1 o1 ns t n i ⟨f1, f2, f3, f4, f5, f6, f7, j, f8, hj2, f9⟩ again2 hag2 ih2
  subst f1 f2 f3 f4 f5 f6 f7 f8
  unfold B_Z45_L2b
  simp only [tot_cond, tot_chk, tot_some, decide_eq_true_eq, decide_eq_false_iff_not, inb_iff, room_iff, List.length_cons, List.length_nil]
  refine ⟨fun hlt => ⟨⟨by omega, hlt⟩, ?_⟩, fun hge2 => ?_⟩
  · have hj' : j < t.length := by omega
    have hx : rdx ((0 : Int), ((0 : Int), ([] : List Int))) t (j : Int) = t[j] := by rw [rdx_eq, Int.toNat_natCast, getD_at hj']
    have hmi : t[j] ∈ t := List.getElem_mem hj'
    have hr := (vb.kidly _ hmi).2
    rw [hx]
    refine (i_mapped_tot (x0 := t[j].1) (x1 := t[j].2.1) (l := t[j].2.2) (order := o1) (fun k hk => by have := hr k hk; omega) (hkb _ hmi)).bind ?_
    rintro _ rfl
    simp only [tot_chk, room_iff, List.length_cons, List.length_nil]
    refine ⟨by rw [f9]; simp; omega, ?_⟩
    rw [w64_succ (by omega) (by omega)]
    refine ih2 _ _ _ _ _ _ _ _ _ ⟨rfl, rfl, rfl, rfl, rfl, rfl, rfl, j + 1, rfl, by omega, ?_⟩ (by simp; omega)
    rw [f9, List.take_add_one, List.getElem?_eq_getElem hj', List.map_append, List.append_assoc]
    congr 2
    simp only [Option.toList_some, List.map_cons, List.map_nil, List.cons.injEq, and_true]
    unfold shN
    refine Prod.ext rfl (Prod.ext rfl ?_)
    exact List.map_congr_left fun k hk => hog k (hr k hk).1 (hr k hk).2
  · have ens : ns = tog x1 t := by rw [f9, List.take_of_length_le (by omega)]; rfl
    have hl := tog_len x1 t
    rw [ens]
    refine (i_classes_tot (g := tog x1 t) (by omega) (tog_kids (fun n hn => (va.kidly n hn).2) (fun n hn => (vb.kidly n hn).2)) (fun n hn => ?_)).bind ?_
    · unfold tog at hn
      rcases List.mem_append.1 hn with h | h
      · exact hka n h
      · obtain ⟨m, hm, rfl⟩ := List.mem_map.1 h
        unfold shN
        rw [List.length_map]; exact hkb m hm
    rintro _ rfl
    have r1 := va.root
    have r2 := vb.root
    have hw2 : w64 (ry1 + len x1) = ry1 + (x1.length : Int) := by rw [w64_id (by simp only [len]; omega) (by simp only [len]; omega)]
    have cl := cls_len (tog x1 t) ((tog x1 t).length + 1)
    simp only [hw2, tot_chk, tot_some, inb_iff, decide_eq_true_eq]
    refine ⟨by omega, by omega, by omega, by omega, _, rfl, ?_⟩
    rw [beq_iff_eq]
    unfold EqDeep
    rw [show (ry1 + (x1.length : Int)).toNat = ry1.toNat + x1.length from by omega]
    exact ⟨fun h => ⟨va, vb, h⟩, fun h => h.2.2⟩
end Go.Gx

/-
  Laws: lists of numbers are compared.
-/
set_option linter.unusedVariables false
set_option linter.unusedSimpArgs false
namespace Go.Gx
theorem equalInts_tot {a b : List Int} (ha : a.length ≤ 900000000000) : Tot (fun σ => F_Z40 (σ 0) a b) (Says (a = b)) := by
  refine tot_Z40 ?_
  unfold B_Z40
  simp only [tot_cond, tot_some, len, bne_iff_ne, ne_eq, bne_eq_false_iff_eq]
  refine ⟨fun h => says_false fun e => h (by rw [e]), fun h => ?_⟩
  have hl : a.length = b.length := by omega
  have key := loop_Z40_L0 (Q := fun _ _ _ r => Says (a = b) r) (I := fun x y i => x = a ∧ y = b ∧ ∃ j : Nat, i = j ∧ j ≤ a.length ∧ ∀ q, q < j → a.getD q 0 = b.getD q 0) (μ := fun _ _ i => (a.length - i).toNat) ?_
  · exact key a b 0 ⟨rfl, rfl, 0, rfl, by omega, fun q hq => by omega⟩
  intro x y i ⟨e1, e2, j, e3, hj, hq⟩ again hag ih
  subst e1 e2 e3
  unfold B_Z40_L0b
  simp only [tot_cond, tot_chk, tot_some, decide_eq_true_eq, decide_eq_false_iff_not, len, inb_iff, bne_iff_ne, ne_eq, bne_eq_false_iff_eq]
  simp only [rdx_eq, Int.toNat_natCast]
  refine ⟨fun hlt => ⟨by omega, by omega, fun hne => says_false fun e => hne (by rw [e]), fun he => ?_⟩, fun hge => says_true (ext_getD hl fun i hi => hq i (by omega))⟩
  rw [w64_succ (by omega) (by omega)]
  refine ih _ _ _ ⟨rfl, rfl, j + 1, rfl, by omega, fun q h => ?_⟩ (by simp; omega)
  by_cases e : q = j
  · subst e; exact he
  · exact hq q (by omega)
end Go.Gx

/-
  Laws: lists of nodes are compared.
-/
set_option linter.unusedVariables false
set_option linter.unusedSimpArgs false
namespace Go.Gx
theorem equalNodes_tot {a b : List PNode} (ha : a.length ≤ 900000000000) (hk : ∀ n ∈ a, n.2.2.length ≤ 900000000000) : Tot (fun σ => F_Z39 (σ 0) a b) (Says (a = b)) := by
  refine tot_Z39 ?_
  unfold B_Z39
  simp only [tot_cond, tot_some, len, bne_iff_ne, ne_eq, bne_eq_false_iff_eq]
  refine ⟨fun h => says_false fun e => h (by rw [e]), fun h => ?_⟩
  have hl : a.length = b.length := by omega
  have key := loop_Z39_L1 (Q := fun _ _ _ r => Says (a = b) r) (I := fun x y i => x = a ∧ y = b ∧ ∃ j : Nat, i = j ∧ j ≤ a.length ∧ ∀ q, q < j → a.getD q ((0 : Int), ((0 : Int), ([] : List Int))) = b.getD q ((0 : Int), ((0 : Int), ([] : List Int)))) (μ := fun _ _ i => (a.length - i).toNat) ?_
  · exact key a b 0 ⟨rfl, rfl, 0, rfl, by omega, fun q hq => by omega⟩
  intro x y i ⟨e1, e2, j, e3, hj, hq⟩ again hag ih
  subst e1 e2 e3
  unfold B_Z39_L1b B_Z39_J0
  simp only [tot_cond, tot_chk, tot_jn, tot_some, decide_eq_true_eq, decide_eq_false_iff_not, len, inb_iff, bne_iff_ne, ne_eq, bne_eq_false_iff_eq]
  simp only [rdx_eq, Int.toNat_natCast]
  refine ⟨fun hlt => ⟨by omega, by omega, fun hne => ⟨fun _ => says_false fun e => hne (by rw [e]), fun h0 => absurd h0 (by decide)⟩, fun he1 => ⟨by omega, by omega, fun hne => ⟨fun _ => says_false fun e => hne (by rw [e]), fun h0 => absurd h0 (by decide)⟩, fun he2 => ⟨by omega, by omega, ?_⟩⟩⟩, fun hge => says_true (ext_getD hl fun i hi => hq i (by omega))⟩
  have hm : (x.getD j ((0 : Int), ((0 : Int), ([] : List Int)))) ∈ x := by rw [getD_at (by omega : j < x.length)]; exact List.getElem_mem _
  refine (equalInts_tot (hk _ hm)).bind ?_
  rintro _ ⟨c, rfl, hc⟩
  simp only [tot_jn, tot_cond, tot_some, Bool.not_eq_true', Bool.not_eq_false']
  refine ⟨fun hf => says_false fun e => ?_, fun ht => ?_⟩
  · have := hc.2 (by rw [e])
    rw [hf] at this; cases this
  · rw [w64_succ (by omega) (by omega)]
    refine ih _ _ _ ⟨rfl, rfl, j + 1, rfl, by omega, fun q h => ?_⟩ (by simp; omega)
    by_cases e : q = j
    · subst e; exact Prod.ext he1 (Prod.ext he2 (hc.1 ht))
    · exact hq q (by omega)
end Go.Gx

/-
  Laws: equal graphs.
-/
set_option linter.unusedVariables false
set_option linter.unusedSimpArgs false
namespace Go.Gx
theorem equalGraph_tot {N N' : List PNode} {r r' : Int} (ha : N.length ≤ 900000000000) (hk : ∀ n ∈ N, n.2.2.length ≤ 900000000000) : Tot (fun σ => F_Z31 (σ 0) N r N' r') (Says (N = N' ∧ r = r')) := by
  refine tot_Z31 ?_
  unfold B_Z31
  simp only [tot_cond, tot_some, beq_iff_eq, beq_eq_false_iff_ne, ne_eq]
  refine ⟨fun he => ?_, fun hne => says_false fun e => hne e.2⟩
  refine (equalNodes_tot ha hk).bind ?_
  rintro _ ⟨a, rfl, ha⟩
  rw [tot_some]
  exact ⟨_, rfl, by rw [ha]; exact ⟨fun e => ⟨e, he⟩, fun e => e.1⟩⟩
end Go.Gx

/-
  Laws, part 17g: graphs that are drawn and need not be valid.
-/
set_option linter.unusedVariables false
set_option linter.unusedSimpArgs false
namespace Go.Gx
theorem getD_memG {α : Type} {xs : List α} {i : Nat} {d : α} (h : i < xs.length) : xs.getD i d ∈ xs := by
  rw [List.getD_eq_getElem?_getD, List.getElem?_eq_getElem h]
  exact List.getElem_mem h
/-- A graph that need not be valid: small all the same. -/
structure SmallG (g : List PNode) : Prop where
  pos : 1 ≤ g.length
  most : g.length ≤ 12
  kids : ∀ n ∈ g, n.2.2.length ≤ 1000
theorem ValidG.small {g : List PNode} {root : Int} (h : ValidG g root) : SmallG g := ⟨h.pos, h.most, fun n hn => by have := (h.node n hn).1; omega⟩
theorem anyGraph_tot {b : List Int} {p : Int} (h : RD b p) (hp : p ≤ 600000000) : Tot (fun σ => F_Z51 (σ 0) b p) (Drawn b p 500 fun x => ∃ (g : List PNode) (root : Int), x = ((g, root, ()), ()) ∧ SmallG g) := by
  refine tot_Z51 ?_
  unfold B_Z51
  refine (someGraph_tot h (by omega)).bind ?_
  rintro _ ⟨_, q, rfl, h1, h2, g, root, rfl, hv⟩
  have hq := h.next h1 (by omega)
  have hpos := hv.pos; have hmost := hv.most
  simp only [len]
  refine (pick_tot hq (by omega) (by omega)).bind ?_
  rintro _ ⟨_, q2, rfl, f1, f2, k, rfl, f3, f4⟩
  have f4 := f4 (by omega)
  obtain ⟨i, rfl⟩ := Int.eq_ofNat_of_zero_le f3
  have hil : i < g.length := by omega
  have hq2 := hq.next f1 (by omega)
  refine (pick_tot hq2 (by omega) (by omega)).bind ?_
  rintro _ ⟨_, q3, rfl, k1, k2, v, rfl, _⟩
  have hq3 := hq2.next k1 (by omega)
  have hkn := (hv.node _ (getD_memG (xs := g) (d := ((0 : Int), ((0 : Int), ([] : List Int)))) hil)).1
  have fin : ∀ (q4 : Int) (g2 : List PNode) (r2 : Int), q3 ≤ q4 → q4 ≤ q3 + 1 → SmallG g2 → Tot (fun σ => B_Z51_J0 (σ 0) (F_Z41 (σ 0)) (F_Z29 (σ 0)) (F_Z34 (σ 0)) b q4 0 g2 r2) (Drawn b p 500 fun x => ∃ (g : List PNode) (root : Int), x = ((g, root, ()), ()) ∧ SmallG g) := by
    intro q4 g2 r2 m1 m2 hs
    unfold B_Z51_J0
    rw [tot_some]
    exact ⟨_, q4, rfl, by omega, by omega, g2, r2, rfl, hs⟩
  have hset : ∀ n : PNode, n.2.2.length ≤ 1000 → SmallG (g.set i n) := fun n hn => ⟨by rw [List.length_set]; exact hpos, by rw [List.length_set]; exact hmost, fun m hm => by
    rcases List.mem_or_eq_of_mem_set hm with hm | rfl
    · exact hv.small.kids m hm
    · exact hn⟩
  simp only [tot_cond]
  refine ⟨fun _ => ?_, fun _ => ⟨fun _ => ?_, fun _ => ⟨fun _ => ?_, fun _ => ⟨fun _ => ?_, fun _ => ?_⟩⟩⟩⟩
  · simp only [tot_chk, inb_iff, decide_eq_true_eq, Int.toNat_natCast]
    refine ⟨by omega, hil, (one_tot hq3 (by omega) (by simp) (by simp)).bind ?_⟩
    rintro _ ⟨_, q4, rfl, m1, m2, u, rfl, _⟩
    simp only [tot_chk, tot_jn, inb_iff, decide_eq_true_eq, Int.toNat_natCast, room_iff, List.length_cons, List.length_nil]
    refine ⟨by omega, by omega, trivial, fin q4 _ _ m1 (by omega) (hset _ ?_)⟩
    simp only [List.length_append, List.length_cons, List.length_nil]; omega
  · refine (one_tot hq3 (by omega) (by simp) (by simp)).bind ?_
    rintro _ ⟨_, q4, rfl, m1, m2, u, rfl, _⟩
    simp only [tot_chk, tot_jn, inb_iff, decide_eq_true_eq, Int.toNat_natCast]
    exact ⟨by omega, hil, fin q4 _ _ m1 (by omega) (hset _ (by simp only; omega))⟩
  · simp only [tot_chk, tot_jn, inb_iff, decide_eq_true_eq, Int.toNat_natCast]
    exact ⟨by omega, hil, fin q3 _ _ (by omega) (by omega) (hset _ (by simp))⟩
  · refine (one_tot hq3 (by omega) (by simp) (by simp)).bind ?_
    rintro _ ⟨_, q4, rfl, m1, m2, u, rfl, _⟩
    rw [tot_jn]
    exact fin q4 _ _ m1 (by omega) hv.small
  · rw [tot_jn]
    exact fin q3 _ _ (by omega) (by omega) hv.small
end Go.Gx

/-
  The plain law of FnUnshareGraph.
-/
set_option linter.unusedVariables false
set_option linter.unusedSimpArgs false
namespace Go.Gx
theorem bomb_tot {levels : Int} (h0 : 0 ≤ levels) (h1 : levels ≤ 11) : Tot (fun σ => F_Z47 (σ 0) levels) (fun r => ∃ (g : List PNode) (root : Int), r = (((g, root, ()), ()), ()) ∧ SmallG g) := by
  refine tot_Z47 ?_
  unfold B_Z47
  refine (inRange_tot' levels 0 11).bind ?_
  rintro _ rfl
  simp only [tot_cond, tot_some, Bool.not_eq_true', Bool.not_eq_false', decide_eq_true_eq, decide_eq_false_iff_not]
  refine ⟨fun h => absurd ⟨h0, h1⟩ h, fun _ => ?_⟩
  have key := loop_Z47_L0 (Q := fun _ _ _ _ _ r => ∃ (g : List PNode) (root : Int), r = (((g, root, ()), ()), ()) ∧ SmallG g)
    (I := fun l _ g _ i => l = levels ∧ ∃ j : Nat, i = j ∧ (j : Int) ≤ levels ∧ g.length = j + 1 ∧ ∀ n ∈ g, n.2.2.length ≤ 1000) (μ := fun _ _ _ _ i => (levels - i).toNat) ?_
  · exact key levels _ _ _ 0 ⟨rfl, 0, rfl, h0, rfl, fun n hn => by simp at hn; subst hn; simp⟩
  intro l t g root i ⟨e1, j, e2, hj, hl, hk⟩ again hag ih
  subst e1 e2
  unfold B_Z47_L0b
  simp only [tot_cond, tot_chk, tot_some, decide_eq_true_eq, decide_eq_false_iff_not, room_iff, List.length_cons, List.length_nil]
  refine ⟨fun hlt => ⟨by omega, ?_⟩, fun hge => ⟨g, root, rfl, by omega, by omega, hk⟩⟩
  rw [w64_succ (by omega) (by omega)]
  refine ih _ _ _ _ _ ⟨rfl, j + 1, rfl, by omega, by simp [hl], fun n hn => ?_⟩ (by omega)
  rcases List.mem_append.1 hn with h | h
  · exact hk n h
  · simp at h; subst h; simp
theorem DrawUnshareGraph_tot {code : List Int} (hc : ∀ z ∈ code, 0 ≤ z ∧ z ≤ 255) (hl : code.length ≤ 1048576) : Tot (fun σ => F_Z22 (σ 0) code) (fun r => ∃ (g : List PNode) (root : Int), r = (((g, root, ()), ()), ()) ∧ SmallG g) := by
  refine tot_Z22 ?_
  unfold B_Z22
  refine (newReader_tot hc hl).bind ?_
  rintro _ ⟨b, rfl, hb⟩
  refine (pick_tot hb (by omega) (by omega)).bind ?_
  rintro _ ⟨_, q, rfl, h1, h2, v, rfl, _⟩
  have hq := hb.next h1 (by omega)
  simp only [tot_cond]
  refine ⟨fun _ => ?_, fun _ => ?_⟩
  · refine (pick_tot hq (by omega) (by omega)).bind ?_
    rintro _ ⟨_, q2, rfl, h3, h4, v2, rfl, h5, h6⟩
    have h6 := h6 (by omega)
    refine (bomb_tot h5 (by omega)).bind ?_
    rintro _ ⟨g, root, rfl, hs⟩
    rw [tot_some]
    exact ⟨g, root, rfl, hs⟩
  · refine (anyGraph_tot hq (by omega)).bind ?_
    rintro _ ⟨_, q2, rfl, _, _, g, root, rfl, hs⟩
    rw [tot_some]
    exact ⟨g, root, rfl, hs⟩
theorem p_Z24 (code : List Int) (hc : ∀ z ∈ code, 0 ≤ z ∧ z ≤ 255) : ∃ k, F_Z24 k code = some ((true, ()), ()) := by
  refine Tot.ex (F := fun k => F_Z24 k code) ?_
  refine tot_Z24 ?_
  unfold B_Z24 B_Z24_J0
  simp only [tot_cond, tot_some, decide_eq_true_eq, decide_eq_false_iff_not, len]
  refine ⟨fun _ => trivial, fun hl => ?_⟩
  refine (DrawUnshareGraph_tot hc (by omega)).bind ?_
  rintro _ ⟨g, root, rfl, hs⟩
  have hmost := hs.most
  have hkk : ∀ n ∈ g, n.2.2.length ≤ 1000000 := fun n hn => by have := hs.kids n hn; omega
  refine (i_UnshareGraph_tot (by omega) hkk).bind ?_
  rintro r1 hr1
  refine (s_UnshareGraph_tot (by omega) hkk).bind ?_
  rintro r2 hr2
  by_cases hu : Unf g root
  · rw [hr1.1 hu, hr2.1 hu]
    have hv := hu.va
    obtain ⟨O, ht⟩ := unf_tree hv.kidly hv.root.1 hv.root.2 hu.deep
    have hlen := unf_len (g.length + 1) root [] hu.deep
    have hsm := hu.small
    simp only [List.length_nil, Nat.zero_add] at hlen
    generalize hT : unf g (g.length + 1) root [] = T at ht hlen ⊢
    have hvT := ht.valid hv (by omega)
    have hkT : ∀ n ∈ T.map cvN, n.2.2.length ≤ 1000000 := fun n hn => by have := (hvT.kidly n hn).1; omega
    have hlT : (T.map cvN).length = T.length := by simp
    have eq1 : ∀ {r : Int}, Tot (fun σ => F_Z31 (σ 0) (T.map cvN) r (T.map cvN) r) (fun x => x = ((true, ()), ())) := fun {r} => (equalGraph_tot (by omega) (fun n hn => by have := hkT n hn; omega)).mono fun x hx => by
      obtain ⟨b, rfl, hb⟩ := hx
      rw [hb.2 ⟨rfl, rfl⟩]
    refine (eq1 (r := 0)).bind ?_
    rintro _ rfl
    simp only [tot_cond, tot_jn, Bool.not_true, beq_self_eq_true, Bool.false_eq_true, Bool.true_eq_false, false_implies, true_and, and_true, forall_const]
    refine (i_ValidGraph_tot (g := T.map cvN) (root := 0) (by omega) hkT).bind ?_
    rintro _ ⟨b, rfl, hb⟩
    have hb2 := hb.2 hvT
    subst hb2
    simp only [tot_cond, Bool.true_eq_false, false_implies, and_true, forall_const]
    refine (i_EqualDeep_tot (a := T.map cvN) (ra := 0) (b := g) (rb := root) (by omega) hkT (by omega) hkk).bind ?_
    rintro _ ⟨b, rfl, hb⟩
    have hb2 := hb.2 ⟨hvT, hv, ht.eqDeep hv.kidly⟩
    subst hb2
    simp only [tot_cond, Bool.true_eq_false, false_implies, and_true, forall_const]
    refine (i_SharedOf_tot (g := T.map cvN) (root := 0) (by omega) hkT).bind ?_
    rintro _ ⟨h3, _⟩
    rw [h3 hvT, ht.noShare hvT]
    simp only [tot_cond, List.length_nil]
    refine ⟨fun _ => (i_TreeSize_deep hv hu.deep).bind ?_, fun h => absurd h (by decide)⟩
    rintro _ rfl
    simp only [tot_cond, beq_iff_eq, beq_eq_false_iff_ne, ne_eq]
    refine ⟨fun _ => (i_CyclesOf_tot (g := T.map cvN) (root := 0) (by omega) hkT).bind ?_, fun h => absurd (by omega) h⟩
    rintro _ ⟨l, rfl, h4, _⟩
    have hnil : l = [] := by
      cases l with
      | nil => rfl
      | cons x l =>
        have h5 := (h4 hvT x).1 (by simp)
        have hr := (reachP_ok hvT.kidly hvT.root.1 hvT.root.2).2 x h5.1
        obtain ⟨p, rfl⟩ := Int.eq_ofNat_of_zero_le hr.1
        exact absurd h5.2 (ht.noCyc (by omega))
    subst hnil
    rw [tot_some]
    rfl
  · rw [hr1.2 hu, hr2.2 hu]
    have eq1 : Tot (fun σ => F_Z31 (σ 0) (List.map (fun p : ONode => (p.1, p.2.1, p.2.2.getD [])) []) 0 (List.map (fun p : ONode => (p.1, p.2.1, p.2.2.getD [])) []) 0) (fun x => x = ((true, ()), ())) := (equalGraph_tot (by simp) (fun n hn => by simp at hn)).mono fun x hx => by
      obtain ⟨b, rfl, hb⟩ := hx
      rw [hb.2 ⟨rfl, rfl⟩]
    refine eq1.bind ?_
    rintro _ rfl
    simp only [tot_cond, tot_jn, Bool.not_true, Bool.not_false, beq_self_eq_true, Bool.false_eq_true, Bool.true_eq_false, false_implies, true_and, and_true, forall_const]
    refine eq1.bind ?_
    rintro _ rfl
    simp only [tot_cond, tot_some, Bool.true_eq_false, false_implies, and_true, forall_const]
end Go.Gx

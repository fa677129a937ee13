/-
  Laws, part 9: graphs that are drawn.
-/
import Derived.Test.YtpcnmlpikiigaaaXL8
set_option linter.unusedVariables false
set_option linter.unusedSimpArgs false
namespace Go.Gx
theorem NodeOk.kidly {g : List PNode} {n : PNode} (h : NodeOk g n) : n.2.2.length ≤ 6 ∧ InR g n.2.2 := ⟨h.1, h.2.1⟩
theorem validGraph_tot {g : List PNode} {root : Int} (hg : g.length ≤ 1000000) (hk : ∀ n ∈ g, n.2.2.length ≤ 1000000) : Tot (fun σ => F_s_validGraph (σ 0) g root) (Says (ValidG g root)) := by
  refine tot_s_validGraph ?_
  unfold B_s_validGraph
  refine (inRange_tot' (len g) 1 12).bind ?_
  rintro _ rfl
  have j0 : ∀ b : Bool, (b = false ↔ 1 ≤ g.length ∧ g.length ≤ 12 ∧ 0 ≤ root ∧ root < (g.length : Int)) → Tot (fun σ => B_s_validGraph_J0 (σ 0) (F_s_inRange (σ 0)) (F_s_validNode (σ 0)) (F_s_tupleReach (σ 0)) (F_s_placeIn (σ 0)) g root b) (Says (ValidG g root)) := by
    intro b hb
    unfold B_s_validGraph_J0
    rw [tot_cond]
    refine ⟨fun ht => ?_, fun hf => ?_⟩
    · rw [tot_some]
      refine says_false fun h => ?_
      have := hb.2 ⟨h.pos, h.most, h.root⟩
      rw [ht] at this
      cases this
    obtain ⟨p1, p2, p3⟩ := hb.1 hf
    have key := loop_s_validGraph_L1 (Q := fun _ _ _ r => Says (ValidG g root) r) (I := fun g' r' i => g' = g ∧ r' = root ∧ ∃ j : Nat, i = j ∧ j ≤ g.length ∧ ∀ q : Nat, q < j → NodeOk g (nd g q)) (μ := fun _ _ i => (g.length - i).toNat) ?_
    · exact key g root 0 ⟨rfl, rfl, 0, rfl, by omega, fun q hq => by omega⟩
    intro g' r' i ⟨e1, e2, j, e3, hj, hq⟩ again hag ih
    subst e1 e2 e3
    unfold B_s_validGraph_L1b
    simp only [tot_cond, tot_chk, tot_some, decide_eq_true_eq, decide_eq_false_iff_not, len, inb_iff]
    refine ⟨fun hlt => ⟨by omega, ?_⟩, fun hge => ?_⟩
    · have hm : nd g' (j : Int) ∈ g' := nd_mem (by omega) hlt
      refine (validNode_tot hg (nd g' (j : Int)) (hk _ hm)).bind ?_
      rintro _ ⟨b2, rfl, hb2⟩
      simp only [tot_cond, tot_some, Bool.not_eq_true', Bool.not_eq_false']
      refine ⟨fun hf2 => says_false fun h => ?_, fun ht2 => ?_⟩
      · have := hb2.2 (h.node _ hm); rw [hf2] at this; cases this
      · rw [w64_succ (by omega) (by omega)]
        refine ih _ _ _ ⟨rfl, rfl, j + 1, rfl, by omega, fun q h => ?_⟩ (by simp; omega)
        by_cases e : q = j
        · subst e; exact hb2.1 ht2
        · exact hq q (by omega)
    · have hnode : ∀ n ∈ g', NodeOk g' n := by
        intro n hn
        obtain ⟨i, hi, e⟩ := List.getElem_of_mem hn
        have := hq i (by omega)
        rw [nd, rdx_eq, Int.toNat_natCast, List.getD_eq_getElem?_getD, List.getElem?_eq_getElem hi, Option.getD_some, e] at this
        exact this
      have hkid : Kidly g' := fun n hn => (hnode n hn).kidly
      have key2 := loop_s_validGraph_L3 (Q := fun _ _ _ r => Says (ValidG g' r') r) (I := fun g2 r2 i => g2 = g' ∧ r2 = r' ∧ ∃ j : Nat, i = j ∧ j ≤ g'.length ∧ ∀ q : Nat, q < j → (nd g' q).1 = 2 → ¬ TReach g' q q) (μ := fun _ _ i => (g'.length - i).toNat) ?_
      · exact key2 g' r' 0 ⟨rfl, rfl, 0, rfl, by omega, fun q hq => by omega⟩
      intro g2 r2 i ⟨e1, e2, m, e3, hm, ht⟩ again2 hag2 ih2
      subst e1 e2 e3
      unfold B_s_validGraph_L3b B_s_validGraph_J2
      have next : ¬ ((nd g2 (m : Int)).1 = 2 ∧ TReach g2 m m) → (m : Int) < g2.length → Tot (fun σ => again2 σ ((g2, r2, ()), w64 ((m : Int) + 1), ())) (Says (ValidG g2 r2)) := by
        intro hn hlt
        rw [w64_succ (by omega) (by omega)]
        refine ih2 _ _ _ ⟨rfl, rfl, m + 1, rfl, by omega, fun q h h2 => ?_⟩ (by simp; omega)
        by_cases e : q = m
        · subst e; exact fun h3 => hn ⟨h2, h3⟩
        · exact ht q (by omega) h2
      simp only [tot_cond, tot_chk, tot_jn, tot_some, decide_eq_true_eq, decide_eq_false_iff_not, len, inb_iff, beq_iff_eq, beq_eq_false_iff_ne, ne_eq]
      refine ⟨fun hlt => ⟨by omega, fun h2 => ?_, fun h2 => ⟨fun h => absurd h (by decide), fun _ => next (fun h => h2 h.1) hlt⟩⟩, fun hge => says_true ⟨p1, p2, p3, hnode, fun i hi => ht i (by omega)⟩⟩
      refine (tupleReach_tot hkid hg (by omega) hlt).bind ?_
      rintro _ ⟨out, rfl, ho, hnd, hol⟩
      refine (placeIn_tot (by simp only []; omega) _).bind ?_
      rintro _ ⟨v, rfl, hv⟩
      simp only [tot_cond, tot_jn, tot_some, decide_eq_true_eq, decide_eq_false_iff_not]
      refine ⟨fun hpos => says_false fun h => ?_, fun hneg => next (fun h => ?_) hlt⟩
      · refine h.tup m (by omega) h2 ((ho _).1 ?_)
        rcases hv with ⟨e, _⟩ | ⟨i, e, hi, he, _⟩
        · omega
        · rw [← he, List.getD_eq_getElem?_getD, List.getElem?_eq_getElem hi]; exact List.getElem_mem _
      · rcases hv with ⟨_, hno⟩ | ⟨i, e, _⟩
        · exact hno ((ho _).2 h.2)
        · omega
  simp only [tot_cond, tot_jn, Bool.not_eq_true', Bool.not_eq_false', decide_eq_true_eq, decide_eq_false_iff_not, len]
  refine ⟨fun h => j0 true ⟨fun h' => Bool.noConfusion h', fun h' => by omega⟩, fun h => ?_⟩
  rw [show w64 ((g.length : Int) - 1) = (g.length : Int) - 1 from w64_id (by omega) (by omega)]
  refine (inRange_tot' root 0 _).bind ?_
  rintro _ rfl
  rw [tot_jn]
  refine j0 _ ?_
  rw [Bool.not_eq_false', decide_eq_true_eq]
  omega
/-- A node without kids, drawn. -/
def LeafOk (k v : Int) : Prop := (k = 0 ∧ 0 ≤ v ∧ v ≤ 999) ∨ (k = 1 ∧ 0 ≤ v ∧ v ≤ 9) ∨ (2 ≤ k ∧ k ≤ 4 ∧ v = 0) ∨ (k = 5 ∧ 0 ≤ v ∧ v ≤ 9)
theorem someNode_tot {b : List Int} {p : Int} (h : RD b p) (hp : p ≤ 900000000) : Tot (fun σ => F_s_someNode (σ 0) b p) (Drawn b p 3 fun x => ∃ k v, x = ((k, v, (), ()), ()) ∧ LeafOk k v) := by
  refine tot_s_someNode ?_
  unfold B_s_someNode B_s_someNode_J0 B_s_someNode_J1
  refine (pick_tot h (by omega) (by omega)).bind ?_
  rintro _ ⟨_, q, rfl, h1, h2, c, rfl, h3, h4⟩
  have h4 := h4 (by omega)
  have hq := h.next h1 (by omega)
  have fin : ∀ (q' k v : Int), p ≤ q' → q' ≤ p + 3 → LeafOk k v → Drawn b p 3 (fun x => ∃ k v, x = ((k, v, (), ()), ()) ∧ LeafOk k v) (((k, v, (), ()), ()), ((b, q', ()), ())) := fun q' k v h1 h2 h3 => ⟨_, _, rfl, h1, h2, k, v, rfl, h3⟩
  have last : Tot (fun σ => (F_s_reader_pick (σ 0) b q 3).bind fun r30 => some ((((5 : Int), r30.1.1, (), ()), ()), ((r30.2.1.1, r30.2.1.2.1, ()), ()))) (Drawn b p 3 (fun x => ∃ k v, x = ((k, v, (), ()), ()) ∧ LeafOk k v)) := by
    refine (pick_tot hq (by omega) (by omega)).bind ?_
    rintro _ ⟨_, q2, rfl, g1, g2, a, rfl, g3, g4⟩
    have g4 := g4 (by omega)
    rw [tot_some]
    exact fin q2 5 a (by omega) (by omega) (.inr (.inr (.inr (by omega))))
  simp only [tot_cond, tot_jn, tot_some, beq_iff_eq, beq_eq_false_iff_ne, ne_eq]
  have s2 : Drawn b p 3 (fun x => ∃ k v, x = ((k, v, (), ()), ()) ∧ LeafOk k v) (((2, 0, (), ()), ()), ((b, q, ()), ())) := fin q 2 0 (by omega) (by omega) (.inr (.inr (.inl (by omega))))
  have s3 : Drawn b p 3 (fun x => ∃ k v, x = ((k, v, (), ()), ()) ∧ LeafOk k v) (((3, 0, (), ()), ()), ((b, q, ()), ())) := fin q 3 0 (by omega) (by omega) (.inr (.inr (.inl (by omega))))
  have s4 : Drawn b p 3 (fun x => ∃ k v, x = ((k, v, (), ()), ()) ∧ LeafOk k v) (((4, 0, (), ()), ()), ((b, q, ()), ())) := fin q 4 0 (by omega) (by omega) (.inr (.inr (.inl (by omega))))
  refine ⟨fun h0 => ?_, fun h0 => ⟨fun h1' => ?_, fun h1' => ?_⟩⟩
  · refine (pick_tot hq (by omega) (by omega)).bind ?_
    rintro _ ⟨_, q2, rfl, g1, g2, a, rfl, g3, g4⟩
    have g4 := g4 (by omega)
    refine (one_tot (hq.next g1 (by omega)) (by omega) (by simp) (by simp)).bind ?_
    rintro _ ⟨_, q3, rfl, f1, f2, v, rfl, hv⟩
    rw [tot_some]
    simp only [List.mem_cons, List.not_mem_nil, or_false] at hv
    exact fin q3 0 v (by omega) (by omega) (.inl (by omega))
  · refine (pick_tot hq (by omega) (by omega)).bind ?_
    rintro _ ⟨_, q2, rfl, g1, g2, a, rfl, g3, g4⟩
    have g4 := g4 (by omega)
    rw [tot_some]
    exact fin q2 1 a (by omega) (by omega) (.inr (.inl (by omega)))
  · simp only [s2, s3, s4, last, implies_true, and_self]
end Go.Gx

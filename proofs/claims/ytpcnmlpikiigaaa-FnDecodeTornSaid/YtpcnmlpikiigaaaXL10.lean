/-
  Laws, part 10: a graph that is drawn is valid.
-/
import Derived.Test.YtpcnmlpikiigaaaXL9
set_option linter.unusedVariables false
set_option linter.unusedSimpArgs false
namespace Go.Gx
abbrev ONode : Type := Int × Int × Option (List Int)
abbrev od : ONode := ((0 : Int), ((0 : Int), (none : Option (List Int))))
abbrev cvN (p : ONode) : PNode := (p.1, (p.2.1, p.2.2.getD []))
theorem set_getD {α : Type} {l : List α} {i : Nat} {d : α} : l.set i (l.getD i d) = l := by
  by_cases h : i < l.length
  · rw [List.getD_eq_getElem?_getD, List.getElem?_eq_getElem h, Option.getD_some]; exact List.set_getElem_self h
  · rw [List.set_eq_of_length_le (by omega)]
theorem getD_set_ne {α : Type} {l : List α} {i j : Nat} {x d : α} (h : j ≠ i) : (l.set i x).getD j d = l.getD j d := by
  rw [List.getD_eq_getElem?_getD, List.getD_eq_getElem?_getD, List.getElem?_set_ne (by omega)]
def AddOk (g : List ONode) (root : Int) (i : Nat) (x : (List ONode × Int × Unit) × Unit) : Prop :=
  ∃ g', x = ((g', root, ()), ()) ∧ ValidG (g'.map cvN) root ∧ g'.length = g.length ∧ ∀ j, j ≠ i → g'.getD j od = g.getD j od
theorem addKids_tot {b : List Int} {p : Int} (h : RD b p) (hp : p ≤ 800000000) {g : List ONode} {root : Int} (hv : ValidG (g.map cvN) root) {i : Nat} (hi : i < g.length) (hn : (g.getD i od).2.2 = none) :
    Tot (fun σ => F_s_addKids (σ 0) b p g root i) (Drawn b p 20 (AddOk g root i)) := by
  have hlen : g.length ≤ 12 := by have := hv.most; simpa using this
  refine tot_s_addKids ?_
  unfold B_s_addKids
  simp only [tot_chk, inb_iff, decide_eq_true_eq, Int.toNat_natCast]
  refine ⟨by omega, hi, (one_tot h (by omega) (by simp) (by simp)).bind ?_⟩
  rintro _ ⟨_, q, rfl, h1, h2, n, rfl, hnm⟩
  have hnn : 0 ≤ n ∧ n ≤ 4 := by
    simp only [List.mem_cons, List.not_mem_nil, or_false] at hnm
    omega
  rw [tot_chk]
  refine ⟨by rw [show (g.getD i od).2.2 = none from hn]; rfl, ?_⟩
  have key := loop_s_addKids_L3 (Q := fun _ _ _ _ _ _ _ _ _ _ r => Drawn b p 20 (AddOk g root i) r)
    (I := fun b' q' at2 g' r' _ k v kids m => b' = b ∧ at2 = (i : Int) ∧ g' = g ∧ r' = root ∧ p ≤ q' ∧ q' + 4 * m ≤ p + 17 ∧ 0 ≤ m ∧ m ≤ 4 ∧ (kids.length : Int) + 2 * m ≤ 10) (μ := fun _ _ _ _ _ _ _ _ _ m => m.toNat) ?_
  · exact key b q i g root 0 _ _ [] n ⟨rfl, rfl, rfl, rfl, h1, by omega, hnn.1, hnn.2, by simp; omega⟩
  intro b' q' at2 g' r' t6 k v kids m ⟨e1, e2, e3, e4, g1, g2, g3, g4, g5⟩ again hag ih
  subst e1 e2 e3 e4
  have hr := h.next g1 (by omega)
  unfold B_s_addKids_L3b
  rw [tot_cond]
  simp only [decide_eq_true_eq, decide_eq_false_iff_not]
  refine ⟨fun hm => ?_, fun hm => ?_⟩
  · -- a round
    have w : w64 (m - 1) = m - 1 := w64_id (by omega) (by omega)
    have j2 : ∀ (q2 : Int) (kids2 : List Int), q' ≤ q2 → q2 ≤ q' + 4 → kids2.length ≤ kids.length + 2 → Tot (fun σ => B_s_addKids_J2 (σ 0) (F_s_reader_one (σ 0)) (F_s_reader_pick (σ 0)) (F_s_isKey (σ 0)) (F_s_validGraph (σ 0)) (again σ) b' q2 i g' r' t6 k v kids2 m) (Drawn b' p 20 (AddOk g' r' i)) := by
      intro q2 kids2 k1 k2 k3
      unfold B_s_addKids_J2
      rw [w]
      exact ih _ _ _ _ _ _ _ _ _ _ ⟨rfl, rfl, rfl, rfl, by omega, by omega, by omega, by omega, by omega⟩ (by omega)
    have hkl : kids.length ≤ 10 := by omega
    have j1 : ∀ (q2 kid : Int) (t : Bool), q' ≤ q2 → q2 ≤ q' + 2 → Tot (fun σ => B_s_addKids_J1 (σ 0) (F_s_reader_one (σ 0)) (F_s_reader_pick (σ 0)) (F_s_isKey (σ 0)) (F_s_validGraph (σ 0)) (again σ) b' q2 i g' r' t6 k v kids m kid t) (Drawn b' p 20 (AddOk g' r' i)) := by
      intro q2 kid t k1 k2
      unfold B_s_addKids_J1
      rw [tot_cond]
      refine ⟨fun _ => ?_, fun _ => ?_⟩
      · refine (pick_tot (hr.next k1 (by omega)) (by omega) (by simp only [len]; omega)).bind ?_
        rintro _ ⟨_, q3, rfl, f1, f2, y, rfl, f3, f4⟩
        rw [tot_chk]
        refine ⟨room_iff.2 (by simp only [List.length_cons, List.length_nil]; omega), ?_⟩
        rw [tot_jn]
        exact j2 q3 _ (by omega) (by omega) (by simp)
      · rw [tot_jn]
        exact j2 q2 kids k1 (by omega) (by omega)
    refine (pick_tot hr (by omega) (by simp only [len]; omega)).bind ?_
    rintro _ ⟨_, q2, rfl, f1, f2, kid, rfl, f3, f4⟩
    have f4 := f4 (by simp only [len]; omega)
    simp only [len] at f4
    have j0 : ∀ (t : Bool), Tot (fun σ => B_s_addKids_J0 (σ 0) (F_s_reader_one (σ 0)) (F_s_reader_pick (σ 0)) (F_s_isKey (σ 0)) (F_s_validGraph (σ 0)) (again σ) b' q2 i g' r' t6 k v kids m kid k t) (Drawn b' p 20 (AddOk g' r' i)) := by
      intro t
      unfold B_s_addKids_J0
      rw [tot_cond]
      refine ⟨fun _ => ?_, fun _ => ?_⟩
      · rw [tot_chk]
        refine ⟨room_iff.2 (by simp only [List.length_cons, List.length_nil]; omega), ?_⟩
        rw [tot_jn]
        exact j2 q2 _ f1 (by omega) (by simp)
      · rw [tot_cond]
        refine ⟨fun _ => ?_, fun _ => ?_⟩
        · rw [tot_jn]
          exact j2 q2 _ f1 (by omega) (by simp)
        · rw [tot_cond]
          refine ⟨fun _ => ?_, fun _ => ?_⟩
          · rw [tot_cond]
            refine ⟨fun _ => ?_, fun _ => ?_⟩
            · simp only [tot_chk, inb_iff, decide_eq_true_eq]
              refine ⟨by omega, by omega, (isKey_tot _ _ _).bind ?_⟩
              rintro _ ⟨b2, rfl, _⟩
              rw [tot_jn]
              exact j1 q2 kid _ f1 (by omega)
            · rw [tot_jn]
              exact j1 q2 kid _ f1 (by omega)
          · rw [tot_jn]
            exact j2 q2 kids f1 (by omega) (by omega)
    rw [tot_cond]
    refine ⟨fun _ => ?_, fun _ => ?_⟩
    · rw [tot_jn]; exact j0 _
    · rw [tot_jn]; exact j0 _
  · -- the end
    have hkl : kids.length ≤ 10 := by omega
    simp only [tot_chk, inb_iff, decide_eq_true_eq, Int.toNat_natCast]
    refine ⟨by omega, hi, by omega, hi, ?_⟩
    have hkl2 : ∀ n ∈ (g'.set i (k, (v, (some kids)))).map cvN, n.2.2.length ≤ 1000000 := by
      intro n hn'
      obtain ⟨o, ho, rfl⟩ := List.mem_map.1 hn'
      rcases List.mem_or_eq_of_mem_set ho with ho | rfl
      · have := (hv.node (cvN o) (List.mem_map.2 ⟨o, ho, rfl⟩)).1
        omega
      · show kids.length ≤ _; omega
    refine (validGraph_tot (root := r') (by simp; omega) hkl2).bind ?_
    rintro _ ⟨b2, rfl, hb2⟩
    unfold B_s_addKids_J4
    simp only [tot_cond, tot_chk, tot_jn, tot_some, Bool.not_eq_true', Bool.not_eq_false', inb_iff, decide_eq_true_eq, List.length_set, Int.toNat_natCast]
    refine ⟨fun _ => ⟨by omega, hi, _, _, rfl, g1, by omega, g', ?_, hv, rfl, fun j _ => rfl⟩, fun ht => ⟨_, _, rfl, g1, by omega, _, rfl, hb2.1 ht, by simp, fun j hj => getD_set_ne hj⟩⟩
    rw [List.set_set]
    exact congrArg (fun l => ((l, r', ()), ())) (set_getD (d := od))
theorem leaf_valid {g : List ONode} {root : Int} (hp : 1 ≤ g.length) (hm : g.length ≤ 12) (hr : 0 ≤ root ∧ root < (g.length : Int)) (hn : ∀ n ∈ g, LeafOk n.1 n.2.1 ∧ n.2.2 = none) : ValidG (g.map cvN) root := by
  have hnd : ∀ i, (nd (g.map cvN) i).2.2 = [] := by
    intro i
    unfold nd
    rw [rdx_eq, List.getD_eq_getElem?_getD, List.getElem?_map]
    cases hq : g[i.toNat]? with
    | none => rfl
    | some o =>
      have := (hn o (List.mem_of_getElem? hq)).2
      simp [this]
  refine ⟨by simpa using hp, by simpa using hm, by simpa using hr, fun n hn' => ?_, fun i _ _ ht => ?_⟩
  · obtain ⟨o, ho, rfl⟩ := List.mem_map.1 hn'
    obtain ⟨hl, hno⟩ := hn o ho
    refine ⟨by simp [hno], fun x hx => by simp [hno] at hx, ?_⟩
    simp only [hno, Option.getD_none]
    rcases hl with ⟨e, h1, h2⟩ | ⟨e, h1, h2⟩ | ⟨h1, h2, h3⟩ | ⟨e, h1, h2⟩
    · rw [if_pos e]; exact ⟨h1, h2, trivial⟩
    · rw [if_neg (by omega), if_pos e]; exact ⟨h1, h2, trivial⟩
    · rw [if_neg (by omega), if_neg (by omega)]
      by_cases e : o.1 = 2 ∨ o.1 = 3
      · rw [if_pos e]; exact h3
      · rw [if_neg e, if_pos (by omega)]
        exact ⟨h3, ⟨fun i hi => by simp at hi, by simp⟩⟩
    · rw [if_neg (by omega), if_neg (by omega), if_neg (by omega), if_neg (by omega), if_pos e]; exact ⟨h1, h2, by simp⟩
  · cases ht with
    | kid hk => rw [hnd] at hk; simp at hk
    | step _ _ hk => rw [hnd] at hk; simp at hk
theorem someGraph_tot {b : List Int} {p : Int} (h : RD b p) (hp : p ≤ 700000000) : Tot (fun σ => F_s_someGraph (σ 0) b p) (Drawn b p 400 fun x => ∃ (g : List PNode) (root : Int), x = ((g, root, ()), ()) ∧ ValidG g root) := by
  refine tot_s_someGraph ?_
  unfold B_s_someGraph
  refine (one_tot h (by omega) (by simp) (by simp)).bind ?_
  rintro _ ⟨_, q, rfl, h1, h2, n, rfl, hnm⟩
  have hnn : 1 ≤ n ∧ n ≤ 10 := by
    simp only [List.mem_cons, List.not_mem_nil, or_false] at hnm
    omega
  have key := loop_s_someGraph_L0 (Q := fun _ _ _ _ _ _ r => Drawn b p 400 (fun x => ∃ (g : List PNode) (root : Int), x = ((g, root, ()), ()) ∧ ValidG g root) r)
    (I := fun b' q' _ g' _ m => b' = b ∧ p ≤ q' ∧ q' + 3 * m ≤ p + 40 ∧ 0 ≤ m ∧ m ≤ 10 ∧ 1 ≤ (g'.length : Int) + m ∧ (g'.length : Int) + m ≤ 10 ∧ ∀ x ∈ g', LeafOk x.1 x.2.1 ∧ x.2.2 = none) (μ := fun _ _ _ _ _ m => m.toNat) ?_
  · exact key b q 0 [] 0 n ⟨rfl, h1, by omega, by omega, hnn.2, by simp; omega, by simp; omega, fun x hx => by simp at hx⟩
  intro b' q' t2 g' r0 m ⟨e1, g1, g2, g3, g4, g5, g6, g7⟩ again hag ih
  subst e1
  have hr := h.next g1 (by omega)
  unfold B_s_someGraph_L0b
  rw [tot_cond]
  simp only [decide_eq_true_eq, decide_eq_false_iff_not]
  refine ⟨fun hm => ?_, fun hm => ?_⟩
  · refine (someNode_tot hr (by omega)).bind ?_
    rintro _ ⟨_, q2, rfl, f1, f2, k, v, rfl, hl⟩
    rw [tot_chk]
    refine ⟨room_iff.2 (by simp only [List.length_cons, List.length_nil]; omega), ?_⟩
    rw [show w64 (m - 1) = m - 1 from w64_id (by omega) (by omega)]
    refine ih b' q2 t2 (g' ++ [(k, (v, none))]) r0 (m - 1) ⟨rfl, by omega, by omega, by omega, by omega, ?_, ?_, fun x hx => ?_⟩ (by omega)
    · simp only [List.length_append, List.length_cons, List.length_nil]; omega
    · simp only [List.length_append, List.length_cons, List.length_nil]; omega
    · rcases List.mem_append.1 hx with hx | hx
      · exact g7 x hx
      · simp only [List.mem_cons, List.not_mem_nil, or_false] at hx
        subst hx
        exact ⟨hl, rfl⟩
  · have hgl : 1 ≤ g'.length ∧ g'.length ≤ 10 := by omega
    have hrt : w64 (len g' - 1) = (g'.length : Int) - 1 := by rw [w64_id] <;> simp only [len] <;> omega
    rw [hrt]
    have key2 := loop_s_someGraph_L1 (Q := fun _ _ _ _ _ _ r => Drawn b' p 400 (fun x => ∃ (g : List PNode) (root : Int), x = ((g, root, ()), ()) ∧ ValidG g root) r)
      (I := fun b2 q2 _ g2 r2 i => b2 = b' ∧ p ≤ q2 ∧ ∃ j : Nat, i = j ∧ j ≤ g2.length ∧ g2.length ≤ 10 ∧ 1 ≤ g2.length ∧ q2 ≤ p + 40 + 20 * i ∧ ValidG (g2.map cvN) r2 ∧ ∀ x : Nat, j ≤ x → (g2.getD x od).2.2 = none) (μ := fun _ _ _ g2 _ i => (g2.length - i).toNat) ?_
    · refine key2 b' q' t2 g' _ 0 ⟨rfl, g1, 0, rfl, by omega, hgl.2, hgl.1, by omega, leaf_valid hgl.1 (by omega) (by omega) g7, fun x _ => ?_⟩
      rw [List.getD_eq_getElem?_getD]
      cases hq : g'[x]? with
      | none => rfl
      | some o => exact (g7 o (List.mem_of_getElem? hq)).2
    intro b2 q2 t3 g2 r2 i ⟨e1, f1, j, e2, hj, hl10, hl1, f2, hv, hno⟩ again2 hag2 ih2
    subst e1 e2
    have hr2 := h.next f1 (by omega)
    unfold B_s_someGraph_L1b B_s_someGraph_J2
    rw [tot_cond]
    simp only [decide_eq_true_eq, decide_eq_false_iff_not, len]
    refine ⟨fun hlt => ?_, fun hge => ?_⟩
    · refine (addKids_tot hr2 (by omega) hv (i := j) (by omega) (hno j (Nat.le_refl _))).bind ?_
      rintro _ ⟨_, q3, rfl, k1, k2, g3', rfl, hv3, hlen3, hsame⟩
      rw [w64_succ (by omega) (by omega)]
      refine ih2 b2 q3 t3 g3' r2 ((j + 1 : Nat) : Int) ⟨rfl, by omega, j + 1, rfl, by omega, by omega, by omega, by omega, hv3, fun x hx => ?_⟩ (by omega)
      rw [hsame x (by omega)]
      exact hno x (by omega)
    · refine (pick_tot hr2 (by omega) (by omega)).bind ?_
      rintro _ ⟨_, q3, rfl, k1, k2, u, rfl, k3, k4⟩
      rw [tot_cond]
      refine ⟨fun _ => ?_, fun _ => ?_⟩
      · refine (pick_tot (hr2.next k1 (by omega)) (by omega) (by omega)).bind ?_
        rintro _ ⟨_, q4, rfl, l1, l2, rt, rfl, l3, l4⟩
        have l4 := l4 (by omega)
        rw [tot_jn, tot_some]
        exact ⟨_, q4, rfl, by omega, by omega, _, rt, rfl, ⟨hv.pos, hv.most, by simpa using ⟨l3, l4⟩, hv.node, hv.tup⟩⟩
      · rw [tot_jn, tot_some]
        exact ⟨_, q3, rfl, by omega, by omega, _, r2, rfl, hv⟩
end Go.Gx

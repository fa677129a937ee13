/-
  Laws, part 8: valid graphs.
-/
import Derived.Test.YtpcnmlpikiigaaaXL7
set_option linter.unusedVariables false
set_option linter.unusedSimpArgs false
namespace Go.Gx
theorem says_iff {P : Prop} {b : Bool} (h : b = true ↔ P) : Says P ((b, ()), ()) := ⟨b, rfl, h⟩
theorem validNode_tot {g : List PNode} {root : Int} (hg : g.length ≤ 1000000) (n : PNode) (hn : n.2.2.length ≤ 1000000) : Tot (fun σ => F_s_validNode (σ 0) g root n.1 n.2.1 n.2.2) (Says (NodeOk g n)) := by
  obtain ⟨k, v, kids⟩ := n
  refine tot_s_validNode ?_
  unfold B_s_validNode
  have j0 : ∀ b : Bool, (b = false ↔ kids.length ≤ 6 ∧ InR g kids) → Tot (fun σ => B_s_validNode_J0 (σ 0) (F_s_allIn (σ 0)) (F_s_inRange (σ 0)) (F_s_validDict (σ 0)) g root k v kids b) (Says (NodeOk g (k, v, kids))) := by
    intro b hb
    unfold B_s_validNode_J0 B_s_validNode_J1
    rw [tot_cond]
    refine ⟨fun ht => ?_, fun hf => ?_⟩
    · rw [tot_some]
      refine says_false fun h => ?_
      have := hb.2 ⟨h.1, h.2.1⟩
      rw [ht] at this
      cases this
    obtain ⟨h6, hin⟩ := hb.1 hf
    have ok : ∀ {Q : Prop}, (NodeOk g (k, v, kids) ↔ Q) ↔ ((if k = 0 then 0 ≤ v ∧ v ≤ 999 ∧ kids = [] else if k = 1 then 0 ≤ v ∧ v ≤ 9 ∧ kids = [] else if k = 2 ∨ k = 3 then v = 0 else if k = 4 then v = 0 ∧ DictOk g kids else if k = 5 then 0 ≤ v ∧ v ≤ 9 ∧ kids.length ≤ 1 else False) ↔ Q) := by
      intro Q
      unfold NodeOk
      simp only [h6, hin, true_and]
    have fin : ∀ (b : Bool), ((if k = 0 then 0 ≤ v ∧ v ≤ 999 ∧ kids = [] else if k = 1 then 0 ≤ v ∧ v ≤ 9 ∧ kids = [] else if k = 2 ∨ k = 3 then v = 0 else if k = 4 then v = 0 ∧ DictOk g kids else if k = 5 then 0 ≤ v ∧ v ≤ 9 ∧ kids.length ≤ 1 else False) ↔ b = true) → Says (NodeOk g (k, v, kids)) ((b, ()), ()) := fun b h => says_iff (ok.2 h).symm
    have hlen : (len kids == 0) = decide (kids = []) := by
      rw [Bool.eq_iff_iff]; simp [len]
    simp only [tot_cond, tot_jn, beq_iff_eq, beq_eq_false_iff_ne, ne_eq]
    refine ⟨fun h0 => ?_, fun h0 => ⟨fun h1 => ?_, fun h1 => ⟨fun h2 => ?_, fun h2 => ⟨fun h3 => ?_, fun h3 => ⟨fun h4 => ⟨fun hv => ?_, fun hv => ?_⟩, fun h4 => ⟨fun h5 => ?_, fun h5 => ?_⟩⟩⟩⟩⟩⟩
    · refine (inRange_tot' v 0 999).bind ?_
      rintro _ rfl
      simp only [tot_cond, tot_some, decide_eq_true_eq, decide_eq_false_iff_not]
      exact ⟨fun hr => fin _ (by rw [if_pos h0, hlen, decide_eq_true_eq]; exact ⟨fun h => h.2.2, fun h => ⟨hr.1, hr.2, h⟩⟩), fun hr => fin _ (by rw [if_pos h0]; exact ⟨fun h => absurd ⟨h.1, h.2.1⟩ hr, fun h => by cases h⟩)⟩
    · refine (inRange_tot' v 0 9).bind ?_
      rintro _ rfl
      simp only [tot_cond, tot_some, decide_eq_true_eq, decide_eq_false_iff_not]
      exact ⟨fun hr => fin _ (by rw [if_neg h0, if_pos h1, hlen, decide_eq_true_eq]; exact ⟨fun h => h.2.2, fun h => ⟨hr.1, hr.2, h⟩⟩), fun hr => fin _ (by rw [if_neg h0, if_pos h1]; exact ⟨fun h => absurd ⟨h.1, h.2.1⟩ hr, fun h => by cases h⟩)⟩
    · refine ⟨fun _ => ?_, fun h => absurd h2 h⟩
      rw [tot_some]
      exact fin _ (by rw [if_neg h0, if_neg h1, if_pos (.inl h2), beq_iff_eq])
    · rw [tot_some]
      exact fin _ (by rw [if_neg h0, if_neg h1, if_pos (.inr h3), beq_iff_eq])
    · refine (validDict_tot hin h6).bind ?_
      rintro _ ⟨b2, rfl, hb2⟩
      rw [tot_some]
      exact fin _ (by rw [if_neg h0, if_neg h1, if_neg (by simp [h2, h3]), if_pos h4]; exact ⟨fun h => hb2.2 h.2, fun h => ⟨hv, hb2.1 h⟩⟩)
    · rw [tot_some]
      exact fin _ (by rw [if_neg h0, if_neg h1, if_neg (by simp [h2, h3]), if_pos h4]; exact ⟨fun h => absurd h.1 hv, fun h => by cases h⟩)
    · refine (inRange_tot' v 0 9).bind ?_
      rintro _ rfl
      simp only [tot_cond, tot_some, decide_eq_true_eq, decide_eq_false_iff_not]
      exact ⟨fun hr => fin _ (by rw [if_neg h0, if_neg h1, if_neg (by simp [h2, h3]), if_neg h4, if_pos h5, decide_eq_true_eq]; exact ⟨fun h => by have := h.2.2; simp only [len]; omega, fun h => ⟨hr.1, hr.2, by simp only [len] at h; omega⟩⟩),
        fun hr => fin _ (by rw [if_neg h0, if_neg h1, if_neg (by simp [h2, h3]), if_neg h4, if_pos h5]; exact ⟨fun h => absurd ⟨h.1, h.2.1⟩ hr, fun h => by cases h⟩)⟩
    · rw [tot_some]
      exact fin _ (by rw [if_neg h0, if_neg h1, if_neg (by simp [h2, h3]), if_neg h4, if_neg h5]; simp)
  simp only [tot_cond, tot_jn, decide_eq_true_eq, decide_eq_false_iff_not, len]
  refine ⟨fun h => j0 true ⟨fun h' => Bool.noConfusion h', fun h' => by omega⟩, fun h => ?_⟩
  rw [show w64 ((g.length : Int) - 1) = (g.length : Int) - 1 from w64_id (by omega) (by omega)]
  refine (allIn_tot (by simp only [] at hn; omega) 0 _).bind ?_
  rintro _ ⟨b, rfl, hb⟩
  rw [tot_jn]
  refine j0 (!b) ?_
  rw [Bool.not_eq_false', hb]
  constructor
  · intro h1; exact ⟨by omega, fun x hx => by have := h1 x hx; omega⟩
  · intro h1 x hx; have := h1.2 x hx; omega
/-- Every node's kids are nodes, and not too many. -/
def Kidly (g : List PNode) : Prop := ∀ n ∈ g, n.2.2.length ≤ 6 ∧ InR g n.2.2
theorem nd_mem {g : List PNode} {i : Int} (h0 : 0 ≤ i) (h1 : i < (g.length : Int)) : nd g i ∈ g := rdx_mem h0 h1
theorem nodup_len {n : Nat} : ∀ {l : List Int}, l.Nodup → (∀ x ∈ l, 0 ≤ x ∧ x < (n : Int)) → l.length ≤ n := by
  induction n with
  | zero =>
    intro l _ h
    cases l with
    | nil => simp
    | cons x l => have := h x (by simp); omega
  | succ n ih =>
    intro l hn h
    have h1 : (l.erase (n : Int)).Nodup := hn.erase _
    have h2 := ih h1 (fun x hx => by
      have hx' := List.mem_of_mem_erase hx
      have := h x hx'
      have hne : x ≠ (n : Int) := fun e => by subst e; exact (List.Nodup.not_mem_erase hn) hx
      omega)
    by_cases hm : (n : Int) ∈ l
    · rw [List.length_erase_of_mem hm] at h2; omega
    · rw [List.erase_of_not_mem hm] at h2; omega
theorem getD_left {α : Type} {l m : List α} {i : Nat} {d : α} (h : i < l.length) : (l ++ m).getD i d = l.getD i d := by
  rw [List.getD_eq_getElem?_getD, List.getD_eq_getElem?_getD, List.getElem?_append_left h]
theorem tupleReach_tot {g : List PNode} {root : Int} (hk : Kidly g) (hg : g.length ≤ 1000000) {at1 : Int} (h0 : 0 ≤ at1) (h1 : at1 < (g.length : Int)) :
    Tot (fun σ => F_s_tupleReach (σ 0) g root at1) (fun r => ∃ out : List Int, r = ((out, ()), ()) ∧ (∀ x, x ∈ out ↔ TReach g at1 x) ∧ out.Nodup ∧ out.length ≤ g.length) := by
  refine tot_s_tupleReach ?_
  unfold B_s_tupleReach
  have hat := hk _ (nd_mem h0 h1)
  rw [tot_chk]
  refine ⟨inb_iff.2 ⟨h0, h1⟩, (copyInts_tot' (l := (nd g at1).2.2) (by omega)).bind ?_⟩
  rintro _ rfl
  have key := loop_s_tupleReach_L1 (Q := fun _ _ _ _ _ r => ∃ out : List Int, r = ((out, ()), ()) ∧ (∀ x, x ∈ out ↔ TReach g at1 x) ∧ out.Nodup ∧ out.length ≤ g.length)
    (I := fun g' _ out list k7 => g' = g ∧ ∃ j : Nat, k7 = j ∧ j ≤ list.length ∧ (∀ x ∈ list, TReach g at1 x ∧ 0 ≤ x ∧ x < (g.length : Int)) ∧ out.Nodup ∧ (∀ x ∈ out, x ∈ list) ∧ (∀ q, q < j → list.getD q 0 ∈ out) ∧
      (∀ x ∈ (nd g at1).2.2, x ∈ list) ∧ (∀ x ∈ out, (nd g x).1 = 2 → ∀ y ∈ (nd g x).2.2, y ∈ list) ∧ list.length ≤ 6 + 6 * out.length) (μ := fun _ _ out list k7 => 7 * (g.length - out.length) + (list.length - k7.toNat)) ?_
  · exact key g root [] _ 0 ⟨rfl, 0, rfl, by omega, fun x hx => ⟨.kid hx, hat.2 x hx⟩, List.nodup_nil, fun x hx => by simp at hx, fun q hq => by omega, fun x hx => hx, fun x hx => by simp at hx, by simp; exact hat.1⟩
  intro g' r' out list k7 ⟨e1, j, e2, hj, hl, hnd, hol, hq, hkid, hst, hlen⟩ again hag ih
  subst e1 e2
  unfold B_s_tupleReach_L1b B_s_tupleReach_J0
  have hout : out.length ≤ g'.length := nodup_len hnd fun x hx => (hl x (hol x hx)).2
  simp only [tot_cond, tot_chk, tot_jn, tot_some, decide_eq_true_eq, decide_eq_false_iff_not, len, inb_iff, Int.toNat_natCast]
  refine ⟨fun hlt => ⟨by omega, by omega, ?_⟩, fun hge => ?_⟩
  · have hj' : j < list.length := by omega
    have hm : list.getD j 0 ∈ list := by rw [List.getD_eq_getElem?_getD, List.getElem?_eq_getElem hj']; exact List.getElem_mem _
    generalize hx : list.getD j 0 = x at hm
    have hxr := hl x hm
    refine (placeIn_tot (by omega) x).bind ?_
    rintro _ ⟨v, rfl, hv⟩
    simp only [tot_cond, tot_chk, tot_jn, decide_eq_true_eq, decide_eq_false_iff_not, room_iff, inb_iff, List.length_cons, List.length_nil, beq_iff_eq, beq_eq_false_iff_ne, ne_eq]
    have wj : w64 ((j : Int) + 1) = ((j + 1 : Nat) : Int) := w64_succ (by omega) (by omega)
    refine ⟨fun hneg => ?_, fun hpos => ?_⟩
    · have hni : x ∉ out := by
        rcases hv with ⟨_, h⟩ | ⟨i, e, _⟩
        · exact h
        · omega
      have hnd2 : (out ++ [x]).Nodup := by
        rw [List.nodup_append]
        exact ⟨hnd, by simp, fun a ha b hb e => by simp at hb; subst hb; subst e; exact hni ha⟩
      have hout2 : (out ++ [x]).length ≤ g'.length := nodup_len hnd2 fun y hy => by
        rcases List.mem_append.1 hy with h | h
        · exact (hl y (hol y h)).2
        · simp at h; subst h; exact hxr.2
      simp only [List.length_append, List.length_cons, List.length_nil] at hout2
      have hkx := hk _ (nd_mem hxr.2.1 hxr.2.2)
      have hkl : (nd g' x).2.2.length ≤ 6 := hkx.1
      refine ⟨by omega, by omega, by omega, by omega, by omega, hxr.2, fun ht => ⟨by omega, by omega, hxr.2, by show list.length + (nd g' x).2.2.length ≤ _; omega, ?_⟩, fun ht => ?_⟩
      · rw [wj]
        refine ih _ _ _ _ _ ⟨rfl, j + 1, rfl, by simp only [List.length_append]; omega, fun y hy => ?_, hnd2, fun y hy => ?_, fun q h => ?_, fun y hy => List.mem_append_left _ (hkid y hy), fun y hy h2 z hz => ?_, ?_⟩ ?_
        · rcases List.mem_append.1 hy with h | h
          · exact hl y h
          · exact ⟨.step hxr.1 ht h, hkx.2 y h⟩
        · rcases List.mem_append.1 hy with h | h
          · exact List.mem_append_left _ (hol y h)
          · simp at h; subst h; exact List.mem_append_left _ hm
        · rw [getD_left (by omega)]
          by_cases e : q = j
          · subst e; rw [hx]; simp
          · exact List.mem_append_left _ (hq q (by omega))
        · rcases List.mem_append.1 hy with h | h
          · exact List.mem_append_left _ (hst y h h2 z hz)
          · simp at h; subst h; exact List.mem_append_right _ hz
        · simp only [List.length_append, List.length_cons, List.length_nil]
          have : (rdx ((0 : Int), ((0 : Int), ([] : List Int))) g' x).2.2.length ≤ 6 := hkl
          omega
        · simp only [List.length_append, List.length_cons, List.length_nil, Int.toNat_natCast]
          have : (rdx ((0 : Int), ((0 : Int), ([] : List Int))) g' x).2.2.length ≤ 6 := hkl
          omega
      · rw [wj]
        refine ih _ _ _ _ _ ⟨rfl, j + 1, rfl, by omega, hl, hnd2, fun y hy => ?_, fun q h => ?_, hkid, fun y hy h2 z hz => ?_, ?_⟩ ?_
        · rcases List.mem_append.1 hy with h | h
          · exact hol y h
          · simp at h; subst h; exact hm
        · by_cases e : q = j
          · subst e; rw [hx]; simp
          · exact List.mem_append_left _ (hq q (by omega))
        · rcases List.mem_append.1 hy with h | h
          · exact hst y h h2 z hz
          · simp at h; subst h; exact absurd h2 ht
        · simp only [List.length_append, List.length_cons, List.length_nil]; omega
        · simp only [List.length_append, List.length_cons, List.length_nil, Int.toNat_natCast]; omega
    · have hmo : x ∈ out := by
        rcases hv with ⟨e, _⟩ | ⟨i, e, hi, he, _⟩
        · omega
        · rw [← he, List.getD_eq_getElem?_getD, List.getElem?_eq_getElem hi]; exact List.getElem_mem _
      rw [wj]
      refine ih _ _ _ _ _ ⟨rfl, j + 1, rfl, by omega, hl, hnd, hol, fun q h => ?_, hkid, hst, hlen⟩ (by simp only [Int.toNat_natCast]; omega)
      by_cases e : q = j
      · subst e; rw [hx]; exact hmo
      · exact hq q (by omega)
  · have hall : ∀ x ∈ list, x ∈ out := by
      intro x hx
      obtain ⟨i, hi, e⟩ := List.getElem_of_mem hx
      have := hq i (by omega)
      rwa [List.getD_eq_getElem?_getD, List.getElem?_eq_getElem hi, Option.getD_some, e] at this
    refine ⟨out, rfl, fun x => ⟨fun hx => (hl x (hol x hx)).1, fun hx => ?_⟩, hnd, hout⟩
    induction hx with
    | kid hk' => exact hall _ (hkid _ hk')
    | step _ h2 hk' ih' => exact hall _ (hst _ ih' h2 _ hk')
end Go.Gx

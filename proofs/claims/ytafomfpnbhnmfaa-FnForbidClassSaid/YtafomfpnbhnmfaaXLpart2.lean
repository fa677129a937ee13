/-
  Plain laws about the printed functions.
-/
import Derived.Test.YtafomfpnbhnmfaaXLpart1
set_option linter.unusedVariables false
set_option linter.unusedSimpArgs false
namespace Go.Gx
theorem i_mostArg_tot (c : Int) : Tot (fun σ => F_Z85 (σ 0) c) (fun r => r = ((mostP c, ()), ())) := by
  refine tot_Z85 ?_
  unfold B_Z85 B_Z85_J0 mostP
  simp only [tot_cond, tot_jn, tot_some, beq_iff_eq, beq_eq_false_iff_ne, ne_eq]
  refine ⟨fun h => by simp [h], fun h0 => ⟨fun h => by simp [h], fun h1 => ⟨fun h => by simp [h], fun h13 => ⟨fun h => ⟨fun _ => by simp [h], fun h' => absurd h h'⟩, fun h15 => ⟨fun h => by simp [h], fun h16 => by simp [h0, h1, h13, h15, h16]⟩⟩⟩⟩⟩
theorem i_opOk_tot (c a : Int) : Tot (fun σ => F_i_opOk (σ 0) c a) (fun r => r = ((okOp (c, a), ()), ())) := by
  refine tot_i_opOk ?_
  unfold B_i_opOk
  have key : ∀ b : Bool, (b = true ↔ 0 ≤ c ∧ c ≤ 19 ∧ 0 ≤ a ∧ a ≤ mostP c) → ((b, ()), ()) = ((okOp (c, a), ()), ()) := by
    intro b hb
    have : b = okOp (c, a) := by
      rw [Bool.eq_iff_iff, hb]; simp [okOp]
    rw [this]
  simp only [tot_cond, tot_some, decide_eq_true_eq, decide_eq_false_iff_not]
  refine ⟨fun h1 => ⟨fun h2 => ⟨fun h3 => ?_, fun h3 => key _ (by simp; omega)⟩, fun h2 => key _ (by simp; omega)⟩, fun h1 => key _ (by simp; omega)⟩
  refine (i_mostArg_tot c).bind ?_
  rintro _ rfl
  rw [tot_some]
  exact key _ (by simp only [decide_eq_true_eq]; omega)
theorem i_ValidOps_tot {ops : List POp} (hl : ops.length ≤ 900000000000) : Tot (fun σ => F_Z70 (σ 0) ops) (fun r => r = ((okOps ops, ()), ())) := by
  refine tot_Z70 ?_
  unfold B_Z70
  have key := loop_Z70_L0 (Q := fun _ _ _ _ r => r = ((okOps ops, ()), ())) (I := fun o t5 t6 i => o = ops ∧ t5 = ops ∧ t6 = ops.length ∧ ∃ n : Nat, i = n ∧ n ≤ ops.length ∧ ops.all okOp = (ops.drop n).all okOp) (μ := fun _ _ _ i => (ops.length - i).toNat) ?_
  · exact key ops ops _ 0 ⟨rfl, rfl, rfl, 0, rfl, by omega, rfl⟩
  intro o t5 t6 i ⟨e1, e2, e3, n, e4, hn, hall⟩ again hag ih
  subst e1 e2 e3 e4
  unfold B_Z70_L0b
  simp only [tot_cond, tot_chk, tot_some, decide_eq_true_eq, decide_eq_false_iff_not, len, inb_iff]
  refine ⟨fun hlt => ⟨by omega, ?_⟩, fun hge => ?_⟩
  · have hn' : n < t5.length := by omega
    have hd : t5.drop n = rdx ((0 : Int), (0 : Int)) t5 n :: t5.drop (n + 1) := by
      rw [rdx_eq, List.drop_eq_getElem_cons hn', List.getD_eq_getElem?_getD, Int.toNat_natCast, List.getElem?_eq_getElem hn']; rfl
    refine (i_opOk_tot _ _).bind ?_
    rintro _ rfl
    simp only [tot_cond, tot_some, Bool.not_eq_true', Bool.not_eq_false']
    refine ⟨fun hb => ?_, fun hb => ?_⟩
    · have : t5.all okOp = false := by rw [hall, hd, List.all_cons, hb]; rfl
      simp [okOps, this]
    · rw [w64_succ (by omega) (by omega)]
      exact ih _ _ _ _ ⟨rfl, rfl, rfl, n + 1, rfl, by omega, by rw [hall, hd, List.all_cons, hb, Bool.true_and]⟩ (by simp; omega)
  · have : t5.all okOp = true := by rw [hall, List.drop_eq_nil_of_le (by omega)]; rfl
    simp [okOps, this]
    omega
end Go.Gx

/-
  Laws, part 8: valid graphs.
-/
set_option linter.unusedVariables false
set_option linter.unusedSimpArgs false
namespace Go.Gx
theorem says_iff {P : Prop} {b : Bool} (h : b = true ↔ P) : Says P ((b, ()), ()) := ⟨b, rfl, h⟩
theorem validNode_tot {g : List PNode} {root : Int} (hg : g.length ≤ 1000000) (n : PNode) (hn : n.2.2.length ≤ 1000000) : Tot (fun σ => F_Z63 (σ 0) g root n.1 n.2.1 n.2.2) (Says (NodeOk g n)) := by
  obtain ⟨k, v, kids⟩ := n
  refine tot_Z63 ?_
  unfold B_Z63
  have j0 : ∀ b : Bool, (b = false ↔ kids.length ≤ 6 ∧ InR g kids) → Tot (fun σ => B_Z63_J0 (σ 0) (F_s_allIn (σ 0)) (F_Z82 (σ 0)) (F_Z55 (σ 0)) g root k v kids b) (Says (NodeOk g (k, v, kids))) := by
    intro b hb
    unfold B_Z63_J0 B_Z63_J1
    rw [tot_cond]
    refine ⟨fun ht => ?_, fun hf => ?_⟩
    · rw [tot_some]
      refine says_false fun h => ?_
      have := hb.2 ⟨h.1, h.2.1⟩
      rw [ht] at this
      cases this
    obtain ⟨h6, hin⟩ := hb.1 hf
    have ok : ∀ {Q : Prop}, (NodeOk g (k, v, kids) ↔ Q) ↔ ((if k = 0 then 0 ≤ v ∧ v ≤ 999 ∧ kids = [] else if k = 1 then 0 ≤ v ∧ v ≤ 9 ∧ kids = [] else if k = 2 ∨ k = 3 then v = 0 else if k = 4 then v = 0 ∧ DictOk g kids else if k = 5 then 0 ≤ v ∧ v ≤ 9 ∧ kids.length ≤ 1 else False) ↔ Q) := by
      intro Q
      unfold NodeOk
      simp only [h6, hin, true_and]
    have fin : ∀ (b : Bool), ((if k = 0 then 0 ≤ v ∧ v ≤ 999 ∧ kids = [] else if k = 1 then 0 ≤ v ∧ v ≤ 9 ∧ kids = [] else if k = 2 ∨ k = 3 then v = 0 else if k = 4 then v = 0 ∧ DictOk g kids else if k = 5 then 0 ≤ v ∧ v ≤ 9 ∧ kids.length ≤ 1 else False) ↔ b = true) → Says (NodeOk g (k, v, kids)) ((b, ()), ()) := fun b h => says_iff (ok.2 h).symm
    have hlen : (len kids == 0) = decide (kids = []) := by
      rw [Bool.eq_iff_iff]; simp [len]
    simp only [tot_cond, tot_jn, beq_iff_eq, beq_eq_false_iff_ne, ne_eq]
    refine ⟨fun h0 => ?_, fun h0 => ⟨fun h1 => ?_, fun h1 => ⟨fun h2 => ?_, fun h2 => ⟨fun h3 => ?_, fun h3 => ⟨fun h4 => ⟨fun hv => ?_, fun hv => ?_⟩, fun h4 => ⟨fun h5 => ?_, fun h5 => ?_⟩⟩⟩⟩⟩⟩
    · refine (inRange_tot' v 0 999).bind ?_
      rintro _ rfl
      simp only [tot_cond, tot_some, decide_eq_true_eq, decide_eq_false_iff_not]
      exact ⟨fun hr => fin _ (by rw [if_pos h0, hlen, decide_eq_true_eq]; exact ⟨fun h => h.2.2, fun h => ⟨hr.1, hr.2, h⟩⟩), fun hr => fin _ (by rw [if_pos h0]; exact ⟨fun h => absurd ⟨h.1, h.2.1⟩ hr, fun h => by cases h⟩)⟩
    · refine (inRange_tot' v 0 9).bind ?_
      rintro _ rfl
      simp only [tot_cond, tot_some, decide_eq_true_eq, decide_eq_false_iff_not]
      exact ⟨fun hr => fin _ (by rw [if_neg h0, if_pos h1, hlen, decide_eq_true_eq]; exact ⟨fun h => h.2.2, fun h => ⟨hr.1, hr.2, h⟩⟩), fun hr => fin _ (by rw [if_neg h0, if_pos h1]; exact ⟨fun h => absurd ⟨h.1, h.2.1⟩ hr, fun h => by cases h⟩)⟩
    · refine ⟨fun _ => ?_, fun h => absurd h2 h⟩
      rw [tot_some]
      exact fin _ (by rw [if_neg h0, if_neg h1, if_pos (.inl h2), beq_iff_eq])
    · rw [tot_some]
      exact fin _ (by rw [if_neg h0, if_neg h1, if_pos (.inr h3), beq_iff_eq])
    · refine (validDict_tot hin h6).bind ?_
      rintro _ ⟨b2, rfl, hb2⟩
      rw [tot_some]
      exact fin _ (by rw [if_neg h0, if_neg h1, if_neg (by simp [h2, h3]), if_pos h4]; exact ⟨fun h => hb2.2 h.2, fun h => ⟨hv, hb2.1 h⟩⟩)
    · rw [tot_some]
      exact fin _ (by rw [if_neg h0, if_neg h1, if_neg (by simp [h2, h3]), if_pos h4]; exact ⟨fun h => absurd h.1 hv, fun h => by cases h⟩)
    · refine (inRange_tot' v 0 9).bind ?_
      rintro _ rfl
      simp only [tot_cond, tot_some, decide_eq_true_eq, decide_eq_false_iff_not]
      exact ⟨fun hr => fin _ (by rw [if_neg h0, if_neg h1, if_neg (by simp [h2, h3]), if_neg h4, if_pos h5, decide_eq_true_eq]; exact ⟨fun h => by have := h.2.2; simp only [len]; omega, fun h => ⟨hr.1, hr.2, by simp only [len] at h; omega⟩⟩),
        fun hr => fin _ (by rw [if_neg h0, if_neg h1, if_neg (by simp [h2, h3]), if_neg h4, if_pos h5]; exact ⟨fun h => absurd ⟨h.1, h.2.1⟩ hr, fun h => by cases h⟩)⟩
    · rw [tot_some]
      exact fin _ (by rw [if_neg h0, if_neg h1, if_neg (by simp [h2, h3]), if_neg h4, if_neg h5]; simp)
  simp only [tot_cond, tot_jn, decide_eq_true_eq, decide_eq_false_iff_not, len]
  refine ⟨fun h => j0 true ⟨fun h' => Bool.noConfusion h', fun h' => by omega⟩, fun h => ?_⟩
  rw [show w64 ((g.length : Int) - 1) = (g.length : Int) - 1 from w64_id (by omega) (by omega)]
  refine (allIn_tot (by simp only [] at hn; omega) 0 _).bind ?_
  rintro _ ⟨b, rfl, hb⟩
  rw [tot_jn]
  refine j0 (!b) ?_
  rw [Bool.not_eq_false', hb]
  constructor
  · intro h1; exact ⟨by omega, fun x hx => by have := h1 x hx; omega⟩
  · intro h1 x hx; have := h1.2 x hx; omega
/-- Every node's kids are nodes, and not too many. -/
def Kidly (g : List PNode) : Prop := ∀ n ∈ g, n.2.2.length ≤ 6 ∧ InR g n.2.2
theorem nd_mem {g : List PNode} {i : Int} (h0 : 0 ≤ i) (h1 : i < (g.length : Int)) : nd g i ∈ g := rdx_mem h0 h1
theorem nodup_len {n : Nat} : ∀ {l : List Int}, l.Nodup → (∀ x ∈ l, 0 ≤ x ∧ x < (n : Int)) → l.length ≤ n := by
  induction n with
  | zero =>
    intro l _ h
    cases l with
    | nil => simp
    | cons x l => have := h x (by simp); omega
  | succ n ih =>
    intro l hn h
    have h1 : (l.erase (n : Int)).Nodup := hn.erase _
    have h2 := ih h1 (fun x hx => by
      have hx' := List.mem_of_mem_erase hx
      have := h x hx'
      have hne : x ≠ (n : Int) := fun e => by subst e; exact (List.Nodup.not_mem_erase hn) hx
      omega)
    by_cases hm : (n : Int) ∈ l
    · rw [List.length_erase_of_mem hm] at h2; omega
    · rw [List.erase_of_not_mem hm] at h2; omega
theorem getD_left {α : Type} {l m : List α} {i : Nat} {d : α} (h : i < l.length) : (l ++ m).getD i d = l.getD i d := by
  rw [List.getD_eq_getElem?_getD, List.getD_eq_getElem?_getD, List.getElem?_append_left h]
theorem tupleReach_tot {g : List PNode} {root : Int} (hk : Kidly g) (hg : g.length ≤ 1000000) {at1 : Int} (h0 : 0 ≤ at1) (h1 : at1 < (g.length : Int)) :
    Tot (fun σ => F_Z45 (σ 0) g root at1) (fun r => ∃ out : List Int, r = ((out, ()), ()) ∧ (∀ x, x ∈ out ↔ TReach g at1 x) ∧ out.Nodup ∧ out.length ≤ g.length) := by
  refine tot_Z45 ?_
  unfold B_Z45
  have hat := hk _ (nd_mem h0 h1)
  rw [tot_chk]
  refine ⟨inb_iff.2 ⟨h0, h1⟩, (copyInts_tot' (l := (nd g at1).2.2) (by omega)).bind ?_⟩
  rintro _ rfl
  have key := loop_Z45_L1 (Q := fun _ _ _ _ _ r => ∃ out : List Int, r = ((out, ()), ()) ∧ (∀ x, x ∈ out ↔ TReach g at1 x) ∧ out.Nodup ∧ out.length ≤ g.length)
    (I := fun g' _ out list k7 => g' = g ∧ ∃ j : Nat, k7 = j ∧ j ≤ list.length ∧ (∀ x ∈ list, TReach g at1 x ∧ 0 ≤ x ∧ x < (g.length : Int)) ∧ out.Nodup ∧ (∀ x ∈ out, x ∈ list) ∧ (∀ q, q < j → list.getD q 0 ∈ out) ∧
      (∀ x ∈ (nd g at1).2.2, x ∈ list) ∧ (∀ x ∈ out, (nd g x).1 = 2 → ∀ y ∈ (nd g x).2.2, y ∈ list) ∧ list.length ≤ 6 + 6 * out.length) (μ := fun _ _ out list k7 => 7 * (g.length - out.length) + (list.length - k7.toNat)) ?_
  · exact key g root [] _ 0 ⟨rfl, 0, rfl, by omega, fun x hx => ⟨.kid hx, hat.2 x hx⟩, List.nodup_nil, fun x hx => by simp at hx, fun q hq => by omega, fun x hx => hx, fun x hx => by simp at hx, by simp; exact hat.1⟩
  intro g' r' out list k7 ⟨e1, j, e2, hj, hl, hnd, hol, hq, hkid, hst, hlen⟩ again hag ih
  subst e1 e2
  unfold B_Z45_L1b B_Z45_J0
  have hout : out.length ≤ g'.length := nodup_len hnd fun x hx => (hl x (hol x hx)).2
  simp only [tot_cond, tot_chk, tot_jn, tot_some, decide_eq_true_eq, decide_eq_false_iff_not, len, inb_iff, Int.toNat_natCast]
  refine ⟨fun hlt => ⟨by omega, by omega, ?_⟩, fun hge => ?_⟩
  · have hj' : j < list.length := by omega
    have hm : list.getD j 0 ∈ list := by rw [List.getD_eq_getElem?_getD, List.getElem?_eq_getElem hj']; exact List.getElem_mem _
    generalize hx : list.getD j 0 = x at hm
    have hxr := hl x hm
    refine (placeIn_tot (by omega) x).bind ?_
    rintro _ ⟨v, rfl, hv⟩
    simp only [tot_cond, tot_chk, tot_jn, decide_eq_true_eq, decide_eq_false_iff_not, room_iff, inb_iff, List.length_cons, List.length_nil, beq_iff_eq, beq_eq_false_iff_ne, ne_eq]
    have wj : w64 ((j : Int) + 1) = ((j + 1 : Nat) : Int) := w64_succ (by omega) (by omega)
    refine ⟨fun hneg => ?_, fun hpos => ?_⟩
    · have hni : x ∉ out := by
        rcases hv with ⟨_, h⟩ | ⟨i, e, _⟩
        · exact h
        · omega
      have hnd2 : (out ++ [x]).Nodup := by
        rw [List.nodup_append]
        exact ⟨hnd, by simp, fun a ha b hb e => by simp at hb; subst hb; subst e; exact hni ha⟩
      have hout2 : (out ++ [x]).length ≤ g'.length := nodup_len hnd2 fun y hy => by
        rcases List.mem_append.1 hy with h | h
        · exact (hl y (hol y h)).2
        · simp at h; subst h; exact hxr.2
      simp only [List.length_append, List.length_cons, List.length_nil] at hout2
      have hkx := hk _ (nd_mem hxr.2.1 hxr.2.2)
      have hkl : (nd g' x).2.2.length ≤ 6 := hkx.1
      refine ⟨by omega, by omega, by omega, by omega, by omega, hxr.2, fun ht => ⟨by omega, by omega, hxr.2, by show list.length + (nd g' x).2.2.length ≤ _; omega, ?_⟩, fun ht => ?_⟩
      · rw [wj]
        refine ih _ _ _ _ _ ⟨rfl, j + 1, rfl, by simp only [List.length_append]; omega, fun y hy => ?_, hnd2, fun y hy => ?_, fun q h => ?_, fun y hy => List.mem_append_left _ (hkid y hy), fun y hy h2 z hz => ?_, ?_⟩ ?_
        · rcases List.mem_append.1 hy with h | h
          · exact hl y h
          · exact ⟨.step hxr.1 ht h, hkx.2 y h⟩
        · rcases List.mem_append.1 hy with h | h
          · exact List.mem_append_left _ (hol y h)
          · simp at h; subst h; exact List.mem_append_left _ hm
        · rw [getD_left (by omega)]
          by_cases e : q = j
          · subst e; rw [hx]; simp
          · exact List.mem_append_left _ (hq q (by omega))
        · rcases List.mem_append.1 hy with h | h
          · exact List.mem_append_left _ (hst y h h2 z hz)
          · simp at h; subst h; exact List.mem_append_right _ hz
        · simp only [List.length_append, List.length_cons, List.length_nil]
          have : (rdx ((0 : Int), ((0 : Int), ([] : List Int))) g' x).2.2.length ≤ 6 := hkl
          omega
        · simp only [List.length_append, List.length_cons, List.length_nil, Int.toNat_natCast]
          have : (rdx ((0 : Int), ((0 : Int), ([] : List Int))) g' x).2.2.length ≤ 6 := hkl
          omega
      · rw [wj]
        refine ih _ _ _ _ _ ⟨rfl, j + 1, rfl, by omega, hl, hnd2, fun y hy => ?_, fun q h => ?_, hkid, fun y hy h2 z hz => ?_, ?_⟩ ?_
        · rcases List.mem_append.1 hy with h | h
          · exact hol y h
          · simp at h; subst h; exact hm
        · by_cases e : q = j
          · subst e; rw [hx]; simp
          · exact List.mem_append_left _ (hq q (by omega))
        · rcases List.mem_append.1 hy with h | h
          · exact hst y h h2 z hz
          · simp at h; subst h; exact absurd h2 ht
        · simp only [List.length_append, List.length_cons, List.length_nil]; omega
        · simp only [List.length_append, List.length_cons, List.length_nil, Int.toNat_natCast]; omega
    · have hmo : x ∈ out := by
        rcases hv with ⟨e, _⟩ | ⟨i, e, hi, he, _⟩
        · omega
        · rw [← he, List.getD_eq_getElem?_getD, List.getElem?_eq_getElem hi]; exact List.getElem_mem _
      rw [wj]
      refine ih _ _ _ _ _ ⟨rfl, j + 1, rfl, by omega, hl, hnd, hol, fun q h => ?_, hkid, hst, hlen⟩ (by simp only [Int.toNat_natCast]; omega)
      by_cases e : q = j
      · subst e; rw [hx]; exact hmo
      · exact hq q (by omega)
  · have hall : ∀ x ∈ list, x ∈ out := by
      intro x hx
      obtain ⟨i, hi, e⟩ := List.getElem_of_mem hx
      have := hq i (by omega)
      rwa [List.getD_eq_getElem?_getD, List.getElem?_eq_getElem hi, Option.getD_some, e] at this
    refine ⟨out, rfl, fun x => ⟨fun hx => (hl x (hol x hx)).1, fun hx => ?_⟩, hnd, hout⟩
    induction hx with
    | kid hk' => exact hall _ (hkid _ hk')
    | step _ h2 hk' ih' => exact hall _ (hst _ ih' h2 _ hk')
end Go.Gx

/-
  Laws, part 9: graphs that are drawn.
-/
set_option linter.unusedVariables false
set_option linter.unusedSimpArgs false
namespace Go.Gx
theorem NodeOk.kidly {g : List PNode} {n : PNode} (h : NodeOk g n) : n.2.2.length ≤ 6 ∧ InR g n.2.2 := ⟨h.1, h.2.1⟩
theorem validGraph_tot {g : List PNode} {root : Int} (hg : g.length ≤ 1000000) (hk : ∀ n ∈ g, n.2.2.length ≤ 1000000) : Tot (fun σ => F_Z51 (σ 0) g root) (Says (ValidG g root)) := by
  refine tot_Z51 ?_
  unfold B_Z51
  refine (inRange_tot' (len g) 1 12).bind ?_
  rintro _ rfl
  have j0 : ∀ b : Bool, (b = false ↔ 1 ≤ g.length ∧ g.length ≤ 12 ∧ 0 ≤ root ∧ root < (g.length : Int)) → Tot (fun σ => B_Z51_J0 (σ 0) (F_Z82 (σ 0)) (F_Z63 (σ 0)) (F_Z45 (σ 0)) (F_Z81 (σ 0)) g root b) (Says (ValidG g root)) := by
    intro b hb
    unfold B_Z51_J0
    rw [tot_cond]
    refine ⟨fun ht => ?_, fun hf => ?_⟩
    · rw [tot_some]
      refine says_false fun h => ?_
      have := hb.2 ⟨h.pos, h.most, h.root⟩
      rw [ht] at this
      cases this
    obtain ⟨p1, p2, p3⟩ := hb.1 hf
    have key := loop_Z51_L1 (Q := fun _ _ _ r => Says (ValidG g root) r) (I := fun g' r' i => g' = g ∧ r' = root ∧ ∃ j : Nat, i = j ∧ j ≤ g.length ∧ ∀ q : Nat, q < j → NodeOk g (nd g q)) (μ := fun _ _ i => (g.length - i).toNat) ?_
    · exact key g root 0 ⟨rfl, rfl, 0, rfl, by omega, fun q hq => by omega⟩
    intro g' r' i ⟨e1, e2, j, e3, hj, hq⟩ again hag ih
    subst e1 e2 e3
    unfold B_Z51_L1b
    simp only [tot_cond, tot_chk, tot_some, decide_eq_true_eq, decide_eq_false_iff_not, len, inb_iff]
    refine ⟨fun hlt => ⟨by omega, ?_⟩, fun hge => ?_⟩
    · have hm : nd g' (j : Int) ∈ g' := nd_mem (by omega) hlt
      refine (validNode_tot hg (nd g' (j : Int)) (hk _ hm)).bind ?_
      rintro _ ⟨b2, rfl, hb2⟩
      simp only [tot_cond, tot_some, Bool.not_eq_true', Bool.not_eq_false']
      refine ⟨fun hf2 => says_false fun h => ?_, fun ht2 => ?_⟩
      · have := hb2.2 (h.node _ hm); rw [hf2] at this; cases this
      · rw [w64_succ (by omega) (by omega)]
        refine ih _ _ _ ⟨rfl, rfl, j + 1, rfl, by omega, fun q h => ?_⟩ (by simp; omega)
        by_cases e : q = j
        · subst e; exact hb2.1 ht2
        · exact hq q (by omega)
    · have hnode : ∀ n ∈ g', NodeOk g' n := by
        intro n hn
        obtain ⟨i, hi, e⟩ := List.getElem_of_mem hn
        have := hq i (by omega)
        rw [nd, rdx_eq, Int.toNat_natCast, List.getD_eq_getElem?_getD, List.getElem?_eq_getElem hi, Option.getD_some, e] at this
        exact this
      have hkid : Kidly g' := fun n hn => (hnode n hn).kidly
      have key2 := loop_Z51_L3 (Q := fun _ _ _ r => Says (ValidG g' r') r) (I := fun g2 r2 i => g2 = g' ∧ r2 = r' ∧ ∃ j : Nat, i = j ∧ j ≤ g'.length ∧ ∀ q : Nat, q < j → (nd g' q).1 = 2 → ¬ TReach g' q q) (μ := fun _ _ i => (g'.length - i).toNat) ?_
      · exact key2 g' r' 0 ⟨rfl, rfl, 0, rfl, by omega, fun q hq => by omega⟩
      intro g2 r2 i ⟨e1, e2, m, e3, hm, ht⟩ again2 hag2 ih2
      subst e1 e2 e3
      unfold B_Z51_L3b B_Z51_J2
      have next : ¬ ((nd g2 (m : Int)).1 = 2 ∧ TReach g2 m m) → (m : Int) < g2.length → Tot (fun σ => again2 σ ((g2, r2, ()), w64 ((m : Int) + 1), ())) (Says (ValidG g2 r2)) := by
        intro hn hlt
        rw [w64_succ (by omega) (by omega)]
        refine ih2 _ _ _ ⟨rfl, rfl, m + 1, rfl, by omega, fun q h h2 => ?_⟩ (by simp; omega)
        by_cases e : q = m
        · subst e; exact fun h3 => hn ⟨h2, h3⟩
        · exact ht q (by omega) h2
      simp only [tot_cond, tot_chk, tot_jn, tot_some, decide_eq_true_eq, decide_eq_false_iff_not, len, inb_iff, beq_iff_eq, beq_eq_false_iff_ne, ne_eq]
      refine ⟨fun hlt => ⟨by omega, fun h2 => ?_, fun h2 => ⟨fun h => absurd h (by decide), fun _ => next (fun h => h2 h.1) hlt⟩⟩, fun hge => says_true ⟨p1, p2, p3, hnode, fun i hi => ht i (by omega)⟩⟩
      refine (tupleReach_tot hkid hg (by omega) hlt).bind ?_
      rintro _ ⟨out, rfl, ho, hnd, hol⟩
      refine (placeIn_tot (by simp only []; omega) _).bind ?_
      rintro _ ⟨v, rfl, hv⟩
      simp only [tot_cond, tot_jn, tot_some, decide_eq_true_eq, decide_eq_false_iff_not]
      refine ⟨fun hpos => says_false fun h => ?_, fun hneg => next (fun h => ?_) hlt⟩
      · refine h.tup m (by omega) h2 ((ho _).1 ?_)
        rcases hv with ⟨e, _⟩ | ⟨i, e, hi, he, _⟩
        · omega
        · rw [← he, List.getD_eq_getElem?_getD, List.getElem?_eq_getElem hi]; exact List.getElem_mem _
      · rcases hv with ⟨_, hno⟩ | ⟨i, e, _⟩
        · exact hno ((ho _).2 h.2)
        · omega
  simp only [tot_cond, tot_jn, Bool.not_eq_true', Bool.not_eq_false', decide_eq_true_eq, decide_eq_false_iff_not, len]
  refine ⟨fun h => j0 true ⟨fun h' => Bool.noConfusion h', fun h' => by omega⟩, fun h => ?_⟩
  rw [show w64 ((g.length : Int) - 1) = (g.length : Int) - 1 from w64_id (by omega) (by omega)]
  refine (inRange_tot' root 0 _).bind ?_
  rintro _ rfl
  rw [tot_jn]
  refine j0 _ ?_
  rw [Bool.not_eq_false', decide_eq_true_eq]
  omega
/-- A node without kids, drawn. -/
def LeafOk (k v : Int) : Prop := (k = 0 ∧ 0 ≤ v ∧ v ≤ 999) ∨ (k = 1 ∧ 0 ≤ v ∧ v ≤ 9) ∨ (2 ≤ k ∧ k ≤ 4 ∧ v = 0) ∨ (k = 5 ∧ 0 ≤ v ∧ v ≤ 9)
theorem someNode_tot {b : List Int} {p : Int} (h : RD b p) (hp : p ≤ 900000000) : Tot (fun σ => F_Z65 (σ 0) b p) (Drawn b p 3 fun x => ∃ k v, x = ((k, v, (), ()), ()) ∧ LeafOk k v) := by
  refine tot_Z65 ?_
  unfold B_Z65 B_Z65_J0 B_Z65_J1
  refine (pick_tot h (by omega) (by omega)).bind ?_
  rintro _ ⟨_, q, rfl, h1, h2, c, rfl, h3, h4⟩
  have h4 := h4 (by omega)
  have hq := h.next h1 (by omega)
  have fin : ∀ (q' k v : Int), p ≤ q' → q' ≤ p + 3 → LeafOk k v → Drawn b p 3 (fun x => ∃ k v, x = ((k, v, (), ()), ()) ∧ LeafOk k v) (((k, v, (), ()), ()), ((b, q', ()), ())) := fun q' k v h1 h2 h3 => ⟨_, _, rfl, h1, h2, k, v, rfl, h3⟩
  have last : Tot (fun σ => (F_Z37 (σ 0) b q 3).bind fun r30 => some ((((5 : Int), r30.1.1, (), ()), ()), ((r30.2.1.1, r30.2.1.2.1, ()), ()))) (Drawn b p 3 (fun x => ∃ k v, x = ((k, v, (), ()), ()) ∧ LeafOk k v)) := by
    refine (pick_tot hq (by omega) (by omega)).bind ?_
    rintro _ ⟨_, q2, rfl, g1, g2, a, rfl, g3, g4⟩
    have g4 := g4 (by omega)
    rw [tot_some]
    exact fin q2 5 a (by omega) (by omega) (.inr (.inr (.inr (by omega))))
  simp only [tot_cond, tot_jn, tot_some, beq_iff_eq, beq_eq_false_iff_ne, ne_eq]
  have s2 : Drawn b p 3 (fun x => ∃ k v, x = ((k, v, (), ()), ()) ∧ LeafOk k v) (((2, 0, (), ()), ()), ((b, q, ()), ())) := fin q 2 0 (by omega) (by omega) (.inr (.inr (.inl (by omega))))
  have s3 : Drawn b p 3 (fun x => ∃ k v, x = ((k, v, (), ()), ()) ∧ LeafOk k v) (((3, 0, (), ()), ()), ((b, q, ()), ())) := fin q 3 0 (by omega) (by omega) (.inr (.inr (.inl (by omega))))
  have s4 : Drawn b p 3 (fun x => ∃ k v, x = ((k, v, (), ()), ()) ∧ LeafOk k v) (((4, 0, (), ()), ()), ((b, q, ()), ())) := fin q 4 0 (by omega) (by omega) (.inr (.inr (.inl (by omega))))
  refine ⟨fun h0 => ?_, fun h0 => ⟨fun h1' => ?_, fun h1' => ?_⟩⟩
  · refine (pick_tot hq (by omega) (by omega)).bind ?_
    rintro _ ⟨_, q2, rfl, g1, g2, a, rfl, g3, g4⟩
    have g4 := g4 (by omega)
    refine (one_tot (hq.next g1 (by omega)) (by omega) (by simp) (by simp)).bind ?_
    rintro _ ⟨_, q3, rfl, f1, f2, v, rfl, hv⟩
    rw [tot_some]
    simp only [List.mem_cons, List.not_mem_nil, or_false] at hv
    exact fin q3 0 v (by omega) (by omega) (.inl (by omega))
  · refine (pick_tot hq (by omega) (by omega)).bind ?_
    rintro _ ⟨_, q2, rfl, g1, g2, a, rfl, g3, g4⟩
    have g4 := g4 (by omega)
    rw [tot_some]
    exact fin q2 1 a (by omega) (by omega) (.inr (.inl (by omega)))
  · simp only [s2, s3, s4, last, implies_true, and_self]
end Go.Gx

/-
  Laws, part 10: a graph that is drawn is valid.
-/
set_option linter.unusedVariables false
set_option linter.unusedSimpArgs false
namespace Go.Gx
abbrev ONode : Type := Int × Int × Option (List Int)
abbrev od : ONode := ((0 : Int), ((0 : Int), (none : Option (List Int))))
abbrev cvN (p : ONode) : PNode := (p.1, (p.2.1, p.2.2.getD []))
theorem set_getD {α : Type} {l : List α} {i : Nat} {d : α} : l.set i (l.getD i d) = l := by
  by_cases h : i < l.length
  · rw [List.getD_eq_getElem?_getD, List.getElem?_eq_getElem h, Option.getD_some]; exact List.set_getElem_self h
  · rw [List.set_eq_of_length_le (by omega)]
theorem getD_set_ne {α : Type} {l : List α} {i j : Nat} {x d : α} (h : j ≠ i) : (l.set i x).getD j d = l.getD j d := by
  rw [List.getD_eq_getElem?_getD, List.getD_eq_getElem?_getD, List.getElem?_set_ne (by omega)]
def AddOk (g : List ONode) (root : Int) (i : Nat) (x : (List ONode × Int × Unit) × Unit) : Prop :=
  ∃ g', x = ((g', root, ()), ()) ∧ ValidG (g'.map cvN) root ∧ g'.length = g.length ∧ ∀ j, j ≠ i → g'.getD j od = g.getD j od
theorem addKids_tot {b : List Int} {p : Int} (h : RD b p) (hp : p ≤ 800000000) {g : List ONode} {root : Int} (hv : ValidG (g.map cvN) root) {i : Nat} (hi : i < g.length) (hn : (g.getD i od).2.2 = none) :
    Tot (fun σ => F_Z87 (σ 0) b p g root i) (Drawn b p 20 (AddOk g root i)) := by
  have hlen : g.length ≤ 12 := by have := hv.most; simpa using this
  refine tot_Z87 ?_
  unfold B_Z87
  simp only [tot_chk, inb_iff, decide_eq_true_eq, Int.toNat_natCast]
  refine ⟨by omega, hi, (one_tot h (by omega) (by simp) (by simp)).bind ?_⟩
  rintro _ ⟨_, q, rfl, h1, h2, n, rfl, hnm⟩
  have hnn : 0 ≤ n ∧ n ≤ 4 := by
    simp only [List.mem_cons, List.not_mem_nil, or_false] at hnm
    omega
  rw [tot_chk]
  refine ⟨by rw [show (g.getD i od).2.2 = none from hn]; rfl, ?_⟩
  have key := loop_Z87_L3 (Q := fun _ _ _ _ _ _ _ _ _ _ r => Drawn b p 20 (AddOk g root i) r)
    (I := fun b' q' at2 g' r' _ k v kids m => b' = b ∧ at2 = (i : Int) ∧ g' = g ∧ r' = root ∧ p ≤ q' ∧ q' + 4 * m ≤ p + 17 ∧ 0 ≤ m ∧ m ≤ 4 ∧ (kids.length : Int) + 2 * m ≤ 10) (μ := fun _ _ _ _ _ _ _ _ _ m => m.toNat) ?_
  · exact key b q i g root 0 _ _ [] n ⟨rfl, rfl, rfl, rfl, h1, by omega, hnn.1, hnn.2, by simp; omega⟩
  intro b' q' at2 g' r' t6 k v kids m ⟨e1, e2, e3, e4, g1, g2, g3, g4, g5⟩ again hag ih
  subst e1 e2 e3 e4
  have hr := h.next g1 (by omega)
  unfold B_Z87_L3b
  rw [tot_cond]
  simp only [decide_eq_true_eq, decide_eq_false_iff_not]
  refine ⟨fun hm => ?_, fun hm => ?_⟩
  · -- a round
    have w : w64 (m - 1) = m - 1 := w64_id (by omega) (by omega)
    have j2 : ∀ (q2 : Int) (kids2 : List Int), q' ≤ q2 → q2 ≤ q' + 4 → kids2.length ≤ kids.length + 2 → Tot (fun σ => B_Z87_J2 (σ 0) (F_Z40 (σ 0)) (F_Z37 (σ 0)) (F_s_isKey (σ 0)) (F_Z51 (σ 0)) (again σ) b' q2 i g' r' t6 k v kids2 m) (Drawn b' p 20 (AddOk g' r' i)) := by
      intro q2 kids2 k1 k2 k3
      unfold B_Z87_J2
      rw [w]
      exact ih _ _ _ _ _ _ _ _ _ _ ⟨rfl, rfl, rfl, rfl, by omega, by omega, by omega, by omega, by omega⟩ (by omega)
    have hkl : kids.length ≤ 10 := by omega
    have j1 : ∀ (q2 kid : Int) (t : Bool), q' ≤ q2 → q2 ≤ q' + 2 → Tot (fun σ => B_Z87_J1 (σ 0) (F_Z40 (σ 0)) (F_Z37 (σ 0)) (F_s_isKey (σ 0)) (F_Z51 (σ 0)) (again σ) b' q2 i g' r' t6 k v kids m kid t) (Drawn b' p 20 (AddOk g' r' i)) := by
      intro q2 kid t k1 k2
      unfold B_Z87_J1
      rw [tot_cond]
      refine ⟨fun _ => ?_, fun _ => ?_⟩
      · refine (pick_tot (hr.next k1 (by omega)) (by omega) (by simp only [len]; omega)).bind ?_
        rintro _ ⟨_, q3, rfl, f1, f2, y, rfl, f3, f4⟩
        rw [tot_chk]
        refine ⟨room_iff.2 (by simp only [List.length_cons, List.length_nil]; omega), ?_⟩
        rw [tot_jn]
        exact j2 q3 _ (by omega) (by omega) (by simp)
      · rw [tot_jn]
        exact j2 q2 kids k1 (by omega) (by omega)
    refine (pick_tot hr (by omega) (by simp only [len]; omega)).bind ?_
    rintro _ ⟨_, q2, rfl, f1, f2, kid, rfl, f3, f4⟩
    have f4 := f4 (by simp only [len]; omega)
    simp only [len] at f4
    have j0 : ∀ (t : Bool), Tot (fun σ => B_Z87_J0 (σ 0) (F_Z40 (σ 0)) (F_Z37 (σ 0)) (F_s_isKey (σ 0)) (F_Z51 (σ 0)) (again σ) b' q2 i g' r' t6 k v kids m kid k t) (Drawn b' p 20 (AddOk g' r' i)) := by
      intro t
      unfold B_Z87_J0
      rw [tot_cond]
      refine ⟨fun _ => ?_, fun _ => ?_⟩
      · rw [tot_chk]
        refine ⟨room_iff.2 (by simp only [List.length_cons, List.length_nil]; omega), ?_⟩
        rw [tot_jn]
        exact j2 q2 _ f1 (by omega) (by simp)
      · rw [tot_cond]
        refine ⟨fun _ => ?_, fun _ => ?_⟩
        · rw [tot_jn]
          exact j2 q2 _ f1 (by omega) (by simp)
        · rw [tot_cond]
          refine ⟨fun _ => ?_, fun _ => ?_⟩
          · rw [tot_cond]
            refine ⟨fun _ => ?_, fun _ => ?_⟩
            · simp only [tot_chk, inb_iff, decide_eq_true_eq]
              refine ⟨by omega, by omega, (isKey_tot _ _ []).bind ?_⟩
              rintro _ ⟨b2, rfl, _⟩
              rw [tot_jn]
              exact j1 q2 kid _ f1 (by omega)
            · rw [tot_jn]
              exact j1 q2 kid _ f1 (by omega)
          · rw [tot_jn]
            exact j2 q2 kids f1 (by omega) (by omega)
    rw [tot_cond]
    refine ⟨fun _ => ?_, fun _ => ?_⟩
    · rw [tot_jn]; exact j0 _
    · rw [tot_jn]; exact j0 _
  · -- the end
    have hkl : kids.length ≤ 10 := by omega
    simp only [tot_chk, inb_iff, decide_eq_true_eq, Int.toNat_natCast]
    refine ⟨by omega, hi, by omega, hi, ?_⟩
    have hkl2 : ∀ n ∈ (g'.set i (k, (v, (some kids)))).map cvN, n.2.2.length ≤ 1000000 := by
      intro n hn'
      obtain ⟨o, ho, rfl⟩ := List.mem_map.1 hn'
      rcases List.mem_or_eq_of_mem_set ho with ho | rfl
      · have := (hv.node (cvN o) (List.mem_map.2 ⟨o, ho, rfl⟩)).1
        omega
      · show kids.length ≤ _; omega
    refine (validGraph_tot (root := r') (by simp; omega) hkl2).bind ?_
    rintro _ ⟨b2, rfl, hb2⟩
    unfold B_Z87_J4
    simp only [tot_cond, tot_chk, tot_jn, tot_some, Bool.not_eq_true', Bool.not_eq_false', inb_iff, decide_eq_true_eq, List.length_set, Int.toNat_natCast]
    refine ⟨fun _ => ⟨by omega, hi, _, _, rfl, g1, by omega, g', ?_, hv, rfl, fun j _ => rfl⟩, fun ht => ⟨_, _, rfl, g1, by omega, _, rfl, hb2.1 ht, by simp, fun j hj => getD_set_ne hj⟩⟩
    rw [List.set_set]
    exact congrArg (fun l => ((l, r', ()), ())) (set_getD (d := od))
theorem leaf_valid {g : List ONode} {root : Int} (hp : 1 ≤ g.length) (hm : g.length ≤ 12) (hr : 0 ≤ root ∧ root < (g.length : Int)) (hn : ∀ n ∈ g, LeafOk n.1 n.2.1 ∧ n.2.2 = none) : ValidG (g.map cvN) root := by
  have hnd : ∀ i, (nd (g.map cvN) i).2.2 = [] := by
    intro i
    unfold nd
    rw [rdx_eq, List.getD_eq_getElem?_getD, List.getElem?_map]
    cases hq : g[i.toNat]? with
    | none => rfl
    | some o =>
      have := (hn o (List.mem_of_getElem? hq)).2
      simp [this]
  refine ⟨by simpa using hp, by simpa using hm, by simpa using hr, fun n hn' => ?_, fun i _ _ ht => ?_⟩
  · obtain ⟨o, ho, rfl⟩ := List.mem_map.1 hn'
    obtain ⟨hl, hno⟩ := hn o ho
    refine ⟨by simp [hno], fun x hx => by simp [hno] at hx, ?_⟩
    simp only [hno, Option.getD_none]
    rcases hl with ⟨e, h1, h2⟩ | ⟨e, h1, h2⟩ | ⟨h1, h2, h3⟩ | ⟨e, h1, h2⟩
    · rw [if_pos e]; exact ⟨h1, h2, trivial⟩
    · rw [if_neg (by omega), if_pos e]; exact ⟨h1, h2, trivial⟩
    · rw [if_neg (by omega), if_neg (by omega)]
      by_cases e : o.1 = 2 ∨ o.1 = 3
      · rw [if_pos e]; exact h3
      · rw [if_neg e, if_pos (by omega)]
        exact ⟨h3, ⟨fun i hi => by simp at hi, by simp⟩⟩
    · rw [if_neg (by omega), if_neg (by omega), if_neg (by omega), if_neg (by omega), if_pos e]; exact ⟨h1, h2, by simp⟩
  · cases ht with
    | kid hk => rw [hnd] at hk; simp at hk
    | step _ _ hk => rw [hnd] at hk; simp at hk
theorem someGraph_tot {b : List Int} {p : Int} (h : RD b p) (hp : p ≤ 700000000) : Tot (fun σ => F_Z59 (σ 0) b p) (Drawn b p 400 fun x => ∃ (g : List PNode) (root : Int), x = ((g, root, ()), ()) ∧ ValidG g root) := by
  refine tot_Z59 ?_
  unfold B_Z59
  refine (one_tot h (by omega) (by simp) (by simp)).bind ?_
  rintro _ ⟨_, q, rfl, h1, h2, n, rfl, hnm⟩
  have hnn : 1 ≤ n ∧ n ≤ 10 := by
    simp only [List.mem_cons, List.not_mem_nil, or_false] at hnm
    omega
  have key := loop_Z59_L0 (Q := fun _ _ _ _ _ _ r => Drawn b p 400 (fun x => ∃ (g : List PNode) (root : Int), x = ((g, root, ()), ()) ∧ ValidG g root) r)
    (I := fun b' q' _ g' _ m => b' = b ∧ p ≤ q' ∧ q' + 3 * m ≤ p + 40 ∧ 0 ≤ m ∧ m ≤ 10 ∧ 1 ≤ (g'.length : Int) + m ∧ (g'.length : Int) + m ≤ 10 ∧ ∀ x ∈ g', LeafOk x.1 x.2.1 ∧ x.2.2 = none) (μ := fun _ _ _ _ _ m => m.toNat) ?_
  · exact key b q 0 [] 0 n ⟨rfl, h1, by omega, by omega, hnn.2, by simp; omega, by simp; omega, fun x hx => by simp at hx⟩
  intro b' q' t2 g' r0 m ⟨e1, g1, g2, g3, g4, g5, g6, g7⟩ again hag ih
  subst e1
  have hr := h.next g1 (by omega)
  unfold B_Z59_L0b
  rw [tot_cond]
  simp only [decide_eq_true_eq, decide_eq_false_iff_not]
  refine ⟨fun hm => ?_, fun hm => ?_⟩
  · refine (someNode_tot hr (by omega)).bind ?_
    rintro _ ⟨_, q2, rfl, f1, f2, k, v, rfl, hl⟩
    rw [tot_chk]
    refine ⟨room_iff.2 (by simp only [List.length_cons, List.length_nil]; omega), ?_⟩
    rw [show w64 (m - 1) = m - 1 from w64_id (by omega) (by omega)]
    refine ih b' q2 t2 (g' ++ [(k, (v, none))]) r0 (m - 1) ⟨rfl, by omega, by omega, by omega, by omega, ?_, ?_, fun x hx => ?_⟩ (by omega)
    · simp only [List.length_append, List.length_cons, List.length_nil]; omega
    · simp only [List.length_append, List.length_cons, List.length_nil]; omega
    · rcases List.mem_append.1 hx with hx | hx
      · exact g7 x hx
      · simp only [List.mem_cons, List.not_mem_nil, or_false] at hx
        subst hx
        exact ⟨hl, rfl⟩
  · have hgl : 1 ≤ g'.length ∧ g'.length ≤ 10 := by omega
    have hrt : w64 (len g' - 1) = (g'.length : Int) - 1 := by rw [w64_id] <;> simp only [len] <;> omega
    rw [hrt]
    have key2 := loop_Z59_L1 (Q := fun _ _ _ _ _ _ r => Drawn b' p 400 (fun x => ∃ (g : List PNode) (root : Int), x = ((g, root, ()), ()) ∧ ValidG g root) r)
      (I := fun b2 q2 _ g2 r2 i => b2 = b' ∧ p ≤ q2 ∧ ∃ j : Nat, i = j ∧ j ≤ g2.length ∧ g2.length ≤ 10 ∧ 1 ≤ g2.length ∧ q2 ≤ p + 40 + 20 * i ∧ ValidG (g2.map cvN) r2 ∧ ∀ x : Nat, j ≤ x → (g2.getD x od).2.2 = none) (μ := fun _ _ _ g2 _ i => (g2.length - i).toNat) ?_
    · refine key2 b' q' t2 g' _ 0 ⟨rfl, g1, 0, rfl, by omega, hgl.2, hgl.1, by omega, leaf_valid hgl.1 (by omega) (by omega) g7, fun x _ => ?_⟩
      rw [List.getD_eq_getElem?_getD]
      cases hq : g'[x]? with
      | none => rfl
      | some o => exact (g7 o (List.mem_of_getElem? hq)).2
    intro b2 q2 t3 g2 r2 i ⟨e1, f1, j, e2, hj, hl10, hl1, f2, hv, hno⟩ again2 hag2 ih2
    subst e1 e2
    have hr2 := h.next f1 (by omega)
    unfold B_Z59_L1b B_Z59_J2
    rw [tot_cond]
    simp only [decide_eq_true_eq, decide_eq_false_iff_not, len]
    refine ⟨fun hlt => ?_, fun hge => ?_⟩
    · refine (addKids_tot hr2 (by omega) hv (i := j) (by omega) (hno j (Nat.le_refl _))).bind ?_
      rintro _ ⟨_, q3, rfl, k1, k2, g3', rfl, hv3, hlen3, hsame⟩
      rw [w64_succ (by omega) (by omega)]
      refine ih2 b2 q3 t3 g3' r2 ((j + 1 : Nat) : Int) ⟨rfl, by omega, j + 1, rfl, by omega, by omega, by omega, by omega, hv3, fun x hx => ?_⟩ (by omega)
      rw [hsame x (by omega)]
      exact hno x (by omega)
    · refine (pick_tot hr2 (by omega) (by omega)).bind ?_
      rintro _ ⟨_, q3, rfl, k1, k2, u, rfl, k3, k4⟩
      rw [tot_cond]
      refine ⟨fun _ => ?_, fun _ => ?_⟩
      · refine (pick_tot (hr2.next k1 (by omega)) (by omega) (by omega)).bind ?_
        rintro _ ⟨_, q4, rfl, l1, l2, rt, rfl, l3, l4⟩
        have l4 := l4 (by omega)
        rw [tot_jn, tot_some]
        exact ⟨_, q4, rfl, by omega, by omega, _, rt, rfl, ⟨hv.pos, hv.most, by simpa using ⟨l3, l4⟩, hv.node, hv.tup⟩⟩
      · rw [tot_jn, tot_some]
        exact ⟨_, q3, rfl, by omega, by omega, _, r2, rfl, hv⟩
end Go.Gx

/-
  Laws, part 11: to write a valid graph comes to an end.
-/
set_option linter.unusedVariables false
set_option linter.unusedSimpArgs false
namespace Go.Gx
open Classical in
noncomputable def rk (g : List PNode) (i : Int) : Nat := ((List.range g.length).filter (fun (j : Nat) => decide (TReach g i (j : Int)))).length
theorem filter_lt {α : Type} {p q : α → Bool} : ∀ {l : List α}, (∀ x ∈ l, p x = true → q x = true) → (l.filter p).length ≤ (l.filter q).length
  | [], _ => by simp
  | x :: l, h => by
    have ih := filter_lt (p := p) (q := q) (l := l) (fun y hy => h y (List.mem_cons_of_mem _ hy))
    cases hp : p x with
    | true => simp [List.filter_cons, hp, h x (by simp) hp, ih]
    | false =>
      cases hq : q x with
      | true => simp [List.filter_cons, hp, hq]; omega
      | false => simp [List.filter_cons, hp, hq, ih]
theorem filter_lt' {α : Type} {p q : α → Bool} {a : α} : ∀ {l : List α}, (∀ x ∈ l, p x = true → q x = true) → a ∈ l → p a = false → q a = true → (l.filter p).length < (l.filter q).length
  | [], _, ha, _, _ => by simp at ha
  | x :: l, h, ha, hp, hq => by
    have h' := fun y hy => h y (List.mem_cons_of_mem x hy)
    rcases List.mem_cons.1 ha with rfl | ha
    · have := filter_lt (p := p) (q := q) (l := l) h'
      simp [List.filter_cons, hp, hq]
      omega
    · have ih := filter_lt' h' ha hp hq
      cases hpx : p x with
      | true => simp [List.filter_cons, hpx, h x (by simp) hpx, ih]
      | false =>
        cases hqx : q x with
        | true => simp [List.filter_cons, hpx, hqx]; omega
        | false => simp [List.filter_cons, hpx, hqx, ih]
theorem rk_le (g : List PNode) (i : Int) : rk g i ≤ g.length := by
  unfold rk
  refine Nat.le_trans (List.length_filter_le _ _) ?_
  simp
theorem reach_in {g : List PNode} (hk : Kidly g) {i x : Int} (hi : 0 ≤ i ∧ i < (g.length : Int)) (h : TReach g i x) : 0 ≤ x ∧ x < (g.length : Int) := by
  induction h with
  | kid hm => exact (hk _ (nd_mem hi.1 hi.2)).2 _ hm
  | step _ _ hm ih => exact (hk _ (nd_mem ih.1 ih.2)).2 _ hm
theorem rk_lt {g : List PNode} {root : Int} (hv : ValidG g root) {i k : Int} (hi : 0 ≤ i ∧ i < (g.length : Int)) (hm : k ∈ (nd g i).2.2) (h2 : (nd g k).1 = 2) : rk g k < rk g i := by
  have hk : Kidly g := fun n hn => (hv.node n hn).kidly
  have hki := reach_in hk hi (.kid hm)
  obtain ⟨m, rfl⟩ := Int.eq_ofNat_of_zero_le hki.1
  have up : ∀ x, TReach g (m : Int) x → TReach g i x := by
    intro x hx
    induction hx with
    | kid hk' => exact .step (.kid hm) h2 hk'
    | step _ h3 hk' ih => exact .step ih h3 hk'
  unfold rk
  refine filter_lt' (a := m) (fun x _ hx => ?_) (by simp; omega) ?_ ?_
  · simp only [decide_eq_true_eq] at hx ⊢
    exact up _ hx
  · simp only [decide_eq_false_iff_not]
    exact hv.tup m (by omega) h2
  · simp only [decide_eq_true_eq]
    exact .kid hm
theorem rk_pos {g : List PNode} {root : Int} (hv : ValidG g root) {i k : Int} (hi : 0 ≤ i ∧ i < (g.length : Int)) (hm : k ∈ (nd g i).2.2) : 0 < rk g i := by
  have hk : Kidly g := fun n hn => (hv.node n hn).kidly
  have hki := reach_in hk hi (.kid hm)
  obtain ⟨m, rfl⟩ := Int.eq_ofNat_of_zero_le hki.1
  unfold rk
  refine List.length_pos_of_mem (a := m) ?_
  simp only [List.mem_filter, List.mem_range, decide_eq_true_eq]
  exact ⟨by omega, .kid hm⟩
/-- How many nodes that are no tuples are not in the memo. -/
def un (g : List PNode) (memo : List Int) : Nat := ((List.range g.length).filter (fun (i : Nat) => !((nd g (i : Int)).1 == 2) && decide (memo.getD i 0 < 0))).length
theorem un_le (g : List PNode) (memo : List Int) : un g memo ≤ g.length := by
  unfold un
  have := List.length_filter_le (fun (i : Nat) => !((nd g (i : Int)).1 == 2) && decide (memo.getD i 0 < 0)) (List.range g.length)
  simpa using this
theorem getD_set_eq {α : Type} {l : List α} {i : Nat} {x d : α} (h : i < l.length) : (l.set i x).getD i d = x := by
  rw [List.getD_eq_getElem?_getD, List.getElem?_set_self h]; rfl
theorem un_set {g : List PNode} {memo : List Int} {i : Nat} {v : Int} (hi : i < memo.length) (hv : 0 ≤ v) : un g (memo.set i v) ≤ un g memo := by
  unfold un
  refine filter_lt fun x _ hx => ?_
  simp only [Bool.and_eq_true, decide_eq_true_eq] at hx ⊢
  by_cases e : x = i
  · subst e; rw [getD_set_eq hi] at hx; omega
  · rw [getD_set_ne e] at hx; exact hx
theorem un_set' {g : List PNode} {memo : List Int} {i : Nat} {v : Int} (hi : i < memo.length) (hg : i < g.length) (hv : 0 ≤ v) (h2 : (nd g (i : Int)).1 ≠ 2) (hm : memo.getD i 0 < 0) : un g (memo.set i v) < un g memo := by
  unfold un
  refine filter_lt' (a := i) (fun x _ hx => ?_) (by simpa using hg) ?_ ?_
  · simp only [Bool.and_eq_true, decide_eq_true_eq] at hx ⊢
    by_cases e : x = i
    · subst e; rw [getD_set_eq hi] at hx; omega
    · rw [getD_set_ne e] at hx; exact hx
  · rw [getD_set_eq hi]
    simp; intro _; omega
  · simp only [Bool.and_eq_true, Bool.not_eq_true', beq_eq_false_iff_ne, ne_eq, decide_eq_true_eq]
    exact ⟨h2, hm⟩
theorem emit_tot {a b : List (Int × Int)} (h : a.length + b.length ≤ 540000000000) : Tot (fun σ => F_s_emit (σ 0) a b) (fun r => r = ((a ++ b, ()), ())) := by
  refine tot_s_emit ?_
  unfold B_s_emit
  simp only [tot_chk, tot_some, room_iff, List.length_nil, and_true]
  omega
theorem memoed_tot {ops : List (Int × Int)} {memo : List Int} {at2 : Nat} (hm : memo.length ≤ 1000) (ho : ops.length ≤ 530000000000) (ha : at2 < memo.length) :
    Tot (fun σ => F_s_memoed (σ 0) ops memo at2) (fun r => ∃ n : Int, 0 ≤ n ∧ r = ((ops ++ [(15, n)], memo.set at2 n, ()), ())) := by
  refine tot_s_memoed ?_
  unfold B_s_memoed
  have key := loop_s_memoed_L1 (Q := fun _ _ _ _ _ r => ∃ n : Int, 0 ≤ n ∧ r = ((ops ++ [(15, n)], memo.set at2 n, ()), ())) (I := fun o m a n i => o = ops ∧ m = memo ∧ a = (at2 : Int) ∧ ∃ j : Nat, i = j ∧ j ≤ memo.length ∧ 0 ≤ n ∧ n ≤ i) (μ := fun _ _ _ _ i => (memo.length - i).toNat) ?_
  · exact key ops memo at2 0 0 ⟨rfl, rfl, rfl, 0, rfl, by omega, by omega, by omega⟩
  intro o m a n i ⟨e1, e2, e3, j, e4, hj, h0, h1⟩ again hag ih
  subst e1 e2 e3 e4
  unfold B_s_memoed_L1b B_s_memoed_J0
  simp only [tot_cond, tot_chk, tot_jn, decide_eq_true_eq, decide_eq_false_iff_not, len, inb_iff]
  have wj : w64 ((j : Int) + 1) = ((j + 1 : Nat) : Int) := w64_succ (by omega) (by omega)
  have wn : w64 (n + 1) = n + 1 := w64_id (by omega) (by omega)
  rw [wj, wn]
  refine ⟨fun hlt => ⟨by omega, fun _ => ?_, fun _ => ?_⟩, fun hge => ?_⟩
  · exact ih o m at2 (n + 1) _ ⟨rfl, rfl, rfl, j + 1, rfl, by omega, by omega, by omega⟩ (by omega)
  · exact ih o m at2 n _ ⟨rfl, rfl, rfl, j + 1, rfl, by omega, by omega, by omega⟩ (by omega)
  · refine (copyInts_tot' (by omega)).bind ?_
    rintro _ rfl
    simp only [tot_chk, inb_iff, decide_eq_true_eq, Int.toNat_natCast]
    refine ⟨by omega, ha, (emit_tot (by simp only [List.length_cons, List.length_nil]; omega)).bind ?_⟩
    rintro _ rfl
    rw [tot_some]
    exact ⟨n, h0, rfl⟩
def GG : Nat → Nat
  | 0 => 2
  | r + 1 => 6 * GG r + 3
theorem GG_12 : GG 12 = 5659634073 := by decide
theorem GG_le : ∀ r, 2 ≤ GG r
  | 0 => by decide
  | r + 1 => by have := GG_le r; simp only [GG]; omega
/-- What a writing leaves. -/
def Wr (g : List PNode) (ops : List (Int × Int)) (memo : List Int) (c : Nat) (r : (List (Int × Int) × List Int × Unit) × Unit) : Prop :=
  ∃ ops' memo', r = ((ops', memo', ()), ()) ∧ memo'.length = g.length ∧ un g memo' ≤ un g memo ∧ ops'.length + 33957804446 * un g memo' ≤ ops.length + c + 33957804446 * un g memo
def SaveOk (g : List PNode) (root level : Int) (u r c : Nat) (at2 : Int) : Prop :=
  ∀ (ops : List (Int × Int)) (memo : List Int), memo.length = g.length → un g memo ≤ u → ops.length + c + 33957804446 * un g memo ≤ 500000000000 → Tot (fun σ => F_s_save (σ 0) g root level at2 ops memo) (Wr g ops memo c)
theorem saveAll_tot {g : List PNode} {root level : Int} {u r c : Nat} {list : List Int} (hl : list.length ≤ 6) (hS : ∀ x ∈ list, SaveOk g root level u r c x) {ops : List (Int × Int)} {memo : List Int} (hm : memo.length = g.length) (hu : un g memo ≤ u)
    (hb : ops.length + list.length * c + 33957804446 * un g memo ≤ 500000000000) : Tot (fun σ => F_Z77 (σ 0) g root level list ops memo) (Wr g ops memo (list.length * c)) := by
  refine tot_Z77 ?_
  unfold B_Z77
  have key := loop_Z77_L0 (Q := fun _ _ _ _ _ _ _ r => Wr g ops memo (list.length * c) r)
    (I := fun l' list' o m g' r' i => l' = level ∧ list' = list ∧ g' = g ∧ r' = root ∧ ∃ j : Nat, i = j ∧ j ≤ list.length ∧ m.length = g.length ∧ un g m ≤ un g memo ∧ o.length + 33957804446 * un g m ≤ ops.length + j * c + 33957804446 * un g memo) (μ := fun _ _ _ _ _ _ i => (list.length - i).toNat) ?_
  · exact key level list ops memo g root 0 ⟨rfl, rfl, rfl, rfl, 0, rfl, by omega, hm, Nat.le_refl _, by omega⟩
  intro l' list' o m g' r' i ⟨e1, e2, e3, e4, j, e5, hj, hml, hmu, hmo⟩ again hag ih
  subst e1 e2 e3 e4 e5
  unfold B_Z77_L0b
  simp only [tot_cond, tot_chk, tot_some, decide_eq_true_eq, decide_eq_false_iff_not, len, inb_iff]
  refine ⟨fun hlt => ⟨by omega, ?_⟩, fun hge => ?_⟩
  · have hjl : j + 1 ≤ list'.length := by omega
    have hmul : (j + 1) * c ≤ list'.length * c := Nat.mul_le_mul_right _ hjl
    rw [Nat.add_mul, Nat.one_mul] at hmul
    refine (hS _ (rdx_mem (by omega) hlt) o m hml (by omega) (by omega)).bind ?_
    rintro _ ⟨o2, m2, rfl, k1, k2, k3⟩
    rw [w64_succ (by omega) (by omega)]
    refine ih l' list' o2 m2 g' r' _ ⟨rfl, rfl, rfl, rfl, j + 1, rfl, by omega, k1, by omega, ?_⟩ (by simp; omega)
    rw [Nat.add_mul, Nat.one_mul]
    omega
  · have : j = list'.length := by omega
    subst this
    exact ⟨o, m, rfl, hml, hmu, hmo⟩
end Go.Gx

/-
  Laws, part 12: to write a valid graph comes to an end.
-/
set_option linter.unusedVariables false
set_option linter.unusedSimpArgs false
namespace Go.Gx
theorem sub_len' {α : Type} {l : List α} {a b : Nat} (h : a ≤ b) (hb : b ≤ l.length) : (sub l (a : Int) (b : Int)).length = b - a := by
  simp only [sub, Int.toNat_natCast, List.length_drop, List.length_take]; omega
theorem sub_mem {α : Type} {l : List α} {a b : Int} {x : α} (h : x ∈ sub l a b) : x ∈ l := List.mem_of_mem_take (List.mem_of_mem_drop h)
theorem fill_tot {g : List PNode} {root level : Int} {u c : Nat} {kids : List Int} (hl : kids.length ≤ 6) (hS : ∀ x ∈ kids, SaveOk g root level u 0 c x) {each one all : Int} (he : each = 1 ∨ each = 2 ∧ kids.length % 2 = 0) {ops : List (Int × Int)} {memo : List Int} (hm : memo.length = g.length) (hu : un g memo ≤ u)
    (hb : ops.length + (6 * c + 6) + 33957804446 * un g memo ≤ 500000000000) : Tot (fun σ => F_s_fill (σ 0) g root level kids each one all ops memo) (Wr g ops memo (6 * c + 6)) := by
  refine tot_s_fill ?_
  unfold B_s_fill
  have hkc : kids.length * c ≤ 6 * c := Nat.mul_le_mul_right _ hl
  have j0 : ∀ b : Bool, Tot (fun σ => B_s_fill_J0 (σ 0) (F_s_emit (σ 0)) (F_Z77 (σ 0)) level kids each one all ops memo g root b) (Wr g ops memo (6 * c + 6)) := by
    intro b
    unfold B_s_fill_J0
    rw [tot_cond]
    refine ⟨fun _ => ?_, fun _ => ?_⟩
    · refine (emit_tot (by simp only [List.length_cons, List.length_nil]; omega)).bind ?_
      rintro _ rfl
      refine (saveAll_tot hl hS hm hu (by simp only [List.length_append, List.length_cons, List.length_nil]; omega)).bind ?_
      rintro _ ⟨o2, m2, rfl, k1, k2, k3⟩
      simp only [List.length_append, List.length_cons, List.length_nil] at k3
      refine (emit_tot (by simp only [List.length_cons, List.length_nil]; omega)).bind ?_
      rintro _ rfl
      rw [tot_some]
      exact ⟨_, _, rfl, k1, k2, by simp only [List.length_append, List.length_cons, List.length_nil]; omega⟩
    · have key := loop_s_fill_L1 (Q := fun _ _ _ _ _ _ _ _ _ r => Wr g ops memo (6 * c + 6) r)
        (I := fun l' kids' each' one' o m g' r' i => l' = level ∧ kids' = kids ∧ each' = each ∧ one' = one ∧ g' = g ∧ r' = root ∧ ∃ j : Nat, i = j ∧ j ≤ kids.length ∧ (each = 2 → j % 2 = 0) ∧ m.length = g.length ∧ un g m ≤ un g memo ∧ o.length + 33957804446 * un g m ≤ ops.length + (j * c + j) + 33957804446 * un g memo)
        (μ := fun _ _ _ _ _ _ _ _ i => (kids.length - i).toNat) ?_
      · exact key level kids each one ops memo g root 0 ⟨rfl, rfl, rfl, rfl, rfl, rfl, 0, rfl, by omega, fun _ => rfl, hm, Nat.le_refl _, by omega⟩
      intro l' kids' each' one' o m g' r' i ⟨e1, e2, e3, e4, e5, e6, j, e7, hj, hj2, hml, hmu, hmo⟩ again hag ih
      subst e1 e2 e3 e4 e5 e6 e7
      unfold B_s_fill_L1b
      simp only [tot_cond, tot_chk, tot_some, decide_eq_true_eq, decide_eq_false_iff_not, len, cutb_iff]
      refine ⟨fun hlt => ?_, fun hge => ?_⟩
      · obtain ⟨e, he', he1⟩ : ∃ e : Nat, each' = (e : Int) ∧ 1 ≤ e ∧ e ≤ 2 ∧ j + e ≤ kids'.length ∧ (each' = 2 → (j + e) % 2 = 0) := by
          rcases he with h | ⟨h, h2⟩
          · exact ⟨1, h, by omega, by omega, by omega, fun h' => by omega⟩
          · have := hj2 h; exact ⟨2, h, by omega, by omega, by omega, fun _ => by omega⟩
        subst he'
        have wj : w64 ((j : Int) + (e : Int)) = ((j + e : Nat) : Int) := by rw [w64_id (by omega) (by omega)]; omega
        simp only [wj]
        have hsl := sub_len' (l := kids') (a := j) (b := j + e) (by omega) (by omega)
        have hec : (j + e) * c ≤ kids'.length * c := Nat.mul_le_mul_right _ (by omega)
        rw [Nat.add_mul] at hec
        refine ⟨by omega, (saveAll_tot (list := sub kids' (j : Int) ((j + e : Nat) : Int)) (by omega) (fun x hx => hS x (sub_mem hx)) hml (by omega) (by rw [hsl, show j + e - j = e by omega]; omega)).bind ?_⟩
        rintro _ ⟨o2, m2, rfl, k1, k2, k3⟩
        rw [hsl, show j + e - j = e by omega] at k3
        refine (emit_tot (by simp only [List.length_cons, List.length_nil]; omega)).bind ?_
        rintro _ rfl
        refine ih l' kids' _ one' _ m2 g' r' _ ⟨rfl, rfl, rfl, rfl, rfl, rfl, j + e, rfl, by omega, he1.2.2.2, k1, by omega, ?_⟩ (by simp; omega)
        simp only [List.length_append, List.length_cons, List.length_nil]
        rw [Nat.add_mul]
        omega
      · have : j = kids'.length := by omega
        subst this
        exact ⟨o, m, rfl, hml, hmu, by omega⟩
  rw [tot_cond]
  refine ⟨fun _ => ?_, fun _ => ?_⟩
  · rw [tot_jn]; exact j0 _
  · rw [tot_jn]; exact j0 _
theorem saveTuple_tot {g : List PNode} {root level : Int} {u r : Nat} (hg : g.length ≤ 12) {at2 : Nat} (ha : at2 < g.length) (h6 : (nd g (at2 : Int)).2.2.length ≤ 6) (hr : (nd g (at2 : Int)).2.2 ≠ [] → ∃ r', r = r' + 1 ∧ ∀ x ∈ (nd g (at2 : Int)).2.2, SaveOk g root level u 0 (GG r') x)
    {ops : List (Int × Int)} {memo : List Int} (hm : memo.length = g.length) (hu : un g memo ≤ u) (hb : ops.length + GG r + 33957804446 * un g memo ≤ 500000000000) : Tot (fun σ => F_Z62 (σ 0) g root level at2 ops memo) (Wr g ops memo (GG r)) := by
  refine tot_Z62 ?_
  unfold B_Z62
  have hG := GG_le r
  rw [tot_chk]
  refine ⟨inb_iff.2 (by omega), ?_⟩
  generalize hk : (nd g (at2 : Int)).2.2 = kids at h6 hr
  have hk' : (rdx ((0 : Int), ((0 : Int), ([] : List Int))) g (at2 : Int)).2.2 = kids := hk
  simp only [hk']
  rw [tot_cond]
  refine ⟨fun _ => ?_, fun hne => ?_⟩
  · refine (emit_tot (by simp only [List.length_cons, List.length_nil]; omega)).bind ?_
    rintro _ rfl
    refine (memoed_tot (by omega) (by simp only [List.length_append, List.length_cons, List.length_nil]; omega) (by omega)).bind ?_
    rintro _ ⟨n, hn, rfl⟩
    rw [tot_some]
    have := un_set (g := g) (memo := memo) (i := at2) (v := n) (by omega) hn
    exact ⟨_, _, rfl, by simp [hm], this, by simp only [List.length_append, List.length_cons, List.length_nil]; omega⟩
  · have hne' : kids ≠ [] := by
      intro e; subst e; simp [len] at hne
    obtain ⟨r', rfl, hS⟩ := hr hne'
    have hGr : GG (r' + 1) = 6 * GG r' + 3 := rfl
    have hkc : kids.length * GG r' ≤ 6 * GG r' := Nat.mul_le_mul_right _ h6
    -- behind the kids
    have j1 : ∀ (o : List (Int × Int)) (short : Bool), o.length ≤ ops.length + 1 → (short = true → o.length = ops.length ∧ kids.length ≤ 2) → Tot (fun σ => B_Z62_J1 (σ 0) (F_s_emit (σ 0)) (F_s_memoed (σ 0)) (F_Z77 (σ 0)) level at2 o memo g root kids short) (Wr g ops memo (GG (r' + 1))) := by
      intro o short ho hsh
      unfold B_Z62_J1
      refine (saveAll_tot h6 hS hm hu (by omega)).bind ?_
      rintro _ ⟨o2, m2, rfl, k1, k2, k3⟩
      rw [tot_chk]
      refine ⟨inb_iff.2 (by simp only []; omega), ?_⟩
      -- the tuple is made
      have j5 : ∀ c : Int, Tot (fun σ => B_Z62_J5 (σ 0) (F_s_emit (σ 0)) (F_s_memoed (σ 0)) (F_Z77 (σ 0)) at2 o2 m2 c) (Wr g ops memo (GG (r' + 1))) := by
        intro c
        unfold B_Z62_J5
        refine (emit_tot (by simp only [List.length_cons, List.length_nil]; omega)).bind ?_
        rintro _ rfl
        refine (memoed_tot (by omega) (by simp only [List.length_append, List.length_cons, List.length_nil]; omega) (by omega)).bind ?_
        rintro _ ⟨n, hn, rfl⟩
        rw [tot_some]
        have := un_set (g := g) (memo := m2) (i := at2) (v := n) (by omega) hn
        exact ⟨o2 ++ [(c, 0)] ++ [(15, n)], m2.set at2 n, rfl, by simp [k1], by omega, by simp only [List.length_append, List.length_cons, List.length_nil]; omega⟩
      -- it was there
      have j4 : ∀ o3 : List (Int × Int), o3.length + 33957804446 * un g m2 + 1 ≤ ops.length + GG (r' + 1) + 33957804446 * un g memo → Tot (fun σ => B_Z62_J4 (σ 0) (F_s_emit (σ 0)) (F_s_memoed (σ 0)) (F_Z77 (σ 0)) at2 o3 m2) (Wr g ops memo (GG (r' + 1))) := by
        intro o3 h3
        unfold B_Z62_J4
        rw [tot_chk]
        refine ⟨inb_iff.2 (by omega), (emit_tot (by simp only [List.length_cons, List.length_nil]; omega)).bind ?_⟩
        rintro _ rfl
        rw [tot_some]
        exact ⟨_, _, rfl, k1, k2, by simp only [List.length_append, List.length_cons, List.length_nil]; omega⟩
      rw [tot_cond]
      refine ⟨fun _ => ?_, fun _ => ?_⟩
      · have key := loop_Z62_L3 (Q := fun _ _ _ _ _ _ r => Wr g ops memo (GG (r' + 1)) r) (I := fun a o3 m3 kd sh i => a = (at2 : Int) ∧ m3 = m2 ∧ kd = kids ∧ sh = short ∧ ∃ j : Nat, i = j ∧ j ≤ kids.length ∧ (short = true → o3.length = o2.length + j) ∧ (short = false → o3.length = o2.length)) (μ := fun _ _ _ _ _ i => (kids.length - i).toNat) ?_
        · exact key at2 o2 m2 kids short 0 ⟨rfl, rfl, rfl, rfl, 0, rfl, by omega, fun _ => rfl, fun _ => rfl⟩
        intro a o3 m3 kd sh i ⟨e1, e2, e3, e4, j, e5, hj, hs1, hs2⟩ again hag ih
        subst e1 e2 e3 e4 e5
        unfold B_Z62_L3b B_Z62_J2
        simp only [tot_cond, tot_jn, decide_eq_true_eq, decide_eq_false_iff_not, len, Bool.not_eq_true', Bool.not_eq_false']
        cases sh with
        | true =>
          have h1 := hs1 rfl
          have h2 := hsh rfl
          refine ⟨fun hlt => ⟨fun _ => ?_, fun h => absurd h (by decide)⟩, fun hge => ⟨fun h => absurd h (by decide), fun _ => ⟨fun h => absurd h (by decide), fun _ => j4 o3 (by omega)⟩⟩⟩
          refine (emit_tot (by simp only [List.length_cons, List.length_nil]; omega)).bind ?_
          rintro _ rfl
          rw [w64_succ (by omega) (by omega)]
          refine ih _ _ _ _ _ _ ⟨rfl, rfl, rfl, rfl, j + 1, rfl, by omega, fun _ => ?_, fun h => absurd h (by decide)⟩ (by simp; omega)
          simp only [List.length_append, List.length_cons, List.length_nil]; omega
        | false =>
          have h1 := hs2 rfl
          have fin : Tot (fun σ => (F_s_emit (σ 0) o3 [(18, 0)]).bind fun r79 => jn (fun t => B_Z62_J4 (σ 0) (F_s_emit (σ 0)) (F_s_memoed (σ 0)) (F_Z77 (σ 0)) t.1 t.2.1 t.2.2.1) ((at2 : Int), r79.1.1, m3, ())) (Wr g ops memo (GG (r' + 1))) := by
            refine (emit_tot (by simp only [List.length_cons, List.length_nil]; omega)).bind ?_
            rintro _ rfl
            rw [tot_jn]
            exact j4 _ (by simp only [List.length_append, List.length_cons, List.length_nil]; omega)
          exact ⟨fun hlt => ⟨fun h => absurd h (by decide), fun _ => ⟨fun _ => fin, fun h => absurd h (by decide)⟩⟩, fun hge => ⟨fun h => absurd h (by decide), fun _ => ⟨fun _ => fin, fun h => absurd h (by decide)⟩⟩⟩
      · rw [tot_cond]
        refine ⟨fun _ => ?_, fun _ => ?_⟩
        · rw [tot_jn]; exact j5 _
        · rw [tot_jn]; exact j5 _
    have j0 : ∀ (short : Bool), (short = true → kids.length ≤ 2) → Tot (fun σ => B_Z62_J0 (σ 0) (F_s_emit (σ 0)) (F_s_memoed (σ 0)) (F_Z77 (σ 0)) level at2 ops memo g root kids short) (Wr g ops memo (GG (r' + 1))) := by
      intro short hsh
      unfold B_Z62_J0
      rw [tot_cond]
      refine ⟨fun hs => ?_, fun hs => ?_⟩
      · refine (emit_tot (by simp only [List.length_cons, List.length_nil]; omega)).bind ?_
        rintro _ rfl
        rw [tot_jn]
        exact j1 _ short (by simp) (fun h => by rw [h] at hs; cases hs)
      · rw [tot_jn]
        have : short = true := by simpa using hs
        exact j1 ops short (by omega) (fun h => ⟨rfl, hsh h⟩)
    rw [tot_cond]
    refine ⟨fun _ => ?_, fun _ => ?_⟩
    · rw [tot_jn]
      exact j0 _ (fun h => by simp only [decide_eq_true_eq, len] at h; omega)
    · rw [tot_jn]
      exact j0 false (fun h => absurd h (by decide))
theorem SaveOk.mono {g : List PNode} {root level : Int} {u r r2 c c2 : Nat} {x : Int} (h : SaveOk g root level u r c x) (hc : c ≤ c2) : SaveOk g root level u r2 c2 x := by
  intro ops memo h1 h2 h3
  refine (h ops memo h1 h2 (by omega)).mono ?_
  rintro _ ⟨o, m, rfl, k1, k2, k3⟩
  exact ⟨o, m, rfl, k1, k2, by omega⟩
theorem save_tot {g : List PNode} {root level : Int} (hv : ValidG g root) : ∀ (u r : Nat), r ≤ 12 → ∀ at2 : Nat, at2 < g.length → ((nd g (at2 : Int)).1 = 2 → rk g (at2 : Int) ≤ r) → SaveOk g root level u 0 (GG r) (at2 : Int) := by
  have hk : Kidly g := fun n hn => (hv.node n hn).kidly
  have hg := hv.most
  intro u
  induction u using Nat.strongRecOn with
  | _ u ihu =>
  intro r
  induction r using Nat.strongRecOn with
  | _ r ihr =>
  intro hr12 at2 ha hrk ops memo hm hu hb
  have hG := GG_le r
  have hG12 := GG_12
  have hin : 0 ≤ (at2 : Int) ∧ (at2 : Int) < (g.length : Int) := by omega
  have hnode := hv.node _ (nd_mem hin.1 hin.2)
  refine tot_s_save ?_
  unfold B_s_save
  simp only [tot_chk]
  refine ⟨inb_iff.2 (by omega), inb_iff.2 (by omega), ?_⟩
  have hrd : rdx (0 : Int) memo (at2 : Int) = memo.getD at2 0 := by rw [rdx_eq, Int.toNat_natCast]
  have hndd : rdx ((0 : Int), ((0 : Int), ([] : List Int))) g (at2 : Int) = nd g (at2 : Int) := rfl
  rw [hrd, hndd]
  rw [tot_cond]
  refine ⟨fun _ => ?_, fun hneg => ?_⟩
  · rw [tot_chk]
    refine ⟨inb_iff.2 (by omega), (emit_tot (by simp only [List.length_cons, List.length_nil]; omega)).bind ?_⟩
    rintro _ rfl
    rw [tot_some]
    exact ⟨_, memo, rfl, hm, Nat.le_refl _, by simp only [List.length_append, List.length_cons, List.length_nil]; omega⟩
  have hneg : memo.getD at2 0 < 0 := by simpa using hneg
  -- it gets into the memo
  have mem : ∀ (o : List (Int × Int)), o.length ≤ 520000000000 → (nd g (at2 : Int)).1 ≠ 2 → Tot (fun σ => F_s_memoed (σ 0) o memo at2) (fun r => ∃ n : Int, r = ((o ++ [(15, n)], memo.set at2 n, ()), ()) ∧ un g (memo.set at2 n) < un g memo ∧ (memo.set at2 n).length = g.length) := by
    intro o ho h2
    refine (memoed_tot (by omega) (by omega) (by omega)).mono ?_
    rintro _ ⟨n, hn, rfl⟩
    exact ⟨n, rfl, un_set' (by omega) ha hn h2 hneg, by simp [hm]⟩
  -- all kids, when it is there
  have kids12 : ∀ u1, u1 < u → ∀ x ∈ (nd g (at2 : Int)).2.2, SaveOk g root level u1 0 (GG 12) x := by
    intro u1 hu1 x hx
    have hx' := hnode.2.1 x hx
    obtain ⟨m, rfl⟩ := Int.eq_ofNat_of_zero_le hx'.1
    exact ihu u1 hu1 12 (Nat.le_refl _) m (by omega) (fun _ => Nat.le_trans (rk_le g _) hg)
  rw [tot_cond]
  simp only [beq_iff_eq, beq_eq_false_iff_ne, ne_eq]
  refine ⟨fun h0 => ?_, fun h0 => ?_⟩
  · refine (emit_tot (by simp only [List.length_cons, List.length_nil]; omega)).bind ?_
    rintro _ rfl
    rw [tot_some]
    exact ⟨_, memo, rfl, hm, Nat.le_refl _, by simp only [List.length_append, List.length_cons, List.length_nil]; omega⟩
  rw [tot_cond]
  simp only [beq_iff_eq, beq_eq_false_iff_ne, ne_eq]
  refine ⟨fun h1 => ?_, fun h1 => ?_⟩
  · refine (emit_tot (by simp only [List.length_cons, List.length_nil]; omega)).bind ?_
    rintro _ rfl
    refine (mem _ (by simp only [List.length_append, List.length_cons, List.length_nil]; omega) (by omega)).bind ?_
    rintro _ ⟨n, rfl, k1, k2⟩
    rw [tot_some]
    exact ⟨_, memo.set at2 n, rfl, k2, by omega, by simp only [List.length_append, List.length_cons, List.length_nil]; omega⟩
  rw [tot_cond]
  simp only [beq_iff_eq, beq_eq_false_iff_ne, ne_eq]
  refine ⟨fun h2 => ?_, fun h2 => ?_⟩
  · have hrk := hrk h2
    refine (saveTuple_tot (u := u) (r := r) hg ha hnode.1 (fun hne => ?_) hm hu hb).bind ?_
    · obtain ⟨x, hx⟩ := List.exists_mem_of_ne_nil _ hne
      have hpos := rk_pos hv hin hx
      refine ⟨r - 1, by omega, fun y hy => ?_⟩
      have hy' := hnode.2.1 y hy
      obtain ⟨m, rfl⟩ := Int.eq_ofNat_of_zero_le hy'.1
      exact ihr (r - 1) (by omega) (by omega) m (by omega) (fun hk2 => by have := rk_lt hv hin hy hk2; omega)
    · rintro _ ⟨o, m, rfl, k1, k2, k3⟩
      rw [tot_some]
      exact ⟨o, m, rfl, k1, k2, k3⟩
  -- a list, a dictionary, an object
  have filled : ∀ (o : List (Int × Int)) (n each one all : Int), o.length ≤ ops.length + 2 → un g (memo.set at2 n) < un g memo → (memo.set at2 n).length = g.length → (each = 1 ∨ each = 2 ∧ (nd g (at2 : Int)).2.2.length % 2 = 0) →
      Tot (fun σ => (F_s_fill (σ 0) g root level (nd g (at2 : Int)).2.2 each one all o (memo.set at2 n)).bind fun r84 => some ((r84.1.1, r84.1.2.1, ()), ())) (Wr g ops memo (GG r)) := by
    intro o n each one all ho k1 k2 he
    refine (fill_tot (u := u - 1) (c := GG 12) hnode.1 (kids12 (u - 1) (by omega)) he k2 (by omega) (by omega)).bind ?_
    rintro _ ⟨o2, m2, rfl, q1, q2, q3⟩
    rw [tot_some]
    exact ⟨o2, m2, rfl, q1, by omega, by omega⟩
  rw [tot_cond]
  simp only [beq_iff_eq, beq_eq_false_iff_ne, ne_eq]
  refine ⟨fun h3 => ?_, fun h3 => ?_⟩
  · refine (emit_tot (by simp only [List.length_cons, List.length_nil]; omega)).bind ?_
    rintro _ rfl
    refine (mem _ (by simp only [List.length_append, List.length_cons, List.length_nil]; omega) h2).bind ?_
    rintro _ ⟨n, rfl, k1, k2⟩
    exact filled _ n 1 8 9 (by simp) k1 k2 (.inl rfl)
  rw [tot_cond]
  simp only [beq_iff_eq, beq_eq_false_iff_ne, ne_eq]
  refine ⟨fun h4 => ?_, fun h4 => ?_⟩
  · have hd : (nd g (at2 : Int)).2.2.length % 2 = 0 := by
      have := hnode.2.2
      rw [if_neg h0, if_neg h1, if_neg (by simp [h2, h3]), if_pos h4] at this
      exact this.2.2
    refine (emit_tot (by simp only [List.length_cons, List.length_nil]; omega)).bind ?_
    rintro _ rfl
    refine (mem _ (by simp only [List.length_append, List.length_cons, List.length_nil]; omega) h2).bind ?_
    rintro _ ⟨n, rfl, k1, k2⟩
    exact filled _ n 2 11 12 (by simp) k1 k2 (.inr ⟨rfl, hd⟩)
  · refine (emit_tot (by simp only [List.length_cons, List.length_nil]; omega)).bind ?_
    rintro _ rfl
    refine (mem _ (by simp only [List.length_append, List.length_cons, List.length_nil]; omega) h2).bind ?_
    rintro _ ⟨n, rfl, k1, k2⟩
    have hkc : (nd g (at2 : Int)).2.2.length * GG 12 ≤ 6 * GG 12 := Nat.mul_le_mul_right _ hnode.1
    refine (saveAll_tot (u := u - 1) hnode.1 (kids12 (u - 1) (by omega)) k2 (by omega) (by simp only [List.length_append, List.length_cons, List.length_nil]; omega)).bind ?_
    rintro _ ⟨o2, m2, rfl, q1, q2, q3⟩
    simp only [List.length_append, List.length_cons, List.length_nil] at q3
    unfold B_s_save_J0
    rw [tot_cond]
    refine ⟨fun _ => ?_, fun _ => ?_⟩
    · refine (emit_tot (by simp only [List.length_cons, List.length_nil]; omega)).bind ?_
      rintro _ rfl
      rw [tot_jn, tot_some]
      exact ⟨_, m2, rfl, q1, by omega, by simp only [List.length_append, List.length_cons, List.length_nil]; omega⟩
    · rw [tot_jn, tot_some]
      exact ⟨o2, m2, rfl, q1, by omega, by omega⟩
theorem emptyMemo_tot {g : List PNode} {root : Int} (hg : g.length ≤ 1000) : Tot (fun σ => F_Z64 (σ 0) g root) (fun r => r = ((List.replicate g.length (-1), ()), ())) := by
  refine tot_Z64 ?_
  unfold B_Z64
  have key := loop_Z64_L0 (Q := fun _ _ _ _ r => r = ((List.replicate g.length (-1), ()), ())) (I := fun g' _ o i => g' = g ∧ ∃ j : Nat, i = j ∧ j ≤ g.length ∧ o = List.replicate j (-1)) (μ := fun _ _ _ i => (g.length - i).toNat) ?_
  · exact key g root [] 0 ⟨rfl, 0, rfl, by omega, rfl⟩
  intro g' r' o i ⟨e1, j, e2, hj, e3⟩ again hag ih
  subst e1 e2 e3
  unfold B_Z64_L0b
  simp only [tot_cond, tot_chk, tot_some, decide_eq_true_eq, decide_eq_false_iff_not, len, room_iff, List.length_replicate, List.length_cons, List.length_nil]
  refine ⟨fun hlt => ⟨by omega, ?_⟩, fun hge => ?_⟩
  · rw [w64_succ (by omega) (by omega)]
    exact ih _ _ _ _ ⟨rfl, j + 1, rfl, by omega, by rw [List.replicate_succ']⟩ (by simp; omega)
  · have : j = g'.length := by omega
    rw [this]
theorem written_tot {g : List PNode} {root : Int} (hv : ValidG g root) (level : Int) : Tot (fun σ => F_Z84 (σ 0) g root level) (fun r => ∃ ops : List (Int × Int), r = ((ops, ()), ()) ∧ ops.length ≤ 500000000000) := by
  have hg := hv.most
  refine tot_Z84 ?_
  unfold B_Z84
  refine (emptyMemo_tot (by omega)).bind ?_
  rintro _ rfl
  obtain ⟨m, hm⟩ := Int.eq_ofNat_of_zero_le hv.root.1
  have hroot := hv.root
  subst hm
  have hun := un_le g (List.replicate g.length (-1))
  have hG := GG_12
  refine (save_tot hv g.length 12 (Nat.le_refl _) m (by omega) (fun _ => Nat.le_trans (rk_le g _) hg) [] _ (by simp) hun (by simp only [List.length_nil]; omega)).bind ?_
  rintro _ ⟨o, m2, rfl, k1, k2, k3⟩
  simp only [List.length_nil] at k3
  refine (emit_tot (by simp only [List.length_cons, List.length_nil]; omega)).bind ?_
  rintro _ rfl
  rw [tot_some]
  exact ⟨_, rfl, by simp only [List.length_append, List.length_cons, List.length_nil]; omega⟩
end Go.Gx

/-
  Laws, part 13: programs and bytes that are drawn.
-/
set_option linter.unusedVariables false
set_option linter.unusedSimpArgs false
namespace Go.Gx
theorem someOps_tot {b : List Int} {p : Int} (h : RD b p) (hp : p ≤ 90000000) : Tot (fun σ => F_Z83 (σ 0) b p) (Drawn b p 2000 fun x => ∃ ops : List POp, x = (ops, ()) ∧ ops.length ≤ 500000000000) := by
  refine tot_Z83 ?_
  unfold B_Z83
  have fin : ∀ (q : Int) (o : List POp), p ≤ q → q ≤ p + 2000 → o.length ≤ 500000000000 → Drawn b p 2000 (fun x => ∃ ops : List POp, x = (ops, ()) ∧ ops.length ≤ 500000000000) ((o, ()), ((b, q, ()), ())) := fun q o h1 h2 h3 => ⟨_, q, rfl, h1, h2, o, rfl, h3⟩
  have j2 : ∀ (q : Int) (o : List POp), p ≤ q → q ≤ p + 1900 → o.length ≤ 500000000000 → Tot (fun σ => B_Z83_J2 (σ 0) (F_Z37 (σ 0)) (F_Z61 (σ 0)) (F_Z59 (σ 0)) (F_Z84 (σ 0)) (F_s_someOp (σ 0)) (F_Z40 (σ 0)) b q o) (Drawn b p 2000 fun x => ∃ ops : List POp, x = (ops, ()) ∧ ops.length ≤ 500000000000) := by
    intro q o h1 h2 h3
    have hq := h.next h1 (by omega)
    unfold B_Z83_J2
    rw [tot_cond]
    simp only [decide_eq_true_eq, decide_eq_false_iff_not, len]
    refine ⟨fun hlt => ?_, fun _ => by rw [tot_some]; exact fin q o h1 (by omega) h3⟩
    refine (pick_tot hq (by omega) (by omega)).bind ?_
    rintro _ ⟨_, q2, rfl, k1, k2, v, rfl, k3, k4⟩
    rw [tot_cond]
    refine ⟨fun _ => ?_, fun _ => ?_⟩
    · refine (one_tot (hq.next k1 (by omega)) (by omega) (by simp) (by simp)).bind ?_
      rintro _ ⟨_, q3, rfl, f1, f2, u, rfl, hu⟩
      simp only [tot_chk, tot_some, inb_iff, decide_eq_true_eq]
      exact ⟨by omega, by simp; omega, fin q3 _ (by omega) (by omega) (by simpa using h3)⟩
    · rw [tot_cond]
      refine ⟨fun _ => ?_, fun _ => by rw [tot_some]; exact fin q2 o (by omega) (by omega) h3⟩
      refine (one_tot (hq.next k1 (by omega)) (by omega) (by simp) (by simp)).bind ?_
      rintro _ ⟨_, q3, rfl, f1, f2, u, rfl, hu⟩
      have w : w64 ((o.length : Int) - 1) = (o.length : Int) - 1 := w64_id (by omega) (by omega)
      simp only [tot_chk, tot_some, inb_iff, decide_eq_true_eq, w]
      exact ⟨by omega, by omega, fin q3 _ (by omega) (by omega) (by simpa using h3)⟩
  have j1 : ∀ (q : Int) (o : List POp), p ≤ q → q ≤ p + 1800 → o.length ≤ 500000000000 → Tot (fun σ => B_Z83_J1 (σ 0) (F_Z37 (σ 0)) (F_Z61 (σ 0)) (F_Z59 (σ 0)) (F_Z84 (σ 0)) (F_s_someOp (σ 0)) (F_Z40 (σ 0)) b q o) (Drawn b p 2000 fun x => ∃ ops : List POp, x = (ops, ()) ∧ ops.length ≤ 500000000000) := by
    intro q o h1 h2 h3
    have hq := h.next h1 (by omega)
    unfold B_Z83_J1
    refine (pick_tot hq (by omega) (by omega)).bind ?_
    rintro _ ⟨_, q2, rfl, k1, k2, v, rfl, k3, k4⟩
    rw [tot_cond]
    refine ⟨fun _ => ?_, fun _ => by rw [tot_jn]; exact j2 q2 o (by omega) (by omega) h3⟩
    have w : w64 (len o + 1) = (o.length : Int) + 1 := by rw [w64_id] <;> simp only [len] <;> omega
    rw [w]
    refine (pick_tot (hq.next k1 (by omega)) (by omega) (by omega)).bind ?_
    rintro _ ⟨_, q3, rfl, f1, f2, u, rfl, f3, f4⟩
    have f4 := f4 (by omega)
    rw [tot_chk]
    refine ⟨cutb_iff.2 ⟨Int.le_refl _, f3, by show u ≤ (o.length : Int); omega⟩, ?_⟩
    rw [tot_jn]
    exact j2 q3 (o.take u.toNat) (by omega) (by omega) (by simp only [List.length_take]; omega)
  refine (pick_tot h (by omega) (by omega)).bind ?_
  rintro _ ⟨_, q, rfl, h1, h2, v, rfl, h3, h4⟩
  have hq := h.next h1 (by omega)
  rw [tot_cond]
  refine ⟨fun _ => ?_, fun _ => ?_⟩
  · refine (likelyOps_tot hq (by omega)).bind ?_
    rintro _ ⟨_, q2, rfl, k1, k2, o, rfl, ho, _⟩
    rw [tot_jn]
    exact j2 q2 o (by omega) (by omega) (by omega)
  · refine (someGraph_tot hq (by omega)).bind ?_
    rintro _ ⟨_, q2, rfl, k1, k2, g, root, rfl, hv⟩
    have hq2 := hq.next k1 (by omega)
    refine (pick_tot hq2 (by omega) (by omega)).bind ?_
    rintro _ ⟨_, q3, rfl, f1, f2, u, rfl, f3, f4⟩
    have hq3 := hq2.next f1 (by omega)
    refine (written_tot hv u).bind ?_
    rintro _ ⟨o, rfl, ho⟩
    refine (pick_tot hq3 (by omega) (by omega)).bind ?_
    rintro _ ⟨_, q4, rfl, m1, m2, u2, rfl, m3, m4⟩
    have hq4 := hq3.next m1 (by omega)
    have j0 : ∀ t : Bool, (t = true → 0 < o.length) → Tot (fun σ => B_Z83_J0 (σ 0) (F_Z37 (σ 0)) (F_Z61 (σ 0)) (F_Z59 (σ 0)) (F_Z84 (σ 0)) (F_s_someOp (σ 0)) (F_Z40 (σ 0)) b q4 o t) (Drawn b p 2000 fun x => ∃ ops : List POp, x = (ops, ()) ∧ ops.length ≤ 500000000000) := by
      intro t ht
      unfold B_Z83_J0
      rw [tot_cond]
      refine ⟨fun hb => ?_, fun _ => by rw [tot_jn]; exact j1 q4 o (by omega) (by omega) ho⟩
      have hpos := ht hb
      refine (pick_tot hq4 (by omega) (by simp only [len]; omega)).bind ?_
      rintro _ ⟨_, q5, rfl, n1, n2, w, rfl, n3, n4⟩
      have n4 := n4 (by simp only [len]; omega)
      simp only [len] at n4
      refine (someOp_tot (hq4.next n1 (by omega)) (by omega)).bind ?_
      rintro _ ⟨_, q6, rfl, l1, l2, c, a, rfl, _⟩
      simp only [tot_chk, inb_iff, decide_eq_true_eq]
      refine ⟨by omega, by omega, ?_⟩
      rw [tot_jn]
      exact j1 q6 _ (by omega) (by omega) (by simpa using ho)
    rw [tot_cond]
    refine ⟨fun _ => ?_, fun _ => ?_⟩
    · rw [tot_jn]; exact j0 _ (fun h => by simp only [decide_eq_true_eq, len] at h; omega)
    · rw [tot_jn]; exact j0 false (fun h => absurd h (by decide))
end Go.Gx

/-
  Laws, part R4: rules that are drawn.
-/
set_option linter.unusedVariables false
set_option linter.unusedSimpArgs false
namespace Go.Gx
/-- The Args of all orders to make an object. -/
def newArgs (ops : List POp) : List Int := (ops.filter (fun o => o.1 == 13)).map (·.2)
def classesP (ops : List POp) : List Int := if okOps ops = true then (List.range 10).filterMap (fun c : Nat => if (c : Int) ∈ newArgs ops then some (c : Int) else none) else []
theorem newArgs_mem {ops : List POp} {c : Int} : c ∈ newArgs ops ↔ ∃ i, i < ops.length ∧ (ops.getD i (0, 0)).1 = 13 ∧ (ops.getD i (0, 0)).2 = c := by
  unfold newArgs
  simp only [List.mem_map, List.mem_filter, beq_iff_eq]
  constructor
  · rintro ⟨o, ⟨ho, h1⟩, h2⟩
    obtain ⟨i, hi, e⟩ := List.getElem_of_mem ho
    refine ⟨i, hi, ?_⟩
    rw [List.getD_eq_getElem?_getD, List.getElem?_eq_getElem hi]
    simp only [Option.getD_some, e]
    exact ⟨h1, h2⟩
  · rintro ⟨i, hi, h1, h2⟩
    exact ⟨_, ⟨getD_mem hi, h1⟩, h2⟩
theorem classesP_len (ops : List POp) : (classesP ops).length ≤ 10 := by
  unfold classesP
  split
  · have := List.length_filterMap_le (fun c : Nat => if (c : Int) ∈ newArgs ops then some (c : Int) else none) (List.range 10)
    rw [List.length_range] at this; exact this
  · simp
end Go.Gx

/-
  Laws: lists of numbers are compared.
-/
set_option linter.unusedVariables false
set_option linter.unusedSimpArgs false
namespace Go.Gx
theorem equalInts_tot {a b : List Int} (ha : a.length ≤ 900000000000) : Tot (fun σ => F_Z58 (σ 0) a b) (Says (a = b)) := by
  refine tot_Z58 ?_
  unfold B_Z58
  simp only [tot_cond, tot_some, len, bne_iff_ne, ne_eq, bne_eq_false_iff_eq]
  refine ⟨fun h => says_false fun e => h (by rw [e]), fun h => ?_⟩
  have hl : a.length = b.length := by omega
  have key := loop_Z58_L0 (Q := fun _ _ _ r => Says (a = b) r) (I := fun x y i => x = a ∧ y = b ∧ ∃ j : Nat, i = j ∧ j ≤ a.length ∧ ∀ q, q < j → a.getD q 0 = b.getD q 0) (μ := fun _ _ i => (a.length - i).toNat) ?_
  · exact key a b 0 ⟨rfl, rfl, 0, rfl, by omega, fun q hq => by omega⟩
  intro x y i ⟨e1, e2, j, e3, hj, hq⟩ again hag ih
  subst e1 e2 e3
  unfold B_Z58_L0b
  simp only [tot_cond, tot_chk, tot_some, decide_eq_true_eq, decide_eq_false_iff_not, len, inb_iff, bne_iff_ne, ne_eq, bne_eq_false_iff_eq]
  simp only [rdx_eq, Int.toNat_natCast]
  refine ⟨fun hlt => ⟨by omega, by omega, fun hne => says_false fun e => hne (by rw [e]), fun he => ?_⟩, fun hge => says_true (ext_getD hl fun i hi => hq i (by omega))⟩
  rw [w64_succ (by omega) (by omega)]
  refine ih _ _ _ ⟨rfl, rfl, j + 1, rfl, by omega, fun q h => ?_⟩ (by simp; omega)
  by_cases e : q = j
  · subst e; exact he
  · exact hq q (by omega)
end Go.Gx

/-
  Laws, part R6: slices.Compact; the classes of a program, by the program.
-/
set_option linter.unusedVariables false
set_option linter.unusedSimpArgs false
namespace Go.Gx
theorem getD_z {l : List Int} {i : Nat} (h : i < l.length) : l.getD i 0 = l[i] := by
  rw [List.getD_eq_getElem?_getD, List.getElem?_eq_getElem h]; rfl
theorem take_snoc {l : List Int} {i : Nat} (h : i < l.length) : l.take (i + 1) = l.take i ++ [l.getD i 0] := by
  rw [List.take_add_one, List.getElem?_eq_getElem h, getD_z h]; rfl
theorem sorted_at {l : List Int} (hs : l.Pairwise (· ≤ ·)) {i j : Nat} (h : i ≤ j) (hj : j < l.length) : l.getD i 0 ≤ l.getD j 0 := by
  by_cases e : i = j
  · subst e; exact Int.le_refl _
  · rw [getD_z (by omega), getD_z hj]
    exact List.pairwise_iff_getElem.1 hs i j (by omega) hj (by omega)
theorem sorted_take {l : List Int} (hs : l.Pairwise (· ≤ ·)) {m : Nat} (h1 : 1 ≤ m) (hm : m ≤ l.length) {c : Int} (hc : c ∈ l.take m) : c ≤ l.getD (m - 1) 0 := by
  obtain ⟨i, hi, e⟩ := List.getElem_of_mem hc
  have hi' : i < m := by rw [List.length_take] at hi; omega
  rw [← e, List.getElem_take, ← getD_z (by omega : i < l.length)]
  exact sorted_at hs (by omega) (by omega)
/-- slices.Compact of what is sorted. -/
def CptR (s : List Int) (r : (List Int × Unit) × Unit) : Prop := ∃ l : List Int, r = ((l, ()), ()) ∧ l.Pairwise (· < ·) ∧ (∀ c, c ∈ l ↔ c ∈ s) ∧ l.length ≤ s.length
theorem compact_tot {s : List Int} (hl : s.length ≤ 1000) (hs : s.Pairwise (· ≤ ·)) : Tot (fun σ => F_Z16 (σ 0) s) (CptR s) := by
  refine tot_Z16 ?_
  unfold B_Z16 len
  rw [tot_cond]
  refine ⟨fun h => ?_, fun h => ?_⟩
  · have h := of_decide_eq_true h
    rw [tot_some]
    refine ⟨s, rfl, ?_, fun c => Iff.rfl, Nat.le_refl _⟩
    match s, h with
    | [], _ => exact List.Pairwise.nil
    | [x], _ => exact List.pairwise_singleton _ _
    | x :: y :: r, h => simp only [List.length_cons] at h; omega
  have h2 := of_decide_eq_false h
  have key := loop_Z16_L2 (Q := fun _ _ r => CptR s r) (I := fun d k => d = s ∧ ∃ p : Nat, k = (p : Int) ∧ 1 ≤ p ∧ p ≤ s.length ∧ (s.take p).Pairwise (· < ·)) (μ := fun _ k => (s.length - k).toNat) ?_
  · refine key s 1 ⟨rfl, 1, rfl, Nat.le_refl _, by omega, ?_⟩
    rw [take_snoc (i := 0) (by omega)]
    exact List.pairwise_singleton _ _
  rintro d _ ⟨rfl, p, rfl, hp1, hp2, hp3⟩ again hag ih
  unfold B_Z16_L2b len
  rw [tot_cond]
  refine ⟨fun h => ?_, fun h => ?_⟩
  · have h := of_decide_eq_true h
    rw [w64n_pred hp1 (by omega)]
    simp only [tot_chk, inbn, decide_eq_true_eq, Int.toNat_natCast]
    refine ⟨by omega, by omega, by omega, by omega, ?_⟩
    have hle := sorted_at hs (show p - 1 ≤ p by omega) (by omega)
    rw [tot_cond]
    refine ⟨fun he => ?_, fun he => ?_⟩
    · rw [beq_iff_eq] at he
      rw [tot_chk]
      refine ⟨cutb_iff.2 ⟨by omega, by omega, by omega⟩, ?_⟩
      have key1 := loop_Z16_L1 (Q := fun _ _ _ _ r => CptR d r) (I := fun x i j v => v = (p, d.length) ∧ x.length = d.length ∧ ∃ q m : Nat, i = (q : Int) ∧ j = (m : Int) ∧ 1 ≤ m ∧ 1 ≤ q ∧ q ≤ p + m - 1 ∧ p + m ≤ d.length ∧ (∀ z, q ≤ z → x.getD z 0 = d.getD z 0) ∧ (x.take q).Pairwise (· < ·) ∧ ∀ c, c ∈ x.take q ↔ c ∈ d.take (p + m)) (μ := fun _ _ j _ => (d.length - j).toNat) ?_
      · refine key1 d p 1 (p, d.length) ⟨rfl, rfl, p, 1, rfl, rfl, by omega, by omega, by omega, by omega, fun _ _ => rfl, hp3, fun c => ?_⟩
        rw [take_snoc (by omega : p < d.length), List.mem_append, List.mem_singleton]
        refine ⟨Or.inl, fun hc => hc.elim id fun e => ?_⟩
        rw [e, he, show p = (p - 1) + 1 by omega, take_snoc (by omega : p - 1 < d.length), Nat.add_sub_cancel]
        simp
      rintro x _ _ _ ⟨rfl, hx, q, m, rfl, rfl, hm1, hq0, hq1, hm2, hrest, hasc, hmem⟩ again1 hag1 ih1
      unfold B_Z16_L1b B_Z16_J0 len
      simp only
      rw [tot_cond]
      refine ⟨fun h => ?_, fun h => ?_⟩
      · have h := of_decide_eq_true h
        rw [w64n_pred hm1 (by omega)]
        simp only [tot_chk, inbn, decide_eq_true_eq, Int.toNat_natCast, Bool.and_eq_true]
        refine ⟨⟨by omega, by omega⟩, by omega, ⟨by omega, by omega⟩, by omega, ?_⟩
        rw [hrest _ (show q ≤ p + m by omega), hrest _ (show q ≤ p + (m - 1) by omega)]
        have hle := sorted_at hs (show p + (m - 1) ≤ p + m by omega) (by omega)
        rw [tot_cond]
        refine ⟨fun hne => ?_, fun heq => ?_⟩
        · rw [bne_iff_ne] at hne
          simp only [tot_chk, tot_jn, inbn, decide_eq_true_eq, Int.toNat_natCast, Bool.and_eq_true]
          refine ⟨⟨by omega, by omega⟩, by omega, by omega, by omega, ?_⟩
          rw [w64n_succ (by omega), w64n_succ (by omega)]
          have et : (x.set q (d.getD (p + m) 0)).take (q + 1) = x.take q ++ [d.getD (p + m) 0] := by
            rw [take_snoc (by rw [List.length_set]; omega), List.take_set_of_le (Nat.le_refl _), getD_z (by rw [List.length_set]; omega), List.getElem_set_self]
          refine ih1 _ _ _ _ ⟨rfl, by rw [List.length_set]; exact hx, q + 1, m + 1, rfl, rfl, by omega, by omega, by omega, by omega, fun z hz => ?_, ?_, fun c => ?_⟩ (by omega)
          · rw [← hrest z (by omega), List.getD_eq_getElem?_getD, List.getElem?_set_ne (by omega), ← List.getD_eq_getElem?_getD]
          · rw [et, List.pairwise_append]
            refine ⟨hasc, List.pairwise_singleton _ _, fun a ha b hb => ?_⟩
            rw [List.mem_singleton] at hb
            subst hb
            have := sorted_take hs (by omega) hm2 ((hmem a).1 ha)
            rw [show p + m - 1 = p + (m - 1) by omega] at this
            omega
          · rw [et, List.mem_append, List.mem_singleton, hmem, ← Nat.add_assoc, take_snoc (by omega : p + m < d.length), List.mem_append, List.mem_singleton]
        · have heq : d.getD (p + m) 0 = d.getD (p + (m - 1)) 0 := by simpa using heq
          rw [tot_jn, w64n_succ (by omega)]
          refine ih1 _ _ _ _ ⟨rfl, hx, q, m + 1, rfl, rfl, by omega, by omega, by omega, by omega, hrest, hasc, fun c => ?_⟩ (by omega)
          rw [hmem, ← Nat.add_assoc, take_snoc (by omega : p + m < d.length), List.mem_append, List.mem_singleton]
          refine ⟨Or.inl, fun hc => hc.elim id fun e => ?_⟩
          rw [e, heq, show p + m = (p + (m - 1)) + 1 by omega, take_snoc (by omega : p + (m - 1) < d.length)]
          simp
      · have h := of_decide_eq_false h
        have e : p + m = d.length := by omega
        have hq : (x.take q ++ List.replicate (x.length - q) (0 : Int) ++ x.drop x.length).take q = x.take q := by
          rw [List.append_assoc, List.take_append_of_le_length (by rw [List.length_take]; omega), List.take_take, Nat.min_self]
        simp only [tot_chk, tot_some, decide_eq_true_eq, Int.toNat_natCast, cutb_iff]
        refine ⟨⟨by omega, by omega, by omega⟩, ⟨by omega, Nat.le_refl _⟩, ⟨by omega, by omega, ?_⟩, ?_⟩
        · simp only [List.length_append, List.length_take, List.length_replicate, List.length_drop]; omega
        · refine ⟨_, rfl, ?_⟩
          rw [hq]
          refine ⟨hasc, fun c => ?_, by rw [List.length_take]; omega⟩
          rw [hmem, e, List.take_length]
    · have he : d.getD p 0 ≠ d.getD (p - 1) 0 := by simpa using he
      rw [w64n_succ (by omega)]
      refine ih _ _ ⟨rfl, p + 1, rfl, by omega, by omega, ?_⟩ (by omega)
      rw [take_snoc (by omega : p < d.length), List.pairwise_append]
      refine ⟨hp3, List.pairwise_singleton _ _, fun a ha b hb => ?_⟩
      rw [List.mem_singleton] at hb
      subst hb
      have := sorted_take hs hp1 hp2 ha
      omega
  · have h := of_decide_eq_false h
    have e : p = d.length := by omega
    rw [e, List.take_length] at hp3
    rw [tot_some]
    exact ⟨d, rfl, hp3, fun _ => Iff.rfl, Nat.le_refl _⟩
/-- What ascends is told by what is in it. -/
theorem asc_ext : ∀ {a b : List Int}, a.Pairwise (· < ·) → b.Pairwise (· < ·) → (∀ c, c ∈ a ↔ c ∈ b) → a = b
  | [], [], _, _, _ => rfl
  | [], y :: b, _, _, h => absurd ((h y).2 (List.mem_cons_self ..)) (List.not_mem_nil)
  | x :: a, [], _, _, h => absurd ((h x).1 (List.mem_cons_self ..)) (List.not_mem_nil)
  | x :: a, y :: b, ha, hb, h => by
    rw [List.pairwise_cons] at ha hb
    have hxy : x = y := by
      rcases List.mem_cons.1 ((h x).1 (List.mem_cons_self ..)) with e | e
      · exact e
      · rcases List.mem_cons.1 ((h y).2 (List.mem_cons_self ..)) with e' | e'
        · exact e'.symm
        · have := hb.1 x e; have := ha.1 y e'; omega
    subst hxy
    rw [asc_ext ha.2 hb.2 fun c => ?_]
    constructor
    · intro hc
      rcases List.mem_cons.1 ((h c).1 (List.mem_cons_of_mem _ hc)) with e | e
      · subst e; have := ha.1 c hc; omega
      · exact e
    · intro hc
      rcases List.mem_cons.1 ((h c).2 (List.mem_cons_of_mem _ hc)) with e | e
      · subst e; have := hb.1 c hc; omega
      · exact e
theorem newArgs_snoc {ops : List POp} {i : Nat} (h : i < ops.length) : newArgs (ops.take (i + 1)) = newArgs (ops.take i) ++ (if (ops.getD i (0, 0)).1 = 13 then [(ops.getD i (0, 0)).2] else []) := by
  rw [take_last h]
  unfold newArgs
  rw [List.filter_append, List.map_append]
  by_cases hc : (ops.getD i (0, 0)).1 = 13
  · rw [if_pos hc, List.filter_cons, if_pos (by rw [hc]; rfl)]; rfl
  · rw [if_neg hc, List.filter_cons, if_neg (by simpa using hc)]; rfl
theorem newArgs_range {ops : List POp} (h : okOps ops = true) {c : Int} (hc : c ∈ newArgs ops) : 0 ≤ c ∧ c ≤ 9 := by
  obtain ⟨i, hi, h13, rfl⟩ := newArgs_mem.1 hc
  have hoo := okOps_at h hi
  have hm : mostP 13 = 9 := rfl
  simp only [okOp, decide_eq_true_eq, h13, hm] at hoo
  omega
theorem classesP_asc (ops : List POp) : (classesP ops).Pairwise (· < ·) := by
  unfold classesP
  split
  · rw [List.pairwise_filterMap]
    refine List.pairwise_lt_range.imp ?_
    intro a b hab x hx y hy
    split at hx
    · split at hy
      · simp only [Option.some.injEq] at hx hy; omega
      · cases hy
    · cases hx
  · exact List.Pairwise.nil
theorem classesP_mem {ops : List POp} (h : okOps ops = true) (c : Int) : c ∈ classesP ops ↔ c ∈ newArgs ops := by
  unfold classesP
  rw [if_pos h, List.mem_filterMap]
  constructor
  · rintro ⟨a, -, ha⟩
    split at ha
    · rename_i hm
      simp only [Option.some.injEq] at ha
      rw [← ha]; exact hm
    · cases ha
  · intro hc
    have := newArgs_range h hc
    refine ⟨c.toNat, List.mem_range.2 (by omega), ?_⟩
    rw [show ((c.toNat : Nat) : Int) = c by omega, if_pos hc]
theorem i_ClassesIn_tot {ops : List POp} (hl : ops.length ≤ 900000000000) : Tot (fun σ => F_Z53 (σ 0) ops) (fun r => r = ((classesP ops, ()), ())) := by
  refine tot_Z53 ?_
  unfold B_Z53
  refine (i_ValidOps_tot hl).bind ?_
  rintro _ rfl
  simp only [tot_cond, tot_some, Bool.not_eq_true', Bool.not_eq_false']
  refine ⟨fun h => by unfold classesP; rw [if_neg (by rw [h]; decide)], fun h => ?_⟩
  have h3 := (okOps_all h).2
  unfold len
  have hlen : ∀ i, (newArgs (ops.take i)).length ≤ 300 := fun i => by
    unfold newArgs
    rw [List.length_map]
    have := List.length_filter_le (fun o : POp => o.1 == 13) (ops.take i)
    rw [List.length_take] at this
    omega
  have key := loop_Z53_L1 (Q := fun _ _ _ _ r => r = ((classesP ops, ()), ())) (I := fun u o n i => o = ops ∧ n = (ops.length : Int) ∧ ∃ j : Nat, i = (j : Int) ∧ j ≤ ops.length ∧ u = newArgs (ops.take j)) (μ := fun _ _ _ i => (ops.length - i).toNat) ?_
  · exact key [] ops _ 0 ⟨rfl, rfl, 0, rfl, Nat.zero_le _, rfl⟩
  rintro _ o _ _ ⟨rfl, rfl, j, rfl, hj, rfl⟩ again hag ih
  unfold B_Z53_L1b
  have hrd : rdx ((0 : Int), (0 : Int)) o (j : Int) = o.getD j (0, 0) := by rw [rdx_eq, Int.toNat_natCast]
  rw [hrd, tot_cond]
  refine ⟨fun hlt => ?_, fun hge => ?_⟩
  · have hlt := of_decide_eq_true hlt
    have hjl : j < o.length := by omega
    simp only [tot_chk, inbn, tot_cond, tot_jn, room_iff, beq_iff_eq, beq_eq_false_iff_ne, ne_eq]
    have e := newArgs_snoc hjl
    refine ⟨hjl, fun h13 => ⟨by have := hlen j; simp only [List.length_cons, List.length_nil]; omega, ?_⟩, fun h13 => ?_⟩
    · rw [if_pos h13] at e
      unfold B_Z53_J0
      rw [w64n_succ (by omega), ← e]
      exact ih _ _ _ _ ⟨rfl, rfl, j + 1, rfl, hjl, rfl⟩ (by omega)
    · rw [if_neg h13, List.append_nil] at e
      unfold B_Z53_J0
      rw [w64n_succ (by omega), ← e]
      exact ih _ _ _ _ ⟨rfl, rfl, j + 1, rfl, hjl, rfl⟩ (by omega)
  · have hge := of_decide_eq_false hge
    have : j = o.length := by omega
    subst this
    rw [List.take_length]
    have hn : (newArgs o).length ≤ 300 := by have := hlen o.length; rwa [List.take_length] at this
    refine (sort_tot (by omega)).bind ?_
    rintro _ ⟨l1, rfl, h1, h2⟩
    have hl1 : l1.length ≤ 300 := by rw [h1.length_eq]; exact hn
    refine (compact_tot (s := l1) (by omega) h2).bind ?_
    rintro _ ⟨l2, rfl, h4, h5, h6⟩
    refine Tot.bind (P := fun r => r = ((l2, ()), ())) ?_ ?_
    · refine tot_Z21 ?_
      unfold B_Z21 len
      rw [tot_chk, tot_some]
      refine ⟨by rw [Bool.and_eq_true]; exact ⟨by simp, cutb_iff.2 ⟨by omega, by omega, by omega⟩⟩, ?_⟩
      unfold sub
      rw [Int.toNat_natCast, List.take_length]; rfl
    · rintro _ rfl
      rw [tot_some, asc_ext h4 (classesP_asc o) fun c => by rw [h5, classesP_mem h, h1.mem_iff]]
end Go.Gx

/-
  Laws: running for BuildGraph (written by mkrun.py).
-/
set_option linter.unusedVariables false
set_option linter.unusedSimpArgs false
namespace Go.Gx
theorem after_BuildGraph_tot {N : List PNode} {S M : List Int} {D : Bool} : Tot (fun σ => F_Z27 (σ 0) N S M D) (fun r => r = ((), ())) := by
  refine tot_Z27 ?_
  unfold B_Z27
  rw [tot_some]
theorem running_BuildGraph_tot {ops : List POp} (hok : okOps ops = true) : Tot (fun σ => F_Z10 (σ 0) ops) (fun r => r = ((MD (runM newMc ops 0).1, ((runM newMc ops 0).2 : Int), ()), ())) := by
  obtain ⟨h1, h2⟩ := okOps_all hok
  refine tot_Z10 ?_
  unfold B_Z10
  refine newM_tot.bind ?_
  rintro _ rfl
  have key := loop_Z10_L0 (Q := fun ops' t4 N S M D t10 t11 t12 r => r = ((MD (runM newMc ops 0).1, ((runM newMc ops 0).2 : Int), ()), ()))
    (I := fun ops' t4 N S M D t10 t11 t12 => ops' = ops ∧ t10 = ops ∧ t11 = (ops.length : Int) ∧ ∃ j : Nat, t12 = (j : Int) ∧ j ≤ ops.length ∧ MI ⟨N, S, M, D⟩ (1000002 * j) ∧ N.length ≤ j ∧ S.length ≤ j ∧ runM newMc ops 0 = runM ⟨N, S, M, D⟩ (ops.drop j) j)
    (μ := fun _ _ _ _ _ _ _ _ t12 => (ops.length - t12).toNat) ?_
  · exact key ops false [] [] _ false ops _ 0 ⟨rfl, rfl, rfl, 0, rfl, by omega, newMc_inv, by simp, by simp, rfl⟩
  intro ops' t4 N S M D t10 t11 t12 ⟨e1, e2, e3, j, e4, hj, hI, hN, hS, hr⟩ again hag ih
  subst e1 e2 e3 e4
  unfold B_Z10_L0b
  simp only [tot_cond, tot_chk, decide_eq_true_eq, decide_eq_false_iff_not, inb_iff, rdx_eq, Int.toNat_natCast]
  refine ⟨fun hlt => ?_, fun hge => ?_⟩
  · have hj' : j < t10.length := by omega
    have hd : t10.drop j = t10.getD j (0, 0) :: t10.drop (j + 1) := by
      rw [List.drop_eq_getElem_cons hj', List.getD_eq_getElem?_getD, List.getElem?_eq_getElem hj']; rfl
    have hoo : okOp (t10.getD j (0, 0)) = true := List.all_eq_true.1 h1 _ (getD_mem hj')
    rw [hd] at hr
    refine ⟨by omega, (i_step_tot hI (by omega) (by show N.length ≤ _; omega) (by show S.length ≤ _; omega) (c := (t10.getD j (0, 0)).1) (a := (t10.getD j (0, 0)).2) hoo).bind fun r ha => ?_⟩
    cases hs : stepM ⟨N, S, M, D⟩ (t10.getD j (0, 0)).1 (t10.getD j (0, 0)).2 with
    | none =>
      rw [hs] at ha
      obtain ⟨_, ha⟩ := ha
      have ha := ha ⟨by show N.length < _; omega, by show S.length < _; omega⟩
      subst ha
      simp only [Bool.not_false, tot_cond, Option.bind_some]
      refine ⟨fun _ => (copyM_tot hI (by omega)).bind ?_, fun h0 => absurd h0 (by decide)⟩
      rintro _ rfl
      rw [tot_some, hr, runM, hs]
    | some m' =>
      rw [hs] at ha
      have ha : r = ((true, ()), ((some m'.N, m'.S, m'.M, m'.D, ()), ())) := ha
      subst ha
      simp only [Bool.not_true, tot_cond, Option.bind_some]
      refine ⟨fun h0 => absurd h0 (by decide), fun _ => after_BuildGraph_tot.bind ?_⟩
      rintro _ rfl
      obtain ⟨g1, g2⟩ := stepM_grow hs
      obtain ⟨i1, i2, i3⟩ := hI.step (by show N.length ≤ _; omega) (by show S.length ≤ _; omega) hoo hs
      rw [show w64 ((j : Int) + 1) = ((j + 1 : Nat) : Int) by rw [w64_id (by omega) (by omega)]; omega]
      refine ih _ _ _ _ _ _ _ _ _ ⟨rfl, rfl, rfl, j + 1, rfl, by omega, ⟨i1.sh, i1.ni.mono (Nat.le_refl _) (by omega)⟩, by show m'.N.length ≤ _; simp only at g1; omega, by show m'.S.length ≤ _; simp only at g2; omega, ?_⟩ (by omega)
      rw [hr, runM, hs]
  · refine (copyM_tot hI (by omega)).bind ?_
    rintro _ rfl
    rw [tot_some, hr, List.drop_eq_nil_of_le (by omega), runM]
    have : j = t10.length := by omega
    rw [this]
end Go.Gx

/-
  Laws: BuildGraph and IsWhole, by the program.
-/
set_option linter.unusedVariables false
set_option linter.unusedSimpArgs false
namespace Go.Gx
def graphA (ops : List POp) : ((List PNode × Int × Unit) × Bool × Unit) × Unit := if wholeM ops = true then ((((rM ops).N, (rM ops).S.getD 0 0, ()), true, ()), ()) else ((([], 0, ()), false, ()), ())
theorem i_BuildGraph_tot {ops : List POp} (hl : ops.length ≤ 900000000000) : Tot (fun σ => F_Z43 (σ 0) ops) (fun r => r = graphA ops) := by
  refine tot_Z43 ?_
  unfold B_Z43 B_Z43_J0 graphA wholeM
  refine (i_ValidOps_tot hl).bind ?_
  rintro _ rfl
  simp only [tot_cond, tot_some, Bool.not_eq_true', Bool.not_eq_false']
  refine ⟨fun h => by rw [if_neg (by rw [h]; simp)], fun h => ?_⟩
  refine (running_BuildGraph_tot h).bind ?_
  rintro _ rfl
  have hn := (rM_inv h).2.2.2
  simp only [tot_cond, tot_jn, tot_chk, tot_some, decide_eq_true_eq, decide_eq_false_iff_not, len, inb_iff, Bool.not_eq_true', Bool.not_eq_false']
  refine ⟨fun hlt => ⟨fun _ => ?_, fun h0 => absurd h0 (by decide)⟩, fun hge => ⟨fun hd => ?_, fun hd => ?_⟩⟩
  · have hlt : (rN ops : Int) < ops.length := hlt
    rw [if_neg (by simp only [Bool.and_eq_true, decide_eq_true_eq]; omega)]
  · rw [if_neg]
    show ¬ (_ && _ && (rM ops).D) = true
    have : (rM ops).D = false := hd
    rw [this, Bool.and_false]; decide
  · have hge : ¬ (rN ops : Int) < ops.length := hge
    have hd : (rM ops).D = true := hd
    obtain ⟨hs, _⟩ := rM_D hd
    have hs' : (runM newMc ops 0).1.S.length = 1 := hs
    refine ⟨by omega, by rw [hs']; decide, ?_⟩
    rw [if_pos]
    · rfl
    · rw [h, hd, decide_eq_true (by omega)]; rfl
theorem i_IsWhole_tot' {ops : List POp} : wholeM ops = (graphA ops).1.2.1 := by
  unfold graphA
  split
  · rename_i h; rw [h]
  · rename_i h; simpa using h
end Go.Gx

/-
  Laws: IsWhole, by the program.
-/
set_option linter.unusedVariables false
set_option linter.unusedSimpArgs false
namespace Go.Gx
theorem i_IsWhole_tot {ops : List POp} (hl : ops.length ≤ 900000000000) : Tot (fun σ => F_Z75 (σ 0) ops) (fun r => r = ((wholeM ops, ()), ())) := by
  refine tot_Z75 ?_
  unfold B_Z75
  refine (i_BuildGraph_tot hl).bind ?_
  rintro _ rfl
  rw [tot_some, i_IsWhole_tot']
end Go.Gx

/-
  The plain law of FnClassesIn.
-/
set_option linter.unusedVariables false
set_option linter.unusedSimpArgs false
namespace Go.Gx
def kvN (n : PNode) : Int × Int := (n.1, n.2.1)
def addKV (c a : Int) : List (Int × Int) := if 0 ≤ newKindP c then [(newKindP c, if c = 0 ∨ c = 1 ∨ c = 13 then a else 0)] else if c = 3 ∨ c = 5 ∨ c = 6 then [(2, 0)] else []
theorem setK_kv (N : List PNode) (i : Nat) (ks : List Int) : (setK N i ks).map kvN = N.map kvN := setK_map _ _ _ _ rfl
theorem putsP_kv : ∀ (l : List Int) (N : List PNode) (d : Int), (putsP N d l).map kvN = N.map kvN
  | [], _, _ => rfl
  | [_], _, _ => rfl
  | k :: v :: r, N, d => by rw [putsP, putsP_kv r]; exact setK_kv _ _ _
/-- What an order adds to the nodes' kinds and values. -/
theorem nodesP_kv (m : Mc) (c a : Int) : (nodesP m c a).map kvN = m.N.map kvN ++ addKV c a := by
  unfold nodesP addKV
  split
  · rw [List.map_append]; rfl
  · split
    · rename_i h; rw [if_pos (by omega), List.map_append]; rfl
    · split
      · rename_i h; rw [if_pos (by omega), List.map_append]; rfl
      · split
        · rename_i h; rw [if_pos (by omega), List.map_append]; rfl
        · have e : (if c = 3 ∨ c = 5 ∨ c = 6 then [((2 : Int), (0 : Int))] else []) = [] := if_neg (by omega)
          rw [e, List.append_nil]
          split
          · exact setK_kv _ _ _
          · split
            · exact setK_kv _ _ _
            · split
              · exact setK_kv _ _ _
              · split
                · exact putsP_kv _ _ _
                · split
                  · exact setK_kv _ _ _
                  · rfl
theorem stepM_kv {m m' : Mc} {c a : Int} (h : stepM m c a = some m') : m'.N.map kvN = m.N.map kvN ++ addKV c a := by
  unfold stepM at h
  cases hs : stepP m.sh c a with
  | none => rw [hs] at h; cases h
  | some s => rw [hs] at h; cases h; exact nodesP_kv m c a
theorem isIn_tot {l : List Int} {v : Int} (hl : l.length ≤ 1000) : Tot (fun σ => F_l_isIn (σ 0) l v) (Says (v ∈ l)) := by
  refine tot_l_isIn ?_
  unfold B_l_isIn
  have key := loop_l_isIn_L0 (Q := fun _ _ _ r => Says (v ∈ l) r) (I := fun x u i => x = l ∧ u = v ∧ ∃ j : Nat, i = (j : Int) ∧ j ≤ l.length ∧ ¬ v ∈ l.take j) (μ := fun _ _ i => (l.length - i).toNat) ?_
  · exact key l v 0 ⟨rfl, rfl, 0, rfl, Nat.zero_le _, by simp⟩
  rintro l v _ ⟨rfl, rfl, j, rfl, hj, hno⟩ again hag ih
  unfold B_l_isIn_L0b len
  have hrd : rdx (0 : Int) l (j : Int) = l.getD j 0 := by rw [rdx_eq, Int.toNat_natCast]
  rw [hrd, tot_cond]
  refine ⟨fun h => ?_, fun h => ?_⟩
  · have h := of_decide_eq_true h
    have hjl : j < l.length := by omega
    simp only [tot_chk, inbn, tot_cond, tot_some, beq_iff_eq, beq_eq_false_iff_ne, ne_eq]
    refine ⟨hjl, fun e => says_true (e ▸ getD_mem hjl), fun e => ?_⟩
    rw [w64n_succ (by omega)]
    refine ih _ _ _ ⟨rfl, rfl, j + 1, rfl, hjl, ?_⟩ (by omega)
    rw [take_snoc hjl, List.mem_append, List.mem_singleton]
    exact fun h => h.elim hno fun h => e h.symm
  · have h := of_decide_eq_false h
    rw [tot_some]
    rw [List.take_of_length_le (by omega)] at hno
    exact says_false hno
end Go.Gx

/-
  Laws, part FC1: objects of a class that become lists.
-/
set_option linter.unusedVariables false
set_option linter.unusedSimpArgs false
namespace Go.Gx
/-- The order that stands for o, when the shapes are those of what came out so far. -/
def fo (cls : Int) (s : Sh) (o : POp) : POp :=
  if o.1 = 13 ∧ o.2 = cls then (7, 0) else if o.1 = 14 ∧ shapeP s.K s.S 1 = 3 then (8, 0) else o
/-- Shapes with lists in the places that C tells. -/
structure RS (C : List Bool) (s s' : Sh) : Prop where
  hS : s'.S = s.S
  hM : s'.M = s.M
  hD : s'.D = s.D
  cl : C.length = s.K.length
  kl : s'.K.length = s.K.length
  fl : s.Fu.length = s.K.length
  fl' : s'.Fu.length = s.K.length
  hk : ∀ i, C.getD i false = false → s'.K.getD i 0 = s.K.getD i 0
  hc : ∀ i, C.getD i false = true → s.K.getD i 0 = 5 ∧ s'.K.getD i 0 = 3
  hf : ∀ i, C.getD i false = false → s'.Fu.getD i false = s.Fu.getD i false
def addC (cls : Int) (o : POp) : List Bool := if 0 ≤ newKindP o.1 then [decide (o.1 = 13 ∧ o.2 = cls)] else if o.1 = 3 ∨ o.1 = 5 ∨ o.1 = 6 then [false] else []
theorem getD_snoc {α : Type} {l : List α} {x d : α} {i : Nat} : (l ++ [x]).getD i d = if i < l.length then l.getD i d else if i = l.length then x else d := by
  rw [List.getD_eq_getElem?_getD, List.getElem?_append]
  split
  · rw [← List.getD_eq_getElem?_getD]
  · split
    · rename_i h; subst h; simp
    · rename_i h1 h2
      rw [List.getElem?_eq_none (by simp; omega)]; rfl
theorem RS.push {C : List Bool} {s s' : Sh} (h : RS C s s') {b : Bool} {k k' : Int} (hb : b = true → k = 5 ∧ k' = 3) (hn : b = false → k' = k) : RS (C ++ [b]) (pushP s k) (pushP s' k') := by
  have h1 := h.cl; have h2 := h.kl; have h3 := h.fl; have h4 := h.fl'
  refine ⟨?_, h.hM, h.hD, ?_, ?_, ?_, ?_, ?_, ?_, ?_⟩
  · show s'.S ++ [(s'.K.length : Int)] = s.S ++ [(s.K.length : Int)]
    rw [h.hS, h.kl]
  · show (C ++ [b]).length = (s.K ++ [k]).length
    simp [h1]
  · show (s'.K ++ [k']).length = (s.K ++ [k]).length
    simp [h2]
  · show (s.Fu ++ [false]).length = (s.K ++ [k]).length
    simp [h3]
  · show (s'.Fu ++ [false]).length = (s.K ++ [k]).length
    simp [h4]
  · intro i hi
    show (s'.K ++ [k']).getD i 0 = (s.K ++ [k]).getD i 0
    rw [getD_snoc] at hi ⊢
    rw [getD_snoc, h2]
    rw [h1] at hi
    split
    · rename_i hlt; rw [if_pos hlt] at hi; exact h.hk i hi
    · rename_i hlt
      rw [if_neg hlt] at hi
      split
      · rename_i he; rw [if_pos he] at hi; exact hn hi
      · rfl
  · intro i hi
    show (s.K ++ [k]).getD i 0 = 5 ∧ (s'.K ++ [k']).getD i 0 = 3
    rw [getD_snoc] at hi ⊢
    rw [getD_snoc, h2]
    rw [h1] at hi
    split
    · rename_i hlt; rw [if_pos hlt] at hi; exact h.hc i hi
    · rename_i hlt
      rw [if_neg hlt] at hi
      split
      · rename_i he; rw [if_pos he] at hi; exact hb hi
      · rename_i he; rw [if_neg he] at hi; cases hi
  · intro i hi
    show (s'.Fu ++ [false]).getD i false = (s.Fu ++ [false]).getD i false
    rw [getD_snoc] at hi
    rw [getD_snoc, getD_snoc, h4, h3]
    rw [h1] at hi
    split
    · rename_i hlt; rw [if_pos hlt] at hi; exact h.hf i hi
    · rfl
theorem getD_setB {l : List Bool} {q i : Nat} {v : Bool} : (l.set q v).getD i false = if q = i ∧ q < l.length then v else l.getD i false := by
  rw [List.getD_eq_getElem?_getD, List.getElem?_set]
  by_cases h : q = i
  · subst h
    rw [if_pos rfl]
    by_cases h2 : q < l.length
    · rw [if_pos h2, if_pos ⟨rfl, h2⟩]; rfl
    · rw [if_neg h2, if_neg (fun h => h2 h.2), List.getD_eq_getElem?_getD, List.getElem?_eq_none (by omega)]
  · rw [if_neg h, if_neg (fun h' => h h'.1), List.getD_eq_getElem?_getD]
/-- Another stack and memo. -/
theorem RS.setS {C : List Bool} {s s' : Sh} (h : RS C s s') (S M : List Int) (D : Bool) : RS C { s with S := S, M := M, D := D } { s' with S := S, M := M, D := D } := ⟨rfl, rfl, rfl, h.cl, h.kl, h.fl, h.fl', h.hk, h.hc, h.hf⟩
/-- The kinds of the things on the stack. -/
theorem RS.shape {C : List Bool} {s s' : Sh} (h : RS C s s') (S : List Int) (d : Nat) : (shapeP s'.K S d = shapeP s.K S d ∧ (d < S.length → 0 ≤ S.getD (S.length - 1 - d) 0 → C.getD (S.getD (S.length - 1 - d) 0).toNat false = false)) ∨ (d < S.length ∧ 0 ≤ S.getD (S.length - 1 - d) 0 ∧ shapeP s.K S d = 5 ∧ shapeP s'.K S d = 3 ∧ C.getD (S.getD (S.length - 1 - d) 0).toNat false = true) := by
  unfold shapeP
  by_cases h1 : S.length ≤ d
  · rw [if_pos h1, if_pos h1]; exact Or.inl ⟨rfl, fun h => by omega⟩
  · rw [if_neg h1, if_neg h1]
    by_cases h2 : S.getD (S.length - 1 - d) 0 < 0
    · rw [if_pos h2, if_pos h2]; exact Or.inl ⟨rfl, fun _ h => by omega⟩
    · rw [if_neg h2, if_neg h2]
      cases hC : C.getD (S.getD (S.length - 1 - d) 0).toNat false with
      | false => exact Or.inl ⟨h.hk _ hC, fun _ _ => rfl⟩
      | true => exact Or.inr ⟨by omega, by omega, (h.hc _ hC).1, (h.hc _ hC).2, rfl⟩
theorem RS.keys {C : List Bool} {s s' : Sh} (h : RS C s s') : ∀ (l : List Int), keysOk s.K l = true → keysOk s'.K l = true := by
  have key : ∀ i : Nat, keyP (s.K.getD i 0) = true → keyP (s'.K.getD i 0) = true := fun i hi => by
    cases hC : C.getD i false with
    | false => rw [h.hk i hC]; exact hi
    | true => rw [(h.hc i hC).1] at hi; exact absurd hi (by decide)
  intro l
  induction l using keysOk.induct with
  | case1 => exact fun _ => rfl
  | case2 x => exact key _
  | case3 x y r ih =>
    intro hk
    rw [keysOk] at hk ⊢
    rw [Bool.and_eq_true] at hk ⊢
    exact ⟨key _ hk.1, ih hk.2⟩
theorem shape_pos {K S : List Int} {d : Nat} (h : 0 ≤ shapeP K S d) : d < S.length ∧ 0 ≤ S.getD (S.length - 1 - d) 0 := by
  unfold shapeP at h
  split at h
  · omega
  · split at h
    · omega
    · omega
/-- What is possible stays possible. -/
theorem RS.raw {C : List Bool} {s s' s1 : Sh} (h : RS C s s') (cls : Int) {c a : Int} (hc : 0 ≤ c ∧ c ≤ 19) (hs : stepRaw s c a = some s1) :
    ∃ s1', stepRaw s' (fo cls s' (c, a)).1 (fo cls s' (c, a)).2 = some s1' ∧ RS (C ++ addC cls (c, a)) s1 s1' := by
  have hD : s.D = false := by
    cases hq : s.D with
    | false => rfl
    | true => unfold stepRaw at hs; rw [if_pos hq] at hs; cases hs
  have hD' : ¬ s'.D = true := by rw [h.hD, hD]; decide
  unfold stepRaw at hs
  rw [if_neg (by rw [hD]; decide)] at hs
  by_cases h0 : 0 ≤ newKindP c
  · rw [if_pos h0] at hs
    cases hs
    have ea : addC cls (c, a) = [decide (c = 13 ∧ a = cls)] := if_pos h0
    rw [ea]
    by_cases hb : c = 13 ∧ a = cls
    · have ef : fo cls s' (c, a) = (7, 0) := if_pos hb
      rw [ef]
      refine ⟨pushP s' 3, ?_, h.push (fun _ => ⟨by rw [hb.1]; rfl, rfl⟩) (fun hn => absurd hb (of_decide_eq_false hn))⟩
      unfold stepRaw
      rw [if_neg hD', if_pos (by decide)]; rfl
    · have h14 : c ≠ 14 := by rintro rfl; exact absurd h0 (by decide)
      have ef : fo cls s' (c, a) = (c, a) := by unfold fo; rw [if_neg hb, if_neg (fun h => h14 h.1)]
      rw [ef]
      refine ⟨pushP s' (newKindP c), ?_, h.push (fun hn => absurd (of_decide_eq_true hn) hb) (fun _ => rfl)⟩
      unfold stepRaw
      rw [if_neg hD', if_pos h0]
  rw [if_neg h0] at hs
  have h13 : c ≠ 13 := by rintro rfl; exact h0 (by decide)
  by_cases hc14 : c = 14 ∧ shapeP s'.K s'.S 1 = 3
  · obtain ⟨rfl, h3⟩ := hc14
    have ef : fo cls s' (14, a) = (8, 0) := by unfold fo; rw [if_neg (fun h => h13 h.1), if_pos ⟨rfl, h3⟩]
    have ea : addC cls (14, a) = [] := rfl
    rw [ef, ea, List.append_nil]
    rw [if_neg (by decide), if_neg (by decide), if_neg (by decide)] at hs
    simp only [takeP] at hs
    split at hs
    · cases hs
    rename_i hx
    rw [if_neg (by decide), if_neg (by decide), if_neg (by decide), if_neg (by decide), if_pos trivial] at hs
    split at hs
    · rename_i hy
      cases hs
      refine ⟨dropP s' 1, ?_, ?_⟩
      · unfold stepRaw
        rw [if_neg hD', if_neg (by decide), if_neg (by decide), if_neg (by decide), if_neg (by decide)]
        simp only [takeP]
        rw [if_neg, if_neg (by decide), if_neg (by decide), if_pos trivial, if_pos h3]
        rcases h.shape s'.S 0 with ⟨e, _⟩ | ⟨_, _, _, e, _⟩
        · rw [e, h.hS]; exact hx
        · rw [e]; decide
      · have hC : C.getD (s.S.getD (s.S.length - 2) 0).toNat false = true := by
          rcases h.shape s'.S 1 with ⟨e, _⟩ | ⟨_, _, _, _, e⟩
          · rw [h3, h.hS, hy.1] at e; exact absurd e (by decide)
          · rw [h.hS] at e; exact e
        have hd := h.setS (s.S.take (s.S.length - 1)) s.M s.D
        refine ⟨?_, h.hM, h.hD, h.cl, h.kl, ?_, h.fl', h.hk, h.hc, ?_⟩
        · show s'.S.take (s'.S.length - 1) = s.S.take (s.S.length - 1)
          rw [h.hS]
        · show (s.Fu.set _ true).length = _
          rw [List.length_set]; exact h.fl
        · intro i hi
          show s'.Fu.getD i false = (s.Fu.set _ true).getD i false
          rw [List.getD_eq_getElem?_getD (l := s.Fu.set _ _), List.getElem?_set_ne, ← List.getD_eq_getElem?_getD]
          · exact h.hf i hi
          · intro e; rw [e, hi] at hC; cases hC
    · cases hs
  -- the order itself
  have ef : fo cls s' (c, a) = (c, a) := by unfold fo; rw [if_neg (fun h => h13 h.1), if_neg hc14]
  rw [ef]
  unfold stepRaw
  rw [if_neg hD', if_neg h0]
  by_cases h2 : c = 2
  · rw [if_pos h2] at hs ⊢
    cases hs
    have ea : addC cls (c, a) = [] := by subst h2; rfl
    rw [ea, List.append_nil]
    exact ⟨_, rfl, by rw [h.hS]; exact ⟨rfl, h.hM, h.hD, h.cl, h.kl, h.fl, h.fl', h.hk, h.hc, h.hf⟩⟩
  rw [if_neg h2] at hs ⊢
  by_cases h16 : c = 16
  · rw [if_pos h16] at hs ⊢
    have ea : addC cls (c, a) = [] := by subst h16; rfl
    rw [ea, List.append_nil]
    split at hs
    · cases hs
    · rename_i hm
      cases hs
      rw [if_neg (by rw [h.hM]; exact hm)]
      refine ⟨_, rfl, ?_, h.hM, h.hD, h.cl, h.kl, h.fl, h.fl', h.hk, h.hc, h.hf⟩
      show s'.S ++ [s'.M.getD a.toNat 0] = s.S ++ [s.M.getD a.toNat 0]
      rw [h.hS, h.hM]
  rw [if_neg h16] at hs ⊢
  by_cases hmk : c = 3 ∨ c = 9 ∨ c = 12 ∨ c = 18
  · rw [if_pos hmk] at hs ⊢
    unfold markP at hs ⊢
    rw [h.hS]
    cases hm : markAt s.S s.S.length with
    | none => rw [hm] at hs; cases hs
    | some i =>
      rw [hm] at hs
      simp only at hs ⊢
      have hd : RS C { s with S := s.S.take i } { s' with S := s.S.take i } := ⟨rfl, h.hM, h.hD, h.cl, h.kl, h.fl, h.fl', h.hk, h.hc, h.hf⟩
      by_cases h3 : c = 3
      · rw [if_pos h3] at hs ⊢
        cases hs
        have ea : addC cls (c, a) = [false] := by subst h3; rfl
        rw [ea]
        exact ⟨_, rfl, hd.push (fun h => by cases h) (fun _ => rfl)⟩
      have ea : addC cls (c, a) = [] := by unfold addC; rw [if_neg h0, if_neg (by omega)]
      rw [ea, List.append_nil]
      rw [if_neg h3] at hs ⊢
      by_cases h9 : c = 9
      · rw [if_pos h9] at hs ⊢
        split at hs
        · rename_i hk
          cases hs
          refine ⟨_, if_pos ?_, hd⟩
          rcases h.shape (s.S.take i) 0 with ⟨e, _⟩ | ⟨_, _, e, e', _⟩
          · rw [e]; exact hk
          · exact e'
        · cases hs
      rw [if_neg h9] at hs ⊢
      by_cases h12 : c = 12
      · rw [if_pos h12] at hs ⊢
        split at hs
        · rename_i hk
          cases hs
          refine ⟨_, if_pos ⟨?_, hk.2.1, h.keys _ hk.2.2⟩, hd⟩
          rcases h.shape (s.S.take i) 0 with ⟨e, _⟩ | ⟨_, _, e, e', _⟩
          · rw [e]; exact hk.1
          · rw [hk.1] at e; exact absurd e (by decide)
        · cases hs
      rw [if_neg h12] at hs ⊢
      cases hs
      exact ⟨_, rfl, hd⟩
  rw [if_neg hmk] at hs ⊢
  simp only [takeP] at hs ⊢
  rw [h.hS]
  split at hs
  · cases hs
  rename_i hx
  rw [if_neg (by
    rcases h.shape s.S 0 with ⟨e, _⟩ | ⟨_, _, _, e, _⟩
    · rw [e]; exact hx
    · rw [e]; decide)]
  have hd : ∀ n, RS C (dropP s n) (dropP s' n) := fun n => ⟨by show s'.S.take _ = s.S.take _; rw [h.hS], h.hM, h.hD, h.cl, h.kl, h.fl, h.fl', h.hk, h.hc, h.hf⟩
  by_cases h5 : c = 5
  · rw [if_pos h5] at hs ⊢
    cases hs
    have ea : addC cls (c, a) = [false] := by subst h5; rfl
    rw [ea]
    exact ⟨_, rfl, (hd 1).push (fun h => by cases h) (fun _ => rfl)⟩
  rw [if_neg h5] at hs ⊢
  by_cases h6 : c = 6
  · rw [if_pos h6] at hs ⊢
    split at hs
    · cases hs
    rename_i hy
    cases hs
    have ea : addC cls (c, a) = [false] := by subst h6; rfl
    rw [ea]
    refine ⟨_, if_neg ?_, (hd 2).push (fun h => by cases h) (fun _ => rfl)⟩
    rcases h.shape s.S 1 with ⟨e, _⟩ | ⟨_, _, _, e, _⟩
    · rw [e]; exact hy
    · rw [e]; decide
  rw [if_neg h6] at hs ⊢
  have ea : addC cls (c, a) = [] := by unfold addC; rw [if_neg h0, if_neg (by omega)]
  rw [ea, List.append_nil]
  by_cases h8 : c = 8
  · rw [if_pos h8] at hs ⊢
    split at hs
    · rename_i hy
      cases hs
      refine ⟨_, if_pos ?_, hd 1⟩
      rcases h.shape s.S 1 with ⟨e, _⟩ | ⟨_, _, _, e, _⟩
      · rw [e]; exact hy
      · exact e
    · cases hs
  rw [if_neg h8] at hs ⊢
  by_cases h11 : c = 11
  · rw [if_pos h11] at hs ⊢
    split at hs
    · rename_i hy
      cases hs
      refine ⟨_, if_pos ⟨?_, ?_⟩, hd 2⟩
      · rcases h.shape s.S 1 with ⟨e, _⟩ | ⟨_, _, e, _, _⟩
        · rw [e]; exact hy.1
        · rw [e] at hy; exact absurd hy.1 (by decide)
      · rcases h.shape s.S 2 with ⟨e, _⟩ | ⟨_, _, e, _, _⟩
        · rw [e]; exact hy.2
        · rw [e] at hy; exact absurd hy.2 (by decide)
    · cases hs
  rw [if_neg h11] at hs ⊢
  by_cases h14 : c = 14
  · rw [if_pos h14] at hs ⊢
    split at hs
    · rename_i hy
      cases hs
      have hp := shape_pos (K := s.K) (S := s.S) (d := 1) (by rw [hy.1]; decide)
      have hC : C.getD (s.S.getD (s.S.length - 2) 0).toNat false = false := by
        rcases h.shape s.S 1 with ⟨_, e⟩ | ⟨_, _, _, e, _⟩
        · exact e hp.1 hp.2
        · exact absurd ⟨h14, by rw [h.hS]; exact e⟩ hc14
      have hy' : shapeP s'.K s.S 1 = 5 ∧ s'.Fu.getD (s.S.getD (s.S.length - 2) 0).toNat false = false := by
        refine ⟨?_, ?_⟩
        · rcases h.shape s.S 1 with ⟨e, _⟩ | ⟨_, _, _, _, e⟩
          · rw [e]; exact hy.1
          · have e : C.getD (s.S.getD (s.S.length - 2) 0).toNat false = true := e
            rw [hC] at e; cases e
        · rw [h.hf _ hC]; exact hy.2
      refine ⟨_, if_pos hy', ?_⟩
      · refine ⟨by show s'.S.take _ = s.S.take _; rw [h.hS], h.hM, h.hD, h.cl, h.kl, ?_, ?_, h.hk, h.hc, ?_⟩
        · show (s.Fu.set _ true).length = _
          rw [List.length_set]; exact h.fl
        · show (s'.Fu.set _ true).length = _
          rw [List.length_set]; exact h.fl'
        · intro i hi
          show (s'.Fu.set _ true).getD i false = (s.Fu.set _ true).getD i false
          rw [getD_setB, getD_setB, h.fl, h.fl', h.hf i hi]
    · cases hs
  rw [if_neg h14] at hs ⊢
  by_cases h15 : c = 15
  · rw [if_pos h15] at hs ⊢
    cases hs
    exact ⟨_, rfl, by rw [h.hM]; exact ⟨rfl, rfl, h.hD, h.cl, h.kl, h.fl, h.fl', h.hk, h.hc, h.hf⟩⟩
  rw [if_neg h15] at hs ⊢
  by_cases h19 : c = 19
  · rw [if_pos h19] at hs ⊢
    split at hs
    · rename_i hl
      cases hs
      exact ⟨_, if_pos hl, ⟨rfl, h.hM, rfl, h.cl, h.kl, h.fl, h.fl', h.hk, h.hc, h.hf⟩⟩
    · cases hs
  rw [if_neg h19] at hs ⊢
  cases hs
  exact ⟨_, rfl, hd 1⟩
theorem RS.step {C : List Bool} {s s' s1 : Sh} (h : RS C s s') (cls : Int) {c a : Int} (hc : 0 ≤ c ∧ c ≤ 19) (hs : stepP s c a = some s1) :
    ∃ s1', stepP s' (fo cls s' (c, a)).1 (fo cls s' (c, a)).2 = some s1' ∧ RS (C ++ addC cls (c, a)) s1 s1' := by
  obtain ⟨h1, h2⟩ := stepP_raw hs
  obtain ⟨s1', e, hR⟩ := h.raw cls hc h1
  refine ⟨s1', ?_, hR⟩
  unfold stepP
  rw [e]
  have : fitsP s1' = true := by
    unfold fitsP at h2 ⊢
    rw [hR.kl, hR.hS]; exact h2
  simp only [this, if_true]
end Go.Gx

/-
  Laws: running for FirstBad (written by mkrun.py).
-/
set_option linter.unusedVariables false
set_option linter.unusedSimpArgs false
namespace Go.Gx
theorem after_FirstBad_tot {N : List PNode} {S M : List Int} {D : Bool} : Tot (fun σ => F_Z49 (σ 0) N S M D) (fun r => r = ((), ())) := by
  refine tot_Z49 ?_
  unfold B_Z49
  rw [tot_some]
theorem running_FirstBad_tot {ops : List POp} (hok : okOps ops = true) : Tot (fun σ => F_Z14 (σ 0) ops) (fun r => r = ((MD (runM newMc ops 0).1, ((runM newMc ops 0).2 : Int), ()), ())) := by
  obtain ⟨h1, h2⟩ := okOps_all hok
  refine tot_Z14 ?_
  unfold B_Z14
  refine newM_tot.bind ?_
  rintro _ rfl
  have key := loop_Z14_L0 (Q := fun ops' t4 N S M D t10 t11 t12 r => r = ((MD (runM newMc ops 0).1, ((runM newMc ops 0).2 : Int), ()), ()))
    (I := fun ops' t4 N S M D t10 t11 t12 => ops' = ops ∧ t10 = ops ∧ t11 = (ops.length : Int) ∧ ∃ j : Nat, t12 = (j : Int) ∧ j ≤ ops.length ∧ MI ⟨N, S, M, D⟩ (1000002 * j) ∧ N.length ≤ j ∧ S.length ≤ j ∧ runM newMc ops 0 = runM ⟨N, S, M, D⟩ (ops.drop j) j)
    (μ := fun _ _ _ _ _ _ _ _ t12 => (ops.length - t12).toNat) ?_
  · exact key ops false [] [] _ false ops _ 0 ⟨rfl, rfl, rfl, 0, rfl, by omega, newMc_inv, by simp, by simp, rfl⟩
  intro ops' t4 N S M D t10 t11 t12 ⟨e1, e2, e3, j, e4, hj, hI, hN, hS, hr⟩ again hag ih
  subst e1 e2 e3 e4
  unfold B_Z14_L0b
  simp only [tot_cond, tot_chk, decide_eq_true_eq, decide_eq_false_iff_not, inb_iff, rdx_eq, Int.toNat_natCast]
  refine ⟨fun hlt => ?_, fun hge => ?_⟩
  · have hj' : j < t10.length := by omega
    have hd : t10.drop j = t10.getD j (0, 0) :: t10.drop (j + 1) := by
      rw [List.drop_eq_getElem_cons hj', List.getD_eq_getElem?_getD, List.getElem?_eq_getElem hj']; rfl
    have hoo : okOp (t10.getD j (0, 0)) = true := List.all_eq_true.1 h1 _ (getD_mem hj')
    rw [hd] at hr
    refine ⟨by omega, (i_step_tot hI (by omega) (by show N.length ≤ _; omega) (by show S.length ≤ _; omega) (c := (t10.getD j (0, 0)).1) (a := (t10.getD j (0, 0)).2) hoo).bind fun r ha => ?_⟩
    cases hs : stepM ⟨N, S, M, D⟩ (t10.getD j (0, 0)).1 (t10.getD j (0, 0)).2 with
    | none =>
      rw [hs] at ha
      obtain ⟨_, ha⟩ := ha
      have ha := ha ⟨by show N.length < _; omega, by show S.length < _; omega⟩
      subst ha
      simp only [Bool.not_false, tot_cond, Option.bind_some]
      refine ⟨fun _ => (copyM_tot hI (by omega)).bind ?_, fun h0 => absurd h0 (by decide)⟩
      rintro _ rfl
      rw [tot_some, hr, runM, hs]
    | some m' =>
      rw [hs] at ha
      have ha : r = ((true, ()), ((some m'.N, m'.S, m'.M, m'.D, ()), ())) := ha
      subst ha
      simp only [Bool.not_true, tot_cond, Option.bind_some]
      refine ⟨fun h0 => absurd h0 (by decide), fun _ => after_FirstBad_tot.bind ?_⟩
      rintro _ rfl
      obtain ⟨g1, g2⟩ := stepM_grow hs
      obtain ⟨i1, i2, i3⟩ := hI.step (by show N.length ≤ _; omega) (by show S.length ≤ _; omega) hoo hs
      rw [show w64 ((j : Int) + 1) = ((j + 1 : Nat) : Int) by rw [w64_id (by omega) (by omega)]; omega]
      refine ih _ _ _ _ _ _ _ _ _ ⟨rfl, rfl, rfl, j + 1, rfl, by omega, ⟨i1.sh, i1.ni.mono (Nat.le_refl _) (by omega)⟩, by show m'.N.length ≤ _; simp only at g1; omega, by show m'.S.length ≤ _; simp only at g2; omega, ?_⟩ (by omega)
      rw [hr, runM, hs]
  · refine (copyM_tot hI (by omega)).bind ?_
    rintro _ rfl
    rw [tot_some, hr, List.drop_eq_nil_of_le (by omega), runM]
    have : j = t10.length := by omega
    rw [this]
end Go.Gx

/-
  Laws: FirstBad, by the program.
-/
set_option linter.unusedVariables false
set_option linter.unusedSimpArgs false
namespace Go.Gx
theorem i_FirstBad_tot {ops : List POp} (hl : ops.length ≤ 900000000000) : Tot (fun σ => F_Z71 (σ 0) ops) (fun r => r = ((badM ops, ()), ())) := by
  refine tot_Z71 ?_
  unfold B_Z71 badM
  refine (i_ValidOps_tot hl).bind ?_
  rintro _ rfl
  simp only [tot_cond, tot_some, Bool.not_eq_true', Bool.not_eq_false']
  refine ⟨fun h => by rw [if_neg (by rw [h]; decide)], fun h => ?_⟩
  refine (running_FirstBad_tot h).bind ?_
  rintro _ rfl
  simp only [tot_cond, tot_some, beq_iff_eq, beq_eq_false_iff_ne, ne_eq, len]
  rw [if_pos h]
  refine ⟨fun he => by rw [if_pos (by show (runM newMc ops 0).2 = _; omega)], fun he => by rw [if_neg (by show ¬ (runM newMc ops 0).2 = _; omega)]⟩
end Go.Gx

/-
  Laws, part FC2: ForbidClass, both.
-/
set_option linter.unusedVariables false
set_option linter.unusedSimpArgs false
namespace Go.Gx
def isC (cls : Int) (n : PNode) : Bool := decide (n.1 = 5 ∧ n.2.1 = cls)
def RSm (cls : Int) (m m' : Mc) : Prop := RS (m.N.map (isC cls)) m.sh m'.sh
theorem kind5 {c : Int} : newKindP c = 5 ↔ c = 13 := by
  unfold newKindP
  split
  · omega
  split
  · omega
  split
  · omega
  split
  · omega
  split
  · omega
  split <;> omega
theorem stepM_isC (cls : Int) {m m' : Mc} {c a : Int} (h : stepM m c a = some m') : m'.N.map (isC cls) = m.N.map (isC cls) ++ addC cls (c, a) := by
  have hk := stepM_kv h
  have e : ∀ N : List PNode, N.map (isC cls) = (N.map kvN).map (fun p => decide (p.1 = 5 ∧ p.2 = cls)) := fun N => by
    rw [List.map_map]; rfl
  rw [e, hk, List.map_append, ← e]
  congr 1
  unfold addKV addC
  simp only
  split
  · rw [List.map_cons, List.map_nil]
    congr 1
    simp only [kind5]
    by_cases h13 : c = 13
    · rw [if_pos (Or.inr (Or.inr h13))]
    · exact decide_eq_decide.2 ⟨fun h => absurd h.1 h13, fun h => absurd h.1 h13⟩
  · split <;> rfl
theorem RSm.step {cls : Int} {m m' m1 : Mc} (h : RSm cls m m') {o : POp} (hc : 0 ≤ o.1 ∧ o.1 ≤ 19) (hs : stepM m o.1 o.2 = some m1) :
    ∃ m1', stepM m' (fo cls m'.sh o).1 (fo cls m'.sh o).2 = some m1' ∧ RSm cls m1 m1' := by
  obtain ⟨s1', e, hR⟩ := RS.step h cls (c := o.1) (a := o.2) hc (stepM_sh hs)
  cases hm : stepM m' (fo cls m'.sh o).1 (fo cls m'.sh o).2 with
  | none => rw [stepM_none hm] at e; cases e
  | some m1' =>
    refine ⟨m1', rfl, ?_⟩
    have e2 := stepM_sh hm
    have e3 : some m1'.sh = some s1' := e2.symm.trans e
    cases e3
    unfold RSm
    rw [stepM_isC cls hs]
    exact hR
theorem newRSm (cls : Int) : RSm cls newMc newMc := ⟨rfl, rfl, rfl, rfl, rfl, rfl, rfl, fun _ _ => rfl, fun i h => by simp [newMc] at h, fun _ _ => rfl⟩
def forbL (cls : Int) : Mc → List POp → List POp
  | _, [] => []
  | m', o :: r => fo cls m'.sh o :: forbL cls ((stepM m' (fo cls m'.sh o).1 (fo cls m'.sh o).2).getD m') r
theorem forbL_len (cls : Int) : ∀ (r : List POp) (m' : Mc), (forbL cls m' r).length = r.length
  | [], _ => rfl
  | o :: r, m' => by rw [forbL, List.length_cons, List.length_cons, forbL_len cls r]
theorem fo_ok {cls : Int} {s : Sh} {o : POp} (h : okOp o = true) : okOp (fo cls s o) = true := by
  unfold fo
  split
  · decide
  · split
    · decide
    · exact h
theorem fo_cls {cls : Int} {s : Sh} {o : POp} : ¬ ((fo cls s o).1 = 13 ∧ (fo cls s o).2 = cls) := by
  unfold fo
  split
  · rintro ⟨h, _⟩; exact absurd h (by decide)
  · split
    · rintro ⟨h, _⟩; exact absurd h (by decide)
    · assumption
theorem forbL_ok {cls : Int} : ∀ {r : List POp} {m' : Mc}, (∀ o ∈ r, okOp o = true) → ∀ p ∈ forbL cls m' r, okOp p = true ∧ ¬ (p.1 = 13 ∧ p.2 = cls)
  | [], _, _, p, hp => by simp [forbL] at hp
  | o :: r, m', h, p, hp => by
    rw [forbL] at hp
    rcases List.mem_cons.1 hp with e | e
    · subst e; exact ⟨fo_ok (h o (List.mem_cons_self ..)), fo_cls⟩
    · exact forbL_ok (fun o ho => h o (List.mem_cons_of_mem _ ho)) p e
/-- What comes out runs to its end. -/
theorem forb_run {cls : Int} : ∀ (r : List POp) (m m' : Mc) (k : Nat), RSm cls m m' → (∀ o ∈ r, okOp o = true) → (runM m r k).2 = k + r.length →
    (runM m' (forbL cls m' r) k).2 = k + r.length ∧ RSm cls (runM m r k).1 (runM m' (forbL cls m' r) k).1
  | [], m, m', k, h, _, _ => ⟨rfl, h⟩
  | o :: r, m, m', k, h, hok, hn => by
    cases hs : stepM m o.1 o.2 with
    | none => simp only [runM, hs, List.length_cons] at hn; omega
    | some m1 =>
      obtain ⟨m1', e, hR⟩ := h.step (okOp_code (hok o (List.mem_cons_self ..))) hs
      have e1 : runM m (o :: r) k = runM m1 r (k + 1) := by simp only [runM, hs]
      have e2 : runM m' (forbL cls m' (o :: r)) k = runM m1' (forbL cls m1' r) (k + 1) := by
        rw [forbL, e]; simp only [runM, e, Option.getD_some]
      rw [e1] at hn ⊢
      rw [e2]
      have := forb_run r m1 m1' (k + 1) hR (fun o ho => hok o (List.mem_cons_of_mem _ ho)) (by rw [hn, List.length_cons]; omega)
      rw [this.1, List.length_cons]
      exact ⟨by omega, this.2⟩
theorem st14 {m m1 : Mc} {a : Int} (h : stepM m 14 a = some m1) : shapeP m.sh.K m.sh.S 1 = 5 := by
  obtain ⟨h1, _⟩ := stepP_raw (stepM_sh h)
  unfold stepRaw at h1
  split at h1
  · cases h1
  rw [if_neg (by decide), if_neg (by decide), if_neg (by decide), if_neg (by decide)] at h1
  simp only [takeP] at h1
  split at h1
  · cases h1
  rw [if_neg (by decide), if_neg (by decide), if_neg (by decide), if_neg (by decide), if_pos trivial] at h1
  split at h1
  · rename_i h; exact h.1
  · cases h1
def forbP (ops : List POp) (cls : Int) : List POp := if okOps ops = true ∧ rN ops = ops.length ∧ 0 ≤ cls ∧ cls ≤ 9 then forbL cls newMc ops else []
/-- A round of both loops. -/
structure FI (ops : List POp) (cls : Int) (j : Nat) (m' : Mc) (out : List POp) : Prop where
  jl : j ≤ ops.length
  rs : RSm cls (rM (ops.take j)) m'
  mi : MI m' (1000002 * j)
  ol : out.length = j
  oe : out ++ forbL cls m' (ops.drop j) = forbL cls newMc ops
theorem FI.lens {ops : List POp} (hok : okOps ops = true) {cls : Int} {j : Nat} {m' : Mc} {out : List POp} (h : FI ops cls j m' out) : m'.N.length ≤ 300 ∧ m'.S.length ≤ 300 := by
  have hi := rM_inv (okOps_take hok j)
  have h1 := h.rs.kl
  have h2 := h.rs.hS
  refine ⟨?_, ?_⟩
  · have e1 : (m'.N.map (·.1)).length = ((rM (ops.take j)).N.map (·.1)).length := h1
    rw [List.length_map, List.length_map] at e1
    omega
  · have e2 : m'.S = (rM (ops.take j)).S := h2
    rw [e2]; exact hi.2.2.1
theorem FI.next {ops : List POp} (hok : okOps ops = true) (hn : rN ops = ops.length) {cls : Int} {j : Nat} {m' : Mc} {out : List POp} (h : FI ops cls j m' out) (hj : j < ops.length) :
    ∃ m1', stepM m' (fo cls m'.sh (ops.getD j (0, 0))).1 (fo cls m'.sh (ops.getD j (0, 0))).2 = some m1' ∧ FI ops cls (j + 1) m1' (out ++ [fo cls m'.sh (ops.getD j (0, 0))]) := by
  have hoo := okOps_at hok hj
  obtain ⟨l1, l2⟩ := h.lens hok
  obtain ⟨m1', e, hR⟩ := h.rs.step (okOp_code hoo) (rM_step (show j < rN ops by omega))
  have h3 := (okOps_all hok).2
  obtain ⟨i1, i2, i3⟩ := h.mi.step (by omega) (by omega) (fo_ok hoo) e
  refine ⟨m1', e, by omega, hR, ⟨i1.sh, i1.ni.mono (Nat.le_refl _) (by omega)⟩, by rw [List.length_append, h.ol]; rfl, ?_⟩
  rw [← h.oe, List.drop_eq_getElem_cons hj, forbL]
  have e2 : ops[j] = ops.getD j (0, 0) := by rw [List.getD_eq_getElem?_getD, List.getElem?_eq_getElem hj]; rfl
  rw [e2, e, Option.getD_some, List.append_assoc]; rfl
theorem FI.fin {ops : List POp} {cls : Int} {j : Nat} {m' : Mc} {out : List POp} (h : FI ops cls j m' out) (hj : ¬ j < ops.length) : out = forbL cls newMc ops := by
  have := h.oe
  rwa [List.drop_eq_nil_of_le (by omega), forbL, List.append_nil] at this
theorem newFI (ops : List POp) (cls : Int) : FI ops cls 0 newMc [] := ⟨Nat.zero_le _, newRSm cls, newMc_inv, rfl, rfl⟩
theorem i_ForbidClass_tot {ops : List POp} {cls : Int} (hl : ops.length ≤ 900000000000) : Tot (fun σ => F_Z32 (σ 0) ops cls) (fun r => r = ((forbP ops cls, ()), ())) := by
  refine tot_Z32 ?_
  unfold B_Z32
  refine (i_FirstBad_tot hl).bind ?_
  rintro _ rfl
  have j0 : ∀ t : Bool, (t = true ↔ ¬ (okOps ops = true ∧ rN ops = ops.length ∧ 0 ≤ cls ∧ cls ≤ 9)) → Tot (fun σ => B_Z32_J0 (σ 0) (F_Z71 (σ 0)) (F_Z46 (σ 0)) (F_Z29 (σ 0)) ops cls t) (fun r => r = ((forbP ops cls, ()), ())) := by
    intro t ht
    unfold B_Z32_J0
    rw [tot_cond]
    refine ⟨fun h => by rw [tot_some]; unfold forbP; rw [if_neg (ht.1 h)], fun h => ?_⟩
    have hc : okOps ops = true ∧ rN ops = ops.length ∧ 0 ≤ cls ∧ cls ≤ 9 := by
      by_cases hq : okOps ops = true ∧ rN ops = ops.length ∧ 0 ≤ cls ∧ cls ≤ 9
      · exact hq
      · rw [ht.2 hq] at h; cases h
    unfold forbP
    rw [if_pos hc]
    obtain ⟨hok, hn, _, _⟩ := hc
    have h3 := (okOps_all hok).2
    refine newM_tot.bind ?_
    rintro _ rfl
    have key := loop_Z32_L5 (Q := fun _ _ _ _ _ _ _ _ _ r => r = ((forbL cls newMc ops, ()), ()))
      (I := fun c N S M D out o n i => c = cls ∧ o = ops ∧ n = (ops.length : Int) ∧ ∃ j : Nat, i = (j : Int) ∧ FI ops cls j ⟨N, S, M, D⟩ out) (μ := fun _ _ _ _ _ _ _ _ i => (ops.length - i).toNat) ?_
    · exact key cls [] [] _ false [] ops _ 0 ⟨rfl, rfl, rfl, 0, rfl, newFI ops cls⟩
    rintro cls N S M D out ops _ _ ⟨rfl, rfl, rfl, j, rfl, hF⟩ again hag ih
    unfold B_Z32_L5b
    have hrd : rdx ((0 : Int), (0 : Int)) ops (j : Int) = ops.getD j (0, 0) := by rw [rdx_eq, Int.toNat_natCast]
    rw [hrd, tot_cond]
    refine ⟨fun hlt => ?_, fun hge => by rw [tot_some, hF.fin (by have := of_decide_eq_false hge; omega)]⟩
    have hlt := of_decide_eq_true hlt
    have hj : j < ops.length := by omega
    obtain ⟨m1', hs, hF'⟩ := hF.next hok hn hj
    obtain ⟨l1, l2⟩ := hF.lens hok
    have hoo := okOps_at hok hj
    have hst := rM_step (show j < rN ops by omega)
    generalize ops.getD j (0, 0) = o at hs hF' hoo hst
    have j4 : ∀ p : POp, p = fo cls (Mc.sh ⟨N, S, M, D⟩) o → Tot (fun σ => B_Z32_J4 (σ 0) (F_Z71 (σ 0)) (F_Z46 (σ 0)) (F_Z29 (σ 0)) (again σ) cls N S M D out p.1 p.2 ops (ops.length : Int) (j : Int)) (fun r => r = ((forbL cls newMc ops, ()), ())) := by
      rintro p rfl
      unfold B_Z32_J4
      refine (i_step_tot hF.mi (by omega) l1 l2 (c := (fo cls (Mc.sh ⟨N, S, M, D⟩) o).1) (a := (fo cls (Mc.sh ⟨N, S, M, D⟩) o).2) (fo_ok hoo)).bind fun r ha => ?_
      rw [hs] at ha
      have ha : r = ((true, ()), ((some m1'.N, m1'.S, m1'.M, m1'.D, ()), ())) := ha
      subst ha
      simp only [tot_chk, room_iff, List.length_cons, List.length_nil, Option.bind_some]
      refine ⟨by rw [hF.ol]; omega, ?_⟩
      rw [w64n_succ (by omega)]
      exact ih _ _ _ _ _ _ _ _ _ ⟨rfl, rfl, rfl, j + 1, rfl, hF'⟩ (by omega)
    have j2 : ∀ q : POp, q = (if o.1 = 13 ∧ o.2 = cls then (7, 0) else o) → Tot (fun σ => B_Z32_J2 (σ 0) (F_Z71 (σ 0)) (F_Z46 (σ 0)) (F_Z29 (σ 0)) (again σ) cls N S M D out q.1 q.2 ops (ops.length : Int) (j : Int)) (fun r => r = ((forbL cls newMc ops, ()), ())) := by
      intro q hq
      unfold B_Z32_J2
      simp only [tot_cond, tot_jn, beq_iff_eq, beq_eq_false_iff_ne, ne_eq]
      refine ⟨fun h14 => ?_, fun h14 => ?_⟩
      · have hno : ¬ (o.1 = 13 ∧ o.2 = cls) := fun h => by
          rw [hq, if_pos h] at h14; exact absurd h14 (by decide)
        rw [if_neg hno] at hq
        subst hq
        have hsh : shapeP (rM (ops.take j)).sh.K (rM (ops.take j)).sh.S 1 = 5 := by rw [h14] at hst; exact st14 hst
        have hp := shape_pos (by rw [hsh]; decide)
        have eS : S = (rM (ops.take j)).sh.S := hF.rs.hS
        rw [← eS] at hp
        obtain ⟨hp1, hp2⟩ := hp
        rw [show S.length - 1 - 1 = S.length - 2 by omega] at hp2
        have hst2 := (MI.st hF.mi) _ (getD_mem (xs := S) (i := S.length - 2) (d := 0) (by omega))
        have hst2 : S.getD (S.length - 2) 0 < (N.length : Int) := hst2.2
        unfold len
        have l2 : S.length ≤ 300 := l2
        have el : w64 ((S.length : Int) - 2) = ((S.length - 2 : Nat) : Int) := by rw [w64_id (by omega) (by omega)]; omega
        rw [el]
        simp only [tot_chk, inbn, decide_eq_true_eq, Int.toNat_natCast, inb_iff, tot_jn]
        refine ⟨by omega, by omega, ⟨hp2, hst2⟩, by omega, ?_⟩
        have ek : ((N.getD (S.getD (S.length - 2) 0).toNat ((0 : Int), ((0 : Int), ([] : List Int)))).1 == 3) = decide (shapeP (Mc.sh ⟨N, S, M, D⟩).K (Mc.sh ⟨N, S, M, D⟩).S 1 = 3) := by
          have e1 : shapeP (Mc.sh ⟨N, S, M, D⟩).K (Mc.sh ⟨N, S, M, D⟩).S 1 = (N.getD (S.getD (S.length - 2) 0).toNat d0).1 := by
            unfold shapeP
            show (if S.length ≤ 1 then -1 else if S.getD (S.length - 1 - 1) 0 < 0 then -1 else (N.map (·.1)).getD (S.getD (S.length - 1 - 1) 0).toNat 0) = _
            rw [if_neg (by omega), show S.length - 1 - 1 = S.length - 2 by omega, if_neg (by omega)]
            exact getD_map' (fun n : PNode => n.1) N _ d0
          rw [e1]
          rw [Bool.eq_iff_iff, beq_iff_eq, decide_eq_true_eq]
        unfold B_Z32_J3
        simp only [tot_cond, tot_jn]
        refine ⟨fun h => ?_, fun h => ?_⟩
        · rw [ek] at h
          have := j4 (8, 0) (by unfold fo; rw [if_neg hno, if_pos ⟨h14, of_decide_eq_true h⟩])
          exact this
        · rw [ek] at h
          exact j4 q (by unfold fo; rw [if_neg hno, if_neg (fun hh => of_decide_eq_false h hh.2)])
      · unfold B_Z32_J3
        simp only [tot_cond, tot_jn]
        refine ⟨fun h => absurd h (by decide), fun _ => j4 q ?_⟩
        unfold fo
        rw [hq]
        by_cases hb : o.1 = 13 ∧ o.2 = cls
        · rw [if_pos hb, if_pos hb]
        · rw [if_neg hb, if_neg hb, if_neg]
          rintro ⟨h, _⟩
          rw [hq, if_neg hb] at h14
          exact h14 h
    unfold B_Z32_J1
    simp only [tot_chk, inbn, tot_cond, tot_jn, beq_iff_eq, beq_eq_false_iff_ne, ne_eq]
    refine ⟨hj, fun h13 => ⟨fun hc => ?_, fun hc => ?_⟩, fun h13 => ⟨fun h => absurd h (by decide), fun _ => ?_⟩⟩
    · exact j2 (7, 0) (by rw [if_pos ⟨h13, hc⟩])
    · exact j2 o (by rw [if_neg (fun h => hc h.2)])
    · exact j2 o (by rw [if_neg (fun h => h13 h.1)])
  have hb : badM ops = -1 ↔ okOps ops = true ∧ rN ops = ops.length := by
    unfold badM
    split
    · rename_i h1
      split
      · rename_i h2; exact ⟨fun _ => ⟨h1, h2⟩, fun _ => rfl⟩
      · rename_i h2; exact ⟨fun h => by omega, fun h => absurd h.2 h2⟩
    · rename_i h1; exact ⟨fun h => by omega, fun h => absurd h.1 h1⟩
  simp only [tot_cond, tot_jn]
  refine ⟨fun h => j0 true ⟨fun _ hc => ?_, fun _ => rfl⟩, fun h => ⟨fun h1 => j0 true ⟨fun _ hc => ?_, fun _ => rfl⟩, fun h1 => j0 _ ⟨fun h2 hc => ?_, fun h2 => ?_⟩⟩⟩
  · have := hb.2 ⟨hc.1, hc.2.1⟩; simp [this] at h
  · have := of_decide_eq_true h1; omega
  · have := of_decide_eq_true h2; omega
  · have h1 := of_decide_eq_false h1
    have h3 := hb.1 (by simpa using h)
    refine decide_eq_true ?_
    by_cases h9 : cls > 9
    · exact h9
    · exact absurd ⟨h3.1, h3.2, by omega, by omega⟩ h2
end Go.Gx

/-
  Laws: running for RunOps (written by mkrun.py).
-/
set_option linter.unusedVariables false
set_option linter.unusedSimpArgs false
namespace Go.Gx
theorem after_RunOps_tot {N : List PNode} {S M : List Int} {D : Bool} : Tot (fun σ => F_Z73 (σ 0) N S M D) (fun r => r = ((), ())) := by
  refine tot_Z73 ?_
  unfold B_Z73
  rw [tot_some]
theorem running_RunOps_tot {ops : List POp} (hok : okOps ops = true) : Tot (fun σ => F_Z18 (σ 0) ops) (fun r => r = ((MD (runM newMc ops 0).1, ((runM newMc ops 0).2 : Int), ()), ())) := by
  obtain ⟨h1, h2⟩ := okOps_all hok
  refine tot_Z18 ?_
  unfold B_Z18
  refine newM_tot.bind ?_
  rintro _ rfl
  have key := loop_Z18_L0 (Q := fun ops' t4 N S M D t10 t11 t12 r => r = ((MD (runM newMc ops 0).1, ((runM newMc ops 0).2 : Int), ()), ()))
    (I := fun ops' t4 N S M D t10 t11 t12 => ops' = ops ∧ t10 = ops ∧ t11 = (ops.length : Int) ∧ ∃ j : Nat, t12 = (j : Int) ∧ j ≤ ops.length ∧ MI ⟨N, S, M, D⟩ (1000002 * j) ∧ N.length ≤ j ∧ S.length ≤ j ∧ runM newMc ops 0 = runM ⟨N, S, M, D⟩ (ops.drop j) j)
    (μ := fun _ _ _ _ _ _ _ _ t12 => (ops.length - t12).toNat) ?_
  · exact key ops false [] [] _ false ops _ 0 ⟨rfl, rfl, rfl, 0, rfl, by omega, newMc_inv, by simp, by simp, rfl⟩
  intro ops' t4 N S M D t10 t11 t12 ⟨e1, e2, e3, j, e4, hj, hI, hN, hS, hr⟩ again hag ih
  subst e1 e2 e3 e4
  unfold B_Z18_L0b
  simp only [tot_cond, tot_chk, decide_eq_true_eq, decide_eq_false_iff_not, inb_iff, rdx_eq, Int.toNat_natCast]
  refine ⟨fun hlt => ?_, fun hge => ?_⟩
  · have hj' : j < t10.length := by omega
    have hd : t10.drop j = t10.getD j (0, 0) :: t10.drop (j + 1) := by
      rw [List.drop_eq_getElem_cons hj', List.getD_eq_getElem?_getD, List.getElem?_eq_getElem hj']; rfl
    have hoo : okOp (t10.getD j (0, 0)) = true := List.all_eq_true.1 h1 _ (getD_mem hj')
    rw [hd] at hr
    refine ⟨by omega, (i_step_tot hI (by omega) (by show N.length ≤ _; omega) (by show S.length ≤ _; omega) (c := (t10.getD j (0, 0)).1) (a := (t10.getD j (0, 0)).2) hoo).bind fun r ha => ?_⟩
    cases hs : stepM ⟨N, S, M, D⟩ (t10.getD j (0, 0)).1 (t10.getD j (0, 0)).2 with
    | none =>
      rw [hs] at ha
      obtain ⟨_, ha⟩ := ha
      have ha := ha ⟨by show N.length < _; omega, by show S.length < _; omega⟩
      subst ha
      simp only [Bool.not_false, tot_cond, Option.bind_some]
      refine ⟨fun _ => (copyM_tot hI (by omega)).bind ?_, fun h0 => absurd h0 (by decide)⟩
      rintro _ rfl
      rw [tot_some, hr, runM, hs]
    | some m' =>
      rw [hs] at ha
      have ha : r = ((true, ()), ((some m'.N, m'.S, m'.M, m'.D, ()), ())) := ha
      subst ha
      simp only [Bool.not_true, tot_cond, Option.bind_some]
      refine ⟨fun h0 => absurd h0 (by decide), fun _ => after_RunOps_tot.bind ?_⟩
      rintro _ rfl
      obtain ⟨g1, g2⟩ := stepM_grow hs
      obtain ⟨i1, i2, i3⟩ := hI.step (by show N.length ≤ _; omega) (by show S.length ≤ _; omega) hoo hs
      rw [show w64 ((j : Int) + 1) = ((j + 1 : Nat) : Int) by rw [w64_id (by omega) (by omega)]; omega]
      refine ih _ _ _ _ _ _ _ _ _ ⟨rfl, rfl, rfl, j + 1, rfl, by omega, ⟨i1.sh, i1.ni.mono (Nat.le_refl _) (by omega)⟩, by show m'.N.length ≤ _; simp only at g1; omega, by show m'.S.length ≤ _; simp only at g2; omega, ?_⟩ (by omega)
      rw [hr, runM, hs]
  · refine (copyM_tot hI (by omega)).bind ?_
    rintro _ rfl
    rw [tot_some, hr, List.drop_eq_nil_of_le (by omega), runM]
    have : j = t10.length := by omega
    rw [this]
end Go.Gx

/-
  Laws: RunOps, by the program.
-/
set_option linter.unusedVariables false
set_option linter.unusedSimpArgs false
namespace Go.Gx
theorem i_RunOps_tot {ops : List POp} (hl : ops.length ≤ 900000000000) : Tot (fun σ => F_i_RunOps (σ 0) ops) (fun r => r = runA ops) := by
  refine tot_i_RunOps ?_
  unfold B_i_RunOps runA
  refine (i_ValidOps_tot hl).bind ?_
  rintro _ rfl
  simp only [tot_cond, tot_some, Bool.not_eq_true', Bool.not_eq_false']
  refine ⟨fun h => by rw [if_neg (by rw [h]; decide)], fun h => ?_⟩
  refine (running_RunOps_tot h).bind ?_
  rintro _ rfl
  rw [tot_some, if_pos h]
end Go.Gx

/-
  Laws: running for ShapesOf (written by mkrun.py).
-/
set_option linter.unusedVariables false
set_option linter.unusedSimpArgs false
namespace Go.Gx
theorem after_ShapesOf_tot {N : List PNode} {S M : List Int} {D : Bool} : Tot (fun σ => F_Z48 (σ 0) N S M D) (fun r => r = ((), ())) := by
  refine tot_Z48 ?_
  unfold B_Z48
  rw [tot_some]
theorem running_ShapesOf_tot {ops : List POp} (hok : okOps ops = true) : Tot (fun σ => F_Z15 (σ 0) ops) (fun r => r = ((MD (runM newMc ops 0).1, ((runM newMc ops 0).2 : Int), ()), ())) := by
  obtain ⟨h1, h2⟩ := okOps_all hok
  refine tot_Z15 ?_
  unfold B_Z15
  refine newM_tot.bind ?_
  rintro _ rfl
  have key := loop_Z15_L0 (Q := fun ops' t4 N S M D t10 t11 t12 r => r = ((MD (runM newMc ops 0).1, ((runM newMc ops 0).2 : Int), ()), ()))
    (I := fun ops' t4 N S M D t10 t11 t12 => ops' = ops ∧ t10 = ops ∧ t11 = (ops.length : Int) ∧ ∃ j : Nat, t12 = (j : Int) ∧ j ≤ ops.length ∧ MI ⟨N, S, M, D⟩ (1000002 * j) ∧ N.length ≤ j ∧ S.length ≤ j ∧ runM newMc ops 0 = runM ⟨N, S, M, D⟩ (ops.drop j) j)
    (μ := fun _ _ _ _ _ _ _ _ t12 => (ops.length - t12).toNat) ?_
  · exact key ops false [] [] _ false ops _ 0 ⟨rfl, rfl, rfl, 0, rfl, by omega, newMc_inv, by simp, by simp, rfl⟩
  intro ops' t4 N S M D t10 t11 t12 ⟨e1, e2, e3, j, e4, hj, hI, hN, hS, hr⟩ again hag ih
  subst e1 e2 e3 e4
  unfold B_Z15_L0b
  simp only [tot_cond, tot_chk, decide_eq_true_eq, decide_eq_false_iff_not, inb_iff, rdx_eq, Int.toNat_natCast]
  refine ⟨fun hlt => ?_, fun hge => ?_⟩
  · have hj' : j < t10.length := by omega
    have hd : t10.drop j = t10.getD j (0, 0) :: t10.drop (j + 1) := by
      rw [List.drop_eq_getElem_cons hj', List.getD_eq_getElem?_getD, List.getElem?_eq_getElem hj']; rfl
    have hoo : okOp (t10.getD j (0, 0)) = true := List.all_eq_true.1 h1 _ (getD_mem hj')
    rw [hd] at hr
    refine ⟨by omega, (i_step_tot hI (by omega) (by show N.length ≤ _; omega) (by show S.length ≤ _; omega) (c := (t10.getD j (0, 0)).1) (a := (t10.getD j (0, 0)).2) hoo).bind fun r ha => ?_⟩
    cases hs : stepM ⟨N, S, M, D⟩ (t10.getD j (0, 0)).1 (t10.getD j (0, 0)).2 with
    | none =>
      rw [hs] at ha
      obtain ⟨_, ha⟩ := ha
      have ha := ha ⟨by show N.length < _; omega, by show S.length < _; omega⟩
      subst ha
      simp only [Bool.not_false, tot_cond, Option.bind_some]
      refine ⟨fun _ => (copyM_tot hI (by omega)).bind ?_, fun h0 => absurd h0 (by decide)⟩
      rintro _ rfl
      rw [tot_some, hr, runM, hs]
    | some m' =>
      rw [hs] at ha
      have ha : r = ((true, ()), ((some m'.N, m'.S, m'.M, m'.D, ()), ())) := ha
      subst ha
      simp only [Bool.not_true, tot_cond, Option.bind_some]
      refine ⟨fun h0 => absurd h0 (by decide), fun _ => after_ShapesOf_tot.bind ?_⟩
      rintro _ rfl
      obtain ⟨g1, g2⟩ := stepM_grow hs
      obtain ⟨i1, i2, i3⟩ := hI.step (by show N.length ≤ _; omega) (by show S.length ≤ _; omega) hoo hs
      rw [show w64 ((j : Int) + 1) = ((j + 1 : Nat) : Int) by rw [w64_id (by omega) (by omega)]; omega]
      refine ih _ _ _ _ _ _ _ _ _ ⟨rfl, rfl, rfl, j + 1, rfl, by omega, ⟨i1.sh, i1.ni.mono (Nat.le_refl _) (by omega)⟩, by show m'.N.length ≤ _; simp only at g1; omega, by show m'.S.length ≤ _; simp only at g2; omega, ?_⟩ (by omega)
      rw [hr, runM, hs]
  · refine (copyM_tot hI (by omega)).bind ?_
    rintro _ rfl
    rw [tot_some, hr, List.drop_eq_nil_of_le (by omega), runM]
    have : j = t10.length := by omega
    rw [this]
end Go.Gx

/-
  Laws: ShapesOf, by the program.
-/
set_option linter.unusedVariables false
set_option linter.unusedSimpArgs false
namespace Go.Gx
def shapesA (ops : List POp) : ((List Int × List Bool × List Int × List Int × Bool × Unit) × Int × Unit) × Unit := if okOps ops = true then (((rM ops).sh.dat, (rN ops : Int), ()), ()) else ((([], [], [], [], false, ()), -1, ()), ())
theorem take_map_succ {α β : Type} (f : α → β) (l : List α) {j : Nat} (hj : j < l.length) (d : α) : (l.take (j + 1)).map f = (l.take j).map f ++ [f (l.getD j d)] := by
  rw [List.take_add_one, List.getElem?_eq_getElem hj, List.map_append, List.getD_eq_getElem?_getD, List.getElem?_eq_getElem hj]; rfl
theorem i_ShapesOf_tot {ops : List POp} (hl : ops.length ≤ 900000000000) : Tot (fun σ => F_Z68 (σ 0) ops) (fun r => r = shapesA ops) := by
  refine tot_Z68 ?_
  unfold B_Z68 B_Z68_J0 shapesA
  refine (i_ValidOps_tot hl).bind ?_
  rintro _ rfl
  simp only [tot_cond, tot_some, Bool.not_eq_true', Bool.not_eq_false']
  refine ⟨fun h => by rw [if_neg (by rw [h]; decide)], fun h => ?_⟩
  refine (running_ShapesOf_tot h).bind ?_
  rintro _ rfl
  rw [tot_jn, if_pos h]
  obtain ⟨hI, hN, hS, hn⟩ := rM_inv h
  have key := loop_Z68_L2 (Q := fun _ _ _ _ _ _ _ _ _ _ r => r = (((rM ops).sh.dat, (rN ops : Int), ()), ()))
    (I := fun d n K Fu S M D t26 t27 t28 => n = (rN ops : Int) ∧ S = (rM ops).S ∧ M = (rM ops).M ∧ D = (rM ops).D ∧ t26 = (rM ops).N ∧ t27 = ((rM ops).N.length : Int) ∧ ∃ j : Nat, t28 = (j : Int) ∧ j ≤ (rM ops).N.length ∧ K = ((rM ops).N.take j).map (·.1) ∧ Fu = ((rM ops).N.take j).map fullN)
    (μ := fun _ _ _ _ _ _ _ _ _ t28 => ((rM ops).N.length - t28).toNat) ?_
  · exact key _ _ _ _ _ _ _ _ _ 0 ⟨rfl, rfl, rfl, rfl, rfl, rfl, 0, rfl, Nat.zero_le _, rfl, rfl⟩
  intro d n K Fu S M D t26 t27 t28 ⟨e1, e2, e3, e4, e5, e6, j, e7, hj, e8, e9⟩ again hag ih
  subst e1 e2 e3 e4 e5 e6 e7 e8 e9
  unfold B_Z68_L2b B_Z68_J1
  have hrd : rdx ((0 : Int), ((0 : Int), ([] : List Int))) (rM ops).N (j : Int) = (rM ops).N.getD j d0 := by rw [rdx_eq, Int.toNat_natCast]
  rw [tot_cond]
  refine ⟨fun hlt => tot_chk.2 ⟨inb_iff.2 (by have := of_decide_eq_true hlt; omega), ?_⟩, fun hge => tot_some.2 ?_⟩
  · have hlt := of_decide_eq_true hlt
    have hjl : j < (rM ops).N.length := by omega
    rw [hrd]
    have hl1 : (((rM ops).N.take j).map (fun n : PNode => n.1)).length = j := by rw [List.length_map, List.length_take]; omega
    have hl2 : (((rM ops).N.take j).map fullN).length = j := by rw [List.length_map, List.length_take]; omega
    have k1 := take_map_succ (fun n : PNode => n.1) (rM ops).N hjl d0
    have k2 := take_map_succ fullN (rM ops).N hjl d0
    obtain ⟨x, hx⟩ : ∃ x, (rM ops).N.getD j d0 = x := ⟨_, rfl⟩
    rw [hx] at k1 k2 ⊢
    have wj : w64 ((j : Int) + 1) = ((j + 1 : Nat) : Int) := by rw [w64_id (by omega) (by omega)]; omega
    simp only [wj, tot_chk, tot_cond, tot_jn, room_iff, List.length_cons, List.length_nil, hl1, hl2, beq_iff_eq, beq_eq_false_iff_ne, ne_eq]
    refine ⟨by omega, fun h5 => ⟨by omega, ?_⟩, fun h5 => ⟨by omega, ?_⟩⟩
    · refine ih _ _ _ _ _ _ _ _ _ _ ⟨rfl, rfl, rfl, rfl, rfl, rfl, j + 1, rfl, hjl, k1.symm, ?_⟩ (by omega)
      rw [k2]
      congr 2
      unfold fullN
      rw [h5, beq_self_eq_true, Bool.true_and]
      cases x.2.2 with
      | nil => rfl
      | cons y l => exact decide_eq_true (by show (((y :: l).length : Nat) : Int) > 0; simp only [List.length_cons]; omega)
    · refine ih _ _ _ _ _ _ _ _ _ _ ⟨rfl, rfl, rfl, rfl, rfl, rfl, j + 1, rfl, hjl, k1.symm, ?_⟩ (by omega)
      rw [k2]
      congr 2
      unfold fullN
      rw [beq_eq_false_iff_ne.2 h5]
      rfl
  · have hge := of_decide_eq_false hge
    have : j = (rM ops).N.length := by omega
    rw [this, List.take_length]
    rfl
end Go.Gx

/-
  Laws: programs are compared.
-/
set_option linter.unusedVariables false
set_option linter.unusedSimpArgs false
namespace Go.Gx
theorem equalOps_tot {a b : List POp} (ha : a.length ≤ 900000000000) : Tot (fun σ => F_Z69 (σ 0) a b) (Says (a = b)) := by
  refine tot_Z69 ?_
  unfold B_Z69
  simp only [tot_cond, tot_some, len, bne_iff_ne, ne_eq, bne_eq_false_iff_eq]
  refine ⟨fun h => says_false fun e => h (by rw [e]), fun h => ?_⟩
  have hl : a.length = b.length := by omega
  have key := loop_Z69_L0 (Q := fun _ _ _ r => Says (a = b) r) (I := fun x y i => x = a ∧ y = b ∧ ∃ j : Nat, i = j ∧ j ≤ a.length ∧ ∀ q, q < j → a.getD q ((0 : Int), (0 : Int)) = b.getD q ((0 : Int), (0 : Int))) (μ := fun _ _ i => (a.length - i).toNat) ?_
  · exact key a b 0 ⟨rfl, rfl, 0, rfl, by omega, fun q hq => by omega⟩
  intro x y i ⟨e1, e2, j, e3, hj, hq⟩ again hag ih
  subst e1 e2 e3
  unfold B_Z69_L0b
  simp only [tot_cond, tot_chk, tot_some, decide_eq_true_eq, decide_eq_false_iff_not, len, inb_iff, Bool.not_eq_true', Bool.not_eq_false', Bool.and_eq_true, Bool.and_eq_false_iff, beq_iff_eq, beq_eq_false_iff_ne, ne_eq]
  simp only [rdx_eq, Int.toNat_natCast]
  refine ⟨fun hlt => ⟨by omega, by omega, fun hne => says_false fun e => ?_, fun he => ?_⟩, fun hge => says_true (ext_getD hl fun i hi => hq i (by omega))⟩
  · subst e; rcases hne with h | h <;> exact h rfl
  · rw [w64_succ (by omega) (by omega)]
    refine ih _ _ _ ⟨rfl, rfl, j + 1, rfl, by omega, fun q h => ?_⟩ (by simp; omega)
    by_cases e : q = j
    · subst e; exact Prod.ext he.1 he.2
    · exact hq q (by omega)
end Go.Gx

/-
  The plain law of FnForbidClass.
-/
set_option linter.unusedVariables false
set_option linter.unusedSimpArgs false
namespace Go.Gx
theorem s_ForbidClass_tot {ops : List POp} {cls : Int} (hl : ops.length ≤ 900000000000) : Tot (fun σ => F_Z35 (σ 0) ops cls) (fun r => r = ((forbP ops cls, ()), ())) := by
  refine tot_Z35 ?_
  unfold B_Z35
  refine (validOps_tot hl).bind ?_
  rintro _ rfl
  have j0 : ∀ t : Bool, (t = true ↔ ¬ (okOps ops = true ∧ 0 ≤ cls ∧ cls ≤ 9)) → Tot (fun σ => B_Z35_J0 (σ 0) (F_Z67 (σ 0)) (F_Z82 (σ 0)) (F_Z52 (σ 0)) (F_Z60 (σ 0)) (F_Z78 (σ 0)) (F_Z44 (σ 0)) (F_Z50 (σ 0)) ops cls t) (fun r => r = ((forbP ops cls, ()), ())) := by
    intro t ht
    unfold B_Z35_J0
    rw [tot_cond]
    refine ⟨fun h => by rw [tot_some]; unfold forbP; rw [if_neg (fun hc => ht.1 h ⟨hc.1, hc.2.2⟩)], fun h => ?_⟩
    have hc : okOps ops = true ∧ 0 ≤ cls ∧ cls ≤ 9 := by
      by_cases hq : okOps ops = true ∧ 0 ≤ cls ∧ cls ≤ 9
      · exact hq
      · rw [ht.2 hq] at h; cases h
    obtain ⟨hok, hc1, hc2⟩ := hc
    obtain ⟨h1, h3⟩ := okOps_all hok
    refine (runShapes_tot hl h1).bind ?_
    rintro _ ⟨rfl, _⟩
    have hle := rN_le ops
    simp only [tot_cond, tot_some, decide_eq_true_eq, decide_eq_false_iff_not, len, rN_eq]
    refine ⟨fun hlt => by unfold forbP; rw [if_neg (fun hc => by omega)], fun hge => ?_⟩
    have hn : rN ops = ops.length := by omega
    unfold forbP
    rw [if_pos ⟨hok, hn, hc1, hc2⟩]
    refine newShapes_tot.bind ?_
    rintro _ rfl
    have key := loop_Z35_L5 (Q := fun _ _ _ _ _ _ _ _ _ r => r = ((forbL cls newMc ops, ()), ()))
      (I := fun o c out K Fu S M D i => c = cls ∧ o = ops ∧ ∃ (j : Nat) (m : Mc), i = (j : Int) ∧ K = m.sh.K ∧ Fu = m.sh.Fu ∧ S = m.sh.S ∧ M = m.sh.M ∧ D = m.sh.D ∧ FI ops cls j m out) (μ := fun _ _ _ _ _ _ _ _ i => (ops.length - i).toNat) ?_
    · exact key ops cls [] [] [] [] _ false 0 ⟨rfl, rfl, 0, newMc, rfl, rfl, rfl, rfl, rfl, rfl, newFI ops cls⟩
    rintro ops cls out _ _ _ _ _ _ ⟨rfl, rfl, j, m, rfl, rfl, rfl, rfl, rfl, rfl, hF⟩ again hag ih
    unfold B_Z35_L5b len
    have hrd : rdx ((0 : Int), (0 : Int)) ops (j : Int) = ops.getD j (0, 0) := by rw [rdx_eq, Int.toNat_natCast]
    rw [hrd, tot_cond]
    refine ⟨fun hlt => ?_, fun hge => by rw [tot_some, hF.fin (by have := of_decide_eq_false hge; omega)]⟩
    have hlt := of_decide_eq_true hlt
    have hj : j < ops.length := by omega
    obtain ⟨m1', hs, hF'⟩ := hF.next hok hn hj
    obtain ⟨l1, l2⟩ := hF.lens hok
    have hoo := okOps_at hok hj
    have hI : ShI m.sh := hF.mi.sh
    have hKl : m.sh.K.length ≤ 300 := by show (m.N.map (·.1)).length ≤ 300; rw [List.length_map]; exact l1
    generalize ops.getD j (0, 0) = o at hs hF' hoo
    have j4 : ∀ p : POp, p = fo cls m.sh o → Tot (fun σ => B_Z35_J4 (σ 0) (F_Z67 (σ 0)) (F_Z82 (σ 0)) (F_Z52 (σ 0)) (F_Z60 (σ 0)) (F_Z78 (σ 0)) (F_Z44 (σ 0)) (F_Z50 (σ 0)) (again σ) ops cls out m.sh.K m.sh.Fu m.sh.S m.sh.M m.sh.D (j : Int) p.1 p.2) (fun r => r = ((forbL cls newMc ops, ()), ())) := by
      rintro p rfl
      unfold B_Z35_J4
      refine (copyShapes_tot hI).bind ?_
      rintro _ rfl
      refine (stepShapes_tot hI (by omega) (by show m.S.length ≤ _; omega) (fo cls m.sh o).1 (fo cls m.sh o).2 (okOp_arg (fo_ok hoo))).bind fun r ha => ?_
      rw [stepM_sh hs] at ha
      have ha : r = ((m1'.sh.dat, true, ()), ()) := ha
      subst ha
      simp only [tot_chk, room_iff, List.length_cons, List.length_nil]
      refine ⟨by rw [hF.ol]; omega, ?_⟩
      rw [w64n_succ (by omega)]
      exact ih _ _ _ _ _ _ _ _ _ ⟨rfl, rfl, j + 1, m1', rfl, rfl, rfl, rfl, rfl, rfl, hF'⟩ (by omega)
    have j2 : ∀ q : POp, q = (if o.1 = 13 ∧ o.2 = cls then (7, 0) else o) → Tot (fun σ => B_Z35_J2 (σ 0) (F_Z67 (σ 0)) (F_Z82 (σ 0)) (F_Z52 (σ 0)) (F_Z60 (σ 0)) (F_Z78 (σ 0)) (F_Z44 (σ 0)) (F_Z50 (σ 0)) (again σ) ops cls out m.sh.K m.sh.Fu m.sh.S m.sh.M m.sh.D (j : Int) q.1 q.2) (fun r => r = ((forbL cls newMc ops, ()), ())) := by
      intro q hq
      unfold B_Z35_J2
      simp only [tot_cond, tot_jn, beq_iff_eq, beq_eq_false_iff_ne, ne_eq]
      refine ⟨fun h14 => ?_, fun h14 => ?_⟩
      · have hno : ¬ (o.1 = 13 ∧ o.2 = cls) := fun h => by
          rw [hq, if_pos h] at h14; exact absurd h14 (by decide)
        rw [if_neg hno] at hq
        subst hq
        refine (shapeAt_tot hI 1 (by decide)).bind ?_
        rintro _ rfl
        rw [tot_jn]
        unfold B_Z35_J3
        simp only [tot_cond, tot_jn, beq_iff_eq, beq_eq_false_iff_ne, ne_eq]
        refine ⟨fun h => ?_, fun h => ?_⟩
        · exact j4 (8, 0) (by unfold fo; rw [if_neg hno, if_pos ⟨h14, h⟩])
        · exact j4 q (by unfold fo; rw [if_neg hno, if_neg (fun hh => h hh.2)])
      · unfold B_Z35_J3
        simp only [tot_cond, tot_jn]
        refine ⟨fun h => absurd h (by decide), fun _ => j4 q ?_⟩
        unfold fo
        rw [hq]
        by_cases hb : o.1 = 13 ∧ o.2 = cls
        · rw [if_pos hb, if_pos hb]
        · rw [if_neg hb, if_neg hb, if_neg]
          rintro ⟨h, _⟩
          rw [hq, if_neg hb] at h14
          exact h14 h
    unfold B_Z35_J1
    simp only [tot_chk, inbn, tot_cond, tot_jn, beq_iff_eq, beq_eq_false_iff_ne, ne_eq]
    refine ⟨hj, fun h13 => ⟨fun hc => ?_, fun hc => ?_⟩, fun h13 => ⟨fun h => absurd h (by decide), fun _ => ?_⟩⟩
    · exact j2 (7, 0) (by rw [if_pos ⟨h13, hc⟩])
    · exact j2 o (by rw [if_neg (fun h => hc h.2)])
    · exact j2 o (by rw [if_neg (fun h => h13 h.1)])
  simp only [tot_cond, tot_jn]
  refine ⟨fun h => j0 true ⟨fun _ hc => by rw [hc.1] at h; exact absurd h (by decide), fun _ => rfl⟩, fun h => (inRange_tot' _ 0 9).bind ?_⟩
  rintro _ rfl
  rw [tot_jn]
  refine j0 _ ⟨fun h2 hc => ?_, fun h2 => ?_⟩
  · rw [decide_eq_true hc.2] at h2; cases h2
  · rw [decide_eq_false (fun hc => h2 ⟨by simpa using h, hc⟩)]; rfl
theorem DrawForbidClass_tot {code : List Int} (hc : ∀ z ∈ code, 0 ≤ z ∧ z ≤ 255) (hl : code.length ≤ 1048576) : Tot (fun σ => F_Z23 (σ 0) code) (fun r => ∃ (ops : List POp) (c : Int), r = ((ops, c, ()), ()) ∧ ops.length ≤ 500000000000) := by
  refine tot_Z23 ?_
  unfold B_Z23
  refine (newReader_tot hc hl).bind ?_
  rintro _ ⟨b, rfl, hb⟩
  refine (someOps_tot hb (by omega)).bind ?_
  rintro _ ⟨_, q, rfl, hq1, hq2, ops, rfl, hl⟩
  refine (one_tot (hb.next hq1 (by omega)) (by omega) (by simp) (by simp)).bind ?_
  rintro _ ⟨_, q2, rfl, _, _, v2, rfl, _⟩
  rw [tot_some]
  exact ⟨ops, v2, rfl, hl⟩
theorem p_Z25 (code : List Int) (hc : ∀ z ∈ code, 0 ≤ z ∧ z ≤ 255) : ∃ k, F_Z25 k code = some ((true, ()), ()) := by
  refine Tot.ex (F := fun k => F_Z25 k code) ?_
  refine tot_Z25 ?_
  unfold B_Z25
  simp only [tot_cond, tot_some, decide_eq_true_eq, decide_eq_false_iff_not, len]
  refine ⟨fun _ => trivial, fun hl => ?_⟩
  refine (DrawForbidClass_tot hc (by first | omega | (simp only; omega))).bind ?_
  rintro _ ⟨ops, cls, rfl, hll⟩
  refine (i_ForbidClass_tot (by first | omega | (simp only; omega))).bind ?_
  rintro _ rfl
  rw [tot_jn]
  unfold B_Z25_J0
  have hfl : (forbP ops cls).length ≤ 500000000000 := by
    unfold forbP
    split
    · rw [forbL_len]; exact hll
    · simp
  have eqq : Tot (fun σ => F_Z69 (σ 0) (forbP ops cls) (forbP ops cls)) (fun r => r = ((true, ()), ())) := by
    refine (equalOps_tot (by omega)).mono ?_
    rintro _ ⟨t, rfl, ht⟩
    rw [ht.2 rfl]
  refine (s_ForbidClass_tot (by first | omega | (simp only; omega))).bind ?_
  rintro _ rfl
  refine eqq.bind ?_
  rintro _ rfl
  rw [tot_cond]
  refine ⟨fun h => absurd h (by decide), fun _ => ?_⟩
  rw [tot_jn]
  unfold B_Z25_J1
  rw [tot_cond]
  refine ⟨fun h => ?_, fun h => ?_⟩
  · refine (s_ForbidClass_tot (by first | omega | (simp only; omega))).bind ?_
    rintro _ rfl
    refine eqq.bind ?_
    rintro _ rfl
    rw [tot_some]
  simp only [len] at h ⊢
  have hc : okOps ops = true ∧ rN ops = ops.length ∧ 0 ≤ cls ∧ cls ≤ 9 := by
    by_cases hq : okOps ops = true ∧ rN ops = ops.length ∧ 0 ≤ cls ∧ cls ≤ 9
    · exact hq
    · unfold forbP at h
      rw [if_neg hq] at h
      exact absurd h (by decide)
  have ef : forbP ops cls = forbL cls newMc ops := if_pos hc
  rw [ef]
  obtain ⟨hok, hn, hc1, hc2⟩ := hc
  obtain ⟨h1, h3⟩ := okOps_all hok
  have hfl := forbL_len cls ops newMc
  have hall := forbL_ok (cls := cls) (r := ops) (m' := newMc) (fun o ho => List.all_eq_true.1 h1 o ho)
  obtain ⟨hr1, hr2⟩ := forb_run (cls := cls) ops newMc newMc 0 (newRSm cls) (fun o ho => List.all_eq_true.1 h1 o ho) (by rw [Nat.zero_add]; exact hn)
  generalize forbL cls newMc ops = out at hfl hall hr1 hr2
  have hokF : okOps out = true := by
    simp only [okOps, Bool.and_eq_true, decide_eq_true_eq]
    exact ⟨List.all_eq_true.2 fun p hp => (hall p hp).1, by omega⟩
  have hnF : rN out = out.length := by rw [hfl]; simpa using hr1
  have hR : RSm cls (rM ops) (rM out) := hr2
  have hb : badM out = -1 := by unfold badM; rw [if_pos hokF, if_pos hnF]
  refine (i_FirstBad_tot (by first | omega | (simp only; omega))).bind ?_
  rintro _ rfl
  rw [tot_cond]
  refine ⟨fun h => by simp only [hb] at h; exact absurd h (by decide), fun _ => ?_⟩
  refine (i_ClassesIn_tot (by first | omega | (simp only; omega))).bind ?_
  rintro _ rfl
  have hcl := classesP_len out
  have hnc : ¬ cls ∈ classesP out := by
    rw [classesP_mem hokF]
    intro hm
    obtain ⟨i, hi, e1, e2⟩ := newArgs_mem.1 hm
    exact (hall _ (getD_mem hi)).2 ⟨e1, e2⟩
  refine (isIn_tot (v := cls) (by first | omega | (simp only; omega))).bind ?_
  rintro _ ⟨t, rfl, ht⟩
  have ht : t = false := by
    cases t with
    | false => rfl
    | true => exact absurd (ht.1 rfl) hnc
  subst ht
  rw [tot_cond]
  refine ⟨fun h => absurd h (by decide), fun _ => ?_⟩
  rw [tot_cond]
  refine ⟨fun h => ?_, fun _ => ?_⟩
  · rw [hfl, bne_self_eq_false] at h; cases h
  refine (i_IsWhole_tot (by first | omega | (simp only; omega))).bind ?_
  rintro _ rfl
  refine (i_IsWhole_tot (by first | omega | (simp only; omega))).bind ?_
  rintro _ rfl
  have hw : wholeM out = wholeM ops := by
    unfold wholeM
    rw [hokF, hok, hn, hnF, decide_eq_true rfl, decide_eq_true rfl]
    have : (rM out).D = (rM ops).D := hR.hD
    rw [this]
  rw [tot_jn, hw]
  unfold B_Z25_J2
  rw [tot_cond]
  refine ⟨fun h => by simp at h, fun _ => ?_⟩
  refine (i_ShapesOf_tot (by first | omega | (simp only; omega))).bind ?_
  rintro _ rfl
  refine (i_ShapesOf_tot (by first | omega | (simp only; omega))).bind ?_
  rintro _ rfl
  refine (i_RunOps_tot (by first | omega | (simp only; omega))).bind ?_
  rintro _ rfl
  unfold shapesA runA
  rw [if_pos hok, if_pos hokF, if_pos hok]
  have hNl := rM_inv hok
  have key := loop_Z25_L5 (Q := fun _ _ _ _ _ _ _ _ _ _ _ _ _ _ _ _ r => r = ((true, ()), ()))
    (I := fun c K Fu S M D K' Fu' S' M' D' N s me d i => c = cls ∧ K = (rM ops).sh.K ∧ S = (rM ops).sh.S ∧ K' = (rM out).sh.K ∧ S' = (rM out).sh.S ∧ N = (rM ops).N ∧ ∃ j : Nat, i = (j : Int) ∧ j ≤ N.length) (μ := fun _ _ _ _ _ _ _ _ _ _ _ _ _ _ _ i => ((rM ops).N.length - i).toNat) ?_
  · exact key _ _ _ _ _ _ _ _ _ _ _ _ _ _ _ 0 ⟨rfl, rfl, rfl, rfl, rfl, rfl, 0, rfl, Nat.zero_le _⟩
  rintro cls _ Fu _ M D _ Fu' _ M' D' _ s me d _ ⟨rfl, rfl, rfl, rfl, rfl, rfl, j, rfl, hj⟩ again hag ih
  unfold B_Z25_L5b len
  have hKl : (rM ops).sh.K.length = (rM ops).N.length := by show ((rM ops).N.map (·.1)).length = _; rw [List.length_map]
  have hKl' : (rM out).sh.K.length = (rM ops).N.length := by rw [← hKl]; exact hR.kl
  rw [tot_cond]
  refine ⟨fun hlt => ?_, fun _ => ?_⟩
  · have hlt := of_decide_eq_true hlt
    have hjl : j < (rM ops).N.length := by omega
    have nx : ∀ t : Bool, t = false → Tot (fun σ => B_Z25_J4 (σ 0) (F_Z23 (σ 0)) (F_Z32 (σ 0)) (F_Z35 (σ 0)) (F_Z69 (σ 0)) (F_Z71 (σ 0)) (F_Z53 (σ 0)) (F_l_isIn (σ 0)) (F_Z75 (σ 0)) (F_Z68 (σ 0)) (F_i_RunOps (σ 0)) (F_Z58 (σ 0)) (again σ) cls (rM ops).sh.K Fu (rM ops).sh.S M D (rM out).sh.K Fu' (rM out).sh.S M' D' (rM ops).N s me d (j : Int) t) (fun r => r = ((true, ()), ())) := by
      intro t ht
      unfold B_Z25_J4
      rw [ht, tot_cond]
      refine ⟨fun h => absurd h (by decide), fun _ => ?_⟩
      rw [w64n_succ (by omega)]
      exact ih _ _ _ _ _ _ _ _ _ _ _ _ _ _ _ _ ⟨rfl, rfl, rfl, rfl, rfl, rfl, j + 1, rfl, hjl⟩ (by omega)
    have hC : ((rM ops).N.map (isC cls)).getD j false = isC cls ((rM ops).N.getD j d0) := by
      rw [← getD_map' (isC cls) (rM ops).N j d0]
      have : isC cls d0 = false := by simp [isC]
      rw [this]
    have j3 : ∀ t : Bool, t = isC cls ((rM ops).N.getD j d0) → Tot (fun σ => B_Z25_J3 (σ 0) (F_Z23 (σ 0)) (F_Z32 (σ 0)) (F_Z35 (σ 0)) (F_Z69 (σ 0)) (F_Z71 (σ 0)) (F_Z53 (σ 0)) (F_l_isIn (σ 0)) (F_Z75 (σ 0)) (F_Z68 (σ 0)) (F_i_RunOps (σ 0)) (F_Z58 (σ 0)) (again σ) cls (rM ops).sh.K Fu (rM ops).sh.S M D (rM out).sh.K Fu' (rM out).sh.S M' D' (rM ops).N s me d (j : Int) t) (fun r => r = ((true, ()), ())) := by
      intro t ht
      rw [← hC] at ht
      unfold B_Z25_J3
      cases t with
      | true =>
        have := (hR.hc j ht.symm).2
        simp only [cond_true, tot_chk, inbn, decide_eq_true_eq, Int.toNat_natCast, this, bne_self_eq_false, cond_false, Bool.not_true, tot_jn]
        exact ⟨by omega, by omega, nx false rfl⟩
      | false =>
        have := hR.hk j ht.symm
        simp only [cond_true, tot_chk, inbn, decide_eq_true_eq, Int.toNat_natCast, this, bne_self_eq_false, cond_false, Bool.not_false, tot_jn]
        exact ⟨by omega, by omega, by omega, by omega, nx false rfl⟩
    simp only [tot_chk, inbn, decide_eq_true_eq, Int.toNat_natCast, tot_cond, tot_jn, beq_iff_eq, beq_eq_false_iff_ne, ne_eq]
    refine ⟨hjl, hjl, fun h5 => ⟨hjl, hjl, j3 _ ?_⟩, fun h5 => j3 _ ?_⟩
    · unfold isC
      rw [Bool.eq_iff_iff, beq_iff_eq, decide_eq_true_eq]
      exact ⟨fun h => ⟨h5, h⟩, fun h => h.2⟩
    · unfold isC
      exact (decide_eq_false (fun h => h5 h.1)).symm
  · have eS : (rM out).sh.S = (rM ops).sh.S := hR.hS
    rw [eS]
    refine (equalInts_tot (by show (rM ops).S.length ≤ _; omega)).bind ?_
    rintro _ ⟨t, rfl, ht⟩
    rw [ht.2 rfl, tot_cond]
    refine ⟨fun _ => ?_, fun h => absurd h (by decide)⟩
    rw [tot_some, hKl, hKl', beq_self_eq_true]
end Go.Gx

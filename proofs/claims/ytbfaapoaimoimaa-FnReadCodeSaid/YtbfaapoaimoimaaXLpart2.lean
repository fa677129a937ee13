/-
  Plain laws about the printed functions.
-/
import Derived.Test.YtbfaapoaimoimaaXLpart1
set_option linter.unusedVariables false
set_option linter.unusedSimpArgs false
namespace Go.Gx
open Classical in
noncomputable def rk (g : List PNode) (i : Int) : Nat := ((List.range g.length).filter (fun (j : Nat) => decide (TReach g i (j : Int)))).length
theorem filter_lt {α : Type} {p q : α → Bool} : ∀ {l : List α}, (∀ x ∈ l, p x = true → q x = true) → (l.filter p).length ≤ (l.filter q).length
  | [], _ => by simp
  | x :: l, h => by
    have ih := filter_lt (p := p) (q := q) (l := l) (fun y hy => h y (List.mem_cons_of_mem _ hy))
    cases hp : p x with
    | true => simp [List.filter_cons, hp, h x (by simp) hp, ih]
    | false =>
      cases hq : q x with
      | true => simp [List.filter_cons, hp, hq]; omega
      | false => simp [List.filter_cons, hp, hq, ih]
theorem filter_lt' {α : Type} {p q : α → Bool} {a : α} : ∀ {l : List α}, (∀ x ∈ l, p x = true → q x = true) → a ∈ l → p a = false → q a = true → (l.filter p).length < (l.filter q).length
  | [], _, ha, _, _ => by simp at ha
  | x :: l, h, ha, hp, hq => by
    have h' := fun y hy => h y (List.mem_cons_of_mem x hy)
    rcases List.mem_cons.1 ha with rfl | ha
    · have := filter_lt (p := p) (q := q) (l := l) h'
      simp [List.filter_cons, hp, hq]
      omega
    · have ih := filter_lt' h' ha hp hq
      cases hpx : p x with
      | true => simp [List.filter_cons, hpx, h x (by simp) hpx, ih]
      | false =>
        cases hqx : q x with
        | true => simp [List.filter_cons, hpx, hqx]; omega
        | false => simp [List.filter_cons, hpx, hqx, ih]
theorem rk_le (g : List PNode) (i : Int) : rk g i ≤ g.length := by
  unfold rk
  refine Nat.le_trans (List.length_filter_le _ _) ?_
  simp
theorem reach_in {g : List PNode} (hk : Kidly g) {i x : Int} (hi : 0 ≤ i ∧ i < (g.length : Int)) (h : TReach g i x) : 0 ≤ x ∧ x < (g.length : Int) := by
  induction h with
  | kid hm => exact (hk _ (nd_mem hi.1 hi.2)).2 _ hm
  | step _ _ hm ih => exact (hk _ (nd_mem ih.1 ih.2)).2 _ hm
theorem rk_lt {g : List PNode} {root : Int} (hv : ValidG g root) {i k : Int} (hi : 0 ≤ i ∧ i < (g.length : Int)) (hm : k ∈ (nd g i).2.2) (h2 : (nd g k).1 = 2) : rk g k < rk g i := by
  have hk : Kidly g := fun n hn => (hv.node n hn).kidly
  have hki := reach_in hk hi (.kid hm)
  obtain ⟨m, rfl⟩ := Int.eq_ofNat_of_zero_le hki.1
  have up : ∀ x, TReach g (m : Int) x → TReach g i x := by
    intro x hx
    induction hx with
    | kid hk' => exact .step (.kid hm) h2 hk'
    | step _ h3 hk' ih => exact .step ih h3 hk'
  unfold rk
  refine filter_lt' (a := m) (fun x _ hx => ?_) (by simp; omega) ?_ ?_
  · simp only [decide_eq_true_eq] at hx ⊢
    exact up _ hx
  · simp only [decide_eq_false_iff_not]
    exact hv.tup m (by omega) h2
  · simp only [decide_eq_true_eq]
    exact .kid hm
theorem rk_pos {g : List PNode} {root : Int} (hv : ValidG g root) {i k : Int} (hi : 0 ≤ i ∧ i < (g.length : Int)) (hm : k ∈ (nd g i).2.2) : 0 < rk g i := by
  have hk : Kidly g := fun n hn => (hv.node n hn).kidly
  have hki := reach_in hk hi (.kid hm)
  obtain ⟨m, rfl⟩ := Int.eq_ofNat_of_zero_le hki.1
  unfold rk
  refine List.length_pos_of_mem (a := m) ?_
  simp only [List.mem_filter, List.mem_range, decide_eq_true_eq]
  exact ⟨by omega, .kid hm⟩
/-- How many nodes that are no tuples are not in the memo. -/
def un (g : List PNode) (memo : List Int) : Nat := ((List.range g.length).filter (fun (i : Nat) => !((nd g (i : Int)).1 == 2) && decide (memo.getD i 0 < 0))).length
theorem un_le (g : List PNode) (memo : List Int) : un g memo ≤ g.length := by
  unfold un
  have := List.length_filter_le (fun (i : Nat) => !((nd g (i : Int)).1 == 2) && decide (memo.getD i 0 < 0)) (List.range g.length)
  simpa using this
theorem getD_set_eq {α : Type} {l : List α} {i : Nat} {x d : α} (h : i < l.length) : (l.set i x).getD i d = x := by
  rw [List.getD_eq_getElem?_getD, List.getElem?_set_self h]; rfl
theorem un_set {g : List PNode} {memo : List Int} {i : Nat} {v : Int} (hi : i < memo.length) (hv : 0 ≤ v) : un g (memo.set i v) ≤ un g memo := by
  unfold un
  refine filter_lt fun x _ hx => ?_
  simp only [Bool.and_eq_true, decide_eq_true_eq] at hx ⊢
  by_cases e : x = i
  · subst e; rw [getD_set_eq hi] at hx; omega
  · rw [getD_set_ne e] at hx; exact hx
theorem un_set' {g : List PNode} {memo : List Int} {i : Nat} {v : Int} (hi : i < memo.length) (hg : i < g.length) (hv : 0 ≤ v) (h2 : (nd g (i : Int)).1 ≠ 2) (hm : memo.getD i 0 < 0) : un g (memo.set i v) < un g memo := by
  unfold un
  refine filter_lt' (a := i) (fun x _ hx => ?_) (by simpa using hg) ?_ ?_
  · simp only [Bool.and_eq_true, decide_eq_true_eq] at hx ⊢
    by_cases e : x = i
    · subst e; rw [getD_set_eq hi] at hx; omega
    · rw [getD_set_ne e] at hx; exact hx
  · rw [getD_set_eq hi]
    simp; intro _; omega
  · simp only [Bool.and_eq_true, Bool.not_eq_true', beq_eq_false_iff_ne, ne_eq, decide_eq_true_eq]
    exact ⟨h2, hm⟩
theorem emit_tot {a b : List (Int × Int)} (h : a.length + b.length ≤ 540000000000) : Tot (fun σ => F_s_emit (σ 0) a b) (fun r => r = ((a ++ b, ()), ())) := by
  refine tot_s_emit ?_
  unfold B_s_emit
  simp only [tot_chk, tot_some, room_iff, List.length_nil, and_true]
  omega
theorem memoed_tot {ops : List (Int × Int)} {memo : List Int} {at2 : Nat} (hm : memo.length ≤ 1000) (ho : ops.length ≤ 530000000000) (ha : at2 < memo.length) :
    Tot (fun σ => F_s_memoed (σ 0) ops memo at2) (fun r => ∃ n : Int, 0 ≤ n ∧ r = ((ops ++ [(15, n)], memo.set at2 n, ()), ())) := by
  refine tot_s_memoed ?_
  unfold B_s_memoed
  have key := loop_s_memoed_L1 (Q := fun _ _ _ _ _ r => ∃ n : Int, 0 ≤ n ∧ r = ((ops ++ [(15, n)], memo.set at2 n, ()), ())) (I := fun o m a n i => o = ops ∧ m = memo ∧ a = (at2 : Int) ∧ ∃ j : Nat, i = j ∧ j ≤ memo.length ∧ 0 ≤ n ∧ n ≤ i) (μ := fun _ _ _ _ i => (memo.length - i).toNat) ?_
  · exact key ops memo at2 0 0 ⟨rfl, rfl, rfl, 0, rfl, by omega, by omega, by omega⟩
  intro o m a n i ⟨e1, e2, e3, j, e4, hj, h0, h1⟩ again hag ih
  subst e1 e2 e3 e4
  unfold B_s_memoed_L1b B_s_memoed_J0
  simp only [tot_cond, tot_chk, tot_jn, decide_eq_true_eq, decide_eq_false_iff_not, len, inb_iff]
  have wj : w64 ((j : Int) + 1) = ((j + 1 : Nat) : Int) := w64_succ (by omega) (by omega)
  have wn : w64 (n + 1) = n + 1 := w64_id (by omega) (by omega)
  rw [wj, wn]
  refine ⟨fun hlt => ⟨by omega, fun _ => ?_, fun _ => ?_⟩, fun hge => ?_⟩
  · exact ih o m at2 (n + 1) _ ⟨rfl, rfl, rfl, j + 1, rfl, by omega, by omega, by omega⟩ (by omega)
  · exact ih o m at2 n _ ⟨rfl, rfl, rfl, j + 1, rfl, by omega, by omega, by omega⟩ (by omega)
  · refine (copyInts_tot' (by omega)).bind ?_
    rintro _ rfl
    simp only [tot_chk, inb_iff, decide_eq_true_eq, Int.toNat_natCast]
    refine ⟨by omega, ha, (emit_tot (by simp only [List.length_cons, List.length_nil]; omega)).bind ?_⟩
    rintro _ rfl
    rw [tot_some]
    exact ⟨n, h0, rfl⟩
def GG : Nat → Nat
  | 0 => 2
  | r + 1 => 6 * GG r + 3
theorem GG_12 : GG 12 = 5659634073 := by decide
theorem GG_le : ∀ r, 2 ≤ GG r
  | 0 => by decide
  | r + 1 => by have := GG_le r; simp only [GG]; omega
/-- What a writing leaves. -/
def Wr (g : List PNode) (ops : List (Int × Int)) (memo : List Int) (c : Nat) (r : (List (Int × Int) × List Int × Unit) × Unit) : Prop :=
  ∃ ops' memo', r = ((ops', memo', ()), ()) ∧ memo'.length = g.length ∧ un g memo' ≤ un g memo ∧ ops'.length + 33957804446 * un g memo' ≤ ops.length + c + 33957804446 * un g memo
def SaveOk (g : List PNode) (root level : Int) (u r c : Nat) (at2 : Int) : Prop :=
  ∀ (ops : List (Int × Int)) (memo : List Int), memo.length = g.length → un g memo ≤ u → ops.length + c + 33957804446 * un g memo ≤ 500000000000 → Tot (fun σ => F_s_save (σ 0) g root level at2 ops memo) (Wr g ops memo c)
theorem saveAll_tot {g : List PNode} {root level : Int} {u r c : Nat} {list : List Int} (hl : list.length ≤ 6) (hS : ∀ x ∈ list, SaveOk g root level u r c x) {ops : List (Int × Int)} {memo : List Int} (hm : memo.length = g.length) (hu : un g memo ≤ u)
    (hb : ops.length + list.length * c + 33957804446 * un g memo ≤ 500000000000) : Tot (fun σ => F_Z61 (σ 0) g root level list ops memo) (Wr g ops memo (list.length * c)) := by
  refine tot_Z61 ?_
  unfold B_Z61
  have key := loop_Z61_L0 (Q := fun _ _ _ _ _ _ _ r => Wr g ops memo (list.length * c) r)
    (I := fun l' list' o m g' r' i => l' = level ∧ list' = list ∧ g' = g ∧ r' = root ∧ ∃ j : Nat, i = j ∧ j ≤ list.length ∧ m.length = g.length ∧ un g m ≤ un g memo ∧ o.length + 33957804446 * un g m ≤ ops.length + j * c + 33957804446 * un g memo) (μ := fun _ _ _ _ _ _ i => (list.length - i).toNat) ?_
  · exact key level list ops memo g root 0 ⟨rfl, rfl, rfl, rfl, 0, rfl, by omega, hm, Nat.le_refl _, by omega⟩
  intro l' list' o m g' r' i ⟨e1, e2, e3, e4, j, e5, hj, hml, hmu, hmo⟩ again hag ih
  subst e1 e2 e3 e4 e5
  unfold B_Z61_L0b
  simp only [tot_cond, tot_chk, tot_some, decide_eq_true_eq, decide_eq_false_iff_not, len, inb_iff]
  refine ⟨fun hlt => ⟨by omega, ?_⟩, fun hge => ?_⟩
  · have hjl : j + 1 ≤ list'.length := by omega
    have hmul : (j + 1) * c ≤ list'.length * c := Nat.mul_le_mul_right _ hjl
    rw [Nat.add_mul, Nat.one_mul] at hmul
    refine (hS _ (rdx_mem (by omega) hlt) o m hml (by omega) (by omega)).bind ?_
    rintro _ ⟨o2, m2, rfl, k1, k2, k3⟩
    rw [w64_succ (by omega) (by omega)]
    refine ih l' list' o2 m2 g' r' _ ⟨rfl, rfl, rfl, rfl, j + 1, rfl, by omega, k1, by omega, ?_⟩ (by simp; omega)
    rw [Nat.add_mul, Nat.one_mul]
    omega
  · have : j = list'.length := by omega
    subst this
    exact ⟨o, m, rfl, hml, hmu, hmo⟩
end Go.Gx

/-
  Laws, part 12: to write a valid graph comes to an end.
-/
set_option linter.unusedVariables false
set_option linter.unusedSimpArgs false
namespace Go.Gx
theorem sub_len' {α : Type} {l : List α} {a b : Nat} (h : a ≤ b) (hb : b ≤ l.length) : (sub l (a : Int) (b : Int)).length = b - a := by
  simp only [sub, Int.toNat_natCast, List.length_drop, List.length_take]; omega
theorem sub_mem {α : Type} {l : List α} {a b : Int} {x : α} (h : x ∈ sub l a b) : x ∈ l := List.mem_of_mem_take (List.mem_of_mem_drop h)
theorem fill_tot {g : List PNode} {root level : Int} {u c : Nat} {kids : List Int} (hl : kids.length ≤ 6) (hS : ∀ x ∈ kids, SaveOk g root level u 0 c x) {each one all : Int} (he : each = 1 ∨ each = 2 ∧ kids.length % 2 = 0) {ops : List (Int × Int)} {memo : List Int} (hm : memo.length = g.length) (hu : un g memo ≤ u)
    (hb : ops.length + (6 * c + 6) + 33957804446 * un g memo ≤ 500000000000) : Tot (fun σ => F_s_fill (σ 0) g root level kids each one all ops memo) (Wr g ops memo (6 * c + 6)) := by
  refine tot_s_fill ?_
  unfold B_s_fill
  have hkc : kids.length * c ≤ 6 * c := Nat.mul_le_mul_right _ hl
  have j0 : ∀ b : Bool, Tot (fun σ => B_s_fill_J0 (σ 0) (F_s_emit (σ 0)) (F_Z61 (σ 0)) level kids each one all ops memo g root b) (Wr g ops memo (6 * c + 6)) := by
    intro b
    unfold B_s_fill_J0
    rw [tot_cond]
    refine ⟨fun _ => ?_, fun _ => ?_⟩
    · refine (emit_tot (by simp only [List.length_cons, List.length_nil]; omega)).bind ?_
      rintro _ rfl
      refine (saveAll_tot hl hS hm hu (by simp only [List.length_append, List.length_cons, List.length_nil]; omega)).bind ?_
      rintro _ ⟨o2, m2, rfl, k1, k2, k3⟩
      simp only [List.length_append, List.length_cons, List.length_nil] at k3
      refine (emit_tot (by simp only [List.length_cons, List.length_nil]; omega)).bind ?_
      rintro _ rfl
      rw [tot_some]
      exact ⟨_, _, rfl, k1, k2, by simp only [List.length_append, List.length_cons, List.length_nil]; omega⟩
    · have key := loop_s_fill_L1 (Q := fun _ _ _ _ _ _ _ _ _ r => Wr g ops memo (6 * c + 6) r)
        (I := fun l' kids' each' one' o m g' r' i => l' = level ∧ kids' = kids ∧ each' = each ∧ one' = one ∧ g' = g ∧ r' = root ∧ ∃ j : Nat, i = j ∧ j ≤ kids.length ∧ (each = 2 → j % 2 = 0) ∧ m.length = g.length ∧ un g m ≤ un g memo ∧ o.length + 33957804446 * un g m ≤ ops.length + (j * c + j) + 33957804446 * un g memo)
        (μ := fun _ _ _ _ _ _ _ _ i => (kids.length - i).toNat) ?_
      · exact key level kids each one ops memo g root 0 ⟨rfl, rfl, rfl, rfl, rfl, rfl, 0, rfl, by omega, fun _ => rfl, hm, Nat.le_refl _, by omega⟩
      intro l' kids' each' one' o m g' r' i ⟨e1, e2, e3, e4, e5, e6, j, e7, hj, hj2, hml, hmu, hmo⟩ again hag ih
      subst e1 e2 e3 e4 e5 e6 e7
      unfold B_s_fill_L1b
      simp only [tot_cond, tot_chk, tot_some, decide_eq_true_eq, decide_eq_false_iff_not, len, cutb_iff]
      refine ⟨fun hlt => ?_, fun hge => ?_⟩
      · obtain ⟨e, he', he1⟩ : ∃ e : Nat, each' = (e : Int) ∧ 1 ≤ e ∧ e ≤ 2 ∧ j + e ≤ kids'.length ∧ (each' = 2 → (j + e) % 2 = 0) := by
          rcases he with h | ⟨h, h2⟩
          · exact ⟨1, h, by omega, by omega, by omega, fun h' => by omega⟩
          · have := hj2 h; exact ⟨2, h, by omega, by omega, by omega, fun _ => by omega⟩
        subst he'
        have wj : w64 ((j : Int) + (e : Int)) = ((j + e : Nat) : Int) := by rw [w64_id (by omega) (by omega)]; omega
        simp only [wj]
        have hsl := sub_len' (l := kids') (a := j) (b := j + e) (by omega) (by omega)
        have hec : (j + e) * c ≤ kids'.length * c := Nat.mul_le_mul_right _ (by omega)
        rw [Nat.add_mul] at hec
        refine ⟨by omega, (saveAll_tot (list := sub kids' (j : Int) ((j + e : Nat) : Int)) (by omega) (fun x hx => hS x (sub_mem hx)) hml (by omega) (by rw [hsl, show j + e - j = e by omega]; omega)).bind ?_⟩
        rintro _ ⟨o2, m2, rfl, k1, k2, k3⟩
        rw [hsl, show j + e - j = e by omega] at k3
        refine (emit_tot (by simp only [List.length_cons, List.length_nil]; omega)).bind ?_
        rintro _ rfl
        refine ih l' kids' _ one' _ m2 g' r' _ ⟨rfl, rfl, rfl, rfl, rfl, rfl, j + e, rfl, by omega, he1.2.2.2, k1, by omega, ?_⟩ (by simp; omega)
        simp only [List.length_append, List.length_cons, List.length_nil]
        rw [Nat.add_mul]
        omega
      · have : j = kids'.length := by omega
        subst this
        exact ⟨o, m, rfl, hml, hmu, by omega⟩
  rw [tot_cond]
  refine ⟨fun _ => ?_, fun _ => ?_⟩
  · rw [tot_jn]; exact j0 _
  · rw [tot_jn]; exact j0 _
theorem saveTuple_tot {g : List PNode} {root level : Int} {u r : Nat} (hg : g.length ≤ 12) {at2 : Nat} (ha : at2 < g.length) (h6 : (nd g (at2 : Int)).2.2.length ≤ 6) (hr : (nd g (at2 : Int)).2.2 ≠ [] → ∃ r', r = r' + 1 ∧ ∀ x ∈ (nd g (at2 : Int)).2.2, SaveOk g root level u 0 (GG r') x)
    {ops : List (Int × Int)} {memo : List Int} (hm : memo.length = g.length) (hu : un g memo ≤ u) (hb : ops.length + GG r + 33957804446 * un g memo ≤ 500000000000) : Tot (fun σ => F_Z41 (σ 0) g root level at2 ops memo) (Wr g ops memo (GG r)) := by
  refine tot_Z41 ?_
  unfold B_Z41
  have hG := GG_le r
  rw [tot_chk]
  refine ⟨inb_iff.2 (by omega), ?_⟩
  generalize hk : (nd g (at2 : Int)).2.2 = kids at h6 hr
  have hk' : (rdx ((0 : Int), ((0 : Int), ([] : List Int))) g (at2 : Int)).2.2 = kids := hk
  simp only [hk']
  rw [tot_cond]
  refine ⟨fun _ => ?_, fun hne => ?_⟩
  · refine (emit_tot (by simp only [List.length_cons, List.length_nil]; omega)).bind ?_
    rintro _ rfl
    refine (memoed_tot (by omega) (by simp only [List.length_append, List.length_cons, List.length_nil]; omega) (by omega)).bind ?_
    rintro _ ⟨n, hn, rfl⟩
    rw [tot_some]
    have := un_set (g := g) (memo := memo) (i := at2) (v := n) (by omega) hn
    exact ⟨_, _, rfl, by simp [hm], this, by simp only [List.length_append, List.length_cons, List.length_nil]; omega⟩
  · have hne' : kids ≠ [] := by
      intro e; subst e; simp [len] at hne
    obtain ⟨r', rfl, hS⟩ := hr hne'
    have hGr : GG (r' + 1) = 6 * GG r' + 3 := rfl
    have hkc : kids.length * GG r' ≤ 6 * GG r' := Nat.mul_le_mul_right _ h6
    -- behind the kids
    have j1 : ∀ (o : List (Int × Int)) (short : Bool), o.length ≤ ops.length + 1 → (short = true → o.length = ops.length ∧ kids.length ≤ 2) → Tot (fun σ => B_Z41_J1 (σ 0) (F_s_emit (σ 0)) (F_s_memoed (σ 0)) (F_Z61 (σ 0)) level at2 o memo g root kids short) (Wr g ops memo (GG (r' + 1))) := by
      intro o short ho hsh
      unfold B_Z41_J1
      refine (saveAll_tot h6 hS hm hu (by omega)).bind ?_
      rintro _ ⟨o2, m2, rfl, k1, k2, k3⟩
      rw [tot_chk]
      refine ⟨inb_iff.2 (by simp only []; omega), ?_⟩
      -- the tuple is made
      have j5 : ∀ c : Int, Tot (fun σ => B_Z41_J5 (σ 0) (F_s_emit (σ 0)) (F_s_memoed (σ 0)) (F_Z61 (σ 0)) at2 o2 m2 c) (Wr g ops memo (GG (r' + 1))) := by
        intro c
        unfold B_Z41_J5
        refine (emit_tot (by simp only [List.length_cons, List.length_nil]; omega)).bind ?_
        rintro _ rfl
        refine (memoed_tot (by omega) (by simp only [List.length_append, List.length_cons, List.length_nil]; omega) (by omega)).bind ?_
        rintro _ ⟨n, hn, rfl⟩
        rw [tot_some]
        have := un_set (g := g) (memo := m2) (i := at2) (v := n) (by omega) hn
        exact ⟨o2 ++ [(c, 0)] ++ [(15, n)], m2.set at2 n, rfl, by simp [k1], by omega, by simp only [List.length_append, List.length_cons, List.length_nil]; omega⟩
      -- it was there
      have j4 : ∀ o3 : List (Int × Int), o3.length + 33957804446 * un g m2 + 1 ≤ ops.length + GG (r' + 1) + 33957804446 * un g memo → Tot (fun σ => B_Z41_J4 (σ 0) (F_s_emit (σ 0)) (F_s_memoed (σ 0)) (F_Z61 (σ 0)) at2 o3 m2) (Wr g ops memo (GG (r' + 1))) := by
        intro o3 h3
        unfold B_Z41_J4
        rw [tot_chk]
        refine ⟨inb_iff.2 (by omega), (emit_tot (by simp only [List.length_cons, List.length_nil]; omega)).bind ?_⟩
        rintro _ rfl
        rw [tot_some]
        exact ⟨_, _, rfl, k1, k2, by simp only [List.length_append, List.length_cons, List.length_nil]; omega⟩
      rw [tot_cond]
      refine ⟨fun _ => ?_, fun _ => ?_⟩
      · have key := loop_Z41_L3 (Q := fun _ _ _ _ _ _ r => Wr g ops memo (GG (r' + 1)) r) (I := fun a o3 m3 kd sh i => a = (at2 : Int) ∧ m3 = m2 ∧ kd = kids ∧ sh = short ∧ ∃ j : Nat, i = j ∧ j ≤ kids.length ∧ (short = true → o3.length = o2.length + j) ∧ (short = false → o3.length = o2.length)) (μ := fun _ _ _ _ _ i => (kids.length - i).toNat) ?_
        · exact key at2 o2 m2 kids short 0 ⟨rfl, rfl, rfl, rfl, 0, rfl, by omega, fun _ => rfl, fun _ => rfl⟩
        intro a o3 m3 kd sh i ⟨e1, e2, e3, e4, j, e5, hj, hs1, hs2⟩ again hag ih
        subst e1 e2 e3 e4 e5
        unfold B_Z41_L3b B_Z41_J2
        simp only [tot_cond, tot_jn, decide_eq_true_eq, decide_eq_false_iff_not, len, Bool.not_eq_true', Bool.not_eq_false']
        cases sh with
        | true =>
          have h1 := hs1 rfl
          have h2 := hsh rfl
          refine ⟨fun hlt => ⟨fun _ => ?_, fun h => absurd h (by decide)⟩, fun hge => ⟨fun h => absurd h (by decide), fun _ => ⟨fun h => absurd h (by decide), fun _ => j4 o3 (by omega)⟩⟩⟩
          refine (emit_tot (by simp only [List.length_cons, List.length_nil]; omega)).bind ?_
          rintro _ rfl
          rw [w64_succ (by omega) (by omega)]
          refine ih _ _ _ _ _ _ ⟨rfl, rfl, rfl, rfl, j + 1, rfl, by omega, fun _ => ?_, fun h => absurd h (by decide)⟩ (by simp; omega)
          simp only [List.length_append, List.length_cons, List.length_nil]; omega
        | false =>
          have h1 := hs2 rfl
          have fin : Tot (fun σ => (F_s_emit (σ 0) o3 [(18, 0)]).bind fun r79 => jn (fun t => B_Z41_J4 (σ 0) (F_s_emit (σ 0)) (F_s_memoed (σ 0)) (F_Z61 (σ 0)) t.1 t.2.1 t.2.2.1) ((at2 : Int), r79.1.1, m3, ())) (Wr g ops memo (GG (r' + 1))) := by
            refine (emit_tot (by simp only [List.length_cons, List.length_nil]; omega)).bind ?_
            rintro _ rfl
            rw [tot_jn]
            exact j4 _ (by simp only [List.length_append, List.length_cons, List.length_nil]; omega)
          exact ⟨fun hlt => ⟨fun h => absurd h (by decide), fun _ => ⟨fun _ => fin, fun h => absurd h (by decide)⟩⟩, fun hge => ⟨fun h => absurd h (by decide), fun _ => ⟨fun _ => fin, fun h => absurd h (by decide)⟩⟩⟩
      · rw [tot_cond]
        refine ⟨fun _ => ?_, fun _ => ?_⟩
        · rw [tot_jn]; exact j5 _
        · rw [tot_jn]; exact j5 _
    have j0 : ∀ (short : Bool), (short = true → kids.length ≤ 2) → Tot (fun σ => B_Z41_J0 (σ 0) (F_s_emit (σ 0)) (F_s_memoed (σ 0)) (F_Z61 (σ 0)) level at2 ops memo g root kids short) (Wr g ops memo (GG (r' + 1))) := by
      intro short hsh
      unfold B_Z41_J0
      rw [tot_cond]
      refine ⟨fun hs => ?_, fun hs => ?_⟩
      · refine (emit_tot (by simp only [List.length_cons, List.length_nil]; omega)).bind ?_
        rintro _ rfl
        rw [tot_jn]
        exact j1 _ short (by simp) (fun h => by rw [h] at hs; cases hs)
      · rw [tot_jn]
        have : short = true := by simpa using hs
        exact j1 ops short (by omega) (fun h => ⟨rfl, hsh h⟩)
    rw [tot_cond]
    refine ⟨fun _ => ?_, fun _ => ?_⟩
    · rw [tot_jn]
      exact j0 _ (fun h => by simp only [decide_eq_true_eq, len] at h; omega)
    · rw [tot_jn]
      exact j0 false (fun h => absurd h (by decide))
theorem SaveOk.mono {g : List PNode} {root level : Int} {u r r2 c c2 : Nat} {x : Int} (h : SaveOk g root level u r c x) (hc : c ≤ c2) : SaveOk g root level u r2 c2 x := by
  intro ops memo h1 h2 h3
  refine (h ops memo h1 h2 (by omega)).mono ?_
  rintro _ ⟨o, m, rfl, k1, k2, k3⟩
  exact ⟨o, m, rfl, k1, k2, by omega⟩
theorem save_tot {g : List PNode} {root level : Int} (hv : ValidG g root) : ∀ (u r : Nat), r ≤ 12 → ∀ at2 : Nat, at2 < g.length → ((nd g (at2 : Int)).1 = 2 → rk g (at2 : Int) ≤ r) → SaveOk g root level u 0 (GG r) (at2 : Int) := by
  have hk : Kidly g := fun n hn => (hv.node n hn).kidly
  have hg := hv.most
  intro u
  induction u using Nat.strongRecOn with
  | _ u ihu =>
  intro r
  induction r using Nat.strongRecOn with
  | _ r ihr =>
  intro hr12 at2 ha hrk ops memo hm hu hb
  have hG := GG_le r
  have hG12 := GG_12
  have hin : 0 ≤ (at2 : Int) ∧ (at2 : Int) < (g.length : Int) := by omega
  have hnode := hv.node _ (nd_mem hin.1 hin.2)
  refine tot_s_save ?_
  unfold B_s_save
  simp only [tot_chk]
  refine ⟨inb_iff.2 (by omega), inb_iff.2 (by omega), ?_⟩
  have hrd : rdx (0 : Int) memo (at2 : Int) = memo.getD at2 0 := by rw [rdx_eq, Int.toNat_natCast]
  have hndd : rdx ((0 : Int), ((0 : Int), ([] : List Int))) g (at2 : Int) = nd g (at2 : Int) := rfl
  rw [hrd, hndd]
  rw [tot_cond]
  refine ⟨fun _ => ?_, fun hneg => ?_⟩
  · rw [tot_chk]
    refine ⟨inb_iff.2 (by omega), (emit_tot (by simp only [List.length_cons, List.length_nil]; omega)).bind ?_⟩
    rintro _ rfl
    rw [tot_some]
    exact ⟨_, memo, rfl, hm, Nat.le_refl _, by simp only [List.length_append, List.length_cons, List.length_nil]; omega⟩
  have hneg : memo.getD at2 0 < 0 := by simpa using hneg
  -- it gets into the memo
  have mem : ∀ (o : List (Int × Int)), o.length ≤ 520000000000 → (nd g (at2 : Int)).1 ≠ 2 → Tot (fun σ => F_s_memoed (σ 0) o memo at2) (fun r => ∃ n : Int, r = ((o ++ [(15, n)], memo.set at2 n, ()), ()) ∧ un g (memo.set at2 n) < un g memo ∧ (memo.set at2 n).length = g.length) := by
    intro o ho h2
    refine (memoed_tot (by omega) (by omega) (by omega)).mono ?_
    rintro _ ⟨n, hn, rfl⟩
    exact ⟨n, rfl, un_set' (by omega) ha hn h2 hneg, by simp [hm]⟩
  -- all kids, when it is there
  have kids12 : ∀ u1, u1 < u → ∀ x ∈ (nd g (at2 : Int)).2.2, SaveOk g root level u1 0 (GG 12) x := by
    intro u1 hu1 x hx
    have hx' := hnode.2.1 x hx
    obtain ⟨m, rfl⟩ := Int.eq_ofNat_of_zero_le hx'.1
    exact ihu u1 hu1 12 (Nat.le_refl _) m (by omega) (fun _ => Nat.le_trans (rk_le g _) hg)
  rw [tot_cond]
  simp only [beq_iff_eq, beq_eq_false_iff_ne, ne_eq]
  refine ⟨fun h0 => ?_, fun h0 => ?_⟩
  · refine (emit_tot (by simp only [List.length_cons, List.length_nil]; omega)).bind ?_
    rintro _ rfl
    rw [tot_some]
    exact ⟨_, memo, rfl, hm, Nat.le_refl _, by simp only [List.length_append, List.length_cons, List.length_nil]; omega⟩
  rw [tot_cond]
  simp only [beq_iff_eq, beq_eq_false_iff_ne, ne_eq]
  refine ⟨fun h1 => ?_, fun h1 => ?_⟩
  · refine (emit_tot (by simp only [List.length_cons, List.length_nil]; omega)).bind ?_
    rintro _ rfl
    refine (mem _ (by simp only [List.length_append, List.length_cons, List.length_nil]; omega) (by omega)).bind ?_
    rintro _ ⟨n, rfl, k1, k2⟩
    rw [tot_some]
    exact ⟨_, memo.set at2 n, rfl, k2, by omega, by simp only [List.length_append, List.length_cons, List.length_nil]; omega⟩
  rw [tot_cond]
  simp only [beq_iff_eq, beq_eq_false_iff_ne, ne_eq]
  refine ⟨fun h2 => ?_, fun h2 => ?_⟩
  · have hrk := hrk h2
    refine (saveTuple_tot (u := u) (r := r) hg ha hnode.1 (fun hne => ?_) hm hu hb).bind ?_
    · obtain ⟨x, hx⟩ := List.exists_mem_of_ne_nil _ hne
      have hpos := rk_pos hv hin hx
      refine ⟨r - 1, by omega, fun y hy => ?_⟩
      have hy' := hnode.2.1 y hy
      obtain ⟨m, rfl⟩ := Int.eq_ofNat_of_zero_le hy'.1
      exact ihr (r - 1) (by omega) (by omega) m (by omega) (fun hk2 => by have := rk_lt hv hin hy hk2; omega)
    · rintro _ ⟨o, m, rfl, k1, k2, k3⟩
      rw [tot_some]
      exact ⟨o, m, rfl, k1, k2, k3⟩
  -- a list, a dictionary, an object
  have filled : ∀ (o : List (Int × Int)) (n each one all : Int), o.length ≤ ops.length + 2 → un g (memo.set at2 n) < un g memo → (memo.set at2 n).length = g.length → (each = 1 ∨ each = 2 ∧ (nd g (at2 : Int)).2.2.length % 2 = 0) →
      Tot (fun σ => (F_s_fill (σ 0) g root level (nd g (at2 : Int)).2.2 each one all o (memo.set at2 n)).bind fun r84 => some ((r84.1.1, r84.1.2.1, ()), ())) (Wr g ops memo (GG r)) := by
    intro o n each one all ho k1 k2 he
    refine (fill_tot (u := u - 1) (c := GG 12) hnode.1 (kids12 (u - 1) (by omega)) he k2 (by omega) (by omega)).bind ?_
    rintro _ ⟨o2, m2, rfl, q1, q2, q3⟩
    rw [tot_some]
    exact ⟨o2, m2, rfl, q1, by omega, by omega⟩
  rw [tot_cond]
  simp only [beq_iff_eq, beq_eq_false_iff_ne, ne_eq]
  refine ⟨fun h3 => ?_, fun h3 => ?_⟩
  · refine (emit_tot (by simp only [List.length_cons, List.length_nil]; omega)).bind ?_
    rintro _ rfl
    refine (mem _ (by simp only [List.length_append, List.length_cons, List.length_nil]; omega) h2).bind ?_
    rintro _ ⟨n, rfl, k1, k2⟩
    exact filled _ n 1 8 9 (by simp) k1 k2 (.inl rfl)
  rw [tot_cond]
  simp only [beq_iff_eq, beq_eq_false_iff_ne, ne_eq]
  refine ⟨fun h4 => ?_, fun h4 => ?_⟩
  · have hd : (nd g (at2 : Int)).2.2.length % 2 = 0 := by
      have := hnode.2.2
      rw [if_neg h0, if_neg h1, if_neg (by simp [h2, h3]), if_pos h4] at this
      exact this.2.2
    refine (emit_tot (by simp only [List.length_cons, List.length_nil]; omega)).bind ?_
    rintro _ rfl
    refine (mem _ (by simp only [List.length_append, List.length_cons, List.length_nil]; omega) h2).bind ?_
    rintro _ ⟨n, rfl, k1, k2⟩
    exact filled _ n 2 11 12 (by simp) k1 k2 (.inr ⟨rfl, hd⟩)
  · refine (emit_tot (by simp only [List.length_cons, List.length_nil]; omega)).bind ?_
    rintro _ rfl
    refine (mem _ (by simp only [List.length_append, List.length_cons, List.length_nil]; omega) h2).bind ?_
    rintro _ ⟨n, rfl, k1, k2⟩
    have hkc : (nd g (at2 : Int)).2.2.length * GG 12 ≤ 6 * GG 12 := Nat.mul_le_mul_right _ hnode.1
    refine (saveAll_tot (u := u - 1) hnode.1 (kids12 (u - 1) (by omega)) k2 (by omega) (by simp only [List.length_append, List.length_cons, List.length_nil]; omega)).bind ?_
    rintro _ ⟨o2, m2, rfl, q1, q2, q3⟩
    simp only [List.length_append, List.length_cons, List.length_nil] at q3
    unfold B_s_save_J0
    rw [tot_cond]
    refine ⟨fun _ => ?_, fun _ => ?_⟩
    · refine (emit_tot (by simp only [List.length_cons, List.length_nil]; omega)).bind ?_
      rintro _ rfl
      rw [tot_jn, tot_some]
      exact ⟨_, m2, rfl, q1, by omega, by simp only [List.length_append, List.length_cons, List.length_nil]; omega⟩
    · rw [tot_jn, tot_some]
      exact ⟨o2, m2, rfl, q1, by omega, by omega⟩
theorem emptyMemo_tot {g : List PNode} {root : Int} (hg : g.length ≤ 1000) : Tot (fun σ => F_Z32 (σ 0) g root) (fun r => r = ((List.replicate g.length (-1), ()), ())) := by
  refine tot_Z32 ?_
  unfold B_Z32
  have key := loop_Z32_L0 (Q := fun _ _ _ _ r => r = ((List.replicate g.length (-1), ()), ())) (I := fun g' _ o i => g' = g ∧ ∃ j : Nat, i = j ∧ j ≤ g.length ∧ o = List.replicate j (-1)) (μ := fun _ _ _ i => (g.length - i).toNat) ?_
  · exact key g root [] 0 ⟨rfl, 0, rfl, by omega, rfl⟩
  intro g' r' o i ⟨e1, j, e2, hj, e3⟩ again hag ih
  subst e1 e2 e3
  unfold B_Z32_L0b
  simp only [tot_cond, tot_chk, tot_some, decide_eq_true_eq, decide_eq_false_iff_not, len, room_iff, List.length_replicate, List.length_cons, List.length_nil]
  refine ⟨fun hlt => ⟨by omega, ?_⟩, fun hge => ?_⟩
  · rw [w64_succ (by omega) (by omega)]
    exact ih _ _ _ _ ⟨rfl, j + 1, rfl, by omega, by rw [List.replicate_succ']⟩ (by simp; omega)
  · have : j = g'.length := by omega
    rw [this]
theorem written_tot {g : List PNode} {root : Int} (hv : ValidG g root) (level : Int) : Tot (fun σ => F_Z63 (σ 0) g root level) (fun r => ∃ ops : List (Int × Int), r = ((ops, ()), ()) ∧ ops.length ≤ 500000000000) := by
  have hg := hv.most
  refine tot_Z63 ?_
  unfold B_Z63
  refine (emptyMemo_tot (by omega)).bind ?_
  rintro _ rfl
  obtain ⟨m, hm⟩ := Int.eq_ofNat_of_zero_le hv.root.1
  have hroot := hv.root
  subst hm
  have hun := un_le g (List.replicate g.length (-1))
  have hG := GG_12
  refine (save_tot hv g.length 12 (Nat.le_refl _) m (by omega) (fun _ => Nat.le_trans (rk_le g _) hg) [] _ (by simp) hun (by simp only [List.length_nil]; omega)).bind ?_
  rintro _ ⟨o, m2, rfl, k1, k2, k3⟩
  simp only [List.length_nil] at k3
  refine (emit_tot (by simp only [List.length_cons, List.length_nil]; omega)).bind ?_
  rintro _ rfl
  rw [tot_some]
  exact ⟨_, rfl, by simp only [List.length_append, List.length_cons, List.length_nil]; omega⟩
end Go.Gx

/-
  Laws, part 13: programs and bytes that are drawn.
-/
set_option linter.unusedVariables false
set_option linter.unusedSimpArgs false
namespace Go.Gx
theorem someOps_tot {b : List Int} {p : Int} (h : RD b p) (hp : p ≤ 90000000) : Tot (fun σ => F_Z64 (σ 0) b p) (Drawn b p 2000 fun x => ∃ ops : List POp, x = (ops, ()) ∧ ops.length ≤ 500000000000) := by
  refine tot_Z64 ?_
  unfold B_Z64
  have fin : ∀ (q : Int) (o : List POp), p ≤ q → q ≤ p + 2000 → o.length ≤ 500000000000 → Drawn b p 2000 (fun x => ∃ ops : List POp, x = (ops, ()) ∧ ops.length ≤ 500000000000) ((o, ()), ((b, q, ()), ())) := fun q o h1 h2 h3 => ⟨_, q, rfl, h1, h2, o, rfl, h3⟩
  have j2 : ∀ (q : Int) (o : List POp), p ≤ q → q ≤ p + 1900 → o.length ≤ 500000000000 → Tot (fun σ => B_Z64_J2 (σ 0) (F_Z13 (σ 0)) (F_Z40 (σ 0)) (F_Z29 (σ 0)) (F_Z63 (σ 0)) (F_s_someOp (σ 0)) (F_Z22 (σ 0)) b q o) (Drawn b p 2000 fun x => ∃ ops : List POp, x = (ops, ()) ∧ ops.length ≤ 500000000000) := by
    intro q o h1 h2 h3
    have hq := h.next h1 (by omega)
    unfold B_Z64_J2
    rw [tot_cond]
    simp only [decide_eq_true_eq, decide_eq_false_iff_not, len]
    refine ⟨fun hlt => ?_, fun _ => by rw [tot_some]; exact fin q o h1 (by omega) h3⟩
    refine (pick_tot hq (by omega) (by omega)).bind ?_
    rintro _ ⟨_, q2, rfl, k1, k2, v, rfl, k3, k4⟩
    rw [tot_cond]
    refine ⟨fun _ => ?_, fun _ => ?_⟩
    · refine (one_tot (hq.next k1 (by omega)) (by omega) (by simp) (by simp)).bind ?_
      rintro _ ⟨_, q3, rfl, f1, f2, u, rfl, hu⟩
      simp only [tot_chk, tot_some, inb_iff, decide_eq_true_eq]
      exact ⟨by omega, by simp; omega, fin q3 _ (by omega) (by omega) (by simpa using h3)⟩
    · rw [tot_cond]
      refine ⟨fun _ => ?_, fun _ => by rw [tot_some]; exact fin q2 o (by omega) (by omega) h3⟩
      refine (one_tot (hq.next k1 (by omega)) (by omega) (by simp) (by simp)).bind ?_
      rintro _ ⟨_, q3, rfl, f1, f2, u, rfl, hu⟩
      have w : w64 ((o.length : Int) - 1) = (o.length : Int) - 1 := w64_id (by omega) (by omega)
      simp only [tot_chk, tot_some, inb_iff, decide_eq_true_eq, w]
      exact ⟨by omega, by omega, fin q3 _ (by omega) (by omega) (by simpa using h3)⟩
  have j1 : ∀ (q : Int) (o : List POp), p ≤ q → q ≤ p + 1800 → o.length ≤ 500000000000 → Tot (fun σ => B_Z64_J1 (σ 0) (F_Z13 (σ 0)) (F_Z40 (σ 0)) (F_Z29 (σ 0)) (F_Z63 (σ 0)) (F_s_someOp (σ 0)) (F_Z22 (σ 0)) b q o) (Drawn b p 2000 fun x => ∃ ops : List POp, x = (ops, ()) ∧ ops.length ≤ 500000000000) := by
    intro q o h1 h2 h3
    have hq := h.next h1 (by omega)
    unfold B_Z64_J1
    refine (pick_tot hq (by omega) (by omega)).bind ?_
    rintro _ ⟨_, q2, rfl, k1, k2, v, rfl, k3, k4⟩
    rw [tot_cond]
    refine ⟨fun _ => ?_, fun _ => by rw [tot_jn]; exact j2 q2 o (by omega) (by omega) h3⟩
    have w : w64 (len o + 1) = (o.length : Int) + 1 := by rw [w64_id] <;> simp only [len] <;> omega
    rw [w]
    refine (pick_tot (hq.next k1 (by omega)) (by omega) (by omega)).bind ?_
    rintro _ ⟨_, q3, rfl, f1, f2, u, rfl, f3, f4⟩
    have f4 := f4 (by omega)
    rw [tot_chk]
    refine ⟨cutb_iff.2 ⟨Int.le_refl _, f3, by show u ≤ (o.length : Int); omega⟩, ?_⟩
    rw [tot_jn]
    exact j2 q3 (o.take u.toNat) (by omega) (by omega) (by simp only [List.length_take]; omega)
  refine (pick_tot h (by omega) (by omega)).bind ?_
  rintro _ ⟨_, q, rfl, h1, h2, v, rfl, h3, h4⟩
  have hq := h.next h1 (by omega)
  rw [tot_cond]
  refine ⟨fun _ => ?_, fun _ => ?_⟩
  · refine (likelyOps_tot hq (by omega)).bind ?_
    rintro _ ⟨_, q2, rfl, k1, k2, o, rfl, ho, _⟩
    rw [tot_jn]
    exact j2 q2 o (by omega) (by omega) (by omega)
  · refine (someGraph_tot hq (by omega)).bind ?_
    rintro _ ⟨_, q2, rfl, k1, k2, g, root, rfl, hv⟩
    have hq2 := hq.next k1 (by omega)
    refine (pick_tot hq2 (by omega) (by omega)).bind ?_
    rintro _ ⟨_, q3, rfl, f1, f2, u, rfl, f3, f4⟩
    have hq3 := hq2.next f1 (by omega)
    refine (written_tot hv u).bind ?_
    rintro _ ⟨o, rfl, ho⟩
    refine (pick_tot hq3 (by omega) (by omega)).bind ?_
    rintro _ ⟨_, q4, rfl, m1, m2, u2, rfl, m3, m4⟩
    have hq4 := hq3.next m1 (by omega)
    have j0 : ∀ t : Bool, (t = true → 0 < o.length) → Tot (fun σ => B_Z64_J0 (σ 0) (F_Z13 (σ 0)) (F_Z40 (σ 0)) (F_Z29 (σ 0)) (F_Z63 (σ 0)) (F_s_someOp (σ 0)) (F_Z22 (σ 0)) b q4 o t) (Drawn b p 2000 fun x => ∃ ops : List POp, x = (ops, ()) ∧ ops.length ≤ 500000000000) := by
      intro t ht
      unfold B_Z64_J0
      rw [tot_cond]
      refine ⟨fun hb => ?_, fun _ => by rw [tot_jn]; exact j1 q4 o (by omega) (by omega) ho⟩
      have hpos := ht hb
      refine (pick_tot hq4 (by omega) (by simp only [len]; omega)).bind ?_
      rintro _ ⟨_, q5, rfl, n1, n2, w, rfl, n3, n4⟩
      have n4 := n4 (by simp only [len]; omega)
      simp only [len] at n4
      refine (someOp_tot (hq4.next n1 (by omega)) (by omega)).bind ?_
      rintro _ ⟨_, q6, rfl, l1, l2, c, a, rfl, _⟩
      simp only [tot_chk, inb_iff, decide_eq_true_eq]
      refine ⟨by omega, by omega, ?_⟩
      rw [tot_jn]
      exact j1 q6 _ (by omega) (by omega) (by simpa using ho)
    rw [tot_cond]
    refine ⟨fun _ => ?_, fun _ => ?_⟩
    · rw [tot_jn]; exact j0 _ (fun h => by simp only [decide_eq_true_eq, len] at h; omega)
    · rw [tot_jn]; exact j0 false (fun h => absurd h (by decide))
end Go.Gx

/-
  Laws, part 17g: graphs that are drawn and need not be valid.
-/
set_option linter.unusedVariables false
set_option linter.unusedSimpArgs false
namespace Go.Gx
theorem getD_memG {α : Type} {xs : List α} {i : Nat} {d : α} (h : i < xs.length) : xs.getD i d ∈ xs := by
  rw [List.getD_eq_getElem?_getD, List.getElem?_eq_getElem h]
  exact List.getElem_mem h
/-- A graph that need not be valid: small all the same. -/
structure SmallG (g : List PNode) : Prop where
  pos : 1 ≤ g.length
  most : g.length ≤ 12
  kids : ∀ n ∈ g, n.2.2.length ≤ 1000
theorem ValidG.small {g : List PNode} {root : Int} (h : ValidG g root) : SmallG g := ⟨h.pos, h.most, fun n hn => by have := (h.node n hn).1; omega⟩
theorem anyGraph_tot {b : List Int} {p : Int} (h : RD b p) (hp : p ≤ 600000000) : Tot (fun σ => F_Z47 (σ 0) b p) (Drawn b p 500 fun x => ∃ (g : List PNode) (root : Int), x = ((g, root, ()), ()) ∧ SmallG g) := by
  refine tot_Z47 ?_
  unfold B_Z47
  refine (someGraph_tot h (by omega)).bind ?_
  rintro _ ⟨_, q, rfl, h1, h2, g, root, rfl, hv⟩
  have hq := h.next h1 (by omega)
  have hpos := hv.pos; have hmost := hv.most
  simp only [len]
  refine (pick_tot hq (by omega) (by omega)).bind ?_
  rintro _ ⟨_, q2, rfl, f1, f2, k, rfl, f3, f4⟩
  have f4 := f4 (by omega)
  obtain ⟨i, rfl⟩ := Int.eq_ofNat_of_zero_le f3
  have hil : i < g.length := by omega
  have hq2 := hq.next f1 (by omega)
  refine (pick_tot hq2 (by omega) (by omega)).bind ?_
  rintro _ ⟨_, q3, rfl, k1, k2, v, rfl, _⟩
  have hq3 := hq2.next k1 (by omega)
  have hkn := (hv.node _ (getD_memG (xs := g) (d := ((0 : Int), ((0 : Int), ([] : List Int)))) hil)).1
  have fin : ∀ (q4 : Int) (g2 : List PNode) (r2 : Int), q3 ≤ q4 → q4 ≤ q3 + 1 → SmallG g2 → Tot (fun σ => B_Z47_J0 (σ 0) (F_Z29 (σ 0)) (F_Z13 (σ 0)) (F_Z22 (σ 0)) b q4 0 g2 r2) (Drawn b p 500 fun x => ∃ (g : List PNode) (root : Int), x = ((g, root, ()), ()) ∧ SmallG g) := by
    intro q4 g2 r2 m1 m2 hs
    unfold B_Z47_J0
    rw [tot_some]
    exact ⟨_, q4, rfl, by omega, by omega, g2, r2, rfl, hs⟩
  have hset : ∀ n : PNode, n.2.2.length ≤ 1000 → SmallG (g.set i n) := fun n hn => ⟨by rw [List.length_set]; exact hpos, by rw [List.length_set]; exact hmost, fun m hm => by
    rcases List.mem_or_eq_of_mem_set hm with hm | rfl
    · exact hv.small.kids m hm
    · exact hn⟩
  simp only [tot_cond]
  refine ⟨fun _ => ?_, fun _ => ⟨fun _ => ?_, fun _ => ⟨fun _ => ?_, fun _ => ⟨fun _ => ?_, fun _ => ?_⟩⟩⟩⟩
  · simp only [tot_chk, inb_iff, decide_eq_true_eq, Int.toNat_natCast]
    refine ⟨by omega, hil, (one_tot hq3 (by omega) (by simp) (by simp)).bind ?_⟩
    rintro _ ⟨_, q4, rfl, m1, m2, u, rfl, _⟩
    simp only [tot_chk, tot_jn, inb_iff, decide_eq_true_eq, Int.toNat_natCast, room_iff, List.length_cons, List.length_nil]
    refine ⟨by omega, by omega, trivial, fin q4 _ _ m1 (by omega) (hset _ ?_)⟩
    simp only [List.length_append, List.length_cons, List.length_nil]; omega
  · refine (one_tot hq3 (by omega) (by simp) (by simp)).bind ?_
    rintro _ ⟨_, q4, rfl, m1, m2, u, rfl, _⟩
    simp only [tot_chk, tot_jn, inb_iff, decide_eq_true_eq, Int.toNat_natCast]
    exact ⟨by omega, hil, fin q4 _ _ m1 (by omega) (hset _ (by simp only; omega))⟩
  · simp only [tot_chk, tot_jn, inb_iff, decide_eq_true_eq, Int.toNat_natCast]
    exact ⟨by omega, hil, fin q3 _ _ (by omega) (by omega) (hset _ (by simp))⟩
  · refine (one_tot hq3 (by omega) (by simp) (by simp)).bind ?_
    rintro _ ⟨_, q4, rfl, m1, m2, u, rfl, _⟩
    rw [tot_jn]
    exact fin q4 _ _ m1 (by omega) hv.small
  · rw [tot_jn]
    exact fin q3 _ _ (by omega) (by omega) hv.small
end Go.Gx

/-
  Laws, part 17: programs of several roots that are drawn.
-/
set_option linter.unusedVariables false
set_option linter.unusedSimpArgs false
namespace Go.Gx
theorem rootsOf_tot {b : List Int} {p : Int} (h : RD b p) (hp : p ≤ 500000000) : Tot (fun σ => F_Z54 (σ 0) b p) (Drawn b p 600 fun x => ∃ (g : List PNode) (root : Int) (rs : List Int), x = ((g, root, ()), rs, ()) ∧ SmallG g ∧ rs.length ≤ 5) := by
  refine tot_Z54 ?_
  unfold B_Z54
  refine (anyGraph_tot h (by omega)).bind ?_
  rintro _ ⟨_, q, rfl, h1, h2, g, root, rfl, hs⟩
  have hq := h.next h1 (by omega)
  have hpos := hs.pos; have hmost := hs.most
  refine (one_tot hq (by omega) (by simp) (by simp)).bind ?_
  rintro _ ⟨_, q1, rfl, g1, g2, n, rfl, hnm⟩
  have hnn : 0 ≤ n ∧ n ≤ 5 := by
    simp only [List.mem_cons, List.not_mem_nil, or_false] at hnm
    omega
  have key := loop_Z54_L0 (Q := fun _ _ _ _ _ _ _ r => Drawn b p 600 (fun x => ∃ (g : List PNode) (root : Int) (rs : List Int), x = ((g, root, ()), rs, ()) ∧ SmallG g ∧ rs.length ≤ 5) r)
    (I := fun b' q' t g' r' o m => b' = b ∧ g' = g ∧ r' = root ∧ p ≤ q' ∧ q' + m ≤ p + 510 ∧ 0 ≤ m ∧ (o.length : Int) + m ≤ 5) (μ := fun _ _ _ _ _ _ m => m.toNat) ?_
  · exact key b q1 0 g root [] n ⟨rfl, rfl, rfl, by omega, by omega, hnn.1, by simp; omega⟩
  rintro b q' t g root o m ⟨rfl, rfl, rfl, a1, a2, a3, a4⟩ again hag ih
  have hr := h.next a1 (by omega)
  unfold B_Z54_L0b
  rw [tot_cond]
  simp only [decide_eq_true_eq, decide_eq_false_iff_not, len]
  refine ⟨fun hm => ?_, fun hm => ?_⟩
  · refine (pick_tot hr (by omega) (by omega)).bind ?_
    rintro _ ⟨_, q2, rfl, f1, f2, v, rfl, _⟩
    rw [tot_chk]
    refine ⟨room_iff.2 (by simp only [List.length_cons, List.length_nil]; omega), ?_⟩
    rw [show w64 (m - 1) = m - 1 from w64_id (by omega) (by omega)]
    exact ih b q2 t g root (o ++ [v]) (m - 1) ⟨rfl, rfl, rfl, by omega, by omega, by omega, by simp only [List.length_append, List.length_cons, List.length_nil]; omega⟩ (by omega)
  · have fin : ∀ (q4 : Int) (rs : List Int), p ≤ q4 → q4 ≤ p + 600 → rs.length ≤ 5 → Tot (fun σ => B_Z54_J2 (σ 0) (F_Z47 (σ 0)) (F_Z22 (σ 0)) (F_Z13 (σ 0)) b q4 t g root rs) (Drawn b p 600 fun x => ∃ (g : List PNode) (root : Int) (rs : List Int), x = ((g, root, ()), rs, ()) ∧ SmallG g ∧ rs.length ≤ 5) := by
      intro q4 rs m1 m2 m3
      unfold B_Z54_J2
      rw [tot_some]
      exact ⟨_, q4, rfl, m1, m2, g, root, rs, rfl, hs, m3⟩
    have hol : o.length ≤ 5 := by omega
    rw [tot_cond]
    simp only [decide_eq_true_eq, decide_eq_false_iff_not]
    refine ⟨fun hlt => ?_, fun _ => ?_⟩
    · refine (pick_tot hr (by omega) (by omega)).bind ?_
      rintro _ ⟨_, q2, rfl, f1, f2, v, rfl, _⟩
      rw [tot_jn]
      unfold B_Z54_J1
      rw [tot_cond]
      refine ⟨fun _ => ?_, fun _ => by rw [tot_jn]; exact fin q2 o (by omega) (by omega) hol⟩
      refine (one_tot (hr.next f1 (by omega)) (by omega) (by simp) (by simp)).bind ?_
      rintro _ ⟨_, q3, rfl, m1, m2, u, rfl, _⟩
      simp only [tot_chk, tot_jn, inb_iff, decide_eq_true_eq]
      exact ⟨by omega, by simp; omega, fin q3 _ (by omega) (by omega) (by rw [List.length_set]; exact hol)⟩
    · rw [tot_jn]
      unfold B_Z54_J1
      rw [tot_cond]
      exact ⟨fun h0 => Bool.noConfusion h0, fun _ => by rw [tot_jn]; exact fin q' o (by omega) (by omega) hol⟩
theorem validRoots_tot {g : List PNode} {root : Int} {rs : List Int} (hs : SmallG g) (hl : rs.length ≤ 5) : Tot (fun σ => F_Z25 (σ 0) g root rs) (Says (ValidG g root ∧ ∀ x ∈ rs, 0 ≤ x ∧ x ≤ (g.length : Int) - 1)) := by
  have hmost := hs.most
  refine tot_Z25 ?_
  unfold B_Z25
  refine (validGraph_tot (by omega) (fun n hn => by have := hs.kids n hn; omega)).bind ?_
  rintro _ ⟨t, rfl, ht⟩
  rw [tot_cond]
  refine ⟨fun h1 => ?_, fun h1 => ?_⟩
  · simp only [len]
    rw [tot_cond]
    refine ⟨fun _ => ?_, fun h2 => by have := of_decide_eq_false h2; omega⟩
    rw [show w64 ((g.length : Int) - 1) = (g.length : Int) - 1 from w64_id (by omega) (by omega)]
    refine (allIn_tot (by omega) _ _).bind ?_
    rintro _ ⟨t2, rfl, ht2⟩
    rw [tot_some]
    exact ⟨t2, rfl, fun h => ⟨ht.1 h1, ht2.1 h⟩, fun h => ht2.2 h.2⟩
  · rw [tot_some]
    exact says_false fun h => by rw [ht.2 h.1] at h1; cases h1
theorem writtenMany_tot {g : List PNode} {root : Int} {rs : List Int} (hv : ValidG g root) (hl : rs.length ≤ 5) (hr : ∀ x ∈ rs, 0 ≤ x ∧ x ≤ (g.length : Int) - 1) (level : Int) :
    Tot (fun σ => F_Z15 (σ 0) g root rs level) (fun r => ∃ ops : List POp, r = ((ops, ()), ()) ∧ ops.length ≤ 500000000000) := by
  have hg := hv.most
  refine tot_Z15 ?_
  unfold B_Z15
  refine (emptyMemo_tot (by omega)).bind ?_
  rintro _ rfl
  have hun := un_le g (List.replicate g.length (-1))
  have hG := GG_12
  have key := loop_Z15_L0 (Q := fun _ _ _ _ _ _ _ r => ∃ ops : List POp, r = ((ops, ()), ()) ∧ ops.length ≤ 500000000000)
    (I := fun rs' l' g' r' o m i => rs' = rs ∧ l' = level ∧ g' = g ∧ r' = root ∧ ∃ j : Nat, i = (j : Int) ∧ j ≤ rs.length ∧ m.length = g.length ∧ un g m ≤ g.length ∧ o.length + 33957804446 * un g m ≤ 6000000000 * j + 33957804446 * 12) (μ := fun _ _ _ _ _ _ i => (rs.length - i).toNat) ?_
  · exact key rs level g root [] _ 0 ⟨rfl, rfl, rfl, rfl, 0, rfl, Nat.zero_le _, by simp, hun, by simp only [List.length_nil]; omega⟩
  rintro rs level g root o m _ ⟨rfl, rfl, rfl, rfl, j, rfl, hj, hm, hu, hb⟩ again hag ih
  unfold B_Z15_L0b
  have hrd : rdx (0 : Int) rs (j : Int) = rs.getD j 0 := by rw [rdx_eq, Int.toNat_natCast]
  rw [hrd, tot_cond]
  simp only [decide_eq_true_eq, decide_eq_false_iff_not, len]
  refine ⟨fun hlt => ?_, fun hge => ?_⟩
  · have hjl : j < rs.length := by omega
    rw [tot_chk]
    refine ⟨inb_iff.2 (by omega), ?_⟩
    have hx := hr _ (getD_mem (xs := rs) (d := 0) hjl)
    obtain ⟨a, ha⟩ := Int.eq_ofNat_of_zero_le hx.1
    rw [ha] at hx ⊢
    refine (save_tot hv g.length 12 (Nat.le_refl _) a (by omega) (fun _ => Nat.le_trans (rk_le g _) hg) o _ hm hu (by omega)).bind ?_
    rintro _ ⟨o2, m2, rfl, k1, k2, k3⟩
    refine (emit_tot (by simp only [List.length_cons, List.length_nil]; omega)).bind ?_
    rintro _ rfl
    rw [w64_succ (by omega) (by omega)]
    exact ih rs level g root (o2 ++ [(19, 0)]) m2 _ ⟨rfl, rfl, rfl, rfl, j + 1, rfl, hjl, k1, by omega, by simp only [List.length_append, List.length_cons, List.length_nil]; omega⟩ (by simp; omega)
  · rw [tot_some]
    exact ⟨o, rfl, by omega⟩
theorem manyOps_tot {b : List Int} {p : Int} (h : RD b p) (hp : p ≤ 80000000) : Tot (fun σ => F_Z60 (σ 0) b p) (Drawn b p 4000 fun x => ∃ ops : List POp, x = (ops, ()) ∧ ops.length ≤ 500000000000) := by
  refine tot_Z60 ?_
  unfold B_Z60
  refine (rootsOf_tot h (by omega)).bind ?_
  rintro _ ⟨_, q, rfl, h1, h2, g, root, rs, rfl, hs, hl⟩
  have hq := h.next h1 (by omega)
  refine (validRoots_tot hs hl).bind ?_
  rintro _ ⟨t, rfl, ht⟩
  have fin : ∀ (q4 : Int) (o : List POp), p ≤ q4 → q4 ≤ p + 4000 → o.length ≤ 500000000000 → Drawn b p 4000 (fun x => ∃ ops : List POp, x = (ops, ()) ∧ ops.length ≤ 500000000000) ((o, ()), ((b, q4, ()), ())) := fun q4 o m1 m2 m3 => ⟨_, q4, rfl, m1, m2, o, rfl, m3⟩
  have j3 : ∀ (q4 : Int) (o : List POp) (t : Bool), (t = true → 0 < o.length) → p ≤ q4 → q4 ≤ p + 3900 → o.length ≤ 500000000000 → Tot (fun σ => B_Z60_J3 (σ 0) (F_Z54 (σ 0)) (F_Z25 (σ 0)) (F_Z13 (σ 0)) (F_Z64 (σ 0)) (F_Z15 (σ 0)) (F_s_someOp (σ 0)) b q4 o t) (Drawn b p 4000 fun x => ∃ ops : List POp, x = (ops, ()) ∧ ops.length ≤ 500000000000) := by
    intro q4 o t ht m1 m2 m3
    have hr := h.next m1 (by omega)
    unfold B_Z60_J3
    rw [tot_cond]
    refine ⟨fun h0 => ?_, fun _ => by rw [tot_some]; exact fin q4 o m1 (by omega) m3⟩
    have hpos := ht h0
    simp only [len]
    refine (pick_tot hr (by omega) (by omega)).bind ?_
    rintro _ ⟨_, q5, rfl, f1, f2, v, rfl, f3, f4⟩
    have f4 := f4 (by omega)
    refine (someOp_tot (hr.next f1 (by omega)) (by omega)).bind ?_
    rintro _ ⟨_, q6, rfl, e1, e2, c, a, rfl, _⟩
    simp only [tot_chk, tot_some, inb_iff, decide_eq_true_eq]
    exact ⟨by omega, by omega, fin q6 _ (by omega) (by omega) (by rw [List.length_set]; exact m3)⟩
  have j2 : ∀ (q4 : Int) (o : List POp), p ≤ q4 → q4 ≤ p + 3800 → o.length ≤ 500000000000 → Tot (fun σ => B_Z60_J2 (σ 0) (F_Z54 (σ 0)) (F_Z25 (σ 0)) (F_Z13 (σ 0)) (F_Z64 (σ 0)) (F_Z15 (σ 0)) (F_s_someOp (σ 0)) b q4 o) (Drawn b p 4000 fun x => ∃ ops : List POp, x = (ops, ()) ∧ ops.length ≤ 500000000000) := by
    intro q4 o m1 m2 m3
    have hr := h.next m1 (by omega)
    unfold B_Z60_J2
    rw [tot_cond]
    simp only [decide_eq_true_eq, decide_eq_false_iff_not, len]
    refine ⟨fun hlt => ?_, fun _ => by rw [tot_jn]; exact j3 q4 o false (fun h => by cases h) m1 (by omega) m3⟩
    refine (pick_tot hr (by omega) (by omega)).bind ?_
    rintro _ ⟨_, q5, rfl, f1, f2, v, rfl, f3, f4⟩
    rw [tot_jn]
    exact j3 q5 o _ (fun _ => by omega) (by omega) (by omega) m3
  have j1 : ∀ (q4 : Int) (o : List POp) (t : Bool), (t = true → 0 < o.length) → p ≤ q4 → q4 ≤ p + 3700 → o.length ≤ 500000000000 → Tot (fun σ => B_Z60_J1 (σ 0) (F_Z54 (σ 0)) (F_Z25 (σ 0)) (F_Z13 (σ 0)) (F_Z64 (σ 0)) (F_Z15 (σ 0)) (F_s_someOp (σ 0)) b q4 o t) (Drawn b p 4000 fun x => ∃ ops : List POp, x = (ops, ()) ∧ ops.length ≤ 500000000000) := by
    intro q4 o t ht m1 m2 m3
    have hr := h.next m1 (by omega)
    unfold B_Z60_J1
    rw [tot_cond]
    refine ⟨fun h0 => ?_, fun _ => by rw [tot_jn]; exact j2 q4 o m1 (by omega) m3⟩
    have hpos := ht h0
    simp only [len]
    refine (pick_tot hr (by omega) (by omega)).bind ?_
    rintro _ ⟨_, q5, rfl, f1, f2, v, rfl, f3, f4⟩
    have f4 := f4 (by omega)
    simp only [tot_chk, cutb_iff, tot_jn]
    refine ⟨⟨by omega, by omega, by omega⟩, ?_⟩
    exact j2 q5 _ (by omega) (by omega) (by rw [List.length_take]; omega)
  have j0 : ∀ (q4 : Int) (t : Bool), (t = false → ValidG g root ∧ ∀ x ∈ rs, 0 ≤ x ∧ x ≤ (g.length : Int) - 1) → p ≤ q4 → q4 ≤ p + 1000 → Tot (fun σ => B_Z60_J0 (σ 0) (F_Z54 (σ 0)) (F_Z25 (σ 0)) (F_Z13 (σ 0)) (F_Z64 (σ 0)) (F_Z15 (σ 0)) (F_s_someOp (σ 0)) b q4 g root rs t) (Drawn b p 4000 fun x => ∃ ops : List POp, x = (ops, ()) ∧ ops.length ≤ 500000000000) := by
    intro q4 t ht m1 m2
    have hr := h.next m1 (by omega)
    unfold B_Z60_J0
    rw [tot_cond]
    refine ⟨fun _ => ?_, fun h0 => ?_⟩
    · refine (someOps_tot hr (by omega)).bind ?_
      rintro _ ⟨_, q5, rfl, f1, f2, ops, rfl, hol⟩
      rw [tot_some]
      exact fin q5 ops (by omega) (by omega) hol
    · obtain ⟨hv, hrs⟩ := ht h0
      refine (pick_tot hr (by omega) (by omega)).bind ?_
      rintro _ ⟨_, q5, rfl, f1, f2, v, rfl, f3, f4⟩
      refine (writtenMany_tot hv hl hrs v).bind ?_
      rintro _ ⟨ops, rfl, hol⟩
      rw [tot_cond]
      simp only [decide_eq_true_eq, decide_eq_false_iff_not, len]
      refine ⟨fun hlt => ?_, fun _ => by rw [tot_jn]; exact j1 q5 ops false (fun h => by cases h) (by omega) (by omega) hol⟩
      refine (pick_tot (hr.next f1 (by omega)) (by omega) (by omega)).bind ?_
      rintro _ ⟨_, q6, rfl, e1, e2, v2, rfl, _⟩
      rw [tot_jn]
      exact j1 q6 ops _ (fun _ => by omega) (by omega) (by omega) hol
  rw [tot_cond]
  refine ⟨fun _ => by rw [tot_jn]; exact j0 q true (fun h => by cases h) h1 (by omega), fun h0 => ?_⟩
  have ht2 : t = true := by simpa using h0
  refine (pick_tot hq (by omega) (by omega)).bind ?_
  rintro _ ⟨_, q5, rfl, f1, f2, v, rfl, _⟩
  rw [tot_jn]
  exact j0 q5 _ (fun _ => ht.1 ht2) (by omega) (by omega)
end Go.Gx

/-
  Laws: ReadMany, both.
-/
set_option linter.unusedVariables false
set_option linter.unusedSimpArgs false
namespace Go.Gx
theorem drop_cons {ops : List POp} {j : Nat} (h : j < ops.length) : ops.drop j = ops.getD j (0, 0) :: ops.drop (j + 1) := by
  rw [List.drop_eq_getElem_cons h, List.getD_eq_getElem?_getD, List.getElem?_eq_getElem h]; rfl
/-- A round. -/
structure RI (ops : List POp) (j : Nat) (m : Mc) (acc : Rd) : Prop where
  jl : j ≤ ops.length
  mi : MI m (1000002 * j)
  nl : m.N.length ≤ 300
  sl : m.S.length ≤ 300
  ac : Acc acc j (1000002 * j)
  eq : readP ops = manyR m (ops.drop j) j acc
theorem newRI (ops : List POp) : RI ops 0 newMc rd0 := ⟨Nat.zero_le _, newMc_inv, by simp [newMc], by simp [newMc], ⟨by simp [rd0], by simp [rd0], fun n hn => by simp [rd0] at hn, by simp [rd0]⟩, rfl⟩
theorem RI.fin {ops : List POp} {j : Nat} {m : Mc} {acc : Rd} (h : RI ops j m acc) (hj : ¬ j < ops.length) : readP ops = acc := by
  have := h.eq
  rwa [List.drop_eq_nil_of_le (by omega), manyR] at this
theorem RI.bad {ops : List POp} {j : Nat} {m : Mc} {acc : Rd} (h : RI ops j m acc) (hj : j < ops.length) (hs : stepM m (ops.getD j (0, 0)).1 (ops.getD j (0, 0)).2 = none) : readP ops = acc := by
  have := h.eq
  rwa [drop_cons hj, manyR, hs] at this
theorem RI.stop {ops : List POp} (hok : okOps ops = true) {j : Nat} {m m' : Mc} {acc : Rd} (h : RI ops j m acc) (hj : j < ops.length) (hs : stepM m (ops.getD j (0, 0)).1 (ops.getD j (0, 0)).2 = some m') (hd : m'.D = true) : RI ops (j + 1) ⟨m'.N, [], m'.M, false⟩ ⟨m'.N, acc.rs ++ [m'.S.getD 0 0], j + 1⟩ := by
  have h1 := h.nl; have h2 := h.sl
  obtain ⟨i1, i2, i3⟩ := h.mi.step (by omega) (by omega) (okOps_at hok hj) hs
  have i1' : MI m' (1000002 * (j + 1)) := ⟨i1.sh, i1.ni.mono (Nat.le_refl _) (by omega)⟩
  refine ⟨hj, i1'.fresh, i2, by simp, ⟨Nat.le_refl _, i2, fun n hn => i1'.ni.ln n hn, ?_⟩, ?_⟩
  · have := h.ac.rl; simp only [List.length_append, List.length_cons, List.length_nil]; omega
  · rw [h.eq, drop_cons hj, manyR, hs]
    simp only [if_pos hd]
theorem RI.next {ops : List POp} (hok : okOps ops = true) {j : Nat} {m m' : Mc} {acc : Rd} (h : RI ops j m acc) (hj : j < ops.length) (hs : stepM m (ops.getD j (0, 0)).1 (ops.getD j (0, 0)).2 = some m') (hd : ¬ m'.D = true) : RI ops (j + 1) m' acc := by
  have h1 := h.nl; have h2 := h.sl
  obtain ⟨i1, i2, i3⟩ := h.mi.step (by omega) (by omega) (okOps_at hok hj) hs
  refine ⟨hj, ⟨i1.sh, i1.ni.mono (Nat.le_refl _) (by omega)⟩, i2, i3, h.ac.mono (by omega) (by omega), ?_⟩
  rw [h.eq, drop_cons hj, manyR, hs]
  simp only [if_neg hd]
theorem w64j {j : Nat} (h : j ≤ 300) : w64 ((j : Int) + 1) = ((j + 1 : Nat) : Int) := by rw [w64_id (by omega) (by omega)]; omega
theorem i_ReadMany_tot {ops : List POp} (hl : ops.length ≤ 900000000000) : Tot (fun σ => F_Z43 (σ 0) ops) (fun r => r = readA ops) := by
  refine tot_Z43 ?_
  unfold B_Z43 readA
  refine (i_ValidOps_tot hl).bind ?_
  rintro _ rfl
  rw [tot_cond]
  refine ⟨fun h => ?_, fun h => ?_⟩
  · rw [tot_some, if_neg (by intro hc; simp [hc] at h)]
  have hok : okOps ops = true := by simpa using h
  rw [if_pos hok]
  have h3 := (okOps_all hok).2
  refine newM_tot.bind ?_
  rintro _ rfl
  simp only [len]
  have key := loop_Z43_L1 (Q := fun _ _ _ _ _ _ _ _ _ _ _ _ r => r = ((((readP ops).N, 0, ()), (readP ops).rs, ((readP ops).e : Int), ()), ()))
    (I := fun t N S M D gN gR rs e o n i => gR = 0 ∧ o = ops ∧ n = (ops.length : Int) ∧ ∃ (j e' : Nat), i = (j : Int) ∧ e = (e' : Int) ∧ RI ops j ⟨N, S, M, D⟩ ⟨gN, rs, e'⟩) (μ := fun _ _ _ _ _ _ _ _ _ _ _ i => (ops.length - i).toNat) ?_
  · exact key 0 [] [] _ false [] 0 [] 0 ops _ 0 ⟨rfl, rfl, rfl, 0, 0, rfl, rfl, newRI ops⟩
  rintro t N S M D gN _ rs _ ops _ _ ⟨rfl, rfl, rfl, j, e', rfl, rfl, hR⟩ again hag ih
  unfold B_Z43_L1b
  have hrd : rdx ((0 : Int), (0 : Int)) ops (j : Int) = ops.getD j (0, 0) := by rw [rdx_eq, Int.toNat_natCast]
  have fin : readP ops = ⟨gN, rs, e'⟩ → Tot (fun σ => B_Z43_J2 (σ 0) (F_Z48 (σ 0)) (F_Z23 (σ 0)) (F_Z8 (σ 0)) (F_Z30 (σ 0)) t gN 0 rs (e' : Int)) (fun r => r = ((((readP ops).N, 0, ()), (readP ops).rs, ((readP ops).e : Int), ()), ())) := by
    intro he
    unfold B_Z43_J2
    rw [tot_some, he]
  rw [hrd, tot_cond]
  refine ⟨fun hlt => ?_, fun hge => by rw [tot_jn]; exact fin (hR.fin (by have := of_decide_eq_false hge; omega))⟩
  have hlt := of_decide_eq_true hlt
  have hj : j < ops.length := by omega
  rw [tot_chk]
  refine ⟨inb_iff.2 (by omega), ?_⟩
  have hnl : N.length ≤ 300 := hR.nl
  have hsl : S.length ≤ 300 := hR.sl
  refine (i_step_tot hR.mi (by omega) hnl hsl (c := (ops.getD j (0, 0)).1) (a := (ops.getD j (0, 0)).2) (okOps_at hok hj)).bind fun r ha => ?_
  cases hs : stepM ⟨N, S, M, D⟩ (ops.getD j (0, 0)).1 (ops.getD j (0, 0)).2 with
  | none =>
    rw [hs] at ha
    rw [tot_cond]
    refine ⟨fun _ => by rw [tot_jn]; exact fin (hR.bad hj hs), fun h0 => ?_⟩
    rw [ha.1] at h0; cases h0
  | some m' =>
    rw [hs] at ha
    have ha : r = ((true, ()), ((some m'.N, m'.S, m'.M, m'.D, ()), ())) := ha
    subst ha
    rw [tot_cond]
    refine ⟨fun h0 => absurd h0 (by simp), fun _ => ?_⟩
    have hnx := hR.ac.rl
    have hnx : rs.length ≤ j := hnx
    rw [tot_cond]
    refine ⟨fun hd => ?_, fun hd => ?_⟩
    · have hS1 := ((stepM_D hs).2 hd).1
      have hst := hR.stop hok hj hs hd
      have hk : ∀ n ∈ m'.N, n.2.2.length ≤ 1000002 * (j + 1) := hst.mi.ni.ln
      have hNl : m'.N.length ≤ 300 := hst.nl
      simp only [tot_chk, inb_iff, decide_eq_true_eq, room_iff, List.length_cons, List.length_nil, Option.bind_some, Int.toNat_zero]
      refine ⟨by omega, by omega, by omega, (copyNodes_tot (by omega) (fun n hn => by have := hk n hn; omega)).bind ?_⟩
      rintro _ rfl
      rw [tot_jn]
      unfold B_Z43_J0
      rw [w64j (by omega)]
      exact ih _ _ _ _ _ _ _ _ _ _ _ _ ⟨rfl, rfl, rfl, j + 1, j + 1, rfl, rfl, hst⟩ (by omega)
    · simp only [Option.bind_some, tot_jn]
      unfold B_Z43_J0
      rw [w64j (by omega)]
      exact ih _ _ _ _ _ _ _ _ _ _ _ _ ⟨rfl, rfl, rfl, j + 1, e', rfl, rfl, hR.next hok hj hs (by rw [show m'.D = false from hd]; decide)⟩ (by omega)
theorem s_many_tot {ops : List POp} (hok : okOps ops = true) : Tot (fun σ => F_s_many (σ 0) ops) (fun r => ∃ m : Mc, r = ((MD m, (readP ops).rs, ((readP ops).e : Int), ()), ()) ∧ m.N = (readP ops).N ∧ MI m (1000002 * ops.length)) := by
  have h3 := (okOps_all hok).2
  refine tot_s_many ?_
  unfold B_s_many
  refine s_newM_tot.bind ?_
  rintro _ rfl
  rw [tot_jn]
  unfold B_s_many_J0
  have key := loop_s_many_L4 (Q := fun _ _ _ _ _ _ _ _ _ _ _ _ _ r => ∃ m : Mc, r = ((MD m, (readP ops).rs, ((readP ops).e : Int), ()), ()) ∧ m.N = (readP ops).N ∧ MI m (1000002 * ops.length))
    (I := fun o t N S M D sN sS sM sD rs e i => o = ops ∧ ∃ (j e' : Nat), i = (j : Int) ∧ e = (e' : Int) ∧ RI ops j ⟨N, S, M, D⟩ ⟨sN, rs, e'⟩ ∧ MI ⟨sN, sS, sM, sD⟩ (1000002 * j)) (μ := fun _ _ _ _ _ _ _ _ _ _ _ _ i => (ops.length - i).toNat) ?_
  · exact key ops false [] [] _ false [] [] _ false [] 0 0 ⟨rfl, 0, 0, rfl, rfl, newRI ops, newMc_inv⟩
  rintro ops t N S M D sN sS sM sD rs _ _ ⟨rfl, j, e', rfl, rfl, hR, hsv⟩ again hag ih
  have hjl := hR.jl
  unfold B_s_many_L4b
  have hrd : rdx ((0 : Int), (0 : Int)) ops (j : Int) = ops.getD j (0, 0) := by rw [rdx_eq, Int.toNat_natCast]
  have fin : readP ops = ⟨sN, rs, e'⟩ → Tot (fun σ => B_s_many_J5 (σ 0) (F_Z26 (σ 0)) (F_Z10 (σ 0)) (F_s_step (σ 0)) t sN sS sM sD rs (e' : Int)) (fun r => ∃ m : Mc, r = ((MD m, (readP ops).rs, ((readP ops).e : Int), ()), ()) ∧ m.N = (readP ops).N ∧ MI m (1000002 * ops.length)) := by
    intro he
    unfold B_s_many_J5
    rw [tot_some, he]
    exact ⟨⟨sN, sS, sM, sD⟩, rfl, rfl, ⟨hsv.sh, hsv.ni.mono (Nat.le_refl _) (by omega)⟩⟩
  rw [hrd, tot_cond]
  simp only [len]
  refine ⟨fun hlt => ?_, fun hge => by rw [tot_jn]; exact fin (hR.fin (by have := of_decide_eq_false hge; omega))⟩
  have hlt := of_decide_eq_true hlt
  have hj : j < ops.length := by omega
  have hnl : N.length ≤ 300 := hR.nl
  have hsl : S.length ≤ 300 := hR.sl
  refine (s_copyM_tot hR.mi (by omega)).bind ?_
  rintro _ rfl
  rw [tot_chk]
  refine ⟨inb_iff.2 (by omega), ?_⟩
  refine (s_step_tot hR.mi (by omega) (by show N.length ≤ _; omega) (by show S.length ≤ _; omega) (c := (ops.getD j (0, 0)).1) (a := (ops.getD j (0, 0)).2) (okOps_at hok hj)).bind fun r ha => ?_
  cases hs : stepM ⟨N, S, M, D⟩ (ops.getD j (0, 0)).1 (ops.getD j (0, 0)).2 with
  | none =>
    rw [hs] at ha
    have ha : r.1.2.1 = false := ha
    rw [tot_cond]
    refine ⟨fun _ => by rw [tot_jn]; exact fin (hR.bad hj hs), fun h0 => ?_⟩
    rw [ha] at h0; cases h0
  | some m' =>
    rw [hs] at ha
    have ha : r = (((some m'.N, some m'.S, some m'.M, m'.D, ()), true, ()), ()) := ha
    subst ha
    rw [tot_cond]
    refine ⟨fun h0 => absurd h0 (by simp), fun _ => ?_⟩
    simp only [Option.bind_some, tot_jn]
    unfold B_s_many_J1
    have hnx : rs.length ≤ j := hR.ac.rl
    rw [tot_cond]
    refine ⟨fun hd => ?_, fun hd => ?_⟩
    · have hS1 := ((stepM_D hs).2 hd).1
      have hst := hR.stop hok hj hs hd
      have hrd2 : rdx (0 : Int) m'.S 0 = m'.S.getD 0 0 := rfl
      simp only [tot_chk, tot_jn, inb_iff, room_iff, List.length_cons, List.length_nil, hrd2]
      refine ⟨by omega, by omega, ?_⟩
      unfold B_s_many_J2 B_s_many_J3
      rw [tot_jn, w64j (by omega)]
      exact ih _ _ _ _ _ _ _ _ _ _ _ _ _ ⟨rfl, j + 1, j + 1, rfl, rfl, hst, hst.mi⟩ (by omega)
    · rw [tot_jn]
      unfold B_s_many_J3
      rw [w64j (by omega)]
      exact ih _ _ _ _ _ _ _ _ _ _ _ _ _ ⟨rfl, j + 1, e', rfl, rfl, hR.next hok hj hs (by rw [show m'.D = false from hd]; decide), ⟨hsv.sh, hsv.ni.mono (Nat.le_refl _) (by omega)⟩⟩ (by omega)
end Go.Gx

/-
  Laws: running for BuildGraph (written by mkrun.py).
-/
set_option linter.unusedVariables false
set_option linter.unusedSimpArgs false
namespace Go.Gx
theorem after_BuildGraph_tot {N : List PNode} {S M : List Int} {D : Bool} : Tot (fun σ => F_Z4 (σ 0) N S M D) (fun r => r = ((), ())) := by
  refine tot_Z4 ?_
  unfold B_Z4
  rw [tot_some]
theorem running_BuildGraph_tot {ops : List POp} (hok : okOps ops = true) : Tot (fun σ => F_Z0 (σ 0) ops) (fun r => r = ((MD (runM newMc ops 0).1, ((runM newMc ops 0).2 : Int), ()), ())) := by
  obtain ⟨h1, h2⟩ := okOps_all hok
  refine tot_Z0 ?_
  unfold B_Z0
  refine newM_tot.bind ?_
  rintro _ rfl
  have key := loop_Z0_L0 (Q := fun ops' t4 N S M D t10 t11 t12 r => r = ((MD (runM newMc ops 0).1, ((runM newMc ops 0).2 : Int), ()), ()))
    (I := fun ops' t4 N S M D t10 t11 t12 => ops' = ops ∧ t10 = ops ∧ t11 = (ops.length : Int) ∧ ∃ j : Nat, t12 = (j : Int) ∧ j ≤ ops.length ∧ MI ⟨N, S, M, D⟩ (1000002 * j) ∧ N.length ≤ j ∧ S.length ≤ j ∧ runM newMc ops 0 = runM ⟨N, S, M, D⟩ (ops.drop j) j)
    (μ := fun _ _ _ _ _ _ _ _ t12 => (ops.length - t12).toNat) ?_
  · exact key ops false [] [] _ false ops _ 0 ⟨rfl, rfl, rfl, 0, rfl, by omega, newMc_inv, by simp, by simp, rfl⟩
  intro ops' t4 N S M D t10 t11 t12 ⟨e1, e2, e3, j, e4, hj, hI, hN, hS, hr⟩ again hag ih
  subst e1 e2 e3 e4
  unfold B_Z0_L0b
  simp only [tot_cond, tot_chk, decide_eq_true_eq, decide_eq_false_iff_not, inb_iff, rdx_eq, Int.toNat_natCast]
  refine ⟨fun hlt => ?_, fun hge => ?_⟩
  · have hj' : j < t10.length := by omega
    have hd : t10.drop j = t10.getD j (0, 0) :: t10.drop (j + 1) := by
      rw [List.drop_eq_getElem_cons hj', List.getD_eq_getElem?_getD, List.getElem?_eq_getElem hj']; rfl
    have hoo : okOp (t10.getD j (0, 0)) = true := List.all_eq_true.1 h1 _ (getD_mem hj')
    rw [hd] at hr
    refine ⟨by omega, (i_step_tot hI (by omega) (by show N.length ≤ _; omega) (by show S.length ≤ _; omega) (c := (t10.getD j (0, 0)).1) (a := (t10.getD j (0, 0)).2) hoo).bind fun r ha => ?_⟩
    cases hs : stepM ⟨N, S, M, D⟩ (t10.getD j (0, 0)).1 (t10.getD j (0, 0)).2 with
    | none =>
      rw [hs] at ha
      obtain ⟨_, ha⟩ := ha
      have ha := ha ⟨by show N.length < _; omega, by show S.length < _; omega⟩
      subst ha
      simp only [Bool.not_false, tot_cond, Option.bind_some]
      refine ⟨fun _ => (copyM_tot hI (by omega)).bind ?_, fun h0 => absurd h0 (by decide)⟩
      rintro _ rfl
      rw [tot_some, hr, runM, hs]
    | some m' =>
      rw [hs] at ha
      have ha : r = ((true, ()), ((some m'.N, m'.S, m'.M, m'.D, ()), ())) := ha
      subst ha
      simp only [Bool.not_true, tot_cond, Option.bind_some]
      refine ⟨fun h0 => absurd h0 (by decide), fun _ => after_BuildGraph_tot.bind ?_⟩
      rintro _ rfl
      obtain ⟨g1, g2⟩ := stepM_grow hs
      obtain ⟨i1, i2, i3⟩ := hI.step (by show N.length ≤ _; omega) (by show S.length ≤ _; omega) hoo hs
      rw [show w64 ((j : Int) + 1) = ((j + 1 : Nat) : Int) by rw [w64_id (by omega) (by omega)]; omega]
      refine ih _ _ _ _ _ _ _ _ _ ⟨rfl, rfl, rfl, j + 1, rfl, by omega, ⟨i1.sh, i1.ni.mono (Nat.le_refl _) (by omega)⟩, by show m'.N.length ≤ _; simp only at g1; omega, by show m'.S.length ≤ _; simp only at g2; omega, ?_⟩ (by omega)
      rw [hr, runM, hs]
  · refine (copyM_tot hI (by omega)).bind ?_
    rintro _ rfl
    rw [tot_some, hr, List.drop_eq_nil_of_le (by omega), runM]
    have : j = t10.length := by omega
    rw [this]
end Go.Gx

/-
  Laws: BuildGraph and IsWhole, by the program.
-/
set_option linter.unusedVariables false
set_option linter.unusedSimpArgs false
namespace Go.Gx
def graphA (ops : List POp) : ((List PNode × Int × Unit) × Bool × Unit) × Unit := if wholeM ops = true then ((((rM ops).N, (rM ops).S.getD 0 0, ()), true, ()), ()) else ((([], 0, ()), false, ()), ())
theorem i_BuildGraph_tot {ops : List POp} (hl : ops.length ≤ 900000000000) : Tot (fun σ => F_Z24 (σ 0) ops) (fun r => r = graphA ops) := by
  refine tot_Z24 ?_
  unfold B_Z24 B_Z24_J0 graphA wholeM
  refine (i_ValidOps_tot hl).bind ?_
  rintro _ rfl
  simp only [tot_cond, tot_some, Bool.not_eq_true', Bool.not_eq_false']
  refine ⟨fun h => by rw [if_neg (by rw [h]; simp)], fun h => ?_⟩
  refine (running_BuildGraph_tot h).bind ?_
  rintro _ rfl
  have hn := (rM_inv h).2.2.2
  simp only [tot_cond, tot_jn, tot_chk, tot_some, decide_eq_true_eq, decide_eq_false_iff_not, len, inb_iff, Bool.not_eq_true', Bool.not_eq_false']
  refine ⟨fun hlt => ⟨fun _ => ?_, fun h0 => absurd h0 (by decide)⟩, fun hge => ⟨fun hd => ?_, fun hd => ?_⟩⟩
  · have hlt : (rN ops : Int) < ops.length := hlt
    rw [if_neg (by simp only [Bool.and_eq_true, decide_eq_true_eq]; omega)]
  · rw [if_neg]
    show ¬ (_ && _ && (rM ops).D) = true
    have : (rM ops).D = false := hd
    rw [this, Bool.and_false]; decide
  · have hge : ¬ (rN ops : Int) < ops.length := hge
    have hd : (rM ops).D = true := hd
    obtain ⟨hs, _⟩ := rM_D hd
    have hs' : (runM newMc ops 0).1.S.length = 1 := hs
    refine ⟨by omega, by rw [hs']; decide, ?_⟩
    rw [if_pos]
    · rfl
    · rw [h, hd, decide_eq_true (by omega)]; rfl
end Go.Gx

/-
  Laws, part U0: walks, without any program.
-/
set_option linter.unusedVariables false
set_option linter.unusedSimpArgs false
namespace Go.Gx
/-- The kids of a node. -/
def kd (g : List PNode) (i : Int) : List Int := (nd g i).2.2
def MetOk (g : List PNode) (met : List Int) : Prop := met.Nodup ∧ ∀ x ∈ met, 0 ≤ x ∧ x < (g.length : Int)
theorem MetOk.len {g : List PNode} {met : List Int} (h : MetOk g met) : met.length ≤ g.length := nodup_len h.1 h.2
theorem MetOk.nil {g : List PNode} : MetOk g [] := ⟨List.nodup_nil, fun x hx => by simp at hx⟩
theorem MetOk.snoc {g : List PNode} {met : List Int} {x : Int} (h : MetOk g met) (h0 : 0 ≤ x) (h1 : x < (g.length : Int)) (hx : x ∉ met) : MetOk g (met ++ [x]) := by
  refine ⟨?_, fun y hy => ?_⟩
  · rw [List.nodup_append]
    exact ⟨h.1, by simp, fun a ha b hb e => by simp at hb; subst hb; subst e; exact hx ha⟩
  · rcases List.mem_append.1 hy with h' | h'
    · exact h.2 y h'
    · simp at h'; subst h'; exact ⟨h0, h1⟩
theorem foldl_take_succ {α : Type} {F : α → Int → α} {l : List Int} {j : Nat} (h : j < l.length) (m : α) : (l.take (j + 1)).foldl F m = F ((l.take j).foldl F m) (rdx (0 : Int) l (j : Int)) := by
  have e : rdx (0 : Int) l (j : Int) = l[j] := by
    show l.getD (Int.toNat (j : Int)) 0 = _
    rw [Int.toNat_natCast, List.getD_eq_getElem?_getD, List.getElem?_eq_getElem h]; rfl
  rw [e, List.take_add_one, List.getElem?_eq_getElem h, List.foldl_append]
  rfl
/-- What a map of marks says. -/
def Seen (t : List (Int × Bool)) (met : List Int) : Prop := ∀ x, (mfind t x).getD false = true ↔ x ∈ met
theorem mfind_mput {α : Type} (x : α) (z y : Int) : ∀ t : List (Int × α), mfind (mput t z x) y = if y = z then some x else mfind t y := by
  intro t
  induction t with
  | nil =>
    by_cases h : y = z
    · subst h; simp [mput, mfind]
    · have : (z == y) = false := by simpa using fun e => h e.symm
      simp [mput, mfind, this, h]
  | cons p t ih =>
    obtain ⟨k, v⟩ := p
    by_cases hkz : k = z
    · subst hkz
      by_cases h : y = k
      · subst h; simp [mput, mfind]
      · have : (k == y) = false := by simpa using fun e => h e.symm
        simp [mput, mfind, this, h]
    · have e1 : (k == z) = false := by simpa using hkz
      by_cases h : k = y
      · subst h; simp [mput, mfind, e1, hkz]
      · have : (k == y) = false := by simpa using h
        simp [mput, mfind, this, e1, ih]
theorem Seen.put {t : List (Int × Bool)} {met : List Int} (h : Seen t met) (z : Int) : Seen (mput t z true) (met ++ [z]) := by
  intro x
  rw [mfind_mput]
  by_cases e : x = z
  · subst e; simp
  · rw [if_neg e, h x]; simp [e]
def sumN (l : List Nat) : Nat := l.foldr (· + ·) 0
theorem getDm {l : List Int} {i : Nat} (h : i < l.length) : l.getD i 0 ∈ l := by
  rw [List.getD_eq_getElem?_getD, List.getElem?_eq_getElem h]; exact List.getElem_mem _
end Go.Gx

/-
  Laws, part CO1: codes of graphs, as plain lists.
-/
set_option linter.unusedVariables false
set_option linter.unusedSimpArgs false
namespace Go.Gx
/-- The place of a number in a list. -/
def idx (l : List Int) (x : Int) : Option Nat := l.findIdx? (fun y => y == x)
theorem idx_none {l : List Int} {x : Int} : idx l x = none ↔ x ∉ l := by
  unfold idx
  rw [List.findIdx?_eq_none_iff]
  constructor
  · intro h hx; have := h x hx; simp at this
  · intro h y hy; simp only [beq_eq_false_iff_ne, ne_eq]; exact fun e => h (e ▸ hy)
theorem idx_append {l : List Int} {x y : Int} (hy : y ∉ l) : idx (l ++ [y]) x = if x = y then some l.length else idx l x := by
  unfold idx
  rw [List.findIdx?_append]
  by_cases e : x = y
  · subst e
    have : idx l x = none := idx_none.2 hy
    unfold idx at this
    rw [this]
    simp
  · rw [if_neg e]
    have : List.findIdx? (fun z => z == x) [y] = none := by
      simp only [List.findIdx?_cons, List.findIdx?_nil]
      rw [if_neg (by simpa using fun h => e h.symm)]
      rfl
    rw [this]
    cases List.findIdx? (fun z => z == x) l <;> rfl
/-- The code of a node behind another one, and the nodes that were met. -/
def cod (g : List PNode) : Nat → Int → List Int × List Int → List Int × List Int
  | 0, _, p => p
  | f + 1, i, p => match idx p.2 i with
    | some n => (p.1 ++ [-1, (n : Int)], p.2)
    | none => (kd g i).foldl (fun p k => cod g f k p) (p.1 ++ [(nd g i).1, (nd g i).2.1, ((kd g i).length : Int)], if (nd g i).1 ≠ 0 then p.2 ++ [i] else p.2)
/-- Nodes of a kind have no kids. -/
def IntLeaf (g : List PNode) : Prop := ∀ n ∈ g, n.1 = 0 → n.2.2 = []
/-- Every node's kids are nodes. -/
def Kids (g : List PNode) : Prop := ∀ n ∈ g, InR g n.2.2
theorem Kidly.kids {g : List PNode} (h : Kidly g) : Kids g := fun n hn => (h n hn).2
/-- The kids of the nodes that were not met. -/
def restN (g : List PNode) (met : List Int) : Nat := sumN ((List.range g.length).map fun i : Nat => if (i : Int) ∈ met then 0 else (kd g (i : Int)).length)
theorem sum_ins {h : Nat → Nat} {i : Nat} {c : Nat} : ∀ {l : List Nat}, l.Nodup → i ∈ l → h i = c → sumN (l.map h) = c + sumN (l.map fun j => if j = i then 0 else h j) := by
  intro l
  induction l with
  | nil => intro _ hi; simp at hi
  | cons a l ih =>
    intro hn hi hc
    have hn' := List.nodup_cons.1 hn
    simp only [List.map_cons, sumN, List.foldr_cons]
    by_cases e : a = i
    · subst e
      rw [if_pos rfl, hc]
      have : l.map h = l.map fun j => if j = a then 0 else h j := List.map_congr_left fun j hj => by
        rw [if_neg (fun e : j = a => hn'.1 (by rw [← e]; exact hj))]
      rw [this]; omega
    · rw [if_neg e]
      have := ih hn'.2 (by rcases List.mem_cons.1 hi with h | h; exact absurd h.symm e; exact h) hc
      simp only [sumN] at this
      omega
theorem restN_snoc {g : List PNode} {met : List Int} {i : Int} (h0 : 0 ≤ i) (h1 : i < (g.length : Int)) (hi : i ∉ met) : restN g met = (kd g i).length + restN g (met ++ [i]) := by
  obtain ⟨q, rfl⟩ := Int.eq_ofNat_of_zero_le h0
  unfold restN
  rw [sum_ins (i := q) (c := (kd g (q : Int)).length) List.nodup_range (List.mem_range.2 (by omega)) (by rw [if_neg hi])]
  congr 2
  refine List.map_congr_left fun j _ => ?_
  by_cases e : j = q
  · subst e; simp
  · simp [e, show (j : Int) ≠ (q : Int) from fun h => e (by omega)]
theorem cod_ok {g : List PNode} (hk : Kids g) (hL : IntLeaf g) : ∀ (f : Nat) (i : Int) (p : List Int × List Int) (c : Nat), 0 ≤ i → i < (g.length : Int) → MetOk g p.2 → g.length + 1 ≤ f + p.2.length → p.1.length + 3 * restN g p.2 + 3 * (c + 1) ≤ 500000000000 →
    MetOk g (cod g f i p).2 ∧ p.2.length ≤ (cod g f i p).2.length ∧ (cod g f i p).1.length + 3 * restN g (cod g f i p).2 + 3 * c ≤ 500000000000 := by
  intro f
  induction f with
  | zero => intro i p c _ _ h1 h2 h3; have := h1.len; omega
  | succ f ih =>
    intro i p c h0 h1 hm hf hr
    unfold cod
    cases hq : idx p.2 i with
    | some n => exact ⟨hm, Nat.le_refl _, by simp only [List.length_append, List.length_cons, List.length_nil]; omega⟩
    | none =>
      have hni := idx_none.1 hq
      have fold : ∀ (l : List Int) (p : List Int × List Int) (c : Nat), InR g l → MetOk g p.2 → g.length + 1 ≤ f + p.2.length → p.1.length + 3 * restN g p.2 + 3 * (c + l.length) ≤ 500000000000 →
          MetOk g (l.foldl (fun p k => cod g f k p) p).2 ∧ p.2.length ≤ (l.foldl (fun p k => cod g f k p) p).2.length ∧ (l.foldl (fun p k => cod g f k p) p).1.length + 3 * restN g (l.foldl (fun p k => cod g f k p) p).2 + 3 * c ≤ 500000000000 := by
        intro l
        induction l with
        | nil => intro p c _ a _ b; exact ⟨a, Nat.le_refl _, by simpa using b⟩
        | cons k l ihl =>
          intro p c hl a b d
          have hkr := hl k (by simp)
          have h2 := ih k p (c + l.length) hkr.1 hkr.2 a b (by simp only [List.length_cons] at d; omega)
          have h3 := ihl (cod g f k p) c (fun x hx => hl x (by simp [hx])) h2.1 (by omega) h2.2.2
          exact ⟨h3.1, by simp only [List.foldl_cons]; omega, h3.2.2⟩
      by_cases hz : (nd g i).1 = 0
      · have hnil : kd g i = [] := hL _ (nd_mem h0 h1) hz
        simp only [hnil, hz, ne_eq, not_true_eq_false, if_false, List.foldl_nil, List.length_nil, List.length_append, List.length_cons]
        exact ⟨hm, Nat.le_refl _, by omega⟩
      · simp only [ne_eq, hz, not_false_eq_true, if_true]
        have hs := restN_snoc h0 h1 hni
        have := fold (kd g i) (p.1 ++ [(nd g i).1, (nd g i).2.1, ((kd g i).length : Int)], p.2 ++ [i]) c (hk _ (nd_mem h0 h1)) (hm.snoc h0 h1 hni) (by simp only [List.length_append, List.length_cons, List.length_nil]; omega)
          (by simp only [List.length_append, List.length_cons, List.length_nil]; omega)
        exact ⟨this.1, by have := this.2.1; simp only [List.length_append, List.length_cons, List.length_nil] at this; omega, this.2.2⟩
theorem sumN_le {L : Nat} {h : Nat → Nat} : ∀ {l : List Nat}, (∀ i ∈ l, h i ≤ L) → sumN (l.map h) ≤ l.length * L := by
  intro l
  induction l with
  | nil => intro _; simp [sumN]
  | cons a l ih =>
    intro hl
    have h1 := hl a (by simp)
    have h2 := ih fun i hi => hl i (by simp [hi])
    simp only [List.map_cons, sumN, List.foldr_cons, List.length_cons] at h2 ⊢
    rw [Nat.succ_mul]
    omega
theorem restN_le {g : List PNode} {met : List Int} {L : Nat} (h : ∀ n ∈ g, n.2.2.length ≤ L) : restN g met ≤ g.length * L := by
  unfold restN
  have := sumN_le (L := L) (h := fun i : Nat => if (i : Int) ∈ met then 0 else (kd g (i : Int)).length) (l := List.range g.length) fun i hi => by
    have hi := List.mem_range.1 hi
    split
    · exact Nat.zero_le _
    · exact h _ (nd_mem (by omega) (by omega))
  rwa [List.length_range] at this
end Go.Gx

/-
  Laws, part CO3: codes, by the program and by the reference.
-/
set_option linter.unusedVariables false
set_option linter.unusedSimpArgs false
namespace Go.Gx
theorem idx_of_place {l : List Int} {x v : Int} (h : (v = -1 ∧ x ∉ l) ∨ ∃ j : Nat, v = j ∧ j < l.length ∧ l.getD j 0 = x ∧ ∀ i, i < j → l.getD i 0 ≠ x) : (v < 0 ∧ idx l x = none) ∨ ∃ j : Nat, v = j ∧ idx l x = some j := by
  rcases h with ⟨h1, h2⟩ | ⟨j, h1, h2, h3, h4⟩
  · exact .inl ⟨by omega, idx_none.2 h2⟩
  · refine .inr ⟨j, h1, ?_⟩
    unfold idx
    rw [List.findIdx?_eq_some_iff_getElem]
    refine ⟨h2, ?_, fun i hi => ?_⟩
    · rw [getD_at h2] at h3; simpa using h3
    · have := h4 i hi
      rw [getD_at (by omega)] at this
      simpa using this
/-- What a walk has, in the midst of some kids. -/
structure Mid (g : List PNode) (f : Nat) (p0 : List Int × List Int) (l : List Int) (j : Nat) (p : List Int × List Int) (c : Nat) : Prop where
  eq : p = (l.take j).foldl (fun p k => cod g f k p) p0
  met : MetOk g p.2
  fuel : j < l.length → g.length + 1 ≤ f + p.2.length
  room : p.1.length + 3 * restN g p.2 + 3 * (l.length - j + c) ≤ 500000000000
theorem Mid.next {g : List PNode} (hk : Kids g) (hL : IntLeaf g) {f : Nat} {p0 : List Int × List Int} {l : List Int} {j : Nat} {p : List Int × List Int} {c : Nat} (h : Mid g f p0 l j p c) (hl : InR g l) (hj : j < l.length) : Mid g f p0 l (j + 1) (cod g f (l.getD j 0) p) c := by
  have hr := hl _ (getDm hj)
  have h2 := h.room
  have h3 := h.fuel hj
  have h1 := cod_ok hk hL f (l.getD j 0) p (l.length - (j + 1) + c) hr.1 hr.2 h.met h3 (by omega)
  refine ⟨?_, h1.1, fun _ => by omega, h1.2.2⟩
  rw [foldl_take_succ hj, ← h.eq, rdx_eq, Int.toNat_natCast]
theorem Mid.end {g : List PNode} {f : Nat} {p0 : List Int × List Int} {l : List Int} {j : Nat} {p : List Int × List Int} {c : Nat} (h : Mid g f p0 l j p c) (hj : l.length ≤ j) : p = l.foldl (fun p k => cod g f k p) p0 := by
  rw [h.eq, List.take_of_length_le hj]
/-- A node that was not met. -/
theorem cod_new {g : List PNode} (hL : IntLeaf g) {f : Nat} {i : Int} {o m : List Int} (h0 : 0 ≤ i) (h1 : i < (g.length : Int)) (hm : MetOk g m) (hf : g.length + 1 ≤ f + 1 + m.length) (hr : o.length + 3 * restN g m + 3 ≤ 500000000000) (hq : idx m i = none) {m1 : List Int} (hm1 : m1 = if (nd g i).1 ≠ 0 then m ++ [i] else m) :
    cod g (f + 1) i (o, m) = (kd g i).foldl (fun p k => cod g f k p) (o ++ [(nd g i).1, (nd g i).2.1, len (nd g i).2.2], m1) ∧
    Mid g f (o ++ [(nd g i).1, (nd g i).2.1, len (nd g i).2.2], m1) (kd g i) 0 (o ++ [(nd g i).1, (nd g i).2.1, len (nd g i).2.2], m1) 0 := by
  have hni := idx_none.1 hq
  constructor
  · conv => lhs; unfold cod
    simp only [hq]
    rw [← hm1]; rfl
  · by_cases hz : (nd g i).1 = 0
    · rw [if_neg (by simpa using hz)] at hm1
      subst hm1
      have hnil : kd g i = [] := hL _ (nd_mem h0 h1) hz
      exact ⟨rfl, hm, fun h => absurd h (by simp [hnil]), by simp only [List.length_append, List.length_cons, List.length_nil, hnil]; omega⟩
    · rw [if_pos hz] at hm1
      subst hm1
      have hs := restN_snoc h0 h1 hni
      exact ⟨rfl, hm.snoc h0 h1 hni, fun _ => by simp only [List.length_append, List.length_cons, List.length_nil]; omega, by simp only [List.length_append, List.length_cons, List.length_nil]; omega⟩
theorem cod_old {g : List PNode} {f : Nat} {i : Int} {o m : List Int} {n : Nat} (hq : idx m i = some n) : cod g (f + 1) i (o, m) = (o ++ [-1, (n : Int)], m) := by
  conv => lhs; unfold cod
  simp only [hq]
theorem s_code_tot {g : List PNode} {root : Int} (hk : Kids g) (hL : IntLeaf g) (hg : g.length ≤ 1000000) (hl : ∀ n ∈ g, n.2.2.length ≤ 400000000) : ∀ (f : Nat) (i : Int) (o m : List Int), 0 ≤ i → i < (g.length : Int) → MetOk g m → g.length + 1 ≤ f + m.length → o.length + 3 * restN g m + 3 ≤ 500000000000 →
    Tot (fun σ => F_s_code (σ 0) g root i o m) (fun r => r = (((cod g f i (o, m)).1, (cod g f i (o, m)).2, ()), ())) := by
  intro f
  induction f with
  | zero => intro i o m _ _ hm hf; have := hm.len; omega
  | succ f ihf =>
    intro i o m h0 h1 hm hf hr
    have hml := hm.len
    have hmi := nd_mem h0 h1
    refine tot_s_code ?_
    unfold B_s_code
    simp only [tot_chk, inb_iff]
    refine ⟨⟨h0, h1⟩, (placeIn_tot (by omega) i).bind ?_⟩
    rintro _ ⟨v, rfl, hv⟩
    have hx : rdx ((0 : Int), ((0 : Int), ([] : List Int))) g i = nd g i := rfl
    simp only [tot_cond, decide_eq_true_eq, decide_eq_false_iff_not, hx]
    rcases idx_of_place hv with ⟨v0, hq⟩ | ⟨n, v0, hq⟩
    · refine ⟨fun h => absurd h (by omega), fun _ => (copyInts_tot' (by omega)).bind ?_⟩
      rintro _ rfl
      have hni := idx_none.1 hq
      -- the kids
      have kids : ∀ m1 : List Int, (m1 = if (nd g i).1 ≠ 0 then m ++ [i] else m) → Tot (fun σ => B_s_code_J0 (σ 0) (F_Z59 (σ 0)) (F_Z44 (σ 0)) (F_s_code (σ 0)) (o ++ [(nd g i).1, (nd g i).2.1, len (nd g i).2.2]) m1 g root (nd g i).1 (nd g i).2.1 (nd g i).2.2) (fun r => r = (((cod g (f + 1) i (o, m)).1, (cod g (f + 1) i (o, m)).2, ()), ())) := by
        intro m1 hm1
        obtain ⟨e0, st⟩ := cod_new (f := f) hL h0 h1 hm hf hr hq hm1
        unfold B_s_code_J0
        rw [e0]
        generalize hp0 : (o ++ [(nd g i).1, (nd g i).2.1, len (nd g i).2.2], m1) = p0 at st ⊢
        have hp1 : o ++ [(nd g i).1, (nd g i).2.1, len (nd g i).2.2] = p0.1 := by rw [← hp0]
        have hp2 : m1 = p0.2 := by rw [← hp0]
        rw [hp1, hp2]
        have key := loop_s_code_L1 (Q := fun _ _ _ _ _ _ _ _ r => r = ((((kd g i).foldl (fun p k => cod g f k p) p0).1, ((kd g i).foldl (fun p k => cod g f k p) p0).2, ()), ()))
          (I := fun o1 m1 g' r' a b ks q => g' = g ∧ r' = root ∧ ks = kd g i ∧ ∃ j : Nat, q = j ∧ j ≤ (kd g i).length ∧ Mid g f p0 (kd g i) j (o1, m1) 0) (μ := fun _ _ _ _ _ _ _ q => (kd g i).length - q.toNat) ?_
        · exact key p0.1 p0.2 g root _ _ _ 0 ⟨rfl, rfl, rfl, 0, rfl, by omega, st⟩
        intro o1 m1 g' r' a b ks q ⟨e1, e2, e3, j, e4, hj, mid⟩ again hag ih
        subst e1 e2 e3 e4
        unfold B_s_code_L1b
        simp only [tot_cond, tot_chk, tot_some, decide_eq_true_eq, decide_eq_false_iff_not, inb_iff, len, rdx_eq, Int.toNat_natCast]
        have hl6 : (kd g' i).length ≤ 400000000 := hl _ hmi
        refine ⟨fun hlt => ⟨⟨by omega, hlt⟩, ?_⟩, fun hge => by rw [← mid.end (by omega)]⟩
        have hj' : j < (kd g' i).length := by omega
        have hr1 := hk _ hmi _ (getDm hj')
        have hroom := mid.room
        simp only [] at hroom
        refine (ihf _ o1 m1 hr1.1 hr1.2 mid.met (mid.fuel hj') (by omega)).bind ?_
        rintro _ rfl
        rw [w64_succ (by omega) (by omega)]
        exact ih _ _ _ _ _ _ _ _ ⟨rfl, rfl, rfl, j + 1, rfl, by omega, mid.next hk hL (hk _ hmi) hj'⟩ (by simp; omega)
      simp only [tot_cond, tot_chk, tot_jn, room_iff, List.length_cons, List.length_nil, bne_iff_ne, ne_eq, bne_eq_false_iff_eq]
      refine ⟨by omega, fun hz => (copyInts_tot' (by omega)).bind ?_, fun hz => kids m (by rw [if_neg (by simpa using hz)])⟩
      rintro _ rfl
      simp only [tot_chk, tot_jn, room_iff, List.length_cons, List.length_nil]
      exact ⟨by omega, kids _ (by rw [if_pos hz])⟩
    · refine ⟨fun _ => (copyInts_tot' (by omega)).bind ?_, fun h => absurd h (by omega)⟩
      rintro _ rfl
      simp only [tot_chk, tot_some, room_iff, List.length_cons, List.length_nil]
      refine ⟨by omega, ?_⟩
      rw [cod_old hq, v0]
/-- What a map of numbers says. -/
structure Num (t : List (Int × Int)) (met : List Int) : Prop where
  len : t.length = met.length
  find : ∀ x, mfind t x = (idx met x).map fun n => (n : Int)
theorem mput_len {t : List (Int × Int)} {z x : Int} (h : mfind t z = none) : (mput t z x).length = t.length + 1 := by
  induction t with
  | nil => rfl
  | cons p t ih =>
    obtain ⟨k, v⟩ := p
    by_cases e : (k == z) = true
    · simp only [mfind, e, cond_true] at h; cases h
    · have e' : (k == z) = false := by simpa using e
      simp only [mfind, e', cond_false] at h
      simp only [mput, e', cond_false, List.length_cons, ih h]
theorem Num.put {t : List (Int × Int)} {met : List Int} (h : Num t met) {z : Int} (hz : z ∉ met) : Num (mput t z (t.length : Int)) (met ++ [z]) := by
  refine ⟨by rw [mput_len (by rw [h.find, idx_none.2 hz]; rfl), h.len]; simp, fun x => ?_⟩
  rw [mfind_mput, idx_append hz, h.len]
  by_cases e : x = z
  · rw [if_pos e, if_pos e]; rfl
  · rw [if_neg e, if_neg e, h.find]
theorem i_code_tot {g : List PNode} (hk : Kids g) (hL : IntLeaf g) (hg : g.length ≤ 1000000) (hl : ∀ n ∈ g, n.2.2.length ≤ 400000000) : ∀ (f : Nat) (i : Int) (t : List (Int × Int)) (o m : List Int), 0 ≤ i → i < (g.length : Int) → MetOk g m → Num t m → g.length + 1 ≤ f + m.length → o.length + 3 * restN g m + 3 ≤ 500000000000 →
    Tot (fun σ => F_Z33 (σ 0) i t o g) (fun r => ∃ t2, r = ((), ((t2, ()), ((cod g f i (o, m)).1, ()), (g, ()), ((), ()), ())) ∧ Num t2 (cod g f i (o, m)).2) := by
  intro f
  induction f with
  | zero => intro i t o m _ _ hm _ hf; have := hm.len; omega
  | succ f ihf =>
    intro i t o m h0 h1 hm hn hf hr
    have hml := hm.len
    have hmi := nd_mem h0 h1
    refine tot_Z33 ?_
    unfold B_Z33
    have hx : rdx ((0 : Int), ((0 : Int), ([] : List Int))) g i = nd g i := rfl
    simp only [tot_cond, tot_chk, tot_jn, tot_some, inb_iff, room_iff, List.length_cons, List.length_nil, bne_iff_ne, ne_eq, bne_eq_false_iff_eq, hx, hn.find]
    cases hq : idx m i with
    | some n =>
      refine ⟨fun _ => ⟨by omega, t, ?_, ?_⟩, fun h => absurd h (by simp)⟩
      · rw [cod_old hq]; rfl
      · rw [cod_old hq]; exact hn
    | none =>
      have hni := idx_none.1 hq
      have kids : ∀ (t1 : List (Int × Int)) (m1 : List Int), (m1 = if (nd g i).1 ≠ 0 then m ++ [i] else m) → Num t1 m1 → Tot (fun σ => B_Z33_J0 (σ 0) (F_Z33 (σ 0)) t1 o g (nd g i).1 (nd g i).2.1 (nd g i).2.2) (fun r => ∃ t2, r = ((), ((t2, ()), ((cod g (f + 1) i (o, m)).1, ()), (g, ()), ((), ()), ())) ∧ Num t2 (cod g (f + 1) i (o, m)).2) := by
        intro t1 m1 hm1 hn1
        obtain ⟨e0, st⟩ := cod_new (f := f) hL h0 h1 hm hf hr hq hm1
        unfold B_Z33_J0
        rw [e0]
        simp only [tot_chk, room_iff, List.length_cons, List.length_nil]
        refine ⟨by omega, ?_⟩
        generalize hp0 : (o ++ [(nd g i).1, (nd g i).2.1, len (nd g i).2.2], m1) = p0 at st ⊢
        have hp1 : o ++ [(nd g i).1, (nd g i).2.1, len (nd g i).2.2] = p0.1 := by rw [← hp0]
        have hp2 : m1 = p0.2 := by rw [← hp0]
        rw [hp1]
        have key := loop_Z33_L1 (Q := fun _ _ _ _ _ _ r => ∃ t2, r = ((), ((t2, ()), (((kd g i).foldl (fun p k => cod g f k p) p0).1, ()), (g, ()), ((), ()), ())) ∧ Num t2 ((kd g i).foldl (fun p k => cod g f k p) p0).2)
          (I := fun t1 o1 g' ks n q => g' = g ∧ ks = kd g i ∧ n = ((kd g i).length : Int) ∧ ∃ (j : Nat) (m1 : List Int), q = j ∧ j ≤ (kd g i).length ∧ Num t1 m1 ∧ Mid g f p0 (kd g i) j (o1, m1) 0) (μ := fun _ _ _ _ _ q => (kd g i).length - q.toNat) ?_
        · exact key t1 p0.1 g _ _ 0 ⟨rfl, rfl, rfl, 0, p0.2, rfl, by omega, by rw [hp2] at hn1; exact hn1, st⟩
        intro t1 o1 g' ks n q ⟨e1, e2, e3, j, m1, e4, hj, hn1, mid⟩ again hag ih
        subst e1 e2 e3 e4
        unfold B_Z33_L1b
        simp only [tot_cond, tot_chk, tot_some, decide_eq_true_eq, decide_eq_false_iff_not, inb_iff, rdx_eq, Int.toNat_natCast]
        have hl6 : (kd g' i).length ≤ 400000000 := hl _ hmi
        refine ⟨fun hlt => ⟨⟨by omega, hlt⟩, ?_⟩, fun hge => ⟨t1, by rw [← mid.end (by omega)], by rw [← mid.end (by omega)]; exact hn1⟩⟩
        have hj' : j < (kd g' i).length := by omega
        have hr1 := hk _ hmi _ (getDm hj')
        have hroom := mid.room
        simp only [] at hroom
        refine (ihf _ t1 o1 m1 hr1.1 hr1.2 mid.met hn1 (mid.fuel hj') (by omega)).bind ?_
        rintro _ ⟨t2, rfl, hn2⟩
        rw [w64_succ (by omega) (by omega)]
        exact ih _ _ _ _ _ _ ⟨rfl, rfl, rfl, j + 1, _, rfl, by omega, hn2, mid.next hk hL (hk _ hmi) hj'⟩ (by simp; omega)
      refine ⟨fun h => absurd h (by simp), fun _ => ⟨⟨h0, h1⟩, fun hz => kids _ _ (by rw [if_pos hz]) (hn.put hni), fun hz => kids t m (by rw [if_neg (by simpa using hz)]) hn⟩⟩
/-- The code of some roots, one after the other. -/
def codsP (g : List PNode) (roots : List Int) : List Int := (roots.foldl (fun p k => cod g (g.length + 1) k p) ([], [])).1
/-- A graph that is small enough for its code. -/
structure CodG (g : List PNode) : Prop where
  kids : Kids g
  leaf : IntLeaf g
  len : g.length ≤ 1000000
  each : ∀ n ∈ g, n.2.2.length ≤ 400000000
  all : restN g [] ≤ 100000000000
theorem codsP_start {g : List PNode} (h : CodG g) {roots : List Int} (hr : roots.length ≤ 1000000) : Mid g (g.length + 1) ([], []) roots 0 ([], []) 0 := by
  have := h.all
  exact ⟨rfl, .nil, fun _ => by simp, by simp only [List.length_nil]; omega⟩
theorem i_codesOf_tot {g : List PNode} (h : CodG g) {roots : List Int} (hr : InR g roots) (hrl : roots.length ≤ 1000000) : Tot (fun σ => F_Z56 (σ 0) g roots) (fun r => r = ((codsP g roots, ()), ())) := by
  refine tot_Z56 ?_
  unfold B_Z56
  have key := loop_Z56_L0 (Q := fun _ _ _ _ _ _ r => r = ((codsP g roots, ()), ())) (I := fun g' o t l n q => g' = g ∧ l = roots ∧ n = (roots.length : Int) ∧ ∃ (j : Nat) (m : List Int), q = j ∧ j ≤ roots.length ∧ Num t m ∧ Mid g (g.length + 1) ([], []) roots j (o, m) 0) (μ := fun _ _ _ _ _ q => roots.length - q.toNat) ?_
  · exact key g [] [] _ _ 0 ⟨rfl, rfl, rfl, 0, [], rfl, by omega, ⟨rfl, fun x => rfl⟩, codsP_start h hrl⟩
  intro g' o t l n q ⟨e1, e2, e3, j, m, e4, hj, hn, mid⟩ again hag ih
  subst e1 e2 e3 e4
  unfold B_Z56_L0b
  simp only [tot_cond, tot_chk, tot_some, decide_eq_true_eq, decide_eq_false_iff_not, inb_iff, rdx_eq, Int.toNat_natCast]
  refine ⟨fun hlt => ⟨⟨by omega, hlt⟩, ?_⟩, fun hge => ?_⟩
  · have hj' : j < l.length := by omega
    have hr1 := hr _ (getDm hj')
    have hroom := mid.room
    simp only [] at hroom
    refine (i_code_tot h.kids h.leaf h.len h.each (g'.length + 1) _ t o m hr1.1 hr1.2 mid.met hn (mid.fuel hj') (by omega)).bind ?_
    rintro _ ⟨t2, rfl, hn2⟩
    rw [w64_succ (by omega) (by omega)]
    exact ih _ _ _ _ _ _ ⟨rfl, rfl, rfl, j + 1, _, rfl, by omega, hn2, mid.next h.kids h.leaf hr hj'⟩ (by simp; omega)
  · unfold codsP
    rw [← mid.end (by omega)]
theorem s_codeMany_tot {g : List PNode} {root : Int} (h : CodG g) {roots : List Int} (hr : InR g roots) (hrl : roots.length ≤ 1000000) : Tot (fun σ => F_Z49 (σ 0) g root roots) (fun r => r = ((codsP g roots, ()), ())) := by
  refine tot_Z49 ?_
  unfold B_Z49
  have key := loop_Z49_L0 (Q := fun _ _ _ _ _ _ r => r = ((codsP g roots, ()), ())) (I := fun l g' r' o m q => l = roots ∧ g' = g ∧ r' = root ∧ ∃ j : Nat, q = j ∧ j ≤ roots.length ∧ Mid g (g.length + 1) ([], []) roots j (o, m) 0) (μ := fun _ _ _ _ _ q => roots.length - q.toNat) ?_
  · exact key roots g root [] [] 0 ⟨rfl, rfl, rfl, 0, rfl, by omega, codsP_start h hrl⟩
  intro l g' r' o m q ⟨e1, e2, e3, j, e4, hj, mid⟩ again hag ih
  subst e1 e2 e3 e4
  unfold B_Z49_L0b
  simp only [tot_cond, tot_chk, tot_some, decide_eq_true_eq, decide_eq_false_iff_not, inb_iff, len, rdx_eq, Int.toNat_natCast]
  refine ⟨fun hlt => ⟨⟨by omega, hlt⟩, ?_⟩, fun hge => ?_⟩
  · have hj' : j < l.length := by omega
    have hr1 := hr _ (getDm hj')
    have hroom := mid.room
    simp only [] at hroom
    refine (s_code_tot h.kids h.leaf h.len h.each (g'.length + 1) _ o m hr1.1 hr1.2 mid.met (mid.fuel hj') (by omega)).bind ?_
    rintro _ rfl
    rw [w64_succ (by omega) (by omega)]
    exact ih _ _ _ _ _ _ ⟨rfl, rfl, rfl, j + 1, rfl, by omega, mid.next h.kids h.leaf hr hj'⟩ (by simp; omega)
  · unfold codsP
    rw [← mid.end (by omega)]
end Go.Gx

/-
  Laws, part MK1: machines build graphs that have codes.
-/
set_option linter.unusedVariables false
set_option linter.unusedSimpArgs false
namespace Go.Gx
theorem setK_leaf {N : List PNode} {i : Nat} {ks : List Int} (h : IntLeaf N) (hk : (N.getD i d0).1 ≠ 0) : IntLeaf (setK N i ks) := fun n hn h0 => by
  unfold setK at hn
  rcases List.mem_or_eq_of_mem_set hn with h1 | rfl
  · exact h n h1 h0
  · exact absurd h0 hk
theorem putsP_leaf : ∀ (l : List Int) {N : List PNode} {d : Int}, IntLeaf N → (N.getD d.toNat d0).1 ≠ 0 → IntLeaf (putsP N d l)
  | [], _, _, h, _ => h
  | [_], _, _, h, _ => h
  | k :: v :: r, N, d, h, hk => by
    rw [putsP]
    refine putsP_leaf r (setK_leaf h hk) ?_
    unfold putItemP
    rw [kind_eq (setK_kinds _ _ _)]
    exact hk
theorem leaf_new {N : List PNode} {n : PNode} (h : IntLeaf N) (hn : n.1 = 0 → n.2.2 = []) : IntLeaf (N ++ [n]) := fun x hx h0 => by
  rcases List.mem_append.1 hx with h1 | h1
  · exact h x h1 h0
  · have : x = n := by simpa using h1
    subst this; exact hn h0
theorem nodesP_leaf {m : Mc} {L : Nat} (h : MI m L) (hl : IntLeaf m.N) {c a : Int} (hcc : 0 ≤ c ∧ c ≤ 19) {s : Sh} (hr : stepRaw m.sh c a = some s) : IntLeaf (nodesP m c a) := by
  have hD : ¬ m.D = true := fun hd => by rw [raw_none hd] at hr; cases hr
  rcases code_cases hcc with h1 | h1 | h1 | h1 | h1
  · have e : nodesP m c a = m.N ++ [(newKindP c, ((if c = 0 ∨ c = 1 ∨ c = 13 then a else 0), []))] := by
      unfold nodesP; rw [if_pos (show 0 ≤ newKindP c by rcases h1 with rfl | rfl | rfl | rfl | rfl | rfl <;> decide)]
    rw [e]
    exact leaf_new hl fun _ => rfl
  · subst h1; exact hl
  · subst h1; exact hl
  · rw [raw_mark hD h1, markP_eq] at hr
    cases hi : markAt m.S m.S.length with
    | none => rw [hi] at hr; cases hr
    | some i =>
      rw [hi] at hr
      have hmk : mkAt m.S = i := by unfold mkAt; rw [hi]; rfl
      rcases h1 with rfl | rfl | rfl | rfl
      · have e : nodesP m 3 a = m.N ++ [(2, (0, m.S.drop (i + 1)))] := by simp only [nodesP, hmk]; rfl
        rw [e]
        exact leaf_new hl fun h0 => absurd (show (2 : Int) = 0 from h0) (by decide)
      · have e : nodesP m 9 a = setK m.N (topN (m.S.take i) 0).toNat (kidsAt m.N (topN (m.S.take i) 0) ++ m.S.drop (i + 1)) := by simp only [nodesP, hmk]; rfl
        simp only [Int.reduceEq, if_false, if_true] at hr
        split at hr
        · rename_i hk
          obtain ⟨_, _, hk3⟩ := kindP hk (by decide)
          rw [e]
          exact setK_leaf hl (by rw [hk3]; decide)
        · cases hr
      · have e : nodesP m 12 a = putsP m.N (topN (m.S.take i) 0) (m.S.drop (i + 1)) := by simp only [nodesP, hmk]; rfl
        simp only [Int.reduceEq, if_false, if_true] at hr
        split at hr
        · rename_i hk
          obtain ⟨_, _, hk3⟩ := kindP hk.1 (by decide)
          rw [e]
          exact putsP_leaf _ hl (by rw [hk3]; decide)
        · cases hr
      · exact hl
  · rw [raw_take hD h1, takeP_eq] at hr
    split at hr
    · cases hr
    rename_i h0
    rcases h1 with rfl | rfl | rfl | rfl | rfl | rfl | rfl | rfl
    · exact leaf_new hl fun h0 => absurd (show (2 : Int) = 0 from h0) (by decide)
    · exact leaf_new hl fun h0 => absurd (show (2 : Int) = 0 from h0) (by decide)
    · simp only [Int.reduceEq, if_false, if_true] at hr
      split at hr
      · rename_i hk
        obtain ⟨_, _, hk3⟩ := kindP hk (by decide)
        exact setK_leaf hl (by rw [hk3]; decide)
      · cases hr
    · simp only [Int.reduceEq, if_false, if_true] at hr
      split at hr
      · rename_i hk
        obtain ⟨_, _, hk3⟩ := kindP hk.2 (by decide)
        exact setK_leaf hl (by rw [hk3]; decide)
      · cases hr
    · simp only [Int.reduceEq, if_false, if_true] at hr
      split at hr
      · rename_i hk
        obtain ⟨_, _, hk5⟩ := kindP hk.1 (by decide)
        exact setK_leaf hl (by rw [hk5]; decide)
      · cases hr
    · exact hl
    · exact hl
    · exact hl
theorem stepM_nodes {m m' : Mc} {c a : Int} (h : stepM m c a = some m') : m'.N = nodesP m c a := by
  unfold stepM at h
  rw [Option.map_eq_some_iff] at h
  obtain ⟨s, _, rfl⟩ := h
  rfl
theorem stepM_leaf {m m' : Mc} {L : Nat} (h : MI m L) (hl : IntLeaf m.N) {c a : Int} (hc : okOp (c, a) = true) (hs : stepM m c a = some m') : IntLeaf m'.N := by
  have hcc : 0 ≤ c ∧ c ≤ 19 := by simp only [okOp, decide_eq_true_eq] at hc; omega
  rw [stepM_nodes hs]
  exact nodesP_leaf h hl hcc (stepP_raw (stepM_sh hs)).1
theorem nodesP_grow (m : Mc) (c a : Int) : m.N.length ≤ (nodesP m c a).length := by
  unfold nodesP
  split
  · simp
  split
  · simp
  split
  · simp
  split
  · simp
  split
  · simp [setK_len]
  split
  · simp [setK_len]
  split
  · simp [putItemP_len]
  split
  · simp [putsP_len]
  split
  · simp [setK_len]
  · exact Nat.le_refl _
theorem runM_leaf : ∀ (ops : List POp) (m : Mc) (n L : Nat), MI m L → m.N.length ≤ 300 → m.S.length ≤ 300 → ops.all okOp = true → IntLeaf m.N → IntLeaf (runM m ops n).1.N
  | [], m, n, L, _, _, _, _, h => h
  | o :: r, m, n, L, hI, h1, h2, ho, h => by
    simp only [List.all_cons, Bool.and_eq_true] at ho
    cases hs : stepM m o.1 o.2 with
    | none => simp only [runM, hs]; exact h
    | some m' =>
      simp only [runM, hs]
      obtain ⟨i1, i2, i3⟩ := hI.step (by omega) (by omega) ho.1 hs
      exact runM_leaf r m' (n + 1) _ i1 i2 i3 ho.2 (stepM_leaf hI h ho.1 hs)
theorem codG_of {N : List PNode} {L : Nat} (h : NI N N.length L) (hl : IntLeaf N) (hn : N.length ≤ 300) (hL : L ≤ 300000600) : CodG N := by
  refine ⟨h.rg, hl, by omega, fun n hn => by have := h.ln n hn; omega, ?_⟩
  have h1 := restN_le (met := []) h.ln
  have h2 : N.length * L ≤ 300 * 300000600 := Nat.mul_le_mul hn hL
  omega
theorem rM_cod {ops : List POp} (h : okOps ops = true) : CodG (rM ops).N := by
  have h2 := okOps_all h
  obtain ⟨i1, i2, _⟩ := rM_inv h
  exact codG_of i1.ni (runM_leaf ops newMc 0 0 newMc_inv (by simp [newMc]) (by simp [newMc]) h2.1 (fun n hn => by simp [newMc] at hn)) i2 (by have := h2.2; omega)
/-- The root of a whole program. -/
theorem rM_root {ops : List POp} (h : wholeM ops = true) : 0 ≤ (rM ops).S.getD 0 0 ∧ (rM ops).S.getD 0 0 < ((rM ops).N.length : Int) := by
  unfold wholeM at h
  simp only [Bool.and_eq_true, decide_eq_true_eq] at h
  have hd := rM_D h.2
  have hm : (rM ops).S.getD 0 0 ∈ (rM ops).S := getDm (by omega)
  exact ⟨hd.2 _ hm, ((rM_inv h.1.1).1.st _ hm).2⟩
/-- What was read, and the roots. -/
structure AccK (acc : Rd) (L : Nat) : Prop where
  ni : NI acc.N acc.N.length L
  leaf : IntLeaf acc.N
  nl : acc.N.length ≤ 300
  rr : ∀ r ∈ acc.rs, 0 ≤ r ∧ r < (acc.N.length : Int)
theorem AccK.mono {acc : Rd} {L L' : Nat} (h : AccK acc L) (hL : L ≤ L') : AccK acc L' := ⟨h.ni.mono (Nat.le_refl _) hL, h.leaf, h.nl, h.rr⟩
theorem manyR_K : ∀ (ops : List POp) (m : Mc) (j L : Nat) (acc : Rd), MI m L → IntLeaf m.N → acc.N.length ≤ m.N.length → m.N.length ≤ 300 → m.S.length ≤ 300 → ops.all okOp = true → AccK acc L → AccK (manyR m ops j acc) (L + 1000002 * ops.length)
  | [], m, j, L, acc, _, _, _, _, _, _, ha => ha.mono (by simp)
  | o :: r, m, j, L, acc, hI, hl, hg, hN, hS, hok, ha => by
    simp only [List.all_cons, Bool.and_eq_true] at hok
    unfold manyR
    cases hs : stepM m o.1 o.2 with
    | none => exact ha.mono (by omega)
    | some m' =>
      obtain ⟨i1, i2, i3⟩ := hI.step (by omega) (by omega) hok.1 hs
      have l1 := stepM_leaf hI hl hok.1 hs
      have g1 : m.N.length ≤ m'.N.length := by rw [stepM_nodes hs]; exact nodesP_grow _ _ _
      simp only [List.length_cons]
      split
      · rename_i hd
        have hD := (stepM_D hs).2 hd
        have hm : m'.S.getD 0 0 ∈ m'.S := getDm (by omega)
        have := manyR_K r ⟨m'.N, [], m'.M, false⟩ (j + 1) (L + 1000002) ⟨m'.N, acc.rs ++ [m'.S.getD 0 0], j + 1⟩ i1.fresh l1 (Nat.le_refl _) i2 (by simp) hok.2
          ⟨i1.ni, l1, i2, fun x hx => by
            rcases List.mem_append.1 hx with h | h
            · have := ha.rr x h; simp only []; omega
            · have : x = m'.S.getD 0 0 := by simpa using h
              subst this
              exact ⟨hD.2.2 _ hm, (i1.st _ hm).2⟩⟩
        exact this.mono (by omega)
      · exact (manyR_K r m' (j + 1) (L + 1000002) acc i1 l1 (by omega) i2 i3 hok.2 (ha.mono (by omega))).mono (by omega)
theorem readP_K {ops : List POp} (h : okOps ops = true) : CodG (readP ops).N ∧ InR (readP ops).N (readP ops).rs := by
  have h2 := okOps_all h
  have := manyR_K ops newMc 0 0 rd0 newMc_inv (fun n hn => by simp [newMc] at hn) (by simp [rd0]) (by simp [newMc]) (by simp [newMc]) h2.1 ⟨⟨fun n hn => by simp [rd0] at hn, fun n hn => by simp [rd0] at hn, fun n hn => by simp [rd0] at hn, fun n hn => by simp [rd0] at hn⟩, fun n hn => by simp [rd0] at hn, by simp [rd0], fun r hr => by simp [rd0] at hr⟩
  exact ⟨codG_of this.ni this.leaf this.nl (by have := h2.2; omega), this.rr⟩
end Go.Gx

/-
  Laws: lists of numbers are compared.
-/
set_option linter.unusedVariables false
set_option linter.unusedSimpArgs false
namespace Go.Gx
theorem equalInts_tot {a b : List Int} (ha : a.length ≤ 900000000000) : Tot (fun σ => F_Z36 (σ 0) a b) (Says (a = b)) := by
  refine tot_Z36 ?_
  unfold B_Z36
  simp only [tot_cond, tot_some, len, bne_iff_ne, ne_eq, bne_eq_false_iff_eq]
  refine ⟨fun h => says_false fun e => h (by rw [e]), fun h => ?_⟩
  have hl : a.length = b.length := by omega
  have key := loop_Z36_L0 (Q := fun _ _ _ r => Says (a = b) r) (I := fun x y i => x = a ∧ y = b ∧ ∃ j : Nat, i = j ∧ j ≤ a.length ∧ ∀ q, q < j → a.getD q 0 = b.getD q 0) (μ := fun _ _ i => (a.length - i).toNat) ?_
  · exact key a b 0 ⟨rfl, rfl, 0, rfl, by omega, fun q hq => by omega⟩
  intro x y i ⟨e1, e2, j, e3, hj, hq⟩ again hag ih
  subst e1 e2 e3
  unfold B_Z36_L0b
  simp only [tot_cond, tot_chk, tot_some, decide_eq_true_eq, decide_eq_false_iff_not, len, inb_iff, bne_iff_ne, ne_eq, bne_eq_false_iff_eq]
  simp only [rdx_eq, Int.toNat_natCast]
  refine ⟨fun hlt => ⟨by omega, by omega, fun hne => says_false fun e => hne (by rw [e]), fun he => ?_⟩, fun hge => says_true (ext_getD hl fun i hi => hq i (by omega))⟩
  rw [w64_succ (by omega) (by omega)]
  refine ih _ _ _ ⟨rfl, rfl, j + 1, rfl, by omega, fun q h => ?_⟩ (by simp; omega)
  by_cases e : q = j
  · subst e; exact he
  · exact hq q (by omega)
end Go.Gx

/-
  Laws, part BC: the code of what is built, by the program.
-/
set_option linter.unusedVariables false
set_option linter.unusedSimpArgs false
namespace Go.Gx
/-- The code of what is built. -/
def builtA (ops : List POp) : List Int × Bool := if wholeM ops = true then (codsP (rM ops).N [(rM ops).S.getD 0 0], true) else ([], false)
theorem i_BuiltCode_tot {ops : List POp} (hl : ops.length ≤ 900000000000) : Tot (fun σ => F_Z42 (σ 0) ops) (fun r => r = (((builtA ops).1, (builtA ops).2, ()), ())) := by
  refine tot_Z42 ?_
  unfold B_Z42 builtA
  refine (i_BuildGraph_tot hl).bind ?_
  rintro _ rfl
  unfold graphA
  by_cases hw : wholeM ops = true
  · simp only [if_pos hw, tot_cond, tot_some, Bool.not_true]
    refine ⟨fun h0 => absurd h0 (by decide), fun _ => ?_⟩
    have hok : okOps ops = true := by unfold wholeM at hw; simp only [Bool.and_eq_true] at hw; exact hw.1.1
    have hr := rM_root hw
    refine (i_codesOf_tot (rM_cod hok) (fun x hx => by rw [List.mem_singleton] at hx; subst hx; exact hr) (by simp)).bind ?_
    rintro _ rfl
    rw [tot_some]
  · simp only [if_neg hw, tot_cond, tot_some, Bool.not_false]
    exact ⟨fun _ => trivial, fun h0 => absurd h0 (by decide)⟩
theorem codsP_small {g : List PNode} (h : CodG g) {roots : List Int} (hr : InR g roots) (hrl : roots.length ≤ 1000000) : (codsP g roots).length ≤ 500000000000 := by
  have key : ∀ (l : List Int) (p : List Int × List Int), InR g l → MetOk g p.2 → g.length + 1 ≤ g.length + 1 + p.2.length → p.1.length + 3 * restN g p.2 + 3 * l.length ≤ 500000000000 → (l.foldl (fun p k => cod g (g.length + 1) k p) p).1.length ≤ 500000000000 := by
    intro l
    induction l with
    | nil => intro p _ _ _ h; simp only [List.foldl_nil]; omega
    | cons k l ih =>
      intro p hl hm hf h1
      have hk := hl k (by simp)
      simp only [List.length_cons] at h1
      have h2 := cod_ok h.kids h.leaf (g.length + 1) k p l.length hk.1 hk.2 hm hf (by omega)
      exact ih _ (fun x hx => hl x (by simp [hx])) h2.1 (by omega) h2.2.2
  have := h.all
  exact key roots ([], []) hr .nil (by simp) (by simp only [List.length_nil]; omega)
end Go.Gx

/-
  The plain law of FnReadCode.
-/
set_option linter.unusedVariables false
set_option linter.unusedSimpArgs false
namespace Go.Gx
/-- The code of what is read. -/
def codeA (ops : List POp) : List Int := if okOps ops = true then codsP (readP ops).N (readP ops).rs else []
theorem i_ReadCode_tot {ops : List POp} (hl : ops.length ≤ 900000000000) : Tot (fun σ => F_Z45 (σ 0) ops) (fun r => r = ((codeA ops, ()), ())) := by
  refine tot_Z45 ?_
  unfold B_Z45 codeA
  refine (i_ValidOps_tot hl).bind ?_
  rintro _ rfl
  simp only [tot_cond, tot_some, Bool.not_eq_true', Bool.not_eq_false']
  refine ⟨fun h => by rw [if_neg (by rw [h]; simp)], fun h => ?_⟩
  refine (i_ReadMany_tot hl).bind ?_
  rintro _ rfl
  have hk := readP_K h
  have hac := readP_acc h
  have h2 := (okOps_all h).2
  have hrl := hac.rl
  unfold readA
  rw [if_pos h, if_pos h]
  refine (i_codesOf_tot hk.1 hk.2 (by first | omega | (simp only []; omega))).bind ?_
  rintro _ rfl
  rw [tot_some]
theorem s_ReadCode_tot {ops : List POp} (hl : ops.length ≤ 900000000000) : Tot (fun σ => F_Z53 (σ 0) ops) (fun r => r = ((codeA ops, ()), ())) := by
  refine tot_Z53 ?_
  unfold B_Z53 codeA
  refine (validOps_tot hl).bind ?_
  rintro _ rfl
  simp only [tot_cond, tot_some, Bool.not_eq_true', Bool.not_eq_false']
  refine ⟨fun h => by rw [if_neg (by rw [h]; simp)], fun h => ?_⟩
  refine (s_many_tot h).bind ?_
  rintro _ ⟨m, rfl, hm, _⟩
  have hk := readP_K h
  have hac := readP_acc h
  have h2 := (okOps_all h).2
  have hrl := hac.rl
  rw [if_pos h, ← hm]
  rw [← hm] at hk
  refine (s_codeMany_tot hk.1 hk.2 (by omega)).bind ?_
  rintro _ rfl
  rw [tot_some]
theorem DrawReadCode_tot {code : List Int} (hc : ∀ z ∈ code, 0 ≤ z ∧ z ≤ 255) (hl : code.length ≤ 1048576) : Tot (fun σ => F_Z9 (σ 0) code) (fun r => ∃ ops : List POp, r = ((ops, ()), ()) ∧ ops.length ≤ 500000000000) := by
  refine tot_Z9 ?_
  unfold B_Z9
  refine (newReader_tot hc hl).bind ?_
  rintro _ ⟨b, rfl, hb⟩
  refine (manyOps_tot hb (by omega)).bind ?_
  rintro _ ⟨_, q, rfl, hq1, hq2, ops, rfl, hl⟩
  rw [tot_some]
  exact ⟨ops, rfl, hl⟩
theorem p_Z16 (code : List Int) (hc : ∀ z ∈ code, 0 ≤ z ∧ z ≤ 255) : ∃ k, F_Z16 k code = some ((true, ()), ()) := by
  refine Tot.ex (F := fun k => F_Z16 k code) ?_
  refine tot_Z16 ?_
  unfold B_Z16 B_Z16_J0
  simp only [tot_cond, tot_some, decide_eq_true_eq, decide_eq_false_iff_not, len]
  refine ⟨fun _ => trivial, fun hl => ?_⟩
  refine (DrawReadCode_tot hc (by omega)).bind ?_
  rintro _ ⟨ops, rfl, hll⟩
  refine (i_ReadCode_tot (by first | omega | (simp only []; omega))).bind ?_
  rintro _ rfl
  refine (s_ReadCode_tot (by first | omega | (simp only []; omega))).bind ?_
  rintro _ rfl
  have hsz : (codeA ops).length ≤ 900000000000 := by
    unfold codeA
    split
    · rename_i h
      have hk := readP_K h
      have hac := (readP_acc h).rl
      have h2 := (okOps_all h).2
      have := codsP_small hk.1 hk.2 (by omega)
      omega
    · simp
  have eq1 : Tot (fun σ => F_Z36 (σ 0) (codeA ops) (codeA ops)) (fun r => r = ((true, ()), ())) := (equalInts_tot hsz).mono fun x hx => by
    obtain ⟨b, rfl, hb⟩ := hx
    rw [hb.2 rfl]
  refine eq1.bind ?_
  rintro _ rfl
  simp only [tot_cond, tot_jn, Bool.not_true]
  refine ⟨fun h0 => absurd h0 (by decide), fun _ => (i_ValidOps_tot (by omega)).bind ?_⟩
  rintro _ rfl
  simp only [tot_cond, tot_jn, Bool.not_eq_true', Bool.not_eq_false']
  refine ⟨fun h => (s_ReadCode_tot (by omega)).bind ?_, fun hok => (i_BuiltCode_tot (by omega)).bind ?_⟩
  · rintro _ rfl
    refine eq1.bind ?_
    rintro _ rfl
    rw [tot_some]
  rintro _ rfl
  simp only [tot_cond, tot_some, Bool.not_eq_true', Bool.not_eq_false']
  refine ⟨fun _ => trivial, fun hb => ?_⟩
  have hw : wholeM ops = true := by
    by_cases hw : wholeM ops = true
    · exact hw
    · unfold builtA at hb; rw [if_neg hw] at hb; cases hb
  have e : (builtA ops).1 = codeA ops := by
    have hw' := hw
    unfold wholeM at hw'
    simp only [Bool.and_eq_true, decide_eq_true_eq] at hw'
    unfold builtA codeA
    rw [if_pos hw, if_pos hok, readP_whole hw'.1.2 hw'.2]
  rw [e]
  refine eq1.bind ?_
  rintro _ rfl
  rw [tot_some]
end Go.Gx

/-
  Plain laws about the printed functions.
-/
import Derived.Test.YtafomfpnbhnmfaaGreatXLpart1
import Derived.Test.YtafomfpnbhnmfaaGreatXGpart4
import Derived.Test.YtafomfpnbhnmfaaGreatXSh
import Derived.Sort.AssemblyPlain
set_option linter.unusedVariables false
set_option linter.unusedSimpArgs false
namespace Go.Gx
open Classical in
noncomputable def rk (g : List PNode) (i : Int) : Nat := ((List.range g.length).filter (fun (j : Nat) => decide (TReach g i (j : Int)))).length
theorem filter_lt {α : Type} {p q : α → Bool} : ∀ {l : List α}, (∀ x ∈ l, p x = true → q x = true) → (l.filter p).length ≤ (l.filter q).length
  | [], _ => by simp
  | x :: l, h => by
    have ih := filter_lt (p := p) (q := q) (l := l) (fun y hy => h y (List.mem_cons_of_mem _ hy))
    cases hp : p x with
    | true => simp [List.filter_cons, hp, h x (by simp) hp, ih]
    | false =>
      cases hq : q x with
      | true => simp [List.filter_cons, hp, hq]; omega
      | false => simp [List.filter_cons, hp, hq, ih]
theorem filter_lt' {α : Type} {p q : α → Bool} {a : α} : ∀ {l : List α}, (∀ x ∈ l, p x = true → q x = true) → a ∈ l → p a = false → q a = true → (l.filter p).length < (l.filter q).length
  | [], _, ha, _, _ => by simp at ha
  | x :: l, h, ha, hp, hq => by
    have h' := fun y hy => h y (List.mem_cons_of_mem x hy)
    rcases List.mem_cons.1 ha with rfl | ha
    · have := filter_lt (p := p) (q := q) (l := l) h'
      simp [List.filter_cons, hp, hq]
      omega
    · have ih := filter_lt' h' ha hp hq
      cases hpx : p x with
      | true => simp [List.filter_cons, hpx, h x (by simp) hpx, ih]
      | false =>
        cases hqx : q x with
        | true => simp [List.filter_cons, hpx, hqx]; omega
        | false => simp [List.filter_cons, hpx, hqx, ih]
theorem rk_le (g : List PNode) (i : Int) : rk g i ≤ g.length := by
  unfold rk
  refine Nat.le_trans (List.length_filter_le _ _) ?_
  simp
theorem reach_in {g : List PNode} (hk : Kidly g) {i x : Int} (hi : 0 ≤ i ∧ i < (g.length : Int)) (h : TReach g i x) : 0 ≤ x ∧ x < (g.length : Int) := by
  induction h with
  | kid hm => exact (hk _ (nd_mem hi.1 hi.2)).2 _ hm
  | step _ _ hm ih => exact (hk _ (nd_mem ih.1 ih.2)).2 _ hm
theorem rk_lt {g : List PNode} {root : Int} (hv : ValidG g root) {i k : Int} (hi : 0 ≤ i ∧ i < (g.length : Int)) (hm : k ∈ (nd g i).2.2) (h2 : (nd g k).1 = 2) : rk g k < rk g i := by
  have hk : Kidly g := fun n hn => (hv.node n hn).kidly
  have hki := reach_in hk hi (.kid hm)
  obtain ⟨m, rfl⟩ := Int.eq_ofNat_of_zero_le hki.1
  have up : ∀ x, TReach g (m : Int) x → TReach g i x := by
    intro x hx
    induction hx with
    | kid hk' => exact .step (.kid hm) h2 hk'
    | step _ h3 hk' ih => exact .step ih h3 hk'
  unfold rk
  refine filter_lt' (a := m) (fun x _ hx => ?_) (by simp; omega) ?_ ?_
  · simp only [decide_eq_true_eq] at hx ⊢
    exact up _ hx
  · simp only [decide_eq_false_iff_not]
    exact hv.tup m (by omega) h2
  · simp only [decide_eq_true_eq]
    exact .kid hm
theorem rk_pos {g : List PNode} {root : Int} (hv : ValidG g root) {i k : Int} (hi : 0 ≤ i ∧ i < (g.length : Int)) (hm : k ∈ (nd g i).2.2) : 0 < rk g i := by
  have hk : Kidly g := fun n hn => (hv.node n hn).kidly
  have hki := reach_in hk hi (.kid hm)
  obtain ⟨m, rfl⟩ := Int.eq_ofNat_of_zero_le hki.1
  unfold rk
  refine List.length_pos_of_mem (a := m) ?_
  simp only [List.mem_filter, List.mem_range, decide_eq_true_eq]
  exact ⟨by omega, .kid hm⟩
/-- How many nodes that are no tuples are not in the memo. -/
def un (g : List PNode) (memo : List Int) : Nat := ((List.range g.length).filter (fun (i : Nat) => !((nd g (i : Int)).1 == 2) && decide (memo.getD i 0 < 0))).length
theorem un_le (g : List PNode) (memo : List Int) : un g memo ≤ g.length := by
  unfold un
  have := List.length_filter_le (fun (i : Nat) => !((nd g (i : Int)).1 == 2) && decide (memo.getD i 0 < 0)) (List.range g.length)
  simpa using this
theorem getD_set_eq {α : Type} {l : List α} {i : Nat} {x d : α} (h : i < l.length) : (l.set i x).getD i d = x := by
  rw [List.getD_eq_getElem?_getD, List.getElem?_set_self h]; rfl
theorem un_set {g : List PNode} {memo : List Int} {i : Nat} {v : Int} (hi : i < memo.length) (hv : 0 ≤ v) : un g (memo.set i v) ≤ un g memo := by
  unfold un
  refine filter_lt fun x _ hx => ?_
  simp only [Bool.and_eq_true, decide_eq_true_eq] at hx ⊢
  by_cases e : x = i
  · subst e; rw [getD_set_eq hi] at hx; omega
  · rw [getD_set_ne e] at hx; exact hx
theorem un_set' {g : List PNode} {memo : List Int} {i : Nat} {v : Int} (hi : i < memo.length) (hg : i < g.length) (hv : 0 ≤ v) (h2 : (nd g (i : Int)).1 ≠ 2) (hm : memo.getD i 0 < 0) : un g (memo.set i v) < un g memo := by
  unfold un
  refine filter_lt' (a := i) (fun x _ hx => ?_) (by simpa using hg) ?_ ?_
  · simp only [Bool.and_eq_true, decide_eq_true_eq] at hx ⊢
    by_cases e : x = i
    · subst e; rw [getD_set_eq hi] at hx; omega
    · rw [getD_set_ne e] at hx; exact hx
  · rw [getD_set_eq hi]
    simp; intro _; omega
  · simp only [Bool.and_eq_true, Bool.not_eq_true', beq_eq_false_iff_ne, ne_eq, decide_eq_true_eq]
    exact ⟨h2, hm⟩
theorem emit_tot {a b : List (Int × Int)} (h : a.length + b.length ≤ 540000000000) : Tot (fun σ => F_s_emit (σ 0) a b) (fun r => r = ((a ++ b, ()), ())) := by
  refine tot_s_emit ?_
  unfold B_s_emit
  simp only [tot_chk, tot_some, room_iff, List.length_nil, and_true]
  omega
theorem memoed_tot {ops : List (Int × Int)} {memo : List Int} {at2 : Nat} (hm : memo.length ≤ 1000) (ho : ops.length ≤ 530000000000) (ha : at2 < memo.length) :
    Tot (fun σ => F_s_memoed (σ 0) ops memo at2) (fun r => ∃ n : Int, 0 ≤ n ∧ r = ((ops ++ [(15, n)], memo.set at2 n, ()), ())) := by
  refine tot_s_memoed ?_
  unfold B_s_memoed
  have key := loop_s_memoed_L1 (Q := fun _ _ _ _ _ r => ∃ n : Int, 0 ≤ n ∧ r = ((ops ++ [(15, n)], memo.set at2 n, ()), ())) (I := fun o m a n i => o = ops ∧ m = memo ∧ a = (at2 : Int) ∧ ∃ j : Nat, i = j ∧ j ≤ memo.length ∧ 0 ≤ n ∧ n ≤ i) (μ := fun _ _ _ _ i => (memo.length - i).toNat) ?_
  · exact key ops memo at2 0 0 ⟨rfl, rfl, rfl, 0, rfl, by omega, by omega, by omega⟩
  intro o m a n i ⟨e1, e2, e3, j, e4, hj, h0, h1⟩ again hag ih
  subst e1 e2 e3 e4
  unfold B_s_memoed_L1b B_s_memoed_J0
  simp only [tot_cond, tot_chk, tot_jn, decide_eq_true_eq, decide_eq_false_iff_not, len, inb_iff]
  have wj : w64 ((j : Int) + 1) = ((j + 1 : Nat) : Int) := w64_succ (by omega) (by omega)
  have wn : w64 (n + 1) = n + 1 := w64_id (by omega) (by omega)
  rw [wj, wn]
  refine ⟨fun hlt => ⟨by omega, fun _ => ?_, fun _ => ?_⟩, fun hge => ?_⟩
  · exact ih o m at2 (n + 1) _ ⟨rfl, rfl, rfl, j + 1, rfl, by omega, by omega, by omega⟩ (by omega)
  · exact ih o m at2 n _ ⟨rfl, rfl, rfl, j + 1, rfl, by omega, by omega, by omega⟩ (by omega)
  · refine (copyInts_tot' (by omega)).bind ?_
    rintro _ rfl
    simp only [tot_chk, inb_iff, decide_eq_true_eq, Int.toNat_natCast]
    refine ⟨by omega, ha, (emit_tot (by simp only [List.length_cons, List.length_nil]; omega)).bind ?_⟩
    rintro _ rfl
    rw [tot_some]
    exact ⟨n, h0, rfl⟩
def GG : Nat → Nat
  | 0 => 2
  | r + 1 => 6 * GG r + 3
theorem GG_12 : GG 12 = 5659634073 := by decide
theorem GG_le : ∀ r, 2 ≤ GG r
  | 0 => by decide
  | r + 1 => by have := GG_le r; simp only [GG]; omega
/-- What a writing leaves. -/
def Wr (g : List PNode) (ops : List (Int × Int)) (memo : List Int) (c : Nat) (r : (List (Int × Int) × List Int × Unit) × Unit) : Prop :=
  ∃ ops' memo', r = ((ops', memo', ()), ()) ∧ memo'.length = g.length ∧ un g memo' ≤ un g memo ∧ ops'.length + 33957804446 * un g memo' ≤ ops.length + c + 33957804446 * un g memo
def SaveOk (g : List PNode) (root level : Int) (u r c : Nat) (at2 : Int) : Prop :=
  ∀ (ops : List (Int × Int)) (memo : List Int), memo.length = g.length → un g memo ≤ u → ops.length + c + 33957804446 * un g memo ≤ 500000000000 → Tot (fun σ => F_s_save (σ 0) g root level at2 ops memo) (Wr g ops memo c)
theorem saveAll_tot {g : List PNode} {root level : Int} {u r c : Nat} {list : List Int} (hl : list.length ≤ 6) (hS : ∀ x ∈ list, SaveOk g root level u r c x) {ops : List (Int × Int)} {memo : List Int} (hm : memo.length = g.length) (hu : un g memo ≤ u)
    (hb : ops.length + list.length * c + 33957804446 * un g memo ≤ 500000000000) : Tot (fun σ => F_Z78 (σ 0) g root level list ops memo) (Wr g ops memo (list.length * c)) := by
  refine tot_Z78 ?_
  unfold B_Z78
  have key := loop_Z78_L0 (Q := fun _ _ _ _ _ _ _ r => Wr g ops memo (list.length * c) r)
    (I := fun l' list' o m g' r' i => l' = level ∧ list' = list ∧ g' = g ∧ r' = root ∧ ∃ j : Nat, i = j ∧ j ≤ list.length ∧ m.length = g.length ∧ un g m ≤ un g memo ∧ o.length + 33957804446 * un g m ≤ ops.length + j * c + 33957804446 * un g memo) (μ := fun _ _ _ _ _ _ i => (list.length - i).toNat) ?_
  · exact key level list ops memo g root 0 ⟨rfl, rfl, rfl, rfl, 0, rfl, by omega, hm, Nat.le_refl _, by omega⟩
  intro l' list' o m g' r' i ⟨e1, e2, e3, e4, j, e5, hj, hml, hmu, hmo⟩ again hag ih
  subst e1 e2 e3 e4 e5
  unfold B_Z78_L0b
  simp only [tot_cond, tot_chk, tot_some, decide_eq_true_eq, decide_eq_false_iff_not, len, inb_iff]
  refine ⟨fun hlt => ⟨by omega, ?_⟩, fun hge => ?_⟩
  · have hjl : j + 1 ≤ list'.length := by omega
    have hmul : (j + 1) * c ≤ list'.length * c := Nat.mul_le_mul_right _ hjl
    rw [Nat.add_mul, Nat.one_mul] at hmul
    refine (hS _ (rdx_mem (by omega) hlt) o m hml (by omega) (by omega)).bind ?_
    rintro _ ⟨o2, m2, rfl, k1, k2, k3⟩
    rw [w64_succ (by omega) (by omega)]
    refine ih l' list' o2 m2 g' r' _ ⟨rfl, rfl, rfl, rfl, j + 1, rfl, by omega, k1, by omega, ?_⟩ (by simp; omega)
    rw [Nat.add_mul, Nat.one_mul]
    omega
  · have : j = list'.length := by omega
    subst this
    exact ⟨o, m, rfl, hml, hmu, hmo⟩
end Go.Gx

/-
  Laws, part 12: to write a valid graph comes to an end.
-/
set_option linter.unusedVariables false
set_option linter.unusedSimpArgs false
namespace Go.Gx
theorem sub_len' {α : Type} {l : List α} {a b : Nat} (h : a ≤ b) (hb : b ≤ l.length) : (sub l (a : Int) (b : Int)).length = b - a := by
  simp only [sub, Int.toNat_natCast, List.length_drop, List.length_take]; omega
theorem sub_mem {α : Type} {l : List α} {a b : Int} {x : α} (h : x ∈ sub l a b) : x ∈ l := List.mem_of_mem_take (List.mem_of_mem_drop h)
theorem fill_tot {g : List PNode} {root level : Int} {u c : Nat} {kids : List Int} (hl : kids.length ≤ 6) (hS : ∀ x ∈ kids, SaveOk g root level u 0 c x) {each one all : Int} (he : each = 1 ∨ each = 2 ∧ kids.length % 2 = 0) {ops : List (Int × Int)} {memo : List Int} (hm : memo.length = g.length) (hu : un g memo ≤ u)
    (hb : ops.length + (6 * c + 6) + 33957804446 * un g memo ≤ 500000000000) : Tot (fun σ => F_s_fill (σ 0) g root level kids each one all ops memo) (Wr g ops memo (6 * c + 6)) := by
  refine tot_s_fill ?_
  unfold B_s_fill
  have hkc : kids.length * c ≤ 6 * c := Nat.mul_le_mul_right _ hl
  have j0 : ∀ b : Bool, Tot (fun σ => B_s_fill_J0 (σ 0) (F_s_emit (σ 0)) (F_Z78 (σ 0)) level kids each one all ops memo g root b) (Wr g ops memo (6 * c + 6)) := by
    intro b
    unfold B_s_fill_J0
    rw [tot_cond]
    refine ⟨fun _ => ?_, fun _ => ?_⟩
    · refine (emit_tot (by simp only [List.length_cons, List.length_nil]; omega)).bind ?_
      rintro _ rfl
      refine (saveAll_tot hl hS hm hu (by simp only [List.length_append, List.length_cons, List.length_nil]; omega)).bind ?_
      rintro _ ⟨o2, m2, rfl, k1, k2, k3⟩
      simp only [List.length_append, List.length_cons, List.length_nil] at k3
      refine (emit_tot (by simp only [List.length_cons, List.length_nil]; omega)).bind ?_
      rintro _ rfl
      rw [tot_some]
      exact ⟨_, _, rfl, k1, k2, by simp only [List.length_append, List.length_cons, List.length_nil]; omega⟩
    · have key := loop_s_fill_L1 (Q := fun _ _ _ _ _ _ _ _ _ r => Wr g ops memo (6 * c + 6) r)
        (I := fun l' kids' each' one' o m g' r' i => l' = level ∧ kids' = kids ∧ each' = each ∧ one' = one ∧ g' = g ∧ r' = root ∧ ∃ j : Nat, i = j ∧ j ≤ kids.length ∧ (each = 2 → j % 2 = 0) ∧ m.length = g.length ∧ un g m ≤ un g memo ∧ o.length + 33957804446 * un g m ≤ ops.length + (j * c + j) + 33957804446 * un g memo)
        (μ := fun _ _ _ _ _ _ _ _ i => (kids.length - i).toNat) ?_
      · exact key level kids each one ops memo g root 0 ⟨rfl, rfl, rfl, rfl, rfl, rfl, 0, rfl, by omega, fun _ => rfl, hm, Nat.le_refl _, by omega⟩
      intro l' kids' each' one' o m g' r' i ⟨e1, e2, e3, e4, e5, e6, j, e7, hj, hj2, hml, hmu, hmo⟩ again hag ih
      subst e1 e2 e3 e4 e5 e6 e7
      unfold B_s_fill_L1b
      simp only [tot_cond, tot_chk, tot_some, decide_eq_true_eq, decide_eq_false_iff_not, len, cutb_iff]
      refine ⟨fun hlt => ?_, fun hge => ?_⟩
      · obtain ⟨e, he', he1⟩ : ∃ e : Nat, each' = (e : Int) ∧ 1 ≤ e ∧ e ≤ 2 ∧ j + e ≤ kids'.length ∧ (each' = 2 → (j + e) % 2 = 0) := by
          rcases he with h | ⟨h, h2⟩
          · exact ⟨1, h, by omega, by omega, by omega, fun h' => by omega⟩
          · have := hj2 h; exact ⟨2, h, by omega, by omega, by omega, fun _ => by omega⟩
        subst he'
        have wj : w64 ((j : Int) + (e : Int)) = ((j + e : Nat) : Int) := by rw [w64_id (by omega) (by omega)]; omega
        simp only [wj]
        have hsl := sub_len' (l := kids') (a := j) (b := j + e) (by omega) (by omega)
        have hec : (j + e) * c ≤ kids'.length * c := Nat.mul_le_mul_right _ (by omega)
        rw [Nat.add_mul] at hec
        refine ⟨by omega, (saveAll_tot (list := sub kids' (j : Int) ((j + e : Nat) : Int)) (by omega) (fun x hx => hS x (sub_mem hx)) hml (by omega) (by rw [hsl, show j + e - j = e by omega]; omega)).bind ?_⟩
        rintro _ ⟨o2, m2, rfl, k1, k2, k3⟩
        rw [hsl, show j + e - j = e by omega] at k3
        refine (emit_tot (by simp only [List.length_cons, List.length_nil]; omega)).bind ?_
        rintro _ rfl
        refine ih l' kids' _ one' _ m2 g' r' _ ⟨rfl, rfl, rfl, rfl, rfl, rfl, j + e, rfl, by omega, he1.2.2.2, k1, by omega, ?_⟩ (by simp; omega)
        simp only [List.length_append, List.length_cons, List.length_nil]
        rw [Nat.add_mul]
        omega
      · have : j = kids'.length := by omega
        subst this
        exact ⟨o, m, rfl, hml, hmu, by omega⟩
  rw [tot_cond]
  refine ⟨fun _ => ?_, fun _ => ?_⟩
  · rw [tot_jn]; exact j0 _
  · rw [tot_jn]; exact j0 _
theorem saveTuple_tot {g : List PNode} {root level : Int} {u r : Nat} (hg : g.length ≤ 12) {at2 : Nat} (ha : at2 < g.length) (h6 : (nd g (at2 : Int)).2.2.length ≤ 6) (hr : (nd g (at2 : Int)).2.2 ≠ [] → ∃ r', r = r' + 1 ∧ ∀ x ∈ (nd g (at2 : Int)).2.2, SaveOk g root level u 0 (GG r') x)
    {ops : List (Int × Int)} {memo : List Int} (hm : memo.length = g.length) (hu : un g memo ≤ u) (hb : ops.length + GG r + 33957804446 * un g memo ≤ 500000000000) : Tot (fun σ => F_Z60 (σ 0) g root level at2 ops memo) (Wr g ops memo (GG r)) := by
  refine tot_Z60 ?_
  unfold B_Z60
  have hG := GG_le r
  rw [tot_chk]
  refine ⟨inb_iff.2 (by omega), ?_⟩
  generalize hk : (nd g (at2 : Int)).2.2 = kids at h6 hr
  have hk' : (rdx ((0 : Int), ((0 : Int), ([] : List Int))) g (at2 : Int)).2.2 = kids := hk
  simp only [hk']
  rw [tot_cond]
  refine ⟨fun _ => ?_, fun hne => ?_⟩
  · refine (emit_tot (by simp only [List.length_cons, List.length_nil]; omega)).bind ?_
    rintro _ rfl
    refine (memoed_tot (by omega) (by simp only [List.length_append, List.length_cons, List.length_nil]; omega) (by omega)).bind ?_
    rintro _ ⟨n, hn, rfl⟩
    rw [tot_some]
    have := un_set (g := g) (memo := memo) (i := at2) (v := n) (by omega) hn
    exact ⟨_, _, rfl, by simp [hm], this, by simp only [List.length_append, List.length_cons, List.length_nil]; omega⟩
  · have hne' : kids ≠ [] := by
      intro e; subst e; simp [len] at hne
    obtain ⟨r', rfl, hS⟩ := hr hne'
    have hGr : GG (r' + 1) = 6 * GG r' + 3 := rfl
    have hkc : kids.length * GG r' ≤ 6 * GG r' := Nat.mul_le_mul_right _ h6
    -- behind the kids
    have j1 : ∀ (o : List (Int × Int)) (short : Bool), o.length ≤ ops.length + 1 → (short = true → o.length = ops.length ∧ kids.length ≤ 2) → Tot (fun σ => B_Z60_J1 (σ 0) (F_s_emit (σ 0)) (F_s_memoed (σ 0)) (F_Z78 (σ 0)) level at2 o memo g root kids short) (Wr g ops memo (GG (r' + 1))) := by
      intro o short ho hsh
      unfold B_Z60_J1
      refine (saveAll_tot h6 hS hm hu (by omega)).bind ?_
      rintro _ ⟨o2, m2, rfl, k1, k2, k3⟩
      rw [tot_chk]
      refine ⟨inb_iff.2 (by simp only []; omega), ?_⟩
      -- the tuple is made
      have j5 : ∀ c : Int, Tot (fun σ => B_Z60_J5 (σ 0) (F_s_emit (σ 0)) (F_s_memoed (σ 0)) (F_Z78 (σ 0)) at2 o2 m2 c) (Wr g ops memo (GG (r' + 1))) := by
        intro c
        unfold B_Z60_J5
        refine (emit_tot (by simp only [List.length_cons, List.length_nil]; omega)).bind ?_
        rintro _ rfl
        refine (memoed_tot (by omega) (by simp only [List.length_append, List.length_cons, List.length_nil]; omega) (by omega)).bind ?_
        rintro _ ⟨n, hn, rfl⟩
        rw [tot_some]
        have := un_set (g := g) (memo := m2) (i := at2) (v := n) (by omega) hn
        exact ⟨o2 ++ [(c, 0)] ++ [(15, n)], m2.set at2 n, rfl, by simp [k1], by omega, by simp only [List.length_append, List.length_cons, List.length_nil]; omega⟩
      -- it was there
      have j4 : ∀ o3 : List (Int × Int), o3.length + 33957804446 * un g m2 + 1 ≤ ops.length + GG (r' + 1) + 33957804446 * un g memo → Tot (fun σ => B_Z60_J4 (σ 0) (F_s_emit (σ 0)) (F_s_memoed (σ 0)) (F_Z78 (σ 0)) at2 o3 m2) (Wr g ops memo (GG (r' + 1))) := by
        intro o3 h3
        unfold B_Z60_J4
        rw [tot_chk]
        refine ⟨inb_iff.2 (by omega), (emit_tot (by simp only [List.length_cons, List.length_nil]; omega)).bind ?_⟩
        rintro _ rfl
        rw [tot_some]
        exact ⟨_, _, rfl, k1, k2, by simp only [List.length_append, List.length_cons, List.length_nil]; omega⟩
      rw [tot_cond]
      refine ⟨fun _ => ?_, fun _ => ?_⟩
      · have key := loop_Z60_L3 (Q := fun _ _ _ _ _ _ r => Wr g ops memo (GG (r' + 1)) r) (I := fun a o3 m3 kd sh i => a = (at2 : Int) ∧ m3 = m2 ∧ kd = kids ∧ sh = short ∧ ∃ j : Nat, i = j ∧ j ≤ kids.length ∧ (short = true → o3.length = o2.length + j) ∧ (short = false → o3.length = o2.length)) (μ := fun _ _ _ _ _ i => (kids.length - i).toNat) ?_
        · exact key at2 o2 m2 kids short 0 ⟨rfl, rfl, rfl, rfl, 0, rfl, by omega, fun _ => rfl, fun _ => rfl⟩
        intro a o3 m3 kd sh i ⟨e1, e2, e3, e4, j, e5, hj, hs1, hs2⟩ again hag ih
        subst e1 e2 e3 e4 e5
        unfold B_Z60_L3b B_Z60_J2
        simp only [tot_cond, tot_jn, decide_eq_true_eq, decide_eq_false_iff_not, len, Bool.not_eq_true', Bool.not_eq_false']
        cases sh with
        | true =>
          have h1 := hs1 rfl
          have h2 := hsh rfl
          refine ⟨fun hlt => ⟨fun _ => ?_, fun h => absurd h (by decide)⟩, fun hge => ⟨fun h => absurd h (by decide), fun _ => ⟨fun h => absurd h (by decide), fun _ => j4 o3 (by omega)⟩⟩⟩
          refine (emit_tot (by simp only [List.length_cons, List.length_nil]; omega)).bind ?_
          rintro _ rfl
          rw [w64_succ (by omega) (by omega)]
          refine ih _ _ _ _ _ _ ⟨rfl, rfl, rfl, rfl, j + 1, rfl, by omega, fun _ => ?_, fun h => absurd h (by decide)⟩ (by simp; omega)
          simp only [List.length_append, List.length_cons, List.length_nil]; omega
        | false =>
          have h1 := hs2 rfl
          have fin : Tot (fun σ => (F_s_emit (σ 0) o3 [(18, 0)]).bind fun r79 => jn (fun t => B_Z60_J4 (σ 0) (F_s_emit (σ 0)) (F_s_memoed (σ 0)) (F_Z78 (σ 0)) t.1 t.2.1 t.2.2.1) ((at2 : Int), r79.1.1, m3, ())) (Wr g ops memo (GG (r' + 1))) := by
            refine (emit_tot (by simp only [List.length_cons, List.length_nil]; omega)).bind ?_
            rintro _ rfl
            rw [tot_jn]
            exact j4 _ (by simp only [List.length_append, List.length_cons, List.length_nil]; omega)
          exact ⟨fun hlt => ⟨fun h => absurd h (by decide), fun _ => ⟨fun _ => fin, fun h => absurd h (by decide)⟩⟩, fun hge => ⟨fun h => absurd h (by decide), fun _ => ⟨fun _ => fin, fun h => absurd h (by decide)⟩⟩⟩
      · rw [tot_cond]
        refine ⟨fun _ => ?_, fun _ => ?_⟩
        · rw [tot_jn]; exact j5 _
        · rw [tot_jn]; exact j5 _
    have j0 : ∀ (short : Bool), (short = true → kids.length ≤ 2) → Tot (fun σ => B_Z60_J0 (σ 0) (F_s_emit (σ 0)) (F_s_memoed (σ 0)) (F_Z78 (σ 0)) level at2 ops memo g root kids short) (Wr g ops memo (GG (r' + 1))) := by
      intro short hsh
      unfold B_Z60_J0
      rw [tot_cond]
      refine ⟨fun hs => ?_, fun hs => ?_⟩
      · refine (emit_tot (by simp only [List.length_cons, List.length_nil]; omega)).bind ?_
        rintro _ rfl
        rw [tot_jn]
        exact j1 _ short (by simp) (fun h => by rw [h] at hs; cases hs)
      · rw [tot_jn]
        have : short = true := by simpa using hs
        exact j1 ops short (by omega) (fun h => ⟨rfl, hsh h⟩)
    rw [tot_cond]
    refine ⟨fun _ => ?_, fun _ => ?_⟩
    · rw [tot_jn]
      exact j0 _ (fun h => by simp only [decide_eq_true_eq, len] at h; omega)
    · rw [tot_jn]
      exact j0 false (fun h => absurd h (by decide))
theorem SaveOk.mono {g : List PNode} {root level : Int} {u r r2 c c2 : Nat} {x : Int} (h : SaveOk g root level u r c x) (hc : c ≤ c2) : SaveOk g root level u r2 c2 x := by
  intro ops memo h1 h2 h3
  refine (h ops memo h1 h2 (by omega)).mono ?_
  rintro _ ⟨o, m, rfl, k1, k2, k3⟩
  exact ⟨o, m, rfl, k1, k2, by omega⟩
theorem save_tot {g : List PNode} {root level : Int} (hv : ValidG g root) : ∀ (u r : Nat), r ≤ 12 → ∀ at2 : Nat, at2 < g.length → ((nd g (at2 : Int)).1 = 2 → rk g (at2 : Int) ≤ r) → SaveOk g root level u 0 (GG r) (at2 : Int) := by
  have hk : Kidly g := fun n hn => (hv.node n hn).kidly
  have hg := hv.most
  intro u
  induction u using Nat.strongRecOn with
  | _ u ihu =>
  intro r
  induction r using Nat.strongRecOn with
  | _ r ihr =>
  intro hr12 at2 ha hrk ops memo hm hu hb
  have hG := GG_le r
  have hG12 := GG_12
  have hin : 0 ≤ (at2 : Int) ∧ (at2 : Int) < (g.length : Int) := by omega
  have hnode := hv.node _ (nd_mem hin.1 hin.2)
  refine tot_s_save ?_
  unfold B_s_save
  simp only [tot_chk]
  refine ⟨inb_iff.2 (by omega), inb_iff.2 (by omega), ?_⟩
  have hrd : rdx (0 : Int) memo (at2 : Int) = memo.getD at2 0 := by rw [rdx_eq, Int.toNat_natCast]
  have hndd : rdx ((0 : Int), ((0 : Int), ([] : List Int))) g (at2 : Int) = nd g (at2 : Int) := rfl
  rw [hrd, hndd]
  rw [tot_cond]
  refine ⟨fun _ => ?_, fun hneg => ?_⟩
  · rw [tot_chk]
    refine ⟨inb_iff.2 (by omega), (emit_tot (by simp only [List.length_cons, List.length_nil]; omega)).bind ?_⟩
    rintro _ rfl
    rw [tot_some]
    exact ⟨_, memo, rfl, hm, Nat.le_refl _, by simp only [List.length_append, List.length_cons, List.length_nil]; omega⟩
  have hneg : memo.getD at2 0 < 0 := by simpa using hneg
  -- it gets into the memo
  have mem : ∀ (o : List (Int × Int)), o.length ≤ 520000000000 → (nd g (at2 : Int)).1 ≠ 2 → Tot (fun σ => F_s_memoed (σ 0) o memo at2) (fun r => ∃ n : Int, r = ((o ++ [(15, n)], memo.set at2 n, ()), ()) ∧ un g (memo.set at2 n) < un g memo ∧ (memo.set at2 n).length = g.length) := by
    intro o ho h2
    refine (memoed_tot (by omega) (by omega) (by omega)).mono ?_
    rintro _ ⟨n, hn, rfl⟩
    exact ⟨n, rfl, un_set' (by omega) ha hn h2 hneg, by simp [hm]⟩
  -- all kids, when it is there
  have kids12 : ∀ u1, u1 < u → ∀ x ∈ (nd g (at2 : Int)).2.2, SaveOk g root level u1 0 (GG 12) x := by
    intro u1 hu1 x hx
    have hx' := hnode.2.1 x hx
    obtain ⟨m, rfl⟩ := Int.eq_ofNat_of_zero_le hx'.1
    exact ihu u1 hu1 12 (Nat.le_refl _) m (by omega) (fun _ => Nat.le_trans (rk_le g _) hg)
  rw [tot_cond]
  simp only [beq_iff_eq, beq_eq_false_iff_ne, ne_eq]
  refine ⟨fun h0 => ?_, fun h0 => ?_⟩
  · refine (emit_tot (by simp only [List.length_cons, List.length_nil]; omega)).bind ?_
    rintro _ rfl
    rw [tot_some]
    exact ⟨_, memo, rfl, hm, Nat.le_refl _, by simp only [List.length_append, List.length_cons, List.length_nil]; omega⟩
  rw [tot_cond]
  simp only [beq_iff_eq, beq_eq_false_iff_ne, ne_eq]
  refine ⟨fun h1 => ?_, fun h1 => ?_⟩
  · refine (emit_tot (by simp only [List.length_cons, List.length_nil]; omega)).bind ?_
    rintro _ rfl
    refine (mem _ (by simp only [List.length_append, List.length_cons, List.length_nil]; omega) (by omega)).bind ?_
    rintro _ ⟨n, rfl, k1, k2⟩
    rw [tot_some]
    exact ⟨_, memo.set at2 n, rfl, k2, by omega, by simp only [List.length_append, List.length_cons, List.length_nil]; omega⟩
  rw [tot_cond]
  simp only [beq_iff_eq, beq_eq_false_iff_ne, ne_eq]
  refine ⟨fun h2 => ?_, fun h2 => ?_⟩
  · have hrk := hrk h2
    refine (saveTuple_tot (u := u) (r := r) hg ha hnode.1 (fun hne => ?_) hm hu hb).bind ?_
    · obtain ⟨x, hx⟩ := List.exists_mem_of_ne_nil _ hne
      have hpos := rk_pos hv hin hx
      refine ⟨r - 1, by omega, fun y hy => ?_⟩
      have hy' := hnode.2.1 y hy
      obtain ⟨m, rfl⟩ := Int.eq_ofNat_of_zero_le hy'.1
      exact ihr (r - 1) (by omega) (by omega) m (by omega) (fun hk2 => by have := rk_lt hv hin hy hk2; omega)
    · rintro _ ⟨o, m, rfl, k1, k2, k3⟩
      rw [tot_some]
      exact ⟨o, m, rfl, k1, k2, k3⟩
  -- a list, a dictionary, an object
  have filled : ∀ (o : List (Int × Int)) (n each one all : Int), o.length ≤ ops.length + 2 → un g (memo.set at2 n) < un g memo → (memo.set at2 n).length = g.length → (each = 1 ∨ each = 2 ∧ (nd g (at2 : Int)).2.2.length % 2 = 0) →
      Tot (fun σ => (F_s_fill (σ 0) g root level (nd g (at2 : Int)).2.2 each one all o (memo.set at2 n)).bind fun r84 => some ((r84.1.1, r84.1.2.1, ()), ())) (Wr g ops memo (GG r)) := by
    intro o n each one all ho k1 k2 he
    refine (fill_tot (u := u - 1) (c := GG 12) hnode.1 (kids12 (u - 1) (by omega)) he k2 (by omega) (by omega)).bind ?_
    rintro _ ⟨o2, m2, rfl, q1, q2, q3⟩
    rw [tot_some]
    exact ⟨o2, m2, rfl, q1, by omega, by omega⟩
  rw [tot_cond]
  simp only [beq_iff_eq, beq_eq_false_iff_ne, ne_eq]
  refine ⟨fun h3 => ?_, fun h3 => ?_⟩
  · refine (emit_tot (by simp only [List.length_cons, List.length_nil]; omega)).bind ?_
    rintro _ rfl
    refine (mem _ (by simp only [List.length_append, List.length_cons, List.length_nil]; omega) h2).bind ?_
    rintro _ ⟨n, rfl, k1, k2⟩
    exact filled _ n 1 8 9 (by simp) k1 k2 (.inl rfl)
  rw [tot_cond]
  simp only [beq_iff_eq, beq_eq_false_iff_ne, ne_eq]
  refine ⟨fun h4 => ?_, fun h4 => ?_⟩
  · have hd : (nd g (at2 : Int)).2.2.length % 2 = 0 := by
      have := hnode.2.2
      rw [if_neg h0, if_neg h1, if_neg (by simp [h2, h3]), if_pos h4] at this
      exact this.2.2
    refine (emit_tot (by simp only [List.length_cons, List.length_nil]; omega)).bind ?_
    rintro _ rfl
    refine (mem _ (by simp only [List.length_append, List.length_cons, List.length_nil]; omega) h2).bind ?_
    rintro _ ⟨n, rfl, k1, k2⟩
    exact filled _ n 2 11 12 (by simp) k1 k2 (.inr ⟨rfl, hd⟩)
  · refine (emit_tot (by simp only [List.length_cons, List.length_nil]; omega)).bind ?_
    rintro _ rfl
    refine (mem _ (by simp only [List.length_append, List.length_cons, List.length_nil]; omega) h2).bind ?_
    rintro _ ⟨n, rfl, k1, k2⟩
    have hkc : (nd g (at2 : Int)).2.2.length * GG 12 ≤ 6 * GG 12 := Nat.mul_le_mul_right _ hnode.1
    refine (saveAll_tot (u := u - 1) hnode.1 (kids12 (u - 1) (by omega)) k2 (by omega) (by simp only [List.length_append, List.length_cons, List.length_nil]; omega)).bind ?_
    rintro _ ⟨o2, m2, rfl, q1, q2, q3⟩
    simp only [List.length_append, List.length_cons, List.length_nil] at q3
    unfold B_s_save_J0
    rw [tot_cond]
    refine ⟨fun _ => ?_, fun _ => ?_⟩
    · refine (emit_tot (by simp only [List.length_cons, List.length_nil]; omega)).bind ?_
      rintro _ rfl
      rw [tot_jn, tot_some]
      exact ⟨_, m2, rfl, q1, by omega, by simp only [List.length_append, List.length_cons, List.length_nil]; omega⟩
    · rw [tot_jn, tot_some]
      exact ⟨o2, m2, rfl, q1, by omega, by omega⟩
theorem emptyMemo_tot {g : List PNode} {root : Int} (hg : g.length ≤ 1000) : Tot (fun σ => F_Z65 (σ 0) g root) (fun r => r = ((List.replicate g.length (-1), ()), ())) := by
  refine tot_Z65 ?_
  unfold B_Z65
  have key := loop_Z65_L0 (Q := fun _ _ _ _ r => r = ((List.replicate g.length (-1), ()), ())) (I := fun g' _ o i => g' = g ∧ ∃ j : Nat, i = j ∧ j ≤ g.length ∧ o = List.replicate j (-1)) (μ := fun _ _ _ i => (g.length - i).toNat) ?_
  · exact key g root [] 0 ⟨rfl, 0, rfl, by omega, rfl⟩
  intro g' r' o i ⟨e1, j, e2, hj, e3⟩ again hag ih
  subst e1 e2 e3
  unfold B_Z65_L0b
  simp only [tot_cond, tot_chk, tot_some, decide_eq_true_eq, decide_eq_false_iff_not, len, room_iff, List.length_replicate, List.length_cons, List.length_nil]
  refine ⟨fun hlt => ⟨by omega, ?_⟩, fun hge => ?_⟩
  · rw [w64_succ (by omega) (by omega)]
    exact ih _ _ _ _ ⟨rfl, j + 1, rfl, by omega, by rw [List.replicate_succ']⟩ (by simp; omega)
  · have : j = g'.length := by omega
    rw [this]
theorem written_tot {g : List PNode} {root : Int} (hv : ValidG g root) (level : Int) : Tot (fun σ => F_Z89 (σ 0) g root level) (fun r => ∃ ops : List (Int × Int), r = ((ops, ()), ()) ∧ ops.length ≤ 500000000000) := by
  have hg := hv.most
  refine tot_Z89 ?_
  unfold B_Z89
  refine (emptyMemo_tot (by omega)).bind ?_
  rintro _ rfl
  obtain ⟨m, hm⟩ := Int.eq_ofNat_of_zero_le hv.root.1
  have hroot := hv.root
  subst hm
  have hun := un_le g (List.replicate g.length (-1))
  have hG := GG_12
  refine (save_tot hv g.length 12 (Nat.le_refl _) m (by omega) (fun _ => Nat.le_trans (rk_le g _) hg) [] _ (by simp) hun (by simp only [List.length_nil]; omega)).bind ?_
  rintro _ ⟨o, m2, rfl, k1, k2, k3⟩
  simp only [List.length_nil] at k3
  refine (emit_tot (by simp only [List.length_cons, List.length_nil]; omega)).bind ?_
  rintro _ rfl
  rw [tot_some]
  exact ⟨_, rfl, by simp only [List.length_append, List.length_cons, List.length_nil]; omega⟩
end Go.Gx

/-
  Laws, part 13: programs and bytes that are drawn.
-/
set_option linter.unusedVariables false
set_option linter.unusedSimpArgs false
namespace Go.Gx
theorem someOps_tot {b : List Int} {p : Int} (h : RD b p) (hp : p ≤ 90000000) : Tot (fun σ => F_Z86 (σ 0) b p) (Drawn b p 2000 fun x => ∃ ops : List POp, x = (ops, ()) ∧ ops.length ≤ 500000000000) := by
  refine tot_Z86 ?_
  unfold B_Z86
  have fin : ∀ (q : Int) (o : List POp), p ≤ q → q ≤ p + 2000 → o.length ≤ 500000000000 → Drawn b p 2000 (fun x => ∃ ops : List POp, x = (ops, ()) ∧ ops.length ≤ 500000000000) ((o, ()), ((b, q, ()), ())) := fun q o h1 h2 h3 => ⟨_, q, rfl, h1, h2, o, rfl, h3⟩
  have j2 : ∀ (q : Int) (o : List POp), p ≤ q → q ≤ p + 1900 → o.length ≤ 500000000000 → Tot (fun σ => B_Z86_J2 (σ 0) (F_Z34 (σ 0)) (F_Z70 (σ 0)) (F_Z68 (σ 0)) (F_Z89 (σ 0)) (F_s_someOp (σ 0)) (F_Z43 (σ 0)) b q o) (Drawn b p 2000 fun x => ∃ ops : List POp, x = (ops, ()) ∧ ops.length ≤ 500000000000) := by
    intro q o h1 h2 h3
    have hq := h.next h1 (by omega)
    unfold B_Z86_J2
    rw [tot_cond]
    simp only [decide_eq_true_eq, decide_eq_false_iff_not, len]
    refine ⟨fun hlt => ?_, fun _ => by rw [tot_some]; exact fin q o h1 (by omega) h3⟩
    refine (pick_tot hq (by omega) (by omega)).bind ?_
    rintro _ ⟨_, q2, rfl, k1, k2, v, rfl, k3, k4⟩
    rw [tot_cond]
    refine ⟨fun _ => ?_, fun _ => ?_⟩
    · refine (one_tot (hq.next k1 (by omega)) (by omega) (by simp) (by simp)).bind ?_
      rintro _ ⟨_, q3, rfl, f1, f2, u, rfl, hu⟩
      simp only [tot_chk, tot_some, inb_iff, decide_eq_true_eq]
      exact ⟨by omega, by simp; omega, fin q3 _ (by omega) (by omega) (by simpa using h3)⟩
    · rw [tot_cond]
      refine ⟨fun _ => ?_, fun _ => by rw [tot_some]; exact fin q2 o (by omega) (by omega) h3⟩
      refine (one_tot (hq.next k1 (by omega)) (by omega) (by simp) (by simp)).bind ?_
      rintro _ ⟨_, q3, rfl, f1, f2, u, rfl, hu⟩
      have w : w64 ((o.length : Int) - 1) = (o.length : Int) - 1 := w64_id (by omega) (by omega)
      simp only [tot_chk, tot_some, inb_iff, decide_eq_true_eq, w]
      exact ⟨by omega, by omega, fin q3 _ (by omega) (by omega) (by simpa using h3)⟩
  have j1 : ∀ (q : Int) (o : List POp), p ≤ q → q ≤ p + 1800 → o.length ≤ 500000000000 → Tot (fun σ => B_Z86_J1 (σ 0) (F_Z34 (σ 0)) (F_Z70 (σ 0)) (F_Z68 (σ 0)) (F_Z89 (σ 0)) (F_s_someOp (σ 0)) (F_Z43 (σ 0)) b q o) (Drawn b p 2000 fun x => ∃ ops : List POp, x = (ops, ()) ∧ ops.length ≤ 500000000000) := by
    intro q o h1 h2 h3
    have hq := h.next h1 (by omega)
    unfold B_Z86_J1
    refine (pick_tot hq (by omega) (by omega)).bind ?_
    rintro _ ⟨_, q2, rfl, k1, k2, v, rfl, k3, k4⟩
    rw [tot_cond]
    refine ⟨fun _ => ?_, fun _ => by rw [tot_jn]; exact j2 q2 o (by omega) (by omega) h3⟩
    have w : w64 (len o + 1) = (o.length : Int) + 1 := by rw [w64_id] <;> simp only [len] <;> omega
    rw [w]
    refine (pick_tot (hq.next k1 (by omega)) (by omega) (by omega)).bind ?_
    rintro _ ⟨_, q3, rfl, f1, f2, u, rfl, f3, f4⟩
    have f4 := f4 (by omega)
    rw [tot_chk]
    refine ⟨cutb_iff.2 ⟨Int.le_refl _, f3, by show u ≤ (o.length : Int); omega⟩, ?_⟩
    rw [tot_jn]
    exact j2 q3 (o.take u.toNat) (by omega) (by omega) (by simp only [List.length_take]; omega)
  refine (pick_tot h (by omega) (by omega)).bind ?_
  rintro _ ⟨_, q, rfl, h1, h2, v, rfl, h3, h4⟩
  have hq := h.next h1 (by omega)
  rw [tot_cond]
  refine ⟨fun _ => ?_, fun _ => ?_⟩
  · refine (likelyOps_tot hq (by omega)).bind ?_
    rintro _ ⟨_, q2, rfl, k1, k2, o, rfl, ho, _⟩
    rw [tot_jn]
    exact j2 q2 o (by omega) (by omega) (by omega)
  · refine (someGraph_tot hq (by omega)).bind ?_
    rintro _ ⟨_, q2, rfl, k1, k2, g, root, rfl, hv⟩
    have hq2 := hq.next k1 (by omega)
    refine (pick_tot hq2 (by omega) (by omega)).bind ?_
    rintro _ ⟨_, q3, rfl, f1, f2, u, rfl, f3, f4⟩
    have hq3 := hq2.next f1 (by omega)
    refine (written_tot hv u).bind ?_
    rintro _ ⟨o, rfl, ho⟩
    refine (pick_tot hq3 (by omega) (by omega)).bind ?_
    rintro _ ⟨_, q4, rfl, m1, m2, u2, rfl, m3, m4⟩
    have hq4 := hq3.next m1 (by omega)
    have j0 : ∀ t : Bool, (t = true → 0 < o.length) → Tot (fun σ => B_Z86_J0 (σ 0) (F_Z34 (σ 0)) (F_Z70 (σ 0)) (F_Z68 (σ 0)) (F_Z89 (σ 0)) (F_s_someOp (σ 0)) (F_Z43 (σ 0)) b q4 o t) (Drawn b p 2000 fun x => ∃ ops : List POp, x = (ops, ()) ∧ ops.length ≤ 500000000000) := by
      intro t ht
      unfold B_Z86_J0
      rw [tot_cond]
      refine ⟨fun hb => ?_, fun _ => by rw [tot_jn]; exact j1 q4 o (by omega) (by omega) ho⟩
      have hpos := ht hb
      refine (pick_tot hq4 (by omega) (by simp only [len]; omega)).bind ?_
      rintro _ ⟨_, q5, rfl, n1, n2, w, rfl, n3, n4⟩
      have n4 := n4 (by simp only [len]; omega)
      simp only [len] at n4
      refine (someOp_tot (hq4.next n1 (by omega)) (by omega)).bind ?_
      rintro _ ⟨_, q6, rfl, l1, l2, c, a, rfl, _⟩
      simp only [tot_chk, inb_iff, decide_eq_true_eq]
      refine ⟨by omega, by omega, ?_⟩
      rw [tot_jn]
      exact j1 q6 _ (by omega) (by omega) (by simpa using ho)
    rw [tot_cond]
    refine ⟨fun _ => ?_, fun _ => ?_⟩
    · rw [tot_jn]; exact j0 _ (fun h => by simp only [decide_eq_true_eq, len] at h; omega)
    · rw [tot_jn]; exact j0 false (fun h => absurd h (by decide))
end Go.Gx

/-
  Laws: DepthsOf, by the reference.
-/
set_option linter.unusedVariables false
set_option linter.unusedSimpArgs false
namespace Go.Gx
theorem sub_take {α : Type} {l : List α} {n : Nat} : sub l 0 (n : Int) = l.take n := by simp [sub]
theorem s_DepthsOf_tot {ops : List POp} (hl : ops.length ≤ 900000000000) : Tot (fun σ => F_Z74 (σ 0) ops) (fun r => r = ((if okOps ops = true then traceM (fun m => (m.S.length : Int)) ops (rN ops) else [], ()), ())) := by
  refine tot_Z74 ?_
  unfold B_Z74
  refine (validOps_tot hl).bind ?_
  rintro _ rfl
  simp only [tot_cond, tot_some, Bool.not_eq_true', Bool.not_eq_false']
  refine ⟨fun h => by rw [if_neg (by rw [h]; decide)], fun h => ?_⟩
  obtain ⟨h1, h2⟩ := okOps_all h
  refine (runShapes_tot hl h1).bind ?_
  rintro _ ⟨rfl, _⟩
  rw [if_pos h]
  simp only [rN_eq]
  have hn := rN_le ops
  have key := loop_Z74_L0 (Q := fun _ _ _ _ r => r = ((traceM (fun m => (m.S.length : Int)) ops (rN ops), ()), ())) (I := fun ops' out n5 i => ops' = ops ∧ n5 = (rN ops : Int) ∧ ∃ j : Nat, i = (j : Int) + 1 ∧ j ≤ rN ops ∧ out = traceM (fun m => (m.S.length : Int)) ops j) (μ := fun _ _ _ i => (rN ops + 1 - i).toNat) ?_
  · exact key ops [] _ 1 ⟨rfl, rfl, 0, rfl, Nat.zero_le _, rfl⟩
  intro ops' out n5 i ⟨e1, e2, j, e3, hj, e4⟩ again hag ih
  subst e1 e2 e3 e4
  unfold B_Z74_L0b
  simp only [tot_cond, tot_chk, tot_some, decide_eq_true_eq, decide_eq_false_iff_not, cutb_iff]
  refine ⟨fun hlt => ⟨by omega, ?_⟩, fun hge => ?_⟩
  · rw [show (j : Int) + 1 = ((j + 1 : Nat) : Int) by omega]
    simp only [sub_take]
    refine (runShapes_tot (by rw [List.length_take]; omega) (take_ok h1 _)).bind ?_
    rintro _ ⟨rfl, _⟩
    rw [tot_chk, rM_sh]
    refine ⟨by simp only [room_iff, traceM_len, List.length_cons, List.length_nil]; omega, ?_⟩
    rw [show w64 (((j + 1 : Nat) : Int) + 1) = ((j + 1 : Nat) : Int) + 1 from w64_id (by omega) (by omega)]
    exact ih _ _ _ _ ⟨rfl, rfl, j + 1, rfl, by omega, by rw [traceM_succ]; rfl⟩ (by omega)
  · have : j = rN ops' := by omega
    rw [this]
end Go.Gx

/-
  Laws, part R4: rules that are drawn.
-/
set_option linter.unusedVariables false
set_option linter.unusedSimpArgs false
namespace Go.Gx
/-- The Args of all orders to make an object. -/
def newArgs (ops : List POp) : List Int := (ops.filter (fun o => o.1 == 13)).map (·.2)
def classesP (ops : List POp) : List Int := if okOps ops = true then (List.range 10).filterMap (fun c : Nat => if (c : Int) ∈ newArgs ops then some (c : Int) else none) else []
theorem newArgs_mem {ops : List POp} {c : Int} : c ∈ newArgs ops ↔ ∃ i, i < ops.length ∧ (ops.getD i (0, 0)).1 = 13 ∧ (ops.getD i (0, 0)).2 = c := by
  unfold newArgs
  simp only [List.mem_map, List.mem_filter, beq_iff_eq]
  constructor
  · rintro ⟨o, ⟨ho, h1⟩, h2⟩
    obtain ⟨i, hi, e⟩ := List.getElem_of_mem ho
    refine ⟨i, hi, ?_⟩
    rw [List.getD_eq_getElem?_getD, List.getElem?_eq_getElem hi]
    simp only [Option.getD_some, e]
    exact ⟨h1, h2⟩
  · rintro ⟨i, hi, h1, h2⟩
    exact ⟨_, ⟨getD_mem hi, h1⟩, h2⟩
theorem range_filterMap_succ (f : Nat → Option Int) (n : Nat) : (List.range (n + 1)).filterMap f = (List.range n).filterMap f ++ (f n).toList := by
  rw [List.range_succ, List.filterMap_append]
  cases h : f n with
  | none => simp [h]
  | some y => simp [h]
theorem s_ClassesIn_tot {ops : List POp} (hl : ops.length ≤ 900000000000) : Tot (fun σ => F_Z63 (σ 0) ops) (fun r => r = ((classesP ops, ()), ())) := by
  refine tot_Z63 ?_
  unfold B_Z63
  refine (validOps_tot hl).bind ?_
  rintro _ rfl
  simp only [tot_cond, tot_some, Bool.not_eq_true', Bool.not_eq_false']
  refine ⟨fun h => by unfold classesP; rw [if_neg (by rw [h]; decide)], fun h => ?_⟩
  generalize hf : (fun c : Nat => if (c : Int) ∈ newArgs ops then some (c : Int) else none) = f
  have hp : classesP ops = (List.range 10).filterMap f := by unfold classesP; rw [if_pos h, hf]
  have hfl : ∀ n, ((List.range n).filterMap f).length ≤ n := fun n => by
    have := List.length_filterMap_le f (List.range n)
    rw [List.length_range] at this; exact this
  rw [hp]
  have key := loop_Z63_L3 (Q := fun _ _ _ r => r = (((List.range 10).filterMap f, ()), ())) (I := fun o u c => o = ops ∧ ∃ q : Nat, c = (q : Int) ∧ q ≤ 10 ∧ u = (List.range q).filterMap f) (μ := fun _ _ c => (10 - c).toNat) ?_
  · exact key ops [] 0 ⟨rfl, 0, rfl, Nat.zero_le _, rfl⟩
  intro o u c ⟨e1, q, e2, hq, e3⟩ again hag ih
  subst e1 e2 e3
  unfold B_Z63_L3b
  simp only [tot_cond, tot_some, decide_eq_true_eq, decide_eq_false_iff_not]
  refine ⟨fun hle => ?_, fun hgt => by rw [show q = 10 by omega]⟩
  have next : ∀ v : Option Int, f q = v → Tot (fun σ => again σ (o, (List.range q).filterMap f ++ v.toList, w64 ((q : Int) + 1), ())) (fun r => r = (((List.range 10).filterMap f, ()), ())) := by
    intro v hv
    rw [w64_succ (by omega) (by omega)]
    exact ih _ _ _ ⟨rfl, q + 1, rfl, by omega, by rw [range_filterMap_succ, hv]⟩ (by simp; omega)
  have key1 := loop_Z63_L1 hag (Q := fun _ _ _ _ r => r = (((List.range 10).filterMap f, ()), ())) (I := fun o' u c i => o' = o ∧ u = (List.range q).filterMap f ∧ c = (q : Int) ∧ ∃ j : Nat, i = (j : Int) ∧ j ≤ o.length ∧ ∀ z, z < j → ¬ ((o.getD z (0, 0)).1 = 13 ∧ (o.getD z (0, 0)).2 = (q : Int))) (μ := fun _ _ _ i => (o.length - i).toNat) ?_
  · exact key1 _ _ _ 0 ⟨rfl, rfl, rfl, 0, rfl, Nat.zero_le _, fun i hi => absurd hi (Nat.not_lt_zero _)⟩
  intro o' u c i ⟨e1, e2, e3, j, e4, hj, hno⟩ again1 hag1 ih1
  subst e1 e2 e3 e4
  unfold B_Z63_L1b
  have hrd : rdx ((0 : Int), (0 : Int)) o' (j : Int) = o'.getD j (0, 0) := by rw [rdx_eq, Int.toNat_natCast]
  rw [tot_cond]
  refine ⟨fun hlt => tot_chk.2 ⟨inb_iff.2 (by have := of_decide_eq_true hlt; unfold len at this; omega), ?_⟩, fun hge => ?_⟩
  · have hlt := of_decide_eq_true hlt
    unfold len at hlt
    have hjl : j < o'.length := by omega
    have j0 : ∀ b : Bool, (b = true ↔ (o'.getD j (0, 0)).1 = 13 ∧ (o'.getD j (0, 0)).2 = (q : Int)) → Tot (fun σ => B_Z63_J0 (σ 0) (F_Z77 (σ 0)) (again1 σ) (again σ) o' ((List.range q).filterMap f) (q : Int) (j : Int) b) (fun r => r = (((List.range 10).filterMap f, ()), ())) := by
      intro b hb
      unfold B_Z63_J0 B_Z63_J2
      simp only [tot_cond, tot_chk, tot_jn, room_iff, List.length_cons, List.length_nil]
      refine ⟨fun ht => ⟨by have := hfl q; omega, ?_⟩, fun hf2 => ?_⟩
      · refine next (some (q : Int)) ?_
        rw [← hf]
        exact if_pos (newArgs_mem.2 ⟨j, hjl, hb.1 ht⟩)
      · rw [w64_succ (by omega) (by omega)]
        refine ih1 _ _ _ _ ⟨rfl, rfl, rfl, j + 1, rfl, hjl, fun z hz => ?_⟩ (by simp; omega)
        by_cases e : z = j
        · subst e; exact fun h => by rw [hb.2 h] at hf2; cases hf2
        · exact hno z (by omega)
    rw [hrd]
    simp only [tot_cond, tot_chk, tot_jn, beq_iff_eq, beq_eq_false_iff_ne, ne_eq, inb_iff]
    refine ⟨fun h13 => ⟨by omega, j0 _ ?_⟩, fun h13 => j0 _ ⟨fun h0 => absurd h0 (by simp), fun h0 => absurd h0.1 h13⟩⟩
    rw [beq_iff_eq]
    exact ⟨fun h0 => ⟨h13, h0⟩, fun h0 => h0.2⟩
  · have hge := of_decide_eq_false hge
    unfold len at hge
    unfold B_Z63_J2
    rw [tot_jn]
    have hn : f q = none := by
      rw [← hf]
      refine if_neg fun h0 => ?_
      obtain ⟨i, hi, h1⟩ := newArgs_mem.1 h0
      exact hno i (by omega) h1
    have := next none hn
    rw [show (none : Option Int).toList = [] from rfl, List.append_nil] at this
    exact this
theorem classesP_len (ops : List POp) : (classesP ops).length ≤ 10 := by
  unfold classesP
  split
  · have := List.length_filterMap_le (fun c : Nat => if (c : Int) ∈ newArgs ops then some (c : Int) else none) (List.range 10)
    rw [List.length_range] at this; exact this
  · simp
/-- The greatest of numbers, 0 if there are none. -/
def maxP (l : List Int) : Int := l.foldl (fun a x => if x > a then x else a) 0
def leastP (ops : List POp) : Ru × Bool := if okOps ops = true ∧ rN ops = ops.length then (⟨(ops.length : Int), ((rM ops).N.length : Int), maxP (traceM (fun m => (m.S.length : Int)) ops (rN ops)), classesP ops⟩, true) else (⟨0, 0, 0, []⟩, false)
theorem s_LeastRules_tot {ops : List POp} (hl : ops.length ≤ 900000000000) : Tot (fun σ => F_Z56 (σ 0) ops) (fun r => r = ((((leastP ops).1.st, (leastP ops).1.nd, (leastP ops).1.dp, (leastP ops).1.cl, ()), (leastP ops).2, ()), ())) := by
  refine tot_Z56 ?_
  unfold B_Z56
  refine (validOps_tot hl).bind ?_
  rintro _ rfl
  simp only [tot_cond, tot_some, Bool.not_eq_true', Bool.not_eq_false']
  refine ⟨fun h => by unfold leastP; rw [if_neg (fun hc => by rw [hc.1] at h; cases h)], fun h => ?_⟩
  obtain ⟨h1, h2⟩ := okOps_all h
  refine (runShapes_tot hl h1).bind ?_
  rintro _ ⟨rfl, _⟩
  simp only [tot_cond, tot_some, decide_eq_true_eq, decide_eq_false_iff_not, len, rN_eq]
  have hle := rN_le ops
  refine ⟨fun hlt => by unfold leastP; rw [if_neg (fun hc => by omega)], fun hge => ?_⟩
  have hn : rN ops = ops.length := by omega
  have hL : leastP ops = (⟨(ops.length : Int), ((rM ops).N.length : Int), maxP (traceM (fun m => (m.S.length : Int)) ops (rN ops)), classesP ops⟩, true) := by unfold leastP; rw [if_pos ⟨h, hn⟩]
  refine (s_DepthsOf_tot hl).bind ?_
  rintro _ rfl
  rw [if_pos h, hL]
  have htl := traceM_len (fun m => (m.S.length : Int)) ops (rN ops)
  generalize traceM (fun m => (m.S.length : Int)) ops (rN ops) = tr at htl
  have key := loop_Z56_L0 (Q := fun _ _ _ _ _ _ _ _ _ _ _ _ r => r = ((((ops.length : Int), ((rM ops).N.length : Int), maxP tr, classesP ops, ()), true, ()), ()))
    (I := fun o a b c K Fu S M D dp l i => o = ops ∧ K = (rM ops).N.map (·.1) ∧ l = tr ∧ ∃ j : Nat, i = (j : Int) ∧ j ≤ tr.length ∧ dp = maxP (tr.take j)) (μ := fun _ _ _ _ _ _ _ _ _ _ _ i => (tr.length - i).toNat) ?_
  · refine key _ _ _ _ _ _ _ _ _ _ _ 0 ⟨rfl, ?_, rfl, 0, rfl, Nat.zero_le _, rfl⟩
    rw [rM_sh]; rfl
  intro o a b c K Fu S M D dp l i ⟨e1, e2, e3, j, e4, hj, e5⟩ again hag ih
  subst e1 e2 e3 e4 e5
  unfold B_Z56_L0b
  simp only [tot_cond, tot_chk, decide_eq_true_eq, decide_eq_false_iff_not, inb_iff, Int.toNat_natCast, len]
  refine ⟨fun hlt => ⟨by omega, by omega, ?_⟩, fun hge => ?_⟩
  · have hjl : j < l.length := by omega
    rw [w64_succ (by omega) (by omega)]
    refine ih _ _ _ _ _ _ _ _ _ _ _ _ ⟨rfl, rfl, rfl, j + 1, rfl, hjl, ?_⟩ (by simp; omega)
    have e : l.take (j + 1) = l.take j ++ [l.getD j 0] := by
      rw [List.take_add_one, List.getElem?_eq_getElem hjl, List.getD_eq_getElem?_getD, List.getElem?_eq_getElem hjl]; rfl
    rw [e]
    unfold maxP
    rw [List.foldl_append]
    rfl
  · have : j = l.length := by omega
    subst this
    refine (s_ClassesIn_tot hl).bind ?_
    rintro _ rfl
    rw [tot_some, List.take_length, List.length_map]
theorem someRules_tot {b : List Int} {p : Int} (h : RD b p) (hp : p ≤ 91000000) {ops : List POp} (hl : ops.length ≤ 900000000000) : Tot (fun σ => F_Z62 (σ 0) b p ops) (Drawn b p 20 fun x => ∃ r : Ru, x = ((r.st, r.nd, r.dp, r.cl, ()), ()) ∧ r.cl.length ≤ 10) := by
  refine tot_Z62 ?_
  unfold B_Z62
  refine (pick_tot h (by omega) (by omega)).bind ?_
  rintro _ ⟨_, q1, rfl, a1, b1, v1, rfl, _⟩
  have h1 := h.next a1 (by omega)
  refine (one_tot h1 (by omega) (by simp) (by simp)).bind ?_
  rintro _ ⟨_, q2, rfl, a2, b2, v2, rfl, _⟩
  have h2 := h1.next a2 (by omega)
  refine (pick_tot h2 (by omega) (by omega)).bind ?_
  rintro _ ⟨_, q3, rfl, a3, b3, v3, rfl, _⟩
  have h3 := h2.next a3 (by omega)
  refine (one_tot h3 (by omega) (by simp) (by simp)).bind ?_
  rintro _ ⟨_, q4, rfl, a4, b4, v4, rfl, _⟩
  have h4 := h3.next a4 (by omega)
  refine (pick_tot h4 (by omega) (by omega)).bind ?_
  rintro _ ⟨_, q5, rfl, a5, b5, v5, rfl, _⟩
  have h5 := h4.next a5 (by omega)
  refine (one_tot h5 (by omega) (by simp) (by simp)).bind ?_
  rintro _ ⟨_, q6, rfl, a6, b6, v6, rfl, _⟩
  have h6 := h5.next a6 (by omega)
  refine (pick_tot h6 (by omega) (by omega)).bind ?_
  rintro _ ⟨_, q7, rfl, a7, b7, v7, rfl, _⟩
  have h7 := h6.next a7 (by omega)
  have j0 : ∀ (x1 x2 x3 st nd dp : Int) (cl : List Int), cl.length ≤ 10 → Tot (fun σ => B_Z62_J0 (σ 0) (F_Z34 (σ 0)) (F_Z43 (σ 0)) (F_Z56 (σ 0)) (F_Z36 (σ 0)) b q7 x1 x2 x3 st nd dp cl) (Drawn b p 20 fun x => ∃ r : Ru, x = ((r.st, r.nd, r.dp, r.cl, ()), ()) ∧ r.cl.length ≤ 10) := by
    intro x1 x2 x3 st nd dp cl hcl
    unfold B_Z62_J0 B_Z62_J1
    refine (pick_tot h7 (by omega) (by omega)).bind ?_
    rintro _ ⟨_, q8, rfl, a8, b8, v8, rfl, _⟩
    have h8 := h7.next a8 (by omega)
    simp only [tot_cond, tot_jn, tot_some]
    refine ⟨fun _ => ?_, fun _ => ⟨fun _ => ⟨_, q8, rfl, by omega, by omega, ⟨_, _, _, _⟩, rfl, hcl⟩, fun _ => ⟨fun _ => ⟨_, q8, rfl, by omega, by omega, ⟨_, _, _, _⟩, rfl, hcl⟩, fun _ => ⟨fun _ => ⟨_, q8, rfl, by omega, by omega, ⟨_, _, _, _⟩, rfl, hcl⟩, fun _ => ⟨fun _ => ?_, fun _ => ⟨_, q8, rfl, by omega, by omega, ⟨_, _, _, _⟩, rfl, hcl⟩⟩⟩⟩⟩⟩
    · refine (pick_tot h8 (by omega) (by omega)).bind ?_
      rintro _ ⟨_, q9, rfl, a9, b9, v9, rfl, _⟩
      rw [tot_jn, tot_some]
      exact ⟨_, q9, rfl, by omega, by omega, ⟨st, nd, dp, [v9]⟩, rfl, by simp⟩
    · have one2 : Tot (fun σ => F_Z36 (σ 0) b q8 [[1, 1], [10], [(-1)], []]) (Drawn b q8 1 fun x => ∃ l : List Int, x = (l, ()) ∧ l.length ≤ 10) := by
        refine tot_Z36 ?_
        unfold B_Z36
        refine (pick_tot h8 (by omega) (by unfold len; simp)).bind ?_
        rintro _ ⟨_, q9, rfl, a9, b9, v9, rfl, hv0, hv1⟩
        have hv1 := hv1 (by unfold len; simp)
        rw [tot_chk]
        unfold len at hv1
        simp only [List.length_cons, List.length_nil] at hv1
        refine ⟨inb_iff.2 ⟨hv0, by simp only [List.length_cons, List.length_nil]; omega⟩, ?_⟩
        have hm : rdx ([] : List Int) [[1, 1], [10], [(-1)], []] v9 ∈ [[1, 1], [10], [(-1)], ([] : List Int)] := rdx_mem hv0 (by simp only [List.length_cons, List.length_nil]; omega)
        have hll : (rdx ([] : List Int) [[1, 1], [10], [(-1)], []] v9).length ≤ 2 := by
          simp only [List.mem_cons, List.not_mem_nil, or_false] at hm
          rcases hm with e | e | e | e <;> rw [e] <;> simp
        refine (copyInts_tot (l := rdx ([] : List Int) [[1, 1], [10], [(-1)], []] v9) (by omega)).bind ?_
        rintro _ rfl
        rw [tot_some]
        exact ⟨_, q9, rfl, a9, b9, rdx ([] : List Int) [[1, 1], [10], [(-1)], []] v9, rfl, by omega⟩
      refine one2.bind ?_
      rintro _ ⟨_, q9, rfl, a9, b9, l, rfl, hll⟩
      rw [tot_jn, tot_some]
      exact ⟨_, q9, rfl, by omega, by omega, ⟨st, nd, dp, l⟩, rfl, hll⟩
  simp only [tot_cond, tot_jn]
  refine ⟨fun _ => (s_LeastRules_tot hl).bind ?_, fun _ => j0 _ _ _ _ _ _ _ (by simp)⟩
  rintro _ rfl
  simp only [tot_cond, tot_jn]
  refine ⟨fun _ => j0 _ _ _ _ _ _ _ ?_, fun _ => j0 _ _ _ _ _ _ _ (by simp)⟩
  unfold leastP
  split
  · exact classesP_len ops
  · simp
theorem DrawSafeRun_tot {code : List Int} (hc : ∀ z ∈ code, 0 ≤ z ∧ z ≤ 255) (hl : code.length ≤ 1048576) : Tot (fun σ => F_Z38 (σ 0) code) (fun r => ∃ (ops : List POp) (x : Ru), r = ((ops, (x.st, x.nd, x.dp, x.cl, ()), ()), ()) ∧ ops.length ≤ 500000000000 ∧ x.cl.length ≤ 10) := by
  refine tot_Z38 ?_
  unfold B_Z38
  refine (newReader_tot hc hl).bind ?_
  rintro _ ⟨b, rfl, hb⟩
  refine (someOps_tot hb (by omega)).bind ?_
  rintro _ ⟨_, q, rfl, hq1, hq2, ops, rfl, hl⟩
  refine (someRules_tot (hb.next hq1 (by omega)) (by omega) (ops := ops) (by omega)).bind ?_
  rintro _ ⟨_, q2, rfl, _, _, r, rfl, hr⟩
  rw [tot_some]
  exact ⟨ops, r, rfl, hl, hr⟩
end Go.Gx

/-
  Laws, part SO0: small words.
-/
set_option linter.unusedVariables false
set_option linter.unusedSimpArgs false
namespace Go.Gx
theorem w64n_pred {j : Nat} (h1 : 1 ≤ j) (h2 : j ≤ 1000000) : w64 ((j : Int) - 1) = ((j - 1 : Nat) : Int) := by rw [w64_id (by omega) (by omega)]; omega
theorem w64n_succ {j : Nat} (h2 : j ≤ 1000000) : w64 ((j : Int) + 1) = ((j + 1 : Nat) : Int) := by rw [w64_id (by omega) (by omega)]; omega
theorem w64n_add {i j : Nat} (h2 : i + j ≤ 1000000) : w64 ((i : Int) + (j : Int)) = ((i + j : Nat) : Int) := by rw [w64_id (by omega) (by omega)]; omega
theorem w64n_sub {i j : Nat} (h1 : j ≤ i) (h2 : i ≤ 1000000) : w64 ((i : Int) - (j : Int)) = ((i - j : Nat) : Int) := by rw [w64_id (by omega) (by omega)]; omega
theorem w64n_two {i : Nat} (h2 : i ≤ 1000000) : w64 (2 * (i : Int)) = ((2 * i : Nat) : Int) := by rw [w64_id (by omega) (by omega)]; omega
theorem inbn {j n : Nat} : inb (j : Int) n = true ↔ j < n := by rw [inb_iff]; omega

end Go.Gx

/-
  Laws, part SO1: slices.Sort: insertion, heap, the turning round.
-/
set_option linter.unusedVariables false
set_option linter.unusedSimpArgs false
namespace Go.Gx
open Go.Sort
theorem ga (l : List Int) (i : Nat) : l.toArray[i]! = l.getD i 0 := by
  rw [List.getD_eq_getElem?_getD]
  simp only [getElem!_def, List.getElem?_toArray]
  cases l[i]? <;> rfl
theorem sw (l : List Int) (i j : Nat) : swp l.toArray i j = ((l.set i (l.getD j 0)).set j (l.getD i 0)).toArray := by
  unfold swp
  rw [ga, ga]
  simp
theorem less_tot (x y : Int) : Tot (fun σ => F_Z47 (σ 0) x y) (fun r => r = ((ltInt x y, ()), ())) := by
  have nan : ∀ z : Int, Tot (fun σ => F_Z40 (σ 0) z) (fun r => r = ((false, ()), ())) := fun z => by
    refine tot_Z40 ?_
    unfold B_Z40
    rw [tot_some]; simp
  refine tot_Z47 ?_
  unfold B_Z47
  refine (nan x).bind ?_
  rintro _ rfl
  rw [tot_cond]
  refine ⟨fun h => absurd h (by decide), fun _ => ?_⟩
  rw [tot_some]; rfl

theorem insOuter_lt {a b i : Nat} (d : Array Int) (h : i < b) : insOuter ltInt a b i d = insOuter ltInt a b (i + 1) (insInner ltInt a i d) := by
  rw [insOuter, if_pos h]
theorem insOuter_ge {a b i : Nat} (d : Array Int) (h : ¬ i < b) : insOuter ltInt a b i d = d := by
  rw [insOuter, if_neg h]
theorem insertionSort_tot {l : List Int} {a b : Nat} (hb : b ≤ l.length) (hl : l.length ≤ 1000) (ha : a ≤ l.length) :
    Tot (fun σ => F_Z6 (σ 0) l (a : Int) (b : Int)) (fun r => r = ((), ((insertionSort ltInt l.toArray a b).toList, ()))) := by
  refine tot_Z6 ?_
  unfold B_Z6
  rw [w64n_succ (by omega)]
  have key := loop_Z6_L2 (Q := fun d x y i r => r = ((), ((insOuter ltInt a b i.toNat d.toArray).toList, ()))) (I := fun d x y i => x = (a : Int) ∧ y = (b : Int) ∧ d.length = l.length ∧ ∃ n : Nat, i = (n : Int) ∧ n ≤ l.length + 1) (μ := fun _ _ _ i => (b - i).toNat) ?_
  · have := key l a b ((a + 1 : Nat) : Int) ⟨rfl, rfl, rfl, a + 1, rfl, by omega⟩
    rw [Int.toNat_natCast] at this
    exact this
  rintro d _ _ _ ⟨rfl, rfl, hd, n, rfl, hn⟩ again hag ih
  unfold B_Z6_L2b
  simp only [Int.toNat_natCast]
  rw [tot_cond]
  refine ⟨fun h => ?_, fun h => ?_⟩
  · have h := of_decide_eq_true h
    have hnb : n < b := by omega
    rw [insOuter_lt _ hnb]
    have key1 := loop_Z6_L1 hag (Q := fun d x y i j r => r = ((), ((insOuter ltInt a b (n + 1) (insInner ltInt a j.toNat d.toArray)).toList, ()))) (I := fun d x y i j => x = (a : Int) ∧ y = (b : Int) ∧ i = (n : Int) ∧ d.length = l.length ∧ ∃ q : Nat, j = (q : Int) ∧ q ≤ n) (μ := fun _ _ _ _ j => j.toNat) ?_
    · have := key1 d a b n n ⟨rfl, rfl, rfl, hd, n, rfl, Nat.le_refl _⟩
      rw [Int.toNat_natCast] at this
      exact this
    rintro d _ _ _ _ ⟨rfl, rfl, rfl, hd, q, rfl, hq⟩ again1 hag1 ih1
    unfold B_Z6_L1b
    simp only [Int.toNat_natCast]
    have stop : insInner ltInt a q d.toArray = d.toArray → Tot (fun σ => B_Z6_J0 (σ 0) (F_Z47 (σ 0)) (again1 σ) (again σ) d (a : Int) (b : Int) (n : Int) (q : Int) false) (fun r => r = ((), ((insOuter ltInt a b (n + 1) (insInner ltInt a q d.toArray)).toList, ()))) := by
      intro he
      unfold B_Z6_J0
      rw [tot_cond]
      refine ⟨fun h => absurd h (by decide), fun _ => ?_⟩
      rw [he, w64n_succ (by omega)]
      have := ih d a b ((n + 1 : Nat) : Int) ⟨rfl, rfl, hd, n + 1, rfl, by omega⟩ (by omega)
      rw [Int.toNat_natCast] at this
      exact this
    rw [tot_cond]
    refine ⟨fun h => ?_, fun h => ?_⟩
    · have h := of_decide_eq_true h
      obtain ⟨q', rfl⟩ : ∃ q', q = q' + 1 := ⟨q - 1, by omega⟩
      rw [w64n_pred (by omega) (by omega), Nat.add_sub_cancel]
      simp only [tot_chk, inbn, decide_eq_true_eq, Int.toNat_natCast]
      refine ⟨by omega, by omega, by omega, by omega, (less_tot _ _).bind ?_⟩
      rintro _ rfl
      rw [tot_jn]
      cases hlt : ltInt (d.getD (q' + 1) 0) (d.getD q' 0) with
      | false =>
        refine stop ?_
        rw [insInner, ga, ga, hlt]
        simp
      | true =>
        have e : insInner ltInt a (q' + 1) d.toArray = insInner ltInt a q' ((d.set (q' + 1) (d.getD q' 0)).set q' (d.getD (q' + 1) 0)).toArray := by
          rw [insInner, ga, ga, hlt, sw, if_pos (by simp; omega)]
        rw [e]
        show Tot (fun σ => B_Z6_J0 (σ 0) (F_Z47 (σ 0)) (again1 σ) (again σ) d (a : Int) (b : Int) (n : Int) ((q' + 1 : Nat) : Int) true) _
        unfold B_Z6_J0
        rw [tot_cond]
        refine ⟨fun _ => ?_, fun h => absurd h (by decide)⟩
        rw [w64n_pred (by omega) (by omega), Nat.add_sub_cancel]
        simp only [tot_chk, inbn, decide_eq_true_eq, Int.toNat_natCast, List.length_set]
        refine ⟨by omega, by omega, by omega, by omega, by omega, by omega, by omega, by omega, ?_⟩
        have := fun (dd : List Int) (hdd : dd.length = l.length) => ih1 dd a b n (q' : Int) ⟨rfl, rfl, rfl, hdd, q', rfl, by omega⟩ (by omega)
        simp only [Int.toNat_natCast] at this
        exact this _ (by rw [List.length_set, List.length_set]; exact hd)
    · have h := of_decide_eq_false h
      rw [tot_jn]
      refine stop ?_
      cases q with
      | zero => rw [insInner]
      | succ q =>
        rw [insInner, if_neg]
        simp only [Bool.and_eq_true, decide_eq_true_eq, not_and]
        intro h'; omega
  · rw [tot_some, insOuter_ge _ (by have := of_decide_eq_false h; omega)]

theorem siftDown_tot {l : List Int} {hi first root : Nat} (h : first + hi ≤ l.length) (hl : l.length ≤ 1000) (hr : root ≤ 1000) :
    Tot (fun σ => F_Z12 (σ 0) l (root : Int) (hi : Int) (first : Int)) (fun r => r = ((), ((siftDown ltInt hi first root l.toArray).toList, ()))) := by
  refine tot_Z12 ?_
  unfold B_Z12
  have key := loop_Z12_L2 (Q := fun d x y i r => r = ((), ((siftDown ltInt hi first i.toNat d.toArray).toList, ()))) (I := fun d x y i => x = (hi : Int) ∧ y = (first : Int) ∧ d.length = l.length ∧ ∃ n : Nat, i = (n : Int) ∧ n ≤ 1000) (μ := fun _ _ _ i => (1000 - i).toNat) ?_
  · have := key l hi first (root : Int) ⟨rfl, rfl, rfl, root, rfl, by omega⟩
    rw [Int.toNat_natCast] at this
    exact this
  rintro d _ _ _ ⟨rfl, rfl, hd, n, rfl, hn⟩ again hag ih
  unfold B_Z12_L2b
  rw [Int.toNat_natCast, w64n_two (by omega), w64n_succ (by omega), w64n_succ (by omega)]
  rw [tot_cond]
  refine ⟨fun h => ?_, fun h => ?_⟩
  · have h := of_decide_eq_true h
    rw [tot_some, siftDown, dif_pos (by omega)]
  have h := of_decide_eq_false h
  have hlt : 2 * n + 1 < hi := by omega
  have j1 : ∀ c : Nat, n < c → c < hi → (ltInt (d.getD (first + n) 0) (d.getD (first + c) 0) = false → siftDown ltInt hi first n d.toArray = d.toArray) →
      (ltInt (d.getD (first + n) 0) (d.getD (first + c) 0) = true → siftDown ltInt hi first n d.toArray = siftDown ltInt hi first c (swp d.toArray (first + n) (first + c))) →
      Tot (fun σ => B_Z12_J1 (σ 0) (F_Z47 (σ 0)) (again σ) d (hi : Int) (first : Int) (n : Int) (c : Int)) (fun r => r = ((), ((siftDown ltInt hi first n d.toArray).toList, ()))) := by
    intro c hnc hc e0 e1
    unfold B_Z12_J1
    rw [w64n_add (by omega), w64n_add (by omega)]
    simp only [tot_chk, inbn, decide_eq_true_eq, Int.toNat_natCast, List.length_set]
    refine ⟨by omega, by omega, by omega, by omega, (less_tot _ _).bind ?_⟩
    rintro _ rfl
    rw [tot_cond]
    refine ⟨fun h => ?_, fun h => ?_⟩
    · rw [tot_some, e0 (by simpa using h)]
    · simp only [tot_chk, inbn, decide_eq_true_eq, Int.toNat_natCast, List.length_set]
      refine ⟨by omega, by omega, by omega, by omega, by omega, by omega, by omega, by omega, ?_⟩
      have := fun (dd : List Int) (hdd : dd.length = l.length) => ih dd hi first (c : Int) ⟨rfl, rfl, hdd, c, rfl, by omega⟩ (by omega)
      simp only [Int.toNat_natCast] at this
      rw [e1 (by simpa using h), sw]
      exact this _ (by rw [List.length_set, List.length_set]; exact hd)
  have j0 : ∀ t : Bool, (t = (decide (2 * n + 1 + 1 < hi) && ltInt (d.getD (first + (2 * n + 1)) 0) (d.getD (first + (2 * n + 1) + 1) 0))) →
      Tot (fun σ => B_Z12_J0 (σ 0) (F_Z47 (σ 0)) (again σ) d (hi : Int) (first : Int) (n : Int) ((2 * n + 1 : Nat) : Int) t) (fun r => r = ((), ((siftDown ltInt hi first n d.toArray).toList, ()))) := by
    intro t ht
    unfold B_Z12_J0
    rw [tot_cond]
    refine ⟨fun h => ?_, fun h => ?_⟩
    · rw [ht] at h
      have h2 := h
      simp only [Bool.and_eq_true, decide_eq_true_eq] at h2
      rw [tot_jn, w64n_succ (by omega)]
      refine j1 (2 * n + 1 + 1) (by omega) h2.1 (fun e => ?_) (fun e => ?_)
      · rw [siftDown, dif_neg (by omega), if_pos (by rw [ga, ga]; exact h), if_pos (by rw [ga, ga, e]; rfl)]
      · rw [siftDown, dif_neg (by omega), if_pos (by rw [ga, ga]; exact h), if_neg (by rw [ga, ga, e]; decide), dif_pos (by omega)]
    · rw [ht] at h
      rw [tot_jn]
      refine j1 (2 * n + 1) (by omega) hlt (fun e => ?_) (fun e => ?_)
      · rw [siftDown, dif_neg (by omega), if_neg (by rw [ga, ga, h]; decide), if_pos (by rw [ga, ga, e]; rfl)]
      · rw [siftDown, dif_neg (by omega), if_neg (by rw [ga, ga, h]; decide), if_neg (by rw [ga, ga, e]; decide)]
  rw [tot_cond]
  refine ⟨fun h => ?_, fun h => ?_⟩
  · have h := of_decide_eq_true h
    rw [w64n_add (by omega), w64n_succ (by omega)]
    simp only [tot_chk, inbn, decide_eq_true_eq, Int.toNat_natCast, List.length_set]
    refine ⟨by omega, by omega, by omega, by omega, (less_tot _ _).bind ?_⟩
    rintro _ rfl
    rw [tot_jn]
    exact j0 _ (by rw [decide_eq_true (by omega : 2 * n + 1 + 1 < hi)]; rfl)
  · have h := of_decide_eq_false h
    rw [tot_jn]
    exact j0 _ (by rw [decide_eq_false (by omega : ¬ 2 * n + 1 + 1 < hi)]; rfl)
theorem siftDown_size {hi first : Nat} : ∀ (n root : Nat) (d : Array Int), hi - root ≤ n → (siftDown ltInt hi first root d).size = d.size := by
  intro n
  induction n with
  | zero => intro root d h; rw [siftDown, dif_pos (by omega)]
  | succ n ih =>
    intro root d h
    rw [siftDown]
    split
    · rfl
    · split <;> split
      · rfl
      · split
        · rw [ih _ _ (by omega), swp_size]
        · rfl
      · rfl
      · rw [ih _ _ (by omega), swp_size]
theorem heapSort_tot {l : List Int} {a b : Nat} (hb : b ≤ l.length) (hl : l.length ≤ 1000) (ha : a < b) :
    Tot (fun σ => F_Z11 (σ 0) l (a : Int) (b : Int)) (fun r => r = ((), ((heapSort ltInt l.toArray a b).toList, ()))) := by
  refine tot_Z11 ?_
  unfold B_Z11
  rw [w64n_sub (by omega) (by omega), w64n_pred (by omega) (by omega)]
  have ed : w64 (((b - a - 1 : Nat) : Int).tdiv 2) = (((b - a - 1) / 2 : Nat) : Int) := by
    rw [Int.tdiv_eq_ediv_of_nonneg (by omega), w64_id (by omega) (by omega)]; omega
  rw [ed]
  have key := loop_Z11_L0 (Q := fun d x y z i r => r = ((), ((heapPop ltInt a (b - a) (heapBuild ltInt (b - a) a (i + 1).toNat d.toArray)).toList, ()))) (I := fun d x y z i => x = (a : Int) ∧ y = 0 ∧ z = ((b - a : Nat) : Int) ∧ d.length = l.length ∧ ∃ k : Nat, i = (k : Int) - 1 ∧ k ≤ 1000) (μ := fun _ _ _ _ i => (i + 1).toNat) ?_
  · have := key l a 0 ((b - a : Nat) : Int) (((b - a - 1) / 2 : Nat) : Int) ⟨rfl, rfl, rfl, rfl, (b - a - 1) / 2 + 1, by omega, by omega⟩
    rw [show ((((b - a - 1) / 2 : Nat) : Int) + 1).toNat = (b - a - 1) / 2 + 1 by omega] at this
    exact this
  rintro d _ _ _ _ ⟨rfl, rfl, rfl, hd, k, rfl, hk⟩ again hag ih
  unfold B_Z11_L0b
  rw [show ((k : Int) - 1 + 1).toNat = k by omega, tot_cond]
  refine ⟨fun h => ?_, fun h => ?_⟩
  · have h := of_decide_eq_true h
    obtain ⟨q, rfl⟩ : ∃ q, k = q + 1 := ⟨k - 1, by omega⟩
    rw [show (((q + 1 : Nat) : Int) - 1) = (q : Int) by omega]
    refine (siftDown_tot (by omega) (by omega) (by omega)).bind ?_
    rintro _ rfl
    rw [w64_id (by omega) (by omega)]
    have := fun (dd : List Int) (hdd : dd.length = l.length) => ih dd a 0 ((b - a : Nat) : Int) ((q : Int) - 1) ⟨rfl, rfl, rfl, hdd, q, rfl, by omega⟩ (by omega)
    simp only [show ((q : Int) - 1 + 1).toNat = q by omega] at this
    exact this _ (by rw [Array.length_toList, siftDown_size _ _ _ (Nat.le_refl _)]; simpa using hd)
  · have h := of_decide_eq_false h
    obtain rfl : k = 0 := by omega
    rw [heapBuild, w64n_pred (by omega) (by omega)]
    have key1 := loop_Z11_L1 (Q := fun d x y i r => r = ((), ((heapPop ltInt a (i + 1).toNat d.toArray).toList, ()))) (I := fun d x y i => x = (a : Int) ∧ y = 0 ∧ d.length = l.length ∧ ∃ k : Nat, i = (k : Int) - 1 ∧ k ≤ b - a) (μ := fun _ _ _ i => (i + 1).toNat) ?_
    · have := key1 d a 0 ((b - a - 1 : Nat) : Int) ⟨rfl, rfl, hd, b - a, by omega, by omega⟩
      rw [show (((b - a - 1 : Nat) : Int) + 1).toNat = b - a by omega] at this
      exact this
    rintro d _ _ _ ⟨rfl, rfl, hd, k, rfl, hk⟩ again1 hag1 ih1
    unfold B_Z11_L1b
    rw [show ((k : Int) - 1 + 1).toNat = k by omega, tot_cond]
    refine ⟨fun h => ?_, fun h => ?_⟩
    · have h := of_decide_eq_true h
      obtain ⟨q, rfl⟩ : ∃ q, k = q + 1 := ⟨k - 1, by omega⟩
      rw [show (((q + 1 : Nat) : Int) - 1) = (q : Int) by omega, w64n_add (by omega)]
      simp only [tot_chk, inbn, decide_eq_true_eq, Int.toNat_natCast, List.length_set]
      refine ⟨by omega, by omega, by omega, by omega, by omega, by omega, by omega, by omega, (siftDown_tot (root := 0) (by rw [List.length_set, List.length_set]; omega) (by rw [List.length_set, List.length_set]; omega) (by omega)).bind ?_⟩
      rintro _ rfl
      rw [w64_id (by omega) (by omega)]
      have := fun (dd : List Int) (hdd : dd.length = l.length) => ih1 dd a 0 ((q : Int) - 1) ⟨rfl, rfl, hdd, q, rfl, by omega⟩ (by omega)
      simp only [show ((q : Int) - 1 + 1).toNat = q by omega] at this
      rw [heapPop, sw]
      exact this _ (by rw [Array.length_toList, siftDown_size _ _ _ (Nat.le_refl _)]; simpa using hd)
    · have h := of_decide_eq_false h
      obtain rfl : k = 0 := by omega
      rw [tot_some, heapPop]
theorem swP {l : List Int} {a b i j : Nat} (h1 : a ≤ i) (h2 : i < b) (h3 : a ≤ j) (h4 : j < b) (hb : b ≤ l.length) : PermIn a b l.toArray ((l.set i (l.getD j 0)).set j (l.getD i 0)).toArray := by
  rw [← sw]
  exact swp_permIn l.toArray a b i j h1 h2 h3 h4 (by simpa using hb)
theorem reverse_tot {l : List Int} {a b : Nat} (hb : b ≤ l.length) (hl : l.length ≤ 1000) (ha : a < b) :
    Tot (fun σ => F_Z7 (σ 0) l (a : Int) (b : Int)) (fun r => ∃ l' : List Int, r = ((), (l', ())) ∧ PermIn a b l.toArray l'.toArray) := by
  refine tot_Z7 ?_
  unfold B_Z7
  rw [w64n_pred (by omega) (by omega)]
  have key := loop_Z7_L0 (Q := fun d i j r => ∃ l' : List Int, r = ((), (l', ())) ∧ PermIn a b l.toArray l'.toArray) (I := fun d i j => PermIn a b l.toArray d.toArray ∧ ∃ p q : Nat, i = (p : Int) ∧ j = (q : Int) ∧ a ≤ p ∧ q < b ∧ p ≤ q + 1) (μ := fun _ i j => (j - i).toNat) ?_
  · exact key l a ((b - 1 : Nat) : Int) ⟨permIn_refl _ _ _, a, b - 1, rfl, rfl, by omega, by omega, by omega⟩
  rintro d _ _ ⟨hp, p, q, rfl, rfl, h1, h2, h3⟩ again hag ih
  have hd : d.length = l.length := by simpa using hp.1
  unfold B_Z7_L0b
  rw [tot_cond]
  refine ⟨fun h => ?_, fun h => ?_⟩
  · have h := of_decide_eq_true h
    simp only [tot_chk, inbn, decide_eq_true_eq, Int.toNat_natCast, List.length_set]
    refine ⟨by omega, by omega, by omega, by omega, by omega, by omega, by omega, by omega, ?_⟩
    rw [w64n_succ (by omega), w64n_pred (by omega) (by omega)]
    exact ih _ _ _ ⟨permIn_trans _ _ _ a b hp (swP (by omega) (by omega) (by omega) (by omega) (by omega)), p + 1, q - 1, rfl, rfl, by omega, by omega, by omega⟩ (by omega)
  · rw [tot_some]
    exact ⟨d, rfl, hp⟩
end Go.Gx

/-
  Laws, part SO2: slices.Sort: broken patterns.
-/
set_option linter.unusedVariables false
set_option linter.unusedSimpArgs false
namespace Go.Gx
open Go.Sort
theorem lenTab : ∀ y : Fin 256, B_Z76_J2 0 (y.val : Int) 0 = some ((((bitsLen y.val : Nat) : Int), ()), ()) ∧ B_Z76_J2 0 (y.val : Int) 8 = some ((((8 + bitsLen y.val : Nat) : Int), ()), ()) := by decide +kernel
theorem bitsLen_tot {x : Nat} (hx : x < 65536) : Tot (fun σ => F_bits_Len (σ 0) (x : Int)) (fun r => ∃ L : Nat, r = (((L : Int), ()), ()) ∧ x < 2 ^ L ∧ (0 < x → 2 ^ L ≤ 2 * x) ∧ L ≤ 17) := by
  refine tot_bits_Len ?_
  unfold B_bits_Len
  refine Tot.bind (P := fun r => ∃ L : Nat, r = (((L : Int), ()), ()) ∧ x < 2 ^ L ∧ (0 < x → 2 ^ L ≤ 2 * x) ∧ L ≤ 17) ?_ ?_
  · refine tot_Z76 ?_
    unfold B_Z76
    rw [tot_cond]
    refine ⟨fun h => by have := of_decide_eq_true h; omega, fun _ => ?_⟩
    rw [tot_jn]
    unfold B_Z76_J0
    rw [tot_cond]
    refine ⟨fun h => by have := of_decide_eq_true h; simp only at this; omega, fun _ => ?_⟩
    rw [tot_jn]
    unfold B_Z76_J1
    simp only
    rw [tot_cond]
    refine ⟨fun h => ?_, fun h => ?_⟩
    · have h := of_decide_eq_true h
      have e1 : shrK .u64 (x : Int) 8 = ((x / 256 : Nat) : Int) := by
        unfold shrK
        rw [show (2 ^ min (8 : Int).toNat IntKind.u64.bits : Int) = 256 by decide]
        rw [Int.fdiv_eq_ediv_of_nonneg _ (by decide)]; omega
      rw [tot_jn, e1, show w64 (0 + 8) = 8 by decide]
      have := (lenTab ⟨x / 256, by omega⟩).2
      simp only at this
      have e2 : ∀ k, B_Z76_J2 k ((x / 256 : Nat) : Int) 8 = B_Z76_J2 0 ((x / 256 : Nat) : Int) 8 := fun _ => rfl
      simp only [e2, this, tot_some]
      have h1 := lt_two_pow_bitsLen (x / 256)
      have h2 := two_pow_bitsLen_le (n := x / 256) (by omega)
      have h3 := (bitsLen_le_iff (x / 256) 8).2 (by omega)
      refine ⟨_, rfl, ?_, fun _ => ?_, by omega⟩
      · rw [Nat.pow_add]; omega
      · rw [Nat.pow_add]; omega
    · have h := of_decide_eq_false h
      rw [tot_jn]
      have := (lenTab ⟨x, by omega⟩).1
      simp only at this
      have e2 : ∀ k, B_Z76_J2 k (x : Int) 0 = B_Z76_J2 0 (x : Int) 0 := fun _ => rfl
      simp only [e2, this, tot_some]
      exact ⟨_, rfl, lt_two_pow_bitsLen x, fun h => two_pow_bitsLen_le h, by have := (bitsLen_le_iff x 8).2 (by omega); omega⟩
  · rintro _ ⟨L, rfl, h⟩
    rw [tot_some]
    exact ⟨L, rfl, h⟩
theorem wrap_id {z : Int} (h1 : 0 ≤ z) (h2 : z ≤ 4294967296) : IntKind.wrap .u64 z = z := by
  unfold IntKind.wrap
  simp [IntKind.bits, IntKind.signed]
  omega
theorem pow2_tot {x : Nat} (h1 : 0 < x) (hx : x < 65536) : Tot (fun σ => F_Z19 (σ 0) (x : Int)) (fun r => ∃ m : Nat, r = (((m : Int), ()), ()) ∧ 0 < m ∧ m ≤ 2 * x) := by
  refine tot_Z19 ?_
  unfold B_Z19
  rw [wrap_id (by omega) (by omega)]
  refine (bitsLen_tot hx).bind ?_
  rintro _ ⟨L, rfl, h2, h3, h4⟩
  rw [tot_chk]
  refine ⟨decide_eq_true (by simp), ?_⟩
  rw [tot_some]
  refine ⟨2 ^ L, ?_, Nat.two_pow_pos L, h3 h1⟩
  have : shlK .u64 1 (L : Int) = ((2 ^ L : Nat) : Int) := by
    unfold shlK
    rw [Int.toNat_natCast, show min L IntKind.u64.bits = L by simp [IntKind.bits]; omega, wrap_id (by rw [Int.one_mul]; exact_mod_cast Nat.zero_le _) ?_]
    · simp
    · rw [Int.one_mul]
      have : 2 ^ L ≤ 2 ^ 17 := Nat.pow_le_pow_right (by decide) h4
      have h5 : ((2 ^ L : Nat) : Int) ≤ 4294967296 := by omega
      simpa using h5
  simp only [this]
theorem andK_le {r : Int} {m : Nat} (h1 : 0 < m) (h2 : m ≤ 1000000) : ∃ o : Nat, andK .u64 r (IntKind.wrap .u64 ((m : Int) - 1)) = (o : Int) ∧ o < m := by
  rw [wrap_id (by omega) (by omega)]
  unfold andK
  have hb : (BitVec.ofInt IntKind.u64.bits ((m : Int) - 1)).toNat = m - 1 := by
    simp [IntKind.bits, BitVec.toNat_ofInt]
    omega
  have h : (BitVec.ofInt IntKind.u64.bits r &&& BitVec.ofInt IntKind.u64.bits ((m : Int) - 1)).toNat ≤ m - 1 := by
    rw [BitVec.toNat_and, hb]
    exact Nat.and_le_right
  exact ⟨_, wrap_id (by omega) (by omega), by omega⟩
theorem break_tot {l : List Int} {a b : Nat} (hb : b ≤ l.length) (hl : l.length ≤ 1000) (ha : a + 12 < b) :
    Tot (fun σ => F_Z5 (σ 0) l (a : Int) (b : Int)) (fun r => ∃ l' : List Int, r = ((), (l', ())) ∧ PermIn a b l.toArray l'.toArray) := by
  refine tot_Z5 ?_
  unfold B_Z5
  rw [w64n_sub (by omega) (by omega), tot_cond]
  refine ⟨fun _ => ?_, fun h => by have := of_decide_eq_false h; omega⟩
  refine (pow2_tot (by omega) (by omega)).bind ?_
  rintro _ ⟨m, rfl, hm1, hm2⟩
  have e4 : w64 (((b - a : Nat) : Int).tdiv 4) = (((b - a) / 4 : Nat) : Int) := by
    rw [Int.tdiv_eq_ediv_of_nonneg (by omega), w64_id (by omega) (by omega)]; omega
  have e5 : w64 ((((b - a) / 4 : Nat) : Int) * 2) = (((b - a) / 4 * 2 : Nat) : Int) := by rw [w64_id (by omega) (by omega)]; omega
  rw [e4, e5, w64n_add (by omega), w64n_pred (by omega) (by omega), wrap_id (by omega) (by omega)]
  have key := loop_Z5_L1 (Q := fun _ _ _ _ _ _ r => ∃ l' : List Int, r = ((), (l', ())) ∧ PermIn a b l.toArray l'.toArray) (I := fun d x y z u i => PermIn a b l.toArray d.toArray ∧ x = (a : Int) ∧ y = ((b - a : Nat) : Int) ∧ u = (m : Int) ∧ ∃ p : Nat, i = (p : Int) ∧ a ≤ p ∧ p ≤ a + (b - a) / 4 * 2 + 2) (μ := fun _ _ _ _ _ i => (2000 - i).toNat) ?_
  · exact key l a ((b - a : Nat) : Int) _ m ((a + (b - a) / 4 * 2 - 1 : Nat) : Int) ⟨permIn_refl _ _ _, rfl, rfl, rfl, _, rfl, by omega, by omega⟩
  rintro d _ _ z _ _ ⟨hp, rfl, rfl, rfl, p, rfl, h1, h2⟩ again hag ih
  have hd : d.length = l.length := by simpa using hp.1
  unfold B_Z5_L1b
  rw [e4, e5, w64n_add (by omega), w64n_succ (by omega), tot_cond]
  refine ⟨fun h => ?_, fun h => by rw [tot_some]; exact ⟨d, rfl, hp⟩⟩
  have h := of_decide_eq_true h
  refine Tot.bind (P := fun _ => True) ?_ ?_
  · refine tot_Z21 ?_
    unfold B_Z21
    rw [tot_some]; trivial
  rintro ⟨⟨v, _⟩, ⟨⟨w, _⟩, _⟩⟩ -
  obtain ⟨o, ho, hom⟩ := andK_le (r := v) hm1 (by omega)
  simp only
  rw [ho, w64_id (by omega) (by omega)]
  have j0 : ∀ q : Nat, q < b - a → Tot (fun σ => B_Z5_J0 (σ 0) (F_Z19 (σ 0)) (F_Z21 (σ 0)) (again σ) d (a : Int) ((b - a : Nat) : Int) w (m : Int) (p : Int) (q : Int)) (fun r => ∃ l' : List Int, r = ((), (l', ())) ∧ PermIn a b l.toArray l'.toArray) := by
    intro q hq
    unfold B_Z5_J0
    rw [w64n_add (by omega), w64n_succ (by omega)]
    simp only [tot_chk, inbn, decide_eq_true_eq, Int.toNat_natCast, List.length_set]
    refine ⟨by omega, by omega, by omega, by omega, by omega, by omega, by omega, by omega, ?_⟩
    exact ih _ _ _ _ _ _ ⟨permIn_trans _ _ _ a b hp (swP (by omega) (by omega) (by omega) (by omega) (by omega)), rfl, rfl, rfl, p + 1, rfl, by omega, by omega⟩ (by omega)
  rw [tot_cond]
  refine ⟨fun h => ?_, fun h => ?_⟩
  · have h := of_decide_eq_true h
    rw [tot_jn, w64n_sub (by omega) (by omega)]
    exact j0 (o - (b - a)) (by omega)
  · have h := of_decide_eq_false h
    rw [tot_jn]
    exact j0 o (by omega)
end Go.Gx

/-
  Laws, part SO3: slices.Sort: the partial insertion sort, the pivot.
-/
set_option linter.unusedVariables false
set_option linter.unusedSimpArgs false
namespace Go.Gx
open Go.Sort
def pisR (x : Array Int × Bool) : (Bool × Unit) × (List Int × Unit) := ((x.2, ()), (x.1.toList, ()))
theorem scanSorted_step {d : Array Int} {b i : Nat} (h : (decide (i < b) && !ltInt d[i]! d[i - 1]!) = true) : scanSorted ltInt d b i = scanSorted ltInt d b (i + 1) := by
  rw [scanSorted, if_pos h]
theorem scanSorted_stop {d : Array Int} {b i : Nat} (h : (decide (i < b) && !ltInt d[i]! d[i - 1]!) = false) : scanSorted ltInt d b i = i := by
  rw [scanSorted, if_neg (by rw [h]; decide)]
theorem partialIns_tot {l : List Int} {a b : Nat} (hb : b ≤ l.length) (hl : l.length ≤ 1000) (ha : a < b) :
    Tot (fun σ => F_Z2 (σ 0) l (a : Int) (b : Int)) (fun r => r = pisR (partialInsertionSort ltInt l.toArray a b)) := by
  refine tot_Z2 ?_
  unfold B_Z2
  rw [w64n_succ (by omega)]
  have key := loop_Z2_L6 (Q := fun d x y i j r => r = pisR (partialIns ltInt a b (5 - j).toNat i.toNat d.toArray)) (I := fun d x y i j => x = (a : Int) ∧ y = (b : Int) ∧ d.length = l.length ∧ (∃ p : Nat, i = (p : Int) ∧ a < p ∧ p ≤ b) ∧ ∃ q : Nat, j = (q : Int) ∧ q ≤ 5) (μ := fun _ _ _ _ j => (5 - j).toNat) ?_
  · exact key l a b ((a + 1 : Nat) : Int) 0 ⟨rfl, rfl, rfl, ⟨a + 1, rfl, by omega, by omega⟩, 0, rfl, by omega⟩
  rintro d _ _ _ _ ⟨rfl, rfl, hd, ⟨p, rfl, hp1, hp2⟩, q, rfl, hq⟩ again hag ih
  unfold B_Z2_L6b
  rw [Int.toNat_natCast, tot_cond]
  refine ⟨fun h => ?_, fun h => by
    have := of_decide_eq_false h
    rw [tot_some, show (5 - (q : Int)).toNat = 0 by omega, partialIns]; rfl⟩
  have h := of_decide_eq_true h
  obtain ⟨s, hs⟩ : ∃ s : Nat, s + 1 = 5 - q := ⟨5 - q - 1, by omega⟩
  rw [show (5 - (q : Int)).toNat = s + 1 by omega]
  have j5 : ∀ (d : List Int) (i : Nat), d.length = l.length → a < i → i ≤ b → Tot (fun σ => B_Z2_J5 (σ 0) (F_Z47 (σ 0)) (again σ) d (a : Int) (b : Int) (i : Int) (q : Int)) (fun r => r = pisR (partialIns ltInt a b s i d.toArray)) := by
    intro d i hd h1 h2
    unfold B_Z2_J5
    rw [w64n_succ (by omega)]
    have := ih d a b (i : Int) ((q + 1 : Nat) : Int) ⟨rfl, rfl, hd, ⟨i, rfl, h1, h2⟩, q + 1, rfl, by omega⟩ (by omega)
    rw [show (5 - ((q + 1 : Nat) : Int)).toNat = s by omega, Int.toNat_natCast] at this
    exact this
  have j3 : ∀ (d : List Int) (i : Nat), d.length = l.length → a < i → i < b → Tot (fun σ => B_Z2_J3 (σ 0) (F_Z47 (σ 0)) (again σ) d (a : Int) (b : Int) (i : Int) (q : Int)) (fun r => r = pisR (partialIns ltInt a b s i (fixUp ltInt b i d.toArray))) := by
    intro d i hd h1 h2
    unfold B_Z2_J3 fixUp
    rw [w64n_sub (by omega) (by omega), tot_cond]
    refine ⟨fun h => ?_, fun h => ?_⟩
    · have h := of_decide_eq_true h
      rw [if_pos (by omega), w64n_succ (by omega)]
      have key4 := loop_Z2_L4 hag (Q := fun d x y z u j r => r = pisR (partialIns ltInt a b s i (shiftUp ltInt b j.toNat d.toArray))) (I := fun d x y z u j => x = (a : Int) ∧ y = (b : Int) ∧ z = (i : Int) ∧ u = (q : Int) ∧ d.length = l.length ∧ ∃ c : Nat, j = (c : Int) ∧ 1 ≤ c ∧ c ≤ b) (μ := fun _ _ _ _ _ j => (b - j).toNat) ?_
      · have := key4 d a b i q ((i + 1 : Nat) : Int) ⟨rfl, rfl, rfl, rfl, hd, i + 1, rfl, by omega, by omega⟩
        rw [Int.toNat_natCast] at this
        exact this
      rintro d _ _ _ _ _ ⟨rfl, rfl, rfl, rfl, hd, c, rfl, hc1, hc2⟩ again4 hag4 ih4
      unfold B_Z2_L4b
      rw [Int.toNat_natCast, w64n_pred (by omega) (by omega), tot_cond]
      refine ⟨fun h => ?_, fun h => ?_⟩
      · have h := of_decide_eq_true h
        simp only [tot_chk, inbn, decide_eq_true_eq, Int.toNat_natCast, List.length_set]
        refine ⟨by omega, by omega, by omega, by omega, (less_tot _ _).bind ?_⟩
        rintro _ rfl
        rw [shiftUp, if_pos (by omega), ga, ga]
        simp only
        cases hlt : ltInt (d.getD c 0) (d.getD (c - 1) 0) with
        | false =>
          simp only [Bool.not_false, cond_true, if_true, tot_jn]
          exact j5 d i hd h1 (by omega)
        | true =>
          simp only [Bool.not_true, cond_false, Bool.false_eq_true, if_false, tot_chk, inbn, decide_eq_true_eq, Int.toNat_natCast, List.length_set]
          refine ⟨by omega, by omega, by omega, by omega, by omega, by omega, by omega, by omega, ?_⟩
          rw [w64n_succ (by omega), sw]
          have := fun (dd : List Int) (hdd : dd.length = l.length) => ih4 dd a b i q ((c + 1 : Nat) : Int) ⟨rfl, rfl, rfl, rfl, hdd, c + 1, rfl, by omega, by omega⟩ (by omega)
          simp only [Int.toNat_natCast] at this
          exact this _ (by rw [List.length_set, List.length_set]; exact hd)
      · have h := of_decide_eq_false h
        rw [tot_jn, shiftUp, if_neg (by omega)]
        exact j5 d i hd h1 (by omega)
    · have h := of_decide_eq_false h
      rw [tot_jn, if_neg (by omega)]
      exact j5 d i hd h1 (by omega)
  have key1 := loop_Z2_L1 hag (Q := fun d x y i j r => r = pisR (partialIns ltInt a b (s + 1) i.toNat d.toArray)) (I := fun d' x y i j => d' = d ∧ x = (a : Int) ∧ y = (b : Int) ∧ j = (q : Int) ∧ ∃ p : Nat, i = (p : Int) ∧ a < p ∧ p ≤ b) (μ := fun _ _ _ i _ => (b - i).toNat) ?_
  · have := key1 d a b (p : Int) q ⟨rfl, rfl, rfl, rfl, p, rfl, hp1, hp2⟩
    rw [Int.toNat_natCast] at this
    exact this
  clear hp1 hp2 p
  rintro d _ _ _ _ ⟨rfl, rfl, rfl, rfl, p, rfl, hp1, hp2⟩ again1 hag1 ih1
  unfold B_Z2_L1b
  rw [Int.toNat_natCast]
  have j0 : ∀ t : Bool, t = (decide (p < b) && !ltInt (d.getD p 0) (d.getD (p - 1) 0)) → Tot (fun σ => B_Z2_J0 (σ 0) (F_Z47 (σ 0)) (again1 σ) (again σ) d (a : Int) (b : Int) (p : Int) (q : Int) t) (fun r => r = pisR (partialIns ltInt a b (s + 1) p d.toArray)) := by
    intro t ht
    unfold B_Z2_J0
    rw [tot_cond]
    refine ⟨fun h => ?_, fun h => ?_⟩
    · rw [ht] at h
      have h2 := h
      simp only [Bool.and_eq_true, decide_eq_true_eq] at h2
      rw [w64n_succ (by omega), partialIns_succ, scanSorted_step (by rw [ga, ga]; exact h), ← partialIns_succ]
      have := ih1 d a b ((p + 1 : Nat) : Int) q ⟨rfl, rfl, rfl, rfl, p + 1, rfl, by omega, by omega⟩ (by omega)
      rw [Int.toNat_natCast] at this
      exact this
    · rw [ht] at h
      rw [partialIns_succ, scanSorted_stop (by rw [ga, ga]; exact h), tot_cond]
      refine ⟨fun he => ?_, fun he => ?_⟩
      · rw [beq_iff_eq] at he
        rw [tot_some, if_pos (by omega)]; rfl
      · have he : p ≠ b := by intro e; subst e; simp at he
        rw [if_neg he, w64n_sub (by omega) (by omega), tot_cond]
        refine ⟨fun h5 => ?_, fun h5 => ?_⟩
        · have h5 := of_decide_eq_true h5
          rw [tot_some, if_pos (by omega)]; rfl
        · have h5 := of_decide_eq_false h5
          rw [if_neg (by omega), w64n_pred (by omega) (by omega), w64n_sub (by omega) (by omega)]
          simp only [tot_chk, inbn, decide_eq_true_eq, Int.toNat_natCast, List.length_set]
          refine ⟨by omega, by omega, by omega, by omega, by omega, by omega, by omega, by omega, ?_⟩
          rw [sw]
          have hd' : ((d.set p (d.getD (p - 1) 0)).set (p - 1) (d.getD p 0)).length = l.length := by rw [List.length_set, List.length_set]; exact hd
          revert hd'
          generalize (d.set p (d.getD (p - 1) 0)).set (p - 1) (d.getD p 0) = d'
          intro hd'
          unfold fixDown
          rw [tot_cond]
          refine ⟨fun h6 => ?_, fun h6 => ?_⟩
          · have h6 := of_decide_eq_true h6
            rw [if_pos (by omega)]
            have key2 := loop_Z2_L2 hag (Q := fun d x y z u j r => r = pisR (partialIns ltInt a b s p (fixUp ltInt b p (shiftDown ltInt j.toNat d.toArray)))) (I := fun d x y z u j => x = (a : Int) ∧ y = (b : Int) ∧ z = (p : Int) ∧ u = (q : Int) ∧ d.length = l.length ∧ ∃ c : Nat, j = (c : Int) ∧ c < b) (μ := fun _ _ _ _ _ j => j.toNat) ?_
            · have := key2 d' a b p q ((p - 1 : Nat) : Int) ⟨rfl, rfl, rfl, rfl, hd', p - 1, rfl, by omega⟩
              rw [Int.toNat_natCast] at this
              exact this
            rintro d _ _ _ _ _ ⟨rfl, rfl, rfl, rfl, hd, c, rfl, hc⟩ again2 hag2 ih2
            unfold B_Z2_L2b
            rw [Int.toNat_natCast, tot_cond]
            refine ⟨fun h => ?_, fun h => ?_⟩
            · have h := of_decide_eq_true h
              obtain ⟨e, rfl⟩ : ∃ e, c = e + 1 := ⟨c - 1, by omega⟩
              rw [w64n_pred (by omega) (by omega), Nat.add_sub_cancel]
              simp only [tot_chk, inbn, decide_eq_true_eq, Int.toNat_natCast, List.length_set]
              refine ⟨by omega, by omega, by omega, by omega, (less_tot _ _).bind ?_⟩
              rintro _ rfl
              rw [shiftDown, ga, ga]
              simp only
              cases hlt : ltInt (d.getD (e + 1) 0) (d.getD e 0) with
              | false =>
                simp only [Bool.not_false, cond_true, if_true, tot_jn]
                exact j3 d p hd hp1 (by omega)
              | true =>
                simp only [Bool.not_true, cond_false, Bool.false_eq_true, if_false, tot_chk, inbn, decide_eq_true_eq, Int.toNat_natCast, List.length_set]
                refine ⟨by omega, by omega, by omega, by omega, by omega, by omega, by omega, by omega, ?_⟩
                rw [sw]
                have := fun (dd : List Int) (hdd : dd.length = l.length) => ih2 dd a b p q (e : Int) ⟨rfl, rfl, rfl, rfl, hdd, e, rfl, by omega⟩ (by omega)
                simp only [Int.toNat_natCast] at this
                exact this _ (by rw [List.length_set, List.length_set]; exact hd)
            · have h := of_decide_eq_false h
              obtain rfl : c = 0 := by omega
              rw [tot_jn, shiftDown]
              exact j3 d p hd hp1 (by omega)
          · have h6 := of_decide_eq_false h6
            rw [if_neg (by omega), tot_jn]
            exact j3 d' p hd' hp1 (by omega)
  rw [tot_cond]
  refine ⟨fun h => ?_, fun h => ?_⟩
  · have h := of_decide_eq_true h
    rw [w64n_pred (by omega) (by omega)]
    simp only [tot_chk, inbn, decide_eq_true_eq, Int.toNat_natCast, List.length_set]
    refine ⟨by omega, by omega, by omega, by omega, (less_tot _ _).bind ?_⟩
    rintro _ rfl
    rw [tot_jn]
    exact j0 _ (by rw [decide_eq_true (by omega : p < b)]; rfl)
  · have h := of_decide_eq_false h
    rw [tot_jn]
    exact j0 _ (by rw [decide_eq_false (by omega : ¬ p < b)]; rfl)

theorem order2_tot {l : List Int} {a b : Nat} (s : Int) (ha : a < l.length) (hb : b < l.length) :
    Tot (fun σ => F_Z15 (σ 0) l (a : Int) (b : Int) s) (fun r => ∃ (x y : Nat) (z : Int), r = (((x : Int), (y : Int), ()), ((z, ()), ())) ∧ (x = a ∧ y = b ∨ x = b ∧ y = a)) := by
  refine tot_Z15 ?_
  unfold B_Z15
  simp only [tot_chk, inbn]
  refine ⟨hb, ha, (less_tot _ _).bind ?_⟩
  rintro _ rfl
  rw [tot_cond]
  refine ⟨fun _ => ?_, fun _ => ?_⟩
  · rw [tot_some]; exact ⟨b, a, _, rfl, Or.inr ⟨rfl, rfl⟩⟩
  · rw [tot_some]; exact ⟨a, b, _, rfl, Or.inl ⟨rfl, rfl⟩⟩
theorem median_tot {l : List Int} {a b c : Nat} (s : Int) (ha : a < l.length) (hb : b < l.length) (hc : c < l.length) :
    Tot (fun σ => F_Z14 (σ 0) l (a : Int) (b : Int) (c : Int) s) (fun r => ∃ (x : Nat) (z : Int), r = (((x : Int), ()), ((z, ()), ())) ∧ (x = a ∨ x = b ∨ x = c)) := by
  refine tot_Z14 ?_
  unfold B_Z14
  refine (order2_tot s ha hb).bind ?_
  rintro _ ⟨x, y, z, rfl, h1⟩
  refine (order2_tot (a := y) (b := c) z (by omega) hc).bind ?_
  rintro _ ⟨x2, y2, z2, rfl, h2⟩
  refine (order2_tot (a := x) (b := x2) z2 (by omega) (by omega)).bind ?_
  rintro _ ⟨x3, y3, z3, rfl, h3⟩
  rw [tot_some]
  exact ⟨y3, z3, rfl, by omega⟩
theorem medianAdj_tot {l : List Int} {a : Nat} (s : Int) (h1 : 1 ≤ a) (ha : a + 1 < l.length) (hl : l.length ≤ 1000) :
    Tot (fun σ => F_Z3 (σ 0) l (a : Int) s) (fun r => ∃ (x : Nat) (z : Int), r = (((x : Int), ()), ((z, ()), ())) ∧ (x = a - 1 ∨ x = a ∨ x = a + 1)) := by
  refine tot_Z3 ?_
  unfold B_Z3
  rw [w64n_pred h1 (by omega), w64n_succ (by omega)]
  refine (median_tot s (by omega) (by omega) ha).bind ?_
  rintro _ ⟨x, z, rfl, h⟩
  rw [tot_some]
  exact ⟨x, z, rfl, h⟩
theorem pivot_tot {l : List Int} {a b : Nat} (hb : b ≤ l.length) (hl : l.length ≤ 1000) (ha : a + 12 < b) :
    Tot (fun σ => F_Z8 (σ 0) l (a : Int) (b : Int)) (fun r => ∃ (p : Nat) (h : Int), r = (((p : Int), h, ()), ()) ∧ a ≤ p ∧ p < b) := by
  refine tot_Z8 ?_
  unfold B_Z8
  have e4 : w64 (((b - a : Nat) : Int).tdiv 4) = (((b - a) / 4 : Nat) : Int) := by
    rw [Int.tdiv_eq_ediv_of_nonneg (by omega), w64_id (by omega) (by omega)]; omega
  have e1 : w64 ((((b - a) / 4 : Nat) : Int) * 1) = (((b - a) / 4 : Nat) : Int) := by rw [w64_id (by omega) (by omega)]; omega
  have e2 : w64 ((((b - a) / 4 : Nat) : Int) * 2) = (((b - a) / 4 * 2 : Nat) : Int) := by rw [w64_id (by omega) (by omega)]; omega
  have e3 : w64 ((((b - a) / 4 : Nat) : Int) * 3) = (((b - a) / 4 * 3 : Nat) : Int) := by rw [w64_id (by omega) (by omega)]; omega
  rw [w64n_sub (by omega) (by omega), e4, e1, e2, e3, w64n_add (by omega), w64n_add (by omega), w64n_add (by omega)]
  have j0 : ∀ (i j k : Nat) (s : Int), a ≤ i → i < b → a ≤ j → j < b → a ≤ k → k < b → Tot (fun σ => B_Z8_J0 (σ 0) (F_Z3 (σ 0)) (F_Z14 (σ 0)) l s (i : Int) (j : Int) (k : Int)) (fun r => ∃ (p : Nat) (h : Int), r = (((p : Int), h, ()), ()) ∧ a ≤ p ∧ p < b) := by
    intro i j k s h1 h2 h3 h4 h5 h6
    unfold B_Z8_J0
    refine (median_tot s (by omega) (by omega) (by omega)).bind ?_
    rintro _ ⟨x, z, rfl, h⟩
    rw [tot_jn]
    unfold B_Z8_J1
    simp only [tot_cond, tot_some]
    exact ⟨fun _ => ⟨x, _, rfl, by omega, by omega⟩, fun _ => ⟨fun _ => ⟨x, _, rfl, by omega, by omega⟩, fun _ => ⟨x, _, rfl, by omega, by omega⟩⟩⟩
  rw [tot_cond]
  refine ⟨fun _ => ?_, fun h => by have := of_decide_eq_false h; omega⟩
  rw [tot_cond]
  refine ⟨fun h => ?_, fun h => ?_⟩
  · have h := of_decide_eq_true h
    refine (medianAdj_tot 0 (by omega) (by omega) hl).bind ?_
    rintro _ ⟨x1, z1, rfl, h1⟩
    refine (medianAdj_tot z1 (by omega) (by omega) hl).bind ?_
    rintro _ ⟨x2, z2, rfl, h2⟩
    refine (medianAdj_tot z2 (by omega) (by omega) hl).bind ?_
    rintro _ ⟨x3, z3, rfl, h3⟩
    rw [tot_jn]
    exact j0 x1 x2 x3 _ (by omega) (by omega) (by omega) (by omega) (by omega) (by omega)
  · rw [tot_jn]
    exact j0 _ _ _ _ (by omega) (by omega) (by omega) (by omega) (by omega) (by omega)
end Go.Gx

/-
  Laws, part SO4: slices.Sort: the partitions.
-/
set_option linter.unusedVariables false
set_option linter.unusedSimpArgs false
namespace Go.Gx
open Go.Sort
theorem scanUp_step {p : Int → Bool} {d : Array Int} {j i : Nat} (h : (decide (i ≤ j) && p d[i]!) = true) : scanUp p d j i = scanUp p d j (i + 1) := by
  rw [scanUp, if_pos h]
theorem scanUp_stop {p : Int → Bool} {d : Array Int} {j i : Nat} (h : (decide (i ≤ j) && p d[i]!) = false) : scanUp p d j i = i := by
  rw [scanUp, if_neg (by rw [h]; decide)]
theorem scanDown_step {p : Int → Bool} {d : Array Int} {j i : Nat} (h : (decide (i ≤ j + 1) && p d[j + 1]!) = true) : scanDown p d i (j + 1) = scanDown p d i j := by
  rw [scanDown, if_pos h]
theorem scanDown_stop {p : Int → Bool} {d : Array Int} {j i : Nat} (hi : 0 < i) (h : (decide (i ≤ j) && p d[j]!) = false) : scanDown p d i j = j := by
  cases j with
  | zero => rw [scanDown]
  | succ j => rw [scanDown, if_neg (by rw [h]; decide)]

def peqR (x : Nat × Array Int) : (Int × Unit) × (List Int × Unit) := (((x.1 : Int), ()), (x.2.toList, ()))
/-- What is left after the upward scan; after both. -/
def peqC (a i j : Nat) (d : Array Int) : Nat × Array Int := if i > j then (i, d) else partEqLoop ltInt a (i + 1) (j - 1) (swp d i j)
theorem peq_eq (a i j : Nat) (d : Array Int) : partEqLoop ltInt a i j d = peqC a (scanUp (fun x => !ltInt d[a]! x) d j i) (scanDown (fun x => ltInt d[a]! x) d (scanUp (fun x => !ltInt d[a]! x) d j i) j) d := partEqLoop_eq ltInt a i j d
theorem partEq_tot {l : List Int} {a b pivot : Nat} (hb : b ≤ l.length) (hl : l.length ≤ 1000) (h1 : a ≤ pivot) (h2 : pivot < b) :
    Tot (fun σ => F_Z4 (σ 0) l (a : Int) (b : Int) (pivot : Int)) (fun r => r = peqR (partitionEqual ltInt l.toArray a b pivot)) := by
  refine tot_Z4 ?_
  unfold B_Z4
  rw [w64n_succ (by omega), w64n_pred (by omega) (by omega)]
  simp only [tot_chk, inbn, decide_eq_true_eq, Int.toNat_natCast, List.length_set]
  refine ⟨by omega, by omega, by omega, by omega, by omega, by omega, by omega, by omega, ?_⟩
  unfold partitionEqual
  rw [sw]
  have hd' : ((l.set a (l.getD pivot 0)).set pivot (l.getD a 0)).length = l.length := by rw [List.length_set, List.length_set]
  revert hd'
  generalize (l.set a (l.getD pivot 0)).set pivot (l.getD a 0) = d'
  intro hd'
  have key := loop_Z4_L4 (Q := fun d x i j r => r = peqR (partEqLoop ltInt a i.toNat j.toNat d.toArray)) (I := fun d x i j => x = (a : Int) ∧ d.length = l.length ∧ ∃ p q : Nat, i = (p : Int) ∧ j = (q : Int) ∧ a < p ∧ p ≤ 2000 - q ∧ q < b) (μ := fun _ _ i j => (2000 + j - i).toNat) ?_
  · have := key d' a ((a + 1 : Nat) : Int) ((b - 1 : Nat) : Int) ⟨rfl, hd', a + 1, b - 1, rfl, rfl, by omega, by omega, by omega⟩
    rw [Int.toNat_natCast, Int.toNat_natCast] at this
    exact this
  rintro d _ _ _ ⟨rfl, hd, p, q, rfl, rfl, h3, h4, h5⟩ again hag ih
  unfold B_Z4_L4b
  rw [Int.toNat_natCast, Int.toNat_natCast]
  -- what both scans come to
  have c3 : ∀ i : Nat, p ≤ i → i ≤ q + 1 ∨ i = p → Tot (fun σ => B_Z4_L3 (σ 0) (F_Z47 (σ 0)) (again σ) (σ 0) (d, (a : Int), (i : Int), (q : Int), ())) (fun r => r = peqR (peqC a i (scanDown (fun x => ltInt d.toArray[a]! x) d.toArray i q) d.toArray)) := by
    intro i hi1 hi2
    have key3 := loop_Z4_L3 hag (Q := fun d' x i' j r => r = peqR (peqC a i (scanDown (fun x => ltInt d.toArray[a]! x) d.toArray i j.toNat) d.toArray)) (I := fun d' x i' j => d' = d ∧ x = (a : Int) ∧ i' = (i : Int) ∧ ∃ c : Nat, j = (c : Int) ∧ c ≤ q) (μ := fun _ _ _ j => j.toNat) ?_
    · have := key3 d a i (q : Int) ⟨rfl, rfl, rfl, q, rfl, Nat.le_refl _⟩
      rw [Int.toNat_natCast] at this
      exact this
    rintro d _ _ _ ⟨rfl, rfl, rfl, c, rfl, hc⟩ again3 hag3 ih3
    unfold B_Z4_L3b
    rw [Int.toNat_natCast]
    have j2 : ∀ t : Bool, t = (decide (i ≤ c) && ltInt (d.getD a 0) (d.getD c 0)) → Tot (fun σ => B_Z4_J2 (σ 0) (F_Z47 (σ 0)) (again3 σ) (again σ) d (a : Int) (i : Int) (c : Int) t) (fun r => r = peqR (peqC a i (scanDown (fun x => ltInt d.toArray[a]! x) d.toArray i c) d.toArray)) := by
      intro t ht
      unfold B_Z4_J2
      rw [tot_cond]
      refine ⟨fun h => ?_, fun h => ?_⟩
      · rw [ht] at h
        have h6 := h
        simp only [Bool.and_eq_true, decide_eq_true_eq] at h6
        obtain ⟨e, rfl⟩ : ∃ e, c = e + 1 := ⟨c - 1, by omega⟩
        rw [w64n_pred (by omega) (by omega), Nat.add_sub_cancel, scanDown_step (by simp only [ga]; exact h)]
        have := ih3 d a i (e : Int) ⟨rfl, rfl, rfl, e, rfl, by omega⟩ (by omega)
        rw [Int.toNat_natCast] at this
        exact this
      · rw [ht] at h
        rw [scanDown_stop (by omega) (by simp only [ga]; exact h), tot_cond]
        unfold peqC
        refine ⟨fun h6 => ?_, fun h6 => ?_⟩
        · have h6 := of_decide_eq_true h6
          rw [tot_some, if_pos (by omega)]; rfl
        · have h6 := of_decide_eq_false h6
          rw [if_neg (by omega)]
          simp only [tot_chk, inbn, decide_eq_true_eq, Int.toNat_natCast, List.length_set]
          refine ⟨by omega, by omega, by omega, by omega, by omega, by omega, by omega, by omega, ?_⟩
          rw [w64n_succ (by omega), w64n_pred (by omega) (by omega), sw]
          have := fun (dd : List Int) (hdd : dd.length = l.length) => ih dd a ((i + 1 : Nat) : Int) ((c - 1 : Nat) : Int) ⟨rfl, hdd, i + 1, c - 1, rfl, rfl, by omega, by omega, by omega⟩ (by omega)
          simp only [Int.toNat_natCast] at this
          exact this _ (by rw [List.length_set, List.length_set]; exact hd)
    rw [tot_cond]
    refine ⟨fun h => ?_, fun h => ?_⟩
    · have h := of_decide_eq_true h
      simp only [tot_chk, inbn, decide_eq_true_eq, Int.toNat_natCast, List.length_set]
      refine ⟨by omega, by omega, by omega, by omega, (less_tot _ _).bind ?_⟩
      rintro _ rfl
      rw [tot_jn]
      exact j2 _ (by rw [decide_eq_true (by omega : i ≤ c)]; rfl)
    · have h := of_decide_eq_false h
      rw [tot_jn]
      exact j2 _ (by rw [decide_eq_false (by omega : ¬ i ≤ c)]; rfl)
  rw [peq_eq]
  have key1 := loop_Z4_L1 hag (Q := fun d' x i j r => r = peqR (peqC a (scanUp (fun x => !ltInt d.toArray[a]! x) d.toArray q i.toNat) (scanDown (fun x => ltInt d.toArray[a]! x) d.toArray (scanUp (fun x => !ltInt d.toArray[a]! x) d.toArray q i.toNat) q) d.toArray)) (I := fun d' x i' j => d' = d ∧ x = (a : Int) ∧ j = (q : Int) ∧ ∃ i : Nat, i' = (i : Int) ∧ p ≤ i ∧ (i ≤ q + 1 ∨ i = p)) (μ := fun _ _ i _ => (3000 - i).toNat) ?_
  · have := key1 d a (p : Int) q ⟨rfl, rfl, rfl, p, rfl, Nat.le_refl _, Or.inr rfl⟩
    rw [Int.toNat_natCast] at this
    exact this
  rintro d _ _ _ ⟨rfl, rfl, rfl, i, rfl, hi1, hi2⟩ again1 hag1 ih1
  unfold B_Z4_L1b
  rw [Int.toNat_natCast]
  have j0 : ∀ t : Bool, t = (decide (i ≤ q) && !ltInt (d.getD a 0) (d.getD i 0)) → Tot (fun σ => B_Z4_J0 (σ 0) (F_Z47 (σ 0)) (again1 σ) (again σ) d (a : Int) (i : Int) (q : Int) t) (fun r => r = peqR (peqC a (scanUp (fun x => !ltInt d.toArray[a]! x) d.toArray q i) (scanDown (fun x => ltInt d.toArray[a]! x) d.toArray (scanUp (fun x => !ltInt d.toArray[a]! x) d.toArray q i) q) d.toArray)) := by
    intro t ht
    unfold B_Z4_J0
    rw [tot_cond]
    refine ⟨fun h => ?_, fun h => ?_⟩
    · rw [ht] at h
      have h6 := h
      simp only [Bool.and_eq_true, decide_eq_true_eq] at h6
      rw [w64n_succ (by omega), scanUp_step (by simp only [ga]; exact h)]
      have := ih1 d a ((i + 1 : Nat) : Int) q ⟨rfl, rfl, rfl, i + 1, rfl, by omega, by omega⟩ (by omega)
      rw [Int.toNat_natCast] at this
      exact this
    · rw [ht] at h
      rw [scanUp_stop (by simp only [ga]; exact h)]
      exact c3 i hi1 hi2
  rw [tot_cond]
  refine ⟨fun h => ?_, fun h => ?_⟩
  · have h := of_decide_eq_true h
    simp only [tot_chk, inbn, decide_eq_true_eq, Int.toNat_natCast, List.length_set]
    refine ⟨by omega, by omega, by omega, by omega, (less_tot _ _).bind ?_⟩
    rintro _ rfl
    rw [tot_jn]
    exact j0 _ (by rw [decide_eq_true (by omega : i ≤ q)]; rfl)
  · have h := of_decide_eq_false h
    rw [tot_jn]
    exact j0 _ (by rw [decide_eq_false (by omega : ¬ i ≤ q)]; rfl)
end Go.Gx

/-
  Laws, part SO5: slices.Sort: the other partition.
-/
set_option linter.unusedVariables false
set_option linter.unusedSimpArgs false
namespace Go.Gx
open Go.Sort
def parR (x : Nat × Bool × Array Int) : (Int × Bool × Unit) × (List Int × Unit) := (((x.1 : Int), x.2.1, ()), (x.2.2.toList, ()))
def parE (a : Nat) (x : Nat × Array Int) : Nat × Bool × Array Int := (x.1, false, swp x.2 x.1 a)
def parC (a i j : Nat) (d : Array Int) : Nat × Array Int := if i > j then (j, d) else partLoop ltInt a (i + 1) (j - 1) (swp d i j)
def parC1 (a i j : Nat) (d : Array Int) : Nat × Bool × Array Int := if i > j then (j, true, swp d j a) else parE a (partLoop ltInt a (i + 1) (j - 1) (swp d i j))
theorem par_eq (a i j : Nat) (d : Array Int) : partLoop ltInt a i j d = parC a (scanUp (fun x => ltInt x d[a]!) d j i) (scanDown (fun x => !ltInt x d[a]!) d (scanUp (fun x => ltInt x d[a]!) d j i) j) d := partLoop_eq ltInt a i j d
theorem partition_tot {l : List Int} {a b pivot : Nat} (hb : b ≤ l.length) (hl : l.length ≤ 1000) (h1 : a ≤ pivot) (h2 : pivot < b) :
    Tot (fun σ => F_Z10 (σ 0) l (a : Int) (b : Int) (pivot : Int)) (fun r => r = parR (partition ltInt l.toArray a b pivot)) := by
  refine tot_Z10 ?_
  unfold B_Z10
  rw [w64n_succ (by omega), w64n_pred (by omega) (by omega)]
  simp only [tot_chk, inbn, decide_eq_true_eq, Int.toNat_natCast, List.length_set]
  refine ⟨by omega, by omega, by omega, by omega, by omega, by omega, by omega, by omega, ?_⟩
  have e0 : partition ltInt l.toArray a b pivot = parC1 a (scanUp (fun x => ltInt x (swp l.toArray a pivot)[a]!) (swp l.toArray a pivot) (b - 1) (a + 1)) (scanDown (fun x => !ltInt x (swp l.toArray a pivot)[a]!) (swp l.toArray a pivot) (scanUp (fun x => ltInt x (swp l.toArray a pivot)[a]!) (swp l.toArray a pivot) (b - 1) (a + 1)) (b - 1)) (swp l.toArray a pivot) := rfl
  rw [e0, sw]
  have hd' : ((l.set a (l.getD pivot 0)).set pivot (l.getD a 0)).length = l.length := by rw [List.length_set, List.length_set]
  revert hd'
  generalize (l.set a (l.getD pivot 0)).set pivot (l.getD a 0) = d'
  intro hd'
  -- the second loop
  have rest : ∀ (d : List Int) (p q : Nat), d.length = l.length → a < p → p ≤ 2000 - q → q < b → Tot (fun σ => B_Z10_L8 (σ 0) (F_Z47 (σ 0)) (σ 0) (d, (a : Int), (p : Int), (q : Int), ())) (fun r => r = parR (parE a (partLoop ltInt a p q d.toArray))) := by
    intro d p q hd h3 h4 h5
    have key := loop_Z10_L8 (Q := fun d x i j r => r = parR (parE a (partLoop ltInt a i.toNat j.toNat d.toArray))) (I := fun d x i j => x = (a : Int) ∧ d.length = l.length ∧ ∃ p q : Nat, i = (p : Int) ∧ j = (q : Int) ∧ a < p ∧ p ≤ 2000 - q ∧ q < b) (μ := fun _ _ i j => (2000 + j - i).toNat) ?_
    · have := key d a p q ⟨rfl, hd, p, q, rfl, rfl, h3, h4, h5⟩
      rw [Int.toNat_natCast, Int.toNat_natCast] at this
      exact this
    clear h3 h4 h5 hd d p q
    rintro d _ _ _ ⟨rfl, hd, p, q, rfl, rfl, h3, h4, h5⟩ again hag ih
    unfold B_Z10_L8b
    rw [Int.toNat_natCast, Int.toNat_natCast]
    have c3 : ∀ i : Nat, p ≤ i → i ≤ q + 1 ∨ i = p → Tot (fun σ => B_Z10_L7 (σ 0) (F_Z47 (σ 0)) (again σ) (σ 0) (d, (a : Int), (i : Int), (q : Int), ())) (fun r => r = parR (parE a (parC a i (scanDown (fun x => !ltInt x d.toArray[a]!) d.toArray i q) d.toArray))) := by
      intro i hi1 hi2
      have key3 := loop_Z10_L7 hag (Q := fun d' x i' j r => r = parR (parE a (parC a i (scanDown (fun x => !ltInt x d.toArray[a]!) d.toArray i j.toNat) d.toArray))) (I := fun d' x i' j => d' = d ∧ x = (a : Int) ∧ i' = (i : Int) ∧ ∃ c : Nat, j = (c : Int) ∧ c ≤ q) (μ := fun _ _ _ j => j.toNat) ?_
      · have := key3 d a i (q : Int) ⟨rfl, rfl, rfl, q, rfl, Nat.le_refl _⟩
        rw [Int.toNat_natCast] at this
        exact this
      rintro d _ _ _ ⟨rfl, rfl, rfl, c, rfl, hc⟩ again3 hag3 ih3
      unfold B_Z10_L7b
      rw [Int.toNat_natCast]
      have j2 : ∀ t : Bool, t = (decide (i ≤ c) && !ltInt (d.getD c 0) (d.getD a 0)) → Tot (fun σ => B_Z10_J6 (σ 0) (F_Z47 (σ 0)) (again3 σ) (again σ) d (a : Int) (i : Int) (c : Int) t) (fun r => r = parR (parE a (parC a i (scanDown (fun x => !ltInt x d.toArray[a]!) d.toArray i c) d.toArray))) := by
        intro t ht
        unfold B_Z10_J6
        rw [tot_cond]
        refine ⟨fun h => ?_, fun h => ?_⟩
        · rw [ht] at h
          have h6 := h
          simp only [Bool.and_eq_true, decide_eq_true_eq] at h6
          obtain ⟨e, rfl⟩ : ∃ e, c = e + 1 := ⟨c - 1, by omega⟩
          rw [w64n_pred (by omega) (by omega), Nat.add_sub_cancel, scanDown_step (by simp only [ga]; exact h)]
          have := ih3 d a i (e : Int) ⟨rfl, rfl, rfl, e, rfl, by omega⟩ (by omega)
          rw [Int.toNat_natCast] at this
          exact this
        · rw [ht] at h
          rw [scanDown_stop (by omega) (by simp only [ga]; exact h), tot_cond]
          unfold parC
          refine ⟨fun h6 => ?_, fun h6 => ?_⟩
          · have h6 := of_decide_eq_true h6
            rw [if_pos (by omega)]
            simp only [tot_chk, inbn, decide_eq_true_eq, Int.toNat_natCast, List.length_set]
            refine ⟨by omega, by omega, by omega, by omega, by omega, by omega, by omega, by omega, ?_⟩
            rw [tot_some]
            unfold parE
            rw [sw]; rfl
          · have h6 := of_decide_eq_false h6
            rw [if_neg (by omega)]
            simp only [tot_chk, inbn, decide_eq_true_eq, Int.toNat_natCast, List.length_set]
            refine ⟨by omega, by omega, by omega, by omega, by omega, by omega, by omega, by omega, ?_⟩
            rw [w64n_succ (by omega), w64n_pred (by omega) (by omega), sw]
            have := fun (dd : List Int) (hdd : dd.length = l.length) => ih dd a ((i + 1 : Nat) : Int) ((c - 1 : Nat) : Int) ⟨rfl, hdd, i + 1, c - 1, rfl, rfl, by omega, by omega, by omega⟩ (by omega)
            simp only [Int.toNat_natCast] at this
            exact this _ (by rw [List.length_set, List.length_set]; exact hd)
      rw [tot_cond]
      refine ⟨fun h => ?_, fun h => ?_⟩
      · have h := of_decide_eq_true h
        simp only [tot_chk, inbn, decide_eq_true_eq, Int.toNat_natCast, List.length_set]
        refine ⟨by omega, by omega, by omega, by omega, (less_tot _ _).bind ?_⟩
        rintro _ rfl
        rw [tot_jn]
        exact j2 _ (by rw [decide_eq_true (by omega : i ≤ c)]; rfl)
      · have h := of_decide_eq_false h
        rw [tot_jn]
        exact j2 _ (by rw [decide_eq_false (by omega : ¬ i ≤ c)]; rfl)
    rw [par_eq]
    have key1 := loop_Z10_L5 hag (Q := fun d' x i j r => r = parR (parE a (parC a (scanUp (fun x => ltInt x d.toArray[a]!) d.toArray q i.toNat) (scanDown (fun x => !ltInt x d.toArray[a]!) d.toArray (scanUp (fun x => ltInt x d.toArray[a]!) d.toArray q i.toNat) q) d.toArray))) (I := fun d' x i' j => d' = d ∧ x = (a : Int) ∧ j = (q : Int) ∧ ∃ i : Nat, i' = (i : Int) ∧ p ≤ i ∧ (i ≤ q + 1 ∨ i = p)) (μ := fun _ _ i _ => (3000 - i).toNat) ?_
    · have := key1 d a (p : Int) q ⟨rfl, rfl, rfl, p, rfl, Nat.le_refl _, Or.inr rfl⟩
      rw [Int.toNat_natCast] at this
      exact this
    rintro d _ _ _ ⟨rfl, rfl, rfl, i, rfl, hi1, hi2⟩ again1 hag1 ih1
    unfold B_Z10_L5b
    rw [Int.toNat_natCast]
    have j0 : ∀ t : Bool, t = (decide (i ≤ q) && ltInt (d.getD i 0) (d.getD a 0)) → Tot (fun σ => B_Z10_J4 (σ 0) (F_Z47 (σ 0)) (again1 σ) (again σ) d (a : Int) (i : Int) (q : Int) t) (fun r => r = parR (parE a (parC a (scanUp (fun x => ltInt x d.toArray[a]!) d.toArray q i) (scanDown (fun x => !ltInt x d.toArray[a]!) d.toArray (scanUp (fun x => ltInt x d.toArray[a]!) d.toArray q i) q) d.toArray))) := by
      intro t ht
      unfold B_Z10_J4
      rw [tot_cond]
      refine ⟨fun h => ?_, fun h => ?_⟩
      · rw [ht] at h
        have h6 := h
        simp only [Bool.and_eq_true, decide_eq_true_eq] at h6
        rw [w64n_succ (by omega), scanUp_step (by simp only [ga]; exact h)]
        have := ih1 d a ((i + 1 : Nat) : Int) q ⟨rfl, rfl, rfl, i + 1, rfl, by omega, by omega⟩ (by omega)
        rw [Int.toNat_natCast] at this
        exact this
      · rw [ht] at h
        rw [scanUp_stop (by simp only [ga]; exact h)]
        exact c3 i hi1 hi2
    rw [tot_cond]
    refine ⟨fun h => ?_, fun h => ?_⟩
    · have h := of_decide_eq_true h
      simp only [tot_chk, inbn, decide_eq_true_eq, Int.toNat_natCast, List.length_set]
      refine ⟨by omega, by omega, by omega, by omega, (less_tot _ _).bind ?_⟩
      rintro _ rfl
      rw [tot_jn]
      exact j0 _ (by rw [decide_eq_true (by omega : i ≤ q)]; rfl)
    · have h := of_decide_eq_false h
      rw [tot_jn]
      exact j0 _ (by rw [decide_eq_false (by omega : ¬ i ≤ q)]; rfl)
  -- the first round
  obtain ⟨q, hq⟩ : ∃ q, q = b - 1 := ⟨_, rfl⟩
  rw [← hq]
  have c3 : ∀ i : Nat, a + 1 ≤ i → i ≤ q + 1 ∨ i = a + 1 → Tot (fun σ => B_Z10_L3 (σ 0) (F_Z47 (σ 0)) (σ 0) (d', (a : Int), (i : Int), (q : Int), ())) (fun r => r = parR (parC1 a i (scanDown (fun x => !ltInt x d'.toArray[a]!) d'.toArray i q) d'.toArray)) := by
    intro i hi1 hi2
    have key3 := loop_Z10_L3 (Q := fun d x i' j r => r = parR (parC1 a i (scanDown (fun x => !ltInt x d'.toArray[a]!) d'.toArray i j.toNat) d'.toArray)) (I := fun d x i' j => d = d' ∧ x = (a : Int) ∧ i' = (i : Int) ∧ ∃ c : Nat, j = (c : Int) ∧ c ≤ q) (μ := fun _ _ _ j => j.toNat) ?_
    · have := key3 d' a i (q : Int) ⟨rfl, rfl, rfl, q, rfl, Nat.le_refl _⟩
      rw [Int.toNat_natCast] at this
      exact this
    rintro d _ _ _ ⟨rfl, rfl, rfl, c, rfl, hc⟩ again3 hag3 ih3
    unfold B_Z10_L3b
    rw [Int.toNat_natCast]
    have j2 : ∀ t : Bool, t = (decide (i ≤ c) && !ltInt (d.getD c 0) (d.getD a 0)) → Tot (fun σ => B_Z10_J2 (σ 0) (F_Z47 (σ 0)) (again3 σ) d (a : Int) (i : Int) (c : Int) t) (fun r => r = parR (parC1 a i (scanDown (fun x => !ltInt x d.toArray[a]!) d.toArray i c) d.toArray)) := by
      intro t ht
      unfold B_Z10_J2
      rw [tot_cond]
      refine ⟨fun h => ?_, fun h => ?_⟩
      · rw [ht] at h
        have h6 := h
        simp only [Bool.and_eq_true, decide_eq_true_eq] at h6
        obtain ⟨e, rfl⟩ : ∃ e, c = e + 1 := ⟨c - 1, by omega⟩
        rw [w64n_pred (by omega) (by omega), Nat.add_sub_cancel, scanDown_step (by simp only [ga]; exact h)]
        have := ih3 d a i (e : Int) ⟨rfl, rfl, rfl, e, rfl, by omega⟩ (by omega)
        rw [Int.toNat_natCast] at this
        exact this
      · rw [ht] at h
        rw [scanDown_stop (by omega) (by simp only [ga]; exact h), tot_cond]
        unfold parC1
        refine ⟨fun h6 => ?_, fun h6 => ?_⟩
        · have h6 := of_decide_eq_true h6
          rw [if_pos (by omega)]
          simp only [tot_chk, inbn, decide_eq_true_eq, Int.toNat_natCast, List.length_set]
          refine ⟨by omega, by omega, by omega, by omega, by omega, by omega, by omega, by omega, ?_⟩
          rw [tot_some, sw]; rfl
        · have h6 := of_decide_eq_false h6
          rw [if_neg (by omega)]
          simp only [tot_chk, inbn, decide_eq_true_eq, Int.toNat_natCast, List.length_set]
          refine ⟨by omega, by omega, by omega, by omega, by omega, by omega, by omega, by omega, ?_⟩
          rw [w64n_succ (by omega), w64n_pred (by omega) (by omega), sw]
          exact rest _ _ _ (by rw [List.length_set, List.length_set]; exact hd') (by omega) (by omega) (by omega)
    rw [tot_cond]
    refine ⟨fun h => ?_, fun h => ?_⟩
    · have h := of_decide_eq_true h
      simp only [tot_chk, inbn, decide_eq_true_eq, Int.toNat_natCast, List.length_set]
      refine ⟨by omega, by omega, by omega, by omega, (less_tot _ _).bind ?_⟩
      rintro _ rfl
      rw [tot_jn]
      exact j2 _ (by rw [decide_eq_true (by omega : i ≤ c)]; rfl)
    · have h := of_decide_eq_false h
      rw [tot_jn]
      exact j2 _ (by rw [decide_eq_false (by omega : ¬ i ≤ c)]; rfl)
  have key1 := loop_Z10_L1 (Q := fun d x i j r => r = parR (parC1 a (scanUp (fun x => ltInt x d'.toArray[a]!) d'.toArray q i.toNat) (scanDown (fun x => !ltInt x d'.toArray[a]!) d'.toArray (scanUp (fun x => ltInt x d'.toArray[a]!) d'.toArray q i.toNat) q) d'.toArray)) (I := fun d x i' j => d = d' ∧ x = (a : Int) ∧ j = (q : Int) ∧ ∃ i : Nat, i' = (i : Int) ∧ a + 1 ≤ i ∧ (i ≤ q + 1 ∨ i = a + 1)) (μ := fun _ _ i _ => (3000 - i).toNat) ?_
  · have := key1 d' a ((a + 1 : Nat) : Int) q ⟨rfl, rfl, rfl, a + 1, rfl, Nat.le_refl _, Or.inr rfl⟩
    rw [Int.toNat_natCast] at this
    exact this
  rintro d _ _ _ ⟨rfl, rfl, rfl, i, rfl, hi1, hi2⟩ again1 hag1 ih1
  unfold B_Z10_L1b
  rw [Int.toNat_natCast]
  have j0 : ∀ t : Bool, t = (decide (i ≤ q) && ltInt (d.getD i 0) (d.getD a 0)) → Tot (fun σ => B_Z10_J0 (σ 0) (F_Z47 (σ 0)) (again1 σ) d (a : Int) (i : Int) (q : Int) t) (fun r => r = parR (parC1 a (scanUp (fun x => ltInt x d.toArray[a]!) d.toArray q i) (scanDown (fun x => !ltInt x d.toArray[a]!) d.toArray (scanUp (fun x => ltInt x d.toArray[a]!) d.toArray q i) q) d.toArray)) := by
    intro t ht
    unfold B_Z10_J0
    rw [tot_cond]
    refine ⟨fun h => ?_, fun h => ?_⟩
    · rw [ht] at h
      have h6 := h
      simp only [Bool.and_eq_true, decide_eq_true_eq] at h6
      rw [w64n_succ (by omega), scanUp_step (by simp only [ga]; exact h)]
      have := ih1 d a ((i + 1 : Nat) : Int) q ⟨rfl, rfl, rfl, i + 1, rfl, by omega, by omega⟩ (by omega)
      rw [Int.toNat_natCast] at this
      exact this
    · rw [ht] at h
      rw [scanUp_stop (by simp only [ga]; exact h)]
      exact c3 i hi1 hi2
  rw [tot_cond]
  refine ⟨fun h => ?_, fun h => ?_⟩
  · have h := of_decide_eq_true h
    simp only [tot_chk, inbn, decide_eq_true_eq, Int.toNat_natCast, List.length_set]
    refine ⟨by omega, by omega, by omega, by omega, (less_tot _ _).bind ?_⟩
    rintro _ rfl
    rw [tot_jn]
    exact j0 _ (by rw [decide_eq_true (by omega : i ≤ q)]; rfl)
  · have h := of_decide_eq_false h
    rw [tot_jn]
    exact j0 _ (by rw [decide_eq_false (by omega : ¬ i ≤ q)]; rfl)
end Go.Gx

/-
  Laws, part SO6: slices.Sort sorts.
-/
set_option linter.unusedVariables false
set_option linter.unusedSimpArgs false
namespace Go.Gx
open Go.Sort
/-- A sorted permutation of the part. -/
def SrtR (a b : Nat) (l : List Int) (r : Unit × (List Int × Unit)) : Prop := ∃ l' : List Int, r = ((), (l', ())) ∧ PermIn a b l.toArray l'.toArray ∧ SortedIn ltInt a b l'.toArray
theorem pdq_tot : ∀ (n : Nat) {l : List Int} {a b : Nat} (limit : Int), b - a ≤ n → a ≤ b → b ≤ l.length → l.length ≤ 1000 → Below ltInt a b l.toArray →
    Tot (fun σ => F_Z13 (σ 0) l (a : Int) (b : Int) limit) (SrtR a b l) := by
  intro n
  induction n using Nat.strongRecOn with
  | ind n IH =>
  intro l a b limit hn hab hb hl hB
  refine tot_Z13 ?_
  unfold B_Z13
  have key := loop_Z13_L5 (Q := fun d x y z u v => SrtR x.toNat y.toNat d) (I := fun d x y z u v => d.length = l.length ∧ ∃ a b : Nat, x = (a : Int) ∧ y = (b : Int) ∧ a ≤ b ∧ b ≤ d.length ∧ b - a ≤ n ∧ Below ltInt a b d.toArray) (μ := fun _ x y _ _ _ => (y - x).toNat) ?_
  · have := key l a b limit true true ⟨rfl, a, b, rfl, rfl, hab, hb, hn, hB⟩
    rw [Int.toNat_natCast, Int.toNat_natCast] at this
    exact this
  clear hn hab hb hB a b limit
  rintro d _ _ limit wb wp ⟨hd, a, b, rfl, rfl, hab, hb, hn, hB⟩ again hag ih
  rw [Int.toNat_natCast, Int.toNat_natCast]
  unfold B_Z13_L5b
  rw [w64n_sub (by omega) (by omega), tot_cond]
  refine ⟨fun h => ?_, fun h => ?_⟩
  · refine (insertionSort_tot hb (by omega) (by omega)).bind ?_
    rintro _ rfl
    rw [tot_some]
    have := insertionSort_holds (lt := ltInt) swo_ltInt d.toArray a b hab (by simpa using hb)
    exact ⟨_, rfl, by simpa using this.1, by simpa using this.2⟩
  have h12 := of_decide_eq_false h
  rw [tot_cond]
  refine ⟨fun h => ?_, fun h => ?_⟩
  · refine (heapSort_tot hb (by omega) (by omega)).bind ?_
    rintro _ rfl
    rw [tot_some]
    have := heapSort_holds (lt := ltInt) swo_ltInt d.toArray a b hab (by simpa using hb)
    exact ⟨_, rfl, by simpa using this.1, by simpa using this.2⟩
  -- from the two partitions on
  have glue : ∀ {x y z : List Int} {a b : Nat}, PermIn a b x.toArray y.toArray → SrtR a b y ((), (z, ())) → SrtR a b x ((), (z, ())) := by
    rintro x y z a b h ⟨l', e, h2, h3⟩
    exact ⟨l', e, permIn_trans _ _ _ a b h h2, h3⟩
  have j4 : ∀ (x : List Int) (limit : Int) (p : Nat) (t : Bool), PermIn a b d.toArray x.toArray → a ≤ p → p < b → (t = true → 0 < a ∧ ltInt (x.getD (a - 1) 0) (x.getD p 0) = false) →
      Tot (fun σ => B_Z13_J4 (σ 0) (F_Z6 (σ 0)) (F_Z11 (σ 0)) (F_Z5 (σ 0)) (F_Z8 (σ 0)) (F_Z7 (σ 0)) (F_Z2 (σ 0)) (F_Z47 (σ 0)) (F_Z4 (σ 0)) (F_Z10 (σ 0)) (F_Z13 (σ 0)) (again σ) x (a : Int) (b : Int) limit wb wp ((b - a : Nat) : Int) (p : Int) t) (SrtR a b d) := by
    intro x limit p t hx hp1 hp2 ht
    have hxl : x.length = d.length := by simpa using hx.1
    have hBx : Below ltInt a b x.toArray := hB.perm (by simpa using hb) hx
    unfold B_Z13_J4
    rw [tot_cond]
    refine ⟨fun h => ?_, fun h => ?_⟩
    · obtain ⟨ha0, hnl⟩ := ht h
      refine (partEq_tot (by omega) (by omega) hp1 hp2).bind ?_
      rintro _ rfl
      obtain ⟨g1, g2, g3, g4, g5⟩ := round_eq swo_ltInt (partitionEqual_holds ltInt) (d4 := (partitionEqual ltInt x.toArray a b p).2) (mid := (partitionEqual ltInt x.toArray a b p).1) ha0 hp1 hp2 (by simp; omega) hBx (by rw [ga, ga]; exact hnl) rfl
      generalize partitionEqual ltInt x.toArray a b p = w at g1 g2 g3 g4 g5
      obtain ⟨mid, d4⟩ := w
      simp only at g1 g2 g3 g4 g5
      simp only [peqR]
      have g3' : d4.toList.length = x.length := by simpa using g3
      have := ih d4.toList (mid : Int) b limit wb wp ⟨by omega, mid, b, rfl, rfl, by omega, by omega, by omega, by simpa using g4⟩ (by omega)
      rw [Int.toNat_natCast, Int.toNat_natCast] at this
      refine this.mono ?_
      rintro _ ⟨l', rfl, q1, q2⟩
      obtain ⟨q3, q4⟩ := g5 l'.toArray (by simpa using q1) q2
      exact ⟨l', rfl, permIn_trans _ _ _ a b hx q3, q4⟩
    · refine (partition_tot (by omega) (by omega) hp1 hp2).bind ?_
      rintro r hr
      obtain ⟨g1, g2, g3, g4, g5, g6, g7⟩ := round_part swo_ltInt (partition_holds ltInt) (d4 := (partition ltInt x.toArray a b p).2.2) (ap := (partition ltInt x.toArray a b p).2.1) (mid := (partition ltInt x.toArray a b p).1) hp1 hp2 (by simp; omega) hBx rfl
      generalize partition ltInt x.toArray a b p = w at g1 g2 g3 g4 g5 g6 g7 hr
      obtain ⟨mid, ap, d4⟩ := w
      simp only at g1 g2 g3 g4 g5 g6 g7
      have hr' : r = (((mid : Int), ap, ()), (d4.toList, ())) := hr
      subst hr'
      have g3' : d4.toList.length = x.length := by simpa using g3
      rw [w64n_sub (by omega) (by omega), w64n_sub (by omega) (by omega), w64n_succ (by omega), tot_cond]
      refine ⟨fun h => ?_, fun h => ?_⟩
      · have h := of_decide_eq_true h
        refine (IH (mid - a) (by omega) (l := d4.toList) (a := a) (b := mid) limit (Nat.le_refl _) g1 (by omega) (by omega) (by simpa using g4)).bind ?_
        rintro _ ⟨l', rfl, q1, q2⟩
        obtain ⟨q3, q4⟩ := g6 l'.toArray (by simpa using q1) q2
        have hl' : l'.length = x.length := by have := q1.1; simp only [List.size_toArray] at this; omega
        have := ih l' ((mid + 1 : Nat) : Int) b limit (decide (((mid - a : Nat) : Int) ≥ w64 (((b - a : Nat) : Int).tdiv 8))) ap ⟨by omega, mid + 1, b, rfl, rfl, by omega, by omega, by omega, q3⟩ (by omega)
        rw [Int.toNat_natCast, Int.toNat_natCast] at this
        refine this.mono ?_
        rintro _ ⟨l2, rfl, q5, q6⟩
        obtain ⟨q7, q8⟩ := q4 l2.toArray q5 q6
        exact ⟨l2, rfl, permIn_trans _ _ _ a b hx q7, q8⟩
      · have h := of_decide_eq_false h
        refine (IH (b - (mid + 1)) (by omega) (l := d4.toList) (a := mid + 1) (b := b) limit (Nat.le_refl _) (by omega) (by omega) (by omega) (by simpa using g5)).bind ?_
        rintro _ ⟨l', rfl, q1, q2⟩
        obtain ⟨q3, q4⟩ := g7 l'.toArray (by simpa using q1) q2
        have hl' : l'.length = x.length := by have := q1.1; simp only [List.size_toArray] at this; omega
        have := ih l' (a : Int) (mid : Int) limit (decide (((b - mid : Nat) : Int) ≥ w64 (((b - a : Nat) : Int).tdiv 8))) ap ⟨by omega, a, mid, rfl, rfl, by omega, by omega, by omega, q3⟩ (by omega)
        rw [Int.toNat_natCast, Int.toNat_natCast] at this
        refine this.mono ?_
        rintro _ ⟨l2, rfl, q5, q6⟩
        obtain ⟨q7, q8⟩ := q4 l2.toArray q5 q6
        exact ⟨l2, rfl, permIn_trans _ _ _ a b hx q7, q8⟩
  have j3 : ∀ (x : List Int) (limit : Int) (p : Nat), PermIn a b d.toArray x.toArray → a ≤ p → p < b →
      Tot (fun σ => B_Z13_J3 (σ 0) (F_Z6 (σ 0)) (F_Z11 (σ 0)) (F_Z5 (σ 0)) (F_Z8 (σ 0)) (F_Z7 (σ 0)) (F_Z2 (σ 0)) (F_Z47 (σ 0)) (F_Z4 (σ 0)) (F_Z10 (σ 0)) (F_Z13 (σ 0)) (again σ) x (a : Int) (b : Int) limit wb wp ((b - a : Nat) : Int) (p : Int)) (SrtR a b d) := by
    intro x limit p hx hp1 hp2
    have hxl : x.length = d.length := by simpa using hx.1
    unfold B_Z13_J3
    rw [tot_cond]
    refine ⟨fun h => ?_, fun h => ?_⟩
    · have h := of_decide_eq_true h
      rw [w64n_pred (by omega) (by omega)]
      simp only [tot_chk, inbn, decide_eq_true_eq, Int.toNat_natCast, List.length_set]
      refine ⟨by omega, by omega, by omega, by omega, (less_tot _ _).bind ?_⟩
      rintro _ rfl
      rw [tot_jn]
      exact j4 x limit p _ hx hp1 hp2 fun h => ⟨by omega, by simpa using h⟩
    · rw [tot_jn]
      exact j4 x limit p false hx hp1 hp2 fun h => absurd h (by decide)
  have j2 : ∀ (x : List Int) (limit : Int) (p : Nat) (t : Bool), PermIn a b d.toArray x.toArray → a ≤ p → p < b →
      Tot (fun σ => B_Z13_J2 (σ 0) (F_Z6 (σ 0)) (F_Z11 (σ 0)) (F_Z5 (σ 0)) (F_Z8 (σ 0)) (F_Z7 (σ 0)) (F_Z2 (σ 0)) (F_Z47 (σ 0)) (F_Z4 (σ 0)) (F_Z10 (σ 0)) (F_Z13 (σ 0)) (again σ) x (a : Int) (b : Int) limit wb wp ((b - a : Nat) : Int) (p : Int) t) (SrtR a b d) := by
    intro x limit p t hx hp1 hp2
    have hxl : x.length = d.length := by simpa using hx.1
    have hBx : Below ltInt a b x.toArray := hB.perm (by simpa using hb) hx
    unfold B_Z13_J2
    rw [tot_cond]
    refine ⟨fun h => ?_, fun h => ?_⟩
    · refine (partialIns_tot (by omega) (by omega) (by omega)).bind ?_
      rintro _ rfl
      obtain ⟨q1, q2⟩ := partialInsertionSort_holds (lt := ltInt) swo_ltInt x.toArray a b (by omega) (by simp; omega) hBx
      generalize partialInsertionSort ltInt x.toArray a b = w at q1 q2
      obtain ⟨d4, ok⟩ := w
      simp only at q1 q2
      simp only [pisR]
      have hq : PermIn a b d.toArray d4.toList.toArray := by simpa using permIn_trans _ _ _ a b hx q1
      rw [tot_cond]
      refine ⟨fun h => ?_, fun h => ?_⟩
      · rw [tot_some]
        exact ⟨_, rfl, hq, by simpa using q2 h⟩
      · rw [tot_jn]
        exact j3 d4.toList limit p hq hp1 hp2
    · rw [tot_jn]
      exact j3 x limit p hx hp1 hp2
  have j1 : ∀ (x : List Int) (limit : Int) (p : Nat) (hint : Int), PermIn a b d.toArray x.toArray → a ≤ p → p < b →
      Tot (fun σ => B_Z13_J1 (σ 0) (F_Z6 (σ 0)) (F_Z11 (σ 0)) (F_Z5 (σ 0)) (F_Z8 (σ 0)) (F_Z7 (σ 0)) (F_Z2 (σ 0)) (F_Z47 (σ 0)) (F_Z4 (σ 0)) (F_Z10 (σ 0)) (F_Z13 (σ 0)) (again σ) x (a : Int) (b : Int) limit wb wp ((b - a : Nat) : Int) (p : Int) hint) (SrtR a b d) := by
    intro x limit p hint hx hp1 hp2
    unfold B_Z13_J1
    simp only [tot_cond, tot_jn]
    exact ⟨fun _ => ⟨fun _ => j2 x limit p _ hx hp1 hp2, fun _ => j2 x limit p _ hx hp1 hp2⟩, fun _ => j2 x limit p _ hx hp1 hp2⟩
  have j0 : ∀ (x : List Int) (limit : Int), PermIn a b d.toArray x.toArray →
      Tot (fun σ => B_Z13_J0 (σ 0) (F_Z6 (σ 0)) (F_Z11 (σ 0)) (F_Z5 (σ 0)) (F_Z8 (σ 0)) (F_Z7 (σ 0)) (F_Z2 (σ 0)) (F_Z47 (σ 0)) (F_Z4 (σ 0)) (F_Z10 (σ 0)) (F_Z13 (σ 0)) (again σ) x (a : Int) (b : Int) limit wb wp ((b - a : Nat) : Int)) (SrtR a b d) := by
    intro x limit hx
    have hxl : x.length = d.length := by simpa using hx.1
    unfold B_Z13_J0
    refine (pivot_tot (by omega) (by omega) (by omega)).bind ?_
    rintro _ ⟨p, hint, rfl, hp1, hp2⟩
    rw [tot_cond]
    refine ⟨fun h => ?_, fun h => ?_⟩
    · refine (reverse_tot (by omega) (by omega) (by omega)).bind ?_
      rintro _ ⟨y, rfl, hy⟩
      rw [tot_jn, w64n_pred (by omega) (by omega), w64n_sub (by omega) (by omega), w64n_sub (by omega) (by omega)]
      exact j1 y limit _ _ (permIn_trans _ _ _ a b hx hy) (by omega) (by omega)
    · rw [tot_jn]
      exact j1 x limit _ _ hx hp1 hp2
  rw [tot_cond]
  refine ⟨fun h => ?_, fun h => ?_⟩
  · refine (break_tot hb (by omega) (by omega)).bind ?_
    rintro _ ⟨y, rfl, hy⟩
    rw [tot_jn]
    exact j0 y _ hy
  · rw [tot_jn]
    exact j0 d limit (permIn_refl _ _ _)
/-- slices.Sort. -/
theorem sort_tot {l : List Int} (hl : l.length ≤ 1000) : Tot (fun σ => F_Z23 (σ 0) l) (fun r => ∃ l' : List Int, r = ((), (l', ())) ∧ l'.Perm l ∧ l'.Pairwise (· ≤ ·)) := by
  refine tot_Z23 ?_
  unfold B_Z23
  unfold len
  rw [wrap_id (by omega) (by omega)]
  refine (bitsLen_tot (by omega)).bind ?_
  rintro _ ⟨L, rfl, -⟩
  have := pdq_tot l.length (l := l) (a := 0) (b := l.length) (L : Int) (by omega) (by omega) (by omega) hl (Or.inl rfl)
  refine Tot.bind this ?_
  rintro _ ⟨l', rfl, h1, h2⟩
  rw [tot_some]
  have hlen : l'.length = l.length := by simpa using h1.1
  refine ⟨l', rfl, ?_, ?_⟩
  · have := h1.2.2
    simp only [List.extract_toArray, List.toList_toArray, List.extract_eq_take_drop] at this
    simp only [Nat.sub_zero, List.drop_zero] at this
    rwa [List.take_of_length_le (by omega), List.take_of_length_le (Nat.le_refl _)] at this
  · rw [List.pairwise_iff_getElem]
    intro i j hi hj hij
    have := h2 i j (Nat.zero_le _) hij (by omega)
    rw [ga, ga, List.getD_eq_getElem?_getD, List.getD_eq_getElem?_getD, List.getElem?_eq_getElem hi, List.getElem?_eq_getElem hj] at this
    simp only [Option.getD_some, ltInt, decide_eq_false_iff_not] at this
    omega
end Go.Gx

/-
  Laws, part R6: slices.Compact; the classes of a program, by the program.
-/
set_option linter.unusedVariables false
set_option linter.unusedSimpArgs false
namespace Go.Gx
theorem getD_z {l : List Int} {i : Nat} (h : i < l.length) : l.getD i 0 = l[i] := by
  rw [List.getD_eq_getElem?_getD, List.getElem?_eq_getElem h]; rfl
theorem take_snoc {l : List Int} {i : Nat} (h : i < l.length) : l.take (i + 1) = l.take i ++ [l.getD i 0] := by
  rw [List.take_add_one, List.getElem?_eq_getElem h, getD_z h]; rfl
theorem sorted_at {l : List Int} (hs : l.Pairwise (· ≤ ·)) {i j : Nat} (h : i ≤ j) (hj : j < l.length) : l.getD i 0 ≤ l.getD j 0 := by
  by_cases e : i = j
  · subst e; exact Int.le_refl _
  · rw [getD_z (by omega), getD_z hj]
    exact List.pairwise_iff_getElem.1 hs i j (by omega) hj (by omega)
theorem sorted_take {l : List Int} (hs : l.Pairwise (· ≤ ·)) {m : Nat} (h1 : 1 ≤ m) (hm : m ≤ l.length) {c : Int} (hc : c ∈ l.take m) : c ≤ l.getD (m - 1) 0 := by
  obtain ⟨i, hi, e⟩ := List.getElem_of_mem hc
  have hi' : i < m := by rw [List.length_take] at hi; omega
  rw [← e, List.getElem_take, ← getD_z (by omega : i < l.length)]
  exact sorted_at hs (by omega) (by omega)
/-- slices.Compact of what is sorted. -/
def CptR (s : List Int) (r : (List Int × Unit) × Unit) : Prop := ∃ l : List Int, r = ((l, ()), ()) ∧ l.Pairwise (· < ·) ∧ (∀ c, c ∈ l ↔ c ∈ s) ∧ l.length ≤ s.length
theorem compact_tot {s : List Int} (hl : s.length ≤ 1000) (hs : s.Pairwise (· ≤ ·)) : Tot (fun σ => F_Z18 (σ 0) s) (CptR s) := by
  refine tot_Z18 ?_
  unfold B_Z18 len
  rw [tot_cond]
  refine ⟨fun h => ?_, fun h => ?_⟩
  · have h := of_decide_eq_true h
    rw [tot_some]
    refine ⟨s, rfl, ?_, fun c => Iff.rfl, Nat.le_refl _⟩
    match s, h with
    | [], _ => exact List.Pairwise.nil
    | [x], _ => exact List.pairwise_singleton _ _
    | x :: y :: r, h => simp only [List.length_cons] at h; omega
  have h2 := of_decide_eq_false h
  have key := loop_Z18_L2 (Q := fun _ _ r => CptR s r) (I := fun d k => d = s ∧ ∃ p : Nat, k = (p : Int) ∧ 1 ≤ p ∧ p ≤ s.length ∧ (s.take p).Pairwise (· < ·)) (μ := fun _ k => (s.length - k).toNat) ?_
  · refine key s 1 ⟨rfl, 1, rfl, Nat.le_refl _, by omega, ?_⟩
    rw [take_snoc (i := 0) (by omega)]
    exact List.pairwise_singleton _ _
  rintro d _ ⟨rfl, p, rfl, hp1, hp2, hp3⟩ again hag ih
  unfold B_Z18_L2b len
  rw [tot_cond]
  refine ⟨fun h => ?_, fun h => ?_⟩
  · have h := of_decide_eq_true h
    rw [w64n_pred hp1 (by omega)]
    simp only [tot_chk, inbn, decide_eq_true_eq, Int.toNat_natCast]
    refine ⟨by omega, by omega, by omega, by omega, ?_⟩
    have hle := sorted_at hs (show p - 1 ≤ p by omega) (by omega)
    rw [tot_cond]
    refine ⟨fun he => ?_, fun he => ?_⟩
    · rw [beq_iff_eq] at he
      rw [tot_chk]
      refine ⟨cutb_iff.2 ⟨by omega, by omega, by omega⟩, ?_⟩
      have key1 := loop_Z18_L1 (Q := fun _ _ _ _ r => CptR d r) (I := fun x i j v => v = (p, d.length) ∧ x.length = d.length ∧ ∃ q m : Nat, i = (q : Int) ∧ j = (m : Int) ∧ 1 ≤ m ∧ 1 ≤ q ∧ q ≤ p + m - 1 ∧ p + m ≤ d.length ∧ (∀ z, q ≤ z → x.getD z 0 = d.getD z 0) ∧ (x.take q).Pairwise (· < ·) ∧ ∀ c, c ∈ x.take q ↔ c ∈ d.take (p + m)) (μ := fun _ _ j _ => (d.length - j).toNat) ?_
      · refine key1 d p 1 (p, d.length) ⟨rfl, rfl, p, 1, rfl, rfl, by omega, by omega, by omega, by omega, fun _ _ => rfl, hp3, fun c => ?_⟩
        rw [take_snoc (by omega : p < d.length), List.mem_append, List.mem_singleton]
        refine ⟨Or.inl, fun hc => hc.elim id fun e => ?_⟩
        rw [e, he, show p = (p - 1) + 1 by omega, take_snoc (by omega : p - 1 < d.length), Nat.add_sub_cancel]
        simp
      rintro x _ _ _ ⟨rfl, hx, q, m, rfl, rfl, hm1, hq0, hq1, hm2, hrest, hasc, hmem⟩ again1 hag1 ih1
      unfold B_Z18_L1b B_Z18_J0 len
      simp only
      rw [tot_cond]
      refine ⟨fun h => ?_, fun h => ?_⟩
      · have h := of_decide_eq_true h
        rw [w64n_pred hm1 (by omega)]
        simp only [tot_chk, inbn, decide_eq_true_eq, Int.toNat_natCast, Bool.and_eq_true]
        refine ⟨⟨by omega, by omega⟩, by omega, ⟨by omega, by omega⟩, by omega, ?_⟩
        rw [hrest _ (show q ≤ p + m by omega), hrest _ (show q ≤ p + (m - 1) by omega)]
        have hle := sorted_at hs (show p + (m - 1) ≤ p + m by omega) (by omega)
        rw [tot_cond]
        refine ⟨fun hne => ?_, fun heq => ?_⟩
        · rw [bne_iff_ne] at hne
          simp only [tot_chk, tot_jn, inbn, decide_eq_true_eq, Int.toNat_natCast, Bool.and_eq_true]
          refine ⟨⟨by omega, by omega⟩, by omega, by omega, by omega, ?_⟩
          rw [w64n_succ (by omega), w64n_succ (by omega)]
          have et : (x.set q (d.getD (p + m) 0)).take (q + 1) = x.take q ++ [d.getD (p + m) 0] := by
            rw [take_snoc (by rw [List.length_set]; omega), List.take_set_of_le (Nat.le_refl _), getD_z (by rw [List.length_set]; omega), List.getElem_set_self]
          refine ih1 _ _ _ _ ⟨rfl, by rw [List.length_set]; exact hx, q + 1, m + 1, rfl, rfl, by omega, by omega, by omega, by omega, fun z hz => ?_, ?_, fun c => ?_⟩ (by omega)
          · rw [← hrest z (by omega), List.getD_eq_getElem?_getD, List.getElem?_set_ne (by omega), ← List.getD_eq_getElem?_getD]
          · rw [et, List.pairwise_append]
            refine ⟨hasc, List.pairwise_singleton _ _, fun a ha b hb => ?_⟩
            rw [List.mem_singleton] at hb
            subst hb
            have := sorted_take hs (by omega) hm2 ((hmem a).1 ha)
            rw [show p + m - 1 = p + (m - 1) by omega] at this
            omega
          · rw [et, List.mem_append, List.mem_singleton, hmem, ← Nat.add_assoc, take_snoc (by omega : p + m < d.length), List.mem_append, List.mem_singleton]
        · have heq : d.getD (p + m) 0 = d.getD (p + (m - 1)) 0 := by simpa using heq
          rw [tot_jn, w64n_succ (by omega)]
          refine ih1 _ _ _ _ ⟨rfl, hx, q, m + 1, rfl, rfl, by omega, by omega, by omega, by omega, hrest, hasc, fun c => ?_⟩ (by omega)
          rw [hmem, ← Nat.add_assoc, take_snoc (by omega : p + m < d.length), List.mem_append, List.mem_singleton]
          refine ⟨Or.inl, fun hc => hc.elim id fun e => ?_⟩
          rw [e, heq, show p + m = (p + (m - 1)) + 1 by omega, take_snoc (by omega : p + (m - 1) < d.length)]
          simp
      · have h := of_decide_eq_false h
        have e : p + m = d.length := by omega
        have hq : (x.take q ++ List.replicate (x.length - q) (0 : Int) ++ x.drop x.length).take q = x.take q := by
          rw [List.append_assoc, List.take_append_of_le_length (by rw [List.length_take]; omega), List.take_take, Nat.min_self]
        simp only [tot_chk, tot_some, decide_eq_true_eq, Int.toNat_natCast, cutb_iff]
        refine ⟨⟨by omega, by omega, by omega⟩, ⟨by omega, Nat.le_refl _⟩, ⟨by omega, by omega, ?_⟩, ?_⟩
        · simp only [List.length_append, List.length_take, List.length_replicate, List.length_drop]; omega
        · refine ⟨_, rfl, ?_⟩
          rw [hq]
          refine ⟨hasc, fun c => ?_, by rw [List.length_take]; omega⟩
          rw [hmem, e, List.take_length]
    · have he : d.getD p 0 ≠ d.getD (p - 1) 0 := by simpa using he
      rw [w64n_succ (by omega)]
      refine ih _ _ ⟨rfl, p + 1, rfl, by omega, by omega, ?_⟩ (by omega)
      rw [take_snoc (by omega : p < d.length), List.pairwise_append]
      refine ⟨hp3, List.pairwise_singleton _ _, fun a ha b hb => ?_⟩
      rw [List.mem_singleton] at hb
      subst hb
      have := sorted_take hs hp1 hp2 ha
      omega
  · have h := of_decide_eq_false h
    have e : p = d.length := by omega
    rw [e, List.take_length] at hp3
    rw [tot_some]
    exact ⟨d, rfl, hp3, fun _ => Iff.rfl, Nat.le_refl _⟩
/-- What ascends is told by what is in it. -/
theorem asc_ext : ∀ {a b : List Int}, a.Pairwise (· < ·) → b.Pairwise (· < ·) → (∀ c, c ∈ a ↔ c ∈ b) → a = b
  | [], [], _, _, _ => rfl
  | [], y :: b, _, _, h => absurd ((h y).2 (List.mem_cons_self ..)) (List.not_mem_nil)
  | x :: a, [], _, _, h => absurd ((h x).1 (List.mem_cons_self ..)) (List.not_mem_nil)
  | x :: a, y :: b, ha, hb, h => by
    rw [List.pairwise_cons] at ha hb
    have hxy : x = y := by
      rcases List.mem_cons.1 ((h x).1 (List.mem_cons_self ..)) with e | e
      · exact e
      · rcases List.mem_cons.1 ((h y).2 (List.mem_cons_self ..)) with e' | e'
        · exact e'.symm
        · have := hb.1 x e; have := ha.1 y e'; omega
    subst hxy
    rw [asc_ext ha.2 hb.2 fun c => ?_]
    constructor
    · intro hc
      rcases List.mem_cons.1 ((h c).1 (List.mem_cons_of_mem _ hc)) with e | e
      · subst e; have := ha.1 c hc; omega
      · exact e
    · intro hc
      rcases List.mem_cons.1 ((h c).2 (List.mem_cons_of_mem _ hc)) with e | e
      · subst e; have := hb.1 c hc; omega
      · exact e
theorem newArgs_snoc {ops : List POp} {i : Nat} (h : i < ops.length) : newArgs (ops.take (i + 1)) = newArgs (ops.take i) ++ (if (ops.getD i (0, 0)).1 = 13 then [(ops.getD i (0, 0)).2] else []) := by
  rw [take_last h]
  unfold newArgs
  rw [List.filter_append, List.map_append]
  by_cases hc : (ops.getD i (0, 0)).1 = 13
  · rw [if_pos hc, List.filter_cons, if_pos (by rw [hc]; rfl)]; rfl
  · rw [if_neg hc, List.filter_cons, if_neg (by simpa using hc)]; rfl
theorem newArgs_range {ops : List POp} (h : okOps ops = true) {c : Int} (hc : c ∈ newArgs ops) : 0 ≤ c ∧ c ≤ 9 := by
  obtain ⟨i, hi, h13, rfl⟩ := newArgs_mem.1 hc
  have hoo := okOps_at h hi
  have hm : mostP 13 = 9 := rfl
  simp only [okOp, decide_eq_true_eq, h13, hm] at hoo
  omega
theorem classesP_asc (ops : List POp) : (classesP ops).Pairwise (· < ·) := by
  unfold classesP
  split
  · rw [List.pairwise_filterMap]
    refine List.pairwise_lt_range.imp ?_
    intro a b hab x hx y hy
    split at hx
    · split at hy
      · simp only [Option.some.injEq] at hx hy; omega
      · cases hy
    · cases hx
  · exact List.Pairwise.nil
theorem classesP_mem {ops : List POp} (h : okOps ops = true) (c : Int) : c ∈ classesP ops ↔ c ∈ newArgs ops := by
  unfold classesP
  rw [if_pos h, List.mem_filterMap]
  constructor
  · rintro ⟨a, -, ha⟩
    split at ha
    · rename_i hm
      simp only [Option.some.injEq] at ha
      rw [← ha]; exact hm
    · cases ha
  · intro hc
    have := newArgs_range h hc
    refine ⟨c.toNat, List.mem_range.2 (by omega), ?_⟩
    rw [show ((c.toNat : Nat) : Int) = c by omega, if_pos hc]
theorem i_ClassesIn_tot {ops : List POp} (hl : ops.length ≤ 900000000000) : Tot (fun σ => F_Z58 (σ 0) ops) (fun r => r = ((classesP ops, ()), ())) := by
  refine tot_Z58 ?_
  unfold B_Z58
  refine (i_ValidOps_tot hl).bind ?_
  rintro _ rfl
  simp only [tot_cond, tot_some, Bool.not_eq_true', Bool.not_eq_false']
  refine ⟨fun h => by unfold classesP; rw [if_neg (by rw [h]; decide)], fun h => ?_⟩
  have h3 := (okOps_all h).2
  unfold len
  have hlen : ∀ i, (newArgs (ops.take i)).length ≤ 300 := fun i => by
    unfold newArgs
    rw [List.length_map]
    have := List.length_filter_le (fun o : POp => o.1 == 13) (ops.take i)
    rw [List.length_take] at this
    omega
  have key := loop_Z58_L1 (Q := fun _ _ _ _ r => r = ((classesP ops, ()), ())) (I := fun u o n i => o = ops ∧ n = (ops.length : Int) ∧ ∃ j : Nat, i = (j : Int) ∧ j ≤ ops.length ∧ u = newArgs (ops.take j)) (μ := fun _ _ _ i => (ops.length - i).toNat) ?_
  · exact key [] ops _ 0 ⟨rfl, rfl, 0, rfl, Nat.zero_le _, rfl⟩
  rintro _ o _ _ ⟨rfl, rfl, j, rfl, hj, rfl⟩ again hag ih
  unfold B_Z58_L1b
  have hrd : rdx ((0 : Int), (0 : Int)) o (j : Int) = o.getD j (0, 0) := by rw [rdx_eq, Int.toNat_natCast]
  rw [hrd, tot_cond]
  refine ⟨fun hlt => ?_, fun hge => ?_⟩
  · have hlt := of_decide_eq_true hlt
    have hjl : j < o.length := by omega
    simp only [tot_chk, inbn, tot_cond, tot_jn, room_iff, beq_iff_eq, beq_eq_false_iff_ne, ne_eq]
    have e := newArgs_snoc hjl
    refine ⟨hjl, fun h13 => ⟨by have := hlen j; simp only [List.length_cons, List.length_nil]; omega, ?_⟩, fun h13 => ?_⟩
    · rw [if_pos h13] at e
      unfold B_Z58_J0
      rw [w64n_succ (by omega), ← e]
      exact ih _ _ _ _ ⟨rfl, rfl, j + 1, rfl, hjl, rfl⟩ (by omega)
    · rw [if_neg h13, List.append_nil] at e
      unfold B_Z58_J0
      rw [w64n_succ (by omega), ← e]
      exact ih _ _ _ _ ⟨rfl, rfl, j + 1, rfl, hjl, rfl⟩ (by omega)
  · have hge := of_decide_eq_false hge
    have : j = o.length := by omega
    subst this
    rw [List.take_length]
    have hn : (newArgs o).length ≤ 300 := by have := hlen o.length; rwa [List.take_length] at this
    refine (sort_tot (by omega)).bind ?_
    rintro _ ⟨l1, rfl, h1, h2⟩
    have hl1 : l1.length ≤ 300 := by rw [h1.length_eq]; exact hn
    refine (compact_tot (s := l1) (by omega) h2).bind ?_
    rintro _ ⟨l2, rfl, h4, h5, h6⟩
    refine Tot.bind (P := fun r => r = ((l2, ()), ())) ?_ ?_
    · refine tot_Z24 ?_
      unfold B_Z24 len
      rw [tot_chk, tot_some]
      refine ⟨by rw [Bool.and_eq_true]; exact ⟨by simp, cutb_iff.2 ⟨by omega, by omega, by omega⟩⟩, ?_⟩
      unfold sub
      rw [Int.toNat_natCast, List.take_length]; rfl
    · rintro _ rfl
      rw [tot_some, asc_ext h4 (classesP_asc o) fun c => by rw [h5, classesP_mem h, h1.mem_iff]]
end Go.Gx

/-
  Laws: running for FirstBad (written by mkrun.py).
-/
set_option linter.unusedVariables false
set_option linter.unusedSimpArgs false
namespace Go.Gx
theorem after_FirstBad_tot {N : List PNode} {S M : List Int} {D : Bool} : Tot (fun σ => F_Z53 (σ 0) N S M D) (fun r => r = ((), ())) := by
  refine tot_Z53 ?_
  unfold B_Z53
  rw [tot_some]
theorem running_FirstBad_tot {ops : List POp} (hok : okOps ops = true) : Tot (fun σ => F_Z16 (σ 0) ops) (fun r => r = ((MD (runM newMc ops 0).1, ((runM newMc ops 0).2 : Int), ()), ())) := by
  obtain ⟨h1, h2⟩ := okOps_all hok
  refine tot_Z16 ?_
  unfold B_Z16
  refine newM_tot.bind ?_
  rintro _ rfl
  have key := loop_Z16_L0 (Q := fun ops' t4 N S M D t10 t11 t12 r => r = ((MD (runM newMc ops 0).1, ((runM newMc ops 0).2 : Int), ()), ()))
    (I := fun ops' t4 N S M D t10 t11 t12 => ops' = ops ∧ t10 = ops ∧ t11 = (ops.length : Int) ∧ ∃ j : Nat, t12 = (j : Int) ∧ j ≤ ops.length ∧ MI ⟨N, S, M, D⟩ (1000002 * j) ∧ N.length ≤ j ∧ S.length ≤ j ∧ runM newMc ops 0 = runM ⟨N, S, M, D⟩ (ops.drop j) j)
    (μ := fun _ _ _ _ _ _ _ _ t12 => (ops.length - t12).toNat) ?_
  · exact key ops false [] [] _ false ops _ 0 ⟨rfl, rfl, rfl, 0, rfl, by omega, newMc_inv, by simp, by simp, rfl⟩
  intro ops' t4 N S M D t10 t11 t12 ⟨e1, e2, e3, j, e4, hj, hI, hN, hS, hr⟩ again hag ih
  subst e1 e2 e3 e4
  unfold B_Z16_L0b
  simp only [tot_cond, tot_chk, decide_eq_true_eq, decide_eq_false_iff_not, inb_iff, rdx_eq, Int.toNat_natCast]
  refine ⟨fun hlt => ?_, fun hge => ?_⟩
  · have hj' : j < t10.length := by omega
    have hd : t10.drop j = t10.getD j (0, 0) :: t10.drop (j + 1) := by
      rw [List.drop_eq_getElem_cons hj', List.getD_eq_getElem?_getD, List.getElem?_eq_getElem hj']; rfl
    have hoo : okOp (t10.getD j (0, 0)) = true := List.all_eq_true.1 h1 _ (getD_mem hj')
    rw [hd] at hr
    refine ⟨by omega, (i_step_tot hI (by omega) (by show N.length ≤ _; omega) (by show S.length ≤ _; omega) (c := (t10.getD j (0, 0)).1) (a := (t10.getD j (0, 0)).2) hoo).bind fun r ha => ?_⟩
    cases hs : stepM ⟨N, S, M, D⟩ (t10.getD j (0, 0)).1 (t10.getD j (0, 0)).2 with
    | none =>
      rw [hs] at ha
      obtain ⟨_, ha⟩ := ha
      have ha := ha ⟨by show N.length < _; omega, by show S.length < _; omega⟩
      subst ha
      simp only [Bool.not_false, tot_cond, Option.bind_some]
      refine ⟨fun _ => (copyM_tot hI (by omega)).bind ?_, fun h0 => absurd h0 (by decide)⟩
      rintro _ rfl
      rw [tot_some, hr, runM, hs]
    | some m' =>
      rw [hs] at ha
      have ha : r = ((true, ()), ((some m'.N, m'.S, m'.M, m'.D, ()), ())) := ha
      subst ha
      simp only [Bool.not_true, tot_cond, Option.bind_some]
      refine ⟨fun h0 => absurd h0 (by decide), fun _ => after_FirstBad_tot.bind ?_⟩
      rintro _ rfl
      obtain ⟨g1, g2⟩ := stepM_grow hs
      obtain ⟨i1, i2, i3⟩ := hI.step (by show N.length ≤ _; omega) (by show S.length ≤ _; omega) hoo hs
      rw [show w64 ((j : Int) + 1) = ((j + 1 : Nat) : Int) by rw [w64_id (by omega) (by omega)]; omega]
      refine ih _ _ _ _ _ _ _ _ _ ⟨rfl, rfl, rfl, j + 1, rfl, by omega, ⟨i1.sh, i1.ni.mono (Nat.le_refl _) (by omega)⟩, by show m'.N.length ≤ _; simp only at g1; omega, by show m'.S.length ≤ _; simp only at g2; omega, ?_⟩ (by omega)
      rw [hr, runM, hs]
  · refine (copyM_tot hI (by omega)).bind ?_
    rintro _ rfl
    rw [tot_some, hr, List.drop_eq_nil_of_le (by omega), runM]
    have : j = t10.length := by omega
    rw [this]
end Go.Gx

/-
  Laws: FirstBad, by the program.
-/
set_option linter.unusedVariables false
set_option linter.unusedSimpArgs false
namespace Go.Gx
theorem i_FirstBad_tot {ops : List POp} (hl : ops.length ≤ 900000000000) : Tot (fun σ => F_Z75 (σ 0) ops) (fun r => r = ((badM ops, ()), ())) := by
  refine tot_Z75 ?_
  unfold B_Z75 badM
  refine (i_ValidOps_tot hl).bind ?_
  rintro _ rfl
  simp only [tot_cond, tot_some, Bool.not_eq_true', Bool.not_eq_false']
  refine ⟨fun h => by rw [if_neg (by rw [h]; decide)], fun h => ?_⟩
  refine (running_FirstBad_tot h).bind ?_
  rintro _ rfl
  simp only [tot_cond, tot_some, beq_iff_eq, beq_eq_false_iff_ne, ne_eq, len]
  rw [if_pos h]
  refine ⟨fun he => by rw [if_pos (by show (runM newMc ops 0).2 = _; omega)], fun he => by rw [if_neg (by show ¬ (runM newMc ops 0).2 = _; omega)]⟩
end Go.Gx

/-
  Laws: running for LeastRules, which keeps rules.
-/
set_option linter.unusedVariables false
set_option linter.unusedSimpArgs false
namespace Go.Gx
theorem maxP_snoc (l : List Int) (x : Int) : maxP (l ++ [x]) = if x > maxP l then x else maxP l := by
  unfold maxP; rw [List.foldl_append]; rfl
theorem after_LeastRules_tot {n s : Nat} {D : Bool} (a b c : Int) (l : List Int) : Tot (fun σ => F_Z28 (σ 0) n s D a b c l) (fun r => r = ((), ((a, (n : Int), (if (s : Int) > c then (s : Int) else c), l, ()), ()))) := by
  refine tot_Z28 ?_
  unfold B_Z28
  rw [tot_some]
theorem running_LeastRules_tot {ops : List POp} (hok : okOps ops = true) (st : Int) (cl : List Int) : Tot (fun σ => F_Z9 (σ 0) ops st 0 0 cl) (fun r => r = ((MD (rM ops), (rN ops : Int), ()), ((st, ((rM ops).N.length : Int), maxP (traceM (fun m => (m.S.length : Int)) ops (rN ops)), cl, ()), ()))) := by
  obtain ⟨h1, h2⟩ := okOps_all hok
  refine tot_Z9 ?_
  unfold B_Z9
  refine newM_tot.bind ?_
  rintro _ rfl
  have key := loop_Z9_L0 (Q := fun ops' a1 a2 a3 a4 t4 N S M D t10 t11 t12 r => r = ((MD (rM ops), (rN ops : Int), ()), ((st, ((rM ops).N.length : Int), maxP (traceM (fun m => (m.S.length : Int)) ops (rN ops)), cl, ()), ())))
    (I := fun ops' a1 a2 a3 a4 t4 N S M D t10 t11 t12 => ops' = ops ∧ t10 = ops ∧ t11 = (ops.length : Int) ∧ ∃ j : Nat, t12 = (j : Int) ∧ j ≤ ops.length ∧ MI ⟨N, S, M, D⟩ (1000002 * j) ∧ N.length ≤ j ∧ S.length ≤ j ∧ runM newMc (ops.take j) 0 = (⟨N, S, M, D⟩, j) ∧ a1 = st ∧ a2 = (N.length : Int) ∧ a3 = maxP (traceM (fun m => (m.S.length : Int)) ops j) ∧ a4 = cl)
    (μ := fun _ _ _ _ _ _ _ _ _ _ _ _ t12 => (ops.length - t12).toNat) ?_
  · exact key ops st 0 0 cl false [] [] _ false ops _ 0 ⟨rfl, rfl, rfl, 0, rfl, by omega, newMc_inv, by simp, by simp, rfl, rfl, rfl, rfl, rfl⟩
  intro ops' a1 a2 a3 a4 t4 N S M D t10 t11 t12 ⟨e1, e2, e3, j, e4, hj, hI, hN, hS, hr, f1, f2, f3, f4⟩ again hag ih
  subst e1 e2 e3 e4 f1 f2 f3 f4
  unfold B_Z9_L0b
  simp only [tot_cond, tot_chk, decide_eq_true_eq, decide_eq_false_iff_not, inb_iff, rdx_eq, Int.toNat_natCast]
  refine ⟨fun hlt => ?_, fun hge => ?_⟩
  · have hj' : j < t10.length := by omega
    have hoo : okOp (t10.getD j (0, 0)) = true := List.all_eq_true.1 h1 _ (getD_mem hj')
    refine ⟨by omega, (i_step_tot hI (by omega) (by show N.length ≤ _; omega) (by show S.length ≤ _; omega) (c := (t10.getD j (0, 0)).1) (a := (t10.getD j (0, 0)).2) hoo).bind fun r ha => ?_⟩
    cases hs : stepM ⟨N, S, M, D⟩ (t10.getD j (0, 0)).1 (t10.getD j (0, 0)).2 with
    | none =>
      rw [hs] at ha
      obtain ⟨_, ha⟩ := ha
      have ha := ha ⟨by show N.length < _; omega, by show S.length < _; omega⟩
      subst ha
      simp only [Bool.not_false, tot_cond, Option.bind_some]
      refine ⟨fun _ => (copyM_tot hI (by omega)).bind ?_, fun h0 => absurd h0 (by decide)⟩
      rintro _ rfl
      have he := run_end hj' hr hs
      have en : rN t10 = j := congrArg (·.2) he
      rw [tot_some, en, show rM t10 = ⟨N, S, M, D⟩ from congrArg (·.1) he]
    | some m' =>
      rw [hs] at ha
      have ha : r = ((true, ()), ((some m'.N, m'.S, m'.M, m'.D, ()), ())) := ha
      subst ha
      obtain ⟨g1, g2⟩ := stepM_grow hs
      obtain ⟨i1, i2, i3⟩ := hI.step (by show N.length ≤ _; omega) (by show S.length ≤ _; omega) hoo hs
      have hm := run_more hj' hr hs
      simp only [Bool.not_true, tot_cond, Option.bind_some]
      refine ⟨fun h0 => absurd h0 (by decide), fun _ => (after_LeastRules_tot _ _ _ _).bind ?_⟩
      rintro _ rfl
      rw [show w64 ((j : Int) + 1) = ((j + 1 : Nat) : Int) by rw [w64_id (by omega) (by omega)]; omega]
      refine ih _ _ _ _ _ _ _ _ _ _ _ _ _ ⟨rfl, rfl, rfl, j + 1, rfl, by omega, ⟨i1.sh, i1.ni.mono (Nat.le_refl _) (by omega)⟩, by show m'.N.length ≤ _; simp only at g1; omega, by show m'.S.length ≤ _; simp only at g2; omega, hm, rfl, rfl, ?_, rfl⟩ (by omega)
      rw [traceM_succ, maxP_snoc]
      rw [show rM (t10.take (j + 1)) = m' from congrArg (·.1) hm]
  · refine (copyM_tot hI (by omega)).bind ?_
    rintro _ rfl
    have : j = t10.length := by omega
    subst this
    rw [List.take_length] at hr
    have en : rN t10 = t10.length := congrArg (·.2) hr
    rw [tot_some, en, show rM t10 = ⟨N, S, M, D⟩ from congrArg (·.1) hr]
theorem i_LeastRules_tot {ops : List POp} (hl : ops.length ≤ 900000000000) : Tot (fun σ => F_Z55 (σ 0) ops) (fun r => r = ((((leastP ops).1.st, (leastP ops).1.nd, (leastP ops).1.dp, (leastP ops).1.cl, ()), (leastP ops).2, ()), ())) := by
  refine tot_Z55 ?_
  unfold B_Z55
  refine (i_FirstBad_tot hl).bind ?_
  rintro _ rfl
  rw [tot_cond]
  refine ⟨fun h => ?_, fun h => ?_⟩
  · rw [tot_some]
    have : leastP ops = (⟨0, 0, 0, []⟩, false) := by
      unfold leastP
      refine if_neg fun hc => ?_
      have hb : badM ops = -1 := by unfold badM; rw [if_pos hc.1, if_pos hc.2]
      simp only [hb] at h
      exact absurd h (by decide)
    rw [this]
  · have hb : badM ops = -1 := by simpa using h
    have hc : okOps ops = true ∧ rN ops = ops.length := by
      unfold badM at hb
      split at hb
      · rename_i h1
        split at hb
        · rename_i h2; exact ⟨h1, h2⟩
        · omega
      · omega
    have e : leastP ops = (⟨(ops.length : Int), ((rM ops).N.length : Int), maxP (traceM (fun m => (m.S.length : Int)) ops (rN ops)), classesP ops⟩, true) := by unfold leastP; rw [if_pos hc]
    refine (i_ClassesIn_tot hl).bind ?_
    rintro _ rfl
    refine (running_LeastRules_tot hc.1 _ _).bind ?_
    rintro _ rfl
    rw [tot_some, e]
end Go.Gx

/-
  Laws: the least rules.
-/
set_option linter.unusedVariables false
set_option linter.unusedSimpArgs false
namespace Go.Gx
theorem maxP_rec : ∀ l : List Int, 0 ≤ maxP l.reverse ∧ (∀ x ∈ l, x ≤ maxP l.reverse) ∧ (maxP l.reverse ≠ 0 → maxP l.reverse ∈ l)
  | [] => ⟨by decide, fun x hx => absurd hx (List.not_mem_nil), fun h => absurd rfl h⟩
  | x :: l => by
    obtain ⟨h1, h2, h3⟩ := maxP_rec l
    rw [List.reverse_cons, maxP_snoc]
    split
    · rename_i h
      refine ⟨by omega, fun y hy => ?_, fun _ => List.mem_cons_self ..⟩
      rcases List.mem_cons.1 hy with e | e
      · omega
      · have := h2 y e; omega
    · rename_i h
      refine ⟨h1, fun y hy => ?_, fun hn => List.mem_cons_of_mem _ (h3 hn)⟩
      rcases List.mem_cons.1 hy with e | e
      · omega
      · exact h2 y e
theorem maxP_facts (l : List Int) : 0 ≤ maxP l ∧ (∀ x ∈ l, x ≤ maxP l) ∧ (maxP l ≠ 0 → maxP l ∈ l) := by
  have := maxP_rec l.reverse
  rw [List.reverse_reverse] at this
  exact ⟨this.1, fun x hx => this.2.1 x (List.mem_reverse.2 hx), fun h => List.mem_reverse.1 (this.2.2 h)⟩
def leastR (ops : List POp) : Ru := ⟨(ops.length : Int), ((rM ops).N.length : Int), maxP (traceM (fun m => (m.S.length : Int)) ops (rN ops)), classesP ops⟩
theorem leastR_ok {ops : List POp} (hok : okOps ops = true) (hn : rN ops = ops.length) : RuOk (leastR ops) := by
  have h3 := (okOps_all hok).2
  have hi := rM_inv hok
  have hm := maxP_facts (traceM (fun m => (m.S.length : Int)) ops (rN ops))
  refine ⟨fun c hc => newArgs_range hok ((classesP_mem hok c).1 hc), fun i hi hm => ?_, ⟨by simp only [leastR]; omega, by simp only [leastR]; omega⟩, ⟨by simp only [leastR]; omega, by simp only [leastR]; omega⟩, ⟨by simp only [leastR]; omega, ?_⟩⟩
  · have hi' : i < (classesP ops).length := hi
    obtain ⟨k, hk, e⟩ := List.getElem_of_mem hm
    have hk' : k < i := by rw [List.length_take] at hk; omega
    have e : (classesP ops)[k]'(by omega) = (classesP ops)[i] := by
      have e2 : (leastR ops).cl.getD i 0 = (classesP ops)[i] := getD_z hi'
      rw [← e2, ← e, List.getElem_take]; rfl
    have := List.pairwise_iff_getElem.1 (classesP_asc ops) k i (by omega) hi' hk'
    omega
  · by_cases h0 : maxP (traceM (fun m => (m.S.length : Int)) ops (rN ops)) = 0
    · simp only [leastR]; omega
    · have := hm.2.2 h0
      unfold traceM at this
      obtain ⟨i, hi, e⟩ := List.mem_map.1 this
      have := (rM_inv (okOps_take hok (i + 1))).2.2.1
      have e : ((rM (ops.take (i + 1))).S.length : Int) = (leastR ops).dp := e
      show (leastR ops).dp ≤ 300
      omega
end Go.Gx

/-
  Laws, part R5: rules are compared, by the program.
-/
set_option linter.unusedVariables false
set_option linter.unusedSimpArgs false
namespace Go.Gx
/-- Rules allow all that others allow. -/
structure Allow (a b : Ru) : Prop where
  va : RuOk a
  vb : RuOk b
  st : b.st ≤ a.st
  nd : b.nd ≤ a.nd
  dp : b.dp ≤ a.dp
  cl : ∀ c ∈ b.cl, c ∈ a.cl
theorem i_RulesAllow_1_tot {a : Ru} (hl : a.cl.length ≤ 900000000000) (c : Int) : Tot (fun σ => F_Z30 (σ 0) c a.st a.nd a.dp a.cl) (fun r => r = ((!(decide (c ∈ a.cl)), ()), ((a.st, a.nd, a.dp, a.cl, ()), ()))) := by
  refine tot_Z30 ?_
  unfold B_Z30
  refine (contains_tot hl c).bind ?_
  rintro _ rfl
  rw [tot_some]
theorem containsFunc_tot {a : Ru} (hl : a.cl.length ≤ 900000000000) {s : List Int} (hs : s.length ≤ 900000000000) :
    Tot (fun σ => F_Z0 (σ 0) s a.st a.nd a.dp a.cl) (fun r => ∃ b : Bool, r = ((b, ()), ((a.st, a.nd, a.dp, a.cl, ()), ())) ∧ (b = true ↔ ∃ c ∈ s, c ∉ a.cl)) := by
  refine tot_Z0 ?_
  unfold B_Z0
  have idx : Tot (fun σ => F_Z1 (σ 0) s a.st a.nd a.dp a.cl) (fun r => ∃ i : Int, r = ((i, ()), ((a.st, a.nd, a.dp, a.cl, ()), ())) ∧ (0 ≤ i ↔ ∃ c ∈ s, c ∉ a.cl)) := by
    refine tot_Z1 ?_
    unfold B_Z1
    have key := loop_Z1_L0 (Q := fun _ _ _ _ _ _ _ r => ∃ i : Int, r = ((i, ()), ((a.st, a.nd, a.dp, a.cl, ()), ())) ∧ (0 ≤ i ↔ ∃ c ∈ s, c ∉ a.cl))
      (I := fun s' st nd dp cl t7 t8 => s' = s ∧ st = a.st ∧ nd = a.nd ∧ dp = a.dp ∧ cl = a.cl ∧ t7 = (s.length : Int) ∧ ∃ j : Nat, t8 = (j : Int) ∧ j ≤ s.length ∧ ∀ i, i < j → s.getD i 0 ∈ a.cl) (μ := fun _ _ _ _ _ _ t8 => (s.length - t8).toNat) ?_
    · exact key _ _ _ _ _ _ 0 ⟨rfl, rfl, rfl, rfl, rfl, rfl, 0, rfl, Nat.zero_le _, fun i hi => absurd hi (Nat.not_lt_zero _)⟩
    intro s' st nd dp cl t7 t8 ⟨e1, e2, e3, e4, e5, e6, j, e7, hj, hin⟩ again hag ih
    subst e1 e2 e3 e4 e5 e6 e7
    unfold B_Z1_L0b
    have hrd : rdx (0 : Int) s' (j : Int) = s'.getD j 0 := by rw [rdx_eq, Int.toNat_natCast]
    rw [tot_cond]
    refine ⟨fun hlt => tot_chk.2 ⟨inb_iff.2 (by have := of_decide_eq_true hlt; omega), ?_⟩, fun hge => tot_some.2 ?_⟩
    · have hlt := of_decide_eq_true hlt
      rw [hrd]
      refine (i_RulesAllow_1_tot hl _).bind ?_
      rintro _ rfl
      simp only [tot_cond, tot_some, Bool.not_eq_true', Bool.not_eq_false', decide_eq_true_eq, decide_eq_false_iff_not]
      refine ⟨fun hn => ⟨(j : Int), rfl, fun _ => ⟨_, getD_mem (by omega), hn⟩, fun _ => by omega⟩, fun hm => ?_⟩
      rw [w64_succ (by omega) (by omega)]
      refine ih _ _ _ _ _ _ _ ⟨rfl, rfl, rfl, rfl, rfl, rfl, j + 1, rfl, by omega, fun i hi => ?_⟩ (by simp; omega)
      by_cases e : i = j
      · subst e; exact hm
      · exact hin i (by omega)
    · have hge := of_decide_eq_false hge
      refine ⟨-1, rfl, fun h => by omega, fun ⟨c, hcs, hn⟩ => ?_⟩
      obtain ⟨i, hi, e⟩ := List.getElem_of_mem hcs
      exfalso
      have := hin i (by omega)
      rw [List.getD_eq_getElem?_getD, List.getElem?_eq_getElem hi] at this
      exact hn (by rw [← e]; exact this)
  refine idx.bind ?_
  rintro _ ⟨i, rfl, hi⟩
  rw [tot_some]
  exact ⟨_, rfl, by rw [decide_eq_true_eq]; exact hi⟩
theorem i_RulesAllow_tot {a b : Ru} (ha : a.cl.length ≤ 900000000000) (hb : b.cl.length ≤ 900000000000) : Tot (fun σ => F_Z41 (σ 0) a.st a.nd a.dp a.cl b.st b.nd b.dp b.cl) (Says (Allow a b)) := by
  refine tot_Z41 ?_
  unfold B_Z41 B_Z41_J0
  refine (i_ValidRules_tot ha).bind ?_
  rintro _ ⟨x, rfl, hx⟩
  simp only [tot_cond, tot_jn, tot_some, Bool.not_eq_true', Bool.not_eq_false', decide_eq_true_eq, decide_eq_false_iff_not]
  refine ⟨fun hf => ⟨fun _ => says_false fun h => absurd (hf.symm.trans (hx.2 h.va)) (by decide), fun h0 => absurd h0 (by decide)⟩, fun ht => ?_⟩
  refine (i_ValidRules_tot hb).bind ?_
  rintro _ ⟨y, rfl, hy⟩
  simp only [tot_cond, tot_jn, tot_some, Bool.not_eq_true', Bool.not_eq_false', decide_eq_true_eq, decide_eq_false_iff_not]
  refine ⟨fun hf => says_false fun h => absurd (hf.symm.trans (hy.2 h.vb)) (by decide), fun hyt => ⟨fun g1 => ⟨fun g2 => ⟨fun g3 => ?_, fun g3 => says_false fun h => by have := h.dp; omega⟩, fun g2 => says_false fun h => by have := h.nd; omega⟩, fun g1 => says_false fun h => by have := h.st; omega⟩⟩
  refine (containsFunc_tot ha hb).bind ?_
  rintro _ ⟨z, rfl, hz⟩
  rw [tot_some]
  refine ⟨_, rfl, ?_⟩
  rw [Bool.not_eq_true']
  constructor
  · intro hf
    refine ⟨hx.1 ht, hy.1 hyt, by omega, by omega, by omega, fun c hc => ?_⟩
    by_cases h : c ∈ a.cl
    · exact h
    · rw [hz.2 ⟨c, hc, h⟩] at hf; cases hf
  · intro h
    cases hq : z with
    | false => rfl
    | true =>
      obtain ⟨c, hc, hn⟩ := hz.1 hq
      exact absurd (h.cl c hc) hn
end Go.Gx

/-
  Laws, part R7: what is let is what the least rules of the orders that are done let.
-/
set_option linter.unusedVariables false
set_option linter.unusedSimpArgs false
namespace Go.Gx
/-- What an order that breaks no rule tells. -/
theorem brk_ok {ops : List POp} {r : Ru} {i : Nat} (h : brk ops r i = 0) : i < rN ops ∧ (i : Int) + 1 ≤ r.st ∧ ((ops.getD i (0, 0)).1 = 13 → (ops.getD i (0, 0)).2 ∈ r.cl) ∧ ((rM (ops.take (i + 1))).N.length : Int) ≤ r.nd ∧ ((rM (ops.take (i + 1))).S.length : Int) ≤ r.dp := by
  unfold brk at h
  split at h
  · cases h
  rename_i a1
  split at h
  · cases h
  rename_i a2
  split at h
  · cases h
  rename_i a3
  split at h
  · cases h
  rename_i a4
  split at h
  · cases h
  rename_i a5
  refine ⟨by omega, by omega, fun h13 => ?_, by omega, by omega⟩
  by_cases hm : (ops.getD i (0, 0)).2 ∈ r.cl
  · exact hm
  · exact absurd ⟨h13, hm⟩ a3
theorem brk_zero {ops : List POp} {r : Ru} {i : Nat} (h1 : i < rN ops) (h2 : (i : Int) + 1 ≤ r.st) (h3 : (ops.getD i (0, 0)).1 = 13 → (ops.getD i (0, 0)).2 ∈ r.cl) (h4 : ((rM (ops.take (i + 1))).N.length : Int) ≤ r.nd) (h5 : ((rM (ops.take (i + 1))).S.length : Int) ≤ r.dp) : brk ops r i = 0 := by
  unfold brk
  rw [if_neg (by omega), if_neg (by omega), if_neg (fun hc => hc.2 (h3 hc.1)), if_neg (by omega), if_neg (by omega)]
theorem leastP_take {ops : List POp} (hok : okOps ops = true) {n : Nat} (hn : n ≤ rN ops) : leastP (ops.take n) = (leastR (ops.take n), true) ∧ RuOk (leastR (ops.take n)) := by
  have hle := rN_le ops
  have h1 : okOps (ops.take n) = true := okOps_take hok n
  have h2 : rN (ops.take n) = (ops.take n).length := by rw [rN_pre hn, List.length_take]; omega
  refine ⟨?_, leastR_ok h1 h2⟩
  unfold leastP leastR
  rw [if_pos ⟨h1, h2⟩]
theorem getD_take {ops : List POp} {n i : Nat} (h : i < n) : (ops.take n).getD i (0, 0) = ops.getD i (0, 0) := by
  rw [List.getD_eq_getElem?_getD, List.getElem?_take_of_lt h, ← List.getD_eq_getElem?_getD]
theorem allow_least {ops : List POp} (hok : okOps ops = true) {r : Ru} (hr : RuOk r) {n : Nat} (hn : n ≤ ops.length) (h : ∀ i, i < n → brk ops r i = 0) : n ≤ rN ops ∧ Allow r (leastR (ops.take n)) := by
  have hnr : n ≤ rN ops := by
    rcases Nat.eq_zero_or_pos n with h0 | h0
    · omega
    · have := (brk_ok (h (n - 1) (by omega))).1; omega
  have hle := rN_le ops
  obtain ⟨_, hv⟩ := leastP_take hok hnr
  have h1 : okOps (ops.take n) = true := okOps_take hok n
  have h2 : rN (ops.take n) = n := rN_pre hnr
  have hl : (ops.take n).length = n := by rw [List.length_take]; omega
  refine ⟨hnr, hr, hv, ?_, ?_, ?_, fun c hc => ?_⟩
  · show ((ops.take n).length : Int) ≤ r.st
    rw [hl]
    rcases Nat.eq_zero_or_pos n with h0 | h0
    · have := hr.st.1; omega
    · have := (brk_ok (h (n - 1) (by omega))).2.1; omega
  · show ((rM (ops.take n)).N.length : Int) ≤ r.nd
    rcases Nat.eq_zero_or_pos n with h0 | h0
    · subst h0
      have := hr.nd.1
      rw [List.take_zero]
      simpa [rM, runM, newMc] using this
    · have := (brk_ok (h (n - 1) (by omega))).2.2.2.1
      rwa [Nat.sub_add_cancel h0] at this
  · show maxP (traceM (fun m => (m.S.length : Int)) (ops.take n) (rN (ops.take n))) ≤ r.dp
    rw [h2]
    have hm := maxP_facts (traceM (fun m => (m.S.length : Int)) (ops.take n) n)
    by_cases h0 : maxP (traceM (fun m => (m.S.length : Int)) (ops.take n) n) = 0
    · rw [h0]; exact hr.dp.1
    · have := hm.2.2 h0
      unfold traceM at this
      obtain ⟨i, hi, e⟩ := List.mem_map.1 this
      rw [List.mem_range] at hi
      have e : ((rM ((ops.take n).take (i + 1))).S.length : Int) = maxP (traceM (fun m => (m.S.length : Int)) (ops.take n) n) := e
      rw [List.take_take, Nat.min_eq_left (by omega)] at e
      have := (brk_ok (h i hi)).2.2.2.2
      omega
  · have hc : c ∈ classesP (ops.take n) := hc
    obtain ⟨i, hi, h13, h14⟩ := newArgs_mem.1 ((classesP_mem h1 c).1 hc)
    rw [hl] at hi
    rw [getD_take hi] at h13 h14
    rw [← h14]
    exact (brk_ok (h i hi)).2.2.1 h13
theorem not_allow {ops : List POp} (hok : okOps ops = true) {r : Ru} {n : Nat} (hn : n < rN ops) (hb : brk ops r n ≠ 0) : ¬ Allow r (leastR (ops.take (n + 1))) := by
  intro hA
  have hle := rN_le ops
  have h1 : okOps (ops.take (n + 1)) = true := okOps_take hok _
  have h2 : rN (ops.take (n + 1)) = n + 1 := rN_pre (by omega)
  have hl : (ops.take (n + 1)).length = n + 1 := by rw [List.length_take]; omega
  refine hb (brk_zero hn ?_ (fun h13 => ?_) hA.nd ?_)
  · have := hA.st
    have e : (leastR (ops.take (n + 1))).st = ((ops.take (n + 1)).length : Int) := rfl
    rw [e, hl] at this
    omega
  · refine hA.cl _ ((classesP_mem h1 _).2 (newArgs_mem.2 ⟨n, by omega, ?_⟩))
    rw [getD_take (by omega)]
    exact ⟨h13, rfl⟩
  · have hm := maxP_facts (traceM (fun m => (m.S.length : Int)) (ops.take (n + 1)) (n + 1))
    have hmem : ((rM ((ops.take (n + 1)).take (n + 1))).S.length : Int) ∈ traceM (fun m => (m.S.length : Int)) (ops.take (n + 1)) (n + 1) := by
      rw [← traceM_get (fun m => (m.S.length : Int)) (ops.take (n + 1)) (show n < n + 1 by omega)]
      exact getD_mem0 (by rw [traceM_len]; omega)
    rw [List.take_take, Nat.min_self] at hmem
    have := hm.2.1 _ hmem
    have hd := hA.dp
    have e : (leastR (ops.take (n + 1))).dp = maxP (traceM (fun m => (m.S.length : Int)) (ops.take (n + 1)) (rN (ops.take (n + 1)))) := rfl
    rw [e, h2] at hd
    omega
end Go.Gx

/-
  The plain law of FnSafeRunRules.
-/
set_option linter.unusedVariables false
set_option linter.unusedSimpArgs false
namespace Go.Gx
theorem sub_take0 {α : Type} {l : List α} {n : Nat} : sub l 0 (n : Int) = l.take n := by simp [sub]
theorem p_Z25 (code : List Int) (hc : ∀ z ∈ code, 0 ≤ z ∧ z ≤ 255) : ∃ k, F_Z25 k code = some ((true, ()), ()) := by
  refine Tot.ex (F := fun k => F_Z25 k code) ?_
  refine tot_Z25 ?_
  unfold B_Z25
  simp only [tot_cond, tot_some, decide_eq_true_eq, decide_eq_false_iff_not, len]
  refine ⟨fun _ => trivial, fun hl => ?_⟩
  refine (DrawSafeRun_tot hc (by omega)).bind ?_
  rintro _ ⟨ops, r, rfl, hll, hcl⟩
  refine (i_SafeRun_tot (r := r) (by simp only; omega) (by omega)).bind fun x hx => ?_
  refine (s_SafeRun_tot (r := r) (by simp only; omega) (by omega)).bind fun y hy => ?_
  have e := hx.eq hy
  subst e
  have hx : AnsR ops r x := hx
  rw [tot_cond]
  refine ⟨fun h0 => absurd h0 (by rw [bne_self_eq_false]; decide), fun _ => ?_⟩
  rw [tot_cond]
  refine ⟨fun h0 => absurd h0 (by rw [bne_self_eq_false]; decide), fun _ => ?_⟩
  rw [tot_jn]
  unfold B_Z25_J0
  rw [tot_cond]
  refine ⟨fun _ => ?_, fun hn => ?_⟩
  · rw [tot_cond]
    refine ⟨fun _ => by rw [tot_some, beq_self_eq_true], fun h0 => absurd h0 (by rw [beq_self_eq_true]; decide)⟩
  rcases hx with ⟨_, e⟩ | ⟨hok, hR, n, w, hS, e⟩
  · rw [e] at hn; simp at hn
  subst e
  clear hn
  have h3 := (okOps_all hok).2
  have hle := hS.le
  obtain ⟨hnr, hA⟩ := allow_least hok hR hle hS.ok
  have hrN := rN_le ops
  obtain ⟨eL, hvL⟩ := leastP_take hok hnr
  have hcl1 : (leastR (ops.take n)).cl.length ≤ 10 := classesP_len _
  simp only [len]
  rw [sub_take0, tot_chk]
  refine ⟨cutb_iff.2 ⟨by omega, by omega, by omega⟩, (i_LeastRules_tot (by rw [List.length_take]; omega)).bind ?_⟩
  rintro _ rfl
  rw [eL]
  have j3 : Tot (fun σ => B_Z25_J3 (σ 0) (F_Z38 (σ 0)) (F_Z84 (σ 0)) (F_Z79 (σ 0)) (F_Z55 (σ 0)) (F_Z41 (σ 0)) r.st r.nd r.dp r.cl (leastR (ops.take n)).st (leastR (ops.take n)).nd (leastR (ops.take n)).dp (leastR (ops.take n)).cl true) (fun r => r = ((true, ()), ())) := by
    unfold B_Z25_J3
    rw [tot_cond]
    refine ⟨fun _ => (i_RulesAllow_tot (a := r) (b := leastR (ops.take n)) (by omega) (by omega)).bind ?_, fun h0 => absurd h0 (by decide)⟩
    rintro _ ⟨t, rfl, ht⟩
    rw [tot_some, ht.2 hA]
  have j1 : ∀ t : Bool, (t = true → n < ops.length ∧ w ≠ 1) → Tot (fun σ => B_Z25_J1 (σ 0) (F_Z38 (σ 0)) (F_Z84 (σ 0)) (F_Z79 (σ 0)) (F_Z55 (σ 0)) (F_Z41 (σ 0)) ops r.st r.nd r.dp r.cl (n : Int) (leastR (ops.take n)).st (leastR (ops.take n)).nd (leastR (ops.take n)).dp (leastR (ops.take n)).cl true t) (fun r => r = ((true, ()), ())) := by
    intro t ht
    unfold B_Z25_J1
    rw [tot_cond]
    refine ⟨fun h0 => ?_, fun _ => by rw [tot_jn]; exact j3⟩
    obtain ⟨hlt, hw⟩ := ht h0
    obtain ⟨hb, hwb⟩ := hS.no hlt
    have hn1 : n < rN ops := by
      by_cases h : n < rN ops
      · exact h
      · exfalso
        refine hw (hwb.trans ?_)
        unfold brk
        rw [if_pos (by omega)]
    obtain ⟨eM, hvM⟩ := leastP_take hok (show n + 1 ≤ rN ops by omega)
    have hcl2 : (leastR (ops.take (n + 1))).cl.length ≤ 10 := classesP_len _
    have ew : w64 ((n : Int) + 1) = ((n + 1 : Nat) : Int) := by rw [w64_id (by omega) (by omega)]; omega
    rw [ew, sub_take0, tot_chk]
    refine ⟨cutb_iff.2 ⟨by omega, by omega, by omega⟩, (i_LeastRules_tot (by rw [List.length_take]; omega)).bind ?_⟩
    rintro _ rfl
    rw [eM, tot_cond]
    refine ⟨fun h => Bool.noConfusion h, fun _ => (i_RulesAllow_tot (a := r) (b := leastR (ops.take (n + 1))) (by omega) (by omega)).bind ?_⟩
    rintro _ ⟨t2, rfl, ht2⟩
    have ht2 : t2 = false := by
      cases t2 with
      | false => rfl
      | true => exact absurd (ht2.1 rfl) (not_allow hok hn1 hb)
    subst ht2
    rw [tot_jn]
    unfold B_Z25_J2
    rw [tot_cond]
    refine ⟨fun h => absurd h (by simp), fun _ => by rw [tot_jn]; exact j3⟩
  rw [tot_cond]
  refine ⟨fun h0 => ?_, fun _ => ?_⟩
  · have h0 := of_decide_eq_true h0
    rw [tot_jn]
    exact j1 _ fun h => ⟨by omega, by simpa using h⟩
  · rw [tot_jn]
    exact j1 false fun h => Bool.noConfusion h
end Go.Gx

/-
  Plain laws about the printed functions.
-/
import Derived.Test.YtfljejcoiapkpaaXLpart1
set_option linter.unusedVariables false
set_option linter.unusedSimpArgs false
namespace Go.Gx
theorem sub_len' {α : Type} {l : List α} {a b : Nat} (h : a ≤ b) (hb : b ≤ l.length) : (sub l (a : Int) (b : Int)).length = b - a := by
  simp only [sub, Int.toNat_natCast, List.length_drop, List.length_take]; omega
theorem sub_mem {α : Type} {l : List α} {a b : Int} {x : α} (h : x ∈ sub l a b) : x ∈ l := List.mem_of_mem_take (List.mem_of_mem_drop h)
theorem fill_tot {g : List PNode} {root level : Int} {u c : Nat} {kids : List Int} (hl : kids.length ≤ 6) (hS : ∀ x ∈ kids, SaveOk g root level u 0 c x) {each one all : Int} (he : each = 1 ∨ each = 2 ∧ kids.length % 2 = 0) {ops : List (Int × Int)} {memo : List Int} (hm : memo.length = g.length) (hu : un g memo ≤ u)
    (hb : ops.length + (6 * c + 6) + 33957804446 * un g memo ≤ 500000000000) : Tot (fun σ => F_s_fill (σ 0) g root level kids each one all ops memo) (Wr g ops memo (6 * c + 6)) := by
  refine tot_s_fill ?_
  unfold B_s_fill
  have hkc : kids.length * c ≤ 6 * c := Nat.mul_le_mul_right _ hl
  have j0 : ∀ b : Bool, Tot (fun σ => B_s_fill_J0 (σ 0) (F_s_emit (σ 0)) (F_s_saveAll (σ 0)) level kids each one all ops memo g root b) (Wr g ops memo (6 * c + 6)) := by
    intro b
    unfold B_s_fill_J0
    rw [tot_cond]
    refine ⟨fun _ => ?_, fun _ => ?_⟩
    · refine (emit_tot (by simp only [List.length_cons, List.length_nil]; omega)).bind ?_
      rintro _ rfl
      refine (saveAll_tot hl hS hm hu (by simp only [List.length_append, List.length_cons, List.length_nil]; omega)).bind ?_
      rintro _ ⟨o2, m2, rfl, k1, k2, k3⟩
      simp only [List.length_append, List.length_cons, List.length_nil] at k3
      refine (emit_tot (by simp only [List.length_cons, List.length_nil]; omega)).bind ?_
      rintro _ rfl
      rw [tot_some]
      exact ⟨_, _, rfl, k1, k2, by simp only [List.length_append, List.length_cons, List.length_nil]; omega⟩
    · have key := loop_s_fill_L1 (Q := fun _ _ _ _ _ _ _ _ _ r => Wr g ops memo (6 * c + 6) r)
        (I := fun l' kids' each' one' o m g' r' i => l' = level ∧ kids' = kids ∧ each' = each ∧ one' = one ∧ g' = g ∧ r' = root ∧ ∃ j : Nat, i = j ∧ j ≤ kids.length ∧ (each = 2 → j % 2 = 0) ∧ m.length = g.length ∧ un g m ≤ un g memo ∧ o.length + 33957804446 * un g m ≤ ops.length + (j * c + j) + 33957804446 * un g memo)
        (μ := fun _ _ _ _ _ _ _ _ i => (kids.length - i).toNat) ?_
      · exact key level kids each one ops memo g root 0 ⟨rfl, rfl, rfl, rfl, rfl, rfl, 0, rfl, by omega, fun _ => rfl, hm, Nat.le_refl _, by omega⟩
      intro l' kids' each' one' o m g' r' i ⟨e1, e2, e3, e4, e5, e6, j, e7, hj, hj2, hml, hmu, hmo⟩ again hag ih
      subst e1 e2 e3 e4 e5 e6 e7
      unfold B_s_fill_L1b
      simp only [tot_cond, tot_chk, tot_some, decide_eq_true_eq, decide_eq_false_iff_not, len, cutb_iff]
      refine ⟨fun hlt => ?_, fun hge => ?_⟩
      · obtain ⟨e, he', he1⟩ : ∃ e : Nat, each' = (e : Int) ∧ 1 ≤ e ∧ e ≤ 2 ∧ j + e ≤ kids'.length ∧ (each' = 2 → (j + e) % 2 = 0) := by
          rcases he with h | ⟨h, h2⟩
          · exact ⟨1, h, by omega, by omega, by omega, fun h' => by omega⟩
          · have := hj2 h; exact ⟨2, h, by omega, by omega, by omega, fun _ => by omega⟩
        subst he'
        have wj : w64 ((j : Int) + (e : Int)) = ((j + e : Nat) : Int) := by rw [w64_id (by omega) (by omega)]; omega
        simp only [wj]
        have hsl := sub_len' (l := kids') (a := j) (b := j + e) (by omega) (by omega)
        have hec : (j + e) * c ≤ kids'.length * c := Nat.mul_le_mul_right _ (by omega)
        rw [Nat.add_mul] at hec
        refine ⟨by omega, (saveAll_tot (list := sub kids' (j : Int) ((j + e : Nat) : Int)) (by omega) (fun x hx => hS x (sub_mem hx)) hml (by omega) (by rw [hsl, show j + e - j = e by omega]; omega)).bind ?_⟩
        rintro _ ⟨o2, m2, rfl, k1, k2, k3⟩
        rw [hsl, show j + e - j = e by omega] at k3
        refine (emit_tot (by simp only [List.length_cons, List.length_nil]; omega)).bind ?_
        rintro _ rfl
        refine ih l' kids' _ one' _ m2 g' r' _ ⟨rfl, rfl, rfl, rfl, rfl, rfl, j + e, rfl, by omega, he1.2.2.2, k1, by omega, ?_⟩ (by simp; omega)
        simp only [List.length_append, List.length_cons, List.length_nil]
        rw [Nat.add_mul]
        omega
      · have : j = kids'.length := by omega
        subst this
        exact ⟨o, m, rfl, hml, hmu, by omega⟩
  rw [tot_cond]
  refine ⟨fun _ => ?_, fun _ => ?_⟩
  · rw [tot_jn]; exact j0 _
  · rw [tot_jn]; exact j0 _
theorem saveTuple_tot {g : List PNode} {root level : Int} {u r : Nat} (hg : g.length ≤ 12) {at2 : Nat} (ha : at2 < g.length) (h6 : (nd g (at2 : Int)).2.2.length ≤ 6) (hr : (nd g (at2 : Int)).2.2 ≠ [] → ∃ r', r = r' + 1 ∧ ∀ x ∈ (nd g (at2 : Int)).2.2, SaveOk g root level u 0 (GG r') x)
    {ops : List (Int × Int)} {memo : List Int} (hm : memo.length = g.length) (hu : un g memo ≤ u) (hb : ops.length + GG r + 33957804446 * un g memo ≤ 500000000000) : Tot (fun σ => F_s_saveTuple (σ 0) g root level at2 ops memo) (Wr g ops memo (GG r)) := by
  refine tot_s_saveTuple ?_
  unfold B_s_saveTuple
  have hG := GG_le r
  rw [tot_chk]
  refine ⟨inb_iff.2 (by omega), ?_⟩
  generalize hk : (nd g (at2 : Int)).2.2 = kids at h6 hr
  have hk' : (rdx ((0 : Int), ((0 : Int), ([] : List Int))) g (at2 : Int)).2.2 = kids := hk
  simp only [hk']
  rw [tot_cond]
  refine ⟨fun _ => ?_, fun hne => ?_⟩
  · refine (emit_tot (by simp only [List.length_cons, List.length_nil]; omega)).bind ?_
    rintro _ rfl
    refine (memoed_tot (by omega) (by simp only [List.length_append, List.length_cons, List.length_nil]; omega) (by omega)).bind ?_
    rintro _ ⟨n, hn, rfl⟩
    rw [tot_some]
    have := un_set (g := g) (memo := memo) (i := at2) (v := n) (by omega) hn
    exact ⟨_, _, rfl, by simp [hm], this, by simp only [List.length_append, List.length_cons, List.length_nil]; omega⟩
  · have hne' : kids ≠ [] := by
      intro e; subst e; simp [len] at hne
    obtain ⟨r', rfl, hS⟩ := hr hne'
    have hGr : GG (r' + 1) = 6 * GG r' + 3 := rfl
    have hkc : kids.length * GG r' ≤ 6 * GG r' := Nat.mul_le_mul_right _ h6
    -- behind the kids
    have j1 : ∀ (o : List (Int × Int)) (short : Bool), o.length ≤ ops.length + 1 → (short = true → o.length = ops.length ∧ kids.length ≤ 2) → Tot (fun σ => B_s_saveTuple_J1 (σ 0) (F_s_emit (σ 0)) (F_s_memoed (σ 0)) (F_s_saveAll (σ 0)) level at2 o memo g root kids short) (Wr g ops memo (GG (r' + 1))) := by
      intro o short ho hsh
      unfold B_s_saveTuple_J1
      refine (saveAll_tot h6 hS hm hu (by omega)).bind ?_
      rintro _ ⟨o2, m2, rfl, k1, k2, k3⟩
      rw [tot_chk]
      refine ⟨inb_iff.2 (by simp only []; omega), ?_⟩
      -- the tuple is made
      have j5 : ∀ c : Int, Tot (fun σ => B_s_saveTuple_J5 (σ 0) (F_s_emit (σ 0)) (F_s_memoed (σ 0)) (F_s_saveAll (σ 0)) at2 o2 m2 c) (Wr g ops memo (GG (r' + 1))) := by
        intro c
        unfold B_s_saveTuple_J5
        refine (emit_tot (by simp only [List.length_cons, List.length_nil]; omega)).bind ?_
        rintro _ rfl
        refine (memoed_tot (by omega) (by simp only [List.length_append, List.length_cons, List.length_nil]; omega) (by omega)).bind ?_
        rintro _ ⟨n, hn, rfl⟩
        rw [tot_some]
        have := un_set (g := g) (memo := m2) (i := at2) (v := n) (by omega) hn
        exact ⟨o2 ++ [(c, 0)] ++ [(15, n)], m2.set at2 n, rfl, by simp [k1], by omega, by simp only [List.length_append, List.length_cons, List.length_nil]; omega⟩
      -- it was there
      have j4 : ∀ o3 : List (Int × Int), o3.length + 33957804446 * un g m2 + 1 ≤ ops.length + GG (r' + 1) + 33957804446 * un g memo → Tot (fun σ => B_s_saveTuple_J4 (σ 0) (F_s_emit (σ 0)) (F_s_memoed (σ 0)) (F_s_saveAll (σ 0)) at2 o3 m2) (Wr g ops memo (GG (r' + 1))) := by
        intro o3 h3
        unfold B_s_saveTuple_J4
        rw [tot_chk]
        refine ⟨inb_iff.2 (by omega), (emit_tot (by simp only [List.length_cons, List.length_nil]; omega)).bind ?_⟩
        rintro _ rfl
        rw [tot_some]
        exact ⟨_, _, rfl, k1, k2, by simp only [List.length_append, List.length_cons, List.length_nil]; omega⟩
      rw [tot_cond]
      refine ⟨fun _ => ?_, fun _ => ?_⟩
      · have key := loop_s_saveTuple_L3 (Q := fun _ _ _ _ _ _ r => Wr g ops memo (GG (r' + 1)) r) (I := fun a o3 m3 kd sh i => a = (at2 : Int) ∧ m3 = m2 ∧ kd = kids ∧ sh = short ∧ ∃ j : Nat, i = j ∧ j ≤ kids.length ∧ (short = true → o3.length = o2.length + j) ∧ (short = false → o3.length = o2.length)) (μ := fun _ _ _ _ _ i => (kids.length - i).toNat) ?_
        · exact key at2 o2 m2 kids short 0 ⟨rfl, rfl, rfl, rfl, 0, rfl, by omega, fun _ => rfl, fun _ => rfl⟩
        intro a o3 m3 kd sh i ⟨e1, e2, e3, e4, j, e5, hj, hs1, hs2⟩ again hag ih
        subst e1 e2 e3 e4 e5
        unfold B_s_saveTuple_L3b B_s_saveTuple_J2
        simp only [tot_cond, tot_jn, decide_eq_true_eq, decide_eq_false_iff_not, len, Bool.not_eq_true', Bool.not_eq_false']
        cases sh with
        | true =>
          have h1 := hs1 rfl
          have h2 := hsh rfl
          refine ⟨fun hlt => ⟨fun _ => ?_, fun h => absurd h (by decide)⟩, fun hge => ⟨fun h => absurd h (by decide), fun _ => ⟨fun h => absurd h (by decide), fun _ => j4 o3 (by omega)⟩⟩⟩
          refine (emit_tot (by simp only [List.length_cons, List.length_nil]; omega)).bind ?_
          rintro _ rfl
          rw [w64_succ (by omega) (by omega)]
          refine ih _ _ _ _ _ _ ⟨rfl, rfl, rfl, rfl, j + 1, rfl, by omega, fun _ => ?_, fun h => absurd h (by decide)⟩ (by simp; omega)
          simp only [List.length_append, List.length_cons, List.length_nil]; omega
        | false =>
          have h1 := hs2 rfl
          have fin : Tot (fun σ => (F_s_emit (σ 0) o3 [(18, 0)]).bind fun r79 => jn (fun t => B_s_saveTuple_J4 (σ 0) (F_s_emit (σ 0)) (F_s_memoed (σ 0)) (F_s_saveAll (σ 0)) t.1 t.2.1 t.2.2.1) ((at2 : Int), r79.1.1, m3, ())) (Wr g ops memo (GG (r' + 1))) := by
            refine (emit_tot (by simp only [List.length_cons, List.length_nil]; omega)).bind ?_
            rintro _ rfl
            rw [tot_jn]
            exact j4 _ (by simp only [List.length_append, List.length_cons, List.length_nil]; omega)
          exact ⟨fun hlt => ⟨fun h => absurd h (by decide), fun _ => ⟨fun _ => fin, fun h => absurd h (by decide)⟩⟩, fun hge => ⟨fun h => absurd h (by decide), fun _ => ⟨fun _ => fin, fun h => absurd h (by decide)⟩⟩⟩
      · rw [tot_cond]
        refine ⟨fun _ => ?_, fun _ => ?_⟩
        · rw [tot_jn]; exact j5 _
        · rw [tot_jn]; exact j5 _
    have j0 : ∀ (short : Bool), (short = true → kids.length ≤ 2) → Tot (fun σ => B_s_saveTuple_J0 (σ 0) (F_s_emit (σ 0)) (F_s_memoed (σ 0)) (F_s_saveAll (σ 0)) level at2 ops memo g root kids short) (Wr g ops memo (GG (r' + 1))) := by
      intro short hsh
      unfold B_s_saveTuple_J0
      rw [tot_cond]
      refine ⟨fun hs => ?_, fun hs => ?_⟩
      · refine (emit_tot (by simp only [List.length_cons, List.length_nil]; omega)).bind ?_
        rintro _ rfl
        rw [tot_jn]
        exact j1 _ short (by simp) (fun h => by rw [h] at hs; cases hs)
      · rw [tot_jn]
        have : short = true := by simpa using hs
        exact j1 ops short (by omega) (fun h => ⟨rfl, hsh h⟩)
    rw [tot_cond]
    refine ⟨fun _ => ?_, fun _ => ?_⟩
    · rw [tot_jn]
      exact j0 _ (fun h => by simp only [decide_eq_true_eq, len] at h; omega)
    · rw [tot_jn]
      exact j0 false (fun h => absurd h (by decide))
theorem SaveOk.mono {g : List PNode} {root level : Int} {u r r2 c c2 : Nat} {x : Int} (h : SaveOk g root level u r c x) (hc : c ≤ c2) : SaveOk g root level u r2 c2 x := by
  intro ops memo h1 h2 h3
  refine (h ops memo h1 h2 (by omega)).mono ?_
  rintro _ ⟨o, m, rfl, k1, k2, k3⟩
  exact ⟨o, m, rfl, k1, k2, by omega⟩
theorem save_tot {g : List PNode} {root level : Int} (hv : ValidG g root) : ∀ (u r : Nat), r ≤ 12 → ∀ at2 : Nat, at2 < g.length → ((nd g (at2 : Int)).1 = 2 → rk g (at2 : Int) ≤ r) → SaveOk g root level u 0 (GG r) (at2 : Int) := by
  have hk : Kidly g := fun n hn => (hv.node n hn).kidly
  have hg := hv.most
  intro u
  induction u using Nat.strongRecOn with
  | _ u ihu =>
  intro r
  induction r using Nat.strongRecOn with
  | _ r ihr =>
  intro hr12 at2 ha hrk ops memo hm hu hb
  have hG := GG_le r
  have hG12 := GG_12
  have hin : 0 ≤ (at2 : Int) ∧ (at2 : Int) < (g.length : Int) := by omega
  have hnode := hv.node _ (nd_mem hin.1 hin.2)
  refine tot_s_save ?_
  unfold B_s_save
  simp only [tot_chk]
  refine ⟨inb_iff.2 (by omega), inb_iff.2 (by omega), ?_⟩
  have hrd : rdx (0 : Int) memo (at2 : Int) = memo.getD at2 0 := by rw [rdx_eq, Int.toNat_natCast]
  have hndd : rdx ((0 : Int), ((0 : Int), ([] : List Int))) g (at2 : Int) = nd g (at2 : Int) := rfl
  rw [hrd, hndd]
  rw [tot_cond]
  refine ⟨fun _ => ?_, fun hneg => ?_⟩
  · rw [tot_chk]
    refine ⟨inb_iff.2 (by omega), (emit_tot (by simp only [List.length_cons, List.length_nil]; omega)).bind ?_⟩
    rintro _ rfl
    rw [tot_some]
    exact ⟨_, memo, rfl, hm, Nat.le_refl _, by simp only [List.length_append, List.length_cons, List.length_nil]; omega⟩
  have hneg : memo.getD at2 0 < 0 := by simpa using hneg
  -- it gets into the memo
  have mem : ∀ (o : List (Int × Int)), o.length ≤ 520000000000 → (nd g (at2 : Int)).1 ≠ 2 → Tot (fun σ => F_s_memoed (σ 0) o memo at2) (fun r => ∃ n : Int, r = ((o ++ [(15, n)], memo.set at2 n, ()), ()) ∧ un g (memo.set at2 n) < un g memo ∧ (memo.set at2 n).length = g.length) := by
    intro o ho h2
    refine (memoed_tot (by omega) (by omega) (by omega)).mono ?_
    rintro _ ⟨n, hn, rfl⟩
    exact ⟨n, rfl, un_set' (by omega) ha hn h2 hneg, by simp [hm]⟩
  -- all kids, when it is there
  have kids12 : ∀ u1, u1 < u → ∀ x ∈ (nd g (at2 : Int)).2.2, SaveOk g root level u1 0 (GG 12) x := by
    intro u1 hu1 x hx
    have hx' := hnode.2.1 x hx
    obtain ⟨m, rfl⟩ := Int.eq_ofNat_of_zero_le hx'.1
    exact ihu u1 hu1 12 (Nat.le_refl _) m (by omega) (fun _ => Nat.le_trans (rk_le g _) hg)
  rw [tot_cond]
  simp only [beq_iff_eq, beq_eq_false_iff_ne, ne_eq]
  refine ⟨fun h0 => ?_, fun h0 => ?_⟩
  · refine (emit_tot (by simp only [List.length_cons, List.length_nil]; omega)).bind ?_
    rintro _ rfl
    rw [tot_some]
    exact ⟨_, memo, rfl, hm, Nat.le_refl _, by simp only [List.length_append, List.length_cons, List.length_nil]; omega⟩
  rw [tot_cond]
  simp only [beq_iff_eq, beq_eq_false_iff_ne, ne_eq]
  refine ⟨fun h1 => ?_, fun h1 => ?_⟩
  · refine (emit_tot (by simp only [List.length_cons, List.length_nil]; omega)).bind ?_
    rintro _ rfl
    refine (mem _ (by simp only [List.length_append, List.length_cons, List.length_nil]; omega) (by omega)).bind ?_
    rintro _ ⟨n, rfl, k1, k2⟩
    rw [tot_some]
    exact ⟨_, memo.set at2 n, rfl, k2, by omega, by simp only [List.length_append, List.length_cons, List.length_nil]; omega⟩
  rw [tot_cond]
  simp only [beq_iff_eq, beq_eq_false_iff_ne, ne_eq]
  refine ⟨fun h2 => ?_, fun h2 => ?_⟩
  · have hrk := hrk h2
    refine (saveTuple_tot (u := u) (r := r) hg ha hnode.1 (fun hne => ?_) hm hu hb).bind ?_
    · obtain ⟨x, hx⟩ := List.exists_mem_of_ne_nil _ hne
      have hpos := rk_pos hv hin hx
      refine ⟨r - 1, by omega, fun y hy => ?_⟩
      have hy' := hnode.2.1 y hy
      obtain ⟨m, rfl⟩ := Int.eq_ofNat_of_zero_le hy'.1
      exact ihr (r - 1) (by omega) (by omega) m (by omega) (fun hk2 => by have := rk_lt hv hin hy hk2; omega)
    · rintro _ ⟨o, m, rfl, k1, k2, k3⟩
      rw [tot_some]
      exact ⟨o, m, rfl, k1, k2, k3⟩
  -- a list, a dictionary, an object
  have filled : ∀ (o : List (Int × Int)) (n each one all : Int), o.length ≤ ops.length + 2 → un g (memo.set at2 n) < un g memo → (memo.set at2 n).length = g.length → (each = 1 ∨ each = 2 ∧ (nd g (at2 : Int)).2.2.length % 2 = 0) →
      Tot (fun σ => (F_s_fill (σ 0) g root level (nd g (at2 : Int)).2.2 each one all o (memo.set at2 n)).bind fun r84 => some ((r84.1.1, r84.1.2.1, ()), ())) (Wr g ops memo (GG r)) := by
    intro o n each one all ho k1 k2 he
    refine (fill_tot (u := u - 1) (c := GG 12) hnode.1 (kids12 (u - 1) (by omega)) he k2 (by omega) (by omega)).bind ?_
    rintro _ ⟨o2, m2, rfl, q1, q2, q3⟩
    rw [tot_some]
    exact ⟨o2, m2, rfl, q1, by omega, by omega⟩
  rw [tot_cond]
  simp only [beq_iff_eq, beq_eq_false_iff_ne, ne_eq]
  refine ⟨fun h3 => ?_, fun h3 => ?_⟩
  · refine (emit_tot (by simp only [List.length_cons, List.length_nil]; omega)).bind ?_
    rintro _ rfl
    refine (mem _ (by simp only [List.length_append, List.length_cons, List.length_nil]; omega) h2).bind ?_
    rintro _ ⟨n, rfl, k1, k2⟩
    exact filled _ n 1 8 9 (by simp) k1 k2 (.inl rfl)
  rw [tot_cond]
  simp only [beq_iff_eq, beq_eq_false_iff_ne, ne_eq]
  refine ⟨fun h4 => ?_, fun h4 => ?_⟩
  · have hd : (nd g (at2 : Int)).2.2.length % 2 = 0 := by
      have := hnode.2.2
      rw [if_neg h0, if_neg h1, if_neg (by simp [h2, h3]), if_pos h4] at this
      exact this.2.2
    refine (emit_tot (by simp only [List.length_cons, List.length_nil]; omega)).bind ?_
    rintro _ rfl
    refine (mem _ (by simp only [List.length_append, List.length_cons, List.length_nil]; omega) h2).bind ?_
    rintro _ ⟨n, rfl, k1, k2⟩
    exact filled _ n 2 11 12 (by simp) k1 k2 (.inr ⟨rfl, hd⟩)
  · refine (emit_tot (by simp only [List.length_cons, List.length_nil]; omega)).bind ?_
    rintro _ rfl
    refine (mem _ (by simp only [List.length_append, List.length_cons, List.length_nil]; omega) h2).bind ?_
    rintro _ ⟨n, rfl, k1, k2⟩
    have hkc : (nd g (at2 : Int)).2.2.length * GG 12 ≤ 6 * GG 12 := Nat.mul_le_mul_right _ hnode.1
    refine (saveAll_tot (u := u - 1) hnode.1 (kids12 (u - 1) (by omega)) k2 (by omega) (by simp only [List.length_append, List.length_cons, List.length_nil]; omega)).bind ?_
    rintro _ ⟨o2, m2, rfl, q1, q2, q3⟩
    simp only [List.length_append, List.length_cons, List.length_nil] at q3
    unfold B_s_save_J0
    rw [tot_cond]
    refine ⟨fun _ => ?_, fun _ => ?_⟩
    · refine (emit_tot (by simp only [List.length_cons, List.length_nil]; omega)).bind ?_
      rintro _ rfl
      rw [tot_jn, tot_some]
      exact ⟨_, m2, rfl, q1, by omega, by simp only [List.length_append, List.length_cons, List.length_nil]; omega⟩
    · rw [tot_jn, tot_some]
      exact ⟨o2, m2, rfl, q1, by omega, by omega⟩
theorem emptyMemo_tot {g : List PNode} {root : Int} (hg : g.length ≤ 1000) : Tot (fun σ => F_s_emptyMemo (σ 0) g root) (fun r => r = ((List.replicate g.length (-1), ()), ())) := by
  refine tot_s_emptyMemo ?_
  unfold B_s_emptyMemo
  have key := loop_s_emptyMemo_L0 (Q := fun _ _ _ _ r => r = ((List.replicate g.length (-1), ()), ())) (I := fun g' _ o i => g' = g ∧ ∃ j : Nat, i = j ∧ j ≤ g.length ∧ o = List.replicate j (-1)) (μ := fun _ _ _ i => (g.length - i).toNat) ?_
  · exact key g root [] 0 ⟨rfl, 0, rfl, by omega, rfl⟩
  intro g' r' o i ⟨e1, j, e2, hj, e3⟩ again hag ih
  subst e1 e2 e3
  unfold B_s_emptyMemo_L0b
  simp only [tot_cond, tot_chk, tot_some, decide_eq_true_eq, decide_eq_false_iff_not, len, room_iff, List.length_replicate, List.length_cons, List.length_nil]
  refine ⟨fun hlt => ⟨by omega, ?_⟩, fun hge => ?_⟩
  · rw [w64_succ (by omega) (by omega)]
    exact ih _ _ _ _ ⟨rfl, j + 1, rfl, by omega, by rw [List.replicate_succ']⟩ (by simp; omega)
  · have : j = g'.length := by omega
    rw [this]
theorem written_tot {g : List PNode} {root : Int} (hv : ValidG g root) (level : Int) : Tot (fun σ => F_s_written (σ 0) g root level) (fun r => ∃ ops : List (Int × Int), r = ((ops, ()), ()) ∧ ops.length ≤ 500000000000) := by
  have hg := hv.most
  refine tot_s_written ?_
  unfold B_s_written
  refine (emptyMemo_tot (by omega)).bind ?_
  rintro _ rfl
  obtain ⟨m, hm⟩ := Int.eq_ofNat_of_zero_le hv.root.1
  have hroot := hv.root
  subst hm
  have hun := un_le g (List.replicate g.length (-1))
  have hG := GG_12
  refine (save_tot hv g.length 12 (Nat.le_refl _) m (by omega) (fun _ => Nat.le_trans (rk_le g _) hg) [] _ (by simp) hun (by simp only [List.length_nil]; omega)).bind ?_
  rintro _ ⟨o, m2, rfl, k1, k2, k3⟩
  simp only [List.length_nil] at k3
  refine (emit_tot (by simp only [List.length_cons, List.length_nil]; omega)).bind ?_
  rintro _ rfl
  rw [tot_some]
  exact ⟨_, rfl, by simp only [List.length_append, List.length_cons, List.length_nil]; omega⟩
end Go.Gx

/-
  Laws, part 13: programs and bytes that are drawn.
-/
set_option linter.unusedVariables false
set_option linter.unusedSimpArgs false
namespace Go.Gx
theorem someOps_tot {b : List Int} {p : Int} (h : RD b p) (hp : p ≤ 90000000) : Tot (fun σ => F_s_someOps (σ 0) b p) (Drawn b p 2000 fun x => ∃ ops : List POp, x = (ops, ()) ∧ ops.length ≤ 500000000000) := by
  refine tot_s_someOps ?_
  unfold B_s_someOps
  have fin : ∀ (q : Int) (o : List POp), p ≤ q → q ≤ p + 2000 → o.length ≤ 500000000000 → Drawn b p 2000 (fun x => ∃ ops : List POp, x = (ops, ()) ∧ ops.length ≤ 500000000000) ((o, ()), ((b, q, ()), ())) := fun q o h1 h2 h3 => ⟨_, q, rfl, h1, h2, o, rfl, h3⟩
  have j2 : ∀ (q : Int) (o : List POp), p ≤ q → q ≤ p + 1900 → o.length ≤ 500000000000 → Tot (fun σ => B_s_someOps_J2 (σ 0) (F_s_reader_pick (σ 0)) (F_s_likelyOps (σ 0)) (F_s_someGraph (σ 0)) (F_s_written (σ 0)) (F_s_someOp (σ 0)) (F_s_reader_one (σ 0)) b q o) (Drawn b p 2000 fun x => ∃ ops : List POp, x = (ops, ()) ∧ ops.length ≤ 500000000000) := by
    intro q o h1 h2 h3
    have hq := h.next h1 (by omega)
    unfold B_s_someOps_J2
    rw [tot_cond]
    simp only [decide_eq_true_eq, decide_eq_false_iff_not, len]
    refine ⟨fun hlt => ?_, fun _ => by rw [tot_some]; exact fin q o h1 (by omega) h3⟩
    refine (pick_tot hq (by omega) (by omega)).bind ?_
    rintro _ ⟨_, q2, rfl, k1, k2, v, rfl, k3, k4⟩
    rw [tot_cond]
    refine ⟨fun _ => ?_, fun _ => ?_⟩
    · refine (one_tot (hq.next k1 (by omega)) (by omega) (by simp) (by simp)).bind ?_
      rintro _ ⟨_, q3, rfl, f1, f2, u, rfl, hu⟩
      simp only [tot_chk, tot_some, inb_iff, decide_eq_true_eq]
      exact ⟨by omega, by simp; omega, fin q3 _ (by omega) (by omega) (by simpa using h3)⟩
    · rw [tot_cond]
      refine ⟨fun _ => ?_, fun _ => by rw [tot_some]; exact fin q2 o (by omega) (by omega) h3⟩
      refine (one_tot (hq.next k1 (by omega)) (by omega) (by simp) (by simp)).bind ?_
      rintro _ ⟨_, q3, rfl, f1, f2, u, rfl, hu⟩
      have w : w64 ((o.length : Int) - 1) = (o.length : Int) - 1 := w64_id (by omega) (by omega)
      simp only [tot_chk, tot_some, inb_iff, decide_eq_true_eq, w]
      exact ⟨by omega, by omega, fin q3 _ (by omega) (by omega) (by simpa using h3)⟩
  have j1 : ∀ (q : Int) (o : List POp), p ≤ q → q ≤ p + 1800 → o.length ≤ 500000000000 → Tot (fun σ => B_s_someOps_J1 (σ 0) (F_s_reader_pick (σ 0)) (F_s_likelyOps (σ 0)) (F_s_someGraph (σ 0)) (F_s_written (σ 0)) (F_s_someOp (σ 0)) (F_s_reader_one (σ 0)) b q o) (Drawn b p 2000 fun x => ∃ ops : List POp, x = (ops, ()) ∧ ops.length ≤ 500000000000) := by
    intro q o h1 h2 h3
    have hq := h.next h1 (by omega)
    unfold B_s_someOps_J1
    refine (pick_tot hq (by omega) (by omega)).bind ?_
    rintro _ ⟨_, q2, rfl, k1, k2, v, rfl, k3, k4⟩
    rw [tot_cond]
    refine ⟨fun _ => ?_, fun _ => by rw [tot_jn]; exact j2 q2 o (by omega) (by omega) h3⟩
    have w : w64 (len o + 1) = (o.length : Int) + 1 := by rw [w64_id] <;> simp only [len] <;> omega
    rw [w]
    refine (pick_tot (hq.next k1 (by omega)) (by omega) (by omega)).bind ?_
    rintro _ ⟨_, q3, rfl, f1, f2, u, rfl, f3, f4⟩
    have f4 := f4 (by omega)
    rw [tot_chk]
    refine ⟨cutb_iff.2 ⟨Int.le_refl _, f3, by show u ≤ (o.length : Int); omega⟩, ?_⟩
    rw [tot_jn]
    exact j2 q3 (o.take u.toNat) (by omega) (by omega) (by simp only [List.length_take]; omega)
  refine (pick_tot h (by omega) (by omega)).bind ?_
  rintro _ ⟨_, q, rfl, h1, h2, v, rfl, h3, h4⟩
  have hq := h.next h1 (by omega)
  rw [tot_cond]
  refine ⟨fun _ => ?_, fun _ => ?_⟩
  · refine (likelyOps_tot hq (by omega)).bind ?_
    rintro _ ⟨_, q2, rfl, k1, k2, o, rfl, ho, _⟩
    rw [tot_jn]
    exact j2 q2 o (by omega) (by omega) (by omega)
  · refine (someGraph_tot hq (by omega)).bind ?_
    rintro _ ⟨_, q2, rfl, k1, k2, g, root, rfl, hv⟩
    have hq2 := hq.next k1 (by omega)
    refine (pick_tot hq2 (by omega) (by omega)).bind ?_
    rintro _ ⟨_, q3, rfl, f1, f2, u, rfl, f3, f4⟩
    have hq3 := hq2.next f1 (by omega)
    refine (written_tot hv u).bind ?_
    rintro _ ⟨o, rfl, ho⟩
    refine (pick_tot hq3 (by omega) (by omega)).bind ?_
    rintro _ ⟨_, q4, rfl, m1, m2, u2, rfl, m3, m4⟩
    have hq4 := hq3.next m1 (by omega)
    have j0 : ∀ t : Bool, (t = true → 0 < o.length) → Tot (fun σ => B_s_someOps_J0 (σ 0) (F_s_reader_pick (σ 0)) (F_s_likelyOps (σ 0)) (F_s_someGraph (σ 0)) (F_s_written (σ 0)) (F_s_someOp (σ 0)) (F_s_reader_one (σ 0)) b q4 o t) (Drawn b p 2000 fun x => ∃ ops : List POp, x = (ops, ()) ∧ ops.length ≤ 500000000000) := by
      intro t ht
      unfold B_s_someOps_J0
      rw [tot_cond]
      refine ⟨fun hb => ?_, fun _ => by rw [tot_jn]; exact j1 q4 o (by omega) (by omega) ho⟩
      have hpos := ht hb
      refine (pick_tot hq4 (by omega) (by simp only [len]; omega)).bind ?_
      rintro _ ⟨_, q5, rfl, n1, n2, w, rfl, n3, n4⟩
      have n4 := n4 (by simp only [len]; omega)
      simp only [len] at n4
      refine (someOp_tot (hq4.next n1 (by omega)) (by omega)).bind ?_
      rintro _ ⟨_, q6, rfl, l1, l2, c, a, rfl, _⟩
      simp only [tot_chk, inb_iff, decide_eq_true_eq]
      refine ⟨by omega, by omega, ?_⟩
      rw [tot_jn]
      exact j1 q6 _ (by omega) (by omega) (by simpa using ho)
    rw [tot_cond]
    refine ⟨fun _ => ?_, fun _ => ?_⟩
    · rw [tot_jn]; exact j0 _ (fun h => by simp only [decide_eq_true_eq, len] at h; omega)
    · rw [tot_jn]; exact j0 false (fun h => absurd h (by decide))
end Go.Gx

/-
  The plain law of FnShapesOf.
-/
set_option linter.unusedVariables false
set_option linter.unusedSimpArgs false
namespace Go.Gx
theorem DrawShapesOf_tot {code : List Int} (hc : ∀ z ∈ code, 0 ≤ z ∧ z ≤ 255) (hl : code.length ≤ 1048576) : Tot (fun σ => F_s_DrawShapesOf (σ 0) code) (fun r => ∃ ops : List POp, r = ((ops, ()), ()) ∧ ops.length ≤ 500000000000) := by
  refine tot_s_DrawShapesOf ?_
  unfold B_s_DrawShapesOf
  refine (newReader_tot hc hl).bind ?_
  rintro _ ⟨b, rfl, hb⟩
  refine (someOps_tot hb (by omega)).bind ?_
  rintro _ ⟨_, q, rfl, _, _, ops, rfl, hl⟩
  rw [tot_some]
  exact ⟨ops, rfl, hl⟩
def shapesA (ops : List POp) : ((List Int × List Bool × List Int × List Int × Bool × Unit) × Int × Unit) × Unit := if okOps ops = true then (((rM ops).sh.dat, (rN ops : Int), ()), ()) else ((([], [], [], [], false, ()), -1, ()), ())
theorem s_ShapesOf_tot {ops : List POp} (hl : ops.length ≤ 900000000000) : Tot (fun σ => F_s_ShapesOf (σ 0) ops) (fun r => r = shapesA ops) := by
  refine tot_s_ShapesOf ?_
  unfold B_s_ShapesOf shapesA
  refine (validOps_tot hl).bind ?_
  rintro _ rfl
  simp only [tot_cond, tot_some, Bool.not_eq_true', Bool.not_eq_false']
  refine ⟨fun h => by rw [if_neg (by rw [h]; decide)], fun h => ?_⟩
  refine (runShapes_tot hl (okOps_all h).1).bind ?_
  rintro _ ⟨rfl, _⟩
  rw [tot_some, if_pos h, rN_eq, rM_sh]
theorem take_map_succ {α β : Type} (f : α → β) (l : List α) {j : Nat} (hj : j < l.length) (d : α) : (l.take (j + 1)).map f = (l.take j).map f ++ [f (l.getD j d)] := by
  rw [List.take_add_one, List.getElem?_eq_getElem hj, List.map_append, List.getD_eq_getElem?_getD, List.getElem?_eq_getElem hj]; rfl
theorem i_ShapesOf_tot {ops : List POp} (hl : ops.length ≤ 900000000000) : Tot (fun σ => F_i_ShapesOf (σ 0) ops) (fun r => r = shapesA ops) := by
  refine tot_i_ShapesOf ?_
  unfold B_i_ShapesOf B_i_ShapesOf_J0 shapesA
  refine (i_ValidOps_tot hl).bind ?_
  rintro _ rfl
  simp only [tot_cond, tot_some, Bool.not_eq_true', Bool.not_eq_false']
  refine ⟨fun h => by rw [if_neg (by rw [h]; decide)], fun h => ?_⟩
  refine (running_ShapesOf_tot h).bind ?_
  rintro _ rfl
  rw [tot_jn, if_pos h]
  obtain ⟨hI, hN, hS, hn⟩ := rM_inv h
  have key := loop_i_ShapesOf_L2 (Q := fun _ _ _ _ _ _ _ _ _ _ r => r = (((rM ops).sh.dat, (rN ops : Int), ()), ()))
    (I := fun d n K Fu S M D t26 t27 t28 => n = (rN ops : Int) ∧ S = (rM ops).S ∧ M = (rM ops).M ∧ D = (rM ops).D ∧ t26 = (rM ops).N ∧ t27 = ((rM ops).N.length : Int) ∧ ∃ j : Nat, t28 = (j : Int) ∧ j ≤ (rM ops).N.length ∧ K = ((rM ops).N.take j).map (·.1) ∧ Fu = ((rM ops).N.take j).map fullN)
    (μ := fun _ _ _ _ _ _ _ _ _ t28 => ((rM ops).N.length - t28).toNat) ?_
  · exact key _ _ _ _ _ _ _ _ _ 0 ⟨rfl, rfl, rfl, rfl, rfl, rfl, 0, rfl, Nat.zero_le _, rfl, rfl⟩
  intro d n K Fu S M D t26 t27 t28 ⟨e1, e2, e3, e4, e5, e6, j, e7, hj, e8, e9⟩ again hag ih
  subst e1 e2 e3 e4 e5 e6 e7 e8 e9
  unfold B_i_ShapesOf_L2b B_i_ShapesOf_J1
  have hrd : rdx ((0 : Int), ((0 : Int), ([] : List Int))) (rM ops).N (j : Int) = (rM ops).N.getD j d0 := by rw [rdx_eq, Int.toNat_natCast]
  rw [tot_cond]
  refine ⟨fun hlt => tot_chk.2 ⟨inb_iff.2 (by have := of_decide_eq_true hlt; omega), ?_⟩, fun hge => tot_some.2 ?_⟩
  · have hlt := of_decide_eq_true hlt
    have hjl : j < (rM ops).N.length := by omega
    rw [hrd]
    have hl1 : (((rM ops).N.take j).map (fun n : PNode => n.1)).length = j := by rw [List.length_map, List.length_take]; omega
    have hl2 : (((rM ops).N.take j).map fullN).length = j := by rw [List.length_map, List.length_take]; omega
    have k1 := take_map_succ (fun n : PNode => n.1) (rM ops).N hjl d0
    have k2 := take_map_succ fullN (rM ops).N hjl d0
    obtain ⟨x, hx⟩ : ∃ x, (rM ops).N.getD j d0 = x := ⟨_, rfl⟩
    rw [hx] at k1 k2 ⊢
    have wj : w64 ((j : Int) + 1) = ((j + 1 : Nat) : Int) := by rw [w64_id (by omega) (by omega)]; omega
    simp only [wj, tot_chk, tot_cond, tot_jn, room_iff, List.length_cons, List.length_nil, hl1, hl2, beq_iff_eq, beq_eq_false_iff_ne, ne_eq]
    refine ⟨by omega, fun h5 => ⟨by omega, ?_⟩, fun h5 => ⟨by omega, ?_⟩⟩
    · refine ih _ _ _ _ _ _ _ _ _ _ ⟨rfl, rfl, rfl, rfl, rfl, rfl, j + 1, rfl, hjl, k1.symm, ?_⟩ (by omega)
      rw [k2]
      congr 2
      unfold fullN
      rw [h5, beq_self_eq_true, Bool.true_and]
      cases x.2.2 with
      | nil => rfl
      | cons y l => exact decide_eq_true (by show (((y :: l).length : Nat) : Int) > 0; simp only [List.length_cons]; omega)
    · refine ih _ _ _ _ _ _ _ _ _ _ ⟨rfl, rfl, rfl, rfl, rfl, rfl, j + 1, rfl, hjl, k1.symm, ?_⟩ (by omega)
      rw [k2]
      congr 2
      unfold fullN
      rw [beq_eq_false_iff_ne.2 h5]
      rfl
  · have hge := of_decide_eq_false hge
    have : j = (rM ops).N.length := by omega
    rw [this, List.take_length]
    rfl
theorem equalBools_self {a : List Bool} (ha : a.length ≤ 900000000000) : Tot (fun σ => F_l_equalBools (σ 0) a a) (fun r => r = ((true, ()), ())) := by
  refine tot_l_equalBools ?_
  unfold B_l_equalBools
  simp only [tot_cond, tot_some, bne_self_eq_false]
  refine ⟨fun h => absurd h (by decide), fun _ => ?_⟩
  have key := loop_l_equalBools_L0 (Q := fun _ _ _ r => r = ((true, ()), ())) (I := fun x y i => x = a ∧ y = a ∧ ∃ j : Nat, i = j ∧ j ≤ a.length) (μ := fun _ _ i => (a.length - i).toNat) ?_
  · exact key a a 0 ⟨rfl, rfl, 0, rfl, by omega⟩
  intro x y i ⟨e1, e2, j, e3, hj⟩ again hag ih
  subst e1 e2 e3
  unfold B_l_equalBools_L0b
  simp only [tot_cond, tot_chk, tot_some, decide_eq_true_eq, decide_eq_false_iff_not, len, inb_iff, beq_self_eq_true, Bool.not_true]
  refine ⟨fun hlt => ⟨by omega, by omega, fun h0 => absurd h0 (by decide), fun _ => ?_⟩, fun _ => trivial⟩
  rw [w64_succ (by omega) (by omega)]
  exact ih _ _ _ ⟨rfl, rfl, j + 1, rfl, by omega⟩ (by simp; omega)
theorem equalInts_self {a : List Int} (ha : a.length ≤ 900000000000) : Tot (fun σ => F_l_equalInts (σ 0) a a) (fun r => r = ((true, ()), ())) := by
  refine (equalInts_tot ha).mono ?_
  rintro _ ⟨b, rfl, hb⟩
  rw [hb.2 rfl]
theorem equalShapes_self {K S M : List Int} {Fu : List Bool} {D : Bool} (h1 : K.length ≤ 900000000000) (h2 : Fu.length ≤ 900000000000) (h3 : S.length ≤ 900000000000) (h4 : M.length ≤ 900000000000) : Tot (fun σ => F_l_equalShapes (σ 0) K Fu S M D K Fu S M D) (fun r => r = ((true, ()), ())) := by
  refine tot_l_equalShapes ?_
  unfold B_l_equalShapes
  refine (equalInts_self h1).bind ?_
  rintro _ rfl
  rw [tot_cond]
  refine ⟨fun _ => ?_, fun h0 => absurd h0 (by decide)⟩
  refine (equalBools_self h2).bind ?_
  rintro _ rfl
  rw [tot_cond]
  refine ⟨fun _ => ?_, fun h0 => absurd h0 (by decide)⟩
  refine (equalInts_self h3).bind ?_
  rintro _ rfl
  rw [tot_cond]
  refine ⟨fun _ => ?_, fun h0 => absurd h0 (by decide)⟩
  refine (equalInts_self h4).bind ?_
  rintro _ rfl
  rw [tot_cond]
  refine ⟨fun _ => ?_, fun h0 => absurd h0 (by decide)⟩
  rw [tot_some, beq_self_eq_true]
theorem p_l_FnShapesOf (code : List Int) (hc : ∀ z ∈ code, 0 ≤ z ∧ z ≤ 255) : ∃ k, F_l_FnShapesOf k code = some ((true, ()), ()) := by
  refine Tot.ex (F := fun k => F_l_FnShapesOf k code) ?_
  refine tot_l_FnShapesOf ?_
  unfold B_l_FnShapesOf B_l_FnShapesOf_J0
  simp only [tot_cond, tot_some, decide_eq_true_eq, decide_eq_false_iff_not, len]
  refine ⟨fun _ => trivial, fun hl => ?_⟩
  refine (DrawShapesOf_tot hc (by omega)).bind ?_
  rintro _ ⟨ops, rfl, hll⟩
  refine (i_ShapesOf_tot (by simp only []; omega)).bind ?_
  rintro _ rfl
  refine (s_ShapesOf_tot (by simp only []; omega)).bind ?_
  rintro _ rfl
  have hsz : (shapesA ops).1.1.1.length ≤ 900000000000 ∧ (shapesA ops).1.1.2.1.length ≤ 900000000000 ∧ (shapesA ops).1.1.2.2.1.length ≤ 900000000000 ∧ (shapesA ops).1.1.2.2.2.1.length ≤ 900000000000 := by
    unfold shapesA
    split
    · rename_i hok
      obtain ⟨i1, i2, i3, _⟩ := rM_inv hok
      have hM : (rM ops).M.length = 20 := i1.sh.ml
      exact ⟨by show ((rM ops).N.map (·.1)).length ≤ _; rw [List.length_map]; omega, by show ((rM ops).N.map fullN).length ≤ _; rw [List.length_map]; omega, by show (rM ops).S.length ≤ _; omega, by show (rM ops).M.length ≤ _; omega⟩
    · exact ⟨by simp, by simp, by simp, by simp⟩
  have eqs := equalShapes_self (D := (shapesA ops).1.1.2.2.2.2.1) hsz.1 hsz.2.1 hsz.2.2.1 hsz.2.2.2
  refine eqs.bind ?_
  rintro _ rfl
  simp only [tot_cond, tot_jn, Bool.not_true, bne_self_eq_false, decide_eq_true_eq, decide_eq_false_iff_not]
  refine ⟨fun h0 => absurd h0 (by decide), fun _ => ⟨fun h0 => absurd h0 (by decide), fun _ => ⟨fun hlt => ?_, fun hge => ?_⟩⟩⟩
  · refine eqs.bind ?_
    rintro _ rfl
    simp only [tot_cond, tot_some, beq_self_eq_true]
    exact ⟨fun _ => trivial, fun h0 => absurd h0 (by decide)⟩
  · have hok : okOps ops = true := by
      cases hq : okOps ops with
      | true => rfl
      | false =>
        have : (shapesA ops).1.2.1 = -1 := by unfold shapesA; rw [if_neg (by rw [hq]; decide)]
        rw [this] at hge
        exact absurd hge (by decide)
    have hA : shapesA ops = (((rM ops).sh.dat, (rN ops : Int), ()), ()) := by unfold shapesA; rw [if_pos hok]
    have hR : runA ops = ((MD (rM ops), (rN ops : Int), ()), ()) := by unfold runA; rw [if_pos hok]
    obtain ⟨i1, i2, i3, _⟩ := rM_inv hok
    have hM : (rM ops).M.length = 20 := i1.sh.ml
    rw [hA]
    refine (i_RunOps_tot (by omega)).bind ?_
    rintro _ rfl
    rw [hR]
    have key := loop_l_FnShapesOf_L2 (Q := fun _ _ _ _ _ _ _ _ _ _ _ _ r => r = ((true, ()), ()))
      (I := fun K Fu S M D n N' S' M' D' k i => K = (rM ops).N.map (·.1) ∧ Fu = (rM ops).N.map fullN ∧ S = (rM ops).S ∧ M = (rM ops).M ∧ D = (rM ops).D ∧ n = (rN ops : Int) ∧ N' = (rM ops).N ∧ S' = (rM ops).S ∧ M' = (rM ops).M ∧ D' = (rM ops).D ∧ k = (rN ops : Int) ∧ ∃ j : Nat, i = (j : Int) ∧ j ≤ (rM ops).N.length)
      (μ := fun _ _ _ _ _ _ _ _ _ _ _ i => ((rM ops).N.length - i).toNat) ?_
    · exact key _ _ _ _ _ _ _ _ _ _ _ 0 ⟨rfl, rfl, rfl, rfl, rfl, rfl, rfl, rfl, rfl, rfl, rfl, 0, rfl, Nat.zero_le _⟩
    intro K Fu S M D n N' S' M' D' k i ⟨e1, e2, e3, e4, e5, e6, e7, e8, e9, e10, e11, j, e12, hj⟩ again hag ih
    subst e1 e2 e3 e4 e5 e6 e7 e8 e9 e10 e11 e12
    unfold B_l_FnShapesOf_L2b B_l_FnShapesOf_J1
    simp only [tot_cond, tot_chk, tot_jn, decide_eq_true_eq, decide_eq_false_iff_not, inb_iff, Int.toNat_natCast, len, List.length_map]
    refine ⟨fun hlt => ?_, fun hge => ?_⟩
    · have hjl : j < (rM ops).N.length := by omega
      have hb : 0 ≤ (j : Int) ∧ (j : Int) < ((rM ops).N.length : Int) := by omega
      have g1 : ((rM ops).N.map (fun n : PNode => n.1)).getD j 0 = ((rM ops).N.getD j d0).1 := getD_map' (fun n : PNode => n.1) _ j d0
      have g2 : ((rM ops).N.map fullN).getD j false = fullN ((rM ops).N.getD j d0) := getD_map' fullN _ j d0
      have hob := (rM_vm hok).nd.at hjl
      rw [show w64 ((j : Int) + 1) = ((j + 1 : Nat) : Int) by rw [w64_id (by omega) (by omega)]; omega]
      have hi := ih _ _ _ _ _ _ _ _ _ _ _ ((j + 1 : Nat) : Int) ⟨rfl, rfl, rfl, rfl, rfl, rfl, rfl, rfl, rfl, rfl, rfl, j + 1, rfl, hjl⟩ (by omega)
      rw [show (rM ops).N.set j (((rM ops).N.getD j d0).1, (((rM ops).N.getD j d0).2.1, ((rM ops).N.getD j d0).2.2)) = (rM ops).N from set_same]
      rw [g1, g2]
      obtain ⟨x, hx⟩ : ∃ x, (rM ops).N.getD j d0 = x := ⟨_, rfl⟩
      rw [show (rM ops).N.getD j ((0 : Int), ((0 : Int), ([] : List Int))) = x from hx]
      rw [hx] at hob
      simp only [bne_self_eq_false, beq_iff_eq, beq_eq_false_iff_ne, ne_eq]
      refine ⟨hb, hjl, hb, hjl, fun h0 => absurd h0 (by decide), fun _ => ⟨hb, hjl, hb, hjl, fun h5 => ⟨hb, hjl, fun h0 => ?_, fun _ => hi⟩, fun h5 => ⟨fun h0 => ?_, fun _ => hi⟩⟩⟩
      · exfalso
        have hf : fullN x = ((x.2.2.length : Int) == 1) := by
          unfold fullN
          rw [h5, beq_self_eq_true, Bool.true_and]
          have h1 := hob.ob h5
          cases hk : x.2.2 with
          | nil => rfl
          | cons y l =>
            rw [hk] at h1
            have : l = [] := by simpa using h1
            subst this; rfl
        rw [hf, beq_self_eq_true] at h0
        exact absurd h0 (by decide)
      · exfalso
        have hf : fullN x = false := by unfold fullN; rw [beq_eq_false_iff_ne.2 h5]; rfl
        rw [hf] at h0
        exact absurd h0 (by decide)
    · simp only [beq_self_eq_true]
      refine ⟨fun _ => ?_, fun h0 => absurd h0 (by decide)⟩
      refine (equalInts_self (by omega)).bind ?_
      rintro _ rfl
      rw [tot_cond]
      refine ⟨fun _ => ?_, fun h0 => absurd h0 (by decide)⟩
      refine (equalInts_self (by omega)).bind ?_
      rintro _ rfl
      simp only [tot_cond, tot_some]
      exact ⟨fun _ => ⟨fun _ => trivial, fun h0 => absurd h0 (by decide)⟩, fun h0 => absurd h0 (by decide)⟩
end Go.Gx

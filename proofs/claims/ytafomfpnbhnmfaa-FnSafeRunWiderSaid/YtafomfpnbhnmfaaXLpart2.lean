/-
  Plain laws about the printed functions.
-/
import Derived.Test.YtafomfpnbhnmfaaXLpart1
set_option linter.unusedVariables false
set_option linter.unusedSimpArgs false
namespace Go.Gx
theorem sub_len' {α : Type} {l : List α} {a b : Nat} (h : a ≤ b) (hb : b ≤ l.length) : (sub l (a : Int) (b : Int)).length = b - a := by
  simp only [sub, Int.toNat_natCast, List.length_drop, List.length_take]; omega
theorem sub_mem {α : Type} {l : List α} {a b : Int} {x : α} (h : x ∈ sub l a b) : x ∈ l := List.mem_of_mem_take (List.mem_of_mem_drop h)
theorem fill_tot {g : List PNode} {root level : Int} {u c : Nat} {kids : List Int} (hl : kids.length ≤ 6) (hS : ∀ x ∈ kids, SaveOk g root level u 0 c x) {each one all : Int} (he : each = 1 ∨ each = 2 ∧ kids.length % 2 = 0) {ops : List (Int × Int)} {memo : List Int} (hm : memo.length = g.length) (hu : un g memo ≤ u)
    (hb : ops.length + (6 * c + 6) + 33957804446 * un g memo ≤ 500000000000) : Tot (fun σ => F_s_fill (σ 0) g root level kids each one all ops memo) (Wr g ops memo (6 * c + 6)) := by
  refine tot_s_fill ?_
  unfold B_s_fill
  have hkc : kids.length * c ≤ 6 * c := Nat.mul_le_mul_right _ hl
  have j0 : ∀ b : Bool, Tot (fun σ => B_s_fill_J0 (σ 0) (F_s_emit (σ 0)) (F_s_saveAll (σ 0)) level kids each one all ops memo g root b) (Wr g ops memo (6 * c + 6)) := by
    intro b
    unfold B_s_fill_J0
    rw [tot_cond]
    refine ⟨fun _ => ?_, fun _ => ?_⟩
    · refine (emit_tot (by simp only [List.length_cons, List.length_nil]; omega)).bind ?_
      rintro _ rfl
      refine (saveAll_tot hl hS hm hu (by simp only [List.length_append, List.length_cons, List.length_nil]; omega)).bind ?_
      rintro _ ⟨o2, m2, rfl, k1, k2, k3⟩
      simp only [List.length_append, List.length_cons, List.length_nil] at k3
      refine (emit_tot (by simp only [List.length_cons, List.length_nil]; omega)).bind ?_
      rintro _ rfl
      rw [tot_some]
      exact ⟨_, _, rfl, k1, k2, by simp only [List.length_append, List.length_cons, List.length_nil]; omega⟩
    · have key := loop_s_fill_L1 (Q := fun _ _ _ _ _ _ _ _ _ r => Wr g ops memo (6 * c + 6) r)
        (I := fun l' kids' each' one' o m g' r' i => l' = level ∧ kids' = kids ∧ each' = each ∧ one' = one ∧ g' = g ∧ r' = root ∧ ∃ j : Nat, i = j ∧ j ≤ kids.length ∧ (each = 2 → j % 2 = 0) ∧ m.length = g.length ∧ un g m ≤ un g memo ∧ o.length + 33957804446 * un g m ≤ ops.length + (j * c + j) + 33957804446 * un g memo)
        (μ := fun _ _ _ _ _ _ _ _ i => (kids.length - i).toNat) ?_
      · exact key level kids each one ops memo g root 0 ⟨rfl, rfl, rfl, rfl, rfl, rfl, 0, rfl, by omega, fun _ => rfl, hm, Nat.le_refl _, by omega⟩
      intro l' kids' each' one' o m g' r' i ⟨e1, e2, e3, e4, e5, e6, j, e7, hj, hj2, hml, hmu, hmo⟩ again hag ih
      subst e1 e2 e3 e4 e5 e6 e7
      unfold B_s_fill_L1b
      simp only [tot_cond, tot_chk, tot_some, decide_eq_true_eq, decide_eq_false_iff_not, len, cutb_iff]
      refine ⟨fun hlt => ?_, fun hge => ?_⟩
      · obtain ⟨e, he', he1⟩ : ∃ e : Nat, each' = (e : Int) ∧ 1 ≤ e ∧ e ≤ 2 ∧ j + e ≤ kids'.length ∧ (each' = 2 → (j + e) % 2 = 0) := by
          rcases he with h | ⟨h, h2⟩
          · exact ⟨1, h, by omega, by omega, by omega, fun h' => by omega⟩
          · have := hj2 h; exact ⟨2, h, by omega, by omega, by omega, fun _ => by omega⟩
        subst he'
        have wj : w64 ((j : Int) + (e : Int)) = ((j + e : Nat) : Int) := by rw [w64_id (by omega) (by omega)]; omega
        simp only [wj]
        have hsl := sub_len' (l := kids') (a := j) (b := j + e) (by omega) (by omega)
        have hec : (j + e) * c ≤ kids'.length * c := Nat.mul_le_mul_right _ (by omega)
        rw [Nat.add_mul] at hec
        refine ⟨by omega, (saveAll_tot (list := sub kids' (j : Int) ((j + e : Nat) : Int)) (by omega) (fun x hx => hS x (sub_mem hx)) hml (by omega) (by rw [hsl, show j + e - j = e by omega]; omega)).bind ?_⟩
        rintro _ ⟨o2, m2, rfl, k1, k2, k3⟩
        rw [hsl, show j + e - j = e by omega] at k3
        refine (emit_tot (by simp only [List.length_cons, List.length_nil]; omega)).bind ?_
        rintro _ rfl
        refine ih l' kids' _ one' _ m2 g' r' _ ⟨rfl, rfl, rfl, rfl, rfl, rfl, j + e, rfl, by omega, he1.2.2.2, k1, by omega, ?_⟩ (by simp; omega)
        simp only [List.length_append, List.length_cons, List.length_nil]
        rw [Nat.add_mul]
        omega
      · have : j = kids'.length := by omega
        subst this
        exact ⟨o, m, rfl, hml, hmu, by omega⟩
  rw [tot_cond]
  refine ⟨fun _ => ?_, fun _ => ?_⟩
  · rw [tot_jn]; exact j0 _
  · rw [tot_jn]; exact j0 _
theorem saveTuple_tot {g : List PNode} {root level : Int} {u r : Nat} (hg : g.length ≤ 12) {at2 : Nat} (ha : at2 < g.length) (h6 : (nd g (at2 : Int)).2.2.length ≤ 6) (hr : (nd g (at2 : Int)).2.2 ≠ [] → ∃ r', r = r' + 1 ∧ ∀ x ∈ (nd g (at2 : Int)).2.2, SaveOk g root level u 0 (GG r') x)
    {ops : List (Int × Int)} {memo : List Int} (hm : memo.length = g.length) (hu : un g memo ≤ u) (hb : ops.length + GG r + 33957804446 * un g memo ≤ 500000000000) : Tot (fun σ => F_s_saveTuple (σ 0) g root level at2 ops memo) (Wr g ops memo (GG r)) := by
  refine tot_s_saveTuple ?_
  unfold B_s_saveTuple
  have hG := GG_le r
  rw [tot_chk]
  refine ⟨inb_iff.2 (by omega), ?_⟩
  generalize hk : (nd g (at2 : Int)).2.2 = kids at h6 hr
  have hk' : (rdx ((0 : Int), ((0 : Int), ([] : List Int))) g (at2 : Int)).2.2 = kids := hk
  simp only [hk']
  rw [tot_cond]
  refine ⟨fun _ => ?_, fun hne => ?_⟩
  · refine (emit_tot (by simp only [List.length_cons, List.length_nil]; omega)).bind ?_
    rintro _ rfl
    refine (memoed_tot (by omega) (by simp only [List.length_append, List.length_cons, List.length_nil]; omega) (by omega)).bind ?_
    rintro _ ⟨n, hn, rfl⟩
    rw [tot_some]
    have := un_set (g := g) (memo := memo) (i := at2) (v := n) (by omega) hn
    exact ⟨_, _, rfl, by simp [hm], this, by simp only [List.length_append, List.length_cons, List.length_nil]; omega⟩
  · have hne' : kids ≠ [] := by
      intro e; subst e; simp [len] at hne
    obtain ⟨r', rfl, hS⟩ := hr hne'
    have hGr : GG (r' + 1) = 6 * GG r' + 3 := rfl
    have hkc : kids.length * GG r' ≤ 6 * GG r' := Nat.mul_le_mul_right _ h6
    -- behind the kids
    have j1 : ∀ (o : List (Int × Int)) (short : Bool), o.length ≤ ops.length + 1 → (short = true → o.length = ops.length ∧ kids.length ≤ 2) → Tot (fun σ => B_s_saveTuple_J1 (σ 0) (F_s_emit (σ 0)) (F_s_memoed (σ 0)) (F_s_saveAll (σ 0)) level at2 o memo g root kids short) (Wr g ops memo (GG (r' + 1))) := by
      intro o short ho hsh
      unfold B_s_saveTuple_J1
      refine (saveAll_tot h6 hS hm hu (by omega)).bind ?_
      rintro _ ⟨o2, m2, rfl, k1, k2, k3⟩
      rw [tot_chk]
      refine ⟨inb_iff.2 (by simp only []; omega), ?_⟩
      -- the tuple is made
      have j5 : ∀ c : Int, Tot (fun σ => B_s_saveTuple_J5 (σ 0) (F_s_emit (σ 0)) (F_s_memoed (σ 0)) (F_s_saveAll (σ 0)) at2 o2 m2 c) (Wr g ops memo (GG (r' + 1))) := by
        intro c
        unfold B_s_saveTuple_J5
        refine (emit_tot (by simp only [List.length_cons, List.length_nil]; omega)).bind ?_
        rintro _ rfl
        refine (memoed_tot (by omega) (by simp only [List.length_append, List.length_cons, List.length_nil]; omega) (by omega)).bind ?_
        rintro _ ⟨n, hn, rfl⟩
        rw [tot_some]
        have := un_set (g := g) (memo := m2) (i := at2) (v := n) (by omega) hn
        exact ⟨o2 ++ [(c, 0)] ++ [(15, n)], m2.set at2 n, rfl, by simp [k1], by omega, by simp only [List.length_append, List.length_cons, List.length_nil]; omega⟩
      -- it was there
      have j4 : ∀ o3 : List (Int × Int), o3.length + 33957804446 * un g m2 + 1 ≤ ops.length + GG (r' + 1) + 33957804446 * un g memo → Tot (fun σ => B_s_saveTuple_J4 (σ 0) (F_s_emit (σ 0)) (F_s_memoed (σ 0)) (F_s_saveAll (σ 0)) at2 o3 m2) (Wr g ops memo (GG (r' + 1))) := by
        intro o3 h3
        unfold B_s_saveTuple_J4
        rw [tot_chk]
        refine ⟨inb_iff.2 (by omega), (emit_tot (by simp only [List.length_cons, List.length_nil]; omega)).bind ?_⟩
        rintro _ rfl
        rw [tot_some]
        exact ⟨_, _, rfl, k1, k2, by simp only [List.length_append, List.length_cons, List.length_nil]; omega⟩
      rw [tot_cond]
      refine ⟨fun _ => ?_, fun _ => ?_⟩
      · have key := loop_s_saveTuple_L3 (Q := fun _ _ _ _ _ _ r => Wr g ops memo (GG (r' + 1)) r) (I := fun a o3 m3 kd sh i => a = (at2 : Int) ∧ m3 = m2 ∧ kd = kids ∧ sh = short ∧ ∃ j : Nat, i = j ∧ j ≤ kids.length ∧ (short = true → o3.length = o2.length + j) ∧ (short = false → o3.length = o2.length)) (μ := fun _ _ _ _ _ i => (kids.length - i).toNat) ?_
        · exact key at2 o2 m2 kids short 0 ⟨rfl, rfl, rfl, rfl, 0, rfl, by omega, fun _ => rfl, fun _ => rfl⟩
        intro a o3 m3 kd sh i ⟨e1, e2, e3, e4, j, e5, hj, hs1, hs2⟩ again hag ih
        subst e1 e2 e3 e4 e5
        unfold B_s_saveTuple_L3b B_s_saveTuple_J2
        simp only [tot_cond, tot_jn, decide_eq_true_eq, decide_eq_false_iff_not, len, Bool.not_eq_true', Bool.not_eq_false']
        cases sh with
        | true =>
          have h1 := hs1 rfl
          have h2 := hsh rfl
          refine ⟨fun hlt => ⟨fun _ => ?_, fun h => absurd h (by decide)⟩, fun hge => ⟨fun h => absurd h (by decide), fun _ => ⟨fun h => absurd h (by decide), fun _ => j4 o3 (by omega)⟩⟩⟩
          refine (emit_tot (by simp only [List.length_cons, List.length_nil]; omega)).bind ?_
          rintro _ rfl
          rw [w64_succ (by omega) (by omega)]
          refine ih _ _ _ _ _ _ ⟨rfl, rfl, rfl, rfl, j + 1, rfl, by omega, fun _ => ?_, fun h => absurd h (by decide)⟩ (by simp; omega)
          simp only [List.length_append, List.length_cons, List.length_nil]; omega
        | false =>
          have h1 := hs2 rfl
          have fin : Tot (fun σ => (F_s_emit (σ 0) o3 [(18, 0)]).bind fun r79 => jn (fun t => B_s_saveTuple_J4 (σ 0) (F_s_emit (σ 0)) (F_s_memoed (σ 0)) (F_s_saveAll (σ 0)) t.1 t.2.1 t.2.2.1) ((at2 : Int), r79.1.1, m3, ())) (Wr g ops memo (GG (r' + 1))) := by
            refine (emit_tot (by simp only [List.length_cons, List.length_nil]; omega)).bind ?_
            rintro _ rfl
            rw [tot_jn]
            exact j4 _ (by simp only [List.length_append, List.length_cons, List.length_nil]; omega)
          exact ⟨fun hlt => ⟨fun h => absurd h (by decide), fun _ => ⟨fun _ => fin, fun h => absurd h (by decide)⟩⟩, fun hge => ⟨fun h => absurd h (by decide), fun _ => ⟨fun _ => fin, fun h => absurd h (by decide)⟩⟩⟩
      · rw [tot_cond]
        refine ⟨fun _ => ?_, fun _ => ?_⟩
        · rw [tot_jn]; exact j5 _
        · rw [tot_jn]; exact j5 _
    have j0 : ∀ (short : Bool), (short = true → kids.length ≤ 2) → Tot (fun σ => B_s_saveTuple_J0 (σ 0) (F_s_emit (σ 0)) (F_s_memoed (σ 0)) (F_s_saveAll (σ 0)) level at2 ops memo g root kids short) (Wr g ops memo (GG (r' + 1))) := by
      intro short hsh
      unfold B_s_saveTuple_J0
      rw [tot_cond]
      refine ⟨fun hs => ?_, fun hs => ?_⟩
      · refine (emit_tot (by simp only [List.length_cons, List.length_nil]; omega)).bind ?_
        rintro _ rfl
        rw [tot_jn]
        exact j1 _ short (by simp) (fun h => by rw [h] at hs; cases hs)
      · rw [tot_jn]
        have : short = true := by simpa using hs
        exact j1 ops short (by omega) (fun h => ⟨rfl, hsh h⟩)
    rw [tot_cond]
    refine ⟨fun _ => ?_, fun _ => ?_⟩
    · rw [tot_jn]
      exact j0 _ (fun h => by simp only [decide_eq_true_eq, len] at h; omega)
    · rw [tot_jn]
      exact j0 false (fun h => absurd h (by decide))
theorem SaveOk.mono {g : List PNode} {root level : Int} {u r r2 c c2 : Nat} {x : Int} (h : SaveOk g root level u r c x) (hc : c ≤ c2) : SaveOk g root level u r2 c2 x := by
  intro ops memo h1 h2 h3
  refine (h ops memo h1 h2 (by omega)).mono ?_
  rintro _ ⟨o, m, rfl, k1, k2, k3⟩
  exact ⟨o, m, rfl, k1, k2, by omega⟩
theorem save_tot {g : List PNode} {root level : Int} (hv : ValidG g root) : ∀ (u r : Nat), r ≤ 12 → ∀ at2 : Nat, at2 < g.length → ((nd g (at2 : Int)).1 = 2 → rk g (at2 : Int) ≤ r) → SaveOk g root level u 0 (GG r) (at2 : Int) := by
  have hk : Kidly g := fun n hn => (hv.node n hn).kidly
  have hg := hv.most
  intro u
  induction u using Nat.strongRecOn with
  | _ u ihu =>
  intro r
  induction r using Nat.strongRecOn with
  | _ r ihr =>
  intro hr12 at2 ha hrk ops memo hm hu hb
  have hG := GG_le r
  have hG12 := GG_12
  have hin : 0 ≤ (at2 : Int) ∧ (at2 : Int) < (g.length : Int) := by omega
  have hnode := hv.node _ (nd_mem hin.1 hin.2)
  refine tot_s_save ?_
  unfold B_s_save
  simp only [tot_chk]
  refine ⟨inb_iff.2 (by omega), inb_iff.2 (by omega), ?_⟩
  have hrd : rdx (0 : Int) memo (at2 : Int) = memo.getD at2 0 := by rw [rdx_eq, Int.toNat_natCast]
  have hndd : rdx ((0 : Int), ((0 : Int), ([] : List Int))) g (at2 : Int) = nd g (at2 : Int) := rfl
  rw [hrd, hndd]
  rw [tot_cond]
  refine ⟨fun _ => ?_, fun hneg => ?_⟩
  · rw [tot_chk]
    refine ⟨inb_iff.2 (by omega), (emit_tot (by simp only [List.length_cons, List.length_nil]; omega)).bind ?_⟩
    rintro _ rfl
    rw [tot_some]
    exact ⟨_, memo, rfl, hm, Nat.le_refl _, by simp only [List.length_append, List.length_cons, List.length_nil]; omega⟩
  have hneg : memo.getD at2 0 < 0 := by simpa using hneg
  -- it gets into the memo
  have mem : ∀ (o : List (Int × Int)), o.length ≤ 520000000000 → (nd g (at2 : Int)).1 ≠ 2 → Tot (fun σ => F_s_memoed (σ 0) o memo at2) (fun r => ∃ n : Int, r = ((o ++ [(15, n)], memo.set at2 n, ()), ()) ∧ un g (memo.set at2 n) < un g memo ∧ (memo.set at2 n).length = g.length) := by
    intro o ho h2
    refine (memoed_tot (by omega) (by omega) (by omega)).mono ?_
    rintro _ ⟨n, hn, rfl⟩
    exact ⟨n, rfl, un_set' (by omega) ha hn h2 hneg, by simp [hm]⟩
  -- all kids, when it is there
  have kids12 : ∀ u1, u1 < u → ∀ x ∈ (nd g (at2 : Int)).2.2, SaveOk g root level u1 0 (GG 12) x := by
    intro u1 hu1 x hx
    have hx' := hnode.2.1 x hx
    obtain ⟨m, rfl⟩ := Int.eq_ofNat_of_zero_le hx'.1
    exact ihu u1 hu1 12 (Nat.le_refl _) m (by omega) (fun _ => Nat.le_trans (rk_le g _) hg)
  rw [tot_cond]
  simp only [beq_iff_eq, beq_eq_false_iff_ne, ne_eq]
  refine ⟨fun h0 => ?_, fun h0 => ?_⟩
  · refine (emit_tot (by simp only [List.length_cons, List.length_nil]; omega)).bind ?_
    rintro _ rfl
    rw [tot_some]
    exact ⟨_, memo, rfl, hm, Nat.le_refl _, by simp only [List.length_append, List.length_cons, List.length_nil]; omega⟩
  rw [tot_cond]
  simp only [beq_iff_eq, beq_eq_false_iff_ne, ne_eq]
  refine ⟨fun h1 => ?_, fun h1 => ?_⟩
  · refine (emit_tot (by simp only [List.length_cons, List.length_nil]; omega)).bind ?_
    rintro _ rfl
    refine (mem _ (by simp only [List.length_append, List.length_cons, List.length_nil]; omega) (by omega)).bind ?_
    rintro _ ⟨n, rfl, k1, k2⟩
    rw [tot_some]
    exact ⟨_, memo.set at2 n, rfl, k2, by omega, by simp only [List.length_append, List.length_cons, List.length_nil]; omega⟩
  rw [tot_cond]
  simp only [beq_iff_eq, beq_eq_false_iff_ne, ne_eq]
  refine ⟨fun h2 => ?_, fun h2 => ?_⟩
  · have hrk := hrk h2
    refine (saveTuple_tot (u := u) (r := r) hg ha hnode.1 (fun hne => ?_) hm hu hb).bind ?_
    · obtain ⟨x, hx⟩ := List.exists_mem_of_ne_nil _ hne
      have hpos := rk_pos hv hin hx
      refine ⟨r - 1, by omega, fun y hy => ?_⟩
      have hy' := hnode.2.1 y hy
      obtain ⟨m, rfl⟩ := Int.eq_ofNat_of_zero_le hy'.1
      exact ihr (r - 1) (by omega) (by omega) m (by omega) (fun hk2 => by have := rk_lt hv hin hy hk2; omega)
    · rintro _ ⟨o, m, rfl, k1, k2, k3⟩
      rw [tot_some]
      exact ⟨o, m, rfl, k1, k2, k3⟩
  -- a list, a dictionary, an object
  have filled : ∀ (o : List (Int × Int)) (n each one all : Int), o.length ≤ ops.length + 2 → un g (memo.set at2 n) < un g memo → (memo.set at2 n).length = g.length → (each = 1 ∨ each = 2 ∧ (nd g (at2 : Int)).2.2.length % 2 = 0) →
      Tot (fun σ => (F_s_fill (σ 0) g root level (nd g (at2 : Int)).2.2 each one all o (memo.set at2 n)).bind fun r84 => some ((r84.1.1, r84.1.2.1, ()), ())) (Wr g ops memo (GG r)) := by
    intro o n each one all ho k1 k2 he
    refine (fill_tot (u := u - 1) (c := GG 12) hnode.1 (kids12 (u - 1) (by omega)) he k2 (by omega) (by omega)).bind ?_
    rintro _ ⟨o2, m2, rfl, q1, q2, q3⟩
    rw [tot_some]
    exact ⟨o2, m2, rfl, q1, by omega, by omega⟩
  rw [tot_cond]
  simp only [beq_iff_eq, beq_eq_false_iff_ne, ne_eq]
  refine ⟨fun h3 => ?_, fun h3 => ?_⟩
  · refine (emit_tot (by simp only [List.length_cons, List.length_nil]; omega)).bind ?_
    rintro _ rfl
    refine (mem _ (by simp only [List.length_append, List.length_cons, List.length_nil]; omega) h2).bind ?_
    rintro _ ⟨n, rfl, k1, k2⟩
    exact filled _ n 1 8 9 (by simp) k1 k2 (.inl rfl)
  rw [tot_cond]
  simp only [beq_iff_eq, beq_eq_false_iff_ne, ne_eq]
  refine ⟨fun h4 => ?_, fun h4 => ?_⟩
  · have hd : (nd g (at2 : Int)).2.2.length % 2 = 0 := by
      have := hnode.2.2
      rw [if_neg h0, if_neg h1, if_neg (by simp [h2, h3]), if_pos h4] at this
      exact this.2.2
    refine (emit_tot (by simp only [List.length_cons, List.length_nil]; omega)).bind ?_
    rintro _ rfl
    refine (mem _ (by simp only [List.length_append, List.length_cons, List.length_nil]; omega) h2).bind ?_
    rintro _ ⟨n, rfl, k1, k2⟩
    exact filled _ n 2 11 12 (by simp) k1 k2 (.inr ⟨rfl, hd⟩)
  · refine (emit_tot (by simp only [List.length_cons, List.length_nil]; omega)).bind ?_
    rintro _ rfl
    refine (mem _ (by simp only [List.length_append, List.length_cons, List.length_nil]; omega) h2).bind ?_
    rintro _ ⟨n, rfl, k1, k2⟩
    have hkc : (nd g (at2 : Int)).2.2.length * GG 12 ≤ 6 * GG 12 := Nat.mul_le_mul_right _ hnode.1
    refine (saveAll_tot (u := u - 1) hnode.1 (kids12 (u - 1) (by omega)) k2 (by omega) (by simp only [List.length_append, List.length_cons, List.length_nil]; omega)).bind ?_
    rintro _ ⟨o2, m2, rfl, q1, q2, q3⟩
    simp only [List.length_append, List.length_cons, List.length_nil] at q3
    unfold B_s_save_J0
    rw [tot_cond]
    refine ⟨fun _ => ?_, fun _ => ?_⟩
    · refine (emit_tot (by simp only [List.length_cons, List.length_nil]; omega)).bind ?_
      rintro _ rfl
      rw [tot_jn, tot_some]
      exact ⟨_, m2, rfl, q1, by omega, by simp only [List.length_append, List.length_cons, List.length_nil]; omega⟩
    · rw [tot_jn, tot_some]
      exact ⟨o2, m2, rfl, q1, by omega, by omega⟩
theorem emptyMemo_tot {g : List PNode} {root : Int} (hg : g.length ≤ 1000) : Tot (fun σ => F_s_emptyMemo (σ 0) g root) (fun r => r = ((List.replicate g.length (-1), ()), ())) := by
  refine tot_s_emptyMemo ?_
  unfold B_s_emptyMemo
  have key := loop_s_emptyMemo_L0 (Q := fun _ _ _ _ r => r = ((List.replicate g.length (-1), ()), ())) (I := fun g' _ o i => g' = g ∧ ∃ j : Nat, i = j ∧ j ≤ g.length ∧ o = List.replicate j (-1)) (μ := fun _ _ _ i => (g.length - i).toNat) ?_
  · exact key g root [] 0 ⟨rfl, 0, rfl, by omega, rfl⟩
  intro g' r' o i ⟨e1, j, e2, hj, e3⟩ again hag ih
  subst e1 e2 e3
  unfold B_s_emptyMemo_L0b
  simp only [tot_cond, tot_chk, tot_some, decide_eq_true_eq, decide_eq_false_iff_not, len, room_iff, List.length_replicate, List.length_cons, List.length_nil]
  refine ⟨fun hlt => ⟨by omega, ?_⟩, fun hge => ?_⟩
  · rw [w64_succ (by omega) (by omega)]
    exact ih _ _ _ _ ⟨rfl, j + 1, rfl, by omega, by rw [List.replicate_succ']⟩ (by simp; omega)
  · have : j = g'.length := by omega
    rw [this]
theorem written_tot {g : List PNode} {root : Int} (hv : ValidG g root) (level : Int) : Tot (fun σ => F_s_written (σ 0) g root level) (fun r => ∃ ops : List (Int × Int), r = ((ops, ()), ()) ∧ ops.length ≤ 500000000000) := by
  have hg := hv.most
  refine tot_s_written ?_
  unfold B_s_written
  refine (emptyMemo_tot (by omega)).bind ?_
  rintro _ rfl
  obtain ⟨m, hm⟩ := Int.eq_ofNat_of_zero_le hv.root.1
  have hroot := hv.root
  subst hm
  have hun := un_le g (List.replicate g.length (-1))
  have hG := GG_12
  refine (save_tot hv g.length 12 (Nat.le_refl _) m (by omega) (fun _ => Nat.le_trans (rk_le g _) hg) [] _ (by simp) hun (by simp only [List.length_nil]; omega)).bind ?_
  rintro _ ⟨o, m2, rfl, k1, k2, k3⟩
  simp only [List.length_nil] at k3
  refine (emit_tot (by simp only [List.length_cons, List.length_nil]; omega)).bind ?_
  rintro _ rfl
  rw [tot_some]
  exact ⟨_, rfl, by simp only [List.length_append, List.length_cons, List.length_nil]; omega⟩
end Go.Gx

/-
  Laws, part 13: programs and bytes that are drawn.
-/
set_option linter.unusedVariables false
set_option linter.unusedSimpArgs false
namespace Go.Gx
theorem someOps_tot {b : List Int} {p : Int} (h : RD b p) (hp : p ≤ 90000000) : Tot (fun σ => F_s_someOps (σ 0) b p) (Drawn b p 2000 fun x => ∃ ops : List POp, x = (ops, ()) ∧ ops.length ≤ 500000000000) := by
  refine tot_s_someOps ?_
  unfold B_s_someOps
  have fin : ∀ (q : Int) (o : List POp), p ≤ q → q ≤ p + 2000 → o.length ≤ 500000000000 → Drawn b p 2000 (fun x => ∃ ops : List POp, x = (ops, ()) ∧ ops.length ≤ 500000000000) ((o, ()), ((b, q, ()), ())) := fun q o h1 h2 h3 => ⟨_, q, rfl, h1, h2, o, rfl, h3⟩
  have j2 : ∀ (q : Int) (o : List POp), p ≤ q → q ≤ p + 1900 → o.length ≤ 500000000000 → Tot (fun σ => B_s_someOps_J2 (σ 0) (F_s_reader_pick (σ 0)) (F_s_likelyOps (σ 0)) (F_s_someGraph (σ 0)) (F_s_written (σ 0)) (F_s_someOp (σ 0)) (F_s_reader_one (σ 0)) b q o) (Drawn b p 2000 fun x => ∃ ops : List POp, x = (ops, ()) ∧ ops.length ≤ 500000000000) := by
    intro q o h1 h2 h3
    have hq := h.next h1 (by omega)
    unfold B_s_someOps_J2
    rw [tot_cond]
    simp only [decide_eq_true_eq, decide_eq_false_iff_not, len]
    refine ⟨fun hlt => ?_, fun _ => by rw [tot_some]; exact fin q o h1 (by omega) h3⟩
    refine (pick_tot hq (by omega) (by omega)).bind ?_
    rintro _ ⟨_, q2, rfl, k1, k2, v, rfl, k3, k4⟩
    rw [tot_cond]
    refine ⟨fun _ => ?_, fun _ => ?_⟩
    · refine (one_tot (hq.next k1 (by omega)) (by omega) (by simp) (by simp)).bind ?_
      rintro _ ⟨_, q3, rfl, f1, f2, u, rfl, hu⟩
      simp only [tot_chk, tot_some, inb_iff, decide_eq_true_eq]
      exact ⟨by omega, by simp; omega, fin q3 _ (by omega) (by omega) (by simpa using h3)⟩
    · rw [tot_cond]
      refine ⟨fun _ => ?_, fun _ => by rw [tot_some]; exact fin q2 o (by omega) (by omega) h3⟩
      refine (one_tot (hq.next k1 (by omega)) (by omega) (by simp) (by simp)).bind ?_
      rintro _ ⟨_, q3, rfl, f1, f2, u, rfl, hu⟩
      have w : w64 ((o.length : Int) - 1) = (o.length : Int) - 1 := w64_id (by omega) (by omega)
      simp only [tot_chk, tot_some, inb_iff, decide_eq_true_eq, w]
      exact ⟨by omega, by omega, fin q3 _ (by omega) (by omega) (by simpa using h3)⟩
  have j1 : ∀ (q : Int) (o : List POp), p ≤ q → q ≤ p + 1800 → o.length ≤ 500000000000 → Tot (fun σ => B_s_someOps_J1 (σ 0) (F_s_reader_pick (σ 0)) (F_s_likelyOps (σ 0)) (F_s_someGraph (σ 0)) (F_s_written (σ 0)) (F_s_someOp (σ 0)) (F_s_reader_one (σ 0)) b q o) (Drawn b p 2000 fun x => ∃ ops : List POp, x = (ops, ()) ∧ ops.length ≤ 500000000000) := by
    intro q o h1 h2 h3
    have hq := h.next h1 (by omega)
    unfold B_s_someOps_J1
    refine (pick_tot hq (by omega) (by omega)).bind ?_
    rintro _ ⟨_, q2, rfl, k1, k2, v, rfl, k3, k4⟩
    rw [tot_cond]
    refine ⟨fun _ => ?_, fun _ => by rw [tot_jn]; exact j2 q2 o (by omega) (by omega) h3⟩
    have w : w64 (len o + 1) = (o.length : Int) + 1 := by rw [w64_id] <;> simp only [len] <;> omega
    rw [w]
    refine (pick_tot (hq.next k1 (by omega)) (by omega) (by omega)).bind ?_
    rintro _ ⟨_, q3, rfl, f1, f2, u, rfl, f3, f4⟩
    have f4 := f4 (by omega)
    rw [tot_chk]
    refine ⟨cutb_iff.2 ⟨Int.le_refl _, f3, by show u ≤ (o.length : Int); omega⟩, ?_⟩
    rw [tot_jn]
    exact j2 q3 (o.take u.toNat) (by omega) (by omega) (by simp only [List.length_take]; omega)
  refine (pick_tot h (by omega) (by omega)).bind ?_
  rintro _ ⟨_, q, rfl, h1, h2, v, rfl, h3, h4⟩
  have hq := h.next h1 (by omega)
  rw [tot_cond]
  refine ⟨fun _ => ?_, fun _ => ?_⟩
  · refine (likelyOps_tot hq (by omega)).bind ?_
    rintro _ ⟨_, q2, rfl, k1, k2, o, rfl, ho, _⟩
    rw [tot_jn]
    exact j2 q2 o (by omega) (by omega) (by omega)
  · refine (someGraph_tot hq (by omega)).bind ?_
    rintro _ ⟨_, q2, rfl, k1, k2, g, root, rfl, hv⟩
    have hq2 := hq.next k1 (by omega)
    refine (pick_tot hq2 (by omega) (by omega)).bind ?_
    rintro _ ⟨_, q3, rfl, f1, f2, u, rfl, f3, f4⟩
    have hq3 := hq2.next f1 (by omega)
    refine (written_tot hv u).bind ?_
    rintro _ ⟨o, rfl, ho⟩
    refine (pick_tot hq3 (by omega) (by omega)).bind ?_
    rintro _ ⟨_, q4, rfl, m1, m2, u2, rfl, m3, m4⟩
    have hq4 := hq3.next m1 (by omega)
    have j0 : ∀ t : Bool, (t = true → 0 < o.length) → Tot (fun σ => B_s_someOps_J0 (σ 0) (F_s_reader_pick (σ 0)) (F_s_likelyOps (σ 0)) (F_s_someGraph (σ 0)) (F_s_written (σ 0)) (F_s_someOp (σ 0)) (F_s_reader_one (σ 0)) b q4 o t) (Drawn b p 2000 fun x => ∃ ops : List POp, x = (ops, ()) ∧ ops.length ≤ 500000000000) := by
      intro t ht
      unfold B_s_someOps_J0
      rw [tot_cond]
      refine ⟨fun hb => ?_, fun _ => by rw [tot_jn]; exact j1 q4 o (by omega) (by omega) ho⟩
      have hpos := ht hb
      refine (pick_tot hq4 (by omega) (by simp only [len]; omega)).bind ?_
      rintro _ ⟨_, q5, rfl, n1, n2, w, rfl, n3, n4⟩
      have n4 := n4 (by simp only [len]; omega)
      simp only [len] at n4
      refine (someOp_tot (hq4.next n1 (by omega)) (by omega)).bind ?_
      rintro _ ⟨_, q6, rfl, l1, l2, c, a, rfl, _⟩
      simp only [tot_chk, inb_iff, decide_eq_true_eq]
      refine ⟨by omega, by omega, ?_⟩
      rw [tot_jn]
      exact j1 q6 _ (by omega) (by omega) (by simpa using ho)
    rw [tot_cond]
    refine ⟨fun _ => ?_, fun _ => ?_⟩
    · rw [tot_jn]; exact j0 _ (fun h => by simp only [decide_eq_true_eq, len] at h; omega)
    · rw [tot_jn]; exact j0 false (fun h => absurd h (by decide))
end Go.Gx

/-
  Laws: DepthsOf, by the reference.
-/
set_option linter.unusedVariables false
set_option linter.unusedSimpArgs false
namespace Go.Gx
theorem sub_take {α : Type} {l : List α} {n : Nat} : sub l 0 (n : Int) = l.take n := by simp [sub]
theorem s_DepthsOf_tot {ops : List POp} (hl : ops.length ≤ 900000000000) : Tot (fun σ => F_s_DepthsOf (σ 0) ops) (fun r => r = ((if okOps ops = true then traceM (fun m => (m.S.length : Int)) ops (rN ops) else [], ()), ())) := by
  refine tot_s_DepthsOf ?_
  unfold B_s_DepthsOf
  refine (validOps_tot hl).bind ?_
  rintro _ rfl
  simp only [tot_cond, tot_some, Bool.not_eq_true', Bool.not_eq_false']
  refine ⟨fun h => by rw [if_neg (by rw [h]; decide)], fun h => ?_⟩
  obtain ⟨h1, h2⟩ := okOps_all h
  refine (runShapes_tot hl h1).bind ?_
  rintro _ ⟨rfl, _⟩
  rw [if_pos h]
  simp only [rN_eq]
  have hn := rN_le ops
  have key := loop_s_DepthsOf_L0 (Q := fun _ _ _ _ r => r = ((traceM (fun m => (m.S.length : Int)) ops (rN ops), ()), ())) (I := fun ops' out n5 i => ops' = ops ∧ n5 = (rN ops : Int) ∧ ∃ j : Nat, i = (j : Int) + 1 ∧ j ≤ rN ops ∧ out = traceM (fun m => (m.S.length : Int)) ops j) (μ := fun _ _ _ i => (rN ops + 1 - i).toNat) ?_
  · exact key ops [] _ 1 ⟨rfl, rfl, 0, rfl, Nat.zero_le _, rfl⟩
  intro ops' out n5 i ⟨e1, e2, j, e3, hj, e4⟩ again hag ih
  subst e1 e2 e3 e4
  unfold B_s_DepthsOf_L0b
  simp only [tot_cond, tot_chk, tot_some, decide_eq_true_eq, decide_eq_false_iff_not, cutb_iff]
  refine ⟨fun hlt => ⟨by omega, ?_⟩, fun hge => ?_⟩
  · rw [show (j : Int) + 1 = ((j + 1 : Nat) : Int) by omega]
    simp only [sub_take]
    refine (runShapes_tot (by rw [List.length_take]; omega) (take_ok h1 _)).bind ?_
    rintro _ ⟨rfl, _⟩
    rw [tot_chk, rM_sh]
    refine ⟨by simp only [room_iff, traceM_len, List.length_cons, List.length_nil]; omega, ?_⟩
    rw [show w64 (((j + 1 : Nat) : Int) + 1) = ((j + 1 : Nat) : Int) + 1 from w64_id (by omega) (by omega)]
    exact ih _ _ _ _ ⟨rfl, rfl, j + 1, rfl, by omega, by rw [traceM_succ]; rfl⟩ (by omega)
  · have : j = rN ops' := by omega
    rw [this]
end Go.Gx

/-
  Laws, part R4: rules that are drawn.
-/
set_option linter.unusedVariables false
set_option linter.unusedSimpArgs false
namespace Go.Gx
/-- The Args of all orders to make an object. -/
def newArgs (ops : List POp) : List Int := (ops.filter (fun o => o.1 == 13)).map (·.2)
def classesP (ops : List POp) : List Int := if okOps ops = true then (List.range 10).filterMap (fun c : Nat => if (c : Int) ∈ newArgs ops then some (c : Int) else none) else []
theorem newArgs_mem {ops : List POp} {c : Int} : c ∈ newArgs ops ↔ ∃ i, i < ops.length ∧ (ops.getD i (0, 0)).1 = 13 ∧ (ops.getD i (0, 0)).2 = c := by
  unfold newArgs
  simp only [List.mem_map, List.mem_filter, beq_iff_eq]
  constructor
  · rintro ⟨o, ⟨ho, h1⟩, h2⟩
    obtain ⟨i, hi, e⟩ := List.getElem_of_mem ho
    refine ⟨i, hi, ?_⟩
    rw [List.getD_eq_getElem?_getD, List.getElem?_eq_getElem hi]
    simp only [Option.getD_some, e]
    exact ⟨h1, h2⟩
  · rintro ⟨i, hi, h1, h2⟩
    exact ⟨_, ⟨getD_mem hi, h1⟩, h2⟩
theorem range_filterMap_succ (f : Nat → Option Int) (n : Nat) : (List.range (n + 1)).filterMap f = (List.range n).filterMap f ++ (f n).toList := by
  rw [List.range_succ, List.filterMap_append]
  cases h : f n with
  | none => simp [h]
  | some y => simp [h]
theorem s_ClassesIn_tot {ops : List POp} (hl : ops.length ≤ 900000000000) : Tot (fun σ => F_s_ClassesIn (σ 0) ops) (fun r => r = ((classesP ops, ()), ())) := by
  refine tot_s_ClassesIn ?_
  unfold B_s_ClassesIn
  refine (validOps_tot hl).bind ?_
  rintro _ rfl
  simp only [tot_cond, tot_some, Bool.not_eq_true', Bool.not_eq_false']
  refine ⟨fun h => by unfold classesP; rw [if_neg (by rw [h]; decide)], fun h => ?_⟩
  generalize hf : (fun c : Nat => if (c : Int) ∈ newArgs ops then some (c : Int) else none) = f
  have hp : classesP ops = (List.range 10).filterMap f := by unfold classesP; rw [if_pos h, hf]
  have hfl : ∀ n, ((List.range n).filterMap f).length ≤ n := fun n => by
    have := List.length_filterMap_le f (List.range n)
    rw [List.length_range] at this; exact this
  rw [hp]
  have key := loop_s_ClassesIn_L3 (Q := fun _ _ _ r => r = (((List.range 10).filterMap f, ()), ())) (I := fun o u c => o = ops ∧ ∃ q : Nat, c = (q : Int) ∧ q ≤ 10 ∧ u = (List.range q).filterMap f) (μ := fun _ _ c => (10 - c).toNat) ?_
  · exact key ops [] 0 ⟨rfl, 0, rfl, Nat.zero_le _, rfl⟩
  intro o u c ⟨e1, q, e2, hq, e3⟩ again hag ih
  subst e1 e2 e3
  unfold B_s_ClassesIn_L3b
  simp only [tot_cond, tot_some, decide_eq_true_eq, decide_eq_false_iff_not]
  refine ⟨fun hle => ?_, fun hgt => by rw [show q = 10 by omega]⟩
  have next : ∀ v : Option Int, f q = v → Tot (fun σ => again σ (o, (List.range q).filterMap f ++ v.toList, w64 ((q : Int) + 1), ())) (fun r => r = (((List.range 10).filterMap f, ()), ())) := by
    intro v hv
    rw [w64_succ (by omega) (by omega)]
    exact ih _ _ _ ⟨rfl, q + 1, rfl, by omega, by rw [range_filterMap_succ, hv]⟩ (by simp; omega)
  have key1 := loop_s_ClassesIn_L1 hag (Q := fun _ _ _ _ r => r = (((List.range 10).filterMap f, ()), ())) (I := fun o' u c i => o' = o ∧ u = (List.range q).filterMap f ∧ c = (q : Int) ∧ ∃ j : Nat, i = (j : Int) ∧ j ≤ o.length ∧ ∀ z, z < j → ¬ ((o.getD z (0, 0)).1 = 13 ∧ (o.getD z (0, 0)).2 = (q : Int))) (μ := fun _ _ _ i => (o.length - i).toNat) ?_
  · exact key1 _ _ _ 0 ⟨rfl, rfl, rfl, 0, rfl, Nat.zero_le _, fun i hi => absurd hi (Nat.not_lt_zero _)⟩
  intro o' u c i ⟨e1, e2, e3, j, e4, hj, hno⟩ again1 hag1 ih1
  subst e1 e2 e3 e4
  unfold B_s_ClassesIn_L1b
  have hrd : rdx ((0 : Int), (0 : Int)) o' (j : Int) = o'.getD j (0, 0) := by rw [rdx_eq, Int.toNat_natCast]
  rw [tot_cond]
  refine ⟨fun hlt => tot_chk.2 ⟨inb_iff.2 (by have := of_decide_eq_true hlt; unfold len at this; omega), ?_⟩, fun hge => ?_⟩
  · have hlt := of_decide_eq_true hlt
    unfold len at hlt
    have hjl : j < o'.length := by omega
    have j0 : ∀ b : Bool, (b = true ↔ (o'.getD j (0, 0)).1 = 13 ∧ (o'.getD j (0, 0)).2 = (q : Int)) → Tot (fun σ => B_s_ClassesIn_J0 (σ 0) (F_s_validOps (σ 0)) (again1 σ) (again σ) o' ((List.range q).filterMap f) (q : Int) (j : Int) b) (fun r => r = (((List.range 10).filterMap f, ()), ())) := by
      intro b hb
      unfold B_s_ClassesIn_J0 B_s_ClassesIn_J2
      simp only [tot_cond, tot_chk, tot_jn, room_iff, List.length_cons, List.length_nil]
      refine ⟨fun ht => ⟨by have := hfl q; omega, ?_⟩, fun hf2 => ?_⟩
      · refine next (some (q : Int)) ?_
        rw [← hf]
        exact if_pos (newArgs_mem.2 ⟨j, hjl, hb.1 ht⟩)
      · rw [w64_succ (by omega) (by omega)]
        refine ih1 _ _ _ _ ⟨rfl, rfl, rfl, j + 1, rfl, hjl, fun z hz => ?_⟩ (by simp; omega)
        by_cases e : z = j
        · subst e; exact fun h => by rw [hb.2 h] at hf2; cases hf2
        · exact hno z (by omega)
    rw [hrd]
    simp only [tot_cond, tot_chk, tot_jn, beq_iff_eq, beq_eq_false_iff_ne, ne_eq, inb_iff]
    refine ⟨fun h13 => ⟨by omega, j0 _ ?_⟩, fun h13 => j0 _ ⟨fun h0 => absurd h0 (by simp), fun h0 => absurd h0.1 h13⟩⟩
    rw [beq_iff_eq]
    exact ⟨fun h0 => ⟨h13, h0⟩, fun h0 => h0.2⟩
  · have hge := of_decide_eq_false hge
    unfold len at hge
    unfold B_s_ClassesIn_J2
    rw [tot_jn]
    have hn : f q = none := by
      rw [← hf]
      refine if_neg fun h0 => ?_
      obtain ⟨i, hi, h1⟩ := newArgs_mem.1 h0
      exact hno i (by omega) h1
    have := next none hn
    rw [show (none : Option Int).toList = [] from rfl, List.append_nil] at this
    exact this
theorem classesP_len (ops : List POp) : (classesP ops).length ≤ 10 := by
  unfold classesP
  split
  · have := List.length_filterMap_le (fun c : Nat => if (c : Int) ∈ newArgs ops then some (c : Int) else none) (List.range 10)
    rw [List.length_range] at this; exact this
  · simp
/-- The greatest of numbers, 0 if there are none. -/
def maxP (l : List Int) : Int := l.foldl (fun a x => if x > a then x else a) 0
def leastP (ops : List POp) : Ru × Bool := if okOps ops = true ∧ rN ops = ops.length then (⟨(ops.length : Int), ((rM ops).N.length : Int), maxP (traceM (fun m => (m.S.length : Int)) ops (rN ops)), classesP ops⟩, true) else (⟨0, 0, 0, []⟩, false)
theorem s_LeastRules_tot {ops : List POp} (hl : ops.length ≤ 900000000000) : Tot (fun σ => F_s_LeastRules (σ 0) ops) (fun r => r = ((((leastP ops).1.st, (leastP ops).1.nd, (leastP ops).1.dp, (leastP ops).1.cl, ()), (leastP ops).2, ()), ())) := by
  refine tot_s_LeastRules ?_
  unfold B_s_LeastRules
  refine (validOps_tot hl).bind ?_
  rintro _ rfl
  simp only [tot_cond, tot_some, Bool.not_eq_true', Bool.not_eq_false']
  refine ⟨fun h => by unfold leastP; rw [if_neg (fun hc => by rw [hc.1] at h; cases h)], fun h => ?_⟩
  obtain ⟨h1, h2⟩ := okOps_all h
  refine (runShapes_tot hl h1).bind ?_
  rintro _ ⟨rfl, _⟩
  simp only [tot_cond, tot_some, decide_eq_true_eq, decide_eq_false_iff_not, len, rN_eq]
  have hle := rN_le ops
  refine ⟨fun hlt => by unfold leastP; rw [if_neg (fun hc => by omega)], fun hge => ?_⟩
  have hn : rN ops = ops.length := by omega
  have hL : leastP ops = (⟨(ops.length : Int), ((rM ops).N.length : Int), maxP (traceM (fun m => (m.S.length : Int)) ops (rN ops)), classesP ops⟩, true) := by unfold leastP; rw [if_pos ⟨h, hn⟩]
  refine (s_DepthsOf_tot hl).bind ?_
  rintro _ rfl
  rw [if_pos h, hL]
  have htl := traceM_len (fun m => (m.S.length : Int)) ops (rN ops)
  generalize traceM (fun m => (m.S.length : Int)) ops (rN ops) = tr at htl
  have key := loop_s_LeastRules_L0 (Q := fun _ _ _ _ _ _ _ _ _ _ _ _ r => r = ((((ops.length : Int), ((rM ops).N.length : Int), maxP tr, classesP ops, ()), true, ()), ()))
    (I := fun o a b c K Fu S M D dp l i => o = ops ∧ K = (rM ops).N.map (·.1) ∧ l = tr ∧ ∃ j : Nat, i = (j : Int) ∧ j ≤ tr.length ∧ dp = maxP (tr.take j)) (μ := fun _ _ _ _ _ _ _ _ _ _ _ i => (tr.length - i).toNat) ?_
  · refine key _ _ _ _ _ _ _ _ _ _ _ 0 ⟨rfl, ?_, rfl, 0, rfl, Nat.zero_le _, rfl⟩
    rw [rM_sh]; rfl
  intro o a b c K Fu S M D dp l i ⟨e1, e2, e3, j, e4, hj, e5⟩ again hag ih
  subst e1 e2 e3 e4 e5
  unfold B_s_LeastRules_L0b
  simp only [tot_cond, tot_chk, decide_eq_true_eq, decide_eq_false_iff_not, inb_iff, Int.toNat_natCast, len]
  refine ⟨fun hlt => ⟨by omega, by omega, ?_⟩, fun hge => ?_⟩
  · have hjl : j < l.length := by omega
    rw [w64_succ (by omega) (by omega)]
    refine ih _ _ _ _ _ _ _ _ _ _ _ _ ⟨rfl, rfl, rfl, j + 1, rfl, hjl, ?_⟩ (by simp; omega)
    have e : l.take (j + 1) = l.take j ++ [l.getD j 0] := by
      rw [List.take_add_one, List.getElem?_eq_getElem hjl, List.getD_eq_getElem?_getD, List.getElem?_eq_getElem hjl]; rfl
    rw [e]
    unfold maxP
    rw [List.foldl_append]
    rfl
  · have : j = l.length := by omega
    subst this
    refine (s_ClassesIn_tot hl).bind ?_
    rintro _ rfl
    rw [tot_some, List.take_length, List.length_map]
theorem someRules_tot {b : List Int} {p : Int} (h : RD b p) (hp : p ≤ 91000000) {ops : List POp} (hl : ops.length ≤ 900000000000) : Tot (fun σ => F_s_someRules (σ 0) b p ops) (Drawn b p 20 fun x => ∃ r : Ru, x = ((r.st, r.nd, r.dp, r.cl, ()), ()) ∧ r.cl.length ≤ 10) := by
  refine tot_s_someRules ?_
  unfold B_s_someRules
  refine (pick_tot h (by omega) (by omega)).bind ?_
  rintro _ ⟨_, q1, rfl, a1, b1, v1, rfl, _⟩
  have h1 := h.next a1 (by omega)
  refine (one_tot h1 (by omega) (by simp) (by simp)).bind ?_
  rintro _ ⟨_, q2, rfl, a2, b2, v2, rfl, _⟩
  have h2 := h1.next a2 (by omega)
  refine (pick_tot h2 (by omega) (by omega)).bind ?_
  rintro _ ⟨_, q3, rfl, a3, b3, v3, rfl, _⟩
  have h3 := h2.next a3 (by omega)
  refine (one_tot h3 (by omega) (by simp) (by simp)).bind ?_
  rintro _ ⟨_, q4, rfl, a4, b4, v4, rfl, _⟩
  have h4 := h3.next a4 (by omega)
  refine (pick_tot h4 (by omega) (by omega)).bind ?_
  rintro _ ⟨_, q5, rfl, a5, b5, v5, rfl, _⟩
  have h5 := h4.next a5 (by omega)
  refine (one_tot h5 (by omega) (by simp) (by simp)).bind ?_
  rintro _ ⟨_, q6, rfl, a6, b6, v6, rfl, _⟩
  have h6 := h5.next a6 (by omega)
  refine (pick_tot h6 (by omega) (by omega)).bind ?_
  rintro _ ⟨_, q7, rfl, a7, b7, v7, rfl, _⟩
  have h7 := h6.next a7 (by omega)
  have j0 : ∀ (x1 x2 x3 st nd dp : Int) (cl : List Int), cl.length ≤ 10 → Tot (fun σ => B_s_someRules_J0 (σ 0) (F_s_reader_pick (σ 0)) (F_s_reader_one (σ 0)) (F_s_LeastRules (σ 0)) (F_s_reader_one2 (σ 0)) b q7 x1 x2 x3 st nd dp cl) (Drawn b p 20 fun x => ∃ r : Ru, x = ((r.st, r.nd, r.dp, r.cl, ()), ()) ∧ r.cl.length ≤ 10) := by
    intro x1 x2 x3 st nd dp cl hcl
    unfold B_s_someRules_J0 B_s_someRules_J1
    refine (pick_tot h7 (by omega) (by omega)).bind ?_
    rintro _ ⟨_, q8, rfl, a8, b8, v8, rfl, _⟩
    have h8 := h7.next a8 (by omega)
    simp only [tot_cond, tot_jn, tot_some]
    refine ⟨fun _ => ?_, fun _ => ⟨fun _ => ⟨_, q8, rfl, by omega, by omega, ⟨_, _, _, _⟩, rfl, hcl⟩, fun _ => ⟨fun _ => ⟨_, q8, rfl, by omega, by omega, ⟨_, _, _, _⟩, rfl, hcl⟩, fun _ => ⟨fun _ => ⟨_, q8, rfl, by omega, by omega, ⟨_, _, _, _⟩, rfl, hcl⟩, fun _ => ⟨fun _ => ?_, fun _ => ⟨_, q8, rfl, by omega, by omega, ⟨_, _, _, _⟩, rfl, hcl⟩⟩⟩⟩⟩⟩
    · refine (pick_tot h8 (by omega) (by omega)).bind ?_
      rintro _ ⟨_, q9, rfl, a9, b9, v9, rfl, _⟩
      rw [tot_jn, tot_some]
      exact ⟨_, q9, rfl, by omega, by omega, ⟨st, nd, dp, [v9]⟩, rfl, by simp⟩
    · have one2 : Tot (fun σ => F_s_reader_one2 (σ 0) b q8 [[1, 1], [10], [(-1)], []]) (Drawn b q8 1 fun x => ∃ l : List Int, x = (l, ()) ∧ l.length ≤ 10) := by
        refine tot_s_reader_one2 ?_
        unfold B_s_reader_one2
        refine (pick_tot h8 (by omega) (by unfold len; simp)).bind ?_
        rintro _ ⟨_, q9, rfl, a9, b9, v9, rfl, hv0, hv1⟩
        have hv1 := hv1 (by unfold len; simp)
        rw [tot_chk]
        unfold len at hv1
        simp only [List.length_cons, List.length_nil] at hv1
        refine ⟨inb_iff.2 ⟨hv0, by simp only [List.length_cons, List.length_nil]; omega⟩, ?_⟩
        have hm : rdx ([] : List Int) [[1, 1], [10], [(-1)], []] v9 ∈ [[1, 1], [10], [(-1)], ([] : List Int)] := rdx_mem hv0 (by simp only [List.length_cons, List.length_nil]; omega)
        have hll : (rdx ([] : List Int) [[1, 1], [10], [(-1)], []] v9).length ≤ 2 := by
          simp only [List.mem_cons, List.not_mem_nil, or_false] at hm
          rcases hm with e | e | e | e <;> rw [e] <;> simp
        refine (copyInts_tot (l := rdx ([] : List Int) [[1, 1], [10], [(-1)], []] v9) (by omega)).bind ?_
        rintro _ rfl
        rw [tot_some]
        exact ⟨_, q9, rfl, a9, b9, rdx ([] : List Int) [[1, 1], [10], [(-1)], []] v9, rfl, by omega⟩
      refine one2.bind ?_
      rintro _ ⟨_, q9, rfl, a9, b9, l, rfl, hll⟩
      rw [tot_jn, tot_some]
      exact ⟨_, q9, rfl, by omega, by omega, ⟨st, nd, dp, l⟩, rfl, hll⟩
  simp only [tot_cond, tot_jn]
  refine ⟨fun _ => (s_LeastRules_tot hl).bind ?_, fun _ => j0 _ _ _ _ _ _ _ (by simp)⟩
  rintro _ rfl
  simp only [tot_cond, tot_jn]
  refine ⟨fun _ => j0 _ _ _ _ _ _ _ ?_, fun _ => j0 _ _ _ _ _ _ _ (by simp)⟩
  unfold leastP
  split
  · exact classesP_len ops
  · simp
theorem DrawSafeRun_tot {code : List Int} (hc : ∀ z ∈ code, 0 ≤ z ∧ z ≤ 255) (hl : code.length ≤ 1048576) : Tot (fun σ => F_s_DrawSafeRun (σ 0) code) (fun r => ∃ (ops : List POp) (x : Ru), r = ((ops, (x.st, x.nd, x.dp, x.cl, ()), ()), ()) ∧ ops.length ≤ 500000000000 ∧ x.cl.length ≤ 10) := by
  refine tot_s_DrawSafeRun ?_
  unfold B_s_DrawSafeRun
  refine (newReader_tot hc hl).bind ?_
  rintro _ ⟨b, rfl, hb⟩
  refine (someOps_tot hb (by omega)).bind ?_
  rintro _ ⟨_, q, rfl, hq1, hq2, ops, rfl, hl⟩
  refine (someRules_tot (hb.next hq1 (by omega)) (by omega) (ops := ops) (by omega)).bind ?_
  rintro _ ⟨_, q2, rfl, _, _, r, rfl, hr⟩
  rw [tot_some]
  exact ⟨ops, r, rfl, hl, hr⟩
end Go.Gx

/-
  Laws, part R5: rules are compared, by the program.
-/
set_option linter.unusedVariables false
set_option linter.unusedSimpArgs false
namespace Go.Gx
/-- Rules allow all that others allow. -/
structure Allow (a b : Ru) : Prop where
  va : RuOk a
  vb : RuOk b
  st : b.st ≤ a.st
  nd : b.nd ≤ a.nd
  dp : b.dp ≤ a.dp
  cl : ∀ c ∈ b.cl, c ∈ a.cl
theorem i_RulesAllow_1_tot {a : Ru} (hl : a.cl.length ≤ 900000000000) (c : Int) : Tot (fun σ => F_i_RulesAllow_1 (σ 0) c a.st a.nd a.dp a.cl) (fun r => r = ((!(decide (c ∈ a.cl)), ()), ((a.st, a.nd, a.dp, a.cl, ()), ()))) := by
  refine tot_i_RulesAllow_1 ?_
  unfold B_i_RulesAllow_1
  refine (contains_tot hl c).bind ?_
  rintro _ rfl
  rw [tot_some]
theorem containsFunc_tot {a : Ru} (hl : a.cl.length ≤ 900000000000) {s : List Int} (hs : s.length ≤ 900000000000) :
    Tot (fun σ => F_slices_ContainsFunc_int_int__c_i_RulesAllow_1 (σ 0) s a.st a.nd a.dp a.cl) (fun r => ∃ b : Bool, r = ((b, ()), ((a.st, a.nd, a.dp, a.cl, ()), ())) ∧ (b = true ↔ ∃ c ∈ s, c ∉ a.cl)) := by
  refine tot_slices_ContainsFunc_int_int__c_i_RulesAllow_1 ?_
  unfold B_slices_ContainsFunc_int_int__c_i_RulesAllow_1
  have idx : Tot (fun σ => F_slices_IndexFunc_int_int__c_i_RulesAllow_1 (σ 0) s a.st a.nd a.dp a.cl) (fun r => ∃ i : Int, r = ((i, ()), ((a.st, a.nd, a.dp, a.cl, ()), ())) ∧ (0 ≤ i ↔ ∃ c ∈ s, c ∉ a.cl)) := by
    refine tot_slices_IndexFunc_int_int__c_i_RulesAllow_1 ?_
    unfold B_slices_IndexFunc_int_int__c_i_RulesAllow_1
    have key := loop_slices_IndexFunc_int_int__c_i_RulesAllow_1_L0 (Q := fun _ _ _ _ _ _ _ r => ∃ i : Int, r = ((i, ()), ((a.st, a.nd, a.dp, a.cl, ()), ())) ∧ (0 ≤ i ↔ ∃ c ∈ s, c ∉ a.cl))
      (I := fun s' st nd dp cl t7 t8 => s' = s ∧ st = a.st ∧ nd = a.nd ∧ dp = a.dp ∧ cl = a.cl ∧ t7 = (s.length : Int) ∧ ∃ j : Nat, t8 = (j : Int) ∧ j ≤ s.length ∧ ∀ i, i < j → s.getD i 0 ∈ a.cl) (μ := fun _ _ _ _ _ _ t8 => (s.length - t8).toNat) ?_
    · exact key _ _ _ _ _ _ 0 ⟨rfl, rfl, rfl, rfl, rfl, rfl, 0, rfl, Nat.zero_le _, fun i hi => absurd hi (Nat.not_lt_zero _)⟩
    intro s' st nd dp cl t7 t8 ⟨e1, e2, e3, e4, e5, e6, j, e7, hj, hin⟩ again hag ih
    subst e1 e2 e3 e4 e5 e6 e7
    unfold B_slices_IndexFunc_int_int__c_i_RulesAllow_1_L0b
    have hrd : rdx (0 : Int) s' (j : Int) = s'.getD j 0 := by rw [rdx_eq, Int.toNat_natCast]
    rw [tot_cond]
    refine ⟨fun hlt => tot_chk.2 ⟨inb_iff.2 (by have := of_decide_eq_true hlt; omega), ?_⟩, fun hge => tot_some.2 ?_⟩
    · have hlt := of_decide_eq_true hlt
      rw [hrd]
      refine (i_RulesAllow_1_tot hl _).bind ?_
      rintro _ rfl
      simp only [tot_cond, tot_some, Bool.not_eq_true', Bool.not_eq_false', decide_eq_true_eq, decide_eq_false_iff_not]
      refine ⟨fun hn => ⟨(j : Int), rfl, fun _ => ⟨_, getD_mem (by omega), hn⟩, fun _ => by omega⟩, fun hm => ?_⟩
      rw [w64_succ (by omega) (by omega)]
      refine ih _ _ _ _ _ _ _ ⟨rfl, rfl, rfl, rfl, rfl, rfl, j + 1, rfl, by omega, fun i hi => ?_⟩ (by simp; omega)
      by_cases e : i = j
      · subst e; exact hm
      · exact hin i (by omega)
    · have hge := of_decide_eq_false hge
      refine ⟨-1, rfl, fun h => by omega, fun ⟨c, hcs, hn⟩ => ?_⟩
      obtain ⟨i, hi, e⟩ := List.getElem_of_mem hcs
      exfalso
      have := hin i (by omega)
      rw [List.getD_eq_getElem?_getD, List.getElem?_eq_getElem hi] at this
      exact hn (by rw [← e]; exact this)
  refine idx.bind ?_
  rintro _ ⟨i, rfl, hi⟩
  rw [tot_some]
  exact ⟨_, rfl, by rw [decide_eq_true_eq]; exact hi⟩
theorem i_RulesAllow_tot {a b : Ru} (ha : a.cl.length ≤ 900000000000) (hb : b.cl.length ≤ 900000000000) : Tot (fun σ => F_i_RulesAllow (σ 0) a.st a.nd a.dp a.cl b.st b.nd b.dp b.cl) (Says (Allow a b)) := by
  refine tot_i_RulesAllow ?_
  unfold B_i_RulesAllow B_i_RulesAllow_J0
  refine (i_ValidRules_tot ha).bind ?_
  rintro _ ⟨x, rfl, hx⟩
  simp only [tot_cond, tot_jn, tot_some, Bool.not_eq_true', Bool.not_eq_false', decide_eq_true_eq, decide_eq_false_iff_not]
  refine ⟨fun hf => ⟨fun _ => says_false fun h => absurd (hf.symm.trans (hx.2 h.va)) (by decide), fun h0 => absurd h0 (by decide)⟩, fun ht => ?_⟩
  refine (i_ValidRules_tot hb).bind ?_
  rintro _ ⟨y, rfl, hy⟩
  simp only [tot_cond, tot_jn, tot_some, Bool.not_eq_true', Bool.not_eq_false', decide_eq_true_eq, decide_eq_false_iff_not]
  refine ⟨fun hf => says_false fun h => absurd (hf.symm.trans (hy.2 h.vb)) (by decide), fun hyt => ⟨fun g1 => ⟨fun g2 => ⟨fun g3 => ?_, fun g3 => says_false fun h => by have := h.dp; omega⟩, fun g2 => says_false fun h => by have := h.nd; omega⟩, fun g1 => says_false fun h => by have := h.st; omega⟩⟩
  refine (containsFunc_tot ha hb).bind ?_
  rintro _ ⟨z, rfl, hz⟩
  rw [tot_some]
  refine ⟨_, rfl, ?_⟩
  rw [Bool.not_eq_true']
  constructor
  · intro hf
    refine ⟨hx.1 ht, hy.1 hyt, by omega, by omega, by omega, fun c hc => ?_⟩
    by_cases h : c ∈ a.cl
    · exact h
    · rw [hz.2 ⟨c, hc, h⟩] at hf; cases hf
  · intro h
    cases hq : z with
    | false => rfl
    | true =>
      obtain ⟨c, hc, hn⟩ := hz.1 hq
      exact absurd (h.cl c hc) hn
end Go.Gx

/-
  The plain law of FnSafeRunWider.
-/
set_option linter.unusedVariables false
set_option linter.unusedSimpArgs false
namespace Go.Gx
/-- Wider rules are broken later. -/
theorem brk_wider {ops : List POp} {r w : Ru} (h1 : r.st ≤ w.st) (h2 : r.nd ≤ w.nd) (h3 : r.dp ≤ w.dp) (h4 : ∀ c ∈ r.cl, c ∈ w.cl) {i : Nat} (h : brk ops r i = 0) : brk ops w i = 0 := by
  unfold brk at h ⊢
  split at h
  · cases h
  rename_i a1
  rw [if_neg a1]
  split at h
  · cases h
  rw [if_neg (by omega)]
  split at h
  · cases h
  rename_i a3
  rw [if_neg (fun hc => a3 ⟨hc.1, fun hm => hc.2 (h4 _ hm)⟩)]
  split at h
  · cases h
  rw [if_neg (by omega)]
  split at h
  · cases h
  rw [if_neg (by omega)]
theorem safe_wider {ops : List POp} {r w : Ru} (h1 : r.st ≤ w.st) (h2 : r.nd ≤ w.nd) (h3 : r.dp ≤ w.dp) (h4 : ∀ c ∈ r.cl, c ∈ w.cl) {n n' : Nat} {y y' : Int} (h : SafeAns ops r n y) (h' : SafeAns ops w n' y') : n ≤ n' := by
  have := h.le
  by_cases hl : n' < n
  · exact absurd (brk_wider h1 h2 h3 h4 (h.ok n' hl)) (h'.no (by omega)).1
  · omega
theorem p_l_FnSafeRunWider (code : List Int) (hc : ∀ z ∈ code, 0 ≤ z ∧ z ≤ 255) : ∃ k, F_l_FnSafeRunWider k code = some ((true, ()), ()) := by
  refine Tot.ex (F := fun k => F_l_FnSafeRunWider k code) ?_
  refine tot_l_FnSafeRunWider ?_
  unfold B_l_FnSafeRunWider B_l_FnSafeRunWider_J0
  simp only [tot_cond, tot_some, decide_eq_true_eq, decide_eq_false_iff_not, len]
  refine ⟨fun _ => trivial, fun hl => ?_⟩
  refine (DrawSafeRun_tot hc (by omega)).bind ?_
  rintro _ ⟨ops, r, rfl, hll, hcl⟩
  refine (i_SafeRun_tot (r := r) (by simp only; omega) (by omega)).bind fun x hx => ?_
  refine (s_SafeRun_tot (r := r) (by simp only; omega) (by omega)).bind fun y hy => ?_
  have e := hx.eq hy
  subst e
  simp only [tot_cond, tot_jn, tot_some, bne_self_eq_false, beq_self_eq_true]
  refine ⟨fun h0 => absurd h0 (by decide), fun _ => ⟨fun h0 => absurd h0 (by decide), fun _ => ⟨fun _ => ⟨fun _ => trivial, fun h0 => absurd h0 (by decide)⟩, fun hn => ?_⟩⟩⟩
  rcases hx with ⟨_, e⟩ | ⟨hok, hR, n, w, hS, e⟩
  · rw [e] at hn; exact absurd hn (by decide)
  subst e
  have a1 := hR.st; have a2 := hR.nd; have a3 := hR.dp
  rw [w64_id (z := r.st + 5) (by omega) (by omega), w64_id (z := r.nd + 1) (by omega) (by omega), w64_id (z := r.dp + 2) (by omega) (by omega)]
  have hW : RuOk ⟨if 300 < r.st + 5 then 300 else r.st + 5, if 300 < r.nd + 1 then 300 else r.nd + 1, if 300 < r.dp + 2 then 300 else r.dp + 2, r.cl⟩ := by
    refine ⟨hR.cl, hR.nu, ?_, ?_, ?_⟩
    · show 0 ≤ (if 300 < r.st + 5 then 300 else r.st + 5) ∧ (if 300 < r.st + 5 then 300 else r.st + 5) ≤ 300
      split <;> omega
    · show 0 ≤ (if 300 < r.nd + 1 then 300 else r.nd + 1) ∧ (if 300 < r.nd + 1 then 300 else r.nd + 1) ≤ 300
      split <;> omega
    · show 0 ≤ (if 300 < r.dp + 2 then 300 else r.dp + 2) ∧ (if 300 < r.dp + 2 then 300 else r.dp + 2) ≤ 300
      split <;> omega
  have g1 : r.st ≤ if 300 < r.st + 5 then 300 else r.st + 5 := by split <;> omega
  have g2 : r.nd ≤ if 300 < r.nd + 1 then 300 else r.nd + 1 := by split <;> omega
  have g3 : r.dp ≤ if 300 < r.dp + 2 then 300 else r.dp + 2 := by split <;> omega
  generalize hw1 : (if 300 < r.st + 5 then 300 else r.st + 5) = w1 at hW g1
  generalize hw2 : (if 300 < r.nd + 1 then 300 else r.nd + 1) = w2 at hW g2
  generalize hw3 : (if 300 < r.dp + 2 then 300 else r.dp + 2) = w3 at hW g3
  refine (i_SafeRun_tot (r := ⟨w1, w2, w3, r.cl⟩) (by omega) (by simp only; omega)).bind fun z hz => ?_
  refine (i_RulesAllow_tot (a := ⟨w1, w2, w3, r.cl⟩) (b := r) (by simp only; omega) (by omega)).bind ?_
  rintro _ ⟨b, rfl, hb⟩
  have hb : b = true := hb.2 ⟨hW, hR, g1, g2, g3, fun c h => h⟩
  subst hb
  rcases hz with ⟨h1, _⟩ | ⟨_, _, n', w', hS', e⟩
  · exact absurd ⟨hok, hW⟩ h1
  subst e
  simp only [tot_cond, tot_some]
  refine ⟨fun _ => ?_, fun h0 => absurd h0 (by decide)⟩
  have := safe_wider (r := r) (w := ⟨w1, w2, w3, r.cl⟩) g1 g2 g3 (fun c h => h) hS hS'
  rw [decide_eq_true (by omega)]
end Go.Gx

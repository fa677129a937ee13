/-
  Plain laws about the printed functions.
-/
import Derived.Test.YtcondpfkkailkaaXLpart1
import Derived.Test.YtcondpfkkailkaaXGpart4
import Derived.Test.YtcondpfkkailkaaXSh
set_option linter.unusedVariables false
set_option linter.unusedSimpArgs false
namespace Go.Gx
theorem sub_len' {α : Type} {l : List α} {a b : Nat} (h : a ≤ b) (hb : b ≤ l.length) : (sub l (a : Int) (b : Int)).length = b - a := by
  simp only [sub, Int.toNat_natCast, List.length_drop, List.length_take]; omega
theorem sub_mem {α : Type} {l : List α} {a b : Int} {x : α} (h : x ∈ sub l a b) : x ∈ l := List.mem_of_mem_take (List.mem_of_mem_drop h)
theorem fill_tot {g : List PNode} {root level : Int} {u c : Nat} {kids : List Int} (hl : kids.length ≤ 6) (hS : ∀ x ∈ kids, SaveOk g root level u 0 c x) {each one all : Int} (he : each = 1 ∨ each = 2 ∧ kids.length % 2 = 0) {ops : List (Int × Int)} {memo : List Int} (hm : memo.length = g.length) (hu : un g memo ≤ u)
    (hb : ops.length + (6 * c + 6) + 33957804446 * un g memo ≤ 500000000000) : Tot (fun σ => F_s_fill (σ 0) g root level kids each one all ops memo) (Wr g ops memo (6 * c + 6)) := by
  refine tot_s_fill ?_
  unfold B_s_fill
  have hkc : kids.length * c ≤ 6 * c := Nat.mul_le_mul_right _ hl
  have j0 : ∀ b : Bool, Tot (fun σ => B_s_fill_J0 (σ 0) (F_s_emit (σ 0)) (F_Z48 (σ 0)) level kids each one all ops memo g root b) (Wr g ops memo (6 * c + 6)) := by
    intro b
    unfold B_s_fill_J0
    rw [tot_cond]
    refine ⟨fun _ => ?_, fun _ => ?_⟩
    · refine (emit_tot (by simp only [List.length_cons, List.length_nil]; omega)).bind ?_
      rintro _ rfl
      refine (saveAll_tot hl hS hm hu (by simp only [List.length_append, List.length_cons, List.length_nil]; omega)).bind ?_
      rintro _ ⟨o2, m2, rfl, k1, k2, k3⟩
      simp only [List.length_append, List.length_cons, List.length_nil] at k3
      refine (emit_tot (by simp only [List.length_cons, List.length_nil]; omega)).bind ?_
      rintro _ rfl
      rw [tot_some]
      exact ⟨_, _, rfl, k1, k2, by simp only [List.length_append, List.length_cons, List.length_nil]; omega⟩
    · have key := loop_s_fill_L1 (Q := fun _ _ _ _ _ _ _ _ _ r => Wr g ops memo (6 * c + 6) r)
        (I := fun l' kids' each' one' o m g' r' i => l' = level ∧ kids' = kids ∧ each' = each ∧ one' = one ∧ g' = g ∧ r' = root ∧ ∃ j : Nat, i = j ∧ j ≤ kids.length ∧ (each = 2 → j % 2 = 0) ∧ m.length = g.length ∧ un g m ≤ un g memo ∧ o.length + 33957804446 * un g m ≤ ops.length + (j * c + j) + 33957804446 * un g memo)
        (μ := fun _ _ _ _ _ _ _ _ i => (kids.length - i).toNat) ?_
      · exact key level kids each one ops memo g root 0 ⟨rfl, rfl, rfl, rfl, rfl, rfl, 0, rfl, by omega, fun _ => rfl, hm, Nat.le_refl _, by omega⟩
      intro l' kids' each' one' o m g' r' i ⟨e1, e2, e3, e4, e5, e6, j, e7, hj, hj2, hml, hmu, hmo⟩ again hag ih
      subst e1 e2 e3 e4 e5 e6 e7
      unfold B_s_fill_L1b
      simp only [tot_cond, tot_chk, tot_some, decide_eq_true_eq, decide_eq_false_iff_not, len, cutb_iff]
      refine ⟨fun hlt => ?_, fun hge => ?_⟩
      · obtain ⟨e, he', he1⟩ : ∃ e : Nat, each' = (e : Int) ∧ 1 ≤ e ∧ e ≤ 2 ∧ j + e ≤ kids'.length ∧ (each' = 2 → (j + e) % 2 = 0) := by
          rcases he with h | ⟨h, h2⟩
          · exact ⟨1, h, by omega, by omega, by omega, fun h' => by omega⟩
          · have := hj2 h; exact ⟨2, h, by omega, by omega, by omega, fun _ => by omega⟩
        subst he'
        have wj : w64 ((j : Int) + (e : Int)) = ((j + e : Nat) : Int) := by rw [w64_id (by omega) (by omega)]; omega
        simp only [wj]
        have hsl := sub_len' (l := kids') (a := j) (b := j + e) (by omega) (by omega)
        have hec : (j + e) * c ≤ kids'.length * c := Nat.mul_le_mul_right _ (by omega)
        rw [Nat.add_mul] at hec
        refine ⟨by omega, (saveAll_tot (list := sub kids' (j : Int) ((j + e : Nat) : Int)) (by omega) (fun x hx => hS x (sub_mem hx)) hml (by omega) (by rw [hsl, show j + e - j = e by omega]; omega)).bind ?_⟩
        rintro _ ⟨o2, m2, rfl, k1, k2, k3⟩
        rw [hsl, show j + e - j = e by omega] at k3
        refine (emit_tot (by simp only [List.length_cons, List.length_nil]; omega)).bind ?_
        rintro _ rfl
        refine ih l' kids' _ one' _ m2 g' r' _ ⟨rfl, rfl, rfl, rfl, rfl, rfl, j + e, rfl, by omega, he1.2.2.2, k1, by omega, ?_⟩ (by simp; omega)
        simp only [List.length_append, List.length_cons, List.length_nil]
        rw [Nat.add_mul]
        omega
      · have : j = kids'.length := by omega
        subst this
        exact ⟨o, m, rfl, hml, hmu, by omega⟩
  rw [tot_cond]
  refine ⟨fun _ => ?_, fun _ => ?_⟩
  · rw [tot_jn]; exact j0 _
  · rw [tot_jn]; exact j0 _
theorem saveTuple_tot {g : List PNode} {root level : Int} {u r : Nat} (hg : g.length ≤ 12) {at2 : Nat} (ha : at2 < g.length) (h6 : (nd g (at2 : Int)).2.2.length ≤ 6) (hr : (nd g (at2 : Int)).2.2 ≠ [] → ∃ r', r = r' + 1 ∧ ∀ x ∈ (nd g (at2 : Int)).2.2, SaveOk g root level u 0 (GG r') x)
    {ops : List (Int × Int)} {memo : List Int} (hm : memo.length = g.length) (hu : un g memo ≤ u) (hb : ops.length + GG r + 33957804446 * un g memo ≤ 500000000000) : Tot (fun σ => F_Z30 (σ 0) g root level at2 ops memo) (Wr g ops memo (GG r)) := by
  refine tot_Z30 ?_
  unfold B_Z30
  have hG := GG_le r
  rw [tot_chk]
  refine ⟨inb_iff.2 (by omega), ?_⟩
  generalize hk : (nd g (at2 : Int)).2.2 = kids at h6 hr
  have hk' : (rdx ((0 : Int), ((0 : Int), ([] : List Int))) g (at2 : Int)).2.2 = kids := hk
  simp only [hk']
  rw [tot_cond]
  refine ⟨fun _ => ?_, fun hne => ?_⟩
  · refine (emit_tot (by simp only [List.length_cons, List.length_nil]; omega)).bind ?_
    rintro _ rfl
    refine (memoed_tot (by omega) (by simp only [List.length_append, List.length_cons, List.length_nil]; omega) (by omega)).bind ?_
    rintro _ ⟨n, hn, rfl⟩
    rw [tot_some]
    have := un_set (g := g) (memo := memo) (i := at2) (v := n) (by omega) hn
    exact ⟨_, _, rfl, by simp [hm], this, by simp only [List.length_append, List.length_cons, List.length_nil]; omega⟩
  · have hne' : kids ≠ [] := by
      intro e; subst e; simp [len] at hne
    obtain ⟨r', rfl, hS⟩ := hr hne'
    have hGr : GG (r' + 1) = 6 * GG r' + 3 := rfl
    have hkc : kids.length * GG r' ≤ 6 * GG r' := Nat.mul_le_mul_right _ h6
    -- behind the kids
    have j1 : ∀ (o : List (Int × Int)) (short : Bool), o.length ≤ ops.length + 1 → (short = true → o.length = ops.length ∧ kids.length ≤ 2) → Tot (fun σ => B_Z30_J1 (σ 0) (F_s_emit (σ 0)) (F_s_memoed (σ 0)) (F_Z48 (σ 0)) level at2 o memo g root kids short) (Wr g ops memo (GG (r' + 1))) := by
      intro o short ho hsh
      unfold B_Z30_J1
      refine (saveAll_tot h6 hS hm hu (by omega)).bind ?_
      rintro _ ⟨o2, m2, rfl, k1, k2, k3⟩
      rw [tot_chk]
      refine ⟨inb_iff.2 (by simp only []; omega), ?_⟩
      -- the tuple is made
      have j5 : ∀ c : Int, Tot (fun σ => B_Z30_J5 (σ 0) (F_s_emit (σ 0)) (F_s_memoed (σ 0)) (F_Z48 (σ 0)) at2 o2 m2 c) (Wr g ops memo (GG (r' + 1))) := by
        intro c
        unfold B_Z30_J5
        refine (emit_tot (by simp only [List.length_cons, List.length_nil]; omega)).bind ?_
        rintro _ rfl
        refine (memoed_tot (by omega) (by simp only [List.length_append, List.length_cons, List.length_nil]; omega) (by omega)).bind ?_
        rintro _ ⟨n, hn, rfl⟩
        rw [tot_some]
        have := un_set (g := g) (memo := m2) (i := at2) (v := n) (by omega) hn
        exact ⟨o2 ++ [(c, 0)] ++ [(15, n)], m2.set at2 n, rfl, by simp [k1], by omega, by simp only [List.length_append, List.length_cons, List.length_nil]; omega⟩
      -- it was there
      have j4 : ∀ o3 : List (Int × Int), o3.length + 33957804446 * un g m2 + 1 ≤ ops.length + GG (r' + 1) + 33957804446 * un g memo → Tot (fun σ => B_Z30_J4 (σ 0) (F_s_emit (σ 0)) (F_s_memoed (σ 0)) (F_Z48 (σ 0)) at2 o3 m2) (Wr g ops memo (GG (r' + 1))) := by
        intro o3 h3
        unfold B_Z30_J4
        rw [tot_chk]
        refine ⟨inb_iff.2 (by omega), (emit_tot (by simp only [List.length_cons, List.length_nil]; omega)).bind ?_⟩
        rintro _ rfl
        rw [tot_some]
        exact ⟨_, _, rfl, k1, k2, by simp only [List.length_append, List.length_cons, List.length_nil]; omega⟩
      rw [tot_cond]
      refine ⟨fun _ => ?_, fun _ => ?_⟩
      · have key := loop_Z30_L3 (Q := fun _ _ _ _ _ _ r => Wr g ops memo (GG (r' + 1)) r) (I := fun a o3 m3 kd sh i => a = (at2 : Int) ∧ m3 = m2 ∧ kd = kids ∧ sh = short ∧ ∃ j : Nat, i = j ∧ j ≤ kids.length ∧ (short = true → o3.length = o2.length + j) ∧ (short = false → o3.length = o2.length)) (μ := fun _ _ _ _ _ i => (kids.length - i).toNat) ?_
        · exact key at2 o2 m2 kids short 0 ⟨rfl, rfl, rfl, rfl, 0, rfl, by omega, fun _ => rfl, fun _ => rfl⟩
        intro a o3 m3 kd sh i ⟨e1, e2, e3, e4, j, e5, hj, hs1, hs2⟩ again hag ih
        subst e1 e2 e3 e4 e5
        unfold B_Z30_L3b B_Z30_J2
        simp only [tot_cond, tot_jn, decide_eq_true_eq, decide_eq_false_iff_not, len, Bool.not_eq_true', Bool.not_eq_false']
        cases sh with
        | true =>
          have h1 := hs1 rfl
          have h2 := hsh rfl
          refine ⟨fun hlt => ⟨fun _ => ?_, fun h => absurd h (by decide)⟩, fun hge => ⟨fun h => absurd h (by decide), fun _ => ⟨fun h => absurd h (by decide), fun _ => j4 o3 (by omega)⟩⟩⟩
          refine (emit_tot (by simp only [List.length_cons, List.length_nil]; omega)).bind ?_
          rintro _ rfl
          rw [w64_succ (by omega) (by omega)]
          refine ih _ _ _ _ _ _ ⟨rfl, rfl, rfl, rfl, j + 1, rfl, by omega, fun _ => ?_, fun h => absurd h (by decide)⟩ (by simp; omega)
          simp only [List.length_append, List.length_cons, List.length_nil]; omega
        | false =>
          have h1 := hs2 rfl
          have fin : Tot (fun σ => (F_s_emit (σ 0) o3 [(18, 0)]).bind fun r79 => jn (fun t => B_Z30_J4 (σ 0) (F_s_emit (σ 0)) (F_s_memoed (σ 0)) (F_Z48 (σ 0)) t.1 t.2.1 t.2.2.1) ((at2 : Int), r79.1.1, m3, ())) (Wr g ops memo (GG (r' + 1))) := by
            refine (emit_tot (by simp only [List.length_cons, List.length_nil]; omega)).bind ?_
            rintro _ rfl
            rw [tot_jn]
            exact j4 _ (by simp only [List.length_append, List.length_cons, List.length_nil]; omega)
          exact ⟨fun hlt => ⟨fun h => absurd h (by decide), fun _ => ⟨fun _ => fin, fun h => absurd h (by decide)⟩⟩, fun hge => ⟨fun h => absurd h (by decide), fun _ => ⟨fun _ => fin, fun h => absurd h (by decide)⟩⟩⟩
      · rw [tot_cond]
        refine ⟨fun _ => ?_, fun _ => ?_⟩
        · rw [tot_jn]; exact j5 _
        · rw [tot_jn]; exact j5 _
    have j0 : ∀ (short : Bool), (short = true → kids.length ≤ 2) → Tot (fun σ => B_Z30_J0 (σ 0) (F_s_emit (σ 0)) (F_s_memoed (σ 0)) (F_Z48 (σ 0)) level at2 ops memo g root kids short) (Wr g ops memo (GG (r' + 1))) := by
      intro short hsh
      unfold B_Z30_J0
      rw [tot_cond]
      refine ⟨fun hs => ?_, fun hs => ?_⟩
      · refine (emit_tot (by simp only [List.length_cons, List.length_nil]; omega)).bind ?_
        rintro _ rfl
        rw [tot_jn]
        exact j1 _ short (by simp) (fun h => by rw [h] at hs; cases hs)
      · rw [tot_jn]
        have : short = true := by simpa using hs
        exact j1 ops short (by omega) (fun h => ⟨rfl, hsh h⟩)
    rw [tot_cond]
    refine ⟨fun _ => ?_, fun _ => ?_⟩
    · rw [tot_jn]
      exact j0 _ (fun h => by simp only [decide_eq_true_eq, len] at h; omega)
    · rw [tot_jn]
      exact j0 false (fun h => absurd h (by decide))
theorem SaveOk.mono {g : List PNode} {root level : Int} {u r r2 c c2 : Nat} {x : Int} (h : SaveOk g root level u r c x) (hc : c ≤ c2) : SaveOk g root level u r2 c2 x := by
  intro ops memo h1 h2 h3
  refine (h ops memo h1 h2 (by omega)).mono ?_
  rintro _ ⟨o, m, rfl, k1, k2, k3⟩
  exact ⟨o, m, rfl, k1, k2, by omega⟩
theorem save_tot {g : List PNode} {root level : Int} (hv : ValidG g root) : ∀ (u r : Nat), r ≤ 12 → ∀ at2 : Nat, at2 < g.length → ((nd g (at2 : Int)).1 = 2 → rk g (at2 : Int) ≤ r) → SaveOk g root level u 0 (GG r) (at2 : Int) := by
  have hk : Kidly g := fun n hn => (hv.node n hn).kidly
  have hg := hv.most
  intro u
  induction u using Nat.strongRecOn with
  | _ u ihu =>
  intro r
  induction r using Nat.strongRecOn with
  | _ r ihr =>
  intro hr12 at2 ha hrk ops memo hm hu hb
  have hG := GG_le r
  have hG12 := GG_12
  have hin : 0 ≤ (at2 : Int) ∧ (at2 : Int) < (g.length : Int) := by omega
  have hnode := hv.node _ (nd_mem hin.1 hin.2)
  refine tot_s_save ?_
  unfold B_s_save
  simp only [tot_chk]
  refine ⟨inb_iff.2 (by omega), inb_iff.2 (by omega), ?_⟩
  have hrd : rdx (0 : Int) memo (at2 : Int) = memo.getD at2 0 := by rw [rdx_eq, Int.toNat_natCast]
  have hndd : rdx ((0 : Int), ((0 : Int), ([] : List Int))) g (at2 : Int) = nd g (at2 : Int) := rfl
  rw [hrd, hndd]
  rw [tot_cond]
  refine ⟨fun _ => ?_, fun hneg => ?_⟩
  · rw [tot_chk]
    refine ⟨inb_iff.2 (by omega), (emit_tot (by simp only [List.length_cons, List.length_nil]; omega)).bind ?_⟩
    rintro _ rfl
    rw [tot_some]
    exact ⟨_, memo, rfl, hm, Nat.le_refl _, by simp only [List.length_append, List.length_cons, List.length_nil]; omega⟩
  have hneg : memo.getD at2 0 < 0 := by simpa using hneg
  -- it gets into the memo
  have mem : ∀ (o : List (Int × Int)), o.length ≤ 520000000000 → (nd g (at2 : Int)).1 ≠ 2 → Tot (fun σ => F_s_memoed (σ 0) o memo at2) (fun r => ∃ n : Int, r = ((o ++ [(15, n)], memo.set at2 n, ()), ()) ∧ un g (memo.set at2 n) < un g memo ∧ (memo.set at2 n).length = g.length) := by
    intro o ho h2
    refine (memoed_tot (by omega) (by omega) (by omega)).mono ?_
    rintro _ ⟨n, hn, rfl⟩
    exact ⟨n, rfl, un_set' (by omega) ha hn h2 hneg, by simp [hm]⟩
  -- all kids, when it is there
  have kids12 : ∀ u1, u1 < u → ∀ x ∈ (nd g (at2 : Int)).2.2, SaveOk g root level u1 0 (GG 12) x := by
    intro u1 hu1 x hx
    have hx' := hnode.2.1 x hx
    obtain ⟨m, rfl⟩ := Int.eq_ofNat_of_zero_le hx'.1
    exact ihu u1 hu1 12 (Nat.le_refl _) m (by omega) (fun _ => Nat.le_trans (rk_le g _) hg)
  rw [tot_cond]
  simp only [beq_iff_eq, beq_eq_false_iff_ne, ne_eq]
  refine ⟨fun h0 => ?_, fun h0 => ?_⟩
  · refine (emit_tot (by simp only [List.length_cons, List.length_nil]; omega)).bind ?_
    rintro _ rfl
    rw [tot_some]
    exact ⟨_, memo, rfl, hm, Nat.le_refl _, by simp only [List.length_append, List.length_cons, List.length_nil]; omega⟩
  rw [tot_cond]
  simp only [beq_iff_eq, beq_eq_false_iff_ne, ne_eq]
  refine ⟨fun h1 => ?_, fun h1 => ?_⟩
  · refine (emit_tot (by simp only [List.length_cons, List.length_nil]; omega)).bind ?_
    rintro _ rfl
    refine (mem _ (by simp only [List.length_append, List.length_cons, List.length_nil]; omega) (by omega)).bind ?_
    rintro _ ⟨n, rfl, k1, k2⟩
    rw [tot_some]
    exact ⟨_, memo.set at2 n, rfl, k2, by omega, by simp only [List.length_append, List.length_cons, List.length_nil]; omega⟩
  rw [tot_cond]
  simp only [beq_iff_eq, beq_eq_false_iff_ne, ne_eq]
  refine ⟨fun h2 => ?_, fun h2 => ?_⟩
  · have hrk := hrk h2
    refine (saveTuple_tot (u := u) (r := r) hg ha hnode.1 (fun hne => ?_) hm hu hb).bind ?_
    · obtain ⟨x, hx⟩ := List.exists_mem_of_ne_nil _ hne
      have hpos := rk_pos hv hin hx
      refine ⟨r - 1, by omega, fun y hy => ?_⟩
      have hy' := hnode.2.1 y hy
      obtain ⟨m, rfl⟩ := Int.eq_ofNat_of_zero_le hy'.1
      exact ihr (r - 1) (by omega) (by omega) m (by omega) (fun hk2 => by have := rk_lt hv hin hy hk2; omega)
    · rintro _ ⟨o, m, rfl, k1, k2, k3⟩
      rw [tot_some]
      exact ⟨o, m, rfl, k1, k2, k3⟩
  -- a list, a dictionary, an object
  have filled : ∀ (o : List (Int × Int)) (n each one all : Int), o.length ≤ ops.length + 2 → un g (memo.set at2 n) < un g memo → (memo.set at2 n).length = g.length → (each = 1 ∨ each = 2 ∧ (nd g (at2 : Int)).2.2.length % 2 = 0) →
      Tot (fun σ => (F_s_fill (σ 0) g root level (nd g (at2 : Int)).2.2 each one all o (memo.set at2 n)).bind fun r84 => some ((r84.1.1, r84.1.2.1, ()), ())) (Wr g ops memo (GG r)) := by
    intro o n each one all ho k1 k2 he
    refine (fill_tot (u := u - 1) (c := GG 12) hnode.1 (kids12 (u - 1) (by omega)) he k2 (by omega) (by omega)).bind ?_
    rintro _ ⟨o2, m2, rfl, q1, q2, q3⟩
    rw [tot_some]
    exact ⟨o2, m2, rfl, q1, by omega, by omega⟩
  rw [tot_cond]
  simp only [beq_iff_eq, beq_eq_false_iff_ne, ne_eq]
  refine ⟨fun h3 => ?_, fun h3 => ?_⟩
  · refine (emit_tot (by simp only [List.length_cons, List.length_nil]; omega)).bind ?_
    rintro _ rfl
    refine (mem _ (by simp only [List.length_append, List.length_cons, List.length_nil]; omega) h2).bind ?_
    rintro _ ⟨n, rfl, k1, k2⟩
    exact filled _ n 1 8 9 (by simp) k1 k2 (.inl rfl)
  rw [tot_cond]
  simp only [beq_iff_eq, beq_eq_false_iff_ne, ne_eq]
  refine ⟨fun h4 => ?_, fun h4 => ?_⟩
  · have hd : (nd g (at2 : Int)).2.2.length % 2 = 0 := by
      have := hnode.2.2
      rw [if_neg h0, if_neg h1, if_neg (by simp [h2, h3]), if_pos h4] at this
      exact this.2.2
    refine (emit_tot (by simp only [List.length_cons, List.length_nil]; omega)).bind ?_
    rintro _ rfl
    refine (mem _ (by simp only [List.length_append, List.length_cons, List.length_nil]; omega) h2).bind ?_
    rintro _ ⟨n, rfl, k1, k2⟩
    exact filled _ n 2 11 12 (by simp) k1 k2 (.inr ⟨rfl, hd⟩)
  · refine (emit_tot (by simp only [List.length_cons, List.length_nil]; omega)).bind ?_
    rintro _ rfl
    refine (mem _ (by simp only [List.length_append, List.length_cons, List.length_nil]; omega) h2).bind ?_
    rintro _ ⟨n, rfl, k1, k2⟩
    have hkc : (nd g (at2 : Int)).2.2.length * GG 12 ≤ 6 * GG 12 := Nat.mul_le_mul_right _ hnode.1
    refine (saveAll_tot (u := u - 1) hnode.1 (kids12 (u - 1) (by omega)) k2 (by omega) (by simp only [List.length_append, List.length_cons, List.length_nil]; omega)).bind ?_
    rintro _ ⟨o2, m2, rfl, q1, q2, q3⟩
    simp only [List.length_append, List.length_cons, List.length_nil] at q3
    unfold B_s_save_J0
    rw [tot_cond]
    refine ⟨fun _ => ?_, fun _ => ?_⟩
    · refine (emit_tot (by simp only [List.length_cons, List.length_nil]; omega)).bind ?_
      rintro _ rfl
      rw [tot_jn, tot_some]
      exact ⟨_, m2, rfl, q1, by omega, by simp only [List.length_append, List.length_cons, List.length_nil]; omega⟩
    · rw [tot_jn, tot_some]
      exact ⟨o2, m2, rfl, q1, by omega, by omega⟩
theorem emptyMemo_tot {g : List PNode} {root : Int} (hg : g.length ≤ 1000) : Tot (fun σ => F_Z38 (σ 0) g root) (fun r => r = ((List.replicate g.length (-1), ()), ())) := by
  refine tot_Z38 ?_
  unfold B_Z38
  have key := loop_Z38_L0 (Q := fun _ _ _ _ r => r = ((List.replicate g.length (-1), ()), ())) (I := fun g' _ o i => g' = g ∧ ∃ j : Nat, i = j ∧ j ≤ g.length ∧ o = List.replicate j (-1)) (μ := fun _ _ _ i => (g.length - i).toNat) ?_
  · exact key g root [] 0 ⟨rfl, 0, rfl, by omega, rfl⟩
  intro g' r' o i ⟨e1, j, e2, hj, e3⟩ again hag ih
  subst e1 e2 e3
  unfold B_Z38_L0b
  simp only [tot_cond, tot_chk, tot_some, decide_eq_true_eq, decide_eq_false_iff_not, len, room_iff, List.length_replicate, List.length_cons, List.length_nil]
  refine ⟨fun hlt => ⟨by omega, ?_⟩, fun hge => ?_⟩
  · rw [w64_succ (by omega) (by omega)]
    exact ih _ _ _ _ ⟨rfl, j + 1, rfl, by omega, by rw [List.replicate_succ']⟩ (by simp; omega)
  · have : j = g'.length := by omega
    rw [this]
theorem written_tot {g : List PNode} {root : Int} (hv : ValidG g root) (level : Int) : Tot (fun σ => F_Z58 (σ 0) g root level) (fun r => ∃ ops : List (Int × Int), r = ((ops, ()), ()) ∧ ops.length ≤ 500000000000) := by
  have hg := hv.most
  refine tot_Z58 ?_
  unfold B_Z58
  refine (emptyMemo_tot (by omega)).bind ?_
  rintro _ rfl
  obtain ⟨m, hm⟩ := Int.eq_ofNat_of_zero_le hv.root.1
  have hroot := hv.root
  subst hm
  have hun := un_le g (List.replicate g.length (-1))
  have hG := GG_12
  refine (save_tot hv g.length 12 (Nat.le_refl _) m (by omega) (fun _ => Nat.le_trans (rk_le g _) hg) [] _ (by simp) hun (by simp only [List.length_nil]; omega)).bind ?_
  rintro _ ⟨o, m2, rfl, k1, k2, k3⟩
  simp only [List.length_nil] at k3
  refine (emit_tot (by simp only [List.length_cons, List.length_nil]; omega)).bind ?_
  rintro _ rfl
  rw [tot_some]
  exact ⟨_, rfl, by simp only [List.length_append, List.length_cons, List.length_nil]; omega⟩
end Go.Gx

/-
  Laws, part 13: programs and bytes that are drawn.
-/
set_option linter.unusedVariables false
set_option linter.unusedSimpArgs false
namespace Go.Gx
theorem someOps_tot {b : List Int} {p : Int} (h : RD b p) (hp : p ≤ 90000000) : Tot (fun σ => F_Z53 (σ 0) b p) (Drawn b p 2000 fun x => ∃ ops : List POp, x = (ops, ()) ∧ ops.length ≤ 500000000000) := by
  refine tot_Z53 ?_
  unfold B_Z53
  have fin : ∀ (q : Int) (o : List POp), p ≤ q → q ≤ p + 2000 → o.length ≤ 500000000000 → Drawn b p 2000 (fun x => ∃ ops : List POp, x = (ops, ()) ∧ ops.length ≤ 500000000000) ((o, ()), ((b, q, ()), ())) := fun q o h1 h2 h3 => ⟨_, q, rfl, h1, h2, o, rfl, h3⟩
  have j2 : ∀ (q : Int) (o : List POp), p ≤ q → q ≤ p + 1900 → o.length ≤ 500000000000 → Tot (fun σ => B_Z53_J2 (σ 0) (F_Z11 (σ 0)) (F_Z28 (σ 0)) (F_Z36 (σ 0)) (F_Z58 (σ 0)) (F_s_someOp (σ 0)) (F_Z15 (σ 0)) b q o) (Drawn b p 2000 fun x => ∃ ops : List POp, x = (ops, ()) ∧ ops.length ≤ 500000000000) := by
    intro q o h1 h2 h3
    have hq := h.next h1 (by omega)
    unfold B_Z53_J2
    rw [tot_cond]
    simp only [decide_eq_true_eq, decide_eq_false_iff_not, len]
    refine ⟨fun hlt => ?_, fun _ => by rw [tot_some]; exact fin q o h1 (by omega) h3⟩
    refine (pick_tot hq (by omega) (by omega)).bind ?_
    rintro _ ⟨_, q2, rfl, k1, k2, v, rfl, k3, k4⟩
    rw [tot_cond]
    refine ⟨fun _ => ?_, fun _ => ?_⟩
    · refine (one_tot (hq.next k1 (by omega)) (by omega) (by simp) (by simp)).bind ?_
      rintro _ ⟨_, q3, rfl, f1, f2, u, rfl, hu⟩
      simp only [tot_chk, tot_some, inb_iff, decide_eq_true_eq]
      exact ⟨by omega, by simp; omega, fin q3 _ (by omega) (by omega) (by simpa using h3)⟩
    · rw [tot_cond]
      refine ⟨fun _ => ?_, fun _ => by rw [tot_some]; exact fin q2 o (by omega) (by omega) h3⟩
      refine (one_tot (hq.next k1 (by omega)) (by omega) (by simp) (by simp)).bind ?_
      rintro _ ⟨_, q3, rfl, f1, f2, u, rfl, hu⟩
      have w : w64 ((o.length : Int) - 1) = (o.length : Int) - 1 := w64_id (by omega) (by omega)
      simp only [tot_chk, tot_some, inb_iff, decide_eq_true_eq, w]
      exact ⟨by omega, by omega, fin q3 _ (by omega) (by omega) (by simpa using h3)⟩
  have j1 : ∀ (q : Int) (o : List POp), p ≤ q → q ≤ p + 1800 → o.length ≤ 500000000000 → Tot (fun σ => B_Z53_J1 (σ 0) (F_Z11 (σ 0)) (F_Z28 (σ 0)) (F_Z36 (σ 0)) (F_Z58 (σ 0)) (F_s_someOp (σ 0)) (F_Z15 (σ 0)) b q o) (Drawn b p 2000 fun x => ∃ ops : List POp, x = (ops, ()) ∧ ops.length ≤ 500000000000) := by
    intro q o h1 h2 h3
    have hq := h.next h1 (by omega)
    unfold B_Z53_J1
    refine (pick_tot hq (by omega) (by omega)).bind ?_
    rintro _ ⟨_, q2, rfl, k1, k2, v, rfl, k3, k4⟩
    rw [tot_cond]
    refine ⟨fun _ => ?_, fun _ => by rw [tot_jn]; exact j2 q2 o (by omega) (by omega) h3⟩
    have w : w64 (len o + 1) = (o.length : Int) + 1 := by rw [w64_id] <;> simp only [len] <;> omega
    rw [w]
    refine (pick_tot (hq.next k1 (by omega)) (by omega) (by omega)).bind ?_
    rintro _ ⟨_, q3, rfl, f1, f2, u, rfl, f3, f4⟩
    have f4 := f4 (by omega)
    rw [tot_chk]
    refine ⟨cutb_iff.2 ⟨Int.le_refl _, f3, by show u ≤ (o.length : Int); omega⟩, ?_⟩
    rw [tot_jn]
    exact j2 q3 (o.take u.toNat) (by omega) (by omega) (by simp only [List.length_take]; omega)
  refine (pick_tot h (by omega) (by omega)).bind ?_
  rintro _ ⟨_, q, rfl, h1, h2, v, rfl, h3, h4⟩
  have hq := h.next h1 (by omega)
  rw [tot_cond]
  refine ⟨fun _ => ?_, fun _ => ?_⟩
  · refine (likelyOps_tot hq (by omega)).bind ?_
    rintro _ ⟨_, q2, rfl, k1, k2, o, rfl, ho, _⟩
    rw [tot_jn]
    exact j2 q2 o (by omega) (by omega) (by omega)
  · refine (someGraph_tot hq (by omega)).bind ?_
    rintro _ ⟨_, q2, rfl, k1, k2, g, root, rfl, hv⟩
    have hq2 := hq.next k1 (by omega)
    refine (pick_tot hq2 (by omega) (by omega)).bind ?_
    rintro _ ⟨_, q3, rfl, f1, f2, u, rfl, f3, f4⟩
    have hq3 := hq2.next f1 (by omega)
    refine (written_tot hv u).bind ?_
    rintro _ ⟨o, rfl, ho⟩
    refine (pick_tot hq3 (by omega) (by omega)).bind ?_
    rintro _ ⟨_, q4, rfl, m1, m2, u2, rfl, m3, m4⟩
    have hq4 := hq3.next m1 (by omega)
    have j0 : ∀ t : Bool, (t = true → 0 < o.length) → Tot (fun σ => B_Z53_J0 (σ 0) (F_Z11 (σ 0)) (F_Z28 (σ 0)) (F_Z36 (σ 0)) (F_Z58 (σ 0)) (F_s_someOp (σ 0)) (F_Z15 (σ 0)) b q4 o t) (Drawn b p 2000 fun x => ∃ ops : List POp, x = (ops, ()) ∧ ops.length ≤ 500000000000) := by
      intro t ht
      unfold B_Z53_J0
      rw [tot_cond]
      refine ⟨fun hb => ?_, fun _ => by rw [tot_jn]; exact j1 q4 o (by omega) (by omega) ho⟩
      have hpos := ht hb
      refine (pick_tot hq4 (by omega) (by simp only [len]; omega)).bind ?_
      rintro _ ⟨_, q5, rfl, n1, n2, w, rfl, n3, n4⟩
      have n4 := n4 (by simp only [len]; omega)
      simp only [len] at n4
      refine (someOp_tot (hq4.next n1 (by omega)) (by omega)).bind ?_
      rintro _ ⟨_, q6, rfl, l1, l2, c, a, rfl, _⟩
      simp only [tot_chk, inb_iff, decide_eq_true_eq]
      refine ⟨by omega, by omega, ?_⟩
      rw [tot_jn]
      exact j1 q6 _ (by omega) (by omega) (by simpa using ho)
    rw [tot_cond]
    refine ⟨fun _ => ?_, fun _ => ?_⟩
    · rw [tot_jn]; exact j0 _ (fun h => by simp only [decide_eq_true_eq, len] at h; omega)
    · rw [tot_jn]; exact j0 false (fun h => absurd h (by decide))
end Go.Gx

/-
  Laws, part 17: programs of several roots that are drawn.
-/
set_option linter.unusedVariables false
set_option linter.unusedSimpArgs false
namespace Go.Gx
/-- A graph that need not be valid: small all the same. -/
structure SmallG (g : List PNode) : Prop where
  pos : 1 ≤ g.length
  most : g.length ≤ 12
  kids : ∀ n ∈ g, n.2.2.length ≤ 1000
theorem ValidG.small {g : List PNode} {root : Int} (h : ValidG g root) : SmallG g := ⟨h.pos, h.most, fun n hn => by have := (h.node n hn).1; omega⟩
theorem anyGraph_tot {b : List Int} {p : Int} (h : RD b p) (hp : p ≤ 600000000) : Tot (fun σ => F_Z39 (σ 0) b p) (Drawn b p 500 fun x => ∃ (g : List PNode) (root : Int), x = ((g, root, ()), ()) ∧ SmallG g) := by
  refine tot_Z39 ?_
  unfold B_Z39
  refine (someGraph_tot h (by omega)).bind ?_
  rintro _ ⟨_, q, rfl, h1, h2, g, root, rfl, hv⟩
  have hq := h.next h1 (by omega)
  have hpos := hv.pos; have hmost := hv.most
  simp only [len]
  refine (pick_tot hq (by omega) (by omega)).bind ?_
  rintro _ ⟨_, q2, rfl, f1, f2, k, rfl, f3, f4⟩
  have f4 := f4 (by omega)
  obtain ⟨i, rfl⟩ := Int.eq_ofNat_of_zero_le f3
  have hil : i < g.length := by omega
  have hq2 := hq.next f1 (by omega)
  refine (pick_tot hq2 (by omega) (by omega)).bind ?_
  rintro _ ⟨_, q3, rfl, k1, k2, v, rfl, _⟩
  have hq3 := hq2.next k1 (by omega)
  have hkn := (hv.node _ (getD_mem (xs := g) (d := ((0 : Int), ((0 : Int), ([] : List Int)))) hil)).1
  have fin : ∀ (q4 : Int) (g2 : List PNode) (r2 : Int), q3 ≤ q4 → q4 ≤ q3 + 1 → SmallG g2 → Tot (fun σ => B_Z39_J0 (σ 0) (F_Z36 (σ 0)) (F_Z11 (σ 0)) (F_Z15 (σ 0)) b q4 0 g2 r2) (Drawn b p 500 fun x => ∃ (g : List PNode) (root : Int), x = ((g, root, ()), ()) ∧ SmallG g) := by
    intro q4 g2 r2 m1 m2 hs
    unfold B_Z39_J0
    rw [tot_some]
    exact ⟨_, q4, rfl, by omega, by omega, g2, r2, rfl, hs⟩
  have hset : ∀ n : PNode, n.2.2.length ≤ 1000 → SmallG (g.set i n) := fun n hn => ⟨by rw [List.length_set]; exact hpos, by rw [List.length_set]; exact hmost, fun m hm => by
    rcases List.mem_or_eq_of_mem_set hm with hm | rfl
    · exact hv.small.kids m hm
    · exact hn⟩
  simp only [tot_cond]
  refine ⟨fun _ => ?_, fun _ => ⟨fun _ => ?_, fun _ => ⟨fun _ => ?_, fun _ => ⟨fun _ => ?_, fun _ => ?_⟩⟩⟩⟩
  · simp only [tot_chk, inb_iff, decide_eq_true_eq, Int.toNat_natCast]
    refine ⟨by omega, hil, (one_tot hq3 (by omega) (by simp) (by simp)).bind ?_⟩
    rintro _ ⟨_, q4, rfl, m1, m2, u, rfl, _⟩
    simp only [tot_chk, tot_jn, inb_iff, decide_eq_true_eq, Int.toNat_natCast, room_iff, List.length_cons, List.length_nil]
    refine ⟨by omega, by omega, trivial, fin q4 _ _ m1 (by omega) (hset _ ?_)⟩
    simp only [List.length_append, List.length_cons, List.length_nil]; omega
  · refine (one_tot hq3 (by omega) (by simp) (by simp)).bind ?_
    rintro _ ⟨_, q4, rfl, m1, m2, u, rfl, _⟩
    simp only [tot_chk, tot_jn, inb_iff, decide_eq_true_eq, Int.toNat_natCast]
    exact ⟨by omega, hil, fin q4 _ _ m1 (by omega) (hset _ (by simp only; omega))⟩
  · simp only [tot_chk, tot_jn, inb_iff, decide_eq_true_eq, Int.toNat_natCast]
    exact ⟨by omega, hil, fin q3 _ _ (by omega) (by omega) (hset _ (by simp))⟩
  · refine (one_tot hq3 (by omega) (by simp) (by simp)).bind ?_
    rintro _ ⟨_, q4, rfl, m1, m2, u, rfl, _⟩
    rw [tot_jn]
    exact fin q4 _ _ m1 (by omega) hv.small
  · rw [tot_jn]
    exact fin q3 _ _ (by omega) (by omega) hv.small
theorem rootsOf_tot {b : List Int} {p : Int} (h : RD b p) (hp : p ≤ 500000000) : Tot (fun σ => F_Z61 (σ 0) b p) (Drawn b p 600 fun x => ∃ (g : List PNode) (root : Int) (rs : List Int), x = ((g, root, ()), rs, ()) ∧ SmallG g ∧ rs.length ≤ 5) := by
  refine tot_Z61 ?_
  unfold B_Z61
  refine (anyGraph_tot h (by omega)).bind ?_
  rintro _ ⟨_, q, rfl, h1, h2, g, root, rfl, hs⟩
  have hq := h.next h1 (by omega)
  have hpos := hs.pos; have hmost := hs.most
  refine (one_tot hq (by omega) (by simp) (by simp)).bind ?_
  rintro _ ⟨_, q1, rfl, g1, g2, n, rfl, hnm⟩
  have hnn : 0 ≤ n ∧ n ≤ 5 := by
    simp only [List.mem_cons, List.not_mem_nil, or_false] at hnm
    omega
  have key := loop_Z61_L0 (Q := fun _ _ _ _ _ _ _ r => Drawn b p 600 (fun x => ∃ (g : List PNode) (root : Int) (rs : List Int), x = ((g, root, ()), rs, ()) ∧ SmallG g ∧ rs.length ≤ 5) r)
    (I := fun b' q' t g' r' o m => b' = b ∧ g' = g ∧ r' = root ∧ p ≤ q' ∧ q' + m ≤ p + 510 ∧ 0 ≤ m ∧ (o.length : Int) + m ≤ 5) (μ := fun _ _ _ _ _ _ m => m.toNat) ?_
  · exact key b q1 0 g root [] n ⟨rfl, rfl, rfl, by omega, by omega, hnn.1, by simp; omega⟩
  rintro b q' t g root o m ⟨rfl, rfl, rfl, a1, a2, a3, a4⟩ again hag ih
  have hr := h.next a1 (by omega)
  unfold B_Z61_L0b
  rw [tot_cond]
  simp only [decide_eq_true_eq, decide_eq_false_iff_not, len]
  refine ⟨fun hm => ?_, fun hm => ?_⟩
  · refine (pick_tot hr (by omega) (by omega)).bind ?_
    rintro _ ⟨_, q2, rfl, f1, f2, v, rfl, _⟩
    rw [tot_chk]
    refine ⟨room_iff.2 (by simp only [List.length_cons, List.length_nil]; omega), ?_⟩
    rw [show w64 (m - 1) = m - 1 from w64_id (by omega) (by omega)]
    exact ih b q2 t g root (o ++ [v]) (m - 1) ⟨rfl, rfl, rfl, by omega, by omega, by omega, by simp only [List.length_append, List.length_cons, List.length_nil]; omega⟩ (by omega)
  · have fin : ∀ (q4 : Int) (rs : List Int), p ≤ q4 → q4 ≤ p + 600 → rs.length ≤ 5 → Tot (fun σ => B_Z61_J2 (σ 0) (F_Z39 (σ 0)) (F_Z15 (σ 0)) (F_Z11 (σ 0)) b q4 t g root rs) (Drawn b p 600 fun x => ∃ (g : List PNode) (root : Int) (rs : List Int), x = ((g, root, ()), rs, ()) ∧ SmallG g ∧ rs.length ≤ 5) := by
      intro q4 rs m1 m2 m3
      unfold B_Z61_J2
      rw [tot_some]
      exact ⟨_, q4, rfl, m1, m2, g, root, rs, rfl, hs, m3⟩
    have hol : o.length ≤ 5 := by omega
    rw [tot_cond]
    simp only [decide_eq_true_eq, decide_eq_false_iff_not]
    refine ⟨fun hlt => ?_, fun _ => ?_⟩
    · refine (pick_tot hr (by omega) (by omega)).bind ?_
      rintro _ ⟨_, q2, rfl, f1, f2, v, rfl, _⟩
      rw [tot_jn]
      unfold B_Z61_J1
      rw [tot_cond]
      refine ⟨fun _ => ?_, fun _ => by rw [tot_jn]; exact fin q2 o (by omega) (by omega) hol⟩
      refine (one_tot (hr.next f1 (by omega)) (by omega) (by simp) (by simp)).bind ?_
      rintro _ ⟨_, q3, rfl, m1, m2, u, rfl, _⟩
      simp only [tot_chk, tot_jn, inb_iff, decide_eq_true_eq]
      exact ⟨by omega, by simp; omega, fin q3 _ (by omega) (by omega) (by rw [List.length_set]; exact hol)⟩
    · rw [tot_jn]
      unfold B_Z61_J1
      rw [tot_cond]
      exact ⟨fun h0 => Bool.noConfusion h0, fun _ => by rw [tot_jn]; exact fin q' o (by omega) (by omega) hol⟩
theorem validRoots_tot {g : List PNode} {root : Int} {rs : List Int} (hs : SmallG g) (hl : rs.length ≤ 5) : Tot (fun σ => F_Z16 (σ 0) g root rs) (Says (ValidG g root ∧ ∀ x ∈ rs, 0 ≤ x ∧ x ≤ (g.length : Int) - 1)) := by
  have hmost := hs.most
  refine tot_Z16 ?_
  unfold B_Z16
  refine (validGraph_tot (by omega) (fun n hn => by have := hs.kids n hn; omega)).bind ?_
  rintro _ ⟨t, rfl, ht⟩
  rw [tot_cond]
  refine ⟨fun h1 => ?_, fun h1 => ?_⟩
  · simp only [len]
    rw [tot_cond]
    refine ⟨fun _ => ?_, fun h2 => by have := of_decide_eq_false h2; omega⟩
    rw [show w64 ((g.length : Int) - 1) = (g.length : Int) - 1 from w64_id (by omega) (by omega)]
    refine (allIn_tot (by omega) _ _).bind ?_
    rintro _ ⟨t2, rfl, ht2⟩
    rw [tot_some]
    exact ⟨t2, rfl, fun h => ⟨ht.1 h1, ht2.1 h⟩, fun h => ht2.2 h.2⟩
  · rw [tot_some]
    exact says_false fun h => by rw [ht.2 h.1] at h1; cases h1
theorem writtenMany_tot {g : List PNode} {root : Int} {rs : List Int} (hv : ValidG g root) (hl : rs.length ≤ 5) (hr : ∀ x ∈ rs, 0 ≤ x ∧ x ≤ (g.length : Int) - 1) (level : Int) :
    Tot (fun σ => F_Z9 (σ 0) g root rs level) (fun r => ∃ ops : List POp, r = ((ops, ()), ()) ∧ ops.length ≤ 500000000000) := by
  have hg := hv.most
  refine tot_Z9 ?_
  unfold B_Z9
  refine (emptyMemo_tot (by omega)).bind ?_
  rintro _ rfl
  have hun := un_le g (List.replicate g.length (-1))
  have hG := GG_12
  have key := loop_Z9_L0 (Q := fun _ _ _ _ _ _ _ r => ∃ ops : List POp, r = ((ops, ()), ()) ∧ ops.length ≤ 500000000000)
    (I := fun rs' l' g' r' o m i => rs' = rs ∧ l' = level ∧ g' = g ∧ r' = root ∧ ∃ j : Nat, i = (j : Int) ∧ j ≤ rs.length ∧ m.length = g.length ∧ un g m ≤ g.length ∧ o.length + 33957804446 * un g m ≤ 6000000000 * j + 33957804446 * 12) (μ := fun _ _ _ _ _ _ i => (rs.length - i).toNat) ?_
  · exact key rs level g root [] _ 0 ⟨rfl, rfl, rfl, rfl, 0, rfl, Nat.zero_le _, by simp, hun, by simp only [List.length_nil]; omega⟩
  rintro rs level g root o m _ ⟨rfl, rfl, rfl, rfl, j, rfl, hj, hm, hu, hb⟩ again hag ih
  unfold B_Z9_L0b
  have hrd : rdx (0 : Int) rs (j : Int) = rs.getD j 0 := by rw [rdx_eq, Int.toNat_natCast]
  rw [hrd, tot_cond]
  simp only [decide_eq_true_eq, decide_eq_false_iff_not, len]
  refine ⟨fun hlt => ?_, fun hge => ?_⟩
  · have hjl : j < rs.length := by omega
    rw [tot_chk]
    refine ⟨inb_iff.2 (by omega), ?_⟩
    have hx := hr _ (getD_mem (xs := rs) (d := 0) hjl)
    obtain ⟨a, ha⟩ := Int.eq_ofNat_of_zero_le hx.1
    rw [ha] at hx ⊢
    refine (save_tot hv g.length 12 (Nat.le_refl _) a (by omega) (fun _ => Nat.le_trans (rk_le g _) hg) o _ hm hu (by omega)).bind ?_
    rintro _ ⟨o2, m2, rfl, k1, k2, k3⟩
    refine (emit_tot (by simp only [List.length_cons, List.length_nil]; omega)).bind ?_
    rintro _ rfl
    rw [w64_succ (by omega) (by omega)]
    exact ih rs level g root (o2 ++ [(19, 0)]) m2 _ ⟨rfl, rfl, rfl, rfl, j + 1, rfl, hjl, k1, by omega, by simp only [List.length_append, List.length_cons, List.length_nil]; omega⟩ (by simp; omega)
  · rw [tot_some]
    exact ⟨o, rfl, by omega⟩
theorem manyOps_tot {b : List Int} {p : Int} (h : RD b p) (hp : p ≤ 80000000) : Tot (fun σ => F_Z50 (σ 0) b p) (Drawn b p 4000 fun x => ∃ ops : List POp, x = (ops, ()) ∧ ops.length ≤ 500000000000) := by
  refine tot_Z50 ?_
  unfold B_Z50
  refine (rootsOf_tot h (by omega)).bind ?_
  rintro _ ⟨_, q, rfl, h1, h2, g, root, rs, rfl, hs, hl⟩
  have hq := h.next h1 (by omega)
  refine (validRoots_tot hs hl).bind ?_
  rintro _ ⟨t, rfl, ht⟩
  have fin : ∀ (q4 : Int) (o : List POp), p ≤ q4 → q4 ≤ p + 4000 → o.length ≤ 500000000000 → Drawn b p 4000 (fun x => ∃ ops : List POp, x = (ops, ()) ∧ ops.length ≤ 500000000000) ((o, ()), ((b, q4, ()), ())) := fun q4 o m1 m2 m3 => ⟨_, q4, rfl, m1, m2, o, rfl, m3⟩
  have j3 : ∀ (q4 : Int) (o : List POp) (t : Bool), (t = true → 0 < o.length) → p ≤ q4 → q4 ≤ p + 3900 → o.length ≤ 500000000000 → Tot (fun σ => B_Z50_J3 (σ 0) (F_Z61 (σ 0)) (F_Z16 (σ 0)) (F_Z11 (σ 0)) (F_Z53 (σ 0)) (F_Z9 (σ 0)) (F_s_someOp (σ 0)) b q4 o t) (Drawn b p 4000 fun x => ∃ ops : List POp, x = (ops, ()) ∧ ops.length ≤ 500000000000) := by
    intro q4 o t ht m1 m2 m3
    have hr := h.next m1 (by omega)
    unfold B_Z50_J3
    rw [tot_cond]
    refine ⟨fun h0 => ?_, fun _ => by rw [tot_some]; exact fin q4 o m1 (by omega) m3⟩
    have hpos := ht h0
    simp only [len]
    refine (pick_tot hr (by omega) (by omega)).bind ?_
    rintro _ ⟨_, q5, rfl, f1, f2, v, rfl, f3, f4⟩
    have f4 := f4 (by omega)
    refine (someOp_tot (hr.next f1 (by omega)) (by omega)).bind ?_
    rintro _ ⟨_, q6, rfl, e1, e2, c, a, rfl, _⟩
    simp only [tot_chk, tot_some, inb_iff, decide_eq_true_eq]
    exact ⟨by omega, by omega, fin q6 _ (by omega) (by omega) (by rw [List.length_set]; exact m3)⟩
  have j2 : ∀ (q4 : Int) (o : List POp), p ≤ q4 → q4 ≤ p + 3800 → o.length ≤ 500000000000 → Tot (fun σ => B_Z50_J2 (σ 0) (F_Z61 (σ 0)) (F_Z16 (σ 0)) (F_Z11 (σ 0)) (F_Z53 (σ 0)) (F_Z9 (σ 0)) (F_s_someOp (σ 0)) b q4 o) (Drawn b p 4000 fun x => ∃ ops : List POp, x = (ops, ()) ∧ ops.length ≤ 500000000000) := by
    intro q4 o m1 m2 m3
    have hr := h.next m1 (by omega)
    unfold B_Z50_J2
    rw [tot_cond]
    simp only [decide_eq_true_eq, decide_eq_false_iff_not, len]
    refine ⟨fun hlt => ?_, fun _ => by rw [tot_jn]; exact j3 q4 o false (fun h => by cases h) m1 (by omega) m3⟩
    refine (pick_tot hr (by omega) (by omega)).bind ?_
    rintro _ ⟨_, q5, rfl, f1, f2, v, rfl, f3, f4⟩
    rw [tot_jn]
    exact j3 q5 o _ (fun _ => by omega) (by omega) (by omega) m3
  have j1 : ∀ (q4 : Int) (o : List POp) (t : Bool), (t = true → 0 < o.length) → p ≤ q4 → q4 ≤ p + 3700 → o.length ≤ 500000000000 → Tot (fun σ => B_Z50_J1 (σ 0) (F_Z61 (σ 0)) (F_Z16 (σ 0)) (F_Z11 (σ 0)) (F_Z53 (σ 0)) (F_Z9 (σ 0)) (F_s_someOp (σ 0)) b q4 o t) (Drawn b p 4000 fun x => ∃ ops : List POp, x = (ops, ()) ∧ ops.length ≤ 500000000000) := by
    intro q4 o t ht m1 m2 m3
    have hr := h.next m1 (by omega)
    unfold B_Z50_J1
    rw [tot_cond]
    refine ⟨fun h0 => ?_, fun _ => by rw [tot_jn]; exact j2 q4 o m1 (by omega) m3⟩
    have hpos := ht h0
    simp only [len]
    refine (pick_tot hr (by omega) (by omega)).bind ?_
    rintro _ ⟨_, q5, rfl, f1, f2, v, rfl, f3, f4⟩
    have f4 := f4 (by omega)
    simp only [tot_chk, cutb_iff, tot_jn]
    refine ⟨⟨by omega, by omega, by omega⟩, ?_⟩
    exact j2 q5 _ (by omega) (by omega) (by rw [List.length_take]; omega)
  have j0 : ∀ (q4 : Int) (t : Bool), (t = false → ValidG g root ∧ ∀ x ∈ rs, 0 ≤ x ∧ x ≤ (g.length : Int) - 1) → p ≤ q4 → q4 ≤ p + 1000 → Tot (fun σ => B_Z50_J0 (σ 0) (F_Z61 (σ 0)) (F_Z16 (σ 0)) (F_Z11 (σ 0)) (F_Z53 (σ 0)) (F_Z9 (σ 0)) (F_s_someOp (σ 0)) b q4 g root rs t) (Drawn b p 4000 fun x => ∃ ops : List POp, x = (ops, ()) ∧ ops.length ≤ 500000000000) := by
    intro q4 t ht m1 m2
    have hr := h.next m1 (by omega)
    unfold B_Z50_J0
    rw [tot_cond]
    refine ⟨fun _ => ?_, fun h0 => ?_⟩
    · refine (someOps_tot hr (by omega)).bind ?_
      rintro _ ⟨_, q5, rfl, f1, f2, ops, rfl, hol⟩
      rw [tot_some]
      exact fin q5 ops (by omega) (by omega) hol
    · obtain ⟨hv, hrs⟩ := ht h0
      refine (pick_tot hr (by omega) (by omega)).bind ?_
      rintro _ ⟨_, q5, rfl, f1, f2, v, rfl, f3, f4⟩
      refine (writtenMany_tot hv hl hrs v).bind ?_
      rintro _ ⟨ops, rfl, hol⟩
      rw [tot_cond]
      simp only [decide_eq_true_eq, decide_eq_false_iff_not, len]
      refine ⟨fun hlt => ?_, fun _ => by rw [tot_jn]; exact j1 q5 ops false (fun h => by cases h) (by omega) (by omega) hol⟩
      refine (pick_tot (hr.next f1 (by omega)) (by omega) (by omega)).bind ?_
      rintro _ ⟨_, q6, rfl, e1, e2, v2, rfl, _⟩
      rw [tot_jn]
      exact j1 q6 ops _ (fun _ => by omega) (by omega) (by omega) hol
  rw [tot_cond]
  refine ⟨fun _ => by rw [tot_jn]; exact j0 q true (fun h => by cases h) h1 (by omega), fun h0 => ?_⟩
  have ht2 : t = true := by simpa using h0
  refine (pick_tot hq (by omega) (by omega)).bind ?_
  rintro _ ⟨_, q5, rfl, f1, f2, v, rfl, _⟩
  rw [tot_jn]
  exact j0 q5 _ (fun _ => ht.1 ht2) (by omega) (by omega)
end Go.Gx

/-
  Laws: ReadMany, both.
-/
set_option linter.unusedVariables false
set_option linter.unusedSimpArgs false
namespace Go.Gx
theorem drop_cons {ops : List POp} {j : Nat} (h : j < ops.length) : ops.drop j = ops.getD j (0, 0) :: ops.drop (j + 1) := by
  rw [List.drop_eq_getElem_cons h, List.getD_eq_getElem?_getD, List.getElem?_eq_getElem h]; rfl
/-- A round. -/
structure RI (ops : List POp) (j : Nat) (m : Mc) (acc : Rd) : Prop where
  jl : j ≤ ops.length
  mi : MI m (1000002 * j)
  nl : m.N.length ≤ 300
  sl : m.S.length ≤ 300
  ac : Acc acc j (1000002 * j)
  eq : readP ops = manyR m (ops.drop j) j acc
theorem newRI (ops : List POp) : RI ops 0 newMc rd0 := ⟨Nat.zero_le _, newMc_inv, by simp [newMc], by simp [newMc], ⟨by simp [rd0], by simp [rd0], fun n hn => by simp [rd0] at hn, by simp [rd0]⟩, rfl⟩
theorem RI.fin {ops : List POp} {j : Nat} {m : Mc} {acc : Rd} (h : RI ops j m acc) (hj : ¬ j < ops.length) : readP ops = acc := by
  have := h.eq
  rwa [List.drop_eq_nil_of_le (by omega), manyR] at this
theorem RI.bad {ops : List POp} {j : Nat} {m : Mc} {acc : Rd} (h : RI ops j m acc) (hj : j < ops.length) (hs : stepM m (ops.getD j (0, 0)).1 (ops.getD j (0, 0)).2 = none) : readP ops = acc := by
  have := h.eq
  rwa [drop_cons hj, manyR, hs] at this
theorem RI.stop {ops : List POp} (hok : okOps ops = true) {j : Nat} {m m' : Mc} {acc : Rd} (h : RI ops j m acc) (hj : j < ops.length) (hs : stepM m (ops.getD j (0, 0)).1 (ops.getD j (0, 0)).2 = some m') (hd : m'.D = true) : RI ops (j + 1) ⟨m'.N, [], m'.M, false⟩ ⟨m'.N, acc.rs ++ [m'.S.getD 0 0], j + 1⟩ := by
  have h1 := h.nl; have h2 := h.sl
  obtain ⟨i1, i2, i3⟩ := h.mi.step (by omega) (by omega) (okOps_at hok hj) hs
  have i1' : MI m' (1000002 * (j + 1)) := ⟨i1.sh, i1.ni.mono (Nat.le_refl _) (by omega)⟩
  refine ⟨hj, i1'.fresh, i2, by simp, ⟨Nat.le_refl _, i2, fun n hn => i1'.ni.ln n hn, ?_⟩, ?_⟩
  · have := h.ac.rl; simp only [List.length_append, List.length_cons, List.length_nil]; omega
  · rw [h.eq, drop_cons hj, manyR, hs]
    simp only [if_pos hd]
theorem RI.next {ops : List POp} (hok : okOps ops = true) {j : Nat} {m m' : Mc} {acc : Rd} (h : RI ops j m acc) (hj : j < ops.length) (hs : stepM m (ops.getD j (0, 0)).1 (ops.getD j (0, 0)).2 = some m') (hd : ¬ m'.D = true) : RI ops (j + 1) m' acc := by
  have h1 := h.nl; have h2 := h.sl
  obtain ⟨i1, i2, i3⟩ := h.mi.step (by omega) (by omega) (okOps_at hok hj) hs
  refine ⟨hj, ⟨i1.sh, i1.ni.mono (Nat.le_refl _) (by omega)⟩, i2, i3, h.ac.mono (by omega) (by omega), ?_⟩
  rw [h.eq, drop_cons hj, manyR, hs]
  simp only [if_neg hd]
theorem w64j {j : Nat} (h : j ≤ 300) : w64 ((j : Int) + 1) = ((j + 1 : Nat) : Int) := by rw [w64_id (by omega) (by omega)]; omega
theorem i_ReadMany_tot {ops : List POp} (hl : ops.length ≤ 900000000000) : Tot (fun σ => F_Z44 (σ 0) ops) (fun r => r = readA ops) := by
  refine tot_Z44 ?_
  unfold B_Z44 readA
  refine (i_ValidOps_tot hl).bind ?_
  rintro _ rfl
  rw [tot_cond]
  refine ⟨fun h => ?_, fun h => ?_⟩
  · rw [tot_some, if_neg (by intro hc; simp [hc] at h)]
  have hok : okOps ops = true := by simpa using h
  rw [if_pos hok]
  have h3 := (okOps_all hok).2
  refine newM_tot.bind ?_
  rintro _ rfl
  simp only [len]
  have key := loop_Z44_L1 (Q := fun _ _ _ _ _ _ _ _ _ _ _ _ r => r = ((((readP ops).N, 0, ()), (readP ops).rs, ((readP ops).e : Int), ()), ()))
    (I := fun t N S M D gN gR rs e o n i => gR = 0 ∧ o = ops ∧ n = (ops.length : Int) ∧ ∃ (j e' : Nat), i = (j : Int) ∧ e = (e' : Int) ∧ RI ops j ⟨N, S, M, D⟩ ⟨gN, rs, e'⟩) (μ := fun _ _ _ _ _ _ _ _ _ _ _ i => (ops.length - i).toNat) ?_
  · exact key 0 [] [] _ false [] 0 [] 0 ops _ 0 ⟨rfl, rfl, rfl, 0, 0, rfl, rfl, newRI ops⟩
  rintro t N S M D gN _ rs _ ops _ _ ⟨rfl, rfl, rfl, j, e', rfl, rfl, hR⟩ again hag ih
  unfold B_Z44_L1b
  have hrd : rdx ((0 : Int), (0 : Int)) ops (j : Int) = ops.getD j (0, 0) := by rw [rdx_eq, Int.toNat_natCast]
  have fin : readP ops = ⟨gN, rs, e'⟩ → Tot (fun σ => B_Z44_J2 (σ 0) (F_Z40 (σ 0)) (F_Z24 (σ 0)) (F_Z6 (σ 0)) (F_Z33 (σ 0)) t gN 0 rs (e' : Int)) (fun r => r = ((((readP ops).N, 0, ()), (readP ops).rs, ((readP ops).e : Int), ()), ())) := by
    intro he
    unfold B_Z44_J2
    rw [tot_some, he]
  rw [hrd, tot_cond]
  refine ⟨fun hlt => ?_, fun hge => by rw [tot_jn]; exact fin (hR.fin (by have := of_decide_eq_false hge; omega))⟩
  have hlt := of_decide_eq_true hlt
  have hj : j < ops.length := by omega
  rw [tot_chk]
  refine ⟨inb_iff.2 (by omega), ?_⟩
  have hnl : N.length ≤ 300 := hR.nl
  have hsl : S.length ≤ 300 := hR.sl
  refine (i_step_tot hR.mi (by omega) hnl hsl (c := (ops.getD j (0, 0)).1) (a := (ops.getD j (0, 0)).2) (okOps_at hok hj)).bind fun r ha => ?_
  cases hs : stepM ⟨N, S, M, D⟩ (ops.getD j (0, 0)).1 (ops.getD j (0, 0)).2 with
  | none =>
    rw [hs] at ha
    rw [tot_cond]
    refine ⟨fun _ => by rw [tot_jn]; exact fin (hR.bad hj hs), fun h0 => ?_⟩
    rw [ha.1] at h0; cases h0
  | some m' =>
    rw [hs] at ha
    have ha : r = ((true, ()), ((some m'.N, m'.S, m'.M, m'.D, ()), ())) := ha
    subst ha
    rw [tot_cond]
    refine ⟨fun h0 => absurd h0 (by simp), fun _ => ?_⟩
    have hnx := hR.ac.rl
    have hnx : rs.length ≤ j := hnx
    rw [tot_cond]
    refine ⟨fun hd => ?_, fun hd => ?_⟩
    · have hS1 := ((stepM_D hs).2 hd).1
      have hst := hR.stop hok hj hs hd
      have hk : ∀ n ∈ m'.N, n.2.2.length ≤ 1000002 * (j + 1) := hst.mi.ni.ln
      have hNl : m'.N.length ≤ 300 := hst.nl
      simp only [tot_chk, inb_iff, decide_eq_true_eq, room_iff, List.length_cons, List.length_nil, Option.bind_some, Int.toNat_zero]
      refine ⟨by omega, by omega, by omega, (copyNodes_tot (by omega) (fun n hn => by have := hk n hn; omega)).bind ?_⟩
      rintro _ rfl
      rw [tot_jn]
      unfold B_Z44_J0
      rw [w64j (by omega)]
      exact ih _ _ _ _ _ _ _ _ _ _ _ _ ⟨rfl, rfl, rfl, j + 1, j + 1, rfl, rfl, hst⟩ (by omega)
    · simp only [Option.bind_some, tot_jn]
      unfold B_Z44_J0
      rw [w64j (by omega)]
      exact ih _ _ _ _ _ _ _ _ _ _ _ _ ⟨rfl, rfl, rfl, j + 1, e', rfl, rfl, hR.next hok hj hs (by rw [show m'.D = false from hd]; decide)⟩ (by omega)
theorem s_ReadMany_tot {ops : List POp} (hl : ops.length ≤ 900000000000) : Tot (fun σ => F_Z47 (σ 0) ops) (fun r => r = readA ops) := by
  refine tot_Z47 ?_
  unfold B_Z47 readA
  refine (validOps_tot hl).bind ?_
  rintro _ rfl
  rw [tot_cond]
  refine ⟨fun h => ?_, fun h => ?_⟩
  · rw [tot_some, if_neg (by intro hc; simp [hc] at h)]
  have hok : okOps ops = true := by simpa using h
  rw [if_pos hok]
  have h3 := (okOps_all hok).2
  refine Tot.bind (P := fun r => ∃ m : Mc, r = ((MD m, (readP ops).rs, ((readP ops).e : Int), ()), ()) ∧ m.N = (readP ops).N ∧ MI m (1000002 * ops.length)) ?_ ?_
  · refine tot_s_many ?_
    unfold B_s_many
    refine s_newM_tot.bind ?_
    rintro _ rfl
    rw [tot_jn]
    unfold B_s_many_J0
    have key := loop_s_many_L4 (Q := fun _ _ _ _ _ _ _ _ _ _ _ _ _ r => ∃ m : Mc, r = ((MD m, (readP ops).rs, ((readP ops).e : Int), ()), ()) ∧ m.N = (readP ops).N ∧ MI m (1000002 * ops.length))
      (I := fun o t N S M D sN sS sM sD rs e i => o = ops ∧ ∃ (j e' : Nat), i = (j : Int) ∧ e = (e' : Int) ∧ RI ops j ⟨N, S, M, D⟩ ⟨sN, rs, e'⟩ ∧ MI ⟨sN, sS, sM, sD⟩ (1000002 * j)) (μ := fun _ _ _ _ _ _ _ _ _ _ _ _ i => (ops.length - i).toNat) ?_
    · exact key ops false [] [] _ false [] [] _ false [] 0 0 ⟨rfl, 0, 0, rfl, rfl, newRI ops, newMc_inv⟩
    rintro ops t N S M D sN sS sM sD rs _ _ ⟨rfl, j, e', rfl, rfl, hR, hsv⟩ again hag ih
    have hjl := hR.jl
    unfold B_s_many_L4b
    have hrd : rdx ((0 : Int), (0 : Int)) ops (j : Int) = ops.getD j (0, 0) := by rw [rdx_eq, Int.toNat_natCast]
    have fin : readP ops = ⟨sN, rs, e'⟩ → Tot (fun σ => B_s_many_J5 (σ 0) (F_Z26 (σ 0)) (F_Z10 (σ 0)) (F_s_step (σ 0)) t sN sS sM sD rs (e' : Int)) (fun r => ∃ m : Mc, r = ((MD m, (readP ops).rs, ((readP ops).e : Int), ()), ()) ∧ m.N = (readP ops).N ∧ MI m (1000002 * ops.length)) := by
      intro he
      unfold B_s_many_J5
      rw [tot_some, he]
      exact ⟨⟨sN, sS, sM, sD⟩, rfl, rfl, ⟨hsv.sh, hsv.ni.mono (Nat.le_refl _) (by omega)⟩⟩
    rw [hrd, tot_cond]
    simp only [len]
    refine ⟨fun hlt => ?_, fun hge => by rw [tot_jn]; exact fin (hR.fin (by have := of_decide_eq_false hge; omega))⟩
    have hlt := of_decide_eq_true hlt
    have hj : j < ops.length := by omega
    have hnl : N.length ≤ 300 := hR.nl
    have hsl : S.length ≤ 300 := hR.sl
    refine (s_copyM_tot hR.mi (by omega)).bind ?_
    rintro _ rfl
    rw [tot_chk]
    refine ⟨inb_iff.2 (by omega), ?_⟩
    refine (s_step_tot hR.mi (by omega) (by show N.length ≤ _; omega) (by show S.length ≤ _; omega) (c := (ops.getD j (0, 0)).1) (a := (ops.getD j (0, 0)).2) (okOps_at hok hj)).bind fun r ha => ?_
    cases hs : stepM ⟨N, S, M, D⟩ (ops.getD j (0, 0)).1 (ops.getD j (0, 0)).2 with
    | none =>
      rw [hs] at ha
      have ha : r.1.2.1 = false := ha
      rw [tot_cond]
      refine ⟨fun _ => by rw [tot_jn]; exact fin (hR.bad hj hs), fun h0 => ?_⟩
      rw [ha] at h0; cases h0
    | some m' =>
      rw [hs] at ha
      have ha : r = (((some m'.N, some m'.S, some m'.M, m'.D, ()), true, ()), ()) := ha
      subst ha
      rw [tot_cond]
      refine ⟨fun h0 => absurd h0 (by simp), fun _ => ?_⟩
      simp only [Option.bind_some, tot_jn]
      unfold B_s_many_J1
      have hnx : rs.length ≤ j := hR.ac.rl
      rw [tot_cond]
      refine ⟨fun hd => ?_, fun hd => ?_⟩
      · have hS1 := ((stepM_D hs).2 hd).1
        have hst := hR.stop hok hj hs hd
        have hrd2 : rdx (0 : Int) m'.S 0 = m'.S.getD 0 0 := rfl
        simp only [tot_chk, tot_jn, inb_iff, room_iff, List.length_cons, List.length_nil, hrd2]
        refine ⟨by omega, by omega, ?_⟩
        unfold B_s_many_J2 B_s_many_J3
        rw [tot_jn, w64j (by omega)]
        exact ih _ _ _ _ _ _ _ _ _ _ _ _ _ ⟨rfl, j + 1, j + 1, rfl, rfl, hst, hst.mi⟩ (by omega)
      · rw [tot_jn]
        unfold B_s_many_J3
        rw [w64j (by omega)]
        exact ih _ _ _ _ _ _ _ _ _ _ _ _ _ ⟨rfl, j + 1, e', rfl, rfl, hR.next hok hj hs (by rw [show m'.D = false from hd]; decide), ⟨hsv.sh, hsv.ni.mono (Nat.le_refl _) (by omega)⟩⟩ (by omega)
  · rintro _ ⟨m, rfl, hm, hI⟩
    refine (s_copyM_tot hI (by omega)).bind ?_
    rintro _ rfl
    rw [tot_some]
    show (((m.N, 0, ()), (readP ops).rs, ((readP ops).e : Int), ()), ()) = _
    rw [hm]
theorem DrawReadMany_tot {code : List Int} (hc : ∀ z ∈ code, 0 ≤ z ∧ z ≤ 255) (hl : code.length ≤ 1048576) : Tot (fun σ => F_Z8 (σ 0) code) (fun r => ∃ ops : List POp, r = ((ops, ()), ()) ∧ ops.length ≤ 500000000000) := by
  refine tot_Z8 ?_
  unfold B_Z8
  refine (newReader_tot hc hl).bind ?_
  rintro _ ⟨b, rfl, hb⟩
  refine (manyOps_tot hb (by omega)).bind ?_
  rintro _ ⟨_, q, rfl, hq1, hq2, ops, rfl, hl⟩
  rw [tot_some]
  exact ⟨ops, rfl, hl⟩
end Go.Gx

/-
  Laws: lists of numbers are compared.
-/
set_option linter.unusedVariables false
set_option linter.unusedSimpArgs false
namespace Go.Gx
theorem equalInts_tot {a b : List Int} (ha : a.length ≤ 900000000000) : Tot (fun σ => F_Z37 (σ 0) a b) (Says (a = b)) := by
  refine tot_Z37 ?_
  unfold B_Z37
  simp only [tot_cond, tot_some, len, bne_iff_ne, ne_eq, bne_eq_false_iff_eq]
  refine ⟨fun h => says_false fun e => h (by rw [e]), fun h => ?_⟩
  have hl : a.length = b.length := by omega
  have key := loop_Z37_L0 (Q := fun _ _ _ r => Says (a = b) r) (I := fun x y i => x = a ∧ y = b ∧ ∃ j : Nat, i = j ∧ j ≤ a.length ∧ ∀ q, q < j → a.getD q 0 = b.getD q 0) (μ := fun _ _ i => (a.length - i).toNat) ?_
  · exact key a b 0 ⟨rfl, rfl, 0, rfl, by omega, fun q hq => by omega⟩
  intro x y i ⟨e1, e2, j, e3, hj, hq⟩ again hag ih
  subst e1 e2 e3
  unfold B_Z37_L0b
  simp only [tot_cond, tot_chk, tot_some, decide_eq_true_eq, decide_eq_false_iff_not, len, inb_iff, bne_iff_ne, ne_eq, bne_eq_false_iff_eq]
  simp only [rdx_eq, Int.toNat_natCast]
  refine ⟨fun hlt => ⟨by omega, by omega, fun hne => says_false fun e => hne (by rw [e]), fun he => ?_⟩, fun hge => says_true (ext_getD hl fun i hi => hq i (by omega))⟩
  rw [w64_succ (by omega) (by omega)]
  refine ih _ _ _ ⟨rfl, rfl, j + 1, rfl, by omega, fun q h => ?_⟩ (by simp; omega)
  by_cases e : q = j
  · subst e; exact he
  · exact hq q (by omega)
end Go.Gx

/-
  Laws: lists of nodes are compared.
-/
set_option linter.unusedVariables false
set_option linter.unusedSimpArgs false
namespace Go.Gx
theorem equalNodes_tot {a b : List PNode} (ha : a.length ≤ 900000000000) (hk : ∀ n ∈ a, n.2.2.length ≤ 900000000000) : Tot (fun σ => F_Z20 (σ 0) a b) (Says (a = b)) := by
  refine tot_Z20 ?_
  unfold B_Z20
  simp only [tot_cond, tot_some, len, bne_iff_ne, ne_eq, bne_eq_false_iff_eq]
  refine ⟨fun h => says_false fun e => h (by rw [e]), fun h => ?_⟩
  have hl : a.length = b.length := by omega
  have key := loop_Z20_L1 (Q := fun _ _ _ r => Says (a = b) r) (I := fun x y i => x = a ∧ y = b ∧ ∃ j : Nat, i = j ∧ j ≤ a.length ∧ ∀ q, q < j → a.getD q ((0 : Int), ((0 : Int), ([] : List Int))) = b.getD q ((0 : Int), ((0 : Int), ([] : List Int)))) (μ := fun _ _ i => (a.length - i).toNat) ?_
  · exact key a b 0 ⟨rfl, rfl, 0, rfl, by omega, fun q hq => by omega⟩
  intro x y i ⟨e1, e2, j, e3, hj, hq⟩ again hag ih
  subst e1 e2 e3
  unfold B_Z20_L1b B_Z20_J0
  simp only [tot_cond, tot_chk, tot_jn, tot_some, decide_eq_true_eq, decide_eq_false_iff_not, len, inb_iff, bne_iff_ne, ne_eq, bne_eq_false_iff_eq]
  simp only [rdx_eq, Int.toNat_natCast]
  refine ⟨fun hlt => ⟨by omega, by omega, fun hne => ⟨fun _ => says_false fun e => hne (by rw [e]), fun h0 => absurd h0 (by decide)⟩, fun he1 => ⟨by omega, by omega, fun hne => ⟨fun _ => says_false fun e => hne (by rw [e]), fun h0 => absurd h0 (by decide)⟩, fun he2 => ⟨by omega, by omega, ?_⟩⟩⟩, fun hge => says_true (ext_getD hl fun i hi => hq i (by omega))⟩
  have hm : (x.getD j ((0 : Int), ((0 : Int), ([] : List Int)))) ∈ x := by rw [getD_at (by omega : j < x.length)]; exact List.getElem_mem _
  refine (equalInts_tot (hk _ hm)).bind ?_
  rintro _ ⟨c, rfl, hc⟩
  simp only [tot_jn, tot_cond, tot_some, Bool.not_eq_true', Bool.not_eq_false']
  refine ⟨fun hf => says_false fun e => ?_, fun ht => ?_⟩
  · have := hc.2 (by rw [e])
    rw [hf] at this; cases this
  · rw [w64_succ (by omega) (by omega)]
    refine ih _ _ _ ⟨rfl, rfl, j + 1, rfl, by omega, fun q h => ?_⟩ (by simp; omega)
    by_cases e : q = j
    · subst e; exact Prod.ext he1 (Prod.ext he2 (hc.1 ht))
    · exact hq q (by omega)
end Go.Gx

/-
  Laws: equal graphs.
-/
set_option linter.unusedVariables false
set_option linter.unusedSimpArgs false
namespace Go.Gx
theorem equalGraph_tot {N N' : List PNode} {r r' : Int} (ha : N.length ≤ 900000000000) (hk : ∀ n ∈ N, n.2.2.length ≤ 900000000000) : Tot (fun σ => F_Z17 (σ 0) N r N' r') (Says (N = N' ∧ r = r')) := by
  refine tot_Z17 ?_
  unfold B_Z17
  simp only [tot_cond, tot_some, beq_iff_eq, beq_eq_false_iff_ne, ne_eq]
  refine ⟨fun he => ?_, fun hne => says_false fun e => hne e.2⟩
  refine (equalNodes_tot ha hk).bind ?_
  rintro _ ⟨a, rfl, ha⟩
  rw [tot_some]
  exact ⟨_, rfl, by rw [ha]; exact ⟨fun e => ⟨e, he⟩, fun e => e.1⟩⟩
end Go.Gx

/-
  Laws, part SO0: small words.
-/
set_option linter.unusedVariables false
set_option linter.unusedSimpArgs false
namespace Go.Gx
theorem w64n_succ {j : Nat} (h2 : j ≤ 1000000) : w64 ((j : Int) + 1) = ((j + 1 : Nat) : Int) := by rw [w64_id (by omega) (by omega)]; omega
theorem w64n_add {i j : Nat} (h2 : i + j ≤ 1000000) : w64 ((i : Int) + (j : Int)) = ((i + j : Nat) : Int) := by rw [w64_id (by omega) (by omega)]; omega
end Go.Gx

/-
  The plain law of FnReadMany.
-/
set_option linter.unusedVariables false
set_option linter.unusedSimpArgs false
namespace Go.Gx
theorem readA_ok {ops : List POp} : (readA ops).1.1.1.length ≤ 300 ∧ (∀ n ∈ (readA ops).1.1.1, n.2.2.length ≤ 900000000) ∧ (readA ops).1.2.1.length ≤ 900000000 := by
  unfold readA
  split
  · rename_i h
    have h3 := (okOps_all h).2
    have ha := readP_acc h
    exact ⟨ha.nl, fun n hn => by have := ha.nk n hn; omega, by have := ha.rl; show (readP ops).rs.length ≤ _; omega⟩
  · exact ⟨by simp, fun n hn => by simp at hn, by simp⟩
end Go.Gx

/-
  The plain law of FnReadManyTorn.
-/
set_option linter.unusedVariables false
set_option linter.unusedSimpArgs false
namespace Go.Gx
theorem p_Z1 (code : List Int) (hc : ∀ z ∈ code, 0 ≤ z ∧ z ≤ 255) : ∃ k, F_Z1 k code = some ((true, ()), ()) := by
  refine Tot.ex (F := fun k => F_Z1 k code) ?_
  refine tot_Z1 ?_
  unfold B_Z1
  simp only [tot_cond, tot_some, decide_eq_true_eq, decide_eq_false_iff_not, len]
  refine ⟨fun _ => trivial, fun hl => ?_⟩
  refine (DrawReadMany_tot hc (by omega)).bind ?_
  rintro _ ⟨ops, rfl, hll⟩
  refine (i_ReadMany_tot (by simp only; omega)).bind ?_
  rintro _ rfl
  refine (s_ReadMany_tot (by simp only; omega)).bind ?_
  rintro _ rfl
  obtain ⟨b1, b2, b3⟩ := readA_ok (ops := ops)
  have eqg : Tot (fun σ => F_Z17 (σ 0) (readA ops).1.1.1 (readA ops).1.1.2.1 (readA ops).1.1.1 (readA ops).1.1.2.1) (fun r => r = ((true, ()), ())) := by
    refine (equalGraph_tot (by omega) (fun n hn => by have := b2 n hn; omega)).mono ?_
    rintro _ ⟨t, rfl, ht⟩
    rw [ht.2 ⟨rfl, rfl⟩]
  have eqi : Tot (fun σ => F_Z37 (σ 0) (readA ops).1.2.1 (readA ops).1.2.1) (fun r => r = ((true, ()), ())) := by
    refine (equalInts_tot (by omega)).mono ?_
    rintro _ ⟨t, rfl, ht⟩
    rw [ht.2 rfl]
  refine eqg.bind ?_
  rintro _ rfl
  rw [tot_cond]
  refine ⟨fun h => absurd h (by simp), fun _ => eqi.bind ?_⟩
  rintro _ rfl
  rw [tot_cond]
  refine ⟨fun h => absurd h (by simp), fun _ => ?_⟩
  rw [tot_cond]
  refine ⟨fun h => absurd h (by rw [bne_self_eq_false]; decide), fun _ => ?_⟩
  rw [tot_jn]
  unfold B_Z1_J0
  rw [tot_cond]
  refine ⟨fun h => ?_, fun h => ?_⟩
  · refine eqg.bind ?_
    rintro _ rfl
    rw [tot_cond]
    refine ⟨fun _ => eqi.bind ?_, fun h => absurd h (by simp)⟩
    rintro _ rfl
    rw [tot_cond]
    refine ⟨fun _ => by rw [tot_some, beq_self_eq_true], fun h => absurd h (by simp)⟩
  have hok : okOps ops = true := by
    unfold readA at h
    split at h
    · assumption
    · simp at h
  have h3 := (okOps_all hok).2
  have eA : readA ops = ((((readP ops).N, 0, ()), (readP ops).rs, ((readP ops).e : Int), ()), ()) := by unfold readA; rw [if_pos hok]
  have hac := readP_acc hok
  rw [eA]
  simp only
  have hrl := hac.rl
  have key := loop_Z1_L2 (Q := fun _ _ _ _ r => r = ((true, ()), ())) (I := fun o rs e k => o = ops ∧ rs = (readP ops).rs ∧ e = ((readP ops).e : Int) ∧ ∃ j : Nat, k = (j : Int) ∧ j ≤ 1000) (μ := fun _ _ _ k => (1000 - k).toNat) ?_
  · exact key ops _ _ 0 ⟨rfl, rfl, rfl, 0, rfl, by omega⟩
  rintro ops _ _ _ ⟨rfl, rfl, rfl, j, rfl, hj⟩ again hag ih
  unfold B_Z1_L2b
  simp only [len]
  rw [tot_cond]
  refine ⟨fun hle => ?_, fun _ => by rw [tot_some]⟩
  have hle := of_decide_eq_true hle
  have nx : ∀ t : Bool, t = false → Tot (fun σ => B_Z1_J1 (σ 0) (F_Z8 (σ 0)) (F_Z44 (σ 0)) (F_Z47 (σ 0)) (F_Z17 (σ 0)) (F_Z37 (σ 0)) (again σ) ops (readP ops).rs ((readP ops).e : Int) (j : Int) t) (fun r => r = ((true, ()), ())) := by
    intro t ht
    unfold B_Z1_J1
    rw [ht, tot_cond]
    refine ⟨fun h => Bool.noConfusion h, fun _ => ?_⟩
    simp only [len]
    have e1 : w64 ((ops.length : Int).tdiv 20) = ((ops.length / 20 : Nat) : Int) := by
      rw [Int.tdiv_eq_ediv_of_nonneg (by omega), w64_id (by omega) (by omega)]; omega
    rw [e1, w64n_succ (by omega), w64n_add (by omega)]
    exact ih _ _ _ _ ⟨rfl, rfl, rfl, j + 1 + ops.length / 20, rfl, by omega⟩ (by omega)
  have hok2 : okOps (ops.take j) = true := okOps_take hok _
  have eB : readA (ops.take j) = ((((readP (ops.take j)).N, 0, ()), (readP (ops.take j)).rs, ((readP (ops.take j)).e : Int), ()), ()) := by unfold readA; rw [if_pos hok2]
  obtain ⟨hp, hpe⟩ := manyR_take ops j newMc 0 rd0 (Nat.le_refl _)
  have hp : (readP (ops.take j)).rs <+: (readP ops).rs := hp
  have hpe : (readP (ops.take j)).e ≤ (readP ops).e := hpe
  have hac2 := (readP_acc hok2).e
  rw [List.length_take] at hac2
  have hpl := hp.length_le
  simp only [tot_chk, cutb_iff, Int.toNat_natCast, List.drop_zero]
  refine ⟨by omega, (i_ReadMany_tot (by rw [List.length_take]; omega)).bind ?_⟩
  rintro _ rfl
  rw [eB]
  simp only [tot_cond, decide_eq_true_eq, decide_eq_false_iff_not, Int.toNat_natCast, tot_chk, cutb_iff]
  refine ⟨fun h0 => by omega, fun _ => ⟨by omega, (equalInts_tot (by rw [List.length_take]; omega)).bind ?_⟩⟩
  rintro _ ⟨t, rfl, ht⟩
  have ht : t = true := ht.2 (by
    obtain ⟨x, hx⟩ := hp
    rw [← hx, List.take_left])
  subst ht
  rw [tot_cond]
  refine ⟨fun h0 => absurd h0 (by simp), fun _ => ?_⟩
  rw [tot_cond]
  refine ⟨fun h0 => ?_, fun _ => ?_⟩
  · have := of_decide_eq_true h0; omega
  · rw [tot_jn]
    exact nx _ (decide_eq_false (by omega))
end Go.Gx

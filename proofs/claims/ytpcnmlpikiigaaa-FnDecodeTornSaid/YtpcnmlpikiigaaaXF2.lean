/-
  Gx, part F2: the regions.
-/
import Derived.Test.YtpcnmlpikiigaaaXF
set_option linter.unusedVariables false
set_option linter.unusedSimpArgs false
namespace Go.Gx
section
variable {P : Program} {cx : Ctx} {nt : Fr} {Q : Exit → Act → World → Prop} {E : Env} {all : Array Oper}
theorem opG_sound (hE : EnvCl P E) {i : Nat} {o : Oper} (hi : all[i]? = some o) {ρ : Rho} {F : Nat → Prop} {σ σ' : St} {a : Act} {w : World} {K : Act → World → Prop} (h : (opG E nt all o).exec σ = some ((), σ')) (hs : Sim cx nt ρ F σ a w)
    (hK : ∀ ρ' F' a' w', Sim cx nt ρ' F' σ' a' w' → K a' w') : wpOp P all Q i K a w := by
  unfold wpOp
  rw [hi]
  unfold opG at h
  simp only
  split at h
  · rename_i hg
    have : Region.wanted o (yielded all a.tmps) = true := by simp [Region.wanted, hg]
    rw [if_pos this]
    exact .inl (opM_sound hE h hs hK)
  · rename_i j want hg
    split at h
    · simp [M.exec] at h
    · rename_i d hd
      simp only [M.exec] at h
      split at h
      · rename_i b hb
        have hv := hs.slots d
        rw [hb] at hv
        have hv : a.tmps.getD d undef = .bool b := hv
        have ht : a.tmps[d]? = some (.bool b) := by
          cases hq : a.tmps[d]? with
          | none => rw [Array.getD_eq_getD_getElem?, hq] at hv; simp [undef] at hv
          | some v => rw [Array.getD_eq_getD_getElem?, hq] at hv; simpa using hv
        have hy : yielded all a.tmps j = some b := by
          unfold yielded
          rw [show (all[j]?).bind (·.dst) = some d from hd]
          simp [ht]
        have hw : Region.wanted o (yielded all a.tmps) = (b == want) := by
          simp [Region.wanted, hg, hy]
        rw [hw]
        cases hbw : b == want with
        | true =>
          rw [hbw] at h
          rw [if_pos rfl]
          exact .inl (opM_sound hE h hs hK)
        | false =>
          rw [hbw] at h
          rw [if_neg (by simp)]
          exact hK _ _ _ _ (put_sound h hs (sv := .und) rfl)
      · rename_i hb
        have hv := hs.slots d
        rw [hb] at hv
        have hv : a.tmps.getD d undef = undef := hv
        have hy : yielded all a.tmps j = none := by
          unfold yielded
          rw [show (all[j]?).bind (·.dst) = some d from hd]
          cases hq : a.tmps[d]? with
          | none => simp [hq]
          | some v =>
            rw [Array.getD_eq_getD_getElem?, hq] at hv
            simp only [Option.getD_some] at hv
            subst hv
            simp [hq, undef]
        have hw : Region.wanted o (yielded all a.tmps) = false := by
          simp [Region.wanted, hg, hy]
        rw [hw, if_neg (by simp)]
        exact hK _ _ _ _ (put_sound h hs (sv := .und) rfl)
      · simp [M.exec] at h
theorem part_eq {R : Type} {i : Nat} {o : Oper} {σ : St} {K : St → Option R} {r : R} (h : part all i o σ K = some r) : K σ = some r := by
  unfold part at h
  cases hq : asked all i with
  | false => rw [hq] at h; exact h
  | true =>
    rw [hq] at h
    simp only [cond_true] at h
    split at h
    · rename_i d hd
      split at h
      · rename_i b hb
        have : σ.setS d (.bool b) = σ := St.ext_keys fun k => by
          obtain ⟨q, n⟩ := k
          cases q with
          | true => rfl
          | false =>
            show (σ.setS d (.bool b)).sl n = σ.sl n
            rw [setS_sl]
            split
            · rename_i e; rw [e, hb]
            · rfl
        cases b <;> simpa [this] using h
      · exact h
      · cases h
    · cases h
def stepOf (E : Env) (nt : Fr) (all : Array Oper) (i : Nat) : MU := match all[i]? with
  | some o => opG E nt all o
  | none => .ret ()
theorem runOps_runs {R : Type} {r : R} : ∀ {ops : List Oper} {i : Nat} {σ : St} {tr : List Log} {K : St → List Log → Option R}, (∀ k o, ops[k]? = some o → all[i + k]? = some o) → runOps E nt all ops i σ tr K = some r →
    ∃ σ' tl, Runs (stepOf E nt all) (List.range' i ops.length) σ tl σ' ∧ K σ' ((tl.map (·.2)).reverse ++ tr) = some r
  | [], i, σ, tr, K, _, h => ⟨σ, [], .nil σ, by simpa [runOps] using h⟩
  | o :: ops, i, σ, tr, K, ho, h => by
    simp only [runOps] at h
    rw [M.run_eq] at h
    split at h
    · cases h
    · rename_i x hx
      obtain ⟨u, σ1⟩ := x
      have h1 := part_eq h
      obtain ⟨σ', tl, h2, h3⟩ := runOps_runs (fun k q hq => by rw [show i + 1 + k = i + (k + 1) by omega]; exact ho (k + 1) q (by simpa using hq)) h1
      have hi : all[i]? = some o := by simpa using ho 0 o (by simp)
      have hst : stepOf E nt all i = opG E nt all o := by simp [stepOf, hi]
      refine ⟨σ', (i, (stepOf E nt all i).fp σ l0) :: tl, ?_, ?_⟩
      · rw [List.length_cons, List.range'_succ]
        exact .cons (by rw [hst]; exact hx) h2
      · rw [← h3, hst]
        simp
/-- In the text's order. -/
theorem text_sound (hE : EnvCl P E) {σ' : St} (hQ : ∀ ρ F a w, Sim cx nt ρ F σ' a w → Q .normal a w) : ∀ {l : List Nat} {σ : St} {tl : List (Nat × Log)}, (∀ i ∈ l, i < all.size) → Runs (stepOf E nt all) l σ tl σ' → ∀ {ρ : Rho} {F : Nat → Prop} {a : Act} {w : World}, Sim cx nt ρ F σ a w →
    wpOps P all Q l a w := by
  intro l σ tl hl h
  induction h with
  | nil => intro ρ F a w hs; exact hQ _ _ _ _ hs
  | cons h hr ih =>
    rename_i i l σ σ1 σ2 tr
    intro ρ F a w hs
    rw [wpOps_cons]
    have hi : i < all.size := hl i (by simp)
    have hst : stepOf E nt all i = opG E nt all all[i] := by simp [stepOf, hi]
    rw [hst] at h
    exact opG_sound hE (by simp [hi]) h hs fun ρ' F' a' w' hs' => ih hQ (fun j hj => hl j (by simp [hj])) hs'

/-! ### In any order -/
theorem hasN_mem {l : List Nat} {n : Nat} : hasN l n = true ↔ n ∈ l := by
  simp only [hasN, List.any_eq_true]
  constructor
  · rintro ⟨x, hx, hb⟩; have := Nat.eq_of_beq_eq_true hb; subst this; exact hx
  · intro h; exact ⟨n, h, by simp⟩
theorem Key.beq_eq {a b : Key} : Key.beq a b = true ↔ a = b := by
  obtain ⟨p, m⟩ := a
  obtain ⟨q, n⟩ := b
  cases p <;> cases q <;> simp [Key.beq]
theorem meet_false {a b : List Key} (h : meet a b = false) : ∀ k ∈ a, k ∉ b := by
  intro k hk hb
  have : meet a b = true := by
    simp only [meet, List.any_eq_true]
    exact ⟨k, hk, k, hb, Key.beq_eq.2 rfl⟩
  rw [h] at this; cases this
theorem apart_spec {a b : Log} (h : apart a b = true) : Apart a b := by
  simp only [apart, Bool.not_eq_true', Bool.or_eq_false_iff] at h
  exact ⟨meet_false h.1.1, meet_false h.1.2, meet_false h.2⟩
theorem mem_preds {o : Oper} {p : Nat} : p ∈ preds o ↔ ∃ e ∈ o.after, Region.binds .any e = true ∧ e.on = p := by
  simp [preds, and_assoc]
theorem any_sound (hE : EnvCl P E) {σ' : St} (hQ : ∀ ρ F a w, Sim cx nt ρ F σ' a w → Q .normal a w) {an : List (List Nat)} (han : ancOk all.toList an = true) :
    ∀ (n : Nat) (rem : List Nat) (tl : List (Nat × Log)) (σ : St) (listed : Array Bool), rem.length = n → rem.Pairwise (· < ·) → (∀ i ∈ rem, i < all.size) → Runs (stepOf E nt all) rem σ tl σ' →
      (tl.Pairwise fun x y => x.1 ∈ an.getD y.1 [] ∨ Apart x.2 y.2) → listed.size = all.size → (∀ i, i < all.size → (listed.getD i true = false ↔ i ∈ rem)) → (∀ m, m < all.size → m ∉ rem → ∀ j ∈ an.getD m [], j ∉ rem) →
      ∀ {ρ : Rho} {F : Nat → Prop} {a : Act} {w : World}, Sim cx nt ρ F σ a w → wpAny P .any all Q n listed a w := by
  have hpre : ∀ i o, all[i]? = some o → (∀ p ∈ preds o, p < i) ∧ ∀ j ∈ an.getD i [], ∃ p ∈ preds o, p = j ∨ j ∈ an.getD p [] := by
    intro i o hi
    have hlt : i < all.size := (Array.getElem?_eq_some_iff.1 hi).1
    simp only [ancOk, List.all_eq_true, List.mem_range] at han
    have := han i (by simpa using hlt)
    rw [show all.toList[i]? = some o by rw [Array.getElem?_toList]; exact hi] at this
    simp only [Bool.and_eq_true, List.all_eq_true] at this
    refine ⟨fun p hp => ?_, fun j hj => ?_⟩
    · have := this.1 p hp
      simp only [Nat.blt] at this
      exact Nat.le_of_ble_eq_true this
    · have := this.2 j hj
      simp only [List.any_eq_true, Bool.or_eq_true] at this
      obtain ⟨p, hp, h⟩ := this
      exact ⟨p, hp, h.imp (fun h => Nat.eq_of_beq_eq_true h) (fun h => hasN_mem.1 h)⟩
  intro n
  induction n with
  | zero =>
    intro rem tl σ listed hn hpw hlt hr hind hsz hl hdown ρ F a w hs
    have : rem = [] := List.eq_nil_of_length_eq_zero hn
    subst this
    cases hr
    refine ⟨?_, hQ _ _ _ _ hs⟩
    apply List.eq_nil_iff_forall_not_mem.2
    intro i hi
    obtain ⟨h1, o, ho, _⟩ := mem_ready.1 hi
    have := (hl i (Array.getElem?_eq_some_iff.1 ho).1).1 h1
    simp at this
  | succ n ih =>
    intro rem tl σ listed hn hpw hlt hr hind hsz hl hdown ρ F a w hs
    have listed_true : ∀ p, p < all.size → p ∉ rem → listed.getD p false = true := by
      intro p hp hm
      have h1 : listed.getD p true = true := by
        cases hq : listed.getD p true with
        | true => rfl
        | false => exact absurd ((hl p hp).1 hq) hm
      have : p < listed.size := by omega
      simpa [this] using h1
    refine ⟨fun hnil => ?_, fun i hi => ?_⟩
    · exfalso
      cases rem with
      | nil => simp at hn
      | cons i0 rem =>
        have hi0 := hlt i0 (by simp)
        have : i0 ∈ Region.ready .any all listed := by
          refine mem_ready.2 ⟨(hl i0 hi0).2 (by simp), all[i0], by simp [hi0], fun e he hb => ?_⟩
          have hp := (hpre i0 all[i0] (by simp [hi0])).1 e.on (mem_preds.2 ⟨e, he, hb, rfl⟩)
          refine listed_true _ (by omega) fun hm => ?_
          rcases List.mem_cons.1 hm with h1 | h1
          · omega
          · have := (List.pairwise_cons.1 hpw).1 _ h1; omega
        rw [hnil] at this
        simp at this
    · obtain ⟨h1, o, ho, hall⟩ := mem_ready.1 hi
      have hisz : i < all.size := (Array.getElem?_eq_some_iff.1 ho).1
      have hir := (hl i hisz).1 h1
      have hdone : ∀ p ∈ preds o, p ∉ rem := by
        intro p hp hm
        obtain ⟨e, he, hb, rfl⟩ := mem_preds.1 hp
        have h2 := hall e he hb
        have h3 := (hl e.on (hlt _ hm)).2 hm
        have : e.on < listed.size := by have := hlt _ hm; omega
        simp [this] at h2 h3
        rw [h2] at h3; cases h3
      have hanc : ∀ j ∈ rem, j ∉ an.getD i [] := by
        intro j hj hja
        obtain ⟨p, hp, h2⟩ := (hpre i o ho).2 j hja
        have hpi := (hpre i o ho).1 p hp
        rcases h2 with h2 | h2
        · exact hdone p hp (h2 ▸ hj)
        · exact hdown p (by omega) (hdone p hp) j h2 hj
      obtain ⟨pre, post, rfl⟩ := List.append_of_mem hir
      have hfst := hr.fst
      obtain ⟨tp, tq, rfl, hp1, hp2⟩ : ∃ tp tq, tl = tp ++ tq ∧ tp.map (·.1) = pre ∧ tq.map (·.1) = i :: post := by
        refine ⟨tl.take pre.length, tl.drop pre.length, (List.take_append_drop ..).symm, ?_, ?_⟩
        · rw [List.map_take, hfst]; simp
        · rw [List.map_drop, hfst]; simp
      cases tq with
      | nil => simp at hp2
      | cons x tq =>
        obtain ⟨i', lg⟩ := x
        simp only [List.map_cons, List.cons.injEq] at hp2
        obtain ⟨rfl, hp3⟩ := hp2
        have hlen : tp.length = pre.length := by rw [← hp1]; simp
        have hind' := List.pairwise_append.1 hind
        have hap : ∀ x ∈ tp, Apart x.2 lg := by
          intro x hx
          rcases hind'.2.2 x hx (i', lg) (by simp) with h2 | h2
          · exact absurd h2 (hanc x.1 (by rw [← hp1]; exact List.mem_append_left _ (List.mem_map_of_mem hx)))
          · exact h2
        have hrun := Runs.front hlen hr hap
        cases hrun with
        | cons h2 hr2 =>
          rename_i σ1
          have hst : stepOf E nt all i' = opG E nt all o := by simp [stepOf, ho]
          rw [hst] at h2
          refine opG_sound hE ho h2 hs fun ρ' F' a' w' hs' => ?_
          have hpw' := List.pairwise_append.1 hpw
          have hpwc := List.pairwise_cons.1 hpw'.2.1
          have hni : i' ∉ pre ++ post := by
            intro hm
            rcases List.mem_append.1 hm with hm | hm
            · have := hpw'.2.2 i' hm i' (by simp); omega
            · have := hpwc.1 i' hm; omega
          have hmem : ∀ j, j ∈ pre ++ i' :: post ↔ j = i' ∨ j ∈ pre ++ post := by intro j; simp; constructor <;> (intro h; rcases h with h | h | h <;> simp [h])
          refine ih (pre ++ post) (tp ++ tq) σ1 _ (by simp at hn ⊢; omega) (List.pairwise_append.2 ⟨hpw'.1, hpwc.2, fun x hx y hy => hpw'.2.2 x hx y (by simp [hy])⟩) (fun j hj => hlt j ((hmem j).2 (.inr hj))) hr2
            (List.pairwise_append.2 ⟨hind'.1, (List.pairwise_cons.1 hind'.2.1).2, fun x hx y hy => hind'.2.2 x hx y (by simp [hy])⟩) (by simp [hsz]) (fun j hj => ?_) (fun m hm hmr j hj => ?_) hs'
          · by_cases e : i' = j
            · subst e
              have : i' < listed.size := by omega
              simp only [hni, iff_false]
              simp [this]
            · rw [getD_set_ne true e, hl j hj, hmem]
              exact ⟨fun h => h.resolve_left fun q => e q.symm, .inr⟩
          · by_cases e : m = i'
            · subst e
              intro hj'
              exact hanc j ((hmem j).2 (.inr hj')) hj
            · intro hj'
              exact hdown m hm (fun h => (((hmem m).1 h).resolve_left e |> hmr)) j hj ((hmem j).2 (.inr hj'))
end
end Go.Gx

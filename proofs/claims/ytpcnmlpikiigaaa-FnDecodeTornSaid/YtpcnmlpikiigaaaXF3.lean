/-
  Gx, part F3: code, functions, programs.
-/
import Derived.Test.YtpcnmlpikiigaaaXF2
import Derived.Deep.LoopGhost
set_option linter.unusedVariables false
set_option linter.unusedSimpArgs false
namespace Go.Gx
section
variable {P : Program} {cx : Ctx} {nt : Fr} {E : Env}
theorem Sim.drew {ρ : Rho} {F : Nat → Prop} {σ : St} {a : Act} {w : World} (hs : Sim cx nt ρ F σ a w) : Sim cx nt ρ F σ a w.drew :=
  hs.goes (fun _ => False) (fun _ h => h.elim) (Pr.drew _ _) (fun _ h => h) (fun _ h => .inl h)
theorem run_some {α R : Type} {m : M α} {σ : St} {l : Log} {K : α → St → Log → Option R} {r : R} (h : m.run σ l K = some r) : ∃ x σ1, m.exec σ = some (x, σ1) ∧ K x σ1 (m.fp σ l) = some r := by
  rw [M.run_eq] at h
  split at h
  · cases h
  · rename_i x hx; exact ⟨x.1, x.2, hx, h⟩
theorem region_sound (hE : EnvCl P E) (hm : P.follows .mixedOrders = true) {id : Nat} {ops : Array Oper} {draw : Bool} {R : Type} {r : R} {K : St → Option R} {Q : Exit → Act → World → Prop} {ρ : Rho} {F : Nat → Prop} {σ : St} {a : Act} {w : World}
    (h : (runOps E nt ops ops.toList 0 σ [] fun σ' tr => bif !draw || drawOk ops.toList tr then K σ' else none) = some r) (hs : Sim cx nt ρ F σ a w)
    (hQ : ∀ ρ F σ' a w, Sim cx nt ρ F σ' a w → K σ' = some r → Q .normal a w) : (Code.region id ops draw).wp P Q a w := by
  obtain ⟨σ', tl, h1, h2⟩ := runOps_runs (all := ops) (fun k o ho => by rw [Nat.zero_add, ← Array.getElem?_toList]; exact ho) h
  rw [← List.range_eq_range', Array.length_toList] at h1
  cases hd : (!draw || drawOk ops.toList ((tl.map (·.2)).reverse ++ [])) with
  | false => rw [hd] at h2; cases h2
  | true =>
    rw [hd] at h2
    simp only [cond_true] at h2
    have hQ' : ∀ ρ F a w, Sim cx nt ρ F σ' a w → Q .normal a w := fun ρ F a w hs => hQ ρ F σ' a w hs h2
    cases draw with
    | false => exact wp_region (text_sound hE hQ' (fun i hi => by simpa using hi) h1 hs)
    | true =>
      simp only [Bool.not_true, Bool.false_or, drawOk, Bool.and_eq_true, List.append_nil, List.reverse_reverse] at hd
      obtain ⟨⟨han, hlen⟩, hall⟩ := hd
      refine wp_region_any hm ?_
      have hfst := h1.fst
      refine any_sound hE hQ' han ops.size (List.range ops.size) tl σ _ (by simp) List.pairwise_lt_range (fun i hi => by simpa using hi) h1 ?_ (by simp) (fun i hi => by simp [hi]) (fun m hm hmr => absurd (by simpa using hm) hmr) hs.drew
      rw [List.pairwise_iff_getElem]
      intro j i hj hi hlt
      have hn : tl.length = ops.size := by have := congrArg List.length hfst; simpa using this
      have e1 : ∀ (k : Nat) (hk : k < tl.length), tl[k].1 = k := by
        intro k hk
        have := congrArg (fun l => l[k]?) hfst
        simp only [List.getElem?_map, List.getElem?_eq_getElem hk, Option.map_some] at this
        rw [List.getElem?_range (by omega)] at this
        simpa using this
      simp only [List.all_eq_true, List.mem_range, Bool.or_eq_true] at hall
      have := hall i (by rw [Array.length_toList]; omega) j hlt
      rw [e1 i hi, e1 j hj]
      rcases this with h3 | h3
      · exact .inl (hasN_mem.1 h3)
      · refine .inr ?_
        have := apart_spec h3
        simpa [List.getD_eq_getElem?_getD, hi, hj] using this

/-! ### What is live is handed on -/
theorem evs_sound {α : Type} {ρ : Rho} {F : Nat → Prop} {σ : St} {a : Act} {w : World} (hs : Sim cx nt ρ F σ a w) : ∀ {ss : List Nat} {k : List SV → M α} {r : α × St}, (evs ss k).exec σ = some r →
    ∃ svs, (k svs).exec σ = some r ∧ All2 (VR ρ F w σ.live) svs (ss.map fun s => a.tmps.getD s undef)
  | [], k, r, h => ⟨[], h, trivial⟩
  | s :: ss, k, r, h => by
    simp only [evs, M.exec] at h
    obtain ⟨svs, h1, h2⟩ := evs_sound hs h
    exact ⟨σ.sl s :: svs, h1, hs.slots s, h2⟩
theorem puts_sound {ρ : Rho} {F : Nat → Prop} {a : Act} {w : World} : ∀ {ss : List Nat} {svs : List SV} {σ σ' : St}, (puts ss svs (.ret ())).exec σ = some ((), σ') → Sim cx nt ρ F σ a w → All2 (VR ρ F w σ.live) svs (ss.map fun s => a.tmps.getD s undef) → Sim cx nt ρ F σ' a w
  | [], svs, σ, σ', h, hs, hv => by
    simp only [puts, M.exec, Option.some.injEq, Prod.mk.injEq, true_and] at h
    subst h; exact hs
  | s :: ss, [], σ, σ', h, hs, hv => hv.elim
  | s :: ss, sv :: svs, σ, σ', h, hs, hv => by
    simp only [puts, M.exec] at h
    refine puts_sound h ⟨hs.defers, hs.size, hs.pin, fun s' => ?_, hs.objs, hs.disj, hs.own, hs.Fb, hs.F0, hs.pr⟩ hv.2
    rw [setS_sl]
    split
    · rename_i e; subst e; exact hv.1
    · exact hs.slots s'
theorem Sim.none {ρ : Rho} {F : Nat → Prop} {σ : St} {a : Act} {w : World} (hs : Sim cx nt ρ F σ a w) : Sim cx nt ρ F St.empty a w :=
  ⟨hs.defers, hs.size, hs.pin, fun _ => trivial, fun _ => trivial, fun n m b _ h => by simp [St.empty, blk] at h, fun n b h => by simp [St.empty, blk] at h, hs.Fb, hs.F0, hs.pr⟩
theorem Live.pass {L : Live} {ρ : Rho} {F : Nat → Prop} {σ σ1 σ2 : St} {a : Act} {w : World} {t : VsI L.vs} (hs : Sim cx nt ρ F σ a w) (h1 : (L.take fun t => M.ret t).exec σ = some (t, σ1)) (h2 : (L.build t).exec St.empty = some ((), σ2)) :
    ∃ ρ2 F2, Sim cx nt ρ2 F2 σ2 a w := by
  unfold Live.take at h1
  obtain ⟨svs, h1, hv⟩ := evs_sound hs h1
  obtain ⟨x, σ3, F3, bs, h3, h4, h5, h6⟩ := takeVs_sound h1 hs hv
  simp only [M.exec, Option.some.injEq, Prod.mk.injEq] at h3
  obtain ⟨rfl, rfl⟩ := h3
  unfold Live.build at h2
  have hfree := h5.free hs
  obtain ⟨svs2, σ4, ρ4, k1, k2, k3, k4⟩ := buildVs_sound h2 h4.none h6 (fun b hb => ⟨(hfree b hb).1, (hfree b hb).2.1, fun m hm => by simp [St.empty, blk] at hm⟩) h5.nd
  exact ⟨ρ4, F3, puts_sound k1 k2 (k4.imp fun _ _ h => VR_of_LR1 h)⟩

/-! ### Code -/
def Ex.to : Ex → Exit
  | .normal => .normal
  | .exit id => .exit id
  | .ret => .ret
def Pst (cx : Ctx) (nt : Fr) {R : Type} (K : Ex → St → Option R) (r : R) (e : Exit) (a : Act) (w : World) : Prop :=
  ∃ ex σ ρ F, e = ex.to ∧ Sim cx nt ρ F σ a w ∧ K ex σ = some r
theorem exec_sound (hE : EnvCl P E) (hm : P.follows .mixedOrders = true) {R : Type} {r : R} (k : Nat) : ∀ (c : Code) (ann : Ann) {σ : St} {K : Ex → St → Option R} {ρ : Rho} {F : Nat → Prop} {a : Act} {w : World}, exec E k nt c ann σ K = some r → Sim cx nt ρ F σ a w →
    c.wp P (Pst cx nt K r) a w := by
  intro c
  induction c with
  | skip =>
    intro ann σ K ρ F a w h hs
    simp only [exec] at h
    exact wp_skip ⟨.normal, σ, ρ, F, rfl, hs, h⟩
  | region id ops draw =>
    intro ann σ K ρ F a w h hs
    simp only [exec] at h
    exact region_sound hE hm h hs fun ρ F σ' a w hs' h' => ⟨.normal, σ', ρ, F, rfl, hs', h'⟩
  | seq x y ihx ihy =>
    intro ann σ K ρ F a w h hs
    cases ann with
    | seq j p q =>
      cases j with
      | none =>
        simp only [exec] at h
        refine wp_seq (wp_mono (ihx p h hs) fun e a' w' hp => ?_)
        obtain ⟨ex, σ', ρ', F', rfl, hs', h'⟩ := hp
        cases ex with
        | normal => exact ihy q h' hs'
        | exit i => exact ⟨.exit i, σ', ρ', F', rfl, hs', h'⟩
        | ret => exact ⟨.ret, σ', ρ', F', rfl, hs', h'⟩
      | some L =>
        simp only [exec] at h
        refine wp_seq (wp_mono (ihx p h hs) fun e a' w' hp => ?_)
        obtain ⟨ex, σ', ρ', F', rfl, hs', h'⟩ := hp
        cases ex with
        | normal =>
          obtain ⟨t, σ1, h1, h2⟩ := run_some h'
          unfold jn at h2
          obtain ⟨u, σ2, h3, h4⟩ := run_some h2
          obtain ⟨ρ2, F2, hs2⟩ := Live.pass hs' h1 h3
          exact ihy q h4 hs2
        | exit i => exact ⟨.exit i, σ', ρ', F', rfl, hs', h'⟩
        | ret => exact ⟨.ret, σ', ρ', F', rfl, hs', h'⟩
    | _ => simp [exec] at h
  | cond c x y ihx ihy =>
    intro ann σ K ρ F a w h hs
    cases ann with
    | cond p q =>
      simp only [exec] at h
      obtain ⟨v, σ1, h1, h2⟩ := run_some h
      obtain ⟨sv, h3, hv⟩ := ev_sound h1 hs
      simp only [M.exec, Option.some.injEq, Prod.mk.injEq] at h3
      obtain ⟨rfl, rfl⟩ := h3
      split at h2
      · rename_i t
        have hv : a.eval c = .bool t := hv
        cases t with
        | true => exact wp_cond_true hv (ihx p h2 hs)
        | false => exact wp_cond_false hv (ihy q h2 hs)
      · cases h2
    | _ => simp [exec] at h
  | block id c ih =>
    intro ann σ K ρ F a w h hs
    cases ann with
    | block p =>
      simp only [exec] at h
      refine wp_block (wp_mono (ih p h hs) fun e a' w' hp => ?_)
      obtain ⟨ex, σ', ρ', F', rfl, hs', h'⟩ := hp
      cases ex with
      | normal => exact ⟨.normal, σ', ρ', F', rfl, hs', h'⟩
      | exit i =>
        simp only [Ex.to, Exit.inBlock]
        cases hq : Nat.beq i id with
        | true =>
          have := Nat.eq_of_beq_eq_true hq
          simp only [hq, cond_true] at h'
          rw [if_pos this]
          exact ⟨.normal, σ', ρ', F', rfl, hs', h'⟩
        | false =>
          have hne : i ≠ id := fun e => by subst e; simp at hq
          simp only [hq, cond_false] at h'
          rw [if_neg hne]
          exact ⟨.exit i, σ', ρ', F', rfl, hs', h'⟩
      | ret => exact ⟨.ret, σ', ρ', F', rfl, hs', h'⟩
    | _ => simp [exec] at h
  | loop c ih =>
    intro ann σ K ρ F a w h hs
    cases ann with
    | loop L p =>
      simp only [exec] at h
      obtain ⟨t, σ1, h1, h2⟩ := run_some h
      generalize hf : (fun (again : VsI L.vs → Option R) (t : VsI L.vs) => (L.build t).run St.empty ⟨[], []⟩ fun _ σ2 _ => exec E k nt c p σ2 fun e σ' => match e with
        | .normal => (L.take fun t => M.ret t).run σ' ⟨[], []⟩ fun t _ _ => again t
        | .exit i => K (.exit i) σ'
        | .ret => K .ret σ') = f at h2
      have start : ∀ {n : Nat} {t : VsI L.vs} {σ σ1 : St} {ρ : Rho} {F : Nat → Prop} {a : Act} {w : World}, Sim cx nt ρ F σ a w → (L.take fun t => M.ret t).exec σ = some (t, σ1) → lfix n f t = some r →
          ∃ t σ2 ρ F, (L.build t).exec St.empty = some ((), σ2) ∧ Sim cx nt ρ F σ2 a w ∧ lfix n f t = some r := by
        intro n t σ σ1 ρ F a w hs h1 h2
        cases n with
        | zero => simp [lfix] at h2
        | succ n =>
          have h2' := h2
          simp only [lfix] at h2
          rw [← hf] at h2
          obtain ⟨u, σ2, h3, _⟩ := run_some h2
          obtain ⟨ρ2, F2, hs2⟩ := Live.pass hs h1 h3
          exact ⟨t, σ2, ρ2, F2, h3, hs2, h2'⟩
      refine wp_loop_ghost (fun n a w => ∃ t σ2 ρ F, (L.build t).exec St.empty = some ((), σ2) ∧ Sim cx nt ρ F σ2 a w ∧ lfix n f t = some r) k (start hs h1 h2) ?_
      intro n a w ⟨t, σ2, ρ, F, hb, hs, hl⟩
      cases n with
      | zero => simp [lfix] at hl
      | succ n =>
        simp only [lfix] at hl
        rw [← hf] at hl
        simp only at hl
        rw [hf] at hl
        obtain ⟨u, σ3, h3, h4⟩ := run_some hl
        rw [hb] at h3
        cases h3
        refine wp_mono (ih p h4 hs) fun e a' w' hp => ?_
        obtain ⟨ex, σ', ρ', F', rfl, hs', h'⟩ := hp
        cases ex with
        | normal =>
          obtain ⟨t', σ4, h5, h6⟩ := run_some h'
          exact ⟨n, Nat.lt_succ_self n, start hs' h5 h6⟩
        | exit i => exact ⟨.exit i, σ', ρ', F', rfl, hs', h'⟩
        | ret => exact ⟨.ret, σ', ρ', F', rfl, hs', h'⟩
    | _ => simp [exec] at h
  | exit id =>
    intro ann σ K ρ F a w h hs
    simp only [exec] at h
    exact wp_exit ⟨.exit id, σ, ρ, F, rfl, hs, h⟩
  | ret =>
    intro ann σ K ρ F a w h hs
    simp only [exec] at h
    exact wp_ret ⟨.ret, σ, ρ, F, rfl, hs, h⟩
  | _ => intro ann σ K ρ F a w h hs; cases ann <;> simp [exec] at h
end
end Go.Gx

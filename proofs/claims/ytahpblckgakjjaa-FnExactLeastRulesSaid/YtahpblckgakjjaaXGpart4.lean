/-
  Gx: an interpreter of our own, and that it is sound for the model.
-/
import Derived.Test.YtahpblckgakjjaaXGpart3
import Derived.Deep.LoopGhost
import Derived.Test.YtahpblckgakjjaaXGpart1
set_option linter.unusedVariables false
set_option linter.unusedSimpArgs false
namespace Go.Gx
section
variable {P : Program} {cx : Ctx} {nt : Fr} {E : Env}
theorem Sim.drew {ρ : Rho} {F : Nat → Prop} {σ : St} {a : Act} {w : World} (hs : Sim cx nt ρ F σ a w) : Sim cx nt ρ F σ a w.drew :=
  hs.goes (fun _ => False) (fun _ h => h.elim) (Pr.drew _ _) (fun _ h => h) (fun _ h => .inl h)
theorem run_some {α R : Type} {m : M α} {σ : St} {l : Log} {K : α → St → Log → Option R} {r : R} (h : m.run σ l K = some r) : ∃ x σ1, m.exec σ = some (x, σ1) ∧ K x σ1 (m.fp σ l) = some r := by
  rw [M.run_eq] at h
  split at h
  · cases h
  · rename_i x hx; exact ⟨x.1, x.2, hx, h⟩
theorem region_sound {G : World → Prop} (hE : EnvAt G P E cx) (hm : P.follows .mixedOrders = true) {id : Nat} {ops : Array Oper} {draw : Bool} {R : Type} {r : R} {K : St → Option R} {Q : Exit → Act → World → Prop} {ρ : Rho} {F : Nat → Prop} {σ : St} {a : Act} {w : World}
    (h : (runOps E nt ops ops.toList 0 σ [] fun σ' tr => bif !draw || drawOk ops.toList tr then K σ' else none) = some r) (hs : Sim cx nt ρ F σ a w)
    (hQ : ∀ ρ F σ' a w, Sim cx nt ρ F σ' a w → K σ' = some r → Q .normal a w) : (Code.region id ops draw).wp P Q a w := by
  obtain ⟨σ', tl, h1, h2⟩ := runOps_runs (all := ops) (fun k o ho => by rw [Nat.zero_add, ← Array.getElem?_toList]; exact ho) h
  rw [← List.range_eq_range', Array.length_toList] at h1
  cases hd : (!draw || drawOk ops.toList ((tl.map (·.2)).reverse ++ [])) with
  | false => rw [hd] at h2; cases h2
  | true =>
    rw [hd] at h2
    simp only [cond_true] at h2
    have hQ' : ∀ ρ F a w, Sim cx nt ρ F σ' a w → Q .normal a w := fun ρ F a w hs => hQ ρ F σ' a w hs h2
    cases draw with
    | false => exact wp_region (text_sound hE hQ' (fun i hi => by simpa using hi) h1 hs)
    | true =>
      simp only [Bool.not_true, Bool.false_or, drawOk, Bool.and_eq_true, List.append_nil, List.reverse_reverse] at hd
      obtain ⟨⟨han, hlen⟩, hall⟩ := hd
      refine wp_region_any hm ?_
      have hfst := h1.fst
      refine any_sound hE hQ' han ops.size (List.range ops.size) tl σ _ (by simp) List.pairwise_lt_range (fun i hi => by simpa using hi) h1 ?_ (by simp) (fun i hi => by simp [hi]) (fun m hm hmr => absurd (by simpa using hm) hmr) hs.drew
      rw [List.pairwise_iff_getElem]
      intro j i hj hi hlt
      have hn : tl.length = ops.size := by have := congrArg List.length hfst; simpa using this
      have e1 : ∀ (k : Nat) (hk : k < tl.length), tl[k].1 = k := by
        intro k hk
        have := congrArg (fun l => l[k]?) hfst
        simp only [List.getElem?_map, List.getElem?_eq_getElem hk, Option.map_some] at this
        rw [List.getElem?_range (by omega)] at this
        simpa using this
      simp only [List.all_eq_true, List.mem_range, Bool.or_eq_true] at hall
      have := hall i (by rw [Array.length_toList]; omega) j hlt
      rw [e1 i hi, e1 j hj]
      rcases this with h3 | h3
      · exact .inl (hasN_mem.1 h3)
      · refine .inr ?_
        have := apart_spec h3
        simpa [List.getD_eq_getElem?_getD, hi, hj] using this

theorem evs_sound {α : Type} {ρ : Rho} {F : Nat → Prop} {σ : St} {a : Act} {w : World} (hs : Sim cx nt ρ F σ a w) : ∀ {ss : List Nat} {k : List SV → M α} {r : α × St}, (evs ss k).exec σ = some r →
    ∃ svs, (k svs).exec σ = some r ∧ All2 (VR ρ F w (σ.lv ρ)) svs (ss.map fun s => a.tmps.getD s undef)
  | [], k, r, h => ⟨[], h, trivial⟩
  | s :: ss, k, r, h => by
    simp only [evs, M.exec] at h
    obtain ⟨svs, h1, h2⟩ := evs_sound hs h
    exact ⟨σ.sl s :: svs, h1, hs.slots s, h2⟩
theorem puts_sound {ρ : Rho} {F : Nat → Prop} {a : Act} {w : World} : ∀ {ss : List Nat} {svs : List SV} {σ σ' : St}, (puts ss svs (.ret ())).exec σ = some ((), σ') → Sim cx nt ρ F σ a w → All2 (VR ρ F w (σ.lv ρ)) svs (ss.map fun s => a.tmps.getD s undef) → Sim cx nt ρ F σ' a w
  | [], svs, σ, σ', h, hs, hv => by
    simp only [puts, M.exec, Option.some.injEq, Prod.mk.injEq, true_and] at h
    subst h; exact hs
  | s :: ss, [], σ, σ', h, hs, hv => hv.elim
  | s :: ss, sv :: svs, σ, σ', h, hs, hv => by
    simp only [puts, M.exec] at h
    refine puts_sound h ⟨hs.defers, hs.size, hs.pin, fun s' => ?_, hs.objs, hs.disj, hs.own, hs.Fb, hs.F0, hs.pr, hs.fx, hs.fxl, hs.fix⟩ hv.2
    rw [setS_sl]
    split
    · rename_i e; subst e; exact hv.1
    · exact hs.slots s'
theorem Sim.none {ρ ρ' : Rho} {F : Nat → Prop} {σ : St} {a : Act} {w : World} (hs : Sim cx nt ρ F σ a w) (hfx : ρ'.fx = ρ.fx) (hsame : ∀ n, n < liveId → ρ.same ρ' n n) : Sim cx nt ρ' F St.empty a w :=
  ⟨hs.defers, hs.size, hs.pin, fun _ => trivial, fun _ => trivial, fun n m b _ h => by simp [St.empty, blk, Obj.held] at h, fun n b h => by simp [St.empty, blk, Obj.held] at h, hs.Fb, hs.F0, hs.pr, hfx.trans hs.fx, fun n hn => by rw [hfx]; exact hs.fxl n hn, fun n hn => by
    have := hs.fix n (by rw [← hfx]; exact hn)
    exact ⟨this.1, Rho.same_trans this.2 (hsame n this.1)⟩⟩
theorem reserve_sound {α : Type} {ρ : Rho} {F : Nat → Prop} {a : Act} {w : World} {r : α × St} : ∀ {l : List Nat} {K : M α} {σ : St}, (reserve l K).exec σ = some r → Sim cx nt ρ F σ a w →
    ∃ σ1, K.exec σ1 = some r ∧ Sim cx nt ρ F σ1 a w ∧ Bd ρ ρ σ σ1 [] ∧ ∀ i ∈ l, σ1.live i
  | [], K, σ, h, hs => ⟨σ, h, hs, Bd.refl _ _ _, fun i hi => by simp at hi⟩
  | n :: l, K, σ, h, hs => by
    simp only [reserve, M.exec] at h
    split at h
    · rename_i ho
      simp only [M.exec] at h
      obtain ⟨h1, h2⟩ := hs.make (ρ1 := ρ) (n := n) (o := .dead) (.inl ho) (by simp) (fun m _ => ⟨ρ.same_refl _, rfl⟩) (fun _ => ρ.same_refl _) rfl trivial (fun b hb => by simp [blk, Obj.held] at hb) (bs := []) (fun b hb => by simp [blk, Obj.held] at hb)
      obtain ⟨σ1, k1, k2, k3, k4⟩ := reserve_sound h h1
      refine ⟨σ1, k1, k2, h2.trans k3, fun i hi => ?_⟩
      rcases List.mem_cons.1 hi with rfl | hi
      · exact k3.lv _ (live_set (by simp))
      · exact k4 i hi
    · rename_i ho
      obtain ⟨σ1, k1, k2, k3, k4⟩ := reserve_sound h hs
      refine ⟨σ1, k1, k2, k3, fun i hi => ?_⟩
      rcases List.mem_cons.1 hi with rfl | hi
      · exact k3.lv _ (fun e => by rw [ho] at e; cases e)
      · exact k4 i hi
    · simp [M.exec] at h
/-- Names are bound anew. -/
def Rho.anew (ρ : Rho) (B : Nat → Nat) : Rho := ⟨fun i => bif Nat.ble liveId i then ρ.hd (B i) else ρ.hd i, fun i => bif Nat.ble liveId i then ρ.bx (B i) else ρ.bx i, fun i => bif Nat.ble liveId i then ρ.es (B i) else ρ.es i, ρ.bk, ρ.fx⟩
theorem Live.pass {L : Live} {ρ : Rho} {F : Nat → Prop} {σ σ1 σ2 : St} {a : Act} {w : World} {t : VsI L.vs} (hs : Sim cx nt ρ F σ a w) (h1 : (L.take fun t => M.ret t).exec σ = some (t, σ1)) (h2 : (L.build nt.fix t).exec St.empty = some ((), σ2)) :
    ∃ ρ2 F2, Sim cx nt ρ2 F2 σ2 a w := by
  unfold Live.take at h1
  obtain ⟨svs, h1, hv⟩ := evs_sound hs h1
  obtain ⟨bl, h1⟩ := bindVs_exec h1
  replace h1 := test_exec h1; obtain ⟨hbl, h1⟩ := h1
  simp only [List.all_eq_true, Bool.or_eq_true] at hbl
  obtain ⟨x, σ3, F3, bs, h3, h4, h5, h6⟩ := takeVs_sound h1 hs hv
  simp only [M.exec, Option.some.injEq, Prod.mk.injEq] at h3
  obtain ⟨rfl, rfl⟩ := h3
  unfold Live.build at h2
  replace h2 := test_exec h2; obtain ⟨ht, h2⟩ := h2
  simp only [List.all_eq_true] at ht
  have hfree := h5.free hs
  obtain ⟨σ0, h2, hs0, hd0, hl0⟩ := reserve_sound h2 (h4.none (ρ' := ρ.anew (lkN bl)) rfl fun n hn => by
      have hq : Nat.ble liveId n = false := by
        cases hq : Nat.ble liveId n with
        | false => rfl
        | true => have := Nat.le_of_ble_eq_true hq; omega
      simp [Rho.same, Rho.anew, hq])
  obtain ⟨svs2, σ4, ρ4, k1, k2, _, k4, _⟩ := buildVs_sound (Q := fun m => liveBase ≤ m) (fun m h => by unfold liveBase at h; unfold liveId; omega) (fun m h => by omega) h2 hs0 h6
    (fun b hb => hd0.free ⟨(hfree b hb).1, (hfree b hb).2.1, fun m hm => by simp [St.empty, blk, Obj.held] at hm⟩ (by simp)) h5.nd (Nat.le_refl _)
    (fun s hs' i hi => Nm.bd (σ := St.empty) ⟨by
      rcases hbl s hs' i hi with hq | hq
      · simp [Rho.same, Rho.pull, Rho.anew, hq, idB]
      · have hq := Nat.eq_of_beq_eq_true hq
        cases hb : Nat.ble liveId i <;> simp [Rho.same, Rho.pull, Rho.anew, hb, hq, idB], .inr fun hq => by
      have := ht s hs' i hi
      simp only [Nat.blt] at this
      have := Nat.le_of_ble_eq_true this
      have hq : liveBase ≤ i := hq
      omega⟩ hd0 (.inr (Rho.same_refl _ _)))
    (fun s hs' i hi => by
      cases hf : hasN nt.fix i with
      | true => exact .inr (h4.fxl i (hasN_mem.1 hf))
      | false => exact .inl (hl0 i (List.mem_filter.2 ⟨List.mem_flatMap.2 ⟨s, hs', hi⟩, by rw [hf]; rfl⟩)))
  exact ⟨ρ4, F3, puts_sound k1 k2 (k4.imp fun _ _ h => VR_of_LR1 h)⟩

def Ex.to : Ex → Exit
  | .normal => .normal
  | .exit id => .exit id
  | .ret => .ret
def Pst (cx : Ctx) (nt : Fr) {R : Type} (K : Ex → St → Option R) (r : R) (e : Exit) (a : Act) (w : World) : Prop :=
  ∃ ex σ ρ F, e = ex.to ∧ Sim cx nt ρ F σ a w ∧ K ex σ = some r
theorem exec_sound {G : World → Prop} (hE : EnvAt G P E cx) (hm : P.follows .mixedOrders = true) {R : Type} {r : R} (k : Nat) : ∀ (c : Code) (ann : Ann) {σ : St} {K : Ex → St → Option R} {ρ : Rho} {F : Nat → Prop} {a : Act} {w : World}, exec E k nt c ann σ K = some r → Sim cx nt ρ F σ a w →
    c.wp P (Pst cx nt K r) a w := by
  intro c
  induction c with
  | skip =>
    intro ann σ K ρ F a w h hs
    simp only [exec] at h
    exact wp_skip ⟨.normal, σ, ρ, F, rfl, hs, h⟩
  | region id ops draw =>
    intro ann σ K ρ F a w h hs
    simp only [exec] at h
    exact region_sound hE hm h hs fun ρ F σ' a w hs' h' => ⟨.normal, σ', ρ, F, rfl, hs', h'⟩
  | seq x y ihx ihy =>
    intro ann σ K ρ F a w h hs
    cases ann with
    | seq j p q =>
      cases j with
      | none =>
        simp only [exec] at h
        refine wp_seq (wp_mono (ihx p h hs) fun e a' w' hp => ?_)
        obtain ⟨ex, σ', ρ', F', rfl, hs', h'⟩ := hp
        cases ex with
        | normal => exact ihy q h' hs'
        | exit i => exact ⟨.exit i, σ', ρ', F', rfl, hs', h'⟩
        | ret => exact ⟨.ret, σ', ρ', F', rfl, hs', h'⟩
      | some L =>
        simp only [exec] at h
        refine wp_seq (wp_mono (ihx p h hs) fun e a' w' hp => ?_)
        obtain ⟨ex, σ', ρ', F', rfl, hs', h'⟩ := hp
        cases ex with
        | normal =>
          obtain ⟨t, σ1, h1, h2⟩ := run_some h'
          unfold jn at h2
          obtain ⟨u, σ2, h3, h4⟩ := run_some h2
          obtain ⟨ρ2, F2, hs2⟩ := Live.pass hs' h1 h3
          exact ihy q h4 hs2
        | exit i => exact ⟨.exit i, σ', ρ', F', rfl, hs', h'⟩
        | ret => exact ⟨.ret, σ', ρ', F', rfl, hs', h'⟩
    | _ => simp [exec] at h
  | cond c x y ihx ihy =>
    intro ann σ K ρ F a w h hs
    cases ann with
    | cond p q =>
      simp only [exec] at h
      obtain ⟨v, σ1, h1, h2⟩ := run_some h
      obtain ⟨sv, h3, hv⟩ := ev_sound h1 hs
      simp only [M.exec, Option.some.injEq, Prod.mk.injEq] at h3
      obtain ⟨rfl, rfl⟩ := h3
      split at h2
      · rename_i t
        have hv : a.eval c = .bool t := hv
        cases t with
        | true => exact wp_cond_true hv (ihx p h2 hs)
        | false => exact wp_cond_false hv (ihy q h2 hs)
      · cases h2
    | _ => simp [exec] at h
  | block id c ih =>
    intro ann σ K ρ F a w h hs
    cases ann with
    | block p =>
      simp only [exec] at h
      refine wp_block (wp_mono (ih p h hs) fun e a' w' hp => ?_)
      obtain ⟨ex, σ', ρ', F', rfl, hs', h'⟩ := hp
      cases ex with
      | normal => exact ⟨.normal, σ', ρ', F', rfl, hs', h'⟩
      | exit i =>
        simp only [Ex.to, Exit.inBlock]
        cases hq : Nat.beq i id with
        | true =>
          have := Nat.eq_of_beq_eq_true hq
          simp only [hq, cond_true] at h'
          rw [if_pos this]
          exact ⟨.normal, σ', ρ', F', rfl, hs', h'⟩
        | false =>
          have hne : i ≠ id := fun e => by subst e; simp at hq
          simp only [hq, cond_false] at h'
          rw [if_neg hne]
          exact ⟨.exit i, σ', ρ', F', rfl, hs', h'⟩
      | ret => exact ⟨.ret, σ', ρ', F', rfl, hs', h'⟩
    | _ => simp [exec] at h
  | loop c ih =>
    intro ann σ K ρ F a w h hs
    cases ann with
    | loop L p =>
      simp only [exec] at h
      obtain ⟨t, σ1, h1, h2⟩ := run_some h
      generalize hf : (fun (again : VsI L.vs → Option R) (t : VsI L.vs) => (L.build nt.fix t).run St.empty ⟨[], []⟩ fun _ σ2 _ => exec E k nt c p σ2 fun e σ' => match e with
        | .normal => (L.take fun t => M.ret t).run σ' ⟨[], []⟩ fun t _ _ => again t
        | .exit i => K (.exit i) σ'
        | .ret => K .ret σ') = f at h2
      have start : ∀ {n : Nat} {t : VsI L.vs} {σ σ1 : St} {ρ : Rho} {F : Nat → Prop} {a : Act} {w : World}, Sim cx nt ρ F σ a w → (L.take fun t => M.ret t).exec σ = some (t, σ1) → lfix n f t = some r →
          ∃ t σ2 ρ F, (L.build nt.fix t).exec St.empty = some ((), σ2) ∧ Sim cx nt ρ F σ2 a w ∧ lfix n f t = some r := by
        intro n t σ σ1 ρ F a w hs h1 h2
        cases n with
        | zero => simp [lfix] at h2
        | succ n =>
          have h2' := h2
          simp only [lfix] at h2
          rw [← hf] at h2
          obtain ⟨u, σ2, h3, _⟩ := run_some h2
          obtain ⟨ρ2, F2, hs2⟩ := Live.pass hs h1 h3
          exact ⟨t, σ2, ρ2, F2, h3, hs2, h2'⟩
      refine wp_loop_ghost (fun n a w => ∃ t σ2 ρ F, (L.build nt.fix t).exec St.empty = some ((), σ2) ∧ Sim cx nt ρ F σ2 a w ∧ lfix n f t = some r) k (start hs h1 h2) ?_
      intro n a w ⟨t, σ2, ρ, F, hb, hs, hl⟩
      cases n with
      | zero => simp [lfix] at hl
      | succ n =>
        simp only [lfix] at hl
        rw [← hf] at hl
        simp only at hl
        rw [hf] at hl
        obtain ⟨u, σ3, h3, h4⟩ := run_some hl
        rw [hb] at h3
        cases h3
        refine wp_mono (ih p h4 hs) fun e a' w' hp => ?_
        obtain ⟨ex, σ', ρ', F', rfl, hs', h'⟩ := hp
        cases ex with
        | normal =>
          obtain ⟨t', σ4, h5, h6⟩ := run_some h'
          exact ⟨n, Nat.lt_succ_self n, start hs' h5 h6⟩
        | exit i => exact ⟨.exit i, σ', ρ', F', rfl, hs', h'⟩
        | ret => exact ⟨.ret, σ', ρ', F', rfl, hs', h'⟩
    | _ => simp [exec] at h
  | exit id =>
    intro ann σ K ρ F a w h hs
    simp only [exec] at h
    exact wp_exit ⟨.exit id, σ, ρ, F, rfl, hs, h⟩
  | ret =>
    intro ann σ K ρ F a w h hs
    simp only [exec] at h
    exact wp_ret ⟨.ret, σ, ρ, F, rfl, hs, h⟩
  | _ => intro ann σ K ρ F a w h hs; cases ann <;> simp [exec] at h
end
end Go.Gx

/-
  Gx, part F4: functions, and a program's table.
-/
set_option linter.unusedVariables false
set_option linter.unusedSimpArgs false
namespace Go.Gx
section
variable {P : Program} {cx : Ctx} {nt : Fr}
def resG (tmps : Array Value) : ResultVar → Sem Value
  | .tmp t => pure (tmps.getD t undef)
  | .cell a t => do loadVar t (← asAddr (tmps.getD a undef))
theorem results_eq (fn : Func) (tmps : Array Value) {vs : List Value} {w : World} (h : (fn.results.toList.mapM (resG tmps)).run P w = .ok vs w) : (results fn tmps).run P w = .ok (retV vs) w := by
  have h1 : results fn tmps = (do let vs ← fn.results.mapM (resG tmps); pure (if h : vs.size = 1 then vs[0] else .tuple vs)) := by
    unfold results
    congr 1
  rw [h1, Array.mapM_eq_mapM_toList]
  simp only [map_eq_pure_bind, bind_assoc, pure_bind]
  rw [Sem.run_bind, h]
  simp only [Result.andThen_ok, Sem.run_pure]
  match vs with
  | [] => rfl
  | [v] => rfl
  | v :: v' :: vs => simp [retV]
theorem resSV_sound {α : Type} {tt : TypeId → Option TI} (htt : ∀ t i, tt t = some i → tinfo P t = some i) {ρ : Rho} {F : Nat → Prop} {σ : St} {a : Act} {w : World} (hs : Sim cx nt ρ F σ a w) : ∀ {rs : List ResultVar} {k : List SV → M α} {r : α × St}, (resSV tt rs k).exec σ = some r →
    ∃ svs vs, (k svs).exec σ = some r ∧ All2 (VR ρ F w (σ.lv ρ)) svs vs ∧ (rs.mapM (resG a.tmps)).run P w = .ok vs w
  | [], k, r, h => ⟨[], [], h, trivial, rfl⟩
  | .tmp s :: rs, k, r, h => by
    simp only [resSV, M.exec] at h
    obtain ⟨svs, vs, h1, h2, h3⟩ := resSV_sound htt hs h
    exact ⟨_, _ :: vs, h1, ⟨hs.slots s, h2⟩, by simp [List.mapM_cons, resG, h3]⟩
  | .cell s t :: rs, k, r, h => by
    simp only [resSV] at h
    split at h
    · rename_i i hi
      simp only [M.exec] at h
      have hv := hs.slots s
      split at h
      · rename_i n o hb
        rw [hb] at hv
        obtain ⟨sv, v, ad, h1, h2, h3, h4⟩ := loadM_sound (htt _ _ hi) h hs hv
        obtain ⟨svs, vs, k1, k2, k3⟩ := resSV_sound htt hs h1
        exact ⟨_, v :: vs, k1, ⟨VR_of_LR1 h2, k2⟩, by simp [List.mapM_cons, resG, h3, asAddr, h4, k3]⟩
      · simp [M.exec] at h
    · simp [M.exec] at h
theorem BRVs_len {ρ : Rho} {F : Nat → Prop} {w : World} : ∀ {ss : List VS} {x : VsI ss} {vs : List Value} {bs : List Nat}, BRVs ρ F w ss x vs bs → vs.length = ss.length
  | [], _, _, _, h => by obtain ⟨rfl, _⟩ := h; rfl
  | s :: ss, x, vs, bs, h => by
    obtain ⟨v, vs', b1, b2, rfl, rfl, _, h2⟩ := h
    simp [BRVs_len h2]
theorem boxSlots_get : ∀ {ss : List VS} {pre vs : List Value}, vs.length = ss.length → (boxSlots ss pre.length).map (fun s => (pre ++ vs).getD s undef) = backVs ss vs
  | [], pre, [], _ => rfl
  | s :: ss, pre, [], h => by simp at h
  | [], pre, v :: vs, h => by simp at h
  | s :: ss, pre, v :: vs, h => by
    have ih := boxSlots_get (ss := ss) (pre := pre ++ [v]) (vs := vs) (by simpa using h)
    rw [List.length_append, List.length_singleton, List.append_assoc, List.singleton_append] at ih
    cases hb : s.back with
    | some s' =>
      simp only [boxSlots, hb, Option.isSome_some, cond_true, backVs, List.map_cons, ih]
      congr 1
      simp [List.getD_eq_getElem?_getD]
    | none => simpa [boxSlots, hb, backVs] using ih
def rhoIn (sg : Sig) (ρ0 : Rho) : Rho := ⟨ρ0.hd, ρ0.bx, ρ0.es, fun _ => [], fun n => n ∈ sg.names⟩
theorem out_sound {tt : TypeId → Option TI} (htt : ∀ t i, tt t = some i → tinfo P t = some i) {sg : Sig} {ρ0 : Rho} {fn : Func} {w0 : World} {F0 : Nat → Prop} {vs : List Value} {bs : List Nat} {ntmps : Nat} {ρ : Rho} {F : Nat → Prop} {σ σ1 : St} {a : Act} {w : World} {r : sg.R}
    (hs : Sim ⟨w0, F0, fun b => b ∈ bs, fun s => vs.getD s undef, rhoIn sg ρ0⟩ ⟨ntmps, boxSlots sg.ps 0, sg.names⟩ ρ F σ a w) (hl : vs.length = sg.ps.length) (h : (outM tt sg fn.results.toList).exec σ = some (r, σ1)) :
    ∃ v, (results fn a.tmps).run P w = .ok v w ∧ Out sg r ρ0 F0 w0 vs bs v w := by
  unfold outM at h
  obtain ⟨svs, rv, h1, h2, h3⟩ := resSV_sound htt hs h
  obtain ⟨bsv, h4, h5⟩ := evs_sound hs h1
  obtain ⟨x, σ2, F2, b1, h6, hs2, ht2, hb1⟩ := takeVs_sound h4 hs h2
  have hm : (boxSlots sg.ps 0).map (fun s => a.tmps.getD s undef) = backVs sg.ps vs := by
    have := boxSlots_get (ss := sg.ps) (pre := []) (vs := vs) hl
    rw [← this]
    refine List.map_congr_left fun s hm => ?_
    exact hs.pin s hm
  rw [hm] at h5
  obtain ⟨y, σ3, F3, b2, h7, hs3, ht3, hb2⟩ := takeVs_sound h6 hs2 (h5.imp fun _ _ h => VR_mono ht2.lv (fun _ _ => ρ.same_refl _) ht2.up (fun _ _ => rfl) h)
  simp only [M.exec, Option.some.injEq, Prod.mk.injEq] at h7
  obtain ⟨rfl, rfl⟩ := h7
  have ht := Tk.trans hs ht2 ht3
  refine ⟨retV rv, results_eq fn a.tmps h3, ρ.pull idB, rv, F3, b1, b2, rfl, hs.pr, fun n hn => (hs.fix n (hs.fxl n hn)).2, BRVs_mono ht3.up (fun _ _ => rfl) (fun _ _ => rfl) hb1, hb2, ht.nd, fun b hb => ?_, hs3.F0, hs3.Fb⟩
  obtain ⟨q1, n, q2, _⟩ := ht.hb b hb
  exact ⟨q1, (hs.own n b q2).2⟩
theorem runFn_sound {G : World → Prop} {E0 : Env} (hE0 : EnvCl G P E0) (hm : P.follows .mixedOrders = true) {k : Nat} {f : FuncId} {fi : FnI} {sg : Sig} {x : sg.A} {r : sg.R} (hf : P.funcs[f]? = some fi.fn) (hn : sg.ps.length ≤ fi.fn.ntmps) (h : runFn E0 k fi sg x = some r) : CallOK G P f sg x r := by
  let E : Env := ⟨E0.tt, fi.ty, E0.eqt, E0.sig, E0.cl, fi.vr⟩
  have hE1 : EnvCl G P E := ⟨⟨hE0.ok.tt, hE0.ok.eqt⟩, hE0.fn, hE0.cl⟩
  intro w ρ0 F vs bs hg hb hnd hbs hF
  unfold runFn at h
  split at h
  · cases h
  · rename_i c hc
    obtain ⟨u, σ0, h1, h2⟩ := run_some h
    have hl := BRVs_len hb
    refine calls_of_wp hf hc ?_
    have hget : ∀ s, (vs.toArray ++ Array.replicate (fi.fn.ntmps - vs.toArray.size) undef).getD s undef = vs.getD s undef := by
      intro s
      simp only [Array.getD_eq_getD_getElem?, Array.getElem?_append, List.size_toArray, List.getElem?_toArray, List.getD_eq_getElem?_getD, Array.getElem?_replicate]
      split
      · rfl
      · rename_i hge
        rw [List.getElem?_eq_none (by omega)]
        split <;> rfl
    unfold inM at h1
    replace h1 := test_exec h1; obtain ⟨hok, h1⟩ := h1
    obtain ⟨ok1, ok2, ok3⟩ := sig_ok hok
    have hs0 : Sim ⟨w, F, fun b => b ∈ bs, fun s => vs.getD s undef, rhoIn sg ρ0⟩ ⟨fi.fn.ntmps, boxSlots sg.ps 0, sg.names⟩ (rhoIn sg ρ0) F St.empty { tmps := vs.toArray ++ Array.replicate (fi.fn.ntmps - vs.toArray.size) undef, defers := [] } w :=
      ⟨rfl, by simp; omega, fun s _ => hget s, fun _ => trivial, fun _ => trivial, fun n m b _ h => by simp [St.empty, blk, Obj.held] at h, fun n b h => by simp [St.empty, blk, Obj.held] at h, fun b h => ⟨hF b h, .inl h⟩, fun _ h => h, Pr.refl _ _, rfl, fun n hn => hn, fun n hn => ⟨ok3 n hn, Rho.same_refl _ _⟩⟩
    have hnm : ∀ s ∈ sg.ps, ∀ i ∈ s.names, i ∈ sg.names := fun s hs i hi => List.mem_flatMap.2 ⟨s, hs, hi⟩
    obtain ⟨svs, σ1, ρ1, k1, k2, k3, k4, _⟩ := buildVs_sound (Q := fun m => liveBase ≤ m) (fun m h => by unfold liveBase at h; unfold liveId; omega) (fun m h => by omega) h1 hs0 hb (fun b hm => ⟨.inl hm, (hbs b hm).1, fun m hm => by simp [St.empty, blk, Obj.held] at hm⟩) hnd (Nat.le_refl _)
      (fun s hs i hi => ⟨⟨rfl, rfl, rfl⟩, .inl (.inr (hnm s hs i hi))⟩) (fun s hs i hi => .inr (hnm s hs i (selfsV_names i hi)))
    have hmap : (List.range sg.ps.length).map (fun s => (vs.toArray ++ Array.replicate (fi.fn.ntmps - vs.toArray.size) undef).getD s undef) = vs := by
      rw [← hl]
      apply List.ext_getElem
      · simp
      · intro i h1 h2
        rw [List.getElem_map, hget]
        simp [List.getD_eq_getElem?_getD, h2]
    have hs1 := puts_sound k1 k2 (by rw [hmap]; exact k4.imp fun _ _ h => VR_of_LR1 h)
    refine wp_mono (exec_sound (G := G) ⟨hE1, hg, fun b h1 h2 => (hbs b h2).1 h1, hF⟩ hm k c fi.ann h2 hs1) fun e a w' hp => ?_
    obtain ⟨ex, σ, ρ, F', rfl, hs, hk⟩ := hp
    cases ex with
    | exit i => cases hk
    | normal =>
      obtain ⟨r', σ2, q1, q2⟩ := run_some hk
      cases q2
      obtain ⟨v, q3, q4⟩ := out_sound (fn := fi.fn) hE1.ok.tt hs hl q1
      exact ⟨hs.defers, v, q3, v, rfl, q4⟩
    | ret =>
      obtain ⟨r', σ2, q1, q2⟩ := run_some hk
      cases q2
      obtain ⟨v, q3, q4⟩ := out_sound (fn := fi.fn) hE1.ok.tt hs hl q1
      exact ⟨hs.defers, v, q3, v, rfl, q4⟩
structure TabOK (G : World → Prop) (P : Program) (T : Tab) : Prop where
  ord : P.follows .mixedOrders = true
  ok : EnvOK P ⟨T.tt, fun _ => none, T.eqt, T.sig, fun _ _ _ => none, fun _ => 0⟩
  fnok : ∀ f sg, T.sig f = some sg → FnOK P (f % 100000)
  fns : ∀ f fi, T.fns f = some fi → P.funcs[f % 100000]? = some fi.fn
  arity : ∀ f fi sg, T.fns f = some fi → T.sig f = some sg → sg.ps.length ≤ fi.fn.ntmps
  ext : ∀ k f sg g x r, T.sig f = some sg → T.ext k f sg = some g → g x = some r → CallOK G P (f % 100000) sg x r
theorem Tab.call_sound {G : World → Prop} {T : Tab} (hT : TabOK G P T) : ∀ (k : Nat) (f : FuncId) (sg : Sig) (x : sg.A) (r : sg.R), T.sig f = some sg → T.call k f sg x = some r → CallOK G P (f % 100000) sg x r
  | 0, _, _, _, _, _, h => by simp [Tab.call] at h
  | k + 1, f, sg, x, r, hsg, h => by
    simp only [Tab.call] at h
    split at h
    · rename_i g hg
      exact hT.ext k f sg g x r hsg hg h
    · split at h
      · rename_i fi hfi
        refine runFn_sound (E0 := ⟨T.tt, fun _ => none, T.eqt, T.sig, fun f s => T.call k f s, fun _ => 0⟩) ⟨⟨hT.ok.tt, hT.ok.eqt⟩, hT.fnok, fun f sg x r h1 h2 => Tab.call_sound hT k f sg x r h1 h2⟩ hT.ord (hT.fns f fi hfi) (hT.arity f fi sg hfi hsg) h
      · cases h
end
end Go.Gx

/-
  Gx, part S: words of the printed functions.
-/
set_option linter.unusedVariables false
namespace Go.Gx
def chk {R : Type} (b : Bool) (o : Option R) : Option R := bif b then o else none
abbrev len {α : Type} (xs : List α) : Int := (xs.length : Int)
def w64 (z : Int) : Int := IntKind.wrap .i64 z
def wu8 (z : Int) : Int := IntKind.wrap .u8 z
def xor64 (x y : Int) : Int := IntKind.wrap .i64 ((BitVec.ofInt (IntKind.bits .i64) x ^^^ BitVec.ofInt (IntKind.bits .i64) y).toNat : Int)
def xor8 (x y : Int) : Int := IntKind.wrap .u8 ((BitVec.ofInt (IntKind.bits .u8) x ^^^ BitVec.ofInt (IntKind.bits .u8) y).toNat : Int)
def xorK (k : IntKind) (x y : Int) : Int := k.wrap ((BitVec.ofInt k.bits x ^^^ BitVec.ofInt k.bits y).toNat : Int)
def andK (k : IntKind) (x y : Int) : Int := k.wrap ((BitVec.ofInt k.bits x &&& BitVec.ofInt k.bits y).toNat : Int)
def orK (k : IntKind) (x y : Int) : Int := k.wrap ((BitVec.ofInt k.bits x ||| BitVec.ofInt k.bits y).toNat : Int)
def shlK (k : IntKind) (x y : Int) : Int := k.wrap (x * 2 ^ min y.toNat k.bits)
def shrK (k : IntKind) (x y : Int) : Int := x.fdiv (2 ^ min y.toNat k.bits)
/-- A table by numbers. -/
def lk {α : Type} : List (Nat × α) → Nat → Option α
  | [], _ => none
  | (m, a) :: r, n => bif Nat.beq m n then some a else lk r n
theorem lk_mem {α : Type} : ∀ {l : List (Nat × α)} {n : Nat} {a : α}, lk l n = some a → (n, a) ∈ l
  | [], n, a, h => by cases h
  | (m, b) :: r, n, a, h => by
    unfold lk at h
    cases hm : Nat.beq m n with
    | true =>
      rw [hm] at h
      cases h
      have := Nat.eq_of_beq_eq_true hm
      subst this
      exact List.mem_cons_self
    | false =>
      rw [hm] at h
      exact List.mem_cons_of_mem _ (lk_mem h)
def AllP {α : Type} (p : α → Prop) : List α → Prop
  | [] => True
  | a :: l => p a ∧ AllP p l
theorem AllP.mem {α : Type} {p : α → Prop} : ∀ {l : List α}, AllP p l → ∀ a ∈ l, p a
  | [], _, a, h => by cases h
  | b :: l, h, a, hm => by
    rcases List.mem_cons.1 hm with rfl | hm
    · exact h.1
    · exact h.2.mem a hm
end Go.Gx

/-
  Gx, part W: what is said of the printed functions: with rounds enough they answer, and so.
-/
set_option linter.unusedVariables false
set_option linter.unusedSimpArgs false
namespace Go.Gx
/-- With all budgets great enough the answer is one, and Q holds of it. -/
def Tot {R : Type} (f : (Nat → Nat) → Option R) (Q : R → Prop) : Prop :=
  ∃ r, Q r ∧ ∃ K, ∀ s : Nat → Nat, (∀ i, K ≤ s i) → f s = some r
section
variable {R S : Type} {Q Q' : R → Prop} {f g : (Nat → Nat) → Option R}
theorem Tot.mono (h : Tot f Q) (hq : ∀ r, Q r → Q' r) : Tot f Q' := by
  obtain ⟨r, h1, h2⟩ := h
  exact ⟨r, hq r h1, h2⟩
theorem tot_some {r : R} : Tot (fun _ => some r) Q ↔ Q r := by
  constructor
  · rintro ⟨r', h1, K, h2⟩
    have := h2 (fun _ => K) (fun _ => Nat.le_refl _)
    cases this
    exact h1
  · exact fun h => ⟨r, h, 0, fun _ _ => rfl⟩
theorem tot_chk {b : Bool} : Tot (fun s => chk b (f s)) Q ↔ b = true ∧ Tot f Q := by
  cases b with
  | true => simp [chk]
  | false =>
    simp only [chk, cond_false, Bool.false_eq_true, false_and, iff_false]
    rintro ⟨r, _, K, h⟩
    have := h (fun _ => K) (fun _ => Nat.le_refl _)
    cases this
theorem tot_cond {b : Bool} : Tot (fun s => bif b then f s else g s) Q ↔ (b = true → Tot f Q) ∧ (b = false → Tot g Q) := by
  cases b <;> simp
theorem tot_jn {T : Type} {f : (Nat → Nat) → T → Option R} {t : T} : Tot (fun s => jn (f s) t) Q ↔ Tot (fun s => f s t) Q := Iff.rfl
theorem Tot.bind {f : (Nat → Nat) → Option S} {g : (Nat → Nat) → S → Option R} {P : S → Prop} (h : Tot f P) (hg : ∀ x, P x → Tot (fun s => g s x) Q) : Tot (fun s => (f s).bind (g s)) Q := by
  obtain ⟨x, h1, K1, h2⟩ := h
  obtain ⟨r, h3, K2, h4⟩ := hg x h1
  refine ⟨r, h3, max K1 K2, fun s hs => ?_⟩
  show (f s).bind (g s) = some r
  rw [h2 s (fun i => by have := hs i; omega)]
  exact h4 s (fun i => by have := hs i; omega)
/-- The budgets but for one. -/
def upd (s : Nat → Nat) (i n : Nat) : Nat → Nat := fun j => bif Nat.beq j i then n else s j
theorem upd_eq (s : Nat → Nat) (i n : Nat) : upd s i n i = n := by simp [upd]
theorem upd_ne (s : Nat → Nat) {i j : Nat} (n : Nat) (h : j ≠ i) : upd s i n j = s j := by
  unfold upd
  cases hq : Nat.beq j i with
  | true => exact absurd (Nat.eq_of_beq_eq_true hq) h
  | false => rfl
/-- A function's call. -/
theorem Tot.call {F B : Nat → Option R} (he : ∀ k, F (k + 1) = B k) (h : Tot (fun s => B (s 0)) Q) : Tot (fun s => F (s 0)) Q := by
  obtain ⟨r, h1, K, h2⟩ := h
  refine ⟨r, h1, K + 1, fun s hs => ?_⟩
  obtain ⟨m, hm⟩ : ∃ m, s 0 = m + 1 := ⟨s 0 - 1, by have := hs 0; omega⟩
  show F (s 0) = some r
  rw [hm, he]
  have h3 : B (upd s 0 m 0) = some r := h2 (upd s 0 m) (fun i => by
    by_cases hi : i = 0
    · subst hi; rw [upd_eq]; have := hs 0; omega
    · rw [upd_ne _ _ hi]; have := hs i; omega)
  rwa [upd_eq] at h3
/-- It asks the budgets below i only. -/
def Dep {α : Type} (i : Nat) (f : (Nat → Nat) → α) : Prop := ∀ s s' : Nat → Nat, (∀ j, j < i → s j = s' j) → f s = f s'
theorem Dep.zero {α : Type} {i : Nat} (hi : 0 < i) (f : Nat → α) : Dep i (fun s => f (s 0)) := fun s s' h => by
  show f (s 0) = f (s' 0)
  rw [h 0 hi]
theorem Dep.mono {α : Type} {i j : Nat} {f : (Nat → Nat) → α} (h : Dep i f) (hij : i ≤ j) : Dep j f := fun s s' hs => h s s' fun k hk => hs k (by omega)
/-- A loop. 'L s n t': n rounds from t on; 'B s again t': a round. -/
theorem Tot.loop {T : Type} {L : (Nat → Nat) → Nat → T → Option R} {B : (Nat → Nat) → (T → Option R) → T → Option R} {Q : T → R → Prop} (i : Nat) (hi : 0 < i) (hL : Dep i L) (hB : Dep i B)
    (hs : ∀ s n t, L s (n + 1) t = B s (L s n) t) (I : T → Prop) (μ : T → Nat)
    (step : ∀ t, I t → ∀ again : (Nat → Nat) → T → Option R, Dep (i + 1) again → (∀ t', I t' → μ t' < μ t → Tot (fun s => again s t') (Q t')) → Tot (fun s => B s (again s) t) (Q t)) :
    ∀ t, I t → Tot (fun s => L s (s 0) t) (Q t) := by
  have key : ∀ (n : Nat) (t : T), μ t < n → I t → Tot (fun s => L s (s i) t) (Q t) := by
    intro n
    induction n with
    | zero => intro t h; omega
    | succ n ih =>
      intro t hn ht
      have hag : Dep (i + 1) (fun s t => L s (s i) t) := fun s s' h => by
        show (fun t => L s (s i) t) = (fun t => L s' (s' i) t)
        rw [hL s s' (fun j hj => h j (by omega)), h i (by omega)]
      obtain ⟨r, h1, K, h2⟩ := step t ht (fun s t => L s (s i) t) hag (fun t' ht' hlt => ih t' (by omega) ht')
      refine ⟨r, h1, K + 1, fun s hs' => ?_⟩
      obtain ⟨m, hm⟩ : ∃ m, s i = m + 1 := ⟨s i - 1, by have := hs' i; omega⟩
      show L s (s i) t = some r
      rw [hm, hs]
      have h3 : B (upd s i m) (fun t => L (upd s i m) (upd s i m i) t) t = some r := h2 (upd s i m) (fun j => by
        by_cases hj : j = i
        · subst hj; rw [upd_eq]; have := hs' j; omega
        · rw [upd_ne _ _ hj]; have := hs' j; omega)
      have e : ∀ j, j < i → (upd s i m) j = s j := fun j hj => upd_ne _ _ (by omega)
      rw [hB _ _ e, upd_eq, hL _ _ e] at h3
      exact h3
  intro t ht
  obtain ⟨r, h1, K, h2⟩ := key (μ t + 1) t (Nat.lt_succ_self _) ht
  refine ⟨r, h1, K, fun s hs' => ?_⟩
  have h3 : L (upd s i (s 0)) (upd s i (s 0) i) t = some r := h2 (upd s i (s 0)) (fun j => by
    by_cases hj : j = i
    · subst hj; rw [upd_eq]; exact hs' 0
    · rw [upd_ne _ _ hj]; exact hs' j)
  rw [upd_eq, hL (upd s i (s 0)) s (fun j hj => upd_ne _ _ (by omega))] at h3
  exact h3
/-- A loop that no other one holds. -/
theorem Tot.loop0 {T : Type} {L : Nat → Nat → T → Option R} {B : Nat → (T → Option R) → T → Option R} {Q : T → R → Prop} (hs : ∀ k n t, L k (n + 1) t = B k (L k n) t) (I : T → Prop) (μ : T → Nat)
    (step : ∀ t, I t → ∀ again : (Nat → Nat) → T → Option R, Dep 2 again → (∀ t', I t' → μ t' < μ t → Tot (fun s => again s t') (Q t')) → Tot (fun s => B (s 0) (again s) t) (Q t)) :
    ∀ t, I t → Tot (fun s => L (s 0) (s 0) t) (Q t) :=
  Tot.loop (L := fun s => L (s 0)) (B := fun s => B (s 0)) 1 (by decide) (Dep.zero (by decide) L) (Dep.zero (by decide) B) (fun s => hs (s 0)) I μ step
end

theorem w64_id {z : Int} (h1 : -9223372036854775808 ≤ z) (h2 : z ≤ 9223372036854775807) : w64 z = z := by
  unfold w64 IntKind.wrap
  simp [IntKind.bits, IntKind.signed]
  split <;> omega
theorem inb_iff {z : Int} {n : Nat} : inb z n = true ↔ 0 ≤ z ∧ z < (n : Int) := by simp [inb]
theorem cutb_iff {l h : Int} {n : Nat} : cutb l h n = true ↔ 0 ≤ l ∧ l ≤ h ∧ h ≤ (n : Int) := by simp [cutb]
theorem room_iff {n m : Nat} : room n m = true ↔ n + m ≤ 549755813888 := by unfold room lim; exact decide_eq_true_iff
theorem rdx_eq {α : Type} {d : α} {xs : List α} {z : Int} : rdx d xs z = xs.getD z.toNat d := rfl
theorem rdx_mem {α : Type} {d : α} {xs : List α} {z : Int} (h0 : 0 ≤ z) (h1 : z < (xs.length : Int)) : rdx d xs z ∈ xs := by
  have : z.toNat < xs.length := by omega
  rw [rdx_eq, List.getD_eq_getElem?_getD, List.getElem?_eq_getElem this]
  exact List.getElem_mem this
end Go.Gx

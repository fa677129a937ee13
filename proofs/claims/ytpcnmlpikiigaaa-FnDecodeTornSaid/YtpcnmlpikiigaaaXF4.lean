/-
  Gx, part F4: functions, and a program's table.
-/
import Derived.Test.YtpcnmlpikiigaaaXF3
set_option linter.unusedVariables false
set_option linter.unusedSimpArgs false
namespace Go.Gx
section
variable {P : Program} {cx : Ctx} {nt : Fr}
def resG (tmps : Array Value) : ResultVar → Sem Value
  | .tmp t => pure (tmps.getD t undef)
  | .cell a t => do loadVar t (← asAddr (tmps.getD a undef))
theorem results_eq (fn : Func) (tmps : Array Value) {vs : List Value} {w : World} (h : (fn.results.toList.mapM (resG tmps)).run P w = .ok vs w) : (results fn tmps).run P w = .ok (retV vs) w := by
  have h1 : results fn tmps = (do let vs ← fn.results.mapM (resG tmps); pure (if h : vs.size = 1 then vs[0] else .tuple vs)) := by
    unfold results
    congr 1
  rw [h1, Array.mapM_eq_mapM_toList]
  simp only [map_eq_pure_bind, bind_assoc, pure_bind]
  rw [Sem.run_bind, h]
  simp only [Result.andThen_ok, Sem.run_pure]
  match vs with
  | [] => rfl
  | [v] => rfl
  | v :: v' :: vs => simp [retV]
theorem resSV_sound {α : Type} {tt : TypeId → Option TI} (htt : ∀ t i, tt t = some i → tinfo P t = some i) {ρ : Rho} {F : Nat → Prop} {σ : St} {a : Act} {w : World} (hs : Sim cx nt ρ F σ a w) : ∀ {rs : List ResultVar} {k : List SV → M α} {r : α × St}, (resSV tt rs k).exec σ = some r →
    ∃ svs vs, (k svs).exec σ = some r ∧ All2 (VR ρ F w σ.live) svs vs ∧ (rs.mapM (resG a.tmps)).run P w = .ok vs w
  | [], k, r, h => ⟨[], [], h, trivial, rfl⟩
  | .tmp s :: rs, k, r, h => by
    simp only [resSV, M.exec] at h
    obtain ⟨svs, vs, h1, h2, h3⟩ := resSV_sound htt hs h
    exact ⟨_, _ :: vs, h1, ⟨hs.slots s, h2⟩, by simp [List.mapM_cons, resG, h3]⟩
  | .cell s t :: rs, k, r, h => by
    simp only [resSV] at h
    split at h
    · rename_i i hi
      simp only [M.exec] at h
      have hv := hs.slots s
      split at h
      · rename_i n o hb
        rw [hb] at hv
        obtain ⟨sv, v, ad, h1, h2, h3, h4⟩ := loadM_sound (htt _ _ hi) h hs hv
        obtain ⟨svs, vs, k1, k2, k3⟩ := resSV_sound htt hs h1
        exact ⟨_, v :: vs, k1, ⟨VR_of_LR1 h2, k2⟩, by simp [List.mapM_cons, resG, h3, asAddr, h4, k3]⟩
      · simp [M.exec] at h
    · simp [M.exec] at h
theorem BRVs_len {F : Nat → Prop} {w : World} : ∀ {ss : List VS} {x : VsI ss} {vs : List Value} {bs : List Nat}, BRVs F w ss x vs bs → vs.length = ss.length
  | [], _, _, _, h => by obtain ⟨rfl, _⟩ := h; rfl
  | s :: ss, x, vs, bs, h => by
    obtain ⟨v, vs', b1, b2, rfl, rfl, _, h2⟩ := h
    simp [BRVs_len h2]
theorem boxSlots_get : ∀ {ss : List VS} {pre vs : List Value}, vs.length = ss.length → (boxSlots ss pre.length).map (fun s => (pre ++ vs).getD s undef) = boxVs ss vs
  | [], pre, [], _ => rfl
  | s :: ss, pre, [], h => by simp at h
  | [], pre, v :: vs, h => by simp at h
  | s :: ss, pre, v :: vs, h => by
    have ih := boxSlots_get (ss := ss) (pre := pre ++ [v]) (vs := vs) (by simpa using h)
    rw [List.length_append, List.length_singleton, List.append_assoc, List.singleton_append] at ih
    cases s with
    | box e ls =>
      simp only [boxSlots, VS.isBox, cond_true, boxVs, List.map_cons, ih]
      congr 1
      simp [List.getD_eq_getElem?_getD]
    | leaf l => simpa [boxSlots, VS.isBox, boxVs] using ih
    | agg l => simpa [boxSlots, VS.isBox, boxVs] using ih
theorem out_sound {tt : TypeId → Option TI} (htt : ∀ t i, tt t = some i → tinfo P t = some i) {sg : Sig} {fn : Func} {w0 : World} {F0 : Nat → Prop} {vs : List Value} {bs : List Nat} {ntmps : Nat} {ρ : Rho} {F : Nat → Prop} {σ σ1 : St} {a : Act} {w : World} {r : sg.R}
    (hs : Sim ⟨w0, F0, fun b => b ∈ bs, fun s => vs.getD s undef⟩ ⟨ntmps, boxSlots sg.ps 0⟩ ρ F σ a w) (hl : vs.length = sg.ps.length) (h : (outM tt sg fn.results.toList).exec σ = some (r, σ1)) :
    ∃ v, (results fn a.tmps).run P w = .ok v w ∧ Out sg r F0 w0 vs bs v w := by
  unfold outM at h
  obtain ⟨svs, rv, h1, h2, h3⟩ := resSV_sound htt hs h
  obtain ⟨bsv, h4, h5⟩ := evs_sound hs h1
  obtain ⟨x, σ2, F2, b1, h6, hs2, ht2, hb1⟩ := takeVs_sound h4 hs h2
  have hm : (boxSlots sg.ps 0).map (fun s => a.tmps.getD s undef) = boxVs sg.ps vs := by
    have := boxSlots_get (ss := sg.ps) (pre := []) (vs := vs) hl
    rw [← this]
    refine List.map_congr_left fun s hm => ?_
    exact hs.pin s hm
  rw [hm] at h5
  obtain ⟨y, σ3, F3, b2, h7, hs3, ht3, hb2⟩ := takeVs_sound h6 hs2 (h5.imp fun _ _ h => VR_mono ht2.live (fun _ _ => ⟨rfl, rfl, rfl⟩) ht2.up (fun _ _ => rfl) h)
  simp only [M.exec, Option.some.injEq, Prod.mk.injEq] at h7
  obtain ⟨rfl, rfl⟩ := h7
  have ht := Tk.trans hs ht2 ht3
  refine ⟨retV rv, results_eq fn a.tmps h3, rv, F3, b1, b2, rfl, hs.pr, BRVs_mono ht3.up (fun _ _ => rfl) (fun _ _ => rfl) hb1, hb2, ht.nd, fun b hb => ?_, hs3.F0, hs3.Fb⟩
  obtain ⟨q1, n, q2, _⟩ := ht.hb b hb
  exact ⟨q1, (hs.own n b q2).2⟩
theorem runFn_sound {E0 : Env} (hE0 : EnvCl P E0) (hm : P.follows .mixedOrders = true) {k : Nat} {f : FuncId} {fi : FnI} {sg : Sig} {x : sg.A} {r : sg.R} (hf : P.funcs[f]? = some fi.fn) (hn : sg.ps.length ≤ fi.fn.ntmps) (h : runFn E0 k fi sg x = some r) : CallOK P f sg x r := by
  let E : Env := ⟨E0.tt, fi.ty, E0.eqt, E0.sig, E0.cl⟩
  have hE : EnvCl P E := ⟨⟨hE0.ok.tt, hE0.ok.eqt⟩, hE0.fn, hE0.cl⟩
  intro w F vs bs hb hnd hbs hF
  unfold runFn at h
  split at h
  · cases h
  · rename_i c hc
    obtain ⟨u, σ0, h1, h2⟩ := run_some h
    have hl := BRVs_len hb
    refine calls_of_wp hf hc ?_
    have hget : ∀ s, (vs.toArray ++ Array.replicate (fi.fn.ntmps - vs.toArray.size) undef).getD s undef = vs.getD s undef := by
      intro s
      simp only [Array.getD_eq_getD_getElem?, Array.getElem?_append, List.size_toArray, List.getElem?_toArray, List.getD_eq_getElem?_getD, Array.getElem?_replicate]
      split
      · rfl
      · rename_i hge
        rw [List.getElem?_eq_none (by omega)]
        split <;> rfl
    have hs0 : Sim ⟨w, F, fun b => b ∈ bs, fun s => vs.getD s undef⟩ ⟨fi.fn.ntmps, boxSlots sg.ps 0⟩ ⟨fun _ => undef, fun _ => 0, fun _ => 0⟩ F St.empty { tmps := vs.toArray ++ Array.replicate (fi.fn.ntmps - vs.toArray.size) undef, defers := [] } w :=
      ⟨rfl, by simp; omega, fun s _ => hget s, fun _ => trivial, fun _ => trivial, fun n m b _ h => by simp [St.empty, blk] at h, fun n b h => by simp [St.empty, blk] at h, fun b h => ⟨hF b h, .inl h⟩, fun _ h => h, Pr.refl _ _⟩
    unfold inM at h1
    obtain ⟨svs, σ1, ρ1, k1, k2, k3, k4⟩ := buildVs_sound h1 hs0 hb (fun b hm => ⟨.inl hm, (hbs b hm).1, fun m hm => by simp [St.empty, blk] at hm⟩) hnd
    have hmap : (List.range sg.ps.length).map (fun s => (vs.toArray ++ Array.replicate (fi.fn.ntmps - vs.toArray.size) undef).getD s undef) = vs := by
      rw [← hl]
      apply List.ext_getElem
      · simp
      · intro i h1 h2
        rw [List.getElem_map, hget]
        simp [List.getD_eq_getElem?_getD, h2]
    have hs1 := puts_sound k1 k2 (by rw [hmap]; exact k4.imp fun _ _ h => VR_of_LR1 h)
    refine wp_mono (exec_sound hE hm k c fi.ann h2 hs1) fun e a w' hp => ?_
    obtain ⟨ex, σ, ρ, F', rfl, hs, hk⟩ := hp
    cases ex with
    | exit i => cases hk
    | normal =>
      obtain ⟨r', σ2, q1, q2⟩ := run_some hk
      cases q2
      obtain ⟨v, q3, q4⟩ := out_sound (fn := fi.fn) hE.ok.tt hs hl q1
      exact ⟨hs.defers, v, q3, v, rfl, q4⟩
    | ret =>
      obtain ⟨r', σ2, q1, q2⟩ := run_some hk
      cases q2
      obtain ⟨v, q3, q4⟩ := out_sound (fn := fi.fn) hE.ok.tt hs hl q1
      exact ⟨hs.defers, v, q3, v, rfl, q4⟩
structure TabOK (P : Program) (T : Tab) : Prop where
  ord : P.follows .mixedOrders = true
  ok : EnvOK P ⟨T.tt, fun _ => none, T.eqt, T.sig, fun _ _ _ => none⟩
  fnok : ∀ f sg, T.sig f = some sg → FnOK P f
  fns : ∀ f fi, T.fns f = some fi → P.funcs[f]? = some fi.fn
  arity : ∀ f fi sg, T.fns f = some fi → T.sig f = some sg → sg.ps.length ≤ fi.fn.ntmps
  ext : ∀ k f sg g x r, T.sig f = some sg → T.ext k f sg = some g → g x = some r → CallOK P f sg x r
theorem Tab.call_sound {T : Tab} (hT : TabOK P T) : ∀ (k : Nat) (f : FuncId) (sg : Sig) (x : sg.A) (r : sg.R), T.sig f = some sg → T.call k f sg x = some r → CallOK P f sg x r
  | 0, _, _, _, _, _, h => by simp [Tab.call] at h
  | k + 1, f, sg, x, r, hsg, h => by
    simp only [Tab.call] at h
    split at h
    · rename_i g hg
      exact hT.ext k f sg g x r hsg hg h
    · split at h
      · rename_i fi hfi
        refine runFn_sound (E0 := ⟨T.tt, fun _ => none, T.eqt, T.sig, fun f s => T.call k f s⟩) ⟨⟨hT.ok.tt, hT.ok.eqt⟩, hT.fnok, fun f sg x r h1 h2 => Tab.call_sound hT k f sg x r h1 h2⟩ hT.ord (hT.fns f fi hfi) (hT.arity f fi sg hfi hsg) h
      · cases h
end
end Go.Gx

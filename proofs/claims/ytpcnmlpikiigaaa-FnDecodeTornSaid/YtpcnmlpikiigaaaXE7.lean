/-
  Gx, part E7: calls; every operation.
-/
import Derived.Test.YtpcnmlpikiigaaaXE6
set_option linter.unusedVariables false
set_option linter.unusedSimpArgs false
namespace Go.Gx
theorem opt_exec {α β : Type} {σ : St} {x : Option β} {k : β → M α} {r : α × St} (h : (M.opt x k).exec σ = some r) : ∃ b, x = some b ∧ (k b).exec σ = some r := by
  cases x with
  | none => cases h
  | some b => exact ⟨b, rfl, h⟩
def retV : List Value → Value
  | [v] => v
  | vs => .tuple vs.toArray
def boxVs : List VS → List Value → List Value
  | .box _ _ :: ss, v :: vs => v :: boxVs ss vs
  | _ :: ss, _ :: vs => boxVs ss vs
  | _, _ => []
/-- What a call comes to. -/
structure Out (sg : Sig) (r : sg.R) (F : Nat → Prop) (w : World) (vs : List Value) (bs : List Nat) (v : Value) (w' : World) : Prop where
  is : ∃ rv F' b1 b2, v = retV rv ∧ Pr (fun b => b ∈ bs) w w' ∧ BRVs F' w' sg.rs r.1 rv b1 ∧ BRVs F' w' (boxes sg.ps) r.2 (boxVs sg.ps vs) b2 ∧ (b1 ++ b2).Nodup ∧
    (∀ b ∈ b1 ++ b2, ¬ F' b ∧ (b ∈ bs ∨ w.heap.size ≤ b)) ∧ (∀ b, F b → F' b) ∧ (∀ b, F' b → b < w'.heap.size ∧ (F b ∨ b ∈ bs ∨ w.heap.size ≤ b))
def CallOK (P : Program) (f : FuncId) (sg : Sig) (x : sg.A) (r : sg.R) : Prop :=
  ∀ (w : World) (F : Nat → Prop) (vs : List Value) (bs : List Nat), BRVs F w sg.ps x vs bs → bs.Nodup → (∀ b ∈ bs, ¬ F b ∧ b < w.heap.size) → (∀ b, F b → b < w.heap.size) →
    Calls P f vs.toArray w fun e w' => ∃ v, e = .returned v ∧ Out sg r F w vs bs v w'
def FnOK (P : Program) (f : FuncId) : Prop := ∃ fn, P.funcs[f]? = some fn ∧ (fn.name == "runtime.NumGoroutine") = false ∧ fn.body.isNone = false
structure EnvCl (P : Program) (E : Env) : Prop where
  ok : EnvOK P E
  fn : ∀ f sg, E.sig f = some sg → FnOK P f
  cl : ∀ f sg x r, E.sig f = some sg → E.cl f sg x = some r → CallOK P f sg x r
section
variable {P : Program} {cx : Ctx} {nt : Fr} {ρ : Rho} {F : Nat → Prop} {σ σ' : St} {a : Act} {w w' : World} {o : Oper} {K : Act → World → Prop} {Q : Exit → Act → World → Prop}
theorem Tk.free {F1 : Nat → Prop} {σ1 : St} {bs : List Nat} (hs : Sim cx nt ρ F σ a w) (h : Tk ρ F F1 σ σ1 bs) : ∀ b ∈ bs, Free cx ρ F1 σ1 b := by
  intro b hb
  obtain ⟨h1, n, hn, hd⟩ := h.hb b hb
  refine ⟨(hs.own n b hn).2, h1, fun m hm => ?_⟩
  rcases h.ob m with h2 | ⟨h2, _⟩
  · rw [h2] at hm
    by_cases e : n = m
    · subst e; rw [← h2, hd] at hm; simp [blk] at hm
    · exact hs.disj n m b e hn hm
  · rw [h2] at hm; simp [blk] at hm
theorem boxIds_ok {lv : Nat → Prop} : ∀ {ss : List VS} {svs : List SV} {vs : List Value}, boxOk ss svs = true → All2 (VR ρ F w lv) svs vs → All2 (fun n v => lv n ∧ v = .pointer (some ⟨ρ.bx n, 0, none⟩)) (boxIds ss svs) (boxVs ss vs)
  | [], svs, vs, _, _ => by simp [boxIds, boxVs, All2]
  | s :: ss, [], vs, _, hv => by rw [hv.nil_left]; simp [boxIds, boxVs, All2]
  | s :: ss, sv :: svs, [], _, hv => hv.elim
  | .leaf l :: ss, sv :: svs, v :: vs, h, hv => by
    have h' : boxOk ss svs = true := by simpa [boxOk] using h
    simpa [boxIds, boxVs] using boxIds_ok h' hv.2
  | .agg ls :: ss, sv :: svs, v :: vs, h, hv => by
    have h' : boxOk ss svs = true := by simpa [boxOk] using h
    simpa [boxIds, boxVs] using boxIds_ok h' hv.2
  | .box e ls :: ss, sv :: svs, v :: vs, h, hv => by
    cases sv with
    | box n off =>
      cases off with
      | succ off => simp [boxOk] at h
      | zero =>
        have h' : boxOk ss svs = true := by simpa [boxOk] using h
        simp only [boxIds, boxVs]
        exact ⟨hv.1, boxIds_ok h' hv.2⟩
    | _ => simp [boxOk] at h
theorem plain_boxes : ∀ {ss : List VS}, ss.all VS.plain = true → boxes ss = []
  | [], _ => rfl
  | s :: ss, h => by
    simp only [List.all_cons, Bool.and_eq_true] at h
    cases s with
    | box e ls => simp [VS.plain] at h
    | _ => simp [boxes, VS.isBox, plain_boxes h.2]
theorem ret_VR {lv : Nat → Prop} {svs : List SV} {vs : List Value} (h : All2 (LR1 ρ F w lv) svs vs) : VR ρ F w lv (retSV svs) (retV vs) := by
  match svs, vs, h with
  | [], [], h => exact ⟨#[], rfl, trivial⟩
  | [sv], [v], h => exact VR_of_LR1 h.1
  | sv :: sv' :: svs, v :: v' :: vs, h => exact ⟨(v :: v' :: vs).toArray, rfl, by simpa using h⟩
  | [], _ :: _, h => exact h.elim
  | _ :: _, [], h => exact h.elim
  | [_], _ :: _ :: _, h => exact h.2.elim
  | _ :: _ :: _, [_], h => exact h.2.elim
/-- The world goes on; blocks that are nobody's may have changed, or become read-only. -/
theorem Sim.goes {F' : Nat → Prop} (hs : Sim cx nt ρ F σ a w) (Ad : Nat → Prop) (hAd : ∀ b, Ad b → Free cx ρ F σ b) (hp : Pr Ad w w') (hF : ∀ b, F b → F' b) (hF' : ∀ b, F' b → F b ∨ (b < w'.heap.size ∧ (w.heap.size ≤ b ∨ Ad b))) : Sim cx nt ρ F' σ a w' :=
  hs.step (fun _ => False) Ad Ad hp hAd (fun b hb _ => .inr hb) (fun _ _ => rfl) (fun _ h => h) (fun _ _ => ⟨rfl, rfl, rfl⟩) hF (fun b hb => (hF' b hb).imp id fun h => ⟨h.1, .inr h.2⟩) (fun _ h => h.elim) (fun _ _ h => h.elim) (fun _ _ _ h => h.elim) hs.defers hs.size hs.pin (fun s => .inl ⟨rfl, rfl⟩)
theorem call_sound {E : Env} (hE : EnvCl P E) {f : FuncId} {sg : Sig} {args : List SV} {vs : List Value} {id : Nat} {kk : SV → MU} {r : Unit × St} (hsg : E.sig f = some sg) (h : (callM sg (E.cl f sg) args id kk).exec σ = some r) (hs : Sim cx nt ρ F σ a w) (hv : All2 (VR ρ F w σ.live) args vs) :
    Calls P f vs.toArray w fun e w' => ∃ v, e = .returned v ∧ ∃ sv σ1 ρ1 F1, (kk sv).exec σ1 = some r ∧ Sim cx nt ρ1 F1 σ1 a w' ∧ VR ρ1 F1 w' σ1.live sv v := by
  unfold callM at h
  replace h := test_exec h; obtain ⟨hbx, h⟩ := h
  cases hl : sg.lends with
  | true =>
    rw [hl] at h
    simp only [Sig.lends, Bool.and_eq_true] at hl
    obtain ⟨x, h1, hb⟩ := lendVs_sound hs h hl.2 hv
    obtain ⟨y, hy, h1⟩ := opt_exec h1
    · refine (hE.cl f sg x y hsg hy w (Lent ρ F σ) vs [] hb (by simp) (by simp) (fun b hb => ?_)).mono ?_
      · rcases hb with hb | ⟨n, hn⟩
        · exact (hs.Fb b hb).1
        · exact blk_lt (hs.objs n) hn
      · rintro e w' ⟨v, rfl, ⟨rv, F', b1, b2, rfl, hp, hr1, hr2, hnd, hbs, hF1, hF2⟩⟩
        refine ⟨_, rfl, ?_⟩
        have hs' : Sim cx nt ρ F σ a w' := hs.goes (fun _ => False) (fun _ h => h.elim) (hp.mono fun b hb => by simp at hb) (fun _ h => h) (fun _ h => .inl h)
        have hk : (buildVs sg.rs y.1 id fun svs => kk (retSV svs)).exec σ = some r := by
          have hpb := plain_boxes hl.2
          have : ∀ (ss : List VS) (h0 : ss = []) (q : VsI ss) (ns : List Nat) (i : Nat) (K : MU), (backs ss q ns i K).exec σ = some r → K.exec σ = some r := by
            intro ss h0; subst h0; intro q ns i K h; simpa [backs] using h
          exact this _ hpb _ _ _ _ h1
        rw [List.nodup_append] at hnd
        obtain ⟨svs, σ1, ρ1, h2, h3, h4, h5⟩ := buildVs_sound hk hs' (BRVs_flat hl.1 hr1) (fun b hb => by
          have := (hbs b (List.mem_append_left _ hb)).2
          have hge : w.heap.size ≤ b := by simpa using this
          exact ⟨.inr (Nat.le_trans hs.pr.size hge), fun hf => by have := (hs.Fb b hf).1; omega, fun m hm => by have := blk_lt (hs.objs m) hm; omega⟩) hnd.1
        exact ⟨_, σ1, ρ1, F, h2, h3, ret_VR h5⟩
  | false =>
    rw [hl] at h
    obtain ⟨x, σ1, F1, bs, h1, hs1, htk, hb⟩ := takeVs_sound h hs hv
    obtain ⟨y, hy, h1⟩ := opt_exec h1
    · have hfree := htk.free hs
      refine (hE.cl f sg x y hsg hy w F1 vs bs hb htk.nd (fun b hb => ⟨(htk.hb b hb).1, ?_⟩) (fun b hb => (hs1.Fb b hb).1)).mono ?_
      · obtain ⟨_, n, hn, _⟩ := htk.hb b hb
        exact blk_lt (hs.objs n) hn
      · rintro e w' ⟨v, rfl, ⟨rv, F', b1, b2, rfl, hp, hr1, hr2, hnd, hbs, hF1, hF2⟩⟩
        refine ⟨_, rfl, ?_⟩
        have hs' : Sim cx nt ρ F' σ1 a w' := hs1.goes (fun b => b ∈ bs) hfree hp hF1 (fun b hb => by
          obtain ⟨q1, q2⟩ := hF2 b hb
          rcases q2 with q2 | q2 | q2
          · exact .inl q2
          · exact .inr ⟨q1, .inr q2⟩
          · exact .inr ⟨q1, .inl q2⟩)
        have hfr : ∀ b ∈ b1 ++ b2, Free cx ρ F' σ1 b := fun b hb => by
          obtain ⟨q1, q2⟩ := hbs b hb
          rcases q2 with q2 | q2
          · exact ⟨(hfree b q2).1, q1, (hfree b q2).2.2⟩
          · exact ⟨.inr (Nat.le_trans hs.pr.size q2), q1, fun m hm => by have := blk_lt (hs1.objs m) hm; omega⟩
        rw [List.nodup_append] at hnd
        have hids := boxIds_ok hbx hv
        obtain ⟨σ2, ρ2, h2, h3, h4⟩ := backs_sound h1 hs' (hids.imp fun n v hn => ⟨htk.live n hn.1, hn.2⟩) hr2 (fun b hb => hfr b (List.mem_append_right _ hb)) hnd.2.1
        obtain ⟨svs, σ3, ρ3, h5, h6, h7, h8⟩ := buildVs_sound h2 h3 hr1 (fun b hb => h4.free (hfr b (List.mem_append_left _ hb)) (fun hb' => hnd.2.2 b hb b hb' rfl)) hnd.1
        exact ⟨_, σ3, ρ3, F', h5, h6, ret_VR h8⟩
end
end Go.Gx

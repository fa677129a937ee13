/-
  Gx, part D2: lists of values taken, lent and built.
-/
import Derived.Test.YtpcnmlpikiigaaaXD
set_option linter.unusedVariables false
set_option linter.unusedSimpArgs false
namespace Go.Gx
section
variable {α : Type} {cx : Ctx} {nt : Fr}
theorem takeLs_sound {a : Act} {w : World} {r : α × St} {ρ : Rho} : ∀ {ls : List LS} {svs : List SV} {K : LsI ls → M α} {vs : List Value} {F : Nat → Prop} {σ : St}, (takeLs false ls svs K).exec σ = some r → Sim cx nt ρ F σ a w → All2 (LR0 ρ F w σ.live) svs vs →
    ∃ x σ1 F1 bs, (K x).exec σ1 = some r ∧ Sim cx nt ρ F1 σ1 a w ∧ Tk ρ F F1 σ σ1 bs ∧ BRLs F1 w ls x vs bs
  | [], [], K, vs, F, σ, h, hs, hv => ⟨(), σ, F, [], h, hs, Tk.refl _ _ _, hv.nil_left, rfl⟩
  | [], _ :: _, K, vs, F, σ, h, hs, hv => by simp [takeLs, M.exec] at h
  | _ :: _, [], K, vs, F, σ, h, hs, hv => by simp [takeLs, M.exec] at h
  | l :: ls, sv :: svs, K, [], F, σ, h, hs, hv => hv.elim
  | l :: ls, sv :: svs, K, v :: vs, F, σ, h, hs, hv => by
    simp only [takeLs] at h
    obtain ⟨x, σ1, F1, b1, h1, hs1, ht1, hb1⟩ := takeL_sound h hs hv.1
    obtain ⟨y, σ2, F2, b2, h2, hs2, ht2, hb2⟩ := takeLs_sound h1 hs1 (hv.2.imp fun _ _ h => LR0_mono ht1.live (fun _ _ => ⟨rfl, rfl, rfl⟩) ht1.up (fun _ _ => rfl) h)
    exact ⟨(x, y), σ2, F2, b1 ++ b2, h2, hs2, Tk.trans hs ht1 ht2, v, vs, b1, b2, rfl, rfl, BRL_mono ht2.up (fun _ _ => rfl) (fun _ _ => rfl) hb1, hb2⟩
theorem takeV_sound {a : Act} {w : World} {r : α × St} {ρ : Rho} {s : VS} {sv : SV} {K : s.I → M α} {v : Value} {F : Nat → Prop} {σ : St} (h : (takeV false s sv K).exec σ = some r) (hs : Sim cx nt ρ F σ a w) (hv : VR ρ F w σ.live sv v) :
    ∃ x σ1 F1 bs, (K x).exec σ1 = some r ∧ Sim cx nt ρ F1 σ1 a w ∧ Tk ρ F F1 σ σ1 bs ∧ BRV F1 w s x v bs := by
  cases s with
  | leaf l =>
    simp only [takeV] at h
    by_cases hl : l = .skip
    · subst hl
      have h' : (K ()).exec σ = some r := by cases sv <;> exact h
      exact ⟨(), σ, F, [], h', hs, Tk.refl _ _ _, rfl⟩
    · have hv0 : LR0 ρ F w σ.live sv v := by
        cases sv with
        | agg vs => cases l <;> first | exact absurd rfl hl | simp [takeL, M.exec] at h
        | tup vs => cases l <;> first | exact absurd rfl hl | simp [takeL, M.exec] at h
        | rp vs => cases l <;> first | exact absurd rfl hl | simp [takeL, M.exec] at h
        | _ => exact hv
      exact takeL_sound h hs hv0
  | agg ls =>
    cases sv with
    | agg vs =>
      simp only [takeV] at h
      obtain ⟨us, rfl, hu⟩ := hv
      obtain ⟨x, σ1, F1, bs, h1, h2, h3, h4⟩ := takeLs_sound h hs hu
      exact ⟨x, σ1, F1, bs, h1, h2, h3, us, rfl, h4⟩
    | _ => simp [takeV, M.exec] at h
  | box e ls =>
    cases sv with
    | box n off =>
      cases off with
      | succ off => simp [takeV, M.exec] at h
      | zero =>
      obtain ⟨hl, rfl⟩ := hv
      simp only [takeV, M.exec] at h
      split at h
      · rename_i e' vs ho
        obtain ⟨he, h⟩ := test_exec h
        have := Nat.eq_of_beq_eq_true he
        subst this
        simp only [M.exec] at h
        have hob := hs.objs n
        rw [ho] at hob
        obtain ⟨us, hg, hu⟩ := hob
        have hk := hs.kill hl false
        have hkt := Tk.kill hs hl false
        have hbk : blk ρ n (σ.ob n) = some (ρ.bx n) := by rw [ho]; rfl
        simp only [Bool.false_eq_true, if_false, hbk, Option.toList_some] at hkt
        obtain ⟨x, σ1, F1, bs, h1, h2, h3, h4⟩ := takeLs_sound h hk (hu.imp fun _ _ h => LR0_mono hkt.live (fun _ _ => ⟨rfl, rfl, rfl⟩) (fun _ h => .inl h) (fun _ _ => rfl) h)
        refine ⟨x, σ1, F1, ρ.bx n :: bs, h1, h2, ?_, ρ.bx n, us, bs, rfl, hg, rfl, h4⟩
        have := Tk.trans hs hkt (by simpa [hbk] using h3)
        simpa using this
      · simp [M.exec] at h
    | _ => simp [takeV, M.exec] at h
theorem takeVs_sound {a : Act} {w : World} {r : α × St} {ρ : Rho} : ∀ {ss : List VS} {svs : List SV} {K : VsI ss → M α} {vs : List Value} {F : Nat → Prop} {σ : St}, (takeVs false ss svs K).exec σ = some r → Sim cx nt ρ F σ a w → All2 (VR ρ F w σ.live) svs vs →
    ∃ x σ1 F1 bs, (K x).exec σ1 = some r ∧ Sim cx nt ρ F1 σ1 a w ∧ Tk ρ F F1 σ σ1 bs ∧ BRVs F1 w ss x vs bs
  | [], [], K, vs, F, σ, h, hs, hv => ⟨(), σ, F, [], h, hs, Tk.refl _ _ _, hv.nil_left, rfl⟩
  | [], _ :: _, K, vs, F, σ, h, hs, hv => by simp [takeVs, M.exec] at h
  | _ :: _, [], K, vs, F, σ, h, hs, hv => by simp [takeVs, M.exec] at h
  | l :: ls, sv :: svs, K, [], F, σ, h, hs, hv => hv.elim
  | l :: ls, sv :: svs, K, v :: vs, F, σ, h, hs, hv => by
    simp only [takeVs] at h
    obtain ⟨x, σ1, F1, b1, h1, hs1, ht1, hb1⟩ := takeV_sound h hs hv.1
    obtain ⟨y, σ2, F2, b2, h2, hs2, ht2, hb2⟩ := takeVs_sound h1 hs1 (hv.2.imp fun _ _ h => VR_mono ht1.live (fun _ _ => ⟨rfl, rfl, rfl⟩) ht1.up (fun _ _ => rfl) h)
    exact ⟨(x, y), σ2, F2, b1 ++ b2, h2, hs2, Tk.trans hs ht1 ht2, v, vs, b1, b2, rfl, rfl, BRV_mono ht2.up (fun _ _ => rfl) (fun _ _ => rfl) hb1, hb2⟩

/-! ### Lending -/
def Lent (ρ : Rho) (F : Nat → Prop) (σ : St) (b : Nat) : Prop := F b ∨ ∃ n, blk ρ n (σ.ob n) = some b
theorem lendL_sound {a : Act} {w : World} {r : α × St} {ρ : Rho} {l : LS} {sv : SV} {K : l.I → M α} {v : Value} {F : Nat → Prop} {σ : St} (h : (takeL true l sv K).exec σ = some r) (hp : l.plain = true) (hs : Sim cx nt ρ F σ a w) (hv : LR0 ρ F w σ.live sv v) :
    ∃ x, (K x).exec σ = some r ∧ BRL (Lent ρ F σ) w l x v [] := by
  unfold takeL at h
  split at h
  · obtain ⟨h1, h2⟩ := test_exec h
    have := of_decide_eq_true h1
    subst this
    exact ⟨_, h2, hv, rfl⟩
  · exact ⟨_, h, hv, rfl⟩
  · exact ⟨_, h, hv, rfl⟩
  · refine ⟨_, h, ?_, rfl⟩
    have : v = .slice none 0 0 := hv
    subst this
    exact ⟨none, 0, rfl, Nat.le_refl _, by simp [maxLen], fun i x hi => by simp at hi⟩
  · obtain ⟨ys, hc, h1⟩ := convL_exec h
    exact ⟨_, h1, hc.TC (TC_mono (fun _ h => .inl h) (fun _ _ => rfl) hv), rfl⟩
  · rename_i t n K
    obtain ⟨hl, rfl, _⟩ := hv
    simp only [M.exec] at h
    split at h
    · rename_i e t' xs ho
      obtain ⟨ys, hcv, h1⟩ := convL_exec h
      simp only [cond_true] at h1
      have hob := hs.objs n
      rw [ho] at hob
      obtain ⟨hes, cells, hrow, hc⟩ := hob
      have hbk : blk ρ n (σ.ob n) = (ρ.hd n).ownBlock := by rw [ho]; rfl
      exact ⟨_, h1, hcv.TC (ro_of_row hrow hc (fun _ h => .inl h) (fun b hb => .inr ⟨n, by rw [hbk]; exact hb⟩)), rfl⟩
    · simp [M.exec] at h
  · rename_i t n lo hi K
    obtain ⟨hl, hsub⟩ := hv
    simp only [M.exec] at h
    split at h
    · rename_i e t' xs ho
      obtain ⟨ys, hcv, h1⟩ := convL_exec h
      simp only [cond_true] at h1
      have hob := hs.objs n
      rw [ho] at hob
      obtain ⟨hes, cells, hrow, hc⟩ := hob
      have hbk : blk ρ n (σ.ob n) = (ρ.hd n).ownBlock := by rw [ho]; rfl
      rw [hes] at hsub
      exact ⟨_, h1, (hcv.sub lo hi).TC <| TC_sub (ro_of_row hrow hc (fun _ h => .inl h) (fun b hb => .inr ⟨n, by rw [hbk]; exact hb⟩)) hsub, rfl⟩
    · simp [M.exec] at h
  · obtain ⟨ys, hc, h1⟩ := convL_exec h
    exact ⟨_, h1, hc.TC (TC_roo (TC_mono (fun _ h => .inl h) (fun _ _ => rfl) hv)), rfl⟩
  · exact ⟨_, h, hv, rfl⟩
  · obtain ⟨h1, h2⟩ := test_exec h
    have := Nat.eq_of_beq_eq_true h1
    subst this
    exact ⟨_, h2, hv, rfl⟩
  · exact ⟨_, h, hv, rfl⟩
  · simp [LS.plain] at hp
  · simp [LS.plain] at hp
  · simp [LS.plain] at hp
  · simp [LS.plain] at hp
  · exact ⟨_, h, rfl⟩
  · simp [M.exec] at h
theorem lendLs_sound {a : Act} {w : World} {r : α × St} {ρ : Rho} {F : Nat → Prop} {σ : St} (hs : Sim cx nt ρ F σ a w) : ∀ {ls : List LS} {svs : List SV} {K : LsI ls → M α} {vs : List Value}, (takeLs true ls svs K).exec σ = some r → ls.all LS.plain = true → All2 (LR0 ρ F w σ.live) svs vs →
    ∃ x, (K x).exec σ = some r ∧ BRLs (Lent ρ F σ) w ls x vs []
  | [], [], K, vs, h, hp, hv => ⟨(), h, hv.nil_left, rfl⟩
  | [], _ :: _, K, vs, h, hp, hv => by simp [takeLs, M.exec] at h
  | _ :: _, [], K, vs, h, hp, hv => by simp [takeLs, M.exec] at h
  | l :: ls, sv :: svs, K, [], h, hp, hv => hv.elim
  | l :: ls, sv :: svs, K, v :: vs, h, hp, hv => by
    simp only [List.all_cons, Bool.and_eq_true] at hp
    simp only [takeLs] at h
    obtain ⟨x, h1, hb1⟩ := lendL_sound h hp.1 hs hv.1
    obtain ⟨y, h2, hb2⟩ := lendLs_sound hs h1 hp.2 hv.2
    exact ⟨(x, y), h2, v, vs, [], [], rfl, rfl, hb1, hb2⟩
theorem lendV_sound {a : Act} {w : World} {r : α × St} {ρ : Rho} {s : VS} {sv : SV} {K : s.I → M α} {v : Value} {F : Nat → Prop} {σ : St} (h : (takeV true s sv K).exec σ = some r) (hp : s.plain = true) (hs : Sim cx nt ρ F σ a w) (hv : VR ρ F w σ.live sv v) :
    ∃ x, (K x).exec σ = some r ∧ BRV (Lent ρ F σ) w s x v [] := by
  cases s with
  | leaf l =>
    simp only [takeV] at h
    by_cases hl : l = .skip
    · subst hl
      have h' : (K ()).exec σ = some r := by cases sv <;> exact h
      exact ⟨(), h', rfl⟩
    · have hv0 : LR0 ρ F w σ.live sv v := by
        cases sv with
        | agg vs => cases l <;> first | exact absurd rfl hl | simp [takeL, M.exec] at h
        | tup vs => cases l <;> first | exact absurd rfl hl | simp [takeL, M.exec] at h
        | rp vs => cases l <;> first | exact absurd rfl hl | simp [takeL, M.exec] at h
        | _ => exact hv
      exact lendL_sound h hp hs hv0
  | agg ls =>
    cases sv with
    | agg vs =>
      simp only [takeV] at h
      obtain ⟨us, rfl, hu⟩ := hv
      obtain ⟨x, h1, h4⟩ := lendLs_sound hs h hp hu
      exact ⟨x, h1, us, rfl, h4⟩
    | _ => simp [takeV, M.exec] at h
  | box e ls => simp [VS.plain] at hp
theorem lendVs_sound {a : Act} {w : World} {r : α × St} {ρ : Rho} {F : Nat → Prop} {σ : St} (hs : Sim cx nt ρ F σ a w) : ∀ {ss : List VS} {svs : List SV} {K : VsI ss → M α} {vs : List Value}, (takeVs true ss svs K).exec σ = some r → ss.all VS.plain = true → All2 (VR ρ F w σ.live) svs vs →
    ∃ x, (K x).exec σ = some r ∧ BRVs (Lent ρ F σ) w ss x vs []
  | [], [], K, vs, h, hp, hv => ⟨(), h, hv.nil_left, rfl⟩
  | [], _ :: _, K, vs, h, hp, hv => by simp [takeVs, M.exec] at h
  | _ :: _, [], K, vs, h, hp, hv => by simp [takeVs, M.exec] at h
  | l :: ls, sv :: svs, K, [], h, hp, hv => hv.elim
  | l :: ls, sv :: svs, K, v :: vs, h, hp, hv => by
    simp only [List.all_cons, Bool.and_eq_true] at hp
    simp only [takeVs] at h
    obtain ⟨x, h1, hb1⟩ := lendV_sound h hp.1 hs hv.1
    obtain ⟨y, h2, hb2⟩ := lendVs_sound hs h1 hp.2 hv.2
    exact ⟨(x, y), h2, v, vs, [], [], rfl, rfl, hb1, hb2⟩

/-! ### Building -/
structure Bd (ρ ρ1 : Rho) (σ σ1 : St) (bs : List Nat) : Prop where
  sl : σ1.sl = σ.sl
  ob : ∀ m, σ.live m → σ1.ob m = σ.ob m ∨ σ.ob m = .dead
  lv : ∀ m, σ.live m → σ1.live m
  rho : ∀ m, σ.live m → ρ1.hd m = ρ.hd m ∧ ρ1.bx m = ρ.bx m ∧ ρ1.es m = ρ.es m
  nb : ∀ m b, blk ρ1 m (σ1.ob m) = some b → blk ρ m (σ.ob m) = some b ∨ b ∈ bs
theorem Bd.refl (ρ : Rho) (σ : St) (bs : List Nat) : Bd ρ ρ σ σ bs := ⟨rfl, fun _ _ => .inl rfl, fun _ h => h, fun _ _ => ⟨rfl, rfl, rfl⟩, fun _ _ h => .inl h⟩
theorem Bd.trans {ρ ρ1 ρ2 : Rho} {σ σ1 σ2 : St} {b1 b2 : List Nat} (h : Bd ρ ρ1 σ σ1 b1) (h' : Bd ρ1 ρ2 σ1 σ2 b2) : Bd ρ ρ2 σ σ2 (b1 ++ b2) := by
  refine ⟨h'.sl.trans h.sl, fun m hm => ?_, fun m hm => h'.lv m (h.lv m hm), fun m hm => ?_, fun m b hb => ?_⟩
  · rcases h'.ob m (h.lv m hm) with h1 | h1
    · rcases h.ob m hm with h2 | h2
      · exact .inl (h1.trans h2)
      · exact .inr h2
    · rcases h.ob m hm with h2 | h2
      · exact .inr (h2.symm.trans h1)
      · exact .inr h2
  · obtain ⟨x1, x2, x3⟩ := h.rho m hm
    obtain ⟨y1, y2, y3⟩ := h'.rho m (h.lv m hm)
    exact ⟨y1.trans x1, y2.trans x2, y3.trans x3⟩
  · rcases h'.nb m b hb with h1 | h1
    · rcases h.nb m b h1 with h2 | h2
      · exact .inl h2
      · exact .inr (List.mem_append_left _ h2)
    · exact .inr (List.mem_append_right _ h1)
theorem Bd.free {ρ ρ1 : Rho} {F : Nat → Prop} {σ σ1 : St} {b1 : List Nat} (h : Bd ρ ρ1 σ σ1 b1) {b : Nat} (hb : Free cx ρ F σ b) (hn : b ∉ b1) : Free cx ρ1 F σ1 b :=
  ⟨hb.1, hb.2.1, fun m hm => by
    rcases h.nb m b hm with h1 | h1
    · exact hb.2.2 m h1
    · exact hn h1⟩
theorem Bd.LR0 {ρ ρ1 : Rho} {F : Nat → Prop} {w : World} {σ σ1 : St} {b1 : List Nat} (h : Bd ρ ρ1 σ σ1 b1) {sv : SV} {v : Value} (hv : LR0 ρ F w σ.live sv v) : LR0 ρ1 F w σ1.live sv v :=
  LR0_mono h.lv h.rho (fun _ h => h) (fun _ _ => rfl) hv
theorem Bd.VR {ρ ρ1 : Rho} {F : Nat → Prop} {w : World} {σ σ1 : St} {b1 : List Nat} (h : Bd ρ ρ1 σ σ1 b1) {sv : SV} {v : Value} (hv : VR ρ F w σ.live sv v) : VR ρ1 F w σ1.live sv v :=
  VR_mono h.lv h.rho (fun _ h => h) (fun _ _ => rfl) hv
theorem Bd.LR1 {ρ ρ1 : Rho} {F : Nat → Prop} {w : World} {σ σ1 : St} {b1 : List Nat} (h : Bd ρ ρ1 σ σ1 b1) {sv : SV} {v : Value} (hv : LR1 ρ F w σ.live sv v) : LR1 ρ1 F w σ1.live sv v :=
  LR1_mono h.lv h.rho (fun _ h => h) (fun _ _ => rfl) hv
theorem live_setO {σ : St} {n : Nat} {o : Obj} (ho : o ≠ .absent) : ∀ m, σ.live m → (σ.setO n o).live m := by
  intro m hm e
  rw [setO_ob] at e
  split at e
  · exact ho e
  · exact hm e
/-- A new object over free blocks (or one that was lent comes back). -/
theorem Sim.make {ρ ρ1 : Rho} {F : Nat → Prop} {σ : St} {a : Act} {w : World} (h : Sim cx nt ρ F σ a w) {n : Nat} {o : Obj} (hn : σ.ob n = .absent ∨ (σ.ob n = .dead ∧ ρ1.hd n = ρ.hd n ∧ ρ1.bx n = ρ.bx n ∧ ρ1.es n = ρ.es n)) (hne : o ≠ .absent)
    (hρ : ∀ m, m ≠ n → ρ1.hd m = ρ.hd m ∧ ρ1.bx m = ρ.bx m ∧ ρ1.es m = ρ.es m) (hor : OR ρ1 F w (σ.setO n o).live n o) (hf : ∀ b, blk ρ1 n o = some b → Free cx ρ F σ b) :
    Sim cx nt ρ1 F (σ.setO n o) a w ∧ Bd ρ ρ1 σ (σ.setO n o) (blk ρ1 n o).toList := by
  have hlv := live_setO (σ := σ) (n := n) hne
  have hr : ∀ m, σ.live m → ρ1.hd m = ρ.hd m ∧ ρ1.bx m = ρ.bx m ∧ ρ1.es m = ρ.es m := by
    intro m hm
    by_cases e : m = n
    · subst e
      rcases hn with h0 | h0
      · exact absurd h0 hm
      · exact h0.2
    · exact hρ m e
  refine ⟨h.step (fun m => m = n) (fun _ => False) (fun b => blk ρ1 n o = some b) (Pr.refl _ _) hf (fun _ h => h.elim) (fun m hm => by rw [setO_ob, if_neg hm]) hlv hr (fun _ h => h) (fun _ h => .inl h)
    (fun m hm => ?_) (fun m b hm hb => ?_) (fun m k b hm hk hne => absurd (hm.trans hk.symm) hne) h.defers h.size h.pin (fun s => .inl ⟨rfl, rfl⟩), rfl, fun m hm => ?_, hlv, hr, fun m b hb => ?_⟩
  · subst hm; rw [setO_ob, if_pos rfl]; exact hor
  · subst hm; rw [setO_ob, if_pos rfl] at hb; exact ⟨(hf b hb).2.1, .inr (.inr hb)⟩
  · rw [setO_ob]
    split
    · rename_i e
      subst e
      rcases hn with h0 | h0
      · exact absurd h0 hm
      · exact .inr h0.1
    · exact .inl rfl
  · rw [setO_ob] at hb
    split at hb
    · rename_i e; subst e; exact .inr (by simpa using hb)
    · rename_i e
      refine .inl ?_
      cases ho : σ.ob m with
      | absent => rw [ho] at hb; simp [blk] at hb
      | dead => rw [ho] at hb; simp [blk] at hb
      | row e' t xs => rw [ho] at hb; simp only [blk] at hb ⊢; rw [← (hρ m e).1]; exact hb
      | box e' vs => rw [ho] at hb; simp only [blk] at hb ⊢; rw [← (hρ m e).2.1]; exact hb
theorem newO_exec {σ : St} {n : Nat} {o : Obj} {K : M α} {r : α × St} (h : (newO n o K).exec σ = some r) : σ.ob n = .absent ∧ K.exec (σ.setO n o) = some r := by
  simp only [newO, M.exec] at h
  split at h
  · exact ⟨by assumption, h⟩
  · simp [M.exec] at h
def Rho.put (ρ : Rho) (n : Nat) (v : Value) (b sz : Nat) : Rho := ⟨fun m => if m = n then v else ρ.hd m, fun m => if m = n then b else ρ.bx m, fun m => if m = n then sz else ρ.es m⟩
theorem Rho.put_ne (ρ : Rho) {n : Nat} {v : Value} {b sz m : Nat} (h : m ≠ n) : (ρ.put n v b sz).hd m = ρ.hd m ∧ (ρ.put n v b sz).bx m = ρ.bx m ∧ (ρ.put n v b sz).es m = ρ.es m := by
  simp [Rho.put, h]
/-- A row is taken in. -/
theorem Sim.makeRow {ρ : Rho} {F : Nat → Prop} {σ : St} {a : Act} {w : World} (h : Sim cx nt ρ F σ a w) {n : Nat} {e : TypeId} {t : Ty} {xs : List t.I} {v : Value} {cells : List Value} (hn : σ.ob n = .absent)
    (ho : w.ownsRow 0 e t.sz v xs.length cells) (hc : RowC F w t xs cells) (hf : ∀ b, v.ownBlock = some b → Free cx ρ F σ b) :
    ∃ ρ1, Sim cx nt ρ1 F (σ.setO n (.row e t xs)) a w ∧ Bd ρ ρ1 σ (σ.setO n (.row e t xs)) v.ownBlock.toList ∧ ρ1.hd n = v := by
  have hb : blk (ρ.put n v 0 t.sz) n (.row e t xs) = v.ownBlock := by simp [blk, Rho.put]
  have := h.make (ρ1 := ρ.put n v 0 t.sz) (n := n) (o := .row e t xs) (.inl hn) (by simp) (fun m hm => ρ.put_ne hm) ⟨by simp [Rho.put], cells, by simpa [Rho.put] using ho, hc⟩ (by rw [hb]; exact hf)
  rw [hb] at this
  exact ⟨_, this.1, this.2, by simp [Rho.put]⟩
theorem buildL_sound {a : Act} {w : World} {r : α × St} {ρ : Rho} {l : LS} {x : l.I} {n : Nat} {K : SV → M α} {v : Value} {F : Nat → Prop} {σ : St} {bs : List Nat} (h : (buildL l x n K).exec σ = some r) (hs : Sim cx nt ρ F σ a w) (hb : BRL F w l x v bs) (hf : ∀ b ∈ bs, Free cx ρ F σ b) :
    ∃ sv σ1 ρ1, (K sv).exec σ1 = some r ∧ Sim cx nt ρ1 F σ1 a w ∧ Bd ρ ρ1 σ σ1 bs ∧ LR0 ρ1 F w σ1.live sv v := by
  cases l with
  | int k => exact ⟨_, σ, ρ, h, hs, Bd.refl _ _ _, hb.1⟩
  | bool => exact ⟨_, σ, ρ, h, hs, Bd.refl _ _ _, hb.1⟩
  | str => exact ⟨_, σ, ρ, h, hs, Bd.refl _ _ _, hb.1⟩
  | ro t => exact ⟨_, σ, ρ, h, hs, Bd.refl _ _ _, hb.1⟩
  | own e t =>
    obtain ⟨⟨cells, ho, hc⟩, rfl⟩ := hb
    obtain ⟨h1, h2⟩ := newO_exec h
    obtain ⟨ρ1, hs1, hb1, hv1⟩ := hs.makeRow h1 ho hc (fun b hb => hf b (by simpa using hb))
    obtain ⟨A, c, hsl⟩ := ownsRow_slice ho
    refine ⟨_, _, ρ1, h2, hs1, hb1, ?_, hv1.symm, A, _, c, hsl⟩
    intro e
    rw [setO_ob, if_pos rfl] at e
    cases e
  | fn => exact ⟨_, σ, ρ, h, hs, Bd.refl _ _ _, hb.1⟩
  | fnc f => exact ⟨_, σ, ρ, h, hs, Bd.refl _ _ _, hb.1⟩
  | nil => exact ⟨_, σ, ρ, h, hs, Bd.refl _ _ _, hb.1⟩
  | skip => exact ⟨_, σ, ρ, h, hs, Bd.refl _ _ _, trivial⟩
theorem buildLs_sound {a : Act} {w : World} {r : α × St} {F : Nat → Prop} : ∀ {ls : List LS} {x : LsI ls} {n : Nat} {K : List SV → M α} {vs : List Value} {ρ : Rho} {σ : St} {bs : List Nat}, (buildLs ls x n K).exec σ = some r → Sim cx nt ρ F σ a w → BRLs F w ls x vs bs → (∀ b ∈ bs, Free cx ρ F σ b) → bs.Nodup →
    ∃ svs σ1 ρ1, (K svs).exec σ1 = some r ∧ Sim cx nt ρ1 F σ1 a w ∧ Bd ρ ρ1 σ σ1 bs ∧ All2 (LR0 ρ1 F w σ1.live) svs vs
  | [], x, n, K, vs, ρ, σ, bs, h, hs, hb, hf, hn => by
    obtain ⟨rfl, rfl⟩ := hb
    exact ⟨[], σ, ρ, h, hs, Bd.refl _ _ _, trivial⟩
  | l :: ls, x, n, K, vs, ρ, σ, bs, h, hs, hb, hf, hn => by
    obtain ⟨v, vs', b1, b2, rfl, rfl, hb1, hb2⟩ := hb
    simp only [buildLs] at h
    rw [List.nodup_append] at hn
    obtain ⟨sv, σ1, ρ1, h1, hs1, hd1, hv1⟩ := buildL_sound h hs hb1 (fun b hb => hf b (List.mem_append_left _ hb))
    obtain ⟨svs, σ2, ρ2, h2, hs2, hd2, hv2⟩ := buildLs_sound h1 hs1 hb2 (fun b hb => hd1.free (hf b (List.mem_append_right _ hb)) (fun hb' => hn.2.2 b hb' b hb rfl)) hn.2.1
    exact ⟨sv :: svs, σ2, ρ2, h2, hs2, hd1.trans hd2, hd2.LR0 hv1, hv2⟩
theorem Sim.makeBox {ρ : Rho} {F : Nat → Prop} {σ : St} {a : Act} {w : World} (h : Sim cx nt ρ F σ a w) {n : Nat} {e : TypeId} {vs : List SV} {g : Nat} {us : Array Value} (hn : σ.ob n = .absent)
    (hg : w.heap[g]? = some (.cells us e (0, 0))) (hu : All2 (LR0 ρ F w σ.live) vs us.toList) (hf : Free cx ρ F σ g) :
    ∃ ρ1, Sim cx nt ρ1 F (σ.setO n (.box e vs)) a w ∧ Bd ρ ρ1 σ (σ.setO n (.box e vs)) [g] ∧ ρ1.bx n = g := by
  have hb : blk (ρ.put n undef g 0) n (.box e vs) = some g := by simp [blk, Rho.put]
  have hne : Obj.box e vs ≠ .absent := by simp
  have := h.make (ρ1 := ρ.put n undef g 0) (n := n) (o := .box e vs) (.inl hn) hne (fun m hm => ρ.put_ne hm)
    ⟨us, by simpa [Rho.put] using hg, hu.imp fun _ _ h => LR0_mono (live_setO hne) (fun m hm => by
      have : m ≠ n := fun e => hm (e ▸ hn)
      exact ρ.put_ne this) (fun _ h => h) (fun _ _ => rfl) h⟩ (by rw [hb]; intro b hb; cases hb; exact hf)
  rw [hb] at this
  exact ⟨_, this.1, this.2, by simp [Rho.put]⟩
theorem buildV_sound {a : Act} {w : World} {r : α × St} {ρ : Rho} {s : VS} {x : s.I} {n : Nat} {K : SV → M α} {v : Value} {F : Nat → Prop} {σ : St} {bs : List Nat} (h : (buildV s x n K).exec σ = some r) (hs : Sim cx nt ρ F σ a w) (hb : BRV F w s x v bs) (hf : ∀ b ∈ bs, Free cx ρ F σ b) (hn : bs.Nodup) :
    ∃ sv σ1 ρ1, (K sv).exec σ1 = some r ∧ Sim cx nt ρ1 F σ1 a w ∧ Bd ρ ρ1 σ σ1 bs ∧ LR1 ρ1 F w σ1.live sv v := by
  cases s with
  | leaf l =>
    obtain ⟨sv, σ1, ρ1, h1, h2, h3, h4⟩ := buildL_sound h hs hb hf
    exact ⟨sv, σ1, ρ1, h1, h2, h3, LR1_of_LR0 h4⟩
  | agg ls =>
    obtain ⟨us, rfl, hb⟩ := hb
    obtain ⟨svs, σ1, ρ1, h1, h2, h3, h4⟩ := buildLs_sound h hs hb hf hn
    exact ⟨.agg svs, σ1, ρ1, h1, h2, h3, us, rfl, h4⟩
  | box e ls =>
    obtain ⟨g, us, b2, rfl, hg, rfl, hb⟩ := hb
    simp only [List.nodup_cons] at hn
    obtain ⟨svs, σ1, ρ1, h1, h2, h3, h4⟩ := buildLs_sound h hs hb (fun b hb => hf b (by simp [hb])) hn.2
    obtain ⟨h5, h6⟩ := newO_exec h1
    obtain ⟨ρ2, h7, h8, h9⟩ := h2.makeBox h5 hg h4 (h3.free (hf g (by simp)) hn.1)
    refine ⟨_, _, ρ2, h6, h7, ?_, ?_, by rw [h9]⟩
    · have := h3.trans h8
      exact ⟨this.sl, this.ob, this.lv, this.rho, fun m b hb => (this.nb m b hb).imp id (fun h => by simp at h ⊢; exact h.symm)⟩
    · intro e
      rw [setO_ob, if_pos rfl] at e
      cases e
theorem buildVs_sound {a : Act} {w : World} {r : α × St} {F : Nat → Prop} : ∀ {ss : List VS} {x : VsI ss} {n : Nat} {K : List SV → M α} {vs : List Value} {ρ : Rho} {σ : St} {bs : List Nat}, (buildVs ss x n K).exec σ = some r → Sim cx nt ρ F σ a w → BRVs F w ss x vs bs → (∀ b ∈ bs, Free cx ρ F σ b) → bs.Nodup →
    ∃ svs σ1 ρ1, (K svs).exec σ1 = some r ∧ Sim cx nt ρ1 F σ1 a w ∧ Bd ρ ρ1 σ σ1 bs ∧ All2 (LR1 ρ1 F w σ1.live) svs vs
  | [], x, n, K, vs, ρ, σ, bs, h, hs, hb, hf, hn => by
    obtain ⟨rfl, rfl⟩ := hb
    exact ⟨[], σ, ρ, h, hs, Bd.refl _ _ _, trivial⟩
  | l :: ls, x, n, K, vs, ρ, σ, bs, h, hs, hb, hf, hn => by
    obtain ⟨v, vs', b1, b2, rfl, rfl, hb1, hb2⟩ := hb
    simp only [buildVs] at h
    rw [List.nodup_append] at hn
    obtain ⟨sv, σ1, ρ1, h1, hs1, hd1, hv1⟩ := buildV_sound h hs hb1 (fun b hb => hf b (List.mem_append_left _ hb)) hn.1
    obtain ⟨svs, σ2, ρ2, h2, hs2, hd2, hv2⟩ := buildVs_sound h1 hs1 hb2 (fun b hb => hd1.free (hf b (List.mem_append_right _ hb)) (fun hb' => hn.2.2 b hb' b hb rfl)) hn.2.1
    exact ⟨sv :: svs, σ2, ρ2, h2, hs2, hd1.trans hd2, hd2.LR1 hv1, hv2⟩
/-- The boxes that were lent come back. -/
theorem backs_sound {a : Act} {w : World} {F : Nat → Prop} {r : Unit × St} : ∀ {ss : List VS} {x : VsI ss} {ns : List Nat} {id : Nat} {K : MU} {vs : List Value} {ρ : Rho} {σ : St} {bs : List Nat}, (backs ss x ns id K).exec σ = some r → Sim cx nt ρ F σ a w →
    All2 (fun n v => σ.live n ∧ v = .pointer (some ⟨ρ.bx n, 0, none⟩)) ns vs → BRVs F w ss x vs bs → (∀ b ∈ bs, Free cx ρ F σ b) → bs.Nodup →
    ∃ σ1 ρ1, K.exec σ1 = some r ∧ Sim cx nt ρ1 F σ1 a w ∧ Bd ρ ρ1 σ σ1 bs
  | [], x, ns, id, K, vs, ρ, σ, bs, h, hs, hp, hb, hf, hn => by
    have h' : K.exec σ = some r := by simpa [backs] using h
    exact ⟨σ, ρ, h', hs, Bd.refl _ _ _⟩
  | .leaf _ :: _, _, _, _, _, _, _, _, _, h, _, _, _, _, _ => by simp [backs, M.exec] at h
  | .agg _ :: _, _, _, _, _, _, _, _, _, h, _, _, _, _, _ => by simp [backs, M.exec] at h
  | .box _ _ :: _, _, [], _, _, _, _, _, _, h, _, _, _, _, _ => by simp [backs, M.exec] at h
  | .box e ls :: ss, x, n :: ns, id, K, [], ρ, σ, bs, h, hs, hp, hb, hf, hn => hp.elim
  | .box e ls :: ss, x, n :: ns, id, K, v0 :: vs0, ρ, σ, bs, h, hs, hp, hb, hf, hn => by
    obtain ⟨v, vs', b1, b2, ev, rfl, hb1, hb2⟩ := hb
    cases ev
    obtain ⟨g, us, b3, e1, hg, rfl, hb1⟩ := hb1
    obtain ⟨hl, e2⟩ := hp.1
    rw [e2] at e1
    simp only [Value.pointer.injEq, Option.some.injEq, Addr.mk.injEq, and_true] at e1
    subst e1
    rw [List.nodup_append] at hn
    have hn1 := hn.1
    simp only [List.nodup_cons] at hn1
    simp only [backs] at h
    obtain ⟨svs, σ1, ρ1, h1, h2, h3, h4⟩ := buildLs_sound h hs hb1 (fun b hb => hf b (by simp [hb])) hn1.2
    simp only [M.exec] at h1
    split at h1
    · rename_i hd
      simp only [M.exec] at h1
      have hne : Obj.box e svs ≠ .absent := by simp
      have hr := h3.rho n hl
      have hbk : blk ρ1 n (.box e svs) = some (ρ.bx n) := by simp only [blk]; rw [hr.2.1]
      obtain ⟨h5, h6⟩ := h2.make (ρ1 := ρ1) (n := n) (o := .box e svs) (.inr ⟨hd, rfl, rfl, rfl⟩) hne (fun _ _ => ⟨rfl, rfl, rfl⟩)
        ⟨us, by rw [hr.2.1]; exact hg, h4.imp fun _ _ h => LR0_mono (live_setO hne) (fun _ _ => ⟨rfl, rfl, rfl⟩) (fun _ h => h) (fun _ _ => rfl) h⟩
        (by rw [hbk]; intro b hb; cases hb; exact h3.free (hf _ (by simp)) hn1.1)
      rw [hbk] at h6
      have h7 := h3.trans h6
      have h8 : Bd ρ ρ1 σ (σ1.setO n (.box e svs)) (ρ.bx n :: b3) := ⟨h7.sl, h7.ob, h7.lv, h7.rho, fun m b hb => (h7.nb m b hb).imp (fun h => h) (fun h => by simp at h ⊢; exact h.symm)⟩
      obtain ⟨σ2, ρ2, k1, k2, k3⟩ := backs_sound (vs := vs0) h1 h5 (hp.2.imp fun m v hm => ⟨h8.lv m hm.1, by rw [(h8.rho m hm.1).2.1]; exact hm.2⟩) hb2
        (fun b hb => h8.free (hf b (List.mem_append_right _ hb)) (fun hb' => hn.2.2 b hb' b hb rfl)) hn.2.1
      exact ⟨σ2, ρ2, k1, k2, h8.trans k3⟩
    · simp [M.exec] at h1
end
end Go.Gx

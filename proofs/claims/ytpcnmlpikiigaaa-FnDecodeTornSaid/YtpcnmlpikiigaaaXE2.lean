/-
  Gx, part E2: the operations that read, write and make memory.
-/
import Derived.Test.YtpcnmlpikiigaaaXE1
import Derived.Laws.Tables
import Derived.Laws.MakeOwn
set_option linter.unusedVariables false
set_option linter.unusedSimpArgs false
namespace Go.Gx
section
variable {P : Program} {cx : Ctx} {nt : Fr} {ρ : Rho} {F : Nat → Prop} {σ σ' : St} {a : Act} {w w' : World} {o : Oper} {K : Act → World → Prop} {Q : Exit → Act → World → Prop}
theorem add_at (b o n : Nat) : (⟨b, o, none⟩ : Addr).add n = ⟨b, o + n, none⟩ := by unfold Addr.add; split <;> simp_all
theorem list_of_get {R : SV → Value → Prop} : ∀ (ls : List SV) (Pc : Nat → Value → Prop), (∀ j sv, ls[j]? = some sv → ∃ u, Pc j u ∧ R sv u) → ∃ us, All2 R ls us ∧ ∀ j u, us[j]? = some u → Pc j u
  | [], Pc, _ => ⟨[], trivial, fun j u h => by simp at h⟩
  | x :: ls, Pc, h => by
    obtain ⟨u, h1, h2⟩ := h 0 x (by simp)
    obtain ⟨us, h3, h4⟩ := list_of_get ls (fun j u => Pc (j + 1) u) (fun j sv hj => h (j + 1) sv (by simpa using hj))
    refine ⟨u :: us, ⟨h2, h3⟩, fun j v hj => ?_⟩
    cases j with
    | zero => simp at hj; subst hj; exact h1
    | succ j => exact h4 j v (by simpa using hj)
theorem getD_some {α : Type} {xs : List α} {i : Nat} {d : α} (h : i < xs.length) : xs[i]? = some (xs.getD i d) := by
  rw [List.getElem?_eq_getElem h, List.getD_eq_getElem?_getD, List.getElem?_eq_getElem h]; rfl
/-- Where the leaves behind an address lie. -/
theorem addr_sound {α : Type} {sa : SV} {v : Value} {kk : List SV → M α} {r : α × St} (h : (addrM sa kk).exec σ = some r) (hs : Sim cx nt ρ F σ a w) (ha : VR ρ F w σ.live sa v) :
    ∃ ls ad, (kk ls).exec σ = some r ∧ v = .pointer (some ad) ∧ ∀ j sv, ls[j]? = some sv → ∃ u, w.cell? (ad.add j) = some u ∧ LR0 ρ F w σ.live sv u := by
  unfold addrM at h
  split at h
  · rename_i n off
    obtain ⟨hl, rfl⟩ := ha
    simp only [M.exec] at h
    split at h
    · rename_i e vs hob
      have := hs.objs n
      rw [hob] at this
      obtain ⟨us, hg, hu⟩ := this
      refine ⟨_, _, h, rfl, fun j sv hj => ?_⟩
      rw [List.getElem?_drop] at hj
      obtain ⟨u, h1, h2⟩ := hu.get hj
      exact ⟨u, by rw [add_at, cell_of_row w _ _ us e (0, 0) hg, ← Array.getElem?_toList]; exact h1, h2⟩
    · simp [M.exec] at h
  · rename_i n i off
    obtain ⟨hl, b, l, c, hh, rfl⟩ := ha
    simp only [M.exec] at h
    split at h
    · rename_i e t xs hob
      replace h := test_exec h; obtain ⟨hi, h⟩ := h
      have hi := of_decide_eq_true hi
      have := hs.objs n
      rw [hob] at this
      obtain ⟨hes, cells, hrow, hc⟩ := this
      have hx := hc i _ (getD_some (d := t.dflt) hi)
      refine ⟨_, _, h, rfl, fun j sv hj => ?_⟩
      rw [List.getElem?_drop] at hj
      obtain ⟨u, h1, h2⟩ := (TC_leaves hx).get hj
      refine ⟨u, ?_, h2⟩
      have hcell := hrow.cells (g := b) (by rw [hh]; simp [Value.ownBlock]) _ u (chunk_get h1)
      rw [add_at] at hcell ⊢
      rw [hes]
      rw [← hcell]
      congr 2
      omega
    · simp [M.exec] at h
  · rename_i vs
    obtain ⟨ad, rfl, hv⟩ := ha
    exact ⟨_, ad, h, rfl, fun j sv hj => (hv j sv hj).2⟩
  · simp [M.exec] at h
theorem loadM_sound {α : Type} {t : TypeId} {i : TI} {sa : SV} {v0 : Value} {kk : SV → M α} {r : α × St} (hi : tinfo P t = some i) (h : (loadM i sa kk).exec σ = some r) (hs : Sim cx nt ρ F σ a w) (ha : VR ρ F w σ.live sa v0) :
    ∃ sv v ad, (kk sv).exec σ = some r ∧ LR1 ρ F w σ.live sv v ∧ v0 = .pointer (some ad) ∧ (loadVar t ad).run P w = .ok v w := by
  unfold loadM at h
  obtain ⟨ls, ad, h, hv, hc⟩ := addr_sound h hs ha
  replace h := test_exec h; obtain ⟨hz, h⟩ := h
  have hz := Nat.le_of_ble_eq_true hz
  have hag := run_isAgg hi
  have hsz := run_sizeOf hi
  cases hb : i.agg with
  | true =>
    rw [hb] at h hag
    simp only [cond_true] at h
    obtain ⟨us, h1, h2⟩ := list_of_get (ls.take i.size) (fun j u => w.cell? (ad.add j) = some u) (fun j sv hj => hc j sv (by
      rw [List.getElem?_take] at hj
      split at hj
      · exact hj
      · cases hj))
    have hlen : us.length = i.size := by rw [← h1.length, List.length_take]; omega
    refine ⟨_, .agg us.toArray, ad, h, ⟨_, rfl, by simpa using h1⟩, hv, ?_⟩
    have := run_loadCells_list (P := P) w ad us h2
    rw [hlen] at this
    simp [loadVar, hag, hsz, this]
  | false =>
    rw [hb] at h hag
    simp only [cond_false] at h
    cases ls with
    | cons sv rest =>
      obtain ⟨u, h1, h2⟩ := hc 0 sv (by simp)
      rw [add_zero] at h1
      refine ⟨_, u, ad, h, LR1_of_LR0 h2, hv, ?_⟩
      simp [loadVar, hag, load, Sem.run, h1]
    | nil => simp [M.exec] at h
theorem load_sound {t : TypeId} {i : TI} {x : Operand} {sa : SV} {kk : SV → MU} {r : Unit × St} (hi : tinfo P t = some i) (h : (loadM i sa kk).exec σ = some r) (hs : Sim cx nt ρ F σ a w) (ha : VR ρ F w σ.live sa (a.eval x)) (ho : o.op = .load t x) :
    ∃ sv v, (kk sv).exec σ = some r ∧ VR ρ F w σ.live sv v ∧ (execOp a.eval o).run P w = .ok (.value v) w := by
  obtain ⟨sv, v, ad, h1, h2, h3, h4⟩ := loadM_sound hi h hs ha
  exact ⟨sv, v, h1, VR_of_LR1 h2, by simp [execOp, ho, h3, Instr.loadAt, Instr.sureAddr, h4]⟩

/-! ### Stores -/
theorem run_store_at {t : TypeId} {i : TI} {x y : Operand} {g off : Nat} {e : TypeId} {cur : Array Value} (hi : tinfo P t = some i) (ho : o.op = .store t x y) (hx : a.eval x = .pointer (some ⟨g, off, none⟩))
    (hg : w.heap[g]? = some (.cells cur e (0, 0))) (hz : (a.eval y).cells.size = i.size) (hle : off + (a.eval y).cells.size ≤ cur.size) (h1 : ∀ u ∈ (a.eval y).cells.toList, u.oneCell' = true) :
    (execOp a.eval o).run P w = .ok .skip (w.setRow g (cur.toList.take off ++ (a.eval y).cells.toList ++ cur.toList.drop (off + (a.eval y).cells.toList.length)).toArray) := by
  have hsz := run_sizeOf (P := P) hi
  have := run_storeCells_at P g off e (a.eval y).cells.toList 0 cur w hg (by simpa using hle) h1
  simp only [Nat.add_zero] at this
  simp only [execOp, ho, hx, Instr.storeAt, Instr.sureAddr, storeVar, Sem.run_bind, Sem.run_pure, Result.andThen_ok, hsz, hz, ne_eq, not_true, if_false, this]
theorem All2.splice {R : SV → Value → Prop} {vs cs : List SV} {us ds : List Value} (h : All2 R vs us) (h' : All2 R cs ds) (off : Nat) : All2 R (splice vs cs off) (us.take off ++ ds ++ us.drop (off + ds.length)) := by
  unfold Gx.splice
  rw [h'.length]
  exact ((h.take off).append h').append (h.drop _)
theorem pr_setRow (w : World) (g : Nat) (cs : Array Value) : Pr (fun b => b = g) w (w.setRow g cs) :=
  ⟨rfl, rfl, rfl, by simp, fun b _ hb => setRow_other w g b cs hb⟩
theorem frz_sound {α : Type} : ∀ {vs : List SV} {us : List Value} {kk : List SV → M α} {r : α × St} {F : Nat → Prop} {σ : St}, (frz vs kk).exec σ = some r → Sim cx nt ρ F σ a w → All2 (LR0 ρ F w σ.live) vs us →
    ∃ ws σ1 F1, (kk ws).exec σ1 = some r ∧ Sim cx nt ρ F1 σ1 a w ∧ Tk ρ F F1 σ σ1 [] ∧ All2 (LR0 ρ F1 w σ1.live) ws us
  | [], us, kk, r, F, σ, h, hs, hv => ⟨[], σ, F, h, hs, Tk.refl _ _ _, hv⟩
  | sv :: vs, [], kk, r, F, σ, h, hs, hv => hv.elim
  | sv :: vs, u :: us, kk, r, F, σ, h, hs, hv => by
    have other : ∀ (h : (frz vs fun us => kk (sv :: us)).exec σ = some r), ∃ ws σ1 F1, (kk ws).exec σ1 = some r ∧ Sim cx nt ρ F1 σ1 a w ∧ Tk ρ F F1 σ σ1 [] ∧ All2 (LR0 ρ F1 w σ1.live) ws (u :: us) := by
      intro h
      obtain ⟨ws, σ1, F1, h1, h2, h3, h4⟩ := frz_sound h hs hv.2
      exact ⟨sv :: ws, σ1, F1, h1, h2, h3, LR0_mono h3.live (fun _ _ => ⟨rfl, rfl, rfl⟩) h3.up (fun _ _ => rfl) hv.1, h4⟩
    cases sv with
    | own n =>
      obtain ⟨⟨hl, e, _⟩, hv⟩ := hv
      subst e
      simp only [frz, M.exec] at h
      split at h
      · rename_i e t xs hob
        simp only [M.exec] at h
        have hob' := hs.objs n
        rw [hob] at hob'
        obtain ⟨hes, cells, hrow, hc⟩ := hob'
        have hbk : blk ρ n (σ.ob n) = (ρ.hd n).ownBlock := by rw [hob]; rfl
        have hk := hs.kill hl true
        have hkt : Tk ρ F (fun b => F b ∨ (true = true ∧ blk ρ n (σ.ob n) = some b)) σ (σ.setO n .dead) [] := Tk.kill hs hl true
        have hro : TC (fun b => F b ∨ (true = true ∧ blk ρ n (σ.ob n) = some b)) w (.sl t) xs [ρ.hd n] := ro_of_row hrow hc (fun _ h => .inl h) (fun b hb => .inr ⟨rfl, by rw [hbk]; exact hb⟩)
        obtain ⟨ws, σ1, F1, h1, h2, h3, h4⟩ := frz_sound h hk (hv.imp fun _ _ h => LR0_mono hkt.live (fun _ _ => ⟨rfl, rfl, rfl⟩) (fun _ h => .inl h) (fun _ _ => rfl) h)
        exact ⟨_, σ1, F1, h1, h2, by simpa using Tk.trans hs hkt h3, TC_mono h3.up (fun _ _ => rfl) hro, h4⟩
      · simp [M.exec] at h
    | view n lo hi =>
      obtain ⟨⟨hl, hsub⟩, hv⟩ := hv
      simp only [frz, M.exec] at h
      split at h
      · rename_i e t xs hob
        simp only [M.exec] at h
        have hob' := hs.objs n
        rw [hob] at hob'
        obtain ⟨hes, cells, hrow, hc⟩ := hob'
        have hbk : blk ρ n (σ.ob n) = (ρ.hd n).ownBlock := by rw [hob]; rfl
        have hk := hs.kill hl true
        have hkt : Tk ρ F (fun b => F b ∨ (true = true ∧ blk ρ n (σ.ob n) = some b)) σ (σ.setO n .dead) [] := Tk.kill hs hl true
        rw [hes] at hsub
        have hro : TC (fun b => F b ∨ (true = true ∧ blk ρ n (σ.ob n) = some b)) w (.sl t) ((xs.take hi).drop lo) [u] := TC_sub (ro_of_row hrow hc (fun _ h => .inl h) (fun b hb => .inr ⟨rfl, by rw [hbk]; exact hb⟩)) hsub
        obtain ⟨ws, σ1, F1, h1, h2, h3, h4⟩ := frz_sound h hk (hv.imp fun _ _ h => LR0_mono hkt.live (fun _ _ => ⟨rfl, rfl, rfl⟩) (fun _ h => .inl h) (fun _ _ => rfl) h)
        exact ⟨_, σ1, F1, h1, h2, by simpa using Tk.trans hs hkt h3, TC_mono h3.up (fun _ _ => rfl) hro, h4⟩
      · simp [M.exec] at h
    | _ => exact other h
theorem fromL_sound {α : Type} : ∀ {t : Ty} {vs : List SV} {us : List Value} {kk : t.I → List SV → M α} {r : α × St}, (fromL t vs kk).exec σ = some r → All2 (LR0 ρ F w σ.live) vs us →
    ∃ x rest u1 u2, (kk x rest).exec σ = some r ∧ us = u1 ++ u2 ∧ TC F w t x u1 ∧ All2 (LR0 ρ F w σ.live) rest u2
  | .pair t1 t2, vs, us, kk, r, h, hv => by
    simp only [fromL] at h
    obtain ⟨x, r1, u1, u2, h1, rfl, h2, h3⟩ := fromL_sound h hv
    obtain ⟨y, r2, u3, u4, h4, rfl, h5, h6⟩ := fromL_sound h1 h3
    exact ⟨(x, y), r2, u1 ++ u3, u4, h4, by simp, ⟨u1, u3, rfl, h2, h5⟩, h6⟩
  | .int k, [], us, kk, r, h, hv => by simp [fromL, M.exec] at h
  | .bool, [], us, kk, r, h, hv => by simp [fromL, M.exec] at h
  | .str, [], us, kk, r, h, hv => by simp [fromL, M.exec] at h
  | .sl t, [], us, kk, r, h, hv => by simp [fromL, M.exec] at h
  | .slo t, [], us, kk, r, h, hv => by simp [fromL, M.exec] at h
  | .int k, sv :: vs, [], kk, r, h, hv => hv.elim
  | .bool, sv :: vs, [], kk, r, h, hv => hv.elim
  | .str, sv :: vs, [], kk, r, h, hv => hv.elim
  | .sl t, sv :: vs, [], kk, r, h, hv => hv.elim
  | .slo t, sv :: vs, [], kk, r, h, hv => hv.elim
  | .int k, sv :: vs, u :: us, kk, r, h, hv => by
    cases sv with
    | int k' z =>
      simp only [fromL] at h
      replace h := test_exec h; obtain ⟨hk, h⟩ := h
      have hk := of_decide_eq_true hk
      subst hk
      have e : u = .int k' z := hv.1
      subst e
      exact ⟨z, vs, [_], us, h, rfl, rfl, hv.2⟩
    | _ => simp [fromL, M.exec] at h
  | .bool, sv :: vs, u :: us, kk, r, h, hv => by
    cases sv with
    | bool z =>
      have e : u = .bool z := hv.1
      subst e
      exact ⟨z, vs, [_], us, h, rfl, rfl, hv.2⟩
    | _ => simp [fromL, M.exec] at h
  | .str, sv :: vs, u :: us, kk, r, h, hv => by
    cases sv with
    | str z =>
      have e : u = .string z := hv.1
      subst e
      exact ⟨z, vs, [_], us, h, rfl, rfl, hv.2⟩
    | _ => simp [fromL, M.exec] at h
  | .sl t, sv :: vs, u :: us, kk, r, h, hv => by
    cases sv with
    | nil =>
      have e : u = .slice none 0 0 := hv.1
      subst e
      exact ⟨[], vs, [_], us, h, rfl, ⟨none, 0, rfl, Nat.le_refl _, by simp [maxLen], fun i x hi => by simp at hi⟩, hv.2⟩
    | ro t' xs =>
      simp only [fromL] at h
      obtain ⟨e, h⟩ := castL_exec h
      subst e
      exact ⟨xs, vs, [u], us, h, rfl, hv.1, hv.2⟩
    | roo t' x =>
      simp only [fromL] at h
      obtain ⟨e, h⟩ := castL_exec h
      subst e
      exact ⟨_, vs, [u], us, h, rfl, TC_roo hv.1, hv.2⟩
    | _ => simp [fromL, M.exec] at h
  | .slo t, sv :: vs, u :: us, kk, r, h, hv => by
    cases sv with
    | nil =>
      have e : u = .slice none 0 0 := hv.1
      subst e
      exact ⟨none, vs, [_], us, h, rfl, ⟨fun _ => rfl, none, 0, rfl, Nat.le_refl _, by simp [maxLen], fun i x hi => by simp at hi⟩, hv.2⟩
    | ro t' xs =>
      simp only [fromL] at h
      obtain ⟨e, h⟩ := castL_exec h
      subst e
      obtain ⟨h1, h2⟩ := hv
      obtain ⟨A, c, q1, q2, q3, q4⟩ := h1
      exact ⟨some xs, vs, [u], us, h, rfl, ⟨fun e => by simp at e, A, c, q1, q2, q3, q4⟩, h2⟩
    | roo t' x =>
      simp only [fromL] at h
      split at h
      · rename_i e
        subst e
        exact ⟨x, vs, [u], us, h, rfl, hv.1, hv.2⟩
      · simp [M.exec] at h
    | _ => simp [fromL, M.exec] at h
/-- One element out of a value. -/
theorem elemOf_sound {α : Type} {t : Ty} {sv : SV} {v : Value} {kk : t.I → M α} {r : α × St} (h : (elemOf t sv kk).exec σ = some r) (hs : Sim cx nt ρ F σ a w) (hv : VR ρ F w σ.live sv v) :
    ∃ x σ1 F1, (kk x).exec σ1 = some r ∧ Sim cx nt ρ F1 σ1 a w ∧ Tk ρ F F1 σ σ1 [] ∧ TC F1 w t x v.cells.toList ∧ ∀ u ∈ v.cells.toList, u.oneCell' = true := by
  unfold elemOf at h
  replace h := test_exec h; obtain ⟨hc, h⟩ := h
  obtain ⟨h1, h2⟩ := cells_of hc hv
  obtain ⟨ws, σ1, F1, h3, h4, h5, h6⟩ := frz_sound h hs h1
  obtain ⟨x, rest, u1, u2, h7, e, h8, h9⟩ := fromL_sound h3 h6
  cases rest with
  | cons => simp [M.exec] at h7
  | nil =>
    have := h9.nil_left
    subst this
    rw [List.append_nil] at e
    exact ⟨x, σ1, F1, h7, h4, h5, by rw [e]; exact h8, h2⟩
theorem elems_sound {α : Type} {t : Ty} : ∀ {svs : List SV} {vs : List Value} {kk : List t.I → M α} {r : α × St} {F : Nat → Prop} {σ : St}, (elems t svs kk).exec σ = some r → Sim cx nt ρ F σ a w → All2 (VR ρ F w σ.live) svs vs →
    ∃ xs σ1 F1, (kk xs).exec σ1 = some r ∧ Sim cx nt ρ F1 σ1 a w ∧ Tk ρ F F1 σ σ1 [] ∧ All2 (fun x v => TC F1 w t x v.cells.toList) xs vs
  | [], vs, kk, r, F, σ, h, hs, hv => ⟨[], σ, F, h, hs, Tk.refl _ _ _, by rw [hv.nil_left]; trivial⟩
  | sv :: svs, [], kk, r, F, σ, h, hs, hv => hv.elim
  | sv :: svs, v :: vs, kk, r, F, σ, h, hs, hv => by
    simp only [elems] at h
    obtain ⟨x, σ1, F1, h1, h2, h3, h4, _⟩ := elemOf_sound h hs hv.1
    obtain ⟨xs, σ2, F2, h5, h6, h7, h8⟩ := elems_sound h1 h2 (hv.2.imp fun _ _ h => VR_mono h3.live (fun _ _ => ⟨rfl, rfl, rfl⟩) h3.up (fun _ _ => rfl) h)
    exact ⟨x :: xs, σ2, F2, h5, h6, by simpa using Tk.trans hs h3 h7, TC_mono h7.up (fun _ _ => rfl) h4, h8⟩

/-! ### A store -/
theorem size_of_len {v : Value} {n : Nat} (h : v.cells.toList.length = n) : v.cells.size = n := by simpa using h
theorem splice_get {us ds : List Value} {off j : Nat} (h : off + ds.length ≤ us.length) : (us.take off ++ ds ++ us.drop (off + ds.length))[j]? = if j < off then us[j]? else if j < off + ds.length then ds[j - off]? else us[j]? := by
  have hl : (us.take off).length = off := by rw [List.length_take]; omega
  by_cases h1 : j < off
  · rw [if_pos h1, List.append_assoc, List.getElem?_append_left (by omega), List.getElem?_take, if_pos h1]
  · rw [if_neg h1]
    by_cases h2 : j < off + ds.length
    · rw [if_pos h2, List.append_assoc, List.getElem?_append_right (by omega), hl, List.getElem?_append_left (by omega)]
    · rw [if_neg h2, List.getElem?_append_right (by rw [List.length_append]; omega), List.length_append, hl, List.getElem?_drop]
      congr 1
      omega
/-- A row with one element changed. -/
theorem RowC_set {t : Ty} {xs : List t.I} {cells ds : List Value} {i off : Nat} {x : t.I} (h : RowC F w t xs cells) (hl : cells.length = xs.length * t.sz) (hi : i < xs.length) (ho : off + ds.length ≤ t.sz)
    (hx : TC F w t x (((cells.drop (i * t.sz)).take t.sz).take off ++ ds ++ ((cells.drop (i * t.sz)).take t.sz).drop (off + ds.length))) :
    RowC F w t (xs.set i x) (cells.take (i * t.sz + off) ++ ds ++ cells.drop (i * t.sz + off + ds.length)) := by
  have hle : i * t.sz + t.sz ≤ xs.length * t.sz := by rw [← Nat.succ_mul]; exact Nat.mul_le_mul_right _ hi
  intro k y hk
  rw [List.getElem?_set] at hk
  have key : ((cells.take (i * t.sz + off) ++ ds ++ cells.drop (i * t.sz + off + ds.length)).drop (k * t.sz)).take t.sz =
      if k = i then ((cells.drop (i * t.sz)).take t.sz).take off ++ ds ++ ((cells.drop (i * t.sz)).take t.sz).drop (off + ds.length) else (cells.drop (k * t.sz)).take t.sz := by
    apply List.ext_getElem?
    intro j
    rw [List.getElem?_take]
    by_cases hj : j < t.sz
    · rw [if_pos hj, List.getElem?_drop, splice_get (by omega)]
      by_cases e : k = i
      · subst e
        rw [if_pos rfl, splice_get (by rw [List.length_take, List.length_drop]; omega)]
        simp only [List.getElem?_take, List.getElem?_drop, hj, if_true]
        by_cases h1 : j < off
        · rw [if_pos (by omega), if_pos h1]
        · rw [if_neg (by omega), if_neg h1]
          by_cases h2 : j < off + ds.length
          · rw [if_pos (by omega), if_pos h2]; congr 1; omega
          · rw [if_neg (by omega), if_neg h2]
      · rw [if_neg e, List.getElem?_take, if_pos hj, List.getElem?_drop]
        rcases Nat.lt_or_gt_of_ne e with h1 | h1
        · have : k * t.sz + t.sz ≤ i * t.sz := by rw [← Nat.succ_mul]; exact Nat.mul_le_mul_right _ h1
          rw [if_pos (by omega)]
        · have : i * t.sz + t.sz ≤ k * t.sz := by rw [← Nat.succ_mul]; exact Nat.mul_le_mul_right _ h1
          rw [if_neg (by omega), if_neg (by omega)]
    · rw [if_neg hj]
      split
      · rw [List.getElem?_eq_none]
        rw [List.length_append, List.length_append, List.length_take, List.length_drop, List.length_take, List.length_drop]
        omega
      · rw [List.getElem?_eq_none]
        rw [List.length_take]
        omega
  rw [key]
  split at hk
  · rename_i e
    subst e
    cases hk
    rw [if_pos rfl]; exact hx
  · rename_i e
    rw [if_neg (fun h => e h.symm)]
    exact h k y hk
theorem take_splice (L ds : List Value) {N p : Nat} (h : p + ds.length ≤ N) (hN : N ≤ L.length) : (L.take p ++ ds ++ L.drop (p + ds.length)).take N = (L.take N).take p ++ ds ++ (L.take N).drop (p + ds.length) := by
  apply List.ext_getElem?
  intro q
  rw [List.getElem?_take, splice_get (by omega), splice_get (by rw [List.length_take]; omega)]
  simp only [List.getElem?_take]
  by_cases hq : q < N
  · simp only [hq, if_true]
  · simp only [hq, if_false]
    split
    · rfl
    · split
      · omega
      · rfl
theorem store_sound {t : TypeId} {i : TI} {x y : Operand} {sa sv : SV} (hi : tinfo P t = some i) (h : (storeM i sa sv).exec σ = some ((), σ')) (hs : Sim cx nt ρ F σ a w) (ha : VR ρ F w σ.live sa (a.eval x)) (hv : VR ρ F w σ.live sv (a.eval y)) (ho : o.op = .store t x y) :
    ∃ w' F', (execOp a.eval o).run P w = .ok .skip w' ∧ Sim cx nt ρ F' σ' a w' := by
  unfold storeM at h
  replace h := test_exec h; obtain ⟨hz, h⟩ := h
  have hz := Nat.eq_of_beq_eq_true hz
  split at h
  · rename_i n off
    obtain ⟨hl, ha⟩ := ha
    simp only [M.exec] at h
    split at h
    · rename_i e vs hob
      replace h := test_exec h; obtain ⟨hcl, h⟩ := h
      simp only [Bool.and_eq_true] at hcl
      have hle := Nat.le_of_ble_eq_true hcl.2
      obtain ⟨hc1, hc2⟩ := cells_of hcl.1 hv
      simp only [M.exec, Option.some.injEq, Prod.mk.injEq, true_and] at h
      subst h
      have hob' := hs.objs n
      rw [hob] at hob'
      obtain ⟨us, hg, hu⟩ := hob'
      have hlen := hc1.length
      have hul := hu.length
      have hrun := run_store_at (P := P) (w := w) hi ho ha hg (size_of_len (by rw [← hlen]; exact hz)) (by
        have : (a.eval y).cells.size = sv.cellsOf.length := by rw [hlen]; simp
        rw [this]; simp at hul; omega) hc2
      refine ⟨_, F, hrun, ?_⟩
      have hlv : ∀ m, σ.live m → (σ.setO n (.box e (splice vs sv.cellsOf off))).live m := live_setO (by simp)
      have hbk : blk ρ n (σ.ob n) = some (ρ.bx n) := by rw [hob]; rfl
      have hFw : ∀ b, F b → (w.setRow (ρ.bx n) (us.toList.take off ++ (a.eval y).cells.toList ++ us.toList.drop (off + (a.eval y).cells.toList.length)).toArray).heap[b]? = w.heap[b]? := fun b hb =>
        setRow_other w _ b _ (fun e => (hs.own n _ hbk).1 (e ▸ hb))
      refine hs.step (fun m => m = n) (fun b => b = ρ.bx n) (fun _ => False) (pr_setRow w _ _) (fun _ h => h.elim) (fun b hb _ => .inl ⟨n, rfl, by rw [hb]; exact hbk⟩) (fun m hm => by rw [setO_ob, if_neg hm]) hlv (fun _ _ => ⟨rfl, rfl, rfl⟩)
        (fun _ h => h) (fun _ h => .inl h) (fun m hm => ?_) (fun m b hm hb => ?_) (fun m k b hm hk hne => absurd (hm.trans hk.symm) hne) hs.defers hs.size hs.pin (fun s => .inl ⟨rfl, rfl⟩)
      · subst hm
        rw [setO_ob, if_pos rfl]
        refine ⟨_, setRow_heap w _ us _ e _ hg, ?_⟩
        simp only [List.toList_toArray]
        exact (hu.splice hc1 off).imp fun _ _ h => LR0_mono hlv (fun _ _ => ⟨rfl, rfl, rfl⟩) (fun _ h => h) hFw h
      · subst hm
        rw [setO_ob, if_pos rfl] at hb
        simp only [blk, Option.some.injEq] at hb
        subst hb
        exact ⟨(hs.own m _ hbk).1, .inl ⟨m, rfl, hbk⟩⟩
    · simp [M.exec] at h
  · rename_i n j off
    obtain ⟨hl, b, l, c, hh, ha⟩ := ha
    replace h := test_exec h; obtain ⟨hcc, h⟩ := h
    obtain ⟨hc1, hc2⟩ := cells_of hcc hv
    obtain ⟨ws, σ1, F1, h, hs1, htk, hw⟩ := frz_sound h hs hc1
    simp only [M.exec] at h
    split at h
    · rename_i e ty xs hob
      replace h := test_exec h; obtain ⟨hj, h⟩ := h
      have hj := of_decide_eq_true hj
      replace h := test_exec h; obtain ⟨ho2, h⟩ := h
      have ho2 := Nat.le_of_ble_eq_true ho2
      have hob' := hs1.objs n
      rw [hob] at hob'
      obtain ⟨hes, cells, hrow, hc⟩ := hob'
      have hxj := hc j _ (getD_some (d := ty.dflt) hj)
      have hlen := hw.length
      obtain ⟨x', rest, u1, u2, h, e1, htc, hr⟩ := fromL_sound h ((TC_leaves (ρ := ρ) (lv := σ1.live) hxj).splice hw off)
      cases rest with
      | cons => simp [M.exec] at h
      | nil =>
        have := hr.nil_left
        subst this
        rw [List.append_nil] at e1
        simp only [M.exec, Option.some.injEq, Prod.mk.injEq, true_and] at h
        subst h
        rw [hes] at ha
        have hcl : cells.length = xs.length * ty.sz := hrow.1
        rcases hrow.2 with ⟨e0, _⟩ | ⟨g, cap, cur, e0, hb0, hg, hnc, hcm, hcs, htake⟩
        · rw [hh] at e0; simp at e0
        rw [hh] at e0
        simp only [Value.slice.injEq, Option.some.injEq, Addr.mk.injEq, and_true] at e0
        obtain ⟨rfl, rfl, rfl⟩ := e0
        have hle : j * ty.sz + ty.sz ≤ xs.length * ty.sz := by rw [← Nat.succ_mul]; exact Nat.mul_le_mul_right _ hj
        have hcap : xs.length * ty.sz ≤ c * ty.sz := Nat.mul_le_mul_right _ hnc
        have hds : (a.eval y).cells.toList.length = ws.length := hlen.symm
        have hrun := run_store_at (P := P) (w := w) hi ho ha hg (size_of_len (by rw [hds, ← hz]; rw [← hc1.length] at hlen; exact hlen)) (by
          have : (a.eval y).cells.size = ws.length := by rw [← hds]; simp
          rw [this]; omega) hc2
        refine ⟨_, F1, hrun, ?_⟩
        obtain ⟨ds, hdd⟩ : ∃ ds, ds = (a.eval y).cells.toList := ⟨_, rfl⟩
        rw [← hdd] at hds hw e1 ⊢
        have hN1 : xs.length * ty.sz ≤ cur.toList.length := by simp only [Array.length_toList, hcs]; exact hcap
        have hp1 : j * ty.sz + off + ds.length ≤ xs.length * ty.sz := by omega
        have hlv : ∀ m, σ1.live m → (σ1.setO n (.row e ty (xs.set j x'))).live m := live_setO (by simp)
        have hbk : blk ρ n (σ1.ob n) = some b := by rw [hob]; simp [blk, hh, Value.ownBlock]
        have hFw : ∀ b', F1 b' → (w.setRow b (cur.toList.take (j * ty.sz + off) ++ ds ++ cur.toList.drop (j * ty.sz + off + ds.length)).toArray).heap[b']? = w.heap[b']? := fun b' hb' =>
          setRow_other w _ b' _ (fun e => (hs1.own n _ hbk).1 (e ▸ hb'))
        have hnew : RowC F1 w ty (xs.set j x') (cells.take (j * ty.sz + off) ++ ds ++ cells.drop (j * ty.sz + off + ds.length)) := RowC_set hc hcl hj (by omega) (by rw [e1]; exact htc)
        refine hs1.step (fun m => m = n) (fun b' => b' = b) (fun _ => False) (pr_setRow w _ _) (fun _ h => h.elim) (fun b' hb' _ => .inl ⟨n, rfl, by rw [hb']; exact hbk⟩) (fun m hm => by rw [setO_ob, if_neg hm]) hlv (fun _ _ => ⟨rfl, rfl, rfl⟩)
          (fun _ h => h) (fun _ h => .inl h) (fun m hm => ?_) (fun m b' hm hb' => ?_) (fun m k b hm hk hne => absurd (hm.trans hk.symm) hne) hs1.defers hs1.size hs1.pin (fun s => .inl ⟨rfl, rfl⟩)
        · subst hm
          rw [setO_ob, if_pos rfl]
          refine ⟨hes, cells.take (j * ty.sz + off) ++ ds ++ cells.drop (j * ty.sz + off + ds.length), ⟨?_, .inr ⟨b, c, _, by rw [hh, List.length_set], hb0, setRow_heap w b cur _ e _ hg, by rw [List.length_set]; exact hnc, hcm, ?_, ?_⟩⟩, RowC_mono (fun _ h => h) hFw hnew⟩
          · rw [List.length_set, List.length_append, List.length_append, List.length_take, List.length_drop]; omega
          · simp only [List.size_toArray, List.length_append, List.length_take, List.length_drop, Array.length_toList]; omega
          · simp only [List.toList_toArray]
            rw [List.length_set, take_splice _ _ hp1 hN1, htake]
        · subst hm
          rw [setO_ob, if_pos rfl] at hb'
          have : b' = b := by simpa [blk, hh, Value.ownBlock] using hb'.symm
          subst this
          exact ⟨(hs1.own m _ hbk).1, .inl ⟨m, rfl, hbk⟩⟩
    · simp [M.exec] at h
  · simp [M.exec] at h
end
end Go.Gx

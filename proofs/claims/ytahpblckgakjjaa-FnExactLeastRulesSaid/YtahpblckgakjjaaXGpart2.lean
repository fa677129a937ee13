/-
  Gx: an interpreter of our own, and that it is sound for the model.
-/
import Derived.Test.YtahpblckgakjjaaXGpart1
import Derived.Laws.Tables
import Derived.Laws.MakeOwn
import Derived.Maps.AppendAt
set_option linter.unusedVariables false
set_option linter.unusedSimpArgs false
namespace Go.Gx
section
variable {P : Program} {cx : Ctx} {nt : Fr} {ρ : Rho} {F : Nat → Prop} {σ σ' : St} {a : Act} {w w' : World} {o : Oper} {K : Act → World → Prop} {Q : Exit → Act → World → Prop}
theorem add_at (b o n : Nat) : (⟨b, o, none⟩ : Addr).add n = ⟨b, o + n, none⟩ := by unfold Addr.add; split <;> simp_all
theorem list_of_get {R : SV → Value → Prop} : ∀ (ls : List SV) (Pc : Nat → Value → Prop), (∀ j sv, ls[j]? = some sv → ∃ u, Pc j u ∧ R sv u) → ∃ us, All2 R ls us ∧ ∀ j u, us[j]? = some u → Pc j u
  | [], Pc, _ => ⟨[], trivial, fun j u h => by simp at h⟩
  | x :: ls, Pc, h => by
    obtain ⟨u, h1, h2⟩ := h 0 x (by simp)
    obtain ⟨us, h3, h4⟩ := list_of_get ls (fun j u => Pc (j + 1) u) (fun j sv hj => h (j + 1) sv (by simpa using hj))
    refine ⟨u :: us, ⟨h2, h3⟩, fun j v hj => ?_⟩
    cases j with
    | zero => simp at hj; subst hj; exact h1
    | succ j => exact h4 j v (by simpa using hj)
theorem getD_some {α : Type} {xs : List α} {i : Nat} {d : α} (h : i < xs.length) : xs[i]? = some (xs.getD i d) := by
  rw [List.getElem?_eq_getElem h, List.getD_eq_getElem?_getD, List.getElem?_eq_getElem h]; rfl
theorem leaves_osPut {t' : Ty} : ∀ {t : Ty} {off : Nat} {x : t.I} {y : List t'.I}, leaves t (t.osPut off t' x y) = leaves t x
  | .os e t, 0, x, y => rfl
  | .os _ _, _ + 1, x, y => rfl
  | .pair a b, off, x, y => by
    simp only [Ty.osPut]
    cases hb : Nat.blt off a.sz with
    | true => simp only [cond_true, leaves]; rw [leaves_osPut]
    | false => simp only [cond_false, leaves]; rw [leaves_osPut]
  | .int _, off, x, y => by cases off <;> rfl
  | .bool, off, x, y => by cases off <;> rfl
  | .str, off, x, y => by cases off <;> rfl
  | .sl _, off, x, y => by cases off <;> rfl
  | .slo _, off, x, y => by cases off <;> rfl
  | .oso _ _, off, x, y => by cases off <;> rfl
theorem leaves_os : ∀ {t : Ty} {off : Nat} {p : TypeId × Ty} {x : t.I}, t.osAt off = some p → (leaves t x)[off]? = some .any
  | .os e t, 0, _, x, _ => rfl
  | .os _ _, _ + 1, _, x, h => by simp [Ty.osAt] at h
  | .pair a b, off, p, x, h => by
    simp only [Ty.osAt] at h
    cases hb : Nat.blt off a.sz with
    | true =>
      have hlt : off < a.sz := by simp only [Nat.blt] at hb; exact Nat.le_of_ble_eq_true hb
      rw [hb] at h
      simp only [leaves]
      rw [List.getElem?_append_left (by rw [leaves_len]; exact hlt)]
      exact leaves_os h
    | false =>
      have hge : a.sz ≤ off := by
        simp only [Nat.blt] at hb
        rcases Nat.lt_or_ge off a.sz with h | h
        · have : Nat.ble (off + 1) a.sz = true := Nat.ble_eq_true_of_le h
          rw [this] at hb; cases hb
        · exact h
      rw [hb] at h
      simp only [leaves]
      rw [List.getElem?_append_right (by rw [leaves_len]; exact hge), leaves_len]
      exact leaves_os h
  | .int _, off, _, _, h => by cases off <;> simp [Ty.osAt] at h
  | .bool, off, _, _, h => by cases off <;> simp [Ty.osAt] at h
  | .str, off, _, _, h => by cases off <;> simp [Ty.osAt] at h
  | .sl _, off, _, _, h => by cases off <;> simp [Ty.osAt] at h
  | .slo _, off, _, _, h => by cases off <;> simp [Ty.osAt] at h
  | .oso _ _, off, _, _, h => by cases off <;> simp [Ty.osAt] at h
/-- Where the leaves behind an address lie. -/
theorem addr_sound {α : Type} {sa : SV} {v : Value} {kk : List SV → M α} {r : α × St} (h : (addrM sa kk).exec σ = some r) (hs : Sim cx nt ρ F σ a w) (ha : VR ρ F w (σ.lv ρ) sa v) :
    ∃ ls ad, (kk ls).exec σ = some r ∧ v = .pointer (some ad) ∧ ∀ j sv, ls[j]? = some sv → ∃ u, w.cell? (ad.add j) = some u ∧ LR0 ρ F w (σ.lv ρ) sv u := by
  unfold addrM at h
  split at h
  · rename_i n off
    obtain ⟨hl, rfl⟩ := ha
    simp only [M.exec] at h
    split at h
    · rename_i e vs hob
      have := hs.objs n
      rw [hob] at this
      obtain ⟨_, us, hg, hu⟩ := this
      refine ⟨_, _, h, rfl, fun j sv hj => ?_⟩
      rw [List.getElem?_drop] at hj
      obtain ⟨u, h1, h2⟩ := hu.get hj
      exact ⟨u, by rw [add_at, cell_of_row w _ _ us e (0, 0) hg, ← Array.getElem?_toList]; exact h1, h2⟩
    · simp [M.exec] at h
  · rename_i n i off
    obtain ⟨hl, b, l, c, hh, rfl⟩ := ha
    simp only [M.exec] at h
    split at h
    · rename_i e t xs hob
      replace h := test_exec h; obtain ⟨hi, h⟩ := h
      have hi := of_decide_eq_true hi
      have := hs.objs n
      rw [hob] at this
      obtain ⟨hes, ⟨cells, bss, hrow, hc, _⟩, _⟩ := this
      obtain ⟨bb, _, hx⟩ := DRow_get hc i _ (getD_some (d := t.dflt) hi)
      refine ⟨_, _, h, rfl, fun j sv hj => ?_⟩
      rw [List.getElem?_drop] at hj
      obtain ⟨u, h1, h2⟩ := (DC_leaves hx).get hj
      refine ⟨u, ?_, h2⟩
      have hcell := hrow.cells (g := b) (by rw [hh]; simp [Value.ownBlock]) _ u (chunk_get h1)
      rw [add_at] at hcell ⊢
      rw [hes]
      rw [← hcell]
      congr 2
      omega
    · rename_i e t xs i0 off0 id hob
      replace h := test_exec h; obtain ⟨hi, h⟩ := h
      have hi := of_decide_eq_true hi
      have := hs.objs n
      rw [hob] at this
      obtain ⟨hes, hlv, ⟨hi0, hsl0, e', t', hos, cells, bss, hrow, hcell0, hc, _⟩, _⟩ := this
      have hlt := osAt_lt hos
      obtain ⟨y, hy1, hy2⟩ : ∃ y, (putBack xs i0 off0 ([] : List t'.I))[i]? = some y ∧ leaves t y = leaves t (xs.getD i t.dflt) := by
        unfold putBack
        rw [List.getElem?_set]
        split
        · rename_i e; subst e; try rw [if_pos hi]
          exact ⟨_, rfl, leaves_osPut⟩
        · exact ⟨_, getD_some (d := t.dflt) hi, rfl⟩
      obtain ⟨bb, _, hx⟩ := DRow_get hc i _ hy1
      refine ⟨_, _, h, rfl, fun j sv hj => ?_⟩
      rw [List.getElem?_drop] at hj
      obtain ⟨u, h1, h2⟩ := (DC_leaves (ρ := ρ) (lv := σ.lv ρ) hx).get (by rw [hy2]; exact hj)
      rw [chunk_set hlt] at h1
      have hfin : ∀ u, cells[i * t.sz + (off + j)]? = some u → w.cell? ((⟨b, i * ρ.es n + off, none⟩ : Addr).add j) = some u := by
        intro u hu
        have hcell := hrow.cells (g := b) (by rw [hh]; simp [Value.ownBlock]) _ u hu
        rw [add_at] at hcell ⊢
        rw [hes, ← hcell]
        congr 2
        omega
      by_cases e1 : i = i0 ∧ off + j = off0
      · obtain ⟨rfl, rfl⟩ := e1
        refine ⟨_, hfin _ hcell0, ?_⟩
        rw [leaves_os hos] at hj
        cases hj
        obtain ⟨A, l, c, e⟩ := hsl0
        show Value.oneCell' _ = true
        rw [e]; rfl
      · refine ⟨u, hfin u ?_, h2⟩
        split at h1
        · rename_i e2
          rw [List.getElem?_set, if_neg (fun h => e1 ⟨e2, h.symm⟩)] at h1
          rw [e2]
          exact chunk_get h1
        · exact chunk_get h1
    · rename_i e t x hob
      obtain ⟨xs, rfl, h⟩ := opt_exec h
      replace h := test_exec h; obtain ⟨hi, h⟩ := h
      have hi := of_decide_eq_true hi
      have := hs.objs n
      rw [hob] at this
      obtain ⟨hes, ⟨cells, bss, hrow, hc, _⟩, _⟩ := this
      obtain ⟨bb, _, hx⟩ := DRow_get hc i _ (getD_some (d := t.dflt) hi)
      refine ⟨_, _, h, rfl, fun j sv hj => ?_⟩
      rw [List.getElem?_drop] at hj
      obtain ⟨u, h1, h2⟩ := (DC_leaves hx).get hj
      refine ⟨u, ?_, h2⟩
      have hcell := hrow.cells (g := b) (by rw [hh]; simp [Value.ownBlock]) _ u (chunk_get h1)
      rw [add_at] at hcell ⊢
      rw [hes]
      rw [← hcell]
      congr 2
      omega
    · simp [M.exec] at h
  · rename_i vs
    obtain ⟨ad, rfl, hv⟩ := ha
    exact ⟨_, ad, h, rfl, fun j sv hj => (hv j sv hj).2⟩
  · simp [M.exec] at h
theorem loadM_sound {α : Type} {t : TypeId} {i : TI} {sa : SV} {v0 : Value} {kk : SV → M α} {r : α × St} (hi : tinfo P t = some i) (h : (loadM i sa kk).exec σ = some r) (hs : Sim cx nt ρ F σ a w) (ha : VR ρ F w (σ.lv ρ) sa v0) :
    ∃ sv v ad, (kk sv).exec σ = some r ∧ LR1 ρ F w (σ.lv ρ) sv v ∧ v0 = .pointer (some ad) ∧ (loadVar t ad).run P w = .ok v w := by
  unfold loadM at h
  obtain ⟨ls, ad, h, hv, hc⟩ := addr_sound h hs ha
  replace h := test_exec h; obtain ⟨hz, h⟩ := h
  have hz := Nat.le_of_ble_eq_true hz
  have hag := run_isAgg hi
  have hsz := run_sizeOf hi
  cases hb : i.agg with
  | true =>
    rw [hb] at h hag
    simp only [cond_true] at h
    obtain ⟨us, h1, h2⟩ := list_of_get (ls.take i.size) (fun j u => w.cell? (ad.add j) = some u) (fun j sv hj => hc j sv (by
      rw [List.getElem?_take] at hj
      split at hj
      · exact hj
      · cases hj))
    have hlen : us.length = i.size := by rw [← h1.length, List.length_take]; omega
    refine ⟨_, .agg us.toArray, ad, h, ⟨_, rfl, by simpa using h1⟩, hv, ?_⟩
    have := run_loadCells_list (P := P) w ad us h2
    rw [hlen] at this
    simp [loadVar, hag, hsz, this]
  | false =>
    rw [hb] at h hag
    simp only [cond_false] at h
    cases ls with
    | cons sv rest =>
      obtain ⟨u, h1, h2⟩ := hc 0 sv (by simp)
      rw [add_zero] at h1
      refine ⟨_, u, ad, h, LR1_of_LR0 h2, hv, ?_⟩
      simp [loadVar, hag, load, Sem.run, h1]
    | nil => simp [M.exec] at h
theorem load_sound {t : TypeId} {i : TI} {x : Operand} {sa : SV} {kk : SV → MU} {r : Unit × St} (hi : tinfo P t = some i) (h : (loadM i sa kk).exec σ = some r) (hs : Sim cx nt ρ F σ a w) (ha : VR ρ F w (σ.lv ρ) sa (a.eval x)) (ho : o.op = .load t x) :
    ∃ sv v, (kk sv).exec σ = some r ∧ VR ρ F w (σ.lv ρ) sv v ∧ (execOp a.eval o).run P w = .ok (.value v) w := by
  obtain ⟨sv, v, ad, h1, h2, h3, h4⟩ := loadM_sound hi h hs ha
  exact ⟨sv, v, h1, VR_of_LR1 h2, by simp [execOp, ho, h3, Instr.loadAt, Instr.sureAddr, h4]⟩

theorem run_store_at {t : TypeId} {i : TI} {x y : Operand} {g off : Nat} {e : TypeId} {cur : Array Value} (hi : tinfo P t = some i) (ho : o.op = .store t x y) (hx : a.eval x = .pointer (some ⟨g, off, none⟩))
    (hg : w.heap[g]? = some (.cells cur e (0, 0))) (hz : (a.eval y).cells.size = i.size) (hle : off + (a.eval y).cells.size ≤ cur.size) (h1 : ∀ u ∈ (a.eval y).cells.toList, u.oneCell' = true) :
    (execOp a.eval o).run P w = .ok .skip (w.setRow g (cur.toList.take off ++ (a.eval y).cells.toList ++ cur.toList.drop (off + (a.eval y).cells.toList.length)).toArray) := by
  have hsz := run_sizeOf (P := P) hi
  have := run_storeCells_at P g off e (a.eval y).cells.toList 0 cur w hg (by simpa using hle) h1
  simp only [Nat.add_zero] at this
  simp only [execOp, ho, hx, Instr.storeAt, Instr.sureAddr, storeVar, Sem.run_bind, Sem.run_pure, Result.andThen_ok, hsz, hz, ne_eq, not_true, if_false, this]
theorem All2.splice {R : SV → Value → Prop} {vs cs : List SV} {us ds : List Value} (h : All2 R vs us) (h' : All2 R cs ds) (off : Nat) : All2 R (splice vs cs off) (us.take off ++ ds ++ us.drop (off + ds.length)) := by
  unfold Gx.splice
  rw [h'.length]
  exact ((h.take off).append h').append (h.drop _)
theorem pr_setRow (w : World) (g : Nat) (cs : Array Value) : Pr (fun b => b = g) w (w.setRow g cs) :=
  ⟨rfl, rfl, rfl, by simp, fun b _ hb => setRow_other w g b cs hb⟩
theorem frz_sound {α : Type} : ∀ {vs : List SV} {us : List Value} {kk : List SV → M α} {r : α × St} {F : Nat → Prop} {σ : St}, (frz vs kk).exec σ = some r → Sim cx nt ρ F σ a w → All2 (LR0 ρ F w (σ.lv ρ)) vs us →
    ∃ ws σ1 F1, (kk ws).exec σ1 = some r ∧ Sim cx nt ρ F1 σ1 a w ∧ Tk ρ F F1 σ σ1 [] ∧ All2 (LR0 ρ F1 w (σ1.lv ρ)) ws us
  | [], us, kk, r, F, σ, h, hs, hv => ⟨[], σ, F, h, hs, Tk.refl _ _ _, hv⟩
  | sv :: vs, [], kk, r, F, σ, h, hs, hv => hv.elim
  | sv :: vs, u :: us, kk, r, F, σ, h, hs, hv => by
    have other : ∀ (h : (frz vs fun us => kk (sv :: us)).exec σ = some r), ∃ ws σ1 F1, (kk ws).exec σ1 = some r ∧ Sim cx nt ρ F1 σ1 a w ∧ Tk ρ F F1 σ σ1 [] ∧ All2 (LR0 ρ F1 w (σ1.lv ρ)) ws (u :: us) := by
      intro h
      obtain ⟨ws, σ1, F1, h1, h2, h3, h4⟩ := frz_sound h hs hv.2
      exact ⟨sv :: ws, σ1, F1, h1, h2, h3, h3.LR0 hv.1, h4⟩
    cases sv with
    | own n =>
      obtain ⟨⟨hl, e, _⟩, hv⟩ := hv
      subst e
      simp only [frz, M.exec] at h
      split at h
      · rename_i e t xs hob
        simp only [M.exec] at h
        have hob' := hs.objs n
        rw [hob] at hob'
        obtain ⟨hes, hown, _⟩ := hob'
        have hl : σ.live n := by intro e; rw [hob] at e; cases e
        have hh : (σ.ob n).held = true := by rw [hob]; rfl
        have hk := hs.kill hl true
        have hkt : Tk ρ F (fun b => F b ∨ (true = true ∧ blk ρ n (σ.ob n) b)) σ (σ.setO n .dead) [] := Tk.kill hs hl hh true
        have hro : TC (fun b => F b ∨ (true = true ∧ blk ρ n (σ.ob n) b)) w (.sl t.ro) (roL t xs) [ρ.hd n] := ro_of_own hown (fun _ h => .inl h) (fun b hb => .inr ⟨rfl, hh, hb⟩)
        obtain ⟨ws, σ1, F1, h1, h2, h3, h4⟩ := frz_sound h hk (hv.imp fun _ _ h => hkt.LR0 h)
        exact ⟨_, σ1, F1, h1, h2, by simpa using Tk.trans hs hkt h3, TC_mono h3.up (fun _ _ => rfl) hro, h4⟩
      · simp [M.exec] at h
    | view n lo hi =>
      obtain ⟨⟨hl, hsub⟩, hv⟩ := hv
      simp only [frz, M.exec] at h
      split at h
      · rename_i e t xs hob
        simp only [M.exec] at h
        have hob' := hs.objs n
        rw [hob] at hob'
        obtain ⟨hes, hown, _⟩ := hob'
        have hl : σ.live n := by intro e; rw [hob] at e; cases e
        have hh : (σ.ob n).held = true := by rw [hob]; rfl
        have hk := hs.kill hl true
        have hkt : Tk ρ F (fun b => F b ∨ (true = true ∧ blk ρ n (σ.ob n) b)) σ (σ.setO n .dead) [] := Tk.kill hs hl hh true
        rw [hes] at hsub
        have hro : TC (fun b => F b ∨ (true = true ∧ blk ρ n (σ.ob n) b)) w (.sl t.ro) (((roL t xs).take hi).drop lo) [u] := TC_sub (ro_of_own hown (fun _ h => .inl h) (fun b hb => .inr ⟨rfl, hh, hb⟩)) (by rw [t.ro_sz]; exact hsub)
        obtain ⟨ws, σ1, F1, h1, h2, h3, h4⟩ := frz_sound h hk (hv.imp fun _ _ h => hkt.LR0 h)
        exact ⟨_, σ1, F1, h1, h2, by simpa using Tk.trans hs hkt h3, TC_mono h3.up (fun _ _ => rfl) hro, h4⟩
      · simp [M.exec] at h
    | _ => exact other h
theorem fromL_sound {α : Type} : ∀ {t : Ty} {vs : List SV} {us : List Value} {kk : t.I → List SV → M α} {r : α × St}, (fromL t vs kk).exec σ = some r → All2 (LR0 ρ F w (σ.lv ρ)) vs us →
    ∃ x rest u1 u2, (kk x rest).exec σ = some r ∧ us = u1 ++ u2 ∧ TC F w t x u1 ∧ All2 (LR0 ρ F w (σ.lv ρ)) rest u2
  | .pair t1 t2, vs, us, kk, r, h, hv => by
    simp only [fromL] at h
    obtain ⟨x, r1, u1, u2, h1, rfl, h2, h3⟩ := fromL_sound h hv
    obtain ⟨y, r2, u3, u4, h4, rfl, h5, h6⟩ := fromL_sound h1 h3
    exact ⟨(x, y), r2, u1 ++ u3, u4, h4, by simp, ⟨u1, u3, rfl, h2, h5⟩, h6⟩
  | .int k, [], us, kk, r, h, hv => by simp [fromL, M.exec] at h
  | .bool, [], us, kk, r, h, hv => by simp [fromL, M.exec] at h
  | .str, [], us, kk, r, h, hv => by simp [fromL, M.exec] at h
  | .sl t, [], us, kk, r, h, hv => by simp [fromL, M.exec] at h
  | .slo t, [], us, kk, r, h, hv => by simp [fromL, M.exec] at h
  | .os _ _, vs, us, kk, r, h, hv => by cases vs <;> simp [fromL, M.exec] at h
  | .int k, sv :: vs, [], kk, r, h, hv => hv.elim
  | .bool, sv :: vs, [], kk, r, h, hv => hv.elim
  | .str, sv :: vs, [], kk, r, h, hv => hv.elim
  | .sl t, sv :: vs, [], kk, r, h, hv => hv.elim
  | .slo t, sv :: vs, [], kk, r, h, hv => hv.elim
  | .int k, sv :: vs, u :: us, kk, r, h, hv => by
    cases sv with
    | int k' z =>
      simp only [fromL] at h
      replace h := test_exec h; obtain ⟨hk, h⟩ := h
      have hk := of_decide_eq_true hk
      subst hk
      have e : u = .int k' z := hv.1
      subst e
      exact ⟨z, vs, [_], us, h, rfl, rfl, hv.2⟩
    | _ => simp [fromL, M.exec] at h
  | .bool, sv :: vs, u :: us, kk, r, h, hv => by
    cases sv with
    | bool z =>
      have e : u = .bool z := hv.1
      subst e
      exact ⟨z, vs, [_], us, h, rfl, rfl, hv.2⟩
    | _ => simp [fromL, M.exec] at h
  | .str, sv :: vs, u :: us, kk, r, h, hv => by
    cases sv with
    | str z =>
      have e : u = .string z := hv.1
      subst e
      exact ⟨z, vs, [_], us, h, rfl, rfl, hv.2⟩
    | _ => simp [fromL, M.exec] at h
  | .sl t, sv :: vs, u :: us, kk, r, h, hv => by
    cases sv with
    | nil =>
      have e : u = .slice none 0 0 := hv.1
      subst e
      exact ⟨[], vs, [_], us, h, rfl, ⟨none, 0, rfl, Nat.le_refl _, by simp [maxLen], fun i x hi => by simp at hi⟩, hv.2⟩
    | ro t' xs =>
      simp only [fromL] at h
      obtain ⟨e, h⟩ := castL_exec h
      subst e
      exact ⟨xs, vs, [u], us, h, rfl, hv.1, hv.2⟩
    | roo t' x =>
      simp only [fromL] at h
      obtain ⟨e, h⟩ := castL_exec h
      subst e
      exact ⟨_, vs, [u], us, h, rfl, TC_roo hv.1, hv.2⟩
    | _ => simp [fromL, M.exec] at h
  | .slo t, sv :: vs, u :: us, kk, r, h, hv => by
    cases sv with
    | nil =>
      have e : u = .slice none 0 0 := hv.1
      subst e
      exact ⟨none, vs, [_], us, h, rfl, ⟨fun _ => rfl, none, 0, rfl, Nat.le_refl _, by simp [maxLen], fun i x hi => by simp at hi⟩, hv.2⟩
    | ro t' xs =>
      simp only [fromL] at h
      obtain ⟨e, h⟩ := castL_exec h
      subst e
      obtain ⟨h1, h2⟩ := hv
      obtain ⟨A, c, q1, q2, q3, q4⟩ := h1
      exact ⟨some xs, vs, [u], us, h, rfl, ⟨fun e => by simp at e, A, c, q1, q2, q3, q4⟩, h2⟩
    | roo t' x =>
      simp only [fromL] at h
      split at h
      · rename_i e
        subst e
        exact ⟨x, vs, [u], us, h, rfl, hv.1, hv.2⟩
      · simp [M.exec] at h
    | _ => simp [fromL, M.exec] at h
theorem F_none {F : Nat → Prop} {p : Nat → Prop} : (fun b => F b ∨ (false = true ∧ p b)) = F := by funext b; simp
theorem Sim.kill0 {σ : St} (h : Sim cx nt ρ F σ a w) {n : Nat} (hl : σ.live n) : Sim cx nt ρ F (σ.setO n .dead) a w := by
  have := h.kill hl false
  rwa [F_none] at this
theorem Tk.kill0 {σ : St} (h : Sim cx nt ρ F σ a w) {n : Nat} (hl : σ.live n) (hh : (σ.ob n).held = true) : Tk ρ F F σ (σ.setO n .dead) (ρ.bk n) := by
  have := Tk.kill h hl hh false
  rw [F_none] at this
  simpa using this
/-- Data with slices of their own out of cells. -/
theorem fromD_sound {α : Type} : ∀ {t : Ty} {vs : List SV} {us : List Value} {kk : t.I → List SV → M α} {r : α × St} {σ : St}, (fromD t vs kk).exec σ = some r → Sim cx nt ρ F σ a w → All2 (LR0 ρ F w (σ.lv ρ)) vs us →
    ∃ x rest u1 u2 σ1 bs, (kk x rest).exec σ1 = some r ∧ us = u1 ++ u2 ∧ DC F w t x u1 bs ∧ All2 (LR0 ρ F w (σ1.lv ρ)) rest u2 ∧ Sim cx nt ρ F σ1 a w ∧ Tk ρ F F σ σ1 bs
  | .pair t1 t2, vs, us, kk, r, σ, h, hs, hv => by
    simp only [fromD] at h
    obtain ⟨x, r1, u1, u2, σ1, b1, h1, rfl, h2, h3, hs1, ht1⟩ := fromD_sound h hs hv
    obtain ⟨y, r2, u3, u4, σ2, b2, h4, rfl, h5, h6, hs2, ht2⟩ := fromD_sound h1 hs1 h3
    exact ⟨(x, y), r2, u1 ++ u3, u4, σ2, b1 ++ b2, h4, by simp, ⟨u1, u3, b1, b2, rfl, rfl, h2, h5⟩, h6, hs2, Tk.trans hs ht1 ht2⟩
  | .int k, vs, us, kk, r, σ, h, hs, hv => by
    obtain ⟨x, rest, u1, u2, h1, h2, h3, h4⟩ := fromL_sound (t := .int k) h hv
    exact ⟨x, rest, u1, u2, σ, [], h1, h2, ⟨h3, rfl⟩, h4, hs, Tk.refl _ _ _⟩
  | .bool, vs, us, kk, r, σ, h, hs, hv => by
    obtain ⟨x, rest, u1, u2, h1, h2, h3, h4⟩ := fromL_sound (t := .bool) h hv
    exact ⟨x, rest, u1, u2, σ, [], h1, h2, ⟨h3, rfl⟩, h4, hs, Tk.refl _ _ _⟩
  | .str, vs, us, kk, r, σ, h, hs, hv => by
    obtain ⟨x, rest, u1, u2, h1, h2, h3, h4⟩ := fromL_sound (t := .str) h hv
    exact ⟨x, rest, u1, u2, σ, [], h1, h2, ⟨h3, rfl⟩, h4, hs, Tk.refl _ _ _⟩
  | .sl t, vs, us, kk, r, σ, h, hs, hv => by
    obtain ⟨x, rest, u1, u2, h1, h2, h3, h4⟩ := fromL_sound (t := .sl t) h hv
    exact ⟨x, rest, u1, u2, σ, [], h1, h2, ⟨h3, rfl⟩, h4, hs, Tk.refl _ _ _⟩
  | .slo t, vs, us, kk, r, σ, h, hs, hv => by
    obtain ⟨x, rest, u1, u2, h1, h2, h3, h4⟩ := fromL_sound (t := .slo t) h hv
    exact ⟨x, rest, u1, u2, σ, [], h1, h2, ⟨h3, rfl⟩, h4, hs, Tk.refl _ _ _⟩
  | .os e t, [], us, kk, r, σ, h, hs, hv => by simp [fromD, M.exec] at h
  | .os e t, sv :: vs, [], kk, r, σ, h, hs, hv => hv.elim
  | .os e t, sv :: vs, u :: us, kk, r, σ, h, hs, hv => by
    cases sv with
    | nil =>
      have e : u = .slice none 0 0 := hv.1
      subst e
      exact ⟨[], _, [_], us, σ, [], h, rfl, ⟨_, [], rfl, ⟨by simp, .inl ⟨rfl, rfl⟩⟩, fun i x hi => by simp at hi, rfl⟩, hv.2, hs, Tk.refl _ _ _⟩
    | own n =>
      obtain ⟨⟨_, rfl, _⟩, hv⟩ := hv
      simp only [fromD, M.exec] at h
      split at h
      · rename_i e2 t2 xs hob
        replace h := test_exec h; obtain ⟨ht, h⟩ := h
        simp only [Bool.and_eq_true] at ht
        have := Nat.eq_of_beq_eq_true ht.1
        subst this
        obtain ⟨et, h⟩ := castL_exec h
        subst et
        simp only [M.exec] at h
        have hob' := hs.objs n
        rw [hob] at hob'
        have hl : σ.live n := by intro e; rw [hob] at e; cases e
        have hh : (σ.ob n).held = true := by rw [hob]; rfl
        have hk := hs.kill0 hl
        have hkt := Tk.kill0 hs hl hh
        obtain ⟨⟨cells, hrow, hc⟩, hbk⟩ := (own_noOs ht.2).1 hob'.2.1
        exact ⟨xs, _, [_], us, _, ρ.bk n, h, rfl, ⟨_, cells, rfl, hrow, hc, hbk⟩, hv.imp fun _ _ h => hkt.LR0 h, hk, hkt⟩
      · simp [M.exec] at h
    | view n lo hi =>
      cases lo with
      | succ => simp [fromD, M.exec] at h
      | zero =>
      obtain ⟨⟨_, hsub⟩, hv⟩ := hv
      simp only [fromD, M.exec] at h
      split at h
      · rename_i e2 t2 xs hob
        replace h := test_exec h; obtain ⟨ht, h⟩ := h
        simp only [Bool.and_eq_true] at ht
        have := Nat.eq_of_beq_eq_true ht.1
        subst this
        obtain ⟨et, h⟩ := castL_exec h
        subst et
        simp only [M.exec] at h
        have hob' := hs.objs n
        rw [hob] at hob'
        have hl : σ.live n := by intro e; rw [hob] at e; cases e
        have hh : (σ.ob n).held = true := by rw [hob]; rfl
        have hk := hs.kill0 hl
        have hkt := Tk.kill0 hs hl hh
        obtain ⟨hes, hown, _⟩ := hob'
        obtain ⟨⟨cells, hrow, hc⟩, hbk⟩ := (own_noOs ht.2).1 hown
        rw [hes] at hsub
        obtain ⟨ht1, ht2⟩ := own_take hrow hsub
        have hlen : (xs.take hi).length = hi := by
          obtain ⟨A, l, c, A2, e0, _, hle, _⟩ := hsub
          rw [List.length_take]
          rcases hrow.2 with ⟨e1, e2⟩ | ⟨g, cap, cur, e1, _⟩
          · rw [e0] at e1; simp only [Value.slice.injEq] at e1; omega
          · rw [e0] at e1; simp only [Value.slice.injEq] at e1; omega
        exact ⟨xs.take hi, _, [_], us, _, ρ.bk n, h, rfl, ⟨_, _, rfl, by rw [hlen]; exact ht1, RowC_take hc hi, by rw [hbk, ht2]⟩, hv.imp fun _ _ h => hkt.LR0 h, hk, hkt⟩
      · simp [M.exec] at h
    | _ => simp [fromD, M.exec] at h
  | .oso e t, [], us, kk, r, σ, h, hs, hv => by simp [fromD, M.exec] at h
  | .oso e t, sv :: vs, [], kk, r, σ, h, hs, hv => hv.elim
  | .oso e t, sv :: vs, u :: us, kk, r, σ, h, hs, hv => by
    cases sv with
    | nil =>
      have e : u = .slice none 0 0 := hv.1
      subst e
      exact ⟨none, _, [_], us, σ, [], h, rfl, ⟨_, [], rfl, ⟨by simp, .inl ⟨rfl, rfl⟩⟩, fun i x hi => by simp at hi, rfl, fun _ => rfl⟩, hv.2, hs, Tk.refl _ _ _⟩
    | nlo b =>
      simp only [fromD] at h
      replace h := test_exec h; obtain ⟨hb, h⟩ := h
      have e : u = .slice none 0 0 := hv.1.2 hb
      subst e
      exact ⟨none, _, [_], us, σ, [], h, rfl, ⟨_, [], rfl, ⟨by simp, .inl ⟨rfl, rfl⟩⟩, fun i x hi => by simp at hi, rfl, fun _ => rfl⟩, hv.2, hs, Tk.refl _ _ _⟩
    | own n =>
      obtain ⟨⟨_, rfl, _⟩, hv⟩ := hv
      simp only [fromD, M.exec] at h
      split at h
      · rename_i e2 t2 xs hob
        replace h := test_exec h; obtain ⟨ht, h⟩ := h
        simp only [Bool.and_eq_true] at ht
        have := Nat.eq_of_beq_eq_true ht.1
        subst this
        obtain ⟨et, h⟩ := castL_exec h
        subst et
        simp only [M.exec] at h
        have hob' := hs.objs n
        rw [hob] at hob'
        have hl : σ.live n := by intro e; rw [hob] at e; cases e
        have hh : (σ.ob n).held = true := by rw [hob]; rfl
        have hk := hs.kill0 hl
        have hkt := Tk.kill0 hs hl hh
        obtain ⟨⟨cells, hrow, hc⟩, hbk⟩ := (own_noOs ht.2).1 hob'.2.1
        exact ⟨some xs, _, [_], us, _, ρ.bk n, h, rfl, ⟨_, cells, rfl, hrow, hc, hbk, fun h => by cases h⟩, hv.imp fun _ _ h => hkt.LR0 h, hk, hkt⟩
      · simp [M.exec] at h
    | _ => simp [fromD, M.exec] at h
/-- One element out of a value. -/
theorem elemOf_sound {α : Type} {t : Ty} {sv : SV} {v : Value} {kk : t.I → M α} {r : α × St} (h : (elemOf t sv kk).exec σ = some r) (hs : Sim cx nt ρ F σ a w) (hv : VR ρ F w (σ.lv ρ) sv v) :
    ∃ x σ1 F1 bs, (kk x).exec σ1 = some r ∧ Sim cx nt ρ F1 σ1 a w ∧ Tk ρ F F1 σ σ1 bs ∧ DC F1 w t x v.cells.toList bs ∧ ∀ u ∈ v.cells.toList, u.oneCell' = true := by
  unfold elemOf at h
  replace h := test_exec h; obtain ⟨hc, h⟩ := h
  obtain ⟨h1, h2⟩ := cells_of hc hv
  cases hno : t.noOs with
  | true =>
    rw [hno] at h
    simp only [cond_true] at h
    obtain ⟨ws, σ1, F1, h3, h4, h5, h6⟩ := frz_sound h hs h1
    obtain ⟨x, rest, u1, u2, h7, e, h8, h9⟩ := fromL_sound h3 h6
    cases rest with
    | cons => simp [M.exec] at h7
    | nil =>
      have := h9.nil_left
      subst this
      rw [List.append_nil] at e
      exact ⟨x, σ1, F1, [], h7, h4, h5, by rw [e]; exact DC_of_TC hno h8, h2⟩
  | false =>
    rw [hno] at h
    simp only [cond_false] at h
    obtain ⟨x, rest, u1, u2, σ1, bs, h7, e, h8, h9, h10, h11⟩ := fromD_sound h hs h1
    cases rest with
    | cons => simp [M.exec] at h7
    | nil =>
      have := h9.nil_left
      subst this
      rw [List.append_nil] at e
      exact ⟨x, σ1, F, bs, h7, h10, h11, by rw [e]; exact h8, h2⟩
theorem DRow_cons {t : Ty} {x : t.I} {xs : List t.I} {c1 c2 : List Value} {b : List Nat} {bss : List (List Nat)} (h1 : DC F w t x c1 b) (h2 : DRow F w t xs c2 bss) : DRow F w t (x :: xs) (c1 ++ c2) (b :: bss) := by
  have hl := DC_len h1
  refine ⟨b, bss, rfl, ?_, ?_⟩
  · rw [List.take_append_of_le_length (by omega), List.take_of_length_le (by omega)]; exact h1
  · rw [List.drop_append_of_le_length (by omega), List.drop_of_length_le (by omega), List.nil_append]; exact h2
theorem elems_sound {α : Type} {t : Ty} : ∀ {svs : List SV} {vs : List Value} {kk : List t.I → M α} {r : α × St} {F : Nat → Prop} {σ : St}, (elems t svs kk).exec σ = some r → Sim cx nt ρ F σ a w → All2 (VR ρ F w (σ.lv ρ)) svs vs →
    ∃ xs σ1 F1 bss, (kk xs).exec σ1 = some r ∧ Sim cx nt ρ F1 σ1 a w ∧ Tk ρ F F1 σ σ1 bss.flatten ∧ DRow F1 w t xs (vs.flatMap (·.cells.toList)) bss ∧ xs.length = vs.length ∧ (∀ v ∈ vs, v.cells.size = t.sz)
  | [], vs, kk, r, F, σ, h, hs, hv => ⟨[], σ, F, [], h, hs, Tk.refl _ _ _, rfl, by rw [hv.nil_left]; rfl, fun v hm => by rw [hv.nil_left] at hm; simp at hm⟩
  | sv :: svs, [], kk, r, F, σ, h, hs, hv => hv.elim
  | sv :: svs, v :: vs, kk, r, F, σ, h, hs, hv => by
    simp only [elems] at h
    obtain ⟨x, σ1, F1, b, h1, h2, h3, h4, _⟩ := elemOf_sound h hs hv.1
    obtain ⟨xs, σ2, F2, bss, h5, h6, h7, h8, h9, h10⟩ := elems_sound h1 h2 (hv.2.imp fun _ _ h => h3.VR h)
    have hl := DC_len h4
    refine ⟨x :: xs, σ2, F2, b :: bss, h5, h6, Tk.trans hs h3 h7, DRow_cons (DC_mono h7.up (fun _ _ => rfl) (fun _ _ => rfl) h4) h8, by simp [h9], fun u hu => ?_⟩
    rcases List.mem_cons.1 hu with rfl | hu
    · simpa using hl
    · exact h10 u hu

theorem size_of_len {v : Value} {n : Nat} (h : v.cells.toList.length = n) : v.cells.size = n := by simpa using h
theorem splice_get {us ds : List Value} {off j : Nat} (h : off + ds.length ≤ us.length) : (us.take off ++ ds ++ us.drop (off + ds.length))[j]? = if j < off then us[j]? else if j < off + ds.length then ds[j - off]? else us[j]? := by
  have hl : (us.take off).length = off := by rw [List.length_take]; omega
  by_cases h1 : j < off
  · rw [if_pos h1, List.append_assoc, List.getElem?_append_left (by omega), List.getElem?_take, if_pos h1]
  · rw [if_neg h1]
    by_cases h2 : j < off + ds.length
    · rw [if_pos h2, List.append_assoc, List.getElem?_append_right (by omega), hl, List.getElem?_append_left (by omega)]
    · rw [if_neg h2, List.getElem?_append_right (by rw [List.length_append]; omega), List.length_append, hl, List.getElem?_drop]
      congr 1
      omega
/-- A row with one element changed. -/
theorem chunk_splice {cells ds : List Value} {i k sz off n : Nat} (hl : cells.length = n * sz) (hi : i < n) (ho : off + ds.length ≤ sz) :
    ((cells.take (i * sz + off) ++ ds ++ cells.drop (i * sz + off + ds.length)).drop (k * sz)).take sz =
      if k = i then ((cells.drop (i * sz)).take sz).take off ++ ds ++ ((cells.drop (i * sz)).take sz).drop (off + ds.length) else (cells.drop (k * sz)).take sz := by
  have hle : i * sz + sz ≤ n * sz := by rw [← Nat.succ_mul]; exact Nat.mul_le_mul_right _ hi
  apply List.ext_getElem?
  intro j
  rw [List.getElem?_take]
  by_cases hj : j < sz
  · rw [if_pos hj, List.getElem?_drop, splice_get (by omega)]
    by_cases e : k = i
    · subst e
      rw [if_pos rfl, splice_get (by rw [List.length_take, List.length_drop]; omega)]
      simp only [List.getElem?_take, List.getElem?_drop, hj, if_true]
      by_cases h1 : j < off
      · rw [if_pos (by omega), if_pos h1]
      · rw [if_neg (by omega), if_neg h1]
        by_cases h2 : j < off + ds.length
        · rw [if_pos (by omega), if_pos h2]; congr 1; omega
        · rw [if_neg (by omega), if_neg h2]
    · rw [if_neg e, List.getElem?_take, if_pos hj, List.getElem?_drop]
      rcases Nat.lt_or_gt_of_ne e with h1 | h1
      · have : k * sz + sz ≤ i * sz := by rw [← Nat.succ_mul]; exact Nat.mul_le_mul_right _ h1
        rw [if_pos (by omega)]
      · have : i * sz + sz ≤ k * sz := by rw [← Nat.succ_mul]; exact Nat.mul_le_mul_right _ h1
        rw [if_neg (by omega), if_neg (by omega)]
  · rw [if_neg hj]
    split
    · rw [List.getElem?_eq_none]
      rw [List.length_append, List.length_append, List.length_take, List.length_drop, List.length_take, List.length_drop]
      omega
    · rw [List.getElem?_eq_none]
      rw [List.length_take]
      omega
theorem take_splice (L ds : List Value) {N p : Nat} (h : p + ds.length ≤ N) (hN : N ≤ L.length) : (L.take p ++ ds ++ L.drop (p + ds.length)).take N = (L.take N).take p ++ ds ++ (L.take N).drop (p + ds.length) := by
  apply List.ext_getElem?
  intro q
  rw [List.getElem?_take, splice_get (by omega), splice_get (by rw [List.length_take]; omega)]
  simp only [List.getElem?_take]
  by_cases hq : q < N
  · simp only [hq, if_true]
  · simp only [hq, if_false]
    split
    · rfl
    · split
      · omega
      · rfl
end
end Go.Gx

/-
  Gx, part E2s: stores; a slice of an element is taken out.
-/
set_option linter.unusedVariables false
set_option linter.unusedSimpArgs false
namespace Go.Gx
section
variable {P : Program} {cx : Ctx} {nt : Fr} {ρ : Rho} {F : Nat → Prop} {σ σ' : St} {a : Act} {w w' : World} {o : Oper} {K : Act → World → Prop} {Q : Exit → Act → World → Prop}
theorem Tk.free {F1 : Nat → Prop} {σ1 : St} {bs : List Nat} (hs : Sim cx nt ρ F σ a w) (h : Tk ρ F F1 σ σ1 bs) : ∀ b ∈ bs, Free cx ρ F1 σ1 b := by
  intro b hb
  obtain ⟨h1, n, hn, hd⟩ := h.hb b hb
  refine ⟨(hs.own n b hn).2, h1, fun m hm => ?_⟩
  rcases h.ob m with h2 | ⟨h2, _⟩
  · rw [h2] at hm
    by_cases e : n = m
    · subst e; rw [← h2, hd] at hm; exact blk_dead hm
    · exact hs.disj n m b e hn hm
  · rw [h2] at hm; exact blk_dead hm
theorem perm_set2 {l : List (List Nat)} {i : Nat} {b b' c d : List Nat} (hi : l[i]? = some b) (h : (b' ++ c).Perm (b ++ d)) : ((l.set i b').flatten ++ c).Perm (l.flatten ++ d) := by
  induction l generalizing i with
  | nil => simp at hi
  | cons x l ih =>
    cases i with
    | zero =>
      simp only [List.getElem?_cons_zero, Option.some.injEq] at hi
      subst hi
      simp only [List.set_cons_zero, List.flatten_cons, List.append_assoc]
      refine (List.Perm.append_left b' List.perm_append_comm).trans ?_
      rw [← List.append_assoc]
      refine (h.append_right _).trans ?_
      rw [List.append_assoc]
      exact List.Perm.append_left x List.perm_append_comm
    | succ i =>
      simp only [List.set_cons_succ, List.flatten_cons, List.append_assoc]
      exact List.Perm.append_left x (ih (by simpa using hi))
/-- The part of data that is written. -/
theorem putD_sound {α : Type} : ∀ {t : Ty} {x : t.I} {off : Nat} {cs : List SV} {ds chunk : List Value} {b : List Nat} {kk : t.I → List SV → M α} {r : α × St} {σ : St}, (putD t x off cs kk).exec σ = some r → Sim cx nt ρ F σ a w → All2 (LR0 ρ F w (σ.lv ρ)) cs ds → DC F w t x chunk b →
    ∃ x' rest d1 d2 σ1 bs b', (kk x' rest).exec σ1 = some r ∧ ds = d1 ++ d2 ∧ off + d1.length ≤ t.sz ∧ (rest = [] ∨ off + d1.length = t.sz) ∧ DC F w t x' (chunk.take off ++ d1 ++ chunk.drop (off + d1.length)) b' ∧ All2 (LR0 ρ F w (σ1.lv ρ)) rest d2 ∧ Sim cx nt ρ F σ1 a w ∧ Tk ρ F F σ σ1 bs ∧ ∃ c, (b' ++ c).Perm (b ++ bs) := by
  intro t
  -- a whole leaf
  have leaf : ∀ {t : Ty} {x : t.I} {cs : List SV} {ds chunk : List Value} {b : List Nat} {kk : t.I → List SV → M α} {r : α × St} {σ : St}, (fromD t cs kk).exec σ = some r → Sim cx nt ρ F σ a w → All2 (LR0 ρ F w (σ.lv ρ)) cs ds → DC F w t x chunk b →
      ∃ x' rest d1 d2 σ1 bs b', (kk x' rest).exec σ1 = some r ∧ ds = d1 ++ d2 ∧ 0 + d1.length ≤ t.sz ∧ (rest = [] ∨ 0 + d1.length = t.sz) ∧ DC F w t x' (chunk.take 0 ++ d1 ++ chunk.drop (0 + d1.length)) b' ∧ All2 (LR0 ρ F w (σ1.lv ρ)) rest d2 ∧ Sim cx nt ρ F σ1 a w ∧ Tk ρ F F σ σ1 bs ∧ ∃ c, (b' ++ c).Perm (b ++ bs) := by
    intro t x cs ds chunk b kk r σ h hs hv hd
    obtain ⟨x', rest, u1, u2, σ1, bs, h1, h2, h3, h4, h5, h6⟩ := fromD_sound h hs hv
    have hl := DC_len h3
    have hl2 := DC_len hd
    refine ⟨x', rest, u1, u2, σ1, bs, bs, h1, h2, by omega, .inr (by omega), ?_, h4, h5, h6, b, List.perm_append_comm⟩
    rw [List.take_zero, List.nil_append, List.drop_of_length_le (by omega), List.append_nil]
    exact h3
  induction t with
  | pair t1 t2 ih1 ih2 =>
    intro x off cs ds chunk b kk r σ h hs hv hd
    simp only [putD] at h
    obtain ⟨k1, k2, b1, b2, rfl, rfl, h1, h2⟩ := hd
    have hl1 := DC_len h1
    have hl2 := DC_len h2
    cases hb : Nat.blt off t1.sz with
    | true =>
      have hlt : off < t1.sz := by simp only [Nat.blt] at hb; exact Nat.le_of_ble_eq_true hb
      rw [hb] at h
      simp only [cond_true] at h
      obtain ⟨y, rest, d1, d2, σ1, bs, b', q1, rfl, q3, q4, q5, q6, q7, q8, c, q9⟩ := ih1 h hs hv h1
      have hfst : (k1 ++ k2).take off ++ d1 ++ (k1 ++ k2).drop (off + d1.length) = (k1.take off ++ d1 ++ k1.drop (off + d1.length)) ++ k2 := by
        rw [List.take_append_of_le_length (by omega), List.drop_append_of_le_length (by omega)]; simp
      split at q1
      · refine ⟨(y, x.2), [], d1, d2, σ1, bs, b' ++ b2, q1, rfl, by simp only [Ty.sz]; omega, .inl rfl, ⟨_, k2, b', b2, hfst, rfl, q5, h2⟩, q6, q7, q8, c, ?_⟩
        rw [List.append_assoc, List.append_assoc]
        refine (List.Perm.append_left b' List.perm_append_comm).trans ?_
        rw [← List.append_assoc]
        refine (q9.append_right b2).trans ?_
        rw [List.append_assoc]
        exact List.Perm.append_left b1 List.perm_append_comm
      · rename_i rest hne
        have hend : off + d1.length = t1.sz := q4.resolve_left (fun e => hne e)
        have hd2 : DC F w t2 x.2 k2 b2 := h2
        obtain ⟨z, rest', e1, e2, σ2, bs2, b2', p1, rfl, p3, p4, p5, p6, p7, p8, c2, p9⟩ := ih2 q1 q7 q6 hd2
        refine ⟨(y, z), rest', d1 ++ e1, e2, σ2, bs ++ bs2, b' ++ b2', p1, by simp, by simp only [Ty.sz, List.length_append]; omega, ?_, ⟨k1.take off ++ d1, e1 ++ k2.drop e1.length, b', b2', ?_, rfl, ?_, ?_⟩, p6, p7, Tk.trans hs q8 p8, c ++ c2, ?_⟩
        · rcases p4 with p4 | p4
          · exact .inl p4
          · exact .inr (by simp only [Ty.sz, List.length_append]; omega)
        · rw [List.take_append_of_le_length (by omega), List.length_append, List.drop_append, List.drop_of_length_le (by omega), List.nil_append, hl1, show off + (d1.length + e1.length) - t1.sz = e1.length by omega]
          simp
        · rw [List.drop_of_length_le (by omega), List.append_nil] at q5; exact q5
        · simpa using p5
        · have s1 : (b' ++ b2' ++ (c ++ c2)).Perm ((b' ++ c) ++ (b2' ++ c2)) := by
            rw [List.append_assoc, List.append_assoc]
            refine List.Perm.append_left b' ?_
            rw [← List.append_assoc, ← List.append_assoc]
            exact List.Perm.append_right c2 List.perm_append_comm
          have s2 : ((b1 ++ bs) ++ (b2 ++ bs2)).Perm (b1 ++ b2 ++ (bs ++ bs2)) := by
            rw [List.append_assoc, List.append_assoc]
            refine List.Perm.append_left b1 ?_
            rw [← List.append_assoc, ← List.append_assoc]
            exact List.Perm.append_right bs2 List.perm_append_comm
          exact s1.trans ((q9.append p9).trans s2)
    | false =>
      have hge : t1.sz ≤ off := by
        simp only [Nat.blt] at hb
        rcases Nat.lt_or_ge off t1.sz with h | h
        · have : Nat.ble (off + 1) t1.sz = true := Nat.ble_eq_true_of_le h
          rw [this] at hb; cases hb
        · exact h
      rw [hb] at h
      simp only [cond_false] at h
      obtain ⟨z, rest, d1, d2, σ1, bs, b', q1, rfl, q3, q4, q5, q6, q7, q8, c, q9⟩ := ih2 h hs hv h2
      refine ⟨(x.1, z), rest, d1, d2, σ1, bs, b1 ++ b', q1, rfl, by simp only [Ty.sz]; omega, ?_, ⟨k1, _, b1, b', ?_, rfl, h1, q5⟩, q6, q7, q8, c, ?_⟩
      · rcases q4 with q4 | q4
        · exact .inl q4
        · exact .inr (by simp only [Ty.sz]; omega)
      · rw [List.take_append, List.take_of_length_le (by omega), List.drop_append, List.drop_of_length_le (by omega), hl1, show off + d1.length - t1.sz = off - t1.sz + d1.length by omega]
        simp
      · rw [List.append_assoc, List.append_assoc]; exact List.Perm.append_left b1 q9
  | _ =>
    intro x off cs ds chunk b kk r σ h hs hv hd
    cases off with
    | succ off => simp [putD, M.exec] at h
    | zero => exact leaf (by simpa only [putD] using h) hs hv hd
theorem DC_splice_row {t : Ty} {xs : List t.I} {cells ds : List Value} {bss : List (List Nat)} {i off : Nat} {x : t.I} {b b' : List Nat} (h : DRow F w t xs cells bss) (hl : cells.length = xs.length * t.sz) (hi : i < xs.length) (ho : off + ds.length ≤ t.sz) (hb : bss[i]? = some b)
    (hx : DC F w t x (((cells.drop (i * t.sz)).take t.sz).take off ++ ds ++ ((cells.drop (i * t.sz)).take t.sz).drop (off + ds.length)) b') :
    DRow F w t (xs.set i x) (cells.take (i * t.sz + off) ++ ds ++ cells.drop (i * t.sz + off + ds.length)) (bss.set i b') := by
  have hle : i * t.sz + t.sz ≤ xs.length * t.sz := by rw [← Nat.succ_mul]; exact Nat.mul_le_mul_right _ hi
  have hlen := DRow_len h
  refine DRow_of (by rw [List.length_set, List.length_set, hlen]) fun k y bb hk hbb => ?_
  rw [List.getElem?_set] at hk hbb
  have key := chunk_splice (cells := cells) (ds := ds) (i := i) (k := k) (sz := t.sz) (off := off) (n := xs.length) hl hi ho
  rw [key]
  split at hk
  · rename_i e
    subst e
    rw [if_pos rfl, if_pos (by rw [hlen]; exact hi)] at hbb
    cases hbb
    try rw [if_pos hi] at hk
    cases hk
    rw [if_pos rfl]; exact hx
  · rename_i e
    rw [if_neg e] at hbb
    rw [if_neg (fun h => e h.symm)]
    obtain ⟨b2, e2, h3⟩ := DRow_get h k y hk
    rw [hbb] at e2; cases e2
    exact h3
/-- A row was written. -/
theorem store_fin {t e : TypeId} {i : TI} {x y : Operand} {n j off N b0 l c : Nat} {ty : Ty} {cells ds : List Value} {bss bss' : List (List Nat)} {xs' : List ty.I} {bs cc : List Nat} (hi : tinfo P t = some i) (hs : Sim cx nt ρ F σ a w) (hheld : (σ.ob n).held = true) (hes : ρ.es n = ty.sz)
    (hrow : ownsX w e ty.sz (ρ.hd n) N cells) (hbk : ρ.bk n = (ρ.hd n).ownBlock.toList ++ bss.flatten) (hj : j < N) (ho2 : off + ds.length ≤ ty.sz) (hh : ρ.hd n = .slice (some ⟨b0, 0, none⟩) l c) (ha : a.eval x = .pointer (some ⟨b0, j * ρ.es n + off, none⟩))
    (hds : ds = (a.eval y).cells.toList) (hsz : ds.length = i.size) (hone : ∀ u ∈ ds, u.oneCell' = true) (hfree : ∀ b ∈ bs, Free cx ρ F σ b) (hbn : bs.Nodup) (hlen : xs'.length = N)
    (hd' : DRow F w ty xs' (cells.take (j * ty.sz + off) ++ ds ++ cells.drop (j * ty.sz + off + ds.length)) bss') (hp : (bss'.flatten ++ cc).Perm (bss.flatten ++ bs)) (ho : o.op = .store t x y) :
    ∃ w' ρ', (execOp a.eval o).run P w = .ok .skip w' ∧ Sim cx nt ρ' F (σ.setO n (.row e ty xs')) a w' := by
  have hcl : cells.length = N * ty.sz := hrow.1
  rcases hrow.2 with ⟨e0, _⟩ | ⟨g, cap, cur, e0, hb0, hg, hnc, hcm, hcs, htake⟩
  · rw [hh] at e0; simp at e0
  rw [hh] at e0
  simp only [Value.slice.injEq, Option.some.injEq, Addr.mk.injEq, and_true] at e0
  obtain ⟨rfl, rfl, rfl⟩ := e0
  rw [hes] at ha
  have hle : j * ty.sz + ty.sz ≤ l * ty.sz := by rw [← Nat.succ_mul]; exact Nat.mul_le_mul_right _ hj
  have hcap : l * ty.sz ≤ c * ty.sz := Nat.mul_le_mul_right _ hnc
  have hrun := run_store_at (P := P) (w := w) hi ho ha hg (size_of_len (by rw [← hds]; exact hsz)) (by
    have : (a.eval y).cells.size = ds.length := by rw [hds]; simp
    rw [this]; omega) (by rw [← hds]; exact hone)
  rw [← hds] at hrun
  have hN1 : l * ty.sz ≤ cur.toList.length := by simp only [Array.length_toList]; omega
  have hp1 : j * ty.sz + off + ds.length ≤ l * ty.sz := by omega
  have hob0 : (ρ.hd n).ownBlock = some b0 := by rw [hh]; rfl
  have hnd := bk_nodup (hs.objs n) hheld
  have hb1 : blk ρ n (σ.ob n) b0 := ⟨hheld, by rw [hbk, hob0]; simp⟩
  -- the blocks
  have hall : (((ρ.hd n).ownBlock.toList ++ bss'.flatten) ++ cc).Perm (ρ.bk n ++ bs) := by
    rw [hbk, List.append_assoc, List.append_assoc]
    exact List.Perm.append_left _ hp
  have hndall : (ρ.bk n ++ bs).Nodup := by
    rw [List.nodup_append]
    exact ⟨hnd, hbn, fun b hb b' hb' e => (hfree b' hb').2.2 n ⟨hheld, e ▸ hb⟩⟩
  have hnew : ((ρ.hd n).ownBlock.toList ++ bss'.flatten).Nodup := (List.nodup_append.1 (hall.nodup_iff.2 hndall)).1
  have hmem : ∀ b ∈ (ρ.hd n).ownBlock.toList ++ bss'.flatten, b ∈ ρ.bk n ∨ b ∈ bs := fun b hb => List.mem_append.1 (hall.mem_iff.1 (List.mem_append_left _ hb))
  have hne : ∀ b ∈ bss'.flatten, b ≠ b0 := by
    intro b hb e
    rw [hob0] at hnew
    simp only [Option.toList_some, List.singleton_append, List.nodup_cons] at hnew
    exact hnew.1 (e ▸ hb)
  have hlv : ∀ m, σ.live m → (σ.setO n (.row e ty xs')).live m := live_setO (by simp)
  have hFw : ∀ b', F b' → (w.setRow b0 (cur.toList.take (j * ty.sz + off) ++ ds ++ cur.toList.drop (j * ty.sz + off + ds.length)).toArray).heap[b']? = w.heap[b']? := fun b' hb' =>
    setRow_other w _ b' _ (fun e => (hs.own n _ hb1).1 (e ▸ hb'))
  refine ⟨_, ρ.bks n ((ρ.hd n).ownBlock.toList ++ bss'.flatten), hrun, ?_⟩
  refine hs.step (fun m => m = n) (fun b' => b' = b0) (fun b => b ∈ bs) (pr_setRow w _ _) hfree (fun b' hb' _ => .inl ⟨n, rfl, by rw [hb']; exact hb1⟩) (fun m hm => by rw [setO_ob, if_neg hm]) hlv ⟨fun m _ => ρ.bks_same _ _ m, rfl, fun m hm => (ρ.put_ne hm).2⟩
    (fun _ h => h) (fun _ h => .inl h) (fun m hm => ?_) (fun m b' hm hb' => ?_) (fun m k b hm hk hne => absurd (hm.trans hk.symm) hne) hs.defers hs.size hs.pin (fun s => .inl ⟨rfl, rfl⟩)
  · subst hm
    rw [setO_ob, if_pos rfl]
    refine ⟨by simp [Rho.bks, Rho.put, hes], ?_, by simpa [Rho.bks, Rho.put] using hnew⟩
    have e1 : (ρ.bks m ((ρ.hd m).ownBlock.toList ++ bss'.flatten)).hd m = ρ.hd m := by simp [Rho.bks, Rho.put]
    have e2 : (ρ.bks m ((ρ.hd m).ownBlock.toList ++ bss'.flatten)).bk m = (ρ.hd m).ownBlock.toList ++ bss'.flatten := by simp [Rho.bks, Rho.put]
    rw [e1, e2]
    refine ⟨cells.take (j * ty.sz + off) ++ ds ++ cells.drop (j * ty.sz + off + ds.length), bss', ⟨?_, .inr ⟨b0, c, _, by rw [hh, hlen], hb0, setRow_heap w b0 cur _ e _ hg, by rw [hlen]; exact hnc, hcm, ?_, ?_⟩⟩, DRow_mono (fun _ h => h) hFw (fun b hb => setRow_other w _ b _ (hne b hb)) hd', rfl⟩
    · rw [hlen, List.length_append, List.length_append, List.length_take, List.length_drop]; omega
    · simp only [List.size_toArray, List.length_append, List.length_take, List.length_drop, Array.length_toList]; omega
    · simp only [List.toList_toArray]
      rw [hlen, take_splice _ _ hp1 hN1, htake]
  · subst hm
    rw [setO_ob, if_pos rfl] at hb'
    have hb2 : b' ∈ (ρ.hd m).ownBlock.toList ++ bss'.flatten := by simpa [Rho.bks, Rho.put] using hb'.2
    rcases hmem b' hb2 with h1 | h1
    · exact ⟨(hs.own m b' ⟨hheld, h1⟩).1, .inl ⟨m, rfl, hheld, h1⟩⟩
    · exact ⟨(hfree b' h1).2.1, .inr (.inr h1)⟩
theorem set_splice (l : List Value) (k : Nat) (v : Value) (hk : k < l.length) : l.set k v = l.take k ++ [v] ++ l.drop (k + 1) := by
  rw [List.set_eq_take_append_cons_drop, if_pos hk]
  simp
/-- A slice goes back into a hole. -/
theorem Hol_fill {e1 : TypeId} {t t1 : Ty} {xs : List t.I} {i off : Nat} {u : Value} {bs1 : List Nat} {ys : List t1.I} {cells : List Value} {bss : List (List Nat)} (ht1 : t.osAt off = some (e1, t1)) (hn : t1.noOs = true) (hi : i < xs.length)
    (k3 : DRow F w t (putBack xs i off ([] : List t1.I)) (cells.set (i * t.sz + off) (.slice none 0 0)) bss) (h1 : OwnR F w e1 t1 ys u bs1) :
    ∃ bss', DRow F w t (putBack xs i off ys) (cells.set (i * t.sz + off) u) bss' ∧ bss'.flatten.Perm (bss.flatten ++ bs1) := by
  obtain ⟨⟨c1, k4, k5⟩, rfl⟩ := (own_noOs hn).1 h1
  have hlt := osAt_lt ht1
  have hlen := DRow_len k3
  have hxl : (putBack xs i off ([] : List t1.I)).length = xs.length := by simp [putBack]
  have hbi : i < bss.length := by rw [hlen, hxl]; exact hi
  have hxi : (putBack xs i off ([] : List t1.I))[i]? = some (t.osPut off t1 (xs.getD i t.dflt) []) := by
    unfold putBack; rw [List.getElem?_set, if_pos rfl, if_pos hi]
  obtain ⟨b, hb, k6⟩ := DRow_get k3 i _ hxi
  rw [chunk_set hlt, if_pos rfl] at k6
  obtain ⟨b', k7, k8⟩ := DC_put k4 k5 ht1 k6
  refine ⟨bss.set i b', DRow_of (by rw [List.length_set, hlen]; simp [putBack]) fun k y bb hk hbb => ?_, perm_set hb k8⟩
  unfold putBack at hk
  rw [List.getElem?_set] at hk hbb
  split at hk
  · rename_i e
    subst e
    rw [if_pos rfl, if_pos hbi] at hbb
    try rw [if_pos hi] at hk
    cases hk; cases hbb
    rw [chunk_set hlt, if_pos rfl]
    exact k7
  · rename_i e
    rw [if_neg e] at hbb
    obtain ⟨b2, e2, k9⟩ := DRow_get k3 k y (by unfold putBack; rw [List.getElem?_set, if_neg e]; exact hk)
    rw [hbb] at e2; cases e2
    rw [chunk_set hlt, if_neg (fun h => e h.symm)]
    rwa [chunk_set hlt, if_neg (fun h => e h.symm)] at k9
theorem store_sound {t : TypeId} {i : TI} {x y : Operand} {sa sv : SV} (hi : tinfo P t = some i) (h : (storeM i sa sv).exec σ = some ((), σ')) (hs : Sim cx nt ρ F σ a w) (ha : VR ρ F w (σ.lv ρ) sa (a.eval x)) (hv : VR ρ F w (σ.lv ρ) sv (a.eval y)) (ho : o.op = .store t x y) :
    ∃ w' F' ρ', (execOp a.eval o).run P w = .ok .skip w' ∧ Sim cx nt ρ' F' σ' a w' := by
  unfold storeM at h
  replace h := test_exec h; obtain ⟨hz, h⟩ := h
  have hz := Nat.eq_of_beq_eq_true hz
  split at h
  · rename_i n off
    obtain ⟨hl, ha⟩ := ha
    simp only [M.exec] at h
    split at h
    · rename_i e vs hob
      replace h := test_exec h; obtain ⟨hcl, h⟩ := h
      simp only [Bool.and_eq_true] at hcl
      have hle := Nat.le_of_ble_eq_true hcl.2
      obtain ⟨hc1, hc2⟩ := cells_of hcl.1 hv
      simp only [M.exec, Option.some.injEq, Prod.mk.injEq, true_and] at h
      subst h
      have hob' := hs.objs n
      rw [hob] at hob'
      obtain ⟨hbk1, us, hg, hu⟩ := hob'
      have hlen := hc1.length
      have hul := hu.length
      have hrun := run_store_at (P := P) (w := w) hi ho ha hg (size_of_len (by rw [← hlen]; exact hz)) (by
        have : (a.eval y).cells.size = sv.cellsOf.length := by rw [hlen]; simp
        rw [this]; simp at hul; omega) hc2
      refine ⟨_, F, ρ, hrun, ?_⟩
      have hlv : ∀ m, σ.live m → (σ.setO n (.box e (splice vs sv.cellsOf off))).live m := live_setO (by simp)
      have hlv' : ∀ m, σ.lv ρ m → (σ.setO n (.box e (splice vs sv.cellsOf off))).lv ρ m := fun m hm => hm.imp (hlv m) id
      have hbk : blk ρ n (σ.ob n) (ρ.bx n) := ⟨by rw [hob]; rfl, by rw [hbk1]; simp⟩
      have hFw : ∀ b, F b → (w.setRow (ρ.bx n) (us.toList.take off ++ (a.eval y).cells.toList ++ us.toList.drop (off + (a.eval y).cells.toList.length)).toArray).heap[b]? = w.heap[b]? := fun b hb =>
        setRow_other w _ b _ (fun e => (hs.own n _ hbk).1 (e ▸ hb))
      refine hs.step (fun m => m = n) (fun b => b = ρ.bx n) (fun _ => False) (pr_setRow w _ _) (fun _ h => h.elim) (fun b hb _ => .inl ⟨n, rfl, by rw [hb]; exact hbk⟩) (fun m hm => by rw [setO_ob, if_neg hm]) hlv (Goes.refl _ _ _)
        (fun _ h => h) (fun _ h => .inl h) (fun m hm => ?_) (fun m b hm hb => ?_) (fun m k b hm hk hne => absurd (hm.trans hk.symm) hne) hs.defers hs.size hs.pin (fun s => .inl ⟨rfl, rfl⟩)
      · subst hm
        rw [setO_ob, if_pos rfl]
        refine ⟨hbk1, _, setRow_heap w _ us _ e _ hg, ?_⟩
        simp only [List.toList_toArray]
        exact (hu.splice hc1 off).imp fun _ _ h => LR0_mono hlv' (fun _ _ => ρ.same_refl _) (fun _ h => h) hFw h
      · subst hm
        rw [setO_ob, if_pos rfl] at hb
        have hb2 := hb.2
        rw [hbk1] at hb2
        simp only [List.mem_singleton] at hb2
        subst hb2
        exact ⟨(hs.own m _ hbk).1, .inl ⟨m, rfl, hbk⟩⟩
    · simp [M.exec] at h
  · rename_i n j off
    obtain ⟨hl, b, l, c, hh, ha⟩ := ha
    replace h := test_exec h; obtain ⟨hcc, h⟩ := h
    obtain ⟨hc1, hc2⟩ := cells_of hcc hv
    have hlen0 := hc1.length
    simp only [M.exec] at h
    split at h
    · rename_i e ty xs hob0
      cases hno : ty.noOs with
      | true =>
        rw [hno] at h
        simp only [cond_true] at h
        obtain ⟨ws, σ1, F1, h, hs1, htk, hw⟩ := frz_sound h hs hc1
        simp only [M.exec] at h
        split at h
        · rename_i e ty xs hob
          replace h := test_exec h; obtain ⟨hj, h⟩ := h
          have hj := of_decide_eq_true hj
          replace h := test_exec h; obtain ⟨ho2, h⟩ := h
          have ho2 := Nat.le_of_ble_eq_true ho2
          replace h := test_exec h; obtain ⟨hno, h⟩ := h
          have hob' := hs1.objs n
          rw [hob] at hob'
          obtain ⟨hes, ⟨cells, bss, hrow, hc, hbk⟩, _⟩ := hob'
          obtain ⟨b1, hb1, hxj⟩ := DRow_get hc j _ (getD_some (d := ty.dflt) hj)
          obtain ⟨hxt, rfl⟩ := TC_of_DC hno hxj
          have hlen := hw.length
          obtain ⟨x', rest, u1, u2, h, e1, htc, hr⟩ := fromL_sound h ((TC_leaves (ρ := ρ) (lv := σ1.lv ρ) hxt).splice hw off)
          cases rest with
          | cons => simp [M.exec] at h
          | nil =>
            have := hr.nil_left
            subst this
            rw [List.append_nil] at e1
            simp only [M.exec, Option.some.injEq, Prod.mk.injEq, true_and] at h
            subst h
            have hcl : cells.length = xs.length * ty.sz := hrow.1
            have hd' := DC_splice_row hc hcl hj (ds := (a.eval y).cells.toList) (off := off) (by omega) hb1 (by rw [e1]; exact DC_of_TC hno htc)
            obtain ⟨w', ρ', q1, q2⟩ := store_fin (bs := []) (cc := []) hi hs1 (by rw [hob]; rfl) hes hrow hbk hj (by omega) hh ha rfl (by rw [← hlen0]; exact hz) hc2 (by simp) (by simp) (by simp) hd' (by
              have : bss.set j [] = bss := by
                apply List.ext_getElem?
                intro k
                rw [List.getElem?_set]
                split
                · rename_i ek; subst ek
                  have := (List.getElem?_eq_some_iff.1 hb1).1
                  rw [if_pos this, hb1]
                · rfl
              rw [this]) ho
            exact ⟨w', F1, ρ', q1, q2⟩
        · simp [M.exec] at h
      | false =>
        rw [hno] at h
        simp only [cond_false] at h
        replace h := test_exec h; obtain ⟨hj, h⟩ := h
        have hj := of_decide_eq_true hj
        replace h := test_exec h; obtain ⟨ho2, h⟩ := h
        have ho2 := Nat.le_of_ble_eq_true ho2
        have hob' := hs.objs n
        rw [hob0] at hob'
        obtain ⟨hes, ⟨cells, bss, hrow, hc, hbk⟩, _⟩ := hob'
        obtain ⟨b1, hb1, hxj⟩ := DRow_get hc j _ (getD_some (d := ty.dflt) hj)
        obtain ⟨x', rest, d1, d2, σ1, bs, b', h, e1, q3, q4, q5, q6, hs1, htk, cc, q9⟩ := putD_sound h hs hc1 hxj
        cases rest with
        | cons => simp [M.exec] at h
        | nil =>
          have := q6.nil_left
          subst this
          rw [List.append_nil] at e1
          rw [← e1] at q3 q4 q5
          simp only [M.exec] at h
          split at h
          · rename_i e2 ty2 xs2 hob
            simp only [M.exec, Option.some.injEq, Prod.mk.injEq, true_and] at h
            subst h
            have hcl : cells.length = xs.length * ty.sz := hrow.1
            have hd' := DC_splice_row hc hcl hj (ds := (a.eval y).cells.toList) (off := off) (by omega) hb1 q5
            obtain ⟨w', ρ', k1, k2⟩ := store_fin (bs := bs) (cc := cc) hi hs1 (by rw [hob]; rfl) hes hrow hbk hj (by omega) hh ha rfl (by rw [← hlen0]; exact hz) hc2 (htk.free hs) htk.nd (by simp) hd' (perm_set2 hb1 q9) ho
            exact ⟨w', F, ρ', k1, k2⟩
          · simp [M.exec] at h
    · rename_i e ty xs j' off' id hob
      replace h := test_exec h; obtain ⟨hjj, h⟩ := h
      have hjj := of_decide_eq_true hjj
      subst hjj
      split at h
      · rename_i m e' t' hcs hos
        replace h := test_exec h; obtain ⟨hoff, h⟩ := h
        have hoff := Nat.eq_of_beq_eq_true hoff
        subst hoff
        simp only [M.exec] at h
        split at h
        · rename_i e1 t1 ys hobm
          obtain ⟨ht, hx⟩ := test_exec h
          clear h
          simp only [Bool.and_eq_true, decide_eq_true_eq] at ht
          obtain ⟨⟨p1, p2⟩, p3⟩ := ht
          have p1 := Nat.eq_of_beq_eq_true p1
          subst p1 p2
          simp only [M.exec] at hx
          split at hx
          · rename_i e3 ty3 xs3 i3 off3 id3 hobn
            simp only [M.exec, Option.some.injEq, Prod.mk.injEq, true_and] at hx
            subst hx
            have hne : m ≠ n := by intro e; subst e; rw [hob] at hobm; cases hobm
            have hlm : σ.live m := by intro e; rw [hobm] at e; cases e
            have hhm : (σ.ob m).held = true := by rw [hobm]; rfl
            have hs1 := hs.kill0 hlm
            have htk := Tk.kill0 hs hlm hhm
            have hob' := hs.objs n
            rw [hob] at hob'
            obtain ⟨hes, _, ⟨hi0, hsl0, e5, t5, ho5, cells, bss, hrow, hcell0, hc, hbk⟩, _⟩ := hob'
            rw [hos] at ho5
            simp only [Option.some.injEq, Prod.mk.injEq] at ho5
            obtain ⟨rfl, rfl⟩ := ho5
            have hom := hs.objs m
            rw [hobm] at hom
            rw [hcs] at hc1
            have hds : ∃ u, (a.eval y).cells.toList = [u] ∧ u = ρ.hd m := by
              generalize (a.eval y).cells.toList = l at hc1
              match l, hc1 with
              | [u], hc1 => exact ⟨u, rfl, hc1.1.2.1⟩
            obtain ⟨u, hu1, rfl⟩ := hds
            obtain ⟨bss', hf1, hf2⟩ := Hol_fill hos p3 hi0 hc hom.2.1
            have hlt := osAt_lt hos
            have hcl : cells.length = xs.length * ty.sz := hrow.1
            have hle : j * ty.sz + ty.sz ≤ xs.length * ty.sz := by rw [← Nat.succ_mul]; exact Nat.mul_le_mul_right _ hi0
            rw [set_splice _ _ _ (by omega)] at hf1
            obtain ⟨w', ρ', k1, k2⟩ := store_fin (ds := [ρ.hd m]) (bs := ρ.bk m) (cc := []) hi hs1 (by rw [hobn]; rfl) hes hrow hbk hi0 (by simp; omega) hh ha hu1.symm (by rw [← hz, hcs]; rfl) (by rw [← hu1]; exact hc2) (htk.free hs) htk.nd (by simp [putBack]) hf1 (by simpa using hf2) ho
            exact ⟨w', F, ρ', k1, k2⟩
          · simp [M.exec] at hx
        · simp [M.exec] at h
      · simp [M.exec] at h
    · simp [M.exec] at h
  · simp [M.exec] at h
/-- A slice that an element owns is taken out. -/
theorem focus_sound {n j off id : Nat} {kk : SV → MU} {r : Unit × St} {b l c : Nat} (h : (focus n j off id kk).exec σ = some r) (hs : Sim cx nt ρ F σ a w) (hid : liveId ≤ id) (hh : ρ.hd n = .slice (some ⟨b, 0, none⟩) l c) :
    ∃ σ1 ρ1 u, (kk (.own id)).exec σ1 = some r ∧ Sim cx nt ρ1 F σ1 a w ∧ VR ρ1 F w (σ1.lv ρ1) (.own id) u ∧ w.cell? ⟨b, j * ρ.es n + off, none⟩ = some u := by
  unfold focus at h
  obtain ⟨σ1, hcl, h⟩ := closeM_exec h
  -- first it is whole
  have hwhole : ∃ ρ1, Sim cx nt ρ1 F σ1 a w ∧ ρ.same ρ1 n n := by
    cases hcl with
    | same => exact ⟨ρ, hs, ρ.same_refl _⟩
    | may e t xs h1 =>
      refine ⟨ρ, ?_, ρ.same_refl _⟩
      have hor := hs.objs n
      rw [h1] at hor
      have hbl : ∀ b, blk ρ n (.row e t xs) b ↔ blk ρ n (σ.ob n) b := fun b => by rw [h1]; simp [blk, Obj.held]
      refine hs.step (fun m => m = n) (fun _ => False) (fun _ => False) (Pr.refl _ _) (fun _ h => h.elim) (fun _ h => h.elim) (fun m hm => by rw [setO_ob, if_neg hm]) (live_setO (by simp)) (Goes.refl _ _ _) (fun _ h => h) (fun _ h => .inl h)
        (fun m hm => ?_) (fun m b hm hb => ?_) (fun m k b hm hk hne => absurd (hm.trans hk.symm) hne) hs.defers hs.size hs.pin (fun s => .inl ⟨rfl, rfl⟩)
      · subst hm; rw [setO_ob, if_pos rfl]; exact hor
      · subst hm; rw [setO_ob, if_pos rfl] at hb; exact ⟨(hs.own m b ((hbl b).1 hb)).1, .inl ⟨m, rfl, (hbl b).1 hb⟩⟩
    | hol e e1 t t1 xs i off' id' ys h1 h2 h3 h4 =>
      have hor := hs.objs n
      rw [h1] at hor
      have hor2 := hs.objs id'
      rw [h2] at hor2
      have hne : id' ≠ n := by intro e; subst e; rw [h1] at h2; cases h2
      obtain ⟨hes, _, hho, hnd⟩ := hor
      obtain ⟨bs', hb1, hb2⟩ := Hol_close h3 h4 hho hor2.2.1
      have hh1 : (σ.ob n).held = true := by rw [h1]; rfl
      have hh2 : (σ.ob id').held = true := by rw [h2]; rfl
      have hndall : (ρ.bk n ++ ρ.bk id').Nodup := by
        rw [List.nodup_append]
        exact ⟨hnd, hor2.2.2, fun b hb b' hb' e => hs.disj n id' b (fun e => hne e.symm) ⟨hh1, hb⟩ ⟨hh2, e ▸ hb'⟩⟩
      refine ⟨ρ.bks n bs', ?_, ρ.bks_same _ _ _⟩
      refine hs.step (fun m => m = n ∨ m = id') (fun _ => False) (fun _ => False) (Pr.refl _ _) (fun _ h => h.elim) (fun _ h => h.elim) (fun m hm => by rw [setO_ob, if_neg (fun e => hm (.inl e)), setO_ob, if_neg (fun e => hm (.inr e))])
        (fun m hm => live_setO (by simp) m (live_setO (by simp) m hm)) ⟨fun m _ => ρ.bks_same _ _ m, rfl, fun m hm => (ρ.put_ne fun e => hm (.inl e)).2⟩ (fun _ h => h) (fun _ h => .inl h) (fun m hm => ?_) (fun m b hm hb => ?_) (fun m k b hm hk hmk hb => ?_) hs.defers hs.size hs.pin (fun s => .inl ⟨rfl, rfl⟩)
      · by_cases e2 : m = n
        · subst e2
          rw [setO_ob, if_pos rfl]
          exact ⟨by simp [Rho.bks, Rho.put, hes], by simpa [Rho.bks, Rho.put] using hb1, by simpa [Rho.bks, Rho.put] using hb2.nodup_iff.2 hndall⟩
        · rw [setO_ob, if_neg e2, setO_ob, if_pos (hm.resolve_left e2)]; trivial
      · by_cases e2 : m = n
        · subst e2
          have hb3 : b ∈ bs' := by simpa [Rho.bks, Rho.put] using hb.2
          rcases List.mem_append.1 (hb2.mem_iff.1 hb3) with hb4 | hb4
          · exact ⟨(hs.own m b ⟨hh1, hb4⟩).1, .inl ⟨m, .inl rfl, hh1, hb4⟩⟩
          · exact ⟨(hs.own id' b ⟨hh2, hb4⟩).1, .inl ⟨id', .inr rfl, hh2, hb4⟩⟩
        · rw [setO_ob, if_neg e2, setO_ob, if_pos (hm.resolve_left e2)] at hb
          exact absurd hb blk_dead
      · by_cases e2 : m = n
        · have hk2 : k = id' := hk.resolve_left fun e => hmk (e2.trans e.symm)
          rw [setO_ob, if_neg (by rw [hk2]; exact hne), setO_ob, if_pos hk2]
          exact blk_dead
        · rw [setO_ob, if_neg e2, setO_ob, if_pos (hm.resolve_left e2)] at hb
          exact absurd hb blk_dead
  obtain ⟨ρ1, hs1, hsame⟩ := hwhole
  simp only [M.exec] at h
  split at h
  · rename_i e t xs hob
    split at h
    · rename_i e' t' hos
      replace h := test_exec h; obtain ⟨hno, h⟩ := h
      replace h := test_exec h; obtain ⟨hj, h⟩ := h
      have hj := of_decide_eq_true hj
      obtain ⟨h1, h⟩ := newO_exec h
      simp only [M.exec] at h
      have hor := hs1.objs n
      rw [hob] at hor
      obtain ⟨hes, hown, hnd⟩ := hor
      obtain ⟨u, bs', bs1, q1, q2, q3⟩ := Own_open hos hno hj hown
      have hne : n ≠ id := by intro e; subst e; rw [hob] at h1; cases h1
      rw [setO_ob, if_neg hne, hob] at h
      simp only at h
      have hh1 : (σ1.ob n).held = true := by rw [hob]; rfl
      have hnd2 := List.nodup_append.1 (q3.nodup_iff.1 hnd)
      have hmem : ∀ b, b ∈ bs' ∨ b ∈ bs1 → b ∈ ρ1.bk n := fun b hb => q3.mem_iff.2 (List.mem_append.2 hb)
      have hnl : ¬ σ1.lv ρ1 id := by
        rintro (hh | hh)
        · exact hh h1
        · have := (hs1.fix id hh).1; omega
      obtain ⟨A, cq, hsl⟩ := OwnR_slice q2
      obtain ⟨ρ2, hρ2⟩ : ∃ ρ2, ρ2 = (ρ1.put id u 0 t'.sz bs1).bks n bs' := ⟨_, rfl⟩
      have e1 : ρ2.hd id = u := by rw [hρ2]; simp [Rho.bks, Rho.put, hne.symm]
      have e2 : ρ2.bk id = bs1 := by rw [hρ2]; simp [Rho.bks, Rho.put, hne.symm]
      have e3 : ρ2.bk n = bs' := by rw [hρ2]; simp [Rho.bks, Rho.put]
      have e4 : ∀ m, m ≠ id → ρ1.same ρ2 m m := fun m hm => by
        rw [hρ2]; exact Rho.same_trans (ρ1.put_ne hm).1 (Rho.bks_same _ _ _ _)
      have e5 : ∀ m, m ≠ id → m ≠ n → ρ2.bk m = ρ1.bk m := fun m hm hm2 => by rw [hρ2]; simp [Rho.bks, Rho.put, hm, hm2]
      have e6 : ρ2.fx = ρ1.fx := by rw [hρ2]; rfl
      have e7 : ρ2.es id = t'.sz := by rw [hρ2]; simp [Rho.bks, Rho.put, hne.symm]
      have hl2 : ((σ1.setO id (.row e' t' (t.osGet off t' (xs.getD j t.dflt)))).setO n (.hrow e t xs j off id)).live id := live_setO (by simp) _ (live_set (by simp))
      refine ⟨_, ρ2, u, h, ?_, ⟨.inl hl2, e1.symm, A, _, cq, hsl⟩, ?_⟩
      · refine hs1.step (fun m => m = n ∨ m = id) (fun _ => False) (fun _ => False) (Pr.refl _ _) (fun _ h => h.elim) (fun _ h => h.elim) (fun m hm => by rw [setO_ob, if_neg (fun e => hm (.inl e)), setO_ob, if_neg (fun e => hm (.inr e))])
          (fun m hm => live_setO (by simp) m (live_setO (by simp) m hm)) ⟨fun m hm => e4 m fun e => hnl (e ▸ hm), e6, fun m hm => e5 m (fun e => hm (.inr e)) (fun e => hm (.inl e))⟩ (fun _ h => h) (fun _ h => .inl h) (fun m hm => ?_) (fun m b hm hb => ?_) (fun m k b hm hk hmk hb => ?_) hs1.defers hs1.size hs1.pin (fun s => .inl ⟨rfl, rfl⟩)
        · by_cases em : m = n
          · subst em
            rw [setO_ob, if_pos rfl]
            exact ⟨((e4 m hne).2.2).trans hes, .inl hl2, by rw [(e4 m hne).1, e1, e3]; exact q1, by rw [e3]; exact hnd2.1⟩
          · have em2 := hm.resolve_left em
            subst em2
            rw [setO_ob, if_neg em, setO_ob, if_pos rfl]
            exact ⟨e7, by rw [e1, e2]; exact q2, by rw [e2]; exact hnd2.2.1⟩
        · have : b ∈ ρ1.bk n := by
            by_cases em : m = n
            · subst em; exact hmem b (.inl (by rw [← e3]; exact hb.2))
            · have em2 := hm.resolve_left em
              subst em2
              exact hmem b (.inr (by rw [← e2]; exact hb.2))
          exact ⟨(hs1.own n b ⟨hh1, this⟩).1, .inl ⟨n, .inl rfl, hh1, this⟩⟩
        · rintro ⟨_, hk3⟩
          by_cases em : m = n
          · have ek : k = id := hk.resolve_left fun e => hmk (em.trans e.symm)
            rw [ek, e2] at hk3
            have hb3 := hb.2
            rw [em, e3] at hb3
            exact hnd2.2.2 b hb3 b hk3 rfl
          · have em2 := hm.resolve_left em
            have ek : k = n := hk.resolve_right fun e => hmk (em2.trans e.symm)
            rw [ek, e3] at hk3
            have hb3 := hb.2
            rw [em2, e2] at hb3
            exact hnd2.2.2 b hk3 b hb3 rfl
      · obtain ⟨_, _, _, _, _, cells, bss, k1, k2, _⟩ := q1
        have hcell := k1.cells (g := b) (by rw [hsame.1, hh]; rfl) _ u k2
        rw [add_at] at hcell
        rw [← hsame.2.2, hes]
        simpa using hcell
    · simp [M.exec] at h
  · simp [M.exec] at h
theorem loadF_sound {t : TypeId} {i : TI} {x : Operand} {sa : SV} {id : Nat} {kk : SV → MU} {r : Unit × St} (hi : tinfo P t = some i) (h : (loadF i sa id kk).exec σ = some r) (hid : liveId ≤ id) (hs : Sim cx nt ρ F σ a w) (ha : VR ρ F w (σ.lv ρ) sa (a.eval x)) (ho : o.op = .load t x) :
    ∃ sv v σ1 ρ1, (kk sv).exec σ1 = some r ∧ Sim cx nt ρ1 F σ1 a w ∧ VR ρ1 F w (σ1.lv ρ1) sv v ∧ (execOp a.eval o).run P w = .ok (.value v) w := by
  have plain : (loadM i sa kk).exec σ = some r → ∃ sv v σ1 ρ1, (kk sv).exec σ1 = some r ∧ Sim cx nt ρ1 F σ1 a w ∧ VR ρ1 F w (σ1.lv ρ1) sv v ∧ (execOp a.eval o).run P w = .ok (.value v) w := by
    intro h
    obtain ⟨sv, v, h1, h2, h3⟩ := load_sound hi h hs ha ho
    exact ⟨sv, v, σ, ρ, h1, hs, h2, h3⟩
  unfold loadF at h
  split at h
  · rename_i n j off
    simp only [M.exec] at h
    cases hb : (isOs off (σ.ob n) && !i.agg && Nat.beq i.size 1) with
    | false => rw [hb] at h; exact plain h
    | true =>
      rw [hb] at h
      simp only [cond_true] at h
      simp only [Bool.and_eq_true, Bool.not_eq_true'] at hb
      obtain ⟨_, b, l, c, hh, hv⟩ := ha
      obtain ⟨σ1, ρ1, u, h1, h2, h3, h4⟩ := focus_sound h hs hid hh
      have hag := run_isAgg hi
      rw [hb.1.2] at hag
      refine ⟨_, u, σ1, ρ1, h1, h2, h3, ?_⟩
      simp [execOp, ho, hv, Instr.loadAt, Instr.sureAddr, loadVar, hag, load, Sem.run, h4]
  · exact plain h
theorem aliasF_sound {t : TypeId} {i : TI} {x : Operand} {sa : SV} {kk : SV → MU} {r : Unit × St} (hi : tinfo P t = some i) (h : (aliasF i sa kk).exec σ = some r) (hs : Sim cx nt ρ F σ a w) (ha : VR ρ F w (σ.lv ρ) sa (a.eval x)) (ho : o.op = .load t x) :
    ∃ sv v, (kk sv).exec σ = some r ∧ VR ρ F w (σ.lv ρ) sv v ∧ (execOp a.eval o).run P w = .ok (.value v) w := by
  unfold aliasF at h
  split at h
  · rename_i n j off
    replace h := test_exec h; obtain ⟨hb, h⟩ := h
    simp only [M.exec] at h
    split at h
    · rename_i e t1 xs k off' q hob
      replace h := test_exec h; obtain ⟨h1, h⟩ := h
      replace h := test_exec h; obtain ⟨h2, h⟩ := h
      have h1 := Nat.eq_of_beq_eq_true h1
      have h2 := Nat.eq_of_beq_eq_true h2
      subst h1 h2
      simp only [Bool.and_eq_true, Bool.not_eq_true'] at hb
      obtain ⟨_, b, l, c, hh, hv⟩ := ha
      have hor := hs.objs n
      rw [hob] at hor
      obtain ⟨hes, hlv, hhol, _⟩ := hor
      obtain ⟨_, hsl, _, _, _, cells, bss, k1, k2, _⟩ := hhol
      have hcell := k1.cells (g := b) (by rw [hh]; rfl) _ _ k2
      rw [add_at] at hcell
      have hag := run_isAgg hi
      rw [hb.1] at hag
      rw [hes] at hv
      have hcell' : w.cell? ⟨b, k * t1.sz + off', none⟩ = some (ρ.hd q) := by simpa using hcell
      refine ⟨.own q, ρ.hd q, h, ⟨hlv, rfl, hsl⟩, ?_⟩
      simp [execOp, ho, hv, Instr.loadAt, Instr.sureAddr, loadVar, hag, load, Sem.run, hcell']
    · simp [M.exec] at h
  · simp [M.exec] at h
end
end Go.Gx

/-
  Gx, part E3: new memory, slices, appends.
-/
set_option linter.unusedVariables false
set_option linter.unusedSimpArgs false
namespace Go.Gx
section
variable {P : Program} {cx : Ctx} {nt : Fr} {ρ : Rho} {F : Nat → Prop} {σ σ' : St} {a : Act} {w w' : World} {o : Oper} {K : Act → World → Prop} {Q : Exit → Act → World → Prop}
/-- A new object in new memory. -/
theorem Sim.grow (hs : Sim cx nt ρ F σ a w) {n : Nat} {ob : Obj} (hn : σ.ob n = .absent) (hne : ob ≠ .absent) (hp : Pr (fun _ => False) w w') {ρ1 : Rho} (hl : ¬ σ.lv ρ n) (hρ : ∀ m, m ≠ n → ρ.same ρ1 m m ∧ ρ1.bk m = ρ.bk m) (hfx : ρ1.fx = ρ.fx)
    (hor : OR ρ1 F w' ((σ.setO n ob).lv ρ1) n ob) (hb : ∀ b, blk ρ1 n ob b → w.heap.size ≤ b) : Sim cx nt ρ1 F (σ.setO n ob) a w' := by
  refine hs.step (fun m => m = n) (fun _ => False) (fun _ => False) hp (fun _ h => h.elim) (fun _ h => h.elim) (fun m hm => by rw [setO_ob, if_neg hm]) (live_setO hne) ⟨fun m hm => (hρ m fun e => hl (e ▸ hm)).1, hfx, fun m hm => (hρ m hm).2⟩
    (fun _ h => h) (fun _ h => .inl h) (fun m hm => ?_) (fun m b hm hb' => ?_) (fun m k b hm hk hne => absurd (hm.trans hk.symm) hne) hs.defers hs.size hs.pin (fun s => .inl ⟨rfl, rfl⟩)
  · subst hm; rw [setO_ob, if_pos rfl]; exact hor
  · subst hm
    rw [setO_ob, if_pos rfl] at hb'
    have := hb b hb'
    exact ⟨fun hf => by have := (hs.Fb b hf).1; omega, .inr (.inl this)⟩
theorem Sim.not_lv (hs : Sim cx nt ρ F σ a w) {n : Nat} (hid : liveId ≤ n) (hn : σ.ob n = .absent) : ¬ σ.lv ρ n := by
  rintro (h | h)
  · exact h hn
  · have := (hs.fix n h).1; omega
theorem pr_alloc (w : World) (ob : Go.Obj) : Pr (fun _ => False) w (w.alloc ob) := ⟨rfl, rfl, rfl, by simp, fun b hb _ => heap_alloc_old w ob b hb⟩
theorem Sim.growBox (hs : Sim cx nt ρ F σ a w) {n : Nat} {e : TypeId} {vs : List SV} {cs : Array Value} (hid : liveId ≤ n) (hn : σ.ob n = .absent) (hv : All2 (LR0 ρ F w (σ.lv ρ)) vs cs.toList) :
    ∃ ρ1, Sim cx nt ρ1 F (σ.setO n (.box e vs)) a (w.alloc (.cells cs e)) ∧ VR ρ1 F (w.alloc (.cells cs e)) ((σ.setO n (.box e vs)).lv ρ1) (.box n 0) (.pointer (some ⟨w.heap.size, 0, none⟩)) := by
  have hne : Obj.box e vs ≠ .absent := by simp
  have hl := hs.not_lv hid hn
  have hlv : ∀ m, σ.lv ρ m → (σ.setO n (.box e vs)).lv (ρ.put n undef w.heap.size 0 [w.heap.size]) m := fun m hm => hm.imp (live_setO hne m) id
  refine ⟨ρ.put n undef w.heap.size 0 [w.heap.size], hs.grow hn hne (pr_alloc w _) hl (fun m hm => ρ.put_ne hm) rfl ⟨by simp [Rho.put], cs, by simpa [Rho.put] using heap_alloc_new w (.cells cs e), ?_⟩ (fun b hb => ?_), .inl (live_set hne), by simp [Rho.put]⟩
  · exact hv.imp fun _ _ h => LR0_mono hlv (fun m hm => (ρ.put_ne (fun e => hl (by rw [← e]; exact hm))).1) (fun _ h => h) (fun b hb => heap_alloc_old w _ b (hs.Fb b hb).1) h
  · have : b = w.heap.size := by simpa [Rho.put] using hb.2
    omega
theorem Sim.growRow (hs : Sim cx nt ρ F σ a w) {n : Nat} {e : TypeId} {t : Ty} {xs : List t.I} {v : Value} {bs bs0 : List Nat} {R : Nat → Prop} (hid : liveId ≤ n) (hn : σ.ob n = .absent) (hp : Pr R w w') (hR : ∀ b, R b → b ∈ bs0) (ho : OwnR F w' e t xs v bs) (hnd : bs.Nodup)
    (hb : ∀ b ∈ bs, w.heap.size ≤ b ∨ b ∈ bs0) (hfree : ∀ b ∈ bs0, Free cx ρ F σ b) :
    ∃ ρ1, Sim cx nt ρ1 F (σ.setO n (.row e t xs)) a w' ∧ VR ρ1 F w' ((σ.setO n (.row e t xs)).lv ρ1) (.own n) v := by
  have hne : Obj.row e t xs ≠ .absent := by simp
  obtain ⟨A, c, hsl⟩ := OwnR_slice ho
  have hl := hs.not_lv hid hn
  refine ⟨ρ.put n v 0 t.sz bs, ?_, .inl (live_set hne), by simp [Rho.put], A, _, c, hsl⟩
  refine hs.step (fun m => m = n) R (fun b => b ∈ bs0) hp hfree (fun b hb _ => .inr (hR b hb)) (fun m hm => by rw [setO_ob, if_neg hm]) (live_setO hne) ⟨fun m hm => (ρ.put_ne (fun e => hl (by rw [← e]; exact hm))).1, rfl, fun m hm => (ρ.put_ne hm).2⟩
    (fun _ h => h) (fun _ h => .inl h) (fun m hm => ?_) (fun m b hm hb' => ?_) (fun m k b hm hk hne => absurd (hm.trans hk.symm) hne) hs.defers hs.size hs.pin (fun s => .inl ⟨rfl, rfl⟩)
  · subst hm; rw [setO_ob, if_pos rfl]
    exact ⟨by simp [Rho.put], by simpa [Rho.put] using ho, by simpa [Rho.put] using hnd⟩
  · subst hm
    have hb2 : b ∈ bs := by simpa [Rho.put] using hb'.2
    rcases hb b hb2 with h1 | h1
    · exact ⟨fun hf => by have := (hs.Fb b hf).1; omega, .inr (.inl h1)⟩
    · exact ⟨(hfree b h1).2.1, .inr (.inr h1)⟩
/-- A row without slices of its own. -/
theorem Sim.growFlat (hs : Sim cx nt ρ F σ a w) {n : Nat} {e : TypeId} {t : Ty} {xs : List t.I} {v : Value} {cells : List Value} {bss : List (List Nat)} (hid : liveId ≤ n) (hn : σ.ob n = .absent) (hp : Pr (fun _ => False) w w') (ho : ownsX w' e t.sz v xs.length cells) (hc : DRow F w' t xs cells bss)
    (hz : bss.flatten = []) (hb : ∀ b, v.ownBlock = some b → w.heap.size ≤ b) :
    ∃ ρ1, Sim cx nt ρ1 F (σ.setO n (.row e t xs)) a w' ∧ VR ρ1 F w' ((σ.setO n (.row e t xs)).lv ρ1) (.own n) v :=
  hs.growRow (bs0 := []) hid hn hp (fun _ h => h.elim) ⟨cells, bss, ho, hc, rfl⟩ (by rw [hz, List.append_nil]; cases v.ownBlock <;> simp) (fun b hm => .inl (hb b (by rw [hz, List.append_nil] at hm; simpa using hm))) (by simp)
theorem All2_leafOf {lv : Nat → Prop} (l : List Value) : All2 (LR0 ρ F w lv) (l.map leafOf) l := by
  induction l with
  | nil => trivial
  | cons x l ih => exact ⟨LR0_leafOf, ih⟩
theorem cellsOf_leafOf (v : Value) : (leafOf v).cellsOf = [leafOf v] := by
  unfold leafOf
  split <;> rfl
theorem zero_cells {lv : Nat → Prop} (z : Value) : All2 (LR0 ρ F w lv) (svOf z).cellsOf z.cells.toList := by
  cases z with
  | agg cs => exact All2_leafOf _
  | _ => simp only [svOf, cellsOf_leafOf, Value.cells]; exact ⟨LR0_leafOf, trivial⟩
theorem alloc_sound {t : TypeId} {i : TI} {n : Nat} {kk : MU} {r : Unit × St} (hid : liveId ≤ n) (hi : tinfo P t = some i) (hz : i.hasZ = true) (h : (newO n (.box t (zeroOf i)) kk).exec σ = some r) (hs : Sim cx nt ρ F σ a w) (ho : o.op = .alloc t) :
    ∃ σ1 ρ1 v w', kk.exec σ1 = some r ∧ Sim cx nt ρ1 F σ1 a w' ∧ VR ρ1 F w' (σ1.lv ρ1) (.box n 0) v ∧ (execOp a.eval o).run P w = .ok (.value v) w' := by
  obtain ⟨h1, h2⟩ := newO_exec h
  obtain ⟨inf, hi1, _, _, hi2⟩ := zero_spec hi hz
  obtain ⟨ρ1, h3, h4⟩ := hs.growBox (e := t) (cs := i.zero.cells) hid h1 (zero_cells i.zero)
  refine ⟨_, ρ1, _, _, h2, h3, h4, ?_⟩
  simp [execOp, ho, Instr.alloc, zeroValue, typeInfo, hi1, hi2, newVar, newRow]
theorem box_sound {t : TypeId} {x : Operand} {n : Nat} {sv : SV} {kk : MU} {r : Unit × St} (hid : liveId ≤ n) (h : (newO n (.box t sv.cellsOf) kk).exec σ = some r) (hc : sv.cellsOf.all SV.cell = true) (hs : Sim cx nt ρ F σ a w) (hv : VR ρ F w (σ.lv ρ) sv (a.eval x)) (ho : o.op = .box t x) :
    ∃ σ1 ρ1 v w', kk.exec σ1 = some r ∧ Sim cx nt ρ1 F σ1 a w' ∧ VR ρ1 F w' (σ1.lv ρ1) (.box n 0) v ∧ (execOp a.eval o).run P w = .ok (.value v) w' := by
  obtain ⟨h1, h2⟩ := newO_exec h
  obtain ⟨ρ1, h3, h4⟩ := hs.growBox (e := t) (cs := (a.eval x).cells) hid h1 (cells_of hc hv).1
  refine ⟨_, ρ1, _, _, h2, h3, h4, ?_⟩
  simp [execOp, ho, Instr.box, newVar, newRow]

theorem foldl_set (off : Nat) : ∀ (vs : List Value) (k : Nat) (cur : Array Value), off + k + vs.length ≤ cur.size →
    ((vs.zipIdx k).foldl (fun cs (c, j) => cs.setIfInBounds (off + j) c) cur).toList = cur.toList.take (off + k) ++ vs ++ cur.toList.drop (off + k + vs.length)
  | [], k, cur, _ => by simp
  | v :: vs, k, cur, h => by
    simp only [List.zipIdx_cons, List.foldl_cons]
    rw [foldl_set off vs (k + 1) (cur.setIfInBounds (off + k) v) (by simp at h ⊢; omega)]
    apply List.ext_getElem?
    intro q
    simp only [List.length_cons] at h
    have hls : cur.toList.length = cur.size := Array.length_toList
    rw [show off + (k + 1) = (off + k) + 1 by omega, show off + k + (v :: vs).length = off + k + (v :: vs).length from rfl]
    rw [splice_get (by simp; omega), splice_get (us := cur.toList) (ds := v :: vs) (by simp; omega)]
    simp only [Array.toList_setIfInBounds, List.length_cons, List.getElem?_set]
    by_cases h1 : q < off + k
    · rw [if_pos (by omega), if_pos h1, if_neg (by omega)]
    · rw [if_neg h1]
      by_cases h2 : q = off + k
      · subst h2
        rw [if_pos (by omega), if_pos rfl, if_pos (by omega)]
        simp
      · rw [if_neg (by omega)]
        by_cases h3 : q < off + k + 1 + vs.length
        · rw [if_pos h3, if_pos (by omega), show q - (off + k) = (q - (off + k + 1)) + 1 by omega, List.getElem?_cons_succ]
        · rw [if_neg h3, if_neg (by omega), if_neg (by omega)]
theorem fill_one {place : Nat → Option (Nat × Nat)} {cells : Array Value} {i off sz : Nat} {v : Value} {rest : List (Nat × Value)} (hp : place i = some (off, sz)) (hz : v.cells.size = sz) (hle : off + sz ≤ cells.size) :
    ∃ c1 : Array Value, Instr.fill place cells ((i, v) :: rest) = Instr.fill place c1 rest ∧ c1.toList = cells.toList.take off ++ v.cells.toList ++ cells.toList.drop (off + v.cells.toList.length) := by
  refine ⟨v.cells.zipIdx.foldl (fun cs (c, j) => cs.setIfInBounds (off + j) c) cells, ?_, ?_⟩
  · have h1 : ¬ (v.cells.size ≠ sz ∨ off + v.cells.size > cells.size) := by rw [hz]; omega
    simp only [Instr.fill, hp]
    have h2 : (decide (v.cells.size ≠ sz) || decide (off + v.cells.size > cells.size)) = false := by
      rw [Bool.or_eq_false_iff]; exact ⟨by simp [hz], by simp; omega⟩
    simp only [ne_eq, hz, not_true, decide_false, Bool.false_or]
    rw [if_neg (by simp; omega)]
  · rw [← Array.foldl_toList, Array.toList_zipIdx]
    have := foldl_set off v.cells.toList 0 cells (by simp; omega)
    simpa using this
theorem fill_sound {fs : List (Nat × Nat × Bool)} {place : Nat → Option (Nat × Nat)} (hpl : ∀ i, place i = (fs[i]?).map fun f => (f.1, f.2.1)) : ∀ {parts : List (Nat × SV)} {cparts : List (Nat × Value)} {vs : List SV} {cells : Array Value} {kk : List SV → MU} {r : Unit × St},
    (fillM vs fs parts kk).exec σ = some r → All2 (LR0 ρ F w (σ.lv ρ)) vs cells.toList → All2 (fun p q => p.1 = q.1 ∧ VR ρ F w (σ.lv ρ) p.2 q.2) parts cparts →
    ∃ vs' cells', (kk vs').exec σ = some r ∧ Instr.fill place cells cparts = some cells' ∧ All2 (LR0 ρ F w (σ.lv ρ)) vs' cells'.toList
  | [], cparts, vs, cells, kk, r, h, hv, hp => by
    rw [hp.nil_left]
    exact ⟨vs, cells, h, rfl, hv⟩
  | p :: parts, [], vs, cells, kk, r, h, hv, hp => hp.elim
  | (i, sv) :: parts, (j, v) :: cparts, vs, cells, kk, r, h, hv, hp => by
    obtain ⟨⟨rfl, hx⟩, hp⟩ := hp
    simp only [fillM] at h
    split at h
    · rename_i off z ag hf
      replace h := test_exec h; obtain ⟨ht, h⟩ := h
      simp only [Bool.and_eq_true] at ht
      obtain ⟨⟨ht1, ht2⟩, ht3⟩ := ht
      have ht1 := Nat.eq_of_beq_eq_true ht1
      have ht2 := Nat.le_of_ble_eq_true ht2
      obtain ⟨hc1, _⟩ := cells_of ht3 hx
      have hl := hc1.length
      have hl2 := hv.length
      have hsz : v.cells.size = z := by rw [← ht1, hl]; simp
      obtain ⟨c1, h1, h2⟩ := fill_one (place := place) (cells := cells) (i := i) (v := v) (rest := cparts) (by rw [hpl, hf]; rfl) hsz (by rw [hl2] at ht2; simpa using ht2)
      obtain ⟨vs', cells', h3, h4, h5⟩ := fill_sound hpl h (by rw [h2]; exact hv.splice hc1 off) hp
      exact ⟨vs', cells', h3, by rw [show (Prod.fst (i, sv), v) = (i, v) from rfl] at *; rw [h1]; exact h4, h5⟩
    · simp [M.exec] at h
theorem fill_seq {sz n : Nat} {place : Nat → Option (Nat × Nat)} (hpl : ∀ i, place i = some (i * sz, sz)) : ∀ (vs : List Value) (k : Nat) (cells : Array Value), (∀ v ∈ vs, v.cells.size = sz) → k + vs.length = n → cells.size = n * sz →
    ∃ cells' : Array Value, Instr.fill place cells ((List.range' k vs.length).zip vs) = some cells' ∧ cells'.toList = cells.toList.take (k * sz) ++ vs.flatMap (·.cells.toList)
  | [], k, cells, _, hk, hc => by
    refine ⟨cells, by simp [Instr.fill], ?_⟩
    have : k = n := by simpa using hk
    subst this
    simp
    rw [List.take_of_length_le (by simp [hc])]
  | v :: vs, k, cells, hv, hk, hc => by
    simp only [List.length_cons] at hk
    have hle : k * sz + sz ≤ n * sz := by rw [← Nat.succ_mul]; exact Nat.mul_le_mul_right _ (by omega)
    obtain ⟨c1, h1, h2⟩ := fill_one (place := place) (cells := cells) (i := k) (v := v) (rest := (List.range' (k + 1) vs.length).zip vs) (hpl k) (hv v (by simp)) (by omega)
    have hl : v.cells.toList.length = sz := by simpa using hv v (by simp)
    have hc1 : c1.size = n * sz := by
      have : c1.toList.length = n * sz := by
        rw [h2, List.length_append, List.length_append, List.length_take, List.length_drop, hl, Array.length_toList, hc]; omega
      simpa using this
    obtain ⟨c2, h3, h4⟩ := fill_seq hpl vs (k + 1) c1 (fun x hx => hv x (by simp [hx])) (by omega) hc1
    refine ⟨c2, ?_, ?_⟩
    · rw [List.length_cons, List.range'_succ, List.zip_cons_cons, h1]; exact h3
    · rw [h4, h2, List.flatMap_cons, ← List.append_assoc]
      congr 1
      rw [List.take_append_of_le_length (by rw [List.length_append, List.length_take, hl, Array.length_toList, hc, Nat.succ_mul]; omega)]
      rw [List.take_of_length_le (by rw [List.length_append, List.length_take, hl, Array.length_toList, hc, Nat.succ_mul]; omega)]
end
end Go.Gx

/-
  Gx, part E4: build, buildSlice, makeSlice, slices of slices, indices, appends.
-/
set_option linter.unusedVariables false
set_option linter.unusedSimpArgs false
namespace Go.Gx
section
variable {P : Program} {cx : Ctx} {nt : Fr} {ρ : Rho} {F : Nat → Prop} {σ σ' : St} {a : Act} {w w' : World} {o : Oper} {K : Act → World → Prop} {Q : Exit → Act → World → Prop}
theorem zip_all2 : ∀ (L : List (Nat × Operand)) {svs : List SV}, All2 (VR ρ F w (σ.lv ρ)) svs ((L.map (·.2)).map a.eval) →
    All2 (fun p q => p.1 = q.1 ∧ VR ρ F w (σ.lv ρ) p.2 q.2) ((L.map (·.1)).zip svs) (L.map fun p => (p.1, a.eval p.2))
  | [], svs, h => by simp [All2]
  | p :: L, [], h => h.elim
  | p :: L, sv :: svs, h => ⟨⟨rfl, h.1⟩, zip_all2 L h.2⟩
theorem places_eq : ∀ (fs : List Field), ((fs.map fun f => (f.offset, ((P.info? f.type).map (·.size)).getD 0, ((P.underlying f.type).map aggD).getD true)).all fun f => Nat.blt 0 f.2.1) = true →
    fs.mapM (fun f => (P.info? f.type).map fun i => (f.offset, i.size)) = some (fs.map fun f => (f.offset, ((P.info? f.type).map (·.size)).getD 0))
  | [], _ => rfl
  | f :: fs, h => by
    simp only [List.map_cons, List.all_cons, Bool.and_eq_true] at h
    have ih := places_eq fs h.2
    have h1 := h.1
    rw [List.mapM_cons, ih]
    cases hq : P.info? f.type with
    | none => rw [hq] at h1; simp [Nat.blt] at h1
    | some i => simp [hq]
theorem build_sound {t : TypeId} {i : TI} {parts : Array (Nat × Operand)} {svs : List SV} {kk : List SV → MU} {r : Unit × St} (hi : tinfo P t = some i) (hz : i.hasZ = true) (hne : i.fields.isEmpty = false) (hpos : (i.fields.all fun f => Nat.blt 0 f.2.1) = true)
    (h : (fillM (zeroOf i) i.fields ((parts.toList.map (·.1)).zip svs) kk).exec σ = some r) (hs : Sim cx nt ρ F σ a w) (hv : All2 (VR ρ F w (σ.lv ρ)) svs ((parts.toList.map (·.2)).map a.eval)) (ho : o.op = .build t parts) :
    ∃ cs v, (kk cs).exec σ = some r ∧ VR ρ F w (σ.lv ρ) (.agg cs) v ∧ (execOp a.eval o).run P w = .ok (.value v) w := by
  obtain ⟨d, inf0, h1, h2, _, _, _, _, hf, _⟩ := tinfo_spec hi
  obtain ⟨inf, hi1, _, _, hi2⟩ := zero_spec hi hz
  cases d with
  | struct fs =>
    simp only at hf
    have hpl := places_eq (P := P) fs.toList (by rw [← hf]; exact hpos)
    obtain ⟨vs', cells', h3, h4, h5⟩ := fill_sound (place := fun x => ((fs.toList.map fun f => (f.offset, ((P.info? f.type).map (·.size)).getD 0)).toArray)[x]?) (fun j => by rw [hf]; simp [Function.comp_def]) h (zero_cells i.zero) (zip_all2 _ hv)
    refine ⟨vs', _, h3, ⟨cells', rfl, h5⟩, ?_⟩
    have hb : P.built t (parts.map fun (i, x) => (i, a.eval x)).toList = some cells' := by
      unfold Program.built
      rw [hi1, h1]
      simp only [hi2, hpl]
      rw [← h4]
      congr 1
      simp
    have := run_build (P := P) w t (parts.map fun (i, x) => (i, a.eval x)) cells' hb
    simp [execOp, ho, this]
  | _ => rw [hf] at hne; simp at hne
theorem zip_range (L : List (Nat × Operand)) (n : Nat) (h : (L.map (·.1)) = List.range n) : (L.map fun p => (p.1, a.eval p.2)) = (List.range' 0 ((L.map (·.2)).map a.eval).length).zip ((L.map (·.2)).map a.eval) := by
  have hl : L.length = n := by have := congrArg List.length h; simpa using this
  rw [List.length_map, List.length_map, hl, ← List.range_eq_range', ← h]
  clear h hl
  induction L with
  | nil => rfl
  | cons p L ih => simp [ih]
theorem run_buildSlice0 (w : World) (t e : TypeId) (len : Nat) (parts : Array (Nat × Value)) (cells : Array Value) (ie : TypeInfo) (z : Value)
    (hu : P.underlying t = some (.slice e)) (hie : P.info? e = some ie) (hz : ie.zero = some z) (hsmall : ¬ len * ie.size > 2 ^ 24) (hpos : ¬ len * ie.size = 0)
    (h : Instr.fill (fun i => some (i * ie.size, ie.size)) ((Array.range (len * ie.size)).map (z.cells[· % z.cells.size]!)) parts.toList = some cells) :
    (Instr.buildSlice t len parts).run P w = .ok (.slice (some ⟨w.heap.size, 0, none⟩) len len) (w.alloc (.cells cells e)) := by
  simp [Instr.buildSlice, run_underlying hu, sizeOf, typeInfo, zeroValue, hie, hz, hsmall, hpos, h, newRow]
theorem buildSlice_sound {t e : TypeId} {i j : TI} {ty : Ty} {n id : Nat} (hid : liveId ≤ id) {parts : Array (Nat × Operand)} {svs : List SV} {kk : MU} {r : Unit × St} (hi : tinfo P t = some i) (he : i.elem = some e) (hj : tinfo P e = some j) (hz : j.hasZ = true) (hsz : ty.sz = j.size)
    (hr : (parts.toList.map (·.1)) = List.range n) (hsm : n * j.size ≤ 16777216)
    (h : (elems ty svs fun xs => newO id (.row e ty xs) kk).exec σ = some r) (hs : Sim cx nt ρ F σ a w) (hv : All2 (VR ρ F w (σ.lv ρ)) svs ((parts.toList.map (·.2)).map a.eval)) (ho : o.op = .buildSlice t n parts) :
    ∃ σ1 ρ1 F1 v w', kk.exec σ1 = some r ∧ Sim cx nt ρ1 F1 σ1 a w' ∧ VR ρ1 F1 w' (σ1.lv ρ1) (.own id) v ∧ (execOp a.eval o).run P w = .ok (.value v) w' := by
  have hu := elem_spec hi he
  obtain ⟨inf, hj1, hj2, hj3, hj4⟩ := zero_spec hj hz
  obtain ⟨xs, σ1, F1, bss, h1, h2, h3, h7, h4, h8⟩ := elems_sound h hs hv
  obtain ⟨h5, h6⟩ := newO_exec h1
  have hlen : ((parts.toList.map (·.2)).map a.eval).length = n := by
    have := congrArg List.length hr
    simpa using this
  have hxl : xs.length = n := by rw [h4]; exact hlen
  have hbase : ∃ cells0 : Array Value, cells0.size = n * ty.sz ∧ ∀ cells', Instr.fill (fun i => some (i * ty.sz, ty.sz)) cells0 (parts.map fun (i, x) => (i, a.eval x)).toList = some cells' →
      (execOp a.eval o).run P w = .ok (.value (.slice (some ⟨w.heap.size, 0, none⟩) n n)) (w.alloc (.cells cells' e)) := by
    by_cases h0 : n * j.size = 0
    · refine ⟨#[], by rw [hsz, h0]; rfl, fun cells' hf => ?_⟩
      have hn0 : n = 0 := by
        rcases Nat.mul_eq_zero.1 h0 with h | h
        · exact h
        · have := ty.sz_pos; omega
      subst hn0
      have hp : parts = #[] := by
        have : parts.toList.map (·.1) = [] := by simpa using hr
        simpa using this
      subst hp
      simp [Instr.fill] at hf
      subst hf
      simp [execOp, ho, Instr.buildSlice, run_underlying hu, sizeOf, typeInfo, hj1, hj2, newRow, Instr.fill, Array.range_zero']
    · refine ⟨(Array.range (n * j.size)).map (j.zero.cells[· % j.zero.cells.size]!), by simp [hsz], fun cells' hf => ?_⟩
      have := run_buildSlice0 (P := P) w t e n (parts.map fun (i, x) => (i, a.eval x)) cells' inf j.zero hu hj1 hj4 (by rw [hj2]; omega) (by rw [hj2]; exact h0) (by rw [hj2, ← hsz]; rw [hsz] at hf ⊢; exact hf)
      simp [execOp, ho, this]
  obtain ⟨cells0, hc0, hrun⟩ := hbase
  obtain ⟨cells', h9, h10⟩ := fill_seq (sz := ty.sz) (n := n) (place := fun i => some (i * ty.sz, ty.sz)) (fun _ => rfl) ((parts.toList.map (·.2)).map a.eval) 0 cells0 h8 (by omega) hc0
  have hrun := hrun cells' (by
    rw [← h9]
    congr 1
    rw [← zip_range (a := a) parts.toList n hr]
    simp)
  simp only [Nat.zero_mul, List.take_zero, List.nil_append] at h10
  have hcl : cells'.size = n * ty.sz := by
    have : cells'.toList.length = n * ty.sz := by
      rw [h10]
      clear hrun h9 h10 hc0
      have : ∀ (l : List Value), (∀ v ∈ l, v.cells.size = ty.sz) → (l.flatMap (·.cells.toList)).length = l.length * ty.sz := by
        intro l
        induction l with
        | nil => simp
        | cons x l ih => intro hx; rw [List.flatMap_cons, List.length_append, ih (fun v hv => hx v (by simp [hv])), List.length_cons, Nat.succ_mul, Array.length_toList, hx x (by simp)]; omega
      rw [this _ h8, hlen]
    simpa using this
  have hown : (w.alloc (.cells cells' e)).ownsRow 0 e ty.sz (.slice (some ⟨w.heap.size, 0, none⟩) n n) xs.length cells'.toList := by
    rw [hxl]
    have hle : n ≤ n * j.size := by rw [← hsz]; exact Nat.le_mul_of_pos_right _ ty.sz_pos
    exact World.ownsRow_lit w cells' n (Nat.zero_le _) (by simp only [maxLen]; omega) hcl
  have hown := ownsX.of hown
  have hFw : ∀ b, F1 b → (w.alloc (.cells cells' e)).heap[b]? = w.heap[b]? := fun b hb => heap_alloc_old w _ b (h2.Fb b hb).1
  have hfree := h3.free hs
  have hlt : ∀ b ∈ bss.flatten, b < w.heap.size := DRow_lt h7
  have hdr : DRow F1 (w.alloc (.cells cells' e)) ty xs cells'.toList bss := by
    rw [h10]; exact DRow_mono (fun _ h => h) hFw (fun b hb => heap_alloc_old w _ b (hlt b hb)) h7
  obtain ⟨ρ1, h11, h12⟩ := h2.growRow (w' := w.alloc (.cells cells' e)) (bs0 := bss.flatten) hid h5 (pr_alloc w _) (fun _ h => h.elim) ⟨cells'.toList, bss, hown, hdr, rfl⟩ (by
      simp only [Value.ownBlock, Option.toList_some, List.singleton_append, List.nodup_cons]
      exact ⟨fun hm => by have := hlt _ hm; omega, h3.nd⟩) (fun b hb => by
      rcases List.mem_append.1 hb with hb | hb
      · simp [Value.ownBlock] at hb; exact .inl (by omega)
      · exact .inr hb) hfree
  exact ⟨_, ρ1, F1, _, _, h6, h11, h12, hrun⟩
end
end Go.Gx

/-
  Gx, part E5: makeSlice, slices of slices, indices, appends.
-/
set_option linter.unusedVariables false
set_option linter.unusedSimpArgs false
namespace Go.Gx
section
variable {P : Program} {cx : Ctx} {nt : Fr} {ρ : Rho} {F : Nat → Prop} {σ σ' : St} {a : Act} {w w' : World} {o : Oper} {K : Act → World → Prop} {Q : Exit → Act → World → Prop}
theorem zmatch_sound : ∀ {t : Ty} {zs rest : List Value}, zmatch t zs = some rest → ∃ z1, zs = z1 ++ rest ∧ DC F w t t.dflt z1 []
  | .pair t1 t2, zs, rest, h => by
    simp only [zmatch, Option.bind_eq_some_iff] at h
    obtain ⟨r1, h1, h2⟩ := h
    obtain ⟨z1, rfl, h3⟩ := zmatch_sound h1
    obtain ⟨z2, rfl, h4⟩ := zmatch_sound h2
    exact ⟨z1 ++ z2, by simp, z1, z2, [], [], rfl, rfl, h3, h4⟩
  | .int k, zs, rest, h => by
    unfold zmatch at h
    split at h <;> first | (cases h; done) | (rename_i e; cases e; done) | skip
    rename_i e
    cases e
    split at h
    · rename_i e; subst e; cases h; exact ⟨[_], rfl, rfl, rfl⟩
    · cases h
  | .bool, zs, rest, h => by
    unfold zmatch at h
    split at h <;> first | (cases h; done) | (rename_i e; cases e; done) | skip
    cases h; exact ⟨[_], rfl, rfl, rfl⟩
  | .str, zs, rest, h => by
    unfold zmatch at h
    cases h
  | .sl t, zs, rest, h => by
    unfold zmatch at h
    split at h <;> first | (rename_i e; cases e; done) | skip
    · cases h
      exact ⟨[_], rfl, ⟨none, 0, rfl, Nat.le_refl _, by simp [maxLen], fun i x hi => by simp [Ty.dflt] at hi⟩, rfl⟩
    · cases h
  | .slo t, zs, rest, h => by
    unfold zmatch at h
    split at h <;> first | (rename_i e; cases e; done) | skip
    · cases h
      exact ⟨[_], rfl, ⟨fun _ => rfl, none, 0, rfl, Nat.le_refl _, by simp [maxLen], fun i x hi => by simp [Ty.dflt] at hi⟩, rfl⟩
    · cases h
  | .os e t, zs, rest, h => by
    unfold zmatch at h
    split at h <;> first | (rename_i e; cases e; done) | skip
    · cases h
      exact ⟨[_], rfl, _, [], rfl, ⟨by simp [Ty.dflt], .inl ⟨rfl, rfl⟩⟩, fun i x hi => by simp [Ty.dflt] at hi, rfl⟩
    · cases h
  | .oso e t, zs, rest, h => by
    unfold zmatch at h
    split at h <;> first | (rename_i e; cases e; done) | skip
    · cases h
      exact ⟨[_], rfl, _, [], rfl, ⟨by simp [Ty.dflt], .inl ⟨rfl, rfl⟩⟩, fun i x hi => by simp [Ty.dflt] at hi, rfl, fun _ => rfl⟩
    · cases h
theorem madeCells_chunk (z : Array Value) (n i : Nat) (hi : i < n) : ((madeCells z (n * z.size)).toList.drop (i * z.size)).take z.size = z.toList := by
  have hle : i * z.size + z.size ≤ n * z.size := by rw [← Nat.succ_mul]; exact Nat.mul_le_mul_right _ hi
  apply List.ext_getElem?
  intro j
  rw [List.getElem?_take]
  by_cases hj : j < z.size
  · rw [if_pos hj, List.getElem?_drop]
    have h1 : i * z.size + j < n * z.size := by omega
    simp [madeCells, h1, Nat.mul_add_mod_self_right, Nat.mod_eq_of_lt hj, hj]
  · rw [if_neg hj, List.getElem?_eq_none (by simp; omega)]
theorem makeSlice_sound {t e : TypeId} {i j : TI} {ty : Ty} {id : Nat} (hid : liveId ≤ id) {l c : Operand} {z : Int} {kk : MU} {r : Unit × St} (hi : tinfo P t = some i) (he : i.elem = some e) (hj : tinfo P e = some j) (hz : j.hasZ = true) (hsz : ty.sz = j.size) (hby : j.bytes ≤ 64)
    (hzm : (zmatch ty j.zero.cells.toList).map (·.length) = some 0) (h0 : 0 ≤ z) (hl : z ≤ (lim : Int))
    (h : (newO id (.row e ty (List.replicate z.toNat ty.dflt)) kk).exec σ = some r) (hs : Sim cx nt ρ F σ a w) (h1 : a.eval l = .int .i64 z) (h2 : a.eval c = .int .i64 z) (ho : o.op = .makeSlice t l c) :
    ∃ σ1 ρ1 v w', kk.exec σ1 = some r ∧ Sim cx nt ρ1 F σ1 a w' ∧ VR ρ1 F w' (σ1.lv ρ1) (.own id) v ∧ (execOp a.eval o).run P w = .ok (.value v) w' := by
  have hu := elem_spec hi he
  obtain ⟨inf, hj1, hj2, hj3, hj4⟩ := zero_spec hj hz
  obtain ⟨h5, h6⟩ := newO_exec h
  obtain ⟨m, rfl⟩ := Int.eq_ofNat_of_zero_le h0
  have hm : m ≤ lim := by omega
  have hlim : lim = 549755813888 := rfl
  have hrun := run_make (P := P) w t e inf j.zero hu hj1 hj4 .i64 .i64 (m : Int) (m : Int) h0 (Int.le_refl _) (by
    rw [hj3]
    have : ((j.bytes * m : Nat) : Int) ≤ 281474976710656 := by
      have : j.bytes * m ≤ 64 * 549755813888 := Nat.mul_le_mul hby (by omega)
      omega
    rwa [Int.natCast_mul] at this) (by omega)
  simp only [Int.toNat_natCast] at hrun h6 ⊢
  have hzc : zmatch ty j.zero.cells.toList = some [] := by
    cases hq : zmatch ty j.zero.cells.toList with
    | none => rw [hq] at hzm; simp at hzm
    | some l => rw [hq] at hzm; simp at hzm; rw [hzm]
  have htc : ∀ w : World, DC F w ty ty.dflt j.zero.cells.toList [] := by
    intro w
    obtain ⟨z1, e1, h3⟩ := zmatch_sound (F := F) (w := w) hzc
    rw [List.append_nil] at e1
    rw [e1]; exact h3
  have hzs : j.zero.cells.size = ty.sz := by have := DC_len (htc w); simpa using this
  have hown : (w.alloc (.cells (madeCells j.zero.cells (m * inf.size)) e)).ownsRow 0 e ty.sz (.slice (some ⟨w.heap.size, 0, none⟩) m m) (List.replicate m ty.dflt).length (madeCells j.zero.cells (m * inf.size)).toList := by
    rw [List.length_replicate]
    exact World.ownsRow_lit w _ m (Nat.zero_le _) (by simp only [maxLen]; omega) (by rw [size_madeCells, hj2, hsz])
  have hown := ownsX.of hown
  obtain ⟨ρ1, h11, h12⟩ := hs.growFlat (w' := w.alloc (.cells (madeCells j.zero.cells (m * inf.size)) e)) (bss := List.replicate m []) hid h5 (pr_alloc w _) hown (DRow_of (by simp) fun i x b hi hb => by
    rw [List.getElem?_replicate] at hi hb
    split at hi
    · rename_i him
      rw [if_pos him] at hb
      cases hi; cases hb
      rw [hj2, ← hsz, ← hzs, madeCells_chunk _ _ _ him]
      exact htc _
    · cases hi) (by simp) (fun b hb => by simp [Value.ownBlock] at hb; omega)
  refine ⟨_, ρ1, _, _, h6, h11, h12, ?_⟩
  simp only [execOp, ho, h1, h2, Sem.run_bind, hrun, Result.andThen_ok, Sem.run_pure]

theorem run_indexAt {t e : TypeId} {j : TI} {x y : Operand} {ad : Addr} {l c : Nat} {k : IntKind} {z : Int} (hu : P.underlying t = some (.slice e)) (hj : tinfo P e = some j) (hx : a.eval x = .slice (some ad) l c) (hy : a.eval y = .int k z) (hz : inb z l = true) (ho : o.op = .indexAddr t x y) :
    (execOp a.eval o).run P w = .ok (.value (.pointer (some (ad.add (z.toNat * j.size))))) w := by
  have hb := of_decide_eq_true hz
  simp [execOp, ho, hx, hy, Instr.indexAt, asIntOf, run_underlying hu, hb.1, hb.2, run_sizeOf hj]
theorem TC_head {t : Ty} {xs : List t.I} {v : Value} (h : TC F w (.sl t) xs [v]) (hp : 0 < xs.length) : ∃ ad c, v = .slice (some ad) xs.length c ∧ F ad.block := by
  obtain ⟨A, c, e, _, _, hx⟩ := h
  simp only [List.cons.injEq, and_true] at e
  obtain ⟨ad, ds, rfl, hb, _⟩ := hx 0 _ (getD_some (d := t.dflt) hp)
  exact ⟨ad, c, e, hb⟩
theorem indexAddr_sound {t e : TypeId} {i j : TI} {x y : Operand} {sa sb : SV} {kk : SV → MU} {r : Unit × St} (hi : tinfo P t = some i) (he : i.elem = some e) (hj : tinfo P e = some j) (h : (indexAddrM j.size sa sb kk).exec σ = some r) (hs : Sim cx nt ρ F σ a w)
    (ha : VR ρ F w (σ.lv ρ) sa (a.eval x)) (hb : VR ρ F w (σ.lv ρ) sb (a.eval y)) (ho : o.op = .indexAddr t x y) :
    ∃ sv v, (kk sv).exec σ = some r ∧ VR ρ F w (σ.lv ρ) sv v ∧ (execOp a.eval o).run P w = .ok (.value v) w := by
  have hu := elem_spec hi he
  unfold indexAddrM at h
  split at h
  · rename_i ty xs k z
    replace h := test_exec h; obtain ⟨ht, h⟩ := h
    simp only [Bool.and_eq_true] at ht
    have hsz := Nat.eq_of_beq_eq_true ht.1
    have hz := of_decide_eq_true ht.2
    have hlt : z.toNat < xs.length := by omega
    have htc : TC F w (.sl ty) xs [a.eval x] := ha
    obtain ⟨ad, c, hx, hF⟩ := TC_head htc (by omega)
    refine ⟨_, _, h, ⟨_, rfl, fun q sv hq => ⟨by rw [add_block]; exact hF, ?_⟩⟩, run_indexAt hu hj hx hb ht.2 ho⟩
    obtain ⟨A, c', e', _, _, hxs⟩ := htc
    simp only [List.cons.injEq, and_true] at e'
    rw [hx] at e'
    simp only [Value.slice.injEq] at e'
    obtain ⟨rfl, _, rfl⟩ := e'
    obtain ⟨ad', ds, e'', _, htc', hcell⟩ := hxs z.toNat _ (getD_some (d := ty.dflt) hlt)
    cases e''
    obtain ⟨u, h1, h2⟩ := (TC_leaves (ρ := ρ) (lv := σ.lv ρ) htc').get hq
    exact ⟨u, by rw [add_add, ← hsz]; exact hcell q u h1, h2⟩
  · rename_i n k z
    obtain ⟨hl, hx, _⟩ := ha
    simp only [M.exec] at h
    split at h
    · rename_i e' ty xs hob
      replace h := test_exec h; obtain ⟨ht, h⟩ := h
      simp only [Bool.and_eq_true] at ht
      have hsz := Nat.eq_of_beq_eq_true ht.1
      have hz := of_decide_eq_true ht.2
      have hob' := hs.objs n
      rw [hob] at hob'
      obtain ⟨hes, ⟨cells, bss, hrow, hc, _⟩, _⟩ := hob'
      rcases hrow.2 with ⟨e0, e1⟩ | ⟨g, cap, cur, e0, _⟩
      · omega
      · rw [e0] at hx
        refine ⟨_, _, h, ⟨hl, g, _, _, e0, ?_⟩, run_indexAt hu hj hx hb ht.2 ho⟩
        rw [add_at, hes, ← hsz]
        simp
    · rename_i e' ty xs i0 off0 id0 hob
      replace h := test_exec h; obtain ⟨ht, h⟩ := h
      simp only [Bool.and_eq_true] at ht
      have hsz := Nat.eq_of_beq_eq_true ht.1
      have hz := of_decide_eq_true ht.2
      have hob' := hs.objs n
      rw [hob] at hob'
      obtain ⟨hes, _, ⟨_, _, _, _, _, cells, bss, hrow, _⟩, _⟩ := hob'
      rcases hrow.2 with ⟨e0, e1⟩ | ⟨g, cap, cur, e0, _⟩
      · omega
      · rw [e0] at hx
        refine ⟨_, _, h, ⟨hl, g, _, _, e0, ?_⟩, run_indexAt hu hj hx hb ht.2 ho⟩
        rw [add_at, hes, ← hsz]
        simp
    · rename_i e' ty x hob
      obtain ⟨xs, rfl, h⟩ := opt_exec h
      replace h := test_exec h; obtain ⟨ht, h⟩ := h
      simp only [Bool.and_eq_true] at ht
      have hsz := Nat.eq_of_beq_eq_true ht.1
      have hz := of_decide_eq_true ht.2
      have hob' := hs.objs n
      rw [hob] at hob'
      obtain ⟨hes, ⟨cells, bss, hrow, hc, _⟩, _⟩ := hob'
      rcases hrow.2 with ⟨e0, e1⟩ | ⟨g, cap, cur, e0, _⟩
      · omega
      · rw [e0] at hx
        refine ⟨_, _, h, ⟨hl, g, _, _, e0, ?_⟩, run_indexAt hu hj hx hb ht.2 ho⟩
        rw [add_at, hes, ← hsz]
        simp
    · simp [M.exec] at h
  · rename_i n lo hi' k z
    obtain ⟨hl, hsub⟩ := ha
    simp only [M.exec] at h
    split at h
    · rename_i e' ty xs hob
      replace h := test_exec h; obtain ⟨ht, h⟩ := h
      simp only [Bool.and_eq_true] at ht
      have hsz := Nat.eq_of_beq_eq_true ht.1.1
      have hz := of_decide_eq_true ht.1.2
      have hle := of_decide_eq_true ht.2
      have hob' := hs.objs n
      rw [hob] at hob'
      obtain ⟨hes, ⟨cells, bss, hrow, hc, hbks⟩, _⟩ := hob'
      obtain ⟨A, l, c, A2, eh, hlo, hhi, hx, hA1, hA2⟩ := hsub
      rcases hrow.2 with ⟨e0, e1⟩ | ⟨g, cap, cur, e0, _, _, hcap, _⟩
      · omega
      · rw [e0] at eh
        simp only [Value.slice.injEq] at eh
        obtain ⟨rfl, rfl, rfl⟩ := eh
        have hne : cap ≠ lo := by omega
        rw [hA1 hne, Option.map_some] at hx
        refine ⟨_, _, h, ⟨hl, g, _, _, e0, ?_⟩, run_indexAt hu hj hx hb ht.1.2 ho⟩
        rw [add_at, add_at, hes, ← hsz, Nat.add_mul]
        simp
    · simp [M.exec] at h
  · simp [M.exec] at h

/-- An optional bound. -/
def OB (x : Option SV) (v : Option Value) : Prop := (x = none ∧ v = none) ∨ ∃ k z, x = some (.int k z) ∧ v = some (.int k z)
theorem bound_sound {d : Int} {x : Option SV} {kk : Int → MU} {r : Unit × St} {v : Option Operand} (h : (bound d x kk).exec σ = some r) (hx : (x = none ∧ v = none) ∨ ∃ sv y, x = some sv ∧ v = some y ∧ VR ρ F w (σ.lv ρ) sv (a.eval y)) :
    ∃ z, (kk z).exec σ = some r ∧ ((x = none ∧ v.map a.eval = none ∧ z = d) ∨ ∃ k, x = some (.int k z) ∧ v.map a.eval = some (.int k z)) := by
  rcases hx with ⟨rfl, rfl⟩ | ⟨sv, y, rfl, rfl, hv⟩
  · exact ⟨d, h, .inl ⟨rfl, rfl, rfl⟩⟩
  · cases sv with
    | int k z =>
      have e : a.eval y = .int k z := hv
      exact ⟨z, h, .inr ⟨k, rfl, by rw [Option.map_some, e]⟩⟩
    | _ => simp [bound, M.exec] at h
theorem run_bounds {len cap : Nat} {lo hi mx : Option Value} {l h m : Int} (hl : (lo = none ∧ l = 0) ∨ ∃ k, lo = some (.int k l)) (hh : (hi = none ∧ h = (len : Int)) ∨ ∃ k, hi = some (.int k h)) (hm : (mx = none ∧ m = (cap : Int)) ∨ ∃ k, mx = some (.int k m) ∧ hi ≠ none)
    (h0 : 0 ≤ l) (h1 : l ≤ h) (h2 : h ≤ m) (h3 : m ≤ (cap : Int)) (w : World) : (Instr.sliceBounds true len cap lo hi mx).run P w = .ok (l.toNat, h.toNat, m.toNat) w := by
  obtain ⟨l', rfl⟩ := Int.eq_ofNat_of_zero_le h0
  obtain ⟨h', rfl⟩ := Int.eq_ofNat_of_zero_le (Int.le_trans h0 h1)
  obtain ⟨m', rfl⟩ := Int.eq_ofNat_of_zero_le (Int.le_trans (Int.le_trans h0 h1) h2)
  have e1 : l' ≤ h' := by omega
  have e2 : h' ≤ m' := by omega
  have e3 : m' ≤ cap := by omega
  rcases hm with ⟨rfl, hm⟩ | ⟨k, rfl, hne⟩
  · have : m' = cap := by omega
    subst this
    rcases hh with ⟨rfl, hh⟩ | ⟨k, rfl⟩
    · have : h' = len := by omega
      subst this
      rcases hl with ⟨rfl, hl⟩ | ⟨k, rfl⟩
      · have : l' = 0 := by omega
        subst this
        simp [Instr.sliceBounds]
      · simp [Instr.sliceBounds, Instr.sliceBound, asIntOf, e1]
    · rcases hl with ⟨rfl, hl⟩ | ⟨k', rfl⟩
      · have : l' = 0 := by omega
        subst this
        simp [Instr.sliceBounds, Instr.sliceBound, asIntOf, e2]
      · simp [Instr.sliceBounds, Instr.sliceBound, asIntOf, e1, e2]
  · rcases hh with ⟨rfl, hh⟩ | ⟨k', rfl⟩
    · exact absurd rfl hne
    · rcases hl with ⟨rfl, hl⟩ | ⟨k'', rfl⟩
      · have : l' = 0 := by omega
        subst this
        simp [Instr.sliceBounds, Instr.sliceBound, asIntOf, e2, e3]
      · simp [Instr.sliceBounds, Instr.sliceBound, asIntOf, e1, e2, e3]
theorem run_sliceAt {t e : TypeId} {j : TI} {x : Operand} {lo hi mx : Option Operand} {A : Option Addr} {len cap : Nat} {l h m : Int} (hu : P.underlying t = some (.slice e)) (hj : tinfo P e = some j) (hx : a.eval x = .slice A len cap)
    (hb : (Instr.sliceBounds true len cap (lo.map a.eval) (hi.map a.eval) (mx.map a.eval)).run P w = .ok (l.toNat, h.toNat, m.toNat) w) (ho : o.op = .slice t x lo hi mx) :
    (execOp a.eval o).run P w = .ok (.value (.slice (if m.toNat = l.toNat then A else A.map (·.add (l.toNat * j.size))) (h.toNat - l.toNat) (m.toNat - l.toNat))) w := by
  simp [execOp, ho, hx, Instr.sliceAt, run_underlying hu, Instr.slice, hb, run_sizeOf hj]
/-- With its cap cut to its length. -/
theorem TC_sub3 {t : Ty} {xs : List t.I} {A : Option Addr} {len cap lo hi : Nat} (hc : TC F w (.sl t) xs [.slice A len cap]) (h1 : lo ≤ hi) (h2 : hi ≤ xs.length) :
    TC F w (.sl t) ((xs.take hi).drop lo) [.slice (if hi = lo then A else A.map (·.add (lo * t.sz))) (hi - lo) (hi - lo)] := by
  obtain ⟨A', c, e, hl, hm, hx⟩ := hc
  simp only [List.cons.injEq, and_true, Value.slice.injEq] at e
  obtain ⟨rfl, rfl, rfl⟩ := e
  refine ⟨_, _, by rw [sub_len h2], by rw [sub_len h2]; omega, by omega, fun i x hi' => ?_⟩
  obtain ⟨hi1, hi2⟩ := sub_get hi'
  obtain ⟨ad, ds, rfl, hb, ht, hcell⟩ := hx _ x hi1
  have hne : hi ≠ lo := by omega
  rw [if_neg hne]
  refine ⟨ad.add (lo * t.sz), ds, rfl, by rw [add_block]; exact hb, ht, fun j u hj => ?_⟩
  rw [add_add, show lo * t.sz + (i * t.sz + j) = (lo + i) * t.sz + j by rw [Nat.add_mul]; omega]
  exact hcell j u hj
theorem subV_run {h : Value} {A : Option Addr} {l c lo hi sz : Nat} (e : h = .slice A l c) (h1 : lo ≤ hi) (h2 : hi ≤ l) : SubV h sz lo hi (.slice (if c = lo then A else A.map (·.add (lo * sz))) (hi - lo) (c - lo)) := by
  refine ⟨A, l, c, _, e, h1, h2, rfl, fun hne => by rw [if_neg hne], fun h0 => ?_⟩
  subst h0
  split
  · rfl
  · cases A <;> simp [add_zero]
theorem slice_sound {t e : TypeId} {i j : TI} {x : Operand} {lo hi mx : Option Operand} {sa : SV} {l h m : Option SV} {kk : SV → MU} {r : Unit × St} (hi' : tinfo P t = some i) (he : i.elem = some e) (hj : tinfo P e = some j)
    (hx : (sliceM j.size sa l h m kk).exec σ = some r) (hs : Sim cx nt ρ F σ a w) (ha : VR ρ F w (σ.lv ρ) sa (a.eval x))
    (hl : (l = none ∧ lo = none) ∨ ∃ sv y, l = some sv ∧ lo = some y ∧ VR ρ F w (σ.lv ρ) sv (a.eval y)) (hh : (h = none ∧ hi = none) ∨ ∃ sv y, h = some sv ∧ hi = some y ∧ VR ρ F w (σ.lv ρ) sv (a.eval y))
    (hm : (m = none ∧ mx = none) ∨ ∃ sv y, m = some sv ∧ mx = some y ∧ VR ρ F w (σ.lv ρ) sv (a.eval y)) (hmh : mx.isSome = true → hi.isSome = true) (ho : o.op = .slice t x lo hi mx) :
    ∃ sv σ1 F1 v, (kk sv).exec σ1 = some r ∧ Sim cx nt ρ F1 σ1 a w ∧ VR ρ F1 w (σ1.lv ρ) sv v ∧ (execOp a.eval o).run P w = .ok (.value v) w := by
  have hu := elem_spec hi' he
  unfold sliceM at hx
  split at hx
  · rename_i ty xs
    have htc : TC F w (.sl ty) xs [a.eval x] := ha
    obtain ⟨A, c, e1, hle, hmax, _⟩ := id htc
    simp only [List.cons.injEq, and_true] at e1
    obtain ⟨lz, hx, hl⟩ := bound_sound hx hl
    obtain ⟨hz, hx, hh⟩ := bound_sound hx hh
    obtain ⟨mz, hx, hm⟩ := bound_sound hx hm
    replace hx := test_exec hx; obtain ⟨ht, hx⟩ := hx
    simp only [Bool.and_eq_true, Bool.or_eq_true, beq_iff_eq] at ht
    obtain ⟨⟨hsz, hmeq'⟩, hcut⟩ := ht
    have hsz := Nat.eq_of_beq_eq_true hsz
    have hcut := of_decide_eq_true hcut
    have hmeq : mz = hz := by
      rcases hmeq' with h1 | h1
      · rcases hm with ⟨_, _, e⟩ | ⟨k, e2, _⟩
        · exact e
        · rw [e2] at h1; simp at h1
      · exact h1
    subst hmeq
    rcases hm with ⟨e2, hm, _⟩ | ⟨k, e2, hm⟩
    · have hb := run_bounds (P := P) (len := xs.length) (cap := c) (lo := lo.map a.eval) (hi := hi.map a.eval) (mx := mx.map a.eval) (l := lz) (h := mz) (m := (c : Int)) (hl.imp (fun h => ⟨h.2.1, h.2.2⟩) fun ⟨k, h1, h2⟩ => ⟨k, h2⟩)
        (hh.imp (fun h => ⟨h.2.1, h.2.2⟩) fun ⟨k, h1, h2⟩ => ⟨k, h2⟩) (.inl ⟨hm, rfl⟩) hcut.1 hcut.2.1 (by omega) (Int.le_refl _) w
      have hrun := run_sliceAt hu hj e1 hb ho
      refine ⟨_, σ, F, _, hx, hs, ?_, hrun⟩
      rw [← hsz, Int.toNat_natCast]
      exact TC_sub htc (subV_run e1 (by omega) (by omega))
    · have hne : hi.map a.eval ≠ none := by
        have : mx.isSome = true := by
          cases mx with
          | none => simp at hm
          | some _ => rfl
        have := hmh this
        cases hi with
        | none => simp at this
        | some _ => simp
      have hb := run_bounds (P := P) (len := xs.length) (cap := c) (lo := lo.map a.eval) (hi := hi.map a.eval) (mx := mx.map a.eval) (l := lz) (h := mz) (m := mz) (hl.imp (fun h => ⟨h.2.1, h.2.2⟩) fun ⟨k, h1, h2⟩ => ⟨k, h2⟩)
        (hh.imp (fun h => ⟨h.2.1, h.2.2⟩) fun ⟨k, h1, h2⟩ => ⟨k, h2⟩) (.inr ⟨k, hm, hne⟩) hcut.1 hcut.2.1 (Int.le_refl _) (by omega) w
      have hrun := run_sliceAt hu hj e1 hb ho
      refine ⟨_, σ, F, _, hx, hs, ?_, hrun⟩
      rw [← hsz]
      rw [e1] at htc
      exact TC_sub3 htc (by omega) (by omega)
  · rename_i n
    obtain ⟨hlv, hxv, _⟩ := ha
    simp only [M.exec] at hx
    split at hx
    · rename_i e' ty xs hob
      have hob' := hs.objs n
      rw [hob] at hob'
      obtain ⟨hes, ⟨cells, bss, hrow, hc, hbks⟩, _⟩ := hob'
      obtain ⟨A, c, e1⟩ := ownsRow_slice hrow
      have hcap : xs.length ≤ c := by
        rcases hrow.2 with ⟨e0, e2⟩ | ⟨g, cap, cur, e0, _, _, h3, _⟩
        · omega
        · rw [e0] at e1; simp only [Value.slice.injEq] at e1; omega
      have e2 := hxv.trans e1
      obtain ⟨lz, hx, hl⟩ := bound_sound hx hl
      obtain ⟨hz, hx, hh⟩ := bound_sound hx hh
      replace hx := test_exec hx; obtain ⟨ht, hx⟩ := hx
      simp only [Bool.and_eq_true] at ht
      have hsz := Nat.eq_of_beq_eq_true ht.1
      have hcut := of_decide_eq_true ht.2
      rcases hm with ⟨rfl, rfl⟩ | ⟨sv, y, rfl, rfl, hv⟩
      · have hb := run_bounds (P := P) (len := xs.length) (cap := c) (lo := lo.map a.eval) (hi := hi.map a.eval) (mx := none) (l := lz) (h := hz) (m := (c : Int)) (hl.imp (fun h => ⟨h.2.1, h.2.2⟩) fun ⟨k, h1, h2⟩ => ⟨k, h2⟩)
          (hh.imp (fun h => ⟨h.2.1, h.2.2⟩) fun ⟨k, h1, h2⟩ => ⟨k, h2⟩) (.inl ⟨rfl, rfl⟩) hcut.1 hcut.2.1 (by omega) (Int.le_refl _) w
        have hrun := run_sliceAt hu hj e2 hb ho
        refine ⟨_, σ, F, _, hx, hs, ⟨hlv, ?_⟩, hrun⟩
        rw [hes, ← hsz, Int.toNat_natCast]
        exact subV_run e1 (by omega) (by omega)
      · cases sv with
        | int k mz =>
          have ey : a.eval y = .int k mz := hv
          replace hx := test_exec hx; obtain ⟨hmeq, hx⟩ := hx
          simp only [beq_iff_eq] at hmeq
          subst hmeq
          simp only [M.exec] at hx
          have hne : hi.map a.eval ≠ none := by
            have := hmh rfl
            cases hi with
            | none => simp at this
            | some _ => simp
          have hb := run_bounds (P := P) (len := xs.length) (cap := c) (lo := lo.map a.eval) (hi := hi.map a.eval) (mx := (some y).map a.eval) (l := lz) (h := mz) (m := mz) (hl.imp (fun h => ⟨h.2.1, h.2.2⟩) fun ⟨k, h1, h2⟩ => ⟨k, h2⟩)
            (hh.imp (fun h => ⟨h.2.1, h.2.2⟩) fun ⟨k, h1, h2⟩ => ⟨k, h2⟩) (.inr ⟨k, by rw [Option.map_some, ey], hne⟩) hcut.1 hcut.2.1 (Int.le_refl _) (by omega) w
          have hrun := run_sliceAt hu hj e2 hb ho
          have hlive : σ.live n := by intro e; rw [hob] at e; cases e
          have hheld : (σ.ob n).held = true := by rw [hob]; rfl
          refine ⟨_, _, _, _, hx, hs.kill hlive true, ?_, hrun⟩
          rw [← hsz]
          have hro := ro_of_own ⟨cells, bss, hrow, hc, hbks⟩ (F1 := fun b => F b ∨ (true = true ∧ blk ρ n (σ.ob n) b)) (fun _ h => .inl h) (fun b hb => .inr ⟨rfl, hheld, hb⟩)
          rw [e1] at hro
          have := TC_sub3 hro (lo := lz.toNat) (hi := mz.toNat) (by omega) (by rw [roL_len]; omega)
          rw [ty.ro_sz] at this
          exact this
        | _ => simp [M.exec] at hx
    · simp [M.exec] at hx
  · rename_i n l0 h0
    obtain ⟨hlv, A, l1, c, A2, e1, h1, h2, e2, hA1, hA2⟩ := ha
    simp only [M.exec] at hx
    split at hx
    · rename_i e' ty xs hob
      have hob' := hs.objs n
      rw [hob] at hob'
      obtain ⟨hes, ⟨cells, bss, hrow, hc, hbks⟩, _⟩ := hob'
      obtain ⟨A', c', e3⟩ := ownsRow_slice hrow
      have hcap : xs.length ≤ c' := by
        rcases hrow.2 with ⟨e0, e2⟩ | ⟨g, cap, cur, e0, _, _, h3, _⟩
        · omega
        · rw [e0] at e3; simp only [Value.slice.injEq] at e3; omega
      rw [e3] at e1
      simp only [Value.slice.injEq] at e1
      obtain ⟨rfl, rfl, rfl⟩ := e1
      obtain ⟨lz, hx1, hl⟩ := bound_sound hx hl
      clear hx
      obtain ⟨hz, hx2, hh⟩ := bound_sound hx1 hh
      clear hx1
      replace hx2 := test_exec hx2; obtain ⟨ht, hx3⟩ := hx2
      simp only [Bool.and_eq_true] at ht
      obtain ⟨⟨⟨hsz, hmn⟩, hcut⟩, hle⟩ := ht
      have hsz := Nat.eq_of_beq_eq_true hsz
      have hcut := of_decide_eq_true hcut
      have hle := of_decide_eq_true hle
      rcases hm with ⟨rfl, rfl⟩ | ⟨sv, y, rfl, rfl, hv⟩
      · have hb := run_bounds (P := P) (len := h0 - l0) (cap := c' - l0) (lo := lo.map a.eval) (hi := hi.map a.eval) (mx := none) (l := lz) (h := hz) (m := ((c' - l0 : Nat) : Int)) (hl.imp (fun h => ⟨h.2.1, h.2.2⟩) fun ⟨k, h1, h2⟩ => ⟨k, h2⟩)
          (hh.imp (fun h => ⟨h.2.1, h.2.2⟩) fun ⟨k, h1, h2⟩ => ⟨k, h2⟩) (.inl ⟨rfl, rfl⟩) hcut.1 hcut.2.1 (by omega) (Int.le_refl _) w
        have hrun := run_sliceAt hu hj e2 hb ho
        refine ⟨_, σ, F, _, hx3, hs, ⟨hlv, ?_⟩, hrun⟩
        rw [Int.toNat_natCast]
        refine ⟨A', xs.length, c', _, e3, by omega, by omega, by rw [show l0 + hz.toNat - (l0 + lz.toNat) = hz.toNat - lz.toNat by omega, show c' - (l0 + lz.toNat) = c' - l0 - lz.toNat by omega], fun hne => ?_, fun h00 => ?_⟩
        · rw [if_neg (by omega), hA1 (by omega), Option.map_map, hes, ← hsz]
          congr 1
          funext ad
          simp only [Function.comp_apply, add_add, Nat.add_mul]
        · have q1 : l0 = 0 := by omega
          have q2 : lz.toNat = 0 := by omega
          rw [hA2 q1, q2]
          split
          · rfl
          · cases A' <;> simp [add_zero]
      · simp at hmn
    · simp [M.exec] at hx
  · have hx0 : a.eval x = .slice none 0 0 := ha
    obtain ⟨lz, hx1, hl⟩ := bound_sound hx hl
    clear hx
    obtain ⟨hz, hx2, hh⟩ := bound_sound hx1 hh
    clear hx1
    replace hx2 := test_exec hx2; obtain ⟨ht, hx3⟩ := hx2
    simp only [Bool.and_eq_true] at ht
    have hcut := of_decide_eq_true ht.2
    rcases hm with ⟨rfl, rfl⟩ | ⟨sv, y, rfl, rfl, hv⟩
    · have hb := run_bounds (P := P) (len := 0) (cap := 0) (lo := lo.map a.eval) (hi := hi.map a.eval) (mx := none) (l := lz) (h := hz) (m := 0) (hl.imp (fun h => ⟨h.2.1, h.2.2⟩) fun ⟨k, h1, h2⟩ => ⟨k, h2⟩)
        (hh.imp (fun h => ⟨h.2.1, h.2.2⟩) fun ⟨k, h1, h2⟩ => ⟨k, h2⟩) (.inl ⟨rfl, rfl⟩) hcut.1 hcut.2.1 (by omega) (Int.le_refl _) w
      have hrun := run_sliceAt hu hj hx0 hb ho
      refine ⟨_, σ, F, _, hx3, hs, rfl, ?_⟩
      rw [hrun]
      have h1 : lz.toNat = 0 := by omega
      have h2 : hz.toNat = 0 := by omega
      simp [h1, h2]
    · simp at ht
  · simp [M.exec] at hx
end
end Go.Gx

/-
  Gx, part E6: appends.
-/
set_option linter.unusedVariables false
set_option linter.unusedSimpArgs false
namespace Go.Gx
section
variable {P : Program} {cx : Ctx} {nt : Fr} {ρ : Rho} {F : Nat → Prop} {σ σ' : St} {a : Act} {w w' : World} {o : Oper} {K : Act → World → Prop} {Q : Exit → Act → World → Prop}
theorem all_one {lv : Nat → Prop} : ∀ {ls : List SV} {ds : List Value}, All2 (LR0 ρ F w lv) ls ds → ls.all SV.cell = true → ∀ u ∈ ds, u.oneCell' = true
  | [], ds, h, _, u, hu => by rw [h.nil_left] at hu; simp at hu
  | s :: ls, [], h, _, u, hu => by simp at hu
  | s :: ls, d :: ds, h, hc, u, hu => by
    simp only [List.all_cons, Bool.and_eq_true] at hc
    rcases List.mem_cons.1 hu with rfl | hu
    · exact (One_of_LR0 hc.1 h.1).1
    · exact all_one h.2 hc.2 u hu
/-- The cells of a slice that is read. -/
theorem cells_read {t : Ty} {ad : Addr} (hno : t.noOs = true) : ∀ (xs : List t.I) (k : Nat), (∀ (i : Nat) (x : t.I), xs[i]? = some x → ∃ ds, TC F w t x ds ∧ ∀ j u, ds[j]? = some u → w.cell? (ad.add ((k + i) * t.sz + j)) = some u) →
    ∃ news : List Value, news.length = xs.length * t.sz ∧ RowC F w t xs news ∧ (∀ u ∈ news, u.oneCell' = true) ∧ ∀ j u, news[j]? = some u → w.cell? (ad.add (k * t.sz + j)) = some u
  | [], k, _ => ⟨[], by simp, fun i x hi => by simp at hi, by simp, fun j u hj => by simp at hj⟩
  | x :: xs, k, h => by
    obtain ⟨ds, h1, h2⟩ := h 0 x (by simp)
    obtain ⟨news, h3, h4, h5, h6⟩ := cells_read hno xs (k + 1) (fun i y hi => by
      obtain ⟨d, e1, e2⟩ := h (i + 1) y (by simpa using hi)
      exact ⟨d, e1, fun j u hj => by rw [show k + 1 + i = k + (i + 1) by omega]; exact e2 j u hj⟩)
    have hl := TC_len h1
    refine ⟨ds ++ news, by rw [List.length_append, h3, hl, List.length_cons, Nat.succ_mul]; omega, fun i y hi => ?_, fun u hu => ?_, fun j u hj => ?_⟩
    · cases i with
      | zero =>
        simp only [List.getElem?_cons_zero, Option.some.injEq] at hi
        subst hi
        rw [Nat.zero_mul, List.drop_zero, List.take_append_of_le_length (by omega), List.take_of_length_le (by omega)]
        exact h1
      | succ i =>
        have := h4 i y (by simpa using hi)
        rw [List.drop_append, List.drop_of_length_le (by rw [hl, Nat.succ_mul]; omega), List.nil_append, hl, show (i + 1) * t.sz - t.sz = i * t.sz by rw [Nat.succ_mul]; omega]
        exact this
    · rcases List.mem_append.1 hu with hu | hu
      · have hal := TC_leaves (ρ := ⟨fun _ => undef, fun _ => 0, fun _ => 0, fun _ => [], fun _ => False⟩) (lv := fun _ => True) h1
        have hcl := leaves_cell x hno
        exact all_one hal hcl u hu
      · exact h5 u hu
    · by_cases hlt : j < ds.length
      · rw [List.getElem?_append_left hlt] at hj
        have := h2 j u hj
        rwa [Nat.add_zero] at this
      · rw [List.getElem?_append_right (by omega)] at hj
        have := h6 _ u hj
        rw [show k * t.sz + j = (k + 1) * t.sz + (j - ds.length) by rw [Nat.succ_mul, hl]; omega]
        exact this
theorem DRow_append {t : Ty} : ∀ {xs ys : List t.I} {c1 c2 : List Value} {b1 b2 : List (List Nat)}, DRow F w t xs c1 b1 → c1.length = xs.length * t.sz → DRow F w t ys c2 b2 → DRow F w t (xs ++ ys) (c1 ++ c2) (b1 ++ b2)
  | [], ys, c1, c2, b1, b2, h1, hl, h2 => by
    have e1 : b1 = [] := h1
    have e2 : c1 = [] := List.eq_nil_of_length_eq_zero (by simpa using hl)
    subst e1 e2
    simpa using h2
  | x :: xs, ys, c1, c2, b1, b2, h1, hl, h2 => by
    obtain ⟨b, bs', rfl, h3, h4⟩ := h1
    have hl2 : t.sz ≤ c1.length := by rw [hl, List.length_cons, Nat.succ_mul]; omega
    refine ⟨b, bs' ++ b2, rfl, ?_, ?_⟩
    · rw [List.take_append_of_le_length hl2]; exact h3
    · rw [List.drop_append_of_le_length hl2]
      exact DRow_append h4 (by rw [List.length_drop, hl, List.length_cons, Nat.succ_mul]; omega) h2
theorem DC_one : ∀ {t : Ty} {x : t.I} {cs : List Value} {bs : List Nat}, DC F w t x cs bs → ∀ u ∈ cs, u.oneCell' = true := by
  intro t
  have leaf : ∀ {t : Ty} {x : t.I} {cs : List Value}, t.noOs = true → TC F w t x cs → ∀ u ∈ cs, u.oneCell' = true := by
    intro t x cs hno h
    exact all_one (TC_leaves (ρ := ⟨fun _ => undef, fun _ => 0, fun _ => 0, fun _ => [], fun _ => False⟩) (lv := fun _ => True) h) (leaves_cell x hno)
  induction t with
  | os e t _ =>
    intro x cs bs h u hu
    obtain ⟨v, cells, rfl, h1, _⟩ := h
    obtain ⟨A, c, e⟩ := ownsRow_slice h1
    simp only [List.mem_singleton] at hu
    subst hu
    rw [e]; rfl
  | oso e t _ =>
    intro x cs bs h u hu
    obtain ⟨v, cells, rfl, h1, _⟩ := h
    obtain ⟨A, c, e⟩ := ownsRow_slice h1
    simp only [List.mem_singleton] at hu
    subst hu
    rw [e]; rfl
  | pair a b iha ihb =>
    intro x cs bs h u hu
    obtain ⟨c1, c2, b1, b2, rfl, rfl, h1, h2⟩ := h
    rcases List.mem_append.1 hu with hu | hu
    · exact iha h1 u hu
    · exact ihb h2 u hu
  | int k => intro x cs bs h; exact leaf rfl h.1
  | bool => intro x cs bs h; exact leaf rfl h.1
  | str => intro x cs bs h; exact leaf rfl h.1
  | sl t _ => intro x cs bs h; exact leaf rfl h.1
  | slo t _ => intro x cs bs h; exact leaf rfl h.1
theorem DRow_one {t : Ty} : ∀ {xs : List t.I} {cells : List Value} {bss : List (List Nat)}, DRow F w t xs cells bss → cells.length = xs.length * t.sz → ∀ u ∈ cells, u.oneCell' = true
  | [], cells, _, _, hl, u, hu => by
    have : cells = [] := List.eq_nil_of_length_eq_zero (by simpa using hl)
    rw [this] at hu; simp at hu
  | x :: xs, cells, _, h, hl, u, hu => by
    obtain ⟨b, bs', rfl, h3, h4⟩ := h
    have hc : cells = cells.take t.sz ++ cells.drop t.sz := (List.take_append_drop _ _).symm
    rw [hc] at hu
    rcases List.mem_append.1 hu with hu | hu
    · exact DC_one h3 u hu
    · exact DRow_one h4 (by rw [List.length_drop, hl, List.length_cons, Nat.succ_mul]; omega) u hu
/-- What is appended: its cells, and the blocks that go along. -/
structure Src (F : Nat → Prop) (w : World) (t : Ty) (ys : List t.I) (v : Value) (bss : List (List Nat)) : Prop where
  is : ∃ A m c, v = .slice A m c ∧ m = ys.length ∧ ((A = none ∧ m = 0 ∧ bss = []) ∨ ∃ ad, A = some ad ∧ ∃ news : List Value, news.length = m * t.sz ∧ DRow F w t ys news bss ∧ (∀ u ∈ news, u.oneCell' = true) ∧ ∀ j u, news[j]? = some u → w.cell? (ad.add j) = some u)
theorem Src.of_TC {t : Ty} (hno : t.noOs = true) {ys : List t.I} {v : Value} (h : TC F w (.sl t) ys [v]) : ∃ bss, Src F w t ys v bss ∧ bss.flatten = [] := by
  obtain ⟨A, c, e, _, _, hx⟩ := h
  simp only [List.cons.injEq, and_true] at e
  cases A with
  | none =>
    refine ⟨[], ⟨none, _, c, e, rfl, .inl ⟨rfl, ?_, rfl⟩⟩, rfl⟩
    cases ys with
    | nil => rfl
    | cons y ys => obtain ⟨ad, ds, h, _⟩ := hx 0 y (by simp); cases h
  | some ad =>
    obtain ⟨news, h1, h2, h3, h4⟩ := cells_read (F := F) (w := w) (ad := ad) hno ys 0 (fun i x hi => by
      obtain ⟨ad', ds, e, _, htc, hc⟩ := hx i x hi
      cases e
      exact ⟨ds, htc, fun j u hj => by rw [Nat.zero_add]; exact hc j u hj⟩)
    exact ⟨_, ⟨_, _, c, e, rfl, .inr ⟨ad, rfl, news, h1, DRow_of_RowC hno h2, h3, fun j u hj => by have := h4 j u hj; rwa [Nat.zero_mul, Nat.zero_add] at this⟩⟩, flatten_nils _⟩
/-- The cells of an owned row. -/
theorem Src.of_own {e : TypeId} {t : Ty} {ys : List t.I} {v : Value} {bs : List Nat} (h : OwnR F w e t ys v bs) : ∃ bss, Src F w t ys v bss ∧ bs = v.ownBlock.toList ++ bss.flatten := by
  obtain ⟨cells, bss, h1, h2, h3⟩ := h
  rcases h1.2 with ⟨e0, e1⟩ | ⟨g, cap, cur, e0, _⟩
  · have : ys = [] := List.eq_nil_of_length_eq_zero e1
    subst this
    have hb : bss = [] := h2
    exact ⟨[], ⟨none, 0, 0, e0, e1.symm, .inl ⟨rfl, rfl, rfl⟩⟩, by rw [h3, hb]⟩
  · have hcells := h1.cells (g := g) (by rw [e0]; simp [Value.ownBlock])
    exact ⟨bss, ⟨_, _, cap, e0, rfl, .inr ⟨_, rfl, cells, h1.1, h2, DRow_one h2 h1.1, hcells⟩⟩, h3⟩
theorem src_sound {n : Nat} {sx : SV} {t : Ty} {v : Value} {kk : List t.I → MU} {r : Unit × St} (h : (srcM n sx t kk).exec σ = some r) (hs : Sim cx nt ρ F σ a w) (hv : VR ρ F w (σ.lv ρ) sx v) :
    ∃ ys σ1 bs bss, (kk ys).exec σ1 = some r ∧ Sim cx nt ρ F σ1 a w ∧ Tk ρ F F σ σ1 bs ∧ σ1.ob n = σ.ob n ∧ Src F w t ys v bss ∧ bss.flatten.Nodup ∧ ∀ b ∈ bss.flatten, b ∈ bs := by
  have plain : ∀ {ys : List t.I} {bss : List (List Nat)}, (kk ys).exec σ = some r → Src F w t ys v bss → bss.flatten = [] → ∃ ys σ1 bs bss, (kk ys).exec σ1 = some r ∧ Sim cx nt ρ F σ1 a w ∧ Tk ρ F F σ σ1 bs ∧ σ1.ob n = σ.ob n ∧ Src F w t ys v bss ∧ bss.flatten.Nodup ∧ ∀ b ∈ bss.flatten, b ∈ bs := by
    intro ys bss h1 h2 h3
    exact ⟨ys, σ, [], bss, h1, hs, Tk.refl _ _ _, rfl, h2, by rw [h3]; simp, by rw [h3]; simp⟩
  unfold srcM at h
  cases hno : t.noOs with
  | false =>
    rw [hno] at h
    simp only [Bool.not_false, cond_true] at h
    split at h
    · have e : v = .slice none 0 0 := hv
      exact plain h ⟨none, 0, 0, e, rfl, .inl ⟨rfl, rfl, rfl⟩⟩ rfl
    · rename_i m
      obtain ⟨_, e, _⟩ := hv
      replace h := test_exec h; obtain ⟨hne, h⟩ := h
      simp only [M.exec] at h
      split at h
      · rename_i e1 t' ys hob
        obtain ⟨e2, h⟩ := castL_exec h
        subst e2
        simp only [M.exec] at h
        have hl : σ.live m := by intro e; rw [hob] at e; cases e
        have hh : (σ.ob m).held = true := by rw [hob]; rfl
        have hor := hs.objs m
        rw [hob] at hor
        obtain ⟨bss, q1, q2⟩ := Src.of_own hor.2.1
        have hnm : n ≠ m := by intro e; subst e; simp at hne
        have hnd := hor.2.2
        rw [q2, List.nodup_append] at hnd
        exact ⟨ys, _, _, bss, h, hs.kill0 hl, Tk.kill0 hs hl hh, by rw [setO_ob, if_neg hnm], by rw [e]; exact q1, hnd.2.1, fun b hb => by rw [q2]; exact List.mem_append_right _ hb⟩
      · simp [M.exec] at h
    · simp [M.exec] at h
  | true =>
  rw [hno] at h
  simp only [Bool.not_true, cond_false] at h
  split at h
  · have e : v = .slice none 0 0 := hv
    exact plain h ⟨none, 0, 0, e, rfl, .inl ⟨rfl, rfl, rfl⟩⟩ rfl
  · obtain ⟨e, h⟩ := castL_exec h
    subst e
    obtain ⟨bss, q1, q2⟩ := Src.of_TC hno hv
    exact plain h q1 q2
  · obtain ⟨e, h⟩ := castL_exec h
    subst e
    obtain ⟨bss, q1, q2⟩ := Src.of_TC hno hv.1
    exact plain h q1 q2
  · rename_i m
    obtain ⟨hl, e, _⟩ := hv
    replace h := test_exec h; obtain ⟨_, h⟩ := h
    simp only [M.exec] at h
    split at h
    · rename_i e1 t' ys hob
      obtain ⟨e2, h⟩ := castL_exec h
      subst e2
      have hor := hs.objs m
      rw [hob] at hor
      obtain ⟨bss, q1, q2⟩ := Src.of_own hor.2.1
      obtain ⟨cells, bss', k1, k2, k3⟩ := hor.2.1
      obtain ⟨A, mm, c, w1, w2, w3⟩ := q1.is
      have hz : bss.flatten = [] := by
        rcases w3 with ⟨_, _, rfl⟩ | ⟨ad, _, news, _, hd, _⟩
        · rfl
        · exact (RowC_of_DRow hno hd).2
      exact plain h (by rw [e]; exact q1) hz
    · simp [M.exec] at h
  · rename_i m lo hi
    obtain ⟨hl, hsub⟩ := hv
    replace h := test_exec h; obtain ⟨_, h⟩ := h
    simp only [M.exec] at h
    split at h
    · rename_i e1 t' ys hob
      replace h := test_exec h; obtain ⟨hle, h⟩ := h
      have hle := of_decide_eq_true hle
      obtain ⟨e2, h⟩ := castL_exec h
      subst e2
      have hob' := hs.objs m
      rw [hob] at hob'
      obtain ⟨hes, hown, _⟩ := hob'
      obtain ⟨⟨cells, hrow, hc⟩, _⟩ := (own_noOs hno).1 hown
      rw [hes] at hsub
      obtain ⟨A, l, c, A2, e1, h1, h2, e2, hA1, hA2⟩ := hsub
      have hlen : ((ys.take hi).drop lo).length = hi - lo := sub_len hle.2
      rcases hrow.2 with ⟨e0, e3⟩ | ⟨g, cap, cur, e0, _, _, hcap, _⟩
      · rw [e1] at e0
        simp only [Value.slice.injEq] at e0
        obtain ⟨rfl, rfl, rfl⟩ := e0
        exact plain h ⟨A2, hi - lo, _, e2, hlen.symm, .inl ⟨by rw [hA2 (by omega)], by omega, rfl⟩⟩ rfl
      · have e0' := e0
        rw [e1] at e0
        simp only [Value.slice.injEq] at e0
        obtain ⟨rfl, rfl, rfl⟩ := e0
        have hcells := hrow.cells (g := g) (by rw [e0']; simp [Value.ownBlock])
        by_cases hne : c = lo
        · have h00 : hi - lo = 0 := by omega
          have h0 : (ys.take hi).drop lo = [] := List.eq_nil_of_length_eq_zero (by rw [hlen]; omega)
          by_cases hlo : lo = 0
          · exact plain h ⟨A2, hi - lo, _, e2, hlen.symm, .inr ⟨_, hA2 hlo, [], by rw [h00]; simp, by rw [h0]; exact rfl, by simp, fun j u hj => by simp at hj⟩⟩ rfl
          · cases A2 with
            | none => exact plain h ⟨none, hi - lo, _, e2, hlen.symm, .inl ⟨rfl, by omega, rfl⟩⟩ rfl
            | some ad => exact plain h ⟨some ad, hi - lo, _, e2, hlen.symm, .inr ⟨ad, rfl, [], by rw [h00]; simp, by rw [h0]; exact rfl, by simp, fun j u hj => by simp at hj⟩⟩ rfl
        · obtain ⟨news, k1, k2, k3, k4⟩ := cells_read (F := F) (w := w) (ad := (⟨g, 0, none⟩ : Addr).add (lo * t'.sz)) hno ((ys.take hi).drop lo) 0 (fun i x hi => by
            obtain ⟨q1, q2⟩ := sub_get hi
            refine ⟨_, hc _ x q1, fun j u hj => ?_⟩
            rw [add_add, show lo * t'.sz + ((0 + i) * t'.sz + j) = (lo + i) * t'.sz + j by rw [Nat.zero_add, Nat.add_mul]; omega]
            exact hcells _ u (chunk_get hj))
          exact plain h ⟨A2, hi - lo, _, e2, hlen.symm, .inr ⟨_, by rw [hA1 hne]; rfl, news, by rw [k1, hlen], DRow_of_RowC hno k2, k3, fun j u hj => by have := k4 j u hj; rwa [Nat.zero_mul, Nat.zero_add] at this⟩⟩ (flatten_nils _)
    · simp [M.exec] at h
  · simp [M.exec] at h
theorem run_append_none' {t ty e : TypeId} {j : TI} {v : Value} {n c sz : Nat} {cells : List Value} (hu : P.underlying t = some (.slice e)) (hj : tinfo P e = some j) (hown : ownsX w e sz v n cells) : (Builtin.append_ #[t, t] ty #[v, .slice none 0 c]).run P w = .ok v w := by
  have hsz := run_sizeOf hj
  rcases hown.2 with ⟨rfl, rfl⟩ | ⟨g, cap, cur, rfl, _, _, hnc, _⟩
  · simp [Builtin.append_, run_underlying hu, hsz, Builtin.lenOf, Builtin.firstCells]
  · simp [Builtin.append_, run_underlying hu, hsz, Builtin.lenOf, Builtin.firstCells, hnc, storeCells]
theorem append_x (t ty e : TypeId) (i : TypeInfo) (z : Value) (size bytes : Nat) (ht : P.underlying t = some (.slice e)) (hi : P.info? e = some i) (hz : i.zero = some z)
    (hsize : i.size = size) (hby : i.bytes = bytes) (hzs : z.cells.size = size) (hsz : 0 < size)
    (v : Value) (n : Nat) (xs : List Value) (hown : ownsX w e size v n xs)
    (a : Addr) (m c : Nat) (news : List Value) (hl : news.length = m * size) (hnews : ∀ j u, news[j]? = some u → w.cell? (a.add j) = some u) (h1 : ∀ u ∈ news, u.oneCell' = true)
    (h63 : n + m ≤ maxLen) (hbytes : (n + m) * bytes ≤ 140737488355328) :
    ∃ v' w', (Builtin.append_ #[t, t] ty #[v, .slice (some a) m c]).run P w = .ok v' w' ∧ ownsX w' e size v' (n + m) (xs ++ news) ∧ w.grownBy w' v.ownBlock ∧ (v'.ownBlock = v.ownBlock ∨ v'.ownBlock = some w.heap.size) := by
  subst hsize hby
  have hlen : (xs ++ news).length = (n + m) * i.size := by rw [List.length_append, hown.1, hl, Nat.add_mul]
  rcases hown.2 with ⟨rfl, rfl⟩ | ⟨g, cap, cur, rfl, hb0, hg, hnc, hcm, hcs, htake⟩
  · obtain ⟨v', w', k1, k2, k3, _, k4⟩ := run_append_own_at (P := P) w 0 t ty e i z i.size i.bytes ht hi hz rfl rfl hzs hsz (.slice none 0 0) 0 xs ⟨hown.1, .inl ⟨rfl, rfl⟩⟩ a m c news hl hnews h1 h63 hbytes (Nat.zero_le _)
    exact ⟨v', w', k1, .of k2, k3, k4⟩
  · by_cases hroom : n + m ≤ cap
    · have hmul : (n + m) * i.size ≤ cap * i.size := Nat.mul_le_mul_right _ hroom
      have hmul2 := Nat.add_mul n m i.size
      have hr := run_append_room (P := P) w t ty e i ht hi g n cap cur hg a m c news hl hnews h1 hroom (by omega)
      refine ⟨_, _, hr, ⟨hlen, .inr ⟨g, cap, _, rfl, hb0, setRow_heap w g cur _ e _ hg, hroom, hcm, ?_, ?_⟩⟩, ⟨rfl, rfl, rfl, by simp, fun k _ hk => setRow_other w g k _ fun e' => hk (by rw [e']; rfl)⟩, .inl rfl⟩
      · simp only [List.size_toArray, List.length_append, List.length_take, List.length_drop, Array.length_toList]
        omega
      · rw [htake, ← hlen]
        exact List.take_left
    · have hr := run_append_grow (P := P) w t ty e i z ht hi hz ⟨g, 0, none⟩ n cap xs hown.1 (hown.cells (g := g) rfl) a m c news hl hnews (by omega) (by simp only [maxLen] at h63; omega) (growslice_fits (by omega) hbytes)
      have hge := grownCap_ge w (n + m) cap e
      have hxl := hown.1
      refine ⟨_, _, hr, ⟨hlen, .inr ⟨w.heap.size, _, _, rfl, Nat.zero_le _, heap_alloc_new w.drew _, hge, grownCap_le_maxLen w (n + m) cap e h63, ?_, ?_⟩⟩, ⟨rfl, rfl, rfl, by simp, fun k hk _ => heap_alloc_old w.drew _ k hk⟩, .inr rfl⟩
      · simp only [Array.size_append, List.size_toArray, size_zeroCells, hzs, hxl, hl, ← Nat.add_mul]
        exact Nat.mul_le_mul_right _ (by omega)
      · simp only [Array.toList_append, List.append_assoc]
        rw [← List.append_assoc, ← hlen]
        exact List.take_left
/-- The call of append on an owned row. -/
theorem append_run {t ty e : TypeId} {i j : TI} {T : Ty} {xs ys : List T.I} {v x : Value} {cells : List Value} {bss bs2 : List (List Nat)} (hu : P.underlying t = some (.slice e)) (hj : tinfo P e = some j) (hz : j.hasZ = true) (hby : j.bytes ≤ 64) (hsz : T.sz = j.size) (hzc : j.zero.cells.size = j.size)
    (hroom : room xs.length ys.length = true) (hown : ownsX w e T.sz v xs.length cells) (hc : DRow F w T xs cells bss) (hsrc : Src F w T ys x bs2) (hF : ∀ b, v.ownBlock = some b → ¬ F b) (hFb : ∀ b, F b → b < w.heap.size)
    (hdis : ∀ b ∈ bss.flatten ++ bs2.flatten, b < w.heap.size ∧ v.ownBlock ≠ some b) :
    ∃ v' w' cells', (Builtin.append_ #[t, t] ty #[v, x]).run P w = .ok v' w' ∧ ownsX w' e T.sz v' (xs ++ ys).length cells' ∧ DRow F w' T (xs ++ ys) cells' (bss ++ bs2) ∧ w.grownBy w' v.ownBlock ∧ (v'.ownBlock = v.ownBlock ∨ v'.ownBlock = some w.heap.size) := by
  obtain ⟨inf, hj1, hj2, hj3, hj4⟩ := zero_spec hj hz
  obtain ⟨A, m, c, rfl, rfl, hs⟩ := hsrc.is
  have hroom : xs.length + ys.length ≤ lim := of_decide_eq_true hroom
  have hlim : lim = 549755813888 := rfl
  rcases hs with ⟨rfl, h0, rfl⟩ | ⟨ad, rfl, news, hn1, hn2, hn3, hn4⟩
  · have : ys = [] := List.eq_nil_of_length_eq_zero h0
    subst this
    rw [h0]
    exact ⟨v, w, cells, run_append_none' hu hj hown, by simpa using hown, by simpa using hc, ⟨rfl, rfl, rfl, Nat.le_refl _, fun _ _ _ => rfl⟩, .inl rfl⟩
  · obtain ⟨v', w', h1, h2, h3, h4⟩ := append_x (P := P) (w := w) t ty e inf j.zero T.sz j.bytes hu hj1 hj4 (by rw [hj2, hsz]) hj3 (by rw [hzc, hsz]) T.sz_pos v xs.length cells hown ad ys.length c news hn1 hn4 hn3 (by simp only [maxLen]; omega)
      (by
        have : (xs.length + ys.length) * j.bytes ≤ 549755813888 * 64 := Nat.mul_le_mul (by omega) hby
        omega)
    refine ⟨v', w', _, h1, by rw [List.length_append]; exact h2, ?_, h3, h4⟩
    exact DRow_mono (fun _ h => h) (fun b hb => h3.block b (hFb b hb) (fun e => hF b e.symm hb)) (fun b hb => by
      obtain ⟨q1, q2⟩ := hdis b (by rwa [List.flatten_append] at hb)
      exact h3.block b q1 fun e => q2 e.symm) (DRow_append hc hown.1 hn2)
theorem append_sound {t e : TypeId} {i j : TI} {as : Array Operand} {ts : Array TypeId} {s x : Operand} {sa sb : SV} {ty : Option Ty} {id : Nat} {kk : SV → MU} {r : Unit × St} (hid : liveId ≤ id) (hi : tinfo P t = some i) (he : i.elem = some e) (hj : tinfo P e = some j) (hz : j.hasZ = true) (hby : j.bytes ≤ 64) (hzc : j.zero.cells.size = j.size)
    (hts : ts.toList = [t, t]) (has : as.toList = [s, x]) (h : (appendM e j.size ty sa sb id kk).exec σ = some r) (hs : Sim cx nt ρ F σ a w) (ha : VR ρ F w (σ.lv ρ) sa (a.eval s)) (hb : VR ρ F w (σ.lv ρ) sb (a.eval x))
    (ho : o.op = .call { callee := .builtin .append, args := as, argTypes := ts }) :
    ∃ σ1 ρ1 v w', (kk (.own id)).exec σ1 = some r ∧ Sim cx nt ρ1 F σ1 a w' ∧ VR ρ1 F w' (σ1.lv ρ1) (.own id) v ∧ (execOp a.eval o).run P w = .ok (.value v) w' := by
  have hu := elem_spec hi he
  have has' : as = #[s, x] := by rw [← has]
  have hts' : ts = #[t, t] := by rw [← hts]
  subst has' hts'
  have hrun : ∀ {v' w'}, (Builtin.append_ #[t, t] o.type #[a.eval s, a.eval x]).run P w = .ok v' w' → (execOp a.eval o).run P w = .ok (.value v') w' := by
    intro v' w' hr
    simp [execOp, ho, resolve, invoke, builtin, hr]
  have hFb : ∀ b, F b → b < w.heap.size := fun b hb => (hs.Fb b hb).1
  have pr_of : ∀ {v : Value} {w' : World}, w.grownBy w' v.ownBlock → Pr (fun b => v.ownBlock = some b) w w' := fun h => Pr.of_grown h
  -- over a row that is given up, or nil: 'bk' its blocks
  have main : ∀ {σ2 : St} {T : Ty} {xs ys : List T.I} {cells : List Value} {bss bs2 : List (List Nat)} {bs0 : List Nat}, Sim cx nt ρ F σ2 a w → Tk ρ F F σ σ2 bs0 → ownsX w e T.sz (a.eval s) xs.length cells → DRow F w T xs cells bss → Src F w T ys (a.eval x) bs2 → T.sz = j.size → room xs.length ys.length = true →
      (∀ b ∈ (a.eval s).ownBlock.toList ++ (bss.flatten ++ bs2.flatten), b ∈ bs0) → ((a.eval s).ownBlock.toList ++ (bss.flatten ++ bs2.flatten)).Nodup →
      (newO id (.row e T (xs ++ ys)) (kk (.own id))).exec σ2 = some r →
      ∃ σ1 ρ1 v w', (kk (.own id)).exec σ1 = some r ∧ Sim cx nt ρ1 F σ1 a w' ∧ VR ρ1 F w' (σ1.lv ρ1) (.own id) v ∧ (execOp a.eval o).run P w = .ok (.value v) w' := by
    intro σ2 T xs ys cells bss bs2 bs0 hs2 htk hown hc hsrc hsz hroom hsub hnd h
    obtain ⟨h1, h2⟩ := newO_exec h
    have hfree := htk.free hs
    have hlt : ∀ b ∈ bs0, b < w.heap.size := fun b hb => by
      obtain ⟨_, n, hn, _⟩ := htk.hb b hb
      exact blk_lt (hs.objs n) hn
    have hnd' := List.nodup_append.1 hnd
    obtain ⟨v', w', cells', k1, k2, k3, k4, k5⟩ := append_run (P := P) (F := F) (w := w) (ty := o.type) (i := i) hu hj hz hby hsz hzc hroom hown hc hsrc
      (fun b hb => (hfree b (hsub b (by simp [hb]))).2.1) hFb (fun b hb => ⟨hlt b (hsub b (List.mem_append_right _ hb)), fun e => hnd'.2.2 b (by simp [e]) b hb rfl⟩)
    obtain ⟨ρ1, h3, h4⟩ := hs2.growRow (bs0 := bs0) (w' := w') hid h1 (pr_of k4) (fun b hb => hsub b (by simp [hb])) ⟨cells', _, k2, k3, rfl⟩ (by
        rw [List.flatten_append]
        rcases k5 with k5 | k5
        · rw [k5]; exact hnd
        · rw [k5, Option.toList_some, List.singleton_append, List.nodup_cons]
          exact ⟨fun hm => by have := hlt _ (hsub _ (List.mem_append_right _ hm)); omega, hnd'.2.1⟩) (fun b hb => by
        rw [List.flatten_append] at hb
        rcases List.mem_append.1 hb with hb | hb
        · rcases k5 with k5 | k5
          · rw [k5] at hb; exact .inr (hsub b (List.mem_append_left _ hb))
          · rw [k5] at hb; simp at hb; exact .inl (by omega)
        · exact .inr (hsub b (List.mem_append_right _ hb))) hfree
    exact ⟨_, ρ1, v', w', h2, h3, h4, hrun k1⟩
  unfold appendM at h
  split at h
  · split at h
    · rename_i T
      obtain ⟨ys, σ1, bs, bs2, h, hs1, htk, _, hsrc, hn2, hsub⟩ := src_sound h hs hb
      replace h := test_exec h; obtain ⟨ht, h⟩ := h
      simp only [Bool.and_eq_true] at ht
      have ha0 : a.eval s = .slice none 0 0 := ha
      exact main (xs := []) (cells := []) (bss := []) hs1 htk (by rw [ha0]; exact ⟨by simp, .inl ⟨rfl, rfl⟩⟩) rfl hsrc (Nat.eq_of_beq_eq_true ht.1) ht.2 (by rw [ha0]; simpa [Value.ownBlock] using hsub) (by rw [ha0]; simpa [Value.ownBlock] using hn2) h
    · simp [M.exec] at h
  · rename_i b
    split at h
    · rename_i T
      replace h := test_exec h; obtain ⟨hb1, h⟩ := h
      obtain ⟨ys, σ1, bs, bs2, h, hs1, htk, _, hsrc, hn2, hsub⟩ := src_sound h hs hb
      replace h := test_exec h; obtain ⟨ht, h⟩ := h
      simp only [Bool.and_eq_true] at ht
      have ha0 : a.eval s = .slice none 0 0 := ha.2 hb1
      exact main (xs := []) (cells := []) (bss := []) hs1 htk (by rw [ha0]; exact ⟨by simp, .inl ⟨rfl, rfl⟩⟩) rfl hsrc (Nat.eq_of_beq_eq_true ht.1) ht.2 (by rw [ha0]; simpa [Value.ownBlock] using hsub) (by rw [ha0]; simpa [Value.ownBlock] using hn2) h
    · simp [M.exec] at h
  · rename_i n
    obtain ⟨hl, ha, _⟩ := ha
    simp only [M.exec] at h
    split at h
    · rename_i e1 T xs hob
      replace h := test_exec h; obtain ⟨he1, h⟩ := h
      have he1 := Nat.eq_of_beq_eq_true he1
      subst he1
      obtain ⟨ys, σ1, bs, bs2, h, hs1, htk, hobn, hsrc, hn2, hsub⟩ := src_sound h hs hb
      simp only [M.exec] at h
      replace h := test_exec h; obtain ⟨ht, h⟩ := h
      simp only [Bool.and_eq_true] at ht
      have hob1 : σ1.ob n = .row e1 T xs := by rw [hobn, hob]
      have hl1 : σ1.live n := by intro e; rw [hob1] at e; cases e
      have hh1 : (σ1.ob n).held = true := by rw [hob1]; rfl
      have hob' := hs.objs n
      rw [hob] at hob'
      obtain ⟨hes, ⟨cells, bss, hrow, hc, hbk⟩, hnd⟩ := hob'
      have htk2 := Tk.trans hs htk (Tk.kill0 hs1 hl1 hh1)
      have hall := htk2.nd
      rw [List.nodup_append] at hall
      refine main (hs1.kill0 hl1) htk2 (by rw [ha]; exact hrow) hc hsrc (Nat.eq_of_beq_eq_true ht.1) ht.2 (fun b hb => ?_) ?_ h
      · rw [ha, ← List.append_assoc, ← hbk] at hb
        rcases List.mem_append.1 hb with hb | hb
        · exact List.mem_append_right _ hb
        · exact List.mem_append_left _ (hsub b hb)
      · rw [ha, ← List.append_assoc, ← hbk, List.nodup_append]
        exact ⟨hnd, hn2, fun b hb b' hb' e => hall.2.2 b' (hsub b' hb') b hb e.symm⟩
    · simp [M.exec] at h
  · rename_i n hi'
    obtain ⟨hl, hsub0⟩ := ha
    simp only [M.exec] at h
    split at h
    · rename_i e1 T xs hob
      replace h := test_exec h; obtain ⟨he1, h⟩ := h
      simp only [Bool.and_eq_true] at he1
      have hle := of_decide_eq_true he1.2
      have hno := he1.1.2
      have he1 := Nat.eq_of_beq_eq_true he1.1.1
      subst he1
      obtain ⟨ys, σ1, bs, bs2, h, hs1, htk, hobn, hsrc, hn2, hsub⟩ := src_sound h hs hb
      simp only [M.exec] at h
      replace h := test_exec h; obtain ⟨ht, h⟩ := h
      simp only [Bool.and_eq_true] at ht
      have hob1 : σ1.ob n = .row e1 T xs := by rw [hobn, hob]
      have hl1 : σ1.live n := by intro e; rw [hob1] at e; cases e
      have hh1 : (σ1.ob n).held = true := by rw [hob1]; rfl
      have hob' := hs.objs n
      rw [hob] at hob'
      obtain ⟨hes, hown, hnd⟩ := hob'
      obtain ⟨⟨cells, hrow, hc⟩, hbk⟩ := (own_noOs hno).1 hown
      rw [hes] at hsub0
      obtain ⟨ht1, ht2⟩ := own_take hrow hsub0
      have hlen : (xs.take hi').length = hi' := by rw [List.length_take]; omega
      have htk2 := Tk.trans hs htk (Tk.kill0 hs1 hl1 hh1)
      have hall := htk2.nd
      rw [List.nodup_append] at hall
      have hz := flatten_nils (β := Nat) (xs.take hi')
      refine main (hs1.kill0 hl1) htk2 (by rw [hlen]; exact ht1) (DRow_of_RowC hno (RowC_take hc hi')) hsrc (Nat.eq_of_beq_eq_true ht.1) ht.2 (fun b hb => ?_) ?_ h
      · rw [ht2, hz, List.nil_append, ← hbk] at hb
        rcases List.mem_append.1 hb with hb | hb
        · exact List.mem_append_right _ hb
        · exact List.mem_append_left _ (hsub b hb)
      · rw [ht2, hz, List.nil_append, ← hbk, List.nodup_append]
        exact ⟨hnd, hn2, fun b hb b' hb' e => hall.2.2 b' (hsub b' hb') b hb e.symm⟩
    · simp [M.exec] at h
  · simp [M.exec] at h
theorem clip_sound {t e : TypeId} {i j : TI} {x : Operand} {lo hi mx : Option Operand} {sa : SV} {l h m : Option SV} {id : Nat} {kk : SV → MU} {r : Unit × St} (hid : liveId ≤ id) (hi' : tinfo P t = some i) (he : i.elem = some e) (hj : tinfo P e = some j)
    (hx : (clipM j.size sa l h m id kk).exec σ = some r) (hs : Sim cx nt ρ F σ a w) (ha : VR ρ F w (σ.lv ρ) sa (a.eval x))
    (hl : (l = none ∧ lo = none) ∨ ∃ sv y, l = some sv ∧ lo = some y ∧ VR ρ F w (σ.lv ρ) sv (a.eval y)) (hh : (h = none ∧ hi = none) ∨ ∃ sv y, h = some sv ∧ hi = some y ∧ VR ρ F w (σ.lv ρ) sv (a.eval y))
    (hm : (m = none ∧ mx = none) ∨ ∃ sv y, m = some sv ∧ mx = some y ∧ VR ρ F w (σ.lv ρ) sv (a.eval y)) (ho : o.op = .slice t x lo hi mx) :
    ∃ sv σ1 ρ1 F1 v, (kk sv).exec σ1 = some r ∧ Sim cx nt ρ1 F1 σ1 a w ∧ VR ρ1 F1 w (σ1.lv ρ1) sv v ∧ (execOp a.eval o).run P w = .ok (.value v) w := by
  have hu := elem_spec hi' he
  unfold clipM at hx
  split at hx
  · rename_i n k1 hz k2 mz
    obtain ⟨hlv, hxv, _⟩ := ha
    simp only [M.exec] at hx
    split at hx
    · rename_i e' ty xs hob
      have hob' := hs.objs n
      rw [hob] at hob'
      obtain ⟨hes, ⟨cells, bss, hrow, hc, hbks⟩, hnd⟩ := hob'
      obtain ⟨A, c, e1⟩ := ownsRow_slice hrow
      have e2 := hxv.trans e1
      replace hx := test_exec hx; obtain ⟨ht, hx⟩ := hx
      simp only [Bool.and_eq_true, beq_iff_eq] at ht
      obtain ⟨⟨hsz, rfl⟩, rfl⟩ := ht
      have hsz := Nat.eq_of_beq_eq_true hsz
      have hlo : lo = none := by
        rcases hl with ⟨_, h⟩ | ⟨_, _, h, _⟩
        · exact h
        · cases h
      obtain ⟨y1, rfl, hv1⟩ : ∃ y, hi = some y ∧ a.eval y = .int k1 (xs.length : Int) := by
        rcases hh with ⟨h, _⟩ | ⟨_, y, h, h2, h3⟩
        · cases h
        · cases h; exact ⟨y, h2, h3⟩
      obtain ⟨y2, rfl, hv2⟩ : ∃ y, mx = some y ∧ a.eval y = .int k2 (xs.length : Int) := by
        rcases hm with ⟨h, _⟩ | ⟨_, y, h, h2, h3⟩
        · cases h
        · cases h; exact ⟨y, h2, h3⟩
      subst hlo
      have hcap : xs.length ≤ c := by
        rcases hrow.2 with ⟨e0, e2⟩ | ⟨g, cap, cur, e0, _, _, h3, _⟩
        · omega
        · rw [e0] at e1; simp only [Value.slice.injEq] at e1; omega
      have hb := run_bounds (P := P) (len := xs.length) (cap := c) (lo := (none : Option Operand).map a.eval) (hi := (some y1).map a.eval) (mx := (some y2).map a.eval) (l := 0) (h := (xs.length : Int)) (m := (xs.length : Int)) (.inl ⟨rfl, rfl⟩)
        (.inr ⟨k1, by rw [Option.map_some, hv1]⟩) (.inr ⟨k2, by rw [Option.map_some, hv2], by simp⟩) (Int.le_refl _) (by omega) (Int.le_refl _) (by omega) w
      have hrun := run_sliceAt hu hj e2 hb ho
      have hva : (if (xs.length : Int).toNat = (0 : Int).toNat then A else A.map (·.add ((0 : Int).toNat * j.size))) = A := by
        split
        · rfl
        · cases A <;> simp [add_zero]
      rw [hva, Int.toNat_natCast, show (0 : Int).toNat = 0 from rfl, Nat.sub_zero] at hrun
      have hlive : σ.live n := by intro e; rw [hob] at e; cases e
      have hheld : (σ.ob n).held = true := by rw [hob]; rfl
      have hk := hs.kill hlive false
      have hkt := Tk.kill hs hlive hheld false
      rw [if_neg (by decide)] at hkt
      simp only [M.exec] at hx
      obtain ⟨h1, h2⟩ := newO_exec hx
      have hnl := not_lv hk (Q := fun m => liveId ≤ m) hid (fun _ h => h) h1
      have hown : ownsX w e' ty.sz (.slice A xs.length xs.length) xs.length cells := by
        refine ⟨hrow.1, ?_⟩
        rcases hrow.2 with ⟨e0, e3⟩ | ⟨g, cap, cur, e0, k0, kg, k3, k4, k5, k6⟩
        · rw [e0] at e1
          simp only [Value.slice.injEq] at e1
          obtain ⟨rfl, _, _⟩ := e1
          exact .inl ⟨by rw [e3], e3⟩
        · rw [e0] at e1
          simp only [Value.slice.injEq] at e1
          obtain ⟨rfl, _, rfl⟩ := e1
          have hmul : xs.length * ty.sz ≤ cap * ty.sz := Nat.mul_le_mul_right _ k3
          exact .inr ⟨g, xs.length, cur, rfl, k0, kg, Nat.le_refl _, by omega, by omega, k6⟩
      have hbl : (Value.slice A xs.length xs.length).ownBlock = (ρ.hd n).ownBlock := by
        rw [e1]; cases A <;> rfl
      obtain ⟨q1, q2⟩ := hk.makeRow (v := .slice A xs.length xs.length) (bs := ρ.bk n) h1 hnl (e := e') (t := ty) (xs := xs) ⟨cells, bss, hown, DRow_mono (fun _ h => .inl h) (fun _ _ => rfl) (fun _ _ => rfl) hc, by rw [hbl]; exact hbks⟩ hnd (fun b hb => hkt.free hs b hb)
      refine ⟨.own id, _, _, _, _, h2, q1, ?_, hrun⟩
      exact ⟨.inl (live_set (by simp)), by simp [Rho.put], A, _, _, rfl⟩
    · simp [M.exec] at hx
  · simp [M.exec] at hx
end
end Go.Gx

/-
  Gx, part E7: calls; every operation.
-/
set_option linter.unusedVariables false
set_option linter.unusedSimpArgs false
namespace Go.Gx
def retV : List Value → Value
  | [v] => v
  | vs => .tuple vs.toArray
/-- The values that come back. -/
def backVs : List VS → List Value → List Value
  | s :: ss, v :: vs => match s.back with
    | some _ => v :: backVs ss vs
    | none => backVs ss vs
  | _, _ => []
/-- What a call comes to. 'ρ0': what its names stand for. -/
structure Out (sg : Sig) (r : sg.R) (ρ0 : Rho) (F : Nat → Prop) (w : World) (vs : List Value) (bs : List Nat) (v : Value) (w' : World) : Prop where
  is : ∃ ρ' rv F' b1 b2, v = retV rv ∧ Pr (fun b => b ∈ bs) w w' ∧ (∀ n ∈ sg.names, ρ0.same ρ' n n) ∧ BRVs ρ' F' w' sg.rs r.1 rv b1 ∧ BRVs ρ' F' w' (boxes sg.ps) r.2 (backVs sg.ps vs) b2 ∧ (b1 ++ b2).Nodup ∧
    (∀ b ∈ b1 ++ b2, ¬ F' b ∧ (b ∈ bs ∨ w.heap.size ≤ b)) ∧ (∀ b, F b → F' b) ∧ (∀ b, F' b → b < w'.heap.size ∧ (F b ∨ b ∈ bs ∨ w.heap.size ≤ b))
/-- What is known of the world when a program begins, where nothing is written. -/
def GW (G : World → Prop) (F : Nat → Prop) (w : World) : Prop := ∃ w0, G w0 ∧ ∀ b, b < w0.heap.size → F b ∧ w.heap[b]? = w0.heap[b]?
def CallOK (G : World → Prop) (P : Program) (f : FuncId) (sg : Sig) (x : sg.A) (r : sg.R) : Prop :=
  ∀ (w : World) (ρ0 : Rho) (F : Nat → Prop) (vs : List Value) (bs : List Nat), GW G F w → BRVs ρ0 F w sg.ps x vs bs → bs.Nodup → (∀ b ∈ bs, ¬ F b ∧ b < w.heap.size) → (∀ b, F b → b < w.heap.size) →
    Calls P f vs.toArray w fun e w' => ∃ v, e = .returned v ∧ Out sg r ρ0 F w vs bs v w'
def FnOK (P : Program) (f : FuncId) : Prop := ∃ fn, P.funcs[f]? = some fn ∧ (fn.name == "runtime.NumGoroutine") = false ∧ fn.body.isNone = false
structure EnvCl (G : World → Prop) (P : Program) (E : Env) : Prop where
  ok : EnvOK P E
  fn : ∀ f sg, E.sig f = some sg → FnOK P (f % 100000)
  cl : ∀ f sg x r, E.sig f = some sg → E.cl f sg x = some r → CallOK G P (f % 100000) sg x r
structure EnvAt (G : World → Prop) (P : Program) (E : Env) (cx : Ctx) : Prop extends EnvCl G P E where
  gw : GW G cx.F0 cx.w0
  dj : ∀ b, cx.F0 b → ¬ cx.C b
  f0 : ∀ b, cx.F0 b → b < cx.w0.heap.size
theorem EnvAt.at {G : World → Prop} {P : Program} {E : Env} {cx : Ctx} {nt : Fr} {ρ : Rho} {F F' : Nat → Prop} {σ : St} {a : Act} {w : World} (h : EnvAt G P E cx) (hs : Sim cx nt ρ F σ a w) (hF : ∀ b, F b → F' b) : GW G F' w := by
  obtain ⟨w0, h1, h2⟩ := h.gw
  refine ⟨w0, h1, fun b hb => ⟨hF b (hs.F0 b (h2 b hb).1), ?_⟩⟩
  rw [hs.pr.block b (h.f0 b (h2 b hb).1) (h.dj b (h2 b hb).1)]
  exact (h2 b hb).2
section
variable {P : Program} {cx : Ctx} {nt : Fr} {ρ : Rho} {F : Nat → Prop} {σ σ' : St} {a : Act} {w w' : World} {o : Oper} {K : Act → World → Prop} {Q : Exit → Act → World → Prop}
theorem backs_all2 {R : SV → Value → Prop} : ∀ {ss : List VS} {svs : List SV} {vs : List Value}, All2 R svs vs → All2 R (backSVs ss svs) (backVs ss vs)
  | [], svs, vs, _ => by cases svs <;> cases vs <;> simp [backSVs, backVs, All2]
  | s :: ss, [], [], _ => by simp [backSVs, backVs, All2]
  | s :: ss, [], _ :: _, h => h.elim
  | s :: ss, _ :: _, [], h => h.elim
  | s :: ss, sv :: svs, v :: vs, h => by
    simp only [backSVs, backVs]
    cases s.back with
    | none => exact backs_all2 h.2
    | some _ => exact ⟨h.1, backs_all2 h.2⟩
theorem selfs_names {l : LS} : ∀ i ∈ l.selfs, i ∈ l.names := by cases l <;> simp [LS.selfs, LS.names]
theorem selfsV_names {s : VS} : ∀ i ∈ s.selfs, i ∈ s.names := by
  have key : ∀ {ls : List LS} {i : Nat}, i ∈ ls.flatMap LS.selfs → i ∈ ls.flatMap LS.names := by
    intro ls i h
    rw [List.mem_flatMap] at h ⊢
    obtain ⟨l, h1, h2⟩ := h
    exact ⟨l, h1, selfs_names i h2⟩
  intro i hi
  cases s with
  | leaf l => exact selfs_names i hi
  | agg ls => exact key hi
  | box e ls o => exact key hi
  | boxA id e ls o => exact List.mem_cons_of_mem _ (key hi)
  | clo f e ls o => exact key hi
  | muts id e t => simp [VS.selfs] at hi
  | aggm ls => exact key hi
theorem hasN_mem' {l : List Nat} {n : Nat} (h : hasN l n = true) : n ∈ l := by
  simp only [hasN, List.any_eq_true] at h
  obtain ⟨x, hx, h⟩ := h
  exact Nat.eq_of_beq_eq_true h ▸ hx
theorem sig_ok {sg : Sig} (h : sg.ok = true) : (∀ s ∈ sg.rs, ∀ i ∈ s.names, i ∈ sg.names) ∧ (∀ s ∈ boxes sg.ps, ∀ i ∈ s.names, i ∈ sg.names) ∧ ∀ i ∈ sg.names, i < liveId := by
  unfold Sig.ok at h
  simp only [Bool.and_eq_true, List.all_eq_true, List.mem_append] at h
  refine ⟨fun s hs i hi => hasN_mem' (h.1 s (.inl hs) i hi), fun s hs i hi => hasN_mem' (h.1 s (.inr hs) i hi), fun i hi => ?_⟩
  have := h.2 i hi
  simp only [Nat.blt] at this
  exact Nat.le_of_ble_eq_true this
theorem bindVs_exec {α : Type} {r : α × St} : ∀ {ss : List VS} {svs : List SV} {k : List (Nat × Nat) → M α}, (bindVs ss svs k).exec σ = some r → ∃ l, (k l).exec σ = some r
  | [], svs, k, h => ⟨[], by cases svs <;> exact h⟩
  | s :: ss, [], k, h => ⟨[], by simpa [bindVs] using h⟩
  | s :: ss, sv :: svs, k, h => by
    simp only [bindVs] at h
    have box : ∀ {ls : List LS} {n : Nat} {k : List (Nat × Nat) → M α}, (bindBox ls n k).exec σ = some r → ∃ l, (k l).exec σ = some r := by
      intro ls n k h
      simp only [bindBox, M.exec] at h
      split at h
      · exact ⟨_, h⟩
      · simp [M.exec] at h
    have one : ∃ l, (bindVs ss svs fun l' => k (l ++ l')).exec σ = some r := by
      unfold bindV at h
      split at h
      · exact ⟨_, h⟩
      · exact ⟨_, h⟩
      · obtain ⟨l, h⟩ := box h; exact ⟨l, h⟩
      · obtain ⟨l, h⟩ := box h; exact ⟨_, h⟩
      · obtain ⟨l, h⟩ := box h; exact ⟨l, h⟩
      · exact ⟨_, h⟩
      · exact ⟨_, h⟩
      · exact ⟨_, h⟩
    obtain ⟨l, h⟩ := one
    obtain ⟨l', h⟩ := bindVs_exec h
    exact ⟨_, h⟩
theorem theres_exec {α : Type} {r : α × St} : ∀ {ns : List Nat} {k : M α}, (theres ns k).exec σ = some r → k.exec σ = some r ∧ ∀ n ∈ ns, σ.live n
  | [], k, h => ⟨h, fun n hn => by simp at hn⟩
  | n :: ns, k, h => by
    obtain ⟨h1, h⟩ := isThere_exec h
    obtain ⟨h2, h3⟩ := theres_exec h
    exact ⟨h2, fun m hm => by
      rcases List.mem_cons.1 hm with rfl | hm
      · exact h1
      · exact h3 m hm⟩
theorem ret_VR {lv : Nat → Prop} {svs : List SV} {vs : List Value} (h : All2 (LR1 ρ F w lv) svs vs) : VR ρ F w lv (retSV svs) (retV vs) := by
  match svs, vs, h with
  | [], [], h => exact ⟨#[], rfl, trivial⟩
  | [sv], [v], h => exact VR_of_LR1 h.1
  | sv :: sv' :: svs, v :: v' :: vs, h => exact ⟨(v :: v' :: vs).toArray, rfl, by simpa using h⟩
  | [], _ :: _, h => exact h.elim
  | _ :: _, [], h => exact h.elim
  | [_], _ :: _ :: _, h => exact h.2.elim
  | _ :: _ :: _, [_], h => exact h.2.elim
/-- The world goes on; blocks that are nobody's may have changed, or become read-only. -/
theorem Sim.goes {F' : Nat → Prop} (hs : Sim cx nt ρ F σ a w) (Ad : Nat → Prop) (hAd : ∀ b, Ad b → Free cx ρ F σ b) (hp : Pr Ad w w') (hF : ∀ b, F b → F' b) (hF' : ∀ b, F' b → F b ∨ (b < w'.heap.size ∧ (w.heap.size ≤ b ∨ Ad b))) : Sim cx nt ρ F' σ a w' :=
  hs.step (fun _ => False) Ad Ad hp hAd (fun b hb _ => .inr hb) (fun _ _ => rfl) (fun _ h => h) (Goes.refl _ _ _) hF (fun b hb => (hF' b hb).imp id fun h => ⟨h.1, .inr h.2⟩) (fun _ h => h.elim) (fun _ _ h => h.elim) (fun _ _ _ h => h.elim) hs.defers hs.size hs.pin (fun s => .inl ⟨rfl, rfl⟩)
theorem call_sound {G : World → Prop} {E : Env} (hE : EnvAt G P E cx) {f : FuncId} {sg : Sig} {args : List SV} {vs : List Value} {id : Nat} {kk : SV → MU} {r : Unit × St} (hid : liveId ≤ id) (hsg : E.sig f = some sg) (h : (callM sg (E.cl f sg) args id kk).exec σ = some r) (hs : Sim cx nt ρ F σ a w) (hv : All2 (VR ρ F w (σ.lv ρ)) args vs) :
    Calls P (f % 100000) vs.toArray w fun e w' => ∃ v, e = .returned v ∧ ∃ sv σ1 ρ1 F1, (kk sv).exec σ1 = some r ∧ Sim cx nt ρ1 F1 σ1 a w' ∧ VR ρ1 F1 w' (σ1.lv ρ1) sv v := by
  unfold callM at h
  replace h := test_exec h; obtain ⟨hok, h⟩ := h
  obtain ⟨ok1, ok2, ok3⟩ := sig_ok hok
  obtain ⟨bl, h⟩ := bindVs_exec h
  obtain ⟨h, hth⟩ := theres_exec h
  obtain ⟨B, hB⟩ : ∃ B, B = lkN bl := ⟨_, rfl⟩
  rw [← hB] at h hth
  have hQ : ∀ m, liveId ≤ m → liveId ≤ m := fun _ h => h
  have hQ1 : ∀ m, liveId ≤ m → liveId ≤ m + 1 := fun m h => by omega
  cases hl : sg.lends with
  | true =>
    rw [hl] at h
    simp only [Sig.lends, Bool.and_eq_true] at hl
    obtain ⟨x, σ1, F1, bs, h1, hs1, htk, hb⟩ := mixVs_sound h hs hv
    obtain ⟨y, hy, h1⟩ := opt_exec h1
    · have hfree := htk.free hs
      refine (hE.cl f sg x y hsg hy w (ρ.pull B) (Lent ρ F1 σ1) vs bs (hE.at hs1 fun _ h => .inl h) hb htk.nd (fun b hb => ⟨?_, ?_⟩) (fun b hb => ?_)).mono ?_
      · rintro (hf | ⟨m, hm⟩)
        · exact (hfree b hb).2.1 hf
        · exact (hfree b hb).2.2 m hm
      · obtain ⟨_, n, hn, _⟩ := htk.hb b hb
        exact blk_lt (hs.objs n) hn
      · rcases hb with hb | ⟨m, hm⟩
        · exact (hs1.Fb b hb).1
        · exact blk_lt (hs1.objs m) hm
      · rintro e w' ⟨v, rfl, ⟨ρ', rv, F', b1, b2, rfl, hp, hnm, hr1, hr2, hnd, hbs, hF1, hF2⟩⟩
        refine ⟨_, rfl, ?_⟩
        have hs' : Sim cx nt ρ F1 σ1 a w' := hs1.goes (fun b => b ∈ bs) hfree hp (fun _ h => h) (fun b hb => .inl hb)
        have hr1 := BRVs_flat (F' := F1) hl.1 hr1
        have hr2 := BRVs_flat (F' := F1) hl.2 hr2
        have hfr : ∀ b ∈ b1 ++ b2, Free cx ρ F1 σ1 b := fun b hb => by
          obtain ⟨q1, q2⟩ := hbs b hb
          have q1 : ¬ F1 b := fun h => q1 (hF1 b (.inl h))
          rcases q2 with q2 | q2
          · exact ⟨(hfree b q2).1, q1, (hfree b q2).2.2⟩
          · exact ⟨.inr (Nat.le_trans hs.pr.size q2), q1, fun m hm => by have := blk_lt (hs1.objs m) hm; omega⟩
        rw [List.nodup_append] at hnd
        have hlv1 : ∀ i ∈ sg.names, σ1.lv ρ (B i) := fun i hi => .inl (htk.live _ (hth _ (List.mem_map_of_mem hi)))
        have hNm : ∀ i ∈ sg.names, Nm ρ' B (fun m => liveId ≤ m) ρ σ1 i := fun i hi => by
          have := hnm i hi
          exact ⟨⟨this.1.symm, this.2.1.symm, this.2.2.symm⟩, .inl (hlv1 i hi)⟩
        have hFw : ∀ b, F1 b → w'.heap[b]? = w.heap[b]? := fun b hb => hp.block b (hs1.Fb b hb).1 (fun hbb => (htk.hb b hbb).1 hb)
        have hback := backs_all2 (ss := sg.ps) (hv.imp fun _ _ h => VR_mono (F := F1) (fun _ h => h) (fun _ _ => ρ.same_refl _) (fun _ h => h) hFw (htk.VR h))
        obtain ⟨σ2, ρ2, h2, h3, h4, h5⟩ := backs_sound (Q := fun m => liveId ≤ m) hQ hQ1 h1 hs' hback hr2 (fun b hb => hfr b (List.mem_append_right _ hb)) hnd.2.1 (by omega)
          (fun s hs i hi => hNm i (ok2 s hs i hi)) (fun s hs i hi => hlv1 i (ok2 s hs i (selfsV_names i hi)))
        obtain ⟨svs, σ3, ρ3, h6, h7, h8, h9, _⟩ := buildVs_sound (Q := fun m => liveId ≤ m) hQ hQ1 h2 h3 hr1 (fun b hb => h4.free (hfr b (List.mem_append_left _ hb)) (fun hb' => hnd.2.2 b hb b hb' rfl)) hnd.1 hid
          (fun s hs i hi => h5 i (hNm i (ok1 s hs i hi))) (fun s hs i hi => h4.lv' _ (hlv1 i (ok1 s hs i (selfsV_names i hi))))
        exact ⟨_, σ3, ρ3, F1, h6, h7, ret_VR h9⟩
  | false =>
    rw [hl] at h
    obtain ⟨x, σ1, F1, bs, h1, hs1, htk, hb⟩ := takeVs_sound h hs hv
    obtain ⟨y, hy, h1⟩ := opt_exec h1
    · have hfree := htk.free hs
      refine (hE.cl f sg x y hsg hy w (ρ.pull B) F1 vs bs (hE.at hs1 fun _ h => h) hb htk.nd (fun b hb => ⟨(htk.hb b hb).1, ?_⟩) (fun b hb => (hs1.Fb b hb).1)).mono ?_
      · obtain ⟨_, n, hn, _⟩ := htk.hb b hb
        exact blk_lt (hs.objs n) hn
      · rintro e w' ⟨v, rfl, ⟨ρ', rv, F', b1, b2, rfl, hp, hnm, hr1, hr2, hnd, hbs, hF1, hF2⟩⟩
        refine ⟨_, rfl, ?_⟩
        have hs' : Sim cx nt ρ F' σ1 a w' := hs1.goes (fun b => b ∈ bs) hfree hp hF1 (fun b hb => by
          obtain ⟨q1, q2⟩ := hF2 b hb
          rcases q2 with q2 | q2 | q2
          · exact .inl q2
          · exact .inr ⟨q1, .inr q2⟩
          · exact .inr ⟨q1, .inl q2⟩)
        have hfr : ∀ b ∈ b1 ++ b2, Free cx ρ F' σ1 b := fun b hb => by
          obtain ⟨q1, q2⟩ := hbs b hb
          rcases q2 with q2 | q2
          · exact ⟨(hfree b q2).1, q1, (hfree b q2).2.2⟩
          · exact ⟨.inr (Nat.le_trans hs.pr.size q2), q1, fun m hm => by have := blk_lt (hs1.objs m) hm; omega⟩
        rw [List.nodup_append] at hnd
        have hlv1 : ∀ i ∈ sg.names, σ1.lv ρ (B i) := fun i hi => .inl (htk.live _ (hth _ (List.mem_map_of_mem hi)))
        have hNm : ∀ i ∈ sg.names, Nm ρ' B (fun m => liveId ≤ m) ρ σ1 i := fun i hi => by
          have := hnm i hi
          exact ⟨⟨this.1.symm, this.2.1.symm, this.2.2.symm⟩, .inl (hlv1 i hi)⟩
        have hFw : ∀ b, F1 b → w'.heap[b]? = w.heap[b]? := fun b hb => hp.block b (hs1.Fb b hb).1 (fun hbb => (htk.hb b hbb).1 hb)
        have hback := backs_all2 (ss := sg.ps) (hv.imp fun _ _ h => VR_mono (fun _ h => h) (fun _ _ => ρ.same_refl _) hF1 hFw (htk.VR h))
        obtain ⟨σ2, ρ2, h2, h3, h4, h5⟩ := backs_sound (Q := fun m => liveId ≤ m) hQ hQ1 h1 hs' hback hr2 (fun b hb => hfr b (List.mem_append_right _ hb)) hnd.2.1 (by omega)
          (fun s hs i hi => hNm i (ok2 s hs i hi)) (fun s hs i hi => hlv1 i (ok2 s hs i (selfsV_names i hi)))
        obtain ⟨svs, σ3, ρ3, h6, h7, h8, h9, _⟩ := buildVs_sound (Q := fun m => liveId ≤ m) hQ hQ1 h2 h3 hr1 (fun b hb => h4.free (hfr b (List.mem_append_left _ hb)) (fun hb' => hnd.2.2 b hb b hb' rfl)) hnd.1 hid
          (fun s hs i hi => h5 i (hNm i (ok1 s hs i hi))) (fun s hs i hi => h4.lv' _ (hlv1 i (ok1 s hs i (selfsV_names i hi))))
        exact ⟨_, σ3, ρ3, F', h6, h7, ret_VR h9⟩
end
end Go.Gx

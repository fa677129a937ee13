/-
  Gx, part E6: appends.
-/
import Derived.Test.YtpcnmlpikiigaaaXE5
set_option linter.unusedVariables false
set_option linter.unusedSimpArgs false
namespace Go.Gx
section
variable {P : Program} {cx : Ctx} {nt : Fr} {ρ : Rho} {F : Nat → Prop} {σ σ' : St} {a : Act} {w w' : World} {o : Oper} {K : Act → World → Prop} {Q : Exit → Act → World → Prop}
theorem all_one {lv : Nat → Prop} : ∀ {ls : List SV} {ds : List Value}, All2 (LR0 ρ F w lv) ls ds → ls.all SV.cell = true → ∀ u ∈ ds, u.oneCell' = true
  | [], ds, h, _, u, hu => by rw [h.nil_left] at hu; simp at hu
  | s :: ls, [], h, _, u, hu => by simp at hu
  | s :: ls, d :: ds, h, hc, u, hu => by
    simp only [List.all_cons, Bool.and_eq_true] at hc
    rcases List.mem_cons.1 hu with rfl | hu
    · exact (One_of_LR0 hc.1 h.1).1
    · exact all_one h.2 hc.2 u hu
/-- The cells of a slice that is read. -/
theorem cells_read {t : Ty} {ad : Addr} : ∀ (xs : List t.I) (k : Nat), (∀ (i : Nat) (x : t.I), xs[i]? = some x → ∃ ds, TC F w t x ds ∧ ∀ j u, ds[j]? = some u → w.cell? (ad.add ((k + i) * t.sz + j)) = some u) →
    ∃ news : List Value, news.length = xs.length * t.sz ∧ RowC F w t xs news ∧ (∀ u ∈ news, u.oneCell' = true) ∧ ∀ j u, news[j]? = some u → w.cell? (ad.add (k * t.sz + j)) = some u
  | [], k, _ => ⟨[], by simp, fun i x hi => by simp at hi, by simp, fun j u hj => by simp at hj⟩
  | x :: xs, k, h => by
    obtain ⟨ds, h1, h2⟩ := h 0 x (by simp)
    obtain ⟨news, h3, h4, h5, h6⟩ := cells_read xs (k + 1) (fun i y hi => by
      obtain ⟨d, e1, e2⟩ := h (i + 1) y (by simpa using hi)
      exact ⟨d, e1, fun j u hj => by rw [show k + 1 + i = k + (i + 1) by omega]; exact e2 j u hj⟩)
    have hl := TC_len h1
    refine ⟨ds ++ news, by rw [List.length_append, h3, hl, List.length_cons, Nat.succ_mul]; omega, fun i y hi => ?_, fun u hu => ?_, fun j u hj => ?_⟩
    · cases i with
      | zero =>
        simp only [List.getElem?_cons_zero, Option.some.injEq] at hi
        subst hi
        rw [Nat.zero_mul, List.drop_zero, List.take_append_of_le_length (by omega), List.take_of_length_le (by omega)]
        exact h1
      | succ i =>
        have := h4 i y (by simpa using hi)
        rw [List.drop_append, List.drop_of_length_le (by rw [hl, Nat.succ_mul]; omega), List.nil_append, hl, show (i + 1) * t.sz - t.sz = i * t.sz by rw [Nat.succ_mul]; omega]
        exact this
    · rcases List.mem_append.1 hu with hu | hu
      · have hal := TC_leaves (ρ := ⟨fun _ => undef, fun _ => 0, fun _ => 0⟩) (lv := fun _ => True) h1
        have hcl := leaves_cell t x
        exact all_one hal hcl u hu
      · exact h5 u hu
    · by_cases hlt : j < ds.length
      · rw [List.getElem?_append_left hlt] at hj
        have := h2 j u hj
        rwa [Nat.add_zero] at this
      · rw [List.getElem?_append_right (by omega)] at hj
        have := h6 _ u hj
        rw [show k * t.sz + j = (k + 1) * t.sz + (j - ds.length) by rw [Nat.succ_mul, hl]; omega]
        exact this
theorem RowC_append {t : Ty} {xs ys : List t.I} {c1 c2 : List Value} (h1 : RowC F w t xs c1) (hl : c1.length = xs.length * t.sz) (h2 : RowC F w t ys c2) : RowC F w t (xs ++ ys) (c1 ++ c2) := by
  intro i x hi
  by_cases hlt : i < xs.length
  · rw [List.getElem?_append_left hlt] at hi
    have hle : i * t.sz + t.sz ≤ xs.length * t.sz := by rw [← Nat.succ_mul]; exact Nat.mul_le_mul_right _ hlt
    rw [List.drop_append_of_le_length (by omega), List.take_append_of_le_length (by rw [List.length_drop]; omega)]
    exact h1 i x hi
  · rw [List.getElem?_append_right (by omega)] at hi
    have hle : xs.length * t.sz ≤ i * t.sz := Nat.mul_le_mul_right _ (by omega)
    rw [List.drop_append, List.drop_of_length_le (by omega), List.nil_append, hl, ← Nat.sub_mul]
    exact h2 _ x hi
/-- What is appended: its cells. -/
structure Src (F : Nat → Prop) (w : World) (t : Ty) (ys : List t.I) (v : Value) : Prop where
  is : ∃ A m c, v = .slice A m c ∧ m = ys.length ∧ ((A = none ∧ m = 0) ∨ ∃ ad, A = some ad ∧ ∃ news : List Value, news.length = m * t.sz ∧ RowC F w t ys news ∧ (∀ u ∈ news, u.oneCell' = true) ∧ ∀ j u, news[j]? = some u → w.cell? (ad.add j) = some u)
theorem Src.of_TC {t : Ty} {ys : List t.I} {v : Value} (h : TC F w (.sl t) ys [v]) : Src F w t ys v := by
  obtain ⟨A, c, e, _, _, hx⟩ := h
  simp only [List.cons.injEq, and_true] at e
  refine ⟨A, _, c, e, rfl, ?_⟩
  cases A with
  | none =>
    refine .inl ⟨rfl, ?_⟩
    cases ys with
    | nil => rfl
    | cons y ys => obtain ⟨ad, ds, h, _⟩ := hx 0 y (by simp); cases h
  | some ad =>
    refine .inr ⟨ad, rfl, ?_⟩
    obtain ⟨news, h1, h2, h3, h4⟩ := cells_read (F := F) (w := w) (ad := ad) ys 0 (fun i x hi => by
      obtain ⟨ad', ds, e, _, htc, hc⟩ := hx i x hi
      cases e
      exact ⟨ds, htc, fun j u hj => by rw [Nat.zero_add]; exact hc j u hj⟩)
    exact ⟨news, h1, h2, h3, fun j u hj => by have := h4 j u hj; rwa [Nat.zero_mul, Nat.zero_add] at this⟩
theorem Src.mono {F1 : Nat → Prop} {t : Ty} {ys : List t.I} {v : Value} (h : Src F w t ys v) (hF : ∀ b, F b → F1 b) : Src F1 w t ys v := by
  obtain ⟨A, m, c, e, hm, h⟩ := h.is
  exact ⟨A, m, c, e, hm, h.imp id fun ⟨ad, e, news, h1, h2, h3, h4⟩ => ⟨ad, e, news, h1, RowC_mono hF (fun _ _ => rfl) h2, h3, h4⟩⟩
theorem src_sound {n : Nat} {sx : SV} {t : Ty} {v : Value} {kk : List t.I → MU} {r : Unit × St} (h : (srcM n sx t kk).exec σ = some r) (hs : Sim cx nt ρ F σ a w) (hv : VR ρ F w σ.live sx v) :
    ∃ ys, (kk ys).exec σ = some r ∧ Src F w t ys v := by
  -- the cells of an owned row
  have row : ∀ {m : Nat} {e : TypeId} {t' : Ty} {ys : List t'.I}, σ.ob m = .row e t' ys → Src F w t' ys (ρ.hd m) ∧ ρ.es m = t'.sz := by
    intro m e t' ys hob
    have hob' := hs.objs m
    rw [hob] at hob'
    obtain ⟨hes, cells, hrow, hc⟩ := hob'
    refine ⟨?_, hes⟩
    rcases hrow.2 with ⟨e0, e1⟩ | ⟨g, cap, cur, e0, _⟩
    · exact ⟨none, 0, 0, e0, e1.symm, .inl ⟨rfl, rfl⟩⟩
    · have hcells := hrow.cells (g := g) (by rw [e0]; simp [Value.ownBlock])
      obtain ⟨news, h1, h2, h3, h4⟩ := cells_read (F := F) (w := w) (ad := ⟨g, 0, none⟩) ys 0 (fun i x hi => ⟨_, hc i x hi, fun j u hj => by rw [Nat.zero_add]; exact hcells _ u (chunk_get hj)⟩)
      exact ⟨_, _, cap, e0, rfl, .inr ⟨_, rfl, news, h1, h2, h3, fun j u hj => by have := h4 j u hj; rwa [Nat.zero_mul, Nat.zero_add] at this⟩⟩
  unfold srcM at h
  split at h
  · have e : v = .slice none 0 0 := hv
    exact ⟨_, h, ⟨none, 0, 0, e, rfl, .inl ⟨rfl, rfl⟩⟩⟩
  · obtain ⟨e, h⟩ := castL_exec h
    subst e
    exact ⟨_, h, Src.of_TC hv⟩
  · rename_i m
    obtain ⟨hl, e, _⟩ := hv
    replace h := test_exec h; obtain ⟨_, h⟩ := h
    simp only [M.exec] at h
    split at h
    · rename_i e1 t' ys hob
      obtain ⟨e2, h⟩ := castL_exec h
      subst e2
      exact ⟨_, h, by rw [e]; exact (row hob).1⟩
    · simp [M.exec] at h
  · rename_i m lo hi
    obtain ⟨hl, hsub⟩ := hv
    replace h := test_exec h; obtain ⟨_, h⟩ := h
    simp only [M.exec] at h
    split at h
    · rename_i e1 t' ys hob
      replace h := test_exec h; obtain ⟨hle, h⟩ := h
      have hle := of_decide_eq_true hle
      obtain ⟨e2, h⟩ := castL_exec h
      subst e2
      refine ⟨_, h, ?_⟩
      have hob' := hs.objs m
      rw [hob] at hob'
      obtain ⟨hes, cells, hrow, hc⟩ := hob'
      rw [hes] at hsub
      obtain ⟨A, l, c, A2, e1, h1, h2, e2, hA1, hA2⟩ := hsub
      have hlen : ((ys.take hi).drop lo).length = hi - lo := sub_len hle.2
      refine ⟨A2, hi - lo, c - lo, e2, hlen.symm, ?_⟩
      rcases hrow.2 with ⟨e0, e3⟩ | ⟨g, cap, cur, e0, _, _, hcap, _⟩
      · rw [e1] at e0
        simp only [Value.slice.injEq] at e0
        obtain ⟨rfl, rfl, rfl⟩ := e0
        exact .inl ⟨by rw [hA2 (by omega)], by omega⟩
      · have e0' := e0
        rw [e1] at e0
        simp only [Value.slice.injEq] at e0
        obtain ⟨rfl, rfl, rfl⟩ := e0
        have hcells := hrow.cells (g := g) (by rw [e0']; simp [Value.ownBlock])
        by_cases hne : c = lo
        · have h00 : hi - lo = 0 := by omega
          have h0 : (ys.take hi).drop lo = [] := List.eq_nil_of_length_eq_zero (by rw [hlen]; omega)
          by_cases hlo : lo = 0
          · refine .inr ⟨_, hA2 hlo, [], by rw [h00]; simp, by rw [h0]; exact fun i x hi => by simp at hi, by simp, fun j u hj => by simp at hj⟩
          · cases A2 with
            | none => exact .inl ⟨rfl, by omega⟩
            | some ad => exact .inr ⟨ad, rfl, [], by rw [h00]; simp, by rw [h0]; exact fun i x hi => by simp at hi, by simp, fun j u hj => by simp at hj⟩
        · obtain ⟨news, k1, k2, k3, k4⟩ := cells_read (F := F) (w := w) (ad := (⟨g, 0, none⟩ : Addr).add (lo * t'.sz)) ((ys.take hi).drop lo) 0 (fun i x hi => by
            obtain ⟨q1, q2⟩ := sub_get hi
            refine ⟨_, hc _ x q1, fun j u hj => ?_⟩
            rw [add_add, show lo * t'.sz + ((0 + i) * t'.sz + j) = (lo + i) * t'.sz + j by rw [Nat.zero_add, Nat.add_mul]; omega]
            exact hcells _ u (chunk_get hj))
          exact .inr ⟨_, by rw [hA1 hne]; rfl, news, by rw [k1, hlen], k2, k3, fun j u hj => by have := k4 j u hj; rwa [Nat.zero_mul, Nat.zero_add] at this⟩
    · simp [M.exec] at h
  · simp [M.exec] at h
theorem run_append_none' {t ty e : TypeId} {j : TI} {v : Value} {n c sz : Nat} {cells : List Value} (hu : P.underlying t = some (.slice e)) (hj : tinfo P e = some j) (hown : w.ownsRow 0 e sz v n cells) : (Builtin.append_ #[t, t] ty #[v, .slice none 0 c]).run P w = .ok v w := by
  have hsz := run_sizeOf hj
  rcases hown.2 with ⟨rfl, rfl⟩ | ⟨g, cap, cur, rfl, _, _, hnc, _⟩
  · simp [Builtin.append_, run_underlying hu, hsz, Builtin.lenOf, Builtin.firstCells]
  · simp [Builtin.append_, run_underlying hu, hsz, Builtin.lenOf, Builtin.firstCells, hnc, storeCells]
/-- The call of append on an owned row. -/
theorem append_run {t ty e : TypeId} {i j : TI} {T : Ty} {xs ys : List T.I} {v x : Value} {cells : List Value} (hu : P.underlying t = some (.slice e)) (hj : tinfo P e = some j) (hz : j.hasZ = true) (hby : j.bytes ≤ 64) (hsz : T.sz = j.size) (hzc : j.zero.cells.size = j.size)
    (hroom : room xs.length ys.length = true) (hown : w.ownsRow 0 e T.sz v xs.length cells) (hc : RowC F w T xs cells) (hsrc : Src F w T ys x) (hF : ∀ b, v.ownBlock = some b → ¬ F b) (hFb : ∀ b, F b → b < w.heap.size) :
    ∃ v' w' cells', (Builtin.append_ #[t, t] ty #[v, x]).run P w = .ok v' w' ∧ w'.ownsRow 0 e T.sz v' (xs ++ ys).length cells' ∧ RowC F w' T (xs ++ ys) cells' ∧ w.grownBy w' v.ownBlock ∧ (v'.ownBlock = v.ownBlock ∨ v'.ownBlock = some w.heap.size) := by
  obtain ⟨inf, hj1, hj2, hj3, hj4⟩ := zero_spec hj hz
  obtain ⟨A, m, c, rfl, rfl, hs⟩ := hsrc.is
  have hroom : xs.length + ys.length ≤ lim := of_decide_eq_true hroom
  have hlim : lim = 549755813888 := rfl
  rcases hs with ⟨rfl, h0⟩ | ⟨ad, rfl, news, hn1, hn2, hn3, hn4⟩
  · have : ys = [] := List.eq_nil_of_length_eq_zero h0
    subst this
    rw [h0]
    exact ⟨v, w, cells, run_append_none' hu hj hown, by simpa using hown, by simpa using hc, ⟨rfl, rfl, rfl, Nat.le_refl _, fun _ _ _ => rfl⟩, .inl rfl⟩
  · obtain ⟨v', w', h1, h2, h3, _, h4⟩ := run_append_own_at (P := P) w 0 t ty e inf j.zero T.sz j.bytes hu hj1 hj4 (by rw [hj2, hsz]) hj3 (by rw [hzc, hsz]) T.sz_pos v xs.length cells hown ad ys.length c news hn1 hn4 hn3 (by simp only [maxLen]; omega)
      (by
        have : (xs.length + ys.length) * j.bytes ≤ 549755813888 * 64 := Nat.mul_le_mul (by omega) hby
        omega) (Nat.zero_le _)
    refine ⟨v', w', _, h1, by rw [List.length_append]; exact h2, ?_, h3, h4⟩
    refine RowC_mono (fun _ h => h) (fun b hb => h3.block b (hFb b hb) (fun e => hF b e.symm hb)) (RowC_append hc hown.1 hn2)
theorem append_sound {t e : TypeId} {i j : TI} {as : Array Operand} {ts : Array TypeId} {s x : Operand} {sa sb : SV} {ty : Option Ty} {id : Nat} {kk : SV → MU} {r : Unit × St} (hi : tinfo P t = some i) (he : i.elem = some e) (hj : tinfo P e = some j) (hz : j.hasZ = true) (hby : j.bytes ≤ 64) (hzc : j.zero.cells.size = j.size)
    (hts : ts.toList = [t, t]) (has : as.toList = [s, x]) (h : (appendM e j.size ty sa sb id kk).exec σ = some r) (hs : Sim cx nt ρ F σ a w) (ha : VR ρ F w σ.live sa (a.eval s)) (hb : VR ρ F w σ.live sb (a.eval x))
    (ho : o.op = .call { callee := .builtin .append, args := as, argTypes := ts }) :
    ∃ σ1 ρ1 v w', (kk (.own id)).exec σ1 = some r ∧ Sim cx nt ρ1 F σ1 a w' ∧ VR ρ1 F w' σ1.live (.own id) v ∧ (execOp a.eval o).run P w = .ok (.value v) w' := by
  have hu := elem_spec hi he
  have has' : as = #[s, x] := by rw [← has]
  have hts' : ts = #[t, t] := by rw [← hts]
  subst has' hts'
  have hrun : ∀ {v' w'}, (Builtin.append_ #[t, t] o.type #[a.eval s, a.eval x]).run P w = .ok v' w' → (execOp a.eval o).run P w = .ok (.value v') w' := by
    intro v' w' hr
    simp [execOp, ho, resolve, invoke, builtin, hr]
  have hFb : ∀ b, F b → b < w.heap.size := fun b hb => (hs.Fb b hb).1
  have pr_of : ∀ {v : Value} {w' : World}, w.grownBy w' v.ownBlock → Pr (fun b => v.ownBlock = some b) w w' := fun h => Pr.of_grown h
  -- over nil
  have nilc : ∀ {T : Ty} {ys : List T.I}, Src F w T ys (a.eval x) → a.eval s = .slice none 0 0 → T.sz = j.size → room 0 ys.length = true → (newO id (.row e T ([] ++ ys)) (kk (.own id))).exec σ = some r →
      ∃ σ1 ρ1 v w', (kk (.own id)).exec σ1 = some r ∧ Sim cx nt ρ1 F σ1 a w' ∧ VR ρ1 F w' σ1.live (.own id) v ∧ (execOp a.eval o).run P w = .ok (.value v) w' := by
    intro T ys hsrc hx hsz hroom h
    obtain ⟨h1, h2⟩ := newO_exec h
    obtain ⟨v', w', cells', k1, k2, k3, k4, k5⟩ := append_run (P := P) (F := F) (w := w) (ty := o.type) (i := i) (xs := ([] : List T.I)) (v := .slice none 0 0) (cells := []) hu hj hz hby hsz hzc hroom ⟨by simp, .inl ⟨rfl, rfl⟩⟩ (fun i x hi => by simp at hi) hsrc (fun b hb => by simp [Value.ownBlock] at hb) hFb
    rw [← hx] at k1
    obtain ⟨ρ1, h3, h4⟩ := hs.growRow (n := id) (e := e) (w' := w') h1 ((pr_of k4).mono fun b hb => by simp [Value.ownBlock] at hb) k2 k3 (fun b hb => by
      rcases k5 with k5 | k5
      · rw [k5] at hb; simp [Value.ownBlock] at hb
      · rw [k5] at hb; cases hb; exact Nat.le_refl _)
    exact ⟨_, ρ1, v', w', h2, h3, h4, hrun k1⟩
  -- over a row that is given up
  have rowc : ∀ {n : Nat} {e1 : TypeId} {T : Ty} {xs0 xs ys : List T.I} {cells : List Value}, σ.ob n = .row e1 T xs0 → e1 = e → w.ownsRow 0 e T.sz (a.eval s) xs.length cells → RowC F w T xs cells → (a.eval s).ownBlock = (ρ.hd n).ownBlock → Src F w T ys (a.eval x) → T.sz = j.size → room xs.length ys.length = true →
      (newO id (.row e T (xs ++ ys)) (kk (.own id))).exec (σ.setO n .dead) = some r →
      ∃ σ1 ρ1 v w', (kk (.own id)).exec σ1 = some r ∧ Sim cx nt ρ1 F σ1 a w' ∧ VR ρ1 F w' σ1.live (.own id) v ∧ (execOp a.eval o).run P w = .ok (.value v) w' := by
    intro n e1 T xs0 xs ys cells hob he1 hown hc hblk hsrc hsz hroom h
    subst he1
    obtain ⟨h1, h2⟩ := newO_exec h
    have hbk : blk ρ n (σ.ob n) = (ρ.hd n).ownBlock := by rw [hob]; rfl
    have hln : σ.live n := by intro e; rw [hob] at e; cases e
    have hid : id ≠ n := by
      intro e; subst e
      rw [setO_ob, if_pos rfl] at h1
      cases h1
    have hida : σ.ob id = .absent := by rwa [setO_ob, if_neg hid] at h1
    obtain ⟨v', w', cells', k1, k2, k3, k4, k5⟩ := append_run (P := P) (F := F) (w := w) (ty := o.type) (i := i) hu hj hz hby hsz hzc hroom hown hc hsrc (fun b hb => (hs.own n b (by rw [hbk, ← hblk]; exact hb)).1) hFb
    obtain ⟨A, c, hsl⟩ := ownsRow_slice k2
    have hlv : ∀ m, σ.live m → ((σ.setO n .dead).setO id (.row e1 T (xs ++ ys))).live m := fun m hm => live_setO (by simp) m (live_setO (by simp) m hm)
    have hρ : ∀ m, m ≠ id → (ρ.put id v' 0 T.sz).hd m = ρ.hd m ∧ (ρ.put id v' 0 T.sz).bx m = ρ.bx m ∧ (ρ.put id v' 0 T.sz).es m = ρ.es m := fun m hm => ρ.put_ne hm
    have hbid : blk (ρ.put id v' 0 T.sz) id (.row e1 T (xs ++ ys)) = v'.ownBlock := by simp [blk, Rho.put]
    refine ⟨_, ρ.put id v' 0 T.sz, v', w', h2, ?_, ⟨?_, by simp [Rho.put], A, _, c, hsl⟩, hrun k1⟩
    · refine hs.step (fun m => m = n ∨ m = id) (fun b => (a.eval s).ownBlock = some b) (fun _ => False) (pr_of k4) (fun _ h => h.elim) (fun b hb _ => .inl ⟨n, .inl rfl, by rw [hbk, ← hblk]; exact hb⟩)
        (fun m hm => by rw [setO_ob, if_neg (fun e => hm (.inr e)), setO_ob, if_neg (fun e => hm (.inl e))]) hlv (fun m hm => hρ m fun e => hm (e ▸ hida)) (fun _ h => h) (fun _ h => .inl h) (fun m hm => ?_) (fun m b hm hb => ?_) (fun m k b hm hk hne hb => ?_) hs.defers hs.size hs.pin (fun s => .inl ⟨rfl, rfl⟩)
      · by_cases e : m = id
        · subst e
          rw [setO_ob, if_pos rfl]
          exact ⟨by simp [Rho.put], cells', by simpa [Rho.put] using k2, k3⟩
        · have : m = n := hm.resolve_right e
          subst this
          rw [setO_ob, if_neg e, setO_ob, if_pos rfl]; trivial
      · by_cases e : m = id
        · subst e
          rw [setO_ob, if_pos rfl, hbid] at hb
          rcases k5 with k5 | k5
          · rw [k5, hblk] at hb
            exact ⟨(hs.own n b (by rw [hbk]; exact hb)).1, .inl ⟨n, .inl rfl, by rw [hbk]; exact hb⟩⟩
          · rw [k5] at hb
            cases hb
            exact ⟨fun hf => Nat.lt_irrefl _ (hFb _ hf), .inr (.inl (Nat.le_refl _))⟩
        · have : m = n := hm.resolve_right e
          subst this
          rw [setO_ob, if_neg e, setO_ob, if_pos rfl] at hb
          simp [blk] at hb
      · rcases hm with hm | hm
        · have hm' : m ≠ id := fun e => hid (e.symm.trans hm)
          rw [setO_ob, if_neg hm', setO_ob, if_pos hm] at hb
          simp [blk] at hb
        · have hk' : k = n := hk.resolve_right fun e => hne (hm.trans e.symm)
          have hk2 : k ≠ id := fun e => hid (e.symm.trans hk')
          rw [setO_ob, if_neg hk2, setO_ob, if_pos hk']
          simp [blk]
    · intro e; rw [setO_ob, if_pos rfl] at e; cases e
  unfold appendM at h
  split at h
  · split at h
    · rename_i T
      obtain ⟨ys, h, hsrc⟩ := src_sound h hs hb
      replace h := test_exec h; obtain ⟨ht, h⟩ := h
      simp only [Bool.and_eq_true] at ht
      exact nilc hsrc ha (Nat.eq_of_beq_eq_true ht.1) ht.2 h
    · simp [M.exec] at h
  · rename_i n
    obtain ⟨hl, ha, _⟩ := ha
    simp only [M.exec] at h
    split at h
    · rename_i e1 T xs hob
      replace h := test_exec h; obtain ⟨he1, h⟩ := h
      obtain ⟨ys, h, hsrc⟩ := src_sound h hs hb
      simp only [M.exec] at h
      replace h := test_exec h; obtain ⟨ht, h⟩ := h
      simp only [Bool.and_eq_true] at ht
      have hob' := hs.objs n
      rw [hob] at hob'
      obtain ⟨hes, cells, hrow, hc⟩ := hob'
      have he1 := Nat.eq_of_beq_eq_true he1
      exact rowc hob he1 (by rw [ha, ← he1]; exact hrow) hc (by rw [ha]) hsrc (Nat.eq_of_beq_eq_true ht.1) ht.2 h
    · simp [M.exec] at h
  · rename_i n hi'
    obtain ⟨hl, hsub⟩ := ha
    simp only [M.exec] at h
    split at h
    · rename_i e1 T xs hob
      replace h := test_exec h; obtain ⟨he1, h⟩ := h
      simp only [Bool.and_eq_true] at he1
      have hle := of_decide_eq_true he1.2
      obtain ⟨ys, h, hsrc⟩ := src_sound h hs hb
      simp only [M.exec] at h
      replace h := test_exec h; obtain ⟨ht, h⟩ := h
      simp only [Bool.and_eq_true] at ht
      have hob' := hs.objs n
      rw [hob] at hob'
      obtain ⟨hes, cells, hrow, hc⟩ := hob'
      have he1 := Nat.eq_of_beq_eq_true he1.1
      rw [hes] at hsub
      obtain ⟨ht1, ht2⟩ := own_take hrow hsub
      have hlen : (xs.take hi').length = hi' := by rw [List.length_take]; omega
      exact rowc hob he1 (by rw [hlen, ← he1]; exact ht1) (RowC_take hc hi') ht2 hsrc (Nat.eq_of_beq_eq_true ht.1) ht.2 h
    · simp [M.exec] at h
  · simp [M.exec] at h
end
end Go.Gx

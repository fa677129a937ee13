/-
  Gx, part E3: new memory, slices, appends.
-/
import Derived.Test.YtpcnmlpikiigaaaXE2
set_option linter.unusedVariables false
set_option linter.unusedSimpArgs false
namespace Go.Gx
section
variable {P : Program} {cx : Ctx} {nt : Fr} {ρ : Rho} {F : Nat → Prop} {σ σ' : St} {a : Act} {w w' : World} {o : Oper} {K : Act → World → Prop} {Q : Exit → Act → World → Prop}
/-- A new object in new memory. -/
theorem Sim.grow (hs : Sim cx nt ρ F σ a w) {n : Nat} {ob : Obj} (hn : σ.ob n = .absent) (hne : ob ≠ .absent) (hp : Pr (fun _ => False) w w') {ρ1 : Rho} (hρ : ∀ m, m ≠ n → ρ1.hd m = ρ.hd m ∧ ρ1.bx m = ρ.bx m ∧ ρ1.es m = ρ.es m)
    (hor : OR ρ1 F w' (σ.setO n ob).live n ob) (hb : ∀ b, blk ρ1 n ob = some b → w.heap.size ≤ b) : Sim cx nt ρ1 F (σ.setO n ob) a w' := by
  refine hs.step (fun m => m = n) (fun _ => False) (fun _ => False) hp (fun _ h => h.elim) (fun _ h => h.elim) (fun m hm => by rw [setO_ob, if_neg hm]) (live_setO hne) (fun m hm => hρ m fun e => hm (e ▸ hn))
    (fun _ h => h) (fun _ h => .inl h) (fun m hm => ?_) (fun m b hm hb' => ?_) (fun m k b hm hk hne => absurd (hm.trans hk.symm) hne) hs.defers hs.size hs.pin (fun s => .inl ⟨rfl, rfl⟩)
  · subst hm; rw [setO_ob, if_pos rfl]; exact hor
  · subst hm
    rw [setO_ob, if_pos rfl] at hb'
    have := hb b hb'
    exact ⟨fun hf => by have := (hs.Fb b hf).1; omega, .inr (.inl this)⟩
theorem pr_alloc (w : World) (ob : Go.Obj) : Pr (fun _ => False) w (w.alloc ob) := ⟨rfl, rfl, rfl, by simp, fun b hb _ => heap_alloc_old w ob b hb⟩
theorem Sim.growBox (hs : Sim cx nt ρ F σ a w) {n : Nat} {e : TypeId} {vs : List SV} {cs : Array Value} (hn : σ.ob n = .absent) (hv : All2 (LR0 ρ F w σ.live) vs cs.toList) :
    ∃ ρ1, Sim cx nt ρ1 F (σ.setO n (.box e vs)) a (w.alloc (.cells cs e)) ∧ VR ρ1 F (w.alloc (.cells cs e)) (σ.setO n (.box e vs)).live (.box n 0) (.pointer (some ⟨w.heap.size, 0, none⟩)) := by
  have hne : Obj.box e vs ≠ .absent := by simp
  have hρ : ∀ m, m ≠ n → (ρ.put n undef w.heap.size 0).hd m = ρ.hd m ∧ (ρ.put n undef w.heap.size 0).bx m = ρ.bx m ∧ (ρ.put n undef w.heap.size 0).es m = ρ.es m := fun m hm => ρ.put_ne hm
  refine ⟨ρ.put n undef w.heap.size 0, hs.grow hn hne (pr_alloc w _) hρ ⟨cs, by simpa [Rho.put] using heap_alloc_new w (.cells cs e), ?_⟩ (fun b hb => ?_), ?_, by simp [Rho.put]⟩
  · exact hv.imp fun _ _ h => LR0_mono (live_setO hne) (fun m hm => hρ m fun e => hm (e ▸ hn)) (fun _ h => h) (fun b hb => heap_alloc_old w _ b (hs.Fb b hb).1) h
  · simp [blk, Rho.put] at hb; omega
  · intro e; rw [setO_ob, if_pos rfl] at e; cases e
theorem Sim.growRow (hs : Sim cx nt ρ F σ a w) {n : Nat} {e : TypeId} {t : Ty} {xs : List t.I} {v : Value} {cells : List Value} (hn : σ.ob n = .absent) (hp : Pr (fun _ => False) w w') (ho : w'.ownsRow 0 e t.sz v xs.length cells) (hc : RowC F w' t xs cells)
    (hb : ∀ b, v.ownBlock = some b → w.heap.size ≤ b) :
    ∃ ρ1, Sim cx nt ρ1 F (σ.setO n (.row e t xs)) a w' ∧ VR ρ1 F w' (σ.setO n (.row e t xs)).live (.own n) v := by
  have hne : Obj.row e t xs ≠ .absent := by simp
  obtain ⟨A, c, hsl⟩ := ownsRow_slice ho
  refine ⟨ρ.put n v 0 t.sz, hs.grow hn hne hp (fun m hm => ρ.put_ne hm) ⟨by simp [Rho.put], cells, by simpa [Rho.put] using ho, hc⟩ (fun b hb' => hb b (by simpa [blk, Rho.put] using hb')), ?_, by simp [Rho.put], A, _, c, hsl⟩
  intro e; rw [setO_ob, if_pos rfl] at e; cases e
theorem All2_leafOf {lv : Nat → Prop} (l : List Value) : All2 (LR0 ρ F w lv) (l.map leafOf) l := by
  induction l with
  | nil => trivial
  | cons x l ih => exact ⟨LR0_leafOf, ih⟩
theorem cellsOf_leafOf (v : Value) : (leafOf v).cellsOf = [leafOf v] := by
  unfold leafOf
  split <;> rfl
theorem zero_cells {lv : Nat → Prop} (z : Value) : All2 (LR0 ρ F w lv) (svOf z).cellsOf z.cells.toList := by
  cases z with
  | agg cs => exact All2_leafOf _
  | _ => simp only [svOf, cellsOf_leafOf, Value.cells]; exact ⟨LR0_leafOf, trivial⟩
theorem alloc_sound {t : TypeId} {i : TI} {n : Nat} {kk : MU} {r : Unit × St} (hi : tinfo P t = some i) (hz : i.hasZ = true) (h : (newO n (.box t (zeroOf i)) kk).exec σ = some r) (hs : Sim cx nt ρ F σ a w) (ho : o.op = .alloc t) :
    ∃ σ1 ρ1 v w', kk.exec σ1 = some r ∧ Sim cx nt ρ1 F σ1 a w' ∧ VR ρ1 F w' σ1.live (.box n 0) v ∧ (execOp a.eval o).run P w = .ok (.value v) w' := by
  obtain ⟨h1, h2⟩ := newO_exec h
  obtain ⟨inf, hi1, _, _, hi2⟩ := zero_spec hi hz
  obtain ⟨ρ1, h3, h4⟩ := hs.growBox (e := t) (cs := i.zero.cells) h1 (zero_cells i.zero)
  refine ⟨_, ρ1, _, _, h2, h3, h4, ?_⟩
  simp [execOp, ho, Instr.alloc, zeroValue, typeInfo, hi1, hi2, newVar, newRow]
theorem box_sound {t : TypeId} {x : Operand} {n : Nat} {sv : SV} {kk : MU} {r : Unit × St} (h : (newO n (.box t sv.cellsOf) kk).exec σ = some r) (hc : sv.cellsOf.all SV.cell = true) (hs : Sim cx nt ρ F σ a w) (hv : VR ρ F w σ.live sv (a.eval x)) (ho : o.op = .box t x) :
    ∃ σ1 ρ1 v w', kk.exec σ1 = some r ∧ Sim cx nt ρ1 F σ1 a w' ∧ VR ρ1 F w' σ1.live (.box n 0) v ∧ (execOp a.eval o).run P w = .ok (.value v) w' := by
  obtain ⟨h1, h2⟩ := newO_exec h
  obtain ⟨ρ1, h3, h4⟩ := hs.growBox (e := t) (cs := (a.eval x).cells) h1 (cells_of hc hv).1
  refine ⟨_, ρ1, _, _, h2, h3, h4, ?_⟩
  simp [execOp, ho, Instr.box, newVar, newRow]

/-! ### Literals -/
theorem foldl_set (off : Nat) : ∀ (vs : List Value) (k : Nat) (cur : Array Value), off + k + vs.length ≤ cur.size →
    ((vs.zipIdx k).foldl (fun cs (c, j) => cs.setIfInBounds (off + j) c) cur).toList = cur.toList.take (off + k) ++ vs ++ cur.toList.drop (off + k + vs.length)
  | [], k, cur, _ => by simp
  | v :: vs, k, cur, h => by
    simp only [List.zipIdx_cons, List.foldl_cons]
    rw [foldl_set off vs (k + 1) (cur.setIfInBounds (off + k) v) (by simp at h ⊢; omega)]
    apply List.ext_getElem?
    intro q
    simp only [List.length_cons] at h
    have hls : cur.toList.length = cur.size := Array.length_toList
    rw [show off + (k + 1) = (off + k) + 1 by omega, show off + k + (v :: vs).length = off + k + (v :: vs).length from rfl]
    rw [splice_get (by simp; omega), splice_get (us := cur.toList) (ds := v :: vs) (by simp; omega)]
    simp only [Array.toList_setIfInBounds, List.length_cons, List.getElem?_set]
    by_cases h1 : q < off + k
    · rw [if_pos (by omega), if_pos h1, if_neg (by omega)]
    · rw [if_neg h1]
      by_cases h2 : q = off + k
      · subst h2
        rw [if_pos (by omega), if_pos rfl, if_pos (by omega)]
        simp
      · rw [if_neg (by omega)]
        by_cases h3 : q < off + k + 1 + vs.length
        · rw [if_pos h3, if_pos (by omega), show q - (off + k) = (q - (off + k + 1)) + 1 by omega, List.getElem?_cons_succ]
        · rw [if_neg h3, if_neg (by omega), if_neg (by omega)]
theorem fill_one {place : Nat → Option (Nat × Nat)} {cells : Array Value} {i off sz : Nat} {v : Value} {rest : List (Nat × Value)} (hp : place i = some (off, sz)) (hz : v.cells.size = sz) (hle : off + sz ≤ cells.size) :
    ∃ c1 : Array Value, Instr.fill place cells ((i, v) :: rest) = Instr.fill place c1 rest ∧ c1.toList = cells.toList.take off ++ v.cells.toList ++ cells.toList.drop (off + v.cells.toList.length) := by
  refine ⟨v.cells.zipIdx.foldl (fun cs (c, j) => cs.setIfInBounds (off + j) c) cells, ?_, ?_⟩
  · have h1 : ¬ (v.cells.size ≠ sz ∨ off + v.cells.size > cells.size) := by rw [hz]; omega
    simp only [Instr.fill, hp]
    have h2 : (decide (v.cells.size ≠ sz) || decide (off + v.cells.size > cells.size)) = false := by
      rw [Bool.or_eq_false_iff]; exact ⟨by simp [hz], by simp; omega⟩
    simp only [ne_eq, hz, not_true, decide_false, Bool.false_or]
    rw [if_neg (by simp; omega)]
  · rw [← Array.foldl_toList, Array.toList_zipIdx]
    have := foldl_set off v.cells.toList 0 cells (by simp; omega)
    simpa using this
theorem fill_sound {fs : List (Nat × Nat × Bool)} {place : Nat → Option (Nat × Nat)} (hpl : ∀ i, place i = (fs[i]?).map fun f => (f.1, f.2.1)) : ∀ {parts : List (Nat × SV)} {cparts : List (Nat × Value)} {vs : List SV} {cells : Array Value} {kk : List SV → MU} {r : Unit × St},
    (fillM vs fs parts kk).exec σ = some r → All2 (LR0 ρ F w σ.live) vs cells.toList → All2 (fun p q => p.1 = q.1 ∧ VR ρ F w σ.live p.2 q.2) parts cparts →
    ∃ vs' cells', (kk vs').exec σ = some r ∧ Instr.fill place cells cparts = some cells' ∧ All2 (LR0 ρ F w σ.live) vs' cells'.toList
  | [], cparts, vs, cells, kk, r, h, hv, hp => by
    rw [hp.nil_left]
    exact ⟨vs, cells, h, rfl, hv⟩
  | p :: parts, [], vs, cells, kk, r, h, hv, hp => hp.elim
  | (i, sv) :: parts, (j, v) :: cparts, vs, cells, kk, r, h, hv, hp => by
    obtain ⟨⟨rfl, hx⟩, hp⟩ := hp
    simp only [fillM] at h
    split at h
    · rename_i off z ag hf
      replace h := test_exec h; obtain ⟨ht, h⟩ := h
      simp only [Bool.and_eq_true] at ht
      obtain ⟨⟨ht1, ht2⟩, ht3⟩ := ht
      have ht1 := Nat.eq_of_beq_eq_true ht1
      have ht2 := Nat.le_of_ble_eq_true ht2
      obtain ⟨hc1, _⟩ := cells_of ht3 hx
      have hl := hc1.length
      have hl2 := hv.length
      have hsz : v.cells.size = z := by rw [← ht1, hl]; simp
      obtain ⟨c1, h1, h2⟩ := fill_one (place := place) (cells := cells) (i := i) (v := v) (rest := cparts) (by rw [hpl, hf]; rfl) hsz (by rw [hl2] at ht2; simpa using ht2)
      obtain ⟨vs', cells', h3, h4, h5⟩ := fill_sound hpl h (by rw [h2]; exact hv.splice hc1 off) hp
      exact ⟨vs', cells', h3, by rw [show (Prod.fst (i, sv), v) = (i, v) from rfl] at *; rw [h1]; exact h4, h5⟩
    · simp [M.exec] at h
theorem fill_seq {sz n : Nat} {place : Nat → Option (Nat × Nat)} (hpl : ∀ i, place i = some (i * sz, sz)) : ∀ (vs : List Value) (k : Nat) (cells : Array Value), (∀ v ∈ vs, v.cells.size = sz) → k + vs.length = n → cells.size = n * sz →
    ∃ cells' : Array Value, Instr.fill place cells ((List.range' k vs.length).zip vs) = some cells' ∧ cells'.toList = cells.toList.take (k * sz) ++ vs.flatMap (·.cells.toList)
  | [], k, cells, _, hk, hc => by
    refine ⟨cells, by simp [Instr.fill], ?_⟩
    have : k = n := by simpa using hk
    subst this
    simp
    rw [List.take_of_length_le (by simp [hc])]
  | v :: vs, k, cells, hv, hk, hc => by
    simp only [List.length_cons] at hk
    have hle : k * sz + sz ≤ n * sz := by rw [← Nat.succ_mul]; exact Nat.mul_le_mul_right _ (by omega)
    obtain ⟨c1, h1, h2⟩ := fill_one (place := place) (cells := cells) (i := k) (v := v) (rest := (List.range' (k + 1) vs.length).zip vs) (hpl k) (hv v (by simp)) (by omega)
    have hl : v.cells.toList.length = sz := by simpa using hv v (by simp)
    have hc1 : c1.size = n * sz := by
      have : c1.toList.length = n * sz := by
        rw [h2, List.length_append, List.length_append, List.length_take, List.length_drop, hl, Array.length_toList, hc]; omega
      simpa using this
    obtain ⟨c2, h3, h4⟩ := fill_seq hpl vs (k + 1) c1 (fun x hx => hv x (by simp [hx])) (by omega) hc1
    refine ⟨c2, ?_, ?_⟩
    · rw [List.length_cons, List.range'_succ, List.zip_cons_cons, h1]; exact h3
    · rw [h4, h2, List.flatMap_cons, ← List.append_assoc]
      congr 1
      rw [List.take_append_of_le_length (by rw [List.length_append, List.length_take, hl, Array.length_toList, hc, Nat.succ_mul]; omega)]
      rw [List.take_of_length_le (by rw [List.length_append, List.length_take, hl, Array.length_toList, hc, Nat.succ_mul]; omega)]
theorem RowC_flat {t : Ty} : ∀ {xs : List t.I} {vs : List Value}, All2 (fun x v => TC F w t x v.cells.toList) xs vs → RowC F w t xs (vs.flatMap (·.cells.toList)) ∧ (∀ v ∈ vs, v.cells.size = t.sz)
  | [], vs, h => by rw [h.nil_left]; exact ⟨fun i x hi => by simp at hi, fun v hv => by simp at hv⟩
  | x :: xs, [], h => h.elim
  | x :: xs, v :: vs, h => by
    obtain ⟨ih1, ih2⟩ := RowC_flat h.2
    have hl := TC_len h.1
    refine ⟨fun i y hy => ?_, fun u hu => ?_⟩
    · cases i with
      | zero =>
        simp only [List.getElem?_cons_zero, Option.some.injEq] at hy
        subst hy
        rw [List.flatMap_cons, Nat.zero_mul, List.drop_zero, List.take_append_of_le_length (by omega), List.take_of_length_le (by omega)]
        exact h.1
      | succ i =>
        have := ih1 i y (by simpa using hy)
        rw [List.flatMap_cons, List.drop_append, List.drop_of_length_le (by rw [hl, Nat.succ_mul]; omega), List.nil_append, hl, show (i + 1) * t.sz - t.sz = i * t.sz by rw [Nat.succ_mul]; omega]
        exact this
    · rcases List.mem_cons.1 hu with rfl | hu
      · simpa using hl
      · exact ih2 u hu
end
end Go.Gx

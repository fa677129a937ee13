/-
  Gx, part E4: build, buildSlice, makeSlice, slices of slices, indices, appends.
-/
import Derived.Test.YtpcnmlpikiigaaaXE3
import Derived.Maps.AppendAt
set_option linter.unusedVariables false
set_option linter.unusedSimpArgs false
namespace Go.Gx
section
variable {P : Program} {cx : Ctx} {nt : Fr} {ρ : Rho} {F : Nat → Prop} {σ σ' : St} {a : Act} {w w' : World} {o : Oper} {K : Act → World → Prop} {Q : Exit → Act → World → Prop}
theorem zip_all2 : ∀ (L : List (Nat × Operand)) {svs : List SV}, All2 (VR ρ F w σ.live) svs ((L.map (·.2)).map a.eval) →
    All2 (fun p q => p.1 = q.1 ∧ VR ρ F w σ.live p.2 q.2) ((L.map (·.1)).zip svs) (L.map fun p => (p.1, a.eval p.2))
  | [], svs, h => by simp [All2]
  | p :: L, [], h => h.elim
  | p :: L, sv :: svs, h => ⟨⟨rfl, h.1⟩, zip_all2 L h.2⟩
theorem places_eq : ∀ (fs : List Field), ((fs.map fun f => (f.offset, ((P.info? f.type).map (·.size)).getD 0, ((P.underlying f.type).map aggD).getD true)).all fun f => Nat.blt 0 f.2.1) = true →
    fs.mapM (fun f => (P.info? f.type).map fun i => (f.offset, i.size)) = some (fs.map fun f => (f.offset, ((P.info? f.type).map (·.size)).getD 0))
  | [], _ => rfl
  | f :: fs, h => by
    simp only [List.map_cons, List.all_cons, Bool.and_eq_true] at h
    have ih := places_eq fs h.2
    have h1 := h.1
    rw [List.mapM_cons, ih]
    cases hq : P.info? f.type with
    | none => rw [hq] at h1; simp [Nat.blt] at h1
    | some i => simp [hq]
theorem build_sound {t : TypeId} {i : TI} {parts : Array (Nat × Operand)} {svs : List SV} {kk : List SV → MU} {r : Unit × St} (hi : tinfo P t = some i) (hz : i.hasZ = true) (hne : i.fields.isEmpty = false) (hpos : (i.fields.all fun f => Nat.blt 0 f.2.1) = true)
    (h : (fillM (zeroOf i) i.fields ((parts.toList.map (·.1)).zip svs) kk).exec σ = some r) (hs : Sim cx nt ρ F σ a w) (hv : All2 (VR ρ F w σ.live) svs ((parts.toList.map (·.2)).map a.eval)) (ho : o.op = .build t parts) :
    ∃ cs v, (kk cs).exec σ = some r ∧ VR ρ F w σ.live (.agg cs) v ∧ (execOp a.eval o).run P w = .ok (.value v) w := by
  obtain ⟨d, inf0, h1, h2, _, _, _, _, hf, _⟩ := tinfo_spec hi
  obtain ⟨inf, hi1, _, _, hi2⟩ := zero_spec hi hz
  cases d with
  | struct fs =>
    simp only at hf
    have hpl := places_eq (P := P) fs.toList (by rw [← hf]; exact hpos)
    obtain ⟨vs', cells', h3, h4, h5⟩ := fill_sound (place := fun x => ((fs.toList.map fun f => (f.offset, ((P.info? f.type).map (·.size)).getD 0)).toArray)[x]?) (fun j => by rw [hf]; simp [Function.comp_def]) h (zero_cells i.zero) (zip_all2 _ hv)
    refine ⟨vs', _, h3, ⟨cells', rfl, h5⟩, ?_⟩
    have hb : P.built t (parts.map fun (i, x) => (i, a.eval x)).toList = some cells' := by
      unfold Program.built
      rw [hi1, h1]
      simp only [hi2, hpl]
      rw [← h4]
      congr 1
      simp
    have := run_build (P := P) w t (parts.map fun (i, x) => (i, a.eval x)) cells' hb
    simp [execOp, ho, this]
  | _ => rw [hf] at hne; simp at hne
theorem zip_range (L : List (Nat × Operand)) (n : Nat) (h : (L.map (·.1)) = List.range n) : (L.map fun p => (p.1, a.eval p.2)) = (List.range' 0 ((L.map (·.2)).map a.eval).length).zip ((L.map (·.2)).map a.eval) := by
  have hl : L.length = n := by have := congrArg List.length h; simpa using this
  rw [List.length_map, List.length_map, hl, ← List.range_eq_range', ← h]
  clear h hl
  induction L with
  | nil => rfl
  | cons p L ih => simp [ih]
theorem run_buildSlice0 (w : World) (t e : TypeId) (len : Nat) (parts : Array (Nat × Value)) (cells : Array Value) (ie : TypeInfo) (z : Value)
    (hu : P.underlying t = some (.slice e)) (hie : P.info? e = some ie) (hz : ie.zero = some z) (hsmall : ¬ len * ie.size > 2 ^ 24) (hpos : ¬ len * ie.size = 0)
    (h : Instr.fill (fun i => some (i * ie.size, ie.size)) ((Array.range (len * ie.size)).map (z.cells[· % z.cells.size]!)) parts.toList = some cells) :
    (Instr.buildSlice t len parts).run P w = .ok (.slice (some ⟨w.heap.size, 0, none⟩) len len) (w.alloc (.cells cells e)) := by
  simp [Instr.buildSlice, run_underlying hu, sizeOf, typeInfo, zeroValue, hie, hz, hsmall, hpos, h, newRow]
theorem buildSlice_sound {t e : TypeId} {i j : TI} {ty : Ty} {n id : Nat} {parts : Array (Nat × Operand)} {svs : List SV} {kk : MU} {r : Unit × St} (hi : tinfo P t = some i) (he : i.elem = some e) (hj : tinfo P e = some j) (hz : j.hasZ = true) (hsz : ty.sz = j.size)
    (hr : (parts.toList.map (·.1)) = List.range n) (hsm : n * j.size ≤ 16777216)
    (h : (elems ty svs fun xs => newO id (.row e ty xs) kk).exec σ = some r) (hs : Sim cx nt ρ F σ a w) (hv : All2 (VR ρ F w σ.live) svs ((parts.toList.map (·.2)).map a.eval)) (ho : o.op = .buildSlice t n parts) :
    ∃ σ1 ρ1 F1 v w', kk.exec σ1 = some r ∧ Sim cx nt ρ1 F1 σ1 a w' ∧ VR ρ1 F1 w' σ1.live (.own id) v ∧ (execOp a.eval o).run P w = .ok (.value v) w' := by
  have hu := elem_spec hi he
  obtain ⟨inf, hj1, hj2, hj3, hj4⟩ := zero_spec hj hz
  obtain ⟨xs, σ1, F1, h1, h2, h3, h4⟩ := elems_sound h hs hv
  obtain ⟨h5, h6⟩ := newO_exec h1
  obtain ⟨h7, h8⟩ := RowC_flat h4
  have hlen : ((parts.toList.map (·.2)).map a.eval).length = n := by
    have := congrArg List.length hr
    simpa using this
  have hxl : xs.length = n := by rw [h4.length]; exact hlen
  have hbase : ∃ cells0 : Array Value, cells0.size = n * ty.sz ∧ ∀ cells', Instr.fill (fun i => some (i * ty.sz, ty.sz)) cells0 (parts.map fun (i, x) => (i, a.eval x)).toList = some cells' →
      (execOp a.eval o).run P w = .ok (.value (.slice (some ⟨w.heap.size, 0, none⟩) n n)) (w.alloc (.cells cells' e)) := by
    by_cases h0 : n * j.size = 0
    · refine ⟨#[], by rw [hsz, h0]; rfl, fun cells' hf => ?_⟩
      have hn0 : n = 0 := by
        rcases Nat.mul_eq_zero.1 h0 with h | h
        · exact h
        · have := ty.sz_pos; omega
      subst hn0
      have hp : parts = #[] := by
        have : parts.toList.map (·.1) = [] := by simpa using hr
        simpa using this
      subst hp
      simp [Instr.fill] at hf
      subst hf
      simp [execOp, ho, Instr.buildSlice, run_underlying hu, sizeOf, typeInfo, hj1, hj2, newRow, Instr.fill, Array.range_zero']
    · refine ⟨(Array.range (n * j.size)).map (j.zero.cells[· % j.zero.cells.size]!), by simp [hsz], fun cells' hf => ?_⟩
      have := run_buildSlice0 (P := P) w t e n (parts.map fun (i, x) => (i, a.eval x)) cells' inf j.zero hu hj1 hj4 (by rw [hj2]; omega) (by rw [hj2]; exact h0) (by rw [hj2, ← hsz]; rw [hsz] at hf ⊢; exact hf)
      simp [execOp, ho, this]
  obtain ⟨cells0, hc0, hrun⟩ := hbase
  obtain ⟨cells', h9, h10⟩ := fill_seq (sz := ty.sz) (n := n) (place := fun i => some (i * ty.sz, ty.sz)) (fun _ => rfl) ((parts.toList.map (·.2)).map a.eval) 0 cells0 h8 (by omega) hc0
  have hrun := hrun cells' (by
    rw [← h9]
    congr 1
    rw [← zip_range (a := a) parts.toList n hr]
    simp)
  simp only [Nat.zero_mul, List.take_zero, List.nil_append] at h10
  have hcl : cells'.size = n * ty.sz := by
    have : cells'.toList.length = n * ty.sz := by
      rw [h10]
      clear hrun h9 h10 hc0
      have : ∀ (l : List Value), (∀ v ∈ l, v.cells.size = ty.sz) → (l.flatMap (·.cells.toList)).length = l.length * ty.sz := by
        intro l
        induction l with
        | nil => simp
        | cons x l ih => intro hx; rw [List.flatMap_cons, List.length_append, ih (fun v hv => hx v (by simp [hv])), List.length_cons, Nat.succ_mul, Array.length_toList, hx x (by simp)]; omega
      rw [this _ h8, hlen]
    simpa using this
  have hown : (w.alloc (.cells cells' e)).ownsRow 0 e ty.sz (.slice (some ⟨w.heap.size, 0, none⟩) n n) xs.length cells'.toList := by
    rw [hxl]
    have hle : n ≤ n * j.size := by rw [← hsz]; exact Nat.le_mul_of_pos_right _ ty.sz_pos
    exact World.ownsRow_lit w cells' n (Nat.zero_le _) (by simp only [maxLen]; omega) hcl
  have hFw : ∀ b, F1 b → (w.alloc (.cells cells' e)).heap[b]? = w.heap[b]? := fun b hb => heap_alloc_old w _ b (h2.Fb b hb).1
  obtain ⟨ρ1, h11, h12⟩ := h2.growRow (w' := w.alloc (.cells cells' e)) h5 (pr_alloc w _) hown (by rw [h10]; exact RowC_mono (fun _ h => h) hFw h7) (fun b hb => by simp [Value.ownBlock] at hb; omega)
  exact ⟨_, ρ1, F1, _, _, h6, h11, h12, hrun⟩
end
end Go.Gx

/-
  Gx, part E5: makeSlice, slices of slices, indices, appends.
-/
import Derived.Test.YtpcnmlpikiigaaaXE4
set_option linter.unusedVariables false
set_option linter.unusedSimpArgs false
namespace Go.Gx
section
variable {P : Program} {cx : Ctx} {nt : Fr} {ρ : Rho} {F : Nat → Prop} {σ σ' : St} {a : Act} {w w' : World} {o : Oper} {K : Act → World → Prop} {Q : Exit → Act → World → Prop}
theorem zmatch_sound : ∀ {t : Ty} {zs rest : List Value}, zmatch t zs = some rest → ∃ z1, zs = z1 ++ rest ∧ TC F w t t.dflt z1
  | .pair t1 t2, zs, rest, h => by
    simp only [zmatch, Option.bind_eq_some_iff] at h
    obtain ⟨r1, h1, h2⟩ := h
    obtain ⟨z1, rfl, h3⟩ := zmatch_sound h1
    obtain ⟨z2, rfl, h4⟩ := zmatch_sound h2
    exact ⟨z1 ++ z2, by simp, z1, z2, rfl, h3, h4⟩
  | .int k, zs, rest, h => by
    unfold zmatch at h
    split at h <;> first | (cases h; done) | (rename_i e; cases e; done) | skip
    rename_i e
    cases e
    split at h
    · rename_i e; subst e; cases h; exact ⟨[_], rfl, rfl⟩
    · cases h
  | .bool, zs, rest, h => by
    unfold zmatch at h
    split at h <;> first | (cases h; done) | (rename_i e; cases e; done) | skip
    cases h; exact ⟨[_], rfl, rfl⟩
  | .str, zs, rest, h => by
    unfold zmatch at h
    cases h
  | .sl t, zs, rest, h => by
    unfold zmatch at h
    split at h <;> first | (rename_i e; cases e; done) | skip
    · cases h
      exact ⟨[_], rfl, none, 0, rfl, Nat.le_refl _, by simp [maxLen], fun i x hi => by simp [Ty.dflt] at hi⟩
    · cases h
  | .slo t, zs, rest, h => by
    unfold zmatch at h
    split at h <;> first | (rename_i e; cases e; done) | skip
    · cases h
      exact ⟨[_], rfl, fun _ => rfl, none, 0, rfl, Nat.le_refl _, by simp [maxLen], fun i x hi => by simp [Ty.dflt] at hi⟩
    · cases h
theorem madeCells_chunk (z : Array Value) (n i : Nat) (hi : i < n) : ((madeCells z (n * z.size)).toList.drop (i * z.size)).take z.size = z.toList := by
  have hle : i * z.size + z.size ≤ n * z.size := by rw [← Nat.succ_mul]; exact Nat.mul_le_mul_right _ hi
  apply List.ext_getElem?
  intro j
  rw [List.getElem?_take]
  by_cases hj : j < z.size
  · rw [if_pos hj, List.getElem?_drop]
    have h1 : i * z.size + j < n * z.size := by omega
    simp [madeCells, h1, Nat.mul_add_mod_self_right, Nat.mod_eq_of_lt hj, hj]
  · rw [if_neg hj, List.getElem?_eq_none (by simp; omega)]
theorem makeSlice_sound {t e : TypeId} {i j : TI} {ty : Ty} {id : Nat} {l c : Operand} {z : Int} {kk : MU} {r : Unit × St} (hi : tinfo P t = some i) (he : i.elem = some e) (hj : tinfo P e = some j) (hz : j.hasZ = true) (hsz : ty.sz = j.size) (hby : j.bytes ≤ 64)
    (hzm : (zmatch ty j.zero.cells.toList).map (·.length) = some 0) (h0 : 0 ≤ z) (hl : z ≤ (lim : Int))
    (h : (newO id (.row e ty (List.replicate z.toNat ty.dflt)) kk).exec σ = some r) (hs : Sim cx nt ρ F σ a w) (h1 : a.eval l = .int .i64 z) (h2 : a.eval c = .int .i64 z) (ho : o.op = .makeSlice t l c) :
    ∃ σ1 ρ1 v w', kk.exec σ1 = some r ∧ Sim cx nt ρ1 F σ1 a w' ∧ VR ρ1 F w' σ1.live (.own id) v ∧ (execOp a.eval o).run P w = .ok (.value v) w' := by
  have hu := elem_spec hi he
  obtain ⟨inf, hj1, hj2, hj3, hj4⟩ := zero_spec hj hz
  obtain ⟨h5, h6⟩ := newO_exec h
  obtain ⟨m, rfl⟩ := Int.eq_ofNat_of_zero_le h0
  have hm : m ≤ lim := by omega
  have hlim : lim = 549755813888 := rfl
  have hrun := run_make (P := P) w t e inf j.zero hu hj1 hj4 .i64 .i64 (m : Int) (m : Int) h0 (Int.le_refl _) (by
    rw [hj3]
    have : ((j.bytes * m : Nat) : Int) ≤ 281474976710656 := by
      have : j.bytes * m ≤ 64 * 549755813888 := Nat.mul_le_mul hby (by omega)
      omega
    rwa [Int.natCast_mul] at this) (by omega)
  simp only [Int.toNat_natCast] at hrun h6 ⊢
  have hzc : zmatch ty j.zero.cells.toList = some [] := by
    cases hq : zmatch ty j.zero.cells.toList with
    | none => rw [hq] at hzm; simp at hzm
    | some l => rw [hq] at hzm; simp at hzm; rw [hzm]
  have htc : ∀ w : World, TC F w ty ty.dflt j.zero.cells.toList := by
    intro w
    obtain ⟨z1, e1, h3⟩ := zmatch_sound (F := F) (w := w) hzc
    rw [List.append_nil] at e1
    rw [e1]; exact h3
  have hzs : j.zero.cells.size = ty.sz := by have := TC_len (htc w); simpa using this
  have hown : (w.alloc (.cells (madeCells j.zero.cells (m * inf.size)) e)).ownsRow 0 e ty.sz (.slice (some ⟨w.heap.size, 0, none⟩) m m) (List.replicate m ty.dflt).length (madeCells j.zero.cells (m * inf.size)).toList := by
    rw [List.length_replicate]
    exact World.ownsRow_lit w _ m (Nat.zero_le _) (by simp only [maxLen]; omega) (by rw [size_madeCells, hj2, hsz])
  obtain ⟨ρ1, h11, h12⟩ := hs.growRow (w' := w.alloc (.cells (madeCells j.zero.cells (m * inf.size)) e)) h5 (pr_alloc w _) hown (fun i x hi => by
    rw [List.getElem?_replicate] at hi
    split at hi
    · cases hi
      rename_i him
      rw [hj2, ← hsz, ← hzs, madeCells_chunk _ _ _ him]
      exact htc _
    · cases hi) (fun b hb => by simp [Value.ownBlock] at hb; omega)
  refine ⟨_, ρ1, _, _, h6, h11, h12, ?_⟩
  simp only [execOp, ho, h1, h2, Sem.run_bind, hrun, Result.andThen_ok, Sem.run_pure]

/-! ### Indices -/
theorem run_indexAt {t e : TypeId} {j : TI} {x y : Operand} {ad : Addr} {l c : Nat} {k : IntKind} {z : Int} (hu : P.underlying t = some (.slice e)) (hj : tinfo P e = some j) (hx : a.eval x = .slice (some ad) l c) (hy : a.eval y = .int k z) (hz : inb z l = true) (ho : o.op = .indexAddr t x y) :
    (execOp a.eval o).run P w = .ok (.value (.pointer (some (ad.add (z.toNat * j.size))))) w := by
  have hb := of_decide_eq_true hz
  simp [execOp, ho, hx, hy, Instr.indexAt, asIntOf, run_underlying hu, hb.1, hb.2, run_sizeOf hj]
theorem TC_head {t : Ty} {xs : List t.I} {v : Value} (h : TC F w (.sl t) xs [v]) (hp : 0 < xs.length) : ∃ ad c, v = .slice (some ad) xs.length c ∧ F ad.block := by
  obtain ⟨A, c, e, _, _, hx⟩ := h
  simp only [List.cons.injEq, and_true] at e
  obtain ⟨ad, ds, rfl, hb, _⟩ := hx 0 _ (getD_some (d := t.dflt) hp)
  exact ⟨ad, c, e, hb⟩
theorem indexAddr_sound {t e : TypeId} {i j : TI} {x y : Operand} {sa sb : SV} {kk : SV → MU} {r : Unit × St} (hi : tinfo P t = some i) (he : i.elem = some e) (hj : tinfo P e = some j) (h : (indexAddrM j.size sa sb kk).exec σ = some r) (hs : Sim cx nt ρ F σ a w)
    (ha : VR ρ F w σ.live sa (a.eval x)) (hb : VR ρ F w σ.live sb (a.eval y)) (ho : o.op = .indexAddr t x y) :
    ∃ sv v, (kk sv).exec σ = some r ∧ VR ρ F w σ.live sv v ∧ (execOp a.eval o).run P w = .ok (.value v) w := by
  have hu := elem_spec hi he
  unfold indexAddrM at h
  split at h
  · rename_i ty xs k z
    replace h := test_exec h; obtain ⟨ht, h⟩ := h
    simp only [Bool.and_eq_true] at ht
    have hsz := Nat.eq_of_beq_eq_true ht.1
    have hz := of_decide_eq_true ht.2
    have hlt : z.toNat < xs.length := by omega
    have htc : TC F w (.sl ty) xs [a.eval x] := ha
    obtain ⟨ad, c, hx, hF⟩ := TC_head htc (by omega)
    refine ⟨_, _, h, ⟨_, rfl, fun q sv hq => ⟨by rw [add_block]; exact hF, ?_⟩⟩, run_indexAt hu hj hx hb ht.2 ho⟩
    obtain ⟨A, c', e', _, _, hxs⟩ := htc
    simp only [List.cons.injEq, and_true] at e'
    rw [hx] at e'
    simp only [Value.slice.injEq] at e'
    obtain ⟨rfl, _, rfl⟩ := e'
    obtain ⟨ad', ds, e'', _, htc', hcell⟩ := hxs z.toNat _ (getD_some (d := ty.dflt) hlt)
    cases e''
    obtain ⟨u, h1, h2⟩ := (TC_leaves (ρ := ρ) (lv := σ.live) htc').get hq
    exact ⟨u, by rw [add_add, ← hsz]; exact hcell q u h1, h2⟩
  · rename_i n k z
    obtain ⟨hl, hx, _⟩ := ha
    simp only [M.exec] at h
    split at h
    · rename_i e' ty xs hob
      replace h := test_exec h; obtain ⟨ht, h⟩ := h
      simp only [Bool.and_eq_true] at ht
      have hsz := Nat.eq_of_beq_eq_true ht.1
      have hz := of_decide_eq_true ht.2
      have hob' := hs.objs n
      rw [hob] at hob'
      obtain ⟨hes, cells, hrow, hc⟩ := hob'
      rcases hrow.2 with ⟨e0, e1⟩ | ⟨g, cap, cur, e0, _⟩
      · omega
      · rw [e0] at hx
        refine ⟨_, _, h, ⟨hl, g, _, _, e0, ?_⟩, run_indexAt hu hj hx hb ht.2 ho⟩
        rw [add_at, hes, ← hsz]
        simp
    · simp [M.exec] at h
  · rename_i n lo hi' k z
    obtain ⟨hl, hsub⟩ := ha
    simp only [M.exec] at h
    split at h
    · rename_i e' ty xs hob
      replace h := test_exec h; obtain ⟨ht, h⟩ := h
      simp only [Bool.and_eq_true] at ht
      have hsz := Nat.eq_of_beq_eq_true ht.1.1
      have hz := of_decide_eq_true ht.1.2
      have hle := of_decide_eq_true ht.2
      have hob' := hs.objs n
      rw [hob] at hob'
      obtain ⟨hes, cells, hrow, hc⟩ := hob'
      obtain ⟨A, l, c, A2, eh, hlo, hhi, hx, hA1, hA2⟩ := hsub
      rcases hrow.2 with ⟨e0, e1⟩ | ⟨g, cap, cur, e0, _, _, hcap, _⟩
      · omega
      · rw [e0] at eh
        simp only [Value.slice.injEq] at eh
        obtain ⟨rfl, rfl, rfl⟩ := eh
        have hne : cap ≠ lo := by omega
        rw [hA1 hne, Option.map_some] at hx
        refine ⟨_, _, h, ⟨hl, g, _, _, e0, ?_⟩, run_indexAt hu hj hx hb ht.1.2 ho⟩
        rw [add_at, add_at, hes, ← hsz, Nat.add_mul]
        simp
    · simp [M.exec] at h
  · simp [M.exec] at h

/-! ### Slices of slices -/
/-- An optional bound. -/
def OB (x : Option SV) (v : Option Value) : Prop := (x = none ∧ v = none) ∨ ∃ k z, x = some (.int k z) ∧ v = some (.int k z)
theorem bound_sound {d : Int} {x : Option SV} {kk : Int → MU} {r : Unit × St} {v : Option Operand} (h : (bound d x kk).exec σ = some r) (hx : (x = none ∧ v = none) ∨ ∃ sv y, x = some sv ∧ v = some y ∧ VR ρ F w σ.live sv (a.eval y)) :
    ∃ z, (kk z).exec σ = some r ∧ ((x = none ∧ v.map a.eval = none ∧ z = d) ∨ ∃ k, x = some (.int k z) ∧ v.map a.eval = some (.int k z)) := by
  rcases hx with ⟨rfl, rfl⟩ | ⟨sv, y, rfl, rfl, hv⟩
  · exact ⟨d, h, .inl ⟨rfl, rfl, rfl⟩⟩
  · cases sv with
    | int k z =>
      have e : a.eval y = .int k z := hv
      exact ⟨z, h, .inr ⟨k, rfl, by rw [Option.map_some, e]⟩⟩
    | _ => simp [bound, M.exec] at h
theorem run_bounds {len cap : Nat} {lo hi mx : Option Value} {l h m : Int} (hl : (lo = none ∧ l = 0) ∨ ∃ k, lo = some (.int k l)) (hh : (hi = none ∧ h = (len : Int)) ∨ ∃ k, hi = some (.int k h)) (hm : (mx = none ∧ m = (cap : Int)) ∨ ∃ k, mx = some (.int k m) ∧ hi ≠ none)
    (h0 : 0 ≤ l) (h1 : l ≤ h) (h2 : h ≤ m) (h3 : m ≤ (cap : Int)) (w : World) : (Instr.sliceBounds true len cap lo hi mx).run P w = .ok (l.toNat, h.toNat, m.toNat) w := by
  obtain ⟨l', rfl⟩ := Int.eq_ofNat_of_zero_le h0
  obtain ⟨h', rfl⟩ := Int.eq_ofNat_of_zero_le (Int.le_trans h0 h1)
  obtain ⟨m', rfl⟩ := Int.eq_ofNat_of_zero_le (Int.le_trans (Int.le_trans h0 h1) h2)
  have e1 : l' ≤ h' := by omega
  have e2 : h' ≤ m' := by omega
  have e3 : m' ≤ cap := by omega
  rcases hm with ⟨rfl, hm⟩ | ⟨k, rfl, hne⟩
  · have : m' = cap := by omega
    subst this
    rcases hh with ⟨rfl, hh⟩ | ⟨k, rfl⟩
    · have : h' = len := by omega
      subst this
      rcases hl with ⟨rfl, hl⟩ | ⟨k, rfl⟩
      · have : l' = 0 := by omega
        subst this
        simp [Instr.sliceBounds]
      · simp [Instr.sliceBounds, Instr.sliceBound, asIntOf, e1]
    · rcases hl with ⟨rfl, hl⟩ | ⟨k', rfl⟩
      · have : l' = 0 := by omega
        subst this
        simp [Instr.sliceBounds, Instr.sliceBound, asIntOf, e2]
      · simp [Instr.sliceBounds, Instr.sliceBound, asIntOf, e1, e2]
  · rcases hh with ⟨rfl, hh⟩ | ⟨k', rfl⟩
    · exact absurd rfl hne
    · rcases hl with ⟨rfl, hl⟩ | ⟨k'', rfl⟩
      · have : l' = 0 := by omega
        subst this
        simp [Instr.sliceBounds, Instr.sliceBound, asIntOf, e2, e3]
      · simp [Instr.sliceBounds, Instr.sliceBound, asIntOf, e1, e2, e3]
theorem run_sliceAt {t e : TypeId} {j : TI} {x : Operand} {lo hi mx : Option Operand} {A : Option Addr} {len cap : Nat} {l h m : Int} (hu : P.underlying t = some (.slice e)) (hj : tinfo P e = some j) (hx : a.eval x = .slice A len cap)
    (hb : (Instr.sliceBounds true len cap (lo.map a.eval) (hi.map a.eval) (mx.map a.eval)).run P w = .ok (l.toNat, h.toNat, m.toNat) w) (ho : o.op = .slice t x lo hi mx) :
    (execOp a.eval o).run P w = .ok (.value (.slice (if m.toNat = l.toNat then A else A.map (·.add (l.toNat * j.size))) (h.toNat - l.toNat) (m.toNat - l.toNat))) w := by
  simp [execOp, ho, hx, Instr.sliceAt, run_underlying hu, Instr.slice, hb, run_sizeOf hj]
/-- With its cap cut to its length. -/
theorem TC_sub3 {t : Ty} {xs : List t.I} {A : Option Addr} {len cap lo hi : Nat} (hc : TC F w (.sl t) xs [.slice A len cap]) (h1 : lo ≤ hi) (h2 : hi ≤ xs.length) :
    TC F w (.sl t) ((xs.take hi).drop lo) [.slice (if hi = lo then A else A.map (·.add (lo * t.sz))) (hi - lo) (hi - lo)] := by
  obtain ⟨A', c, e, hl, hm, hx⟩ := hc
  simp only [List.cons.injEq, and_true, Value.slice.injEq] at e
  obtain ⟨rfl, rfl, rfl⟩ := e
  refine ⟨_, _, by rw [sub_len h2], by rw [sub_len h2]; omega, by omega, fun i x hi' => ?_⟩
  obtain ⟨hi1, hi2⟩ := sub_get hi'
  obtain ⟨ad, ds, rfl, hb, ht, hcell⟩ := hx _ x hi1
  have hne : hi ≠ lo := by omega
  rw [if_neg hne]
  refine ⟨ad.add (lo * t.sz), ds, rfl, by rw [add_block]; exact hb, ht, fun j u hj => ?_⟩
  rw [add_add, show lo * t.sz + (i * t.sz + j) = (lo + i) * t.sz + j by rw [Nat.add_mul]; omega]
  exact hcell j u hj
theorem subV_run {h : Value} {A : Option Addr} {l c lo hi sz : Nat} (e : h = .slice A l c) (h1 : lo ≤ hi) (h2 : hi ≤ l) : SubV h sz lo hi (.slice (if c = lo then A else A.map (·.add (lo * sz))) (hi - lo) (c - lo)) := by
  refine ⟨A, l, c, _, e, h1, h2, rfl, fun hne => by rw [if_neg hne], fun h0 => ?_⟩
  subst h0
  split
  · rfl
  · cases A <;> simp [add_zero]
theorem slice_sound {t e : TypeId} {i j : TI} {x : Operand} {lo hi mx : Option Operand} {sa : SV} {l h m : Option SV} {kk : SV → MU} {r : Unit × St} (hi' : tinfo P t = some i) (he : i.elem = some e) (hj : tinfo P e = some j)
    (hx : (sliceM j.size sa l h m kk).exec σ = some r) (hs : Sim cx nt ρ F σ a w) (ha : VR ρ F w σ.live sa (a.eval x))
    (hl : (l = none ∧ lo = none) ∨ ∃ sv y, l = some sv ∧ lo = some y ∧ VR ρ F w σ.live sv (a.eval y)) (hh : (h = none ∧ hi = none) ∨ ∃ sv y, h = some sv ∧ hi = some y ∧ VR ρ F w σ.live sv (a.eval y))
    (hm : (m = none ∧ mx = none) ∨ ∃ sv y, m = some sv ∧ mx = some y ∧ VR ρ F w σ.live sv (a.eval y)) (hmh : mx.isSome = true → hi.isSome = true) (ho : o.op = .slice t x lo hi mx) :
    ∃ sv σ1 F1 v, (kk sv).exec σ1 = some r ∧ Sim cx nt ρ F1 σ1 a w ∧ VR ρ F1 w σ1.live sv v ∧ (execOp a.eval o).run P w = .ok (.value v) w := by
  have hu := elem_spec hi' he
  unfold sliceM at hx
  split at hx
  · rename_i ty xs
    have htc : TC F w (.sl ty) xs [a.eval x] := ha
    obtain ⟨A, c, e1, hle, hmax, _⟩ := id htc
    simp only [List.cons.injEq, and_true] at e1
    obtain ⟨lz, hx, hl⟩ := bound_sound hx hl
    obtain ⟨hz, hx, hh⟩ := bound_sound hx hh
    obtain ⟨mz, hx, hm⟩ := bound_sound hx hm
    replace hx := test_exec hx; obtain ⟨ht, hx⟩ := hx
    simp only [Bool.and_eq_true, Bool.or_eq_true, beq_iff_eq] at ht
    obtain ⟨⟨hsz, hmeq'⟩, hcut⟩ := ht
    have hsz := Nat.eq_of_beq_eq_true hsz
    have hcut := of_decide_eq_true hcut
    have hmeq : mz = hz := by
      rcases hmeq' with h1 | h1
      · rcases hm with ⟨_, _, e⟩ | ⟨k, e2, _⟩
        · exact e
        · rw [e2] at h1; simp at h1
      · exact h1
    subst hmeq
    rcases hm with ⟨e2, hm, _⟩ | ⟨k, e2, hm⟩
    · have hb := run_bounds (P := P) (len := xs.length) (cap := c) (lo := lo.map a.eval) (hi := hi.map a.eval) (mx := mx.map a.eval) (l := lz) (h := mz) (m := (c : Int)) (hl.imp (fun h => ⟨h.2.1, h.2.2⟩) fun ⟨k, h1, h2⟩ => ⟨k, h2⟩)
        (hh.imp (fun h => ⟨h.2.1, h.2.2⟩) fun ⟨k, h1, h2⟩ => ⟨k, h2⟩) (.inl ⟨hm, rfl⟩) hcut.1 hcut.2.1 (by omega) (Int.le_refl _) w
      have hrun := run_sliceAt hu hj e1 hb ho
      refine ⟨_, σ, F, _, hx, hs, ?_, hrun⟩
      rw [← hsz, Int.toNat_natCast]
      exact TC_sub htc (subV_run e1 (by omega) (by omega))
    · have hne : hi.map a.eval ≠ none := by
        have : mx.isSome = true := by
          cases mx with
          | none => simp at hm
          | some _ => rfl
        have := hmh this
        cases hi with
        | none => simp at this
        | some _ => simp
      have hb := run_bounds (P := P) (len := xs.length) (cap := c) (lo := lo.map a.eval) (hi := hi.map a.eval) (mx := mx.map a.eval) (l := lz) (h := mz) (m := mz) (hl.imp (fun h => ⟨h.2.1, h.2.2⟩) fun ⟨k, h1, h2⟩ => ⟨k, h2⟩)
        (hh.imp (fun h => ⟨h.2.1, h.2.2⟩) fun ⟨k, h1, h2⟩ => ⟨k, h2⟩) (.inr ⟨k, hm, hne⟩) hcut.1 hcut.2.1 (Int.le_refl _) (by omega) w
      have hrun := run_sliceAt hu hj e1 hb ho
      refine ⟨_, σ, F, _, hx, hs, ?_, hrun⟩
      rw [← hsz]
      rw [e1] at htc
      exact TC_sub3 htc (by omega) (by omega)
  · rename_i n
    obtain ⟨hlv, hxv, _⟩ := ha
    simp only [M.exec] at hx
    split at hx
    · rename_i e' ty xs hob
      have hob' := hs.objs n
      rw [hob] at hob'
      obtain ⟨hes, cells, hrow, hc⟩ := hob'
      obtain ⟨A, c, e1⟩ := ownsRow_slice hrow
      have hcap : xs.length ≤ c := by
        rcases hrow.2 with ⟨e0, e2⟩ | ⟨g, cap, cur, e0, _, _, h3, _⟩
        · omega
        · rw [e0] at e1; simp only [Value.slice.injEq] at e1; omega
      have e2 := hxv.trans e1
      obtain ⟨lz, hx, hl⟩ := bound_sound hx hl
      obtain ⟨hz, hx, hh⟩ := bound_sound hx hh
      replace hx := test_exec hx; obtain ⟨ht, hx⟩ := hx
      simp only [Bool.and_eq_true] at ht
      have hsz := Nat.eq_of_beq_eq_true ht.1
      have hcut := of_decide_eq_true ht.2
      rcases hm with ⟨rfl, rfl⟩ | ⟨sv, y, rfl, rfl, hv⟩
      · have hb := run_bounds (P := P) (len := xs.length) (cap := c) (lo := lo.map a.eval) (hi := hi.map a.eval) (mx := none) (l := lz) (h := hz) (m := (c : Int)) (hl.imp (fun h => ⟨h.2.1, h.2.2⟩) fun ⟨k, h1, h2⟩ => ⟨k, h2⟩)
          (hh.imp (fun h => ⟨h.2.1, h.2.2⟩) fun ⟨k, h1, h2⟩ => ⟨k, h2⟩) (.inl ⟨rfl, rfl⟩) hcut.1 hcut.2.1 (by omega) (Int.le_refl _) w
        have hrun := run_sliceAt hu hj e2 hb ho
        refine ⟨_, σ, F, _, hx, hs, ⟨hlv, ?_⟩, hrun⟩
        rw [hes, ← hsz, Int.toNat_natCast]
        exact subV_run e1 (by omega) (by omega)
      · cases sv with
        | int k mz =>
          have ey : a.eval y = .int k mz := hv
          replace hx := test_exec hx; obtain ⟨hmeq, hx⟩ := hx
          simp only [beq_iff_eq] at hmeq
          subst hmeq
          simp only [M.exec] at hx
          have hne : hi.map a.eval ≠ none := by
            have := hmh rfl
            cases hi with
            | none => simp at this
            | some _ => simp
          have hb := run_bounds (P := P) (len := xs.length) (cap := c) (lo := lo.map a.eval) (hi := hi.map a.eval) (mx := (some y).map a.eval) (l := lz) (h := mz) (m := mz) (hl.imp (fun h => ⟨h.2.1, h.2.2⟩) fun ⟨k, h1, h2⟩ => ⟨k, h2⟩)
            (hh.imp (fun h => ⟨h.2.1, h.2.2⟩) fun ⟨k, h1, h2⟩ => ⟨k, h2⟩) (.inr ⟨k, by rw [Option.map_some, ey], hne⟩) hcut.1 hcut.2.1 (Int.le_refl _) (by omega) w
          have hrun := run_sliceAt hu hj e2 hb ho
          have hbk : blk ρ n (σ.ob n) = (ρ.hd n).ownBlock := by rw [hob]; rfl
          refine ⟨_, _, _, _, hx, hs.kill hlv true, ?_, hrun⟩
          rw [← hsz]
          have hro := ro_of_row hrow hc (F1 := fun b => F b ∨ (true = true ∧ blk ρ n (σ.ob n) = some b)) (fun _ h => .inl h) (fun b hb => .inr ⟨rfl, by rw [hbk]; exact hb⟩)
          rw [e1] at hro
          exact TC_sub3 hro (by omega) (by omega)
        | _ => simp [M.exec] at hx
    · simp [M.exec] at hx
  · rename_i n l0 h0
    obtain ⟨hlv, A, l1, c, A2, e1, h1, h2, e2, hA1, hA2⟩ := ha
    simp only [M.exec] at hx
    split at hx
    · rename_i e' ty xs hob
      have hob' := hs.objs n
      rw [hob] at hob'
      obtain ⟨hes, cells, hrow, hc⟩ := hob'
      obtain ⟨A', c', e3⟩ := ownsRow_slice hrow
      have hcap : xs.length ≤ c' := by
        rcases hrow.2 with ⟨e0, e2⟩ | ⟨g, cap, cur, e0, _, _, h3, _⟩
        · omega
        · rw [e0] at e3; simp only [Value.slice.injEq] at e3; omega
      rw [e3] at e1
      simp only [Value.slice.injEq] at e1
      obtain ⟨rfl, rfl, rfl⟩ := e1
      obtain ⟨lz, hx1, hl⟩ := bound_sound hx hl
      clear hx
      obtain ⟨hz, hx2, hh⟩ := bound_sound hx1 hh
      clear hx1
      replace hx2 := test_exec hx2; obtain ⟨ht, hx3⟩ := hx2
      simp only [Bool.and_eq_true] at ht
      obtain ⟨⟨⟨hsz, hmn⟩, hcut⟩, hle⟩ := ht
      have hsz := Nat.eq_of_beq_eq_true hsz
      have hcut := of_decide_eq_true hcut
      have hle := of_decide_eq_true hle
      rcases hm with ⟨rfl, rfl⟩ | ⟨sv, y, rfl, rfl, hv⟩
      · have hb := run_bounds (P := P) (len := h0 - l0) (cap := c' - l0) (lo := lo.map a.eval) (hi := hi.map a.eval) (mx := none) (l := lz) (h := hz) (m := ((c' - l0 : Nat) : Int)) (hl.imp (fun h => ⟨h.2.1, h.2.2⟩) fun ⟨k, h1, h2⟩ => ⟨k, h2⟩)
          (hh.imp (fun h => ⟨h.2.1, h.2.2⟩) fun ⟨k, h1, h2⟩ => ⟨k, h2⟩) (.inl ⟨rfl, rfl⟩) hcut.1 hcut.2.1 (by omega) (Int.le_refl _) w
        have hrun := run_sliceAt hu hj e2 hb ho
        refine ⟨_, σ, F, _, hx3, hs, ⟨hlv, ?_⟩, hrun⟩
        rw [Int.toNat_natCast]
        refine ⟨A', xs.length, c', _, e3, by omega, by omega, by rw [show l0 + hz.toNat - (l0 + lz.toNat) = hz.toNat - lz.toNat by omega, show c' - (l0 + lz.toNat) = c' - l0 - lz.toNat by omega], fun hne => ?_, fun h00 => ?_⟩
        · rw [if_neg (by omega), hA1 (by omega), Option.map_map, hes, ← hsz]
          congr 1
          funext ad
          simp only [Function.comp_apply, add_add, Nat.add_mul]
        · have q1 : l0 = 0 := by omega
          have q2 : lz.toNat = 0 := by omega
          rw [hA2 q1, q2]
          split
          · rfl
          · cases A' <;> simp [add_zero]
      · simp at hmn
    · simp [M.exec] at hx
  · have hx0 : a.eval x = .slice none 0 0 := ha
    obtain ⟨lz, hx1, hl⟩ := bound_sound hx hl
    clear hx
    obtain ⟨hz, hx2, hh⟩ := bound_sound hx1 hh
    clear hx1
    replace hx2 := test_exec hx2; obtain ⟨ht, hx3⟩ := hx2
    simp only [Bool.and_eq_true] at ht
    have hcut := of_decide_eq_true ht.2
    rcases hm with ⟨rfl, rfl⟩ | ⟨sv, y, rfl, rfl, hv⟩
    · have hb := run_bounds (P := P) (len := 0) (cap := 0) (lo := lo.map a.eval) (hi := hi.map a.eval) (mx := none) (l := lz) (h := hz) (m := 0) (hl.imp (fun h => ⟨h.2.1, h.2.2⟩) fun ⟨k, h1, h2⟩ => ⟨k, h2⟩)
        (hh.imp (fun h => ⟨h.2.1, h.2.2⟩) fun ⟨k, h1, h2⟩ => ⟨k, h2⟩) (.inl ⟨rfl, rfl⟩) hcut.1 hcut.2.1 (by omega) (Int.le_refl _) w
      have hrun := run_sliceAt hu hj hx0 hb ho
      refine ⟨_, σ, F, _, hx3, hs, rfl, ?_⟩
      rw [hrun]
      have h1 : lz.toNat = 0 := by omega
      have h2 : hz.toNat = 0 := by omega
      simp [h1, h2]
    · simp at ht
  · simp [M.exec] at hx
end
end Go.Gx

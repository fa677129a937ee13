/-
  Gx, part E8: every operation, with its guard.
-/
import Derived.Test.YtpcnmlpikiigaaaXE7
set_option linter.unusedVariables false
set_option linter.unusedSimpArgs false
namespace Go.Gx
section
variable {P : Program} {cx : Ctx} {nt : Fr} {ρ : Rho} {F : Nat → Prop} {σ σ' : St} {a : Act} {w w' : World} {o : Oper} {K : Act → World → Prop} {Q : Exit → Act → World → Prop}
/-- A value without a change of memory. -/
theorem fin_val {sv : SV} {v : Value} {F1 : Nat → Prop} {σ1 : St} {ρ1 : Rho} (h : (put nt o.dst sv).exec σ1 = some ((), σ')) (hs : Sim cx nt ρ1 F1 σ1 a w') (hv : VR ρ1 F1 w' σ1.live sv v) (hr : (execOp a.eval o).run P w = .ok (.value v) w')
    (hK : ∀ ρ' F' a' w', Sim cx nt ρ' F' σ' a' w' → K a' w') : o.wp P a w K Q := wp_val hr (hK _ _ _ _ (put_sound h hs hv))
theorem evOp_sound {α : Type} {x : Option Operand} {k : Option SV → M α} {r : α × St} (h : (evOp x k).exec σ = some r) (hs : Sim cx nt ρ F σ a w) : ∃ l, (k l).exec σ = some r ∧ ((l = none ∧ x = none) ∨ ∃ sv y, l = some sv ∧ x = some y ∧ VR ρ F w σ.live sv (a.eval y)) := by
  cases x with
  | none => exact ⟨none, h, .inl ⟨rfl, rfl⟩⟩
  | some y =>
    obtain ⟨sv, h, hv⟩ := ev_sound h hs
    exact ⟨some sv, h, .inr ⟨sv, y, rfl, rfl, hv⟩⟩
theorem run_bounds_s {n : Nat} {lo hi : Option Value} {l h : Int} (hl : (lo = none ∧ l = 0) ∨ ∃ k, lo = some (.int k l)) (hh : (hi = none ∧ h = (n : Int)) ∨ ∃ k, hi = some (.int k h)) (h0 : 0 ≤ l) (h1 : l ≤ h) (h2 : h ≤ (n : Int)) (w : World) :
    (Instr.sliceBounds false n n lo hi none).run P w = .ok (l.toNat, h.toNat, n) w := by
  obtain ⟨l', rfl⟩ := Int.eq_ofNat_of_zero_le h0
  obtain ⟨h', rfl⟩ := Int.eq_ofNat_of_zero_le (Int.le_trans h0 h1)
  have e1 : l' ≤ h' := by omega
  have e2 : h' ≤ n := by omega
  rcases hh with ⟨rfl, hh⟩ | ⟨k, rfl⟩
  · have : h' = n := by omega
    subst this
    rcases hl with ⟨rfl, hl⟩ | ⟨k, rfl⟩
    · have : l' = 0 := by omega
      subst this
      simp [Instr.sliceBounds]
    · simp [Instr.sliceBounds, Instr.sliceBound, asIntOf, e1]
  · rcases hl with ⟨rfl, hl⟩ | ⟨k', rfl⟩
    · have : l' = 0 := by omega
      subst this
      simp [Instr.sliceBounds, Instr.sliceBound, asIntOf, e2]
    · simp [Instr.sliceBounds, Instr.sliceBound, asIntOf, e1, e2]
theorem sliceS_sound {t : TypeId} {i : TI} {x : Operand} {lo hi mx : Option Operand} {s : ByteArray} {l h : Option SV} {kk : SV → MU} {r : Unit × St} (hi' : tinfo P t = some i) (hst : i.isStr = true) (hmx : mx = none)
    (hx : (sliceS s l h kk).exec σ = some r) (ha : VR ρ F w σ.live (.str s) (a.eval x))
    (hl : (l = none ∧ lo = none) ∨ ∃ sv y, l = some sv ∧ lo = some y ∧ VR ρ F w σ.live sv (a.eval y)) (hh : (h = none ∧ hi = none) ∨ ∃ sv y, h = some sv ∧ hi = some y ∧ VR ρ F w σ.live sv (a.eval y)) (ho : o.op = .slice t x lo hi mx) :
    ∃ sv v, (kk sv).exec σ = some r ∧ VR ρ F w σ.live sv v ∧ (execOp a.eval o).run P w = .ok (.value v) w := by
  subst hmx
  have hu := str_spec hi' hst
  have ha : a.eval x = .string s := ha
  unfold sliceS at hx
  obtain ⟨lz, hx1, hl⟩ := bound_sound hx hl
  clear hx
  obtain ⟨hz, hx2, hh⟩ := bound_sound hx1 hh
  clear hx1
  replace hx2 := test_exec hx2; obtain ⟨hcut, hx3⟩ := hx2
  have hcut := of_decide_eq_true hcut
  have hb := run_bounds_s (P := P) (n := s.size) (lo := lo.map a.eval) (hi := hi.map a.eval) (hl.imp (fun h => ⟨h.2.1, h.2.2⟩) fun ⟨k, h1, h2⟩ => ⟨k, h2⟩) (hh.imp (fun h => ⟨h.2.1, h.2.2⟩) fun ⟨k, h1, h2⟩ => ⟨k, h2⟩) hcut.1 hcut.2.1 hcut.2.2 w
  exact ⟨_, _, hx3, rfl, by simp [execOp, ho, ha, Instr.sliceAt, run_underlying hu, Instr.slice, hb]⟩
theorem opM_sound {E : Env} (hE : EnvCl P E) (h : (opM E nt o).exec σ = some ((), σ')) (hs : Sim cx nt ρ F σ a w) (hK : ∀ ρ' F' a' w', Sim cx nt ρ' F' σ' a' w' → K a' w') : o.wp P a w K Q := by
  have hT := hE.ok.tt
  unfold opM at h
  dsimp only at h
  split at h
  · -- move
    rename_i x ho
    obtain ⟨sv, h, hv⟩ := ev_sound h hs
    exact fin_val h hs hv (by simp [execOp, ho]) hK
  · rename_i x ho
    obtain ⟨sv, h, hv⟩ := ev_sound h hs
    exact fin_val h hs hv (by simp [execOp, ho]) hK
  · -- pick
    rename_i c x y ho
    obtain ⟨sc, h, hc⟩ := ev_sound h hs
    split at h
    · rename_i b
      have hc : a.eval c = .bool b := hc
      cases b with
      | true =>
        obtain ⟨sv, h, hv⟩ := ev_sound h hs
        exact fin_val h hs hv (by simp [execOp, ho, hc, asBool]) hK
      | false =>
        obtain ⟨sv, h, hv⟩ := ev_sound h hs
        exact fin_val h hs hv (by simp [execOp, ho, hc, asBool]) hK
    · simp [M.exec] at h
  · -- alloc
    rename_i t ho
    split at h
    · rename_i i hi
      replace h := test_exec h; obtain ⟨hz, h⟩ := h
      obtain ⟨σ1, ρ1, v, w', h1, h2, h3, h4⟩ := alloc_sound (hT _ _ hi) hz h hs ho
      exact fin_val h1 h2 h3 h4 hK
    · simp [M.exec] at h
  · -- box
    rename_i t x ho
    obtain ⟨sv, h, hv⟩ := ev_sound h hs
    replace h := test_exec h; obtain ⟨hc, h⟩ := h
    obtain ⟨σ1, ρ1, v, w', h1, h2, h3, h4⟩ := box_sound h hc hs hv ho
    exact fin_val h1 h2 h3 h4 hK
  · -- build
    rename_i t parts ho
    split at h
    · rename_i i hi
      replace h := test_exec h; obtain ⟨ht, h⟩ := h
      simp only [Bool.and_eq_true, Bool.not_eq_true'] at ht
      obtain ⟨svs, h, hv⟩ := evO_sound h hs
      obtain ⟨cs, v, h1, h2, h3⟩ := build_sound (hT _ _ hi) ht.1.1 ht.1.2 ht.2 h hs hv ho
      exact fin_val h1 hs h2 h3 hK
    · simp [M.exec] at h
  · -- buildSlice
    rename_i t n parts ho
    split at h
    · rename_i e he
      obtain ⟨i, hi, he⟩ := Option.bind_eq_some_iff.1 he
      split at h
      · rename_i j ty hj hty
        replace h := test_exec h; obtain ⟨ht, h⟩ := h
        simp only [Bool.and_eq_true, beq_iff_eq] at ht
        obtain ⟨svs, h, hv⟩ := evO_sound h hs
        obtain ⟨σ1, ρ1, F1, v, w', h1, h2, h3, h4⟩ := buildSlice_sound (hT _ _ hi) he (hT _ _ hj) ht.1.1.1 (Nat.eq_of_beq_eq_true ht.1.1.2) ht.1.2 (Nat.le_of_ble_eq_true ht.2) h hs hv ho
        exact fin_val h1 h2 h3 h4 hK
      · simp [M.exec] at h
    · simp [M.exec] at h
  · -- load
    rename_i t x ho
    split at h
    · rename_i i hi
      obtain ⟨sa, h, ha⟩ := ev_sound h hs
      obtain ⟨sv, v, h1, h2, h3⟩ := load_sound (hT _ _ hi) h hs ha ho
      exact fin_val h1 hs h2 h3 hK
    · simp [M.exec] at h
  · -- store
    rename_i t x y ho
    split at h
    · rename_i i hi
      replace h := test_exec h; obtain ⟨hd, h⟩ := h
      obtain ⟨sa, h, ha⟩ := ev_sound h hs
      obtain ⟨sv, h, hv⟩ := ev_sound h hs
      obtain ⟨w', F', h1, h2⟩ := store_sound (hT _ _ hi) h hs ha hv ho
      have hd : o.dst = none := by simpa using hd
      exact wp_skp h1 (hK _ _ _ _ (by rw [hd]; exact h2))
    · simp [M.exec] at h
  · -- nilCheck
    rename_i x ho
    obtain ⟨sv, h, hv⟩ := ev_sound h hs
    split at h
    · have hv' := hv
      obtain ⟨_, e⟩ := hv
      exact fin_val h hs hv' (by simp [execOp, ho, e]) hK
    · have hv' := hv
      obtain ⟨_, b, l, c, _, e⟩ := hv
      exact fin_val h hs hv' (by simp [execOp, ho, e]) hK
    · have hv' := hv
      obtain ⟨ad, e, _⟩ := hv
      exact fin_val h hs hv' (by simp [execOp, ho, e]) hK
    · rename_i f cs
      cases cs with
      | nil =>
        have e : a.eval x = .func (.func f) #[] #[] := hv
        exact fin_val h hs hv (by simp [execOp, ho, e]) hK
      | cons => exact hv.elim
    · simp [M.exec] at h
  · -- binOp
    rename_i op t x y yt ho
    obtain ⟨sa, h, ha⟩ := ev_sound h hs
    obtain ⟨sb, h, hb⟩ := ev_sound h hs
    obtain ⟨sv, v, h1, h2, h3⟩ := bin_sound hE.ok h ha hb ho
    exact fin_val h1 hs h2 h3 hK
  · rename_i op t x ho
    obtain ⟨sa, h, ha⟩ := ev_sound h hs
    obtain ⟨sv, v, h1, h2, h3⟩ := un_sound h ha ho
    exact fin_val h1 hs h2 h3 hK
  · -- convert
    rename_i src t x ho
    split at h
    · rename_i i0 k hi0 hk
      obtain ⟨i, hi, hk⟩ := Option.bind_eq_some_iff.1 hk
      have hu := ik_spec (hT _ _ hi) hk
      obtain ⟨d, inf, hd, _⟩ := tinfo_spec (hT _ _ hi0)
      obtain ⟨sv, h, hv⟩ := ev_sound h hs
      split at h
      · rename_i k' z
        have e : a.eval x = .int k' z := hv
        exact fin_val h hs rfl (by simp [execOp, ho, e, convert, run_underlying hu, run_underlying hd, Conv.intToInt]) hK
      · simp [M.exec] at h
    · simp [M.exec] at h
  · -- makeSlice
    rename_i t l c ho
    split at h
    · rename_i e he
      obtain ⟨i, hi, he⟩ := Option.bind_eq_some_iff.1 he
      split at h
      · rename_i j ty hj hty
        replace h := test_exec h; obtain ⟨ht, h⟩ := h
        simp only [Bool.and_eq_true, beq_iff_eq] at ht
        obtain ⟨sa, h, ha⟩ := ev_sound h hs
        obtain ⟨sb, h, hb⟩ := ev_sound h hs
        split at h
        · rename_i z y
          replace h := test_exec h; obtain ⟨hz, h⟩ := h
          simp only [Bool.and_eq_true, beq_iff_eq, decide_eq_true_eq] at hz
          obtain ⟨hz1, rfl⟩ := hz
          obtain ⟨σ1, ρ1, v, w', h1, h2, h3, h4⟩ := makeSlice_sound (hT _ _ hi) he (hT _ _ hj) ht.1.1.1 (Nat.eq_of_beq_eq_true ht.1.1.2) (Nat.le_of_ble_eq_true ht.1.2) ht.2 hz1.1 hz1.2 h hs ha hb ho
          exact fin_val h1 h2 h3 h4 hK
        · simp [M.exec] at h
      · simp [M.exec] at h
    · simp [M.exec] at h
  · -- slice
    rename_i t x lo hi mx ho
    split at h
    · rename_i i hi'
      obtain ⟨sa, h, ha⟩ := ev_sound h hs
      obtain ⟨l, h, hl⟩ := evOp_sound h hs
      obtain ⟨h', h, hh⟩ := evOp_sound h hs
      obtain ⟨m, h, hm⟩ := evOp_sound h hs
      split at h
      · rename_i s
        replace h := test_exec h; obtain ⟨ht, h⟩ := h
        simp only [Bool.and_eq_true] at ht
        obtain ⟨sv, v, h1, h2, h3⟩ := sliceS_sound (hT _ _ hi') ht.1 (by simpa using ht.2) h ha hl hh ho
        exact fin_val h1 hs h2 h3 hK
      · split at h
        · rename_i e he
          split at h
          · rename_i j hj
            replace h := test_exec h; obtain ⟨ht, h⟩ := h
            obtain ⟨sv, σ1, F1, v, h1, h2, h3, h4⟩ := slice_sound (hT _ _ hi') he (hT _ _ hj) h hs ha hl hh hm (fun hq => by rw [hq] at ht; simpa using ht) ho
            exact fin_val h1 h2 h3 h4 hK
          · simp [M.exec] at h
        · simp [M.exec] at h
    · simp [M.exec] at h
  · -- fieldAddr
    rename_i t x f ho
    split at h
    · rename_i i hi
      obtain ⟨sa, h, ha⟩ := ev_sound h hs
      obtain ⟨sv, v, h1, h2, h3⟩ := fieldAddr_sound (hT _ _ hi) h ha ho
      exact fin_val h1 hs h2 h3 hK
    · simp [M.exec] at h
  · rename_i t x f ho
    split at h
    · rename_i i hi
      obtain ⟨sa, h, ha⟩ := ev_sound h hs
      obtain ⟨sv, v, h1, h2, h3⟩ := field_sound (hT _ _ hi) h ha ho
      exact fin_val h1 hs h2 h3 hK
    · simp [M.exec] at h
  · -- indexAddr
    rename_i t x y ho
    split at h
    · rename_i j hj
      obtain ⟨e, he, hj⟩ := Option.bind_eq_some_iff.1 hj
      obtain ⟨i, hi, he⟩ := Option.bind_eq_some_iff.1 he
      obtain ⟨sa, h, ha⟩ := ev_sound h hs
      obtain ⟨sb, h, hb⟩ := ev_sound h hs
      obtain ⟨sv, v, h1, h2, h3⟩ := indexAddr_sound (hT _ _ hi) he (hT _ _ hj) h hs ha hb ho
      exact fin_val h1 hs h2 h3 hK
    · simp [M.exec] at h
  · rename_i t x y ho
    split at h
    · rename_i i hi
      replace h := test_exec h; obtain ⟨hst, h⟩ := h
      obtain ⟨sa, h, ha⟩ := ev_sound h hs
      obtain ⟨sb, h, hb⟩ := ev_sound h hs
      obtain ⟨sv, v, h1, h2, h3⟩ := index_sound (hT _ _ hi) hst h ha hb ho
      exact fin_val h1 hs h2 h3 hK
    · simp [M.exec] at h
  · -- extract
    rename_i x j ho
    obtain ⟨sa, h, ha⟩ := ev_sound h hs
    split at h
    · rename_i vs
      split at h
      · rename_i sv hsv
        obtain ⟨us, e, hu⟩ := ha
        obtain ⟨u, hu1, hu2⟩ := hu.get hsv
        have hu1' : us[j]? = some u := by rw [← Array.getElem?_toList]; exact hu1
        exact fin_val h hs (VR_of_LR1 hu2) (by simp [execOp, ho, e, Instr.extract, hu1']) hK
      · simp [M.exec] at h
    · simp [M.exec] at h
  · -- a call
    rename_i x as ts ho
    obtain ⟨sx, h, hx⟩ := ev_sound h hs
    split at h
    · rename_i f
      have hx : a.eval x = .func (.func f) #[] #[] := hx
      split at h
      · rename_i sg hsg
        obtain ⟨args, h, hv⟩ := evO_sound h hs
        obtain ⟨fn, hf1, hf2, hf3⟩ := hE.fn f sg hsg
        have hc := call_sound hE hsg h hs hv
        have hrun : (execOp a.eval o).run P w = .ok (.enter f (as.map a.eval)) w := by
          have q1 : ¬ fn.name = "runtime.NumGoroutine" := by simpa using hf2
          have q2 : ¬ fn.body = none := by
            intro e; rw [e] at hf3; simp at hf3
          simp [execOp, ho, resolve, invoke, Deferred.ofValue, callFunc, hf1, q1, q2, hx]
        unfold Oper.wp
        rw [hrun, Oper.upon_enter]
        have e : (as.map a.eval) = (as.toList.map a.eval).toArray := by apply Array.ext'; simp
        rw [e]
        refine hc.mono ?_
        rintro e' w' ⟨v, rfl, sv, σ1, ρ1, F1, h1, h2, h3⟩
        exact hK _ _ _ _ (put_sound h1 h2 h3)
      · simp [M.exec] at h
    · simp [M.exec] at h
  · -- len
    rename_i as ts ho
    split at h
    · rename_i i x hi has
      obtain ⟨t, ht, hi⟩ := Option.bind_eq_some_iff.1 hi
      obtain ⟨sa, h, ha⟩ := ev_sound h hs
      replace h := test_exec h; obtain ⟨hst, h⟩ := h
      obtain ⟨n, h1, h2⟩ := len_sound (hT _ _ hi) ht has hst hs h ha ho
      exact fin_val h1 hs rfl h2 hK
    · simp [M.exec] at h
  · -- append
    rename_i as ts ho
    split at h
    · rename_i t t' s x hts has
      split at h
      · rename_i e he
        obtain ⟨i, hi, he⟩ := Option.bind_eq_some_iff.1 he
        split at h
        · rename_i j hj
          replace h := test_exec h; obtain ⟨ht, h⟩ := h
          simp only [Bool.and_eq_true] at ht
          have := Nat.eq_of_beq_eq_true ht.1.1.1.2
          subst this
          obtain ⟨sa, h, ha⟩ := ev_sound h hs
          obtain ⟨sb, h, hb⟩ := ev_sound h hs
          obtain ⟨σ1, ρ1, v, w', h1, h2, h3, h4⟩ := append_sound (hT _ _ hi) he (hT _ _ hj) ht.1.1.1.1 (Nat.le_of_ble_eq_true ht.1.1.2) (Nat.eq_of_beq_eq_true ht.2) hts has h hs ha hb ho
          exact fin_val h1 h2 h3 h4 hK
        · simp [M.exec] at h
      · simp [M.exec] at h
    · simp [M.exec] at h
  · -- min
    rename_i as ts ho
    split at h
    · rename_i x y has
      obtain ⟨sa, h, ha⟩ := ev_sound h hs
      obtain ⟨sb, h, hb⟩ := ev_sound h hs
      have has' : as = #[x, y] := by rw [← has]
      subst has'
      cases sa with
      | int k u =>
        cases sb with
        | int k' v =>
          have ha : a.eval x = .int k u := ha
          have hb : a.eval y = .int k' v := hb
          exact fin_val h hs rfl (by simp [execOp, ho, resolve, invoke, builtin, Builtin.min_, ha, hb, Builtin.min2]) hK
        | _ => simp [M.exec] at h
      | _ => simp [M.exec] at h
    · simp [M.exec] at h
  · rename_i as ts ho
    split at h
    · rename_i x y has
      obtain ⟨sa, h, ha⟩ := ev_sound h hs
      obtain ⟨sb, h, hb⟩ := ev_sound h hs
      have has' : as = #[x, y] := by rw [← has]
      subst has'
      cases sa with
      | int k u =>
        cases sb with
        | int k' v =>
          have ha : a.eval x = .int k u := ha
          have hb : a.eval y = .int k' v := hb
          exact fin_val h hs rfl (by simp [execOp, ho, resolve, invoke, builtin, Builtin.max_, ha, hb, Builtin.max2]) hK
        | _ => simp [M.exec] at h
      | _ => simp [M.exec] at h
    · simp [M.exec] at h
  · simp [M.exec] at h
end
end Go.Gx

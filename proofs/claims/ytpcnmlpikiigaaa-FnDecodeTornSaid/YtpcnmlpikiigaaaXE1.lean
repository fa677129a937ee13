/-
  Gx, part E1: the operations that touch no memory.
-/
import Derived.Test.YtpcnmlpikiigaaaXD2
set_option linter.unusedVariables false
set_option linter.unusedSimpArgs false
namespace Go.Gx
section
variable {P : Program} {cx : Ctx} {nt : Fr} {ρ : Rho} {F : Nat → Prop} {σ σ' : St} {a : Act} {w w' : World} {o : Oper} {K : Act → World → Prop} {Q : Exit → Act → World → Prop}
theorem wp_val {v : Value} (hr : (execOp a.eval o).run P w = .ok (.value v) w') (hK : K (a.put o.dst v) w') : o.wp P a w K Q := by
  unfold Oper.wp; rw [hr]; exact hK
theorem wp_skp (hr : (execOp a.eval o).run P w = .ok .skip w') (hK : K (a.put o.dst undef) w') : o.wp P a w K Q := by
  unfold Oper.wp; rw [hr]; exact hK
theorem Act.put_size (a : Act) (d : Option Tmp) (v : Value) : (a.put d v).tmps.size = a.tmps.size := by cases d <;> simp [Act.put]
theorem Act.put_defers' (a : Act) (d : Option Tmp) (v : Value) : (a.put d v).defers = a.defers := by cases d <;> rfl
theorem put_get (a : Act) (d s : Nat) (v : Value) (h : d < a.tmps.size) : (a.put (some d) v).tmps.getD s undef = if s = d then v else a.tmps.getD s undef := by
  simp only [Act.put, Array.getD_eq_getD_getElem?, Array.getElem?_setIfInBounds]
  by_cases e : d = s
  · subst e; simp [h]
  · have : ¬ s = d := fun h => e h.symm
    simp [e, this]
theorem put_sound {sv : SV} {v : Value} {dst : Option Nat} (h : (put nt dst sv).exec σ = some ((), σ')) (hs : Sim cx nt ρ F σ a w) (hv : VR ρ F w σ.live sv v) : Sim cx nt ρ F σ' (a.put dst v) w := by
  unfold put at h
  cases dst with
  | none => simp only [M.exec, Option.some.injEq, Prod.mk.injEq, true_and] at h; subst h; exact hs
  | some d =>
    replace h := test_exec h; obtain ⟨hd, h⟩ := h
    simp only [M.exec, Option.some.injEq, Prod.mk.injEq, true_and] at h
    subst h
    simp only [Bool.and_eq_true, Bool.not_eq_true'] at hd
    obtain ⟨hd, hpin⟩ := hd
    have hlt : d < a.tmps.size := by
      rw [hs.size]
      simp only [Nat.blt] at hd
      exact Nat.le_of_ble_eq_true hd
    refine ⟨by rw [Act.put_defers']; exact hs.defers, by rw [Act.put_size]; exact hs.size, fun s hm => ?_, fun s => ?_, hs.objs, hs.disj, hs.own, hs.Fb, hs.F0, hs.pr⟩
    · rw [put_get _ _ _ _ hlt, if_neg]
      · exact hs.pin s hm
      · intro e
        subst e
        have : hasN nt.pin s = true := by
          simp only [hasN, List.any_eq_true]
          exact ⟨s, hm, by simp⟩
        rw [hpin] at this; cases this
    · rw [setS_sl, put_get _ _ _ _ hlt]
      split
      · exact hv
      · exact hs.slots s
theorem ev_sound {α : Type} {x : Operand} {k : SV → M α} {r : α × St} (h : (ev x k).exec σ = some r) (hs : Sim cx nt ρ F σ a w) : ∃ sv, (k sv).exec σ = some r ∧ VR ρ F w σ.live sv (a.eval x) := by
  cases x with
  | tmp t => exact ⟨_, h, hs.slots t⟩
  | const v => exact ⟨_, h, VR_svOf⟩
  | func f => exact ⟨_, h, rfl⟩
  | global g => simp [ev, M.exec] at h
theorem evO_sound {α : Type} : ∀ {xs : List Operand} {k : List SV → M α} {r : α × St}, (evO xs k).exec σ = some r → Sim cx nt ρ F σ a w → ∃ svs, (k svs).exec σ = some r ∧ All2 (VR ρ F w σ.live) svs (xs.map a.eval)
  | [], k, r, h, hs => ⟨[], h, trivial⟩
  | x :: xs, k, r, h, hs => by
    obtain ⟨sv, h1, hv⟩ := ev_sound h hs
    obtain ⟨svs, h2, hvs⟩ := evO_sound h1 hs
    exact ⟨sv :: svs, h2, hv, hvs⟩
structure EnvOK (P : Program) (E : Env) : Prop where
  tt : ∀ t i, E.tt t = some i → tinfo P t = some i
  eqt : ∀ t, E.eqt t = true → ∀ (x x' y y' : Int) (p q : Operand) (w : World),
    (eqGuard .eql t p q (.agg #[.int .i64 x, .int .i64 x']) (.agg #[.int .i64 y, .int .i64 y'])).run P w = .ok () w ∧
    (eqGuard .neq t p q (.agg #[.int .i64 x, .int .i64 x']) (.agg #[.int .i64 y, .int .i64 y'])).run P w = .ok () w ∧
    (Op.equal t (.agg #[.int .i64 x, .int .i64 x']) (.agg #[.int .i64 y, .int .i64 y'])).run P w = .ok (x == y && (x' == y')) w
theorem tinfo_spec {t : TypeId} {i : TI} (h : tinfo P t = some i) : ∃ d inf, P.underlying t = some d ∧ P.info? t = some inf ∧ i.agg = aggD d ∧ i.size = inf.size ∧ i.bytes = inf.bytes ∧ i.zero = inf.zero.getD undef ∧
    (i.fields = match d with | .struct fs => fs.toList.map fun f => (f.offset, ((P.info? f.type).map (·.size)).getD 0, ((P.underlying f.type).map aggD).getD true) | _ => []) ∧
    (i.elem = match d with | .slice e => some e | _ => none) ∧ (i.ik = match d with | .int k => some k | _ => none) ∧ (i.isStr = match d with | .string => true | _ => false) ∧ (i.isB = match d with | .bool => true | _ => false) ∧ i.hasZ = inf.zero.isSome := by
  unfold tinfo at h
  split at h
  · rename_i d inf h1 h2
    cases h
    exact ⟨d, inf, h1, h2, rfl, rfl, rfl, rfl, rfl, rfl, rfl, rfl, rfl, rfl⟩
  · cases h
theorem elem_spec {t e : TypeId} {i : TI} (h : tinfo P t = some i) (he : i.elem = some e) : P.underlying t = some (.slice e) := by
  obtain ⟨d, inf, h1, h2, _, _, _, _, _, h3, _⟩ := tinfo_spec h
  rw [he] at h3
  cases d <;> simp at h3
  subst h3
  exact h1
theorem ik_spec {t : TypeId} {k : IntKind} {i : TI} (h : tinfo P t = some i) (he : i.ik = some k) : P.underlying t = some (.int k) := by
  obtain ⟨d, inf, h1, h2, _, _, _, _, _, _, h3, _⟩ := tinfo_spec h
  rw [he] at h3
  cases d <;> simp at h3
  subst h3
  exact h1
theorem str_spec {t : TypeId} {i : TI} (h : tinfo P t = some i) (he : i.isStr = true) : P.underlying t = some .string := by
  obtain ⟨d, inf, h1, h2, _, _, _, _, _, _, _, h3, _⟩ := tinfo_spec h
  rw [he] at h3
  cases d <;> simp at h3
  exact h1
theorem size_spec {t : TypeId} {i : TI} (h : tinfo P t = some i) : ∃ inf, P.info? t = some inf ∧ inf.size = i.size ∧ inf.bytes = i.bytes ∧ inf.zero.getD undef = i.zero := by
  obtain ⟨d, inf, h1, h2, _, h3, h4, h5, _⟩ := tinfo_spec h
  exact ⟨inf, h2, h3.symm, h4.symm, h5.symm⟩
theorem zero_spec {t : TypeId} {i : TI} (h : tinfo P t = some i) (hz : i.hasZ = true) : ∃ inf, P.info? t = some inf ∧ inf.size = i.size ∧ inf.bytes = i.bytes ∧ inf.zero = some i.zero := by
  obtain ⟨d, inf, h1, h2, _, h3, h4, h5, _, _, _, _, _, h6⟩ := tinfo_spec h
  refine ⟨inf, h2, h3.symm, h4.symm, ?_⟩
  rw [hz] at h6
  obtain ⟨z, hz⟩ := Option.isSome_iff_exists.1 h6.symm
  rw [h5, hz]; rfl
theorem run_sizeOf {t : TypeId} {i : TI} (h : tinfo P t = some i) (w : World) : (sizeOf t).run P w = .ok i.size w := by
  obtain ⟨inf, h1, h2, _⟩ := size_spec h
  simp [sizeOf, typeInfo, h1, h2]
theorem run_isAgg {t : TypeId} {i : TI} (h : tinfo P t = some i) (w : World) : (isAgg t).run P w = .ok i.agg w := by
  obtain ⟨d, inf, h1, h2, h3, _⟩ := tinfo_spec h
  rw [h3]
  cases d <;> simp [isAgg, run_underlying h1, aggD]

/-! ### Values computed -/
theorem bool_spec {t : TypeId} {i : TI} (h : tinfo P t = some i) (he : i.isB = true) : P.underlying t = some .bool := by
  obtain ⟨d, inf, h1, h2, _, _, _, _, _, _, _, _, h3, _⟩ := tinfo_spec h
  rw [he] at h3
  cases d <;> simp at h3
  exact h1
theorem run_equalIn_bool {t : TypeId} (hu : P.underlying t = some .bool) (d : Nat) (x y : Bool) (w : World) : (Op.equalIn (d + 1) t (.bool x) (.bool y)).run P w = .ok (x == y) w := by
  simp [Op.equalIn, run_underlying hu]
theorem run_equal_bool {t : TypeId} (hu : P.underlying t = some .bool) (x y : Bool) (w : World) : (Op.equal t (.bool x) (.bool y)).run P w = .ok (x == y) w := run_equalIn_bool hu 9999 x y w
theorem eql_eq (t : TypeId) (x y : Bool) : binOp .eql t (.bool x) (.bool y) = (do pure (.bool (← Op.equal t (.bool x) (.bool y)))) := rfl
theorem neq_eq (t : TypeId) (x y : Bool) : binOp .neq t (.bool x) (.bool y) = (do pure (.bool (!(← Op.equal t (.bool x) (.bool y))))) := rfl
theorem eql_agg (t : TypeId) (x y : Array Value) : binOp .eql t (.agg x) (.agg y) = (do pure (.bool (← Op.equal t (.agg x) (.agg y)))) := rfl
theorem neq_agg (t : TypeId) (x y : Array Value) : binOp .neq t (.agg x) (.agg y) = (do pure (.bool (!(← Op.equal t (.agg x) (.agg y))))) := rfl
theorem bin_sound {E : Env} (hE : EnvOK P E) {op : BinOp} {xt yt : TypeId} {x y : Operand} {sa sb : SV} {kk : SV → MU} {r : Unit × St} (h : (binM (match E.tt xt with | some i => i.isB | none => false) (E.eqt xt) op sa sb kk).exec σ = some r) (ha : VR ρ F w σ.live sa (a.eval x)) (hb : VR ρ F w σ.live sb (a.eval y)) (ho : o.op = .binOp op xt x y yt) :
    ∃ sv v, (kk sv).exec σ = some r ∧ VR ρ F w σ.live sv v ∧ (execOp a.eval o).run P w = .ok (.value v) w := by
  unfold binM at h
  split at h
  · rename_i k z k' z'
    replace h := test_exec h; obtain ⟨hk, h⟩ := h
    have hk := of_decide_eq_true hk
    subst hk
    have ha : a.eval x = .int k z := ha
    have hb : a.eval y = .int k z' := hb
    split at h
    · exact ⟨_, _, h, rfl, by simp [execOp, ho, ha, hb, eqGuard, binOp, Op.intArith]⟩
    · exact ⟨_, _, h, rfl, by simp [execOp, ho, ha, hb, eqGuard, binOp, Op.intArith]⟩
    · exact ⟨_, _, h, rfl, by simp [execOp, ho, ha, hb, eqGuard, binOp, Op.intArith]⟩
    · replace h := test_exec h; obtain ⟨h0, h⟩ := h
      have h0 : ¬ z' = 0 := by simpa using h0
      exact ⟨_, _, h, rfl, by simp [execOp, ho, ha, hb, eqGuard, binOp, Op.intDiv, h0]⟩
    · replace h := test_exec h; obtain ⟨h0, h⟩ := h
      have h0 : ¬ z' = 0 := by simpa using h0
      exact ⟨_, _, h, rfl, by simp [execOp, ho, ha, hb, eqGuard, binOp, Op.intDiv, h0]⟩
    · exact ⟨_, _, h, rfl, by simp [execOp, ho, ha, hb, eqGuard, binOp, Op.intBits]⟩
    · exact ⟨_, _, h, rfl, by simp [execOp, ho, ha, hb, eqGuard, binOp, Op.intCmp]⟩
    · exact ⟨_, _, h, rfl, by simp [execOp, ho, ha, hb, eqGuard, binOp, Op.intCmp]⟩
    · exact ⟨_, _, h, rfl, by simp [execOp, ho, ha, hb, eqGuard, binOp, Op.intCmp]⟩
    · exact ⟨_, _, h, rfl, by simp [execOp, ho, ha, hb, eqGuard, binOp, Op.intCmp]⟩
    · exact ⟨_, _, h, rfl, by simp [execOp, ho, ha, hb, eqGuard, binOp, Op.intCmp]⟩
    · exact ⟨_, _, h, rfl, by simp [execOp, ho, ha, hb, eqGuard, binOp, Op.intCmp]⟩
    · simp [M.exec] at h
  · rename_i z z'
    have ha : a.eval x = .string z := ha
    have hb : a.eval y = .string z' := hb
    split at h
    · replace h := test_exec h; obtain ⟨h0, h⟩ := h
      have h0 : z.size + z'.size ≤ lim := of_decide_eq_true h0
      have h1 : ¬ ((z.size + z'.size : Nat) : Int) > IntKind.i64.max := by
        have : IntKind.i64.max = 9223372036854775807 := by decide
        rw [this]; unfold lim at h0; omega
      exact ⟨_, _, h, rfl, by simp only [execOp, ho, ha, hb]; simp [eqGuard, binOp, Op.stringOp]; unfold lim at h0; omega⟩
    · exact ⟨_, _, h, rfl, by simp [execOp, ho, ha, hb, eqGuard, binOp, Op.stringOp]⟩
    · exact ⟨_, _, h, rfl, by simp [execOp, ho, ha, hb, eqGuard, binOp, Op.stringOp]⟩
    · simp [M.exec] at h
  · rename_i z z'
    have ha : a.eval x = .bool z := ha
    have hb : a.eval y = .bool z' := hb
    replace h := test_exec h; obtain ⟨hi, h⟩ := h
    obtain ⟨i, hi1, hi2⟩ : ∃ i, E.tt xt = some i ∧ i.isB = true := by
      cases hq : E.tt xt with
      | none => rw [hq] at hi; simp at hi
      | some i => rw [hq] at hi; exact ⟨i, rfl, hi⟩
    have hu := bool_spec (hE.tt _ _ hi1) hi2
    split at h
    · exact ⟨_, _, h, rfl, by simp [execOp, ho, ha, hb, eqGuard, eql_eq, run_equal_bool hu]⟩
    · exact ⟨_, _, h, rfl, by simp [execOp, ho, ha, hb, eqGuard, neq_eq, run_equal_bool hu]⟩
    · simp [M.exec] at h
  · rename_i z1 z2 z3 z4
    have two : ∀ {u v : Int} {V : Value}, VR ρ F w σ.live (.agg [.int .i64 u, .int .i64 v]) V → V = .agg #[.int .i64 u, .int .i64 v] := by
      rintro u v V ⟨us, rfl, hu⟩
      obtain ⟨l⟩ := us
      match l, hu with
      | [p, q], hu =>
        have h1 : p = .int .i64 u := hu.1
        have h2 : q = .int .i64 v := hu.2.1
        rw [h1, h2]
    have ha := two ha
    have hb := two hb
    replace h := test_exec h; obtain ⟨hi, h⟩ := h
    obtain ⟨e1, e2, e3⟩ := hE.eqt _ hi z1 z2 z3 z4 x y w
    split at h
    · exact ⟨_, _, h, rfl, by simp [execOp, ho, ha, hb, e1, eql_agg, e3]⟩
    · exact ⟨_, _, h, rfl, by simp [execOp, ho, ha, hb, e2, neq_agg, e3]⟩
    · simp [M.exec] at h
  · simp [M.exec] at h
theorem un_sound {op : UnOp} {xt : TypeId} {x : Operand} {sa : SV} {kk : SV → MU} {r : Unit × St} (h : (unM op sa kk).exec σ = some r) (ha : VR ρ F w σ.live sa (a.eval x)) (ho : o.op = .unOp op xt x) :
    ∃ sv v, (kk sv).exec σ = some r ∧ VR ρ F w σ.live sv v ∧ (execOp a.eval o).run P w = .ok (.value v) w := by
  unfold unM at h
  split at h
  · rename_i b
    have ha : a.eval x = .bool b := ha
    exact ⟨_, _, h, rfl, by simp [execOp, ho, ha, Op.unary]⟩
  · rename_i k z
    have ha : a.eval x = .int k z := ha
    exact ⟨_, _, h, rfl, by simp [execOp, ho, ha, Op.unary, Op.intArith]⟩
  · simp [M.exec] at h
theorem fieldAddr_sound {t : TypeId} {i : TI} {x : Operand} {f : Nat} {sa : SV} {kk : SV → MU} {r : Unit × St} (hi : tinfo P t = some i) (h : (fieldAddrM i sa f kk).exec σ = some r) (ha : VR ρ F w σ.live sa (a.eval x)) (ho : o.op = .fieldAddr t x f) :
    ∃ sv v, (kk sv).exec σ = some r ∧ VR ρ F w σ.live sv v ∧ (execOp a.eval o).run P w = .ok (.value v) w := by
  obtain ⟨d, inf, h1, h2, _, _, _, _, hf, _⟩ := tinfo_spec hi
  unfold fieldAddrM at h
  split at h
  · rename_i off z ag hfd
    replace h := test_exec h; obtain ⟨hz, h⟩ := h
    have hz : 0 < z := by simp only [Nat.blt] at hz; exact Nat.le_of_ble_eq_true hz
    rw [hf] at hfd
    cases d with
    | struct fs =>
      simp only [List.getElem?_map, Option.map_eq_some_iff] at hfd
      obtain ⟨fd, hfd, e⟩ := hfd
      simp only [Prod.mk.injEq] at e
      obtain ⟨rfl, hsz, _⟩ := e
      have hfd' : fs[f]? = some fd := by rw [← Array.getElem?_toList]; exact hfd
      obtain ⟨fi, hfi, hfz⟩ : ∃ fi, P.info? fd.type = some fi ∧ fi.size = z := by
        cases hq : P.info? fd.type with
        | none => rw [hq] at hsz; simp at hsz; omega
        | some fi => rw [hq] at hsz; exact ⟨fi, rfl, by simpa using hsz⟩
      have hne : ¬ fi.size = 0 := by omega
      have run : ∀ ad : Addr, a.eval x = .pointer (some ad) → (execOp a.eval o).run P w = .ok (.value (.pointer (some (ad.add fd.offset)))) w := by
        intro ad had
        simp [execOp, ho, had, Instr.fieldAt, run_underlying h1, hfd', Instr.sureAddr, fieldPlace, sizeOf, typeInfo, hfi, hne]
      split at h
      · rename_i n off
        obtain ⟨hl, ha⟩ := ha
        refine ⟨_, _, h, ⟨hl, ?_⟩, run _ ha⟩
        congr 2
        unfold Addr.add
        split <;> simp_all
      · rename_i n j off
        obtain ⟨hl, b, l, c, hh, ha⟩ := ha
        refine ⟨_, _, h, ⟨hl, b, l, c, hh, ?_⟩, run _ ha⟩
        congr 2
        unfold Addr.add
        split <;> simp_all [Nat.add_assoc]
      · rename_i vs
        obtain ⟨ad, ha, hv⟩ := ha
        refine ⟨_, _, h, ⟨_, rfl, fun j sv hj => ?_⟩, run _ ha⟩
        rw [List.getElem?_drop] at hj
        obtain ⟨hb, u, hu, hr⟩ := hv _ sv hj
        exact ⟨by rw [add_block]; exact hb, u, by rw [add_add]; exact hu, hr⟩
      · simp [M.exec] at h
    | _ => simp at hfd
  · simp [M.exec] at h
theorem field_sound {t : TypeId} {i : TI} {x : Operand} {f : Nat} {sa : SV} {kk : SV → MU} {r : Unit × St} (hi : tinfo P t = some i) (h : (fieldM i sa f kk).exec σ = some r) (ha : VR ρ F w σ.live sa (a.eval x)) (ho : o.op = .field t x f) :
    ∃ sv v, (kk sv).exec σ = some r ∧ VR ρ F w σ.live sv v ∧ (execOp a.eval o).run P w = .ok (.value v) w := by
  obtain ⟨d, inf, h1, h2, _, _, _, _, hf, _⟩ := tinfo_spec hi
  unfold fieldM at h
  split at h
  · rename_i off z vs hfd
    split at h
    · rename_i sv hsv
      rw [hf] at hfd
      obtain ⟨us, ha, hu⟩ := ha
      obtain ⟨u, hu1, hu2⟩ := hu.get hsv
      cases d with
      | struct fs =>
        simp only [List.getElem?_map, Option.map_eq_some_iff] at hfd
        obtain ⟨fd, hfd, e⟩ := hfd
        simp only [Prod.mk.injEq] at e
        obtain ⟨rfl, hsz, hag⟩ := e
        have hfd' : fs[f]? = some fd := by rw [← Array.getElem?_toList]; exact hfd
        obtain ⟨fu, hfu, hfa⟩ : ∃ fu, P.underlying fd.type = some fu ∧ aggD fu = false := by
          cases hq : P.underlying fd.type with
          | none => rw [hq] at hag; simp at hag
          | some fu => rw [hq] at hag; exact ⟨fu, rfl, by simpa using hag⟩
        have hna : (isAgg fd.type).run P w = .ok false w := by cases fu <;> simp [aggD] at hfa <;> simp [isAgg, run_underlying hfu]
        have hu1' : us[fd.offset]? = some u := by rw [← Array.getElem?_toList]; exact hu1
        exact ⟨_, _, h, VR_of_LR0 hu2, by simp [execOp, ho, ha, Instr.field, run_underlying h1, hfd', asAgg, Go.part, hna, hu1']⟩
      | _ => simp at hfd
    · simp [M.exec] at h
  · simp [M.exec] at h
theorem index_sound {t : TypeId} {i : TI} {x y : Operand} {sa sb : SV} {kk : SV → MU} {r : Unit × St} (hi : tinfo P t = some i) (hst : i.isStr = true) (h : (indexM sa sb kk).exec σ = some r) (ha : VR ρ F w σ.live sa (a.eval x)) (hb : VR ρ F w σ.live sb (a.eval y)) (ho : o.op = .index t x y) :
    ∃ sv v, (kk sv).exec σ = some r ∧ VR ρ F w σ.live sv v ∧ (execOp a.eval o).run P w = .ok (.value v) w := by
  have hu := str_spec hi hst
  unfold indexM at h
  split at h
  · rename_i s k z
    replace h := test_exec h; obtain ⟨hz, h⟩ := h
    have hz := of_decide_eq_true hz
    have ha : a.eval x = .string s := ha
    have hb : a.eval y = .int k z := hb
    have hlt : z.toNat < s.size := by omega
    have hs : s[z.toNat]? = some s[z.toNat] := getElem?_pos s z.toNat hlt
    refine ⟨_, _, h, rfl, ?_⟩
    simp [execOp, ho, ha, hb, Instr.index, asIntOf, run_underlying hu, hz.1, hs, btx]
  · simp [M.exec] at h
theorem len_sound {t : TypeId} {i : TI} {x : Operand} {as : Array Operand} {ts : Array TypeId} {sa : SV} {kk : Int → MU} {r : Unit × St} (hi : tinfo P t = some i) (hts : ts[0]? = some t) (has : as.toList = [x])
    (hst : (match sa with | .str _ => i.isStr | _ => i.elem.isSome) = true) (hs : Sim cx nt ρ F σ a w) (h : (lenM sa kk).exec σ = some r) (ha : VR ρ F w σ.live sa (a.eval x))
    (ho : o.op = .call { callee := .builtin .len, args := as, argTypes := ts }) :
    ∃ n, (kk n).exec σ = some r ∧ (execOp a.eval o).run P w = .ok (.value (.int .i64 n)) w := by
  have has' : as = #[x] := by rw [← has]
  subst has'
  have hsl : i.elem.isSome = true → ∀ A l c, a.eval x = .slice A l c → (execOp a.eval o).run P w = .ok (.value (.int .i64 l)) w := by
    intro he A l c hx
    obtain ⟨e, he⟩ := Option.isSome_iff_exists.1 he
    have hu := elem_spec hi he
    simp [execOp, ho, resolve, invoke, builtin, Builtin.len_, hts, hx, run_underlying hu, goInt]
  unfold lenM at h
  split at h
  · rename_i t' xs
    obtain ⟨A, c, e, _⟩ := (show TC F w (.sl t') xs [a.eval x] from ha)
    simp only [List.cons.injEq, and_true] at e
    exact ⟨_, h, hsl hst _ _ _ e⟩
  · rename_i n
    obtain ⟨hl, ha, _⟩ := ha
    simp only [M.exec] at h
    split at h
    · rename_i e t' xs hob
      have := hs.objs n
      rw [hob] at this
      obtain ⟨_, cells, hrow, _⟩ := this
      rcases hrow.2 with ⟨e1, e2⟩ | ⟨g, cap, cur, e1, _⟩
      · exact ⟨_, h, by rw [hsl hst none 0 0 (ha.trans e1), e2]⟩
      · exact ⟨_, h, hsl hst _ _ _ (ha.trans e1)⟩
    · simp [M.exec] at h
  · rename_i n lo hi'
    obtain ⟨hl, A, l, c, A2, _, _, _, ha, _⟩ := ha
    exact ⟨_, h, hsl hst _ _ _ ha⟩
  · exact ⟨_, h, hsl hst none 0 0 ha⟩
  · rename_i s
    have ha : a.eval x = .string s := ha
    have hu := str_spec hi hst
    exact ⟨_, h, by simp [execOp, ho, resolve, invoke, builtin, Builtin.len_, hts, ha, run_underlying hu, goInt]⟩
  · simp [M.exec] at h
end
end Go.Gx

/-
  Gx: an interpreter of our own, and that it is sound for the model.
-/
import Derived.Test.YtahpblckgakjjaaXGpart2
import Derived.MapFrom
import Derived.WideMake
set_option linter.unusedVariables false
set_option linter.unusedSimpArgs false
namespace Go.Gx
section
variable {P : Program} {cx : Ctx} {nt : Fr} {ρ : Rho} {F : Nat → Prop} {σ σ' : St} {a : Act} {w w' : World} {o : Oper} {K : Act → World → Prop} {Q : Exit → Act → World → Prop}
theorem mp_spec {t k v : TypeId} {i : TI} (h : tinfo P t = some i) (he : i.mp = some (k, v)) : P.underlying t = some (.map k v) := by
  unfold tinfo at h
  split at h
  · rename_i d inf h1 h2
    cases h
    cases d <;> simp at he
    obtain ⟨rfl, rfl⟩ := he
    exact h1
  · cases h
def mkey (z : Int) : Value := .int .i64 z
theorem mkey_is (z : Int) : MapKept.IsKey (.int .i64) (mkey z) := rfl
theorem findNow_map {t : Ty} {z : Int} : ∀ {es : List (Int × t.I)} {l : List MapEntry} (i : Nat), MapR F w t es l →
    (mfind es z = none ∧ Instr.findNow (.int .i64) (mkey z) l i = some none ∧ ∀ (x : t.I) (v : Value) (born : Nat), TC F w t x [v] → MapR F w t (mput es z x) (l ++ [{ key := mkey z, val := v, born := born }])) ∨
    ∃ x j e, mfind es z = some x ∧ Instr.findNow (.int .i64) (mkey z) l i = some (some (i + j, e.val)) ∧ l[j]? = some e ∧ e.key = mkey z ∧ TC F w t x [e.val] ∧
      ∀ (y : t.I) (v : Value), TC F w t y [v] → MapR F w t (mput es z y) (l.set j { e with key := mkey z, val := v })
  | [], [], i, _ => .inl ⟨rfl, rfl, fun x v born hx => ⟨⟨rfl, hx⟩, trivial⟩⟩
  | [], _ :: _, _, h => h.elim
  | _ :: _, [], _, h => h.elim
  | (k, x) :: es, e :: l, i, h => by
    obtain ⟨⟨hk, hx⟩, hr⟩ := h
    have hke : MapKept.IsKey (.int .i64) e.key := by rw [hk]; rfl
    obtain ⟨r, hr1, hiff⟩ := MapKept.sameNow_of_keys (mkey_is z) hke
    cases r with
    | true =>
      have e1 : mkey z = e.key := hiff.1 rfl
      have e2 : k = z := by rw [hk] at e1; cases e1; rfl
      subst e2
      refine .inr ⟨x, 0, e, by simp [mfind], by simp [Instr.findNow, hr1], rfl, hk, hx, fun y v hy => ?_⟩
      simp only [mput, beq_self_eq_true, cond_true, List.set_cons_zero]
      exact ⟨⟨rfl, hy⟩, hr⟩
    | false =>
      have hne : (k == z) = false := by
        rw [beq_eq_false_iff_ne]
        rintro rfl
        have := hiff.2 hk.symm
        cases this
      rcases findNow_map (z := z) (i + 1) hr with ⟨h1, h2, h3⟩ | ⟨x', j, e', h1, h2, h3, h4, h5, h6⟩
      · refine .inl ⟨by simp [mfind, hne, h1], by simp [Instr.findNow, hr1, h2], fun y v born hy => ?_⟩
        simp only [mput, hne, cond_false, List.cons_append]
        exact ⟨⟨hk, hx⟩, h3 y v born hy⟩
      · refine .inr ⟨x', j + 1, e', by simp [mfind, hne, h1], by simp [Instr.findNow, hr1, h2]; omega, by simpa using h3, h4, h5, fun y v hy => ?_⟩
        simp only [mput, hne, cond_false, List.set_cons_succ]
        exact ⟨⟨hk, hx⟩, h6 y v hy⟩
theorem makeMap_sound {t : TypeId} {ty : Ty} {id : Nat} {kk : MU} {r : Unit × St} (hid : liveId ≤ id) (hsz : ty.sz = 1) (hfl : ty.flat = true) (h : (newO id (.map ty []) kk).exec σ = some r) (hs : Sim cx nt ρ F σ a w) (ho : o.op = .makeMap t none) :
    ∃ σ1 ρ1 v w', kk.exec σ1 = some r ∧ Sim cx nt ρ1 F σ1 a w' ∧ VR ρ1 F w' (σ1.lv ρ1) (.mp id) v ∧ (execOp a.eval o).run P w = .ok (.value v) w' := by
  obtain ⟨h1, h2⟩ := newO_exec h
  have hl := hs.not_lv hid h1
  have hne : Obj.map ty [] ≠ .absent := by simp
  refine ⟨_, ρ.put id undef w.heap.size 0 [w.heap.size], .map (some w.heap.size), w.alloc (.map #[] 0), h2,
    hs.grow h1 hne (pr_alloc w _) hl (fun m hm => ρ.put_ne hm) rfl ⟨⟨hfl, hsz, #[], 0, by simpa [Rho.put] using heap_alloc_new w (.map #[] 0), trivial⟩, by simp [Rho.put]⟩ (fun b hb => ?_), ⟨.inl (live_set hne), by simp [Rho.put]⟩, ?_⟩
  · have : b = w.heap.size := by simpa [Rho.put] using hb.2
    omega
  · simp [execOp, ho, run_makeMap_plain]
theorem flat_leaf {t : Ty} {x : t.I} {v : Value} (hsz : t.sz = 1) (h : TC F w t x [v]) (ρ : Rho) (lv : Nat → Prop) : LR0 ρ F w lv ((leaves t x).headD .bot) v := by
  have h1 := TC_leaves (ρ := ρ) (lv := lv) h
  have h2 := leaves_len t x
  rw [hsz] at h2
  match hl : leaves t x, h1, h2 with
  | [s], h1, _ => exact h1.1
theorem zmatch_one {t : Ty} {zv : Value} (hz : (match zv with | .int _ _ => true | .bool _ => true | _ => false) = true) (hm : ((zmatch t zv.cells.toList).map (·.length) == some 0) = true) (ht : t.sz = 1) (hf : t.flat = true) : TC F w t t.dflt [zv] := by
  cases t with
  | int k =>
    cases zv with
    | int k' z =>
      simp only [Value.cells] at hm
      cases z with
      | ofNat n =>
        cases n with
        | zero =>
          by_cases e : k' = k
          · subst e; rfl
          · simp [zmatch, e] at hm
        | succ n => have e : zmatch (.int k) [Value.int k' (Int.ofNat (n + 1))] = none := rfl
                    simp [Value.cells, e] at hm
                    have e : zmatch (.int k) [Value.int k' ((n : Int) + 1)] = none := e
                    rw [e] at hm; cases hm
      | negSucc n => have e : zmatch (.int k) [Value.int k' (Int.negSucc n)] = none := rfl
                     simp [Value.cells, e] at hm
    | bool b => simp [zmatch, Value.cells] at hm
    | _ => simp at hz
  | bool =>
    cases zv with
    | int k' z => simp [zmatch, Value.cells] at hm
    | bool b =>
      cases b with
      | false => rfl
      | true => simp [zmatch, Value.cells] at hm
    | _ => simp at hz
  | str =>
    cases zv with
    | int k' z => simp [zmatch, Value.cells] at hm
    | bool b => simp [zmatch, Value.cells] at hm
    | _ => simp at hz
  | pair a b => have := a.sz_pos; have := b.sz_pos; simp only [Ty.sz] at ht; omega
  | _ => simp [Ty.flat] at hf
theorem lookup_sound {t k v : TypeId} {i ik iv : TI} {ty : Ty} {x y : Operand} {n : Nat} {z : Int} {es : List (Int × ty.I)} {ok : Bool} (hi : tinfo P t = some i) (hm : i.mp = some (k, v)) (hk : tinfo P k = some ik) (hik : ik.ik = some .i64) (hv : tinfo P v = some iv)
    (hz : iv.hasZ = true) (hz1 : (match iv.zero with | .int _ _ => true | .bool _ => true | _ => false) = true) (hz2 : ((zmatch ty iv.zero.cells.toList).map (·.length) == some 0) = true) (hob : σ.ob n = .map ty es) (hs : Sim cx nt ρ F σ a w)
    (hx : VR ρ F w (σ.lv ρ) (.mp n) (a.eval x)) (hy : VR ρ F w (σ.lv ρ) (.int .i64 z) (a.eval y)) (ho : o.op = .lookup t x y ok) :
    ∃ u, (execOp a.eval o).run P w = .ok (.value u) w ∧ VR ρ F w (σ.lv ρ) (bif ok then .tup [(leaves ty ((mfind es z).getD ty.dflt)).headD .bot, .bool (mfind es z).isSome] else (leaves ty ((mfind es z).getD ty.dflt)).headD .bot) u := by
  have hor := hs.objs n
  rw [hob] at hor
  obtain ⟨⟨hfl, hsz, ents, clock, hb, hr⟩, _⟩ := hor
  have hu := mp_spec hi hm
  have huk := ik_spec hk hik
  obtain ⟨_, ex⟩ := hx
  have ey : a.eval y = mkey z := hy
  obtain ⟨inf, hi1, _, _, hi2⟩ := zero_spec hv hz
  have hzv : (zeroValue v).run P w = .ok iv.zero w := by simp [zeroValue, typeInfo, hi1, hi2]
  have hchk := fun e n => MapKept.run_checkKey (P := P) (w := w) huk (mkey_is z) e n
  have ret : ∀ (b : Bool) (u : Value) (xv : ty.I), TC F w ty xv [u] → (Instr.lookup t (.map (some (ρ.bx n))) (mkey z) ok).run P w = .ok (if ok then .tuple #[u, .bool b] else u) w →
      ∃ u', (execOp a.eval o).run P w = .ok (.value u') w ∧ VR ρ F w (σ.lv ρ) (bif ok then .tup [(leaves ty xv).headD .bot, .bool b] else (leaves ty xv).headD .bot) u' := by
    intro b u xv hc hrun
    have hl := flat_leaf hsz hc ρ (σ.lv ρ)
    refine ⟨if ok then .tuple #[u, .bool b] else u, by simp [execOp, ho, ex, ey, hrun], ?_⟩
    cases ok with
    | true => exact ⟨#[u, .bool b], by simp, LR1_of_LR0 hl, rfl, trivial⟩
    | false => exact VR_of_LR0 hl
  rcases findNow_map (z := z) 0 hr with ⟨h1, h2, _⟩ | ⟨xv, j, e, h1, h2, h3, h4, h5, _⟩
  · rw [h1]
    refine ret false iv.zero ty.dflt (zmatch_one hz1 hz2 hsz hfl) ?_
    simp [Instr.lookup, run_underlying hu, MapKept.run_getObj_map hb, hchk, MapKept.run_findKey huk h2, hzv, Result.andThen]
  · rw [h1]
    refine ret true e.val xv h5 ?_
    simp [Instr.lookup, run_underlying hu, MapKept.run_getObj_map hb, hchk, MapKept.run_findKey huk h2, Result.andThen]
theorem mapUpdate_sound {t k v : TypeId} {i ik : TI} {ty : Ty} {x y u : Operand} {n : Nat} {z : Int} {es : List (Int × ty.I)} {w1 : SV} {kk : ty.I → List SV → MU} {r : Unit × St} (hi : tinfo P t = some i) (hm : i.mp = some (k, v)) (hk : tinfo P k = some ik) (hik : ik.ik = some .i64)
    (hob : σ.ob n = .map ty es) (hs : Sim cx nt ρ F σ a w) (hx : VR ρ F w (σ.lv ρ) (.mp n) (a.eval x)) (hy : VR ρ F w (σ.lv ρ) (.int .i64 z) (a.eval y)) (hc : w1.cell = true) (hv : VR ρ F w (σ.lv ρ) w1 (a.eval u))
    (h : (fromL ty [w1] kk).exec σ = some r) (ho : o.op = .mapUpdate t x y u) :
    ∃ xv rest, (kk xv rest).exec σ = some r ∧ ∃ w', (execOp a.eval o).run P w = .ok .skip w' ∧ Sim cx nt ρ F (σ.setO n (.map ty (mput es z xv))) a w' := by
  have hor := hs.objs n
  rw [hob] at hor
  obtain ⟨⟨hfl, hsz, ents, clock, hb, hr⟩, hbk⟩ := hor
  have hu := mp_spec hi hm
  have huk := ik_spec hk hik
  obtain ⟨_, ex⟩ := hx
  have ey : a.eval y = mkey z := hy
  have hchk := fun e n => MapKept.run_checkKey (P := P) (w := w) huk (mkey_is z) e n
  obtain ⟨xv, rest, u1, u2, hkk, he, htc, _⟩ := fromL_sound (us := [a.eval u]) h ⟨LR0_of_VR hc hv, trivial⟩
  refine ⟨xv, rest, hkk, ?_⟩
  have hu1 : u1 = [a.eval u] := by
    have hl := TC_len htc
    rw [hsz] at hl
    match u1, hl with
    | [q], _ => simp at he; rw [← he.1]
  subst hu1
  have fin : ∀ (ents' : Array MapEntry) (clock' : Nat), MapR F w ty (mput es z xv) ents'.toList → Sim cx nt ρ F (σ.setO n (.map ty (mput es z xv))) a { w with heap := w.heap.setIfInBounds (ρ.bx n) (.map ents' clock') } := by
    intro ents' clock' hr'
    have hne : Obj.map ty (mput es z xv) ≠ .absent := by simp
    have hlt := lt_of_heap hb
    have hp : Pr (fun b => b = ρ.bx n) w { w with heap := w.heap.setIfInBounds (ρ.bx n) (.map ents' clock') } := ⟨rfl, rfl, rfl, by simp, fun b hb' hn => (MapKept.heap_set hb).2 b hn⟩
    have hblk : blk ρ n (σ.ob n) (ρ.bx n) := by rw [hob]; exact ⟨rfl, by rw [hbk]; simp⟩
    refine hs.step (fun m => m = n) (fun b => b = ρ.bx n) (fun _ => False) hp (fun _ h => h.elim) (fun b hb' _ => .inl ⟨n, rfl, hb' ▸ hblk⟩) (fun m hm => by rw [setO_ob, if_neg hm]) (live_setO hne) (Goes.refl _ _ _)
      (fun _ h => h) (fun _ h => .inl h) (fun m hm => ?_) (fun m b hm hb' => ?_) (fun m k b hm hk hne => absurd (hm.trans hk.symm) hne) hs.defers hs.size hs.pin (fun s => .inl ⟨rfl, rfl⟩)
    · subst hm; rw [setO_ob, if_pos rfl]
      refine ⟨⟨hfl, hsz, ents', clock', (MapKept.heap_set hb).1, ?_⟩, hbk⟩
      exact All2.imp (fun p e hp => ⟨hp.1, TC_flat hfl hp.2⟩) hr'
    · subst hm
      rw [setO_ob, if_pos rfl] at hb'
      have e : b = ρ.bx m := by have := hb'.2; rw [hbk] at this; simpa using this
      subst e
      exact ⟨(hs.own _ _ hblk).1, .inl ⟨m, rfl, hblk⟩⟩
  rcases findNow_map (z := z) 0 hr with ⟨h1, h2, h3⟩ | ⟨xv', j, e, h1, h2, h3, h4, h5, h6⟩
  · refine ⟨_, ?_, fin (ents.push { key := mkey z, val := a.eval u, born := clock }) (clock + 1) (by simpa using h3 xv _ clock htc)⟩
    simp [execOp, ho, ex, ey, Instr.mapUpdate, run_underlying hu, MapKept.run_getObj_map hb, hchk, MapKept.run_findKey huk h2, MapKept.run_setObj_map _ hb, Result.andThen]
  · have hj : ents[j]? = some e := by simpa using h3
    refine ⟨_, ?_, fin (ents.modify j fun e => { e with key := mkey z, val := a.eval u }) clock ?_⟩
    · simp [execOp, ho, ex, ey, Instr.mapUpdate, run_underlying hu, MapKept.run_getObj_map hb, hchk, MapKept.run_findKey huk h2, hj, h4, MapKept.run_keyThatStays (mkey_is z), MapKept.run_setObj_map _ hb, Result.andThen]
    · have e1 : (ents.modify j fun e => { e with key := mkey z, val := a.eval u }).toList = ents.toList.set j { e with key := mkey z, val := a.eval u } := by
        apply List.ext_getElem?
        intro i
        simp only [Array.getElem?_toList, Array.getElem?_modify, List.getElem?_set]
        by_cases hij : j = i
        · subst hij
          have hlt : j < ents.toList.length := (List.getElem?_eq_some_iff.1 h3).1
          simp [hj]
          simpa using hlt
        · simp [hij]
      rw [e1]
      exact h6 xv _ htc
theorem lenMap_sound {t : TypeId} {i : TI} {x : Operand} {as : Array Operand} {ts : Array TypeId} {n : Nat} {ty : Ty} {es : List (Int × ty.I)} (hi : tinfo P t = some i) (hm : i.mp.isSome = true) (hts : ts[0]? = some t) (has : as.toList = [x]) (hob : σ.ob n = .map ty es) (hs : Sim cx nt ρ F σ a w)
    (hx : VR ρ F w (σ.lv ρ) (.mp n) (a.eval x)) (ho : o.op = .call { callee := .builtin .len, args := as, argTypes := ts }) : (execOp a.eval o).run P w = .ok (.value (.int .i64 (es.length : Int))) w := by
  have hor := hs.objs n
  rw [hob] at hor
  obtain ⟨⟨hfl, hsz, ents, clock, hb, hr⟩, _⟩ := hor
  obtain ⟨⟨k, v⟩, hkv⟩ := Option.isSome_iff_exists.1 hm
  have hu := mp_spec hi hkv
  obtain ⟨_, ex⟩ := hx
  have has' : as = #[x] := by rw [← has]
  subst has'
  have hl := hr.length
  simp only [Array.length_toList] at hl
  simp [execOp, ho, resolve, invoke, builtin, Builtin.len_, hts, ex, run_underlying hu, MapKept.run_getObj_map hb, goInt, hl]
end
end Go.Gx

/-
  Gx, part E8c: clear of a part of a row of numbers.
-/
set_option linter.unusedVariables false
set_option linter.unusedSimpArgs false
namespace Go.Gx
section
variable {P : Program} {cx : Ctx} {nt : Fr} {ρ : Rho} {F : Nat → Prop} {σ σ' : St} {a : Act} {w w' : World} {o : Oper}
theorem zeroCells_int (k : IntKind) (n : Nat) : (Builtin.zeroCells (Value.int k 0).cells n).toList = List.replicate n (Value.int k 0) := by
  unfold Builtin.zeroCells
  apply List.ext_getElem
  · simp [Value.cells]
  · intro i h1 h2
    simp [Value.cells]
    have : i % 1 = 0 := Nat.mod_one i
    simp [this]
theorem clear_sound {t e e' : TypeId} {i j : TI} {n lo hi : Nat} {k : IntKind} {xs : List Int} {x : Operand} {as : Array Operand} {ts : Array TypeId} (hi' : tinfo P t = some i) (he : i.elem = some e) (hj : tinfo P e = some j) (hz : j.hasZ = true) (hj0 : j.zero = .int k 0)
    (hts : ts[0]? = some t) (has : as.toList = [x]) (hob : σ.ob n = .row e' (.int k) xs) (hle : lo ≤ hi ∧ hi ≤ xs.length) (hs : Sim cx nt ρ F σ a w) (hx : VR ρ F w (σ.lv ρ) (.view n lo hi) (a.eval x)) (ho : o.op = .call { callee := .builtin .clear, args := as, argTypes := ts }) :
    ∃ w', (execOp a.eval o).run P w = .ok (.value (.tuple #[])) w' ∧ Sim cx nt ρ F (σ.setO n (.row e' (.int k) (xs.take lo ++ List.replicate (hi - lo) (0 : Int) ++ xs.drop hi))) a w' := by
  have has' : as = #[x] := by rw [← has]
  subst has'
  have hu := elem_spec hi' he
  obtain ⟨inf, hi1, _, _, hi2⟩ := zero_spec hj hz
  have hzv : (zeroValue e).run P w = .ok (.int k 0) w := by simp [zeroValue, typeInfo, hi1, hi2, hj0]
  have hob' := hs.objs n
  rw [hob] at hob'
  obtain ⟨hes, ⟨cells, bss, hrow, hc, hbk⟩, hbnd⟩ := hob'
  obtain ⟨hc, hbf⟩ := RowC_of_DRow (t := .int k) rfl hc
  obtain ⟨hlv, A, l, c, A', e1, h1, h2, e2, h3, h4⟩ := hx
  have hcl : cells.length = xs.length := by have := hrow.1; simpa [Ty.sz] using this
  rcases Nat.eq_zero_or_pos (hi - lo) with h0 | hpos
  · refine ⟨w, ?_, ?_⟩
    · rw [h0] at e2
      cases A' with
      | none => simp [execOp, ho, resolve, invoke, builtin, Builtin.clear_, hts, e2, run_underlying hu]
      | some ad => simp [execOp, ho, resolve, invoke, builtin, Builtin.clear_, hts, e2, run_underlying hu]
    · have : xs.take lo ++ List.replicate (hi - lo) (0 : Int) ++ xs.drop hi = xs := by
        have e : hi = lo := by omega
        subst e
        simp
      rw [this, setO_self σ hob]; exact hs
  · rcases hrow.2 with ⟨e0, _⟩ | ⟨g, cap, cur, e0, hb0, hg, hnc, hcm, hcs, htake⟩
    · rw [e1] at e0
      simp only [Value.slice.injEq] at e0
      omega
    rw [e1] at e0
    simp only [Value.slice.injEq] at e0
    obtain ⟨rfl, rfl, rfl⟩ := e0
    have hA : A' = some ⟨g, lo, none⟩ := by
      rw [h3 (by omega)]
      simp [Ty.sz, hes, Addr.add]
      exact fun h => h.symm
    subst hA
    have hz1 : (1 : Nat) = (Ty.int k).sz := rfl
    have hcs1 : c ≤ cur.size := by simpa [Ty.sz] using hcs
    have hz' : (Builtin.zeroCells (Value.int k 0).cells (hi - lo)).toList = List.replicate (hi - lo) (Value.int k 0) := zeroCells_int k (hi - lo)
    have hst := run_storeCells_at P g lo e' (List.replicate (hi - lo) (Value.int k 0)) 0 cur w hg (by simp only [List.length_replicate]; omega) (fun v hv => by rw [List.eq_of_mem_replicate hv]; rfl)
    simp only [Nat.add_zero, List.length_replicate, show lo + (hi - lo) = hi by omega] at hst
    refine ⟨w.setRow g (cur.toList.take lo ++ List.replicate (hi - lo) (Value.int k 0) ++ cur.toList.drop hi).toArray, ?_, ?_⟩
    · have hne : hi - lo ≠ 0 := by omega
      obtain ⟨m, hm⟩ : ∃ m, hi - lo = m + 1 := ⟨hi - lo - 1, by omega⟩
      rw [hm] at e2 hz' hst
      simp [execOp, ho, resolve, invoke, builtin, Builtin.clear_, hts, e2, run_underlying hu, hzv, Result.andThen, hz', hst]
      rw [hm]
    · have hheld : (σ.ob n).held = true := by rw [hob]; rfl
      have hob0 : (ρ.hd n).ownBlock = some g := by rw [e1]; rfl
      have hb1 : blk ρ n (σ.ob n) g := ⟨hheld, by rw [hbk, hob0]; simp⟩
      refine hs.step (fun m => m = n) (fun b' => b' = g) (fun _ => False) (pr_setRow w _ _) (fun b hb => hb.elim) (fun b' hb' _ => .inl ⟨n, rfl, by rw [hb']; exact hb1⟩) (fun m hm => by rw [setO_ob, if_neg hm]) (live_setO (by simp)) ⟨fun m _ => ρ.same_refl m, rfl, fun m hm => rfl⟩
        (fun _ h => h) (fun _ h => .inl h) (fun m hm => ?_) (fun m b' hm hb' => ?_) (fun m k b hm hk hne => absurd (hm.trans hk.symm) hne) hs.defers hs.size hs.pin (fun s => .inl ⟨rfl, rfl⟩)
      · subst hm
        rw [setO_ob, if_pos rfl]
        refine ⟨hes, ?_, hbnd⟩
        refine (own_noOs (t := .int k) rfl).2 ⟨⟨cells.take lo ++ List.replicate (hi - lo) (Value.int k 0) ++ cells.drop hi, ⟨?_, .inr ⟨g, c, _, ?_, hb0, setRow_heap w g cur _ e' _ hg, ?_, hcm, ?_, ?_⟩⟩, ?_⟩, ?_⟩
        · simp only [List.length_append, List.length_take, List.length_drop, List.length_replicate, Ty.sz]; omega
        · rw [e1]
          simp only [List.length_append, List.length_take, List.length_drop, List.length_replicate, Value.slice.injEq, true_and, and_true]
          omega
        · simp only [List.length_append, List.length_take, List.length_drop, List.length_replicate]; omega
        · simp only [List.size_toArray, List.length_append, List.length_take, List.length_drop, List.length_replicate, Array.length_toList, Ty.sz]; omega
        · simp only [List.toList_toArray, List.length_append, List.length_take, List.length_drop, List.length_replicate, Ty.sz, Nat.mul_one]
          have ht : cells = cur.toList.take xs.length := by simpa [Ty.sz] using htake.symm
          rw [ht]
          apply List.ext_getElem?
          intro q
          have m1 : min lo cur.size = lo := by omega
          have m2 : min lo (min xs.length cur.size) = lo := by omega
          have m3 : min lo xs.length = lo := by omega
          simp only [List.getElem?_take, List.getElem?_append, List.getElem?_drop, List.length_append, List.length_take, List.length_replicate, Array.length_toList, m1, m2, m3]
          have q5 : lo + (hi - lo) = hi := by omega
          rw [q5]
          by_cases q1 : q < lo
          · rw [if_pos (show q < hi + (xs.length - hi) by omega), if_pos (show q < hi by omega), if_pos q1, if_pos q1, if_pos (show q < hi by omega), if_pos q1, if_pos q1, if_pos (show q < xs.length by omega)]
          · by_cases q2 : q < hi
            · rw [if_pos (show q < hi + (xs.length - hi) by omega), if_pos q2, if_neg q1, if_pos q2, if_neg q1]
            · rw [if_neg q2, if_neg q2]
              have q6 : hi + (q - hi) = q := by omega
              rw [q6]
              by_cases q3 : q < xs.length
              · rw [if_pos (by omega), if_pos q3]
              · rw [if_neg (by omega), if_neg q3]
        · intro q y hq
          simp only [Ty.sz, Nat.mul_one]
          have hget : ∀ (L : List Value) (v : Value), L[q]? = some v → (L.drop q).take 1 = [v] := by
            intro L v hv
            obtain ⟨hlt, hv⟩ := List.getElem?_eq_some_iff.1 hv
            rw [List.drop_eq_getElem_cons hlt, List.take_succ_cons, List.take_zero, hv]
          show ((_ : List Value).drop q).take 1 = [Value.int k y]
          apply hget
          have hold : ∀ (p : Nat) (z : Int), xs[p]? = some z → cells[p]? = some (Value.int k z) := by
            intro p z hp
            have h5 : (cells.drop (p * 1)).take 1 = [Value.int k z] := hc p z hp
            rw [Nat.mul_one] at h5
            have h6 := congrArg (fun l => l[0]?) h5
            simpa using h6
          simp only [List.getElem?_append, List.getElem?_take, List.getElem?_drop, List.length_append, List.length_take, List.length_replicate] at hq ⊢
          rw [hcl]
          by_cases q1 : q < lo
          · simp only [show q < min lo xs.length + (hi - lo) by omega, show q < min lo xs.length by omega, if_true, q1] at hq ⊢
            exact hold q y hq
          · by_cases q2 : q < hi
            · simp only [show q < min lo xs.length + (hi - lo) by omega, show ¬ q < min lo xs.length by omega, if_true, if_false] at hq ⊢
              rw [List.getElem?_replicate] at hq ⊢
              split at hq
              · cases hq; rename_i h7; rw [if_pos h7]
              · cases hq
            · simp only [show ¬ q < min lo xs.length + (hi - lo) by omega, if_false] at hq ⊢
              exact hold _ y hq
        · rw [hbk, hbf, List.append_nil]
      · subst hm
        have hb2 : blk ρ m (σ.ob m) b' := by
          rw [setO_ob, if_pos rfl] at hb'
          exact ⟨hheld, hb'.2⟩
        exact ⟨(hs.own m b' hb2).1, .inl ⟨m, rfl, hb2⟩⟩
end
end Go.Gx

/-
  Gx, part E8: every operation, with its guard.
-/
set_option linter.unusedVariables false
set_option linter.unusedSimpArgs false
namespace Go.Gx
section
variable {P : Program} {cx : Ctx} {nt : Fr} {ρ : Rho} {F : Nat → Prop} {σ σ' : St} {a : Act} {w w' : World} {o : Oper} {K : Act → World → Prop} {Q : Exit → Act → World → Prop}
/-- A value without a change of memory. -/
theorem fin_val {sv : SV} {v : Value} {F1 : Nat → Prop} {σ1 : St} {ρ1 : Rho} (h : (put nt o.dst sv).exec σ1 = some ((), σ')) (hs : Sim cx nt ρ1 F1 σ1 a w') (hv : VR ρ1 F1 w' (σ1.lv ρ1) sv v) (hr : (execOp a.eval o).run P w = .ok (.value v) w')
    (hK : ∀ ρ' F' a' w', Sim cx nt ρ' F' σ' a' w' → K a' w') : o.wp P a w K Q := wp_val hr (hK _ _ _ _ (put_sound h hs hv))
theorem evOp_sound {α : Type} {x : Option Operand} {k : Option SV → M α} {r : α × St} (h : (evOp x k).exec σ = some r) (hs : Sim cx nt ρ F σ a w) : ∃ l, (k l).exec σ = some r ∧ ((l = none ∧ x = none) ∨ ∃ sv y, l = some sv ∧ x = some y ∧ VR ρ F w (σ.lv ρ) sv (a.eval y)) := by
  cases x with
  | none => exact ⟨none, h, .inl ⟨rfl, rfl⟩⟩
  | some y =>
    obtain ⟨sv, h, hv⟩ := ev_sound h hs
    exact ⟨some sv, h, .inr ⟨sv, y, rfl, rfl, hv⟩⟩
theorem run_bounds_s {n : Nat} {lo hi : Option Value} {l h : Int} (hl : (lo = none ∧ l = 0) ∨ ∃ k, lo = some (.int k l)) (hh : (hi = none ∧ h = (n : Int)) ∨ ∃ k, hi = some (.int k h)) (h0 : 0 ≤ l) (h1 : l ≤ h) (h2 : h ≤ (n : Int)) (w : World) :
    (Instr.sliceBounds false n n lo hi none).run P w = .ok (l.toNat, h.toNat, n) w := by
  obtain ⟨l', rfl⟩ := Int.eq_ofNat_of_zero_le h0
  obtain ⟨h', rfl⟩ := Int.eq_ofNat_of_zero_le (Int.le_trans h0 h1)
  have e1 : l' ≤ h' := by omega
  have e2 : h' ≤ n := by omega
  rcases hh with ⟨rfl, hh⟩ | ⟨k, rfl⟩
  · have : h' = n := by omega
    subst this
    rcases hl with ⟨rfl, hl⟩ | ⟨k, rfl⟩
    · have : l' = 0 := by omega
      subst this
      simp [Instr.sliceBounds]
    · simp [Instr.sliceBounds, Instr.sliceBound, asIntOf, e1]
  · rcases hl with ⟨rfl, hl⟩ | ⟨k', rfl⟩
    · have : l' = 0 := by omega
      subst this
      simp [Instr.sliceBounds, Instr.sliceBound, asIntOf, e2]
    · simp [Instr.sliceBounds, Instr.sliceBound, asIntOf, e1, e2]
theorem sliceS_sound {t : TypeId} {i : TI} {x : Operand} {lo hi mx : Option Operand} {s : ByteArray} {l h : Option SV} {kk : SV → MU} {r : Unit × St} (hi' : tinfo P t = some i) (hst : i.isStr = true) (hmx : mx = none)
    (hx : (sliceS s l h kk).exec σ = some r) (ha : VR ρ F w (σ.lv ρ) (.str s) (a.eval x))
    (hl : (l = none ∧ lo = none) ∨ ∃ sv y, l = some sv ∧ lo = some y ∧ VR ρ F w (σ.lv ρ) sv (a.eval y)) (hh : (h = none ∧ hi = none) ∨ ∃ sv y, h = some sv ∧ hi = some y ∧ VR ρ F w (σ.lv ρ) sv (a.eval y)) (ho : o.op = .slice t x lo hi mx) :
    ∃ sv v, (kk sv).exec σ = some r ∧ VR ρ F w (σ.lv ρ) sv v ∧ (execOp a.eval o).run P w = .ok (.value v) w := by
  subst hmx
  have hu := str_spec hi' hst
  have ha : a.eval x = .string s := ha
  unfold sliceS at hx
  obtain ⟨lz, hx1, hl⟩ := bound_sound hx hl
  clear hx
  obtain ⟨hz, hx2, hh⟩ := bound_sound hx1 hh
  clear hx1
  replace hx2 := test_exec hx2; obtain ⟨hcut, hx3⟩ := hx2
  have hcut := of_decide_eq_true hcut
  have hb := run_bounds_s (P := P) (n := s.size) (lo := lo.map a.eval) (hi := hi.map a.eval) (hl.imp (fun h => ⟨h.2.1, h.2.2⟩) fun ⟨k, h1, h2⟩ => ⟨k, h2⟩) (hh.imp (fun h => ⟨h.2.1, h.2.2⟩) fun ⟨k, h1, h2⟩ => ⟨k, h2⟩) hcut.1 hcut.2.1 hcut.2.2 w
  exact ⟨_, _, hx3, rfl, by simp [execOp, ho, ha, Instr.sliceAt, run_underlying hu, Instr.slice, hb]⟩
theorem cap_VR {lv : Nat → Prop} : ∀ {cs : List SV} {us : List Value}, CapR ρ lv cs us → All2 (VR ρ F w lv) cs us
  | [], [], _ => trivial
  | [], _ :: _, h => h.elim
  | c :: cs, [], h => by cases c <;> first | exact h.elim | (rename_i n off; cases off <;> exact h.elim)
  | c :: cs, u :: us, h => by
    cases c with
    | box n off =>
      cases off with
      | zero => exact ⟨⟨h.1, h.2.1⟩, cap_VR h.2.2⟩
      | succ => exact h.elim
    | _ => exact h.elim
theorem VR_cap {lv : Nat → Prop} : ∀ {cs : List SV} {us : List Value}, (cs.all fun v => match v with | .box _ 0 => true | _ => false) = true → All2 (VR ρ F w lv) cs us → CapR ρ lv cs us
  | [], [], _, _ => trivial
  | [], _ :: _, _, h => h.elim
  | c :: cs, [], _, h => h.elim
  | c :: cs, u :: us, h0, h => by
    simp only [List.all_cons, Bool.and_eq_true] at h0
    cases c with
    | box n off =>
      cases off with
      | zero => exact ⟨h.1.1, h.1.2, VR_cap h0.2 h.2⟩
      | succ => simp at h0
    | _ => simp at h0
theorem newId_ge (d : Nat) : liveId ≤ newId d := by unfold liveId newId; omega
theorem opM_sound {G : World → Prop} {E : Env} (hE : EnvAt G P E cx) (h : (opM E nt o).exec σ = some ((), σ')) (hs : Sim cx nt ρ F σ a w) (hK : ∀ ρ' F' a' w', Sim cx nt ρ' F' σ' a' w' → K a' w') : o.wp P a w K Q := by
  have hT := hE.ok.tt
  unfold opM at h
  dsimp only at h
  split at h
  · -- move
    rename_i x ho
    obtain ⟨sv, h, hv⟩ := ev_sound h hs
    exact fin_val h hs hv (by simp [execOp, ho]) hK
  · rename_i x ho
    obtain ⟨sv, h, hv⟩ := ev_sound h hs
    exact fin_val h hs hv (by simp [execOp, ho]) hK
  · -- pick
    rename_i c x y ho
    obtain ⟨sc, h, hc⟩ := ev_sound h hs
    split at h
    · rename_i b
      have hc : a.eval c = .bool b := hc
      cases b with
      | true =>
        obtain ⟨sv, h, hv⟩ := ev_sound h hs
        exact fin_val h hs hv (by simp [execOp, ho, hc, asBool]) hK
      | false =>
        obtain ⟨sv, h, hv⟩ := ev_sound h hs
        exact fin_val h hs hv (by simp [execOp, ho, hc, asBool]) hK
    · simp [M.exec] at h
  · -- alloc
    rename_i t ho
    split at h
    · rename_i i hi
      replace h := test_exec h; obtain ⟨hz, h⟩ := h
      obtain ⟨σ1, ρ1, v, w', h1, h2, h3, h4⟩ := alloc_sound (newId_ge _) (hT _ _ hi) hz h hs ho
      exact fin_val h1 h2 h3 h4 hK
    · simp [M.exec] at h
  · -- box
    rename_i t x ho
    obtain ⟨sv, h, hv⟩ := ev_sound h hs
    replace h := test_exec h; obtain ⟨hc, h⟩ := h
    obtain ⟨σ1, ρ1, v, w', h1, h2, h3, h4⟩ := box_sound (newId_ge _) h hc hs hv ho
    exact fin_val h1 h2 h3 h4 hK
  · -- build
    rename_i t parts ho
    split at h
    · rename_i i hi
      replace h := test_exec h; obtain ⟨ht, h⟩ := h
      simp only [Bool.and_eq_true, Bool.not_eq_true'] at ht
      obtain ⟨svs, h, hv⟩ := evO_sound h hs
      obtain ⟨cs, v, h1, h2, h3⟩ := build_sound (hT _ _ hi) ht.1.1 ht.1.2 ht.2 h hs hv ho
      exact fin_val h1 hs h2 h3 hK
    · simp [M.exec] at h
  · -- buildSlice
    rename_i t n parts ho
    split at h
    · rename_i e he
      obtain ⟨i, hi, he⟩ := Option.bind_eq_some_iff.1 he
      split at h
      · rename_i j ty hj hty
        replace h := test_exec h; obtain ⟨ht, h⟩ := h
        simp only [Bool.and_eq_true, beq_iff_eq] at ht
        obtain ⟨svs, h, hv⟩ := evO_sound h hs
        obtain ⟨σ1, ρ1, F1, v, w', h1, h2, h3, h4⟩ := buildSlice_sound (newId_ge _) (hT _ _ hi) he (hT _ _ hj) ht.1.1.1 (Nat.eq_of_beq_eq_true ht.1.1.2) ht.1.2 (Nat.le_of_ble_eq_true ht.2) h hs hv ho
        exact fin_val h1 h2 h3 h4 hK
      · simp [M.exec] at h
    · simp [M.exec] at h
  · -- load
    rename_i t x ho
    split at h
    · rename_i i hi
      obtain ⟨sa, h, ha⟩ := ev_sound h hs
      cases hal : Nat.beq (E.vr (o.dst.getD 0)) 1 with
      | true =>
        rw [hal, cond_true] at h
        obtain ⟨sv, v, h1, h3, h4⟩ := aliasF_sound (hT _ _ hi) h hs ha ho
        exact fin_val h1 hs h3 h4 hK
      | false =>
        rw [hal, cond_false] at h
        obtain ⟨sv, v, σ1, ρ1, h1, h2, h3, h4⟩ := loadF_sound (hT _ _ hi) h (newId_ge _) hs ha ho
        exact fin_val h1 h2 h3 h4 hK
    · simp [M.exec] at h
  · -- store
    rename_i t x y ho
    split at h
    · rename_i i hi
      replace h := test_exec h; obtain ⟨hd, h⟩ := h
      obtain ⟨sa, h, ha⟩ := ev_sound h hs
      obtain ⟨sv, h, hv⟩ := ev_sound h hs
      obtain ⟨w', F', ρ', h1, h2⟩ := store_sound (hT _ _ hi) h hs ha hv ho
      have hd : o.dst = none := by simpa using hd
      exact wp_skp h1 (hK _ _ _ _ (by rw [hd]; exact h2))
    · simp [M.exec] at h
  · -- nilCheck
    rename_i x ho
    obtain ⟨sv, h, hv⟩ := ev_sound h hs
    split at h
    · have hv' := hv
      obtain ⟨_, e⟩ := hv
      exact fin_val h hs hv' (by simp [execOp, ho, e]) hK
    · have hv' := hv
      obtain ⟨_, b, l, c, _, e⟩ := hv
      exact fin_val h hs hv' (by simp [execOp, ho, e]) hK
    · have hv' := hv
      obtain ⟨ad, e, _⟩ := hv
      exact fin_val h hs hv' (by simp [execOp, ho, e]) hK
    · have hv' := hv
      obtain ⟨us, e, _⟩ := hv
      exact fin_val h hs hv' (by simp [execOp, ho, e]) hK
    · rename_i n off xo
      obtain ⟨i, hx, h⟩ := opt_exec h
      subst hx
      have hv : VR ρ F w (σ.lv ρ) (.el n i off) (a.eval x) := hv
      have hv' := hv
      obtain ⟨_, b, l, c, _, e⟩ := hv
      exact fin_val h hs hv' (by simp [execOp, ho, e]) hK
    · have hv' := hv
      obtain ⟨_, b, l, c, _, e⟩ := hv
      exact fin_val h hs hv' (by simp [execOp, ho, e]) hK
    · simp [M.exec] at h
  · -- binOp
    rename_i op t x y yt ho
    obtain ⟨sa, h, ha⟩ := ev_sound h hs
    obtain ⟨sb, h, hb⟩ := ev_sound h hs
    obtain ⟨sv, v, h1, h2, h3⟩ := bin_sound hE.ok h ha hb ho
    exact fin_val h1 hs h2 h3 hK
  · rename_i op t x ho
    obtain ⟨sa, h, ha⟩ := ev_sound h hs
    obtain ⟨sv, v, h1, h2, h3⟩ := un_sound h ha ho
    exact fin_val h1 hs h2 h3 hK
  · -- convert
    rename_i src t x ho
    split at h
    · rename_i i0 k hi0 hk
      obtain ⟨i, hi, hk⟩ := Option.bind_eq_some_iff.1 hk
      have hu := ik_spec (hT _ _ hi) hk
      obtain ⟨d, inf, hd, _⟩ := tinfo_spec (hT _ _ hi0)
      obtain ⟨sv, h, hv⟩ := ev_sound h hs
      split at h
      · rename_i k' z
        have e : a.eval x = .int k' z := hv
        exact fin_val h hs rfl (by simp [execOp, ho, e, convert, run_underlying hu, run_underlying hd, Conv.intToInt]) hK
      · simp [M.exec] at h
    · simp [M.exec] at h
  · -- makeSlice
    rename_i t l c ho
    split at h
    · rename_i e he
      obtain ⟨i, hi, he⟩ := Option.bind_eq_some_iff.1 he
      split at h
      · rename_i j ty hj hty
        replace h := test_exec h; obtain ⟨ht, h⟩ := h
        simp only [Bool.and_eq_true, beq_iff_eq] at ht
        obtain ⟨sa, h, ha⟩ := ev_sound h hs
        obtain ⟨sb, h, hb⟩ := ev_sound h hs
        split at h
        · rename_i z y
          replace h := test_exec h; obtain ⟨hz, h⟩ := h
          simp only [Bool.and_eq_true, beq_iff_eq, decide_eq_true_eq] at hz
          obtain ⟨hz1, rfl⟩ := hz
          obtain ⟨σ1, ρ1, v, w', h1, h2, h3, h4⟩ := makeSlice_sound (newId_ge _) (hT _ _ hi) he (hT _ _ hj) ht.1.1.1 (Nat.eq_of_beq_eq_true ht.1.1.2) (Nat.le_of_ble_eq_true ht.1.2) ht.2 hz1.1 hz1.2 h hs ha hb ho
          exact fin_val h1 h2 h3 h4 hK
        · simp [M.exec] at h
      · simp [M.exec] at h
    · simp [M.exec] at h
  · -- slice
    rename_i t x lo hi mx ho
    split at h
    · rename_i i hi'
      obtain ⟨sa, h, ha⟩ := ev_sound h hs
      obtain ⟨l, h, hl⟩ := evOp_sound h hs
      obtain ⟨h', h, hh⟩ := evOp_sound h hs
      obtain ⟨m, h, hm⟩ := evOp_sound h hs
      split at h
      · rename_i s
        replace h := test_exec h; obtain ⟨ht, h⟩ := h
        simp only [Bool.and_eq_true] at ht
        obtain ⟨sv, v, h1, h2, h3⟩ := sliceS_sound (hT _ _ hi') ht.1 (by simpa using ht.2) h ha hl hh ho
        exact fin_val h1 hs h2 h3 hK
      · split at h
        · rename_i e he
          split at h
          · rename_i j hj
            replace h := test_exec h; obtain ⟨ht, h⟩ := h
            cases hvr : Nat.beq (E.vr (o.dst.getD 0)) 2 with
            | true =>
              rw [hvr] at h
              simp only [cond_true] at h
              obtain ⟨sv, σ1, ρ1, F1, v, h1, h2, h3, h4⟩ := clip_sound (newId_ge _) (hT _ _ hi') he (hT _ _ hj) h hs ha hl hh hm ho
              exact fin_val h1 h2 h3 h4 hK
            | false =>
              rw [hvr] at h
              simp only [cond_false] at h
              obtain ⟨sv, σ1, F1, v, h1, h2, h3, h4⟩ := slice_sound (hT _ _ hi') he (hT _ _ hj) h hs ha hl hh hm (fun hq => by rw [hq] at ht; simpa using ht) ho
              exact fin_val h1 h2 h3 h4 hK
          · simp [M.exec] at h
        · simp [M.exec] at h
    · simp [M.exec] at h
  · -- fieldAddr
    rename_i t x f ho
    split at h
    · rename_i i hi
      obtain ⟨sa, h, ha⟩ := ev_sound h hs
      obtain ⟨sv, v, h1, h2, h3⟩ := fieldAddr_sound (hT _ _ hi) h ha ho
      exact fin_val h1 hs h2 h3 hK
    · simp [M.exec] at h
  · rename_i t x f ho
    split at h
    · rename_i i hi
      obtain ⟨sa, h, ha⟩ := ev_sound h hs
      obtain ⟨sv, v, h1, h2, h3⟩ := field_sound (hT _ _ hi) h ha ho
      exact fin_val h1 hs h2 h3 hK
    · simp [M.exec] at h
  · -- indexAddr
    rename_i t x y ho
    split at h
    · rename_i j hj
      obtain ⟨e, he, hj⟩ := Option.bind_eq_some_iff.1 hj
      obtain ⟨i, hi, he⟩ := Option.bind_eq_some_iff.1 he
      obtain ⟨sa, h, ha⟩ := ev_sound h hs
      obtain ⟨sb, h, hb⟩ := ev_sound h hs
      obtain ⟨sv, v, h1, h2, h3⟩ := indexAddr_sound (hT _ _ hi) he (hT _ _ hj) h hs ha hb ho
      exact fin_val h1 hs h2 h3 hK
    · simp [M.exec] at h
  · rename_i t x y ho
    split at h
    · rename_i i hi
      replace h := test_exec h; obtain ⟨hst, h⟩ := h
      obtain ⟨sa, h, ha⟩ := ev_sound h hs
      obtain ⟨sb, h, hb⟩ := ev_sound h hs
      obtain ⟨sv, v, h1, h2, h3⟩ := index_sound (hT _ _ hi) hst h ha hb ho
      exact fin_val h1 hs h2 h3 hK
    · simp [M.exec] at h
  · -- extract
    rename_i x j ho
    obtain ⟨sa, h, ha⟩ := ev_sound h hs
    split at h
    · rename_i vs
      split at h
      · rename_i sv hsv
        obtain ⟨us, e, hu⟩ := ha
        obtain ⟨u, hu1, hu2⟩ := hu.get hsv
        have hu1' : us[j]? = some u := by rw [← Array.getElem?_toList]; exact hu1
        exact fin_val h hs (VR_of_LR1 hu2) (by simp [execOp, ho, e, Instr.extract, hu1']) hK
      · simp [M.exec] at h
    · simp [M.exec] at h
  · -- a call
    rename_i x as ts ho
    obtain ⟨sx, h, hx⟩ := ev_sound h hs
    split at h
    · rename_i f caps
      obtain ⟨us, hx, hcap⟩ := hx
      replace h := test_exec h; obtain ⟨hlt, h⟩ := h
      split at h
      · rename_i sg hsg
        obtain ⟨args, h, hv⟩ := evO_sound h hs
        obtain ⟨fn, hf1, hf2, hf3⟩ := hE.fn _ sg hsg
        have hc := call_sound hE (newId_ge _) hsg h hs (hv.append (cap_VR hcap))
        rw [vid_mod _ hlt] at hc hf1
        have hrun : (execOp a.eval o).run P w = .ok (.enter f (as.map a.eval ++ us.toArray)) w := by
          have q1 : ¬ fn.name = "runtime.NumGoroutine" := by simpa using hf2
          have q2 : ¬ fn.body = none := by
            intro e; rw [e] at hf3; simp at hf3
          simp [execOp, ho, resolve, invoke, Deferred.ofValue, callFunc, hf1, q1, q2, hx]
        unfold Oper.wp
        rw [hrun, Oper.upon_enter]
        have e : (as.map a.eval ++ us.toArray) = (as.toList.map a.eval ++ us).toArray := by apply Array.ext'; simp
        rw [e]
        refine hc.mono ?_
        rintro e' w' ⟨v, rfl, sv, σ1, ρ1, F1, h1, h2, h3⟩
        exact hK _ _ _ _ (put_sound h1 h2 h3)
      · simp [M.exec] at h
    · simp [M.exec] at h
  · -- makeFunc
    rename_i f first captured ho
    replace h := test_exec h; obtain ⟨hfi, h⟩ := h
    have hfi : first = #[] := by simpa using hfi
    subst hfi
    obtain ⟨svs, h, hv⟩ := evO_sound h hs
    replace h := test_exec h; obtain ⟨ht, h⟩ := h
    simp only [Bool.and_eq_true] at ht
    refine fin_val (v := .func (.func f) #[] (captured.map a.eval)) h hs ⟨captured.toList.map a.eval, by congr 1; apply Array.ext'; simp, VR_cap ht.2 hv⟩ (by simp [execOp, ho, Instr.makeFunc]) hK
  · -- makeMap
    rename_i t ho
    split at h
    · rename_i k v hm
      obtain ⟨i, hi, hm⟩ := Option.bind_eq_some_iff.1 hm
      split at h
      · rename_i ty hty
        replace h := test_exec h; obtain ⟨ht, h⟩ := h
        simp only [Bool.and_eq_true] at ht
        obtain ⟨σ1, ρ1, v, w', h1, h2, h3, h4⟩ := makeMap_sound (newId_ge _) (Nat.eq_of_beq_eq_true ht.1) ht.2 h hs ho
        exact fin_val h1 h2 h3 h4 hK
      · simp [M.exec] at h
    · simp [M.exec] at h
  · -- lookup
    rename_i t x y ok ho
    split at h
    · rename_i k v hm
      obtain ⟨i, hi, hm⟩ := Option.bind_eq_some_iff.1 hm
      split at h
      · rename_i iv ty hk hiv hty
        obtain ⟨ik, hk, hik⟩ := Option.bind_eq_some_iff.1 hk
        obtain ⟨sm, h, hx⟩ := ev_sound h hs
        obtain ⟨sz, h, hy⟩ := ev_sound h hs
        split at h
        · rename_i n z
          simp only [M.exec] at h
          split at h
          · rename_i t' es hob
            obtain ⟨ht, h9⟩ := test_exec h
            simp only [Bool.and_eq_true, decide_eq_true_eq] at ht
            obtain ⟨⟨⟨rfl, hz⟩, hz1⟩, hz2⟩ := ht
            obtain ⟨u, h1, h2⟩ := lookup_sound (hT _ _ hi) hm (hT _ _ hk) hik (hT _ _ hiv) hz hz1 hz2 hob hs hx hy ho
            cases ok <;> exact fin_val h9 hs h2 h1 hK
          · simp [M.exec] at h
        · simp [M.exec] at h
      · simp [M.exec] at h
    · simp [M.exec] at h
  · -- mapUpdate
    rename_i t x y u ho
    split at h
    · rename_i k v hm
      obtain ⟨i, hi, hm⟩ := Option.bind_eq_some_iff.1 hm
      split at h
      · rename_i hk
        obtain ⟨ik, hk, hik⟩ := Option.bind_eq_some_iff.1 hk
        replace h := test_exec h; obtain ⟨hd, h⟩ := h
        have hd : o.dst = none := by simpa using hd
        obtain ⟨sm, h, hx⟩ := ev_sound h hs
        obtain ⟨sz, h, hy⟩ := ev_sound h hs
        obtain ⟨sw, h, hu⟩ := ev_sound h hs
        split at h
        · rename_i n z
          simp only [M.exec] at h
          split at h
          · rename_i t' es hob
            replace h := test_exec h; obtain ⟨ht, h⟩ := h
            simp only [Bool.and_eq_true] at ht
            obtain ⟨xv, rest, h, w', h1, h2⟩ := mapUpdate_sound (hT _ _ hi) hm (hT _ _ hk) hik hob hs hx hy ht.1.1 hu h ho
            split at h
            · simp only [M.exec, Option.some.injEq, Prod.mk.injEq, true_and] at h
              subst h
              exact wp_skp h1 (hK _ _ _ _ (by rw [hd]; exact h2))
            · simp [M.exec] at h
          · simp [M.exec] at h
        · simp [M.exec] at h
      · simp [M.exec] at h
    · simp [M.exec] at h
  · -- len
    rename_i as ts ho
    split at h
    · rename_i i x hi has
      obtain ⟨t, ht, hi⟩ := Option.bind_eq_some_iff.1 hi
      obtain ⟨sa, h, ha⟩ := ev_sound h hs
      split at h
      · rename_i n
        replace h := test_exec h; obtain ⟨hm, h⟩ := h
        simp only [M.exec] at h
        split at h
        · rename_i ty es hob
          exact fin_val h hs rfl (lenMap_sound (hT _ _ hi) hm ht has hob hs ha ho) hK
        · simp [M.exec] at h
      · replace h := test_exec h; obtain ⟨hst, h⟩ := h
        obtain ⟨n, h1, h2⟩ := len_sound (hT _ _ hi) ht has hst hs h ha ho
        exact fin_val h1 hs rfl h2 hK
    · simp [M.exec] at h
  · -- append
    rename_i as ts ho
    split at h
    · rename_i t t' s x hts has
      split at h
      · rename_i e he
        obtain ⟨i, hi, he⟩ := Option.bind_eq_some_iff.1 he
        split at h
        · rename_i j hj
          replace h := test_exec h; obtain ⟨ht, h⟩ := h
          simp only [Bool.and_eq_true] at ht
          have := Nat.eq_of_beq_eq_true ht.1.1.1.2
          subst this
          obtain ⟨sa, h, ha⟩ := ev_sound h hs
          obtain ⟨sb, h, hb⟩ := ev_sound h hs
          obtain ⟨σ1, ρ1, v, w', h1, h2, h3, h4⟩ := append_sound (newId_ge _) (hT _ _ hi) he (hT _ _ hj) ht.1.1.1.1 (Nat.le_of_ble_eq_true ht.1.1.2) (Nat.eq_of_beq_eq_true ht.2) hts has h hs ha hb ho
          exact fin_val h1 h2 h3 h4 hK
        · simp [M.exec] at h
      · simp [M.exec] at h
    · simp [M.exec] at h
  · -- clear
    rename_i as ts ho
    split at h
    · rename_i i x hi has
      obtain ⟨t, ht, hi⟩ := Option.bind_eq_some_iff.1 hi
      split at h
      · rename_i j hj
        obtain ⟨e, he, hj⟩ := Option.bind_eq_some_iff.1 hj
        split at h
        · rename_i k hj0
          replace h := test_exec h; obtain ⟨hz, h⟩ := h
          obtain ⟨sa, h, ha⟩ := ev_sound h hs
          split at h
          · rename_i n lo hi2
            simp only [M.exec] at h
            split at h
            · rename_i e' k' xs hob
              obtain ⟨hc, hx⟩ := test_exec h
              simp only [Bool.and_eq_true, decide_eq_true_eq] at hc
              obtain ⟨rfl, hle⟩ := hc
              obtain ⟨w', h1, h2⟩ := clear_sound (hT _ _ hi) he (hT _ _ hj) hz hj0 ht has hob hle hs ha ho
              exact fin_val hx h2 trivial h1 hK
            · simp [M.exec] at h
          · simp [M.exec] at h
        · simp [M.exec] at h
      · simp [M.exec] at h
    · simp [M.exec] at h
  · -- min
    rename_i as ts ho
    split at h
    · rename_i x y has
      obtain ⟨sa, h, ha⟩ := ev_sound h hs
      obtain ⟨sb, h, hb⟩ := ev_sound h hs
      have has' : as = #[x, y] := by rw [← has]
      subst has'
      cases sa with
      | int k u =>
        cases sb with
        | int k' v =>
          have ha : a.eval x = .int k u := ha
          have hb : a.eval y = .int k' v := hb
          exact fin_val h hs rfl (by simp [execOp, ho, resolve, invoke, builtin, Builtin.min_, ha, hb, Builtin.min2]) hK
        | _ => simp [M.exec] at h
      | _ => simp [M.exec] at h
    · simp [M.exec] at h
  · rename_i as ts ho
    split at h
    · rename_i x y has
      obtain ⟨sa, h, ha⟩ := ev_sound h hs
      obtain ⟨sb, h, hb⟩ := ev_sound h hs
      have has' : as = #[x, y] := by rw [← has]
      subst has'
      cases sa with
      | int k u =>
        cases sb with
        | int k' v =>
          have ha : a.eval x = .int k u := ha
          have hb : a.eval y = .int k' v := hb
          exact fin_val h hs rfl (by simp [execOp, ho, resolve, invoke, builtin, Builtin.max_, ha, hb, Builtin.max2]) hK
        | _ => simp [M.exec] at h
      | _ => simp [M.exec] at h
    · simp [M.exec] at h
  · simp [M.exec] at h
end
end Go.Gx

/-
  Gx, part F: regions, in the text's order and in any order.
-/
set_option linter.unusedVariables false
set_option linter.unusedSimpArgs false
namespace Go.Gx

def agree (σ τ : St) (k : Key) : Prop := match k.1 with
  | some true => σ.ob k.2 = τ.ob k.2
  | some false => σ.sl k.2 = τ.sl k.2
  | none => lenOf (σ.ob k.2) = lenOf (τ.ob k.2)
theorem agree.symm {σ τ : St} {k : Key} (h : agree σ τ k) : agree τ σ k := by
  unfold agree at *; split at h <;> simp_all
theorem agree.trans {σ τ υ : St} {k : Key} (h : agree σ τ k) (h' : agree τ υ k) : agree σ υ k := by
  unfold agree at *; split at h <;> simp_all
theorem agree.refl (σ : St) (k : Key) : agree σ σ k := by unfold agree; split <;> rfl
theorem St.ext_keys {σ τ : St} (h : ∀ k, agree σ τ k) : σ = τ := by
  cases σ; cases τ
  congr 1
  · funext s; exact h (some false, s)
  · funext n; exact h (some true, n)
theorem agree_setS {σ τ : St} {s : Nat} {v : SV} {k : Key} (h : k ≠ (some false, s) → agree σ τ k) : agree (σ.setS s v) (τ.setS s v) k := by
  obtain ⟨b, n⟩ := k
  match b with
  | none => exact h (by simp)
  | some true => exact h (by simp)
  | some false =>
    show (σ.setS s v).sl n = (τ.setS s v).sl n
    rw [setS_sl, setS_sl]
    split
    · rfl
    · rename_i hne; exact h (by simp [hne])
theorem agree_setO {σ τ : St} {s : Nat} {v : Obj} {k : Key} (h : k ≠ (some true, s) → agree σ τ k) : agree (σ.setO s v) (τ.setO s v) k := by
  obtain ⟨b, n⟩ := k
  match b with
  | none =>
    show lenOf ((σ.setO s v).ob n) = lenOf ((τ.setO s v).ob n)
    rw [setO_ob, setO_ob]
    split
    · rfl
    · exact h (by simp)
  | some false => exact h (by simp)
  | some true =>
    show (σ.setO s v).ob n = (τ.setO s v).ob n
    rw [setO_ob, setO_ob]
    split
    · rfl
    · rename_i hne; exact h (by simp [hne])
theorem agree_setS_ne {σ : St} {s : Nat} {v : SV} {k : Key} (h : k ≠ (some false, s)) : agree (σ.setS s v) σ k := by
  obtain ⟨b, n⟩ := k
  match b with
  | none => rfl
  | some true => rfl
  | some false =>
    show (σ.setS s v).sl n = σ.sl n
    rw [setS_sl, if_neg]; intro e; exact h (by rw [e])
theorem agree_setO_ne {σ : St} {s : Nat} {v : Obj} {k : Key} (h : k ≠ (some true, s)) (h2 : k ≠ (none, s)) : agree (σ.setO s v) σ k := by
  obtain ⟨b, n⟩ := k
  match b with
  | some false => rfl
  | none =>
    show lenOf ((σ.setO s v).ob n) = lenOf (σ.ob n)
    rw [setO_ob, if_neg]; intro e; exact h2 (by rw [e])
  | some true =>
    show (σ.setO s v).ob n = σ.ob n
    rw [setO_ob, if_neg]; intro e; exact h (by rw [e])
theorem agree_hole {σ : St} {s : Nat} {e : TypeId} {t : Ty} {xs : List t.I} {i off id : Nat} {k : Key} (ho : σ.ob s = .row e t xs) (h : k ≠ (some true, s)) : agree (σ.setO s (.hrow e t xs i off id)) σ k := by
  by_cases h2 : k = (none, s)
  · subst h2
    show lenOf ((σ.setO s _).ob s) = lenOf (σ.ob s)
    rw [setO_ob, if_pos rfl, ho]; rfl
  · exact agree_setO_ne h h2
theorem fp_mono {α : Type} (m : M α) : ∀ (σ : St) (l : Log), (∀ k ∈ l.r, k ∈ (m.fp σ l).r) ∧ (∀ k ∈ l.w, k ∈ (m.fp σ l).w) := by
  induction m with
  | ret a => intro σ l; exact ⟨fun _ h => h, fun _ h => h⟩
  | fail => intro σ l; exact ⟨fun _ h => h, fun _ h => h⟩
  | getS s k ih => intro σ l; have := ih (σ.sl s) σ ⟨(some false, s) :: l.r, l.w⟩; exact ⟨fun x h => this.1 x (by simp [h]), this.2⟩
  | setS s v k ih => intro σ l; have := ih (σ.setS s v) ⟨l.r, (some false, s) :: l.w⟩; exact ⟨this.1, fun x h => this.2 x (by simp [h])⟩
  | getO n k ih => intro σ l; have := ih (σ.ob n) σ ⟨(some true, n) :: l.r, l.w⟩; exact ⟨fun x h => this.1 x (by simp [h]), this.2⟩
  | setO n o k ih => intro σ l; have := ih (σ.setO n o) ⟨l.r, (some true, n) :: (none, n) :: l.w⟩; exact ⟨this.1, fun x h => this.2 x (by simp [h])⟩
  | getL n k ih => intro σ l; have := ih (lenOf (σ.ob n)) σ ⟨(none, n) :: l.r, l.w⟩; exact ⟨fun x h => this.1 x (by simp [h]), this.2⟩
  | hole n i off id k ih =>
    intro σ l
    simp only [M.fp]
    cases σ.ob n with
    | row e t xs => have := ih (σ.setO n (.hrow e t xs i off id)) ⟨(some true, n) :: l.r, (some true, n) :: l.w⟩; exact ⟨fun x h => this.1 x (by simp [h]), fun x h => this.2 x (by simp [h])⟩
    | _ => exact ⟨fun _ h => h, fun _ h => h⟩
  | test b k ih => intro σ l; exact ih σ l
  | opt o k ih =>
    intro σ l
    cases o with
    | none => exact ⟨fun _ h => h, fun _ h => h⟩
    | some b => exact ih b σ l
/-- A step looks at what it reads, and at nothing else. 'D': what has been written so far, alike in both. -/
theorem M.local {α : Type} (m : M α) : ∀ (σ τ : St) (l : Log) (x : α) (σ1 : St), m.exec σ = some (x, σ1) → (∀ k ∈ (m.fp σ l).r, agree σ τ k ∨ k ∈ l.w) → (∀ k ∈ l.w, agree σ τ k) →
    ∃ τ1, m.exec τ = some (x, τ1) ∧ m.fp τ l = m.fp σ l ∧ (∀ k ∈ (m.fp σ l).w, agree σ1 τ1 k) ∧ (∀ k, k ∉ (m.fp σ l).w → agree τ1 τ k ∧ agree σ1 σ k) := by
  induction m with
  | ret a =>
    intro σ τ l x σ1 h hr hw
    simp only [M.exec, Option.some.injEq, Prod.mk.injEq] at h
    obtain ⟨rfl, rfl⟩ := h
    exact ⟨τ, rfl, rfl, hw, fun k _ => ⟨agree.refl _ _, agree.refl _ _⟩⟩
  | fail => intro σ τ l x σ1 h; simp [M.exec] at h
  | getS s k ih =>
    intro σ τ l x σ1 h hr hw
    have hs : agree σ τ (some false, s) := by
      rcases hr (some false, s) ((fp_mono (k (σ.sl s)) σ ⟨(some false, s) :: l.r, l.w⟩).1 _ (by simp)) with h1 | h1
      · exact h1
      · exact hw _ h1
    have e : τ.sl s = σ.sl s := Eq.symm hs
    obtain ⟨τ1, h1, h2, h3, h4⟩ := ih (σ.sl s) σ τ ⟨(some false, s) :: l.r, l.w⟩ x σ1 h hr hw
    exact ⟨τ1, by simp only [M.exec, e]; exact h1, by simp only [M.fp, e]; exact h2, h3, h4⟩
  | getO s k ih =>
    intro σ τ l x σ1 h hr hw
    have hs : agree σ τ (some true, s) := by
      rcases hr (some true, s) ((fp_mono (k (σ.ob s)) σ ⟨(some true, s) :: l.r, l.w⟩).1 _ (by simp)) with h1 | h1
      · exact h1
      · exact hw _ h1
    have e : τ.ob s = σ.ob s := Eq.symm hs
    obtain ⟨τ1, h1, h2, h3, h4⟩ := ih (σ.ob s) σ τ ⟨(some true, s) :: l.r, l.w⟩ x σ1 h hr hw
    exact ⟨τ1, by simp only [M.exec, e]; exact h1, by simp only [M.fp, e]; exact h2, h3, h4⟩
  | setS s v k ih =>
    intro σ τ l x σ1 h hr hw
    obtain ⟨τ1, h1, h2, h3, h4⟩ := ih (σ.setS s v) (τ.setS s v) ⟨l.r, (some false, s) :: l.w⟩ x σ1 h (fun q hq => by
        by_cases e : q = (some false, s)
        · exact .inr (by simp [e])
        · rcases hr q hq with h1 | h1
          · exact .inl (agree_setS fun _ => h1)
          · exact .inr (by simp [h1])) (fun q hq => by
        by_cases e : q = (some false, s)
        · exact agree_setS fun hne => absurd e hne
        · exact agree_setS fun _ => hw q (by simpa [e] using hq))
    refine ⟨τ1, h1, h2, h3, fun q hq => ?_⟩
    have hne : q ≠ (some false, s) := fun e => hq ((fp_mono k (σ.setS s v) ⟨l.r, (some false, s) :: l.w⟩).2 q (by simp [e]))
    exact ⟨(h4 q hq).1.trans (agree_setS_ne hne), (h4 q hq).2.trans (agree_setS_ne hne)⟩
  | setO s v k ih =>
    intro σ τ l x σ1 h hr hw
    obtain ⟨τ1, h1, h2, h3, h4⟩ := ih (σ.setO s v) (τ.setO s v) ⟨l.r, (some true, s) :: (none, s) :: l.w⟩ x σ1 h (fun q hq => by
        by_cases e : q = (some true, s)
        · exact .inr (by simp [e])
        · rcases hr q hq with h1 | h1
          · exact .inl (agree_setO fun _ => h1)
          · exact .inr (by simp [h1])) (fun q hq => by
        by_cases e : q = (some true, s)
        · exact agree_setO fun hne => absurd e hne
        · by_cases e2 : q = (none, s)
          · subst e2
            show lenOf ((σ.setO s v).ob s) = lenOf ((τ.setO s v).ob s)
            rw [setO_ob, setO_ob, if_pos rfl, if_pos rfl]
          · exact agree_setO fun _ => hw q (by simpa [e, e2] using hq))
    refine ⟨τ1, h1, h2, h3, fun q hq => ?_⟩
    have hne : q ≠ (some true, s) := fun e => hq ((fp_mono k (σ.setO s v) ⟨l.r, (some true, s) :: (none, s) :: l.w⟩).2 q (by simp [e]))
    have hne2 : q ≠ (none, s) := fun e => hq ((fp_mono k (σ.setO s v) ⟨l.r, (some true, s) :: (none, s) :: l.w⟩).2 q (by simp [e]))
    exact ⟨(h4 q hq).1.trans (agree_setO_ne hne hne2), (h4 q hq).2.trans (agree_setO_ne hne hne2)⟩
  | getL s k ih =>
    intro σ τ l x σ1 h hr hw
    have hs : agree σ τ (none, s) := by
      rcases hr (none, s) ((fp_mono (k (lenOf (σ.ob s))) σ ⟨(none, s) :: l.r, l.w⟩).1 _ (by simp)) with h1 | h1
      · exact h1
      · exact hw _ h1
    have e : lenOf (τ.ob s) = lenOf (σ.ob s) := Eq.symm hs
    obtain ⟨τ1, h1, h2, h3, h4⟩ := ih (lenOf (σ.ob s)) σ τ ⟨(none, s) :: l.r, l.w⟩ x σ1 h hr hw
    exact ⟨τ1, by simp only [M.exec, e]; exact h1, by simp only [M.fp, e]; exact h2, h3, h4⟩
  | hole s i off id k ih =>
    intro σ τ l x σ1 h hr hw
    simp only [M.exec] at h
    cases hob : σ.ob s with
    | row e0 t0 xs0 =>
      simp only [M.fp, hob] at hr ⊢
      rw [hob] at h
      simp only at h
      have hs : agree σ τ (some true, s) := by
        rcases hr (some true, s) ((fp_mono k (σ.setO s (.hrow e0 t0 xs0 i off id)) ⟨(some true, s) :: l.r, (some true, s) :: l.w⟩).1 _ (by simp)) with h1 | h1
        · exact h1
        · exact hw _ h1
      have e : τ.ob s = .row e0 t0 xs0 := (Eq.symm hs).trans hob
      obtain ⟨τ1, h1, h2, h3, h4⟩ := ih (σ.setO s (.hrow e0 t0 xs0 i off id)) (τ.setO s (.hrow e0 t0 xs0 i off id)) ⟨(some true, s) :: l.r, (some true, s) :: l.w⟩ x σ1 h (fun q hq => by
          by_cases e : q = (some true, s)
          · exact .inr (by simp [e])
          · rcases hr q hq with h1 | h1
            · exact .inl (agree_setO fun _ => h1)
            · exact .inr (by simp [h1])) (fun q hq => by
          by_cases e : q = (some true, s)
          · exact agree_setO fun hne => absurd e hne
          · exact agree_setO fun _ => hw q (by simpa [e] using hq))
      refine ⟨τ1, by simp only [M.exec, e]; exact h1, by simp only [e]; exact h2, h3, fun q hq => ?_⟩
      have hne : q ≠ (some true, s) := fun e => hq ((fp_mono k (σ.setO s (.hrow e0 t0 xs0 i off id)) ⟨(some true, s) :: l.r, (some true, s) :: l.w⟩).2 q (by simp [e]))
      exact ⟨(h4 q hq).1.trans (agree_hole e hne), (h4 q hq).2.trans (agree_hole hob hne)⟩
    | _ => rw [hob] at h; simp at h
  | test b k ih =>
    intro σ τ l x σ1 h hr hw
    obtain ⟨hb, h⟩ := test_exec h
    subst hb
    exact ih σ τ l x σ1 h hr hw
  | opt o k ih =>
    intro σ τ l x σ1 h hr hw
    obtain ⟨b, rfl, h⟩ := opt_exec h
    exact ih b σ τ l x σ1 h hr hw
abbrev l0 : Log := ⟨[], []⟩
/-- Two steps that touch different things. -/
def Apart (a b : Log) : Prop := (∀ k ∈ a.w, k ∉ b.w) ∧ (∀ k ∈ a.w, k ∉ b.r) ∧ (∀ k ∈ a.r, k ∉ b.w)
theorem swap {m1 m2 : MU} {σ σ1 σ2 : St} (h1 : m1.exec σ = some ((), σ1)) (h2 : m2.exec σ1 = some ((), σ2)) (ha : Apart (m1.fp σ l0) (m2.fp σ1 l0)) :
    ∃ τ, m2.exec σ = some ((), τ) ∧ m1.exec τ = some ((), σ2) ∧ m2.fp σ l0 = m2.fp σ1 l0 ∧ m1.fp τ l0 = m1.fp σ l0 := by
  obtain ⟨a1, a2, a3⟩ := ha
  obtain ⟨_, _, _, _, k1⟩ := M.local m1 σ σ l0 () σ1 h1 (fun k _ => .inl (agree.refl _ _)) (fun k hk => agree.refl _ _)
  obtain ⟨τ, e1, e2, e3, e4⟩ := M.local m2 σ1 σ l0 () σ2 h2 (fun k hk => .inl (k1 k (fun hw => a2 k hw hk)).2) (fun k hk => by simp at hk)
  obtain ⟨ρ, f1, f2, f3, f4⟩ := M.local m1 σ τ l0 () σ1 h1 (fun k hk => .inl (e4 k (fun hw => a3 k hk hw)).1.symm) (fun k hk => by simp at hk)
  refine ⟨τ, e1, ?_, e2, f2⟩
  rw [f1]
  congr 2
  refine St.ext_keys fun k => ?_
  by_cases hk1 : k ∈ (m1.fp σ l0).w
  · exact (f3 k hk1).symm.trans (e4 k (a1 k hk1)).2.symm
  · refine (f4 k hk1).1.trans ?_
    by_cases hk2 : k ∈ (m2.fp σ1 l0).w
    · exact (e3 k hk2).symm
    · exact (e4 k hk2).1.trans ((k1 k hk1).2.symm.trans (e4 k hk2).2.symm)
/-- A run of some steps, by their numbers, with their logs. -/
inductive Runs (f : Nat → MU) : List Nat → St → List (Nat × Log) → St → Prop
  | nil (σ : St) : Runs f [] σ [] σ
  | cons {i : Nat} {l : List Nat} {σ σ1 σ2 : St} {tr : List (Nat × Log)} (h : (f i).exec σ = some ((), σ1)) (hr : Runs f l σ1 tr σ2) : Runs f (i :: l) σ ((i, (f i).fp σ l0) :: tr) σ2
theorem Runs.fst {f : Nat → MU} {l : List Nat} {σ σ' : St} {tr : List (Nat × Log)} (h : Runs f l σ tr σ') : tr.map (·.1) = l := by
  induction h with
  | nil => rfl
  | cons h hr ih => simp [ih]
/-- A step that touches other things than those ahead of it may come first. -/
theorem Runs.front {f : Nat → MU} {i : Nat} {lg : Log} {post : List Nat} {σ' : St} : ∀ {pre : List Nat} {tp tq : List (Nat × Log)} {σ : St}, tp.length = pre.length → Runs f (pre ++ i :: post) σ (tp ++ (i, lg) :: tq) σ' → (∀ x ∈ tp, Apart x.2 lg) →
    Runs f (i :: (pre ++ post)) σ ((i, lg) :: (tp ++ tq)) σ'
  | [], [], tq, σ, _, h, _ => h
  | [], _ :: _, tq, σ, hl, h, _ => by simp at hl
  | _ :: _, [], tq, σ, hl, h, _ => by simp at hl
  | j :: pre, x :: tp, tq, σ, hl, h, ha => by
    simp only [List.cons_append] at h
    cases h with
    | cons h1 hr =>
      rename_i σ1
      have ih := Runs.front (by simpa using hl) hr (fun y hy => ha y (by simp [hy]))
      have hap := ha _ (List.mem_cons_self ..)
      cases ih with
      | cons h2 hr2 =>
        rename_i τ1
        obtain ⟨τ, e1, e2, e3, e4⟩ := swap h1 h2 hap
        have := Runs.cons e1 (Runs.cons e2 hr2)
        rw [e3, e4] at this
        exact this
end Go.Gx

/-
  Gx, part F2: the regions.
-/
set_option linter.unusedVariables false
set_option linter.unusedSimpArgs false
namespace Go.Gx
section
variable {P : Program} {cx : Ctx} {nt : Fr} {Q : Exit → Act → World → Prop} {E : Env} {all : Array Oper}
theorem opG_sound {G : World → Prop} (hE : EnvAt G P E cx) {i : Nat} {o : Oper} (hi : all[i]? = some o) {ρ : Rho} {F : Nat → Prop} {σ σ' : St} {a : Act} {w : World} {K : Act → World → Prop} (h : (opG E nt all o).exec σ = some ((), σ')) (hs : Sim cx nt ρ F σ a w)
    (hK : ∀ ρ' F' a' w', Sim cx nt ρ' F' σ' a' w' → K a' w') : wpOp P all Q i K a w := by
  unfold wpOp
  rw [hi]
  unfold opG at h
  simp only
  split at h
  · rename_i hg
    have : Region.wanted o (yielded all a.tmps) = true := by simp [Region.wanted, hg]
    rw [if_pos this]
    exact .inl (opM_sound hE h hs hK)
  · rename_i j want hg
    split at h
    · simp [M.exec] at h
    · rename_i d hd
      simp only [M.exec] at h
      split at h
      · rename_i b hb
        have hv := hs.slots d
        rw [hb] at hv
        have hv : a.tmps.getD d undef = .bool b := hv
        have ht : a.tmps[d]? = some (.bool b) := by
          cases hq : a.tmps[d]? with
          | none => rw [Array.getD_eq_getD_getElem?, hq] at hv; simp [undef] at hv
          | some v => rw [Array.getD_eq_getD_getElem?, hq] at hv; simpa using hv
        have hy : yielded all a.tmps j = some b := by
          unfold yielded
          rw [show (all[j]?).bind (·.dst) = some d from hd]
          simp [ht]
        have hw : Region.wanted o (yielded all a.tmps) = (b == want) := by
          simp [Region.wanted, hg, hy]
        rw [hw]
        cases hbw : b == want with
        | true =>
          rw [hbw] at h
          rw [if_pos rfl]
          exact .inl (opM_sound hE h hs hK)
        | false =>
          rw [hbw] at h
          rw [if_neg (by simp)]
          exact hK _ _ _ _ (put_sound h hs (sv := .und) rfl)
      · rename_i hb
        have hv := hs.slots d
        rw [hb] at hv
        have hv : a.tmps.getD d undef = undef := hv
        have hy : yielded all a.tmps j = none := by
          unfold yielded
          rw [show (all[j]?).bind (·.dst) = some d from hd]
          cases hq : a.tmps[d]? with
          | none => simp [hq]
          | some v =>
            rw [Array.getD_eq_getD_getElem?, hq] at hv
            simp only [Option.getD_some] at hv
            subst hv
            simp [hq, undef]
        have hw : Region.wanted o (yielded all a.tmps) = false := by
          simp [Region.wanted, hg, hy]
        rw [hw, if_neg (by simp)]
        exact hK _ _ _ _ (put_sound h hs (sv := .und) rfl)
      · simp [M.exec] at h
theorem part_eq {R : Type} {i : Nat} {o : Oper} {σ : St} {K : St → Option R} {r : R} (h : part all i o σ K = some r) : K σ = some r := by
  unfold part at h
  cases hq : asked all i with
  | false => rw [hq] at h; exact h
  | true =>
    rw [hq] at h
    simp only [cond_true] at h
    split at h
    · rename_i d hd
      split at h
      · rename_i b hb
        have : σ.setS d (.bool b) = σ := St.ext_keys fun k => by
          obtain ⟨q, n⟩ := k
          match q with
          | none => rfl
          | some true => rfl
          | some false =>
            show (σ.setS d (.bool b)).sl n = σ.sl n
            rw [setS_sl]
            split
            · rename_i e; rw [e, hb]
            · rfl
        cases b <;> simpa [this] using h
      · exact h
      · cases h
    · cases h
def stepOf (E : Env) (nt : Fr) (all : Array Oper) (i : Nat) : MU := match all[i]? with
  | some o => opG E nt all o
  | none => .ret ()
theorem runOps_runs {R : Type} {r : R} : ∀ {ops : List Oper} {i : Nat} {σ : St} {tr : List Log} {K : St → List Log → Option R}, (∀ k o, ops[k]? = some o → all[i + k]? = some o) → runOps E nt all ops i σ tr K = some r →
    ∃ σ' tl, Runs (stepOf E nt all) (List.range' i ops.length) σ tl σ' ∧ K σ' ((tl.map (·.2)).reverse ++ tr) = some r
  | [], i, σ, tr, K, _, h => ⟨σ, [], .nil σ, by simpa [runOps] using h⟩
  | o :: ops, i, σ, tr, K, ho, h => by
    simp only [runOps] at h
    rw [M.run_eq] at h
    split at h
    · cases h
    · rename_i x hx
      obtain ⟨u, σ1⟩ := x
      have h1 := part_eq h
      obtain ⟨σ', tl, h2, h3⟩ := runOps_runs (fun k q hq => by rw [show i + 1 + k = i + (k + 1) by omega]; exact ho (k + 1) q (by simpa using hq)) h1
      have hi : all[i]? = some o := by simpa using ho 0 o (by simp)
      have hst : stepOf E nt all i = opG E nt all o := by simp [stepOf, hi]
      refine ⟨σ', (i, (stepOf E nt all i).fp σ l0) :: tl, ?_, ?_⟩
      · rw [List.length_cons, List.range'_succ]
        exact .cons (by rw [hst]; exact hx) h2
      · rw [← h3, hst]
        simp
/-- In the text's order. -/
theorem text_sound {G : World → Prop} (hE : EnvAt G P E cx) {σ' : St} (hQ : ∀ ρ F a w, Sim cx nt ρ F σ' a w → Q .normal a w) : ∀ {l : List Nat} {σ : St} {tl : List (Nat × Log)}, (∀ i ∈ l, i < all.size) → Runs (stepOf E nt all) l σ tl σ' → ∀ {ρ : Rho} {F : Nat → Prop} {a : Act} {w : World}, Sim cx nt ρ F σ a w →
    wpOps P all Q l a w := by
  intro l σ tl hl h
  induction h with
  | nil => intro ρ F a w hs; exact hQ _ _ _ _ hs
  | cons h hr ih =>
    rename_i i l σ σ1 σ2 tr
    intro ρ F a w hs
    rw [wpOps_cons]
    have hi : i < all.size := hl i (by simp)
    have hst : stepOf E nt all i = opG E nt all all[i] := by simp [stepOf, hi]
    rw [hst] at h
    exact opG_sound hE (by simp [hi]) h hs fun ρ' F' a' w' hs' => ih hQ (fun j hj => hl j (by simp [hj])) hs'

theorem hasN_mem {l : List Nat} {n : Nat} : hasN l n = true ↔ n ∈ l := by
  simp only [hasN, List.any_eq_true]
  constructor
  · rintro ⟨x, hx, hb⟩; have := Nat.eq_of_beq_eq_true hb; subst this; exact hx
  · intro h; exact ⟨n, h, by simp⟩
theorem Key.beq_eq {a b : Key} : Key.beq a b = true ↔ a = b := by
  obtain ⟨p, m⟩ := a
  obtain ⟨q, n⟩ := b
  match p, q with
  | none, none => simp [Key.beq]
  | none, some true => simp [Key.beq]
  | none, some false => simp [Key.beq]
  | some true, none => simp [Key.beq]
  | some false, none => simp [Key.beq]
  | some true, some true => simp [Key.beq]
  | some true, some false => simp [Key.beq]
  | some false, some true => simp [Key.beq]
  | some false, some false => simp [Key.beq]
theorem meet_false {a b : List Key} (h : meet a b = false) : ∀ k ∈ a, k ∉ b := by
  intro k hk hb
  have : meet a b = true := by
    simp only [meet, List.any_eq_true]
    exact ⟨k, hk, k, hb, Key.beq_eq.2 rfl⟩
  rw [h] at this; cases this
theorem apart_spec {a b : Log} (h : apart a b = true) : Apart a b := by
  simp only [apart, Bool.not_eq_true', Bool.or_eq_false_iff] at h
  exact ⟨meet_false h.1.1, meet_false h.1.2, meet_false h.2⟩
theorem mem_preds {o : Oper} {p : Nat} : p ∈ preds o ↔ ∃ e ∈ o.after, Region.binds .any e = true ∧ e.on = p := by
  simp [preds, and_assoc]
theorem any_sound {G : World → Prop} (hE : EnvAt G P E cx) {σ' : St} (hQ : ∀ ρ F a w, Sim cx nt ρ F σ' a w → Q .normal a w) {an : List (List Nat)} (han : ancOk all.toList an = true) :
    ∀ (n : Nat) (rem : List Nat) (tl : List (Nat × Log)) (σ : St) (listed : Array Bool), rem.length = n → rem.Pairwise (· < ·) → (∀ i ∈ rem, i < all.size) → Runs (stepOf E nt all) rem σ tl σ' →
      (tl.Pairwise fun x y => x.1 ∈ an.getD y.1 [] ∨ Apart x.2 y.2) → listed.size = all.size → (∀ i, i < all.size → (listed.getD i true = false ↔ i ∈ rem)) → (∀ m, m < all.size → m ∉ rem → ∀ j ∈ an.getD m [], j ∉ rem) →
      ∀ {ρ : Rho} {F : Nat → Prop} {a : Act} {w : World}, Sim cx nt ρ F σ a w → wpAny P .any all Q n listed a w := by
  have hpre : ∀ i o, all[i]? = some o → (∀ p ∈ preds o, p < i) ∧ ∀ j ∈ an.getD i [], ∃ p ∈ preds o, p = j ∨ j ∈ an.getD p [] := by
    intro i o hi
    have hlt : i < all.size := (Array.getElem?_eq_some_iff.1 hi).1
    simp only [ancOk, List.all_eq_true, List.mem_range] at han
    have := han i (by simpa using hlt)
    rw [show all.toList[i]? = some o by rw [Array.getElem?_toList]; exact hi] at this
    simp only [Bool.and_eq_true, List.all_eq_true] at this
    refine ⟨fun p hp => ?_, fun j hj => ?_⟩
    · have := this.1 p hp
      simp only [Nat.blt] at this
      exact Nat.le_of_ble_eq_true this
    · have := this.2 j hj
      simp only [List.any_eq_true, Bool.or_eq_true] at this
      obtain ⟨p, hp, h⟩ := this
      exact ⟨p, hp, h.imp (fun h => Nat.eq_of_beq_eq_true h) (fun h => hasN_mem.1 h)⟩
  intro n
  induction n with
  | zero =>
    intro rem tl σ listed hn hpw hlt hr hind hsz hl hdown ρ F a w hs
    have : rem = [] := List.eq_nil_of_length_eq_zero hn
    subst this
    cases hr
    refine ⟨?_, hQ _ _ _ _ hs⟩
    apply List.eq_nil_iff_forall_not_mem.2
    intro i hi
    obtain ⟨h1, o, ho, _⟩ := mem_ready.1 hi
    have := (hl i (Array.getElem?_eq_some_iff.1 ho).1).1 h1
    simp at this
  | succ n ih =>
    intro rem tl σ listed hn hpw hlt hr hind hsz hl hdown ρ F a w hs
    have listed_true : ∀ p, p < all.size → p ∉ rem → listed.getD p false = true := by
      intro p hp hm
      have h1 : listed.getD p true = true := by
        cases hq : listed.getD p true with
        | true => rfl
        | false => exact absurd ((hl p hp).1 hq) hm
      have : p < listed.size := by omega
      simpa [this] using h1
    refine ⟨fun hnil => ?_, fun i hi => ?_⟩
    · exfalso
      cases rem with
      | nil => simp at hn
      | cons i0 rem =>
        have hi0 := hlt i0 (by simp)
        have : i0 ∈ Region.ready .any all listed := by
          refine mem_ready.2 ⟨(hl i0 hi0).2 (by simp), all[i0], by simp [hi0], fun e he hb => ?_⟩
          have hp := (hpre i0 all[i0] (by simp [hi0])).1 e.on (mem_preds.2 ⟨e, he, hb, rfl⟩)
          refine listed_true _ (by omega) fun hm => ?_
          rcases List.mem_cons.1 hm with h1 | h1
          · omega
          · have := (List.pairwise_cons.1 hpw).1 _ h1; omega
        rw [hnil] at this
        simp at this
    · obtain ⟨h1, o, ho, hall⟩ := mem_ready.1 hi
      have hisz : i < all.size := (Array.getElem?_eq_some_iff.1 ho).1
      have hir := (hl i hisz).1 h1
      have hdone : ∀ p ∈ preds o, p ∉ rem := by
        intro p hp hm
        obtain ⟨e, he, hb, rfl⟩ := mem_preds.1 hp
        have h2 := hall e he hb
        have h3 := (hl e.on (hlt _ hm)).2 hm
        have : e.on < listed.size := by have := hlt _ hm; omega
        simp [this] at h2 h3
        rw [h2] at h3; cases h3
      have hanc : ∀ j ∈ rem, j ∉ an.getD i [] := by
        intro j hj hja
        obtain ⟨p, hp, h2⟩ := (hpre i o ho).2 j hja
        have hpi := (hpre i o ho).1 p hp
        rcases h2 with h2 | h2
        · exact hdone p hp (h2 ▸ hj)
        · exact hdown p (by omega) (hdone p hp) j h2 hj
      obtain ⟨pre, post, rfl⟩ := List.append_of_mem hir
      have hfst := hr.fst
      obtain ⟨tp, tq, rfl, hp1, hp2⟩ : ∃ tp tq, tl = tp ++ tq ∧ tp.map (·.1) = pre ∧ tq.map (·.1) = i :: post := by
        refine ⟨tl.take pre.length, tl.drop pre.length, (List.take_append_drop ..).symm, ?_, ?_⟩
        · rw [List.map_take, hfst]; simp
        · rw [List.map_drop, hfst]; simp
      cases tq with
      | nil => simp at hp2
      | cons x tq =>
        obtain ⟨i', lg⟩ := x
        simp only [List.map_cons, List.cons.injEq] at hp2
        obtain ⟨rfl, hp3⟩ := hp2
        have hlen : tp.length = pre.length := by rw [← hp1]; simp
        have hind' := List.pairwise_append.1 hind
        have hap : ∀ x ∈ tp, Apart x.2 lg := by
          intro x hx
          rcases hind'.2.2 x hx (i', lg) (by simp) with h2 | h2
          · exact absurd h2 (hanc x.1 (by rw [← hp1]; exact List.mem_append_left _ (List.mem_map_of_mem hx)))
          · exact h2
        have hrun := Runs.front hlen hr hap
        cases hrun with
        | cons h2 hr2 =>
          rename_i σ1
          have hst : stepOf E nt all i' = opG E nt all o := by simp [stepOf, ho]
          rw [hst] at h2
          refine opG_sound hE ho h2 hs fun ρ' F' a' w' hs' => ?_
          have hpw' := List.pairwise_append.1 hpw
          have hpwc := List.pairwise_cons.1 hpw'.2.1
          have hni : i' ∉ pre ++ post := by
            intro hm
            rcases List.mem_append.1 hm with hm | hm
            · have := hpw'.2.2 i' hm i' (by simp); omega
            · have := hpwc.1 i' hm; omega
          have hmem : ∀ j, j ∈ pre ++ i' :: post ↔ j = i' ∨ j ∈ pre ++ post := by intro j; simp; constructor <;> (intro h; rcases h with h | h | h <;> simp [h])
          refine ih (pre ++ post) (tp ++ tq) σ1 _ (by simp at hn ⊢; omega) (List.pairwise_append.2 ⟨hpw'.1, hpwc.2, fun x hx y hy => hpw'.2.2 x hx y (by simp [hy])⟩) (fun j hj => hlt j ((hmem j).2 (.inr hj))) hr2
            (List.pairwise_append.2 ⟨hind'.1, (List.pairwise_cons.1 hind'.2.1).2, fun x hx y hy => hind'.2.2 x hx y (by simp [hy])⟩) (by simp [hsz]) (fun j hj => ?_) (fun m hm hmr j hj => ?_) hs'
          · by_cases e : i' = j
            · subst e
              have : i' < listed.size := by omega
              simp only [hni, iff_false]
              simp [this]
            · rw [getD_set_ne true e, hl j hj, hmem]
              exact ⟨fun h => h.resolve_left fun q => e q.symm, .inr⟩
          · by_cases e : m = i'
            · subst e
              intro hj'
              exact hanc j ((hmem j).2 (.inr hj')) hj
            · intro hj'
              exact hdown m hm (fun h => (((hmem m).1 h).resolve_left e |> hmr)) j hj ((hmem j).2 (.inr hj'))
end
end Go.Gx

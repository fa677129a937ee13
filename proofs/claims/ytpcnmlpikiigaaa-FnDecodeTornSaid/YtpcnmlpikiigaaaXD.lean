/-
  Gx, part D: what is handed on (to a call, from it, to a round): taken out of a state, and built into one.
-/
import Derived.Test.YtpcnmlpikiigaaaXC
set_option linter.unusedVariables false
set_option linter.unusedSimpArgs false
namespace Go.Gx

/-! ### 1. Bundles: the data of values, without names of objects -/
def BRL (F : Nat → Prop) (w : World) : (l : LS) → l.I → Value → List Nat → Prop
  | .int k, x, v, bs => v = .int k x ∧ bs = []
  | .bool, x, v, bs => v = .bool x ∧ bs = []
  | .str, x, v, bs => v = .string x ∧ bs = []
  | .ro t, xs, v, bs => TC F w (.sl t) xs [v] ∧ bs = []
  | .own e t, xs, v, bs => (∃ cells, w.ownsRow 0 e t.sz v xs.length cells ∧ RowC F w t xs cells) ∧ bs = v.ownBlock.toList
  | .fn, f, v, bs => v = .func (.func f) #[] #[] ∧ bs = []
  | .fnc f, _, v, bs => v = .func (.func f) #[] #[] ∧ bs = []
  | .nil, _, v, bs => v = .slice none 0 0 ∧ bs = []
  | .skip, _, _, bs => bs = []
def BRLs (F : Nat → Prop) (w : World) : (ls : List LS) → LsI ls → List Value → List Nat → Prop
  | [], _, vs, bs => vs = [] ∧ bs = []
  | l :: ls, x, vs, bs => ∃ v vs' b1 b2, vs = v :: vs' ∧ bs = b1 ++ b2 ∧ BRL F w l x.1 v b1 ∧ BRLs F w ls x.2 vs' b2
def BRV (F : Nat → Prop) (w : World) : (s : VS) → s.I → Value → List Nat → Prop
  | .leaf l, x, v, bs => BRL F w l x v bs
  | .agg ls, x, v, bs => ∃ us, v = .agg us ∧ BRLs F w ls x us.toList bs
  | .box e ls, x, v, bs => ∃ g us b2, v = .pointer (some ⟨g, 0, none⟩) ∧ w.heap[g]? = some (.cells us e (0, 0)) ∧ bs = g :: b2 ∧ BRLs F w ls x us.toList b2
def BRVs (F : Nat → Prop) (w : World) : (ss : List VS) → VsI ss → List Value → List Nat → Prop
  | [], _, vs, bs => vs = [] ∧ bs = []
  | s :: ss, x, vs, bs => ∃ v vs' b1 b2, vs = v :: vs' ∧ bs = b1 ++ b2 ∧ BRV F w s x.1 v b1 ∧ BRVs F w ss x.2 vs' b2
section
variable {F F' : Nat → Prop} {w w' : World}
theorem BRL_mono (hF : ∀ b, F b → F' b) (hw : ∀ b, F b → w'.heap[b]? = w.heap[b]?) {l : LS} {x : l.I} {v : Value} {bs : List Nat} (hb : ∀ b ∈ bs, w'.heap[b]? = w.heap[b]?)
    (h : BRL F w l x v bs) : BRL F' w' l x v bs := by
  cases l with
  | ro t => exact ⟨TC_mono hF hw h.1, h.2⟩
  | own e t =>
    obtain ⟨⟨cells, ho, hc⟩, rfl⟩ := h
    exact ⟨⟨cells, ownsRow_same ho (fun k hk => hb k (by simp [hk])), RowC_mono hF hw hc⟩, rfl⟩
  | _ => exact h
theorem BRLs_mono (hF : ∀ b, F b → F' b) (hw : ∀ b, F b → w'.heap[b]? = w.heap[b]?) : ∀ {ls : List LS} {x : LsI ls} {vs : List Value} {bs : List Nat}, (∀ b ∈ bs, w'.heap[b]? = w.heap[b]?) →
    BRLs F w ls x vs bs → BRLs F' w' ls x vs bs
  | [], _, _, _, _, h => h
  | l :: ls, x, vs, bs, hb, h => by
    obtain ⟨v, vs', b1, b2, rfl, rfl, h1, h2⟩ := h
    exact ⟨v, vs', b1, b2, rfl, rfl, BRL_mono hF hw (fun b hm => hb b (by simp [hm])) h1, BRLs_mono hF hw (fun b hm => hb b (by simp [hm])) h2⟩
theorem BRV_mono (hF : ∀ b, F b → F' b) (hw : ∀ b, F b → w'.heap[b]? = w.heap[b]?) {s : VS} {x : s.I} {v : Value} {bs : List Nat} (hb : ∀ b ∈ bs, w'.heap[b]? = w.heap[b]?)
    (h : BRV F w s x v bs) : BRV F' w' s x v bs := by
  cases s with
  | leaf l => exact BRL_mono hF hw hb h
  | agg ls => obtain ⟨us, e, h⟩ := h; exact ⟨us, e, BRLs_mono hF hw hb h⟩
  | box e ls =>
    obtain ⟨g, us, b2, rfl, hg, rfl, h⟩ := h
    exact ⟨g, us, b2, rfl, by rw [hb g (by simp)]; exact hg, rfl, BRLs_mono hF hw (fun b hm => hb b (by simp [hm])) h⟩
theorem BRVs_mono (hF : ∀ b, F b → F' b) (hw : ∀ b, F b → w'.heap[b]? = w.heap[b]?) : ∀ {ss : List VS} {x : VsI ss} {vs : List Value} {bs : List Nat}, (∀ b ∈ bs, w'.heap[b]? = w.heap[b]?) →
    BRVs F w ss x vs bs → BRVs F' w' ss x vs bs
  | [], _, _, _, _, h => h
  | s :: ss, x, vs, bs, hb, h => by
    obtain ⟨v, vs', b1, b2, rfl, rfl, h1, h2⟩ := h
    exact ⟨v, vs', b1, b2, rfl, rfl, BRV_mono hF hw (fun b hm => hb b (by simp [hm])) h1, BRVs_mono hF hw (fun b hm => hb b (by simp [hm])) h2⟩
/-- Flat bundles don't care for F. -/
theorem BRL_flat {l : LS} {x : l.I} {v : Value} {bs : List Nat} (hf : l.flat = true) (h : BRL F w l x v bs) : BRL F' w l x v bs := by
  cases l with
  | ro t => simp [LS.flat] at hf
  | own e t =>
    obtain ⟨⟨cells, ho, hc⟩, rfl⟩ := h
    exact ⟨⟨cells, ho, fun i x hi => TC_flat hf (hc i x hi)⟩, rfl⟩
  | _ => exact h
theorem BRLs_flat : ∀ {ls : List LS} {x : LsI ls} {vs : List Value} {bs : List Nat}, ls.all LS.flat = true → BRLs F w ls x vs bs → BRLs F' w ls x vs bs
  | [], _, _, _, _, h => h
  | l :: ls, x, vs, bs, hf, h => by
    simp only [List.all_cons, Bool.and_eq_true] at hf
    obtain ⟨v, vs', b1, b2, rfl, rfl, h1, h2⟩ := h
    exact ⟨v, vs', b1, b2, rfl, rfl, BRL_flat hf.1 h1, BRLs_flat hf.2 h2⟩
theorem BRV_flat {s : VS} {x : s.I} {v : Value} {bs : List Nat} (hf : s.flat = true) (h : BRV F w s x v bs) : BRV F' w s x v bs := by
  cases s with
  | leaf l => exact BRL_flat hf h
  | agg ls => obtain ⟨us, e, h⟩ := h; exact ⟨us, e, BRLs_flat hf h⟩
  | box e ls =>
    obtain ⟨g, us, b2, rfl, hg, rfl, h⟩ := h
    exact ⟨g, us, b2, rfl, hg, rfl, BRLs_flat hf h⟩
theorem BRVs_flat : ∀ {ss : List VS} {x : VsI ss} {vs : List Value} {bs : List Nat}, ss.all VS.flat = true → BRVs F w ss x vs bs → BRVs F' w ss x vs bs
  | [], _, _, _, _, h => h
  | s :: ss, x, vs, bs, hf, h => by
    simp only [List.all_cons, Bool.and_eq_true] at hf
    obtain ⟨v, vs', b1, b2, rfl, rfl, h1, h2⟩ := h
    exact ⟨v, vs', b1, b2, rfl, rfl, BRV_flat hf.1 h1, BRVs_flat hf.2 h2⟩
end

/-! ### 2. Rows: read-only, and parts of them -/
theorem add_add (a : Addr) (m n : Nat) : (a.add m).add n = a.add (m + n) := by
  unfold Addr.add
  by_cases hm : m = 0 <;> by_cases hn : n = 0 <;> simp [hm, hn]
  omega
theorem ownBlock_eq {A : Option Addr} {l c b : Nat} (h : (Value.slice A l c).ownBlock = some b) : ∃ a, A = some a ∧ a.block = b := by
  cases A with
  | none => simp [Value.ownBlock] at h
  | some a => exact ⟨a, rfl, by simpa [Value.ownBlock] using h⟩
theorem chunk_get {cells : List Value} {i sz j : Nat} {u : Value} (h : ((cells.drop (i * sz)).take sz)[j]? = some u) : cells[i * sz + j]? = some u := by
  rw [List.getElem?_take] at h
  split at h
  · rwa [List.getElem?_drop] at h
  · cases h
theorem ro_of_row {F F1 : Nat → Prop} {w : World} {e : TypeId} {t : Ty} {v : Value} {xs : List t.I} {cells : List Value} (h : w.ownsRow 0 e t.sz v xs.length cells) (hc : RowC F w t xs cells)
    (hF : ∀ b, F b → F1 b) (hb : ∀ b, v.ownBlock = some b → F1 b) : TC F1 w (.sl t) xs [v] := by
  have h' := h
  rcases h'.2 with ⟨rfl, h0⟩ | ⟨g, cap, cur, rfl, _, hg, hn, hm, _⟩
  · refine ⟨none, 0, ?_, by omega, by simp [maxLen], fun i x hi => ?_⟩
    · rw [h0]
    · have : xs = [] := List.eq_nil_of_length_eq_zero h0
      rw [this] at hi; simp at hi
  · refine ⟨_, _, rfl, hn, hm, fun i x hi => ⟨_, _, rfl, hb _ rfl, TC_mono hF (fun _ _ => rfl) (hc i x hi), fun j u hj => h.cells (g := g) rfl _ u (chunk_get hj)⟩⟩
theorem sub_get {α : Type} {xs : List α} {lo hi i : Nat} {x : α} (h : ((xs.take hi).drop lo)[i]? = some x) : xs[lo + i]? = some x ∧ lo + i < hi := by
  rw [List.getElem?_drop, List.getElem?_take] at h
  split at h
  · exact ⟨h, by assumption⟩
  · cases h
theorem sub_len {α : Type} {xs : List α} {lo hi : Nat} (h : hi ≤ xs.length) : ((xs.take hi).drop lo).length = hi - lo := by
  rw [List.length_drop, List.length_take]; omega
theorem TC_sub {F : Nat → Prop} {w : World} {t : Ty} {xs : List t.I} {h v : Value} {lo hi : Nat} (hc : TC F w (.sl t) xs [h]) (hs : SubV h t.sz lo hi v) :
    TC F w (.sl t) ((xs.take hi).drop lo) [v] := by
  obtain ⟨A, c, e, hl, hm, hx⟩ := hc
  simp only [List.cons.injEq, and_true] at e
  subst e
  obtain ⟨A', l', c', A2, e, h1, h2, rfl, hA1, hA2⟩ := hs
  simp only [Value.slice.injEq] at e
  obtain ⟨rfl, rfl, rfl⟩ := e
  refine ⟨_, _, by rw [sub_len h2], by rw [sub_len h2]; omega, by omega, fun i x hi' => ?_⟩
  obtain ⟨hi1, hi2⟩ := sub_get hi'
  obtain ⟨ad, ds, rfl, hb, ht, hcell⟩ := hx _ x hi1
  have hne : c ≠ lo := by omega
  rw [hA1 hne]
  refine ⟨ad.add (lo * t.sz), ds, rfl, by rw [add_block]; exact hb, ht, fun j u hj => ?_⟩
  rw [add_add, show lo * t.sz + (i * t.sz + j) = (lo + i) * t.sz + j by rw [Nat.add_mul]; omega]
  exact hcell j u hj
theorem add_zero (a : Addr) : a.add 0 = a := by simp [Addr.add]
theorem own_take {w : World} {e : TypeId} {sz n hi : Nat} {h v : Value} {cells : List Value} (ho : w.ownsRow 0 e sz h n cells) (hs : SubV h sz 0 hi v) :
    w.ownsRow 0 e sz v hi (cells.take (hi * sz)) ∧ v.ownBlock = h.ownBlock := by
  obtain ⟨A, l, c, A2, rfl, _, hl, rfl, hA1, hA2⟩ := hs
  rw [hA2 rfl, Nat.sub_zero, Nat.sub_zero]
  rcases ho.2 with ⟨e0, hn⟩ | ⟨g, cap, cur, e0, hb, hg, hnc, hcm, hcs, ht⟩
  · simp only [Value.slice.injEq] at e0
    obtain ⟨rfl, rfl, rfl⟩ := e0
    have : hi = 0 := by omega
    subst this
    exact ⟨⟨by simp, .inl ⟨rfl, rfl⟩⟩, rfl⟩
  · simp only [Value.slice.injEq] at e0
    obtain ⟨rfl, rfl, rfl⟩ := e0
    have hle : hi * sz ≤ l * sz := Nat.mul_le_mul_right _ hl
    refine ⟨⟨?_, .inr ⟨g, c, cur, rfl, hb, hg, by omega, hcm, hcs, ?_⟩⟩, rfl⟩
    · rw [List.length_take, ho.1]; omega
    · rw [← ht, List.take_take, Nat.min_eq_left hle]
theorem RowC_take {F : Nat → Prop} {w : World} {t : Ty} {xs : List t.I} {cells : List Value} (h : RowC F w t xs cells) (hi : Nat) : RowC F w t (xs.take hi) (cells.take (hi * t.sz)) := by
  intro i x hx
  rw [List.getElem?_take] at hx
  split at hx
  · rename_i hlt
    have := h i x hx
    have hle : i * t.sz + t.sz ≤ hi * t.sz := by rw [← Nat.succ_mul]; exact Nat.mul_le_mul_right _ hlt
    rwa [List.drop_take, List.take_take, Nat.min_eq_left (by omega)]
  · cases hx

/-! ### 3. Taking -/
structure Tk (ρ : Rho) (F F1 : Nat → Prop) (σ σ1 : St) (bs : List Nat) : Prop where
  sl : σ1.sl = σ.sl
  ob : ∀ n, σ1.ob n = σ.ob n ∨ (σ1.ob n = .dead ∧ σ.live n)
  up : ∀ b, F b → F1 b
  dn : ∀ b, F1 b → F b ∨ ∃ n, blk ρ n (σ.ob n) = some b ∧ σ1.ob n = .dead
  hb : ∀ b ∈ bs, ¬ F1 b ∧ ∃ n, blk ρ n (σ.ob n) = some b ∧ σ1.ob n = .dead
  nd : bs.Nodup
theorem Tk.refl (ρ : Rho) (F : Nat → Prop) (σ : St) : Tk ρ F F σ σ [] :=
  ⟨rfl, fun _ => .inl rfl, fun _ h => h, fun _ h => .inl h, fun _ h => by simp at h, by simp⟩
theorem Tk.live {ρ : Rho} {F F1 : Nat → Prop} {σ σ1 : St} {bs : List Nat} (h : Tk ρ F F1 σ σ1 bs) : ∀ n, σ.live n → σ1.live n := by
  intro n hn e
  rcases h.ob n with h1 | ⟨h1, _⟩
  · rw [h1] at e; exact hn e
  · rw [h1] at e; cases e
theorem Tk.trans {cx : Ctx} {nt : Fr} {ρ : Rho} {F F1 F2 : Nat → Prop} {σ σ1 σ2 : St} {a : Act} {w : World} {b1 b2 : List Nat} (hs : Sim cx nt ρ F σ a w) (h : Tk ρ F F1 σ σ1 b1) (h' : Tk ρ F1 F2 σ1 σ2 b2) :
    Tk ρ F F2 σ σ2 (b1 ++ b2) := by
  have same : ∀ n b, blk ρ n (σ1.ob n) = some b → blk ρ n (σ.ob n) = some b ∧ σ1.ob n ≠ .dead := by
    intro n b hb
    rcases h.ob n with h1 | ⟨h1, _⟩
    · exact ⟨by rw [← h1]; exact hb, fun e => by rw [e] at hb; simp [blk] at hb⟩
    · rw [h1] at hb; simp [blk] at hb
  have dead2 : ∀ n, σ1.ob n = .dead → σ2.ob n = .dead := by
    intro n hn
    rcases h'.ob n with h1 | ⟨h1, _⟩
    · rw [h1]; exact hn
    · exact h1
  refine ⟨h'.sl.trans h.sl, fun n => ?_, fun b hb => h'.up b (h.up b hb), fun b hb => ?_, fun b hb => ?_, ?_⟩
  · rcases h'.ob n with h1 | ⟨h1, hl⟩
    · rcases h.ob n with h2 | ⟨h2, hl⟩
      · exact .inl (h1.trans h2)
      · exact .inr ⟨h1.trans h2, hl⟩
    · refine .inr ⟨h1, ?_⟩
      rcases h.ob n with h2 | ⟨h2, hl'⟩
      · intro e; exact hl (h2.trans e)
      · exact hl'
  · rcases h'.dn b hb with h1 | ⟨n, hn, hd⟩
    · rcases h.dn b h1 with h2 | ⟨n, hn, hd⟩
      · exact .inl h2
      · exact .inr ⟨n, hn, dead2 n hd⟩
    · exact .inr ⟨n, (same n b hn).1, hd⟩
  · rcases List.mem_append.1 hb with hb | hb
    · obtain ⟨h1, n, hn, hd⟩ := h.hb b hb
      refine ⟨fun hf => ?_, n, hn, dead2 n hd⟩
      rcases h'.dn b hf with h2 | ⟨m, hm, _⟩
      · exact h1 h2
      · obtain ⟨hm1, hm2⟩ := same m b hm
        exact hs.disj n m b (fun e => hm2 (e ▸ hd)) hn hm1
    · obtain ⟨h1, n, hn, hd⟩ := h'.hb b hb
      exact ⟨h1, n, (same n b hn).1, hd⟩
  · rw [List.nodup_append]
    refine ⟨h.nd, h'.nd, fun b hb b' hb' e => ?_⟩
    subst e
    obtain ⟨_, n, hn, hd⟩ := h.hb b hb
    obtain ⟨_, m, hm, _⟩ := h'.hb b hb'
    obtain ⟨hm1, hm2⟩ := same m b hm
    exact hs.disj n m b (fun e => hm2 (e ▸ hd)) hn hm1
theorem setO_ob (σ : St) (n : Nat) (o : Obj) (m : Nat) : (σ.setO n o).ob m = if m = n then o else σ.ob m := by
  by_cases h : m = n
  · subst h; simp [St.setO]
  · have : Nat.beq m n = false := by cases hb : Nat.beq m n with
      | false => rfl
      | true => exact absurd (Nat.eq_of_beq_eq_true hb) h
    simp [St.setO, this, h]
theorem setS_sl (σ : St) (n : Nat) (o : SV) (m : Nat) : (σ.setS n o).sl m = if m = n then o else σ.sl m := by
  by_cases h : m = n
  · subst h; simp [St.setS]
  · have : Nat.beq m n = false := by cases hb : Nat.beq m n with
      | false => rfl
      | true => exact absurd (Nat.eq_of_beq_eq_true hb) h
    simp [St.setS, this, h]
/-- An object goes; its block may become read-only. -/
theorem Sim.kill {cx : Ctx} {nt : Fr} {ρ : Rho} {F : Nat → Prop} {σ : St} {a : Act} {w : World} (h : Sim cx nt ρ F σ a w) {n : Nat} (hl : σ.live n) (fz : Bool) :
    Sim cx nt ρ (fun b => F b ∨ (fz = true ∧ blk ρ n (σ.ob n) = some b)) (σ.setO n .dead) a w := by
  have hlv : ∀ m, σ.live m → (σ.setO n .dead).live m := by
    intro m hm e
    rw [setO_ob] at e
    split at e
    · cases e
    · exact hm e
  refine h.step (fun m => m = n) (fun _ => False) (fun _ => False) (Pr.refl _ _) (fun _ h => h.elim) (fun _ h => h.elim) (fun m hm => by rw [setO_ob, if_neg hm]) hlv (fun _ _ => ⟨rfl, rfl, rfl⟩) (fun _ h => .inl h)
    (fun b hb => ?_) (fun m hm => ?_) (fun m b hm hb => ?_) (fun m k b hm hk hne => absurd (hm.trans hk.symm) hne) h.defers h.size h.pin (fun s => .inl ⟨rfl, rfl⟩)
  · rcases hb with hb | ⟨_, hb⟩
    · exact .inl hb
    · exact .inr ⟨blk_lt (h.objs n) hb, .inl ⟨n, rfl, hb⟩⟩
  · subst hm; rw [setO_ob, if_pos rfl]; trivial
  · subst hm; rw [setO_ob, if_pos rfl] at hb; simp [blk] at hb
theorem Tk.kill {cx : Ctx} {nt : Fr} {ρ : Rho} {F : Nat → Prop} {σ : St} {a : Act} {w : World} (h : Sim cx nt ρ F σ a w) {n : Nat} (hl : σ.live n) (fz : Bool) :
    Tk ρ F (fun b => F b ∨ (fz = true ∧ blk ρ n (σ.ob n) = some b)) σ (σ.setO n .dead) (if fz then [] else (blk ρ n (σ.ob n)).toList) := by
  refine ⟨rfl, fun m => ?_, fun _ h => .inl h, fun b hb => ?_, fun b hb => ?_, ?_⟩
  · rw [setO_ob]
    split
    · rename_i e; exact .inr ⟨rfl, e ▸ hl⟩
    · exact .inl rfl
  · rcases hb with hb | ⟨_, hb⟩
    · exact .inl hb
    · exact .inr ⟨n, hb, by rw [setO_ob, if_pos rfl]⟩
  · cases fz with
    | true => simp at hb
    | false =>
      simp only [Bool.false_eq_true, if_false, Option.mem_toList] at hb
      refine ⟨fun hf => ?_, n, hb, by rw [setO_ob, if_pos rfl]⟩
      rcases hf with hf | ⟨hf, _⟩
      · exact (h.own n b hb).1 hf
      · cases hf
  · cases fz with
    | true => simp
    | false => cases blk ρ n (σ.ob n) <;> simp
section
variable {α : Type} {cx : Ctx} {nt : Fr} {ρ : Rho} {F : Nat → Prop} {σ : St} {a : Act} {w : World} {r : α × St}
theorem castL_exec {t' t : Ty} {xs : List t'.I} {K : List t.I → M α} (h : (castL t xs K).exec σ = some r) : ∃ e : t' = t, (K (e ▸ xs)).exec σ = some r := by
  unfold castL at h
  split at h
  · rename_i e; exact ⟨e, h⟩
  · simp [M.exec] at h
/-- Data told as those of another type. -/
theorem convT_TC {F : Nat → Prop} {w : World} : ∀ {t' t : Ty} {f : t'.I → t.I}, convT t' t = some f → ∀ {x : t'.I} {cs : List Value}, TC F w t' x cs → TC F w t (f x) cs
  | .slo a, .sl b, f, h, x, cs, hx => by
    simp only [convT] at h
    split at h
    · rename_i e
      subst e
      simp only [Option.some.injEq] at h
      subst h
      obtain ⟨_, A, c, h1, h2, h3, h4⟩ := hx
      exact ⟨A, c, h1, h2, h3, h4⟩
    · cases h
  | .pair a b, .pair c d, f, h, x, cs, hx => by
    simp only [convT] at h
    split at h
    · rename_i f1 f2 e1 e2
      simp only [Option.some.injEq] at h
      subst h
      obtain ⟨c1, c2, e, h1, h2⟩ := hx
      exact ⟨c1, c2, e, convT_TC e1 h1, convT_TC e2 h2⟩
    · cases h
  | .int a, .int b, f, h, x, cs, hx => by
    simp only [convT] at h
    split at h
    · rename_i e
      subst e
      simp only [Option.some.injEq] at h
      subst h
      exact hx
    · cases h
  | .bool, .bool, f, h, x, cs, hx => by
    simp only [convT, Option.some.injEq] at h
    subst h
    exact hx
  | .str, .str, f, h, x, cs, hx => by
    simp only [convT, Option.some.injEq] at h
    subst h
    exact hx
  | .slo a, .int _, f, h, x, cs, hx => by simp [convT] at h
  | .slo a, .bool, f, h, x, cs, hx => by simp [convT] at h
  | .slo a, .str, f, h, x, cs, hx => by simp [convT] at h
  | .slo a, .slo _, f, h, x, cs, hx => by simp [convT] at h
  | .slo a, .pair _ _, f, h, x, cs, hx => by simp [convT] at h
  | .sl a, _, f, h, x, cs, hx => by simp [convT] at h
  | .pair a b, .int _, f, h, x, cs, hx => by simp [convT] at h
  | .pair a b, .bool, f, h, x, cs, hx => by simp [convT] at h
  | .pair a b, .str, f, h, x, cs, hx => by simp [convT] at h
  | .pair a b, .slo _, f, h, x, cs, hx => by simp [convT] at h
  | .pair a b, .sl _, f, h, x, cs, hx => by simp [convT] at h
  | .int a, .pair _ _, f, h, x, cs, hx => by simp [convT] at h
  | .int a, .bool, f, h, x, cs, hx => by simp [convT] at h
  | .int a, .str, f, h, x, cs, hx => by simp [convT] at h
  | .int a, .slo _, f, h, x, cs, hx => by simp [convT] at h
  | .int a, .sl _, f, h, x, cs, hx => by simp [convT] at h
  | .bool, .int _, f, h, x, cs, hx => by simp [convT] at h
  | .bool, .pair _ _, f, h, x, cs, hx => by simp [convT] at h
  | .bool, .str, f, h, x, cs, hx => by simp [convT] at h
  | .bool, .slo _, f, h, x, cs, hx => by simp [convT] at h
  | .bool, .sl _, f, h, x, cs, hx => by simp [convT] at h
  | .str, .int _, f, h, x, cs, hx => by simp [convT] at h
  | .str, .bool, f, h, x, cs, hx => by simp [convT] at h
  | .str, .pair _ _, f, h, x, cs, hx => by simp [convT] at h
  | .str, .slo _, f, h, x, cs, hx => by simp [convT] at h
  | .str, .sl _, f, h, x, cs, hx => by simp [convT] at h
theorem convT_sz {t' : Ty} : ∀ {t : Ty} {f : t'.I → t.I}, convT t' t = some f → t.sz = t'.sz := by
  induction t' with
  | pair a b iha ihb =>
    intro t f h
    cases t with
    | pair c d =>
      simp only [convT] at h
      split at h
      · rename_i f1 f2 e1 e2
        simp only [Ty.sz, iha e1, ihb e2]
      · cases h
    | _ => simp [convT] at h
  | _ => intro t f h; cases t <;> first | rfl | (simp [convT] at h)
structure Cv (t' t : Ty) (xs : List t'.I) (ys : List t.I) : Prop where
  len : ys.length = xs.length
  sz : t.sz = t'.sz
  el : ∀ (i : Nat) (y : t.I), ys[i]? = some y → ∃ x, xs[i]? = some x ∧ ∀ F w cs, TC F w t' x cs → TC F w t y cs
theorem convL_exec {t' t : Ty} {xs : List t'.I} {K : List t.I → M α} (h : (convL t xs K).exec σ = some r) : ∃ ys, Cv t' t xs ys ∧ (K ys).exec σ = some r := by
  unfold convL at h
  split at h
  · rename_i e
    subst e
    exact ⟨xs, ⟨rfl, rfl, fun i y hy => ⟨y, hy, fun _ _ _ h => h⟩⟩, h⟩
  · split at h
    · rename_i f hf
      refine ⟨_, ⟨by simp, convT_sz hf, fun i y hy => ?_⟩, h⟩
      rw [List.getElem?_map] at hy
      cases hx : xs[i]? with
      | none => rw [hx] at hy; simp at hy
      | some x =>
        rw [hx] at hy
        simp only [Option.map_some, Option.some.injEq] at hy
        subst hy
        exact ⟨x, rfl, fun F w cs => convT_TC hf⟩
    · simp [M.exec] at h
theorem Cv.TC {t' t : Ty} {xs : List t'.I} {ys : List t.I} (h : Cv t' t xs ys) {F : Nat → Prop} {w : World} {v : Value} (hx : TC F w (.sl t') xs [v]) : TC F w (.sl t) ys [v] := by
  obtain ⟨A, c, h1, h2, h3, h4⟩ := hx
  refine ⟨A, c, by rw [h.len]; exact h1, by rw [h.len]; exact h2, h3, fun i y hy => ?_⟩
  obtain ⟨x, hx, ht⟩ := h.el i y hy
  obtain ⟨ad, ds, q1, q2, q3, q4⟩ := h4 i x hx
  exact ⟨ad, ds, q1, q2, ht _ _ _ q3, fun j u hj => by rw [h.sz]; exact q4 j u hj⟩
theorem Cv.RowC {t' t : Ty} {xs : List t'.I} {ys : List t.I} (h : Cv t' t xs ys) {F : Nat → Prop} {w : World} {cells : List Value} (hx : RowC F w t' xs cells) : RowC F w t ys cells := by
  intro i y hy
  obtain ⟨x, hx', ht⟩ := h.el i y hy
  rw [h.sz]
  exact ht _ _ _ (hx i x hx')
theorem Cv.sub {t' t : Ty} {xs : List t'.I} {ys : List t.I} (h : Cv t' t xs ys) (lo hi : Nat) : Cv t' t ((xs.take hi).drop lo) ((ys.take hi).drop lo) := by
  refine ⟨by simp [h.len], h.sz, fun i y hy => ?_⟩
  obtain ⟨h1, h2⟩ := sub_get hy
  obtain ⟨x, hx, ht⟩ := h.el _ y h1
  refine ⟨x, ?_, ht⟩
  rw [List.getElem?_drop, List.getElem?_take, if_pos h2]
  exact hx
theorem TC_roo {F : Nat → Prop} {w : World} {t : Ty} {x : Option (List t.I)} {cs : List Value} (h : TC F w (.slo t) x cs) : TC F w (.sl t) (x.getD []) cs := by
  obtain ⟨_, A, c, h1, h2, h3, h4⟩ := h
  exact ⟨A, c, h1, h2, h3, h4⟩
theorem test_exec {b : Bool} {m : M α} (h : (M.test b m).exec σ = some r) : b = true ∧ m.exec σ = some r := by
  cases b with
  | false => simp [M.exec] at h
  | true => exact ⟨rfl, h⟩
theorem takeL_sound {l : LS} {sv : SV} {K : l.I → M α} {v : Value} (h : (takeL false l sv K).exec σ = some r) (hs : Sim cx nt ρ F σ a w) (hv : LR0 ρ F w σ.live sv v) :
    ∃ x σ1 F1 bs, (K x).exec σ1 = some r ∧ Sim cx nt ρ F1 σ1 a w ∧ Tk ρ F F1 σ σ1 bs ∧ BRL F1 w l x v bs := by
  have plain : ∀ (x : l.I), (K x).exec σ = some r → BRL F w l x v [] → ∃ x σ1 F1 bs, (K x).exec σ1 = some r ∧ Sim cx nt ρ F1 σ1 a w ∧ Tk ρ F F1 σ σ1 bs ∧ BRL F1 w l x v bs :=
    fun x h1 h2 => ⟨x, σ, F, [], h1, hs, Tk.refl _ _ _, h2⟩
  unfold takeL at h
  split at h
  · obtain ⟨h1, h2⟩ := test_exec h
    have := of_decide_eq_true h1
    subst this
    exact plain _ h2 ⟨hv, rfl⟩
  · exact plain _ h ⟨hv, rfl⟩
  · exact plain _ h ⟨hv, rfl⟩
  · refine plain _ h ⟨?_, rfl⟩
    have : v = .slice none 0 0 := hv
    subst this
    exact ⟨none, 0, rfl, Nat.le_refl _, by simp [maxLen], fun i x hi => by simp at hi⟩
  · obtain ⟨ys, hc, h1⟩ := convL_exec h
    exact plain _ h1 ⟨hc.TC hv, rfl⟩
  · rename_i t n K
    obtain ⟨hl, rfl, _⟩ := hv
    simp only [M.exec] at h
    split at h
    · rename_i e t' xs ho
      obtain ⟨ys, hcv, h1⟩ := convL_exec h
      simp only [cond_false, M.exec] at h1
      have hob := hs.objs n
      rw [ho] at hob
      obtain ⟨hes, cells, hrow, hc⟩ := hob
      have hbk : blk ρ n (σ.ob n) = (ρ.hd n).ownBlock := by rw [ho]; rfl
      refine ⟨_, _, _, _, h1, hs.kill hl true, Tk.kill hs hl true, ?_, rfl⟩
      exact hcv.TC <| ro_of_row hrow hc (fun _ h => .inl h) (fun b hb => .inr ⟨rfl, by rw [hbk]; exact hb⟩)
    · simp [M.exec] at h
  · rename_i t n lo hi K
    obtain ⟨hl, hsub⟩ := hv
    simp only [M.exec] at h
    split at h
    · rename_i e t' xs ho
      obtain ⟨ys, hcv, h1⟩ := convL_exec h
      simp only [cond_false, M.exec] at h1
      have hob := hs.objs n
      rw [ho] at hob
      obtain ⟨hes, cells, hrow, hc⟩ := hob
      have hbk : blk ρ n (σ.ob n) = (ρ.hd n).ownBlock := by rw [ho]; rfl
      rw [hes] at hsub
      refine ⟨_, _, _, _, h1, hs.kill hl true, Tk.kill hs hl true, ?_, rfl⟩
      exact (hcv.sub lo hi).TC <| TC_sub (ro_of_row hrow hc (fun _ h => .inl h) (fun b hb => .inr ⟨rfl, by rw [hbk]; exact hb⟩)) hsub
    · simp [M.exec] at h
  · obtain ⟨ys, hc, h1⟩ := convL_exec h
    exact plain _ h1 ⟨hc.TC (TC_roo hv), rfl⟩
  · exact plain _ h ⟨hv, rfl⟩
  · obtain ⟨h1, h2⟩ := test_exec h
    have := Nat.eq_of_beq_eq_true h1
    subst this
    exact plain _ h2 ⟨hv, rfl⟩
  · exact plain _ h ⟨hv, rfl⟩
  · refine plain _ h ⟨⟨[], ?_, fun i x hi => by simp at hi⟩, ?_⟩
    · have : v = .slice none 0 0 := hv
      subst this
      exact ⟨by simp, .inl ⟨rfl, rfl⟩⟩
    · have : v = .slice none 0 0 := hv
      subst this
      rfl
  · rename_i e t t' x K
    obtain ⟨h1, h2⟩ := test_exec h
    have hn : x = none := by simpa using h1
    have hv' : v = .slice none 0 0 := by have := hv.1 hn; simpa using this
    subst hv'
    exact plain _ h2 ⟨⟨[], ⟨by simp, .inl ⟨rfl, rfl⟩⟩, fun i x hi => by simp at hi⟩, rfl⟩
  · rename_i e t n K
    obtain ⟨hl, rfl, _⟩ := hv
    simp only [M.exec] at h
    split at h
    · rename_i e1 t' xs ho
      obtain ⟨ht, h⟩ := test_exec h
      have := Nat.eq_of_beq_eq_true ht
      subst this
      obtain ⟨e', h1⟩ := castL_exec h
      subst e'
      simp only [M.exec] at h1
      have hob := hs.objs n
      rw [ho] at hob
      obtain ⟨hes, cells, hrow, hc⟩ := hob
      have hbk : blk ρ n (σ.ob n) = (ρ.hd n).ownBlock := by rw [ho]; rfl
      refine ⟨_, _, _, _, h1, hs.kill hl false, Tk.kill hs hl false, ⟨cells, hrow, RowC_mono (fun _ h => .inl h) (fun _ _ => rfl) hc⟩, ?_⟩
      simp only [Bool.false_eq_true, if_false, hbk]
    · simp [M.exec] at h
  · rename_i e t n hi K
    obtain ⟨hl, hsub⟩ := hv
    simp only [M.exec] at h
    split at h
    · rename_i e1 t' xs ho
      obtain ⟨ht, h⟩ := test_exec h
      have := Nat.eq_of_beq_eq_true ht
      subst this
      obtain ⟨e', h1⟩ := castL_exec h
      subst e'
      simp only [M.exec] at h1
      have hob := hs.objs n
      rw [ho] at hob
      obtain ⟨hes, cells, hrow, hc⟩ := hob
      have hbk : blk ρ n (σ.ob n) = (ρ.hd n).ownBlock := by rw [ho]; rfl
      rw [hes] at hsub
      obtain ⟨ht1, ht2⟩ := own_take hrow hsub
      have hlen : (xs.take hi).length = hi := by
        obtain ⟨A, l, c, A2, e0, _, hle, _⟩ := hsub
        rw [List.length_take]
        rcases hrow.2 with ⟨e1, e2⟩ | ⟨g, cap, cur, e1, _⟩
        · rw [e0] at e1; simp only [Value.slice.injEq] at e1; omega
        · rw [e0] at e1; simp only [Value.slice.injEq] at e1; omega
      refine ⟨_, _, _, _, h1, hs.kill hl false, Tk.kill hs hl false, ⟨cells.take (hi * t'.sz), by rw [hlen]; exact ht1, RowC_mono (fun _ h => .inl h) (fun _ _ => rfl) (RowC_take hc hi)⟩, ?_⟩
      simp only [Bool.false_eq_true, if_false, hbk, ht2]
    · simp [M.exec] at h
  · exact plain _ h rfl
  · simp [M.exec] at h
end
end Go.Gx

/-
  Gx, part C: how an abstract state and the model's memory agree, and the one lemma by which they still agree behind a step.
-/
import Derived.Test.YtpcnmlpikiigaaaXB
set_option linter.unusedVariables false
set_option linter.unusedSimpArgs false
namespace Go.Gx

/-! ### 1. Lists, element by element -/
def All2 {α β : Type} (R : α → β → Prop) : List α → List β → Prop
  | [], [] => True
  | a :: as, b :: bs => R a b ∧ All2 R as bs
  | _, _ => False
section
variable {α β : Type} {R S : α → β → Prop}
theorem All2.length : ∀ {as : List α} {bs : List β}, All2 R as bs → as.length = bs.length
  | [], [], _ => rfl
  | a :: as, b :: bs, h => by simp [All2.length h.2]
  | [], _ :: _, h => h.elim
  | _ :: _, [], h => h.elim
theorem All2.imp (hi : ∀ a b, R a b → S a b) : ∀ {as : List α} {bs : List β}, All2 R as bs → All2 S as bs
  | [], [], _ => trivial
  | a :: as, b :: bs, h => ⟨hi _ _ h.1, All2.imp hi h.2⟩
  | [], _ :: _, h => h.elim
  | _ :: _, [], h => h.elim
theorem All2.get : ∀ {as : List α} {bs : List β}, All2 R as bs → ∀ {i : Nat} {a : α}, as[i]? = some a → ∃ b, bs[i]? = some b ∧ R a b
  | [], [], _, i, a, ha => by simp at ha
  | x :: as, y :: bs, h, 0, a, ha => by simp at ha; subst ha; exact ⟨y, by simp, h.1⟩
  | x :: as, y :: bs, h, i + 1, a, ha => by
    obtain ⟨b, hb, hr⟩ := All2.get h.2 (i := i) (a := a) (by simpa using ha)
    exact ⟨b, by simpa using hb, hr⟩
  | [], _ :: _, h, _, _, _ => h.elim
  | _ :: _, [], h, _, _, _ => h.elim
theorem All2.append : ∀ {as : List α} {bs : List β} {as' : List α} {bs' : List β}, All2 R as bs → All2 R as' bs' → All2 R (as ++ as') (bs ++ bs')
  | [], [], _, _, _, h' => h'
  | _ :: _, _ :: _, _, _, h, h' => ⟨h.1, All2.append h.2 h'⟩
  | [], _ :: _, _, _, h, _ => h.elim
  | _ :: _, [], _, _, h, _ => h.elim
theorem All2.drop : ∀ (n : Nat) {as : List α} {bs : List β}, All2 R as bs → All2 R (as.drop n) (bs.drop n)
  | 0, _, _, h => by simpa using h
  | n + 1, [], [], h => by simpa using h
  | n + 1, _ :: _, _ :: _, h => by simpa using All2.drop n h.2
  | _ + 1, [], _ :: _, h => h.elim
  | _ + 1, _ :: _, [], h => h.elim
theorem All2.take : ∀ (n : Nat) {as : List α} {bs : List β}, All2 R as bs → All2 R (as.take n) (bs.take n)
  | 0, _, _, h => by simp [All2]
  | n + 1, [], [], h => by simpa using h
  | n + 1, _ :: _, _ :: _, h => by simpa using ⟨h.1, All2.take n h.2⟩
  | _ + 1, [], _ :: _, h => h.elim
  | _ + 1, _ :: _, [], h => h.elim
theorem All2.split : ∀ {as as' : List α} {bs : List β}, All2 R (as ++ as') bs → ∃ b1 b2, bs = b1 ++ b2 ∧ All2 R as b1 ∧ All2 R as' b2
  | [], as', bs, h => ⟨[], bs, rfl, trivial, h⟩
  | a :: as, as', [], h => h.elim
  | a :: as, as', b :: bs, h => by
    obtain ⟨b1, b2, rfl, h1, h2⟩ := All2.split (as := as) h.2
    exact ⟨b :: b1, b2, rfl, ⟨h.1, h1⟩, h2⟩
theorem All2.map_left {γ : Type} (f : γ → α) : ∀ {cs : List γ} {bs : List β}, All2 (fun c b => R (f c) b) cs bs → All2 R (cs.map f) bs
  | [], [], _ => trivial
  | _ :: _, _ :: _, h => ⟨h.1, All2.map_left f h.2⟩
  | [], _ :: _, h => h.elim
  | _ :: _, [], h => h.elim
theorem All2.nil_right {as : List α} (h : All2 R as []) : as = [] := by cases as with | nil => rfl | cons => exact h.elim
theorem All2.nil_left {bs : List β} (h : All2 R [] bs) : bs = [] := by cases bs with | nil => rfl | cons => exact h.elim
end

/-! ### 2. Data in memory -/
theorem Ty.sz_pos : ∀ t : Ty, 0 < t.sz
  | .int _ => by simp [Ty.sz]
  | .bool => by simp [Ty.sz]
  | .str => by simp [Ty.sz]
  | .sl _ => by simp [Ty.sz]
  | .slo _ => by simp [Ty.sz]
  | .pair a b => by have := a.sz_pos; simp only [Ty.sz]; omega
/-- 'cs' are the cells of the data 'x'; all that it reads further lies in blocks of 'F'. -/
def TC (F : Nat → Prop) (w : World) : (t : Ty) → t.I → List Value → Prop
  | .int k, x, cs => cs = [.int k x]
  | .bool, x, cs => cs = [.bool x]
  | .str, x, cs => cs = [.string x]
  | .sl t, xs, cs => ∃ A c, cs = [.slice A xs.length c] ∧ xs.length ≤ c ∧ c ≤ maxLen ∧
      ∀ (i : Nat) (x : t.I), xs[i]? = some x → ∃ ad ds, A = some ad ∧ F ad.block ∧ TC F w t x ds ∧ ∀ j u, ds[j]? = some u → w.cell? (ad.add (i * t.sz + j)) = some u
  | .slo t, xo, cs => (xo = none → cs = [.slice none 0 0]) ∧ ∃ A c, cs = [.slice A ((xo.getD []).length) c] ∧ (xo.getD []).length ≤ c ∧ c ≤ maxLen ∧
      ∀ (i : Nat) (x : t.I), (xo.getD [])[i]? = some x → ∃ ad ds, A = some ad ∧ F ad.block ∧ TC F w t x ds ∧ ∀ j u, ds[j]? = some u → w.cell? (ad.add (i * t.sz + j)) = some u
  | .pair a b, x, cs => ∃ c1 c2, cs = c1 ++ c2 ∧ TC F w a x.1 c1 ∧ TC F w b x.2 c2
theorem TC_len {F : Nat → Prop} {w : World} : ∀ {t : Ty} {x : t.I} {cs : List Value}, TC F w t x cs → cs.length = t.sz
  | .int _, _, _, h => by simp only [TC] at h; subst h; rfl
  | .bool, _, _, h => by simp only [TC] at h; subst h; rfl
  | .str, _, _, h => by simp only [TC] at h; subst h; rfl
  | .sl _, _, _, h => by obtain ⟨A, c, rfl, _⟩ := h; rfl
  | .slo _, _, _, h => by obtain ⟨_, A, c, rfl, _⟩ := h; rfl
  | .pair a b, _, _, h => by
    obtain ⟨c1, c2, rfl, h1, h2⟩ := h
    simp only [List.length_append, Ty.sz, TC_len h1, TC_len h2]
theorem cell_same {w w' : World} {a : Addr} (h : w'.heap[a.block]? = w.heap[a.block]?) : w'.cell? a = w.cell? a := by simp [World.cell?, h]
theorem add_block (a : Addr) (n : Nat) : (a.add n).block = a.block := by unfold Addr.add; split <;> rfl
theorem TC_mono {F F' : Nat → Prop} {w w' : World} (hF : ∀ b, F b → F' b) (hw : ∀ b, F b → w'.heap[b]? = w.heap[b]?) :
    ∀ {t : Ty} {x : t.I} {cs : List Value}, TC F w t x cs → TC F' w' t x cs
  | .int _, _, _, h => h
  | .bool, _, _, h => h
  | .str, _, _, h => h
  | .sl t, _, _, h => by
    obtain ⟨A, c, e, hl, hc, hx⟩ := h
    refine ⟨A, c, e, hl, hc, fun i x hi => ?_⟩
    obtain ⟨ad, ds, ha, hb, ht, hcell⟩ := hx i x hi
    refine ⟨ad, ds, ha, hF _ hb, TC_mono hF hw ht, fun j u hj => ?_⟩
    exact (cell_same (by rw [add_block]; exact hw _ hb)).trans (hcell j u hj)
  | .slo t, _, _, h => by
    obtain ⟨h0, A, c, e, hl, hc, hx⟩ := h
    refine ⟨h0, A, c, e, hl, hc, fun i x hi => ?_⟩
    obtain ⟨ad, ds, ha, hb, ht, hcell⟩ := hx i x hi
    refine ⟨ad, ds, ha, hF _ hb, TC_mono hF hw ht, fun j u hj => ?_⟩
    exact (cell_same (by rw [add_block]; exact hw _ hb)).trans (hcell j u hj)
  | .pair a b, _, _, h => by
    obtain ⟨c1, c2, e, h1, h2⟩ := h
    exact ⟨c1, c2, e, TC_mono hF hw h1, TC_mono hF hw h2⟩
/-- Flat data read nothing further. -/
theorem TC_flat {F F' : Nat → Prop} {w w' : World} : ∀ {t : Ty} {x : t.I} {cs : List Value}, t.flat = true → TC F w t x cs → TC F' w' t x cs
  | .int _, _, _, _, h => h
  | .bool, _, _, _, h => h
  | .str, _, _, _, h => h
  | .sl t, _, _, hf, _ => by simp [Ty.flat] at hf
  | .slo t, _, _, hf, _ => by simp [Ty.flat] at hf
  | .pair a b, _, _, hf, h => by
    simp only [Ty.flat, Bool.and_eq_true] at hf
    obtain ⟨c1, c2, e, h1, h2⟩ := h
    exact ⟨c1, c2, e, TC_flat hf.1 h1, TC_flat hf.2 h2⟩

/-! ### 3. Values -/
structure Rho where
  hd : Nat → Value
  bx : Nat → Nat
  es : Nat → Nat
/-- The value of a part of a row. -/
def SubV (h : Value) (sz lo hi : Nat) (v : Value) : Prop :=
  ∃ A l c A', h = .slice A l c ∧ lo ≤ hi ∧ hi ≤ l ∧ v = .slice A' (hi - lo) (c - lo) ∧ (c ≠ lo → A' = A.map (·.add (lo * sz))) ∧ (lo = 0 → A' = A)
def LR0 (ρ : Rho) (F : Nat → Prop) (w : World) (lv : Nat → Prop) : SV → Value → Prop
  | .bot, _ => True
  | .und, v => v = undef
  | .int k z, v => v = .int k z
  | .bool b, v => v = .bool b
  | .str s, v => v = .string s
  | .nil, v => v = .slice none 0 0
  | .ro t xs, v => TC F w (.sl t) xs [v]
  | .roo t xo, v => TC F w (.slo t) xo [v]
  | .own n, v => lv n ∧ v = ρ.hd n ∧ ∃ A l c, v = .slice A l c
  | .view n lo hi, v => lv n ∧ SubV (ρ.hd n) (ρ.es n) lo hi v
  | .box n off, v => lv n ∧ v = .pointer (some ⟨ρ.bx n, off, none⟩)
  | .el n i off, v => lv n ∧ ∃ b l c, ρ.hd n = .slice (some ⟨b, 0, none⟩) l c ∧ v = .pointer (some ⟨b, i * ρ.es n + off, none⟩)
  | .fn f [], v => v = .func (.func f) #[] #[]
  | _, _ => False
def LR1 (ρ : Rho) (F : Nat → Prop) (w : World) (lv : Nat → Prop) : SV → Value → Prop
  | .agg vs, v => ∃ us, v = .agg us ∧ All2 (LR0 ρ F w lv) vs us.toList
  | .rp vs, v => ∃ a, v = .pointer (some a) ∧ ∀ j sv, vs[j]? = some sv → F a.block ∧ ∃ u, w.cell? (a.add j) = some u ∧ LR0 ρ F w lv sv u
  | sv, v => LR0 ρ F w lv sv v
def VR (ρ : Rho) (F : Nat → Prop) (w : World) (lv : Nat → Prop) : SV → Value → Prop
  | .tup vs, v => ∃ us, v = .tuple us ∧ All2 (LR1 ρ F w lv) vs us.toList
  | sv, v => LR1 ρ F w lv sv v
section
variable {ρ ρ' : Rho} {F F' : Nat → Prop} {w w' : World} {lv lv' : Nat → Prop}
theorem LR0_mono (hlv : ∀ n, lv n → lv' n) (hρ : ∀ n, lv n → ρ'.hd n = ρ.hd n ∧ ρ'.bx n = ρ.bx n ∧ ρ'.es n = ρ.es n) (hF : ∀ b, F b → F' b) (hw : ∀ b, F b → w'.heap[b]? = w.heap[b]?) :
    ∀ {sv : SV} {v : Value}, LR0 ρ F w lv sv v → LR0 ρ' F' w' lv' sv v
  | .bot, _, _ => trivial
  | .und, _, h => h
  | .int _ _, _, h => h
  | .bool _, _, h => h
  | .str _, _, h => h
  | .nil, _, h => h
  | .ro _ _, _, h => TC_mono hF hw h
  | .roo _ _, _, h => TC_mono hF hw h
  | .own n, _, h => ⟨hlv _ h.1, by rw [(hρ n h.1).1]; exact h.2.1, h.2.2⟩
  | .view n _ _, _, h => ⟨hlv _ h.1, by rw [(hρ n h.1).1, (hρ n h.1).2.2]; exact h.2⟩
  | .box n _, _, h => ⟨hlv _ h.1, by rw [(hρ n h.1).2.1]; exact h.2⟩
  | .el n _ _, _, h => ⟨hlv _ h.1, by rw [(hρ n h.1).1, (hρ n h.1).2.2]; exact h.2⟩
  | .fn _ [], _, h => h
  | .fn _ (_ :: _), _, h => h.elim
  | .agg _, _, h => h.elim
  | .tup _, _, h => h.elim
  | .rp _, _, h => h.elim
theorem LR1_eq {sv : SV} {v : Value} (h1 : ∀ vs, sv ≠ .agg vs) (h2 : ∀ vs, sv ≠ .rp vs) : LR1 ρ F w lv sv v = LR0 ρ F w lv sv v := by
  cases sv <;> first | rfl | exact absurd rfl (h1 _) | exact absurd rfl (h2 _)
theorem VR_eq {sv : SV} {v : Value} (h1 : ∀ vs, sv ≠ .tup vs) : VR ρ F w lv sv v = LR1 ρ F w lv sv v := by
  cases sv <;> first | rfl | exact absurd rfl (h1 _)
theorem LR1_mono (hlv : ∀ n, lv n → lv' n) (hρ : ∀ n, lv n → ρ'.hd n = ρ.hd n ∧ ρ'.bx n = ρ.bx n ∧ ρ'.es n = ρ.es n) (hF : ∀ b, F b → F' b) (hw : ∀ b, F b → w'.heap[b]? = w.heap[b]?)
    {sv : SV} {v : Value} (h : LR1 ρ F w lv sv v) : LR1 ρ' F' w' lv' sv v := by
  cases sv with
  | agg vs => obtain ⟨us, e, h⟩ := h; exact ⟨us, e, h.imp fun _ _ h => LR0_mono hlv hρ hF hw h⟩
  | rp vs =>
    obtain ⟨a, e, h⟩ := h
    refine ⟨a, e, fun j sv hj => ?_⟩
    obtain ⟨hb, u, hu, hr⟩ := h j sv hj
    exact ⟨hF _ hb, u, (cell_same (by rw [add_block]; exact hw _ hb)).trans hu, LR0_mono hlv hρ hF hw hr⟩
  | _ => rw [LR1_eq (by simp) (by simp)] at h ⊢; exact LR0_mono hlv hρ hF hw h
theorem VR_mono (hlv : ∀ n, lv n → lv' n) (hρ : ∀ n, lv n → ρ'.hd n = ρ.hd n ∧ ρ'.bx n = ρ.bx n ∧ ρ'.es n = ρ.es n) (hF : ∀ b, F b → F' b) (hw : ∀ b, F b → w'.heap[b]? = w.heap[b]?)
    {sv : SV} {v : Value} (h : VR ρ F w lv sv v) : VR ρ' F' w' lv' sv v := by
  cases sv with
  | tup vs => obtain ⟨us, e, h⟩ := h; exact ⟨us, e, h.imp fun _ _ h => LR1_mono hlv hρ hF hw h⟩
  | _ => rw [VR_eq (by simp)] at h ⊢; exact LR1_mono hlv hρ hF hw h
theorem VR_of_cell {sv : SV} {v : Value} (hc : sv.cell = true) (h : LR0 ρ F w lv sv v) : VR ρ F w lv sv v := by
  cases sv <;> first | exact h | (simp [SV.cell] at hc)
theorem VR_of_LR0 {sv : SV} {v : Value} (h : LR0 ρ F w lv sv v) : VR ρ F w lv sv v := by
  cases sv <;> first | exact h | exact h.elim
theorem LR1_of_LR0 {sv : SV} {v : Value} (h : LR0 ρ F w lv sv v) : LR1 ρ F w lv sv v := by
  cases sv <;> first | exact h | exact h.elim
theorem VR_of_LR1 {sv : SV} {v : Value} (h : LR1 ρ F w lv sv v) : VR ρ F w lv sv v := by
  cases sv <;> first | exact h | exact h.elim
theorem LR0_of_VR {sv : SV} {v : Value} (hc : sv.cell = true) (h : VR ρ F w lv sv v) : LR0 ρ F w lv sv v := by
  cases sv <;> first | exact h | (simp [SV.cell] at hc)
theorem TC_leaves : ∀ {t : Ty} {x : t.I} {cs : List Value}, TC F w t x cs → All2 (LR0 ρ F w lv) (leaves t x) cs
  | .int _, _, _, h => by simp only [TC] at h; subst h; exact ⟨rfl, trivial⟩
  | .bool, _, _, h => by simp only [TC] at h; subst h; exact ⟨rfl, trivial⟩
  | .str, _, _, h => by simp only [TC] at h; subst h; exact ⟨rfl, trivial⟩
  | .sl t, xs, _, h => by
    have h' := h
    obtain ⟨A, c, rfl, _⟩ := h'
    exact ⟨h, trivial⟩
  | .slo t, xo, _, h => by
    have h' := h
    obtain ⟨_, A, c, rfl, _⟩ := h'
    exact ⟨h, trivial⟩
  | .pair a b, _, _, h => by
    obtain ⟨c1, c2, rfl, h1, h2⟩ := h
    exact (TC_leaves h1).append (TC_leaves h2)
theorem leaves_len : ∀ (t : Ty) (x : t.I), (leaves t x).length = t.sz
  | .int _, _ => rfl
  | .bool, _ => rfl
  | .str, _ => rfl
  | .sl _, _ => rfl
  | .slo _, _ => rfl
  | .pair a b, x => by simp only [leaves, List.length_append, Ty.sz, leaves_len a, leaves_len b]
theorem leaves_cell : ∀ (t : Ty) (x : t.I), (leaves t x).all SV.cell = true
  | .int _, _ => rfl
  | .bool, _ => rfl
  | .str, _ => rfl
  | .sl _, _ => rfl
  | .slo _, _ => rfl
  | .pair a b, x => by simp [leaves, List.all_append, leaves_cell a, leaves_cell b]
theorem LR0_leafOf {v : Value} : LR0 ρ F w lv (leafOf v) v := by
  unfold leafOf
  split <;> first | exact rfl | exact trivial
theorem VR_svOf {v : Value} : VR ρ F w lv (svOf v) v := by
  unfold svOf
  split
  · rename_i cs
    refine ⟨cs, rfl, All2.map_left leafOf ?_⟩
    generalize cs.toList = l
    induction l with
    | nil => trivial
    | cons a l ih => exact ⟨LR0_leafOf, ih⟩
  · exact VR_of_LR0 LR0_leafOf
theorem One_of_LR0 {sv : SV} {v : Value} (hc : sv.cell = true) (h : LR0 ρ F w lv sv v) : v.oneCell' = true ∧ v.cells = #[v] := by
  cases sv with
  | own n => obtain ⟨_, _, A, l, c, e⟩ := h; rw [e]; exact ⟨rfl, rfl⟩
  | int => rw [h]; exact ⟨rfl, rfl⟩
  | bool => rw [h]; exact ⟨rfl, rfl⟩
  | str => rw [h]; exact ⟨rfl, rfl⟩
  | nil => rw [h]; exact ⟨rfl, rfl⟩
  | ro t xs => obtain ⟨A, c, e, _⟩ := h; simp only [List.cons.injEq, and_true] at e; rw [e]; exact ⟨rfl, rfl⟩
  | roo t xs => obtain ⟨_, A, c, e, _⟩ := h; simp only [List.cons.injEq, and_true] at e; rw [e]; exact ⟨rfl, rfl⟩
  | view n lo hi => obtain ⟨A, l, c, A', _, _, _, e, _⟩ := h.2; rw [e]; exact ⟨rfl, rfl⟩
  | box n off => rw [h.2]; exact ⟨rfl, rfl⟩
  | fn f cs => cases cs with
    | nil => rw [h]; exact ⟨rfl, rfl⟩
    | cons => exact h.elim
  | _ => simp [SV.cell] at hc
/-- The cells of a value that may lie in cells. -/
theorem cells_of {sv : SV} {v : Value} (hc : sv.cellsOf.all SV.cell = true) (h : VR ρ F w lv sv v) : All2 (LR0 ρ F w lv) sv.cellsOf v.cells.toList ∧ ∀ u ∈ v.cells.toList, u.oneCell' = true := by
  cases sv with
  | agg vs =>
    obtain ⟨us, rfl, hu⟩ := h
    refine ⟨hu, ?_⟩
    simp only [Value.cells]
    simp only [SV.cellsOf] at hc
    generalize us.toList = l at hu
    induction vs generalizing l with
    | nil => rw [hu.nil_left]; simp
    | cons x xs ih =>
      cases l with
      | nil => exact hu.elim
      | cons y ys =>
        simp only [List.all_cons, Bool.and_eq_true] at hc
        intro u hm
        rcases List.mem_cons.1 hm with rfl | hm
        · exact (One_of_LR0 hc.1 hu.1).1
        · exact ih hc.2 ys hu.2 u hm
  | tup vs => simp [SV.cellsOf, SV.cell] at hc
  | rp vs => simp [SV.cellsOf, SV.cell] at hc
  | _ =>
    simp only [SV.cellsOf, List.all_cons, List.all_nil, Bool.and_true] at hc
    have h0 := LR0_of_VR hc h
    obtain ⟨h1, h2⟩ := One_of_LR0 hc h0
    rw [h2]
    exact ⟨⟨h0, trivial⟩, by simpa using h1⟩
end

/-! ### 4. Objects -/
def RowC (F : Nat → Prop) (w : World) (t : Ty) (xs : List t.I) (cells : List Value) : Prop :=
  ∀ (i : Nat) (x : t.I), xs[i]? = some x → TC F w t x ((cells.drop (i * t.sz)).take t.sz)
def OR (ρ : Rho) (F : Nat → Prop) (w : World) (lv : Nat → Prop) (n : Nat) : Obj → Prop
  | .absent => True
  | .dead => True
  | .row e t xs => ρ.es n = t.sz ∧ ∃ cells, w.ownsRow 0 e t.sz (ρ.hd n) xs.length cells ∧ RowC F w t xs cells
  | .box e vs => ∃ us, w.heap[ρ.bx n]? = some (.cells us e (0, 0)) ∧ All2 (LR0 ρ F w lv) vs us.toList
theorem ownsRow_slice {w : World} {e : TypeId} {sz n : Nat} {v : Value} {xs : List Value} (h : w.ownsRow 0 e sz v n xs) : ∃ A c, v = .slice A n c := by
  rcases h.2 with ⟨rfl, rfl⟩ | ⟨g, cap, cur, rfl, _⟩
  · exact ⟨none, 0, rfl⟩
  · exact ⟨_, cap, rfl⟩
def blk (ρ : Rho) (n : Nat) : Obj → Option Nat
  | .row _ _ _ => (ρ.hd n).ownBlock
  | .box _ _ => some (ρ.bx n)
  | _ => none
def St.live (σ : St) (n : Nat) : Prop := σ.ob n ≠ .absent
theorem ownsRow_same {w w' : World} {e : TypeId} {sz n : Nat} {v : Value} {xs : List Value} (h : w.ownsRow 0 e sz v n xs) (hb : ∀ k, v.ownBlock = some k → w'.heap[k]? = w.heap[k]?) :
    w'.ownsRow 0 e sz v n xs := by
  refine ⟨h.1, ?_⟩
  rcases h.2 with hn | ⟨g, cap, cur, rfl, h0, hg, rest⟩
  · exact .inl hn
  · exact .inr ⟨g, cap, cur, rfl, h0, by rw [hb g (by simp [Value.ownBlock])]; exact hg, rest⟩
theorem RowC_mono {F F' : Nat → Prop} {w w' : World} (hF : ∀ b, F b → F' b) (hw : ∀ b, F b → w'.heap[b]? = w.heap[b]?) {t : Ty} {xs : List t.I} {cells : List Value} (h : RowC F w t xs cells) :
    RowC F' w' t xs cells := fun i x hi => TC_mono hF hw (h i x hi)
theorem OR_mono {ρ ρ' : Rho} {F F' : Nat → Prop} {w w' : World} {lv lv' : Nat → Prop} (hlv : ∀ n, lv n → lv' n) (hρ : ∀ n, lv n → ρ'.hd n = ρ.hd n ∧ ρ'.bx n = ρ.bx n ∧ ρ'.es n = ρ.es n)
    (hF : ∀ b, F b → F' b) (hw : ∀ b, F b → w'.heap[b]? = w.heap[b]?) {n : Nat} (hn : lv n) {o : Obj} (hb : ∀ k, blk ρ n o = some k → w'.heap[k]? = w.heap[k]?) (h : OR ρ F w lv n o) :
    OR ρ' F' w' lv' n o := by
  obtain ⟨h1, h2, h3⟩ := hρ n hn
  cases o with
  | absent => trivial
  | dead => trivial
  | row e t xs =>
    obtain ⟨he, cells, ho, hc⟩ := h
    exact ⟨by rw [h3]; exact he, cells, by rw [h1]; exact ownsRow_same ho hb, RowC_mono hF hw hc⟩
  | box e vs =>
    obtain ⟨us, hu, ha⟩ := h
    exact ⟨us, by rw [h2, hb _ rfl]; exact hu, ha.imp fun _ _ h => LR0_mono hlv hρ hF hw h⟩
theorem blk_lt {ρ : Rho} {F : Nat → Prop} {w : World} {lv : Nat → Prop} {n b : Nat} {o : Obj} (h : OR ρ F w lv n o) (hb : blk ρ n o = some b) : b < w.heap.size := by
  cases o with
  | absent => simp [blk] at hb
  | dead => simp [blk] at hb
  | row e t xs => obtain ⟨_, cells, ho, _⟩ := h; exact (ho.lt b hb).2
  | box e vs =>
    obtain ⟨us, hu, _⟩ := h
    simp only [blk, Option.some.injEq] at hb
    subst hb
    exact (Array.getElem?_eq_some_iff.1 hu).1

/-! ### 5. The state agrees -/
/-- What of an old world may have changed: the blocks of 'C', and new ones. -/
structure Pr (C : Nat → Prop) (w w' : World) : Prop where
  os : w'.os = w.os
  tape : w'.tape = w.tape
  output : w'.output = w.output
  size : w.heap.size ≤ w'.heap.size
  block : ∀ b, b < w.heap.size → ¬ C b → w'.heap[b]? = w.heap[b]?
theorem Pr.refl (C : Nat → Prop) (w : World) : Pr C w w := ⟨rfl, rfl, rfl, Nat.le_refl _, fun _ _ _ => rfl⟩
theorem Pr.then {C C' : Nat → Prop} {w w1 w2 : World} (h : Pr C w w1) (h' : Pr C' w1 w2) (hc : ∀ b, b < w.heap.size → C' b → C b) : Pr C w w2 :=
  ⟨h'.os.trans h.os, h'.tape.trans h.tape, h'.output.trans h.output, Nat.le_trans h.size h'.size, fun b hb hn =>
    (h'.block b (Nat.lt_of_lt_of_le hb h.size) fun hb' => hn (hc b hb hb')).trans (h.block b hb hn)⟩
theorem Pr.mono {C C' : Nat → Prop} {w w' : World} (h : Pr C w w') (hc : ∀ b, C b → C' b) : Pr C' w w' :=
  ⟨h.os, h.tape, h.output, h.size, fun b hb hn => h.block b hb fun hc' => hn (hc b hc')⟩
theorem Pr.of_grown {w w' : World} {row : Option Nat} (h : w.grownBy w' row) : Pr (fun b => row = some b) w w' :=
  ⟨h.os, h.tape, h.output, h.size, fun b hb hn => h.block b hb fun e => hn e.symm⟩
theorem Pr.drew (C : Nat → Prop) (w : World) : Pr C w w.drew := ⟨rfl, rfl, rfl, Nat.le_refl _, fun _ _ _ => rfl⟩

structure Ctx where
  w0 : World
  F0 : Nat → Prop
  C : Nat → Prop
  pv : Nat → Value
structure Sim (cx : Ctx) (nt : Fr) (ρ : Rho) (F : Nat → Prop) (σ : St) (a : Act) (w : World) : Prop where
  defers : a.defers = []
  size : a.tmps.size = nt.nt
  pin : ∀ s ∈ nt.pin, a.tmps.getD s undef = cx.pv s
  slots : ∀ s, VR ρ F w σ.live (σ.sl s) (a.tmps.getD s undef)
  objs : ∀ n, OR ρ F w σ.live n (σ.ob n)
  disj : ∀ n m b, n ≠ m → blk ρ n (σ.ob n) = some b → blk ρ m (σ.ob m) ≠ some b
  own : ∀ n b, blk ρ n (σ.ob n) = some b → ¬ F b ∧ (cx.C b ∨ cx.w0.heap.size ≤ b)
  Fb : ∀ b, F b → b < w.heap.size ∧ (cx.F0 b ∨ cx.C b ∨ cx.w0.heap.size ≤ b)
  F0 : ∀ b, cx.F0 b → F b
  pr : Pr cx.C cx.w0 w
theorem live_of_blk {ρ : Rho} {σ : St} {n b : Nat} (h : blk ρ n (σ.ob n) = some b) : σ.live n := by
  intro e
  rw [e] at h
  simp [blk] at h
/-- Blocks that are nobody's, and may be taken in. -/
def Free (cx : Ctx) (ρ : Rho) (F : Nat → Prop) (σ : St) (b : Nat) : Prop := (cx.C b ∨ cx.w0.heap.size ≤ b) ∧ ¬ F b ∧ ∀ m, blk ρ m (σ.ob m) ≠ some b
theorem Sim.step {cx : Ctx} {nt : Fr} {ρ ρ' : Rho} {F F' : Nat → Prop} {σ σ' : St} {a a' : Act} {w w' : World} (h : Sim cx nt ρ F σ a w) (N R Ad : Nat → Prop) (hw : Pr R w w')
    (hAd : ∀ b, Ad b → Free cx ρ F σ b)
    (hR : ∀ b, R b → b < w.heap.size → (∃ n, N n ∧ blk ρ n (σ.ob n) = some b) ∨ Ad b)
    (hob : ∀ n, ¬ N n → σ'.ob n = σ.ob n)
    (hlv : ∀ n, σ.live n → σ'.live n)
    (hρ : ∀ n, σ.live n → ρ'.hd n = ρ.hd n ∧ ρ'.bx n = ρ.bx n ∧ ρ'.es n = ρ.es n)
    (hF : ∀ b, F b → F' b)
    (hF' : ∀ b, F' b → F b ∨ (b < w'.heap.size ∧ ((∃ n, N n ∧ blk ρ n (σ.ob n) = some b) ∨ w.heap.size ≤ b ∨ Ad b)))
    (hN : ∀ n, N n → OR ρ' F' w' σ'.live n (σ'.ob n))
    (hNb : ∀ n b, N n → blk ρ' n (σ'.ob n) = some b → ¬ F' b ∧ ((∃ m, N m ∧ blk ρ m (σ.ob m) = some b) ∨ w.heap.size ≤ b ∨ Ad b))
    (hNd : ∀ n m b, N n → N m → n ≠ m → blk ρ' n (σ'.ob n) = some b → blk ρ' m (σ'.ob m) ≠ some b)
    (hd : a'.defers = []) (hs : a'.tmps.size = nt.nt) (hpin : ∀ s ∈ nt.pin, a'.tmps.getD s undef = cx.pv s)
    (hsl : ∀ s, (σ'.sl s = σ.sl s ∧ a'.tmps.getD s undef = a.tmps.getD s undef) ∨ VR ρ' F' w' σ'.live (σ'.sl s) (a'.tmps.getD s undef)) :
    Sim cx nt ρ' F' σ' a' w' := by
  have hFw : ∀ b, F b → w'.heap[b]? = w.heap[b]? := fun b hb => hw.block b (h.Fb b hb).1 fun hr => by
    rcases hR b hr (h.Fb b hb).1 with ⟨n, _, hn⟩ | ha
    · exact (h.own n b hn).1 hb
    · exact (hAd b ha).2.1 hb
  have hlt : ∀ n b, blk ρ n (σ.ob n) = some b → b < w.heap.size := fun n b hb => blk_lt (h.objs n) hb
  have hnb : ∀ n, ¬ N n → ∀ b, blk ρ n (σ.ob n) = some b → w'.heap[b]? = w.heap[b]? := fun n hn b hb => hw.block b (hlt n b hb) fun hr => by
    rcases hR b hr (hlt n b hb) with ⟨m, hm, hmb⟩ | ha
    · exact h.disj n m b (fun e => hn (e ▸ hm)) hb hmb
    · exact (hAd b ha).2.2 n hb
  have hsame : ∀ n, ¬ N n → blk ρ' n (σ'.ob n) = blk ρ n (σ.ob n) := fun n hn => by
    rw [hob n hn]
    cases ho : σ.ob n with
    | absent => rfl
    | dead => rfl
    | row e t xs => simp only [blk]; rw [(hρ n (by intro e; rw [ho] at e; cases e)).1]
    | box e vs => simp only [blk]; rw [(hρ n (by intro e; rw [ho] at e; cases e)).2.1]
  refine ⟨hd, hs, hpin, fun s => ?_, fun n => ?_, fun n m b hnm hb hb' => ?_, fun n b hb => ?_, fun b hb => ?_, fun b hb => hF b (h.F0 b hb), ?_⟩
  · rcases hsl s with ⟨e1, e2⟩ | h1
    · rw [e1, e2]; exact VR_mono hlv hρ hF hFw (h.slots s)
    · exact h1
  · by_cases hn : N n
    · exact hN n hn
    · have ho := h.objs n
      rw [hob n hn]
      by_cases hl : σ.live n
      · exact OR_mono hlv hρ hF hFw hl (hnb n hn) ho
      · have : σ.ob n = .absent := Classical.not_not.1 hl
        rw [this]; trivial
  · by_cases hn : N n
    · by_cases hm : N m
      · exact hNd n m b hn hm hnm hb hb'
      · rw [hsame m hm] at hb'
        rcases (hNb n b hn hb).2 with ⟨m', hm', hmb⟩ | hge | ha
        · exact h.disj m' m b (fun e => hm (e ▸ hm')) hmb hb'
        · have := hlt m b hb'; omega
        · exact (hAd b ha).2.2 m hb'
    · rw [hsame n hn] at hb
      by_cases hm : N m
      · rcases (hNb m b hm hb').2 with ⟨m', hm', hmb⟩ | hge | ha
        · exact h.disj m' n b (fun e => hn (e ▸ hm')) hmb hb
        · have := hlt n b hb; omega
        · exact (hAd b ha).2.2 n hb
      · rw [hsame m hm] at hb'
        exact h.disj n m b hnm hb hb'
  · by_cases hn : N n
    · obtain ⟨h1, h2⟩ := hNb n b hn hb
      refine ⟨h1, ?_⟩
      rcases h2 with ⟨m, _, hm⟩ | hge | ha
      · exact (h.own m b hm).2
      · exact .inr (Nat.le_trans h.pr.size hge)
      · exact (hAd b ha).1
    · rw [hsame n hn] at hb
      refine ⟨fun hf => ?_, (h.own n b hb).2⟩
      rcases hF' b hf with h1 | ⟨_, ⟨m, hm, hmb⟩ | hge | ha⟩
      · exact (h.own n b hb).1 h1
      · exact h.disj m n b (fun e => hn (e ▸ hm)) hmb hb
      · have := hlt n b hb; omega
      · exact (hAd b ha).2.2 n hb
  · rcases hF' b hb with h1 | ⟨h0, ⟨m, hm, hmb⟩ | hge | ha⟩
    · exact ⟨Nat.lt_of_lt_of_le (h.Fb b h1).1 hw.size, (h.Fb b h1).2⟩
    · refine ⟨h0, ?_⟩
      rcases (h.own m b hmb).2 with hc | hc
      · exact .inr (.inl hc)
      · exact .inr (.inr hc)
    · exact ⟨h0, .inr (.inr (Nat.le_trans h.pr.size hge))⟩
    · refine ⟨h0, ?_⟩
      rcases (hAd b ha).1 with hc | hc
      · exact .inr (.inl hc)
      · exact .inr (.inr hc)
  · refine h.pr.then hw fun b hb hr => ?_
    rcases hR b hr (Nat.lt_of_lt_of_le hb h.pr.size) with ⟨n, _, hn⟩ | ha
    · rcases (h.own n b hn).2 with hc | hc
      · exact hc
      · omega
    · rcases (hAd b ha).1 with hc | hc
      · exact hc
      · omega
end Go.Gx

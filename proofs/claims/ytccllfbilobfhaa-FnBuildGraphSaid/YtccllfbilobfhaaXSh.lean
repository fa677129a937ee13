/-
  The functions, as Gx tells them (printed by gen.py).
-/
import Derived.Test.YtccllfbilobfhaaXSh1
set_option linter.unusedVariables false
namespace Go.Gx
def B_i_Machine_make (k : Nat) (c_slices_Clone_int_int : List Int → Option ((List Int × Unit) × (Unit))) (c_i_Machine_push : (List (Int × Int × List Int)) → List Int → List Int → Bool → Int → Option ((Bool × Unit) × (((List (Int × Int × List Int)) × List Int × List Int × Bool × Unit) × Unit))) (m_Nodes : List (Int × Int × List Int)) (m_Stack : List Int) (m_Memo : List Int) (m_Done : Bool) (kind : Int) (value : Int) (kids : List Int) : Option ((Bool × Unit) × (((List (Int × Int × List Int)) × List Int × List Int × Bool × Unit) × Unit)) :=
  (c_slices_Clone_int_int kids).bind fun r17 =>
  chk (room m_Nodes.length ([(kind, (value, r17.1.1))]).length) <|
  bif decide ((len (m_Nodes ++ [(kind, (value, r17.1.1))])) ≤ 300) then
    (c_i_Machine_push (m_Nodes ++ [(kind, (value, r17.1.1))]) m_Stack m_Memo m_Done (w64 ((len (m_Nodes ++ [(kind, (value, r17.1.1))])) - 1))).bind fun r37 =>
    some ((r37.1.1, ()), ((r37.2.1.1, r37.2.1.2.1, r37.2.1.2.2.1, r37.2.1.2.2.2.1, ()), ()))
  else
    some ((false, ()), (((m_Nodes ++ [(kind, (value, r17.1.1))]), m_Stack, m_Memo, m_Done, ()), ()))
def F_i_Machine_make : Nat → (List (Int × Int × List Int)) → List Int → List Int → Bool → Int → Int → List Int → Option ((Bool × Unit) × (((List (Int × Int × List Int)) × List Int × List Int × Bool × Unit) × Unit))
  | 0, _, _, _, _, _, _, _ => none
  | k + 1, m_Nodes, m_Stack, m_Memo, m_Done, kind, value, kids => B_i_Machine_make k (F_slices_Clone_int_int k) (F_i_Machine_push k) m_Nodes m_Stack m_Memo m_Done kind value kids
theorem F_i_Machine_make_succ (k : Nat) (m_Nodes : List (Int × Int × List Int)) (m_Stack : List Int) (m_Memo : List Int) (m_Done : Bool) (kind : Int) (value : Int) (kids : List Int) : F_i_Machine_make (k + 1) m_Nodes m_Stack m_Memo m_Done kind value kids = B_i_Machine_make k (F_slices_Clone_int_int k) (F_i_Machine_push k) m_Nodes m_Stack m_Memo m_Done kind value kids := rfl
theorem tot_i_Machine_make {m_Nodes : List (Int × Int × List Int)} {m_Stack : List Int} {m_Memo : List Int} {m_Done : Bool} {kind : Int} {value : Int} {kids : List Int} {Q : (((Bool × Unit) × (((List (Int × Int × List Int)) × List Int × List Int × Bool × Unit) × Unit))) → Prop} (h : Tot (fun σ => B_i_Machine_make (σ 0) (F_slices_Clone_int_int (σ 0)) (F_i_Machine_push (σ 0)) m_Nodes m_Stack m_Memo m_Done kind value kids) Q) : Tot (fun σ => F_i_Machine_make (σ 0) m_Nodes m_Stack m_Memo m_Done kind value kids) Q :=
  Tot.call (F := fun k => F_i_Machine_make k m_Nodes m_Stack m_Memo m_Done kind value kids) (B := fun k => B_i_Machine_make k (F_slices_Clone_int_int k) (F_i_Machine_push k) m_Nodes m_Stack m_Memo m_Done kind value kids) (fun k => F_i_Machine_make_succ k m_Nodes m_Stack m_Memo m_Done kind value kids) h
def B_i_Machine_take (k : Nat) (c_slices_Clone_int_int : List Int → Option ((List Int × Unit) × (Unit))) (m_Nodes : List (Int × Int × List Int)) (m_Stack : List Int) (m_Memo : List Int) (m_Done : Bool) (n1 : Int) : Option ((List Int × Unit) × (((List (Int × Int × List Int)) × List Int × List Int × Bool × Unit) × Unit)) :=
  chk (cutb (w64 ((len m_Stack) - n1)) (len m_Stack) m_Stack.length) <|
  (c_slices_Clone_int_int ((m_Stack.take ((len m_Stack).toNat)).drop ((w64 ((len m_Stack) - n1)).toNat))).bind fun r20 =>
  chk (cutb 0 (w64 ((len m_Stack) - n1)) m_Stack.length) <|
  some ((r20.1.1, ()), ((m_Nodes, (m_Stack.take ((w64 ((len m_Stack) - n1)).toNat)), m_Memo, m_Done, ()), ()))
def F_i_Machine_take : Nat → (List (Int × Int × List Int)) → List Int → List Int → Bool → Int → Option ((List Int × Unit) × (((List (Int × Int × List Int)) × List Int × List Int × Bool × Unit) × Unit))
  | 0, _, _, _, _, _ => none
  | k + 1, m_Nodes, m_Stack, m_Memo, m_Done, n1 => B_i_Machine_take k (F_slices_Clone_int_int k) m_Nodes m_Stack m_Memo m_Done n1
theorem F_i_Machine_take_succ (k : Nat) (m_Nodes : List (Int × Int × List Int)) (m_Stack : List Int) (m_Memo : List Int) (m_Done : Bool) (n1 : Int) : F_i_Machine_take (k + 1) m_Nodes m_Stack m_Memo m_Done n1 = B_i_Machine_take k (F_slices_Clone_int_int k) m_Nodes m_Stack m_Memo m_Done n1 := rfl
theorem tot_i_Machine_take {m_Nodes : List (Int × Int × List Int)} {m_Stack : List Int} {m_Memo : List Int} {m_Done : Bool} {n1 : Int} {Q : (((List Int × Unit) × (((List (Int × Int × List Int)) × List Int × List Int × Bool × Unit) × Unit))) → Prop} (h : Tot (fun σ => B_i_Machine_take (σ 0) (F_slices_Clone_int_int (σ 0)) m_Nodes m_Stack m_Memo m_Done n1) Q) : Tot (fun σ => F_i_Machine_take (σ 0) m_Nodes m_Stack m_Memo m_Done n1) Q :=
  Tot.call (F := fun k => F_i_Machine_take k m_Nodes m_Stack m_Memo m_Done n1) (B := fun k => B_i_Machine_take k (F_slices_Clone_int_int k) m_Nodes m_Stack m_Memo m_Done n1) (fun k => F_i_Machine_take_succ k m_Nodes m_Stack m_Memo m_Done n1) h
def B_i_Machine_above (k : Nat) (c_i_Machine_nodes : (List (Int × Int × List Int)) → List Int → List Int → Bool → Option ((Int × Unit) × (((List (Int × Int × List Int)) × List Int × List Int × Bool × Unit) × Unit))) (c_i_Machine_take : (List (Int × Int × List Int)) → List Int → List Int → Bool → Int → Option ((List Int × Unit) × (((List (Int × Int × List Int)) × List Int × List Int × Bool × Unit) × Unit))) (m_Nodes : List (Int × Int × List Int)) (m_Stack : List Int) (m_Memo : List Int) (m_Done : Bool) : Option ((List Int × Bool × Unit) × (((List (Int × Int × List Int)) × List Int × List Int × Bool × Unit) × Unit)) :=
  (c_i_Machine_nodes m_Nodes m_Stack m_Memo m_Done).bind fun r6 =>
  bif (r6.1.1 == (len r6.2.1.2.1)) then
    some (([], false, ()), ((r6.2.1.1, r6.2.1.2.1, r6.2.1.2.2.1, r6.2.1.2.2.2.1, ()), ()))
  else
    (c_i_Machine_take r6.2.1.1 r6.2.1.2.1 r6.2.1.2.2.1 r6.2.1.2.2.2.1 (w64 (r6.1.1 + 1))).bind fun r17 =>
    chk (cutb 1 (len r17.1.1) r17.1.1.length) <|
    some ((((r17.1.1.take ((len r17.1.1).toNat)).drop ((1 : Int).toNat)), true, ()), ((r17.2.1.1, r17.2.1.2.1, r17.2.1.2.2.1, r17.2.1.2.2.2.1, ()), ()))
def F_i_Machine_above : Nat → (List (Int × Int × List Int)) → List Int → List Int → Bool → Option ((List Int × Bool × Unit) × (((List (Int × Int × List Int)) × List Int × List Int × Bool × Unit) × Unit))
  | 0, _, _, _, _ => none
  | k + 1, m_Nodes, m_Stack, m_Memo, m_Done => B_i_Machine_above k (F_i_Machine_nodes k) (F_i_Machine_take k) m_Nodes m_Stack m_Memo m_Done
theorem F_i_Machine_above_succ (k : Nat) (m_Nodes : List (Int × Int × List Int)) (m_Stack : List Int) (m_Memo : List Int) (m_Done : Bool) : F_i_Machine_above (k + 1) m_Nodes m_Stack m_Memo m_Done = B_i_Machine_above k (F_i_Machine_nodes k) (F_i_Machine_take k) m_Nodes m_Stack m_Memo m_Done := rfl
theorem tot_i_Machine_above {m_Nodes : List (Int × Int × List Int)} {m_Stack : List Int} {m_Memo : List Int} {m_Done : Bool} {Q : (((List Int × Bool × Unit) × (((List (Int × Int × List Int)) × List Int × List Int × Bool × Unit) × Unit))) → Prop} (h : Tot (fun σ => B_i_Machine_above (σ 0) (F_i_Machine_nodes (σ 0)) (F_i_Machine_take (σ 0)) m_Nodes m_Stack m_Memo m_Done) Q) : Tot (fun σ => F_i_Machine_above (σ 0) m_Nodes m_Stack m_Memo m_Done) Q :=
  Tot.call (F := fun k => F_i_Machine_above k m_Nodes m_Stack m_Memo m_Done) (B := fun k => B_i_Machine_above k (F_i_Machine_nodes k) (F_i_Machine_take k) m_Nodes m_Stack m_Memo m_Done) (fun k => F_i_Machine_above_succ k m_Nodes m_Stack m_Memo m_Done) h
def B_i_Machine_top (k : Nat) (c_i_Machine_nodes : (List (Int × Int × List Int)) → List Int → List Int → Bool → Option ((Int × Unit) × (((List (Int × Int × List Int)) × List Int × List Int × Bool × Unit) × Unit))) (m_Nodes : List (Int × Int × List Int)) (m_Stack : List Int) (m_Memo : List Int) (m_Done : Bool) (kind : Int) : Option ((Option Nat × Bool × Unit) × (((List (Int × Int × List Int)) × List Int × List Int × Bool × Unit) × Unit)) :=
  (c_i_Machine_nodes m_Nodes m_Stack m_Memo m_Done).bind fun r8 =>
  bif (r8.1.1 == 0) then
    some ((none, false, ()), ((r8.2.1.1, r8.2.1.2.1, r8.2.1.2.2.1, r8.2.1.2.2.2.1, ()), ()))
  else
    chk (inb (w64 ((len r8.2.1.2.1) - 1)) r8.2.1.2.1.length) <|
    chk (decide ((w64 ((len r8.2.1.2.1) - 1)).toNat < r8.2.1.2.1.length)) <|
    chk (inb (r8.2.1.2.1.getD ((w64 ((len r8.2.1.2.1) - 1)).toNat) (0 : Int)) r8.2.1.1.length) <|
    chk (decide ((r8.2.1.2.1.getD ((w64 ((len r8.2.1.2.1) - 1)).toNat) (0 : Int)).toNat < r8.2.1.1.length)) <|
    let v31 : Int := (r8.2.1.1.getD ((r8.2.1.2.1.getD ((w64 ((len r8.2.1.2.1) - 1)).toNat) (0 : Int)).toNat) ((0 : Int), ((0 : Int), ([] : List Int)))).1
    some (((some ((r8.2.1.2.1.getD ((w64 ((len r8.2.1.2.1) - 1)).toNat) (0 : Int)).toNat)), (v31 == kind), ()), ((r8.2.1.1, r8.2.1.2.1, r8.2.1.2.2.1, r8.2.1.2.2.2.1, ()), ()))
def F_i_Machine_top : Nat → (List (Int × Int × List Int)) → List Int → List Int → Bool → Int → Option ((Option Nat × Bool × Unit) × (((List (Int × Int × List Int)) × List Int × List Int × Bool × Unit) × Unit))
  | 0, _, _, _, _, _ => none
  | k + 1, m_Nodes, m_Stack, m_Memo, m_Done, kind => B_i_Machine_top k (F_i_Machine_nodes k) m_Nodes m_Stack m_Memo m_Done kind
theorem F_i_Machine_top_succ (k : Nat) (m_Nodes : List (Int × Int × List Int)) (m_Stack : List Int) (m_Memo : List Int) (m_Done : Bool) (kind : Int) : F_i_Machine_top (k + 1) m_Nodes m_Stack m_Memo m_Done kind = B_i_Machine_top k (F_i_Machine_nodes k) m_Nodes m_Stack m_Memo m_Done kind := rfl
theorem tot_i_Machine_top {m_Nodes : List (Int × Int × List Int)} {m_Stack : List Int} {m_Memo : List Int} {m_Done : Bool} {kind : Int} {Q : (((Option Nat × Bool × Unit) × (((List (Int × Int × List Int)) × List Int × List Int × Bool × Unit) × Unit))) → Prop} (h : Tot (fun σ => B_i_Machine_top (σ 0) (F_i_Machine_nodes (σ 0)) m_Nodes m_Stack m_Memo m_Done kind) Q) : Tot (fun σ => F_i_Machine_top (σ 0) m_Nodes m_Stack m_Memo m_Done kind) Q :=
  Tot.call (F := fun k => F_i_Machine_top k m_Nodes m_Stack m_Memo m_Done kind) (B := fun k => B_i_Machine_top k (F_i_Machine_nodes k) m_Nodes m_Stack m_Memo m_Done kind) (fun k => F_i_Machine_top_succ k m_Nodes m_Stack m_Memo m_Done kind) h
def B_i_findKey_J0 (k : Nat) (again1 : ((List (Int × Int × List Int)) × List Int × (Int × Int × Unit × Unit) × Int × Unit) → Option ((Int × Unit) × (Unit))) (nodes : List (Int × Int × List Int)) (kids : List Int) (key_Kind : Int) (key_Value : Int) (i : Int) (t33 : Bool) : Option ((Int × Unit) × (Unit)) :=
  bif t33 then
    some ((i, ()), ())
  else
    again1 (nodes, kids, (key_Kind, key_Value, (), ()), w64 (i + 2), ())
def B_i_findKey_L1b (k : Nat) (again1 : ((List (Int × Int × List Int)) × List Int × (Int × Int × Unit × Unit) × Int × Unit) → Option ((Int × Unit) × (Unit))) (nodes : List (Int × Int × List Int)) (kids : List Int) (key_Kind : Int) (key_Value : Int) (i : Int) : Option ((Int × Unit) × (Unit)) :=
  bif decide (i < (len kids)) then
    chk (inb i kids.length) <|
    chk (inb (rdx (0 : Int) kids i) nodes.length) <|
    let v26 : Bool := (((rdx ((0 : Int), ((0 : Int), ([] : List Int))) nodes (rdx (0 : Int) kids i)).1) == key_Kind)
    bif v26 then
      let v32 : Bool := ((((rdx ((0 : Int), ((0 : Int), ([] : List Int))) nodes (rdx (0 : Int) kids i)).2).1) == key_Value)
      jn (fun t => B_i_findKey_J0 k again1 t.1 t.2.1 t.2.2.1.1 t.2.2.1.2.1 t.2.2.2.1 t.2.2.2.2.1) (nodes, kids, (key_Kind, key_Value, (), ()), i, v32, ())
    else
      jn (fun t => B_i_findKey_J0 k again1 t.1 t.2.1 t.2.2.1.1 t.2.2.1.2.1 t.2.2.2.1 t.2.2.2.2.1) (nodes, kids, (key_Kind, key_Value, (), ()), i, false, ())
  else
    some (((-1), ()), ())
def B_i_findKey_L1 (k : Nat) (n : Nat) (t : (List (Int × Int × List Int)) × List Int × (Int × Int × Unit × Unit) × Int × Unit) : Option ((Int × Unit) × (Unit)) :=
  lfix n (fun again t => B_i_findKey_L1b k again t.1 t.2.1 t.2.2.1.1 t.2.2.1.2.1 t.2.2.2.1) t
def B_i_findKey (k : Nat) (nodes : List (Int × Int × List Int)) (kids : List Int) (key_0 : Int) (key_1 : Int) : Option ((Int × Unit) × (Unit)) :=
  B_i_findKey_L1 k k (nodes, kids, (key_0, key_1, (), ()), 0, ())
def F_i_findKey : Nat → (List (Int × Int × List Int)) → List Int → Int → Int → Option ((Int × Unit) × (Unit))
  | 0, _, _, _, _ => none
  | k + 1, nodes, kids, key_0, key_1 => B_i_findKey k nodes kids key_0 key_1
theorem F_i_findKey_succ (k : Nat) (nodes : List (Int × Int × List Int)) (kids : List Int) (key_0 : Int) (key_1 : Int) : F_i_findKey (k + 1) nodes kids key_0 key_1 = B_i_findKey k nodes kids key_0 key_1 := rfl
theorem tot_i_findKey {nodes : List (Int × Int × List Int)} {kids : List Int} {key_0 : Int} {key_1 : Int} {Q : (((Int × Unit) × (Unit))) → Prop} (h : Tot (fun σ => B_i_findKey (σ 0) nodes kids key_0 key_1) Q) : Tot (fun σ => F_i_findKey (σ 0) nodes kids key_0 key_1) Q :=
  Tot.call (F := fun k => F_i_findKey k nodes kids key_0 key_1) (B := fun k => B_i_findKey k nodes kids key_0 key_1) (fun k => F_i_findKey_succ k nodes kids key_0 key_1) h
theorem loop_i_findKey_L1 {Q : (List (Int × Int × List Int)) → List Int → Int → Int → Int → ((Int × Unit) × (Unit)) → Prop} (I : (List (Int × Int × List Int)) → List Int → Int → Int → Int → Prop) (μ : (List (Int × Int × List Int)) → List Int → Int → Int → Int → Nat)
    (step : ∀ (nodes : List (Int × Int × List Int)) (kids : List Int) (key_Kind : Int) (key_Value : Int) (i : Int), I nodes kids key_Kind key_Value i → ∀ again : (Nat → Nat) → ((List (Int × Int × List Int)) × List Int × (Int × Int × Unit × Unit) × Int × Unit) → Option ((Int × Unit) × (Unit)), Dep 2 again → (∀ (y0 : List (Int × Int × List Int)) (y1 : List Int) (y2 : Int) (y3 : Int) (y4 : Int), I y0 y1 y2 y3 y4 → μ y0 y1 y2 y3 y4 < μ nodes kids key_Kind key_Value i → Tot (fun σ => again σ (y0, y1, (y2, y3, (), ()), y4, ())) (Q y0 y1 y2 y3 y4)) →
      Tot (fun σ => B_i_findKey_L1b (σ 0) (again σ) nodes kids key_Kind key_Value i) (Q nodes kids key_Kind key_Value i)) :
    ∀ (nodes : List (Int × Int × List Int)) (kids : List Int) (key_Kind : Int) (key_Value : Int) (i : Int), I nodes kids key_Kind key_Value i → Tot (fun σ => B_i_findKey_L1 (σ 0) (σ 0) (nodes, kids, (key_Kind, key_Value, (), ()), i, ())) (Q nodes kids key_Kind key_Value i) := fun nodes kids key_Kind key_Value i hI =>
  Tot.loop (L := fun σ n t => B_i_findKey_L1 (σ 0) n t) (B := fun σ g t => B_i_findKey_L1b (σ 0) g t.1 t.2.1 t.2.2.1.1 t.2.2.1.2.1 t.2.2.2.1) (Q := fun t => Q t.1 t.2.1 t.2.2.1.1 t.2.2.1.2.1 t.2.2.2.1) 1 (by decide)
    (fun s s' h => by have e0 : s 0 = s' 0 := h 0 (by decide); simp only [e0]) (fun s s' h => by have e0 : s 0 = s' 0 := h 0 (by decide); simp only [e0]) (fun _ _ _ => rfl) (fun t => I t.1 t.2.1 t.2.2.1.1 t.2.2.1.2.1 t.2.2.2.1) (fun t => μ t.1 t.2.1 t.2.2.1.1 t.2.2.1.2.1 t.2.2.2.1)
    (fun t ht again hag h => step t.1 t.2.1 t.2.2.1.1 t.2.2.1.2.1 t.2.2.2.1 ht again hag (fun y0 y1 y2 y3 y4 hI hm => h (y0, y1, (y2, y3, (), ()), y4, ()) hI hm)) (nodes, kids, (key_Kind, key_Value, (), ()), i, ()) hI
def B_i_Machine_set_J2 (k : Nat) (c_i_Machine_top : (List (Int × Int × List Int)) → List Int → List Int → Bool → Int → Option ((Option Nat × Bool × Unit) × (((List (Int × Int × List Int)) × List Int × List Int × Bool × Unit) × Unit))) (c_i_findKey : (List (Int × Int × List Int)) → List Int → Int → Int → Option ((Int × Unit) × (Unit))) (again3 : (((List (Int × Int × List Int)) × List Int × List Int × Bool × Unit) × List Int × Int × Option Nat × Unit) → Option ((Bool × Unit) × (((List (Int × Int × List Int)) × List Int × List Int × Bool × Unit) × Unit))) (m_Nodes : List (Int × Int × List Int)) (m_Stack : List Int) (m_Memo : List Int) (m_Done : Bool) (pairs : List Int) (i : Int) (x : Option Nat) : Option ((Bool × Unit) × (((List (Int × Int × List Int)) × List Int × List Int × Bool × Unit) × Unit)) :=
  again3 ((m_Nodes, m_Stack, m_Memo, m_Done, ()), pairs, w64 (i + 2), x, ())
def B_i_Machine_set_L3b (k : Nat) (c_i_Machine_top : (List (Int × Int × List Int)) → List Int → List Int → Bool → Int → Option ((Option Nat × Bool × Unit) × (((List (Int × Int × List Int)) × List Int × List Int × Bool × Unit) × Unit))) (c_i_findKey : (List (Int × Int × List Int)) → List Int → Int → Int → Option ((Int × Unit) × (Unit))) (again3 : (((List (Int × Int × List Int)) × List Int × List Int × Bool × Unit) × List Int × Int × Option Nat × Unit) → Option ((Bool × Unit) × (((List (Int × Int × List Int)) × List Int × List Int × Bool × Unit) × Unit))) (m_Nodes : List (Int × Int × List Int)) (m_Stack : List Int) (m_Memo : List Int) (m_Done : Bool) (pairs : List Int) (i : Int) (x : Option Nat) : Option ((Bool × Unit) × (((List (Int × Int × List Int)) × List Int × List Int × Bool × Unit) × Unit)) :=
  bif decide (i < (len pairs)) then
    chk (inb i pairs.length) <|
    chk (inb (rdx (0 : Int) pairs i) m_Nodes.length) <|
    chk (decide ((rdx (0 : Int) pairs i).toNat < m_Nodes.length)) <|
    (x).bind fun p16 =>
    chk (decide (p16 < m_Nodes.length)) <|
    (c_i_findKey (m_Nodes.set p16 ((m_Nodes.getD p16 ((0 : Int), ((0 : Int), ([] : List Int)))).1, (((m_Nodes.getD p16 ((0 : Int), ((0 : Int), ([] : List Int)))).2).1, ((m_Nodes.getD p16 ((0 : Int), ((0 : Int), ([] : List Int)))).2).2))) (((m_Nodes.getD p16 ((0 : Int), ((0 : Int), ([] : List Int)))).2).2) ((m_Nodes.getD ((rdx (0 : Int) pairs i).toNat) ((0 : Int), ((0 : Int), ([] : List Int)))).1) (((m_Nodes.getD ((rdx (0 : Int) pairs i).toNat) ((0 : Int), ((0 : Int), ([] : List Int)))).2).1)).bind fun r67 =>
    bif decide (r67.1.1 ≥ 0) then
      (x).bind fun p17 =>
      chk (decide (p17 < (m_Nodes.set p16 ((m_Nodes.getD p16 ((0 : Int), ((0 : Int), ([] : List Int)))).1, (((m_Nodes.getD p16 ((0 : Int), ((0 : Int), ([] : List Int)))).2).1, ((m_Nodes.getD p16 ((0 : Int), ((0 : Int), ([] : List Int)))).2).2))).length)) <|
      chk (inb (w64 (i + 1)) pairs.length) <|
      chk (inb (w64 (r67.1.1 + 1)) ((((m_Nodes.set p16 ((m_Nodes.getD p16 ((0 : Int), ((0 : Int), ([] : List Int)))).1, (((m_Nodes.getD p16 ((0 : Int), ((0 : Int), ([] : List Int)))).2).1, ((m_Nodes.getD p16 ((0 : Int), ((0 : Int), ([] : List Int)))).2).2))).getD p17 ((0 : Int), ((0 : Int), ([] : List Int)))).2).2).length) <|
      chk (decide ((w64 (r67.1.1 + 1)).toNat < ((((m_Nodes.set p16 ((m_Nodes.getD p16 ((0 : Int), ((0 : Int), ([] : List Int)))).1, (((m_Nodes.getD p16 ((0 : Int), ((0 : Int), ([] : List Int)))).2).1, ((m_Nodes.getD p16 ((0 : Int), ((0 : Int), ([] : List Int)))).2).2))).getD p17 ((0 : Int), ((0 : Int), ([] : List Int)))).2).2).length)) <|
      let w18 : List (Int × Int × List Int) := ((m_Nodes.set p16 ((m_Nodes.getD p16 ((0 : Int), ((0 : Int), ([] : List Int)))).1, (((m_Nodes.getD p16 ((0 : Int), ((0 : Int), ([] : List Int)))).2).1, ((m_Nodes.getD p16 ((0 : Int), ((0 : Int), ([] : List Int)))).2).2))).set p17 (((m_Nodes.set p16 ((m_Nodes.getD p16 ((0 : Int), ((0 : Int), ([] : List Int)))).1, (((m_Nodes.getD p16 ((0 : Int), ((0 : Int), ([] : List Int)))).2).1, ((m_Nodes.getD p16 ((0 : Int), ((0 : Int), ([] : List Int)))).2).2))).getD p17 ((0 : Int), ((0 : Int), ([] : List Int)))).1, ((((m_Nodes.set p16 ((m_Nodes.getD p16 ((0 : Int), ((0 : Int), ([] : List Int)))).1, (((m_Nodes.getD p16 ((0 : Int), ((0 : Int), ([] : List Int)))).2).1, ((m_Nodes.getD p16 ((0 : Int), ((0 : Int), ([] : List Int)))).2).2))).getD p17 ((0 : Int), ((0 : Int), ([] : List Int)))).2).1, (((((m_Nodes.set p16 ((m_Nodes.getD p16 ((0 : Int), ((0 : Int), ([] : List Int)))).1, (((m_Nodes.getD p16 ((0 : Int), ((0 : Int), ([] : List Int)))).2).1, ((m_Nodes.getD p16 ((0 : Int), ((0 : Int), ([] : List Int)))).2).2))).getD p17 ((0 : Int), ((0 : Int), ([] : List Int)))).2).2).set ((w64 (r67.1.1 + 1)).toNat) (rdx (0 : Int) pairs (w64 (i + 1)))))))
      jn (fun t => B_i_Machine_set_J2 k c_i_Machine_top c_i_findKey again3 t.1.1 t.1.2.1 t.1.2.2.1 t.1.2.2.2.1 t.2.1 t.2.2.1 t.2.2.2.1) ((w18, m_Stack, m_Memo, m_Done, ()), pairs, i, x, ())
    else
      (x).bind fun p19 =>
      chk (decide (p19 < (m_Nodes.set p16 ((m_Nodes.getD p16 ((0 : Int), ((0 : Int), ([] : List Int)))).1, (((m_Nodes.getD p16 ((0 : Int), ((0 : Int), ([] : List Int)))).2).1, ((m_Nodes.getD p16 ((0 : Int), ((0 : Int), ([] : List Int)))).2).2))).length)) <|
      chk (inb i pairs.length) <|
      chk (inb (w64 (i + 1)) pairs.length) <|
      chk (room ((((m_Nodes.set p16 ((m_Nodes.getD p16 ((0 : Int), ((0 : Int), ([] : List Int)))).1, (((m_Nodes.getD p16 ((0 : Int), ((0 : Int), ([] : List Int)))).2).1, ((m_Nodes.getD p16 ((0 : Int), ((0 : Int), ([] : List Int)))).2).2))).getD p19 ((0 : Int), ((0 : Int), ([] : List Int)))).2).2).length ([(rdx (0 : Int) pairs i), (rdx (0 : Int) pairs (w64 (i + 1)))]).length) <|
      (x).bind fun p20 =>
      chk (decide (p20 = p19)) <|
      let w21 : List (Int × Int × List Int) := ((m_Nodes.set p16 ((m_Nodes.getD p16 ((0 : Int), ((0 : Int), ([] : List Int)))).1, (((m_Nodes.getD p16 ((0 : Int), ((0 : Int), ([] : List Int)))).2).1, ((m_Nodes.getD p16 ((0 : Int), ((0 : Int), ([] : List Int)))).2).2))).set p20 (((m_Nodes.set p16 ((m_Nodes.getD p16 ((0 : Int), ((0 : Int), ([] : List Int)))).1, (((m_Nodes.getD p16 ((0 : Int), ((0 : Int), ([] : List Int)))).2).1, ((m_Nodes.getD p16 ((0 : Int), ((0 : Int), ([] : List Int)))).2).2))).getD p20 ((0 : Int), ((0 : Int), ([] : List Int)))).1, ((((m_Nodes.set p16 ((m_Nodes.getD p16 ((0 : Int), ((0 : Int), ([] : List Int)))).1, (((m_Nodes.getD p16 ((0 : Int), ((0 : Int), ([] : List Int)))).2).1, ((m_Nodes.getD p16 ((0 : Int), ((0 : Int), ([] : List Int)))).2).2))).getD p20 ((0 : Int), ((0 : Int), ([] : List Int)))).2).1, ((((m_Nodes.set p16 ((m_Nodes.getD p16 ((0 : Int), ((0 : Int), ([] : List Int)))).1, (((m_Nodes.getD p16 ((0 : Int), ((0 : Int), ([] : List Int)))).2).1, ((m_Nodes.getD p16 ((0 : Int), ((0 : Int), ([] : List Int)))).2).2))).getD p19 ((0 : Int), ((0 : Int), ([] : List Int)))).2).2 ++ [(rdx (0 : Int) pairs i), (rdx (0 : Int) pairs (w64 (i + 1)))]))))
      jn (fun t => B_i_Machine_set_J2 k c_i_Machine_top c_i_findKey again3 t.1.1 t.1.2.1 t.1.2.2.1 t.1.2.2.2.1 t.2.1 t.2.2.1 t.2.2.2.1) ((w21, m_Stack, m_Memo, m_Done, ()), pairs, i, x, ())
  else
    some ((true, ()), ((m_Nodes, m_Stack, m_Memo, m_Done, ()), ()))
def B_i_Machine_set_L3 (k : Nat) (c_i_Machine_top : (List (Int × Int × List Int)) → List Int → List Int → Bool → Int → Option ((Option Nat × Bool × Unit) × (((List (Int × Int × List Int)) × List Int × List Int × Bool × Unit) × Unit))) (c_i_findKey : (List (Int × Int × List Int)) → List Int → Int → Int → Option ((Int × Unit) × (Unit))) (n : Nat) (t : ((List (Int × Int × List Int)) × List Int × List Int × Bool × Unit) × List Int × Int × Option Nat × Unit) : Option ((Bool × Unit) × (((List (Int × Int × List Int)) × List Int × List Int × Bool × Unit) × Unit)) :=
  lfix n (fun again t => B_i_Machine_set_L3b k c_i_Machine_top c_i_findKey again t.1.1 t.1.2.1 t.1.2.2.1 t.1.2.2.2.1 t.2.1 t.2.2.1 t.2.2.2.1) t
def B_i_Machine_set_L1b (k : Nat) (c_i_Machine_top : (List (Int × Int × List Int)) → List Int → List Int → Bool → Int → Option ((Option Nat × Bool × Unit) × (((List (Int × Int × List Int)) × List Int × List Int × Bool × Unit) × Unit))) (c_i_findKey : (List (Int × Int × List Int)) → List Int → Int → Int → Option ((Int × Unit) × (Unit))) (again1 : (((List (Int × Int × List Int)) × List Int × List Int × Bool × Unit) × List Int × Int × Option Nat × Unit) → Option ((Bool × Unit) × (((List (Int × Int × List Int)) × List Int × List Int × Bool × Unit) × Unit))) (m_Nodes : List (Int × Int × List Int)) (m_Stack : List Int) (m_Memo : List Int) (m_Done : Bool) (pairs : List Int) (i : Int) (x : Option Nat) : Option ((Bool × Unit) × (((List (Int × Int × List Int)) × List Int × List Int × Bool × Unit) × Unit)) :=
  bif decide (i < (len pairs)) then
    chk (inb i pairs.length) <|
    chk (inb (rdx (0 : Int) pairs i) m_Nodes.length) <|
    chk (decide ((rdx (0 : Int) pairs i).toNat < m_Nodes.length)) <|
    let v41 : Bool := decide (((m_Nodes.getD ((rdx (0 : Int) pairs i).toNat) ((0 : Int), ((0 : Int), ([] : List Int)))).1) > 1)
    bif v41 then
      some ((false, ()), ((m_Nodes, m_Stack, m_Memo, m_Done, ()), ()))
    else
      again1 ((m_Nodes, m_Stack, m_Memo, m_Done, ()), pairs, w64 (i + 2), x, ())
  else
    B_i_Machine_set_L3 k c_i_Machine_top c_i_findKey k ((m_Nodes, m_Stack, m_Memo, m_Done, ()), pairs, 0, x, ())
def B_i_Machine_set_L1 (k : Nat) (c_i_Machine_top : (List (Int × Int × List Int)) → List Int → List Int → Bool → Int → Option ((Option Nat × Bool × Unit) × (((List (Int × Int × List Int)) × List Int × List Int × Bool × Unit) × Unit))) (c_i_findKey : (List (Int × Int × List Int)) → List Int → Int → Int → Option ((Int × Unit) × (Unit))) (n : Nat) (t : ((List (Int × Int × List Int)) × List Int × List Int × Bool × Unit) × List Int × Int × Option Nat × Unit) : Option ((Bool × Unit) × (((List (Int × Int × List Int)) × List Int × List Int × Bool × Unit) × Unit)) :=
  lfix n (fun again t => B_i_Machine_set_L1b k c_i_Machine_top c_i_findKey again t.1.1 t.1.2.1 t.1.2.2.1 t.1.2.2.2.1 t.2.1 t.2.2.1 t.2.2.2.1) t
def B_i_Machine_set_J0 (k : Nat) (c_i_Machine_top : (List (Int × Int × List Int)) → List Int → List Int → Bool → Int → Option ((Option Nat × Bool × Unit) × (((List (Int × Int × List Int)) × List Int × List Int × Bool × Unit) × Unit))) (c_i_findKey : (List (Int × Int × List Int)) → List Int → Int → Int → Option ((Int × Unit) × (Unit))) (m_Nodes : List (Int × Int × List Int)) (m_Stack : List Int) (m_Memo : List Int) (m_Done : Bool) (pairs : List Int) (t23 : Bool) (x : Option Nat) : Option ((Bool × Unit) × (((List (Int × Int × List Int)) × List Int × List Int × Bool × Unit) × Unit)) :=
  bif t23 then
    some ((false, ()), ((m_Nodes, m_Stack, m_Memo, m_Done, ()), ()))
  else
    B_i_Machine_set_L1 k c_i_Machine_top c_i_findKey k ((m_Nodes, m_Stack, m_Memo, m_Done, ()), pairs, 0, x, ())
def B_i_Machine_set (k : Nat) (c_i_Machine_top : (List (Int × Int × List Int)) → List Int → List Int → Bool → Int → Option ((Option Nat × Bool × Unit) × (((List (Int × Int × List Int)) × List Int × List Int × Bool × Unit) × Unit))) (c_i_findKey : (List (Int × Int × List Int)) → List Int → Int → Int → Option ((Int × Unit) × (Unit))) (m_Nodes : List (Int × Int × List Int)) (m_Stack : List Int) (m_Memo : List Int) (m_Done : Bool) (pairs : List Int) : Option ((Bool × Unit) × (((List (Int × Int × List Int)) × List Int × List Int × Bool × Unit) × Unit)) :=
  (c_i_Machine_top m_Nodes m_Stack m_Memo m_Done 4).bind fun r13 =>
  bif (!r13.1.2.1) then
    jn (fun t => B_i_Machine_set_J0 k c_i_Machine_top c_i_findKey t.1.1 t.1.2.1 t.1.2.2.1 t.1.2.2.2.1 t.2.1 t.2.2.1 t.2.2.2.1) ((r13.2.1.1, r13.2.1.2.1, r13.2.1.2.2.1, r13.2.1.2.2.2.1, ()), pairs, true, r13.1.1, ())
  else
    jn (fun t => B_i_Machine_set_J0 k c_i_Machine_top c_i_findKey t.1.1 t.1.2.1 t.1.2.2.1 t.1.2.2.2.1 t.2.1 t.2.2.1 t.2.2.2.1) ((r13.2.1.1, r13.2.1.2.1, r13.2.1.2.2.1, r13.2.1.2.2.2.1, ()), pairs, (((len pairs).tmod 2) != 0), r13.1.1, ())
def F_i_Machine_set : Nat → (List (Int × Int × List Int)) → List Int → List Int → Bool → List Int → Option ((Bool × Unit) × (((List (Int × Int × List Int)) × List Int × List Int × Bool × Unit) × Unit))
  | 0, _, _, _, _, _ => none
  | k + 1, m_Nodes, m_Stack, m_Memo, m_Done, pairs => B_i_Machine_set k (F_i_Machine_top k) (F_i_findKey k) m_Nodes m_Stack m_Memo m_Done pairs
theorem F_i_Machine_set_succ (k : Nat) (m_Nodes : List (Int × Int × List Int)) (m_Stack : List Int) (m_Memo : List Int) (m_Done : Bool) (pairs : List Int) : F_i_Machine_set (k + 1) m_Nodes m_Stack m_Memo m_Done pairs = B_i_Machine_set k (F_i_Machine_top k) (F_i_findKey k) m_Nodes m_Stack m_Memo m_Done pairs := rfl
theorem tot_i_Machine_set {m_Nodes : List (Int × Int × List Int)} {m_Stack : List Int} {m_Memo : List Int} {m_Done : Bool} {pairs : List Int} {Q : (((Bool × Unit) × (((List (Int × Int × List Int)) × List Int × List Int × Bool × Unit) × Unit))) → Prop} (h : Tot (fun σ => B_i_Machine_set (σ 0) (F_i_Machine_top (σ 0)) (F_i_findKey (σ 0)) m_Nodes m_Stack m_Memo m_Done pairs) Q) : Tot (fun σ => F_i_Machine_set (σ 0) m_Nodes m_Stack m_Memo m_Done pairs) Q :=
  Tot.call (F := fun k => F_i_Machine_set k m_Nodes m_Stack m_Memo m_Done pairs) (B := fun k => B_i_Machine_set k (F_i_Machine_top k) (F_i_findKey k) m_Nodes m_Stack m_Memo m_Done pairs) (fun k => F_i_Machine_set_succ k m_Nodes m_Stack m_Memo m_Done pairs) h
theorem loop_i_Machine_set_L3 {Q : (List (Int × Int × List Int)) → List Int → List Int → Bool → List Int → Int → Option Nat → ((Bool × Unit) × (((List (Int × Int × List Int)) × List Int × List Int × Bool × Unit) × Unit)) → Prop} (I : (List (Int × Int × List Int)) → List Int → List Int → Bool → List Int → Int → Option Nat → Prop) (μ : (List (Int × Int × List Int)) → List Int → List Int → Bool → List Int → Int → Option Nat → Nat)
    (step : ∀ (m_Nodes : List (Int × Int × List Int)) (m_Stack : List Int) (m_Memo : List Int) (m_Done : Bool) (pairs : List Int) (i : Int) (x : Option Nat), I m_Nodes m_Stack m_Memo m_Done pairs i x → ∀ again : (Nat → Nat) → (((List (Int × Int × List Int)) × List Int × List Int × Bool × Unit) × List Int × Int × Option Nat × Unit) → Option ((Bool × Unit) × (((List (Int × Int × List Int)) × List Int × List Int × Bool × Unit) × Unit)), Dep 2 again → (∀ (y0 : List (Int × Int × List Int)) (y1 : List Int) (y2 : List Int) (y3 : Bool) (y4 : List Int) (y5 : Int) (y6 : Option Nat), I y0 y1 y2 y3 y4 y5 y6 → μ y0 y1 y2 y3 y4 y5 y6 < μ m_Nodes m_Stack m_Memo m_Done pairs i x → Tot (fun σ => again σ ((y0, y1, y2, y3, ()), y4, y5, y6, ())) (Q y0 y1 y2 y3 y4 y5 y6)) →
      Tot (fun σ => B_i_Machine_set_L3b (σ 0) (F_i_Machine_top (σ 0)) (F_i_findKey (σ 0)) (again σ) m_Nodes m_Stack m_Memo m_Done pairs i x) (Q m_Nodes m_Stack m_Memo m_Done pairs i x)) :
    ∀ (m_Nodes : List (Int × Int × List Int)) (m_Stack : List Int) (m_Memo : List Int) (m_Done : Bool) (pairs : List Int) (i : Int) (x : Option Nat), I m_Nodes m_Stack m_Memo m_Done pairs i x → Tot (fun σ => B_i_Machine_set_L3 (σ 0) (F_i_Machine_top (σ 0)) (F_i_findKey (σ 0)) (σ 0) ((m_Nodes, m_Stack, m_Memo, m_Done, ()), pairs, i, x, ())) (Q m_Nodes m_Stack m_Memo m_Done pairs i x) := fun m_Nodes m_Stack m_Memo m_Done pairs i x hI =>
  Tot.loop (L := fun σ n t => B_i_Machine_set_L3 (σ 0) (F_i_Machine_top (σ 0)) (F_i_findKey (σ 0)) n t) (B := fun σ g t => B_i_Machine_set_L3b (σ 0) (F_i_Machine_top (σ 0)) (F_i_findKey (σ 0)) g t.1.1 t.1.2.1 t.1.2.2.1 t.1.2.2.2.1 t.2.1 t.2.2.1 t.2.2.2.1) (Q := fun t => Q t.1.1 t.1.2.1 t.1.2.2.1 t.1.2.2.2.1 t.2.1 t.2.2.1 t.2.2.2.1) 1 (by decide)
    (fun s s' h => by have e0 : s 0 = s' 0 := h 0 (by decide); simp only [e0]) (fun s s' h => by have e0 : s 0 = s' 0 := h 0 (by decide); simp only [e0]) (fun _ _ _ => rfl) (fun t => I t.1.1 t.1.2.1 t.1.2.2.1 t.1.2.2.2.1 t.2.1 t.2.2.1 t.2.2.2.1) (fun t => μ t.1.1 t.1.2.1 t.1.2.2.1 t.1.2.2.2.1 t.2.1 t.2.2.1 t.2.2.2.1)
    (fun t ht again hag h => step t.1.1 t.1.2.1 t.1.2.2.1 t.1.2.2.2.1 t.2.1 t.2.2.1 t.2.2.2.1 ht again hag (fun y0 y1 y2 y3 y4 y5 y6 hI hm => h ((y0, y1, y2, y3, ()), y4, y5, y6, ()) hI hm)) ((m_Nodes, m_Stack, m_Memo, m_Done, ()), pairs, i, x, ()) hI
theorem loop_i_Machine_set_L1 {Q : (List (Int × Int × List Int)) → List Int → List Int → Bool → List Int → Int → Option Nat → ((Bool × Unit) × (((List (Int × Int × List Int)) × List Int × List Int × Bool × Unit) × Unit)) → Prop} (I : (List (Int × Int × List Int)) → List Int → List Int → Bool → List Int → Int → Option Nat → Prop) (μ : (List (Int × Int × List Int)) → List Int → List Int → Bool → List Int → Int → Option Nat → Nat)
    (step : ∀ (m_Nodes : List (Int × Int × List Int)) (m_Stack : List Int) (m_Memo : List Int) (m_Done : Bool) (pairs : List Int) (i : Int) (x : Option Nat), I m_Nodes m_Stack m_Memo m_Done pairs i x → ∀ again : (Nat → Nat) → (((List (Int × Int × List Int)) × List Int × List Int × Bool × Unit) × List Int × Int × Option Nat × Unit) → Option ((Bool × Unit) × (((List (Int × Int × List Int)) × List Int × List Int × Bool × Unit) × Unit)), Dep 2 again → (∀ (y0 : List (Int × Int × List Int)) (y1 : List Int) (y2 : List Int) (y3 : Bool) (y4 : List Int) (y5 : Int) (y6 : Option Nat), I y0 y1 y2 y3 y4 y5 y6 → μ y0 y1 y2 y3 y4 y5 y6 < μ m_Nodes m_Stack m_Memo m_Done pairs i x → Tot (fun σ => again σ ((y0, y1, y2, y3, ()), y4, y5, y6, ())) (Q y0 y1 y2 y3 y4 y5 y6)) →
      Tot (fun σ => B_i_Machine_set_L1b (σ 0) (F_i_Machine_top (σ 0)) (F_i_findKey (σ 0)) (again σ) m_Nodes m_Stack m_Memo m_Done pairs i x) (Q m_Nodes m_Stack m_Memo m_Done pairs i x)) :
    ∀ (m_Nodes : List (Int × Int × List Int)) (m_Stack : List Int) (m_Memo : List Int) (m_Done : Bool) (pairs : List Int) (i : Int) (x : Option Nat), I m_Nodes m_Stack m_Memo m_Done pairs i x → Tot (fun σ => B_i_Machine_set_L1 (σ 0) (F_i_Machine_top (σ 0)) (F_i_findKey (σ 0)) (σ 0) ((m_Nodes, m_Stack, m_Memo, m_Done, ()), pairs, i, x, ())) (Q m_Nodes m_Stack m_Memo m_Done pairs i x) := fun m_Nodes m_Stack m_Memo m_Done pairs i x hI =>
  Tot.loop (L := fun σ n t => B_i_Machine_set_L1 (σ 0) (F_i_Machine_top (σ 0)) (F_i_findKey (σ 0)) n t) (B := fun σ g t => B_i_Machine_set_L1b (σ 0) (F_i_Machine_top (σ 0)) (F_i_findKey (σ 0)) g t.1.1 t.1.2.1 t.1.2.2.1 t.1.2.2.2.1 t.2.1 t.2.2.1 t.2.2.2.1) (Q := fun t => Q t.1.1 t.1.2.1 t.1.2.2.1 t.1.2.2.2.1 t.2.1 t.2.2.1 t.2.2.2.1) 1 (by decide)
    (fun s s' h => by have e0 : s 0 = s' 0 := h 0 (by decide); simp only [e0]) (fun s s' h => by have e0 : s 0 = s' 0 := h 0 (by decide); simp only [e0]) (fun _ _ _ => rfl) (fun t => I t.1.1 t.1.2.1 t.1.2.2.1 t.1.2.2.2.1 t.2.1 t.2.2.1 t.2.2.2.1) (fun t => μ t.1.1 t.1.2.1 t.1.2.2.1 t.1.2.2.2.1 t.2.1 t.2.2.1 t.2.2.2.1)
    (fun t ht again hag h => step t.1.1 t.1.2.1 t.1.2.2.1 t.1.2.2.2.1 t.2.1 t.2.2.1 t.2.2.2.1 ht again hag (fun y0 y1 y2 y3 y4 y5 y6 hI hm => h ((y0, y1, y2, y3, ()), y4, y5, y6, ()) hI hm)) ((m_Nodes, m_Stack, m_Memo, m_Done, ()), pairs, i, x, ()) hI
def B_i_Machine_do_J0 (k : Nat) (c_i_Machine_nodes : (List (Int × Int × List Int)) → List Int → List Int → Bool → Option ((Int × Unit) × (((List (Int × Int × List Int)) × List Int × List Int × Bool × Unit) × Unit))) (c_i_Machine_make : (List (Int × Int × List Int)) → List Int → List Int → Bool → Int → Int → List Int → Option ((Bool × Unit) × (((List (Int × Int × List Int)) × List Int × List Int × Bool × Unit) × Unit))) (c_i_Machine_push : (List (Int × Int × List Int)) → List Int → List Int → Bool → Int → Option ((Bool × Unit) × (((List (Int × Int × List Int)) × List Int × List Int × Bool × Unit) × Unit))) (c_i_Machine_above : (List (Int × Int × List Int)) → List Int → List Int → Bool → Option ((List Int × Bool × Unit) × (((List (Int × Int × List Int)) × List Int × List Int × Bool × Unit) × Unit))) (c_i_Machine_take : (List (Int × Int × List Int)) → List Int → List Int → Bool → Int → Option ((List Int × Unit) × (((List (Int × Int × List Int)) × List Int × List Int × Bool × Unit) × Unit))) (c_i_Machine_top : (List (Int × Int × List Int)) → List Int → List Int → Bool → Int → Option ((Option Nat × Bool × Unit) × (((List (Int × Int × List Int)) × List Int × List Int × Bool × Unit) × Unit))) (c_i_Machine_set : (List (Int × Int × List Int)) → List Int → List Int → Bool → List Int → Option ((Bool × Unit) × (((List (Int × Int × List Int)) × List Int × List Int × Bool × Unit) × Unit))) (m_Nodes : List (Int × Int × List Int)) (m_Stack : List Int) (m_Memo : List Int) (m_Done : Bool) (kids : List Int) (t183 : Bool) (x : Option Nat) : Option ((Bool × Unit) × (((Bool × List (Int × Int × List Int)) × List Int × List Int × Bool × Unit) × Unit)) :=
  bif t183 then
    some ((false, ()), (((true, m_Nodes), m_Stack, m_Memo, m_Done, ()), ()))
  else
    (x).bind fun p9 =>
    chk (decide (p9 < m_Nodes.length)) <|
    some ((true, ()), (((true, (m_Nodes.set p9 ((m_Nodes.getD p9 ((0 : Int), ((0 : Int), ([] : List Int)))).1, (((m_Nodes.getD p9 ((0 : Int), ((0 : Int), ([] : List Int)))).2).1, kids)))), m_Stack, m_Memo, m_Done, ()), ()))
def B_i_Machine_do_J1 (k : Nat) (c_i_Machine_nodes : (List (Int × Int × List Int)) → List Int → List Int → Bool → Option ((Int × Unit) × (((List (Int × Int × List Int)) × List Int × List Int × Bool × Unit) × Unit))) (c_i_Machine_make : (List (Int × Int × List Int)) → List Int → List Int → Bool → Int → Int → List Int → Option ((Bool × Unit) × (((List (Int × Int × List Int)) × List Int × List Int × Bool × Unit) × Unit))) (c_i_Machine_push : (List (Int × Int × List Int)) → List Int → List Int → Bool → Int → Option ((Bool × Unit) × (((List (Int × Int × List Int)) × List Int × List Int × Bool × Unit) × Unit))) (c_i_Machine_above : (List (Int × Int × List Int)) → List Int → List Int → Bool → Option ((List Int × Bool × Unit) × (((List (Int × Int × List Int)) × List Int × List Int × Bool × Unit) × Unit))) (c_i_Machine_take : (List (Int × Int × List Int)) → List Int → List Int → Bool → Int → Option ((List Int × Unit) × (((List (Int × Int × List Int)) × List Int × List Int × Bool × Unit) × Unit))) (c_i_Machine_top : (List (Int × Int × List Int)) → List Int → List Int → Bool → Int → Option ((Option Nat × Bool × Unit) × (((List (Int × Int × List Int)) × List Int × List Int × Bool × Unit) × Unit))) (c_i_Machine_set : (List (Int × Int × List Int)) → List Int → List Int → Bool → List Int → Option ((Bool × Unit) × (((List (Int × Int × List Int)) × List Int × List Int × Bool × Unit) × Unit))) (m_Nodes : List (Int × Int × List Int)) (m_Stack : List Int) (m_Memo : List Int) (m_Done : Bool) : Option ((Bool × Unit) × (((Bool × List (Int × Int × List Int)) × List Int × List Int × Bool × Unit) × Unit)) :=
  some ((m_Done, ()), (((true, m_Nodes), m_Stack, m_Memo, m_Done, ()), ()))
def B_i_Machine_do (k : Nat) (c_i_Machine_nodes : (List (Int × Int × List Int)) → List Int → List Int → Bool → Option ((Int × Unit) × (((List (Int × Int × List Int)) × List Int × List Int × Bool × Unit) × Unit))) (c_i_Machine_make : (List (Int × Int × List Int)) → List Int → List Int → Bool → Int → Int → List Int → Option ((Bool × Unit) × (((List (Int × Int × List Int)) × List Int × List Int × Bool × Unit) × Unit))) (c_i_Machine_push : (List (Int × Int × List Int)) → List Int → List Int → Bool → Int → Option ((Bool × Unit) × (((List (Int × Int × List Int)) × List Int × List Int × Bool × Unit) × Unit))) (c_i_Machine_above : (List (Int × Int × List Int)) → List Int → List Int → Bool → Option ((List Int × Bool × Unit) × (((List (Int × Int × List Int)) × List Int × List Int × Bool × Unit) × Unit))) (c_i_Machine_take : (List (Int × Int × List Int)) → List Int → List Int → Bool → Int → Option ((List Int × Unit) × (((List (Int × Int × List Int)) × List Int × List Int × Bool × Unit) × Unit))) (c_i_Machine_top : (List (Int × Int × List Int)) → List Int → List Int → Bool → Int → Option ((Option Nat × Bool × Unit) × (((List (Int × Int × List Int)) × List Int × List Int × Bool × Unit) × Unit))) (c_i_Machine_set : (List (Int × Int × List Int)) → List Int → List Int → Bool → List Int → Option ((Bool × Unit) × (((List (Int × Int × List Int)) × List Int × List Int × Bool × Unit) × Unit))) (m_Nodes : List (Int × Int × List Int)) (m_Stack : List Int) (m_Memo : List Int) (m_Done : Bool) (o_0 : Int) (o_1 : Int) : Option ((Bool × Unit) × (((Bool × List (Int × Int × List Int)) × List Int × List Int × Bool × Unit) × Unit)) :=
  (c_i_Machine_nodes m_Nodes m_Stack m_Memo m_Done).bind fun r23 =>
  bif (o_0 == 0) then
    (c_i_Machine_make r23.2.1.1 r23.2.1.2.1 r23.2.1.2.2.1 r23.2.1.2.2.2.1 0 o_1 ([])).bind fun r31 =>
    some ((r31.1.1, ()), (((false, r31.2.1.1), r31.2.1.2.1, r31.2.1.2.2.1, r31.2.1.2.2.2.1, ()), ()))
  else
    bif (o_0 == 1) then
      (c_i_Machine_make r23.2.1.1 r23.2.1.2.1 r23.2.1.2.2.1 r23.2.1.2.2.2.1 1 o_1 ([])).bind fun r37 =>
      some ((r37.1.1, ()), (((false, r37.2.1.1), r37.2.1.2.1, r37.2.1.2.2.1, r37.2.1.2.2.2.1, ()), ()))
    else
      bif (o_0 == 13) then
        (c_i_Machine_make r23.2.1.1 r23.2.1.2.1 r23.2.1.2.2.1 r23.2.1.2.2.2.1 5 o_1 ([])).bind fun r43 =>
        some ((r43.1.1, ()), (((false, r43.2.1.1), r43.2.1.2.1, r43.2.1.2.2.1, r43.2.1.2.2.2.1, ()), ()))
      else
        bif (o_0 == 4) then
          (c_i_Machine_make r23.2.1.1 r23.2.1.2.1 r23.2.1.2.2.1 r23.2.1.2.2.2.1 2 0 ([])).bind fun r47 =>
          some ((r47.1.1, ()), (((false, r47.2.1.1), r47.2.1.2.1, r47.2.1.2.2.1, r47.2.1.2.2.2.1, ()), ()))
        else
          bif (o_0 == 7) then
            (c_i_Machine_make r23.2.1.1 r23.2.1.2.1 r23.2.1.2.2.1 r23.2.1.2.2.2.1 3 0 ([])).bind fun r51 =>
            some ((r51.1.1, ()), (((false, r51.2.1.1), r51.2.1.2.1, r51.2.1.2.2.1, r51.2.1.2.2.2.1, ()), ()))
          else
            bif (o_0 == 10) then
              (c_i_Machine_make r23.2.1.1 r23.2.1.2.1 r23.2.1.2.2.1 r23.2.1.2.2.2.1 4 0 ([])).bind fun r55 =>
              some ((r55.1.1, ()), (((false, r55.2.1.1), r55.2.1.2.1, r55.2.1.2.2.1, r55.2.1.2.2.2.1, ()), ()))
            else
              bif (o_0 == 2) then
                (c_i_Machine_push r23.2.1.1 r23.2.1.2.1 r23.2.1.2.2.1 r23.2.1.2.2.2.1 (-1)).bind fun r59 =>
                some ((r59.1.1, ()), (((true, r59.2.1.1), r59.2.1.2.1, r59.2.1.2.2.1, r59.2.1.2.2.2.1, ()), ()))
              else
                bif (o_0 == 3) then
                  (c_i_Machine_above r23.2.1.1 r23.2.1.2.1 r23.2.1.2.2.1 r23.2.1.2.2.2.1).bind fun r64 =>
                  bif r64.1.2.1 then
                    (c_i_Machine_make r64.2.1.1 r64.2.1.2.1 r64.2.1.2.2.1 r64.2.1.2.2.2.1 2 0 r64.1.1).bind fun r71 =>
                    some ((r71.1.1, ()), (((false, r71.2.1.1), r71.2.1.2.1, r71.2.1.2.2.1, r71.2.1.2.2.2.1, ()), ()))
                  else
                    some ((false, ()), (((true, r64.2.1.1), r64.2.1.2.1, r64.2.1.2.2.1, r64.2.1.2.2.2.1, ()), ()))
                else
                  bif (o_0 == 5) then
                    bif decide (r23.1.1 ≥ 1) then
                      (c_i_Machine_take r23.2.1.1 r23.2.1.2.1 r23.2.1.2.2.1 r23.2.1.2.2.2.1 1).bind fun r80 =>
                      (c_i_Machine_make r80.2.1.1 r80.2.1.2.1 r80.2.1.2.2.1 r80.2.1.2.2.2.1 2 0 r80.1.1).bind fun r81 =>
                      some ((r81.1.1, ()), (((false, r81.2.1.1), r81.2.1.2.1, r81.2.1.2.2.1, r81.2.1.2.2.2.1, ()), ()))
                    else
                      some ((false, ()), (((true, r23.2.1.1), r23.2.1.2.1, r23.2.1.2.2.1, r23.2.1.2.2.2.1, ()), ()))
                  else
                    bif (o_0 == 6) then
                      bif decide (r23.1.1 ≥ 2) then
                        (c_i_Machine_take r23.2.1.1 r23.2.1.2.1 r23.2.1.2.2.1 r23.2.1.2.2.2.1 2).bind fun r90 =>
                        (c_i_Machine_make r90.2.1.1 r90.2.1.2.1 r90.2.1.2.2.1 r90.2.1.2.2.2.1 2 0 r90.1.1).bind fun r91 =>
                        some ((r91.1.1, ()), (((false, r91.2.1.1), r91.2.1.2.1, r91.2.1.2.2.1, r91.2.1.2.2.2.1, ()), ()))
                      else
                        some ((false, ()), (((true, r23.2.1.1), r23.2.1.2.1, r23.2.1.2.2.1, r23.2.1.2.2.2.1, ()), ()))
                    else
                      bif (o_0 == 8) then
                        bif decide (r23.1.1 < 2) then
                          some ((false, ()), (((true, r23.2.1.1), r23.2.1.2.1, r23.2.1.2.2.1, r23.2.1.2.2.2.1, ()), ()))
                        else
                          (c_i_Machine_take r23.2.1.1 r23.2.1.2.1 r23.2.1.2.2.1 r23.2.1.2.2.2.1 1).bind fun r98 =>
                          (c_i_Machine_top r98.2.1.1 r98.2.1.2.1 r98.2.1.2.2.1 r98.2.1.2.2.2.1 3).bind fun r101 =>
                          bif r101.1.2.1 then
                            (r101.1.1).bind fun p0 =>
                            chk (decide (p0 < r101.2.1.1.length)) <|
                            chk (room (((r101.2.1.1.getD p0 ((0 : Int), ((0 : Int), ([] : List Int)))).2).2).length r98.1.1.length) <|
                            (r101.1.1).bind fun p1 =>
                            chk (decide (p1 = p0)) <|
                            let w2 : List (Int × Int × List Int) := (r101.2.1.1.set p1 ((r101.2.1.1.getD p1 ((0 : Int), ((0 : Int), ([] : List Int)))).1, (((r101.2.1.1.getD p1 ((0 : Int), ((0 : Int), ([] : List Int)))).2).1, (((r101.2.1.1.getD p0 ((0 : Int), ((0 : Int), ([] : List Int)))).2).2 ++ r98.1.1))))
                            some ((r101.1.2.1, ()), (((true, w2), r101.2.1.2.1, r101.2.1.2.2.1, r101.2.1.2.2.2.1, ()), ()))
                          else
                            some ((r101.1.2.1, ()), (((true, r101.2.1.1), r101.2.1.2.1, r101.2.1.2.2.1, r101.2.1.2.2.2.1, ()), ()))
                      else
                        bif (o_0 == 9) then
                          (c_i_Machine_above r23.2.1.1 r23.2.1.2.1 r23.2.1.2.2.1 r23.2.1.2.2.2.1).bind fun r119 =>
                          bif (!r119.1.2.1) then
                            some ((false, ()), (((true, r119.2.1.1), r119.2.1.2.1, r119.2.1.2.2.1, r119.2.1.2.2.2.1, ()), ()))
                          else
                            (c_i_Machine_top r119.2.1.1 r119.2.1.2.1 r119.2.1.2.2.1 r119.2.1.2.2.2.1 3).bind fun r126 =>
                            bif r126.1.2.1 then
                              (r126.1.1).bind fun p3 =>
                              chk (decide (p3 < r126.2.1.1.length)) <|
                              chk (room (((r126.2.1.1.getD p3 ((0 : Int), ((0 : Int), ([] : List Int)))).2).2).length r119.1.1.length) <|
                              (r126.1.1).bind fun p4 =>
                              chk (decide (p4 = p3)) <|
                              let w5 : List (Int × Int × List Int) := (r126.2.1.1.set p4 ((r126.2.1.1.getD p4 ((0 : Int), ((0 : Int), ([] : List Int)))).1, (((r126.2.1.1.getD p4 ((0 : Int), ((0 : Int), ([] : List Int)))).2).1, (((r126.2.1.1.getD p3 ((0 : Int), ((0 : Int), ([] : List Int)))).2).2 ++ r119.1.1))))
                              some ((r126.1.2.1, ()), (((true, w5), r126.2.1.2.1, r126.2.1.2.2.1, r126.2.1.2.2.2.1, ()), ()))
                            else
                              some ((r126.1.2.1, ()), (((true, r126.2.1.1), r126.2.1.2.1, r126.2.1.2.2.1, r126.2.1.2.2.2.1, ()), ()))
                        else
                          bif (o_0 == 11) then
                            bif decide (r23.1.1 ≥ 3) then
                              (c_i_Machine_take r23.2.1.1 r23.2.1.2.1 r23.2.1.2.2.1 r23.2.1.2.2.2.1 2).bind fun r147 =>
                              (c_i_Machine_set r147.2.1.1 r147.2.1.2.1 r147.2.1.2.2.1 r147.2.1.2.2.2.1 r147.1.1).bind fun r148 =>
                              some ((r148.1.1, ()), (((true, r148.2.1.1), r148.2.1.2.1, r148.2.1.2.2.1, r148.2.1.2.2.2.1, ()), ()))
                            else
                              some ((false, ()), (((true, r23.2.1.1), r23.2.1.2.1, r23.2.1.2.2.1, r23.2.1.2.2.2.1, ()), ()))
                          else
                            bif (o_0 == 12) then
                              (c_i_Machine_above r23.2.1.1 r23.2.1.2.1 r23.2.1.2.2.1 r23.2.1.2.2.2.1).bind fun r154 =>
                              bif r154.1.2.1 then
                                (c_i_Machine_set r154.2.1.1 r154.2.1.2.1 r154.2.1.2.2.1 r154.2.1.2.2.2.1 r154.1.1).bind fun r161 =>
                                some ((r161.1.1, ()), (((true, r161.2.1.1), r161.2.1.2.1, r161.2.1.2.2.1, r161.2.1.2.2.2.1, ()), ()))
                              else
                                some ((false, ()), (((true, r154.2.1.1), r154.2.1.2.1, r154.2.1.2.2.1, r154.2.1.2.2.2.1, ()), ()))
                            else
                              bif (o_0 == 14) then
                                bif decide (r23.1.1 < 2) then
                                  some ((false, ()), (((true, r23.2.1.1), r23.2.1.2.1, r23.2.1.2.2.1, r23.2.1.2.2.2.1, ()), ()))
                                else
                                  (c_i_Machine_take r23.2.1.1 r23.2.1.2.1 r23.2.1.2.2.1 r23.2.1.2.2.2.1 1).bind fun r168 =>
                                  (c_i_Machine_top r168.2.1.1 r168.2.1.2.1 r168.2.1.2.2.1 r168.2.1.2.2.2.1 5).bind fun r171 =>
                                  bif (!r171.1.2.1) then
                                    jn (fun t => B_i_Machine_do_J0 k c_i_Machine_nodes c_i_Machine_make c_i_Machine_push c_i_Machine_above c_i_Machine_take c_i_Machine_top c_i_Machine_set t.1.1 t.1.2.1 t.1.2.2.1 t.1.2.2.2.1 t.2.1 t.2.2.1 t.2.2.2.1) ((r171.2.1.1, r171.2.1.2.1, r171.2.1.2.2.1, r171.2.1.2.2.2.1, ()), r168.1.1, true, r171.1.1, ())
                                  else
                                    (r171.1.1).bind fun p10 =>
                                    chk (decide (p10 < r171.2.1.1.length)) <|
                                    jn (fun t => B_i_Machine_do_J0 k c_i_Machine_nodes c_i_Machine_make c_i_Machine_push c_i_Machine_above c_i_Machine_take c_i_Machine_top c_i_Machine_set t.1.1 t.1.2.1 t.1.2.2.1 t.1.2.2.2.1 t.2.1 t.2.2.1 t.2.2.2.1) (((r171.2.1.1.set p10 ((r171.2.1.1.getD p10 ((0 : Int), ((0 : Int), ([] : List Int)))).1, (((r171.2.1.1.getD p10 ((0 : Int), ((0 : Int), ([] : List Int)))).2).1, ((r171.2.1.1.getD p10 ((0 : Int), ((0 : Int), ([] : List Int)))).2).2))), r171.2.1.2.1, r171.2.1.2.2.1, r171.2.1.2.2.2.1, ()), r168.1.1, decide ((len (((r171.2.1.1.getD p10 ((0 : Int), ((0 : Int), ([] : List Int)))).2).2)) > 0), r171.1.1, ())
                              else
                                bif (o_0 == 15) then
                                  bif decide (r23.1.1 < 1) then
                                    some ((false, ()), (((true, r23.2.1.1), r23.2.1.2.1, r23.2.1.2.2.1, r23.2.1.2.2.2.1, ()), ()))
                                  else
                                    chk (inb (w64 ((len r23.2.1.2.1) - 1)) r23.2.1.2.1.length) <|
                                    chk (decide ((w64 ((len r23.2.1.2.1) - 1)).toNat < r23.2.1.2.1.length)) <|
                                    chk (inb o_1 r23.2.1.2.2.1.length) <|
                                    chk (decide (o_1.toNat < r23.2.1.2.2.1.length)) <|
                                    some ((true, ()), (((true, r23.2.1.1), r23.2.1.2.1, (r23.2.1.2.2.1.set o_1.toNat (r23.2.1.2.1.getD ((w64 ((len r23.2.1.2.1) - 1)).toNat) (0 : Int))), r23.2.1.2.2.2.1, ()), ()))
                                else
                                  bif (o_0 == 16) then
                                    chk (inb o_1 r23.2.1.2.2.1.length) <|
                                    chk (decide (o_1.toNat < r23.2.1.2.2.1.length)) <|
                                    bif decide ((r23.2.1.2.2.1.getD o_1.toNat (0 : Int)) ≥ 0) then
                                      chk (inb o_1 r23.2.1.2.2.1.length) <|
                                      chk (decide (o_1.toNat < r23.2.1.2.2.1.length)) <|
                                      (c_i_Machine_push r23.2.1.1 r23.2.1.2.1 r23.2.1.2.2.1 r23.2.1.2.2.2.1 (r23.2.1.2.2.1.getD o_1.toNat (0 : Int))).bind fun r232 =>
                                      some ((r232.1.1, ()), (((true, r232.2.1.1), r232.2.1.2.1, r232.2.1.2.2.1, r232.2.1.2.2.2.1, ()), ()))
                                    else
                                      some ((false, ()), (((true, r23.2.1.1), r23.2.1.2.1, r23.2.1.2.2.1, r23.2.1.2.2.2.1, ()), ()))
                                  else
                                    bif (o_0 == 17) then
                                      bif decide (r23.1.1 < 1) then
                                        some ((false, ()), (((true, r23.2.1.1), r23.2.1.2.1, r23.2.1.2.2.1, r23.2.1.2.2.2.1, ()), ()))
                                      else
                                        (c_i_Machine_take r23.2.1.1 r23.2.1.2.1 r23.2.1.2.2.1 r23.2.1.2.2.2.1 1).bind fun r239 =>
                                        some ((true, ()), (((true, r239.2.1.1), r239.2.1.2.1, r239.2.1.2.2.1, r239.2.1.2.2.2.1, ()), ()))
                                    else
                                      bif (o_0 == 18) then
                                        (c_i_Machine_above r23.2.1.1 r23.2.1.2.1 r23.2.1.2.2.1 r23.2.1.2.2.2.1).bind fun r244 =>
                                        some ((r244.1.2.1, ()), (((true, r244.2.1.1), r244.2.1.2.1, r244.2.1.2.2.1, r244.2.1.2.2.2.1, ()), ()))
                                      else
                                        bif ((len r23.2.1.2.1) == 1) then
                                          jn (fun t => B_i_Machine_do_J1 k c_i_Machine_nodes c_i_Machine_make c_i_Machine_push c_i_Machine_above c_i_Machine_take c_i_Machine_top c_i_Machine_set t.1.1 t.1.2.1 t.1.2.2.1 t.1.2.2.2.1) ((r23.2.1.1, r23.2.1.2.1, r23.2.1.2.2.1, (r23.1.1 == 1), ()), ())
                                        else
                                          jn (fun t => B_i_Machine_do_J1 k c_i_Machine_nodes c_i_Machine_make c_i_Machine_push c_i_Machine_above c_i_Machine_take c_i_Machine_top c_i_Machine_set t.1.1 t.1.2.1 t.1.2.2.1 t.1.2.2.2.1) ((r23.2.1.1, r23.2.1.2.1, r23.2.1.2.2.1, false, ()), ())
def F_i_Machine_do : Nat → (List (Int × Int × List Int)) → List Int → List Int → Bool → Int → Int → Option ((Bool × Unit) × (((Bool × List (Int × Int × List Int)) × List Int × List Int × Bool × Unit) × Unit))
  | 0, _, _, _, _, _, _ => none
  | k + 1, m_Nodes, m_Stack, m_Memo, m_Done, o_0, o_1 => B_i_Machine_do k (F_i_Machine_nodes k) (F_i_Machine_make k) (F_i_Machine_push k) (F_i_Machine_above k) (F_i_Machine_take k) (F_i_Machine_top k) (F_i_Machine_set k) m_Nodes m_Stack m_Memo m_Done o_0 o_1
theorem F_i_Machine_do_succ (k : Nat) (m_Nodes : List (Int × Int × List Int)) (m_Stack : List Int) (m_Memo : List Int) (m_Done : Bool) (o_0 : Int) (o_1 : Int) : F_i_Machine_do (k + 1) m_Nodes m_Stack m_Memo m_Done o_0 o_1 = B_i_Machine_do k (F_i_Machine_nodes k) (F_i_Machine_make k) (F_i_Machine_push k) (F_i_Machine_above k) (F_i_Machine_take k) (F_i_Machine_top k) (F_i_Machine_set k) m_Nodes m_Stack m_Memo m_Done o_0 o_1 := rfl
theorem tot_i_Machine_do {m_Nodes : List (Int × Int × List Int)} {m_Stack : List Int} {m_Memo : List Int} {m_Done : Bool} {o_0 : Int} {o_1 : Int} {Q : (((Bool × Unit) × (((Bool × List (Int × Int × List Int)) × List Int × List Int × Bool × Unit) × Unit))) → Prop} (h : Tot (fun σ => B_i_Machine_do (σ 0) (F_i_Machine_nodes (σ 0)) (F_i_Machine_make (σ 0)) (F_i_Machine_push (σ 0)) (F_i_Machine_above (σ 0)) (F_i_Machine_take (σ 0)) (F_i_Machine_top (σ 0)) (F_i_Machine_set (σ 0)) m_Nodes m_Stack m_Memo m_Done o_0 o_1) Q) : Tot (fun σ => F_i_Machine_do (σ 0) m_Nodes m_Stack m_Memo m_Done o_0 o_1) Q :=
  Tot.call (F := fun k => F_i_Machine_do k m_Nodes m_Stack m_Memo m_Done o_0 o_1) (B := fun k => B_i_Machine_do k (F_i_Machine_nodes k) (F_i_Machine_make k) (F_i_Machine_push k) (F_i_Machine_above k) (F_i_Machine_take k) (F_i_Machine_top k) (F_i_Machine_set k) m_Nodes m_Stack m_Memo m_Done o_0 o_1) (fun k => F_i_Machine_do_succ k m_Nodes m_Stack m_Memo m_Done o_0 o_1) h
def B_i_Machine_step (k : Nat) (c_slices_Clone_int_int : List Int → Option ((List Int × Unit) × (Unit))) (c_i_Machine_do : (List (Int × Int × List Int)) → List Int → List Int → Bool → Int → Int → Option ((Bool × Unit) × (((Bool × List (Int × Int × List Int)) × List Int × List Int × Bool × Unit) × Unit))) (m_Nodes : List (Int × Int × List Int)) (m_Stack : List Int) (m_Memo : List Int) (m_Done : Bool) (o_0 : Int) (o_1 : Int) : Option ((Bool × Unit) × (((Option (List (Int × Int × List Int))) × List Int × List Int × Bool × Unit) × Unit)) :=
  (c_slices_Clone_int_int m_Stack).bind fun r15 =>
  bif (!m_Done) then
    (c_i_Machine_do m_Nodes m_Stack m_Memo m_Done o_0 o_1).bind fun r24 =>
    bif r24.1.1 then
      some ((true, ()), (((some r24.2.1.1.2), r24.2.1.2.1, r24.2.1.2.2.1, r24.2.1.2.2.2.1, ()), ()))
    else
      some ((false, ()), (((bif r24.2.1.1.1 then some r24.2.1.1.2 else none), r15.1.1, r24.2.1.2.2.1, r24.2.1.2.2.2.1, ()), ()))
  else
    some ((false, ()), (((some m_Nodes), r15.1.1, m_Memo, m_Done, ()), ()))
def F_i_Machine_step : Nat → (List (Int × Int × List Int)) → List Int → List Int → Bool → Int → Int → Option ((Bool × Unit) × (((Option (List (Int × Int × List Int))) × List Int × List Int × Bool × Unit) × Unit))
  | 0, _, _, _, _, _, _ => none
  | k + 1, m_Nodes, m_Stack, m_Memo, m_Done, o_0, o_1 => B_i_Machine_step k (F_slices_Clone_int_int k) (F_i_Machine_do k) m_Nodes m_Stack m_Memo m_Done o_0 o_1
theorem F_i_Machine_step_succ (k : Nat) (m_Nodes : List (Int × Int × List Int)) (m_Stack : List Int) (m_Memo : List Int) (m_Done : Bool) (o_0 : Int) (o_1 : Int) : F_i_Machine_step (k + 1) m_Nodes m_Stack m_Memo m_Done o_0 o_1 = B_i_Machine_step k (F_slices_Clone_int_int k) (F_i_Machine_do k) m_Nodes m_Stack m_Memo m_Done o_0 o_1 := rfl
theorem tot_i_Machine_step {m_Nodes : List (Int × Int × List Int)} {m_Stack : List Int} {m_Memo : List Int} {m_Done : Bool} {o_0 : Int} {o_1 : Int} {Q : (((Bool × Unit) × (((Option (List (Int × Int × List Int))) × List Int × List Int × Bool × Unit) × Unit))) → Prop} (h : Tot (fun σ => B_i_Machine_step (σ 0) (F_slices_Clone_int_int (σ 0)) (F_i_Machine_do (σ 0)) m_Nodes m_Stack m_Memo m_Done o_0 o_1) Q) : Tot (fun σ => F_i_Machine_step (σ 0) m_Nodes m_Stack m_Memo m_Done o_0 o_1) Q :=
  Tot.call (F := fun k => F_i_Machine_step k m_Nodes m_Stack m_Memo m_Done o_0 o_1) (B := fun k => B_i_Machine_step k (F_slices_Clone_int_int k) (F_i_Machine_do k) m_Nodes m_Stack m_Memo m_Done o_0 o_1) (fun k => F_i_Machine_step_succ k m_Nodes m_Stack m_Memo m_Done o_0 o_1) h
def B_i_copyNodes_L0b (k : Nat) (c_slices_Clone_int_int : List Int → Option ((List Int × Unit) × (Unit))) (again0 : ((List (Int × Int × List Int)) × (List (Int × Int × List Int)) × Int × Int × Unit) → Option (((List (Int × Int × List Int)) × Unit) × (Unit))) (out : List (Int × Int × List Int)) (t7 : List (Int × Int × List Int)) (t8 : Int) (t9 : Int) : Option (((List (Int × Int × List Int)) × Unit) × (Unit)) :=
  bif decide (t9 < t8) then
    chk (inb t9 t7.length) <|
    (c_slices_Clone_int_int (((rdx ((0 : Int), ((0 : Int), ([] : List Int))) t7 t9).2).2)).bind fun r20 =>
    chk (room out.length ([((rdx ((0 : Int), ((0 : Int), ([] : List Int))) t7 t9).1, (((rdx ((0 : Int), ((0 : Int), ([] : List Int))) t7 t9).2).1, r20.1.1))]).length) <|
    again0 ((out ++ [((rdx ((0 : Int), ((0 : Int), ([] : List Int))) t7 t9).1, (((rdx ((0 : Int), ((0 : Int), ([] : List Int))) t7 t9).2).1, r20.1.1))]), t7, t8, w64 (t9 + 1), ())
  else
    some ((out, ()), ())
def B_i_copyNodes_L0 (k : Nat) (c_slices_Clone_int_int : List Int → Option ((List Int × Unit) × (Unit))) (n : Nat) (t : (List (Int × Int × List Int)) × (List (Int × Int × List Int)) × Int × Int × Unit) : Option (((List (Int × Int × List Int)) × Unit) × (Unit)) :=
  lfix n (fun again t => B_i_copyNodes_L0b k c_slices_Clone_int_int again t.1 t.2.1 t.2.2.1 t.2.2.2.1) t
def B_i_copyNodes (k : Nat) (c_slices_Clone_int_int : List Int → Option ((List Int × Unit) × (Unit))) (nodes : List (Int × Int × List Int)) : Option (((List (Int × Int × List Int)) × Unit) × (Unit)) :=
  B_i_copyNodes_L0 k c_slices_Clone_int_int k ([], nodes, len nodes, 0, ())
def F_i_copyNodes : Nat → (List (Int × Int × List Int)) → Option (((List (Int × Int × List Int)) × Unit) × (Unit))
  | 0, _ => none
  | k + 1, nodes => B_i_copyNodes k (F_slices_Clone_int_int k) nodes
theorem F_i_copyNodes_succ (k : Nat) (nodes : List (Int × Int × List Int)) : F_i_copyNodes (k + 1) nodes = B_i_copyNodes k (F_slices_Clone_int_int k) nodes := rfl
theorem tot_i_copyNodes {nodes : List (Int × Int × List Int)} {Q : ((((List (Int × Int × List Int)) × Unit) × (Unit))) → Prop} (h : Tot (fun σ => B_i_copyNodes (σ 0) (F_slices_Clone_int_int (σ 0)) nodes) Q) : Tot (fun σ => F_i_copyNodes (σ 0) nodes) Q :=
  Tot.call (F := fun k => F_i_copyNodes k nodes) (B := fun k => B_i_copyNodes k (F_slices_Clone_int_int k) nodes) (fun k => F_i_copyNodes_succ k nodes) h
theorem loop_i_copyNodes_L0 {Q : (List (Int × Int × List Int)) → (List (Int × Int × List Int)) → Int → Int → (((List (Int × Int × List Int)) × Unit) × (Unit)) → Prop} (I : (List (Int × Int × List Int)) → (List (Int × Int × List Int)) → Int → Int → Prop) (μ : (List (Int × Int × List Int)) → (List (Int × Int × List Int)) → Int → Int → Nat)
    (step : ∀ (out : List (Int × Int × List Int)) (t7 : List (Int × Int × List Int)) (t8 : Int) (t9 : Int), I out t7 t8 t9 → ∀ again : (Nat → Nat) → ((List (Int × Int × List Int)) × (List (Int × Int × List Int)) × Int × Int × Unit) → Option (((List (Int × Int × List Int)) × Unit) × (Unit)), Dep 2 again → (∀ (y0 : List (Int × Int × List Int)) (y1 : List (Int × Int × List Int)) (y2 : Int) (y3 : Int), I y0 y1 y2 y3 → μ y0 y1 y2 y3 < μ out t7 t8 t9 → Tot (fun σ => again σ (y0, y1, y2, y3, ())) (Q y0 y1 y2 y3)) →
      Tot (fun σ => B_i_copyNodes_L0b (σ 0) (F_slices_Clone_int_int (σ 0)) (again σ) out t7 t8 t9) (Q out t7 t8 t9)) :
    ∀ (out : List (Int × Int × List Int)) (t7 : List (Int × Int × List Int)) (t8 : Int) (t9 : Int), I out t7 t8 t9 → Tot (fun σ => B_i_copyNodes_L0 (σ 0) (F_slices_Clone_int_int (σ 0)) (σ 0) (out, t7, t8, t9, ())) (Q out t7 t8 t9) := fun out t7 t8 t9 hI =>
  Tot.loop (L := fun σ n t => B_i_copyNodes_L0 (σ 0) (F_slices_Clone_int_int (σ 0)) n t) (B := fun σ g t => B_i_copyNodes_L0b (σ 0) (F_slices_Clone_int_int (σ 0)) g t.1 t.2.1 t.2.2.1 t.2.2.2.1) (Q := fun t => Q t.1 t.2.1 t.2.2.1 t.2.2.2.1) 1 (by decide)
    (fun s s' h => by have e0 : s 0 = s' 0 := h 0 (by decide); simp only [e0]) (fun s s' h => by have e0 : s 0 = s' 0 := h 0 (by decide); simp only [e0]) (fun _ _ _ => rfl) (fun t => I t.1 t.2.1 t.2.2.1 t.2.2.2.1) (fun t => μ t.1 t.2.1 t.2.2.1 t.2.2.2.1)
    (fun t ht again hag h => step t.1 t.2.1 t.2.2.1 t.2.2.2.1 ht again hag (fun y0 y1 y2 y3 hI hm => h (y0, y1, y2, y3, ()) hI hm)) (out, t7, t8, t9, ()) hI
def B_i_copyMachine (k : Nat) (c_i_copyNodes : (List (Int × Int × List Int)) → Option (((List (Int × Int × List Int)) × Unit) × (Unit))) (c_slices_Clone_int_int : List Int → Option ((List Int × Unit) × (Unit))) (m_0 : List (Int × Int × List Int)) (m_1 : List Int) (m_2 : List Int) (m_3 : Bool) : Option ((((List (Int × Int × List Int)) × List Int × List Int × Bool × Unit) × Unit) × (Unit)) :=
  (c_i_copyNodes m_0).bind fun r5 =>
  (c_slices_Clone_int_int m_1).bind fun r8 =>
  (c_slices_Clone_int_int m_2).bind fun r11 =>
  some (((r5.1.1, r8.1.1, r11.1.1, m_3, ()), ()), ())
def F_i_copyMachine : Nat → (List (Int × Int × List Int)) → List Int → List Int → Bool → Option ((((List (Int × Int × List Int)) × List Int × List Int × Bool × Unit) × Unit) × (Unit))
  | 0, _, _, _, _ => none
  | k + 1, m_0, m_1, m_2, m_3 => B_i_copyMachine k (F_i_copyNodes k) (F_slices_Clone_int_int k) m_0 m_1 m_2 m_3
theorem F_i_copyMachine_succ (k : Nat) (m_0 : List (Int × Int × List Int)) (m_1 : List Int) (m_2 : List Int) (m_3 : Bool) : F_i_copyMachine (k + 1) m_0 m_1 m_2 m_3 = B_i_copyMachine k (F_i_copyNodes k) (F_slices_Clone_int_int k) m_0 m_1 m_2 m_3 := rfl
theorem tot_i_copyMachine {m_0 : List (Int × Int × List Int)} {m_1 : List Int} {m_2 : List Int} {m_3 : Bool} {Q : (((((List (Int × Int × List Int)) × List Int × List Int × Bool × Unit) × Unit) × (Unit))) → Prop} (h : Tot (fun σ => B_i_copyMachine (σ 0) (F_i_copyNodes (σ 0)) (F_slices_Clone_int_int (σ 0)) m_0 m_1 m_2 m_3) Q) : Tot (fun σ => F_i_copyMachine (σ 0) m_0 m_1 m_2 m_3) Q :=
  Tot.call (F := fun k => F_i_copyMachine k m_0 m_1 m_2 m_3) (B := fun k => B_i_copyMachine k (F_i_copyNodes k) (F_slices_Clone_int_int k) m_0 m_1 m_2 m_3) (fun k => F_i_copyMachine_succ k m_0 m_1 m_2 m_3) h
def B_i_BuildGraph_1 (k : Nat) (t0_0 : List (Int × Int × List Int)) (t0_1 : List Int) (t0_2 : List Int) (t0_3 : Bool) : Option ((Unit) × (Unit)) :=
  some ((), ())
def F_i_BuildGraph_1 : Nat → (List (Int × Int × List Int)) → List Int → List Int → Bool → Option ((Unit) × (Unit))
  | 0, _, _, _, _ => none
  | k + 1, t0_0, t0_1, t0_2, t0_3 => B_i_BuildGraph_1 k t0_0 t0_1 t0_2 t0_3
theorem F_i_BuildGraph_1_succ (k : Nat) (t0_0 : List (Int × Int × List Int)) (t0_1 : List Int) (t0_2 : List Int) (t0_3 : Bool) : F_i_BuildGraph_1 (k + 1) t0_0 t0_1 t0_2 t0_3 = B_i_BuildGraph_1 k t0_0 t0_1 t0_2 t0_3 := rfl
theorem tot_i_BuildGraph_1 {t0_0 : List (Int × Int × List Int)} {t0_1 : List Int} {t0_2 : List Int} {t0_3 : Bool} {Q : (((Unit) × (Unit))) → Prop} (h : Tot (fun σ => B_i_BuildGraph_1 (σ 0) t0_0 t0_1 t0_2 t0_3) Q) : Tot (fun σ => F_i_BuildGraph_1 (σ 0) t0_0 t0_1 t0_2 t0_3) Q :=
  Tot.call (F := fun k => F_i_BuildGraph_1 k t0_0 t0_1 t0_2 t0_3) (B := fun k => B_i_BuildGraph_1 k t0_0 t0_1 t0_2 t0_3) (fun k => F_i_BuildGraph_1_succ k t0_0 t0_1 t0_2 t0_3) h
def B_i_running__i_BuildGraph_1_L0b (k : Nat) (c_i_NewMachine : Int → Option ((((List (Int × Int × List Int)) × Unit × List Int × Bool × Unit) × Unit) × (Unit))) (c_i_Machine_step : (List (Int × Int × List Int)) → List Int → List Int → Bool → Int → Int → Option ((Bool × Unit) × (((Option (List (Int × Int × List Int))) × List Int × List Int × Bool × Unit) × Unit))) (c_i_copyMachine : (List (Int × Int × List Int)) → List Int → List Int → Bool → Option ((((List (Int × Int × List Int)) × List Int × List Int × Bool × Unit) × Unit) × (Unit))) (c_i_BuildGraph_1 : (List (Int × Int × List Int)) → List Int → List Int → Bool → Option ((Unit) × (Unit))) (again0 : ((List (Int × Int)) × Unit × (Unit × Unit × Unit × Bool × Unit) × ((List (Int × Int × List Int)) × List Int × List Int × Bool × Unit) × (List (Int × Int)) × Int × Int × Unit) → Option ((((List (Int × Int × List Int)) × List Int × List Int × Bool × Unit) × Int × Unit) × (Unit))) (ops : List (Int × Int)) (t4_Done : Bool) (m_Nodes : List (Int × Int × List Int)) (m_Stack : List Int) (m_Memo : List Int) (m_Done : Bool) (t10 : List (Int × Int)) (t11 : Int) (t12 : Int) : Option ((((List (Int × Int × List Int)) × List Int × List Int × Bool × Unit) × Int × Unit) × (Unit)) :=
  bif decide (t12 < t11) then
    chk (inb t12 t10.length) <|
    (c_i_Machine_step m_Nodes m_Stack m_Memo m_Done ((rdx ((0 : Int), (0 : Int)) t10 t12).1) ((rdx ((0 : Int), (0 : Int)) t10 t12).2)).bind fun r18 =>
    bif (!r18.1.1) then
      (r18.2.1.1).bind fun p25 =>
      (c_i_copyMachine p25 r18.2.1.2.1 r18.2.1.2.2.1 r18.2.1.2.2.2.1).bind fun r21 =>
      some (((r21.1.1.1, r21.1.1.2.1, r21.1.1.2.2.1, r21.1.1.2.2.2.1, ()), t12, ()), ())
    else
      (r18.2.1.1).bind fun p26 =>
      (c_i_BuildGraph_1 p26 r18.2.1.2.1 r18.2.1.2.2.1 r18.2.1.2.2.2.1).bind fun r25 =>
      (r18.2.1.1).bind fun p27 =>
      again0 (ops, (), ((), (), (), t4_Done, ()), (p27, r18.2.1.2.1, r18.2.1.2.2.1, r18.2.1.2.2.2.1, ()), t10, t11, w64 (t12 + 1), ())
  else
    (c_i_copyMachine m_Nodes m_Stack m_Memo m_Done).bind fun r28 =>
    some (((r28.1.1.1, r28.1.1.2.1, r28.1.1.2.2.1, r28.1.1.2.2.2.1, ()), len ops, ()), ())
def B_i_running__i_BuildGraph_1_L0 (k : Nat) (c_i_NewMachine : Int → Option ((((List (Int × Int × List Int)) × Unit × List Int × Bool × Unit) × Unit) × (Unit))) (c_i_Machine_step : (List (Int × Int × List Int)) → List Int → List Int → Bool → Int → Int → Option ((Bool × Unit) × (((Option (List (Int × Int × List Int))) × List Int × List Int × Bool × Unit) × Unit))) (c_i_copyMachine : (List (Int × Int × List Int)) → List Int → List Int → Bool → Option ((((List (Int × Int × List Int)) × List Int × List Int × Bool × Unit) × Unit) × (Unit))) (c_i_BuildGraph_1 : (List (Int × Int × List Int)) → List Int → List Int → Bool → Option ((Unit) × (Unit))) (n : Nat) (t : (List (Int × Int)) × Unit × (Unit × Unit × Unit × Bool × Unit) × ((List (Int × Int × List Int)) × List Int × List Int × Bool × Unit) × (List (Int × Int)) × Int × Int × Unit) : Option ((((List (Int × Int × List Int)) × List Int × List Int × Bool × Unit) × Int × Unit) × (Unit)) :=
  lfix n (fun again t => B_i_running__i_BuildGraph_1_L0b k c_i_NewMachine c_i_Machine_step c_i_copyMachine c_i_BuildGraph_1 again t.1 t.2.2.1.2.2.2.1 t.2.2.2.1.1 t.2.2.2.1.2.1 t.2.2.2.1.2.2.1 t.2.2.2.1.2.2.2.1 t.2.2.2.2.1 t.2.2.2.2.2.1 t.2.2.2.2.2.2.1) t
def B_i_running__i_BuildGraph_1 (k : Nat) (c_i_NewMachine : Int → Option ((((List (Int × Int × List Int)) × Unit × List Int × Bool × Unit) × Unit) × (Unit))) (c_i_Machine_step : (List (Int × Int × List Int)) → List Int → List Int → Bool → Int → Int → Option ((Bool × Unit) × (((Option (List (Int × Int × List Int))) × List Int × List Int × Bool × Unit) × Unit))) (c_i_copyMachine : (List (Int × Int × List Int)) → List Int → List Int → Bool → Option ((((List (Int × Int × List Int)) × List Int × List Int × Bool × Unit) × Unit) × (Unit))) (c_i_BuildGraph_1 : (List (Int × Int × List Int)) → List Int → List Int → Bool → Option ((Unit) × (Unit))) (ops : List (Int × Int)) : Option ((((List (Int × Int × List Int)) × List Int × List Int × Bool × Unit) × Int × Unit) × (Unit)) :=
  (c_i_NewMachine 0).bind fun r9 =>
  B_i_running__i_BuildGraph_1_L0 k c_i_NewMachine c_i_Machine_step c_i_copyMachine c_i_BuildGraph_1 k (ops, (), ((), (), (), false, ()), (r9.1.1.1, [], r9.1.1.2.2.1, r9.1.1.2.2.2.1, ()), ops, len ops, 0, ())
def F_i_running__i_BuildGraph_1 : Nat → (List (Int × Int)) → Option ((((List (Int × Int × List Int)) × List Int × List Int × Bool × Unit) × Int × Unit) × (Unit))
  | 0, _ => none
  | k + 1, ops => B_i_running__i_BuildGraph_1 k (F_i_NewMachine k) (F_i_Machine_step k) (F_i_copyMachine k) (F_i_BuildGraph_1 k) ops
theorem F_i_running__i_BuildGraph_1_succ (k : Nat) (ops : List (Int × Int)) : F_i_running__i_BuildGraph_1 (k + 1) ops = B_i_running__i_BuildGraph_1 k (F_i_NewMachine k) (F_i_Machine_step k) (F_i_copyMachine k) (F_i_BuildGraph_1 k) ops := rfl
theorem tot_i_running__i_BuildGraph_1 {ops : List (Int × Int)} {Q : (((((List (Int × Int × List Int)) × List Int × List Int × Bool × Unit) × Int × Unit) × (Unit))) → Prop} (h : Tot (fun σ => B_i_running__i_BuildGraph_1 (σ 0) (F_i_NewMachine (σ 0)) (F_i_Machine_step (σ 0)) (F_i_copyMachine (σ 0)) (F_i_BuildGraph_1 (σ 0)) ops) Q) : Tot (fun σ => F_i_running__i_BuildGraph_1 (σ 0) ops) Q :=
  Tot.call (F := fun k => F_i_running__i_BuildGraph_1 k ops) (B := fun k => B_i_running__i_BuildGraph_1 k (F_i_NewMachine k) (F_i_Machine_step k) (F_i_copyMachine k) (F_i_BuildGraph_1 k) ops) (fun k => F_i_running__i_BuildGraph_1_succ k ops) h
theorem loop_i_running__i_BuildGraph_1_L0 {Q : (List (Int × Int)) → Bool → (List (Int × Int × List Int)) → List Int → List Int → Bool → (List (Int × Int)) → Int → Int → ((((List (Int × Int × List Int)) × List Int × List Int × Bool × Unit) × Int × Unit) × (Unit)) → Prop} (I : (List (Int × Int)) → Bool → (List (Int × Int × List Int)) → List Int → List Int → Bool → (List (Int × Int)) → Int → Int → Prop) (μ : (List (Int × Int)) → Bool → (List (Int × Int × List Int)) → List Int → List Int → Bool → (List (Int × Int)) → Int → Int → Nat)
    (step : ∀ (ops : List (Int × Int)) (t4_Done : Bool) (m_Nodes : List (Int × Int × List Int)) (m_Stack : List Int) (m_Memo : List Int) (m_Done : Bool) (t10 : List (Int × Int)) (t11 : Int) (t12 : Int), I ops t4_Done m_Nodes m_Stack m_Memo m_Done t10 t11 t12 → ∀ again : (Nat → Nat) → ((List (Int × Int)) × Unit × (Unit × Unit × Unit × Bool × Unit) × ((List (Int × Int × List Int)) × List Int × List Int × Bool × Unit) × (List (Int × Int)) × Int × Int × Unit) → Option ((((List (Int × Int × List Int)) × List Int × List Int × Bool × Unit) × Int × Unit) × (Unit)), Dep 2 again → (∀ (y0 : List (Int × Int)) (y1 : Bool) (y2 : List (Int × Int × List Int)) (y3 : List Int) (y4 : List Int) (y5 : Bool) (y6 : List (Int × Int)) (y7 : Int) (y8 : Int), I y0 y1 y2 y3 y4 y5 y6 y7 y8 → μ y0 y1 y2 y3 y4 y5 y6 y7 y8 < μ ops t4_Done m_Nodes m_Stack m_Memo m_Done t10 t11 t12 → Tot (fun σ => again σ (y0, (), ((), (), (), y1, ()), (y2, y3, y4, y5, ()), y6, y7, y8, ())) (Q y0 y1 y2 y3 y4 y5 y6 y7 y8)) →
      Tot (fun σ => B_i_running__i_BuildGraph_1_L0b (σ 0) (F_i_NewMachine (σ 0)) (F_i_Machine_step (σ 0)) (F_i_copyMachine (σ 0)) (F_i_BuildGraph_1 (σ 0)) (again σ) ops t4_Done m_Nodes m_Stack m_Memo m_Done t10 t11 t12) (Q ops t4_Done m_Nodes m_Stack m_Memo m_Done t10 t11 t12)) :
    ∀ (ops : List (Int × Int)) (t4_Done : Bool) (m_Nodes : List (Int × Int × List Int)) (m_Stack : List Int) (m_Memo : List Int) (m_Done : Bool) (t10 : List (Int × Int)) (t11 : Int) (t12 : Int), I ops t4_Done m_Nodes m_Stack m_Memo m_Done t10 t11 t12 → Tot (fun σ => B_i_running__i_BuildGraph_1_L0 (σ 0) (F_i_NewMachine (σ 0)) (F_i_Machine_step (σ 0)) (F_i_copyMachine (σ 0)) (F_i_BuildGraph_1 (σ 0)) (σ 0) (ops, (), ((), (), (), t4_Done, ()), (m_Nodes, m_Stack, m_Memo, m_Done, ()), t10, t11, t12, ())) (Q ops t4_Done m_Nodes m_Stack m_Memo m_Done t10 t11 t12) := fun ops t4_Done m_Nodes m_Stack m_Memo m_Done t10 t11 t12 hI =>
  Tot.loop (L := fun σ n t => B_i_running__i_BuildGraph_1_L0 (σ 0) (F_i_NewMachine (σ 0)) (F_i_Machine_step (σ 0)) (F_i_copyMachine (σ 0)) (F_i_BuildGraph_1 (σ 0)) n t) (B := fun σ g t => B_i_running__i_BuildGraph_1_L0b (σ 0) (F_i_NewMachine (σ 0)) (F_i_Machine_step (σ 0)) (F_i_copyMachine (σ 0)) (F_i_BuildGraph_1 (σ 0)) g t.1 t.2.2.1.2.2.2.1 t.2.2.2.1.1 t.2.2.2.1.2.1 t.2.2.2.1.2.2.1 t.2.2.2.1.2.2.2.1 t.2.2.2.2.1 t.2.2.2.2.2.1 t.2.2.2.2.2.2.1) (Q := fun t => Q t.1 t.2.2.1.2.2.2.1 t.2.2.2.1.1 t.2.2.2.1.2.1 t.2.2.2.1.2.2.1 t.2.2.2.1.2.2.2.1 t.2.2.2.2.1 t.2.2.2.2.2.1 t.2.2.2.2.2.2.1) 1 (by decide)
    (fun s s' h => by have e0 : s 0 = s' 0 := h 0 (by decide); simp only [e0]) (fun s s' h => by have e0 : s 0 = s' 0 := h 0 (by decide); simp only [e0]) (fun _ _ _ => rfl) (fun t => I t.1 t.2.2.1.2.2.2.1 t.2.2.2.1.1 t.2.2.2.1.2.1 t.2.2.2.1.2.2.1 t.2.2.2.1.2.2.2.1 t.2.2.2.2.1 t.2.2.2.2.2.1 t.2.2.2.2.2.2.1) (fun t => μ t.1 t.2.2.1.2.2.2.1 t.2.2.2.1.1 t.2.2.2.1.2.1 t.2.2.2.1.2.2.1 t.2.2.2.1.2.2.2.1 t.2.2.2.2.1 t.2.2.2.2.2.1 t.2.2.2.2.2.2.1)
    (fun t ht again hag h => step t.1 t.2.2.1.2.2.2.1 t.2.2.2.1.1 t.2.2.2.1.2.1 t.2.2.2.1.2.2.1 t.2.2.2.1.2.2.2.1 t.2.2.2.2.1 t.2.2.2.2.2.1 t.2.2.2.2.2.2.1 ht again hag (fun y0 y1 y2 y3 y4 y5 y6 y7 y8 hI hm => h (y0, (), ((), (), (), y1, ()), (y2, y3, y4, y5, ()), y6, y7, y8, ()) hI hm)) (ops, (), ((), (), (), t4_Done, ()), (m_Nodes, m_Stack, m_Memo, m_Done, ()), t10, t11, t12, ()) hI
def B_i_BuildGraph_J0 (k : Nat) (c_i_ValidOps : (List (Int × Int)) → Option ((Bool × Unit) × (Unit))) (c_i_running__i_BuildGraph_1 : (List (Int × Int)) → Option ((((List (Int × Int × List Int)) × List Int × List Int × Bool × Unit) × Int × Unit) × (Unit))) (t2_Root : Int) (m_Nodes : List (Int × Int × List Int)) (m_Stack : List Int) (m_Memo : List Int) (m_Done : Bool) (t23 : Bool) : Option ((((List (Int × Int × List Int)) × Int × Unit) × Bool × Unit) × (Unit)) :=
  bif t23 then
    some ((([], 0, ()), false, ()), ())
  else
    chk (inb 0 m_Stack.length) <|
    chk (decide ((0 : Int).toNat < m_Stack.length)) <|
    some (((m_Nodes, (m_Stack.getD ((0 : Int).toNat) (0 : Int)), ()), true, ()), ())
def B_i_BuildGraph (k : Nat) (c_i_ValidOps : (List (Int × Int)) → Option ((Bool × Unit) × (Unit))) (c_i_running__i_BuildGraph_1 : (List (Int × Int)) → Option ((((List (Int × Int × List Int)) × List Int × List Int × Bool × Unit) × Int × Unit) × (Unit))) (ops : List (Int × Int)) : Option ((((List (Int × Int × List Int)) × Int × Unit) × Bool × Unit) × (Unit)) :=
  (c_i_ValidOps ops).bind fun r7 =>
  bif (!r7.1.1) then
    some ((([], 0, ()), false, ()), ())
  else
    (c_i_running__i_BuildGraph_1 ops).bind fun r12 =>
    bif decide (r12.1.2.1 < (len ops)) then
      jn (fun t => B_i_BuildGraph_J0 k c_i_ValidOps c_i_running__i_BuildGraph_1 t.1.2.1 t.2.1.1 t.2.1.2.1 t.2.1.2.2.1 t.2.1.2.2.2.1 t.2.2.1) (((), 0, ()), (r12.1.1.1, r12.1.1.2.1, r12.1.1.2.2.1, r12.1.1.2.2.2.1, ()), true, ())
    else
      jn (fun t => B_i_BuildGraph_J0 k c_i_ValidOps c_i_running__i_BuildGraph_1 t.1.2.1 t.2.1.1 t.2.1.2.1 t.2.1.2.2.1 t.2.1.2.2.2.1 t.2.2.1) (((), 0, ()), (r12.1.1.1, r12.1.1.2.1, r12.1.1.2.2.1, r12.1.1.2.2.2.1, ()), (!r12.1.1.2.2.2.1), ())
def F_i_BuildGraph : Nat → (List (Int × Int)) → Option ((((List (Int × Int × List Int)) × Int × Unit) × Bool × Unit) × (Unit))
  | 0, _ => none
  | k + 1, ops => B_i_BuildGraph k (F_i_ValidOps k) (F_i_running__i_BuildGraph_1 k) ops
theorem F_i_BuildGraph_succ (k : Nat) (ops : List (Int × Int)) : F_i_BuildGraph (k + 1) ops = B_i_BuildGraph k (F_i_ValidOps k) (F_i_running__i_BuildGraph_1 k) ops := rfl
theorem tot_i_BuildGraph {ops : List (Int × Int)} {Q : (((((List (Int × Int × List Int)) × Int × Unit) × Bool × Unit) × (Unit))) → Prop} (h : Tot (fun σ => B_i_BuildGraph (σ 0) (F_i_ValidOps (σ 0)) (F_i_running__i_BuildGraph_1 (σ 0)) ops) Q) : Tot (fun σ => F_i_BuildGraph (σ 0) ops) Q :=
  Tot.call (F := fun k => F_i_BuildGraph k ops) (B := fun k => B_i_BuildGraph k (F_i_ValidOps k) (F_i_running__i_BuildGraph_1 k) ops) (fun k => F_i_BuildGraph_succ k ops) h
def B_s_newMachine_L0b (k : Nat) (again0 : ((Unit × Unit × Unit × Bool × Unit) × (Unit × Unit × List Int × Bool × Unit) × Int × Unit) → Option (((Unit × Unit × List Int × Bool × Unit) × Unit) × (Unit))) (t0_Done : Bool) (m_Memo : List Int) (m_Done : Bool) (i : Int) : Option (((Unit × Unit × List Int × Bool × Unit) × Unit) × (Unit)) :=
  bif decide (i < 20) then
    chk (room m_Memo.length ([(-1)]).length) <|
    again0 (((), (), (), t0_Done, ()), ((), (), (m_Memo ++ [(-1)]), m_Done, ()), w64 (i + 1), ())
  else
    some ((((), (), m_Memo, m_Done, ()), ()), ())
def B_s_newMachine_L0 (k : Nat) (n : Nat) (t : (Unit × Unit × Unit × Bool × Unit) × (Unit × Unit × List Int × Bool × Unit) × Int × Unit) : Option (((Unit × Unit × List Int × Bool × Unit) × Unit) × (Unit)) :=
  lfix n (fun again t => B_s_newMachine_L0b k again t.1.2.2.2.1 t.2.1.2.2.1 t.2.1.2.2.2.1 t.2.2.1) t
def B_s_newMachine (k : Nat) : Option (((Unit × Unit × List Int × Bool × Unit) × Unit) × (Unit)) :=
  B_s_newMachine_L0 k k (((), (), (), false, ()), ((), (), [], false, ()), 0, ())
def F_s_newMachine : Nat → Option (((Unit × Unit × List Int × Bool × Unit) × Unit) × (Unit))
  | 0 => none
  | k + 1 => B_s_newMachine k
theorem F_s_newMachine_succ (k : Nat) : F_s_newMachine (k + 1) = B_s_newMachine k := rfl
theorem tot_s_newMachine {Q : ((((Unit × Unit × List Int × Bool × Unit) × Unit) × (Unit))) → Prop} (h : Tot (fun σ => B_s_newMachine (σ 0)) Q) : Tot (fun σ => F_s_newMachine (σ 0)) Q :=
  Tot.call (F := fun k => F_s_newMachine k) (B := fun k => B_s_newMachine k) (fun k => F_s_newMachine_succ k) h
theorem loop_s_newMachine_L0 {Q : Bool → List Int → Bool → Int → (((Unit × Unit × List Int × Bool × Unit) × Unit) × (Unit)) → Prop} (I : Bool → List Int → Bool → Int → Prop) (μ : Bool → List Int → Bool → Int → Nat)
    (step : ∀ (t0_Done : Bool) (m_Memo : List Int) (m_Done : Bool) (i : Int), I t0_Done m_Memo m_Done i → ∀ again : (Nat → Nat) → ((Unit × Unit × Unit × Bool × Unit) × (Unit × Unit × List Int × Bool × Unit) × Int × Unit) → Option (((Unit × Unit × List Int × Bool × Unit) × Unit) × (Unit)), Dep 2 again → (∀ (y0 : Bool) (y1 : List Int) (y2 : Bool) (y3 : Int), I y0 y1 y2 y3 → μ y0 y1 y2 y3 < μ t0_Done m_Memo m_Done i → Tot (fun σ => again σ (((), (), (), y0, ()), ((), (), y1, y2, ()), y3, ())) (Q y0 y1 y2 y3)) →
      Tot (fun σ => B_s_newMachine_L0b (σ 0) (again σ) t0_Done m_Memo m_Done i) (Q t0_Done m_Memo m_Done i)) :
    ∀ (t0_Done : Bool) (m_Memo : List Int) (m_Done : Bool) (i : Int), I t0_Done m_Memo m_Done i → Tot (fun σ => B_s_newMachine_L0 (σ 0) (σ 0) (((), (), (), t0_Done, ()), ((), (), m_Memo, m_Done, ()), i, ())) (Q t0_Done m_Memo m_Done i) := fun t0_Done m_Memo m_Done i hI =>
  Tot.loop (L := fun σ n t => B_s_newMachine_L0 (σ 0) n t) (B := fun σ g t => B_s_newMachine_L0b (σ 0) g t.1.2.2.2.1 t.2.1.2.2.1 t.2.1.2.2.2.1 t.2.2.1) (Q := fun t => Q t.1.2.2.2.1 t.2.1.2.2.1 t.2.1.2.2.2.1 t.2.2.1) 1 (by decide)
    (fun s s' h => by have e0 : s 0 = s' 0 := h 0 (by decide); simp only [e0]) (fun s s' h => by have e0 : s 0 = s' 0 := h 0 (by decide); simp only [e0]) (fun _ _ _ => rfl) (fun t => I t.1.2.2.2.1 t.2.1.2.2.1 t.2.1.2.2.2.1 t.2.2.1) (fun t => μ t.1.2.2.2.1 t.2.1.2.2.1 t.2.1.2.2.2.1 t.2.2.1)
    (fun t ht again hag h => step t.1.2.2.2.1 t.2.1.2.2.1 t.2.1.2.2.2.1 t.2.2.1 ht again hag (fun y0 y1 y2 y3 hI hm => h (((), (), (), y0, ()), ((), (), y1, y2, ()), y3, ()) hI hm)) (((), (), (), t0_Done, ()), ((), (), m_Memo, m_Done, ()), i, ()) hI
def B_s_copyMachine_L0b (k : Nat) (c_s_copyInts : List Int → Option ((List Int × Unit) × (Unit))) (again0 : (((List (Int × Int × List Int)) × List Int × List Int × Bool × Unit) × (Unit × Unit × Unit × Bool × Unit) × ((List (Int × Int × List Int)) × List Int × List Int × Bool × Unit) × Int × Unit) → Option ((((List (Int × Int × List Int)) × List Int × List Int × Bool × Unit) × Unit) × (Unit))) (m_Nodes : List (Int × Int × List Int)) (m_Stack : List Int) (m_Memo : List Int) (m_Done : Bool) (t2_Done : Bool) (out_Nodes : List (Int × Int × List Int)) (out_Stack : List Int) (out_Memo : List Int) (out_Done : Bool) (i : Int) : Option ((((List (Int × Int × List Int)) × List Int × List Int × Bool × Unit) × Unit) × (Unit)) :=
  bif decide (i < (len m_Nodes)) then
    chk (inb i m_Nodes.length) <|
    chk (inb i m_Nodes.length) <|
    chk (inb i m_Nodes.length) <|
    (c_s_copyInts (((rdx ((0 : Int), ((0 : Int), ([] : List Int))) m_Nodes i).2).2)).bind fun r41 =>
    chk (room out_Nodes.length ([((rdx ((0 : Int), ((0 : Int), ([] : List Int))) m_Nodes i).1, (((rdx ((0 : Int), ((0 : Int), ([] : List Int))) m_Nodes i).2).1, r41.1.1))]).length) <|
    again0 ((m_Nodes, m_Stack, m_Memo, m_Done, ()), ((), (), (), t2_Done, ()), ((out_Nodes ++ [((rdx ((0 : Int), ((0 : Int), ([] : List Int))) m_Nodes i).1, (((rdx ((0 : Int), ((0 : Int), ([] : List Int))) m_Nodes i).2).1, r41.1.1))]), out_Stack, out_Memo, out_Done, ()), w64 (i + 1), ())
  else
    some (((out_Nodes, out_Stack, out_Memo, out_Done, ()), ()), ())
def B_s_copyMachine_L0 (k : Nat) (c_s_copyInts : List Int → Option ((List Int × Unit) × (Unit))) (n : Nat) (t : ((List (Int × Int × List Int)) × List Int × List Int × Bool × Unit) × (Unit × Unit × Unit × Bool × Unit) × ((List (Int × Int × List Int)) × List Int × List Int × Bool × Unit) × Int × Unit) : Option ((((List (Int × Int × List Int)) × List Int × List Int × Bool × Unit) × Unit) × (Unit)) :=
  lfix n (fun again t => B_s_copyMachine_L0b k c_s_copyInts again t.1.1 t.1.2.1 t.1.2.2.1 t.1.2.2.2.1 t.2.1.2.2.2.1 t.2.2.1.1 t.2.2.1.2.1 t.2.2.1.2.2.1 t.2.2.1.2.2.2.1 t.2.2.2.1) t
def B_s_copyMachine (k : Nat) (c_s_copyInts : List Int → Option ((List Int × Unit) × (Unit))) (m_0 : List (Int × Int × List Int)) (m_1 : List Int) (m_2 : List Int) (m_3 : Bool) : Option ((((List (Int × Int × List Int)) × List Int × List Int × Bool × Unit) × Unit) × (Unit)) :=
  (c_s_copyInts m_1).bind fun r7 =>
  (c_s_copyInts m_2).bind fun r10 =>
  B_s_copyMachine_L0 k c_s_copyInts k ((m_0, m_1, m_2, m_3, ()), ((), (), (), false, ()), ([], r7.1.1, r10.1.1, m_3, ()), 0, ())
def F_s_copyMachine : Nat → (List (Int × Int × List Int)) → List Int → List Int → Bool → Option ((((List (Int × Int × List Int)) × List Int × List Int × Bool × Unit) × Unit) × (Unit))
  | 0, _, _, _, _ => none
  | k + 1, m_0, m_1, m_2, m_3 => B_s_copyMachine k (F_s_copyInts k) m_0 m_1 m_2 m_3
theorem F_s_copyMachine_succ (k : Nat) (m_0 : List (Int × Int × List Int)) (m_1 : List Int) (m_2 : List Int) (m_3 : Bool) : F_s_copyMachine (k + 1) m_0 m_1 m_2 m_3 = B_s_copyMachine k (F_s_copyInts k) m_0 m_1 m_2 m_3 := rfl
theorem tot_s_copyMachine {m_0 : List (Int × Int × List Int)} {m_1 : List Int} {m_2 : List Int} {m_3 : Bool} {Q : (((((List (Int × Int × List Int)) × List Int × List Int × Bool × Unit) × Unit) × (Unit))) → Prop} (h : Tot (fun σ => B_s_copyMachine (σ 0) (F_s_copyInts (σ 0)) m_0 m_1 m_2 m_3) Q) : Tot (fun σ => F_s_copyMachine (σ 0) m_0 m_1 m_2 m_3) Q :=
  Tot.call (F := fun k => F_s_copyMachine k m_0 m_1 m_2 m_3) (B := fun k => B_s_copyMachine k (F_s_copyInts k) m_0 m_1 m_2 m_3) (fun k => F_s_copyMachine_succ k m_0 m_1 m_2 m_3) h
theorem loop_s_copyMachine_L0 {Q : (List (Int × Int × List Int)) → List Int → List Int → Bool → Bool → (List (Int × Int × List Int)) → List Int → List Int → Bool → Int → ((((List (Int × Int × List Int)) × List Int × List Int × Bool × Unit) × Unit) × (Unit)) → Prop} (I : (List (Int × Int × List Int)) → List Int → List Int → Bool → Bool → (List (Int × Int × List Int)) → List Int → List Int → Bool → Int → Prop) (μ : (List (Int × Int × List Int)) → List Int → List Int → Bool → Bool → (List (Int × Int × List Int)) → List Int → List Int → Bool → Int → Nat)
    (step : ∀ (m_Nodes : List (Int × Int × List Int)) (m_Stack : List Int) (m_Memo : List Int) (m_Done : Bool) (t2_Done : Bool) (out_Nodes : List (Int × Int × List Int)) (out_Stack : List Int) (out_Memo : List Int) (out_Done : Bool) (i : Int), I m_Nodes m_Stack m_Memo m_Done t2_Done out_Nodes out_Stack out_Memo out_Done i → ∀ again : (Nat → Nat) → (((List (Int × Int × List Int)) × List Int × List Int × Bool × Unit) × (Unit × Unit × Unit × Bool × Unit) × ((List (Int × Int × List Int)) × List Int × List Int × Bool × Unit) × Int × Unit) → Option ((((List (Int × Int × List Int)) × List Int × List Int × Bool × Unit) × Unit) × (Unit)), Dep 2 again → (∀ (y0 : List (Int × Int × List Int)) (y1 : List Int) (y2 : List Int) (y3 : Bool) (y4 : Bool) (y5 : List (Int × Int × List Int)) (y6 : List Int) (y7 : List Int) (y8 : Bool) (y9 : Int), I y0 y1 y2 y3 y4 y5 y6 y7 y8 y9 → μ y0 y1 y2 y3 y4 y5 y6 y7 y8 y9 < μ m_Nodes m_Stack m_Memo m_Done t2_Done out_Nodes out_Stack out_Memo out_Done i → Tot (fun σ => again σ ((y0, y1, y2, y3, ()), ((), (), (), y4, ()), (y5, y6, y7, y8, ()), y9, ())) (Q y0 y1 y2 y3 y4 y5 y6 y7 y8 y9)) →
      Tot (fun σ => B_s_copyMachine_L0b (σ 0) (F_s_copyInts (σ 0)) (again σ) m_Nodes m_Stack m_Memo m_Done t2_Done out_Nodes out_Stack out_Memo out_Done i) (Q m_Nodes m_Stack m_Memo m_Done t2_Done out_Nodes out_Stack out_Memo out_Done i)) :
    ∀ (m_Nodes : List (Int × Int × List Int)) (m_Stack : List Int) (m_Memo : List Int) (m_Done : Bool) (t2_Done : Bool) (out_Nodes : List (Int × Int × List Int)) (out_Stack : List Int) (out_Memo : List Int) (out_Done : Bool) (i : Int), I m_Nodes m_Stack m_Memo m_Done t2_Done out_Nodes out_Stack out_Memo out_Done i → Tot (fun σ => B_s_copyMachine_L0 (σ 0) (F_s_copyInts (σ 0)) (σ 0) ((m_Nodes, m_Stack, m_Memo, m_Done, ()), ((), (), (), t2_Done, ()), (out_Nodes, out_Stack, out_Memo, out_Done, ()), i, ())) (Q m_Nodes m_Stack m_Memo m_Done t2_Done out_Nodes out_Stack out_Memo out_Done i) := fun m_Nodes m_Stack m_Memo m_Done t2_Done out_Nodes out_Stack out_Memo out_Done i hI =>
  Tot.loop (L := fun σ n t => B_s_copyMachine_L0 (σ 0) (F_s_copyInts (σ 0)) n t) (B := fun σ g t => B_s_copyMachine_L0b (σ 0) (F_s_copyInts (σ 0)) g t.1.1 t.1.2.1 t.1.2.2.1 t.1.2.2.2.1 t.2.1.2.2.2.1 t.2.2.1.1 t.2.2.1.2.1 t.2.2.1.2.2.1 t.2.2.1.2.2.2.1 t.2.2.2.1) (Q := fun t => Q t.1.1 t.1.2.1 t.1.2.2.1 t.1.2.2.2.1 t.2.1.2.2.2.1 t.2.2.1.1 t.2.2.1.2.1 t.2.2.1.2.2.1 t.2.2.1.2.2.2.1 t.2.2.2.1) 1 (by decide)
    (fun s s' h => by have e0 : s 0 = s' 0 := h 0 (by decide); simp only [e0]) (fun s s' h => by have e0 : s 0 = s' 0 := h 0 (by decide); simp only [e0]) (fun _ _ _ => rfl) (fun t => I t.1.1 t.1.2.1 t.1.2.2.1 t.1.2.2.2.1 t.2.1.2.2.2.1 t.2.2.1.1 t.2.2.1.2.1 t.2.2.1.2.2.1 t.2.2.1.2.2.2.1 t.2.2.2.1) (fun t => μ t.1.1 t.1.2.1 t.1.2.2.1 t.1.2.2.2.1 t.2.1.2.2.2.1 t.2.2.1.1 t.2.2.1.2.1 t.2.2.1.2.2.1 t.2.2.1.2.2.2.1 t.2.2.2.1)
    (fun t ht again hag h => step t.1.1 t.1.2.1 t.1.2.2.1 t.1.2.2.2.1 t.2.1.2.2.2.1 t.2.2.1.1 t.2.2.1.2.1 t.2.2.1.2.2.1 t.2.2.1.2.2.2.1 t.2.2.2.1 ht again hag (fun y0 y1 y2 y3 y4 y5 y6 y7 y8 y9 hI hm => h ((y0, y1, y2, y3, ()), ((), (), (), y4, ()), (y5, y6, y7, y8, ()), y9, ()) hI hm)) ((m_Nodes, m_Stack, m_Memo, m_Done, ()), ((), (), (), t2_Done, ()), (out_Nodes, out_Stack, out_Memo, out_Done, ()), i, ()) hI
def B_s_push (k : Nat) (m_0 : List (Int × Int × List Int)) (m_1 : List Int) (m_2 : List Int) (m_3 : Bool) (n_0 : Int) (n_1 : Int) (n_2 : List Int) : Option ((((List (Int × Int × List Int)) × List Int × List Int × Bool × Unit) × Unit) × (Unit)) :=
  chk (room m_0.length ([(n_0, (n_1, n_2))]).length) <|
  chk (room m_1.length ([w64 ((len (m_0 ++ [(n_0, (n_1, n_2))])) - 1)]).length) <|
  some ((((m_0 ++ [(n_0, (n_1, n_2))]), (m_1 ++ [w64 ((len (m_0 ++ [(n_0, (n_1, n_2))])) - 1)]), m_2, m_3, ()), ()), ())
def F_s_push : Nat → (List (Int × Int × List Int)) → List Int → List Int → Bool → Int → Int → List Int → Option ((((List (Int × Int × List Int)) × List Int × List Int × Bool × Unit) × Unit) × (Unit))
  | 0, _, _, _, _, _, _, _ => none
  | k + 1, m_0, m_1, m_2, m_3, n_0, n_1, n_2 => B_s_push k m_0 m_1 m_2 m_3 n_0 n_1 n_2
theorem F_s_push_succ (k : Nat) (m_0 : List (Int × Int × List Int)) (m_1 : List Int) (m_2 : List Int) (m_3 : Bool) (n_0 : Int) (n_1 : Int) (n_2 : List Int) : F_s_push (k + 1) m_0 m_1 m_2 m_3 n_0 n_1 n_2 = B_s_push k m_0 m_1 m_2 m_3 n_0 n_1 n_2 := rfl
theorem tot_s_push {m_0 : List (Int × Int × List Int)} {m_1 : List Int} {m_2 : List Int} {m_3 : Bool} {n_0 : Int} {n_1 : Int} {n_2 : List Int} {Q : (((((List (Int × Int × List Int)) × List Int × List Int × Bool × Unit) × Unit) × (Unit))) → Prop} (h : Tot (fun σ => B_s_push (σ 0) m_0 m_1 m_2 m_3 n_0 n_1 n_2) Q) : Tot (fun σ => F_s_push (σ 0) m_0 m_1 m_2 m_3 n_0 n_1 n_2) Q :=
  Tot.call (F := fun k => F_s_push k m_0 m_1 m_2 m_3 n_0 n_1 n_2) (B := fun k => B_s_push k m_0 m_1 m_2 m_3 n_0 n_1 n_2) (fun k => F_s_push_succ k m_0 m_1 m_2 m_3 n_0 n_1 n_2) h
def B_s_markAt_L0b (k : Nat) (again0 : (((List (Int × Int × List Int)) × List Int × List Int × Bool × Unit) × Int × Unit) → Option ((Int × Unit) × (Unit))) (m_Nodes : List (Int × Int × List Int)) (m_Stack : List Int) (m_Memo : List Int) (m_Done : Bool) (i : Int) : Option ((Int × Unit) × (Unit)) :=
  bif decide (i ≥ 0) then
    chk (inb i m_Stack.length) <|
    bif decide ((rdx (0 : Int) m_Stack i) < 0) then
      some ((i, ()), ())
    else
      again0 ((m_Nodes, m_Stack, m_Memo, m_Done, ()), w64 (i - 1), ())
  else
    some (((-1), ()), ())
def B_s_markAt_L0 (k : Nat) (n : Nat) (t : ((List (Int × Int × List Int)) × List Int × List Int × Bool × Unit) × Int × Unit) : Option ((Int × Unit) × (Unit)) :=
  lfix n (fun again t => B_s_markAt_L0b k again t.1.1 t.1.2.1 t.1.2.2.1 t.1.2.2.2.1 t.2.1) t
def B_s_markAt (k : Nat) (m_0 : List (Int × Int × List Int)) (m_1 : List Int) (m_2 : List Int) (m_3 : Bool) : Option ((Int × Unit) × (Unit)) :=
  B_s_markAt_L0 k k ((m_0, m_1, m_2, m_3, ()), w64 ((len m_1) - 1), ())
def F_s_markAt : Nat → (List (Int × Int × List Int)) → List Int → List Int → Bool → Option ((Int × Unit) × (Unit))
  | 0, _, _, _, _ => none
  | k + 1, m_0, m_1, m_2, m_3 => B_s_markAt k m_0 m_1 m_2 m_3
theorem F_s_markAt_succ (k : Nat) (m_0 : List (Int × Int × List Int)) (m_1 : List Int) (m_2 : List Int) (m_3 : Bool) : F_s_markAt (k + 1) m_0 m_1 m_2 m_3 = B_s_markAt k m_0 m_1 m_2 m_3 := rfl
theorem tot_s_markAt {m_0 : List (Int × Int × List Int)} {m_1 : List Int} {m_2 : List Int} {m_3 : Bool} {Q : (((Int × Unit) × (Unit))) → Prop} (h : Tot (fun σ => B_s_markAt (σ 0) m_0 m_1 m_2 m_3) Q) : Tot (fun σ => F_s_markAt (σ 0) m_0 m_1 m_2 m_3) Q :=
  Tot.call (F := fun k => F_s_markAt k m_0 m_1 m_2 m_3) (B := fun k => B_s_markAt k m_0 m_1 m_2 m_3) (fun k => F_s_markAt_succ k m_0 m_1 m_2 m_3) h
theorem loop_s_markAt_L0 {Q : (List (Int × Int × List Int)) → List Int → List Int → Bool → Int → ((Int × Unit) × (Unit)) → Prop} (I : (List (Int × Int × List Int)) → List Int → List Int → Bool → Int → Prop) (μ : (List (Int × Int × List Int)) → List Int → List Int → Bool → Int → Nat)
    (step : ∀ (m_Nodes : List (Int × Int × List Int)) (m_Stack : List Int) (m_Memo : List Int) (m_Done : Bool) (i : Int), I m_Nodes m_Stack m_Memo m_Done i → ∀ again : (Nat → Nat) → (((List (Int × Int × List Int)) × List Int × List Int × Bool × Unit) × Int × Unit) → Option ((Int × Unit) × (Unit)), Dep 2 again → (∀ (y0 : List (Int × Int × List Int)) (y1 : List Int) (y2 : List Int) (y3 : Bool) (y4 : Int), I y0 y1 y2 y3 y4 → μ y0 y1 y2 y3 y4 < μ m_Nodes m_Stack m_Memo m_Done i → Tot (fun σ => again σ ((y0, y1, y2, y3, ()), y4, ())) (Q y0 y1 y2 y3 y4)) →
      Tot (fun σ => B_s_markAt_L0b (σ 0) (again σ) m_Nodes m_Stack m_Memo m_Done i) (Q m_Nodes m_Stack m_Memo m_Done i)) :
    ∀ (m_Nodes : List (Int × Int × List Int)) (m_Stack : List Int) (m_Memo : List Int) (m_Done : Bool) (i : Int), I m_Nodes m_Stack m_Memo m_Done i → Tot (fun σ => B_s_markAt_L0 (σ 0) (σ 0) ((m_Nodes, m_Stack, m_Memo, m_Done, ()), i, ())) (Q m_Nodes m_Stack m_Memo m_Done i) := fun m_Nodes m_Stack m_Memo m_Done i hI =>
  Tot.loop (L := fun σ n t => B_s_markAt_L0 (σ 0) n t) (B := fun σ g t => B_s_markAt_L0b (σ 0) g t.1.1 t.1.2.1 t.1.2.2.1 t.1.2.2.2.1 t.2.1) (Q := fun t => Q t.1.1 t.1.2.1 t.1.2.2.1 t.1.2.2.2.1 t.2.1) 1 (by decide)
    (fun s s' h => by have e0 : s 0 = s' 0 := h 0 (by decide); simp only [e0]) (fun s s' h => by have e0 : s 0 = s' 0 := h 0 (by decide); simp only [e0]) (fun _ _ _ => rfl) (fun t => I t.1.1 t.1.2.1 t.1.2.2.1 t.1.2.2.2.1 t.2.1) (fun t => μ t.1.1 t.1.2.1 t.1.2.2.1 t.1.2.2.2.1 t.2.1)
    (fun t ht again hag h => step t.1.1 t.1.2.1 t.1.2.2.1 t.1.2.2.2.1 t.2.1 ht again hag (fun y0 y1 y2 y3 y4 hI hm => h ((y0, y1, y2, y3, ()), y4, ()) hI hm)) ((m_Nodes, m_Stack, m_Memo, m_Done, ()), i, ()) hI
def B_s_drop (k : Nat) (m_0 : List (Int × Int × List Int)) (m_1 : List Int) (m_2 : List Int) (m_3 : Bool) (many : Int) : Option ((((List (Int × Int × List Int)) × List Int × List Int × Bool × Unit) × Unit) × (Unit)) :=
  chk (cutb 0 (w64 ((len m_1) - many)) m_1.length) <|
  some (((m_0, (m_1.take ((w64 ((len m_1) - many)).toNat)), m_2, m_3, ()), ()), ())
def F_s_drop : Nat → (List (Int × Int × List Int)) → List Int → List Int → Bool → Int → Option ((((List (Int × Int × List Int)) × List Int × List Int × Bool × Unit) × Unit) × (Unit))
  | 0, _, _, _, _, _ => none
  | k + 1, m_0, m_1, m_2, m_3, many => B_s_drop k m_0 m_1 m_2 m_3 many
theorem F_s_drop_succ (k : Nat) (m_0 : List (Int × Int × List Int)) (m_1 : List Int) (m_2 : List Int) (m_3 : Bool) (many : Int) : F_s_drop (k + 1) m_0 m_1 m_2 m_3 many = B_s_drop k m_0 m_1 m_2 m_3 many := rfl
theorem tot_s_drop {m_0 : List (Int × Int × List Int)} {m_1 : List Int} {m_2 : List Int} {m_3 : Bool} {many : Int} {Q : (((((List (Int × Int × List Int)) × List Int × List Int × Bool × Unit) × Unit) × (Unit))) → Prop} (h : Tot (fun σ => B_s_drop (σ 0) m_0 m_1 m_2 m_3 many) Q) : Tot (fun σ => F_s_drop (σ 0) m_0 m_1 m_2 m_3 many) Q :=
  Tot.call (F := fun k => F_s_drop k m_0 m_1 m_2 m_3 many) (B := fun k => B_s_drop k m_0 m_1 m_2 m_3 many) (fun k => F_s_drop_succ k m_0 m_1 m_2 m_3 many) h
def B_s_top (k : Nat) (m_0 : List (Int × Int × List Int)) (m_1 : List Int) (m_2 : List Int) (m_3 : Bool) (deep : Int) : Option ((Int × Unit) × (Unit)) :=
  bif decide ((w64 ((w64 ((len m_1) - 1)) - deep)) < 0) then
    some (((-1), ()), ())
  else
    chk (inb (w64 ((w64 ((len m_1) - 1)) - deep)) m_1.length) <|
    some (((rdx (0 : Int) m_1 (w64 ((w64 ((len m_1) - 1)) - deep))), ()), ())
def F_s_top : Nat → (List (Int × Int × List Int)) → List Int → List Int → Bool → Int → Option ((Int × Unit) × (Unit))
  | 0, _, _, _, _, _ => none
  | k + 1, m_0, m_1, m_2, m_3, deep => B_s_top k m_0 m_1 m_2 m_3 deep
theorem F_s_top_succ (k : Nat) (m_0 : List (Int × Int × List Int)) (m_1 : List Int) (m_2 : List Int) (m_3 : Bool) (deep : Int) : F_s_top (k + 1) m_0 m_1 m_2 m_3 deep = B_s_top k m_0 m_1 m_2 m_3 deep := rfl
theorem tot_s_top {m_0 : List (Int × Int × List Int)} {m_1 : List Int} {m_2 : List Int} {m_3 : Bool} {deep : Int} {Q : (((Int × Unit) × (Unit))) → Prop} (h : Tot (fun σ => B_s_top (σ 0) m_0 m_1 m_2 m_3 deep) Q) : Tot (fun σ => F_s_top (σ 0) m_0 m_1 m_2 m_3 deep) Q :=
  Tot.call (F := fun k => F_s_top k m_0 m_1 m_2 m_3 deep) (B := fun k => B_s_top k m_0 m_1 m_2 m_3 deep) (fun k => F_s_top_succ k m_0 m_1 m_2 m_3 deep) h
def B_s_kindOf (k : Nat) (m_0 : List (Int × Int × List Int)) (m_1 : List Int) (m_2 : List Int) (m_3 : Bool) (at1 : Int) : Option ((Int × Unit) × (Unit)) :=
  bif decide (at1 < 0) then
    some (((-1), ()), ())
  else
    chk (inb at1 m_0.length) <|
    some (((rdx ((0 : Int), ((0 : Int), ([] : List Int))) m_0 at1).1, ()), ())
def F_s_kindOf : Nat → (List (Int × Int × List Int)) → List Int → List Int → Bool → Int → Option ((Int × Unit) × (Unit))
  | 0, _, _, _, _, _ => none
  | k + 1, m_0, m_1, m_2, m_3, at1 => B_s_kindOf k m_0 m_1 m_2 m_3 at1
theorem F_s_kindOf_succ (k : Nat) (m_0 : List (Int × Int × List Int)) (m_1 : List Int) (m_2 : List Int) (m_3 : Bool) (at1 : Int) : F_s_kindOf (k + 1) m_0 m_1 m_2 m_3 at1 = B_s_kindOf k m_0 m_1 m_2 m_3 at1 := rfl
theorem tot_s_kindOf {m_0 : List (Int × Int × List Int)} {m_1 : List Int} {m_2 : List Int} {m_3 : Bool} {at1 : Int} {Q : (((Int × Unit) × (Unit))) → Prop} (h : Tot (fun σ => B_s_kindOf (σ 0) m_0 m_1 m_2 m_3 at1) Q) : Tot (fun σ => F_s_kindOf (σ 0) m_0 m_1 m_2 m_3 at1) Q :=
  Tot.call (F := fun k => F_s_kindOf k m_0 m_1 m_2 m_3 at1) (B := fun k => B_s_kindOf k m_0 m_1 m_2 m_3 at1) (fun k => F_s_kindOf_succ k m_0 m_1 m_2 m_3 at1) h
def B_s_goodKeys_L0b (k : Nat) (c_s_isKey : Int → Int → Option ((Bool × Unit) × (Unit))) (again0 : (List Int × ((List (Int × Int × List Int)) × List Int × List Int × Bool × Unit) × Int × Unit) → Option ((Bool × Unit) × (Unit))) (list : List Int) (m_Nodes : List (Int × Int × List Int)) (m_Stack : List Int) (m_Memo : List Int) (m_Done : Bool) (i : Int) : Option ((Bool × Unit) × (Unit)) :=
  bif decide (i < (len list)) then
    chk (inb i list.length) <|
    chk (inb (rdx (0 : Int) list i) m_Nodes.length) <|
    (c_s_isKey ((rdx ((0 : Int), ((0 : Int), ([] : List Int))) m_Nodes (rdx (0 : Int) list i)).1) (((rdx ((0 : Int), ((0 : Int), ([] : List Int))) m_Nodes (rdx (0 : Int) list i)).2).1)).bind fun r20 =>
    bif (!r20.1.1) then
      some ((false, ()), ())
    else
      again0 (list, (m_Nodes, m_Stack, m_Memo, m_Done, ()), w64 (i + 2), ())
  else
    some (((((len list).tmod 2) == 0), ()), ())
def B_s_goodKeys_L0 (k : Nat) (c_s_isKey : Int → Int → Option ((Bool × Unit) × (Unit))) (n : Nat) (t : List Int × ((List (Int × Int × List Int)) × List Int × List Int × Bool × Unit) × Int × Unit) : Option ((Bool × Unit) × (Unit)) :=
  lfix n (fun again t => B_s_goodKeys_L0b k c_s_isKey again t.1 t.2.1.1 t.2.1.2.1 t.2.1.2.2.1 t.2.1.2.2.2.1 t.2.2.1) t
def B_s_goodKeys (k : Nat) (c_s_isKey : Int → Int → Option ((Bool × Unit) × (Unit))) (m_0 : List (Int × Int × List Int)) (m_1 : List Int) (m_2 : List Int) (m_3 : Bool) (list : List Int) : Option ((Bool × Unit) × (Unit)) :=
  B_s_goodKeys_L0 k c_s_isKey k (list, (m_0, m_1, m_2, m_3, ()), 0, ())
def F_s_goodKeys : Nat → (List (Int × Int × List Int)) → List Int → List Int → Bool → List Int → Option ((Bool × Unit) × (Unit))
  | 0, _, _, _, _, _ => none
  | k + 1, m_0, m_1, m_2, m_3, list => B_s_goodKeys k (F_s_isKey k) m_0 m_1 m_2 m_3 list
theorem F_s_goodKeys_succ (k : Nat) (m_0 : List (Int × Int × List Int)) (m_1 : List Int) (m_2 : List Int) (m_3 : Bool) (list : List Int) : F_s_goodKeys (k + 1) m_0 m_1 m_2 m_3 list = B_s_goodKeys k (F_s_isKey k) m_0 m_1 m_2 m_3 list := rfl
theorem tot_s_goodKeys {m_0 : List (Int × Int × List Int)} {m_1 : List Int} {m_2 : List Int} {m_3 : Bool} {list : List Int} {Q : (((Bool × Unit) × (Unit))) → Prop} (h : Tot (fun σ => B_s_goodKeys (σ 0) (F_s_isKey (σ 0)) m_0 m_1 m_2 m_3 list) Q) : Tot (fun σ => F_s_goodKeys (σ 0) m_0 m_1 m_2 m_3 list) Q :=
  Tot.call (F := fun k => F_s_goodKeys k m_0 m_1 m_2 m_3 list) (B := fun k => B_s_goodKeys k (F_s_isKey k) m_0 m_1 m_2 m_3 list) (fun k => F_s_goodKeys_succ k m_0 m_1 m_2 m_3 list) h
theorem loop_s_goodKeys_L0 {Q : List Int → (List (Int × Int × List Int)) → List Int → List Int → Bool → Int → ((Bool × Unit) × (Unit)) → Prop} (I : List Int → (List (Int × Int × List Int)) → List Int → List Int → Bool → Int → Prop) (μ : List Int → (List (Int × Int × List Int)) → List Int → List Int → Bool → Int → Nat)
    (step : ∀ (list : List Int) (m_Nodes : List (Int × Int × List Int)) (m_Stack : List Int) (m_Memo : List Int) (m_Done : Bool) (i : Int), I list m_Nodes m_Stack m_Memo m_Done i → ∀ again : (Nat → Nat) → (List Int × ((List (Int × Int × List Int)) × List Int × List Int × Bool × Unit) × Int × Unit) → Option ((Bool × Unit) × (Unit)), Dep 2 again → (∀ (y0 : List Int) (y1 : List (Int × Int × List Int)) (y2 : List Int) (y3 : List Int) (y4 : Bool) (y5 : Int), I y0 y1 y2 y3 y4 y5 → μ y0 y1 y2 y3 y4 y5 < μ list m_Nodes m_Stack m_Memo m_Done i → Tot (fun σ => again σ (y0, (y1, y2, y3, y4, ()), y5, ())) (Q y0 y1 y2 y3 y4 y5)) →
      Tot (fun σ => B_s_goodKeys_L0b (σ 0) (F_s_isKey (σ 0)) (again σ) list m_Nodes m_Stack m_Memo m_Done i) (Q list m_Nodes m_Stack m_Memo m_Done i)) :
    ∀ (list : List Int) (m_Nodes : List (Int × Int × List Int)) (m_Stack : List Int) (m_Memo : List Int) (m_Done : Bool) (i : Int), I list m_Nodes m_Stack m_Memo m_Done i → Tot (fun σ => B_s_goodKeys_L0 (σ 0) (F_s_isKey (σ 0)) (σ 0) (list, (m_Nodes, m_Stack, m_Memo, m_Done, ()), i, ())) (Q list m_Nodes m_Stack m_Memo m_Done i) := fun list m_Nodes m_Stack m_Memo m_Done i hI =>
  Tot.loop (L := fun σ n t => B_s_goodKeys_L0 (σ 0) (F_s_isKey (σ 0)) n t) (B := fun σ g t => B_s_goodKeys_L0b (σ 0) (F_s_isKey (σ 0)) g t.1 t.2.1.1 t.2.1.2.1 t.2.1.2.2.1 t.2.1.2.2.2.1 t.2.2.1) (Q := fun t => Q t.1 t.2.1.1 t.2.1.2.1 t.2.1.2.2.1 t.2.1.2.2.2.1 t.2.2.1) 1 (by decide)
    (fun s s' h => by have e0 : s 0 = s' 0 := h 0 (by decide); simp only [e0]) (fun s s' h => by have e0 : s 0 = s' 0 := h 0 (by decide); simp only [e0]) (fun _ _ _ => rfl) (fun t => I t.1 t.2.1.1 t.2.1.2.1 t.2.1.2.2.1 t.2.1.2.2.2.1 t.2.2.1) (fun t => μ t.1 t.2.1.1 t.2.1.2.1 t.2.1.2.2.1 t.2.1.2.2.2.1 t.2.2.1)
    (fun t ht again hag h => step t.1 t.2.1.1 t.2.1.2.1 t.2.1.2.2.1 t.2.1.2.2.2.1 t.2.2.1 ht again hag (fun y0 y1 y2 y3 y4 y5 hI hm => h (y0, (y1, y2, y3, y4, ()), y5, ()) hI hm)) (list, (m_Nodes, m_Stack, m_Memo, m_Done, ()), i, ()) hI
def B_s_putItem_L0b (k : Nat) (c_s_sameKey : Int → Int → Int → Int → Option ((Bool × Unit) × (Unit))) (again0 : (Int × Int × Int × (Unit × Unit × Unit × Bool × Unit) × List Int × Int × ((List (Int × Int × List Int) × Nat) × List Int × List Int × Bool × Unit) × Unit) → Option ((((List (Int × Int × List Int)) × List Int × List Int × Bool × Unit) × Unit) × (Unit))) (dict : Int) (key : Int) (value : Int) (t8_Done : Bool) (kids : List Int) (i : Int) (m_Nodes : List (Int × Int × List Int) × Nat) (m_Stack : List Int) (m_Memo : List Int) (m_Done : Bool) : Option ((((List (Int × Int × List Int)) × List Int × List Int × Bool × Unit) × Unit) × (Unit)) :=
  bif decide (i < (len kids)) then
    chk (inb i kids.length) <|
    chk (decide (i.toNat < kids.length)) <|
    chk (inb (kids.getD i.toNat (0 : Int)) m_Nodes.1.length) <|
    chk (decide ((kids.getD i.toNat (0 : Int)).toNat < m_Nodes.1.length)) <|
    chk (inb key m_Nodes.1.length) <|
    chk (decide (key.toNat < m_Nodes.1.length)) <|
    (c_s_sameKey ((m_Nodes.1.getD ((kids.getD i.toNat (0 : Int)).toNat) ((0 : Int), ((0 : Int), ([] : List Int)))).1) (((m_Nodes.1.getD ((kids.getD i.toNat (0 : Int)).toNat) ((0 : Int), ((0 : Int), ([] : List Int)))).2).1) ((m_Nodes.1.getD key.toNat ((0 : Int), ((0 : Int), ([] : List Int)))).1) (((m_Nodes.1.getD key.toNat ((0 : Int), ((0 : Int), ([] : List Int)))).2).1)).bind fun r36 =>
    bif r36.1.1 then
      chk (inb (w64 (i + 1)) kids.length) <|
      chk (decide ((w64 (i + 1)).toNat < kids.length)) <|
      some ((((m_Nodes.1.set m_Nodes.2 ((m_Nodes.1.getD m_Nodes.2 ((0 : Int), ((0 : Int), ([] : List Int)))).1, (((m_Nodes.1.getD m_Nodes.2 ((0 : Int), ((0 : Int), ([] : List Int)))).2).1, (kids.set ((w64 (i + 1)).toNat) value)))), m_Stack, m_Memo, m_Done, ()), ()), ())
    else
      again0 (dict, key, value, ((), (), (), t8_Done, ()), kids, w64 (i + 2), ((m_Nodes.1, m_Nodes.2), m_Stack, m_Memo, m_Done, ()), ())
  else
    chk (room kids.length ([key, value]).length) <|
    chk (inb dict m_Nodes.1.length) <|
    chk (decide (dict.toNat = m_Nodes.2)) <|
    some ((((m_Nodes.1.set dict.toNat ((m_Nodes.1.getD dict.toNat ((0 : Int), ((0 : Int), ([] : List Int)))).1, (((m_Nodes.1.getD dict.toNat ((0 : Int), ((0 : Int), ([] : List Int)))).2).1, (kids ++ [key, value])))), m_Stack, m_Memo, m_Done, ()), ()), ())
def B_s_putItem_L0 (k : Nat) (c_s_sameKey : Int → Int → Int → Int → Option ((Bool × Unit) × (Unit))) (n : Nat) (t : Int × Int × Int × (Unit × Unit × Unit × Bool × Unit) × List Int × Int × ((List (Int × Int × List Int) × Nat) × List Int × List Int × Bool × Unit) × Unit) : Option ((((List (Int × Int × List Int)) × List Int × List Int × Bool × Unit) × Unit) × (Unit)) :=
  lfix n (fun again t => B_s_putItem_L0b k c_s_sameKey again t.1 t.2.1 t.2.2.1 t.2.2.2.1.2.2.2.1 t.2.2.2.2.1 t.2.2.2.2.2.1 t.2.2.2.2.2.2.1.1 t.2.2.2.2.2.2.1.2.1 t.2.2.2.2.2.2.1.2.2.1 t.2.2.2.2.2.2.1.2.2.2.1) t
def B_s_putItem (k : Nat) (c_s_sameKey : Int → Int → Int → Int → Option ((Bool × Unit) × (Unit))) (m_0 : List (Int × Int × List Int)) (m_1 : List Int) (m_2 : List Int) (m_3 : Bool) (dict : Int) (key : Int) (value : Int) : Option ((((List (Int × Int × List Int)) × List Int × List Int × Bool × Unit) × Unit) × (Unit)) :=
  chk (inb dict m_0.length) <|
  chk (decide (dict.toNat < m_0.length)) <|
  B_s_putItem_L0 k c_s_sameKey k (dict, key, value, ((), (), (), false, ()), ((m_0.getD dict.toNat ((0 : Int), ((0 : Int), ([] : List Int)))).2).2, 0, ((m_0, dict.toNat), m_1, m_2, m_3, ()), ())
def F_s_putItem : Nat → (List (Int × Int × List Int)) → List Int → List Int → Bool → Int → Int → Int → Option ((((List (Int × Int × List Int)) × List Int × List Int × Bool × Unit) × Unit) × (Unit))
  | 0, _, _, _, _, _, _, _ => none
  | k + 1, m_0, m_1, m_2, m_3, dict, key, value => B_s_putItem k (F_s_sameKey k) m_0 m_1 m_2 m_3 dict key value
theorem F_s_putItem_succ (k : Nat) (m_0 : List (Int × Int × List Int)) (m_1 : List Int) (m_2 : List Int) (m_3 : Bool) (dict : Int) (key : Int) (value : Int) : F_s_putItem (k + 1) m_0 m_1 m_2 m_3 dict key value = B_s_putItem k (F_s_sameKey k) m_0 m_1 m_2 m_3 dict key value := rfl
theorem tot_s_putItem {m_0 : List (Int × Int × List Int)} {m_1 : List Int} {m_2 : List Int} {m_3 : Bool} {dict : Int} {key : Int} {value : Int} {Q : (((((List (Int × Int × List Int)) × List Int × List Int × Bool × Unit) × Unit) × (Unit))) → Prop} (h : Tot (fun σ => B_s_putItem (σ 0) (F_s_sameKey (σ 0)) m_0 m_1 m_2 m_3 dict key value) Q) : Tot (fun σ => F_s_putItem (σ 0) m_0 m_1 m_2 m_3 dict key value) Q :=
  Tot.call (F := fun k => F_s_putItem k m_0 m_1 m_2 m_3 dict key value) (B := fun k => B_s_putItem k (F_s_sameKey k) m_0 m_1 m_2 m_3 dict key value) (fun k => F_s_putItem_succ k m_0 m_1 m_2 m_3 dict key value) h
theorem loop_s_putItem_L0 {Q : Int → Int → Int → Bool → List Int → Int → (List (Int × Int × List Int) × Nat) → List Int → List Int → Bool → ((((List (Int × Int × List Int)) × List Int × List Int × Bool × Unit) × Unit) × (Unit)) → Prop} (I : Int → Int → Int → Bool → List Int → Int → (List (Int × Int × List Int) × Nat) → List Int → List Int → Bool → Prop) (μ : Int → Int → Int → Bool → List Int → Int → (List (Int × Int × List Int) × Nat) → List Int → List Int → Bool → Nat)
    (step : ∀ (dict : Int) (key : Int) (value : Int) (t8_Done : Bool) (kids : List Int) (i : Int) (m_Nodes : List (Int × Int × List Int) × Nat) (m_Stack : List Int) (m_Memo : List Int) (m_Done : Bool), I dict key value t8_Done kids i m_Nodes m_Stack m_Memo m_Done → ∀ again : (Nat → Nat) → (Int × Int × Int × (Unit × Unit × Unit × Bool × Unit) × List Int × Int × ((List (Int × Int × List Int) × Nat) × List Int × List Int × Bool × Unit) × Unit) → Option ((((List (Int × Int × List Int)) × List Int × List Int × Bool × Unit) × Unit) × (Unit)), Dep 2 again → (∀ (y0 : Int) (y1 : Int) (y2 : Int) (y3 : Bool) (y4 : List Int) (y5 : Int) (y6 : List (Int × Int × List Int) × Nat) (y7 : List Int) (y8 : List Int) (y9 : Bool), I y0 y1 y2 y3 y4 y5 y6 y7 y8 y9 → μ y0 y1 y2 y3 y4 y5 y6 y7 y8 y9 < μ dict key value t8_Done kids i m_Nodes m_Stack m_Memo m_Done → Tot (fun σ => again σ (y0, y1, y2, ((), (), (), y3, ()), y4, y5, (y6, y7, y8, y9, ()), ())) (Q y0 y1 y2 y3 y4 y5 y6 y7 y8 y9)) →
      Tot (fun σ => B_s_putItem_L0b (σ 0) (F_s_sameKey (σ 0)) (again σ) dict key value t8_Done kids i m_Nodes m_Stack m_Memo m_Done) (Q dict key value t8_Done kids i m_Nodes m_Stack m_Memo m_Done)) :
    ∀ (dict : Int) (key : Int) (value : Int) (t8_Done : Bool) (kids : List Int) (i : Int) (m_Nodes : List (Int × Int × List Int) × Nat) (m_Stack : List Int) (m_Memo : List Int) (m_Done : Bool), I dict key value t8_Done kids i m_Nodes m_Stack m_Memo m_Done → Tot (fun σ => B_s_putItem_L0 (σ 0) (F_s_sameKey (σ 0)) (σ 0) (dict, key, value, ((), (), (), t8_Done, ()), kids, i, (m_Nodes, m_Stack, m_Memo, m_Done, ()), ())) (Q dict key value t8_Done kids i m_Nodes m_Stack m_Memo m_Done) := fun dict key value t8_Done kids i m_Nodes m_Stack m_Memo m_Done hI =>
  Tot.loop (L := fun σ n t => B_s_putItem_L0 (σ 0) (F_s_sameKey (σ 0)) n t) (B := fun σ g t => B_s_putItem_L0b (σ 0) (F_s_sameKey (σ 0)) g t.1 t.2.1 t.2.2.1 t.2.2.2.1.2.2.2.1 t.2.2.2.2.1 t.2.2.2.2.2.1 t.2.2.2.2.2.2.1.1 t.2.2.2.2.2.2.1.2.1 t.2.2.2.2.2.2.1.2.2.1 t.2.2.2.2.2.2.1.2.2.2.1) (Q := fun t => Q t.1 t.2.1 t.2.2.1 t.2.2.2.1.2.2.2.1 t.2.2.2.2.1 t.2.2.2.2.2.1 t.2.2.2.2.2.2.1.1 t.2.2.2.2.2.2.1.2.1 t.2.2.2.2.2.2.1.2.2.1 t.2.2.2.2.2.2.1.2.2.2.1) 1 (by decide)
    (fun s s' h => by have e0 : s 0 = s' 0 := h 0 (by decide); simp only [e0]) (fun s s' h => by have e0 : s 0 = s' 0 := h 0 (by decide); simp only [e0]) (fun _ _ _ => rfl) (fun t => I t.1 t.2.1 t.2.2.1 t.2.2.2.1.2.2.2.1 t.2.2.2.2.1 t.2.2.2.2.2.1 t.2.2.2.2.2.2.1.1 t.2.2.2.2.2.2.1.2.1 t.2.2.2.2.2.2.1.2.2.1 t.2.2.2.2.2.2.1.2.2.2.1) (fun t => μ t.1 t.2.1 t.2.2.1 t.2.2.2.1.2.2.2.1 t.2.2.2.2.1 t.2.2.2.2.2.1 t.2.2.2.2.2.2.1.1 t.2.2.2.2.2.2.1.2.1 t.2.2.2.2.2.2.1.2.2.1 t.2.2.2.2.2.2.1.2.2.2.1)
    (fun t ht again hag h => step t.1 t.2.1 t.2.2.1 t.2.2.2.1.2.2.2.1 t.2.2.2.2.1 t.2.2.2.2.2.1 t.2.2.2.2.2.2.1.1 t.2.2.2.2.2.2.1.2.1 t.2.2.2.2.2.2.1.2.2.1 t.2.2.2.2.2.2.1.2.2.2.1 ht again hag (fun y0 y1 y2 y3 y4 y5 y6 y7 y8 y9 hI hm => h (y0, y1, y2, ((), (), (), y3, ()), y4, y5, (y6, y7, y8, y9, ()), ()) hI hm)) (dict, key, value, ((), (), (), t8_Done, ()), kids, i, (m_Nodes, m_Stack, m_Memo, m_Done, ()), ()) hI
def B_s_stepMark_J2 (k : Nat) (c_s_markAt : (List (Int × Int × List Int)) → List Int → List Int → Bool → Option ((Int × Unit) × (Unit))) (c_s_copyInts : List Int → Option ((List Int × Unit) × (Unit))) (c_s_drop : (List (Int × Int × List Int)) → List Int → List Int → Bool → Int → Option ((((List (Int × Int × List Int)) × List Int × List Int × Bool × Unit) × Unit) × (Unit))) (c_s_top : (List (Int × Int × List Int)) → List Int → List Int → Bool → Int → Option ((Int × Unit) × (Unit))) (c_s_push : (List (Int × Int × List Int)) → List Int → List Int → Bool → Int → Int → List Int → Option ((((List (Int × Int × List Int)) × List Int × List Int × Bool × Unit) × Unit) × (Unit))) (c_s_kindOf : (List (Int × Int × List Int)) → List Int → List Int → Bool → Int → Option ((Int × Unit) × (Unit))) (c_s_goodKeys : (List (Int × Int × List Int)) → List Int → List Int → Bool → List Int → Option ((Bool × Unit) × (Unit))) (c_s_putItem : (List (Int × Int × List Int)) → List Int → List Int → Bool → Int → Int → Int → Option ((((List (Int × Int × List Int)) × List Int × List Int × Bool × Unit) × Unit) × (Unit))) (m_Nodes : List (Int × Int × List Int)) (m_Stack : List Int) (m_Memo : List Int) (m_Done : Bool) (t4_Done : Bool) : Option ((((List (Int × Int × List Int)) × List Int × List Int × Bool × Unit) × Bool × Unit) × (Unit)) :=
  some (((m_Nodes, m_Stack, m_Memo, m_Done, ()), true, ()), ())
def B_s_stepMark_L1b (k : Nat) (c_s_markAt : (List (Int × Int × List Int)) → List Int → List Int → Bool → Option ((Int × Unit) × (Unit))) (c_s_copyInts : List Int → Option ((List Int × Unit) × (Unit))) (c_s_drop : (List (Int × Int × List Int)) → List Int → List Int → Bool → Int → Option ((((List (Int × Int × List Int)) × List Int × List Int × Bool × Unit) × Unit) × (Unit))) (c_s_top : (List (Int × Int × List Int)) → List Int → List Int → Bool → Int → Option ((Int × Unit) × (Unit))) (c_s_push : (List (Int × Int × List Int)) → List Int → List Int → Bool → Int → Int → List Int → Option ((((List (Int × Int × List Int)) × List Int × List Int × Bool × Unit) × Unit) × (Unit))) (c_s_kindOf : (List (Int × Int × List Int)) → List Int → List Int → Bool → Int → Option ((Int × Unit) × (Unit))) (c_s_goodKeys : (List (Int × Int × List Int)) → List Int → List Int → Bool → List Int → Option ((Bool × Unit) × (Unit))) (c_s_putItem : (List (Int × Int × List Int)) → List Int → List Int → Bool → Int → Int → Int → Option ((((List (Int × Int × List Int)) × List Int × List Int × Bool × Unit) × Unit) × (Unit))) (again1 : (((List (Int × Int × List Int)) × List Int × List Int × Bool × Unit) × (Unit × Unit × Unit × Bool × Unit) × List Int × Int × Int × Unit) → Option ((((List (Int × Int × List Int)) × List Int × List Int × Bool × Unit) × Bool × Unit) × (Unit))) (m_Nodes : List (Int × Int × List Int)) (m_Stack : List Int) (m_Memo : List Int) (m_Done : Bool) (t4_Done : Bool) (list : List Int) (below : Int) (i : Int) : Option ((((List (Int × Int × List Int)) × List Int × List Int × Bool × Unit) × Bool × Unit) × (Unit)) :=
  bif decide (i < (len list)) then
    chk (inb i list.length) <|
    chk (decide (i.toNat < list.length)) <|
    chk (inb (w64 (i + 1)) list.length) <|
    chk (decide ((w64 (i + 1)).toNat < list.length)) <|
    (c_s_putItem m_Nodes m_Stack m_Memo m_Done below (list.getD i.toNat (0 : Int)) (list.getD ((w64 (i + 1)).toNat) (0 : Int))).bind fun r86 =>
    again1 ((r86.1.1.1, r86.1.1.2.1, r86.1.1.2.2.1, r86.1.1.2.2.2.1, ()), ((), (), (), t4_Done, ()), list, below, w64 (i + 2), ())
  else
    jn (fun t => B_s_stepMark_J2 k c_s_markAt c_s_copyInts c_s_drop c_s_top c_s_push c_s_kindOf c_s_goodKeys c_s_putItem t.1.1 t.1.2.1 t.1.2.2.1 t.1.2.2.2.1 t.2.1.2.2.2.1) ((m_Nodes, m_Stack, m_Memo, m_Done, ()), ((), (), (), t4_Done, ()), ())
def B_s_stepMark_L1 (k : Nat) (c_s_markAt : (List (Int × Int × List Int)) → List Int → List Int → Bool → Option ((Int × Unit) × (Unit))) (c_s_copyInts : List Int → Option ((List Int × Unit) × (Unit))) (c_s_drop : (List (Int × Int × List Int)) → List Int → List Int → Bool → Int → Option ((((List (Int × Int × List Int)) × List Int × List Int × Bool × Unit) × Unit) × (Unit))) (c_s_top : (List (Int × Int × List Int)) → List Int → List Int → Bool → Int → Option ((Int × Unit) × (Unit))) (c_s_push : (List (Int × Int × List Int)) → List Int → List Int → Bool → Int → Int → List Int → Option ((((List (Int × Int × List Int)) × List Int × List Int × Bool × Unit) × Unit) × (Unit))) (c_s_kindOf : (List (Int × Int × List Int)) → List Int → List Int → Bool → Int → Option ((Int × Unit) × (Unit))) (c_s_goodKeys : (List (Int × Int × List Int)) → List Int → List Int → Bool → List Int → Option ((Bool × Unit) × (Unit))) (c_s_putItem : (List (Int × Int × List Int)) → List Int → List Int → Bool → Int → Int → Int → Option ((((List (Int × Int × List Int)) × List Int × List Int × Bool × Unit) × Unit) × (Unit))) (n : Nat) (t : ((List (Int × Int × List Int)) × List Int × List Int × Bool × Unit) × (Unit × Unit × Unit × Bool × Unit) × List Int × Int × Int × Unit) : Option ((((List (Int × Int × List Int)) × List Int × List Int × Bool × Unit) × Bool × Unit) × (Unit)) :=
  lfix n (fun again t => B_s_stepMark_L1b k c_s_markAt c_s_copyInts c_s_drop c_s_top c_s_push c_s_kindOf c_s_goodKeys c_s_putItem again t.1.1 t.1.2.1 t.1.2.2.1 t.1.2.2.2.1 t.2.1.2.2.2.1 t.2.2.1 t.2.2.2.1 t.2.2.2.2.1) t
def B_s_stepMark_J0 (k : Nat) (c_s_markAt : (List (Int × Int × List Int)) → List Int → List Int → Bool → Option ((Int × Unit) × (Unit))) (c_s_copyInts : List Int → Option ((List Int × Unit) × (Unit))) (c_s_drop : (List (Int × Int × List Int)) → List Int → List Int → Bool → Int → Option ((((List (Int × Int × List Int)) × List Int × List Int × Bool × Unit) × Unit) × (Unit))) (c_s_top : (List (Int × Int × List Int)) → List Int → List Int → Bool → Int → Option ((Int × Unit) × (Unit))) (c_s_push : (List (Int × Int × List Int)) → List Int → List Int → Bool → Int → Int → List Int → Option ((((List (Int × Int × List Int)) × List Int × List Int × Bool × Unit) × Unit) × (Unit))) (c_s_kindOf : (List (Int × Int × List Int)) → List Int → List Int → Bool → Int → Option ((Int × Unit) × (Unit))) (c_s_goodKeys : (List (Int × Int × List Int)) → List Int → List Int → Bool → List Int → Option ((Bool × Unit) × (Unit))) (c_s_putItem : (List (Int × Int × List Int)) → List Int → List Int → Bool → Int → Int → Int → Option ((((List (Int × Int × List Int)) × List Int × List Int × Bool × Unit) × Unit) × (Unit))) (m_Nodes : List (Int × Int × List Int)) (m_Stack : List Int) (m_Memo : List Int) (m_Done : Bool) (t4_Done : Bool) (list : List Int) (below : Int) (t67 : Bool) : Option ((((List (Int × Int × List Int)) × List Int × List Int × Bool × Unit) × Bool × Unit) × (Unit)) :=
  bif t67 then
    some (((m_Nodes, m_Stack, m_Memo, m_Done, ()), false, ()), ())
  else
    B_s_stepMark_L1 k c_s_markAt c_s_copyInts c_s_drop c_s_top c_s_push c_s_kindOf c_s_goodKeys c_s_putItem k ((m_Nodes, m_Stack, m_Memo, m_Done, ()), ((), (), (), t4_Done, ()), list, below, 0, ())
def B_s_stepMark (k : Nat) (c_s_markAt : (List (Int × Int × List Int)) → List Int → List Int → Bool → Option ((Int × Unit) × (Unit))) (c_s_copyInts : List Int → Option ((List Int × Unit) × (Unit))) (c_s_drop : (List (Int × Int × List Int)) → List Int → List Int → Bool → Int → Option ((((List (Int × Int × List Int)) × List Int × List Int × Bool × Unit) × Unit) × (Unit))) (c_s_top : (List (Int × Int × List Int)) → List Int → List Int → Bool → Int → Option ((Int × Unit) × (Unit))) (c_s_push : (List (Int × Int × List Int)) → List Int → List Int → Bool → Int → Int → List Int → Option ((((List (Int × Int × List Int)) × List Int × List Int × Bool × Unit) × Unit) × (Unit))) (c_s_kindOf : (List (Int × Int × List Int)) → List Int → List Int → Bool → Int → Option ((Int × Unit) × (Unit))) (c_s_goodKeys : (List (Int × Int × List Int)) → List Int → List Int → Bool → List Int → Option ((Bool × Unit) × (Unit))) (c_s_putItem : (List (Int × Int × List Int)) → List Int → List Int → Bool → Int → Int → Int → Option ((((List (Int × Int × List Int)) × List Int × List Int × Bool × Unit) × Unit) × (Unit))) (m_0 : List (Int × Int × List Int)) (m_1 : List Int) (m_2 : List Int) (m_3 : Bool) (o_0 : Int) (o_1 : Int) : Option ((((List (Int × Int × List Int)) × List Int × List Int × Bool × Unit) × Bool × Unit) × (Unit)) :=
  (c_s_markAt m_0 m_1 m_2 m_3).bind fun r11 =>
  bif decide (r11.1.1 < 0) then
    some (((m_0, m_1, m_2, m_3, ()), false, ()), ())
  else
    chk (cutb (w64 (r11.1.1 + 1)) (len m_1) m_1.length) <|
    (c_s_copyInts ((m_1.take ((len m_1).toNat)).drop ((w64 (r11.1.1 + 1)).toNat))).bind fun r20 =>
    (c_s_drop m_0 m_1 m_2 m_3 (w64 ((len r20.1.1) + 1))).bind fun r25 =>
    (c_s_top r25.1.1.1 r25.1.1.2.1 r25.1.1.2.2.1 r25.1.1.2.2.2.1 0).bind fun r27 =>
    bif (o_0 == 3) then
      (c_s_push r25.1.1.1 r25.1.1.2.1 r25.1.1.2.2.1 r25.1.1.2.2.2.1 2 0 r20.1.1).bind fun r35 =>
      some (((r35.1.1.1, r35.1.1.2.1, r35.1.1.2.2.1, r35.1.1.2.2.2.1, ()), true, ()), ())
    else
      bif (o_0 == 9) then
        (c_s_kindOf r25.1.1.1 r25.1.1.2.1 r25.1.1.2.2.1 r25.1.1.2.2.2.1 r27.1.1).bind fun r40 =>
        bif (r40.1.1 != 3) then
          some (((r25.1.1.1, r25.1.1.2.1, r25.1.1.2.2.1, r25.1.1.2.2.2.1, ()), false, ()), ())
        else
          chk (inb r27.1.1 r25.1.1.1.length) <|
          chk (decide (r27.1.1.toNat < r25.1.1.1.length)) <|
          chk (room (((r25.1.1.1.getD r27.1.1.toNat ((0 : Int), ((0 : Int), ([] : List Int)))).2).2).length r20.1.1.length) <|
          chk (inb r27.1.1 r25.1.1.1.length) <|
          chk (decide (r27.1.1.toNat = r27.1.1.toNat)) <|
          let w1 : List (Int × Int × List Int) := (r25.1.1.1.set r27.1.1.toNat ((r25.1.1.1.getD r27.1.1.toNat ((0 : Int), ((0 : Int), ([] : List Int)))).1, (((r25.1.1.1.getD r27.1.1.toNat ((0 : Int), ((0 : Int), ([] : List Int)))).2).1, (((r25.1.1.1.getD r27.1.1.toNat ((0 : Int), ((0 : Int), ([] : List Int)))).2).2 ++ r20.1.1))))
          jn (fun t => B_s_stepMark_J2 k c_s_markAt c_s_copyInts c_s_drop c_s_top c_s_push c_s_kindOf c_s_goodKeys c_s_putItem t.1.1 t.1.2.1 t.1.2.2.1 t.1.2.2.2.1 t.2.1.2.2.2.1) ((w1, r25.1.1.2.1, r25.1.1.2.2.1, r25.1.1.2.2.2.1, ()), ((), (), (), false, ()), ())
      else
        bif (o_0 == 12) then
          (c_s_kindOf r25.1.1.1 r25.1.1.2.1 r25.1.1.2.2.1 r25.1.1.2.2.2.1 r27.1.1).bind fun r60 =>
          bif (r60.1.1 != 4) then
            jn (fun t => B_s_stepMark_J0 k c_s_markAt c_s_copyInts c_s_drop c_s_top c_s_push c_s_kindOf c_s_goodKeys c_s_putItem t.1.1 t.1.2.1 t.1.2.2.1 t.1.2.2.2.1 t.2.1.2.2.2.1 t.2.2.1 t.2.2.2.1 t.2.2.2.2.1) ((r25.1.1.1, r25.1.1.2.1, r25.1.1.2.2.1, r25.1.1.2.2.2.1, ()), ((), (), (), false, ()), r20.1.1, r27.1.1, true, ())
          else
            (c_s_goodKeys r25.1.1.1 r25.1.1.2.1 r25.1.1.2.2.1 r25.1.1.2.2.2.1 r20.1.1).bind fun r65 =>
            jn (fun t => B_s_stepMark_J0 k c_s_markAt c_s_copyInts c_s_drop c_s_top c_s_push c_s_kindOf c_s_goodKeys c_s_putItem t.1.1 t.1.2.1 t.1.2.2.1 t.1.2.2.2.1 t.2.1.2.2.2.1 t.2.2.1 t.2.2.2.1 t.2.2.2.2.1) ((r25.1.1.1, r25.1.1.2.1, r25.1.1.2.2.1, r25.1.1.2.2.2.1, ()), ((), (), (), false, ()), r20.1.1, r27.1.1, (!r65.1.1), ())
        else
          jn (fun t => B_s_stepMark_J2 k c_s_markAt c_s_copyInts c_s_drop c_s_top c_s_push c_s_kindOf c_s_goodKeys c_s_putItem t.1.1 t.1.2.1 t.1.2.2.1 t.1.2.2.2.1 t.2.1.2.2.2.1) ((r25.1.1.1, r25.1.1.2.1, r25.1.1.2.2.1, r25.1.1.2.2.2.1, ()), ((), (), (), false, ()), ())
def F_s_stepMark : Nat → (List (Int × Int × List Int)) → List Int → List Int → Bool → Int → Int → Option ((((List (Int × Int × List Int)) × List Int × List Int × Bool × Unit) × Bool × Unit) × (Unit))
  | 0, _, _, _, _, _, _ => none
  | k + 1, m_0, m_1, m_2, m_3, o_0, o_1 => B_s_stepMark k (F_s_markAt k) (F_s_copyInts k) (F_s_drop k) (F_s_top k) (F_s_push k) (F_s_kindOf k) (F_s_goodKeys k) (F_s_putItem k) m_0 m_1 m_2 m_3 o_0 o_1
theorem F_s_stepMark_succ (k : Nat) (m_0 : List (Int × Int × List Int)) (m_1 : List Int) (m_2 : List Int) (m_3 : Bool) (o_0 : Int) (o_1 : Int) : F_s_stepMark (k + 1) m_0 m_1 m_2 m_3 o_0 o_1 = B_s_stepMark k (F_s_markAt k) (F_s_copyInts k) (F_s_drop k) (F_s_top k) (F_s_push k) (F_s_kindOf k) (F_s_goodKeys k) (F_s_putItem k) m_0 m_1 m_2 m_3 o_0 o_1 := rfl
theorem tot_s_stepMark {m_0 : List (Int × Int × List Int)} {m_1 : List Int} {m_2 : List Int} {m_3 : Bool} {o_0 : Int} {o_1 : Int} {Q : (((((List (Int × Int × List Int)) × List Int × List Int × Bool × Unit) × Bool × Unit) × (Unit))) → Prop} (h : Tot (fun σ => B_s_stepMark (σ 0) (F_s_markAt (σ 0)) (F_s_copyInts (σ 0)) (F_s_drop (σ 0)) (F_s_top (σ 0)) (F_s_push (σ 0)) (F_s_kindOf (σ 0)) (F_s_goodKeys (σ 0)) (F_s_putItem (σ 0)) m_0 m_1 m_2 m_3 o_0 o_1) Q) : Tot (fun σ => F_s_stepMark (σ 0) m_0 m_1 m_2 m_3 o_0 o_1) Q :=
  Tot.call (F := fun k => F_s_stepMark k m_0 m_1 m_2 m_3 o_0 o_1) (B := fun k => B_s_stepMark k (F_s_markAt k) (F_s_copyInts k) (F_s_drop k) (F_s_top k) (F_s_push k) (F_s_kindOf k) (F_s_goodKeys k) (F_s_putItem k) m_0 m_1 m_2 m_3 o_0 o_1) (fun k => F_s_stepMark_succ k m_0 m_1 m_2 m_3 o_0 o_1) h
theorem loop_s_stepMark_L1 {Q : (List (Int × Int × List Int)) → List Int → List Int → Bool → Bool → List Int → Int → Int → ((((List (Int × Int × List Int)) × List Int × List Int × Bool × Unit) × Bool × Unit) × (Unit)) → Prop} (I : (List (Int × Int × List Int)) → List Int → List Int → Bool → Bool → List Int → Int → Int → Prop) (μ : (List (Int × Int × List Int)) → List Int → List Int → Bool → Bool → List Int → Int → Int → Nat)
    (step : ∀ (m_Nodes : List (Int × Int × List Int)) (m_Stack : List Int) (m_Memo : List Int) (m_Done : Bool) (t4_Done : Bool) (list : List Int) (below : Int) (i : Int), I m_Nodes m_Stack m_Memo m_Done t4_Done list below i → ∀ again : (Nat → Nat) → (((List (Int × Int × List Int)) × List Int × List Int × Bool × Unit) × (Unit × Unit × Unit × Bool × Unit) × List Int × Int × Int × Unit) → Option ((((List (Int × Int × List Int)) × List Int × List Int × Bool × Unit) × Bool × Unit) × (Unit)), Dep 2 again → (∀ (y0 : List (Int × Int × List Int)) (y1 : List Int) (y2 : List Int) (y3 : Bool) (y4 : Bool) (y5 : List Int) (y6 : Int) (y7 : Int), I y0 y1 y2 y3 y4 y5 y6 y7 → μ y0 y1 y2 y3 y4 y5 y6 y7 < μ m_Nodes m_Stack m_Memo m_Done t4_Done list below i → Tot (fun σ => again σ ((y0, y1, y2, y3, ()), ((), (), (), y4, ()), y5, y6, y7, ())) (Q y0 y1 y2 y3 y4 y5 y6 y7)) →
      Tot (fun σ => B_s_stepMark_L1b (σ 0) (F_s_markAt (σ 0)) (F_s_copyInts (σ 0)) (F_s_drop (σ 0)) (F_s_top (σ 0)) (F_s_push (σ 0)) (F_s_kindOf (σ 0)) (F_s_goodKeys (σ 0)) (F_s_putItem (σ 0)) (again σ) m_Nodes m_Stack m_Memo m_Done t4_Done list below i) (Q m_Nodes m_Stack m_Memo m_Done t4_Done list below i)) :
    ∀ (m_Nodes : List (Int × Int × List Int)) (m_Stack : List Int) (m_Memo : List Int) (m_Done : Bool) (t4_Done : Bool) (list : List Int) (below : Int) (i : Int), I m_Nodes m_Stack m_Memo m_Done t4_Done list below i → Tot (fun σ => B_s_stepMark_L1 (σ 0) (F_s_markAt (σ 0)) (F_s_copyInts (σ 0)) (F_s_drop (σ 0)) (F_s_top (σ 0)) (F_s_push (σ 0)) (F_s_kindOf (σ 0)) (F_s_goodKeys (σ 0)) (F_s_putItem (σ 0)) (σ 0) ((m_Nodes, m_Stack, m_Memo, m_Done, ()), ((), (), (), t4_Done, ()), list, below, i, ())) (Q m_Nodes m_Stack m_Memo m_Done t4_Done list below i) := fun m_Nodes m_Stack m_Memo m_Done t4_Done list below i hI =>
  Tot.loop (L := fun σ n t => B_s_stepMark_L1 (σ 0) (F_s_markAt (σ 0)) (F_s_copyInts (σ 0)) (F_s_drop (σ 0)) (F_s_top (σ 0)) (F_s_push (σ 0)) (F_s_kindOf (σ 0)) (F_s_goodKeys (σ 0)) (F_s_putItem (σ 0)) n t) (B := fun σ g t => B_s_stepMark_L1b (σ 0) (F_s_markAt (σ 0)) (F_s_copyInts (σ 0)) (F_s_drop (σ 0)) (F_s_top (σ 0)) (F_s_push (σ 0)) (F_s_kindOf (σ 0)) (F_s_goodKeys (σ 0)) (F_s_putItem (σ 0)) g t.1.1 t.1.2.1 t.1.2.2.1 t.1.2.2.2.1 t.2.1.2.2.2.1 t.2.2.1 t.2.2.2.1 t.2.2.2.2.1) (Q := fun t => Q t.1.1 t.1.2.1 t.1.2.2.1 t.1.2.2.2.1 t.2.1.2.2.2.1 t.2.2.1 t.2.2.2.1 t.2.2.2.2.1) 1 (by decide)
    (fun s s' h => by have e0 : s 0 = s' 0 := h 0 (by decide); simp only [e0]) (fun s s' h => by have e0 : s 0 = s' 0 := h 0 (by decide); simp only [e0]) (fun _ _ _ => rfl) (fun t => I t.1.1 t.1.2.1 t.1.2.2.1 t.1.2.2.2.1 t.2.1.2.2.2.1 t.2.2.1 t.2.2.2.1 t.2.2.2.2.1) (fun t => μ t.1.1 t.1.2.1 t.1.2.2.1 t.1.2.2.2.1 t.2.1.2.2.2.1 t.2.2.1 t.2.2.2.1 t.2.2.2.2.1)
    (fun t ht again hag h => step t.1.1 t.1.2.1 t.1.2.2.1 t.1.2.2.2.1 t.2.1.2.2.2.1 t.2.2.1 t.2.2.2.1 t.2.2.2.2.1 ht again hag (fun y0 y1 y2 y3 y4 y5 y6 y7 hI hm => h ((y0, y1, y2, y3, ()), ((), (), (), y4, ()), y5, y6, y7, ()) hI hm)) ((m_Nodes, m_Stack, m_Memo, m_Done, ()), ((), (), (), t4_Done, ()), list, below, i, ()) hI
def B_s_stepTop_J0 (k : Nat) (c_s_top : (List (Int × Int × List Int)) → List Int → List Int → Bool → Int → Option ((Int × Unit) × (Unit))) (c_s_drop : (List (Int × Int × List Int)) → List Int → List Int → Bool → Int → Option ((((List (Int × Int × List Int)) × List Int × List Int × Bool × Unit) × Unit) × (Unit))) (c_s_push : (List (Int × Int × List Int)) → List Int → List Int → Bool → Int → Int → List Int → Option ((((List (Int × Int × List Int)) × List Int × List Int × Bool × Unit) × Unit) × (Unit))) (c_s_kindOf : (List (Int × Int × List Int)) → List Int → List Int → Bool → Int → Option ((Int × Unit) × (Unit))) (c_s_isKey : Int → Int → Option ((Bool × Unit) × (Unit))) (c_s_putItem : (List (Int × Int × List Int)) → List Int → List Int → Bool → Int → Int → Int → Option ((((List (Int × Int × List Int)) × List Int × List Int × Bool × Unit) × Unit) × (Unit))) (m_Nodes : List (Int × Int × List Int)) (m_Stack : List Int) (m_Memo : List Int) (m_Done : Bool) (t4_Done : Bool) (a : Int) (b : Int) (c : Int) (t81 : Bool) : Option ((((List (Int × Int × List Int)) × List Int × List Int × Bool × Unit) × Bool × Unit) × (Unit)) :=
  bif t81 then
    some (((m_Nodes, m_Stack, m_Memo, m_Done, ()), false, ()), ())
  else
    (c_s_putItem m_Nodes m_Stack m_Memo m_Done c b a).bind fun r87 =>
    (c_s_drop r87.1.1.1 r87.1.1.2.1 r87.1.1.2.2.1 r87.1.1.2.2.2.1 2).bind fun r88 =>
    some (((r88.1.1.1, r88.1.1.2.1, r88.1.1.2.2.1, r88.1.1.2.2.2.1, ()), true, ()), ())
def B_s_stepTop_J1 (k : Nat) (c_s_top : (List (Int × Int × List Int)) → List Int → List Int → Bool → Int → Option ((Int × Unit) × (Unit))) (c_s_drop : (List (Int × Int × List Int)) → List Int → List Int → Bool → Int → Option ((((List (Int × Int × List Int)) × List Int × List Int × Bool × Unit) × Unit) × (Unit))) (c_s_push : (List (Int × Int × List Int)) → List Int → List Int → Bool → Int → Int → List Int → Option ((((List (Int × Int × List Int)) × List Int × List Int × Bool × Unit) × Unit) × (Unit))) (c_s_kindOf : (List (Int × Int × List Int)) → List Int → List Int → Bool → Int → Option ((Int × Unit) × (Unit))) (c_s_isKey : Int → Int → Option ((Bool × Unit) × (Unit))) (c_s_putItem : (List (Int × Int × List Int)) → List Int → List Int → Bool → Int → Int → Int → Option ((((List (Int × Int × List Int)) × List Int × List Int × Bool × Unit) × Unit) × (Unit))) (m_Nodes : List (Int × Int × List Int)) (m_Stack : List Int) (m_Memo : List Int) (m_Done : Bool) (t4_Done : Bool) (a : Int) (b : Int) (t104 : Bool) : Option ((((List (Int × Int × List Int)) × List Int × List Int × Bool × Unit) × Bool × Unit) × (Unit)) :=
  bif t104 then
    some (((m_Nodes, m_Stack, m_Memo, m_Done, ()), false, ()), ())
  else
    chk (inb b m_Nodes.length) <|
    chk (decide (b.toNat < m_Nodes.length)) <|
    (c_s_drop (m_Nodes.set b.toNat ((m_Nodes.getD b.toNat ((0 : Int), ((0 : Int), ([] : List Int)))).1, (((m_Nodes.getD b.toNat ((0 : Int), ((0 : Int), ([] : List Int)))).2).1, [a]))) m_Stack m_Memo m_Done 1).bind fun r114 =>
    some (((r114.1.1.1, r114.1.1.2.1, r114.1.1.2.2.1, r114.1.1.2.2.2.1, ()), true, ()), ())
def B_s_stepTop (k : Nat) (c_s_top : (List (Int × Int × List Int)) → List Int → List Int → Bool → Int → Option ((Int × Unit) × (Unit))) (c_s_drop : (List (Int × Int × List Int)) → List Int → List Int → Bool → Int → Option ((((List (Int × Int × List Int)) × List Int × List Int × Bool × Unit) × Unit) × (Unit))) (c_s_push : (List (Int × Int × List Int)) → List Int → List Int → Bool → Int → Int → List Int → Option ((((List (Int × Int × List Int)) × List Int × List Int × Bool × Unit) × Unit) × (Unit))) (c_s_kindOf : (List (Int × Int × List Int)) → List Int → List Int → Bool → Int → Option ((Int × Unit) × (Unit))) (c_s_isKey : Int → Int → Option ((Bool × Unit) × (Unit))) (c_s_putItem : (List (Int × Int × List Int)) → List Int → List Int → Bool → Int → Int → Int → Option ((((List (Int × Int × List Int)) × List Int × List Int × Bool × Unit) × Unit) × (Unit))) (m_0 : List (Int × Int × List Int)) (m_1 : List Int) (m_2 : List Int) (m_3 : Bool) (o_0 : Int) (o_1 : Int) : Option ((((List (Int × Int × List Int)) × List Int × List Int × Bool × Unit) × Bool × Unit) × (Unit)) :=
  (c_s_top m_0 m_1 m_2 m_3 0).bind fun r10 =>
  (c_s_top m_0 m_1 m_2 m_3 1).bind fun r12 =>
  (c_s_top m_0 m_1 m_2 m_3 2).bind fun r14 =>
  bif decide (r10.1.1 < 0) then
    some (((m_0, m_1, m_2, m_3, ()), false, ()), ())
  else
    bif (o_0 == 5) then
      (c_s_drop m_0 m_1 m_2 m_3 1).bind fun r23 =>
      (c_s_push r23.1.1.1 r23.1.1.2.1 r23.1.1.2.2.1 r23.1.1.2.2.2.1 2 0 ([r10.1.1])).bind fun r27 =>
      some (((r27.1.1.1, r27.1.1.2.1, r27.1.1.2.2.1, r27.1.1.2.2.2.1, ()), true, ()), ())
    else
      bif (o_0 == 6) then
        bif decide (r12.1.1 < 0) then
          some (((m_0, m_1, m_2, m_3, ()), false, ()), ())
        else
          (c_s_drop m_0 m_1 m_2 m_3 2).bind fun r34 =>
          (c_s_push r34.1.1.1 r34.1.1.2.1 r34.1.1.2.2.1 r34.1.1.2.2.2.1 2 0 ([r12.1.1, r10.1.1])).bind fun r39 =>
          some (((r39.1.1.1, r39.1.1.2.1, r39.1.1.2.2.1, r39.1.1.2.2.2.1, ()), true, ()), ())
      else
        bif (o_0 == 8) then
          (c_s_kindOf m_0 m_1 m_2 m_3 r12.1.1).bind fun r44 =>
          bif (r44.1.1 != 3) then
            some (((m_0, m_1, m_2, m_3, ()), false, ()), ())
          else
            chk (inb r12.1.1 m_0.length) <|
            chk (decide (r12.1.1.toNat < m_0.length)) <|
            chk (room (((m_0.getD r12.1.1.toNat ((0 : Int), ((0 : Int), ([] : List Int)))).2).2).length ([r10.1.1]).length) <|
            chk (inb r12.1.1 m_0.length) <|
            chk (decide (r12.1.1.toNat = r12.1.1.toNat)) <|
            let w0 : List (Int × Int × List Int) := (m_0.set r12.1.1.toNat ((m_0.getD r12.1.1.toNat ((0 : Int), ((0 : Int), ([] : List Int)))).1, (((m_0.getD r12.1.1.toNat ((0 : Int), ((0 : Int), ([] : List Int)))).2).1, (((m_0.getD r12.1.1.toNat ((0 : Int), ((0 : Int), ([] : List Int)))).2).2 ++ [r10.1.1]))))
            (c_s_drop w0 m_1 m_2 m_3 1).bind fun r62 =>
            some (((r62.1.1.1, r62.1.1.2.1, r62.1.1.2.2.1, r62.1.1.2.2.2.1, ()), true, ()), ())
        else
          bif (o_0 == 11) then
            bif decide (r12.1.1 < 0) then
              jn (fun t => B_s_stepTop_J0 k c_s_top c_s_drop c_s_push c_s_kindOf c_s_isKey c_s_putItem t.1.1 t.1.2.1 t.1.2.2.1 t.1.2.2.2.1 t.2.1.2.2.2.1 t.2.2.1 t.2.2.2.1 t.2.2.2.2.1 t.2.2.2.2.2.1) ((m_0, m_1, m_2, m_3, ()), ((), (), (), false, ()), r10.1.1, r12.1.1, r14.1.1, true, ())
            else
              (c_s_kindOf m_0 m_1 m_2 m_3 r14.1.1).bind fun r70 =>
              bif (r70.1.1 != 4) then
                jn (fun t => B_s_stepTop_J0 k c_s_top c_s_drop c_s_push c_s_kindOf c_s_isKey c_s_putItem t.1.1 t.1.2.1 t.1.2.2.1 t.1.2.2.2.1 t.2.1.2.2.2.1 t.2.2.1 t.2.2.2.1 t.2.2.2.2.1 t.2.2.2.2.2.1) ((m_0, m_1, m_2, m_3, ()), ((), (), (), false, ()), r10.1.1, r12.1.1, r14.1.1, true, ())
              else
                chk (inb r12.1.1 m_0.length) <|
                chk (decide (r12.1.1.toNat < m_0.length)) <|
                (c_s_isKey ((m_0.getD r12.1.1.toNat ((0 : Int), ((0 : Int), ([] : List Int)))).1) (((m_0.getD r12.1.1.toNat ((0 : Int), ((0 : Int), ([] : List Int)))).2).1)).bind fun r79 =>
                jn (fun t => B_s_stepTop_J0 k c_s_top c_s_drop c_s_push c_s_kindOf c_s_isKey c_s_putItem t.1.1 t.1.2.1 t.1.2.2.1 t.1.2.2.2.1 t.2.1.2.2.2.1 t.2.2.1 t.2.2.2.1 t.2.2.2.2.1 t.2.2.2.2.2.1) ((m_0, m_1, m_2, m_3, ()), ((), (), (), false, ()), r10.1.1, r12.1.1, r14.1.1, (!r79.1.1), ())
          else
            bif (o_0 == 14) then
              (c_s_kindOf m_0 m_1 m_2 m_3 r12.1.1).bind fun r93 =>
              bif (r93.1.1 != 5) then
                jn (fun t => B_s_stepTop_J1 k c_s_top c_s_drop c_s_push c_s_kindOf c_s_isKey c_s_putItem t.1.1 t.1.2.1 t.1.2.2.1 t.1.2.2.2.1 t.2.1.2.2.2.1 t.2.2.1 t.2.2.2.1 t.2.2.2.2.1) ((m_0, m_1, m_2, m_3, ()), ((), (), (), false, ()), r10.1.1, r12.1.1, true, ())
              else
                chk (inb r12.1.1 m_0.length) <|
                chk (decide (r12.1.1.toNat < m_0.length)) <|
                let v103 : Bool := decide ((len (((m_0.getD r12.1.1.toNat ((0 : Int), ((0 : Int), ([] : List Int)))).2).2)) > 0)
                let w2 : List (Int × Int × List Int) := (m_0.set r12.1.1.toNat ((m_0.getD r12.1.1.toNat ((0 : Int), ((0 : Int), ([] : List Int)))).1, (((m_0.getD r12.1.1.toNat ((0 : Int), ((0 : Int), ([] : List Int)))).2).1, ((m_0.getD r12.1.1.toNat ((0 : Int), ((0 : Int), ([] : List Int)))).2).2)))
                jn (fun t => B_s_stepTop_J1 k c_s_top c_s_drop c_s_push c_s_kindOf c_s_isKey c_s_putItem t.1.1 t.1.2.1 t.1.2.2.1 t.1.2.2.2.1 t.2.1.2.2.2.1 t.2.2.1 t.2.2.2.1 t.2.2.2.2.1) ((w2, m_1, m_2, m_3, ()), ((), (), (), false, ()), r10.1.1, r12.1.1, v103, ())
            else
              bif (o_0 == 15) then
                chk (inb o_1 m_2.length) <|
                chk (decide (o_1.toNat < m_2.length)) <|
                some (((m_0, m_1, (m_2.set o_1.toNat r10.1.1), m_3, ()), true, ()), ())
              else
                bif (o_0 == 17) then
                  (c_s_drop m_0 m_1 m_2 m_3 1).bind fun r127 =>
                  some (((r127.1.1.1, r127.1.1.2.1, r127.1.1.2.2.1, r127.1.1.2.2.2.1, ()), true, ()), ())
                else
                  some (((m_0, m_1, m_2, true, ()), ((len m_1) == 1), ()), ())
def F_s_stepTop : Nat → (List (Int × Int × List Int)) → List Int → List Int → Bool → Int → Int → Option ((((List (Int × Int × List Int)) × List Int × List Int × Bool × Unit) × Bool × Unit) × (Unit))
  | 0, _, _, _, _, _, _ => none
  | k + 1, m_0, m_1, m_2, m_3, o_0, o_1 => B_s_stepTop k (F_s_top k) (F_s_drop k) (F_s_push k) (F_s_kindOf k) (F_s_isKey k) (F_s_putItem k) m_0 m_1 m_2 m_3 o_0 o_1
theorem F_s_stepTop_succ (k : Nat) (m_0 : List (Int × Int × List Int)) (m_1 : List Int) (m_2 : List Int) (m_3 : Bool) (o_0 : Int) (o_1 : Int) : F_s_stepTop (k + 1) m_0 m_1 m_2 m_3 o_0 o_1 = B_s_stepTop k (F_s_top k) (F_s_drop k) (F_s_push k) (F_s_kindOf k) (F_s_isKey k) (F_s_putItem k) m_0 m_1 m_2 m_3 o_0 o_1 := rfl
theorem tot_s_stepTop {m_0 : List (Int × Int × List Int)} {m_1 : List Int} {m_2 : List Int} {m_3 : Bool} {o_0 : Int} {o_1 : Int} {Q : (((((List (Int × Int × List Int)) × List Int × List Int × Bool × Unit) × Bool × Unit) × (Unit))) → Prop} (h : Tot (fun σ => B_s_stepTop (σ 0) (F_s_top (σ 0)) (F_s_drop (σ 0)) (F_s_push (σ 0)) (F_s_kindOf (σ 0)) (F_s_isKey (σ 0)) (F_s_putItem (σ 0)) m_0 m_1 m_2 m_3 o_0 o_1) Q) : Tot (fun σ => F_s_stepTop (σ 0) m_0 m_1 m_2 m_3 o_0 o_1) Q :=
  Tot.call (F := fun k => F_s_stepTop k m_0 m_1 m_2 m_3 o_0 o_1) (B := fun k => B_s_stepTop k (F_s_top k) (F_s_drop k) (F_s_push k) (F_s_kindOf k) (F_s_isKey k) (F_s_putItem k) m_0 m_1 m_2 m_3 o_0 o_1) (fun k => F_s_stepTop_succ k m_0 m_1 m_2 m_3 o_0 o_1) h
def B_s_step_J1 (k : Nat) (c_s_push : (List (Int × Int × List Int)) → List Int → List Int → Bool → Int → Int → List Int → Option ((((List (Int × Int × List Int)) × List Int × List Int × Bool × Unit) × Unit) × (Unit))) (c_s_stepMark : (List (Int × Int × List Int)) → List Int → List Int → Bool → Int → Int → Option ((((List (Int × Int × List Int)) × List Int × List Int × Bool × Unit) × Bool × Unit) × (Unit))) (c_s_stepTop : (List (Int × Int × List Int)) → List Int → List Int → Bool → Int → Int → Option ((((List (Int × Int × List Int)) × List Int × List Int × Bool × Unit) × Bool × Unit) × (Unit))) (m_Nodes : List (Int × Int × List Int)) (m_Stack : List Int) (m_Memo : List Int) (m_Done : Bool) (t4_Done : Bool) : Option ((((Option (List (Int × Int × List Int))) × Option (List Int) × Option (List Int) × Bool × Unit) × Bool × Unit) × (Unit)) :=
  bif decide ((len m_Nodes) ≤ 300) then
    some ((((some m_Nodes), (some m_Stack), (some m_Memo), m_Done, ()), decide ((len m_Stack) ≤ 300), ()), ())
  else
    some ((((some m_Nodes), (some m_Stack), (some m_Memo), m_Done, ()), false, ()), ())
def B_s_step_J0 (k : Nat) (c_s_push : (List (Int × Int × List Int)) → List Int → List Int → Bool → Int → Int → List Int → Option ((((List (Int × Int × List Int)) × List Int × List Int × Bool × Unit) × Unit) × (Unit))) (c_s_stepMark : (List (Int × Int × List Int)) → List Int → List Int → Bool → Int → Int → Option ((((List (Int × Int × List Int)) × List Int × List Int × Bool × Unit) × Bool × Unit) × (Unit))) (c_s_stepTop : (List (Int × Int × List Int)) → List Int → List Int → Bool → Int → Int → Option ((((List (Int × Int × List Int)) × List Int × List Int × Bool × Unit) × Bool × Unit) × (Unit))) (m_Nodes : List (Int × Int × List Int)) (m_Stack : List Int) (m_Memo : List Int) (m_Done : Bool) (o_Code : Int) (o_Arg : Int) (t4_Done : Bool) (t89 : Bool) : Option ((((Option (List (Int × Int × List Int))) × Option (List Int) × Option (List Int) × Bool × Unit) × Bool × Unit) × (Unit)) :=
  bif t89 then
    (c_s_stepMark m_Nodes m_Stack m_Memo m_Done o_Code o_Arg).bind fun r97 =>
    bif (!r97.1.2.1) then
      some (((none, none, none, m_Done, ()), false, ()), ())
    else
      jn (fun t => B_s_step_J1 k c_s_push c_s_stepMark c_s_stepTop t.1.1 t.1.2.1 t.1.2.2.1 t.1.2.2.2.1 t.2.1.2.2.2.1) ((r97.1.1.1, r97.1.1.2.1, r97.1.1.2.2.1, r97.1.1.2.2.2.1, ()), ((), (), (), t4_Done, ()), ())
  else
    (c_s_stepTop m_Nodes m_Stack m_Memo m_Done o_Code o_Arg).bind fun r18 =>
    bif (!r18.1.2.1) then
      some (((none, none, none, m_Done, ()), false, ()), ())
    else
      jn (fun t => B_s_step_J1 k c_s_push c_s_stepMark c_s_stepTop t.1.1 t.1.2.1 t.1.2.2.1 t.1.2.2.2.1 t.2.1.2.2.2.1) ((r18.1.1.1, r18.1.1.2.1, r18.1.1.2.2.1, r18.1.1.2.2.2.1, ()), ((), (), (), t4_Done, ()), ())
def B_s_step (k : Nat) (c_s_push : (List (Int × Int × List Int)) → List Int → List Int → Bool → Int → Int → List Int → Option ((((List (Int × Int × List Int)) × List Int × List Int × Bool × Unit) × Unit) × (Unit))) (c_s_stepMark : (List (Int × Int × List Int)) → List Int → List Int → Bool → Int → Int → Option ((((List (Int × Int × List Int)) × List Int × List Int × Bool × Unit) × Bool × Unit) × (Unit))) (c_s_stepTop : (List (Int × Int × List Int)) → List Int → List Int → Bool → Int → Int → Option ((((List (Int × Int × List Int)) × List Int × List Int × Bool × Unit) × Bool × Unit) × (Unit))) (m_0 : List (Int × Int × List Int)) (m_1 : List Int) (m_2 : List Int) (m_3 : Bool) (o_0 : Int) (o_1 : Int) : Option ((((Option (List (Int × Int × List Int))) × Option (List Int) × Option (List Int) × Bool × Unit) × Bool × Unit) × (Unit)) :=
  bif m_3 then
    some ((((some m_0), (some m_1), (some m_2), m_3, ()), false, ()), ())
  else
    bif (o_0 == 0) then
      (c_s_push m_0 m_1 m_2 m_3 0 o_1 ([])).bind fun r31 =>
      jn (fun t => B_s_step_J1 k c_s_push c_s_stepMark c_s_stepTop t.1.1 t.1.2.1 t.1.2.2.1 t.1.2.2.2.1 t.2.1.2.2.2.1) ((r31.1.1.1, r31.1.1.2.1, r31.1.1.2.2.1, r31.1.1.2.2.2.1, ()), ((), (), (), false, ()), ())
    else
      bif (o_0 == 1) then
        (c_s_push m_0 m_1 m_2 m_3 1 o_1 ([])).bind fun r38 =>
        jn (fun t => B_s_step_J1 k c_s_push c_s_stepMark c_s_stepTop t.1.1 t.1.2.1 t.1.2.2.1 t.1.2.2.2.1 t.2.1.2.2.2.1) ((r38.1.1.1, r38.1.1.2.1, r38.1.1.2.2.1, r38.1.1.2.2.2.1, ()), ((), (), (), false, ()), ())
      else
        bif (o_0 == 4) then
          (c_s_push m_0 m_1 m_2 m_3 2 0 ([])).bind fun r43 =>
          jn (fun t => B_s_step_J1 k c_s_push c_s_stepMark c_s_stepTop t.1.1 t.1.2.1 t.1.2.2.1 t.1.2.2.2.1 t.2.1.2.2.2.1) ((r43.1.1.1, r43.1.1.2.1, r43.1.1.2.2.1, r43.1.1.2.2.2.1, ()), ((), (), (), false, ()), ())
        else
          bif (o_0 == 7) then
            (c_s_push m_0 m_1 m_2 m_3 3 0 ([])).bind fun r48 =>
            jn (fun t => B_s_step_J1 k c_s_push c_s_stepMark c_s_stepTop t.1.1 t.1.2.1 t.1.2.2.1 t.1.2.2.2.1 t.2.1.2.2.2.1) ((r48.1.1.1, r48.1.1.2.1, r48.1.1.2.2.1, r48.1.1.2.2.2.1, ()), ((), (), (), false, ()), ())
          else
            bif (o_0 == 10) then
              (c_s_push m_0 m_1 m_2 m_3 4 0 ([])).bind fun r53 =>
              jn (fun t => B_s_step_J1 k c_s_push c_s_stepMark c_s_stepTop t.1.1 t.1.2.1 t.1.2.2.1 t.1.2.2.2.1 t.2.1.2.2.2.1) ((r53.1.1.1, r53.1.1.2.1, r53.1.1.2.2.1, r53.1.1.2.2.2.1, ()), ((), (), (), false, ()), ())
            else
              bif (o_0 == 13) then
                (c_s_push m_0 m_1 m_2 m_3 5 o_1 ([])).bind fun r60 =>
                jn (fun t => B_s_step_J1 k c_s_push c_s_stepMark c_s_stepTop t.1.1 t.1.2.1 t.1.2.2.1 t.1.2.2.2.1 t.2.1.2.2.2.1) ((r60.1.1.1, r60.1.1.2.1, r60.1.1.2.2.1, r60.1.1.2.2.2.1, ()), ((), (), (), false, ()), ())
              else
                bif (o_0 == 2) then
                  chk (room m_1.length ([(-1)]).length) <|
                  jn (fun t => B_s_step_J1 k c_s_push c_s_stepMark c_s_stepTop t.1.1 t.1.2.1 t.1.2.2.1 t.1.2.2.2.1 t.2.1.2.2.2.1) ((m_0, (m_1 ++ [(-1)]), m_2, m_3, ()), ((), (), (), false, ()), ())
                else
                  bif (o_0 == 16) then
                    chk (inb o_1 m_2.length) <|
                    chk (decide (o_1.toNat < m_2.length)) <|
                    bif decide ((m_2.getD o_1.toNat (0 : Int)) < 0) then
                      some ((((some m_0), (some m_1), (some m_2), m_3, ()), false, ()), ())
                    else
                      chk (inb o_1 m_2.length) <|
                      chk (decide (o_1.toNat < m_2.length)) <|
                      chk (room m_1.length ([(m_2.getD o_1.toNat (0 : Int))]).length) <|
                      jn (fun t => B_s_step_J1 k c_s_push c_s_stepMark c_s_stepTop t.1.1 t.1.2.1 t.1.2.2.1 t.1.2.2.2.1 t.2.1.2.2.2.1) ((m_0, (m_1 ++ [(m_2.getD o_1.toNat (0 : Int))]), m_2, m_3, ()), ((), (), (), false, ()), ())
                  else
                    bif (o_0 == 3) then
                      jn (fun t => B_s_step_J0 k c_s_push c_s_stepMark c_s_stepTop t.1.1 t.1.2.1 t.1.2.2.1 t.1.2.2.2.1 t.2.1.1 t.2.1.2.1 t.2.2.1.2.2.2.1 t.2.2.2.1) ((m_0, m_1, m_2, m_3, ()), (o_0, o_1, ()), ((), (), (), false, ()), (o_0 == 3), ())
                    else
                      bif (o_0 == 9) then
                        jn (fun t => B_s_step_J0 k c_s_push c_s_stepMark c_s_stepTop t.1.1 t.1.2.1 t.1.2.2.1 t.1.2.2.2.1 t.2.1.1 t.2.1.2.1 t.2.2.1.2.2.2.1 t.2.2.2.1) ((m_0, m_1, m_2, m_3, ()), (o_0, o_1, ()), ((), (), (), false, ()), (o_0 == 9), ())
                      else
                        bif (o_0 == 12) then
                          jn (fun t => B_s_step_J0 k c_s_push c_s_stepMark c_s_stepTop t.1.1 t.1.2.1 t.1.2.2.1 t.1.2.2.2.1 t.2.1.1 t.2.1.2.1 t.2.2.1.2.2.2.1 t.2.2.2.1) ((m_0, m_1, m_2, m_3, ()), (o_0, o_1, ()), ((), (), (), false, ()), (o_0 == 12), ())
                        else
                          jn (fun t => B_s_step_J0 k c_s_push c_s_stepMark c_s_stepTop t.1.1 t.1.2.1 t.1.2.2.1 t.1.2.2.2.1 t.2.1.1 t.2.1.2.1 t.2.2.1.2.2.2.1 t.2.2.2.1) ((m_0, m_1, m_2, m_3, ()), (o_0, o_1, ()), ((), (), (), false, ()), (o_0 == 18), ())
def F_s_step : Nat → (List (Int × Int × List Int)) → List Int → List Int → Bool → Int → Int → Option ((((Option (List (Int × Int × List Int))) × Option (List Int) × Option (List Int) × Bool × Unit) × Bool × Unit) × (Unit))
  | 0, _, _, _, _, _, _ => none
  | k + 1, m_0, m_1, m_2, m_3, o_0, o_1 => B_s_step k (F_s_push k) (F_s_stepMark k) (F_s_stepTop k) m_0 m_1 m_2 m_3 o_0 o_1
theorem F_s_step_succ (k : Nat) (m_0 : List (Int × Int × List Int)) (m_1 : List Int) (m_2 : List Int) (m_3 : Bool) (o_0 : Int) (o_1 : Int) : F_s_step (k + 1) m_0 m_1 m_2 m_3 o_0 o_1 = B_s_step k (F_s_push k) (F_s_stepMark k) (F_s_stepTop k) m_0 m_1 m_2 m_3 o_0 o_1 := rfl
theorem tot_s_step {m_0 : List (Int × Int × List Int)} {m_1 : List Int} {m_2 : List Int} {m_3 : Bool} {o_0 : Int} {o_1 : Int} {Q : (((((Option (List (Int × Int × List Int))) × Option (List Int) × Option (List Int) × Bool × Unit) × Bool × Unit) × (Unit))) → Prop} (h : Tot (fun σ => B_s_step (σ 0) (F_s_push (σ 0)) (F_s_stepMark (σ 0)) (F_s_stepTop (σ 0)) m_0 m_1 m_2 m_3 o_0 o_1) Q) : Tot (fun σ => F_s_step (σ 0) m_0 m_1 m_2 m_3 o_0 o_1) Q :=
  Tot.call (F := fun k => F_s_step k m_0 m_1 m_2 m_3 o_0 o_1) (B := fun k => B_s_step k (F_s_push k) (F_s_stepMark k) (F_s_stepTop k) m_0 m_1 m_2 m_3 o_0 o_1) (fun k => F_s_step_succ k m_0 m_1 m_2 m_3 o_0 o_1) h
def B_s_run_L0b (k : Nat) (c_s_copyMachine : (List (Int × Int × List Int)) → List Int → List Int → Bool → Option ((((List (Int × Int × List Int)) × List Int × List Int × Bool × Unit) × Unit) × (Unit))) (c_s_step : (List (Int × Int × List Int)) → List Int → List Int → Bool → Int → Int → Option ((((Option (List (Int × Int × List Int))) × Option (List Int) × Option (List Int) × Bool × Unit) × Bool × Unit) × (Unit))) (again0 : ((List (Int × Int)) × ((List (Int × Int × List Int)) × List Int × List Int × Bool × Unit) × (Unit × Unit × Unit × Bool × Unit) × Int × Unit) → Option ((((List (Int × Int × List Int)) × List Int × List Int × Bool × Unit) × Int × Unit) × (Unit))) (ops : List (Int × Int)) (m_Nodes : List (Int × Int × List Int)) (m_Stack : List Int) (m_Memo : List Int) (m_Done : Bool) (t4_Done : Bool) (i : Int) : Option ((((List (Int × Int × List Int)) × List Int × List Int × Bool × Unit) × Int × Unit) × (Unit)) :=
  bif decide (i < (len ops)) then
    (c_s_copyMachine m_Nodes m_Stack m_Memo m_Done).bind fun r17 =>
    chk (inb i ops.length) <|
    (c_s_step r17.1.1.1 r17.1.1.2.1 r17.1.1.2.2.1 r17.1.1.2.2.2.1 ((rdx ((0 : Int), (0 : Int)) ops i).1) ((rdx ((0 : Int), (0 : Int)) ops i).2)).bind fun r22 =>
    bif (!r22.1.2.1) then
      some (((m_Nodes, m_Stack, m_Memo, m_Done, ()), i, ()), ())
    else
      (r22.1.1.1).bind fun p3 =>
      (r22.1.1.2.1).bind fun p4 =>
      (r22.1.1.2.2.1).bind fun p5 =>
      again0 (ops, (p3, p4, p5, r22.1.1.2.2.2.1, ()), ((), (), (), t4_Done, ()), w64 (i + 1), ())
  else
    some (((m_Nodes, m_Stack, m_Memo, m_Done, ()), len ops, ()), ())
def B_s_run_L0 (k : Nat) (c_s_copyMachine : (List (Int × Int × List Int)) → List Int → List Int → Bool → Option ((((List (Int × Int × List Int)) × List Int × List Int × Bool × Unit) × Unit) × (Unit))) (c_s_step : (List (Int × Int × List Int)) → List Int → List Int → Bool → Int → Int → Option ((((Option (List (Int × Int × List Int))) × Option (List Int) × Option (List Int) × Bool × Unit) × Bool × Unit) × (Unit))) (n : Nat) (t : (List (Int × Int)) × ((List (Int × Int × List Int)) × List Int × List Int × Bool × Unit) × (Unit × Unit × Unit × Bool × Unit) × Int × Unit) : Option ((((List (Int × Int × List Int)) × List Int × List Int × Bool × Unit) × Int × Unit) × (Unit)) :=
  lfix n (fun again t => B_s_run_L0b k c_s_copyMachine c_s_step again t.1 t.2.1.1 t.2.1.2.1 t.2.1.2.2.1 t.2.1.2.2.2.1 t.2.2.1.2.2.2.1 t.2.2.2.1) t
def B_s_run (k : Nat) (c_s_copyMachine : (List (Int × Int × List Int)) → List Int → List Int → Bool → Option ((((List (Int × Int × List Int)) × List Int × List Int × Bool × Unit) × Unit) × (Unit))) (c_s_step : (List (Int × Int × List Int)) → List Int → List Int → Bool → Int → Int → Option ((((Option (List (Int × Int × List Int))) × Option (List Int) × Option (List Int) × Bool × Unit) × Bool × Unit) × (Unit))) (m_0 : List (Int × Int × List Int)) (m_1 : List Int) (m_2 : List Int) (m_3 : Bool) (ops : List (Int × Int)) : Option ((((List (Int × Int × List Int)) × List Int × List Int × Bool × Unit) × Int × Unit) × (Unit)) :=
  B_s_run_L0 k c_s_copyMachine c_s_step k (ops, (m_0, m_1, m_2, m_3, ()), ((), (), (), false, ()), 0, ())
def F_s_run : Nat → (List (Int × Int × List Int)) → List Int → List Int → Bool → (List (Int × Int)) → Option ((((List (Int × Int × List Int)) × List Int × List Int × Bool × Unit) × Int × Unit) × (Unit))
  | 0, _, _, _, _, _ => none
  | k + 1, m_0, m_1, m_2, m_3, ops => B_s_run k (F_s_copyMachine k) (F_s_step k) m_0 m_1 m_2 m_3 ops
theorem F_s_run_succ (k : Nat) (m_0 : List (Int × Int × List Int)) (m_1 : List Int) (m_2 : List Int) (m_3 : Bool) (ops : List (Int × Int)) : F_s_run (k + 1) m_0 m_1 m_2 m_3 ops = B_s_run k (F_s_copyMachine k) (F_s_step k) m_0 m_1 m_2 m_3 ops := rfl
theorem tot_s_run {m_0 : List (Int × Int × List Int)} {m_1 : List Int} {m_2 : List Int} {m_3 : Bool} {ops : List (Int × Int)} {Q : (((((List (Int × Int × List Int)) × List Int × List Int × Bool × Unit) × Int × Unit) × (Unit))) → Prop} (h : Tot (fun σ => B_s_run (σ 0) (F_s_copyMachine (σ 0)) (F_s_step (σ 0)) m_0 m_1 m_2 m_3 ops) Q) : Tot (fun σ => F_s_run (σ 0) m_0 m_1 m_2 m_3 ops) Q :=
  Tot.call (F := fun k => F_s_run k m_0 m_1 m_2 m_3 ops) (B := fun k => B_s_run k (F_s_copyMachine k) (F_s_step k) m_0 m_1 m_2 m_3 ops) (fun k => F_s_run_succ k m_0 m_1 m_2 m_3 ops) h
theorem loop_s_run_L0 {Q : (List (Int × Int)) → (List (Int × Int × List Int)) → List Int → List Int → Bool → Bool → Int → ((((List (Int × Int × List Int)) × List Int × List Int × Bool × Unit) × Int × Unit) × (Unit)) → Prop} (I : (List (Int × Int)) → (List (Int × Int × List Int)) → List Int → List Int → Bool → Bool → Int → Prop) (μ : (List (Int × Int)) → (List (Int × Int × List Int)) → List Int → List Int → Bool → Bool → Int → Nat)
    (step : ∀ (ops : List (Int × Int)) (m_Nodes : List (Int × Int × List Int)) (m_Stack : List Int) (m_Memo : List Int) (m_Done : Bool) (t4_Done : Bool) (i : Int), I ops m_Nodes m_Stack m_Memo m_Done t4_Done i → ∀ again : (Nat → Nat) → ((List (Int × Int)) × ((List (Int × Int × List Int)) × List Int × List Int × Bool × Unit) × (Unit × Unit × Unit × Bool × Unit) × Int × Unit) → Option ((((List (Int × Int × List Int)) × List Int × List Int × Bool × Unit) × Int × Unit) × (Unit)), Dep 2 again → (∀ (y0 : List (Int × Int)) (y1 : List (Int × Int × List Int)) (y2 : List Int) (y3 : List Int) (y4 : Bool) (y5 : Bool) (y6 : Int), I y0 y1 y2 y3 y4 y5 y6 → μ y0 y1 y2 y3 y4 y5 y6 < μ ops m_Nodes m_Stack m_Memo m_Done t4_Done i → Tot (fun σ => again σ (y0, (y1, y2, y3, y4, ()), ((), (), (), y5, ()), y6, ())) (Q y0 y1 y2 y3 y4 y5 y6)) →
      Tot (fun σ => B_s_run_L0b (σ 0) (F_s_copyMachine (σ 0)) (F_s_step (σ 0)) (again σ) ops m_Nodes m_Stack m_Memo m_Done t4_Done i) (Q ops m_Nodes m_Stack m_Memo m_Done t4_Done i)) :
    ∀ (ops : List (Int × Int)) (m_Nodes : List (Int × Int × List Int)) (m_Stack : List Int) (m_Memo : List Int) (m_Done : Bool) (t4_Done : Bool) (i : Int), I ops m_Nodes m_Stack m_Memo m_Done t4_Done i → Tot (fun σ => B_s_run_L0 (σ 0) (F_s_copyMachine (σ 0)) (F_s_step (σ 0)) (σ 0) (ops, (m_Nodes, m_Stack, m_Memo, m_Done, ()), ((), (), (), t4_Done, ()), i, ())) (Q ops m_Nodes m_Stack m_Memo m_Done t4_Done i) := fun ops m_Nodes m_Stack m_Memo m_Done t4_Done i hI =>
  Tot.loop (L := fun σ n t => B_s_run_L0 (σ 0) (F_s_copyMachine (σ 0)) (F_s_step (σ 0)) n t) (B := fun σ g t => B_s_run_L0b (σ 0) (F_s_copyMachine (σ 0)) (F_s_step (σ 0)) g t.1 t.2.1.1 t.2.1.2.1 t.2.1.2.2.1 t.2.1.2.2.2.1 t.2.2.1.2.2.2.1 t.2.2.2.1) (Q := fun t => Q t.1 t.2.1.1 t.2.1.2.1 t.2.1.2.2.1 t.2.1.2.2.2.1 t.2.2.1.2.2.2.1 t.2.2.2.1) 1 (by decide)
    (fun s s' h => by have e0 : s 0 = s' 0 := h 0 (by decide); simp only [e0]) (fun s s' h => by have e0 : s 0 = s' 0 := h 0 (by decide); simp only [e0]) (fun _ _ _ => rfl) (fun t => I t.1 t.2.1.1 t.2.1.2.1 t.2.1.2.2.1 t.2.1.2.2.2.1 t.2.2.1.2.2.2.1 t.2.2.2.1) (fun t => μ t.1 t.2.1.1 t.2.1.2.1 t.2.1.2.2.1 t.2.1.2.2.2.1 t.2.2.1.2.2.2.1 t.2.2.2.1)
    (fun t ht again hag h => step t.1 t.2.1.1 t.2.1.2.1 t.2.1.2.2.1 t.2.1.2.2.2.1 t.2.2.1.2.2.2.1 t.2.2.2.1 ht again hag (fun y0 y1 y2 y3 y4 y5 y6 hI hm => h (y0, (y1, y2, y3, y4, ()), ((), (), (), y5, ()), y6, ()) hI hm)) (ops, (m_Nodes, m_Stack, m_Memo, m_Done, ()), ((), (), (), t4_Done, ()), i, ()) hI
def B_s_built (k : Nat) (c_s_copyMachine : (List (Int × Int × List Int)) → List Int → List Int → Bool → Option ((((List (Int × Int × List Int)) × List Int × List Int × Bool × Unit) × Unit) × (Unit))) (m_0 : List (Int × Int × List Int)) (m_1 : List Int) (m_2 : List Int) (m_3 : Bool) : Option ((((List (Int × Int × List Int)) × Int × Unit) × Unit) × (Unit)) :=
  (c_s_copyMachine m_0 m_1 m_2 m_3).bind fun r4 =>
  chk (inb 0 m_1.length) <|
  some (((r4.1.1.1, (rdx (0 : Int) m_1 0), ()), ()), ())
def F_s_built : Nat → (List (Int × Int × List Int)) → List Int → List Int → Bool → Option ((((List (Int × Int × List Int)) × Int × Unit) × Unit) × (Unit))
  | 0, _, _, _, _ => none
  | k + 1, m_0, m_1, m_2, m_3 => B_s_built k (F_s_copyMachine k) m_0 m_1 m_2 m_3
theorem F_s_built_succ (k : Nat) (m_0 : List (Int × Int × List Int)) (m_1 : List Int) (m_2 : List Int) (m_3 : Bool) : F_s_built (k + 1) m_0 m_1 m_2 m_3 = B_s_built k (F_s_copyMachine k) m_0 m_1 m_2 m_3 := rfl
theorem tot_s_built {m_0 : List (Int × Int × List Int)} {m_1 : List Int} {m_2 : List Int} {m_3 : Bool} {Q : (((((List (Int × Int × List Int)) × Int × Unit) × Unit) × (Unit))) → Prop} (h : Tot (fun σ => B_s_built (σ 0) (F_s_copyMachine (σ 0)) m_0 m_1 m_2 m_3) Q) : Tot (fun σ => F_s_built (σ 0) m_0 m_1 m_2 m_3) Q :=
  Tot.call (F := fun k => F_s_built k m_0 m_1 m_2 m_3) (B := fun k => B_s_built k (F_s_copyMachine k) m_0 m_1 m_2 m_3) (fun k => F_s_built_succ k m_0 m_1 m_2 m_3) h
def B_s_BuildGraph_J0 (k : Nat) (c_s_validOps : (List (Int × Int)) → Option ((Bool × Unit) × (Unit))) (c_s_newMachine : Option (((Unit × Unit × List Int × Bool × Unit) × Unit) × (Unit))) (c_s_run : (List (Int × Int × List Int)) → List Int → List Int → Bool → (List (Int × Int)) → Option ((((List (Int × Int × List Int)) × List Int × List Int × Bool × Unit) × Int × Unit) × (Unit))) (c_s_built : (List (Int × Int × List Int)) → List Int → List Int → Bool → Option ((((List (Int × Int × List Int)) × Int × Unit) × Unit) × (Unit))) (t2_Root : Int) (m_Nodes : List (Int × Int × List Int)) (m_Stack : List Int) (m_Memo : List Int) (m_Done : Bool) (t24 : Bool) : Option ((((List (Int × Int × List Int)) × Int × Unit) × Bool × Unit) × (Unit)) :=
  bif t24 then
    some ((([], 0, ()), false, ()), ())
  else
    (c_s_built m_Nodes m_Stack m_Memo m_Done).bind fun r27 =>
    some (((r27.1.1.1, r27.1.1.2.1, ()), true, ()), ())
def B_s_BuildGraph (k : Nat) (c_s_validOps : (List (Int × Int)) → Option ((Bool × Unit) × (Unit))) (c_s_newMachine : Option (((Unit × Unit × List Int × Bool × Unit) × Unit) × (Unit))) (c_s_run : (List (Int × Int × List Int)) → List Int → List Int → Bool → (List (Int × Int)) → Option ((((List (Int × Int × List Int)) × List Int × List Int × Bool × Unit) × Int × Unit) × (Unit))) (c_s_built : (List (Int × Int × List Int)) → List Int → List Int → Bool → Option ((((List (Int × Int × List Int)) × Int × Unit) × Unit) × (Unit))) (ops : List (Int × Int)) : Option ((((List (Int × Int × List Int)) × Int × Unit) × Bool × Unit) × (Unit)) :=
  (c_s_validOps ops).bind fun r7 =>
  bif (!r7.1.1) then
    some ((([], 0, ()), false, ()), ())
  else
    (c_s_newMachine).bind fun r11 =>
    (c_s_run ([]) ([]) r11.1.1.2.2.1 r11.1.1.2.2.2.1 ops).bind fun r13 =>
    bif decide (r13.1.2.1 < (len ops)) then
      jn (fun t => B_s_BuildGraph_J0 k c_s_validOps c_s_newMachine c_s_run c_s_built t.1.2.1 t.2.1.1 t.2.1.2.1 t.2.1.2.2.1 t.2.1.2.2.2.1 t.2.2.1) (((), 0, ()), (r13.1.1.1, r13.1.1.2.1, r13.1.1.2.2.1, r13.1.1.2.2.2.1, ()), true, ())
    else
      jn (fun t => B_s_BuildGraph_J0 k c_s_validOps c_s_newMachine c_s_run c_s_built t.1.2.1 t.2.1.1 t.2.1.2.1 t.2.1.2.2.1 t.2.1.2.2.2.1 t.2.2.1) (((), 0, ()), (r13.1.1.1, r13.1.1.2.1, r13.1.1.2.2.1, r13.1.1.2.2.2.1, ()), (!r13.1.1.2.2.2.1), ())
def F_s_BuildGraph : Nat → (List (Int × Int)) → Option ((((List (Int × Int × List Int)) × Int × Unit) × Bool × Unit) × (Unit))
  | 0, _ => none
  | k + 1, ops => B_s_BuildGraph k (F_s_validOps k) (F_s_newMachine k) (F_s_run k) (F_s_built k) ops
theorem F_s_BuildGraph_succ (k : Nat) (ops : List (Int × Int)) : F_s_BuildGraph (k + 1) ops = B_s_BuildGraph k (F_s_validOps k) (F_s_newMachine k) (F_s_run k) (F_s_built k) ops := rfl
theorem tot_s_BuildGraph {ops : List (Int × Int)} {Q : (((((List (Int × Int × List Int)) × Int × Unit) × Bool × Unit) × (Unit))) → Prop} (h : Tot (fun σ => B_s_BuildGraph (σ 0) (F_s_validOps (σ 0)) (F_s_newMachine (σ 0)) (F_s_run (σ 0)) (F_s_built (σ 0)) ops) Q) : Tot (fun σ => F_s_BuildGraph (σ 0) ops) Q :=
  Tot.call (F := fun k => F_s_BuildGraph k ops) (B := fun k => B_s_BuildGraph k (F_s_validOps k) (F_s_newMachine k) (F_s_run k) (F_s_built k) ops) (fun k => F_s_BuildGraph_succ k ops) h
def B_l_equalInts_L0b (k : Nat) (again0 : (List Int × List Int × Int × Unit) → Option ((Bool × Unit) × (Unit))) (a : List Int) (b : List Int) (i : Int) : Option ((Bool × Unit) × (Unit)) :=
  bif decide (i < (len a)) then
    chk (inb i a.length) <|
    chk (inb i b.length) <|
    bif ((rdx (0 : Int) a i) != (rdx (0 : Int) b i)) then
      some ((false, ()), ())
    else
      again0 (a, b, w64 (i + 1), ())
  else
    some ((true, ()), ())
def B_l_equalInts_L0 (k : Nat) (n : Nat) (t : List Int × List Int × Int × Unit) : Option ((Bool × Unit) × (Unit)) :=
  lfix n (fun again t => B_l_equalInts_L0b k again t.1 t.2.1 t.2.2.1) t
def B_l_equalInts (k : Nat) (a : List Int) (b : List Int) : Option ((Bool × Unit) × (Unit)) :=
  bif ((len a) != (len b)) then
    some ((false, ()), ())
  else
    B_l_equalInts_L0 k k (a, b, 0, ())
def F_l_equalInts : Nat → List Int → List Int → Option ((Bool × Unit) × (Unit))
  | 0, _, _ => none
  | k + 1, a, b => B_l_equalInts k a b
theorem F_l_equalInts_succ (k : Nat) (a : List Int) (b : List Int) : F_l_equalInts (k + 1) a b = B_l_equalInts k a b := rfl
theorem tot_l_equalInts {a : List Int} {b : List Int} {Q : (((Bool × Unit) × (Unit))) → Prop} (h : Tot (fun σ => B_l_equalInts (σ 0) a b) Q) : Tot (fun σ => F_l_equalInts (σ 0) a b) Q :=
  Tot.call (F := fun k => F_l_equalInts k a b) (B := fun k => B_l_equalInts k a b) (fun k => F_l_equalInts_succ k a b) h
theorem loop_l_equalInts_L0 {Q : List Int → List Int → Int → ((Bool × Unit) × (Unit)) → Prop} (I : List Int → List Int → Int → Prop) (μ : List Int → List Int → Int → Nat)
    (step : ∀ (a : List Int) (b : List Int) (i : Int), I a b i → ∀ again : (Nat → Nat) → (List Int × List Int × Int × Unit) → Option ((Bool × Unit) × (Unit)), Dep 2 again → (∀ (y0 : List Int) (y1 : List Int) (y2 : Int), I y0 y1 y2 → μ y0 y1 y2 < μ a b i → Tot (fun σ => again σ (y0, y1, y2, ())) (Q y0 y1 y2)) →
      Tot (fun σ => B_l_equalInts_L0b (σ 0) (again σ) a b i) (Q a b i)) :
    ∀ (a : List Int) (b : List Int) (i : Int), I a b i → Tot (fun σ => B_l_equalInts_L0 (σ 0) (σ 0) (a, b, i, ())) (Q a b i) := fun a b i hI =>
  Tot.loop (L := fun σ n t => B_l_equalInts_L0 (σ 0) n t) (B := fun σ g t => B_l_equalInts_L0b (σ 0) g t.1 t.2.1 t.2.2.1) (Q := fun t => Q t.1 t.2.1 t.2.2.1) 1 (by decide)
    (fun s s' h => by have e0 : s 0 = s' 0 := h 0 (by decide); simp only [e0]) (fun s s' h => by have e0 : s 0 = s' 0 := h 0 (by decide); simp only [e0]) (fun _ _ _ => rfl) (fun t => I t.1 t.2.1 t.2.2.1) (fun t => μ t.1 t.2.1 t.2.2.1)
    (fun t ht again hag h => step t.1 t.2.1 t.2.2.1 ht again hag (fun y0 y1 y2 hI hm => h (y0, y1, y2, ()) hI hm)) (a, b, i, ()) hI
def B_l_equalNodes_J0 (k : Nat) (c_l_equalInts : List Int → List Int → Option ((Bool × Unit) × (Unit))) (again1 : ((List (Int × Int × List Int)) × (List (Int × Int × List Int)) × Int × Unit) → Option ((Bool × Unit) × (Unit))) (a : List (Int × Int × List Int)) (b : List (Int × Int × List Int)) (i : Int) (t54 : Bool) : Option ((Bool × Unit) × (Unit)) :=
  bif t54 then
    some ((false, ()), ())
  else
    again1 (a, b, w64 (i + 1), ())
def B_l_equalNodes_L1b (k : Nat) (c_l_equalInts : List Int → List Int → Option ((Bool × Unit) × (Unit))) (again1 : ((List (Int × Int × List Int)) × (List (Int × Int × List Int)) × Int × Unit) → Option ((Bool × Unit) × (Unit))) (a : List (Int × Int × List Int)) (b : List (Int × Int × List Int)) (i : Int) : Option ((Bool × Unit) × (Unit)) :=
  bif decide (i < (len a)) then
    chk (inb i a.length) <|
    chk (inb i b.length) <|
    let v27 : Bool := (((rdx ((0 : Int), ((0 : Int), ([] : List Int))) a i).1) != ((rdx ((0 : Int), ((0 : Int), ([] : List Int))) b i).1))
    bif v27 then
      jn (fun t => B_l_equalNodes_J0 k c_l_equalInts again1 t.1 t.2.1 t.2.2.1 t.2.2.2.1) (a, b, i, true, ())
    else
      chk (inb i a.length) <|
      chk (inb i b.length) <|
      let v39 : Bool := ((((rdx ((0 : Int), ((0 : Int), ([] : List Int))) a i).2).1) != (((rdx ((0 : Int), ((0 : Int), ([] : List Int))) b i).2).1))
      bif v39 then
        jn (fun t => B_l_equalNodes_J0 k c_l_equalInts again1 t.1 t.2.1 t.2.2.1 t.2.2.2.1) (a, b, i, true, ())
      else
        chk (inb i a.length) <|
        chk (inb i b.length) <|
        (c_l_equalInts (((rdx ((0 : Int), ((0 : Int), ([] : List Int))) a i).2).2) (((rdx ((0 : Int), ((0 : Int), ([] : List Int))) b i).2).2)).bind fun r52 =>
        jn (fun t => B_l_equalNodes_J0 k c_l_equalInts again1 t.1 t.2.1 t.2.2.1 t.2.2.2.1) (a, b, i, (!r52.1.1), ())
  else
    some ((true, ()), ())
def B_l_equalNodes_L1 (k : Nat) (c_l_equalInts : List Int → List Int → Option ((Bool × Unit) × (Unit))) (n : Nat) (t : (List (Int × Int × List Int)) × (List (Int × Int × List Int)) × Int × Unit) : Option ((Bool × Unit) × (Unit)) :=
  lfix n (fun again t => B_l_equalNodes_L1b k c_l_equalInts again t.1 t.2.1 t.2.2.1) t
def B_l_equalNodes (k : Nat) (c_l_equalInts : List Int → List Int → Option ((Bool × Unit) × (Unit))) (a : List (Int × Int × List Int)) (b : List (Int × Int × List Int)) : Option ((Bool × Unit) × (Unit)) :=
  bif ((len a) != (len b)) then
    some ((false, ()), ())
  else
    B_l_equalNodes_L1 k c_l_equalInts k (a, b, 0, ())
def F_l_equalNodes : Nat → (List (Int × Int × List Int)) → (List (Int × Int × List Int)) → Option ((Bool × Unit) × (Unit))
  | 0, _, _ => none
  | k + 1, a, b => B_l_equalNodes k (F_l_equalInts k) a b
theorem F_l_equalNodes_succ (k : Nat) (a : List (Int × Int × List Int)) (b : List (Int × Int × List Int)) : F_l_equalNodes (k + 1) a b = B_l_equalNodes k (F_l_equalInts k) a b := rfl
theorem tot_l_equalNodes {a : List (Int × Int × List Int)} {b : List (Int × Int × List Int)} {Q : (((Bool × Unit) × (Unit))) → Prop} (h : Tot (fun σ => B_l_equalNodes (σ 0) (F_l_equalInts (σ 0)) a b) Q) : Tot (fun σ => F_l_equalNodes (σ 0) a b) Q :=
  Tot.call (F := fun k => F_l_equalNodes k a b) (B := fun k => B_l_equalNodes k (F_l_equalInts k) a b) (fun k => F_l_equalNodes_succ k a b) h
theorem loop_l_equalNodes_L1 {Q : (List (Int × Int × List Int)) → (List (Int × Int × List Int)) → Int → ((Bool × Unit) × (Unit)) → Prop} (I : (List (Int × Int × List Int)) → (List (Int × Int × List Int)) → Int → Prop) (μ : (List (Int × Int × List Int)) → (List (Int × Int × List Int)) → Int → Nat)
    (step : ∀ (a : List (Int × Int × List Int)) (b : List (Int × Int × List Int)) (i : Int), I a b i → ∀ again : (Nat → Nat) → ((List (Int × Int × List Int)) × (List (Int × Int × List Int)) × Int × Unit) → Option ((Bool × Unit) × (Unit)), Dep 2 again → (∀ (y0 : List (Int × Int × List Int)) (y1 : List (Int × Int × List Int)) (y2 : Int), I y0 y1 y2 → μ y0 y1 y2 < μ a b i → Tot (fun σ => again σ (y0, y1, y2, ())) (Q y0 y1 y2)) →
      Tot (fun σ => B_l_equalNodes_L1b (σ 0) (F_l_equalInts (σ 0)) (again σ) a b i) (Q a b i)) :
    ∀ (a : List (Int × Int × List Int)) (b : List (Int × Int × List Int)) (i : Int), I a b i → Tot (fun σ => B_l_equalNodes_L1 (σ 0) (F_l_equalInts (σ 0)) (σ 0) (a, b, i, ())) (Q a b i) := fun a b i hI =>
  Tot.loop (L := fun σ n t => B_l_equalNodes_L1 (σ 0) (F_l_equalInts (σ 0)) n t) (B := fun σ g t => B_l_equalNodes_L1b (σ 0) (F_l_equalInts (σ 0)) g t.1 t.2.1 t.2.2.1) (Q := fun t => Q t.1 t.2.1 t.2.2.1) 1 (by decide)
    (fun s s' h => by have e0 : s 0 = s' 0 := h 0 (by decide); simp only [e0]) (fun s s' h => by have e0 : s 0 = s' 0 := h 0 (by decide); simp only [e0]) (fun _ _ _ => rfl) (fun t => I t.1 t.2.1 t.2.2.1) (fun t => μ t.1 t.2.1 t.2.2.1)
    (fun t ht again hag h => step t.1 t.2.1 t.2.2.1 ht again hag (fun y0 y1 y2 hI hm => h (y0, y1, y2, ()) hI hm)) (a, b, i, ()) hI
def B_l_equalGraph (k : Nat) (c_l_equalNodes : (List (Int × Int × List Int)) → (List (Int × Int × List Int)) → Option ((Bool × Unit) × (Unit))) (a_0 : List (Int × Int × List Int)) (a_1 : Int) (b_0 : List (Int × Int × List Int)) (b_1 : Int) : Option ((Bool × Unit) × (Unit)) :=
  bif (a_1 == b_1) then
    (c_l_equalNodes a_0 b_0).bind fun r15 =>
    some ((r15.1.1, ()), ())
  else
    some ((false, ()), ())
def F_l_equalGraph : Nat → (List (Int × Int × List Int)) → Int → (List (Int × Int × List Int)) → Int → Option ((Bool × Unit) × (Unit))
  | 0, _, _, _, _ => none
  | k + 1, a_0, a_1, b_0, b_1 => B_l_equalGraph k (F_l_equalNodes k) a_0 a_1 b_0 b_1
theorem F_l_equalGraph_succ (k : Nat) (a_0 : List (Int × Int × List Int)) (a_1 : Int) (b_0 : List (Int × Int × List Int)) (b_1 : Int) : F_l_equalGraph (k + 1) a_0 a_1 b_0 b_1 = B_l_equalGraph k (F_l_equalNodes k) a_0 a_1 b_0 b_1 := rfl
theorem tot_l_equalGraph {a_0 : List (Int × Int × List Int)} {a_1 : Int} {b_0 : List (Int × Int × List Int)} {b_1 : Int} {Q : (((Bool × Unit) × (Unit))) → Prop} (h : Tot (fun σ => B_l_equalGraph (σ 0) (F_l_equalNodes (σ 0)) a_0 a_1 b_0 b_1) Q) : Tot (fun σ => F_l_equalGraph (σ 0) a_0 a_1 b_0 b_1) Q :=
  Tot.call (F := fun k => F_l_equalGraph k a_0 a_1 b_0 b_1) (B := fun k => B_l_equalGraph k (F_l_equalNodes k) a_0 a_1 b_0 b_1) (fun k => F_l_equalGraph_succ k a_0 a_1 b_0 b_1) h
def B_i_RunOps_1 (k : Nat) (t0_0 : List (Int × Int × List Int)) (t0_1 : List Int) (t0_2 : List Int) (t0_3 : Bool) : Option ((Unit) × (Unit)) :=
  some ((), ())
def F_i_RunOps_1 : Nat → (List (Int × Int × List Int)) → List Int → List Int → Bool → Option ((Unit) × (Unit))
  | 0, _, _, _, _ => none
  | k + 1, t0_0, t0_1, t0_2, t0_3 => B_i_RunOps_1 k t0_0 t0_1 t0_2 t0_3
theorem F_i_RunOps_1_succ (k : Nat) (t0_0 : List (Int × Int × List Int)) (t0_1 : List Int) (t0_2 : List Int) (t0_3 : Bool) : F_i_RunOps_1 (k + 1) t0_0 t0_1 t0_2 t0_3 = B_i_RunOps_1 k t0_0 t0_1 t0_2 t0_3 := rfl
theorem tot_i_RunOps_1 {t0_0 : List (Int × Int × List Int)} {t0_1 : List Int} {t0_2 : List Int} {t0_3 : Bool} {Q : (((Unit) × (Unit))) → Prop} (h : Tot (fun σ => B_i_RunOps_1 (σ 0) t0_0 t0_1 t0_2 t0_3) Q) : Tot (fun σ => F_i_RunOps_1 (σ 0) t0_0 t0_1 t0_2 t0_3) Q :=
  Tot.call (F := fun k => F_i_RunOps_1 k t0_0 t0_1 t0_2 t0_3) (B := fun k => B_i_RunOps_1 k t0_0 t0_1 t0_2 t0_3) (fun k => F_i_RunOps_1_succ k t0_0 t0_1 t0_2 t0_3) h
def B_i_running__i_RunOps_1_L0b (k : Nat) (c_i_NewMachine : Int → Option ((((List (Int × Int × List Int)) × Unit × List Int × Bool × Unit) × Unit) × (Unit))) (c_i_Machine_step : (List (Int × Int × List Int)) → List Int → List Int → Bool → Int → Int → Option ((Bool × Unit) × (((Option (List (Int × Int × List Int))) × List Int × List Int × Bool × Unit) × Unit))) (c_i_copyMachine : (List (Int × Int × List Int)) → List Int → List Int → Bool → Option ((((List (Int × Int × List Int)) × List Int × List Int × Bool × Unit) × Unit) × (Unit))) (c_i_RunOps_1 : (List (Int × Int × List Int)) → List Int → List Int → Bool → Option ((Unit) × (Unit))) (again0 : ((List (Int × Int)) × Unit × (Unit × Unit × Unit × Bool × Unit) × ((List (Int × Int × List Int)) × List Int × List Int × Bool × Unit) × (List (Int × Int)) × Int × Int × Unit) → Option ((((List (Int × Int × List Int)) × List Int × List Int × Bool × Unit) × Int × Unit) × (Unit))) (ops : List (Int × Int)) (t4_Done : Bool) (m_Nodes : List (Int × Int × List Int)) (m_Stack : List Int) (m_Memo : List Int) (m_Done : Bool) (t10 : List (Int × Int)) (t11 : Int) (t12 : Int) : Option ((((List (Int × Int × List Int)) × List Int × List Int × Bool × Unit) × Int × Unit) × (Unit)) :=
  bif decide (t12 < t11) then
    chk (inb t12 t10.length) <|
    (c_i_Machine_step m_Nodes m_Stack m_Memo m_Done ((rdx ((0 : Int), (0 : Int)) t10 t12).1) ((rdx ((0 : Int), (0 : Int)) t10 t12).2)).bind fun r18 =>
    bif (!r18.1.1) then
      (r18.2.1.1).bind fun p25 =>
      (c_i_copyMachine p25 r18.2.1.2.1 r18.2.1.2.2.1 r18.2.1.2.2.2.1).bind fun r21 =>
      some (((r21.1.1.1, r21.1.1.2.1, r21.1.1.2.2.1, r21.1.1.2.2.2.1, ()), t12, ()), ())
    else
      (r18.2.1.1).bind fun p26 =>
      (c_i_RunOps_1 p26 r18.2.1.2.1 r18.2.1.2.2.1 r18.2.1.2.2.2.1).bind fun r25 =>
      (r18.2.1.1).bind fun p27 =>
      again0 (ops, (), ((), (), (), t4_Done, ()), (p27, r18.2.1.2.1, r18.2.1.2.2.1, r18.2.1.2.2.2.1, ()), t10, t11, w64 (t12 + 1), ())
  else
    (c_i_copyMachine m_Nodes m_Stack m_Memo m_Done).bind fun r28 =>
    some (((r28.1.1.1, r28.1.1.2.1, r28.1.1.2.2.1, r28.1.1.2.2.2.1, ()), len ops, ()), ())
def B_i_running__i_RunOps_1_L0 (k : Nat) (c_i_NewMachine : Int → Option ((((List (Int × Int × List Int)) × Unit × List Int × Bool × Unit) × Unit) × (Unit))) (c_i_Machine_step : (List (Int × Int × List Int)) → List Int → List Int → Bool → Int → Int → Option ((Bool × Unit) × (((Option (List (Int × Int × List Int))) × List Int × List Int × Bool × Unit) × Unit))) (c_i_copyMachine : (List (Int × Int × List Int)) → List Int → List Int → Bool → Option ((((List (Int × Int × List Int)) × List Int × List Int × Bool × Unit) × Unit) × (Unit))) (c_i_RunOps_1 : (List (Int × Int × List Int)) → List Int → List Int → Bool → Option ((Unit) × (Unit))) (n : Nat) (t : (List (Int × Int)) × Unit × (Unit × Unit × Unit × Bool × Unit) × ((List (Int × Int × List Int)) × List Int × List Int × Bool × Unit) × (List (Int × Int)) × Int × Int × Unit) : Option ((((List (Int × Int × List Int)) × List Int × List Int × Bool × Unit) × Int × Unit) × (Unit)) :=
  lfix n (fun again t => B_i_running__i_RunOps_1_L0b k c_i_NewMachine c_i_Machine_step c_i_copyMachine c_i_RunOps_1 again t.1 t.2.2.1.2.2.2.1 t.2.2.2.1.1 t.2.2.2.1.2.1 t.2.2.2.1.2.2.1 t.2.2.2.1.2.2.2.1 t.2.2.2.2.1 t.2.2.2.2.2.1 t.2.2.2.2.2.2.1) t
def B_i_running__i_RunOps_1 (k : Nat) (c_i_NewMachine : Int → Option ((((List (Int × Int × List Int)) × Unit × List Int × Bool × Unit) × Unit) × (Unit))) (c_i_Machine_step : (List (Int × Int × List Int)) → List Int → List Int → Bool → Int → Int → Option ((Bool × Unit) × (((Option (List (Int × Int × List Int))) × List Int × List Int × Bool × Unit) × Unit))) (c_i_copyMachine : (List (Int × Int × List Int)) → List Int → List Int → Bool → Option ((((List (Int × Int × List Int)) × List Int × List Int × Bool × Unit) × Unit) × (Unit))) (c_i_RunOps_1 : (List (Int × Int × List Int)) → List Int → List Int → Bool → Option ((Unit) × (Unit))) (ops : List (Int × Int)) : Option ((((List (Int × Int × List Int)) × List Int × List Int × Bool × Unit) × Int × Unit) × (Unit)) :=
  (c_i_NewMachine 0).bind fun r9 =>
  B_i_running__i_RunOps_1_L0 k c_i_NewMachine c_i_Machine_step c_i_copyMachine c_i_RunOps_1 k (ops, (), ((), (), (), false, ()), (r9.1.1.1, [], r9.1.1.2.2.1, r9.1.1.2.2.2.1, ()), ops, len ops, 0, ())
def F_i_running__i_RunOps_1 : Nat → (List (Int × Int)) → Option ((((List (Int × Int × List Int)) × List Int × List Int × Bool × Unit) × Int × Unit) × (Unit))
  | 0, _ => none
  | k + 1, ops => B_i_running__i_RunOps_1 k (F_i_NewMachine k) (F_i_Machine_step k) (F_i_copyMachine k) (F_i_RunOps_1 k) ops
theorem F_i_running__i_RunOps_1_succ (k : Nat) (ops : List (Int × Int)) : F_i_running__i_RunOps_1 (k + 1) ops = B_i_running__i_RunOps_1 k (F_i_NewMachine k) (F_i_Machine_step k) (F_i_copyMachine k) (F_i_RunOps_1 k) ops := rfl
theorem tot_i_running__i_RunOps_1 {ops : List (Int × Int)} {Q : (((((List (Int × Int × List Int)) × List Int × List Int × Bool × Unit) × Int × Unit) × (Unit))) → Prop} (h : Tot (fun σ => B_i_running__i_RunOps_1 (σ 0) (F_i_NewMachine (σ 0)) (F_i_Machine_step (σ 0)) (F_i_copyMachine (σ 0)) (F_i_RunOps_1 (σ 0)) ops) Q) : Tot (fun σ => F_i_running__i_RunOps_1 (σ 0) ops) Q :=
  Tot.call (F := fun k => F_i_running__i_RunOps_1 k ops) (B := fun k => B_i_running__i_RunOps_1 k (F_i_NewMachine k) (F_i_Machine_step k) (F_i_copyMachine k) (F_i_RunOps_1 k) ops) (fun k => F_i_running__i_RunOps_1_succ k ops) h
theorem loop_i_running__i_RunOps_1_L0 {Q : (List (Int × Int)) → Bool → (List (Int × Int × List Int)) → List Int → List Int → Bool → (List (Int × Int)) → Int → Int → ((((List (Int × Int × List Int)) × List Int × List Int × Bool × Unit) × Int × Unit) × (Unit)) → Prop} (I : (List (Int × Int)) → Bool → (List (Int × Int × List Int)) → List Int → List Int → Bool → (List (Int × Int)) → Int → Int → Prop) (μ : (List (Int × Int)) → Bool → (List (Int × Int × List Int)) → List Int → List Int → Bool → (List (Int × Int)) → Int → Int → Nat)
    (step : ∀ (ops : List (Int × Int)) (t4_Done : Bool) (m_Nodes : List (Int × Int × List Int)) (m_Stack : List Int) (m_Memo : List Int) (m_Done : Bool) (t10 : List (Int × Int)) (t11 : Int) (t12 : Int), I ops t4_Done m_Nodes m_Stack m_Memo m_Done t10 t11 t12 → ∀ again : (Nat → Nat) → ((List (Int × Int)) × Unit × (Unit × Unit × Unit × Bool × Unit) × ((List (Int × Int × List Int)) × List Int × List Int × Bool × Unit) × (List (Int × Int)) × Int × Int × Unit) → Option ((((List (Int × Int × List Int)) × List Int × List Int × Bool × Unit) × Int × Unit) × (Unit)), Dep 2 again → (∀ (y0 : List (Int × Int)) (y1 : Bool) (y2 : List (Int × Int × List Int)) (y3 : List Int) (y4 : List Int) (y5 : Bool) (y6 : List (Int × Int)) (y7 : Int) (y8 : Int), I y0 y1 y2 y3 y4 y5 y6 y7 y8 → μ y0 y1 y2 y3 y4 y5 y6 y7 y8 < μ ops t4_Done m_Nodes m_Stack m_Memo m_Done t10 t11 t12 → Tot (fun σ => again σ (y0, (), ((), (), (), y1, ()), (y2, y3, y4, y5, ()), y6, y7, y8, ())) (Q y0 y1 y2 y3 y4 y5 y6 y7 y8)) →
      Tot (fun σ => B_i_running__i_RunOps_1_L0b (σ 0) (F_i_NewMachine (σ 0)) (F_i_Machine_step (σ 0)) (F_i_copyMachine (σ 0)) (F_i_RunOps_1 (σ 0)) (again σ) ops t4_Done m_Nodes m_Stack m_Memo m_Done t10 t11 t12) (Q ops t4_Done m_Nodes m_Stack m_Memo m_Done t10 t11 t12)) :
    ∀ (ops : List (Int × Int)) (t4_Done : Bool) (m_Nodes : List (Int × Int × List Int)) (m_Stack : List Int) (m_Memo : List Int) (m_Done : Bool) (t10 : List (Int × Int)) (t11 : Int) (t12 : Int), I ops t4_Done m_Nodes m_Stack m_Memo m_Done t10 t11 t12 → Tot (fun σ => B_i_running__i_RunOps_1_L0 (σ 0) (F_i_NewMachine (σ 0)) (F_i_Machine_step (σ 0)) (F_i_copyMachine (σ 0)) (F_i_RunOps_1 (σ 0)) (σ 0) (ops, (), ((), (), (), t4_Done, ()), (m_Nodes, m_Stack, m_Memo, m_Done, ()), t10, t11, t12, ())) (Q ops t4_Done m_Nodes m_Stack m_Memo m_Done t10 t11 t12) := fun ops t4_Done m_Nodes m_Stack m_Memo m_Done t10 t11 t12 hI =>
  Tot.loop (L := fun σ n t => B_i_running__i_RunOps_1_L0 (σ 0) (F_i_NewMachine (σ 0)) (F_i_Machine_step (σ 0)) (F_i_copyMachine (σ 0)) (F_i_RunOps_1 (σ 0)) n t) (B := fun σ g t => B_i_running__i_RunOps_1_L0b (σ 0) (F_i_NewMachine (σ 0)) (F_i_Machine_step (σ 0)) (F_i_copyMachine (σ 0)) (F_i_RunOps_1 (σ 0)) g t.1 t.2.2.1.2.2.2.1 t.2.2.2.1.1 t.2.2.2.1.2.1 t.2.2.2.1.2.2.1 t.2.2.2.1.2.2.2.1 t.2.2.2.2.1 t.2.2.2.2.2.1 t.2.2.2.2.2.2.1) (Q := fun t => Q t.1 t.2.2.1.2.2.2.1 t.2.2.2.1.1 t.2.2.2.1.2.1 t.2.2.2.1.2.2.1 t.2.2.2.1.2.2.2.1 t.2.2.2.2.1 t.2.2.2.2.2.1 t.2.2.2.2.2.2.1) 1 (by decide)
    (fun s s' h => by have e0 : s 0 = s' 0 := h 0 (by decide); simp only [e0]) (fun s s' h => by have e0 : s 0 = s' 0 := h 0 (by decide); simp only [e0]) (fun _ _ _ => rfl) (fun t => I t.1 t.2.2.1.2.2.2.1 t.2.2.2.1.1 t.2.2.2.1.2.1 t.2.2.2.1.2.2.1 t.2.2.2.1.2.2.2.1 t.2.2.2.2.1 t.2.2.2.2.2.1 t.2.2.2.2.2.2.1) (fun t => μ t.1 t.2.2.1.2.2.2.1 t.2.2.2.1.1 t.2.2.2.1.2.1 t.2.2.2.1.2.2.1 t.2.2.2.1.2.2.2.1 t.2.2.2.2.1 t.2.2.2.2.2.1 t.2.2.2.2.2.2.1)
    (fun t ht again hag h => step t.1 t.2.2.1.2.2.2.1 t.2.2.2.1.1 t.2.2.2.1.2.1 t.2.2.2.1.2.2.1 t.2.2.2.1.2.2.2.1 t.2.2.2.2.1 t.2.2.2.2.2.1 t.2.2.2.2.2.2.1 ht again hag (fun y0 y1 y2 y3 y4 y5 y6 y7 y8 hI hm => h (y0, (), ((), (), (), y1, ()), (y2, y3, y4, y5, ()), y6, y7, y8, ()) hI hm)) (ops, (), ((), (), (), t4_Done, ()), (m_Nodes, m_Stack, m_Memo, m_Done, ()), t10, t11, t12, ()) hI
def B_i_RunOps (k : Nat) (c_i_ValidOps : (List (Int × Int)) → Option ((Bool × Unit) × (Unit))) (c_i_running__i_RunOps_1 : (List (Int × Int)) → Option ((((List (Int × Int × List Int)) × List Int × List Int × Bool × Unit) × Int × Unit) × (Unit))) (ops : List (Int × Int)) : Option ((((List (Int × Int × List Int)) × List Int × List Int × Bool × Unit) × Int × Unit) × (Unit)) :=
  (c_i_ValidOps ops).bind fun r7 =>
  bif (!r7.1.1) then
    some ((([], [], [], false, ()), (-1), ()), ())
  else
    (c_i_running__i_RunOps_1 ops).bind fun r12 =>
    some (((r12.1.1.1, r12.1.1.2.1, r12.1.1.2.2.1, r12.1.1.2.2.2.1, ()), r12.1.2.1, ()), ())
def F_i_RunOps : Nat → (List (Int × Int)) → Option ((((List (Int × Int × List Int)) × List Int × List Int × Bool × Unit) × Int × Unit) × (Unit))
  | 0, _ => none
  | k + 1, ops => B_i_RunOps k (F_i_ValidOps k) (F_i_running__i_RunOps_1 k) ops
theorem F_i_RunOps_succ (k : Nat) (ops : List (Int × Int)) : F_i_RunOps (k + 1) ops = B_i_RunOps k (F_i_ValidOps k) (F_i_running__i_RunOps_1 k) ops := rfl
theorem tot_i_RunOps {ops : List (Int × Int)} {Q : (((((List (Int × Int × List Int)) × List Int × List Int × Bool × Unit) × Int × Unit) × (Unit))) → Prop} (h : Tot (fun σ => B_i_RunOps (σ 0) (F_i_ValidOps (σ 0)) (F_i_running__i_RunOps_1 (σ 0)) ops) Q) : Tot (fun σ => F_i_RunOps (σ 0) ops) Q :=
  Tot.call (F := fun k => F_i_RunOps k ops) (B := fun k => B_i_RunOps k (F_i_ValidOps k) (F_i_running__i_RunOps_1 k) ops) (fun k => F_i_RunOps_succ k ops) h
def B_l_FnBuildGraph_J0 (k : Nat) (c_s_DrawBuildGraph : List Int → Option (((List (Int × Int)) × Unit) × (Unit))) (c_i_BuildGraph : (List (Int × Int)) → Option ((((List (Int × Int × List Int)) × Int × Unit) × Bool × Unit) × (Unit))) (c_s_BuildGraph : (List (Int × Int)) → Option ((((List (Int × Int × List Int)) × Int × Unit) × Bool × Unit) × (Unit))) (c_l_equalGraph : (List (Int × Int × List Int)) → Int → (List (Int × Int × List Int)) → Int → Option ((Bool × Unit) × (Unit))) (c_i_RunOps : (List (Int × Int)) → Option ((((List (Int × Int × List Int)) × List Int × List Int × Bool × Unit) × Int × Unit) × (Unit))) (c_l_equalNodes : (List (Int × Int × List Int)) → (List (Int × Int × List Int)) → Option ((Bool × Unit) × (Unit))) (ops : List (Int × Int)) (out_Nodes : List (Int × Int × List Int)) (out_Root : Int) (ok : Bool) (t33 : Bool) : Option ((Bool × Unit) × (Unit)) :=
  bif t33 then
    some ((false, ()), ())
  else
    (c_i_RunOps ops).bind fun r36 =>
    bif (!ok) then
      bif decide (r36.1.2.1 < (len ops)) then
        some ((true, ()), ())
      else
        some (((!r36.1.1.2.2.2.1), ()), ())
    else
      bif (r36.1.2.1 == (len ops)) then
        bif r36.1.1.2.2.2.1 then
          (c_l_equalNodes r36.1.1.1 out_Nodes).bind fun r63 =>
          bif r63.1.1 then
            chk (inb 0 r36.1.1.2.1.length) <|
            chk (decide ((0 : Int).toNat < r36.1.1.2.1.length)) <|
            bif (out_Root == (r36.1.1.2.1.getD ((0 : Int).toNat) (0 : Int))) then
              chk (inb (w64 ((len ops) - 1)) ops.length) <|
              chk (decide ((w64 ((len ops) - 1)).toNat < ops.length)) <|
              some (((((ops.getD ((w64 ((len ops) - 1)).toNat) ((0 : Int), (0 : Int))).1) == 19), ()), ())
            else
              some ((false, ()), ())
          else
            some ((false, ()), ())
        else
          some ((false, ()), ())
      else
        some ((false, ()), ())
def B_l_FnBuildGraph (k : Nat) (c_s_DrawBuildGraph : List Int → Option (((List (Int × Int)) × Unit) × (Unit))) (c_i_BuildGraph : (List (Int × Int)) → Option ((((List (Int × Int × List Int)) × Int × Unit) × Bool × Unit) × (Unit))) (c_s_BuildGraph : (List (Int × Int)) → Option ((((List (Int × Int × List Int)) × Int × Unit) × Bool × Unit) × (Unit))) (c_l_equalGraph : (List (Int × Int × List Int)) → Int → (List (Int × Int × List Int)) → Int → Option ((Bool × Unit) × (Unit))) (c_i_RunOps : (List (Int × Int)) → Option ((((List (Int × Int × List Int)) × List Int × List Int × Bool × Unit) × Int × Unit) × (Unit))) (c_l_equalNodes : (List (Int × Int × List Int)) → (List (Int × Int × List Int)) → Option ((Bool × Unit) × (Unit))) (code : List Int) : Option ((Bool × Unit) × (Unit)) :=
  bif decide ((len code) > 1048576) then
    some ((true, ()), ())
  else
    (c_s_DrawBuildGraph code).bind fun r14 =>
    (c_i_BuildGraph r14.1.1).bind fun r17 =>
    (c_s_BuildGraph r14.1.1).bind fun r22 =>
    (c_l_equalGraph r17.1.1.1 r17.1.1.2.1 r22.1.1.1 r22.1.1.2.1).bind fun r27 =>
    bif (!r27.1.1) then
      jn (fun t => B_l_FnBuildGraph_J0 k c_s_DrawBuildGraph c_i_BuildGraph c_s_BuildGraph c_l_equalGraph c_i_RunOps c_l_equalNodes t.1 t.2.1.1 t.2.1.2.1 t.2.2.1 t.2.2.2.1) (r14.1.1, (r17.1.1.1, r17.1.1.2.1, ()), r17.1.2.1, true, ())
    else
      jn (fun t => B_l_FnBuildGraph_J0 k c_s_DrawBuildGraph c_i_BuildGraph c_s_BuildGraph c_l_equalGraph c_i_RunOps c_l_equalNodes t.1 t.2.1.1 t.2.1.2.1 t.2.2.1 t.2.2.2.1) (r14.1.1, (r17.1.1.1, r17.1.1.2.1, ()), r17.1.2.1, (!(r17.1.2.1 == r22.1.2.1)), ())
def F_l_FnBuildGraph : Nat → List Int → Option ((Bool × Unit) × (Unit))
  | 0, _ => none
  | k + 1, code => B_l_FnBuildGraph k (F_s_DrawBuildGraph k) (F_i_BuildGraph k) (F_s_BuildGraph k) (F_l_equalGraph k) (F_i_RunOps k) (F_l_equalNodes k) code
theorem F_l_FnBuildGraph_succ (k : Nat) (code : List Int) : F_l_FnBuildGraph (k + 1) code = B_l_FnBuildGraph k (F_s_DrawBuildGraph k) (F_i_BuildGraph k) (F_s_BuildGraph k) (F_l_equalGraph k) (F_i_RunOps k) (F_l_equalNodes k) code := rfl
theorem tot_l_FnBuildGraph {code : List Int} {Q : (((Bool × Unit) × (Unit))) → Prop} (h : Tot (fun σ => B_l_FnBuildGraph (σ 0) (F_s_DrawBuildGraph (σ 0)) (F_i_BuildGraph (σ 0)) (F_s_BuildGraph (σ 0)) (F_l_equalGraph (σ 0)) (F_i_RunOps (σ 0)) (F_l_equalNodes (σ 0)) code) Q) : Tot (fun σ => F_l_FnBuildGraph (σ 0) code) Q :=
  Tot.call (F := fun k => F_l_FnBuildGraph k code) (B := fun k => B_l_FnBuildGraph k (F_s_DrawBuildGraph k) (F_i_BuildGraph k) (F_s_BuildGraph k) (F_l_equalGraph k) (F_i_RunOps k) (F_l_equalNodes k) code) (fun k => F_l_FnBuildGraph_succ k code) h
end Go.Gx

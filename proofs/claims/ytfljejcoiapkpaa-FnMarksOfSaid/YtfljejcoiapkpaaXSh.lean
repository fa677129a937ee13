/-
  The functions, as Gx tells them (printed by gen.py).
-/
import Derived.Test.YtfljejcoiapkpaaXSh1
set_option linter.unusedVariables false
namespace Go.Gx
def F_i_Machine_nodes : Nat → (List (Int × Int × List Int)) → List Int → List Int → Bool → Option ((Int × Unit) × (((List (Int × Int × List Int)) × List Int × List Int × Bool × Unit) × Unit))
  | 0, _, _, _, _ => none
  | k + 1, m_Nodes, m_Stack, m_Memo, m_Done => B_i_Machine_nodes k m_Nodes m_Stack m_Memo m_Done
theorem F_i_Machine_nodes_succ (k : Nat) (m_Nodes : List (Int × Int × List Int)) (m_Stack : List Int) (m_Memo : List Int) (m_Done : Bool) : F_i_Machine_nodes (k + 1) m_Nodes m_Stack m_Memo m_Done = B_i_Machine_nodes k m_Nodes m_Stack m_Memo m_Done := rfl
theorem tot_i_Machine_nodes {m_Nodes : List (Int × Int × List Int)} {m_Stack : List Int} {m_Memo : List Int} {m_Done : Bool} {Q : (((Int × Unit) × (((List (Int × Int × List Int)) × List Int × List Int × Bool × Unit) × Unit))) → Prop} (h : Tot (fun σ => B_i_Machine_nodes (σ 0) m_Nodes m_Stack m_Memo m_Done) Q) : Tot (fun σ => F_i_Machine_nodes (σ 0) m_Nodes m_Stack m_Memo m_Done) Q :=
  Tot.call (F := fun k => F_i_Machine_nodes k m_Nodes m_Stack m_Memo m_Done) (B := fun k => B_i_Machine_nodes k m_Nodes m_Stack m_Memo m_Done) (fun k => F_i_Machine_nodes_succ k m_Nodes m_Stack m_Memo m_Done) h
theorem loop_i_Machine_nodes_L1 {Q : (List (Int × Int × List Int)) → List Int → List Int → Bool → Int → ((Int × Unit) × (((List (Int × Int × List Int)) × List Int × List Int × Bool × Unit) × Unit)) → Prop} (I : (List (Int × Int × List Int)) → List Int → List Int → Bool → Int → Prop) (μ : (List (Int × Int × List Int)) → List Int → List Int → Bool → Int → Nat)
    (step : ∀ (m_Nodes : List (Int × Int × List Int)) (m_Stack : List Int) (m_Memo : List Int) (m_Done : Bool) (n3 : Int), I m_Nodes m_Stack m_Memo m_Done n3 → ∀ again : (Nat → Nat) → (((List (Int × Int × List Int)) × List Int × List Int × Bool × Unit) × Int × Unit) → Option ((Int × Unit) × (((List (Int × Int × List Int)) × List Int × List Int × Bool × Unit) × Unit)), Dep 2 again → (∀ (y0 : List (Int × Int × List Int)) (y1 : List Int) (y2 : List Int) (y3 : Bool) (y4 : Int), I y0 y1 y2 y3 y4 → μ y0 y1 y2 y3 y4 < μ m_Nodes m_Stack m_Memo m_Done n3 → Tot (fun σ => again σ ((y0, y1, y2, y3, ()), y4, ())) (Q y0 y1 y2 y3 y4)) →
      Tot (fun σ => B_i_Machine_nodes_L1b (σ 0) (again σ) m_Nodes m_Stack m_Memo m_Done n3) (Q m_Nodes m_Stack m_Memo m_Done n3)) :
    ∀ (m_Nodes : List (Int × Int × List Int)) (m_Stack : List Int) (m_Memo : List Int) (m_Done : Bool) (n3 : Int), I m_Nodes m_Stack m_Memo m_Done n3 → Tot (fun σ => B_i_Machine_nodes_L1 (σ 0) (σ 0) ((m_Nodes, m_Stack, m_Memo, m_Done, ()), n3, ())) (Q m_Nodes m_Stack m_Memo m_Done n3) := fun m_Nodes m_Stack m_Memo m_Done n3 hI =>
  Tot.loop (L := fun σ n t => B_i_Machine_nodes_L1 (σ 0) n t) (B := fun σ g t => B_i_Machine_nodes_L1b (σ 0) g t.1.1 t.1.2.1 t.1.2.2.1 t.1.2.2.2.1 t.2.1) (Q := fun t => Q t.1.1 t.1.2.1 t.1.2.2.1 t.1.2.2.2.1 t.2.1) 1 (by decide)
    (fun s s' h => by have e0 : s 0 = s' 0 := h 0 (by decide); simp only [e0]) (fun s s' h => by have e0 : s 0 = s' 0 := h 0 (by decide); simp only [e0]) (fun _ _ _ => rfl) (fun t => I t.1.1 t.1.2.1 t.1.2.2.1 t.1.2.2.2.1 t.2.1) (fun t => μ t.1.1 t.1.2.1 t.1.2.2.1 t.1.2.2.2.1 t.2.1)
    (fun t ht again hag h => step t.1.1 t.1.2.1 t.1.2.2.1 t.1.2.2.2.1 t.2.1 ht again hag (fun y0 y1 y2 y3 y4 hI hm => h ((y0, y1, y2, y3, ()), y4, ()) hI hm)) ((m_Nodes, m_Stack, m_Memo, m_Done, ()), n3, ()) hI
def B_i_Machine_push (k : Nat) (m_Nodes : List (Int × Int × List Int)) (m_Stack : List Int) (m_Memo : List Int) (m_Done : Bool) (i : Int) : Option ((Bool × Unit) × (((List (Int × Int × List Int)) × List Int × List Int × Bool × Unit) × Unit)) :=
  chk (room m_Stack.length ([i]).length) <|
  some ((decide ((len (m_Stack ++ [i])) ≤ 300), ()), ((m_Nodes, (m_Stack ++ [i]), m_Memo, m_Done, ()), ()))
def F_i_Machine_push : Nat → (List (Int × Int × List Int)) → List Int → List Int → Bool → Int → Option ((Bool × Unit) × (((List (Int × Int × List Int)) × List Int × List Int × Bool × Unit) × Unit))
  | 0, _, _, _, _, _ => none
  | k + 1, m_Nodes, m_Stack, m_Memo, m_Done, i => B_i_Machine_push k m_Nodes m_Stack m_Memo m_Done i
theorem F_i_Machine_push_succ (k : Nat) (m_Nodes : List (Int × Int × List Int)) (m_Stack : List Int) (m_Memo : List Int) (m_Done : Bool) (i : Int) : F_i_Machine_push (k + 1) m_Nodes m_Stack m_Memo m_Done i = B_i_Machine_push k m_Nodes m_Stack m_Memo m_Done i := rfl
theorem tot_i_Machine_push {m_Nodes : List (Int × Int × List Int)} {m_Stack : List Int} {m_Memo : List Int} {m_Done : Bool} {i : Int} {Q : (((Bool × Unit) × (((List (Int × Int × List Int)) × List Int × List Int × Bool × Unit) × Unit))) → Prop} (h : Tot (fun σ => B_i_Machine_push (σ 0) m_Nodes m_Stack m_Memo m_Done i) Q) : Tot (fun σ => F_i_Machine_push (σ 0) m_Nodes m_Stack m_Memo m_Done i) Q :=
  Tot.call (F := fun k => F_i_Machine_push k m_Nodes m_Stack m_Memo m_Done i) (B := fun k => B_i_Machine_push k m_Nodes m_Stack m_Memo m_Done i) (fun k => F_i_Machine_push_succ k m_Nodes m_Stack m_Memo m_Done i) h
def B_i_Machine_make (k : Nat) (c_slices_Clone_int_int : List Int → Option ((List Int × Unit) × (Unit))) (c_i_Machine_push : (List (Int × Int × List Int)) → List Int → List Int → Bool → Int → Option ((Bool × Unit) × (((List (Int × Int × List Int)) × List Int × List Int × Bool × Unit) × Unit))) (m_Nodes : List (Int × Int × List Int)) (m_Stack : List Int) (m_Memo : List Int) (m_Done : Bool) (kind : Int) (value : Int) (kids : List Int) : Option ((Bool × Unit) × (((List (Int × Int × List Int)) × List Int × List Int × Bool × Unit) × Unit)) :=
  (c_slices_Clone_int_int kids).bind fun r17 =>
  chk (room m_Nodes.length ([(kind, (value, r17.1.1))]).length) <|
  bif decide ((len (m_Nodes ++ [(kind, (value, r17.1.1))])) ≤ 300) then
    (c_i_Machine_push (m_Nodes ++ [(kind, (value, r17.1.1))]) m_Stack m_Memo m_Done (w64 ((len (m_Nodes ++ [(kind, (value, r17.1.1))])) - 1))).bind fun r37 =>
    some ((r37.1.1, ()), ((r37.2.1.1, r37.2.1.2.1, r37.2.1.2.2.1, r37.2.1.2.2.2.1, ()), ()))
  else
    some ((false, ()), (((m_Nodes ++ [(kind, (value, r17.1.1))]), m_Stack, m_Memo, m_Done, ()), ()))
def F_i_Machine_make : Nat → (List (Int × Int × List Int)) → List Int → List Int → Bool → Int → Int → List Int → Option ((Bool × Unit) × (((List (Int × Int × List Int)) × List Int × List Int × Bool × Unit) × Unit))
  | 0, _, _, _, _, _, _, _ => none
  | k + 1, m_Nodes, m_Stack, m_Memo, m_Done, kind, value, kids => B_i_Machine_make k (F_slices_Clone_int_int k) (F_i_Machine_push k) m_Nodes m_Stack m_Memo m_Done kind value kids
theorem F_i_Machine_make_succ (k : Nat) (m_Nodes : List (Int × Int × List Int)) (m_Stack : List Int) (m_Memo : List Int) (m_Done : Bool) (kind : Int) (value : Int) (kids : List Int) : F_i_Machine_make (k + 1) m_Nodes m_Stack m_Memo m_Done kind value kids = B_i_Machine_make k (F_slices_Clone_int_int k) (F_i_Machine_push k) m_Nodes m_Stack m_Memo m_Done kind value kids := rfl
theorem tot_i_Machine_make {m_Nodes : List (Int × Int × List Int)} {m_Stack : List Int} {m_Memo : List Int} {m_Done : Bool} {kind : Int} {value : Int} {kids : List Int} {Q : (((Bool × Unit) × (((List (Int × Int × List Int)) × List Int × List Int × Bool × Unit) × Unit))) → Prop} (h : Tot (fun σ => B_i_Machine_make (σ 0) (F_slices_Clone_int_int (σ 0)) (F_i_Machine_push (σ 0)) m_Nodes m_Stack m_Memo m_Done kind value kids) Q) : Tot (fun σ => F_i_Machine_make (σ 0) m_Nodes m_Stack m_Memo m_Done kind value kids) Q :=
  Tot.call (F := fun k => F_i_Machine_make k m_Nodes m_Stack m_Memo m_Done kind value kids) (B := fun k => B_i_Machine_make k (F_slices_Clone_int_int k) (F_i_Machine_push k) m_Nodes m_Stack m_Memo m_Done kind value kids) (fun k => F_i_Machine_make_succ k m_Nodes m_Stack m_Memo m_Done kind value kids) h
def B_i_Machine_take (k : Nat) (c_slices_Clone_int_int : List Int → Option ((List Int × Unit) × (Unit))) (m_Nodes : List (Int × Int × List Int)) (m_Stack : List Int) (m_Memo : List Int) (m_Done : Bool) (n1 : Int) : Option ((List Int × Unit) × (((List (Int × Int × List Int)) × List Int × List Int × Bool × Unit) × Unit)) :=
  chk (cutb (w64 ((len m_Stack) - n1)) (len m_Stack) m_Stack.length) <|
  (c_slices_Clone_int_int ((m_Stack.take ((len m_Stack).toNat)).drop ((w64 ((len m_Stack) - n1)).toNat))).bind fun r20 =>
  chk (cutb 0 (w64 ((len m_Stack) - n1)) m_Stack.length) <|
  some ((r20.1.1, ()), ((m_Nodes, (m_Stack.take ((w64 ((len m_Stack) - n1)).toNat)), m_Memo, m_Done, ()), ()))
def F_i_Machine_take : Nat → (List (Int × Int × List Int)) → List Int → List Int → Bool → Int → Option ((List Int × Unit) × (((List (Int × Int × List Int)) × List Int × List Int × Bool × Unit) × Unit))
  | 0, _, _, _, _, _ => none
  | k + 1, m_Nodes, m_Stack, m_Memo, m_Done, n1 => B_i_Machine_take k (F_slices_Clone_int_int k) m_Nodes m_Stack m_Memo m_Done n1
theorem F_i_Machine_take_succ (k : Nat) (m_Nodes : List (Int × Int × List Int)) (m_Stack : List Int) (m_Memo : List Int) (m_Done : Bool) (n1 : Int) : F_i_Machine_take (k + 1) m_Nodes m_Stack m_Memo m_Done n1 = B_i_Machine_take k (F_slices_Clone_int_int k) m_Nodes m_Stack m_Memo m_Done n1 := rfl
theorem tot_i_Machine_take {m_Nodes : List (Int × Int × List Int)} {m_Stack : List Int} {m_Memo : List Int} {m_Done : Bool} {n1 : Int} {Q : (((List Int × Unit) × (((List (Int × Int × List Int)) × List Int × List Int × Bool × Unit) × Unit))) → Prop} (h : Tot (fun σ => B_i_Machine_take (σ 0) (F_slices_Clone_int_int (σ 0)) m_Nodes m_Stack m_Memo m_Done n1) Q) : Tot (fun σ => F_i_Machine_take (σ 0) m_Nodes m_Stack m_Memo m_Done n1) Q :=
  Tot.call (F := fun k => F_i_Machine_take k m_Nodes m_Stack m_Memo m_Done n1) (B := fun k => B_i_Machine_take k (F_slices_Clone_int_int k) m_Nodes m_Stack m_Memo m_Done n1) (fun k => F_i_Machine_take_succ k m_Nodes m_Stack m_Memo m_Done n1) h
def B_i_Machine_above (k : Nat) (c_i_Machine_nodes : (List (Int × Int × List Int)) → List Int → List Int → Bool → Option ((Int × Unit) × (((List (Int × Int × List Int)) × List Int × List Int × Bool × Unit) × Unit))) (c_i_Machine_take : (List (Int × Int × List Int)) → List Int → List Int → Bool → Int → Option ((List Int × Unit) × (((List (Int × Int × List Int)) × List Int × List Int × Bool × Unit) × Unit))) (m_Nodes : List (Int × Int × List Int)) (m_Stack : List Int) (m_Memo : List Int) (m_Done : Bool) : Option ((List Int × Bool × Unit) × (((List (Int × Int × List Int)) × List Int × List Int × Bool × Unit) × Unit)) :=
  (c_i_Machine_nodes m_Nodes m_Stack m_Memo m_Done).bind fun r6 =>
  bif (r6.1.1 == (len r6.2.1.2.1)) then
    some (([], false, ()), ((r6.2.1.1, r6.2.1.2.1, r6.2.1.2.2.1, r6.2.1.2.2.2.1, ()), ()))
  else
    (c_i_Machine_take r6.2.1.1 r6.2.1.2.1 r6.2.1.2.2.1 r6.2.1.2.2.2.1 (w64 (r6.1.1 + 1))).bind fun r17 =>
    chk (cutb 1 (len r17.1.1) r17.1.1.length) <|
    some ((((r17.1.1.take ((len r17.1.1).toNat)).drop ((1 : Int).toNat)), true, ()), ((r17.2.1.1, r17.2.1.2.1, r17.2.1.2.2.1, r17.2.1.2.2.2.1, ()), ()))
def F_i_Machine_above : Nat → (List (Int × Int × List Int)) → List Int → List Int → Bool → Option ((List Int × Bool × Unit) × (((List (Int × Int × List Int)) × List Int × List Int × Bool × Unit) × Unit))
  | 0, _, _, _, _ => none
  | k + 1, m_Nodes, m_Stack, m_Memo, m_Done => B_i_Machine_above k (F_i_Machine_nodes k) (F_i_Machine_take k) m_Nodes m_Stack m_Memo m_Done
theorem F_i_Machine_above_succ (k : Nat) (m_Nodes : List (Int × Int × List Int)) (m_Stack : List Int) (m_Memo : List Int) (m_Done : Bool) : F_i_Machine_above (k + 1) m_Nodes m_Stack m_Memo m_Done = B_i_Machine_above k (F_i_Machine_nodes k) (F_i_Machine_take k) m_Nodes m_Stack m_Memo m_Done := rfl
theorem tot_i_Machine_above {m_Nodes : List (Int × Int × List Int)} {m_Stack : List Int} {m_Memo : List Int} {m_Done : Bool} {Q : (((List Int × Bool × Unit) × (((List (Int × Int × List Int)) × List Int × List Int × Bool × Unit) × Unit))) → Prop} (h : Tot (fun σ => B_i_Machine_above (σ 0) (F_i_Machine_nodes (σ 0)) (F_i_Machine_take (σ 0)) m_Nodes m_Stack m_Memo m_Done) Q) : Tot (fun σ => F_i_Machine_above (σ 0) m_Nodes m_Stack m_Memo m_Done) Q :=
  Tot.call (F := fun k => F_i_Machine_above k m_Nodes m_Stack m_Memo m_Done) (B := fun k => B_i_Machine_above k (F_i_Machine_nodes k) (F_i_Machine_take k) m_Nodes m_Stack m_Memo m_Done) (fun k => F_i_Machine_above_succ k m_Nodes m_Stack m_Memo m_Done) h
def B_i_Machine_top (k : Nat) (c_i_Machine_nodes : (List (Int × Int × List Int)) → List Int → List Int → Bool → Option ((Int × Unit) × (((List (Int × Int × List Int)) × List Int × List Int × Bool × Unit) × Unit))) (m_Nodes : List (Int × Int × List Int)) (m_Stack : List Int) (m_Memo : List Int) (m_Done : Bool) (kind : Int) : Option ((Option Nat × Bool × Unit) × (((List (Int × Int × List Int)) × List Int × List Int × Bool × Unit) × Unit)) :=
  (c_i_Machine_nodes m_Nodes m_Stack m_Memo m_Done).bind fun r8 =>
  bif (r8.1.1 == 0) then
    some ((none, false, ()), ((r8.2.1.1, r8.2.1.2.1, r8.2.1.2.2.1, r8.2.1.2.2.2.1, ()), ()))
  else
    chk (inb (w64 ((len r8.2.1.2.1) - 1)) r8.2.1.2.1.length) <|
    chk (decide ((w64 ((len r8.2.1.2.1) - 1)).toNat < r8.2.1.2.1.length)) <|
    chk (inb (r8.2.1.2.1.getD ((w64 ((len r8.2.1.2.1) - 1)).toNat) (0 : Int)) r8.2.1.1.length) <|
    chk (decide ((r8.2.1.2.1.getD ((w64 ((len r8.2.1.2.1) - 1)).toNat) (0 : Int)).toNat < r8.2.1.1.length)) <|
    let v31 : Int := (r8.2.1.1.getD ((r8.2.1.2.1.getD ((w64 ((len r8.2.1.2.1) - 1)).toNat) (0 : Int)).toNat) ((0 : Int), ((0 : Int), ([] : List Int)))).1
    some (((some ((r8.2.1.2.1.getD ((w64 ((len r8.2.1.2.1) - 1)).toNat) (0 : Int)).toNat)), (v31 == kind), ()), ((r8.2.1.1, r8.2.1.2.1, r8.2.1.2.2.1, r8.2.1.2.2.2.1, ()), ()))
def F_i_Machine_top : Nat → (List (Int × Int × List Int)) → List Int → List Int → Bool → Int → Option ((Option Nat × Bool × Unit) × (((List (Int × Int × List Int)) × List Int × List Int × Bool × Unit) × Unit))
  | 0, _, _, _, _, _ => none
  | k + 1, m_Nodes, m_Stack, m_Memo, m_Done, kind => B_i_Machine_top k (F_i_Machine_nodes k) m_Nodes m_Stack m_Memo m_Done kind
theorem F_i_Machine_top_succ (k : Nat) (m_Nodes : List (Int × Int × List Int)) (m_Stack : List Int) (m_Memo : List Int) (m_Done : Bool) (kind : Int) : F_i_Machine_top (k + 1) m_Nodes m_Stack m_Memo m_Done kind = B_i_Machine_top k (F_i_Machine_nodes k) m_Nodes m_Stack m_Memo m_Done kind := rfl
theorem tot_i_Machine_top {m_Nodes : List (Int × Int × List Int)} {m_Stack : List Int} {m_Memo : List Int} {m_Done : Bool} {kind : Int} {Q : (((Option Nat × Bool × Unit) × (((List (Int × Int × List Int)) × List Int × List Int × Bool × Unit) × Unit))) → Prop} (h : Tot (fun σ => B_i_Machine_top (σ 0) (F_i_Machine_nodes (σ 0)) m_Nodes m_Stack m_Memo m_Done kind) Q) : Tot (fun σ => F_i_Machine_top (σ 0) m_Nodes m_Stack m_Memo m_Done kind) Q :=
  Tot.call (F := fun k => F_i_Machine_top k m_Nodes m_Stack m_Memo m_Done kind) (B := fun k => B_i_Machine_top k (F_i_Machine_nodes k) m_Nodes m_Stack m_Memo m_Done kind) (fun k => F_i_Machine_top_succ k m_Nodes m_Stack m_Memo m_Done kind) h
def B_i_findKey_J0 (k : Nat) (again1 : ((List (Int × Int × List Int)) × List Int × (Int × Int × Unit × Unit) × Int × Unit) → Option ((Int × Unit) × (Unit))) (nodes : List (Int × Int × List Int)) (kids : List Int) (key_Kind : Int) (key_Value : Int) (i : Int) (t33 : Bool) : Option ((Int × Unit) × (Unit)) :=
  bif t33 then
    some ((i, ()), ())
  else
    again1 (nodes, kids, (key_Kind, key_Value, (), ()), w64 (i + 2), ())
def B_i_findKey_L1b (k : Nat) (again1 : ((List (Int × Int × List Int)) × List Int × (Int × Int × Unit × Unit) × Int × Unit) → Option ((Int × Unit) × (Unit))) (nodes : List (Int × Int × List Int)) (kids : List Int) (key_Kind : Int) (key_Value : Int) (i : Int) : Option ((Int × Unit) × (Unit)) :=
  bif decide (i < (len kids)) then
    chk (inb i kids.length) <|
    chk (inb (rdx (0 : Int) kids i) nodes.length) <|
    let v26 : Bool := (((rdx ((0 : Int), ((0 : Int), ([] : List Int))) nodes (rdx (0 : Int) kids i)).1) == key_Kind)
    bif v26 then
      let v32 : Bool := ((((rdx ((0 : Int), ((0 : Int), ([] : List Int))) nodes (rdx (0 : Int) kids i)).2).1) == key_Value)
      jn (fun t => B_i_findKey_J0 k again1 t.1 t.2.1 t.2.2.1.1 t.2.2.1.2.1 t.2.2.2.1 t.2.2.2.2.1) (nodes, kids, (key_Kind, key_Value, (), ()), i, v32, ())
    else
      jn (fun t => B_i_findKey_J0 k again1 t.1 t.2.1 t.2.2.1.1 t.2.2.1.2.1 t.2.2.2.1 t.2.2.2.2.1) (nodes, kids, (key_Kind, key_Value, (), ()), i, false, ())
  else
    some (((-1), ()), ())
def B_i_findKey_L1 (k : Nat) (n : Nat) (t : (List (Int × Int × List Int)) × List Int × (Int × Int × Unit × Unit) × Int × Unit) : Option ((Int × Unit) × (Unit)) :=
  lfix n (fun again t => B_i_findKey_L1b k again t.1 t.2.1 t.2.2.1.1 t.2.2.1.2.1 t.2.2.2.1) t
def B_i_findKey (k : Nat) (nodes : List (Int × Int × List Int)) (kids : List Int) (key_0 : Int) (key_1 : Int) : Option ((Int × Unit) × (Unit)) :=
  B_i_findKey_L1 k k (nodes, kids, (key_0, key_1, (), ()), 0, ())
def F_i_findKey : Nat → (List (Int × Int × List Int)) → List Int → Int → Int → Option ((Int × Unit) × (Unit))
  | 0, _, _, _, _ => none
  | k + 1, nodes, kids, key_0, key_1 => B_i_findKey k nodes kids key_0 key_1
theorem F_i_findKey_succ (k : Nat) (nodes : List (Int × Int × List Int)) (kids : List Int) (key_0 : Int) (key_1 : Int) : F_i_findKey (k + 1) nodes kids key_0 key_1 = B_i_findKey k nodes kids key_0 key_1 := rfl
theorem tot_i_findKey {nodes : List (Int × Int × List Int)} {kids : List Int} {key_0 : Int} {key_1 : Int} {Q : (((Int × Unit) × (Unit))) → Prop} (h : Tot (fun σ => B_i_findKey (σ 0) nodes kids key_0 key_1) Q) : Tot (fun σ => F_i_findKey (σ 0) nodes kids key_0 key_1) Q :=
  Tot.call (F := fun k => F_i_findKey k nodes kids key_0 key_1) (B := fun k => B_i_findKey k nodes kids key_0 key_1) (fun k => F_i_findKey_succ k nodes kids key_0 key_1) h
theorem loop_i_findKey_L1 {Q : (List (Int × Int × List Int)) → List Int → Int → Int → Int → ((Int × Unit) × (Unit)) → Prop} (I : (List (Int × Int × List Int)) → List Int → Int → Int → Int → Prop) (μ : (List (Int × Int × List Int)) → List Int → Int → Int → Int → Nat)
    (step : ∀ (nodes : List (Int × Int × List Int)) (kids : List Int) (key_Kind : Int) (key_Value : Int) (i : Int), I nodes kids key_Kind key_Value i → ∀ again : (Nat → Nat) → ((List (Int × Int × List Int)) × List Int × (Int × Int × Unit × Unit) × Int × Unit) → Option ((Int × Unit) × (Unit)), Dep 2 again → (∀ (y0 : List (Int × Int × List Int)) (y1 : List Int) (y2 : Int) (y3 : Int) (y4 : Int), I y0 y1 y2 y3 y4 → μ y0 y1 y2 y3 y4 < μ nodes kids key_Kind key_Value i → Tot (fun σ => again σ (y0, y1, (y2, y3, (), ()), y4, ())) (Q y0 y1 y2 y3 y4)) →
      Tot (fun σ => B_i_findKey_L1b (σ 0) (again σ) nodes kids key_Kind key_Value i) (Q nodes kids key_Kind key_Value i)) :
    ∀ (nodes : List (Int × Int × List Int)) (kids : List Int) (key_Kind : Int) (key_Value : Int) (i : Int), I nodes kids key_Kind key_Value i → Tot (fun σ => B_i_findKey_L1 (σ 0) (σ 0) (nodes, kids, (key_Kind, key_Value, (), ()), i, ())) (Q nodes kids key_Kind key_Value i) := fun nodes kids key_Kind key_Value i hI =>
  Tot.loop (L := fun σ n t => B_i_findKey_L1 (σ 0) n t) (B := fun σ g t => B_i_findKey_L1b (σ 0) g t.1 t.2.1 t.2.2.1.1 t.2.2.1.2.1 t.2.2.2.1) (Q := fun t => Q t.1 t.2.1 t.2.2.1.1 t.2.2.1.2.1 t.2.2.2.1) 1 (by decide)
    (fun s s' h => by have e0 : s 0 = s' 0 := h 0 (by decide); simp only [e0]) (fun s s' h => by have e0 : s 0 = s' 0 := h 0 (by decide); simp only [e0]) (fun _ _ _ => rfl) (fun t => I t.1 t.2.1 t.2.2.1.1 t.2.2.1.2.1 t.2.2.2.1) (fun t => μ t.1 t.2.1 t.2.2.1.1 t.2.2.1.2.1 t.2.2.2.1)
    (fun t ht again hag h => step t.1 t.2.1 t.2.2.1.1 t.2.2.1.2.1 t.2.2.2.1 ht again hag (fun y0 y1 y2 y3 y4 hI hm => h (y0, y1, (y2, y3, (), ()), y4, ()) hI hm)) (nodes, kids, (key_Kind, key_Value, (), ()), i, ()) hI
def B_i_Machine_set_J2 (k : Nat) (c_i_Machine_top : (List (Int × Int × List Int)) → List Int → List Int → Bool → Int → Option ((Option Nat × Bool × Unit) × (((List (Int × Int × List Int)) × List Int × List Int × Bool × Unit) × Unit))) (c_i_findKey : (List (Int × Int × List Int)) → List Int → Int → Int → Option ((Int × Unit) × (Unit))) (again3 : (((List (Int × Int × List Int)) × List Int × List Int × Bool × Unit) × List Int × Int × Option Nat × Unit) → Option ((Bool × Unit) × (((List (Int × Int × List Int)) × List Int × List Int × Bool × Unit) × Unit))) (m_Nodes : List (Int × Int × List Int)) (m_Stack : List Int) (m_Memo : List Int) (m_Done : Bool) (pairs : List Int) (i : Int) (x : Option Nat) : Option ((Bool × Unit) × (((List (Int × Int × List Int)) × List Int × List Int × Bool × Unit) × Unit)) :=
  again3 ((m_Nodes, m_Stack, m_Memo, m_Done, ()), pairs, w64 (i + 2), x, ())
def B_i_Machine_set_L3b (k : Nat) (c_i_Machine_top : (List (Int × Int × List Int)) → List Int → List Int → Bool → Int → Option ((Option Nat × Bool × Unit) × (((List (Int × Int × List Int)) × List Int × List Int × Bool × Unit) × Unit))) (c_i_findKey : (List (Int × Int × List Int)) → List Int → Int → Int → Option ((Int × Unit) × (Unit))) (again3 : (((List (Int × Int × List Int)) × List Int × List Int × Bool × Unit) × List Int × Int × Option Nat × Unit) → Option ((Bool × Unit) × (((List (Int × Int × List Int)) × List Int × List Int × Bool × Unit) × Unit))) (m_Nodes : List (Int × Int × List Int)) (m_Stack : List Int) (m_Memo : List Int) (m_Done : Bool) (pairs : List Int) (i : Int) (x : Option Nat) : Option ((Bool × Unit) × (((List (Int × Int × List Int)) × List Int × List Int × Bool × Unit) × Unit)) :=
  bif decide (i < (len pairs)) then
    chk (inb i pairs.length) <|
    chk (inb (rdx (0 : Int) pairs i) m_Nodes.length) <|
    chk (decide ((rdx (0 : Int) pairs i).toNat < m_Nodes.length)) <|
    (x).bind fun p16 =>
    chk (decide (p16 < m_Nodes.length)) <|
    (c_i_findKey (m_Nodes.set p16 ((m_Nodes.getD p16 ((0 : Int), ((0 : Int), ([] : List Int)))).1, (((m_Nodes.getD p16 ((0 : Int), ((0 : Int), ([] : List Int)))).2).1, ((m_Nodes.getD p16 ((0 : Int), ((0 : Int), ([] : List Int)))).2).2))) (((m_Nodes.getD p16 ((0 : Int), ((0 : Int), ([] : List Int)))).2).2) ((m_Nodes.getD ((rdx (0 : Int) pairs i).toNat) ((0 : Int), ((0 : Int), ([] : List Int)))).1) (((m_Nodes.getD ((rdx (0 : Int) pairs i).toNat) ((0 : Int), ((0 : Int), ([] : List Int)))).2).1)).bind fun r67 =>
    bif decide (r67.1.1 ≥ 0) then
      (x).bind fun p17 =>
      chk (decide (p17 < (m_Nodes.set p16 ((m_Nodes.getD p16 ((0 : Int), ((0 : Int), ([] : List Int)))).1, (((m_Nodes.getD p16 ((0 : Int), ((0 : Int), ([] : List Int)))).2).1, ((m_Nodes.getD p16 ((0 : Int), ((0 : Int), ([] : List Int)))).2).2))).length)) <|
      chk (inb (w64 (i + 1)) pairs.length) <|
      chk (inb (w64 (r67.1.1 + 1)) ((((m_Nodes.set p16 ((m_Nodes.getD p16 ((0 : Int), ((0 : Int), ([] : List Int)))).1, (((m_Nodes.getD p16 ((0 : Int), ((0 : Int), ([] : List Int)))).2).1, ((m_Nodes.getD p16 ((0 : Int), ((0 : Int), ([] : List Int)))).2).2))).getD p17 ((0 : Int), ((0 : Int), ([] : List Int)))).2).2).length) <|
      chk (decide ((w64 (r67.1.1 + 1)).toNat < ((((m_Nodes.set p16 ((m_Nodes.getD p16 ((0 : Int), ((0 : Int), ([] : List Int)))).1, (((m_Nodes.getD p16 ((0 : Int), ((0 : Int), ([] : List Int)))).2).1, ((m_Nodes.getD p16 ((0 : Int), ((0 : Int), ([] : List Int)))).2).2))).getD p17 ((0 : Int), ((0 : Int), ([] : List Int)))).2).2).length)) <|
      let w18 : List (Int × Int × List Int) := ((m_Nodes.set p16 ((m_Nodes.getD p16 ((0 : Int), ((0 : Int), ([] : List Int)))).1, (((m_Nodes.getD p16 ((0 : Int), ((0 : Int), ([] : List Int)))).2).1, ((m_Nodes.getD p16 ((0 : Int), ((0 : Int), ([] : List Int)))).2).2))).set p17 (((m_Nodes.set p16 ((m_Nodes.getD p16 ((0 : Int), ((0 : Int), ([] : List Int)))).1, (((m_Nodes.getD p16 ((0 : Int), ((0 : Int), ([] : List Int)))).2).1, ((m_Nodes.getD p16 ((0 : Int), ((0 : Int), ([] : List Int)))).2).2))).getD p17 ((0 : Int), ((0 : Int), ([] : List Int)))).1, ((((m_Nodes.set p16 ((m_Nodes.getD p16 ((0 : Int), ((0 : Int), ([] : List Int)))).1, (((m_Nodes.getD p16 ((0 : Int), ((0 : Int), ([] : List Int)))).2).1, ((m_Nodes.getD p16 ((0 : Int), ((0 : Int), ([] : List Int)))).2).2))).getD p17 ((0 : Int), ((0 : Int), ([] : List Int)))).2).1, (((((m_Nodes.set p16 ((m_Nodes.getD p16 ((0 : Int), ((0 : Int), ([] : List Int)))).1, (((m_Nodes.getD p16 ((0 : Int), ((0 : Int), ([] : List Int)))).2).1, ((m_Nodes.getD p16 ((0 : Int), ((0 : Int), ([] : List Int)))).2).2))).getD p17 ((0 : Int), ((0 : Int), ([] : List Int)))).2).2).set ((w64 (r67.1.1 + 1)).toNat) (rdx (0 : Int) pairs (w64 (i + 1)))))))
      jn (fun t => B_i_Machine_set_J2 k c_i_Machine_top c_i_findKey again3 t.1.1 t.1.2.1 t.1.2.2.1 t.1.2.2.2.1 t.2.1 t.2.2.1 t.2.2.2.1) ((w18, m_Stack, m_Memo, m_Done, ()), pairs, i, x, ())
    else
      (x).bind fun p19 =>
      chk (decide (p19 < (m_Nodes.set p16 ((m_Nodes.getD p16 ((0 : Int), ((0 : Int), ([] : List Int)))).1, (((m_Nodes.getD p16 ((0 : Int), ((0 : Int), ([] : List Int)))).2).1, ((m_Nodes.getD p16 ((0 : Int), ((0 : Int), ([] : List Int)))).2).2))).length)) <|
      chk (inb i pairs.length) <|
      chk (inb (w64 (i + 1)) pairs.length) <|
      chk (room ((((m_Nodes.set p16 ((m_Nodes.getD p16 ((0 : Int), ((0 : Int), ([] : List Int)))).1, (((m_Nodes.getD p16 ((0 : Int), ((0 : Int), ([] : List Int)))).2).1, ((m_Nodes.getD p16 ((0 : Int), ((0 : Int), ([] : List Int)))).2).2))).getD p19 ((0 : Int), ((0 : Int), ([] : List Int)))).2).2).length ([(rdx (0 : Int) pairs i), (rdx (0 : Int) pairs (w64 (i + 1)))]).length) <|
      (x).bind fun p20 =>
      chk (decide (p20 = p19)) <|
      let w21 : List (Int × Int × List Int) := ((m_Nodes.set p16 ((m_Nodes.getD p16 ((0 : Int), ((0 : Int), ([] : List Int)))).1, (((m_Nodes.getD p16 ((0 : Int), ((0 : Int), ([] : List Int)))).2).1, ((m_Nodes.getD p16 ((0 : Int), ((0 : Int), ([] : List Int)))).2).2))).set p20 (((m_Nodes.set p16 ((m_Nodes.getD p16 ((0 : Int), ((0 : Int), ([] : List Int)))).1, (((m_Nodes.getD p16 ((0 : Int), ((0 : Int), ([] : List Int)))).2).1, ((m_Nodes.getD p16 ((0 : Int), ((0 : Int), ([] : List Int)))).2).2))).getD p20 ((0 : Int), ((0 : Int), ([] : List Int)))).1, ((((m_Nodes.set p16 ((m_Nodes.getD p16 ((0 : Int), ((0 : Int), ([] : List Int)))).1, (((m_Nodes.getD p16 ((0 : Int), ((0 : Int), ([] : List Int)))).2).1, ((m_Nodes.getD p16 ((0 : Int), ((0 : Int), ([] : List Int)))).2).2))).getD p20 ((0 : Int), ((0 : Int), ([] : List Int)))).2).1, ((((m_Nodes.set p16 ((m_Nodes.getD p16 ((0 : Int), ((0 : Int), ([] : List Int)))).1, (((m_Nodes.getD p16 ((0 : Int), ((0 : Int), ([] : List Int)))).2).1, ((m_Nodes.getD p16 ((0 : Int), ((0 : Int), ([] : List Int)))).2).2))).getD p19 ((0 : Int), ((0 : Int), ([] : List Int)))).2).2 ++ [(rdx (0 : Int) pairs i), (rdx (0 : Int) pairs (w64 (i + 1)))]))))
      jn (fun t => B_i_Machine_set_J2 k c_i_Machine_top c_i_findKey again3 t.1.1 t.1.2.1 t.1.2.2.1 t.1.2.2.2.1 t.2.1 t.2.2.1 t.2.2.2.1) ((w21, m_Stack, m_Memo, m_Done, ()), pairs, i, x, ())
  else
    some ((true, ()), ((m_Nodes, m_Stack, m_Memo, m_Done, ()), ()))
def B_i_Machine_set_L3 (k : Nat) (c_i_Machine_top : (List (Int × Int × List Int)) → List Int → List Int → Bool → Int → Option ((Option Nat × Bool × Unit) × (((List (Int × Int × List Int)) × List Int × List Int × Bool × Unit) × Unit))) (c_i_findKey : (List (Int × Int × List Int)) → List Int → Int → Int → Option ((Int × Unit) × (Unit))) (n : Nat) (t : ((List (Int × Int × List Int)) × List Int × List Int × Bool × Unit) × List Int × Int × Option Nat × Unit) : Option ((Bool × Unit) × (((List (Int × Int × List Int)) × List Int × List Int × Bool × Unit) × Unit)) :=
  lfix n (fun again t => B_i_Machine_set_L3b k c_i_Machine_top c_i_findKey again t.1.1 t.1.2.1 t.1.2.2.1 t.1.2.2.2.1 t.2.1 t.2.2.1 t.2.2.2.1) t
def B_i_Machine_set_L1b (k : Nat) (c_i_Machine_top : (List (Int × Int × List Int)) → List Int → List Int → Bool → Int → Option ((Option Nat × Bool × Unit) × (((List (Int × Int × List Int)) × List Int × List Int × Bool × Unit) × Unit))) (c_i_findKey : (List (Int × Int × List Int)) → List Int → Int → Int → Option ((Int × Unit) × (Unit))) (again1 : (((List (Int × Int × List Int)) × List Int × List Int × Bool × Unit) × List Int × Int × Option Nat × Unit) → Option ((Bool × Unit) × (((List (Int × Int × List Int)) × List Int × List Int × Bool × Unit) × Unit))) (m_Nodes : List (Int × Int × List Int)) (m_Stack : List Int) (m_Memo : List Int) (m_Done : Bool) (pairs : List Int) (i : Int) (x : Option Nat) : Option ((Bool × Unit) × (((List (Int × Int × List Int)) × List Int × List Int × Bool × Unit) × Unit)) :=
  bif decide (i < (len pairs)) then
    chk (inb i pairs.length) <|
    chk (inb (rdx (0 : Int) pairs i) m_Nodes.length) <|
    chk (decide ((rdx (0 : Int) pairs i).toNat < m_Nodes.length)) <|
    let v41 : Bool := decide (((m_Nodes.getD ((rdx (0 : Int) pairs i).toNat) ((0 : Int), ((0 : Int), ([] : List Int)))).1) > 1)
    bif v41 then
      some ((false, ()), ((m_Nodes, m_Stack, m_Memo, m_Done, ()), ()))
    else
      again1 ((m_Nodes, m_Stack, m_Memo, m_Done, ()), pairs, w64 (i + 2), x, ())
  else
    B_i_Machine_set_L3 k c_i_Machine_top c_i_findKey k ((m_Nodes, m_Stack, m_Memo, m_Done, ()), pairs, 0, x, ())
def B_i_Machine_set_L1 (k : Nat) (c_i_Machine_top : (List (Int × Int × List Int)) → List Int → List Int → Bool → Int → Option ((Option Nat × Bool × Unit) × (((List (Int × Int × List Int)) × List Int × List Int × Bool × Unit) × Unit))) (c_i_findKey : (List (Int × Int × List Int)) → List Int → Int → Int → Option ((Int × Unit) × (Unit))) (n : Nat) (t : ((List (Int × Int × List Int)) × List Int × List Int × Bool × Unit) × List Int × Int × Option Nat × Unit) : Option ((Bool × Unit) × (((List (Int × Int × List Int)) × List Int × List Int × Bool × Unit) × Unit)) :=
  lfix n (fun again t => B_i_Machine_set_L1b k c_i_Machine_top c_i_findKey again t.1.1 t.1.2.1 t.1.2.2.1 t.1.2.2.2.1 t.2.1 t.2.2.1 t.2.2.2.1) t
def B_i_Machine_set_J0 (k : Nat) (c_i_Machine_top : (List (Int × Int × List Int)) → List Int → List Int → Bool → Int → Option ((Option Nat × Bool × Unit) × (((List (Int × Int × List Int)) × List Int × List Int × Bool × Unit) × Unit))) (c_i_findKey : (List (Int × Int × List Int)) → List Int → Int → Int → Option ((Int × Unit) × (Unit))) (m_Nodes : List (Int × Int × List Int)) (m_Stack : List Int) (m_Memo : List Int) (m_Done : Bool) (pairs : List Int) (t23 : Bool) (x : Option Nat) : Option ((Bool × Unit) × (((List (Int × Int × List Int)) × List Int × List Int × Bool × Unit) × Unit)) :=
  bif t23 then
    some ((false, ()), ((m_Nodes, m_Stack, m_Memo, m_Done, ()), ()))
  else
    B_i_Machine_set_L1 k c_i_Machine_top c_i_findKey k ((m_Nodes, m_Stack, m_Memo, m_Done, ()), pairs, 0, x, ())
def B_i_Machine_set (k : Nat) (c_i_Machine_top : (List (Int × Int × List Int)) → List Int → List Int → Bool → Int → Option ((Option Nat × Bool × Unit) × (((List (Int × Int × List Int)) × List Int × List Int × Bool × Unit) × Unit))) (c_i_findKey : (List (Int × Int × List Int)) → List Int → Int → Int → Option ((Int × Unit) × (Unit))) (m_Nodes : List (Int × Int × List Int)) (m_Stack : List Int) (m_Memo : List Int) (m_Done : Bool) (pairs : List Int) : Option ((Bool × Unit) × (((List (Int × Int × List Int)) × List Int × List Int × Bool × Unit) × Unit)) :=
  (c_i_Machine_top m_Nodes m_Stack m_Memo m_Done 4).bind fun r13 =>
  bif (!r13.1.2.1) then
    jn (fun t => B_i_Machine_set_J0 k c_i_Machine_top c_i_findKey t.1.1 t.1.2.1 t.1.2.2.1 t.1.2.2.2.1 t.2.1 t.2.2.1 t.2.2.2.1) ((r13.2.1.1, r13.2.1.2.1, r13.2.1.2.2.1, r13.2.1.2.2.2.1, ()), pairs, true, r13.1.1, ())
  else
    jn (fun t => B_i_Machine_set_J0 k c_i_Machine_top c_i_findKey t.1.1 t.1.2.1 t.1.2.2.1 t.1.2.2.2.1 t.2.1 t.2.2.1 t.2.2.2.1) ((r13.2.1.1, r13.2.1.2.1, r13.2.1.2.2.1, r13.2.1.2.2.2.1, ()), pairs, (((len pairs).tmod 2) != 0), r13.1.1, ())
def F_i_Machine_set : Nat → (List (Int × Int × List Int)) → List Int → List Int → Bool → List Int → Option ((Bool × Unit) × (((List (Int × Int × List Int)) × List Int × List Int × Bool × Unit) × Unit))
  | 0, _, _, _, _, _ => none
  | k + 1, m_Nodes, m_Stack, m_Memo, m_Done, pairs => B_i_Machine_set k (F_i_Machine_top k) (F_i_findKey k) m_Nodes m_Stack m_Memo m_Done pairs
theorem F_i_Machine_set_succ (k : Nat) (m_Nodes : List (Int × Int × List Int)) (m_Stack : List Int) (m_Memo : List Int) (m_Done : Bool) (pairs : List Int) : F_i_Machine_set (k + 1) m_Nodes m_Stack m_Memo m_Done pairs = B_i_Machine_set k (F_i_Machine_top k) (F_i_findKey k) m_Nodes m_Stack m_Memo m_Done pairs := rfl
theorem tot_i_Machine_set {m_Nodes : List (Int × Int × List Int)} {m_Stack : List Int} {m_Memo : List Int} {m_Done : Bool} {pairs : List Int} {Q : (((Bool × Unit) × (((List (Int × Int × List Int)) × List Int × List Int × Bool × Unit) × Unit))) → Prop} (h : Tot (fun σ => B_i_Machine_set (σ 0) (F_i_Machine_top (σ 0)) (F_i_findKey (σ 0)) m_Nodes m_Stack m_Memo m_Done pairs) Q) : Tot (fun σ => F_i_Machine_set (σ 0) m_Nodes m_Stack m_Memo m_Done pairs) Q :=
  Tot.call (F := fun k => F_i_Machine_set k m_Nodes m_Stack m_Memo m_Done pairs) (B := fun k => B_i_Machine_set k (F_i_Machine_top k) (F_i_findKey k) m_Nodes m_Stack m_Memo m_Done pairs) (fun k => F_i_Machine_set_succ k m_Nodes m_Stack m_Memo m_Done pairs) h
theorem loop_i_Machine_set_L3 {Q : (List (Int × Int × List Int)) → List Int → List Int → Bool → List Int → Int → Option Nat → ((Bool × Unit) × (((List (Int × Int × List Int)) × List Int × List Int × Bool × Unit) × Unit)) → Prop} (I : (List (Int × Int × List Int)) → List Int → List Int → Bool → List Int → Int → Option Nat → Prop) (μ : (List (Int × Int × List Int)) → List Int → List Int → Bool → List Int → Int → Option Nat → Nat)
    (step : ∀ (m_Nodes : List (Int × Int × List Int)) (m_Stack : List Int) (m_Memo : List Int) (m_Done : Bool) (pairs : List Int) (i : Int) (x : Option Nat), I m_Nodes m_Stack m_Memo m_Done pairs i x → ∀ again : (Nat → Nat) → (((List (Int × Int × List Int)) × List Int × List Int × Bool × Unit) × List Int × Int × Option Nat × Unit) → Option ((Bool × Unit) × (((List (Int × Int × List Int)) × List Int × List Int × Bool × Unit) × Unit)), Dep 2 again → (∀ (y0 : List (Int × Int × List Int)) (y1 : List Int) (y2 : List Int) (y3 : Bool) (y4 : List Int) (y5 : Int) (y6 : Option Nat), I y0 y1 y2 y3 y4 y5 y6 → μ y0 y1 y2 y3 y4 y5 y6 < μ m_Nodes m_Stack m_Memo m_Done pairs i x → Tot (fun σ => again σ ((y0, y1, y2, y3, ()), y4, y5, y6, ())) (Q y0 y1 y2 y3 y4 y5 y6)) →
      Tot (fun σ => B_i_Machine_set_L3b (σ 0) (F_i_Machine_top (σ 0)) (F_i_findKey (σ 0)) (again σ) m_Nodes m_Stack m_Memo m_Done pairs i x) (Q m_Nodes m_Stack m_Memo m_Done pairs i x)) :
    ∀ (m_Nodes : List (Int × Int × List Int)) (m_Stack : List Int) (m_Memo : List Int) (m_Done : Bool) (pairs : List Int) (i : Int) (x : Option Nat), I m_Nodes m_Stack m_Memo m_Done pairs i x → Tot (fun σ => B_i_Machine_set_L3 (σ 0) (F_i_Machine_top (σ 0)) (F_i_findKey (σ 0)) (σ 0) ((m_Nodes, m_Stack, m_Memo, m_Done, ()), pairs, i, x, ())) (Q m_Nodes m_Stack m_Memo m_Done pairs i x) := fun m_Nodes m_Stack m_Memo m_Done pairs i x hI =>
  Tot.loop (L := fun σ n t => B_i_Machine_set_L3 (σ 0) (F_i_Machine_top (σ 0)) (F_i_findKey (σ 0)) n t) (B := fun σ g t => B_i_Machine_set_L3b (σ 0) (F_i_Machine_top (σ 0)) (F_i_findKey (σ 0)) g t.1.1 t.1.2.1 t.1.2.2.1 t.1.2.2.2.1 t.2.1 t.2.2.1 t.2.2.2.1) (Q := fun t => Q t.1.1 t.1.2.1 t.1.2.2.1 t.1.2.2.2.1 t.2.1 t.2.2.1 t.2.2.2.1) 1 (by decide)
    (fun s s' h => by have e0 : s 0 = s' 0 := h 0 (by decide); simp only [e0]) (fun s s' h => by have e0 : s 0 = s' 0 := h 0 (by decide); simp only [e0]) (fun _ _ _ => rfl) (fun t => I t.1.1 t.1.2.1 t.1.2.2.1 t.1.2.2.2.1 t.2.1 t.2.2.1 t.2.2.2.1) (fun t => μ t.1.1 t.1.2.1 t.1.2.2.1 t.1.2.2.2.1 t.2.1 t.2.2.1 t.2.2.2.1)
    (fun t ht again hag h => step t.1.1 t.1.2.1 t.1.2.2.1 t.1.2.2.2.1 t.2.1 t.2.2.1 t.2.2.2.1 ht again hag (fun y0 y1 y2 y3 y4 y5 y6 hI hm => h ((y0, y1, y2, y3, ()), y4, y5, y6, ()) hI hm)) ((m_Nodes, m_Stack, m_Memo, m_Done, ()), pairs, i, x, ()) hI
theorem loop_i_Machine_set_L1 {Q : (List (Int × Int × List Int)) → List Int → List Int → Bool → List Int → Int → Option Nat → ((Bool × Unit) × (((List (Int × Int × List Int)) × List Int × List Int × Bool × Unit) × Unit)) → Prop} (I : (List (Int × Int × List Int)) → List Int → List Int → Bool → List Int → Int → Option Nat → Prop) (μ : (List (Int × Int × List Int)) → List Int → List Int → Bool → List Int → Int → Option Nat → Nat)
    (step : ∀ (m_Nodes : List (Int × Int × List Int)) (m_Stack : List Int) (m_Memo : List Int) (m_Done : Bool) (pairs : List Int) (i : Int) (x : Option Nat), I m_Nodes m_Stack m_Memo m_Done pairs i x → ∀ again : (Nat → Nat) → (((List (Int × Int × List Int)) × List Int × List Int × Bool × Unit) × List Int × Int × Option Nat × Unit) → Option ((Bool × Unit) × (((List (Int × Int × List Int)) × List Int × List Int × Bool × Unit) × Unit)), Dep 2 again → (∀ (y0 : List (Int × Int × List Int)) (y1 : List Int) (y2 : List Int) (y3 : Bool) (y4 : List Int) (y5 : Int) (y6 : Option Nat), I y0 y1 y2 y3 y4 y5 y6 → μ y0 y1 y2 y3 y4 y5 y6 < μ m_Nodes m_Stack m_Memo m_Done pairs i x → Tot (fun σ => again σ ((y0, y1, y2, y3, ()), y4, y5, y6, ())) (Q y0 y1 y2 y3 y4 y5 y6)) →
      Tot (fun σ => B_i_Machine_set_L1b (σ 0) (F_i_Machine_top (σ 0)) (F_i_findKey (σ 0)) (again σ) m_Nodes m_Stack m_Memo m_Done pairs i x) (Q m_Nodes m_Stack m_Memo m_Done pairs i x)) :
    ∀ (m_Nodes : List (Int × Int × List Int)) (m_Stack : List Int) (m_Memo : List Int) (m_Done : Bool) (pairs : List Int) (i : Int) (x : Option Nat), I m_Nodes m_Stack m_Memo m_Done pairs i x → Tot (fun σ => B_i_Machine_set_L1 (σ 0) (F_i_Machine_top (σ 0)) (F_i_findKey (σ 0)) (σ 0) ((m_Nodes, m_Stack, m_Memo, m_Done, ()), pairs, i, x, ())) (Q m_Nodes m_Stack m_Memo m_Done pairs i x) := fun m_Nodes m_Stack m_Memo m_Done pairs i x hI =>
  Tot.loop (L := fun σ n t => B_i_Machine_set_L1 (σ 0) (F_i_Machine_top (σ 0)) (F_i_findKey (σ 0)) n t) (B := fun σ g t => B_i_Machine_set_L1b (σ 0) (F_i_Machine_top (σ 0)) (F_i_findKey (σ 0)) g t.1.1 t.1.2.1 t.1.2.2.1 t.1.2.2.2.1 t.2.1 t.2.2.1 t.2.2.2.1) (Q := fun t => Q t.1.1 t.1.2.1 t.1.2.2.1 t.1.2.2.2.1 t.2.1 t.2.2.1 t.2.2.2.1) 1 (by decide)
    (fun s s' h => by have e0 : s 0 = s' 0 := h 0 (by decide); simp only [e0]) (fun s s' h => by have e0 : s 0 = s' 0 := h 0 (by decide); simp only [e0]) (fun _ _ _ => rfl) (fun t => I t.1.1 t.1.2.1 t.1.2.2.1 t.1.2.2.2.1 t.2.1 t.2.2.1 t.2.2.2.1) (fun t => μ t.1.1 t.1.2.1 t.1.2.2.1 t.1.2.2.2.1 t.2.1 t.2.2.1 t.2.2.2.1)
    (fun t ht again hag h => step t.1.1 t.1.2.1 t.1.2.2.1 t.1.2.2.2.1 t.2.1 t.2.2.1 t.2.2.2.1 ht again hag (fun y0 y1 y2 y3 y4 y5 y6 hI hm => h ((y0, y1, y2, y3, ()), y4, y5, y6, ()) hI hm)) ((m_Nodes, m_Stack, m_Memo, m_Done, ()), pairs, i, x, ()) hI
def B_i_Machine_do_J0 (k : Nat) (c_i_Machine_nodes : (List (Int × Int × List Int)) → List Int → List Int → Bool → Option ((Int × Unit) × (((List (Int × Int × List Int)) × List Int × List Int × Bool × Unit) × Unit))) (c_i_Machine_make : (List (Int × Int × List Int)) → List Int → List Int → Bool → Int → Int → List Int → Option ((Bool × Unit) × (((List (Int × Int × List Int)) × List Int × List Int × Bool × Unit) × Unit))) (c_i_Machine_push : (List (Int × Int × List Int)) → List Int → List Int → Bool → Int → Option ((Bool × Unit) × (((List (Int × Int × List Int)) × List Int × List Int × Bool × Unit) × Unit))) (c_i_Machine_above : (List (Int × Int × List Int)) → List Int → List Int → Bool → Option ((List Int × Bool × Unit) × (((List (Int × Int × List Int)) × List Int × List Int × Bool × Unit) × Unit))) (c_i_Machine_take : (List (Int × Int × List Int)) → List Int → List Int → Bool → Int → Option ((List Int × Unit) × (((List (Int × Int × List Int)) × List Int × List Int × Bool × Unit) × Unit))) (c_i_Machine_top : (List (Int × Int × List Int)) → List Int → List Int → Bool → Int → Option ((Option Nat × Bool × Unit) × (((List (Int × Int × List Int)) × List Int × List Int × Bool × Unit) × Unit))) (c_i_Machine_set : (List (Int × Int × List Int)) → List Int → List Int → Bool → List Int → Option ((Bool × Unit) × (((List (Int × Int × List Int)) × List Int × List Int × Bool × Unit) × Unit))) (m_Nodes : List (Int × Int × List Int)) (m_Stack : List Int) (m_Memo : List Int) (m_Done : Bool) (kids : List Int) (t183 : Bool) (x : Option Nat) : Option ((Bool × Unit) × (((Bool × List (Int × Int × List Int)) × List Int × List Int × Bool × Unit) × Unit)) :=
  bif t183 then
    some ((false, ()), (((true, m_Nodes), m_Stack, m_Memo, m_Done, ()), ()))
  else
    (x).bind fun p9 =>
    chk (decide (p9 < m_Nodes.length)) <|
    some ((true, ()), (((true, (m_Nodes.set p9 ((m_Nodes.getD p9 ((0 : Int), ((0 : Int), ([] : List Int)))).1, (((m_Nodes.getD p9 ((0 : Int), ((0 : Int), ([] : List Int)))).2).1, kids)))), m_Stack, m_Memo, m_Done, ()), ()))
def B_i_Machine_do_J1 (k : Nat) (c_i_Machine_nodes : (List (Int × Int × List Int)) → List Int → List Int → Bool → Option ((Int × Unit) × (((List (Int × Int × List Int)) × List Int × List Int × Bool × Unit) × Unit))) (c_i_Machine_make : (List (Int × Int × List Int)) → List Int → List Int → Bool → Int → Int → List Int → Option ((Bool × Unit) × (((List (Int × Int × List Int)) × List Int × List Int × Bool × Unit) × Unit))) (c_i_Machine_push : (List (Int × Int × List Int)) → List Int → List Int → Bool → Int → Option ((Bool × Unit) × (((List (Int × Int × List Int)) × List Int × List Int × Bool × Unit) × Unit))) (c_i_Machine_above : (List (Int × Int × List Int)) → List Int → List Int → Bool → Option ((List Int × Bool × Unit) × (((List (Int × Int × List Int)) × List Int × List Int × Bool × Unit) × Unit))) (c_i_Machine_take : (List (Int × Int × List Int)) → List Int → List Int → Bool → Int → Option ((List Int × Unit) × (((List (Int × Int × List Int)) × List Int × List Int × Bool × Unit) × Unit))) (c_i_Machine_top : (List (Int × Int × List Int)) → List Int → List Int → Bool → Int → Option ((Option Nat × Bool × Unit) × (((List (Int × Int × List Int)) × List Int × List Int × Bool × Unit) × Unit))) (c_i_Machine_set : (List (Int × Int × List Int)) → List Int → List Int → Bool → List Int → Option ((Bool × Unit) × (((List (Int × Int × List Int)) × List Int × List Int × Bool × Unit) × Unit))) (m_Nodes : List (Int × Int × List Int)) (m_Stack : List Int) (m_Memo : List Int) (m_Done : Bool) : Option ((Bool × Unit) × (((Bool × List (Int × Int × List Int)) × List Int × List Int × Bool × Unit) × Unit)) :=
  some ((m_Done, ()), (((true, m_Nodes), m_Stack, m_Memo, m_Done, ()), ()))
def B_i_Machine_do (k : Nat) (c_i_Machine_nodes : (List (Int × Int × List Int)) → List Int → List Int → Bool → Option ((Int × Unit) × (((List (Int × Int × List Int)) × List Int × List Int × Bool × Unit) × Unit))) (c_i_Machine_make : (List (Int × Int × List Int)) → List Int → List Int → Bool → Int → Int → List Int → Option ((Bool × Unit) × (((List (Int × Int × List Int)) × List Int × List Int × Bool × Unit) × Unit))) (c_i_Machine_push : (List (Int × Int × List Int)) → List Int → List Int → Bool → Int → Option ((Bool × Unit) × (((List (Int × Int × List Int)) × List Int × List Int × Bool × Unit) × Unit))) (c_i_Machine_above : (List (Int × Int × List Int)) → List Int → List Int → Bool → Option ((List Int × Bool × Unit) × (((List (Int × Int × List Int)) × List Int × List Int × Bool × Unit) × Unit))) (c_i_Machine_take : (List (Int × Int × List Int)) → List Int → List Int → Bool → Int → Option ((List Int × Unit) × (((List (Int × Int × List Int)) × List Int × List Int × Bool × Unit) × Unit))) (c_i_Machine_top : (List (Int × Int × List Int)) → List Int → List Int → Bool → Int → Option ((Option Nat × Bool × Unit) × (((List (Int × Int × List Int)) × List Int × List Int × Bool × Unit) × Unit))) (c_i_Machine_set : (List (Int × Int × List Int)) → List Int → List Int → Bool → List Int → Option ((Bool × Unit) × (((List (Int × Int × List Int)) × List Int × List Int × Bool × Unit) × Unit))) (m_Nodes : List (Int × Int × List Int)) (m_Stack : List Int) (m_Memo : List Int) (m_Done : Bool) (o_0 : Int) (o_1 : Int) : Option ((Bool × Unit) × (((Bool × List (Int × Int × List Int)) × List Int × List Int × Bool × Unit) × Unit)) :=
  (c_i_Machine_nodes m_Nodes m_Stack m_Memo m_Done).bind fun r23 =>
  bif (o_0 == 0) then
    (c_i_Machine_make r23.2.1.1 r23.2.1.2.1 r23.2.1.2.2.1 r23.2.1.2.2.2.1 0 o_1 ([])).bind fun r31 =>
    some ((r31.1.1, ()), (((false, r31.2.1.1), r31.2.1.2.1, r31.2.1.2.2.1, r31.2.1.2.2.2.1, ()), ()))
  else
    bif (o_0 == 1) then
      (c_i_Machine_make r23.2.1.1 r23.2.1.2.1 r23.2.1.2.2.1 r23.2.1.2.2.2.1 1 o_1 ([])).bind fun r37 =>
      some ((r37.1.1, ()), (((false, r37.2.1.1), r37.2.1.2.1, r37.2.1.2.2.1, r37.2.1.2.2.2.1, ()), ()))
    else
      bif (o_0 == 13) then
        (c_i_Machine_make r23.2.1.1 r23.2.1.2.1 r23.2.1.2.2.1 r23.2.1.2.2.2.1 5 o_1 ([])).bind fun r43 =>
        some ((r43.1.1, ()), (((false, r43.2.1.1), r43.2.1.2.1, r43.2.1.2.2.1, r43.2.1.2.2.2.1, ()), ()))
      else
        bif (o_0 == 4) then
          (c_i_Machine_make r23.2.1.1 r23.2.1.2.1 r23.2.1.2.2.1 r23.2.1.2.2.2.1 2 0 ([])).bind fun r47 =>
          some ((r47.1.1, ()), (((false, r47.2.1.1), r47.2.1.2.1, r47.2.1.2.2.1, r47.2.1.2.2.2.1, ()), ()))
        else
          bif (o_0 == 7) then
            (c_i_Machine_make r23.2.1.1 r23.2.1.2.1 r23.2.1.2.2.1 r23.2.1.2.2.2.1 3 0 ([])).bind fun r51 =>
            some ((r51.1.1, ()), (((false, r51.2.1.1), r51.2.1.2.1, r51.2.1.2.2.1, r51.2.1.2.2.2.1, ()), ()))
          else
            bif (o_0 == 10) then
              (c_i_Machine_make r23.2.1.1 r23.2.1.2.1 r23.2.1.2.2.1 r23.2.1.2.2.2.1 4 0 ([])).bind fun r55 =>
              some ((r55.1.1, ()), (((false, r55.2.1.1), r55.2.1.2.1, r55.2.1.2.2.1, r55.2.1.2.2.2.1, ()), ()))
            else
              bif (o_0 == 2) then
                (c_i_Machine_push r23.2.1.1 r23.2.1.2.1 r23.2.1.2.2.1 r23.2.1.2.2.2.1 (-1)).bind fun r59 =>
                some ((r59.1.1, ()), (((true, r59.2.1.1), r59.2.1.2.1, r59.2.1.2.2.1, r59.2.1.2.2.2.1, ()), ()))
              else
                bif (o_0 == 3) then
                  (c_i_Machine_above r23.2.1.1 r23.2.1.2.1 r23.2.1.2.2.1 r23.2.1.2.2.2.1).bind fun r64 =>
                  bif r64.1.2.1 then
                    (c_i_Machine_make r64.2.1.1 r64.2.1.2.1 r64.2.1.2.2.1 r64.2.1.2.2.2.1 2 0 r64.1.1).bind fun r71 =>
                    some ((r71.1.1, ()), (((false, r71.2.1.1), r71.2.1.2.1, r71.2.1.2.2.1, r71.2.1.2.2.2.1, ()), ()))
                  else
                    some ((false, ()), (((true, r64.2.1.1), r64.2.1.2.1, r64.2.1.2.2.1, r64.2.1.2.2.2.1, ()), ()))
                else
                  bif (o_0 == 5) then
                    bif decide (r23.1.1 ≥ 1) then
                      (c_i_Machine_take r23.2.1.1 r23.2.1.2.1 r23.2.1.2.2.1 r23.2.1.2.2.2.1 1).bind fun r80 =>
                      (c_i_Machine_make r80.2.1.1 r80.2.1.2.1 r80.2.1.2.2.1 r80.2.1.2.2.2.1 2 0 r80.1.1).bind fun r81 =>
                      some ((r81.1.1, ()), (((false, r81.2.1.1), r81.2.1.2.1, r81.2.1.2.2.1, r81.2.1.2.2.2.1, ()), ()))
                    else
                      some ((false, ()), (((true, r23.2.1.1), r23.2.1.2.1, r23.2.1.2.2.1, r23.2.1.2.2.2.1, ()), ()))
                  else
                    bif (o_0 == 6) then
                      bif decide (r23.1.1 ≥ 2) then
                        (c_i_Machine_take r23.2.1.1 r23.2.1.2.1 r23.2.1.2.2.1 r23.2.1.2.2.2.1 2).bind fun r90 =>
                        (c_i_Machine_make r90.2.1.1 r90.2.1.2.1 r90.2.1.2.2.1 r90.2.1.2.2.2.1 2 0 r90.1.1).bind fun r91 =>
                        some ((r91.1.1, ()), (((false, r91.2.1.1), r91.2.1.2.1, r91.2.1.2.2.1, r91.2.1.2.2.2.1, ()), ()))
                      else
                        some ((false, ()), (((true, r23.2.1.1), r23.2.1.2.1, r23.2.1.2.2.1, r23.2.1.2.2.2.1, ()), ()))
                    else
                      bif (o_0 == 8) then
                        bif decide (r23.1.1 < 2) then
                          some ((false, ()), (((true, r23.2.1.1), r23.2.1.2.1, r23.2.1.2.2.1, r23.2.1.2.2.2.1, ()), ()))
                        else
                          (c_i_Machine_take r23.2.1.1 r23.2.1.2.1 r23.2.1.2.2.1 r23.2.1.2.2.2.1 1).bind fun r98 =>
                          (c_i_Machine_top r98.2.1.1 r98.2.1.2.1 r98.2.1.2.2.1 r98.2.1.2.2.2.1 3).bind fun r101 =>
                          bif r101.1.2.1 then
                            (r101.1.1).bind fun p0 =>
                            chk (decide (p0 < r101.2.1.1.length)) <|
                            chk (room (((r101.2.1.1.getD p0 ((0 : Int), ((0 : Int), ([] : List Int)))).2).2).length r98.1.1.length) <|
                            (r101.1.1).bind fun p1 =>
                            chk (decide (p1 = p0)) <|
                            let w2 : List (Int × Int × List Int) := (r101.2.1.1.set p1 ((r101.2.1.1.getD p1 ((0 : Int), ((0 : Int), ([] : List Int)))).1, (((r101.2.1.1.getD p1 ((0 : Int), ((0 : Int), ([] : List Int)))).2).1, (((r101.2.1.1.getD p0 ((0 : Int), ((0 : Int), ([] : List Int)))).2).2 ++ r98.1.1))))
                            some ((r101.1.2.1, ()), (((true, w2), r101.2.1.2.1, r101.2.1.2.2.1, r101.2.1.2.2.2.1, ()), ()))
                          else
                            some ((r101.1.2.1, ()), (((true, r101.2.1.1), r101.2.1.2.1, r101.2.1.2.2.1, r101.2.1.2.2.2.1, ()), ()))
                      else
                        bif (o_0 == 9) then
                          (c_i_Machine_above r23.2.1.1 r23.2.1.2.1 r23.2.1.2.2.1 r23.2.1.2.2.2.1).bind fun r119 =>
                          bif (!r119.1.2.1) then
                            some ((false, ()), (((true, r119.2.1.1), r119.2.1.2.1, r119.2.1.2.2.1, r119.2.1.2.2.2.1, ()), ()))
                          else
                            (c_i_Machine_top r119.2.1.1 r119.2.1.2.1 r119.2.1.2.2.1 r119.2.1.2.2.2.1 3).bind fun r126 =>
                            bif r126.1.2.1 then
                              (r126.1.1).bind fun p3 =>
                              chk (decide (p3 < r126.2.1.1.length)) <|
                              chk (room (((r126.2.1.1.getD p3 ((0 : Int), ((0 : Int), ([] : List Int)))).2).2).length r119.1.1.length) <|
                              (r126.1.1).bind fun p4 =>
                              chk (decide (p4 = p3)) <|
                              let w5 : List (Int × Int × List Int) := (r126.2.1.1.set p4 ((r126.2.1.1.getD p4 ((0 : Int), ((0 : Int), ([] : List Int)))).1, (((r126.2.1.1.getD p4 ((0 : Int), ((0 : Int), ([] : List Int)))).2).1, (((r126.2.1.1.getD p3 ((0 : Int), ((0 : Int), ([] : List Int)))).2).2 ++ r119.1.1))))
                              some ((r126.1.2.1, ()), (((true, w5), r126.2.1.2.1, r126.2.1.2.2.1, r126.2.1.2.2.2.1, ()), ()))
                            else
                              some ((r126.1.2.1, ()), (((true, r126.2.1.1), r126.2.1.2.1, r126.2.1.2.2.1, r126.2.1.2.2.2.1, ()), ()))
                        else
                          bif (o_0 == 11) then
                            bif decide (r23.1.1 ≥ 3) then
                              (c_i_Machine_take r23.2.1.1 r23.2.1.2.1 r23.2.1.2.2.1 r23.2.1.2.2.2.1 2).bind fun r147 =>
                              (c_i_Machine_set r147.2.1.1 r147.2.1.2.1 r147.2.1.2.2.1 r147.2.1.2.2.2.1 r147.1.1).bind fun r148 =>
                              some ((r148.1.1, ()), (((true, r148.2.1.1), r148.2.1.2.1, r148.2.1.2.2.1, r148.2.1.2.2.2.1, ()), ()))
                            else
                              some ((false, ()), (((true, r23.2.1.1), r23.2.1.2.1, r23.2.1.2.2.1, r23.2.1.2.2.2.1, ()), ()))
                          else
                            bif (o_0 == 12) then
                              (c_i_Machine_above r23.2.1.1 r23.2.1.2.1 r23.2.1.2.2.1 r23.2.1.2.2.2.1).bind fun r154 =>
                              bif r154.1.2.1 then
                                (c_i_Machine_set r154.2.1.1 r154.2.1.2.1 r154.2.1.2.2.1 r154.2.1.2.2.2.1 r154.1.1).bind fun r161 =>
                                some ((r161.1.1, ()), (((true, r161.2.1.1), r161.2.1.2.1, r161.2.1.2.2.1, r161.2.1.2.2.2.1, ()), ()))
                              else
                                some ((false, ()), (((true, r154.2.1.1), r154.2.1.2.1, r154.2.1.2.2.1, r154.2.1.2.2.2.1, ()), ()))
                            else
                              bif (o_0 == 14) then
                                bif decide (r23.1.1 < 2) then
                                  some ((false, ()), (((true, r23.2.1.1), r23.2.1.2.1, r23.2.1.2.2.1, r23.2.1.2.2.2.1, ()), ()))
                                else
                                  (c_i_Machine_take r23.2.1.1 r23.2.1.2.1 r23.2.1.2.2.1 r23.2.1.2.2.2.1 1).bind fun r168 =>
                                  (c_i_Machine_top r168.2.1.1 r168.2.1.2.1 r168.2.1.2.2.1 r168.2.1.2.2.2.1 5).bind fun r171 =>
                                  bif (!r171.1.2.1) then
                                    jn (fun t => B_i_Machine_do_J0 k c_i_Machine_nodes c_i_Machine_make c_i_Machine_push c_i_Machine_above c_i_Machine_take c_i_Machine_top c_i_Machine_set t.1.1 t.1.2.1 t.1.2.2.1 t.1.2.2.2.1 t.2.1 t.2.2.1 t.2.2.2.1) ((r171.2.1.1, r171.2.1.2.1, r171.2.1.2.2.1, r171.2.1.2.2.2.1, ()), r168.1.1, true, r171.1.1, ())
                                  else
                                    (r171.1.1).bind fun p10 =>
                                    chk (decide (p10 < r171.2.1.1.length)) <|
                                    jn (fun t => B_i_Machine_do_J0 k c_i_Machine_nodes c_i_Machine_make c_i_Machine_push c_i_Machine_above c_i_Machine_take c_i_Machine_top c_i_Machine_set t.1.1 t.1.2.1 t.1.2.2.1 t.1.2.2.2.1 t.2.1 t.2.2.1 t.2.2.2.1) (((r171.2.1.1.set p10 ((r171.2.1.1.getD p10 ((0 : Int), ((0 : Int), ([] : List Int)))).1, (((r171.2.1.1.getD p10 ((0 : Int), ((0 : Int), ([] : List Int)))).2).1, ((r171.2.1.1.getD p10 ((0 : Int), ((0 : Int), ([] : List Int)))).2).2))), r171.2.1.2.1, r171.2.1.2.2.1, r171.2.1.2.2.2.1, ()), r168.1.1, decide ((len (((r171.2.1.1.getD p10 ((0 : Int), ((0 : Int), ([] : List Int)))).2).2)) > 0), r171.1.1, ())
                              else
                                bif (o_0 == 15) then
                                  bif decide (r23.1.1 < 1) then
                                    some ((false, ()), (((true, r23.2.1.1), r23.2.1.2.1, r23.2.1.2.2.1, r23.2.1.2.2.2.1, ()), ()))
                                  else
                                    chk (inb (w64 ((len r23.2.1.2.1) - 1)) r23.2.1.2.1.length) <|
                                    chk (decide ((w64 ((len r23.2.1.2.1) - 1)).toNat < r23.2.1.2.1.length)) <|
                                    chk (inb o_1 r23.2.1.2.2.1.length) <|
                                    chk (decide (o_1.toNat < r23.2.1.2.2.1.length)) <|
                                    some ((true, ()), (((true, r23.2.1.1), r23.2.1.2.1, (r23.2.1.2.2.1.set o_1.toNat (r23.2.1.2.1.getD ((w64 ((len r23.2.1.2.1) - 1)).toNat) (0 : Int))), r23.2.1.2.2.2.1, ()), ()))
                                else
                                  bif (o_0 == 16) then
                                    chk (inb o_1 r23.2.1.2.2.1.length) <|
                                    chk (decide (o_1.toNat < r23.2.1.2.2.1.length)) <|
                                    bif decide ((r23.2.1.2.2.1.getD o_1.toNat (0 : Int)) ≥ 0) then
                                      chk (inb o_1 r23.2.1.2.2.1.length) <|
                                      chk (decide (o_1.toNat < r23.2.1.2.2.1.length)) <|
                                      (c_i_Machine_push r23.2.1.1 r23.2.1.2.1 r23.2.1.2.2.1 r23.2.1.2.2.2.1 (r23.2.1.2.2.1.getD o_1.toNat (0 : Int))).bind fun r232 =>
                                      some ((r232.1.1, ()), (((true, r232.2.1.1), r232.2.1.2.1, r232.2.1.2.2.1, r232.2.1.2.2.2.1, ()), ()))
                                    else
                                      some ((false, ()), (((true, r23.2.1.1), r23.2.1.2.1, r23.2.1.2.2.1, r23.2.1.2.2.2.1, ()), ()))
                                  else
                                    bif (o_0 == 17) then
                                      bif decide (r23.1.1 < 1) then
                                        some ((false, ()), (((true, r23.2.1.1), r23.2.1.2.1, r23.2.1.2.2.1, r23.2.1.2.2.2.1, ()), ()))
                                      else
                                        (c_i_Machine_take r23.2.1.1 r23.2.1.2.1 r23.2.1.2.2.1 r23.2.1.2.2.2.1 1).bind fun r239 =>
                                        some ((true, ()), (((true, r239.2.1.1), r239.2.1.2.1, r239.2.1.2.2.1, r239.2.1.2.2.2.1, ()), ()))
                                    else
                                      bif (o_0 == 18) then
                                        (c_i_Machine_above r23.2.1.1 r23.2.1.2.1 r23.2.1.2.2.1 r23.2.1.2.2.2.1).bind fun r244 =>
                                        some ((r244.1.2.1, ()), (((true, r244.2.1.1), r244.2.1.2.1, r244.2.1.2.2.1, r244.2.1.2.2.2.1, ()), ()))
                                      else
                                        bif ((len r23.2.1.2.1) == 1) then
                                          jn (fun t => B_i_Machine_do_J1 k c_i_Machine_nodes c_i_Machine_make c_i_Machine_push c_i_Machine_above c_i_Machine_take c_i_Machine_top c_i_Machine_set t.1.1 t.1.2.1 t.1.2.2.1 t.1.2.2.2.1) ((r23.2.1.1, r23.2.1.2.1, r23.2.1.2.2.1, (r23.1.1 == 1), ()), ())
                                        else
                                          jn (fun t => B_i_Machine_do_J1 k c_i_Machine_nodes c_i_Machine_make c_i_Machine_push c_i_Machine_above c_i_Machine_take c_i_Machine_top c_i_Machine_set t.1.1 t.1.2.1 t.1.2.2.1 t.1.2.2.2.1) ((r23.2.1.1, r23.2.1.2.1, r23.2.1.2.2.1, false, ()), ())
def F_i_Machine_do : Nat → (List (Int × Int × List Int)) → List Int → List Int → Bool → Int → Int → Option ((Bool × Unit) × (((Bool × List (Int × Int × List Int)) × List Int × List Int × Bool × Unit) × Unit))
  | 0, _, _, _, _, _, _ => none
  | k + 1, m_Nodes, m_Stack, m_Memo, m_Done, o_0, o_1 => B_i_Machine_do k (F_i_Machine_nodes k) (F_i_Machine_make k) (F_i_Machine_push k) (F_i_Machine_above k) (F_i_Machine_take k) (F_i_Machine_top k) (F_i_Machine_set k) m_Nodes m_Stack m_Memo m_Done o_0 o_1
theorem F_i_Machine_do_succ (k : Nat) (m_Nodes : List (Int × Int × List Int)) (m_Stack : List Int) (m_Memo : List Int) (m_Done : Bool) (o_0 : Int) (o_1 : Int) : F_i_Machine_do (k + 1) m_Nodes m_Stack m_Memo m_Done o_0 o_1 = B_i_Machine_do k (F_i_Machine_nodes k) (F_i_Machine_make k) (F_i_Machine_push k) (F_i_Machine_above k) (F_i_Machine_take k) (F_i_Machine_top k) (F_i_Machine_set k) m_Nodes m_Stack m_Memo m_Done o_0 o_1 := rfl
theorem tot_i_Machine_do {m_Nodes : List (Int × Int × List Int)} {m_Stack : List Int} {m_Memo : List Int} {m_Done : Bool} {o_0 : Int} {o_1 : Int} {Q : (((Bool × Unit) × (((Bool × List (Int × Int × List Int)) × List Int × List Int × Bool × Unit) × Unit))) → Prop} (h : Tot (fun σ => B_i_Machine_do (σ 0) (F_i_Machine_nodes (σ 0)) (F_i_Machine_make (σ 0)) (F_i_Machine_push (σ 0)) (F_i_Machine_above (σ 0)) (F_i_Machine_take (σ 0)) (F_i_Machine_top (σ 0)) (F_i_Machine_set (σ 0)) m_Nodes m_Stack m_Memo m_Done o_0 o_1) Q) : Tot (fun σ => F_i_Machine_do (σ 0) m_Nodes m_Stack m_Memo m_Done o_0 o_1) Q :=
  Tot.call (F := fun k => F_i_Machine_do k m_Nodes m_Stack m_Memo m_Done o_0 o_1) (B := fun k => B_i_Machine_do k (F_i_Machine_nodes k) (F_i_Machine_make k) (F_i_Machine_push k) (F_i_Machine_above k) (F_i_Machine_take k) (F_i_Machine_top k) (F_i_Machine_set k) m_Nodes m_Stack m_Memo m_Done o_0 o_1) (fun k => F_i_Machine_do_succ k m_Nodes m_Stack m_Memo m_Done o_0 o_1) h
def B_i_Machine_step (k : Nat) (c_slices_Clone_int_int : List Int → Option ((List Int × Unit) × (Unit))) (c_i_Machine_do : (List (Int × Int × List Int)) → List Int → List Int → Bool → Int → Int → Option ((Bool × Unit) × (((Bool × List (Int × Int × List Int)) × List Int × List Int × Bool × Unit) × Unit))) (m_Nodes : List (Int × Int × List Int)) (m_Stack : List Int) (m_Memo : List Int) (m_Done : Bool) (o_0 : Int) (o_1 : Int) : Option ((Bool × Unit) × (((Option (List (Int × Int × List Int))) × List Int × List Int × Bool × Unit) × Unit)) :=
  (c_slices_Clone_int_int m_Stack).bind fun r15 =>
  bif (!m_Done) then
    (c_i_Machine_do m_Nodes m_Stack m_Memo m_Done o_0 o_1).bind fun r24 =>
    bif r24.1.1 then
      some ((true, ()), (((some r24.2.1.1.2), r24.2.1.2.1, r24.2.1.2.2.1, r24.2.1.2.2.2.1, ()), ()))
    else
      some ((false, ()), (((bif r24.2.1.1.1 then some r24.2.1.1.2 else none), r15.1.1, r24.2.1.2.2.1, r24.2.1.2.2.2.1, ()), ()))
  else
    some ((false, ()), (((some m_Nodes), r15.1.1, m_Memo, m_Done, ()), ()))
def F_i_Machine_step : Nat → (List (Int × Int × List Int)) → List Int → List Int → Bool → Int → Int → Option ((Bool × Unit) × (((Option (List (Int × Int × List Int))) × List Int × List Int × Bool × Unit) × Unit))
  | 0, _, _, _, _, _, _ => none
  | k + 1, m_Nodes, m_Stack, m_Memo, m_Done, o_0, o_1 => B_i_Machine_step k (F_slices_Clone_int_int k) (F_i_Machine_do k) m_Nodes m_Stack m_Memo m_Done o_0 o_1
theorem F_i_Machine_step_succ (k : Nat) (m_Nodes : List (Int × Int × List Int)) (m_Stack : List Int) (m_Memo : List Int) (m_Done : Bool) (o_0 : Int) (o_1 : Int) : F_i_Machine_step (k + 1) m_Nodes m_Stack m_Memo m_Done o_0 o_1 = B_i_Machine_step k (F_slices_Clone_int_int k) (F_i_Machine_do k) m_Nodes m_Stack m_Memo m_Done o_0 o_1 := rfl
theorem tot_i_Machine_step {m_Nodes : List (Int × Int × List Int)} {m_Stack : List Int} {m_Memo : List Int} {m_Done : Bool} {o_0 : Int} {o_1 : Int} {Q : (((Bool × Unit) × (((Option (List (Int × Int × List Int))) × List Int × List Int × Bool × Unit) × Unit))) → Prop} (h : Tot (fun σ => B_i_Machine_step (σ 0) (F_slices_Clone_int_int (σ 0)) (F_i_Machine_do (σ 0)) m_Nodes m_Stack m_Memo m_Done o_0 o_1) Q) : Tot (fun σ => F_i_Machine_step (σ 0) m_Nodes m_Stack m_Memo m_Done o_0 o_1) Q :=
  Tot.call (F := fun k => F_i_Machine_step k m_Nodes m_Stack m_Memo m_Done o_0 o_1) (B := fun k => B_i_Machine_step k (F_slices_Clone_int_int k) (F_i_Machine_do k) m_Nodes m_Stack m_Memo m_Done o_0 o_1) (fun k => F_i_Machine_step_succ k m_Nodes m_Stack m_Memo m_Done o_0 o_1) h
def B_i_copyNodes_L0b (k : Nat) (c_slices_Clone_int_int : List Int → Option ((List Int × Unit) × (Unit))) (again0 : ((List (Int × Int × List Int)) × (List (Int × Int × List Int)) × Int × Int × Unit) → Option (((List (Int × Int × List Int)) × Unit) × (Unit))) (out : List (Int × Int × List Int)) (t7 : List (Int × Int × List Int)) (t8 : Int) (t9 : Int) : Option (((List (Int × Int × List Int)) × Unit) × (Unit)) :=
  bif decide (t9 < t8) then
    chk (inb t9 t7.length) <|
    (c_slices_Clone_int_int (((rdx ((0 : Int), ((0 : Int), ([] : List Int))) t7 t9).2).2)).bind fun r20 =>
    chk (room out.length ([((rdx ((0 : Int), ((0 : Int), ([] : List Int))) t7 t9).1, (((rdx ((0 : Int), ((0 : Int), ([] : List Int))) t7 t9).2).1, r20.1.1))]).length) <|
    again0 ((out ++ [((rdx ((0 : Int), ((0 : Int), ([] : List Int))) t7 t9).1, (((rdx ((0 : Int), ((0 : Int), ([] : List Int))) t7 t9).2).1, r20.1.1))]), t7, t8, w64 (t9 + 1), ())
  else
    some ((out, ()), ())
def B_i_copyNodes_L0 (k : Nat) (c_slices_Clone_int_int : List Int → Option ((List Int × Unit) × (Unit))) (n : Nat) (t : (List (Int × Int × List Int)) × (List (Int × Int × List Int)) × Int × Int × Unit) : Option (((List (Int × Int × List Int)) × Unit) × (Unit)) :=
  lfix n (fun again t => B_i_copyNodes_L0b k c_slices_Clone_int_int again t.1 t.2.1 t.2.2.1 t.2.2.2.1) t
def B_i_copyNodes (k : Nat) (c_slices_Clone_int_int : List Int → Option ((List Int × Unit) × (Unit))) (nodes : List (Int × Int × List Int)) : Option (((List (Int × Int × List Int)) × Unit) × (Unit)) :=
  B_i_copyNodes_L0 k c_slices_Clone_int_int k ([], nodes, len nodes, 0, ())
def F_i_copyNodes : Nat → (List (Int × Int × List Int)) → Option (((List (Int × Int × List Int)) × Unit) × (Unit))
  | 0, _ => none
  | k + 1, nodes => B_i_copyNodes k (F_slices_Clone_int_int k) nodes
theorem F_i_copyNodes_succ (k : Nat) (nodes : List (Int × Int × List Int)) : F_i_copyNodes (k + 1) nodes = B_i_copyNodes k (F_slices_Clone_int_int k) nodes := rfl
theorem tot_i_copyNodes {nodes : List (Int × Int × List Int)} {Q : ((((List (Int × Int × List Int)) × Unit) × (Unit))) → Prop} (h : Tot (fun σ => B_i_copyNodes (σ 0) (F_slices_Clone_int_int (σ 0)) nodes) Q) : Tot (fun σ => F_i_copyNodes (σ 0) nodes) Q :=
  Tot.call (F := fun k => F_i_copyNodes k nodes) (B := fun k => B_i_copyNodes k (F_slices_Clone_int_int k) nodes) (fun k => F_i_copyNodes_succ k nodes) h
theorem loop_i_copyNodes_L0 {Q : (List (Int × Int × List Int)) → (List (Int × Int × List Int)) → Int → Int → (((List (Int × Int × List Int)) × Unit) × (Unit)) → Prop} (I : (List (Int × Int × List Int)) → (List (Int × Int × List Int)) → Int → Int → Prop) (μ : (List (Int × Int × List Int)) → (List (Int × Int × List Int)) → Int → Int → Nat)
    (step : ∀ (out : List (Int × Int × List Int)) (t7 : List (Int × Int × List Int)) (t8 : Int) (t9 : Int), I out t7 t8 t9 → ∀ again : (Nat → Nat) → ((List (Int × Int × List Int)) × (List (Int × Int × List Int)) × Int × Int × Unit) → Option (((List (Int × Int × List Int)) × Unit) × (Unit)), Dep 2 again → (∀ (y0 : List (Int × Int × List Int)) (y1 : List (Int × Int × List Int)) (y2 : Int) (y3 : Int), I y0 y1 y2 y3 → μ y0 y1 y2 y3 < μ out t7 t8 t9 → Tot (fun σ => again σ (y0, y1, y2, y3, ())) (Q y0 y1 y2 y3)) →
      Tot (fun σ => B_i_copyNodes_L0b (σ 0) (F_slices_Clone_int_int (σ 0)) (again σ) out t7 t8 t9) (Q out t7 t8 t9)) :
    ∀ (out : List (Int × Int × List Int)) (t7 : List (Int × Int × List Int)) (t8 : Int) (t9 : Int), I out t7 t8 t9 → Tot (fun σ => B_i_copyNodes_L0 (σ 0) (F_slices_Clone_int_int (σ 0)) (σ 0) (out, t7, t8, t9, ())) (Q out t7 t8 t9) := fun out t7 t8 t9 hI =>
  Tot.loop (L := fun σ n t => B_i_copyNodes_L0 (σ 0) (F_slices_Clone_int_int (σ 0)) n t) (B := fun σ g t => B_i_copyNodes_L0b (σ 0) (F_slices_Clone_int_int (σ 0)) g t.1 t.2.1 t.2.2.1 t.2.2.2.1) (Q := fun t => Q t.1 t.2.1 t.2.2.1 t.2.2.2.1) 1 (by decide)
    (fun s s' h => by have e0 : s 0 = s' 0 := h 0 (by decide); simp only [e0]) (fun s s' h => by have e0 : s 0 = s' 0 := h 0 (by decide); simp only [e0]) (fun _ _ _ => rfl) (fun t => I t.1 t.2.1 t.2.2.1 t.2.2.2.1) (fun t => μ t.1 t.2.1 t.2.2.1 t.2.2.2.1)
    (fun t ht again hag h => step t.1 t.2.1 t.2.2.1 t.2.2.2.1 ht again hag (fun y0 y1 y2 y3 hI hm => h (y0, y1, y2, y3, ()) hI hm)) (out, t7, t8, t9, ()) hI
def B_i_copyMachine (k : Nat) (c_i_copyNodes : (List (Int × Int × List Int)) → Option (((List (Int × Int × List Int)) × Unit) × (Unit))) (c_slices_Clone_int_int : List Int → Option ((List Int × Unit) × (Unit))) (m_0 : List (Int × Int × List Int)) (m_1 : List Int) (m_2 : List Int) (m_3 : Bool) : Option ((((List (Int × Int × List Int)) × List Int × List Int × Bool × Unit) × Unit) × (Unit)) :=
  (c_i_copyNodes m_0).bind fun r5 =>
  (c_slices_Clone_int_int m_1).bind fun r8 =>
  (c_slices_Clone_int_int m_2).bind fun r11 =>
  some (((r5.1.1, r8.1.1, r11.1.1, m_3, ()), ()), ())
def F_i_copyMachine : Nat → (List (Int × Int × List Int)) → List Int → List Int → Bool → Option ((((List (Int × Int × List Int)) × List Int × List Int × Bool × Unit) × Unit) × (Unit))
  | 0, _, _, _, _ => none
  | k + 1, m_0, m_1, m_2, m_3 => B_i_copyMachine k (F_i_copyNodes k) (F_slices_Clone_int_int k) m_0 m_1 m_2 m_3
theorem F_i_copyMachine_succ (k : Nat) (m_0 : List (Int × Int × List Int)) (m_1 : List Int) (m_2 : List Int) (m_3 : Bool) : F_i_copyMachine (k + 1) m_0 m_1 m_2 m_3 = B_i_copyMachine k (F_i_copyNodes k) (F_slices_Clone_int_int k) m_0 m_1 m_2 m_3 := rfl
theorem tot_i_copyMachine {m_0 : List (Int × Int × List Int)} {m_1 : List Int} {m_2 : List Int} {m_3 : Bool} {Q : (((((List (Int × Int × List Int)) × List Int × List Int × Bool × Unit) × Unit) × (Unit))) → Prop} (h : Tot (fun σ => B_i_copyMachine (σ 0) (F_i_copyNodes (σ 0)) (F_slices_Clone_int_int (σ 0)) m_0 m_1 m_2 m_3) Q) : Tot (fun σ => F_i_copyMachine (σ 0) m_0 m_1 m_2 m_3) Q :=
  Tot.call (F := fun k => F_i_copyMachine k m_0 m_1 m_2 m_3) (B := fun k => B_i_copyMachine k (F_i_copyNodes k) (F_slices_Clone_int_int k) m_0 m_1 m_2 m_3) (fun k => F_i_copyMachine_succ k m_0 m_1 m_2 m_3) h
def B_i_running__c_i_MarksOf_1_L0b (k : Nat) (c_i_NewMachine : Int → Option ((((List (Int × Int × List Int)) × Unit × List Int × Bool × Unit) × Unit) × (Unit))) (c_i_Machine_step : (List (Int × Int × List Int)) → List Int → List Int → Bool → Int → Int → Option ((Bool × Unit) × (((Option (List (Int × Int × List Int))) × List Int × List Int × Bool × Unit) × Unit))) (c_i_copyMachine : (List (Int × Int × List Int)) → List Int → List Int → Bool → Option ((((List (Int × Int × List Int)) × List Int × List Int × Bool × Unit) × Unit) × (Unit))) (c_i_MarksOf_1 : (List (Int × Int × List Int)) → List Int → List Int → Bool → List Int → Option ((Unit) × ((List Int × Unit) × Unit))) (again0 : ((List (Int × Int)) × (List Int × Unit) × (Unit × Unit × Unit × Bool × Unit) × ((List (Int × Int × List Int)) × List Int × List Int × Bool × Unit) × (List (Int × Int)) × Int × Int × Unit) → Option ((((List (Int × Int × List Int)) × List Int × List Int × Bool × Unit) × Int × Unit) × ((List Int × Unit) × Unit))) (ops : List (Int × Int)) (after : List Int) (t4_Done : Bool) (m_Nodes : List (Int × Int × List Int)) (m_Stack : List Int) (m_Memo : List Int) (m_Done : Bool) (t10 : List (Int × Int)) (t11 : Int) (t12 : Int) : Option ((((List (Int × Int × List Int)) × List Int × List Int × Bool × Unit) × Int × Unit) × ((List Int × Unit) × Unit)) :=
  bif decide (t12 < t11) then
    chk (inb t12 t10.length) <|
    (c_i_Machine_step m_Nodes m_Stack m_Memo m_Done ((rdx ((0 : Int), (0 : Int)) t10 t12).1) ((rdx ((0 : Int), (0 : Int)) t10 t12).2)).bind fun r18 =>
    bif (!r18.1.1) then
      (r18.2.1.1).bind fun p25 =>
      (c_i_copyMachine p25 r18.2.1.2.1 r18.2.1.2.2.1 r18.2.1.2.2.2.1).bind fun r21 =>
      some (((r21.1.1.1, r21.1.1.2.1, r21.1.1.2.2.1, r21.1.1.2.2.2.1, ()), t12, ()), ((after, ()), ()))
    else
      (r18.2.1.1).bind fun p26 =>
      (c_i_MarksOf_1 p26 r18.2.1.2.1 r18.2.1.2.2.1 r18.2.1.2.2.2.1 after).bind fun r25 =>
      (r18.2.1.1).bind fun p27 =>
      again0 (ops, (r25.2.1.1, ()), ((), (), (), t4_Done, ()), (p27, r18.2.1.2.1, r18.2.1.2.2.1, r18.2.1.2.2.2.1, ()), t10, t11, w64 (t12 + 1), ())
  else
    (c_i_copyMachine m_Nodes m_Stack m_Memo m_Done).bind fun r28 =>
    some (((r28.1.1.1, r28.1.1.2.1, r28.1.1.2.2.1, r28.1.1.2.2.2.1, ()), len ops, ()), ((after, ()), ()))
def B_i_running__c_i_MarksOf_1_L0 (k : Nat) (c_i_NewMachine : Int → Option ((((List (Int × Int × List Int)) × Unit × List Int × Bool × Unit) × Unit) × (Unit))) (c_i_Machine_step : (List (Int × Int × List Int)) → List Int → List Int → Bool → Int → Int → Option ((Bool × Unit) × (((Option (List (Int × Int × List Int))) × List Int × List Int × Bool × Unit) × Unit))) (c_i_copyMachine : (List (Int × Int × List Int)) → List Int → List Int → Bool → Option ((((List (Int × Int × List Int)) × List Int × List Int × Bool × Unit) × Unit) × (Unit))) (c_i_MarksOf_1 : (List (Int × Int × List Int)) → List Int → List Int → Bool → List Int → Option ((Unit) × ((List Int × Unit) × Unit))) (n : Nat) (t : (List (Int × Int)) × (List Int × Unit) × (Unit × Unit × Unit × Bool × Unit) × ((List (Int × Int × List Int)) × List Int × List Int × Bool × Unit) × (List (Int × Int)) × Int × Int × Unit) : Option ((((List (Int × Int × List Int)) × List Int × List Int × Bool × Unit) × Int × Unit) × ((List Int × Unit) × Unit)) :=
  lfix n (fun again t => B_i_running__c_i_MarksOf_1_L0b k c_i_NewMachine c_i_Machine_step c_i_copyMachine c_i_MarksOf_1 again t.1 t.2.1.1 t.2.2.1.2.2.2.1 t.2.2.2.1.1 t.2.2.2.1.2.1 t.2.2.2.1.2.2.1 t.2.2.2.1.2.2.2.1 t.2.2.2.2.1 t.2.2.2.2.2.1 t.2.2.2.2.2.2.1) t
def B_i_running__c_i_MarksOf_1 (k : Nat) (c_i_NewMachine : Int → Option ((((List (Int × Int × List Int)) × Unit × List Int × Bool × Unit) × Unit) × (Unit))) (c_i_Machine_step : (List (Int × Int × List Int)) → List Int → List Int → Bool → Int → Int → Option ((Bool × Unit) × (((Option (List (Int × Int × List Int))) × List Int × List Int × Bool × Unit) × Unit))) (c_i_copyMachine : (List (Int × Int × List Int)) → List Int → List Int → Bool → Option ((((List (Int × Int × List Int)) × List Int × List Int × Bool × Unit) × Unit) × (Unit))) (c_i_MarksOf_1 : (List (Int × Int × List Int)) → List Int → List Int → Bool → List Int → Option ((Unit) × ((List Int × Unit) × Unit))) (ops : List (Int × Int)) (after : List Int) : Option ((((List (Int × Int × List Int)) × List Int × List Int × Bool × Unit) × Int × Unit) × ((List Int × Unit) × Unit)) :=
  (c_i_NewMachine 0).bind fun r9 =>
  B_i_running__c_i_MarksOf_1_L0 k c_i_NewMachine c_i_Machine_step c_i_copyMachine c_i_MarksOf_1 k (ops, (after, ()), ((), (), (), false, ()), (r9.1.1.1, [], r9.1.1.2.2.1, r9.1.1.2.2.2.1, ()), ops, len ops, 0, ())
def F_i_running__c_i_MarksOf_1 : Nat → (List (Int × Int)) → List Int → Option ((((List (Int × Int × List Int)) × List Int × List Int × Bool × Unit) × Int × Unit) × ((List Int × Unit) × Unit))
  | 0, _, _ => none
  | k + 1, ops, after => B_i_running__c_i_MarksOf_1 k (F_i_NewMachine k) (F_i_Machine_step k) (F_i_copyMachine k) (F_i_MarksOf_1 k) ops after
theorem F_i_running__c_i_MarksOf_1_succ (k : Nat) (ops : List (Int × Int)) (after : List Int) : F_i_running__c_i_MarksOf_1 (k + 1) ops after = B_i_running__c_i_MarksOf_1 k (F_i_NewMachine k) (F_i_Machine_step k) (F_i_copyMachine k) (F_i_MarksOf_1 k) ops after := rfl
theorem tot_i_running__c_i_MarksOf_1 {ops : List (Int × Int)} {after : List Int} {Q : (((((List (Int × Int × List Int)) × List Int × List Int × Bool × Unit) × Int × Unit) × ((List Int × Unit) × Unit))) → Prop} (h : Tot (fun σ => B_i_running__c_i_MarksOf_1 (σ 0) (F_i_NewMachine (σ 0)) (F_i_Machine_step (σ 0)) (F_i_copyMachine (σ 0)) (F_i_MarksOf_1 (σ 0)) ops after) Q) : Tot (fun σ => F_i_running__c_i_MarksOf_1 (σ 0) ops after) Q :=
  Tot.call (F := fun k => F_i_running__c_i_MarksOf_1 k ops after) (B := fun k => B_i_running__c_i_MarksOf_1 k (F_i_NewMachine k) (F_i_Machine_step k) (F_i_copyMachine k) (F_i_MarksOf_1 k) ops after) (fun k => F_i_running__c_i_MarksOf_1_succ k ops after) h
theorem loop_i_running__c_i_MarksOf_1_L0 {Q : (List (Int × Int)) → List Int → Bool → (List (Int × Int × List Int)) → List Int → List Int → Bool → (List (Int × Int)) → Int → Int → ((((List (Int × Int × List Int)) × List Int × List Int × Bool × Unit) × Int × Unit) × ((List Int × Unit) × Unit)) → Prop} (I : (List (Int × Int)) → List Int → Bool → (List (Int × Int × List Int)) → List Int → List Int → Bool → (List (Int × Int)) → Int → Int → Prop) (μ : (List (Int × Int)) → List Int → Bool → (List (Int × Int × List Int)) → List Int → List Int → Bool → (List (Int × Int)) → Int → Int → Nat)
    (step : ∀ (ops : List (Int × Int)) (after : List Int) (t4_Done : Bool) (m_Nodes : List (Int × Int × List Int)) (m_Stack : List Int) (m_Memo : List Int) (m_Done : Bool) (t10 : List (Int × Int)) (t11 : Int) (t12 : Int), I ops after t4_Done m_Nodes m_Stack m_Memo m_Done t10 t11 t12 → ∀ again : (Nat → Nat) → ((List (Int × Int)) × (List Int × Unit) × (Unit × Unit × Unit × Bool × Unit) × ((List (Int × Int × List Int)) × List Int × List Int × Bool × Unit) × (List (Int × Int)) × Int × Int × Unit) → Option ((((List (Int × Int × List Int)) × List Int × List Int × Bool × Unit) × Int × Unit) × ((List Int × Unit) × Unit)), Dep 2 again → (∀ (y0 : List (Int × Int)) (y1 : List Int) (y2 : Bool) (y3 : List (Int × Int × List Int)) (y4 : List Int) (y5 : List Int) (y6 : Bool) (y7 : List (Int × Int)) (y8 : Int) (y9 : Int), I y0 y1 y2 y3 y4 y5 y6 y7 y8 y9 → μ y0 y1 y2 y3 y4 y5 y6 y7 y8 y9 < μ ops after t4_Done m_Nodes m_Stack m_Memo m_Done t10 t11 t12 → Tot (fun σ => again σ (y0, (y1, ()), ((), (), (), y2, ()), (y3, y4, y5, y6, ()), y7, y8, y9, ())) (Q y0 y1 y2 y3 y4 y5 y6 y7 y8 y9)) →
      Tot (fun σ => B_i_running__c_i_MarksOf_1_L0b (σ 0) (F_i_NewMachine (σ 0)) (F_i_Machine_step (σ 0)) (F_i_copyMachine (σ 0)) (F_i_MarksOf_1 (σ 0)) (again σ) ops after t4_Done m_Nodes m_Stack m_Memo m_Done t10 t11 t12) (Q ops after t4_Done m_Nodes m_Stack m_Memo m_Done t10 t11 t12)) :
    ∀ (ops : List (Int × Int)) (after : List Int) (t4_Done : Bool) (m_Nodes : List (Int × Int × List Int)) (m_Stack : List Int) (m_Memo : List Int) (m_Done : Bool) (t10 : List (Int × Int)) (t11 : Int) (t12 : Int), I ops after t4_Done m_Nodes m_Stack m_Memo m_Done t10 t11 t12 → Tot (fun σ => B_i_running__c_i_MarksOf_1_L0 (σ 0) (F_i_NewMachine (σ 0)) (F_i_Machine_step (σ 0)) (F_i_copyMachine (σ 0)) (F_i_MarksOf_1 (σ 0)) (σ 0) (ops, (after, ()), ((), (), (), t4_Done, ()), (m_Nodes, m_Stack, m_Memo, m_Done, ()), t10, t11, t12, ())) (Q ops after t4_Done m_Nodes m_Stack m_Memo m_Done t10 t11 t12) := fun ops after t4_Done m_Nodes m_Stack m_Memo m_Done t10 t11 t12 hI =>
  Tot.loop (L := fun σ n t => B_i_running__c_i_MarksOf_1_L0 (σ 0) (F_i_NewMachine (σ 0)) (F_i_Machine_step (σ 0)) (F_i_copyMachine (σ 0)) (F_i_MarksOf_1 (σ 0)) n t) (B := fun σ g t => B_i_running__c_i_MarksOf_1_L0b (σ 0) (F_i_NewMachine (σ 0)) (F_i_Machine_step (σ 0)) (F_i_copyMachine (σ 0)) (F_i_MarksOf_1 (σ 0)) g t.1 t.2.1.1 t.2.2.1.2.2.2.1 t.2.2.2.1.1 t.2.2.2.1.2.1 t.2.2.2.1.2.2.1 t.2.2.2.1.2.2.2.1 t.2.2.2.2.1 t.2.2.2.2.2.1 t.2.2.2.2.2.2.1) (Q := fun t => Q t.1 t.2.1.1 t.2.2.1.2.2.2.1 t.2.2.2.1.1 t.2.2.2.1.2.1 t.2.2.2.1.2.2.1 t.2.2.2.1.2.2.2.1 t.2.2.2.2.1 t.2.2.2.2.2.1 t.2.2.2.2.2.2.1) 1 (by decide)
    (fun s s' h => by have e0 : s 0 = s' 0 := h 0 (by decide); simp only [e0]) (fun s s' h => by have e0 : s 0 = s' 0 := h 0 (by decide); simp only [e0]) (fun _ _ _ => rfl) (fun t => I t.1 t.2.1.1 t.2.2.1.2.2.2.1 t.2.2.2.1.1 t.2.2.2.1.2.1 t.2.2.2.1.2.2.1 t.2.2.2.1.2.2.2.1 t.2.2.2.2.1 t.2.2.2.2.2.1 t.2.2.2.2.2.2.1) (fun t => μ t.1 t.2.1.1 t.2.2.1.2.2.2.1 t.2.2.2.1.1 t.2.2.2.1.2.1 t.2.2.2.1.2.2.1 t.2.2.2.1.2.2.2.1 t.2.2.2.2.1 t.2.2.2.2.2.1 t.2.2.2.2.2.2.1)
    (fun t ht again hag h => step t.1 t.2.1.1 t.2.2.1.2.2.2.1 t.2.2.2.1.1 t.2.2.2.1.2.1 t.2.2.2.1.2.2.1 t.2.2.2.1.2.2.2.1 t.2.2.2.2.1 t.2.2.2.2.2.1 t.2.2.2.2.2.2.1 ht again hag (fun y0 y1 y2 y3 y4 y5 y6 y7 y8 y9 hI hm => h (y0, (y1, ()), ((), (), (), y2, ()), (y3, y4, y5, y6, ()), y7, y8, y9, ()) hI hm)) (ops, (after, ()), ((), (), (), t4_Done, ()), (m_Nodes, m_Stack, m_Memo, m_Done, ()), t10, t11, t12, ()) hI
def B_i_MarksOf (k : Nat) (c_i_ValidOps : (List (Int × Int)) → Option ((Bool × Unit) × (Unit))) (c_i_running__c_i_MarksOf_1 : (List (Int × Int)) → List Int → Option ((((List (Int × Int × List Int)) × List Int × List Int × Bool × Unit) × Int × Unit) × ((List Int × Unit) × Unit))) (ops : List (Int × Int)) : Option ((List Int × Unit) × (Unit)) :=
  (c_i_ValidOps ops).bind fun r5 =>
  bif (!r5.1.1) then
    some (([], ()), ())
  else
    (c_i_running__c_i_MarksOf_1 ops ([])).bind fun r10 =>
    some ((r10.2.1.1, ()), ())
def F_i_MarksOf : Nat → (List (Int × Int)) → Option ((List Int × Unit) × (Unit))
  | 0, _ => none
  | k + 1, ops => B_i_MarksOf k (F_i_ValidOps k) (F_i_running__c_i_MarksOf_1 k) ops
theorem F_i_MarksOf_succ (k : Nat) (ops : List (Int × Int)) : F_i_MarksOf (k + 1) ops = B_i_MarksOf k (F_i_ValidOps k) (F_i_running__c_i_MarksOf_1 k) ops := rfl
theorem tot_i_MarksOf {ops : List (Int × Int)} {Q : (((List Int × Unit) × (Unit))) → Prop} (h : Tot (fun σ => B_i_MarksOf (σ 0) (F_i_ValidOps (σ 0)) (F_i_running__c_i_MarksOf_1 (σ 0)) ops) Q) : Tot (fun σ => F_i_MarksOf (σ 0) ops) Q :=
  Tot.call (F := fun k => F_i_MarksOf k ops) (B := fun k => B_i_MarksOf k (F_i_ValidOps k) (F_i_running__c_i_MarksOf_1 k) ops) (fun k => F_i_MarksOf_succ k ops) h
def B_s_MarksOf_J0 (k : Nat) (c_s_validOps : (List (Int × Int)) → Option ((Bool × Unit) × (Unit))) (c_s_runShapes : (List (Int × Int)) → Option (((List Int × List Bool × List Int × List Int × Bool × Unit) × Int × Unit) × (Unit))) (again1 : ((List (Int × Int)) × List Int × Int × Int × (List Int × List Bool × List Int × List Int × Bool × Unit) × Int × Int × Unit) → Option ((List Int × Unit) × (Unit))) (ops : List (Int × Int)) (out : List Int) (n5 : Int) (i : Int) (s_Kinds : List Int) (s_Full : List Bool) (s_Stack : List Int) (s_Memo : List Int) (s_Done : Bool) (k9 : Int) (j : Int) : Option ((List Int × Unit) × (Unit)) :=
  again1 (ops, out, n5, i, (s_Kinds, s_Full, s_Stack, s_Memo, s_Done, ()), k9, w64 (j + 1), ())
def B_s_MarksOf_L1b (k : Nat) (c_s_validOps : (List (Int × Int)) → Option ((Bool × Unit) × (Unit))) (c_s_runShapes : (List (Int × Int)) → Option (((List Int × List Bool × List Int × List Int × Bool × Unit) × Int × Unit) × (Unit))) (again2 : ((List (Int × Int)) × List Int × Int × Int × Unit) → Option ((List Int × Unit) × (Unit))) (again1 : ((List (Int × Int)) × List Int × Int × Int × (List Int × List Bool × List Int × List Int × Bool × Unit) × Int × Int × Unit) → Option ((List Int × Unit) × (Unit))) (ops : List (Int × Int)) (out : List Int) (n5 : Int) (i : Int) (s_Kinds : List Int) (s_Full : List Bool) (s_Stack : List Int) (s_Memo : List Int) (s_Done : Bool) (k9 : Int) (j : Int) : Option ((List Int × Unit) × (Unit)) :=
  bif decide (j < (len s_Stack)) then
    chk (inb j s_Stack.length) <|
    chk (decide (j.toNat < s_Stack.length)) <|
    bif decide ((s_Stack.getD j.toNat (0 : Int)) < 0) then
      jn (fun t => B_s_MarksOf_J0 k c_s_validOps c_s_runShapes again1 t.1 t.2.1 t.2.2.1 t.2.2.2.1 t.2.2.2.2.1.1 t.2.2.2.2.1.2.1 t.2.2.2.2.1.2.2.1 t.2.2.2.2.1.2.2.2.1 t.2.2.2.2.1.2.2.2.2.1 t.2.2.2.2.2.1 t.2.2.2.2.2.2.1) (ops, out, n5, i, (s_Kinds, s_Full, s_Stack, s_Memo, s_Done, ()), w64 (k9 + 1), j, ())
    else
      jn (fun t => B_s_MarksOf_J0 k c_s_validOps c_s_runShapes again1 t.1 t.2.1 t.2.2.1 t.2.2.2.1 t.2.2.2.2.1.1 t.2.2.2.2.1.2.1 t.2.2.2.2.1.2.2.1 t.2.2.2.2.1.2.2.2.1 t.2.2.2.2.1.2.2.2.2.1 t.2.2.2.2.2.1 t.2.2.2.2.2.2.1) (ops, out, n5, i, (s_Kinds, s_Full, s_Stack, s_Memo, s_Done, ()), k9, j, ())
  else
    chk (room out.length ([k9]).length) <|
    again2 (ops, (out ++ [k9]), n5, w64 (i + 1), ())
def B_s_MarksOf_L1 (k : Nat) (c_s_validOps : (List (Int × Int)) → Option ((Bool × Unit) × (Unit))) (c_s_runShapes : (List (Int × Int)) → Option (((List Int × List Bool × List Int × List Int × Bool × Unit) × Int × Unit) × (Unit))) (again2 : ((List (Int × Int)) × List Int × Int × Int × Unit) → Option ((List Int × Unit) × (Unit))) (n : Nat) (t : (List (Int × Int)) × List Int × Int × Int × (List Int × List Bool × List Int × List Int × Bool × Unit) × Int × Int × Unit) : Option ((List Int × Unit) × (Unit)) :=
  lfix n (fun again t => B_s_MarksOf_L1b k c_s_validOps c_s_runShapes again2 again t.1 t.2.1 t.2.2.1 t.2.2.2.1 t.2.2.2.2.1.1 t.2.2.2.2.1.2.1 t.2.2.2.2.1.2.2.1 t.2.2.2.2.1.2.2.2.1 t.2.2.2.2.1.2.2.2.2.1 t.2.2.2.2.2.1 t.2.2.2.2.2.2.1) t
def B_s_MarksOf_L2b (k : Nat) (c_s_validOps : (List (Int × Int)) → Option ((Bool × Unit) × (Unit))) (c_s_runShapes : (List (Int × Int)) → Option (((List Int × List Bool × List Int × List Int × Bool × Unit) × Int × Unit) × (Unit))) (again2 : ((List (Int × Int)) × List Int × Int × Int × Unit) → Option ((List Int × Unit) × (Unit))) (ops : List (Int × Int)) (out : List Int) (n5 : Int) (i : Int) : Option ((List Int × Unit) × (Unit)) :=
  bif decide (i ≤ n5) then
    chk (cutb 0 i ops.length) <|
    (c_s_runShapes (sub ops 0 i)).bind fun r29 =>
    B_s_MarksOf_L1 k c_s_validOps c_s_runShapes again2 k (ops, out, n5, i, (r29.1.1.1, r29.1.1.2.1, r29.1.1.2.2.1, r29.1.1.2.2.2.1, r29.1.1.2.2.2.2.1, ()), 0, 0, ())
  else
    some ((out, ()), ())
def B_s_MarksOf_L2 (k : Nat) (c_s_validOps : (List (Int × Int)) → Option ((Bool × Unit) × (Unit))) (c_s_runShapes : (List (Int × Int)) → Option (((List Int × List Bool × List Int × List Int × Bool × Unit) × Int × Unit) × (Unit))) (n : Nat) (t : (List (Int × Int)) × List Int × Int × Int × Unit) : Option ((List Int × Unit) × (Unit)) :=
  lfix n (fun again t => B_s_MarksOf_L2b k c_s_validOps c_s_runShapes again t.1 t.2.1 t.2.2.1 t.2.2.2.1) t
def B_s_MarksOf (k : Nat) (c_s_validOps : (List (Int × Int)) → Option ((Bool × Unit) × (Unit))) (c_s_runShapes : (List (Int × Int)) → Option (((List Int × List Bool × List Int × List Int × Bool × Unit) × Int × Unit) × (Unit))) (ops : List (Int × Int)) : Option ((List Int × Unit) × (Unit)) :=
  (c_s_validOps ops).bind fun r12 =>
  bif (!r12.1.1) then
    some (([], ()), ())
  else
    (c_s_runShapes ops).bind fun r17 =>
    B_s_MarksOf_L2 k c_s_validOps c_s_runShapes k (ops, [], r17.1.2.1, 1, ())
def F_s_MarksOf : Nat → (List (Int × Int)) → Option ((List Int × Unit) × (Unit))
  | 0, _ => none
  | k + 1, ops => B_s_MarksOf k (F_s_validOps k) (F_s_runShapes k) ops
theorem F_s_MarksOf_succ (k : Nat) (ops : List (Int × Int)) : F_s_MarksOf (k + 1) ops = B_s_MarksOf k (F_s_validOps k) (F_s_runShapes k) ops := rfl
theorem tot_s_MarksOf {ops : List (Int × Int)} {Q : (((List Int × Unit) × (Unit))) → Prop} (h : Tot (fun σ => B_s_MarksOf (σ 0) (F_s_validOps (σ 0)) (F_s_runShapes (σ 0)) ops) Q) : Tot (fun σ => F_s_MarksOf (σ 0) ops) Q :=
  Tot.call (F := fun k => F_s_MarksOf k ops) (B := fun k => B_s_MarksOf k (F_s_validOps k) (F_s_runShapes k) ops) (fun k => F_s_MarksOf_succ k ops) h
theorem loop_s_MarksOf_L1 {again2 : (Nat → Nat) → ((List (Int × Int)) × List Int × Int × Int × Unit) → Option ((List Int × Unit) × (Unit))} (hag2 : Dep 2 again2) {Q : (List (Int × Int)) → List Int → Int → Int → List Int → List Bool → List Int → List Int → Bool → Int → Int → ((List Int × Unit) × (Unit)) → Prop} (I : (List (Int × Int)) → List Int → Int → Int → List Int → List Bool → List Int → List Int → Bool → Int → Int → Prop) (μ : (List (Int × Int)) → List Int → Int → Int → List Int → List Bool → List Int → List Int → Bool → Int → Int → Nat)
    (step : ∀ (ops : List (Int × Int)) (out : List Int) (n5 : Int) (i : Int) (s_Kinds : List Int) (s_Full : List Bool) (s_Stack : List Int) (s_Memo : List Int) (s_Done : Bool) (k9 : Int) (j : Int), I ops out n5 i s_Kinds s_Full s_Stack s_Memo s_Done k9 j → ∀ again : (Nat → Nat) → ((List (Int × Int)) × List Int × Int × Int × (List Int × List Bool × List Int × List Int × Bool × Unit) × Int × Int × Unit) → Option ((List Int × Unit) × (Unit)), Dep 3 again → (∀ (y0 : List (Int × Int)) (y1 : List Int) (y2 : Int) (y3 : Int) (y4 : List Int) (y5 : List Bool) (y6 : List Int) (y7 : List Int) (y8 : Bool) (y9 : Int) (y10 : Int), I y0 y1 y2 y3 y4 y5 y6 y7 y8 y9 y10 → μ y0 y1 y2 y3 y4 y5 y6 y7 y8 y9 y10 < μ ops out n5 i s_Kinds s_Full s_Stack s_Memo s_Done k9 j → Tot (fun σ => again σ (y0, y1, y2, y3, (y4, y5, y6, y7, y8, ()), y9, y10, ())) (Q y0 y1 y2 y3 y4 y5 y6 y7 y8 y9 y10)) →
      Tot (fun σ => B_s_MarksOf_L1b (σ 0) (F_s_validOps (σ 0)) (F_s_runShapes (σ 0)) (again2 σ) (again σ) ops out n5 i s_Kinds s_Full s_Stack s_Memo s_Done k9 j) (Q ops out n5 i s_Kinds s_Full s_Stack s_Memo s_Done k9 j)) :
    ∀ (ops : List (Int × Int)) (out : List Int) (n5 : Int) (i : Int) (s_Kinds : List Int) (s_Full : List Bool) (s_Stack : List Int) (s_Memo : List Int) (s_Done : Bool) (k9 : Int) (j : Int), I ops out n5 i s_Kinds s_Full s_Stack s_Memo s_Done k9 j → Tot (fun σ => B_s_MarksOf_L1 (σ 0) (F_s_validOps (σ 0)) (F_s_runShapes (σ 0)) (again2 σ) (σ 0) (ops, out, n5, i, (s_Kinds, s_Full, s_Stack, s_Memo, s_Done, ()), k9, j, ())) (Q ops out n5 i s_Kinds s_Full s_Stack s_Memo s_Done k9 j) := fun ops out n5 i s_Kinds s_Full s_Stack s_Memo s_Done k9 j hI =>
  Tot.loop (L := fun σ n t => B_s_MarksOf_L1 (σ 0) (F_s_validOps (σ 0)) (F_s_runShapes (σ 0)) (again2 σ) n t) (B := fun σ g t => B_s_MarksOf_L1b (σ 0) (F_s_validOps (σ 0)) (F_s_runShapes (σ 0)) (again2 σ) g t.1 t.2.1 t.2.2.1 t.2.2.2.1 t.2.2.2.2.1.1 t.2.2.2.2.1.2.1 t.2.2.2.2.1.2.2.1 t.2.2.2.2.1.2.2.2.1 t.2.2.2.2.1.2.2.2.2.1 t.2.2.2.2.2.1 t.2.2.2.2.2.2.1) (Q := fun t => Q t.1 t.2.1 t.2.2.1 t.2.2.2.1 t.2.2.2.2.1.1 t.2.2.2.2.1.2.1 t.2.2.2.2.1.2.2.1 t.2.2.2.2.1.2.2.2.1 t.2.2.2.2.1.2.2.2.2.1 t.2.2.2.2.2.1 t.2.2.2.2.2.2.1) 2 (by decide)
    (fun s s' h => by have e0 : s 0 = s' 0 := h 0 (by decide); simp only [e0, hag2 s s' h]) (fun s s' h => by have e0 : s 0 = s' 0 := h 0 (by decide); simp only [e0, hag2 s s' h]) (fun _ _ _ => rfl) (fun t => I t.1 t.2.1 t.2.2.1 t.2.2.2.1 t.2.2.2.2.1.1 t.2.2.2.2.1.2.1 t.2.2.2.2.1.2.2.1 t.2.2.2.2.1.2.2.2.1 t.2.2.2.2.1.2.2.2.2.1 t.2.2.2.2.2.1 t.2.2.2.2.2.2.1) (fun t => μ t.1 t.2.1 t.2.2.1 t.2.2.2.1 t.2.2.2.2.1.1 t.2.2.2.2.1.2.1 t.2.2.2.2.1.2.2.1 t.2.2.2.2.1.2.2.2.1 t.2.2.2.2.1.2.2.2.2.1 t.2.2.2.2.2.1 t.2.2.2.2.2.2.1)
    (fun t ht again hag h => step t.1 t.2.1 t.2.2.1 t.2.2.2.1 t.2.2.2.2.1.1 t.2.2.2.2.1.2.1 t.2.2.2.2.1.2.2.1 t.2.2.2.2.1.2.2.2.1 t.2.2.2.2.1.2.2.2.2.1 t.2.2.2.2.2.1 t.2.2.2.2.2.2.1 ht again hag (fun y0 y1 y2 y3 y4 y5 y6 y7 y8 y9 y10 hI hm => h (y0, y1, y2, y3, (y4, y5, y6, y7, y8, ()), y9, y10, ()) hI hm)) (ops, out, n5, i, (s_Kinds, s_Full, s_Stack, s_Memo, s_Done, ()), k9, j, ()) hI
theorem loop_s_MarksOf_L2 {Q : (List (Int × Int)) → List Int → Int → Int → ((List Int × Unit) × (Unit)) → Prop} (I : (List (Int × Int)) → List Int → Int → Int → Prop) (μ : (List (Int × Int)) → List Int → Int → Int → Nat)
    (step : ∀ (ops : List (Int × Int)) (out : List Int) (n5 : Int) (i : Int), I ops out n5 i → ∀ again : (Nat → Nat) → ((List (Int × Int)) × List Int × Int × Int × Unit) → Option ((List Int × Unit) × (Unit)), Dep 2 again → (∀ (y0 : List (Int × Int)) (y1 : List Int) (y2 : Int) (y3 : Int), I y0 y1 y2 y3 → μ y0 y1 y2 y3 < μ ops out n5 i → Tot (fun σ => again σ (y0, y1, y2, y3, ())) (Q y0 y1 y2 y3)) →
      Tot (fun σ => B_s_MarksOf_L2b (σ 0) (F_s_validOps (σ 0)) (F_s_runShapes (σ 0)) (again σ) ops out n5 i) (Q ops out n5 i)) :
    ∀ (ops : List (Int × Int)) (out : List Int) (n5 : Int) (i : Int), I ops out n5 i → Tot (fun σ => B_s_MarksOf_L2 (σ 0) (F_s_validOps (σ 0)) (F_s_runShapes (σ 0)) (σ 0) (ops, out, n5, i, ())) (Q ops out n5 i) := fun ops out n5 i hI =>
  Tot.loop (L := fun σ n t => B_s_MarksOf_L2 (σ 0) (F_s_validOps (σ 0)) (F_s_runShapes (σ 0)) n t) (B := fun σ g t => B_s_MarksOf_L2b (σ 0) (F_s_validOps (σ 0)) (F_s_runShapes (σ 0)) g t.1 t.2.1 t.2.2.1 t.2.2.2.1) (Q := fun t => Q t.1 t.2.1 t.2.2.1 t.2.2.2.1) 1 (by decide)
    (fun s s' h => by have e0 : s 0 = s' 0 := h 0 (by decide); simp only [e0]) (fun s s' h => by have e0 : s 0 = s' 0 := h 0 (by decide); simp only [e0]) (fun _ _ _ => rfl) (fun t => I t.1 t.2.1 t.2.2.1 t.2.2.2.1) (fun t => μ t.1 t.2.1 t.2.2.1 t.2.2.2.1)
    (fun t ht again hag h => step t.1 t.2.1 t.2.2.1 t.2.2.2.1 ht again hag (fun y0 y1 y2 y3 hI hm => h (y0, y1, y2, y3, ()) hI hm)) (ops, out, n5, i, ()) hI
def B_l_equalInts_L0b (k : Nat) (again0 : (List Int × List Int × Int × Unit) → Option ((Bool × Unit) × (Unit))) (a : List Int) (b : List Int) (i : Int) : Option ((Bool × Unit) × (Unit)) :=
  bif decide (i < (len a)) then
    chk (inb i a.length) <|
    chk (inb i b.length) <|
    bif ((rdx (0 : Int) a i) != (rdx (0 : Int) b i)) then
      some ((false, ()), ())
    else
      again0 (a, b, w64 (i + 1), ())
  else
    some ((true, ()), ())
def B_l_equalInts_L0 (k : Nat) (n : Nat) (t : List Int × List Int × Int × Unit) : Option ((Bool × Unit) × (Unit)) :=
  lfix n (fun again t => B_l_equalInts_L0b k again t.1 t.2.1 t.2.2.1) t
def B_l_equalInts (k : Nat) (a : List Int) (b : List Int) : Option ((Bool × Unit) × (Unit)) :=
  bif ((len a) != (len b)) then
    some ((false, ()), ())
  else
    B_l_equalInts_L0 k k (a, b, 0, ())
def F_l_equalInts : Nat → List Int → List Int → Option ((Bool × Unit) × (Unit))
  | 0, _, _ => none
  | k + 1, a, b => B_l_equalInts k a b
theorem F_l_equalInts_succ (k : Nat) (a : List Int) (b : List Int) : F_l_equalInts (k + 1) a b = B_l_equalInts k a b := rfl
theorem tot_l_equalInts {a : List Int} {b : List Int} {Q : (((Bool × Unit) × (Unit))) → Prop} (h : Tot (fun σ => B_l_equalInts (σ 0) a b) Q) : Tot (fun σ => F_l_equalInts (σ 0) a b) Q :=
  Tot.call (F := fun k => F_l_equalInts k a b) (B := fun k => B_l_equalInts k a b) (fun k => F_l_equalInts_succ k a b) h
theorem loop_l_equalInts_L0 {Q : List Int → List Int → Int → ((Bool × Unit) × (Unit)) → Prop} (I : List Int → List Int → Int → Prop) (μ : List Int → List Int → Int → Nat)
    (step : ∀ (a : List Int) (b : List Int) (i : Int), I a b i → ∀ again : (Nat → Nat) → (List Int × List Int × Int × Unit) → Option ((Bool × Unit) × (Unit)), Dep 2 again → (∀ (y0 : List Int) (y1 : List Int) (y2 : Int), I y0 y1 y2 → μ y0 y1 y2 < μ a b i → Tot (fun σ => again σ (y0, y1, y2, ())) (Q y0 y1 y2)) →
      Tot (fun σ => B_l_equalInts_L0b (σ 0) (again σ) a b i) (Q a b i)) :
    ∀ (a : List Int) (b : List Int) (i : Int), I a b i → Tot (fun σ => B_l_equalInts_L0 (σ 0) (σ 0) (a, b, i, ())) (Q a b i) := fun a b i hI =>
  Tot.loop (L := fun σ n t => B_l_equalInts_L0 (σ 0) n t) (B := fun σ g t => B_l_equalInts_L0b (σ 0) g t.1 t.2.1 t.2.2.1) (Q := fun t => Q t.1 t.2.1 t.2.2.1) 1 (by decide)
    (fun s s' h => by have e0 : s 0 = s' 0 := h 0 (by decide); simp only [e0]) (fun s s' h => by have e0 : s 0 = s' 0 := h 0 (by decide); simp only [e0]) (fun _ _ _ => rfl) (fun t => I t.1 t.2.1 t.2.2.1) (fun t => μ t.1 t.2.1 t.2.2.1)
    (fun t ht again hag h => step t.1 t.2.1 t.2.2.1 ht again hag (fun y0 y1 y2 hI hm => h (y0, y1, y2, ()) hI hm)) (a, b, i, ()) hI
def B_i_TakesOf_J3 (k : Nat) (t29 : Bool) : Option ((Int × Int × Unit) × (Unit)) :=
  bif t29 then
    some (((-1), 0, ()), ())
  else
    some (((-2), (-2), ()), ())
def B_i_TakesOf_J2 (k : Nat) (t4 : Int) (t24 : Bool) : Option ((Int × Int × Unit) × (Unit)) :=
  bif t24 then
    some ((0, 0, ()), ())
  else
    bif (t4 == 3) then
      some (((-1), 1, ()), ())
    else
      bif (t4 == 9) then
        jn (fun t => B_i_TakesOf_J3 k t.1) ((t4 == 9), ())
      else
        bif (t4 == 12) then
          jn (fun t => B_i_TakesOf_J3 k t.1) ((t4 == 12), ())
        else
          jn (fun t => B_i_TakesOf_J3 k t.1) ((t4 == 18), ())
def B_i_TakesOf_J1 (k : Nat) (t4 : Int) (t18 : Bool) : Option ((Int × Int × Unit) × (Unit)) :=
  bif t18 then
    some ((1, 0, ()), ())
  else
    bif (t4 == 11) then
      some ((2, 0, ()), ())
    else
      bif (t4 == 15) then
        jn (fun t => B_i_TakesOf_J2 k t.1 t.2.1) (t4, (t4 == 15), ())
      else
        jn (fun t => B_i_TakesOf_J2 k t.1 t.2.1) (t4, (t4 == 19), ())
def B_i_TakesOf_J0 (k : Nat) (t4 : Int) (t5 : Bool) : Option ((Int × Int × Unit) × (Unit)) :=
  bif t5 then
    some ((0, 1, ()), ())
  else
    bif (t4 == 5) then
      some ((1, 1, ()), ())
    else
      bif (t4 == 6) then
        some ((2, 1, ()), ())
      else
        bif (t4 == 8) then
          jn (fun t => B_i_TakesOf_J1 k t.1 t.2.1) (t4, (t4 == 8), ())
        else
          bif (t4 == 14) then
            jn (fun t => B_i_TakesOf_J1 k t.1 t.2.1) (t4, (t4 == 14), ())
          else
            jn (fun t => B_i_TakesOf_J1 k t.1 t.2.1) (t4, (t4 == 17), ())
def B_i_TakesOf (k : Nat) (c : Int) : Option ((Int × Int × Unit) × (Unit)) :=
  bif (c == 0) then
    jn (fun t => B_i_TakesOf_J0 k t.1 t.2.1) (c, (c == 0), ())
  else
    bif (c == 1) then
      jn (fun t => B_i_TakesOf_J0 k t.1 t.2.1) (c, (c == 1), ())
    else
      bif (c == 13) then
        jn (fun t => B_i_TakesOf_J0 k t.1 t.2.1) (c, (c == 13), ())
      else
        bif (c == 4) then
          jn (fun t => B_i_TakesOf_J0 k t.1 t.2.1) (c, (c == 4), ())
        else
          bif (c == 7) then
            jn (fun t => B_i_TakesOf_J0 k t.1 t.2.1) (c, (c == 7), ())
          else
            bif (c == 10) then
              jn (fun t => B_i_TakesOf_J0 k t.1 t.2.1) (c, (c == 10), ())
            else
              bif (c == 2) then
                jn (fun t => B_i_TakesOf_J0 k t.1 t.2.1) (c, (c == 2), ())
              else
                jn (fun t => B_i_TakesOf_J0 k t.1 t.2.1) (c, (c == 16), ())
def F_i_TakesOf : Nat → Int → Option ((Int × Int × Unit) × (Unit))
  | 0, _ => none
  | k + 1, c => B_i_TakesOf k c
theorem F_i_TakesOf_succ (k : Nat) (c : Int) : F_i_TakesOf (k + 1) c = B_i_TakesOf k c := rfl
theorem tot_i_TakesOf {c : Int} {Q : (((Int × Int × Unit) × (Unit))) → Prop} (h : Tot (fun σ => B_i_TakesOf (σ 0) c) Q) : Tot (fun σ => F_i_TakesOf (σ 0) c) Q :=
  Tot.call (F := fun k => F_i_TakesOf k c) (B := fun k => B_i_TakesOf k c) (fun k => F_i_TakesOf_succ k c) h
def B_i_DepthsOf_1 (k : Nat) (m_0 : List (Int × Int × List Int)) (m_1 : List Int) (m_2 : List Int) (m_3 : Bool) (t1 : List Int) : Option ((Unit) × ((List Int × Unit) × Unit)) :=
  chk (room t1.length ([len m_1]).length) <|
  some ((), (((t1 ++ [len m_1]), ()), ()))
def F_i_DepthsOf_1 : Nat → (List (Int × Int × List Int)) → List Int → List Int → Bool → List Int → Option ((Unit) × ((List Int × Unit) × Unit))
  | 0, _, _, _, _, _ => none
  | k + 1, m_0, m_1, m_2, m_3, t1 => B_i_DepthsOf_1 k m_0 m_1 m_2 m_3 t1
theorem F_i_DepthsOf_1_succ (k : Nat) (m_0 : List (Int × Int × List Int)) (m_1 : List Int) (m_2 : List Int) (m_3 : Bool) (t1 : List Int) : F_i_DepthsOf_1 (k + 1) m_0 m_1 m_2 m_3 t1 = B_i_DepthsOf_1 k m_0 m_1 m_2 m_3 t1 := rfl
theorem tot_i_DepthsOf_1 {m_0 : List (Int × Int × List Int)} {m_1 : List Int} {m_2 : List Int} {m_3 : Bool} {t1 : List Int} {Q : (((Unit) × ((List Int × Unit) × Unit))) → Prop} (h : Tot (fun σ => B_i_DepthsOf_1 (σ 0) m_0 m_1 m_2 m_3 t1) Q) : Tot (fun σ => F_i_DepthsOf_1 (σ 0) m_0 m_1 m_2 m_3 t1) Q :=
  Tot.call (F := fun k => F_i_DepthsOf_1 k m_0 m_1 m_2 m_3 t1) (B := fun k => B_i_DepthsOf_1 k m_0 m_1 m_2 m_3 t1) (fun k => F_i_DepthsOf_1_succ k m_0 m_1 m_2 m_3 t1) h
def B_i_running__c_i_DepthsOf_1_L0b (k : Nat) (c_i_NewMachine : Int → Option ((((List (Int × Int × List Int)) × Unit × List Int × Bool × Unit) × Unit) × (Unit))) (c_i_Machine_step : (List (Int × Int × List Int)) → List Int → List Int → Bool → Int → Int → Option ((Bool × Unit) × (((Option (List (Int × Int × List Int))) × List Int × List Int × Bool × Unit) × Unit))) (c_i_copyMachine : (List (Int × Int × List Int)) → List Int → List Int → Bool → Option ((((List (Int × Int × List Int)) × List Int × List Int × Bool × Unit) × Unit) × (Unit))) (c_i_DepthsOf_1 : (List (Int × Int × List Int)) → List Int → List Int → Bool → List Int → Option ((Unit) × ((List Int × Unit) × Unit))) (again0 : ((List (Int × Int)) × (List Int × Unit) × (Unit × Unit × Unit × Bool × Unit) × ((List (Int × Int × List Int)) × List Int × List Int × Bool × Unit) × (List (Int × Int)) × Int × Int × Unit) → Option ((((List (Int × Int × List Int)) × List Int × List Int × Bool × Unit) × Int × Unit) × ((List Int × Unit) × Unit))) (ops : List (Int × Int)) (after : List Int) (t4_Done : Bool) (m_Nodes : List (Int × Int × List Int)) (m_Stack : List Int) (m_Memo : List Int) (m_Done : Bool) (t10 : List (Int × Int)) (t11 : Int) (t12 : Int) : Option ((((List (Int × Int × List Int)) × List Int × List Int × Bool × Unit) × Int × Unit) × ((List Int × Unit) × Unit)) :=
  bif decide (t12 < t11) then
    chk (inb t12 t10.length) <|
    (c_i_Machine_step m_Nodes m_Stack m_Memo m_Done ((rdx ((0 : Int), (0 : Int)) t10 t12).1) ((rdx ((0 : Int), (0 : Int)) t10 t12).2)).bind fun r18 =>
    bif (!r18.1.1) then
      (r18.2.1.1).bind fun p25 =>
      (c_i_copyMachine p25 r18.2.1.2.1 r18.2.1.2.2.1 r18.2.1.2.2.2.1).bind fun r21 =>
      some (((r21.1.1.1, r21.1.1.2.1, r21.1.1.2.2.1, r21.1.1.2.2.2.1, ()), t12, ()), ((after, ()), ()))
    else
      (r18.2.1.1).bind fun p26 =>
      (c_i_DepthsOf_1 p26 r18.2.1.2.1 r18.2.1.2.2.1 r18.2.1.2.2.2.1 after).bind fun r25 =>
      (r18.2.1.1).bind fun p27 =>
      again0 (ops, (r25.2.1.1, ()), ((), (), (), t4_Done, ()), (p27, r18.2.1.2.1, r18.2.1.2.2.1, r18.2.1.2.2.2.1, ()), t10, t11, w64 (t12 + 1), ())
  else
    (c_i_copyMachine m_Nodes m_Stack m_Memo m_Done).bind fun r28 =>
    some (((r28.1.1.1, r28.1.1.2.1, r28.1.1.2.2.1, r28.1.1.2.2.2.1, ()), len ops, ()), ((after, ()), ()))
def B_i_running__c_i_DepthsOf_1_L0 (k : Nat) (c_i_NewMachine : Int → Option ((((List (Int × Int × List Int)) × Unit × List Int × Bool × Unit) × Unit) × (Unit))) (c_i_Machine_step : (List (Int × Int × List Int)) → List Int → List Int → Bool → Int → Int → Option ((Bool × Unit) × (((Option (List (Int × Int × List Int))) × List Int × List Int × Bool × Unit) × Unit))) (c_i_copyMachine : (List (Int × Int × List Int)) → List Int → List Int → Bool → Option ((((List (Int × Int × List Int)) × List Int × List Int × Bool × Unit) × Unit) × (Unit))) (c_i_DepthsOf_1 : (List (Int × Int × List Int)) → List Int → List Int → Bool → List Int → Option ((Unit) × ((List Int × Unit) × Unit))) (n : Nat) (t : (List (Int × Int)) × (List Int × Unit) × (Unit × Unit × Unit × Bool × Unit) × ((List (Int × Int × List Int)) × List Int × List Int × Bool × Unit) × (List (Int × Int)) × Int × Int × Unit) : Option ((((List (Int × Int × List Int)) × List Int × List Int × Bool × Unit) × Int × Unit) × ((List Int × Unit) × Unit)) :=
  lfix n (fun again t => B_i_running__c_i_DepthsOf_1_L0b k c_i_NewMachine c_i_Machine_step c_i_copyMachine c_i_DepthsOf_1 again t.1 t.2.1.1 t.2.2.1.2.2.2.1 t.2.2.2.1.1 t.2.2.2.1.2.1 t.2.2.2.1.2.2.1 t.2.2.2.1.2.2.2.1 t.2.2.2.2.1 t.2.2.2.2.2.1 t.2.2.2.2.2.2.1) t
def B_i_running__c_i_DepthsOf_1 (k : Nat) (c_i_NewMachine : Int → Option ((((List (Int × Int × List Int)) × Unit × List Int × Bool × Unit) × Unit) × (Unit))) (c_i_Machine_step : (List (Int × Int × List Int)) → List Int → List Int → Bool → Int → Int → Option ((Bool × Unit) × (((Option (List (Int × Int × List Int))) × List Int × List Int × Bool × Unit) × Unit))) (c_i_copyMachine : (List (Int × Int × List Int)) → List Int → List Int → Bool → Option ((((List (Int × Int × List Int)) × List Int × List Int × Bool × Unit) × Unit) × (Unit))) (c_i_DepthsOf_1 : (List (Int × Int × List Int)) → List Int → List Int → Bool → List Int → Option ((Unit) × ((List Int × Unit) × Unit))) (ops : List (Int × Int)) (after : List Int) : Option ((((List (Int × Int × List Int)) × List Int × List Int × Bool × Unit) × Int × Unit) × ((List Int × Unit) × Unit)) :=
  (c_i_NewMachine 0).bind fun r9 =>
  B_i_running__c_i_DepthsOf_1_L0 k c_i_NewMachine c_i_Machine_step c_i_copyMachine c_i_DepthsOf_1 k (ops, (after, ()), ((), (), (), false, ()), (r9.1.1.1, [], r9.1.1.2.2.1, r9.1.1.2.2.2.1, ()), ops, len ops, 0, ())
def F_i_running__c_i_DepthsOf_1 : Nat → (List (Int × Int)) → List Int → Option ((((List (Int × Int × List Int)) × List Int × List Int × Bool × Unit) × Int × Unit) × ((List Int × Unit) × Unit))
  | 0, _, _ => none
  | k + 1, ops, after => B_i_running__c_i_DepthsOf_1 k (F_i_NewMachine k) (F_i_Machine_step k) (F_i_copyMachine k) (F_i_DepthsOf_1 k) ops after
theorem F_i_running__c_i_DepthsOf_1_succ (k : Nat) (ops : List (Int × Int)) (after : List Int) : F_i_running__c_i_DepthsOf_1 (k + 1) ops after = B_i_running__c_i_DepthsOf_1 k (F_i_NewMachine k) (F_i_Machine_step k) (F_i_copyMachine k) (F_i_DepthsOf_1 k) ops after := rfl
theorem tot_i_running__c_i_DepthsOf_1 {ops : List (Int × Int)} {after : List Int} {Q : (((((List (Int × Int × List Int)) × List Int × List Int × Bool × Unit) × Int × Unit) × ((List Int × Unit) × Unit))) → Prop} (h : Tot (fun σ => B_i_running__c_i_DepthsOf_1 (σ 0) (F_i_NewMachine (σ 0)) (F_i_Machine_step (σ 0)) (F_i_copyMachine (σ 0)) (F_i_DepthsOf_1 (σ 0)) ops after) Q) : Tot (fun σ => F_i_running__c_i_DepthsOf_1 (σ 0) ops after) Q :=
  Tot.call (F := fun k => F_i_running__c_i_DepthsOf_1 k ops after) (B := fun k => B_i_running__c_i_DepthsOf_1 k (F_i_NewMachine k) (F_i_Machine_step k) (F_i_copyMachine k) (F_i_DepthsOf_1 k) ops after) (fun k => F_i_running__c_i_DepthsOf_1_succ k ops after) h
theorem loop_i_running__c_i_DepthsOf_1_L0 {Q : (List (Int × Int)) → List Int → Bool → (List (Int × Int × List Int)) → List Int → List Int → Bool → (List (Int × Int)) → Int → Int → ((((List (Int × Int × List Int)) × List Int × List Int × Bool × Unit) × Int × Unit) × ((List Int × Unit) × Unit)) → Prop} (I : (List (Int × Int)) → List Int → Bool → (List (Int × Int × List Int)) → List Int → List Int → Bool → (List (Int × Int)) → Int → Int → Prop) (μ : (List (Int × Int)) → List Int → Bool → (List (Int × Int × List Int)) → List Int → List Int → Bool → (List (Int × Int)) → Int → Int → Nat)
    (step : ∀ (ops : List (Int × Int)) (after : List Int) (t4_Done : Bool) (m_Nodes : List (Int × Int × List Int)) (m_Stack : List Int) (m_Memo : List Int) (m_Done : Bool) (t10 : List (Int × Int)) (t11 : Int) (t12 : Int), I ops after t4_Done m_Nodes m_Stack m_Memo m_Done t10 t11 t12 → ∀ again : (Nat → Nat) → ((List (Int × Int)) × (List Int × Unit) × (Unit × Unit × Unit × Bool × Unit) × ((List (Int × Int × List Int)) × List Int × List Int × Bool × Unit) × (List (Int × Int)) × Int × Int × Unit) → Option ((((List (Int × Int × List Int)) × List Int × List Int × Bool × Unit) × Int × Unit) × ((List Int × Unit) × Unit)), Dep 2 again → (∀ (y0 : List (Int × Int)) (y1 : List Int) (y2 : Bool) (y3 : List (Int × Int × List Int)) (y4 : List Int) (y5 : List Int) (y6 : Bool) (y7 : List (Int × Int)) (y8 : Int) (y9 : Int), I y0 y1 y2 y3 y4 y5 y6 y7 y8 y9 → μ y0 y1 y2 y3 y4 y5 y6 y7 y8 y9 < μ ops after t4_Done m_Nodes m_Stack m_Memo m_Done t10 t11 t12 → Tot (fun σ => again σ (y0, (y1, ()), ((), (), (), y2, ()), (y3, y4, y5, y6, ()), y7, y8, y9, ())) (Q y0 y1 y2 y3 y4 y5 y6 y7 y8 y9)) →
      Tot (fun σ => B_i_running__c_i_DepthsOf_1_L0b (σ 0) (F_i_NewMachine (σ 0)) (F_i_Machine_step (σ 0)) (F_i_copyMachine (σ 0)) (F_i_DepthsOf_1 (σ 0)) (again σ) ops after t4_Done m_Nodes m_Stack m_Memo m_Done t10 t11 t12) (Q ops after t4_Done m_Nodes m_Stack m_Memo m_Done t10 t11 t12)) :
    ∀ (ops : List (Int × Int)) (after : List Int) (t4_Done : Bool) (m_Nodes : List (Int × Int × List Int)) (m_Stack : List Int) (m_Memo : List Int) (m_Done : Bool) (t10 : List (Int × Int)) (t11 : Int) (t12 : Int), I ops after t4_Done m_Nodes m_Stack m_Memo m_Done t10 t11 t12 → Tot (fun σ => B_i_running__c_i_DepthsOf_1_L0 (σ 0) (F_i_NewMachine (σ 0)) (F_i_Machine_step (σ 0)) (F_i_copyMachine (σ 0)) (F_i_DepthsOf_1 (σ 0)) (σ 0) (ops, (after, ()), ((), (), (), t4_Done, ()), (m_Nodes, m_Stack, m_Memo, m_Done, ()), t10, t11, t12, ())) (Q ops after t4_Done m_Nodes m_Stack m_Memo m_Done t10 t11 t12) := fun ops after t4_Done m_Nodes m_Stack m_Memo m_Done t10 t11 t12 hI =>
  Tot.loop (L := fun σ n t => B_i_running__c_i_DepthsOf_1_L0 (σ 0) (F_i_NewMachine (σ 0)) (F_i_Machine_step (σ 0)) (F_i_copyMachine (σ 0)) (F_i_DepthsOf_1 (σ 0)) n t) (B := fun σ g t => B_i_running__c_i_DepthsOf_1_L0b (σ 0) (F_i_NewMachine (σ 0)) (F_i_Machine_step (σ 0)) (F_i_copyMachine (σ 0)) (F_i_DepthsOf_1 (σ 0)) g t.1 t.2.1.1 t.2.2.1.2.2.2.1 t.2.2.2.1.1 t.2.2.2.1.2.1 t.2.2.2.1.2.2.1 t.2.2.2.1.2.2.2.1 t.2.2.2.2.1 t.2.2.2.2.2.1 t.2.2.2.2.2.2.1) (Q := fun t => Q t.1 t.2.1.1 t.2.2.1.2.2.2.1 t.2.2.2.1.1 t.2.2.2.1.2.1 t.2.2.2.1.2.2.1 t.2.2.2.1.2.2.2.1 t.2.2.2.2.1 t.2.2.2.2.2.1 t.2.2.2.2.2.2.1) 1 (by decide)
    (fun s s' h => by have e0 : s 0 = s' 0 := h 0 (by decide); simp only [e0]) (fun s s' h => by have e0 : s 0 = s' 0 := h 0 (by decide); simp only [e0]) (fun _ _ _ => rfl) (fun t => I t.1 t.2.1.1 t.2.2.1.2.2.2.1 t.2.2.2.1.1 t.2.2.2.1.2.1 t.2.2.2.1.2.2.1 t.2.2.2.1.2.2.2.1 t.2.2.2.2.1 t.2.2.2.2.2.1 t.2.2.2.2.2.2.1) (fun t => μ t.1 t.2.1.1 t.2.2.1.2.2.2.1 t.2.2.2.1.1 t.2.2.2.1.2.1 t.2.2.2.1.2.2.1 t.2.2.2.1.2.2.2.1 t.2.2.2.2.1 t.2.2.2.2.2.1 t.2.2.2.2.2.2.1)
    (fun t ht again hag h => step t.1 t.2.1.1 t.2.2.1.2.2.2.1 t.2.2.2.1.1 t.2.2.2.1.2.1 t.2.2.2.1.2.2.1 t.2.2.2.1.2.2.2.1 t.2.2.2.2.1 t.2.2.2.2.2.1 t.2.2.2.2.2.2.1 ht again hag (fun y0 y1 y2 y3 y4 y5 y6 y7 y8 y9 hI hm => h (y0, (y1, ()), ((), (), (), y2, ()), (y3, y4, y5, y6, ()), y7, y8, y9, ()) hI hm)) (ops, (after, ()), ((), (), (), t4_Done, ()), (m_Nodes, m_Stack, m_Memo, m_Done, ()), t10, t11, t12, ()) hI
def B_i_DepthsOf (k : Nat) (c_i_ValidOps : (List (Int × Int)) → Option ((Bool × Unit) × (Unit))) (c_i_running__c_i_DepthsOf_1 : (List (Int × Int)) → List Int → Option ((((List (Int × Int × List Int)) × List Int × List Int × Bool × Unit) × Int × Unit) × ((List Int × Unit) × Unit))) (ops : List (Int × Int)) : Option ((List Int × Unit) × (Unit)) :=
  (c_i_ValidOps ops).bind fun r5 =>
  bif (!r5.1.1) then
    some (([], ()), ())
  else
    (c_i_running__c_i_DepthsOf_1 ops ([])).bind fun r10 =>
    some ((r10.2.1.1, ()), ())
def F_i_DepthsOf : Nat → (List (Int × Int)) → Option ((List Int × Unit) × (Unit))
  | 0, _ => none
  | k + 1, ops => B_i_DepthsOf k (F_i_ValidOps k) (F_i_running__c_i_DepthsOf_1 k) ops
theorem F_i_DepthsOf_succ (k : Nat) (ops : List (Int × Int)) : F_i_DepthsOf (k + 1) ops = B_i_DepthsOf k (F_i_ValidOps k) (F_i_running__c_i_DepthsOf_1 k) ops := rfl
theorem tot_i_DepthsOf {ops : List (Int × Int)} {Q : (((List Int × Unit) × (Unit))) → Prop} (h : Tot (fun σ => B_i_DepthsOf (σ 0) (F_i_ValidOps (σ 0)) (F_i_running__c_i_DepthsOf_1 (σ 0)) ops) Q) : Tot (fun σ => F_i_DepthsOf (σ 0) ops) Q :=
  Tot.call (F := fun k => F_i_DepthsOf k ops) (B := fun k => B_i_DepthsOf k (F_i_ValidOps k) (F_i_running__c_i_DepthsOf_1 k) ops) (fun k => F_i_DepthsOf_succ k ops) h
def B_i_BuildGraph_1 (k : Nat) (t0_0 : List (Int × Int × List Int)) (t0_1 : List Int) (t0_2 : List Int) (t0_3 : Bool) : Option ((Unit) × (Unit)) :=
  some ((), ())
def F_i_BuildGraph_1 : Nat → (List (Int × Int × List Int)) → List Int → List Int → Bool → Option ((Unit) × (Unit))
  | 0, _, _, _, _ => none
  | k + 1, t0_0, t0_1, t0_2, t0_3 => B_i_BuildGraph_1 k t0_0 t0_1 t0_2 t0_3
theorem F_i_BuildGraph_1_succ (k : Nat) (t0_0 : List (Int × Int × List Int)) (t0_1 : List Int) (t0_2 : List Int) (t0_3 : Bool) : F_i_BuildGraph_1 (k + 1) t0_0 t0_1 t0_2 t0_3 = B_i_BuildGraph_1 k t0_0 t0_1 t0_2 t0_3 := rfl
theorem tot_i_BuildGraph_1 {t0_0 : List (Int × Int × List Int)} {t0_1 : List Int} {t0_2 : List Int} {t0_3 : Bool} {Q : (((Unit) × (Unit))) → Prop} (h : Tot (fun σ => B_i_BuildGraph_1 (σ 0) t0_0 t0_1 t0_2 t0_3) Q) : Tot (fun σ => F_i_BuildGraph_1 (σ 0) t0_0 t0_1 t0_2 t0_3) Q :=
  Tot.call (F := fun k => F_i_BuildGraph_1 k t0_0 t0_1 t0_2 t0_3) (B := fun k => B_i_BuildGraph_1 k t0_0 t0_1 t0_2 t0_3) (fun k => F_i_BuildGraph_1_succ k t0_0 t0_1 t0_2 t0_3) h
def B_i_running__i_BuildGraph_1_L0b (k : Nat) (c_i_NewMachine : Int → Option ((((List (Int × Int × List Int)) × Unit × List Int × Bool × Unit) × Unit) × (Unit))) (c_i_Machine_step : (List (Int × Int × List Int)) → List Int → List Int → Bool → Int → Int → Option ((Bool × Unit) × (((Option (List (Int × Int × List Int))) × List Int × List Int × Bool × Unit) × Unit))) (c_i_copyMachine : (List (Int × Int × List Int)) → List Int → List Int → Bool → Option ((((List (Int × Int × List Int)) × List Int × List Int × Bool × Unit) × Unit) × (Unit))) (c_i_BuildGraph_1 : (List (Int × Int × List Int)) → List Int → List Int → Bool → Option ((Unit) × (Unit))) (again0 : ((List (Int × Int)) × Unit × (Unit × Unit × Unit × Bool × Unit) × ((List (Int × Int × List Int)) × List Int × List Int × Bool × Unit) × (List (Int × Int)) × Int × Int × Unit) → Option ((((List (Int × Int × List Int)) × List Int × List Int × Bool × Unit) × Int × Unit) × (Unit))) (ops : List (Int × Int)) (t4_Done : Bool) (m_Nodes : List (Int × Int × List Int)) (m_Stack : List Int) (m_Memo : List Int) (m_Done : Bool) (t10 : List (Int × Int)) (t11 : Int) (t12 : Int) : Option ((((List (Int × Int × List Int)) × List Int × List Int × Bool × Unit) × Int × Unit) × (Unit)) :=
  bif decide (t12 < t11) then
    chk (inb t12 t10.length) <|
    (c_i_Machine_step m_Nodes m_Stack m_Memo m_Done ((rdx ((0 : Int), (0 : Int)) t10 t12).1) ((rdx ((0 : Int), (0 : Int)) t10 t12).2)).bind fun r18 =>
    bif (!r18.1.1) then
      (r18.2.1.1).bind fun p25 =>
      (c_i_copyMachine p25 r18.2.1.2.1 r18.2.1.2.2.1 r18.2.1.2.2.2.1).bind fun r21 =>
      some (((r21.1.1.1, r21.1.1.2.1, r21.1.1.2.2.1, r21.1.1.2.2.2.1, ()), t12, ()), ())
    else
      (r18.2.1.1).bind fun p26 =>
      (c_i_BuildGraph_1 p26 r18.2.1.2.1 r18.2.1.2.2.1 r18.2.1.2.2.2.1).bind fun r25 =>
      (r18.2.1.1).bind fun p27 =>
      again0 (ops, (), ((), (), (), t4_Done, ()), (p27, r18.2.1.2.1, r18.2.1.2.2.1, r18.2.1.2.2.2.1, ()), t10, t11, w64 (t12 + 1), ())
  else
    (c_i_copyMachine m_Nodes m_Stack m_Memo m_Done).bind fun r28 =>
    some (((r28.1.1.1, r28.1.1.2.1, r28.1.1.2.2.1, r28.1.1.2.2.2.1, ()), len ops, ()), ())
def B_i_running__i_BuildGraph_1_L0 (k : Nat) (c_i_NewMachine : Int → Option ((((List (Int × Int × List Int)) × Unit × List Int × Bool × Unit) × Unit) × (Unit))) (c_i_Machine_step : (List (Int × Int × List Int)) → List Int → List Int → Bool → Int → Int → Option ((Bool × Unit) × (((Option (List (Int × Int × List Int))) × List Int × List Int × Bool × Unit) × Unit))) (c_i_copyMachine : (List (Int × Int × List Int)) → List Int → List Int → Bool → Option ((((List (Int × Int × List Int)) × List Int × List Int × Bool × Unit) × Unit) × (Unit))) (c_i_BuildGraph_1 : (List (Int × Int × List Int)) → List Int → List Int → Bool → Option ((Unit) × (Unit))) (n : Nat) (t : (List (Int × Int)) × Unit × (Unit × Unit × Unit × Bool × Unit) × ((List (Int × Int × List Int)) × List Int × List Int × Bool × Unit) × (List (Int × Int)) × Int × Int × Unit) : Option ((((List (Int × Int × List Int)) × List Int × List Int × Bool × Unit) × Int × Unit) × (Unit)) :=
  lfix n (fun again t => B_i_running__i_BuildGraph_1_L0b k c_i_NewMachine c_i_Machine_step c_i_copyMachine c_i_BuildGraph_1 again t.1 t.2.2.1.2.2.2.1 t.2.2.2.1.1 t.2.2.2.1.2.1 t.2.2.2.1.2.2.1 t.2.2.2.1.2.2.2.1 t.2.2.2.2.1 t.2.2.2.2.2.1 t.2.2.2.2.2.2.1) t
def B_i_running__i_BuildGraph_1 (k : Nat) (c_i_NewMachine : Int → Option ((((List (Int × Int × List Int)) × Unit × List Int × Bool × Unit) × Unit) × (Unit))) (c_i_Machine_step : (List (Int × Int × List Int)) → List Int → List Int → Bool → Int → Int → Option ((Bool × Unit) × (((Option (List (Int × Int × List Int))) × List Int × List Int × Bool × Unit) × Unit))) (c_i_copyMachine : (List (Int × Int × List Int)) → List Int → List Int → Bool → Option ((((List (Int × Int × List Int)) × List Int × List Int × Bool × Unit) × Unit) × (Unit))) (c_i_BuildGraph_1 : (List (Int × Int × List Int)) → List Int → List Int → Bool → Option ((Unit) × (Unit))) (ops : List (Int × Int)) : Option ((((List (Int × Int × List Int)) × List Int × List Int × Bool × Unit) × Int × Unit) × (Unit)) :=
  (c_i_NewMachine 0).bind fun r9 =>
  B_i_running__i_BuildGraph_1_L0 k c_i_NewMachine c_i_Machine_step c_i_copyMachine c_i_BuildGraph_1 k (ops, (), ((), (), (), false, ()), (r9.1.1.1, [], r9.1.1.2.2.1, r9.1.1.2.2.2.1, ()), ops, len ops, 0, ())
def F_i_running__i_BuildGraph_1 : Nat → (List (Int × Int)) → Option ((((List (Int × Int × List Int)) × List Int × List Int × Bool × Unit) × Int × Unit) × (Unit))
  | 0, _ => none
  | k + 1, ops => B_i_running__i_BuildGraph_1 k (F_i_NewMachine k) (F_i_Machine_step k) (F_i_copyMachine k) (F_i_BuildGraph_1 k) ops
theorem F_i_running__i_BuildGraph_1_succ (k : Nat) (ops : List (Int × Int)) : F_i_running__i_BuildGraph_1 (k + 1) ops = B_i_running__i_BuildGraph_1 k (F_i_NewMachine k) (F_i_Machine_step k) (F_i_copyMachine k) (F_i_BuildGraph_1 k) ops := rfl
theorem tot_i_running__i_BuildGraph_1 {ops : List (Int × Int)} {Q : (((((List (Int × Int × List Int)) × List Int × List Int × Bool × Unit) × Int × Unit) × (Unit))) → Prop} (h : Tot (fun σ => B_i_running__i_BuildGraph_1 (σ 0) (F_i_NewMachine (σ 0)) (F_i_Machine_step (σ 0)) (F_i_copyMachine (σ 0)) (F_i_BuildGraph_1 (σ 0)) ops) Q) : Tot (fun σ => F_i_running__i_BuildGraph_1 (σ 0) ops) Q :=
  Tot.call (F := fun k => F_i_running__i_BuildGraph_1 k ops) (B := fun k => B_i_running__i_BuildGraph_1 k (F_i_NewMachine k) (F_i_Machine_step k) (F_i_copyMachine k) (F_i_BuildGraph_1 k) ops) (fun k => F_i_running__i_BuildGraph_1_succ k ops) h
theorem loop_i_running__i_BuildGraph_1_L0 {Q : (List (Int × Int)) → Bool → (List (Int × Int × List Int)) → List Int → List Int → Bool → (List (Int × Int)) → Int → Int → ((((List (Int × Int × List Int)) × List Int × List Int × Bool × Unit) × Int × Unit) × (Unit)) → Prop} (I : (List (Int × Int)) → Bool → (List (Int × Int × List Int)) → List Int → List Int → Bool → (List (Int × Int)) → Int → Int → Prop) (μ : (List (Int × Int)) → Bool → (List (Int × Int × List Int)) → List Int → List Int → Bool → (List (Int × Int)) → Int → Int → Nat)
    (step : ∀ (ops : List (Int × Int)) (t4_Done : Bool) (m_Nodes : List (Int × Int × List Int)) (m_Stack : List Int) (m_Memo : List Int) (m_Done : Bool) (t10 : List (Int × Int)) (t11 : Int) (t12 : Int), I ops t4_Done m_Nodes m_Stack m_Memo m_Done t10 t11 t12 → ∀ again : (Nat → Nat) → ((List (Int × Int)) × Unit × (Unit × Unit × Unit × Bool × Unit) × ((List (Int × Int × List Int)) × List Int × List Int × Bool × Unit) × (List (Int × Int)) × Int × Int × Unit) → Option ((((List (Int × Int × List Int)) × List Int × List Int × Bool × Unit) × Int × Unit) × (Unit)), Dep 2 again → (∀ (y0 : List (Int × Int)) (y1 : Bool) (y2 : List (Int × Int × List Int)) (y3 : List Int) (y4 : List Int) (y5 : Bool) (y6 : List (Int × Int)) (y7 : Int) (y8 : Int), I y0 y1 y2 y3 y4 y5 y6 y7 y8 → μ y0 y1 y2 y3 y4 y5 y6 y7 y8 < μ ops t4_Done m_Nodes m_Stack m_Memo m_Done t10 t11 t12 → Tot (fun σ => again σ (y0, (), ((), (), (), y1, ()), (y2, y3, y4, y5, ()), y6, y7, y8, ())) (Q y0 y1 y2 y3 y4 y5 y6 y7 y8)) →
      Tot (fun σ => B_i_running__i_BuildGraph_1_L0b (σ 0) (F_i_NewMachine (σ 0)) (F_i_Machine_step (σ 0)) (F_i_copyMachine (σ 0)) (F_i_BuildGraph_1 (σ 0)) (again σ) ops t4_Done m_Nodes m_Stack m_Memo m_Done t10 t11 t12) (Q ops t4_Done m_Nodes m_Stack m_Memo m_Done t10 t11 t12)) :
    ∀ (ops : List (Int × Int)) (t4_Done : Bool) (m_Nodes : List (Int × Int × List Int)) (m_Stack : List Int) (m_Memo : List Int) (m_Done : Bool) (t10 : List (Int × Int)) (t11 : Int) (t12 : Int), I ops t4_Done m_Nodes m_Stack m_Memo m_Done t10 t11 t12 → Tot (fun σ => B_i_running__i_BuildGraph_1_L0 (σ 0) (F_i_NewMachine (σ 0)) (F_i_Machine_step (σ 0)) (F_i_copyMachine (σ 0)) (F_i_BuildGraph_1 (σ 0)) (σ 0) (ops, (), ((), (), (), t4_Done, ()), (m_Nodes, m_Stack, m_Memo, m_Done, ()), t10, t11, t12, ())) (Q ops t4_Done m_Nodes m_Stack m_Memo m_Done t10 t11 t12) := fun ops t4_Done m_Nodes m_Stack m_Memo m_Done t10 t11 t12 hI =>
  Tot.loop (L := fun σ n t => B_i_running__i_BuildGraph_1_L0 (σ 0) (F_i_NewMachine (σ 0)) (F_i_Machine_step (σ 0)) (F_i_copyMachine (σ 0)) (F_i_BuildGraph_1 (σ 0)) n t) (B := fun σ g t => B_i_running__i_BuildGraph_1_L0b (σ 0) (F_i_NewMachine (σ 0)) (F_i_Machine_step (σ 0)) (F_i_copyMachine (σ 0)) (F_i_BuildGraph_1 (σ 0)) g t.1 t.2.2.1.2.2.2.1 t.2.2.2.1.1 t.2.2.2.1.2.1 t.2.2.2.1.2.2.1 t.2.2.2.1.2.2.2.1 t.2.2.2.2.1 t.2.2.2.2.2.1 t.2.2.2.2.2.2.1) (Q := fun t => Q t.1 t.2.2.1.2.2.2.1 t.2.2.2.1.1 t.2.2.2.1.2.1 t.2.2.2.1.2.2.1 t.2.2.2.1.2.2.2.1 t.2.2.2.2.1 t.2.2.2.2.2.1 t.2.2.2.2.2.2.1) 1 (by decide)
    (fun s s' h => by have e0 : s 0 = s' 0 := h 0 (by decide); simp only [e0]) (fun s s' h => by have e0 : s 0 = s' 0 := h 0 (by decide); simp only [e0]) (fun _ _ _ => rfl) (fun t => I t.1 t.2.2.1.2.2.2.1 t.2.2.2.1.1 t.2.2.2.1.2.1 t.2.2.2.1.2.2.1 t.2.2.2.1.2.2.2.1 t.2.2.2.2.1 t.2.2.2.2.2.1 t.2.2.2.2.2.2.1) (fun t => μ t.1 t.2.2.1.2.2.2.1 t.2.2.2.1.1 t.2.2.2.1.2.1 t.2.2.2.1.2.2.1 t.2.2.2.1.2.2.2.1 t.2.2.2.2.1 t.2.2.2.2.2.1 t.2.2.2.2.2.2.1)
    (fun t ht again hag h => step t.1 t.2.2.1.2.2.2.1 t.2.2.2.1.1 t.2.2.2.1.2.1 t.2.2.2.1.2.2.1 t.2.2.2.1.2.2.2.1 t.2.2.2.2.1 t.2.2.2.2.2.1 t.2.2.2.2.2.2.1 ht again hag (fun y0 y1 y2 y3 y4 y5 y6 y7 y8 hI hm => h (y0, (), ((), (), (), y1, ()), (y2, y3, y4, y5, ()), y6, y7, y8, ()) hI hm)) (ops, (), ((), (), (), t4_Done, ()), (m_Nodes, m_Stack, m_Memo, m_Done, ()), t10, t11, t12, ()) hI
def B_i_BuildGraph_J0 (k : Nat) (c_i_ValidOps : (List (Int × Int)) → Option ((Bool × Unit) × (Unit))) (c_i_running__i_BuildGraph_1 : (List (Int × Int)) → Option ((((List (Int × Int × List Int)) × List Int × List Int × Bool × Unit) × Int × Unit) × (Unit))) (t2_Root : Int) (m_Nodes : List (Int × Int × List Int)) (m_Stack : List Int) (m_Memo : List Int) (m_Done : Bool) (t23 : Bool) : Option ((((List (Int × Int × List Int)) × Int × Unit) × Bool × Unit) × (Unit)) :=
  bif t23 then
    some ((([], 0, ()), false, ()), ())
  else
    chk (inb 0 m_Stack.length) <|
    chk (decide ((0 : Int).toNat < m_Stack.length)) <|
    some (((m_Nodes, (m_Stack.getD ((0 : Int).toNat) (0 : Int)), ()), true, ()), ())
def B_i_BuildGraph (k : Nat) (c_i_ValidOps : (List (Int × Int)) → Option ((Bool × Unit) × (Unit))) (c_i_running__i_BuildGraph_1 : (List (Int × Int)) → Option ((((List (Int × Int × List Int)) × List Int × List Int × Bool × Unit) × Int × Unit) × (Unit))) (ops : List (Int × Int)) : Option ((((List (Int × Int × List Int)) × Int × Unit) × Bool × Unit) × (Unit)) :=
  (c_i_ValidOps ops).bind fun r7 =>
  bif (!r7.1.1) then
    some ((([], 0, ()), false, ()), ())
  else
    (c_i_running__i_BuildGraph_1 ops).bind fun r12 =>
    bif decide (r12.1.2.1 < (len ops)) then
      jn (fun t => B_i_BuildGraph_J0 k c_i_ValidOps c_i_running__i_BuildGraph_1 t.1.2.1 t.2.1.1 t.2.1.2.1 t.2.1.2.2.1 t.2.1.2.2.2.1 t.2.2.1) (((), 0, ()), (r12.1.1.1, r12.1.1.2.1, r12.1.1.2.2.1, r12.1.1.2.2.2.1, ()), true, ())
    else
      jn (fun t => B_i_BuildGraph_J0 k c_i_ValidOps c_i_running__i_BuildGraph_1 t.1.2.1 t.2.1.1 t.2.1.2.1 t.2.1.2.2.1 t.2.1.2.2.2.1 t.2.2.1) (((), 0, ()), (r12.1.1.1, r12.1.1.2.1, r12.1.1.2.2.1, r12.1.1.2.2.2.1, ()), (!r12.1.1.2.2.2.1), ())
def F_i_BuildGraph : Nat → (List (Int × Int)) → Option ((((List (Int × Int × List Int)) × Int × Unit) × Bool × Unit) × (Unit))
  | 0, _ => none
  | k + 1, ops => B_i_BuildGraph k (F_i_ValidOps k) (F_i_running__i_BuildGraph_1 k) ops
theorem F_i_BuildGraph_succ (k : Nat) (ops : List (Int × Int)) : F_i_BuildGraph (k + 1) ops = B_i_BuildGraph k (F_i_ValidOps k) (F_i_running__i_BuildGraph_1 k) ops := rfl
theorem tot_i_BuildGraph {ops : List (Int × Int)} {Q : (((((List (Int × Int × List Int)) × Int × Unit) × Bool × Unit) × (Unit))) → Prop} (h : Tot (fun σ => B_i_BuildGraph (σ 0) (F_i_ValidOps (σ 0)) (F_i_running__i_BuildGraph_1 (σ 0)) ops) Q) : Tot (fun σ => F_i_BuildGraph (σ 0) ops) Q :=
  Tot.call (F := fun k => F_i_BuildGraph k ops) (B := fun k => B_i_BuildGraph k (F_i_ValidOps k) (F_i_running__i_BuildGraph_1 k) ops) (fun k => F_i_BuildGraph_succ k ops) h
def B_i_IsWhole (k : Nat) (c_i_BuildGraph : (List (Int × Int)) → Option ((((List (Int × Int × List Int)) × Int × Unit) × Bool × Unit) × (Unit))) (ops : List (Int × Int)) : Option ((Bool × Unit) × (Unit)) :=
  (c_i_BuildGraph ops).bind fun r7 =>
  some ((r7.1.2.1, ()), ())
def F_i_IsWhole : Nat → (List (Int × Int)) → Option ((Bool × Unit) × (Unit))
  | 0, _ => none
  | k + 1, ops => B_i_IsWhole k (F_i_BuildGraph k) ops
theorem F_i_IsWhole_succ (k : Nat) (ops : List (Int × Int)) : F_i_IsWhole (k + 1) ops = B_i_IsWhole k (F_i_BuildGraph k) ops := rfl
theorem tot_i_IsWhole {ops : List (Int × Int)} {Q : (((Bool × Unit) × (Unit))) → Prop} (h : Tot (fun σ => B_i_IsWhole (σ 0) (F_i_BuildGraph (σ 0)) ops) Q) : Tot (fun σ => F_i_IsWhole (σ 0) ops) Q :=
  Tot.call (F := fun k => F_i_IsWhole k ops) (B := fun k => B_i_IsWhole k (F_i_BuildGraph k) ops) (fun k => F_i_IsWhole_succ k ops) h
def B_l_FnMarksOf_J2 (k : Nat) (c_s_DrawMarksOf : List Int → Option (((List (Int × Int)) × Unit) × (Unit))) (c_i_MarksOf : (List (Int × Int)) → Option ((List Int × Unit) × (Unit))) (c_s_MarksOf : (List (Int × Int)) → Option ((List Int × Unit) × (Unit))) (c_l_equalInts : List Int → List Int → Option ((Bool × Unit) × (Unit))) (c_i_TakesOf : Int → Option ((Int × Int × Unit) × (Unit))) (c_i_DepthsOf : (List (Int × Int)) → Option ((List Int × Unit) × (Unit))) (c_i_IsWhole : (List (Int × Int)) → Option ((Bool × Unit) × (Unit))) (again3 : ((List (Int × Int)) × List Int × Int × Int × Unit) → Option ((Bool × Unit) × (Unit))) (ops : List (Int × Int)) (out : List Int) (before : Int) (i : Int) (d : Int) : Option ((Bool × Unit) × (Unit)) :=
  chk (inb i out.length) <|
  chk (decide (i.toNat < out.length)) <|
  bif ((out.getD i.toNat (0 : Int)) != (w64 (before + d))) then
    some ((false, ()), ())
  else
    chk (inb i out.length) <|
    chk (decide (i.toNat < out.length)) <|
    again3 (ops, out, (out.getD i.toNat (0 : Int)), w64 (i + 1), ())
def B_l_FnMarksOf_J1 (k : Nat) (c_s_DrawMarksOf : List Int → Option (((List (Int × Int)) × Unit) × (Unit))) (c_i_MarksOf : (List (Int × Int)) → Option ((List Int × Unit) × (Unit))) (c_s_MarksOf : (List (Int × Int)) → Option ((List Int × Unit) × (Unit))) (c_l_equalInts : List Int → List Int → Option ((Bool × Unit) × (Unit))) (c_i_TakesOf : Int → Option ((Int × Int × Unit) × (Unit))) (c_i_DepthsOf : (List (Int × Int)) → Option ((List Int × Unit) × (Unit))) (c_i_IsWhole : (List (Int × Int)) → Option ((Bool × Unit) × (Unit))) (again3 : ((List (Int × Int)) × List Int × Int × Int × Unit) → Option ((Bool × Unit) × (Unit))) (ops : List (Int × Int)) (out : List Int) (before : Int) (i : Int) (takes : Int) (d : Int) : Option ((Bool × Unit) × (Unit)) :=
  bif (takes == (-1)) then
    jn (fun t => B_l_FnMarksOf_J2 k c_s_DrawMarksOf c_i_MarksOf c_s_MarksOf c_l_equalInts c_i_TakesOf c_i_DepthsOf c_i_IsWhole again3 t.1 t.2.1 t.2.2.1 t.2.2.2.1 t.2.2.2.2.1) (ops, out, before, i, (-1), ())
  else
    jn (fun t => B_l_FnMarksOf_J2 k c_s_DrawMarksOf c_i_MarksOf c_s_MarksOf c_l_equalInts c_i_TakesOf c_i_DepthsOf c_i_IsWhole again3 t.1 t.2.1 t.2.2.1 t.2.2.2.1 t.2.2.2.2.1) (ops, out, before, i, d, ())
def B_l_FnMarksOf_L3b (k : Nat) (c_s_DrawMarksOf : List Int → Option (((List (Int × Int)) × Unit) × (Unit))) (c_i_MarksOf : (List (Int × Int)) → Option ((List Int × Unit) × (Unit))) (c_s_MarksOf : (List (Int × Int)) → Option ((List Int × Unit) × (Unit))) (c_l_equalInts : List Int → List Int → Option ((Bool × Unit) × (Unit))) (c_i_TakesOf : Int → Option ((Int × Int × Unit) × (Unit))) (c_i_DepthsOf : (List (Int × Int)) → Option ((List Int × Unit) × (Unit))) (c_i_IsWhole : (List (Int × Int)) → Option ((Bool × Unit) × (Unit))) (again3 : ((List (Int × Int)) × List Int × Int × Int × Unit) → Option ((Bool × Unit) × (Unit))) (ops : List (Int × Int)) (out : List Int) (before : Int) (i : Int) : Option ((Bool × Unit) × (Unit)) :=
  bif decide (i < (len out)) then
    chk (inb i ops.length) <|
    chk (decide (i.toNat < ops.length)) <|
    (c_i_TakesOf ((ops.getD i.toNat ((0 : Int), (0 : Int))).1)).bind fun r43 =>
    chk (inb i ops.length) <|
    chk (decide (i.toNat < ops.length)) <|
    bif (((ops.getD i.toNat ((0 : Int), (0 : Int))).1) == 2) then
      jn (fun t => B_l_FnMarksOf_J1 k c_s_DrawMarksOf c_i_MarksOf c_s_MarksOf c_l_equalInts c_i_TakesOf c_i_DepthsOf c_i_IsWhole again3 t.1 t.2.1 t.2.2.1 t.2.2.2.1 t.2.2.2.2.1 t.2.2.2.2.2.1) (ops, out, before, i, r43.1.1, 1, ())
    else
      jn (fun t => B_l_FnMarksOf_J1 k c_s_DrawMarksOf c_i_MarksOf c_s_MarksOf c_l_equalInts c_i_TakesOf c_i_DepthsOf c_i_IsWhole again3 t.1 t.2.1 t.2.2.1 t.2.2.2.1 t.2.2.2.2.1 t.2.2.2.2.2.1) (ops, out, before, i, r43.1.1, 0, ())
  else
    (c_i_DepthsOf ops).bind fun r69 =>
    bif ((len out) == (len r69.1.1)) then
      (c_i_IsWhole ops).bind fun r74 =>
      bif (!r74.1.1) then
        some ((true, ()), ())
      else
        some (((before == 0), ()), ())
    else
      some ((false, ()), ())
def B_l_FnMarksOf_L3 (k : Nat) (c_s_DrawMarksOf : List Int → Option (((List (Int × Int)) × Unit) × (Unit))) (c_i_MarksOf : (List (Int × Int)) → Option ((List Int × Unit) × (Unit))) (c_s_MarksOf : (List (Int × Int)) → Option ((List Int × Unit) × (Unit))) (c_l_equalInts : List Int → List Int → Option ((Bool × Unit) × (Unit))) (c_i_TakesOf : Int → Option ((Int × Int × Unit) × (Unit))) (c_i_DepthsOf : (List (Int × Int)) → Option ((List Int × Unit) × (Unit))) (c_i_IsWhole : (List (Int × Int)) → Option ((Bool × Unit) × (Unit))) (n : Nat) (t : (List (Int × Int)) × List Int × Int × Int × Unit) : Option ((Bool × Unit) × (Unit)) :=
  lfix n (fun again t => B_l_FnMarksOf_L3b k c_s_DrawMarksOf c_i_MarksOf c_s_MarksOf c_l_equalInts c_i_TakesOf c_i_DepthsOf c_i_IsWhole again t.1 t.2.1 t.2.2.1 t.2.2.2.1) t
def B_l_FnMarksOf_J0 (k : Nat) (c_s_DrawMarksOf : List Int → Option (((List (Int × Int)) × Unit) × (Unit))) (c_i_MarksOf : (List (Int × Int)) → Option ((List Int × Unit) × (Unit))) (c_s_MarksOf : (List (Int × Int)) → Option ((List Int × Unit) × (Unit))) (c_l_equalInts : List Int → List Int → Option ((Bool × Unit) × (Unit))) (c_i_TakesOf : Int → Option ((Int × Int × Unit) × (Unit))) (c_i_DepthsOf : (List (Int × Int)) → Option ((List Int × Unit) × (Unit))) (c_i_IsWhole : (List (Int × Int)) → Option ((Bool × Unit) × (Unit))) (ops : List (Int × Int)) (out : List Int) (t26 : Bool) : Option ((Bool × Unit) × (Unit)) :=
  bif t26 then
    (c_s_MarksOf ops).bind fun r29 =>
    (c_l_equalInts out r29.1.1).bind fun r30 =>
    some ((r30.1.1, ()), ())
  else
    B_l_FnMarksOf_L3 k c_s_DrawMarksOf c_i_MarksOf c_s_MarksOf c_l_equalInts c_i_TakesOf c_i_DepthsOf c_i_IsWhole k (ops, out, 0, 0, ())
def B_l_FnMarksOf (k : Nat) (c_s_DrawMarksOf : List Int → Option (((List (Int × Int)) × Unit) × (Unit))) (c_i_MarksOf : (List (Int × Int)) → Option ((List Int × Unit) × (Unit))) (c_s_MarksOf : (List (Int × Int)) → Option ((List Int × Unit) × (Unit))) (c_l_equalInts : List Int → List Int → Option ((Bool × Unit) × (Unit))) (c_i_TakesOf : Int → Option ((Int × Int × Unit) × (Unit))) (c_i_DepthsOf : (List (Int × Int)) → Option ((List Int × Unit) × (Unit))) (c_i_IsWhole : (List (Int × Int)) → Option ((Bool × Unit) × (Unit))) (code : List Int) : Option ((Bool × Unit) × (Unit)) :=
  bif decide ((len code) > 1048576) then
    some ((true, ()), ())
  else
    (c_s_DrawMarksOf code).bind fun r14 =>
    (c_i_MarksOf r14.1.1).bind fun r16 =>
    (c_s_MarksOf r14.1.1).bind fun r19 =>
    (c_l_equalInts r16.1.1 r19.1.1).bind fun r20 =>
    bif (!r20.1.1) then
      jn (fun t => B_l_FnMarksOf_J0 k c_s_DrawMarksOf c_i_MarksOf c_s_MarksOf c_l_equalInts c_i_TakesOf c_i_DepthsOf c_i_IsWhole t.1 t.2.1 t.2.2.1) (r14.1.1, r16.1.1, true, ())
    else
      jn (fun t => B_l_FnMarksOf_J0 k c_s_DrawMarksOf c_i_MarksOf c_s_MarksOf c_l_equalInts c_i_TakesOf c_i_DepthsOf c_i_IsWhole t.1 t.2.1 t.2.2.1) (r14.1.1, r16.1.1, ((len r16.1.1) == 0), ())
def F_l_FnMarksOf : Nat → List Int → Option ((Bool × Unit) × (Unit))
  | 0, _ => none
  | k + 1, code => B_l_FnMarksOf k (F_s_DrawMarksOf k) (F_i_MarksOf k) (F_s_MarksOf k) (F_l_equalInts k) (F_i_TakesOf k) (F_i_DepthsOf k) (F_i_IsWhole k) code
theorem F_l_FnMarksOf_succ (k : Nat) (code : List Int) : F_l_FnMarksOf (k + 1) code = B_l_FnMarksOf k (F_s_DrawMarksOf k) (F_i_MarksOf k) (F_s_MarksOf k) (F_l_equalInts k) (F_i_TakesOf k) (F_i_DepthsOf k) (F_i_IsWhole k) code := rfl
theorem tot_l_FnMarksOf {code : List Int} {Q : (((Bool × Unit) × (Unit))) → Prop} (h : Tot (fun σ => B_l_FnMarksOf (σ 0) (F_s_DrawMarksOf (σ 0)) (F_i_MarksOf (σ 0)) (F_s_MarksOf (σ 0)) (F_l_equalInts (σ 0)) (F_i_TakesOf (σ 0)) (F_i_DepthsOf (σ 0)) (F_i_IsWhole (σ 0)) code) Q) : Tot (fun σ => F_l_FnMarksOf (σ 0) code) Q :=
  Tot.call (F := fun k => F_l_FnMarksOf k code) (B := fun k => B_l_FnMarksOf k (F_s_DrawMarksOf k) (F_i_MarksOf k) (F_s_MarksOf k) (F_l_equalInts k) (F_i_TakesOf k) (F_i_DepthsOf k) (F_i_IsWhole k) code) (fun k => F_l_FnMarksOf_succ k code) h
theorem loop_l_FnMarksOf_L3 {Q : (List (Int × Int)) → List Int → Int → Int → ((Bool × Unit) × (Unit)) → Prop} (I : (List (Int × Int)) → List Int → Int → Int → Prop) (μ : (List (Int × Int)) → List Int → Int → Int → Nat)
    (step : ∀ (ops : List (Int × Int)) (out : List Int) (before : Int) (i : Int), I ops out before i → ∀ again : (Nat → Nat) → ((List (Int × Int)) × List Int × Int × Int × Unit) → Option ((Bool × Unit) × (Unit)), Dep 2 again → (∀ (y0 : List (Int × Int)) (y1 : List Int) (y2 : Int) (y3 : Int), I y0 y1 y2 y3 → μ y0 y1 y2 y3 < μ ops out before i → Tot (fun σ => again σ (y0, y1, y2, y3, ())) (Q y0 y1 y2 y3)) →
      Tot (fun σ => B_l_FnMarksOf_L3b (σ 0) (F_s_DrawMarksOf (σ 0)) (F_i_MarksOf (σ 0)) (F_s_MarksOf (σ 0)) (F_l_equalInts (σ 0)) (F_i_TakesOf (σ 0)) (F_i_DepthsOf (σ 0)) (F_i_IsWhole (σ 0)) (again σ) ops out before i) (Q ops out before i)) :
    ∀ (ops : List (Int × Int)) (out : List Int) (before : Int) (i : Int), I ops out before i → Tot (fun σ => B_l_FnMarksOf_L3 (σ 0) (F_s_DrawMarksOf (σ 0)) (F_i_MarksOf (σ 0)) (F_s_MarksOf (σ 0)) (F_l_equalInts (σ 0)) (F_i_TakesOf (σ 0)) (F_i_DepthsOf (σ 0)) (F_i_IsWhole (σ 0)) (σ 0) (ops, out, before, i, ())) (Q ops out before i) := fun ops out before i hI =>
  Tot.loop (L := fun σ n t => B_l_FnMarksOf_L3 (σ 0) (F_s_DrawMarksOf (σ 0)) (F_i_MarksOf (σ 0)) (F_s_MarksOf (σ 0)) (F_l_equalInts (σ 0)) (F_i_TakesOf (σ 0)) (F_i_DepthsOf (σ 0)) (F_i_IsWhole (σ 0)) n t) (B := fun σ g t => B_l_FnMarksOf_L3b (σ 0) (F_s_DrawMarksOf (σ 0)) (F_i_MarksOf (σ 0)) (F_s_MarksOf (σ 0)) (F_l_equalInts (σ 0)) (F_i_TakesOf (σ 0)) (F_i_DepthsOf (σ 0)) (F_i_IsWhole (σ 0)) g t.1 t.2.1 t.2.2.1 t.2.2.2.1) (Q := fun t => Q t.1 t.2.1 t.2.2.1 t.2.2.2.1) 1 (by decide)
    (fun s s' h => by have e0 : s 0 = s' 0 := h 0 (by decide); simp only [e0]) (fun s s' h => by have e0 : s 0 = s' 0 := h 0 (by decide); simp only [e0]) (fun _ _ _ => rfl) (fun t => I t.1 t.2.1 t.2.2.1 t.2.2.2.1) (fun t => μ t.1 t.2.1 t.2.2.1 t.2.2.2.1)
    (fun t ht again hag h => step t.1 t.2.1 t.2.2.1 t.2.2.2.1 ht again hag (fun y0 y1 y2 y3 hI hm => h (y0, y1, y2, y3, ()) hI hm)) (ops, out, before, i, ()) hI
end Go.Gx

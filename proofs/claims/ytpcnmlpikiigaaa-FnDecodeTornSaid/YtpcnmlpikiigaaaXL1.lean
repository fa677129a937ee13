/-
  Laws, part 1: the reader, from which all is drawn.
-/
import Derived.Test.YtpcnmlpikiigaaaXW
import Derived.Test.YtpcnmlpikiigaaaXSh
set_option linter.unusedVariables false
set_option linter.unusedSimpArgs false
namespace Go.Gx
/-- What is known of the reader's bytes and its place. -/
structure RD (b : List Int) (p : Int) : Prop where
  byte : ∀ z ∈ b, 0 ≤ z ∧ z ≤ 255
  len : b.length ≤ 2000
  p0 : 0 ≤ p
  p1 : p ≤ 1000000000
theorem RD.next {b : List Int} {p q : Int} (h : RD b p) (h0 : p ≤ q) (h1 : q ≤ 1000000000) : RD b q := ⟨h.byte, h.len, by have := h.p0; omega, h1⟩
theorem RD.at {b : List Int} {p : Int} (h : RD b p) {z : Int} (h0 : 0 ≤ z) (h1 : z < (b.length : Int)) : 0 ≤ rdx (0 : Int) b z ∧ rdx (0 : Int) b z ≤ 255 := h.byte _ (rdx_mem h0 h1)
theorem xor64_nonneg {x y : Int} (hx : 0 ≤ x) (hx' : x < 9223372036854775808) (hy : 0 ≤ y) (hy' : y < 9223372036854775808) : 0 ≤ xor64 x y ∧ xor64 x y < 9223372036854775808 := by
  have e : xor64 x y = w64 ((x.toNat ^^^ y.toNat : Nat) : Int) := by
    unfold xor64 w64
    congr 1
    show ((BitVec.ofInt 64 x ^^^ BitVec.ofInt 64 y).toNat : Int) = _
    rw [BitVec.toNat_xor, BitVec.toNat_ofInt, BitVec.toNat_ofInt]
    congr 2 <;> omega
  have h1 : x.toNat < 2 ^ 63 := by omega
  have h2 : y.toNat < 2 ^ 63 := by omega
  have h3 := Nat.xor_lt_two_pow h1 h2
  rw [e, w64_id (by omega) (by omega)]
  omega
/-- What a function that draws leaves of the reader. -/
def Drawn {R : Type} (b : List Int) (p c : Int) (Q : R → Prop) (r : R × ((List Int × Int × Unit) × Unit)) : Prop := ∃ x q, r = (x, ((b, q, ()), ())) ∧ p ≤ q ∧ q ≤ p + c ∧ Q x
theorem tmod_in {x n : Int} (hx : 0 ≤ x) (hn : 0 < n) : 0 ≤ x.tmod n ∧ x.tmod n < n := ⟨Int.tmod_nonneg _ hx, Int.tmod_lt_of_pos _ hn⟩
theorem tdiv_in {x n : Int} (hx : 0 ≤ x) (hn : 0 < n) : 0 ≤ x.tdiv n ∧ x.tdiv n ≤ x := ⟨Int.tdiv_nonneg hx (by omega), Int.tdiv_le_self _ hx⟩
theorem pick_tot {b : List Int} {p n : Int} (h : RD b p) (hp : p < 1000000000) (hn : -9223372036854775808 ≤ n ∧ n ≤ 9223372036854775807) :
    Tot (fun s => F_s_reader_pick (s 0) b p n) (Drawn b p 1 fun x => ∃ v, x = (v, ()) ∧ 0 ≤ v ∧ (1 ≤ n → v < n)) := by
  refine tot_s_reader_pick ?_
  unfold B_s_reader_pick B_s_reader_pick_J0
  have h0 := h.p0
  have hl := h.len
  have e1 : w64 (p + 1) = p + 1 := w64_id (by omega) (by omega)
  have e2 : w64 (p + 1 - 1) = p := by rw [w64_id (by omega) (by omega)]; omega
  have fin : ∀ v : Int, 0 ≤ v → (1 ≤ n → v < n) → Drawn b p 1 (fun x => ∃ v, x = (v, ()) ∧ 0 ≤ v ∧ (1 ≤ n → v < n)) ((v, ()), ((b, p + 1, ()), ())) :=
    fun v h1 h2 => ⟨_, _, rfl, by omega, by omega, v, rfl, h1, h2⟩
  have e3 : w64 (p * 7) = p * 7 := w64_id (by omega) (by omega)
  have e4 : w64 (p * 7 + 3) = p * 7 + 3 := w64_id (by omega) (by omega)
  have e5 : w64 (p * 29) = p * 29 := w64_id (by omega) (by omega)
  simp only [tot_cond, tot_jn, tot_chk, tot_some, e1, e2, e3, e4, e5, len, decide_eq_true_eq, decide_eq_false_iff_not, bne_iff_ne, ne_eq, beq_iff_eq, beq_eq_false_iff_ne, inb_iff]
  refine ⟨fun hn1 => ⟨fun _ => fin 0 (Int.le_refl _) (by omega), fun h => by cases h⟩, fun hn1 => ⟨fun _ => fin 0 (Int.le_refl _) (by omega), fun hb => ⟨fun hlt => ?_, fun hlt => ?_⟩⟩⟩
  · refine ⟨⟨h0, hlt⟩, by omega, ?_⟩
    have hz := h.at h0 hlt
    rw [w64_id (by omega) (by omega)]
    have := tmod_in hz.1 (n := n) (by omega)
    exact fin _ this.1 (fun _ => this.2)
  · have hbl : (0 : Int) < (b.length : Int) := by omega
    have m1 := tmod_in h0 hbl
    have m2 := tmod_in (x := p * 7 + 3) (by omega) hbl
    refine ⟨hb, m1, hb, m2, hb, by omega, ?_⟩
    have z1 := h.at m1.1 m1.2
    have z2 := h.at m2.1 m2.2
    have d1 := tdiv_in h0 hbl
    generalize rdx (0 : Int) b (p.tmod b.length) = y1 at z1
    generalize rdx (0 : Int) b ((p * 7 + 3).tmod b.length) = y2 at z2
    generalize p.tdiv (b.length : Int) = y3 at d1
    simp (disch := omega) only [w64_id]
    have hX : 0 ≤ y1 * 131 + y2 * 1117 + p * 29 + y3 * 53 := by omega
    have hX' : y1 * 131 + y2 * 1117 + p * 29 + y3 * 53 < 9223372036854775808 := by omega
    generalize y1 * 131 + y2 * 1117 + p * 29 + y3 * 53 = X at hX hX'
    have d2 := tdiv_in hX (n := 64) (by omega)
    rw [w64_id (z := X.tdiv 64) (by omega) (by omega)]
    have hx := xor64_nonneg hX hX' d2.1 (by omega)
    have := tmod_in hx.1 (n := n) (by omega)
    exact fin _ this.1 (fun _ => this.2)
theorem one_tot {b : List Int} {p : Int} {l : List Int} (h : RD b p) (hp : p < 1000000000) (hl : 0 < l.length) (hm : l.length ≤ 1000000000) :
    Tot (fun s => F_s_reader_one (s 0) b p l) (Drawn b p 1 fun x => ∃ v, x = (v, ()) ∧ v ∈ l) := by
  refine tot_s_reader_one ?_
  unfold B_s_reader_one
  refine (pick_tot h hp (n := len l) (by constructor <;> simp only [len] <;> omega)).bind ?_
  rintro _ ⟨_, q, rfl, h1, h2, v, rfl, h3, h4⟩
  simp only [len] at h4
  simp only [tot_chk, tot_some, inb_iff]
  have h5 := h4 (by omega)
  exact ⟨⟨h3, h5⟩, _, _, rfl, h1, h2, _, rfl, rdx_mem h3 h5⟩
theorem newReader_tot {code : List Int} (hc : ∀ z ∈ code, 0 ≤ z ∧ z ≤ 255) (hl : code.length ≤ 1048576) : Tot (fun s => F_s_newReader (s 0) code) (fun r => ∃ b, r = (((b, 0, ()), ()), ()) ∧ RD b 0) := by
  refine tot_s_newReader ?_
  unfold B_s_newReader B_s_newReader_J0
  simp only [tot_cond, tot_jn, tot_chk, tot_some, len, decide_eq_true_eq, decide_eq_false_iff_not, cutb_iff]
  refine ⟨fun h => ⟨by omega, _, rfl, ?_⟩, fun h => ⟨_, rfl, hc, by omega, by omega, by omega⟩⟩
  refine ⟨fun z hz => hc z (List.mem_of_mem_take (List.mem_of_mem_drop hz)), ?_, by omega, by omega⟩
  simp only [sub, List.length_drop, List.length_take]
  omega
end Go.Gx

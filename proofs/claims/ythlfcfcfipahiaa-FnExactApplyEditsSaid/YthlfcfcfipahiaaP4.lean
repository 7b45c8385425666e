/- Plain facts: the reader that draws numbers. Conditions: none. -/
import Derived.Test.YthlfcfcfipahiaaP0
import Derived.Test.YthlfcfcfipahiaaTT
namespace Go.Proofs.Ythlfcfcfipahiaa
open Go

structure Rd (x1 : List Int) (k2 : Nat) : Prop where
  by_ : ∀ b ∈ x1, 0 ≤ b ∧ b ≤ 255
  le : k2 ≤ x1.length
  le2 : k2 ≤ 2000

theorem xor_small {a b : Int} (ha : 0 ≤ a) (ha2 : a < 4611686018427387904) (hb : 0 ≤ b) (hb2 : b < 4611686018427387904) :
    0 ≤ w64 (BitVec.ofInt 64 a ^^^ BitVec.ofInt 64 b).toNat := by
  rw [BitVec.toNat_xor, BitVec.toNat_ofInt, BitVec.toNat_ofInt]
  have e1 : (a % ((2 ^ 64 : Nat) : Int)).toNat = a.toNat := by
    rw [Int.emod_eq_of_lt ha (by omega)]
  have e2 : (b % ((2 ^ 64 : Nat) : Int)).toNat = b.toNat := by
    rw [Int.emod_eq_of_lt hb (by omega)]
  rw [e1, e2]
  have := Nat.xor_lt_two_pow (x := a.toNat) (y := b.toNat) (n := 62) (by omega) (by omega)
  rw [w64_id (by omega) (by omega)]
  omega

theorem byte_at {x1 : List Int} {k2 : Nat} (h : Rd x1 k2) (j : Nat) (hj : j < x1.length) : 0 ≤ x1.getD j 0 ∧ x1.getD j 0 ≤ 255 := h.by_ _ (getD_mem hj)

theorem pick_ok {x1 : List Int} {k2 : Nat} (h : Rd x1 k2) {i m : Int} (h0 : 0 ≤ i) (h1 : i ≤ 1000000000) (hm : m ≤ 1000000000) :
    ∃ r, spec_reader_pick x1 k2 i m = some r ∧ 0 ≤ r ∧ (1 ≤ m → r < m) ∧ (m < 1 → r = 0) := by
  have hle := h.le
  have hle2 := h.le2
  have e0 : w64 (w64 (i + 1) - 1) = i := by rw [w64_id (n := i + 1) (by omega) (by omega), w64_id (by omega) (by omega)]; omega
  unfold spec_reader_pick
  rw [e0]
  by_cases hm1 : m < 1
  · simp only [hm1, decide_true, Bool.true_or, iteO_true]
    exact ⟨0, rfl, by omega, by omega, fun _ => rfl⟩
  · by_cases hk : k2 = 0
    · subst hk
      simp only [Int.natCast_zero, decide_true, Bool.or_true, iteO_true]
      exact ⟨0, rfl, by omega, by omega, fun _ => rfl⟩
    · have e1 : (decide (m < 1) || decide (((k2 : Nat) : Int) = 0)) = false := by
        simp only [Bool.or_eq_false_iff, decide_eq_false_iff_not]; omega
      rw [e1]
      simp only [iteO_false]
      by_cases hlt : i < (k2 : Int)
      · rw [decide_eq_true hlt]
        simp only [iteO_true]
        obtain ⟨b1, b2⟩ := byte_at h i.toNat (by omega)
        rw [guardO_pos ⟨h0, hlt⟩, guardO_pos (by omega), w64_id (by omega) (by omega), Int.tmod_eq_emod_of_nonneg b1]
        exact ⟨_, rfl, Int.emod_nonneg _ (by omega), fun _ => Int.emod_lt_of_pos _ (by omega), by omega⟩
      · rw [decide_eq_false hlt]
        simp only [iteO_false]
        have d1 : ∀ z : Int, 0 ≤ z → 0 ≤ z.tmod (k2 : Int) ∧ z.tmod (k2 : Int) < (k2 : Int) := fun z hz => by
          rw [Int.tmod_eq_emod_of_nonneg hz]
          exact ⟨Int.emod_nonneg _ (by omega), Int.emod_lt_of_pos _ (by omega)⟩
        have e2 : w64 (w64 (i * 7) + 3) = i * 7 + 3 := by rw [w64_id (n := i * 7) (by omega) (by omega), w64_id (by omega) (by omega)]
        rw [e2]
        obtain ⟨p1, p2⟩ := d1 i h0
        obtain ⟨q1, q2⟩ := d1 (i * 7 + 3) (by omega)
        rw [guardO_pos (by omega), guardO_pos ⟨p1, p2⟩, guardO_pos (by omega), guardO_pos ⟨q1, q2⟩, guardO_pos (by omega), guardO_pos (by omega)]
        obtain ⟨a1, a2⟩ := byte_at h (i.tmod (k2 : Int)).toNat (by omega)
        obtain ⟨c1, c2⟩ := byte_at h ((i * 7 + 3).tmod (k2 : Int)).toNat (by omega)
        generalize x1.getD (i.tmod (k2 : Int)).toNat 0 = A at a1 a2 ⊢
        generalize x1.getD ((i * 7 + 3).tmod (k2 : Int)).toNat 0 = C at c1 c2 ⊢
        have t1 : 0 ≤ i.tdiv (k2 : Int) ∧ i.tdiv (k2 : Int) ≤ i := by
          rw [Int.tdiv_eq_ediv_of_nonneg h0]
          exact ⟨Int.ediv_nonneg h0 (by omega), Int.ediv_le_self _ h0⟩
        generalize i.tdiv (k2 : Int) = D at t1 ⊢
        obtain ⟨t1, t2⟩ := t1
        rw [w64_id (n := A) (by omega) (by omega), w64_id (n := A * 131) (by omega) (by omega), w64_id (n := C) (by omega) (by omega), w64_id (n := C * 1117) (by omega) (by omega), w64_id (n := A * 131 + C * 1117) (by omega) (by omega), w64_id (n := i * 29) (by omega) (by omega), w64_id (n := A * 131 + C * 1117 + i * 29) (by omega) (by omega), w64_id (n := D) (by omega) (by omega), w64_id (n := D * 53) (by omega) (by omega), w64_id (n := A * 131 + C * 1117 + i * 29 + D * 53) (by omega) (by omega)]
        generalize hS : A * 131 + C * 1117 + i * 29 + D * 53 = S
        have s1 : 0 ≤ S := by omega
        have s2 : S < 4611686018427387904 := by omega
        have s3 : 0 ≤ S.tdiv 64 ∧ S.tdiv 64 ≤ S := by
          rw [Int.tdiv_eq_ediv_of_nonneg s1]
          exact ⟨Int.ediv_nonneg s1 (by omega), Int.ediv_le_self _ s1⟩
        rw [w64_id (n := S.tdiv 64) (by omega) (by omega)]
        have := xor_small s1 s2 s3.1 (by omega)
        refine ⟨_, rfl, ?_, fun _ => ?_, by omega⟩
        · rw [Int.tmod_eq_emod_of_nonneg this]; exact Int.emod_nonneg _ (by omega)
        · rw [Int.tmod_eq_emod_of_nonneg this]; exact Int.emod_lt_of_pos _ (by omega)

/-- a pick among m numbers, and the reader's place behind it -/
theorem pick_ex {x1 : List Int} {k2 : Nat} (h : Rd x1 k2) {i m : Int} (h0 : 0 ≤ i) (h1 : i ≤ 1000000000) (hm : m ≤ 1000000000) (hp : 1 ≤ m) :
    Ex (fun _ => spec_reader_pick x1 k2 i m) (fun r => 0 ≤ r ∧ r < m) := by
  obtain ⟨r, e, r0, r1, _⟩ := pick_ok h h0 h1 hm
  exact Ex.const e ⟨r0, r1 hp⟩

theorem one_ex {x1 : List Int} {k2 : Nat} (h : Rd x1 k2) {i : Int} {l : List Int} (h0 : 0 ≤ i) (h1 : i ≤ 1000000000) (hl : l.length ≤ 1000000000) (hp : 1 ≤ l.length) :
    Ex (fun _ => spec_reader_one x1 k2 i l) (fun r => r.1 = i + 1 ∧ r.2 ∈ l) := by
  unfold spec_reader_one
  refine Ex.bind (pick_ex h h0 h1 (by omega) (by omega)) (fun r hr => ?_)
  refine Ex.guard ⟨hr.1, hr.2⟩ ?_
  exact Ex.ret ⟨w64_id (by omega) (by omega), getD_mem (by omega)⟩

theorem newReader_ex {x1 : List Int} (h : ∀ b ∈ x1, 0 ≤ b ∧ b ≤ 255) (hl : x1.length ≤ 1000000000) : Ex (fun _ => spec_newReader x1) (fun k => Rd x1 k) := by
  unfold spec_newReader
  refine Ex.bind (P := fun k => Rd x1 k) ?_ (fun k hk => Ex.ret hk)
  refine Ex.ite (fun hb => ?_) (fun hb => ?_)
  · have := of_decide_eq_true hb
    refine Ex.guard (by omega) (Ex.ret ⟨h, by omega, Nat.le_refl _⟩)
  · have := of_decide_eq_false hb
    exact Ex.ret ⟨h, Nat.le_refl _, by omega⟩
end Go.Proofs.Ythlfcfcfipahiaa

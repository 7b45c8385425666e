/- Plain facts on whole numbers and loops. Conditions: none. -/
import Derived.Test.YthlfcfcfipahiaaTLx
import Derived.Test.YthlfcfcfipahiaaTLzb
namespace Go.Proofs.Ythlfcfcfipahiaa
open Go

theorem w64_id {n : Int} (h1 : -9223372036854775808 ≤ n) (h2 : n ≤ 9223372036854775807) : w64 n = n := by
  show IntKind.i64.wrap n = n
  unfold IntKind.wrap
  simp [IntKind.bits, IntKind.signed]
  omega
theorem w64_succ {k : Nat} (h : k < 1099511627776) : w64 ((k : Int) + 1) = ((k + 1 : Nat) : Int) := by
  rw [w64_id (by omega) (by omega)]; omega

/-- does p hold somewhere from k on, below len -/
def anyIn (p : Nat → Bool) (k len : Nat) : Bool := (List.range len).any fun j => decide (k ≤ j) && p j
theorem anyIn_iff {p : Nat → Bool} {k len : Nat} : anyIn p k len = true ↔ ∃ j, k ≤ j ∧ j < len ∧ p j = true := by
  simp only [anyIn, List.any_eq_true, List.mem_range, Bool.and_eq_true, decide_eq_true_eq]
  constructor
  · rintro ⟨j, h1, h2, h3⟩; exact ⟨j, h2, h1, h3⟩
  · rintro ⟨j, h1, h2, h3⟩; exact ⟨j, h2, h1, h3⟩
theorem anyIn_step {p : Nat → Bool} {k len : Nat} (h : k < len) : anyIn p k len = (p k || anyIn p (k + 1) len) := by
  rw [Bool.eq_iff_iff, Bool.or_eq_true, anyIn_iff, anyIn_iff]
  constructor
  · rintro ⟨j, h1, h2, h3⟩
    rcases Nat.eq_or_lt_of_le h1 with rfl | h4
    · exact .inl h3
    · exact .inr ⟨j, h4, h2, h3⟩
  · rintro (h1 | ⟨j, h1, h2, h3⟩)
    · exact ⟨k, Nat.le_refl _, h, h1⟩
    · exact ⟨j, by omega, h2, h3⟩
theorem anyIn_end {p : Nat → Bool} {k len : Nat} (h : len ≤ k) : anyIn p k len = false := by
  rw [Bool.eq_false_iff]
  intro h'
  obtain ⟨j, h1, h2, h3⟩ := anyIn_iff.1 h'
  omega

/-- a loop that looks for something -/
theorem search {α : Type} {f : Nat → Int → Option α} {len : Nat} {p : Nat → Bool} {A B : α} (N : Nat) (hN : len < N)
    (h : ∀ n (k : Nat), k < len → N ≤ n + 1 + k → f (n + 1) k = if p k = true then some A else f n ((k + 1 : Nat) : Int)) (he : ∀ n (k : Nat), len ≤ k → f (n + 1) k = some B) :
    ∀ n (k : Nat), k ≤ len → N ≤ n + k → f n k = some (if anyIn p k len = true then A else B)
  | 0, k, h1, h2 => by omega
  | n + 1, k, h1, h2 => by
    rcases Nat.lt_or_ge k len with hk | hk
    · rw [h n k hk (by omega), anyIn_step hk]
      cases hp : p k with
      | true => simp
      | false =>
        simp only [Bool.false_eq_true, if_false, Bool.false_or]
        exact search N hN h he n (k + 1) hk (by omega)
    · rw [he n k hk, anyIn_end hk]; rfl
end Go.Proofs.Ythlfcfcfipahiaa

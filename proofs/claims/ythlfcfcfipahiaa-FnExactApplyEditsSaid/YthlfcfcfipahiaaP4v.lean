/- Plain facts: drawn values. Conditions: none. -/
import Derived.Test.YthlfcfcfipahiaaP4
namespace Go.Proofs.Ythlfcfcfipahiaa
open Go

theorem someValue_ex {x1 : List Int} {k2 : Nat} (h : Rd x1 k2) {i : Int} (h0 : 0 ≤ i) (h1 : i ≤ 900000000) :
    Ex (fun _ => spec_someValue x1 k2 i) (fun r => r.1 = i + 3 ∧ -1000 ≤ r.2 ∧ r.2 ≤ 1000) := by
  unfold spec_someValue
  refine Ex.bind (pick_ex h h0 (by omega) (by omega) (by omega)) (fun a ha => ?_)
  have e1 : w64 (i + 1) = i + 1 := w64_id (by omega) (by omega)
  have e2 : w64 (i + 1 + 1) = i + 2 := by rw [w64_id (by omega) (by omega)]; omega
  rw [e1, e2]
  refine Ex.bind (pick_ex h (by omega) (by omega) (by omega) (by omega)) (fun b hb => ?_)
  refine Ex.bind (one_ex h (by omega) (by omega) (by simp) (by simp)) ?_
  rintro ⟨c, d⟩ ⟨h1, h2⟩
  refine Ex.ret ⟨by simp at h1 ⊢; omega, ?_⟩
  have e3 : w64 (w64 (4 * b) - 500) = 4 * b - 500 := by rw [w64_id (n := 4 * b) (by omega) (by omega), w64_id (by omega) (by omega)]
  simp only [e3, List.mem_cons, List.not_mem_nil, or_false] at h2
  simp only
  omega
end Go.Proofs.Ythlfcfcfipahiaa

/- Plain facts: rows of nodes are the same. Conditions: none. -/
import Derived.Test.YthlfcfcfipahiaaLA
namespace Go.Proofs.Ythlfcfcfipahiaa
open Go
theorem eqNodes_ex {xs : List Nod} (hl : xs.length < 1000000000) : Ex (fun n => laws_equalNodes n xs xs) (· = true) := by
  unfold laws_equalNodes
  refine Ex.no (by simp) (Ex.be (skip_loop xs.length (f := laws_equalNodes_L1 xs xs) (B := .inr ()) ?_ ?_) (Ex.ret rfl))
  · intro k hk r ih
    simp only [laws_equalNodes_L1, Int.toNat_natCast]
    rw [w64_succ (by omega)]
    exact Ex.yes (decide_eq_true (by omega)) (Ex.guard (by omega) (Ex.guard (by omega) (Ex.no (by simp) ih)))
  · simp only [laws_equalNodes_L1]
    exact Ex.no (decide_eq_false (by omega)) (Ex.ret rfl)
end Go.Proofs.Ythlfcfcfipahiaa

/- Plain facts: rows of numbers are the same; what lies in a row. Conditions: none. -/
import Derived.Test.YtdkmgkeaebcobaaLA
namespace Go.Proofs.Ytdkmgkeaebcobaa
open Go

theorem eqInts_ex {xs : List Int} (hl : xs.length < 1000000000) : Ex (fun n => laws_equalInts n xs xs) (· = true) := by
  unfold laws_equalInts
  refine Ex.no (by simp) (Ex.be (skip_loop xs.length (f := laws_equalInts_L1 xs xs) (B := .inr ()) ?_ ?_) (Ex.ret rfl))
  · intro k hk r ih
    simp only [laws_equalInts_L1, Int.toNat_natCast]
    rw [w64_succ (by omega)]
    exact Ex.yes (decide_eq_true (by omega)) (Ex.guard (by omega) (Ex.guard (by omega) (Ex.no (by simp) ih)))
  · simp only [laws_equalInts_L1]
    exact Ex.no (decide_eq_false (by omega)) (Ex.ret rfl)

theorem any_contains (xs : List Int) (x : Int) : (xs.any fun y => decide (y = x)) = xs.contains x := by
  induction xs with
  | nil => rfl
  | cons a l ih =>
    rw [List.any_cons, List.contains_cons, ih]
    congr 1
    rw [Bool.eq_iff_iff, decide_eq_true_eq, beq_iff_eq]
    exact eq_comm

theorem lawIsIn_ex {xs : List Int} (hl : xs.length < 1000000000) (x : Int) : Ex (fun n => laws_isIn n xs x) (· = xs.contains x) := by
  unfold laws_isIn
  refine Ex.be (any_loop xs 0 (fun y => decide (y = x)) (f := laws_isIn_L1 xs x) (A := .inl ()) (B := .inr ()) ?_ ?_ ?_) ?_
  · intro k hk hq
    simp only [laws_isIn_L1, Int.toNat_natCast]
    exact Ex.yes (decide_eq_true (by omega)) (Ex.guard (by omega) (Ex.yes hq (Ex.ret rfl)))
  · intro k hk hq r ih
    simp only [laws_isIn_L1, Int.toNat_natCast]
    rw [w64_succ (by omega)]
    exact Ex.yes (decide_eq_true (by omega)) (Ex.guard (by omega) (Ex.no hq ih))
  · simp only [laws_isIn_L1]
    exact Ex.no (decide_eq_false (by omega)) (Ex.ret rfl)
  · rw [any_contains]
    cases xs.contains x <;> exact Ex.ret rfl

end Go.Proofs.Ytdkmgkeaebcobaa

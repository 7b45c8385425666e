/- Plain facts: marked rows of records keep their marks. Conditions: none. -/
import Derived.Test.YtdkmgkeaebcobaaLR
namespace Go.Proofs.Ytdkmgkeaebcobaa
open Go
theorem heldRec_ex {xs : List Rcd} (hl : xs.length ≤ 10000000) {k : Int} (hk : 0 ≤ k) (hk2 : k ≤ 100000000) (hm : MarkedR xs k) : Ex (fun n => laws_heldRecordS n xs k) (· = k + 4 * xs.length) := by
  unfold laws_heldRecordS
  refine Ex.be (a := .inr (k + 4 * (xs.length : Int))) ?_ ?_
  rotate_left
  · exact Ex.ret rfl
  refine up xs.length (fun i (c : Int) => c = k + 4 * i) (f := fun n c i => laws_heldRecordS_L1 xs n c i) ?_ ?_ 0 k (Nat.zero_le _) (by simp)
  · rintro i c hi rfl next
    have g1 : w64 (k + 4 * (i : Int) + 1) = k + 4 * (i : Int) + 1 := w64_id (by omega) (by omega)
    have g2 : w64 (k + 4 * (i : Int) + 1 + 1) = k + 4 * (i : Int) + 2 := by rw [w64_id (by omega) (by omega)]; omega
    have g3 : w64 (k + 4 * (i : Int) + 2 + 1) = k + 4 * (i : Int) + 3 := by rw [w64_id (by omega) (by omega)]; omega
    have g4 : w64 (k + 4 * (i : Int) + 3 + 1) = k + 4 * ((i + 1 : Nat) : Int) := by rw [w64_id (by omega) (by omega)]; omega
    have g5 : w64 ((i : Int) + 1) = ((i + 1 : Nat) : Int) := w64_succ (by omega)
    simp only [laws_heldRecordS_L1, Int.toNat_natCast, g1, g2, g3, g4, g5, hm i hi]
    refine Ex.yes (decide_eq_true (by omega)) (Ex.guard (by omega) (Ex.no (by simp [mkR]) (Ex.guard (by omega) (Ex.no (by simp [mkR]) (Ex.guard (by omega) (Ex.no (by simp [mkR]) (Ex.guard (by omega) (Ex.no (by simp [mkR]) (next _ rfl)))))))))
  · rintro c rfl
    simp only [laws_heldRecordS_L1]
    exact Ex.no (decide_eq_false (by omega)) (Ex.ret rfl)
end Go.Proofs.Ytdkmgkeaebcobaa

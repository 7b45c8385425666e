/- Plain facts: rows of numbers are compared, marked. Conditions: none. -/
import Derived.Test.YtdkmgkeaebcobaaLA
namespace Go.Proofs.Ytdkmgkeaebcobaa
open Go
theorem eqInt_ex {xs : List Int} (h : xs.length ≤ 10000000) : Ex (fun n => laws_eqIntS n xs xs) (· = true) := by
  unfold laws_eqIntS
  refine Ex.no (by simp) (Ex.be (a := .inr ()) ?_ ?_)
  rotate_left
  · exact Ex.ret rfl
  refine skip_loop xs.length (f := fun n i => laws_eqIntS_L1 xs xs n i) ?_ ?_
  · intro k hk r hr
    simp only [laws_eqIntS_L1, Int.toNat_natCast]
    rw [w64_succ (by omega)]
    exact Ex.yes (decide_eq_true (by omega)) (Ex.guard (by omega) (Ex.guard (by omega) (Ex.no (by simp) hr)))
  · simp only [laws_eqIntS_L1]
    exact Ex.no (decide_eq_false (by omega)) (Ex.ret rfl)

def MarkedI (xs : List Int) (k : Int) : Prop := ∀ j, j < xs.length → xs.getD j 0 = k + j

theorem markInt_ex {xs : List Int} (hl : xs.length ≤ 10000000) {k : Int} (hk : 0 ≤ k) (hk2 : k ≤ 100000000) : Ex (fun n => laws_markIntS n xs xs.length k) (fun r => r.1.length = xs.length ∧ r.2 = k + xs.length ∧ MarkedI r.1 k) := by
  unfold laws_markIntS
  refine Ex.bind (P := fun r => r.1.length = xs.length ∧ r.2 = k + xs.length ∧ MarkedI r.1 k) ?_ ?_
  · refine up xs.length (fun i (s : List Int × Int) => s.1.length = xs.length ∧ s.2 = k + i ∧ ∀ j, j < i → s.1.getD j 0 = k + j) (f := fun n s i => laws_markIntS_L1 xs.length n s.1 s.2 i) ?_ ?_ 0 (xs, k) (Nat.zero_le _) ⟨rfl, by simp, fun j hj => by omega⟩
    · rintro i ⟨ys, c⟩ hi ⟨h1, h2, h3⟩ next
      simp only at h1 h2 h3
      subst h2
      have g1 : w64 (k + (i : Int) + 1) = k + ((i + 1 : Nat) : Int) := by rw [w64_id (by omega) (by omega)]; omega
      have g5 : w64 ((i : Int) + 1) = ((i + 1 : Nat) : Int) := w64_succ (by omega)
      simp only [laws_markIntS_L1, Int.toNat_natCast, g1, g5]
      refine Ex.yes (decide_eq_true (by omega)) (Ex.guard (by omega) ?_)
      refine next (_, _) ⟨by simpa using h1, rfl, fun j hj => ?_⟩
      simp only
      rw [getD_set' (by omega)]
      split
      · rename_i e
        subst e
        rfl
      · exact h3 j (by omega)
    · rintro ⟨ys, c⟩ ⟨h1, h2, h3⟩
      simp only at h1 h2 h3
      simp only [laws_markIntS_L1]
      exact Ex.no (decide_eq_false (by omega)) (Ex.ret ⟨h1, h2, fun j hj => h3 j (by simp only at hj; omega)⟩)
  · rintro ⟨ys, c⟩ h
    exact Ex.ret h

theorem heldInt_ex {xs : List Int} (hl : xs.length ≤ 10000000) {k : Int} (hk : 0 ≤ k) (hk2 : k ≤ 100000000) (hm : MarkedI xs k) : Ex (fun n => laws_heldIntS n xs k) (· = k + xs.length) := by
  unfold laws_heldIntS
  refine Ex.be (a := .inr (k + (xs.length : Int))) ?_ ?_
  rotate_left
  · exact Ex.ret rfl
  refine up xs.length (fun i (c : Int) => c = k + i) (f := fun n c i => laws_heldIntS_L1 xs n c i) ?_ ?_ 0 k (Nat.zero_le _) (by simp)
  · rintro i c hi rfl next
    have g1 : w64 (k + (i : Int) + 1) = k + ((i + 1 : Nat) : Int) := by rw [w64_id (by omega) (by omega)]; omega
    have g5 : w64 ((i : Int) + 1) = ((i + 1 : Nat) : Int) := w64_succ (by omega)
    simp only [laws_heldIntS_L1, Int.toNat_natCast, g1, g5, hm i hi]
    exact Ex.yes (decide_eq_true (by omega)) (Ex.guard (by omega) (Ex.no (by simp) (next _ rfl)))
  · rintro c rfl
    simp only [laws_heldIntS_L1]
    exact Ex.no (decide_eq_false (by omega)) (Ex.ret rfl)
end Go.Proofs.Ytdkmgkeaebcobaa

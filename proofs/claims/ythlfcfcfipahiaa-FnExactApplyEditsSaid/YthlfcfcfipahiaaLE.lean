/- Plain facts: rows of edits are marked. Conditions: none. -/
import Derived.Test.YthlfcfcfipahiaaLEa
import Derived.Test.YthlfcfcfipahiaaLMt
namespace Go.Proofs.Ythlfcfcfipahiaa
open Go

def mkE (k : Int) (j : Nat) (x : Edt) : Prop := x.kind = k + 3 * j ∧ x.value = k + 3 * j + 2 ∧ Ex (fun n => laws_markText n (k + 3 * j + 1)) (· = x.path)
def MarkedE (xs : List Edt) (k : Int) : Prop := ∀ j, j < xs.length → mkE k j (xs.getD j dedt)

theorem markEdt_ex {xs : List Edt} (hl : xs.length ≤ 10000000) {k : Int} (hk : 0 ≤ k) (hk2 : k ≤ 100000000) : Ex (fun n => laws_markEditS n xs xs.length k) (fun r => r.1.length = xs.length ∧ r.2 = k + 3 * xs.length ∧ MarkedE r.1 k) := by
  unfold laws_markEditS
  refine Ex.bind (P := fun r => r.1.length = xs.length ∧ r.2 = k + 3 * xs.length ∧ MarkedE r.1 k) ?_ ?_
  · refine up xs.length (fun i (s : List Edt × Int) => s.1.length = xs.length ∧ s.2 = k + 3 * i ∧ ∀ j, j < i → mkE k j (s.1.getD j dedt)) (f := fun n s i => laws_markEditS_L1 xs.length n s.1 s.2 i) ?_ ?_ 0 (xs, k) (Nat.zero_le _) ⟨rfl, by simp, fun j hj => by omega⟩
    · rintro i ⟨ys, c⟩ hi ⟨h1, h2, h3⟩ next
      simp only at h1 h2 h3
      subst h2
      simp only [laws_markEditS_L1, Int.toNat_natCast]
      rw [w64_succ (by omega), w64_id (n := k + 3 * (i : Int) + 1) (by omega) (by omega), w64_id (n := k + 3 * (i : Int) + 1 + 1) (by omega) (by omega), w64_id (n := k + 3 * (i : Int) + 1 + 1 + 1) (by omega) (by omega)]
      obtain ⟨s, hs⟩ := markText_ex (i := k + 3 * (i : Int) + 1) (by omega) (by omega)
      refine Ex.yes (decide_eq_true (by omega)) (Ex.guard (by omega) (Ex.be hs (Ex.guard (by omega) (Ex.guard (by omega) ?_))))
      simp only [List.set_set, getD_set' (show i < ys.length by omega), if_true]
      refine next (_, _) ⟨by simpa using h1, by simp only; omega, fun j hj => ?_⟩
      simp only
      rw [getD_set' (by omega)]
      split
      · rename_i e
        subst e
        exact ⟨rfl, by simp only; omega, hs⟩
      · exact h3 j (by omega)
    · rintro ⟨ys, c⟩ ⟨h1, h2, h3⟩
      simp only at h1 h2 h3
      simp only [laws_markEditS_L1]
      exact Ex.no (decide_eq_false (by omega)) (Ex.ret ⟨h1, h2, fun j hj => h3 j (by simp only at hj; omega)⟩)
  · rintro ⟨ys, c⟩ h
    exact Ex.ret h
end Go.Proofs.Ythlfcfcfipahiaa

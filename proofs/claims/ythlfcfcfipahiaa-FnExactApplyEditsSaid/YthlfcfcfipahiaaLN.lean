/- Plain facts: rows of nodes are marked. Conditions: none. -/
import Derived.Test.YthlfcfcfipahiaaLNa
import Derived.Test.YthlfcfcfipahiaaLMt
namespace Go.Proofs.Ythlfcfcfipahiaa
open Go

theorem getD_nset {α : Type} {xs : List α} {i : Nat} {x d : α} (h : i < xs.length) (j : Nat) : (xs.set i x).getD j d = if i = j then x else xs.getD j d := getD_set' h j

def mkN (k : Int) (j : Nat) (x : Nod) : Prop := x.parent = k + 3 * j ∧ x.value = k + 3 * j + 2 ∧ Ex (fun n => laws_markText n (k + 3 * j + 1)) (· = x.name)
def MarkedN (xs : List Nod) (k : Int) : Prop := ∀ j, j < xs.length → mkN k j (xs.getD j dnod)

theorem markNod_ex {xs : List Nod} (hl : xs.length ≤ 10000000) {k : Int} (hk : 0 ≤ k) (hk2 : k ≤ 100000000) : Ex (fun n => laws_markNodeS n xs xs.length k) (fun r => r.1.length = xs.length ∧ r.2 = k + 3 * xs.length ∧ MarkedN r.1 k) := by
  unfold laws_markNodeS
  refine Ex.bind (P := fun r => r.1.length = xs.length ∧ r.2 = k + 3 * xs.length ∧ MarkedN r.1 k) ?_ ?_
  · refine up xs.length (fun i (s : List Nod × Int) => s.1.length = xs.length ∧ s.2 = k + 3 * i ∧ ∀ j, j < i → mkN k j (s.1.getD j dnod)) (f := fun n s i => laws_markNodeS_L1 xs.length n s.1 s.2 i) ?_ ?_ 0 (xs, k) (Nat.zero_le _) ⟨rfl, by simp, fun j hj => by omega⟩
    · rintro i ⟨ys, c⟩ hi ⟨h1, h2, h3⟩ next
      simp only at h1 h2 h3
      subst h2
      simp only [laws_markNodeS_L1, Int.toNat_natCast]
      rw [w64_succ (by omega), w64_id (n := k + 3 * (i : Int) + 1) (by omega) (by omega), w64_id (n := k + 3 * (i : Int) + 1 + 1) (by omega) (by omega), w64_id (n := k + 3 * (i : Int) + 1 + 1 + 1) (by omega) (by omega)]
      obtain ⟨s, hs⟩ := markText_ex (i := k + 3 * (i : Int) + 1) (by omega) (by omega)
      refine Ex.yes (decide_eq_true (by omega)) (Ex.guard (by omega) (Ex.be hs (Ex.guard (by omega) (Ex.guard (by omega) ?_))))
      simp only [List.set_set, getD_nset (show i < ys.length by omega), if_true]
      refine next (_, _) ⟨by simpa using h1, by simp only; omega, fun j hj => ?_⟩
      simp only
      rw [getD_nset (by omega)]
      split
      · rename_i e
        subst e
        exact ⟨rfl, by simp only; omega, hs⟩
      · exact h3 j (by omega)
    · rintro ⟨ys, c⟩ ⟨h1, h2, h3⟩
      simp only at h1 h2 h3
      simp only [laws_markNodeS_L1]
      exact Ex.no (decide_eq_false (by omega)) (Ex.ret ⟨h1, h2, fun j hj => h3 j (by simp only at hj; omega)⟩)
  · rintro ⟨ys, c⟩ h
    exact Ex.ret h

theorem heldNod_ex {xs : List Nod} (hl : xs.length ≤ 10000000) {k : Int} (hk : 0 ≤ k) (hk2 : k ≤ 100000000) (hm : MarkedN xs k) : Ex (fun n => laws_heldNodeS n xs k) (· = k + 3 * xs.length) := by
  unfold laws_heldNodeS
  refine Ex.be (a := .inr (k + 3 * (xs.length : Int))) ?_ ?_
  rotate_left
  · exact Ex.ret rfl
  refine up xs.length (fun i (c : Int) => c = k + 3 * i) (f := fun n c i => laws_heldNodeS_L1 xs n c i) ?_ ?_ 0 k (Nat.zero_le _) (by simp)
  · rintro i c hi rfl next
    simp only [laws_heldNodeS_L1, Int.toNat_natCast]
    rw [w64_succ (by omega), w64_id (n := k + 3 * (i : Int) + 1) (by omega) (by omega), w64_id (n := k + 3 * (i : Int) + 1 + 1) (by omega) (by omega), w64_id (n := k + 3 * (i : Int) + 1 + 1 + 1) (by omega) (by omega)]
    obtain ⟨h1, h2, h3⟩ := hm i hi
    refine Ex.yes (decide_eq_true (by omega)) (Ex.guard (by omega) (Ex.no (by rw [decide_eq_true h1]; rfl) (Ex.guard (by omega) (Ex.be h3 (Ex.no (by simp) (Ex.guard (by omega) (Ex.no ?_ (next _ ?_))))))))
    · rw [decide_eq_true (show (xs.getD i dnod).value = k + 3 * (i : Int) + 1 + 1 by omega)]; rfl
    · omega
  · rintro c rfl
    simp only [laws_heldNodeS_L1]
    exact Ex.no (decide_eq_false (by omega)) (Ex.ret rfl)
end Go.Proofs.Ythlfcfcfipahiaa

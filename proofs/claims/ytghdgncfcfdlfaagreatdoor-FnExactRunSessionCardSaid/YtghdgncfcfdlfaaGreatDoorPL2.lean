/- Plain facts for the law FnExactRunSession. Conditions: none. -/
import Derived.Test.YtghdgncfcfdlfaaGreatDoorPL1
namespace Go.Proofs.YtghdgncfcfdlfaaGreatDoor
section
open Go
set_option linter.unusedVariables false
theorem szStr_ex {xs : List Str} (hl : xs.length ≤ 9223372036854775807) (hx : ∀ x ∈ xs, x.length ≤ 9223372036854775807) {b : Int} (h0 : 0 ≤ b) (h1 : b ≤ 1048576) :
  Ex (fun n => laws_szStringS n xs b) (fun r => r = -1 ∨ (0 ≤ r ∧ (xs.length : Int) ≤ b ∧ ∀ x ∈ xs, (x.length : Int) ≤ b)) := by
 unfold laws_szStringS
 refine Ex.ite (fun _ => Ex.ret (.inl rfl)) (fun hb => ?_)
 have hb := of_decide_eq_false hb
 rw [w64_id (by omega) (by omega)] at hb ⊢
 refine Ex.bind (P := fun v => match v with | .inl _ => True | .inr r => 0 ≤ r ∧ (xs.length : Int) ≤ b ∧ ∀ x ∈ xs, (x.length : Int) ≤ b) ?_ ?_
 ·refine up xs.length (fun k (c : Int) => 0 ≤ c ∧ c ≤ b ∧ ∀ j, j < k → ((xs.getD j []).length : Int) ≤ b) (f := fun n c i => laws_szStringS_L1 xs n c i) ?_ ?_ 0 _ (Nat.zero_le _) ⟨by omega, by omega, fun j hj => by omega⟩
  ·rintro k c hk ⟨h2, h3, h4⟩ next
   simp only [laws_szStringS_L1, Int.toNat_natCast]
   refine Ex.yes (decide_eq_true (by omega)) (Ex.guard (by omega) ?_)
   have h5 := hx _ (getD_mem (d := []) hk)
   simp only [w64_id (n := c - ((xs.getD k []).length : Int)) (by omega) (by omega), w64_succ (k := k) (by omega)]
   refine Ex.ite (fun _ => Ex.ret trivial) (fun hc => next _ ⟨?_, by omega, fun j hj => ?_⟩)
   ·have := of_decide_eq_false hc; omega
   ·have := of_decide_eq_false hc
    rcases Nat.eq_or_lt_of_le (Nat.le_of_lt_succ hj) with rfl | h9
    ·omega
    ·exact h4 j h9
  ·rintro c ⟨h2, h3, h4⟩
   simp only [laws_szStringS_L1]
   refine Ex.no (decide_eq_false (by omega)) (Ex.ret ⟨h2, by omega, fun x hx => ?_⟩)
   obtain ⟨i, hi, rfl⟩ := List.mem_iff_getElem.1 hx
   have := h4 i hi
   rwa [List.getD_eq_getElem?_getD, List.getElem?_eq_getElem hi] at this
 ·rintro (u | r) hr
  ·exact Ex.ret (.inl rfl)
  ·exact Ex.ret (.inr hr)
theorem toStr_ex {xs : List Str} (h : xs.length ≤ 10000000) : Ex (fun n => laws_toStringS n xs) (· = xs) := by
 unfold laws_toStringS
 refine Ex.guard (by omega) ?_
 refine Ex.bind (P := fun x => x = xs) ?_ (fun r hr => Ex.ret hr)
 refine copy_ex xs [] (f := fun n ys i => laws_toStringS_L1 xs n ys i) ?_ ?_ _ (by simp)
 ·intro k ys hk hy Q hQ
  simp only [laws_toStringS_L1, Int.toNat_natCast]
  rw [w64_succ (by omega)]
  exact Ex.yes (decide_eq_true (by omega)) (Ex.guard (by omega) (Ex.guard (by omega) hQ))
 ·intro ys
  simp only [laws_toStringS_L1]
  exact Ex.no (decide_eq_false (by omega)) (Ex.ret rfl)
theorem eqStr_ex {xs : List Str} (h : xs.length ≤ 10000000) : Ex (fun n => laws_eqStringS n xs xs) (· = true) := by
 unfold laws_eqStringS
 refine Ex.no (by simp) (Ex.be (a := .inr ()) ?_ ?_)
 rotate_left
 ·exact Ex.ret rfl
 refine skip_loop xs.length (f := fun n i => laws_eqStringS_L1 xs xs n i) ?_ ?_
 ·intro k hk r hr
  simp only [laws_eqStringS_L1, Int.toNat_natCast]
  rw [w64_succ (by omega)]
  exact Ex.yes (decide_eq_true (by omega)) (Ex.guard (by omega) (Ex.guard (by omega) (Ex.no (by simp) hr)))
 ·simp only [laws_eqStringS_L1]
  exact Ex.no (decide_eq_false (by omega)) (Ex.ret rfl)
theorem str_wf {x : Str} (h : RC.wf .str x) : x.length ≤ 9223372036854775807 := by
 obtain ⟨⟨s, hs, hl⟩, _⟩ := h
 cases hs
 exact hl
theorem law_FnExactRunSession (x0 : List Str) (h0 : x0.length ≤ 9223372036854775807 ∧ ∀ x ∈ x0, RC.wf .str x) : ∃ n, laws_FnExactRunSession n x0 = some true := by
 refine Ex.get ?_
 unfold laws_FnExactRunSession
 refine Ex.bind (szStr_ex (b := 1048576) h0.1 (fun x hx => str_wf (h0.2 x hx)) (by omega) (by omega)) ?_
 rintro r (rfl | ⟨h1, h2, h3⟩)
 ·exact Ex.yes (by decide) (Ex.ret rfl)
 ·have hx : ∀ p ∈ x0, p.length ≤ 100000000 := fun p hp => by have := h3 p hp; omega
  refine Ex.no (decide_eq_false (by omega)) (Ex.be (toStr_ex (by omega)) (Ex.be (specRun_ex hx) (Ex.be (toStr_ex (by omega)) (Ex.be (implRun_ex hx) (Ex.no (by simp) (Ex.be (toStr_ex (by omega)) (Ex.be (eqStr_ex (by omega)) (Ex.no rfl (Ex.ret rfl)))))))))
end
end Go.Proofs.YtghdgncfcfdlfaaGreatDoor

/- Plain facts: copies and comparisons of versions; the first law. Conditions: none. -/
import Derived.Test.YtnaogmahijgibaaP2
namespace Go.Proofs.Ytnaogmahijgibaa
open Go

theorem copy_loop {xs : List Ver} (hl : xs.length < 1099511627776) : ∀ (n k : Nat) (ys : List Ver), k ≤ xs.length → xs.length < n + k → ys.length = xs.length → ys.take k = xs.take k → laws_toVersionS_L1 xs n ys k = some xs
  | 0, k, ys, h1, h2, _, _ => by omega
  | n + 1, k, ys, h1, h2, h3, h4 => by
    rw [laws_toVersionS_L1]
    rcases Nat.lt_or_ge k xs.length with hk | hk
    · rw [w64_succ (by omega)]
      simp only [iteO_eq, guardO, Int.toNat_natCast, Int.natCast_nonneg, Int.ofNat_lt, hk, h3, decide_true, if_true, true_and, laws_toVersion, bindO_some]
      refine copy_loop hl n (k + 1) _ hk (by omega) (by simpa using h3) ?_
      rw [List.take_add_one, List.take_add_one]
      have e1 : xs[k]? = some (xs.getD k dver) := by rw [List.getD_eq_getElem?_getD, List.getElem?_eq_getElem hk]; rfl
      have e2 : (ys.set k ⟨(xs.getD k dver).node, (xs.getD k dver).value, (xs.getD k dver).tm⟩)[k]? = some (xs.getD k dver) := by
        rw [List.getElem?_set_self (by omega)]
      rw [e1, e2, List.take_set_of_le (Nat.le_refl k), h4]
    · have : k = xs.length := by omega
      subst this
      simp only [iteO_eq, Int.ofNat_lt, Nat.lt_irrefl, decide_false, Bool.false_eq_true, if_false]
      rw [List.take_of_length_le (by omega), List.take_length] at h4
      rw [h4]

theorem toVersionS_eq {xs : List Ver} (hl : xs.length < 1099511627776) (n : Nat) (hn : xs.length < n) : laws_toVersionS n xs = some xs := by
  unfold laws_toVersionS
  rw [guardO_pos ⟨rfl, by omega, by omega⟩]
  have := copy_loop hl n 0 (List.replicate ((xs.length : Int).toNat) dver) (Nat.zero_le _) (by omega) (by simp) (by simp)
  rw [show ((0 : Nat) : Int) = 0 from rfl] at this
  rw [this]; rfl

theorem eqVersion_self (v : Ver) : laws_eqVersion v v = some true := by
  unfold laws_eqVersion
  simp [iteO_eq]
theorem eqVersionS_self {xs : List Ver} (hl : xs.length < 1099511627776) (n : Nat) (hn : xs.length < n) : laws_eqVersionS n xs xs = some true := by
  unfold laws_eqVersionS
  have := search (f := laws_eqVersionS_L1 xs xs) (len := xs.length) (p := fun _ => false) (A := .inl ()) (B := .inr ()) n hn (by
    intro n k hk _
    rw [laws_eqVersionS_L1, w64_succ (by omega)]
    simp only [iteO_eq, guardO, Int.toNat_natCast, Int.natCast_nonneg, Int.ofNat_lt, hk, decide_true, if_true, true_and, eqVersion_self, bindO_some]
    rfl) (by
    intro n k hk
    rw [laws_eqVersionS_L1]
    simp only [iteO_eq, Int.ofNat_lt, Nat.not_lt.2 hk, decide_false, Bool.false_eq_true, if_false]) n 0 (Nat.zero_le _) (by omega)
  have e : anyIn (fun _ => false) 0 xs.length = false := by
    rw [Bool.eq_false_iff]; intro h; obtain ⟨j, _, _, h⟩ := anyIn_iff.1 h; cases h
  rw [show ((0 : Nat) : Int) = 0 from rfl, e] at this
  simp [iteO_eq, this]

theorem law_FnExactValidVersions (xs : List Ver) (hx : xs.length ≤ 9223372036854775807 ∧ ∀ x ∈ xs, RC.wf .ver x) : ∃ n, laws_FnExactValidVersions n xs = some true := by
  obtain ⟨hl, _⟩ := hx
  refine ⟨2 * xs.length + 40, ?_⟩
  unfold laws_FnExactValidVersions laws_szVersionS
  rcases Nat.lt_or_ge 1048576 xs.length with h | h
  · have e : w64 (1048576 - (xs.length : Int)) < 0 := by rw [w64_id (by omega) (by omega)]; omega
    simp [iteO_eq, e]
  · have hl : xs.length < 1099511627776 := by omega
    have e : ¬ w64 (1048576 - (xs.length : Int)) < 0 := by rw [w64_id (by omega) (by omega)]; omega
    simp only [iteO_eq, e, decide_false, Bool.false_eq_true, if_false, bindO_some, toVersionS_eq hl _ (show xs.length < 2 * xs.length + 40 by omega), eqVersionS_self hl _ (show xs.length < 2 * xs.length + 40 by omega), spec_ValidVersions, spec_valid hl _ (show 2 * xs.length + 2 ≤ 2 * xs.length + 40 by omega), impl_valid hl _ (show 34 ≤ 2 * xs.length + 40 by omega), beq_self_eq_true, Bool.not_true]
end Go.Proofs.Ytnaogmahijgibaa

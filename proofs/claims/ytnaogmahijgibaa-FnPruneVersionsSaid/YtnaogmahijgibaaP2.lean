/- Plain facts: valid versions. Conditions: none. -/
import Derived.Test.YtnaogmahijgibaaP1
import Derived.Test.YtnaogmahijgibaaTT
namespace Go.Proofs.Ytnaogmahijgibaa
open Go

abbrev at_ (xs : List Ver) (k : Nat) : Ver := xs.getD k dver
def rangeOk (v : Ver) : Bool := (decide (0 ≤ v.node) && decide (v.node ≤ 11)) && ((decide (-1000 ≤ v.value) && decide (v.value ≤ 1000)) && (decide (0 ≤ v.tm) && decide (v.tm ≤ 100)))
def clashI (xs : List Ver) (i j : Nat) : Bool := decide ((at_ xs i).tm < (at_ xs j).tm) || (decide ((at_ xs j).tm = (at_ xs i).tm) && decide ((at_ xs j).node = (at_ xs i).node))
def badI (xs : List Ver) (i : Nat) : Bool := !rangeOk (at_ xs i) || anyIn (clashI xs i) 0 i

theorem impl_in {xs : List Ver} {i : Nat} (hi : i < xs.length) (hl : xs.length < 1099511627776) (n : Nat) (hn : i < n) : impl_ValidVersions_L2 xs i n 0 = some (if anyIn (clashI xs i) 0 i = true then .inl () else .inr ()) := by
  refine search (f := impl_ValidVersions_L2 xs i) n hn ?_ ?_ n 0 (Nat.zero_le _) (by omega)
  · intro n k hk _
    rw [impl_ValidVersions_L2, w64_succ (by omega)]
    simp only [Int.toNat_natCast, iteO_eq, guardO, Int.natCast_nonneg, Int.ofNat_lt, hk, decide_true, if_true, true_and]
    rfl
  · intro n k hk
    rw [impl_ValidVersions_L2]
    simp only [Int.toNat_natCast, iteO_eq, Int.ofNat_lt, Nat.not_lt.2 hk, decide_false, Bool.false_eq_true, if_false]

theorem impl_out {xs : List Ver} (hl : xs.length < 1099511627776) (n : Nat) (hn : 2 * xs.length + 2 ≤ n) : impl_ValidVersions_L1 xs n 0 = some (if anyIn (badI xs) 0 xs.length = true then .inl () else .inr ()) := by
  refine search (f := impl_ValidVersions_L1 xs) n (by omega) ?_ ?_ n 0 (Nat.zero_le _) (by omega)
  · intro n k hk hf
    rw [impl_ValidVersions_L1, w64_succ (by omega)]
    simp only [Int.toNat_natCast, iteO_eq, guardO, Int.natCast_nonneg, Int.ofNat_lt, Int.ofNat_le, hk, Nat.le_of_lt hk, decide_true, if_true, true_and, impl_in hk hl n (by omega), bindO_some]
    unfold badI
    have e : ((!(impl_within (xs.getD k dver).node 0 11)) || ((!(impl_within (xs.getD k dver).value (-1000) 1000)) || (!(impl_within (xs.getD k dver).tm 0 100)))) = !rangeOk (at_ xs k) := by
      simp only [impl_within, rangeOk, Bool.not_and]
    rw [e]
    cases h1 : rangeOk (at_ xs k) <;> cases h2 : anyIn (clashI xs k) 0 k <;> rfl
  · intro n k hk
    rw [impl_ValidVersions_L1]
    simp only [Int.toNat_natCast, iteO_eq, Int.ofNat_lt, Nat.not_lt.2 hk, decide_false, Bool.false_eq_true, if_false]

def validI (xs : List Ver) : Bool := decide (xs.length ≤ 16) && !anyIn (badI xs) 0 xs.length
theorem impl_valid {xs : List Ver} (hl : xs.length < 1099511627776) (n : Nat) (hn : 34 ≤ n) : impl_ValidVersions n xs = some (validI xs) := by
  unfold impl_ValidVersions validI
  rcases Nat.lt_or_ge 16 xs.length with h | h
  · have e : ¬ xs.length ≤ 16 := by omega
    have e2 : (16 : Int) < (xs.length : Int) := by omega
    simp [iteO_eq, e, e2]
  · have e2 : ¬ (16 : Int) < (xs.length : Int) := by omega
    rw [impl_out hl n (by omega)]
    cases h2 : anyIn (badI xs) 0 xs.length <;> simp [iteO_eq, h, e2]

def clashS (xs : List Ver) (i j : Nat) : Bool := decide ((at_ xs j).node = (at_ xs i).node) && decide ((at_ xs j).tm = (at_ xs i).tm)
def badS (xs : List Ver) (i : Nat) : Bool := !rangeOk (at_ xs i) || (decide (0 < i) && decide ((at_ xs i).tm < (at_ xs (i - 1)).tm)) || anyIn (clashS xs i) 0 i

theorem spec_in {xs : List Ver} {i : Nat} (hi : i < xs.length) (hl : xs.length < 1099511627776) (n : Nat) (hn : i < n) : spec_validVersions_L2 xs i n 0 = some (if anyIn (clashS xs i) 0 i = true then .inl () else .inr ()) := by
  refine search (f := spec_validVersions_L2 xs i) n hn ?_ ?_ n 0 (Nat.zero_le _) (by omega)
  · intro n k hk _
    rw [spec_validVersions_L2, w64_succ (by omega)]
    simp only [Int.toNat_natCast, iteO_eq, guardO, Int.natCast_nonneg, Int.ofNat_lt, hk, hi, Nat.lt_trans hk hi, decide_true, if_true, true_and]
    unfold clashS
    cases h1 : decide ((at_ xs k).node = (at_ xs i).node) <;> simp [h1, at_]
  · intro n k hk
    rw [spec_validVersions_L2]
    simp only [Int.toNat_natCast, iteO_eq, Int.ofNat_lt, Nat.not_lt.2 hk, decide_false, Bool.false_eq_true, if_false]

theorem spec_out {xs : List Ver} (hl : xs.length < 1099511627776) (n : Nat) (hn : 2 * xs.length + 2 ≤ n) : spec_validVersions_L1 xs n 0 = some (if anyIn (badS xs) 0 xs.length = true then .inl () else .inr ()) := by
  refine search (f := spec_validVersions_L1 xs) n (by omega) ?_ ?_ n 0 (Nat.zero_le _) (by omega)
  · intro n k hk hf
    rw [spec_validVersions_L1, w64_succ (by omega)]
    have e : rangeOk (at_ xs k) = (spec_inRange (xs.getD k dver).node 0 11 && (spec_inRange (xs.getD k dver).value (-1000) 1000 && spec_inRange (xs.getD k dver).tm 0 100)) := rfl
    simp only [Int.toNat_natCast, iteO_eq, guardO, Int.natCast_nonneg, Int.ofNat_lt, Int.ofNat_le, hk, Nat.le_of_lt hk, decide_true, if_true, true_and, spec_in hk hl n (by omega)]
    unfold badS
    rw [e]
    cases h1 : spec_inRange (xs.getD k dver).node 0 11
    · simp
    cases h2 : spec_inRange (xs.getD k dver).value (-1000) 1000
    · simp
    cases h3 : spec_inRange (xs.getD k dver).tm 0 100
    · simp
    rcases Nat.eq_zero_or_pos k with rfl | hp
    · simp
      cases h4 : anyIn (clashS xs 0) 0 0 <;> simp
    · have e1 : w64 ((k : Int) - 1) = ((k - 1 : Nat) : Int) := by rw [w64_id (by omega) (by omega)]; omega
      have e2 : (0 : Int) < (k : Int) := by omega
      have e3 : k - 1 < xs.length := by omega
      simp only [e1, e2, Int.toNat_natCast, Int.natCast_nonneg, Int.ofNat_lt, e3, hp, decide_true, if_true, true_and, Bool.not_true, Bool.and_true, Bool.true_and, Bool.false_or, Bool.false_eq_true, if_false, bindO_some]
      cases h4 : decide ((at_ xs k).tm < (at_ xs (k - 1)).tm) <;> simp [at_] at h4 <;> simp [h4, at_]
      cases h5 : anyIn (clashS xs k) 0 k <;> simp
  · intro n k hk
    rw [spec_validVersions_L1]
    simp only [Int.toNat_natCast, iteO_eq, Int.ofNat_lt, Nat.not_lt.2 hk, decide_false, Bool.false_eq_true, if_false]

theorem drop_adj (f : Nat → Int) : ∀ (i j : Nat), j < i → f i < f j → ∃ k, 0 < k ∧ k ≤ i ∧ f k < f (k - 1)
  | 0, j, h, _ => by omega
  | i + 1, j, h, hlt => by
    rcases Int.lt_or_le (f (i + 1)) (f i) with h1 | h1
    · exact ⟨i + 1, by omega, Nat.le_refl _, h1⟩
    · rcases Nat.eq_or_lt_of_le (Nat.le_of_lt_succ h) with rfl | h2
      · omega
      · obtain ⟨k, h3, h4, h5⟩ := drop_adj f i j h2 (by omega)
        exact ⟨k, h3, by omega, h5⟩

theorem bad_same (xs : List Ver) : anyIn (badI xs) 0 xs.length = anyIn (badS xs) 0 xs.length := by
  rw [Bool.eq_iff_iff, anyIn_iff, anyIn_iff]
  constructor
  · rintro ⟨i, _, hi, h⟩
    unfold badI at h
    rw [Bool.or_eq_true] at h
    rcases h with h | h
    · exact ⟨i, Nat.zero_le _, hi, by unfold badS; rw [h]; rfl⟩
    · obtain ⟨j, _, hj, h⟩ := anyIn_iff.1 h
      unfold clashI at h
      simp only [Bool.or_eq_true, Bool.and_eq_true, decide_eq_true_eq] at h
      rcases h with h | ⟨h1, h2⟩
      · obtain ⟨k, h3, h4, h5⟩ := drop_adj (fun i => (at_ xs i).tm) i j hj h
        refine ⟨k, Nat.zero_le _, by omega, ?_⟩
        unfold badS
        simp only [Bool.or_eq_true, Bool.and_eq_true, decide_eq_true_eq]
        exact .inl (.inr ⟨h3, h5⟩)
      · refine ⟨i, Nat.zero_le _, hi, ?_⟩
        unfold badS
        rw [Bool.or_eq_true]
        exact .inr (anyIn_iff.2 ⟨j, Nat.zero_le _, hj, by unfold clashS; rw [h1, h2]; simp⟩)
  · rintro ⟨i, _, hi, h⟩
    refine ⟨i, Nat.zero_le _, hi, ?_⟩
    unfold badS at h
    unfold badI
    simp only [Bool.or_eq_true, Bool.and_eq_true, decide_eq_true_eq] at h ⊢
    rcases h with (h | ⟨h1, h2⟩) | h
    · exact .inl h
    · exact .inr (anyIn_iff.2 ⟨i - 1, Nat.zero_le _, by omega, by unfold clashI; rw [decide_eq_true h2]; rfl⟩)
    · obtain ⟨j, _, hj, h⟩ := anyIn_iff.1 h
      refine .inr (anyIn_iff.2 ⟨j, Nat.zero_le _, hj, ?_⟩)
      unfold clashS at h
      unfold clashI
      simp only [Bool.or_eq_true, Bool.and_eq_true, decide_eq_true_eq] at h ⊢
      exact .inr ⟨h.2, h.1⟩

theorem spec_valid {xs : List Ver} (hl : xs.length < 1099511627776) (n : Nat) (hn : 2 * xs.length + 2 ≤ n) : spec_validVersions n xs = some (validI xs) := by
  unfold spec_validVersions validI
  rw [spec_out hl n hn, bad_same]
  cases h2 : anyIn (badS xs) 0 xs.length
  · have e : decide ((xs.length : Int) ≤ 16) = decide (xs.length ≤ 16) := by rw [decide_eq_decide]; omega
    simp only [Bool.false_eq_true, if_false, bindO_some, e, Bool.not_false, Bool.and_true]
  · simp
end Go.Proofs.Ytnaogmahijgibaa

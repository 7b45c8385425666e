/- Plain facts: the laws on commits. Conditions: none. -/
import Derived.Test.YtgihnmaaiibmeaaQB
namespace Go.Proofs.Ytgihnmaaiibmeaa
open Go

theorem contains_ex {xs : List Int} (hl : xs.length < 1000000000) (x : Int) : Ex (fun n => slices_Contains_int_int n xs x) (· = xs.contains x) := by
  unfold slices_Contains_int_int slices_Index_int_int
  have loop : ∀ (m k : Nat), k + m = xs.length → Ex (fun n => slices_Index_int_int_L1 xs x n (k : Int)) (fun r => match r with
      | .inl i => 0 ≤ i ∧ (xs.drop k).contains x = true
      | .inr _ => (xs.drop k).contains x = false) := by
    intro m
    induction m with
    | zero =>
      intro k hk
      refine Ex.succ ?_
      simp only [slices_Index_int_int_L1]
      refine Ex.no (decide_eq_false (by omega)) (Ex.ret ?_)
      rw [List.drop_of_length_le (by omega)]; rfl
    | succ m ih =>
      intro k hk
      refine Ex.succ ?_
      simp only [slices_Index_int_int_L1, Int.toNat_natCast]
      rw [w64_succ (by omega)]
      have e : xs.drop k = xs.getD k 0 :: xs.drop (k + 1) := by
        rw [List.drop_eq_getElem_cons (by omega), getD_at (by omega)]
      rw [e, List.contains_cons]
      have e2 : decide (x = xs.getD k 0) = (x == xs.getD k 0) := by rw [Bool.eq_iff_iff, decide_eq_true_eq, beq_iff_eq]
      rw [e2]
      refine Ex.yes (decide_eq_true (by omega)) (Ex.guard (by omega) (Ex.ite (fun hb => ?_) (fun hb => ?_)))
      · exact Ex.ret ⟨by omega, by rw [hb]; rfl⟩
      · rw [hb]
        exact ih (k + 1) (by omega)
  have h0 := loop xs.length 0 (by omega)
  rw [List.drop_zero] at h0
  refine Ex.bind (P := fun i : Int => decide (0 ≤ i) = xs.contains x) ?_ (fun i hi => Ex.ret hi)
  refine Ex.bind h0 ?_
  intro r hr
  cases r with
  | inl i => exact Ex.ret (by rw [hr.2]; exact decide_eq_true hr.1)
  | inr _ => exact Ex.ret (by rw [hr]; decide)

theorem specIn_ex {xs : List Int} (hl : xs.length < 1000000000) (x : Int) : Ex (fun n => spec_isIn n xs x) (· = xs.contains x) := by
  unfold spec_isIn
  refine Ex.be (any_loop xs 0 (fun y => decide (y = x)) (f := spec_isIn_L1 xs x) (A := .inl ()) (B := .inr ()) ?_ ?_ ?_) ?_
  · intro k hk hq
    simp only [spec_isIn_L1, Int.toNat_natCast]
    exact Ex.yes (decide_eq_true (by omega)) (Ex.guard (by omega) (Ex.yes hq (Ex.ret rfl)))
  · intro k hk hq r ih
    simp only [spec_isIn_L1, Int.toNat_natCast]
    rw [w64_succ (by omega)]
    exact Ex.yes (decide_eq_true (by omega)) (Ex.guard (by omega) (Ex.no hq ih))
  · simp only [spec_isIn_L1]
    exact Ex.no (decide_eq_false (by omega)) (Ex.ret rfl)
  · rw [any_eq_contains]
    cases xs.contains x <;> exact Ex.ret rfl

def mayR (h : List Acc) (who : Int) (done : List Int) : Bool := validA h && (rfL h who).all fun t => done.contains t

theorem implMay_ex {h : List Acc} (hl : h.length < 1000000) (who : Int) {done : List Int} (hd : done.length < 1000000000) : Ex (fun n => impl_MayCommit n h who done) (· = mayR h who done) := by
  unfold impl_MayCommit mayR
  refine Ex.be (implValidA_ex (by omega)) ?_
  cases hv : validA h with
  | false => exact Ex.yes rfl (Ex.ret rfl)
  | true =>
    have hlen := readsR_len h who
    refine Ex.no rfl (Ex.be (implReads_ex hl who) ?_)
    have e : readsR h who = rfL h who := if_pos hv
    rw [e] at hlen ⊢
    refine Ex.be (any_loop (rfL h who) 0 (fun t => !done.contains t) (f := impl_MayCommit_L1 done (rfL h who) h) (A := .inl ()) (B := .inr ()) ?_ ?_ ?_) ?_
    · intro k hk hq
      simp only [impl_MayCommit_L1, Int.toNat_natCast]
      exact Ex.yes (decide_eq_true (by omega)) (Ex.guard (by omega) (Ex.be (contains_ex hd _) (Ex.yes hq (Ex.ret rfl))))
    · intro k hk hq r ih
      simp only [impl_MayCommit_L1, Int.toNat_natCast]
      rw [w64_succ (by omega)]
      exact Ex.yes (decide_eq_true (by omega)) (Ex.guard (by omega) (Ex.be (contains_ex hd _) (Ex.no hq ih)))
    · simp only [impl_MayCommit_L1]
      exact Ex.no (decide_eq_false (by omega)) (Ex.ret rfl)
    · rw [← List.not_all_eq_any_not]
      cases (rfL h who).all fun t => done.contains t <;> exact Ex.ret rfl

theorem specMay_ex {h : List Acc} (hl : h.length < 1000000) (who : Int) {done : List Int} (hd : done.length < 1000000000) : Ex (fun n => spec_MayCommit n h who done) (· = mayR h who done) := by
  unfold spec_MayCommit mayR
  refine Ex.be (specValidA_ex (by omega)) ?_
  cases hv : validA h with
  | false => exact Ex.yes rfl (Ex.ret rfl)
  | true =>
    refine Ex.no rfl ?_
    refine Ex.be (any_loop ([0, 1, 2, 3] : List Int) 0 (fun t => rf h who t && !done.contains t) (f := spec_MayCommit_L1 h who done) (A := .inl ()) (B := .inr ()) ?_ ?_ ?_) ?_
    · intro k hk hq
      have hk4 : ([0, 1, 2, 3] : List Int).getD k 0 = (k : Int) := by
        have : k = 0 ∨ k = 1 ∨ k = 2 ∨ k = 3 := by simp at hk; omega
        rcases this with rfl | rfl | rfl | rfl <;> rfl
      rw [hk4] at hq
      simp only [List.length_cons, List.length_nil] at hk
      simp only [spec_MayCommit_L1]
      refine Ex.yes (decide_eq_true (by omega)) (Ex.be (specReads1_ex hl who _) (Ex.be (a := true) ?_ (Ex.yes rfl (Ex.ret rfl))))
      rw [Bool.and_eq_true] at hq
      exact Ex.yes hq.1 (Ex.be (specIn_ex hd _) (Ex.ret hq.2))
    · intro k hk hq r ih
      have hk4 : ([0, 1, 2, 3] : List Int).getD k 0 = (k : Int) := by
        have : k = 0 ∨ k = 1 ∨ k = 2 ∨ k = 3 := by simp at hk; omega
        rcases this with rfl | rfl | rfl | rfl <;> rfl
      rw [hk4] at hq
      simp only [List.length_cons, List.length_nil] at hk
      simp only [spec_MayCommit_L1]
      rw [w64_succ (by omega)]
      refine Ex.yes (decide_eq_true (by omega)) (Ex.be (specReads1_ex hl who _) (Ex.be (a := false) ?_ (Ex.no rfl ih)))
      refine Ex.ite (fun hb => Ex.be (specIn_ex hd _) (Ex.ret ?_)) (fun _ => Ex.ret rfl)
      rw [hb, Bool.true_and] at hq
      exact hq
    · simp only [spec_MayCommit_L1]
      exact Ex.no (by decide) (Ex.ret rfl)
    · have e : (([0, 1, 2, 3] : List Int).any fun t => rf h who t && !done.contains t) = !((rfL h who).all fun t => done.contains t) := by
        unfold rfL
        rw [List.all_filter, List.not_all_eq_any_not]
        congr 1
        funext t
        cases rf h who t <;> cases done.contains t <;> rfl
      rw [e]
      cases (rfL h who).all fun t => done.contains t <;> exact Ex.ret rfl

theorem drawMay_ex {x1 : List Int} (h : ∀ b ∈ x1, 0 ≤ b ∧ b ≤ 255) (hl : x1.length ≤ 1048576) : Ex (fun n => spec_DrawMayCommit n x1) (fun r => r.1.length ≤ 20 ∧ r.2.1.length ≤ 4 ∧ 0 ≤ r.2.2 ∧ r.2.2 ≤ 3) := by
  unfold spec_DrawMayCommit
  refine Ex.bind (newReader_ex h (by omega)) (fun k hk => ?_)
  refine Ex.bind (anyAcc_ex hk (Int.le_refl 0) (by omega)) ?_
  rintro ⟨i, xs⟩ ⟨h1, h2, h3⟩
  simp only at h1 h2 h3 ⊢
  refine Ex.bind (pick_ex hk h1 (by omega) (by omega) (by omega)) (fun a ha => ?_)
  rw [w64_id (n := i + 1) (by omega) (by omega)]
  have loop := loop4 (σ := Int × List Int) (inv := fun k s => s.1 = i + 1 + k ∧ s.2.length ≤ k) (f := fun n s j => spec_DrawMayCommit_L1 xs a x1 k n s.1 s.2 j) (fin := fun s => s.2) (s0 := (i + 1, [])) ⟨by simp, by simp⟩ ?_ ?_
  · refine Ex.bind loop ?_
    rintro r ⟨s, rfl, hs⟩
    exact Ex.ret ⟨h3, hs.2, ha.1, by simp only; omega⟩
  · rintro k ⟨p, s⟩ hk4 ⟨hs1, hs2⟩ Q hQ
    simp only at hs1 hs2 ⊢
    simp only [spec_DrawMayCommit_L1]
    rw [w64_succ (by omega)]
    refine Ex.yes (decide_eq_true (by omega)) (Ex.bind (pick_ex hk (by omega) (by omega) (by omega) (by omega)) (fun b hb => ?_))
    refine Ex.bind (P := fun s' : List Int => s'.length ≤ k + 1) ?_ (fun s' hs' => ?_)
    · refine Ex.ite (fun _ => Ex.guard (by simp; omega) (Ex.ret (by simp; omega))) (fun _ => Ex.ret (by omega))
    · refine hQ (w64 (p + 1), s') ⟨?_, hs'⟩
      simp only
      rw [w64_id (by omega) (by omega)]
      omega
  · rintro ⟨p, s⟩ _
    simp only [spec_DrawMayCommit_L1]
    exact Ex.no (by decide) (Ex.ret rfl)

theorem law_FnMayCommit (x0 : List Int) (h0 : x0.length ≤ 9223372036854775807 ∧ ∀ x ∈ x0, RC.wf .u8 x) : ∃ n, laws_FnMayCommit n x0 = some true := by
  refine Ex.get ?_
  unfold laws_FnMayCommit
  refine Ex.code rfl (fun hl => ?_)
  refine Ex.bind (drawMay_ex (u8_wf h0.2) hl) ?_
  rintro ⟨h, done, who⟩ ⟨hh, hd⟩
  simp only at hh hd ⊢
  refine Ex.be (implMay_ex (by omega) _ (by omega)) (Ex.be (specMay_ex (by omega) _ (by omega)) ?_)
  refine Ex.be (a := !validA h) (Ex.no (by simp) (Ex.be (implValidA_ex (by omega)) (Ex.ret rfl))) ?_
  cases hv : validA h with
  | false => exact Ex.yes rfl (Ex.be (specMay_ex (by omega) _ (by omega)) (Ex.ret (by simp)))
  | true =>
    refine Ex.no rfl (Ex.be (implMay_ex (by omega) _ (by simp)) ?_)
    have e1 : mayR h who [0, 1, 2, 3] = true := by
      unfold mayR
      rw [hv, Bool.true_and, List.all_eq_true]
      intro t ht
      rw [List.contains_iff_mem]
      simpa using (mem_rfL.1 ht).1
    rw [e1]
    refine Ex.be (a := true) (Ex.yes rfl (Ex.be (implMay_ex (by omega) _ (by simp)) (Ex.be (implReads_ex (by omega) _) (Ex.ret ?_)))) (Ex.ret rfl)
    have e2 : readsR h who = rfL h who := if_pos hv
    rw [e2]
    unfold mayR
    rw [hv, Bool.true_and]
    cases rfL h who <;> rfl

theorem law_FnMayCommitMore (x0 : List Int) (h0 : x0.length ≤ 9223372036854775807 ∧ ∀ x ∈ x0, RC.wf .u8 x) : ∃ n, laws_FnMayCommitMore n x0 = some true := by
  refine Ex.get ?_
  unfold laws_FnMayCommitMore
  refine Ex.code rfl (fun hl => ?_)
  refine Ex.bind (drawMay_ex (u8_wf h0.2) hl) ?_
  rintro ⟨h, done, who⟩ ⟨hh, hd⟩
  simp only at hh hd ⊢
  refine Ex.be (implMay_ex (by omega) _ (by omega)) (Ex.be (specMay_ex (by omega) _ (by omega)) ?_)
  cases hm : mayR h who done with
  | false => exact Ex.yes rfl (Ex.be (specMay_ex (by omega) _ (by omega)) (Ex.ret (by rw [hm]; rfl)))
  | true =>
    refine Ex.no rfl (Ex.guard (by simp; omega) (Ex.guard (by simp; omega) (Ex.be (implMay_ex (by omega) _ (by simp; omega)) (Ex.ret ?_))))
    rw [view_all, List.nil_append]
    unfold mayR at hm ⊢
    rw [Bool.and_eq_true, List.all_eq_true] at hm ⊢
    refine ⟨hm.1, fun t ht => ?_⟩
    have := hm.2 t ht
    rw [List.contains_iff_mem] at this ⊢
    rw [List.mem_append]
    exact .inl this

theorem szA_neg {xs : List Acc} (h : 1048576 < xs.length) (hl : xs.length ≤ 9223372036854775807) : laws_szAccessS xs 1048576 = some (-1) := by
  unfold laws_szAccessS
  have e : w64 (1048576 - (xs.length : Int)) < 0 := by rw [w64_id (by omega) (by omega)]; omega
  rw [decide_eq_true e]; rfl
theorem szA_pos {xs : List Acc} (h : xs.length ≤ 1048576) : laws_szAccessS xs 1048576 = some (1048576 - (xs.length : Int)) := by
  unfold laws_szAccessS
  have e : w64 (1048576 - (xs.length : Int)) = 1048576 - (xs.length : Int) := w64_id (by omega) (by omega)
  rw [e, decide_eq_false (by omega)]; rfl
theorem Ex.szA {f : Nat → Int → Option Bool} {xs : List Acc} {P : Bool → Prop} (ht : P true) (hl : xs.length ≤ 9223372036854775807) (h : xs.length ≤ 1048576 → Ex (fun n => f n (1048576 - (xs.length : Int))) P) :
    Ex (fun n => bindO (laws_szAccessS xs 1048576) fun i => iteO (decide (i < 0)) (some true) (f n i)) P := by
  rcases Nat.lt_or_ge 1048576 xs.length with h1 | h1
  · exact Ex.bc (szA_neg h1 hl) (Ex.yes (by decide) (Ex.ret ht))
  · exact Ex.bc (szA_pos h1) (Ex.no (decide_eq_false (by omega)) (h h1))

theorem toAcc_ex {xs : List Acc} (h : xs.length ≤ 1048576) : Ex (fun n => laws_toAccessS n xs) (· = xs) := by
  unfold laws_toAccessS
  refine Ex.guard (by omega) (Ex.be (copy_ex xs dacc (f := laws_toAccessS_L1 xs) ?_ ?_ _ (by simp)) (Ex.ret rfl))
  · intro k ys hk hy Q hQ
    simp only [laws_toAccessS_L1, Int.toNat_natCast, laws_toAccess, bindO_some]
    rw [w64_succ (by omega)]
    exact Ex.yes (decide_eq_true (by omega)) (Ex.guard (by omega) (Ex.guard (by omega) hQ))
  · intro ys
    simp only [laws_toAccessS_L1]
    exact Ex.no (decide_eq_false (by omega)) (Ex.ret rfl)
theorem eqAcc_ex {xs : List Acc} (h : xs.length ≤ 10000000) : Ex (fun n => laws_eqAccessS n xs xs) (· = true) := by
  unfold laws_eqAccessS
  refine Ex.no (by simp) (Ex.be (skip_loop xs.length (f := laws_eqAccessS_L1 xs xs) (B := .inr ()) ?_ ?_) (Ex.ret rfl))
  · intro k hk r ih
    simp only [laws_eqAccessS_L1, Int.toNat_natCast]
    rw [w64_succ (by omega)]
    refine Ex.yes (decide_eq_true (by omega)) (Ex.guard (by omega) (Ex.guard (by omega) (Ex.bc (a := true) ?_ (Ex.no rfl ih))))
    unfold laws_eqAccess
    simp [iteO_eq]
  · simp only [laws_eqAccessS_L1]
    exact Ex.no (decide_eq_false (by omega)) (Ex.ret rfl)
theorem toInt_ex {xs : List Int} (h : xs.length ≤ 1048576) : Ex (fun n => laws_toIntS n xs) (· = xs) := by
  unfold laws_toIntS
  refine Ex.guard (by omega) (Ex.be (copy_ex xs 0 (f := laws_toIntS_L1 xs) ?_ ?_ _ (by simp)) (Ex.ret rfl))
  · intro k ys hk hy Q hQ
    simp only [laws_toIntS_L1, Int.toNat_natCast]
    rw [w64_succ (by omega)]
    exact Ex.yes (decide_eq_true (by omega)) (Ex.guard (by omega) (Ex.guard (by omega) hQ))
  · intro ys
    simp only [laws_toIntS_L1]
    exact Ex.no (decide_eq_false (by omega)) (Ex.ret rfl)
theorem eqInt_ex {xs : List Int} (h : xs.length ≤ 10000000) : Ex (fun n => laws_eqIntS n xs xs) (· = true) := by
  unfold laws_eqIntS
  refine Ex.no (by simp) (Ex.be (skip_loop xs.length (f := laws_eqIntS_L1 xs xs) (B := .inr ()) ?_ ?_) (Ex.ret rfl))
  · intro k hk r ih
    simp only [laws_eqIntS_L1, Int.toNat_natCast]
    rw [w64_succ (by omega)]
    exact Ex.yes (decide_eq_true (by omega)) (Ex.guard (by omega) (Ex.guard (by omega) (Ex.no (by simp) ih)))
  · simp only [laws_eqIntS_L1]
    exact Ex.no (decide_eq_false (by omega)) (Ex.ret rfl)

theorem law_FnExactMayCommit (xs : List Acc) (who : Int) (done : List Int) (h0 : xs.length ≤ 9223372036854775807 ∧ ∀ x ∈ xs, RC.wf .acc x) (_ : -9223372036854775808 ≤ who ∧ who ≤ 9223372036854775807) (_ : done.length ≤ 9223372036854775807 ∧ ∀ x ∈ done, RC.wf .int x) :
    ∃ n, laws_FnExactMayCommit n xs who done = some true := by
  refine Ex.get ?_
  unfold laws_FnExactMayCommit
  refine Ex.ite (fun _ => Ex.ret rfl) (fun hb => ?_)
  have hb := of_decide_eq_false hb
  refine Ex.szA rfl h0.1 (fun hl => ?_)
  by_cases hs : xs.length < 1000000
  · refine Ex.be (toAcc_ex hl) (Ex.be (toInt_ex (by omega)) (Ex.be (specMay_ex hs _ (by omega)) ?_))
    refine Ex.be (toAcc_ex hl) (Ex.be (toInt_ex (by omega)) (Ex.be (implMay_ex hs _ (by omega)) (Ex.no (by simp) ?_)))
    refine Ex.be (toAcc_ex hl) (Ex.be (eqAcc_ex (by omega)) (Ex.no rfl ?_))
    exact Ex.be (toInt_ex (by omega)) (Ex.be (eqInt_ex (by omega)) (Ex.no rfl (Ex.ret rfl)))
  · have hv : validA xs = false := by
      unfold validA
      rw [decide_eq_false (by omega)]; rfl
    have hI : Ex (fun n => impl_MayCommit n xs who done) (· = false) := by
      unfold impl_MayCommit
      exact Ex.be (implValidA_ex (by omega)) (Ex.yes (by rw [hv]; rfl) (Ex.ret rfl))
    have hS : Ex (fun n => spec_MayCommit n xs who done) (· = false) := by
      unfold spec_MayCommit
      exact Ex.be (specValidA_ex (by omega)) (Ex.yes (by rw [hv]; rfl) (Ex.ret rfl))
    refine Ex.be (toAcc_ex hl) (Ex.be (toInt_ex (by omega)) (Ex.be hS ?_))
    refine Ex.be (toAcc_ex hl) (Ex.be (toInt_ex (by omega)) (Ex.be hI (Ex.no rfl ?_)))
    refine Ex.be (toAcc_ex hl) (Ex.be (eqAcc_ex (by omega)) (Ex.no rfl ?_))
    exact Ex.be (toInt_ex (by omega)) (Ex.be (eqInt_ex (by omega)) (Ex.no rfl (Ex.ret rfl)))

theorem markAcc_ex {xs : List Acc} (hl : xs.length ≤ 10000000) : Ex (fun n => laws_markAccessS n xs xs.length 1) (fun r => r.1.length = xs.length ∧ 0 ≤ r.2) := by
  unfold laws_markAccessS
  have loop : ∀ (m i : Nat) (ys : List Acc), i + m = xs.length → ys.length = xs.length → Ex (fun n => laws_markAccessS_L1 xs.length n ys (1 + 3 * i) (i : Int)) (fun r => r.1.length = xs.length ∧ 0 ≤ r.2) := by
    intro m
    induction m with
    | zero =>
      intro i ys hi hy
      refine Ex.succ ?_
      simp only [laws_markAccessS_L1]
      exact Ex.no (decide_eq_false (by omega)) (Ex.ret ⟨hy, by simp only; omega⟩)
    | succ m ih =>
      intro i ys hi hy
      refine Ex.succ ?_
      simp only [laws_markAccessS_L1, Int.toNat_natCast]
      refine Ex.yes (decide_eq_true (by omega)) (Ex.guard (by omega) (Ex.guard (by omega) (Ex.guard (by omega) ?_)))
      rw [w64_succ (by omega), w64_id (n := 1 + 3 * (i : Int) + 1) (by omega) (by omega), w64_id (n := 1 + 3 * (i : Int) + 1 + 1) (by omega) (by omega), w64_id (n := 1 + 3 * (i : Int) + 1 + 1 + 1) (by omega) (by omega)]
      have e1 : 1 + 3 * (i : Int) + 1 + 1 + 1 = 1 + 3 * ((i + 1 : Nat) : Int) := by omega
      rw [e1]
      exact ih (i + 1) _ (by omega) (by simpa using hy)
  refine Ex.bind (loop xs.length 0 xs (by omega) rfl) ?_
  rintro ⟨ys, j⟩ h
  exact Ex.ret h

def MarkedI (xs : List Int) (k : Int) : Prop := ∀ j, j < xs.length → xs.getD j 0 = k + j
theorem getD_iset {xs : List Int} {i : Nat} {x : Int} (h : i < xs.length) (j : Nat) : (xs.set i x).getD j 0 = if i = j then x else xs.getD j 0 := by
  rw [List.getD_eq_getElem?_getD, List.getElem?_set, List.getD_eq_getElem?_getD]
  by_cases e : i = j
  · subst e; simp [h]
  · simp [e]
theorem markInt_ex {xs : List Int} (hl : xs.length ≤ 10000000) : Ex (fun n => laws_markIntS n xs xs.length 1) (fun r => r.1.length = xs.length ∧ r.2 = 1 + xs.length ∧ MarkedI r.1 1) := by
  unfold laws_markIntS
  have loop : ∀ (m i : Nat) (ys : List Int), i + m = xs.length → ys.length = xs.length → (∀ j, j < i → ys.getD j 0 = 1 + j) → Ex (fun n => laws_markIntS_L1 xs.length n ys (1 + i) (i : Int)) (fun r => r.1.length = xs.length ∧ r.2 = 1 + xs.length ∧ MarkedI r.1 1) := by
    intro m
    induction m with
    | zero =>
      intro i ys hi hy hj
      refine Ex.succ ?_
      simp only [laws_markIntS_L1]
      obtain rfl : i = xs.length := by omega
      exact Ex.no (decide_eq_false (by omega)) (Ex.ret ⟨hy, rfl, fun j h => hj j (by simp only at h; omega)⟩)
    | succ m ih =>
      intro i ys hi hy hj
      refine Ex.succ ?_
      simp only [laws_markIntS_L1, Int.toNat_natCast]
      refine Ex.yes (decide_eq_true (by omega)) (Ex.guard (by omega) ?_)
      rw [w64_succ (by omega), w64_id (n := 1 + (i : Int) + 1) (by omega) (by omega)]
      have e1 : 1 + (i : Int) + 1 = 1 + ((i + 1 : Nat) : Int) := by omega
      rw [e1]
      refine ih (i + 1) _ (by omega) (by simpa using hy) (fun j h => ?_)
      rw [getD_iset (by omega)]
      by_cases e : i = j
      · subst e; simp
      · simp only [e, if_false]
        exact hj j (by omega)
  refine Ex.bind (loop xs.length 0 xs (by omega) rfl (fun j h => by omega)) ?_
  rintro ⟨ys, j⟩ h
  exact Ex.ret h
theorem heldInt_ex {xs : List Int} (hl : xs.length ≤ 10000000) (hm : MarkedI xs 1) : Ex (fun n => laws_heldIntS n xs 1) (· = 1 + xs.length) := by
  unfold laws_heldIntS
  have loop : ∀ (m i : Nat), i + m = xs.length → Ex (fun n => laws_heldIntS_L1 xs n (1 + i) (i : Int)) (· = .inr (1 + xs.length)) := by
    intro m
    induction m with
    | zero =>
      intro i hi
      refine Ex.succ ?_
      simp only [laws_heldIntS_L1]
      obtain rfl : i = xs.length := by omega
      exact Ex.no (decide_eq_false (by omega)) (Ex.ret rfl)
    | succ m ih =>
      intro i hi
      refine Ex.succ ?_
      simp only [laws_heldIntS_L1, Int.toNat_natCast]
      rw [w64_succ (by omega), w64_id (n := 1 + (i : Int) + 1) (by omega) (by omega)]
      have e1 : 1 + (i : Int) + 1 = 1 + ((i + 1 : Nat) : Int) := by omega
      rw [e1]
      refine Ex.yes (decide_eq_true (by omega)) (Ex.guard (by omega) (Ex.no ?_ (ih (i + 1) (by omega))))
      rw [decide_eq_true (hm i (by omega))]; rfl
  exact Ex.be (loop xs.length 0 (by omega)) (Ex.ret rfl)

/-- the shape of a law that two functions from accesses to numbers are one -/
theorem exact_ints {xs : List Acc} {R : List Int} (hl : xs.length ≤ 1048576) (hR : R.length ≤ 100000) {S I : Nat → List Acc → Option (List Int)} (hS : Ex (fun n => S n xs) (· = R)) (hI : Ex (fun n => I n xs) (· = R)) :
    Ex (fun n => bindO (laws_toAccessS n xs) fun x70 =>
 bindO (S n x70) fun x72 =>
 bindO (laws_toAccessS n xs) fun x74 =>
 bindO (I n x74) fun x76 =>
 bindO (laws_eqIntS n x76 x72) fun b78 =>
 iteO (!b78)
 (some false)
 (bindO (laws_toAccessS n xs) fun x82 =>
 bindO (laws_eqAccessS n x74 x82) fun b84 =>
 iteO (!b84)
 (some false)
 (bindO (laws_markAccessS n x74 x74.length 1) fun (x88, i89) =>
 guardO (x74.length = x88.length) <|
 bindO (iteO (decide (i89 < 0))
 (some true)
 (bindO (laws_eqIntS n x76 x72) fun b98 =>
 some (!b98))) fun b95 =>
 iteO b95
 (some false)
 (bindO (laws_markIntS n x76 x76.length 1) fun (x102, i103) =>
 guardO (x76.length = x102.length) <|
 bindO (laws_heldIntS n x102 1) fun i106 =>
 iteO (decide (i106 < 0))
 (some false)
 (iteO (!decide (i106 = i103))
 (some false)
 (bindO (laws_toAccessS n xs) fun x112 =>
 bindO (I n x112) fun x114 =>
 bindO (laws_eqIntS n x114 x72) fun b116 =>
 iteO (!b116)
 (some false)
 (bindO (laws_heldIntS n x102 1) fun i120 =>
 iteO (decide (i120 < 0))
 (some false)
 (iteO (!decide (i120 = i103))
 (some false)
 (some true)))))))) ) (· = true) := by
  refine Ex.be (toAcc_ex hl) (Ex.be hS (Ex.be (toAcc_ex hl) (Ex.be hI (Ex.be (eqInt_ex (by omega)) (Ex.no rfl ?_)))))
  refine Ex.be (toAcc_ex hl) (Ex.be (eqAcc_ex (by omega)) (Ex.no rfl ?_))
  refine Ex.bind (markAcc_ex (by omega)) ?_
  rintro ⟨ys, i⟩ ⟨h1, h2⟩
  simp only at h1 h2 ⊢
  refine Ex.guard h1.symm ?_
  refine Ex.be (a := false) (Ex.no (decide_eq_false (by omega)) (Ex.be (eqInt_ex (by omega)) (Ex.ret rfl))) (Ex.no rfl ?_)
  refine Ex.bind (markInt_ex (by omega)) ?_
  rintro ⟨zs, j⟩ ⟨k1, k2, k3⟩
  simp only at k1 k2 k3 ⊢
  refine Ex.guard k1.symm (Ex.be (heldInt_ex (by omega) k3) (Ex.no (decide_eq_false (by omega)) (Ex.no (by rw [k1, k2]; simp) ?_)))
  refine Ex.be (toAcc_ex hl) (Ex.be hI (Ex.be (eqInt_ex (by omega)) (Ex.no rfl ?_)))
  exact Ex.be (heldInt_ex (by omega) k3) (Ex.no (decide_eq_false (by omega)) (Ex.no (by rw [k1, k2]; simp) (Ex.ret rfl)))

theorem law_FnExactReadsFrom (xs : List Acc) (who : Int) (h0 : xs.length ≤ 9223372036854775807 ∧ ∀ x ∈ xs, RC.wf .acc x) (_ : -9223372036854775808 ≤ who ∧ who ≤ 9223372036854775807) : ∃ n, laws_FnExactReadsFrom n xs who = some true := by
  refine Ex.get ?_
  unfold laws_FnExactReadsFrom
  refine Ex.szA rfl h0.1 (fun hl => ?_)
  by_cases hs : xs.length < 1000000
  · exact exact_ints hl (by have := readsR_len xs who; omega) (S := fun n x => spec_ReadsFrom n x who) (I := fun n x => impl_ReadsFrom n x who) (specReads_ex hs who) (implReads_ex hs who)
  · have hv : validA xs = false := by
      unfold validA
      rw [decide_eq_false (by omega)]; rfl
    refine exact_ints hl (R := []) (by simp) (S := fun n x => spec_ReadsFrom n x who) (I := fun n x => impl_ReadsFrom n x who) ?_ ?_
    · unfold spec_ReadsFrom
      exact Ex.be (specValidA_ex (by omega)) (Ex.yes (by rw [hv]; rfl) (Ex.ret rfl))
    · unfold impl_ReadsFrom
      exact Ex.be (implValidA_ex (by omega)) (Ex.yes (by rw [hv]; rfl) (Ex.ret rfl))
end Go.Proofs.Ytgihnmaaiibmeaa

/- Plain facts: the laws FnApplyEdits, FnApplyEditsLast, FnApplyEditsNone. Conditions: none. -/
import Derived.Test.YthlfcfcfipahiaaVD2
import Derived.Test.YthlfcfcfipahiaaV6
import Derived.Test.YthlfcfcfipahiaaVE1
import Derived.Test.YthlfcfcfipahiaaLNe
namespace Go.Proofs.Ythlfcfcfipahiaa
open Go
set_option linter.unusedVariables false
theorem law_FnApplyEdits (x0 : List Int) (h0 : x0.length ≤ 9223372036854775807 ∧ ∀ x ∈ x0, RC.wf .u8 x) : ∃ n, laws_FnApplyEdits n x0 = some true := by
  refine Ex.get ?_
  unfold laws_FnApplyEdits
  refine Ex.code rfl (fun hl => ?_)
  refine Ex.bind (drawEdits_ex (u8_wf h0.2) hl) ?_
  rintro ⟨x, l, k1, k2⟩ ⟨g, hlen, hp⟩
  simp only at g hlen hp ⊢
  have l1 := g.len
  have n1 := g.nl
  generalize hA : (x.drop k1).take k2 = t at *
  have hL := (applyR_NL (t := t) (l := l)).1
  refine Ex.be (implApplyAll_ex hp) (Ex.be (specApplyAll_ex n1 (by omega) hp) ?_)
  cases hR : applyR t l with
  | mk out ok =>
    rw [hR] at hL
    simp only at hL ⊢
    refine Ex.be (eqNodes_ex (by omega)) ?_
    refine Ex.ite (fun _ => Ex.be (eqNodes_ex (by omega)) (Ex.ret (by simp))) (fun hb => ?_)
    have hok : ok = true ∧ l.length ≠ 0 := by
      cases ok with
      | true => exact ⟨rfl, fun e => by rw [e] at hb; simp at hb⟩
      | false => simp at hb
    obtain ⟨rfl, hl0⟩ := hok
    have hR2 : (applyR t l).2 = true := by rw [hR]
    obtain ⟨q1, q2, q3, q4⟩ := applyR_VT hR2
    rw [hR] at q1 q4
    simp only at q1 q4
    obtain ⟨k, hk⟩ : ∃ k : Nat, w64 ((l.length : Int) - 1) = (k : Int) ∧ k + 1 = l.length := ⟨l.length - 1, by rw [w64_id (by omega) (by omega)]; omega, by omega⟩
    simp only [hk.1, Int.toNat_natCast, List.drop_zero, view_tail]
    have e4 := appAll_app (l.take k) (l.drop k) t
    rw [List.take_append_drop, q4] at e4
    cases hu : appAll t (l.take k) with
    | none => rw [hu] at e4; cases e4
    | some u =>
      rw [hu] at e4
      have r1 := applyR_of q2 (l := l.take k) (by simp; omega) hu
      have hvu := appAll_VT q2 hu
      have r2 := applyR_of hvu (l := l.drop k) (by simp; omega) e4.symm
      have i1 := implApplyAll_ex (t := t) (l := l.take k) (fun e he => hp e (List.mem_of_mem_take he))
      rw [r1] at i1
      have i2 := implApplyAll_ex (t := u) (l := l.drop k) (fun e he => hp e (List.mem_of_mem_drop he))
      rw [r2] at i2
      refine Ex.guard (by omega) (Ex.be i1 (Ex.guard (by omega) (Ex.be i2 (Ex.be (a := true) ?_ (Ex.ret rfl)))))
      refine Ex.yes rfl (Ex.yes rfl (Ex.be (eqNodes_ex (by show out.length < _; omega)) (Ex.yes rfl (Ex.be (implTree_ex out) (Ex.ret ?_)))))
      exact validT_iff.2 q1

theorem law_FnApplyEditsLast (x0 : List Int) (h0 : x0.length ≤ 9223372036854775807 ∧ ∀ x ∈ x0, RC.wf .u8 x) : ∃ n, laws_FnApplyEditsLast n x0 = some true := by
  refine Ex.get ?_
  unfold laws_FnApplyEditsLast
  refine Ex.code rfl (fun hl => ?_)
  refine Ex.bind (drawEdits_ex (u8_wf h0.2) hl) ?_
  rintro ⟨x, l, k1, k2⟩ ⟨g, hlen, hp⟩
  simp only at g hlen hp ⊢
  have l1 := g.len
  have n1 := g.nl
  generalize hA : (x.drop k1).take k2 = t at *
  have hL := (applyR_NL (t := t) (l := l)).1
  refine Ex.be (implApplyAll_ex hp) (Ex.be (specApplyAll_ex n1 (by omega) hp) ?_)
  cases hR : applyR t l with
  | mk out ok =>
    rw [hR] at hL
    simp only at hL ⊢
    refine Ex.be (eqNodes_ex (by omega)) ?_
    refine Ex.ite (fun _ => Ex.be (eqNodes_ex (by omega)) (Ex.ret (by simp))) (fun hb => ?_)
    have hok : ok = true ∧ l.length ≠ 0 := by
      cases ok with
      | true => exact ⟨rfl, fun e => by rw [e] at hb; simp at hb⟩
      | false => simp at hb
    obtain ⟨rfl, hl0⟩ := hok
    have hR2 : (applyR t l).2 = true := by rw [hR]
    obtain ⟨q1, q2, q3, q4⟩ := applyR_VT hR2
    rw [hR] at q1 q4
    simp only at q1 q4
    obtain ⟨k, hk⟩ : ∃ k : Nat, w64 ((l.length : Int) - 1) = (k : Int) ∧ k + 1 = l.length := ⟨l.length - 1, by rw [w64_id (by omega) (by omega)]; omega, by omega⟩
    have e4 := appAll_app (l.take k) (l.drop k) t
    have ed : l.drop k = [l.getD k dedt] := by
      rw [drop_at dedt (by omega), List.drop_eq_nil_of_le (by omega)]
    have hpk : (l.getD k dedt).path.length ≤ 1000000000000 := hp _ (getD_mem (by omega))
    rw [List.take_append_drop, q4, ed] at e4
    simp only [hk.1, Int.toNat_natCast]
    generalize l.getD k dedt = e at *
    cases hu : appAll t (l.take k) with
    | none => rw [hu] at e4; cases e4
    | some u =>
      rw [hu] at e4
      have hvu := appAll_VT q2 hu
      have e5 : app1 u e = some out := by
        have : appAll u [e] = some out := e4.symm
        rw [appAll] at this
        cases ha : app1 u e with
        | none => rw [ha] at this; cases this
        | some w => rw [ha] at this; exact this
      have h5 := app1_last hvu e5
      have i1 := implRes_ex (t := out) (s := e.path) hpk
      rw [if_pos (validT_iff.2 q1), res] at i1
      refine Ex.guard (by omega) (Ex.be i1 ?_)
      by_cases hk1 : e.kind = 1
      · rw [if_pos hk1] at h5
        rw [h5]
        exact Ex.yes (decide_eq_true hk1) (Ex.ret rfl)
      · rw [if_neg hk1] at h5
        obtain ⟨j, h6, h7⟩ := h5
        have hj := ((resO_iff q1).1 h6).1
        rw [h6]
        have ho : oi (some j) = (j : Int) := rfl
        refine Ex.no (decide_eq_false hk1) (Ex.be (a := true) ?_ (Ex.ret rfl))
        refine Ex.yes (decide_eq_true (by omega)) (Ex.yes (decide_eq_true (by omega)) (Ex.guard (by omega) (Ex.ret ?_)))
        refine decide_eq_true ?_
        rw [ho, Int.toNat_natCast]
        exact h7

theorem law_FnApplyEditsNone (x0 : List Int) (h0 : x0.length ≤ 9223372036854775807 ∧ ∀ x ∈ x0, RC.wf .u8 x) : ∃ n, laws_FnApplyEditsNone n x0 = some true := by
  refine Ex.get ?_
  unfold laws_FnApplyEditsNone
  refine Ex.code rfl (fun hl => ?_)
  refine Ex.bind (drawEdits_ex (u8_wf h0.2) hl) ?_
  rintro ⟨x, l, k1, k2⟩ ⟨g, hlen, hp⟩
  simp only at g hlen hp ⊢
  have l1 := g.len
  have n1 := g.nl
  generalize hA : (x.drop k1).take k2 = t at *
  have hL := (applyR_NL (t := t) (l := l)).1
  refine Ex.be (implApplyAll_ex hp) (Ex.be (specApplyAll_ex n1 (by omega) hp) ?_)
  cases hR : applyR t l with
  | mk out ok =>
    rw [hR] at hL
    simp only at hL ⊢
    refine Ex.be (eqNodes_ex (by omega)) (Ex.be (Ex.no rfl (Ex.no (by simp) (Ex.be (implTree_ex t) (Ex.ret rfl)))) ?_)
    refine Ex.ite (fun _ => Ex.be (eqNodes_ex (by omega)) (Ex.ret (by simp))) (fun hb => ?_)
    have h := validT_iff.1 (notF hb)
    have i1 := implApplyAll_ex (t := t) (l := []) (by simp)
    rw [applyR_of h (by simp) (rfl : appAll t [] = some t)] at i1
    have i2 := implApplyAll_ex (t := t) (l := [⟨1, [47], 0⟩]) (by simp)
    have e0 : resO t [47] = some 0 := (resO_iff h).2 ⟨h.lo, by rw [np_zero h]; rfl⟩
    have e2 : applyR t [⟨1, [47], 0⟩] = ([], false) := by
      rw [applyR, if_pos (by rw [validT_iff.2 h]; rfl), appAll, app1, if_pos rfl, if_pos rfl, dropP, e0]
      rfl
    rw [e2] at i2
    refine Ex.be i1 (Ex.be i2 (Ex.be (a := true) ?_ (Ex.ret rfl)))
    exact Ex.yes rfl (Ex.be (eqNodes_ex (by show t.length < _; omega)) (Ex.yes rfl (Ex.ret rfl)))
end Go.Proofs.Ythlfcfcfipahiaa

/- Plain facts: the law FnExactApplyEdits. Conditions: none. -/
import Derived.Test.YthlfcfcfipahiaaVE1
import Derived.Test.YthlfcfcfipahiaaVP3
import Derived.Test.YthlfcfcfipahiaaLN
import Derived.Test.YthlfcfcfipahiaaLE
namespace Go.Proofs.Ythlfcfcfipahiaa
open Go
set_option linter.unusedVariables false
theorem law_FnExactApplyEdits (x0 : List Nod) (x1 : List Edt) (h0 : x0.length ≤ 9223372036854775807 ∧ ∀ x ∈ x0, RC.wf .nod x) (h1 : x1.length ≤ 9223372036854775807 ∧ ∀ x ∈ x1, RC.wf .edt x) : ∃ n, laws_FnExactApplyEdits n x0 x1 = some true := by
  refine Ex.get ?_
  unfold laws_FnExactApplyEdits
  refine Ex.szN rfl h0 (by omega) (by omega) (fun b hb0 hb1 hl hn => ?_)
  refine Ex.szE rfl h1 hb0 hb1 (fun _ _ _ hl1 hn1 => ?_)
  have a1 : ∀ {α : Type} {g : Nat → List Nod → Option α} {Q : α → Prop}, Ex (fun n => g n x0) Q → Ex (fun n => bindO (laws_toNodeS n x0) fun r => g n r) Q := fun k => Ex.be (toNod_ex (by omega)) k
  have a2 : ∀ {α : Type} {g : Nat → List Edt → Option α} {Q : α → Prop}, Ex (fun n => g n x1) Q → Ex (fun n => bindO (laws_toEditS n x1) fun r => g n r) Q := fun k => Ex.be (toEdt_ex (by omega)) k
  have hlr := (applyR_NL (t := x0) (l := x1)).1
  refine a1 (a2 (Ex.be (specApplyAll_ex hn (by omega) hn1.2) ?_))
  have hi := implApplyAll_ex (t := x0) hn1.2
  cases hR : applyR x0 x1 with
  | mk out ok =>
    rw [hR] at hlr hi
    simp only at hlr ⊢
    refine a1 (a2 (Ex.be hi ?_))
    refine Ex.be (eqNod_ex (by show out.length ≤ _; omega)) (Ex.no (by simp) ?_)
    refine a1 (Ex.be (eqNod_ex (by omega)) (Ex.no rfl (a2 (Ex.be (eqEdt_ex (by omega)) (Ex.no rfl ?_)))))
    refine Ex.bind (markNod_ex (by omega) (by omega) (by omega)) ?_
    rintro ⟨m1, i1⟩ ⟨q1, q2, _⟩
    simp only at q1 q2 ⊢
    refine Ex.guard q1.symm (Ex.bind (markEdt_ex (by omega) (by omega) (by omega)) ?_)
    rintro ⟨m2, i2⟩ ⟨r1, r2, _⟩
    simp only at r1 r2 ⊢
    refine Ex.guard r1.symm (Ex.be (Ex.no (decide_eq_false (by omega)) (Ex.be (eqNod_ex (by omega)) (Ex.no rfl (Ex.ret rfl)))) (Ex.no (by simp) ?_))
    refine Ex.bind (markNod_ex (by omega) (by omega) (by omega)) ?_
    rintro ⟨m3, i3⟩ ⟨s1, s2, s3⟩
    simp only at s1 s2 s3 ⊢
    refine Ex.guard s1.symm (Ex.be (heldNod_ex (by omega) (by omega) (by omega) s3) ?_)
    refine Ex.no (decide_eq_false (by omega)) (Ex.no (by rw [s1, s2]; simp) ?_)
    refine a1 (a2 (Ex.be hi ?_))
    refine Ex.be (eqNod_ex (by show out.length ≤ _; omega)) (Ex.no (by simp) ?_)
    refine Ex.be (heldNod_ex (by omega) (by omega) (by omega) s3) ?_
    exact Ex.no (decide_eq_false (by omega)) (Ex.no (by rw [s1, s2]; simp) (Ex.ret rfl))
end Go.Proofs.Ythlfcfcfipahiaa

/- Plain facts: the law FnExactShortLog. Conditions: none. -/
import Derived.Test.YtdkmgkeaebcobaaLD
import Derived.Test.YtdkmgkeaebcobaaLN
import Derived.Test.YtdkmgkeaebcobaaLRh
namespace Go.Proofs.Ytdkmgkeaebcobaa
open Go
theorem law_FnExactShortLog (x0 : List Nod) (x1 : List Rcd) (h0 : x0.length ≤ 9223372036854775807 ∧ ∀ x ∈ x0, RC.wf .nod x) (h1 : x1.length ≤ 9223372036854775807 ∧ ∀ x ∈ x1, RC.wf .rcd x) : ∃ n, laws_FnExactShortLog n x0 x1 = some true := by
  refine Ex.get ?_
  unfold laws_FnExactShortLog
  refine Ex.szN rfl h0 (by omega) (by omega) (fun b hb0 hb1 hl hn => ?_)
  refine Ex.szR rfl h1.1 hb0 hb1 (fun _ _ _ hl1 => ?_)
  have a1 : ∀ {α : Type} {g : Nat → List Nod → Option α} {Q : α → Prop}, Ex (fun n => g n x0) Q → Ex (fun n => bindO (laws_toNodeS n x0) fun r => g n r) Q := fun k => Ex.be (toNod_ex (by omega)) k
  have a2 : ∀ {α : Type} {g : Nat → List Rcd → Option α} {Q : α → Prop}, Ex (fun n => g n x1) Q → Ex (fun n => bindO (laws_toRecordS n x1) fun r => g n r) Q := fun k => Ex.be (toRec_ex (by omega)) k
  have hlr : (shortR x0 x1).length ≤ x1.length := by
    unfold shortR
    split
    · exact short_len _ _
    · simp
  refine a1 (a2 (Ex.be (specShort_ex hn (by omega) (by omega)) (a1 (a2 (Ex.be (implShort_ex x0) (Ex.be (eqRec_ex (by omega)) (Ex.no rfl ?_)))))))
  refine a1 (Ex.be (eqNod_ex (by omega)) (Ex.no rfl (a2 (Ex.be (eqRec_ex (by omega)) (Ex.no rfl ?_)))))
  refine Ex.bind (markNod_ex (by omega) (by omega) (by omega)) ?_
  rintro ⟨m1, i1⟩ ⟨q1, q2, _⟩
  simp only at q1 q2 ⊢
  refine Ex.guard q1.symm (Ex.bind (markRec_ex (by omega) (by omega) (by omega)) ?_)
  rintro ⟨m2, i2⟩ ⟨r1, r2, _⟩
  simp only at r1 r2 ⊢
  refine Ex.guard r1.symm (Ex.be (Ex.no (decide_eq_false (by omega)) (Ex.be (eqRec_ex (by omega)) (Ex.ret rfl))) (Ex.no rfl ?_))
  refine Ex.bind (markRec_ex (by omega) (by omega) (by omega)) ?_
  rintro ⟨m3, i3⟩ ⟨s1, s2, s3⟩
  simp only at s1 s2 s3 ⊢
  refine Ex.guard s1.symm (Ex.be (heldRec_ex (by omega) (by omega) (by omega) s3) ?_)
  refine Ex.no (decide_eq_false (by omega)) (Ex.no (by rw [s1, s2]; simp) ?_)
  refine a1 (a2 (Ex.be (implShort_ex x0) (Ex.be (eqRec_ex (by omega)) (Ex.no rfl ?_))))
  refine Ex.be (heldRec_ex (by omega) (by omega) (by omega) s3) ?_
  exact Ex.no (decide_eq_false (by omega)) (Ex.no (by rw [s1, s2]; simp) (Ex.ret rfl))
end Go.Proofs.Ytdkmgkeaebcobaa

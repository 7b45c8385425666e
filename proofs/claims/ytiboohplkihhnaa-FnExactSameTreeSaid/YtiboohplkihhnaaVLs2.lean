/- Plain facts: the law FnExactSameTree. Conditions: none. -/
import Derived.Test.YtiboohplkihhnaaVP2
import Derived.Test.YtiboohplkihhnaaLNa
namespace Go.Proofs.Ytiboohplkihhnaa
open Go
set_option linter.unusedVariables false
theorem law_FnExactSameTree (x0 : List Nod) (x1 : List Nod) (h0 : x0.length ≤ 9223372036854775807 ∧ ∀ x ∈ x0, RC.wf .nod x) (h1 : x1.length ≤ 9223372036854775807 ∧ ∀ x ∈ x1, RC.wf .nod x) : ∃ n, laws_FnExactSameTree n x0 x1 = some true := by
  refine Ex.get ?_
  unfold laws_FnExactSameTree
  refine Ex.szN rfl h0 (by omega) (by omega) (fun b hb0 hb1 hl hn => ?_)
  refine Ex.szN rfl h1 hb0 hb1 (fun _ _ _ hl1 hn1 => ?_)
  have a1 : ∀ {α : Type} {g : Nat → List Nod → Option α} {Q : α → Prop}, Ex (fun n => g n x0) Q → Ex (fun n => bindO (laws_toNodeS n x0) fun r => g n r) Q := fun k => Ex.be (toNod_ex (by omega)) k
  have a2 : ∀ {α : Type} {g : Nat → List Nod → Option α} {Q : α → Prop}, Ex (fun n => g n x1) Q → Ex (fun n => bindO (laws_toNodeS n x1) fun r => g n r) Q := fun k => Ex.be (toNod_ex (by omega)) k
  refine a1 (a2 (Ex.be (specSame_ex hn hn1 (by omega) (by omega)) (a1 (a2 (Ex.be (implSame_ex (by omega)) (Ex.no (by simp) ?_))))))
  exact a1 (Ex.be (eqNod_ex (by omega)) (Ex.no rfl (a2 (Ex.be (eqNod_ex (by omega)) (Ex.no rfl (Ex.ret rfl))))))
end Go.Proofs.Ytiboohplkihhnaa

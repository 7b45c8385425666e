import Derived.Test.YtdkmgkeaebcobaaTT1
namespace Go.Proofs.Ytdkmgkeaebcobaa
open Go
set_option linter.unusedVariables false
/- laws.markRecordS -/
def laws_markRecordS_L1 (k2 : Nat) : Nat → (List Rcd) → Int → Int → Option (((List Rcd) × Int))
| 0, _, _, _ => none
| n + 1, x73, i74, i75 =>
 iteO (decide (i75 < ((k2 : Nat) : Int)))
 (guardO (0 ≤ i75 ∧ i75 < ((k2 : Nat) : Int)) <|
 guardO (0 ≤ i75 ∧ i75 < ((k2 : Nat) : Int)) <|
 guardO (0 ≤ i75 ∧ i75 < ((k2 : Nat) : Int)) <|
 guardO (0 ≤ i75 ∧ i75 < ((k2 : Nat) : Int)) <|
 laws_markRecordS_L1 k2 n ((((x73.set i75.toNat (⟨i74, (x73.getD i75.toNat drcd).node, (x73.getD i75.toNat drcd).value, (x73.getD i75.toNat drcd).fin⟩ : Rcd)).set i75.toNat (⟨((x73.set i75.toNat (⟨i74, (x73.getD i75.toNat drcd).node, (x73.getD i75.toNat drcd).value, (x73.getD i75.toNat drcd).fin⟩ : Rcd)).getD i75.toNat drcd).who, (w64 (i74 + 1)), ((x73.set i75.toNat (⟨i74, (x73.getD i75.toNat drcd).node, (x73.getD i75.toNat drcd).value, (x73.getD i75.toNat drcd).fin⟩ : Rcd)).getD i75.toNat drcd).value, ((x73.set i75.toNat (⟨i74, (x73.getD i75.toNat drcd).node, (x73.getD i75.toNat drcd).value, (x73.getD i75.toNat drcd).fin⟩ : Rcd)).getD i75.toNat drcd).fin⟩ : Rcd)).set i75.toNat (⟨(((x73.set i75.toNat (⟨i74, (x73.getD i75.toNat drcd).node, (x73.getD i75.toNat drcd).value, (x73.getD i75.toNat drcd).fin⟩ : Rcd)).set i75.toNat (⟨((x73.set i75.toNat (⟨i74, (x73.getD i75.toNat drcd).node, (x73.getD i75.toNat drcd).value, (x73.getD i75.toNat drcd).fin⟩ : Rcd)).getD i75.toNat drcd).who, (w64 (i74 + 1)), ((x73.set i75.toNat (⟨i74, (x73.getD i75.toNat drcd).node, (x73.getD i75.toNat drcd).value, (x73.getD i75.toNat drcd).fin⟩ : Rcd)).getD i75.toNat drcd).value, ((x73.set i75.toNat (⟨i74, (x73.getD i75.toNat drcd).node, (x73.getD i75.toNat drcd).value, (x73.getD i75.toNat drcd).fin⟩ : Rcd)).getD i75.toNat drcd).fin⟩ : Rcd)).getD i75.toNat drcd).who, (((x73.set i75.toNat (⟨i74, (x73.getD i75.toNat drcd).node, (x73.getD i75.toNat drcd).value, (x73.getD i75.toNat drcd).fin⟩ : Rcd)).set i75.toNat (⟨((x73.set i75.toNat (⟨i74, (x73.getD i75.toNat drcd).node, (x73.getD i75.toNat drcd).value, (x73.getD i75.toNat drcd).fin⟩ : Rcd)).getD i75.toNat drcd).who, (w64 (i74 + 1)), ((x73.set i75.toNat (⟨i74, (x73.getD i75.toNat drcd).node, (x73.getD i75.toNat drcd).value, (x73.getD i75.toNat drcd).fin⟩ : Rcd)).getD i75.toNat drcd).value, ((x73.set i75.toNat (⟨i74, (x73.getD i75.toNat drcd).node, (x73.getD i75.toNat drcd).value, (x73.getD i75.toNat drcd).fin⟩ : Rcd)).getD i75.toNat drcd).fin⟩ : Rcd)).getD i75.toNat drcd).node, (w64 ((w64 (i74 + 1)) + 1)), (((x73.set i75.toNat (⟨i74, (x73.getD i75.toNat drcd).node, (x73.getD i75.toNat drcd).value, (x73.getD i75.toNat drcd).fin⟩ : Rcd)).set i75.toNat (⟨((x73.set i75.toNat (⟨i74, (x73.getD i75.toNat drcd).node, (x73.getD i75.toNat drcd).value, (x73.getD i75.toNat drcd).fin⟩ : Rcd)).getD i75.toNat drcd).who, (w64 (i74 + 1)), ((x73.set i75.toNat (⟨i74, (x73.getD i75.toNat drcd).node, (x73.getD i75.toNat drcd).value, (x73.getD i75.toNat drcd).fin⟩ : Rcd)).getD i75.toNat drcd).value, ((x73.set i75.toNat (⟨i74, (x73.getD i75.toNat drcd).node, (x73.getD i75.toNat drcd).value, (x73.getD i75.toNat drcd).fin⟩ : Rcd)).getD i75.toNat drcd).fin⟩ : Rcd)).getD i75.toNat drcd).fin⟩ : Rcd)).set i75.toNat (⟨((((x73.set i75.toNat (⟨i74, (x73.getD i75.toNat drcd).node, (x73.getD i75.toNat drcd).value, (x73.getD i75.toNat drcd).fin⟩ : Rcd)).set i75.toNat (⟨((x73.set i75.toNat (⟨i74, (x73.getD i75.toNat drcd).node, (x73.getD i75.toNat drcd).value, (x73.getD i75.toNat drcd).fin⟩ : Rcd)).getD i75.toNat drcd).who, (w64 (i74 + 1)), ((x73.set i75.toNat (⟨i74, (x73.getD i75.toNat drcd).node, (x73.getD i75.toNat drcd).value, (x73.getD i75.toNat drcd).fin⟩ : Rcd)).getD i75.toNat drcd).value, ((x73.set i75.toNat (⟨i74, (x73.getD i75.toNat drcd).node, (x73.getD i75.toNat drcd).value, (x73.getD i75.toNat drcd).fin⟩ : Rcd)).getD i75.toNat drcd).fin⟩ : Rcd)).set i75.toNat (⟨(((x73.set i75.toNat (⟨i74, (x73.getD i75.toNat drcd).node, (x73.getD i75.toNat drcd).value, (x73.getD i75.toNat drcd).fin⟩ : Rcd)).set i75.toNat (⟨((x73.set i75.toNat (⟨i74, (x73.getD i75.toNat drcd).node, (x73.getD i75.toNat drcd).value, (x73.getD i75.toNat drcd).fin⟩ : Rcd)).getD i75.toNat drcd).who, (w64 (i74 + 1)), ((x73.set i75.toNat (⟨i74, (x73.getD i75.toNat drcd).node, (x73.getD i75.toNat drcd).value, (x73.getD i75.toNat drcd).fin⟩ : Rcd)).getD i75.toNat drcd).value, ((x73.set i75.toNat (⟨i74, (x73.getD i75.toNat drcd).node, (x73.getD i75.toNat drcd).value, (x73.getD i75.toNat drcd).fin⟩ : Rcd)).getD i75.toNat drcd).fin⟩ : Rcd)).getD i75.toNat drcd).who, (((x73.set i75.toNat (⟨i74, (x73.getD i75.toNat drcd).node, (x73.getD i75.toNat drcd).value, (x73.getD i75.toNat drcd).fin⟩ : Rcd)).set i75.toNat (⟨((x73.set i75.toNat (⟨i74, (x73.getD i75.toNat drcd).node, (x73.getD i75.toNat drcd).value, (x73.getD i75.toNat drcd).fin⟩ : Rcd)).getD i75.toNat drcd).who, (w64 (i74 + 1)), ((x73.set i75.toNat (⟨i74, (x73.getD i75.toNat drcd).node, (x73.getD i75.toNat drcd).value, (x73.getD i75.toNat drcd).fin⟩ : Rcd)).getD i75.toNat drcd).value, ((x73.set i75.toNat (⟨i74, (x73.getD i75.toNat drcd).node, (x73.getD i75.toNat drcd).value, (x73.getD i75.toNat drcd).fin⟩ : Rcd)).getD i75.toNat drcd).fin⟩ : Rcd)).getD i75.toNat drcd).node, (w64 ((w64 (i74 + 1)) + 1)), (((x73.set i75.toNat (⟨i74, (x73.getD i75.toNat drcd).node, (x73.getD i75.toNat drcd).value, (x73.getD i75.toNat drcd).fin⟩ : Rcd)).set i75.toNat (⟨((x73.set i75.toNat (⟨i74, (x73.getD i75.toNat drcd).node, (x73.getD i75.toNat drcd).value, (x73.getD i75.toNat drcd).fin⟩ : Rcd)).getD i75.toNat drcd).who, (w64 (i74 + 1)), ((x73.set i75.toNat (⟨i74, (x73.getD i75.toNat drcd).node, (x73.getD i75.toNat drcd).value, (x73.getD i75.toNat drcd).fin⟩ : Rcd)).getD i75.toNat drcd).value, ((x73.set i75.toNat (⟨i74, (x73.getD i75.toNat drcd).node, (x73.getD i75.toNat drcd).value, (x73.getD i75.toNat drcd).fin⟩ : Rcd)).getD i75.toNat drcd).fin⟩ : Rcd)).getD i75.toNat drcd).fin⟩ : Rcd)).getD i75.toNat drcd).who, ((((x73.set i75.toNat (⟨i74, (x73.getD i75.toNat drcd).node, (x73.getD i75.toNat drcd).value, (x73.getD i75.toNat drcd).fin⟩ : Rcd)).set i75.toNat (⟨((x73.set i75.toNat (⟨i74, (x73.getD i75.toNat drcd).node, (x73.getD i75.toNat drcd).value, (x73.getD i75.toNat drcd).fin⟩ : Rcd)).getD i75.toNat drcd).who, (w64 (i74 + 1)), ((x73.set i75.toNat (⟨i74, (x73.getD i75.toNat drcd).node, (x73.getD i75.toNat drcd).value, (x73.getD i75.toNat drcd).fin⟩ : Rcd)).getD i75.toNat drcd).value, ((x73.set i75.toNat (⟨i74, (x73.getD i75.toNat drcd).node, (x73.getD i75.toNat drcd).value, (x73.getD i75.toNat drcd).fin⟩ : Rcd)).getD i75.toNat drcd).fin⟩ : Rcd)).set i75.toNat (⟨(((x73.set i75.toNat (⟨i74, (x73.getD i75.toNat drcd).node, (x73.getD i75.toNat drcd).value, (x73.getD i75.toNat drcd).fin⟩ : Rcd)).set i75.toNat (⟨((x73.set i75.toNat (⟨i74, (x73.getD i75.toNat drcd).node, (x73.getD i75.toNat drcd).value, (x73.getD i75.toNat drcd).fin⟩ : Rcd)).getD i75.toNat drcd).who, (w64 (i74 + 1)), ((x73.set i75.toNat (⟨i74, (x73.getD i75.toNat drcd).node, (x73.getD i75.toNat drcd).value, (x73.getD i75.toNat drcd).fin⟩ : Rcd)).getD i75.toNat drcd).value, ((x73.set i75.toNat (⟨i74, (x73.getD i75.toNat drcd).node, (x73.getD i75.toNat drcd).value, (x73.getD i75.toNat drcd).fin⟩ : Rcd)).getD i75.toNat drcd).fin⟩ : Rcd)).getD i75.toNat drcd).who, (((x73.set i75.toNat (⟨i74, (x73.getD i75.toNat drcd).node, (x73.getD i75.toNat drcd).value, (x73.getD i75.toNat drcd).fin⟩ : Rcd)).set i75.toNat (⟨((x73.set i75.toNat (⟨i74, (x73.getD i75.toNat drcd).node, (x73.getD i75.toNat drcd).value, (x73.getD i75.toNat drcd).fin⟩ : Rcd)).getD i75.toNat drcd).who, (w64 (i74 + 1)), ((x73.set i75.toNat (⟨i74, (x73.getD i75.toNat drcd).node, (x73.getD i75.toNat drcd).value, (x73.getD i75.toNat drcd).fin⟩ : Rcd)).getD i75.toNat drcd).value, ((x73.set i75.toNat (⟨i74, (x73.getD i75.toNat drcd).node, (x73.getD i75.toNat drcd).value, (x73.getD i75.toNat drcd).fin⟩ : Rcd)).getD i75.toNat drcd).fin⟩ : Rcd)).getD i75.toNat drcd).node, (w64 ((w64 (i74 + 1)) + 1)), (((x73.set i75.toNat (⟨i74, (x73.getD i75.toNat drcd).node, (x73.getD i75.toNat drcd).value, (x73.getD i75.toNat drcd).fin⟩ : Rcd)).set i75.toNat (⟨((x73.set i75.toNat (⟨i74, (x73.getD i75.toNat drcd).node, (x73.getD i75.toNat drcd).value, (x73.getD i75.toNat drcd).fin⟩ : Rcd)).getD i75.toNat drcd).who, (w64 (i74 + 1)), ((x73.set i75.toNat (⟨i74, (x73.getD i75.toNat drcd).node, (x73.getD i75.toNat drcd).value, (x73.getD i75.toNat drcd).fin⟩ : Rcd)).getD i75.toNat drcd).value, ((x73.set i75.toNat (⟨i74, (x73.getD i75.toNat drcd).node, (x73.getD i75.toNat drcd).value, (x73.getD i75.toNat drcd).fin⟩ : Rcd)).getD i75.toNat drcd).fin⟩ : Rcd)).getD i75.toNat drcd).fin⟩ : Rcd)).getD i75.toNat drcd).node, ((((x73.set i75.toNat (⟨i74, (x73.getD i75.toNat drcd).node, (x73.getD i75.toNat drcd).value, (x73.getD i75.toNat drcd).fin⟩ : Rcd)).set i75.toNat (⟨((x73.set i75.toNat (⟨i74, (x73.getD i75.toNat drcd).node, (x73.getD i75.toNat drcd).value, (x73.getD i75.toNat drcd).fin⟩ : Rcd)).getD i75.toNat drcd).who, (w64 (i74 + 1)), ((x73.set i75.toNat (⟨i74, (x73.getD i75.toNat drcd).node, (x73.getD i75.toNat drcd).value, (x73.getD i75.toNat drcd).fin⟩ : Rcd)).getD i75.toNat drcd).value, ((x73.set i75.toNat (⟨i74, (x73.getD i75.toNat drcd).node, (x73.getD i75.toNat drcd).value, (x73.getD i75.toNat drcd).fin⟩ : Rcd)).getD i75.toNat drcd).fin⟩ : Rcd)).set i75.toNat (⟨(((x73.set i75.toNat (⟨i74, (x73.getD i75.toNat drcd).node, (x73.getD i75.toNat drcd).value, (x73.getD i75.toNat drcd).fin⟩ : Rcd)).set i75.toNat (⟨((x73.set i75.toNat (⟨i74, (x73.getD i75.toNat drcd).node, (x73.getD i75.toNat drcd).value, (x73.getD i75.toNat drcd).fin⟩ : Rcd)).getD i75.toNat drcd).who, (w64 (i74 + 1)), ((x73.set i75.toNat (⟨i74, (x73.getD i75.toNat drcd).node, (x73.getD i75.toNat drcd).value, (x73.getD i75.toNat drcd).fin⟩ : Rcd)).getD i75.toNat drcd).value, ((x73.set i75.toNat (⟨i74, (x73.getD i75.toNat drcd).node, (x73.getD i75.toNat drcd).value, (x73.getD i75.toNat drcd).fin⟩ : Rcd)).getD i75.toNat drcd).fin⟩ : Rcd)).getD i75.toNat drcd).who, (((x73.set i75.toNat (⟨i74, (x73.getD i75.toNat drcd).node, (x73.getD i75.toNat drcd).value, (x73.getD i75.toNat drcd).fin⟩ : Rcd)).set i75.toNat (⟨((x73.set i75.toNat (⟨i74, (x73.getD i75.toNat drcd).node, (x73.getD i75.toNat drcd).value, (x73.getD i75.toNat drcd).fin⟩ : Rcd)).getD i75.toNat drcd).who, (w64 (i74 + 1)), ((x73.set i75.toNat (⟨i74, (x73.getD i75.toNat drcd).node, (x73.getD i75.toNat drcd).value, (x73.getD i75.toNat drcd).fin⟩ : Rcd)).getD i75.toNat drcd).value, ((x73.set i75.toNat (⟨i74, (x73.getD i75.toNat drcd).node, (x73.getD i75.toNat drcd).value, (x73.getD i75.toNat drcd).fin⟩ : Rcd)).getD i75.toNat drcd).fin⟩ : Rcd)).getD i75.toNat drcd).node, (w64 ((w64 (i74 + 1)) + 1)), (((x73.set i75.toNat (⟨i74, (x73.getD i75.toNat drcd).node, (x73.getD i75.toNat drcd).value, (x73.getD i75.toNat drcd).fin⟩ : Rcd)).set i75.toNat (⟨((x73.set i75.toNat (⟨i74, (x73.getD i75.toNat drcd).node, (x73.getD i75.toNat drcd).value, (x73.getD i75.toNat drcd).fin⟩ : Rcd)).getD i75.toNat drcd).who, (w64 (i74 + 1)), ((x73.set i75.toNat (⟨i74, (x73.getD i75.toNat drcd).node, (x73.getD i75.toNat drcd).value, (x73.getD i75.toNat drcd).fin⟩ : Rcd)).getD i75.toNat drcd).value, ((x73.set i75.toNat (⟨i74, (x73.getD i75.toNat drcd).node, (x73.getD i75.toNat drcd).value, (x73.getD i75.toNat drcd).fin⟩ : Rcd)).getD i75.toNat drcd).fin⟩ : Rcd)).getD i75.toNat drcd).fin⟩ : Rcd)).getD i75.toNat drcd).value, (decide (((w64 ((w64 ((w64 (i74 + 1)) + 1)) + 1)).tmod 3) = 0))⟩ : Rcd)) (w64 ((w64 ((w64 ((w64 (i74 + 1)) + 1)) + 1)) + 1)) (w64 (i75 + 1)))
 (some (x73, i74))

theorem laws_markRecordS_L1_ok (w : World) (X : Nat → Prop) (θ : List Loc) (k2 : Nat) (v : ((List Rcd) × Int)) : ∀ (n : Nat) (x73 : List Rcd) (i74 : Int) (i75 : Int), laws_markRecordS_L1 k2 n x73 i74 i75 = some v → WL EE ⟨w, X, θ, 43, 1⟩ (subC [1, 0, 1, 4, 4] (bodyC Try.f33)) (fun (e : Exit) (s : St) => (match v with | (x89, i90) => e = .exit 0 ∧ s = ⟨[(1, I i90)], [.row .rcd x89 true]⟩ : Prop)) ⟨[(0, .one (.e (.sl 0 0 k2))), (1, I i74), (5, I i75)], [.row .rcd x73 true]⟩ := by
  intro n
  induction n with
  | zero => intro _ _ _ h; exact none_e h
  | succ n ih =>
    intro x73 i74 i75 h
    rw [laws_markRecordS_L1] at h
    refine WL_round ?_
    refine W_seq ?_
    refine W_seq ?_
    refine W_region ?_
    refine WO_step 4 [0] [0, 1, 5, 9] (True ∧ (True ∧ True)) ⟨[(0, .one (.e (.sl 0 0 k2))), (1, I i74), (5, I i75), (9, B (decide (i75 < ((k2 : Nat) : Int))))], [.row .rcd x73 true]⟩ (by kernel_rfl) ⟨trivial, trivial, trivial⟩ ?_
    refine WO_nil rfl ?_
    refine thenS_n ?_
    refine iteO_e h (fun hb93 h => W_true rfl hb93 ?_) (fun hb93 h => W_false rfl hb93 ?_)
    · refine W_sub [0] [0, 1, 5] (st' := ⟨[(0, .one (.e (.sl 0 0 k2))), (1, I i74), (5, I i75)], [.row .rcd x73 true]⟩) (by kernel_rfl) ?_
      refine W_skip ?_
      refine thenS_n ?_
      refine W_seq ?_
      refine W_block ?_
      refine W_seq ?_
      refine W_region ?_
      refine guardO_e h (fun hg98 h => ?_)
      refine WO_step 6 [0] [0, 1, 5] ((0 ≤ i75 ∧ i75 < ((k2 : Nat) : Int)) ∧ (True ∧ True)) ⟨[(0, .one (.e (.sl 0 0 k2))), (1, I i74), (5, I i75)], [.row .rcd (x73.set i75.toNat (⟨i74, (x73.getD i75.toNat drcd).node, (x73.getD i75.toNat drcd).value, (x73.getD i75.toNat drcd).fin⟩ : Rcd)) true]⟩ (by kernel_rfl) ⟨hg98, trivial, trivial⟩ ?_
      refine WO_nil rfl ?_
      refine thenS_n ?_
      refine W_seq ?_
      refine W_region ?_
      refine WO_step 3 [0] [0, 1, 5] (True ∧ True) ⟨[(0, .one (.e (.sl 0 0 k2))), (1, I (w64 (i74 + 1))), (5, I i75)], [.row .rcd (x73.set i75.toNat (⟨i74, (x73.getD i75.toNat drcd).node, (x73.getD i75.toNat drcd).value, (x73.getD i75.toNat drcd).fin⟩ : Rcd)) true]⟩ (by kernel_rfl) ⟨trivial, trivial⟩ ?_
      refine WO_nil rfl ?_
      refine thenS_n ?_
      refine W_seq ?_
      refine W_region ?_
      refine guardO_e h (fun hg99 h => ?_)
      refine WO_step 6 [0] [0, 1, 5] ((0 ≤ i75 ∧ i75 < ((k2 : Nat) : Int)) ∧ (True ∧ True)) ⟨[(0, .one (.e (.sl 0 0 k2))), (1, I (w64 (i74 + 1))), (5, I i75)], [.row .rcd ((x73.set i75.toNat (⟨i74, (x73.getD i75.toNat drcd).node, (x73.getD i75.toNat drcd).value, (x73.getD i75.toNat drcd).fin⟩ : Rcd)).set i75.toNat (⟨((x73.set i75.toNat (⟨i74, (x73.getD i75.toNat drcd).node, (x73.getD i75.toNat drcd).value, (x73.getD i75.toNat drcd).fin⟩ : Rcd)).getD i75.toNat drcd).who, (w64 (i74 + 1)), ((x73.set i75.toNat (⟨i74, (x73.getD i75.toNat drcd).node, (x73.getD i75.toNat drcd).value, (x73.getD i75.toNat drcd).fin⟩ : Rcd)).getD i75.toNat drcd).value, ((x73.set i75.toNat (⟨i74, (x73.getD i75.toNat drcd).node, (x73.getD i75.toNat drcd).value, (x73.getD i75.toNat drcd).fin⟩ : Rcd)).getD i75.toNat drcd).fin⟩ : Rcd)) true]⟩ (by kernel_rfl) ⟨hg99, trivial, trivial⟩ ?_
      refine WO_nil rfl ?_
      refine thenS_n ?_
      refine W_seq ?_
      refine W_region ?_
      refine WO_step 3 [0] [0, 1, 5] (True ∧ True) ⟨[(0, .one (.e (.sl 0 0 k2))), (1, I (w64 ((w64 (i74 + 1)) + 1))), (5, I i75)], [.row .rcd ((x73.set i75.toNat (⟨i74, (x73.getD i75.toNat drcd).node, (x73.getD i75.toNat drcd).value, (x73.getD i75.toNat drcd).fin⟩ : Rcd)).set i75.toNat (⟨((x73.set i75.toNat (⟨i74, (x73.getD i75.toNat drcd).node, (x73.getD i75.toNat drcd).value, (x73.getD i75.toNat drcd).fin⟩ : Rcd)).getD i75.toNat drcd).who, (w64 (i74 + 1)), ((x73.set i75.toNat (⟨i74, (x73.getD i75.toNat drcd).node, (x73.getD i75.toNat drcd).value, (x73.getD i75.toNat drcd).fin⟩ : Rcd)).getD i75.toNat drcd).value, ((x73.set i75.toNat (⟨i74, (x73.getD i75.toNat drcd).node, (x73.getD i75.toNat drcd).value, (x73.getD i75.toNat drcd).fin⟩ : Rcd)).getD i75.toNat drcd).fin⟩ : Rcd)) true]⟩ (by kernel_rfl) ⟨trivial, trivial⟩ ?_
      refine WO_nil rfl ?_
      refine thenS_n ?_
      refine W_seq ?_
      refine W_region ?_
      refine guardO_e h (fun hg100 h => ?_)
      refine WO_step 6 [0] [0, 1, 5] ((0 ≤ i75 ∧ i75 < ((k2 : Nat) : Int)) ∧ (True ∧ True)) ⟨[(0, .one (.e (.sl 0 0 k2))), (1, I (w64 ((w64 (i74 + 1)) + 1))), (5, I i75)], [.row .rcd (((x73.set i75.toNat (⟨i74, (x73.getD i75.toNat drcd).node, (x73.getD i75.toNat drcd).value, (x73.getD i75.toNat drcd).fin⟩ : Rcd)).set i75.toNat (⟨((x73.set i75.toNat (⟨i74, (x73.getD i75.toNat drcd).node, (x73.getD i75.toNat drcd).value, (x73.getD i75.toNat drcd).fin⟩ : Rcd)).getD i75.toNat drcd).who, (w64 (i74 + 1)), ((x73.set i75.toNat (⟨i74, (x73.getD i75.toNat drcd).node, (x73.getD i75.toNat drcd).value, (x73.getD i75.toNat drcd).fin⟩ : Rcd)).getD i75.toNat drcd).value, ((x73.set i75.toNat (⟨i74, (x73.getD i75.toNat drcd).node, (x73.getD i75.toNat drcd).value, (x73.getD i75.toNat drcd).fin⟩ : Rcd)).getD i75.toNat drcd).fin⟩ : Rcd)).set i75.toNat (⟨(((x73.set i75.toNat (⟨i74, (x73.getD i75.toNat drcd).node, (x73.getD i75.toNat drcd).value, (x73.getD i75.toNat drcd).fin⟩ : Rcd)).set i75.toNat (⟨((x73.set i75.toNat (⟨i74, (x73.getD i75.toNat drcd).node, (x73.getD i75.toNat drcd).value, (x73.getD i75.toNat drcd).fin⟩ : Rcd)).getD i75.toNat drcd).who, (w64 (i74 + 1)), ((x73.set i75.toNat (⟨i74, (x73.getD i75.toNat drcd).node, (x73.getD i75.toNat drcd).value, (x73.getD i75.toNat drcd).fin⟩ : Rcd)).getD i75.toNat drcd).value, ((x73.set i75.toNat (⟨i74, (x73.getD i75.toNat drcd).node, (x73.getD i75.toNat drcd).value, (x73.getD i75.toNat drcd).fin⟩ : Rcd)).getD i75.toNat drcd).fin⟩ : Rcd)).getD i75.toNat drcd).who, (((x73.set i75.toNat (⟨i74, (x73.getD i75.toNat drcd).node, (x73.getD i75.toNat drcd).value, (x73.getD i75.toNat drcd).fin⟩ : Rcd)).set i75.toNat (⟨((x73.set i75.toNat (⟨i74, (x73.getD i75.toNat drcd).node, (x73.getD i75.toNat drcd).value, (x73.getD i75.toNat drcd).fin⟩ : Rcd)).getD i75.toNat drcd).who, (w64 (i74 + 1)), ((x73.set i75.toNat (⟨i74, (x73.getD i75.toNat drcd).node, (x73.getD i75.toNat drcd).value, (x73.getD i75.toNat drcd).fin⟩ : Rcd)).getD i75.toNat drcd).value, ((x73.set i75.toNat (⟨i74, (x73.getD i75.toNat drcd).node, (x73.getD i75.toNat drcd).value, (x73.getD i75.toNat drcd).fin⟩ : Rcd)).getD i75.toNat drcd).fin⟩ : Rcd)).getD i75.toNat drcd).node, (w64 ((w64 (i74 + 1)) + 1)), (((x73.set i75.toNat (⟨i74, (x73.getD i75.toNat drcd).node, (x73.getD i75.toNat drcd).value, (x73.getD i75.toNat drcd).fin⟩ : Rcd)).set i75.toNat (⟨((x73.set i75.toNat (⟨i74, (x73.getD i75.toNat drcd).node, (x73.getD i75.toNat drcd).value, (x73.getD i75.toNat drcd).fin⟩ : Rcd)).getD i75.toNat drcd).who, (w64 (i74 + 1)), ((x73.set i75.toNat (⟨i74, (x73.getD i75.toNat drcd).node, (x73.getD i75.toNat drcd).value, (x73.getD i75.toNat drcd).fin⟩ : Rcd)).getD i75.toNat drcd).value, ((x73.set i75.toNat (⟨i74, (x73.getD i75.toNat drcd).node, (x73.getD i75.toNat drcd).value, (x73.getD i75.toNat drcd).fin⟩ : Rcd)).getD i75.toNat drcd).fin⟩ : Rcd)).getD i75.toNat drcd).fin⟩ : Rcd)) true]⟩ (by kernel_rfl) ⟨hg100, trivial, trivial⟩ ?_
      refine WO_nil rfl ?_
      refine thenS_n ?_
      refine W_seq ?_
      refine W_region ?_
      refine WO_step 3 [0] [0, 1, 5] (True ∧ True) ⟨[(0, .one (.e (.sl 0 0 k2))), (1, I (w64 ((w64 ((w64 (i74 + 1)) + 1)) + 1))), (5, I i75)], [.row .rcd (((x73.set i75.toNat (⟨i74, (x73.getD i75.toNat drcd).node, (x73.getD i75.toNat drcd).value, (x73.getD i75.toNat drcd).fin⟩ : Rcd)).set i75.toNat (⟨((x73.set i75.toNat (⟨i74, (x73.getD i75.toNat drcd).node, (x73.getD i75.toNat drcd).value, (x73.getD i75.toNat drcd).fin⟩ : Rcd)).getD i75.toNat drcd).who, (w64 (i74 + 1)), ((x73.set i75.toNat (⟨i74, (x73.getD i75.toNat drcd).node, (x73.getD i75.toNat drcd).value, (x73.getD i75.toNat drcd).fin⟩ : Rcd)).getD i75.toNat drcd).value, ((x73.set i75.toNat (⟨i74, (x73.getD i75.toNat drcd).node, (x73.getD i75.toNat drcd).value, (x73.getD i75.toNat drcd).fin⟩ : Rcd)).getD i75.toNat drcd).fin⟩ : Rcd)).set i75.toNat (⟨(((x73.set i75.toNat (⟨i74, (x73.getD i75.toNat drcd).node, (x73.getD i75.toNat drcd).value, (x73.getD i75.toNat drcd).fin⟩ : Rcd)).set i75.toNat (⟨((x73.set i75.toNat (⟨i74, (x73.getD i75.toNat drcd).node, (x73.getD i75.toNat drcd).value, (x73.getD i75.toNat drcd).fin⟩ : Rcd)).getD i75.toNat drcd).who, (w64 (i74 + 1)), ((x73.set i75.toNat (⟨i74, (x73.getD i75.toNat drcd).node, (x73.getD i75.toNat drcd).value, (x73.getD i75.toNat drcd).fin⟩ : Rcd)).getD i75.toNat drcd).value, ((x73.set i75.toNat (⟨i74, (x73.getD i75.toNat drcd).node, (x73.getD i75.toNat drcd).value, (x73.getD i75.toNat drcd).fin⟩ : Rcd)).getD i75.toNat drcd).fin⟩ : Rcd)).getD i75.toNat drcd).who, (((x73.set i75.toNat (⟨i74, (x73.getD i75.toNat drcd).node, (x73.getD i75.toNat drcd).value, (x73.getD i75.toNat drcd).fin⟩ : Rcd)).set i75.toNat (⟨((x73.set i75.toNat (⟨i74, (x73.getD i75.toNat drcd).node, (x73.getD i75.toNat drcd).value, (x73.getD i75.toNat drcd).fin⟩ : Rcd)).getD i75.toNat drcd).who, (w64 (i74 + 1)), ((x73.set i75.toNat (⟨i74, (x73.getD i75.toNat drcd).node, (x73.getD i75.toNat drcd).value, (x73.getD i75.toNat drcd).fin⟩ : Rcd)).getD i75.toNat drcd).value, ((x73.set i75.toNat (⟨i74, (x73.getD i75.toNat drcd).node, (x73.getD i75.toNat drcd).value, (x73.getD i75.toNat drcd).fin⟩ : Rcd)).getD i75.toNat drcd).fin⟩ : Rcd)).getD i75.toNat drcd).node, (w64 ((w64 (i74 + 1)) + 1)), (((x73.set i75.toNat (⟨i74, (x73.getD i75.toNat drcd).node, (x73.getD i75.toNat drcd).value, (x73.getD i75.toNat drcd).fin⟩ : Rcd)).set i75.toNat (⟨((x73.set i75.toNat (⟨i74, (x73.getD i75.toNat drcd).node, (x73.getD i75.toNat drcd).value, (x73.getD i75.toNat drcd).fin⟩ : Rcd)).getD i75.toNat drcd).who, (w64 (i74 + 1)), ((x73.set i75.toNat (⟨i74, (x73.getD i75.toNat drcd).node, (x73.getD i75.toNat drcd).value, (x73.getD i75.toNat drcd).fin⟩ : Rcd)).getD i75.toNat drcd).value, ((x73.set i75.toNat (⟨i74, (x73.getD i75.toNat drcd).node, (x73.getD i75.toNat drcd).value, (x73.getD i75.toNat drcd).fin⟩ : Rcd)).getD i75.toNat drcd).fin⟩ : Rcd)).getD i75.toNat drcd).fin⟩ : Rcd)) true]⟩ (by kernel_rfl) ⟨trivial, trivial⟩ ?_
      refine WO_nil rfl ?_
      refine thenS_n ?_
      refine W_seq ?_
      refine W_region ?_
      refine guardO_e h (fun hg101 h => ?_)
      refine WO_step 8 [0] [0, 1, 5] (((3 : Int) ≠ 0) ∧ (True ∧ ((0 ≤ i75 ∧ i75 < ((k2 : Nat) : Int)) ∧ (True ∧ True)))) ⟨[(0, .one (.e (.sl 0 0 k2))), (1, I (w64 ((w64 ((w64 (i74 + 1)) + 1)) + 1))), (5, I i75)], [.row .rcd ((((x73.set i75.toNat (⟨i74, (x73.getD i75.toNat drcd).node, (x73.getD i75.toNat drcd).value, (x73.getD i75.toNat drcd).fin⟩ : Rcd)).set i75.toNat (⟨((x73.set i75.toNat (⟨i74, (x73.getD i75.toNat drcd).node, (x73.getD i75.toNat drcd).value, (x73.getD i75.toNat drcd).fin⟩ : Rcd)).getD i75.toNat drcd).who, (w64 (i74 + 1)), ((x73.set i75.toNat (⟨i74, (x73.getD i75.toNat drcd).node, (x73.getD i75.toNat drcd).value, (x73.getD i75.toNat drcd).fin⟩ : Rcd)).getD i75.toNat drcd).value, ((x73.set i75.toNat (⟨i74, (x73.getD i75.toNat drcd).node, (x73.getD i75.toNat drcd).value, (x73.getD i75.toNat drcd).fin⟩ : Rcd)).getD i75.toNat drcd).fin⟩ : Rcd)).set i75.toNat (⟨(((x73.set i75.toNat (⟨i74, (x73.getD i75.toNat drcd).node, (x73.getD i75.toNat drcd).value, (x73.getD i75.toNat drcd).fin⟩ : Rcd)).set i75.toNat (⟨((x73.set i75.toNat (⟨i74, (x73.getD i75.toNat drcd).node, (x73.getD i75.toNat drcd).value, (x73.getD i75.toNat drcd).fin⟩ : Rcd)).getD i75.toNat drcd).who, (w64 (i74 + 1)), ((x73.set i75.toNat (⟨i74, (x73.getD i75.toNat drcd).node, (x73.getD i75.toNat drcd).value, (x73.getD i75.toNat drcd).fin⟩ : Rcd)).getD i75.toNat drcd).value, ((x73.set i75.toNat (⟨i74, (x73.getD i75.toNat drcd).node, (x73.getD i75.toNat drcd).value, (x73.getD i75.toNat drcd).fin⟩ : Rcd)).getD i75.toNat drcd).fin⟩ : Rcd)).getD i75.toNat drcd).who, (((x73.set i75.toNat (⟨i74, (x73.getD i75.toNat drcd).node, (x73.getD i75.toNat drcd).value, (x73.getD i75.toNat drcd).fin⟩ : Rcd)).set i75.toNat (⟨((x73.set i75.toNat (⟨i74, (x73.getD i75.toNat drcd).node, (x73.getD i75.toNat drcd).value, (x73.getD i75.toNat drcd).fin⟩ : Rcd)).getD i75.toNat drcd).who, (w64 (i74 + 1)), ((x73.set i75.toNat (⟨i74, (x73.getD i75.toNat drcd).node, (x73.getD i75.toNat drcd).value, (x73.getD i75.toNat drcd).fin⟩ : Rcd)).getD i75.toNat drcd).value, ((x73.set i75.toNat (⟨i74, (x73.getD i75.toNat drcd).node, (x73.getD i75.toNat drcd).value, (x73.getD i75.toNat drcd).fin⟩ : Rcd)).getD i75.toNat drcd).fin⟩ : Rcd)).getD i75.toNat drcd).node, (w64 ((w64 (i74 + 1)) + 1)), (((x73.set i75.toNat (⟨i74, (x73.getD i75.toNat drcd).node, (x73.getD i75.toNat drcd).value, (x73.getD i75.toNat drcd).fin⟩ : Rcd)).set i75.toNat (⟨((x73.set i75.toNat (⟨i74, (x73.getD i75.toNat drcd).node, (x73.getD i75.toNat drcd).value, (x73.getD i75.toNat drcd).fin⟩ : Rcd)).getD i75.toNat drcd).who, (w64 (i74 + 1)), ((x73.set i75.toNat (⟨i74, (x73.getD i75.toNat drcd).node, (x73.getD i75.toNat drcd).value, (x73.getD i75.toNat drcd).fin⟩ : Rcd)).getD i75.toNat drcd).value, ((x73.set i75.toNat (⟨i74, (x73.getD i75.toNat drcd).node, (x73.getD i75.toNat drcd).value, (x73.getD i75.toNat drcd).fin⟩ : Rcd)).getD i75.toNat drcd).fin⟩ : Rcd)).getD i75.toNat drcd).fin⟩ : Rcd)).set i75.toNat (⟨((((x73.set i75.toNat (⟨i74, (x73.getD i75.toNat drcd).node, (x73.getD i75.toNat drcd).value, (x73.getD i75.toNat drcd).fin⟩ : Rcd)).set i75.toNat (⟨((x73.set i75.toNat (⟨i74, (x73.getD i75.toNat drcd).node, (x73.getD i75.toNat drcd).value, (x73.getD i75.toNat drcd).fin⟩ : Rcd)).getD i75.toNat drcd).who, (w64 (i74 + 1)), ((x73.set i75.toNat (⟨i74, (x73.getD i75.toNat drcd).node, (x73.getD i75.toNat drcd).value, (x73.getD i75.toNat drcd).fin⟩ : Rcd)).getD i75.toNat drcd).value, ((x73.set i75.toNat (⟨i74, (x73.getD i75.toNat drcd).node, (x73.getD i75.toNat drcd).value, (x73.getD i75.toNat drcd).fin⟩ : Rcd)).getD i75.toNat drcd).fin⟩ : Rcd)).set i75.toNat (⟨(((x73.set i75.toNat (⟨i74, (x73.getD i75.toNat drcd).node, (x73.getD i75.toNat drcd).value, (x73.getD i75.toNat drcd).fin⟩ : Rcd)).set i75.toNat (⟨((x73.set i75.toNat (⟨i74, (x73.getD i75.toNat drcd).node, (x73.getD i75.toNat drcd).value, (x73.getD i75.toNat drcd).fin⟩ : Rcd)).getD i75.toNat drcd).who, (w64 (i74 + 1)), ((x73.set i75.toNat (⟨i74, (x73.getD i75.toNat drcd).node, (x73.getD i75.toNat drcd).value, (x73.getD i75.toNat drcd).fin⟩ : Rcd)).getD i75.toNat drcd).value, ((x73.set i75.toNat (⟨i74, (x73.getD i75.toNat drcd).node, (x73.getD i75.toNat drcd).value, (x73.getD i75.toNat drcd).fin⟩ : Rcd)).getD i75.toNat drcd).fin⟩ : Rcd)).getD i75.toNat drcd).who, (((x73.set i75.toNat (⟨i74, (x73.getD i75.toNat drcd).node, (x73.getD i75.toNat drcd).value, (x73.getD i75.toNat drcd).fin⟩ : Rcd)).set i75.toNat (⟨((x73.set i75.toNat (⟨i74, (x73.getD i75.toNat drcd).node, (x73.getD i75.toNat drcd).value, (x73.getD i75.toNat drcd).fin⟩ : Rcd)).getD i75.toNat drcd).who, (w64 (i74 + 1)), ((x73.set i75.toNat (⟨i74, (x73.getD i75.toNat drcd).node, (x73.getD i75.toNat drcd).value, (x73.getD i75.toNat drcd).fin⟩ : Rcd)).getD i75.toNat drcd).value, ((x73.set i75.toNat (⟨i74, (x73.getD i75.toNat drcd).node, (x73.getD i75.toNat drcd).value, (x73.getD i75.toNat drcd).fin⟩ : Rcd)).getD i75.toNat drcd).fin⟩ : Rcd)).getD i75.toNat drcd).node, (w64 ((w64 (i74 + 1)) + 1)), (((x73.set i75.toNat (⟨i74, (x73.getD i75.toNat drcd).node, (x73.getD i75.toNat drcd).value, (x73.getD i75.toNat drcd).fin⟩ : Rcd)).set i75.toNat (⟨((x73.set i75.toNat (⟨i74, (x73.getD i75.toNat drcd).node, (x73.getD i75.toNat drcd).value, (x73.getD i75.toNat drcd).fin⟩ : Rcd)).getD i75.toNat drcd).who, (w64 (i74 + 1)), ((x73.set i75.toNat (⟨i74, (x73.getD i75.toNat drcd).node, (x73.getD i75.toNat drcd).value, (x73.getD i75.toNat drcd).fin⟩ : Rcd)).getD i75.toNat drcd).value, ((x73.set i75.toNat (⟨i74, (x73.getD i75.toNat drcd).node, (x73.getD i75.toNat drcd).value, (x73.getD i75.toNat drcd).fin⟩ : Rcd)).getD i75.toNat drcd).fin⟩ : Rcd)).getD i75.toNat drcd).fin⟩ : Rcd)).getD i75.toNat drcd).who, ((((x73.set i75.toNat (⟨i74, (x73.getD i75.toNat drcd).node, (x73.getD i75.toNat drcd).value, (x73.getD i75.toNat drcd).fin⟩ : Rcd)).set i75.toNat (⟨((x73.set i75.toNat (⟨i74, (x73.getD i75.toNat drcd).node, (x73.getD i75.toNat drcd).value, (x73.getD i75.toNat drcd).fin⟩ : Rcd)).getD i75.toNat drcd).who, (w64 (i74 + 1)), ((x73.set i75.toNat (⟨i74, (x73.getD i75.toNat drcd).node, (x73.getD i75.toNat drcd).value, (x73.getD i75.toNat drcd).fin⟩ : Rcd)).getD i75.toNat drcd).value, ((x73.set i75.toNat (⟨i74, (x73.getD i75.toNat drcd).node, (x73.getD i75.toNat drcd).value, (x73.getD i75.toNat drcd).fin⟩ : Rcd)).getD i75.toNat drcd).fin⟩ : Rcd)).set i75.toNat (⟨(((x73.set i75.toNat (⟨i74, (x73.getD i75.toNat drcd).node, (x73.getD i75.toNat drcd).value, (x73.getD i75.toNat drcd).fin⟩ : Rcd)).set i75.toNat (⟨((x73.set i75.toNat (⟨i74, (x73.getD i75.toNat drcd).node, (x73.getD i75.toNat drcd).value, (x73.getD i75.toNat drcd).fin⟩ : Rcd)).getD i75.toNat drcd).who, (w64 (i74 + 1)), ((x73.set i75.toNat (⟨i74, (x73.getD i75.toNat drcd).node, (x73.getD i75.toNat drcd).value, (x73.getD i75.toNat drcd).fin⟩ : Rcd)).getD i75.toNat drcd).value, ((x73.set i75.toNat (⟨i74, (x73.getD i75.toNat drcd).node, (x73.getD i75.toNat drcd).value, (x73.getD i75.toNat drcd).fin⟩ : Rcd)).getD i75.toNat drcd).fin⟩ : Rcd)).getD i75.toNat drcd).who, (((x73.set i75.toNat (⟨i74, (x73.getD i75.toNat drcd).node, (x73.getD i75.toNat drcd).value, (x73.getD i75.toNat drcd).fin⟩ : Rcd)).set i75.toNat (⟨((x73.set i75.toNat (⟨i74, (x73.getD i75.toNat drcd).node, (x73.getD i75.toNat drcd).value, (x73.getD i75.toNat drcd).fin⟩ : Rcd)).getD i75.toNat drcd).who, (w64 (i74 + 1)), ((x73.set i75.toNat (⟨i74, (x73.getD i75.toNat drcd).node, (x73.getD i75.toNat drcd).value, (x73.getD i75.toNat drcd).fin⟩ : Rcd)).getD i75.toNat drcd).value, ((x73.set i75.toNat (⟨i74, (x73.getD i75.toNat drcd).node, (x73.getD i75.toNat drcd).value, (x73.getD i75.toNat drcd).fin⟩ : Rcd)).getD i75.toNat drcd).fin⟩ : Rcd)).getD i75.toNat drcd).node, (w64 ((w64 (i74 + 1)) + 1)), (((x73.set i75.toNat (⟨i74, (x73.getD i75.toNat drcd).node, (x73.getD i75.toNat drcd).value, (x73.getD i75.toNat drcd).fin⟩ : Rcd)).set i75.toNat (⟨((x73.set i75.toNat (⟨i74, (x73.getD i75.toNat drcd).node, (x73.getD i75.toNat drcd).value, (x73.getD i75.toNat drcd).fin⟩ : Rcd)).getD i75.toNat drcd).who, (w64 (i74 + 1)), ((x73.set i75.toNat (⟨i74, (x73.getD i75.toNat drcd).node, (x73.getD i75.toNat drcd).value, (x73.getD i75.toNat drcd).fin⟩ : Rcd)).getD i75.toNat drcd).value, ((x73.set i75.toNat (⟨i74, (x73.getD i75.toNat drcd).node, (x73.getD i75.toNat drcd).value, (x73.getD i75.toNat drcd).fin⟩ : Rcd)).getD i75.toNat drcd).fin⟩ : Rcd)).getD i75.toNat drcd).fin⟩ : Rcd)).getD i75.toNat drcd).node, ((((x73.set i75.toNat (⟨i74, (x73.getD i75.toNat drcd).node, (x73.getD i75.toNat drcd).value, (x73.getD i75.toNat drcd).fin⟩ : Rcd)).set i75.toNat (⟨((x73.set i75.toNat (⟨i74, (x73.getD i75.toNat drcd).node, (x73.getD i75.toNat drcd).value, (x73.getD i75.toNat drcd).fin⟩ : Rcd)).getD i75.toNat drcd).who, (w64 (i74 + 1)), ((x73.set i75.toNat (⟨i74, (x73.getD i75.toNat drcd).node, (x73.getD i75.toNat drcd).value, (x73.getD i75.toNat drcd).fin⟩ : Rcd)).getD i75.toNat drcd).value, ((x73.set i75.toNat (⟨i74, (x73.getD i75.toNat drcd).node, (x73.getD i75.toNat drcd).value, (x73.getD i75.toNat drcd).fin⟩ : Rcd)).getD i75.toNat drcd).fin⟩ : Rcd)).set i75.toNat (⟨(((x73.set i75.toNat (⟨i74, (x73.getD i75.toNat drcd).node, (x73.getD i75.toNat drcd).value, (x73.getD i75.toNat drcd).fin⟩ : Rcd)).set i75.toNat (⟨((x73.set i75.toNat (⟨i74, (x73.getD i75.toNat drcd).node, (x73.getD i75.toNat drcd).value, (x73.getD i75.toNat drcd).fin⟩ : Rcd)).getD i75.toNat drcd).who, (w64 (i74 + 1)), ((x73.set i75.toNat (⟨i74, (x73.getD i75.toNat drcd).node, (x73.getD i75.toNat drcd).value, (x73.getD i75.toNat drcd).fin⟩ : Rcd)).getD i75.toNat drcd).value, ((x73.set i75.toNat (⟨i74, (x73.getD i75.toNat drcd).node, (x73.getD i75.toNat drcd).value, (x73.getD i75.toNat drcd).fin⟩ : Rcd)).getD i75.toNat drcd).fin⟩ : Rcd)).getD i75.toNat drcd).who, (((x73.set i75.toNat (⟨i74, (x73.getD i75.toNat drcd).node, (x73.getD i75.toNat drcd).value, (x73.getD i75.toNat drcd).fin⟩ : Rcd)).set i75.toNat (⟨((x73.set i75.toNat (⟨i74, (x73.getD i75.toNat drcd).node, (x73.getD i75.toNat drcd).value, (x73.getD i75.toNat drcd).fin⟩ : Rcd)).getD i75.toNat drcd).who, (w64 (i74 + 1)), ((x73.set i75.toNat (⟨i74, (x73.getD i75.toNat drcd).node, (x73.getD i75.toNat drcd).value, (x73.getD i75.toNat drcd).fin⟩ : Rcd)).getD i75.toNat drcd).value, ((x73.set i75.toNat (⟨i74, (x73.getD i75.toNat drcd).node, (x73.getD i75.toNat drcd).value, (x73.getD i75.toNat drcd).fin⟩ : Rcd)).getD i75.toNat drcd).fin⟩ : Rcd)).getD i75.toNat drcd).node, (w64 ((w64 (i74 + 1)) + 1)), (((x73.set i75.toNat (⟨i74, (x73.getD i75.toNat drcd).node, (x73.getD i75.toNat drcd).value, (x73.getD i75.toNat drcd).fin⟩ : Rcd)).set i75.toNat (⟨((x73.set i75.toNat (⟨i74, (x73.getD i75.toNat drcd).node, (x73.getD i75.toNat drcd).value, (x73.getD i75.toNat drcd).fin⟩ : Rcd)).getD i75.toNat drcd).who, (w64 (i74 + 1)), ((x73.set i75.toNat (⟨i74, (x73.getD i75.toNat drcd).node, (x73.getD i75.toNat drcd).value, (x73.getD i75.toNat drcd).fin⟩ : Rcd)).getD i75.toNat drcd).value, ((x73.set i75.toNat (⟨i74, (x73.getD i75.toNat drcd).node, (x73.getD i75.toNat drcd).value, (x73.getD i75.toNat drcd).fin⟩ : Rcd)).getD i75.toNat drcd).fin⟩ : Rcd)).getD i75.toNat drcd).fin⟩ : Rcd)).getD i75.toNat drcd).value, (decide (((w64 ((w64 ((w64 (i74 + 1)) + 1)) + 1)).tmod 3) = 0))⟩ : Rcd)) true]⟩ (by kernel_rfl) ⟨(by decide), trivial, hg101, trivial, trivial⟩ ?_
      refine WO_nil rfl ?_
      refine thenS_n ?_
      refine W_region ?_
      refine WO_step 3 [0] [0, 1, 5] (True ∧ True) ⟨[(0, .one (.e (.sl 0 0 k2))), (1, I (w64 ((w64 ((w64 ((w64 (i74 + 1)) + 1)) + 1)) + 1))), (5, I i75)], [.row .rcd ((((x73.set i75.toNat (⟨i74, (x73.getD i75.toNat drcd).node, (x73.getD i75.toNat drcd).value, (x73.getD i75.toNat drcd).fin⟩ : Rcd)).set i75.toNat (⟨((x73.set i75.toNat (⟨i74, (x73.getD i75.toNat drcd).node, (x73.getD i75.toNat drcd).value, (x73.getD i75.toNat drcd).fin⟩ : Rcd)).getD i75.toNat drcd).who, (w64 (i74 + 1)), ((x73.set i75.toNat (⟨i74, (x73.getD i75.toNat drcd).node, (x73.getD i75.toNat drcd).value, (x73.getD i75.toNat drcd).fin⟩ : Rcd)).getD i75.toNat drcd).value, ((x73.set i75.toNat (⟨i74, (x73.getD i75.toNat drcd).node, (x73.getD i75.toNat drcd).value, (x73.getD i75.toNat drcd).fin⟩ : Rcd)).getD i75.toNat drcd).fin⟩ : Rcd)).set i75.toNat (⟨(((x73.set i75.toNat (⟨i74, (x73.getD i75.toNat drcd).node, (x73.getD i75.toNat drcd).value, (x73.getD i75.toNat drcd).fin⟩ : Rcd)).set i75.toNat (⟨((x73.set i75.toNat (⟨i74, (x73.getD i75.toNat drcd).node, (x73.getD i75.toNat drcd).value, (x73.getD i75.toNat drcd).fin⟩ : Rcd)).getD i75.toNat drcd).who, (w64 (i74 + 1)), ((x73.set i75.toNat (⟨i74, (x73.getD i75.toNat drcd).node, (x73.getD i75.toNat drcd).value, (x73.getD i75.toNat drcd).fin⟩ : Rcd)).getD i75.toNat drcd).value, ((x73.set i75.toNat (⟨i74, (x73.getD i75.toNat drcd).node, (x73.getD i75.toNat drcd).value, (x73.getD i75.toNat drcd).fin⟩ : Rcd)).getD i75.toNat drcd).fin⟩ : Rcd)).getD i75.toNat drcd).who, (((x73.set i75.toNat (⟨i74, (x73.getD i75.toNat drcd).node, (x73.getD i75.toNat drcd).value, (x73.getD i75.toNat drcd).fin⟩ : Rcd)).set i75.toNat (⟨((x73.set i75.toNat (⟨i74, (x73.getD i75.toNat drcd).node, (x73.getD i75.toNat drcd).value, (x73.getD i75.toNat drcd).fin⟩ : Rcd)).getD i75.toNat drcd).who, (w64 (i74 + 1)), ((x73.set i75.toNat (⟨i74, (x73.getD i75.toNat drcd).node, (x73.getD i75.toNat drcd).value, (x73.getD i75.toNat drcd).fin⟩ : Rcd)).getD i75.toNat drcd).value, ((x73.set i75.toNat (⟨i74, (x73.getD i75.toNat drcd).node, (x73.getD i75.toNat drcd).value, (x73.getD i75.toNat drcd).fin⟩ : Rcd)).getD i75.toNat drcd).fin⟩ : Rcd)).getD i75.toNat drcd).node, (w64 ((w64 (i74 + 1)) + 1)), (((x73.set i75.toNat (⟨i74, (x73.getD i75.toNat drcd).node, (x73.getD i75.toNat drcd).value, (x73.getD i75.toNat drcd).fin⟩ : Rcd)).set i75.toNat (⟨((x73.set i75.toNat (⟨i74, (x73.getD i75.toNat drcd).node, (x73.getD i75.toNat drcd).value, (x73.getD i75.toNat drcd).fin⟩ : Rcd)).getD i75.toNat drcd).who, (w64 (i74 + 1)), ((x73.set i75.toNat (⟨i74, (x73.getD i75.toNat drcd).node, (x73.getD i75.toNat drcd).value, (x73.getD i75.toNat drcd).fin⟩ : Rcd)).getD i75.toNat drcd).value, ((x73.set i75.toNat (⟨i74, (x73.getD i75.toNat drcd).node, (x73.getD i75.toNat drcd).value, (x73.getD i75.toNat drcd).fin⟩ : Rcd)).getD i75.toNat drcd).fin⟩ : Rcd)).getD i75.toNat drcd).fin⟩ : Rcd)).set i75.toNat (⟨((((x73.set i75.toNat (⟨i74, (x73.getD i75.toNat drcd).node, (x73.getD i75.toNat drcd).value, (x73.getD i75.toNat drcd).fin⟩ : Rcd)).set i75.toNat (⟨((x73.set i75.toNat (⟨i74, (x73.getD i75.toNat drcd).node, (x73.getD i75.toNat drcd).value, (x73.getD i75.toNat drcd).fin⟩ : Rcd)).getD i75.toNat drcd).who, (w64 (i74 + 1)), ((x73.set i75.toNat (⟨i74, (x73.getD i75.toNat drcd).node, (x73.getD i75.toNat drcd).value, (x73.getD i75.toNat drcd).fin⟩ : Rcd)).getD i75.toNat drcd).value, ((x73.set i75.toNat (⟨i74, (x73.getD i75.toNat drcd).node, (x73.getD i75.toNat drcd).value, (x73.getD i75.toNat drcd).fin⟩ : Rcd)).getD i75.toNat drcd).fin⟩ : Rcd)).set i75.toNat (⟨(((x73.set i75.toNat (⟨i74, (x73.getD i75.toNat drcd).node, (x73.getD i75.toNat drcd).value, (x73.getD i75.toNat drcd).fin⟩ : Rcd)).set i75.toNat (⟨((x73.set i75.toNat (⟨i74, (x73.getD i75.toNat drcd).node, (x73.getD i75.toNat drcd).value, (x73.getD i75.toNat drcd).fin⟩ : Rcd)).getD i75.toNat drcd).who, (w64 (i74 + 1)), ((x73.set i75.toNat (⟨i74, (x73.getD i75.toNat drcd).node, (x73.getD i75.toNat drcd).value, (x73.getD i75.toNat drcd).fin⟩ : Rcd)).getD i75.toNat drcd).value, ((x73.set i75.toNat (⟨i74, (x73.getD i75.toNat drcd).node, (x73.getD i75.toNat drcd).value, (x73.getD i75.toNat drcd).fin⟩ : Rcd)).getD i75.toNat drcd).fin⟩ : Rcd)).getD i75.toNat drcd).who, (((x73.set i75.toNat (⟨i74, (x73.getD i75.toNat drcd).node, (x73.getD i75.toNat drcd).value, (x73.getD i75.toNat drcd).fin⟩ : Rcd)).set i75.toNat (⟨((x73.set i75.toNat (⟨i74, (x73.getD i75.toNat drcd).node, (x73.getD i75.toNat drcd).value, (x73.getD i75.toNat drcd).fin⟩ : Rcd)).getD i75.toNat drcd).who, (w64 (i74 + 1)), ((x73.set i75.toNat (⟨i74, (x73.getD i75.toNat drcd).node, (x73.getD i75.toNat drcd).value, (x73.getD i75.toNat drcd).fin⟩ : Rcd)).getD i75.toNat drcd).value, ((x73.set i75.toNat (⟨i74, (x73.getD i75.toNat drcd).node, (x73.getD i75.toNat drcd).value, (x73.getD i75.toNat drcd).fin⟩ : Rcd)).getD i75.toNat drcd).fin⟩ : Rcd)).getD i75.toNat drcd).node, (w64 ((w64 (i74 + 1)) + 1)), (((x73.set i75.toNat (⟨i74, (x73.getD i75.toNat drcd).node, (x73.getD i75.toNat drcd).value, (x73.getD i75.toNat drcd).fin⟩ : Rcd)).set i75.toNat (⟨((x73.set i75.toNat (⟨i74, (x73.getD i75.toNat drcd).node, (x73.getD i75.toNat drcd).value, (x73.getD i75.toNat drcd).fin⟩ : Rcd)).getD i75.toNat drcd).who, (w64 (i74 + 1)), ((x73.set i75.toNat (⟨i74, (x73.getD i75.toNat drcd).node, (x73.getD i75.toNat drcd).value, (x73.getD i75.toNat drcd).fin⟩ : Rcd)).getD i75.toNat drcd).value, ((x73.set i75.toNat (⟨i74, (x73.getD i75.toNat drcd).node, (x73.getD i75.toNat drcd).value, (x73.getD i75.toNat drcd).fin⟩ : Rcd)).getD i75.toNat drcd).fin⟩ : Rcd)).getD i75.toNat drcd).fin⟩ : Rcd)).getD i75.toNat drcd).who, ((((x73.set i75.toNat (⟨i74, (x73.getD i75.toNat drcd).node, (x73.getD i75.toNat drcd).value, (x73.getD i75.toNat drcd).fin⟩ : Rcd)).set i75.toNat (⟨((x73.set i75.toNat (⟨i74, (x73.getD i75.toNat drcd).node, (x73.getD i75.toNat drcd).value, (x73.getD i75.toNat drcd).fin⟩ : Rcd)).getD i75.toNat drcd).who, (w64 (i74 + 1)), ((x73.set i75.toNat (⟨i74, (x73.getD i75.toNat drcd).node, (x73.getD i75.toNat drcd).value, (x73.getD i75.toNat drcd).fin⟩ : Rcd)).getD i75.toNat drcd).value, ((x73.set i75.toNat (⟨i74, (x73.getD i75.toNat drcd).node, (x73.getD i75.toNat drcd).value, (x73.getD i75.toNat drcd).fin⟩ : Rcd)).getD i75.toNat drcd).fin⟩ : Rcd)).set i75.toNat (⟨(((x73.set i75.toNat (⟨i74, (x73.getD i75.toNat drcd).node, (x73.getD i75.toNat drcd).value, (x73.getD i75.toNat drcd).fin⟩ : Rcd)).set i75.toNat (⟨((x73.set i75.toNat (⟨i74, (x73.getD i75.toNat drcd).node, (x73.getD i75.toNat drcd).value, (x73.getD i75.toNat drcd).fin⟩ : Rcd)).getD i75.toNat drcd).who, (w64 (i74 + 1)), ((x73.set i75.toNat (⟨i74, (x73.getD i75.toNat drcd).node, (x73.getD i75.toNat drcd).value, (x73.getD i75.toNat drcd).fin⟩ : Rcd)).getD i75.toNat drcd).value, ((x73.set i75.toNat (⟨i74, (x73.getD i75.toNat drcd).node, (x73.getD i75.toNat drcd).value, (x73.getD i75.toNat drcd).fin⟩ : Rcd)).getD i75.toNat drcd).fin⟩ : Rcd)).getD i75.toNat drcd).who, (((x73.set i75.toNat (⟨i74, (x73.getD i75.toNat drcd).node, (x73.getD i75.toNat drcd).value, (x73.getD i75.toNat drcd).fin⟩ : Rcd)).set i75.toNat (⟨((x73.set i75.toNat (⟨i74, (x73.getD i75.toNat drcd).node, (x73.getD i75.toNat drcd).value, (x73.getD i75.toNat drcd).fin⟩ : Rcd)).getD i75.toNat drcd).who, (w64 (i74 + 1)), ((x73.set i75.toNat (⟨i74, (x73.getD i75.toNat drcd).node, (x73.getD i75.toNat drcd).value, (x73.getD i75.toNat drcd).fin⟩ : Rcd)).getD i75.toNat drcd).value, ((x73.set i75.toNat (⟨i74, (x73.getD i75.toNat drcd).node, (x73.getD i75.toNat drcd).value, (x73.getD i75.toNat drcd).fin⟩ : Rcd)).getD i75.toNat drcd).fin⟩ : Rcd)).getD i75.toNat drcd).node, (w64 ((w64 (i74 + 1)) + 1)), (((x73.set i75.toNat (⟨i74, (x73.getD i75.toNat drcd).node, (x73.getD i75.toNat drcd).value, (x73.getD i75.toNat drcd).fin⟩ : Rcd)).set i75.toNat (⟨((x73.set i75.toNat (⟨i74, (x73.getD i75.toNat drcd).node, (x73.getD i75.toNat drcd).value, (x73.getD i75.toNat drcd).fin⟩ : Rcd)).getD i75.toNat drcd).who, (w64 (i74 + 1)), ((x73.set i75.toNat (⟨i74, (x73.getD i75.toNat drcd).node, (x73.getD i75.toNat drcd).value, (x73.getD i75.toNat drcd).fin⟩ : Rcd)).getD i75.toNat drcd).value, ((x73.set i75.toNat (⟨i74, (x73.getD i75.toNat drcd).node, (x73.getD i75.toNat drcd).value, (x73.getD i75.toNat drcd).fin⟩ : Rcd)).getD i75.toNat drcd).fin⟩ : Rcd)).getD i75.toNat drcd).fin⟩ : Rcd)).getD i75.toNat drcd).node, ((((x73.set i75.toNat (⟨i74, (x73.getD i75.toNat drcd).node, (x73.getD i75.toNat drcd).value, (x73.getD i75.toNat drcd).fin⟩ : Rcd)).set i75.toNat (⟨((x73.set i75.toNat (⟨i74, (x73.getD i75.toNat drcd).node, (x73.getD i75.toNat drcd).value, (x73.getD i75.toNat drcd).fin⟩ : Rcd)).getD i75.toNat drcd).who, (w64 (i74 + 1)), ((x73.set i75.toNat (⟨i74, (x73.getD i75.toNat drcd).node, (x73.getD i75.toNat drcd).value, (x73.getD i75.toNat drcd).fin⟩ : Rcd)).getD i75.toNat drcd).value, ((x73.set i75.toNat (⟨i74, (x73.getD i75.toNat drcd).node, (x73.getD i75.toNat drcd).value, (x73.getD i75.toNat drcd).fin⟩ : Rcd)).getD i75.toNat drcd).fin⟩ : Rcd)).set i75.toNat (⟨(((x73.set i75.toNat (⟨i74, (x73.getD i75.toNat drcd).node, (x73.getD i75.toNat drcd).value, (x73.getD i75.toNat drcd).fin⟩ : Rcd)).set i75.toNat (⟨((x73.set i75.toNat (⟨i74, (x73.getD i75.toNat drcd).node, (x73.getD i75.toNat drcd).value, (x73.getD i75.toNat drcd).fin⟩ : Rcd)).getD i75.toNat drcd).who, (w64 (i74 + 1)), ((x73.set i75.toNat (⟨i74, (x73.getD i75.toNat drcd).node, (x73.getD i75.toNat drcd).value, (x73.getD i75.toNat drcd).fin⟩ : Rcd)).getD i75.toNat drcd).value, ((x73.set i75.toNat (⟨i74, (x73.getD i75.toNat drcd).node, (x73.getD i75.toNat drcd).value, (x73.getD i75.toNat drcd).fin⟩ : Rcd)).getD i75.toNat drcd).fin⟩ : Rcd)).getD i75.toNat drcd).who, (((x73.set i75.toNat (⟨i74, (x73.getD i75.toNat drcd).node, (x73.getD i75.toNat drcd).value, (x73.getD i75.toNat drcd).fin⟩ : Rcd)).set i75.toNat (⟨((x73.set i75.toNat (⟨i74, (x73.getD i75.toNat drcd).node, (x73.getD i75.toNat drcd).value, (x73.getD i75.toNat drcd).fin⟩ : Rcd)).getD i75.toNat drcd).who, (w64 (i74 + 1)), ((x73.set i75.toNat (⟨i74, (x73.getD i75.toNat drcd).node, (x73.getD i75.toNat drcd).value, (x73.getD i75.toNat drcd).fin⟩ : Rcd)).getD i75.toNat drcd).value, ((x73.set i75.toNat (⟨i74, (x73.getD i75.toNat drcd).node, (x73.getD i75.toNat drcd).value, (x73.getD i75.toNat drcd).fin⟩ : Rcd)).getD i75.toNat drcd).fin⟩ : Rcd)).getD i75.toNat drcd).node, (w64 ((w64 (i74 + 1)) + 1)), (((x73.set i75.toNat (⟨i74, (x73.getD i75.toNat drcd).node, (x73.getD i75.toNat drcd).value, (x73.getD i75.toNat drcd).fin⟩ : Rcd)).set i75.toNat (⟨((x73.set i75.toNat (⟨i74, (x73.getD i75.toNat drcd).node, (x73.getD i75.toNat drcd).value, (x73.getD i75.toNat drcd).fin⟩ : Rcd)).getD i75.toNat drcd).who, (w64 (i74 + 1)), ((x73.set i75.toNat (⟨i74, (x73.getD i75.toNat drcd).node, (x73.getD i75.toNat drcd).value, (x73.getD i75.toNat drcd).fin⟩ : Rcd)).getD i75.toNat drcd).value, ((x73.set i75.toNat (⟨i74, (x73.getD i75.toNat drcd).node, (x73.getD i75.toNat drcd).value, (x73.getD i75.toNat drcd).fin⟩ : Rcd)).getD i75.toNat drcd).fin⟩ : Rcd)).getD i75.toNat drcd).fin⟩ : Rcd)).getD i75.toNat drcd).value, (decide (((w64 ((w64 ((w64 (i74 + 1)) + 1)) + 1)).tmod 3) = 0))⟩ : Rcd)) true]⟩ (by kernel_rfl) ⟨trivial, trivial⟩ ?_
      refine WO_nil rfl ?_
      refine blockS_n ?_
      refine thenS_n ?_
      refine W_region ?_
      refine WO_step 3 [0] [0, 1, 5] (True ∧ True) ⟨[(0, .one (.e (.sl 0 0 k2))), (1, I (w64 ((w64 ((w64 ((w64 (i74 + 1)) + 1)) + 1)) + 1))), (5, I (w64 (i75 + 1)))], [.row .rcd ((((x73.set i75.toNat (⟨i74, (x73.getD i75.toNat drcd).node, (x73.getD i75.toNat drcd).value, (x73.getD i75.toNat drcd).fin⟩ : Rcd)).set i75.toNat (⟨((x73.set i75.toNat (⟨i74, (x73.getD i75.toNat drcd).node, (x73.getD i75.toNat drcd).value, (x73.getD i75.toNat drcd).fin⟩ : Rcd)).getD i75.toNat drcd).who, (w64 (i74 + 1)), ((x73.set i75.toNat (⟨i74, (x73.getD i75.toNat drcd).node, (x73.getD i75.toNat drcd).value, (x73.getD i75.toNat drcd).fin⟩ : Rcd)).getD i75.toNat drcd).value, ((x73.set i75.toNat (⟨i74, (x73.getD i75.toNat drcd).node, (x73.getD i75.toNat drcd).value, (x73.getD i75.toNat drcd).fin⟩ : Rcd)).getD i75.toNat drcd).fin⟩ : Rcd)).set i75.toNat (⟨(((x73.set i75.toNat (⟨i74, (x73.getD i75.toNat drcd).node, (x73.getD i75.toNat drcd).value, (x73.getD i75.toNat drcd).fin⟩ : Rcd)).set i75.toNat (⟨((x73.set i75.toNat (⟨i74, (x73.getD i75.toNat drcd).node, (x73.getD i75.toNat drcd).value, (x73.getD i75.toNat drcd).fin⟩ : Rcd)).getD i75.toNat drcd).who, (w64 (i74 + 1)), ((x73.set i75.toNat (⟨i74, (x73.getD i75.toNat drcd).node, (x73.getD i75.toNat drcd).value, (x73.getD i75.toNat drcd).fin⟩ : Rcd)).getD i75.toNat drcd).value, ((x73.set i75.toNat (⟨i74, (x73.getD i75.toNat drcd).node, (x73.getD i75.toNat drcd).value, (x73.getD i75.toNat drcd).fin⟩ : Rcd)).getD i75.toNat drcd).fin⟩ : Rcd)).getD i75.toNat drcd).who, (((x73.set i75.toNat (⟨i74, (x73.getD i75.toNat drcd).node, (x73.getD i75.toNat drcd).value, (x73.getD i75.toNat drcd).fin⟩ : Rcd)).set i75.toNat (⟨((x73.set i75.toNat (⟨i74, (x73.getD i75.toNat drcd).node, (x73.getD i75.toNat drcd).value, (x73.getD i75.toNat drcd).fin⟩ : Rcd)).getD i75.toNat drcd).who, (w64 (i74 + 1)), ((x73.set i75.toNat (⟨i74, (x73.getD i75.toNat drcd).node, (x73.getD i75.toNat drcd).value, (x73.getD i75.toNat drcd).fin⟩ : Rcd)).getD i75.toNat drcd).value, ((x73.set i75.toNat (⟨i74, (x73.getD i75.toNat drcd).node, (x73.getD i75.toNat drcd).value, (x73.getD i75.toNat drcd).fin⟩ : Rcd)).getD i75.toNat drcd).fin⟩ : Rcd)).getD i75.toNat drcd).node, (w64 ((w64 (i74 + 1)) + 1)), (((x73.set i75.toNat (⟨i74, (x73.getD i75.toNat drcd).node, (x73.getD i75.toNat drcd).value, (x73.getD i75.toNat drcd).fin⟩ : Rcd)).set i75.toNat (⟨((x73.set i75.toNat (⟨i74, (x73.getD i75.toNat drcd).node, (x73.getD i75.toNat drcd).value, (x73.getD i75.toNat drcd).fin⟩ : Rcd)).getD i75.toNat drcd).who, (w64 (i74 + 1)), ((x73.set i75.toNat (⟨i74, (x73.getD i75.toNat drcd).node, (x73.getD i75.toNat drcd).value, (x73.getD i75.toNat drcd).fin⟩ : Rcd)).getD i75.toNat drcd).value, ((x73.set i75.toNat (⟨i74, (x73.getD i75.toNat drcd).node, (x73.getD i75.toNat drcd).value, (x73.getD i75.toNat drcd).fin⟩ : Rcd)).getD i75.toNat drcd).fin⟩ : Rcd)).getD i75.toNat drcd).fin⟩ : Rcd)).set i75.toNat (⟨((((x73.set i75.toNat (⟨i74, (x73.getD i75.toNat drcd).node, (x73.getD i75.toNat drcd).value, (x73.getD i75.toNat drcd).fin⟩ : Rcd)).set i75.toNat (⟨((x73.set i75.toNat (⟨i74, (x73.getD i75.toNat drcd).node, (x73.getD i75.toNat drcd).value, (x73.getD i75.toNat drcd).fin⟩ : Rcd)).getD i75.toNat drcd).who, (w64 (i74 + 1)), ((x73.set i75.toNat (⟨i74, (x73.getD i75.toNat drcd).node, (x73.getD i75.toNat drcd).value, (x73.getD i75.toNat drcd).fin⟩ : Rcd)).getD i75.toNat drcd).value, ((x73.set i75.toNat (⟨i74, (x73.getD i75.toNat drcd).node, (x73.getD i75.toNat drcd).value, (x73.getD i75.toNat drcd).fin⟩ : Rcd)).getD i75.toNat drcd).fin⟩ : Rcd)).set i75.toNat (⟨(((x73.set i75.toNat (⟨i74, (x73.getD i75.toNat drcd).node, (x73.getD i75.toNat drcd).value, (x73.getD i75.toNat drcd).fin⟩ : Rcd)).set i75.toNat (⟨((x73.set i75.toNat (⟨i74, (x73.getD i75.toNat drcd).node, (x73.getD i75.toNat drcd).value, (x73.getD i75.toNat drcd).fin⟩ : Rcd)).getD i75.toNat drcd).who, (w64 (i74 + 1)), ((x73.set i75.toNat (⟨i74, (x73.getD i75.toNat drcd).node, (x73.getD i75.toNat drcd).value, (x73.getD i75.toNat drcd).fin⟩ : Rcd)).getD i75.toNat drcd).value, ((x73.set i75.toNat (⟨i74, (x73.getD i75.toNat drcd).node, (x73.getD i75.toNat drcd).value, (x73.getD i75.toNat drcd).fin⟩ : Rcd)).getD i75.toNat drcd).fin⟩ : Rcd)).getD i75.toNat drcd).who, (((x73.set i75.toNat (⟨i74, (x73.getD i75.toNat drcd).node, (x73.getD i75.toNat drcd).value, (x73.getD i75.toNat drcd).fin⟩ : Rcd)).set i75.toNat (⟨((x73.set i75.toNat (⟨i74, (x73.getD i75.toNat drcd).node, (x73.getD i75.toNat drcd).value, (x73.getD i75.toNat drcd).fin⟩ : Rcd)).getD i75.toNat drcd).who, (w64 (i74 + 1)), ((x73.set i75.toNat (⟨i74, (x73.getD i75.toNat drcd).node, (x73.getD i75.toNat drcd).value, (x73.getD i75.toNat drcd).fin⟩ : Rcd)).getD i75.toNat drcd).value, ((x73.set i75.toNat (⟨i74, (x73.getD i75.toNat drcd).node, (x73.getD i75.toNat drcd).value, (x73.getD i75.toNat drcd).fin⟩ : Rcd)).getD i75.toNat drcd).fin⟩ : Rcd)).getD i75.toNat drcd).node, (w64 ((w64 (i74 + 1)) + 1)), (((x73.set i75.toNat (⟨i74, (x73.getD i75.toNat drcd).node, (x73.getD i75.toNat drcd).value, (x73.getD i75.toNat drcd).fin⟩ : Rcd)).set i75.toNat (⟨((x73.set i75.toNat (⟨i74, (x73.getD i75.toNat drcd).node, (x73.getD i75.toNat drcd).value, (x73.getD i75.toNat drcd).fin⟩ : Rcd)).getD i75.toNat drcd).who, (w64 (i74 + 1)), ((x73.set i75.toNat (⟨i74, (x73.getD i75.toNat drcd).node, (x73.getD i75.toNat drcd).value, (x73.getD i75.toNat drcd).fin⟩ : Rcd)).getD i75.toNat drcd).value, ((x73.set i75.toNat (⟨i74, (x73.getD i75.toNat drcd).node, (x73.getD i75.toNat drcd).value, (x73.getD i75.toNat drcd).fin⟩ : Rcd)).getD i75.toNat drcd).fin⟩ : Rcd)).getD i75.toNat drcd).fin⟩ : Rcd)).getD i75.toNat drcd).who, ((((x73.set i75.toNat (⟨i74, (x73.getD i75.toNat drcd).node, (x73.getD i75.toNat drcd).value, (x73.getD i75.toNat drcd).fin⟩ : Rcd)).set i75.toNat (⟨((x73.set i75.toNat (⟨i74, (x73.getD i75.toNat drcd).node, (x73.getD i75.toNat drcd).value, (x73.getD i75.toNat drcd).fin⟩ : Rcd)).getD i75.toNat drcd).who, (w64 (i74 + 1)), ((x73.set i75.toNat (⟨i74, (x73.getD i75.toNat drcd).node, (x73.getD i75.toNat drcd).value, (x73.getD i75.toNat drcd).fin⟩ : Rcd)).getD i75.toNat drcd).value, ((x73.set i75.toNat (⟨i74, (x73.getD i75.toNat drcd).node, (x73.getD i75.toNat drcd).value, (x73.getD i75.toNat drcd).fin⟩ : Rcd)).getD i75.toNat drcd).fin⟩ : Rcd)).set i75.toNat (⟨(((x73.set i75.toNat (⟨i74, (x73.getD i75.toNat drcd).node, (x73.getD i75.toNat drcd).value, (x73.getD i75.toNat drcd).fin⟩ : Rcd)).set i75.toNat (⟨((x73.set i75.toNat (⟨i74, (x73.getD i75.toNat drcd).node, (x73.getD i75.toNat drcd).value, (x73.getD i75.toNat drcd).fin⟩ : Rcd)).getD i75.toNat drcd).who, (w64 (i74 + 1)), ((x73.set i75.toNat (⟨i74, (x73.getD i75.toNat drcd).node, (x73.getD i75.toNat drcd).value, (x73.getD i75.toNat drcd).fin⟩ : Rcd)).getD i75.toNat drcd).value, ((x73.set i75.toNat (⟨i74, (x73.getD i75.toNat drcd).node, (x73.getD i75.toNat drcd).value, (x73.getD i75.toNat drcd).fin⟩ : Rcd)).getD i75.toNat drcd).fin⟩ : Rcd)).getD i75.toNat drcd).who, (((x73.set i75.toNat (⟨i74, (x73.getD i75.toNat drcd).node, (x73.getD i75.toNat drcd).value, (x73.getD i75.toNat drcd).fin⟩ : Rcd)).set i75.toNat (⟨((x73.set i75.toNat (⟨i74, (x73.getD i75.toNat drcd).node, (x73.getD i75.toNat drcd).value, (x73.getD i75.toNat drcd).fin⟩ : Rcd)).getD i75.toNat drcd).who, (w64 (i74 + 1)), ((x73.set i75.toNat (⟨i74, (x73.getD i75.toNat drcd).node, (x73.getD i75.toNat drcd).value, (x73.getD i75.toNat drcd).fin⟩ : Rcd)).getD i75.toNat drcd).value, ((x73.set i75.toNat (⟨i74, (x73.getD i75.toNat drcd).node, (x73.getD i75.toNat drcd).value, (x73.getD i75.toNat drcd).fin⟩ : Rcd)).getD i75.toNat drcd).fin⟩ : Rcd)).getD i75.toNat drcd).node, (w64 ((w64 (i74 + 1)) + 1)), (((x73.set i75.toNat (⟨i74, (x73.getD i75.toNat drcd).node, (x73.getD i75.toNat drcd).value, (x73.getD i75.toNat drcd).fin⟩ : Rcd)).set i75.toNat (⟨((x73.set i75.toNat (⟨i74, (x73.getD i75.toNat drcd).node, (x73.getD i75.toNat drcd).value, (x73.getD i75.toNat drcd).fin⟩ : Rcd)).getD i75.toNat drcd).who, (w64 (i74 + 1)), ((x73.set i75.toNat (⟨i74, (x73.getD i75.toNat drcd).node, (x73.getD i75.toNat drcd).value, (x73.getD i75.toNat drcd).fin⟩ : Rcd)).getD i75.toNat drcd).value, ((x73.set i75.toNat (⟨i74, (x73.getD i75.toNat drcd).node, (x73.getD i75.toNat drcd).value, (x73.getD i75.toNat drcd).fin⟩ : Rcd)).getD i75.toNat drcd).fin⟩ : Rcd)).getD i75.toNat drcd).fin⟩ : Rcd)).getD i75.toNat drcd).node, ((((x73.set i75.toNat (⟨i74, (x73.getD i75.toNat drcd).node, (x73.getD i75.toNat drcd).value, (x73.getD i75.toNat drcd).fin⟩ : Rcd)).set i75.toNat (⟨((x73.set i75.toNat (⟨i74, (x73.getD i75.toNat drcd).node, (x73.getD i75.toNat drcd).value, (x73.getD i75.toNat drcd).fin⟩ : Rcd)).getD i75.toNat drcd).who, (w64 (i74 + 1)), ((x73.set i75.toNat (⟨i74, (x73.getD i75.toNat drcd).node, (x73.getD i75.toNat drcd).value, (x73.getD i75.toNat drcd).fin⟩ : Rcd)).getD i75.toNat drcd).value, ((x73.set i75.toNat (⟨i74, (x73.getD i75.toNat drcd).node, (x73.getD i75.toNat drcd).value, (x73.getD i75.toNat drcd).fin⟩ : Rcd)).getD i75.toNat drcd).fin⟩ : Rcd)).set i75.toNat (⟨(((x73.set i75.toNat (⟨i74, (x73.getD i75.toNat drcd).node, (x73.getD i75.toNat drcd).value, (x73.getD i75.toNat drcd).fin⟩ : Rcd)).set i75.toNat (⟨((x73.set i75.toNat (⟨i74, (x73.getD i75.toNat drcd).node, (x73.getD i75.toNat drcd).value, (x73.getD i75.toNat drcd).fin⟩ : Rcd)).getD i75.toNat drcd).who, (w64 (i74 + 1)), ((x73.set i75.toNat (⟨i74, (x73.getD i75.toNat drcd).node, (x73.getD i75.toNat drcd).value, (x73.getD i75.toNat drcd).fin⟩ : Rcd)).getD i75.toNat drcd).value, ((x73.set i75.toNat (⟨i74, (x73.getD i75.toNat drcd).node, (x73.getD i75.toNat drcd).value, (x73.getD i75.toNat drcd).fin⟩ : Rcd)).getD i75.toNat drcd).fin⟩ : Rcd)).getD i75.toNat drcd).who, (((x73.set i75.toNat (⟨i74, (x73.getD i75.toNat drcd).node, (x73.getD i75.toNat drcd).value, (x73.getD i75.toNat drcd).fin⟩ : Rcd)).set i75.toNat (⟨((x73.set i75.toNat (⟨i74, (x73.getD i75.toNat drcd).node, (x73.getD i75.toNat drcd).value, (x73.getD i75.toNat drcd).fin⟩ : Rcd)).getD i75.toNat drcd).who, (w64 (i74 + 1)), ((x73.set i75.toNat (⟨i74, (x73.getD i75.toNat drcd).node, (x73.getD i75.toNat drcd).value, (x73.getD i75.toNat drcd).fin⟩ : Rcd)).getD i75.toNat drcd).value, ((x73.set i75.toNat (⟨i74, (x73.getD i75.toNat drcd).node, (x73.getD i75.toNat drcd).value, (x73.getD i75.toNat drcd).fin⟩ : Rcd)).getD i75.toNat drcd).fin⟩ : Rcd)).getD i75.toNat drcd).node, (w64 ((w64 (i74 + 1)) + 1)), (((x73.set i75.toNat (⟨i74, (x73.getD i75.toNat drcd).node, (x73.getD i75.toNat drcd).value, (x73.getD i75.toNat drcd).fin⟩ : Rcd)).set i75.toNat (⟨((x73.set i75.toNat (⟨i74, (x73.getD i75.toNat drcd).node, (x73.getD i75.toNat drcd).value, (x73.getD i75.toNat drcd).fin⟩ : Rcd)).getD i75.toNat drcd).who, (w64 (i74 + 1)), ((x73.set i75.toNat (⟨i74, (x73.getD i75.toNat drcd).node, (x73.getD i75.toNat drcd).value, (x73.getD i75.toNat drcd).fin⟩ : Rcd)).getD i75.toNat drcd).value, ((x73.set i75.toNat (⟨i74, (x73.getD i75.toNat drcd).node, (x73.getD i75.toNat drcd).value, (x73.getD i75.toNat drcd).fin⟩ : Rcd)).getD i75.toNat drcd).fin⟩ : Rcd)).getD i75.toNat drcd).fin⟩ : Rcd)).getD i75.toNat drcd).value, (decide (((w64 ((w64 ((w64 (i74 + 1)) + 1)) + 1)).tmod 3) = 0))⟩ : Rcd)) true]⟩ (by kernel_rfl) ⟨trivial, trivial⟩ ?_
      refine WO_nil rfl ?_
      refine thenS_n ?_
      exact ih _ _ _ h
    · refine W_sub [0] [1] (st' := ⟨[(1, I i74)], [.row .rcd x73 true]⟩) (by kernel_rfl) ?_
      refine W_exit ?_
      refine thenS_e ?_
      refine thenS_e ?_
      cases h
      exact And.intro rfl rfl

def laws_markRecordS (n : Nat) (x1 : List Rcd) (k2 : Nat) (i3 : Int) : Option ((List Rcd) × Int) :=
 bindO (laws_markRecordS_L1 k2 n x1 i3 0) fun v102 =>
 match v102 with
 | (x89, i90) => (some (x89, i90))


theorem laws_markRecordS_ok (n : Nat) (x1 : List Rcd) (k2 : Nat) (i3 : Int) (x52 : List Rcd) (i53 : Int) (h : laws_markRecordS n x1 k2 i3 = some (x52, i53)) : FOk EE 33 [.one (.e (.sl 0 0 k2)), I i3] [.row .rcd x1 true] (I i53) [.row .rcd x52 true] := by
  unfold laws_markRecordS at h
  refine FOk_of_W 43 1 Try.func33 rfl rfl (Nat.le_of_ble_eq_true rfl) rfl (fun w X θ => ?_)
  refine W_seq ?_
  refine W_region ?_
  refine WO_step 1 [0] [0, 1] True ⟨[(0, .one (.e (.sl 0 0 k2))), (1, I i3)], [.row .rcd x1 true]⟩ (by kernel_rfl) trivial ?_
  refine WO_nil rfl ?_
  refine thenS_n ?_
  refine W_seq ?_
  refine W_seq ?_
  refine W_region ?_
  refine WO_step 1 [0] [0, 1, 5] True ⟨[(0, .one (.e (.sl 0 0 k2))), (1, I i3), (5, I 0)], [.row .rcd x1 true]⟩ (by kernel_rfl) trivial ?_
  refine WO_nil rfl ?_
  refine thenS_n ?_
  refine W_block ?_
  refine W_loop ?_
  refine bindO_e h (fun v102 hv102 h => ?_)
  refine WL_cut (laws_markRecordS_L1_ok w X θ k2 v102 n x1 i3 0 hv102) ?_
  obtain ⟨x89, i90⟩ := v102
  rintro _ _ ⟨rfl, rfl⟩
  refine blockS_y ?_
  refine thenS_n ?_
  refine W_seq ?_
  refine W_region ?_
  refine WO_step 2 [0] [4] True ⟨[(4, I i90)], [.row .rcd x89 true]⟩ (by kernel_rfl) trivial ?_
  refine WO_nil rfl ?_
  refine thenS_n ?_
  refine W_ret ?_
  cases h
  exact ⟨[0], True, by kernel_rfl, trivial⟩

/- laws.markIntS -/
def laws_markIntS_L1 (k2 : Nat) : Nat → (List Int) → Int → Int → Option (((List Int) × Int))
| 0, _, _, _ => none
| n + 1, x49, i50, i51 =>
 iteO (decide (i51 < ((k2 : Nat) : Int)))
 (guardO (0 ≤ i51 ∧ i51 < ((k2 : Nat) : Int)) <|
 laws_markIntS_L1 k2 n (x49.set i51.toNat i50) (w64 (i50 + 1)) (w64 (i51 + 1)))
 (some (x49, i50))

theorem laws_markIntS_L1_ok (w : World) (X : Nat → Prop) (θ : List Loc) (k2 : Nat) (v : ((List Int) × Int)) : ∀ (n : Nat) (x49 : List Int) (i50 : Int) (i51 : Int), laws_markIntS_L1 k2 n x49 i50 i51 = some v → WL EE ⟨w, X, θ, 19, 1⟩ (subC [1, 0, 1, 4, 4] (bodyC Try.f36)) (fun (e : Exit) (s : St) => (match v with | (x59, i60) => e = .exit 0 ∧ s = ⟨[(1, I i60)], [.row .int x59 true]⟩ : Prop)) ⟨[(0, .one (.e (.sl 0 0 k2))), (1, I i50), (5, I i51)], [.row .int x49 true]⟩ := by
  intro n
  induction n with
  | zero => intro _ _ _ h; exact none_e h
  | succ n ih =>
    intro x49 i50 i51 h
    rw [laws_markIntS_L1] at h
    refine WL_round ?_
    refine W_seq ?_
    refine W_seq ?_
    refine W_region ?_
    refine WO_step 4 [0] [0, 1, 5, 9] (True ∧ (True ∧ True)) ⟨[(0, .one (.e (.sl 0 0 k2))), (1, I i50), (5, I i51), (9, B (decide (i51 < ((k2 : Nat) : Int))))], [.row .int x49 true]⟩ (by kernel_rfl) ⟨trivial, trivial, trivial⟩ ?_
    refine WO_nil rfl ?_
    refine thenS_n ?_
    refine iteO_e h (fun hb63 h => W_true rfl hb63 ?_) (fun hb63 h => W_false rfl hb63 ?_)
    · refine W_sub [0] [0, 1, 5] (st' := ⟨[(0, .one (.e (.sl 0 0 k2))), (1, I i50), (5, I i51)], [.row .int x49 true]⟩) (by kernel_rfl) ?_
      refine W_skip ?_
      refine thenS_n ?_
      refine W_seq ?_
      refine W_block ?_
      refine W_seq ?_
      refine W_region ?_
      refine guardO_e h (fun hg65 h => ?_)
      refine WO_step 5 [0] [0, 1, 5] ((0 ≤ i51 ∧ i51 < ((k2 : Nat) : Int)) ∧ (True ∧ True)) ⟨[(0, .one (.e (.sl 0 0 k2))), (1, I i50), (5, I i51)], [.row .int (x49.set i51.toNat i50) true]⟩ (by kernel_rfl) ⟨hg65, trivial, trivial⟩ ?_
      refine WO_nil rfl ?_
      refine thenS_n ?_
      refine W_region ?_
      refine WO_step 3 [0] [0, 1, 5] (True ∧ True) ⟨[(0, .one (.e (.sl 0 0 k2))), (1, I (w64 (i50 + 1))), (5, I i51)], [.row .int (x49.set i51.toNat i50) true]⟩ (by kernel_rfl) ⟨trivial, trivial⟩ ?_
      refine WO_nil rfl ?_
      refine blockS_n ?_
      refine thenS_n ?_
      refine W_region ?_
      refine WO_step 3 [0] [0, 1, 5] (True ∧ True) ⟨[(0, .one (.e (.sl 0 0 k2))), (1, I (w64 (i50 + 1))), (5, I (w64 (i51 + 1)))], [.row .int (x49.set i51.toNat i50) true]⟩ (by kernel_rfl) ⟨trivial, trivial⟩ ?_
      refine WO_nil rfl ?_
      refine thenS_n ?_
      exact ih _ _ _ h
    · refine W_sub [0] [1] (st' := ⟨[(1, I i50)], [.row .int x49 true]⟩) (by kernel_rfl) ?_
      refine W_exit ?_
      refine thenS_e ?_
      refine thenS_e ?_
      cases h
      exact And.intro rfl rfl

def laws_markIntS (n : Nat) (x1 : List Int) (k2 : Nat) (i3 : Int) : Option ((List Int) × Int) :=
 bindO (laws_markIntS_L1 k2 n x1 i3 0) fun v66 =>
 match v66 with
 | (x59, i60) => (some (x59, i60))


theorem laws_markIntS_ok (n : Nat) (x1 : List Int) (k2 : Nat) (i3 : Int) (x34 : List Int) (i35 : Int) (h : laws_markIntS n x1 k2 i3 = some (x34, i35)) : FOk EE 36 [.one (.e (.sl 0 0 k2)), I i3] [.row .int x1 true] (I i35) [.row .int x34 true] := by
  unfold laws_markIntS at h
  refine FOk_of_W 19 1 Try.func36 rfl rfl (Nat.le_of_ble_eq_true rfl) rfl (fun w X θ => ?_)
  refine W_seq ?_
  refine W_region ?_
  refine WO_step 1 [0] [0, 1] True ⟨[(0, .one (.e (.sl 0 0 k2))), (1, I i3)], [.row .int x1 true]⟩ (by kernel_rfl) trivial ?_
  refine WO_nil rfl ?_
  refine thenS_n ?_
  refine W_seq ?_
  refine W_seq ?_
  refine W_region ?_
  refine WO_step 1 [0] [0, 1, 5] True ⟨[(0, .one (.e (.sl 0 0 k2))), (1, I i3), (5, I 0)], [.row .int x1 true]⟩ (by kernel_rfl) trivial ?_
  refine WO_nil rfl ?_
  refine thenS_n ?_
  refine W_block ?_
  refine W_loop ?_
  refine bindO_e h (fun v66 hv66 h => ?_)
  refine WL_cut (laws_markIntS_L1_ok w X θ k2 v66 n x1 i3 0 hv66) ?_
  obtain ⟨x59, i60⟩ := v66
  rintro _ _ ⟨rfl, rfl⟩
  refine blockS_y ?_
  refine thenS_n ?_
  refine W_seq ?_
  refine W_region ?_
  refine WO_step 2 [0] [4] True ⟨[(4, I i60)], [.row .int x59 true]⟩ (by kernel_rfl) trivial ?_
  refine WO_nil rfl ?_
  refine thenS_n ?_
  refine W_ret ?_
  cases h
  exact ⟨[0], True, by kernel_rfl, trivial⟩

/- laws.heldIntS -/
def laws_heldIntS_L1 (x1 : List Int) : Nat → Int → Int → Option ((Unit) ⊕ (Int))
| 0, _, _ => none
| n + 1, i54, i55 =>
 iteO (decide (i55 < ((x1.length : Nat) : Int)))
 (guardO (0 ≤ i55 ∧ i55 < ((x1.length : Nat) : Int)) <|
 iteO (!decide ((x1.getD i55.toNat 0) = i54))
 (some (.inl ()))
 (laws_heldIntS_L1 x1 n (w64 (i54 + 1)) (w64 (i55 + 1))))
 (some (.inr i54))

theorem laws_heldIntS_L1_ok (w : World) (X : Nat → Prop) (θ : List Loc) (x1 : List Int) (v : (Unit) ⊕ (Int)) : ∀ (n : Nat) (i54 : Int) (i55 : Int), laws_heldIntS_L1 x1 n i54 i55 = some v → WL EE ⟨w, X, θ, 21, 1⟩ (subC [1, 0, 1, 4, 4] (bodyC Try.f37)) (fun (e : Exit) (s : St) => (match v with | (.inl _) => e = .ret ∧ s = ⟨[(4, I (-1))], [.row .int x1 false]⟩ | (.inr i66) => e = .exit 0 ∧ s = ⟨[(1, I i66)], [.row .int x1 false]⟩ : Prop)) ⟨[(0, .one (.e (.sl 0 0 x1.length))), (1, I i54), (5, I i55)], [.row .int x1 false]⟩ := by
  intro n
  induction n with
  | zero => intro _ _ h; exact none_e h
  | succ n ih =>
    intro i54 i55 h
    rw [laws_heldIntS_L1] at h
    refine WL_round ?_
    refine W_seq ?_
    refine W_seq ?_
    refine W_region ?_
    refine WO_step 4 [0] [0, 1, 5, 9] (True ∧ (True ∧ True)) ⟨[(0, .one (.e (.sl 0 0 x1.length))), (1, I i54), (5, I i55), (9, B (decide (i55 < ((x1.length : Nat) : Int))))], [.row .int x1 false]⟩ (by kernel_rfl) ⟨trivial, trivial, trivial⟩ ?_
    refine WO_nil rfl ?_
    refine thenS_n ?_
    refine iteO_e h (fun hb69 h => W_true rfl hb69 ?_) (fun hb69 h => W_false rfl hb69 ?_)
    · refine W_sub [0] [0, 1, 5] (st' := ⟨[(0, .one (.e (.sl 0 0 x1.length))), (1, I i54), (5, I i55)], [.row .int x1 false]⟩) (by kernel_rfl) ?_
      refine W_skip ?_
      refine thenS_n ?_
      refine W_seq ?_
      refine W_block ?_
      refine W_seq ?_
      refine W_seq ?_
      refine W_region ?_
      refine guardO_e h (fun hg73 h => ?_)
      refine WO_step 6 [0] [0, 1, 5, 17] ((0 ≤ i55 ∧ i55 < ((x1.length : Nat) : Int)) ∧ (True ∧ (True ∧ True))) ⟨[(0, .one (.e (.sl 0 0 x1.length))), (1, I i54), (5, I i55), (17, B (!decide ((x1.getD i55.toNat 0) = i54)))], [.row .int x1 false]⟩ (by kernel_rfl) ⟨hg73, trivial, trivial, trivial⟩ ?_
      refine WO_nil rfl ?_
      refine thenS_n ?_
      refine iteO_e h (fun hb75 h => W_true rfl hb75 ?_) (fun hb75 h => W_false rfl hb75 ?_)
      · refine W_seq ?_
        refine W_region ?_
        refine WO_step 1 [0] [4] True ⟨[(4, I (-1))], [.row .int x1 false]⟩ (by kernel_rfl) trivial ?_
        refine WO_nil rfl ?_
        refine thenS_n ?_
        refine W_ret ?_
        refine thenS_r ?_
        refine blockS_r ?_
        refine thenS_r ?_
        refine thenS_r ?_
        cases h
        exact And.intro rfl rfl
      · refine W_sub [0] [0, 1, 5] (st' := ⟨[(0, .one (.e (.sl 0 0 x1.length))), (1, I i54), (5, I i55)], [.row .int x1 false]⟩) (by kernel_rfl) ?_
        refine W_skip ?_
        refine thenS_n ?_
        refine W_region ?_
        refine WO_step 3 [0] [0, 1, 5] (True ∧ True) ⟨[(0, .one (.e (.sl 0 0 x1.length))), (1, I (w64 (i54 + 1))), (5, I i55)], [.row .int x1 false]⟩ (by kernel_rfl) ⟨trivial, trivial⟩ ?_
        refine WO_nil rfl ?_
        refine blockS_n ?_
        refine thenS_n ?_
        refine W_region ?_
        refine WO_step 3 [0] [0, 1, 5] (True ∧ True) ⟨[(0, .one (.e (.sl 0 0 x1.length))), (1, I (w64 (i54 + 1))), (5, I (w64 (i55 + 1)))], [.row .int x1 false]⟩ (by kernel_rfl) ⟨trivial, trivial⟩ ?_
        refine WO_nil rfl ?_
        refine thenS_n ?_
        exact ih _ _ h
    · refine W_sub [0] [1] (st' := ⟨[(1, I i54)], [.row .int x1 false]⟩) (by kernel_rfl) ?_
      refine W_exit ?_
      refine thenS_e ?_
      refine thenS_e ?_
      cases h
      exact And.intro rfl rfl

def laws_heldIntS (n : Nat) (x1 : List Int) (i2 : Int) : Option (Int) :=
 bindO (laws_heldIntS_L1 x1 n i2 0) fun v76 =>
 match v76 with
 | (.inl _) => (some (-1))
 | (.inr i66) => (some i66)


theorem laws_heldIntS_ok (n : Nat) (x1 : List Int) (i2 : Int) (i39 : Int) (h : laws_heldIntS n x1 i2 = some i39) : FOk EE 37 [.one (.e (.sl 0 0 x1.length)), I i2] [.row .int x1 false] (I i39) [.row .int x1 false] := by
  unfold laws_heldIntS at h
  refine FOk_of_W 21 1 Try.func37 rfl rfl (Nat.le_of_ble_eq_true rfl) rfl (fun w X θ => ?_)
  refine W_seq ?_
  refine W_region ?_
  refine WO_step 1 [0] [0, 1] True ⟨[(0, .one (.e (.sl 0 0 x1.length))), (1, I i2)], [.row .int x1 false]⟩ (by kernel_rfl) trivial ?_
  refine WO_nil rfl ?_
  refine thenS_n ?_
  refine W_seq ?_
  refine W_seq ?_
  refine W_region ?_
  refine WO_step 1 [0] [0, 1, 5] True ⟨[(0, .one (.e (.sl 0 0 x1.length))), (1, I i2), (5, I 0)], [.row .int x1 false]⟩ (by kernel_rfl) trivial ?_
  refine WO_nil rfl ?_
  refine thenS_n ?_
  refine W_block ?_
  refine W_loop ?_
  refine bindO_e h (fun v76 hv76 h => ?_)
  refine WL_cut (laws_heldIntS_L1_ok w X θ x1 v76 n i2 0 hv76) ?_
  rcases v76 with _ | i66
  · rintro _ _ ⟨rfl, rfl⟩
    refine blockS_r ?_
    refine thenS_r ?_
    cases h
    exact ⟨[0], True, by kernel_rfl, trivial⟩
  · rintro _ _ ⟨rfl, rfl⟩
    refine blockS_y ?_
    refine thenS_n ?_
    refine W_seq ?_
    refine W_region ?_
    refine WO_step 2 [0] [4] True ⟨[(4, I i66)], [.row .int x1 false]⟩ (by kernel_rfl) trivial ?_
    refine WO_nil rfl ?_
    refine thenS_n ?_
    refine W_ret ?_
    cases h
    exact ⟨[0], True, by kernel_rfl, trivial⟩

/- laws.FnExactLosersOf -/
def laws_FnExactLosersOf (n : Nat) (x1 : List Nod) (x2 : List Rcd) : Option (Bool) :=
 bindO (laws_szNodeS n x1 1048576) fun i87 =>
 iteO (decide (i87 < 0))
 (some true)
 (bindO (laws_szRecordS x2 i87) fun i91 =>
 iteO (decide (i91 < 0))
 (some true)
 (bindO (laws_toNodeS n x1) fun x95 =>
 bindO (laws_toRecordS n x2) fun x97 =>
 bindO (spec_LosersOf n x95 x97) fun x99 =>
 bindO (laws_toNodeS n x1) fun x101 =>
 bindO (laws_toRecordS n x2) fun x103 =>
 bindO (impl_LosersOf n x101 x103) fun x105 =>
 bindO (laws_eqIntS n x105 x99) fun b107 =>
 iteO (!b107)
 (some false)
 (bindO (laws_toNodeS n x1) fun x111 =>
 bindO (laws_eqNodeS n x101 x111) fun b113 =>
 iteO (!b113)
 (some false)
 (bindO (laws_toRecordS n x2) fun x117 =>
 bindO (laws_eqRecordS n x103 x117) fun b119 =>
 iteO (!b119)
 (some false)
 (bindO (laws_markNodeS n x101 x101.length 1) fun (x123, i124) =>
 guardO (x101.length = x123.length) <|
 bindO (laws_markRecordS n x103 x103.length i124) fun (x127, i128) =>
 guardO (x103.length = x127.length) <|
 bindO (iteO (decide (i128 < 0))
 (some true)
 (bindO (laws_eqIntS n x105 x99) fun b137 =>
 some (!b137))) fun b134 =>
 iteO b134
 (some false)
 (bindO (laws_markIntS n x105 x105.length 1) fun (x141, i142) =>
 guardO (x105.length = x141.length) <|
 bindO (laws_heldIntS n x141 1) fun i145 =>
 iteO (decide (i145 < 0))
 (some false)
 (iteO (!decide (i145 = i142))
 (some false)
 (bindO (laws_toNodeS n x1) fun x151 =>
 bindO (laws_toRecordS n x2) fun x153 =>
 bindO (impl_LosersOf n x151 x153) fun x155 =>
 bindO (laws_eqIntS n x155 x99) fun b157 =>
 iteO (!b157)
 (some false)
 (bindO (laws_heldIntS n x141 1) fun i161 =>
 iteO (decide (i161 < 0))
 (some false)
 (iteO (!decide (i161 = i142))
 (some false)
 (some true)))))))))))

theorem laws_FnExactLosersOf_ok (n : Nat) (x1 : List Nod) (x2 : List Rcd) (b86 : Bool) (h : laws_FnExactLosersOf n x1 x2 = some b86) : FOk EE 9 [.one (.e (.sl 0 0 x1.length)), .one (.e (.sl 1 0 x2.length))] [.row .nod x1 false, .row .rcd x2 false] (B b86) [.row .nod x1 false, .row .rcd x2 false] := by
  unfold laws_FnExactLosersOf at h
  refine FOk_of_W 92 2 Try.func9 rfl rfl (Nat.le_of_ble_eq_true rfl) rfl (fun w X θ => ?_)
  refine W_seq ?_
  refine W_region ?_
  refine WO_step 1 [0, 1] [0, 1] True ⟨[(0, .one (.e (.sl 0 0 x1.length))), (1, .one (.e (.sl 1 0 x2.length)))], [.row .nod x1 false, .row .rcd x2 false]⟩ (by kernel_rfl) trivial ?_
  refine WO_nil rfl ?_
  refine thenS_n ?_
  refine W_seq ?_
  refine W_region ?_
  refine WO_step 1 [0, 1] [0, 1, 5] True ⟨[(0, .one (.e (.sl 0 0 x1.length))), (1, .one (.e (.sl 1 0 x2.length))), (5, I 1048576)], [.row .nod x1 false, .row .rcd x2 false]⟩ (by kernel_rfl) trivial ?_
  refine WO_nil rfl ?_
  refine thenS_n ?_
  refine W_seq ?_
  refine W_region ?_
  refine WO_step 2 [0, 1] [0, 1, 14, 15] True ⟨[(0, .one (.e (.sl 0 0 x1.length))), (1, .one (.e (.sl 1 0 x2.length))), (14, .one (.e (.sl 0 0 x1.length))), (15, I 1048576)], [.row .nod x1 false, .row .rcd x2 false]⟩ (by kernel_rfl) trivial ?_
  refine bindO_e h (fun i87 hc88 h => ?_)
  refine WO_call [.ro 0] Try.f26 rfl rfl rfl (by kernel_rfl) rfl rfl (by kernel_rfl) (laws_szNodeS_ok n x1 1048576 i87 hc88) (And.intro (And.intro rfl rfl) (trivial)) rfl ?_
  refine WO_step 1 [0, 1] [0, 1, 5] True ⟨[(0, .one (.e (.sl 0 0 x1.length))), (1, .one (.e (.sl 1 0 x2.length))), (5, I i87)], [.row .nod x1 false, .row .rcd x2 false]⟩ (by kernel_rfl) trivial ?_
  refine WO_nil rfl ?_
  refine thenS_n ?_
  refine W_seq ?_
  refine W_seq ?_
  refine W_region ?_
  refine WO_step 2 [0, 1] [0, 1, 5, 18] (True ∧ True) ⟨[(0, .one (.e (.sl 0 0 x1.length))), (1, .one (.e (.sl 1 0 x2.length))), (5, I i87), (18, B (decide (i87 < 0)))], [.row .nod x1 false, .row .rcd x2 false]⟩ (by kernel_rfl) ⟨trivial, trivial⟩ ?_
  refine WO_nil rfl ?_
  refine thenS_n ?_
  refine iteO_e h (fun hb90 h => W_true rfl hb90 ?_) (fun hb90 h => W_false rfl hb90 ?_)
  · refine W_seq ?_
    refine W_region ?_
    refine WO_step 1 [0, 1] [4] True ⟨[(4, B true)], [.row .nod x1 false, .row .rcd x2 false]⟩ (by kernel_rfl) trivial ?_
    refine WO_nil rfl ?_
    refine thenS_n ?_
    refine W_ret ?_
    refine thenS_r ?_
    cases h
    exact ⟨[0, 1], True, by kernel_rfl, trivial⟩
  · refine W_sub [0, 1] [0, 1, 5] (st' := ⟨[(0, .one (.e (.sl 0 0 x1.length))), (1, .one (.e (.sl 1 0 x2.length))), (5, I i87)], [.row .nod x1 false, .row .rcd x2 false]⟩) (by kernel_rfl) ?_
    refine W_skip ?_
    refine thenS_n ?_
    refine W_seq ?_
    refine W_region ?_
    refine WO_step 2 [0, 1] [0, 1, 19, 20] True ⟨[(0, .one (.e (.sl 0 0 x1.length))), (1, .one (.e (.sl 1 0 x2.length))), (19, .one (.e (.sl 1 0 x2.length))), (20, I i87)], [.row .nod x1 false, .row .rcd x2 false]⟩ (by kernel_rfl) trivial ?_
    refine bindO_e h (fun i91 hc92 h => ?_)
    refine WO_call [.ro 1] Try.f27 rfl rfl rfl (by kernel_rfl) rfl rfl (by kernel_rfl) (laws_szRecordS_ok x2 i87 i91 hc92) (And.intro (And.intro rfl rfl) (trivial)) rfl ?_
    refine WO_step 1 [0, 1] [0, 1, 5] True ⟨[(0, .one (.e (.sl 0 0 x1.length))), (1, .one (.e (.sl 1 0 x2.length))), (5, I i91)], [.row .nod x1 false, .row .rcd x2 false]⟩ (by kernel_rfl) trivial ?_
    refine WO_nil rfl ?_
    refine thenS_n ?_
    refine W_seq ?_
    refine W_seq ?_
    refine W_region ?_
    refine WO_step 2 [0, 1] [0, 1, 23] (True ∧ True) ⟨[(0, .one (.e (.sl 0 0 x1.length))), (1, .one (.e (.sl 1 0 x2.length))), (23, B (decide (i91 < 0)))], [.row .nod x1 false, .row .rcd x2 false]⟩ (by kernel_rfl) ⟨trivial, trivial⟩ ?_
    refine WO_nil rfl ?_
    refine thenS_n ?_
    refine iteO_e h (fun hb94 h => W_true rfl hb94 ?_) (fun hb94 h => W_false rfl hb94 ?_)
    · refine W_seq ?_
      refine W_region ?_
      refine WO_step 1 [0, 1] [4] True ⟨[(4, B true)], [.row .nod x1 false, .row .rcd x2 false]⟩ (by kernel_rfl) trivial ?_
      refine WO_nil rfl ?_
      refine thenS_n ?_
      refine W_ret ?_
      refine thenS_r ?_
      cases h
      exact ⟨[0, 1], True, by kernel_rfl, trivial⟩
    · refine W_sub [0, 1] [0, 1] (st' := ⟨[(0, .one (.e (.sl 0 0 x1.length))), (1, .one (.e (.sl 1 0 x2.length)))], [.row .nod x1 false, .row .rcd x2 false]⟩) (by kernel_rfl) ?_
      refine W_skip ?_
      refine thenS_n ?_
      refine W_seq ?_
      refine W_region ?_
      refine WO_step 1 [0, 1] [0, 1, 24] True ⟨[(0, .one (.e (.sl 0 0 x1.length))), (1, .one (.e (.sl 1 0 x2.length))), (24, .one (.e (.sl 0 0 x1.length)))], [.row .nod x1 false, .row .rcd x2 false]⟩ (by kernel_rfl) trivial ?_
      refine bindO_e h (fun x95 hc96 h => ?_)
      refine WO_call [.ro 0] Try.f28 rfl rfl rfl (by kernel_rfl) rfl rfl (by kernel_rfl) (laws_toNodeS_ok n x1 x95 hc96) (And.intro (And.intro rfl rfl) (trivial)) rfl ?_
      refine WO_step 1 [0, 1, 2] [0, 1, 25, 26] True ⟨[(0, .one (.e (.sl 0 0 x1.length))), (1, .one (.e (.sl 1 0 x2.length))), (25, .one (.e (.sl 2 0 x95.length))), (26, .one (.e (.sl 1 0 x2.length)))], [.row .nod x1 false, .row .rcd x2 false, .row .nod x95 true]⟩ (by kernel_rfl) trivial ?_
      refine bindO_e h (fun x97 hc98 h => ?_)
      refine WO_call [.ro 1] Try.f29 rfl rfl rfl (by kernel_rfl) rfl rfl (by kernel_rfl) (laws_toRecordS_ok n x2 x97 hc98) (And.intro (And.intro rfl rfl) (trivial)) rfl ?_
      refine WO_sub [0, 1, 2, 3] [0, 1, 25, 27] (st' := ⟨[(0, .one (.e (.sl 0 0 x1.length))), (1, .one (.e (.sl 1 0 x2.length))), (25, .one (.e (.sl 2 0 x95.length))), (27, .one (.e (.sl 3 0 x97.length)))], [.row .nod x1 false, .row .rcd x2 false, .row .nod x95 true, .row .rcd x97 true]⟩) (by kernel_rfl) ?_
      refine bindO_e h (fun x99 hc100 h => ?_)
      refine WO_call [.ro 2, .ro 3] Try.f15 rfl rfl rfl (by kernel_rfl) rfl rfl (by kernel_rfl) (spec_LosersOf_ok n x95 x97 x99 hc100) (And.intro (And.intro rfl rfl) (And.intro (And.intro rfl rfl) (trivial))) rfl ?_
      refine WO_step 1 [0, 1, 4] [0, 1, 6] True ⟨[(0, .one (.e (.sl 0 0 x1.length))), (1, .one (.e (.sl 1 0 x2.length))), (6, .one (.e (.sl 2 0 x99.length)))], [.row .nod x1 false, .row .rcd x2 false, .row .int x99 true]⟩ (by kernel_rfl) trivial ?_
      refine WO_nil rfl ?_
      refine thenS_n ?_
      refine W_seq ?_
      refine W_region ?_
      refine WO_step 1 [0, 1, 2] [0, 1, 6, 29] True ⟨[(0, .one (.e (.sl 0 0 x1.length))), (1, .one (.e (.sl 1 0 x2.length))), (6, .one (.e (.sl 2 0 x99.length))), (29, .one (.e (.sl 0 0 x1.length)))], [.row .nod x1 false, .row .rcd x2 false, .row .int x99 true]⟩ (by kernel_rfl) trivial ?_
      refine bindO_e h (fun x101 hc102 h => ?_)
      refine WO_call [.ro 0] Try.f28 rfl rfl rfl (by kernel_rfl) rfl rfl (by kernel_rfl) (laws_toNodeS_ok n x1 x101 hc102) (And.intro (And.intro rfl rfl) (trivial)) rfl ?_
      refine WO_step 1 [0, 1, 2, 3] [0, 1, 6, 7] True ⟨[(0, .one (.e (.sl 0 0 x1.length))), (1, .one (.e (.sl 1 0 x2.length))), (6, .one (.e (.sl 2 0 x99.length))), (7, .one (.e (.sl 3 0 x101.length)))], [.row .nod x1 false, .row .rcd x2 false, .row .int x99 true, .row .nod x101 true]⟩ (by kernel_rfl) trivial ?_
      refine WO_nil rfl ?_
      refine thenS_n ?_
      refine W_seq ?_
      refine W_region ?_
      refine WO_step 1 [0, 1, 2, 3] [0, 1, 6, 7, 31] True ⟨[(0, .one (.e (.sl 0 0 x1.length))), (1, .one (.e (.sl 1 0 x2.length))), (6, .one (.e (.sl 2 0 x99.length))), (7, .one (.e (.sl 3 0 x101.length))), (31, .one (.e (.sl 1 0 x2.length)))], [.row .nod x1 false, .row .rcd x2 false, .row .int x99 true, .row .nod x101 true]⟩ (by kernel_rfl) trivial ?_
      refine bindO_e h (fun x103 hc104 h => ?_)
      refine WO_call [.ro 1] Try.f29 rfl rfl rfl (by kernel_rfl) rfl rfl (by kernel_rfl) (laws_toRecordS_ok n x2 x103 hc104) (And.intro (And.intro rfl rfl) (trivial)) rfl ?_
      refine WO_step 1 [0, 1, 2, 3, 4] [0, 1, 6, 7, 8] True ⟨[(0, .one (.e (.sl 0 0 x1.length))), (1, .one (.e (.sl 1 0 x2.length))), (6, .one (.e (.sl 2 0 x99.length))), (7, .one (.e (.sl 3 0 x101.length))), (8, .one (.e (.sl 4 0 x103.length)))], [.row .nod x1 false, .row .rcd x2 false, .row .int x99 true, .row .nod x101 true, .row .rcd x103 true]⟩ (by kernel_rfl) trivial ?_
      refine WO_nil rfl ?_
      refine thenS_n ?_
      refine W_seq ?_
      refine W_region ?_
      refine WO_step 2 [0, 1, 2, 3, 4] [0, 1, 6, 7, 8, 33, 34] True ⟨[(0, .one (.e (.sl 0 0 x1.length))), (1, .one (.e (.sl 1 0 x2.length))), (6, .one (.e (.sl 2 0 x99.length))), (7, .one (.e (.sl 3 0 x101.length))), (8, .one (.e (.sl 4 0 x103.length))), (33, .one (.e (.sl 3 0 x101.length))), (34, .one (.e (.sl 4 0 x103.length)))], [.row .nod x1 false, .row .rcd x2 false, .row .int x99 true, .row .nod x101 true, .row .rcd x103 true]⟩ (by kernel_rfl) trivial ?_
      refine bindO_e h (fun x105 hc106 h => ?_)
      refine WO_call [.ro 3, .ro 4] Try.f13 rfl rfl rfl (by kernel_rfl) rfl rfl (by kernel_rfl) (impl_LosersOf_ok n x101 x103 x105 hc106) (And.intro (And.intro rfl rfl) (And.intro (And.intro rfl rfl) (trivial))) rfl ?_
      refine WO_step 1 [0, 1, 2, 3, 4, 5] [0, 1, 6, 7, 8, 9] True ⟨[(0, .one (.e (.sl 0 0 x1.length))), (1, .one (.e (.sl 1 0 x2.length))), (6, .one (.e (.sl 2 0 x99.length))), (7, .one (.e (.sl 3 0 x101.length))), (8, .one (.e (.sl 4 0 x103.length))), (9, .one (.e (.sl 5 0 x105.length)))], [.row .nod x1 false, .row .rcd x2 false, .row .int x99 true, .row .nod x101 true, .row .rcd x103 true, .row .int x105 true]⟩ (by kernel_rfl) trivial ?_
      refine WO_nil rfl ?_
      refine thenS_n ?_
      refine W_seq ?_
      refine W_seq ?_
      refine W_region ?_
      refine WO_step 2 [0, 1, 2, 3, 4, 5] [0, 1, 6, 7, 8, 9, 36, 37] True ⟨[(0, .one (.e (.sl 0 0 x1.length))), (1, .one (.e (.sl 1 0 x2.length))), (6, .one (.e (.sl 2 0 x99.length))), (7, .one (.e (.sl 3 0 x101.length))), (8, .one (.e (.sl 4 0 x103.length))), (9, .one (.e (.sl 5 0 x105.length))), (36, .one (.e (.sl 5 0 x105.length))), (37, .one (.e (.sl 2 0 x99.length)))], [.row .nod x1 false, .row .rcd x2 false, .row .int x99 true, .row .nod x101 true, .row .rcd x103 true, .row .int x105 true]⟩ (by kernel_rfl) trivial ?_
      refine bindO_e h (fun b107 hc108 h => ?_)
      refine WO_call [.ro 5, .ro 2] Try.f35 rfl rfl rfl (by kernel_rfl) rfl rfl (by kernel_rfl) (laws_eqIntS_ok n x105 x99 b107 hc108) (And.intro (And.intro rfl rfl) (And.intro (And.intro rfl rfl) (trivial))) rfl ?_
      refine WO_step 1 [0, 1, 2, 3, 4, 5] [0, 1, 6, 7, 8, 9, 39] True ⟨[(0, .one (.e (.sl 0 0 x1.length))), (1, .one (.e (.sl 1 0 x2.length))), (6, .one (.e (.sl 2 0 x99.length))), (7, .one (.e (.sl 3 0 x101.length))), (8, .one (.e (.sl 4 0 x103.length))), (9, .one (.e (.sl 5 0 x105.length))), (39, B (!b107))], [.row .nod x1 false, .row .rcd x2 false, .row .int x99 true, .row .nod x101 true, .row .rcd x103 true, .row .int x105 true]⟩ (by kernel_rfl) trivial ?_
      refine WO_nil rfl ?_
      refine thenS_n ?_
      refine iteO_e h (fun hb110 h => W_true rfl hb110 ?_) (fun hb110 h => W_false rfl hb110 ?_)
      · refine W_seq ?_
        refine W_region ?_
        refine WO_step 1 [0, 1] [4] True ⟨[(4, B false)], [.row .nod x1 false, .row .rcd x2 false]⟩ (by kernel_rfl) trivial ?_
        refine WO_nil rfl ?_
        refine thenS_n ?_
        refine W_ret ?_
        refine thenS_r ?_
        cases h
        exact ⟨[0, 1], True, by kernel_rfl, trivial⟩
      · refine W_sub [0, 1, 2, 3, 4, 5] [0, 1, 6, 7, 8, 9] (st' := ⟨[(0, .one (.e (.sl 0 0 x1.length))), (1, .one (.e (.sl 1 0 x2.length))), (6, .one (.e (.sl 2 0 x99.length))), (7, .one (.e (.sl 3 0 x101.length))), (8, .one (.e (.sl 4 0 x103.length))), (9, .one (.e (.sl 5 0 x105.length)))], [.row .nod x1 false, .row .rcd x2 false, .row .int x99 true, .row .nod x101 true, .row .rcd x103 true, .row .int x105 true]⟩) (by kernel_rfl) ?_
        refine W_skip ?_
        refine thenS_n ?_
        refine W_seq ?_
        refine W_seq ?_
        refine W_region ?_
        refine WO_step 2 [0, 1, 2, 3, 4, 5] [0, 1, 6, 7, 8, 9, 40, 41] True ⟨[(0, .one (.e (.sl 0 0 x1.length))), (1, .one (.e (.sl 1 0 x2.length))), (6, .one (.e (.sl 2 0 x99.length))), (7, .one (.e (.sl 3 0 x101.length))), (8, .one (.e (.sl 4 0 x103.length))), (9, .one (.e (.sl 5 0 x105.length))), (40, .one (.e (.sl 3 0 x101.length))), (41, .one (.e (.sl 0 0 x1.length)))], [.row .nod x1 false, .row .rcd x2 false, .row .int x99 true, .row .nod x101 true, .row .rcd x103 true, .row .int x105 true]⟩ (by kernel_rfl) trivial ?_
        refine bindO_e h (fun x111 hc112 h => ?_)
        refine WO_call [.ro 0] Try.f28 rfl rfl rfl (by kernel_rfl) rfl rfl (by kernel_rfl) (laws_toNodeS_ok n x1 x111 hc112) (And.intro (And.intro rfl rfl) (trivial)) rfl ?_
        refine WO_sub [0, 1, 2, 3, 4, 5, 6] [0, 1, 6, 7, 8, 9, 40, 42] (st' := ⟨[(0, .one (.e (.sl 0 0 x1.length))), (1, .one (.e (.sl 1 0 x2.length))), (6, .one (.e (.sl 2 0 x99.length))), (7, .one (.e (.sl 3 0 x101.length))), (8, .one (.e (.sl 4 0 x103.length))), (9, .one (.e (.sl 5 0 x105.length))), (40, .one (.e (.sl 3 0 x101.length))), (42, .one (.e (.sl 6 0 x111.length)))], [.row .nod x1 false, .row .rcd x2 false, .row .int x99 true, .row .nod x101 true, .row .rcd x103 true, .row .int x105 true, .row .nod x111 true]⟩) (by kernel_rfl) ?_
        refine bindO_e h (fun b113 hc114 h => ?_)
        refine WO_call [.ro 3, .ro 6] Try.f30 rfl rfl rfl (by kernel_rfl) rfl rfl (by kernel_rfl) (laws_eqNodeS_ok n x101 x111 b113 hc114) (And.intro (And.intro rfl rfl) (And.intro (And.intro rfl rfl) (trivial))) rfl ?_
        refine WO_step 1 [0, 1, 2, 3, 4, 5] [0, 1, 6, 7, 8, 9, 44] True ⟨[(0, .one (.e (.sl 0 0 x1.length))), (1, .one (.e (.sl 1 0 x2.length))), (6, .one (.e (.sl 2 0 x99.length))), (7, .one (.e (.sl 3 0 x101.length))), (8, .one (.e (.sl 4 0 x103.length))), (9, .one (.e (.sl 5 0 x105.length))), (44, B (!b113))], [.row .nod x1 false, .row .rcd x2 false, .row .int x99 true, .row .nod x101 true, .row .rcd x103 true, .row .int x105 true]⟩ (by kernel_rfl) trivial ?_
        refine WO_nil rfl ?_
        refine thenS_n ?_
        refine iteO_e h (fun hb116 h => W_true rfl hb116 ?_) (fun hb116 h => W_false rfl hb116 ?_)
        · refine W_seq ?_
          refine W_region ?_
          refine WO_step 1 [0, 1] [4] True ⟨[(4, B false)], [.row .nod x1 false, .row .rcd x2 false]⟩ (by kernel_rfl) trivial ?_
          refine WO_nil rfl ?_
          refine thenS_n ?_
          refine W_ret ?_
          refine thenS_r ?_
          cases h
          exact ⟨[0, 1], True, by kernel_rfl, trivial⟩
        · refine W_sub [0, 1, 2, 3, 4, 5] [0, 1, 6, 7, 8, 9] (st' := ⟨[(0, .one (.e (.sl 0 0 x1.length))), (1, .one (.e (.sl 1 0 x2.length))), (6, .one (.e (.sl 2 0 x99.length))), (7, .one (.e (.sl 3 0 x101.length))), (8, .one (.e (.sl 4 0 x103.length))), (9, .one (.e (.sl 5 0 x105.length)))], [.row .nod x1 false, .row .rcd x2 false, .row .int x99 true, .row .nod x101 true, .row .rcd x103 true, .row .int x105 true]⟩) (by kernel_rfl) ?_
          refine W_skip ?_
          refine thenS_n ?_
          refine W_seq ?_
          refine W_seq ?_
          refine W_region ?_
          refine WO_step 2 [0, 1, 2, 3, 4, 5] [0, 1, 6, 7, 8, 9, 45, 46] True ⟨[(0, .one (.e (.sl 0 0 x1.length))), (1, .one (.e (.sl 1 0 x2.length))), (6, .one (.e (.sl 2 0 x99.length))), (7, .one (.e (.sl 3 0 x101.length))), (8, .one (.e (.sl 4 0 x103.length))), (9, .one (.e (.sl 5 0 x105.length))), (45, .one (.e (.sl 4 0 x103.length))), (46, .one (.e (.sl 1 0 x2.length)))], [.row .nod x1 false, .row .rcd x2 false, .row .int x99 true, .row .nod x101 true, .row .rcd x103 true, .row .int x105 true]⟩ (by kernel_rfl) trivial ?_
          refine bindO_e h (fun x117 hc118 h => ?_)
          refine WO_call [.ro 1] Try.f29 rfl rfl rfl (by kernel_rfl) rfl rfl (by kernel_rfl) (laws_toRecordS_ok n x2 x117 hc118) (And.intro (And.intro rfl rfl) (trivial)) rfl ?_
          refine WO_sub [0, 1, 2, 3, 4, 5, 6] [0, 1, 6, 7, 8, 9, 45, 47] (st' := ⟨[(0, .one (.e (.sl 0 0 x1.length))), (1, .one (.e (.sl 1 0 x2.length))), (6, .one (.e (.sl 2 0 x99.length))), (7, .one (.e (.sl 3 0 x101.length))), (8, .one (.e (.sl 4 0 x103.length))), (9, .one (.e (.sl 5 0 x105.length))), (45, .one (.e (.sl 4 0 x103.length))), (47, .one (.e (.sl 6 0 x117.length)))], [.row .nod x1 false, .row .rcd x2 false, .row .int x99 true, .row .nod x101 true, .row .rcd x103 true, .row .int x105 true, .row .rcd x117 true]⟩) (by kernel_rfl) ?_
          refine bindO_e h (fun b119 hc120 h => ?_)
          refine WO_call [.ro 4, .ro 6] Try.f31 rfl rfl rfl (by kernel_rfl) rfl rfl (by kernel_rfl) (laws_eqRecordS_ok n x103 x117 b119 hc120) (And.intro (And.intro rfl rfl) (And.intro (And.intro rfl rfl) (trivial))) rfl ?_
          refine WO_step 1 [0, 1, 2, 3, 4, 5] [0, 1, 6, 7, 8, 9, 49] True ⟨[(0, .one (.e (.sl 0 0 x1.length))), (1, .one (.e (.sl 1 0 x2.length))), (6, .one (.e (.sl 2 0 x99.length))), (7, .one (.e (.sl 3 0 x101.length))), (8, .one (.e (.sl 4 0 x103.length))), (9, .one (.e (.sl 5 0 x105.length))), (49, B (!b119))], [.row .nod x1 false, .row .rcd x2 false, .row .int x99 true, .row .nod x101 true, .row .rcd x103 true, .row .int x105 true]⟩ (by kernel_rfl) trivial ?_
          refine WO_nil rfl ?_
          refine thenS_n ?_
          refine iteO_e h (fun hb122 h => W_true rfl hb122 ?_) (fun hb122 h => W_false rfl hb122 ?_)
          · refine W_seq ?_
            refine W_region ?_
            refine WO_step 1 [0, 1] [4] True ⟨[(4, B false)], [.row .nod x1 false, .row .rcd x2 false]⟩ (by kernel_rfl) trivial ?_
            refine WO_nil rfl ?_
            refine thenS_n ?_
            refine W_ret ?_
            refine thenS_r ?_
            cases h
            exact ⟨[0, 1], True, by kernel_rfl, trivial⟩
          · refine W_sub [0, 1, 2, 3, 4, 5] [0, 1, 6, 7, 8, 9] (st' := ⟨[(0, .one (.e (.sl 0 0 x1.length))), (1, .one (.e (.sl 1 0 x2.length))), (6, .one (.e (.sl 2 0 x99.length))), (7, .one (.e (.sl 3 0 x101.length))), (8, .one (.e (.sl 4 0 x103.length))), (9, .one (.e (.sl 5 0 x105.length)))], [.row .nod x1 false, .row .rcd x2 false, .row .int x99 true, .row .nod x101 true, .row .rcd x103 true, .row .int x105 true]⟩) (by kernel_rfl) ?_
            refine W_skip ?_
            refine thenS_n ?_
            refine W_seq ?_
            refine W_region ?_
            refine WO_step 1 [0, 1, 2, 3, 4, 5] [0, 1, 6, 7, 8, 9, 10] True ⟨[(0, .one (.e (.sl 0 0 x1.length))), (1, .one (.e (.sl 1 0 x2.length))), (6, .one (.e (.sl 2 0 x99.length))), (7, .one (.e (.sl 3 0 x101.length))), (8, .one (.e (.sl 4 0 x103.length))), (9, .one (.e (.sl 5 0 x105.length))), (10, I 1)], [.row .nod x1 false, .row .rcd x2 false, .row .int x99 true, .row .nod x101 true, .row .rcd x103 true, .row .int x105 true]⟩ (by kernel_rfl) trivial ?_
            refine WO_nil rfl ?_
            refine thenS_n ?_
            refine W_seq ?_
            refine W_region ?_
            refine WO_step 2 [0, 1, 2, 4, 5, 3] [0, 1, 6, 8, 9, 50, 51] True ⟨[(0, .one (.e (.sl 0 0 x1.length))), (1, .one (.e (.sl 1 0 x2.length))), (6, .one (.e (.sl 2 0 x99.length))), (8, .one (.e (.sl 3 0 x103.length))), (9, .one (.e (.sl 4 0 x105.length))), (50, .one (.e (.sl 5 0 x101.length))), (51, I 1)], [.row .nod x1 false, .row .rcd x2 false, .row .int x99 true, .row .rcd x103 true, .row .int x105 true, .row .nod x101 true]⟩ (by kernel_rfl) trivial ?_
            refine bindO_e h (fun v169 hc125 h => ?_)
            obtain ⟨x123, i124⟩ := v169
            refine guardO_e h (fun hl126 h => ?_)
            refine WO_call [.own 5] Try.f32 rfl rfl rfl (by kernel_rfl) rfl rfl (by kernel_rfl) (laws_markNodeS_ok n x101 x101.length 1 x123 i124 hc125) (And.intro (And.intro rfl (And.intro rfl hl126)) (trivial)) rfl ?_
            refine WO_sub [0, 1, 2, 3, 4, 5] [0, 1, 6, 8, 9, 50, 51, 52] (st' := ⟨[(0, .one (.e (.sl 0 0 x1.length))), (1, .one (.e (.sl 1 0 x2.length))), (6, .one (.e (.sl 2 0 x99.length))), (8, .one (.e (.sl 3 0 x103.length))), (9, .one (.e (.sl 4 0 x105.length))), (50, .one (.e (.sl 5 0 x101.length))), (51, I 1), (52, I i124)], [.row .nod x1 false, .row .rcd x2 false, .row .int x99 true, .row .rcd x103 true, .row .int x105 true, .row .nod x123 true]⟩) (by kernel_rfl) ?_
            refine WO_eq (st' := ⟨[(0, .one (.e (.sl 0 0 x1.length))), (1, .one (.e (.sl 1 0 x2.length))), (6, .one (.e (.sl 2 0 x99.length))), (8, .one (.e (.sl 3 0 x103.length))), (9, .one (.e (.sl 4 0 x105.length))), (50, .one (.e (.sl 5 0 x123.length))), (51, I 1), (52, I i124)], [.row .nod x1 false, .row .rcd x2 false, .row .int x99 true, .row .rcd x103 true, .row .int x105 true, .row .nod x123 true]⟩) (by simp only [hl126]) ?_
            refine WO_step 1 [0, 1, 2, 3, 4] [0, 1, 6, 8, 9, 10] True ⟨[(0, .one (.e (.sl 0 0 x1.length))), (1, .one (.e (.sl 1 0 x2.length))), (6, .one (.e (.sl 2 0 x99.length))), (8, .one (.e (.sl 3 0 x103.length))), (9, .one (.e (.sl 4 0 x105.length))), (10, I i124)], [.row .nod x1 false, .row .rcd x2 false, .row .int x99 true, .row .rcd x103 true, .row .int x105 true]⟩ (by kernel_rfl) trivial ?_
            refine WO_nil rfl ?_
            refine thenS_n ?_
            refine W_seq ?_
            refine W_region ?_
            refine WO_step 2 [0, 1, 2, 4, 3] [0, 1, 6, 9, 53, 54] True ⟨[(0, .one (.e (.sl 0 0 x1.length))), (1, .one (.e (.sl 1 0 x2.length))), (6, .one (.e (.sl 2 0 x99.length))), (9, .one (.e (.sl 3 0 x105.length))), (53, .one (.e (.sl 4 0 x103.length))), (54, I i124)], [.row .nod x1 false, .row .rcd x2 false, .row .int x99 true, .row .int x105 true, .row .rcd x103 true]⟩ (by kernel_rfl) trivial ?_
            refine bindO_e h (fun v168 hc129 h => ?_)
            obtain ⟨x127, i128⟩ := v168
            refine guardO_e h (fun hl130 h => ?_)
            refine WO_call [.own 4] Try.f33 rfl rfl rfl (by kernel_rfl) rfl rfl (by kernel_rfl) (laws_markRecordS_ok n x103 x103.length i124 x127 i128 hc129) (And.intro (And.intro rfl (And.intro rfl hl130)) (trivial)) rfl ?_
            refine WO_sub [0, 1, 2, 3, 4] [0, 1, 6, 9, 53, 54, 55] (st' := ⟨[(0, .one (.e (.sl 0 0 x1.length))), (1, .one (.e (.sl 1 0 x2.length))), (6, .one (.e (.sl 2 0 x99.length))), (9, .one (.e (.sl 3 0 x105.length))), (53, .one (.e (.sl 4 0 x103.length))), (54, I i124), (55, I i128)], [.row .nod x1 false, .row .rcd x2 false, .row .int x99 true, .row .int x105 true, .row .rcd x127 true]⟩) (by kernel_rfl) ?_
            refine WO_eq (st' := ⟨[(0, .one (.e (.sl 0 0 x1.length))), (1, .one (.e (.sl 1 0 x2.length))), (6, .one (.e (.sl 2 0 x99.length))), (9, .one (.e (.sl 3 0 x105.length))), (53, .one (.e (.sl 4 0 x127.length))), (54, I i124), (55, I i128)], [.row .nod x1 false, .row .rcd x2 false, .row .int x99 true, .row .int x105 true, .row .rcd x127 true]⟩) (by simp only [hl130]) ?_
            refine WO_step 1 [0, 1, 2, 3] [0, 1, 6, 9, 10] True ⟨[(0, .one (.e (.sl 0 0 x1.length))), (1, .one (.e (.sl 1 0 x2.length))), (6, .one (.e (.sl 2 0 x99.length))), (9, .one (.e (.sl 3 0 x105.length))), (10, I i128)], [.row .nod x1 false, .row .rcd x2 false, .row .int x99 true, .row .int x105 true]⟩ (by kernel_rfl) trivial ?_
            refine WO_nil rfl ?_
            refine thenS_n ?_
            refine W_seq ?_
            refine W_seq ?_
            refine W_region ?_
            refine WO_step 3 [0, 1, 2, 3] [0, 1, 6, 9, 58] (True ∧ True) ⟨[(0, .one (.e (.sl 0 0 x1.length))), (1, .one (.e (.sl 1 0 x2.length))), (6, .one (.e (.sl 2 0 x99.length))), (9, .one (.e (.sl 3 0 x105.length))), (58, B (decide (i128 < 0)))], [.row .nod x1 false, .row .rcd x2 false, .row .int x99 true, .row .int x105 true]⟩ (by kernel_rfl) ⟨trivial, trivial⟩ ?_
            refine bindO_e h (fun b134 hv135 h => ?_)
            refine WO_thru ⟨[(0, .one (.e (.sl 0 0 x1.length))), (1, .one (.e (.sl 1 0 x2.length))), (6, .one (.e (.sl 2 0 x99.length))), (9, .one (.e (.sl 3 0 x105.length))), (63, B b134)], [.row .nod x1 false, .row .rcd x2 false, .row .int x99 true, .row .int x105 true]⟩ ?_ ?_
            · refine iteO_e hv135 (fun hb136 hv135 => WO_known 58 true rfl hb136 ?_) (fun hb136 hv135 => WO_known 58 false rfl hb136 ?_)
              · refine WO_step 5 [0, 1, 2, 3] [0, 1, 6, 9, 63] True ⟨[(0, .one (.e (.sl 0 0 x1.length))), (1, .one (.e (.sl 1 0 x2.length))), (6, .one (.e (.sl 2 0 x99.length))), (9, .one (.e (.sl 3 0 x105.length))), (63, B true)], [.row .nod x1 false, .row .rcd x2 false, .row .int x99 true, .row .int x105 true]⟩ (by kernel_rfl) trivial ?_
                cases hv135
                exact WO_nil rfl ⟨rfl, rfl⟩
              · refine WO_step 2 [0, 1, 2, 3] [0, 1, 6, 9, 58, 59, 60] True ⟨[(0, .one (.e (.sl 0 0 x1.length))), (1, .one (.e (.sl 1 0 x2.length))), (6, .one (.e (.sl 2 0 x99.length))), (9, .one (.e (.sl 3 0 x105.length))), (58, B false), (59, .one (.e (.sl 3 0 x105.length))), (60, .one (.e (.sl 2 0 x99.length)))], [.row .nod x1 false, .row .rcd x2 false, .row .int x99 true, .row .int x105 true]⟩ (by kernel_rfl) trivial ?_
                refine bindO_e hv135 (fun b137 hc138 hv135 => ?_)
                refine WO_call [.ro 3, .ro 2] Try.f35 rfl rfl rfl (by kernel_rfl) rfl rfl (by kernel_rfl) (laws_eqIntS_ok n x105 x99 b137 hc138) (And.intro (And.intro rfl rfl) (And.intro (And.intro rfl rfl) (trivial))) rfl ?_
                refine WO_step 2 [0, 1, 2, 3] [0, 1, 6, 9, 63] True ⟨[(0, .one (.e (.sl 0 0 x1.length))), (1, .one (.e (.sl 1 0 x2.length))), (6, .one (.e (.sl 2 0 x99.length))), (9, .one (.e (.sl 3 0 x105.length))), (63, B (!b137))], [.row .nod x1 false, .row .rcd x2 false, .row .int x99 true, .row .int x105 true]⟩ (by kernel_rfl) trivial ?_
                cases hv135
                exact WO_nil rfl ⟨rfl, rfl⟩
            · refine thenS_n ?_
              refine iteO_e h (fun hb140 h => W_true rfl hb140 ?_) (fun hb140 h => W_false rfl hb140 ?_)
              · refine W_seq ?_
                refine W_region ?_
                refine WO_step 1 [0, 1] [4] True ⟨[(4, B false)], [.row .nod x1 false, .row .rcd x2 false]⟩ (by kernel_rfl) trivial ?_
                refine WO_nil rfl ?_
                refine thenS_n ?_
                refine W_ret ?_
                refine thenS_r ?_
                cases h
                exact ⟨[0, 1], True, by kernel_rfl, trivial⟩
              · refine W_sub [0, 1, 2, 3] [0, 1, 6, 9] (st' := ⟨[(0, .one (.e (.sl 0 0 x1.length))), (1, .one (.e (.sl 1 0 x2.length))), (6, .one (.e (.sl 2 0 x99.length))), (9, .one (.e (.sl 3 0 x105.length)))], [.row .nod x1 false, .row .rcd x2 false, .row .int x99 true, .row .int x105 true]⟩) (by kernel_rfl) ?_
                refine W_skip ?_
                refine thenS_n ?_
                refine W_seq ?_
                refine W_region ?_
                refine WO_step 1 [0, 1, 2, 3] [0, 1, 6, 9, 11] True ⟨[(0, .one (.e (.sl 0 0 x1.length))), (1, .one (.e (.sl 1 0 x2.length))), (6, .one (.e (.sl 2 0 x99.length))), (9, .one (.e (.sl 3 0 x105.length))), (11, I 1)], [.row .nod x1 false, .row .rcd x2 false, .row .int x99 true, .row .int x105 true]⟩ (by kernel_rfl) trivial ?_
                refine WO_nil rfl ?_
                refine thenS_n ?_
                refine W_seq ?_
                refine W_region ?_
                refine WO_step 2 [0, 1, 2, 3] [0, 1, 6, 9, 64, 65] True ⟨[(0, .one (.e (.sl 0 0 x1.length))), (1, .one (.e (.sl 1 0 x2.length))), (6, .one (.e (.sl 2 0 x99.length))), (9, .one (.e (.sl 3 0 x105.length))), (64, .one (.e (.sl 3 0 x105.length))), (65, I 1)], [.row .nod x1 false, .row .rcd x2 false, .row .int x99 true, .row .int x105 true]⟩ (by kernel_rfl) trivial ?_
                refine bindO_e h (fun v167 hc143 h => ?_)
                obtain ⟨x141, i142⟩ := v167
                refine guardO_e h (fun hl144 h => ?_)
                refine WO_call [.own 3] Try.f36 rfl rfl rfl (by kernel_rfl) rfl rfl (by kernel_rfl) (laws_markIntS_ok n x105 x105.length 1 x141 i142 hc143) (And.intro (And.intro rfl (And.intro rfl hl144)) (trivial)) rfl ?_
                refine WO_sub [0, 1, 2, 3] [0, 1, 6, 9, 64, 65, 66] (st' := ⟨[(0, .one (.e (.sl 0 0 x1.length))), (1, .one (.e (.sl 1 0 x2.length))), (6, .one (.e (.sl 2 0 x99.length))), (9, .one (.e (.sl 3 0 x105.length))), (64, .one (.e (.sl 3 0 x105.length))), (65, I 1), (66, I i142)], [.row .nod x1 false, .row .rcd x2 false, .row .int x99 true, .row .int x141 true]⟩) (by kernel_rfl) ?_
                refine WO_eq (st' := ⟨[(0, .one (.e (.sl 0 0 x1.length))), (1, .one (.e (.sl 1 0 x2.length))), (6, .one (.e (.sl 2 0 x99.length))), (9, .one (.e (.sl 3 0 x141.length))), (64, .one (.e (.sl 3 0 x141.length))), (65, I 1), (66, I i142)], [.row .nod x1 false, .row .rcd x2 false, .row .int x99 true, .row .int x141 true]⟩) (by simp only [hl144]) ?_
                refine WO_step 1 [0, 1, 2, 3] [0, 1, 6, 9, 11] True ⟨[(0, .one (.e (.sl 0 0 x1.length))), (1, .one (.e (.sl 1 0 x2.length))), (6, .one (.e (.sl 2 0 x99.length))), (9, .one (.e (.sl 3 0 x141.length))), (11, I i142)], [.row .nod x1 false, .row .rcd x2 false, .row .int x99 true, .row .int x141 true]⟩ (by kernel_rfl) trivial ?_
                refine WO_nil rfl ?_
                refine thenS_n ?_
                refine W_seq ?_
                refine W_region ?_
                refine WO_step 1 [0, 1, 2, 3] [0, 1, 6, 9, 11, 12] True ⟨[(0, .one (.e (.sl 0 0 x1.length))), (1, .one (.e (.sl 1 0 x2.length))), (6, .one (.e (.sl 2 0 x99.length))), (9, .one (.e (.sl 3 0 x141.length))), (11, I i142), (12, I 1)], [.row .nod x1 false, .row .rcd x2 false, .row .int x99 true, .row .int x141 true]⟩ (by kernel_rfl) trivial ?_
                refine WO_nil rfl ?_
                refine thenS_n ?_
                refine W_seq ?_
                refine W_region ?_
                refine WO_step 2 [0, 1, 2, 3] [0, 1, 6, 9, 11, 67, 68] True ⟨[(0, .one (.e (.sl 0 0 x1.length))), (1, .one (.e (.sl 1 0 x2.length))), (6, .one (.e (.sl 2 0 x99.length))), (9, .one (.e (.sl 3 0 x141.length))), (11, I i142), (67, .one (.e (.sl 3 0 x141.length))), (68, I 1)], [.row .nod x1 false, .row .rcd x2 false, .row .int x99 true, .row .int x141 true]⟩ (by kernel_rfl) trivial ?_
                refine bindO_e h (fun i145 hc146 h => ?_)
                refine WO_call [.ro 3] Try.f37 rfl rfl rfl (by kernel_rfl) rfl rfl (by kernel_rfl) (laws_heldIntS_ok n x141 1 i145 hc146) (And.intro (And.intro rfl rfl) (trivial)) rfl ?_
                refine WO_step 1 [0, 1, 2, 3] [0, 1, 6, 9, 11, 12] True ⟨[(0, .one (.e (.sl 0 0 x1.length))), (1, .one (.e (.sl 1 0 x2.length))), (6, .one (.e (.sl 2 0 x99.length))), (9, .one (.e (.sl 3 0 x141.length))), (11, I i142), (12, I i145)], [.row .nod x1 false, .row .rcd x2 false, .row .int x99 true, .row .int x141 true]⟩ (by kernel_rfl) trivial ?_
                refine WO_nil rfl ?_
                refine thenS_n ?_
                refine W_seq ?_
                refine W_seq ?_
                refine W_region ?_
                refine WO_step 2 [0, 1, 2, 3] [0, 1, 6, 9, 11, 12, 71] (True ∧ True) ⟨[(0, .one (.e (.sl 0 0 x1.length))), (1, .one (.e (.sl 1 0 x2.length))), (6, .one (.e (.sl 2 0 x99.length))), (9, .one (.e (.sl 3 0 x141.length))), (11, I i142), (12, I i145), (71, B (decide (i145 < 0)))], [.row .nod x1 false, .row .rcd x2 false, .row .int x99 true, .row .int x141 true]⟩ (by kernel_rfl) ⟨trivial, trivial⟩ ?_
                refine WO_nil rfl ?_
                refine thenS_n ?_
                refine iteO_e h (fun hb148 h => W_true rfl hb148 ?_) (fun hb148 h => W_false rfl hb148 ?_)
                · refine W_seq ?_
                  refine W_region ?_
                  refine WO_step 1 [0, 1] [4] True ⟨[(4, B false)], [.row .nod x1 false, .row .rcd x2 false]⟩ (by kernel_rfl) trivial ?_
                  refine WO_nil rfl ?_
                  refine thenS_n ?_
                  refine W_ret ?_
                  refine thenS_r ?_
                  cases h
                  exact ⟨[0, 1], True, by kernel_rfl, trivial⟩
                · refine W_sub [0, 1, 2, 3] [0, 1, 6, 9, 11, 12] (st' := ⟨[(0, .one (.e (.sl 0 0 x1.length))), (1, .one (.e (.sl 1 0 x2.length))), (6, .one (.e (.sl 2 0 x99.length))), (9, .one (.e (.sl 3 0 x141.length))), (11, I i142), (12, I i145)], [.row .nod x1 false, .row .rcd x2 false, .row .int x99 true, .row .int x141 true]⟩) (by kernel_rfl) ?_
                  refine W_skip ?_
                  refine thenS_n ?_
                  refine W_seq ?_
                  refine W_seq ?_
                  refine W_region ?_
                  refine WO_step 3 [0, 1, 2, 3] [0, 1, 6, 9, 11, 74] (True ∧ True) ⟨[(0, .one (.e (.sl 0 0 x1.length))), (1, .one (.e (.sl 1 0 x2.length))), (6, .one (.e (.sl 2 0 x99.length))), (9, .one (.e (.sl 3 0 x141.length))), (11, I i142), (74, B (!decide (i145 = i142)))], [.row .nod x1 false, .row .rcd x2 false, .row .int x99 true, .row .int x141 true]⟩ (by kernel_rfl) ⟨trivial, trivial⟩ ?_
                  refine WO_nil rfl ?_
                  refine thenS_n ?_
                  refine iteO_e h (fun hb150 h => W_true rfl hb150 ?_) (fun hb150 h => W_false rfl hb150 ?_)
                  · refine W_seq ?_
                    refine W_region ?_
                    refine WO_step 1 [0, 1] [4] True ⟨[(4, B false)], [.row .nod x1 false, .row .rcd x2 false]⟩ (by kernel_rfl) trivial ?_
                    refine WO_nil rfl ?_
                    refine thenS_n ?_
                    refine W_ret ?_
                    refine thenS_r ?_
                    cases h
                    exact ⟨[0, 1], True, by kernel_rfl, trivial⟩
                  · refine W_sub [0, 1, 2, 3] [0, 1, 6, 9, 11] (st' := ⟨[(0, .one (.e (.sl 0 0 x1.length))), (1, .one (.e (.sl 1 0 x2.length))), (6, .one (.e (.sl 2 0 x99.length))), (9, .one (.e (.sl 3 0 x141.length))), (11, I i142)], [.row .nod x1 false, .row .rcd x2 false, .row .int x99 true, .row .int x141 true]⟩) (by kernel_rfl) ?_
                    refine W_skip ?_
                    refine thenS_n ?_
                    refine W_seq ?_
                    refine W_region ?_
                    refine WO_step 1 [0, 1, 2, 3] [1, 6, 9, 11, 75] True ⟨[(1, .one (.e (.sl 1 0 x2.length))), (6, .one (.e (.sl 2 0 x99.length))), (9, .one (.e (.sl 3 0 x141.length))), (11, I i142), (75, .one (.e (.sl 0 0 x1.length)))], [.row .nod x1 false, .row .rcd x2 false, .row .int x99 true, .row .int x141 true]⟩ (by kernel_rfl) trivial ?_
                    refine bindO_e h (fun x151 hc152 h => ?_)
                    refine WO_call [.ro 0] Try.f28 rfl rfl rfl (by kernel_rfl) rfl rfl (by kernel_rfl) (laws_toNodeS_ok n x1 x151 hc152) (And.intro (And.intro rfl rfl) (trivial)) rfl ?_
                    refine WO_step 1 [0, 1, 2, 3, 4] [6, 9, 11, 76, 77] True ⟨[(6, .one (.e (.sl 2 0 x99.length))), (9, .one (.e (.sl 3 0 x141.length))), (11, I i142), (76, .one (.e (.sl 4 0 x151.length))), (77, .one (.e (.sl 1 0 x2.length)))], [.row .nod x1 false, .row .rcd x2 false, .row .int x99 true, .row .int x141 true, .row .nod x151 true]⟩ (by kernel_rfl) trivial ?_
                    refine bindO_e h (fun x153 hc154 h => ?_)
                    refine WO_call [.ro 1] Try.f29 rfl rfl rfl (by kernel_rfl) rfl rfl (by kernel_rfl) (laws_toRecordS_ok n x2 x153 hc154) (And.intro (And.intro rfl rfl) (trivial)) rfl ?_
                    refine WO_sub [0, 1, 2, 3, 4, 5] [6, 9, 11, 76, 78] (st' := ⟨[(6, .one (.e (.sl 2 0 x99.length))), (9, .one (.e (.sl 3 0 x141.length))), (11, I i142), (76, .one (.e (.sl 4 0 x151.length))), (78, .one (.e (.sl 5 0 x153.length)))], [.row .nod x1 false, .row .rcd x2 false, .row .int x99 true, .row .int x141 true, .row .nod x151 true, .row .rcd x153 true]⟩) (by kernel_rfl) ?_
                    refine bindO_e h (fun x155 hc156 h => ?_)
                    refine WO_call [.ro 4, .ro 5] Try.f13 rfl rfl rfl (by kernel_rfl) rfl rfl (by kernel_rfl) (impl_LosersOf_ok n x151 x153 x155 hc156) (And.intro (And.intro rfl rfl) (And.intro (And.intro rfl rfl) (trivial))) rfl ?_
                    refine WO_step 1 [0, 1, 2, 3, 6] [6, 9, 11, 13] True ⟨[(6, .one (.e (.sl 2 0 x99.length))), (9, .one (.e (.sl 3 0 x141.length))), (11, I i142), (13, .one (.e (.sl 4 0 x155.length)))], [.row .nod x1 false, .row .rcd x2 false, .row .int x99 true, .row .int x141 true, .row .int x155 true]⟩ (by kernel_rfl) trivial ?_
                    refine WO_nil rfl ?_
                    refine thenS_n ?_
                    refine W_seq ?_
                    refine W_seq ?_
                    refine W_region ?_
                    refine WO_step 2 [0, 1, 3, 4, 2] [9, 11, 80, 81] True ⟨[(9, .one (.e (.sl 2 0 x141.length))), (11, I i142), (80, .one (.e (.sl 3 0 x155.length))), (81, .one (.e (.sl 4 0 x99.length)))], [.row .nod x1 false, .row .rcd x2 false, .row .int x141 true, .row .int x155 true, .row .int x99 true]⟩ (by kernel_rfl) trivial ?_
                    refine bindO_e h (fun b157 hc158 h => ?_)
                    refine WO_call [.ro 3, .ro 4] Try.f35 rfl rfl rfl (by kernel_rfl) rfl rfl (by kernel_rfl) (laws_eqIntS_ok n x155 x99 b157 hc158) (And.intro (And.intro rfl rfl) (And.intro (And.intro rfl rfl) (trivial))) rfl ?_
                    refine WO_step 1 [0, 1, 2] [9, 11, 83] True ⟨[(9, .one (.e (.sl 2 0 x141.length))), (11, I i142), (83, B (!b157))], [.row .nod x1 false, .row .rcd x2 false, .row .int x141 true]⟩ (by kernel_rfl) trivial ?_
                    refine WO_nil rfl ?_
                    refine thenS_n ?_
                    refine iteO_e h (fun hb160 h => W_true rfl hb160 ?_) (fun hb160 h => W_false rfl hb160 ?_)
                    · refine W_seq ?_
                      refine W_region ?_
                      refine WO_step 1 [0, 1] [4] True ⟨[(4, B false)], [.row .nod x1 false, .row .rcd x2 false]⟩ (by kernel_rfl) trivial ?_
                      refine WO_nil rfl ?_
                      refine thenS_n ?_
                      refine W_ret ?_
                      refine thenS_r ?_
                      cases h
                      exact ⟨[0, 1], True, by kernel_rfl, trivial⟩
                    · refine W_sub [0, 1, 2] [9, 11] (st' := ⟨[(9, .one (.e (.sl 2 0 x141.length))), (11, I i142)], [.row .nod x1 false, .row .rcd x2 false, .row .int x141 true]⟩) (by kernel_rfl) ?_
                      refine W_skip ?_
                      refine thenS_n ?_
                      refine W_seq ?_
                      refine W_region ?_
                      refine WO_step 1 [0, 1, 2] [9, 11, 12] True ⟨[(9, .one (.e (.sl 2 0 x141.length))), (11, I i142), (12, I 1)], [.row .nod x1 false, .row .rcd x2 false, .row .int x141 true]⟩ (by kernel_rfl) trivial ?_
                      refine WO_nil rfl ?_
                      refine thenS_n ?_
                      refine W_seq ?_
                      refine W_region ?_
                      refine WO_step 2 [0, 1, 2] [11, 84, 85] True ⟨[(11, I i142), (84, .one (.e (.sl 2 0 x141.length))), (85, I 1)], [.row .nod x1 false, .row .rcd x2 false, .row .int x141 true]⟩ (by kernel_rfl) trivial ?_
                      refine bindO_e h (fun i161 hc162 h => ?_)
                      refine WO_call [.ro 2] Try.f37 rfl rfl rfl (by kernel_rfl) rfl rfl (by kernel_rfl) (laws_heldIntS_ok n x141 1 i161 hc162) (And.intro (And.intro rfl rfl) (trivial)) rfl ?_
                      refine WO_step 1 [0, 1] [11, 12] True ⟨[(11, I i142), (12, I i161)], [.row .nod x1 false, .row .rcd x2 false]⟩ (by kernel_rfl) trivial ?_
                      refine WO_nil rfl ?_
                      refine thenS_n ?_
                      refine W_seq ?_
                      refine W_seq ?_
                      refine W_region ?_
                      refine WO_step 2 [0, 1] [11, 12, 88] (True ∧ True) ⟨[(11, I i142), (12, I i161), (88, B (decide (i161 < 0)))], [.row .nod x1 false, .row .rcd x2 false]⟩ (by kernel_rfl) ⟨trivial, trivial⟩ ?_
                      refine WO_nil rfl ?_
                      refine thenS_n ?_
                      refine iteO_e h (fun hb164 h => W_true rfl hb164 ?_) (fun hb164 h => W_false rfl hb164 ?_)
                      · refine W_seq ?_
                        refine W_region ?_
                        refine WO_step 1 [0, 1] [4] True ⟨[(4, B false)], [.row .nod x1 false, .row .rcd x2 false]⟩ (by kernel_rfl) trivial ?_
                        refine WO_nil rfl ?_
                        refine thenS_n ?_
                        refine W_ret ?_
                        refine thenS_r ?_
                        cases h
                        exact ⟨[0, 1], True, by kernel_rfl, trivial⟩
                      · refine W_sub [0, 1] [11, 12] (st' := ⟨[(11, I i142), (12, I i161)], [.row .nod x1 false, .row .rcd x2 false]⟩) (by kernel_rfl) ?_
                        refine W_skip ?_
                        refine thenS_n ?_
                        refine W_seq ?_
                        refine W_seq ?_
                        refine W_region ?_
                        refine WO_step 3 [0, 1] [91] (True ∧ True) ⟨[(91, B (!decide (i161 = i142)))], [.row .nod x1 false, .row .rcd x2 false]⟩ (by kernel_rfl) ⟨trivial, trivial⟩ ?_
                        refine WO_nil rfl ?_
                        refine thenS_n ?_
                        refine iteO_e h (fun hb166 h => W_true rfl hb166 ?_) (fun hb166 h => W_false rfl hb166 ?_)
                        · refine W_seq ?_
                          refine W_region ?_
                          refine WO_step 1 [0, 1] [4] True ⟨[(4, B false)], [.row .nod x1 false, .row .rcd x2 false]⟩ (by kernel_rfl) trivial ?_
                          refine WO_nil rfl ?_
                          refine thenS_n ?_
                          refine W_ret ?_
                          refine thenS_r ?_
                          cases h
                          exact ⟨[0, 1], True, by kernel_rfl, trivial⟩
                        · refine W_sub [0, 1] [] (st' := ⟨[], [.row .nod x1 false, .row .rcd x2 false]⟩) (by kernel_rfl) ?_
                          refine W_skip ?_
                          refine thenS_n ?_
                          refine W_seq ?_
                          refine W_region ?_
                          refine WO_step 1 [0, 1] [4] True ⟨[(4, B true)], [.row .nod x1 false, .row .rcd x2 false]⟩ (by kernel_rfl) trivial ?_
                          refine WO_nil rfl ?_
                          refine thenS_n ?_
                          refine W_ret ?_
                          cases h
                          exact ⟨[0, 1], True, by kernel_rfl, trivial⟩

/- impl.Node] -/
def slices_Clone_Node (x1 : List Nod) : Option (List Nod) :=
 guardO (x1.length ≤ 1099511627776) <|
 some x1

theorem slices_Clone_Node_ok (x1 x2 : List Nod) (h : slices_Clone_Node x1 = some x2) : FOk EE 47 [.one (.e (.sl 0 0 x1.length))] [.row .nod x1 false] (.one (.e (.sl 1 0 x2.length))) [.row .nod x1 false, .row .nod x2 true] := by
  unfold slices_Clone_Node at h
  refine guardO_e h (fun hg h => ?_)
  cases h
  refine FOk_of_W 8 1 Try.func47 rfl rfl (Nat.le_of_ble_eq_true rfl) rfl (fun w X θ => ?_)
  refine W_seq ?_
  refine W_region ?_
  refine WO_step 1 [0] [0] True ⟨[(0, .one (.e (.sl 0 0 x1.length)))], [.row .nod x1 false]⟩ (by kernel_rfl) trivial ?_
  refine WO_nil rfl ?_
  refine thenS_n ?_
  refine W_seq ?_
  refine W_seq ?_
  refine W_region ?_
  refine WO_step 1 [0] [0, 3] True ⟨[(0, .one (.e (.sl 0 0 x1.length))), (3, .one (.e (.sl 0 0 x1.length)))], [.row .nod x1 false]⟩ (by kernel_rfl) trivial ?_
  refine WO_isnil (R := .nod) (xs := x1) (own := false) rfl rfl rfl rfl Try.underlying23 rfl rfl rfl (fun b hb => ?_)
  refine WO_nil rfl ?_
  refine thenS_n ?_
  cases b with
  | true =>
    have e : x1 = [] := List.eq_nil_of_length_eq_zero (hb rfl)
    subst e
    refine W_true rfl rfl ?_
    refine W_seq ?_
    refine W_region ?_
    refine WO_step 1 [0] [2] True ⟨[(2, .one (.e .nsl))], [.row .nod [] false]⟩ (by kernel_rfl) trivial ?_
    refine WO_nil rfl ?_
    refine thenS_n ?_
    refine W_nil 2 .nod rfl ?_
    refine W_ret ?_
    refine thenS_r ?_
    exact ⟨[0, 1], True, by kernel_rfl, trivial⟩
  | false =>
    refine W_false rfl rfl ?_
    refine W_sub [0] [0] (st' := ⟨[(0, .one (.e (.sl 0 0 x1.length)))], [.row .nod x1 false]⟩) (by kernel_rfl) ?_
    refine W_skip ?_
    refine thenS_n ?_
    refine W_seq ?_
    refine W_region ?_
    refine WO_step 4 [0, 2] [2] ((0 = 0 ∧ 0 = ([] : List Nod).length ∧ ([] : List Nod).length + ((x1.drop 0).take x1.length).length ≤ 1099511627776) ∧ True) ⟨[(2, .one (.e (.sl 1 0 (([] : List Nod) ++ ((x1.drop 0).take x1.length)).length)))], [.row .nod x1 false, .row .nod (([] : List Nod) ++ ((x1.drop 0).take x1.length)) true]⟩ (by kernel_rfl) ⟨⟨rfl, rfl, by simpa using hg⟩, trivial⟩ ?_
    refine WO_eq (st' := ⟨[(2, .one (.e (.sl 1 0 x1.length)))], [.row .nod x1 false, .row .nod x1 true]⟩) (by simp only [List.drop_zero, List.take_length, List.nil_append]) ?_
    refine WO_nil rfl ?_
    refine thenS_n ?_
    refine W_ret ?_
    exact ⟨[0, 1], True, by kernel_rfl, trivial⟩

/- impl.RedoLog -/
def impl_RedoLog_L1 (x2 : List Rcd) (x1 : List Nod) : Nat → (List Nod) → Int → Option ((List Nod))
| 0, _, _ => none
| n + 1, x98, i99 =>
 iteO (decide (i99 < ((x2.length : Nat) : Int)))
 (guardO (0 ≤ i99 ∧ i99 < ((x2.length : Nat) : Int)) <|
 bindO (impl_isDone n x2 i99) fun b130 =>
 bindO (iteO b130
 (guardO (0 ≤ (x2.getD i99.toNat drcd).node ∧ (x2.getD i99.toNat drcd).node < ((x98.length : Nat) : Int)) <|
 some (x98.set (((x2.getD i99.toNat drcd).node).toNat) (⟨(x98.getD (((x2.getD i99.toNat drcd).node).toNat) dnod).parent, (x98.getD (((x2.getD i99.toNat drcd).node).toNat) dnod).name, (x2.getD i99.toNat drcd).value⟩ : Nod)))
 (some x98)) fun x134 =>
 impl_RedoLog_L1 x2 x1 n x134 (w64 (i99 + 1)))
 (some x98)

theorem impl_RedoLog_L1_ok (w : World) (X : Nat → Prop) (θ : List Loc) (x2 : List Rcd) (x1 : List Nod) (x118 : (List Nod)) : ∀ (n : Nat) (x98 : List Nod) (i99 : Int), impl_RedoLog_L1 x2 x1 n x98 i99 = some x118 → WL EE ⟨w, X, θ, 33, 2⟩ (subC [1, 1, 1, 0, 1, 4, 4] (bodyC Try.f19)) (fun (e : Exit) (s : St) => e = .exit 0 ∧ s = ⟨[(5, .one (.e (.sl 2 0 x118.length)))], [.row .nod x1 false, .row .rcd x2 false, .row .nod x118 true]⟩) ⟨[(1, .one (.e (.sl 1 0 x2.length))), (5, .one (.e (.sl 2 0 x98.length))), (14, .one (.e (.sl 1 0 x2.length))), (15, I ((x2.length : Nat) : Int)), (16, I i99)], [.row .nod x1 false, .row .rcd x2 false, .row .nod x98 true]⟩ := by
  intro n
  induction n with
  | zero => intro _ _ h; exact none_e h
  | succ n ih =>
    intro x98 i99 h
    rw [impl_RedoLog_L1] at h
    refine WL_round ?_
    refine W_seq ?_
    refine W_region ?_
    refine WO_step 1 [0, 1, 2] [1, 5, 14, 15, 16, 17] (True ∧ True) ⟨[(1, .one (.e (.sl 1 0 x2.length))), (5, .one (.e (.sl 2 0 x98.length))), (14, .one (.e (.sl 1 0 x2.length))), (15, I ((x2.length : Nat) : Int)), (16, I i99), (17, B (decide (i99 < ((x2.length : Nat) : Int))))], [.row .nod x1 false, .row .rcd x2 false, .row .nod x98 true]⟩ (by kernel_rfl) ⟨trivial, trivial⟩ ?_
    refine WO_nil rfl ?_
    refine thenS_n ?_
    refine W_seq ?_
    refine iteO_e h (fun hb121 h => W_true rfl hb121 ?_) (fun hb121 h => W_false rfl hb121 ?_)
    · refine W_sub [0, 1, 2] [1, 5, 14, 15, 16] (st' := ⟨[(1, .one (.e (.sl 1 0 x2.length))), (5, .one (.e (.sl 2 0 x98.length))), (14, .one (.e (.sl 1 0 x2.length))), (15, I ((x2.length : Nat) : Int)), (16, I i99)], [.row .nod x1 false, .row .rcd x2 false, .row .nod x98 true]⟩) (by kernel_rfl) ?_
      refine W_skip ?_
      refine thenS_n ?_
      refine W_seq ?_
      refine W_block ?_
      refine W_seq ?_
      refine W_region ?_
      refine guardO_e h (fun hg129 h => ?_)
      refine WO_step 6 [0, 1, 2, 3] [1, 5, 6, 7, 14, 15, 16] ((0 ≤ i99 ∧ i99 < ((x2.length : Nat) : Int)) ∧ (True ∧ (True ∧ (True ∧ True)))) ⟨[(1, .one (.e (.sl 1 0 x2.length))), (5, .one (.e (.sl 2 0 x98.length))), (6, I i99), (7, .one (.e (.p 3 0))), (14, .one (.e (.sl 1 0 x2.length))), (15, I ((x2.length : Nat) : Int)), (16, I i99)], [.row .nod x1 false, .row .rcd x2 false, .row .nod x98 true, .cells [cI ((x2.getD i99.toNat drcd).who), cI ((x2.getD i99.toNat drcd).node), cI ((x2.getD i99.toNat drcd).value), cB ((x2.getD i99.toNat drcd).fin)]]⟩ (by kernel_rfl) ⟨hg129, trivial, trivial, trivial, trivial⟩ ?_
      refine WO_nil rfl ?_
      refine thenS_n ?_
      refine W_seq ?_
      refine W_region ?_
      refine WO_step 2 [0, 1, 2, 3] [1, 5, 7, 14, 15, 16, 21, 22] True ⟨[(1, .one (.e (.sl 1 0 x2.length))), (5, .one (.e (.sl 2 0 x98.length))), (7, .one (.e (.p 3 0))), (14, .one (.e (.sl 1 0 x2.length))), (15, I ((x2.length : Nat) : Int)), (16, I i99), (21, .one (.e (.sl 1 0 x2.length))), (22, I i99)], [.row .nod x1 false, .row .rcd x2 false, .row .nod x98 true, .cells [cI ((x2.getD i99.toNat drcd).who), cI ((x2.getD i99.toNat drcd).node), cI ((x2.getD i99.toNat drcd).value), cB ((x2.getD i99.toNat drcd).fin)]]⟩ (by kernel_rfl) trivial ?_
      refine bindO_e h (fun b130 hc131 h => ?_)
      refine WO_call [.ro 1] Try.f40 rfl rfl rfl (by kernel_rfl) rfl rfl (by kernel_rfl) (impl_isDone_ok n x2 i99 b130 hc131) (And.intro (And.intro rfl rfl) (trivial)) rfl ?_
      refine WO_sub [0, 1, 2, 3] [1, 5, 7, 14, 15, 16, 23] (st' := ⟨[(1, .one (.e (.sl 1 0 x2.length))), (5, .one (.e (.sl 2 0 x98.length))), (7, .one (.e (.p 3 0))), (14, .one (.e (.sl 1 0 x2.length))), (15, I ((x2.length : Nat) : Int)), (16, I i99), (23, B b130)], [.row .nod x1 false, .row .rcd x2 false, .row .nod x98 true, .cells [cI ((x2.getD i99.toNat drcd).who), cI ((x2.getD i99.toNat drcd).node), cI ((x2.getD i99.toNat drcd).value), cB ((x2.getD i99.toNat drcd).fin)]]⟩) (by kernel_rfl) ?_
      refine WO_nil rfl ?_
      refine thenS_n ?_
      refine bindO_e h (fun x134 hx134 h => ?_)
      refine W_cut (Q' := fun (e : Exit) (s : St) => e = .normal ∧ s = ⟨[(1, .one (.e (.sl 1 0 x2.length))), (5, .one (.e (.sl 2 0 x134.length))), (14, .one (.e (.sl 1 0 x2.length))), (15, I ((x2.length : Nat) : Int)), (16, I i99)], [.row .nod x1 false, .row .rcd x2 false, .row .nod x134 true]⟩) ?_ ?_
      · refine iteO_e hx134 (fun hb136 hx134 => W_true rfl hb136 ?_) (fun hb136 hx134 => W_false rfl hb136 ?_)
        · refine W_region ?_
          refine guardO_e hx134 (fun hg137 hx134 => ?_)
          refine WO_step 8 [0, 1, 2] [1, 5, 14, 15, 16] (True ∧ (True ∧ ((0 ≤ (x2.getD i99.toNat drcd).node ∧ (x2.getD i99.toNat drcd).node < ((x98.length : Nat) : Int)) ∧ (True ∧ True)))) ⟨[(1, .one (.e (.sl 1 0 x2.length))), (5, .one (.e (.sl 2 0 x98.length))), (14, .one (.e (.sl 1 0 x2.length))), (15, I ((x2.length : Nat) : Int)), (16, I i99)], [.row .nod x1 false, .row .rcd x2 false, .row .nod (x98.set (((x2.getD i99.toNat drcd).node).toNat) (⟨(x98.getD (((x2.getD i99.toNat drcd).node).toNat) dnod).parent, (x98.getD (((x2.getD i99.toNat drcd).node).toNat) dnod).name, (x2.getD i99.toNat drcd).value⟩ : Nod)) true]⟩ (by kernel_rfl) ⟨trivial, trivial, hg137, trivial, trivial⟩ ?_
          refine WO_eq (st' := ⟨[(1, .one (.e (.sl 1 0 x2.length))), (5, .one (.e (.sl 2 0 ((x98.set (((x2.getD i99.toNat drcd).node).toNat) (⟨(x98.getD (((x2.getD i99.toNat drcd).node).toNat) dnod).parent, (x98.getD (((x2.getD i99.toNat drcd).node).toNat) dnod).name, (x2.getD i99.toNat drcd).value⟩ : Nod)).length)))), (14, .one (.e (.sl 1 0 x2.length))), (15, I ((x2.length : Nat) : Int)), (16, I i99)], [.row .nod x1 false, .row .rcd x2 false, .row .nod (x98.set (((x2.getD i99.toNat drcd).node).toNat) (⟨(x98.getD (((x2.getD i99.toNat drcd).node).toNat) dnod).parent, (x98.getD (((x2.getD i99.toNat drcd).node).toNat) dnod).name, (x2.getD i99.toNat drcd).value⟩ : Nod)) true]⟩) (by simp only [List.length_set]) ?_
          refine WO_nil rfl ?_
          cases hx134
          exact And.intro rfl rfl
        · refine W_sub [0, 1, 2] [1, 5, 14, 15, 16] (st' := ⟨[(1, .one (.e (.sl 1 0 x2.length))), (5, .one (.e (.sl 2 0 x98.length))), (14, .one (.e (.sl 1 0 x2.length))), (15, I ((x2.length : Nat) : Int)), (16, I i99)], [.row .nod x1 false, .row .rcd x2 false, .row .nod x98 true]⟩) (by kernel_rfl) ?_
          refine W_skip ?_
          cases hx134
          exact And.intro rfl rfl
      · rintro _ _ ⟨rfl, rfl⟩
        refine blockS_n ?_
        refine thenS_n ?_
        refine W_region ?_
        refine WO_step 2 [0, 1, 2] [1, 5, 14, 15, 16] (True ∧ True) ⟨[(1, .one (.e (.sl 1 0 x2.length))), (5, .one (.e (.sl 2 0 x134.length))), (14, .one (.e (.sl 1 0 x2.length))), (15, I ((x2.length : Nat) : Int)), (16, I (w64 (i99 + 1)))], [.row .nod x1 false, .row .rcd x2 false, .row .nod x134 true]⟩ (by kernel_rfl) ⟨trivial, trivial⟩ ?_
        refine WO_nil rfl ?_
        refine thenS_n ?_
        exact ih _ _ h
    · refine W_sub [0, 1, 2] [5] (st' := ⟨[(5, .one (.e (.sl 2 0 x98.length)))], [.row .nod x1 false, .row .rcd x2 false, .row .nod x98 true]⟩) (by kernel_rfl) ?_
      refine W_exit ?_
      refine thenS_e ?_
      refine thenS_e ?_
      cases h
      exact And.intro rfl rfl

def impl_RedoLog (n : Nat) (x1 : List Nod) (x2 : List Rcd) : Option ((List Nod)) :=
 bindO (impl_ValidLog n x1 x2) fun b70 =>
 iteO (!b70)
 (some ([] : List Nod))
 (bindO (slices_Clone_Node x1) fun x74 =>
 bindO (impl_RedoLog_L1 x2 x1 n x74 0) fun x118 =>
 some x118)

theorem impl_RedoLog_ok (n : Nat) (x1 : List Nod) (x2 : List Rcd) (x69 : List Nod) (h : impl_RedoLog n x1 x2 = some x69) : FOk EE 19 [.one (.e (.sl 0 0 x1.length)), .one (.e (.sl 1 0 x2.length))] [.row .nod x1 false, .row .rcd x2 false] (.one (.e (.sl 2 0 x69.length))) [.row .nod x1 false, .row .rcd x2 false, .row .nod x69 true] := by
  unfold impl_RedoLog at h
  refine FOk_of_W 33 2 Try.func19 rfl rfl (Nat.le_of_ble_eq_true rfl) rfl (fun w X θ => ?_)
  refine W_seq ?_
  refine W_region ?_
  refine WO_step 1 [0, 1] [0, 1] True ⟨[(0, .one (.e (.sl 0 0 x1.length))), (1, .one (.e (.sl 1 0 x2.length)))], [.row .nod x1 false, .row .rcd x2 false]⟩ (by kernel_rfl) trivial ?_
  refine WO_nil rfl ?_
  refine thenS_n ?_
  refine W_seq ?_
  refine W_seq ?_
  refine W_region ?_
  refine WO_step 2 [0, 1] [0, 1, 8, 9] True ⟨[(0, .one (.e (.sl 0 0 x1.length))), (1, .one (.e (.sl 1 0 x2.length))), (8, .one (.e (.sl 0 0 x1.length))), (9, .one (.e (.sl 1 0 x2.length)))], [.row .nod x1 false, .row .rcd x2 false]⟩ (by kernel_rfl) trivial ?_
  refine bindO_e h (fun b70 hc71 h => ?_)
  refine WO_call [.ro 0, .ro 1] Try.f16 rfl rfl rfl (by kernel_rfl) rfl rfl (by kernel_rfl) (impl_ValidLog_ok n x1 x2 b70 hc71) (And.intro (And.intro rfl rfl) (And.intro (And.intro rfl rfl) (trivial))) rfl ?_
  refine WO_step 1 [0, 1] [0, 1, 11] True ⟨[(0, .one (.e (.sl 0 0 x1.length))), (1, .one (.e (.sl 1 0 x2.length))), (11, B (!b70))], [.row .nod x1 false, .row .rcd x2 false]⟩ (by kernel_rfl) trivial ?_
  refine WO_nil rfl ?_
  refine thenS_n ?_
  refine iteO_e h (fun hb73 h => W_true rfl hb73 ?_) (fun hb73 h => W_false rfl hb73 ?_)
  · refine W_seq ?_
    refine W_region ?_
    refine WO_step 1 [0, 1] [4] True ⟨[(4, .one (.e (.nsl)))], [.row .nod x1 false, .row .rcd x2 false]⟩ (by kernel_rfl) trivial ?_
    refine WO_nilrow 4 .nod rfl ?_
    refine WO_sub [0, 1, 2] [4] (st' := ⟨[(4, .one (.e (.sl 2 0 (([] : List Nod).length))))], [.row .nod x1 false, .row .rcd x2 false, .row .nod ([] : List Nod) true]⟩) (by kernel_rfl) ?_
    refine WO_nil rfl ?_
    refine thenS_n ?_
    refine W_ret ?_
    refine thenS_r ?_
    cases h
    exact ⟨[0, 1, 2], True, by kernel_rfl, trivial⟩
  · refine W_sub [0, 1] [0, 1] (st' := ⟨[(0, .one (.e (.sl 0 0 x1.length))), (1, .one (.e (.sl 1 0 x2.length)))], [.row .nod x1 false, .row .rcd x2 false]⟩) (by kernel_rfl) ?_
    refine W_skip ?_
    refine thenS_n ?_
    refine W_seq ?_
    refine W_region ?_
    refine WO_step 1 [0, 1] [1, 12] True ⟨[(1, .one (.e (.sl 1 0 x2.length))), (12, .one (.e (.sl 0 0 x1.length)))], [.row .nod x1 false, .row .rcd x2 false]⟩ (by kernel_rfl) trivial ?_
    refine bindO_e h (fun x74 hc75 h => ?_)
    refine WO_call [.ro 0] Try.f47 rfl rfl rfl (by kernel_rfl) rfl rfl (by kernel_rfl) (slices_Clone_Node_ok x1 x74 hc75) (And.intro (And.intro rfl rfl) (trivial)) rfl ?_
    refine WO_step 1 [0, 1, 2] [1, 5] True ⟨[(1, .one (.e (.sl 1 0 x2.length))), (5, .one (.e (.sl 2 0 x74.length)))], [.row .nod x1 false, .row .rcd x2 false, .row .nod x74 true]⟩ (by kernel_rfl) trivial ?_
    refine WO_nil rfl ?_
    refine thenS_n ?_
    refine W_seq ?_
    refine W_seq ?_
    refine W_region ?_
    refine WO_step 3 [0, 1, 2] [1, 5, 14, 15, 16] (True ∧ True) ⟨[(1, .one (.e (.sl 1 0 x2.length))), (5, .one (.e (.sl 2 0 x74.length))), (14, .one (.e (.sl 1 0 x2.length))), (15, I ((x2.length : Nat) : Int)), (16, I 0)], [.row .nod x1 false, .row .rcd x2 false, .row .nod x74 true]⟩ (by kernel_rfl) ⟨trivial, trivial⟩ ?_
    refine WO_nil rfl ?_
    refine thenS_n ?_
    refine W_block ?_
    refine W_loop ?_
    refine bindO_e h (fun x118 hx118 h => ?_)
    refine WL_cut (impl_RedoLog_L1_ok w X θ x2 x1 x118 n x74 0 hx118) ?_
    rintro _ _ ⟨rfl, rfl⟩
    refine blockS_y ?_
    refine thenS_n ?_
    refine W_seq ?_
    refine W_region ?_
    refine WO_step 2 [0, 1, 2] [4] True ⟨[(4, .one (.e (.sl 2 0 x118.length)))], [.row .nod x1 false, .row .rcd x2 false, .row .nod x118 true]⟩ (by kernel_rfl) trivial ?_
    refine WO_nil rfl ?_
    refine thenS_n ?_
    refine W_ret ?_
    cases h
    exact ⟨[0, 1, 2], True, by kernel_rfl, trivial⟩

/- spec.RedoLog -/
def spec_RedoLog_L1 (x2 : List Rcd) (x1 : List Nod) : Nat → (List Nod) → Int → Option ((List Nod))
| 0, _, _ => none
| n + 1, x192, i193 =>
 iteO (decide (i193 < ((x2.length : Nat) : Int)))
 (guardO (0 ≤ i193 ∧ i193 < ((x2.length : Nat) : Int)) <|
 bindO (iteO (!(x2.getD i193.toNat drcd).fin)
 (guardO (0 ≤ i193 ∧ i193 < ((x2.length : Nat) : Int)) <|
 bindO (spec_ended n x2 (w64 (i193 + 1)) ((x2.getD i193.toNat drcd).who)) fun b262 =>
 some b262)
 (some false)) fun b258 =>
 bindO (iteO b258
 (guardO (0 ≤ i193 ∧ i193 < ((x2.length : Nat) : Int)) <|
 guardO (0 ≤ i193 ∧ i193 < ((x2.length : Nat) : Int)) <|
 guardO (0 ≤ (x2.getD i193.toNat drcd).node ∧ (x2.getD i193.toNat drcd).node < ((x192.length : Nat) : Int)) <|
 some (x192.set (((x2.getD i193.toNat drcd).node).toNat) (⟨(x192.getD (((x2.getD i193.toNat drcd).node).toNat) dnod).parent, (x192.getD (((x2.getD i193.toNat drcd).node).toNat) dnod).name, (x2.getD i193.toNat drcd).value⟩ : Nod)))
 (some x192)) fun x268 =>
 spec_RedoLog_L1 x2 x1 n x268 (w64 (i193 + 1)))
 (some x192)

theorem spec_RedoLog_L1_ok (w : World) (X : Nat → Prop) (θ : List Loc) (x2 : List Rcd) (x1 : List Nod) (x232 : (List Nod)) : ∀ (n : Nat) (x192 : List Nod) (i193 : Int), spec_RedoLog_L1 x2 x1 n x192 i193 = some x232 → WL EE ⟨w, X, θ, 56, 2⟩ (subC [1, 1, 1, 0, 1, 4, 4] (bodyC Try.f21)) (fun (e : Exit) (s : St) => e = .exit 0 ∧ s = ⟨[(5, .one (.e (.sl 2 0 x232.length)))], [.row .nod x1 false, .row .rcd x2 false, .row .nod x232 true]⟩) ⟨[(1, .one (.e (.sl 1 0 x2.length))), (5, .one (.e (.sl 2 0 x192.length))), (6, I i193)], [.row .nod x1 false, .row .rcd x2 false, .row .nod x192 true]⟩ := by
  intro n
  induction n with
  | zero => intro _ _ h; exact none_e h
  | succ n ih =>
    intro x192 i193 h
    rw [spec_RedoLog_L1] at h
    refine WL_round ?_
    refine W_seq ?_
    refine W_seq ?_
    refine W_region ?_
    refine WO_step 4 [0, 1, 2] [1, 5, 6, 22] (True ∧ (True ∧ True)) ⟨[(1, .one (.e (.sl 1 0 x2.length))), (5, .one (.e (.sl 2 0 x192.length))), (6, I i193), (22, B (decide (i193 < ((x2.length : Nat) : Int))))], [.row .nod x1 false, .row .rcd x2 false, .row .nod x192 true]⟩ (by kernel_rfl) ⟨trivial, trivial, trivial⟩ ?_
    refine WO_nil rfl ?_
    refine thenS_n ?_
    refine iteO_e h (fun hb235 h => W_true rfl hb235 ?_) (fun hb235 h => W_false rfl hb235 ?_)
    · refine W_sub [0, 1, 2] [1, 5, 6] (st' := ⟨[(1, .one (.e (.sl 1 0 x2.length))), (5, .one (.e (.sl 2 0 x192.length))), (6, I i193)], [.row .nod x1 false, .row .rcd x2 false, .row .nod x192 true]⟩) (by kernel_rfl) ?_
      refine W_skip ?_
      refine thenS_n ?_
      refine W_seq ?_
      refine W_block ?_
      refine W_seq ?_
      refine W_region ?_
      refine guardO_e h (fun hg253 h => ?_)
      refine WO_step 7 [0, 1, 2] [1, 5, 6, 31] ((0 ≤ i193 ∧ i193 < ((x2.length : Nat) : Int)) ∧ (True ∧ True)) ⟨[(1, .one (.e (.sl 1 0 x2.length))), (5, .one (.e (.sl 2 0 x192.length))), (6, I i193), (31, B (!(x2.getD i193.toNat drcd).fin))], [.row .nod x1 false, .row .rcd x2 false, .row .nod x192 true]⟩ (by kernel_rfl) ⟨hg253, trivial, trivial⟩ ?_
      refine bindO_e h (fun b258 hv259 h => ?_)
      refine WO_thru ⟨[(1, .one (.e (.sl 1 0 x2.length))), (5, .one (.e (.sl 2 0 x192.length))), (6, I i193), (41, B b258)], [.row .nod x1 false, .row .rcd x2 false, .row .nod x192 true]⟩ ?_ ?_
      · refine iteO_e hv259 (fun hb260 hv259 => WO_known 31 true rfl hb260 ?_) (fun hb260 hv259 => WO_known 31 false rfl hb260 ?_)
        · refine guardO_e hv259 (fun hg261 hv259 => ?_)
          refine WO_step 8 [0, 1, 2] [1, 5, 6, 31, 32, 34, 39] (True ∧ ((0 ≤ i193 ∧ i193 < ((x2.length : Nat) : Int)) ∧ (True ∧ True))) ⟨[(1, .one (.e (.sl 1 0 x2.length))), (5, .one (.e (.sl 2 0 x192.length))), (6, I i193), (31, B true), (32, .one (.e (.sl 1 0 x2.length))), (34, I (w64 (i193 + 1))), (39, I ((x2.getD i193.toNat drcd).who))], [.row .nod x1 false, .row .rcd x2 false, .row .nod x192 true]⟩ (by kernel_rfl) ⟨trivial, hg261, trivial, trivial⟩ ?_
          refine bindO_e hv259 (fun b262 hc263 hv259 => ?_)
          refine WO_call [.ro 1] Try.f44 rfl rfl rfl (by kernel_rfl) rfl rfl (by kernel_rfl) (spec_ended_ok n x2 (w64 (i193 + 1)) ((x2.getD i193.toNat drcd).who) b262 hc263) (And.intro (And.intro rfl rfl) (trivial)) rfl ?_
          refine WO_step 1 [0, 1, 2] [1, 5, 6, 41] True ⟨[(1, .one (.e (.sl 1 0 x2.length))), (5, .one (.e (.sl 2 0 x192.length))), (6, I i193), (41, B b262)], [.row .nod x1 false, .row .rcd x2 false, .row .nod x192 true]⟩ (by kernel_rfl) trivial ?_
          cases hv259
          exact WO_nil rfl ⟨rfl, rfl⟩
        · refine WO_step 10 [0, 1, 2] [1, 5, 6, 41] True ⟨[(1, .one (.e (.sl 1 0 x2.length))), (5, .one (.e (.sl 2 0 x192.length))), (6, I i193), (41, B false)], [.row .nod x1 false, .row .rcd x2 false, .row .nod x192 true]⟩ (by kernel_rfl) trivial ?_
          cases hv259
          exact WO_nil rfl ⟨rfl, rfl⟩
      · refine thenS_n ?_
        refine bindO_e h (fun x268 hx268 h => ?_)
        refine W_cut (Q' := fun (e : Exit) (s : St) => e = .normal ∧ s = ⟨[(1, .one (.e (.sl 1 0 x2.length))), (5, .one (.e (.sl 2 0 x268.length))), (6, I i193)], [.row .nod x1 false, .row .rcd x2 false, .row .nod x268 true]⟩) ?_ ?_
        · refine iteO_e hx268 (fun hb270 hx268 => W_true rfl hb270 ?_) (fun hb270 hx268 => W_false rfl hb270 ?_)
          · refine guardO_e hx268 (fun hg271 hx268 => ?_)
            refine guardO_e hx268 (fun hg272 hx268 => ?_)
            refine guardO_e hx268 (fun hg273 hx268 => ?_)
            refine W_cut (Q' := fun (e : Exit) (s : St) => e = .normal ∧ s = ⟨[(1, .one (.e (.sl 1 0 x2.length))), (5, .one (.e (.sl 2 0 ((x192.set (((x2.getD i193.toNat drcd).node).toNat) (⟨(x192.getD (((x2.getD i193.toNat drcd).node).toNat) dnod).parent, (x192.getD (((x2.getD i193.toNat drcd).node).toNat) dnod).name, (x2.getD i193.toNat drcd).value⟩ : Nod)).length)))), (6, I i193)], [.row .nod x1 false, .row .rcd x2 false, .row .nod (x192.set (((x2.getD i193.toNat drcd).node).toNat) (⟨(x192.getD (((x2.getD i193.toNat drcd).node).toNat) dnod).parent, (x192.getD (((x2.getD i193.toNat drcd).node).toNat) dnod).name, (x2.getD i193.toNat drcd).value⟩ : Nod)) true]⟩) ?_ ?_
            · refine W_draw [2] false (by kernel_rfl) (by kernel_rfl) ?_
              refine WD_takeK [0, 1, 2, 3, 4, 5, 6, 7, 8, 9, 10] [1, 5, 6, 42, 47, 52] [1, 5, 6, 42, 47, 52] (φ := ((0 ≤ i193 ∧ i193 < ((x2.length : Nat) : Int)) ∧ (0 ≤ i193 ∧ i193 < ((x2.length : Nat) : Int)) ∧ (True ∧ True ∧ ((0 ≤ i193 ∧ i193 < ((x2.length : Nat) : Int)) ∧ (0 ≤ i193 ∧ i193 < ((x2.length : Nat) : Int)) ∧ (True ∧ True ∧ True))))) (ls' := #[true, true, true, true, true, true, true, true, true, true, true, false, false, false]) (Ts' := [(1, .one (.e (.sl 1 0 x2.length))), (5, .one (.e (.sl 2 0 x192.length))), (6, I i193), (42, .one (.e (.sl 2 0 x192.length))), (47, I ((x2.getD i193.toNat drcd).node)), (52, I ((x2.getD i193.toNat drcd).value))]) (st' := ⟨[(1, .one (.e (.sl 1 0 x2.length))), (5, .one (.e (.sl 2 0 x192.length))), (6, I i193), (42, .one (.e (.sl 2 0 x192.length))), (47, I ((x2.getD i193.toNat drcd).node)), (52, I ((x2.getD i193.toNat drcd).value))], [.row .nod x1 false, .row .rcd x2 false, .row .nod x192 true]⟩) (n2 := 3) (by kernel_rfl) ⟨hg271, hg271, trivial, trivial, hg272, hg272, trivial, trivial, trivial⟩ rfl ?_
              refine WD_all [11] (n := 2) (by kernel_rfl) rfl ?_
              refine WM_op (φ := 0 ≤ (x2.getD i193.toNat drcd).node ∧ (x2.getD i193.toNat drcd).node < ((x192.length : Nat) : Int)) (v := .one (.e (.rp 2 (((x2.getD i193.toNat drcd).node).toNat) 0))) (H' := [.row .nod x1 false, .row .rcd x2 false, .row .nod x192 true]) rfl rfl (by kernel_rfl) hg273 rfl (And.intro rfl (And.intro rfl (trivial))) ?_
              refine WD_all [12] (n := 1) (by kernel_rfl) rfl ?_
              refine WM_op (φ := True) (v := .one (.e (.rp 2 (((x2.getD i193.toNat drcd).node).toNat) 2))) (H' := [.row .nod x1 false, .row .rcd x2 false, .row .nod x192 true]) rfl rfl (by kernel_rfl) trivial rfl (And.intro rfl (And.intro rfl (trivial))) ?_
              refine WD_all [13] (n := 0) (by kernel_rfl) rfl ?_
              refine WM_store (u := .one (.e (.rp 2 (((x2.getD i193.toNat drcd).node).toNat) 2))) (v := I ((x2.getD i193.toNat drcd).value)) (φ := True) (H' := [.row .nod x1 false, .row .rcd x2 false, .row .nod (x192.set (((x2.getD i193.toNat drcd).node).toNat) (⟨(x192.getD (((x2.getD i193.toNat drcd).node).toNat) dnod).parent, (x192.getD (((x2.getD i193.toNat drcd).node).toNat) dnod).name, (x2.getD i193.toNat drcd).value⟩ : Nod)) true]) rfl rfl rfl rfl rfl (by kernel_rfl) trivial rfl (And.intro rfl (And.intro rfl (trivial))) ?_
              exact WD_done [0, 1, 2] [1, 5, 6] (st' := ⟨[(1, .one (.e (.sl 1 0 x2.length))), (5, .one (.e (.sl 2 0 x192.length))), (6, I i193)], [.row .nod x1 false, .row .rcd x2 false, .row .nod (x192.set (((x2.getD i193.toNat drcd).node).toNat) (⟨(x192.getD (((x2.getD i193.toNat drcd).node).toNat) dnod).parent, (x192.getD (((x2.getD i193.toNat drcd).node).toNat) dnod).name, (x2.getD i193.toNat drcd).value⟩ : Nod)) true]⟩) (by kernel_rfl) (by kernel_rfl) (And.intro rfl (by simp only [List.length_set]))
            · rintro _ _ ⟨rfl, rfl⟩
              cases hx268
              exact And.intro rfl rfl
          · refine W_sub [0, 1, 2] [1, 5, 6] (st' := ⟨[(1, .one (.e (.sl 1 0 x2.length))), (5, .one (.e (.sl 2 0 x192.length))), (6, I i193)], [.row .nod x1 false, .row .rcd x2 false, .row .nod x192 true]⟩) (by kernel_rfl) ?_
            refine W_skip ?_
            cases hx268
            exact And.intro rfl rfl
        · rintro _ _ ⟨rfl, rfl⟩
          refine blockS_n ?_
          refine thenS_n ?_
          refine W_region ?_
          refine WO_step 3 [0, 1, 2] [1, 5, 6] (True ∧ True) ⟨[(1, .one (.e (.sl 1 0 x2.length))), (5, .one (.e (.sl 2 0 x268.length))), (6, I (w64 (i193 + 1)))], [.row .nod x1 false, .row .rcd x2 false, .row .nod x268 true]⟩ (by kernel_rfl) ⟨trivial, trivial⟩ ?_
          refine WO_nil rfl ?_
          refine thenS_n ?_
          exact ih _ _ h
    · refine W_sub [0, 1, 2] [5] (st' := ⟨[(5, .one (.e (.sl 2 0 x192.length)))], [.row .nod x1 false, .row .rcd x2 false, .row .nod x192 true]⟩) (by kernel_rfl) ?_
      refine W_exit ?_
      refine thenS_e ?_
      refine thenS_e ?_
      cases h
      exact And.intro rfl rfl

def spec_RedoLog (n : Nat) (x1 : List Nod) (x2 : List Rcd) : Option ((List Nod)) :=
 bindO (spec_validTree n x1) fun b137 =>
 bindO (iteO (!b137)
 (some true)
 (bindO (spec_validLog n x1 x2) fun b145 =>
 some (!b145))) fun b142 =>
 iteO b142
 (some ([] : List Nod))
 (guardO (0 = 0 ∧ ([] : List Nod).length = ([] : List Nod).length ∧ ([] : List Nod).length + ((x1.drop 0).take x1.length).length ≤ 1099511627776) <|
 bindO (spec_RedoLog_L1 x2 x1 n (([] : List Nod) ++ ((x1.drop 0).take x1.length)) 0) fun x232 =>
 some x232)

theorem spec_RedoLog_ok (n : Nat) (x1 : List Nod) (x2 : List Rcd) (x136 : List Nod) (h : spec_RedoLog n x1 x2 = some x136) : FOk EE 21 [.one (.e (.sl 0 0 x1.length)), .one (.e (.sl 1 0 x2.length))] [.row .nod x1 false, .row .rcd x2 false] (.one (.e (.sl 2 0 x136.length))) [.row .nod x1 false, .row .rcd x2 false, .row .nod x136 true] := by
  unfold spec_RedoLog at h
  refine FOk_of_W 56 2 Try.func21 rfl rfl (Nat.le_of_ble_eq_true rfl) rfl (fun w X θ => ?_)
  refine W_seq ?_
  refine W_region ?_
  refine WO_step 1 [0, 1] [0, 1] True ⟨[(0, .one (.e (.sl 0 0 x1.length))), (1, .one (.e (.sl 1 0 x2.length)))], [.row .nod x1 false, .row .rcd x2 false]⟩ (by kernel_rfl) trivial ?_
  refine WO_nil rfl ?_
  refine thenS_n ?_
  refine W_seq ?_
  refine W_seq ?_
  refine W_region ?_
  refine WO_step 1 [0, 1] [0, 1, 7] True ⟨[(0, .one (.e (.sl 0 0 x1.length))), (1, .one (.e (.sl 1 0 x2.length))), (7, .one (.e (.sl 0 0 x1.length)))], [.row .nod x1 false, .row .rcd x2 false]⟩ (by kernel_rfl) trivial ?_
  refine bindO_e h (fun b137 hc138 h => ?_)
  refine WO_call [.ro 0] Try.f42 rfl rfl rfl (by kernel_rfl) rfl rfl (by kernel_rfl) (spec_validTree_ok n x1 b137 hc138) (And.intro (And.intro rfl rfl) (trivial)) rfl ?_
  refine WO_step 2 [0, 1] [0, 1, 10] True ⟨[(0, .one (.e (.sl 0 0 x1.length))), (1, .one (.e (.sl 1 0 x2.length))), (10, B (!b137))], [.row .nod x1 false, .row .rcd x2 false]⟩ (by kernel_rfl) trivial ?_
  refine bindO_e h (fun b142 hv143 h => ?_)
  refine WO_thru ⟨[(0, .one (.e (.sl 0 0 x1.length))), (1, .one (.e (.sl 1 0 x2.length))), (15, B b142)], [.row .nod x1 false, .row .rcd x2 false]⟩ ?_ ?_
  · refine iteO_e hv143 (fun hb144 hv143 => WO_known 10 true rfl hb144 ?_) (fun hb144 hv143 => WO_known 10 false rfl hb144 ?_)
    · refine WO_step 5 [0, 1] [0, 1, 15] True ⟨[(0, .one (.e (.sl 0 0 x1.length))), (1, .one (.e (.sl 1 0 x2.length))), (15, B true)], [.row .nod x1 false, .row .rcd x2 false]⟩ (by kernel_rfl) trivial ?_
      cases hv143
      exact WO_nil rfl ⟨rfl, rfl⟩
    · refine WO_step 2 [0, 1] [0, 1, 10, 11, 12] True ⟨[(0, .one (.e (.sl 0 0 x1.length))), (1, .one (.e (.sl 1 0 x2.length))), (10, B false), (11, .one (.e (.sl 0 0 x1.length))), (12, .one (.e (.sl 1 0 x2.length)))], [.row .nod x1 false, .row .rcd x2 false]⟩ (by kernel_rfl) trivial ?_
      refine bindO_e hv143 (fun b145 hc146 hv143 => ?_)
      refine WO_call [.ro 0, .ro 1] Try.f43 rfl rfl rfl (by kernel_rfl) rfl rfl (by kernel_rfl) (spec_validLog_ok n x1 x2 b145 hc146) (And.intro (And.intro rfl rfl) (And.intro (And.intro rfl rfl) (trivial))) rfl ?_
      refine WO_step 2 [0, 1] [0, 1, 15] True ⟨[(0, .one (.e (.sl 0 0 x1.length))), (1, .one (.e (.sl 1 0 x2.length))), (15, B (!b145))], [.row .nod x1 false, .row .rcd x2 false]⟩ (by kernel_rfl) trivial ?_
      cases hv143
      exact WO_nil rfl ⟨rfl, rfl⟩
  · refine thenS_n ?_
    refine iteO_e h (fun hb148 h => W_true rfl hb148 ?_) (fun hb148 h => W_false rfl hb148 ?_)
    · refine W_seq ?_
      refine W_region ?_
      refine WO_step 1 [0, 1] [4] True ⟨[(4, .one (.e (.nsl)))], [.row .nod x1 false, .row .rcd x2 false]⟩ (by kernel_rfl) trivial ?_
      refine WO_nilrow 4 .nod rfl ?_
      refine WO_sub [0, 1, 2] [4] (st' := ⟨[(4, .one (.e (.sl 2 0 (([] : List Nod).length))))], [.row .nod x1 false, .row .rcd x2 false, .row .nod ([] : List Nod) true]⟩) (by kernel_rfl) ?_
      refine WO_nil rfl ?_
      refine thenS_n ?_
      refine W_ret ?_
      refine thenS_r ?_
      cases h
      exact ⟨[0, 1, 2], True, by kernel_rfl, trivial⟩
    · refine W_sub [0, 1] [0, 1] (st' := ⟨[(0, .one (.e (.sl 0 0 x1.length))), (1, .one (.e (.sl 1 0 x2.length)))], [.row .nod x1 false, .row .rcd x2 false]⟩) (by kernel_rfl) ?_
      refine W_skip ?_
      refine thenS_n ?_
      refine W_seq ?_
      refine W_region ?_
      refine guardO_e h (fun hg149 h => ?_)
      refine WO_step 4 [0, 1, 3] [1, 5] ((0 = 0 ∧ ([] : List Nod).length = ([] : List Nod).length ∧ ([] : List Nod).length + ((x1.drop 0).take x1.length).length ≤ 1099511627776) ∧ True) ⟨[(1, .one (.e (.sl 1 0 x2.length))), (5, .one (.e (.sl 2 0 ((([] : List Nod) ++ ((x1.drop 0).take x1.length)).length))))], [.row .nod x1 false, .row .rcd x2 false, .row .nod (([] : List Nod) ++ ((x1.drop 0).take x1.length)) true]⟩ (by kernel_rfl) ⟨hg149, trivial⟩ ?_
      refine WO_nil rfl ?_
      refine thenS_n ?_
      refine W_seq ?_
      refine W_seq ?_
      refine W_region ?_
      refine WO_step 1 [0, 1, 2] [1, 5, 6] True ⟨[(1, .one (.e (.sl 1 0 x2.length))), (5, .one (.e (.sl 2 0 ((([] : List Nod) ++ ((x1.drop 0).take x1.length)).length)))), (6, I 0)], [.row .nod x1 false, .row .rcd x2 false, .row .nod (([] : List Nod) ++ ((x1.drop 0).take x1.length)) true]⟩ (by kernel_rfl) trivial ?_
      refine WO_nil rfl ?_
      refine thenS_n ?_
      refine W_block ?_
      refine W_loop ?_
      refine bindO_e h (fun x232 hx232 h => ?_)
      refine WL_cut (spec_RedoLog_L1_ok w X θ x2 x1 x232 n (([] : List Nod) ++ ((x1.drop 0).take x1.length)) 0 hx232) ?_
      rintro _ _ ⟨rfl, rfl⟩
      refine blockS_y ?_
      refine thenS_n ?_
      refine W_seq ?_
      refine W_region ?_
      refine WO_step 2 [0, 1, 2] [4] True ⟨[(4, .one (.e (.sl 2 0 x232.length)))], [.row .nod x1 false, .row .rcd x2 false, .row .nod x232 true]⟩ (by kernel_rfl) trivial ?_
      refine WO_nil rfl ?_
      refine thenS_n ?_
      refine W_ret ?_
      cases h
      exact ⟨[0, 1, 2], True, by kernel_rfl, trivial⟩

/- laws.heldNodeS -/
def laws_heldNodeS_L1 (x1 : List Nod) : Nat → Int → Int → Option ((Unit) ⊕ (Int))
| 0, _, _ => none
| n + 1, i118, i119 =>
 iteO (decide (i119 < ((x1.length : Nat) : Int)))
 (guardO (0 ≤ i119 ∧ i119 < ((x1.length : Nat) : Int)) <|
 iteO (!decide (((x1.getD i119.toNat dnod).parent) = i118))
 (some (.inl ()))
 (guardO (0 ≤ i119 ∧ i119 < ((x1.length : Nat) : Int)) <|
 bindO (laws_markText n (w64 (i118 + 1))) fun s165 =>
 iteO (!decide (((x1.getD i119.toNat dnod).name) = s165))
 (some (.inl ()))
 (guardO (0 ≤ i119 ∧ i119 < ((x1.length : Nat) : Int)) <|
 iteO (!decide (((x1.getD i119.toNat dnod).value) = (w64 ((w64 (i118 + 1)) + 1))))
 (some (.inl ()))
 (laws_heldNodeS_L1 x1 n (w64 ((w64 ((w64 (i118 + 1)) + 1)) + 1)) (w64 (i119 + 1))))))
 (some (.inr i118))

theorem laws_heldNodeS_L1_ok (w : World) (X : Nat → Prop) (θ : List Loc) (x1 : List Nod) (v : (Unit) ⊕ (Int)) : ∀ (n : Nat) (i118 : Int) (i119 : Int), laws_heldNodeS_L1 x1 n i118 i119 = some v → WL EE ⟨w, X, θ, 41, 1⟩ (subC [1, 0, 1, 4, 4] (bodyC Try.f34)) (fun (e : Exit) (s : St) => (match v with | (.inl _) => e = .ret ∧ s = ⟨[(4, I (-1))], [.row .nod x1 false]⟩ | (.inr i146) => e = .exit 0 ∧ s = ⟨[(1, I i146)], [.row .nod x1 false]⟩ : Prop)) ⟨[(0, .one (.e (.sl 0 0 x1.length))), (1, I i118), (5, I i119)], [.row .nod x1 false]⟩ := by
  intro n
  induction n with
  | zero => intro _ _ h; exact none_e h
  | succ n ih =>
    intro i118 i119 h
    rw [laws_heldNodeS_L1] at h
    refine WL_round ?_
    refine W_seq ?_
    refine W_seq ?_
    refine W_region ?_
    refine WO_step 4 [0] [0, 1, 5, 9] (True ∧ (True ∧ True)) ⟨[(0, .one (.e (.sl 0 0 x1.length))), (1, I i118), (5, I i119), (9, B (decide (i119 < ((x1.length : Nat) : Int))))], [.row .nod x1 false]⟩ (by kernel_rfl) ⟨trivial, trivial, trivial⟩ ?_
    refine WO_nil rfl ?_
    refine thenS_n ?_
    refine iteO_e h (fun hb149 h => W_true rfl hb149 ?_) (fun hb149 h => W_false rfl hb149 ?_)
    · refine W_sub [0] [0, 1, 5] (st' := ⟨[(0, .one (.e (.sl 0 0 x1.length))), (1, I i118), (5, I i119)], [.row .nod x1 false]⟩) (by kernel_rfl) ?_
      refine W_skip ?_
      refine thenS_n ?_
      refine W_seq ?_
      refine W_block ?_
      refine W_seq ?_
      refine W_seq ?_
      refine W_region ?_
      refine guardO_e h (fun hg161 h => ?_)
      refine WO_step 7 [0] [0, 1, 5, 18] ((0 ≤ i119 ∧ i119 < ((x1.length : Nat) : Int)) ∧ (True ∧ (True ∧ True))) ⟨[(0, .one (.e (.sl 0 0 x1.length))), (1, I i118), (5, I i119), (18, B (!decide (((x1.getD i119.toNat dnod).parent) = i118)))], [.row .nod x1 false]⟩ (by kernel_rfl) ⟨hg161, trivial, trivial, trivial⟩ ?_
      refine WO_nil rfl ?_
      refine thenS_n ?_
      refine iteO_e h (fun hb163 h => W_true rfl hb163 ?_) (fun hb163 h => W_false rfl hb163 ?_)
      · refine W_seq ?_
        refine W_region ?_
        refine WO_step 1 [0] [4] True ⟨[(4, I (-1))], [.row .nod x1 false]⟩ (by kernel_rfl) trivial ?_
        refine WO_nil rfl ?_
        refine thenS_n ?_
        refine W_ret ?_
        refine thenS_r ?_
        refine blockS_r ?_
        refine thenS_r ?_
        refine thenS_r ?_
        cases h
        exact And.intro rfl rfl
      · refine W_sub [0] [0, 1, 5] (st' := ⟨[(0, .one (.e (.sl 0 0 x1.length))), (1, I i118), (5, I i119)], [.row .nod x1 false]⟩) (by kernel_rfl) ?_
        refine W_skip ?_
        refine thenS_n ?_
        refine W_seq ?_
        refine W_region ?_
        refine WO_step 3 [0] [0, 1, 5] (True ∧ True) ⟨[(0, .one (.e (.sl 0 0 x1.length))), (1, I (w64 (i118 + 1))), (5, I i119)], [.row .nod x1 false]⟩ (by kernel_rfl) ⟨trivial, trivial⟩ ?_
        refine WO_nil rfl ?_
        refine thenS_n ?_
        refine W_seq ?_
        refine W_seq ?_
        refine guardO_e h (fun hg164 h => ?_)
        refine bindO_e h (fun s165 hc166 h => ?_)
        refine W_cut (Q' := fun (e : Exit) (s : St) => e = .normal ∧ s = ⟨[(0, .one (.e (.sl 0 0 x1.length))), (1, I (w64 (i118 + 1))), (5, I i119), (28, B (!decide (((x1.getD i119.toNat dnod).name) = s165)))], [.row .nod x1 false]⟩) ?_ ?_
        · refine W_draw [] false (by kernel_rfl) (by kernel_rfl) ?_
          refine WD_takeK [0, 1, 2, 3, 4, 5] [0, 1, 5, 25, 26] [0, 1, 5, 25, 26] (φ := ((0 ≤ i119 ∧ i119 < ((x1.length : Nat) : Int)) ∧ (0 ≤ i119 ∧ i119 < ((x1.length : Nat) : Int)) ∧ (True ∧ True ∧ True))) (ls' := #[true, true, true, true, true, true, false, false]) (Ts' := [(0, .one (.e (.sl 0 0 x1.length))), (1, I (w64 (i118 + 1))), (5, I i119), (25, S ((x1.getD i119.toNat dnod).name)), (26, I (w64 (i118 + 1)))]) (st' := ⟨[(0, .one (.e (.sl 0 0 x1.length))), (1, I (w64 (i118 + 1))), (5, I i119), (25, S ((x1.getD i119.toNat dnod).name)), (26, I (w64 (i118 + 1)))], [.row .nod x1 false]⟩) (n2 := 2) (by kernel_rfl) ⟨hg164, hg164, trivial, trivial, trivial⟩ rfl ?_
          refine WD_all [6] (n := 1) (by kernel_rfl) rfl ?_
          refine WM_call [] Try.f57 rfl rfl (by kernel_rfl) rfl rfl (by kernel_rfl) (laws_markText_ok n (w64 (i118 + 1)) s165 hc166) (trivial) rfl (And.intro rfl (trivial)) ?_
          refine WD_takeK [7] [0, 1, 5, 28] [0, 1, 5, 28] (φ := (True ∧ True ∧ True)) (ls' := #[true, true, true, true, true, true, true, true]) (Ts' := [(0, .one (.e (.sl 0 0 x1.length))), (1, I (w64 (i118 + 1))), (5, I i119), (28, B (!decide (((x1.getD i119.toNat dnod).name) = s165)))]) (st' := ⟨[(0, .one (.e (.sl 0 0 x1.length))), (1, I (w64 (i118 + 1))), (5, I i119), (28, B (!decide (((x1.getD i119.toNat dnod).name) = s165)))], [.row .nod x1 false]⟩) (n2 := 0) (by kernel_rfl) ⟨trivial, trivial, trivial⟩ rfl ?_
          exact WD_done [0] [0, 1, 5, 28] (st' := ⟨[(0, .one (.e (.sl 0 0 x1.length))), (1, I (w64 (i118 + 1))), (5, I i119), (28, B (!decide (((x1.getD i119.toNat dnod).name) = s165)))], [.row .nod x1 false]⟩) (by kernel_rfl) (by kernel_rfl) (And.intro rfl rfl)
        · rintro _ _ ⟨rfl, rfl⟩
          refine thenS_n ?_
          refine iteO_e h (fun hb168 h => W_true rfl hb168 ?_) (fun hb168 h => W_false rfl hb168 ?_)
          · refine W_seq ?_
            refine W_region ?_
            refine WO_step 1 [0] [4] True ⟨[(4, I (-1))], [.row .nod x1 false]⟩ (by kernel_rfl) trivial ?_
            refine WO_nil rfl ?_
            refine thenS_n ?_
            refine W_ret ?_
            refine thenS_r ?_
            refine blockS_r ?_
            refine thenS_r ?_
            refine thenS_r ?_
            cases h
            exact And.intro rfl rfl
          · refine W_sub [0] [0, 1, 5] (st' := ⟨[(0, .one (.e (.sl 0 0 x1.length))), (1, I (w64 (i118 + 1))), (5, I i119)], [.row .nod x1 false]⟩) (by kernel_rfl) ?_
            refine W_skip ?_
            refine thenS_n ?_
            refine W_seq ?_
            refine W_region ?_
            refine WO_step 3 [0] [0, 1, 5] (True ∧ True) ⟨[(0, .one (.e (.sl 0 0 x1.length))), (1, I (w64 ((w64 (i118 + 1)) + 1))), (5, I i119)], [.row .nod x1 false]⟩ (by kernel_rfl) ⟨trivial, trivial⟩ ?_
            refine WO_nil rfl ?_
            refine thenS_n ?_
            refine W_seq ?_
            refine W_seq ?_
            refine W_region ?_
            refine guardO_e h (fun hg169 h => ?_)
            refine WO_step 7 [0] [0, 1, 5, 37] ((0 ≤ i119 ∧ i119 < ((x1.length : Nat) : Int)) ∧ (True ∧ (True ∧ True))) ⟨[(0, .one (.e (.sl 0 0 x1.length))), (1, I (w64 ((w64 (i118 + 1)) + 1))), (5, I i119), (37, B (!decide (((x1.getD i119.toNat dnod).value) = (w64 ((w64 (i118 + 1)) + 1)))))], [.row .nod x1 false]⟩ (by kernel_rfl) ⟨hg169, trivial, trivial, trivial⟩ ?_
            refine WO_nil rfl ?_
            refine thenS_n ?_
            refine iteO_e h (fun hb171 h => W_true rfl hb171 ?_) (fun hb171 h => W_false rfl hb171 ?_)
            · refine W_seq ?_
              refine W_region ?_
              refine WO_step 1 [0] [4] True ⟨[(4, I (-1))], [.row .nod x1 false]⟩ (by kernel_rfl) trivial ?_
              refine WO_nil rfl ?_
              refine thenS_n ?_
              refine W_ret ?_
              refine thenS_r ?_
              refine blockS_r ?_
              refine thenS_r ?_
              refine thenS_r ?_
              cases h
              exact And.intro rfl rfl
            · refine W_sub [0] [0, 1, 5] (st' := ⟨[(0, .one (.e (.sl 0 0 x1.length))), (1, I (w64 ((w64 (i118 + 1)) + 1))), (5, I i119)], [.row .nod x1 false]⟩) (by kernel_rfl) ?_
              refine W_skip ?_
              refine thenS_n ?_
              refine W_region ?_
              refine WO_step 3 [0] [0, 1, 5] (True ∧ True) ⟨[(0, .one (.e (.sl 0 0 x1.length))), (1, I (w64 ((w64 ((w64 (i118 + 1)) + 1)) + 1))), (5, I i119)], [.row .nod x1 false]⟩ (by kernel_rfl) ⟨trivial, trivial⟩ ?_
              refine WO_nil rfl ?_
              refine blockS_n ?_
              refine thenS_n ?_
              refine W_region ?_
              refine WO_step 3 [0] [0, 1, 5] (True ∧ True) ⟨[(0, .one (.e (.sl 0 0 x1.length))), (1, I (w64 ((w64 ((w64 (i118 + 1)) + 1)) + 1))), (5, I (w64 (i119 + 1)))], [.row .nod x1 false]⟩ (by kernel_rfl) ⟨trivial, trivial⟩ ?_
              refine WO_nil rfl ?_
              refine thenS_n ?_
              exact ih _ _ h
    · refine W_sub [0] [1] (st' := ⟨[(1, I i118)], [.row .nod x1 false]⟩) (by kernel_rfl) ?_
      refine W_exit ?_
      refine thenS_e ?_
      refine thenS_e ?_
      cases h
      exact And.intro rfl rfl

def laws_heldNodeS (n : Nat) (x1 : List Nod) (i2 : Int) : Option (Int) :=
 bindO (laws_heldNodeS_L1 x1 n i2 0) fun v172 =>
 match v172 with
 | (.inl _) => (some (-1))
 | (.inr i146) => (some i146)


theorem laws_heldNodeS_ok (n : Nat) (x1 : List Nod) (i2 : Int) (i87 : Int) (h : laws_heldNodeS n x1 i2 = some i87) : FOk EE 34 [.one (.e (.sl 0 0 x1.length)), I i2] [.row .nod x1 false] (I i87) [.row .nod x1 false] := by
  unfold laws_heldNodeS at h
  refine FOk_of_W 41 1 Try.func34 rfl rfl (Nat.le_of_ble_eq_true rfl) rfl (fun w X θ => ?_)
  refine W_seq ?_
  refine W_region ?_
  refine WO_step 1 [0] [0, 1] True ⟨[(0, .one (.e (.sl 0 0 x1.length))), (1, I i2)], [.row .nod x1 false]⟩ (by kernel_rfl) trivial ?_
  refine WO_nil rfl ?_
  refine thenS_n ?_
  refine W_seq ?_
  refine W_seq ?_
  refine W_region ?_
  refine WO_step 1 [0] [0, 1, 5] True ⟨[(0, .one (.e (.sl 0 0 x1.length))), (1, I i2), (5, I 0)], [.row .nod x1 false]⟩ (by kernel_rfl) trivial ?_
  refine WO_nil rfl ?_
  refine thenS_n ?_
  refine W_block ?_
  refine W_loop ?_
  refine bindO_e h (fun v172 hv172 h => ?_)
  refine WL_cut (laws_heldNodeS_L1_ok w X θ x1 v172 n i2 0 hv172) ?_
  rcases v172 with _ | i146
  · rintro _ _ ⟨rfl, rfl⟩
    refine blockS_r ?_
    refine thenS_r ?_
    cases h
    exact ⟨[0], True, by kernel_rfl, trivial⟩
  · rintro _ _ ⟨rfl, rfl⟩
    refine blockS_y ?_
    refine thenS_n ?_
    refine W_seq ?_
    refine W_region ?_
    refine WO_step 2 [0] [4] True ⟨[(4, I i146)], [.row .nod x1 false]⟩ (by kernel_rfl) trivial ?_
    refine WO_nil rfl ?_
    refine thenS_n ?_
    refine W_ret ?_
    cases h
    exact ⟨[0], True, by kernel_rfl, trivial⟩

end Go.Proofs.Ytdkmgkeaebcobaa

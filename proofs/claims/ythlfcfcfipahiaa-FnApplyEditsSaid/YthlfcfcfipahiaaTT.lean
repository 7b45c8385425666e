import Derived.Test.YthlfcfcfipahiaaTT2
namespace Go.Proofs.Ythlfcfcfipahiaa
open Go Go.Shelf Go.Proofs
set_option linter.unusedVariables false
/- spec.ApplyEdits -/
def spec_ApplyEdits_L1 (x2 : List Edt) (x1 : List Nod) : Nat → (List Nod) → Int → Option ((Unit) ⊕ ((List Nod)))
| 0, _, _ => none
| n + 1, x132, i133 =>
 iteO (decide (i133 < ((x2.length : Nat) : Int)))
 (guardO (0 ≤ i133 ∧ i133 < ((x2.length : Nat) : Int)) <|
 bindO (spec_apply n x132 (x2.getD i133.toNat dedt)) fun (x164, b165) =>
 iteO (!b165)
 (some (.inl ()))
 (spec_ApplyEdits_L1 x2 x1 n x164 (w64 (i133 + 1))))
 (some (.inr x132))

theorem spec_ApplyEdits_L1_ok (w : World) (X : Nat → Prop) (θ : List Loc) (x2 : List Edt) (x1 : List Nod) (v : (Unit) ⊕ ((List Nod))) : ∀ (n : Nat) (x132 : List Nod) (i133 : Int), spec_ApplyEdits_L1 x2 x1 n x132 i133 = some v → WL EE ⟨w, X, θ, 38, 2⟩ (subC [1, 1, 0, 1, 4, 4] (bodyC Try.f11)) (fun (e : Exit) (s : St) => (match v with | (.inl _) => e = .ret ∧ s = ⟨[(4, .one (.e (.sl 2 0 (([] : List Nod).length)))), (5, B false)], [.row .nod x1 false, .row .edt x2 false, .row .nod ([] : List Nod) true]⟩ | (.inr x152) => e = .exit 0 ∧ s = ⟨[(0, .one (.e (.sl 2 0 x152.length)))], [.row .nod x1 false, .row .edt x2 false, .row .nod x152 true]⟩ : Prop)) ⟨[(0, .one (.e (.sl 2 0 x132.length))), (1, .one (.e (.sl 1 0 x2.length))), (6, I i133)], [.row .nod x1 false, .row .edt x2 false, .row .nod x132 true]⟩ := by
  intro n
  induction n with
  | zero => intro _ _ h; exact none_e h
  | succ n ih =>
    intro x132 i133 h
    rw [spec_ApplyEdits_L1] at h
    refine WL_round ?_
    refine W_seq ?_
    refine W_seq ?_
    refine W_region ?_
    refine WO_step 4 [0, 1, 2] [0, 1, 6, 20] (True ∧ (True ∧ True)) ⟨[(0, .one (.e (.sl 2 0 x132.length))), (1, .one (.e (.sl 1 0 x2.length))), (6, I i133), (20, B (decide (i133 < ((x2.length : Nat) : Int))))], [.row .nod x1 false, .row .edt x2 false, .row .nod x132 true]⟩ (by kernel_rfl) ⟨trivial, trivial, trivial⟩ ?_
    refine WO_nil rfl ?_
    refine thenS_n ?_
    refine iteO_e h (fun hb155 h => W_true rfl hb155 ?_) (fun hb155 h => W_false rfl hb155 ?_)
    · refine W_sub [0, 1, 2] [0, 1, 6] (st' := ⟨[(0, .one (.e (.sl 2 0 x132.length))), (1, .one (.e (.sl 1 0 x2.length))), (6, I i133)], [.row .nod x1 false, .row .edt x2 false, .row .nod x132 true]⟩) (by kernel_rfl) ?_
      refine W_skip ?_
      refine thenS_n ?_
      refine W_seq ?_
      refine W_block ?_
      refine W_seq ?_
      refine W_region ?_
      refine guardO_e h (fun hg163 h => ?_)
      refine WO_step 5 [0, 1, 2] [1, 6, 24, 28] ((0 ≤ i133 ∧ i133 < ((x2.length : Nat) : Int)) ∧ (True ∧ True)) ⟨[(1, .one (.e (.sl 1 0 x2.length))), (6, I i133), (24, .one (.e (.sl 2 0 x132.length))), (28, AGG [cI ((x2.getD i133.toNat dedt).kind), cS ((x2.getD i133.toNat dedt).path), cI ((x2.getD i133.toNat dedt).value)])], [.row .nod x1 false, .row .edt x2 false, .row .nod x132 true]⟩ (by kernel_rfl) ⟨hg163, trivial, trivial⟩ ?_
      refine bindO_e h (fun v169 hc166 h => ?_)
      obtain ⟨x164, b165⟩ := v169
      refine WO_call [.ro 2] Try.f38 rfl rfl rfl (by kernel_rfl) Try.func38 rfl (by kernel_rfl) (spec_apply_ok n x132 (x2.getD i133.toNat dedt) x164 b165 hc166) (And.intro (And.intro rfl rfl) (trivial)) rfl ?_
      refine WO_step 5 [0, 1, 3] [1, 6, 7, 8] True ⟨[(1, .one (.e (.sl 1 0 x2.length))), (6, I i133), (7, .one (.e (.sl 2 0 x164.length))), (8, B b165)], [.row .nod x1 false, .row .edt x2 false, .row .nod x164 true]⟩ (by kernel_rfl) trivial ?_
      refine WO_nil rfl ?_
      refine thenS_n ?_
      refine W_seq ?_
      refine W_seq ?_
      refine W_region ?_
      refine WO_step 2 [0, 1, 2] [1, 6, 7, 33] True ⟨[(1, .one (.e (.sl 1 0 x2.length))), (6, I i133), (7, .one (.e (.sl 2 0 x164.length))), (33, B (!b165))], [.row .nod x1 false, .row .edt x2 false, .row .nod x164 true]⟩ (by kernel_rfl) trivial ?_
      refine WO_nil rfl ?_
      refine thenS_n ?_
      refine iteO_e h (fun hb168 h => W_true rfl hb168 ?_) (fun hb168 h => W_false rfl hb168 ?_)
      · refine W_seq ?_
        refine W_region ?_
        refine WO_step 2 [0, 1] [4, 5] True ⟨[(4, .one (.e (.nsl))), (5, B false)], [.row .nod x1 false, .row .edt x2 false]⟩ (by kernel_rfl) trivial ?_
        refine WO_nilrow 4 .nod rfl ?_
        refine WO_sub [0, 1, 2] [4, 5] (st' := ⟨[(4, .one (.e (.sl 2 0 (([] : List Nod).length)))), (5, B false)], [.row .nod x1 false, .row .edt x2 false, .row .nod ([] : List Nod) true]⟩) (by kernel_rfl) ?_
        refine WO_nil rfl ?_
        refine thenS_n ?_
        refine W_ret ?_
        refine thenS_r ?_
        refine blockS_r ?_
        refine thenS_r ?_
        refine thenS_r ?_
        cases h
        exact And.intro rfl rfl
      · refine W_sub [0, 1, 2] [1, 6, 7] (st' := ⟨[(1, .one (.e (.sl 1 0 x2.length))), (6, I i133), (7, .one (.e (.sl 2 0 x164.length)))], [.row .nod x1 false, .row .edt x2 false, .row .nod x164 true]⟩) (by kernel_rfl) ?_
        refine W_skip ?_
        refine thenS_n ?_
        refine W_region ?_
        refine WO_step 2 [0, 1, 2] [0, 1, 6] True ⟨[(0, .one (.e (.sl 2 0 x164.length))), (1, .one (.e (.sl 1 0 x2.length))), (6, I i133)], [.row .nod x1 false, .row .edt x2 false, .row .nod x164 true]⟩ (by kernel_rfl) trivial ?_
        refine WO_nil rfl ?_
        refine blockS_n ?_
        refine thenS_n ?_
        refine W_region ?_
        refine WO_step 3 [0, 1, 2] [0, 1, 6] (True ∧ True) ⟨[(0, .one (.e (.sl 2 0 x164.length))), (1, .one (.e (.sl 1 0 x2.length))), (6, I (w64 (i133 + 1)))], [.row .nod x1 false, .row .edt x2 false, .row .nod x164 true]⟩ (by kernel_rfl) ⟨trivial, trivial⟩ ?_
        refine WO_nil rfl ?_
        refine thenS_n ?_
        exact ih _ _ h
    · refine W_sub [0, 1, 2] [0] (st' := ⟨[(0, .one (.e (.sl 2 0 x132.length)))], [.row .nod x1 false, .row .edt x2 false, .row .nod x132 true]⟩) (by kernel_rfl) ?_
      refine W_exit ?_
      refine thenS_e ?_
      refine thenS_e ?_
      cases h
      exact And.intro rfl rfl

def spec_ApplyEdits (n : Nat) (x1 : List Nod) (x2 : List Edt) : Option ((List Nod) × Bool) :=
 bindO (spec_validTree n x1) fun b70 =>
 iteO ((!b70) || (decide (24 < ((x2.length : Nat) : Int))))
 (some (([] : List Nod), false))
 (bindO (iteO (decide (0 < ((x2.length : Nat) : Int)))
 (guardO (0 ≤ (0 : Int) ∧ (0 : Int) < ((x2.length : Nat) : Int)) <|
 bindO (spec_apply n x1 (x2.getD 0 dedt)) fun (x127, b128) =>
 iteO (!b128)
 (some (.inl ()))
 (bindO (spec_ApplyEdits_L1 x2 x1 n x127 (w64 (0 + 1))) fun v170 =>
 match v170 with
 | (.inl _) => (some (.inl ()))
 | (.inr x152) => (some (.inr (.inl x152)))
))
 (some (.inr (.inr ()))) : Option ((Unit) ⊕ (((List Nod)) ⊕ (Unit)))) fun v116 =>
 match v116 with
 | (.inl _) => (some (([] : List Nod), false))
 | (.inr (.inl x115)) => (guardO (0 = 0 ∧ ([] : List Nod).length = ([] : List Nod).length ∧ ([] : List Nod).length + ((x115.drop 0).take x115.length).length ≤ 1099511627776) <|
 some ((([] : List Nod) ++ ((x115.drop 0).take x115.length)), true))
 | (.inr (.inr _)) => (guardO (0 = 0 ∧ ([] : List Nod).length = ([] : List Nod).length ∧ ([] : List Nod).length + ((x1.drop 0).take x1.length).length ≤ 1099511627776) <|
 some ((([] : List Nod) ++ ((x1.drop 0).take x1.length)), true))
)

theorem spec_ApplyEdits_ok (n : Nat) (x1 : List Nod) (x2 : List Edt) (x68 : List Nod) (b69 : Bool) (h : spec_ApplyEdits n x1 x2 = some (x68, b69)) : FOk EE 11 [.one (.e (.sl 0 0 x1.length)), .one (.e (.sl 1 0 x2.length))] [.row .nod x1 false, .row .edt x2 false] (.tup [.e (.sl 2 0 x68.length), .e (cB b69)]) [.row .nod x1 false, .row .edt x2 false, .row .nod x68 true] := by
  unfold spec_ApplyEdits at h
  refine FOk_of_W 38 2 Try.func11 rfl rfl (Nat.le_of_ble_eq_true rfl) rfl (fun w X θ => ?_)
  refine W_seq ?_
  refine W_region ?_
  refine WO_step 2 [0, 1] [0, 1] True ⟨[(0, .one (.e (.sl 0 0 x1.length))), (1, .one (.e (.sl 1 0 x2.length)))], [.row .nod x1 false, .row .edt x2 false]⟩ (by kernel_rfl) trivial ?_
  refine WO_nil rfl ?_
  refine thenS_n ?_
  refine W_seq ?_
  refine W_seq ?_
  refine W_region ?_
  refine WO_step 1 [0, 1] [0, 1, 9] True ⟨[(0, .one (.e (.sl 0 0 x1.length))), (1, .one (.e (.sl 1 0 x2.length))), (9, .one (.e (.sl 0 0 x1.length)))], [.row .nod x1 false, .row .edt x2 false]⟩ (by kernel_rfl) trivial ?_
  refine bindO_e h (fun b70 hc71 h => ?_)
  refine WO_call [.ro 0] Try.f37 rfl rfl rfl (by kernel_rfl) Try.func37 rfl (by kernel_rfl) (spec_validTree_ok n x1 b70 hc71) (And.intro (And.intro rfl rfl) (trivial)) rfl ?_
  refine WO_step 2 [0, 1] [0, 1, 12] True ⟨[(0, .one (.e (.sl 0 0 x1.length))), (1, .one (.e (.sl 1 0 x2.length))), (12, B (!b70))], [.row .nod x1 false, .row .edt x2 false]⟩ (by kernel_rfl) trivial ?_
  refine WO_thru ⟨[(0, .one (.e (.sl 0 0 x1.length))), (1, .one (.e (.sl 1 0 x2.length))), (16, B ((!b70) || (decide (24 < ((x2.length : Nat) : Int)))))], [.row .nod x1 false, .row .edt x2 false]⟩ ?_ ?_
  · refine WO_if 12 rfl (fun hb74 => ?_) (fun hb74 => ?_)
    · refine WO_step 4 [0, 1] [0, 1, 16] True ⟨[(0, .one (.e (.sl 0 0 x1.length))), (1, .one (.e (.sl 1 0 x2.length))), (16, B true)], [.row .nod x1 false, .row .edt x2 false]⟩ (by kernel_rfl) trivial ?_
      exact WO_nil rfl ⟨rfl, by first | rfl | (rw [hb74]; first | done | rfl)⟩
    · refine WO_step 4 [0, 1] [0, 1, 16] (True ∧ (True ∧ True)) ⟨[(0, .one (.e (.sl 0 0 x1.length))), (1, .one (.e (.sl 1 0 x2.length))), (16, B (decide (24 < ((x2.length : Nat) : Int))))], [.row .nod x1 false, .row .edt x2 false]⟩ (by kernel_rfl) ⟨trivial, trivial, trivial⟩ ?_
      exact WO_nil rfl ⟨rfl, by first | rfl | (rw [hb74]; first | done | rfl)⟩
  · refine thenS_n ?_
    refine iteO_e h (fun hb76 h => W_true rfl hb76 ?_) (fun hb76 h => W_false rfl hb76 ?_)
    · refine W_seq ?_
      refine W_region ?_
      refine WO_step 2 [0, 1] [4, 5] True ⟨[(4, .one (.e (.nsl))), (5, B false)], [.row .nod x1 false, .row .edt x2 false]⟩ (by kernel_rfl) trivial ?_
      refine WO_nilrow 4 .nod rfl ?_
      refine WO_sub [0, 1, 2] [4, 5] (st' := ⟨[(4, .one (.e (.sl 2 0 (([] : List Nod).length)))), (5, B false)], [.row .nod x1 false, .row .edt x2 false, .row .nod ([] : List Nod) true]⟩) (by kernel_rfl) ?_
      refine WO_nil rfl ?_
      refine thenS_n ?_
      refine W_ret ?_
      refine thenS_r ?_
      cases h
      exact ⟨[0, 1, 2], True, by kernel_rfl, trivial⟩
    · refine W_sub [0, 1] [0, 1] (st' := ⟨[(0, .one (.e (.sl 0 0 x1.length))), (1, .one (.e (.sl 1 0 x2.length)))], [.row .nod x1 false, .row .edt x2 false]⟩) (by kernel_rfl) ?_
      refine W_skip ?_
      refine thenS_n ?_
      refine W_seq ?_
      refine W_seq ?_
      refine W_region ?_
      refine WO_step 1 [0, 1] [0, 1, 6] True ⟨[(0, .one (.e (.sl 0 0 x1.length))), (1, .one (.e (.sl 1 0 x2.length))), (6, I 0)], [.row .nod x1 false, .row .edt x2 false]⟩ (by kernel_rfl) trivial ?_
      refine WO_nil rfl ?_
      refine thenS_n ?_
      refine bindO_e h (fun v116 hv116 h => ?_)
      refine W_cut (Q' := fun (e : Exit) (s : St) => (match v116 with | (.inl _) => e = .ret ∧ s = ⟨[(4, .one (.e (.sl 2 0 (([] : List Nod).length)))), (5, B false)], [.row .nod x1 false, .row .edt x2 false, .row .nod ([] : List Nod) true]⟩ | (.inr (.inl x115)) => e = .normal ∧ s = ⟨[(0, .one (.e (.sl 2 0 x115.length)))], [.row .nod x1 false, .row .edt x2 false, .row .nod x115 true]⟩ | (.inr (.inr _)) => e = .normal ∧ s = ⟨[(0, .one (.e (.sl 0 0 x1.length)))], [.row .nod x1 false, .row .edt x2 false]⟩ : Prop)) ?_ ?_
      · refine W_block ?_
        refine W_loop ?_
        refine WL_round ?_
        refine W_seq ?_
        refine W_seq ?_
        refine W_region ?_
        refine WO_step 4 [0, 1] [0, 1, 6, 20] (True ∧ (True ∧ True)) ⟨[(0, .one (.e (.sl 0 0 x1.length))), (1, .one (.e (.sl 1 0 x2.length))), (6, I 0), (20, B (decide (0 < ((x2.length : Nat) : Int))))], [.row .nod x1 false, .row .edt x2 false]⟩ (by kernel_rfl) ⟨trivial, trivial, trivial⟩ ?_
        refine WO_nil rfl ?_
        refine thenS_n ?_
        refine iteO_e hv116 (fun hb118 hv116 => W_true rfl hb118 ?_) (fun hb118 hv116 => W_false rfl hb118 ?_)
        · refine W_sub [0, 1] [0, 1, 6] (st' := ⟨[(0, .one (.e (.sl 0 0 x1.length))), (1, .one (.e (.sl 1 0 x2.length))), (6, I 0)], [.row .nod x1 false, .row .edt x2 false]⟩) (by kernel_rfl) ?_
          refine W_skip ?_
          refine thenS_n ?_
          refine W_seq ?_
          refine W_block ?_
          refine W_seq ?_
          refine W_region ?_
          refine guardO_e hv116 (fun hg126 hv116 => ?_)
          refine WO_step 5 [0, 1] [1, 6, 24, 28] ((0 ≤ (0 : Int) ∧ (0 : Int) < ((x2.length : Nat) : Int)) ∧ (True ∧ True)) ⟨[(1, .one (.e (.sl 1 0 x2.length))), (6, I 0), (24, .one (.e (.sl 0 0 x1.length))), (28, AGG [cI ((x2.getD 0 dedt).kind), cS ((x2.getD 0 dedt).path), cI ((x2.getD 0 dedt).value)])], [.row .nod x1 false, .row .edt x2 false]⟩ (by kernel_rfl) ⟨hg126, trivial, trivial⟩ ?_
          refine bindO_e hv116 (fun v171 hc129 hv116 => ?_)
          obtain ⟨x127, b128⟩ := v171
          refine WO_call [.ro 0] Try.f38 rfl rfl rfl (by kernel_rfl) Try.func38 rfl (by kernel_rfl) (spec_apply_ok n x1 (x2.getD 0 dedt) x127 b128 hc129) (And.intro (And.intro rfl rfl) (trivial)) rfl ?_
          refine WO_step 5 [0, 1, 2] [1, 6, 7, 8] True ⟨[(1, .one (.e (.sl 1 0 x2.length))), (6, I 0), (7, .one (.e (.sl 2 0 x127.length))), (8, B b128)], [.row .nod x1 false, .row .edt x2 false, .row .nod x127 true]⟩ (by kernel_rfl) trivial ?_
          refine WO_nil rfl ?_
          refine thenS_n ?_
          refine W_seq ?_
          refine W_seq ?_
          refine W_region ?_
          refine WO_step 2 [0, 1, 2] [1, 6, 7, 33] True ⟨[(1, .one (.e (.sl 1 0 x2.length))), (6, I 0), (7, .one (.e (.sl 2 0 x127.length))), (33, B (!b128))], [.row .nod x1 false, .row .edt x2 false, .row .nod x127 true]⟩ (by kernel_rfl) trivial ?_
          refine WO_nil rfl ?_
          refine thenS_n ?_
          refine iteO_e hv116 (fun hb131 hv116 => W_true rfl hb131 ?_) (fun hb131 hv116 => W_false rfl hb131 ?_)
          · refine W_seq ?_
            refine W_region ?_
            refine WO_step 2 [0, 1] [4, 5] True ⟨[(4, .one (.e (.nsl))), (5, B false)], [.row .nod x1 false, .row .edt x2 false]⟩ (by kernel_rfl) trivial ?_
            refine WO_nilrow 4 .nod rfl ?_
            refine WO_sub [0, 1, 2] [4, 5] (st' := ⟨[(4, .one (.e (.sl 2 0 (([] : List Nod).length)))), (5, B false)], [.row .nod x1 false, .row .edt x2 false, .row .nod ([] : List Nod) true]⟩) (by kernel_rfl) ?_
            refine WO_nil rfl ?_
            refine thenS_n ?_
            refine W_ret ?_
            refine thenS_r ?_
            refine blockS_r ?_
            refine thenS_r ?_
            refine thenS_r ?_
            refine blockS_r ?_
            cases hv116
            exact And.intro rfl rfl
          · refine W_sub [0, 1, 2] [1, 6, 7] (st' := ⟨[(1, .one (.e (.sl 1 0 x2.length))), (6, I 0), (7, .one (.e (.sl 2 0 x127.length)))], [.row .nod x1 false, .row .edt x2 false, .row .nod x127 true]⟩) (by kernel_rfl) ?_
            refine W_skip ?_
            refine thenS_n ?_
            refine W_region ?_
            refine WO_step 2 [0, 1, 2] [0, 1, 6] True ⟨[(0, .one (.e (.sl 2 0 x127.length))), (1, .one (.e (.sl 1 0 x2.length))), (6, I 0)], [.row .nod x1 false, .row .edt x2 false, .row .nod x127 true]⟩ (by kernel_rfl) trivial ?_
            refine WO_nil rfl ?_
            refine blockS_n ?_
            refine thenS_n ?_
            refine W_region ?_
            refine WO_step 3 [0, 1, 2] [0, 1, 6] (True ∧ True) ⟨[(0, .one (.e (.sl 2 0 x127.length))), (1, .one (.e (.sl 1 0 x2.length))), (6, I (w64 (0 + 1)))], [.row .nod x1 false, .row .edt x2 false, .row .nod x127 true]⟩ (by kernel_rfl) ⟨trivial, trivial⟩ ?_
            refine WO_nil rfl ?_
            refine thenS_n ?_
            refine bindO_e hv116 (fun v170 hv170 hv116 => ?_)
            refine WL_cut (spec_ApplyEdits_L1_ok w X θ x2 x1 v170 n x127 (w64 (0 + 1)) hv170) ?_
            rcases v170 with _ | x152
            · rintro _ _ ⟨rfl, rfl⟩
              refine blockS_r ?_
              cases hv116
              exact And.intro rfl rfl
            · rintro _ _ ⟨rfl, rfl⟩
              refine blockS_y ?_
              cases hv116
              exact And.intro rfl rfl
        · refine W_sub [0, 1] [0] (st' := ⟨[(0, .one (.e (.sl 0 0 x1.length)))], [.row .nod x1 false, .row .edt x2 false]⟩) (by kernel_rfl) ?_
          refine W_exit ?_
          refine thenS_e ?_
          refine thenS_e ?_
          refine blockS_y ?_
          cases hv116
          exact And.intro rfl rfl
      · rcases v116 with _ | x115 | _
        · rintro _ _ ⟨rfl, rfl⟩
          refine thenS_r ?_
          cases h
          exact ⟨[0, 1, 2], True, by kernel_rfl, trivial⟩
        · rintro _ _ ⟨rfl, rfl⟩
          refine thenS_n ?_
          refine W_seq ?_
          refine W_region ?_
          refine guardO_e h (fun hg172 h => ?_)
          refine WO_step 5 [0, 1, 4] [4, 5] ((0 = 0 ∧ ([] : List Nod).length = ([] : List Nod).length ∧ ([] : List Nod).length + ((x115.drop 0).take x115.length).length ≤ 1099511627776) ∧ True) ⟨[(4, .one (.e (.sl 2 0 ((([] : List Nod) ++ ((x115.drop 0).take x115.length)).length)))), (5, B true)], [.row .nod x1 false, .row .edt x2 false, .row .nod (([] : List Nod) ++ ((x115.drop 0).take x115.length)) true]⟩ (by kernel_rfl) ⟨hg172, trivial⟩ ?_
          refine WO_nil rfl ?_
          refine thenS_n ?_
          refine W_ret ?_
          cases h
          exact ⟨[0, 1, 2], True, by kernel_rfl, trivial⟩
        · rintro _ _ ⟨rfl, rfl⟩
          refine thenS_n ?_
          refine W_seq ?_
          refine W_region ?_
          refine guardO_e h (fun hg173 h => ?_)
          refine WO_step 5 [0, 1, 3] [4, 5] ((0 = 0 ∧ ([] : List Nod).length = ([] : List Nod).length ∧ ([] : List Nod).length + ((x1.drop 0).take x1.length).length ≤ 1099511627776) ∧ True) ⟨[(4, .one (.e (.sl 2 0 ((([] : List Nod) ++ ((x1.drop 0).take x1.length)).length)))), (5, B true)], [.row .nod x1 false, .row .edt x2 false, .row .nod (([] : List Nod) ++ ((x1.drop 0).take x1.length)) true]⟩ (by kernel_rfl) ⟨hg173, trivial⟩ ?_
          refine WO_nil rfl ?_
          refine thenS_n ?_
          refine W_ret ?_
          cases h
          exact ⟨[0, 1, 2], True, by kernel_rfl, trivial⟩

/- laws.equalNodes -/
def laws_equalNodes_L1 (x1 : List Nod) (x2 : List Nod) : Nat → Int → Option ((Unit) ⊕ (Unit))
| 0, _ => none
| n + 1, i57 =>
 iteO (decide (i57 < ((x1.length : Nat) : Int)))
 (guardO (0 ≤ i57 ∧ i57 < ((x1.length : Nat) : Int)) <|
 guardO (0 ≤ i57 ∧ i57 < ((x2.length : Nat) : Int)) <|
 iteO (!((decide (((x1.getD i57.toNat dnod).parent) = ((x2.getD i57.toNat dnod).parent))) && ((decide (((x1.getD i57.toNat dnod).name) = ((x2.getD i57.toNat dnod).name))) && ((decide (((x1.getD i57.toNat dnod).value) = ((x2.getD i57.toNat dnod).value))) && true))))
 (some (.inl ()))
 (laws_equalNodes_L1 x1 x2 n (w64 (i57 + 1))))
 (some (.inr ()))

theorem laws_equalNodes_L1_ok (w : World) (X : Nat → Prop) (θ : List Loc) (x1 : List Nod) (x2 : List Nod) (v : (Unit) ⊕ (Unit)) : ∀ (n : Nat) (i57 : Int), laws_equalNodes_L1 x1 x2 n i57 = some v → WL EE ⟨w, X, θ, 26, 2⟩ (subC [1, 1, 0, 1, 4, 4] (bodyC Try.f12)) (fun (e : Exit) (s : St) => (match v with | (.inl _) => e = .ret ∧ s = ⟨[(4, B false)], [.row .nod x1 false, .row .nod x2 false]⟩ | (.inr _) => e = .exit 0 ∧ s = ⟨[], [.row .nod x1 false, .row .nod x2 false]⟩ : Prop)) ⟨[(0, .one (.e (.sl 0 0 x1.length))), (1, .one (.e (.sl 1 0 x2.length))), (5, I i57)], [.row .nod x1 false, .row .nod x2 false]⟩ := by
  intro n
  induction n with
  | zero => intro _ h; exact none_e h
  | succ n ih =>
    intro i57 h
    rw [laws_equalNodes_L1] at h
    refine WL_round ?_
    refine W_seq ?_
    refine W_seq ?_
    refine W_region ?_
    refine WO_step 4 [0, 1] [0, 1, 5, 14] (True ∧ (True ∧ True)) ⟨[(0, .one (.e (.sl 0 0 x1.length))), (1, .one (.e (.sl 1 0 x2.length))), (5, I i57), (14, B (decide (i57 < ((x1.length : Nat) : Int))))], [.row .nod x1 false, .row .nod x2 false]⟩ (by kernel_rfl) ⟨trivial, trivial, trivial⟩ ?_
    refine WO_nil rfl ?_
    refine thenS_n ?_
    refine iteO_e h (fun hb71 h => W_true rfl hb71 ?_) (fun hb71 h => W_false rfl hb71 ?_)
    · refine W_sub [0, 1] [0, 1, 5] (st' := ⟨[(0, .one (.e (.sl 0 0 x1.length))), (1, .one (.e (.sl 1 0 x2.length))), (5, I i57)], [.row .nod x1 false, .row .nod x2 false]⟩) (by kernel_rfl) ?_
      refine W_skip ?_
      refine thenS_n ?_
      refine W_seq ?_
      refine W_block ?_
      refine W_seq ?_
      refine guardO_e h (fun hg76 h => ?_)
      refine guardO_e h (fun hg77 h => ?_)
      refine W_cut (Q' := fun (e : Exit) (s : St) => e = .normal ∧ s = ⟨[(0, .one (.e (.sl 0 0 x1.length))), (1, .one (.e (.sl 1 0 x2.length))), (5, I i57), (25, B (!((decide (((x1.getD i57.toNat dnod).parent) = ((x2.getD i57.toNat dnod).parent))) && ((decide (((x1.getD i57.toNat dnod).name) = ((x2.getD i57.toNat dnod).name))) && ((decide (((x1.getD i57.toNat dnod).value) = ((x2.getD i57.toNat dnod).value))) && true)))))], [.row .nod x1 false, .row .nod x2 false]⟩) ?_ ?_
      · refine W_draw [] true (by kernel_rfl) (by kernel_rfl) ?_
        refine WD_takeK [0, 1, 2, 3, 4, 5, 6, 7, 8] [0, 1, 5, 25] [0, 1, 5, 25] (φ := ((0 ≤ i57 ∧ i57 < ((x1.length : Nat) : Int)) ∧ (0 ≤ i57 ∧ i57 < ((x1.length : Nat) : Int)) ∧ (True ∧ True ∧ ((0 ≤ i57 ∧ i57 < ((x2.length : Nat) : Int)) ∧ (0 ≤ i57 ∧ i57 < ((x2.length : Nat) : Int)) ∧ (True ∧ True ∧ (True ∧ True ∧ True)))))) (ls' := #[true, true, true, true, true, true, true, true, true]) (Ts' := [(0, .one (.e (.sl 0 0 x1.length))), (1, .one (.e (.sl 1 0 x2.length))), (5, I i57), (25, B (!((decide (((x1.getD i57.toNat dnod).parent) = ((x2.getD i57.toNat dnod).parent))) && ((decide (((x1.getD i57.toNat dnod).name) = ((x2.getD i57.toNat dnod).name))) && ((decide (((x1.getD i57.toNat dnod).value) = ((x2.getD i57.toNat dnod).value))) && true)))))]) (st' := ⟨[(0, .one (.e (.sl 0 0 x1.length))), (1, .one (.e (.sl 1 0 x2.length))), (5, I i57), (25, B (!((decide (((x1.getD i57.toNat dnod).parent) = ((x2.getD i57.toNat dnod).parent))) && ((decide (((x1.getD i57.toNat dnod).name) = ((x2.getD i57.toNat dnod).name))) && ((decide (((x1.getD i57.toNat dnod).value) = ((x2.getD i57.toNat dnod).value))) && true)))))], [.row .nod x1 false, .row .nod x2 false]⟩) (n2 := 0) (by kernel_rfl) ⟨hg76, hg76, trivial, trivial, hg77, hg77, trivial, trivial, trivial, trivial, trivial⟩ rfl ?_
        exact WD_done [0, 1] [0, 1, 5, 25] (st' := ⟨[(0, .one (.e (.sl 0 0 x1.length))), (1, .one (.e (.sl 1 0 x2.length))), (5, I i57), (25, B (!((decide (((x1.getD i57.toNat dnod).parent) = ((x2.getD i57.toNat dnod).parent))) && ((decide (((x1.getD i57.toNat dnod).name) = ((x2.getD i57.toNat dnod).name))) && ((decide (((x1.getD i57.toNat dnod).value) = ((x2.getD i57.toNat dnod).value))) && true)))))], [.row .nod x1 false, .row .nod x2 false]⟩) (by kernel_rfl) (by kernel_rfl) (And.intro rfl rfl)
      · rintro _ _ ⟨rfl, rfl⟩
        refine thenS_n ?_
        refine iteO_e h (fun hb79 h => W_true rfl hb79 ?_) (fun hb79 h => W_false rfl hb79 ?_)
        · refine W_seq ?_
          refine W_region ?_
          refine WO_step 1 [0, 1] [4] True ⟨[(4, B false)], [.row .nod x1 false, .row .nod x2 false]⟩ (by kernel_rfl) trivial ?_
          refine WO_nil rfl ?_
          refine thenS_n ?_
          refine W_ret ?_
          refine blockS_r ?_
          refine thenS_r ?_
          refine thenS_r ?_
          cases h
          exact And.intro rfl rfl
        · refine W_sub [0, 1] [0, 1, 5] (st' := ⟨[(0, .one (.e (.sl 0 0 x1.length))), (1, .one (.e (.sl 1 0 x2.length))), (5, I i57)], [.row .nod x1 false, .row .nod x2 false]⟩) (by kernel_rfl) ?_
          refine W_skip ?_
          refine blockS_n ?_
          refine thenS_n ?_
          refine W_region ?_
          refine WO_step 3 [0, 1] [0, 1, 5] (True ∧ True) ⟨[(0, .one (.e (.sl 0 0 x1.length))), (1, .one (.e (.sl 1 0 x2.length))), (5, I (w64 (i57 + 1)))], [.row .nod x1 false, .row .nod x2 false]⟩ (by kernel_rfl) ⟨trivial, trivial⟩ ?_
          refine WO_nil rfl ?_
          refine thenS_n ?_
          exact ih _ h
    · refine W_sub [0, 1] [] (st' := ⟨[], [.row .nod x1 false, .row .nod x2 false]⟩) (by kernel_rfl) ?_
      refine W_exit ?_
      refine thenS_e ?_
      refine thenS_e ?_
      cases h
      exact And.intro rfl rfl

def laws_equalNodes (n : Nat) (x1 : List Nod) (x2 : List Nod) : Option (Bool) :=
 iteO (!decide (((x1.length : Nat) : Int) = ((x2.length : Nat) : Int)))
 (some false)
 (bindO (laws_equalNodes_L1 x1 x2 n 0) fun v80 =>
 match v80 with
 | (.inl _) => (some false)
 | (.inr _) => (some true)
)

theorem laws_equalNodes_ok (n : Nat) (x1 : List Nod) (x2 : List Nod) (b41 : Bool) (h : laws_equalNodes n x1 x2 = some b41) : FOk EE 12 [.one (.e (.sl 0 0 x1.length)), .one (.e (.sl 1 0 x2.length))] [.row .nod x1 false, .row .nod x2 false] (B b41) [.row .nod x1 false, .row .nod x2 false] := by
  unfold laws_equalNodes at h
  refine FOk_of_W 26 2 Try.func12 rfl rfl (Nat.le_of_ble_eq_true rfl) rfl (fun w X θ => ?_)
  refine W_seq ?_
  refine W_region ?_
  refine WO_step 1 [0, 1] [0, 1] True ⟨[(0, .one (.e (.sl 0 0 x1.length))), (1, .one (.e (.sl 1 0 x2.length)))], [.row .nod x1 false, .row .nod x2 false]⟩ (by kernel_rfl) trivial ?_
  refine WO_nil rfl ?_
  refine thenS_n ?_
  refine W_seq ?_
  refine W_seq ?_
  refine W_region ?_
  refine WO_step 5 [0, 1] [0, 1, 10] (True ∧ (True ∧ (True ∧ True))) ⟨[(0, .one (.e (.sl 0 0 x1.length))), (1, .one (.e (.sl 1 0 x2.length))), (10, B (!decide (((x1.length : Nat) : Int) = ((x2.length : Nat) : Int))))], [.row .nod x1 false, .row .nod x2 false]⟩ (by kernel_rfl) ⟨trivial, trivial, trivial, trivial⟩ ?_
  refine WO_nil rfl ?_
  refine thenS_n ?_
  refine iteO_e h (fun hb43 h => W_true rfl hb43 ?_) (fun hb43 h => W_false rfl hb43 ?_)
  · refine W_seq ?_
    refine W_region ?_
    refine WO_step 1 [0, 1] [4] True ⟨[(4, B false)], [.row .nod x1 false, .row .nod x2 false]⟩ (by kernel_rfl) trivial ?_
    refine WO_nil rfl ?_
    refine thenS_n ?_
    refine W_ret ?_
    refine thenS_r ?_
    cases h
    exact ⟨[0, 1], True, by kernel_rfl, trivial⟩
  · refine W_sub [0, 1] [0, 1] (st' := ⟨[(0, .one (.e (.sl 0 0 x1.length))), (1, .one (.e (.sl 1 0 x2.length)))], [.row .nod x1 false, .row .nod x2 false]⟩) (by kernel_rfl) ?_
    refine W_skip ?_
    refine thenS_n ?_
    refine W_seq ?_
    refine W_seq ?_
    refine W_region ?_
    refine WO_step 1 [0, 1] [0, 1, 5] True ⟨[(0, .one (.e (.sl 0 0 x1.length))), (1, .one (.e (.sl 1 0 x2.length))), (5, I 0)], [.row .nod x1 false, .row .nod x2 false]⟩ (by kernel_rfl) trivial ?_
    refine WO_nil rfl ?_
    refine thenS_n ?_
    refine W_block ?_
    refine W_loop ?_
    refine bindO_e h (fun v80 hv80 h => ?_)
    refine WL_cut (laws_equalNodes_L1_ok w X θ x1 x2 v80 n 0 hv80) ?_
    rcases v80 with _ | _
    · rintro _ _ ⟨rfl, rfl⟩
      refine blockS_r ?_
      refine thenS_r ?_
      cases h
      exact ⟨[0, 1], True, by kernel_rfl, trivial⟩
    · rintro _ _ ⟨rfl, rfl⟩
      refine blockS_y ?_
      refine thenS_n ?_
      refine W_seq ?_
      refine W_region ?_
      refine WO_step 1 [0, 1] [4] True ⟨[(4, B true)], [.row .nod x1 false, .row .nod x2 false]⟩ (by kernel_rfl) trivial ?_
      refine WO_nil rfl ?_
      refine thenS_n ?_
      refine W_ret ?_
      cases h
      exact ⟨[0, 1], True, by kernel_rfl, trivial⟩

/- laws.FnApplyEdits -/
def laws_FnApplyEdits (n : Nat) (x1 : List Int) : Option (Bool) :=
 iteO (decide (1048576 < ((x1.length : Nat) : Int)))
 (some true)
 (bindO (spec_DrawApplyEdits n x1) fun (x68, x69, k70, k71) =>
 bindO (impl_ApplyEdits n ((x68.drop k70).take k71) x69) fun (x73, b74) =>
 bindO (spec_ApplyEdits n ((x68.drop k70).take k71) x69) fun (x76, b77) =>
 bindO (laws_equalNodes n x73 x76) fun b79 =>
 iteO ((!b79) || ((!(b74 == b77)) || ((!b74) || (decide (((x69.length : Nat) : Int) = 0)))))
 (bindO (laws_equalNodes n x73 x76) fun b95 =>
 some (b95 && (b74 == b77)))
 (guardO (0 ≤ (w64 (((x69.length : Nat) : Int) - 1)) ∧ (w64 (((x69.length : Nat) : Int) - 1)) ≤ ((x69.length : Nat) : Int)) <|
 bindO (impl_ApplyEdits n ((x68.drop k70).take k71) ((x69.drop 0).take ((w64 (((x69.length : Nat) : Int) - 1)).toNat))) fun (x101, b102) =>
 guardO (0 ≤ (w64 (((x69.length : Nat) : Int) - 1)) ∧ (w64 (((x69.length : Nat) : Int) - 1)) ≤ ((x69.length : Nat) : Int)) <|
 bindO (impl_ApplyEdits n x101 ((x69.drop ((w64 (((x69.length : Nat) : Int) - 1)).toNat)).take (x69.length - (w64 (((x69.length : Nat) : Int) - 1)).toNat))) fun (x105, b106) =>
 bindO (iteO b102
 (iteO b106
 (bindO (laws_equalNodes n x105 x73) fun b119 =>
 iteO b119
 (bindO (impl_ValidTree n x73) fun b122 =>
 some b122)
 (some false))
 (some false))
 (some false)) fun b115 =>
 some b115))

theorem laws_FnApplyEdits_ok (n : Nat) (x1 : List Int) (b65 : Bool) (h : laws_FnApplyEdits n x1 = some b65) : FOk EE 3 [.one (.e (.sl 0 0 x1.length))] [.row .u8 x1 false] (B b65) [.row .u8 x1 false] := by
  unfold laws_FnApplyEdits at h
  refine FOk_of_W 92 1 Try.func3 rfl rfl (Nat.le_of_ble_eq_true rfl) rfl (fun w X θ => ?_)
  refine W_seq ?_
  refine W_region ?_
  refine WO_step 1 [0] [0] True ⟨[(0, .one (.e (.sl 0 0 x1.length)))], [.row .u8 x1 false]⟩ (by kernel_rfl) trivial ?_
  refine WO_nil rfl ?_
  refine thenS_n ?_
  refine W_seq ?_
  refine W_seq ?_
  refine W_region ?_
  refine WO_step 3 [0] [0, 16] (True ∧ (True ∧ True)) ⟨[(0, .one (.e (.sl 0 0 x1.length))), (16, B (decide (1048576 < ((x1.length : Nat) : Int))))], [.row .u8 x1 false]⟩ (by kernel_rfl) ⟨trivial, trivial, trivial⟩ ?_
  refine WO_nil rfl ?_
  refine thenS_n ?_
  refine iteO_e h (fun hb67 h => W_true rfl hb67 ?_) (fun hb67 h => W_false rfl hb67 ?_)
  · refine W_seq ?_
    refine W_region ?_
    refine WO_step 1 [0] [2] True ⟨[(2, B true)], [.row .u8 x1 false]⟩ (by kernel_rfl) trivial ?_
    refine WO_nil rfl ?_
    refine thenS_n ?_
    refine W_ret ?_
    refine thenS_r ?_
    cases h
    exact ⟨[0], True, by kernel_rfl, trivial⟩
  · refine W_sub [0] [0] (st' := ⟨[(0, .one (.e (.sl 0 0 x1.length)))], [.row .u8 x1 false]⟩) (by kernel_rfl) ?_
    refine W_skip ?_
    refine thenS_n ?_
    refine W_seq ?_
    refine W_region ?_
    refine WO_step 1 [0] [18] True ⟨[(18, .one (.e (.sl 0 0 x1.length)))], [.row .u8 x1 false]⟩ (by kernel_rfl) trivial ?_
    refine bindO_e h (fun v128 hc72 h => ?_)
    obtain ⟨x68, x69, k70, k71⟩ := v128
    refine WO_call [.ro 0] Try.f9 rfl rfl rfl (by kernel_rfl) Try.func9 rfl (by kernel_rfl) (spec_DrawApplyEdits_ok n x1 x68 x69 k70 k71 hc72) (And.intro (And.intro rfl rfl) (trivial)) rfl ?_
    refine WO_step 5 [0, 1, 2] [3, 4] True ⟨[(3, .one (.e (.sl 1 k70 k71))), (4, .one (.e (.sl 2 0 x69.length)))], [.row .u8 x1 false, .row .nod x68 true, .row .edt x69 true]⟩ (by kernel_rfl) trivial ?_
    refine WO_nil rfl ?_
    refine thenS_n ?_
    refine W_seq ?_
    refine W_region ?_
    refine WO_step 2 [0, 1, 2] [3, 4, 23, 24] True ⟨[(3, .one (.e (.sl 1 k70 k71))), (4, .one (.e (.sl 2 0 x69.length))), (23, .one (.e (.sl 1 k70 k71))), (24, .one (.e (.sl 2 0 x69.length)))], [.row .u8 x1 false, .row .nod x68 true, .row .edt x69 true]⟩ (by kernel_rfl) trivial ?_
    refine bindO_e h (fun v127 hc75 h => ?_)
    obtain ⟨x73, b74⟩ := v127
    refine WO_call [.view 0, .ro 2] Try.f10 rfl rfl rfl (by kernel_rfl) Try.func10 rfl (by kernel_rfl) (impl_ApplyEdits_ok n ((x68.drop k70).take k71) x69 x73 b74 hc75) (And.intro (And.intro rfl rfl) (trivial)) rfl ?_
    refine WO_step 5 [0, 1, 2, 3] [3, 4, 5, 6] True ⟨[(3, .one (.e (.sl 1 k70 k71))), (4, .one (.e (.sl 2 0 x69.length))), (5, .one (.e (.sl 3 0 x73.length))), (6, B b74)], [.row .u8 x1 false, .row .nod x68 true, .row .edt x69 true, .row .nod x73 true]⟩ (by kernel_rfl) trivial ?_
    refine WO_nil rfl ?_
    refine thenS_n ?_
    refine W_seq ?_
    refine W_region ?_
    refine WO_step 2 [0, 1, 2, 3] [3, 4, 5, 6, 29, 30] True ⟨[(3, .one (.e (.sl 1 k70 k71))), (4, .one (.e (.sl 2 0 x69.length))), (5, .one (.e (.sl 3 0 x73.length))), (6, B b74), (29, .one (.e (.sl 1 k70 k71))), (30, .one (.e (.sl 2 0 x69.length)))], [.row .u8 x1 false, .row .nod x68 true, .row .edt x69 true, .row .nod x73 true]⟩ (by kernel_rfl) trivial ?_
    refine bindO_e h (fun v126 hc78 h => ?_)
    obtain ⟨x76, b77⟩ := v126
    refine WO_call [.view 0, .ro 2] Try.f11 rfl rfl rfl (by kernel_rfl) Try.func11 rfl (by kernel_rfl) (spec_ApplyEdits_ok n ((x68.drop k70).take k71) x69 x76 b77 hc78) (And.intro (And.intro rfl rfl) (trivial)) rfl ?_
    refine WO_step 5 [0, 1, 2, 3, 4] [3, 4, 5, 6, 7, 8] True ⟨[(3, .one (.e (.sl 1 k70 k71))), (4, .one (.e (.sl 2 0 x69.length))), (5, .one (.e (.sl 3 0 x73.length))), (6, B b74), (7, .one (.e (.sl 4 0 x76.length))), (8, B b77)], [.row .u8 x1 false, .row .nod x68 true, .row .edt x69 true, .row .nod x73 true, .row .nod x76 true]⟩ (by kernel_rfl) trivial ?_
    refine WO_nil rfl ?_
    refine thenS_n ?_
    refine W_seq ?_
    refine W_seq ?_
    refine W_region ?_
    refine WO_step 2 [0, 1, 2, 3, 4] [3, 4, 5, 6, 7, 8, 34, 35] True ⟨[(3, .one (.e (.sl 1 k70 k71))), (4, .one (.e (.sl 2 0 x69.length))), (5, .one (.e (.sl 3 0 x73.length))), (6, B b74), (7, .one (.e (.sl 4 0 x76.length))), (8, B b77), (34, .one (.e (.sl 3 0 x73.length))), (35, .one (.e (.sl 4 0 x76.length)))], [.row .u8 x1 false, .row .nod x68 true, .row .edt x69 true, .row .nod x73 true, .row .nod x76 true]⟩ (by kernel_rfl) trivial ?_
    refine bindO_e h (fun b79 hc80 h => ?_)
    refine WO_call [.ro 3, .ro 4] Try.f12 rfl rfl rfl (by kernel_rfl) Try.func12 rfl (by kernel_rfl) (laws_equalNodes_ok n x73 x76 b79 hc80) (And.intro (And.intro rfl rfl) (And.intro (And.intro rfl rfl) (trivial))) rfl ?_
    refine WO_step 2 [0, 1, 2, 3, 4] [3, 4, 5, 6, 7, 8, 38] True ⟨[(3, .one (.e (.sl 1 k70 k71))), (4, .one (.e (.sl 2 0 x69.length))), (5, .one (.e (.sl 3 0 x73.length))), (6, B b74), (7, .one (.e (.sl 4 0 x76.length))), (8, B b77), (38, B (!b79))], [.row .u8 x1 false, .row .nod x68 true, .row .edt x69 true, .row .nod x73 true, .row .nod x76 true]⟩ (by kernel_rfl) trivial ?_
    refine WO_thru ⟨[(3, .one (.e (.sl 1 k70 k71))), (4, .one (.e (.sl 2 0 x69.length))), (5, .one (.e (.sl 3 0 x73.length))), (6, B b74), (7, .one (.e (.sl 4 0 x76.length))), (8, B b77), (51, B ((!b79) || ((!(b74 == b77)) || ((!b74) || (decide (((x69.length : Nat) : Int) = 0))))))], [.row .u8 x1 false, .row .nod x68 true, .row .edt x69 true, .row .nod x73 true, .row .nod x76 true]⟩ ?_ ?_
    · refine WO_if 38 rfl (fun hb85 => ?_) (fun hb85 => ?_)
      · refine WO_step 13 [0, 1, 2, 3, 4] [3, 4, 5, 6, 7, 8, 51] True ⟨[(3, .one (.e (.sl 1 k70 k71))), (4, .one (.e (.sl 2 0 x69.length))), (5, .one (.e (.sl 3 0 x73.length))), (6, B b74), (7, .one (.e (.sl 4 0 x76.length))), (8, B b77), (51, B true)], [.row .u8 x1 false, .row .nod x68 true, .row .edt x69 true, .row .nod x73 true, .row .nod x76 true]⟩ (by kernel_rfl) trivial ?_
        exact WO_nil rfl ⟨rfl, by first | rfl | (rw [hb85]; first | done | rfl)⟩
      · refine WO_step 5 [0, 1, 2, 3, 4] [3, 4, 5, 6, 7, 8, 43] (True ∧ True) ⟨[(3, .one (.e (.sl 1 k70 k71))), (4, .one (.e (.sl 2 0 x69.length))), (5, .one (.e (.sl 3 0 x73.length))), (6, B b74), (7, .one (.e (.sl 4 0 x76.length))), (8, B b77), (43, B (!(b74 == b77)))], [.row .u8 x1 false, .row .nod x68 true, .row .edt x69 true, .row .nod x73 true, .row .nod x76 true]⟩ (by kernel_rfl) ⟨trivial, trivial⟩ ?_
        refine WO_if 43 rfl (fun hb86 => ?_) (fun hb86 => ?_)
        · refine WO_step 8 [0, 1, 2, 3, 4] [3, 4, 5, 6, 7, 8, 51] True ⟨[(3, .one (.e (.sl 1 k70 k71))), (4, .one (.e (.sl 2 0 x69.length))), (5, .one (.e (.sl 3 0 x73.length))), (6, B b74), (7, .one (.e (.sl 4 0 x76.length))), (8, B b77), (51, B true)], [.row .u8 x1 false, .row .nod x68 true, .row .edt x69 true, .row .nod x73 true, .row .nod x76 true]⟩ (by kernel_rfl) trivial ?_
          exact WO_nil rfl ⟨rfl, by first | rfl | (simp only [hb85, hb86]; first | done | rfl)⟩
        · refine WO_step 4 [0, 1, 2, 3, 4] [3, 4, 5, 6, 7, 8, 47] True ⟨[(3, .one (.e (.sl 1 k70 k71))), (4, .one (.e (.sl 2 0 x69.length))), (5, .one (.e (.sl 3 0 x73.length))), (6, B b74), (7, .one (.e (.sl 4 0 x76.length))), (8, B b77), (47, B (!b74))], [.row .u8 x1 false, .row .nod x68 true, .row .edt x69 true, .row .nod x73 true, .row .nod x76 true]⟩ (by kernel_rfl) trivial ?_
          refine WO_if 47 rfl (fun hb87 => ?_) (fun hb87 => ?_)
          · refine WO_step 4 [0, 1, 2, 3, 4] [3, 4, 5, 6, 7, 8, 51] True ⟨[(3, .one (.e (.sl 1 k70 k71))), (4, .one (.e (.sl 2 0 x69.length))), (5, .one (.e (.sl 3 0 x73.length))), (6, B b74), (7, .one (.e (.sl 4 0 x76.length))), (8, B b77), (51, B true)], [.row .u8 x1 false, .row .nod x68 true, .row .edt x69 true, .row .nod x73 true, .row .nod x76 true]⟩ (by kernel_rfl) trivial ?_
            exact WO_nil rfl ⟨rfl, by first | rfl | (simp only [hb85, hb86, hb87]; first | done | rfl)⟩
          · refine WO_step 4 [0, 1, 2, 3, 4] [3, 4, 5, 6, 7, 8, 51] (True ∧ (True ∧ True)) ⟨[(3, .one (.e (.sl 1 k70 k71))), (4, .one (.e (.sl 2 0 x69.length))), (5, .one (.e (.sl 3 0 x73.length))), (6, B b74), (7, .one (.e (.sl 4 0 x76.length))), (8, B b77), (51, B (decide (((x69.length : Nat) : Int) = 0)))], [.row .u8 x1 false, .row .nod x68 true, .row .edt x69 true, .row .nod x73 true, .row .nod x76 true]⟩ (by kernel_rfl) ⟨trivial, trivial, trivial⟩ ?_
            exact WO_nil rfl ⟨rfl, by first | rfl | (simp only [hb85, hb86, hb87]; first | done | rfl)⟩
    · refine thenS_n ?_
      refine iteO_e h (fun hb94 h => W_true rfl hb94 ?_) (fun hb94 h => W_false rfl hb94 ?_)
      · refine W_seq ?_
        refine W_region ?_
        refine WO_step 2 [0, 3, 4] [6, 8, 52, 53] True ⟨[(6, B b74), (8, B b77), (52, .one (.e (.sl 1 0 x73.length))), (53, .one (.e (.sl 2 0 x76.length)))], [.row .u8 x1 false, .row .nod x73 true, .row .nod x76 true]⟩ (by kernel_rfl) trivial ?_
        refine bindO_e h (fun b95 hc96 h => ?_)
        refine WO_call [.ro 1, .ro 2] Try.f12 rfl rfl rfl (by kernel_rfl) Try.func12 rfl (by kernel_rfl) (laws_equalNodes_ok n x73 x76 b95 hc96) (And.intro (And.intro rfl rfl) (And.intro (And.intro rfl rfl) (trivial))) rfl ?_
        refine WO_step 1 [0] [6, 8, 55] True ⟨[(6, B b74), (8, B b77), (55, B b95)], [.row .u8 x1 false]⟩ (by kernel_rfl) trivial ?_
        refine WO_thru ⟨[(2, B (b95 && (b74 == b77)))], [.row .u8 x1 false]⟩ ?_ ?_
        · refine WO_if 55 rfl (fun hb99 => ?_) (fun hb99 => ?_)
          · refine WO_step 5 [0] [2] (True ∧ True) ⟨[(2, B (b74 == b77))], [.row .u8 x1 false]⟩ (by kernel_rfl) ⟨trivial, trivial⟩ ?_
            exact WO_nil rfl ⟨rfl, by first | rfl | (rw [hb99]; first | done | rfl)⟩
          · refine WO_step 5 [0] [2] True ⟨[(2, B false)], [.row .u8 x1 false]⟩ (by kernel_rfl) trivial ?_
            exact WO_nil rfl ⟨rfl, by first | rfl | (rw [hb99]; first | done | rfl)⟩
        · refine thenS_n ?_
          refine W_ret ?_
          refine thenS_r ?_
          cases h
          exact ⟨[0], True, by kernel_rfl, trivial⟩
      · refine W_sub [0, 1, 2, 3] [3, 4, 5] (st' := ⟨[(3, .one (.e (.sl 1 k70 k71))), (4, .one (.e (.sl 2 0 x69.length))), (5, .one (.e (.sl 3 0 x73.length)))], [.row .u8 x1 false, .row .nod x68 true, .row .edt x69 true, .row .nod x73 true]⟩) (by kernel_rfl) ?_
        refine W_skip ?_
        refine thenS_n ?_
        refine W_seq ?_
        refine W_region ?_
        refine WO_step 4 [0, 1, 2, 3] [3, 4, 5, 9] (True ∧ (True ∧ True)) ⟨[(3, .one (.e (.sl 1 k70 k71))), (4, .one (.e (.sl 2 0 x69.length))), (5, .one (.e (.sl 3 0 x73.length))), (9, I (w64 (((x69.length : Nat) : Int) - 1)))], [.row .u8 x1 false, .row .nod x68 true, .row .edt x69 true, .row .nod x73 true]⟩ (by kernel_rfl) ⟨trivial, trivial, trivial⟩ ?_
        refine WO_nil rfl ?_
        refine thenS_n ?_
        refine W_seq ?_
        refine W_region ?_
        refine guardO_e h (fun hg100 h => ?_)
        refine WO_step 4 [0, 2, 3, 1] [4, 5, 9, 64, 67] ((0 ≤ (w64 (((x69.length : Nat) : Int) - 1)) ∧ (w64 (((x69.length : Nat) : Int) - 1)) ≤ ((x69.length : Nat) : Int)) ∧ True) ⟨[(4, .one (.e (.sl 1 0 x69.length))), (5, .one (.e (.sl 2 0 x73.length))), (9, I (w64 (((x69.length : Nat) : Int) - 1))), (64, .one (.e (.sl 3 k70 k71))), (67, .one (.e (.sl 1 0 ((w64 (((x69.length : Nat) : Int) - 1)).toNat))))], [.row .u8 x1 false, .row .edt x69 true, .row .nod x73 true, .row .nod x68 true]⟩ (by kernel_rfl) ⟨hg100, trivial⟩ ?_
        refine bindO_e h (fun v125 hc103 h => ?_)
        obtain ⟨x101, b102⟩ := v125
        refine WO_call [.view 0, .view 1] Try.f10 rfl rfl rfl (by kernel_rfl) Try.func10 rfl (by kernel_rfl) (impl_ApplyEdits_ok n ((x68.drop k70).take k71) ((x69.drop 0).take ((w64 (((x69.length : Nat) : Int) - 1)).toNat)) x101 b102 hc103) (trivial) rfl ?_
        refine WO_step 5 [0, 1, 2, 4] [4, 5, 9, 10, 11] True ⟨[(4, .one (.e (.sl 1 0 x69.length))), (5, .one (.e (.sl 2 0 x73.length))), (9, I (w64 (((x69.length : Nat) : Int) - 1))), (10, .one (.e (.sl 3 0 x101.length))), (11, B b102)], [.row .u8 x1 false, .row .edt x69 true, .row .nod x73 true, .row .nod x101 true]⟩ (by kernel_rfl) trivial ?_
        refine WO_nil rfl ?_
        refine thenS_n ?_
        refine W_seq ?_
        refine W_region ?_
        refine guardO_e h (fun hg104 h => ?_)
        refine WO_step 4 [0, 2, 3, 1] [5, 11, 72, 75] ((0 ≤ (w64 (((x69.length : Nat) : Int) - 1)) ∧ (w64 (((x69.length : Nat) : Int) - 1)) ≤ ((x69.length : Nat) : Int)) ∧ True) ⟨[(5, .one (.e (.sl 1 0 x73.length))), (11, B b102), (72, .one (.e (.sl 2 0 x101.length))), (75, .one (.e (.sl 3 ((w64 (((x69.length : Nat) : Int) - 1)).toNat) (x69.length - (w64 (((x69.length : Nat) : Int) - 1)).toNat))))], [.row .u8 x1 false, .row .nod x73 true, .row .nod x101 true, .row .edt x69 true]⟩ (by kernel_rfl) ⟨hg104, trivial⟩ ?_
        refine bindO_e h (fun v124 hc107 h => ?_)
        obtain ⟨x105, b106⟩ := v124
        refine WO_call [.ro 2, .view 1] Try.f10 rfl rfl rfl (by kernel_rfl) Try.func10 rfl (by kernel_rfl) (impl_ApplyEdits_ok n x101 ((x69.drop ((w64 (((x69.length : Nat) : Int) - 1)).toNat)).take (x69.length - (w64 (((x69.length : Nat) : Int) - 1)).toNat)) x105 b106 hc107) (And.intro (And.intro rfl rfl) (trivial)) rfl ?_
        refine WO_step 5 [0, 1, 4] [5, 11, 12, 13] True ⟨[(5, .one (.e (.sl 1 0 x73.length))), (11, B b102), (12, .one (.e (.sl 2 0 x105.length))), (13, B b106)], [.row .u8 x1 false, .row .nod x73 true, .row .nod x105 true]⟩ (by kernel_rfl) trivial ?_
        refine WO_nil rfl ?_
        refine thenS_n ?_
        refine W_seq ?_
        refine W_region ?_
        refine WO_step 2 [0, 1, 2] [5, 12, 13, 80] True ⟨[(5, .one (.e (.sl 1 0 x73.length))), (12, .one (.e (.sl 2 0 x105.length))), (13, B b106), (80, B b102)], [.row .u8 x1 false, .row .nod x73 true, .row .nod x105 true]⟩ (by kernel_rfl) trivial ?_
        refine bindO_e h (fun b115 hv116 h => ?_)
        refine WO_thru ⟨[(2, B b115)], [.row .u8 x1 false]⟩ ?_ ?_
        · refine iteO_e hv116 (fun hb117 hv116 => WO_known 80 true rfl hb117 ?_) (fun hb117 hv116 => WO_known 80 false rfl hb117 ?_)
          · refine WO_step 3 [0, 1, 2] [5, 12, 83] True ⟨[(5, .one (.e (.sl 1 0 x73.length))), (12, .one (.e (.sl 2 0 x105.length))), (83, B b106)], [.row .u8 x1 false, .row .nod x73 true, .row .nod x105 true]⟩ (by kernel_rfl) trivial ?_
            refine iteO_e hv116 (fun hb118 hv116 => WO_known 83 true rfl hb118 ?_) (fun hb118 hv116 => WO_known 83 false rfl hb118 ?_)
            · refine WO_step 2 [0, 1, 2] [5, 83, 84, 85] True ⟨[(5, .one (.e (.sl 1 0 x73.length))), (83, B true), (84, .one (.e (.sl 2 0 x105.length))), (85, .one (.e (.sl 1 0 x73.length)))], [.row .u8 x1 false, .row .nod x73 true, .row .nod x105 true]⟩ (by kernel_rfl) trivial ?_
              refine bindO_e hv116 (fun b119 hc120 hv116 => ?_)
              refine WO_call [.ro 2, .ro 1] Try.f12 rfl rfl rfl (by kernel_rfl) Try.func12 rfl (by kernel_rfl) (laws_equalNodes_ok n x105 x73 b119 hc120) (And.intro (And.intro rfl rfl) (And.intro (And.intro rfl rfl) (trivial))) rfl ?_
              refine WO_step 2 [0, 1] [5, 88] True ⟨[(5, .one (.e (.sl 1 0 x73.length))), (88, B b119)], [.row .u8 x1 false, .row .nod x73 true]⟩ (by kernel_rfl) trivial ?_
              refine iteO_e hv116 (fun hb121 hv116 => WO_known 88 true rfl hb121 ?_) (fun hb121 hv116 => WO_known 88 false rfl hb121 ?_)
              · refine WO_step 1 [0, 1] [88, 89] True ⟨[(88, B true), (89, .one (.e (.sl 1 0 x73.length)))], [.row .u8 x1 false, .row .nod x73 true]⟩ (by kernel_rfl) trivial ?_
                refine bindO_e hv116 (fun b122 hc123 hv116 => ?_)
                refine WO_call [.ro 1] Try.f13 rfl rfl rfl (by kernel_rfl) Try.func13 rfl (by kernel_rfl) (impl_ValidTree_ok n x73 b122 hc123) (And.intro (And.intro rfl rfl) (trivial)) rfl ?_
                refine WO_step 2 [0] [2] True ⟨[(2, B b122)], [.row .u8 x1 false]⟩ (by kernel_rfl) trivial ?_
                cases hv116
                exact WO_nil rfl ⟨rfl, rfl⟩
              · refine WO_step 4 [0] [2] True ⟨[(2, B false)], [.row .u8 x1 false]⟩ (by kernel_rfl) trivial ?_
                cases hv116
                exact WO_nil rfl ⟨rfl, rfl⟩
            · refine WO_step 9 [0] [2] True ⟨[(2, B false)], [.row .u8 x1 false]⟩ (by kernel_rfl) trivial ?_
              cases hv116
              exact WO_nil rfl ⟨rfl, rfl⟩
          · refine WO_step 12 [0] [2] True ⟨[(2, B false)], [.row .u8 x1 false]⟩ (by kernel_rfl) trivial ?_
            cases hv116
            exact WO_nil rfl ⟨rfl, rfl⟩
        · refine thenS_n ?_
          refine W_ret ?_
          cases h
          exact ⟨[0], True, by kernel_rfl, trivial⟩

/- laws.FnApplyEditsLast -/
def laws_FnApplyEditsLast (n : Nat) (x1 : List Int) : Option (Bool) :=
 iteO (decide (1048576 < ((x1.length : Nat) : Int)))
 (some true)
 (bindO (spec_DrawApplyEdits n x1) fun (x52, x53, k54, k55) =>
 bindO (impl_ApplyEdits n ((x52.drop k54).take k55) x53) fun (x57, b58) =>
 bindO (spec_ApplyEdits n ((x52.drop k54).take k55) x53) fun (x60, b61) =>
 bindO (laws_equalNodes n x57 x60) fun b63 =>
 iteO ((!b63) || ((!(b58 == b61)) || ((!b58) || (decide (((x53.length : Nat) : Int) = 0)))))
 (bindO (laws_equalNodes n x57 x60) fun b79 =>
 some (b79 && (b58 == b61)))
 (guardO (0 ≤ (w64 (((x53.length : Nat) : Int) - 1)) ∧ (w64 (((x53.length : Nat) : Int) - 1)) < ((x53.length : Nat) : Int)) <|
 bindO (impl_ResolvePath n x57 ((x53.getD ((w64 (((x53.length : Nat) : Int) - 1)).toNat) dedt).path)) fun i85 =>
 iteO (decide (((x53.getD ((w64 (((x53.length : Nat) : Int) - 1)).toNat) dedt).kind) = 1))
 (some (decide (i85 = (-1))))
 (bindO (iteO (decide (0 ≤ i85))
 (iteO (decide (i85 < ((x57.length : Nat) : Int)))
 (guardO (0 ≤ i85 ∧ i85 < ((x57.length : Nat) : Int)) <|
 some (decide (((x57.getD i85.toNat dnod).value) = ((x53.getD ((w64 (((x53.length : Nat) : Int) - 1)).toNat) dedt).value))))
 (some false))
 (some false)) fun b92 =>
 some b92)))

theorem laws_FnApplyEditsLast_ok (n : Nat) (x1 : List Int) (b49 : Bool) (h : laws_FnApplyEditsLast n x1 = some b49) : FOk EE 4 [.one (.e (.sl 0 0 x1.length))] [.row .u8 x1 false] (B b49) [.row .u8 x1 false] := by
  unfold laws_FnApplyEditsLast at h
  refine FOk_of_W 90 1 Try.func4 rfl rfl (Nat.le_of_ble_eq_true rfl) rfl (fun w X θ => ?_)
  refine W_seq ?_
  refine W_region ?_
  refine WO_step 1 [0] [0] True ⟨[(0, .one (.e (.sl 0 0 x1.length)))], [.row .u8 x1 false]⟩ (by kernel_rfl) trivial ?_
  refine WO_nil rfl ?_
  refine thenS_n ?_
  refine W_seq ?_
  refine W_seq ?_
  refine W_region ?_
  refine WO_step 3 [0] [0, 13] (True ∧ (True ∧ True)) ⟨[(0, .one (.e (.sl 0 0 x1.length))), (13, B (decide (1048576 < ((x1.length : Nat) : Int))))], [.row .u8 x1 false]⟩ (by kernel_rfl) ⟨trivial, trivial, trivial⟩ ?_
  refine WO_nil rfl ?_
  refine thenS_n ?_
  refine iteO_e h (fun hb51 h => W_true rfl hb51 ?_) (fun hb51 h => W_false rfl hb51 ?_)
  · refine W_seq ?_
    refine W_region ?_
    refine WO_step 1 [0] [2] True ⟨[(2, B true)], [.row .u8 x1 false]⟩ (by kernel_rfl) trivial ?_
    refine WO_nil rfl ?_
    refine thenS_n ?_
    refine W_ret ?_
    refine thenS_r ?_
    cases h
    exact ⟨[0], True, by kernel_rfl, trivial⟩
  · refine W_sub [0] [0] (st' := ⟨[(0, .one (.e (.sl 0 0 x1.length)))], [.row .u8 x1 false]⟩) (by kernel_rfl) ?_
    refine W_skip ?_
    refine thenS_n ?_
    refine W_seq ?_
    refine W_region ?_
    refine WO_step 1 [0] [15] True ⟨[(15, .one (.e (.sl 0 0 x1.length)))], [.row .u8 x1 false]⟩ (by kernel_rfl) trivial ?_
    refine bindO_e h (fun v96 hc56 h => ?_)
    obtain ⟨x52, x53, k54, k55⟩ := v96
    refine WO_call [.ro 0] Try.f9 rfl rfl rfl (by kernel_rfl) Try.func9 rfl (by kernel_rfl) (spec_DrawApplyEdits_ok n x1 x52 x53 k54 k55 hc56) (And.intro (And.intro rfl rfl) (trivial)) rfl ?_
    refine WO_step 5 [0, 1, 2] [3, 4] True ⟨[(3, .one (.e (.sl 1 k54 k55))), (4, .one (.e (.sl 2 0 x53.length)))], [.row .u8 x1 false, .row .nod x52 true, .row .edt x53 true]⟩ (by kernel_rfl) trivial ?_
    refine WO_nil rfl ?_
    refine thenS_n ?_
    refine W_seq ?_
    refine W_region ?_
    refine WO_step 2 [0, 1, 2] [3, 4, 20, 21] True ⟨[(3, .one (.e (.sl 1 k54 k55))), (4, .one (.e (.sl 2 0 x53.length))), (20, .one (.e (.sl 1 k54 k55))), (21, .one (.e (.sl 2 0 x53.length)))], [.row .u8 x1 false, .row .nod x52 true, .row .edt x53 true]⟩ (by kernel_rfl) trivial ?_
    refine bindO_e h (fun v95 hc59 h => ?_)
    obtain ⟨x57, b58⟩ := v95
    refine WO_call [.view 0, .ro 2] Try.f10 rfl rfl rfl (by kernel_rfl) Try.func10 rfl (by kernel_rfl) (impl_ApplyEdits_ok n ((x52.drop k54).take k55) x53 x57 b58 hc59) (And.intro (And.intro rfl rfl) (trivial)) rfl ?_
    refine WO_step 5 [0, 1, 2, 3] [3, 4, 5, 6] True ⟨[(3, .one (.e (.sl 1 k54 k55))), (4, .one (.e (.sl 2 0 x53.length))), (5, .one (.e (.sl 3 0 x57.length))), (6, B b58)], [.row .u8 x1 false, .row .nod x52 true, .row .edt x53 true, .row .nod x57 true]⟩ (by kernel_rfl) trivial ?_
    refine WO_nil rfl ?_
    refine thenS_n ?_
    refine W_seq ?_
    refine W_region ?_
    refine WO_step 2 [0, 2, 3, 1] [4, 5, 6, 26, 27] True ⟨[(4, .one (.e (.sl 1 0 x53.length))), (5, .one (.e (.sl 2 0 x57.length))), (6, B b58), (26, .one (.e (.sl 3 k54 k55))), (27, .one (.e (.sl 1 0 x53.length)))], [.row .u8 x1 false, .row .edt x53 true, .row .nod x57 true, .row .nod x52 true]⟩ (by kernel_rfl) trivial ?_
    refine bindO_e h (fun v94 hc62 h => ?_)
    obtain ⟨x60, b61⟩ := v94
    refine WO_call [.view 0, .ro 1] Try.f11 rfl rfl rfl (by kernel_rfl) Try.func11 rfl (by kernel_rfl) (spec_ApplyEdits_ok n ((x52.drop k54).take k55) x53 x60 b61 hc62) (And.intro (And.intro rfl rfl) (trivial)) rfl ?_
    refine WO_step 5 [0, 1, 2, 4] [4, 5, 6, 7, 8] True ⟨[(4, .one (.e (.sl 1 0 x53.length))), (5, .one (.e (.sl 2 0 x57.length))), (6, B b58), (7, .one (.e (.sl 3 0 x60.length))), (8, B b61)], [.row .u8 x1 false, .row .edt x53 true, .row .nod x57 true, .row .nod x60 true]⟩ (by kernel_rfl) trivial ?_
    refine WO_nil rfl ?_
    refine thenS_n ?_
    refine W_seq ?_
    refine W_seq ?_
    refine W_region ?_
    refine WO_step 2 [0, 1, 2, 3] [4, 5, 6, 7, 8, 31, 32] True ⟨[(4, .one (.e (.sl 1 0 x53.length))), (5, .one (.e (.sl 2 0 x57.length))), (6, B b58), (7, .one (.e (.sl 3 0 x60.length))), (8, B b61), (31, .one (.e (.sl 2 0 x57.length))), (32, .one (.e (.sl 3 0 x60.length)))], [.row .u8 x1 false, .row .edt x53 true, .row .nod x57 true, .row .nod x60 true]⟩ (by kernel_rfl) trivial ?_
    refine bindO_e h (fun b63 hc64 h => ?_)
    refine WO_call [.ro 2, .ro 3] Try.f12 rfl rfl rfl (by kernel_rfl) Try.func12 rfl (by kernel_rfl) (laws_equalNodes_ok n x57 x60 b63 hc64) (And.intro (And.intro rfl rfl) (And.intro (And.intro rfl rfl) (trivial))) rfl ?_
    refine WO_step 2 [0, 1, 2, 3] [4, 5, 6, 7, 8, 35] True ⟨[(4, .one (.e (.sl 1 0 x53.length))), (5, .one (.e (.sl 2 0 x57.length))), (6, B b58), (7, .one (.e (.sl 3 0 x60.length))), (8, B b61), (35, B (!b63))], [.row .u8 x1 false, .row .edt x53 true, .row .nod x57 true, .row .nod x60 true]⟩ (by kernel_rfl) trivial ?_
    refine WO_thru ⟨[(4, .one (.e (.sl 1 0 x53.length))), (5, .one (.e (.sl 2 0 x57.length))), (6, B b58), (7, .one (.e (.sl 3 0 x60.length))), (8, B b61), (48, B ((!b63) || ((!(b58 == b61)) || ((!b58) || (decide (((x53.length : Nat) : Int) = 0))))))], [.row .u8 x1 false, .row .edt x53 true, .row .nod x57 true, .row .nod x60 true]⟩ ?_ ?_
    · refine WO_if 35 rfl (fun hb69 => ?_) (fun hb69 => ?_)
      · refine WO_step 13 [0, 1, 2, 3] [4, 5, 6, 7, 8, 48] True ⟨[(4, .one (.e (.sl 1 0 x53.length))), (5, .one (.e (.sl 2 0 x57.length))), (6, B b58), (7, .one (.e (.sl 3 0 x60.length))), (8, B b61), (48, B true)], [.row .u8 x1 false, .row .edt x53 true, .row .nod x57 true, .row .nod x60 true]⟩ (by kernel_rfl) trivial ?_
        exact WO_nil rfl ⟨rfl, by first | rfl | (rw [hb69]; first | done | rfl)⟩
      · refine WO_step 5 [0, 1, 2, 3] [4, 5, 6, 7, 8, 40] (True ∧ True) ⟨[(4, .one (.e (.sl 1 0 x53.length))), (5, .one (.e (.sl 2 0 x57.length))), (6, B b58), (7, .one (.e (.sl 3 0 x60.length))), (8, B b61), (40, B (!(b58 == b61)))], [.row .u8 x1 false, .row .edt x53 true, .row .nod x57 true, .row .nod x60 true]⟩ (by kernel_rfl) ⟨trivial, trivial⟩ ?_
        refine WO_if 40 rfl (fun hb70 => ?_) (fun hb70 => ?_)
        · refine WO_step 8 [0, 1, 2, 3] [4, 5, 6, 7, 8, 48] True ⟨[(4, .one (.e (.sl 1 0 x53.length))), (5, .one (.e (.sl 2 0 x57.length))), (6, B b58), (7, .one (.e (.sl 3 0 x60.length))), (8, B b61), (48, B true)], [.row .u8 x1 false, .row .edt x53 true, .row .nod x57 true, .row .nod x60 true]⟩ (by kernel_rfl) trivial ?_
          exact WO_nil rfl ⟨rfl, by first | rfl | (simp only [hb69, hb70]; first | done | rfl)⟩
        · refine WO_step 4 [0, 1, 2, 3] [4, 5, 6, 7, 8, 44] True ⟨[(4, .one (.e (.sl 1 0 x53.length))), (5, .one (.e (.sl 2 0 x57.length))), (6, B b58), (7, .one (.e (.sl 3 0 x60.length))), (8, B b61), (44, B (!b58))], [.row .u8 x1 false, .row .edt x53 true, .row .nod x57 true, .row .nod x60 true]⟩ (by kernel_rfl) trivial ?_
          refine WO_if 44 rfl (fun hb71 => ?_) (fun hb71 => ?_)
          · refine WO_step 4 [0, 1, 2, 3] [4, 5, 6, 7, 8, 48] True ⟨[(4, .one (.e (.sl 1 0 x53.length))), (5, .one (.e (.sl 2 0 x57.length))), (6, B b58), (7, .one (.e (.sl 3 0 x60.length))), (8, B b61), (48, B true)], [.row .u8 x1 false, .row .edt x53 true, .row .nod x57 true, .row .nod x60 true]⟩ (by kernel_rfl) trivial ?_
            exact WO_nil rfl ⟨rfl, by first | rfl | (simp only [hb69, hb70, hb71]; first | done | rfl)⟩
          · refine WO_step 4 [0, 1, 2, 3] [4, 5, 6, 7, 8, 48] (True ∧ (True ∧ True)) ⟨[(4, .one (.e (.sl 1 0 x53.length))), (5, .one (.e (.sl 2 0 x57.length))), (6, B b58), (7, .one (.e (.sl 3 0 x60.length))), (8, B b61), (48, B (decide (((x53.length : Nat) : Int) = 0)))], [.row .u8 x1 false, .row .edt x53 true, .row .nod x57 true, .row .nod x60 true]⟩ (by kernel_rfl) ⟨trivial, trivial, trivial⟩ ?_
            exact WO_nil rfl ⟨rfl, by first | rfl | (simp only [hb69, hb70, hb71]; first | done | rfl)⟩
    · refine thenS_n ?_
      refine iteO_e h (fun hb78 h => W_true rfl hb78 ?_) (fun hb78 h => W_false rfl hb78 ?_)
      · refine W_seq ?_
        refine W_region ?_
        refine WO_step 2 [0, 2, 3] [6, 8, 49, 50] True ⟨[(6, B b58), (8, B b61), (49, .one (.e (.sl 1 0 x57.length))), (50, .one (.e (.sl 2 0 x60.length)))], [.row .u8 x1 false, .row .nod x57 true, .row .nod x60 true]⟩ (by kernel_rfl) trivial ?_
        refine bindO_e h (fun b79 hc80 h => ?_)
        refine WO_call [.ro 1, .ro 2] Try.f12 rfl rfl rfl (by kernel_rfl) Try.func12 rfl (by kernel_rfl) (laws_equalNodes_ok n x57 x60 b79 hc80) (And.intro (And.intro rfl rfl) (And.intro (And.intro rfl rfl) (trivial))) rfl ?_
        refine WO_step 1 [0] [6, 8, 52] True ⟨[(6, B b58), (8, B b61), (52, B b79)], [.row .u8 x1 false]⟩ (by kernel_rfl) trivial ?_
        refine WO_thru ⟨[(2, B (b79 && (b58 == b61)))], [.row .u8 x1 false]⟩ ?_ ?_
        · refine WO_if 52 rfl (fun hb83 => ?_) (fun hb83 => ?_)
          · refine WO_step 5 [0] [2] (True ∧ True) ⟨[(2, B (b58 == b61))], [.row .u8 x1 false]⟩ (by kernel_rfl) ⟨trivial, trivial⟩ ?_
            exact WO_nil rfl ⟨rfl, by first | rfl | (rw [hb83]; first | done | rfl)⟩
          · refine WO_step 5 [0] [2] True ⟨[(2, B false)], [.row .u8 x1 false]⟩ (by kernel_rfl) trivial ?_
            exact WO_nil rfl ⟨rfl, by first | rfl | (rw [hb83]; first | done | rfl)⟩
        · refine thenS_n ?_
          refine W_ret ?_
          refine thenS_r ?_
          cases h
          exact ⟨[0], True, by kernel_rfl, trivial⟩
      · refine W_sub [0, 1, 2] [4, 5] (st' := ⟨[(4, .one (.e (.sl 1 0 x53.length))), (5, .one (.e (.sl 2 0 x57.length)))], [.row .u8 x1 false, .row .edt x53 true, .row .nod x57 true]⟩) (by kernel_rfl) ?_
        refine W_skip ?_
        refine thenS_n ?_
        refine W_seq ?_
        refine W_region ?_
        refine guardO_e h (fun hg84 h => ?_)
        refine WO_step 8 [0, 2, 3] [5, 9] (True ∧ (True ∧ ((0 ≤ (w64 (((x53.length : Nat) : Int) - 1)) ∧ (w64 (((x53.length : Nat) : Int) - 1)) < ((x53.length : Nat) : Int)) ∧ (True ∧ (True ∧ (True ∧ True)))))) ⟨[(5, .one (.e (.sl 1 0 x57.length))), (9, .one (.e (.p 2 0)))], [.row .u8 x1 false, .row .nod x57 true, .cells [cI ((x53.getD ((w64 (((x53.length : Nat) : Int) - 1)).toNat) dedt).kind), cS ((x53.getD ((w64 (((x53.length : Nat) : Int) - 1)).toNat) dedt).path), cI ((x53.getD ((w64 (((x53.length : Nat) : Int) - 1)).toNat) dedt).value)]]⟩ (by kernel_rfl) ⟨trivial, trivial, hg84, trivial, trivial, trivial, trivial⟩ ?_
        refine WO_nil rfl ?_
        refine thenS_n ?_
        refine W_seq ?_
        refine W_region ?_
        refine WO_step 3 [0, 1, 2] [5, 9, 63, 65] (True ∧ True) ⟨[(5, .one (.e (.sl 1 0 x57.length))), (9, .one (.e (.p 2 0))), (63, .one (.e (.sl 1 0 x57.length))), (65, S ((x53.getD ((w64 (((x53.length : Nat) : Int) - 1)).toNat) dedt).path))], [.row .u8 x1 false, .row .nod x57 true, .cells [cI ((x53.getD ((w64 (((x53.length : Nat) : Int) - 1)).toNat) dedt).kind), cS ((x53.getD ((w64 (((x53.length : Nat) : Int) - 1)).toNat) dedt).path), cI ((x53.getD ((w64 (((x53.length : Nat) : Int) - 1)).toNat) dedt).value)]]⟩ (by kernel_rfl) ⟨trivial, trivial⟩ ?_
        refine bindO_e h (fun i85 hc86 h => ?_)
        refine WO_call [.ro 1] Try.f14 rfl rfl rfl (by kernel_rfl) Try.func14 rfl (by kernel_rfl) (impl_ResolvePath_ok n x57 ((x53.getD ((w64 (((x53.length : Nat) : Int) - 1)).toNat) dedt).path) i85 hc86) (And.intro (And.intro rfl rfl) (trivial)) rfl ?_
        refine WO_step 1 [0, 1, 2] [5, 9, 10] True ⟨[(5, .one (.e (.sl 1 0 x57.length))), (9, .one (.e (.p 2 0))), (10, I i85)], [.row .u8 x1 false, .row .nod x57 true, .cells [cI ((x53.getD ((w64 (((x53.length : Nat) : Int) - 1)).toNat) dedt).kind), cS ((x53.getD ((w64 (((x53.length : Nat) : Int) - 1)).toNat) dedt).path), cI ((x53.getD ((w64 (((x53.length : Nat) : Int) - 1)).toNat) dedt).value)]]⟩ (by kernel_rfl) trivial ?_
        refine WO_nil rfl ?_
        refine thenS_n ?_
        refine W_seq ?_
        refine W_seq ?_
        refine W_region ?_
        refine WO_step 3 [0, 1, 2] [5, 9, 10, 69] (True ∧ (True ∧ True)) ⟨[(5, .one (.e (.sl 1 0 x57.length))), (9, .one (.e (.p 2 0))), (10, I i85), (69, B (decide (((x53.getD ((w64 (((x53.length : Nat) : Int) - 1)).toNat) dedt).kind) = 1)))], [.row .u8 x1 false, .row .nod x57 true, .cells [cI ((x53.getD ((w64 (((x53.length : Nat) : Int) - 1)).toNat) dedt).kind), cS ((x53.getD ((w64 (((x53.length : Nat) : Int) - 1)).toNat) dedt).path), cI ((x53.getD ((w64 (((x53.length : Nat) : Int) - 1)).toNat) dedt).value)]]⟩ (by kernel_rfl) ⟨trivial, trivial, trivial⟩ ?_
        refine WO_nil rfl ?_
        refine thenS_n ?_
        refine iteO_e h (fun hb88 h => W_true rfl hb88 ?_) (fun hb88 h => W_false rfl hb88 ?_)
        · refine W_seq ?_
          refine W_region ?_
          refine WO_step 3 [0] [2] (True ∧ True) ⟨[(2, B (decide (i85 = (-1))))], [.row .u8 x1 false]⟩ (by kernel_rfl) ⟨trivial, trivial⟩ ?_
          refine WO_nil rfl ?_
          refine thenS_n ?_
          refine W_ret ?_
          refine thenS_r ?_
          cases h
          exact ⟨[0], True, by kernel_rfl, trivial⟩
        · refine W_sub [0, 1, 2] [5, 9, 10] (st' := ⟨[(5, .one (.e (.sl 1 0 x57.length))), (9, .one (.e (.p 2 0))), (10, I i85)], [.row .u8 x1 false, .row .nod x57 true, .cells [cI ((x53.getD ((w64 (((x53.length : Nat) : Int) - 1)).toNat) dedt).kind), cS ((x53.getD ((w64 (((x53.length : Nat) : Int) - 1)).toNat) dedt).path), cI ((x53.getD ((w64 (((x53.length : Nat) : Int) - 1)).toNat) dedt).value)]]⟩) (by kernel_rfl) ?_
          refine W_skip ?_
          refine thenS_n ?_
          refine W_seq ?_
          refine bindO_e h (fun b92 hv93 h => ?_)
          refine W_cut (Q' := fun (e : Exit) (s : St) => e = .normal ∧ s = ⟨[(2, B b92)], [.row .u8 x1 false]⟩) ?_ ?_
          · refine iteO_e hv93 (fun hb89 hv93 => ?_) (fun hb89 hv93 => ?_)
            · refine iteO_e hv93 (fun hb90 hv93 => ?_) (fun hb90 hv93 => ?_)
              · refine guardO_e hv93 (fun hg91 hv93 => ?_)
                refine W_draw [] true (by kernel_rfl) (by kernel_rfl) ?_
                refine WD_takeK [0, 1, 2] [5, 9, 10, 74] [5, 9, 10, 74] (φ := (True ∧ True ∧ True)) (ls' := #[true, true, true, false, false, false, false, false, false, false, false, false, false, false, false, false, false, false, false]) (Ts' := [(5, .one (.e (.sl 1 0 x57.length))), (9, .one (.e (.p 2 0))), (10, I i85), (74, B (decide (0 ≤ i85)))]) (st' := ⟨[(5, .one (.e (.sl 1 0 x57.length))), (9, .one (.e (.p 2 0))), (10, I i85), (74, B (decide (0 ≤ i85)))], [.row .u8 x1 false, .row .nod x57 true, .cells [cI ((x53.getD ((w64 (((x53.length : Nat) : Int) - 1)).toNat) dedt).kind), cS ((x53.getD ((w64 (((x53.length : Nat) : Int) - 1)).toNat) dedt).path), cI ((x53.getD ((w64 (((x53.length : Nat) : Int) - 1)).toNat) dedt).value)]]⟩) (n2 := 16) (by kernel_rfl) ⟨trivial, trivial, trivial⟩ rfl ?_
                refine WD_known 74 true rfl rfl hb89 ?_
                refine WD_takeK [3, 4, 5, 6, 7, 8] [5, 9, 10, 80] [5, 9, 10, 80] (φ := (True ∧ True ∧ (True ∧ True ∧ True))) (ls' := #[true, true, true, true, true, true, true, true, true, false, false, false, false, false, false, false, false, false, false]) (Ts' := [(5, .one (.e (.sl 1 0 x57.length))), (9, .one (.e (.p 2 0))), (10, I i85), (80, B (decide (i85 < ((x57.length : Nat) : Int))))]) (st' := ⟨[(5, .one (.e (.sl 1 0 x57.length))), (9, .one (.e (.p 2 0))), (10, I i85), (80, B (decide (i85 < ((x57.length : Nat) : Int))))], [.row .u8 x1 false, .row .nod x57 true, .cells [cI ((x53.getD ((w64 (((x53.length : Nat) : Int) - 1)).toNat) dedt).kind), cS ((x53.getD ((w64 (((x53.length : Nat) : Int) - 1)).toNat) dedt).path), cI ((x53.getD ((w64 (((x53.length : Nat) : Int) - 1)).toNat) dedt).value)]]⟩) (n2 := 10) (by kernel_rfl) ⟨trivial, trivial, trivial, trivial, trivial⟩ rfl ?_
                refine WD_known 80 true rfl rfl hb90 ?_
                refine WD_takeK [9, 10, 11, 12, 13, 14, 15, 16, 17, 18] [2] [2] (φ := ((0 ≤ i85 ∧ i85 < ((x57.length : Nat) : Int)) ∧ (0 ≤ i85 ∧ i85 < ((x57.length : Nat) : Int)) ∧ (True ∧ True ∧ (True ∧ True ∧ (True ∧ True ∧ True))))) (ls' := #[true, true, true, true, true, true, true, true, true, true, true, true, true, true, true, true, true, true, true]) (Ts' := [(2, B (decide (((x57.getD i85.toNat dnod).value) = ((x53.getD ((w64 (((x53.length : Nat) : Int) - 1)).toNat) dedt).value))))]) (st' := ⟨[(2, B (decide (((x57.getD i85.toNat dnod).value) = ((x53.getD ((w64 (((x53.length : Nat) : Int) - 1)).toNat) dedt).value))))], [.row .u8 x1 false, .row .nod x57 true, .cells [cI ((x53.getD ((w64 (((x53.length : Nat) : Int) - 1)).toNat) dedt).kind), cS ((x53.getD ((w64 (((x53.length : Nat) : Int) - 1)).toNat) dedt).path), cI ((x53.getD ((w64 (((x53.length : Nat) : Int) - 1)).toNat) dedt).value)]]⟩) (n2 := 0) (by kernel_rfl) ⟨hg91, hg91, trivial, trivial, trivial, trivial, trivial, trivial, trivial⟩ rfl ?_
                exact WD_done [0] [2] (st' := ⟨[(2, B (decide (((x57.getD i85.toNat dnod).value) = ((x53.getD ((w64 (((x53.length : Nat) : Int) - 1)).toNat) dedt).value))))], [.row .u8 x1 false]⟩) (by kernel_rfl) (by kernel_rfl) (And.intro rfl (by cases hv93; rfl))
              · refine W_draw [] true (by kernel_rfl) (by kernel_rfl) ?_
                refine WD_takeK [0, 1, 2] [5, 9, 10, 74] [5, 9, 10, 74] (φ := (True ∧ True ∧ True)) (ls' := #[true, true, true, false, false, false, false, false, false, false, false, false, false, false, false, false, false, false, false]) (Ts' := [(5, .one (.e (.sl 1 0 x57.length))), (9, .one (.e (.p 2 0))), (10, I i85), (74, B (decide (0 ≤ i85)))]) (st' := ⟨[(5, .one (.e (.sl 1 0 x57.length))), (9, .one (.e (.p 2 0))), (10, I i85), (74, B (decide (0 ≤ i85)))], [.row .u8 x1 false, .row .nod x57 true, .cells [cI ((x53.getD ((w64 (((x53.length : Nat) : Int) - 1)).toNat) dedt).kind), cS ((x53.getD ((w64 (((x53.length : Nat) : Int) - 1)).toNat) dedt).path), cI ((x53.getD ((w64 (((x53.length : Nat) : Int) - 1)).toNat) dedt).value)]]⟩) (n2 := 16) (by kernel_rfl) ⟨trivial, trivial, trivial⟩ rfl ?_
                refine WD_known 74 true rfl rfl hb89 ?_
                refine WD_takeK [3, 4, 5, 6, 7, 8] [5, 9, 10, 80] [5, 9, 10, 80] (φ := (True ∧ True ∧ (True ∧ True ∧ True))) (ls' := #[true, true, true, true, true, true, true, true, true, false, false, false, false, false, false, false, false, false, false]) (Ts' := [(5, .one (.e (.sl 1 0 x57.length))), (9, .one (.e (.p 2 0))), (10, I i85), (80, B (decide (i85 < ((x57.length : Nat) : Int))))]) (st' := ⟨[(5, .one (.e (.sl 1 0 x57.length))), (9, .one (.e (.p 2 0))), (10, I i85), (80, B (decide (i85 < ((x57.length : Nat) : Int))))], [.row .u8 x1 false, .row .nod x57 true, .cells [cI ((x53.getD ((w64 (((x53.length : Nat) : Int) - 1)).toNat) dedt).kind), cS ((x53.getD ((w64 (((x53.length : Nat) : Int) - 1)).toNat) dedt).path), cI ((x53.getD ((w64 (((x53.length : Nat) : Int) - 1)).toNat) dedt).value)]]⟩) (n2 := 10) (by kernel_rfl) ⟨trivial, trivial, trivial, trivial, trivial⟩ rfl ?_
                refine WD_known 80 false rfl rfl hb90 ?_
                refine WD_takeK [9, 10, 11, 12, 13, 14, 15, 16, 17, 18] [2] [2] (φ := True) (ls' := #[true, true, true, true, true, true, true, true, true, true, true, true, true, true, true, true, true, true, true]) (Ts' := [(2, B false)]) (st' := ⟨[(2, B false)], [.row .u8 x1 false, .row .nod x57 true, .cells [cI ((x53.getD ((w64 (((x53.length : Nat) : Int) - 1)).toNat) dedt).kind), cS ((x53.getD ((w64 (((x53.length : Nat) : Int) - 1)).toNat) dedt).path), cI ((x53.getD ((w64 (((x53.length : Nat) : Int) - 1)).toNat) dedt).value)]]⟩) (n2 := 0) (by kernel_rfl) trivial rfl ?_
                exact WD_done [0] [2] (st' := ⟨[(2, B false)], [.row .u8 x1 false]⟩) (by kernel_rfl) (by kernel_rfl) (And.intro rfl (by cases hv93; rfl))
            · refine W_draw [] true (by kernel_rfl) (by kernel_rfl) ?_
              refine WD_takeK [0, 1, 2] [5, 9, 10, 74] [5, 9, 10, 74] (φ := (True ∧ True ∧ True)) (ls' := #[true, true, true, false, false, false, false, false, false, false, false, false, false, false, false, false, false, false, false]) (Ts' := [(5, .one (.e (.sl 1 0 x57.length))), (9, .one (.e (.p 2 0))), (10, I i85), (74, B (decide (0 ≤ i85)))]) (st' := ⟨[(5, .one (.e (.sl 1 0 x57.length))), (9, .one (.e (.p 2 0))), (10, I i85), (74, B (decide (0 ≤ i85)))], [.row .u8 x1 false, .row .nod x57 true, .cells [cI ((x53.getD ((w64 (((x53.length : Nat) : Int) - 1)).toNat) dedt).kind), cS ((x53.getD ((w64 (((x53.length : Nat) : Int) - 1)).toNat) dedt).path), cI ((x53.getD ((w64 (((x53.length : Nat) : Int) - 1)).toNat) dedt).value)]]⟩) (n2 := 16) (by kernel_rfl) ⟨trivial, trivial, trivial⟩ rfl ?_
              refine WD_known 74 false rfl rfl hb89 ?_
              refine WD_takeK [3, 4, 5, 6, 7, 8, 9, 10, 11, 12, 13, 14, 15, 16, 17, 18] [2] [2] (φ := True) (ls' := #[true, true, true, true, true, true, true, true, true, true, true, true, true, true, true, true, true, true, true]) (Ts' := [(2, B false)]) (st' := ⟨[(2, B false)], [.row .u8 x1 false, .row .nod x57 true, .cells [cI ((x53.getD ((w64 (((x53.length : Nat) : Int) - 1)).toNat) dedt).kind), cS ((x53.getD ((w64 (((x53.length : Nat) : Int) - 1)).toNat) dedt).path), cI ((x53.getD ((w64 (((x53.length : Nat) : Int) - 1)).toNat) dedt).value)]]⟩) (n2 := 0) (by kernel_rfl) trivial rfl ?_
              exact WD_done [0] [2] (st' := ⟨[(2, B false)], [.row .u8 x1 false]⟩) (by kernel_rfl) (by kernel_rfl) (And.intro rfl (by cases hv93; rfl))
          · rintro _ _ ⟨rfl, rfl⟩
            refine thenS_n ?_
            refine W_ret ?_
            cases h
            exact ⟨[0], True, by kernel_rfl, trivial⟩

/- laws.FnApplyEditsNone -/
def laws_FnApplyEditsNone (n : Nat) (x1 : List Int) : Option (Bool) :=
 iteO (decide (1048576 < ((x1.length : Nat) : Int)))
 (some true)
 (bindO (spec_DrawApplyEdits n x1) fun (x63, x64, k65, k66) =>
 bindO (impl_ApplyEdits n ((x63.drop k65).take k66) x64) fun (x68, b69) =>
 bindO (spec_ApplyEdits n ((x63.drop k65).take k66) x64) fun (x71, b72) =>
 bindO (laws_equalNodes n x68 x71) fun b74 =>
 bindO (iteO (!b74)
 (some true)
 (iteO (!(b69 == b72))
 (some true)
 (bindO (impl_ValidTree n ((x63.drop k65).take k66)) fun b84 =>
 some (!b84)))) fun b80 =>
 iteO b80
 (bindO (laws_equalNodes n x68 x71) fun b93 =>
 some (b93 && (b69 == b72)))
 (bindO (impl_ApplyEdits n ((x63.drop k65).take k66) ([] : List Edt)) fun (x98, b99) =>
 bindO (impl_ApplyEdits n ((x63.drop k65).take k66) [(⟨1, [47], 0⟩ : Edt)]) fun (x101, b102) =>
 bindO (iteO b99
 (bindO (laws_equalNodes n x98 ((x63.drop k65).take k66)) fun b111 =>
 iteO b111
 (some (!b102))
 (some false))
 (some false)) fun b108 =>
 some b108))

theorem laws_FnApplyEditsNone_ok (n : Nat) (x1 : List Int) (b60 : Bool) (h : laws_FnApplyEditsNone n x1 = some b60) : FOk EE 5 [.one (.e (.sl 0 0 x1.length))] [.row .u8 x1 false] (B b60) [.row .u8 x1 false] := by
  unfold laws_FnApplyEditsNone at h
  refine FOk_of_W 77 1 Try.func5 rfl rfl (Nat.le_of_ble_eq_true rfl) rfl (fun w X θ => ?_)
  refine W_seq ?_
  refine W_region ?_
  refine WO_step 1 [0] [0] True ⟨[(0, .one (.e (.sl 0 0 x1.length)))], [.row .u8 x1 false]⟩ (by kernel_rfl) trivial ?_
  refine WO_nil rfl ?_
  refine thenS_n ?_
  refine W_seq ?_
  refine W_seq ?_
  refine W_region ?_
  refine WO_step 3 [0] [0, 15] (True ∧ (True ∧ True)) ⟨[(0, .one (.e (.sl 0 0 x1.length))), (15, B (decide (1048576 < ((x1.length : Nat) : Int))))], [.row .u8 x1 false]⟩ (by kernel_rfl) ⟨trivial, trivial, trivial⟩ ?_
  refine WO_nil rfl ?_
  refine thenS_n ?_
  refine iteO_e h (fun hb62 h => W_true rfl hb62 ?_) (fun hb62 h => W_false rfl hb62 ?_)
  · refine W_seq ?_
    refine W_region ?_
    refine WO_step 1 [0] [2] True ⟨[(2, B true)], [.row .u8 x1 false]⟩ (by kernel_rfl) trivial ?_
    refine WO_nil rfl ?_
    refine thenS_n ?_
    refine W_ret ?_
    refine thenS_r ?_
    cases h
    exact ⟨[0], True, by kernel_rfl, trivial⟩
  · refine W_sub [0] [0] (st' := ⟨[(0, .one (.e (.sl 0 0 x1.length)))], [.row .u8 x1 false]⟩) (by kernel_rfl) ?_
    refine W_skip ?_
    refine thenS_n ?_
    refine W_seq ?_
    refine W_region ?_
    refine WO_step 1 [0] [17] True ⟨[(17, .one (.e (.sl 0 0 x1.length)))], [.row .u8 x1 false]⟩ (by kernel_rfl) trivial ?_
    refine bindO_e h (fun v118 hc67 h => ?_)
    obtain ⟨x63, x64, k65, k66⟩ := v118
    refine WO_call [.ro 0] Try.f9 rfl rfl rfl (by kernel_rfl) Try.func9 rfl (by kernel_rfl) (spec_DrawApplyEdits_ok n x1 x63 x64 k65 k66 hc67) (And.intro (And.intro rfl rfl) (trivial)) rfl ?_
    refine WO_step 5 [0, 1, 2] [3, 4] True ⟨[(3, .one (.e (.sl 1 k65 k66))), (4, .one (.e (.sl 2 0 x64.length)))], [.row .u8 x1 false, .row .nod x63 true, .row .edt x64 true]⟩ (by kernel_rfl) trivial ?_
    refine WO_nil rfl ?_
    refine thenS_n ?_
    refine W_seq ?_
    refine W_region ?_
    refine WO_step 2 [0, 1, 2] [3, 4, 22, 23] True ⟨[(3, .one (.e (.sl 1 k65 k66))), (4, .one (.e (.sl 2 0 x64.length))), (22, .one (.e (.sl 1 k65 k66))), (23, .one (.e (.sl 2 0 x64.length)))], [.row .u8 x1 false, .row .nod x63 true, .row .edt x64 true]⟩ (by kernel_rfl) trivial ?_
    refine bindO_e h (fun v117 hc70 h => ?_)
    obtain ⟨x68, b69⟩ := v117
    refine WO_call [.view 0, .ro 2] Try.f10 rfl rfl rfl (by kernel_rfl) Try.func10 rfl (by kernel_rfl) (impl_ApplyEdits_ok n ((x63.drop k65).take k66) x64 x68 b69 hc70) (And.intro (And.intro rfl rfl) (trivial)) rfl ?_
    refine WO_step 5 [0, 1, 2, 3] [3, 4, 5, 6] True ⟨[(3, .one (.e (.sl 1 k65 k66))), (4, .one (.e (.sl 2 0 x64.length))), (5, .one (.e (.sl 3 0 x68.length))), (6, B b69)], [.row .u8 x1 false, .row .nod x63 true, .row .edt x64 true, .row .nod x68 true]⟩ (by kernel_rfl) trivial ?_
    refine WO_nil rfl ?_
    refine thenS_n ?_
    refine W_seq ?_
    refine W_region ?_
    refine WO_step 2 [0, 1, 3, 2] [3, 5, 6, 28, 29] True ⟨[(3, .one (.e (.sl 1 k65 k66))), (5, .one (.e (.sl 2 0 x68.length))), (6, B b69), (28, .one (.e (.sl 1 k65 k66))), (29, .one (.e (.sl 3 0 x64.length)))], [.row .u8 x1 false, .row .nod x63 true, .row .nod x68 true, .row .edt x64 true]⟩ (by kernel_rfl) trivial ?_
    refine bindO_e h (fun v116 hc73 h => ?_)
    obtain ⟨x71, b72⟩ := v116
    refine WO_call [.view 0, .ro 3] Try.f11 rfl rfl rfl (by kernel_rfl) Try.func11 rfl (by kernel_rfl) (spec_ApplyEdits_ok n ((x63.drop k65).take k66) x64 x71 b72 hc73) (And.intro (And.intro rfl rfl) (trivial)) rfl ?_
    refine WO_step 5 [0, 1, 2, 4] [3, 5, 6, 7, 8] True ⟨[(3, .one (.e (.sl 1 k65 k66))), (5, .one (.e (.sl 2 0 x68.length))), (6, B b69), (7, .one (.e (.sl 3 0 x71.length))), (8, B b72)], [.row .u8 x1 false, .row .nod x63 true, .row .nod x68 true, .row .nod x71 true]⟩ (by kernel_rfl) trivial ?_
    refine WO_nil rfl ?_
    refine thenS_n ?_
    refine W_seq ?_
    refine W_seq ?_
    refine W_region ?_
    refine WO_step 2 [0, 1, 2, 3] [3, 5, 6, 7, 8, 33, 34] True ⟨[(3, .one (.e (.sl 1 k65 k66))), (5, .one (.e (.sl 2 0 x68.length))), (6, B b69), (7, .one (.e (.sl 3 0 x71.length))), (8, B b72), (33, .one (.e (.sl 2 0 x68.length))), (34, .one (.e (.sl 3 0 x71.length)))], [.row .u8 x1 false, .row .nod x63 true, .row .nod x68 true, .row .nod x71 true]⟩ (by kernel_rfl) trivial ?_
    refine bindO_e h (fun b74 hc75 h => ?_)
    refine WO_call [.ro 2, .ro 3] Try.f12 rfl rfl rfl (by kernel_rfl) Try.func12 rfl (by kernel_rfl) (laws_equalNodes_ok n x68 x71 b74 hc75) (And.intro (And.intro rfl rfl) (And.intro (And.intro rfl rfl) (trivial))) rfl ?_
    refine WO_step 2 [0, 1, 2, 3] [3, 5, 6, 7, 8, 37] True ⟨[(3, .one (.e (.sl 1 k65 k66))), (5, .one (.e (.sl 2 0 x68.length))), (6, B b69), (7, .one (.e (.sl 3 0 x71.length))), (8, B b72), (37, B (!b74))], [.row .u8 x1 false, .row .nod x63 true, .row .nod x68 true, .row .nod x71 true]⟩ (by kernel_rfl) trivial ?_
    refine bindO_e h (fun b80 hv81 h => ?_)
    refine WO_thru ⟨[(3, .one (.e (.sl 1 k65 k66))), (5, .one (.e (.sl 2 0 x68.length))), (6, B b69), (7, .one (.e (.sl 3 0 x71.length))), (8, B b72), (46, B b80)], [.row .u8 x1 false, .row .nod x63 true, .row .nod x68 true, .row .nod x71 true]⟩ ?_ ?_
    · refine iteO_e hv81 (fun hb82 hv81 => WO_known 37 true rfl hb82 ?_) (fun hb82 hv81 => WO_known 37 false rfl hb82 ?_)
      · refine WO_step 9 [0, 1, 2, 3] [3, 5, 6, 7, 8, 46] True ⟨[(3, .one (.e (.sl 1 k65 k66))), (5, .one (.e (.sl 2 0 x68.length))), (6, B b69), (7, .one (.e (.sl 3 0 x71.length))), (8, B b72), (46, B true)], [.row .u8 x1 false, .row .nod x63 true, .row .nod x68 true, .row .nod x71 true]⟩ (by kernel_rfl) trivial ?_
        cases hv81
        exact WO_nil rfl ⟨rfl, rfl⟩
      · refine WO_step 5 [0, 1, 2, 3] [3, 5, 6, 7, 8, 42] (True ∧ True) ⟨[(3, .one (.e (.sl 1 k65 k66))), (5, .one (.e (.sl 2 0 x68.length))), (6, B b69), (7, .one (.e (.sl 3 0 x71.length))), (8, B b72), (42, B (!(b69 == b72)))], [.row .u8 x1 false, .row .nod x63 true, .row .nod x68 true, .row .nod x71 true]⟩ (by kernel_rfl) ⟨trivial, trivial⟩ ?_
        refine iteO_e hv81 (fun hb83 hv81 => WO_known 42 true rfl hb83 ?_) (fun hb83 hv81 => WO_known 42 false rfl hb83 ?_)
        · refine WO_step 4 [0, 1, 2, 3] [3, 5, 6, 7, 8, 46] True ⟨[(3, .one (.e (.sl 1 k65 k66))), (5, .one (.e (.sl 2 0 x68.length))), (6, B b69), (7, .one (.e (.sl 3 0 x71.length))), (8, B b72), (46, B true)], [.row .u8 x1 false, .row .nod x63 true, .row .nod x68 true, .row .nod x71 true]⟩ (by kernel_rfl) trivial ?_
          cases hv81
          exact WO_nil rfl ⟨rfl, rfl⟩
        · refine WO_step 1 [0, 1, 2, 3] [3, 5, 6, 7, 8, 42, 43] True ⟨[(3, .one (.e (.sl 1 k65 k66))), (5, .one (.e (.sl 2 0 x68.length))), (6, B b69), (7, .one (.e (.sl 3 0 x71.length))), (8, B b72), (42, B false), (43, .one (.e (.sl 1 k65 k66)))], [.row .u8 x1 false, .row .nod x63 true, .row .nod x68 true, .row .nod x71 true]⟩ (by kernel_rfl) trivial ?_
          refine bindO_e hv81 (fun b84 hc85 hv81 => ?_)
          refine WO_call [.view 0] Try.f13 rfl rfl rfl (by kernel_rfl) Try.func13 rfl (by kernel_rfl) (impl_ValidTree_ok n ((x63.drop k65).take k66) b84 hc85) (trivial) rfl ?_
          refine WO_step 2 [0, 1, 2, 3] [3, 5, 6, 7, 8, 46] True ⟨[(3, .one (.e (.sl 1 k65 k66))), (5, .one (.e (.sl 2 0 x68.length))), (6, B b69), (7, .one (.e (.sl 3 0 x71.length))), (8, B b72), (46, B (!b84))], [.row .u8 x1 false, .row .nod x63 true, .row .nod x68 true, .row .nod x71 true]⟩ (by kernel_rfl) trivial ?_
          cases hv81
          exact WO_nil rfl ⟨rfl, rfl⟩
    · refine thenS_n ?_
      refine iteO_e h (fun hb92 h => W_true rfl hb92 ?_) (fun hb92 h => W_false rfl hb92 ?_)
      · refine W_seq ?_
        refine W_region ?_
        refine WO_step 2 [0, 2, 3] [6, 8, 47, 48] True ⟨[(6, B b69), (8, B b72), (47, .one (.e (.sl 1 0 x68.length))), (48, .one (.e (.sl 2 0 x71.length)))], [.row .u8 x1 false, .row .nod x68 true, .row .nod x71 true]⟩ (by kernel_rfl) trivial ?_
        refine bindO_e h (fun b93 hc94 h => ?_)
        refine WO_call [.ro 1, .ro 2] Try.f12 rfl rfl rfl (by kernel_rfl) Try.func12 rfl (by kernel_rfl) (laws_equalNodes_ok n x68 x71 b93 hc94) (And.intro (And.intro rfl rfl) (And.intro (And.intro rfl rfl) (trivial))) rfl ?_
        refine WO_step 1 [0] [6, 8, 50] True ⟨[(6, B b69), (8, B b72), (50, B b93)], [.row .u8 x1 false]⟩ (by kernel_rfl) trivial ?_
        refine WO_thru ⟨[(2, B (b93 && (b69 == b72)))], [.row .u8 x1 false]⟩ ?_ ?_
        · refine WO_if 50 rfl (fun hb97 => ?_) (fun hb97 => ?_)
          · refine WO_step 5 [0] [2] (True ∧ True) ⟨[(2, B (b69 == b72))], [.row .u8 x1 false]⟩ (by kernel_rfl) ⟨trivial, trivial⟩ ?_
            exact WO_nil rfl ⟨rfl, by first | rfl | (rw [hb97]; first | done | rfl)⟩
          · refine WO_step 5 [0] [2] True ⟨[(2, B false)], [.row .u8 x1 false]⟩ (by kernel_rfl) trivial ?_
            exact WO_nil rfl ⟨rfl, by first | rfl | (rw [hb97]; first | done | rfl)⟩
        · refine thenS_n ?_
          refine W_ret ?_
          refine thenS_r ?_
          cases h
          exact ⟨[0], True, by kernel_rfl, trivial⟩
      · refine W_sub [0, 1] [3] (st' := ⟨[(3, .one (.e (.sl 1 k65 k66)))], [.row .u8 x1 false, .row .nod x63 true]⟩) (by kernel_rfl) ?_
        refine W_skip ?_
        refine thenS_n ?_
        refine W_seq ?_
        refine W_region ?_
        refine WO_step 1 [0, 1] [3, 56] True ⟨[(3, .one (.e (.sl 1 k65 k66))), (56, .one (.e (.sl 1 k65 k66)))], [.row .u8 x1 false, .row .nod x63 true]⟩ (by kernel_rfl) trivial ?_
        refine bindO_e h (fun v115 hc100 h => ?_)
        obtain ⟨x98, b99⟩ := v115
        refine WO_callN [(1, .edt)] (H1 := [.row .u8 x1 false, .row .nod x63 true, .row .edt ([] : List Edt) true]) [.view 0, .ro 2] Try.f10 rfl rfl rfl (by kernel_rfl) Try.func10 rfl (by kernel_rfl) (impl_ApplyEdits_ok n ((x63.drop k65).take k66) ([] : List Edt) x98 b99 hc100) (And.intro (And.intro rfl rfl) (trivial)) rfl ?_
        refine WO_step 5 [0, 1, 3] [3, 9, 10] True ⟨[(3, .one (.e (.sl 1 k65 k66))), (9, .one (.e (.sl 2 0 x98.length))), (10, B b99)], [.row .u8 x1 false, .row .nod x63 true, .row .nod x98 true]⟩ (by kernel_rfl) trivial ?_
        refine WO_nil rfl ?_
        refine thenS_n ?_
        refine W_seq ?_
        refine W_region ?_
        refine WO_step 3 [0, 1, 2, 3] [3, 9, 10, 61, 63] True ⟨[(3, .one (.e (.sl 1 k65 k66))), (9, .one (.e (.sl 2 0 x98.length))), (10, B b99), (61, .one (.e (.sl 1 k65 k66))), (63, .one (.e (.sl 3 0 ([(⟨1, [47], 0⟩ : Edt)].length))))], [.row .u8 x1 false, .row .nod x63 true, .row .nod x98 true, .row .edt [(⟨1, [47], 0⟩ : Edt)] true]⟩ (by kernel_rfl) trivial ?_
        refine bindO_e h (fun v114 hc103 h => ?_)
        obtain ⟨x101, b102⟩ := v114
        refine WO_call [.view 0, .ro 3] Try.f10 rfl rfl rfl (by kernel_rfl) Try.func10 rfl (by kernel_rfl) (impl_ApplyEdits_ok n ((x63.drop k65).take k66) [(⟨1, [47], 0⟩ : Edt)] x101 b102 hc103) (And.intro (And.intro rfl rfl) (trivial)) rfl ?_
        refine WO_step 5 [0, 1, 2] [3, 9, 10, 12] True ⟨[(3, .one (.e (.sl 1 k65 k66))), (9, .one (.e (.sl 2 0 x98.length))), (10, B b99), (12, B b102)], [.row .u8 x1 false, .row .nod x63 true, .row .nod x98 true]⟩ (by kernel_rfl) trivial ?_
        refine WO_nil rfl ?_
        refine thenS_n ?_
        refine W_seq ?_
        refine W_region ?_
        refine WO_step 2 [0, 1, 2] [3, 9, 12, 68] True ⟨[(3, .one (.e (.sl 1 k65 k66))), (9, .one (.e (.sl 2 0 x98.length))), (12, B b102), (68, B b99)], [.row .u8 x1 false, .row .nod x63 true, .row .nod x98 true]⟩ (by kernel_rfl) trivial ?_
        refine bindO_e h (fun b108 hv109 h => ?_)
        refine WO_thru ⟨[(2, B b108)], [.row .u8 x1 false]⟩ ?_ ?_
        · refine iteO_e hv109 (fun hb110 hv109 => WO_known 68 true rfl hb110 ?_) (fun hb110 hv109 => WO_known 68 false rfl hb110 ?_)
          · refine WO_step 2 [0, 2, 1] [12, 68, 69, 70] True ⟨[(12, B b102), (68, B true), (69, .one (.e (.sl 1 0 x98.length))), (70, .one (.e (.sl 2 k65 k66)))], [.row .u8 x1 false, .row .nod x98 true, .row .nod x63 true]⟩ (by kernel_rfl) trivial ?_
            refine bindO_e hv109 (fun b111 hc112 hv109 => ?_)
            refine WO_call [.ro 1, .view 1] Try.f12 rfl rfl rfl (by kernel_rfl) Try.func12 rfl (by kernel_rfl) (laws_equalNodes_ok n x98 ((x63.drop k65).take k66) b111 hc112) (And.intro (And.intro rfl rfl) (trivial)) rfl ?_
            refine WO_step 2 [0] [12, 73] True ⟨[(12, B b102), (73, B b111)], [.row .u8 x1 false]⟩ (by kernel_rfl) trivial ?_
            refine iteO_e hv109 (fun hb113 hv109 => WO_known 73 true rfl hb113 ?_) (fun hb113 hv109 => WO_known 73 false rfl hb113 ?_)
            · refine WO_step 4 [0] [2] True ⟨[(2, B (!b102))], [.row .u8 x1 false]⟩ (by kernel_rfl) trivial ?_
              cases hv109
              exact WO_nil rfl ⟨rfl, rfl⟩
            · refine WO_step 4 [0] [2] True ⟨[(2, B false)], [.row .u8 x1 false]⟩ (by kernel_rfl) trivial ?_
              cases hv109
              exact WO_nil rfl ⟨rfl, rfl⟩
          · refine WO_step 9 [0] [2] True ⟨[(2, B false)], [.row .u8 x1 false]⟩ (by kernel_rfl) trivial ?_
            cases hv109
            exact WO_nil rfl ⟨rfl, rfl⟩
        · refine thenS_n ?_
          refine W_ret ?_
          cases h
          exact ⟨[0], True, by kernel_rfl, trivial⟩

end Go.Proofs.Ythlfcfcfipahiaa

import Derived.Test.YtnaogmahijgibaaTT1
namespace Go.Proofs.Ytnaogmahijgibaa
open Go
set_option linter.unusedVariables false
/- laws.FnValidVersionsTime -/
def laws_FnValidVersionsTime_L4 (x105 : List Ver) (x1 : List Int) : Nat → (List Ver) → Int → Option ((List Ver))
| 0, _, _ => none
| n + 1, x174, i175 =>
 iteO (decide (i175 < ((x105.length : Nat) : Int)))
 (guardO (0 ≤ i175 ∧ i175 < ((x105.length : Nat) : Int)) <|
 guardO (0 ≤ i175 ∧ i175 < ((x105.length : Nat) : Int)) <|
 guardO (0 ≤ i175 ∧ i175 < ((x105.length : Nat) : Int)) <|
 guardO (0 = 0 ∧ x174.length = x174.length ∧ x174.length + (([(⟨(x105.getD i175.toNat dver).node, (x105.getD i175.toNat dver).value, (w64 (((x105.getD i175.toNat dver).tm) + 1))⟩ : Ver)].drop 0).take ([(⟨(x105.getD i175.toNat dver).node, (x105.getD i175.toNat dver).value, (w64 (((x105.getD i175.toNat dver).tm) + 1))⟩ : Ver)].length)).length ≤ 1099511627776) <|
 laws_FnValidVersionsTime_L4 x105 x1 n (x174 ++ (([(⟨(x105.getD i175.toNat dver).node, (x105.getD i175.toNat dver).value, (w64 (((x105.getD i175.toNat dver).tm) + 1))⟩ : Ver)].drop 0).take ([(⟨(x105.getD i175.toNat dver).node, (x105.getD i175.toNat dver).value, (w64 (((x105.getD i175.toNat dver).tm) + 1))⟩ : Ver)].length))) (w64 (i175 + 1)))
 (some x174)

theorem laws_FnValidVersionsTime_L4_ok (w : World) (X : Nat → Prop) (θ : List Loc) (x105 : List Ver) (x1 : List Int) (x188 : (List Ver)) : ∀ (n : Nat) (x174 : List Ver) (i175 : Int), laws_FnValidVersionsTime_L4 x105 x1 n x174 i175 = some x188 → WL EE ⟨w, X, θ, 70, 1⟩ (subC [1, 1, 1, 1, 1, 1, 0, 1, 4, 4] (bodyC Try.f5)) (fun (e : Exit) (s : St) => e = .exit 0 ∧ s = ⟨[(5, .one (.e (.sl 1 0 x188.length)))], [.row .u8 x1 false, .row .ver x188 true]⟩) ⟨[(3, .one (.e (.sl 1 0 x105.length))), (5, .one (.e (.sl 2 0 x174.length))), (6, I i175)], [.row .u8 x1 false, .row .ver x105 true, .row .ver x174 true]⟩ := by
  intro n
  induction n with
  | zero => intro _ _ h; exact none_e h
  | succ n ih =>
    intro x174 i175 h
    rw [laws_FnValidVersionsTime_L4] at h
    refine WL_round ?_
    refine W_seq ?_
    refine W_seq ?_
    refine W_region ?_
    refine WO_step 4 [0, 1, 2] [3, 5, 6, 45] (True ∧ (True ∧ True)) ⟨[(3, .one (.e (.sl 1 0 x105.length))), (5, .one (.e (.sl 2 0 x174.length))), (6, I i175), (45, B (decide (i175 < ((x105.length : Nat) : Int))))], [.row .u8 x1 false, .row .ver x105 true, .row .ver x174 true]⟩ (by kernel_rfl) ⟨trivial, trivial, trivial⟩ ?_
    refine WO_nil rfl ?_
    refine thenS_n ?_
    refine iteO_e h (fun hb191 h => W_true rfl hb191 ?_) (fun hb191 h => W_false rfl hb191 ?_)
    · refine W_sub [0, 1, 2] [3, 5, 6] (st' := ⟨[(3, .one (.e (.sl 1 0 x105.length))), (5, .one (.e (.sl 2 0 x174.length))), (6, I i175)], [.row .u8 x1 false, .row .ver x105 true, .row .ver x174 true]⟩) (by kernel_rfl) ?_
      refine W_skip ?_
      refine thenS_n ?_
      refine W_seq ?_
      refine W_block ?_
      refine guardO_e h (fun hg196 h => ?_)
      refine guardO_e h (fun hg197 h => ?_)
      refine guardO_e h (fun hg198 h => ?_)
      refine guardO_e h (fun hg199 h => ?_)
      refine W_cut (Q' := fun (e : Exit) (s : St) => e = .normal ∧ s = ⟨[(3, .one (.e (.sl 1 0 x105.length))), (5, .one (.e (.sl 2 0 ((x174 ++ (([(⟨(x105.getD i175.toNat dver).node, (x105.getD i175.toNat dver).value, (w64 (((x105.getD i175.toNat dver).tm) + 1))⟩ : Ver)].drop 0).take ([(⟨(x105.getD i175.toNat dver).node, (x105.getD i175.toNat dver).value, (w64 (((x105.getD i175.toNat dver).tm) + 1))⟩ : Ver)].length))).length)))), (6, I i175)], [.row .u8 x1 false, .row .ver x105 true, .row .ver (x174 ++ (([(⟨(x105.getD i175.toNat dver).node, (x105.getD i175.toNat dver).value, (w64 (((x105.getD i175.toNat dver).tm) + 1))⟩ : Ver)].drop 0).take ([(⟨(x105.getD i175.toNat dver).node, (x105.getD i175.toNat dver).value, (w64 (((x105.getD i175.toNat dver).tm) + 1))⟩ : Ver)].length))) true]⟩) ?_ ?_
      · refine W_draw [2] false (by kernel_rfl) (by kernel_rfl) ?_
        refine WD_takeK [0, 1, 2, 3, 4, 5, 6, 7, 8, 9, 10, 11, 12, 13, 14, 15, 16, 17] [3, 5, 6, 48, 65] [3, 5, 6, 48, 65] (φ := ((0 ≤ i175 ∧ i175 < ((x105.length : Nat) : Int)) ∧ (0 ≤ i175 ∧ i175 < ((x105.length : Nat) : Int)) ∧ (True ∧ True ∧ ((0 ≤ i175 ∧ i175 < ((x105.length : Nat) : Int)) ∧ (0 ≤ i175 ∧ i175 < ((x105.length : Nat) : Int)) ∧ (True ∧ True ∧ ((0 ≤ i175 ∧ i175 < ((x105.length : Nat) : Int)) ∧ (0 ≤ i175 ∧ i175 < ((x105.length : Nat) : Int)) ∧ (True ∧ True ∧ (True ∧ True ∧ True)))))))) (ls' := #[true, true, true, true, true, true, true, true, true, true, true, true, true, true, true, true, true, true, false, false, false]) (Ts' := [(3, .one (.e (.sl 1 0 x105.length))), (5, .one (.e (.sl 2 0 x174.length))), (6, I i175), (48, .one (.e (.sl 2 0 x174.length))), (65, AGG [cI ((x105.getD i175.toNat dver).node), cI ((x105.getD i175.toNat dver).value), cI (w64 (((x105.getD i175.toNat dver).tm) + 1))])]) (st' := ⟨[(3, .one (.e (.sl 1 0 x105.length))), (5, .one (.e (.sl 2 0 x174.length))), (6, I i175), (48, .one (.e (.sl 2 0 x174.length))), (65, AGG [cI ((x105.getD i175.toNat dver).node), cI ((x105.getD i175.toNat dver).value), cI (w64 (((x105.getD i175.toNat dver).tm) + 1))])], [.row .u8 x1 false, .row .ver x105 true, .row .ver x174 true]⟩) (n2 := 3) (by kernel_rfl) ⟨hg196, hg196, trivial, trivial, hg197, hg197, trivial, trivial, hg198, hg198, trivial, trivial, trivial, trivial, trivial⟩ rfl ?_
        refine WD_all [18] (n := 2) (by kernel_rfl) rfl ?_
        refine WM_op (φ := True) (v := .one (.e (.sl 3 0 ([(⟨(x105.getD i175.toNat dver).node, (x105.getD i175.toNat dver).value, (w64 (((x105.getD i175.toNat dver).tm) + 1))⟩ : Ver)].length)))) (H' := [.row .u8 x1 false, .row .ver x105 true, .row .ver x174 true, .row .ver [(⟨(x105.getD i175.toNat dver).node, (x105.getD i175.toNat dver).value, (w64 (((x105.getD i175.toNat dver).tm) + 1))⟩ : Ver)] true]) rfl rfl (by kernel_rfl) trivial rfl (And.intro rfl (And.intro rfl (trivial))) ?_
        refine WD_all [19] (n := 1) (by kernel_rfl) rfl ?_
        refine WM_op (φ := 0 = 0 ∧ x174.length = x174.length ∧ x174.length + (([(⟨(x105.getD i175.toNat dver).node, (x105.getD i175.toNat dver).value, (w64 (((x105.getD i175.toNat dver).tm) + 1))⟩ : Ver)].drop 0).take ([(⟨(x105.getD i175.toNat dver).node, (x105.getD i175.toNat dver).value, (w64 (((x105.getD i175.toNat dver).tm) + 1))⟩ : Ver)].length)).length ≤ 1099511627776) (v := .one (.e (.sl 4 0 ((x174 ++ (([(⟨(x105.getD i175.toNat dver).node, (x105.getD i175.toNat dver).value, (w64 (((x105.getD i175.toNat dver).tm) + 1))⟩ : Ver)].drop 0).take ([(⟨(x105.getD i175.toNat dver).node, (x105.getD i175.toNat dver).value, (w64 (((x105.getD i175.toNat dver).tm) + 1))⟩ : Ver)].length))).length)))) (H' := [.row .u8 x1 false, .row .ver x105 true, .dead, .row .ver [(⟨(x105.getD i175.toNat dver).node, (x105.getD i175.toNat dver).value, (w64 (((x105.getD i175.toNat dver).tm) + 1))⟩ : Ver)] true, .row .ver (x174 ++ (([(⟨(x105.getD i175.toNat dver).node, (x105.getD i175.toNat dver).value, (w64 (((x105.getD i175.toNat dver).tm) + 1))⟩ : Ver)].drop 0).take ([(⟨(x105.getD i175.toNat dver).node, (x105.getD i175.toNat dver).value, (w64 (((x105.getD i175.toNat dver).tm) + 1))⟩ : Ver)].length))) true]) rfl rfl (by kernel_rfl) hg199 rfl (And.intro rfl (And.intro rfl (trivial))) ?_
        refine WD_all [20] (n := 0) (by kernel_rfl) rfl ?_
        refine WM_op (φ := True) (v := .one (.e (.sl 4 0 ((x174 ++ (([(⟨(x105.getD i175.toNat dver).node, (x105.getD i175.toNat dver).value, (w64 (((x105.getD i175.toNat dver).tm) + 1))⟩ : Ver)].drop 0).take ([(⟨(x105.getD i175.toNat dver).node, (x105.getD i175.toNat dver).value, (w64 (((x105.getD i175.toNat dver).tm) + 1))⟩ : Ver)].length))).length)))) (H' := [.row .u8 x1 false, .row .ver x105 true, .dead, .row .ver [(⟨(x105.getD i175.toNat dver).node, (x105.getD i175.toNat dver).value, (w64 (((x105.getD i175.toNat dver).tm) + 1))⟩ : Ver)] true, .row .ver (x174 ++ (([(⟨(x105.getD i175.toNat dver).node, (x105.getD i175.toNat dver).value, (w64 (((x105.getD i175.toNat dver).tm) + 1))⟩ : Ver)].drop 0).take ([(⟨(x105.getD i175.toNat dver).node, (x105.getD i175.toNat dver).value, (w64 (((x105.getD i175.toNat dver).tm) + 1))⟩ : Ver)].length))) true]) rfl rfl (by kernel_rfl) trivial rfl (And.intro rfl (And.intro rfl (trivial))) ?_
        exact WD_done [0, 1, 4] [3, 5, 6] (st' := ⟨[(3, .one (.e (.sl 1 0 x105.length))), (5, .one (.e (.sl 2 0 ((x174 ++ (([(⟨(x105.getD i175.toNat dver).node, (x105.getD i175.toNat dver).value, (w64 (((x105.getD i175.toNat dver).tm) + 1))⟩ : Ver)].drop 0).take ([(⟨(x105.getD i175.toNat dver).node, (x105.getD i175.toNat dver).value, (w64 (((x105.getD i175.toNat dver).tm) + 1))⟩ : Ver)].length))).length)))), (6, I i175)], [.row .u8 x1 false, .row .ver x105 true, .row .ver (x174 ++ (([(⟨(x105.getD i175.toNat dver).node, (x105.getD i175.toNat dver).value, (w64 (((x105.getD i175.toNat dver).tm) + 1))⟩ : Ver)].drop 0).take ([(⟨(x105.getD i175.toNat dver).node, (x105.getD i175.toNat dver).value, (w64 (((x105.getD i175.toNat dver).tm) + 1))⟩ : Ver)].length))) true]⟩) (by kernel_rfl) (by kernel_rfl) (And.intro rfl rfl)
      · rintro _ _ ⟨rfl, rfl⟩
        refine blockS_n ?_
        refine thenS_n ?_
        refine W_region ?_
        refine WO_step 3 [0, 1, 2] [3, 5, 6] (True ∧ True) ⟨[(3, .one (.e (.sl 1 0 x105.length))), (5, .one (.e (.sl 2 0 ((x174 ++ (([(⟨(x105.getD i175.toNat dver).node, (x105.getD i175.toNat dver).value, (w64 (((x105.getD i175.toNat dver).tm) + 1))⟩ : Ver)].drop 0).take ([(⟨(x105.getD i175.toNat dver).node, (x105.getD i175.toNat dver).value, (w64 (((x105.getD i175.toNat dver).tm) + 1))⟩ : Ver)].length))).length)))), (6, I (w64 (i175 + 1)))], [.row .u8 x1 false, .row .ver x105 true, .row .ver (x174 ++ (([(⟨(x105.getD i175.toNat dver).node, (x105.getD i175.toNat dver).value, (w64 (((x105.getD i175.toNat dver).tm) + 1))⟩ : Ver)].drop 0).take ([(⟨(x105.getD i175.toNat dver).node, (x105.getD i175.toNat dver).value, (w64 (((x105.getD i175.toNat dver).tm) + 1))⟩ : Ver)].length))) true]⟩ (by kernel_rfl) ⟨trivial, trivial⟩ ?_
        refine WO_nil rfl ?_
        refine thenS_n ?_
        exact ih _ _ h
    · refine W_sub [0, 2] [5] (st' := ⟨[(5, .one (.e (.sl 1 0 x174.length)))], [.row .u8 x1 false, .row .ver x174 true]⟩) (by kernel_rfl) ?_
      refine W_exit ?_
      refine thenS_e ?_
      refine thenS_e ?_
      cases h
      exact And.intro rfl rfl

def laws_FnValidVersionsTime (n : Nat) (x1 : List Int) : Option (Bool) :=
 iteO (decide (1048576 < ((x1.length : Nat) : Int)))
 (some true)
 (bindO (spec_DrawValidVersions n x1) fun x105 =>
 bindO (impl_ValidVersions n x105) fun b107 =>
 bindO (spec_ValidVersions n x105) fun b109 =>
 bindO (iteO (!(b107 == b109))
 (some true)
 (iteO (!b107)
 (some true)
 (iteO (decide (((x105.length : Nat) : Int) = 0))
 (some true)
 (guardO (0 ≤ (w64 (((x105.length : Nat) : Int) - 1)) ∧ (w64 (((x105.length : Nat) : Int) - 1)) < ((x105.length : Nat) : Int)) <|
 some (decide (((x105.getD ((w64 (((x105.length : Nat) : Int) - 1)).toNat) dver).tm) = 100)))))) fun b115 =>
 iteO b115
 (bindO (spec_ValidVersions n x105) fun b125 =>
 some (b107 == b125))
 (bindO (laws_FnValidVersionsTime_L4 x105 x1 n ([] : List Ver) 0) fun x188 =>
 bindO (impl_ValidVersions n x188) fun b201 =>
 some b201))

theorem laws_FnValidVersionsTime_ok (n : Nat) (x1 : List Int) (b102 : Bool) (h : laws_FnValidVersionsTime n x1 = some b102) : FOk EE 5 [.one (.e (.sl 0 0 x1.length))] [.row .u8 x1 false] (B b102) [.row .u8 x1 false] := by
  unfold laws_FnValidVersionsTime at h
  refine FOk_of_W 70 1 Try.func5 rfl rfl (Nat.le_of_ble_eq_true rfl) rfl (fun w X θ => ?_)
  refine W_seq ?_
  refine W_region ?_
  refine WO_step 1 [0] [0] True ⟨[(0, .one (.e (.sl 0 0 x1.length)))], [.row .u8 x1 false]⟩ (by kernel_rfl) trivial ?_
  refine WO_nil rfl ?_
  refine thenS_n ?_
  refine W_seq ?_
  refine W_seq ?_
  refine W_region ?_
  refine WO_step 3 [0] [0, 9] (True ∧ (True ∧ True)) ⟨[(0, .one (.e (.sl 0 0 x1.length))), (9, B (decide (1048576 < ((x1.length : Nat) : Int))))], [.row .u8 x1 false]⟩ (by kernel_rfl) ⟨trivial, trivial, trivial⟩ ?_
  refine WO_nil rfl ?_
  refine thenS_n ?_
  refine iteO_e h (fun hb104 h => W_true rfl hb104 ?_) (fun hb104 h => W_false rfl hb104 ?_)
  · refine W_seq ?_
    refine W_region ?_
    refine WO_step 1 [0] [2] True ⟨[(2, B true)], [.row .u8 x1 false]⟩ (by kernel_rfl) trivial ?_
    refine WO_nil rfl ?_
    refine thenS_n ?_
    refine W_ret ?_
    refine thenS_r ?_
    cases h
    exact ⟨[0], True, by kernel_rfl, trivial⟩
  · refine W_sub [0] [0] (st' := ⟨[(0, .one (.e (.sl 0 0 x1.length)))], [.row .u8 x1 false]⟩) (by kernel_rfl) ?_
    refine W_skip ?_
    refine thenS_n ?_
    refine W_seq ?_
    refine W_region ?_
    refine WO_step 1 [0] [10] True ⟨[(10, .one (.e (.sl 0 0 x1.length)))], [.row .u8 x1 false]⟩ (by kernel_rfl) trivial ?_
    refine bindO_e h (fun x105 hc106 h => ?_)
    refine WO_call [.ro 0] Try.f22 rfl rfl rfl (by kernel_rfl) rfl rfl (by kernel_rfl) (spec_DrawValidVersions_ok n x1 x105 hc106) (And.intro (And.intro rfl rfl) (trivial)) rfl ?_
    refine WO_step 1 [0, 1] [3] True ⟨[(3, .one (.e (.sl 1 0 x105.length)))], [.row .u8 x1 false, .row .ver x105 true]⟩ (by kernel_rfl) trivial ?_
    refine WO_nil rfl ?_
    refine thenS_n ?_
    refine W_seq ?_
    refine W_region ?_
    refine WO_step 1 [0, 1] [3, 12] True ⟨[(3, .one (.e (.sl 1 0 x105.length))), (12, .one (.e (.sl 1 0 x105.length)))], [.row .u8 x1 false, .row .ver x105 true]⟩ (by kernel_rfl) trivial ?_
    refine bindO_e h (fun b107 hc108 h => ?_)
    refine WO_call [.ro 1] Try.f20 rfl rfl rfl (by kernel_rfl) rfl rfl (by kernel_rfl) (impl_ValidVersions_ok n x105 b107 hc108) (And.intro (And.intro rfl rfl) (trivial)) rfl ?_
    refine WO_step 1 [0, 1] [3, 4] True ⟨[(3, .one (.e (.sl 1 0 x105.length))), (4, B b107)], [.row .u8 x1 false, .row .ver x105 true]⟩ (by kernel_rfl) trivial ?_
    refine WO_nil rfl ?_
    refine thenS_n ?_
    refine W_seq ?_
    refine W_seq ?_
    refine W_region ?_
    refine WO_step 2 [0, 1] [3, 4, 14, 15] True ⟨[(3, .one (.e (.sl 1 0 x105.length))), (4, B b107), (14, B b107), (15, .one (.e (.sl 1 0 x105.length)))], [.row .u8 x1 false, .row .ver x105 true]⟩ (by kernel_rfl) trivial ?_
    refine bindO_e h (fun b109 hc110 h => ?_)
    refine WO_call [.ro 1] Try.f18 rfl rfl rfl (by kernel_rfl) rfl rfl (by kernel_rfl) (spec_ValidVersions_ok n x105 b109 hc110) (And.intro (And.intro rfl rfl) (trivial)) rfl ?_
    refine WO_step 2 [0, 1] [3, 4, 18] (True ∧ True) ⟨[(3, .one (.e (.sl 1 0 x105.length))), (4, B b107), (18, B (!(b107 == b109)))], [.row .u8 x1 false, .row .ver x105 true]⟩ (by kernel_rfl) ⟨trivial, trivial⟩ ?_
    refine bindO_e h (fun b115 hv116 h => ?_)
    refine WO_thru ⟨[(3, .one (.e (.sl 1 0 x105.length))), (4, B b107), (36, B b115)], [.row .u8 x1 false, .row .ver x105 true]⟩ ?_ ?_
    · refine iteO_e hv116 (fun hb117 hv116 => WO_known 18 true rfl hb117 ?_) (fun hb117 hv116 => WO_known 18 false rfl hb117 ?_)
      · refine WO_step 18 [0, 1] [3, 4, 36] True ⟨[(3, .one (.e (.sl 1 0 x105.length))), (4, B b107), (36, B true)], [.row .u8 x1 false, .row .ver x105 true]⟩ (by kernel_rfl) trivial ?_
        cases hv116
        exact WO_nil rfl ⟨rfl, rfl⟩
      · refine WO_step 4 [0, 1] [3, 4, 22] True ⟨[(3, .one (.e (.sl 1 0 x105.length))), (4, B b107), (22, B (!b107))], [.row .u8 x1 false, .row .ver x105 true]⟩ (by kernel_rfl) trivial ?_
        refine iteO_e hv116 (fun hb118 hv116 => WO_known 22 true rfl hb118 ?_) (fun hb118 hv116 => WO_known 22 false rfl hb118 ?_)
        · refine WO_step 14 [0, 1] [3, 4, 36] True ⟨[(3, .one (.e (.sl 1 0 x105.length))), (4, B b107), (36, B true)], [.row .u8 x1 false, .row .ver x105 true]⟩ (by kernel_rfl) trivial ?_
          cases hv116
          exact WO_nil rfl ⟨rfl, rfl⟩
        · refine WO_step 5 [0, 1] [3, 4, 27] (True ∧ (True ∧ True)) ⟨[(3, .one (.e (.sl 1 0 x105.length))), (4, B b107), (27, B (decide (((x105.length : Nat) : Int) = 0)))], [.row .u8 x1 false, .row .ver x105 true]⟩ (by kernel_rfl) ⟨trivial, trivial, trivial⟩ ?_
          refine iteO_e hv116 (fun hb119 hv116 => WO_known 27 true rfl hb119 ?_) (fun hb119 hv116 => WO_known 27 false rfl hb119 ?_)
          · refine WO_step 9 [0, 1] [3, 4, 36] True ⟨[(3, .one (.e (.sl 1 0 x105.length))), (4, B b107), (36, B true)], [.row .u8 x1 false, .row .ver x105 true]⟩ (by kernel_rfl) trivial ?_
            cases hv116
            exact WO_nil rfl ⟨rfl, rfl⟩
          · refine guardO_e hv116 (fun hg120 hv116 => ?_)
            refine WO_step 9 [0, 1] [3, 4, 36] (True ∧ (True ∧ ((0 ≤ (w64 (((x105.length : Nat) : Int) - 1)) ∧ (w64 (((x105.length : Nat) : Int) - 1)) < ((x105.length : Nat) : Int)) ∧ (True ∧ (True ∧ True))))) ⟨[(3, .one (.e (.sl 1 0 x105.length))), (4, B b107), (36, B (decide (((x105.getD ((w64 (((x105.length : Nat) : Int) - 1)).toNat) dver).tm) = 100)))], [.row .u8 x1 false, .row .ver x105 true]⟩ (by kernel_rfl) ⟨trivial, trivial, hg120, trivial, trivial, trivial⟩ ?_
            cases hv116
            exact WO_nil rfl ⟨rfl, rfl⟩
    · refine thenS_n ?_
      refine iteO_e h (fun hb124 h => W_true rfl hb124 ?_) (fun hb124 h => W_false rfl hb124 ?_)
      · refine W_seq ?_
        refine W_region ?_
        refine WO_step 2 [0, 1] [37, 38] True ⟨[(37, B b107), (38, .one (.e (.sl 1 0 x105.length)))], [.row .u8 x1 false, .row .ver x105 true]⟩ (by kernel_rfl) trivial ?_
        refine bindO_e h (fun b125 hc126 h => ?_)
        refine WO_call [.ro 1] Try.f18 rfl rfl rfl (by kernel_rfl) rfl rfl (by kernel_rfl) (spec_ValidVersions_ok n x105 b125 hc126) (And.intro (And.intro rfl rfl) (trivial)) rfl ?_
        refine WO_step 2 [0] [2] (True ∧ True) ⟨[(2, B (b107 == b125))], [.row .u8 x1 false]⟩ (by kernel_rfl) ⟨trivial, trivial⟩ ?_
        refine WO_nil rfl ?_
        refine thenS_n ?_
        refine W_ret ?_
        refine thenS_r ?_
        cases h
        exact ⟨[0], True, by kernel_rfl, trivial⟩
      · refine W_sub [0, 1] [3] (st' := ⟨[(3, .one (.e (.sl 1 0 x105.length)))], [.row .u8 x1 false, .row .ver x105 true]⟩) (by kernel_rfl) ?_
        refine W_skip ?_
        refine thenS_n ?_
        refine W_seq ?_
        refine W_region ?_
        refine WO_step 2 [0, 1, 2] [3, 5] True ⟨[(3, .one (.e (.sl 1 0 x105.length))), (5, .one (.e (.sl 2 0 (([] : List Ver).length))))], [.row .u8 x1 false, .row .ver x105 true, .row .ver ([] : List Ver) true]⟩ (by kernel_rfl) trivial ?_
        refine WO_nil rfl ?_
        refine thenS_n ?_
        refine W_seq ?_
        refine W_seq ?_
        refine W_region ?_
        refine WO_step 1 [0, 1, 2] [3, 5, 6] True ⟨[(3, .one (.e (.sl 1 0 x105.length))), (5, .one (.e (.sl 2 0 (([] : List Ver).length)))), (6, I 0)], [.row .u8 x1 false, .row .ver x105 true, .row .ver ([] : List Ver) true]⟩ (by kernel_rfl) trivial ?_
        refine WO_nil rfl ?_
        refine thenS_n ?_
        refine W_block ?_
        refine W_loop ?_
        refine bindO_e h (fun x188 hx188 h => ?_)
        refine WL_cut (laws_FnValidVersionsTime_L4_ok w X θ x105 x1 x188 n ([] : List Ver) 0 hx188) ?_
        rintro _ _ ⟨rfl, rfl⟩
        refine blockS_y ?_
        refine thenS_n ?_
        refine W_seq ?_
        refine W_region ?_
        refine WO_step 1 [0, 1] [68] True ⟨[(68, .one (.e (.sl 1 0 x188.length)))], [.row .u8 x1 false, .row .ver x188 true]⟩ (by kernel_rfl) trivial ?_
        refine bindO_e h (fun b201 hc202 h => ?_)
        refine WO_call [.ro 1] Try.f20 rfl rfl rfl (by kernel_rfl) rfl rfl (by kernel_rfl) (impl_ValidVersions_ok n x188 b201 hc202) (And.intro (And.intro rfl rfl) (trivial)) rfl ?_
        refine WO_step 1 [0] [2] True ⟨[(2, B b201)], [.row .u8 x1 false]⟩ (by kernel_rfl) trivial ?_
        refine WO_nil rfl ?_
        refine thenS_n ?_
        refine W_ret ?_
        cases h
        exact ⟨[0], True, by kernel_rfl, trivial⟩

/- spec.asOf -/
def spec_asOf_L4 (x1 : List Ver) (i2 : Int) (i3 : Int) : Nat → Int → Int → Option (Int)
| 0, _, _ => none
| n + 1, i266, i267 =>
 iteO (decide (i267 < ((x1.length : Nat) : Int)))
 (guardO (0 ≤ i267 ∧ i267 < ((x1.length : Nat) : Int)) <|
 bindO (iteO (decide (((x1.getD i267.toNat dver).node) = i2))
 (guardO (0 ≤ i267 ∧ i267 < ((x1.length : Nat) : Int)) <|
 some (decide (((x1.getD i267.toNat dver).tm) ≤ i3)))
 (some false)) fun b312 =>
 bindO (iteO b312
 (some i267)
 (some i266)) fun i317 =>
 spec_asOf_L4 x1 i2 i3 n i317 (w64 (i267 + 1)))
 (some i266)

theorem spec_asOf_L4_ok (w : World) (X : Nat → Prop) (θ : List Loc) (x1 : List Ver) (i2 : Int) (i3 : Int) (i294 : Int) : ∀ (n : Nat) (i266 : Int) (i267 : Int), spec_asOf_L4 x1 i2 i3 n i266 i267 = some i294 → WL EE ⟨w, X, θ, 33, 1⟩ (subC [1, 1, 0, 1, 4, 4] (bodyC Try.f41)) (fun (e : Exit) (s : St) => e = .exit 0 ∧ s = ⟨[(7, I i294)], [.row .ver x1 false]⟩) ⟨[(0, .one (.e (.sl 0 0 x1.length))), (1, I i2), (2, I i3), (7, I i266), (8, I i267)], [.row .ver x1 false]⟩ := by
  intro n
  induction n with
  | zero => intro _ _ h; exact none_e h
  | succ n ih =>
    intro i266 i267 h
    rw [spec_asOf_L4] at h
    refine WL_round ?_
    refine W_seq ?_
    refine W_seq ?_
    refine W_region ?_
    refine WO_step 4 [0] [0, 1, 2, 7, 8, 12] (True ∧ (True ∧ True)) ⟨[(0, .one (.e (.sl 0 0 x1.length))), (1, I i2), (2, I i3), (7, I i266), (8, I i267), (12, B (decide (i267 < ((x1.length : Nat) : Int))))], [.row .ver x1 false]⟩ (by kernel_rfl) ⟨trivial, trivial, trivial⟩ ?_
    refine WO_nil rfl ?_
    refine thenS_n ?_
    refine iteO_e h (fun hb297 h => W_true rfl hb297 ?_) (fun hb297 h => W_false rfl hb297 ?_)
    · refine W_sub [0] [0, 1, 2, 7, 8] (st' := ⟨[(0, .one (.e (.sl 0 0 x1.length))), (1, I i2), (2, I i3), (7, I i266), (8, I i267)], [.row .ver x1 false]⟩) (by kernel_rfl) ?_
      refine W_skip ?_
      refine thenS_n ?_
      refine W_seq ?_
      refine W_block ?_
      refine W_seq ?_
      refine W_region ?_
      refine guardO_e h (fun hg309 h => ?_)
      refine WO_step 8 [0] [0, 1, 2, 7, 8, 22] ((0 ≤ i267 ∧ i267 < ((x1.length : Nat) : Int)) ∧ (True ∧ (True ∧ True))) ⟨[(0, .one (.e (.sl 0 0 x1.length))), (1, I i2), (2, I i3), (7, I i266), (8, I i267), (22, B (decide (((x1.getD i267.toNat dver).node) = i2)))], [.row .ver x1 false]⟩ (by kernel_rfl) ⟨hg309, trivial, trivial, trivial⟩ ?_
      refine bindO_e h (fun b312 hv313 h => ?_)
      refine WO_thru ⟨[(0, .one (.e (.sl 0 0 x1.length))), (1, I i2), (2, I i3), (7, I i266), (8, I i267), (30, B b312)], [.row .ver x1 false]⟩ ?_ ?_
      · refine iteO_e hv313 (fun hb314 hv313 => WO_known 22 true rfl hb314 ?_) (fun hb314 hv313 => WO_known 22 false rfl hb314 ?_)
        · refine guardO_e hv313 (fun hg315 hv313 => ?_)
          refine WO_step 8 [0] [0, 1, 2, 7, 8, 30] ((0 ≤ i267 ∧ i267 < ((x1.length : Nat) : Int)) ∧ (True ∧ (True ∧ True))) ⟨[(0, .one (.e (.sl 0 0 x1.length))), (1, I i2), (2, I i3), (7, I i266), (8, I i267), (30, B (decide (((x1.getD i267.toNat dver).tm) ≤ i3)))], [.row .ver x1 false]⟩ (by kernel_rfl) ⟨hg315, trivial, trivial, trivial⟩ ?_
          cases hv313
          exact WO_nil rfl ⟨rfl, rfl⟩
        · refine WO_step 8 [0] [0, 1, 2, 7, 8, 30] True ⟨[(0, .one (.e (.sl 0 0 x1.length))), (1, I i2), (2, I i3), (7, I i266), (8, I i267), (30, B false)], [.row .ver x1 false]⟩ (by kernel_rfl) trivial ?_
          cases hv313
          exact WO_nil rfl ⟨rfl, rfl⟩
      · refine thenS_n ?_
        refine bindO_e h (fun i317 hi317 h => ?_)
        refine W_cut (Q' := fun (e : Exit) (s : St) => e = .normal ∧ s = ⟨[(0, .one (.e (.sl 0 0 x1.length))), (1, I i2), (2, I i3), (7, I i317), (8, I i267)], [.row .ver x1 false]⟩) ?_ ?_
        · refine iteO_e hi317 (fun hb319 hi317 => W_true rfl hb319 ?_) (fun hb319 hi317 => W_false rfl hb319 ?_)
          · refine W_region ?_
            refine WO_step 2 [0] [0, 1, 2, 7, 8] True ⟨[(0, .one (.e (.sl 0 0 x1.length))), (1, I i2), (2, I i3), (7, I i267), (8, I i267)], [.row .ver x1 false]⟩ (by kernel_rfl) trivial ?_
            refine WO_nil rfl ?_
            cases hi317
            exact And.intro rfl rfl
          · refine W_sub [0] [0, 1, 2, 7, 8] (st' := ⟨[(0, .one (.e (.sl 0 0 x1.length))), (1, I i2), (2, I i3), (7, I i266), (8, I i267)], [.row .ver x1 false]⟩) (by kernel_rfl) ?_
            refine W_skip ?_
            cases hi317
            exact And.intro rfl rfl
        · rintro _ _ ⟨rfl, rfl⟩
          refine blockS_n ?_
          refine thenS_n ?_
          refine W_region ?_
          refine WO_step 3 [0] [0, 1, 2, 7, 8] (True ∧ True) ⟨[(0, .one (.e (.sl 0 0 x1.length))), (1, I i2), (2, I i3), (7, I i317), (8, I (w64 (i267 + 1)))], [.row .ver x1 false]⟩ (by kernel_rfl) ⟨trivial, trivial⟩ ?_
          refine WO_nil rfl ?_
          refine thenS_n ?_
          exact ih _ _ h
    · refine W_sub [0] [7] (st' := ⟨[(7, I i266)], [.row .ver x1 false]⟩) (by kernel_rfl) ?_
      refine W_exit ?_
      refine thenS_e ?_
      refine thenS_e ?_
      cases h
      exact And.intro rfl rfl

def spec_asOf (n : Nat) (x1 : List Ver) (i2 : Int) (i3 : Int) : Option (Int) :=
 bindO (spec_asOf_L4 x1 i2 i3 n (-1) 0) fun i294 =>
 some i294

theorem spec_asOf_ok (n : Nat) (x1 : List Ver) (i2 : Int) (i3 : Int) (i162 : Int) (h : spec_asOf n x1 i2 i3 = some i162) : FOk EE 41 [.one (.e (.sl 0 0 x1.length)), I i2, I i3] [.row .ver x1 false] (I i162) [.row .ver x1 false] := by
  unfold spec_asOf at h
  refine FOk_of_W 33 1 Try.func41 rfl rfl (Nat.le_of_ble_eq_true rfl) rfl (fun w X θ => ?_)
  refine W_seq ?_
  refine W_region ?_
  refine WO_step 1 [0] [0, 1, 2] True ⟨[(0, .one (.e (.sl 0 0 x1.length))), (1, I i2), (2, I i3)], [.row .ver x1 false]⟩ (by kernel_rfl) trivial ?_
  refine WO_nil rfl ?_
  refine thenS_n ?_
  refine W_seq ?_
  refine W_region ?_
  refine WO_step 1 [0] [0, 1, 2, 7] True ⟨[(0, .one (.e (.sl 0 0 x1.length))), (1, I i2), (2, I i3), (7, I (-1))], [.row .ver x1 false]⟩ (by kernel_rfl) trivial ?_
  refine WO_nil rfl ?_
  refine thenS_n ?_
  refine W_seq ?_
  refine W_seq ?_
  refine W_region ?_
  refine WO_step 1 [0] [0, 1, 2, 7, 8] True ⟨[(0, .one (.e (.sl 0 0 x1.length))), (1, I i2), (2, I i3), (7, I (-1)), (8, I 0)], [.row .ver x1 false]⟩ (by kernel_rfl) trivial ?_
  refine WO_nil rfl ?_
  refine thenS_n ?_
  refine W_block ?_
  refine W_loop ?_
  refine bindO_e h (fun i294 hi294 h => ?_)
  refine WL_cut (spec_asOf_L4_ok w X θ x1 i2 i3 i294 n (-1) 0 hi294) ?_
  rintro _ _ ⟨rfl, rfl⟩
  refine blockS_y ?_
  refine thenS_n ?_
  refine W_seq ?_
  refine W_region ?_
  refine WO_step 2 [0] [6] True ⟨[(6, I i294)], [.row .ver x1 false]⟩ (by kernel_rfl) trivial ?_
  refine WO_nil rfl ?_
  refine thenS_n ?_
  refine W_ret ?_
  cases h
  exact ⟨[0], True, by kernel_rfl, trivial⟩

/- spec.ReadAsOf -/
def spec_ReadAsOf (n : Nat) (x1 : List Ver) (i2 : Int) (i3 : Int) : Option (Int × Bool) :=
 bindO (spec_validVersions n x1) fun b15 =>
 iteO (!b15)
 (some (0, false))
 (bindO (spec_asOf n x1 i2 i3) fun i19 =>
 iteO (decide (i19 < 0))
 (some (0, false))
 (guardO (0 ≤ i19 ∧ i19 < ((x1.length : Nat) : Int)) <|
 some ((x1.getD i19.toNat dver).value, true)))

theorem spec_ReadAsOf_ok (n : Nat) (x1 : List Ver) (i2 : Int) (i3 : Int) (i13 : Int) (b14 : Bool) (h : spec_ReadAsOf n x1 i2 i3 = some (i13, b14)) : FOk EE 23 [.one (.e (.sl 0 0 x1.length)), I i2, I i3] [.row .ver x1 false] (.tup [.e (cI i13), .e (cB b14)]) [.row .ver x1 false] := by
  unfold spec_ReadAsOf at h
  refine FOk_of_W 23 1 Try.func23 rfl rfl (Nat.le_of_ble_eq_true rfl) rfl (fun w X θ => ?_)
  refine W_seq ?_
  refine W_region ?_
  refine WO_step 2 [0] [0, 1, 2] True ⟨[(0, .one (.e (.sl 0 0 x1.length))), (1, I i2), (2, I i3)], [.row .ver x1 false]⟩ (by kernel_rfl) trivial ?_
  refine WO_nil rfl ?_
  refine thenS_n ?_
  refine W_seq ?_
  refine W_seq ?_
  refine W_region ?_
  refine WO_step 1 [0] [0, 1, 2, 9] True ⟨[(0, .one (.e (.sl 0 0 x1.length))), (1, I i2), (2, I i3), (9, .one (.e (.sl 0 0 x1.length)))], [.row .ver x1 false]⟩ (by kernel_rfl) trivial ?_
  refine bindO_e h (fun b15 hc16 h => ?_)
  refine WO_call [.ro 0] Try.f36 rfl rfl rfl (by kernel_rfl) rfl rfl (by kernel_rfl) (spec_validVersions_ok n x1 b15 hc16) (And.intro (And.intro rfl rfl) (trivial)) rfl ?_
  refine WO_step 1 [0] [0, 1, 2, 11] True ⟨[(0, .one (.e (.sl 0 0 x1.length))), (1, I i2), (2, I i3), (11, B (!b15))], [.row .ver x1 false]⟩ (by kernel_rfl) trivial ?_
  refine WO_nil rfl ?_
  refine thenS_n ?_
  refine iteO_e h (fun hb18 h => W_true rfl hb18 ?_) (fun hb18 h => W_false rfl hb18 ?_)
  · refine W_seq ?_
    refine W_region ?_
    refine WO_step 2 [0] [6, 7] True ⟨[(6, I 0), (7, B false)], [.row .ver x1 false]⟩ (by kernel_rfl) trivial ?_
    refine WO_nil rfl ?_
    refine thenS_n ?_
    refine W_ret ?_
    refine thenS_r ?_
    cases h
    exact ⟨[0], True, by kernel_rfl, trivial⟩
  · refine W_sub [0] [0, 1, 2] (st' := ⟨[(0, .one (.e (.sl 0 0 x1.length))), (1, I i2), (2, I i3)], [.row .ver x1 false]⟩) (by kernel_rfl) ?_
    refine W_skip ?_
    refine thenS_n ?_
    refine W_seq ?_
    refine W_region ?_
    refine WO_step 3 [0] [0, 12, 13, 14] True ⟨[(0, .one (.e (.sl 0 0 x1.length))), (12, .one (.e (.sl 0 0 x1.length))), (13, I i2), (14, I i3)], [.row .ver x1 false]⟩ (by kernel_rfl) trivial ?_
    refine bindO_e h (fun i19 hc20 h => ?_)
    refine WO_call [.ro 0] Try.f41 rfl rfl rfl (by kernel_rfl) rfl rfl (by kernel_rfl) (spec_asOf_ok n x1 i2 i3 i19 hc20) (And.intro (And.intro rfl rfl) (trivial)) rfl ?_
    refine WO_step 1 [0] [0, 8] True ⟨[(0, .one (.e (.sl 0 0 x1.length))), (8, I i19)], [.row .ver x1 false]⟩ (by kernel_rfl) trivial ?_
    refine WO_nil rfl ?_
    refine thenS_n ?_
    refine W_seq ?_
    refine W_seq ?_
    refine W_region ?_
    refine WO_step 2 [0] [0, 8, 17] (True ∧ True) ⟨[(0, .one (.e (.sl 0 0 x1.length))), (8, I i19), (17, B (decide (i19 < 0)))], [.row .ver x1 false]⟩ (by kernel_rfl) ⟨trivial, trivial⟩ ?_
    refine WO_nil rfl ?_
    refine thenS_n ?_
    refine iteO_e h (fun hb22 h => W_true rfl hb22 ?_) (fun hb22 h => W_false rfl hb22 ?_)
    · refine W_seq ?_
      refine W_region ?_
      refine WO_step 2 [0] [6, 7] True ⟨[(6, I 0), (7, B false)], [.row .ver x1 false]⟩ (by kernel_rfl) trivial ?_
      refine WO_nil rfl ?_
      refine thenS_n ?_
      refine W_ret ?_
      refine thenS_r ?_
      cases h
      exact ⟨[0], True, by kernel_rfl, trivial⟩
    · refine W_sub [0] [0, 8] (st' := ⟨[(0, .one (.e (.sl 0 0 x1.length))), (8, I i19)], [.row .ver x1 false]⟩) (by kernel_rfl) ?_
      refine W_skip ?_
      refine thenS_n ?_
      refine W_seq ?_
      refine W_region ?_
      refine guardO_e h (fun hg23 h => ?_)
      refine WO_step 7 [0] [6, 7] ((0 ≤ i19 ∧ i19 < ((x1.length : Nat) : Int)) ∧ (True ∧ True)) ⟨[(6, I ((x1.getD i19.toNat dver).value)), (7, B true)], [.row .ver x1 false]⟩ (by kernel_rfl) ⟨hg23, trivial, trivial⟩ ?_
      refine WO_nil rfl ?_
      refine thenS_n ?_
      refine W_ret ?_
      cases h
      exact ⟨[0], True, by kernel_rfl, trivial⟩

/- impl.ReadAsOf -/
def impl_ReadAsOf_L4 (x1 : List Ver) (i2 : Int) (i3 : Int) : Nat → Int → Option ((Int) ⊕ (Unit))
| 0, _ => none
| n + 1, i269 =>
 iteO (decide (0 ≤ i269))
 (guardO (0 ≤ i269 ∧ i269 < ((x1.length : Nat) : Int)) <|
 bindO (iteO (decide (((x1.getD i269.toNat dver).node) = i2))
 (guardO (0 ≤ i269 ∧ i269 < ((x1.length : Nat) : Int)) <|
 some (decide (((x1.getD i269.toNat dver).tm) ≤ i3)))
 (some false)) fun b313 =>
 iteO b313
 (guardO (0 ≤ i269 ∧ i269 < ((x1.length : Nat) : Int)) <|
 some (.inl ((x1.getD i269.toNat dver).value)))
 (impl_ReadAsOf_L4 x1 i2 i3 n (w64 (i269 - 1))))
 (some (.inr ()))

theorem impl_ReadAsOf_L4_ok (w : World) (X : Nat → Prop) (θ : List Loc) (x1 : List Ver) (i2 : Int) (i3 : Int) (v : (Int) ⊕ (Unit)) : ∀ (n : Nat) (i269 : Int), impl_ReadAsOf_L4 x1 i2 i3 n i269 = some v → WL EE ⟨w, X, θ, 40, 1⟩ (subC [1, 1, 0, 1, 4, 4] (bodyC Try.f24)) (fun (e : Exit) (s : St) => (match v with | (.inl i295) => e = .ret ∧ s = ⟨[(6, I i295), (7, B true)], [.row .ver x1 false]⟩ | (.inr _) => e = .exit 0 ∧ s = ⟨[], [.row .ver x1 false]⟩ : Prop)) ⟨[(0, .one (.e (.sl 0 0 x1.length))), (1, I i2), (2, I i3), (8, I i269)], [.row .ver x1 false]⟩ := by
  intro n
  induction n with
  | zero => intro _ h; exact none_e h
  | succ n ih =>
    intro i269 h
    rw [impl_ReadAsOf_L4] at h
    refine WL_round ?_
    refine W_seq ?_
    refine W_seq ?_
    refine W_region ?_
    refine WO_step 2 [0] [0, 1, 2, 8, 16] (True ∧ True) ⟨[(0, .one (.e (.sl 0 0 x1.length))), (1, I i2), (2, I i3), (8, I i269), (16, B (decide (0 ≤ i269)))], [.row .ver x1 false]⟩ (by kernel_rfl) ⟨trivial, trivial⟩ ?_
    refine WO_nil rfl ?_
    refine thenS_n ?_
    refine iteO_e h (fun hb298 h => W_true rfl hb298 ?_) (fun hb298 h => W_false rfl hb298 ?_)
    · refine W_sub [0] [0, 1, 2, 8] (st' := ⟨[(0, .one (.e (.sl 0 0 x1.length))), (1, I i2), (2, I i3), (8, I i269)], [.row .ver x1 false]⟩) (by kernel_rfl) ?_
      refine W_skip ?_
      refine thenS_n ?_
      refine W_seq ?_
      refine W_block ?_
      refine W_seq ?_
      refine W_region ?_
      refine guardO_e h (fun hg310 h => ?_)
      refine WO_step 8 [0] [0, 1, 2, 8, 26] ((0 ≤ i269 ∧ i269 < ((x1.length : Nat) : Int)) ∧ (True ∧ (True ∧ True))) ⟨[(0, .one (.e (.sl 0 0 x1.length))), (1, I i2), (2, I i3), (8, I i269), (26, B (decide (((x1.getD i269.toNat dver).node) = i2)))], [.row .ver x1 false]⟩ (by kernel_rfl) ⟨hg310, trivial, trivial, trivial⟩ ?_
      refine bindO_e h (fun b313 hv314 h => ?_)
      refine WO_thru ⟨[(0, .one (.e (.sl 0 0 x1.length))), (1, I i2), (2, I i3), (8, I i269), (34, B b313)], [.row .ver x1 false]⟩ ?_ ?_
      · refine iteO_e hv314 (fun hb315 hv314 => WO_known 26 true rfl hb315 ?_) (fun hb315 hv314 => WO_known 26 false rfl hb315 ?_)
        · refine guardO_e hv314 (fun hg316 hv314 => ?_)
          refine WO_step 8 [0] [0, 1, 2, 8, 34] ((0 ≤ i269 ∧ i269 < ((x1.length : Nat) : Int)) ∧ (True ∧ (True ∧ True))) ⟨[(0, .one (.e (.sl 0 0 x1.length))), (1, I i2), (2, I i3), (8, I i269), (34, B (decide (((x1.getD i269.toNat dver).tm) ≤ i3)))], [.row .ver x1 false]⟩ (by kernel_rfl) ⟨hg316, trivial, trivial, trivial⟩ ?_
          cases hv314
          exact WO_nil rfl ⟨rfl, rfl⟩
        · refine WO_step 8 [0] [0, 1, 2, 8, 34] True ⟨[(0, .one (.e (.sl 0 0 x1.length))), (1, I i2), (2, I i3), (8, I i269), (34, B false)], [.row .ver x1 false]⟩ (by kernel_rfl) trivial ?_
          cases hv314
          exact WO_nil rfl ⟨rfl, rfl⟩
      · refine thenS_n ?_
        refine iteO_e h (fun hb319 h => W_true rfl hb319 ?_) (fun hb319 h => W_false rfl hb319 ?_)
        · refine W_seq ?_
          refine W_region ?_
          refine guardO_e h (fun hg320 h => ?_)
          refine WO_step 7 [0] [6, 7] ((0 ≤ i269 ∧ i269 < ((x1.length : Nat) : Int)) ∧ (True ∧ True)) ⟨[(6, I ((x1.getD i269.toNat dver).value)), (7, B true)], [.row .ver x1 false]⟩ (by kernel_rfl) ⟨hg320, trivial, trivial⟩ ?_
          refine WO_nil rfl ?_
          refine thenS_n ?_
          refine W_ret ?_
          refine blockS_r ?_
          refine thenS_r ?_
          refine thenS_r ?_
          cases h
          exact And.intro rfl rfl
        · refine W_sub [0] [0, 1, 2, 8] (st' := ⟨[(0, .one (.e (.sl 0 0 x1.length))), (1, I i2), (2, I i3), (8, I i269)], [.row .ver x1 false]⟩) (by kernel_rfl) ?_
          refine W_skip ?_
          refine blockS_n ?_
          refine thenS_n ?_
          refine W_region ?_
          refine WO_step 3 [0] [0, 1, 2, 8] (True ∧ True) ⟨[(0, .one (.e (.sl 0 0 x1.length))), (1, I i2), (2, I i3), (8, I (w64 (i269 - 1)))], [.row .ver x1 false]⟩ (by kernel_rfl) ⟨trivial, trivial⟩ ?_
          refine WO_nil rfl ?_
          refine thenS_n ?_
          exact ih _ h
    · refine W_sub [0] [] (st' := ⟨[], [.row .ver x1 false]⟩) (by kernel_rfl) ?_
      refine W_exit ?_
      refine thenS_e ?_
      refine thenS_e ?_
      cases h
      exact And.intro rfl rfl

def impl_ReadAsOf (n : Nat) (x1 : List Ver) (i2 : Int) (i3 : Int) : Option (Int × Bool) :=
 bindO (impl_ValidVersions n x1) fun b164 =>
 iteO (!b164)
 (some (0, false))
 (bindO (impl_ReadAsOf_L4 x1 i2 i3 n (w64 (((x1.length : Nat) : Int) - 1))) fun v321 =>
 match v321 with
 | (.inl i295) => (some (i295, true))
 | (.inr _) => (some (0, false))
)

theorem impl_ReadAsOf_ok (n : Nat) (x1 : List Ver) (i2 : Int) (i3 : Int) (i162 : Int) (b163 : Bool) (h : impl_ReadAsOf n x1 i2 i3 = some (i162, b163)) : FOk EE 24 [.one (.e (.sl 0 0 x1.length)), I i2, I i3] [.row .ver x1 false] (.tup [.e (cI i162), .e (cB b163)]) [.row .ver x1 false] := by
  unfold impl_ReadAsOf at h
  refine FOk_of_W 40 1 Try.func24 rfl rfl (Nat.le_of_ble_eq_true rfl) rfl (fun w X θ => ?_)
  refine W_seq ?_
  refine W_region ?_
  refine WO_step 2 [0] [0, 1, 2] True ⟨[(0, .one (.e (.sl 0 0 x1.length))), (1, I i2), (2, I i3)], [.row .ver x1 false]⟩ (by kernel_rfl) trivial ?_
  refine WO_nil rfl ?_
  refine thenS_n ?_
  refine W_seq ?_
  refine W_seq ?_
  refine W_region ?_
  refine WO_step 1 [0] [0, 1, 2, 9] True ⟨[(0, .one (.e (.sl 0 0 x1.length))), (1, I i2), (2, I i3), (9, .one (.e (.sl 0 0 x1.length)))], [.row .ver x1 false]⟩ (by kernel_rfl) trivial ?_
  refine bindO_e h (fun b164 hc165 h => ?_)
  refine WO_call [.ro 0] Try.f20 rfl rfl rfl (by kernel_rfl) rfl rfl (by kernel_rfl) (impl_ValidVersions_ok n x1 b164 hc165) (And.intro (And.intro rfl rfl) (trivial)) rfl ?_
  refine WO_step 1 [0] [0, 1, 2, 11] True ⟨[(0, .one (.e (.sl 0 0 x1.length))), (1, I i2), (2, I i3), (11, B (!b164))], [.row .ver x1 false]⟩ (by kernel_rfl) trivial ?_
  refine WO_nil rfl ?_
  refine thenS_n ?_
  refine iteO_e h (fun hb167 h => W_true rfl hb167 ?_) (fun hb167 h => W_false rfl hb167 ?_)
  · refine W_seq ?_
    refine W_region ?_
    refine WO_step 2 [0] [6, 7] True ⟨[(6, I 0), (7, B false)], [.row .ver x1 false]⟩ (by kernel_rfl) trivial ?_
    refine WO_nil rfl ?_
    refine thenS_n ?_
    refine W_ret ?_
    refine thenS_r ?_
    cases h
    exact ⟨[0], True, by kernel_rfl, trivial⟩
  · refine W_sub [0] [0, 1, 2] (st' := ⟨[(0, .one (.e (.sl 0 0 x1.length))), (1, I i2), (2, I i3)], [.row .ver x1 false]⟩) (by kernel_rfl) ?_
    refine W_skip ?_
    refine thenS_n ?_
    refine W_seq ?_
    refine W_seq ?_
    refine W_region ?_
    refine WO_step 4 [0] [0, 1, 2, 8] (True ∧ (True ∧ True)) ⟨[(0, .one (.e (.sl 0 0 x1.length))), (1, I i2), (2, I i3), (8, I (w64 (((x1.length : Nat) : Int) - 1)))], [.row .ver x1 false]⟩ (by kernel_rfl) ⟨trivial, trivial, trivial⟩ ?_
    refine WO_nil rfl ?_
    refine thenS_n ?_
    refine W_block ?_
    refine W_loop ?_
    refine bindO_e h (fun v321 hv321 h => ?_)
    refine WL_cut (impl_ReadAsOf_L4_ok w X θ x1 i2 i3 v321 n (w64 (((x1.length : Nat) : Int) - 1)) hv321) ?_
    rcases v321 with i295 | _
    · rintro _ _ ⟨rfl, rfl⟩
      refine blockS_r ?_
      refine thenS_r ?_
      cases h
      exact ⟨[0], True, by kernel_rfl, trivial⟩
    · rintro _ _ ⟨rfl, rfl⟩
      refine blockS_y ?_
      refine thenS_n ?_
      refine W_seq ?_
      refine W_region ?_
      refine WO_step 2 [0] [6, 7] True ⟨[(6, I 0), (7, B false)], [.row .ver x1 false]⟩ (by kernel_rfl) trivial ?_
      refine WO_nil rfl ?_
      refine thenS_n ?_
      refine W_ret ?_
      cases h
      exact ⟨[0], True, by kernel_rfl, trivial⟩

/- laws.FnExactReadAsOf -/
def laws_FnExactReadAsOf (n : Nat) (x1 : List Ver) (i2 : Int) (i3 : Int) : Option (Bool) :=
 bindO (laws_szVersionS x1 1048576) fun i32 =>
 iteO (decide (i32 < 0))
 (some true)
 (bindO (laws_toVersionS n x1) fun x36 =>
 bindO (spec_ReadAsOf n x36 i2 i3) fun (i38, b39) =>
 bindO (laws_toVersionS n x1) fun x41 =>
 bindO (impl_ReadAsOf n x41 i2 i3) fun (i43, b44) =>
 iteO ((!decide (i43 = i38)) || (!(b44 == b39)))
 (some false)
 (bindO (laws_toVersionS n x1) fun x51 =>
 bindO (laws_eqVersionS n x41 x51) fun b53 =>
 iteO (!b53)
 (some false)
 (some true)))

theorem laws_FnExactReadAsOf_ok (n : Nat) (x1 : List Ver) (i2 : Int) (i3 : Int) (b31 : Bool) (h : laws_FnExactReadAsOf n x1 i2 i3 = some b31) : FOk EE 6 [.one (.e (.sl 0 0 x1.length)), I i2, I i3] [.row .ver x1 false] (B b31) [.row .ver x1 false] := by
  unfold laws_FnExactReadAsOf at h
  refine FOk_of_W 48 1 Try.func6 rfl rfl (Nat.le_of_ble_eq_true rfl) rfl (fun w X θ => ?_)
  refine W_seq ?_
  refine W_region ?_
  refine WO_step 1 [0] [0, 1, 2] True ⟨[(0, .one (.e (.sl 0 0 x1.length))), (1, I i2), (2, I i3)], [.row .ver x1 false]⟩ (by kernel_rfl) trivial ?_
  refine WO_nil rfl ?_
  refine thenS_n ?_
  refine W_seq ?_
  refine W_region ?_
  refine WO_step 1 [0] [0, 1, 2, 7] True ⟨[(0, .one (.e (.sl 0 0 x1.length))), (1, I i2), (2, I i3), (7, I 1048576)], [.row .ver x1 false]⟩ (by kernel_rfl) trivial ?_
  refine WO_nil rfl ?_
  refine thenS_n ?_
  refine W_seq ?_
  refine W_region ?_
  refine WO_step 2 [0] [0, 1, 2, 13, 14] True ⟨[(0, .one (.e (.sl 0 0 x1.length))), (1, I i2), (2, I i3), (13, .one (.e (.sl 0 0 x1.length))), (14, I 1048576)], [.row .ver x1 false]⟩ (by kernel_rfl) trivial ?_
  refine bindO_e h (fun i32 hc33 h => ?_)
  refine WO_call [.ro 0] Try.f17 rfl rfl rfl (by kernel_rfl) rfl rfl (by kernel_rfl) (laws_szVersionS_ok x1 1048576 i32 hc33) (And.intro (And.intro rfl rfl) (trivial)) rfl ?_
  refine WO_step 1 [0] [0, 1, 2, 7] True ⟨[(0, .one (.e (.sl 0 0 x1.length))), (1, I i2), (2, I i3), (7, I i32)], [.row .ver x1 false]⟩ (by kernel_rfl) trivial ?_
  refine WO_nil rfl ?_
  refine thenS_n ?_
  refine W_seq ?_
  refine W_seq ?_
  refine W_region ?_
  refine WO_step 2 [0] [0, 1, 2, 17] (True ∧ True) ⟨[(0, .one (.e (.sl 0 0 x1.length))), (1, I i2), (2, I i3), (17, B (decide (i32 < 0)))], [.row .ver x1 false]⟩ (by kernel_rfl) ⟨trivial, trivial⟩ ?_
  refine WO_nil rfl ?_
  refine thenS_n ?_
  refine iteO_e h (fun hb35 h => W_true rfl hb35 ?_) (fun hb35 h => W_false rfl hb35 ?_)
  · refine W_seq ?_
    refine W_region ?_
    refine WO_step 1 [0] [6] True ⟨[(6, B true)], [.row .ver x1 false]⟩ (by kernel_rfl) trivial ?_
    refine WO_nil rfl ?_
    refine thenS_n ?_
    refine W_ret ?_
    refine thenS_r ?_
    cases h
    exact ⟨[0], True, by kernel_rfl, trivial⟩
  · refine W_sub [0] [0, 1, 2] (st' := ⟨[(0, .one (.e (.sl 0 0 x1.length))), (1, I i2), (2, I i3)], [.row .ver x1 false]⟩) (by kernel_rfl) ?_
    refine W_skip ?_
    refine thenS_n ?_
    refine W_seq ?_
    refine W_region ?_
    refine WO_step 1 [0] [0, 1, 2, 19] True ⟨[(0, .one (.e (.sl 0 0 x1.length))), (1, I i2), (2, I i3), (19, .one (.e (.sl 0 0 x1.length)))], [.row .ver x1 false]⟩ (by kernel_rfl) trivial ?_
    refine bindO_e h (fun x36 hc37 h => ?_)
    refine WO_call [.ro 0] Try.f19 rfl rfl rfl (by kernel_rfl) rfl rfl (by kernel_rfl) (laws_toVersionS_ok n x1 x36 hc37) (And.intro (And.intro rfl rfl) (trivial)) rfl ?_
    refine WO_step 2 [0, 1] [0, 1, 2, 20, 21, 22] True ⟨[(0, .one (.e (.sl 0 0 x1.length))), (1, I i2), (2, I i3), (20, .one (.e (.sl 1 0 x36.length))), (21, I i2), (22, I i3)], [.row .ver x1 false, .row .ver x36 true]⟩ (by kernel_rfl) trivial ?_
    refine bindO_e h (fun v58 hc40 h => ?_)
    obtain ⟨i38, b39⟩ := v58
    refine WO_call [.ro 1] Try.f23 rfl rfl rfl (by kernel_rfl) rfl rfl (by kernel_rfl) (spec_ReadAsOf_ok n x36 i2 i3 i38 b39 hc40) (And.intro (And.intro rfl rfl) (trivial)) rfl ?_
    refine WO_step 5 [0] [0, 1, 2, 8, 9] True ⟨[(0, .one (.e (.sl 0 0 x1.length))), (1, I i2), (2, I i3), (8, I i38), (9, B b39)], [.row .ver x1 false]⟩ (by kernel_rfl) trivial ?_
    refine WO_nil rfl ?_
    refine thenS_n ?_
    refine W_seq ?_
    refine W_region ?_
    refine WO_step 1 [0] [0, 1, 2, 8, 9, 26] True ⟨[(0, .one (.e (.sl 0 0 x1.length))), (1, I i2), (2, I i3), (8, I i38), (9, B b39), (26, .one (.e (.sl 0 0 x1.length)))], [.row .ver x1 false]⟩ (by kernel_rfl) trivial ?_
    refine bindO_e h (fun x41 hc42 h => ?_)
    refine WO_call [.ro 0] Try.f19 rfl rfl rfl (by kernel_rfl) rfl rfl (by kernel_rfl) (laws_toVersionS_ok n x1 x41 hc42) (And.intro (And.intro rfl rfl) (trivial)) rfl ?_
    refine WO_step 1 [0, 1] [0, 1, 2, 8, 9, 10] True ⟨[(0, .one (.e (.sl 0 0 x1.length))), (1, I i2), (2, I i3), (8, I i38), (9, B b39), (10, .one (.e (.sl 1 0 x41.length)))], [.row .ver x1 false, .row .ver x41 true]⟩ (by kernel_rfl) trivial ?_
    refine WO_nil rfl ?_
    refine thenS_n ?_
    refine W_seq ?_
    refine W_region ?_
    refine WO_step 3 [0, 1] [0, 8, 9, 10, 29, 30, 31] True ⟨[(0, .one (.e (.sl 0 0 x1.length))), (8, I i38), (9, B b39), (10, .one (.e (.sl 1 0 x41.length))), (29, .one (.e (.sl 1 0 x41.length))), (30, I i2), (31, I i3)], [.row .ver x1 false, .row .ver x41 true]⟩ (by kernel_rfl) trivial ?_
    refine bindO_e h (fun v57 hc45 h => ?_)
    obtain ⟨i43, b44⟩ := v57
    refine WO_call [.ro 1] Try.f24 rfl rfl rfl (by kernel_rfl) rfl rfl (by kernel_rfl) (impl_ReadAsOf_ok n x41 i2 i3 i43 b44 hc45) (And.intro (And.intro rfl rfl) (trivial)) rfl ?_
    refine WO_step 5 [0, 1] [0, 8, 9, 10, 11, 12] True ⟨[(0, .one (.e (.sl 0 0 x1.length))), (8, I i38), (9, B b39), (10, .one (.e (.sl 1 0 x41.length))), (11, I i43), (12, B b44)], [.row .ver x1 false, .row .ver x41 true]⟩ (by kernel_rfl) trivial ?_
    refine WO_nil rfl ?_
    refine thenS_n ?_
    refine W_seq ?_
    refine W_seq ?_
    refine W_region ?_
    refine WO_step 4 [0, 1] [0, 9, 10, 12, 38] (True ∧ True) ⟨[(0, .one (.e (.sl 0 0 x1.length))), (9, B b39), (10, .one (.e (.sl 1 0 x41.length))), (12, B b44), (38, B (!decide (i43 = i38)))], [.row .ver x1 false, .row .ver x41 true]⟩ (by kernel_rfl) ⟨trivial, trivial⟩ ?_
    refine WO_thru ⟨[(0, .one (.e (.sl 0 0 x1.length))), (10, .one (.e (.sl 1 0 x41.length))), (42, B ((!decide (i43 = i38)) || (!(b44 == b39))))], [.row .ver x1 false, .row .ver x41 true]⟩ ?_ ?_
    · refine WO_if 38 rfl (fun hb48 => ?_) (fun hb48 => ?_)
      · refine WO_step 4 [0, 1] [0, 10, 42] True ⟨[(0, .one (.e (.sl 0 0 x1.length))), (10, .one (.e (.sl 1 0 x41.length))), (42, B true)], [.row .ver x1 false, .row .ver x41 true]⟩ (by kernel_rfl) trivial ?_
        exact WO_nil rfl ⟨rfl, by first | rfl | (rw [hb48]; first | done | rfl)⟩
      · refine WO_step 4 [0, 1] [0, 10, 42] (True ∧ True) ⟨[(0, .one (.e (.sl 0 0 x1.length))), (10, .one (.e (.sl 1 0 x41.length))), (42, B (!(b44 == b39)))], [.row .ver x1 false, .row .ver x41 true]⟩ (by kernel_rfl) ⟨trivial, trivial⟩ ?_
        exact WO_nil rfl ⟨rfl, by first | rfl | (rw [hb48]; first | done | rfl)⟩
    · refine thenS_n ?_
      refine iteO_e h (fun hb50 h => W_true rfl hb50 ?_) (fun hb50 h => W_false rfl hb50 ?_)
      · refine W_seq ?_
        refine W_region ?_
        refine WO_step 1 [0] [6] True ⟨[(6, B false)], [.row .ver x1 false]⟩ (by kernel_rfl) trivial ?_
        refine WO_nil rfl ?_
        refine thenS_n ?_
        refine W_ret ?_
        refine thenS_r ?_
        cases h
        exact ⟨[0], True, by kernel_rfl, trivial⟩
      · refine W_sub [0, 1] [0, 10] (st' := ⟨[(0, .one (.e (.sl 0 0 x1.length))), (10, .one (.e (.sl 1 0 x41.length)))], [.row .ver x1 false, .row .ver x41 true]⟩) (by kernel_rfl) ?_
        refine W_skip ?_
        refine thenS_n ?_
        refine W_seq ?_
        refine W_seq ?_
        refine W_region ?_
        refine WO_step 2 [0, 1] [43, 44] True ⟨[(43, .one (.e (.sl 1 0 x41.length))), (44, .one (.e (.sl 0 0 x1.length)))], [.row .ver x1 false, .row .ver x41 true]⟩ (by kernel_rfl) trivial ?_
        refine bindO_e h (fun x51 hc52 h => ?_)
        refine WO_call [.ro 0] Try.f19 rfl rfl rfl (by kernel_rfl) rfl rfl (by kernel_rfl) (laws_toVersionS_ok n x1 x51 hc52) (And.intro (And.intro rfl rfl) (trivial)) rfl ?_
        refine WO_sub [0, 1, 2] [43, 45] (st' := ⟨[(43, .one (.e (.sl 1 0 x41.length))), (45, .one (.e (.sl 2 0 x51.length)))], [.row .ver x1 false, .row .ver x41 true, .row .ver x51 true]⟩) (by kernel_rfl) ?_
        refine bindO_e h (fun b53 hc54 h => ?_)
        refine WO_call [.ro 1, .ro 2] Try.f21 rfl rfl rfl (by kernel_rfl) rfl rfl (by kernel_rfl) (laws_eqVersionS_ok n x41 x51 b53 hc54) (And.intro (And.intro rfl rfl) (And.intro (And.intro rfl rfl) (trivial))) rfl ?_
        refine WO_step 1 [0] [47] True ⟨[(47, B (!b53))], [.row .ver x1 false]⟩ (by kernel_rfl) trivial ?_
        refine WO_nil rfl ?_
        refine thenS_n ?_
        refine iteO_e h (fun hb56 h => W_true rfl hb56 ?_) (fun hb56 h => W_false rfl hb56 ?_)
        · refine W_seq ?_
          refine W_region ?_
          refine WO_step 1 [0] [6] True ⟨[(6, B false)], [.row .ver x1 false]⟩ (by kernel_rfl) trivial ?_
          refine WO_nil rfl ?_
          refine thenS_n ?_
          refine W_ret ?_
          refine thenS_r ?_
          cases h
          exact ⟨[0], True, by kernel_rfl, trivial⟩
        · refine W_sub [0] [] (st' := ⟨[], [.row .ver x1 false]⟩) (by kernel_rfl) ?_
          refine W_skip ?_
          refine thenS_n ?_
          refine W_seq ?_
          refine W_region ?_
          refine WO_step 1 [0] [6] True ⟨[(6, B true)], [.row .ver x1 false]⟩ (by kernel_rfl) trivial ?_
          refine WO_nil rfl ?_
          refine thenS_n ?_
          refine W_ret ?_
          cases h
          exact ⟨[0], True, by kernel_rfl, trivial⟩

/- spec.DrawReadAsOf -/
def spec_DrawReadAsOf (n : Nat) (x1 : List Int) : Option ((List Ver) × Int × Int) :=
 bindO (spec_newReader x1) fun k19 =>
 bindO (spec_someVersions n x1 k19 0) fun (i21, x22) =>
 bindO (spec_reader_pick x1 k19 i21 5) fun i24 =>
 bindO (spec_reader_pick x1 k19 (w64 (i21 + 1)) 40) fun i26 =>
 bindO (spec_reader_one x1 k19 (w64 ((w64 (i21 + 1)) + 1)) [0, 5, 10, 20, 100, 200, (-1), i26]) fun (i28, i29) =>
 some (x22, i24, i29)

theorem spec_DrawReadAsOf_ok (n : Nat) (x1 : List Int) (x16 : List Ver) (i17 : Int) (i18 : Int) (h : spec_DrawReadAsOf n x1 = some (x16, i17, i18)) : FOk EE 25 [.one (.e (.sl 0 0 x1.length))] [.row .u8 x1 false] (.tup [.e (.sl 1 0 x16.length), .e (cI i17), .e (cI i18)]) [.row .u8 x1 false, .row .ver x16 true] := by
  unfold spec_DrawReadAsOf at h
  refine FOk_of_W 21 1 Try.func25 rfl rfl (Nat.le_of_ble_eq_true rfl) rfl (fun w X θ => ?_)
  refine W_seq ?_
  refine W_region ?_
  refine WO_step 3 [0] [0] True ⟨[(0, .one (.e (.sl 0 0 x1.length)))], [.row .u8 x1 false]⟩ (by kernel_rfl) trivial ?_
  refine WO_nil rfl ?_
  refine thenS_n ?_
  refine W_seq ?_
  refine W_region ?_
  refine WO_step 1 [0] [8] True ⟨[(8, .one (.e (.sl 0 0 x1.length)))], [.row .u8 x1 false]⟩ (by kernel_rfl) trivial ?_
  refine bindO_e h (fun k19 hc20 h => ?_)
  refine WO_call [.ro 0] Try.f40 rfl rfl rfl (by kernel_rfl) rfl rfl (by kernel_rfl) (spec_newReader_ok x1 k19 hc20) (And.intro (And.intro rfl rfl) (trivial)) rfl ?_
  refine WO_step 1 [0, 1] [5] True ⟨[(5, .one (.e (.p 1 0)))], [.row .u8 x1 false, .cells [.sl 0 0 k19, cI 0]]⟩ (by kernel_rfl) trivial ?_
  refine WO_nil rfl ?_
  refine thenS_n ?_
  refine W_seq ?_
  refine W_region ?_
  refine WO_step 1 [0, 1] [5, 10] True ⟨[(5, .one (.e (.p 1 0))), (10, .one (.e (.p 1 0)))], [.row .u8 x1 false, .cells [.sl 0 0 k19, cI 0]]⟩ (by kernel_rfl) trivial ?_
  refine bindO_e h (fun v32 hc23 h => ?_)
  obtain ⟨i21, x22⟩ := v32
  refine WO_call [.own 1, .ro 0] Try.f39 rfl rfl rfl (by kernel_rfl) rfl rfl (by kernel_rfl) (spec_someVersions_ok n x1 k19 0 i21 x22 hc23) (And.intro (trivial) (And.intro (And.intro rfl rfl) (trivial))) rfl ?_
  refine WO_step 1 [0, 1, 2] [5, 6] True ⟨[(5, .one (.e (.p 1 0))), (6, .one (.e (.sl 2 0 x22.length)))], [.row .u8 x1 false, .cells [.sl 0 0 k19, cI i21], .row .ver x22 true]⟩ (by kernel_rfl) trivial ?_
  refine WO_nil rfl ?_
  refine thenS_n ?_
  refine W_seq ?_
  refine W_region ?_
  refine WO_step 1 [0, 1, 2] [5, 6, 12] True ⟨[(5, .one (.e (.p 1 0))), (6, .one (.e (.sl 2 0 x22.length))), (12, .one (.e (.p 1 0)))], [.row .u8 x1 false, .cells [.sl 0 0 k19, cI i21], .row .ver x22 true]⟩ (by kernel_rfl) trivial ?_
  refine bindO_e h (fun i24 hc25 h => ?_)
  refine WO_call [.own 1, .ro 0] Try.f42 rfl rfl rfl (by kernel_rfl) rfl rfl (by kernel_rfl) (spec_reader_pick_ok x1 k19 i21 5 i24 hc25) (And.intro (trivial) (And.intro (And.intro rfl rfl) (trivial))) rfl ?_
  refine WO_step 1 [0, 1, 2] [5, 6, 7] True ⟨[(5, .one (.e (.p 1 0))), (6, .one (.e (.sl 2 0 x22.length))), (7, I i24)], [.row .u8 x1 false, .cells [.sl 0 0 k19, cI (w64 (i21 + 1))], .row .ver x22 true]⟩ (by kernel_rfl) trivial ?_
  refine WO_nil rfl ?_
  refine thenS_n ?_
  refine W_seq ?_
  refine W_region ?_
  refine WO_step 4 [0, 2, 1] [14, 15, 16, 17] True ⟨[(14, .one (.e (.sl 1 0 x22.length))), (15, I i24), (16, .one (.e (.p 2 0))), (17, .one (.e (.p 2 0)))], [.row .u8 x1 false, .row .ver x22 true, .cells [.sl 0 0 k19, cI (w64 (i21 + 1))]]⟩ (by kernel_rfl) trivial ?_
  refine bindO_e h (fun i26 hc27 h => ?_)
  refine WO_call [.own 2, .ro 0] Try.f42 rfl rfl rfl (by kernel_rfl) rfl rfl (by kernel_rfl) (spec_reader_pick_ok x1 k19 (w64 (i21 + 1)) 40 i26 hc27) (And.intro (trivial) (And.intro (And.intro rfl rfl) (trivial))) rfl ?_
  refine WO_step 1 [0, 1, 2, 3] [14, 15, 16, 19] True ⟨[(14, .one (.e (.sl 1 0 x22.length))), (15, I i24), (16, .one (.e (.p 2 0))), (19, .one (.e (.sl 3 0 ([0, 5, 10, 20, 100, 200, (-1), i26].length))))], [.row .u8 x1 false, .row .ver x22 true, .cells [.sl 0 0 k19, cI (w64 ((w64 (i21 + 1)) + 1))], .row .int [0, 5, 10, 20, 100, 200, (-1), i26] true]⟩ (by kernel_rfl) trivial ?_
  refine bindO_e h (fun v31 hc30 h => ?_)
  obtain ⟨i28, i29⟩ := v31
  refine WO_call [.own 2, .ro 0, .ro 3] Try.f43 rfl rfl rfl (by kernel_rfl) rfl rfl (by kernel_rfl) (spec_reader_one_ok x1 k19 (w64 ((w64 (i21 + 1)) + 1)) [0, 5, 10, 20, 100, 200, (-1), i26] i28 i29 hc30) (And.intro (trivial) (And.intro (And.intro rfl rfl) (And.intro (And.intro rfl rfl) (trivial)))) rfl ?_
  refine WO_step 3 [0, 1] [2, 3, 4] True ⟨[(2, .one (.e (.sl 1 0 x22.length))), (3, I i24), (4, I i29)], [.row .u8 x1 false, .row .ver x22 true]⟩ (by kernel_rfl) trivial ?_
  refine WO_nil rfl ?_
  refine thenS_n ?_
  refine W_ret ?_
  cases h
  exact ⟨[0, 1], True, by kernel_rfl, trivial⟩

/- laws.FnReadAsOf -/
def laws_FnReadAsOf_L4 (x230 : List Ver) (i231 : Int) (x1 : List Int) : Nat → Int → Option ((Unit) ⊕ (Unit))
| 0, _ => none
| n + 1, i382 =>
 iteO (decide (i382 < ((x230.length : Nat) : Int)))
 (guardO (0 ≤ i382 ∧ i382 < ((x230.length : Nat) : Int)) <|
 guardO (0 ≤ i382 ∧ i382 < ((x230.length : Nat) : Int)) <|
 bindO (impl_ReadAsOf n x230 ((x230.getD i382.toNat dver).node) ((x230.getD i382.toNat dver).tm)) fun (i433, b434) =>
 bindO (iteO (!b434)
 (some true)
 (guardO (0 ≤ i382 ∧ i382 < ((x230.length : Nat) : Int)) <|
 some (!decide (i433 = ((x230.getD i382.toNat dver).value))))) fun b439 =>
 iteO b439
 (some (.inl ()))
 (laws_FnReadAsOf_L4 x230 i231 x1 n (w64 (i382 + 1))))
 (some (.inr ()))

theorem laws_FnReadAsOf_L4_ok (w : World) (X : Nat → Prop) (θ : List Loc) (x230 : List Ver) (i231 : Int) (x1 : List Int) (v : (Unit) ⊕ (Unit)) : ∀ (n : Nat) (i382 : Int), laws_FnReadAsOf_L4 x230 i231 x1 n i382 = some v → WL EE ⟨w, X, θ, 99, 1⟩ (subC [1, 1, 1, 1, 1, 1, 0, 1, 4, 4] (bodyC Try.f7)) (fun (e : Exit) (s : St) => (match v with | (.inl _) => e = .ret ∧ s = ⟨[(2, B false)], [.row .u8 x1 false]⟩ | (.inr _) => e = .exit 0 ∧ s = ⟨[(3, .one (.e (.sl 1 0 x230.length))), (4, I i231)], [.row .u8 x1 false, .row .ver x230 true]⟩ : Prop)) ⟨[(3, .one (.e (.sl 1 0 x230.length))), (4, I i231), (10, I i382)], [.row .u8 x1 false, .row .ver x230 true]⟩ := by
  intro n
  induction n with
  | zero => intro _ h; exact none_e h
  | succ n ih =>
    intro i382 h
    rw [laws_FnReadAsOf_L4] at h
    refine WL_round ?_
    refine W_seq ?_
    refine W_seq ?_
    refine W_region ?_
    refine WO_step 4 [0, 1] [3, 4, 10, 62] (True ∧ (True ∧ True)) ⟨[(3, .one (.e (.sl 1 0 x230.length))), (4, I i231), (10, I i382), (62, B (decide (i382 < ((x230.length : Nat) : Int))))], [.row .u8 x1 false, .row .ver x230 true]⟩ (by kernel_rfl) ⟨trivial, trivial, trivial⟩ ?_
    refine WO_nil rfl ?_
    refine thenS_n ?_
    refine iteO_e h (fun hb416 h => W_true rfl hb416 ?_) (fun hb416 h => W_false rfl hb416 ?_)
    · refine W_sub [0, 1] [3, 4, 10] (st' := ⟨[(3, .one (.e (.sl 1 0 x230.length))), (4, I i231), (10, I i382)], [.row .u8 x1 false, .row .ver x230 true]⟩) (by kernel_rfl) ?_
      refine W_skip ?_
      refine thenS_n ?_
      refine W_seq ?_
      refine W_block ?_
      refine W_seq ?_
      refine guardO_e h (fun hg431 h => ?_)
      refine guardO_e h (fun hg432 h => ?_)
      refine bindO_e h (fun v436 hc435 h => ?_)
      obtain ⟨i433, b434⟩ := v436
      refine W_cut (Q' := fun (e : Exit) (s : St) => e = .normal ∧ s = ⟨[(3, .one (.e (.sl 1 0 x230.length))), (4, I i231), (10, I i382), (11, I i433), (12, B b434)], [.row .u8 x1 false, .row .ver x230 true]⟩) ?_ ?_
      · refine W_draw [] false (by kernel_rfl) (by kernel_rfl) ?_
        refine WD_takeK [0, 1, 2, 3, 4, 5, 6, 7, 8, 9, 10] [3, 4, 10, 66, 71, 76] [3, 4, 10, 66, 71, 76] (φ := ((0 ≤ i382 ∧ i382 < ((x230.length : Nat) : Int)) ∧ (0 ≤ i382 ∧ i382 < ((x230.length : Nat) : Int)) ∧ (True ∧ True ∧ ((0 ≤ i382 ∧ i382 < ((x230.length : Nat) : Int)) ∧ (0 ≤ i382 ∧ i382 < ((x230.length : Nat) : Int)) ∧ (True ∧ True ∧ True))))) (ls' := #[true, true, true, true, true, true, true, true, true, true, true, false, false, false, false, false, false]) (Ts' := [(3, .one (.e (.sl 1 0 x230.length))), (4, I i231), (10, I i382), (66, .one (.e (.sl 1 0 x230.length))), (71, I ((x230.getD i382.toNat dver).node)), (76, I ((x230.getD i382.toNat dver).tm))]) (st' := ⟨[(3, .one (.e (.sl 1 0 x230.length))), (4, I i231), (10, I i382), (66, .one (.e (.sl 1 0 x230.length))), (71, I ((x230.getD i382.toNat dver).node)), (76, I ((x230.getD i382.toNat dver).tm))], [.row .u8 x1 false, .row .ver x230 true]⟩) (n2 := 6) (by kernel_rfl) ⟨hg431, hg431, trivial, trivial, hg432, hg432, trivial, trivial, trivial⟩ rfl ?_
        refine WD_all [11] (n := 5) (by kernel_rfl) rfl ?_
        refine WM_call [.ro 1] Try.f24 rfl rfl (by kernel_rfl) rfl rfl (by kernel_rfl) (impl_ReadAsOf_ok n x230 ((x230.getD i382.toNat dver).node) ((x230.getD i382.toNat dver).tm) i433 b434 hc435) (And.intro (And.intro rfl rfl) (trivial)) rfl (And.intro rfl (And.intro rfl (trivial))) ?_
        refine WD_takeK [12, 13, 14, 15, 16] [3, 4, 10, 11, 12] [3, 4, 10, 11, 12] (φ := True) (ls' := #[true, true, true, true, true, true, true, true, true, true, true, true, true, true, true, true, true]) (Ts' := [(3, .one (.e (.sl 1 0 x230.length))), (4, I i231), (10, I i382), (11, I i433), (12, B b434)]) (st' := ⟨[(3, .one (.e (.sl 1 0 x230.length))), (4, I i231), (10, I i382), (11, I i433), (12, B b434)], [.row .u8 x1 false, .row .ver x230 true]⟩) (n2 := 0) (by kernel_rfl) trivial rfl ?_
        exact WD_done [0, 1] [3, 4, 10, 11, 12] (st' := ⟨[(3, .one (.e (.sl 1 0 x230.length))), (4, I i231), (10, I i382), (11, I i433), (12, B b434)], [.row .u8 x1 false, .row .ver x230 true]⟩) (by kernel_rfl) (by kernel_rfl) (And.intro rfl rfl)
      · rintro _ _ ⟨rfl, rfl⟩
        refine thenS_n ?_
        refine W_seq ?_
        refine W_region ?_
        refine WO_step 3 [0, 1] [3, 4, 10, 11, 82] True ⟨[(3, .one (.e (.sl 1 0 x230.length))), (4, I i231), (10, I i382), (11, I i433), (82, B (!b434))], [.row .u8 x1 false, .row .ver x230 true]⟩ (by kernel_rfl) trivial ?_
        refine bindO_e h (fun b439 hv440 h => ?_)
        refine WO_thru ⟨[(3, .one (.e (.sl 1 0 x230.length))), (4, I i231), (10, I i382), (90, B b439)], [.row .u8 x1 false, .row .ver x230 true]⟩ ?_ ?_
        · refine iteO_e hv440 (fun hb441 hv440 => WO_known 82 true rfl hb441 ?_) (fun hb441 hv440 => WO_known 82 false rfl hb441 ?_)
          · refine WO_step 8 [0, 1] [3, 4, 10, 90] True ⟨[(3, .one (.e (.sl 1 0 x230.length))), (4, I i231), (10, I i382), (90, B true)], [.row .u8 x1 false, .row .ver x230 true]⟩ (by kernel_rfl) trivial ?_
            cases hv440
            exact WO_nil rfl ⟨rfl, rfl⟩
          · refine guardO_e hv440 (fun hg442 hv440 => ?_)
            refine WO_step 8 [0, 1] [3, 4, 10, 90] ((0 ≤ i382 ∧ i382 < ((x230.length : Nat) : Int)) ∧ (True ∧ (True ∧ True))) ⟨[(3, .one (.e (.sl 1 0 x230.length))), (4, I i231), (10, I i382), (90, B (!decide (i433 = ((x230.getD i382.toNat dver).value))))], [.row .u8 x1 false, .row .ver x230 true]⟩ (by kernel_rfl) ⟨hg442, trivial, trivial, trivial⟩ ?_
            cases hv440
            exact WO_nil rfl ⟨rfl, rfl⟩
        · refine thenS_n ?_
          refine iteO_e h (fun hb444 h => W_true rfl hb444 ?_) (fun hb444 h => W_false rfl hb444 ?_)
          · refine W_seq ?_
            refine W_region ?_
            refine WO_step 1 [0] [2] True ⟨[(2, B false)], [.row .u8 x1 false]⟩ (by kernel_rfl) trivial ?_
            refine WO_nil rfl ?_
            refine thenS_n ?_
            refine W_ret ?_
            refine blockS_r ?_
            refine thenS_r ?_
            refine thenS_r ?_
            cases h
            exact And.intro rfl rfl
          · refine W_sub [0, 1] [3, 4, 10] (st' := ⟨[(3, .one (.e (.sl 1 0 x230.length))), (4, I i231), (10, I i382)], [.row .u8 x1 false, .row .ver x230 true]⟩) (by kernel_rfl) ?_
            refine W_skip ?_
            refine blockS_n ?_
            refine thenS_n ?_
            refine W_region ?_
            refine WO_step 3 [0, 1] [3, 4, 10] (True ∧ True) ⟨[(3, .one (.e (.sl 1 0 x230.length))), (4, I i231), (10, I (w64 (i382 + 1)))], [.row .u8 x1 false, .row .ver x230 true]⟩ (by kernel_rfl) ⟨trivial, trivial⟩ ?_
            refine WO_nil rfl ?_
            refine thenS_n ?_
            exact ih _ h
    · refine W_sub [0, 1] [3, 4] (st' := ⟨[(3, .one (.e (.sl 1 0 x230.length))), (4, I i231)], [.row .u8 x1 false, .row .ver x230 true]⟩) (by kernel_rfl) ?_
      refine W_exit ?_
      refine thenS_e ?_
      refine thenS_e ?_
      cases h
      exact And.intro rfl rfl

def laws_FnReadAsOf (n : Nat) (x1 : List Int) : Option (Bool) :=
 iteO (decide (1048576 < ((x1.length : Nat) : Int)))
 (some true)
 (bindO (spec_DrawReadAsOf n x1) fun (x230, i231, i232) =>
 bindO (impl_ReadAsOf n x230 i231 i232) fun (i234, b235) =>
 bindO (spec_ReadAsOf n x230 i231 i232) fun (i237, b238) =>
 bindO (iteO (!decide (i234 = i237))
 (some true)
 (iteO (!(b235 == b238))
 (some true)
 (bindO (impl_ValidVersions n x230) fun b248 =>
 some (!b248)))) fun b244 =>
 iteO b244
 (some ((decide (i234 = i237)) && (b235 == b238)))
 (bindO (laws_FnReadAsOf_L4 x230 i231 x1 n 0) fun v445 =>
 match v445 with
 | (.inl _) => (some false)
 | (.inr _) => (bindO (impl_ReadAsOf n x230 i231 (-1)) fun (i446, b447) =>
 some (!b447))
))

theorem laws_FnReadAsOf_ok (n : Nat) (x1 : List Int) (b227 : Bool) (h : laws_FnReadAsOf n x1 = some b227) : FOk EE 7 [.one (.e (.sl 0 0 x1.length))] [.row .u8 x1 false] (B b227) [.row .u8 x1 false] := by
  unfold laws_FnReadAsOf at h
  refine FOk_of_W 99 1 Try.func7 rfl rfl (Nat.le_of_ble_eq_true rfl) rfl (fun w X θ => ?_)
  refine W_seq ?_
  refine W_region ?_
  refine WO_step 1 [0] [0] True ⟨[(0, .one (.e (.sl 0 0 x1.length)))], [.row .u8 x1 false]⟩ (by kernel_rfl) trivial ?_
  refine WO_nil rfl ?_
  refine thenS_n ?_
  refine W_seq ?_
  refine W_seq ?_
  refine W_region ?_
  refine WO_step 3 [0] [0, 17] (True ∧ (True ∧ True)) ⟨[(0, .one (.e (.sl 0 0 x1.length))), (17, B (decide (1048576 < ((x1.length : Nat) : Int))))], [.row .u8 x1 false]⟩ (by kernel_rfl) ⟨trivial, trivial, trivial⟩ ?_
  refine WO_nil rfl ?_
  refine thenS_n ?_
  refine iteO_e h (fun hb229 h => W_true rfl hb229 ?_) (fun hb229 h => W_false rfl hb229 ?_)
  · refine W_seq ?_
    refine W_region ?_
    refine WO_step 1 [0] [2] True ⟨[(2, B true)], [.row .u8 x1 false]⟩ (by kernel_rfl) trivial ?_
    refine WO_nil rfl ?_
    refine thenS_n ?_
    refine W_ret ?_
    refine thenS_r ?_
    cases h
    exact ⟨[0], True, by kernel_rfl, trivial⟩
  · refine W_sub [0] [0] (st' := ⟨[(0, .one (.e (.sl 0 0 x1.length)))], [.row .u8 x1 false]⟩) (by kernel_rfl) ?_
    refine W_skip ?_
    refine thenS_n ?_
    refine W_seq ?_
    refine W_region ?_
    refine WO_step 1 [0] [19] True ⟨[(19, .one (.e (.sl 0 0 x1.length)))], [.row .u8 x1 false]⟩ (by kernel_rfl) trivial ?_
    refine bindO_e h (fun v452 hc233 h => ?_)
    obtain ⟨x230, i231, i232⟩ := v452
    refine WO_call [.ro 0] Try.f25 rfl rfl rfl (by kernel_rfl) rfl rfl (by kernel_rfl) (spec_DrawReadAsOf_ok n x1 x230 i231 i232 hc233) (And.intro (And.intro rfl rfl) (trivial)) rfl ?_
    refine WO_step 7 [0, 1] [3, 4, 5] True ⟨[(3, .one (.e (.sl 1 0 x230.length))), (4, I i231), (5, I i232)], [.row .u8 x1 false, .row .ver x230 true]⟩ (by kernel_rfl) trivial ?_
    refine WO_nil rfl ?_
    refine thenS_n ?_
    refine W_seq ?_
    refine W_region ?_
    refine WO_step 3 [0, 1] [3, 4, 5, 25, 26, 27] True ⟨[(3, .one (.e (.sl 1 0 x230.length))), (4, I i231), (5, I i232), (25, .one (.e (.sl 1 0 x230.length))), (26, I i231), (27, I i232)], [.row .u8 x1 false, .row .ver x230 true]⟩ (by kernel_rfl) trivial ?_
    refine bindO_e h (fun v451 hc236 h => ?_)
    obtain ⟨i234, b235⟩ := v451
    refine WO_call [.ro 1] Try.f24 rfl rfl rfl (by kernel_rfl) rfl rfl (by kernel_rfl) (impl_ReadAsOf_ok n x230 i231 i232 i234 b235 hc236) (And.intro (And.intro rfl rfl) (trivial)) rfl ?_
    refine WO_step 5 [0, 1] [3, 4, 5, 6, 7] True ⟨[(3, .one (.e (.sl 1 0 x230.length))), (4, I i231), (5, I i232), (6, I i234), (7, B b235)], [.row .u8 x1 false, .row .ver x230 true]⟩ (by kernel_rfl) trivial ?_
    refine WO_nil rfl ?_
    refine thenS_n ?_
    refine W_seq ?_
    refine W_region ?_
    refine WO_step 3 [0, 1] [3, 4, 6, 7, 32, 33, 34] True ⟨[(3, .one (.e (.sl 1 0 x230.length))), (4, I i231), (6, I i234), (7, B b235), (32, .one (.e (.sl 1 0 x230.length))), (33, I i231), (34, I i232)], [.row .u8 x1 false, .row .ver x230 true]⟩ (by kernel_rfl) trivial ?_
    refine bindO_e h (fun v450 hc239 h => ?_)
    obtain ⟨i237, b238⟩ := v450
    refine WO_call [.ro 1] Try.f23 rfl rfl rfl (by kernel_rfl) rfl rfl (by kernel_rfl) (spec_ReadAsOf_ok n x230 i231 i232 i237 b238 hc239) (And.intro (And.intro rfl rfl) (trivial)) rfl ?_
    refine WO_step 5 [0, 1] [3, 4, 6, 7, 8, 9] True ⟨[(3, .one (.e (.sl 1 0 x230.length))), (4, I i231), (6, I i234), (7, B b235), (8, I i237), (9, B b238)], [.row .u8 x1 false, .row .ver x230 true]⟩ (by kernel_rfl) trivial ?_
    refine WO_nil rfl ?_
    refine thenS_n ?_
    refine W_seq ?_
    refine W_seq ?_
    refine W_region ?_
    refine WO_step 4 [0, 1] [3, 4, 6, 7, 8, 9, 41] (True ∧ True) ⟨[(3, .one (.e (.sl 1 0 x230.length))), (4, I i231), (6, I i234), (7, B b235), (8, I i237), (9, B b238), (41, B (!decide (i234 = i237)))], [.row .u8 x1 false, .row .ver x230 true]⟩ (by kernel_rfl) ⟨trivial, trivial⟩ ?_
    refine bindO_e h (fun b244 hv245 h => ?_)
    refine WO_thru ⟨[(3, .one (.e (.sl 1 0 x230.length))), (4, I i231), (6, I i234), (7, B b235), (8, I i237), (9, B b238), (50, B b244)], [.row .u8 x1 false, .row .ver x230 true]⟩ ?_ ?_
    · refine iteO_e hv245 (fun hb246 hv245 => WO_known 41 true rfl hb246 ?_) (fun hb246 hv245 => WO_known 41 false rfl hb246 ?_)
      · refine WO_step 9 [0, 1] [3, 4, 6, 7, 8, 9, 50] True ⟨[(3, .one (.e (.sl 1 0 x230.length))), (4, I i231), (6, I i234), (7, B b235), (8, I i237), (9, B b238), (50, B true)], [.row .u8 x1 false, .row .ver x230 true]⟩ (by kernel_rfl) trivial ?_
        cases hv245
        exact WO_nil rfl ⟨rfl, rfl⟩
      · refine WO_step 5 [0, 1] [3, 4, 6, 7, 8, 9, 46] (True ∧ True) ⟨[(3, .one (.e (.sl 1 0 x230.length))), (4, I i231), (6, I i234), (7, B b235), (8, I i237), (9, B b238), (46, B (!(b235 == b238)))], [.row .u8 x1 false, .row .ver x230 true]⟩ (by kernel_rfl) ⟨trivial, trivial⟩ ?_
        refine iteO_e hv245 (fun hb247 hv245 => WO_known 46 true rfl hb247 ?_) (fun hb247 hv245 => WO_known 46 false rfl hb247 ?_)
        · refine WO_step 4 [0, 1] [3, 4, 6, 7, 8, 9, 50] True ⟨[(3, .one (.e (.sl 1 0 x230.length))), (4, I i231), (6, I i234), (7, B b235), (8, I i237), (9, B b238), (50, B true)], [.row .u8 x1 false, .row .ver x230 true]⟩ (by kernel_rfl) trivial ?_
          cases hv245
          exact WO_nil rfl ⟨rfl, rfl⟩
        · refine WO_step 1 [0, 1] [3, 4, 6, 7, 8, 9, 46, 47] True ⟨[(3, .one (.e (.sl 1 0 x230.length))), (4, I i231), (6, I i234), (7, B b235), (8, I i237), (9, B b238), (46, B false), (47, .one (.e (.sl 1 0 x230.length)))], [.row .u8 x1 false, .row .ver x230 true]⟩ (by kernel_rfl) trivial ?_
          refine bindO_e hv245 (fun b248 hc249 hv245 => ?_)
          refine WO_call [.ro 1] Try.f20 rfl rfl rfl (by kernel_rfl) rfl rfl (by kernel_rfl) (impl_ValidVersions_ok n x230 b248 hc249) (And.intro (And.intro rfl rfl) (trivial)) rfl ?_
          refine WO_step 2 [0, 1] [3, 4, 6, 7, 8, 9, 50] True ⟨[(3, .one (.e (.sl 1 0 x230.length))), (4, I i231), (6, I i234), (7, B b235), (8, I i237), (9, B b238), (50, B (!b248))], [.row .u8 x1 false, .row .ver x230 true]⟩ (by kernel_rfl) trivial ?_
          cases hv245
          exact WO_nil rfl ⟨rfl, rfl⟩
    · refine thenS_n ?_
      refine iteO_e h (fun hb254 h => W_true rfl hb254 ?_) (fun hb254 h => W_false rfl hb254 ?_)
      · refine W_seq ?_
        refine W_region ?_
        refine WO_step 4 [0] [7, 9, 54] (True ∧ True) ⟨[(7, B b235), (9, B b238), (54, B (decide (i234 = i237)))], [.row .u8 x1 false]⟩ (by kernel_rfl) ⟨trivial, trivial⟩ ?_
        refine WO_thru ⟨[(2, B ((decide (i234 = i237)) && (b235 == b238)))], [.row .u8 x1 false]⟩ ?_ ?_
        · refine WO_if 54 rfl (fun hb257 => ?_) (fun hb257 => ?_)
          · refine WO_step 5 [0] [2] (True ∧ True) ⟨[(2, B (b235 == b238))], [.row .u8 x1 false]⟩ (by kernel_rfl) ⟨trivial, trivial⟩ ?_
            exact WO_nil rfl ⟨rfl, by first | rfl | (rw [hb257]; first | done | rfl)⟩
          · refine WO_step 5 [0] [2] True ⟨[(2, B false)], [.row .u8 x1 false]⟩ (by kernel_rfl) trivial ?_
            exact WO_nil rfl ⟨rfl, by first | rfl | (rw [hb257]; first | done | rfl)⟩
        · refine thenS_n ?_
          refine W_ret ?_
          refine thenS_r ?_
          cases h
          exact ⟨[0], True, by kernel_rfl, trivial⟩
      · refine W_sub [0, 1] [3, 4] (st' := ⟨[(3, .one (.e (.sl 1 0 x230.length))), (4, I i231)], [.row .u8 x1 false, .row .ver x230 true]⟩) (by kernel_rfl) ?_
        refine W_skip ?_
        refine thenS_n ?_
        refine W_seq ?_
        refine W_seq ?_
        refine W_region ?_
        refine WO_step 1 [0, 1] [3, 4, 10] True ⟨[(3, .one (.e (.sl 1 0 x230.length))), (4, I i231), (10, I 0)], [.row .u8 x1 false, .row .ver x230 true]⟩ (by kernel_rfl) trivial ?_
        refine WO_nil rfl ?_
        refine thenS_n ?_
        refine W_block ?_
        refine W_loop ?_
        refine bindO_e h (fun v445 hv445 h => ?_)
        refine WL_cut (laws_FnReadAsOf_L4_ok w X θ x230 i231 x1 v445 n 0 hv445) ?_
        rcases v445 with _ | _
        · rintro _ _ ⟨rfl, rfl⟩
          refine blockS_r ?_
          refine thenS_r ?_
          cases h
          exact ⟨[0], True, by kernel_rfl, trivial⟩
        · rintro _ _ ⟨rfl, rfl⟩
          refine blockS_y ?_
          refine thenS_n ?_
          refine W_seq ?_
          refine W_region ?_
          refine WO_step 2 [0, 1] [92, 93] True ⟨[(92, .one (.e (.sl 1 0 x230.length))), (93, I i231)], [.row .u8 x1 false, .row .ver x230 true]⟩ (by kernel_rfl) trivial ?_
          refine bindO_e h (fun v449 hc448 h => ?_)
          obtain ⟨i446, b447⟩ := v449
          refine WO_call [.ro 1] Try.f24 rfl rfl rfl (by kernel_rfl) rfl rfl (by kernel_rfl) (impl_ReadAsOf_ok n x230 i231 (-1) i446 b447 hc448) (And.intro (And.intro rfl rfl) (trivial)) rfl ?_
          refine WO_step 5 [0] [14] True ⟨[(14, B b447)], [.row .u8 x1 false]⟩ (by kernel_rfl) trivial ?_
          refine WO_nil rfl ?_
          refine thenS_n ?_
          refine W_seq ?_
          refine W_region ?_
          refine WO_step 3 [0] [2] True ⟨[(2, B (!b447))], [.row .u8 x1 false]⟩ (by kernel_rfl) trivial ?_
          refine WO_nil rfl ?_
          refine thenS_n ?_
          refine W_ret ?_
          cases h
          exact ⟨[0], True, by kernel_rfl, trivial⟩

/- laws.FnReadAsOfLast -/
def laws_FnReadAsOfLast_L4 (x173 : List Ver) (i174 : Int) (x1 : List Int) : Nat → Bool → Int → Int → Option ((Bool × Int))
| 0, _, _, _ => none
| n + 1, b283, i284, i285 =>
 iteO (decide (i285 < ((x173.length : Nat) : Int)))
 (guardO (0 ≤ i285 ∧ i285 < ((x173.length : Nat) : Int)) <|
 bindO (iteO (decide (((x173.getD i285.toNat dver).node) = i174))
 (guardO (0 ≤ i285 ∧ i285 < ((x173.length : Nat) : Int)) <|
 some (true, (x173.getD i285.toNat dver).value))
 (some (b283, i284))) fun v325 =>
 match v325 with
 | (b323, i324) => (laws_FnReadAsOfLast_L4 x173 i174 x1 n b323 i324 (w64 (i285 + 1)))
)
 (some (b283, i284))

theorem laws_FnReadAsOfLast_L4_ok (w : World) (X : Nat → Prop) (θ : List Loc) (x173 : List Ver) (i174 : Int) (x1 : List Int) (v : (Bool × Int)) : ∀ (n : Nat) (b283 : Bool) (i284 : Int) (i285 : Int), laws_FnReadAsOfLast_L4 x173 i174 x1 n b283 i284 i285 = some v → WL EE ⟨w, X, θ, 91, 1⟩ (subC [1, 1, 1, 1, 1, 1, 1, 1, 0, 1, 4, 4] (bodyC Try.f8)) (fun (e : Exit) (s : St) => (match v with | (b307, i308) => e = .exit 0 ∧ s = ⟨[(3, .one (.e (.sl 1 0 x173.length))), (4, I i174), (10, B b307), (11, I i308)], [.row .u8 x1 false, .row .ver x173 true]⟩ : Prop)) ⟨[(3, .one (.e (.sl 1 0 x173.length))), (4, I i174), (10, B b283), (11, I i284), (12, I i285)], [.row .u8 x1 false, .row .ver x173 true]⟩ := by
  intro n
  induction n with
  | zero => intro _ _ _ h; exact none_e h
  | succ n ih =>
    intro b283 i284 i285 h
    rw [laws_FnReadAsOfLast_L4] at h
    refine WL_round ?_
    refine W_seq ?_
    refine W_seq ?_
    refine W_region ?_
    refine WO_step 4 [0, 1] [3, 4, 10, 11, 12, 62] (True ∧ (True ∧ True)) ⟨[(3, .one (.e (.sl 1 0 x173.length))), (4, I i174), (10, B b283), (11, I i284), (12, I i285), (62, B (decide (i285 < ((x173.length : Nat) : Int))))], [.row .u8 x1 false, .row .ver x173 true]⟩ (by kernel_rfl) ⟨trivial, trivial, trivial⟩ ?_
    refine WO_nil rfl ?_
    refine thenS_n ?_
    refine iteO_e h (fun hb311 h => W_true rfl hb311 ?_) (fun hb311 h => W_false rfl hb311 ?_)
    · refine W_sub [0, 1] [3, 4, 10, 11, 12] (st' := ⟨[(3, .one (.e (.sl 1 0 x173.length))), (4, I i174), (10, B b283), (11, I i284), (12, I i285)], [.row .u8 x1 false, .row .ver x173 true]⟩) (by kernel_rfl) ?_
      refine W_skip ?_
      refine thenS_n ?_
      refine W_seq ?_
      refine W_block ?_
      refine W_seq ?_
      refine W_region ?_
      refine guardO_e h (fun hg320 h => ?_)
      refine WO_step 7 [0, 1] [3, 4, 10, 11, 12, 71] ((0 ≤ i285 ∧ i285 < ((x173.length : Nat) : Int)) ∧ (True ∧ (True ∧ True))) ⟨[(3, .one (.e (.sl 1 0 x173.length))), (4, I i174), (10, B b283), (11, I i284), (12, I i285), (71, B (decide (((x173.getD i285.toNat dver).node) = i174)))], [.row .u8 x1 false, .row .ver x173 true]⟩ (by kernel_rfl) ⟨hg320, trivial, trivial, trivial⟩ ?_
      refine WO_nil rfl ?_
      refine thenS_n ?_
      refine bindO_e h (fun v325 hv325 h => ?_)
      refine W_cut (Q' := fun (e : Exit) (s : St) => (match v325 with | (b323, i324) => e = .normal ∧ s = ⟨[(3, .one (.e (.sl 1 0 x173.length))), (4, I i174), (10, B b323), (11, I i324), (12, I i285)], [.row .u8 x1 false, .row .ver x173 true]⟩ : Prop)) ?_ ?_
      · refine iteO_e hv325 (fun hb326 hv325 => W_true rfl hb326 ?_) (fun hb326 hv325 => W_false rfl hb326 ?_)
        · refine W_seq ?_
          refine W_region ?_
          refine WO_step 1 [0, 1] [3, 4, 10, 12] True ⟨[(3, .one (.e (.sl 1 0 x173.length))), (4, I i174), (10, B true), (12, I i285)], [.row .u8 x1 false, .row .ver x173 true]⟩ (by kernel_rfl) trivial ?_
          refine WO_nil rfl ?_
          refine thenS_n ?_
          refine W_region ?_
          refine guardO_e hv325 (fun hg327 hv325 => ?_)
          refine WO_step 6 [0, 1] [3, 4, 10, 11, 12] ((0 ≤ i285 ∧ i285 < ((x173.length : Nat) : Int)) ∧ (True ∧ True)) ⟨[(3, .one (.e (.sl 1 0 x173.length))), (4, I i174), (10, B true), (11, I ((x173.getD i285.toNat dver).value)), (12, I i285)], [.row .u8 x1 false, .row .ver x173 true]⟩ (by kernel_rfl) ⟨hg327, trivial, trivial⟩ ?_
          refine WO_nil rfl ?_
          cases hv325
          exact And.intro rfl rfl
        · refine W_sub [0, 1] [3, 4, 10, 11, 12] (st' := ⟨[(3, .one (.e (.sl 1 0 x173.length))), (4, I i174), (10, B b283), (11, I i284), (12, I i285)], [.row .u8 x1 false, .row .ver x173 true]⟩) (by kernel_rfl) ?_
          refine W_skip ?_
          cases hv325
          exact And.intro rfl rfl
      · obtain ⟨b323, i324⟩ := v325
        rintro _ _ ⟨rfl, rfl⟩
        refine blockS_n ?_
        refine thenS_n ?_
        refine W_region ?_
        refine WO_step 3 [0, 1] [3, 4, 10, 11, 12] (True ∧ True) ⟨[(3, .one (.e (.sl 1 0 x173.length))), (4, I i174), (10, B b323), (11, I i324), (12, I (w64 (i285 + 1)))], [.row .u8 x1 false, .row .ver x173 true]⟩ (by kernel_rfl) ⟨trivial, trivial⟩ ?_
        refine WO_nil rfl ?_
        refine thenS_n ?_
        exact ih _ _ _ h
    · refine W_sub [0, 1] [3, 4, 10, 11] (st' := ⟨[(3, .one (.e (.sl 1 0 x173.length))), (4, I i174), (10, B b283), (11, I i284)], [.row .u8 x1 false, .row .ver x173 true]⟩) (by kernel_rfl) ?_
      refine W_exit ?_
      refine thenS_e ?_
      refine thenS_e ?_
      cases h
      exact And.intro rfl rfl

def laws_FnReadAsOfLast (n : Nat) (x1 : List Int) : Option (Bool) :=
 iteO (decide (1048576 < ((x1.length : Nat) : Int)))
 (some true)
 (bindO (spec_DrawReadAsOf n x1) fun (x173, i174, i175) =>
 bindO (impl_ReadAsOf n x173 i174 i175) fun (i177, b178) =>
 bindO (spec_ReadAsOf n x173 i174 i175) fun (i180, b181) =>
 bindO (iteO (!decide (i177 = i180))
 (some true)
 (iteO (!(b178 == b181))
 (some true)
 (bindO (impl_ValidVersions n x173) fun b191 =>
 some (!b191)))) fun b187 =>
 iteO b187
 (some ((decide (i177 = i180)) && (b178 == b181)))
 (bindO (laws_FnReadAsOfLast_L4 x173 i174 x1 n false 0 0) fun v328 =>
 match v328 with
 | (b307, i308) => (bindO (impl_ReadAsOf n x173 i174 100) fun (i329, b330) =>
 some ((b330 == b307) && (decide (i329 = i308))))
))

theorem laws_FnReadAsOfLast_ok (n : Nat) (x1 : List Int) (b170 : Bool) (h : laws_FnReadAsOfLast n x1 = some b170) : FOk EE 8 [.one (.e (.sl 0 0 x1.length))] [.row .u8 x1 false] (B b170) [.row .u8 x1 false] := by
  unfold laws_FnReadAsOfLast at h
  refine FOk_of_W 91 1 Try.func8 rfl rfl (Nat.le_of_ble_eq_true rfl) rfl (fun w X θ => ?_)
  refine W_seq ?_
  refine W_region ?_
  refine WO_step 1 [0] [0] True ⟨[(0, .one (.e (.sl 0 0 x1.length)))], [.row .u8 x1 false]⟩ (by kernel_rfl) trivial ?_
  refine WO_nil rfl ?_
  refine thenS_n ?_
  refine W_seq ?_
  refine W_seq ?_
  refine W_region ?_
  refine WO_step 3 [0] [0, 17] (True ∧ (True ∧ True)) ⟨[(0, .one (.e (.sl 0 0 x1.length))), (17, B (decide (1048576 < ((x1.length : Nat) : Int))))], [.row .u8 x1 false]⟩ (by kernel_rfl) ⟨trivial, trivial, trivial⟩ ?_
  refine WO_nil rfl ?_
  refine thenS_n ?_
  refine iteO_e h (fun hb172 h => W_true rfl hb172 ?_) (fun hb172 h => W_false rfl hb172 ?_)
  · refine W_seq ?_
    refine W_region ?_
    refine WO_step 1 [0] [2] True ⟨[(2, B true)], [.row .u8 x1 false]⟩ (by kernel_rfl) trivial ?_
    refine WO_nil rfl ?_
    refine thenS_n ?_
    refine W_ret ?_
    refine thenS_r ?_
    cases h
    exact ⟨[0], True, by kernel_rfl, trivial⟩
  · refine W_sub [0] [0] (st' := ⟨[(0, .one (.e (.sl 0 0 x1.length)))], [.row .u8 x1 false]⟩) (by kernel_rfl) ?_
    refine W_skip ?_
    refine thenS_n ?_
    refine W_seq ?_
    refine W_region ?_
    refine WO_step 1 [0] [19] True ⟨[(19, .one (.e (.sl 0 0 x1.length)))], [.row .u8 x1 false]⟩ (by kernel_rfl) trivial ?_
    refine bindO_e h (fun v338 hc176 h => ?_)
    obtain ⟨x173, i174, i175⟩ := v338
    refine WO_call [.ro 0] Try.f25 rfl rfl rfl (by kernel_rfl) rfl rfl (by kernel_rfl) (spec_DrawReadAsOf_ok n x1 x173 i174 i175 hc176) (And.intro (And.intro rfl rfl) (trivial)) rfl ?_
    refine WO_step 7 [0, 1] [3, 4, 5] True ⟨[(3, .one (.e (.sl 1 0 x173.length))), (4, I i174), (5, I i175)], [.row .u8 x1 false, .row .ver x173 true]⟩ (by kernel_rfl) trivial ?_
    refine WO_nil rfl ?_
    refine thenS_n ?_
    refine W_seq ?_
    refine W_region ?_
    refine WO_step 3 [0, 1] [3, 4, 5, 25, 26, 27] True ⟨[(3, .one (.e (.sl 1 0 x173.length))), (4, I i174), (5, I i175), (25, .one (.e (.sl 1 0 x173.length))), (26, I i174), (27, I i175)], [.row .u8 x1 false, .row .ver x173 true]⟩ (by kernel_rfl) trivial ?_
    refine bindO_e h (fun v337 hc179 h => ?_)
    obtain ⟨i177, b178⟩ := v337
    refine WO_call [.ro 1] Try.f24 rfl rfl rfl (by kernel_rfl) rfl rfl (by kernel_rfl) (impl_ReadAsOf_ok n x173 i174 i175 i177 b178 hc179) (And.intro (And.intro rfl rfl) (trivial)) rfl ?_
    refine WO_step 5 [0, 1] [3, 4, 5, 6, 7] True ⟨[(3, .one (.e (.sl 1 0 x173.length))), (4, I i174), (5, I i175), (6, I i177), (7, B b178)], [.row .u8 x1 false, .row .ver x173 true]⟩ (by kernel_rfl) trivial ?_
    refine WO_nil rfl ?_
    refine thenS_n ?_
    refine W_seq ?_
    refine W_region ?_
    refine WO_step 3 [0, 1] [3, 4, 6, 7, 32, 33, 34] True ⟨[(3, .one (.e (.sl 1 0 x173.length))), (4, I i174), (6, I i177), (7, B b178), (32, .one (.e (.sl 1 0 x173.length))), (33, I i174), (34, I i175)], [.row .u8 x1 false, .row .ver x173 true]⟩ (by kernel_rfl) trivial ?_
    refine bindO_e h (fun v336 hc182 h => ?_)
    obtain ⟨i180, b181⟩ := v336
    refine WO_call [.ro 1] Try.f23 rfl rfl rfl (by kernel_rfl) rfl rfl (by kernel_rfl) (spec_ReadAsOf_ok n x173 i174 i175 i180 b181 hc182) (And.intro (And.intro rfl rfl) (trivial)) rfl ?_
    refine WO_step 5 [0, 1] [3, 4, 6, 7, 8, 9] True ⟨[(3, .one (.e (.sl 1 0 x173.length))), (4, I i174), (6, I i177), (7, B b178), (8, I i180), (9, B b181)], [.row .u8 x1 false, .row .ver x173 true]⟩ (by kernel_rfl) trivial ?_
    refine WO_nil rfl ?_
    refine thenS_n ?_
    refine W_seq ?_
    refine W_seq ?_
    refine W_region ?_
    refine WO_step 4 [0, 1] [3, 4, 6, 7, 8, 9, 41] (True ∧ True) ⟨[(3, .one (.e (.sl 1 0 x173.length))), (4, I i174), (6, I i177), (7, B b178), (8, I i180), (9, B b181), (41, B (!decide (i177 = i180)))], [.row .u8 x1 false, .row .ver x173 true]⟩ (by kernel_rfl) ⟨trivial, trivial⟩ ?_
    refine bindO_e h (fun b187 hv188 h => ?_)
    refine WO_thru ⟨[(3, .one (.e (.sl 1 0 x173.length))), (4, I i174), (6, I i177), (7, B b178), (8, I i180), (9, B b181), (50, B b187)], [.row .u8 x1 false, .row .ver x173 true]⟩ ?_ ?_
    · refine iteO_e hv188 (fun hb189 hv188 => WO_known 41 true rfl hb189 ?_) (fun hb189 hv188 => WO_known 41 false rfl hb189 ?_)
      · refine WO_step 9 [0, 1] [3, 4, 6, 7, 8, 9, 50] True ⟨[(3, .one (.e (.sl 1 0 x173.length))), (4, I i174), (6, I i177), (7, B b178), (8, I i180), (9, B b181), (50, B true)], [.row .u8 x1 false, .row .ver x173 true]⟩ (by kernel_rfl) trivial ?_
        cases hv188
        exact WO_nil rfl ⟨rfl, rfl⟩
      · refine WO_step 5 [0, 1] [3, 4, 6, 7, 8, 9, 46] (True ∧ True) ⟨[(3, .one (.e (.sl 1 0 x173.length))), (4, I i174), (6, I i177), (7, B b178), (8, I i180), (9, B b181), (46, B (!(b178 == b181)))], [.row .u8 x1 false, .row .ver x173 true]⟩ (by kernel_rfl) ⟨trivial, trivial⟩ ?_
        refine iteO_e hv188 (fun hb190 hv188 => WO_known 46 true rfl hb190 ?_) (fun hb190 hv188 => WO_known 46 false rfl hb190 ?_)
        · refine WO_step 4 [0, 1] [3, 4, 6, 7, 8, 9, 50] True ⟨[(3, .one (.e (.sl 1 0 x173.length))), (4, I i174), (6, I i177), (7, B b178), (8, I i180), (9, B b181), (50, B true)], [.row .u8 x1 false, .row .ver x173 true]⟩ (by kernel_rfl) trivial ?_
          cases hv188
          exact WO_nil rfl ⟨rfl, rfl⟩
        · refine WO_step 1 [0, 1] [3, 4, 6, 7, 8, 9, 46, 47] True ⟨[(3, .one (.e (.sl 1 0 x173.length))), (4, I i174), (6, I i177), (7, B b178), (8, I i180), (9, B b181), (46, B false), (47, .one (.e (.sl 1 0 x173.length)))], [.row .u8 x1 false, .row .ver x173 true]⟩ (by kernel_rfl) trivial ?_
          refine bindO_e hv188 (fun b191 hc192 hv188 => ?_)
          refine WO_call [.ro 1] Try.f20 rfl rfl rfl (by kernel_rfl) rfl rfl (by kernel_rfl) (impl_ValidVersions_ok n x173 b191 hc192) (And.intro (And.intro rfl rfl) (trivial)) rfl ?_
          refine WO_step 2 [0, 1] [3, 4, 6, 7, 8, 9, 50] True ⟨[(3, .one (.e (.sl 1 0 x173.length))), (4, I i174), (6, I i177), (7, B b178), (8, I i180), (9, B b181), (50, B (!b191))], [.row .u8 x1 false, .row .ver x173 true]⟩ (by kernel_rfl) trivial ?_
          cases hv188
          exact WO_nil rfl ⟨rfl, rfl⟩
    · refine thenS_n ?_
      refine iteO_e h (fun hb197 h => W_true rfl hb197 ?_) (fun hb197 h => W_false rfl hb197 ?_)
      · refine W_seq ?_
        refine W_region ?_
        refine WO_step 4 [0] [7, 9, 54] (True ∧ True) ⟨[(7, B b178), (9, B b181), (54, B (decide (i177 = i180)))], [.row .u8 x1 false]⟩ (by kernel_rfl) ⟨trivial, trivial⟩ ?_
        refine WO_thru ⟨[(2, B ((decide (i177 = i180)) && (b178 == b181)))], [.row .u8 x1 false]⟩ ?_ ?_
        · refine WO_if 54 rfl (fun hb200 => ?_) (fun hb200 => ?_)
          · refine WO_step 5 [0] [2] (True ∧ True) ⟨[(2, B (b178 == b181))], [.row .u8 x1 false]⟩ (by kernel_rfl) ⟨trivial, trivial⟩ ?_
            exact WO_nil rfl ⟨rfl, by first | rfl | (rw [hb200]; first | done | rfl)⟩
          · refine WO_step 5 [0] [2] True ⟨[(2, B false)], [.row .u8 x1 false]⟩ (by kernel_rfl) trivial ?_
            exact WO_nil rfl ⟨rfl, by first | rfl | (rw [hb200]; first | done | rfl)⟩
        · refine thenS_n ?_
          refine W_ret ?_
          refine thenS_r ?_
          cases h
          exact ⟨[0], True, by kernel_rfl, trivial⟩
      · refine W_sub [0, 1] [3, 4] (st' := ⟨[(3, .one (.e (.sl 1 0 x173.length))), (4, I i174)], [.row .u8 x1 false, .row .ver x173 true]⟩) (by kernel_rfl) ?_
        refine W_skip ?_
        refine thenS_n ?_
        refine W_seq ?_
        refine W_region ?_
        refine WO_step 1 [0, 1] [3, 4, 10] True ⟨[(3, .one (.e (.sl 1 0 x173.length))), (4, I i174), (10, B false)], [.row .u8 x1 false, .row .ver x173 true]⟩ (by kernel_rfl) trivial ?_
        refine WO_nil rfl ?_
        refine thenS_n ?_
        refine W_seq ?_
        refine W_region ?_
        refine WO_step 1 [0, 1] [3, 4, 10, 11] True ⟨[(3, .one (.e (.sl 1 0 x173.length))), (4, I i174), (10, B false), (11, I 0)], [.row .u8 x1 false, .row .ver x173 true]⟩ (by kernel_rfl) trivial ?_
        refine WO_nil rfl ?_
        refine thenS_n ?_
        refine W_seq ?_
        refine W_seq ?_
        refine W_region ?_
        refine WO_step 1 [0, 1] [3, 4, 10, 11, 12] True ⟨[(3, .one (.e (.sl 1 0 x173.length))), (4, I i174), (10, B false), (11, I 0), (12, I 0)], [.row .u8 x1 false, .row .ver x173 true]⟩ (by kernel_rfl) trivial ?_
        refine WO_nil rfl ?_
        refine thenS_n ?_
        refine W_block ?_
        refine W_loop ?_
        refine bindO_e h (fun v328 hv328 h => ?_)
        refine WL_cut (laws_FnReadAsOfLast_L4_ok w X θ x173 i174 x1 v328 n false 0 0 hv328) ?_
        obtain ⟨b307, i308⟩ := v328
        rintro _ _ ⟨rfl, rfl⟩
        refine blockS_y ?_
        refine thenS_n ?_
        refine W_seq ?_
        refine W_region ?_
        refine WO_step 2 [0, 1] [10, 11, 78, 79] True ⟨[(10, B b307), (11, I i308), (78, .one (.e (.sl 1 0 x173.length))), (79, I i174)], [.row .u8 x1 false, .row .ver x173 true]⟩ (by kernel_rfl) trivial ?_
        refine bindO_e h (fun v335 hc331 h => ?_)
        obtain ⟨i329, b330⟩ := v335
        refine WO_call [.ro 1] Try.f24 rfl rfl rfl (by kernel_rfl) rfl rfl (by kernel_rfl) (impl_ReadAsOf_ok n x173 i174 100 i329 b330 hc331) (And.intro (And.intro rfl rfl) (trivial)) rfl ?_
        refine WO_step 5 [0] [10, 11, 13, 14] True ⟨[(10, B b307), (11, I i308), (13, I i329), (14, B b330)], [.row .u8 x1 false]⟩ (by kernel_rfl) trivial ?_
        refine WO_nil rfl ?_
        refine thenS_n ?_
        refine W_seq ?_
        refine W_region ?_
        refine WO_step 4 [0] [11, 13, 86] (True ∧ True) ⟨[(11, I i308), (13, I i329), (86, B (b330 == b307))], [.row .u8 x1 false]⟩ (by kernel_rfl) ⟨trivial, trivial⟩ ?_
        refine WO_thru ⟨[(2, B ((b330 == b307) && (decide (i329 = i308))))], [.row .u8 x1 false]⟩ ?_ ?_
        · refine WO_if 86 rfl (fun hb334 => ?_) (fun hb334 => ?_)
          · refine WO_step 5 [0] [2] (True ∧ True) ⟨[(2, B (decide (i329 = i308)))], [.row .u8 x1 false]⟩ (by kernel_rfl) ⟨trivial, trivial⟩ ?_
            exact WO_nil rfl ⟨rfl, by first | rfl | (rw [hb334]; first | done | rfl)⟩
          · refine WO_step 5 [0] [2] True ⟨[(2, B false)], [.row .u8 x1 false]⟩ (by kernel_rfl) trivial ?_
            exact WO_nil rfl ⟨rfl, by first | rfl | (rw [hb334]; first | done | rfl)⟩
        · refine thenS_n ?_
          refine W_ret ?_
          cases h
          exact ⟨[0], True, by kernel_rfl, trivial⟩

/- laws.FnReadAsOfStay -/
def laws_FnReadAsOfStay_L4 (x173 : List Ver) (i174 : Int) (i175 : Int) (i177 : Int) (b178 : Bool) (x1 : List Int) : Nat → Int → Option ((Unit) ⊕ (Unit))
| 0, _ => none
| n + 1, i285 =>
 iteO (decide (i285 < ((x173.length : Nat) : Int)))
 (guardO (0 ≤ i285 ∧ i285 < ((x173.length : Nat) : Int)) <|
 bindO (iteO (decide (((x173.getD i285.toNat dver).node) = i174))
 (guardO (0 ≤ i285 ∧ i285 < ((x173.length : Nat) : Int)) <|
 some (decide (((x173.getD i285.toNat dver).tm) = i175)))
 (some false)) fun b322 =>
 iteO b322
 (some (.inl ()))
 (laws_FnReadAsOfStay_L4 x173 i174 i175 i177 b178 x1 n (w64 (i285 + 1))))
 (some (.inr ()))

theorem laws_FnReadAsOfStay_L4_ok (w : World) (X : Nat → Prop) (θ : List Loc) (x173 : List Ver) (i174 : Int) (i175 : Int) (i177 : Int) (b178 : Bool) (x1 : List Int) (v : (Unit) ⊕ (Unit)) : ∀ (n : Nat) (i285 : Int), laws_FnReadAsOfStay_L4 x173 i174 i175 i177 b178 x1 n i285 = some v → WL EE ⟨w, X, θ, 96, 1⟩ (subC [1, 1, 1, 1, 1, 1, 0, 1, 4, 4] (bodyC Try.f9)) (fun (e : Exit) (s : St) => (match v with | (.inl _) => e = .ret ∧ s = ⟨[(2, B b178)], [.row .u8 x1 false]⟩ | (.inr _) => e = .exit 0 ∧ s = ⟨[(3, .one (.e (.sl 1 0 x173.length))), (4, I i174), (5, I i175), (6, I i177), (7, B b178)], [.row .u8 x1 false, .row .ver x173 true]⟩ : Prop)) ⟨[(3, .one (.e (.sl 1 0 x173.length))), (4, I i174), (5, I i175), (6, I i177), (7, B b178), (10, I i285)], [.row .u8 x1 false, .row .ver x173 true]⟩ := by
  intro n
  induction n with
  | zero => intro _ h; exact none_e h
  | succ n ih =>
    intro i285 h
    rw [laws_FnReadAsOfStay_L4] at h
    refine WL_round ?_
    refine W_seq ?_
    refine W_seq ?_
    refine W_region ?_
    refine WO_step 4 [0, 1] [3, 4, 5, 6, 7, 10, 60] (True ∧ (True ∧ True)) ⟨[(3, .one (.e (.sl 1 0 x173.length))), (4, I i174), (5, I i175), (6, I i177), (7, B b178), (10, I i285), (60, B (decide (i285 < ((x173.length : Nat) : Int))))], [.row .u8 x1 false, .row .ver x173 true]⟩ (by kernel_rfl) ⟨trivial, trivial, trivial⟩ ?_
    refine WO_nil rfl ?_
    refine thenS_n ?_
    refine iteO_e h (fun hb309 h => W_true rfl hb309 ?_) (fun hb309 h => W_false rfl hb309 ?_)
    · refine W_sub [0, 1] [3, 4, 5, 6, 7, 10] (st' := ⟨[(3, .one (.e (.sl 1 0 x173.length))), (4, I i174), (5, I i175), (6, I i177), (7, B b178), (10, I i285)], [.row .u8 x1 false, .row .ver x173 true]⟩) (by kernel_rfl) ?_
      refine W_skip ?_
      refine thenS_n ?_
      refine W_seq ?_
      refine W_block ?_
      refine W_seq ?_
      refine W_region ?_
      refine guardO_e h (fun hg319 h => ?_)
      refine WO_step 8 [0, 1] [3, 4, 5, 6, 7, 10, 70] ((0 ≤ i285 ∧ i285 < ((x173.length : Nat) : Int)) ∧ (True ∧ (True ∧ True))) ⟨[(3, .one (.e (.sl 1 0 x173.length))), (4, I i174), (5, I i175), (6, I i177), (7, B b178), (10, I i285), (70, B (decide (((x173.getD i285.toNat dver).node) = i174)))], [.row .u8 x1 false, .row .ver x173 true]⟩ (by kernel_rfl) ⟨hg319, trivial, trivial, trivial⟩ ?_
      refine bindO_e h (fun b322 hv323 h => ?_)
      refine WO_thru ⟨[(3, .one (.e (.sl 1 0 x173.length))), (4, I i174), (5, I i175), (6, I i177), (7, B b178), (10, I i285), (78, B b322)], [.row .u8 x1 false, .row .ver x173 true]⟩ ?_ ?_
      · refine iteO_e hv323 (fun hb324 hv323 => WO_known 70 true rfl hb324 ?_) (fun hb324 hv323 => WO_known 70 false rfl hb324 ?_)
        · refine guardO_e hv323 (fun hg325 hv323 => ?_)
          refine WO_step 8 [0, 1] [3, 4, 5, 6, 7, 10, 78] ((0 ≤ i285 ∧ i285 < ((x173.length : Nat) : Int)) ∧ (True ∧ (True ∧ True))) ⟨[(3, .one (.e (.sl 1 0 x173.length))), (4, I i174), (5, I i175), (6, I i177), (7, B b178), (10, I i285), (78, B (decide (((x173.getD i285.toNat dver).tm) = i175)))], [.row .u8 x1 false, .row .ver x173 true]⟩ (by kernel_rfl) ⟨hg325, trivial, trivial, trivial⟩ ?_
          cases hv323
          exact WO_nil rfl ⟨rfl, rfl⟩
        · refine WO_step 8 [0, 1] [3, 4, 5, 6, 7, 10, 78] True ⟨[(3, .one (.e (.sl 1 0 x173.length))), (4, I i174), (5, I i175), (6, I i177), (7, B b178), (10, I i285), (78, B false)], [.row .u8 x1 false, .row .ver x173 true]⟩ (by kernel_rfl) trivial ?_
          cases hv323
          exact WO_nil rfl ⟨rfl, rfl⟩
      · refine thenS_n ?_
        refine iteO_e h (fun hb327 h => W_true rfl hb327 ?_) (fun hb327 h => W_false rfl hb327 ?_)
        · refine W_seq ?_
          refine W_region ?_
          refine WO_step 2 [0] [2] True ⟨[(2, B b178)], [.row .u8 x1 false]⟩ (by kernel_rfl) trivial ?_
          refine WO_nil rfl ?_
          refine thenS_n ?_
          refine W_ret ?_
          refine blockS_r ?_
          refine thenS_r ?_
          refine thenS_r ?_
          cases h
          exact And.intro rfl rfl
        · refine W_sub [0, 1] [3, 4, 5, 6, 7, 10] (st' := ⟨[(3, .one (.e (.sl 1 0 x173.length))), (4, I i174), (5, I i175), (6, I i177), (7, B b178), (10, I i285)], [.row .u8 x1 false, .row .ver x173 true]⟩) (by kernel_rfl) ?_
          refine W_skip ?_
          refine blockS_n ?_
          refine thenS_n ?_
          refine W_region ?_
          refine WO_step 3 [0, 1] [3, 4, 5, 6, 7, 10] (True ∧ True) ⟨[(3, .one (.e (.sl 1 0 x173.length))), (4, I i174), (5, I i175), (6, I i177), (7, B b178), (10, I (w64 (i285 + 1)))], [.row .u8 x1 false, .row .ver x173 true]⟩ (by kernel_rfl) ⟨trivial, trivial⟩ ?_
          refine WO_nil rfl ?_
          refine thenS_n ?_
          exact ih _ h
    · refine W_sub [0, 1] [3, 4, 5, 6, 7] (st' := ⟨[(3, .one (.e (.sl 1 0 x173.length))), (4, I i174), (5, I i175), (6, I i177), (7, B b178)], [.row .u8 x1 false, .row .ver x173 true]⟩) (by kernel_rfl) ?_
      refine W_exit ?_
      refine thenS_e ?_
      refine thenS_e ?_
      cases h
      exact And.intro rfl rfl

def laws_FnReadAsOfStay (n : Nat) (x1 : List Int) : Option (Bool) :=
 iteO (decide (1048576 < ((x1.length : Nat) : Int)))
 (some true)
 (bindO (spec_DrawReadAsOf n x1) fun (x173, i174, i175) =>
 bindO (impl_ReadAsOf n x173 i174 i175) fun (i177, b178) =>
 bindO (spec_ReadAsOf n x173 i174 i175) fun (i180, b181) =>
 bindO (iteO (!decide (i177 = i180))
 (some true)
 (iteO (!(b178 == b181))
 (some true)
 (bindO (impl_ValidVersions n x173) fun b191 =>
 some (!b191)))) fun b187 =>
 iteO b187
 (some ((decide (i177 = i180)) && (b178 == b181)))
 (bindO (laws_FnReadAsOfStay_L4 x173 i174 i175 i177 b178 x1 n 0) fun v328 =>
 match v328 with
 | (.inl _) => (some b178)
 | (.inr _) => (bindO (impl_ReadAsOf n x173 i174 (w64 (i175 - 1))) fun (i329, b330) =>
 some ((b330 == b178) && (decide (i329 = i177))))
))

theorem laws_FnReadAsOfStay_ok (n : Nat) (x1 : List Int) (b170 : Bool) (h : laws_FnReadAsOfStay n x1 = some b170) : FOk EE 9 [.one (.e (.sl 0 0 x1.length))] [.row .u8 x1 false] (B b170) [.row .u8 x1 false] := by
  unfold laws_FnReadAsOfStay at h
  refine FOk_of_W 96 1 Try.func9 rfl rfl (Nat.le_of_ble_eq_true rfl) rfl (fun w X θ => ?_)
  refine W_seq ?_
  refine W_region ?_
  refine WO_step 1 [0] [0] True ⟨[(0, .one (.e (.sl 0 0 x1.length)))], [.row .u8 x1 false]⟩ (by kernel_rfl) trivial ?_
  refine WO_nil rfl ?_
  refine thenS_n ?_
  refine W_seq ?_
  refine W_seq ?_
  refine W_region ?_
  refine WO_step 3 [0] [0, 15] (True ∧ (True ∧ True)) ⟨[(0, .one (.e (.sl 0 0 x1.length))), (15, B (decide (1048576 < ((x1.length : Nat) : Int))))], [.row .u8 x1 false]⟩ (by kernel_rfl) ⟨trivial, trivial, trivial⟩ ?_
  refine WO_nil rfl ?_
  refine thenS_n ?_
  refine iteO_e h (fun hb172 h => W_true rfl hb172 ?_) (fun hb172 h => W_false rfl hb172 ?_)
  · refine W_seq ?_
    refine W_region ?_
    refine WO_step 1 [0] [2] True ⟨[(2, B true)], [.row .u8 x1 false]⟩ (by kernel_rfl) trivial ?_
    refine WO_nil rfl ?_
    refine thenS_n ?_
    refine W_ret ?_
    refine thenS_r ?_
    cases h
    exact ⟨[0], True, by kernel_rfl, trivial⟩
  · refine W_sub [0] [0] (st' := ⟨[(0, .one (.e (.sl 0 0 x1.length)))], [.row .u8 x1 false]⟩) (by kernel_rfl) ?_
    refine W_skip ?_
    refine thenS_n ?_
    refine W_seq ?_
    refine W_region ?_
    refine WO_step 1 [0] [17] True ⟨[(17, .one (.e (.sl 0 0 x1.length)))], [.row .u8 x1 false]⟩ (by kernel_rfl) trivial ?_
    refine bindO_e h (fun v338 hc176 h => ?_)
    obtain ⟨x173, i174, i175⟩ := v338
    refine WO_call [.ro 0] Try.f25 rfl rfl rfl (by kernel_rfl) rfl rfl (by kernel_rfl) (spec_DrawReadAsOf_ok n x1 x173 i174 i175 hc176) (And.intro (And.intro rfl rfl) (trivial)) rfl ?_
    refine WO_step 7 [0, 1] [3, 4, 5] True ⟨[(3, .one (.e (.sl 1 0 x173.length))), (4, I i174), (5, I i175)], [.row .u8 x1 false, .row .ver x173 true]⟩ (by kernel_rfl) trivial ?_
    refine WO_nil rfl ?_
    refine thenS_n ?_
    refine W_seq ?_
    refine W_region ?_
    refine WO_step 3 [0, 1] [3, 4, 5, 23, 24, 25] True ⟨[(3, .one (.e (.sl 1 0 x173.length))), (4, I i174), (5, I i175), (23, .one (.e (.sl 1 0 x173.length))), (24, I i174), (25, I i175)], [.row .u8 x1 false, .row .ver x173 true]⟩ (by kernel_rfl) trivial ?_
    refine bindO_e h (fun v337 hc179 h => ?_)
    obtain ⟨i177, b178⟩ := v337
    refine WO_call [.ro 1] Try.f24 rfl rfl rfl (by kernel_rfl) rfl rfl (by kernel_rfl) (impl_ReadAsOf_ok n x173 i174 i175 i177 b178 hc179) (And.intro (And.intro rfl rfl) (trivial)) rfl ?_
    refine WO_step 5 [0, 1] [3, 4, 5, 6, 7] True ⟨[(3, .one (.e (.sl 1 0 x173.length))), (4, I i174), (5, I i175), (6, I i177), (7, B b178)], [.row .u8 x1 false, .row .ver x173 true]⟩ (by kernel_rfl) trivial ?_
    refine WO_nil rfl ?_
    refine thenS_n ?_
    refine W_seq ?_
    refine W_region ?_
    refine WO_step 3 [0, 1] [3, 4, 5, 6, 7, 30, 31, 32] True ⟨[(3, .one (.e (.sl 1 0 x173.length))), (4, I i174), (5, I i175), (6, I i177), (7, B b178), (30, .one (.e (.sl 1 0 x173.length))), (31, I i174), (32, I i175)], [.row .u8 x1 false, .row .ver x173 true]⟩ (by kernel_rfl) trivial ?_
    refine bindO_e h (fun v336 hc182 h => ?_)
    obtain ⟨i180, b181⟩ := v336
    refine WO_call [.ro 1] Try.f23 rfl rfl rfl (by kernel_rfl) rfl rfl (by kernel_rfl) (spec_ReadAsOf_ok n x173 i174 i175 i180 b181 hc182) (And.intro (And.intro rfl rfl) (trivial)) rfl ?_
    refine WO_step 5 [0, 1] [3, 4, 5, 6, 7, 8, 9] True ⟨[(3, .one (.e (.sl 1 0 x173.length))), (4, I i174), (5, I i175), (6, I i177), (7, B b178), (8, I i180), (9, B b181)], [.row .u8 x1 false, .row .ver x173 true]⟩ (by kernel_rfl) trivial ?_
    refine WO_nil rfl ?_
    refine thenS_n ?_
    refine W_seq ?_
    refine W_seq ?_
    refine W_region ?_
    refine WO_step 4 [0, 1] [3, 4, 5, 6, 7, 8, 9, 39] (True ∧ True) ⟨[(3, .one (.e (.sl 1 0 x173.length))), (4, I i174), (5, I i175), (6, I i177), (7, B b178), (8, I i180), (9, B b181), (39, B (!decide (i177 = i180)))], [.row .u8 x1 false, .row .ver x173 true]⟩ (by kernel_rfl) ⟨trivial, trivial⟩ ?_
    refine bindO_e h (fun b187 hv188 h => ?_)
    refine WO_thru ⟨[(3, .one (.e (.sl 1 0 x173.length))), (4, I i174), (5, I i175), (6, I i177), (7, B b178), (8, I i180), (9, B b181), (48, B b187)], [.row .u8 x1 false, .row .ver x173 true]⟩ ?_ ?_
    · refine iteO_e hv188 (fun hb189 hv188 => WO_known 39 true rfl hb189 ?_) (fun hb189 hv188 => WO_known 39 false rfl hb189 ?_)
      · refine WO_step 9 [0, 1] [3, 4, 5, 6, 7, 8, 9, 48] True ⟨[(3, .one (.e (.sl 1 0 x173.length))), (4, I i174), (5, I i175), (6, I i177), (7, B b178), (8, I i180), (9, B b181), (48, B true)], [.row .u8 x1 false, .row .ver x173 true]⟩ (by kernel_rfl) trivial ?_
        cases hv188
        exact WO_nil rfl ⟨rfl, rfl⟩
      · refine WO_step 5 [0, 1] [3, 4, 5, 6, 7, 8, 9, 44] (True ∧ True) ⟨[(3, .one (.e (.sl 1 0 x173.length))), (4, I i174), (5, I i175), (6, I i177), (7, B b178), (8, I i180), (9, B b181), (44, B (!(b178 == b181)))], [.row .u8 x1 false, .row .ver x173 true]⟩ (by kernel_rfl) ⟨trivial, trivial⟩ ?_
        refine iteO_e hv188 (fun hb190 hv188 => WO_known 44 true rfl hb190 ?_) (fun hb190 hv188 => WO_known 44 false rfl hb190 ?_)
        · refine WO_step 4 [0, 1] [3, 4, 5, 6, 7, 8, 9, 48] True ⟨[(3, .one (.e (.sl 1 0 x173.length))), (4, I i174), (5, I i175), (6, I i177), (7, B b178), (8, I i180), (9, B b181), (48, B true)], [.row .u8 x1 false, .row .ver x173 true]⟩ (by kernel_rfl) trivial ?_
          cases hv188
          exact WO_nil rfl ⟨rfl, rfl⟩
        · refine WO_step 1 [0, 1] [3, 4, 5, 6, 7, 8, 9, 44, 45] True ⟨[(3, .one (.e (.sl 1 0 x173.length))), (4, I i174), (5, I i175), (6, I i177), (7, B b178), (8, I i180), (9, B b181), (44, B false), (45, .one (.e (.sl 1 0 x173.length)))], [.row .u8 x1 false, .row .ver x173 true]⟩ (by kernel_rfl) trivial ?_
          refine bindO_e hv188 (fun b191 hc192 hv188 => ?_)
          refine WO_call [.ro 1] Try.f20 rfl rfl rfl (by kernel_rfl) rfl rfl (by kernel_rfl) (impl_ValidVersions_ok n x173 b191 hc192) (And.intro (And.intro rfl rfl) (trivial)) rfl ?_
          refine WO_step 2 [0, 1] [3, 4, 5, 6, 7, 8, 9, 48] True ⟨[(3, .one (.e (.sl 1 0 x173.length))), (4, I i174), (5, I i175), (6, I i177), (7, B b178), (8, I i180), (9, B b181), (48, B (!b191))], [.row .u8 x1 false, .row .ver x173 true]⟩ (by kernel_rfl) trivial ?_
          cases hv188
          exact WO_nil rfl ⟨rfl, rfl⟩
    · refine thenS_n ?_
      refine iteO_e h (fun hb197 h => W_true rfl hb197 ?_) (fun hb197 h => W_false rfl hb197 ?_)
      · refine W_seq ?_
        refine W_region ?_
        refine WO_step 4 [0] [7, 9, 52] (True ∧ True) ⟨[(7, B b178), (9, B b181), (52, B (decide (i177 = i180)))], [.row .u8 x1 false]⟩ (by kernel_rfl) ⟨trivial, trivial⟩ ?_
        refine WO_thru ⟨[(2, B ((decide (i177 = i180)) && (b178 == b181)))], [.row .u8 x1 false]⟩ ?_ ?_
        · refine WO_if 52 rfl (fun hb200 => ?_) (fun hb200 => ?_)
          · refine WO_step 5 [0] [2] (True ∧ True) ⟨[(2, B (b178 == b181))], [.row .u8 x1 false]⟩ (by kernel_rfl) ⟨trivial, trivial⟩ ?_
            exact WO_nil rfl ⟨rfl, by first | rfl | (rw [hb200]; first | done | rfl)⟩
          · refine WO_step 5 [0] [2] True ⟨[(2, B false)], [.row .u8 x1 false]⟩ (by kernel_rfl) trivial ?_
            exact WO_nil rfl ⟨rfl, by first | rfl | (rw [hb200]; first | done | rfl)⟩
        · refine thenS_n ?_
          refine W_ret ?_
          refine thenS_r ?_
          cases h
          exact ⟨[0], True, by kernel_rfl, trivial⟩
      · refine W_sub [0, 1] [3, 4, 5, 6, 7] (st' := ⟨[(3, .one (.e (.sl 1 0 x173.length))), (4, I i174), (5, I i175), (6, I i177), (7, B b178)], [.row .u8 x1 false, .row .ver x173 true]⟩) (by kernel_rfl) ?_
        refine W_skip ?_
        refine thenS_n ?_
        refine W_seq ?_
        refine W_seq ?_
        refine W_region ?_
        refine WO_step 1 [0, 1] [3, 4, 5, 6, 7, 10] True ⟨[(3, .one (.e (.sl 1 0 x173.length))), (4, I i174), (5, I i175), (6, I i177), (7, B b178), (10, I 0)], [.row .u8 x1 false, .row .ver x173 true]⟩ (by kernel_rfl) trivial ?_
        refine WO_nil rfl ?_
        refine thenS_n ?_
        refine W_block ?_
        refine W_loop ?_
        refine bindO_e h (fun v328 hv328 h => ?_)
        refine WL_cut (laws_FnReadAsOfStay_L4_ok w X θ x173 i174 i175 i177 b178 x1 v328 n 0 hv328) ?_
        rcases v328 with _ | _
        · rintro _ _ ⟨rfl, rfl⟩
          refine blockS_r ?_
          refine thenS_r ?_
          cases h
          exact ⟨[0], True, by kernel_rfl, trivial⟩
        · rintro _ _ ⟨rfl, rfl⟩
          refine blockS_y ?_
          refine thenS_n ?_
          refine W_seq ?_
          refine W_region ?_
          refine WO_step 4 [0, 1] [6, 7, 81, 82, 84] (True ∧ True) ⟨[(6, I i177), (7, B b178), (81, .one (.e (.sl 1 0 x173.length))), (82, I i174), (84, I (w64 (i175 - 1)))], [.row .u8 x1 false, .row .ver x173 true]⟩ (by kernel_rfl) ⟨trivial, trivial⟩ ?_
          refine bindO_e h (fun v335 hc331 h => ?_)
          obtain ⟨i329, b330⟩ := v335
          refine WO_call [.ro 1] Try.f24 rfl rfl rfl (by kernel_rfl) rfl rfl (by kernel_rfl) (impl_ReadAsOf_ok n x173 i174 (w64 (i175 - 1)) i329 b330 hc331) (And.intro (And.intro rfl rfl) (trivial)) rfl ?_
          refine WO_step 5 [0] [6, 7, 11, 12] True ⟨[(6, I i177), (7, B b178), (11, I i329), (12, B b330)], [.row .u8 x1 false]⟩ (by kernel_rfl) trivial ?_
          refine WO_nil rfl ?_
          refine thenS_n ?_
          refine W_seq ?_
          refine W_region ?_
          refine WO_step 4 [0] [6, 11, 91] (True ∧ True) ⟨[(6, I i177), (11, I i329), (91, B (b330 == b178))], [.row .u8 x1 false]⟩ (by kernel_rfl) ⟨trivial, trivial⟩ ?_
          refine WO_thru ⟨[(2, B ((b330 == b178) && (decide (i329 = i177))))], [.row .u8 x1 false]⟩ ?_ ?_
          · refine WO_if 91 rfl (fun hb334 => ?_) (fun hb334 => ?_)
            · refine WO_step 5 [0] [2] (True ∧ True) ⟨[(2, B (decide (i329 = i177)))], [.row .u8 x1 false]⟩ (by kernel_rfl) ⟨trivial, trivial⟩ ?_
              exact WO_nil rfl ⟨rfl, by first | rfl | (rw [hb334]; first | done | rfl)⟩
            · refine WO_step 5 [0] [2] True ⟨[(2, B false)], [.row .u8 x1 false]⟩ (by kernel_rfl) trivial ?_
              exact WO_nil rfl ⟨rfl, by first | rfl | (rw [hb334]; first | done | rfl)⟩
          · refine thenS_n ?_
            refine W_ret ?_
            cases h
            exact ⟨[0], True, by kernel_rfl, trivial⟩

end Go.Proofs.Ytnaogmahijgibaa

import Derived.Test.YtnaogmahijgibaaTT1
namespace Go.Proofs.Ytnaogmahijgibaa
open Go
set_option linter.unusedVariables false
/- laws.FnValidVersionsTime -/
def laws_FnValidVersionsTime_L1 (x73 : List Ver) (x1 : List Int) : Nat → (List Ver) → Int → Option ((List Ver))
| 0, _, _ => none
| n + 1, x111, i112 =>
 iteO (decide (i112 < ((x73.length : Nat) : Int)))
 (guardO (0 ≤ i112 ∧ i112 < ((x73.length : Nat) : Int)) <|
 guardO (0 ≤ i112 ∧ i112 < ((x73.length : Nat) : Int)) <|
 guardO (0 ≤ i112 ∧ i112 < ((x73.length : Nat) : Int)) <|
 guardO (0 = 0 ∧ x111.length = x111.length ∧ x111.length + (([(⟨(x73.getD i112.toNat dver).node, (x73.getD i112.toNat dver).value, (w64 (((x73.getD i112.toNat dver).tm) + 1))⟩ : Ver)].drop 0).take ([(⟨(x73.getD i112.toNat dver).node, (x73.getD i112.toNat dver).value, (w64 (((x73.getD i112.toNat dver).tm) + 1))⟩ : Ver)].length)).length ≤ 1099511627776) <|
 laws_FnValidVersionsTime_L1 x73 x1 n (x111 ++ (([(⟨(x73.getD i112.toNat dver).node, (x73.getD i112.toNat dver).value, (w64 (((x73.getD i112.toNat dver).tm) + 1))⟩ : Ver)].drop 0).take ([(⟨(x73.getD i112.toNat dver).node, (x73.getD i112.toNat dver).value, (w64 (((x73.getD i112.toNat dver).tm) + 1))⟩ : Ver)].length))) (w64 (i112 + 1)))
 (some x111)

theorem laws_FnValidVersionsTime_L1_ok (w : World) (X : Nat → Prop) (θ : List Loc) (x73 : List Ver) (x1 : List Int) (x125 : (List Ver)) : ∀ (n : Nat) (x111 : List Ver) (i112 : Int), laws_FnValidVersionsTime_L1 x73 x1 n x111 i112 = some x125 → WL EE ⟨w, X, θ, 70, 1⟩ (subC [1, 1, 1, 1, 1, 1, 0, 1, 4, 4] (bodyC Try.f5)) (fun (e : Exit) (s : St) => e = .exit 0 ∧ s = ⟨[(5, .one (.e (.sl 1 0 x125.length)))], [.row .u8 x1 false, .row .ver x125 true]⟩) ⟨[(3, .one (.e (.sl 1 0 x73.length))), (5, .one (.e (.sl 2 0 x111.length))), (6, I i112)], [.row .u8 x1 false, .row .ver x73 true, .row .ver x111 true]⟩ := by
  intro n
  induction n with
  | zero => intro _ _ h; exact none_e h
  | succ n ih =>
    intro x111 i112 h
    rw [laws_FnValidVersionsTime_L1] at h
    refine WL_round ?_
    refine W_seq ?_
    refine W_seq ?_
    refine W_region ?_
    refine WO_step 4 [0, 1, 2] [3, 5, 6, 45] (True ∧ (True ∧ True)) ⟨[(3, .one (.e (.sl 1 0 x73.length))), (5, .one (.e (.sl 2 0 x111.length))), (6, I i112), (45, B (decide (i112 < ((x73.length : Nat) : Int))))], [.row .u8 x1 false, .row .ver x73 true, .row .ver x111 true]⟩ (by kernel_rfl) ⟨trivial, trivial, trivial⟩ ?_
    refine WO_nil rfl ?_
    refine thenS_n ?_
    refine iteO_e h (fun hb128 h => W_true rfl hb128 ?_) (fun hb128 h => W_false rfl hb128 ?_)
    · refine W_sub [0, 1, 2] [3, 5, 6] (st' := ⟨[(3, .one (.e (.sl 1 0 x73.length))), (5, .one (.e (.sl 2 0 x111.length))), (6, I i112)], [.row .u8 x1 false, .row .ver x73 true, .row .ver x111 true]⟩) (by kernel_rfl) ?_
      refine W_skip ?_
      refine thenS_n ?_
      refine W_seq ?_
      refine W_block ?_
      refine guardO_e h (fun hg133 h => ?_)
      refine guardO_e h (fun hg134 h => ?_)
      refine guardO_e h (fun hg135 h => ?_)
      refine guardO_e h (fun hg136 h => ?_)
      refine W_cut (Q' := fun (e : Exit) (s : St) => e = .normal ∧ s = ⟨[(3, .one (.e (.sl 1 0 x73.length))), (5, .one (.e (.sl 2 0 ((x111 ++ (([(⟨(x73.getD i112.toNat dver).node, (x73.getD i112.toNat dver).value, (w64 (((x73.getD i112.toNat dver).tm) + 1))⟩ : Ver)].drop 0).take ([(⟨(x73.getD i112.toNat dver).node, (x73.getD i112.toNat dver).value, (w64 (((x73.getD i112.toNat dver).tm) + 1))⟩ : Ver)].length))).length)))), (6, I i112)], [.row .u8 x1 false, .row .ver x73 true, .row .ver (x111 ++ (([(⟨(x73.getD i112.toNat dver).node, (x73.getD i112.toNat dver).value, (w64 (((x73.getD i112.toNat dver).tm) + 1))⟩ : Ver)].drop 0).take ([(⟨(x73.getD i112.toNat dver).node, (x73.getD i112.toNat dver).value, (w64 (((x73.getD i112.toNat dver).tm) + 1))⟩ : Ver)].length))) true]⟩) ?_ ?_
      · refine W_draw [2] false (by kernel_rfl) (by kernel_rfl) ?_
        refine WD_takeK [0, 1, 2, 3, 4, 5, 6, 7, 8, 9, 10, 11, 12, 13, 14, 15, 16, 17] [3, 5, 6, 48, 65] [3, 5, 6, 48, 65] (φ := ((0 ≤ i112 ∧ i112 < ((x73.length : Nat) : Int)) ∧ (0 ≤ i112 ∧ i112 < ((x73.length : Nat) : Int)) ∧ (True ∧ True ∧ ((0 ≤ i112 ∧ i112 < ((x73.length : Nat) : Int)) ∧ (0 ≤ i112 ∧ i112 < ((x73.length : Nat) : Int)) ∧ (True ∧ True ∧ ((0 ≤ i112 ∧ i112 < ((x73.length : Nat) : Int)) ∧ (0 ≤ i112 ∧ i112 < ((x73.length : Nat) : Int)) ∧ (True ∧ True ∧ (True ∧ True ∧ True)))))))) (ls' := #[true, true, true, true, true, true, true, true, true, true, true, true, true, true, true, true, true, true, false, false, false]) (Ts' := [(3, .one (.e (.sl 1 0 x73.length))), (5, .one (.e (.sl 2 0 x111.length))), (6, I i112), (48, .one (.e (.sl 2 0 x111.length))), (65, AGG [cI ((x73.getD i112.toNat dver).node), cI ((x73.getD i112.toNat dver).value), cI (w64 (((x73.getD i112.toNat dver).tm) + 1))])]) (st' := ⟨[(3, .one (.e (.sl 1 0 x73.length))), (5, .one (.e (.sl 2 0 x111.length))), (6, I i112), (48, .one (.e (.sl 2 0 x111.length))), (65, AGG [cI ((x73.getD i112.toNat dver).node), cI ((x73.getD i112.toNat dver).value), cI (w64 (((x73.getD i112.toNat dver).tm) + 1))])], [.row .u8 x1 false, .row .ver x73 true, .row .ver x111 true]⟩) (n2 := 3) (by kernel_rfl) ⟨hg133, hg133, trivial, trivial, hg134, hg134, trivial, trivial, hg135, hg135, trivial, trivial, trivial, trivial, trivial⟩ rfl ?_
        refine WD_all [18] (n := 2) (by kernel_rfl) rfl ?_
        refine WM_op (φ := True) (v := .one (.e (.sl 3 0 ([(⟨(x73.getD i112.toNat dver).node, (x73.getD i112.toNat dver).value, (w64 (((x73.getD i112.toNat dver).tm) + 1))⟩ : Ver)].length)))) (H' := [.row .u8 x1 false, .row .ver x73 true, .row .ver x111 true, .row .ver [(⟨(x73.getD i112.toNat dver).node, (x73.getD i112.toNat dver).value, (w64 (((x73.getD i112.toNat dver).tm) + 1))⟩ : Ver)] true]) rfl rfl (by kernel_rfl) trivial rfl (And.intro rfl (And.intro rfl (trivial))) ?_
        refine WD_all [19] (n := 1) (by kernel_rfl) rfl ?_
        refine WM_op (φ := 0 = 0 ∧ x111.length = x111.length ∧ x111.length + (([(⟨(x73.getD i112.toNat dver).node, (x73.getD i112.toNat dver).value, (w64 (((x73.getD i112.toNat dver).tm) + 1))⟩ : Ver)].drop 0).take ([(⟨(x73.getD i112.toNat dver).node, (x73.getD i112.toNat dver).value, (w64 (((x73.getD i112.toNat dver).tm) + 1))⟩ : Ver)].length)).length ≤ 1099511627776) (v := .one (.e (.sl 4 0 ((x111 ++ (([(⟨(x73.getD i112.toNat dver).node, (x73.getD i112.toNat dver).value, (w64 (((x73.getD i112.toNat dver).tm) + 1))⟩ : Ver)].drop 0).take ([(⟨(x73.getD i112.toNat dver).node, (x73.getD i112.toNat dver).value, (w64 (((x73.getD i112.toNat dver).tm) + 1))⟩ : Ver)].length))).length)))) (H' := [.row .u8 x1 false, .row .ver x73 true, .dead, .row .ver [(⟨(x73.getD i112.toNat dver).node, (x73.getD i112.toNat dver).value, (w64 (((x73.getD i112.toNat dver).tm) + 1))⟩ : Ver)] true, .row .ver (x111 ++ (([(⟨(x73.getD i112.toNat dver).node, (x73.getD i112.toNat dver).value, (w64 (((x73.getD i112.toNat dver).tm) + 1))⟩ : Ver)].drop 0).take ([(⟨(x73.getD i112.toNat dver).node, (x73.getD i112.toNat dver).value, (w64 (((x73.getD i112.toNat dver).tm) + 1))⟩ : Ver)].length))) true]) rfl rfl (by kernel_rfl) hg136 rfl (And.intro rfl (And.intro rfl (trivial))) ?_
        refine WD_all [20] (n := 0) (by kernel_rfl) rfl ?_
        refine WM_op (φ := True) (v := .one (.e (.sl 4 0 ((x111 ++ (([(⟨(x73.getD i112.toNat dver).node, (x73.getD i112.toNat dver).value, (w64 (((x73.getD i112.toNat dver).tm) + 1))⟩ : Ver)].drop 0).take ([(⟨(x73.getD i112.toNat dver).node, (x73.getD i112.toNat dver).value, (w64 (((x73.getD i112.toNat dver).tm) + 1))⟩ : Ver)].length))).length)))) (H' := [.row .u8 x1 false, .row .ver x73 true, .dead, .row .ver [(⟨(x73.getD i112.toNat dver).node, (x73.getD i112.toNat dver).value, (w64 (((x73.getD i112.toNat dver).tm) + 1))⟩ : Ver)] true, .row .ver (x111 ++ (([(⟨(x73.getD i112.toNat dver).node, (x73.getD i112.toNat dver).value, (w64 (((x73.getD i112.toNat dver).tm) + 1))⟩ : Ver)].drop 0).take ([(⟨(x73.getD i112.toNat dver).node, (x73.getD i112.toNat dver).value, (w64 (((x73.getD i112.toNat dver).tm) + 1))⟩ : Ver)].length))) true]) rfl rfl (by kernel_rfl) trivial rfl (And.intro rfl (And.intro rfl (trivial))) ?_
        exact WD_done [0, 1, 4] [3, 5, 6] (st' := ⟨[(3, .one (.e (.sl 1 0 x73.length))), (5, .one (.e (.sl 2 0 ((x111 ++ (([(⟨(x73.getD i112.toNat dver).node, (x73.getD i112.toNat dver).value, (w64 (((x73.getD i112.toNat dver).tm) + 1))⟩ : Ver)].drop 0).take ([(⟨(x73.getD i112.toNat dver).node, (x73.getD i112.toNat dver).value, (w64 (((x73.getD i112.toNat dver).tm) + 1))⟩ : Ver)].length))).length)))), (6, I i112)], [.row .u8 x1 false, .row .ver x73 true, .row .ver (x111 ++ (([(⟨(x73.getD i112.toNat dver).node, (x73.getD i112.toNat dver).value, (w64 (((x73.getD i112.toNat dver).tm) + 1))⟩ : Ver)].drop 0).take ([(⟨(x73.getD i112.toNat dver).node, (x73.getD i112.toNat dver).value, (w64 (((x73.getD i112.toNat dver).tm) + 1))⟩ : Ver)].length))) true]⟩) (by kernel_rfl) (by kernel_rfl) (And.intro rfl rfl)
      · rintro _ _ ⟨rfl, rfl⟩
        refine blockS_n ?_
        refine thenS_n ?_
        refine W_region ?_
        refine WO_step 3 [0, 1, 2] [3, 5, 6] (True ∧ True) ⟨[(3, .one (.e (.sl 1 0 x73.length))), (5, .one (.e (.sl 2 0 ((x111 ++ (([(⟨(x73.getD i112.toNat dver).node, (x73.getD i112.toNat dver).value, (w64 (((x73.getD i112.toNat dver).tm) + 1))⟩ : Ver)].drop 0).take ([(⟨(x73.getD i112.toNat dver).node, (x73.getD i112.toNat dver).value, (w64 (((x73.getD i112.toNat dver).tm) + 1))⟩ : Ver)].length))).length)))), (6, I (w64 (i112 + 1)))], [.row .u8 x1 false, .row .ver x73 true, .row .ver (x111 ++ (([(⟨(x73.getD i112.toNat dver).node, (x73.getD i112.toNat dver).value, (w64 (((x73.getD i112.toNat dver).tm) + 1))⟩ : Ver)].drop 0).take ([(⟨(x73.getD i112.toNat dver).node, (x73.getD i112.toNat dver).value, (w64 (((x73.getD i112.toNat dver).tm) + 1))⟩ : Ver)].length))) true]⟩ (by kernel_rfl) ⟨trivial, trivial⟩ ?_
        refine WO_nil rfl ?_
        refine thenS_n ?_
        exact ih _ _ h
    · refine W_sub [0, 2] [5] (st' := ⟨[(5, .one (.e (.sl 1 0 x111.length)))], [.row .u8 x1 false, .row .ver x111 true]⟩) (by kernel_rfl) ?_
      refine W_exit ?_
      refine thenS_e ?_
      refine thenS_e ?_
      cases h
      exact And.intro rfl rfl

def laws_FnValidVersionsTime (n : Nat) (x1 : List Int) : Option (Bool) :=
 iteO (decide (1048576 < ((x1.length : Nat) : Int)))
 (some true)
 (bindO (spec_DrawValidVersions n x1) fun x73 =>
 bindO (impl_ValidVersions n x73) fun b75 =>
 bindO (spec_ValidVersions n x73) fun b77 =>
 bindO (iteO (!(b75 == b77))
 (some true)
 (iteO (!b75)
 (some true)
 (iteO (decide (((x73.length : Nat) : Int) = 0))
 (some true)
 (guardO (0 ≤ (w64 (((x73.length : Nat) : Int) - 1)) ∧ (w64 (((x73.length : Nat) : Int) - 1)) < ((x73.length : Nat) : Int)) <|
 some (decide (((x73.getD ((w64 (((x73.length : Nat) : Int) - 1)).toNat) dver).tm) = 100)))))) fun b83 =>
 iteO b83
 (bindO (spec_ValidVersions n x73) fun b93 =>
 some (b75 == b93))
 (bindO (laws_FnValidVersionsTime_L1 x73 x1 n ([] : List Ver) 0) fun x125 =>
 bindO (impl_ValidVersions n x125) fun b138 =>
 some b138))

theorem laws_FnValidVersionsTime_ok (n : Nat) (x1 : List Int) (b70 : Bool) (h : laws_FnValidVersionsTime n x1 = some b70) : FOk EE 5 [.one (.e (.sl 0 0 x1.length))] [.row .u8 x1 false] (B b70) [.row .u8 x1 false] := by
  unfold laws_FnValidVersionsTime at h
  refine FOk_of_W 70 1 Try.func5 rfl rfl (Nat.le_of_ble_eq_true rfl) rfl (fun w X θ => ?_)
  refine W_seq ?_
  refine W_region ?_
  refine WO_step 1 [0] [0] True ⟨[(0, .one (.e (.sl 0 0 x1.length)))], [.row .u8 x1 false]⟩ (by kernel_rfl) trivial ?_
  refine WO_nil rfl ?_
  refine thenS_n ?_
  refine W_seq ?_
  refine W_seq ?_
  refine W_region ?_
  refine WO_step 3 [0] [0, 9] (True ∧ (True ∧ True)) ⟨[(0, .one (.e (.sl 0 0 x1.length))), (9, B (decide (1048576 < ((x1.length : Nat) : Int))))], [.row .u8 x1 false]⟩ (by kernel_rfl) ⟨trivial, trivial, trivial⟩ ?_
  refine WO_nil rfl ?_
  refine thenS_n ?_
  refine iteO_e h (fun hb72 h => W_true rfl hb72 ?_) (fun hb72 h => W_false rfl hb72 ?_)
  · refine W_seq ?_
    refine W_region ?_
    refine WO_step 1 [0] [2] True ⟨[(2, B true)], [.row .u8 x1 false]⟩ (by kernel_rfl) trivial ?_
    refine WO_nil rfl ?_
    refine thenS_n ?_
    refine W_ret ?_
    refine thenS_r ?_
    cases h
    exact ⟨[0], True, by kernel_rfl, trivial⟩
  · refine W_sub [0] [0] (st' := ⟨[(0, .one (.e (.sl 0 0 x1.length)))], [.row .u8 x1 false]⟩) (by kernel_rfl) ?_
    refine W_skip ?_
    refine thenS_n ?_
    refine W_seq ?_
    refine W_region ?_
    refine WO_step 1 [0] [10] True ⟨[(10, .one (.e (.sl 0 0 x1.length)))], [.row .u8 x1 false]⟩ (by kernel_rfl) trivial ?_
    refine bindO_e h (fun x73 hc74 h => ?_)
    refine WO_call [.ro 0] Try.f22 rfl rfl rfl (by kernel_rfl) rfl rfl (by kernel_rfl) (spec_DrawValidVersions_ok n x1 x73 hc74) (And.intro (And.intro rfl rfl) (trivial)) rfl ?_
    refine WO_step 1 [0, 1] [3] True ⟨[(3, .one (.e (.sl 1 0 x73.length)))], [.row .u8 x1 false, .row .ver x73 true]⟩ (by kernel_rfl) trivial ?_
    refine WO_nil rfl ?_
    refine thenS_n ?_
    refine W_seq ?_
    refine W_region ?_
    refine WO_step 1 [0, 1] [3, 12] True ⟨[(3, .one (.e (.sl 1 0 x73.length))), (12, .one (.e (.sl 1 0 x73.length)))], [.row .u8 x1 false, .row .ver x73 true]⟩ (by kernel_rfl) trivial ?_
    refine bindO_e h (fun b75 hc76 h => ?_)
    refine WO_call [.ro 1] Try.f20 rfl rfl rfl (by kernel_rfl) rfl rfl (by kernel_rfl) (impl_ValidVersions_ok n x73 b75 hc76) (And.intro (And.intro rfl rfl) (trivial)) rfl ?_
    refine WO_step 1 [0, 1] [3, 4] True ⟨[(3, .one (.e (.sl 1 0 x73.length))), (4, B b75)], [.row .u8 x1 false, .row .ver x73 true]⟩ (by kernel_rfl) trivial ?_
    refine WO_nil rfl ?_
    refine thenS_n ?_
    refine W_seq ?_
    refine W_seq ?_
    refine W_region ?_
    refine WO_step 2 [0, 1] [3, 4, 14, 15] True ⟨[(3, .one (.e (.sl 1 0 x73.length))), (4, B b75), (14, B b75), (15, .one (.e (.sl 1 0 x73.length)))], [.row .u8 x1 false, .row .ver x73 true]⟩ (by kernel_rfl) trivial ?_
    refine bindO_e h (fun b77 hc78 h => ?_)
    refine WO_call [.ro 1] Try.f18 rfl rfl rfl (by kernel_rfl) rfl rfl (by kernel_rfl) (spec_ValidVersions_ok n x73 b77 hc78) (And.intro (And.intro rfl rfl) (trivial)) rfl ?_
    refine WO_step 2 [0, 1] [3, 4, 18] (True ∧ True) ⟨[(3, .one (.e (.sl 1 0 x73.length))), (4, B b75), (18, B (!(b75 == b77)))], [.row .u8 x1 false, .row .ver x73 true]⟩ (by kernel_rfl) ⟨trivial, trivial⟩ ?_
    refine bindO_e h (fun b83 hv84 h => ?_)
    refine WO_thru ⟨[(3, .one (.e (.sl 1 0 x73.length))), (4, B b75), (36, B b83)], [.row .u8 x1 false, .row .ver x73 true]⟩ ?_ ?_
    · refine iteO_e hv84 (fun hb85 hv84 => WO_known 18 true rfl hb85 ?_) (fun hb85 hv84 => WO_known 18 false rfl hb85 ?_)
      · refine WO_step 18 [0, 1] [3, 4, 36] True ⟨[(3, .one (.e (.sl 1 0 x73.length))), (4, B b75), (36, B true)], [.row .u8 x1 false, .row .ver x73 true]⟩ (by kernel_rfl) trivial ?_
        cases hv84
        exact WO_nil rfl ⟨rfl, rfl⟩
      · refine WO_step 4 [0, 1] [3, 4, 22] True ⟨[(3, .one (.e (.sl 1 0 x73.length))), (4, B b75), (22, B (!b75))], [.row .u8 x1 false, .row .ver x73 true]⟩ (by kernel_rfl) trivial ?_
        refine iteO_e hv84 (fun hb86 hv84 => WO_known 22 true rfl hb86 ?_) (fun hb86 hv84 => WO_known 22 false rfl hb86 ?_)
        · refine WO_step 14 [0, 1] [3, 4, 36] True ⟨[(3, .one (.e (.sl 1 0 x73.length))), (4, B b75), (36, B true)], [.row .u8 x1 false, .row .ver x73 true]⟩ (by kernel_rfl) trivial ?_
          cases hv84
          exact WO_nil rfl ⟨rfl, rfl⟩
        · refine WO_step 5 [0, 1] [3, 4, 27] (True ∧ (True ∧ True)) ⟨[(3, .one (.e (.sl 1 0 x73.length))), (4, B b75), (27, B (decide (((x73.length : Nat) : Int) = 0)))], [.row .u8 x1 false, .row .ver x73 true]⟩ (by kernel_rfl) ⟨trivial, trivial, trivial⟩ ?_
          refine iteO_e hv84 (fun hb87 hv84 => WO_known 27 true rfl hb87 ?_) (fun hb87 hv84 => WO_known 27 false rfl hb87 ?_)
          · refine WO_step 9 [0, 1] [3, 4, 36] True ⟨[(3, .one (.e (.sl 1 0 x73.length))), (4, B b75), (36, B true)], [.row .u8 x1 false, .row .ver x73 true]⟩ (by kernel_rfl) trivial ?_
            cases hv84
            exact WO_nil rfl ⟨rfl, rfl⟩
          · refine guardO_e hv84 (fun hg88 hv84 => ?_)
            refine WO_step 9 [0, 1] [3, 4, 36] (True ∧ (True ∧ ((0 ≤ (w64 (((x73.length : Nat) : Int) - 1)) ∧ (w64 (((x73.length : Nat) : Int) - 1)) < ((x73.length : Nat) : Int)) ∧ (True ∧ (True ∧ True))))) ⟨[(3, .one (.e (.sl 1 0 x73.length))), (4, B b75), (36, B (decide (((x73.getD ((w64 (((x73.length : Nat) : Int) - 1)).toNat) dver).tm) = 100)))], [.row .u8 x1 false, .row .ver x73 true]⟩ (by kernel_rfl) ⟨trivial, trivial, hg88, trivial, trivial, trivial⟩ ?_
            cases hv84
            exact WO_nil rfl ⟨rfl, rfl⟩
    · refine thenS_n ?_
      refine iteO_e h (fun hb92 h => W_true rfl hb92 ?_) (fun hb92 h => W_false rfl hb92 ?_)
      · refine W_seq ?_
        refine W_region ?_
        refine WO_step 2 [0, 1] [37, 38] True ⟨[(37, B b75), (38, .one (.e (.sl 1 0 x73.length)))], [.row .u8 x1 false, .row .ver x73 true]⟩ (by kernel_rfl) trivial ?_
        refine bindO_e h (fun b93 hc94 h => ?_)
        refine WO_call [.ro 1] Try.f18 rfl rfl rfl (by kernel_rfl) rfl rfl (by kernel_rfl) (spec_ValidVersions_ok n x73 b93 hc94) (And.intro (And.intro rfl rfl) (trivial)) rfl ?_
        refine WO_step 2 [0] [2] (True ∧ True) ⟨[(2, B (b75 == b93))], [.row .u8 x1 false]⟩ (by kernel_rfl) ⟨trivial, trivial⟩ ?_
        refine WO_nil rfl ?_
        refine thenS_n ?_
        refine W_ret ?_
        refine thenS_r ?_
        cases h
        exact ⟨[0], True, by kernel_rfl, trivial⟩
      · refine W_sub [0, 1] [3] (st' := ⟨[(3, .one (.e (.sl 1 0 x73.length)))], [.row .u8 x1 false, .row .ver x73 true]⟩) (by kernel_rfl) ?_
        refine W_skip ?_
        refine thenS_n ?_
        refine W_seq ?_
        refine W_region ?_
        refine WO_step 2 [0, 1, 2] [3, 5] True ⟨[(3, .one (.e (.sl 1 0 x73.length))), (5, .one (.e (.sl 2 0 (([] : List Ver).length))))], [.row .u8 x1 false, .row .ver x73 true, .row .ver ([] : List Ver) true]⟩ (by kernel_rfl) trivial ?_
        refine WO_nil rfl ?_
        refine thenS_n ?_
        refine W_seq ?_
        refine W_seq ?_
        refine W_region ?_
        refine WO_step 1 [0, 1, 2] [3, 5, 6] True ⟨[(3, .one (.e (.sl 1 0 x73.length))), (5, .one (.e (.sl 2 0 (([] : List Ver).length)))), (6, I 0)], [.row .u8 x1 false, .row .ver x73 true, .row .ver ([] : List Ver) true]⟩ (by kernel_rfl) trivial ?_
        refine WO_nil rfl ?_
        refine thenS_n ?_
        refine W_block ?_
        refine W_loop ?_
        refine bindO_e h (fun x125 hx125 h => ?_)
        refine WL_cut (laws_FnValidVersionsTime_L1_ok w X θ x73 x1 x125 n ([] : List Ver) 0 hx125) ?_
        rintro _ _ ⟨rfl, rfl⟩
        refine blockS_y ?_
        refine thenS_n ?_
        refine W_seq ?_
        refine W_region ?_
        refine WO_step 1 [0, 1] [68] True ⟨[(68, .one (.e (.sl 1 0 x125.length)))], [.row .u8 x1 false, .row .ver x125 true]⟩ (by kernel_rfl) trivial ?_
        refine bindO_e h (fun b138 hc139 h => ?_)
        refine WO_call [.ro 1] Try.f20 rfl rfl rfl (by kernel_rfl) rfl rfl (by kernel_rfl) (impl_ValidVersions_ok n x125 b138 hc139) (And.intro (And.intro rfl rfl) (trivial)) rfl ?_
        refine WO_step 1 [0] [2] True ⟨[(2, B b138)], [.row .u8 x1 false]⟩ (by kernel_rfl) trivial ?_
        refine WO_nil rfl ?_
        refine thenS_n ?_
        refine W_ret ?_
        cases h
        exact ⟨[0], True, by kernel_rfl, trivial⟩

/- spec.asOf -/
def spec_asOf_L1 (x1 : List Ver) (i2 : Int) (i3 : Int) : Nat → Int → Int → Option (Int)
| 0, _, _ => none
| n + 1, i111, i112 =>
 iteO (decide (i112 < ((x1.length : Nat) : Int)))
 (guardO (0 ≤ i112 ∧ i112 < ((x1.length : Nat) : Int)) <|
 bindO (iteO (decide (((x1.getD i112.toNat dver).node) = i2))
 (guardO (0 ≤ i112 ∧ i112 < ((x1.length : Nat) : Int)) <|
 some (decide (((x1.getD i112.toNat dver).tm) ≤ i3)))
 (some false)) fun b154 =>
 bindO (iteO b154
 (some i112)
 (some i111)) fun i159 =>
 spec_asOf_L1 x1 i2 i3 n i159 (w64 (i112 + 1)))
 (some i111)

theorem spec_asOf_L1_ok (w : World) (X : Nat → Prop) (θ : List Loc) (x1 : List Ver) (i2 : Int) (i3 : Int) (i137 : Int) : ∀ (n : Nat) (i111 : Int) (i112 : Int), spec_asOf_L1 x1 i2 i3 n i111 i112 = some i137 → WL EE ⟨w, X, θ, 33, 1⟩ (subC [1, 1, 0, 1, 4, 4] (bodyC Try.f41)) (fun (e : Exit) (s : St) => e = .exit 0 ∧ s = ⟨[(7, I i137)], [.row .ver x1 false]⟩) ⟨[(0, .one (.e (.sl 0 0 x1.length))), (1, I i2), (2, I i3), (7, I i111), (8, I i112)], [.row .ver x1 false]⟩ := by
  intro n
  induction n with
  | zero => intro _ _ h; exact none_e h
  | succ n ih =>
    intro i111 i112 h
    rw [spec_asOf_L1] at h
    refine WL_round ?_
    refine W_seq ?_
    refine W_seq ?_
    refine W_region ?_
    refine WO_step 4 [0] [0, 1, 2, 7, 8, 12] (True ∧ (True ∧ True)) ⟨[(0, .one (.e (.sl 0 0 x1.length))), (1, I i2), (2, I i3), (7, I i111), (8, I i112), (12, B (decide (i112 < ((x1.length : Nat) : Int))))], [.row .ver x1 false]⟩ (by kernel_rfl) ⟨trivial, trivial, trivial⟩ ?_
    refine WO_nil rfl ?_
    refine thenS_n ?_
    refine iteO_e h (fun hb140 h => W_true rfl hb140 ?_) (fun hb140 h => W_false rfl hb140 ?_)
    · refine W_sub [0] [0, 1, 2, 7, 8] (st' := ⟨[(0, .one (.e (.sl 0 0 x1.length))), (1, I i2), (2, I i3), (7, I i111), (8, I i112)], [.row .ver x1 false]⟩) (by kernel_rfl) ?_
      refine W_skip ?_
      refine thenS_n ?_
      refine W_seq ?_
      refine W_block ?_
      refine W_seq ?_
      refine W_region ?_
      refine guardO_e h (fun hg151 h => ?_)
      refine WO_step 8 [0] [0, 1, 2, 7, 8, 22] ((0 ≤ i112 ∧ i112 < ((x1.length : Nat) : Int)) ∧ (True ∧ (True ∧ True))) ⟨[(0, .one (.e (.sl 0 0 x1.length))), (1, I i2), (2, I i3), (7, I i111), (8, I i112), (22, B (decide (((x1.getD i112.toNat dver).node) = i2)))], [.row .ver x1 false]⟩ (by kernel_rfl) ⟨hg151, trivial, trivial, trivial⟩ ?_
      refine bindO_e h (fun b154 hv155 h => ?_)
      refine WO_thru ⟨[(0, .one (.e (.sl 0 0 x1.length))), (1, I i2), (2, I i3), (7, I i111), (8, I i112), (30, B b154)], [.row .ver x1 false]⟩ ?_ ?_
      · refine iteO_e hv155 (fun hb156 hv155 => WO_known 22 true rfl hb156 ?_) (fun hb156 hv155 => WO_known 22 false rfl hb156 ?_)
        · refine guardO_e hv155 (fun hg157 hv155 => ?_)
          refine WO_step 8 [0] [0, 1, 2, 7, 8, 30] ((0 ≤ i112 ∧ i112 < ((x1.length : Nat) : Int)) ∧ (True ∧ (True ∧ True))) ⟨[(0, .one (.e (.sl 0 0 x1.length))), (1, I i2), (2, I i3), (7, I i111), (8, I i112), (30, B (decide (((x1.getD i112.toNat dver).tm) ≤ i3)))], [.row .ver x1 false]⟩ (by kernel_rfl) ⟨hg157, trivial, trivial, trivial⟩ ?_
          cases hv155
          exact WO_nil rfl ⟨rfl, rfl⟩
        · refine WO_step 8 [0] [0, 1, 2, 7, 8, 30] True ⟨[(0, .one (.e (.sl 0 0 x1.length))), (1, I i2), (2, I i3), (7, I i111), (8, I i112), (30, B false)], [.row .ver x1 false]⟩ (by kernel_rfl) trivial ?_
          cases hv155
          exact WO_nil rfl ⟨rfl, rfl⟩
      · refine thenS_n ?_
        refine bindO_e h (fun i159 hi159 h => ?_)
        refine W_cut (Q' := fun (e : Exit) (s : St) => e = .normal ∧ s = ⟨[(0, .one (.e (.sl 0 0 x1.length))), (1, I i2), (2, I i3), (7, I i159), (8, I i112)], [.row .ver x1 false]⟩) ?_ ?_
        · refine iteO_e hi159 (fun hb161 hi159 => W_true rfl hb161 ?_) (fun hb161 hi159 => W_false rfl hb161 ?_)
          · refine W_region ?_
            refine WO_step 2 [0] [0, 1, 2, 7, 8] True ⟨[(0, .one (.e (.sl 0 0 x1.length))), (1, I i2), (2, I i3), (7, I i112), (8, I i112)], [.row .ver x1 false]⟩ (by kernel_rfl) trivial ?_
            refine WO_nil rfl ?_
            cases hi159
            exact And.intro rfl rfl
          · refine W_sub [0] [0, 1, 2, 7, 8] (st' := ⟨[(0, .one (.e (.sl 0 0 x1.length))), (1, I i2), (2, I i3), (7, I i111), (8, I i112)], [.row .ver x1 false]⟩) (by kernel_rfl) ?_
            refine W_skip ?_
            cases hi159
            exact And.intro rfl rfl
        · rintro _ _ ⟨rfl, rfl⟩
          refine blockS_n ?_
          refine thenS_n ?_
          refine W_region ?_
          refine WO_step 3 [0] [0, 1, 2, 7, 8] (True ∧ True) ⟨[(0, .one (.e (.sl 0 0 x1.length))), (1, I i2), (2, I i3), (7, I i159), (8, I (w64 (i112 + 1)))], [.row .ver x1 false]⟩ (by kernel_rfl) ⟨trivial, trivial⟩ ?_
          refine WO_nil rfl ?_
          refine thenS_n ?_
          exact ih _ _ h
    · refine W_sub [0] [7] (st' := ⟨[(7, I i111)], [.row .ver x1 false]⟩) (by kernel_rfl) ?_
      refine W_exit ?_
      refine thenS_e ?_
      refine thenS_e ?_
      cases h
      exact And.intro rfl rfl

def spec_asOf (n : Nat) (x1 : List Ver) (i2 : Int) (i3 : Int) : Option (Int) :=
 bindO (spec_asOf_L1 x1 i2 i3 n (-1) 0) fun i137 =>
 some i137

theorem spec_asOf_ok (n : Nat) (x1 : List Ver) (i2 : Int) (i3 : Int) (i82 : Int) (h : spec_asOf n x1 i2 i3 = some i82) : FOk EE 41 [.one (.e (.sl 0 0 x1.length)), I i2, I i3] [.row .ver x1 false] (I i82) [.row .ver x1 false] := by
  unfold spec_asOf at h
  refine FOk_of_W 33 1 Try.func41 rfl rfl (Nat.le_of_ble_eq_true rfl) rfl (fun w X θ => ?_)
  refine W_seq ?_
  refine W_region ?_
  refine WO_step 1 [0] [0, 1, 2] True ⟨[(0, .one (.e (.sl 0 0 x1.length))), (1, I i2), (2, I i3)], [.row .ver x1 false]⟩ (by kernel_rfl) trivial ?_
  refine WO_nil rfl ?_
  refine thenS_n ?_
  refine W_seq ?_
  refine W_region ?_
  refine WO_step 1 [0] [0, 1, 2, 7] True ⟨[(0, .one (.e (.sl 0 0 x1.length))), (1, I i2), (2, I i3), (7, I (-1))], [.row .ver x1 false]⟩ (by kernel_rfl) trivial ?_
  refine WO_nil rfl ?_
  refine thenS_n ?_
  refine W_seq ?_
  refine W_seq ?_
  refine W_region ?_
  refine WO_step 1 [0] [0, 1, 2, 7, 8] True ⟨[(0, .one (.e (.sl 0 0 x1.length))), (1, I i2), (2, I i3), (7, I (-1)), (8, I 0)], [.row .ver x1 false]⟩ (by kernel_rfl) trivial ?_
  refine WO_nil rfl ?_
  refine thenS_n ?_
  refine W_block ?_
  refine W_loop ?_
  refine bindO_e h (fun i137 hi137 h => ?_)
  refine WL_cut (spec_asOf_L1_ok w X θ x1 i2 i3 i137 n (-1) 0 hi137) ?_
  rintro _ _ ⟨rfl, rfl⟩
  refine blockS_y ?_
  refine thenS_n ?_
  refine W_seq ?_
  refine W_region ?_
  refine WO_step 2 [0] [6] True ⟨[(6, I i137)], [.row .ver x1 false]⟩ (by kernel_rfl) trivial ?_
  refine WO_nil rfl ?_
  refine thenS_n ?_
  refine W_ret ?_
  cases h
  exact ⟨[0], True, by kernel_rfl, trivial⟩

/- spec.ReadAsOf -/
def spec_ReadAsOf (n : Nat) (x1 : List Ver) (i2 : Int) (i3 : Int) : Option (Int × Bool) :=
 bindO (spec_validVersions n x1) fun b15 =>
 iteO (!b15)
 (some (0, false))
 (bindO (spec_asOf n x1 i2 i3) fun i19 =>
 iteO (decide (i19 < 0))
 (some (0, false))
 (guardO (0 ≤ i19 ∧ i19 < ((x1.length : Nat) : Int)) <|
 some ((x1.getD i19.toNat dver).value, true)))

theorem spec_ReadAsOf_ok (n : Nat) (x1 : List Ver) (i2 : Int) (i3 : Int) (i13 : Int) (b14 : Bool) (h : spec_ReadAsOf n x1 i2 i3 = some (i13, b14)) : FOk EE 23 [.one (.e (.sl 0 0 x1.length)), I i2, I i3] [.row .ver x1 false] (.tup [.e (cI i13), .e (cB b14)]) [.row .ver x1 false] := by
  unfold spec_ReadAsOf at h
  refine FOk_of_W 23 1 Try.func23 rfl rfl (Nat.le_of_ble_eq_true rfl) rfl (fun w X θ => ?_)
  refine W_seq ?_
  refine W_region ?_
  refine WO_step 2 [0] [0, 1, 2] True ⟨[(0, .one (.e (.sl 0 0 x1.length))), (1, I i2), (2, I i3)], [.row .ver x1 false]⟩ (by kernel_rfl) trivial ?_
  refine WO_nil rfl ?_
  refine thenS_n ?_
  refine W_seq ?_
  refine W_seq ?_
  refine W_region ?_
  refine WO_step 1 [0] [0, 1, 2, 9] True ⟨[(0, .one (.e (.sl 0 0 x1.length))), (1, I i2), (2, I i3), (9, .one (.e (.sl 0 0 x1.length)))], [.row .ver x1 false]⟩ (by kernel_rfl) trivial ?_
  refine bindO_e h (fun b15 hc16 h => ?_)
  refine WO_call [.ro 0] Try.f36 rfl rfl rfl (by kernel_rfl) rfl rfl (by kernel_rfl) (spec_validVersions_ok n x1 b15 hc16) (And.intro (And.intro rfl rfl) (trivial)) rfl ?_
  refine WO_step 1 [0] [0, 1, 2, 11] True ⟨[(0, .one (.e (.sl 0 0 x1.length))), (1, I i2), (2, I i3), (11, B (!b15))], [.row .ver x1 false]⟩ (by kernel_rfl) trivial ?_
  refine WO_nil rfl ?_
  refine thenS_n ?_
  refine iteO_e h (fun hb18 h => W_true rfl hb18 ?_) (fun hb18 h => W_false rfl hb18 ?_)
  · refine W_seq ?_
    refine W_region ?_
    refine WO_step 2 [0] [6, 7] True ⟨[(6, I 0), (7, B false)], [.row .ver x1 false]⟩ (by kernel_rfl) trivial ?_
    refine WO_nil rfl ?_
    refine thenS_n ?_
    refine W_ret ?_
    refine thenS_r ?_
    cases h
    exact ⟨[0], True, by kernel_rfl, trivial⟩
  · refine W_sub [0] [0, 1, 2] (st' := ⟨[(0, .one (.e (.sl 0 0 x1.length))), (1, I i2), (2, I i3)], [.row .ver x1 false]⟩) (by kernel_rfl) ?_
    refine W_skip ?_
    refine thenS_n ?_
    refine W_seq ?_
    refine W_region ?_
    refine WO_step 3 [0] [0, 12, 13, 14] True ⟨[(0, .one (.e (.sl 0 0 x1.length))), (12, .one (.e (.sl 0 0 x1.length))), (13, I i2), (14, I i3)], [.row .ver x1 false]⟩ (by kernel_rfl) trivial ?_
    refine bindO_e h (fun i19 hc20 h => ?_)
    refine WO_call [.ro 0] Try.f41 rfl rfl rfl (by kernel_rfl) rfl rfl (by kernel_rfl) (spec_asOf_ok n x1 i2 i3 i19 hc20) (And.intro (And.intro rfl rfl) (trivial)) rfl ?_
    refine WO_step 1 [0] [0, 8] True ⟨[(0, .one (.e (.sl 0 0 x1.length))), (8, I i19)], [.row .ver x1 false]⟩ (by kernel_rfl) trivial ?_
    refine WO_nil rfl ?_
    refine thenS_n ?_
    refine W_seq ?_
    refine W_seq ?_
    refine W_region ?_
    refine WO_step 2 [0] [0, 8, 17] (True ∧ True) ⟨[(0, .one (.e (.sl 0 0 x1.length))), (8, I i19), (17, B (decide (i19 < 0)))], [.row .ver x1 false]⟩ (by kernel_rfl) ⟨trivial, trivial⟩ ?_
    refine WO_nil rfl ?_
    refine thenS_n ?_
    refine iteO_e h (fun hb22 h => W_true rfl hb22 ?_) (fun hb22 h => W_false rfl hb22 ?_)
    · refine W_seq ?_
      refine W_region ?_
      refine WO_step 2 [0] [6, 7] True ⟨[(6, I 0), (7, B false)], [.row .ver x1 false]⟩ (by kernel_rfl) trivial ?_
      refine WO_nil rfl ?_
      refine thenS_n ?_
      refine W_ret ?_
      refine thenS_r ?_
      cases h
      exact ⟨[0], True, by kernel_rfl, trivial⟩
    · refine W_sub [0] [0, 8] (st' := ⟨[(0, .one (.e (.sl 0 0 x1.length))), (8, I i19)], [.row .ver x1 false]⟩) (by kernel_rfl) ?_
      refine W_skip ?_
      refine thenS_n ?_
      refine W_seq ?_
      refine W_region ?_
      refine guardO_e h (fun hg23 h => ?_)
      refine WO_step 7 [0] [6, 7] ((0 ≤ i19 ∧ i19 < ((x1.length : Nat) : Int)) ∧ (True ∧ True)) ⟨[(6, I ((x1.getD i19.toNat dver).value)), (7, B true)], [.row .ver x1 false]⟩ (by kernel_rfl) ⟨hg23, trivial, trivial⟩ ?_
      refine WO_nil rfl ?_
      refine thenS_n ?_
      refine W_ret ?_
      cases h
      exact ⟨[0], True, by kernel_rfl, trivial⟩

/- impl.ReadAsOf -/
def impl_ReadAsOf_L1 (x1 : List Ver) (i2 : Int) (i3 : Int) : Nat → Int → Option ((Int) ⊕ (Unit))
| 0, _ => none
| n + 1, i122 =>
 iteO (decide (0 ≤ i122))
 (guardO (0 ≤ i122 ∧ i122 < ((x1.length : Nat) : Int)) <|
 bindO (iteO (decide (((x1.getD i122.toNat dver).node) = i2))
 (guardO (0 ≤ i122 ∧ i122 < ((x1.length : Nat) : Int)) <|
 some (decide (((x1.getD i122.toNat dver).tm) ≤ i3)))
 (some false)) fun b166 =>
 iteO b166
 (guardO (0 ≤ i122 ∧ i122 < ((x1.length : Nat) : Int)) <|
 some (.inl ((x1.getD i122.toNat dver).value)))
 (impl_ReadAsOf_L1 x1 i2 i3 n (w64 (i122 - 1))))
 (some (.inr ()))

theorem impl_ReadAsOf_L1_ok (w : World) (X : Nat → Prop) (θ : List Loc) (x1 : List Ver) (i2 : Int) (i3 : Int) (v : (Int) ⊕ (Unit)) : ∀ (n : Nat) (i122 : Int), impl_ReadAsOf_L1 x1 i2 i3 n i122 = some v → WL EE ⟨w, X, θ, 40, 1⟩ (subC [1, 1, 0, 1, 4, 4] (bodyC Try.f24)) (fun (e : Exit) (s : St) => (match v with | (.inl i148) => e = .ret ∧ s = ⟨[(6, I i148), (7, B true)], [.row .ver x1 false]⟩ | (.inr _) => e = .exit 0 ∧ s = ⟨[], [.row .ver x1 false]⟩ : Prop)) ⟨[(0, .one (.e (.sl 0 0 x1.length))), (1, I i2), (2, I i3), (8, I i122)], [.row .ver x1 false]⟩ := by
  intro n
  induction n with
  | zero => intro _ h; exact none_e h
  | succ n ih =>
    intro i122 h
    rw [impl_ReadAsOf_L1] at h
    refine WL_round ?_
    refine W_seq ?_
    refine W_seq ?_
    refine W_region ?_
    refine WO_step 2 [0] [0, 1, 2, 8, 16] (True ∧ True) ⟨[(0, .one (.e (.sl 0 0 x1.length))), (1, I i2), (2, I i3), (8, I i122), (16, B (decide (0 ≤ i122)))], [.row .ver x1 false]⟩ (by kernel_rfl) ⟨trivial, trivial⟩ ?_
    refine WO_nil rfl ?_
    refine thenS_n ?_
    refine iteO_e h (fun hb151 h => W_true rfl hb151 ?_) (fun hb151 h => W_false rfl hb151 ?_)
    · refine W_sub [0] [0, 1, 2, 8] (st' := ⟨[(0, .one (.e (.sl 0 0 x1.length))), (1, I i2), (2, I i3), (8, I i122)], [.row .ver x1 false]⟩) (by kernel_rfl) ?_
      refine W_skip ?_
      refine thenS_n ?_
      refine W_seq ?_
      refine W_block ?_
      refine W_seq ?_
      refine W_region ?_
      refine guardO_e h (fun hg163 h => ?_)
      refine WO_step 8 [0] [0, 1, 2, 8, 26] ((0 ≤ i122 ∧ i122 < ((x1.length : Nat) : Int)) ∧ (True ∧ (True ∧ True))) ⟨[(0, .one (.e (.sl 0 0 x1.length))), (1, I i2), (2, I i3), (8, I i122), (26, B (decide (((x1.getD i122.toNat dver).node) = i2)))], [.row .ver x1 false]⟩ (by kernel_rfl) ⟨hg163, trivial, trivial, trivial⟩ ?_
      refine bindO_e h (fun b166 hv167 h => ?_)
      refine WO_thru ⟨[(0, .one (.e (.sl 0 0 x1.length))), (1, I i2), (2, I i3), (8, I i122), (34, B b166)], [.row .ver x1 false]⟩ ?_ ?_
      · refine iteO_e hv167 (fun hb168 hv167 => WO_known 26 true rfl hb168 ?_) (fun hb168 hv167 => WO_known 26 false rfl hb168 ?_)
        · refine guardO_e hv167 (fun hg169 hv167 => ?_)
          refine WO_step 8 [0] [0, 1, 2, 8, 34] ((0 ≤ i122 ∧ i122 < ((x1.length : Nat) : Int)) ∧ (True ∧ (True ∧ True))) ⟨[(0, .one (.e (.sl 0 0 x1.length))), (1, I i2), (2, I i3), (8, I i122), (34, B (decide (((x1.getD i122.toNat dver).tm) ≤ i3)))], [.row .ver x1 false]⟩ (by kernel_rfl) ⟨hg169, trivial, trivial, trivial⟩ ?_
          cases hv167
          exact WO_nil rfl ⟨rfl, rfl⟩
        · refine WO_step 8 [0] [0, 1, 2, 8, 34] True ⟨[(0, .one (.e (.sl 0 0 x1.length))), (1, I i2), (2, I i3), (8, I i122), (34, B false)], [.row .ver x1 false]⟩ (by kernel_rfl) trivial ?_
          cases hv167
          exact WO_nil rfl ⟨rfl, rfl⟩
      · refine thenS_n ?_
        refine iteO_e h (fun hb172 h => W_true rfl hb172 ?_) (fun hb172 h => W_false rfl hb172 ?_)
        · refine W_seq ?_
          refine W_region ?_
          refine guardO_e h (fun hg173 h => ?_)
          refine WO_step 7 [0] [6, 7] ((0 ≤ i122 ∧ i122 < ((x1.length : Nat) : Int)) ∧ (True ∧ True)) ⟨[(6, I ((x1.getD i122.toNat dver).value)), (7, B true)], [.row .ver x1 false]⟩ (by kernel_rfl) ⟨hg173, trivial, trivial⟩ ?_
          refine WO_nil rfl ?_
          refine thenS_n ?_
          refine W_ret ?_
          refine blockS_r ?_
          refine thenS_r ?_
          refine thenS_r ?_
          cases h
          exact And.intro rfl rfl
        · refine W_sub [0] [0, 1, 2, 8] (st' := ⟨[(0, .one (.e (.sl 0 0 x1.length))), (1, I i2), (2, I i3), (8, I i122)], [.row .ver x1 false]⟩) (by kernel_rfl) ?_
          refine W_skip ?_
          refine blockS_n ?_
          refine thenS_n ?_
          refine W_region ?_
          refine WO_step 3 [0] [0, 1, 2, 8] (True ∧ True) ⟨[(0, .one (.e (.sl 0 0 x1.length))), (1, I i2), (2, I i3), (8, I (w64 (i122 - 1)))], [.row .ver x1 false]⟩ (by kernel_rfl) ⟨trivial, trivial⟩ ?_
          refine WO_nil rfl ?_
          refine thenS_n ?_
          exact ih _ h
    · refine W_sub [0] [] (st' := ⟨[], [.row .ver x1 false]⟩) (by kernel_rfl) ?_
      refine W_exit ?_
      refine thenS_e ?_
      refine thenS_e ?_
      cases h
      exact And.intro rfl rfl

def impl_ReadAsOf (n : Nat) (x1 : List Ver) (i2 : Int) (i3 : Int) : Option (Int × Bool) :=
 bindO (impl_ValidVersions n x1) fun b90 =>
 iteO (!b90)
 (some (0, false))
 (bindO (impl_ReadAsOf_L1 x1 i2 i3 n (w64 (((x1.length : Nat) : Int) - 1))) fun v174 =>
 match v174 with
 | (.inl i148) => (some (i148, true))
 | (.inr _) => (some (0, false))
)

theorem impl_ReadAsOf_ok (n : Nat) (x1 : List Ver) (i2 : Int) (i3 : Int) (i88 : Int) (b89 : Bool) (h : impl_ReadAsOf n x1 i2 i3 = some (i88, b89)) : FOk EE 24 [.one (.e (.sl 0 0 x1.length)), I i2, I i3] [.row .ver x1 false] (.tup [.e (cI i88), .e (cB b89)]) [.row .ver x1 false] := by
  unfold impl_ReadAsOf at h
  refine FOk_of_W 40 1 Try.func24 rfl rfl (Nat.le_of_ble_eq_true rfl) rfl (fun w X θ => ?_)
  refine W_seq ?_
  refine W_region ?_
  refine WO_step 2 [0] [0, 1, 2] True ⟨[(0, .one (.e (.sl 0 0 x1.length))), (1, I i2), (2, I i3)], [.row .ver x1 false]⟩ (by kernel_rfl) trivial ?_
  refine WO_nil rfl ?_
  refine thenS_n ?_
  refine W_seq ?_
  refine W_seq ?_
  refine W_region ?_
  refine WO_step 1 [0] [0, 1, 2, 9] True ⟨[(0, .one (.e (.sl 0 0 x1.length))), (1, I i2), (2, I i3), (9, .one (.e (.sl 0 0 x1.length)))], [.row .ver x1 false]⟩ (by kernel_rfl) trivial ?_
  refine bindO_e h (fun b90 hc91 h => ?_)
  refine WO_call [.ro 0] Try.f20 rfl rfl rfl (by kernel_rfl) rfl rfl (by kernel_rfl) (impl_ValidVersions_ok n x1 b90 hc91) (And.intro (And.intro rfl rfl) (trivial)) rfl ?_
  refine WO_step 1 [0] [0, 1, 2, 11] True ⟨[(0, .one (.e (.sl 0 0 x1.length))), (1, I i2), (2, I i3), (11, B (!b90))], [.row .ver x1 false]⟩ (by kernel_rfl) trivial ?_
  refine WO_nil rfl ?_
  refine thenS_n ?_
  refine iteO_e h (fun hb93 h => W_true rfl hb93 ?_) (fun hb93 h => W_false rfl hb93 ?_)
  · refine W_seq ?_
    refine W_region ?_
    refine WO_step 2 [0] [6, 7] True ⟨[(6, I 0), (7, B false)], [.row .ver x1 false]⟩ (by kernel_rfl) trivial ?_
    refine WO_nil rfl ?_
    refine thenS_n ?_
    refine W_ret ?_
    refine thenS_r ?_
    cases h
    exact ⟨[0], True, by kernel_rfl, trivial⟩
  · refine W_sub [0] [0, 1, 2] (st' := ⟨[(0, .one (.e (.sl 0 0 x1.length))), (1, I i2), (2, I i3)], [.row .ver x1 false]⟩) (by kernel_rfl) ?_
    refine W_skip ?_
    refine thenS_n ?_
    refine W_seq ?_
    refine W_seq ?_
    refine W_region ?_
    refine WO_step 4 [0] [0, 1, 2, 8] (True ∧ (True ∧ True)) ⟨[(0, .one (.e (.sl 0 0 x1.length))), (1, I i2), (2, I i3), (8, I (w64 (((x1.length : Nat) : Int) - 1)))], [.row .ver x1 false]⟩ (by kernel_rfl) ⟨trivial, trivial, trivial⟩ ?_
    refine WO_nil rfl ?_
    refine thenS_n ?_
    refine W_block ?_
    refine W_loop ?_
    refine bindO_e h (fun v174 hv174 h => ?_)
    refine WL_cut (impl_ReadAsOf_L1_ok w X θ x1 i2 i3 v174 n (w64 (((x1.length : Nat) : Int) - 1)) hv174) ?_
    rcases v174 with i148 | _
    · rintro _ _ ⟨rfl, rfl⟩
      refine blockS_r ?_
      refine thenS_r ?_
      cases h
      exact ⟨[0], True, by kernel_rfl, trivial⟩
    · rintro _ _ ⟨rfl, rfl⟩
      refine blockS_y ?_
      refine thenS_n ?_
      refine W_seq ?_
      refine W_region ?_
      refine WO_step 2 [0] [6, 7] True ⟨[(6, I 0), (7, B false)], [.row .ver x1 false]⟩ (by kernel_rfl) trivial ?_
      refine WO_nil rfl ?_
      refine thenS_n ?_
      refine W_ret ?_
      cases h
      exact ⟨[0], True, by kernel_rfl, trivial⟩

/- laws.FnExactReadAsOf -/
def laws_FnExactReadAsOf (n : Nat) (x1 : List Ver) (i2 : Int) (i3 : Int) : Option (Bool) :=
 bindO (laws_szVersionS x1 1048576) fun i32 =>
 iteO (decide (i32 < 0))
 (some true)
 (bindO (laws_toVersionS n x1) fun x36 =>
 bindO (spec_ReadAsOf n x36 i2 i3) fun (i38, b39) =>
 bindO (laws_toVersionS n x1) fun x41 =>
 bindO (impl_ReadAsOf n x41 i2 i3) fun (i43, b44) =>
 iteO ((!decide (i43 = i38)) || (!(b44 == b39)))
 (some false)
 (bindO (laws_toVersionS n x1) fun x51 =>
 bindO (laws_eqVersionS n x41 x51) fun b53 =>
 iteO (!b53)
 (some false)
 (some true)))

theorem laws_FnExactReadAsOf_ok (n : Nat) (x1 : List Ver) (i2 : Int) (i3 : Int) (b31 : Bool) (h : laws_FnExactReadAsOf n x1 i2 i3 = some b31) : FOk EE 6 [.one (.e (.sl 0 0 x1.length)), I i2, I i3] [.row .ver x1 false] (B b31) [.row .ver x1 false] := by
  unfold laws_FnExactReadAsOf at h
  refine FOk_of_W 48 1 Try.func6 rfl rfl (Nat.le_of_ble_eq_true rfl) rfl (fun w X θ => ?_)
  refine W_seq ?_
  refine W_region ?_
  refine WO_step 1 [0] [0, 1, 2] True ⟨[(0, .one (.e (.sl 0 0 x1.length))), (1, I i2), (2, I i3)], [.row .ver x1 false]⟩ (by kernel_rfl) trivial ?_
  refine WO_nil rfl ?_
  refine thenS_n ?_
  refine W_seq ?_
  refine W_region ?_
  refine WO_step 1 [0] [0, 1, 2, 7] True ⟨[(0, .one (.e (.sl 0 0 x1.length))), (1, I i2), (2, I i3), (7, I 1048576)], [.row .ver x1 false]⟩ (by kernel_rfl) trivial ?_
  refine WO_nil rfl ?_
  refine thenS_n ?_
  refine W_seq ?_
  refine W_region ?_
  refine WO_step 2 [0] [0, 1, 2, 13, 14] True ⟨[(0, .one (.e (.sl 0 0 x1.length))), (1, I i2), (2, I i3), (13, .one (.e (.sl 0 0 x1.length))), (14, I 1048576)], [.row .ver x1 false]⟩ (by kernel_rfl) trivial ?_
  refine bindO_e h (fun i32 hc33 h => ?_)
  refine WO_call [.ro 0] Try.f17 rfl rfl rfl (by kernel_rfl) rfl rfl (by kernel_rfl) (laws_szVersionS_ok x1 1048576 i32 hc33) (And.intro (And.intro rfl rfl) (trivial)) rfl ?_
  refine WO_step 1 [0] [0, 1, 2, 7] True ⟨[(0, .one (.e (.sl 0 0 x1.length))), (1, I i2), (2, I i3), (7, I i32)], [.row .ver x1 false]⟩ (by kernel_rfl) trivial ?_
  refine WO_nil rfl ?_
  refine thenS_n ?_
  refine W_seq ?_
  refine W_seq ?_
  refine W_region ?_
  refine WO_step 2 [0] [0, 1, 2, 17] (True ∧ True) ⟨[(0, .one (.e (.sl 0 0 x1.length))), (1, I i2), (2, I i3), (17, B (decide (i32 < 0)))], [.row .ver x1 false]⟩ (by kernel_rfl) ⟨trivial, trivial⟩ ?_
  refine WO_nil rfl ?_
  refine thenS_n ?_
  refine iteO_e h (fun hb35 h => W_true rfl hb35 ?_) (fun hb35 h => W_false rfl hb35 ?_)
  · refine W_seq ?_
    refine W_region ?_
    refine WO_step 1 [0] [6] True ⟨[(6, B true)], [.row .ver x1 false]⟩ (by kernel_rfl) trivial ?_
    refine WO_nil rfl ?_
    refine thenS_n ?_
    refine W_ret ?_
    refine thenS_r ?_
    cases h
    exact ⟨[0], True, by kernel_rfl, trivial⟩
  · refine W_sub [0] [0, 1, 2] (st' := ⟨[(0, .one (.e (.sl 0 0 x1.length))), (1, I i2), (2, I i3)], [.row .ver x1 false]⟩) (by kernel_rfl) ?_
    refine W_skip ?_
    refine thenS_n ?_
    refine W_seq ?_
    refine W_region ?_
    refine WO_step 1 [0] [0, 1, 2, 19] True ⟨[(0, .one (.e (.sl 0 0 x1.length))), (1, I i2), (2, I i3), (19, .one (.e (.sl 0 0 x1.length)))], [.row .ver x1 false]⟩ (by kernel_rfl) trivial ?_
    refine bindO_e h (fun x36 hc37 h => ?_)
    refine WO_call [.ro 0] Try.f19 rfl rfl rfl (by kernel_rfl) rfl rfl (by kernel_rfl) (laws_toVersionS_ok n x1 x36 hc37) (And.intro (And.intro rfl rfl) (trivial)) rfl ?_
    refine WO_step 2 [0, 1] [0, 1, 2, 20, 21, 22] True ⟨[(0, .one (.e (.sl 0 0 x1.length))), (1, I i2), (2, I i3), (20, .one (.e (.sl 1 0 x36.length))), (21, I i2), (22, I i3)], [.row .ver x1 false, .row .ver x36 true]⟩ (by kernel_rfl) trivial ?_
    refine bindO_e h (fun v58 hc40 h => ?_)
    obtain ⟨i38, b39⟩ := v58
    refine WO_call [.ro 1] Try.f23 rfl rfl rfl (by kernel_rfl) rfl rfl (by kernel_rfl) (spec_ReadAsOf_ok n x36 i2 i3 i38 b39 hc40) (And.intro (And.intro rfl rfl) (trivial)) rfl ?_
    refine WO_step 5 [0] [0, 1, 2, 8, 9] True ⟨[(0, .one (.e (.sl 0 0 x1.length))), (1, I i2), (2, I i3), (8, I i38), (9, B b39)], [.row .ver x1 false]⟩ (by kernel_rfl) trivial ?_
    refine WO_nil rfl ?_
    refine thenS_n ?_
    refine W_seq ?_
    refine W_region ?_
    refine WO_step 1 [0] [0, 1, 2, 8, 9, 26] True ⟨[(0, .one (.e (.sl 0 0 x1.length))), (1, I i2), (2, I i3), (8, I i38), (9, B b39), (26, .one (.e (.sl 0 0 x1.length)))], [.row .ver x1 false]⟩ (by kernel_rfl) trivial ?_
    refine bindO_e h (fun x41 hc42 h => ?_)
    refine WO_call [.ro 0] Try.f19 rfl rfl rfl (by kernel_rfl) rfl rfl (by kernel_rfl) (laws_toVersionS_ok n x1 x41 hc42) (And.intro (And.intro rfl rfl) (trivial)) rfl ?_
    refine WO_step 1 [0, 1] [0, 1, 2, 8, 9, 10] True ⟨[(0, .one (.e (.sl 0 0 x1.length))), (1, I i2), (2, I i3), (8, I i38), (9, B b39), (10, .one (.e (.sl 1 0 x41.length)))], [.row .ver x1 false, .row .ver x41 true]⟩ (by kernel_rfl) trivial ?_
    refine WO_nil rfl ?_
    refine thenS_n ?_
    refine W_seq ?_
    refine W_region ?_
    refine WO_step 3 [0, 1] [0, 8, 9, 10, 29, 30, 31] True ⟨[(0, .one (.e (.sl 0 0 x1.length))), (8, I i38), (9, B b39), (10, .one (.e (.sl 1 0 x41.length))), (29, .one (.e (.sl 1 0 x41.length))), (30, I i2), (31, I i3)], [.row .ver x1 false, .row .ver x41 true]⟩ (by kernel_rfl) trivial ?_
    refine bindO_e h (fun v57 hc45 h => ?_)
    obtain ⟨i43, b44⟩ := v57
    refine WO_call [.ro 1] Try.f24 rfl rfl rfl (by kernel_rfl) rfl rfl (by kernel_rfl) (impl_ReadAsOf_ok n x41 i2 i3 i43 b44 hc45) (And.intro (And.intro rfl rfl) (trivial)) rfl ?_
    refine WO_step 5 [0, 1] [0, 8, 9, 10, 11, 12] True ⟨[(0, .one (.e (.sl 0 0 x1.length))), (8, I i38), (9, B b39), (10, .one (.e (.sl 1 0 x41.length))), (11, I i43), (12, B b44)], [.row .ver x1 false, .row .ver x41 true]⟩ (by kernel_rfl) trivial ?_
    refine WO_nil rfl ?_
    refine thenS_n ?_
    refine W_seq ?_
    refine W_seq ?_
    refine W_region ?_
    refine WO_step 4 [0, 1] [0, 9, 10, 12, 38] (True ∧ True) ⟨[(0, .one (.e (.sl 0 0 x1.length))), (9, B b39), (10, .one (.e (.sl 1 0 x41.length))), (12, B b44), (38, B (!decide (i43 = i38)))], [.row .ver x1 false, .row .ver x41 true]⟩ (by kernel_rfl) ⟨trivial, trivial⟩ ?_
    refine WO_thru ⟨[(0, .one (.e (.sl 0 0 x1.length))), (10, .one (.e (.sl 1 0 x41.length))), (42, B ((!decide (i43 = i38)) || (!(b44 == b39))))], [.row .ver x1 false, .row .ver x41 true]⟩ ?_ ?_
    · refine WO_if 38 rfl (fun hb48 => ?_) (fun hb48 => ?_)
      · refine WO_step 4 [0, 1] [0, 10, 42] True ⟨[(0, .one (.e (.sl 0 0 x1.length))), (10, .one (.e (.sl 1 0 x41.length))), (42, B true)], [.row .ver x1 false, .row .ver x41 true]⟩ (by kernel_rfl) trivial ?_
        exact WO_nil rfl ⟨rfl, by first | rfl | (rw [hb48]; first | done | rfl)⟩
      · refine WO_step 4 [0, 1] [0, 10, 42] (True ∧ True) ⟨[(0, .one (.e (.sl 0 0 x1.length))), (10, .one (.e (.sl 1 0 x41.length))), (42, B (!(b44 == b39)))], [.row .ver x1 false, .row .ver x41 true]⟩ (by kernel_rfl) ⟨trivial, trivial⟩ ?_
        exact WO_nil rfl ⟨rfl, by first | rfl | (rw [hb48]; first | done | rfl)⟩
    · refine thenS_n ?_
      refine iteO_e h (fun hb50 h => W_true rfl hb50 ?_) (fun hb50 h => W_false rfl hb50 ?_)
      · refine W_seq ?_
        refine W_region ?_
        refine WO_step 1 [0] [6] True ⟨[(6, B false)], [.row .ver x1 false]⟩ (by kernel_rfl) trivial ?_
        refine WO_nil rfl ?_
        refine thenS_n ?_
        refine W_ret ?_
        refine thenS_r ?_
        cases h
        exact ⟨[0], True, by kernel_rfl, trivial⟩
      · refine W_sub [0, 1] [0, 10] (st' := ⟨[(0, .one (.e (.sl 0 0 x1.length))), (10, .one (.e (.sl 1 0 x41.length)))], [.row .ver x1 false, .row .ver x41 true]⟩) (by kernel_rfl) ?_
        refine W_skip ?_
        refine thenS_n ?_
        refine W_seq ?_
        refine W_seq ?_
        refine W_region ?_
        refine WO_step 2 [0, 1] [43, 44] True ⟨[(43, .one (.e (.sl 1 0 x41.length))), (44, .one (.e (.sl 0 0 x1.length)))], [.row .ver x1 false, .row .ver x41 true]⟩ (by kernel_rfl) trivial ?_
        refine bindO_e h (fun x51 hc52 h => ?_)
        refine WO_call [.ro 0] Try.f19 rfl rfl rfl (by kernel_rfl) rfl rfl (by kernel_rfl) (laws_toVersionS_ok n x1 x51 hc52) (And.intro (And.intro rfl rfl) (trivial)) rfl ?_
        refine WO_sub [0, 1, 2] [43, 45] (st' := ⟨[(43, .one (.e (.sl 1 0 x41.length))), (45, .one (.e (.sl 2 0 x51.length)))], [.row .ver x1 false, .row .ver x41 true, .row .ver x51 true]⟩) (by kernel_rfl) ?_
        refine bindO_e h (fun b53 hc54 h => ?_)
        refine WO_call [.ro 1, .ro 2] Try.f21 rfl rfl rfl (by kernel_rfl) rfl rfl (by kernel_rfl) (laws_eqVersionS_ok n x41 x51 b53 hc54) (And.intro (And.intro rfl rfl) (And.intro (And.intro rfl rfl) (trivial))) rfl ?_
        refine WO_step 1 [0] [47] True ⟨[(47, B (!b53))], [.row .ver x1 false]⟩ (by kernel_rfl) trivial ?_
        refine WO_nil rfl ?_
        refine thenS_n ?_
        refine iteO_e h (fun hb56 h => W_true rfl hb56 ?_) (fun hb56 h => W_false rfl hb56 ?_)
        · refine W_seq ?_
          refine W_region ?_
          refine WO_step 1 [0] [6] True ⟨[(6, B false)], [.row .ver x1 false]⟩ (by kernel_rfl) trivial ?_
          refine WO_nil rfl ?_
          refine thenS_n ?_
          refine W_ret ?_
          refine thenS_r ?_
          cases h
          exact ⟨[0], True, by kernel_rfl, trivial⟩
        · refine W_sub [0] [] (st' := ⟨[], [.row .ver x1 false]⟩) (by kernel_rfl) ?_
          refine W_skip ?_
          refine thenS_n ?_
          refine W_seq ?_
          refine W_region ?_
          refine WO_step 1 [0] [6] True ⟨[(6, B true)], [.row .ver x1 false]⟩ (by kernel_rfl) trivial ?_
          refine WO_nil rfl ?_
          refine thenS_n ?_
          refine W_ret ?_
          cases h
          exact ⟨[0], True, by kernel_rfl, trivial⟩

/- spec.DrawReadAsOf -/
def spec_DrawReadAsOf (n : Nat) (x1 : List Int) : Option ((List Ver) × Int × Int) :=
 bindO (spec_newReader x1) fun k19 =>
 bindO (spec_someVersions n x1 k19 0) fun (i21, x22) =>
 bindO (spec_reader_pick x1 k19 i21 5) fun i24 =>
 bindO (spec_reader_pick x1 k19 (w64 (i21 + 1)) 40) fun i26 =>
 bindO (spec_reader_one x1 k19 (w64 ((w64 (i21 + 1)) + 1)) [0, 5, 10, 20, 100, 200, (-1), i26]) fun (i28, i29) =>
 some (x22, i24, i29)

theorem spec_DrawReadAsOf_ok (n : Nat) (x1 : List Int) (x16 : List Ver) (i17 : Int) (i18 : Int) (h : spec_DrawReadAsOf n x1 = some (x16, i17, i18)) : FOk EE 25 [.one (.e (.sl 0 0 x1.length))] [.row .u8 x1 false] (.tup [.e (.sl 1 0 x16.length), .e (cI i17), .e (cI i18)]) [.row .u8 x1 false, .row .ver x16 true] := by
  unfold spec_DrawReadAsOf at h
  refine FOk_of_W 21 1 Try.func25 rfl rfl (Nat.le_of_ble_eq_true rfl) rfl (fun w X θ => ?_)
  refine W_seq ?_
  refine W_region ?_
  refine WO_step 3 [0] [0] True ⟨[(0, .one (.e (.sl 0 0 x1.length)))], [.row .u8 x1 false]⟩ (by kernel_rfl) trivial ?_
  refine WO_nil rfl ?_
  refine thenS_n ?_
  refine W_seq ?_
  refine W_region ?_
  refine WO_step 1 [0] [8] True ⟨[(8, .one (.e (.sl 0 0 x1.length)))], [.row .u8 x1 false]⟩ (by kernel_rfl) trivial ?_
  refine bindO_e h (fun k19 hc20 h => ?_)
  refine WO_call [.ro 0] Try.f40 rfl rfl rfl (by kernel_rfl) rfl rfl (by kernel_rfl) (spec_newReader_ok x1 k19 hc20) (And.intro (And.intro rfl rfl) (trivial)) rfl ?_
  refine WO_step 1 [0, 1] [5] True ⟨[(5, .one (.e (.p 1 0)))], [.row .u8 x1 false, .cells [.sl 0 0 k19, cI 0]]⟩ (by kernel_rfl) trivial ?_
  refine WO_nil rfl ?_
  refine thenS_n ?_
  refine W_seq ?_
  refine W_region ?_
  refine WO_step 1 [0, 1] [5, 10] True ⟨[(5, .one (.e (.p 1 0))), (10, .one (.e (.p 1 0)))], [.row .u8 x1 false, .cells [.sl 0 0 k19, cI 0]]⟩ (by kernel_rfl) trivial ?_
  refine bindO_e h (fun v32 hc23 h => ?_)
  obtain ⟨i21, x22⟩ := v32
  refine WO_call [.own 1, .ro 0] Try.f39 rfl rfl rfl (by kernel_rfl) rfl rfl (by kernel_rfl) (spec_someVersions_ok n x1 k19 0 i21 x22 hc23) (And.intro (trivial) (And.intro (And.intro rfl rfl) (trivial))) rfl ?_
  refine WO_step 1 [0, 1, 2] [5, 6] True ⟨[(5, .one (.e (.p 1 0))), (6, .one (.e (.sl 2 0 x22.length)))], [.row .u8 x1 false, .cells [.sl 0 0 k19, cI i21], .row .ver x22 true]⟩ (by kernel_rfl) trivial ?_
  refine WO_nil rfl ?_
  refine thenS_n ?_
  refine W_seq ?_
  refine W_region ?_
  refine WO_step 1 [0, 1, 2] [5, 6, 12] True ⟨[(5, .one (.e (.p 1 0))), (6, .one (.e (.sl 2 0 x22.length))), (12, .one (.e (.p 1 0)))], [.row .u8 x1 false, .cells [.sl 0 0 k19, cI i21], .row .ver x22 true]⟩ (by kernel_rfl) trivial ?_
  refine bindO_e h (fun i24 hc25 h => ?_)
  refine WO_call [.own 1, .ro 0] Try.f42 rfl rfl rfl (by kernel_rfl) rfl rfl (by kernel_rfl) (spec_reader_pick_ok x1 k19 i21 5 i24 hc25) (And.intro (trivial) (And.intro (And.intro rfl rfl) (trivial))) rfl ?_
  refine WO_step 1 [0, 1, 2] [5, 6, 7] True ⟨[(5, .one (.e (.p 1 0))), (6, .one (.e (.sl 2 0 x22.length))), (7, I i24)], [.row .u8 x1 false, .cells [.sl 0 0 k19, cI (w64 (i21 + 1))], .row .ver x22 true]⟩ (by kernel_rfl) trivial ?_
  refine WO_nil rfl ?_
  refine thenS_n ?_
  refine W_seq ?_
  refine W_region ?_
  refine WO_step 4 [0, 2, 1] [14, 15, 16, 17] True ⟨[(14, .one (.e (.sl 1 0 x22.length))), (15, I i24), (16, .one (.e (.p 2 0))), (17, .one (.e (.p 2 0)))], [.row .u8 x1 false, .row .ver x22 true, .cells [.sl 0 0 k19, cI (w64 (i21 + 1))]]⟩ (by kernel_rfl) trivial ?_
  refine bindO_e h (fun i26 hc27 h => ?_)
  refine WO_call [.own 2, .ro 0] Try.f42 rfl rfl rfl (by kernel_rfl) rfl rfl (by kernel_rfl) (spec_reader_pick_ok x1 k19 (w64 (i21 + 1)) 40 i26 hc27) (And.intro (trivial) (And.intro (And.intro rfl rfl) (trivial))) rfl ?_
  refine WO_step 1 [0, 1, 2, 3] [14, 15, 16, 19] True ⟨[(14, .one (.e (.sl 1 0 x22.length))), (15, I i24), (16, .one (.e (.p 2 0))), (19, .one (.e (.sl 3 0 ([0, 5, 10, 20, 100, 200, (-1), i26].length))))], [.row .u8 x1 false, .row .ver x22 true, .cells [.sl 0 0 k19, cI (w64 ((w64 (i21 + 1)) + 1))], .row .int [0, 5, 10, 20, 100, 200, (-1), i26] true]⟩ (by kernel_rfl) trivial ?_
  refine bindO_e h (fun v31 hc30 h => ?_)
  obtain ⟨i28, i29⟩ := v31
  refine WO_call [.own 2, .ro 0, .ro 3] Try.f43 rfl rfl rfl (by kernel_rfl) rfl rfl (by kernel_rfl) (spec_reader_one_ok x1 k19 (w64 ((w64 (i21 + 1)) + 1)) [0, 5, 10, 20, 100, 200, (-1), i26] i28 i29 hc30) (And.intro (trivial) (And.intro (And.intro rfl rfl) (And.intro (And.intro rfl rfl) (trivial)))) rfl ?_
  refine WO_step 3 [0, 1] [2, 3, 4] True ⟨[(2, .one (.e (.sl 1 0 x22.length))), (3, I i24), (4, I i29)], [.row .u8 x1 false, .row .ver x22 true]⟩ (by kernel_rfl) trivial ?_
  refine WO_nil rfl ?_
  refine thenS_n ?_
  refine W_ret ?_
  cases h
  exact ⟨[0, 1], True, by kernel_rfl, trivial⟩

/- laws.FnReadAsOf -/
def laws_FnReadAsOf_L1 (x138 : List Ver) (i139 : Int) (x1 : List Int) : Nat → Int → Option ((Unit) ⊕ (Unit))
| 0, _ => none
| n + 1, i199 =>
 iteO (decide (i199 < ((x138.length : Nat) : Int)))
 (guardO (0 ≤ i199 ∧ i199 < ((x138.length : Nat) : Int)) <|
 guardO (0 ≤ i199 ∧ i199 < ((x138.length : Nat) : Int)) <|
 bindO (impl_ReadAsOf n x138 ((x138.getD i199.toNat dver).node) ((x138.getD i199.toNat dver).tm)) fun (i250, b251) =>
 bindO (iteO (!b251)
 (some true)
 (guardO (0 ≤ i199 ∧ i199 < ((x138.length : Nat) : Int)) <|
 some (!decide (i250 = ((x138.getD i199.toNat dver).value))))) fun b256 =>
 iteO b256
 (some (.inl ()))
 (laws_FnReadAsOf_L1 x138 i139 x1 n (w64 (i199 + 1))))
 (some (.inr ()))

theorem laws_FnReadAsOf_L1_ok (w : World) (X : Nat → Prop) (θ : List Loc) (x138 : List Ver) (i139 : Int) (x1 : List Int) (v : (Unit) ⊕ (Unit)) : ∀ (n : Nat) (i199 : Int), laws_FnReadAsOf_L1 x138 i139 x1 n i199 = some v → WL EE ⟨w, X, θ, 99, 1⟩ (subC [1, 1, 1, 1, 1, 1, 0, 1, 4, 4] (bodyC Try.f7)) (fun (e : Exit) (s : St) => (match v with | (.inl _) => e = .ret ∧ s = ⟨[(2, B false)], [.row .u8 x1 false]⟩ | (.inr _) => e = .exit 0 ∧ s = ⟨[(3, .one (.e (.sl 1 0 x138.length))), (4, I i139)], [.row .u8 x1 false, .row .ver x138 true]⟩ : Prop)) ⟨[(3, .one (.e (.sl 1 0 x138.length))), (4, I i139), (10, I i199)], [.row .u8 x1 false, .row .ver x138 true]⟩ := by
  intro n
  induction n with
  | zero => intro _ h; exact none_e h
  | succ n ih =>
    intro i199 h
    rw [laws_FnReadAsOf_L1] at h
    refine WL_round ?_
    refine W_seq ?_
    refine W_seq ?_
    refine W_region ?_
    refine WO_step 4 [0, 1] [3, 4, 10, 62] (True ∧ (True ∧ True)) ⟨[(3, .one (.e (.sl 1 0 x138.length))), (4, I i139), (10, I i199), (62, B (decide (i199 < ((x138.length : Nat) : Int))))], [.row .u8 x1 false, .row .ver x138 true]⟩ (by kernel_rfl) ⟨trivial, trivial, trivial⟩ ?_
    refine WO_nil rfl ?_
    refine thenS_n ?_
    refine iteO_e h (fun hb233 h => W_true rfl hb233 ?_) (fun hb233 h => W_false rfl hb233 ?_)
    · refine W_sub [0, 1] [3, 4, 10] (st' := ⟨[(3, .one (.e (.sl 1 0 x138.length))), (4, I i139), (10, I i199)], [.row .u8 x1 false, .row .ver x138 true]⟩) (by kernel_rfl) ?_
      refine W_skip ?_
      refine thenS_n ?_
      refine W_seq ?_
      refine W_block ?_
      refine W_seq ?_
      refine guardO_e h (fun hg248 h => ?_)
      refine guardO_e h (fun hg249 h => ?_)
      refine bindO_e h (fun v253 hc252 h => ?_)
      obtain ⟨i250, b251⟩ := v253
      refine W_cut (Q' := fun (e : Exit) (s : St) => e = .normal ∧ s = ⟨[(3, .one (.e (.sl 1 0 x138.length))), (4, I i139), (10, I i199), (11, I i250), (12, B b251)], [.row .u8 x1 false, .row .ver x138 true]⟩) ?_ ?_
      · refine W_draw [] false (by kernel_rfl) (by kernel_rfl) ?_
        refine WD_takeK [0, 1, 2, 3, 4, 5, 6, 7, 8, 9, 10] [3, 4, 10, 66, 71, 76] [3, 4, 10, 66, 71, 76] (φ := ((0 ≤ i199 ∧ i199 < ((x138.length : Nat) : Int)) ∧ (0 ≤ i199 ∧ i199 < ((x138.length : Nat) : Int)) ∧ (True ∧ True ∧ ((0 ≤ i199 ∧ i199 < ((x138.length : Nat) : Int)) ∧ (0 ≤ i199 ∧ i199 < ((x138.length : Nat) : Int)) ∧ (True ∧ True ∧ True))))) (ls' := #[true, true, true, true, true, true, true, true, true, true, true, false, false, false, false, false, false]) (Ts' := [(3, .one (.e (.sl 1 0 x138.length))), (4, I i139), (10, I i199), (66, .one (.e (.sl 1 0 x138.length))), (71, I ((x138.getD i199.toNat dver).node)), (76, I ((x138.getD i199.toNat dver).tm))]) (st' := ⟨[(3, .one (.e (.sl 1 0 x138.length))), (4, I i139), (10, I i199), (66, .one (.e (.sl 1 0 x138.length))), (71, I ((x138.getD i199.toNat dver).node)), (76, I ((x138.getD i199.toNat dver).tm))], [.row .u8 x1 false, .row .ver x138 true]⟩) (n2 := 6) (by kernel_rfl) ⟨hg248, hg248, trivial, trivial, hg249, hg249, trivial, trivial, trivial⟩ rfl ?_
        refine WD_all [11] (n := 5) (by kernel_rfl) rfl ?_
        refine WM_call [.ro 1] Try.f24 rfl rfl (by kernel_rfl) rfl rfl (by kernel_rfl) (impl_ReadAsOf_ok n x138 ((x138.getD i199.toNat dver).node) ((x138.getD i199.toNat dver).tm) i250 b251 hc252) (And.intro (And.intro rfl rfl) (trivial)) rfl (And.intro rfl (And.intro rfl (trivial))) ?_
        refine WD_takeK [12, 13, 14, 15, 16] [3, 4, 10, 11, 12] [3, 4, 10, 11, 12] (φ := True) (ls' := #[true, true, true, true, true, true, true, true, true, true, true, true, true, true, true, true, true]) (Ts' := [(3, .one (.e (.sl 1 0 x138.length))), (4, I i139), (10, I i199), (11, I i250), (12, B b251)]) (st' := ⟨[(3, .one (.e (.sl 1 0 x138.length))), (4, I i139), (10, I i199), (11, I i250), (12, B b251)], [.row .u8 x1 false, .row .ver x138 true]⟩) (n2 := 0) (by kernel_rfl) trivial rfl ?_
        exact WD_done [0, 1] [3, 4, 10, 11, 12] (st' := ⟨[(3, .one (.e (.sl 1 0 x138.length))), (4, I i139), (10, I i199), (11, I i250), (12, B b251)], [.row .u8 x1 false, .row .ver x138 true]⟩) (by kernel_rfl) (by kernel_rfl) (And.intro rfl rfl)
      · rintro _ _ ⟨rfl, rfl⟩
        refine thenS_n ?_
        refine W_seq ?_
        refine W_region ?_
        refine WO_step 3 [0, 1] [3, 4, 10, 11, 82] True ⟨[(3, .one (.e (.sl 1 0 x138.length))), (4, I i139), (10, I i199), (11, I i250), (82, B (!b251))], [.row .u8 x1 false, .row .ver x138 true]⟩ (by kernel_rfl) trivial ?_
        refine bindO_e h (fun b256 hv257 h => ?_)
        refine WO_thru ⟨[(3, .one (.e (.sl 1 0 x138.length))), (4, I i139), (10, I i199), (90, B b256)], [.row .u8 x1 false, .row .ver x138 true]⟩ ?_ ?_
        · refine iteO_e hv257 (fun hb258 hv257 => WO_known 82 true rfl hb258 ?_) (fun hb258 hv257 => WO_known 82 false rfl hb258 ?_)
          · refine WO_step 8 [0, 1] [3, 4, 10, 90] True ⟨[(3, .one (.e (.sl 1 0 x138.length))), (4, I i139), (10, I i199), (90, B true)], [.row .u8 x1 false, .row .ver x138 true]⟩ (by kernel_rfl) trivial ?_
            cases hv257
            exact WO_nil rfl ⟨rfl, rfl⟩
          · refine guardO_e hv257 (fun hg259 hv257 => ?_)
            refine WO_step 8 [0, 1] [3, 4, 10, 90] ((0 ≤ i199 ∧ i199 < ((x138.length : Nat) : Int)) ∧ (True ∧ (True ∧ True))) ⟨[(3, .one (.e (.sl 1 0 x138.length))), (4, I i139), (10, I i199), (90, B (!decide (i250 = ((x138.getD i199.toNat dver).value))))], [.row .u8 x1 false, .row .ver x138 true]⟩ (by kernel_rfl) ⟨hg259, trivial, trivial, trivial⟩ ?_
            cases hv257
            exact WO_nil rfl ⟨rfl, rfl⟩
        · refine thenS_n ?_
          refine iteO_e h (fun hb261 h => W_true rfl hb261 ?_) (fun hb261 h => W_false rfl hb261 ?_)
          · refine W_seq ?_
            refine W_region ?_
            refine WO_step 1 [0] [2] True ⟨[(2, B false)], [.row .u8 x1 false]⟩ (by kernel_rfl) trivial ?_
            refine WO_nil rfl ?_
            refine thenS_n ?_
            refine W_ret ?_
            refine blockS_r ?_
            refine thenS_r ?_
            refine thenS_r ?_
            cases h
            exact And.intro rfl rfl
          · refine W_sub [0, 1] [3, 4, 10] (st' := ⟨[(3, .one (.e (.sl 1 0 x138.length))), (4, I i139), (10, I i199)], [.row .u8 x1 false, .row .ver x138 true]⟩) (by kernel_rfl) ?_
            refine W_skip ?_
            refine blockS_n ?_
            refine thenS_n ?_
            refine W_region ?_
            refine WO_step 3 [0, 1] [3, 4, 10] (True ∧ True) ⟨[(3, .one (.e (.sl 1 0 x138.length))), (4, I i139), (10, I (w64 (i199 + 1)))], [.row .u8 x1 false, .row .ver x138 true]⟩ (by kernel_rfl) ⟨trivial, trivial⟩ ?_
            refine WO_nil rfl ?_
            refine thenS_n ?_
            exact ih _ h
    · refine W_sub [0, 1] [3, 4] (st' := ⟨[(3, .one (.e (.sl 1 0 x138.length))), (4, I i139)], [.row .u8 x1 false, .row .ver x138 true]⟩) (by kernel_rfl) ?_
      refine W_exit ?_
      refine thenS_e ?_
      refine thenS_e ?_
      cases h
      exact And.intro rfl rfl

def laws_FnReadAsOf (n : Nat) (x1 : List Int) : Option (Bool) :=
 iteO (decide (1048576 < ((x1.length : Nat) : Int)))
 (some true)
 (bindO (spec_DrawReadAsOf n x1) fun (x138, i139, i140) =>
 bindO (impl_ReadAsOf n x138 i139 i140) fun (i142, b143) =>
 bindO (spec_ReadAsOf n x138 i139 i140) fun (i145, b146) =>
 bindO (iteO (!decide (i142 = i145))
 (some true)
 (iteO (!(b143 == b146))
 (some true)
 (bindO (impl_ValidVersions n x138) fun b156 =>
 some (!b156)))) fun b152 =>
 iteO b152
 (some ((decide (i142 = i145)) && (b143 == b146)))
 (bindO (laws_FnReadAsOf_L1 x138 i139 x1 n 0) fun v262 =>
 match v262 with
 | (.inl _) => (some false)
 | (.inr _) => (bindO (impl_ReadAsOf n x138 i139 (-1)) fun (i263, b264) =>
 some (!b264))
))

theorem laws_FnReadAsOf_ok (n : Nat) (x1 : List Int) (b135 : Bool) (h : laws_FnReadAsOf n x1 = some b135) : FOk EE 7 [.one (.e (.sl 0 0 x1.length))] [.row .u8 x1 false] (B b135) [.row .u8 x1 false] := by
  unfold laws_FnReadAsOf at h
  refine FOk_of_W 99 1 Try.func7 rfl rfl (Nat.le_of_ble_eq_true rfl) rfl (fun w X θ => ?_)
  refine W_seq ?_
  refine W_region ?_
  refine WO_step 1 [0] [0] True ⟨[(0, .one (.e (.sl 0 0 x1.length)))], [.row .u8 x1 false]⟩ (by kernel_rfl) trivial ?_
  refine WO_nil rfl ?_
  refine thenS_n ?_
  refine W_seq ?_
  refine W_seq ?_
  refine W_region ?_
  refine WO_step 3 [0] [0, 17] (True ∧ (True ∧ True)) ⟨[(0, .one (.e (.sl 0 0 x1.length))), (17, B (decide (1048576 < ((x1.length : Nat) : Int))))], [.row .u8 x1 false]⟩ (by kernel_rfl) ⟨trivial, trivial, trivial⟩ ?_
  refine WO_nil rfl ?_
  refine thenS_n ?_
  refine iteO_e h (fun hb137 h => W_true rfl hb137 ?_) (fun hb137 h => W_false rfl hb137 ?_)
  · refine W_seq ?_
    refine W_region ?_
    refine WO_step 1 [0] [2] True ⟨[(2, B true)], [.row .u8 x1 false]⟩ (by kernel_rfl) trivial ?_
    refine WO_nil rfl ?_
    refine thenS_n ?_
    refine W_ret ?_
    refine thenS_r ?_
    cases h
    exact ⟨[0], True, by kernel_rfl, trivial⟩
  · refine W_sub [0] [0] (st' := ⟨[(0, .one (.e (.sl 0 0 x1.length)))], [.row .u8 x1 false]⟩) (by kernel_rfl) ?_
    refine W_skip ?_
    refine thenS_n ?_
    refine W_seq ?_
    refine W_region ?_
    refine WO_step 1 [0] [19] True ⟨[(19, .one (.e (.sl 0 0 x1.length)))], [.row .u8 x1 false]⟩ (by kernel_rfl) trivial ?_
    refine bindO_e h (fun v269 hc141 h => ?_)
    obtain ⟨x138, i139, i140⟩ := v269
    refine WO_call [.ro 0] Try.f25 rfl rfl rfl (by kernel_rfl) rfl rfl (by kernel_rfl) (spec_DrawReadAsOf_ok n x1 x138 i139 i140 hc141) (And.intro (And.intro rfl rfl) (trivial)) rfl ?_
    refine WO_step 7 [0, 1] [3, 4, 5] True ⟨[(3, .one (.e (.sl 1 0 x138.length))), (4, I i139), (5, I i140)], [.row .u8 x1 false, .row .ver x138 true]⟩ (by kernel_rfl) trivial ?_
    refine WO_nil rfl ?_
    refine thenS_n ?_
    refine W_seq ?_
    refine W_region ?_
    refine WO_step 3 [0, 1] [3, 4, 5, 25, 26, 27] True ⟨[(3, .one (.e (.sl 1 0 x138.length))), (4, I i139), (5, I i140), (25, .one (.e (.sl 1 0 x138.length))), (26, I i139), (27, I i140)], [.row .u8 x1 false, .row .ver x138 true]⟩ (by kernel_rfl) trivial ?_
    refine bindO_e h (fun v268 hc144 h => ?_)
    obtain ⟨i142, b143⟩ := v268
    refine WO_call [.ro 1] Try.f24 rfl rfl rfl (by kernel_rfl) rfl rfl (by kernel_rfl) (impl_ReadAsOf_ok n x138 i139 i140 i142 b143 hc144) (And.intro (And.intro rfl rfl) (trivial)) rfl ?_
    refine WO_step 5 [0, 1] [3, 4, 5, 6, 7] True ⟨[(3, .one (.e (.sl 1 0 x138.length))), (4, I i139), (5, I i140), (6, I i142), (7, B b143)], [.row .u8 x1 false, .row .ver x138 true]⟩ (by kernel_rfl) trivial ?_
    refine WO_nil rfl ?_
    refine thenS_n ?_
    refine W_seq ?_
    refine W_region ?_
    refine WO_step 3 [0, 1] [3, 4, 6, 7, 32, 33, 34] True ⟨[(3, .one (.e (.sl 1 0 x138.length))), (4, I i139), (6, I i142), (7, B b143), (32, .one (.e (.sl 1 0 x138.length))), (33, I i139), (34, I i140)], [.row .u8 x1 false, .row .ver x138 true]⟩ (by kernel_rfl) trivial ?_
    refine bindO_e h (fun v267 hc147 h => ?_)
    obtain ⟨i145, b146⟩ := v267
    refine WO_call [.ro 1] Try.f23 rfl rfl rfl (by kernel_rfl) rfl rfl (by kernel_rfl) (spec_ReadAsOf_ok n x138 i139 i140 i145 b146 hc147) (And.intro (And.intro rfl rfl) (trivial)) rfl ?_
    refine WO_step 5 [0, 1] [3, 4, 6, 7, 8, 9] True ⟨[(3, .one (.e (.sl 1 0 x138.length))), (4, I i139), (6, I i142), (7, B b143), (8, I i145), (9, B b146)], [.row .u8 x1 false, .row .ver x138 true]⟩ (by kernel_rfl) trivial ?_
    refine WO_nil rfl ?_
    refine thenS_n ?_
    refine W_seq ?_
    refine W_seq ?_
    refine W_region ?_
    refine WO_step 4 [0, 1] [3, 4, 6, 7, 8, 9, 41] (True ∧ True) ⟨[(3, .one (.e (.sl 1 0 x138.length))), (4, I i139), (6, I i142), (7, B b143), (8, I i145), (9, B b146), (41, B (!decide (i142 = i145)))], [.row .u8 x1 false, .row .ver x138 true]⟩ (by kernel_rfl) ⟨trivial, trivial⟩ ?_
    refine bindO_e h (fun b152 hv153 h => ?_)
    refine WO_thru ⟨[(3, .one (.e (.sl 1 0 x138.length))), (4, I i139), (6, I i142), (7, B b143), (8, I i145), (9, B b146), (50, B b152)], [.row .u8 x1 false, .row .ver x138 true]⟩ ?_ ?_
    · refine iteO_e hv153 (fun hb154 hv153 => WO_known 41 true rfl hb154 ?_) (fun hb154 hv153 => WO_known 41 false rfl hb154 ?_)
      · refine WO_step 9 [0, 1] [3, 4, 6, 7, 8, 9, 50] True ⟨[(3, .one (.e (.sl 1 0 x138.length))), (4, I i139), (6, I i142), (7, B b143), (8, I i145), (9, B b146), (50, B true)], [.row .u8 x1 false, .row .ver x138 true]⟩ (by kernel_rfl) trivial ?_
        cases hv153
        exact WO_nil rfl ⟨rfl, rfl⟩
      · refine WO_step 5 [0, 1] [3, 4, 6, 7, 8, 9, 46] (True ∧ True) ⟨[(3, .one (.e (.sl 1 0 x138.length))), (4, I i139), (6, I i142), (7, B b143), (8, I i145), (9, B b146), (46, B (!(b143 == b146)))], [.row .u8 x1 false, .row .ver x138 true]⟩ (by kernel_rfl) ⟨trivial, trivial⟩ ?_
        refine iteO_e hv153 (fun hb155 hv153 => WO_known 46 true rfl hb155 ?_) (fun hb155 hv153 => WO_known 46 false rfl hb155 ?_)
        · refine WO_step 4 [0, 1] [3, 4, 6, 7, 8, 9, 50] True ⟨[(3, .one (.e (.sl 1 0 x138.length))), (4, I i139), (6, I i142), (7, B b143), (8, I i145), (9, B b146), (50, B true)], [.row .u8 x1 false, .row .ver x138 true]⟩ (by kernel_rfl) trivial ?_
          cases hv153
          exact WO_nil rfl ⟨rfl, rfl⟩
        · refine WO_step 1 [0, 1] [3, 4, 6, 7, 8, 9, 46, 47] True ⟨[(3, .one (.e (.sl 1 0 x138.length))), (4, I i139), (6, I i142), (7, B b143), (8, I i145), (9, B b146), (46, B false), (47, .one (.e (.sl 1 0 x138.length)))], [.row .u8 x1 false, .row .ver x138 true]⟩ (by kernel_rfl) trivial ?_
          refine bindO_e hv153 (fun b156 hc157 hv153 => ?_)
          refine WO_call [.ro 1] Try.f20 rfl rfl rfl (by kernel_rfl) rfl rfl (by kernel_rfl) (impl_ValidVersions_ok n x138 b156 hc157) (And.intro (And.intro rfl rfl) (trivial)) rfl ?_
          refine WO_step 2 [0, 1] [3, 4, 6, 7, 8, 9, 50] True ⟨[(3, .one (.e (.sl 1 0 x138.length))), (4, I i139), (6, I i142), (7, B b143), (8, I i145), (9, B b146), (50, B (!b156))], [.row .u8 x1 false, .row .ver x138 true]⟩ (by kernel_rfl) trivial ?_
          cases hv153
          exact WO_nil rfl ⟨rfl, rfl⟩
    · refine thenS_n ?_
      refine iteO_e h (fun hb162 h => W_true rfl hb162 ?_) (fun hb162 h => W_false rfl hb162 ?_)
      · refine W_seq ?_
        refine W_region ?_
        refine WO_step 4 [0] [7, 9, 54] (True ∧ True) ⟨[(7, B b143), (9, B b146), (54, B (decide (i142 = i145)))], [.row .u8 x1 false]⟩ (by kernel_rfl) ⟨trivial, trivial⟩ ?_
        refine WO_thru ⟨[(2, B ((decide (i142 = i145)) && (b143 == b146)))], [.row .u8 x1 false]⟩ ?_ ?_
        · refine WO_if 54 rfl (fun hb165 => ?_) (fun hb165 => ?_)
          · refine WO_step 5 [0] [2] (True ∧ True) ⟨[(2, B (b143 == b146))], [.row .u8 x1 false]⟩ (by kernel_rfl) ⟨trivial, trivial⟩ ?_
            exact WO_nil rfl ⟨rfl, by first | rfl | (rw [hb165]; first | done | rfl)⟩
          · refine WO_step 5 [0] [2] True ⟨[(2, B false)], [.row .u8 x1 false]⟩ (by kernel_rfl) trivial ?_
            exact WO_nil rfl ⟨rfl, by first | rfl | (rw [hb165]; first | done | rfl)⟩
        · refine thenS_n ?_
          refine W_ret ?_
          refine thenS_r ?_
          cases h
          exact ⟨[0], True, by kernel_rfl, trivial⟩
      · refine W_sub [0, 1] [3, 4] (st' := ⟨[(3, .one (.e (.sl 1 0 x138.length))), (4, I i139)], [.row .u8 x1 false, .row .ver x138 true]⟩) (by kernel_rfl) ?_
        refine W_skip ?_
        refine thenS_n ?_
        refine W_seq ?_
        refine W_seq ?_
        refine W_region ?_
        refine WO_step 1 [0, 1] [3, 4, 10] True ⟨[(3, .one (.e (.sl 1 0 x138.length))), (4, I i139), (10, I 0)], [.row .u8 x1 false, .row .ver x138 true]⟩ (by kernel_rfl) trivial ?_
        refine WO_nil rfl ?_
        refine thenS_n ?_
        refine W_block ?_
        refine W_loop ?_
        refine bindO_e h (fun v262 hv262 h => ?_)
        refine WL_cut (laws_FnReadAsOf_L1_ok w X θ x138 i139 x1 v262 n 0 hv262) ?_
        rcases v262 with _ | _
        · rintro _ _ ⟨rfl, rfl⟩
          refine blockS_r ?_
          refine thenS_r ?_
          cases h
          exact ⟨[0], True, by kernel_rfl, trivial⟩
        · rintro _ _ ⟨rfl, rfl⟩
          refine blockS_y ?_
          refine thenS_n ?_
          refine W_seq ?_
          refine W_region ?_
          refine WO_step 2 [0, 1] [92, 93] True ⟨[(92, .one (.e (.sl 1 0 x138.length))), (93, I i139)], [.row .u8 x1 false, .row .ver x138 true]⟩ (by kernel_rfl) trivial ?_
          refine bindO_e h (fun v266 hc265 h => ?_)
          obtain ⟨i263, b264⟩ := v266
          refine WO_call [.ro 1] Try.f24 rfl rfl rfl (by kernel_rfl) rfl rfl (by kernel_rfl) (impl_ReadAsOf_ok n x138 i139 (-1) i263 b264 hc265) (And.intro (And.intro rfl rfl) (trivial)) rfl ?_
          refine WO_step 5 [0] [14] True ⟨[(14, B b264)], [.row .u8 x1 false]⟩ (by kernel_rfl) trivial ?_
          refine WO_nil rfl ?_
          refine thenS_n ?_
          refine W_seq ?_
          refine W_region ?_
          refine WO_step 3 [0] [2] True ⟨[(2, B (!b264))], [.row .u8 x1 false]⟩ (by kernel_rfl) trivial ?_
          refine WO_nil rfl ?_
          refine thenS_n ?_
          refine W_ret ?_
          cases h
          exact ⟨[0], True, by kernel_rfl, trivial⟩

/- laws.FnReadAsOfLast -/
def laws_FnReadAsOfLast_L1 (x105 : List Ver) (i106 : Int) (x1 : List Int) : Nat → Bool → Int → Int → Option ((Bool × Int))
| 0, _, _, _ => none
| n + 1, b156, i157, i158 =>
 iteO (decide (i158 < ((x105.length : Nat) : Int)))
 (guardO (0 ≤ i158 ∧ i158 < ((x105.length : Nat) : Int)) <|
 bindO (iteO (decide (((x105.getD i158.toNat dver).node) = i106))
 (guardO (0 ≤ i158 ∧ i158 < ((x105.length : Nat) : Int)) <|
 some (true, (x105.getD i158.toNat dver).value))
 (some (b156, i157))) fun v192 =>
 match v192 with
 | (b190, i191) => (laws_FnReadAsOfLast_L1 x105 i106 x1 n b190 i191 (w64 (i158 + 1)))
)
 (some (b156, i157))

theorem laws_FnReadAsOfLast_L1_ok (w : World) (X : Nat → Prop) (θ : List Loc) (x105 : List Ver) (i106 : Int) (x1 : List Int) (v : (Bool × Int)) : ∀ (n : Nat) (b156 : Bool) (i157 : Int) (i158 : Int), laws_FnReadAsOfLast_L1 x105 i106 x1 n b156 i157 i158 = some v → WL EE ⟨w, X, θ, 91, 1⟩ (subC [1, 1, 1, 1, 1, 1, 1, 1, 0, 1, 4, 4] (bodyC Try.f8)) (fun (e : Exit) (s : St) => (match v with | (b176, i177) => e = .exit 0 ∧ s = ⟨[(3, .one (.e (.sl 1 0 x105.length))), (4, I i106), (10, B b176), (11, I i177)], [.row .u8 x1 false, .row .ver x105 true]⟩ : Prop)) ⟨[(3, .one (.e (.sl 1 0 x105.length))), (4, I i106), (10, B b156), (11, I i157), (12, I i158)], [.row .u8 x1 false, .row .ver x105 true]⟩ := by
  intro n
  induction n with
  | zero => intro _ _ _ h; exact none_e h
  | succ n ih =>
    intro b156 i157 i158 h
    rw [laws_FnReadAsOfLast_L1] at h
    refine WL_round ?_
    refine W_seq ?_
    refine W_seq ?_
    refine W_region ?_
    refine WO_step 4 [0, 1] [3, 4, 10, 11, 12, 62] (True ∧ (True ∧ True)) ⟨[(3, .one (.e (.sl 1 0 x105.length))), (4, I i106), (10, B b156), (11, I i157), (12, I i158), (62, B (decide (i158 < ((x105.length : Nat) : Int))))], [.row .u8 x1 false, .row .ver x105 true]⟩ (by kernel_rfl) ⟨trivial, trivial, trivial⟩ ?_
    refine WO_nil rfl ?_
    refine thenS_n ?_
    refine iteO_e h (fun hb180 h => W_true rfl hb180 ?_) (fun hb180 h => W_false rfl hb180 ?_)
    · refine W_sub [0, 1] [3, 4, 10, 11, 12] (st' := ⟨[(3, .one (.e (.sl 1 0 x105.length))), (4, I i106), (10, B b156), (11, I i157), (12, I i158)], [.row .u8 x1 false, .row .ver x105 true]⟩) (by kernel_rfl) ?_
      refine W_skip ?_
      refine thenS_n ?_
      refine W_seq ?_
      refine W_block ?_
      refine W_seq ?_
      refine W_region ?_
      refine guardO_e h (fun hg187 h => ?_)
      refine WO_step 7 [0, 1] [3, 4, 10, 11, 12, 71] ((0 ≤ i158 ∧ i158 < ((x105.length : Nat) : Int)) ∧ (True ∧ (True ∧ True))) ⟨[(3, .one (.e (.sl 1 0 x105.length))), (4, I i106), (10, B b156), (11, I i157), (12, I i158), (71, B (decide (((x105.getD i158.toNat dver).node) = i106)))], [.row .u8 x1 false, .row .ver x105 true]⟩ (by kernel_rfl) ⟨hg187, trivial, trivial, trivial⟩ ?_
      refine WO_nil rfl ?_
      refine thenS_n ?_
      refine bindO_e h (fun v192 hv192 h => ?_)
      refine W_cut (Q' := fun (e : Exit) (s : St) => (match v192 with | (b190, i191) => e = .normal ∧ s = ⟨[(3, .one (.e (.sl 1 0 x105.length))), (4, I i106), (10, B b190), (11, I i191), (12, I i158)], [.row .u8 x1 false, .row .ver x105 true]⟩ : Prop)) ?_ ?_
      · refine iteO_e hv192 (fun hb193 hv192 => W_true rfl hb193 ?_) (fun hb193 hv192 => W_false rfl hb193 ?_)
        · refine W_seq ?_
          refine W_region ?_
          refine WO_step 1 [0, 1] [3, 4, 10, 12] True ⟨[(3, .one (.e (.sl 1 0 x105.length))), (4, I i106), (10, B true), (12, I i158)], [.row .u8 x1 false, .row .ver x105 true]⟩ (by kernel_rfl) trivial ?_
          refine WO_nil rfl ?_
          refine thenS_n ?_
          refine W_region ?_
          refine guardO_e hv192 (fun hg194 hv192 => ?_)
          refine WO_step 6 [0, 1] [3, 4, 10, 11, 12] ((0 ≤ i158 ∧ i158 < ((x105.length : Nat) : Int)) ∧ (True ∧ True)) ⟨[(3, .one (.e (.sl 1 0 x105.length))), (4, I i106), (10, B true), (11, I ((x105.getD i158.toNat dver).value)), (12, I i158)], [.row .u8 x1 false, .row .ver x105 true]⟩ (by kernel_rfl) ⟨hg194, trivial, trivial⟩ ?_
          refine WO_nil rfl ?_
          cases hv192
          exact And.intro rfl rfl
        · refine W_sub [0, 1] [3, 4, 10, 11, 12] (st' := ⟨[(3, .one (.e (.sl 1 0 x105.length))), (4, I i106), (10, B b156), (11, I i157), (12, I i158)], [.row .u8 x1 false, .row .ver x105 true]⟩) (by kernel_rfl) ?_
          refine W_skip ?_
          cases hv192
          exact And.intro rfl rfl
      · obtain ⟨b190, i191⟩ := v192
        rintro _ _ ⟨rfl, rfl⟩
        refine blockS_n ?_
        refine thenS_n ?_
        refine W_region ?_
        refine WO_step 3 [0, 1] [3, 4, 10, 11, 12] (True ∧ True) ⟨[(3, .one (.e (.sl 1 0 x105.length))), (4, I i106), (10, B b190), (11, I i191), (12, I (w64 (i158 + 1)))], [.row .u8 x1 false, .row .ver x105 true]⟩ (by kernel_rfl) ⟨trivial, trivial⟩ ?_
        refine WO_nil rfl ?_
        refine thenS_n ?_
        exact ih _ _ _ h
    · refine W_sub [0, 1] [3, 4, 10, 11] (st' := ⟨[(3, .one (.e (.sl 1 0 x105.length))), (4, I i106), (10, B b156), (11, I i157)], [.row .u8 x1 false, .row .ver x105 true]⟩) (by kernel_rfl) ?_
      refine W_exit ?_
      refine thenS_e ?_
      refine thenS_e ?_
      cases h
      exact And.intro rfl rfl

def laws_FnReadAsOfLast (n : Nat) (x1 : List Int) : Option (Bool) :=
 iteO (decide (1048576 < ((x1.length : Nat) : Int)))
 (some true)
 (bindO (spec_DrawReadAsOf n x1) fun (x105, i106, i107) =>
 bindO (impl_ReadAsOf n x105 i106 i107) fun (i109, b110) =>
 bindO (spec_ReadAsOf n x105 i106 i107) fun (i112, b113) =>
 bindO (iteO (!decide (i109 = i112))
 (some true)
 (iteO (!(b110 == b113))
 (some true)
 (bindO (impl_ValidVersions n x105) fun b123 =>
 some (!b123)))) fun b119 =>
 iteO b119
 (some ((decide (i109 = i112)) && (b110 == b113)))
 (bindO (laws_FnReadAsOfLast_L1 x105 i106 x1 n false 0 0) fun v195 =>
 match v195 with
 | (b176, i177) => (bindO (impl_ReadAsOf n x105 i106 100) fun (i196, b197) =>
 some ((b197 == b176) && (decide (i196 = i177))))
))

theorem laws_FnReadAsOfLast_ok (n : Nat) (x1 : List Int) (b102 : Bool) (h : laws_FnReadAsOfLast n x1 = some b102) : FOk EE 8 [.one (.e (.sl 0 0 x1.length))] [.row .u8 x1 false] (B b102) [.row .u8 x1 false] := by
  unfold laws_FnReadAsOfLast at h
  refine FOk_of_W 91 1 Try.func8 rfl rfl (Nat.le_of_ble_eq_true rfl) rfl (fun w X θ => ?_)
  refine W_seq ?_
  refine W_region ?_
  refine WO_step 1 [0] [0] True ⟨[(0, .one (.e (.sl 0 0 x1.length)))], [.row .u8 x1 false]⟩ (by kernel_rfl) trivial ?_
  refine WO_nil rfl ?_
  refine thenS_n ?_
  refine W_seq ?_
  refine W_seq ?_
  refine W_region ?_
  refine WO_step 3 [0] [0, 17] (True ∧ (True ∧ True)) ⟨[(0, .one (.e (.sl 0 0 x1.length))), (17, B (decide (1048576 < ((x1.length : Nat) : Int))))], [.row .u8 x1 false]⟩ (by kernel_rfl) ⟨trivial, trivial, trivial⟩ ?_
  refine WO_nil rfl ?_
  refine thenS_n ?_
  refine iteO_e h (fun hb104 h => W_true rfl hb104 ?_) (fun hb104 h => W_false rfl hb104 ?_)
  · refine W_seq ?_
    refine W_region ?_
    refine WO_step 1 [0] [2] True ⟨[(2, B true)], [.row .u8 x1 false]⟩ (by kernel_rfl) trivial ?_
    refine WO_nil rfl ?_
    refine thenS_n ?_
    refine W_ret ?_
    refine thenS_r ?_
    cases h
    exact ⟨[0], True, by kernel_rfl, trivial⟩
  · refine W_sub [0] [0] (st' := ⟨[(0, .one (.e (.sl 0 0 x1.length)))], [.row .u8 x1 false]⟩) (by kernel_rfl) ?_
    refine W_skip ?_
    refine thenS_n ?_
    refine W_seq ?_
    refine W_region ?_
    refine WO_step 1 [0] [19] True ⟨[(19, .one (.e (.sl 0 0 x1.length)))], [.row .u8 x1 false]⟩ (by kernel_rfl) trivial ?_
    refine bindO_e h (fun v205 hc108 h => ?_)
    obtain ⟨x105, i106, i107⟩ := v205
    refine WO_call [.ro 0] Try.f25 rfl rfl rfl (by kernel_rfl) rfl rfl (by kernel_rfl) (spec_DrawReadAsOf_ok n x1 x105 i106 i107 hc108) (And.intro (And.intro rfl rfl) (trivial)) rfl ?_
    refine WO_step 7 [0, 1] [3, 4, 5] True ⟨[(3, .one (.e (.sl 1 0 x105.length))), (4, I i106), (5, I i107)], [.row .u8 x1 false, .row .ver x105 true]⟩ (by kernel_rfl) trivial ?_
    refine WO_nil rfl ?_
    refine thenS_n ?_
    refine W_seq ?_
    refine W_region ?_
    refine WO_step 3 [0, 1] [3, 4, 5, 25, 26, 27] True ⟨[(3, .one (.e (.sl 1 0 x105.length))), (4, I i106), (5, I i107), (25, .one (.e (.sl 1 0 x105.length))), (26, I i106), (27, I i107)], [.row .u8 x1 false, .row .ver x105 true]⟩ (by kernel_rfl) trivial ?_
    refine bindO_e h (fun v204 hc111 h => ?_)
    obtain ⟨i109, b110⟩ := v204
    refine WO_call [.ro 1] Try.f24 rfl rfl rfl (by kernel_rfl) rfl rfl (by kernel_rfl) (impl_ReadAsOf_ok n x105 i106 i107 i109 b110 hc111) (And.intro (And.intro rfl rfl) (trivial)) rfl ?_
    refine WO_step 5 [0, 1] [3, 4, 5, 6, 7] True ⟨[(3, .one (.e (.sl 1 0 x105.length))), (4, I i106), (5, I i107), (6, I i109), (7, B b110)], [.row .u8 x1 false, .row .ver x105 true]⟩ (by kernel_rfl) trivial ?_
    refine WO_nil rfl ?_
    refine thenS_n ?_
    refine W_seq ?_
    refine W_region ?_
    refine WO_step 3 [0, 1] [3, 4, 6, 7, 32, 33, 34] True ⟨[(3, .one (.e (.sl 1 0 x105.length))), (4, I i106), (6, I i109), (7, B b110), (32, .one (.e (.sl 1 0 x105.length))), (33, I i106), (34, I i107)], [.row .u8 x1 false, .row .ver x105 true]⟩ (by kernel_rfl) trivial ?_
    refine bindO_e h (fun v203 hc114 h => ?_)
    obtain ⟨i112, b113⟩ := v203
    refine WO_call [.ro 1] Try.f23 rfl rfl rfl (by kernel_rfl) rfl rfl (by kernel_rfl) (spec_ReadAsOf_ok n x105 i106 i107 i112 b113 hc114) (And.intro (And.intro rfl rfl) (trivial)) rfl ?_
    refine WO_step 5 [0, 1] [3, 4, 6, 7, 8, 9] True ⟨[(3, .one (.e (.sl 1 0 x105.length))), (4, I i106), (6, I i109), (7, B b110), (8, I i112), (9, B b113)], [.row .u8 x1 false, .row .ver x105 true]⟩ (by kernel_rfl) trivial ?_
    refine WO_nil rfl ?_
    refine thenS_n ?_
    refine W_seq ?_
    refine W_seq ?_
    refine W_region ?_
    refine WO_step 4 [0, 1] [3, 4, 6, 7, 8, 9, 41] (True ∧ True) ⟨[(3, .one (.e (.sl 1 0 x105.length))), (4, I i106), (6, I i109), (7, B b110), (8, I i112), (9, B b113), (41, B (!decide (i109 = i112)))], [.row .u8 x1 false, .row .ver x105 true]⟩ (by kernel_rfl) ⟨trivial, trivial⟩ ?_
    refine bindO_e h (fun b119 hv120 h => ?_)
    refine WO_thru ⟨[(3, .one (.e (.sl 1 0 x105.length))), (4, I i106), (6, I i109), (7, B b110), (8, I i112), (9, B b113), (50, B b119)], [.row .u8 x1 false, .row .ver x105 true]⟩ ?_ ?_
    · refine iteO_e hv120 (fun hb121 hv120 => WO_known 41 true rfl hb121 ?_) (fun hb121 hv120 => WO_known 41 false rfl hb121 ?_)
      · refine WO_step 9 [0, 1] [3, 4, 6, 7, 8, 9, 50] True ⟨[(3, .one (.e (.sl 1 0 x105.length))), (4, I i106), (6, I i109), (7, B b110), (8, I i112), (9, B b113), (50, B true)], [.row .u8 x1 false, .row .ver x105 true]⟩ (by kernel_rfl) trivial ?_
        cases hv120
        exact WO_nil rfl ⟨rfl, rfl⟩
      · refine WO_step 5 [0, 1] [3, 4, 6, 7, 8, 9, 46] (True ∧ True) ⟨[(3, .one (.e (.sl 1 0 x105.length))), (4, I i106), (6, I i109), (7, B b110), (8, I i112), (9, B b113), (46, B (!(b110 == b113)))], [.row .u8 x1 false, .row .ver x105 true]⟩ (by kernel_rfl) ⟨trivial, trivial⟩ ?_
        refine iteO_e hv120 (fun hb122 hv120 => WO_known 46 true rfl hb122 ?_) (fun hb122 hv120 => WO_known 46 false rfl hb122 ?_)
        · refine WO_step 4 [0, 1] [3, 4, 6, 7, 8, 9, 50] True ⟨[(3, .one (.e (.sl 1 0 x105.length))), (4, I i106), (6, I i109), (7, B b110), (8, I i112), (9, B b113), (50, B true)], [.row .u8 x1 false, .row .ver x105 true]⟩ (by kernel_rfl) trivial ?_
          cases hv120
          exact WO_nil rfl ⟨rfl, rfl⟩
        · refine WO_step 1 [0, 1] [3, 4, 6, 7, 8, 9, 46, 47] True ⟨[(3, .one (.e (.sl 1 0 x105.length))), (4, I i106), (6, I i109), (7, B b110), (8, I i112), (9, B b113), (46, B false), (47, .one (.e (.sl 1 0 x105.length)))], [.row .u8 x1 false, .row .ver x105 true]⟩ (by kernel_rfl) trivial ?_
          refine bindO_e hv120 (fun b123 hc124 hv120 => ?_)
          refine WO_call [.ro 1] Try.f20 rfl rfl rfl (by kernel_rfl) rfl rfl (by kernel_rfl) (impl_ValidVersions_ok n x105 b123 hc124) (And.intro (And.intro rfl rfl) (trivial)) rfl ?_
          refine WO_step 2 [0, 1] [3, 4, 6, 7, 8, 9, 50] True ⟨[(3, .one (.e (.sl 1 0 x105.length))), (4, I i106), (6, I i109), (7, B b110), (8, I i112), (9, B b113), (50, B (!b123))], [.row .u8 x1 false, .row .ver x105 true]⟩ (by kernel_rfl) trivial ?_
          cases hv120
          exact WO_nil rfl ⟨rfl, rfl⟩
    · refine thenS_n ?_
      refine iteO_e h (fun hb129 h => W_true rfl hb129 ?_) (fun hb129 h => W_false rfl hb129 ?_)
      · refine W_seq ?_
        refine W_region ?_
        refine WO_step 4 [0] [7, 9, 54] (True ∧ True) ⟨[(7, B b110), (9, B b113), (54, B (decide (i109 = i112)))], [.row .u8 x1 false]⟩ (by kernel_rfl) ⟨trivial, trivial⟩ ?_
        refine WO_thru ⟨[(2, B ((decide (i109 = i112)) && (b110 == b113)))], [.row .u8 x1 false]⟩ ?_ ?_
        · refine WO_if 54 rfl (fun hb132 => ?_) (fun hb132 => ?_)
          · refine WO_step 5 [0] [2] (True ∧ True) ⟨[(2, B (b110 == b113))], [.row .u8 x1 false]⟩ (by kernel_rfl) ⟨trivial, trivial⟩ ?_
            exact WO_nil rfl ⟨rfl, by first | rfl | (rw [hb132]; first | done | rfl)⟩
          · refine WO_step 5 [0] [2] True ⟨[(2, B false)], [.row .u8 x1 false]⟩ (by kernel_rfl) trivial ?_
            exact WO_nil rfl ⟨rfl, by first | rfl | (rw [hb132]; first | done | rfl)⟩
        · refine thenS_n ?_
          refine W_ret ?_
          refine thenS_r ?_
          cases h
          exact ⟨[0], True, by kernel_rfl, trivial⟩
      · refine W_sub [0, 1] [3, 4] (st' := ⟨[(3, .one (.e (.sl 1 0 x105.length))), (4, I i106)], [.row .u8 x1 false, .row .ver x105 true]⟩) (by kernel_rfl) ?_
        refine W_skip ?_
        refine thenS_n ?_
        refine W_seq ?_
        refine W_region ?_
        refine WO_step 1 [0, 1] [3, 4, 10] True ⟨[(3, .one (.e (.sl 1 0 x105.length))), (4, I i106), (10, B false)], [.row .u8 x1 false, .row .ver x105 true]⟩ (by kernel_rfl) trivial ?_
        refine WO_nil rfl ?_
        refine thenS_n ?_
        refine W_seq ?_
        refine W_region ?_
        refine WO_step 1 [0, 1] [3, 4, 10, 11] True ⟨[(3, .one (.e (.sl 1 0 x105.length))), (4, I i106), (10, B false), (11, I 0)], [.row .u8 x1 false, .row .ver x105 true]⟩ (by kernel_rfl) trivial ?_
        refine WO_nil rfl ?_
        refine thenS_n ?_
        refine W_seq ?_
        refine W_seq ?_
        refine W_region ?_
        refine WO_step 1 [0, 1] [3, 4, 10, 11, 12] True ⟨[(3, .one (.e (.sl 1 0 x105.length))), (4, I i106), (10, B false), (11, I 0), (12, I 0)], [.row .u8 x1 false, .row .ver x105 true]⟩ (by kernel_rfl) trivial ?_
        refine WO_nil rfl ?_
        refine thenS_n ?_
        refine W_block ?_
        refine W_loop ?_
        refine bindO_e h (fun v195 hv195 h => ?_)
        refine WL_cut (laws_FnReadAsOfLast_L1_ok w X θ x105 i106 x1 v195 n false 0 0 hv195) ?_
        obtain ⟨b176, i177⟩ := v195
        rintro _ _ ⟨rfl, rfl⟩
        refine blockS_y ?_
        refine thenS_n ?_
        refine W_seq ?_
        refine W_region ?_
        refine WO_step 2 [0, 1] [10, 11, 78, 79] True ⟨[(10, B b176), (11, I i177), (78, .one (.e (.sl 1 0 x105.length))), (79, I i106)], [.row .u8 x1 false, .row .ver x105 true]⟩ (by kernel_rfl) trivial ?_
        refine bindO_e h (fun v202 hc198 h => ?_)
        obtain ⟨i196, b197⟩ := v202
        refine WO_call [.ro 1] Try.f24 rfl rfl rfl (by kernel_rfl) rfl rfl (by kernel_rfl) (impl_ReadAsOf_ok n x105 i106 100 i196 b197 hc198) (And.intro (And.intro rfl rfl) (trivial)) rfl ?_
        refine WO_step 5 [0] [10, 11, 13, 14] True ⟨[(10, B b176), (11, I i177), (13, I i196), (14, B b197)], [.row .u8 x1 false]⟩ (by kernel_rfl) trivial ?_
        refine WO_nil rfl ?_
        refine thenS_n ?_
        refine W_seq ?_
        refine W_region ?_
        refine WO_step 4 [0] [11, 13, 86] (True ∧ True) ⟨[(11, I i177), (13, I i196), (86, B (b197 == b176))], [.row .u8 x1 false]⟩ (by kernel_rfl) ⟨trivial, trivial⟩ ?_
        refine WO_thru ⟨[(2, B ((b197 == b176) && (decide (i196 = i177))))], [.row .u8 x1 false]⟩ ?_ ?_
        · refine WO_if 86 rfl (fun hb201 => ?_) (fun hb201 => ?_)
          · refine WO_step 5 [0] [2] (True ∧ True) ⟨[(2, B (decide (i196 = i177)))], [.row .u8 x1 false]⟩ (by kernel_rfl) ⟨trivial, trivial⟩ ?_
            exact WO_nil rfl ⟨rfl, by first | rfl | (rw [hb201]; first | done | rfl)⟩
          · refine WO_step 5 [0] [2] True ⟨[(2, B false)], [.row .u8 x1 false]⟩ (by kernel_rfl) trivial ?_
            exact WO_nil rfl ⟨rfl, by first | rfl | (rw [hb201]; first | done | rfl)⟩
        · refine thenS_n ?_
          refine W_ret ?_
          cases h
          exact ⟨[0], True, by kernel_rfl, trivial⟩

/- laws.FnReadAsOfStay -/
def laws_FnReadAsOfStay_L1 (x111 : List Ver) (i112 : Int) (i113 : Int) (i115 : Int) (b116 : Bool) (x1 : List Int) : Nat → Int → Option ((Unit) ⊕ (Unit))
| 0, _ => none
| n + 1, i162 =>
 iteO (decide (i162 < ((x111.length : Nat) : Int)))
 (guardO (0 ≤ i162 ∧ i162 < ((x111.length : Nat) : Int)) <|
 bindO (iteO (decide (((x111.getD i162.toNat dver).node) = i112))
 (guardO (0 ≤ i162 ∧ i162 < ((x111.length : Nat) : Int)) <|
 some (decide (((x111.getD i162.toNat dver).tm) = i113)))
 (some false)) fun b199 =>
 iteO b199
 (some (.inl ()))
 (laws_FnReadAsOfStay_L1 x111 i112 i113 i115 b116 x1 n (w64 (i162 + 1))))
 (some (.inr ()))

theorem laws_FnReadAsOfStay_L1_ok (w : World) (X : Nat → Prop) (θ : List Loc) (x111 : List Ver) (i112 : Int) (i113 : Int) (i115 : Int) (b116 : Bool) (x1 : List Int) (v : (Unit) ⊕ (Unit)) : ∀ (n : Nat) (i162 : Int), laws_FnReadAsOfStay_L1 x111 i112 i113 i115 b116 x1 n i162 = some v → WL EE ⟨w, X, θ, 96, 1⟩ (subC [1, 1, 1, 1, 1, 1, 0, 1, 4, 4] (bodyC Try.f9)) (fun (e : Exit) (s : St) => (match v with | (.inl _) => e = .ret ∧ s = ⟨[(2, B b116)], [.row .u8 x1 false]⟩ | (.inr _) => e = .exit 0 ∧ s = ⟨[(3, .one (.e (.sl 1 0 x111.length))), (4, I i112), (5, I i113), (6, I i115), (7, B b116)], [.row .u8 x1 false, .row .ver x111 true]⟩ : Prop)) ⟨[(3, .one (.e (.sl 1 0 x111.length))), (4, I i112), (5, I i113), (6, I i115), (7, B b116), (10, I i162)], [.row .u8 x1 false, .row .ver x111 true]⟩ := by
  intro n
  induction n with
  | zero => intro _ h; exact none_e h
  | succ n ih =>
    intro i162 h
    rw [laws_FnReadAsOfStay_L1] at h
    refine WL_round ?_
    refine W_seq ?_
    refine W_seq ?_
    refine W_region ?_
    refine WO_step 4 [0, 1] [3, 4, 5, 6, 7, 10, 60] (True ∧ (True ∧ True)) ⟨[(3, .one (.e (.sl 1 0 x111.length))), (4, I i112), (5, I i113), (6, I i115), (7, B b116), (10, I i162), (60, B (decide (i162 < ((x111.length : Nat) : Int))))], [.row .u8 x1 false, .row .ver x111 true]⟩ (by kernel_rfl) ⟨trivial, trivial, trivial⟩ ?_
    refine WO_nil rfl ?_
    refine thenS_n ?_
    refine iteO_e h (fun hb186 h => W_true rfl hb186 ?_) (fun hb186 h => W_false rfl hb186 ?_)
    · refine W_sub [0, 1] [3, 4, 5, 6, 7, 10] (st' := ⟨[(3, .one (.e (.sl 1 0 x111.length))), (4, I i112), (5, I i113), (6, I i115), (7, B b116), (10, I i162)], [.row .u8 x1 false, .row .ver x111 true]⟩) (by kernel_rfl) ?_
      refine W_skip ?_
      refine thenS_n ?_
      refine W_seq ?_
      refine W_block ?_
      refine W_seq ?_
      refine W_region ?_
      refine guardO_e h (fun hg196 h => ?_)
      refine WO_step 8 [0, 1] [3, 4, 5, 6, 7, 10, 70] ((0 ≤ i162 ∧ i162 < ((x111.length : Nat) : Int)) ∧ (True ∧ (True ∧ True))) ⟨[(3, .one (.e (.sl 1 0 x111.length))), (4, I i112), (5, I i113), (6, I i115), (7, B b116), (10, I i162), (70, B (decide (((x111.getD i162.toNat dver).node) = i112)))], [.row .u8 x1 false, .row .ver x111 true]⟩ (by kernel_rfl) ⟨hg196, trivial, trivial, trivial⟩ ?_
      refine bindO_e h (fun b199 hv200 h => ?_)
      refine WO_thru ⟨[(3, .one (.e (.sl 1 0 x111.length))), (4, I i112), (5, I i113), (6, I i115), (7, B b116), (10, I i162), (78, B b199)], [.row .u8 x1 false, .row .ver x111 true]⟩ ?_ ?_
      · refine iteO_e hv200 (fun hb201 hv200 => WO_known 70 true rfl hb201 ?_) (fun hb201 hv200 => WO_known 70 false rfl hb201 ?_)
        · refine guardO_e hv200 (fun hg202 hv200 => ?_)
          refine WO_step 8 [0, 1] [3, 4, 5, 6, 7, 10, 78] ((0 ≤ i162 ∧ i162 < ((x111.length : Nat) : Int)) ∧ (True ∧ (True ∧ True))) ⟨[(3, .one (.e (.sl 1 0 x111.length))), (4, I i112), (5, I i113), (6, I i115), (7, B b116), (10, I i162), (78, B (decide (((x111.getD i162.toNat dver).tm) = i113)))], [.row .u8 x1 false, .row .ver x111 true]⟩ (by kernel_rfl) ⟨hg202, trivial, trivial, trivial⟩ ?_
          cases hv200
          exact WO_nil rfl ⟨rfl, rfl⟩
        · refine WO_step 8 [0, 1] [3, 4, 5, 6, 7, 10, 78] True ⟨[(3, .one (.e (.sl 1 0 x111.length))), (4, I i112), (5, I i113), (6, I i115), (7, B b116), (10, I i162), (78, B false)], [.row .u8 x1 false, .row .ver x111 true]⟩ (by kernel_rfl) trivial ?_
          cases hv200
          exact WO_nil rfl ⟨rfl, rfl⟩
      · refine thenS_n ?_
        refine iteO_e h (fun hb204 h => W_true rfl hb204 ?_) (fun hb204 h => W_false rfl hb204 ?_)
        · refine W_seq ?_
          refine W_region ?_
          refine WO_step 2 [0] [2] True ⟨[(2, B b116)], [.row .u8 x1 false]⟩ (by kernel_rfl) trivial ?_
          refine WO_nil rfl ?_
          refine thenS_n ?_
          refine W_ret ?_
          refine blockS_r ?_
          refine thenS_r ?_
          refine thenS_r ?_
          cases h
          exact And.intro rfl rfl
        · refine W_sub [0, 1] [3, 4, 5, 6, 7, 10] (st' := ⟨[(3, .one (.e (.sl 1 0 x111.length))), (4, I i112), (5, I i113), (6, I i115), (7, B b116), (10, I i162)], [.row .u8 x1 false, .row .ver x111 true]⟩) (by kernel_rfl) ?_
          refine W_skip ?_
          refine blockS_n ?_
          refine thenS_n ?_
          refine W_region ?_
          refine WO_step 3 [0, 1] [3, 4, 5, 6, 7, 10] (True ∧ True) ⟨[(3, .one (.e (.sl 1 0 x111.length))), (4, I i112), (5, I i113), (6, I i115), (7, B b116), (10, I (w64 (i162 + 1)))], [.row .u8 x1 false, .row .ver x111 true]⟩ (by kernel_rfl) ⟨trivial, trivial⟩ ?_
          refine WO_nil rfl ?_
          refine thenS_n ?_
          exact ih _ h
    · refine W_sub [0, 1] [3, 4, 5, 6, 7] (st' := ⟨[(3, .one (.e (.sl 1 0 x111.length))), (4, I i112), (5, I i113), (6, I i115), (7, B b116)], [.row .u8 x1 false, .row .ver x111 true]⟩) (by kernel_rfl) ?_
      refine W_exit ?_
      refine thenS_e ?_
      refine thenS_e ?_
      cases h
      exact And.intro rfl rfl

def laws_FnReadAsOfStay (n : Nat) (x1 : List Int) : Option (Bool) :=
 iteO (decide (1048576 < ((x1.length : Nat) : Int)))
 (some true)
 (bindO (spec_DrawReadAsOf n x1) fun (x111, i112, i113) =>
 bindO (impl_ReadAsOf n x111 i112 i113) fun (i115, b116) =>
 bindO (spec_ReadAsOf n x111 i112 i113) fun (i118, b119) =>
 bindO (iteO (!decide (i115 = i118))
 (some true)
 (iteO (!(b116 == b119))
 (some true)
 (bindO (impl_ValidVersions n x111) fun b129 =>
 some (!b129)))) fun b125 =>
 iteO b125
 (some ((decide (i115 = i118)) && (b116 == b119)))
 (bindO (laws_FnReadAsOfStay_L1 x111 i112 i113 i115 b116 x1 n 0) fun v205 =>
 match v205 with
 | (.inl _) => (some b116)
 | (.inr _) => (bindO (impl_ReadAsOf n x111 i112 (w64 (i113 - 1))) fun (i206, b207) =>
 some ((b207 == b116) && (decide (i206 = i115))))
))

theorem laws_FnReadAsOfStay_ok (n : Nat) (x1 : List Int) (b108 : Bool) (h : laws_FnReadAsOfStay n x1 = some b108) : FOk EE 9 [.one (.e (.sl 0 0 x1.length))] [.row .u8 x1 false] (B b108) [.row .u8 x1 false] := by
  unfold laws_FnReadAsOfStay at h
  refine FOk_of_W 96 1 Try.func9 rfl rfl (Nat.le_of_ble_eq_true rfl) rfl (fun w X θ => ?_)
  refine W_seq ?_
  refine W_region ?_
  refine WO_step 1 [0] [0] True ⟨[(0, .one (.e (.sl 0 0 x1.length)))], [.row .u8 x1 false]⟩ (by kernel_rfl) trivial ?_
  refine WO_nil rfl ?_
  refine thenS_n ?_
  refine W_seq ?_
  refine W_seq ?_
  refine W_region ?_
  refine WO_step 3 [0] [0, 15] (True ∧ (True ∧ True)) ⟨[(0, .one (.e (.sl 0 0 x1.length))), (15, B (decide (1048576 < ((x1.length : Nat) : Int))))], [.row .u8 x1 false]⟩ (by kernel_rfl) ⟨trivial, trivial, trivial⟩ ?_
  refine WO_nil rfl ?_
  refine thenS_n ?_
  refine iteO_e h (fun hb110 h => W_true rfl hb110 ?_) (fun hb110 h => W_false rfl hb110 ?_)
  · refine W_seq ?_
    refine W_region ?_
    refine WO_step 1 [0] [2] True ⟨[(2, B true)], [.row .u8 x1 false]⟩ (by kernel_rfl) trivial ?_
    refine WO_nil rfl ?_
    refine thenS_n ?_
    refine W_ret ?_
    refine thenS_r ?_
    cases h
    exact ⟨[0], True, by kernel_rfl, trivial⟩
  · refine W_sub [0] [0] (st' := ⟨[(0, .one (.e (.sl 0 0 x1.length)))], [.row .u8 x1 false]⟩) (by kernel_rfl) ?_
    refine W_skip ?_
    refine thenS_n ?_
    refine W_seq ?_
    refine W_region ?_
    refine WO_step 1 [0] [17] True ⟨[(17, .one (.e (.sl 0 0 x1.length)))], [.row .u8 x1 false]⟩ (by kernel_rfl) trivial ?_
    refine bindO_e h (fun v215 hc114 h => ?_)
    obtain ⟨x111, i112, i113⟩ := v215
    refine WO_call [.ro 0] Try.f25 rfl rfl rfl (by kernel_rfl) rfl rfl (by kernel_rfl) (spec_DrawReadAsOf_ok n x1 x111 i112 i113 hc114) (And.intro (And.intro rfl rfl) (trivial)) rfl ?_
    refine WO_step 7 [0, 1] [3, 4, 5] True ⟨[(3, .one (.e (.sl 1 0 x111.length))), (4, I i112), (5, I i113)], [.row .u8 x1 false, .row .ver x111 true]⟩ (by kernel_rfl) trivial ?_
    refine WO_nil rfl ?_
    refine thenS_n ?_
    refine W_seq ?_
    refine W_region ?_
    refine WO_step 3 [0, 1] [3, 4, 5, 23, 24, 25] True ⟨[(3, .one (.e (.sl 1 0 x111.length))), (4, I i112), (5, I i113), (23, .one (.e (.sl 1 0 x111.length))), (24, I i112), (25, I i113)], [.row .u8 x1 false, .row .ver x111 true]⟩ (by kernel_rfl) trivial ?_
    refine bindO_e h (fun v214 hc117 h => ?_)
    obtain ⟨i115, b116⟩ := v214
    refine WO_call [.ro 1] Try.f24 rfl rfl rfl (by kernel_rfl) rfl rfl (by kernel_rfl) (impl_ReadAsOf_ok n x111 i112 i113 i115 b116 hc117) (And.intro (And.intro rfl rfl) (trivial)) rfl ?_
    refine WO_step 5 [0, 1] [3, 4, 5, 6, 7] True ⟨[(3, .one (.e (.sl 1 0 x111.length))), (4, I i112), (5, I i113), (6, I i115), (7, B b116)], [.row .u8 x1 false, .row .ver x111 true]⟩ (by kernel_rfl) trivial ?_
    refine WO_nil rfl ?_
    refine thenS_n ?_
    refine W_seq ?_
    refine W_region ?_
    refine WO_step 3 [0, 1] [3, 4, 5, 6, 7, 30, 31, 32] True ⟨[(3, .one (.e (.sl 1 0 x111.length))), (4, I i112), (5, I i113), (6, I i115), (7, B b116), (30, .one (.e (.sl 1 0 x111.length))), (31, I i112), (32, I i113)], [.row .u8 x1 false, .row .ver x111 true]⟩ (by kernel_rfl) trivial ?_
    refine bindO_e h (fun v213 hc120 h => ?_)
    obtain ⟨i118, b119⟩ := v213
    refine WO_call [.ro 1] Try.f23 rfl rfl rfl (by kernel_rfl) rfl rfl (by kernel_rfl) (spec_ReadAsOf_ok n x111 i112 i113 i118 b119 hc120) (And.intro (And.intro rfl rfl) (trivial)) rfl ?_
    refine WO_step 5 [0, 1] [3, 4, 5, 6, 7, 8, 9] True ⟨[(3, .one (.e (.sl 1 0 x111.length))), (4, I i112), (5, I i113), (6, I i115), (7, B b116), (8, I i118), (9, B b119)], [.row .u8 x1 false, .row .ver x111 true]⟩ (by kernel_rfl) trivial ?_
    refine WO_nil rfl ?_
    refine thenS_n ?_
    refine W_seq ?_
    refine W_seq ?_
    refine W_region ?_
    refine WO_step 4 [0, 1] [3, 4, 5, 6, 7, 8, 9, 39] (True ∧ True) ⟨[(3, .one (.e (.sl 1 0 x111.length))), (4, I i112), (5, I i113), (6, I i115), (7, B b116), (8, I i118), (9, B b119), (39, B (!decide (i115 = i118)))], [.row .u8 x1 false, .row .ver x111 true]⟩ (by kernel_rfl) ⟨trivial, trivial⟩ ?_
    refine bindO_e h (fun b125 hv126 h => ?_)
    refine WO_thru ⟨[(3, .one (.e (.sl 1 0 x111.length))), (4, I i112), (5, I i113), (6, I i115), (7, B b116), (8, I i118), (9, B b119), (48, B b125)], [.row .u8 x1 false, .row .ver x111 true]⟩ ?_ ?_
    · refine iteO_e hv126 (fun hb127 hv126 => WO_known 39 true rfl hb127 ?_) (fun hb127 hv126 => WO_known 39 false rfl hb127 ?_)
      · refine WO_step 9 [0, 1] [3, 4, 5, 6, 7, 8, 9, 48] True ⟨[(3, .one (.e (.sl 1 0 x111.length))), (4, I i112), (5, I i113), (6, I i115), (7, B b116), (8, I i118), (9, B b119), (48, B true)], [.row .u8 x1 false, .row .ver x111 true]⟩ (by kernel_rfl) trivial ?_
        cases hv126
        exact WO_nil rfl ⟨rfl, rfl⟩
      · refine WO_step 5 [0, 1] [3, 4, 5, 6, 7, 8, 9, 44] (True ∧ True) ⟨[(3, .one (.e (.sl 1 0 x111.length))), (4, I i112), (5, I i113), (6, I i115), (7, B b116), (8, I i118), (9, B b119), (44, B (!(b116 == b119)))], [.row .u8 x1 false, .row .ver x111 true]⟩ (by kernel_rfl) ⟨trivial, trivial⟩ ?_
        refine iteO_e hv126 (fun hb128 hv126 => WO_known 44 true rfl hb128 ?_) (fun hb128 hv126 => WO_known 44 false rfl hb128 ?_)
        · refine WO_step 4 [0, 1] [3, 4, 5, 6, 7, 8, 9, 48] True ⟨[(3, .one (.e (.sl 1 0 x111.length))), (4, I i112), (5, I i113), (6, I i115), (7, B b116), (8, I i118), (9, B b119), (48, B true)], [.row .u8 x1 false, .row .ver x111 true]⟩ (by kernel_rfl) trivial ?_
          cases hv126
          exact WO_nil rfl ⟨rfl, rfl⟩
        · refine WO_step 1 [0, 1] [3, 4, 5, 6, 7, 8, 9, 44, 45] True ⟨[(3, .one (.e (.sl 1 0 x111.length))), (4, I i112), (5, I i113), (6, I i115), (7, B b116), (8, I i118), (9, B b119), (44, B false), (45, .one (.e (.sl 1 0 x111.length)))], [.row .u8 x1 false, .row .ver x111 true]⟩ (by kernel_rfl) trivial ?_
          refine bindO_e hv126 (fun b129 hc130 hv126 => ?_)
          refine WO_call [.ro 1] Try.f20 rfl rfl rfl (by kernel_rfl) rfl rfl (by kernel_rfl) (impl_ValidVersions_ok n x111 b129 hc130) (And.intro (And.intro rfl rfl) (trivial)) rfl ?_
          refine WO_step 2 [0, 1] [3, 4, 5, 6, 7, 8, 9, 48] True ⟨[(3, .one (.e (.sl 1 0 x111.length))), (4, I i112), (5, I i113), (6, I i115), (7, B b116), (8, I i118), (9, B b119), (48, B (!b129))], [.row .u8 x1 false, .row .ver x111 true]⟩ (by kernel_rfl) trivial ?_
          cases hv126
          exact WO_nil rfl ⟨rfl, rfl⟩
    · refine thenS_n ?_
      refine iteO_e h (fun hb135 h => W_true rfl hb135 ?_) (fun hb135 h => W_false rfl hb135 ?_)
      · refine W_seq ?_
        refine W_region ?_
        refine WO_step 4 [0] [7, 9, 52] (True ∧ True) ⟨[(7, B b116), (9, B b119), (52, B (decide (i115 = i118)))], [.row .u8 x1 false]⟩ (by kernel_rfl) ⟨trivial, trivial⟩ ?_
        refine WO_thru ⟨[(2, B ((decide (i115 = i118)) && (b116 == b119)))], [.row .u8 x1 false]⟩ ?_ ?_
        · refine WO_if 52 rfl (fun hb138 => ?_) (fun hb138 => ?_)
          · refine WO_step 5 [0] [2] (True ∧ True) ⟨[(2, B (b116 == b119))], [.row .u8 x1 false]⟩ (by kernel_rfl) ⟨trivial, trivial⟩ ?_
            exact WO_nil rfl ⟨rfl, by first | rfl | (rw [hb138]; first | done | rfl)⟩
          · refine WO_step 5 [0] [2] True ⟨[(2, B false)], [.row .u8 x1 false]⟩ (by kernel_rfl) trivial ?_
            exact WO_nil rfl ⟨rfl, by first | rfl | (rw [hb138]; first | done | rfl)⟩
        · refine thenS_n ?_
          refine W_ret ?_
          refine thenS_r ?_
          cases h
          exact ⟨[0], True, by kernel_rfl, trivial⟩
      · refine W_sub [0, 1] [3, 4, 5, 6, 7] (st' := ⟨[(3, .one (.e (.sl 1 0 x111.length))), (4, I i112), (5, I i113), (6, I i115), (7, B b116)], [.row .u8 x1 false, .row .ver x111 true]⟩) (by kernel_rfl) ?_
        refine W_skip ?_
        refine thenS_n ?_
        refine W_seq ?_
        refine W_seq ?_
        refine W_region ?_
        refine WO_step 1 [0, 1] [3, 4, 5, 6, 7, 10] True ⟨[(3, .one (.e (.sl 1 0 x111.length))), (4, I i112), (5, I i113), (6, I i115), (7, B b116), (10, I 0)], [.row .u8 x1 false, .row .ver x111 true]⟩ (by kernel_rfl) trivial ?_
        refine WO_nil rfl ?_
        refine thenS_n ?_
        refine W_block ?_
        refine W_loop ?_
        refine bindO_e h (fun v205 hv205 h => ?_)
        refine WL_cut (laws_FnReadAsOfStay_L1_ok w X θ x111 i112 i113 i115 b116 x1 v205 n 0 hv205) ?_
        rcases v205 with _ | _
        · rintro _ _ ⟨rfl, rfl⟩
          refine blockS_r ?_
          refine thenS_r ?_
          cases h
          exact ⟨[0], True, by kernel_rfl, trivial⟩
        · rintro _ _ ⟨rfl, rfl⟩
          refine blockS_y ?_
          refine thenS_n ?_
          refine W_seq ?_
          refine W_region ?_
          refine WO_step 4 [0, 1] [6, 7, 81, 82, 84] (True ∧ True) ⟨[(6, I i115), (7, B b116), (81, .one (.e (.sl 1 0 x111.length))), (82, I i112), (84, I (w64 (i113 - 1)))], [.row .u8 x1 false, .row .ver x111 true]⟩ (by kernel_rfl) ⟨trivial, trivial⟩ ?_
          refine bindO_e h (fun v212 hc208 h => ?_)
          obtain ⟨i206, b207⟩ := v212
          refine WO_call [.ro 1] Try.f24 rfl rfl rfl (by kernel_rfl) rfl rfl (by kernel_rfl) (impl_ReadAsOf_ok n x111 i112 (w64 (i113 - 1)) i206 b207 hc208) (And.intro (And.intro rfl rfl) (trivial)) rfl ?_
          refine WO_step 5 [0] [6, 7, 11, 12] True ⟨[(6, I i115), (7, B b116), (11, I i206), (12, B b207)], [.row .u8 x1 false]⟩ (by kernel_rfl) trivial ?_
          refine WO_nil rfl ?_
          refine thenS_n ?_
          refine W_seq ?_
          refine W_region ?_
          refine WO_step 4 [0] [6, 11, 91] (True ∧ True) ⟨[(6, I i115), (11, I i206), (91, B (b207 == b116))], [.row .u8 x1 false]⟩ (by kernel_rfl) ⟨trivial, trivial⟩ ?_
          refine WO_thru ⟨[(2, B ((b207 == b116) && (decide (i206 = i115))))], [.row .u8 x1 false]⟩ ?_ ?_
          · refine WO_if 91 rfl (fun hb211 => ?_) (fun hb211 => ?_)
            · refine WO_step 5 [0] [2] (True ∧ True) ⟨[(2, B (decide (i206 = i115)))], [.row .u8 x1 false]⟩ (by kernel_rfl) ⟨trivial, trivial⟩ ?_
              exact WO_nil rfl ⟨rfl, by first | rfl | (rw [hb211]; first | done | rfl)⟩
            · refine WO_step 5 [0] [2] True ⟨[(2, B false)], [.row .u8 x1 false]⟩ (by kernel_rfl) trivial ?_
              exact WO_nil rfl ⟨rfl, by first | rfl | (rw [hb211]; first | done | rfl)⟩
          · refine thenS_n ?_
            refine W_ret ?_
            cases h
            exact ⟨[0], True, by kernel_rfl, trivial⟩

/- spec.DrawAddVersion -/
def spec_DrawAddVersion (n : Nat) (x1 : List Int) : Option ((List Ver) × Int × Int × Int) :=
 bindO (spec_newReader x1) fun k37 =>
 bindO (spec_someVersions n x1 k37 0) fun (i39, x40) =>
 bindO (spec_reader_pick x1 k37 i39 4) fun i42 =>
 bindO (spec_someValue x1 k37 (w64 (i39 + 1))) fun (i44, i45) =>
 bindO (spec_reader_one x1 k37 i44 [0, 10, 40, 100, 101, 60]) fun (i47, i48) =>
 bindO (iteO (decide (0 < ((x40.length : Nat) : Int)))
 (bindO (spec_reader_pick x1 k37 i47 2) fun i57 =>
 some ((w64 (i47 + 1)), (decide (i57 = 0))))
 (some (i47, false))) fun (i53, b54) =>
 bindO (iteO b54
 (guardO (0 ≤ (w64 (((x40.length : Nat) : Int) - 1)) ∧ (w64 (((x40.length : Nat) : Int) - 1)) < ((x40.length : Nat) : Int)) <|
 bindO (spec_reader_pick x1 k37 i53 3) fun i67 =>
 some (w64 (((x40.getD ((w64 (((x40.length : Nat) : Int) - 1)).toNat) dver).tm) + i67)))
 (some i48)) fun i63 =>
 some (x40, i42, i45, i63)

theorem spec_DrawAddVersion_ok (n : Nat) (x1 : List Int) (x33 : List Ver) (i34 : Int) (i35 : Int) (i36 : Int) (h : spec_DrawAddVersion n x1 = some (x33, i34, i35, i36)) : FOk EE 26 [.one (.e (.sl 0 0 x1.length))] [.row .u8 x1 false] (.tup [.e (.sl 1 0 x33.length), .agg [cI i34, cI i35, cI i36]]) [.row .u8 x1 false, .row .ver x33 true] := by
  unfold spec_DrawAddVersion at h
  refine FOk_of_W 40 1 Try.func26 rfl rfl (Nat.le_of_ble_eq_true rfl) rfl (fun w X θ => ?_)
  refine W_seq ?_
  refine W_region ?_
  refine WO_step 2 [0, 1] [0, 3] (True ∧ True) ⟨[(0, .one (.e (.sl 0 0 x1.length))), (3, .one (.e (.p 1 0)))], [.row .u8 x1 false, .cells [cI 0, cI 0, cI 0]]⟩ (by kernel_rfl) ⟨trivial, trivial⟩ ?_
  refine WO_nil rfl ?_
  refine thenS_n ?_
  refine W_seq ?_
  refine W_region ?_
  refine WO_step 1 [0, 1] [3, 7] True ⟨[(3, .one (.e (.p 1 0))), (7, .one (.e (.sl 0 0 x1.length)))], [.row .u8 x1 false, .cells [cI 0, cI 0, cI 0]]⟩ (by kernel_rfl) trivial ?_
  refine bindO_e h (fun k37 hc38 h => ?_)
  refine WO_call [.ro 0] Try.f40 rfl rfl rfl (by kernel_rfl) rfl rfl (by kernel_rfl) (spec_newReader_ok x1 k37 hc38) (And.intro (And.intro rfl rfl) (trivial)) rfl ?_
  refine WO_step 1 [0, 1, 2] [3, 4] True ⟨[(3, .one (.e (.p 1 0))), (4, .one (.e (.p 2 0)))], [.row .u8 x1 false, .cells [cI 0, cI 0, cI 0], .cells [.sl 0 0 k37, cI 0]]⟩ (by kernel_rfl) trivial ?_
  refine WO_nil rfl ?_
  refine thenS_n ?_
  refine W_seq ?_
  refine W_region ?_
  refine WO_step 1 [0, 1, 2] [3, 4, 9] True ⟨[(3, .one (.e (.p 1 0))), (4, .one (.e (.p 2 0))), (9, .one (.e (.p 2 0)))], [.row .u8 x1 false, .cells [cI 0, cI 0, cI 0], .cells [.sl 0 0 k37, cI 0]]⟩ (by kernel_rfl) trivial ?_
  refine bindO_e h (fun v71 hc41 h => ?_)
  obtain ⟨i39, x40⟩ := v71
  refine WO_call [.own 2, .ro 0] Try.f39 rfl rfl rfl (by kernel_rfl) rfl rfl (by kernel_rfl) (spec_someVersions_ok n x1 k37 0 i39 x40 hc41) (And.intro (trivial) (And.intro (And.intro rfl rfl) (trivial))) rfl ?_
  refine WO_step 1 [0, 1, 2, 3] [3, 4, 5] True ⟨[(3, .one (.e (.p 1 0))), (4, .one (.e (.p 2 0))), (5, .one (.e (.sl 3 0 x40.length)))], [.row .u8 x1 false, .cells [cI 0, cI 0, cI 0], .cells [.sl 0 0 k37, cI i39], .row .ver x40 true]⟩ (by kernel_rfl) trivial ?_
  refine WO_nil rfl ?_
  refine thenS_n ?_
  refine W_seq ?_
  refine W_region ?_
  refine WO_step 1 [0, 1, 2, 3] [3, 4, 5, 11] True ⟨[(3, .one (.e (.p 1 0))), (4, .one (.e (.p 2 0))), (5, .one (.e (.sl 3 0 x40.length))), (11, .one (.e (.p 2 0)))], [.row .u8 x1 false, .cells [cI 0, cI 0, cI 0], .cells [.sl 0 0 k37, cI i39], .row .ver x40 true]⟩ (by kernel_rfl) trivial ?_
  refine bindO_e h (fun i42 hc43 h => ?_)
  refine WO_call [.own 2, .ro 0] Try.f42 rfl rfl rfl (by kernel_rfl) rfl rfl (by kernel_rfl) (spec_reader_pick_ok x1 k37 i39 4 i42 hc43) (And.intro (trivial) (And.intro (And.intro rfl rfl) (trivial))) rfl ?_
  refine WO_step 1 [0, 1, 2, 3] [3, 4, 5, 12, 13] True ⟨[(3, .one (.e (.p 1 0))), (4, .one (.e (.p 2 0))), (5, .one (.e (.sl 3 0 x40.length))), (12, I i42), (13, .one (.e (.p 2 0)))], [.row .u8 x1 false, .cells [cI 0, cI 0, cI 0], .cells [.sl 0 0 k37, cI (w64 (i39 + 1))], .row .ver x40 true]⟩ (by kernel_rfl) trivial ?_
  refine bindO_e h (fun v70 hc46 h => ?_)
  obtain ⟨i44, i45⟩ := v70
  refine WO_call [.own 2, .ro 0] Try.f44 rfl rfl rfl (by kernel_rfl) rfl rfl (by kernel_rfl) (spec_someValue_ok x1 k37 (w64 (i39 + 1)) i44 i45 hc46) (And.intro (trivial) (And.intro (And.intro rfl rfl) (trivial))) rfl ?_
  refine WO_step 2 [0, 1, 2, 3, 4] [3, 4, 5, 12, 14, 15, 16] True ⟨[(3, .one (.e (.p 1 0))), (4, .one (.e (.p 2 0))), (5, .one (.e (.sl 3 0 x40.length))), (12, I i42), (14, I i45), (15, .one (.e (.p 2 0))), (16, .one (.e (.sl 4 0 ([0, 10, 40, 100, 101, 60].length))))], [.row .u8 x1 false, .cells [cI 0, cI 0, cI 0], .cells [.sl 0 0 k37, cI i44], .row .ver x40 true, .row .int [0, 10, 40, 100, 101, 60] true]⟩ (by kernel_rfl) trivial ?_
  refine bindO_e h (fun v69 hc49 h => ?_)
  obtain ⟨i47, i48⟩ := v69
  refine WO_call [.own 2, .ro 0, .ro 4] Try.f43 rfl rfl rfl (by kernel_rfl) rfl rfl (by kernel_rfl) (spec_reader_one_ok x1 k37 i44 [0, 10, 40, 100, 101, 60] i47 i48 hc49) (And.intro (trivial) (And.intro (And.intro rfl rfl) (And.intro (And.intro rfl rfl) (trivial)))) rfl ?_
  refine WO_step 3 [0, 1, 2, 3, 5] [3, 4, 5, 6] (True ∧ (True ∧ True)) ⟨[(3, .one (.e (.p 1 0))), (4, .one (.e (.p 2 0))), (5, .one (.e (.sl 3 0 x40.length))), (6, .one (.e (.p 4 0)))], [.row .u8 x1 false, .cells [cI 0, cI 0, cI 0], .cells [.sl 0 0 k37, cI i47], .row .ver x40 true, .cells [cI i42, cI i45, cI i48]]⟩ (by kernel_rfl) ⟨trivial, trivial, trivial⟩ ?_
  refine WO_nil rfl ?_
  refine thenS_n ?_
  refine W_seq ?_
  refine W_seq ?_
  refine W_region ?_
  refine WO_step 4 [0, 1, 2, 3, 4] [3, 4, 5, 6, 22] (True ∧ (True ∧ True)) ⟨[(3, .one (.e (.p 1 0))), (4, .one (.e (.p 2 0))), (5, .one (.e (.sl 3 0 x40.length))), (6, .one (.e (.p 4 0))), (22, B (decide (0 < ((x40.length : Nat) : Int))))], [.row .u8 x1 false, .cells [cI 0, cI 0, cI 0], .cells [.sl 0 0 k37, cI i47], .row .ver x40 true, .cells [cI i42, cI i45, cI i48]]⟩ (by kernel_rfl) ⟨trivial, trivial, trivial⟩ ?_
  refine bindO_e h (fun v55 hv55 h => ?_)
  obtain ⟨i53, b54⟩ := v55
  refine WO_thru ⟨[(3, .one (.e (.p 1 0))), (4, .one (.e (.p 2 0))), (5, .one (.e (.sl 3 0 x40.length))), (6, .one (.e (.p 4 0))), (26, B b54)], [.row .u8 x1 false, .cells [cI 0, cI 0, cI 0], .cells [.sl 0 0 k37, cI i53], .row .ver x40 true, .cells [cI i42, cI i45, cI i48]]⟩ ?_ ?_
  · refine iteO_e hv55 (fun hb56 hv55 => WO_known 22 true rfl hb56 ?_) (fun hb56 hv55 => WO_known 22 false rfl hb56 ?_)
    · refine WO_step 1 [0, 1, 2, 3, 4] [3, 4, 5, 6, 22, 23] True ⟨[(3, .one (.e (.p 1 0))), (4, .one (.e (.p 2 0))), (5, .one (.e (.sl 3 0 x40.length))), (6, .one (.e (.p 4 0))), (22, B true), (23, .one (.e (.p 2 0)))], [.row .u8 x1 false, .cells [cI 0, cI 0, cI 0], .cells [.sl 0 0 k37, cI i47], .row .ver x40 true, .cells [cI i42, cI i45, cI i48]]⟩ (by kernel_rfl) trivial ?_
      refine bindO_e hv55 (fun i57 hc58 hv55 => ?_)
      refine WO_call [.own 2, .ro 0] Try.f42 rfl rfl rfl (by kernel_rfl) rfl rfl (by kernel_rfl) (spec_reader_pick_ok x1 k37 i47 2 i57 hc58) (And.intro (trivial) (And.intro (And.intro rfl rfl) (trivial))) rfl ?_
      refine WO_step 2 [0, 1, 2, 3, 4] [3, 4, 5, 6, 26] (True ∧ True) ⟨[(3, .one (.e (.p 1 0))), (4, .one (.e (.p 2 0))), (5, .one (.e (.sl 3 0 x40.length))), (6, .one (.e (.p 4 0))), (26, B (decide (i57 = 0)))], [.row .u8 x1 false, .cells [cI 0, cI 0, cI 0], .cells [.sl 0 0 k37, cI (w64 (i47 + 1))], .row .ver x40 true, .cells [cI i42, cI i45, cI i48]]⟩ (by kernel_rfl) ⟨trivial, trivial⟩ ?_
      cases hv55
      exact WO_nil rfl ⟨rfl, rfl⟩
    · refine WO_step 4 [0, 1, 2, 3, 4] [3, 4, 5, 6, 26] True ⟨[(3, .one (.e (.p 1 0))), (4, .one (.e (.p 2 0))), (5, .one (.e (.sl 3 0 x40.length))), (6, .one (.e (.p 4 0))), (26, B false)], [.row .u8 x1 false, .cells [cI 0, cI 0, cI 0], .cells [.sl 0 0 k37, cI i47], .row .ver x40 true, .cells [cI i42, cI i45, cI i48]]⟩ (by kernel_rfl) trivial ?_
      cases hv55
      exact WO_nil rfl ⟨rfl, rfl⟩
  · refine thenS_n ?_
    refine bindO_e h (fun i63 hi63 h => ?_)
    refine W_cut (Q' := fun (e : Exit) (s : St) => e = .normal ∧ s = ⟨[(3, .one (.e (.p 1 0))), (5, .one (.e (.sl 2 0 x40.length))), (6, .one (.e (.p 3 0)))], [.row .u8 x1 false, .cells [cI 0, cI 0, cI 0], .row .ver x40 true, .cells [cI i42, cI i45, cI i63]]⟩) ?_ ?_
    · refine iteO_e hi63 (fun hb65 hi63 => W_true rfl hb65 ?_) (fun hb65 hi63 => W_false rfl hb65 ?_)
      · refine guardO_e hi63 (fun hg66 hi63 => ?_)
        refine bindO_e hi63 (fun i67 hc68 hi63 => ?_)
        refine W_cut (Q' := fun (e : Exit) (s : St) => e = .normal ∧ s = ⟨[(3, .one (.e (.p 1 0))), (5, .one (.e (.sl 2 0 x40.length))), (6, .one (.e (.p 3 0)))], [.row .u8 x1 false, .cells [cI 0, cI 0, cI 0], .row .ver x40 true, .cells [cI i42, cI i45, cI (w64 (((x40.getD ((w64 (((x40.length : Nat) : Int) - 1)).toNat) dver).tm) + i67))]]⟩) ?_ ?_
        · refine W_draw [2, 4] false (by kernel_rfl) (by kernel_rfl) ?_
          refine WD_takeK [0, 1, 2, 3, 4, 5, 6, 7] [3, 5, 6, 33, 34] [3, 5, 6, 33, 34] (φ := (True ∧ True ∧ (True ∧ True ∧ ((0 ≤ (w64 (((x40.length : Nat) : Int) - 1)) ∧ (w64 (((x40.length : Nat) : Int) - 1)) < ((x40.length : Nat) : Int)) ∧ (0 ≤ (w64 (((x40.length : Nat) : Int) - 1)) ∧ (w64 (((x40.length : Nat) : Int) - 1)) < ((x40.length : Nat) : Int)) ∧ (True ∧ True ∧ True))))) (ls' := #[true, true, true, true, true, true, true, true, false, false, false, false]) (Ts' := [(3, .one (.e (.p 1 0))), (5, .one (.e (.sl 3 0 x40.length))), (6, .one (.e (.p 4 0))), (33, I ((x40.getD ((w64 (((x40.length : Nat) : Int) - 1)).toNat) dver).tm)), (34, .one (.e (.p 2 0)))]) (st' := ⟨[(3, .one (.e (.p 1 0))), (5, .one (.e (.sl 3 0 x40.length))), (6, .one (.e (.p 4 0))), (33, I ((x40.getD ((w64 (((x40.length : Nat) : Int) - 1)).toNat) dver).tm)), (34, .one (.e (.p 2 0)))], [.row .u8 x1 false, .cells [cI 0, cI 0, cI 0], .cells [.sl 0 0 k37, cI i53], .row .ver x40 true, .cells [cI i42, cI i45, cI i48]]⟩) (n2 := 4) (by kernel_rfl) ⟨trivial, trivial, trivial, trivial, hg66, hg66, trivial, trivial, trivial⟩ rfl ?_
          refine WD_all [8] (n := 3) (by kernel_rfl) rfl ?_
          refine WM_call [.own 2, .ro 0] Try.f42 rfl rfl (by kernel_rfl) rfl rfl (by kernel_rfl) (spec_reader_pick_ok x1 k37 i53 3 i67 hc68) (And.intro (trivial) (And.intro (And.intro rfl rfl) (trivial))) rfl (And.intro rfl (And.intro (And.intro rfl rfl) (And.intro rfl (trivial)))) ?_
          refine WD_takeK [9, 10] [3, 5, 6, 36, 37] [3, 5, 6, 36, 37] (φ := (True ∧ True ∧ True)) (ls' := #[true, true, true, true, true, true, true, true, true, true, true, false]) (Ts' := [(3, .one (.e (.p 1 0))), (5, .one (.e (.sl 3 0 x40.length))), (6, .one (.e (.p 4 0))), (36, I (w64 (((x40.getD ((w64 (((x40.length : Nat) : Int) - 1)).toNat) dver).tm) + i67))), (37, .one (.e (.p 4 2)))]) (st' := ⟨[(3, .one (.e (.p 1 0))), (5, .one (.e (.sl 3 0 x40.length))), (6, .one (.e (.p 4 0))), (36, I (w64 (((x40.getD ((w64 (((x40.length : Nat) : Int) - 1)).toNat) dver).tm) + i67))), (37, .one (.e (.p 4 2)))], [.row .u8 x1 false, .cells [cI 0, cI 0, cI 0], .cells [.sl 0 0 k37, cI (w64 (i53 + 1))], .row .ver x40 true, .cells [cI i42, cI i45, cI i48]]⟩) (n2 := 1) (by kernel_rfl) ⟨trivial, trivial, trivial⟩ rfl ?_
          refine WD_all [11] (n := 0) (by kernel_rfl) rfl ?_
          refine WM_store (u := .one (.e (.p 4 2))) (v := I (w64 (((x40.getD ((w64 (((x40.length : Nat) : Int) - 1)).toNat) dver).tm) + i67))) (φ := True) (H' := [.row .u8 x1 false, .cells [cI 0, cI 0, cI 0], .cells [.sl 0 0 k37, cI (w64 (i53 + 1))], .row .ver x40 true, .cells [cI i42, cI i45, cI (w64 (((x40.getD ((w64 (((x40.length : Nat) : Int) - 1)).toNat) dver).tm) + i67))]]) rfl rfl rfl rfl rfl (by kernel_rfl) trivial rfl (And.intro rfl (And.intro (And.intro rfl rfl) (And.intro rfl (trivial)))) ?_
          exact WD_done [0, 1, 3, 4] [3, 5, 6] (st' := ⟨[(3, .one (.e (.p 1 0))), (5, .one (.e (.sl 2 0 x40.length))), (6, .one (.e (.p 3 0)))], [.row .u8 x1 false, .cells [cI 0, cI 0, cI 0], .row .ver x40 true, .cells [cI i42, cI i45, cI (w64 (((x40.getD ((w64 (((x40.length : Nat) : Int) - 1)).toNat) dver).tm) + i67))]]⟩) (by kernel_rfl) (by kernel_rfl) (And.intro rfl rfl)
        · rintro _ _ ⟨rfl, rfl⟩
          cases hi63
          exact And.intro rfl rfl
      · refine W_sub [0, 1, 3, 4] [3, 5, 6] (st' := ⟨[(3, .one (.e (.p 1 0))), (5, .one (.e (.sl 2 0 x40.length))), (6, .one (.e (.p 3 0)))], [.row .u8 x1 false, .cells [cI 0, cI 0, cI 0], .row .ver x40 true, .cells [cI i42, cI i45, cI i48]]⟩) (by kernel_rfl) ?_
        refine W_skip ?_
        cases hi63
        exact And.intro rfl rfl
    · rintro _ _ ⟨rfl, rfl⟩
      refine thenS_n ?_
      refine W_seq ?_
      refine W_cut (Q' := fun (e : Exit) (s : St) => e = .normal ∧ s = ⟨[(2, .one (.e (.sl 1 0 x40.length))), (3, .one (.e (.p 2 0)))], [.row .u8 x1 false, .row .ver x40 true, .cells [cI i42, cI i45, cI i63]]⟩) ?_ ?_
      · refine W_draw [1] false (by kernel_rfl) (by kernel_rfl) ?_
        refine WD_takeK [0, 1, 2] [2, 3, 39] [2, 3, 39] (φ := (True ∧ True ∧ True)) (ls' := #[true, true, true, false]) (Ts' := [(2, .one (.e (.sl 2 0 x40.length))), (3, .one (.e (.p 1 0))), (39, AGG [cI i42, cI i45, cI i63])]) (st' := ⟨[(2, .one (.e (.sl 2 0 x40.length))), (3, .one (.e (.p 1 0))), (39, AGG [cI i42, cI i45, cI i63])], [.row .u8 x1 false, .cells [cI 0, cI 0, cI 0], .row .ver x40 true, .cells [cI i42, cI i45, cI i63]]⟩) (n2 := 1) (by kernel_rfl) ⟨trivial, trivial, trivial⟩ rfl ?_
        refine WD_all [3] (n := 0) (by kernel_rfl) rfl ?_
        refine WM_store (u := .one (.e (.p 1 0))) (v := AGG [cI i42, cI i45, cI i63]) (φ := True) (H' := [.row .u8 x1 false, .cells [cI i42, cI i45, cI i63], .row .ver x40 true, .cells [cI i42, cI i45, cI i63]]) rfl rfl rfl rfl rfl (by kernel_rfl) trivial rfl (And.intro rfl (And.intro rfl (And.intro (And.intro rfl rfl) (trivial)))) ?_
        exact WD_done [0, 2, 1] [2, 3] (st' := ⟨[(2, .one (.e (.sl 1 0 x40.length))), (3, .one (.e (.p 2 0)))], [.row .u8 x1 false, .row .ver x40 true, .cells [cI i42, cI i45, cI i63]]⟩) (by kernel_rfl) (by kernel_rfl) (And.intro rfl rfl)
      · rintro _ _ ⟨rfl, rfl⟩
        refine thenS_n ?_
        refine W_ret ?_
        cases h
        exact ⟨[0, 1], True, by kernel_rfl, trivial⟩

/- impl.Version] -/
def slices_Clone_Version (x1 : List Ver) : Option (List Ver) :=
 guardO (x1.length ≤ 1099511627776) <|
 some x1

theorem slices_Clone_Version_ok (x1 x2 : List Ver) (h : slices_Clone_Version x1 = some x2) : FOk EE 45 [.one (.e (.sl 0 0 x1.length))] [.row .ver x1 false] (.one (.e (.sl 1 0 x2.length))) [.row .ver x1 false, .row .ver x2 true] := by
  unfold slices_Clone_Version at h
  refine guardO_e h (fun hg h => ?_)
  cases h
  refine FOk_of_W 8 1 Try.func45 rfl rfl (Nat.le_of_ble_eq_true rfl) rfl (fun w X θ => ?_)
  refine W_seq ?_
  refine W_region ?_
  refine WO_step 1 [0] [0] True ⟨[(0, .one (.e (.sl 0 0 x1.length)))], [.row .ver x1 false]⟩ (by kernel_rfl) trivial ?_
  refine WO_nil rfl ?_
  refine thenS_n ?_
  refine W_seq ?_
  refine W_seq ?_
  refine W_region ?_
  refine WO_step 1 [0] [0, 3] True ⟨[(0, .one (.e (.sl 0 0 x1.length))), (3, .one (.e (.sl 0 0 x1.length)))], [.row .ver x1 false]⟩ (by kernel_rfl) trivial ?_
  refine WO_isnil (R := .ver) (xs := x1) (own := false) rfl rfl rfl rfl Try.underlying25 rfl rfl rfl (fun b hb => ?_)
  refine WO_nil rfl ?_
  refine thenS_n ?_
  cases b with
  | true =>
    have e : x1 = [] := List.eq_nil_of_length_eq_zero (hb rfl)
    subst e
    refine W_true rfl rfl ?_
    refine W_seq ?_
    refine W_region ?_
    refine WO_step 1 [0] [2] True ⟨[(2, .one (.e .nsl))], [.row .ver [] false]⟩ (by kernel_rfl) trivial ?_
    refine WO_nil rfl ?_
    refine thenS_n ?_
    refine W_nil 2 .ver rfl ?_
    refine W_ret ?_
    refine thenS_r ?_
    exact ⟨[0, 1], True, by kernel_rfl, trivial⟩
  | false =>
    refine W_false rfl rfl ?_
    refine W_sub [0] [0] (st' := ⟨[(0, .one (.e (.sl 0 0 x1.length)))], [.row .ver x1 false]⟩) (by kernel_rfl) ?_
    refine W_skip ?_
    refine thenS_n ?_
    refine W_seq ?_
    refine W_region ?_
    refine WO_step 4 [0, 2] [2] ((0 = 0 ∧ 0 = ([] : List Ver).length ∧ ([] : List Ver).length + ((x1.drop 0).take x1.length).length ≤ 1099511627776) ∧ True) ⟨[(2, .one (.e (.sl 1 0 (([] : List Ver) ++ ((x1.drop 0).take x1.length)).length)))], [.row .ver x1 false, .row .ver (([] : List Ver) ++ ((x1.drop 0).take x1.length)) true]⟩ (by kernel_rfl) ⟨⟨rfl, rfl, by simpa using hg⟩, trivial⟩ ?_
    refine WO_eq (st' := ⟨[(2, .one (.e (.sl 1 0 x1.length)))], [.row .ver x1 false, .row .ver x1 true]⟩) (by simp only [List.drop_zero, List.take_length, List.nil_append]) ?_
    refine WO_nil rfl ?_
    refine thenS_n ?_
    refine W_ret ?_
    exact ⟨[0, 1], True, by kernel_rfl, trivial⟩

/- impl.AddVersion -/
def impl_AddVersion (n : Nat) (x1 : List Ver) (x2 : Ver) : Option ((List Ver) × Bool) :=
 bindO (impl_ValidVersions n x1) fun b16 =>
 iteO (!b16)
 (some (([] : List Ver), false))
 (bindO (slices_Clone_Version x1) fun x20 =>
 guardO (0 = 0 ∧ x20.length = x20.length ∧ x20.length + (([(⟨x2.node, x2.value, x2.tm⟩ : Ver)].drop 0).take ([(⟨x2.node, x2.value, x2.tm⟩ : Ver)].length)).length ≤ 1099511627776) <|
 bindO (impl_ValidVersions n (x20 ++ (([(⟨x2.node, x2.value, x2.tm⟩ : Ver)].drop 0).take ([(⟨x2.node, x2.value, x2.tm⟩ : Ver)].length)))) fun b23 =>
 iteO (!b23)
 (some (([] : List Ver), false))
 (some ((x20 ++ (([(⟨x2.node, x2.value, x2.tm⟩ : Ver)].drop 0).take ([(⟨x2.node, x2.value, x2.tm⟩ : Ver)].length))), true)))

theorem impl_AddVersion_ok (n : Nat) (x1 : List Ver) (x2 : Ver) (x14 : List Ver) (b15 : Bool) (h : impl_AddVersion n x1 x2 = some (x14, b15)) : FOk EE 27 [.one (.e (.sl 0 0 x1.length)), AGG [cI x2.node, cI x2.value, cI x2.tm]] [.row .ver x1 false] (.tup [.e (.sl 1 0 x14.length), .e (cB b15)]) [.row .ver x1 false, .row .ver x14 true] := by
  unfold impl_AddVersion at h
  refine FOk_of_W 19 1 Try.func27 rfl rfl (Nat.le_of_ble_eq_true rfl) rfl (fun w X θ => ?_)
  refine W_seq ?_
  refine W_region ?_
  refine WO_step 3 [0, 1] [0, 3] (True ∧ True) ⟨[(0, .one (.e (.sl 0 0 x1.length))), (3, .one (.e (.p 1 0)))], [.row .ver x1 false, .cells [cI x2.node, cI x2.value, cI x2.tm]]⟩ (by kernel_rfl) ⟨trivial, trivial⟩ ?_
  refine WO_nil rfl ?_
  refine thenS_n ?_
  refine W_seq ?_
  refine W_seq ?_
  refine W_region ?_
  refine WO_step 1 [0, 1] [0, 3, 7] True ⟨[(0, .one (.e (.sl 0 0 x1.length))), (3, .one (.e (.p 1 0))), (7, .one (.e (.sl 0 0 x1.length)))], [.row .ver x1 false, .cells [cI x2.node, cI x2.value, cI x2.tm]]⟩ (by kernel_rfl) trivial ?_
  refine bindO_e h (fun b16 hc17 h => ?_)
  refine WO_call [.ro 0] Try.f20 rfl rfl rfl (by kernel_rfl) rfl rfl (by kernel_rfl) (impl_ValidVersions_ok n x1 b16 hc17) (And.intro (And.intro rfl rfl) (trivial)) rfl ?_
  refine WO_step 1 [0, 1] [0, 3, 9] True ⟨[(0, .one (.e (.sl 0 0 x1.length))), (3, .one (.e (.p 1 0))), (9, B (!b16))], [.row .ver x1 false, .cells [cI x2.node, cI x2.value, cI x2.tm]]⟩ (by kernel_rfl) trivial ?_
  refine WO_nil rfl ?_
  refine thenS_n ?_
  refine iteO_e h (fun hb19 h => W_true rfl hb19 ?_) (fun hb19 h => W_false rfl hb19 ?_)
  · refine W_seq ?_
    refine W_region ?_
    refine WO_step 2 [0] [4, 5] True ⟨[(4, .one (.e (.nsl))), (5, B false)], [.row .ver x1 false]⟩ (by kernel_rfl) trivial ?_
    refine WO_nilrow 4 .ver rfl ?_
    refine WO_sub [0, 1] [4, 5] (st' := ⟨[(4, .one (.e (.sl 1 0 (([] : List Ver).length)))), (5, B false)], [.row .ver x1 false, .row .ver ([] : List Ver) true]⟩) (by kernel_rfl) ?_
    refine WO_nil rfl ?_
    refine thenS_n ?_
    refine W_ret ?_
    refine thenS_r ?_
    cases h
    exact ⟨[0, 1], True, by kernel_rfl, trivial⟩
  · refine W_sub [0, 1] [0, 3] (st' := ⟨[(0, .one (.e (.sl 0 0 x1.length))), (3, .one (.e (.p 1 0)))], [.row .ver x1 false, .cells [cI x2.node, cI x2.value, cI x2.tm]]⟩) (by kernel_rfl) ?_
    refine W_skip ?_
    refine thenS_n ?_
    refine W_seq ?_
    refine bindO_e h (fun x20 hc21 h => ?_)
    refine guardO_e h (fun hg22 h => ?_)
    refine W_cut (Q' := fun (e : Exit) (s : St) => e = .normal ∧ s = ⟨[(6, .one (.e (.sl 1 0 ((x20 ++ (([(⟨x2.node, x2.value, x2.tm⟩ : Ver)].drop 0).take ([(⟨x2.node, x2.value, x2.tm⟩ : Ver)].length))).length))))], [.row .ver x1 false, .row .ver (x20 ++ (([(⟨x2.node, x2.value, x2.tm⟩ : Ver)].drop 0).take ([(⟨x2.node, x2.value, x2.tm⟩ : Ver)].length))) true]⟩) ?_ ?_
    · refine W_draw [] false (by kernel_rfl) (by kernel_rfl) ?_
      refine WD_takeK [0, 2] [10, 12] [10, 12] (φ := (True ∧ True ∧ True)) (ls' := #[true, false, true, false, false, false]) (Ts' := [(10, .one (.e (.sl 0 0 x1.length))), (12, AGG [cI x2.node, cI x2.value, cI x2.tm])]) (st' := ⟨[(10, .one (.e (.sl 0 0 x1.length))), (12, AGG [cI x2.node, cI x2.value, cI x2.tm])], [.row .ver x1 false, .cells [cI x2.node, cI x2.value, cI x2.tm]]⟩) (n2 := 4) (by kernel_rfl) ⟨trivial, trivial, trivial⟩ rfl ?_
      refine WD_all [1, 3] (n := 3) (by kernel_rfl) rfl (And.intro ?_ (?_))
      · refine WM_call [.ro 0] Try.f45 rfl rfl (by kernel_rfl) rfl rfl (by kernel_rfl) (slices_Clone_Version_ok x1 x20 hc21) (And.intro (And.intro rfl rfl) (trivial)) rfl (And.intro rfl (And.intro (And.intro rfl rfl) (trivial))) ?_
        refine WD_all [3] (n := 2) (by kernel_rfl) rfl ?_
        refine WM_op (φ := True) (v := .one (.e (.sl 3 0 ([(⟨x2.node, x2.value, x2.tm⟩ : Ver)].length)))) (H' := [.row .ver x1 false, .cells [cI x2.node, cI x2.value, cI x2.tm], .row .ver x20 true, .row .ver [(⟨x2.node, x2.value, x2.tm⟩ : Ver)] true]) rfl rfl (by kernel_rfl) trivial rfl (And.intro rfl (And.intro (And.intro rfl rfl) (trivial))) ?_
        refine WD_all [4] (n := 1) (by kernel_rfl) rfl ?_
        refine WM_op (φ := 0 = 0 ∧ x20.length = x20.length ∧ x20.length + (([(⟨x2.node, x2.value, x2.tm⟩ : Ver)].drop 0).take ([(⟨x2.node, x2.value, x2.tm⟩ : Ver)].length)).length ≤ 1099511627776) (v := .one (.e (.sl 4 0 ((x20 ++ (([(⟨x2.node, x2.value, x2.tm⟩ : Ver)].drop 0).take ([(⟨x2.node, x2.value, x2.tm⟩ : Ver)].length))).length)))) (H' := [.row .ver x1 false, .cells [cI x2.node, cI x2.value, cI x2.tm], .dead, .row .ver [(⟨x2.node, x2.value, x2.tm⟩ : Ver)] true, .row .ver (x20 ++ (([(⟨x2.node, x2.value, x2.tm⟩ : Ver)].drop 0).take ([(⟨x2.node, x2.value, x2.tm⟩ : Ver)].length))) true]) rfl rfl (by kernel_rfl) hg22 rfl (And.intro rfl (And.intro (And.intro rfl rfl) (trivial))) ?_
        refine WD_all [5] (n := 0) (by kernel_rfl) rfl ?_
        refine WM_op (φ := True) (v := .one (.e (.sl 4 0 ((x20 ++ (([(⟨x2.node, x2.value, x2.tm⟩ : Ver)].drop 0).take ([(⟨x2.node, x2.value, x2.tm⟩ : Ver)].length))).length)))) (H' := [.row .ver x1 false, .cells [cI x2.node, cI x2.value, cI x2.tm], .dead, .row .ver [(⟨x2.node, x2.value, x2.tm⟩ : Ver)] true, .row .ver (x20 ++ (([(⟨x2.node, x2.value, x2.tm⟩ : Ver)].drop 0).take ([(⟨x2.node, x2.value, x2.tm⟩ : Ver)].length))) true]) rfl rfl (by kernel_rfl) trivial rfl (And.intro rfl (And.intro (And.intro rfl rfl) (trivial))) ?_
        exact WD_done [0, 4] [6] (st' := ⟨[(6, .one (.e (.sl 1 0 ((x20 ++ (([(⟨x2.node, x2.value, x2.tm⟩ : Ver)].drop 0).take ([(⟨x2.node, x2.value, x2.tm⟩ : Ver)].length))).length))))], [.row .ver x1 false, .row .ver (x20 ++ (([(⟨x2.node, x2.value, x2.tm⟩ : Ver)].drop 0).take ([(⟨x2.node, x2.value, x2.tm⟩ : Ver)].length))) true]⟩) (by kernel_rfl) (by kernel_rfl) (And.intro rfl rfl)
      · refine WM_op (φ := True) (v := .one (.e (.sl 2 0 ([(⟨x2.node, x2.value, x2.tm⟩ : Ver)].length)))) (H' := [.row .ver x1 false, .cells [cI x2.node, cI x2.value, cI x2.tm], .row .ver [(⟨x2.node, x2.value, x2.tm⟩ : Ver)] true]) rfl rfl (by kernel_rfl) trivial rfl (And.intro rfl (And.intro (And.intro rfl rfl) (trivial))) ?_
        refine WD_all [1] (n := 2) (by kernel_rfl) rfl ?_
        refine WM_call [.ro 0] Try.f45 rfl rfl (by kernel_rfl) rfl rfl (by kernel_rfl) (slices_Clone_Version_ok x1 x20 hc21) (And.intro (And.intro rfl rfl) (trivial)) rfl (And.intro rfl (And.intro (And.intro rfl rfl) (trivial))) ?_
        refine WD_all [4] (n := 1) (by kernel_rfl) rfl ?_
        refine WM_op (φ := 0 = 0 ∧ x20.length = x20.length ∧ x20.length + (([(⟨x2.node, x2.value, x2.tm⟩ : Ver)].drop 0).take ([(⟨x2.node, x2.value, x2.tm⟩ : Ver)].length)).length ≤ 1099511627776) (v := .one (.e (.sl 4 0 ((x20 ++ (([(⟨x2.node, x2.value, x2.tm⟩ : Ver)].drop 0).take ([(⟨x2.node, x2.value, x2.tm⟩ : Ver)].length))).length)))) (H' := [.row .ver x1 false, .cells [cI x2.node, cI x2.value, cI x2.tm], .row .ver [(⟨x2.node, x2.value, x2.tm⟩ : Ver)] true, .dead, .row .ver (x20 ++ (([(⟨x2.node, x2.value, x2.tm⟩ : Ver)].drop 0).take ([(⟨x2.node, x2.value, x2.tm⟩ : Ver)].length))) true]) rfl rfl (by kernel_rfl) hg22 rfl (And.intro rfl (And.intro (And.intro rfl rfl) (trivial))) ?_
        refine WD_all [5] (n := 0) (by kernel_rfl) rfl ?_
        refine WM_op (φ := True) (v := .one (.e (.sl 4 0 ((x20 ++ (([(⟨x2.node, x2.value, x2.tm⟩ : Ver)].drop 0).take ([(⟨x2.node, x2.value, x2.tm⟩ : Ver)].length))).length)))) (H' := [.row .ver x1 false, .cells [cI x2.node, cI x2.value, cI x2.tm], .row .ver [(⟨x2.node, x2.value, x2.tm⟩ : Ver)] true, .dead, .row .ver (x20 ++ (([(⟨x2.node, x2.value, x2.tm⟩ : Ver)].drop 0).take ([(⟨x2.node, x2.value, x2.tm⟩ : Ver)].length))) true]) rfl rfl (by kernel_rfl) trivial rfl (And.intro rfl (And.intro (And.intro rfl rfl) (trivial))) ?_
        exact WD_done [0, 4] [6] (st' := ⟨[(6, .one (.e (.sl 1 0 ((x20 ++ (([(⟨x2.node, x2.value, x2.tm⟩ : Ver)].drop 0).take ([(⟨x2.node, x2.value, x2.tm⟩ : Ver)].length))).length))))], [.row .ver x1 false, .row .ver (x20 ++ (([(⟨x2.node, x2.value, x2.tm⟩ : Ver)].drop 0).take ([(⟨x2.node, x2.value, x2.tm⟩ : Ver)].length))) true]⟩) (by kernel_rfl) (by kernel_rfl) (And.intro rfl rfl)
    · rintro _ _ ⟨rfl, rfl⟩
      refine thenS_n ?_
      refine W_seq ?_
      refine W_seq ?_
      refine W_region ?_
      refine WO_step 1 [0, 1] [6, 15] True ⟨[(6, .one (.e (.sl 1 0 ((x20 ++ (([(⟨x2.node, x2.value, x2.tm⟩ : Ver)].drop 0).take ([(⟨x2.node, x2.value, x2.tm⟩ : Ver)].length))).length)))), (15, .one (.e (.sl 1 0 ((x20 ++ (([(⟨x2.node, x2.value, x2.tm⟩ : Ver)].drop 0).take ([(⟨x2.node, x2.value, x2.tm⟩ : Ver)].length))).length))))], [.row .ver x1 false, .row .ver (x20 ++ (([(⟨x2.node, x2.value, x2.tm⟩ : Ver)].drop 0).take ([(⟨x2.node, x2.value, x2.tm⟩ : Ver)].length))) true]⟩ (by kernel_rfl) trivial ?_
      refine bindO_e h (fun b23 hc24 h => ?_)
      refine WO_call [.ro 1] Try.f20 rfl rfl rfl (by kernel_rfl) rfl rfl (by kernel_rfl) (impl_ValidVersions_ok n (x20 ++ (([(⟨x2.node, x2.value, x2.tm⟩ : Ver)].drop 0).take ([(⟨x2.node, x2.value, x2.tm⟩ : Ver)].length))) b23 hc24) (And.intro (And.intro rfl rfl) (trivial)) rfl ?_
      refine WO_step 1 [0, 1] [6, 17] True ⟨[(6, .one (.e (.sl 1 0 ((x20 ++ (([(⟨x2.node, x2.value, x2.tm⟩ : Ver)].drop 0).take ([(⟨x2.node, x2.value, x2.tm⟩ : Ver)].length))).length)))), (17, B (!b23))], [.row .ver x1 false, .row .ver (x20 ++ (([(⟨x2.node, x2.value, x2.tm⟩ : Ver)].drop 0).take ([(⟨x2.node, x2.value, x2.tm⟩ : Ver)].length))) true]⟩ (by kernel_rfl) trivial ?_
      refine WO_nil rfl ?_
      refine thenS_n ?_
      refine iteO_e h (fun hb26 h => W_true rfl hb26 ?_) (fun hb26 h => W_false rfl hb26 ?_)
      · refine W_seq ?_
        refine W_region ?_
        refine WO_step 2 [0] [4, 5] True ⟨[(4, .one (.e (.nsl))), (5, B false)], [.row .ver x1 false]⟩ (by kernel_rfl) trivial ?_
        refine WO_nilrow 4 .ver rfl ?_
        refine WO_sub [0, 1] [4, 5] (st' := ⟨[(4, .one (.e (.sl 1 0 (([] : List Ver).length)))), (5, B false)], [.row .ver x1 false, .row .ver ([] : List Ver) true]⟩) (by kernel_rfl) ?_
        refine WO_nil rfl ?_
        refine thenS_n ?_
        refine W_ret ?_
        refine thenS_r ?_
        cases h
        exact ⟨[0, 1], True, by kernel_rfl, trivial⟩
      · refine W_sub [0, 1] [6] (st' := ⟨[(6, .one (.e (.sl 1 0 ((x20 ++ (([(⟨x2.node, x2.value, x2.tm⟩ : Ver)].drop 0).take ([(⟨x2.node, x2.value, x2.tm⟩ : Ver)].length))).length))))], [.row .ver x1 false, .row .ver (x20 ++ (([(⟨x2.node, x2.value, x2.tm⟩ : Ver)].drop 0).take ([(⟨x2.node, x2.value, x2.tm⟩ : Ver)].length))) true]⟩) (by kernel_rfl) ?_
        refine W_skip ?_
        refine thenS_n ?_
        refine W_seq ?_
        refine W_region ?_
        refine WO_step 3 [0, 1] [4, 5] True ⟨[(4, .one (.e (.sl 1 0 ((x20 ++ (([(⟨x2.node, x2.value, x2.tm⟩ : Ver)].drop 0).take ([(⟨x2.node, x2.value, x2.tm⟩ : Ver)].length))).length)))), (5, B true)], [.row .ver x1 false, .row .ver (x20 ++ (([(⟨x2.node, x2.value, x2.tm⟩ : Ver)].drop 0).take ([(⟨x2.node, x2.value, x2.tm⟩ : Ver)].length))) true]⟩ (by kernel_rfl) trivial ?_
        refine WO_nil rfl ?_
        refine thenS_n ?_
        refine W_ret ?_
        cases h
        exact ⟨[0, 1], True, by kernel_rfl, trivial⟩

/- laws.equalVersions -/
def laws_equalVersions_L1 (x1 : List Ver) (x2 : List Ver) : Nat → Int → Option ((Unit) ⊕ (Unit))
| 0, _ => none
| n + 1, i57 =>
 iteO (decide (i57 < ((x1.length : Nat) : Int)))
 (guardO (0 ≤ i57 ∧ i57 < ((x1.length : Nat) : Int)) <|
 guardO (0 ≤ i57 ∧ i57 < ((x2.length : Nat) : Int)) <|
 iteO (!((decide (((x1.getD i57.toNat dver).node) = ((x2.getD i57.toNat dver).node))) && ((decide (((x1.getD i57.toNat dver).value) = ((x2.getD i57.toNat dver).value))) && ((decide (((x1.getD i57.toNat dver).tm) = ((x2.getD i57.toNat dver).tm))) && true))))
 (some (.inl ()))
 (laws_equalVersions_L1 x1 x2 n (w64 (i57 + 1))))
 (some (.inr ()))

theorem laws_equalVersions_L1_ok (w : World) (X : Nat → Prop) (θ : List Loc) (x1 : List Ver) (x2 : List Ver) (v : (Unit) ⊕ (Unit)) : ∀ (n : Nat) (i57 : Int), laws_equalVersions_L1 x1 x2 n i57 = some v → WL EE ⟨w, X, θ, 26, 2⟩ (subC [1, 1, 0, 1, 4, 4] (bodyC Try.f29)) (fun (e : Exit) (s : St) => (match v with | (.inl _) => e = .ret ∧ s = ⟨[(4, B false)], [.row .ver x1 false, .row .ver x2 false]⟩ | (.inr _) => e = .exit 0 ∧ s = ⟨[], [.row .ver x1 false, .row .ver x2 false]⟩ : Prop)) ⟨[(0, .one (.e (.sl 0 0 x1.length))), (1, .one (.e (.sl 1 0 x2.length))), (5, I i57)], [.row .ver x1 false, .row .ver x2 false]⟩ := by
  intro n
  induction n with
  | zero => intro _ h; exact none_e h
  | succ n ih =>
    intro i57 h
    rw [laws_equalVersions_L1] at h
    refine WL_round ?_
    refine W_seq ?_
    refine W_seq ?_
    refine W_region ?_
    refine WO_step 4 [0, 1] [0, 1, 5, 14] (True ∧ (True ∧ True)) ⟨[(0, .one (.e (.sl 0 0 x1.length))), (1, .one (.e (.sl 1 0 x2.length))), (5, I i57), (14, B (decide (i57 < ((x1.length : Nat) : Int))))], [.row .ver x1 false, .row .ver x2 false]⟩ (by kernel_rfl) ⟨trivial, trivial, trivial⟩ ?_
    refine WO_nil rfl ?_
    refine thenS_n ?_
    refine iteO_e h (fun hb71 h => W_true rfl hb71 ?_) (fun hb71 h => W_false rfl hb71 ?_)
    · refine W_sub [0, 1] [0, 1, 5] (st' := ⟨[(0, .one (.e (.sl 0 0 x1.length))), (1, .one (.e (.sl 1 0 x2.length))), (5, I i57)], [.row .ver x1 false, .row .ver x2 false]⟩) (by kernel_rfl) ?_
      refine W_skip ?_
      refine thenS_n ?_
      refine W_seq ?_
      refine W_block ?_
      refine W_seq ?_
      refine guardO_e h (fun hg76 h => ?_)
      refine guardO_e h (fun hg77 h => ?_)
      refine W_cut (Q' := fun (e : Exit) (s : St) => e = .normal ∧ s = ⟨[(0, .one (.e (.sl 0 0 x1.length))), (1, .one (.e (.sl 1 0 x2.length))), (5, I i57), (25, B (!((decide (((x1.getD i57.toNat dver).node) = ((x2.getD i57.toNat dver).node))) && ((decide (((x1.getD i57.toNat dver).value) = ((x2.getD i57.toNat dver).value))) && ((decide (((x1.getD i57.toNat dver).tm) = ((x2.getD i57.toNat dver).tm))) && true)))))], [.row .ver x1 false, .row .ver x2 false]⟩) ?_ ?_
      · refine W_draw [] true (by kernel_rfl) (by kernel_rfl) ?_
        refine WD_takeK [0, 1, 2, 3, 4, 5, 6, 7, 8] [0, 1, 5, 25] [0, 1, 5, 25] (φ := ((0 ≤ i57 ∧ i57 < ((x1.length : Nat) : Int)) ∧ (0 ≤ i57 ∧ i57 < ((x1.length : Nat) : Int)) ∧ (True ∧ True ∧ ((0 ≤ i57 ∧ i57 < ((x2.length : Nat) : Int)) ∧ (0 ≤ i57 ∧ i57 < ((x2.length : Nat) : Int)) ∧ (True ∧ True ∧ (True ∧ True ∧ True)))))) (ls' := #[true, true, true, true, true, true, true, true, true]) (Ts' := [(0, .one (.e (.sl 0 0 x1.length))), (1, .one (.e (.sl 1 0 x2.length))), (5, I i57), (25, B (!((decide (((x1.getD i57.toNat dver).node) = ((x2.getD i57.toNat dver).node))) && ((decide (((x1.getD i57.toNat dver).value) = ((x2.getD i57.toNat dver).value))) && ((decide (((x1.getD i57.toNat dver).tm) = ((x2.getD i57.toNat dver).tm))) && true)))))]) (st' := ⟨[(0, .one (.e (.sl 0 0 x1.length))), (1, .one (.e (.sl 1 0 x2.length))), (5, I i57), (25, B (!((decide (((x1.getD i57.toNat dver).node) = ((x2.getD i57.toNat dver).node))) && ((decide (((x1.getD i57.toNat dver).value) = ((x2.getD i57.toNat dver).value))) && ((decide (((x1.getD i57.toNat dver).tm) = ((x2.getD i57.toNat dver).tm))) && true)))))], [.row .ver x1 false, .row .ver x2 false]⟩) (n2 := 0) (by kernel_rfl) ⟨hg76, hg76, trivial, trivial, hg77, hg77, trivial, trivial, trivial, trivial, trivial⟩ rfl ?_
        exact WD_done [0, 1] [0, 1, 5, 25] (st' := ⟨[(0, .one (.e (.sl 0 0 x1.length))), (1, .one (.e (.sl 1 0 x2.length))), (5, I i57), (25, B (!((decide (((x1.getD i57.toNat dver).node) = ((x2.getD i57.toNat dver).node))) && ((decide (((x1.getD i57.toNat dver).value) = ((x2.getD i57.toNat dver).value))) && ((decide (((x1.getD i57.toNat dver).tm) = ((x2.getD i57.toNat dver).tm))) && true)))))], [.row .ver x1 false, .row .ver x2 false]⟩) (by kernel_rfl) (by kernel_rfl) (And.intro rfl rfl)
      · rintro _ _ ⟨rfl, rfl⟩
        refine thenS_n ?_
        refine iteO_e h (fun hb79 h => W_true rfl hb79 ?_) (fun hb79 h => W_false rfl hb79 ?_)
        · refine W_seq ?_
          refine W_region ?_
          refine WO_step 1 [0, 1] [4] True ⟨[(4, B false)], [.row .ver x1 false, .row .ver x2 false]⟩ (by kernel_rfl) trivial ?_
          refine WO_nil rfl ?_
          refine thenS_n ?_
          refine W_ret ?_
          refine blockS_r ?_
          refine thenS_r ?_
          refine thenS_r ?_
          cases h
          exact And.intro rfl rfl
        · refine W_sub [0, 1] [0, 1, 5] (st' := ⟨[(0, .one (.e (.sl 0 0 x1.length))), (1, .one (.e (.sl 1 0 x2.length))), (5, I i57)], [.row .ver x1 false, .row .ver x2 false]⟩) (by kernel_rfl) ?_
          refine W_skip ?_
          refine blockS_n ?_
          refine thenS_n ?_
          refine W_region ?_
          refine WO_step 3 [0, 1] [0, 1, 5] (True ∧ True) ⟨[(0, .one (.e (.sl 0 0 x1.length))), (1, .one (.e (.sl 1 0 x2.length))), (5, I (w64 (i57 + 1)))], [.row .ver x1 false, .row .ver x2 false]⟩ (by kernel_rfl) ⟨trivial, trivial⟩ ?_
          refine WO_nil rfl ?_
          refine thenS_n ?_
          exact ih _ h
    · refine W_sub [0, 1] [] (st' := ⟨[], [.row .ver x1 false, .row .ver x2 false]⟩) (by kernel_rfl) ?_
      refine W_exit ?_
      refine thenS_e ?_
      refine thenS_e ?_
      cases h
      exact And.intro rfl rfl

def laws_equalVersions (n : Nat) (x1 : List Ver) (x2 : List Ver) : Option (Bool) :=
 iteO (!decide (((x1.length : Nat) : Int) = ((x2.length : Nat) : Int)))
 (some false)
 (bindO (laws_equalVersions_L1 x1 x2 n 0) fun v80 =>
 match v80 with
 | (.inl _) => (some false)
 | (.inr _) => (some true)
)

theorem laws_equalVersions_ok (n : Nat) (x1 : List Ver) (x2 : List Ver) (b41 : Bool) (h : laws_equalVersions n x1 x2 = some b41) : FOk EE 29 [.one (.e (.sl 0 0 x1.length)), .one (.e (.sl 1 0 x2.length))] [.row .ver x1 false, .row .ver x2 false] (B b41) [.row .ver x1 false, .row .ver x2 false] := by
  unfold laws_equalVersions at h
  refine FOk_of_W 26 2 Try.func29 rfl rfl (Nat.le_of_ble_eq_true rfl) rfl (fun w X θ => ?_)
  refine W_seq ?_
  refine W_region ?_
  refine WO_step 1 [0, 1] [0, 1] True ⟨[(0, .one (.e (.sl 0 0 x1.length))), (1, .one (.e (.sl 1 0 x2.length)))], [.row .ver x1 false, .row .ver x2 false]⟩ (by kernel_rfl) trivial ?_
  refine WO_nil rfl ?_
  refine thenS_n ?_
  refine W_seq ?_
  refine W_seq ?_
  refine W_region ?_
  refine WO_step 5 [0, 1] [0, 1, 10] (True ∧ (True ∧ (True ∧ True))) ⟨[(0, .one (.e (.sl 0 0 x1.length))), (1, .one (.e (.sl 1 0 x2.length))), (10, B (!decide (((x1.length : Nat) : Int) = ((x2.length : Nat) : Int))))], [.row .ver x1 false, .row .ver x2 false]⟩ (by kernel_rfl) ⟨trivial, trivial, trivial, trivial⟩ ?_
  refine WO_nil rfl ?_
  refine thenS_n ?_
  refine iteO_e h (fun hb43 h => W_true rfl hb43 ?_) (fun hb43 h => W_false rfl hb43 ?_)
  · refine W_seq ?_
    refine W_region ?_
    refine WO_step 1 [0, 1] [4] True ⟨[(4, B false)], [.row .ver x1 false, .row .ver x2 false]⟩ (by kernel_rfl) trivial ?_
    refine WO_nil rfl ?_
    refine thenS_n ?_
    refine W_ret ?_
    refine thenS_r ?_
    cases h
    exact ⟨[0, 1], True, by kernel_rfl, trivial⟩
  · refine W_sub [0, 1] [0, 1] (st' := ⟨[(0, .one (.e (.sl 0 0 x1.length))), (1, .one (.e (.sl 1 0 x2.length)))], [.row .ver x1 false, .row .ver x2 false]⟩) (by kernel_rfl) ?_
    refine W_skip ?_
    refine thenS_n ?_
    refine W_seq ?_
    refine W_seq ?_
    refine W_region ?_
    refine WO_step 1 [0, 1] [0, 1, 5] True ⟨[(0, .one (.e (.sl 0 0 x1.length))), (1, .one (.e (.sl 1 0 x2.length))), (5, I 0)], [.row .ver x1 false, .row .ver x2 false]⟩ (by kernel_rfl) trivial ?_
    refine WO_nil rfl ?_
    refine thenS_n ?_
    refine W_block ?_
    refine W_loop ?_
    refine bindO_e h (fun v80 hv80 h => ?_)
    refine WL_cut (laws_equalVersions_L1_ok w X θ x1 x2 v80 n 0 hv80) ?_
    rcases v80 with _ | _
    · rintro _ _ ⟨rfl, rfl⟩
      refine blockS_r ?_
      refine thenS_r ?_
      cases h
      exact ⟨[0, 1], True, by kernel_rfl, trivial⟩
    · rintro _ _ ⟨rfl, rfl⟩
      refine blockS_y ?_
      refine thenS_n ?_
      refine W_seq ?_
      refine W_region ?_
      refine WO_step 1 [0, 1] [4] True ⟨[(4, B true)], [.row .ver x1 false, .row .ver x2 false]⟩ (by kernel_rfl) trivial ?_
      refine WO_nil rfl ?_
      refine thenS_n ?_
      refine W_ret ?_
      cases h
      exact ⟨[0, 1], True, by kernel_rfl, trivial⟩

/- laws.FnAddVersionOld -/
def laws_FnAddVersionOld (n : Nat) (x1 : List Int) : Option (Bool) :=
 iteO (decide (1048576 < ((x1.length : Nat) : Int)))
 (some true)
 (bindO (spec_DrawAddVersion n x1) fun (x60, i61, i62, i63) =>
 bindO (impl_AddVersion n x60 (⟨i61, i62, i63⟩ : Ver)) fun (x65, b66) =>
 bindO (spec_AddVersion n x60 (⟨i61, i62, i63⟩ : Ver)) fun (x68, b69) =>
 bindO (laws_equalVersions n x65 x68) fun b71 =>
 bindO (iteO (!b71)
 (some true)
 (iteO (!(b66 == b69))
 (some true)
 (iteO (decide (((x60.length : Nat) : Int) = 0))
 (some true)
 (bindO (impl_ValidVersions n x60) fun b83 =>
 some (!b83))))) fun b78 =>
 iteO b78
 (bindO (laws_equalVersions n x65 x68) fun b92 =>
 some (b92 && (b66 == b69)))
 (guardO (0 ≤ (w64 (((x60.length : Nat) : Int) - 1)) ∧ (w64 (((x60.length : Nat) : Int) - 1)) < ((x60.length : Nat) : Int)) <|
 bindO (impl_AddVersion n x60 (⟨i61, i62, (w64 (((x60.getD ((w64 (((x60.length : Nat) : Int) - 1)).toNat) dver).tm) - 1))⟩ : Ver)) fun (x98, b99) =>
 guardO (0 ≤ (w64 (((x60.length : Nat) : Int) - 1)) ∧ (w64 (((x60.length : Nat) : Int) - 1)) < ((x60.length : Nat) : Int)) <|
 bindO (impl_AddVersion n x60 (x60.getD ((w64 (((x60.length : Nat) : Int) - 1)).toNat) dver)) fun (x102, b103) =>
 some ((!b99) && (!b103))))

theorem laws_FnAddVersionOld_ok (n : Nat) (x1 : List Int) (b57 : Bool) (h : laws_FnAddVersionOld n x1 = some b57) : FOk EE 10 [.one (.e (.sl 0 0 x1.length))] [.row .u8 x1 false] (B b57) [.row .u8 x1 false] := by
  unfold laws_FnAddVersionOld at h
  refine FOk_of_W 94 1 Try.func10 rfl rfl (Nat.le_of_ble_eq_true rfl) rfl (fun w X θ => ?_)
  refine W_seq ?_
  refine W_region ?_
  refine WO_step 1 [0] [0] True ⟨[(0, .one (.e (.sl 0 0 x1.length)))], [.row .u8 x1 false]⟩ (by kernel_rfl) trivial ?_
  refine WO_nil rfl ?_
  refine thenS_n ?_
  refine W_seq ?_
  refine W_seq ?_
  refine W_region ?_
  refine WO_step 3 [0] [0, 16] (True ∧ (True ∧ True)) ⟨[(0, .one (.e (.sl 0 0 x1.length))), (16, B (decide (1048576 < ((x1.length : Nat) : Int))))], [.row .u8 x1 false]⟩ (by kernel_rfl) ⟨trivial, trivial, trivial⟩ ?_
  refine WO_nil rfl ?_
  refine thenS_n ?_
  refine iteO_e h (fun hb59 h => W_true rfl hb59 ?_) (fun hb59 h => W_false rfl hb59 ?_)
  · refine W_seq ?_
    refine W_region ?_
    refine WO_step 1 [0] [2] True ⟨[(2, B true)], [.row .u8 x1 false]⟩ (by kernel_rfl) trivial ?_
    refine WO_nil rfl ?_
    refine thenS_n ?_
    refine W_ret ?_
    refine thenS_r ?_
    cases h
    exact ⟨[0], True, by kernel_rfl, trivial⟩
  · refine W_sub [0] [0] (st' := ⟨[(0, .one (.e (.sl 0 0 x1.length)))], [.row .u8 x1 false]⟩) (by kernel_rfl) ?_
    refine W_skip ?_
    refine thenS_n ?_
    refine W_seq ?_
    refine W_region ?_
    refine WO_step 1 [0] [18] True ⟨[(18, .one (.e (.sl 0 0 x1.length)))], [.row .u8 x1 false]⟩ (by kernel_rfl) trivial ?_
    refine bindO_e h (fun v112 hc64 h => ?_)
    obtain ⟨x60, i61, i62, i63⟩ := v112
    refine WO_call [.ro 0] Try.f26 rfl rfl rfl (by kernel_rfl) rfl rfl (by kernel_rfl) (spec_DrawAddVersion_ok n x1 x60 i61 i62 i63 hc64) (And.intro (And.intro rfl rfl) (trivial)) rfl ?_
    refine WO_step 6 [0, 1, 2] [3, 4] (True ∧ (True ∧ True)) ⟨[(3, .one (.e (.sl 1 0 x60.length))), (4, .one (.e (.p 2 0)))], [.row .u8 x1 false, .row .ver x60 true, .cells [cI i61, cI i62, cI i63]]⟩ (by kernel_rfl) ⟨trivial, trivial, trivial⟩ ?_
    refine WO_nil rfl ?_
    refine thenS_n ?_
    refine W_seq ?_
    refine W_region ?_
    refine WO_step 2 [0, 1, 2] [3, 4, 23, 24] (True ∧ True) ⟨[(3, .one (.e (.sl 1 0 x60.length))), (4, .one (.e (.p 2 0))), (23, .one (.e (.sl 1 0 x60.length))), (24, AGG [cI i61, cI i62, cI i63])], [.row .u8 x1 false, .row .ver x60 true, .cells [cI i61, cI i62, cI i63]]⟩ (by kernel_rfl) ⟨trivial, trivial⟩ ?_
    refine bindO_e h (fun v111 hc67 h => ?_)
    obtain ⟨x65, b66⟩ := v111
    refine WO_call [.ro 1] Try.f27 rfl rfl rfl (by kernel_rfl) rfl rfl (by kernel_rfl) (impl_AddVersion_ok n x60 (⟨i61, i62, i63⟩ : Ver) x65 b66 hc67) (And.intro (And.intro rfl rfl) (trivial)) rfl ?_
    refine WO_step 5 [0, 1, 2, 3] [3, 4, 5, 6] True ⟨[(3, .one (.e (.sl 1 0 x60.length))), (4, .one (.e (.p 2 0))), (5, .one (.e (.sl 3 0 x65.length))), (6, B b66)], [.row .u8 x1 false, .row .ver x60 true, .cells [cI i61, cI i62, cI i63], .row .ver x65 true]⟩ (by kernel_rfl) trivial ?_
    refine WO_nil rfl ?_
    refine thenS_n ?_
    refine W_seq ?_
    refine W_region ?_
    refine WO_step 2 [0, 1, 2, 3] [3, 4, 5, 6, 29, 30] (True ∧ True) ⟨[(3, .one (.e (.sl 1 0 x60.length))), (4, .one (.e (.p 2 0))), (5, .one (.e (.sl 3 0 x65.length))), (6, B b66), (29, .one (.e (.sl 1 0 x60.length))), (30, AGG [cI i61, cI i62, cI i63])], [.row .u8 x1 false, .row .ver x60 true, .cells [cI i61, cI i62, cI i63], .row .ver x65 true]⟩ (by kernel_rfl) ⟨trivial, trivial⟩ ?_
    refine bindO_e h (fun v110 hc70 h => ?_)
    obtain ⟨x68, b69⟩ := v110
    refine WO_call [.ro 1] Try.f28 rfl rfl rfl (by kernel_rfl) rfl rfl (by kernel_rfl) (spec_AddVersion_ok n x60 (⟨i61, i62, i63⟩ : Ver) x68 b69 hc70) (And.intro (And.intro rfl rfl) (trivial)) rfl ?_
    refine WO_step 5 [0, 1, 2, 3, 4] [3, 4, 5, 6, 7, 8] True ⟨[(3, .one (.e (.sl 1 0 x60.length))), (4, .one (.e (.p 2 0))), (5, .one (.e (.sl 3 0 x65.length))), (6, B b66), (7, .one (.e (.sl 4 0 x68.length))), (8, B b69)], [.row .u8 x1 false, .row .ver x60 true, .cells [cI i61, cI i62, cI i63], .row .ver x65 true, .row .ver x68 true]⟩ (by kernel_rfl) trivial ?_
    refine WO_nil rfl ?_
    refine thenS_n ?_
    refine W_seq ?_
    refine W_seq ?_
    refine W_region ?_
    refine WO_step 2 [0, 1, 2, 3, 4] [3, 4, 5, 6, 7, 8, 34, 35] True ⟨[(3, .one (.e (.sl 1 0 x60.length))), (4, .one (.e (.p 2 0))), (5, .one (.e (.sl 3 0 x65.length))), (6, B b66), (7, .one (.e (.sl 4 0 x68.length))), (8, B b69), (34, .one (.e (.sl 3 0 x65.length))), (35, .one (.e (.sl 4 0 x68.length)))], [.row .u8 x1 false, .row .ver x60 true, .cells [cI i61, cI i62, cI i63], .row .ver x65 true, .row .ver x68 true]⟩ (by kernel_rfl) trivial ?_
    refine bindO_e h (fun b71 hc72 h => ?_)
    refine WO_call [.ro 3, .ro 4] Try.f29 rfl rfl rfl (by kernel_rfl) rfl rfl (by kernel_rfl) (laws_equalVersions_ok n x65 x68 b71 hc72) (And.intro (And.intro rfl rfl) (And.intro (And.intro rfl rfl) (trivial))) rfl ?_
    refine WO_step 2 [0, 1, 2, 3, 4] [3, 4, 5, 6, 7, 8, 38] True ⟨[(3, .one (.e (.sl 1 0 x60.length))), (4, .one (.e (.p 2 0))), (5, .one (.e (.sl 3 0 x65.length))), (6, B b66), (7, .one (.e (.sl 4 0 x68.length))), (8, B b69), (38, B (!b71))], [.row .u8 x1 false, .row .ver x60 true, .cells [cI i61, cI i62, cI i63], .row .ver x65 true, .row .ver x68 true]⟩ (by kernel_rfl) trivial ?_
    refine bindO_e h (fun b78 hv79 h => ?_)
    refine WO_thru ⟨[(3, .one (.e (.sl 1 0 x60.length))), (4, .one (.e (.p 2 0))), (5, .one (.e (.sl 3 0 x65.length))), (6, B b66), (7, .one (.e (.sl 4 0 x68.length))), (8, B b69), (52, B b78)], [.row .u8 x1 false, .row .ver x60 true, .cells [cI i61, cI i62, cI i63], .row .ver x65 true, .row .ver x68 true]⟩ ?_ ?_
    · refine iteO_e hv79 (fun hb80 hv79 => WO_known 38 true rfl hb80 ?_) (fun hb80 hv79 => WO_known 38 false rfl hb80 ?_)
      · refine WO_step 14 [0, 1, 2, 3, 4] [3, 4, 5, 6, 7, 8, 52] True ⟨[(3, .one (.e (.sl 1 0 x60.length))), (4, .one (.e (.p 2 0))), (5, .one (.e (.sl 3 0 x65.length))), (6, B b66), (7, .one (.e (.sl 4 0 x68.length))), (8, B b69), (52, B true)], [.row .u8 x1 false, .row .ver x60 true, .cells [cI i61, cI i62, cI i63], .row .ver x65 true, .row .ver x68 true]⟩ (by kernel_rfl) trivial ?_
        cases hv79
        exact WO_nil rfl ⟨rfl, rfl⟩
      · refine WO_step 5 [0, 1, 2, 3, 4] [3, 4, 5, 6, 7, 8, 43] (True ∧ True) ⟨[(3, .one (.e (.sl 1 0 x60.length))), (4, .one (.e (.p 2 0))), (5, .one (.e (.sl 3 0 x65.length))), (6, B b66), (7, .one (.e (.sl 4 0 x68.length))), (8, B b69), (43, B (!(b66 == b69)))], [.row .u8 x1 false, .row .ver x60 true, .cells [cI i61, cI i62, cI i63], .row .ver x65 true, .row .ver x68 true]⟩ (by kernel_rfl) ⟨trivial, trivial⟩ ?_
        refine iteO_e hv79 (fun hb81 hv79 => WO_known 43 true rfl hb81 ?_) (fun hb81 hv79 => WO_known 43 false rfl hb81 ?_)
        · refine WO_step 9 [0, 1, 2, 3, 4] [3, 4, 5, 6, 7, 8, 52] True ⟨[(3, .one (.e (.sl 1 0 x60.length))), (4, .one (.e (.p 2 0))), (5, .one (.e (.sl 3 0 x65.length))), (6, B b66), (7, .one (.e (.sl 4 0 x68.length))), (8, B b69), (52, B true)], [.row .u8 x1 false, .row .ver x60 true, .cells [cI i61, cI i62, cI i63], .row .ver x65 true, .row .ver x68 true]⟩ (by kernel_rfl) trivial ?_
          cases hv79
          exact WO_nil rfl ⟨rfl, rfl⟩
        · refine WO_step 5 [0, 1, 2, 3, 4] [3, 4, 5, 6, 7, 8, 48] (True ∧ (True ∧ True)) ⟨[(3, .one (.e (.sl 1 0 x60.length))), (4, .one (.e (.p 2 0))), (5, .one (.e (.sl 3 0 x65.length))), (6, B b66), (7, .one (.e (.sl 4 0 x68.length))), (8, B b69), (48, B (decide (((x60.length : Nat) : Int) = 0)))], [.row .u8 x1 false, .row .ver x60 true, .cells [cI i61, cI i62, cI i63], .row .ver x65 true, .row .ver x68 true]⟩ (by kernel_rfl) ⟨trivial, trivial, trivial⟩ ?_
          refine iteO_e hv79 (fun hb82 hv79 => WO_known 48 true rfl hb82 ?_) (fun hb82 hv79 => WO_known 48 false rfl hb82 ?_)
          · refine WO_step 4 [0, 1, 2, 3, 4] [3, 4, 5, 6, 7, 8, 52] True ⟨[(3, .one (.e (.sl 1 0 x60.length))), (4, .one (.e (.p 2 0))), (5, .one (.e (.sl 3 0 x65.length))), (6, B b66), (7, .one (.e (.sl 4 0 x68.length))), (8, B b69), (52, B true)], [.row .u8 x1 false, .row .ver x60 true, .cells [cI i61, cI i62, cI i63], .row .ver x65 true, .row .ver x68 true]⟩ (by kernel_rfl) trivial ?_
            cases hv79
            exact WO_nil rfl ⟨rfl, rfl⟩
          · refine WO_step 1 [0, 1, 2, 3, 4] [3, 4, 5, 6, 7, 8, 48, 49] True ⟨[(3, .one (.e (.sl 1 0 x60.length))), (4, .one (.e (.p 2 0))), (5, .one (.e (.sl 3 0 x65.length))), (6, B b66), (7, .one (.e (.sl 4 0 x68.length))), (8, B b69), (48, B false), (49, .one (.e (.sl 1 0 x60.length)))], [.row .u8 x1 false, .row .ver x60 true, .cells [cI i61, cI i62, cI i63], .row .ver x65 true, .row .ver x68 true]⟩ (by kernel_rfl) trivial ?_
            refine bindO_e hv79 (fun b83 hc84 hv79 => ?_)
            refine WO_call [.ro 1] Try.f20 rfl rfl rfl (by kernel_rfl) rfl rfl (by kernel_rfl) (impl_ValidVersions_ok n x60 b83 hc84) (And.intro (And.intro rfl rfl) (trivial)) rfl ?_
            refine WO_step 2 [0, 1, 2, 3, 4] [3, 4, 5, 6, 7, 8, 52] True ⟨[(3, .one (.e (.sl 1 0 x60.length))), (4, .one (.e (.p 2 0))), (5, .one (.e (.sl 3 0 x65.length))), (6, B b66), (7, .one (.e (.sl 4 0 x68.length))), (8, B b69), (52, B (!b83))], [.row .u8 x1 false, .row .ver x60 true, .cells [cI i61, cI i62, cI i63], .row .ver x65 true, .row .ver x68 true]⟩ (by kernel_rfl) trivial ?_
            cases hv79
            exact WO_nil rfl ⟨rfl, rfl⟩
    · refine thenS_n ?_
      refine iteO_e h (fun hb91 h => W_true rfl hb91 ?_) (fun hb91 h => W_false rfl hb91 ?_)
      · refine W_seq ?_
        refine W_region ?_
        refine WO_step 2 [0, 3, 4] [6, 8, 53, 54] True ⟨[(6, B b66), (8, B b69), (53, .one (.e (.sl 1 0 x65.length))), (54, .one (.e (.sl 2 0 x68.length)))], [.row .u8 x1 false, .row .ver x65 true, .row .ver x68 true]⟩ (by kernel_rfl) trivial ?_
        refine bindO_e h (fun b92 hc93 h => ?_)
        refine WO_call [.ro 1, .ro 2] Try.f29 rfl rfl rfl (by kernel_rfl) rfl rfl (by kernel_rfl) (laws_equalVersions_ok n x65 x68 b92 hc93) (And.intro (And.intro rfl rfl) (And.intro (And.intro rfl rfl) (trivial))) rfl ?_
        refine WO_step 1 [0] [6, 8, 56] True ⟨[(6, B b66), (8, B b69), (56, B b92)], [.row .u8 x1 false]⟩ (by kernel_rfl) trivial ?_
        refine WO_thru ⟨[(2, B (b92 && (b66 == b69)))], [.row .u8 x1 false]⟩ ?_ ?_
        · refine WO_if 56 rfl (fun hb96 => ?_) (fun hb96 => ?_)
          · refine WO_step 5 [0] [2] (True ∧ True) ⟨[(2, B (b66 == b69))], [.row .u8 x1 false]⟩ (by kernel_rfl) ⟨trivial, trivial⟩ ?_
            exact WO_nil rfl ⟨rfl, by first | rfl | (rw [hb96]; first | done | rfl)⟩
          · refine WO_step 5 [0] [2] True ⟨[(2, B false)], [.row .u8 x1 false]⟩ (by kernel_rfl) trivial ?_
            exact WO_nil rfl ⟨rfl, by first | rfl | (rw [hb96]; first | done | rfl)⟩
        · refine thenS_n ?_
          refine W_ret ?_
          refine thenS_r ?_
          cases h
          exact ⟨[0], True, by kernel_rfl, trivial⟩
      · refine W_sub [0, 1, 2] [3, 4] (st' := ⟨[(3, .one (.e (.sl 1 0 x60.length))), (4, .one (.e (.p 2 0)))], [.row .u8 x1 false, .row .ver x60 true, .cells [cI i61, cI i62, cI i63]]⟩) (by kernel_rfl) ?_
        refine W_skip ?_
        refine thenS_n ?_
        refine W_seq ?_
        refine W_region ?_
        refine WO_step 3 [0, 1, 3] [3, 9] (True ∧ (True ∧ (True ∧ True))) ⟨[(3, .one (.e (.sl 1 0 x60.length))), (9, .one (.e (.p 2 0)))], [.row .u8 x1 false, .row .ver x60 true, .cells [cI i61, cI i62, cI i63]]⟩ (by kernel_rfl) ⟨trivial, trivial, trivial, trivial⟩ ?_
        refine WO_nil rfl ?_
        refine thenS_n ?_
        refine W_seq ?_
        refine W_region ?_
        refine guardO_e h (fun hg97 h => ?_)
        refine WO_step 10 [0, 1, 2] [3, 9] (True ∧ (True ∧ ((0 ≤ (w64 (((x60.length : Nat) : Int) - 1)) ∧ (w64 (((x60.length : Nat) : Int) - 1)) < ((x60.length : Nat) : Int)) ∧ (True ∧ (True ∧ (True ∧ True)))))) ⟨[(3, .one (.e (.sl 1 0 x60.length))), (9, .one (.e (.p 2 0)))], [.row .u8 x1 false, .row .ver x60 true, .cells [cI i61, cI i62, cI (w64 (((x60.getD ((w64 (((x60.length : Nat) : Int) - 1)).toNat) dver).tm) - 1))]]⟩ (by kernel_rfl) ⟨trivial, trivial, hg97, trivial, trivial, trivial, trivial⟩ ?_
        refine WO_nil rfl ?_
        refine thenS_n ?_
        refine W_seq ?_
        refine W_region ?_
        refine WO_step 2 [0, 1] [3, 72, 73] (True ∧ True) ⟨[(3, .one (.e (.sl 1 0 x60.length))), (72, .one (.e (.sl 1 0 x60.length))), (73, AGG [cI i61, cI i62, cI (w64 (((x60.getD ((w64 (((x60.length : Nat) : Int) - 1)).toNat) dver).tm) - 1))])], [.row .u8 x1 false, .row .ver x60 true]⟩ (by kernel_rfl) ⟨trivial, trivial⟩ ?_
        refine bindO_e h (fun v109 hc100 h => ?_)
        obtain ⟨x98, b99⟩ := v109
        refine WO_call [.ro 1] Try.f27 rfl rfl rfl (by kernel_rfl) rfl rfl (by kernel_rfl) (impl_AddVersion_ok n x60 (⟨i61, i62, (w64 (((x60.getD ((w64 (((x60.length : Nat) : Int) - 1)).toNat) dver).tm) - 1))⟩ : Ver) x98 b99 hc100) (And.intro (And.intro rfl rfl) (trivial)) rfl ?_
        refine WO_step 5 [0, 1] [3, 11] True ⟨[(3, .one (.e (.sl 1 0 x60.length))), (11, B b99)], [.row .u8 x1 false, .row .ver x60 true]⟩ (by kernel_rfl) trivial ?_
        refine WO_nil rfl ?_
        refine thenS_n ?_
        refine W_seq ?_
        refine W_region ?_
        refine guardO_e h (fun hg101 h => ?_)
        refine WO_step 7 [0, 1] [11, 78, 84] (True ∧ (True ∧ ((0 ≤ (w64 (((x60.length : Nat) : Int) - 1)) ∧ (w64 (((x60.length : Nat) : Int) - 1)) < ((x60.length : Nat) : Int)) ∧ (True ∧ True)))) ⟨[(11, B b99), (78, .one (.e (.sl 1 0 x60.length))), (84, AGG [cI ((x60.getD ((w64 (((x60.length : Nat) : Int) - 1)).toNat) dver).node), cI ((x60.getD ((w64 (((x60.length : Nat) : Int) - 1)).toNat) dver).value), cI ((x60.getD ((w64 (((x60.length : Nat) : Int) - 1)).toNat) dver).tm)])], [.row .u8 x1 false, .row .ver x60 true]⟩ (by kernel_rfl) ⟨trivial, trivial, hg101, trivial, trivial⟩ ?_
        refine bindO_e h (fun v108 hc104 h => ?_)
        obtain ⟨x102, b103⟩ := v108
        refine WO_call [.ro 1] Try.f27 rfl rfl rfl (by kernel_rfl) rfl rfl (by kernel_rfl) (impl_AddVersion_ok n x60 (x60.getD ((w64 (((x60.length : Nat) : Int) - 1)).toNat) dver) x102 b103 hc104) (And.intro (And.intro rfl rfl) (trivial)) rfl ?_
        refine WO_step 5 [0] [11, 13] True ⟨[(11, B b99), (13, B b103)], [.row .u8 x1 false]⟩ (by kernel_rfl) trivial ?_
        refine WO_nil rfl ?_
        refine thenS_n ?_
        refine W_seq ?_
        refine W_region ?_
        refine WO_step 3 [0] [13, 90] True ⟨[(13, B b103), (90, B (!b99))], [.row .u8 x1 false]⟩ (by kernel_rfl) trivial ?_
        refine WO_thru ⟨[(2, B ((!b99) && (!b103)))], [.row .u8 x1 false]⟩ ?_ ?_
        · refine WO_if 90 rfl (fun hb107 => ?_) (fun hb107 => ?_)
          · refine WO_step 4 [0] [2] True ⟨[(2, B (!b103))], [.row .u8 x1 false]⟩ (by kernel_rfl) trivial ?_
            exact WO_nil rfl ⟨rfl, by first | rfl | (rw [hb107]; first | done | rfl)⟩
          · refine WO_step 4 [0] [2] True ⟨[(2, B false)], [.row .u8 x1 false]⟩ (by kernel_rfl) trivial ?_
            exact WO_nil rfl ⟨rfl, by first | rfl | (rw [hb107]; first | done | rfl)⟩
        · refine thenS_n ?_
          refine W_ret ?_
          cases h
          exact ⟨[0], True, by kernel_rfl, trivial⟩

/- laws.FnAddVersion -/
def laws_FnAddVersion_L1 (x146 : List Ver) (x151 : List Ver) (i176 : Int) (b177 : Bool) (x1 : List Int) (i147 : Int) (i148 : Int) (i149 : Int) : Nat → Int → Option ((Unit) ⊕ (Unit))
| 0, _ => none
| n + 1, i210 =>
 iteO (decide (i210 < 12))
 (bindO (impl_ReadAsOf n x146 i210 (w64 (i149 - 1))) fun (i256, b257) =>
 bindO (impl_ReadAsOf n x151 i210 (w64 (i149 - 1))) fun (i259, b260) =>
 iteO ((!(b257 == b260)) || (!decide (i256 = i259)))
 (some (.inl ()))
 (laws_FnAddVersion_L1 x146 x151 i176 b177 x1 i147 i148 i149 n (w64 (i210 + 1))))
 (some (.inr ()))

theorem laws_FnAddVersion_L1_ok (w : World) (X : Nat → Prop) (θ : List Loc) (x146 : List Ver) (x151 : List Ver) (i176 : Int) (b177 : Bool) (x1 : List Int) (i147 : Int) (i148 : Int) (i149 : Int) (v : (Unit) ⊕ (Unit)) : ∀ (n : Nat) (i210 : Int), laws_FnAddVersion_L1 x146 x151 i176 b177 x1 i147 i148 i149 n i210 = some v → WL EE ⟨w, X, θ, 115, 1⟩ (subC [1, 1, 1, 1, 1, 1, 1, 0, 1, 4, 4] (bodyC Try.f11)) (fun (e : Exit) (s : St) => (match v with | (.inl _) => e = .ret ∧ s = ⟨[(2, B false)], [.row .u8 x1 false]⟩ | (.inr _) => e = .exit 0 ∧ s = ⟨[(3, .one (.e (.sl 1 0 x146.length))), (4, .one (.e (.p 2 0))), (5, .one (.e (.sl 3 0 x151.length))), (9, I i176), (10, B b177)], [.row .u8 x1 false, .row .ver x146 true, .cells [cI i147, cI i148, cI i149], .row .ver x151 true]⟩ : Prop)) ⟨[(3, .one (.e (.sl 1 0 x146.length))), (4, .one (.e (.p 2 0))), (5, .one (.e (.sl 3 0 x151.length))), (9, I i176), (10, B b177), (11, I i210)], [.row .u8 x1 false, .row .ver x146 true, .cells [cI i147, cI i148, cI i149], .row .ver x151 true]⟩ := by
  intro n
  induction n with
  | zero => intro _ h; exact none_e h
  | succ n ih =>
    intro i210 h
    rw [laws_FnAddVersion_L1] at h
    refine WL_round ?_
    refine W_seq ?_
    refine W_seq ?_
    refine W_region ?_
    refine WO_step 2 [0, 1, 2, 3] [3, 4, 5, 9, 10, 11, 67] (True ∧ True) ⟨[(3, .one (.e (.sl 1 0 x146.length))), (4, .one (.e (.p 2 0))), (5, .one (.e (.sl 3 0 x151.length))), (9, I i176), (10, B b177), (11, I i210), (67, B (decide (i210 < 12)))], [.row .u8 x1 false, .row .ver x146 true, .cells [cI i147, cI i148, cI i149], .row .ver x151 true]⟩ (by kernel_rfl) ⟨trivial, trivial⟩ ?_
    refine WO_nil rfl ?_
    refine thenS_n ?_
    refine iteO_e h (fun hb242 h => W_true rfl hb242 ?_) (fun hb242 h => W_false rfl hb242 ?_)
    · refine W_sub [0, 1, 2, 3] [3, 4, 5, 9, 10, 11] (st' := ⟨[(3, .one (.e (.sl 1 0 x146.length))), (4, .one (.e (.p 2 0))), (5, .one (.e (.sl 3 0 x151.length))), (9, I i176), (10, B b177), (11, I i210)], [.row .u8 x1 false, .row .ver x146 true, .cells [cI i147, cI i148, cI i149], .row .ver x151 true]⟩) (by kernel_rfl) ?_
      refine W_skip ?_
      refine thenS_n ?_
      refine W_seq ?_
      refine W_block ?_
      refine W_seq ?_
      refine W_region ?_
      refine WO_step 5 [0, 1, 2, 3] [3, 4, 5, 9, 10, 11, 71, 72, 75] (True ∧ (True ∧ True)) ⟨[(3, .one (.e (.sl 1 0 x146.length))), (4, .one (.e (.p 2 0))), (5, .one (.e (.sl 3 0 x151.length))), (9, I i176), (10, B b177), (11, I i210), (71, .one (.e (.sl 1 0 x146.length))), (72, I i210), (75, I (w64 (i149 - 1)))], [.row .u8 x1 false, .row .ver x146 true, .cells [cI i147, cI i148, cI i149], .row .ver x151 true]⟩ (by kernel_rfl) ⟨trivial, trivial, trivial⟩ ?_
      refine bindO_e h (fun v268 hc258 h => ?_)
      obtain ⟨i256, b257⟩ := v268
      refine WO_call [.ro 1] Try.f24 rfl rfl rfl (by kernel_rfl) rfl rfl (by kernel_rfl) (impl_ReadAsOf_ok n x146 i210 (w64 (i149 - 1)) i256 b257 hc258) (And.intro (And.intro rfl rfl) (trivial)) rfl ?_
      refine WO_step 5 [0, 1, 2, 3] [3, 4, 5, 9, 10, 11, 12, 13] True ⟨[(3, .one (.e (.sl 1 0 x146.length))), (4, .one (.e (.p 2 0))), (5, .one (.e (.sl 3 0 x151.length))), (9, I i176), (10, B b177), (11, I i210), (12, I i256), (13, B b257)], [.row .u8 x1 false, .row .ver x146 true, .cells [cI i147, cI i148, cI i149], .row .ver x151 true]⟩ (by kernel_rfl) trivial ?_
      refine WO_nil rfl ?_
      refine thenS_n ?_
      refine W_seq ?_
      refine W_region ?_
      refine WO_step 5 [0, 1, 2, 3] [3, 4, 5, 9, 10, 11, 12, 13, 80, 81, 84] (True ∧ (True ∧ True)) ⟨[(3, .one (.e (.sl 1 0 x146.length))), (4, .one (.e (.p 2 0))), (5, .one (.e (.sl 3 0 x151.length))), (9, I i176), (10, B b177), (11, I i210), (12, I i256), (13, B b257), (80, .one (.e (.sl 3 0 x151.length))), (81, I i210), (84, I (w64 (i149 - 1)))], [.row .u8 x1 false, .row .ver x146 true, .cells [cI i147, cI i148, cI i149], .row .ver x151 true]⟩ (by kernel_rfl) ⟨trivial, trivial, trivial⟩ ?_
      refine bindO_e h (fun v267 hc261 h => ?_)
      obtain ⟨i259, b260⟩ := v267
      refine WO_call [.ro 3] Try.f24 rfl rfl rfl (by kernel_rfl) rfl rfl (by kernel_rfl) (impl_ReadAsOf_ok n x151 i210 (w64 (i149 - 1)) i259 b260 hc261) (And.intro (And.intro rfl rfl) (trivial)) rfl ?_
      refine WO_step 5 [0, 1, 2, 3] [3, 4, 5, 9, 10, 11, 12, 13, 14, 15] True ⟨[(3, .one (.e (.sl 1 0 x146.length))), (4, .one (.e (.p 2 0))), (5, .one (.e (.sl 3 0 x151.length))), (9, I i176), (10, B b177), (11, I i210), (12, I i256), (13, B b257), (14, I i259), (15, B b260)], [.row .u8 x1 false, .row .ver x146 true, .cells [cI i147, cI i148, cI i149], .row .ver x151 true]⟩ (by kernel_rfl) trivial ?_
      refine WO_nil rfl ?_
      refine thenS_n ?_
      refine W_seq ?_
      refine W_region ?_
      refine WO_step 4 [0, 1, 2, 3] [3, 4, 5, 9, 10, 11, 12, 14, 91] (True ∧ True) ⟨[(3, .one (.e (.sl 1 0 x146.length))), (4, .one (.e (.p 2 0))), (5, .one (.e (.sl 3 0 x151.length))), (9, I i176), (10, B b177), (11, I i210), (12, I i256), (14, I i259), (91, B (!(b257 == b260)))], [.row .u8 x1 false, .row .ver x146 true, .cells [cI i147, cI i148, cI i149], .row .ver x151 true]⟩ (by kernel_rfl) ⟨trivial, trivial⟩ ?_
      refine WO_thru ⟨[(3, .one (.e (.sl 1 0 x146.length))), (4, .one (.e (.p 2 0))), (5, .one (.e (.sl 3 0 x151.length))), (9, I i176), (10, B b177), (11, I i210), (95, B ((!(b257 == b260)) || (!decide (i256 = i259))))], [.row .u8 x1 false, .row .ver x146 true, .cells [cI i147, cI i148, cI i149], .row .ver x151 true]⟩ ?_ ?_
      · refine WO_if 91 rfl (fun hb264 => ?_) (fun hb264 => ?_)
        · refine WO_step 4 [0, 1, 2, 3] [3, 4, 5, 9, 10, 11, 95] True ⟨[(3, .one (.e (.sl 1 0 x146.length))), (4, .one (.e (.p 2 0))), (5, .one (.e (.sl 3 0 x151.length))), (9, I i176), (10, B b177), (11, I i210), (95, B true)], [.row .u8 x1 false, .row .ver x146 true, .cells [cI i147, cI i148, cI i149], .row .ver x151 true]⟩ (by kernel_rfl) trivial ?_
          exact WO_nil rfl ⟨rfl, by first | rfl | (rw [hb264]; first | done | rfl)⟩
        · refine WO_step 4 [0, 1, 2, 3] [3, 4, 5, 9, 10, 11, 95] (True ∧ True) ⟨[(3, .one (.e (.sl 1 0 x146.length))), (4, .one (.e (.p 2 0))), (5, .one (.e (.sl 3 0 x151.length))), (9, I i176), (10, B b177), (11, I i210), (95, B (!decide (i256 = i259)))], [.row .u8 x1 false, .row .ver x146 true, .cells [cI i147, cI i148, cI i149], .row .ver x151 true]⟩ (by kernel_rfl) ⟨trivial, trivial⟩ ?_
          exact WO_nil rfl ⟨rfl, by first | rfl | (rw [hb264]; first | done | rfl)⟩
      · refine thenS_n ?_
        refine iteO_e h (fun hb266 h => W_true rfl hb266 ?_) (fun hb266 h => W_false rfl hb266 ?_)
        · refine W_seq ?_
          refine W_region ?_
          refine WO_step 1 [0] [2] True ⟨[(2, B false)], [.row .u8 x1 false]⟩ (by kernel_rfl) trivial ?_
          refine WO_nil rfl ?_
          refine thenS_n ?_
          refine W_ret ?_
          refine blockS_r ?_
          refine thenS_r ?_
          refine thenS_r ?_
          cases h
          exact And.intro rfl rfl
        · refine W_sub [0, 1, 2, 3] [3, 4, 5, 9, 10, 11] (st' := ⟨[(3, .one (.e (.sl 1 0 x146.length))), (4, .one (.e (.p 2 0))), (5, .one (.e (.sl 3 0 x151.length))), (9, I i176), (10, B b177), (11, I i210)], [.row .u8 x1 false, .row .ver x146 true, .cells [cI i147, cI i148, cI i149], .row .ver x151 true]⟩) (by kernel_rfl) ?_
          refine W_skip ?_
          refine blockS_n ?_
          refine thenS_n ?_
          refine W_region ?_
          refine WO_step 3 [0, 1, 2, 3] [3, 4, 5, 9, 10, 11] (True ∧ True) ⟨[(3, .one (.e (.sl 1 0 x146.length))), (4, .one (.e (.p 2 0))), (5, .one (.e (.sl 3 0 x151.length))), (9, I i176), (10, B b177), (11, I (w64 (i210 + 1)))], [.row .u8 x1 false, .row .ver x146 true, .cells [cI i147, cI i148, cI i149], .row .ver x151 true]⟩ (by kernel_rfl) ⟨trivial, trivial⟩ ?_
          refine WO_nil rfl ?_
          refine thenS_n ?_
          exact ih _ h
    · refine W_sub [0, 1, 2, 3] [3, 4, 5, 9, 10] (st' := ⟨[(3, .one (.e (.sl 1 0 x146.length))), (4, .one (.e (.p 2 0))), (5, .one (.e (.sl 3 0 x151.length))), (9, I i176), (10, B b177)], [.row .u8 x1 false, .row .ver x146 true, .cells [cI i147, cI i148, cI i149], .row .ver x151 true]⟩) (by kernel_rfl) ?_
      refine W_exit ?_
      refine thenS_e ?_
      refine thenS_e ?_
      cases h
      exact And.intro rfl rfl

def laws_FnAddVersion (n : Nat) (x1 : List Int) : Option (Bool) :=
 iteO (decide (1048576 < ((x1.length : Nat) : Int)))
 (some true)
 (bindO (spec_DrawAddVersion n x1) fun (x146, i147, i148, i149) =>
 bindO (impl_AddVersion n x146 (⟨i147, i148, i149⟩ : Ver)) fun (x151, b152) =>
 bindO (spec_AddVersion n x146 (⟨i147, i148, i149⟩ : Ver)) fun (x154, b155) =>
 bindO (laws_equalVersions n x151 x154) fun b157 =>
 iteO ((!b157) || ((!(b152 == b155)) || (!b152)))
 (bindO (laws_equalVersions n x151 x154) fun b171 =>
 some (b171 && (b152 == b155)))
 (bindO (impl_ReadAsOf n x151 i147 i149) fun (i176, b177) =>
 bindO (laws_FnAddVersion_L1 x146 x151 i176 b177 x1 i147 i148 i149 n 0) fun v269 =>
 match v269 with
 | (.inl _) => (some false)
 | (.inr _) => (bindO (iteO b177
 (iteO (decide (i176 = i148))
 (iteO (decide (((x151.length : Nat) : Int) = (w64 (((x146.length : Nat) : Int) + 1))))
 (bindO (impl_ValidVersions n x151) fun b280 =>
 some b280)
 (some false))
 (some false))
 (some false)) fun b275 =>
 some b275)
))

theorem laws_FnAddVersion_ok (n : Nat) (x1 : List Int) (b143 : Bool) (h : laws_FnAddVersion n x1 = some b143) : FOk EE 11 [.one (.e (.sl 0 0 x1.length))] [.row .u8 x1 false] (B b143) [.row .u8 x1 false] := by
  unfold laws_FnAddVersion at h
  refine FOk_of_W 115 1 Try.func11 rfl rfl (Nat.le_of_ble_eq_true rfl) rfl (fun w X θ => ?_)
  refine W_seq ?_
  refine W_region ?_
  refine WO_step 1 [0] [0] True ⟨[(0, .one (.e (.sl 0 0 x1.length)))], [.row .u8 x1 false]⟩ (by kernel_rfl) trivial ?_
  refine WO_nil rfl ?_
  refine thenS_n ?_
  refine W_seq ?_
  refine W_seq ?_
  refine W_region ?_
  refine WO_step 3 [0] [0, 18] (True ∧ (True ∧ True)) ⟨[(0, .one (.e (.sl 0 0 x1.length))), (18, B (decide (1048576 < ((x1.length : Nat) : Int))))], [.row .u8 x1 false]⟩ (by kernel_rfl) ⟨trivial, trivial, trivial⟩ ?_
  refine WO_nil rfl ?_
  refine thenS_n ?_
  refine iteO_e h (fun hb145 h => W_true rfl hb145 ?_) (fun hb145 h => W_false rfl hb145 ?_)
  · refine W_seq ?_
    refine W_region ?_
    refine WO_step 1 [0] [2] True ⟨[(2, B true)], [.row .u8 x1 false]⟩ (by kernel_rfl) trivial ?_
    refine WO_nil rfl ?_
    refine thenS_n ?_
    refine W_ret ?_
    refine thenS_r ?_
    cases h
    exact ⟨[0], True, by kernel_rfl, trivial⟩
  · refine W_sub [0] [0] (st' := ⟨[(0, .one (.e (.sl 0 0 x1.length)))], [.row .u8 x1 false]⟩) (by kernel_rfl) ?_
    refine W_skip ?_
    refine thenS_n ?_
    refine W_seq ?_
    refine W_region ?_
    refine WO_step 1 [0] [20] True ⟨[(20, .one (.e (.sl 0 0 x1.length)))], [.row .u8 x1 false]⟩ (by kernel_rfl) trivial ?_
    refine bindO_e h (fun v285 hc150 h => ?_)
    obtain ⟨x146, i147, i148, i149⟩ := v285
    refine WO_call [.ro 0] Try.f26 rfl rfl rfl (by kernel_rfl) rfl rfl (by kernel_rfl) (spec_DrawAddVersion_ok n x1 x146 i147 i148 i149 hc150) (And.intro (And.intro rfl rfl) (trivial)) rfl ?_
    refine WO_step 6 [0, 1, 2] [3, 4] (True ∧ (True ∧ True)) ⟨[(3, .one (.e (.sl 1 0 x146.length))), (4, .one (.e (.p 2 0)))], [.row .u8 x1 false, .row .ver x146 true, .cells [cI i147, cI i148, cI i149]]⟩ (by kernel_rfl) ⟨trivial, trivial, trivial⟩ ?_
    refine WO_nil rfl ?_
    refine thenS_n ?_
    refine W_seq ?_
    refine W_region ?_
    refine WO_step 2 [0, 1, 2] [3, 4, 25, 26] (True ∧ True) ⟨[(3, .one (.e (.sl 1 0 x146.length))), (4, .one (.e (.p 2 0))), (25, .one (.e (.sl 1 0 x146.length))), (26, AGG [cI i147, cI i148, cI i149])], [.row .u8 x1 false, .row .ver x146 true, .cells [cI i147, cI i148, cI i149]]⟩ (by kernel_rfl) ⟨trivial, trivial⟩ ?_
    refine bindO_e h (fun v284 hc153 h => ?_)
    obtain ⟨x151, b152⟩ := v284
    refine WO_call [.ro 1] Try.f27 rfl rfl rfl (by kernel_rfl) rfl rfl (by kernel_rfl) (impl_AddVersion_ok n x146 (⟨i147, i148, i149⟩ : Ver) x151 b152 hc153) (And.intro (And.intro rfl rfl) (trivial)) rfl ?_
    refine WO_step 5 [0, 1, 2, 3] [3, 4, 5, 6] True ⟨[(3, .one (.e (.sl 1 0 x146.length))), (4, .one (.e (.p 2 0))), (5, .one (.e (.sl 3 0 x151.length))), (6, B b152)], [.row .u8 x1 false, .row .ver x146 true, .cells [cI i147, cI i148, cI i149], .row .ver x151 true]⟩ (by kernel_rfl) trivial ?_
    refine WO_nil rfl ?_
    refine thenS_n ?_
    refine W_seq ?_
    refine W_region ?_
    refine WO_step 2 [0, 1, 2, 3] [3, 4, 5, 6, 31, 32] (True ∧ True) ⟨[(3, .one (.e (.sl 1 0 x146.length))), (4, .one (.e (.p 2 0))), (5, .one (.e (.sl 3 0 x151.length))), (6, B b152), (31, .one (.e (.sl 1 0 x146.length))), (32, AGG [cI i147, cI i148, cI i149])], [.row .u8 x1 false, .row .ver x146 true, .cells [cI i147, cI i148, cI i149], .row .ver x151 true]⟩ (by kernel_rfl) ⟨trivial, trivial⟩ ?_
    refine bindO_e h (fun v283 hc156 h => ?_)
    obtain ⟨x154, b155⟩ := v283
    refine WO_call [.ro 1] Try.f28 rfl rfl rfl (by kernel_rfl) rfl rfl (by kernel_rfl) (spec_AddVersion_ok n x146 (⟨i147, i148, i149⟩ : Ver) x154 b155 hc156) (And.intro (And.intro rfl rfl) (trivial)) rfl ?_
    refine WO_step 5 [0, 1, 2, 3, 4] [3, 4, 5, 6, 7, 8] True ⟨[(3, .one (.e (.sl 1 0 x146.length))), (4, .one (.e (.p 2 0))), (5, .one (.e (.sl 3 0 x151.length))), (6, B b152), (7, .one (.e (.sl 4 0 x154.length))), (8, B b155)], [.row .u8 x1 false, .row .ver x146 true, .cells [cI i147, cI i148, cI i149], .row .ver x151 true, .row .ver x154 true]⟩ (by kernel_rfl) trivial ?_
    refine WO_nil rfl ?_
    refine thenS_n ?_
    refine W_seq ?_
    refine W_seq ?_
    refine W_region ?_
    refine WO_step 2 [0, 1, 2, 3, 4] [3, 4, 5, 6, 7, 8, 36, 37] True ⟨[(3, .one (.e (.sl 1 0 x146.length))), (4, .one (.e (.p 2 0))), (5, .one (.e (.sl 3 0 x151.length))), (6, B b152), (7, .one (.e (.sl 4 0 x154.length))), (8, B b155), (36, .one (.e (.sl 3 0 x151.length))), (37, .one (.e (.sl 4 0 x154.length)))], [.row .u8 x1 false, .row .ver x146 true, .cells [cI i147, cI i148, cI i149], .row .ver x151 true, .row .ver x154 true]⟩ (by kernel_rfl) trivial ?_
    refine bindO_e h (fun b157 hc158 h => ?_)
    refine WO_call [.ro 3, .ro 4] Try.f29 rfl rfl rfl (by kernel_rfl) rfl rfl (by kernel_rfl) (laws_equalVersions_ok n x151 x154 b157 hc158) (And.intro (And.intro rfl rfl) (And.intro (And.intro rfl rfl) (trivial))) rfl ?_
    refine WO_step 2 [0, 1, 2, 3, 4] [3, 4, 5, 6, 7, 8, 40] True ⟨[(3, .one (.e (.sl 1 0 x146.length))), (4, .one (.e (.p 2 0))), (5, .one (.e (.sl 3 0 x151.length))), (6, B b152), (7, .one (.e (.sl 4 0 x154.length))), (8, B b155), (40, B (!b157))], [.row .u8 x1 false, .row .ver x146 true, .cells [cI i147, cI i148, cI i149], .row .ver x151 true, .row .ver x154 true]⟩ (by kernel_rfl) trivial ?_
    refine WO_thru ⟨[(3, .one (.e (.sl 1 0 x146.length))), (4, .one (.e (.p 2 0))), (5, .one (.e (.sl 3 0 x151.length))), (6, B b152), (7, .one (.e (.sl 4 0 x154.length))), (8, B b155), (48, B ((!b157) || ((!(b152 == b155)) || (!b152))))], [.row .u8 x1 false, .row .ver x146 true, .cells [cI i147, cI i148, cI i149], .row .ver x151 true, .row .ver x154 true]⟩ ?_ ?_
    · refine WO_if 40 rfl (fun hb162 => ?_) (fun hb162 => ?_)
      · refine WO_step 8 [0, 1, 2, 3, 4] [3, 4, 5, 6, 7, 8, 48] True ⟨[(3, .one (.e (.sl 1 0 x146.length))), (4, .one (.e (.p 2 0))), (5, .one (.e (.sl 3 0 x151.length))), (6, B b152), (7, .one (.e (.sl 4 0 x154.length))), (8, B b155), (48, B true)], [.row .u8 x1 false, .row .ver x146 true, .cells [cI i147, cI i148, cI i149], .row .ver x151 true, .row .ver x154 true]⟩ (by kernel_rfl) trivial ?_
        exact WO_nil rfl ⟨rfl, by first | rfl | (rw [hb162]; first | done | rfl)⟩
      · refine WO_step 5 [0, 1, 2, 3, 4] [3, 4, 5, 6, 7, 8, 45] (True ∧ True) ⟨[(3, .one (.e (.sl 1 0 x146.length))), (4, .one (.e (.p 2 0))), (5, .one (.e (.sl 3 0 x151.length))), (6, B b152), (7, .one (.e (.sl 4 0 x154.length))), (8, B b155), (45, B (!(b152 == b155)))], [.row .u8 x1 false, .row .ver x146 true, .cells [cI i147, cI i148, cI i149], .row .ver x151 true, .row .ver x154 true]⟩ (by kernel_rfl) ⟨trivial, trivial⟩ ?_
        refine WO_if 45 rfl (fun hb163 => ?_) (fun hb163 => ?_)
        · refine WO_step 3 [0, 1, 2, 3, 4] [3, 4, 5, 6, 7, 8, 48] True ⟨[(3, .one (.e (.sl 1 0 x146.length))), (4, .one (.e (.p 2 0))), (5, .one (.e (.sl 3 0 x151.length))), (6, B b152), (7, .one (.e (.sl 4 0 x154.length))), (8, B b155), (48, B true)], [.row .u8 x1 false, .row .ver x146 true, .cells [cI i147, cI i148, cI i149], .row .ver x151 true, .row .ver x154 true]⟩ (by kernel_rfl) trivial ?_
          exact WO_nil rfl ⟨rfl, by first | rfl | (simp only [hb162, hb163]; first | done | rfl)⟩
        · refine WO_step 3 [0, 1, 2, 3, 4] [3, 4, 5, 6, 7, 8, 48] True ⟨[(3, .one (.e (.sl 1 0 x146.length))), (4, .one (.e (.p 2 0))), (5, .one (.e (.sl 3 0 x151.length))), (6, B b152), (7, .one (.e (.sl 4 0 x154.length))), (8, B b155), (48, B (!b152))], [.row .u8 x1 false, .row .ver x146 true, .cells [cI i147, cI i148, cI i149], .row .ver x151 true, .row .ver x154 true]⟩ (by kernel_rfl) trivial ?_
          exact WO_nil rfl ⟨rfl, by first | rfl | (simp only [hb162, hb163]; first | done | rfl)⟩
    · refine thenS_n ?_
      refine iteO_e h (fun hb170 h => W_true rfl hb170 ?_) (fun hb170 h => W_false rfl hb170 ?_)
      · refine W_seq ?_
        refine W_region ?_
        refine WO_step 2 [0, 3, 4] [6, 8, 49, 50] True ⟨[(6, B b152), (8, B b155), (49, .one (.e (.sl 1 0 x151.length))), (50, .one (.e (.sl 2 0 x154.length)))], [.row .u8 x1 false, .row .ver x151 true, .row .ver x154 true]⟩ (by kernel_rfl) trivial ?_
        refine bindO_e h (fun b171 hc172 h => ?_)
        refine WO_call [.ro 1, .ro 2] Try.f29 rfl rfl rfl (by kernel_rfl) rfl rfl (by kernel_rfl) (laws_equalVersions_ok n x151 x154 b171 hc172) (And.intro (And.intro rfl rfl) (And.intro (And.intro rfl rfl) (trivial))) rfl ?_
        refine WO_step 1 [0] [6, 8, 52] True ⟨[(6, B b152), (8, B b155), (52, B b171)], [.row .u8 x1 false]⟩ (by kernel_rfl) trivial ?_
        refine WO_thru ⟨[(2, B (b171 && (b152 == b155)))], [.row .u8 x1 false]⟩ ?_ ?_
        · refine WO_if 52 rfl (fun hb175 => ?_) (fun hb175 => ?_)
          · refine WO_step 5 [0] [2] (True ∧ True) ⟨[(2, B (b152 == b155))], [.row .u8 x1 false]⟩ (by kernel_rfl) ⟨trivial, trivial⟩ ?_
            exact WO_nil rfl ⟨rfl, by first | rfl | (rw [hb175]; first | done | rfl)⟩
          · refine WO_step 5 [0] [2] True ⟨[(2, B false)], [.row .u8 x1 false]⟩ (by kernel_rfl) trivial ?_
            exact WO_nil rfl ⟨rfl, by first | rfl | (rw [hb175]; first | done | rfl)⟩
        · refine thenS_n ?_
          refine W_ret ?_
          refine thenS_r ?_
          cases h
          exact ⟨[0], True, by kernel_rfl, trivial⟩
      · refine W_sub [0, 1, 2, 3] [3, 4, 5] (st' := ⟨[(3, .one (.e (.sl 1 0 x146.length))), (4, .one (.e (.p 2 0))), (5, .one (.e (.sl 3 0 x151.length)))], [.row .u8 x1 false, .row .ver x146 true, .cells [cI i147, cI i148, cI i149], .row .ver x151 true]⟩) (by kernel_rfl) ?_
        refine W_skip ?_
        refine thenS_n ?_
        refine W_seq ?_
        refine W_region ?_
        refine WO_step 5 [0, 1, 2, 3] [3, 4, 5, 58, 60, 62] (True ∧ (True ∧ True)) ⟨[(3, .one (.e (.sl 1 0 x146.length))), (4, .one (.e (.p 2 0))), (5, .one (.e (.sl 3 0 x151.length))), (58, .one (.e (.sl 3 0 x151.length))), (60, I i147), (62, I i149)], [.row .u8 x1 false, .row .ver x146 true, .cells [cI i147, cI i148, cI i149], .row .ver x151 true]⟩ (by kernel_rfl) ⟨trivial, trivial, trivial⟩ ?_
        refine bindO_e h (fun v282 hc178 h => ?_)
        obtain ⟨i176, b177⟩ := v282
        refine WO_call [.ro 3] Try.f24 rfl rfl rfl (by kernel_rfl) rfl rfl (by kernel_rfl) (impl_ReadAsOf_ok n x151 i147 i149 i176 b177 hc178) (And.intro (And.intro rfl rfl) (trivial)) rfl ?_
        refine WO_step 5 [0, 1, 2, 3] [3, 4, 5, 9, 10] True ⟨[(3, .one (.e (.sl 1 0 x146.length))), (4, .one (.e (.p 2 0))), (5, .one (.e (.sl 3 0 x151.length))), (9, I i176), (10, B b177)], [.row .u8 x1 false, .row .ver x146 true, .cells [cI i147, cI i148, cI i149], .row .ver x151 true]⟩ (by kernel_rfl) trivial ?_
        refine WO_nil rfl ?_
        refine thenS_n ?_
        refine W_seq ?_
        refine W_seq ?_
        refine W_region ?_
        refine WO_step 1 [0, 1, 2, 3] [3, 4, 5, 9, 10, 11] True ⟨[(3, .one (.e (.sl 1 0 x146.length))), (4, .one (.e (.p 2 0))), (5, .one (.e (.sl 3 0 x151.length))), (9, I i176), (10, B b177), (11, I 0)], [.row .u8 x1 false, .row .ver x146 true, .cells [cI i147, cI i148, cI i149], .row .ver x151 true]⟩ (by kernel_rfl) trivial ?_
        refine WO_nil rfl ?_
        refine thenS_n ?_
        refine W_block ?_
        refine W_loop ?_
        refine bindO_e h (fun v269 hv269 h => ?_)
        refine WL_cut (laws_FnAddVersion_L1_ok w X θ x146 x151 i176 b177 x1 i147 i148 i149 v269 n 0 hv269) ?_
        rcases v269 with _ | _
        · rintro _ _ ⟨rfl, rfl⟩
          refine blockS_r ?_
          refine thenS_r ?_
          cases h
          exact ⟨[0], True, by kernel_rfl, trivial⟩
        · rintro _ _ ⟨rfl, rfl⟩
          refine blockS_y ?_
          refine thenS_n ?_
          refine W_seq ?_
          refine W_region ?_
          refine WO_step 2 [0, 1, 2, 3] [3, 4, 5, 9, 97] True ⟨[(3, .one (.e (.sl 1 0 x146.length))), (4, .one (.e (.p 2 0))), (5, .one (.e (.sl 3 0 x151.length))), (9, I i176), (97, B b177)], [.row .u8 x1 false, .row .ver x146 true, .cells [cI i147, cI i148, cI i149], .row .ver x151 true]⟩ (by kernel_rfl) trivial ?_
          refine bindO_e h (fun b275 hv276 h => ?_)
          refine WO_thru ⟨[(2, B b275)], [.row .u8 x1 false]⟩ ?_ ?_
          · refine iteO_e hv276 (fun hb277 hv276 => WO_known 97 true rfl hb277 ?_) (fun hb277 hv276 => WO_known 97 false rfl hb277 ?_)
            · refine WO_step 6 [0, 1, 3] [3, 5, 103] (True ∧ (True ∧ True)) ⟨[(3, .one (.e (.sl 1 0 x146.length))), (5, .one (.e (.sl 2 0 x151.length))), (103, B (decide (i176 = i148)))], [.row .u8 x1 false, .row .ver x146 true, .row .ver x151 true]⟩ (by kernel_rfl) ⟨trivial, trivial, trivial⟩ ?_
              refine iteO_e hv276 (fun hb278 hv276 => WO_known 103 true rfl hb278 ?_) (fun hb278 hv276 => WO_known 103 false rfl hb278 ?_)
              · refine WO_step 8 [0, 2] [5, 111] (True ∧ (True ∧ (True ∧ (True ∧ True)))) ⟨[(5, .one (.e (.sl 1 0 x151.length))), (111, B (decide (((x151.length : Nat) : Int) = (w64 (((x146.length : Nat) : Int) + 1)))))], [.row .u8 x1 false, .row .ver x151 true]⟩ (by kernel_rfl) ⟨trivial, trivial, trivial, trivial, trivial⟩ ?_
                refine iteO_e hv276 (fun hb279 hv276 => WO_known 111 true rfl hb279 ?_) (fun hb279 hv276 => WO_known 111 false rfl hb279 ?_)
                · refine WO_step 1 [0, 1] [111, 112] True ⟨[(111, B true), (112, .one (.e (.sl 1 0 x151.length)))], [.row .u8 x1 false, .row .ver x151 true]⟩ (by kernel_rfl) trivial ?_
                  refine bindO_e hv276 (fun b280 hc281 hv276 => ?_)
                  refine WO_call [.ro 1] Try.f20 rfl rfl rfl (by kernel_rfl) rfl rfl (by kernel_rfl) (impl_ValidVersions_ok n x151 b280 hc281) (And.intro (And.intro rfl rfl) (trivial)) rfl ?_
                  refine WO_step 2 [0] [2] True ⟨[(2, B b280)], [.row .u8 x1 false]⟩ (by kernel_rfl) trivial ?_
                  cases hv276
                  exact WO_nil rfl ⟨rfl, rfl⟩
                · refine WO_step 4 [0] [2] True ⟨[(2, B false)], [.row .u8 x1 false]⟩ (by kernel_rfl) trivial ?_
                  cases hv276
                  exact WO_nil rfl ⟨rfl, rfl⟩
              · refine WO_step 12 [0] [2] True ⟨[(2, B false)], [.row .u8 x1 false]⟩ (by kernel_rfl) trivial ?_
                cases hv276
                exact WO_nil rfl ⟨rfl, rfl⟩
            · refine WO_step 18 [0] [2] True ⟨[(2, B false)], [.row .u8 x1 false]⟩ (by kernel_rfl) trivial ?_
              cases hv276
              exact WO_nil rfl ⟨rfl, rfl⟩
          · refine thenS_n ?_
            refine W_ret ?_
            cases h
            exact ⟨[0], True, by kernel_rfl, trivial⟩

/- laws.markVersionS -/
def laws_markVersionS_L1 (k2 : Nat) : Nat → (List Ver) → Int → Int → Option (((List Ver) × Int))
| 0, _, _, _ => none
| n + 1, x65, i66, i67 =>
 iteO (decide (i67 < ((k2 : Nat) : Int)))
 (guardO (0 ≤ i67 ∧ i67 < ((k2 : Nat) : Int)) <|
 guardO (0 ≤ i67 ∧ i67 < ((k2 : Nat) : Int)) <|
 guardO (0 ≤ i67 ∧ i67 < ((k2 : Nat) : Int)) <|
 laws_markVersionS_L1 k2 n (((x65.set i67.toNat (⟨i66, (x65.getD i67.toNat dver).value, (x65.getD i67.toNat dver).tm⟩ : Ver)).set i67.toNat (⟨((x65.set i67.toNat (⟨i66, (x65.getD i67.toNat dver).value, (x65.getD i67.toNat dver).tm⟩ : Ver)).getD i67.toNat dver).node, (w64 (i66 + 1)), ((x65.set i67.toNat (⟨i66, (x65.getD i67.toNat dver).value, (x65.getD i67.toNat dver).tm⟩ : Ver)).getD i67.toNat dver).tm⟩ : Ver)).set i67.toNat (⟨(((x65.set i67.toNat (⟨i66, (x65.getD i67.toNat dver).value, (x65.getD i67.toNat dver).tm⟩ : Ver)).set i67.toNat (⟨((x65.set i67.toNat (⟨i66, (x65.getD i67.toNat dver).value, (x65.getD i67.toNat dver).tm⟩ : Ver)).getD i67.toNat dver).node, (w64 (i66 + 1)), ((x65.set i67.toNat (⟨i66, (x65.getD i67.toNat dver).value, (x65.getD i67.toNat dver).tm⟩ : Ver)).getD i67.toNat dver).tm⟩ : Ver)).getD i67.toNat dver).node, (((x65.set i67.toNat (⟨i66, (x65.getD i67.toNat dver).value, (x65.getD i67.toNat dver).tm⟩ : Ver)).set i67.toNat (⟨((x65.set i67.toNat (⟨i66, (x65.getD i67.toNat dver).value, (x65.getD i67.toNat dver).tm⟩ : Ver)).getD i67.toNat dver).node, (w64 (i66 + 1)), ((x65.set i67.toNat (⟨i66, (x65.getD i67.toNat dver).value, (x65.getD i67.toNat dver).tm⟩ : Ver)).getD i67.toNat dver).tm⟩ : Ver)).getD i67.toNat dver).value, (w64 ((w64 (i66 + 1)) + 1))⟩ : Ver)) (w64 ((w64 ((w64 (i66 + 1)) + 1)) + 1)) (w64 (i67 + 1)))
 (some (x65, i66))

theorem laws_markVersionS_L1_ok (w : World) (X : Nat → Prop) (θ : List Loc) (k2 : Nat) (v : ((List Ver) × Int)) : ∀ (n : Nat) (x65 : List Ver) (i66 : Int) (i67 : Int), laws_markVersionS_L1 k2 n x65 i66 i67 = some v → WL EE ⟨w, X, θ, 34, 1⟩ (subC [1, 0, 1, 4, 4] (bodyC Try.f31)) (fun (e : Exit) (s : St) => (match v with | (x79, i80) => e = .exit 0 ∧ s = ⟨[(1, I i80)], [.row .ver x79 true]⟩ : Prop)) ⟨[(0, .one (.e (.sl 0 0 k2))), (1, I i66), (5, I i67)], [.row .ver x65 true]⟩ := by
  intro n
  induction n with
  | zero => intro _ _ _ h; exact none_e h
  | succ n ih =>
    intro x65 i66 i67 h
    rw [laws_markVersionS_L1] at h
    refine WL_round ?_
    refine W_seq ?_
    refine W_seq ?_
    refine W_region ?_
    refine WO_step 4 [0] [0, 1, 5, 9] (True ∧ (True ∧ True)) ⟨[(0, .one (.e (.sl 0 0 k2))), (1, I i66), (5, I i67), (9, B (decide (i67 < ((k2 : Nat) : Int))))], [.row .ver x65 true]⟩ (by kernel_rfl) ⟨trivial, trivial, trivial⟩ ?_
    refine WO_nil rfl ?_
    refine thenS_n ?_
    refine iteO_e h (fun hb83 h => W_true rfl hb83 ?_) (fun hb83 h => W_false rfl hb83 ?_)
    · refine W_sub [0] [0, 1, 5] (st' := ⟨[(0, .one (.e (.sl 0 0 k2))), (1, I i66), (5, I i67)], [.row .ver x65 true]⟩) (by kernel_rfl) ?_
      refine W_skip ?_
      refine thenS_n ?_
      refine W_seq ?_
      refine W_block ?_
      refine W_seq ?_
      refine W_region ?_
      refine guardO_e h (fun hg87 h => ?_)
      refine WO_step 6 [0] [0, 1, 5] ((0 ≤ i67 ∧ i67 < ((k2 : Nat) : Int)) ∧ (True ∧ True)) ⟨[(0, .one (.e (.sl 0 0 k2))), (1, I i66), (5, I i67)], [.row .ver (x65.set i67.toNat (⟨i66, (x65.getD i67.toNat dver).value, (x65.getD i67.toNat dver).tm⟩ : Ver)) true]⟩ (by kernel_rfl) ⟨hg87, trivial, trivial⟩ ?_
      refine WO_nil rfl ?_
      refine thenS_n ?_
      refine W_seq ?_
      refine W_region ?_
      refine WO_step 3 [0] [0, 1, 5] (True ∧ True) ⟨[(0, .one (.e (.sl 0 0 k2))), (1, I (w64 (i66 + 1))), (5, I i67)], [.row .ver (x65.set i67.toNat (⟨i66, (x65.getD i67.toNat dver).value, (x65.getD i67.toNat dver).tm⟩ : Ver)) true]⟩ (by kernel_rfl) ⟨trivial, trivial⟩ ?_
      refine WO_nil rfl ?_
      refine thenS_n ?_
      refine W_seq ?_
      refine W_region ?_
      refine guardO_e h (fun hg88 h => ?_)
      refine WO_step 6 [0] [0, 1, 5] ((0 ≤ i67 ∧ i67 < ((k2 : Nat) : Int)) ∧ (True ∧ True)) ⟨[(0, .one (.e (.sl 0 0 k2))), (1, I (w64 (i66 + 1))), (5, I i67)], [.row .ver ((x65.set i67.toNat (⟨i66, (x65.getD i67.toNat dver).value, (x65.getD i67.toNat dver).tm⟩ : Ver)).set i67.toNat (⟨((x65.set i67.toNat (⟨i66, (x65.getD i67.toNat dver).value, (x65.getD i67.toNat dver).tm⟩ : Ver)).getD i67.toNat dver).node, (w64 (i66 + 1)), ((x65.set i67.toNat (⟨i66, (x65.getD i67.toNat dver).value, (x65.getD i67.toNat dver).tm⟩ : Ver)).getD i67.toNat dver).tm⟩ : Ver)) true]⟩ (by kernel_rfl) ⟨hg88, trivial, trivial⟩ ?_
      refine WO_nil rfl ?_
      refine thenS_n ?_
      refine W_seq ?_
      refine W_region ?_
      refine WO_step 3 [0] [0, 1, 5] (True ∧ True) ⟨[(0, .one (.e (.sl 0 0 k2))), (1, I (w64 ((w64 (i66 + 1)) + 1))), (5, I i67)], [.row .ver ((x65.set i67.toNat (⟨i66, (x65.getD i67.toNat dver).value, (x65.getD i67.toNat dver).tm⟩ : Ver)).set i67.toNat (⟨((x65.set i67.toNat (⟨i66, (x65.getD i67.toNat dver).value, (x65.getD i67.toNat dver).tm⟩ : Ver)).getD i67.toNat dver).node, (w64 (i66 + 1)), ((x65.set i67.toNat (⟨i66, (x65.getD i67.toNat dver).value, (x65.getD i67.toNat dver).tm⟩ : Ver)).getD i67.toNat dver).tm⟩ : Ver)) true]⟩ (by kernel_rfl) ⟨trivial, trivial⟩ ?_
      refine WO_nil rfl ?_
      refine thenS_n ?_
      refine W_seq ?_
      refine W_region ?_
      refine guardO_e h (fun hg89 h => ?_)
      refine WO_step 6 [0] [0, 1, 5] ((0 ≤ i67 ∧ i67 < ((k2 : Nat) : Int)) ∧ (True ∧ True)) ⟨[(0, .one (.e (.sl 0 0 k2))), (1, I (w64 ((w64 (i66 + 1)) + 1))), (5, I i67)], [.row .ver (((x65.set i67.toNat (⟨i66, (x65.getD i67.toNat dver).value, (x65.getD i67.toNat dver).tm⟩ : Ver)).set i67.toNat (⟨((x65.set i67.toNat (⟨i66, (x65.getD i67.toNat dver).value, (x65.getD i67.toNat dver).tm⟩ : Ver)).getD i67.toNat dver).node, (w64 (i66 + 1)), ((x65.set i67.toNat (⟨i66, (x65.getD i67.toNat dver).value, (x65.getD i67.toNat dver).tm⟩ : Ver)).getD i67.toNat dver).tm⟩ : Ver)).set i67.toNat (⟨(((x65.set i67.toNat (⟨i66, (x65.getD i67.toNat dver).value, (x65.getD i67.toNat dver).tm⟩ : Ver)).set i67.toNat (⟨((x65.set i67.toNat (⟨i66, (x65.getD i67.toNat dver).value, (x65.getD i67.toNat dver).tm⟩ : Ver)).getD i67.toNat dver).node, (w64 (i66 + 1)), ((x65.set i67.toNat (⟨i66, (x65.getD i67.toNat dver).value, (x65.getD i67.toNat dver).tm⟩ : Ver)).getD i67.toNat dver).tm⟩ : Ver)).getD i67.toNat dver).node, (((x65.set i67.toNat (⟨i66, (x65.getD i67.toNat dver).value, (x65.getD i67.toNat dver).tm⟩ : Ver)).set i67.toNat (⟨((x65.set i67.toNat (⟨i66, (x65.getD i67.toNat dver).value, (x65.getD i67.toNat dver).tm⟩ : Ver)).getD i67.toNat dver).node, (w64 (i66 + 1)), ((x65.set i67.toNat (⟨i66, (x65.getD i67.toNat dver).value, (x65.getD i67.toNat dver).tm⟩ : Ver)).getD i67.toNat dver).tm⟩ : Ver)).getD i67.toNat dver).value, (w64 ((w64 (i66 + 1)) + 1))⟩ : Ver)) true]⟩ (by kernel_rfl) ⟨hg89, trivial, trivial⟩ ?_
      refine WO_nil rfl ?_
      refine thenS_n ?_
      refine W_region ?_
      refine WO_step 3 [0] [0, 1, 5] (True ∧ True) ⟨[(0, .one (.e (.sl 0 0 k2))), (1, I (w64 ((w64 ((w64 (i66 + 1)) + 1)) + 1))), (5, I i67)], [.row .ver (((x65.set i67.toNat (⟨i66, (x65.getD i67.toNat dver).value, (x65.getD i67.toNat dver).tm⟩ : Ver)).set i67.toNat (⟨((x65.set i67.toNat (⟨i66, (x65.getD i67.toNat dver).value, (x65.getD i67.toNat dver).tm⟩ : Ver)).getD i67.toNat dver).node, (w64 (i66 + 1)), ((x65.set i67.toNat (⟨i66, (x65.getD i67.toNat dver).value, (x65.getD i67.toNat dver).tm⟩ : Ver)).getD i67.toNat dver).tm⟩ : Ver)).set i67.toNat (⟨(((x65.set i67.toNat (⟨i66, (x65.getD i67.toNat dver).value, (x65.getD i67.toNat dver).tm⟩ : Ver)).set i67.toNat (⟨((x65.set i67.toNat (⟨i66, (x65.getD i67.toNat dver).value, (x65.getD i67.toNat dver).tm⟩ : Ver)).getD i67.toNat dver).node, (w64 (i66 + 1)), ((x65.set i67.toNat (⟨i66, (x65.getD i67.toNat dver).value, (x65.getD i67.toNat dver).tm⟩ : Ver)).getD i67.toNat dver).tm⟩ : Ver)).getD i67.toNat dver).node, (((x65.set i67.toNat (⟨i66, (x65.getD i67.toNat dver).value, (x65.getD i67.toNat dver).tm⟩ : Ver)).set i67.toNat (⟨((x65.set i67.toNat (⟨i66, (x65.getD i67.toNat dver).value, (x65.getD i67.toNat dver).tm⟩ : Ver)).getD i67.toNat dver).node, (w64 (i66 + 1)), ((x65.set i67.toNat (⟨i66, (x65.getD i67.toNat dver).value, (x65.getD i67.toNat dver).tm⟩ : Ver)).getD i67.toNat dver).tm⟩ : Ver)).getD i67.toNat dver).value, (w64 ((w64 (i66 + 1)) + 1))⟩ : Ver)) true]⟩ (by kernel_rfl) ⟨trivial, trivial⟩ ?_
      refine WO_nil rfl ?_
      refine blockS_n ?_
      refine thenS_n ?_
      refine W_region ?_
      refine WO_step 3 [0] [0, 1, 5] (True ∧ True) ⟨[(0, .one (.e (.sl 0 0 k2))), (1, I (w64 ((w64 ((w64 (i66 + 1)) + 1)) + 1))), (5, I (w64 (i67 + 1)))], [.row .ver (((x65.set i67.toNat (⟨i66, (x65.getD i67.toNat dver).value, (x65.getD i67.toNat dver).tm⟩ : Ver)).set i67.toNat (⟨((x65.set i67.toNat (⟨i66, (x65.getD i67.toNat dver).value, (x65.getD i67.toNat dver).tm⟩ : Ver)).getD i67.toNat dver).node, (w64 (i66 + 1)), ((x65.set i67.toNat (⟨i66, (x65.getD i67.toNat dver).value, (x65.getD i67.toNat dver).tm⟩ : Ver)).getD i67.toNat dver).tm⟩ : Ver)).set i67.toNat (⟨(((x65.set i67.toNat (⟨i66, (x65.getD i67.toNat dver).value, (x65.getD i67.toNat dver).tm⟩ : Ver)).set i67.toNat (⟨((x65.set i67.toNat (⟨i66, (x65.getD i67.toNat dver).value, (x65.getD i67.toNat dver).tm⟩ : Ver)).getD i67.toNat dver).node, (w64 (i66 + 1)), ((x65.set i67.toNat (⟨i66, (x65.getD i67.toNat dver).value, (x65.getD i67.toNat dver).tm⟩ : Ver)).getD i67.toNat dver).tm⟩ : Ver)).getD i67.toNat dver).node, (((x65.set i67.toNat (⟨i66, (x65.getD i67.toNat dver).value, (x65.getD i67.toNat dver).tm⟩ : Ver)).set i67.toNat (⟨((x65.set i67.toNat (⟨i66, (x65.getD i67.toNat dver).value, (x65.getD i67.toNat dver).tm⟩ : Ver)).getD i67.toNat dver).node, (w64 (i66 + 1)), ((x65.set i67.toNat (⟨i66, (x65.getD i67.toNat dver).value, (x65.getD i67.toNat dver).tm⟩ : Ver)).getD i67.toNat dver).tm⟩ : Ver)).getD i67.toNat dver).value, (w64 ((w64 (i66 + 1)) + 1))⟩ : Ver)) true]⟩ (by kernel_rfl) ⟨trivial, trivial⟩ ?_
      refine WO_nil rfl ?_
      refine thenS_n ?_
      exact ih _ _ _ h
    · refine W_sub [0] [1] (st' := ⟨[(1, I i66)], [.row .ver x65 true]⟩) (by kernel_rfl) ?_
      refine W_exit ?_
      refine thenS_e ?_
      refine thenS_e ?_
      cases h
      exact And.intro rfl rfl

def laws_markVersionS (n : Nat) (x1 : List Ver) (k2 : Nat) (i3 : Int) : Option ((List Ver) × Int) :=
 bindO (laws_markVersionS_L1 k2 n x1 i3 0) fun v90 =>
 match v90 with
 | (x79, i80) => (some (x79, i80))


theorem laws_markVersionS_ok (n : Nat) (x1 : List Ver) (k2 : Nat) (i3 : Int) (x46 : List Ver) (i47 : Int) (h : laws_markVersionS n x1 k2 i3 = some (x46, i47)) : FOk EE 31 [.one (.e (.sl 0 0 k2)), I i3] [.row .ver x1 true] (I i47) [.row .ver x46 true] := by
  unfold laws_markVersionS at h
  refine FOk_of_W 34 1 Try.func31 rfl rfl (Nat.le_of_ble_eq_true rfl) rfl (fun w X θ => ?_)
  refine W_seq ?_
  refine W_region ?_
  refine WO_step 1 [0] [0, 1] True ⟨[(0, .one (.e (.sl 0 0 k2))), (1, I i3)], [.row .ver x1 true]⟩ (by kernel_rfl) trivial ?_
  refine WO_nil rfl ?_
  refine thenS_n ?_
  refine W_seq ?_
  refine W_seq ?_
  refine W_region ?_
  refine WO_step 1 [0] [0, 1, 5] True ⟨[(0, .one (.e (.sl 0 0 k2))), (1, I i3), (5, I 0)], [.row .ver x1 true]⟩ (by kernel_rfl) trivial ?_
  refine WO_nil rfl ?_
  refine thenS_n ?_
  refine W_block ?_
  refine W_loop ?_
  refine bindO_e h (fun v90 hv90 h => ?_)
  refine WL_cut (laws_markVersionS_L1_ok w X θ k2 v90 n x1 i3 0 hv90) ?_
  obtain ⟨x79, i80⟩ := v90
  rintro _ _ ⟨rfl, rfl⟩
  refine blockS_y ?_
  refine thenS_n ?_
  refine W_seq ?_
  refine W_region ?_
  refine WO_step 2 [0] [4] True ⟨[(4, I i80)], [.row .ver x79 true]⟩ (by kernel_rfl) trivial ?_
  refine WO_nil rfl ?_
  refine thenS_n ?_
  refine W_ret ?_
  cases h
  exact ⟨[0], True, by kernel_rfl, trivial⟩

/- laws.heldVersionS -/
def laws_heldVersionS_L1 (x1 : List Ver) : Nat → Int → Int → Option ((Unit) ⊕ (Int))
| 0, _, _ => none
| n + 1, i102, i103 =>
 iteO (decide (i103 < ((x1.length : Nat) : Int)))
 (guardO (0 ≤ i103 ∧ i103 < ((x1.length : Nat) : Int)) <|
 iteO (!decide (((x1.getD i103.toNat dver).node) = i102))
 (some (.inl ()))
 (guardO (0 ≤ i103 ∧ i103 < ((x1.length : Nat) : Int)) <|
 iteO (!decide (((x1.getD i103.toNat dver).value) = (w64 (i102 + 1))))
 (some (.inl ()))
 (guardO (0 ≤ i103 ∧ i103 < ((x1.length : Nat) : Int)) <|
 iteO (!decide (((x1.getD i103.toNat dver).tm) = (w64 ((w64 (i102 + 1)) + 1))))
 (some (.inl ()))
 (laws_heldVersionS_L1 x1 n (w64 ((w64 ((w64 (i102 + 1)) + 1)) + 1)) (w64 (i103 + 1))))))
 (some (.inr i102))

theorem laws_heldVersionS_L1_ok (w : World) (X : Nat → Prop) (θ : List Loc) (x1 : List Ver) (v : (Unit) ⊕ (Int)) : ∀ (n : Nat) (i102 : Int) (i103 : Int), laws_heldVersionS_L1 x1 n i102 i103 = some v → WL EE ⟨w, X, θ, 40, 1⟩ (subC [1, 0, 1, 4, 4] (bodyC Try.f32)) (fun (e : Exit) (s : St) => (match v with | (.inl _) => e = .ret ∧ s = ⟨[(4, I (-1))], [.row .ver x1 false]⟩ | (.inr i126) => e = .exit 0 ∧ s = ⟨[(1, I i126)], [.row .ver x1 false]⟩ : Prop)) ⟨[(0, .one (.e (.sl 0 0 x1.length))), (1, I i102), (5, I i103)], [.row .ver x1 false]⟩ := by
  intro n
  induction n with
  | zero => intro _ _ h; exact none_e h
  | succ n ih =>
    intro i102 i103 h
    rw [laws_heldVersionS_L1] at h
    refine WL_round ?_
    refine W_seq ?_
    refine W_seq ?_
    refine W_region ?_
    refine WO_step 4 [0] [0, 1, 5, 9] (True ∧ (True ∧ True)) ⟨[(0, .one (.e (.sl 0 0 x1.length))), (1, I i102), (5, I i103), (9, B (decide (i103 < ((x1.length : Nat) : Int))))], [.row .ver x1 false]⟩ (by kernel_rfl) ⟨trivial, trivial, trivial⟩ ?_
    refine WO_nil rfl ?_
    refine thenS_n ?_
    refine iteO_e h (fun hb129 h => W_true rfl hb129 ?_) (fun hb129 h => W_false rfl hb129 ?_)
    · refine W_sub [0] [0, 1, 5] (st' := ⟨[(0, .one (.e (.sl 0 0 x1.length))), (1, I i102), (5, I i103)], [.row .ver x1 false]⟩) (by kernel_rfl) ?_
      refine W_skip ?_
      refine thenS_n ?_
      refine W_seq ?_
      refine W_block ?_
      refine W_seq ?_
      refine W_seq ?_
      refine W_region ?_
      refine guardO_e h (fun hg139 h => ?_)
      refine WO_step 7 [0] [0, 1, 5, 18] ((0 ≤ i103 ∧ i103 < ((x1.length : Nat) : Int)) ∧ (True ∧ (True ∧ True))) ⟨[(0, .one (.e (.sl 0 0 x1.length))), (1, I i102), (5, I i103), (18, B (!decide (((x1.getD i103.toNat dver).node) = i102)))], [.row .ver x1 false]⟩ (by kernel_rfl) ⟨hg139, trivial, trivial, trivial⟩ ?_
      refine WO_nil rfl ?_
      refine thenS_n ?_
      refine iteO_e h (fun hb141 h => W_true rfl hb141 ?_) (fun hb141 h => W_false rfl hb141 ?_)
      · refine W_seq ?_
        refine W_region ?_
        refine WO_step 1 [0] [4] True ⟨[(4, I (-1))], [.row .ver x1 false]⟩ (by kernel_rfl) trivial ?_
        refine WO_nil rfl ?_
        refine thenS_n ?_
        refine W_ret ?_
        refine thenS_r ?_
        refine blockS_r ?_
        refine thenS_r ?_
        refine thenS_r ?_
        cases h
        exact And.intro rfl rfl
      · refine W_sub [0] [0, 1, 5] (st' := ⟨[(0, .one (.e (.sl 0 0 x1.length))), (1, I i102), (5, I i103)], [.row .ver x1 false]⟩) (by kernel_rfl) ?_
        refine W_skip ?_
        refine thenS_n ?_
        refine W_seq ?_
        refine W_region ?_
        refine WO_step 3 [0] [0, 1, 5] (True ∧ True) ⟨[(0, .one (.e (.sl 0 0 x1.length))), (1, I (w64 (i102 + 1))), (5, I i103)], [.row .ver x1 false]⟩ (by kernel_rfl) ⟨trivial, trivial⟩ ?_
        refine WO_nil rfl ?_
        refine thenS_n ?_
        refine W_seq ?_
        refine W_seq ?_
        refine W_region ?_
        refine guardO_e h (fun hg142 h => ?_)
        refine WO_step 7 [0] [0, 1, 5, 27] ((0 ≤ i103 ∧ i103 < ((x1.length : Nat) : Int)) ∧ (True ∧ (True ∧ True))) ⟨[(0, .one (.e (.sl 0 0 x1.length))), (1, I (w64 (i102 + 1))), (5, I i103), (27, B (!decide (((x1.getD i103.toNat dver).value) = (w64 (i102 + 1)))))], [.row .ver x1 false]⟩ (by kernel_rfl) ⟨hg142, trivial, trivial, trivial⟩ ?_
        refine WO_nil rfl ?_
        refine thenS_n ?_
        refine iteO_e h (fun hb144 h => W_true rfl hb144 ?_) (fun hb144 h => W_false rfl hb144 ?_)
        · refine W_seq ?_
          refine W_region ?_
          refine WO_step 1 [0] [4] True ⟨[(4, I (-1))], [.row .ver x1 false]⟩ (by kernel_rfl) trivial ?_
          refine WO_nil rfl ?_
          refine thenS_n ?_
          refine W_ret ?_
          refine thenS_r ?_
          refine blockS_r ?_
          refine thenS_r ?_
          refine thenS_r ?_
          cases h
          exact And.intro rfl rfl
        · refine W_sub [0] [0, 1, 5] (st' := ⟨[(0, .one (.e (.sl 0 0 x1.length))), (1, I (w64 (i102 + 1))), (5, I i103)], [.row .ver x1 false]⟩) (by kernel_rfl) ?_
          refine W_skip ?_
          refine thenS_n ?_
          refine W_seq ?_
          refine W_region ?_
          refine WO_step 3 [0] [0, 1, 5] (True ∧ True) ⟨[(0, .one (.e (.sl 0 0 x1.length))), (1, I (w64 ((w64 (i102 + 1)) + 1))), (5, I i103)], [.row .ver x1 false]⟩ (by kernel_rfl) ⟨trivial, trivial⟩ ?_
          refine WO_nil rfl ?_
          refine thenS_n ?_
          refine W_seq ?_
          refine W_seq ?_
          refine W_region ?_
          refine guardO_e h (fun hg145 h => ?_)
          refine WO_step 7 [0] [0, 1, 5, 36] ((0 ≤ i103 ∧ i103 < ((x1.length : Nat) : Int)) ∧ (True ∧ (True ∧ True))) ⟨[(0, .one (.e (.sl 0 0 x1.length))), (1, I (w64 ((w64 (i102 + 1)) + 1))), (5, I i103), (36, B (!decide (((x1.getD i103.toNat dver).tm) = (w64 ((w64 (i102 + 1)) + 1)))))], [.row .ver x1 false]⟩ (by kernel_rfl) ⟨hg145, trivial, trivial, trivial⟩ ?_
          refine WO_nil rfl ?_
          refine thenS_n ?_
          refine iteO_e h (fun hb147 h => W_true rfl hb147 ?_) (fun hb147 h => W_false rfl hb147 ?_)
          · refine W_seq ?_
            refine W_region ?_
            refine WO_step 1 [0] [4] True ⟨[(4, I (-1))], [.row .ver x1 false]⟩ (by kernel_rfl) trivial ?_
            refine WO_nil rfl ?_
            refine thenS_n ?_
            refine W_ret ?_
            refine thenS_r ?_
            refine blockS_r ?_
            refine thenS_r ?_
            refine thenS_r ?_
            cases h
            exact And.intro rfl rfl
          · refine W_sub [0] [0, 1, 5] (st' := ⟨[(0, .one (.e (.sl 0 0 x1.length))), (1, I (w64 ((w64 (i102 + 1)) + 1))), (5, I i103)], [.row .ver x1 false]⟩) (by kernel_rfl) ?_
            refine W_skip ?_
            refine thenS_n ?_
            refine W_region ?_
            refine WO_step 3 [0] [0, 1, 5] (True ∧ True) ⟨[(0, .one (.e (.sl 0 0 x1.length))), (1, I (w64 ((w64 ((w64 (i102 + 1)) + 1)) + 1))), (5, I i103)], [.row .ver x1 false]⟩ (by kernel_rfl) ⟨trivial, trivial⟩ ?_
            refine WO_nil rfl ?_
            refine blockS_n ?_
            refine thenS_n ?_
            refine W_region ?_
            refine WO_step 3 [0] [0, 1, 5] (True ∧ True) ⟨[(0, .one (.e (.sl 0 0 x1.length))), (1, I (w64 ((w64 ((w64 (i102 + 1)) + 1)) + 1))), (5, I (w64 (i103 + 1)))], [.row .ver x1 false]⟩ (by kernel_rfl) ⟨trivial, trivial⟩ ?_
            refine WO_nil rfl ?_
            refine thenS_n ?_
            exact ih _ _ h
    · refine W_sub [0] [1] (st' := ⟨[(1, I i102)], [.row .ver x1 false]⟩) (by kernel_rfl) ?_
      refine W_exit ?_
      refine thenS_e ?_
      refine thenS_e ?_
      cases h
      exact And.intro rfl rfl

def laws_heldVersionS (n : Nat) (x1 : List Ver) (i2 : Int) : Option (Int) :=
 bindO (laws_heldVersionS_L1 x1 n i2 0) fun v148 =>
 match v148 with
 | (.inl _) => (some (-1))
 | (.inr i126) => (some i126)


theorem laws_heldVersionS_ok (n : Nat) (x1 : List Ver) (i2 : Int) (i75 : Int) (h : laws_heldVersionS n x1 i2 = some i75) : FOk EE 32 [.one (.e (.sl 0 0 x1.length)), I i2] [.row .ver x1 false] (I i75) [.row .ver x1 false] := by
  unfold laws_heldVersionS at h
  refine FOk_of_W 40 1 Try.func32 rfl rfl (Nat.le_of_ble_eq_true rfl) rfl (fun w X θ => ?_)
  refine W_seq ?_
  refine W_region ?_
  refine WO_step 1 [0] [0, 1] True ⟨[(0, .one (.e (.sl 0 0 x1.length))), (1, I i2)], [.row .ver x1 false]⟩ (by kernel_rfl) trivial ?_
  refine WO_nil rfl ?_
  refine thenS_n ?_
  refine W_seq ?_
  refine W_seq ?_
  refine W_region ?_
  refine WO_step 1 [0] [0, 1, 5] True ⟨[(0, .one (.e (.sl 0 0 x1.length))), (1, I i2), (5, I 0)], [.row .ver x1 false]⟩ (by kernel_rfl) trivial ?_
  refine WO_nil rfl ?_
  refine thenS_n ?_
  refine W_block ?_
  refine W_loop ?_
  refine bindO_e h (fun v148 hv148 h => ?_)
  refine WL_cut (laws_heldVersionS_L1_ok w X θ x1 v148 n i2 0 hv148) ?_
  rcases v148 with _ | i126
  · rintro _ _ ⟨rfl, rfl⟩
    refine blockS_r ?_
    refine thenS_r ?_
    cases h
    exact ⟨[0], True, by kernel_rfl, trivial⟩
  · rintro _ _ ⟨rfl, rfl⟩
    refine blockS_y ?_
    refine thenS_n ?_
    refine W_seq ?_
    refine W_region ?_
    refine WO_step 2 [0] [4] True ⟨[(4, I i126)], [.row .ver x1 false]⟩ (by kernel_rfl) trivial ?_
    refine WO_nil rfl ?_
    refine thenS_n ?_
    refine W_ret ?_
    cases h
    exact ⟨[0], True, by kernel_rfl, trivial⟩

/- laws.FnExactAddVersion -/
def laws_FnExactAddVersion (n : Nat) (x1 : List Ver) (x2 : Ver) : Option (Bool) :=
 bindO (laws_szVersionS x1 1048576) fun i95 =>
 iteO (decide (i95 < 0))
 (some true)
 (bindO (laws_toVersionS n x1) fun x99 =>
 bindO (laws_toVersion x2) fun (i101, i102, i103) =>
 bindO (spec_AddVersion n x99 (⟨i101, i102, i103⟩ : Ver)) fun (x105, b106) =>
 bindO (laws_toVersionS n x1) fun x110 =>
 bindO (laws_toVersion x2) fun (i112, i113, i114) =>
 bindO (impl_AddVersion n x110 (⟨i112, i113, i114⟩ : Ver)) fun (x116, b117) =>
 bindO (laws_eqVersionS n x116 x105) fun b119 =>
 iteO ((!b119) || (!(b117 == b106)))
 (some false)
 (bindO (laws_toVersionS n x1) fun x126 =>
 bindO (laws_eqVersionS n x110 x126) fun b128 =>
 iteO (!b128)
 (some false)
 (bindO (laws_markVersionS n x110 x110.length 1) fun (x132, i133) =>
 guardO (x110.length = x132.length) <|
 bindO (iteO (decide (i133 < 0))
 (some true)
 (bindO (laws_eqVersionS n x116 x105) fun b143 =>
 iteO (!b143)
 (some true)
 (some (!(b117 == b106))))) fun b140 =>
 iteO b140
 (some false)
 (bindO (laws_markVersionS n x116 x116.length 1) fun (x148, i149) =>
 guardO (x116.length = x148.length) <|
 bindO (laws_heldVersionS n x148 1) fun i152 =>
 iteO (decide (i152 < 0))
 (some false)
 (iteO (!decide (i152 = i149))
 (some false)
 (bindO (laws_toVersionS n x1) fun x158 =>
 bindO (laws_toVersion x2) fun (i160, i161, i162) =>
 bindO (impl_AddVersion n x158 (⟨i160, i161, i162⟩ : Ver)) fun (x164, b165) =>
 bindO (laws_eqVersionS n x164 x105) fun b169 =>
 iteO ((!b169) || (!(b165 == b106)))
 (some false)
 (bindO (laws_heldVersionS n x148 1) fun i176 =>
 iteO (decide (i176 < 0))
 (some false)
 (iteO (!decide (i176 = i149))
 (some false)
 (some true)))))))))

theorem laws_FnExactAddVersion_ok (n : Nat) (x1 : List Ver) (x2 : Ver) (b94 : Bool) (h : laws_FnExactAddVersion n x1 x2 = some b94) : FOk EE 12 [.one (.e (.sl 0 0 x1.length)), AGG [cI x2.node, cI x2.value, cI x2.tm]] [.row .ver x1 false] (B b94) [.row .ver x1 false] := by
  unfold laws_FnExactAddVersion at h
  refine FOk_of_W 104 1 Try.func12 rfl rfl (Nat.le_of_ble_eq_true rfl) rfl (fun w X θ => ?_)
  refine W_seq ?_
  refine W_region ?_
  refine WO_step 2 [0, 1] [0, 3] (True ∧ True) ⟨[(0, .one (.e (.sl 0 0 x1.length))), (3, .one (.e (.p 1 0)))], [.row .ver x1 false, .cells [cI x2.node, cI x2.value, cI x2.tm]]⟩ (by kernel_rfl) ⟨trivial, trivial⟩ ?_
  refine WO_nil rfl ?_
  refine thenS_n ?_
  refine W_seq ?_
  refine W_region ?_
  refine WO_step 1 [0, 1] [0, 3, 5] True ⟨[(0, .one (.e (.sl 0 0 x1.length))), (3, .one (.e (.p 1 0))), (5, I 1048576)], [.row .ver x1 false, .cells [cI x2.node, cI x2.value, cI x2.tm]]⟩ (by kernel_rfl) trivial ?_
  refine WO_nil rfl ?_
  refine thenS_n ?_
  refine W_seq ?_
  refine W_region ?_
  refine WO_step 2 [0, 1] [0, 3, 16, 17] True ⟨[(0, .one (.e (.sl 0 0 x1.length))), (3, .one (.e (.p 1 0))), (16, .one (.e (.sl 0 0 x1.length))), (17, I 1048576)], [.row .ver x1 false, .cells [cI x2.node, cI x2.value, cI x2.tm]]⟩ (by kernel_rfl) trivial ?_
  refine bindO_e h (fun i95 hc96 h => ?_)
  refine WO_call [.ro 0] Try.f17 rfl rfl rfl (by kernel_rfl) rfl rfl (by kernel_rfl) (laws_szVersionS_ok x1 1048576 i95 hc96) (And.intro (And.intro rfl rfl) (trivial)) rfl ?_
  refine WO_step 1 [0, 1] [0, 3, 5] True ⟨[(0, .one (.e (.sl 0 0 x1.length))), (3, .one (.e (.p 1 0))), (5, I i95)], [.row .ver x1 false, .cells [cI x2.node, cI x2.value, cI x2.tm]]⟩ (by kernel_rfl) trivial ?_
  refine WO_nil rfl ?_
  refine thenS_n ?_
  refine W_seq ?_
  refine W_seq ?_
  refine W_region ?_
  refine WO_step 2 [0, 1] [0, 3, 20] (True ∧ True) ⟨[(0, .one (.e (.sl 0 0 x1.length))), (3, .one (.e (.p 1 0))), (20, B (decide (i95 < 0)))], [.row .ver x1 false, .cells [cI x2.node, cI x2.value, cI x2.tm]]⟩ (by kernel_rfl) ⟨trivial, trivial⟩ ?_
  refine WO_nil rfl ?_
  refine thenS_n ?_
  refine iteO_e h (fun hb98 h => W_true rfl hb98 ?_) (fun hb98 h => W_false rfl hb98 ?_)
  · refine W_seq ?_
    refine W_region ?_
    refine WO_step 1 [0] [4] True ⟨[(4, B true)], [.row .ver x1 false]⟩ (by kernel_rfl) trivial ?_
    refine WO_nil rfl ?_
    refine thenS_n ?_
    refine W_ret ?_
    refine thenS_r ?_
    cases h
    exact ⟨[0], True, by kernel_rfl, trivial⟩
  · refine W_sub [0, 1] [0, 3] (st' := ⟨[(0, .one (.e (.sl 0 0 x1.length))), (3, .one (.e (.p 1 0)))], [.row .ver x1 false, .cells [cI x2.node, cI x2.value, cI x2.tm]]⟩) (by kernel_rfl) ?_
    refine W_skip ?_
    refine thenS_n ?_
    refine W_seq ?_
    refine bindO_e h (fun x99 hc100 h => ?_)
    refine bindO_e h (fun v108 hc104 h => ?_)
    obtain ⟨i101, i102, i103⟩ := v108
    refine bindO_e h (fun v109 hc107 h => ?_)
    obtain ⟨x105, b106⟩ := v109
    refine W_cut (Q' := fun (e : Exit) (s : St) => e = .normal ∧ s = ⟨[(0, .one (.e (.sl 0 0 x1.length))), (3, .one (.e (.p 1 0))), (6, .one (.e (.sl 2 0 x105.length))), (7, B b106)], [.row .ver x1 false, .cells [cI x2.node, cI x2.value, cI x2.tm], .row .ver x105 true]⟩) ?_ ?_
    · refine W_draw [] false (by kernel_rfl) (by kernel_rfl) ?_
      refine WD_takeK [0, 2] [0, 3, 22, 24] [0, 3, 22, 24] (φ := (True ∧ True ∧ True)) (ls' := #[true, false, true, false, false, false, false, false, false, false]) (Ts' := [(0, .one (.e (.sl 0 0 x1.length))), (3, .one (.e (.p 1 0))), (22, .one (.e (.sl 0 0 x1.length))), (24, AGG [cI x2.node, cI x2.value, cI x2.tm])]) (st' := ⟨[(0, .one (.e (.sl 0 0 x1.length))), (3, .one (.e (.p 1 0))), (22, .one (.e (.sl 0 0 x1.length))), (24, AGG [cI x2.node, cI x2.value, cI x2.tm])], [.row .ver x1 false, .cells [cI x2.node, cI x2.value, cI x2.tm]]⟩) (n2 := 8) (by kernel_rfl) ⟨trivial, trivial, trivial⟩ rfl ?_
      refine WD_all [1] (n := 7) (by kernel_rfl) rfl ?_
      refine WM_call [.ro 0] Try.f19 rfl rfl (by kernel_rfl) rfl rfl (by kernel_rfl) (laws_toVersionS_ok n x1 x99 hc100) (And.intro (And.intro rfl rfl) (trivial)) rfl (And.intro rfl (And.intro (And.intro rfl rfl) (trivial))) ?_
      refine WD_all [3] (n := 6) (by kernel_rfl) rfl ?_
      refine WM_call [] Try.f30 rfl rfl (by kernel_rfl) rfl rfl (by kernel_rfl) (laws_toVersion_ok x2 i101 i102 i103 hc104) (trivial) rfl (And.intro rfl (And.intro (And.intro rfl rfl) (trivial))) ?_
      refine WD_all [4] (n := 5) (by kernel_rfl) rfl ?_
      refine WM_call [.ro 2] Try.f28 rfl rfl (by kernel_rfl) rfl rfl (by kernel_rfl) (spec_AddVersion_ok n x99 (⟨i101, i102, i103⟩ : Ver) x105 b106 hc107) (And.intro (And.intro rfl rfl) (trivial)) rfl (And.intro rfl (And.intro (And.intro rfl rfl) (trivial))) ?_
      refine WD_all [5] (n := 4) (by kernel_rfl) rfl ?_
      refine WM_op (φ := True) (v := .tup [.e (.sl 3 0 x105.length), .e (cB b106)]) (H' := [.row .ver x1 false, .cells [cI x2.node, cI x2.value, cI x2.tm], .row .ver x99 true, .row .ver x105 true]) rfl rfl (by kernel_rfl) trivial rfl (And.intro rfl (And.intro (And.intro rfl rfl) (trivial))) ?_
      refine WD_all [6, 7] (n := 3) (by kernel_rfl) rfl (And.intro ?_ (?_))
      · refine WM_op (φ := True) (v := .one (.e (.sl 3 0 x105.length))) (H' := [.row .ver x1 false, .cells [cI x2.node, cI x2.value, cI x2.tm], .row .ver x99 true, .row .ver x105 true]) rfl rfl (by kernel_rfl) trivial rfl (And.intro rfl (And.intro (And.intro rfl rfl) (trivial))) ?_
        refine WD_all [7, 8] (n := 2) (by kernel_rfl) rfl (And.intro ?_ (?_))
        · refine WM_op (φ := True) (v := B b106) (H' := [.row .ver x1 false, .cells [cI x2.node, cI x2.value, cI x2.tm], .row .ver x99 true, .row .ver x105 true]) rfl rfl (by kernel_rfl) trivial rfl (And.intro rfl (And.intro (And.intro rfl rfl) (trivial))) ?_
          refine WD_all [8] (n := 1) (by kernel_rfl) rfl ?_
          refine WM_op (φ := True) (v := .one (.e (.sl 3 0 x105.length))) (H' := [.row .ver x1 false, .cells [cI x2.node, cI x2.value, cI x2.tm], .row .ver x99 true, .row .ver x105 true]) rfl rfl (by kernel_rfl) trivial rfl (And.intro rfl (And.intro (And.intro rfl rfl) (trivial))) ?_
          refine WD_takeK [9] [0, 3, 7] [0, 3, 6, 7] (φ := True) (ls' := #[true, true, true, true, true, true, true, true, true, true]) (Ts' := [(0, .one (.e (.sl 0 0 x1.length))), (3, .one (.e (.p 1 0))), (7, B b106)]) (st' := ⟨[(0, .one (.e (.sl 0 0 x1.length))), (3, .one (.e (.p 1 0))), (6, .one (.e (.sl 3 0 x105.length))), (7, B b106)], [.row .ver x1 false, .cells [cI x2.node, cI x2.value, cI x2.tm], .row .ver x99 true, .row .ver x105 true]⟩) (n2 := 0) (by kernel_rfl) trivial rfl ?_
          exact WD_done [0, 1, 3] [0, 3, 6, 7] (st' := ⟨[(0, .one (.e (.sl 0 0 x1.length))), (3, .one (.e (.p 1 0))), (6, .one (.e (.sl 2 0 x105.length))), (7, B b106)], [.row .ver x1 false, .cells [cI x2.node, cI x2.value, cI x2.tm], .row .ver x105 true]⟩) (by kernel_rfl) (by kernel_rfl) (And.intro rfl rfl)
        · refine WM_op (φ := True) (v := .one (.e (.sl 3 0 x105.length))) (H' := [.row .ver x1 false, .cells [cI x2.node, cI x2.value, cI x2.tm], .row .ver x99 true, .row .ver x105 true]) rfl rfl (by kernel_rfl) trivial rfl (And.intro rfl (And.intro (And.intro rfl rfl) (trivial))) ?_
          refine WD_all [7] (n := 1) (by kernel_rfl) rfl ?_
          refine WM_op (φ := True) (v := B b106) (H' := [.row .ver x1 false, .cells [cI x2.node, cI x2.value, cI x2.tm], .row .ver x99 true, .row .ver x105 true]) rfl rfl (by kernel_rfl) trivial rfl (And.intro rfl (And.intro (And.intro rfl rfl) (trivial))) ?_
          refine WD_takeK [9] [0, 3, 7] [0, 3, 6, 7] (φ := True) (ls' := #[true, true, true, true, true, true, true, true, true, true]) (Ts' := [(0, .one (.e (.sl 0 0 x1.length))), (3, .one (.e (.p 1 0))), (7, B b106)]) (st' := ⟨[(0, .one (.e (.sl 0 0 x1.length))), (3, .one (.e (.p 1 0))), (6, .one (.e (.sl 3 0 x105.length))), (7, B b106)], [.row .ver x1 false, .cells [cI x2.node, cI x2.value, cI x2.tm], .row .ver x99 true, .row .ver x105 true]⟩) (n2 := 0) (by kernel_rfl) trivial rfl ?_
          exact WD_done [0, 1, 3] [0, 3, 6, 7] (st' := ⟨[(0, .one (.e (.sl 0 0 x1.length))), (3, .one (.e (.p 1 0))), (6, .one (.e (.sl 2 0 x105.length))), (7, B b106)], [.row .ver x1 false, .cells [cI x2.node, cI x2.value, cI x2.tm], .row .ver x105 true]⟩) (by kernel_rfl) (by kernel_rfl) (And.intro rfl rfl)
      · refine WM_op (φ := True) (v := B b106) (H' := [.row .ver x1 false, .cells [cI x2.node, cI x2.value, cI x2.tm], .row .ver x99 true, .row .ver x105 true]) rfl rfl (by kernel_rfl) trivial rfl (And.intro rfl (And.intro (And.intro rfl rfl) (trivial))) ?_
        refine WD_all [6] (n := 2) (by kernel_rfl) rfl ?_
        refine WM_op (φ := True) (v := .one (.e (.sl 3 0 x105.length))) (H' := [.row .ver x1 false, .cells [cI x2.node, cI x2.value, cI x2.tm], .row .ver x99 true, .row .ver x105 true]) rfl rfl (by kernel_rfl) trivial rfl (And.intro rfl (And.intro (And.intro rfl rfl) (trivial))) ?_
        refine WD_all [8] (n := 1) (by kernel_rfl) rfl ?_
        refine WM_op (φ := True) (v := .one (.e (.sl 3 0 x105.length))) (H' := [.row .ver x1 false, .cells [cI x2.node, cI x2.value, cI x2.tm], .row .ver x99 true, .row .ver x105 true]) rfl rfl (by kernel_rfl) trivial rfl (And.intro rfl (And.intro (And.intro rfl rfl) (trivial))) ?_
        refine WD_takeK [9] [0, 3, 7] [0, 3, 6, 7] (φ := True) (ls' := #[true, true, true, true, true, true, true, true, true, true]) (Ts' := [(0, .one (.e (.sl 0 0 x1.length))), (3, .one (.e (.p 1 0))), (7, B b106)]) (st' := ⟨[(0, .one (.e (.sl 0 0 x1.length))), (3, .one (.e (.p 1 0))), (6, .one (.e (.sl 3 0 x105.length))), (7, B b106)], [.row .ver x1 false, .cells [cI x2.node, cI x2.value, cI x2.tm], .row .ver x99 true, .row .ver x105 true]⟩) (n2 := 0) (by kernel_rfl) trivial rfl ?_
        exact WD_done [0, 1, 3] [0, 3, 6, 7] (st' := ⟨[(0, .one (.e (.sl 0 0 x1.length))), (3, .one (.e (.p 1 0))), (6, .one (.e (.sl 2 0 x105.length))), (7, B b106)], [.row .ver x1 false, .cells [cI x2.node, cI x2.value, cI x2.tm], .row .ver x105 true]⟩) (by kernel_rfl) (by kernel_rfl) (And.intro rfl rfl)
    · rintro _ _ ⟨rfl, rfl⟩
      refine thenS_n ?_
      refine W_seq ?_
      refine W_region ?_
      refine WO_step 1 [0, 1, 2] [0, 3, 6, 7, 29] True ⟨[(0, .one (.e (.sl 0 0 x1.length))), (3, .one (.e (.p 1 0))), (6, .one (.e (.sl 2 0 x105.length))), (7, B b106), (29, .one (.e (.sl 0 0 x1.length)))], [.row .ver x1 false, .cells [cI x2.node, cI x2.value, cI x2.tm], .row .ver x105 true]⟩ (by kernel_rfl) trivial ?_
      refine bindO_e h (fun x110 hc111 h => ?_)
      refine WO_call [.ro 0] Try.f19 rfl rfl rfl (by kernel_rfl) rfl rfl (by kernel_rfl) (laws_toVersionS_ok n x1 x110 hc111) (And.intro (And.intro rfl rfl) (trivial)) rfl ?_
      refine WO_step 1 [0, 1, 2, 3] [0, 3, 6, 7, 8] True ⟨[(0, .one (.e (.sl 0 0 x1.length))), (3, .one (.e (.p 1 0))), (6, .one (.e (.sl 2 0 x105.length))), (7, B b106), (8, .one (.e (.sl 3 0 x110.length)))], [.row .ver x1 false, .cells [cI x2.node, cI x2.value, cI x2.tm], .row .ver x105 true, .row .ver x110 true]⟩ (by kernel_rfl) trivial ?_
      refine WO_nil rfl ?_
      refine thenS_n ?_
      refine W_seq ?_
      refine W_region ?_
      refine WO_step 2 [0, 1, 2, 3] [0, 3, 6, 7, 8, 32, 33] (True ∧ True) ⟨[(0, .one (.e (.sl 0 0 x1.length))), (3, .one (.e (.p 1 0))), (6, .one (.e (.sl 2 0 x105.length))), (7, B b106), (8, .one (.e (.sl 3 0 x110.length))), (32, .one (.e (.sl 3 0 x110.length))), (33, AGG [cI x2.node, cI x2.value, cI x2.tm])], [.row .ver x1 false, .cells [cI x2.node, cI x2.value, cI x2.tm], .row .ver x105 true, .row .ver x110 true]⟩ (by kernel_rfl) ⟨trivial, trivial⟩ ?_
      refine bindO_e h (fun v185 hc115 h => ?_)
      obtain ⟨i112, i113, i114⟩ := v185
      refine WO_call [] Try.f30 rfl rfl rfl (by kernel_rfl) rfl rfl (by kernel_rfl) (laws_toVersion_ok x2 i112 i113 i114 hc115) (trivial) rfl ?_
      refine WO_sub [0, 1, 2, 3] [0, 3, 6, 7, 8, 32, 34] (st' := ⟨[(0, .one (.e (.sl 0 0 x1.length))), (3, .one (.e (.p 1 0))), (6, .one (.e (.sl 2 0 x105.length))), (7, B b106), (8, .one (.e (.sl 3 0 x110.length))), (32, .one (.e (.sl 3 0 x110.length))), (34, AGG [cI i112, cI i113, cI i114])], [.row .ver x1 false, .cells [cI x2.node, cI x2.value, cI x2.tm], .row .ver x105 true, .row .ver x110 true]⟩) (by kernel_rfl) ?_
      refine bindO_e h (fun v184 hc118 h => ?_)
      obtain ⟨x116, b117⟩ := v184
      refine WO_call [.ro 3] Try.f27 rfl rfl rfl (by kernel_rfl) rfl rfl (by kernel_rfl) (impl_AddVersion_ok n x110 (⟨i112, i113, i114⟩ : Ver) x116 b117 hc118) (And.intro (And.intro rfl rfl) (trivial)) rfl ?_
      refine WO_step 5 [0, 1, 2, 3, 4] [0, 3, 6, 7, 8, 9, 10] True ⟨[(0, .one (.e (.sl 0 0 x1.length))), (3, .one (.e (.p 1 0))), (6, .one (.e (.sl 2 0 x105.length))), (7, B b106), (8, .one (.e (.sl 3 0 x110.length))), (9, .one (.e (.sl 4 0 x116.length))), (10, B b117)], [.row .ver x1 false, .cells [cI x2.node, cI x2.value, cI x2.tm], .row .ver x105 true, .row .ver x110 true, .row .ver x116 true]⟩ (by kernel_rfl) trivial ?_
      refine WO_nil rfl ?_
      refine thenS_n ?_
      refine W_seq ?_
      refine W_seq ?_
      refine W_region ?_
      refine WO_step 2 [0, 1, 2, 3, 4] [0, 3, 6, 7, 8, 9, 10, 38, 39] True ⟨[(0, .one (.e (.sl 0 0 x1.length))), (3, .one (.e (.p 1 0))), (6, .one (.e (.sl 2 0 x105.length))), (7, B b106), (8, .one (.e (.sl 3 0 x110.length))), (9, .one (.e (.sl 4 0 x116.length))), (10, B b117), (38, .one (.e (.sl 4 0 x116.length))), (39, .one (.e (.sl 2 0 x105.length)))], [.row .ver x1 false, .cells [cI x2.node, cI x2.value, cI x2.tm], .row .ver x105 true, .row .ver x110 true, .row .ver x116 true]⟩ (by kernel_rfl) trivial ?_
      refine bindO_e h (fun b119 hc120 h => ?_)
      refine WO_call [.ro 4, .ro 2] Try.f21 rfl rfl rfl (by kernel_rfl) rfl rfl (by kernel_rfl) (laws_eqVersionS_ok n x116 x105 b119 hc120) (And.intro (And.intro rfl rfl) (And.intro (And.intro rfl rfl) (trivial))) rfl ?_
      refine WO_step 2 [0, 1, 2, 3, 4] [0, 3, 6, 7, 8, 9, 10, 42] True ⟨[(0, .one (.e (.sl 0 0 x1.length))), (3, .one (.e (.p 1 0))), (6, .one (.e (.sl 2 0 x105.length))), (7, B b106), (8, .one (.e (.sl 3 0 x110.length))), (9, .one (.e (.sl 4 0 x116.length))), (10, B b117), (42, B (!b119))], [.row .ver x1 false, .cells [cI x2.node, cI x2.value, cI x2.tm], .row .ver x105 true, .row .ver x110 true, .row .ver x116 true]⟩ (by kernel_rfl) trivial ?_
      refine WO_thru ⟨[(0, .one (.e (.sl 0 0 x1.length))), (3, .one (.e (.p 1 0))), (6, .one (.e (.sl 2 0 x105.length))), (7, B b106), (8, .one (.e (.sl 3 0 x110.length))), (9, .one (.e (.sl 4 0 x116.length))), (10, B b117), (46, B ((!b119) || (!(b117 == b106))))], [.row .ver x1 false, .cells [cI x2.node, cI x2.value, cI x2.tm], .row .ver x105 true, .row .ver x110 true, .row .ver x116 true]⟩ ?_ ?_
      · refine WO_if 42 rfl (fun hb123 => ?_) (fun hb123 => ?_)
        · refine WO_step 4 [0, 1, 2, 3, 4] [0, 3, 6, 7, 8, 9, 10, 46] True ⟨[(0, .one (.e (.sl 0 0 x1.length))), (3, .one (.e (.p 1 0))), (6, .one (.e (.sl 2 0 x105.length))), (7, B b106), (8, .one (.e (.sl 3 0 x110.length))), (9, .one (.e (.sl 4 0 x116.length))), (10, B b117), (46, B true)], [.row .ver x1 false, .cells [cI x2.node, cI x2.value, cI x2.tm], .row .ver x105 true, .row .ver x110 true, .row .ver x116 true]⟩ (by kernel_rfl) trivial ?_
          exact WO_nil rfl ⟨rfl, by first | rfl | (rw [hb123]; first | done | rfl)⟩
        · refine WO_step 4 [0, 1, 2, 3, 4] [0, 3, 6, 7, 8, 9, 10, 46] (True ∧ True) ⟨[(0, .one (.e (.sl 0 0 x1.length))), (3, .one (.e (.p 1 0))), (6, .one (.e (.sl 2 0 x105.length))), (7, B b106), (8, .one (.e (.sl 3 0 x110.length))), (9, .one (.e (.sl 4 0 x116.length))), (10, B b117), (46, B (!(b117 == b106)))], [.row .ver x1 false, .cells [cI x2.node, cI x2.value, cI x2.tm], .row .ver x105 true, .row .ver x110 true, .row .ver x116 true]⟩ (by kernel_rfl) ⟨trivial, trivial⟩ ?_
          exact WO_nil rfl ⟨rfl, by first | rfl | (rw [hb123]; first | done | rfl)⟩
      · refine thenS_n ?_
        refine iteO_e h (fun hb125 h => W_true rfl hb125 ?_) (fun hb125 h => W_false rfl hb125 ?_)
        · refine W_seq ?_
          refine W_region ?_
          refine WO_step 1 [0] [4] True ⟨[(4, B false)], [.row .ver x1 false]⟩ (by kernel_rfl) trivial ?_
          refine WO_nil rfl ?_
          refine thenS_n ?_
          refine W_ret ?_
          refine thenS_r ?_
          cases h
          exact ⟨[0], True, by kernel_rfl, trivial⟩
        · refine W_sub [0, 1, 2, 3, 4] [0, 3, 6, 7, 8, 9, 10] (st' := ⟨[(0, .one (.e (.sl 0 0 x1.length))), (3, .one (.e (.p 1 0))), (6, .one (.e (.sl 2 0 x105.length))), (7, B b106), (8, .one (.e (.sl 3 0 x110.length))), (9, .one (.e (.sl 4 0 x116.length))), (10, B b117)], [.row .ver x1 false, .cells [cI x2.node, cI x2.value, cI x2.tm], .row .ver x105 true, .row .ver x110 true, .row .ver x116 true]⟩) (by kernel_rfl) ?_
          refine W_skip ?_
          refine thenS_n ?_
          refine W_seq ?_
          refine W_seq ?_
          refine W_region ?_
          refine WO_step 2 [0, 1, 2, 3, 4] [0, 3, 6, 7, 8, 9, 10, 47, 48] True ⟨[(0, .one (.e (.sl 0 0 x1.length))), (3, .one (.e (.p 1 0))), (6, .one (.e (.sl 2 0 x105.length))), (7, B b106), (8, .one (.e (.sl 3 0 x110.length))), (9, .one (.e (.sl 4 0 x116.length))), (10, B b117), (47, .one (.e (.sl 3 0 x110.length))), (48, .one (.e (.sl 0 0 x1.length)))], [.row .ver x1 false, .cells [cI x2.node, cI x2.value, cI x2.tm], .row .ver x105 true, .row .ver x110 true, .row .ver x116 true]⟩ (by kernel_rfl) trivial ?_
          refine bindO_e h (fun x126 hc127 h => ?_)
          refine WO_call [.ro 0] Try.f19 rfl rfl rfl (by kernel_rfl) rfl rfl (by kernel_rfl) (laws_toVersionS_ok n x1 x126 hc127) (And.intro (And.intro rfl rfl) (trivial)) rfl ?_
          refine WO_sub [0, 1, 2, 3, 4, 5] [0, 3, 6, 7, 8, 9, 10, 47, 49] (st' := ⟨[(0, .one (.e (.sl 0 0 x1.length))), (3, .one (.e (.p 1 0))), (6, .one (.e (.sl 2 0 x105.length))), (7, B b106), (8, .one (.e (.sl 3 0 x110.length))), (9, .one (.e (.sl 4 0 x116.length))), (10, B b117), (47, .one (.e (.sl 3 0 x110.length))), (49, .one (.e (.sl 5 0 x126.length)))], [.row .ver x1 false, .cells [cI x2.node, cI x2.value, cI x2.tm], .row .ver x105 true, .row .ver x110 true, .row .ver x116 true, .row .ver x126 true]⟩) (by kernel_rfl) ?_
          refine bindO_e h (fun b128 hc129 h => ?_)
          refine WO_call [.ro 3, .ro 5] Try.f21 rfl rfl rfl (by kernel_rfl) rfl rfl (by kernel_rfl) (laws_eqVersionS_ok n x110 x126 b128 hc129) (And.intro (And.intro rfl rfl) (And.intro (And.intro rfl rfl) (trivial))) rfl ?_
          refine WO_step 1 [0, 1, 2, 3, 4] [0, 3, 6, 7, 8, 9, 10, 51] True ⟨[(0, .one (.e (.sl 0 0 x1.length))), (3, .one (.e (.p 1 0))), (6, .one (.e (.sl 2 0 x105.length))), (7, B b106), (8, .one (.e (.sl 3 0 x110.length))), (9, .one (.e (.sl 4 0 x116.length))), (10, B b117), (51, B (!b128))], [.row .ver x1 false, .cells [cI x2.node, cI x2.value, cI x2.tm], .row .ver x105 true, .row .ver x110 true, .row .ver x116 true]⟩ (by kernel_rfl) trivial ?_
          refine WO_nil rfl ?_
          refine thenS_n ?_
          refine iteO_e h (fun hb131 h => W_true rfl hb131 ?_) (fun hb131 h => W_false rfl hb131 ?_)
          · refine W_seq ?_
            refine W_region ?_
            refine WO_step 1 [0] [4] True ⟨[(4, B false)], [.row .ver x1 false]⟩ (by kernel_rfl) trivial ?_
            refine WO_nil rfl ?_
            refine thenS_n ?_
            refine W_ret ?_
            refine thenS_r ?_
            cases h
            exact ⟨[0], True, by kernel_rfl, trivial⟩
          · refine W_sub [0, 1, 2, 3, 4] [0, 3, 6, 7, 8, 9, 10] (st' := ⟨[(0, .one (.e (.sl 0 0 x1.length))), (3, .one (.e (.p 1 0))), (6, .one (.e (.sl 2 0 x105.length))), (7, B b106), (8, .one (.e (.sl 3 0 x110.length))), (9, .one (.e (.sl 4 0 x116.length))), (10, B b117)], [.row .ver x1 false, .cells [cI x2.node, cI x2.value, cI x2.tm], .row .ver x105 true, .row .ver x110 true, .row .ver x116 true]⟩) (by kernel_rfl) ?_
            refine W_skip ?_
            refine thenS_n ?_
            refine W_seq ?_
            refine W_region ?_
            refine WO_step 1 [0, 1, 2, 3, 4] [0, 3, 6, 7, 8, 9, 10, 11] True ⟨[(0, .one (.e (.sl 0 0 x1.length))), (3, .one (.e (.p 1 0))), (6, .one (.e (.sl 2 0 x105.length))), (7, B b106), (8, .one (.e (.sl 3 0 x110.length))), (9, .one (.e (.sl 4 0 x116.length))), (10, B b117), (11, I 1)], [.row .ver x1 false, .cells [cI x2.node, cI x2.value, cI x2.tm], .row .ver x105 true, .row .ver x110 true, .row .ver x116 true]⟩ (by kernel_rfl) trivial ?_
            refine WO_nil rfl ?_
            refine thenS_n ?_
            refine W_seq ?_
            refine W_region ?_
            refine WO_step 2 [0, 1, 2, 4, 3] [0, 3, 6, 7, 9, 10, 52, 53] True ⟨[(0, .one (.e (.sl 0 0 x1.length))), (3, .one (.e (.p 1 0))), (6, .one (.e (.sl 2 0 x105.length))), (7, B b106), (9, .one (.e (.sl 3 0 x116.length))), (10, B b117), (52, .one (.e (.sl 4 0 x110.length))), (53, I 1)], [.row .ver x1 false, .cells [cI x2.node, cI x2.value, cI x2.tm], .row .ver x105 true, .row .ver x116 true, .row .ver x110 true]⟩ (by kernel_rfl) trivial ?_
            refine bindO_e h (fun v183 hc134 h => ?_)
            obtain ⟨x132, i133⟩ := v183
            refine guardO_e h (fun hl135 h => ?_)
            refine WO_call [.own 4] Try.f31 rfl rfl rfl (by kernel_rfl) rfl rfl (by kernel_rfl) (laws_markVersionS_ok n x110 x110.length 1 x132 i133 hc134) (And.intro (And.intro rfl (And.intro rfl hl135)) (trivial)) rfl ?_
            refine WO_sub [0, 1, 2, 3, 4] [0, 3, 6, 7, 9, 10, 52, 53, 54] (st' := ⟨[(0, .one (.e (.sl 0 0 x1.length))), (3, .one (.e (.p 1 0))), (6, .one (.e (.sl 2 0 x105.length))), (7, B b106), (9, .one (.e (.sl 3 0 x116.length))), (10, B b117), (52, .one (.e (.sl 4 0 x110.length))), (53, I 1), (54, I i133)], [.row .ver x1 false, .cells [cI x2.node, cI x2.value, cI x2.tm], .row .ver x105 true, .row .ver x116 true, .row .ver x132 true]⟩) (by kernel_rfl) ?_
            refine WO_eq (st' := ⟨[(0, .one (.e (.sl 0 0 x1.length))), (3, .one (.e (.p 1 0))), (6, .one (.e (.sl 2 0 x105.length))), (7, B b106), (9, .one (.e (.sl 3 0 x116.length))), (10, B b117), (52, .one (.e (.sl 4 0 x132.length))), (53, I 1), (54, I i133)], [.row .ver x1 false, .cells [cI x2.node, cI x2.value, cI x2.tm], .row .ver x105 true, .row .ver x116 true, .row .ver x132 true]⟩) (by simp only [hl135]) ?_
            refine WO_step 1 [0, 1, 2, 3] [0, 3, 6, 7, 9, 10, 11] True ⟨[(0, .one (.e (.sl 0 0 x1.length))), (3, .one (.e (.p 1 0))), (6, .one (.e (.sl 2 0 x105.length))), (7, B b106), (9, .one (.e (.sl 3 0 x116.length))), (10, B b117), (11, I i133)], [.row .ver x1 false, .cells [cI x2.node, cI x2.value, cI x2.tm], .row .ver x105 true, .row .ver x116 true]⟩ (by kernel_rfl) trivial ?_
            refine WO_nil rfl ?_
            refine thenS_n ?_
            refine W_seq ?_
            refine W_seq ?_
            refine W_region ?_
            refine WO_step 3 [0, 1, 2, 3] [0, 3, 6, 7, 9, 10, 57] (True ∧ True) ⟨[(0, .one (.e (.sl 0 0 x1.length))), (3, .one (.e (.p 1 0))), (6, .one (.e (.sl 2 0 x105.length))), (7, B b106), (9, .one (.e (.sl 3 0 x116.length))), (10, B b117), (57, B (decide (i133 < 0)))], [.row .ver x1 false, .cells [cI x2.node, cI x2.value, cI x2.tm], .row .ver x105 true, .row .ver x116 true]⟩ (by kernel_rfl) ⟨trivial, trivial⟩ ?_
            refine bindO_e h (fun b140 hv141 h => ?_)
            refine WO_thru ⟨[(0, .one (.e (.sl 0 0 x1.length))), (3, .one (.e (.p 1 0))), (6, .one (.e (.sl 2 0 x105.length))), (7, B b106), (9, .one (.e (.sl 3 0 x116.length))), (67, B b140)], [.row .ver x1 false, .cells [cI x2.node, cI x2.value, cI x2.tm], .row .ver x105 true, .row .ver x116 true]⟩ ?_ ?_
            · refine iteO_e hv141 (fun hb142 hv141 => WO_known 57 true rfl hb142 ?_) (fun hb142 hv141 => WO_known 57 false rfl hb142 ?_)
              · refine WO_step 10 [0, 1, 2, 3] [0, 3, 6, 7, 9, 67] True ⟨[(0, .one (.e (.sl 0 0 x1.length))), (3, .one (.e (.p 1 0))), (6, .one (.e (.sl 2 0 x105.length))), (7, B b106), (9, .one (.e (.sl 3 0 x116.length))), (67, B true)], [.row .ver x1 false, .cells [cI x2.node, cI x2.value, cI x2.tm], .row .ver x105 true, .row .ver x116 true]⟩ (by kernel_rfl) trivial ?_
                cases hv141
                exact WO_nil rfl ⟨rfl, rfl⟩
              · refine WO_step 2 [0, 1, 2, 3] [0, 3, 6, 7, 9, 10, 57, 58, 59] True ⟨[(0, .one (.e (.sl 0 0 x1.length))), (3, .one (.e (.p 1 0))), (6, .one (.e (.sl 2 0 x105.length))), (7, B b106), (9, .one (.e (.sl 3 0 x116.length))), (10, B b117), (57, B false), (58, .one (.e (.sl 3 0 x116.length))), (59, .one (.e (.sl 2 0 x105.length)))], [.row .ver x1 false, .cells [cI x2.node, cI x2.value, cI x2.tm], .row .ver x105 true, .row .ver x116 true]⟩ (by kernel_rfl) trivial ?_
                refine bindO_e hv141 (fun b143 hc144 hv141 => ?_)
                refine WO_call [.ro 3, .ro 2] Try.f21 rfl rfl rfl (by kernel_rfl) rfl rfl (by kernel_rfl) (laws_eqVersionS_ok n x116 x105 b143 hc144) (And.intro (And.intro rfl rfl) (And.intro (And.intro rfl rfl) (trivial))) rfl ?_
                refine WO_step 3 [0, 1, 2, 3] [0, 3, 6, 7, 9, 10, 63] True ⟨[(0, .one (.e (.sl 0 0 x1.length))), (3, .one (.e (.p 1 0))), (6, .one (.e (.sl 2 0 x105.length))), (7, B b106), (9, .one (.e (.sl 3 0 x116.length))), (10, B b117), (63, B (!b143))], [.row .ver x1 false, .cells [cI x2.node, cI x2.value, cI x2.tm], .row .ver x105 true, .row .ver x116 true]⟩ (by kernel_rfl) trivial ?_
                refine iteO_e hv141 (fun hb145 hv141 => WO_known 63 true rfl hb145 ?_) (fun hb145 hv141 => WO_known 63 false rfl hb145 ?_)
                · refine WO_step 4 [0, 1, 2, 3] [0, 3, 6, 7, 9, 67] True ⟨[(0, .one (.e (.sl 0 0 x1.length))), (3, .one (.e (.p 1 0))), (6, .one (.e (.sl 2 0 x105.length))), (7, B b106), (9, .one (.e (.sl 3 0 x116.length))), (67, B true)], [.row .ver x1 false, .cells [cI x2.node, cI x2.value, cI x2.tm], .row .ver x105 true, .row .ver x116 true]⟩ (by kernel_rfl) trivial ?_
                  cases hv141
                  exact WO_nil rfl ⟨rfl, rfl⟩
                · refine WO_step 4 [0, 1, 2, 3] [0, 3, 6, 7, 9, 67] (True ∧ True) ⟨[(0, .one (.e (.sl 0 0 x1.length))), (3, .one (.e (.p 1 0))), (6, .one (.e (.sl 2 0 x105.length))), (7, B b106), (9, .one (.e (.sl 3 0 x116.length))), (67, B (!(b117 == b106)))], [.row .ver x1 false, .cells [cI x2.node, cI x2.value, cI x2.tm], .row .ver x105 true, .row .ver x116 true]⟩ (by kernel_rfl) ⟨trivial, trivial⟩ ?_
                  cases hv141
                  exact WO_nil rfl ⟨rfl, rfl⟩
            · refine thenS_n ?_
              refine iteO_e h (fun hb147 h => W_true rfl hb147 ?_) (fun hb147 h => W_false rfl hb147 ?_)
              · refine W_seq ?_
                refine W_region ?_
                refine WO_step 1 [0] [4] True ⟨[(4, B false)], [.row .ver x1 false]⟩ (by kernel_rfl) trivial ?_
                refine WO_nil rfl ?_
                refine thenS_n ?_
                refine W_ret ?_
                refine thenS_r ?_
                cases h
                exact ⟨[0], True, by kernel_rfl, trivial⟩
              · refine W_sub [0, 1, 2, 3] [0, 3, 6, 7, 9] (st' := ⟨[(0, .one (.e (.sl 0 0 x1.length))), (3, .one (.e (.p 1 0))), (6, .one (.e (.sl 2 0 x105.length))), (7, B b106), (9, .one (.e (.sl 3 0 x116.length)))], [.row .ver x1 false, .cells [cI x2.node, cI x2.value, cI x2.tm], .row .ver x105 true, .row .ver x116 true]⟩) (by kernel_rfl) ?_
                refine W_skip ?_
                refine thenS_n ?_
                refine W_seq ?_
                refine W_region ?_
                refine WO_step 1 [0, 1, 2, 3] [0, 3, 6, 7, 9, 12] True ⟨[(0, .one (.e (.sl 0 0 x1.length))), (3, .one (.e (.p 1 0))), (6, .one (.e (.sl 2 0 x105.length))), (7, B b106), (9, .one (.e (.sl 3 0 x116.length))), (12, I 1)], [.row .ver x1 false, .cells [cI x2.node, cI x2.value, cI x2.tm], .row .ver x105 true, .row .ver x116 true]⟩ (by kernel_rfl) trivial ?_
                refine WO_nil rfl ?_
                refine thenS_n ?_
                refine W_seq ?_
                refine W_region ?_
                refine WO_step 2 [0, 1, 2, 3] [0, 3, 6, 7, 9, 68, 69] True ⟨[(0, .one (.e (.sl 0 0 x1.length))), (3, .one (.e (.p 1 0))), (6, .one (.e (.sl 2 0 x105.length))), (7, B b106), (9, .one (.e (.sl 3 0 x116.length))), (68, .one (.e (.sl 3 0 x116.length))), (69, I 1)], [.row .ver x1 false, .cells [cI x2.node, cI x2.value, cI x2.tm], .row .ver x105 true, .row .ver x116 true]⟩ (by kernel_rfl) trivial ?_
                refine bindO_e h (fun v182 hc150 h => ?_)
                obtain ⟨x148, i149⟩ := v182
                refine guardO_e h (fun hl151 h => ?_)
                refine WO_call [.own 3] Try.f31 rfl rfl rfl (by kernel_rfl) rfl rfl (by kernel_rfl) (laws_markVersionS_ok n x116 x116.length 1 x148 i149 hc150) (And.intro (And.intro rfl (And.intro rfl hl151)) (trivial)) rfl ?_
                refine WO_sub [0, 1, 2, 3] [0, 3, 6, 7, 9, 68, 69, 70] (st' := ⟨[(0, .one (.e (.sl 0 0 x1.length))), (3, .one (.e (.p 1 0))), (6, .one (.e (.sl 2 0 x105.length))), (7, B b106), (9, .one (.e (.sl 3 0 x116.length))), (68, .one (.e (.sl 3 0 x116.length))), (69, I 1), (70, I i149)], [.row .ver x1 false, .cells [cI x2.node, cI x2.value, cI x2.tm], .row .ver x105 true, .row .ver x148 true]⟩) (by kernel_rfl) ?_
                refine WO_eq (st' := ⟨[(0, .one (.e (.sl 0 0 x1.length))), (3, .one (.e (.p 1 0))), (6, .one (.e (.sl 2 0 x105.length))), (7, B b106), (9, .one (.e (.sl 3 0 x148.length))), (68, .one (.e (.sl 3 0 x148.length))), (69, I 1), (70, I i149)], [.row .ver x1 false, .cells [cI x2.node, cI x2.value, cI x2.tm], .row .ver x105 true, .row .ver x148 true]⟩) (by simp only [hl151]) ?_
                refine WO_step 1 [0, 1, 2, 3] [0, 3, 6, 7, 9, 12] True ⟨[(0, .one (.e (.sl 0 0 x1.length))), (3, .one (.e (.p 1 0))), (6, .one (.e (.sl 2 0 x105.length))), (7, B b106), (9, .one (.e (.sl 3 0 x148.length))), (12, I i149)], [.row .ver x1 false, .cells [cI x2.node, cI x2.value, cI x2.tm], .row .ver x105 true, .row .ver x148 true]⟩ (by kernel_rfl) trivial ?_
                refine WO_nil rfl ?_
                refine thenS_n ?_
                refine W_seq ?_
                refine W_region ?_
                refine WO_step 1 [0, 1, 2, 3] [0, 3, 6, 7, 9, 12, 13] True ⟨[(0, .one (.e (.sl 0 0 x1.length))), (3, .one (.e (.p 1 0))), (6, .one (.e (.sl 2 0 x105.length))), (7, B b106), (9, .one (.e (.sl 3 0 x148.length))), (12, I i149), (13, I 1)], [.row .ver x1 false, .cells [cI x2.node, cI x2.value, cI x2.tm], .row .ver x105 true, .row .ver x148 true]⟩ (by kernel_rfl) trivial ?_
                refine WO_nil rfl ?_
                refine thenS_n ?_
                refine W_seq ?_
                refine W_region ?_
                refine WO_step 2 [0, 1, 2, 3] [0, 3, 6, 7, 9, 12, 71, 72] True ⟨[(0, .one (.e (.sl 0 0 x1.length))), (3, .one (.e (.p 1 0))), (6, .one (.e (.sl 2 0 x105.length))), (7, B b106), (9, .one (.e (.sl 3 0 x148.length))), (12, I i149), (71, .one (.e (.sl 3 0 x148.length))), (72, I 1)], [.row .ver x1 false, .cells [cI x2.node, cI x2.value, cI x2.tm], .row .ver x105 true, .row .ver x148 true]⟩ (by kernel_rfl) trivial ?_
                refine bindO_e h (fun i152 hc153 h => ?_)
                refine WO_call [.ro 3] Try.f32 rfl rfl rfl (by kernel_rfl) rfl rfl (by kernel_rfl) (laws_heldVersionS_ok n x148 1 i152 hc153) (And.intro (And.intro rfl rfl) (trivial)) rfl ?_
                refine WO_step 1 [0, 1, 2, 3] [0, 3, 6, 7, 9, 12, 13] True ⟨[(0, .one (.e (.sl 0 0 x1.length))), (3, .one (.e (.p 1 0))), (6, .one (.e (.sl 2 0 x105.length))), (7, B b106), (9, .one (.e (.sl 3 0 x148.length))), (12, I i149), (13, I i152)], [.row .ver x1 false, .cells [cI x2.node, cI x2.value, cI x2.tm], .row .ver x105 true, .row .ver x148 true]⟩ (by kernel_rfl) trivial ?_
                refine WO_nil rfl ?_
                refine thenS_n ?_
                refine W_seq ?_
                refine W_seq ?_
                refine W_region ?_
                refine WO_step 2 [0, 1, 2, 3] [0, 3, 6, 7, 9, 12, 13, 75] (True ∧ True) ⟨[(0, .one (.e (.sl 0 0 x1.length))), (3, .one (.e (.p 1 0))), (6, .one (.e (.sl 2 0 x105.length))), (7, B b106), (9, .one (.e (.sl 3 0 x148.length))), (12, I i149), (13, I i152), (75, B (decide (i152 < 0)))], [.row .ver x1 false, .cells [cI x2.node, cI x2.value, cI x2.tm], .row .ver x105 true, .row .ver x148 true]⟩ (by kernel_rfl) ⟨trivial, trivial⟩ ?_
                refine WO_nil rfl ?_
                refine thenS_n ?_
                refine iteO_e h (fun hb155 h => W_true rfl hb155 ?_) (fun hb155 h => W_false rfl hb155 ?_)
                · refine W_seq ?_
                  refine W_region ?_
                  refine WO_step 1 [0] [4] True ⟨[(4, B false)], [.row .ver x1 false]⟩ (by kernel_rfl) trivial ?_
                  refine WO_nil rfl ?_
                  refine thenS_n ?_
                  refine W_ret ?_
                  refine thenS_r ?_
                  cases h
                  exact ⟨[0], True, by kernel_rfl, trivial⟩
                · refine W_sub [0, 1, 2, 3] [0, 3, 6, 7, 9, 12, 13] (st' := ⟨[(0, .one (.e (.sl 0 0 x1.length))), (3, .one (.e (.p 1 0))), (6, .one (.e (.sl 2 0 x105.length))), (7, B b106), (9, .one (.e (.sl 3 0 x148.length))), (12, I i149), (13, I i152)], [.row .ver x1 false, .cells [cI x2.node, cI x2.value, cI x2.tm], .row .ver x105 true, .row .ver x148 true]⟩) (by kernel_rfl) ?_
                  refine W_skip ?_
                  refine thenS_n ?_
                  refine W_seq ?_
                  refine W_seq ?_
                  refine W_region ?_
                  refine WO_step 3 [0, 1, 2, 3] [0, 3, 6, 7, 9, 12, 78] (True ∧ True) ⟨[(0, .one (.e (.sl 0 0 x1.length))), (3, .one (.e (.p 1 0))), (6, .one (.e (.sl 2 0 x105.length))), (7, B b106), (9, .one (.e (.sl 3 0 x148.length))), (12, I i149), (78, B (!decide (i152 = i149)))], [.row .ver x1 false, .cells [cI x2.node, cI x2.value, cI x2.tm], .row .ver x105 true, .row .ver x148 true]⟩ (by kernel_rfl) ⟨trivial, trivial⟩ ?_
                  refine WO_nil rfl ?_
                  refine thenS_n ?_
                  refine iteO_e h (fun hb157 h => W_true rfl hb157 ?_) (fun hb157 h => W_false rfl hb157 ?_)
                  · refine W_seq ?_
                    refine W_region ?_
                    refine WO_step 1 [0] [4] True ⟨[(4, B false)], [.row .ver x1 false]⟩ (by kernel_rfl) trivial ?_
                    refine WO_nil rfl ?_
                    refine thenS_n ?_
                    refine W_ret ?_
                    refine thenS_r ?_
                    cases h
                    exact ⟨[0], True, by kernel_rfl, trivial⟩
                  · refine W_sub [0, 1, 2, 3] [0, 3, 6, 7, 9, 12] (st' := ⟨[(0, .one (.e (.sl 0 0 x1.length))), (3, .one (.e (.p 1 0))), (6, .one (.e (.sl 2 0 x105.length))), (7, B b106), (9, .one (.e (.sl 3 0 x148.length))), (12, I i149)], [.row .ver x1 false, .cells [cI x2.node, cI x2.value, cI x2.tm], .row .ver x105 true, .row .ver x148 true]⟩) (by kernel_rfl) ?_
                    refine W_skip ?_
                    refine thenS_n ?_
                    refine W_seq ?_
                    refine bindO_e h (fun x158 hc159 h => ?_)
                    refine bindO_e h (fun v167 hc163 h => ?_)
                    obtain ⟨i160, i161, i162⟩ := v167
                    refine bindO_e h (fun v168 hc166 h => ?_)
                    obtain ⟨x164, b165⟩ := v168
                    refine W_cut (Q' := fun (e : Exit) (s : St) => e = .normal ∧ s = ⟨[(6, .one (.e (.sl 1 0 x105.length))), (7, B b106), (9, .one (.e (.sl 2 0 x148.length))), (12, I i149), (14, .one (.e (.sl 3 0 x164.length))), (15, B b165)], [.row .ver x1 false, .row .ver x105 true, .row .ver x148 true, .row .ver x164 true]⟩) ?_ ?_
                    · refine W_draw [] false (by kernel_rfl) (by kernel_rfl) ?_
                      refine WD_takeK [0, 2] [6, 7, 9, 12, 80, 82] [6, 7, 9, 12, 80, 82] (φ := (True ∧ True ∧ True)) (ls' := #[true, false, true, false, false, false, false, false, false, false]) (Ts' := [(6, .one (.e (.sl 2 0 x105.length))), (7, B b106), (9, .one (.e (.sl 3 0 x148.length))), (12, I i149), (80, .one (.e (.sl 0 0 x1.length))), (82, AGG [cI x2.node, cI x2.value, cI x2.tm])]) (st' := ⟨[(6, .one (.e (.sl 2 0 x105.length))), (7, B b106), (9, .one (.e (.sl 3 0 x148.length))), (12, I i149), (80, .one (.e (.sl 0 0 x1.length))), (82, AGG [cI x2.node, cI x2.value, cI x2.tm])], [.row .ver x1 false, .cells [cI x2.node, cI x2.value, cI x2.tm], .row .ver x105 true, .row .ver x148 true]⟩) (n2 := 8) (by kernel_rfl) ⟨trivial, trivial, trivial⟩ rfl ?_
                      refine WD_all [1] (n := 7) (by kernel_rfl) rfl ?_
                      refine WM_call [.ro 0] Try.f19 rfl rfl (by kernel_rfl) rfl rfl (by kernel_rfl) (laws_toVersionS_ok n x1 x158 hc159) (And.intro (And.intro rfl rfl) (trivial)) rfl (And.intro rfl (And.intro (And.intro rfl rfl) (And.intro rfl (And.intro rfl (trivial))))) ?_
                      refine WD_all [3] (n := 6) (by kernel_rfl) rfl ?_
                      refine WM_call [] Try.f30 rfl rfl (by kernel_rfl) rfl rfl (by kernel_rfl) (laws_toVersion_ok x2 i160 i161 i162 hc163) (trivial) rfl (And.intro rfl (And.intro (And.intro rfl rfl) (And.intro rfl (And.intro rfl (trivial))))) ?_
                      refine WD_all [4] (n := 5) (by kernel_rfl) rfl ?_
                      refine WM_call [.ro 4] Try.f27 rfl rfl (by kernel_rfl) rfl rfl (by kernel_rfl) (impl_AddVersion_ok n x158 (⟨i160, i161, i162⟩ : Ver) x164 b165 hc166) (And.intro (And.intro rfl rfl) (trivial)) rfl (And.intro rfl (And.intro (And.intro rfl rfl) (And.intro rfl (And.intro rfl (trivial))))) ?_
                      refine WD_all [5] (n := 4) (by kernel_rfl) rfl ?_
                      refine WM_op (φ := True) (v := .tup [.e (.sl 5 0 x164.length), .e (cB b165)]) (H' := [.row .ver x1 false, .cells [cI x2.node, cI x2.value, cI x2.tm], .row .ver x105 true, .row .ver x148 true, .row .ver x158 true, .row .ver x164 true]) rfl rfl (by kernel_rfl) trivial rfl (And.intro rfl (And.intro (And.intro rfl rfl) (And.intro rfl (And.intro rfl (trivial))))) ?_
                      refine WD_all [6, 7] (n := 3) (by kernel_rfl) rfl (And.intro ?_ (?_))
                      · refine WM_op (φ := True) (v := .one (.e (.sl 5 0 x164.length))) (H' := [.row .ver x1 false, .cells [cI x2.node, cI x2.value, cI x2.tm], .row .ver x105 true, .row .ver x148 true, .row .ver x158 true, .row .ver x164 true]) rfl rfl (by kernel_rfl) trivial rfl (And.intro rfl (And.intro (And.intro rfl rfl) (And.intro rfl (And.intro rfl (trivial))))) ?_
                        refine WD_all [7, 8] (n := 2) (by kernel_rfl) rfl (And.intro ?_ (?_))
                        · refine WM_op (φ := True) (v := B b165) (H' := [.row .ver x1 false, .cells [cI x2.node, cI x2.value, cI x2.tm], .row .ver x105 true, .row .ver x148 true, .row .ver x158 true, .row .ver x164 true]) rfl rfl (by kernel_rfl) trivial rfl (And.intro rfl (And.intro (And.intro rfl rfl) (And.intro rfl (And.intro rfl (trivial))))) ?_
                          refine WD_all [8] (n := 1) (by kernel_rfl) rfl ?_
                          refine WM_op (φ := True) (v := .one (.e (.sl 5 0 x164.length))) (H' := [.row .ver x1 false, .cells [cI x2.node, cI x2.value, cI x2.tm], .row .ver x105 true, .row .ver x148 true, .row .ver x158 true, .row .ver x164 true]) rfl rfl (by kernel_rfl) trivial rfl (And.intro rfl (And.intro (And.intro rfl rfl) (And.intro rfl (And.intro rfl (trivial))))) ?_
                          refine WD_takeK [9] [6, 7, 9, 12, 15] [6, 7, 9, 12, 14, 15] (φ := True) (ls' := #[true, true, true, true, true, true, true, true, true, true]) (Ts' := [(6, .one (.e (.sl 2 0 x105.length))), (7, B b106), (9, .one (.e (.sl 3 0 x148.length))), (12, I i149), (15, B b165)]) (st' := ⟨[(6, .one (.e (.sl 2 0 x105.length))), (7, B b106), (9, .one (.e (.sl 3 0 x148.length))), (12, I i149), (14, .one (.e (.sl 5 0 x164.length))), (15, B b165)], [.row .ver x1 false, .cells [cI x2.node, cI x2.value, cI x2.tm], .row .ver x105 true, .row .ver x148 true, .row .ver x158 true, .row .ver x164 true]⟩) (n2 := 0) (by kernel_rfl) trivial rfl ?_
                          exact WD_done [0, 2, 3, 5] [6, 7, 9, 12, 14, 15] (st' := ⟨[(6, .one (.e (.sl 1 0 x105.length))), (7, B b106), (9, .one (.e (.sl 2 0 x148.length))), (12, I i149), (14, .one (.e (.sl 3 0 x164.length))), (15, B b165)], [.row .ver x1 false, .row .ver x105 true, .row .ver x148 true, .row .ver x164 true]⟩) (by kernel_rfl) (by kernel_rfl) (And.intro rfl rfl)
                        · refine WM_op (φ := True) (v := .one (.e (.sl 5 0 x164.length))) (H' := [.row .ver x1 false, .cells [cI x2.node, cI x2.value, cI x2.tm], .row .ver x105 true, .row .ver x148 true, .row .ver x158 true, .row .ver x164 true]) rfl rfl (by kernel_rfl) trivial rfl (And.intro rfl (And.intro (And.intro rfl rfl) (And.intro rfl (And.intro rfl (trivial))))) ?_
                          refine WD_all [7] (n := 1) (by kernel_rfl) rfl ?_
                          refine WM_op (φ := True) (v := B b165) (H' := [.row .ver x1 false, .cells [cI x2.node, cI x2.value, cI x2.tm], .row .ver x105 true, .row .ver x148 true, .row .ver x158 true, .row .ver x164 true]) rfl rfl (by kernel_rfl) trivial rfl (And.intro rfl (And.intro (And.intro rfl rfl) (And.intro rfl (And.intro rfl (trivial))))) ?_
                          refine WD_takeK [9] [6, 7, 9, 12, 15] [6, 7, 9, 12, 14, 15] (φ := True) (ls' := #[true, true, true, true, true, true, true, true, true, true]) (Ts' := [(6, .one (.e (.sl 2 0 x105.length))), (7, B b106), (9, .one (.e (.sl 3 0 x148.length))), (12, I i149), (15, B b165)]) (st' := ⟨[(6, .one (.e (.sl 2 0 x105.length))), (7, B b106), (9, .one (.e (.sl 3 0 x148.length))), (12, I i149), (14, .one (.e (.sl 5 0 x164.length))), (15, B b165)], [.row .ver x1 false, .cells [cI x2.node, cI x2.value, cI x2.tm], .row .ver x105 true, .row .ver x148 true, .row .ver x158 true, .row .ver x164 true]⟩) (n2 := 0) (by kernel_rfl) trivial rfl ?_
                          exact WD_done [0, 2, 3, 5] [6, 7, 9, 12, 14, 15] (st' := ⟨[(6, .one (.e (.sl 1 0 x105.length))), (7, B b106), (9, .one (.e (.sl 2 0 x148.length))), (12, I i149), (14, .one (.e (.sl 3 0 x164.length))), (15, B b165)], [.row .ver x1 false, .row .ver x105 true, .row .ver x148 true, .row .ver x164 true]⟩) (by kernel_rfl) (by kernel_rfl) (And.intro rfl rfl)
                      · refine WM_op (φ := True) (v := B b165) (H' := [.row .ver x1 false, .cells [cI x2.node, cI x2.value, cI x2.tm], .row .ver x105 true, .row .ver x148 true, .row .ver x158 true, .row .ver x164 true]) rfl rfl (by kernel_rfl) trivial rfl (And.intro rfl (And.intro (And.intro rfl rfl) (And.intro rfl (And.intro rfl (trivial))))) ?_
                        refine WD_all [6] (n := 2) (by kernel_rfl) rfl ?_
                        refine WM_op (φ := True) (v := .one (.e (.sl 5 0 x164.length))) (H' := [.row .ver x1 false, .cells [cI x2.node, cI x2.value, cI x2.tm], .row .ver x105 true, .row .ver x148 true, .row .ver x158 true, .row .ver x164 true]) rfl rfl (by kernel_rfl) trivial rfl (And.intro rfl (And.intro (And.intro rfl rfl) (And.intro rfl (And.intro rfl (trivial))))) ?_
                        refine WD_all [8] (n := 1) (by kernel_rfl) rfl ?_
                        refine WM_op (φ := True) (v := .one (.e (.sl 5 0 x164.length))) (H' := [.row .ver x1 false, .cells [cI x2.node, cI x2.value, cI x2.tm], .row .ver x105 true, .row .ver x148 true, .row .ver x158 true, .row .ver x164 true]) rfl rfl (by kernel_rfl) trivial rfl (And.intro rfl (And.intro (And.intro rfl rfl) (And.intro rfl (And.intro rfl (trivial))))) ?_
                        refine WD_takeK [9] [6, 7, 9, 12, 15] [6, 7, 9, 12, 14, 15] (φ := True) (ls' := #[true, true, true, true, true, true, true, true, true, true]) (Ts' := [(6, .one (.e (.sl 2 0 x105.length))), (7, B b106), (9, .one (.e (.sl 3 0 x148.length))), (12, I i149), (15, B b165)]) (st' := ⟨[(6, .one (.e (.sl 2 0 x105.length))), (7, B b106), (9, .one (.e (.sl 3 0 x148.length))), (12, I i149), (14, .one (.e (.sl 5 0 x164.length))), (15, B b165)], [.row .ver x1 false, .cells [cI x2.node, cI x2.value, cI x2.tm], .row .ver x105 true, .row .ver x148 true, .row .ver x158 true, .row .ver x164 true]⟩) (n2 := 0) (by kernel_rfl) trivial rfl ?_
                        exact WD_done [0, 2, 3, 5] [6, 7, 9, 12, 14, 15] (st' := ⟨[(6, .one (.e (.sl 1 0 x105.length))), (7, B b106), (9, .one (.e (.sl 2 0 x148.length))), (12, I i149), (14, .one (.e (.sl 3 0 x164.length))), (15, B b165)], [.row .ver x1 false, .row .ver x105 true, .row .ver x148 true, .row .ver x164 true]⟩) (by kernel_rfl) (by kernel_rfl) (And.intro rfl rfl)
                    · rintro _ _ ⟨rfl, rfl⟩
                      refine thenS_n ?_
                      refine W_seq ?_
                      refine W_seq ?_
                      refine W_region ?_
                      refine WO_step 2 [0, 2, 3, 1] [7, 9, 12, 15, 87, 88] True ⟨[(7, B b106), (9, .one (.e (.sl 1 0 x148.length))), (12, I i149), (15, B b165), (87, .one (.e (.sl 2 0 x164.length))), (88, .one (.e (.sl 3 0 x105.length)))], [.row .ver x1 false, .row .ver x148 true, .row .ver x164 true, .row .ver x105 true]⟩ (by kernel_rfl) trivial ?_
                      refine bindO_e h (fun b169 hc170 h => ?_)
                      refine WO_call [.ro 2, .ro 3] Try.f21 rfl rfl rfl (by kernel_rfl) rfl rfl (by kernel_rfl) (laws_eqVersionS_ok n x164 x105 b169 hc170) (And.intro (And.intro rfl rfl) (And.intro (And.intro rfl rfl) (trivial))) rfl ?_
                      refine WO_step 2 [0, 1] [7, 9, 12, 15, 91] True ⟨[(7, B b106), (9, .one (.e (.sl 1 0 x148.length))), (12, I i149), (15, B b165), (91, B (!b169))], [.row .ver x1 false, .row .ver x148 true]⟩ (by kernel_rfl) trivial ?_
                      refine WO_thru ⟨[(9, .one (.e (.sl 1 0 x148.length))), (12, I i149), (95, B ((!b169) || (!(b165 == b106))))], [.row .ver x1 false, .row .ver x148 true]⟩ ?_ ?_
                      · refine WO_if 91 rfl (fun hb173 => ?_) (fun hb173 => ?_)
                        · refine WO_step 4 [0, 1] [9, 12, 95] True ⟨[(9, .one (.e (.sl 1 0 x148.length))), (12, I i149), (95, B true)], [.row .ver x1 false, .row .ver x148 true]⟩ (by kernel_rfl) trivial ?_
                          exact WO_nil rfl ⟨rfl, by first | rfl | (rw [hb173]; first | done | rfl)⟩
                        · refine WO_step 4 [0, 1] [9, 12, 95] (True ∧ True) ⟨[(9, .one (.e (.sl 1 0 x148.length))), (12, I i149), (95, B (!(b165 == b106)))], [.row .ver x1 false, .row .ver x148 true]⟩ (by kernel_rfl) ⟨trivial, trivial⟩ ?_
                          exact WO_nil rfl ⟨rfl, by first | rfl | (rw [hb173]; first | done | rfl)⟩
                      · refine thenS_n ?_
                        refine iteO_e h (fun hb175 h => W_true rfl hb175 ?_) (fun hb175 h => W_false rfl hb175 ?_)
                        · refine W_seq ?_
                          refine W_region ?_
                          refine WO_step 1 [0] [4] True ⟨[(4, B false)], [.row .ver x1 false]⟩ (by kernel_rfl) trivial ?_
                          refine WO_nil rfl ?_
                          refine thenS_n ?_
                          refine W_ret ?_
                          refine thenS_r ?_
                          cases h
                          exact ⟨[0], True, by kernel_rfl, trivial⟩
                        · refine W_sub [0, 1] [9, 12] (st' := ⟨[(9, .one (.e (.sl 1 0 x148.length))), (12, I i149)], [.row .ver x1 false, .row .ver x148 true]⟩) (by kernel_rfl) ?_
                          refine W_skip ?_
                          refine thenS_n ?_
                          refine W_seq ?_
                          refine W_region ?_
                          refine WO_step 1 [0, 1] [9, 12, 13] True ⟨[(9, .one (.e (.sl 1 0 x148.length))), (12, I i149), (13, I 1)], [.row .ver x1 false, .row .ver x148 true]⟩ (by kernel_rfl) trivial ?_
                          refine WO_nil rfl ?_
                          refine thenS_n ?_
                          refine W_seq ?_
                          refine W_region ?_
                          refine WO_step 2 [0, 1] [12, 96, 97] True ⟨[(12, I i149), (96, .one (.e (.sl 1 0 x148.length))), (97, I 1)], [.row .ver x1 false, .row .ver x148 true]⟩ (by kernel_rfl) trivial ?_
                          refine bindO_e h (fun i176 hc177 h => ?_)
                          refine WO_call [.ro 1] Try.f32 rfl rfl rfl (by kernel_rfl) rfl rfl (by kernel_rfl) (laws_heldVersionS_ok n x148 1 i176 hc177) (And.intro (And.intro rfl rfl) (trivial)) rfl ?_
                          refine WO_step 1 [0] [12, 13] True ⟨[(12, I i149), (13, I i176)], [.row .ver x1 false]⟩ (by kernel_rfl) trivial ?_
                          refine WO_nil rfl ?_
                          refine thenS_n ?_
                          refine W_seq ?_
                          refine W_seq ?_
                          refine W_region ?_
                          refine WO_step 2 [0] [12, 13, 100] (True ∧ True) ⟨[(12, I i149), (13, I i176), (100, B (decide (i176 < 0)))], [.row .ver x1 false]⟩ (by kernel_rfl) ⟨trivial, trivial⟩ ?_
                          refine WO_nil rfl ?_
                          refine thenS_n ?_
                          refine iteO_e h (fun hb179 h => W_true rfl hb179 ?_) (fun hb179 h => W_false rfl hb179 ?_)
                          · refine W_seq ?_
                            refine W_region ?_
                            refine WO_step 1 [0] [4] True ⟨[(4, B false)], [.row .ver x1 false]⟩ (by kernel_rfl) trivial ?_
                            refine WO_nil rfl ?_
                            refine thenS_n ?_
                            refine W_ret ?_
                            refine thenS_r ?_
                            cases h
                            exact ⟨[0], True, by kernel_rfl, trivial⟩
                          · refine W_sub [0] [12, 13] (st' := ⟨[(12, I i149), (13, I i176)], [.row .ver x1 false]⟩) (by kernel_rfl) ?_
                            refine W_skip ?_
                            refine thenS_n ?_
                            refine W_seq ?_
                            refine W_seq ?_
                            refine W_region ?_
                            refine WO_step 3 [0] [103] (True ∧ True) ⟨[(103, B (!decide (i176 = i149)))], [.row .ver x1 false]⟩ (by kernel_rfl) ⟨trivial, trivial⟩ ?_
                            refine WO_nil rfl ?_
                            refine thenS_n ?_
                            refine iteO_e h (fun hb181 h => W_true rfl hb181 ?_) (fun hb181 h => W_false rfl hb181 ?_)
                            · refine W_seq ?_
                              refine W_region ?_
                              refine WO_step 1 [0] [4] True ⟨[(4, B false)], [.row .ver x1 false]⟩ (by kernel_rfl) trivial ?_
                              refine WO_nil rfl ?_
                              refine thenS_n ?_
                              refine W_ret ?_
                              refine thenS_r ?_
                              cases h
                              exact ⟨[0], True, by kernel_rfl, trivial⟩
                            · refine W_sub [0] [] (st' := ⟨[], [.row .ver x1 false]⟩) (by kernel_rfl) ?_
                              refine W_skip ?_
                              refine thenS_n ?_
                              refine W_seq ?_
                              refine W_region ?_
                              refine WO_step 1 [0] [4] True ⟨[(4, B true)], [.row .ver x1 false]⟩ (by kernel_rfl) trivial ?_
                              refine WO_nil rfl ?_
                              refine thenS_n ?_
                              refine W_ret ?_
                              cases h
                              exact ⟨[0], True, by kernel_rfl, trivial⟩

/- spec.DrawPruneVersions -/
def spec_DrawPruneVersions (n : Nat) (x1 : List Int) : Option ((List Ver) × Int) :=
 bindO (spec_newReader x1) fun k16 =>
 bindO (spec_someVersions n x1 k16 0) fun (i18, x19) =>
 bindO (spec_reader_pick x1 k16 i18 40) fun i21 =>
 bindO (spec_reader_one x1 k16 (w64 (i18 + 1)) [0, 5, 10, 20, 100, 101, (-1), i21]) fun (i23, i24) =>
 some (x19, i24)

theorem spec_DrawPruneVersions_ok (n : Nat) (x1 : List Int) (x14 : List Ver) (i15 : Int) (h : spec_DrawPruneVersions n x1 = some (x14, i15)) : FOk EE 33 [.one (.e (.sl 0 0 x1.length))] [.row .u8 x1 false] (.tup [.e (.sl 1 0 x14.length), .e (cI i15)]) [.row .u8 x1 false, .row .ver x14 true] := by
  unfold spec_DrawPruneVersions at h
  refine FOk_of_W 16 1 Try.func33 rfl rfl (Nat.le_of_ble_eq_true rfl) rfl (fun w X θ => ?_)
  refine W_seq ?_
  refine W_region ?_
  refine WO_step 2 [0] [0] True ⟨[(0, .one (.e (.sl 0 0 x1.length)))], [.row .u8 x1 false]⟩ (by kernel_rfl) trivial ?_
  refine WO_nil rfl ?_
  refine thenS_n ?_
  refine W_seq ?_
  refine W_region ?_
  refine WO_step 1 [0] [6] True ⟨[(6, .one (.e (.sl 0 0 x1.length)))], [.row .u8 x1 false]⟩ (by kernel_rfl) trivial ?_
  refine bindO_e h (fun k16 hc17 h => ?_)
  refine WO_call [.ro 0] Try.f40 rfl rfl rfl (by kernel_rfl) rfl rfl (by kernel_rfl) (spec_newReader_ok x1 k16 hc17) (And.intro (And.intro rfl rfl) (trivial)) rfl ?_
  refine WO_step 1 [0, 1] [4] True ⟨[(4, .one (.e (.p 1 0)))], [.row .u8 x1 false, .cells [.sl 0 0 k16, cI 0]]⟩ (by kernel_rfl) trivial ?_
  refine WO_nil rfl ?_
  refine thenS_n ?_
  refine W_seq ?_
  refine W_region ?_
  refine WO_step 1 [0, 1] [4, 8] True ⟨[(4, .one (.e (.p 1 0))), (8, .one (.e (.p 1 0)))], [.row .u8 x1 false, .cells [.sl 0 0 k16, cI 0]]⟩ (by kernel_rfl) trivial ?_
  refine bindO_e h (fun v27 hc20 h => ?_)
  obtain ⟨i18, x19⟩ := v27
  refine WO_call [.own 1, .ro 0] Try.f39 rfl rfl rfl (by kernel_rfl) rfl rfl (by kernel_rfl) (spec_someVersions_ok n x1 k16 0 i18 x19 hc20) (And.intro (trivial) (And.intro (And.intro rfl rfl) (trivial))) rfl ?_
  refine WO_step 1 [0, 1, 2] [4, 5] True ⟨[(4, .one (.e (.p 1 0))), (5, .one (.e (.sl 2 0 x19.length)))], [.row .u8 x1 false, .cells [.sl 0 0 k16, cI i18], .row .ver x19 true]⟩ (by kernel_rfl) trivial ?_
  refine WO_nil rfl ?_
  refine thenS_n ?_
  refine W_seq ?_
  refine W_region ?_
  refine WO_step 3 [0, 2, 1] [10, 11, 12] True ⟨[(10, .one (.e (.sl 1 0 x19.length))), (11, .one (.e (.p 2 0))), (12, .one (.e (.p 2 0)))], [.row .u8 x1 false, .row .ver x19 true, .cells [.sl 0 0 k16, cI i18]]⟩ (by kernel_rfl) trivial ?_
  refine bindO_e h (fun i21 hc22 h => ?_)
  refine WO_call [.own 2, .ro 0] Try.f42 rfl rfl rfl (by kernel_rfl) rfl rfl (by kernel_rfl) (spec_reader_pick_ok x1 k16 i18 40 i21 hc22) (And.intro (trivial) (And.intro (And.intro rfl rfl) (trivial))) rfl ?_
  refine WO_step 1 [0, 1, 2, 3] [10, 11, 14] True ⟨[(10, .one (.e (.sl 1 0 x19.length))), (11, .one (.e (.p 2 0))), (14, .one (.e (.sl 3 0 ([0, 5, 10, 20, 100, 101, (-1), i21].length))))], [.row .u8 x1 false, .row .ver x19 true, .cells [.sl 0 0 k16, cI (w64 (i18 + 1))], .row .int [0, 5, 10, 20, 100, 101, (-1), i21] true]⟩ (by kernel_rfl) trivial ?_
  refine bindO_e h (fun v26 hc25 h => ?_)
  obtain ⟨i23, i24⟩ := v26
  refine WO_call [.own 2, .ro 0, .ro 3] Try.f43 rfl rfl rfl (by kernel_rfl) rfl rfl (by kernel_rfl) (spec_reader_one_ok x1 k16 (w64 (i18 + 1)) [0, 5, 10, 20, 100, 101, (-1), i21] i23 i24 hc25) (And.intro (trivial) (And.intro (And.intro rfl rfl) (And.intro (And.intro rfl rfl) (trivial)))) rfl ?_
  refine WO_step 2 [0, 1] [2, 3] True ⟨[(2, .one (.e (.sl 1 0 x19.length))), (3, I i24)], [.row .u8 x1 false, .row .ver x19 true]⟩ (by kernel_rfl) trivial ?_
  refine WO_nil rfl ?_
  refine thenS_n ?_
  refine W_ret ?_
  cases h
  exact ⟨[0, 1], True, by kernel_rfl, trivial⟩

/- impl.isOutdated$1 -/
def impl_isOutdated_1 (x1 : Ver) (i2 : Int) (i3 : Int) : Bool :=
((decide (x1.node = i2)) && (decide (x1.tm ≤ i3)))

theorem impl_isOutdated_1_ok (x1 : Ver) (i2 : Int) (i3 : Int) : FOk EE 49 [AGG [cI x1.node, cI x1.value, cI x1.tm], .one (.e (.p 0 0)), .one (.e (.p 1 0))] [.cells [cI i2], .cells [cI i3]] (B (impl_isOutdated_1 x1 i2 i3)) [.cells [cI i2], .cells [cI i3]] := by
  refine FOk_of_W 15 2 Try.func49 rfl rfl (Nat.le_of_ble_eq_true rfl) rfl (fun w X θ => ?_)
  refine W_seq ?_
  refine W_region ?_
  refine WO_step 2 [0, 1, 2] [1, 2, 3] (True ∧ True) ⟨[(1, .one (.e (.p 0 0))), (2, .one (.e (.p 1 0))), (3, .one (.e (.p 2 0)))], [.cells [cI i2], .cells [cI i3], .cells [cI x1.node, cI x1.value, cI x1.tm]]⟩ (by kernel_rfl) ⟨trivial, trivial⟩ ?_
  refine WO_nil rfl ?_
  refine thenS_n ?_
  refine W_seq ?_
  refine W_region ?_
  refine WO_step 5 [0, 1, 2] [2, 3, 9] (True ∧ (True ∧ (True ∧ True))) ⟨[(2, .one (.e (.p 1 0))), (3, .one (.e (.p 2 0))), (9, B (decide (x1.node = i2)))], [.cells [cI i2], .cells [cI i3], .cells [cI x1.node, cI x1.value, cI x1.tm]]⟩ (by kernel_rfl) ⟨trivial, trivial, trivial, trivial⟩ ?_
  refine WO_thru ⟨[(4, B ((decide (x1.node = i2)) && (decide (x1.tm ≤ i3))))], [.cells [cI i2], .cells [cI i3]]⟩ ?_ ?_
  · refine WO_if 9 rfl (fun hb10 => ?_) (fun hb10 => ?_)
    · refine WO_step 6 [0, 1] [4] (True ∧ (True ∧ (True ∧ True))) ⟨[(4, B (decide (x1.tm ≤ i3)))], [.cells [cI i2], .cells [cI i3]]⟩ (by kernel_rfl) ⟨trivial, trivial, trivial, trivial⟩ ?_
      exact WO_nil rfl ⟨rfl, by first | rfl | (rw [hb10]; first | done | rfl)⟩
    · refine WO_step 6 [0, 1] [4] True ⟨[(4, B false)], [.cells [cI i2], .cells [cI i3]]⟩ (by kernel_rfl) trivial ?_
      exact WO_nil rfl ⟨rfl, by first | rfl | (rw [hb10]; first | done | rfl)⟩
  · refine thenS_n ?_
    refine W_ret ?_
    exact ⟨[0, 1], True, by kernel_rfl, trivial⟩

/- impl.Version] -/
def slices_IndexFunc_Version_impl_isOutdated_1_L1 (x1 : List Ver) (i2 : Int) (i3 : Int) : Nat → Int → Option ((Int) ⊕ (Unit))
| 0, _ => none
| n + 1, i49 =>
 iteO (decide (i49 < ((x1.length : Nat) : Int)))
 (guardO (0 ≤ i49 ∧ i49 < ((x1.length : Nat) : Int)) <|
 iteO (impl_isOutdated_1 (x1.getD i49.toNat dver) i2 i3)
 (some (.inl i49))
 (slices_IndexFunc_Version_impl_isOutdated_1_L1 x1 i2 i3 n (w64 (i49 + 1))))
 (some (.inr ()))

theorem slices_IndexFunc_Version_impl_isOutdated_1_L1_ok (w : World) (X : Nat → Prop) (θ : List Loc) (x1 : List Ver) (i2 : Int) (i3 : Int) (v : (Int) ⊕ (Unit)) : ∀ (n : Nat) (i49 : Int), slices_IndexFunc_Version_impl_isOutdated_1_L1 x1 i2 i3 n i49 = some v → WL EE ⟨w, X, θ, 19, 3⟩ (subC [1, 0, 1, 4, 4] (bodyC Try.f50)) (fun (e : Exit) (s : St) => (match v with | (.inl i59) => e = .ret ∧ s = ⟨[(4, I i59)], [.row .ver x1 false, .cells [cI i2], .cells [cI i3]]⟩ | (.inr _) => e = .exit 0 ∧ s = ⟨[], [.row .ver x1 false, .cells [cI i2], .cells [cI i3]]⟩ : Prop)) ⟨[(0, .one (.e (.sl 0 0 x1.length))), (1, .one (.fn 49 [.p 1 0, .p 2 0])), (7, I ((x1.length : Nat) : Int)), (8, I i49)], [.row .ver x1 false, .cells [cI i2], .cells [cI i3]]⟩ := by
  intro n
  induction n with
  | zero => intro _ h; exact none_e h
  | succ n ih =>
    intro i49 h
    rw [slices_IndexFunc_Version_impl_isOutdated_1_L1] at h
    refine WL_round ?_
    refine W_seq ?_
    refine W_region ?_
    refine WO_step 1 [0, 1, 2] [0, 1, 7, 8, 9] (True ∧ True) ⟨[(0, .one (.e (.sl 0 0 x1.length))), (1, .one (.fn 49 [.p 1 0, .p 2 0])), (7, I ((x1.length : Nat) : Int)), (8, I i49), (9, B (decide (i49 < ((x1.length : Nat) : Int))))], [.row .ver x1 false, .cells [cI i2], .cells [cI i3]]⟩ (by kernel_rfl) ⟨trivial, trivial⟩ ?_
    refine WO_nil rfl ?_
    refine thenS_n ?_
    refine W_seq ?_
    refine iteO_e h (fun hb62 h => W_true rfl hb62 ?_) (fun hb62 h => W_false rfl hb62 ?_)
    · refine W_sub [0, 1, 2] [0, 1, 7, 8] (st' := ⟨[(0, .one (.e (.sl 0 0 x1.length))), (1, .one (.fn 49 [.p 1 0, .p 2 0])), (7, I ((x1.length : Nat) : Int)), (8, I i49)], [.row .ver x1 false, .cells [cI i2], .cells [cI i3]]⟩) (by kernel_rfl) ?_
      refine W_skip ?_
      refine thenS_n ?_
      refine W_seq ?_
      refine W_block ?_
      refine W_seq ?_
      refine W_region ?_
      refine WO_step 2 [0, 1, 2] [0, 1, 5, 7, 8] True ⟨[(0, .one (.e (.sl 0 0 x1.length))), (1, .one (.fn 49 [.p 1 0, .p 2 0])), (5, I i49), (7, I ((x1.length : Nat) : Int)), (8, I i49)], [.row .ver x1 false, .cells [cI i2], .cells [cI i3]]⟩ (by kernel_rfl) trivial ?_
      refine WO_nil rfl ?_
      refine thenS_n ?_
      refine W_seq ?_
      refine W_region ?_
      refine guardO_e h (fun hg66 h => ?_)
      refine WO_step 5 [0, 1, 2] [0, 1, 5, 7, 8, 11, 15] ((0 ≤ i49 ∧ i49 < ((x1.length : Nat) : Int)) ∧ (True ∧ True)) ⟨[(0, .one (.e (.sl 0 0 x1.length))), (1, .one (.fn 49 [.p 1 0, .p 2 0])), (5, I i49), (7, I ((x1.length : Nat) : Int)), (8, I i49), (11, .one (.fn 49 [.p 1 0, .p 2 0])), (15, AGG [cI ((x1.getD i49.toNat dver).node), cI ((x1.getD i49.toNat dver).value), cI ((x1.getD i49.toNat dver).tm)])], [.row .ver x1 false, .cells [cI i2], .cells [cI i3]]⟩ (by kernel_rfl) ⟨hg66, trivial, trivial⟩ ?_
      refine WO_call [.own 1, .own 2] Try.f49 rfl rfl rfl (by kernel_rfl) rfl rfl (by kernel_rfl) (impl_isOutdated_1_ok (x1.getD i49.toNat dver) i2 i3) (And.intro (trivial) (And.intro (trivial) (trivial))) rfl ?_
      refine WO_sub [0, 1, 2] [0, 1, 5, 7, 8, 16] (st' := ⟨[(0, .one (.e (.sl 0 0 x1.length))), (1, .one (.fn 49 [.p 1 0, .p 2 0])), (5, I i49), (7, I ((x1.length : Nat) : Int)), (8, I i49), (16, B (impl_isOutdated_1 (x1.getD i49.toNat dver) i2 i3))], [.row .ver x1 false, .cells [cI i2], .cells [cI i3]]⟩) (by kernel_rfl) ?_
      refine WO_nil rfl ?_
      refine thenS_n ?_
      refine iteO_e h (fun hb68 h => W_true rfl hb68 ?_) (fun hb68 h => W_false rfl hb68 ?_)
      · refine W_seq ?_
        refine W_region ?_
        refine WO_step 2 [0, 1, 2] [4] True ⟨[(4, I i49)], [.row .ver x1 false, .cells [cI i2], .cells [cI i3]]⟩ (by kernel_rfl) trivial ?_
        refine WO_nil rfl ?_
        refine thenS_n ?_
        refine W_ret ?_
        refine blockS_r ?_
        refine thenS_r ?_
        refine thenS_r ?_
        cases h
        exact And.intro rfl rfl
      · refine W_sub [0, 1, 2] [0, 1, 7, 8] (st' := ⟨[(0, .one (.e (.sl 0 0 x1.length))), (1, .one (.fn 49 [.p 1 0, .p 2 0])), (7, I ((x1.length : Nat) : Int)), (8, I i49)], [.row .ver x1 false, .cells [cI i2], .cells [cI i3]]⟩) (by kernel_rfl) ?_
        refine W_skip ?_
        refine blockS_n ?_
        refine thenS_n ?_
        refine W_region ?_
        refine WO_step 2 [0, 1, 2] [0, 1, 7, 8] (True ∧ True) ⟨[(0, .one (.e (.sl 0 0 x1.length))), (1, .one (.fn 49 [.p 1 0, .p 2 0])), (7, I ((x1.length : Nat) : Int)), (8, I (w64 (i49 + 1)))], [.row .ver x1 false, .cells [cI i2], .cells [cI i3]]⟩ (by kernel_rfl) ⟨trivial, trivial⟩ ?_
        refine WO_nil rfl ?_
        refine thenS_n ?_
        exact ih _ h
    · refine W_sub [0, 1, 2] [] (st' := ⟨[], [.row .ver x1 false, .cells [cI i2], .cells [cI i3]]⟩) (by kernel_rfl) ?_
      refine W_exit ?_
      refine thenS_e ?_
      refine thenS_e ?_
      cases h
      exact And.intro rfl rfl

def slices_IndexFunc_Version_impl_isOutdated_1 (n : Nat) (x1 : List Ver) (i2 : Int) (i3 : Int) : Option (Int) :=
 bindO (slices_IndexFunc_Version_impl_isOutdated_1_L1 x1 i2 i3 n 0) fun v69 =>
 match v69 with
 | (.inl i59) => (some i59)
 | (.inr _) => (some (-1))


theorem slices_IndexFunc_Version_impl_isOutdated_1_ok (n : Nat) (x1 : List Ver) (i2 : Int) (i3 : Int) (i36 : Int) (h : slices_IndexFunc_Version_impl_isOutdated_1 n x1 i2 i3 = some i36) : FOk EE 50 [.one (.e (.sl 0 0 x1.length)), .one (.fn 49 [.p 1 0, .p 2 0])] [.row .ver x1 false, .cells [cI i2], .cells [cI i3]] (I i36) [.row .ver x1 false, .cells [cI i2], .cells [cI i3]] := by
  unfold slices_IndexFunc_Version_impl_isOutdated_1 at h
  refine FOk_of_W 19 3 Try.func50 rfl rfl (Nat.le_of_ble_eq_true rfl) rfl (fun w X θ => ?_)
  refine W_seq ?_
  refine W_region ?_
  refine WO_step 1 [0, 1, 2] [0, 1] True ⟨[(0, .one (.e (.sl 0 0 x1.length))), (1, .one (.fn 49 [.p 1 0, .p 2 0]))], [.row .ver x1 false, .cells [cI i2], .cells [cI i3]]⟩ (by kernel_rfl) trivial ?_
  refine WO_nil rfl ?_
  refine thenS_n ?_
  refine W_seq ?_
  refine W_seq ?_
  refine W_region ?_
  refine WO_step 3 [0, 1, 2] [0, 1, 7, 8] (True ∧ True) ⟨[(0, .one (.e (.sl 0 0 x1.length))), (1, .one (.fn 49 [.p 1 0, .p 2 0])), (7, I ((x1.length : Nat) : Int)), (8, I 0)], [.row .ver x1 false, .cells [cI i2], .cells [cI i3]]⟩ (by kernel_rfl) ⟨trivial, trivial⟩ ?_
  refine WO_nil rfl ?_
  refine thenS_n ?_
  refine W_block ?_
  refine W_loop ?_
  refine bindO_e h (fun v69 hv69 h => ?_)
  refine WL_cut (slices_IndexFunc_Version_impl_isOutdated_1_L1_ok w X θ x1 i2 i3 v69 n 0 hv69) ?_
  rcases v69 with i59 | _
  · rintro _ _ ⟨rfl, rfl⟩
    refine blockS_r ?_
    refine thenS_r ?_
    cases h
    exact ⟨[0, 1, 2], True, by kernel_rfl, trivial⟩
  · rintro _ _ ⟨rfl, rfl⟩
    refine blockS_y ?_
    refine thenS_n ?_
    refine W_seq ?_
    refine W_region ?_
    refine WO_step 1 [0, 1, 2] [4] True ⟨[(4, I (-1))], [.row .ver x1 false, .cells [cI i2], .cells [cI i3]]⟩ (by kernel_rfl) trivial ?_
    refine WO_nil rfl ?_
    refine thenS_n ?_
    refine W_ret ?_
    cases h
    exact ⟨[0, 1, 2], True, by kernel_rfl, trivial⟩

/- impl.Version] -/
def slices_ContainsFunc_Version_impl_isOutdated_1 (n : Nat) (x1 : List Ver) (i2 : Int) (i3 : Int) : Option (Bool) :=
 bindO (slices_IndexFunc_Version_impl_isOutdated_1 n x1 i2 i3) fun i7 =>
 some (decide (0 ≤ i7))

theorem slices_ContainsFunc_Version_impl_isOutdated_1_ok (n : Nat) (x1 : List Ver) (i2 : Int) (i3 : Int) (b6 : Bool) (h : slices_ContainsFunc_Version_impl_isOutdated_1 n x1 i2 i3 = some b6) : FOk EE 48 [.one (.e (.sl 0 0 x1.length)), .one (.fn 49 [.p 1 0, .p 2 0])] [.row .ver x1 false, .cells [cI i2], .cells [cI i3]] (B b6) [.row .ver x1 false, .cells [cI i2], .cells [cI i3]] := by
  unfold slices_ContainsFunc_Version_impl_isOutdated_1 at h
  refine FOk_of_W 9 3 Try.func48 rfl rfl (Nat.le_of_ble_eq_true rfl) rfl (fun w X θ => ?_)
  refine W_seq ?_
  refine W_region ?_
  refine WO_step 1 [0, 1, 2] [0, 1] True ⟨[(0, .one (.e (.sl 0 0 x1.length))), (1, .one (.fn 49 [.p 1 0, .p 2 0]))], [.row .ver x1 false, .cells [cI i2], .cells [cI i3]]⟩ (by kernel_rfl) trivial ?_
  refine WO_nil rfl ?_
  refine thenS_n ?_
  refine W_seq ?_
  refine W_region ?_
  refine WO_step 2 [0, 1, 2] [5, 6] True ⟨[(5, .one (.e (.sl 0 0 x1.length))), (6, .one (.fn 49 [.p 1 0, .p 2 0]))], [.row .ver x1 false, .cells [cI i2], .cells [cI i3]]⟩ (by kernel_rfl) trivial ?_
  refine bindO_e h (fun i7 hc8 h => ?_)
  refine WO_call [.ro 0, .own 1, .own 2] Try.f50 rfl rfl rfl (by kernel_rfl) rfl rfl (by kernel_rfl) (slices_IndexFunc_Version_impl_isOutdated_1_ok n x1 i2 i3 i7 hc8) (And.intro (And.intro rfl rfl) (And.intro (trivial) (And.intro (trivial) (trivial)))) rfl ?_
  refine WO_step 2 [0, 1, 2] [4] (True ∧ True) ⟨[(4, B (decide (0 ≤ i7)))], [.row .ver x1 false, .cells [cI i2], .cells [cI i3]]⟩ (by kernel_rfl) ⟨trivial, trivial⟩ ?_
  refine WO_nil rfl ?_
  refine thenS_n ?_
  refine W_ret ?_
  cases h
  exact ⟨[0, 1, 2], True, by kernel_rfl, trivial⟩

/- impl.isOutdated -/
def impl_isOutdated (n : Nat) (x1 : List Ver) (i2 : Int) (i3 : Int) : Option (Bool) :=
 bindO (slices_ContainsFunc_Version_impl_isOutdated_1 n x1 i2 i3) fun b7 =>
 some b7

theorem impl_isOutdated_ok (n : Nat) (x1 : List Ver) (i2 : Int) (i3 : Int) (b6 : Bool) (h : impl_isOutdated n x1 i2 i3 = some b6) : FOk EE 46 [.one (.e (.sl 0 0 x1.length)), I i2, I i3] [.row .ver x1 false] (B b6) [.row .ver x1 false] := by
  unfold impl_isOutdated at h
  refine FOk_of_W 10 1 Try.func46 rfl rfl (Nat.le_of_ble_eq_true rfl) rfl (fun w X θ => ?_)
  refine W_seq ?_
  refine W_region ?_
  refine WO_step 3 [0, 1, 2] [0, 4, 5] (True ∧ (True ∧ True)) ⟨[(0, .one (.e (.sl 0 0 x1.length))), (4, .one (.e (.p 1 0))), (5, .one (.e (.p 2 0)))], [.row .ver x1 false, .cells [cI i2], .cells [cI i3]]⟩ (by kernel_rfl) ⟨trivial, trivial, trivial⟩ ?_
  refine WO_nil rfl ?_
  refine thenS_n ?_
  refine W_seq ?_
  refine W_region ?_
  refine WO_step 2 [0, 1, 2] [7, 8] (True ∧ True) ⟨[(7, .one (.e (.sl 0 0 x1.length))), (8, .one (.fn 49 [.p 1 0, .p 2 0]))], [.row .ver x1 false, .cells [cI i2], .cells [cI i3]]⟩ (by kernel_rfl) ⟨trivial, trivial⟩ ?_
  refine bindO_e h (fun b7 hc8 h => ?_)
  refine WO_call [.ro 0, .own 1, .own 2] Try.f48 rfl rfl rfl (by kernel_rfl) rfl rfl (by kernel_rfl) (slices_ContainsFunc_Version_impl_isOutdated_1_ok n x1 i2 i3 b7 hc8) (And.intro (And.intro rfl rfl) (And.intro (trivial) (And.intro (trivial) (trivial)))) rfl ?_
  refine WO_step 1 [0] [6] True ⟨[(6, B b7)], [.row .ver x1 false]⟩ (by kernel_rfl) trivial ?_
  refine WO_nil rfl ?_
  refine thenS_n ?_
  refine W_ret ?_
  cases h
  exact ⟨[0], True, by kernel_rfl, trivial⟩

end Go.Proofs.Ytnaogmahijgibaa

import Derived.Test.YtnaogmahijgibaaTT1
namespace Go.Proofs.Ytnaogmahijgibaa
open Go
set_option linter.unusedVariables false
/- laws.FnValidVersionsTime -/
def laws_FnValidVersionsTime_L1 (x73 : List Ver) (x1 : List Int) : Nat → (List Ver) → Int → Option ((List Ver))
| 0, _, _ => none
| n + 1, x111, i112 =>
 iteO (decide (i112 < ((x73.length : Nat) : Int)))
 (guardO (0 ≤ i112 ∧ i112 < ((x73.length : Nat) : Int)) <|
 guardO (0 ≤ i112 ∧ i112 < ((x73.length : Nat) : Int)) <|
 guardO (0 ≤ i112 ∧ i112 < ((x73.length : Nat) : Int)) <|
 guardO (0 = 0 ∧ x111.length = x111.length ∧ x111.length + (([(⟨(x73.getD i112.toNat dver).node, (x73.getD i112.toNat dver).value, (w64 (((x73.getD i112.toNat dver).tm) + 1))⟩ : Ver)].drop 0).take ([(⟨(x73.getD i112.toNat dver).node, (x73.getD i112.toNat dver).value, (w64 (((x73.getD i112.toNat dver).tm) + 1))⟩ : Ver)].length)).length ≤ 1099511627776) <|
 laws_FnValidVersionsTime_L1 x73 x1 n (x111 ++ (([(⟨(x73.getD i112.toNat dver).node, (x73.getD i112.toNat dver).value, (w64 (((x73.getD i112.toNat dver).tm) + 1))⟩ : Ver)].drop 0).take ([(⟨(x73.getD i112.toNat dver).node, (x73.getD i112.toNat dver).value, (w64 (((x73.getD i112.toNat dver).tm) + 1))⟩ : Ver)].length))) (w64 (i112 + 1)))
 (some x111)

theorem laws_FnValidVersionsTime_L1_ok (w : World) (X : Nat → Prop) (θ : List Loc) (x73 : List Ver) (x1 : List Int) (x125 : (List Ver)) : ∀ (n : Nat) (x111 : List Ver) (i112 : Int), laws_FnValidVersionsTime_L1 x73 x1 n x111 i112 = some x125 → WL EE ⟨w, X, θ, 70, 1⟩ (subC [1, 1, 1, 1, 1, 1, 0, 1, 4, 4] (bodyC Try.f5)) (fun (e : Exit) (s : St) => e = .exit 0 ∧ s = ⟨[(5, .one (.e (.sl 1 0 x125.length)))], [.row .u8 x1 false, .row .ver x125 true]⟩) ⟨[(3, .one (.e (.sl 1 0 x73.length))), (5, .one (.e (.sl 2 0 x111.length))), (6, I i112)], [.row .u8 x1 false, .row .ver x73 true, .row .ver x111 true]⟩ := by
  intro n
  induction n with
  | zero => intro _ _ h; exact none_e h
  | succ n ih =>
    intro x111 i112 h
    rw [laws_FnValidVersionsTime_L1] at h
    refine WL_round ?_
    refine W_seq ?_
    refine W_seq ?_
    refine W_region ?_
    refine WO_step 4 [0, 1, 2] [3, 5, 6, 45] (True ∧ (True ∧ True)) ⟨[(3, .one (.e (.sl 1 0 x73.length))), (5, .one (.e (.sl 2 0 x111.length))), (6, I i112), (45, B (decide (i112 < ((x73.length : Nat) : Int))))], [.row .u8 x1 false, .row .ver x73 true, .row .ver x111 true]⟩ (by kernel_rfl) ⟨trivial, trivial, trivial⟩ ?_
    refine WO_nil rfl ?_
    refine thenS_n ?_
    refine iteO_e h (fun hb128 h => W_true rfl hb128 ?_) (fun hb128 h => W_false rfl hb128 ?_)
    · refine W_sub [0, 1, 2] [3, 5, 6] (st' := ⟨[(3, .one (.e (.sl 1 0 x73.length))), (5, .one (.e (.sl 2 0 x111.length))), (6, I i112)], [.row .u8 x1 false, .row .ver x73 true, .row .ver x111 true]⟩) (by kernel_rfl) ?_
      refine W_skip ?_
      refine thenS_n ?_
      refine W_seq ?_
      refine W_block ?_
      refine guardO_e h (fun hg133 h => ?_)
      refine guardO_e h (fun hg134 h => ?_)
      refine guardO_e h (fun hg135 h => ?_)
      refine guardO_e h (fun hg136 h => ?_)
      refine W_cut (Q' := fun (e : Exit) (s : St) => e = .normal ∧ s = ⟨[(3, .one (.e (.sl 1 0 x73.length))), (5, .one (.e (.sl 2 0 ((x111 ++ (([(⟨(x73.getD i112.toNat dver).node, (x73.getD i112.toNat dver).value, (w64 (((x73.getD i112.toNat dver).tm) + 1))⟩ : Ver)].drop 0).take ([(⟨(x73.getD i112.toNat dver).node, (x73.getD i112.toNat dver).value, (w64 (((x73.getD i112.toNat dver).tm) + 1))⟩ : Ver)].length))).length)))), (6, I i112)], [.row .u8 x1 false, .row .ver x73 true, .row .ver (x111 ++ (([(⟨(x73.getD i112.toNat dver).node, (x73.getD i112.toNat dver).value, (w64 (((x73.getD i112.toNat dver).tm) + 1))⟩ : Ver)].drop 0).take ([(⟨(x73.getD i112.toNat dver).node, (x73.getD i112.toNat dver).value, (w64 (((x73.getD i112.toNat dver).tm) + 1))⟩ : Ver)].length))) true]⟩) ?_ ?_
      · refine W_draw [2] false (by kernel_rfl) (by kernel_rfl) ?_
        refine WD_takeK [0, 1, 2, 3, 4, 5, 6, 7, 8, 9, 10, 11, 12, 13, 14, 15, 16, 17] [3, 5, 6, 48, 65] [3, 5, 6, 48, 65] (φ := ((0 ≤ i112 ∧ i112 < ((x73.length : Nat) : Int)) ∧ (0 ≤ i112 ∧ i112 < ((x73.length : Nat) : Int)) ∧ (True ∧ True ∧ ((0 ≤ i112 ∧ i112 < ((x73.length : Nat) : Int)) ∧ (0 ≤ i112 ∧ i112 < ((x73.length : Nat) : Int)) ∧ (True ∧ True ∧ ((0 ≤ i112 ∧ i112 < ((x73.length : Nat) : Int)) ∧ (0 ≤ i112 ∧ i112 < ((x73.length : Nat) : Int)) ∧ (True ∧ True ∧ (True ∧ True ∧ True)))))))) (ls' := #[true, true, true, true, true, true, true, true, true, true, true, true, true, true, true, true, true, true, false, false, false]) (Ts' := [(3, .one (.e (.sl 1 0 x73.length))), (5, .one (.e (.sl 2 0 x111.length))), (6, I i112), (48, .one (.e (.sl 2 0 x111.length))), (65, AGG [cI ((x73.getD i112.toNat dver).node), cI ((x73.getD i112.toNat dver).value), cI (w64 (((x73.getD i112.toNat dver).tm) + 1))])]) (st' := ⟨[(3, .one (.e (.sl 1 0 x73.length))), (5, .one (.e (.sl 2 0 x111.length))), (6, I i112), (48, .one (.e (.sl 2 0 x111.length))), (65, AGG [cI ((x73.getD i112.toNat dver).node), cI ((x73.getD i112.toNat dver).value), cI (w64 (((x73.getD i112.toNat dver).tm) + 1))])], [.row .u8 x1 false, .row .ver x73 true, .row .ver x111 true]⟩) (n2 := 3) (by kernel_rfl) ⟨hg133, hg133, trivial, trivial, hg134, hg134, trivial, trivial, hg135, hg135, trivial, trivial, trivial, trivial, trivial⟩ rfl ?_
        refine WD_all [18] (n := 2) (by kernel_rfl) rfl ?_
        refine WM_op (φ := True) (v := .one (.e (.sl 3 0 ([(⟨(x73.getD i112.toNat dver).node, (x73.getD i112.toNat dver).value, (w64 (((x73.getD i112.toNat dver).tm) + 1))⟩ : Ver)].length)))) (H' := [.row .u8 x1 false, .row .ver x73 true, .row .ver x111 true, .row .ver [(⟨(x73.getD i112.toNat dver).node, (x73.getD i112.toNat dver).value, (w64 (((x73.getD i112.toNat dver).tm) + 1))⟩ : Ver)] true]) rfl rfl (by kernel_rfl) trivial rfl (And.intro rfl (And.intro rfl (trivial))) ?_
        refine WD_all [19] (n := 1) (by kernel_rfl) rfl ?_
        refine WM_op (φ := 0 = 0 ∧ x111.length = x111.length ∧ x111.length + (([(⟨(x73.getD i112.toNat dver).node, (x73.getD i112.toNat dver).value, (w64 (((x73.getD i112.toNat dver).tm) + 1))⟩ : Ver)].drop 0).take ([(⟨(x73.getD i112.toNat dver).node, (x73.getD i112.toNat dver).value, (w64 (((x73.getD i112.toNat dver).tm) + 1))⟩ : Ver)].length)).length ≤ 1099511627776) (v := .one (.e (.sl 4 0 ((x111 ++ (([(⟨(x73.getD i112.toNat dver).node, (x73.getD i112.toNat dver).value, (w64 (((x73.getD i112.toNat dver).tm) + 1))⟩ : Ver)].drop 0).take ([(⟨(x73.getD i112.toNat dver).node, (x73.getD i112.toNat dver).value, (w64 (((x73.getD i112.toNat dver).tm) + 1))⟩ : Ver)].length))).length)))) (H' := [.row .u8 x1 false, .row .ver x73 true, .dead, .row .ver [(⟨(x73.getD i112.toNat dver).node, (x73.getD i112.toNat dver).value, (w64 (((x73.getD i112.toNat dver).tm) + 1))⟩ : Ver)] true, .row .ver (x111 ++ (([(⟨(x73.getD i112.toNat dver).node, (x73.getD i112.toNat dver).value, (w64 (((x73.getD i112.toNat dver).tm) + 1))⟩ : Ver)].drop 0).take ([(⟨(x73.getD i112.toNat dver).node, (x73.getD i112.toNat dver).value, (w64 (((x73.getD i112.toNat dver).tm) + 1))⟩ : Ver)].length))) true]) rfl rfl (by kernel_rfl) hg136 rfl (And.intro rfl (And.intro rfl (trivial))) ?_
        refine WD_all [20] (n := 0) (by kernel_rfl) rfl ?_
        refine WM_op (φ := True) (v := .one (.e (.sl 4 0 ((x111 ++ (([(⟨(x73.getD i112.toNat dver).node, (x73.getD i112.toNat dver).value, (w64 (((x73.getD i112.toNat dver).tm) + 1))⟩ : Ver)].drop 0).take ([(⟨(x73.getD i112.toNat dver).node, (x73.getD i112.toNat dver).value, (w64 (((x73.getD i112.toNat dver).tm) + 1))⟩ : Ver)].length))).length)))) (H' := [.row .u8 x1 false, .row .ver x73 true, .dead, .row .ver [(⟨(x73.getD i112.toNat dver).node, (x73.getD i112.toNat dver).value, (w64 (((x73.getD i112.toNat dver).tm) + 1))⟩ : Ver)] true, .row .ver (x111 ++ (([(⟨(x73.getD i112.toNat dver).node, (x73.getD i112.toNat dver).value, (w64 (((x73.getD i112.toNat dver).tm) + 1))⟩ : Ver)].drop 0).take ([(⟨(x73.getD i112.toNat dver).node, (x73.getD i112.toNat dver).value, (w64 (((x73.getD i112.toNat dver).tm) + 1))⟩ : Ver)].length))) true]) rfl rfl (by kernel_rfl) trivial rfl (And.intro rfl (And.intro rfl (trivial))) ?_
        exact WD_done [0, 1, 4] [3, 5, 6] (st' := ⟨[(3, .one (.e (.sl 1 0 x73.length))), (5, .one (.e (.sl 2 0 ((x111 ++ (([(⟨(x73.getD i112.toNat dver).node, (x73.getD i112.toNat dver).value, (w64 (((x73.getD i112.toNat dver).tm) + 1))⟩ : Ver)].drop 0).take ([(⟨(x73.getD i112.toNat dver).node, (x73.getD i112.toNat dver).value, (w64 (((x73.getD i112.toNat dver).tm) + 1))⟩ : Ver)].length))).length)))), (6, I i112)], [.row .u8 x1 false, .row .ver x73 true, .row .ver (x111 ++ (([(⟨(x73.getD i112.toNat dver).node, (x73.getD i112.toNat dver).value, (w64 (((x73.getD i112.toNat dver).tm) + 1))⟩ : Ver)].drop 0).take ([(⟨(x73.getD i112.toNat dver).node, (x73.getD i112.toNat dver).value, (w64 (((x73.getD i112.toNat dver).tm) + 1))⟩ : Ver)].length))) true]⟩) (by kernel_rfl) (by kernel_rfl) (And.intro rfl rfl)
      · rintro _ _ ⟨rfl, rfl⟩
        refine blockS_n ?_
        refine thenS_n ?_
        refine W_region ?_
        refine WO_step 3 [0, 1, 2] [3, 5, 6] (True ∧ True) ⟨[(3, .one (.e (.sl 1 0 x73.length))), (5, .one (.e (.sl 2 0 ((x111 ++ (([(⟨(x73.getD i112.toNat dver).node, (x73.getD i112.toNat dver).value, (w64 (((x73.getD i112.toNat dver).tm) + 1))⟩ : Ver)].drop 0).take ([(⟨(x73.getD i112.toNat dver).node, (x73.getD i112.toNat dver).value, (w64 (((x73.getD i112.toNat dver).tm) + 1))⟩ : Ver)].length))).length)))), (6, I (w64 (i112 + 1)))], [.row .u8 x1 false, .row .ver x73 true, .row .ver (x111 ++ (([(⟨(x73.getD i112.toNat dver).node, (x73.getD i112.toNat dver).value, (w64 (((x73.getD i112.toNat dver).tm) + 1))⟩ : Ver)].drop 0).take ([(⟨(x73.getD i112.toNat dver).node, (x73.getD i112.toNat dver).value, (w64 (((x73.getD i112.toNat dver).tm) + 1))⟩ : Ver)].length))) true]⟩ (by kernel_rfl) ⟨trivial, trivial⟩ ?_
        refine WO_nil rfl ?_
        refine thenS_n ?_
        exact ih _ _ h
    · refine W_sub [0, 2] [5] (st' := ⟨[(5, .one (.e (.sl 1 0 x111.length)))], [.row .u8 x1 false, .row .ver x111 true]⟩) (by kernel_rfl) ?_
      refine W_exit ?_
      refine thenS_e ?_
      refine thenS_e ?_
      cases h
      exact And.intro rfl rfl

def laws_FnValidVersionsTime (n : Nat) (x1 : List Int) : Option (Bool) :=
 iteO (decide (1048576 < ((x1.length : Nat) : Int)))
 (some true)
 (bindO (spec_DrawValidVersions n x1) fun x73 =>
 bindO (impl_ValidVersions n x73) fun b75 =>
 bindO (spec_ValidVersions n x73) fun b77 =>
 bindO (iteO (!(b75 == b77))
 (some true)
 (iteO (!b75)
 (some true)
 (iteO (decide (((x73.length : Nat) : Int) = 0))
 (some true)
 (guardO (0 ≤ (w64 (((x73.length : Nat) : Int) - 1)) ∧ (w64 (((x73.length : Nat) : Int) - 1)) < ((x73.length : Nat) : Int)) <|
 some (decide (((x73.getD ((w64 (((x73.length : Nat) : Int) - 1)).toNat) dver).tm) = 100)))))) fun b83 =>
 iteO b83
 (bindO (spec_ValidVersions n x73) fun b93 =>
 some (b75 == b93))
 (bindO (laws_FnValidVersionsTime_L1 x73 x1 n ([] : List Ver) 0) fun x125 =>
 bindO (impl_ValidVersions n x125) fun b138 =>
 some b138))

theorem laws_FnValidVersionsTime_ok (n : Nat) (x1 : List Int) (b70 : Bool) (h : laws_FnValidVersionsTime n x1 = some b70) : FOk EE 5 [.one (.e (.sl 0 0 x1.length))] [.row .u8 x1 false] (B b70) [.row .u8 x1 false] := by
  unfold laws_FnValidVersionsTime at h
  refine FOk_of_W 70 1 Try.func5 rfl rfl (Nat.le_of_ble_eq_true rfl) rfl (fun w X θ => ?_)
  refine W_seq ?_
  refine W_region ?_
  refine WO_step 1 [0] [0] True ⟨[(0, .one (.e (.sl 0 0 x1.length)))], [.row .u8 x1 false]⟩ (by kernel_rfl) trivial ?_
  refine WO_nil rfl ?_
  refine thenS_n ?_
  refine W_seq ?_
  refine W_seq ?_
  refine W_region ?_
  refine WO_step 3 [0] [0, 9] (True ∧ (True ∧ True)) ⟨[(0, .one (.e (.sl 0 0 x1.length))), (9, B (decide (1048576 < ((x1.length : Nat) : Int))))], [.row .u8 x1 false]⟩ (by kernel_rfl) ⟨trivial, trivial, trivial⟩ ?_
  refine WO_nil rfl ?_
  refine thenS_n ?_
  refine iteO_e h (fun hb72 h => W_true rfl hb72 ?_) (fun hb72 h => W_false rfl hb72 ?_)
  · refine W_seq ?_
    refine W_region ?_
    refine WO_step 1 [0] [2] True ⟨[(2, B true)], [.row .u8 x1 false]⟩ (by kernel_rfl) trivial ?_
    refine WO_nil rfl ?_
    refine thenS_n ?_
    refine W_ret ?_
    refine thenS_r ?_
    cases h
    exact ⟨[0], True, by kernel_rfl, trivial⟩
  · refine W_sub [0] [0] (st' := ⟨[(0, .one (.e (.sl 0 0 x1.length)))], [.row .u8 x1 false]⟩) (by kernel_rfl) ?_
    refine W_skip ?_
    refine thenS_n ?_
    refine W_seq ?_
    refine W_region ?_
    refine WO_step 1 [0] [10] True ⟨[(10, .one (.e (.sl 0 0 x1.length)))], [.row .u8 x1 false]⟩ (by kernel_rfl) trivial ?_
    refine bindO_e h (fun x73 hc74 h => ?_)
    refine WO_call [.ro 0] Try.f22 rfl rfl rfl (by kernel_rfl) rfl rfl (by kernel_rfl) (spec_DrawValidVersions_ok n x1 x73 hc74) (And.intro (And.intro rfl rfl) (trivial)) rfl ?_
    refine WO_step 1 [0, 1] [3] True ⟨[(3, .one (.e (.sl 1 0 x73.length)))], [.row .u8 x1 false, .row .ver x73 true]⟩ (by kernel_rfl) trivial ?_
    refine WO_nil rfl ?_
    refine thenS_n ?_
    refine W_seq ?_
    refine W_region ?_
    refine WO_step 1 [0, 1] [3, 12] True ⟨[(3, .one (.e (.sl 1 0 x73.length))), (12, .one (.e (.sl 1 0 x73.length)))], [.row .u8 x1 false, .row .ver x73 true]⟩ (by kernel_rfl) trivial ?_
    refine bindO_e h (fun b75 hc76 h => ?_)
    refine WO_call [.ro 1] Try.f20 rfl rfl rfl (by kernel_rfl) rfl rfl (by kernel_rfl) (impl_ValidVersions_ok n x73 b75 hc76) (And.intro (And.intro rfl rfl) (trivial)) rfl ?_
    refine WO_step 1 [0, 1] [3, 4] True ⟨[(3, .one (.e (.sl 1 0 x73.length))), (4, B b75)], [.row .u8 x1 false, .row .ver x73 true]⟩ (by kernel_rfl) trivial ?_
    refine WO_nil rfl ?_
    refine thenS_n ?_
    refine W_seq ?_
    refine W_seq ?_
    refine W_region ?_
    refine WO_step 2 [0, 1] [3, 4, 14, 15] True ⟨[(3, .one (.e (.sl 1 0 x73.length))), (4, B b75), (14, B b75), (15, .one (.e (.sl 1 0 x73.length)))], [.row .u8 x1 false, .row .ver x73 true]⟩ (by kernel_rfl) trivial ?_
    refine bindO_e h (fun b77 hc78 h => ?_)
    refine WO_call [.ro 1] Try.f18 rfl rfl rfl (by kernel_rfl) rfl rfl (by kernel_rfl) (spec_ValidVersions_ok n x73 b77 hc78) (And.intro (And.intro rfl rfl) (trivial)) rfl ?_
    refine WO_step 2 [0, 1] [3, 4, 18] (True ∧ True) ⟨[(3, .one (.e (.sl 1 0 x73.length))), (4, B b75), (18, B (!(b75 == b77)))], [.row .u8 x1 false, .row .ver x73 true]⟩ (by kernel_rfl) ⟨trivial, trivial⟩ ?_
    refine bindO_e h (fun b83 hv84 h => ?_)
    refine WO_thru ⟨[(3, .one (.e (.sl 1 0 x73.length))), (4, B b75), (36, B b83)], [.row .u8 x1 false, .row .ver x73 true]⟩ ?_ ?_
    · refine iteO_e hv84 (fun hb85 hv84 => WO_known 18 true rfl hb85 ?_) (fun hb85 hv84 => WO_known 18 false rfl hb85 ?_)
      · refine WO_step 18 [0, 1] [3, 4, 36] True ⟨[(3, .one (.e (.sl 1 0 x73.length))), (4, B b75), (36, B true)], [.row .u8 x1 false, .row .ver x73 true]⟩ (by kernel_rfl) trivial ?_
        cases hv84
        exact WO_nil rfl ⟨rfl, rfl⟩
      · refine WO_step 4 [0, 1] [3, 4, 22] True ⟨[(3, .one (.e (.sl 1 0 x73.length))), (4, B b75), (22, B (!b75))], [.row .u8 x1 false, .row .ver x73 true]⟩ (by kernel_rfl) trivial ?_
        refine iteO_e hv84 (fun hb86 hv84 => WO_known 22 true rfl hb86 ?_) (fun hb86 hv84 => WO_known 22 false rfl hb86 ?_)
        · refine WO_step 14 [0, 1] [3, 4, 36] True ⟨[(3, .one (.e (.sl 1 0 x73.length))), (4, B b75), (36, B true)], [.row .u8 x1 false, .row .ver x73 true]⟩ (by kernel_rfl) trivial ?_
          cases hv84
          exact WO_nil rfl ⟨rfl, rfl⟩
        · refine WO_step 5 [0, 1] [3, 4, 27] (True ∧ (True ∧ True)) ⟨[(3, .one (.e (.sl 1 0 x73.length))), (4, B b75), (27, B (decide (((x73.length : Nat) : Int) = 0)))], [.row .u8 x1 false, .row .ver x73 true]⟩ (by kernel_rfl) ⟨trivial, trivial, trivial⟩ ?_
          refine iteO_e hv84 (fun hb87 hv84 => WO_known 27 true rfl hb87 ?_) (fun hb87 hv84 => WO_known 27 false rfl hb87 ?_)
          · refine WO_step 9 [0, 1] [3, 4, 36] True ⟨[(3, .one (.e (.sl 1 0 x73.length))), (4, B b75), (36, B true)], [.row .u8 x1 false, .row .ver x73 true]⟩ (by kernel_rfl) trivial ?_
            cases hv84
            exact WO_nil rfl ⟨rfl, rfl⟩
          · refine guardO_e hv84 (fun hg88 hv84 => ?_)
            refine WO_step 9 [0, 1] [3, 4, 36] (True ∧ (True ∧ ((0 ≤ (w64 (((x73.length : Nat) : Int) - 1)) ∧ (w64 (((x73.length : Nat) : Int) - 1)) < ((x73.length : Nat) : Int)) ∧ (True ∧ (True ∧ True))))) ⟨[(3, .one (.e (.sl 1 0 x73.length))), (4, B b75), (36, B (decide (((x73.getD ((w64 (((x73.length : Nat) : Int) - 1)).toNat) dver).tm) = 100)))], [.row .u8 x1 false, .row .ver x73 true]⟩ (by kernel_rfl) ⟨trivial, trivial, hg88, trivial, trivial, trivial⟩ ?_
            cases hv84
            exact WO_nil rfl ⟨rfl, rfl⟩
    · refine thenS_n ?_
      refine iteO_e h (fun hb92 h => W_true rfl hb92 ?_) (fun hb92 h => W_false rfl hb92 ?_)
      · refine W_seq ?_
        refine W_region ?_
        refine WO_step 2 [0, 1] [37, 38] True ⟨[(37, B b75), (38, .one (.e (.sl 1 0 x73.length)))], [.row .u8 x1 false, .row .ver x73 true]⟩ (by kernel_rfl) trivial ?_
        refine bindO_e h (fun b93 hc94 h => ?_)
        refine WO_call [.ro 1] Try.f18 rfl rfl rfl (by kernel_rfl) rfl rfl (by kernel_rfl) (spec_ValidVersions_ok n x73 b93 hc94) (And.intro (And.intro rfl rfl) (trivial)) rfl ?_
        refine WO_step 2 [0] [2] (True ∧ True) ⟨[(2, B (b75 == b93))], [.row .u8 x1 false]⟩ (by kernel_rfl) ⟨trivial, trivial⟩ ?_
        refine WO_nil rfl ?_
        refine thenS_n ?_
        refine W_ret ?_
        refine thenS_r ?_
        cases h
        exact ⟨[0], True, by kernel_rfl, trivial⟩
      · refine W_sub [0, 1] [3] (st' := ⟨[(3, .one (.e (.sl 1 0 x73.length)))], [.row .u8 x1 false, .row .ver x73 true]⟩) (by kernel_rfl) ?_
        refine W_skip ?_
        refine thenS_n ?_
        refine W_seq ?_
        refine W_region ?_
        refine WO_step 2 [0, 1, 2] [3, 5] True ⟨[(3, .one (.e (.sl 1 0 x73.length))), (5, .one (.e (.sl 2 0 (([] : List Ver).length))))], [.row .u8 x1 false, .row .ver x73 true, .row .ver ([] : List Ver) true]⟩ (by kernel_rfl) trivial ?_
        refine WO_nil rfl ?_
        refine thenS_n ?_
        refine W_seq ?_
        refine W_seq ?_
        refine W_region ?_
        refine WO_step 1 [0, 1, 2] [3, 5, 6] True ⟨[(3, .one (.e (.sl 1 0 x73.length))), (5, .one (.e (.sl 2 0 (([] : List Ver).length)))), (6, I 0)], [.row .u8 x1 false, .row .ver x73 true, .row .ver ([] : List Ver) true]⟩ (by kernel_rfl) trivial ?_
        refine WO_nil rfl ?_
        refine thenS_n ?_
        refine W_block ?_
        refine W_loop ?_
        refine bindO_e h (fun x125 hx125 h => ?_)
        refine WL_cut (laws_FnValidVersionsTime_L1_ok w X θ x73 x1 x125 n ([] : List Ver) 0 hx125) ?_
        rintro _ _ ⟨rfl, rfl⟩
        refine blockS_y ?_
        refine thenS_n ?_
        refine W_seq ?_
        refine W_region ?_
        refine WO_step 1 [0, 1] [68] True ⟨[(68, .one (.e (.sl 1 0 x125.length)))], [.row .u8 x1 false, .row .ver x125 true]⟩ (by kernel_rfl) trivial ?_
        refine bindO_e h (fun b138 hc139 h => ?_)
        refine WO_call [.ro 1] Try.f20 rfl rfl rfl (by kernel_rfl) rfl rfl (by kernel_rfl) (impl_ValidVersions_ok n x125 b138 hc139) (And.intro (And.intro rfl rfl) (trivial)) rfl ?_
        refine WO_step 1 [0] [2] True ⟨[(2, B b138)], [.row .u8 x1 false]⟩ (by kernel_rfl) trivial ?_
        refine WO_nil rfl ?_
        refine thenS_n ?_
        refine W_ret ?_
        cases h
        exact ⟨[0], True, by kernel_rfl, trivial⟩

/- spec.asOf -/
def spec_asOf_L1 (x1 : List Ver) (i2 : Int) (i3 : Int) : Nat → Int → Int → Option (Int)
| 0, _, _ => none
| n + 1, i111, i112 =>
 iteO (decide (i112 < ((x1.length : Nat) : Int)))
 (guardO (0 ≤ i112 ∧ i112 < ((x1.length : Nat) : Int)) <|
 bindO (iteO (decide (((x1.getD i112.toNat dver).node) = i2))
 (guardO (0 ≤ i112 ∧ i112 < ((x1.length : Nat) : Int)) <|
 some (decide (((x1.getD i112.toNat dver).tm) ≤ i3)))
 (some false)) fun b154 =>
 bindO (iteO b154
 (some i112)
 (some i111)) fun i159 =>
 spec_asOf_L1 x1 i2 i3 n i159 (w64 (i112 + 1)))
 (some i111)

theorem spec_asOf_L1_ok (w : World) (X : Nat → Prop) (θ : List Loc) (x1 : List Ver) (i2 : Int) (i3 : Int) (i137 : Int) : ∀ (n : Nat) (i111 : Int) (i112 : Int), spec_asOf_L1 x1 i2 i3 n i111 i112 = some i137 → WL EE ⟨w, X, θ, 33, 1⟩ (subC [1, 1, 0, 1, 4, 4] (bodyC Try.f41)) (fun (e : Exit) (s : St) => e = .exit 0 ∧ s = ⟨[(7, I i137)], [.row .ver x1 false]⟩) ⟨[(0, .one (.e (.sl 0 0 x1.length))), (1, I i2), (2, I i3), (7, I i111), (8, I i112)], [.row .ver x1 false]⟩ := by
  intro n
  induction n with
  | zero => intro _ _ h; exact none_e h
  | succ n ih =>
    intro i111 i112 h
    rw [spec_asOf_L1] at h
    refine WL_round ?_
    refine W_seq ?_
    refine W_seq ?_
    refine W_region ?_
    refine WO_step 4 [0] [0, 1, 2, 7, 8, 12] (True ∧ (True ∧ True)) ⟨[(0, .one (.e (.sl 0 0 x1.length))), (1, I i2), (2, I i3), (7, I i111), (8, I i112), (12, B (decide (i112 < ((x1.length : Nat) : Int))))], [.row .ver x1 false]⟩ (by kernel_rfl) ⟨trivial, trivial, trivial⟩ ?_
    refine WO_nil rfl ?_
    refine thenS_n ?_
    refine iteO_e h (fun hb140 h => W_true rfl hb140 ?_) (fun hb140 h => W_false rfl hb140 ?_)
    · refine W_sub [0] [0, 1, 2, 7, 8] (st' := ⟨[(0, .one (.e (.sl 0 0 x1.length))), (1, I i2), (2, I i3), (7, I i111), (8, I i112)], [.row .ver x1 false]⟩) (by kernel_rfl) ?_
      refine W_skip ?_
      refine thenS_n ?_
      refine W_seq ?_
      refine W_block ?_
      refine W_seq ?_
      refine W_region ?_
      refine guardO_e h (fun hg151 h => ?_)
      refine WO_step 8 [0] [0, 1, 2, 7, 8, 22] ((0 ≤ i112 ∧ i112 < ((x1.length : Nat) : Int)) ∧ (True ∧ (True ∧ True))) ⟨[(0, .one (.e (.sl 0 0 x1.length))), (1, I i2), (2, I i3), (7, I i111), (8, I i112), (22, B (decide (((x1.getD i112.toNat dver).node) = i2)))], [.row .ver x1 false]⟩ (by kernel_rfl) ⟨hg151, trivial, trivial, trivial⟩ ?_
      refine bindO_e h (fun b154 hv155 h => ?_)
      refine WO_thru ⟨[(0, .one (.e (.sl 0 0 x1.length))), (1, I i2), (2, I i3), (7, I i111), (8, I i112), (30, B b154)], [.row .ver x1 false]⟩ ?_ ?_
      · refine iteO_e hv155 (fun hb156 hv155 => WO_known 22 true rfl hb156 ?_) (fun hb156 hv155 => WO_known 22 false rfl hb156 ?_)
        · refine guardO_e hv155 (fun hg157 hv155 => ?_)
          refine WO_step 8 [0] [0, 1, 2, 7, 8, 30] ((0 ≤ i112 ∧ i112 < ((x1.length : Nat) : Int)) ∧ (True ∧ (True ∧ True))) ⟨[(0, .one (.e (.sl 0 0 x1.length))), (1, I i2), (2, I i3), (7, I i111), (8, I i112), (30, B (decide (((x1.getD i112.toNat dver).tm) ≤ i3)))], [.row .ver x1 false]⟩ (by kernel_rfl) ⟨hg157, trivial, trivial, trivial⟩ ?_
          cases hv155
          exact WO_nil rfl ⟨rfl, rfl⟩
        · refine WO_step 8 [0] [0, 1, 2, 7, 8, 30] True ⟨[(0, .one (.e (.sl 0 0 x1.length))), (1, I i2), (2, I i3), (7, I i111), (8, I i112), (30, B false)], [.row .ver x1 false]⟩ (by kernel_rfl) trivial ?_
          cases hv155
          exact WO_nil rfl ⟨rfl, rfl⟩
      · refine thenS_n ?_
        refine bindO_e h (fun i159 hi159 h => ?_)
        refine W_cut (Q' := fun (e : Exit) (s : St) => e = .normal ∧ s = ⟨[(0, .one (.e (.sl 0 0 x1.length))), (1, I i2), (2, I i3), (7, I i159), (8, I i112)], [.row .ver x1 false]⟩) ?_ ?_
        · refine iteO_e hi159 (fun hb161 hi159 => W_true rfl hb161 ?_) (fun hb161 hi159 => W_false rfl hb161 ?_)
          · refine W_region ?_
            refine WO_step 2 [0] [0, 1, 2, 7, 8] True ⟨[(0, .one (.e (.sl 0 0 x1.length))), (1, I i2), (2, I i3), (7, I i112), (8, I i112)], [.row .ver x1 false]⟩ (by kernel_rfl) trivial ?_
            refine WO_nil rfl ?_
            cases hi159
            exact And.intro rfl rfl
          · refine W_sub [0] [0, 1, 2, 7, 8] (st' := ⟨[(0, .one (.e (.sl 0 0 x1.length))), (1, I i2), (2, I i3), (7, I i111), (8, I i112)], [.row .ver x1 false]⟩) (by kernel_rfl) ?_
            refine W_skip ?_
            cases hi159
            exact And.intro rfl rfl
        · rintro _ _ ⟨rfl, rfl⟩
          refine blockS_n ?_
          refine thenS_n ?_
          refine W_region ?_
          refine WO_step 3 [0] [0, 1, 2, 7, 8] (True ∧ True) ⟨[(0, .one (.e (.sl 0 0 x1.length))), (1, I i2), (2, I i3), (7, I i159), (8, I (w64 (i112 + 1)))], [.row .ver x1 false]⟩ (by kernel_rfl) ⟨trivial, trivial⟩ ?_
          refine WO_nil rfl ?_
          refine thenS_n ?_
          exact ih _ _ h
    · refine W_sub [0] [7] (st' := ⟨[(7, I i111)], [.row .ver x1 false]⟩) (by kernel_rfl) ?_
      refine W_exit ?_
      refine thenS_e ?_
      refine thenS_e ?_
      cases h
      exact And.intro rfl rfl

def spec_asOf (n : Nat) (x1 : List Ver) (i2 : Int) (i3 : Int) : Option (Int) :=
 bindO (spec_asOf_L1 x1 i2 i3 n (-1) 0) fun i137 =>
 some i137

theorem spec_asOf_ok (n : Nat) (x1 : List Ver) (i2 : Int) (i3 : Int) (i82 : Int) (h : spec_asOf n x1 i2 i3 = some i82) : FOk EE 41 [.one (.e (.sl 0 0 x1.length)), I i2, I i3] [.row .ver x1 false] (I i82) [.row .ver x1 false] := by
  unfold spec_asOf at h
  refine FOk_of_W 33 1 Try.func41 rfl rfl (Nat.le_of_ble_eq_true rfl) rfl (fun w X θ => ?_)
  refine W_seq ?_
  refine W_region ?_
  refine WO_step 1 [0] [0, 1, 2] True ⟨[(0, .one (.e (.sl 0 0 x1.length))), (1, I i2), (2, I i3)], [.row .ver x1 false]⟩ (by kernel_rfl) trivial ?_
  refine WO_nil rfl ?_
  refine thenS_n ?_
  refine W_seq ?_
  refine W_region ?_
  refine WO_step 1 [0] [0, 1, 2, 7] True ⟨[(0, .one (.e (.sl 0 0 x1.length))), (1, I i2), (2, I i3), (7, I (-1))], [.row .ver x1 false]⟩ (by kernel_rfl) trivial ?_
  refine WO_nil rfl ?_
  refine thenS_n ?_
  refine W_seq ?_
  refine W_seq ?_
  refine W_region ?_
  refine WO_step 1 [0] [0, 1, 2, 7, 8] True ⟨[(0, .one (.e (.sl 0 0 x1.length))), (1, I i2), (2, I i3), (7, I (-1)), (8, I 0)], [.row .ver x1 false]⟩ (by kernel_rfl) trivial ?_
  refine WO_nil rfl ?_
  refine thenS_n ?_
  refine W_block ?_
  refine W_loop ?_
  refine bindO_e h (fun i137 hi137 h => ?_)
  refine WL_cut (spec_asOf_L1_ok w X θ x1 i2 i3 i137 n (-1) 0 hi137) ?_
  rintro _ _ ⟨rfl, rfl⟩
  refine blockS_y ?_
  refine thenS_n ?_
  refine W_seq ?_
  refine W_region ?_
  refine WO_step 2 [0] [6] True ⟨[(6, I i137)], [.row .ver x1 false]⟩ (by kernel_rfl) trivial ?_
  refine WO_nil rfl ?_
  refine thenS_n ?_
  refine W_ret ?_
  cases h
  exact ⟨[0], True, by kernel_rfl, trivial⟩

/- spec.ReadAsOf -/
def spec_ReadAsOf (n : Nat) (x1 : List Ver) (i2 : Int) (i3 : Int) : Option (Int × Bool) :=
 bindO (spec_validVersions n x1) fun b15 =>
 iteO (!b15)
 (some (0, false))
 (bindO (spec_asOf n x1 i2 i3) fun i19 =>
 iteO (decide (i19 < 0))
 (some (0, false))
 (guardO (0 ≤ i19 ∧ i19 < ((x1.length : Nat) : Int)) <|
 some ((x1.getD i19.toNat dver).value, true)))

theorem spec_ReadAsOf_ok (n : Nat) (x1 : List Ver) (i2 : Int) (i3 : Int) (i13 : Int) (b14 : Bool) (h : spec_ReadAsOf n x1 i2 i3 = some (i13, b14)) : FOk EE 23 [.one (.e (.sl 0 0 x1.length)), I i2, I i3] [.row .ver x1 false] (.tup [.e (cI i13), .e (cB b14)]) [.row .ver x1 false] := by
  unfold spec_ReadAsOf at h
  refine FOk_of_W 23 1 Try.func23 rfl rfl (Nat.le_of_ble_eq_true rfl) rfl (fun w X θ => ?_)
  refine W_seq ?_
  refine W_region ?_
  refine WO_step 2 [0] [0, 1, 2] True ⟨[(0, .one (.e (.sl 0 0 x1.length))), (1, I i2), (2, I i3)], [.row .ver x1 false]⟩ (by kernel_rfl) trivial ?_
  refine WO_nil rfl ?_
  refine thenS_n ?_
  refine W_seq ?_
  refine W_seq ?_
  refine W_region ?_
  refine WO_step 1 [0] [0, 1, 2, 9] True ⟨[(0, .one (.e (.sl 0 0 x1.length))), (1, I i2), (2, I i3), (9, .one (.e (.sl 0 0 x1.length)))], [.row .ver x1 false]⟩ (by kernel_rfl) trivial ?_
  refine bindO_e h (fun b15 hc16 h => ?_)
  refine WO_call [.ro 0] Try.f36 rfl rfl rfl (by kernel_rfl) rfl rfl (by kernel_rfl) (spec_validVersions_ok n x1 b15 hc16) (And.intro (And.intro rfl rfl) (trivial)) rfl ?_
  refine WO_step 1 [0] [0, 1, 2, 11] True ⟨[(0, .one (.e (.sl 0 0 x1.length))), (1, I i2), (2, I i3), (11, B (!b15))], [.row .ver x1 false]⟩ (by kernel_rfl) trivial ?_
  refine WO_nil rfl ?_
  refine thenS_n ?_
  refine iteO_e h (fun hb18 h => W_true rfl hb18 ?_) (fun hb18 h => W_false rfl hb18 ?_)
  · refine W_seq ?_
    refine W_region ?_
    refine WO_step 2 [0] [6, 7] True ⟨[(6, I 0), (7, B false)], [.row .ver x1 false]⟩ (by kernel_rfl) trivial ?_
    refine WO_nil rfl ?_
    refine thenS_n ?_
    refine W_ret ?_
    refine thenS_r ?_
    cases h
    exact ⟨[0], True, by kernel_rfl, trivial⟩
  · refine W_sub [0] [0, 1, 2] (st' := ⟨[(0, .one (.e (.sl 0 0 x1.length))), (1, I i2), (2, I i3)], [.row .ver x1 false]⟩) (by kernel_rfl) ?_
    refine W_skip ?_
    refine thenS_n ?_
    refine W_seq ?_
    refine W_region ?_
    refine WO_step 3 [0] [0, 12, 13, 14] True ⟨[(0, .one (.e (.sl 0 0 x1.length))), (12, .one (.e (.sl 0 0 x1.length))), (13, I i2), (14, I i3)], [.row .ver x1 false]⟩ (by kernel_rfl) trivial ?_
    refine bindO_e h (fun i19 hc20 h => ?_)
    refine WO_call [.ro 0] Try.f41 rfl rfl rfl (by kernel_rfl) rfl rfl (by kernel_rfl) (spec_asOf_ok n x1 i2 i3 i19 hc20) (And.intro (And.intro rfl rfl) (trivial)) rfl ?_
    refine WO_step 1 [0] [0, 8] True ⟨[(0, .one (.e (.sl 0 0 x1.length))), (8, I i19)], [.row .ver x1 false]⟩ (by kernel_rfl) trivial ?_
    refine WO_nil rfl ?_
    refine thenS_n ?_
    refine W_seq ?_
    refine W_seq ?_
    refine W_region ?_
    refine WO_step 2 [0] [0, 8, 17] (True ∧ True) ⟨[(0, .one (.e (.sl 0 0 x1.length))), (8, I i19), (17, B (decide (i19 < 0)))], [.row .ver x1 false]⟩ (by kernel_rfl) ⟨trivial, trivial⟩ ?_
    refine WO_nil rfl ?_
    refine thenS_n ?_
    refine iteO_e h (fun hb22 h => W_true rfl hb22 ?_) (fun hb22 h => W_false rfl hb22 ?_)
    · refine W_seq ?_
      refine W_region ?_
      refine WO_step 2 [0] [6, 7] True ⟨[(6, I 0), (7, B false)], [.row .ver x1 false]⟩ (by kernel_rfl) trivial ?_
      refine WO_nil rfl ?_
      refine thenS_n ?_
      refine W_ret ?_
      refine thenS_r ?_
      cases h
      exact ⟨[0], True, by kernel_rfl, trivial⟩
    · refine W_sub [0] [0, 8] (st' := ⟨[(0, .one (.e (.sl 0 0 x1.length))), (8, I i19)], [.row .ver x1 false]⟩) (by kernel_rfl) ?_
      refine W_skip ?_
      refine thenS_n ?_
      refine W_seq ?_
      refine W_region ?_
      refine guardO_e h (fun hg23 h => ?_)
      refine WO_step 7 [0] [6, 7] ((0 ≤ i19 ∧ i19 < ((x1.length : Nat) : Int)) ∧ (True ∧ True)) ⟨[(6, I ((x1.getD i19.toNat dver).value)), (7, B true)], [.row .ver x1 false]⟩ (by kernel_rfl) ⟨hg23, trivial, trivial⟩ ?_
      refine WO_nil rfl ?_
      refine thenS_n ?_
      refine W_ret ?_
      cases h
      exact ⟨[0], True, by kernel_rfl, trivial⟩

/- impl.ReadAsOf -/
def impl_ReadAsOf_L1 (x1 : List Ver) (i2 : Int) (i3 : Int) : Nat → Int → Option ((Int) ⊕ (Unit))
| 0, _ => none
| n + 1, i122 =>
 iteO (decide (0 ≤ i122))
 (guardO (0 ≤ i122 ∧ i122 < ((x1.length : Nat) : Int)) <|
 bindO (iteO (decide (((x1.getD i122.toNat dver).node) = i2))
 (guardO (0 ≤ i122 ∧ i122 < ((x1.length : Nat) : Int)) <|
 some (decide (((x1.getD i122.toNat dver).tm) ≤ i3)))
 (some false)) fun b166 =>
 iteO b166
 (guardO (0 ≤ i122 ∧ i122 < ((x1.length : Nat) : Int)) <|
 some (.inl ((x1.getD i122.toNat dver).value)))
 (impl_ReadAsOf_L1 x1 i2 i3 n (w64 (i122 - 1))))
 (some (.inr ()))

theorem impl_ReadAsOf_L1_ok (w : World) (X : Nat → Prop) (θ : List Loc) (x1 : List Ver) (i2 : Int) (i3 : Int) (v : (Int) ⊕ (Unit)) : ∀ (n : Nat) (i122 : Int), impl_ReadAsOf_L1 x1 i2 i3 n i122 = some v → WL EE ⟨w, X, θ, 40, 1⟩ (subC [1, 1, 0, 1, 4, 4] (bodyC Try.f24)) (fun (e : Exit) (s : St) => (match v with | (.inl i148) => e = .ret ∧ s = ⟨[(6, I i148), (7, B true)], [.row .ver x1 false]⟩ | (.inr _) => e = .exit 0 ∧ s = ⟨[], [.row .ver x1 false]⟩ : Prop)) ⟨[(0, .one (.e (.sl 0 0 x1.length))), (1, I i2), (2, I i3), (8, I i122)], [.row .ver x1 false]⟩ := by
  intro n
  induction n with
  | zero => intro _ h; exact none_e h
  | succ n ih =>
    intro i122 h
    rw [impl_ReadAsOf_L1] at h
    refine WL_round ?_
    refine W_seq ?_
    refine W_seq ?_
    refine W_region ?_
    refine WO_step 2 [0] [0, 1, 2, 8, 16] (True ∧ True) ⟨[(0, .one (.e (.sl 0 0 x1.length))), (1, I i2), (2, I i3), (8, I i122), (16, B (decide (0 ≤ i122)))], [.row .ver x1 false]⟩ (by kernel_rfl) ⟨trivial, trivial⟩ ?_
    refine WO_nil rfl ?_
    refine thenS_n ?_
    refine iteO_e h (fun hb151 h => W_true rfl hb151 ?_) (fun hb151 h => W_false rfl hb151 ?_)
    · refine W_sub [0] [0, 1, 2, 8] (st' := ⟨[(0, .one (.e (.sl 0 0 x1.length))), (1, I i2), (2, I i3), (8, I i122)], [.row .ver x1 false]⟩) (by kernel_rfl) ?_
      refine W_skip ?_
      refine thenS_n ?_
      refine W_seq ?_
      refine W_block ?_
      refine W_seq ?_
      refine W_region ?_
      refine guardO_e h (fun hg163 h => ?_)
      refine WO_step 8 [0] [0, 1, 2, 8, 26] ((0 ≤ i122 ∧ i122 < ((x1.length : Nat) : Int)) ∧ (True ∧ (True ∧ True))) ⟨[(0, .one (.e (.sl 0 0 x1.length))), (1, I i2), (2, I i3), (8, I i122), (26, B (decide (((x1.getD i122.toNat dver).node) = i2)))], [.row .ver x1 false]⟩ (by kernel_rfl) ⟨hg163, trivial, trivial, trivial⟩ ?_
      refine bindO_e h (fun b166 hv167 h => ?_)
      refine WO_thru ⟨[(0, .one (.e (.sl 0 0 x1.length))), (1, I i2), (2, I i3), (8, I i122), (34, B b166)], [.row .ver x1 false]⟩ ?_ ?_
      · refine iteO_e hv167 (fun hb168 hv167 => WO_known 26 true rfl hb168 ?_) (fun hb168 hv167 => WO_known 26 false rfl hb168 ?_)
        · refine guardO_e hv167 (fun hg169 hv167 => ?_)
          refine WO_step 8 [0] [0, 1, 2, 8, 34] ((0 ≤ i122 ∧ i122 < ((x1.length : Nat) : Int)) ∧ (True ∧ (True ∧ True))) ⟨[(0, .one (.e (.sl 0 0 x1.length))), (1, I i2), (2, I i3), (8, I i122), (34, B (decide (((x1.getD i122.toNat dver).tm) ≤ i3)))], [.row .ver x1 false]⟩ (by kernel_rfl) ⟨hg169, trivial, trivial, trivial⟩ ?_
          cases hv167
          exact WO_nil rfl ⟨rfl, rfl⟩
        · refine WO_step 8 [0] [0, 1, 2, 8, 34] True ⟨[(0, .one (.e (.sl 0 0 x1.length))), (1, I i2), (2, I i3), (8, I i122), (34, B false)], [.row .ver x1 false]⟩ (by kernel_rfl) trivial ?_
          cases hv167
          exact WO_nil rfl ⟨rfl, rfl⟩
      · refine thenS_n ?_
        refine iteO_e h (fun hb172 h => W_true rfl hb172 ?_) (fun hb172 h => W_false rfl hb172 ?_)
        · refine W_seq ?_
          refine W_region ?_
          refine guardO_e h (fun hg173 h => ?_)
          refine WO_step 7 [0] [6, 7] ((0 ≤ i122 ∧ i122 < ((x1.length : Nat) : Int)) ∧ (True ∧ True)) ⟨[(6, I ((x1.getD i122.toNat dver).value)), (7, B true)], [.row .ver x1 false]⟩ (by kernel_rfl) ⟨hg173, trivial, trivial⟩ ?_
          refine WO_nil rfl ?_
          refine thenS_n ?_
          refine W_ret ?_
          refine blockS_r ?_
          refine thenS_r ?_
          refine thenS_r ?_
          cases h
          exact And.intro rfl rfl
        · refine W_sub [0] [0, 1, 2, 8] (st' := ⟨[(0, .one (.e (.sl 0 0 x1.length))), (1, I i2), (2, I i3), (8, I i122)], [.row .ver x1 false]⟩) (by kernel_rfl) ?_
          refine W_skip ?_
          refine blockS_n ?_
          refine thenS_n ?_
          refine W_region ?_
          refine WO_step 3 [0] [0, 1, 2, 8] (True ∧ True) ⟨[(0, .one (.e (.sl 0 0 x1.length))), (1, I i2), (2, I i3), (8, I (w64 (i122 - 1)))], [.row .ver x1 false]⟩ (by kernel_rfl) ⟨trivial, trivial⟩ ?_
          refine WO_nil rfl ?_
          refine thenS_n ?_
          exact ih _ h
    · refine W_sub [0] [] (st' := ⟨[], [.row .ver x1 false]⟩) (by kernel_rfl) ?_
      refine W_exit ?_
      refine thenS_e ?_
      refine thenS_e ?_
      cases h
      exact And.intro rfl rfl

def impl_ReadAsOf (n : Nat) (x1 : List Ver) (i2 : Int) (i3 : Int) : Option (Int × Bool) :=
 bindO (impl_ValidVersions n x1) fun b90 =>
 iteO (!b90)
 (some (0, false))
 (bindO (impl_ReadAsOf_L1 x1 i2 i3 n (w64 (((x1.length : Nat) : Int) - 1))) fun v174 =>
 match v174 with
 | (.inl i148) => (some (i148, true))
 | (.inr _) => (some (0, false))
)

theorem impl_ReadAsOf_ok (n : Nat) (x1 : List Ver) (i2 : Int) (i3 : Int) (i88 : Int) (b89 : Bool) (h : impl_ReadAsOf n x1 i2 i3 = some (i88, b89)) : FOk EE 24 [.one (.e (.sl 0 0 x1.length)), I i2, I i3] [.row .ver x1 false] (.tup [.e (cI i88), .e (cB b89)]) [.row .ver x1 false] := by
  unfold impl_ReadAsOf at h
  refine FOk_of_W 40 1 Try.func24 rfl rfl (Nat.le_of_ble_eq_true rfl) rfl (fun w X θ => ?_)
  refine W_seq ?_
  refine W_region ?_
  refine WO_step 2 [0] [0, 1, 2] True ⟨[(0, .one (.e (.sl 0 0 x1.length))), (1, I i2), (2, I i3)], [.row .ver x1 false]⟩ (by kernel_rfl) trivial ?_
  refine WO_nil rfl ?_
  refine thenS_n ?_
  refine W_seq ?_
  refine W_seq ?_
  refine W_region ?_
  refine WO_step 1 [0] [0, 1, 2, 9] True ⟨[(0, .one (.e (.sl 0 0 x1.length))), (1, I i2), (2, I i3), (9, .one (.e (.sl 0 0 x1.length)))], [.row .ver x1 false]⟩ (by kernel_rfl) trivial ?_
  refine bindO_e h (fun b90 hc91 h => ?_)
  refine WO_call [.ro 0] Try.f20 rfl rfl rfl (by kernel_rfl) rfl rfl (by kernel_rfl) (impl_ValidVersions_ok n x1 b90 hc91) (And.intro (And.intro rfl rfl) (trivial)) rfl ?_
  refine WO_step 1 [0] [0, 1, 2, 11] True ⟨[(0, .one (.e (.sl 0 0 x1.length))), (1, I i2), (2, I i3), (11, B (!b90))], [.row .ver x1 false]⟩ (by kernel_rfl) trivial ?_
  refine WO_nil rfl ?_
  refine thenS_n ?_
  refine iteO_e h (fun hb93 h => W_true rfl hb93 ?_) (fun hb93 h => W_false rfl hb93 ?_)
  · refine W_seq ?_
    refine W_region ?_
    refine WO_step 2 [0] [6, 7] True ⟨[(6, I 0), (7, B false)], [.row .ver x1 false]⟩ (by kernel_rfl) trivial ?_
    refine WO_nil rfl ?_
    refine thenS_n ?_
    refine W_ret ?_
    refine thenS_r ?_
    cases h
    exact ⟨[0], True, by kernel_rfl, trivial⟩
  · refine W_sub [0] [0, 1, 2] (st' := ⟨[(0, .one (.e (.sl 0 0 x1.length))), (1, I i2), (2, I i3)], [.row .ver x1 false]⟩) (by kernel_rfl) ?_
    refine W_skip ?_
    refine thenS_n ?_
    refine W_seq ?_
    refine W_seq ?_
    refine W_region ?_
    refine WO_step 4 [0] [0, 1, 2, 8] (True ∧ (True ∧ True)) ⟨[(0, .one (.e (.sl 0 0 x1.length))), (1, I i2), (2, I i3), (8, I (w64 (((x1.length : Nat) : Int) - 1)))], [.row .ver x1 false]⟩ (by kernel_rfl) ⟨trivial, trivial, trivial⟩ ?_
    refine WO_nil rfl ?_
    refine thenS_n ?_
    refine W_block ?_
    refine W_loop ?_
    refine bindO_e h (fun v174 hv174 h => ?_)
    refine WL_cut (impl_ReadAsOf_L1_ok w X θ x1 i2 i3 v174 n (w64 (((x1.length : Nat) : Int) - 1)) hv174) ?_
    rcases v174 with i148 | _
    · rintro _ _ ⟨rfl, rfl⟩
      refine blockS_r ?_
      refine thenS_r ?_
      cases h
      exact ⟨[0], True, by kernel_rfl, trivial⟩
    · rintro _ _ ⟨rfl, rfl⟩
      refine blockS_y ?_
      refine thenS_n ?_
      refine W_seq ?_
      refine W_region ?_
      refine WO_step 2 [0] [6, 7] True ⟨[(6, I 0), (7, B false)], [.row .ver x1 false]⟩ (by kernel_rfl) trivial ?_
      refine WO_nil rfl ?_
      refine thenS_n ?_
      refine W_ret ?_
      cases h
      exact ⟨[0], True, by kernel_rfl, trivial⟩

/- laws.FnExactReadAsOf -/
def laws_FnExactReadAsOf (n : Nat) (x1 : List Ver) (i2 : Int) (i3 : Int) : Option (Bool) :=
 bindO (laws_szVersionS x1 1048576) fun i32 =>
 iteO (decide (i32 < 0))
 (some true)
 (bindO (laws_toVersionS n x1) fun x36 =>
 bindO (spec_ReadAsOf n x36 i2 i3) fun (i38, b39) =>
 bindO (laws_toVersionS n x1) fun x41 =>
 bindO (impl_ReadAsOf n x41 i2 i3) fun (i43, b44) =>
 iteO ((!decide (i43 = i38)) || (!(b44 == b39)))
 (some false)
 (bindO (laws_toVersionS n x1) fun x51 =>
 bindO (laws_eqVersionS n x41 x51) fun b53 =>
 iteO (!b53)
 (some false)
 (some true)))

theorem laws_FnExactReadAsOf_ok (n : Nat) (x1 : List Ver) (i2 : Int) (i3 : Int) (b31 : Bool) (h : laws_FnExactReadAsOf n x1 i2 i3 = some b31) : FOk EE 6 [.one (.e (.sl 0 0 x1.length)), I i2, I i3] [.row .ver x1 false] (B b31) [.row .ver x1 false] := by
  unfold laws_FnExactReadAsOf at h
  refine FOk_of_W 48 1 Try.func6 rfl rfl (Nat.le_of_ble_eq_true rfl) rfl (fun w X θ => ?_)
  refine W_seq ?_
  refine W_region ?_
  refine WO_step 1 [0] [0, 1, 2] True ⟨[(0, .one (.e (.sl 0 0 x1.length))), (1, I i2), (2, I i3)], [.row .ver x1 false]⟩ (by kernel_rfl) trivial ?_
  refine WO_nil rfl ?_
  refine thenS_n ?_
  refine W_seq ?_
  refine W_region ?_
  refine WO_step 1 [0] [0, 1, 2, 7] True ⟨[(0, .one (.e (.sl 0 0 x1.length))), (1, I i2), (2, I i3), (7, I 1048576)], [.row .ver x1 false]⟩ (by kernel_rfl) trivial ?_
  refine WO_nil rfl ?_
  refine thenS_n ?_
  refine W_seq ?_
  refine W_region ?_
  refine WO_step 2 [0] [0, 1, 2, 13, 14] True ⟨[(0, .one (.e (.sl 0 0 x1.length))), (1, I i2), (2, I i3), (13, .one (.e (.sl 0 0 x1.length))), (14, I 1048576)], [.row .ver x1 false]⟩ (by kernel_rfl) trivial ?_
  refine bindO_e h (fun i32 hc33 h => ?_)
  refine WO_call [.ro 0] Try.f17 rfl rfl rfl (by kernel_rfl) rfl rfl (by kernel_rfl) (laws_szVersionS_ok x1 1048576 i32 hc33) (And.intro (And.intro rfl rfl) (trivial)) rfl ?_
  refine WO_step 1 [0] [0, 1, 2, 7] True ⟨[(0, .one (.e (.sl 0 0 x1.length))), (1, I i2), (2, I i3), (7, I i32)], [.row .ver x1 false]⟩ (by kernel_rfl) trivial ?_
  refine WO_nil rfl ?_
  refine thenS_n ?_
  refine W_seq ?_
  refine W_seq ?_
  refine W_region ?_
  refine WO_step 2 [0] [0, 1, 2, 17] (True ∧ True) ⟨[(0, .one (.e (.sl 0 0 x1.length))), (1, I i2), (2, I i3), (17, B (decide (i32 < 0)))], [.row .ver x1 false]⟩ (by kernel_rfl) ⟨trivial, trivial⟩ ?_
  refine WO_nil rfl ?_
  refine thenS_n ?_
  refine iteO_e h (fun hb35 h => W_true rfl hb35 ?_) (fun hb35 h => W_false rfl hb35 ?_)
  · refine W_seq ?_
    refine W_region ?_
    refine WO_step 1 [0] [6] True ⟨[(6, B true)], [.row .ver x1 false]⟩ (by kernel_rfl) trivial ?_
    refine WO_nil rfl ?_
    refine thenS_n ?_
    refine W_ret ?_
    refine thenS_r ?_
    cases h
    exact ⟨[0], True, by kernel_rfl, trivial⟩
  · refine W_sub [0] [0, 1, 2] (st' := ⟨[(0, .one (.e (.sl 0 0 x1.length))), (1, I i2), (2, I i3)], [.row .ver x1 false]⟩) (by kernel_rfl) ?_
    refine W_skip ?_
    refine thenS_n ?_
    refine W_seq ?_
    refine W_region ?_
    refine WO_step 1 [0] [0, 1, 2, 19] True ⟨[(0, .one (.e (.sl 0 0 x1.length))), (1, I i2), (2, I i3), (19, .one (.e (.sl 0 0 x1.length)))], [.row .ver x1 false]⟩ (by kernel_rfl) trivial ?_
    refine bindO_e h (fun x36 hc37 h => ?_)
    refine WO_call [.ro 0] Try.f19 rfl rfl rfl (by kernel_rfl) rfl rfl (by kernel_rfl) (laws_toVersionS_ok n x1 x36 hc37) (And.intro (And.intro rfl rfl) (trivial)) rfl ?_
    refine WO_step 2 [0, 1] [0, 1, 2, 20, 21, 22] True ⟨[(0, .one (.e (.sl 0 0 x1.length))), (1, I i2), (2, I i3), (20, .one (.e (.sl 1 0 x36.length))), (21, I i2), (22, I i3)], [.row .ver x1 false, .row .ver x36 true]⟩ (by kernel_rfl) trivial ?_
    refine bindO_e h (fun v58 hc40 h => ?_)
    obtain ⟨i38, b39⟩ := v58
    refine WO_call [.ro 1] Try.f23 rfl rfl rfl (by kernel_rfl) rfl rfl (by kernel_rfl) (spec_ReadAsOf_ok n x36 i2 i3 i38 b39 hc40) (And.intro (And.intro rfl rfl) (trivial)) rfl ?_
    refine WO_step 5 [0] [0, 1, 2, 8, 9] True ⟨[(0, .one (.e (.sl 0 0 x1.length))), (1, I i2), (2, I i3), (8, I i38), (9, B b39)], [.row .ver x1 false]⟩ (by kernel_rfl) trivial ?_
    refine WO_nil rfl ?_
    refine thenS_n ?_
    refine W_seq ?_
    refine W_region ?_
    refine WO_step 1 [0] [0, 1, 2, 8, 9, 26] True ⟨[(0, .one (.e (.sl 0 0 x1.length))), (1, I i2), (2, I i3), (8, I i38), (9, B b39), (26, .one (.e (.sl 0 0 x1.length)))], [.row .ver x1 false]⟩ (by kernel_rfl) trivial ?_
    refine bindO_e h (fun x41 hc42 h => ?_)
    refine WO_call [.ro 0] Try.f19 rfl rfl rfl (by kernel_rfl) rfl rfl (by kernel_rfl) (laws_toVersionS_ok n x1 x41 hc42) (And.intro (And.intro rfl rfl) (trivial)) rfl ?_
    refine WO_step 1 [0, 1] [0, 1, 2, 8, 9, 10] True ⟨[(0, .one (.e (.sl 0 0 x1.length))), (1, I i2), (2, I i3), (8, I i38), (9, B b39), (10, .one (.e (.sl 1 0 x41.length)))], [.row .ver x1 false, .row .ver x41 true]⟩ (by kernel_rfl) trivial ?_
    refine WO_nil rfl ?_
    refine thenS_n ?_
    refine W_seq ?_
    refine W_region ?_
    refine WO_step 3 [0, 1] [0, 8, 9, 10, 29, 30, 31] True ⟨[(0, .one (.e (.sl 0 0 x1.length))), (8, I i38), (9, B b39), (10, .one (.e (.sl 1 0 x41.length))), (29, .one (.e (.sl 1 0 x41.length))), (30, I i2), (31, I i3)], [.row .ver x1 false, .row .ver x41 true]⟩ (by kernel_rfl) trivial ?_
    refine bindO_e h (fun v57 hc45 h => ?_)
    obtain ⟨i43, b44⟩ := v57
    refine WO_call [.ro 1] Try.f24 rfl rfl rfl (by kernel_rfl) rfl rfl (by kernel_rfl) (impl_ReadAsOf_ok n x41 i2 i3 i43 b44 hc45) (And.intro (And.intro rfl rfl) (trivial)) rfl ?_
    refine WO_step 5 [0, 1] [0, 8, 9, 10, 11, 12] True ⟨[(0, .one (.e (.sl 0 0 x1.length))), (8, I i38), (9, B b39), (10, .one (.e (.sl 1 0 x41.length))), (11, I i43), (12, B b44)], [.row .ver x1 false, .row .ver x41 true]⟩ (by kernel_rfl) trivial ?_
    refine WO_nil rfl ?_
    refine thenS_n ?_
    refine W_seq ?_
    refine W_seq ?_
    refine W_region ?_
    refine WO_step 4 [0, 1] [0, 9, 10, 12, 38] (True ∧ True) ⟨[(0, .one (.e (.sl 0 0 x1.length))), (9, B b39), (10, .one (.e (.sl 1 0 x41.length))), (12, B b44), (38, B (!decide (i43 = i38)))], [.row .ver x1 false, .row .ver x41 true]⟩ (by kernel_rfl) ⟨trivial, trivial⟩ ?_
    refine WO_thru ⟨[(0, .one (.e (.sl 0 0 x1.length))), (10, .one (.e (.sl 1 0 x41.length))), (42, B ((!decide (i43 = i38)) || (!(b44 == b39))))], [.row .ver x1 false, .row .ver x41 true]⟩ ?_ ?_
    · refine WO_if 38 rfl (fun hb48 => ?_) (fun hb48 => ?_)
      · refine WO_step 4 [0, 1] [0, 10, 42] True ⟨[(0, .one (.e (.sl 0 0 x1.length))), (10, .one (.e (.sl 1 0 x41.length))), (42, B true)], [.row .ver x1 false, .row .ver x41 true]⟩ (by kernel_rfl) trivial ?_
        exact WO_nil rfl ⟨rfl, by first | rfl | (rw [hb48]; first | done | rfl)⟩
      · refine WO_step 4 [0, 1] [0, 10, 42] (True ∧ True) ⟨[(0, .one (.e (.sl 0 0 x1.length))), (10, .one (.e (.sl 1 0 x41.length))), (42, B (!(b44 == b39)))], [.row .ver x1 false, .row .ver x41 true]⟩ (by kernel_rfl) ⟨trivial, trivial⟩ ?_
        exact WO_nil rfl ⟨rfl, by first | rfl | (rw [hb48]; first | done | rfl)⟩
    · refine thenS_n ?_
      refine iteO_e h (fun hb50 h => W_true rfl hb50 ?_) (fun hb50 h => W_false rfl hb50 ?_)
      · refine W_seq ?_
        refine W_region ?_
        refine WO_step 1 [0] [6] True ⟨[(6, B false)], [.row .ver x1 false]⟩ (by kernel_rfl) trivial ?_
        refine WO_nil rfl ?_
        refine thenS_n ?_
        refine W_ret ?_
        refine thenS_r ?_
        cases h
        exact ⟨[0], True, by kernel_rfl, trivial⟩
      · refine W_sub [0, 1] [0, 10] (st' := ⟨[(0, .one (.e (.sl 0 0 x1.length))), (10, .one (.e (.sl 1 0 x41.length)))], [.row .ver x1 false, .row .ver x41 true]⟩) (by kernel_rfl) ?_
        refine W_skip ?_
        refine thenS_n ?_
        refine W_seq ?_
        refine W_seq ?_
        refine W_region ?_
        refine WO_step 2 [0, 1] [43, 44] True ⟨[(43, .one (.e (.sl 1 0 x41.length))), (44, .one (.e (.sl 0 0 x1.length)))], [.row .ver x1 false, .row .ver x41 true]⟩ (by kernel_rfl) trivial ?_
        refine bindO_e h (fun x51 hc52 h => ?_)
        refine WO_call [.ro 0] Try.f19 rfl rfl rfl (by kernel_rfl) rfl rfl (by kernel_rfl) (laws_toVersionS_ok n x1 x51 hc52) (And.intro (And.intro rfl rfl) (trivial)) rfl ?_
        refine WO_sub [0, 1, 2] [43, 45] (st' := ⟨[(43, .one (.e (.sl 1 0 x41.length))), (45, .one (.e (.sl 2 0 x51.length)))], [.row .ver x1 false, .row .ver x41 true, .row .ver x51 true]⟩) (by kernel_rfl) ?_
        refine bindO_e h (fun b53 hc54 h => ?_)
        refine WO_call [.ro 1, .ro 2] Try.f21 rfl rfl rfl (by kernel_rfl) rfl rfl (by kernel_rfl) (laws_eqVersionS_ok n x41 x51 b53 hc54) (And.intro (And.intro rfl rfl) (And.intro (And.intro rfl rfl) (trivial))) rfl ?_
        refine WO_step 1 [0] [47] True ⟨[(47, B (!b53))], [.row .ver x1 false]⟩ (by kernel_rfl) trivial ?_
        refine WO_nil rfl ?_
        refine thenS_n ?_
        refine iteO_e h (fun hb56 h => W_true rfl hb56 ?_) (fun hb56 h => W_false rfl hb56 ?_)
        · refine W_seq ?_
          refine W_region ?_
          refine WO_step 1 [0] [6] True ⟨[(6, B false)], [.row .ver x1 false]⟩ (by kernel_rfl) trivial ?_
          refine WO_nil rfl ?_
          refine thenS_n ?_
          refine W_ret ?_
          refine thenS_r ?_
          cases h
          exact ⟨[0], True, by kernel_rfl, trivial⟩
        · refine W_sub [0] [] (st' := ⟨[], [.row .ver x1 false]⟩) (by kernel_rfl) ?_
          refine W_skip ?_
          refine thenS_n ?_
          refine W_seq ?_
          refine W_region ?_
          refine WO_step 1 [0] [6] True ⟨[(6, B true)], [.row .ver x1 false]⟩ (by kernel_rfl) trivial ?_
          refine WO_nil rfl ?_
          refine thenS_n ?_
          refine W_ret ?_
          cases h
          exact ⟨[0], True, by kernel_rfl, trivial⟩

/- spec.DrawReadAsOf -/
def spec_DrawReadAsOf (n : Nat) (x1 : List Int) : Option ((List Ver) × Int × Int) :=
 bindO (spec_newReader x1) fun k19 =>
 bindO (spec_someVersions n x1 k19 0) fun (i21, x22) =>
 bindO (spec_reader_pick x1 k19 i21 5) fun i24 =>
 bindO (spec_reader_pick x1 k19 (w64 (i21 + 1)) 40) fun i26 =>
 bindO (spec_reader_one x1 k19 (w64 ((w64 (i21 + 1)) + 1)) [0, 5, 10, 20, 100, 200, (-1), i26]) fun (i28, i29) =>
 some (x22, i24, i29)

theorem spec_DrawReadAsOf_ok (n : Nat) (x1 : List Int) (x16 : List Ver) (i17 : Int) (i18 : Int) (h : spec_DrawReadAsOf n x1 = some (x16, i17, i18)) : FOk EE 25 [.one (.e (.sl 0 0 x1.length))] [.row .u8 x1 false] (.tup [.e (.sl 1 0 x16.length), .e (cI i17), .e (cI i18)]) [.row .u8 x1 false, .row .ver x16 true] := by
  unfold spec_DrawReadAsOf at h
  refine FOk_of_W 21 1 Try.func25 rfl rfl (Nat.le_of_ble_eq_true rfl) rfl (fun w X θ => ?_)
  refine W_seq ?_
  refine W_region ?_
  refine WO_step 3 [0] [0] True ⟨[(0, .one (.e (.sl 0 0 x1.length)))], [.row .u8 x1 false]⟩ (by kernel_rfl) trivial ?_
  refine WO_nil rfl ?_
  refine thenS_n ?_
  refine W_seq ?_
  refine W_region ?_
  refine WO_step 1 [0] [8] True ⟨[(8, .one (.e (.sl 0 0 x1.length)))], [.row .u8 x1 false]⟩ (by kernel_rfl) trivial ?_
  refine bindO_e h (fun k19 hc20 h => ?_)
  refine WO_call [.ro 0] Try.f40 rfl rfl rfl (by kernel_rfl) rfl rfl (by kernel_rfl) (spec_newReader_ok x1 k19 hc20) (And.intro (And.intro rfl rfl) (trivial)) rfl ?_
  refine WO_step 1 [0, 1] [5] True ⟨[(5, .one (.e (.p 1 0)))], [.row .u8 x1 false, .cells [.sl 0 0 k19, cI 0]]⟩ (by kernel_rfl) trivial ?_
  refine WO_nil rfl ?_
  refine thenS_n ?_
  refine W_seq ?_
  refine W_region ?_
  refine WO_step 1 [0, 1] [5, 10] True ⟨[(5, .one (.e (.p 1 0))), (10, .one (.e (.p 1 0)))], [.row .u8 x1 false, .cells [.sl 0 0 k19, cI 0]]⟩ (by kernel_rfl) trivial ?_
  refine bindO_e h (fun v32 hc23 h => ?_)
  obtain ⟨i21, x22⟩ := v32
  refine WO_call [.own 1, .ro 0] Try.f39 rfl rfl rfl (by kernel_rfl) rfl rfl (by kernel_rfl) (spec_someVersions_ok n x1 k19 0 i21 x22 hc23) (And.intro (trivial) (And.intro (And.intro rfl rfl) (trivial))) rfl ?_
  refine WO_step 1 [0, 1, 2] [5, 6] True ⟨[(5, .one (.e (.p 1 0))), (6, .one (.e (.sl 2 0 x22.length)))], [.row .u8 x1 false, .cells [.sl 0 0 k19, cI i21], .row .ver x22 true]⟩ (by kernel_rfl) trivial ?_
  refine WO_nil rfl ?_
  refine thenS_n ?_
  refine W_seq ?_
  refine W_region ?_
  refine WO_step 1 [0, 1, 2] [5, 6, 12] True ⟨[(5, .one (.e (.p 1 0))), (6, .one (.e (.sl 2 0 x22.length))), (12, .one (.e (.p 1 0)))], [.row .u8 x1 false, .cells [.sl 0 0 k19, cI i21], .row .ver x22 true]⟩ (by kernel_rfl) trivial ?_
  refine bindO_e h (fun i24 hc25 h => ?_)
  refine WO_call [.own 1, .ro 0] Try.f42 rfl rfl rfl (by kernel_rfl) rfl rfl (by kernel_rfl) (spec_reader_pick_ok x1 k19 i21 5 i24 hc25) (And.intro (trivial) (And.intro (And.intro rfl rfl) (trivial))) rfl ?_
  refine WO_step 1 [0, 1, 2] [5, 6, 7] True ⟨[(5, .one (.e (.p 1 0))), (6, .one (.e (.sl 2 0 x22.length))), (7, I i24)], [.row .u8 x1 false, .cells [.sl 0 0 k19, cI (w64 (i21 + 1))], .row .ver x22 true]⟩ (by kernel_rfl) trivial ?_
  refine WO_nil rfl ?_
  refine thenS_n ?_
  refine W_seq ?_
  refine W_region ?_
  refine WO_step 4 [0, 2, 1] [14, 15, 16, 17] True ⟨[(14, .one (.e (.sl 1 0 x22.length))), (15, I i24), (16, .one (.e (.p 2 0))), (17, .one (.e (.p 2 0)))], [.row .u8 x1 false, .row .ver x22 true, .cells [.sl 0 0 k19, cI (w64 (i21 + 1))]]⟩ (by kernel_rfl) trivial ?_
  refine bindO_e h (fun i26 hc27 h => ?_)
  refine WO_call [.own 2, .ro 0] Try.f42 rfl rfl rfl (by kernel_rfl) rfl rfl (by kernel_rfl) (spec_reader_pick_ok x1 k19 (w64 (i21 + 1)) 40 i26 hc27) (And.intro (trivial) (And.intro (And.intro rfl rfl) (trivial))) rfl ?_
  refine WO_step 1 [0, 1, 2, 3] [14, 15, 16, 19] True ⟨[(14, .one (.e (.sl 1 0 x22.length))), (15, I i24), (16, .one (.e (.p 2 0))), (19, .one (.e (.sl 3 0 ([0, 5, 10, 20, 100, 200, (-1), i26].length))))], [.row .u8 x1 false, .row .ver x22 true, .cells [.sl 0 0 k19, cI (w64 ((w64 (i21 + 1)) + 1))], .row .int [0, 5, 10, 20, 100, 200, (-1), i26] true]⟩ (by kernel_rfl) trivial ?_
  refine bindO_e h (fun v31 hc30 h => ?_)
  obtain ⟨i28, i29⟩ := v31
  refine WO_call [.own 2, .ro 0, .ro 3] Try.f43 rfl rfl rfl (by kernel_rfl) rfl rfl (by kernel_rfl) (spec_reader_one_ok x1 k19 (w64 ((w64 (i21 + 1)) + 1)) [0, 5, 10, 20, 100, 200, (-1), i26] i28 i29 hc30) (And.intro (trivial) (And.intro (And.intro rfl rfl) (And.intro (And.intro rfl rfl) (trivial)))) rfl ?_
  refine WO_step 3 [0, 1] [2, 3, 4] True ⟨[(2, .one (.e (.sl 1 0 x22.length))), (3, I i24), (4, I i29)], [.row .u8 x1 false, .row .ver x22 true]⟩ (by kernel_rfl) trivial ?_
  refine WO_nil rfl ?_
  refine thenS_n ?_
  refine W_ret ?_
  cases h
  exact ⟨[0, 1], True, by kernel_rfl, trivial⟩

/- laws.FnReadAsOf -/
def laws_FnReadAsOf_L1 (x138 : List Ver) (i139 : Int) (x1 : List Int) : Nat → Int → Option ((Unit) ⊕ (Unit))
| 0, _ => none
| n + 1, i199 =>
 iteO (decide (i199 < ((x138.length : Nat) : Int)))
 (guardO (0 ≤ i199 ∧ i199 < ((x138.length : Nat) : Int)) <|
 guardO (0 ≤ i199 ∧ i199 < ((x138.length : Nat) : Int)) <|
 bindO (impl_ReadAsOf n x138 ((x138.getD i199.toNat dver).node) ((x138.getD i199.toNat dver).tm)) fun (i250, b251) =>
 bindO (iteO (!b251)
 (some true)
 (guardO (0 ≤ i199 ∧ i199 < ((x138.length : Nat) : Int)) <|
 some (!decide (i250 = ((x138.getD i199.toNat dver).value))))) fun b256 =>
 iteO b256
 (some (.inl ()))
 (laws_FnReadAsOf_L1 x138 i139 x1 n (w64 (i199 + 1))))
 (some (.inr ()))

theorem laws_FnReadAsOf_L1_ok (w : World) (X : Nat → Prop) (θ : List Loc) (x138 : List Ver) (i139 : Int) (x1 : List Int) (v : (Unit) ⊕ (Unit)) : ∀ (n : Nat) (i199 : Int), laws_FnReadAsOf_L1 x138 i139 x1 n i199 = some v → WL EE ⟨w, X, θ, 99, 1⟩ (subC [1, 1, 1, 1, 1, 1, 0, 1, 4, 4] (bodyC Try.f7)) (fun (e : Exit) (s : St) => (match v with | (.inl _) => e = .ret ∧ s = ⟨[(2, B false)], [.row .u8 x1 false]⟩ | (.inr _) => e = .exit 0 ∧ s = ⟨[(3, .one (.e (.sl 1 0 x138.length))), (4, I i139)], [.row .u8 x1 false, .row .ver x138 true]⟩ : Prop)) ⟨[(3, .one (.e (.sl 1 0 x138.length))), (4, I i139), (10, I i199)], [.row .u8 x1 false, .row .ver x138 true]⟩ := by
  intro n
  induction n with
  | zero => intro _ h; exact none_e h
  | succ n ih =>
    intro i199 h
    rw [laws_FnReadAsOf_L1] at h
    refine WL_round ?_
    refine W_seq ?_
    refine W_seq ?_
    refine W_region ?_
    refine WO_step 4 [0, 1] [3, 4, 10, 62] (True ∧ (True ∧ True)) ⟨[(3, .one (.e (.sl 1 0 x138.length))), (4, I i139), (10, I i199), (62, B (decide (i199 < ((x138.length : Nat) : Int))))], [.row .u8 x1 false, .row .ver x138 true]⟩ (by kernel_rfl) ⟨trivial, trivial, trivial⟩ ?_
    refine WO_nil rfl ?_
    refine thenS_n ?_
    refine iteO_e h (fun hb233 h => W_true rfl hb233 ?_) (fun hb233 h => W_false rfl hb233 ?_)
    · refine W_sub [0, 1] [3, 4, 10] (st' := ⟨[(3, .one (.e (.sl 1 0 x138.length))), (4, I i139), (10, I i199)], [.row .u8 x1 false, .row .ver x138 true]⟩) (by kernel_rfl) ?_
      refine W_skip ?_
      refine thenS_n ?_
      refine W_seq ?_
      refine W_block ?_
      refine W_seq ?_
      refine guardO_e h (fun hg248 h => ?_)
      refine guardO_e h (fun hg249 h => ?_)
      refine bindO_e h (fun v253 hc252 h => ?_)
      obtain ⟨i250, b251⟩ := v253
      refine W_cut (Q' := fun (e : Exit) (s : St) => e = .normal ∧ s = ⟨[(3, .one (.e (.sl 1 0 x138.length))), (4, I i139), (10, I i199), (11, I i250), (12, B b251)], [.row .u8 x1 false, .row .ver x138 true]⟩) ?_ ?_
      · refine W_draw [] false (by kernel_rfl) (by kernel_rfl) ?_
        refine WD_takeK [0, 1, 2, 3, 4, 5, 6, 7, 8, 9, 10] [3, 4, 10, 66, 71, 76] [3, 4, 10, 66, 71, 76] (φ := ((0 ≤ i199 ∧ i199 < ((x138.length : Nat) : Int)) ∧ (0 ≤ i199 ∧ i199 < ((x138.length : Nat) : Int)) ∧ (True ∧ True ∧ ((0 ≤ i199 ∧ i199 < ((x138.length : Nat) : Int)) ∧ (0 ≤ i199 ∧ i199 < ((x138.length : Nat) : Int)) ∧ (True ∧ True ∧ True))))) (ls' := #[true, true, true, true, true, true, true, true, true, true, true, false, false, false, false, false, false]) (Ts' := [(3, .one (.e (.sl 1 0 x138.length))), (4, I i139), (10, I i199), (66, .one (.e (.sl 1 0 x138.length))), (71, I ((x138.getD i199.toNat dver).node)), (76, I ((x138.getD i199.toNat dver).tm))]) (st' := ⟨[(3, .one (.e (.sl 1 0 x138.length))), (4, I i139), (10, I i199), (66, .one (.e (.sl 1 0 x138.length))), (71, I ((x138.getD i199.toNat dver).node)), (76, I ((x138.getD i199.toNat dver).tm))], [.row .u8 x1 false, .row .ver x138 true]⟩) (n2 := 6) (by kernel_rfl) ⟨hg248, hg248, trivial, trivial, hg249, hg249, trivial, trivial, trivial⟩ rfl ?_
        refine WD_all [11] (n := 5) (by kernel_rfl) rfl ?_
        refine WM_call [.ro 1] Try.f24 rfl rfl (by kernel_rfl) rfl rfl (by kernel_rfl) (impl_ReadAsOf_ok n x138 ((x138.getD i199.toNat dver).node) ((x138.getD i199.toNat dver).tm) i250 b251 hc252) (And.intro (And.intro rfl rfl) (trivial)) rfl (And.intro rfl (And.intro rfl (trivial))) ?_
        refine WD_takeK [12, 13, 14, 15, 16] [3, 4, 10, 11, 12] [3, 4, 10, 11, 12] (φ := True) (ls' := #[true, true, true, true, true, true, true, true, true, true, true, true, true, true, true, true, true]) (Ts' := [(3, .one (.e (.sl 1 0 x138.length))), (4, I i139), (10, I i199), (11, I i250), (12, B b251)]) (st' := ⟨[(3, .one (.e (.sl 1 0 x138.length))), (4, I i139), (10, I i199), (11, I i250), (12, B b251)], [.row .u8 x1 false, .row .ver x138 true]⟩) (n2 := 0) (by kernel_rfl) trivial rfl ?_
        exact WD_done [0, 1] [3, 4, 10, 11, 12] (st' := ⟨[(3, .one (.e (.sl 1 0 x138.length))), (4, I i139), (10, I i199), (11, I i250), (12, B b251)], [.row .u8 x1 false, .row .ver x138 true]⟩) (by kernel_rfl) (by kernel_rfl) (And.intro rfl rfl)
      · rintro _ _ ⟨rfl, rfl⟩
        refine thenS_n ?_
        refine W_seq ?_
        refine W_region ?_
        refine WO_step 3 [0, 1] [3, 4, 10, 11, 82] True ⟨[(3, .one (.e (.sl 1 0 x138.length))), (4, I i139), (10, I i199), (11, I i250), (82, B (!b251))], [.row .u8 x1 false, .row .ver x138 true]⟩ (by kernel_rfl) trivial ?_
        refine bindO_e h (fun b256 hv257 h => ?_)
        refine WO_thru ⟨[(3, .one (.e (.sl 1 0 x138.length))), (4, I i139), (10, I i199), (90, B b256)], [.row .u8 x1 false, .row .ver x138 true]⟩ ?_ ?_
        · refine iteO_e hv257 (fun hb258 hv257 => WO_known 82 true rfl hb258 ?_) (fun hb258 hv257 => WO_known 82 false rfl hb258 ?_)
          · refine WO_step 8 [0, 1] [3, 4, 10, 90] True ⟨[(3, .one (.e (.sl 1 0 x138.length))), (4, I i139), (10, I i199), (90, B true)], [.row .u8 x1 false, .row .ver x138 true]⟩ (by kernel_rfl) trivial ?_
            cases hv257
            exact WO_nil rfl ⟨rfl, rfl⟩
          · refine guardO_e hv257 (fun hg259 hv257 => ?_)
            refine WO_step 8 [0, 1] [3, 4, 10, 90] ((0 ≤ i199 ∧ i199 < ((x138.length : Nat) : Int)) ∧ (True ∧ (True ∧ True))) ⟨[(3, .one (.e (.sl 1 0 x138.length))), (4, I i139), (10, I i199), (90, B (!decide (i250 = ((x138.getD i199.toNat dver).value))))], [.row .u8 x1 false, .row .ver x138 true]⟩ (by kernel_rfl) ⟨hg259, trivial, trivial, trivial⟩ ?_
            cases hv257
            exact WO_nil rfl ⟨rfl, rfl⟩
        · refine thenS_n ?_
          refine iteO_e h (fun hb261 h => W_true rfl hb261 ?_) (fun hb261 h => W_false rfl hb261 ?_)
          · refine W_seq ?_
            refine W_region ?_
            refine WO_step 1 [0] [2] True ⟨[(2, B false)], [.row .u8 x1 false]⟩ (by kernel_rfl) trivial ?_
            refine WO_nil rfl ?_
            refine thenS_n ?_
            refine W_ret ?_
            refine blockS_r ?_
            refine thenS_r ?_
            refine thenS_r ?_
            cases h
            exact And.intro rfl rfl
          · refine W_sub [0, 1] [3, 4, 10] (st' := ⟨[(3, .one (.e (.sl 1 0 x138.length))), (4, I i139), (10, I i199)], [.row .u8 x1 false, .row .ver x138 true]⟩) (by kernel_rfl) ?_
            refine W_skip ?_
            refine blockS_n ?_
            refine thenS_n ?_
            refine W_region ?_
            refine WO_step 3 [0, 1] [3, 4, 10] (True ∧ True) ⟨[(3, .one (.e (.sl 1 0 x138.length))), (4, I i139), (10, I (w64 (i199 + 1)))], [.row .u8 x1 false, .row .ver x138 true]⟩ (by kernel_rfl) ⟨trivial, trivial⟩ ?_
            refine WO_nil rfl ?_
            refine thenS_n ?_
            exact ih _ h
    · refine W_sub [0, 1] [3, 4] (st' := ⟨[(3, .one (.e (.sl 1 0 x138.length))), (4, I i139)], [.row .u8 x1 false, .row .ver x138 true]⟩) (by kernel_rfl) ?_
      refine W_exit ?_
      refine thenS_e ?_
      refine thenS_e ?_
      cases h
      exact And.intro rfl rfl

def laws_FnReadAsOf (n : Nat) (x1 : List Int) : Option (Bool) :=
 iteO (decide (1048576 < ((x1.length : Nat) : Int)))
 (some true)
 (bindO (spec_DrawReadAsOf n x1) fun (x138, i139, i140) =>
 bindO (impl_ReadAsOf n x138 i139 i140) fun (i142, b143) =>
 bindO (spec_ReadAsOf n x138 i139 i140) fun (i145, b146) =>
 bindO (iteO (!decide (i142 = i145))
 (some true)
 (iteO (!(b143 == b146))
 (some true)
 (bindO (impl_ValidVersions n x138) fun b156 =>
 some (!b156)))) fun b152 =>
 iteO b152
 (some ((decide (i142 = i145)) && (b143 == b146)))
 (bindO (laws_FnReadAsOf_L1 x138 i139 x1 n 0) fun v262 =>
 match v262 with
 | (.inl _) => (some false)
 | (.inr _) => (bindO (impl_ReadAsOf n x138 i139 (-1)) fun (i263, b264) =>
 some (!b264))
))

theorem laws_FnReadAsOf_ok (n : Nat) (x1 : List Int) (b135 : Bool) (h : laws_FnReadAsOf n x1 = some b135) : FOk EE 7 [.one (.e (.sl 0 0 x1.length))] [.row .u8 x1 false] (B b135) [.row .u8 x1 false] := by
  unfold laws_FnReadAsOf at h
  refine FOk_of_W 99 1 Try.func7 rfl rfl (Nat.le_of_ble_eq_true rfl) rfl (fun w X θ => ?_)
  refine W_seq ?_
  refine W_region ?_
  refine WO_step 1 [0] [0] True ⟨[(0, .one (.e (.sl 0 0 x1.length)))], [.row .u8 x1 false]⟩ (by kernel_rfl) trivial ?_
  refine WO_nil rfl ?_
  refine thenS_n ?_
  refine W_seq ?_
  refine W_seq ?_
  refine W_region ?_
  refine WO_step 3 [0] [0, 17] (True ∧ (True ∧ True)) ⟨[(0, .one (.e (.sl 0 0 x1.length))), (17, B (decide (1048576 < ((x1.length : Nat) : Int))))], [.row .u8 x1 false]⟩ (by kernel_rfl) ⟨trivial, trivial, trivial⟩ ?_
  refine WO_nil rfl ?_
  refine thenS_n ?_
  refine iteO_e h (fun hb137 h => W_true rfl hb137 ?_) (fun hb137 h => W_false rfl hb137 ?_)
  · refine W_seq ?_
    refine W_region ?_
    refine WO_step 1 [0] [2] True ⟨[(2, B true)], [.row .u8 x1 false]⟩ (by kernel_rfl) trivial ?_
    refine WO_nil rfl ?_
    refine thenS_n ?_
    refine W_ret ?_
    refine thenS_r ?_
    cases h
    exact ⟨[0], True, by kernel_rfl, trivial⟩
  · refine W_sub [0] [0] (st' := ⟨[(0, .one (.e (.sl 0 0 x1.length)))], [.row .u8 x1 false]⟩) (by kernel_rfl) ?_
    refine W_skip ?_
    refine thenS_n ?_
    refine W_seq ?_
    refine W_region ?_
    refine WO_step 1 [0] [19] True ⟨[(19, .one (.e (.sl 0 0 x1.length)))], [.row .u8 x1 false]⟩ (by kernel_rfl) trivial ?_
    refine bindO_e h (fun v269 hc141 h => ?_)
    obtain ⟨x138, i139, i140⟩ := v269
    refine WO_call [.ro 0] Try.f25 rfl rfl rfl (by kernel_rfl) rfl rfl (by kernel_rfl) (spec_DrawReadAsOf_ok n x1 x138 i139 i140 hc141) (And.intro (And.intro rfl rfl) (trivial)) rfl ?_
    refine WO_step 7 [0, 1] [3, 4, 5] True ⟨[(3, .one (.e (.sl 1 0 x138.length))), (4, I i139), (5, I i140)], [.row .u8 x1 false, .row .ver x138 true]⟩ (by kernel_rfl) trivial ?_
    refine WO_nil rfl ?_
    refine thenS_n ?_
    refine W_seq ?_
    refine W_region ?_
    refine WO_step 3 [0, 1] [3, 4, 5, 25, 26, 27] True ⟨[(3, .one (.e (.sl 1 0 x138.length))), (4, I i139), (5, I i140), (25, .one (.e (.sl 1 0 x138.length))), (26, I i139), (27, I i140)], [.row .u8 x1 false, .row .ver x138 true]⟩ (by kernel_rfl) trivial ?_
    refine bindO_e h (fun v268 hc144 h => ?_)
    obtain ⟨i142, b143⟩ := v268
    refine WO_call [.ro 1] Try.f24 rfl rfl rfl (by kernel_rfl) rfl rfl (by kernel_rfl) (impl_ReadAsOf_ok n x138 i139 i140 i142 b143 hc144) (And.intro (And.intro rfl rfl) (trivial)) rfl ?_
    refine WO_step 5 [0, 1] [3, 4, 5, 6, 7] True ⟨[(3, .one (.e (.sl 1 0 x138.length))), (4, I i139), (5, I i140), (6, I i142), (7, B b143)], [.row .u8 x1 false, .row .ver x138 true]⟩ (by kernel_rfl) trivial ?_
    refine WO_nil rfl ?_
    refine thenS_n ?_
    refine W_seq ?_
    refine W_region ?_
    refine WO_step 3 [0, 1] [3, 4, 6, 7, 32, 33, 34] True ⟨[(3, .one (.e (.sl 1 0 x138.length))), (4, I i139), (6, I i142), (7, B b143), (32, .one (.e (.sl 1 0 x138.length))), (33, I i139), (34, I i140)], [.row .u8 x1 false, .row .ver x138 true]⟩ (by kernel_rfl) trivial ?_
    refine bindO_e h (fun v267 hc147 h => ?_)
    obtain ⟨i145, b146⟩ := v267
    refine WO_call [.ro 1] Try.f23 rfl rfl rfl (by kernel_rfl) rfl rfl (by kernel_rfl) (spec_ReadAsOf_ok n x138 i139 i140 i145 b146 hc147) (And.intro (And.intro rfl rfl) (trivial)) rfl ?_
    refine WO_step 5 [0, 1] [3, 4, 6, 7, 8, 9] True ⟨[(3, .one (.e (.sl 1 0 x138.length))), (4, I i139), (6, I i142), (7, B b143), (8, I i145), (9, B b146)], [.row .u8 x1 false, .row .ver x138 true]⟩ (by kernel_rfl) trivial ?_
    refine WO_nil rfl ?_
    refine thenS_n ?_
    refine W_seq ?_
    refine W_seq ?_
    refine W_region ?_
    refine WO_step 4 [0, 1] [3, 4, 6, 7, 8, 9, 41] (True ∧ True) ⟨[(3, .one (.e (.sl 1 0 x138.length))), (4, I i139), (6, I i142), (7, B b143), (8, I i145), (9, B b146), (41, B (!decide (i142 = i145)))], [.row .u8 x1 false, .row .ver x138 true]⟩ (by kernel_rfl) ⟨trivial, trivial⟩ ?_
    refine bindO_e h (fun b152 hv153 h => ?_)
    refine WO_thru ⟨[(3, .one (.e (.sl 1 0 x138.length))), (4, I i139), (6, I i142), (7, B b143), (8, I i145), (9, B b146), (50, B b152)], [.row .u8 x1 false, .row .ver x138 true]⟩ ?_ ?_
    · refine iteO_e hv153 (fun hb154 hv153 => WO_known 41 true rfl hb154 ?_) (fun hb154 hv153 => WO_known 41 false rfl hb154 ?_)
      · refine WO_step 9 [0, 1] [3, 4, 6, 7, 8, 9, 50] True ⟨[(3, .one (.e (.sl 1 0 x138.length))), (4, I i139), (6, I i142), (7, B b143), (8, I i145), (9, B b146), (50, B true)], [.row .u8 x1 false, .row .ver x138 true]⟩ (by kernel_rfl) trivial ?_
        cases hv153
        exact WO_nil rfl ⟨rfl, rfl⟩
      · refine WO_step 5 [0, 1] [3, 4, 6, 7, 8, 9, 46] (True ∧ True) ⟨[(3, .one (.e (.sl 1 0 x138.length))), (4, I i139), (6, I i142), (7, B b143), (8, I i145), (9, B b146), (46, B (!(b143 == b146)))], [.row .u8 x1 false, .row .ver x138 true]⟩ (by kernel_rfl) ⟨trivial, trivial⟩ ?_
        refine iteO_e hv153 (fun hb155 hv153 => WO_known 46 true rfl hb155 ?_) (fun hb155 hv153 => WO_known 46 false rfl hb155 ?_)
        · refine WO_step 4 [0, 1] [3, 4, 6, 7, 8, 9, 50] True ⟨[(3, .one (.e (.sl 1 0 x138.length))), (4, I i139), (6, I i142), (7, B b143), (8, I i145), (9, B b146), (50, B true)], [.row .u8 x1 false, .row .ver x138 true]⟩ (by kernel_rfl) trivial ?_
          cases hv153
          exact WO_nil rfl ⟨rfl, rfl⟩
        · refine WO_step 1 [0, 1] [3, 4, 6, 7, 8, 9, 46, 47] True ⟨[(3, .one (.e (.sl 1 0 x138.length))), (4, I i139), (6, I i142), (7, B b143), (8, I i145), (9, B b146), (46, B false), (47, .one (.e (.sl 1 0 x138.length)))], [.row .u8 x1 false, .row .ver x138 true]⟩ (by kernel_rfl) trivial ?_
          refine bindO_e hv153 (fun b156 hc157 hv153 => ?_)
          refine WO_call [.ro 1] Try.f20 rfl rfl rfl (by kernel_rfl) rfl rfl (by kernel_rfl) (impl_ValidVersions_ok n x138 b156 hc157) (And.intro (And.intro rfl rfl) (trivial)) rfl ?_
          refine WO_step 2 [0, 1] [3, 4, 6, 7, 8, 9, 50] True ⟨[(3, .one (.e (.sl 1 0 x138.length))), (4, I i139), (6, I i142), (7, B b143), (8, I i145), (9, B b146), (50, B (!b156))], [.row .u8 x1 false, .row .ver x138 true]⟩ (by kernel_rfl) trivial ?_
          cases hv153
          exact WO_nil rfl ⟨rfl, rfl⟩
    · refine thenS_n ?_
      refine iteO_e h (fun hb162 h => W_true rfl hb162 ?_) (fun hb162 h => W_false rfl hb162 ?_)
      · refine W_seq ?_
        refine W_region ?_
        refine WO_step 4 [0] [7, 9, 54] (True ∧ True) ⟨[(7, B b143), (9, B b146), (54, B (decide (i142 = i145)))], [.row .u8 x1 false]⟩ (by kernel_rfl) ⟨trivial, trivial⟩ ?_
        refine WO_thru ⟨[(2, B ((decide (i142 = i145)) && (b143 == b146)))], [.row .u8 x1 false]⟩ ?_ ?_
        · refine WO_if 54 rfl (fun hb165 => ?_) (fun hb165 => ?_)
          · refine WO_step 5 [0] [2] (True ∧ True) ⟨[(2, B (b143 == b146))], [.row .u8 x1 false]⟩ (by kernel_rfl) ⟨trivial, trivial⟩ ?_
            exact WO_nil rfl ⟨rfl, by first | rfl | (rw [hb165]; first | done | rfl)⟩
          · refine WO_step 5 [0] [2] True ⟨[(2, B false)], [.row .u8 x1 false]⟩ (by kernel_rfl) trivial ?_
            exact WO_nil rfl ⟨rfl, by first | rfl | (rw [hb165]; first | done | rfl)⟩
        · refine thenS_n ?_
          refine W_ret ?_
          refine thenS_r ?_
          cases h
          exact ⟨[0], True, by kernel_rfl, trivial⟩
      · refine W_sub [0, 1] [3, 4] (st' := ⟨[(3, .one (.e (.sl 1 0 x138.length))), (4, I i139)], [.row .u8 x1 false, .row .ver x138 true]⟩) (by kernel_rfl) ?_
        refine W_skip ?_
        refine thenS_n ?_
        refine W_seq ?_
        refine W_seq ?_
        refine W_region ?_
        refine WO_step 1 [0, 1] [3, 4, 10] True ⟨[(3, .one (.e (.sl 1 0 x138.length))), (4, I i139), (10, I 0)], [.row .u8 x1 false, .row .ver x138 true]⟩ (by kernel_rfl) trivial ?_
        refine WO_nil rfl ?_
        refine thenS_n ?_
        refine W_block ?_
        refine W_loop ?_
        refine bindO_e h (fun v262 hv262 h => ?_)
        refine WL_cut (laws_FnReadAsOf_L1_ok w X θ x138 i139 x1 v262 n 0 hv262) ?_
        rcases v262 with _ | _
        · rintro _ _ ⟨rfl, rfl⟩
          refine blockS_r ?_
          refine thenS_r ?_
          cases h
          exact ⟨[0], True, by kernel_rfl, trivial⟩
        · rintro _ _ ⟨rfl, rfl⟩
          refine blockS_y ?_
          refine thenS_n ?_
          refine W_seq ?_
          refine W_region ?_
          refine WO_step 2 [0, 1] [92, 93] True ⟨[(92, .one (.e (.sl 1 0 x138.length))), (93, I i139)], [.row .u8 x1 false, .row .ver x138 true]⟩ (by kernel_rfl) trivial ?_
          refine bindO_e h (fun v266 hc265 h => ?_)
          obtain ⟨i263, b264⟩ := v266
          refine WO_call [.ro 1] Try.f24 rfl rfl rfl (by kernel_rfl) rfl rfl (by kernel_rfl) (impl_ReadAsOf_ok n x138 i139 (-1) i263 b264 hc265) (And.intro (And.intro rfl rfl) (trivial)) rfl ?_
          refine WO_step 5 [0] [14] True ⟨[(14, B b264)], [.row .u8 x1 false]⟩ (by kernel_rfl) trivial ?_
          refine WO_nil rfl ?_
          refine thenS_n ?_
          refine W_seq ?_
          refine W_region ?_
          refine WO_step 3 [0] [2] True ⟨[(2, B (!b264))], [.row .u8 x1 false]⟩ (by kernel_rfl) trivial ?_
          refine WO_nil rfl ?_
          refine thenS_n ?_
          refine W_ret ?_
          cases h
          exact ⟨[0], True, by kernel_rfl, trivial⟩

/- laws.FnReadAsOfLast -/
def laws_FnReadAsOfLast_L1 (x105 : List Ver) (i106 : Int) (x1 : List Int) : Nat → Bool → Int → Int → Option ((Bool × Int))
| 0, _, _, _ => none
| n + 1, b156, i157, i158 =>
 iteO (decide (i158 < ((x105.length : Nat) : Int)))
 (guardO (0 ≤ i158 ∧ i158 < ((x105.length : Nat) : Int)) <|
 bindO (iteO (decide (((x105.getD i158.toNat dver).node) = i106))
 (guardO (0 ≤ i158 ∧ i158 < ((x105.length : Nat) : Int)) <|
 some (true, (x105.getD i158.toNat dver).value))
 (some (b156, i157))) fun v192 =>
 match v192 with
 | (b190, i191) => (laws_FnReadAsOfLast_L1 x105 i106 x1 n b190 i191 (w64 (i158 + 1)))
)
 (some (b156, i157))

theorem laws_FnReadAsOfLast_L1_ok (w : World) (X : Nat → Prop) (θ : List Loc) (x105 : List Ver) (i106 : Int) (x1 : List Int) (v : (Bool × Int)) : ∀ (n : Nat) (b156 : Bool) (i157 : Int) (i158 : Int), laws_FnReadAsOfLast_L1 x105 i106 x1 n b156 i157 i158 = some v → WL EE ⟨w, X, θ, 91, 1⟩ (subC [1, 1, 1, 1, 1, 1, 1, 1, 0, 1, 4, 4] (bodyC Try.f8)) (fun (e : Exit) (s : St) => (match v with | (b176, i177) => e = .exit 0 ∧ s = ⟨[(3, .one (.e (.sl 1 0 x105.length))), (4, I i106), (10, B b176), (11, I i177)], [.row .u8 x1 false, .row .ver x105 true]⟩ : Prop)) ⟨[(3, .one (.e (.sl 1 0 x105.length))), (4, I i106), (10, B b156), (11, I i157), (12, I i158)], [.row .u8 x1 false, .row .ver x105 true]⟩ := by
  intro n
  induction n with
  | zero => intro _ _ _ h; exact none_e h
  | succ n ih =>
    intro b156 i157 i158 h
    rw [laws_FnReadAsOfLast_L1] at h
    refine WL_round ?_
    refine W_seq ?_
    refine W_seq ?_
    refine W_region ?_
    refine WO_step 4 [0, 1] [3, 4, 10, 11, 12, 62] (True ∧ (True ∧ True)) ⟨[(3, .one (.e (.sl 1 0 x105.length))), (4, I i106), (10, B b156), (11, I i157), (12, I i158), (62, B (decide (i158 < ((x105.length : Nat) : Int))))], [.row .u8 x1 false, .row .ver x105 true]⟩ (by kernel_rfl) ⟨trivial, trivial, trivial⟩ ?_
    refine WO_nil rfl ?_
    refine thenS_n ?_
    refine iteO_e h (fun hb180 h => W_true rfl hb180 ?_) (fun hb180 h => W_false rfl hb180 ?_)
    · refine W_sub [0, 1] [3, 4, 10, 11, 12] (st' := ⟨[(3, .one (.e (.sl 1 0 x105.length))), (4, I i106), (10, B b156), (11, I i157), (12, I i158)], [.row .u8 x1 false, .row .ver x105 true]⟩) (by kernel_rfl) ?_
      refine W_skip ?_
      refine thenS_n ?_
      refine W_seq ?_
      refine W_block ?_
      refine W_seq ?_
      refine W_region ?_
      refine guardO_e h (fun hg187 h => ?_)
      refine WO_step 7 [0, 1] [3, 4, 10, 11, 12, 71] ((0 ≤ i158 ∧ i158 < ((x105.length : Nat) : Int)) ∧ (True ∧ (True ∧ True))) ⟨[(3, .one (.e (.sl 1 0 x105.length))), (4, I i106), (10, B b156), (11, I i157), (12, I i158), (71, B (decide (((x105.getD i158.toNat dver).node) = i106)))], [.row .u8 x1 false, .row .ver x105 true]⟩ (by kernel_rfl) ⟨hg187, trivial, trivial, trivial⟩ ?_
      refine WO_nil rfl ?_
      refine thenS_n ?_
      refine bindO_e h (fun v192 hv192 h => ?_)
      refine W_cut (Q' := fun (e : Exit) (s : St) => (match v192 with | (b190, i191) => e = .normal ∧ s = ⟨[(3, .one (.e (.sl 1 0 x105.length))), (4, I i106), (10, B b190), (11, I i191), (12, I i158)], [.row .u8 x1 false, .row .ver x105 true]⟩ : Prop)) ?_ ?_
      · refine iteO_e hv192 (fun hb193 hv192 => W_true rfl hb193 ?_) (fun hb193 hv192 => W_false rfl hb193 ?_)
        · refine W_seq ?_
          refine W_region ?_
          refine WO_step 1 [0, 1] [3, 4, 10, 12] True ⟨[(3, .one (.e (.sl 1 0 x105.length))), (4, I i106), (10, B true), (12, I i158)], [.row .u8 x1 false, .row .ver x105 true]⟩ (by kernel_rfl) trivial ?_
          refine WO_nil rfl ?_
          refine thenS_n ?_
          refine W_region ?_
          refine guardO_e hv192 (fun hg194 hv192 => ?_)
          refine WO_step 6 [0, 1] [3, 4, 10, 11, 12] ((0 ≤ i158 ∧ i158 < ((x105.length : Nat) : Int)) ∧ (True ∧ True)) ⟨[(3, .one (.e (.sl 1 0 x105.length))), (4, I i106), (10, B true), (11, I ((x105.getD i158.toNat dver).value)), (12, I i158)], [.row .u8 x1 false, .row .ver x105 true]⟩ (by kernel_rfl) ⟨hg194, trivial, trivial⟩ ?_
          refine WO_nil rfl ?_
          cases hv192
          exact And.intro rfl rfl
        · refine W_sub [0, 1] [3, 4, 10, 11, 12] (st' := ⟨[(3, .one (.e (.sl 1 0 x105.length))), (4, I i106), (10, B b156), (11, I i157), (12, I i158)], [.row .u8 x1 false, .row .ver x105 true]⟩) (by kernel_rfl) ?_
          refine W_skip ?_
          cases hv192
          exact And.intro rfl rfl
      · obtain ⟨b190, i191⟩ := v192
        rintro _ _ ⟨rfl, rfl⟩
        refine blockS_n ?_
        refine thenS_n ?_
        refine W_region ?_
        refine WO_step 3 [0, 1] [3, 4, 10, 11, 12] (True ∧ True) ⟨[(3, .one (.e (.sl 1 0 x105.length))), (4, I i106), (10, B b190), (11, I i191), (12, I (w64 (i158 + 1)))], [.row .u8 x1 false, .row .ver x105 true]⟩ (by kernel_rfl) ⟨trivial, trivial⟩ ?_
        refine WO_nil rfl ?_
        refine thenS_n ?_
        exact ih _ _ _ h
    · refine W_sub [0, 1] [3, 4, 10, 11] (st' := ⟨[(3, .one (.e (.sl 1 0 x105.length))), (4, I i106), (10, B b156), (11, I i157)], [.row .u8 x1 false, .row .ver x105 true]⟩) (by kernel_rfl) ?_
      refine W_exit ?_
      refine thenS_e ?_
      refine thenS_e ?_
      cases h
      exact And.intro rfl rfl

def laws_FnReadAsOfLast (n : Nat) (x1 : List Int) : Option (Bool) :=
 iteO (decide (1048576 < ((x1.length : Nat) : Int)))
 (some true)
 (bindO (spec_DrawReadAsOf n x1) fun (x105, i106, i107) =>
 bindO (impl_ReadAsOf n x105 i106 i107) fun (i109, b110) =>
 bindO (spec_ReadAsOf n x105 i106 i107) fun (i112, b113) =>
 bindO (iteO (!decide (i109 = i112))
 (some true)
 (iteO (!(b110 == b113))
 (some true)
 (bindO (impl_ValidVersions n x105) fun b123 =>
 some (!b123)))) fun b119 =>
 iteO b119
 (some ((decide (i109 = i112)) && (b110 == b113)))
 (bindO (laws_FnReadAsOfLast_L1 x105 i106 x1 n false 0 0) fun v195 =>
 match v195 with
 | (b176, i177) => (bindO (impl_ReadAsOf n x105 i106 100) fun (i196, b197) =>
 some ((b197 == b176) && (decide (i196 = i177))))
))

theorem laws_FnReadAsOfLast_ok (n : Nat) (x1 : List Int) (b102 : Bool) (h : laws_FnReadAsOfLast n x1 = some b102) : FOk EE 8 [.one (.e (.sl 0 0 x1.length))] [.row .u8 x1 false] (B b102) [.row .u8 x1 false] := by
  unfold laws_FnReadAsOfLast at h
  refine FOk_of_W 91 1 Try.func8 rfl rfl (Nat.le_of_ble_eq_true rfl) rfl (fun w X θ => ?_)
  refine W_seq ?_
  refine W_region ?_
  refine WO_step 1 [0] [0] True ⟨[(0, .one (.e (.sl 0 0 x1.length)))], [.row .u8 x1 false]⟩ (by kernel_rfl) trivial ?_
  refine WO_nil rfl ?_
  refine thenS_n ?_
  refine W_seq ?_
  refine W_seq ?_
  refine W_region ?_
  refine WO_step 3 [0] [0, 17] (True ∧ (True ∧ True)) ⟨[(0, .one (.e (.sl 0 0 x1.length))), (17, B (decide (1048576 < ((x1.length : Nat) : Int))))], [.row .u8 x1 false]⟩ (by kernel_rfl) ⟨trivial, trivial, trivial⟩ ?_
  refine WO_nil rfl ?_
  refine thenS_n ?_
  refine iteO_e h (fun hb104 h => W_true rfl hb104 ?_) (fun hb104 h => W_false rfl hb104 ?_)
  · refine W_seq ?_
    refine W_region ?_
    refine WO_step 1 [0] [2] True ⟨[(2, B true)], [.row .u8 x1 false]⟩ (by kernel_rfl) trivial ?_
    refine WO_nil rfl ?_
    refine thenS_n ?_
    refine W_ret ?_
    refine thenS_r ?_
    cases h
    exact ⟨[0], True, by kernel_rfl, trivial⟩
  · refine W_sub [0] [0] (st' := ⟨[(0, .one (.e (.sl 0 0 x1.length)))], [.row .u8 x1 false]⟩) (by kernel_rfl) ?_
    refine W_skip ?_
    refine thenS_n ?_
    refine W_seq ?_
    refine W_region ?_
    refine WO_step 1 [0] [19] True ⟨[(19, .one (.e (.sl 0 0 x1.length)))], [.row .u8 x1 false]⟩ (by kernel_rfl) trivial ?_
    refine bindO_e h (fun v205 hc108 h => ?_)
    obtain ⟨x105, i106, i107⟩ := v205
    refine WO_call [.ro 0] Try.f25 rfl rfl rfl (by kernel_rfl) rfl rfl (by kernel_rfl) (spec_DrawReadAsOf_ok n x1 x105 i106 i107 hc108) (And.intro (And.intro rfl rfl) (trivial)) rfl ?_
    refine WO_step 7 [0, 1] [3, 4, 5] True ⟨[(3, .one (.e (.sl 1 0 x105.length))), (4, I i106), (5, I i107)], [.row .u8 x1 false, .row .ver x105 true]⟩ (by kernel_rfl) trivial ?_
    refine WO_nil rfl ?_
    refine thenS_n ?_
    refine W_seq ?_
    refine W_region ?_
    refine WO_step 3 [0, 1] [3, 4, 5, 25, 26, 27] True ⟨[(3, .one (.e (.sl 1 0 x105.length))), (4, I i106), (5, I i107), (25, .one (.e (.sl 1 0 x105.length))), (26, I i106), (27, I i107)], [.row .u8 x1 false, .row .ver x105 true]⟩ (by kernel_rfl) trivial ?_
    refine bindO_e h (fun v204 hc111 h => ?_)
    obtain ⟨i109, b110⟩ := v204
    refine WO_call [.ro 1] Try.f24 rfl rfl rfl (by kernel_rfl) rfl rfl (by kernel_rfl) (impl_ReadAsOf_ok n x105 i106 i107 i109 b110 hc111) (And.intro (And.intro rfl rfl) (trivial)) rfl ?_
    refine WO_step 5 [0, 1] [3, 4, 5, 6, 7] True ⟨[(3, .one (.e (.sl 1 0 x105.length))), (4, I i106), (5, I i107), (6, I i109), (7, B b110)], [.row .u8 x1 false, .row .ver x105 true]⟩ (by kernel_rfl) trivial ?_
    refine WO_nil rfl ?_
    refine thenS_n ?_
    refine W_seq ?_
    refine W_region ?_
    refine WO_step 3 [0, 1] [3, 4, 6, 7, 32, 33, 34] True ⟨[(3, .one (.e (.sl 1 0 x105.length))), (4, I i106), (6, I i109), (7, B b110), (32, .one (.e (.sl 1 0 x105.length))), (33, I i106), (34, I i107)], [.row .u8 x1 false, .row .ver x105 true]⟩ (by kernel_rfl) trivial ?_
    refine bindO_e h (fun v203 hc114 h => ?_)
    obtain ⟨i112, b113⟩ := v203
    refine WO_call [.ro 1] Try.f23 rfl rfl rfl (by kernel_rfl) rfl rfl (by kernel_rfl) (spec_ReadAsOf_ok n x105 i106 i107 i112 b113 hc114) (And.intro (And.intro rfl rfl) (trivial)) rfl ?_
    refine WO_step 5 [0, 1] [3, 4, 6, 7, 8, 9] True ⟨[(3, .one (.e (.sl 1 0 x105.length))), (4, I i106), (6, I i109), (7, B b110), (8, I i112), (9, B b113)], [.row .u8 x1 false, .row .ver x105 true]⟩ (by kernel_rfl) trivial ?_
    refine WO_nil rfl ?_
    refine thenS_n ?_
    refine W_seq ?_
    refine W_seq ?_
    refine W_region ?_
    refine WO_step 4 [0, 1] [3, 4, 6, 7, 8, 9, 41] (True ∧ True) ⟨[(3, .one (.e (.sl 1 0 x105.length))), (4, I i106), (6, I i109), (7, B b110), (8, I i112), (9, B b113), (41, B (!decide (i109 = i112)))], [.row .u8 x1 false, .row .ver x105 true]⟩ (by kernel_rfl) ⟨trivial, trivial⟩ ?_
    refine bindO_e h (fun b119 hv120 h => ?_)
    refine WO_thru ⟨[(3, .one (.e (.sl 1 0 x105.length))), (4, I i106), (6, I i109), (7, B b110), (8, I i112), (9, B b113), (50, B b119)], [.row .u8 x1 false, .row .ver x105 true]⟩ ?_ ?_
    · refine iteO_e hv120 (fun hb121 hv120 => WO_known 41 true rfl hb121 ?_) (fun hb121 hv120 => WO_known 41 false rfl hb121 ?_)
      · refine WO_step 9 [0, 1] [3, 4, 6, 7, 8, 9, 50] True ⟨[(3, .one (.e (.sl 1 0 x105.length))), (4, I i106), (6, I i109), (7, B b110), (8, I i112), (9, B b113), (50, B true)], [.row .u8 x1 false, .row .ver x105 true]⟩ (by kernel_rfl) trivial ?_
        cases hv120
        exact WO_nil rfl ⟨rfl, rfl⟩
      · refine WO_step 5 [0, 1] [3, 4, 6, 7, 8, 9, 46] (True ∧ True) ⟨[(3, .one (.e (.sl 1 0 x105.length))), (4, I i106), (6, I i109), (7, B b110), (8, I i112), (9, B b113), (46, B (!(b110 == b113)))], [.row .u8 x1 false, .row .ver x105 true]⟩ (by kernel_rfl) ⟨trivial, trivial⟩ ?_
        refine iteO_e hv120 (fun hb122 hv120 => WO_known 46 true rfl hb122 ?_) (fun hb122 hv120 => WO_known 46 false rfl hb122 ?_)
        · refine WO_step 4 [0, 1] [3, 4, 6, 7, 8, 9, 50] True ⟨[(3, .one (.e (.sl 1 0 x105.length))), (4, I i106), (6, I i109), (7, B b110), (8, I i112), (9, B b113), (50, B true)], [.row .u8 x1 false, .row .ver x105 true]⟩ (by kernel_rfl) trivial ?_
          cases hv120
          exact WO_nil rfl ⟨rfl, rfl⟩
        · refine WO_step 1 [0, 1] [3, 4, 6, 7, 8, 9, 46, 47] True ⟨[(3, .one (.e (.sl 1 0 x105.length))), (4, I i106), (6, I i109), (7, B b110), (8, I i112), (9, B b113), (46, B false), (47, .one (.e (.sl 1 0 x105.length)))], [.row .u8 x1 false, .row .ver x105 true]⟩ (by kernel_rfl) trivial ?_
          refine bindO_e hv120 (fun b123 hc124 hv120 => ?_)
          refine WO_call [.ro 1] Try.f20 rfl rfl rfl (by kernel_rfl) rfl rfl (by kernel_rfl) (impl_ValidVersions_ok n x105 b123 hc124) (And.intro (And.intro rfl rfl) (trivial)) rfl ?_
          refine WO_step 2 [0, 1] [3, 4, 6, 7, 8, 9, 50] True ⟨[(3, .one (.e (.sl 1 0 x105.length))), (4, I i106), (6, I i109), (7, B b110), (8, I i112), (9, B b113), (50, B (!b123))], [.row .u8 x1 false, .row .ver x105 true]⟩ (by kernel_rfl) trivial ?_
          cases hv120
          exact WO_nil rfl ⟨rfl, rfl⟩
    · refine thenS_n ?_
      refine iteO_e h (fun hb129 h => W_true rfl hb129 ?_) (fun hb129 h => W_false rfl hb129 ?_)
      · refine W_seq ?_
        refine W_region ?_
        refine WO_step 4 [0] [7, 9, 54] (True ∧ True) ⟨[(7, B b110), (9, B b113), (54, B (decide (i109 = i112)))], [.row .u8 x1 false]⟩ (by kernel_rfl) ⟨trivial, trivial⟩ ?_
        refine WO_thru ⟨[(2, B ((decide (i109 = i112)) && (b110 == b113)))], [.row .u8 x1 false]⟩ ?_ ?_
        · refine WO_if 54 rfl (fun hb132 => ?_) (fun hb132 => ?_)
          · refine WO_step 5 [0] [2] (True ∧ True) ⟨[(2, B (b110 == b113))], [.row .u8 x1 false]⟩ (by kernel_rfl) ⟨trivial, trivial⟩ ?_
            exact WO_nil rfl ⟨rfl, by first | rfl | (rw [hb132]; first | done | rfl)⟩
          · refine WO_step 5 [0] [2] True ⟨[(2, B false)], [.row .u8 x1 false]⟩ (by kernel_rfl) trivial ?_
            exact WO_nil rfl ⟨rfl, by first | rfl | (rw [hb132]; first | done | rfl)⟩
        · refine thenS_n ?_
          refine W_ret ?_
          refine thenS_r ?_
          cases h
          exact ⟨[0], True, by kernel_rfl, trivial⟩
      · refine W_sub [0, 1] [3, 4] (st' := ⟨[(3, .one (.e (.sl 1 0 x105.length))), (4, I i106)], [.row .u8 x1 false, .row .ver x105 true]⟩) (by kernel_rfl) ?_
        refine W_skip ?_
        refine thenS_n ?_
        refine W_seq ?_
        refine W_region ?_
        refine WO_step 1 [0, 1] [3, 4, 10] True ⟨[(3, .one (.e (.sl 1 0 x105.length))), (4, I i106), (10, B false)], [.row .u8 x1 false, .row .ver x105 true]⟩ (by kernel_rfl) trivial ?_
        refine WO_nil rfl ?_
        refine thenS_n ?_
        refine W_seq ?_
        refine W_region ?_
        refine WO_step 1 [0, 1] [3, 4, 10, 11] True ⟨[(3, .one (.e (.sl 1 0 x105.length))), (4, I i106), (10, B false), (11, I 0)], [.row .u8 x1 false, .row .ver x105 true]⟩ (by kernel_rfl) trivial ?_
        refine WO_nil rfl ?_
        refine thenS_n ?_
        refine W_seq ?_
        refine W_seq ?_
        refine W_region ?_
        refine WO_step 1 [0, 1] [3, 4, 10, 11, 12] True ⟨[(3, .one (.e (.sl 1 0 x105.length))), (4, I i106), (10, B false), (11, I 0), (12, I 0)], [.row .u8 x1 false, .row .ver x105 true]⟩ (by kernel_rfl) trivial ?_
        refine WO_nil rfl ?_
        refine thenS_n ?_
        refine W_block ?_
        refine W_loop ?_
        refine bindO_e h (fun v195 hv195 h => ?_)
        refine WL_cut (laws_FnReadAsOfLast_L1_ok w X θ x105 i106 x1 v195 n false 0 0 hv195) ?_
        obtain ⟨b176, i177⟩ := v195
        rintro _ _ ⟨rfl, rfl⟩
        refine blockS_y ?_
        refine thenS_n ?_
        refine W_seq ?_
        refine W_region ?_
        refine WO_step 2 [0, 1] [10, 11, 78, 79] True ⟨[(10, B b176), (11, I i177), (78, .one (.e (.sl 1 0 x105.length))), (79, I i106)], [.row .u8 x1 false, .row .ver x105 true]⟩ (by kernel_rfl) trivial ?_
        refine bindO_e h (fun v202 hc198 h => ?_)
        obtain ⟨i196, b197⟩ := v202
        refine WO_call [.ro 1] Try.f24 rfl rfl rfl (by kernel_rfl) rfl rfl (by kernel_rfl) (impl_ReadAsOf_ok n x105 i106 100 i196 b197 hc198) (And.intro (And.intro rfl rfl) (trivial)) rfl ?_
        refine WO_step 5 [0] [10, 11, 13, 14] True ⟨[(10, B b176), (11, I i177), (13, I i196), (14, B b197)], [.row .u8 x1 false]⟩ (by kernel_rfl) trivial ?_
        refine WO_nil rfl ?_
        refine thenS_n ?_
        refine W_seq ?_
        refine W_region ?_
        refine WO_step 4 [0] [11, 13, 86] (True ∧ True) ⟨[(11, I i177), (13, I i196), (86, B (b197 == b176))], [.row .u8 x1 false]⟩ (by kernel_rfl) ⟨trivial, trivial⟩ ?_
        refine WO_thru ⟨[(2, B ((b197 == b176) && (decide (i196 = i177))))], [.row .u8 x1 false]⟩ ?_ ?_
        · refine WO_if 86 rfl (fun hb201 => ?_) (fun hb201 => ?_)
          · refine WO_step 5 [0] [2] (True ∧ True) ⟨[(2, B (decide (i196 = i177)))], [.row .u8 x1 false]⟩ (by kernel_rfl) ⟨trivial, trivial⟩ ?_
            exact WO_nil rfl ⟨rfl, by first | rfl | (rw [hb201]; first | done | rfl)⟩
          · refine WO_step 5 [0] [2] True ⟨[(2, B false)], [.row .u8 x1 false]⟩ (by kernel_rfl) trivial ?_
            exact WO_nil rfl ⟨rfl, by first | rfl | (rw [hb201]; first | done | rfl)⟩
        · refine thenS_n ?_
          refine W_ret ?_
          cases h
          exact ⟨[0], True, by kernel_rfl, trivial⟩

/- laws.FnReadAsOfStay -/
def laws_FnReadAsOfStay_L1 (x111 : List Ver) (i112 : Int) (i113 : Int) (i115 : Int) (b116 : Bool) (x1 : List Int) : Nat → Int → Option ((Unit) ⊕ (Unit))
| 0, _ => none
| n + 1, i162 =>
 iteO (decide (i162 < ((x111.length : Nat) : Int)))
 (guardO (0 ≤ i162 ∧ i162 < ((x111.length : Nat) : Int)) <|
 bindO (iteO (decide (((x111.getD i162.toNat dver).node) = i112))
 (guardO (0 ≤ i162 ∧ i162 < ((x111.length : Nat) : Int)) <|
 some (decide (((x111.getD i162.toNat dver).tm) = i113)))
 (some false)) fun b199 =>
 iteO b199
 (some (.inl ()))
 (laws_FnReadAsOfStay_L1 x111 i112 i113 i115 b116 x1 n (w64 (i162 + 1))))
 (some (.inr ()))

theorem laws_FnReadAsOfStay_L1_ok (w : World) (X : Nat → Prop) (θ : List Loc) (x111 : List Ver) (i112 : Int) (i113 : Int) (i115 : Int) (b116 : Bool) (x1 : List Int) (v : (Unit) ⊕ (Unit)) : ∀ (n : Nat) (i162 : Int), laws_FnReadAsOfStay_L1 x111 i112 i113 i115 b116 x1 n i162 = some v → WL EE ⟨w, X, θ, 96, 1⟩ (subC [1, 1, 1, 1, 1, 1, 0, 1, 4, 4] (bodyC Try.f9)) (fun (e : Exit) (s : St) => (match v with | (.inl _) => e = .ret ∧ s = ⟨[(2, B b116)], [.row .u8 x1 false]⟩ | (.inr _) => e = .exit 0 ∧ s = ⟨[(3, .one (.e (.sl 1 0 x111.length))), (4, I i112), (5, I i113), (6, I i115), (7, B b116)], [.row .u8 x1 false, .row .ver x111 true]⟩ : Prop)) ⟨[(3, .one (.e (.sl 1 0 x111.length))), (4, I i112), (5, I i113), (6, I i115), (7, B b116), (10, I i162)], [.row .u8 x1 false, .row .ver x111 true]⟩ := by
  intro n
  induction n with
  | zero => intro _ h; exact none_e h
  | succ n ih =>
    intro i162 h
    rw [laws_FnReadAsOfStay_L1] at h
    refine WL_round ?_
    refine W_seq ?_
    refine W_seq ?_
    refine W_region ?_
    refine WO_step 4 [0, 1] [3, 4, 5, 6, 7, 10, 60] (True ∧ (True ∧ True)) ⟨[(3, .one (.e (.sl 1 0 x111.length))), (4, I i112), (5, I i113), (6, I i115), (7, B b116), (10, I i162), (60, B (decide (i162 < ((x111.length : Nat) : Int))))], [.row .u8 x1 false, .row .ver x111 true]⟩ (by kernel_rfl) ⟨trivial, trivial, trivial⟩ ?_
    refine WO_nil rfl ?_
    refine thenS_n ?_
    refine iteO_e h (fun hb186 h => W_true rfl hb186 ?_) (fun hb186 h => W_false rfl hb186 ?_)
    · refine W_sub [0, 1] [3, 4, 5, 6, 7, 10] (st' := ⟨[(3, .one (.e (.sl 1 0 x111.length))), (4, I i112), (5, I i113), (6, I i115), (7, B b116), (10, I i162)], [.row .u8 x1 false, .row .ver x111 true]⟩) (by kernel_rfl) ?_
      refine W_skip ?_
      refine thenS_n ?_
      refine W_seq ?_
      refine W_block ?_
      refine W_seq ?_
      refine W_region ?_
      refine guardO_e h (fun hg196 h => ?_)
      refine WO_step 8 [0, 1] [3, 4, 5, 6, 7, 10, 70] ((0 ≤ i162 ∧ i162 < ((x111.length : Nat) : Int)) ∧ (True ∧ (True ∧ True))) ⟨[(3, .one (.e (.sl 1 0 x111.length))), (4, I i112), (5, I i113), (6, I i115), (7, B b116), (10, I i162), (70, B (decide (((x111.getD i162.toNat dver).node) = i112)))], [.row .u8 x1 false, .row .ver x111 true]⟩ (by kernel_rfl) ⟨hg196, trivial, trivial, trivial⟩ ?_
      refine bindO_e h (fun b199 hv200 h => ?_)
      refine WO_thru ⟨[(3, .one (.e (.sl 1 0 x111.length))), (4, I i112), (5, I i113), (6, I i115), (7, B b116), (10, I i162), (78, B b199)], [.row .u8 x1 false, .row .ver x111 true]⟩ ?_ ?_
      · refine iteO_e hv200 (fun hb201 hv200 => WO_known 70 true rfl hb201 ?_) (fun hb201 hv200 => WO_known 70 false rfl hb201 ?_)
        · refine guardO_e hv200 (fun hg202 hv200 => ?_)
          refine WO_step 8 [0, 1] [3, 4, 5, 6, 7, 10, 78] ((0 ≤ i162 ∧ i162 < ((x111.length : Nat) : Int)) ∧ (True ∧ (True ∧ True))) ⟨[(3, .one (.e (.sl 1 0 x111.length))), (4, I i112), (5, I i113), (6, I i115), (7, B b116), (10, I i162), (78, B (decide (((x111.getD i162.toNat dver).tm) = i113)))], [.row .u8 x1 false, .row .ver x111 true]⟩ (by kernel_rfl) ⟨hg202, trivial, trivial, trivial⟩ ?_
          cases hv200
          exact WO_nil rfl ⟨rfl, rfl⟩
        · refine WO_step 8 [0, 1] [3, 4, 5, 6, 7, 10, 78] True ⟨[(3, .one (.e (.sl 1 0 x111.length))), (4, I i112), (5, I i113), (6, I i115), (7, B b116), (10, I i162), (78, B false)], [.row .u8 x1 false, .row .ver x111 true]⟩ (by kernel_rfl) trivial ?_
          cases hv200
          exact WO_nil rfl ⟨rfl, rfl⟩
      · refine thenS_n ?_
        refine iteO_e h (fun hb204 h => W_true rfl hb204 ?_) (fun hb204 h => W_false rfl hb204 ?_)
        · refine W_seq ?_
          refine W_region ?_
          refine WO_step 2 [0] [2] True ⟨[(2, B b116)], [.row .u8 x1 false]⟩ (by kernel_rfl) trivial ?_
          refine WO_nil rfl ?_
          refine thenS_n ?_
          refine W_ret ?_
          refine blockS_r ?_
          refine thenS_r ?_
          refine thenS_r ?_
          cases h
          exact And.intro rfl rfl
        · refine W_sub [0, 1] [3, 4, 5, 6, 7, 10] (st' := ⟨[(3, .one (.e (.sl 1 0 x111.length))), (4, I i112), (5, I i113), (6, I i115), (7, B b116), (10, I i162)], [.row .u8 x1 false, .row .ver x111 true]⟩) (by kernel_rfl) ?_
          refine W_skip ?_
          refine blockS_n ?_
          refine thenS_n ?_
          refine W_region ?_
          refine WO_step 3 [0, 1] [3, 4, 5, 6, 7, 10] (True ∧ True) ⟨[(3, .one (.e (.sl 1 0 x111.length))), (4, I i112), (5, I i113), (6, I i115), (7, B b116), (10, I (w64 (i162 + 1)))], [.row .u8 x1 false, .row .ver x111 true]⟩ (by kernel_rfl) ⟨trivial, trivial⟩ ?_
          refine WO_nil rfl ?_
          refine thenS_n ?_
          exact ih _ h
    · refine W_sub [0, 1] [3, 4, 5, 6, 7] (st' := ⟨[(3, .one (.e (.sl 1 0 x111.length))), (4, I i112), (5, I i113), (6, I i115), (7, B b116)], [.row .u8 x1 false, .row .ver x111 true]⟩) (by kernel_rfl) ?_
      refine W_exit ?_
      refine thenS_e ?_
      refine thenS_e ?_
      cases h
      exact And.intro rfl rfl

def laws_FnReadAsOfStay (n : Nat) (x1 : List Int) : Option (Bool) :=
 iteO (decide (1048576 < ((x1.length : Nat) : Int)))
 (some true)
 (bindO (spec_DrawReadAsOf n x1) fun (x111, i112, i113) =>
 bindO (impl_ReadAsOf n x111 i112 i113) fun (i115, b116) =>
 bindO (spec_ReadAsOf n x111 i112 i113) fun (i118, b119) =>
 bindO (iteO (!decide (i115 = i118))
 (some true)
 (iteO (!(b116 == b119))
 (some true)
 (bindO (impl_ValidVersions n x111) fun b129 =>
 some (!b129)))) fun b125 =>
 iteO b125
 (some ((decide (i115 = i118)) && (b116 == b119)))
 (bindO (laws_FnReadAsOfStay_L1 x111 i112 i113 i115 b116 x1 n 0) fun v205 =>
 match v205 with
 | (.inl _) => (some b116)
 | (.inr _) => (bindO (impl_ReadAsOf n x111 i112 (w64 (i113 - 1))) fun (i206, b207) =>
 some ((b207 == b116) && (decide (i206 = i115))))
))

theorem laws_FnReadAsOfStay_ok (n : Nat) (x1 : List Int) (b108 : Bool) (h : laws_FnReadAsOfStay n x1 = some b108) : FOk EE 9 [.one (.e (.sl 0 0 x1.length))] [.row .u8 x1 false] (B b108) [.row .u8 x1 false] := by
  unfold laws_FnReadAsOfStay at h
  refine FOk_of_W 96 1 Try.func9 rfl rfl (Nat.le_of_ble_eq_true rfl) rfl (fun w X θ => ?_)
  refine W_seq ?_
  refine W_region ?_
  refine WO_step 1 [0] [0] True ⟨[(0, .one (.e (.sl 0 0 x1.length)))], [.row .u8 x1 false]⟩ (by kernel_rfl) trivial ?_
  refine WO_nil rfl ?_
  refine thenS_n ?_
  refine W_seq ?_
  refine W_seq ?_
  refine W_region ?_
  refine WO_step 3 [0] [0, 15] (True ∧ (True ∧ True)) ⟨[(0, .one (.e (.sl 0 0 x1.length))), (15, B (decide (1048576 < ((x1.length : Nat) : Int))))], [.row .u8 x1 false]⟩ (by kernel_rfl) ⟨trivial, trivial, trivial⟩ ?_
  refine WO_nil rfl ?_
  refine thenS_n ?_
  refine iteO_e h (fun hb110 h => W_true rfl hb110 ?_) (fun hb110 h => W_false rfl hb110 ?_)
  · refine W_seq ?_
    refine W_region ?_
    refine WO_step 1 [0] [2] True ⟨[(2, B true)], [.row .u8 x1 false]⟩ (by kernel_rfl) trivial ?_
    refine WO_nil rfl ?_
    refine thenS_n ?_
    refine W_ret ?_
    refine thenS_r ?_
    cases h
    exact ⟨[0], True, by kernel_rfl, trivial⟩
  · refine W_sub [0] [0] (st' := ⟨[(0, .one (.e (.sl 0 0 x1.length)))], [.row .u8 x1 false]⟩) (by kernel_rfl) ?_
    refine W_skip ?_
    refine thenS_n ?_
    refine W_seq ?_
    refine W_region ?_
    refine WO_step 1 [0] [17] True ⟨[(17, .one (.e (.sl 0 0 x1.length)))], [.row .u8 x1 false]⟩ (by kernel_rfl) trivial ?_
    refine bindO_e h (fun v215 hc114 h => ?_)
    obtain ⟨x111, i112, i113⟩ := v215
    refine WO_call [.ro 0] Try.f25 rfl rfl rfl (by kernel_rfl) rfl rfl (by kernel_rfl) (spec_DrawReadAsOf_ok n x1 x111 i112 i113 hc114) (And.intro (And.intro rfl rfl) (trivial)) rfl ?_
    refine WO_step 7 [0, 1] [3, 4, 5] True ⟨[(3, .one (.e (.sl 1 0 x111.length))), (4, I i112), (5, I i113)], [.row .u8 x1 false, .row .ver x111 true]⟩ (by kernel_rfl) trivial ?_
    refine WO_nil rfl ?_
    refine thenS_n ?_
    refine W_seq ?_
    refine W_region ?_
    refine WO_step 3 [0, 1] [3, 4, 5, 23, 24, 25] True ⟨[(3, .one (.e (.sl 1 0 x111.length))), (4, I i112), (5, I i113), (23, .one (.e (.sl 1 0 x111.length))), (24, I i112), (25, I i113)], [.row .u8 x1 false, .row .ver x111 true]⟩ (by kernel_rfl) trivial ?_
    refine bindO_e h (fun v214 hc117 h => ?_)
    obtain ⟨i115, b116⟩ := v214
    refine WO_call [.ro 1] Try.f24 rfl rfl rfl (by kernel_rfl) rfl rfl (by kernel_rfl) (impl_ReadAsOf_ok n x111 i112 i113 i115 b116 hc117) (And.intro (And.intro rfl rfl) (trivial)) rfl ?_
    refine WO_step 5 [0, 1] [3, 4, 5, 6, 7] True ⟨[(3, .one (.e (.sl 1 0 x111.length))), (4, I i112), (5, I i113), (6, I i115), (7, B b116)], [.row .u8 x1 false, .row .ver x111 true]⟩ (by kernel_rfl) trivial ?_
    refine WO_nil rfl ?_
    refine thenS_n ?_
    refine W_seq ?_
    refine W_region ?_
    refine WO_step 3 [0, 1] [3, 4, 5, 6, 7, 30, 31, 32] True ⟨[(3, .one (.e (.sl 1 0 x111.length))), (4, I i112), (5, I i113), (6, I i115), (7, B b116), (30, .one (.e (.sl 1 0 x111.length))), (31, I i112), (32, I i113)], [.row .u8 x1 false, .row .ver x111 true]⟩ (by kernel_rfl) trivial ?_
    refine bindO_e h (fun v213 hc120 h => ?_)
    obtain ⟨i118, b119⟩ := v213
    refine WO_call [.ro 1] Try.f23 rfl rfl rfl (by kernel_rfl) rfl rfl (by kernel_rfl) (spec_ReadAsOf_ok n x111 i112 i113 i118 b119 hc120) (And.intro (And.intro rfl rfl) (trivial)) rfl ?_
    refine WO_step 5 [0, 1] [3, 4, 5, 6, 7, 8, 9] True ⟨[(3, .one (.e (.sl 1 0 x111.length))), (4, I i112), (5, I i113), (6, I i115), (7, B b116), (8, I i118), (9, B b119)], [.row .u8 x1 false, .row .ver x111 true]⟩ (by kernel_rfl) trivial ?_
    refine WO_nil rfl ?_
    refine thenS_n ?_
    refine W_seq ?_
    refine W_seq ?_
    refine W_region ?_
    refine WO_step 4 [0, 1] [3, 4, 5, 6, 7, 8, 9, 39] (True ∧ True) ⟨[(3, .one (.e (.sl 1 0 x111.length))), (4, I i112), (5, I i113), (6, I i115), (7, B b116), (8, I i118), (9, B b119), (39, B (!decide (i115 = i118)))], [.row .u8 x1 false, .row .ver x111 true]⟩ (by kernel_rfl) ⟨trivial, trivial⟩ ?_
    refine bindO_e h (fun b125 hv126 h => ?_)
    refine WO_thru ⟨[(3, .one (.e (.sl 1 0 x111.length))), (4, I i112), (5, I i113), (6, I i115), (7, B b116), (8, I i118), (9, B b119), (48, B b125)], [.row .u8 x1 false, .row .ver x111 true]⟩ ?_ ?_
    · refine iteO_e hv126 (fun hb127 hv126 => WO_known 39 true rfl hb127 ?_) (fun hb127 hv126 => WO_known 39 false rfl hb127 ?_)
      · refine WO_step 9 [0, 1] [3, 4, 5, 6, 7, 8, 9, 48] True ⟨[(3, .one (.e (.sl 1 0 x111.length))), (4, I i112), (5, I i113), (6, I i115), (7, B b116), (8, I i118), (9, B b119), (48, B true)], [.row .u8 x1 false, .row .ver x111 true]⟩ (by kernel_rfl) trivial ?_
        cases hv126
        exact WO_nil rfl ⟨rfl, rfl⟩
      · refine WO_step 5 [0, 1] [3, 4, 5, 6, 7, 8, 9, 44] (True ∧ True) ⟨[(3, .one (.e (.sl 1 0 x111.length))), (4, I i112), (5, I i113), (6, I i115), (7, B b116), (8, I i118), (9, B b119), (44, B (!(b116 == b119)))], [.row .u8 x1 false, .row .ver x111 true]⟩ (by kernel_rfl) ⟨trivial, trivial⟩ ?_
        refine iteO_e hv126 (fun hb128 hv126 => WO_known 44 true rfl hb128 ?_) (fun hb128 hv126 => WO_known 44 false rfl hb128 ?_)
        · refine WO_step 4 [0, 1] [3, 4, 5, 6, 7, 8, 9, 48] True ⟨[(3, .one (.e (.sl 1 0 x111.length))), (4, I i112), (5, I i113), (6, I i115), (7, B b116), (8, I i118), (9, B b119), (48, B true)], [.row .u8 x1 false, .row .ver x111 true]⟩ (by kernel_rfl) trivial ?_
          cases hv126
          exact WO_nil rfl ⟨rfl, rfl⟩
        · refine WO_step 1 [0, 1] [3, 4, 5, 6, 7, 8, 9, 44, 45] True ⟨[(3, .one (.e (.sl 1 0 x111.length))), (4, I i112), (5, I i113), (6, I i115), (7, B b116), (8, I i118), (9, B b119), (44, B false), (45, .one (.e (.sl 1 0 x111.length)))], [.row .u8 x1 false, .row .ver x111 true]⟩ (by kernel_rfl) trivial ?_
          refine bindO_e hv126 (fun b129 hc130 hv126 => ?_)
          refine WO_call [.ro 1] Try.f20 rfl rfl rfl (by kernel_rfl) rfl rfl (by kernel_rfl) (impl_ValidVersions_ok n x111 b129 hc130) (And.intro (And.intro rfl rfl) (trivial)) rfl ?_
          refine WO_step 2 [0, 1] [3, 4, 5, 6, 7, 8, 9, 48] True ⟨[(3, .one (.e (.sl 1 0 x111.length))), (4, I i112), (5, I i113), (6, I i115), (7, B b116), (8, I i118), (9, B b119), (48, B (!b129))], [.row .u8 x1 false, .row .ver x111 true]⟩ (by kernel_rfl) trivial ?_
          cases hv126
          exact WO_nil rfl ⟨rfl, rfl⟩
    · refine thenS_n ?_
      refine iteO_e h (fun hb135 h => W_true rfl hb135 ?_) (fun hb135 h => W_false rfl hb135 ?_)
      · refine W_seq ?_
        refine W_region ?_
        refine WO_step 4 [0] [7, 9, 52] (True ∧ True) ⟨[(7, B b116), (9, B b119), (52, B (decide (i115 = i118)))], [.row .u8 x1 false]⟩ (by kernel_rfl) ⟨trivial, trivial⟩ ?_
        refine WO_thru ⟨[(2, B ((decide (i115 = i118)) && (b116 == b119)))], [.row .u8 x1 false]⟩ ?_ ?_
        · refine WO_if 52 rfl (fun hb138 => ?_) (fun hb138 => ?_)
          · refine WO_step 5 [0] [2] (True ∧ True) ⟨[(2, B (b116 == b119))], [.row .u8 x1 false]⟩ (by kernel_rfl) ⟨trivial, trivial⟩ ?_
            exact WO_nil rfl ⟨rfl, by first | rfl | (rw [hb138]; first | done | rfl)⟩
          · refine WO_step 5 [0] [2] True ⟨[(2, B false)], [.row .u8 x1 false]⟩ (by kernel_rfl) trivial ?_
            exact WO_nil rfl ⟨rfl, by first | rfl | (rw [hb138]; first | done | rfl)⟩
        · refine thenS_n ?_
          refine W_ret ?_
          refine thenS_r ?_
          cases h
          exact ⟨[0], True, by kernel_rfl, trivial⟩
      · refine W_sub [0, 1] [3, 4, 5, 6, 7] (st' := ⟨[(3, .one (.e (.sl 1 0 x111.length))), (4, I i112), (5, I i113), (6, I i115), (7, B b116)], [.row .u8 x1 false, .row .ver x111 true]⟩) (by kernel_rfl) ?_
        refine W_skip ?_
        refine thenS_n ?_
        refine W_seq ?_
        refine W_seq ?_
        refine W_region ?_
        refine WO_step 1 [0, 1] [3, 4, 5, 6, 7, 10] True ⟨[(3, .one (.e (.sl 1 0 x111.length))), (4, I i112), (5, I i113), (6, I i115), (7, B b116), (10, I 0)], [.row .u8 x1 false, .row .ver x111 true]⟩ (by kernel_rfl) trivial ?_
        refine WO_nil rfl ?_
        refine thenS_n ?_
        refine W_block ?_
        refine W_loop ?_
        refine bindO_e h (fun v205 hv205 h => ?_)
        refine WL_cut (laws_FnReadAsOfStay_L1_ok w X θ x111 i112 i113 i115 b116 x1 v205 n 0 hv205) ?_
        rcases v205 with _ | _
        · rintro _ _ ⟨rfl, rfl⟩
          refine blockS_r ?_
          refine thenS_r ?_
          cases h
          exact ⟨[0], True, by kernel_rfl, trivial⟩
        · rintro _ _ ⟨rfl, rfl⟩
          refine blockS_y ?_
          refine thenS_n ?_
          refine W_seq ?_
          refine W_region ?_
          refine WO_step 4 [0, 1] [6, 7, 81, 82, 84] (True ∧ True) ⟨[(6, I i115), (7, B b116), (81, .one (.e (.sl 1 0 x111.length))), (82, I i112), (84, I (w64 (i113 - 1)))], [.row .u8 x1 false, .row .ver x111 true]⟩ (by kernel_rfl) ⟨trivial, trivial⟩ ?_
          refine bindO_e h (fun v212 hc208 h => ?_)
          obtain ⟨i206, b207⟩ := v212
          refine WO_call [.ro 1] Try.f24 rfl rfl rfl (by kernel_rfl) rfl rfl (by kernel_rfl) (impl_ReadAsOf_ok n x111 i112 (w64 (i113 - 1)) i206 b207 hc208) (And.intro (And.intro rfl rfl) (trivial)) rfl ?_
          refine WO_step 5 [0] [6, 7, 11, 12] True ⟨[(6, I i115), (7, B b116), (11, I i206), (12, B b207)], [.row .u8 x1 false]⟩ (by kernel_rfl) trivial ?_
          refine WO_nil rfl ?_
          refine thenS_n ?_
          refine W_seq ?_
          refine W_region ?_
          refine WO_step 4 [0] [6, 11, 91] (True ∧ True) ⟨[(6, I i115), (11, I i206), (91, B (b207 == b116))], [.row .u8 x1 false]⟩ (by kernel_rfl) ⟨trivial, trivial⟩ ?_
          refine WO_thru ⟨[(2, B ((b207 == b116) && (decide (i206 = i115))))], [.row .u8 x1 false]⟩ ?_ ?_
          · refine WO_if 91 rfl (fun hb211 => ?_) (fun hb211 => ?_)
            · refine WO_step 5 [0] [2] (True ∧ True) ⟨[(2, B (decide (i206 = i115)))], [.row .u8 x1 false]⟩ (by kernel_rfl) ⟨trivial, trivial⟩ ?_
              exact WO_nil rfl ⟨rfl, by first | rfl | (rw [hb211]; first | done | rfl)⟩
            · refine WO_step 5 [0] [2] True ⟨[(2, B false)], [.row .u8 x1 false]⟩ (by kernel_rfl) trivial ?_
              exact WO_nil rfl ⟨rfl, by first | rfl | (rw [hb211]; first | done | rfl)⟩
          · refine thenS_n ?_
            refine W_ret ?_
            cases h
            exact ⟨[0], True, by kernel_rfl, trivial⟩

end Go.Proofs.Ytnaogmahijgibaa

import Derived.Test.YtdkmgkeaebcobaaTT1
namespace Go.Proofs.Ytdkmgkeaebcobaa
open Go
set_option linter.unusedVariables false
/- spec.LosersOf -/
def spec_LosersOf_L2 (x2 : List Rcd) (x752 : List Int) (i753 : Int) (x1 : List Nod) : Nat → Bool → Int → Option (Bool)
| 0, _, _ => none
| n + 1, b1054, i1055 =>
 iteO (decide (i1055 < ((x2.length : Nat) : Int)))
 (bindO (iteO b1054
 (some true)
 (guardO (0 ≤ i1055 ∧ i1055 < ((x2.length : Nat) : Int)) <|
 iteO (decide (((x2.getD i1055.toNat drcd).who) = i753))
 (guardO (0 ≤ i1055 ∧ i1055 < ((x2.length : Nat) : Int)) <|
 iteO (!(x2.getD i1055.toNat drcd).fin)
 (bindO (spec_ended n x2 (w64 (i1055 + 1)) i753) fun b1126 =>
 some (!b1126))
 (some false))
 (some false))) fun b1119 =>
 spec_LosersOf_L2 x2 x752 i753 x1 n b1119 (w64 (i1055 + 1)))
 (some b1054)

theorem spec_LosersOf_L2_ok (w : World) (X : Nat → Prop) (θ : List Loc) (x2 : List Rcd) (x752 : List Int) (i753 : Int) (x1 : List Nod) (b1092 : Bool) : ∀ (n : Nat) (b1054 : Bool) (i1055 : Int), spec_LosersOf_L2 x2 x752 i753 x1 n b1054 i1055 = some b1092 → WL EE ⟨w, X, θ, 61, 2⟩ (subC [1, 1, 1, 0, 1, 4, 4, 1, 0, 4, 1, 0, 1, 4, 4] (bodyC Try.f15)) (fun (e : Exit) (s : St) => e = .exit 2 ∧ s = ⟨[(1, .one (.e (.sl 1 0 x2.length))), (5, .one (.e (.sl 2 0 x752.length))), (6, I i753), (7, B b1092)], [.row .nod x1 false, .row .rcd x2 false, .row .int x752 true]⟩) ⟨[(1, .one (.e (.sl 1 0 x2.length))), (5, .one (.e (.sl 2 0 x752.length))), (6, I i753), (7, B b1054), (8, I i1055)], [.row .nod x1 false, .row .rcd x2 false, .row .int x752 true]⟩ := by
  intro n
  induction n with
  | zero => intro _ _ h; exact none_e h
  | succ n ih =>
    intro b1054 i1055 h
    rw [spec_LosersOf_L2] at h
    refine WL_round ?_
    refine W_seq ?_
    refine W_seq ?_
    refine W_region ?_
    refine WO_step 4 [0, 1, 2] [1, 5, 6, 7, 8, 26] (True ∧ (True ∧ True)) ⟨[(1, .one (.e (.sl 1 0 x2.length))), (5, .one (.e (.sl 2 0 x752.length))), (6, I i753), (7, B b1054), (8, I i1055), (26, B (decide (i1055 < ((x2.length : Nat) : Int))))], [.row .nod x1 false, .row .rcd x2 false, .row .int x752 true]⟩ (by kernel_rfl) ⟨trivial, trivial, trivial⟩ ?_
    refine WO_nil rfl ?_
    refine thenS_n ?_
    refine iteO_e h (fun hb1095 h => W_true rfl hb1095 ?_) (fun hb1095 h => W_false rfl hb1095 ?_)
    · refine W_sub [0, 1, 2] [1, 5, 6, 7, 8] (st' := ⟨[(1, .one (.e (.sl 1 0 x2.length))), (5, .one (.e (.sl 2 0 x752.length))), (6, I i753), (7, B b1054), (8, I i1055)], [.row .nod x1 false, .row .rcd x2 false, .row .int x752 true]⟩) (by kernel_rfl) ?_
      refine W_skip ?_
      refine thenS_n ?_
      refine W_seq ?_
      refine W_block ?_
      refine W_region ?_
      refine WO_step 2 [0, 1, 2] [1, 5, 6, 8, 30] True ⟨[(1, .one (.e (.sl 1 0 x2.length))), (5, .one (.e (.sl 2 0 x752.length))), (6, I i753), (8, I i1055), (30, B b1054)], [.row .nod x1 false, .row .rcd x2 false, .row .int x752 true]⟩ (by kernel_rfl) trivial ?_
      refine bindO_e h (fun b1119 hv1120 h => ?_)
      refine WO_thru ⟨[(1, .one (.e (.sl 1 0 x2.length))), (5, .one (.e (.sl 2 0 x752.length))), (6, I i753), (7, B b1119), (8, I i1055)], [.row .nod x1 false, .row .rcd x2 false, .row .int x752 true]⟩ ?_ ?_
      · refine iteO_e hv1120 (fun hb1121 hv1120 => WO_known 30 true rfl hb1121 ?_) (fun hb1121 hv1120 => WO_known 30 false rfl hb1121 ?_)
        · refine WO_step 25 [0, 1, 2] [1, 5, 6, 7, 8] True ⟨[(1, .one (.e (.sl 1 0 x2.length))), (5, .one (.e (.sl 2 0 x752.length))), (6, I i753), (7, B true), (8, I i1055)], [.row .nod x1 false, .row .rcd x2 false, .row .int x752 true]⟩ (by kernel_rfl) trivial ?_
          cases hv1120
          exact WO_nil rfl ⟨rfl, rfl⟩
        · refine guardO_e hv1120 (fun hg1122 hv1120 => ?_)
          refine WO_step 8 [0, 1, 2] [1, 5, 6, 8, 30, 38] ((0 ≤ i1055 ∧ i1055 < ((x2.length : Nat) : Int)) ∧ (True ∧ (True ∧ True))) ⟨[(1, .one (.e (.sl 1 0 x2.length))), (5, .one (.e (.sl 2 0 x752.length))), (6, I i753), (8, I i1055), (30, B false), (38, B (decide (((x2.getD i1055.toNat drcd).who) = i753)))], [.row .nod x1 false, .row .rcd x2 false, .row .int x752 true]⟩ (by kernel_rfl) ⟨hg1122, trivial, trivial, trivial⟩ ?_
          refine iteO_e hv1120 (fun hb1123 hv1120 => WO_known 38 true rfl hb1123 ?_) (fun hb1123 hv1120 => WO_known 38 false rfl hb1123 ?_)
          · refine guardO_e hv1120 (fun hg1124 hv1120 => ?_)
            refine WO_step 8 [0, 1, 2] [1, 5, 6, 8, 30, 46] ((0 ≤ i1055 ∧ i1055 < ((x2.length : Nat) : Int)) ∧ (True ∧ True)) ⟨[(1, .one (.e (.sl 1 0 x2.length))), (5, .one (.e (.sl 2 0 x752.length))), (6, I i753), (8, I i1055), (30, B false), (46, B (!(x2.getD i1055.toNat drcd).fin))], [.row .nod x1 false, .row .rcd x2 false, .row .int x752 true]⟩ (by kernel_rfl) ⟨hg1124, trivial, trivial⟩ ?_
            refine iteO_e hv1120 (fun hb1125 hv1120 => WO_known 46 true rfl hb1125 ?_) (fun hb1125 hv1120 => WO_known 46 false rfl hb1125 ?_)
            · refine WO_step 4 [0, 1, 2] [1, 5, 6, 8, 30, 46, 47, 49, 50] (True ∧ True) ⟨[(1, .one (.e (.sl 1 0 x2.length))), (5, .one (.e (.sl 2 0 x752.length))), (6, I i753), (8, I i1055), (30, B false), (46, B true), (47, .one (.e (.sl 1 0 x2.length))), (49, I (w64 (i1055 + 1))), (50, I i753)], [.row .nod x1 false, .row .rcd x2 false, .row .int x752 true]⟩ (by kernel_rfl) ⟨trivial, trivial⟩ ?_
              refine bindO_e hv1120 (fun b1126 hc1127 hv1120 => ?_)
              refine WO_call [.ro 1] Try.f44 rfl rfl rfl (by kernel_rfl) rfl rfl (by kernel_rfl) (spec_ended_ok n x2 (w64 (i1055 + 1)) i753 b1126 hc1127) (And.intro (And.intro rfl rfl) (trivial)) rfl ?_
              refine WO_step 4 [0, 1, 2] [1, 5, 6, 7, 8] True ⟨[(1, .one (.e (.sl 1 0 x2.length))), (5, .one (.e (.sl 2 0 x752.length))), (6, I i753), (7, B (!b1126)), (8, I i1055)], [.row .nod x1 false, .row .rcd x2 false, .row .int x752 true]⟩ (by kernel_rfl) trivial ?_
              cases hv1120
              exact WO_nil rfl ⟨rfl, rfl⟩
            · refine WO_step 9 [0, 1, 2] [1, 5, 6, 7, 8] True ⟨[(1, .one (.e (.sl 1 0 x2.length))), (5, .one (.e (.sl 2 0 x752.length))), (6, I i753), (7, B false), (8, I i1055)], [.row .nod x1 false, .row .rcd x2 false, .row .int x752 true]⟩ (by kernel_rfl) trivial ?_
              cases hv1120
              exact WO_nil rfl ⟨rfl, rfl⟩
          · refine WO_step 17 [0, 1, 2] [1, 5, 6, 7, 8] True ⟨[(1, .one (.e (.sl 1 0 x2.length))), (5, .one (.e (.sl 2 0 x752.length))), (6, I i753), (7, B false), (8, I i1055)], [.row .nod x1 false, .row .rcd x2 false, .row .int x752 true]⟩ (by kernel_rfl) trivial ?_
            cases hv1120
            exact WO_nil rfl ⟨rfl, rfl⟩
      · refine blockS_n ?_
        refine thenS_n ?_
        refine W_region ?_
        refine WO_step 3 [0, 1, 2] [1, 5, 6, 7, 8] (True ∧ True) ⟨[(1, .one (.e (.sl 1 0 x2.length))), (5, .one (.e (.sl 2 0 x752.length))), (6, I i753), (7, B b1119), (8, I (w64 (i1055 + 1)))], [.row .nod x1 false, .row .rcd x2 false, .row .int x752 true]⟩ (by kernel_rfl) ⟨trivial, trivial⟩ ?_
        refine WO_nil rfl ?_
        refine thenS_n ?_
        exact ih _ _ h
    · refine W_sub [0, 1, 2] [1, 5, 6, 7] (st' := ⟨[(1, .one (.e (.sl 1 0 x2.length))), (5, .one (.e (.sl 2 0 x752.length))), (6, I i753), (7, B b1054)], [.row .nod x1 false, .row .rcd x2 false, .row .int x752 true]⟩) (by kernel_rfl) ?_
      refine W_exit ?_
      refine thenS_e ?_
      refine thenS_e ?_
      cases h
      exact And.intro rfl rfl

def spec_LosersOf_L1 (x2 : List Rcd) (x1 : List Nod) : Nat → (List Int) → Int → Option ((List Int))
| 0, _, _ => none
| n + 1, x752, i753 =>
 iteO (decide (i753 < 4))
 (bindO (spec_LosersOf_L2 x2 x752 i753 x1 n false 0) fun b1092 =>
 bindO (iteO b1092
 (guardO (0 = 0 ∧ x752.length = x752.length ∧ x752.length + (([i753].drop 0).take ([i753].length)).length ≤ 1099511627776) <|
 some (x752 ++ (([i753].drop 0).take ([i753].length))))
 (some x752)) fun x1131 =>
 spec_LosersOf_L1 x2 x1 n x1131 (w64 (i753 + 1)))
 (some x752)

theorem spec_LosersOf_L1_ok (w : World) (X : Nat → Prop) (θ : List Loc) (x2 : List Rcd) (x1 : List Nod) (x926 : (List Int)) : ∀ (n : Nat) (x752 : List Int) (i753 : Int), spec_LosersOf_L1 x2 x1 n x752 i753 = some x926 → WL EE ⟨w, X, θ, 61, 2⟩ (subC [1, 1, 1, 0, 1, 4, 4] (bodyC Try.f15)) (fun (e : Exit) (s : St) => e = .exit 0 ∧ s = ⟨[(5, .one (.e (.sl 2 0 x926.length)))], [.row .nod x1 false, .row .rcd x2 false, .row .int x926 true]⟩) ⟨[(1, .one (.e (.sl 1 0 x2.length))), (5, .one (.e (.sl 2 0 x752.length))), (6, I i753)], [.row .nod x1 false, .row .rcd x2 false, .row .int x752 true]⟩ := by
  intro n
  induction n with
  | zero => intro _ _ h; exact none_e h
  | succ n ih =>
    intro x752 i753 h
    rw [spec_LosersOf_L1] at h
    refine WL_round ?_
    refine W_seq ?_
    refine W_seq ?_
    refine W_region ?_
    refine WO_step 2 [0, 1, 2] [1, 5, 6, 20] (True ∧ True) ⟨[(1, .one (.e (.sl 1 0 x2.length))), (5, .one (.e (.sl 2 0 x752.length))), (6, I i753), (20, B (decide (i753 < 4)))], [.row .nod x1 false, .row .rcd x2 false, .row .int x752 true]⟩ (by kernel_rfl) ⟨trivial, trivial⟩ ?_
    refine WO_nil rfl ?_
    refine thenS_n ?_
    refine iteO_e h (fun hb929 h => W_true rfl hb929 ?_) (fun hb929 h => W_false rfl hb929 ?_)
    · refine W_sub [0, 1, 2] [1, 5, 6] (st' := ⟨[(1, .one (.e (.sl 1 0 x2.length))), (5, .one (.e (.sl 2 0 x752.length))), (6, I i753)], [.row .nod x1 false, .row .rcd x2 false, .row .int x752 true]⟩) (by kernel_rfl) ?_
      refine W_skip ?_
      refine thenS_n ?_
      refine W_seq ?_
      refine W_block ?_
      refine W_seq ?_
      refine W_region ?_
      refine WO_step 1 [0, 1, 2] [1, 5, 6, 7] True ⟨[(1, .one (.e (.sl 1 0 x2.length))), (5, .one (.e (.sl 2 0 x752.length))), (6, I i753), (7, B false)], [.row .nod x1 false, .row .rcd x2 false, .row .int x752 true]⟩ (by kernel_rfl) trivial ?_
      refine WO_nil rfl ?_
      refine thenS_n ?_
      refine W_seq ?_
      refine W_seq ?_
      refine W_region ?_
      refine WO_step 1 [0, 1, 2] [1, 5, 6, 7, 8] True ⟨[(1, .one (.e (.sl 1 0 x2.length))), (5, .one (.e (.sl 2 0 x752.length))), (6, I i753), (7, B false), (8, I 0)], [.row .nod x1 false, .row .rcd x2 false, .row .int x752 true]⟩ (by kernel_rfl) trivial ?_
      refine WO_nil rfl ?_
      refine thenS_n ?_
      refine W_block ?_
      refine W_loop ?_
      refine bindO_e h (fun b1092 hb1092 h => ?_)
      refine WL_cut (spec_LosersOf_L2_ok w X θ x2 x752 i753 x1 b1092 n false 0 hb1092) ?_
      rintro _ _ ⟨rfl, rfl⟩
      refine blockS_y ?_
      refine thenS_n ?_
      refine W_seq ?_
      refine W_region ?_
      refine WO_step 1 [0, 1, 2] [1, 5, 6, 55] True ⟨[(1, .one (.e (.sl 1 0 x2.length))), (5, .one (.e (.sl 2 0 x752.length))), (6, I i753), (55, B b1092)], [.row .nod x1 false, .row .rcd x2 false, .row .int x752 true]⟩ (by kernel_rfl) trivial ?_
      refine WO_nil rfl ?_
      refine thenS_n ?_
      refine bindO_e h (fun x1131 hx1131 h => ?_)
      refine W_cut (Q' := fun (e : Exit) (s : St) => e = .normal ∧ s = ⟨[(1, .one (.e (.sl 1 0 x2.length))), (5, .one (.e (.sl 2 0 x1131.length))), (6, I i753)], [.row .nod x1 false, .row .rcd x2 false, .row .int x1131 true]⟩) ?_ ?_
      · refine iteO_e hx1131 (fun hb1133 hx1131 => W_true rfl hb1133 ?_) (fun hb1133 hx1131 => W_false rfl hb1133 ?_)
        · refine W_region ?_
          refine guardO_e hx1131 (fun hg1134 hx1131 => ?_)
          refine WO_step 5 [0, 1, 4] [1, 5, 6] ((0 = 0 ∧ x752.length = x752.length ∧ x752.length + (([i753].drop 0).take ([i753].length)).length ≤ 1099511627776) ∧ True) ⟨[(1, .one (.e (.sl 1 0 x2.length))), (5, .one (.e (.sl 2 0 ((x752 ++ (([i753].drop 0).take ([i753].length))).length)))), (6, I i753)], [.row .nod x1 false, .row .rcd x2 false, .row .int (x752 ++ (([i753].drop 0).take ([i753].length))) true]⟩ (by kernel_rfl) ⟨hg1134, trivial⟩ ?_
          refine WO_nil rfl ?_
          cases hx1131
          exact And.intro rfl rfl
        · refine W_sub [0, 1, 2] [1, 5, 6] (st' := ⟨[(1, .one (.e (.sl 1 0 x2.length))), (5, .one (.e (.sl 2 0 x752.length))), (6, I i753)], [.row .nod x1 false, .row .rcd x2 false, .row .int x752 true]⟩) (by kernel_rfl) ?_
          refine W_skip ?_
          cases hx1131
          exact And.intro rfl rfl
      · rintro _ _ ⟨rfl, rfl⟩
        refine blockS_n ?_
        refine thenS_n ?_
        refine W_region ?_
        refine WO_step 3 [0, 1, 2] [1, 5, 6] (True ∧ True) ⟨[(1, .one (.e (.sl 1 0 x2.length))), (5, .one (.e (.sl 2 0 x1131.length))), (6, I (w64 (i753 + 1)))], [.row .nod x1 false, .row .rcd x2 false, .row .int x1131 true]⟩ (by kernel_rfl) ⟨trivial, trivial⟩ ?_
        refine WO_nil rfl ?_
        refine thenS_n ?_
        exact ih _ _ h
    · refine W_sub [0, 1, 2] [5] (st' := ⟨[(5, .one (.e (.sl 2 0 x752.length)))], [.row .nod x1 false, .row .rcd x2 false, .row .int x752 true]⟩) (by kernel_rfl) ?_
      refine W_exit ?_
      refine thenS_e ?_
      refine thenS_e ?_
      cases h
      exact And.intro rfl rfl

def spec_LosersOf (n : Nat) (x1 : List Nod) (x2 : List Rcd) : Option ((List Int)) :=
 bindO (spec_validTree n x1) fun b564 =>
 bindO (iteO (!b564)
 (some true)
 (bindO (spec_validLog n x1 x2) fun b572 =>
 some (!b572))) fun b569 =>
 iteO b569
 (some ([] : List Int))
 (bindO (spec_LosersOf_L1 x2 x1 n ([] : List Int) 0) fun x926 =>
 some x926)

theorem spec_LosersOf_ok (n : Nat) (x1 : List Nod) (x2 : List Rcd) (x563 : List Int) (h : spec_LosersOf n x1 x2 = some x563) : FOk EE 15 [.one (.e (.sl 0 0 x1.length)), .one (.e (.sl 1 0 x2.length))] [.row .nod x1 false, .row .rcd x2 false] (.one (.e (.sl 2 0 x563.length))) [.row .nod x1 false, .row .rcd x2 false, .row .int x563 true] := by
  unfold spec_LosersOf at h
  refine FOk_of_W 61 2 Try.func15 rfl rfl (Nat.le_of_ble_eq_true rfl) rfl (fun w X θ => ?_)
  refine W_seq ?_
  refine W_region ?_
  refine WO_step 1 [0, 1] [0, 1] True ⟨[(0, .one (.e (.sl 0 0 x1.length))), (1, .one (.e (.sl 1 0 x2.length)))], [.row .nod x1 false, .row .rcd x2 false]⟩ (by kernel_rfl) trivial ?_
  refine WO_nil rfl ?_
  refine thenS_n ?_
  refine W_seq ?_
  refine W_region ?_
  refine WO_step 2 [0, 1, 2] [0, 1, 5] True ⟨[(0, .one (.e (.sl 0 0 x1.length))), (1, .one (.e (.sl 1 0 x2.length))), (5, .one (.e (.sl 2 0 (([] : List Int).length))))], [.row .nod x1 false, .row .rcd x2 false, .row .int ([] : List Int) true]⟩ (by kernel_rfl) trivial ?_
  refine WO_nil rfl ?_
  refine thenS_n ?_
  refine W_seq ?_
  refine W_seq ?_
  refine W_region ?_
  refine WO_step 1 [0, 1, 2] [0, 1, 5, 10] True ⟨[(0, .one (.e (.sl 0 0 x1.length))), (1, .one (.e (.sl 1 0 x2.length))), (5, .one (.e (.sl 2 0 (([] : List Int).length)))), (10, .one (.e (.sl 0 0 x1.length)))], [.row .nod x1 false, .row .rcd x2 false, .row .int ([] : List Int) true]⟩ (by kernel_rfl) trivial ?_
  refine bindO_e h (fun b564 hc565 h => ?_)
  refine WO_call [.ro 0] Try.f42 rfl rfl rfl (by kernel_rfl) rfl rfl (by kernel_rfl) (spec_validTree_ok n x1 b564 hc565) (And.intro (And.intro rfl rfl) (trivial)) rfl ?_
  refine WO_step 2 [0, 1, 2] [0, 1, 5, 13] True ⟨[(0, .one (.e (.sl 0 0 x1.length))), (1, .one (.e (.sl 1 0 x2.length))), (5, .one (.e (.sl 2 0 (([] : List Int).length)))), (13, B (!b564))], [.row .nod x1 false, .row .rcd x2 false, .row .int ([] : List Int) true]⟩ (by kernel_rfl) trivial ?_
  refine bindO_e h (fun b569 hv570 h => ?_)
  refine WO_thru ⟨[(1, .one (.e (.sl 1 0 x2.length))), (5, .one (.e (.sl 2 0 (([] : List Int).length)))), (18, B b569)], [.row .nod x1 false, .row .rcd x2 false, .row .int ([] : List Int) true]⟩ ?_ ?_
  · refine iteO_e hv570 (fun hb571 hv570 => WO_known 13 true rfl hb571 ?_) (fun hb571 hv570 => WO_known 13 false rfl hb571 ?_)
    · refine WO_step 5 [0, 1, 2] [1, 5, 18] True ⟨[(1, .one (.e (.sl 1 0 x2.length))), (5, .one (.e (.sl 2 0 (([] : List Int).length)))), (18, B true)], [.row .nod x1 false, .row .rcd x2 false, .row .int ([] : List Int) true]⟩ (by kernel_rfl) trivial ?_
      cases hv570
      exact WO_nil rfl ⟨rfl, rfl⟩
    · refine WO_step 2 [0, 1, 2] [1, 5, 13, 14, 15] True ⟨[(1, .one (.e (.sl 1 0 x2.length))), (5, .one (.e (.sl 2 0 (([] : List Int).length)))), (13, B false), (14, .one (.e (.sl 0 0 x1.length))), (15, .one (.e (.sl 1 0 x2.length)))], [.row .nod x1 false, .row .rcd x2 false, .row .int ([] : List Int) true]⟩ (by kernel_rfl) trivial ?_
      refine bindO_e hv570 (fun b572 hc573 hv570 => ?_)
      refine WO_call [.ro 0, .ro 1] Try.f43 rfl rfl rfl (by kernel_rfl) rfl rfl (by kernel_rfl) (spec_validLog_ok n x1 x2 b572 hc573) (And.intro (And.intro rfl rfl) (And.intro (And.intro rfl rfl) (trivial))) rfl ?_
      refine WO_step 2 [0, 1, 2] [1, 5, 18] True ⟨[(1, .one (.e (.sl 1 0 x2.length))), (5, .one (.e (.sl 2 0 (([] : List Int).length)))), (18, B (!b572))], [.row .nod x1 false, .row .rcd x2 false, .row .int ([] : List Int) true]⟩ (by kernel_rfl) trivial ?_
      cases hv570
      exact WO_nil rfl ⟨rfl, rfl⟩
  · refine thenS_n ?_
    refine iteO_e h (fun hb575 h => W_true rfl hb575 ?_) (fun hb575 h => W_false rfl hb575 ?_)
    · refine W_seq ?_
      refine W_region ?_
      refine WO_step 1 [0, 1] [4] True ⟨[(4, .one (.e (.nsl)))], [.row .nod x1 false, .row .rcd x2 false]⟩ (by kernel_rfl) trivial ?_
      refine WO_nilrow 4 .int rfl ?_
      refine WO_sub [0, 1, 2] [4] (st' := ⟨[(4, .one (.e (.sl 2 0 (([] : List Int).length))))], [.row .nod x1 false, .row .rcd x2 false, .row .int ([] : List Int) true]⟩) (by kernel_rfl) ?_
      refine WO_nil rfl ?_
      refine thenS_n ?_
      refine W_ret ?_
      refine thenS_r ?_
      cases h
      exact ⟨[0, 1, 2], True, by kernel_rfl, trivial⟩
    · refine W_sub [0, 1, 2] [1, 5] (st' := ⟨[(1, .one (.e (.sl 1 0 x2.length))), (5, .one (.e (.sl 2 0 (([] : List Int).length))))], [.row .nod x1 false, .row .rcd x2 false, .row .int ([] : List Int) true]⟩) (by kernel_rfl) ?_
      refine W_skip ?_
      refine thenS_n ?_
      refine W_seq ?_
      refine W_seq ?_
      refine W_region ?_
      refine WO_step 1 [0, 1, 2] [1, 5, 6] True ⟨[(1, .one (.e (.sl 1 0 x2.length))), (5, .one (.e (.sl 2 0 (([] : List Int).length)))), (6, I 0)], [.row .nod x1 false, .row .rcd x2 false, .row .int ([] : List Int) true]⟩ (by kernel_rfl) trivial ?_
      refine WO_nil rfl ?_
      refine thenS_n ?_
      refine W_block ?_
      refine W_loop ?_
      refine bindO_e h (fun x926 hx926 h => ?_)
      refine WL_cut (spec_LosersOf_L1_ok w X θ x2 x1 x926 n ([] : List Int) 0 hx926) ?_
      rintro _ _ ⟨rfl, rfl⟩
      refine blockS_y ?_
      refine thenS_n ?_
      refine W_seq ?_
      refine W_region ?_
      refine WO_step 2 [0, 1, 2] [4] True ⟨[(4, .one (.e (.sl 2 0 x926.length)))], [.row .nod x1 false, .row .rcd x2 false, .row .int x926 true]⟩ (by kernel_rfl) trivial ?_
      refine WO_nil rfl ?_
      refine thenS_n ?_
      refine W_ret ?_
      cases h
      exact ⟨[0, 1, 2], True, by kernel_rfl, trivial⟩

/- laws.equalInts -/
def laws_equalInts_L1 (x1 : List Int) (x2 : List Int) : Nat → Int → Option ((Unit) ⊕ (Unit))
| 0, _ => none
| n + 1, i57 =>
 iteO (decide (i57 < ((x1.length : Nat) : Int)))
 (guardO (0 ≤ i57 ∧ i57 < ((x1.length : Nat) : Int)) <|
 guardO (0 ≤ i57 ∧ i57 < ((x2.length : Nat) : Int)) <|
 iteO (!decide ((x1.getD i57.toNat 0) = (x2.getD i57.toNat 0)))
 (some (.inl ()))
 (laws_equalInts_L1 x1 x2 n (w64 (i57 + 1))))
 (some (.inr ()))

theorem laws_equalInts_L1_ok (w : World) (X : Nat → Prop) (θ : List Loc) (x1 : List Int) (x2 : List Int) (v : (Unit) ⊕ (Unit)) : ∀ (n : Nat) (i57 : Int), laws_equalInts_L1 x1 x2 n i57 = some v → WL EE ⟨w, X, θ, 26, 2⟩ (subC [1, 1, 0, 1, 4, 4] (bodyC Try.f14)) (fun (e : Exit) (s : St) => (match v with | (.inl _) => e = .ret ∧ s = ⟨[(4, B false)], [.row .int x1 false, .row .int x2 false]⟩ | (.inr _) => e = .exit 0 ∧ s = ⟨[], [.row .int x1 false, .row .int x2 false]⟩ : Prop)) ⟨[(0, .one (.e (.sl 0 0 x1.length))), (1, .one (.e (.sl 1 0 x2.length))), (5, I i57)], [.row .int x1 false, .row .int x2 false]⟩ := by
  intro n
  induction n with
  | zero => intro _ h; exact none_e h
  | succ n ih =>
    intro i57 h
    rw [laws_equalInts_L1] at h
    refine WL_round ?_
    refine W_seq ?_
    refine W_seq ?_
    refine W_region ?_
    refine WO_step 4 [0, 1] [0, 1, 5, 14] (True ∧ (True ∧ True)) ⟨[(0, .one (.e (.sl 0 0 x1.length))), (1, .one (.e (.sl 1 0 x2.length))), (5, I i57), (14, B (decide (i57 < ((x1.length : Nat) : Int))))], [.row .int x1 false, .row .int x2 false]⟩ (by kernel_rfl) ⟨trivial, trivial, trivial⟩ ?_
    refine WO_nil rfl ?_
    refine thenS_n ?_
    refine iteO_e h (fun hb71 h => W_true rfl hb71 ?_) (fun hb71 h => W_false rfl hb71 ?_)
    · refine W_sub [0, 1] [0, 1, 5] (st' := ⟨[(0, .one (.e (.sl 0 0 x1.length))), (1, .one (.e (.sl 1 0 x2.length))), (5, I i57)], [.row .int x1 false, .row .int x2 false]⟩) (by kernel_rfl) ?_
      refine W_skip ?_
      refine thenS_n ?_
      refine W_seq ?_
      refine W_block ?_
      refine W_seq ?_
      refine guardO_e h (fun hg76 h => ?_)
      refine guardO_e h (fun hg77 h => ?_)
      refine W_cut (Q' := fun (e : Exit) (s : St) => e = .normal ∧ s = ⟨[(0, .one (.e (.sl 0 0 x1.length))), (1, .one (.e (.sl 1 0 x2.length))), (5, I i57), (25, B (!decide ((x1.getD i57.toNat 0) = (x2.getD i57.toNat 0))))], [.row .int x1 false, .row .int x2 false]⟩) ?_ ?_
      · refine W_draw [] true (by kernel_rfl) (by kernel_rfl) ?_
        refine WD_takeK [0, 1, 2, 3, 4, 5, 6, 7, 8] [0, 1, 5, 25] [0, 1, 5, 25] (φ := ((0 ≤ i57 ∧ i57 < ((x1.length : Nat) : Int)) ∧ (0 ≤ i57 ∧ i57 < ((x1.length : Nat) : Int)) ∧ (True ∧ True ∧ ((0 ≤ i57 ∧ i57 < ((x2.length : Nat) : Int)) ∧ (0 ≤ i57 ∧ i57 < ((x2.length : Nat) : Int)) ∧ (True ∧ True ∧ (True ∧ True ∧ True)))))) (ls' := #[true, true, true, true, true, true, true, true, true]) (Ts' := [(0, .one (.e (.sl 0 0 x1.length))), (1, .one (.e (.sl 1 0 x2.length))), (5, I i57), (25, B (!decide ((x1.getD i57.toNat 0) = (x2.getD i57.toNat 0))))]) (st' := ⟨[(0, .one (.e (.sl 0 0 x1.length))), (1, .one (.e (.sl 1 0 x2.length))), (5, I i57), (25, B (!decide ((x1.getD i57.toNat 0) = (x2.getD i57.toNat 0))))], [.row .int x1 false, .row .int x2 false]⟩) (n2 := 0) (by kernel_rfl) ⟨hg76, hg76, trivial, trivial, hg77, hg77, trivial, trivial, trivial, trivial, trivial⟩ rfl ?_
        exact WD_done [0, 1] [0, 1, 5, 25] (st' := ⟨[(0, .one (.e (.sl 0 0 x1.length))), (1, .one (.e (.sl 1 0 x2.length))), (5, I i57), (25, B (!decide ((x1.getD i57.toNat 0) = (x2.getD i57.toNat 0))))], [.row .int x1 false, .row .int x2 false]⟩) (by kernel_rfl) (by kernel_rfl) (And.intro rfl rfl)
      · rintro _ _ ⟨rfl, rfl⟩
        refine thenS_n ?_
        refine iteO_e h (fun hb79 h => W_true rfl hb79 ?_) (fun hb79 h => W_false rfl hb79 ?_)
        · refine W_seq ?_
          refine W_region ?_
          refine WO_step 1 [0, 1] [4] True ⟨[(4, B false)], [.row .int x1 false, .row .int x2 false]⟩ (by kernel_rfl) trivial ?_
          refine WO_nil rfl ?_
          refine thenS_n ?_
          refine W_ret ?_
          refine blockS_r ?_
          refine thenS_r ?_
          refine thenS_r ?_
          cases h
          exact And.intro rfl rfl
        · refine W_sub [0, 1] [0, 1, 5] (st' := ⟨[(0, .one (.e (.sl 0 0 x1.length))), (1, .one (.e (.sl 1 0 x2.length))), (5, I i57)], [.row .int x1 false, .row .int x2 false]⟩) (by kernel_rfl) ?_
          refine W_skip ?_
          refine blockS_n ?_
          refine thenS_n ?_
          refine W_region ?_
          refine WO_step 3 [0, 1] [0, 1, 5] (True ∧ True) ⟨[(0, .one (.e (.sl 0 0 x1.length))), (1, .one (.e (.sl 1 0 x2.length))), (5, I (w64 (i57 + 1)))], [.row .int x1 false, .row .int x2 false]⟩ (by kernel_rfl) ⟨trivial, trivial⟩ ?_
          refine WO_nil rfl ?_
          refine thenS_n ?_
          exact ih _ h
    · refine W_sub [0, 1] [] (st' := ⟨[], [.row .int x1 false, .row .int x2 false]⟩) (by kernel_rfl) ?_
      refine W_exit ?_
      refine thenS_e ?_
      refine thenS_e ?_
      cases h
      exact And.intro rfl rfl

def laws_equalInts (n : Nat) (x1 : List Int) (x2 : List Int) : Option (Bool) :=
 iteO (!decide (((x1.length : Nat) : Int) = ((x2.length : Nat) : Int)))
 (some false)
 (bindO (laws_equalInts_L1 x1 x2 n 0) fun v80 =>
 match v80 with
 | (.inl _) => (some false)
 | (.inr _) => (some true)
)

theorem laws_equalInts_ok (n : Nat) (x1 : List Int) (x2 : List Int) (b41 : Bool) (h : laws_equalInts n x1 x2 = some b41) : FOk EE 14 [.one (.e (.sl 0 0 x1.length)), .one (.e (.sl 1 0 x2.length))] [.row .int x1 false, .row .int x2 false] (B b41) [.row .int x1 false, .row .int x2 false] := by
  unfold laws_equalInts at h
  refine FOk_of_W 26 2 Try.func14 rfl rfl (Nat.le_of_ble_eq_true rfl) rfl (fun w X θ => ?_)
  refine W_seq ?_
  refine W_region ?_
  refine WO_step 1 [0, 1] [0, 1] True ⟨[(0, .one (.e (.sl 0 0 x1.length))), (1, .one (.e (.sl 1 0 x2.length)))], [.row .int x1 false, .row .int x2 false]⟩ (by kernel_rfl) trivial ?_
  refine WO_nil rfl ?_
  refine thenS_n ?_
  refine W_seq ?_
  refine W_seq ?_
  refine W_region ?_
  refine WO_step 5 [0, 1] [0, 1, 10] (True ∧ (True ∧ (True ∧ True))) ⟨[(0, .one (.e (.sl 0 0 x1.length))), (1, .one (.e (.sl 1 0 x2.length))), (10, B (!decide (((x1.length : Nat) : Int) = ((x2.length : Nat) : Int))))], [.row .int x1 false, .row .int x2 false]⟩ (by kernel_rfl) ⟨trivial, trivial, trivial, trivial⟩ ?_
  refine WO_nil rfl ?_
  refine thenS_n ?_
  refine iteO_e h (fun hb43 h => W_true rfl hb43 ?_) (fun hb43 h => W_false rfl hb43 ?_)
  · refine W_seq ?_
    refine W_region ?_
    refine WO_step 1 [0, 1] [4] True ⟨[(4, B false)], [.row .int x1 false, .row .int x2 false]⟩ (by kernel_rfl) trivial ?_
    refine WO_nil rfl ?_
    refine thenS_n ?_
    refine W_ret ?_
    refine thenS_r ?_
    cases h
    exact ⟨[0, 1], True, by kernel_rfl, trivial⟩
  · refine W_sub [0, 1] [0, 1] (st' := ⟨[(0, .one (.e (.sl 0 0 x1.length))), (1, .one (.e (.sl 1 0 x2.length)))], [.row .int x1 false, .row .int x2 false]⟩) (by kernel_rfl) ?_
    refine W_skip ?_
    refine thenS_n ?_
    refine W_seq ?_
    refine W_seq ?_
    refine W_region ?_
    refine WO_step 1 [0, 1] [0, 1, 5] True ⟨[(0, .one (.e (.sl 0 0 x1.length))), (1, .one (.e (.sl 1 0 x2.length))), (5, I 0)], [.row .int x1 false, .row .int x2 false]⟩ (by kernel_rfl) trivial ?_
    refine WO_nil rfl ?_
    refine thenS_n ?_
    refine W_block ?_
    refine W_loop ?_
    refine bindO_e h (fun v80 hv80 h => ?_)
    refine WL_cut (laws_equalInts_L1_ok w X θ x1 x2 v80 n 0 hv80) ?_
    rcases v80 with _ | _
    · rintro _ _ ⟨rfl, rfl⟩
      refine blockS_r ?_
      refine thenS_r ?_
      cases h
      exact ⟨[0, 1], True, by kernel_rfl, trivial⟩
    · rintro _ _ ⟨rfl, rfl⟩
      refine blockS_y ?_
      refine thenS_n ?_
      refine W_seq ?_
      refine W_region ?_
      refine WO_step 1 [0, 1] [4] True ⟨[(4, B true)], [.row .int x1 false, .row .int x2 false]⟩ (by kernel_rfl) trivial ?_
      refine WO_nil rfl ?_
      refine thenS_n ?_
      refine W_ret ?_
      cases h
      exact ⟨[0, 1], True, by kernel_rfl, trivial⟩

/- laws.isIn -/
def laws_isIn_L1 (x1 : List Int) (i2 : Int) : Nat → Int → Option ((Unit) ⊕ (Unit))
| 0, _ => none
| n + 1, i45 =>
 iteO (decide (i45 < ((x1.length : Nat) : Int)))
 (guardO (0 ≤ i45 ∧ i45 < ((x1.length : Nat) : Int)) <|
 iteO (decide ((x1.getD i45.toNat 0) = i2))
 (some (.inl ()))
 (laws_isIn_L1 x1 i2 n (w64 (i45 + 1))))
 (some (.inr ()))

theorem laws_isIn_L1_ok (w : World) (X : Nat → Prop) (θ : List Loc) (x1 : List Int) (i2 : Int) (v : (Unit) ⊕ (Unit)) : ∀ (n : Nat) (i45 : Int), laws_isIn_L1 x1 i2 n i45 = some v → WL EE ⟨w, X, θ, 18, 1⟩ (subC [1, 0, 1, 4, 4] (bodyC Try.f17)) (fun (e : Exit) (s : St) => (match v with | (.inl _) => e = .ret ∧ s = ⟨[(4, B true)], [.row .int x1 false]⟩ | (.inr _) => e = .exit 0 ∧ s = ⟨[], [.row .int x1 false]⟩ : Prop)) ⟨[(0, .one (.e (.sl 0 0 x1.length))), (1, I i2), (5, I i45)], [.row .int x1 false]⟩ := by
  intro n
  induction n with
  | zero => intro _ h; exact none_e h
  | succ n ih =>
    intro i45 h
    rw [laws_isIn_L1] at h
    refine WL_round ?_
    refine W_seq ?_
    refine W_seq ?_
    refine W_region ?_
    refine WO_step 4 [0] [0, 1, 5, 9] (True ∧ (True ∧ True)) ⟨[(0, .one (.e (.sl 0 0 x1.length))), (1, I i2), (5, I i45), (9, B (decide (i45 < ((x1.length : Nat) : Int))))], [.row .int x1 false]⟩ (by kernel_rfl) ⟨trivial, trivial, trivial⟩ ?_
    refine WO_nil rfl ?_
    refine thenS_n ?_
    refine iteO_e h (fun hb57 h => W_true rfl hb57 ?_) (fun hb57 h => W_false rfl hb57 ?_)
    · refine W_sub [0] [0, 1, 5] (st' := ⟨[(0, .one (.e (.sl 0 0 x1.length))), (1, I i2), (5, I i45)], [.row .int x1 false]⟩) (by kernel_rfl) ?_
      refine W_skip ?_
      refine thenS_n ?_
      refine W_seq ?_
      refine W_block ?_
      refine W_seq ?_
      refine W_region ?_
      refine guardO_e h (fun hg61 h => ?_)
      refine WO_step 6 [0] [0, 1, 5, 17] ((0 ≤ i45 ∧ i45 < ((x1.length : Nat) : Int)) ∧ (True ∧ (True ∧ True))) ⟨[(0, .one (.e (.sl 0 0 x1.length))), (1, I i2), (5, I i45), (17, B (decide ((x1.getD i45.toNat 0) = i2)))], [.row .int x1 false]⟩ (by kernel_rfl) ⟨hg61, trivial, trivial, trivial⟩ ?_
      refine WO_nil rfl ?_
      refine thenS_n ?_
      refine iteO_e h (fun hb63 h => W_true rfl hb63 ?_) (fun hb63 h => W_false rfl hb63 ?_)
      · refine W_seq ?_
        refine W_region ?_
        refine WO_step 1 [0] [4] True ⟨[(4, B true)], [.row .int x1 false]⟩ (by kernel_rfl) trivial ?_
        refine WO_nil rfl ?_
        refine thenS_n ?_
        refine W_ret ?_
        refine blockS_r ?_
        refine thenS_r ?_
        refine thenS_r ?_
        cases h
        exact And.intro rfl rfl
      · refine W_sub [0] [0, 1, 5] (st' := ⟨[(0, .one (.e (.sl 0 0 x1.length))), (1, I i2), (5, I i45)], [.row .int x1 false]⟩) (by kernel_rfl) ?_
        refine W_skip ?_
        refine blockS_n ?_
        refine thenS_n ?_
        refine W_region ?_
        refine WO_step 3 [0] [0, 1, 5] (True ∧ True) ⟨[(0, .one (.e (.sl 0 0 x1.length))), (1, I i2), (5, I (w64 (i45 + 1)))], [.row .int x1 false]⟩ (by kernel_rfl) ⟨trivial, trivial⟩ ?_
        refine WO_nil rfl ?_
        refine thenS_n ?_
        exact ih _ h
    · refine W_sub [0] [] (st' := ⟨[], [.row .int x1 false]⟩) (by kernel_rfl) ?_
      refine W_exit ?_
      refine thenS_e ?_
      refine thenS_e ?_
      cases h
      exact And.intro rfl rfl

def laws_isIn (n : Nat) (x1 : List Int) (i2 : Int) : Option (Bool) :=
 bindO (laws_isIn_L1 x1 i2 n 0) fun v64 =>
 match v64 with
 | (.inl _) => (some true)
 | (.inr _) => (some false)


theorem laws_isIn_ok (n : Nat) (x1 : List Int) (i2 : Int) (b33 : Bool) (h : laws_isIn n x1 i2 = some b33) : FOk EE 17 [.one (.e (.sl 0 0 x1.length)), I i2] [.row .int x1 false] (B b33) [.row .int x1 false] := by
  unfold laws_isIn at h
  refine FOk_of_W 18 1 Try.func17 rfl rfl (Nat.le_of_ble_eq_true rfl) rfl (fun w X θ => ?_)
  refine W_seq ?_
  refine W_region ?_
  refine WO_step 1 [0] [0, 1] True ⟨[(0, .one (.e (.sl 0 0 x1.length))), (1, I i2)], [.row .int x1 false]⟩ (by kernel_rfl) trivial ?_
  refine WO_nil rfl ?_
  refine thenS_n ?_
  refine W_seq ?_
  refine W_seq ?_
  refine W_region ?_
  refine WO_step 1 [0] [0, 1, 5] True ⟨[(0, .one (.e (.sl 0 0 x1.length))), (1, I i2), (5, I 0)], [.row .int x1 false]⟩ (by kernel_rfl) trivial ?_
  refine WO_nil rfl ?_
  refine thenS_n ?_
  refine W_block ?_
  refine W_loop ?_
  refine bindO_e h (fun v64 hv64 h => ?_)
  refine WL_cut (laws_isIn_L1_ok w X θ x1 i2 v64 n 0 hv64) ?_
  rcases v64 with _ | _
  · rintro _ _ ⟨rfl, rfl⟩
    refine blockS_r ?_
    refine thenS_r ?_
    cases h
    exact ⟨[0], True, by kernel_rfl, trivial⟩
  · rintro _ _ ⟨rfl, rfl⟩
    refine blockS_y ?_
    refine thenS_n ?_
    refine W_seq ?_
    refine W_region ?_
    refine WO_step 1 [0] [4] True ⟨[(4, B false)], [.row .int x1 false]⟩ (by kernel_rfl) trivial ?_
    refine WO_nil rfl ?_
    refine thenS_n ?_
    refine W_ret ?_
    cases h
    exact ⟨[0], True, by kernel_rfl, trivial⟩

/- laws.FnLosersOfShort -/
def laws_FnLosersOfShort (n : Nat) (x1 : List Int) : Option (Bool) :=
 iteO (decide (1048576 < ((x1.length : Nat) : Int)))
 (some true)
 (bindO (spec_DrawLosersOf n x1) fun (x61, x62, k63, k64) =>
 bindO (impl_LosersOf n ((x61.drop k63).take k64) x62) fun x66 =>
 bindO (spec_LosersOf n ((x61.drop k63).take k64) x62) fun x68 =>
 bindO (laws_equalInts n x66 x68) fun b70 =>
 bindO (iteO (!b70)
 (some true)
 (bindO (impl_ValidLog n ((x61.drop k63).take k64) x62) fun b79 =>
 iteO (!b79)
 (some true)
 (some (decide (((x62.length : Nat) : Int) < 2))))) fun b76 =>
 iteO b76
 (bindO (spec_LosersOf n ((x61.drop k63).take k64) x62) fun x88 =>
 bindO (laws_equalInts n x66 x88) fun b90 =>
 some b90)
 (guardO (0 ≤ (w64 (((x62.length : Nat) : Int) - 1)) ∧ (w64 (((x62.length : Nat) : Int) - 1)) < ((x62.length : Nat) : Int)) <|
 bindO (iteO (!(x62.getD ((w64 (((x62.length : Nat) : Int) - 1)).toNat) drcd).fin)
 (some true)
 (guardO (0 ≤ (w64 ((w64 (((x62.length : Nat) : Int) - 1)) - 1)) ∧ (w64 ((w64 (((x62.length : Nat) : Int) - 1)) - 1)) < ((x62.length : Nat) : Int)) <|
 guardO (0 ≤ (w64 (((x62.length : Nat) : Int) - 1)) ∧ (w64 (((x62.length : Nat) : Int) - 1)) < ((x62.length : Nat) : Int)) <|
 iteO (!decide (((x62.getD ((w64 ((w64 (((x62.length : Nat) : Int) - 1)) - 1)).toNat) drcd).who) = ((x62.getD ((w64 (((x62.length : Nat) : Int) - 1)).toNat) drcd).who)))
 (some true)
 (guardO (0 ≤ (w64 ((w64 (((x62.length : Nat) : Int) - 1)) - 1)) ∧ (w64 ((w64 (((x62.length : Nat) : Int) - 1)) - 1)) < ((x62.length : Nat) : Int)) <|
 some ((x62.getD ((w64 ((w64 (((x62.length : Nat) : Int) - 1)) - 1)).toNat) drcd).fin)))) fun b98 =>
 iteO b98
 (some true)
 (guardO (0 ≤ (w64 (((x62.length : Nat) : Int) - 1)) ∧ (w64 (((x62.length : Nat) : Int) - 1)) ≤ ((x62.length : Nat) : Int)) <|
 bindO (impl_LosersOf n ((x61.drop k63).take k64) ((x62.drop 0).take ((w64 (((x62.length : Nat) : Int) - 1)).toNat))) fun x103 =>
 guardO (0 ≤ (w64 (((x62.length : Nat) : Int) - 1)) ∧ (w64 (((x62.length : Nat) : Int) - 1)) < ((x62.length : Nat) : Int)) <|
 bindO (laws_isIn n x103 ((x62.getD ((w64 (((x62.length : Nat) : Int) - 1)).toNat) drcd).who)) fun b106 =>
 bindO (iteO b106
 (guardO (0 ≤ (w64 (((x62.length : Nat) : Int) - 1)) ∧ (w64 (((x62.length : Nat) : Int) - 1)) < ((x62.length : Nat) : Int)) <|
 bindO (laws_isIn n x66 ((x62.getD ((w64 (((x62.length : Nat) : Int) - 1)).toNat) drcd).who)) fun b110 =>
 some (!b110))
 (some false)) fun b112 =>
 some b112)))

theorem laws_FnLosersOfShort_ok (n : Nat) (x1 : List Int) (b58 : Bool) (h : laws_FnLosersOfShort n x1 = some b58) : FOk EE 4 [.one (.e (.sl 0 0 x1.length))] [.row .u8 x1 false] (B b58) [.row .u8 x1 false] := by
  unfold laws_FnLosersOfShort at h
  refine FOk_of_W 92 1 Try.func4 rfl rfl (Nat.le_of_ble_eq_true rfl) rfl (fun w X θ => ?_)
  refine W_seq ?_
  refine W_region ?_
  refine WO_step 1 [0] [0] True ⟨[(0, .one (.e (.sl 0 0 x1.length)))], [.row .u8 x1 false]⟩ (by kernel_rfl) trivial ?_
  refine WO_nil rfl ?_
  refine thenS_n ?_
  refine W_seq ?_
  refine W_seq ?_
  refine W_region ?_
  refine WO_step 3 [0] [0, 9] (True ∧ (True ∧ True)) ⟨[(0, .one (.e (.sl 0 0 x1.length))), (9, B (decide (1048576 < ((x1.length : Nat) : Int))))], [.row .u8 x1 false]⟩ (by kernel_rfl) ⟨trivial, trivial, trivial⟩ ?_
  refine WO_nil rfl ?_
  refine thenS_n ?_
  refine iteO_e h (fun hb60 h => W_true rfl hb60 ?_) (fun hb60 h => W_false rfl hb60 ?_)
  · refine W_seq ?_
    refine W_region ?_
    refine WO_step 1 [0] [2] True ⟨[(2, B true)], [.row .u8 x1 false]⟩ (by kernel_rfl) trivial ?_
    refine WO_nil rfl ?_
    refine thenS_n ?_
    refine W_ret ?_
    refine thenS_r ?_
    cases h
    exact ⟨[0], True, by kernel_rfl, trivial⟩
  · refine W_sub [0] [0] (st' := ⟨[(0, .one (.e (.sl 0 0 x1.length)))], [.row .u8 x1 false]⟩) (by kernel_rfl) ?_
    refine W_skip ?_
    refine thenS_n ?_
    refine W_seq ?_
    refine W_region ?_
    refine WO_step 1 [0] [11] True ⟨[(11, .one (.e (.sl 0 0 x1.length)))], [.row .u8 x1 false]⟩ (by kernel_rfl) trivial ?_
    refine bindO_e h (fun v114 hc65 h => ?_)
    obtain ⟨x61, x62, k63, k64⟩ := v114
    refine WO_call [.ro 0] Try.f12 rfl rfl rfl (by kernel_rfl) rfl rfl (by kernel_rfl) (spec_DrawLosersOf_ok n x1 x61 x62 k63 k64 hc65) (And.intro (And.intro rfl rfl) (trivial)) rfl ?_
    refine WO_step 5 [0, 1, 2] [3, 4] True ⟨[(3, .one (.e (.sl 1 k63 k64))), (4, .one (.e (.sl 2 0 x62.length)))], [.row .u8 x1 false, .row .nod x61 true, .row .rcd x62 true]⟩ (by kernel_rfl) trivial ?_
    refine WO_nil rfl ?_
    refine thenS_n ?_
    refine W_seq ?_
    refine W_region ?_
    refine WO_step 2 [0, 1, 2] [3, 4, 15, 16] True ⟨[(3, .one (.e (.sl 1 k63 k64))), (4, .one (.e (.sl 2 0 x62.length))), (15, .one (.e (.sl 1 k63 k64))), (16, .one (.e (.sl 2 0 x62.length)))], [.row .u8 x1 false, .row .nod x61 true, .row .rcd x62 true]⟩ (by kernel_rfl) trivial ?_
    refine bindO_e h (fun x66 hc67 h => ?_)
    refine WO_call [.view 0, .ro 2] Try.f13 rfl rfl rfl (by kernel_rfl) rfl rfl (by kernel_rfl) (impl_LosersOf_ok n ((x61.drop k63).take k64) x62 x66 hc67) (And.intro (And.intro rfl rfl) (trivial)) rfl ?_
    refine WO_step 1 [0, 1, 2, 3] [3, 4, 5] True ⟨[(3, .one (.e (.sl 1 k63 k64))), (4, .one (.e (.sl 2 0 x62.length))), (5, .one (.e (.sl 3 0 x66.length)))], [.row .u8 x1 false, .row .nod x61 true, .row .rcd x62 true, .row .int x66 true]⟩ (by kernel_rfl) trivial ?_
    refine WO_nil rfl ?_
    refine thenS_n ?_
    refine W_seq ?_
    refine W_seq ?_
    refine W_region ?_
    refine WO_step 3 [0, 1, 2, 3] [3, 4, 5, 18, 19, 20] True ⟨[(3, .one (.e (.sl 1 k63 k64))), (4, .one (.e (.sl 2 0 x62.length))), (5, .one (.e (.sl 3 0 x66.length))), (18, .one (.e (.sl 3 0 x66.length))), (19, .one (.e (.sl 1 k63 k64))), (20, .one (.e (.sl 2 0 x62.length)))], [.row .u8 x1 false, .row .nod x61 true, .row .rcd x62 true, .row .int x66 true]⟩ (by kernel_rfl) trivial ?_
    refine bindO_e h (fun x68 hc69 h => ?_)
    refine WO_call [.view 0, .ro 2] Try.f15 rfl rfl rfl (by kernel_rfl) rfl rfl (by kernel_rfl) (spec_LosersOf_ok n ((x61.drop k63).take k64) x62 x68 hc69) (And.intro (And.intro rfl rfl) (trivial)) rfl ?_
    refine WO_sub [0, 1, 2, 3, 4] [3, 4, 5, 18, 21] (st' := ⟨[(3, .one (.e (.sl 1 k63 k64))), (4, .one (.e (.sl 2 0 x62.length))), (5, .one (.e (.sl 3 0 x66.length))), (18, .one (.e (.sl 3 0 x66.length))), (21, .one (.e (.sl 4 0 x68.length)))], [.row .u8 x1 false, .row .nod x61 true, .row .rcd x62 true, .row .int x66 true, .row .int x68 true]⟩) (by kernel_rfl) ?_
    refine bindO_e h (fun b70 hc71 h => ?_)
    refine WO_call [.ro 3, .ro 4] Try.f14 rfl rfl rfl (by kernel_rfl) rfl rfl (by kernel_rfl) (laws_equalInts_ok n x66 x68 b70 hc71) (And.intro (And.intro rfl rfl) (And.intro (And.intro rfl rfl) (trivial))) rfl ?_
    refine WO_step 2 [0, 1, 2, 3] [3, 4, 5, 24] True ⟨[(3, .one (.e (.sl 1 k63 k64))), (4, .one (.e (.sl 2 0 x62.length))), (5, .one (.e (.sl 3 0 x66.length))), (24, B (!b70))], [.row .u8 x1 false, .row .nod x61 true, .row .rcd x62 true, .row .int x66 true]⟩ (by kernel_rfl) trivial ?_
    refine bindO_e h (fun b76 hv77 h => ?_)
    refine WO_thru ⟨[(3, .one (.e (.sl 1 k63 k64))), (4, .one (.e (.sl 2 0 x62.length))), (5, .one (.e (.sl 3 0 x66.length))), (34, B b76)], [.row .u8 x1 false, .row .nod x61 true, .row .rcd x62 true, .row .int x66 true]⟩ ?_ ?_
    · refine iteO_e hv77 (fun hb78 hv77 => WO_known 24 true rfl hb78 ?_) (fun hb78 hv77 => WO_known 24 false rfl hb78 ?_)
      · refine WO_step 10 [0, 1, 2, 3] [3, 4, 5, 34] True ⟨[(3, .one (.e (.sl 1 k63 k64))), (4, .one (.e (.sl 2 0 x62.length))), (5, .one (.e (.sl 3 0 x66.length))), (34, B true)], [.row .u8 x1 false, .row .nod x61 true, .row .rcd x62 true, .row .int x66 true]⟩ (by kernel_rfl) trivial ?_
        cases hv77
        exact WO_nil rfl ⟨rfl, rfl⟩
      · refine WO_step 2 [0, 1, 2, 3] [3, 4, 5, 24, 25, 26] True ⟨[(3, .one (.e (.sl 1 k63 k64))), (4, .one (.e (.sl 2 0 x62.length))), (5, .one (.e (.sl 3 0 x66.length))), (24, B false), (25, .one (.e (.sl 1 k63 k64))), (26, .one (.e (.sl 2 0 x62.length)))], [.row .u8 x1 false, .row .nod x61 true, .row .rcd x62 true, .row .int x66 true]⟩ (by kernel_rfl) trivial ?_
        refine bindO_e hv77 (fun b79 hc80 hv77 => ?_)
        refine WO_call [.view 0, .ro 2] Try.f16 rfl rfl rfl (by kernel_rfl) rfl rfl (by kernel_rfl) (impl_ValidLog_ok n ((x61.drop k63).take k64) x62 b79 hc80) (And.intro (And.intro rfl rfl) (trivial)) rfl ?_
        refine WO_step 3 [0, 1, 2, 3] [3, 4, 5, 30] True ⟨[(3, .one (.e (.sl 1 k63 k64))), (4, .one (.e (.sl 2 0 x62.length))), (5, .one (.e (.sl 3 0 x66.length))), (30, B (!b79))], [.row .u8 x1 false, .row .nod x61 true, .row .rcd x62 true, .row .int x66 true]⟩ (by kernel_rfl) trivial ?_
        refine iteO_e hv77 (fun hb81 hv77 => WO_known 30 true rfl hb81 ?_) (fun hb81 hv77 => WO_known 30 false rfl hb81 ?_)
        · refine WO_step 4 [0, 1, 2, 3] [3, 4, 5, 34] True ⟨[(3, .one (.e (.sl 1 k63 k64))), (4, .one (.e (.sl 2 0 x62.length))), (5, .one (.e (.sl 3 0 x66.length))), (34, B true)], [.row .u8 x1 false, .row .nod x61 true, .row .rcd x62 true, .row .int x66 true]⟩ (by kernel_rfl) trivial ?_
          cases hv77
          exact WO_nil rfl ⟨rfl, rfl⟩
        · refine WO_step 4 [0, 1, 2, 3] [3, 4, 5, 34] (True ∧ (True ∧ True)) ⟨[(3, .one (.e (.sl 1 k63 k64))), (4, .one (.e (.sl 2 0 x62.length))), (5, .one (.e (.sl 3 0 x66.length))), (34, B (decide (((x62.length : Nat) : Int) < 2)))], [.row .u8 x1 false, .row .nod x61 true, .row .rcd x62 true, .row .int x66 true]⟩ (by kernel_rfl) ⟨trivial, trivial, trivial⟩ ?_
          cases hv77
          exact WO_nil rfl ⟨rfl, rfl⟩
    · refine thenS_n ?_
      refine iteO_e h (fun hb87 h => W_true rfl hb87 ?_) (fun hb87 h => W_false rfl hb87 ?_)
      · refine W_seq ?_
        refine W_region ?_
        refine WO_step 3 [0, 3, 1, 2] [35, 36, 37] True ⟨[(35, .one (.e (.sl 1 0 x66.length))), (36, .one (.e (.sl 2 k63 k64))), (37, .one (.e (.sl 3 0 x62.length)))], [.row .u8 x1 false, .row .int x66 true, .row .nod x61 true, .row .rcd x62 true]⟩ (by kernel_rfl) trivial ?_
        refine bindO_e h (fun x88 hc89 h => ?_)
        refine WO_call [.view 0, .ro 3] Try.f15 rfl rfl rfl (by kernel_rfl) rfl rfl (by kernel_rfl) (spec_LosersOf_ok n ((x61.drop k63).take k64) x62 x88 hc89) (And.intro (And.intro rfl rfl) (trivial)) rfl ?_
        refine WO_sub [0, 1, 4] [35, 38] (st' := ⟨[(35, .one (.e (.sl 1 0 x66.length))), (38, .one (.e (.sl 2 0 x88.length)))], [.row .u8 x1 false, .row .int x66 true, .row .int x88 true]⟩) (by kernel_rfl) ?_
        refine bindO_e h (fun b90 hc91 h => ?_)
        refine WO_call [.ro 1, .ro 2] Try.f14 rfl rfl rfl (by kernel_rfl) rfl rfl (by kernel_rfl) (laws_equalInts_ok n x66 x88 b90 hc91) (And.intro (And.intro rfl rfl) (And.intro (And.intro rfl rfl) (trivial))) rfl ?_
        refine WO_step 1 [0] [2] True ⟨[(2, B b90)], [.row .u8 x1 false]⟩ (by kernel_rfl) trivial ?_
        refine WO_nil rfl ?_
        refine thenS_n ?_
        refine W_ret ?_
        refine thenS_r ?_
        cases h
        exact ⟨[0], True, by kernel_rfl, trivial⟩
      · refine W_sub [0, 1, 2, 3] [3, 4, 5] (st' := ⟨[(3, .one (.e (.sl 1 k63 k64))), (4, .one (.e (.sl 2 0 x62.length))), (5, .one (.e (.sl 3 0 x66.length)))], [.row .u8 x1 false, .row .nod x61 true, .row .rcd x62 true, .row .int x66 true]⟩) (by kernel_rfl) ?_
        refine W_skip ?_
        refine thenS_n ?_
        refine W_seq ?_
        refine W_region ?_
        refine WO_step 4 [0, 1, 2, 3] [3, 4, 5, 6] (True ∧ (True ∧ True)) ⟨[(3, .one (.e (.sl 1 k63 k64))), (4, .one (.e (.sl 2 0 x62.length))), (5, .one (.e (.sl 3 0 x66.length))), (6, I (w64 (((x62.length : Nat) : Int) - 1)))], [.row .u8 x1 false, .row .nod x61 true, .row .rcd x62 true, .row .int x66 true]⟩ (by kernel_rfl) ⟨trivial, trivial, trivial⟩ ?_
        refine WO_nil rfl ?_
        refine thenS_n ?_
        refine W_seq ?_
        refine W_seq ?_
        refine guardO_e h (fun hg92 h => ?_)
        refine bindO_e h (fun b98 hv99 h => ?_)
        refine W_cut (Q' := fun (e : Exit) (s : St) => e = .normal ∧ s = ⟨[(3, .one (.e (.sl 1 k63 k64))), (4, .one (.e (.sl 2 0 x62.length))), (5, .one (.e (.sl 3 0 x66.length))), (6, I (w64 (((x62.length : Nat) : Int) - 1))), (70, B b98)], [.row .u8 x1 false, .row .nod x61 true, .row .rcd x62 true, .row .int x66 true]⟩) ?_ ?_
        · refine iteO_e hv99 (fun hb93 hv99 => ?_) (fun hb93 hv99 => ?_)
          · refine W_draw [] true (by kernel_rfl) (by kernel_rfl) ?_
            refine WD_takeK [0, 1, 2, 3, 4, 5, 6] [3, 4, 5, 6, 49] [3, 4, 5, 6, 49] (φ := ((0 ≤ (w64 (((x62.length : Nat) : Int) - 1)) ∧ (w64 (((x62.length : Nat) : Int) - 1)) < ((x62.length : Nat) : Int)) ∧ (0 ≤ (w64 (((x62.length : Nat) : Int) - 1)) ∧ (w64 (((x62.length : Nat) : Int) - 1)) < ((x62.length : Nat) : Int)) ∧ (True ∧ True ∧ True))) (ls' := #[true, true, true, true, true, true, true, false, false, false, false, false, false, false, false, false, false, false, false, false, false, false, false, false, false, false, false, false]) (Ts' := [(3, .one (.e (.sl 1 k63 k64))), (4, .one (.e (.sl 2 0 x62.length))), (5, .one (.e (.sl 3 0 x66.length))), (6, I (w64 (((x62.length : Nat) : Int) - 1))), (49, B (!(x62.getD ((w64 (((x62.length : Nat) : Int) - 1)).toNat) drcd).fin))]) (st' := ⟨[(3, .one (.e (.sl 1 k63 k64))), (4, .one (.e (.sl 2 0 x62.length))), (5, .one (.e (.sl 3 0 x66.length))), (6, I (w64 (((x62.length : Nat) : Int) - 1))), (49, B (!(x62.getD ((w64 (((x62.length : Nat) : Int) - 1)).toNat) drcd).fin))], [.row .u8 x1 false, .row .nod x61 true, .row .rcd x62 true, .row .int x66 true]⟩) (n2 := 21) (by kernel_rfl) ⟨hg92, hg92, trivial, trivial, trivial⟩ rfl ?_
            refine WD_known 49 true rfl rfl hb93 ?_
            refine WD_takeK [7, 8, 9, 10, 11, 12, 13, 14, 15, 16, 17, 18, 19, 20, 21, 22, 23, 24, 25, 26, 27] [3, 4, 5, 6, 70] [3, 4, 5, 6, 70] (φ := True) (ls' := #[true, true, true, true, true, true, true, true, true, true, true, true, true, true, true, true, true, true, true, true, true, true, true, true, true, true, true, true]) (Ts' := [(3, .one (.e (.sl 1 k63 k64))), (4, .one (.e (.sl 2 0 x62.length))), (5, .one (.e (.sl 3 0 x66.length))), (6, I (w64 (((x62.length : Nat) : Int) - 1))), (70, B true)]) (st' := ⟨[(3, .one (.e (.sl 1 k63 k64))), (4, .one (.e (.sl 2 0 x62.length))), (5, .one (.e (.sl 3 0 x66.length))), (6, I (w64 (((x62.length : Nat) : Int) - 1))), (70, B true)], [.row .u8 x1 false, .row .nod x61 true, .row .rcd x62 true, .row .int x66 true]⟩) (n2 := 0) (by kernel_rfl) trivial rfl ?_
            exact WD_done [0, 1, 2, 3] [3, 4, 5, 6, 70] (st' := ⟨[(3, .one (.e (.sl 1 k63 k64))), (4, .one (.e (.sl 2 0 x62.length))), (5, .one (.e (.sl 3 0 x66.length))), (6, I (w64 (((x62.length : Nat) : Int) - 1))), (70, B true)], [.row .u8 x1 false, .row .nod x61 true, .row .rcd x62 true, .row .int x66 true]⟩) (by kernel_rfl) (by kernel_rfl) (And.intro rfl (by cases hv99; rfl))
          · refine guardO_e hv99 (fun hg94 hv99 => ?_)
            refine guardO_e hv99 (fun hg95 hv99 => ?_)
            refine iteO_e hv99 (fun hb96 hv99 => ?_) (fun hb96 hv99 => ?_)
            · refine W_draw [] true (by kernel_rfl) (by kernel_rfl) ?_
              refine WD_takeK [0, 1, 2, 3, 4, 5, 6] [3, 4, 5, 6, 49] [3, 4, 5, 6, 49] (φ := ((0 ≤ (w64 (((x62.length : Nat) : Int) - 1)) ∧ (w64 (((x62.length : Nat) : Int) - 1)) < ((x62.length : Nat) : Int)) ∧ (0 ≤ (w64 (((x62.length : Nat) : Int) - 1)) ∧ (w64 (((x62.length : Nat) : Int) - 1)) < ((x62.length : Nat) : Int)) ∧ (True ∧ True ∧ True))) (ls' := #[true, true, true, true, true, true, true, false, false, false, false, false, false, false, false, false, false, false, false, false, false, false, false, false, false, false, false, false]) (Ts' := [(3, .one (.e (.sl 1 k63 k64))), (4, .one (.e (.sl 2 0 x62.length))), (5, .one (.e (.sl 3 0 x66.length))), (6, I (w64 (((x62.length : Nat) : Int) - 1))), (49, B (!(x62.getD ((w64 (((x62.length : Nat) : Int) - 1)).toNat) drcd).fin))]) (st' := ⟨[(3, .one (.e (.sl 1 k63 k64))), (4, .one (.e (.sl 2 0 x62.length))), (5, .one (.e (.sl 3 0 x66.length))), (6, I (w64 (((x62.length : Nat) : Int) - 1))), (49, B (!(x62.getD ((w64 (((x62.length : Nat) : Int) - 1)).toNat) drcd).fin))], [.row .u8 x1 false, .row .nod x61 true, .row .rcd x62 true, .row .int x66 true]⟩) (n2 := 21) (by kernel_rfl) ⟨hg92, hg92, trivial, trivial, trivial⟩ rfl ?_
              refine WD_known 49 false rfl rfl hb93 ?_
              refine WD_takeK [7, 8, 9, 10, 11, 12, 13, 14, 15, 16, 17, 18, 19, 20] [3, 4, 5, 6, 63] [3, 4, 5, 6, 63] (φ := (True ∧ True ∧ ((0 ≤ (w64 ((w64 (((x62.length : Nat) : Int) - 1)) - 1)) ∧ (w64 ((w64 (((x62.length : Nat) : Int) - 1)) - 1)) < ((x62.length : Nat) : Int)) ∧ (0 ≤ (w64 ((w64 (((x62.length : Nat) : Int) - 1)) - 1)) ∧ (w64 ((w64 (((x62.length : Nat) : Int) - 1)) - 1)) < ((x62.length : Nat) : Int)) ∧ (True ∧ True ∧ ((0 ≤ (w64 (((x62.length : Nat) : Int) - 1)) ∧ (w64 (((x62.length : Nat) : Int) - 1)) < ((x62.length : Nat) : Int)) ∧ (0 ≤ (w64 (((x62.length : Nat) : Int) - 1)) ∧ (w64 (((x62.length : Nat) : Int) - 1)) < ((x62.length : Nat) : Int)) ∧ (True ∧ True ∧ (True ∧ True ∧ True))))))) (ls' := #[true, true, true, true, true, true, true, true, true, true, true, true, true, true, true, true, true, true, true, true, true, false, false, false, false, false, false, false]) (Ts' := [(3, .one (.e (.sl 1 k63 k64))), (4, .one (.e (.sl 2 0 x62.length))), (5, .one (.e (.sl 3 0 x66.length))), (6, I (w64 (((x62.length : Nat) : Int) - 1))), (63, B (!decide (((x62.getD ((w64 ((w64 (((x62.length : Nat) : Int) - 1)) - 1)).toNat) drcd).who) = ((x62.getD ((w64 (((x62.length : Nat) : Int) - 1)).toNat) drcd).who))))]) (st' := ⟨[(3, .one (.e (.sl 1 k63 k64))), (4, .one (.e (.sl 2 0 x62.length))), (5, .one (.e (.sl 3 0 x66.length))), (6, I (w64 (((x62.length : Nat) : Int) - 1))), (63, B (!decide (((x62.getD ((w64 ((w64 (((x62.length : Nat) : Int) - 1)) - 1)).toNat) drcd).who) = ((x62.getD ((w64 (((x62.length : Nat) : Int) - 1)).toNat) drcd).who))))], [.row .u8 x1 false, .row .nod x61 true, .row .rcd x62 true, .row .int x66 true]⟩) (n2 := 7) (by kernel_rfl) ⟨trivial, trivial, hg94, hg94, trivial, trivial, hg95, hg95, trivial, trivial, trivial, trivial, trivial⟩ rfl ?_
              refine WD_known 63 true rfl rfl hb96 ?_
              refine WD_takeK [21, 22, 23, 24, 25, 26, 27] [3, 4, 5, 6, 70] [3, 4, 5, 6, 70] (φ := True) (ls' := #[true, true, true, true, true, true, true, true, true, true, true, true, true, true, true, true, true, true, true, true, true, true, true, true, true, true, true, true]) (Ts' := [(3, .one (.e (.sl 1 k63 k64))), (4, .one (.e (.sl 2 0 x62.length))), (5, .one (.e (.sl 3 0 x66.length))), (6, I (w64 (((x62.length : Nat) : Int) - 1))), (70, B true)]) (st' := ⟨[(3, .one (.e (.sl 1 k63 k64))), (4, .one (.e (.sl 2 0 x62.length))), (5, .one (.e (.sl 3 0 x66.length))), (6, I (w64 (((x62.length : Nat) : Int) - 1))), (70, B true)], [.row .u8 x1 false, .row .nod x61 true, .row .rcd x62 true, .row .int x66 true]⟩) (n2 := 0) (by kernel_rfl) trivial rfl ?_
              exact WD_done [0, 1, 2, 3] [3, 4, 5, 6, 70] (st' := ⟨[(3, .one (.e (.sl 1 k63 k64))), (4, .one (.e (.sl 2 0 x62.length))), (5, .one (.e (.sl 3 0 x66.length))), (6, I (w64 (((x62.length : Nat) : Int) - 1))), (70, B true)], [.row .u8 x1 false, .row .nod x61 true, .row .rcd x62 true, .row .int x66 true]⟩) (by kernel_rfl) (by kernel_rfl) (And.intro rfl (by cases hv99; rfl))
            · refine guardO_e hv99 (fun hg97 hv99 => ?_)
              refine W_draw [] true (by kernel_rfl) (by kernel_rfl) ?_
              refine WD_takeK [0, 1, 2, 3, 4, 5, 6] [3, 4, 5, 6, 49] [3, 4, 5, 6, 49] (φ := ((0 ≤ (w64 (((x62.length : Nat) : Int) - 1)) ∧ (w64 (((x62.length : Nat) : Int) - 1)) < ((x62.length : Nat) : Int)) ∧ (0 ≤ (w64 (((x62.length : Nat) : Int) - 1)) ∧ (w64 (((x62.length : Nat) : Int) - 1)) < ((x62.length : Nat) : Int)) ∧ (True ∧ True ∧ True))) (ls' := #[true, true, true, true, true, true, true, false, false, false, false, false, false, false, false, false, false, false, false, false, false, false, false, false, false, false, false, false]) (Ts' := [(3, .one (.e (.sl 1 k63 k64))), (4, .one (.e (.sl 2 0 x62.length))), (5, .one (.e (.sl 3 0 x66.length))), (6, I (w64 (((x62.length : Nat) : Int) - 1))), (49, B (!(x62.getD ((w64 (((x62.length : Nat) : Int) - 1)).toNat) drcd).fin))]) (st' := ⟨[(3, .one (.e (.sl 1 k63 k64))), (4, .one (.e (.sl 2 0 x62.length))), (5, .one (.e (.sl 3 0 x66.length))), (6, I (w64 (((x62.length : Nat) : Int) - 1))), (49, B (!(x62.getD ((w64 (((x62.length : Nat) : Int) - 1)).toNat) drcd).fin))], [.row .u8 x1 false, .row .nod x61 true, .row .rcd x62 true, .row .int x66 true]⟩) (n2 := 21) (by kernel_rfl) ⟨hg92, hg92, trivial, trivial, trivial⟩ rfl ?_
              refine WD_known 49 false rfl rfl hb93 ?_
              refine WD_takeK [7, 8, 9, 10, 11, 12, 13, 14, 15, 16, 17, 18, 19, 20] [3, 4, 5, 6, 63] [3, 4, 5, 6, 63] (φ := (True ∧ True ∧ ((0 ≤ (w64 ((w64 (((x62.length : Nat) : Int) - 1)) - 1)) ∧ (w64 ((w64 (((x62.length : Nat) : Int) - 1)) - 1)) < ((x62.length : Nat) : Int)) ∧ (0 ≤ (w64 ((w64 (((x62.length : Nat) : Int) - 1)) - 1)) ∧ (w64 ((w64 (((x62.length : Nat) : Int) - 1)) - 1)) < ((x62.length : Nat) : Int)) ∧ (True ∧ True ∧ ((0 ≤ (w64 (((x62.length : Nat) : Int) - 1)) ∧ (w64 (((x62.length : Nat) : Int) - 1)) < ((x62.length : Nat) : Int)) ∧ (0 ≤ (w64 (((x62.length : Nat) : Int) - 1)) ∧ (w64 (((x62.length : Nat) : Int) - 1)) < ((x62.length : Nat) : Int)) ∧ (True ∧ True ∧ (True ∧ True ∧ True))))))) (ls' := #[true, true, true, true, true, true, true, true, true, true, true, true, true, true, true, true, true, true, true, true, true, false, false, false, false, false, false, false]) (Ts' := [(3, .one (.e (.sl 1 k63 k64))), (4, .one (.e (.sl 2 0 x62.length))), (5, .one (.e (.sl 3 0 x66.length))), (6, I (w64 (((x62.length : Nat) : Int) - 1))), (63, B (!decide (((x62.getD ((w64 ((w64 (((x62.length : Nat) : Int) - 1)) - 1)).toNat) drcd).who) = ((x62.getD ((w64 (((x62.length : Nat) : Int) - 1)).toNat) drcd).who))))]) (st' := ⟨[(3, .one (.e (.sl 1 k63 k64))), (4, .one (.e (.sl 2 0 x62.length))), (5, .one (.e (.sl 3 0 x66.length))), (6, I (w64 (((x62.length : Nat) : Int) - 1))), (63, B (!decide (((x62.getD ((w64 ((w64 (((x62.length : Nat) : Int) - 1)) - 1)).toNat) drcd).who) = ((x62.getD ((w64 (((x62.length : Nat) : Int) - 1)).toNat) drcd).who))))], [.row .u8 x1 false, .row .nod x61 true, .row .rcd x62 true, .row .int x66 true]⟩) (n2 := 7) (by kernel_rfl) ⟨trivial, trivial, hg94, hg94, trivial, trivial, hg95, hg95, trivial, trivial, trivial, trivial, trivial⟩ rfl ?_
              refine WD_known 63 false rfl rfl hb96 ?_
              refine WD_takeK [21, 22, 23, 24, 25, 26, 27] [3, 4, 5, 6, 70] [3, 4, 5, 6, 70] (φ := (True ∧ True ∧ ((0 ≤ (w64 ((w64 (((x62.length : Nat) : Int) - 1)) - 1)) ∧ (w64 ((w64 (((x62.length : Nat) : Int) - 1)) - 1)) < ((x62.length : Nat) : Int)) ∧ (0 ≤ (w64 ((w64 (((x62.length : Nat) : Int) - 1)) - 1)) ∧ (w64 ((w64 (((x62.length : Nat) : Int) - 1)) - 1)) < ((x62.length : Nat) : Int)) ∧ (True ∧ True ∧ True)))) (ls' := #[true, true, true, true, true, true, true, true, true, true, true, true, true, true, true, true, true, true, true, true, true, true, true, true, true, true, true, true]) (Ts' := [(3, .one (.e (.sl 1 k63 k64))), (4, .one (.e (.sl 2 0 x62.length))), (5, .one (.e (.sl 3 0 x66.length))), (6, I (w64 (((x62.length : Nat) : Int) - 1))), (70, B ((x62.getD ((w64 ((w64 (((x62.length : Nat) : Int) - 1)) - 1)).toNat) drcd).fin))]) (st' := ⟨[(3, .one (.e (.sl 1 k63 k64))), (4, .one (.e (.sl 2 0 x62.length))), (5, .one (.e (.sl 3 0 x66.length))), (6, I (w64 (((x62.length : Nat) : Int) - 1))), (70, B ((x62.getD ((w64 ((w64 (((x62.length : Nat) : Int) - 1)) - 1)).toNat) drcd).fin))], [.row .u8 x1 false, .row .nod x61 true, .row .rcd x62 true, .row .int x66 true]⟩) (n2 := 0) (by kernel_rfl) ⟨trivial, trivial, hg97, hg97, trivial, trivial, trivial⟩ rfl ?_
              exact WD_done [0, 1, 2, 3] [3, 4, 5, 6, 70] (st' := ⟨[(3, .one (.e (.sl 1 k63 k64))), (4, .one (.e (.sl 2 0 x62.length))), (5, .one (.e (.sl 3 0 x66.length))), (6, I (w64 (((x62.length : Nat) : Int) - 1))), (70, B ((x62.getD ((w64 ((w64 (((x62.length : Nat) : Int) - 1)) - 1)).toNat) drcd).fin))], [.row .u8 x1 false, .row .nod x61 true, .row .rcd x62 true, .row .int x66 true]⟩) (by kernel_rfl) (by kernel_rfl) (And.intro rfl (by cases hv99; rfl))
        · rintro _ _ ⟨rfl, rfl⟩
          refine thenS_n ?_
          refine iteO_e h (fun hb101 h => W_true rfl hb101 ?_) (fun hb101 h => W_false rfl hb101 ?_)
          · refine W_seq ?_
            refine W_region ?_
            refine WO_step 1 [0] [2] True ⟨[(2, B true)], [.row .u8 x1 false]⟩ (by kernel_rfl) trivial ?_
            refine WO_nil rfl ?_
            refine thenS_n ?_
            refine W_ret ?_
            refine thenS_r ?_
            cases h
            exact ⟨[0], True, by kernel_rfl, trivial⟩
          · refine W_sub [0, 1, 2, 3] [3, 4, 5, 6] (st' := ⟨[(3, .one (.e (.sl 1 k63 k64))), (4, .one (.e (.sl 2 0 x62.length))), (5, .one (.e (.sl 3 0 x66.length))), (6, I (w64 (((x62.length : Nat) : Int) - 1)))], [.row .u8 x1 false, .row .nod x61 true, .row .rcd x62 true, .row .int x66 true]⟩) (by kernel_rfl) ?_
            refine W_skip ?_
            refine thenS_n ?_
            refine W_seq ?_
            refine guardO_e h (fun hg102 h => ?_)
            refine bindO_e h (fun x103 hc104 h => ?_)
            refine guardO_e h (fun hg105 h => ?_)
            refine bindO_e h (fun b106 hc107 h => ?_)
            refine bindO_e h (fun b112 hv113 h => ?_)
            refine W_cut (Q' := fun (e : Exit) (s : St) => e = .normal ∧ s = ⟨[(2, B b112)], [.row .u8 x1 false]⟩) ?_ ?_
            · refine iteO_e hv113 (fun hb108 hv113 => ?_) (fun hb108 hv113 => ?_)
              · refine guardO_e hv113 (fun hg109 hv113 => ?_)
                refine bindO_e hv113 (fun b110 hc111 hv113 => ?_)
                refine W_draw [] false (by kernel_rfl) (by kernel_rfl) ?_
                refine WD_takeK [0, 1, 2, 5, 6, 7, 8, 9] [4, 5, 6, 71, 72, 73, 80] [4, 5, 6, 71, 72, 73, 80] (φ := ((0 ≤ (w64 (((x62.length : Nat) : Int) - 1)) ∧ (w64 (((x62.length : Nat) : Int) - 1)) < ((x62.length : Nat) : Int)) ∧ (0 ≤ (w64 (((x62.length : Nat) : Int) - 1)) ∧ (w64 (((x62.length : Nat) : Int) - 1)) < ((x62.length : Nat) : Int)) ∧ (True ∧ True ∧ True))) (ls' := #[true, true, true, false, false, true, true, true, true, true, false, false, false, false, false, false, false, false, false, false, false, false]) (Ts' := [(4, .one (.e (.sl 2 0 x62.length))), (5, .one (.e (.sl 3 0 x66.length))), (6, I (w64 (((x62.length : Nat) : Int) - 1))), (71, .one (.e (.sl 1 k63 k64))), (72, .one (.e (.sl 2 0 x62.length))), (73, I (w64 (((x62.length : Nat) : Int) - 1))), (80, I ((x62.getD ((w64 (((x62.length : Nat) : Int) - 1)).toNat) drcd).who))]) (st' := ⟨[(4, .one (.e (.sl 2 0 x62.length))), (5, .one (.e (.sl 3 0 x66.length))), (6, I (w64 (((x62.length : Nat) : Int) - 1))), (71, .one (.e (.sl 1 k63 k64))), (72, .one (.e (.sl 2 0 x62.length))), (73, I (w64 (((x62.length : Nat) : Int) - 1))), (80, I ((x62.getD ((w64 (((x62.length : Nat) : Int) - 1)).toNat) drcd).who))], [.row .u8 x1 false, .row .nod x61 true, .row .rcd x62 true, .row .int x66 true]⟩) (n2 := 14) (by kernel_rfl) ⟨hg105, hg105, trivial, trivial, trivial⟩ rfl ?_
                refine WD_all [3] (n := 13) (by kernel_rfl) rfl ?_
                refine WM_op (φ := 0 ≤ (w64 (((x62.length : Nat) : Int) - 1)) ∧ (w64 (((x62.length : Nat) : Int) - 1)) ≤ ((x62.length : Nat) : Int)) (v := .one (.e (.sl 2 0 ((w64 (((x62.length : Nat) : Int) - 1)).toNat)))) (H' := [.row .u8 x1 false, .row .nod x61 true, .row .rcd x62 true, .row .int x66 true]) rfl rfl (by kernel_rfl) hg102 rfl (And.intro rfl (And.intro rfl (And.intro rfl (And.intro rfl (trivial))))) ?_
                refine WD_all [4] (n := 12) (by kernel_rfl) rfl ?_
                refine WM_call [.view 0, .view 1] Try.f13 rfl rfl (by kernel_rfl) rfl rfl (by kernel_rfl) (impl_LosersOf_ok n ((x61.drop k63).take k64) ((x62.drop 0).take ((w64 (((x62.length : Nat) : Int) - 1)).toNat)) x103 hc104) (trivial) rfl (And.intro rfl (And.intro rfl (And.intro rfl (And.intro rfl (trivial))))) ?_
                refine WD_all [10] (n := 11) (by kernel_rfl) rfl ?_
                refine WM_call [.ro 4] Try.f17 rfl rfl (by kernel_rfl) rfl rfl (by kernel_rfl) (laws_isIn_ok n x103 ((x62.getD ((w64 (((x62.length : Nat) : Int) - 1)).toNat) drcd).who) b106 hc107) (And.intro (And.intro rfl rfl) (trivial)) rfl (And.intro rfl (And.intro rfl (And.intro rfl (And.intro rfl (trivial))))) ?_
                refine WD_takeK [11] [4, 5, 6, 82] [4, 5, 6, 82] (φ := True) (ls' := #[true, true, true, true, true, true, true, true, true, true, true, true, false, false, false, false, false, false, false, false, false, false]) (Ts' := [(4, .one (.e (.sl 2 0 x62.length))), (5, .one (.e (.sl 3 0 x66.length))), (6, I (w64 (((x62.length : Nat) : Int) - 1))), (82, B b106)]) (st' := ⟨[(4, .one (.e (.sl 2 0 x62.length))), (5, .one (.e (.sl 3 0 x66.length))), (6, I (w64 (((x62.length : Nat) : Int) - 1))), (82, B b106)], [.row .u8 x1 false, .row .nod x61 true, .row .rcd x62 true, .row .int x66 true, .row .int x103 true]⟩) (n2 := 10) (by kernel_rfl) trivial rfl ?_
                refine WD_known 82 true rfl rfl hb108 ?_
                refine WD_takeK [12, 13, 14, 15, 16, 17] [82, 83, 88] [82, 83, 88] (φ := ((0 ≤ (w64 (((x62.length : Nat) : Int) - 1)) ∧ (w64 (((x62.length : Nat) : Int) - 1)) < ((x62.length : Nat) : Int)) ∧ (0 ≤ (w64 (((x62.length : Nat) : Int) - 1)) ∧ (w64 (((x62.length : Nat) : Int) - 1)) < ((x62.length : Nat) : Int)) ∧ (True ∧ True ∧ True))) (ls' := #[true, true, true, true, true, true, true, true, true, true, true, true, true, true, true, true, true, true, false, false, false, false]) (Ts' := [(82, B true), (83, .one (.e (.sl 3 0 x66.length))), (88, I ((x62.getD ((w64 (((x62.length : Nat) : Int) - 1)).toNat) drcd).who))]) (st' := ⟨[(82, B true), (83, .one (.e (.sl 3 0 x66.length))), (88, I ((x62.getD ((w64 (((x62.length : Nat) : Int) - 1)).toNat) drcd).who))], [.row .u8 x1 false, .row .nod x61 true, .row .rcd x62 true, .row .int x66 true, .row .int x103 true]⟩) (n2 := 4) (by kernel_rfl) ⟨hg109, hg109, trivial, trivial, trivial⟩ rfl ?_
                refine WD_all [18] (n := 3) (by kernel_rfl) rfl ?_
                refine WM_call [.ro 3] Try.f17 rfl rfl (by kernel_rfl) rfl rfl (by kernel_rfl) (laws_isIn_ok n x66 ((x62.getD ((w64 (((x62.length : Nat) : Int) - 1)).toNat) drcd).who) b110 hc111) (And.intro (And.intro rfl rfl) (trivial)) rfl (And.intro rfl (And.intro rfl (And.intro rfl (And.intro rfl (trivial))))) ?_
                refine WD_takeK [19, 20, 21] [2] [2] (φ := True) (ls' := #[true, true, true, true, true, true, true, true, true, true, true, true, true, true, true, true, true, true, true, true, true, true]) (Ts' := [(2, B (!b110))]) (st' := ⟨[(2, B (!b110))], [.row .u8 x1 false, .row .nod x61 true, .row .rcd x62 true, .row .int x66 true, .row .int x103 true]⟩) (n2 := 0) (by kernel_rfl) trivial rfl ?_
                exact WD_done [0] [2] (st' := ⟨[(2, B (!b110))], [.row .u8 x1 false]⟩) (by kernel_rfl) (by kernel_rfl) (And.intro rfl (by cases hv113; rfl))
              · refine W_draw [] false (by kernel_rfl) (by kernel_rfl) ?_
                refine WD_takeK [0, 1, 2, 5, 6, 7, 8, 9] [4, 5, 6, 71, 72, 73, 80] [4, 5, 6, 71, 72, 73, 80] (φ := ((0 ≤ (w64 (((x62.length : Nat) : Int) - 1)) ∧ (w64 (((x62.length : Nat) : Int) - 1)) < ((x62.length : Nat) : Int)) ∧ (0 ≤ (w64 (((x62.length : Nat) : Int) - 1)) ∧ (w64 (((x62.length : Nat) : Int) - 1)) < ((x62.length : Nat) : Int)) ∧ (True ∧ True ∧ True))) (ls' := #[true, true, true, false, false, true, true, true, true, true, false, false, false, false, false, false, false, false, false, false, false, false]) (Ts' := [(4, .one (.e (.sl 2 0 x62.length))), (5, .one (.e (.sl 3 0 x66.length))), (6, I (w64 (((x62.length : Nat) : Int) - 1))), (71, .one (.e (.sl 1 k63 k64))), (72, .one (.e (.sl 2 0 x62.length))), (73, I (w64 (((x62.length : Nat) : Int) - 1))), (80, I ((x62.getD ((w64 (((x62.length : Nat) : Int) - 1)).toNat) drcd).who))]) (st' := ⟨[(4, .one (.e (.sl 2 0 x62.length))), (5, .one (.e (.sl 3 0 x66.length))), (6, I (w64 (((x62.length : Nat) : Int) - 1))), (71, .one (.e (.sl 1 k63 k64))), (72, .one (.e (.sl 2 0 x62.length))), (73, I (w64 (((x62.length : Nat) : Int) - 1))), (80, I ((x62.getD ((w64 (((x62.length : Nat) : Int) - 1)).toNat) drcd).who))], [.row .u8 x1 false, .row .nod x61 true, .row .rcd x62 true, .row .int x66 true]⟩) (n2 := 14) (by kernel_rfl) ⟨hg105, hg105, trivial, trivial, trivial⟩ rfl ?_
                refine WD_all [3] (n := 13) (by kernel_rfl) rfl ?_
                refine WM_op (φ := 0 ≤ (w64 (((x62.length : Nat) : Int) - 1)) ∧ (w64 (((x62.length : Nat) : Int) - 1)) ≤ ((x62.length : Nat) : Int)) (v := .one (.e (.sl 2 0 ((w64 (((x62.length : Nat) : Int) - 1)).toNat)))) (H' := [.row .u8 x1 false, .row .nod x61 true, .row .rcd x62 true, .row .int x66 true]) rfl rfl (by kernel_rfl) hg102 rfl (And.intro rfl (And.intro rfl (And.intro rfl (And.intro rfl (trivial))))) ?_
                refine WD_all [4] (n := 12) (by kernel_rfl) rfl ?_
                refine WM_call [.view 0, .view 1] Try.f13 rfl rfl (by kernel_rfl) rfl rfl (by kernel_rfl) (impl_LosersOf_ok n ((x61.drop k63).take k64) ((x62.drop 0).take ((w64 (((x62.length : Nat) : Int) - 1)).toNat)) x103 hc104) (trivial) rfl (And.intro rfl (And.intro rfl (And.intro rfl (And.intro rfl (trivial))))) ?_
                refine WD_all [10] (n := 11) (by kernel_rfl) rfl ?_
                refine WM_call [.ro 4] Try.f17 rfl rfl (by kernel_rfl) rfl rfl (by kernel_rfl) (laws_isIn_ok n x103 ((x62.getD ((w64 (((x62.length : Nat) : Int) - 1)).toNat) drcd).who) b106 hc107) (And.intro (And.intro rfl rfl) (trivial)) rfl (And.intro rfl (And.intro rfl (And.intro rfl (And.intro rfl (trivial))))) ?_
                refine WD_takeK [11] [4, 5, 6, 82] [4, 5, 6, 82] (φ := True) (ls' := #[true, true, true, true, true, true, true, true, true, true, true, true, false, false, false, false, false, false, false, false, false, false]) (Ts' := [(4, .one (.e (.sl 2 0 x62.length))), (5, .one (.e (.sl 3 0 x66.length))), (6, I (w64 (((x62.length : Nat) : Int) - 1))), (82, B b106)]) (st' := ⟨[(4, .one (.e (.sl 2 0 x62.length))), (5, .one (.e (.sl 3 0 x66.length))), (6, I (w64 (((x62.length : Nat) : Int) - 1))), (82, B b106)], [.row .u8 x1 false, .row .nod x61 true, .row .rcd x62 true, .row .int x66 true, .row .int x103 true]⟩) (n2 := 10) (by kernel_rfl) trivial rfl ?_
                refine WD_known 82 false rfl rfl hb108 ?_
                refine WD_takeK [12, 13, 14, 15, 16, 17, 18, 19, 20, 21] [2] [2] (φ := True) (ls' := #[true, true, true, true, true, true, true, true, true, true, true, true, true, true, true, true, true, true, true, true, true, true]) (Ts' := [(2, B false)]) (st' := ⟨[(2, B false)], [.row .u8 x1 false, .row .nod x61 true, .row .rcd x62 true, .row .int x66 true, .row .int x103 true]⟩) (n2 := 0) (by kernel_rfl) trivial rfl ?_
                exact WD_done [0] [2] (st' := ⟨[(2, B false)], [.row .u8 x1 false]⟩) (by kernel_rfl) (by kernel_rfl) (And.intro rfl (by cases hv113; rfl))
            · rintro _ _ ⟨rfl, rfl⟩
              refine thenS_n ?_
              refine W_ret ?_
              cases h
              exact ⟨[0], True, by kernel_rfl, trivial⟩

/- impl.Node] -/
def slices_Clone_Node (x1 : List Nod) : Option (List Nod) :=
 guardO (x1.length ≤ 1099511627776) <|
 some x1

theorem slices_Clone_Node_ok (x1 x2 : List Nod) (h : slices_Clone_Node x1 = some x2) : FOk EE 47 [.one (.e (.sl 0 0 x1.length))] [.row .nod x1 false] (.one (.e (.sl 1 0 x2.length))) [.row .nod x1 false, .row .nod x2 true] := by
  unfold slices_Clone_Node at h
  refine guardO_e h (fun hg h => ?_)
  cases h
  refine FOk_of_W 8 1 Try.func47 rfl rfl (Nat.le_of_ble_eq_true rfl) rfl (fun w X θ => ?_)
  refine W_seq ?_
  refine W_region ?_
  refine WO_step 1 [0] [0] True ⟨[(0, .one (.e (.sl 0 0 x1.length)))], [.row .nod x1 false]⟩ (by kernel_rfl) trivial ?_
  refine WO_nil rfl ?_
  refine thenS_n ?_
  refine W_seq ?_
  refine W_seq ?_
  refine W_region ?_
  refine WO_step 1 [0] [0, 3] True ⟨[(0, .one (.e (.sl 0 0 x1.length))), (3, .one (.e (.sl 0 0 x1.length)))], [.row .nod x1 false]⟩ (by kernel_rfl) trivial ?_
  refine WO_isnil (R := .nod) (xs := x1) (own := false) rfl rfl rfl rfl Try.underlying23 rfl rfl rfl (fun b hb => ?_)
  refine WO_nil rfl ?_
  refine thenS_n ?_
  cases b with
  | true =>
    have e : x1 = [] := List.eq_nil_of_length_eq_zero (hb rfl)
    subst e
    refine W_true rfl rfl ?_
    refine W_seq ?_
    refine W_region ?_
    refine WO_step 1 [0] [2] True ⟨[(2, .one (.e .nsl))], [.row .nod [] false]⟩ (by kernel_rfl) trivial ?_
    refine WO_nil rfl ?_
    refine thenS_n ?_
    refine W_nil 2 .nod rfl ?_
    refine W_ret ?_
    refine thenS_r ?_
    exact ⟨[0, 1], True, by kernel_rfl, trivial⟩
  | false =>
    refine W_false rfl rfl ?_
    refine W_sub [0] [0] (st' := ⟨[(0, .one (.e (.sl 0 0 x1.length)))], [.row .nod x1 false]⟩) (by kernel_rfl) ?_
    refine W_skip ?_
    refine thenS_n ?_
    refine W_seq ?_
    refine W_region ?_
    refine WO_step 4 [0, 2] [2] ((0 = 0 ∧ 0 = ([] : List Nod).length ∧ ([] : List Nod).length + ((x1.drop 0).take x1.length).length ≤ 1099511627776) ∧ True) ⟨[(2, .one (.e (.sl 1 0 (([] : List Nod) ++ ((x1.drop 0).take x1.length)).length)))], [.row .nod x1 false, .row .nod (([] : List Nod) ++ ((x1.drop 0).take x1.length)) true]⟩ (by kernel_rfl) ⟨⟨rfl, rfl, by simpa using hg⟩, trivial⟩ ?_
    refine WO_eq (st' := ⟨[(2, .one (.e (.sl 1 0 x1.length)))], [.row .nod x1 false, .row .nod x1 true]⟩) (by simp only [List.drop_zero, List.take_length, List.nil_append]) ?_
    refine WO_nil rfl ?_
    refine thenS_n ?_
    refine W_ret ?_
    exact ⟨[0, 1], True, by kernel_rfl, trivial⟩

/- impl.RedoLog -/
def impl_RedoLog_L1 (x2 : List Rcd) (x1 : List Nod) : Nat → (List Nod) → Int → Option ((List Nod))
| 0, _, _ => none
| n + 1, x98, i99 =>
 iteO (decide (i99 < ((x2.length : Nat) : Int)))
 (guardO (0 ≤ i99 ∧ i99 < ((x2.length : Nat) : Int)) <|
 bindO (impl_isDone n x2 i99) fun b130 =>
 bindO (iteO b130
 (guardO (0 ≤ (x2.getD i99.toNat drcd).node ∧ (x2.getD i99.toNat drcd).node < ((x98.length : Nat) : Int)) <|
 some (x98.set (((x2.getD i99.toNat drcd).node).toNat) (⟨(x98.getD (((x2.getD i99.toNat drcd).node).toNat) dnod).parent, (x98.getD (((x2.getD i99.toNat drcd).node).toNat) dnod).name, (x2.getD i99.toNat drcd).value⟩ : Nod)))
 (some x98)) fun x134 =>
 impl_RedoLog_L1 x2 x1 n x134 (w64 (i99 + 1)))
 (some x98)

theorem impl_RedoLog_L1_ok (w : World) (X : Nat → Prop) (θ : List Loc) (x2 : List Rcd) (x1 : List Nod) (x118 : (List Nod)) : ∀ (n : Nat) (x98 : List Nod) (i99 : Int), impl_RedoLog_L1 x2 x1 n x98 i99 = some x118 → WL EE ⟨w, X, θ, 33, 2⟩ (subC [1, 1, 1, 0, 1, 4, 4] (bodyC Try.f19)) (fun (e : Exit) (s : St) => e = .exit 0 ∧ s = ⟨[(5, .one (.e (.sl 2 0 x118.length)))], [.row .nod x1 false, .row .rcd x2 false, .row .nod x118 true]⟩) ⟨[(1, .one (.e (.sl 1 0 x2.length))), (5, .one (.e (.sl 2 0 x98.length))), (14, .one (.e (.sl 1 0 x2.length))), (15, I ((x2.length : Nat) : Int)), (16, I i99)], [.row .nod x1 false, .row .rcd x2 false, .row .nod x98 true]⟩ := by
  intro n
  induction n with
  | zero => intro _ _ h; exact none_e h
  | succ n ih =>
    intro x98 i99 h
    rw [impl_RedoLog_L1] at h
    refine WL_round ?_
    refine W_seq ?_
    refine W_region ?_
    refine WO_step 1 [0, 1, 2] [1, 5, 14, 15, 16, 17] (True ∧ True) ⟨[(1, .one (.e (.sl 1 0 x2.length))), (5, .one (.e (.sl 2 0 x98.length))), (14, .one (.e (.sl 1 0 x2.length))), (15, I ((x2.length : Nat) : Int)), (16, I i99), (17, B (decide (i99 < ((x2.length : Nat) : Int))))], [.row .nod x1 false, .row .rcd x2 false, .row .nod x98 true]⟩ (by kernel_rfl) ⟨trivial, trivial⟩ ?_
    refine WO_nil rfl ?_
    refine thenS_n ?_
    refine W_seq ?_
    refine iteO_e h (fun hb121 h => W_true rfl hb121 ?_) (fun hb121 h => W_false rfl hb121 ?_)
    · refine W_sub [0, 1, 2] [1, 5, 14, 15, 16] (st' := ⟨[(1, .one (.e (.sl 1 0 x2.length))), (5, .one (.e (.sl 2 0 x98.length))), (14, .one (.e (.sl 1 0 x2.length))), (15, I ((x2.length : Nat) : Int)), (16, I i99)], [.row .nod x1 false, .row .rcd x2 false, .row .nod x98 true]⟩) (by kernel_rfl) ?_
      refine W_skip ?_
      refine thenS_n ?_
      refine W_seq ?_
      refine W_block ?_
      refine W_seq ?_
      refine W_region ?_
      refine guardO_e h (fun hg129 h => ?_)
      refine WO_step 6 [0, 1, 2, 3] [1, 5, 6, 7, 14, 15, 16] ((0 ≤ i99 ∧ i99 < ((x2.length : Nat) : Int)) ∧ (True ∧ (True ∧ (True ∧ True)))) ⟨[(1, .one (.e (.sl 1 0 x2.length))), (5, .one (.e (.sl 2 0 x98.length))), (6, I i99), (7, .one (.e (.p 3 0))), (14, .one (.e (.sl 1 0 x2.length))), (15, I ((x2.length : Nat) : Int)), (16, I i99)], [.row .nod x1 false, .row .rcd x2 false, .row .nod x98 true, .cells [cI ((x2.getD i99.toNat drcd).who), cI ((x2.getD i99.toNat drcd).node), cI ((x2.getD i99.toNat drcd).value), cB ((x2.getD i99.toNat drcd).fin)]]⟩ (by kernel_rfl) ⟨hg129, trivial, trivial, trivial, trivial⟩ ?_
      refine WO_nil rfl ?_
      refine thenS_n ?_
      refine W_seq ?_
      refine W_region ?_
      refine WO_step 2 [0, 1, 2, 3] [1, 5, 7, 14, 15, 16, 21, 22] True ⟨[(1, .one (.e (.sl 1 0 x2.length))), (5, .one (.e (.sl 2 0 x98.length))), (7, .one (.e (.p 3 0))), (14, .one (.e (.sl 1 0 x2.length))), (15, I ((x2.length : Nat) : Int)), (16, I i99), (21, .one (.e (.sl 1 0 x2.length))), (22, I i99)], [.row .nod x1 false, .row .rcd x2 false, .row .nod x98 true, .cells [cI ((x2.getD i99.toNat drcd).who), cI ((x2.getD i99.toNat drcd).node), cI ((x2.getD i99.toNat drcd).value), cB ((x2.getD i99.toNat drcd).fin)]]⟩ (by kernel_rfl) trivial ?_
      refine bindO_e h (fun b130 hc131 h => ?_)
      refine WO_call [.ro 1] Try.f40 rfl rfl rfl (by kernel_rfl) rfl rfl (by kernel_rfl) (impl_isDone_ok n x2 i99 b130 hc131) (And.intro (And.intro rfl rfl) (trivial)) rfl ?_
      refine WO_sub [0, 1, 2, 3] [1, 5, 7, 14, 15, 16, 23] (st' := ⟨[(1, .one (.e (.sl 1 0 x2.length))), (5, .one (.e (.sl 2 0 x98.length))), (7, .one (.e (.p 3 0))), (14, .one (.e (.sl 1 0 x2.length))), (15, I ((x2.length : Nat) : Int)), (16, I i99), (23, B b130)], [.row .nod x1 false, .row .rcd x2 false, .row .nod x98 true, .cells [cI ((x2.getD i99.toNat drcd).who), cI ((x2.getD i99.toNat drcd).node), cI ((x2.getD i99.toNat drcd).value), cB ((x2.getD i99.toNat drcd).fin)]]⟩) (by kernel_rfl) ?_
      refine WO_nil rfl ?_
      refine thenS_n ?_
      refine bindO_e h (fun x134 hx134 h => ?_)
      refine W_cut (Q' := fun (e : Exit) (s : St) => e = .normal ∧ s = ⟨[(1, .one (.e (.sl 1 0 x2.length))), (5, .one (.e (.sl 2 0 x134.length))), (14, .one (.e (.sl 1 0 x2.length))), (15, I ((x2.length : Nat) : Int)), (16, I i99)], [.row .nod x1 false, .row .rcd x2 false, .row .nod x134 true]⟩) ?_ ?_
      · refine iteO_e hx134 (fun hb136 hx134 => W_true rfl hb136 ?_) (fun hb136 hx134 => W_false rfl hb136 ?_)
        · refine W_region ?_
          refine guardO_e hx134 (fun hg137 hx134 => ?_)
          refine WO_step 8 [0, 1, 2] [1, 5, 14, 15, 16] (True ∧ (True ∧ ((0 ≤ (x2.getD i99.toNat drcd).node ∧ (x2.getD i99.toNat drcd).node < ((x98.length : Nat) : Int)) ∧ (True ∧ True)))) ⟨[(1, .one (.e (.sl 1 0 x2.length))), (5, .one (.e (.sl 2 0 x98.length))), (14, .one (.e (.sl 1 0 x2.length))), (15, I ((x2.length : Nat) : Int)), (16, I i99)], [.row .nod x1 false, .row .rcd x2 false, .row .nod (x98.set (((x2.getD i99.toNat drcd).node).toNat) (⟨(x98.getD (((x2.getD i99.toNat drcd).node).toNat) dnod).parent, (x98.getD (((x2.getD i99.toNat drcd).node).toNat) dnod).name, (x2.getD i99.toNat drcd).value⟩ : Nod)) true]⟩ (by kernel_rfl) ⟨trivial, trivial, hg137, trivial, trivial⟩ ?_
          refine WO_eq (st' := ⟨[(1, .one (.e (.sl 1 0 x2.length))), (5, .one (.e (.sl 2 0 ((x98.set (((x2.getD i99.toNat drcd).node).toNat) (⟨(x98.getD (((x2.getD i99.toNat drcd).node).toNat) dnod).parent, (x98.getD (((x2.getD i99.toNat drcd).node).toNat) dnod).name, (x2.getD i99.toNat drcd).value⟩ : Nod)).length)))), (14, .one (.e (.sl 1 0 x2.length))), (15, I ((x2.length : Nat) : Int)), (16, I i99)], [.row .nod x1 false, .row .rcd x2 false, .row .nod (x98.set (((x2.getD i99.toNat drcd).node).toNat) (⟨(x98.getD (((x2.getD i99.toNat drcd).node).toNat) dnod).parent, (x98.getD (((x2.getD i99.toNat drcd).node).toNat) dnod).name, (x2.getD i99.toNat drcd).value⟩ : Nod)) true]⟩) (by simp only [List.length_set]) ?_
          refine WO_nil rfl ?_
          cases hx134
          exact And.intro rfl rfl
        · refine W_sub [0, 1, 2] [1, 5, 14, 15, 16] (st' := ⟨[(1, .one (.e (.sl 1 0 x2.length))), (5, .one (.e (.sl 2 0 x98.length))), (14, .one (.e (.sl 1 0 x2.length))), (15, I ((x2.length : Nat) : Int)), (16, I i99)], [.row .nod x1 false, .row .rcd x2 false, .row .nod x98 true]⟩) (by kernel_rfl) ?_
          refine W_skip ?_
          cases hx134
          exact And.intro rfl rfl
      · rintro _ _ ⟨rfl, rfl⟩
        refine blockS_n ?_
        refine thenS_n ?_
        refine W_region ?_
        refine WO_step 2 [0, 1, 2] [1, 5, 14, 15, 16] (True ∧ True) ⟨[(1, .one (.e (.sl 1 0 x2.length))), (5, .one (.e (.sl 2 0 x134.length))), (14, .one (.e (.sl 1 0 x2.length))), (15, I ((x2.length : Nat) : Int)), (16, I (w64 (i99 + 1)))], [.row .nod x1 false, .row .rcd x2 false, .row .nod x134 true]⟩ (by kernel_rfl) ⟨trivial, trivial⟩ ?_
        refine WO_nil rfl ?_
        refine thenS_n ?_
        exact ih _ _ h
    · refine W_sub [0, 1, 2] [5] (st' := ⟨[(5, .one (.e (.sl 2 0 x98.length)))], [.row .nod x1 false, .row .rcd x2 false, .row .nod x98 true]⟩) (by kernel_rfl) ?_
      refine W_exit ?_
      refine thenS_e ?_
      refine thenS_e ?_
      cases h
      exact And.intro rfl rfl

def impl_RedoLog (n : Nat) (x1 : List Nod) (x2 : List Rcd) : Option ((List Nod)) :=
 bindO (impl_ValidLog n x1 x2) fun b70 =>
 iteO (!b70)
 (some ([] : List Nod))
 (bindO (slices_Clone_Node x1) fun x74 =>
 bindO (impl_RedoLog_L1 x2 x1 n x74 0) fun x118 =>
 some x118)

theorem impl_RedoLog_ok (n : Nat) (x1 : List Nod) (x2 : List Rcd) (x69 : List Nod) (h : impl_RedoLog n x1 x2 = some x69) : FOk EE 19 [.one (.e (.sl 0 0 x1.length)), .one (.e (.sl 1 0 x2.length))] [.row .nod x1 false, .row .rcd x2 false] (.one (.e (.sl 2 0 x69.length))) [.row .nod x1 false, .row .rcd x2 false, .row .nod x69 true] := by
  unfold impl_RedoLog at h
  refine FOk_of_W 33 2 Try.func19 rfl rfl (Nat.le_of_ble_eq_true rfl) rfl (fun w X θ => ?_)
  refine W_seq ?_
  refine W_region ?_
  refine WO_step 1 [0, 1] [0, 1] True ⟨[(0, .one (.e (.sl 0 0 x1.length))), (1, .one (.e (.sl 1 0 x2.length)))], [.row .nod x1 false, .row .rcd x2 false]⟩ (by kernel_rfl) trivial ?_
  refine WO_nil rfl ?_
  refine thenS_n ?_
  refine W_seq ?_
  refine W_seq ?_
  refine W_region ?_
  refine WO_step 2 [0, 1] [0, 1, 8, 9] True ⟨[(0, .one (.e (.sl 0 0 x1.length))), (1, .one (.e (.sl 1 0 x2.length))), (8, .one (.e (.sl 0 0 x1.length))), (9, .one (.e (.sl 1 0 x2.length)))], [.row .nod x1 false, .row .rcd x2 false]⟩ (by kernel_rfl) trivial ?_
  refine bindO_e h (fun b70 hc71 h => ?_)
  refine WO_call [.ro 0, .ro 1] Try.f16 rfl rfl rfl (by kernel_rfl) rfl rfl (by kernel_rfl) (impl_ValidLog_ok n x1 x2 b70 hc71) (And.intro (And.intro rfl rfl) (And.intro (And.intro rfl rfl) (trivial))) rfl ?_
  refine WO_step 1 [0, 1] [0, 1, 11] True ⟨[(0, .one (.e (.sl 0 0 x1.length))), (1, .one (.e (.sl 1 0 x2.length))), (11, B (!b70))], [.row .nod x1 false, .row .rcd x2 false]⟩ (by kernel_rfl) trivial ?_
  refine WO_nil rfl ?_
  refine thenS_n ?_
  refine iteO_e h (fun hb73 h => W_true rfl hb73 ?_) (fun hb73 h => W_false rfl hb73 ?_)
  · refine W_seq ?_
    refine W_region ?_
    refine WO_step 1 [0, 1] [4] True ⟨[(4, .one (.e (.nsl)))], [.row .nod x1 false, .row .rcd x2 false]⟩ (by kernel_rfl) trivial ?_
    refine WO_nilrow 4 .nod rfl ?_
    refine WO_sub [0, 1, 2] [4] (st' := ⟨[(4, .one (.e (.sl 2 0 (([] : List Nod).length))))], [.row .nod x1 false, .row .rcd x2 false, .row .nod ([] : List Nod) true]⟩) (by kernel_rfl) ?_
    refine WO_nil rfl ?_
    refine thenS_n ?_
    refine W_ret ?_
    refine thenS_r ?_
    cases h
    exact ⟨[0, 1, 2], True, by kernel_rfl, trivial⟩
  · refine W_sub [0, 1] [0, 1] (st' := ⟨[(0, .one (.e (.sl 0 0 x1.length))), (1, .one (.e (.sl 1 0 x2.length)))], [.row .nod x1 false, .row .rcd x2 false]⟩) (by kernel_rfl) ?_
    refine W_skip ?_
    refine thenS_n ?_
    refine W_seq ?_
    refine W_region ?_
    refine WO_step 1 [0, 1] [1, 12] True ⟨[(1, .one (.e (.sl 1 0 x2.length))), (12, .one (.e (.sl 0 0 x1.length)))], [.row .nod x1 false, .row .rcd x2 false]⟩ (by kernel_rfl) trivial ?_
    refine bindO_e h (fun x74 hc75 h => ?_)
    refine WO_call [.ro 0] Try.f47 rfl rfl rfl (by kernel_rfl) rfl rfl (by kernel_rfl) (slices_Clone_Node_ok x1 x74 hc75) (And.intro (And.intro rfl rfl) (trivial)) rfl ?_
    refine WO_step 1 [0, 1, 2] [1, 5] True ⟨[(1, .one (.e (.sl 1 0 x2.length))), (5, .one (.e (.sl 2 0 x74.length)))], [.row .nod x1 false, .row .rcd x2 false, .row .nod x74 true]⟩ (by kernel_rfl) trivial ?_
    refine WO_nil rfl ?_
    refine thenS_n ?_
    refine W_seq ?_
    refine W_seq ?_
    refine W_region ?_
    refine WO_step 3 [0, 1, 2] [1, 5, 14, 15, 16] (True ∧ True) ⟨[(1, .one (.e (.sl 1 0 x2.length))), (5, .one (.e (.sl 2 0 x74.length))), (14, .one (.e (.sl 1 0 x2.length))), (15, I ((x2.length : Nat) : Int)), (16, I 0)], [.row .nod x1 false, .row .rcd x2 false, .row .nod x74 true]⟩ (by kernel_rfl) ⟨trivial, trivial⟩ ?_
    refine WO_nil rfl ?_
    refine thenS_n ?_
    refine W_block ?_
    refine W_loop ?_
    refine bindO_e h (fun x118 hx118 h => ?_)
    refine WL_cut (impl_RedoLog_L1_ok w X θ x2 x1 x118 n x74 0 hx118) ?_
    rintro _ _ ⟨rfl, rfl⟩
    refine blockS_y ?_
    refine thenS_n ?_
    refine W_seq ?_
    refine W_region ?_
    refine WO_step 2 [0, 1, 2] [4] True ⟨[(4, .one (.e (.sl 2 0 x118.length)))], [.row .nod x1 false, .row .rcd x2 false, .row .nod x118 true]⟩ (by kernel_rfl) trivial ?_
    refine WO_nil rfl ?_
    refine thenS_n ?_
    refine W_ret ?_
    cases h
    exact ⟨[0, 1, 2], True, by kernel_rfl, trivial⟩

/- spec.RedoLog -/
def spec_RedoLog_L1 (x2 : List Rcd) (x1 : List Nod) : Nat → (List Nod) → Int → Option ((List Nod))
| 0, _, _ => none
| n + 1, x192, i193 =>
 iteO (decide (i193 < ((x2.length : Nat) : Int)))
 (guardO (0 ≤ i193 ∧ i193 < ((x2.length : Nat) : Int)) <|
 bindO (iteO (!(x2.getD i193.toNat drcd).fin)
 (guardO (0 ≤ i193 ∧ i193 < ((x2.length : Nat) : Int)) <|
 bindO (spec_ended n x2 (w64 (i193 + 1)) ((x2.getD i193.toNat drcd).who)) fun b262 =>
 some b262)
 (some false)) fun b258 =>
 bindO (iteO b258
 (guardO (0 ≤ i193 ∧ i193 < ((x2.length : Nat) : Int)) <|
 guardO (0 ≤ i193 ∧ i193 < ((x2.length : Nat) : Int)) <|
 guardO (0 ≤ (x2.getD i193.toNat drcd).node ∧ (x2.getD i193.toNat drcd).node < ((x192.length : Nat) : Int)) <|
 some (x192.set (((x2.getD i193.toNat drcd).node).toNat) (⟨(x192.getD (((x2.getD i193.toNat drcd).node).toNat) dnod).parent, (x192.getD (((x2.getD i193.toNat drcd).node).toNat) dnod).name, (x2.getD i193.toNat drcd).value⟩ : Nod)))
 (some x192)) fun x268 =>
 spec_RedoLog_L1 x2 x1 n x268 (w64 (i193 + 1)))
 (some x192)

theorem spec_RedoLog_L1_ok (w : World) (X : Nat → Prop) (θ : List Loc) (x2 : List Rcd) (x1 : List Nod) (x232 : (List Nod)) : ∀ (n : Nat) (x192 : List Nod) (i193 : Int), spec_RedoLog_L1 x2 x1 n x192 i193 = some x232 → WL EE ⟨w, X, θ, 56, 2⟩ (subC [1, 1, 1, 0, 1, 4, 4] (bodyC Try.f21)) (fun (e : Exit) (s : St) => e = .exit 0 ∧ s = ⟨[(5, .one (.e (.sl 2 0 x232.length)))], [.row .nod x1 false, .row .rcd x2 false, .row .nod x232 true]⟩) ⟨[(1, .one (.e (.sl 1 0 x2.length))), (5, .one (.e (.sl 2 0 x192.length))), (6, I i193)], [.row .nod x1 false, .row .rcd x2 false, .row .nod x192 true]⟩ := by
  intro n
  induction n with
  | zero => intro _ _ h; exact none_e h
  | succ n ih =>
    intro x192 i193 h
    rw [spec_RedoLog_L1] at h
    refine WL_round ?_
    refine W_seq ?_
    refine W_seq ?_
    refine W_region ?_
    refine WO_step 4 [0, 1, 2] [1, 5, 6, 22] (True ∧ (True ∧ True)) ⟨[(1, .one (.e (.sl 1 0 x2.length))), (5, .one (.e (.sl 2 0 x192.length))), (6, I i193), (22, B (decide (i193 < ((x2.length : Nat) : Int))))], [.row .nod x1 false, .row .rcd x2 false, .row .nod x192 true]⟩ (by kernel_rfl) ⟨trivial, trivial, trivial⟩ ?_
    refine WO_nil rfl ?_
    refine thenS_n ?_
    refine iteO_e h (fun hb235 h => W_true rfl hb235 ?_) (fun hb235 h => W_false rfl hb235 ?_)
    · refine W_sub [0, 1, 2] [1, 5, 6] (st' := ⟨[(1, .one (.e (.sl 1 0 x2.length))), (5, .one (.e (.sl 2 0 x192.length))), (6, I i193)], [.row .nod x1 false, .row .rcd x2 false, .row .nod x192 true]⟩) (by kernel_rfl) ?_
      refine W_skip ?_
      refine thenS_n ?_
      refine W_seq ?_
      refine W_block ?_
      refine W_seq ?_
      refine W_region ?_
      refine guardO_e h (fun hg253 h => ?_)
      refine WO_step 7 [0, 1, 2] [1, 5, 6, 31] ((0 ≤ i193 ∧ i193 < ((x2.length : Nat) : Int)) ∧ (True ∧ True)) ⟨[(1, .one (.e (.sl 1 0 x2.length))), (5, .one (.e (.sl 2 0 x192.length))), (6, I i193), (31, B (!(x2.getD i193.toNat drcd).fin))], [.row .nod x1 false, .row .rcd x2 false, .row .nod x192 true]⟩ (by kernel_rfl) ⟨hg253, trivial, trivial⟩ ?_
      refine bindO_e h (fun b258 hv259 h => ?_)
      refine WO_thru ⟨[(1, .one (.e (.sl 1 0 x2.length))), (5, .one (.e (.sl 2 0 x192.length))), (6, I i193), (41, B b258)], [.row .nod x1 false, .row .rcd x2 false, .row .nod x192 true]⟩ ?_ ?_
      · refine iteO_e hv259 (fun hb260 hv259 => WO_known 31 true rfl hb260 ?_) (fun hb260 hv259 => WO_known 31 false rfl hb260 ?_)
        · refine guardO_e hv259 (fun hg261 hv259 => ?_)
          refine WO_step 8 [0, 1, 2] [1, 5, 6, 31, 32, 34, 39] (True ∧ ((0 ≤ i193 ∧ i193 < ((x2.length : Nat) : Int)) ∧ (True ∧ True))) ⟨[(1, .one (.e (.sl 1 0 x2.length))), (5, .one (.e (.sl 2 0 x192.length))), (6, I i193), (31, B true), (32, .one (.e (.sl 1 0 x2.length))), (34, I (w64 (i193 + 1))), (39, I ((x2.getD i193.toNat drcd).who))], [.row .nod x1 false, .row .rcd x2 false, .row .nod x192 true]⟩ (by kernel_rfl) ⟨trivial, hg261, trivial, trivial⟩ ?_
          refine bindO_e hv259 (fun b262 hc263 hv259 => ?_)
          refine WO_call [.ro 1] Try.f44 rfl rfl rfl (by kernel_rfl) rfl rfl (by kernel_rfl) (spec_ended_ok n x2 (w64 (i193 + 1)) ((x2.getD i193.toNat drcd).who) b262 hc263) (And.intro (And.intro rfl rfl) (trivial)) rfl ?_
          refine WO_step 1 [0, 1, 2] [1, 5, 6, 41] True ⟨[(1, .one (.e (.sl 1 0 x2.length))), (5, .one (.e (.sl 2 0 x192.length))), (6, I i193), (41, B b262)], [.row .nod x1 false, .row .rcd x2 false, .row .nod x192 true]⟩ (by kernel_rfl) trivial ?_
          cases hv259
          exact WO_nil rfl ⟨rfl, rfl⟩
        · refine WO_step 10 [0, 1, 2] [1, 5, 6, 41] True ⟨[(1, .one (.e (.sl 1 0 x2.length))), (5, .one (.e (.sl 2 0 x192.length))), (6, I i193), (41, B false)], [.row .nod x1 false, .row .rcd x2 false, .row .nod x192 true]⟩ (by kernel_rfl) trivial ?_
          cases hv259
          exact WO_nil rfl ⟨rfl, rfl⟩
      · refine thenS_n ?_
        refine bindO_e h (fun x268 hx268 h => ?_)
        refine W_cut (Q' := fun (e : Exit) (s : St) => e = .normal ∧ s = ⟨[(1, .one (.e (.sl 1 0 x2.length))), (5, .one (.e (.sl 2 0 x268.length))), (6, I i193)], [.row .nod x1 false, .row .rcd x2 false, .row .nod x268 true]⟩) ?_ ?_
        · refine iteO_e hx268 (fun hb270 hx268 => W_true rfl hb270 ?_) (fun hb270 hx268 => W_false rfl hb270 ?_)
          · refine guardO_e hx268 (fun hg271 hx268 => ?_)
            refine guardO_e hx268 (fun hg272 hx268 => ?_)
            refine guardO_e hx268 (fun hg273 hx268 => ?_)
            refine W_cut (Q' := fun (e : Exit) (s : St) => e = .normal ∧ s = ⟨[(1, .one (.e (.sl 1 0 x2.length))), (5, .one (.e (.sl 2 0 ((x192.set (((x2.getD i193.toNat drcd).node).toNat) (⟨(x192.getD (((x2.getD i193.toNat drcd).node).toNat) dnod).parent, (x192.getD (((x2.getD i193.toNat drcd).node).toNat) dnod).name, (x2.getD i193.toNat drcd).value⟩ : Nod)).length)))), (6, I i193)], [.row .nod x1 false, .row .rcd x2 false, .row .nod (x192.set (((x2.getD i193.toNat drcd).node).toNat) (⟨(x192.getD (((x2.getD i193.toNat drcd).node).toNat) dnod).parent, (x192.getD (((x2.getD i193.toNat drcd).node).toNat) dnod).name, (x2.getD i193.toNat drcd).value⟩ : Nod)) true]⟩) ?_ ?_
            · refine W_draw [2] false (by kernel_rfl) (by kernel_rfl) ?_
              refine WD_takeK [0, 1, 2, 3, 4, 5, 6, 7, 8, 9, 10] [1, 5, 6, 42, 47, 52] [1, 5, 6, 42, 47, 52] (φ := ((0 ≤ i193 ∧ i193 < ((x2.length : Nat) : Int)) ∧ (0 ≤ i193 ∧ i193 < ((x2.length : Nat) : Int)) ∧ (True ∧ True ∧ ((0 ≤ i193 ∧ i193 < ((x2.length : Nat) : Int)) ∧ (0 ≤ i193 ∧ i193 < ((x2.length : Nat) : Int)) ∧ (True ∧ True ∧ True))))) (ls' := #[true, true, true, true, true, true, true, true, true, true, true, false, false, false]) (Ts' := [(1, .one (.e (.sl 1 0 x2.length))), (5, .one (.e (.sl 2 0 x192.length))), (6, I i193), (42, .one (.e (.sl 2 0 x192.length))), (47, I ((x2.getD i193.toNat drcd).node)), (52, I ((x2.getD i193.toNat drcd).value))]) (st' := ⟨[(1, .one (.e (.sl 1 0 x2.length))), (5, .one (.e (.sl 2 0 x192.length))), (6, I i193), (42, .one (.e (.sl 2 0 x192.length))), (47, I ((x2.getD i193.toNat drcd).node)), (52, I ((x2.getD i193.toNat drcd).value))], [.row .nod x1 false, .row .rcd x2 false, .row .nod x192 true]⟩) (n2 := 3) (by kernel_rfl) ⟨hg271, hg271, trivial, trivial, hg272, hg272, trivial, trivial, trivial⟩ rfl ?_
              refine WD_all [11] (n := 2) (by kernel_rfl) rfl ?_
              refine WM_op (φ := 0 ≤ (x2.getD i193.toNat drcd).node ∧ (x2.getD i193.toNat drcd).node < ((x192.length : Nat) : Int)) (v := .one (.e (.rp 2 (((x2.getD i193.toNat drcd).node).toNat) 0))) (H' := [.row .nod x1 false, .row .rcd x2 false, .row .nod x192 true]) rfl rfl (by kernel_rfl) hg273 rfl (And.intro rfl (And.intro rfl (trivial))) ?_
              refine WD_all [12] (n := 1) (by kernel_rfl) rfl ?_
              refine WM_op (φ := True) (v := .one (.e (.rp 2 (((x2.getD i193.toNat drcd).node).toNat) 2))) (H' := [.row .nod x1 false, .row .rcd x2 false, .row .nod x192 true]) rfl rfl (by kernel_rfl) trivial rfl (And.intro rfl (And.intro rfl (trivial))) ?_
              refine WD_all [13] (n := 0) (by kernel_rfl) rfl ?_
              refine WM_store (u := .one (.e (.rp 2 (((x2.getD i193.toNat drcd).node).toNat) 2))) (v := I ((x2.getD i193.toNat drcd).value)) (φ := True) (H' := [.row .nod x1 false, .row .rcd x2 false, .row .nod (x192.set (((x2.getD i193.toNat drcd).node).toNat) (⟨(x192.getD (((x2.getD i193.toNat drcd).node).toNat) dnod).parent, (x192.getD (((x2.getD i193.toNat drcd).node).toNat) dnod).name, (x2.getD i193.toNat drcd).value⟩ : Nod)) true]) rfl rfl rfl rfl rfl (by kernel_rfl) trivial rfl (And.intro rfl (And.intro rfl (trivial))) ?_
              exact WD_done [0, 1, 2] [1, 5, 6] (st' := ⟨[(1, .one (.e (.sl 1 0 x2.length))), (5, .one (.e (.sl 2 0 x192.length))), (6, I i193)], [.row .nod x1 false, .row .rcd x2 false, .row .nod (x192.set (((x2.getD i193.toNat drcd).node).toNat) (⟨(x192.getD (((x2.getD i193.toNat drcd).node).toNat) dnod).parent, (x192.getD (((x2.getD i193.toNat drcd).node).toNat) dnod).name, (x2.getD i193.toNat drcd).value⟩ : Nod)) true]⟩) (by kernel_rfl) (by kernel_rfl) (And.intro rfl (by simp only [List.length_set]))
            · rintro _ _ ⟨rfl, rfl⟩
              cases hx268
              exact And.intro rfl rfl
          · refine W_sub [0, 1, 2] [1, 5, 6] (st' := ⟨[(1, .one (.e (.sl 1 0 x2.length))), (5, .one (.e (.sl 2 0 x192.length))), (6, I i193)], [.row .nod x1 false, .row .rcd x2 false, .row .nod x192 true]⟩) (by kernel_rfl) ?_
            refine W_skip ?_
            cases hx268
            exact And.intro rfl rfl
        · rintro _ _ ⟨rfl, rfl⟩
          refine blockS_n ?_
          refine thenS_n ?_
          refine W_region ?_
          refine WO_step 3 [0, 1, 2] [1, 5, 6] (True ∧ True) ⟨[(1, .one (.e (.sl 1 0 x2.length))), (5, .one (.e (.sl 2 0 x268.length))), (6, I (w64 (i193 + 1)))], [.row .nod x1 false, .row .rcd x2 false, .row .nod x268 true]⟩ (by kernel_rfl) ⟨trivial, trivial⟩ ?_
          refine WO_nil rfl ?_
          refine thenS_n ?_
          exact ih _ _ h
    · refine W_sub [0, 1, 2] [5] (st' := ⟨[(5, .one (.e (.sl 2 0 x192.length)))], [.row .nod x1 false, .row .rcd x2 false, .row .nod x192 true]⟩) (by kernel_rfl) ?_
      refine W_exit ?_
      refine thenS_e ?_
      refine thenS_e ?_
      cases h
      exact And.intro rfl rfl

def spec_RedoLog (n : Nat) (x1 : List Nod) (x2 : List Rcd) : Option ((List Nod)) :=
 bindO (spec_validTree n x1) fun b137 =>
 bindO (iteO (!b137)
 (some true)
 (bindO (spec_validLog n x1 x2) fun b145 =>
 some (!b145))) fun b142 =>
 iteO b142
 (some ([] : List Nod))
 (guardO (0 = 0 ∧ ([] : List Nod).length = ([] : List Nod).length ∧ ([] : List Nod).length + ((x1.drop 0).take x1.length).length ≤ 1099511627776) <|
 bindO (spec_RedoLog_L1 x2 x1 n (([] : List Nod) ++ ((x1.drop 0).take x1.length)) 0) fun x232 =>
 some x232)

theorem spec_RedoLog_ok (n : Nat) (x1 : List Nod) (x2 : List Rcd) (x136 : List Nod) (h : spec_RedoLog n x1 x2 = some x136) : FOk EE 21 [.one (.e (.sl 0 0 x1.length)), .one (.e (.sl 1 0 x2.length))] [.row .nod x1 false, .row .rcd x2 false] (.one (.e (.sl 2 0 x136.length))) [.row .nod x1 false, .row .rcd x2 false, .row .nod x136 true] := by
  unfold spec_RedoLog at h
  refine FOk_of_W 56 2 Try.func21 rfl rfl (Nat.le_of_ble_eq_true rfl) rfl (fun w X θ => ?_)
  refine W_seq ?_
  refine W_region ?_
  refine WO_step 1 [0, 1] [0, 1] True ⟨[(0, .one (.e (.sl 0 0 x1.length))), (1, .one (.e (.sl 1 0 x2.length)))], [.row .nod x1 false, .row .rcd x2 false]⟩ (by kernel_rfl) trivial ?_
  refine WO_nil rfl ?_
  refine thenS_n ?_
  refine W_seq ?_
  refine W_seq ?_
  refine W_region ?_
  refine WO_step 1 [0, 1] [0, 1, 7] True ⟨[(0, .one (.e (.sl 0 0 x1.length))), (1, .one (.e (.sl 1 0 x2.length))), (7, .one (.e (.sl 0 0 x1.length)))], [.row .nod x1 false, .row .rcd x2 false]⟩ (by kernel_rfl) trivial ?_
  refine bindO_e h (fun b137 hc138 h => ?_)
  refine WO_call [.ro 0] Try.f42 rfl rfl rfl (by kernel_rfl) rfl rfl (by kernel_rfl) (spec_validTree_ok n x1 b137 hc138) (And.intro (And.intro rfl rfl) (trivial)) rfl ?_
  refine WO_step 2 [0, 1] [0, 1, 10] True ⟨[(0, .one (.e (.sl 0 0 x1.length))), (1, .one (.e (.sl 1 0 x2.length))), (10, B (!b137))], [.row .nod x1 false, .row .rcd x2 false]⟩ (by kernel_rfl) trivial ?_
  refine bindO_e h (fun b142 hv143 h => ?_)
  refine WO_thru ⟨[(0, .one (.e (.sl 0 0 x1.length))), (1, .one (.e (.sl 1 0 x2.length))), (15, B b142)], [.row .nod x1 false, .row .rcd x2 false]⟩ ?_ ?_
  · refine iteO_e hv143 (fun hb144 hv143 => WO_known 10 true rfl hb144 ?_) (fun hb144 hv143 => WO_known 10 false rfl hb144 ?_)
    · refine WO_step 5 [0, 1] [0, 1, 15] True ⟨[(0, .one (.e (.sl 0 0 x1.length))), (1, .one (.e (.sl 1 0 x2.length))), (15, B true)], [.row .nod x1 false, .row .rcd x2 false]⟩ (by kernel_rfl) trivial ?_
      cases hv143
      exact WO_nil rfl ⟨rfl, rfl⟩
    · refine WO_step 2 [0, 1] [0, 1, 10, 11, 12] True ⟨[(0, .one (.e (.sl 0 0 x1.length))), (1, .one (.e (.sl 1 0 x2.length))), (10, B false), (11, .one (.e (.sl 0 0 x1.length))), (12, .one (.e (.sl 1 0 x2.length)))], [.row .nod x1 false, .row .rcd x2 false]⟩ (by kernel_rfl) trivial ?_
      refine bindO_e hv143 (fun b145 hc146 hv143 => ?_)
      refine WO_call [.ro 0, .ro 1] Try.f43 rfl rfl rfl (by kernel_rfl) rfl rfl (by kernel_rfl) (spec_validLog_ok n x1 x2 b145 hc146) (And.intro (And.intro rfl rfl) (And.intro (And.intro rfl rfl) (trivial))) rfl ?_
      refine WO_step 2 [0, 1] [0, 1, 15] True ⟨[(0, .one (.e (.sl 0 0 x1.length))), (1, .one (.e (.sl 1 0 x2.length))), (15, B (!b145))], [.row .nod x1 false, .row .rcd x2 false]⟩ (by kernel_rfl) trivial ?_
      cases hv143
      exact WO_nil rfl ⟨rfl, rfl⟩
  · refine thenS_n ?_
    refine iteO_e h (fun hb148 h => W_true rfl hb148 ?_) (fun hb148 h => W_false rfl hb148 ?_)
    · refine W_seq ?_
      refine W_region ?_
      refine WO_step 1 [0, 1] [4] True ⟨[(4, .one (.e (.nsl)))], [.row .nod x1 false, .row .rcd x2 false]⟩ (by kernel_rfl) trivial ?_
      refine WO_nilrow 4 .nod rfl ?_
      refine WO_sub [0, 1, 2] [4] (st' := ⟨[(4, .one (.e (.sl 2 0 (([] : List Nod).length))))], [.row .nod x1 false, .row .rcd x2 false, .row .nod ([] : List Nod) true]⟩) (by kernel_rfl) ?_
      refine WO_nil rfl ?_
      refine thenS_n ?_
      refine W_ret ?_
      refine thenS_r ?_
      cases h
      exact ⟨[0, 1, 2], True, by kernel_rfl, trivial⟩
    · refine W_sub [0, 1] [0, 1] (st' := ⟨[(0, .one (.e (.sl 0 0 x1.length))), (1, .one (.e (.sl 1 0 x2.length)))], [.row .nod x1 false, .row .rcd x2 false]⟩) (by kernel_rfl) ?_
      refine W_skip ?_
      refine thenS_n ?_
      refine W_seq ?_
      refine W_region ?_
      refine guardO_e h (fun hg149 h => ?_)
      refine WO_step 4 [0, 1, 3] [1, 5] ((0 = 0 ∧ ([] : List Nod).length = ([] : List Nod).length ∧ ([] : List Nod).length + ((x1.drop 0).take x1.length).length ≤ 1099511627776) ∧ True) ⟨[(1, .one (.e (.sl 1 0 x2.length))), (5, .one (.e (.sl 2 0 ((([] : List Nod) ++ ((x1.drop 0).take x1.length)).length))))], [.row .nod x1 false, .row .rcd x2 false, .row .nod (([] : List Nod) ++ ((x1.drop 0).take x1.length)) true]⟩ (by kernel_rfl) ⟨hg149, trivial⟩ ?_
      refine WO_nil rfl ?_
      refine thenS_n ?_
      refine W_seq ?_
      refine W_seq ?_
      refine W_region ?_
      refine WO_step 1 [0, 1, 2] [1, 5, 6] True ⟨[(1, .one (.e (.sl 1 0 x2.length))), (5, .one (.e (.sl 2 0 ((([] : List Nod) ++ ((x1.drop 0).take x1.length)).length)))), (6, I 0)], [.row .nod x1 false, .row .rcd x2 false, .row .nod (([] : List Nod) ++ ((x1.drop 0).take x1.length)) true]⟩ (by kernel_rfl) trivial ?_
      refine WO_nil rfl ?_
      refine thenS_n ?_
      refine W_block ?_
      refine W_loop ?_
      refine bindO_e h (fun x232 hx232 h => ?_)
      refine WL_cut (spec_RedoLog_L1_ok w X θ x2 x1 x232 n (([] : List Nod) ++ ((x1.drop 0).take x1.length)) 0 hx232) ?_
      rintro _ _ ⟨rfl, rfl⟩
      refine blockS_y ?_
      refine thenS_n ?_
      refine W_seq ?_
      refine W_region ?_
      refine WO_step 2 [0, 1, 2] [4] True ⟨[(4, .one (.e (.sl 2 0 x232.length)))], [.row .nod x1 false, .row .rcd x2 false, .row .nod x232 true]⟩ (by kernel_rfl) trivial ?_
      refine WO_nil rfl ?_
      refine thenS_n ?_
      refine W_ret ?_
      cases h
      exact ⟨[0, 1, 2], True, by kernel_rfl, trivial⟩

end Go.Proofs.Ytdkmgkeaebcobaa

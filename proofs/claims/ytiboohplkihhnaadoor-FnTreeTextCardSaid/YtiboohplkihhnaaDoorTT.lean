import Derived.Test.YtiboohplkihhnaaDoorTT1
namespace Go.Proofs.YtiboohplkihhnaaDoor
open Go Go.Shelf Go.Proofs
set_option linter.unusedVariables false
/- laws.FnTreeText -/
def laws_FnTreeText_L1 (k74 : Nat) (k75 : Nat) (s77 : Str) (x1 : List Int) (x73 : List Nod) : Nat → Int → Int → Option (Int)
| 0, _, _ => none
| n + 1, i106, i107 =>
 iteO (decide (i107 < ((s77.length : Nat) : Int)))
 (guardO (0 ≤ i107 ∧ i107 < ((s77.length : Nat) : Int)) <|
 bindO (iteO (decide (((s77.getD i107.toNat 0).toNat : Int) = 59))
 (some (w64 (i106 + 1)))
 (some i106)) fun i130 =>
 laws_FnTreeText_L1 k74 k75 s77 x1 x73 n i130 (w64 (i107 + 1)))
 (some i106)

theorem laws_FnTreeText_L1_ok (w : World) (X : Nat → Prop) (θ : List Loc) (k74 : Nat) (k75 : Nat) (s77 : Str) (x1 : List Int) (x73 : List Nod) (i120 : Int) : ∀ (n : Nat) (i106 : Int) (i107 : Int), laws_FnTreeText_L1 k74 k75 s77 x1 x73 n i106 i107 = some i120 → WL EE ⟨w, X, θ, 48, 1⟩ (subC [1, 1, 1, 1, 1, 1, 0, 1, 4, 4] (bodyC Tryd.f7)) (fun (e : Exit) (s : St) => e = .exit 0 ∧ s = ⟨[(3, .one (.e (.sl 1 k74 k75))), (4, S s77), (5, I i120)], [.row .u8 x1 false, .row .nod x73 true]⟩) ⟨[(3, .one (.e (.sl 1 k74 k75))), (4, S s77), (5, I i106), (6, I i107)], [.row .u8 x1 false, .row .nod x73 true]⟩ := by
  intro n
  induction n with
  | zero => intro _ _ h; exact none_e h
  | succ n ih =>
    intro i106 i107 h
    rw [laws_FnTreeText_L1] at h
    refine WL_round ?_
    refine W_seq ?_
    refine W_seq ?_
    refine W_region ?_
    refine WO_step 4 [0, 1] [3, 4, 5, 6, 29] (True ∧ (True ∧ True)) ⟨[(3, .one (.e (.sl 1 k74 k75))), (4, S s77), (5, I i106), (6, I i107), (29, B (decide (i107 < ((s77.length : Nat) : Int))))], [.row .u8 x1 false, .row .nod x73 true]⟩ (by kernel_rfl) ⟨trivial, trivial, trivial⟩ ?_
    refine WO_nil rfl ?_
    refine thenS_n ?_
    refine iteO_e h (fun hb123 h => W_true rfl hb123 ?_) (fun hb123 h => W_false rfl hb123 ?_)
    · refine W_sub [0, 1] [3, 4, 5, 6] (st' := ⟨[(3, .one (.e (.sl 1 k74 k75))), (4, S s77), (5, I i106), (6, I i107)], [.row .u8 x1 false, .row .nod x73 true]⟩) (by kernel_rfl) ?_
      refine W_skip ?_
      refine thenS_n ?_
      refine W_seq ?_
      refine W_block ?_
      refine W_seq ?_
      refine W_region ?_
      refine guardO_e h (fun hg128 h => ?_)
      refine WO_step 4 [0, 1] [3, 4, 5, 6, 35] ((0 ≤ i107 ∧ i107 < ((s77.length : Nat) : Int)) ∧ (True ∧ True)) ⟨[(3, .one (.e (.sl 1 k74 k75))), (4, S s77), (5, I i106), (6, I i107), (35, B (decide (((s77.getD i107.toNat 0).toNat : Int) = 59)))], [.row .u8 x1 false, .row .nod x73 true]⟩ (by kernel_rfl) ⟨hg128, trivial, trivial⟩ ?_
      refine WO_nil rfl ?_
      refine thenS_n ?_
      refine bindO_e h (fun i130 hi130 h => ?_)
      refine W_cut (Q' := fun (e : Exit) (s : St) => e = .normal ∧ s = ⟨[(3, .one (.e (.sl 1 k74 k75))), (4, S s77), (5, I i130), (6, I i107)], [.row .u8 x1 false, .row .nod x73 true]⟩) ?_ ?_
      · refine iteO_e hi130 (fun hb132 hi130 => W_true rfl hb132 ?_) (fun hb132 hi130 => W_false rfl hb132 ?_)
        · refine W_region ?_
          refine WO_step 3 [0, 1] [3, 4, 5, 6] (True ∧ True) ⟨[(3, .one (.e (.sl 1 k74 k75))), (4, S s77), (5, I (w64 (i106 + 1))), (6, I i107)], [.row .u8 x1 false, .row .nod x73 true]⟩ (by kernel_rfl) ⟨trivial, trivial⟩ ?_
          refine WO_nil rfl ?_
          cases hi130
          exact And.intro rfl rfl
        · refine W_sub [0, 1] [3, 4, 5, 6] (st' := ⟨[(3, .one (.e (.sl 1 k74 k75))), (4, S s77), (5, I i106), (6, I i107)], [.row .u8 x1 false, .row .nod x73 true]⟩) (by kernel_rfl) ?_
          refine W_skip ?_
          cases hi130
          exact And.intro rfl rfl
      · rintro _ _ ⟨rfl, rfl⟩
        refine blockS_n ?_
        refine thenS_n ?_
        refine W_region ?_
        refine WO_step 3 [0, 1] [3, 4, 5, 6] (True ∧ True) ⟨[(3, .one (.e (.sl 1 k74 k75))), (4, S s77), (5, I i130), (6, I (w64 (i107 + 1)))], [.row .u8 x1 false, .row .nod x73 true]⟩ (by kernel_rfl) ⟨trivial, trivial⟩ ?_
        refine WO_nil rfl ?_
        refine thenS_n ?_
        exact ih _ _ h
    · refine W_sub [0, 1] [3, 4, 5] (st' := ⟨[(3, .one (.e (.sl 1 k74 k75))), (4, S s77), (5, I i106)], [.row .u8 x1 false, .row .nod x73 true]⟩) (by kernel_rfl) ?_
      refine W_exit ?_
      refine thenS_e ?_
      refine thenS_e ?_
      cases h
      exact And.intro rfl rfl

def laws_FnTreeText (n : Nat) (x1 : List Int) : Option (Bool) :=
 iteO (decide (1048576 < ((x1.length : Nat) : Int)))
 (some true)
 (bindO (spec_DrawFormatTree n x1) fun (x73, k74, k75) =>
 bindO (impl_FormatTree n ((x73.drop k74).take k75)) fun s77 =>
 bindO (spec_FormatTree n ((x73.drop k74).take k75)) fun s79 =>
 iteO ((!decide (s77 = s79)) || (decide (s77 = [])))
 (bindO (spec_FormatTree n ((x73.drop k74).take k75)) fun s88 =>
 some (decide (s77 = s88)))
 (bindO (laws_FnTreeText_L1 k74 k75 s77 x1 x73 n 0 0) fun i120 =>
 bindO (iteO (decide (i120 = (w64 (((k75 : Nat) : Int) - 1))))
 (guardO (0 ≤ (0 : Int) ∧ (0 : Int) < ((s77.length : Nat) : Int)) <|
 some (decide (((s77.getD ((0 : Int).toNat) 0).toNat : Int) = 47)))
 (some false)) fun b136 =>
 some b136))

theorem laws_FnTreeText_ok (n : Nat) (x1 : List Int) (b70 : Bool) (h : laws_FnTreeText n x1 = some b70) : FOk EE 7 [.one (.e (.sl 0 0 x1.length))] [.row .u8 x1 false] (B b70) [.row .u8 x1 false] := by
  unfold laws_FnTreeText at h
  refine FOk_of_W 48 1 Tryd.func7 rfl rfl (Nat.le_of_ble_eq_true rfl) rfl (fun w X θ => ?_)
  refine W_seq ?_
  refine W_region ?_
  refine WO_step 1 [0] [0] True ⟨[(0, .one (.e (.sl 0 0 x1.length)))], [.row .u8 x1 false]⟩ (by kernel_rfl) trivial ?_
  refine WO_nil rfl ?_
  refine thenS_n ?_
  refine W_seq ?_
  refine W_seq ?_
  refine W_region ?_
  refine WO_step 3 [0] [0, 9] (True ∧ (True ∧ True)) ⟨[(0, .one (.e (.sl 0 0 x1.length))), (9, B (decide (1048576 < ((x1.length : Nat) : Int))))], [.row .u8 x1 false]⟩ (by kernel_rfl) ⟨trivial, trivial, trivial⟩ ?_
  refine WO_nil rfl ?_
  refine thenS_n ?_
  refine iteO_e h (fun hb72 h => W_true rfl hb72 ?_) (fun hb72 h => W_false rfl hb72 ?_)
  · refine W_seq ?_
    refine W_region ?_
    refine WO_step 1 [0] [2] True ⟨[(2, B true)], [.row .u8 x1 false]⟩ (by kernel_rfl) trivial ?_
    refine WO_nil rfl ?_
    refine thenS_n ?_
    refine W_ret ?_
    refine thenS_r ?_
    cases h
    exact ⟨[0], True, by kernel_rfl, trivial⟩
  · refine W_sub [0] [0] (st' := ⟨[(0, .one (.e (.sl 0 0 x1.length)))], [.row .u8 x1 false]⟩) (by kernel_rfl) ?_
    refine W_skip ?_
    refine thenS_n ?_
    refine W_seq ?_
    refine W_region ?_
    refine WO_step 1 [0] [10] True ⟨[(10, .one (.e (.sl 0 0 x1.length)))], [.row .u8 x1 false]⟩ (by kernel_rfl) trivial ?_
    refine bindO_e h (fun v140 hc76 h => ?_)
    obtain ⟨x73, k74, k75⟩ := v140
    refine WO_call [.ro 0] Tryd.f21 rfl rfl rfl (by kernel_rfl) Tryd.func21 rfl (by kernel_rfl) (spec_DrawFormatTree_ok n x1 x73 k74 k75 hc76) (And.intro (And.intro rfl rfl) (trivial)) rfl ?_
    refine WO_step 1 [0, 1] [3] True ⟨[(3, .one (.e (.sl 1 k74 k75)))], [.row .u8 x1 false, .row .nod x73 true]⟩ (by kernel_rfl) trivial ?_
    refine WO_nil rfl ?_
    refine thenS_n ?_
    refine W_seq ?_
    refine W_region ?_
    refine WO_step 1 [0, 1] [3, 12] True ⟨[(3, .one (.e (.sl 1 k74 k75))), (12, .one (.e (.sl 1 k74 k75)))], [.row .u8 x1 false, .row .nod x73 true]⟩ (by kernel_rfl) trivial ?_
    refine bindO_e h (fun s77 hc78 h => ?_)
    refine WO_call [.view 0] Tryd.f19 rfl rfl rfl (by kernel_rfl) Tryd.func19 rfl (by kernel_rfl) (impl_FormatTree_ok n ((x73.drop k74).take k75) s77 hc78) (trivial) rfl ?_
    refine WO_step 1 [0, 1] [3, 4] True ⟨[(3, .one (.e (.sl 1 k74 k75))), (4, S s77)], [.row .u8 x1 false, .row .nod x73 true]⟩ (by kernel_rfl) trivial ?_
    refine WO_nil rfl ?_
    refine thenS_n ?_
    refine W_seq ?_
    refine W_seq ?_
    refine W_region ?_
    refine WO_step 2 [0, 1] [3, 4, 14, 15] True ⟨[(3, .one (.e (.sl 1 k74 k75))), (4, S s77), (14, S s77), (15, .one (.e (.sl 1 k74 k75)))], [.row .u8 x1 false, .row .nod x73 true]⟩ (by kernel_rfl) trivial ?_
    refine bindO_e h (fun s79 hc80 h => ?_)
    refine WO_call [.view 0] Tryd.f17 rfl rfl rfl (by kernel_rfl) Tryd.func17 rfl (by kernel_rfl) (spec_FormatTree_ok n ((x73.drop k74).take k75) s79 hc80) (trivial) rfl ?_
    refine WO_step 2 [0, 1] [3, 4, 18] (True ∧ True) ⟨[(3, .one (.e (.sl 1 k74 k75))), (4, S s77), (18, B (!decide (s77 = s79)))], [.row .u8 x1 false, .row .nod x73 true]⟩ (by kernel_rfl) ⟨trivial, trivial⟩ ?_
    refine WO_thru ⟨[(3, .one (.e (.sl 1 k74 k75))), (4, S s77), (21, B ((!decide (s77 = s79)) || (decide (s77 = []))))], [.row .u8 x1 false, .row .nod x73 true]⟩ ?_ ?_
    · refine WO_if 18 rfl (fun hb83 => ?_) (fun hb83 => ?_)
      · refine WO_step 3 [0, 1] [3, 4, 21] True ⟨[(3, .one (.e (.sl 1 k74 k75))), (4, S s77), (21, B true)], [.row .u8 x1 false, .row .nod x73 true]⟩ (by kernel_rfl) trivial ?_
        exact WO_nil rfl ⟨rfl, by first | rfl | (rw [hb83]; first | done | rfl)⟩
      · refine WO_step 3 [0, 1] [3, 4, 21] (True ∧ True) ⟨[(3, .one (.e (.sl 1 k74 k75))), (4, S s77), (21, B (decide (s77 = [])))], [.row .u8 x1 false, .row .nod x73 true]⟩ (by kernel_rfl) ⟨trivial, trivial⟩ ?_
        exact WO_nil rfl ⟨rfl, by first | rfl | (rw [hb83]; first | done | rfl)⟩
    · refine thenS_n ?_
      refine iteO_e h (fun hb87 h => W_true rfl hb87 ?_) (fun hb87 h => W_false rfl hb87 ?_)
      · refine W_seq ?_
        refine W_region ?_
        refine WO_step 2 [0, 1] [22, 23] True ⟨[(22, S s77), (23, .one (.e (.sl 1 k74 k75)))], [.row .u8 x1 false, .row .nod x73 true]⟩ (by kernel_rfl) trivial ?_
        refine bindO_e h (fun s88 hc89 h => ?_)
        refine WO_call [.view 0] Tryd.f17 rfl rfl rfl (by kernel_rfl) Tryd.func17 rfl (by kernel_rfl) (spec_FormatTree_ok n ((x73.drop k74).take k75) s88 hc89) (trivial) rfl ?_
        refine WO_step 2 [0] [2] (True ∧ True) ⟨[(2, B (decide (s77 = s88)))], [.row .u8 x1 false]⟩ (by kernel_rfl) ⟨trivial, trivial⟩ ?_
        refine WO_nil rfl ?_
        refine thenS_n ?_
        refine W_ret ?_
        refine thenS_r ?_
        cases h
        exact ⟨[0], True, by kernel_rfl, trivial⟩
      · refine W_sub [0, 1] [3, 4] (st' := ⟨[(3, .one (.e (.sl 1 k74 k75))), (4, S s77)], [.row .u8 x1 false, .row .nod x73 true]⟩) (by kernel_rfl) ?_
        refine W_skip ?_
        refine thenS_n ?_
        refine W_seq ?_
        refine W_region ?_
        refine WO_step 1 [0, 1] [3, 4, 5] True ⟨[(3, .one (.e (.sl 1 k74 k75))), (4, S s77), (5, I 0)], [.row .u8 x1 false, .row .nod x73 true]⟩ (by kernel_rfl) trivial ?_
        refine WO_nil rfl ?_
        refine thenS_n ?_
        refine W_seq ?_
        refine W_seq ?_
        refine W_region ?_
        refine WO_step 1 [0, 1] [3, 4, 5, 6] True ⟨[(3, .one (.e (.sl 1 k74 k75))), (4, S s77), (5, I 0), (6, I 0)], [.row .u8 x1 false, .row .nod x73 true]⟩ (by kernel_rfl) trivial ?_
        refine WO_nil rfl ?_
        refine thenS_n ?_
        refine W_block ?_
        refine W_loop ?_
        refine bindO_e h (fun i120 hi120 h => ?_)
        refine WL_cut (laws_FnTreeText_L1_ok w X θ k74 k75 s77 x1 x73 i120 n 0 0 hi120) ?_
        rintro _ _ ⟨rfl, rfl⟩
        refine blockS_y ?_
        refine thenS_n ?_
        refine W_seq ?_
        refine W_region ?_
        refine WO_step 6 [0] [4, 43] (True ∧ (True ∧ (True ∧ True))) ⟨[(4, S s77), (43, B (decide (i120 = (w64 (((k75 : Nat) : Int) - 1)))))], [.row .u8 x1 false]⟩ (by kernel_rfl) ⟨trivial, trivial, trivial, trivial⟩ ?_
        refine bindO_e h (fun b136 hv137 h => ?_)
        refine WO_thru ⟨[(2, B b136)], [.row .u8 x1 false]⟩ ?_ ?_
        · refine iteO_e hv137 (fun hb138 hv137 => WO_known 43 true rfl hb138 ?_) (fun hb138 hv137 => WO_known 43 false rfl hb138 ?_)
          · refine guardO_e hv137 (fun hg139 hv137 => ?_)
            refine WO_step 5 [0] [2] ((0 ≤ (0 : Int) ∧ (0 : Int) < ((s77.length : Nat) : Int)) ∧ (True ∧ True)) ⟨[(2, B (decide (((s77.getD ((0 : Int).toNat) 0).toNat : Int) = 47)))], [.row .u8 x1 false]⟩ (by kernel_rfl) ⟨hg139, trivial, trivial⟩ ?_
            cases hv137
            exact WO_nil rfl ⟨rfl, rfl⟩
          · refine WO_step 5 [0] [2] True ⟨[(2, B false)], [.row .u8 x1 false]⟩ (by kernel_rfl) trivial ?_
            cases hv137
            exact WO_nil rfl ⟨rfl, rfl⟩
        · refine thenS_n ?_
          refine W_ret ?_
          cases h
          exact ⟨[0], True, by kernel_rfl, trivial⟩

end Go.Proofs.YtiboohplkihhnaaDoor

import Derived.Test.YtiboohplkihhnaaDoorTT1
namespace Go.Proofs.YtiboohplkihhnaaDoor
open Go Go.Shelf Go.Proofs
set_option linter.unusedVariables false
/- laws.FnTreeTextPath -/
def laws_FnTreeTextPath (n : Nat) (x1 : List Int) : Option (Bool) :=
 iteO (decide (1048576 < ((x1.length : Nat) : Int)))
 (some true)
 (bindO (spec_DrawFormatTree n x1) fun (x42, k43, k44) =>
 bindO (impl_FormatTree n ((x42.drop k43).take k44)) fun s46 =>
 bindO (spec_FormatTree n ((x42.drop k43).take k44)) fun s48 =>
 iteO ((!decide (s46 = s48)) || ((decide (s46 = [])) || (decide (((k44 : Nat) : Int) < 2))))
 (bindO (spec_FormatTree n ((x42.drop k43).take k44)) fun s59 =>
 some (decide (s46 = s59)))
 (guardO (0 ≤ (w64 (((k44 : Nat) : Int) - 1)) ∧ (w64 (((k44 : Nat) : Int) - 1)) ≤ ((k44 : Nat) : Int)) <|
 bindO (impl_FormatTree n ((x42.drop k43).take ((w64 (((k44 : Nat) : Int) - 1)).toNat))) fun s62 =>
 bindO (iteO (decide (0 < ((s62.length : Nat) : Int)))
 (iteO (decide (((s62.length : Nat) : Int) < ((s46.length : Nat) : Int)))
 (guardO (0 ≤ ((s62.length : Nat) : Int) ∧ ((s62.length : Nat) : Int) ≤ ((s46.length : Nat) : Int)) <|
 iteO (decide ((s46.take (((s62.length : Nat) : Int).toNat)) = s62))
 (guardO (0 ≤ ((s62.length : Nat) : Int) ∧ ((s62.length : Nat) : Int) < ((s46.length : Nat) : Int)) <|
 some (decide (((s46.getD (((s62.length : Nat) : Int).toNat) 0).toNat : Int) = 59)))
 (some false))
 (some false))
 (some false)) fun b69 =>
 some b69))

theorem laws_FnTreeTextPath_ok (n : Nat) (x1 : List Int) (b39 : Bool) (h : laws_FnTreeTextPath n x1 = some b39) : FOk EE 8 [.one (.e (.sl 0 0 x1.length))] [.row .u8 x1 false] (B b39) [.row .u8 x1 false] := by
  unfold laws_FnTreeTextPath at h
  refine FOk_of_W 61 1 Tryd.func8 rfl rfl (Nat.le_of_ble_eq_true rfl) rfl (fun w X θ => ?_)
  refine W_seq ?_
  refine W_region ?_
  refine WO_step 1 [0] [0] True ⟨[(0, .one (.e (.sl 0 0 x1.length)))], [.row .u8 x1 false]⟩ (by kernel_rfl) trivial ?_
  refine WO_nil rfl ?_
  refine thenS_n ?_
  refine W_seq ?_
  refine W_seq ?_
  refine W_region ?_
  refine WO_step 3 [0] [0, 8] (True ∧ (True ∧ True)) ⟨[(0, .one (.e (.sl 0 0 x1.length))), (8, B (decide (1048576 < ((x1.length : Nat) : Int))))], [.row .u8 x1 false]⟩ (by kernel_rfl) ⟨trivial, trivial, trivial⟩ ?_
  refine WO_nil rfl ?_
  refine thenS_n ?_
  refine iteO_e h (fun hb41 h => W_true rfl hb41 ?_) (fun hb41 h => W_false rfl hb41 ?_)
  · refine W_seq ?_
    refine W_region ?_
    refine WO_step 1 [0] [2] True ⟨[(2, B true)], [.row .u8 x1 false]⟩ (by kernel_rfl) trivial ?_
    refine WO_nil rfl ?_
    refine thenS_n ?_
    refine W_ret ?_
    refine thenS_r ?_
    cases h
    exact ⟨[0], True, by kernel_rfl, trivial⟩
  · refine W_sub [0] [0] (st' := ⟨[(0, .one (.e (.sl 0 0 x1.length)))], [.row .u8 x1 false]⟩) (by kernel_rfl) ?_
    refine W_skip ?_
    refine thenS_n ?_
    refine W_seq ?_
    refine W_region ?_
    refine WO_step 1 [0] [9] True ⟨[(9, .one (.e (.sl 0 0 x1.length)))], [.row .u8 x1 false]⟩ (by kernel_rfl) trivial ?_
    refine bindO_e h (fun v76 hc45 h => ?_)
    obtain ⟨x42, k43, k44⟩ := v76
    refine WO_call [.ro 0] Tryd.f21 rfl rfl rfl (by kernel_rfl) Tryd.func21 rfl (by kernel_rfl) (spec_DrawFormatTree_ok n x1 x42 k43 k44 hc45) (And.intro (And.intro rfl rfl) (trivial)) rfl ?_
    refine WO_step 1 [0, 1] [3] True ⟨[(3, .one (.e (.sl 1 k43 k44)))], [.row .u8 x1 false, .row .nod x42 true]⟩ (by kernel_rfl) trivial ?_
    refine WO_nil rfl ?_
    refine thenS_n ?_
    refine W_seq ?_
    refine W_region ?_
    refine WO_step 1 [0, 1] [3, 11] True ⟨[(3, .one (.e (.sl 1 k43 k44))), (11, .one (.e (.sl 1 k43 k44)))], [.row .u8 x1 false, .row .nod x42 true]⟩ (by kernel_rfl) trivial ?_
    refine bindO_e h (fun s46 hc47 h => ?_)
    refine WO_call [.view 0] Tryd.f19 rfl rfl rfl (by kernel_rfl) Tryd.func19 rfl (by kernel_rfl) (impl_FormatTree_ok n ((x42.drop k43).take k44) s46 hc47) (trivial) rfl ?_
    refine WO_step 1 [0, 1] [3, 4] True ⟨[(3, .one (.e (.sl 1 k43 k44))), (4, S s46)], [.row .u8 x1 false, .row .nod x42 true]⟩ (by kernel_rfl) trivial ?_
    refine WO_nil rfl ?_
    refine thenS_n ?_
    refine W_seq ?_
    refine W_seq ?_
    refine W_region ?_
    refine WO_step 2 [0, 1] [3, 4, 13, 14] True ⟨[(3, .one (.e (.sl 1 k43 k44))), (4, S s46), (13, S s46), (14, .one (.e (.sl 1 k43 k44)))], [.row .u8 x1 false, .row .nod x42 true]⟩ (by kernel_rfl) trivial ?_
    refine bindO_e h (fun s48 hc49 h => ?_)
    refine WO_call [.view 0] Tryd.f17 rfl rfl rfl (by kernel_rfl) Tryd.func17 rfl (by kernel_rfl) (spec_FormatTree_ok n ((x42.drop k43).take k44) s48 hc49) (trivial) rfl ?_
    refine WO_step 2 [0, 1] [3, 4, 17] (True ∧ True) ⟨[(3, .one (.e (.sl 1 k43 k44))), (4, S s46), (17, B (!decide (s46 = s48)))], [.row .u8 x1 false, .row .nod x42 true]⟩ (by kernel_rfl) ⟨trivial, trivial⟩ ?_
    refine WO_thru ⟨[(3, .one (.e (.sl 1 k43 k44))), (4, S s46), (25, B ((!decide (s46 = s48)) || ((decide (s46 = [])) || (decide (((k44 : Nat) : Int) < 2)))))], [.row .u8 x1 false, .row .nod x42 true]⟩ ?_ ?_
    · refine WO_if 17 rfl (fun hb53 => ?_) (fun hb53 => ?_)
      · refine WO_step 8 [0, 1] [3, 4, 25] True ⟨[(3, .one (.e (.sl 1 k43 k44))), (4, S s46), (25, B true)], [.row .u8 x1 false, .row .nod x42 true]⟩ (by kernel_rfl) trivial ?_
        exact WO_nil rfl ⟨rfl, by first | rfl | (rw [hb53]; first | done | rfl)⟩
      · refine WO_step 4 [0, 1] [3, 4, 21] (True ∧ True) ⟨[(3, .one (.e (.sl 1 k43 k44))), (4, S s46), (21, B (decide (s46 = [])))], [.row .u8 x1 false, .row .nod x42 true]⟩ (by kernel_rfl) ⟨trivial, trivial⟩ ?_
        refine WO_if 21 rfl (fun hb54 => ?_) (fun hb54 => ?_)
        · refine WO_step 4 [0, 1] [3, 4, 25] True ⟨[(3, .one (.e (.sl 1 k43 k44))), (4, S s46), (25, B true)], [.row .u8 x1 false, .row .nod x42 true]⟩ (by kernel_rfl) trivial ?_
          exact WO_nil rfl ⟨rfl, by first | rfl | (simp only [hb53, hb54]; first | done | rfl)⟩
        · refine WO_step 4 [0, 1] [3, 4, 25] (True ∧ (True ∧ True)) ⟨[(3, .one (.e (.sl 1 k43 k44))), (4, S s46), (25, B (decide (((k44 : Nat) : Int) < 2)))], [.row .u8 x1 false, .row .nod x42 true]⟩ (by kernel_rfl) ⟨trivial, trivial, trivial⟩ ?_
          exact WO_nil rfl ⟨rfl, by first | rfl | (simp only [hb53, hb54]; first | done | rfl)⟩
    · refine thenS_n ?_
      refine iteO_e h (fun hb58 h => W_true rfl hb58 ?_) (fun hb58 h => W_false rfl hb58 ?_)
      · refine W_seq ?_
        refine W_region ?_
        refine WO_step 2 [0, 1] [26, 27] True ⟨[(26, S s46), (27, .one (.e (.sl 1 k43 k44)))], [.row .u8 x1 false, .row .nod x42 true]⟩ (by kernel_rfl) trivial ?_
        refine bindO_e h (fun s59 hc60 h => ?_)
        refine WO_call [.view 0] Tryd.f17 rfl rfl rfl (by kernel_rfl) Tryd.func17 rfl (by kernel_rfl) (spec_FormatTree_ok n ((x42.drop k43).take k44) s59 hc60) (trivial) rfl ?_
        refine WO_step 2 [0] [2] (True ∧ True) ⟨[(2, B (decide (s46 = s59)))], [.row .u8 x1 false]⟩ (by kernel_rfl) ⟨trivial, trivial⟩ ?_
        refine WO_nil rfl ?_
        refine thenS_n ?_
        refine W_ret ?_
        refine thenS_r ?_
        cases h
        exact ⟨[0], True, by kernel_rfl, trivial⟩
      · refine W_sub [0, 1] [3, 4] (st' := ⟨[(3, .one (.e (.sl 1 k43 k44))), (4, S s46)], [.row .u8 x1 false, .row .nod x42 true]⟩) (by kernel_rfl) ?_
        refine W_skip ?_
        refine thenS_n ?_
        refine W_seq ?_
        refine W_region ?_
        refine guardO_e h (fun hg61 h => ?_)
        refine WO_step 5 [0, 1] [4, 34] (True ∧ (True ∧ ((0 ≤ (w64 (((k44 : Nat) : Int) - 1)) ∧ (w64 (((k44 : Nat) : Int) - 1)) ≤ ((k44 : Nat) : Int)) ∧ True))) ⟨[(4, S s46), (34, .one (.e (.sl 1 k43 ((w64 (((k44 : Nat) : Int) - 1)).toNat))))], [.row .u8 x1 false, .row .nod x42 true]⟩ (by kernel_rfl) ⟨trivial, trivial, hg61, trivial⟩ ?_
        refine bindO_e h (fun s62 hc63 h => ?_)
        refine WO_call [.view 0] Tryd.f19 rfl rfl rfl (by kernel_rfl) Tryd.func19 rfl (by kernel_rfl) (impl_FormatTree_ok n ((x42.drop k43).take ((w64 (((k44 : Nat) : Int) - 1)).toNat)) s62 hc63) (trivial) rfl ?_
        refine WO_step 1 [0] [4, 5] True ⟨[(4, S s46), (5, S s62)], [.row .u8 x1 false]⟩ (by kernel_rfl) trivial ?_
        refine WO_nil rfl ?_
        refine thenS_n ?_
        refine W_seq ?_
        refine W_region ?_
        refine WO_step 4 [0] [4, 5, 39] (True ∧ (True ∧ True)) ⟨[(4, S s46), (5, S s62), (39, B (decide (0 < ((s62.length : Nat) : Int))))], [.row .u8 x1 false]⟩ (by kernel_rfl) ⟨trivial, trivial, trivial⟩ ?_
        refine bindO_e h (fun b69 hv70 h => ?_)
        refine WO_thru ⟨[(2, B b69)], [.row .u8 x1 false]⟩ ?_ ?_
        · refine iteO_e hv70 (fun hb71 hv70 => WO_known 39 true rfl hb71 ?_) (fun hb71 hv70 => WO_known 39 false rfl hb71 ?_)
          · refine WO_step 7 [0] [4, 5, 46] (True ∧ (True ∧ (True ∧ True))) ⟨[(4, S s46), (5, S s62), (46, B (decide (((s62.length : Nat) : Int) < ((s46.length : Nat) : Int))))], [.row .u8 x1 false]⟩ (by kernel_rfl) ⟨trivial, trivial, trivial, trivial⟩ ?_
            refine iteO_e hv70 (fun hb72 hv70 => WO_known 46 true rfl hb72 ?_) (fun hb72 hv70 => WO_known 46 false rfl hb72 ?_)
            · refine guardO_e hv70 (fun hg73 hv70 => ?_)
              refine WO_step 8 [0] [4, 5, 54] (True ∧ ((0 ≤ ((s62.length : Nat) : Int) ∧ ((s62.length : Nat) : Int) ≤ ((s46.length : Nat) : Int)) ∧ (True ∧ True))) ⟨[(4, S s46), (5, S s62), (54, B (decide ((s46.take (((s62.length : Nat) : Int).toNat)) = s62)))], [.row .u8 x1 false]⟩ (by kernel_rfl) ⟨trivial, hg73, trivial, trivial⟩ ?_
              refine iteO_e hv70 (fun hb74 hv70 => WO_known 54 true rfl hb74 ?_) (fun hb74 hv70 => WO_known 54 false rfl hb74 ?_)
              · refine guardO_e hv70 (fun hg75 hv70 => ?_)
                refine WO_step 7 [0] [2] (True ∧ ((0 ≤ ((s62.length : Nat) : Int) ∧ ((s62.length : Nat) : Int) < ((s46.length : Nat) : Int)) ∧ (True ∧ True))) ⟨[(2, B (decide (((s46.getD (((s62.length : Nat) : Int).toNat) 0).toNat : Int) = 59)))], [.row .u8 x1 false]⟩ (by kernel_rfl) ⟨trivial, hg75, trivial, trivial⟩ ?_
                cases hv70
                exact WO_nil rfl ⟨rfl, rfl⟩
              · refine WO_step 7 [0] [2] True ⟨[(2, B false)], [.row .u8 x1 false]⟩ (by kernel_rfl) trivial ?_
                cases hv70
                exact WO_nil rfl ⟨rfl, rfl⟩
            · refine WO_step 15 [0] [2] True ⟨[(2, B false)], [.row .u8 x1 false]⟩ (by kernel_rfl) trivial ?_
              cases hv70
              exact WO_nil rfl ⟨rfl, rfl⟩
          · refine WO_step 22 [0] [2] True ⟨[(2, B false)], [.row .u8 x1 false]⟩ (by kernel_rfl) trivial ?_
            cases hv70
            exact WO_nil rfl ⟨rfl, rfl⟩
        · refine thenS_n ?_
          refine W_ret ?_
          cases h
          exact ⟨[0], True, by kernel_rfl, trivial⟩

end Go.Proofs.YtiboohplkihhnaaDoor

import Derived.Test.YtghdgncfcfdlfaaDoorTT1
namespace Go.Proofs.YtghdgncfcfdlfaaDoor
open Go Go.Shelf Go.Proofs
set_option linter.unusedVariables false
/- laws.FnTreeRoundTrip -/
def laws_FnTreeRoundTrip (n : Nat) (x1 : List Int) : Option (Bool) :=
 iteO (decide (1048576 < ((x1.length : Nat) : Int)))
 (some true)
 (bindO (spec_DrawFormatTree n x1) fun (x37, k38, k39) =>
 bindO (impl_FormatTree n ((x37.drop k38).take k39)) fun s41 =>
 bindO (spec_FormatTree n ((x37.drop k38).take k39)) fun s43 =>
 iteO ((!decide (s41 = s43)) || (decide (s41 = [])))
 (bindO (spec_FormatTree n ((x37.drop k38).take k39)) fun s52 =>
 some (decide (s41 = s52)))
 (bindO (impl_ParseTree n s41) fun (x54, b55) =>
 bindO (iteO b55
 (bindO (laws_equalNodes n x54 ((x37.drop k38).take k39)) fun b63 =>
 some b63)
 (some false)) fun b60 =>
 some b60))

theorem laws_FnTreeRoundTrip_ok (n : Nat) (x1 : List Int) (b34 : Bool) (h : laws_FnTreeRoundTrip n x1 = some b34) : FOk EE 3 [sF 0 x1] [uR x1] (B b34) [uR x1] := by
  unfold laws_FnTreeRoundTrip at h
  refine FOk_of_W 37 1 Tryd.func3 rfl rfl (Nat.le_of_ble_eq_true rfl) rfl (fun w X θ => ?_)
  refine Wsr ((Wst 1 [0] [0] ⟨[(0, sF 0 x1)], [uR x1]⟩ (by kernel_rfl) (Wnt ((W_seq (W_seq ?_))))))
  refine W_region (WO_step 3 [0] [0, 9] T3 ⟨[(0, sF 0 x1), (9, B (decide (1048576 < (lI x1))))], [uR x1]⟩ (by kernel_rfl) t3 (Wnt ((iteO_e h (fun hb36 h => W_true rfl hb36 ?_) (fun hb36 h => W_false rfl hb36 ?_)))))
  ·refine Wsr ((Wst 1 [0] [2] ⟨[(2, B true)], [uR x1]⟩ (by kernel_rfl) (Wnt ((W_ret (thenS_r ?_))))))
   cases h
   exact ⟨[0], True, by kernel_rfl, trivial⟩
  ·refine W_sub [0] [0] (st' := ⟨[(0, sF 0 x1)], [uR x1]⟩) (by kernel_rfl) (W_skip (thenS_n (Wsr ((Wst 1 [0] [10] ⟨[(10, sF 0 x1)], [uR x1]⟩ (by kernel_rfl) (bindO_e h (fun v66 hc40 h => ?_)))))))
   obtain ⟨x37, k38, k39⟩ := v66
   refine WO_call [.ro 0] Tryd.f5 rfl rfl rfl (by kernel_rfl) Tryd.func5 rfl (by kernel_rfl) (spec_DrawFormatTree_ok n x1 x37 k38 k39 hc40) (And.intro (And.intro rfl rfl) (trivial)) rfl (Wst 1 [0, 1] [3] ⟨[(3, .one (.e (.sl 1 k38 k39)))], [uR x1, nO x37]⟩ (by kernel_rfl) (Wnt ((Wsr ((Wst 1 [0, 1] [3, 12] ⟨[(3, .one (.e (.sl 1 k38 k39))), (12, .one (.e (.sl 1 k38 k39)))], [uR x1, nO x37]⟩ (by kernel_rfl) (bindO_e h (fun s41 hc42 h => (WO_call [.view 0] Tryd.f6 rfl rfl rfl (by kernel_rfl) Tryd.func6 rfl (by kernel_rfl) (impl_FormatTree_ok n ((x37.drop k38).take k39) s41 hc42) (trivial) rfl (Wst 1 [0, 1] [3, 4] ⟨[(3, .one (.e (.sl 1 k38 k39))), (4, S s41)], [uR x1, nO x37]⟩ (by kernel_rfl) (Wnt ((W_seq (Wsr ((Wst 2 [0, 1] [3, 4, 14, 15] ⟨[(3, .one (.e (.sl 1 k38 k39))), (4, S s41), (14, S s41), (15, .one (.e (.sl 1 k38 k39)))], [uR x1, nO x37]⟩ (by kernel_rfl) (bindO_e h (fun s43 hc44 h => (WO_call [.view 0] Tryd.f7 rfl rfl rfl (by kernel_rfl) Tryd.func7 rfl (by kernel_rfl) (spec_FormatTree_ok n ((x37.drop k38).take k39) s43 hc44) (trivial) rfl (WO_step 2 [0, 1] [3, 4, 18] T2 ⟨[(3, .one (.e (.sl 1 k38 k39))), (4, S s41), (18, B (!decide (s41 = s43)))], [uR x1, nO x37]⟩ (by kernel_rfl) t2 (WO_thru ⟨[(3, .one (.e (.sl 1 k38 k39))), (4, S s41), (21, B ((!decide (s41 = s43)) || (decide (s41 = []))))], [uR x1, nO x37]⟩ ?_ ?_)))))))))))))))))))))
   ·refine WO_if 18 rfl (fun hb47 => ?_) (fun hb47 => ?_)
    ·refine Wst 3 [0, 1] [3, 4, 21] ⟨[(3, .one (.e (.sl 1 k38 k39))), (4, S s41), (21, B true)], [uR x1, nO x37]⟩ (by kernel_rfl) ?_
     exact WO_nil rfl ⟨rfl, by first | rfl | (rw [hb47]; first | done | rfl)⟩
    ·refine WO_step 3 [0, 1] [3, 4, 21] T2 ⟨[(3, .one (.e (.sl 1 k38 k39))), (4, S s41), (21, B (decide (s41 = [])))], [uR x1, nO x37]⟩ (by kernel_rfl) t2 ?_
     exact WO_nil rfl ⟨rfl, by first | rfl | (rw [hb47]; first | done | rfl)⟩
   ·refine thenS_n (iteO_e h (fun hb51 h => W_true rfl hb51 ?_) (fun hb51 h => W_false rfl hb51 ?_))
    ·refine Wsr ((Wst 2 [0, 1] [22, 23] ⟨[(22, S s41), (23, .one (.e (.sl 1 k38 k39)))], [uR x1, nO x37]⟩ (by kernel_rfl) (bindO_e h (fun s52 hc53 h => (WO_call [.view 0] Tryd.f7 rfl rfl rfl (by kernel_rfl) Tryd.func7 rfl (by kernel_rfl) (spec_FormatTree_ok n ((x37.drop k38).take k39) s52 hc53) (trivial) rfl (WO_step 2 [0] [2] T2 ⟨[(2, B (decide (s41 = s52)))], [uR x1]⟩ (by kernel_rfl) t2 (Wnt ((W_ret (thenS_r ?_))))))))))
     cases h
     exact ⟨[0], True, by kernel_rfl, trivial⟩
    ·refine W_sub [0, 1] [3, 4] (st' := ⟨[(3, .one (.e (.sl 1 k38 k39))), (4, S s41)], [uR x1, nO x37]⟩) (by kernel_rfl) (W_skip (thenS_n (Wsr ((Wst 1 [0, 1] [3, 27] ⟨[(3, .one (.e (.sl 1 k38 k39))), (27, S s41)], [uR x1, nO x37]⟩ (by kernel_rfl) (bindO_e h (fun v65 hc56 h => ?_)))))))
     obtain ⟨x54, b55⟩ := v65
     refine WO_call [] Tryd.f8 rfl rfl rfl (by kernel_rfl) Tryd.func8 rfl (by kernel_rfl) (impl_ParseTree_ok n s41 x54 b55 hc56) (trivial) rfl (Wst 5 [0, 1, 2] [3, 5, 6] ⟨[(3, .one (.e (.sl 1 k38 k39))), (5, sF 2 x54), (6, B b55)], [uR x1, nO x37, nO x54]⟩ (by kernel_rfl) (Wnt ((Wsr ((Wst 2 [0, 1, 2] [3, 5, 32] ⟨[(3, .one (.e (.sl 1 k38 k39))), (5, sF 2 x54), (32, B b55)], [uR x1, nO x37, nO x54]⟩ (by kernel_rfl) (bindO_e h (fun b60 hv61 h => (WO_thru ⟨[(2, B b60)], [uR x1]⟩ ?_ ?_)))))))))
     ·refine iteO_e hv61 (fun hb62 hv61 => WO_known 32 true rfl hb62 ?_) (fun hb62 hv61 => WO_known 32 false rfl hb62 ?_)
      ·refine Wst 2 [0, 2, 1] [32, 33, 34] ⟨[(32, B true), (33, sF 1 x54), (34, .one (.e (.sl 2 k38 k39)))], [uR x1, nO x54, nO x37]⟩ (by kernel_rfl) (bindO_e hv61 (fun b63 hc64 hv61 => (WO_call [.ro 1, .view 1] Tryd.f9 rfl rfl rfl (by kernel_rfl) Tryd.func9 rfl (by kernel_rfl) (laws_equalNodes_ok n x54 ((x37.drop k38).take k39) b63 hc64) (And.intro (And.intro rfl rfl) (trivial)) rfl (Wst 2 [0] [2] ⟨[(2, B b63)], [uR x1]⟩ (by kernel_rfl) ?_))))
       cases hv61
       exact WO_nil rfl ⟨rfl, rfl⟩
      ·refine Wst 5 [0] [2] ⟨[(2, B false)], [uR x1]⟩ (by kernel_rfl) ?_
       cases hv61
       exact WO_nil rfl ⟨rfl, rfl⟩
     ·refine thenS_n (W_ret ?_)
      cases h
      exact ⟨[0], True, by kernel_rfl, trivial⟩

end Go.Proofs.YtghdgncfcfdlfaaDoor

import Derived.Test.YtdkmgkeaebcobaaTLt
import Derived.Test.YtdkmgkeaebcobaaTLxa
import Derived.Test.YtdkmgkeaebcobaaProg
namespace Go.Proofs.Ytdkmgkeaebcobaa
open Go
set_option linter.unusedVariables false
noncomputable def EE : Env := ⟨Try.prog, fun _ => none, fun t => match t with | 3 => some .int | 5 => some .u8 | 9 => some .str | 32 => some .rcd | 57 => some .nod | 60 => some .nod | 63 => some .rcd | _ => none⟩
/- spec.newReader -/
def spec_newReader (x1 : List Int) : Option (Nat) :=
 bindO (iteO (decide (2000 < ((x1.length : Nat) : Int)))
 (guardO (0 ≤ (2000 : Int) ∧ (2000 : Int) ≤ ((x1.length : Nat) : Int)) <|
 some 2000)
 (some x1.length)) fun k9 =>
 some k9

theorem spec_newReader_ok (x1 : List Int) (k6 : Nat) (h : spec_newReader x1 = some k6) : FOk EE 58 [.one (.e (.sl 0 0 x1.length))] [.row .u8 x1 false] (.one (.e (.p 1 0))) [.row .u8 x1 false, .cells [.sl 0 0 k6, cI 0]] := by
  unfold spec_newReader at h
  refine FOk_of_W 11 1 Try.func58 rfl rfl (Nat.le_of_ble_eq_true rfl) rfl (fun w X θ => ?_)
  refine W_seq ?_
  refine W_region ?_
  refine WO_step 1 [0] [0] True ⟨[(0, .one (.e (.sl 0 0 x1.length)))], [.row .u8 x1 false]⟩ (by kernel_rfl) trivial ?_
  refine WO_nil rfl ?_
  refine thenS_n ?_
  refine W_seq ?_
  refine W_seq ?_
  refine W_region ?_
  refine WO_step 3 [0] [0, 5] (True ∧ (True ∧ True)) ⟨[(0, .one (.e (.sl 0 0 x1.length))), (5, B (decide (2000 < ((x1.length : Nat) : Int))))], [.row .u8 x1 false]⟩ (by kernel_rfl) ⟨trivial, trivial, trivial⟩ ?_
  refine WO_nil rfl ?_
  refine thenS_n ?_
  refine bindO_e h (fun k9 hk9 h => ?_)
  refine W_cut (Q' := fun (e : Exit) (s : St) => e = .normal ∧ s = ⟨[(0, .one (.e (.sl 0 0 k9)))], [.row .u8 x1 false]⟩) ?_ ?_
  · refine iteO_e hk9 (fun hb11 hk9 => W_true rfl hb11 ?_) (fun hb11 hk9 => W_false rfl hb11 ?_)
    · refine W_region ?_
      refine guardO_e hk9 (fun hg12 hk9 => ?_)
      refine WO_step 3 [0] [0] ((0 ≤ (2000 : Int) ∧ (2000 : Int) ≤ ((x1.length : Nat) : Int)) ∧ True) ⟨[(0, .one (.e (.sl 0 0 2000)))], [.row .u8 x1 false]⟩ (by kernel_rfl) ⟨hg12, trivial⟩ ?_
      refine WO_nil rfl ?_
      cases hk9
      exact And.intro rfl rfl
    · refine W_sub [0] [0] (st' := ⟨[(0, .one (.e (.sl 0 0 x1.length)))], [.row .u8 x1 false]⟩) (by kernel_rfl) ?_
      refine W_skip ?_
      cases hk9
      exact And.intro rfl rfl
  · rintro _ _ ⟨rfl, rfl⟩
    refine thenS_n ?_
    refine W_seq ?_
    refine W_region ?_
    refine WO_step 4 [0, 1] [2] (True ∧ True) ⟨[(2, .one (.e (.p 1 0)))], [.row .u8 x1 false, .cells [.sl 0 0 k9, cI 0]]⟩ (by kernel_rfl) ⟨trivial, trivial⟩ ?_
    refine WO_nil rfl ?_
    refine thenS_n ?_
    refine W_ret ?_
    cases h
    exact ⟨[0, 1], True, by kernel_rfl, trivial⟩

/- spec.reader).pick -/
def spec_reader_pick (x1 : List Int) (k2 : Nat) (i3 : Int) (i4 : Int) : Option (Int) :=
 iteO ((decide (i4 < 1)) || (decide (((k2 : Nat) : Int) = 0)))
 (some 0)
 (iteO (decide ((w64 ((w64 (i3 + 1)) - 1)) < ((k2 : Nat) : Int)))
 (guardO (0 ≤ (w64 ((w64 (i3 + 1)) - 1)) ∧ (w64 ((w64 (i3 + 1)) - 1)) < ((k2 : Nat) : Int)) <|
 guardO ((i4 : Int) ≠ 0) <|
 some ((w64 (x1.getD ((w64 ((w64 (i3 + 1)) - 1)).toNat) 0)).tmod i4))
 (guardO ((((k2 : Nat) : Int) : Int) ≠ 0) <|
 guardO (0 ≤ ((w64 ((w64 (i3 + 1)) - 1)).tmod ((k2 : Nat) : Int)) ∧ ((w64 ((w64 (i3 + 1)) - 1)).tmod ((k2 : Nat) : Int)) < ((k2 : Nat) : Int)) <|
 guardO ((((k2 : Nat) : Int) : Int) ≠ 0) <|
 guardO (0 ≤ ((w64 ((w64 ((w64 ((w64 (i3 + 1)) - 1)) * 7)) + 3)).tmod ((k2 : Nat) : Int)) ∧ ((w64 ((w64 ((w64 ((w64 (i3 + 1)) - 1)) * 7)) + 3)).tmod ((k2 : Nat) : Int)) < ((k2 : Nat) : Int)) <|
 guardO ((((k2 : Nat) : Int) : Int) ≠ 0) <|
 guardO ((i4 : Int) ≠ 0) <|
 some ((w64 (BitVec.ofInt 64 (w64 ((w64 ((w64 ((w64 ((w64 (x1.getD (((w64 ((w64 (i3 + 1)) - 1)).tmod ((k2 : Nat) : Int)).toNat) 0)) * 131)) + (w64 ((w64 (x1.getD (((w64 ((w64 ((w64 ((w64 (i3 + 1)) - 1)) * 7)) + 3)).tmod ((k2 : Nat) : Int)).toNat) 0)) * 1117)))) + (w64 ((w64 ((w64 (i3 + 1)) - 1)) * 29)))) + (w64 ((w64 ((w64 ((w64 (i3 + 1)) - 1)).tdiv ((k2 : Nat) : Int))) * 53)))) ^^^ BitVec.ofInt 64 (w64 ((w64 ((w64 ((w64 ((w64 ((w64 (x1.getD (((w64 ((w64 (i3 + 1)) - 1)).tmod ((k2 : Nat) : Int)).toNat) 0)) * 131)) + (w64 ((w64 (x1.getD (((w64 ((w64 ((w64 ((w64 (i3 + 1)) - 1)) * 7)) + 3)).tmod ((k2 : Nat) : Int)).toNat) 0)) * 1117)))) + (w64 ((w64 ((w64 (i3 + 1)) - 1)) * 29)))) + (w64 ((w64 ((w64 ((w64 (i3 + 1)) - 1)).tdiv ((k2 : Nat) : Int))) * 53)))).tdiv 64))).toNat).tmod i4)))

theorem spec_reader_pick_ok (x1 : List Int) (k2 : Nat) (i3 : Int) (i4 : Int) (i22 : Int) (h : spec_reader_pick x1 k2 i3 i4 = some i22) : FOk EE 66 [.one (.e (.p 0 0)), I i4] [.cells [.sl 1 0 k2, cI i3], .row .u8 x1 false] (I i22) [.cells [.sl 1 0 k2, cI (w64 (i3 + 1))], .row .u8 x1 false] := by
  unfold spec_reader_pick at h
  refine FOk_of_W 99 2 Try.func66 rfl rfl (Nat.le_of_ble_eq_true rfl) rfl (fun w X θ => ?_)
  refine W_seq ?_
  refine W_region ?_
  refine WO_step 1 [0, 1] [0, 1] True ⟨[(0, .one (.e (.p 0 0))), (1, I i4)], [.cells [.sl 1 0 k2, cI i3], .row .u8 x1 false]⟩ (by kernel_rfl) trivial ?_
  refine WO_nil rfl ?_
  refine thenS_n ?_
  refine W_seq ?_
  refine W_region ?_
  refine WO_step 9 [0, 1] [0, 1] (True ∧ (True ∧ (True ∧ True))) ⟨[(0, .one (.e (.p 0 0))), (1, I i4)], [.cells [.sl 1 0 k2, cI (w64 (i3 + 1))], .row .u8 x1 false]⟩ (by kernel_rfl) ⟨trivial, trivial, trivial, trivial⟩ ?_
  refine WO_nil rfl ?_
  refine thenS_n ?_
  refine W_seq ?_
  refine W_seq ?_
  refine W_region ?_
  refine WO_step 3 [0, 1] [0, 1, 17] (True ∧ True) ⟨[(0, .one (.e (.p 0 0))), (1, I i4), (17, B (decide (i4 < 1)))], [.cells [.sl 1 0 k2, cI (w64 (i3 + 1))], .row .u8 x1 false]⟩ (by kernel_rfl) ⟨trivial, trivial⟩ ?_
  refine WO_thru ⟨[(0, .one (.e (.p 0 0))), (1, I i4), (24, B ((decide (i4 < 1)) || (decide (((k2 : Nat) : Int) = 0))))], [.cells [.sl 1 0 k2, cI (w64 (i3 + 1))], .row .u8 x1 false]⟩ ?_ ?_
  · refine WO_if 17 rfl (fun hb25 => ?_) (fun hb25 => ?_)
    · refine WO_step 7 [0, 1] [0, 1, 24] True ⟨[(0, .one (.e (.p 0 0))), (1, I i4), (24, B true)], [.cells [.sl 1 0 k2, cI (w64 (i3 + 1))], .row .u8 x1 false]⟩ (by kernel_rfl) trivial ?_
      exact WO_nil rfl ⟨rfl, by first | rfl | (rw [hb25]; first | done | rfl)⟩
    · refine WO_step 7 [0, 1] [0, 1, 24] (True ∧ (True ∧ (True ∧ True))) ⟨[(0, .one (.e (.p 0 0))), (1, I i4), (24, B (decide (((k2 : Nat) : Int) = 0)))], [.cells [.sl 1 0 k2, cI (w64 (i3 + 1))], .row .u8 x1 false]⟩ (by kernel_rfl) ⟨trivial, trivial, trivial, trivial⟩ ?_
      exact WO_nil rfl ⟨rfl, by first | rfl | (rw [hb25]; first | done | rfl)⟩
  · refine thenS_n ?_
    refine iteO_e h (fun hb27 h => W_true rfl hb27 ?_) (fun hb27 h => W_false rfl hb27 ?_)
    · refine W_seq ?_
      refine W_region ?_
      refine WO_step 1 [0, 1] [4] True ⟨[(4, I 0)], [.cells [.sl 1 0 k2, cI (w64 (i3 + 1))], .row .u8 x1 false]⟩ (by kernel_rfl) trivial ?_
      refine WO_nil rfl ?_
      refine thenS_n ?_
      refine W_ret ?_
      refine thenS_r ?_
      cases h
      exact ⟨[0, 1], True, by kernel_rfl, trivial⟩
    · refine W_sub [0, 1] [0, 1] (st' := ⟨[(0, .one (.e (.p 0 0))), (1, I i4)], [.cells [.sl 1 0 k2, cI (w64 (i3 + 1))], .row .u8 x1 false]⟩) (by kernel_rfl) ?_
      refine W_skip ?_
      refine thenS_n ?_
      refine W_seq ?_
      refine W_region ?_
      refine WO_step 6 [0, 1] [0, 1, 5] (True ∧ (True ∧ True)) ⟨[(0, .one (.e (.p 0 0))), (1, I i4), (5, I (w64 ((w64 (i3 + 1)) - 1)))], [.cells [.sl 1 0 k2, cI (w64 (i3 + 1))], .row .u8 x1 false]⟩ (by kernel_rfl) ⟨trivial, trivial, trivial⟩ ?_
      refine WO_nil rfl ?_
      refine thenS_n ?_
      refine W_seq ?_
      refine W_seq ?_
      refine W_region ?_
      refine WO_step 7 [0, 1] [0, 1, 5, 36] (True ∧ (True ∧ (True ∧ True))) ⟨[(0, .one (.e (.p 0 0))), (1, I i4), (5, I (w64 ((w64 (i3 + 1)) - 1))), (36, B (decide ((w64 ((w64 (i3 + 1)) - 1)) < ((k2 : Nat) : Int))))], [.cells [.sl 1 0 k2, cI (w64 (i3 + 1))], .row .u8 x1 false]⟩ (by kernel_rfl) ⟨trivial, trivial, trivial, trivial⟩ ?_
      refine WO_nil rfl ?_
      refine thenS_n ?_
      refine iteO_e h (fun hb31 h => W_true rfl hb31 ?_) (fun hb31 h => W_false rfl hb31 ?_)
      · refine W_seq ?_
        refine W_region ?_
        refine guardO_e h (fun hg32 h => ?_)
        refine guardO_e h (fun hg33 h => ?_)
        refine WO_step 11 [0, 1] [4] (True ∧ ((0 ≤ (w64 ((w64 (i3 + 1)) - 1)) ∧ (w64 ((w64 (i3 + 1)) - 1)) < ((k2 : Nat) : Int)) ∧ (True ∧ (True ∧ (((i4 : Int) ≠ 0) ∧ True))))) ⟨[(4, I ((w64 (x1.getD ((w64 ((w64 (i3 + 1)) - 1)).toNat) 0)).tmod i4))], [.cells [.sl 1 0 k2, cI (w64 (i3 + 1))], .row .u8 x1 false]⟩ (by kernel_rfl) ⟨trivial, hg32, trivial, trivial, hg33, trivial⟩ ?_
        refine WO_nil rfl ?_
        refine thenS_n ?_
        refine W_ret ?_
        refine thenS_r ?_
        cases h
        exact ⟨[0, 1], True, by kernel_rfl, trivial⟩
      · refine W_sub [0, 1] [0, 1, 5] (st' := ⟨[(0, .one (.e (.p 0 0))), (1, I i4), (5, I (w64 ((w64 (i3 + 1)) - 1)))], [.cells [.sl 1 0 k2, cI (w64 (i3 + 1))], .row .u8 x1 false]⟩) (by kernel_rfl) ?_
        refine W_skip ?_
        refine thenS_n ?_
        refine W_seq ?_
        refine guardO_e h (fun hg34 h => ?_)
        refine guardO_e h (fun hg35 h => ?_)
        refine guardO_e h (fun hg36 h => ?_)
        refine guardO_e h (fun hg37 h => ?_)
        refine guardO_e h (fun hg38 h => ?_)
        refine W_cut (Q' := fun (e : Exit) (s : St) => e = .normal ∧ s = ⟨[(1, I i4), (6, I (w64 ((w64 ((w64 ((w64 ((w64 (x1.getD (((w64 ((w64 (i3 + 1)) - 1)).tmod ((k2 : Nat) : Int)).toNat) 0)) * 131)) + (w64 ((w64 (x1.getD (((w64 ((w64 ((w64 ((w64 (i3 + 1)) - 1)) * 7)) + 3)).tmod ((k2 : Nat) : Int)).toNat) 0)) * 1117)))) + (w64 ((w64 ((w64 (i3 + 1)) - 1)) * 29)))) + (w64 ((w64 ((w64 ((w64 (i3 + 1)) - 1)).tdiv ((k2 : Nat) : Int))) * 53)))))], [.cells [.sl 1 0 k2, cI (w64 (i3 + 1))], .row .u8 x1 false]⟩) ?_ ?_
        · refine W_draw [] true (by kernel_rfl) (by kernel_rfl) ?_
          refine WD_takeK [0, 1, 2, 3, 4, 5, 6, 7, 8, 9, 10, 11, 12, 13, 14, 15, 16, 17, 18, 19, 20, 21, 22, 23, 24, 25, 26, 27, 28, 29, 30, 31, 32, 33, 34, 35, 36, 37, 38, 39, 40, 41, 42, 43, 44, 45] [1, 6] [1, 6] (φ := (True ∧ True ∧ (True ∧ True ∧ (True ∧ True ∧ (((((k2 : Nat) : Int) : Int) ≠ 0) ∧ ((((k2 : Nat) : Int) : Int) ≠ 0) ∧ ((0 ≤ ((w64 ((w64 (i3 + 1)) - 1)).tmod ((k2 : Nat) : Int)) ∧ ((w64 ((w64 (i3 + 1)) - 1)).tmod ((k2 : Nat) : Int)) < ((k2 : Nat) : Int)) ∧ (0 ≤ ((w64 ((w64 (i3 + 1)) - 1)).tmod ((k2 : Nat) : Int)) ∧ ((w64 ((w64 (i3 + 1)) - 1)).tmod ((k2 : Nat) : Int)) < ((k2 : Nat) : Int)) ∧ (True ∧ True ∧ (True ∧ True ∧ (True ∧ True ∧ (True ∧ True ∧ (True ∧ True ∧ (True ∧ True ∧ (True ∧ True ∧ (True ∧ True ∧ (((((k2 : Nat) : Int) : Int) ≠ 0) ∧ ((((k2 : Nat) : Int) : Int) ≠ 0) ∧ ((0 ≤ ((w64 ((w64 ((w64 ((w64 (i3 + 1)) - 1)) * 7)) + 3)).tmod ((k2 : Nat) : Int)) ∧ ((w64 ((w64 ((w64 ((w64 (i3 + 1)) - 1)) * 7)) + 3)).tmod ((k2 : Nat) : Int)) < ((k2 : Nat) : Int)) ∧ (0 ≤ ((w64 ((w64 ((w64 ((w64 (i3 + 1)) - 1)) * 7)) + 3)).tmod ((k2 : Nat) : Int)) ∧ ((w64 ((w64 ((w64 ((w64 (i3 + 1)) - 1)) * 7)) + 3)).tmod ((k2 : Nat) : Int)) < ((k2 : Nat) : Int)) ∧ (True ∧ True ∧ (True ∧ True ∧ (True ∧ True ∧ (True ∧ True ∧ (True ∧ True ∧ (True ∧ True ∧ (True ∧ True ∧ (True ∧ True ∧ (((((k2 : Nat) : Int) : Int) ≠ 0) ∧ ((((k2 : Nat) : Int) : Int) ≠ 0) ∧ (True ∧ True ∧ (True ∧ True ∧ True))))))))))))))))))))))))))) (ls' := #[true, true, true, true, true, true, true, true, true, true, true, true, true, true, true, true, true, true, true, true, true, true, true, true, true, true, true, true, true, true, true, true, true, true, true, true, true, true, true, true, true, true, true, true, true, true]) (Ts' := [(1, I i4), (6, I (w64 ((w64 ((w64 ((w64 ((w64 (x1.getD (((w64 ((w64 (i3 + 1)) - 1)).tmod ((k2 : Nat) : Int)).toNat) 0)) * 131)) + (w64 ((w64 (x1.getD (((w64 ((w64 ((w64 ((w64 (i3 + 1)) - 1)) * 7)) + 3)).tmod ((k2 : Nat) : Int)).toNat) 0)) * 1117)))) + (w64 ((w64 ((w64 (i3 + 1)) - 1)) * 29)))) + (w64 ((w64 ((w64 ((w64 (i3 + 1)) - 1)).tdiv ((k2 : Nat) : Int))) * 53)))))]) (st' := ⟨[(1, I i4), (6, I (w64 ((w64 ((w64 ((w64 ((w64 (x1.getD (((w64 ((w64 (i3 + 1)) - 1)).tmod ((k2 : Nat) : Int)).toNat) 0)) * 131)) + (w64 ((w64 (x1.getD (((w64 ((w64 ((w64 ((w64 (i3 + 1)) - 1)) * 7)) + 3)).tmod ((k2 : Nat) : Int)).toNat) 0)) * 1117)))) + (w64 ((w64 ((w64 (i3 + 1)) - 1)) * 29)))) + (w64 ((w64 ((w64 ((w64 (i3 + 1)) - 1)).tdiv ((k2 : Nat) : Int))) * 53)))))], [.cells [.sl 1 0 k2, cI (w64 (i3 + 1))], .row .u8 x1 false]⟩) (n2 := 0) (by kernel_rfl) ⟨trivial, trivial, trivial, trivial, trivial, trivial, hg34, hg34, hg35, hg35, trivial, trivial, trivial, trivial, trivial, trivial, trivial, trivial, trivial, trivial, trivial, trivial, trivial, trivial, trivial, trivial, hg36, hg36, hg37, hg37, trivial, trivial, trivial, trivial, trivial, trivial, trivial, trivial, trivial, trivial, trivial, trivial, trivial, trivial, trivial, trivial, hg38, hg38, trivial, trivial, trivial, trivial, trivial⟩ rfl ?_
          exact WD_done [0, 1] [1, 6] (st' := ⟨[(1, I i4), (6, I (w64 ((w64 ((w64 ((w64 ((w64 (x1.getD (((w64 ((w64 (i3 + 1)) - 1)).tmod ((k2 : Nat) : Int)).toNat) 0)) * 131)) + (w64 ((w64 (x1.getD (((w64 ((w64 ((w64 ((w64 (i3 + 1)) - 1)) * 7)) + 3)).tmod ((k2 : Nat) : Int)).toNat) 0)) * 1117)))) + (w64 ((w64 ((w64 (i3 + 1)) - 1)) * 29)))) + (w64 ((w64 ((w64 ((w64 (i3 + 1)) - 1)).tdiv ((k2 : Nat) : Int))) * 53)))))], [.cells [.sl 1 0 k2, cI (w64 (i3 + 1))], .row .u8 x1 false]⟩) (by kernel_rfl) (by kernel_rfl) (And.intro rfl rfl)
        · rintro _ _ ⟨rfl, rfl⟩
          refine thenS_n ?_
          refine W_seq ?_
          refine W_region ?_
          refine WO_step 5 [0, 1] [1, 6] (((64 : Int) ≠ 0) ∧ (True ∧ True)) ⟨[(1, I i4), (6, I (w64 (BitVec.ofInt 64 (w64 ((w64 ((w64 ((w64 ((w64 (x1.getD (((w64 ((w64 (i3 + 1)) - 1)).tmod ((k2 : Nat) : Int)).toNat) 0)) * 131)) + (w64 ((w64 (x1.getD (((w64 ((w64 ((w64 ((w64 (i3 + 1)) - 1)) * 7)) + 3)).tmod ((k2 : Nat) : Int)).toNat) 0)) * 1117)))) + (w64 ((w64 ((w64 (i3 + 1)) - 1)) * 29)))) + (w64 ((w64 ((w64 ((w64 (i3 + 1)) - 1)).tdiv ((k2 : Nat) : Int))) * 53)))) ^^^ BitVec.ofInt 64 (w64 ((w64 ((w64 ((w64 ((w64 ((w64 (x1.getD (((w64 ((w64 (i3 + 1)) - 1)).tmod ((k2 : Nat) : Int)).toNat) 0)) * 131)) + (w64 ((w64 (x1.getD (((w64 ((w64 ((w64 ((w64 (i3 + 1)) - 1)) * 7)) + 3)).tmod ((k2 : Nat) : Int)).toNat) 0)) * 1117)))) + (w64 ((w64 ((w64 (i3 + 1)) - 1)) * 29)))) + (w64 ((w64 ((w64 ((w64 (i3 + 1)) - 1)).tdiv ((k2 : Nat) : Int))) * 53)))).tdiv 64))).toNat))], [.cells [.sl 1 0 k2, cI (w64 (i3 + 1))], .row .u8 x1 false]⟩ (by kernel_rfl) ⟨(by decide), trivial, trivial⟩ ?_
          refine WO_nil rfl ?_
          refine thenS_n ?_
          refine W_seq ?_
          refine W_region ?_
          refine guardO_e h (fun hg39 h => ?_)
          refine WO_step 4 [0, 1] [4] (((i4 : Int) ≠ 0) ∧ True) ⟨[(4, I ((w64 (BitVec.ofInt 64 (w64 ((w64 ((w64 ((w64 ((w64 (x1.getD (((w64 ((w64 (i3 + 1)) - 1)).tmod ((k2 : Nat) : Int)).toNat) 0)) * 131)) + (w64 ((w64 (x1.getD (((w64 ((w64 ((w64 ((w64 (i3 + 1)) - 1)) * 7)) + 3)).tmod ((k2 : Nat) : Int)).toNat) 0)) * 1117)))) + (w64 ((w64 ((w64 (i3 + 1)) - 1)) * 29)))) + (w64 ((w64 ((w64 ((w64 (i3 + 1)) - 1)).tdiv ((k2 : Nat) : Int))) * 53)))) ^^^ BitVec.ofInt 64 (w64 ((w64 ((w64 ((w64 ((w64 ((w64 (x1.getD (((w64 ((w64 (i3 + 1)) - 1)).tmod ((k2 : Nat) : Int)).toNat) 0)) * 131)) + (w64 ((w64 (x1.getD (((w64 ((w64 ((w64 ((w64 (i3 + 1)) - 1)) * 7)) + 3)).tmod ((k2 : Nat) : Int)).toNat) 0)) * 1117)))) + (w64 ((w64 ((w64 (i3 + 1)) - 1)) * 29)))) + (w64 ((w64 ((w64 ((w64 (i3 + 1)) - 1)).tdiv ((k2 : Nat) : Int))) * 53)))).tdiv 64))).toNat).tmod i4))], [.cells [.sl 1 0 k2, cI (w64 (i3 + 1))], .row .u8 x1 false]⟩ (by kernel_rfl) ⟨hg39, trivial⟩ ?_
          refine WO_nil rfl ?_
          refine thenS_n ?_
          refine W_ret ?_
          cases h
          exact ⟨[0, 1], True, by kernel_rfl, trivial⟩

/- spec.reader).one -/
def spec_reader_one (x1 : List Int) (k2 : Nat) (i3 : Int) (x4 : List Int) : Option (Int × Int) :=
 bindO (spec_reader_pick x1 k2 i3 ((x4.length : Nat) : Int)) fun i10 =>
 guardO (0 ≤ i10 ∧ i10 < ((x4.length : Nat) : Int)) <|
 some ((w64 (i3 + 1)), (x4.getD i10.toNat 0))

theorem spec_reader_one_ok (x1 : List Int) (k2 : Nat) (i3 : Int) (x4 : List Int) (i8 : Int) (i9 : Int) (h : spec_reader_one x1 k2 i3 x4 = some (i8, i9)) : FOk EE 68 [.one (.e (.p 0 0)), .one (.e (.sl 2 0 x4.length))] [.cells [.sl 1 0 k2, cI i3], .row .u8 x1 false, .row .int x4 false] (I i9) [.cells [.sl 1 0 k2, cI i8], .row .u8 x1 false, .row .int x4 false] := by
  unfold spec_reader_one at h
  refine FOk_of_W 12 3 Try.func68 rfl rfl (Nat.le_of_ble_eq_true rfl) rfl (fun w X θ => ?_)
  refine W_seq ?_
  refine W_region ?_
  refine WO_step 1 [0, 1, 2] [0, 1] True ⟨[(0, .one (.e (.p 0 0))), (1, .one (.e (.sl 2 0 x4.length)))], [.cells [.sl 1 0 k2, cI i3], .row .u8 x1 false, .row .int x4 false]⟩ (by kernel_rfl) trivial ?_
  refine WO_nil rfl ?_
  refine thenS_n ?_
  refine W_seq ?_
  refine W_region ?_
  refine WO_step 4 [0, 1, 2] [5, 6, 8] (True ∧ True) ⟨[(5, .one (.e (.sl 2 0 x4.length))), (6, .one (.e (.p 0 0))), (8, I ((x4.length : Nat) : Int))], [.cells [.sl 1 0 k2, cI i3], .row .u8 x1 false, .row .int x4 false]⟩ (by kernel_rfl) ⟨trivial, trivial⟩ ?_
  refine bindO_e h (fun i10 hc11 h => ?_)
  refine WO_call [.own 0, .ro 1] Try.f66 rfl rfl rfl (by kernel_rfl) rfl rfl (by kernel_rfl) (spec_reader_pick_ok x1 k2 i3 ((x4.length : Nat) : Int) i10 hc11) (And.intro (trivial) (And.intro (And.intro rfl rfl) (trivial))) rfl ?_
  refine guardO_e h (fun hg12 h => ?_)
  refine WO_step 3 [0, 1, 2] [4] ((0 ≤ i10 ∧ i10 < ((x4.length : Nat) : Int)) ∧ (True ∧ True)) ⟨[(4, I (x4.getD i10.toNat 0))], [.cells [.sl 1 0 k2, cI (w64 (i3 + 1))], .row .u8 x1 false, .row .int x4 false]⟩ (by kernel_rfl) ⟨hg12, trivial, trivial⟩ ?_
  refine WO_nil rfl ?_
  refine thenS_n ?_
  refine W_ret ?_
  cases h
  exact ⟨[0, 1, 2], True, by kernel_rfl, trivial⟩

/- spec.someValue -/
def spec_someValue (x1 : List Int) (k2 : Nat) (i3 : Int) : Option (Int × Int) :=
 bindO (spec_reader_pick x1 k2 i3 40) fun i14 =>
 bindO (spec_reader_pick x1 k2 (w64 (i3 + 1)) 250) fun i16 =>
 bindO (spec_reader_one x1 k2 (w64 ((w64 (i3 + 1)) + 1)) [0, 1, (-1), 5, 10, 100, 1000, (-1000), i14, (w64 ((w64 (4 * i16)) - 500))]) fun (i18, i19) =>
 some (i18, i19)

theorem spec_someValue_ok (x1 : List Int) (k2 : Nat) (i3 : Int) (i12 : Int) (i13 : Int) (h : spec_someValue x1 k2 i3 = some (i12, i13)) : FOk EE 69 [.one (.e (.p 0 0))] [.cells [.sl 1 0 k2, cI i3], .row .u8 x1 false] (I i13) [.cells [.sl 1 0 k2, cI i12], .row .u8 x1 false] := by
  unfold spec_someValue at h
  refine FOk_of_W 12 2 Try.func69 rfl rfl (Nat.le_of_ble_eq_true rfl) rfl (fun w X θ => ?_)
  refine W_seq ?_
  refine W_region ?_
  refine WO_step 1 [0, 1] [0] True ⟨[(0, .one (.e (.p 0 0)))], [.cells [.sl 1 0 k2, cI i3], .row .u8 x1 false]⟩ (by kernel_rfl) trivial ?_
  refine WO_nil rfl ?_
  refine thenS_n ?_
  refine W_seq ?_
  refine W_region ?_
  refine WO_step 2 [0, 1] [0, 3, 4] True ⟨[(0, .one (.e (.p 0 0))), (3, .one (.e (.p 0 0))), (4, .one (.e (.p 0 0)))], [.cells [.sl 1 0 k2, cI i3], .row .u8 x1 false]⟩ (by kernel_rfl) trivial ?_
  refine bindO_e h (fun i14 hc15 h => ?_)
  refine WO_call [.own 0, .ro 1] Try.f66 rfl rfl rfl (by kernel_rfl) rfl rfl (by kernel_rfl) (spec_reader_pick_ok x1 k2 i3 40 i14 hc15) (And.intro (trivial) (And.intro (And.intro rfl rfl) (trivial))) rfl ?_
  refine WO_step 1 [0, 1] [3, 5, 6] True ⟨[(3, .one (.e (.p 0 0))), (5, I i14), (6, .one (.e (.p 0 0)))], [.cells [.sl 1 0 k2, cI (w64 (i3 + 1))], .row .u8 x1 false]⟩ (by kernel_rfl) trivial ?_
  refine bindO_e h (fun i16 hc17 h => ?_)
  refine WO_call [.own 0, .ro 1] Try.f66 rfl rfl rfl (by kernel_rfl) rfl rfl (by kernel_rfl) (spec_reader_pick_ok x1 k2 (w64 (i3 + 1)) 250 i16 hc17) (And.intro (trivial) (And.intro (And.intro rfl rfl) (trivial))) rfl ?_
  refine WO_step 3 [0, 1, 2] [3, 10] (True ∧ (True ∧ True)) ⟨[(3, .one (.e (.p 0 0))), (10, .one (.e (.sl 2 0 ([0, 1, (-1), 5, 10, 100, 1000, (-1000), i14, (w64 ((w64 (4 * i16)) - 500))].length))))], [.cells [.sl 1 0 k2, cI (w64 ((w64 (i3 + 1)) + 1))], .row .u8 x1 false, .row .int [0, 1, (-1), 5, 10, 100, 1000, (-1000), i14, (w64 ((w64 (4 * i16)) - 500))] true]⟩ (by kernel_rfl) ⟨trivial, trivial, trivial⟩ ?_
  refine bindO_e h (fun v21 hc20 h => ?_)
  obtain ⟨i18, i19⟩ := v21
  refine WO_call [.own 0, .ro 1, .ro 2] Try.f68 rfl rfl rfl (by kernel_rfl) rfl rfl (by kernel_rfl) (spec_reader_one_ok x1 k2 (w64 ((w64 (i3 + 1)) + 1)) [0, 1, (-1), 5, 10, 100, 1000, (-1000), i14, (w64 ((w64 (4 * i16)) - 500))] i18 i19 hc20) (And.intro (trivial) (And.intro (And.intro rfl rfl) (And.intro (And.intro rfl rfl) (trivial)))) rfl ?_
  refine WO_step 1 [0, 1] [2] True ⟨[(2, I i19)], [.cells [.sl 1 0 k2, cI i18], .row .u8 x1 false]⟩ (by kernel_rfl) trivial ?_
  refine WO_nil rfl ?_
  refine thenS_n ?_
  refine W_ret ?_
  cases h
  exact ⟨[0, 1], True, by kernel_rfl, trivial⟩

/- spec.reader).of -/
def spec_reader_of (x1 : List Int) (k2 : Nat) (i3 : Int) (x4 : List Str) : Option (Int × Str) :=
 bindO (spec_reader_pick x1 k2 i3 ((x4.length : Nat) : Int)) fun i10 =>
 guardO (0 ≤ i10 ∧ i10 < ((x4.length : Nat) : Int)) <|
 some ((w64 (i3 + 1)), (x4.getD i10.toNat []))

theorem spec_reader_of_ok (x1 : List Int) (k2 : Nat) (i3 : Int) (x4 : List Str) (i8 : Int) (s9 : Str) (h : spec_reader_of x1 k2 i3 x4 = some (i8, s9)) : FOk EE 67 [.one (.e (.p 0 0)), .one (.e (.sl 2 0 x4.length))] [.cells [.sl 1 0 k2, cI i3], .row .u8 x1 false, .row .str x4 false] (S s9) [.cells [.sl 1 0 k2, cI i8], .row .u8 x1 false, .row .str x4 false] := by
  unfold spec_reader_of at h
  refine FOk_of_W 12 3 Try.func67 rfl rfl (Nat.le_of_ble_eq_true rfl) rfl (fun w X θ => ?_)
  refine W_seq ?_
  refine W_region ?_
  refine WO_step 1 [0, 1, 2] [0, 1] True ⟨[(0, .one (.e (.p 0 0))), (1, .one (.e (.sl 2 0 x4.length)))], [.cells [.sl 1 0 k2, cI i3], .row .u8 x1 false, .row .str x4 false]⟩ (by kernel_rfl) trivial ?_
  refine WO_nil rfl ?_
  refine thenS_n ?_
  refine W_seq ?_
  refine W_region ?_
  refine WO_step 4 [0, 1, 2] [5, 6, 8] (True ∧ True) ⟨[(5, .one (.e (.sl 2 0 x4.length))), (6, .one (.e (.p 0 0))), (8, I ((x4.length : Nat) : Int))], [.cells [.sl 1 0 k2, cI i3], .row .u8 x1 false, .row .str x4 false]⟩ (by kernel_rfl) ⟨trivial, trivial⟩ ?_
  refine bindO_e h (fun i10 hc11 h => ?_)
  refine WO_call [.own 0, .ro 1] Try.f66 rfl rfl rfl (by kernel_rfl) rfl rfl (by kernel_rfl) (spec_reader_pick_ok x1 k2 i3 ((x4.length : Nat) : Int) i10 hc11) (And.intro (trivial) (And.intro (And.intro rfl rfl) (trivial))) rfl ?_
  refine guardO_e h (fun hg12 h => ?_)
  refine WO_step 3 [0, 1, 2] [4] ((0 ≤ i10 ∧ i10 < ((x4.length : Nat) : Int)) ∧ (True ∧ True)) ⟨[(4, S (x4.getD i10.toNat []))], [.cells [.sl 1 0 k2, cI (w64 (i3 + 1))], .row .u8 x1 false, .row .str x4 false]⟩ (by kernel_rfl) ⟨hg12, trivial, trivial⟩ ?_
  refine WO_nil rfl ?_
  refine thenS_n ?_
  refine W_ret ?_
  cases h
  exact ⟨[0, 1, 2], True, by kernel_rfl, trivial⟩

/- spec.someName -/
def spec_someName (x1 : List Int) (k2 : Nat) (i3 : Int) : Option (Int × Str) :=
 bindO (spec_reader_of x1 k2 i3 [[97], [98], [99], [97, 98], [120], [122]]) fun (i10, s11) =>
 some (i10, s11)

theorem spec_someName_ok (x1 : List Int) (k2 : Nat) (i3 : Int) (i8 : Int) (s9 : Str) (h : spec_someName x1 k2 i3 = some (i8, s9)) : FOk EE 74 [.one (.e (.p 0 0))] [.cells [.sl 1 0 k2, cI i3], .row .u8 x1 false] (S s9) [.cells [.sl 1 0 k2, cI i8], .row .u8 x1 false] := by
  unfold spec_someName at h
  refine FOk_of_W 6 2 Try.func74 rfl rfl (Nat.le_of_ble_eq_true rfl) rfl (fun w X θ => ?_)
  refine W_seq ?_
  refine W_region ?_
  refine WO_step 1 [0, 1] [0] True ⟨[(0, .one (.e (.p 0 0)))], [.cells [.sl 1 0 k2, cI i3], .row .u8 x1 false]⟩ (by kernel_rfl) trivial ?_
  refine WO_nil rfl ?_
  refine thenS_n ?_
  refine W_seq ?_
  refine W_region ?_
  refine WO_step 2 [0, 1, 2] [3, 4] True ⟨[(3, .one (.e (.p 0 0))), (4, .one (.e (.sl 2 0 ([[97], [98], [99], [97, 98], [120], [122]].length))))], [.cells [.sl 1 0 k2, cI i3], .row .u8 x1 false, .row .str [[97], [98], [99], [97, 98], [120], [122]] true]⟩ (by kernel_rfl) trivial ?_
  refine bindO_e h (fun v13 hc12 h => ?_)
  obtain ⟨i10, s11⟩ := v13
  refine WO_call [.own 0, .ro 1, .ro 2] Try.f67 rfl rfl rfl (by kernel_rfl) rfl rfl (by kernel_rfl) (spec_reader_of_ok x1 k2 i3 [[97], [98], [99], [97, 98], [120], [122]] i10 s11 hc12) (And.intro (trivial) (And.intro (And.intro rfl rfl) (And.intro (And.intro rfl rfl) (trivial)))) rfl ?_
  refine WO_step 1 [0, 1] [2] True ⟨[(2, S s11)], [.cells [.sl 1 0 k2, cI i10], .row .u8 x1 false]⟩ (by kernel_rfl) trivial ?_
  refine WO_nil rfl ?_
  refine thenS_n ?_
  refine W_ret ?_
  cases h
  exact ⟨[0, 1], True, by kernel_rfl, trivial⟩

/- spec.inRange -/
def spec_inRange (i1 : Int) (i2 : Int) (i3 : Int) : Bool :=
((decide (i2 ≤ i1)) && (decide (i1 ≤ i3)))

theorem spec_inRange_ok (i1 : Int) (i2 : Int) (i3 : Int) : FOk EE 62 [I i1, I i2, I i3] [] (B (spec_inRange i1 i2 i3)) [] := by
  refine FOk_of_W 15 0 Try.func62 rfl rfl (Nat.le_of_ble_eq_true rfl) rfl (fun w X θ => ?_)
  refine W_seq ?_
  refine W_region ?_
  refine WO_step 1 [] [0, 1, 2] True ⟨[(0, I i1), (1, I i2), (2, I i3)], []⟩ (by kernel_rfl) trivial ?_
  refine WO_nil rfl ?_
  refine thenS_n ?_
  refine W_seq ?_
  refine W_region ?_
  refine WO_step 4 [] [0, 2, 10] (True ∧ True) ⟨[(0, I i1), (2, I i3), (10, B (decide (i2 ≤ i1)))], []⟩ (by kernel_rfl) ⟨trivial, trivial⟩ ?_
  refine WO_thru ⟨[(6, B ((decide (i2 ≤ i1)) && (decide (i1 ≤ i3))))], []⟩ ?_ ?_
  · refine WO_if 10 rfl (fun hb10 => ?_) (fun hb10 => ?_)
    · refine WO_step 5 [] [6] (True ∧ True) ⟨[(6, B (decide (i1 ≤ i3)))], []⟩ (by kernel_rfl) ⟨trivial, trivial⟩ ?_
      exact WO_nil rfl ⟨rfl, by first | rfl | (rw [hb10]; first | done | rfl)⟩
    · refine WO_step 5 [] [6] True ⟨[(6, B false)], []⟩ (by kernel_rfl) trivial ?_
      exact WO_nil rfl ⟨rfl, by first | rfl | (rw [hb10]; first | done | rfl)⟩
  · refine thenS_n ?_
    refine W_ret ?_
    exact ⟨[], True, by kernel_rfl, trivial⟩

/- spec.validName -/
def spec_validName_L1 (s1 : Str) : Nat → Int → Option ((Unit) ⊕ (Unit))
| 0, _ => none
| n + 1, i44 =>
 iteO (decide (i44 < ((s1.length : Nat) : Int)))
 (guardO (0 ≤ i44 ∧ i44 < ((s1.length : Nat) : Int)) <|
 iteO (!(spec_inRange (w64 ((s1.getD i44.toNat 0).toNat : Int)) 97 122))
 (some (.inl ()))
 (spec_validName_L1 s1 n (w64 (i44 + 1))))
 (some (.inr ()))

theorem spec_validName_L1_ok (w : World) (X : Nat → Prop) (θ : List Loc) (s1 : Str) (v : (Unit) ⊕ (Unit)) : ∀ (n : Nat) (i44 : Int), spec_validName_L1 s1 n i44 = some v → WL EE ⟨w, X, θ, 19, 0⟩ (subC [1, 0, 1, 4, 4] (bodyC Try.f70)) (fun (e : Exit) (s : St) => (match v with | (.inl _) => e = .ret ∧ s = ⟨[(2, B false)], []⟩ | (.inr _) => e = .exit 0 ∧ s = ⟨[(0, S s1)], []⟩ : Prop)) ⟨[(0, S s1), (3, I i44)], []⟩ := by
  intro n
  induction n with
  | zero => intro _ h; exact none_e h
  | succ n ih =>
    intro i44 h
    rw [spec_validName_L1] at h
    refine WL_round ?_
    refine W_seq ?_
    refine W_seq ?_
    refine W_region ?_
    refine WO_step 4 [] [0, 3, 7] (True ∧ (True ∧ True)) ⟨[(0, S s1), (3, I i44), (7, B (decide (i44 < ((s1.length : Nat) : Int))))], []⟩ (by kernel_rfl) ⟨trivial, trivial, trivial⟩ ?_
    refine WO_nil rfl ?_
    refine thenS_n ?_
    refine iteO_e h (fun hb56 h => W_true rfl hb56 ?_) (fun hb56 h => W_false rfl hb56 ?_)
    · refine W_sub [] [0, 3] (st' := ⟨[(0, S s1), (3, I i44)], []⟩) (by kernel_rfl) ?_
      refine W_skip ?_
      refine thenS_n ?_
      refine W_seq ?_
      refine W_block ?_
      refine W_seq ?_
      refine W_region ?_
      refine guardO_e h (fun hg60 h => ?_)
      refine WO_step 4 [] [0, 3, 13] ((0 ≤ i44 ∧ i44 < ((s1.length : Nat) : Int)) ∧ (True ∧ True)) ⟨[(0, S s1), (3, I i44), (13, I (w64 ((s1.getD i44.toNat 0).toNat : Int)))], []⟩ (by kernel_rfl) ⟨hg60, trivial, trivial⟩ ?_
      refine WO_call [] Try.f62 rfl rfl rfl (by kernel_rfl) rfl rfl (by kernel_rfl) (spec_inRange_ok (w64 ((s1.getD i44.toNat 0).toNat : Int)) 97 122) (trivial) rfl ?_
      refine WO_step 1 [] [0, 3, 15] True ⟨[(0, S s1), (3, I i44), (15, B (!(spec_inRange (w64 ((s1.getD i44.toNat 0).toNat : Int)) 97 122)))], []⟩ (by kernel_rfl) trivial ?_
      refine WO_nil rfl ?_
      refine thenS_n ?_
      refine iteO_e h (fun hb62 h => W_true rfl hb62 ?_) (fun hb62 h => W_false rfl hb62 ?_)
      · refine W_seq ?_
        refine W_region ?_
        refine WO_step 1 [] [2] True ⟨[(2, B false)], []⟩ (by kernel_rfl) trivial ?_
        refine WO_nil rfl ?_
        refine thenS_n ?_
        refine W_ret ?_
        refine blockS_r ?_
        refine thenS_r ?_
        refine thenS_r ?_
        cases h
        exact And.intro rfl rfl
      · refine W_sub [] [0, 3] (st' := ⟨[(0, S s1), (3, I i44)], []⟩) (by kernel_rfl) ?_
        refine W_skip ?_
        refine blockS_n ?_
        refine thenS_n ?_
        refine W_region ?_
        refine WO_step 3 [] [0, 3] (True ∧ True) ⟨[(0, S s1), (3, I (w64 (i44 + 1)))], []⟩ (by kernel_rfl) ⟨trivial, trivial⟩ ?_
        refine WO_nil rfl ?_
        refine thenS_n ?_
        exact ih _ h
    · refine W_sub [] [0] (st' := ⟨[(0, S s1)], []⟩) (by kernel_rfl) ?_
      refine W_exit ?_
      refine thenS_e ?_
      refine thenS_e ?_
      cases h
      exact And.intro rfl rfl

def spec_validName (n : Nat) (s1 : Str) : Option (Bool) :=
 bindO (spec_validName_L1 s1 n 0) fun v63 =>
 match v63 with
 | (.inl _) => (some false)
 | (.inr _) => (some (spec_inRange ((s1.length : Nat) : Int) 1 4))


theorem spec_validName_ok (n : Nat) (s1 : Str) (b32 : Bool) (h : spec_validName n s1 = some b32) : FOk EE 70 [S s1] [] (B b32) [] := by
  unfold spec_validName at h
  refine FOk_of_W 19 0 Try.func70 rfl rfl (Nat.le_of_ble_eq_true rfl) rfl (fun w X θ => ?_)
  refine W_seq ?_
  refine W_region ?_
  refine WO_step 1 [] [0] True ⟨[(0, S s1)], []⟩ (by kernel_rfl) trivial ?_
  refine WO_nil rfl ?_
  refine thenS_n ?_
  refine W_seq ?_
  refine W_seq ?_
  refine W_region ?_
  refine WO_step 1 [] [0, 3] True ⟨[(0, S s1), (3, I 0)], []⟩ (by kernel_rfl) trivial ?_
  refine WO_nil rfl ?_
  refine thenS_n ?_
  refine W_block ?_
  refine W_loop ?_
  refine bindO_e h (fun v63 hv63 h => ?_)
  refine WL_cut (spec_validName_L1_ok w X θ s1 v63 n 0 hv63) ?_
  rcases v63 with _ | _
  · rintro _ _ ⟨rfl, rfl⟩
    refine blockS_r ?_
    refine thenS_r ?_
    cases h
    exact ⟨[], True, by kernel_rfl, trivial⟩
  · rintro _ _ ⟨rfl, rfl⟩
    refine blockS_y ?_
    refine thenS_n ?_
    refine W_seq ?_
    refine W_region ?_
    refine WO_step 2 [] [17] (True ∧ True) ⟨[(17, I ((s1.length : Nat) : Int))], []⟩ (by kernel_rfl) ⟨trivial, trivial⟩ ?_
    refine WO_call [] Try.f62 rfl rfl rfl (by kernel_rfl) rfl rfl (by kernel_rfl) (spec_inRange_ok ((s1.length : Nat) : Int) 1 4) (trivial) rfl ?_
    refine WO_step 1 [] [2] True ⟨[(2, B (spec_inRange ((s1.length : Nat) : Int) 1 4))], []⟩ (by kernel_rfl) trivial ?_
    refine WO_nil rfl ?_
    refine thenS_n ?_
    refine W_ret ?_
    cases h
    exact ⟨[], True, by kernel_rfl, trivial⟩

/- spec.kid -/
def spec_kid_L1 (x1 : List Nod) (i2 : Int) (s3 : Str) : Nat → Int → Option ((Int) ⊕ (Unit))
| 0, _ => none
| n + 1, i97 =>
 iteO (decide (i97 < ((x1.length : Nat) : Int)))
 (guardO (0 ≤ i97 ∧ i97 < ((x1.length : Nat) : Int)) <|
 bindO (iteO (decide (((x1.getD i97.toNat dnod).parent) = i2))
 (guardO (0 ≤ i97 ∧ i97 < ((x1.length : Nat) : Int)) <|
 some (decide (((x1.getD i97.toNat dnod).name) = s3)))
 (some false)) fun b135 =>
 iteO b135
 (some (.inl i97))
 (spec_kid_L1 x1 i2 s3 n (w64 (i97 + 1))))
 (some (.inr ()))

theorem spec_kid_L1_ok (w : World) (X : Nat → Prop) (θ : List Loc) (x1 : List Nod) (i2 : Int) (s3 : Str) (v : (Int) ⊕ (Unit)) : ∀ (n : Nat) (i97 : Int), spec_kid_L1 x1 i2 s3 n i97 = some v → WL EE ⟨w, X, θ, 31, 1⟩ (subC [1, 0, 1, 4, 4] (bodyC Try.f71)) (fun (e : Exit) (s : St) => (match v with | (.inl i119) => e = .ret ∧ s = ⟨[(6, I i119)], [.row .nod x1 false]⟩ | (.inr _) => e = .exit 0 ∧ s = ⟨[], [.row .nod x1 false]⟩ : Prop)) ⟨[(0, .one (.e (.sl 0 0 x1.length))), (1, I i2), (2, S s3), (7, I i97)], [.row .nod x1 false]⟩ := by
  intro n
  induction n with
  | zero => intro _ h; exact none_e h
  | succ n ih =>
    intro i97 h
    rw [spec_kid_L1] at h
    refine WL_round ?_
    refine W_seq ?_
    refine W_seq ?_
    refine W_region ?_
    refine WO_step 4 [0] [0, 1, 2, 7, 11] (True ∧ (True ∧ True)) ⟨[(0, .one (.e (.sl 0 0 x1.length))), (1, I i2), (2, S s3), (7, I i97), (11, B (decide (i97 < ((x1.length : Nat) : Int))))], [.row .nod x1 false]⟩ (by kernel_rfl) ⟨trivial, trivial, trivial⟩ ?_
    refine WO_nil rfl ?_
    refine thenS_n ?_
    refine iteO_e h (fun hb122 h => W_true rfl hb122 ?_) (fun hb122 h => W_false rfl hb122 ?_)
    · refine W_sub [0] [0, 1, 2, 7] (st' := ⟨[(0, .one (.e (.sl 0 0 x1.length))), (1, I i2), (2, S s3), (7, I i97)], [.row .nod x1 false]⟩) (by kernel_rfl) ?_
      refine W_skip ?_
      refine thenS_n ?_
      refine W_seq ?_
      refine W_block ?_
      refine W_seq ?_
      refine W_region ?_
      refine guardO_e h (fun hg132 h => ?_)
      refine WO_step 8 [0] [0, 1, 2, 7, 21] ((0 ≤ i97 ∧ i97 < ((x1.length : Nat) : Int)) ∧ (True ∧ (True ∧ True))) ⟨[(0, .one (.e (.sl 0 0 x1.length))), (1, I i2), (2, S s3), (7, I i97), (21, B (decide (((x1.getD i97.toNat dnod).parent) = i2)))], [.row .nod x1 false]⟩ (by kernel_rfl) ⟨hg132, trivial, trivial, trivial⟩ ?_
      refine bindO_e h (fun b135 hv136 h => ?_)
      refine WO_thru ⟨[(0, .one (.e (.sl 0 0 x1.length))), (1, I i2), (2, S s3), (7, I i97), (29, B b135)], [.row .nod x1 false]⟩ ?_ ?_
      · refine iteO_e hv136 (fun hb137 hv136 => WO_known 21 true rfl hb137 ?_) (fun hb137 hv136 => WO_known 21 false rfl hb137 ?_)
        · refine guardO_e hv136 (fun hg138 hv136 => ?_)
          refine WO_step 8 [0] [0, 1, 2, 7, 29] ((0 ≤ i97 ∧ i97 < ((x1.length : Nat) : Int)) ∧ (True ∧ (True ∧ True))) ⟨[(0, .one (.e (.sl 0 0 x1.length))), (1, I i2), (2, S s3), (7, I i97), (29, B (decide (((x1.getD i97.toNat dnod).name) = s3)))], [.row .nod x1 false]⟩ (by kernel_rfl) ⟨hg138, trivial, trivial, trivial⟩ ?_
          cases hv136
          exact WO_nil rfl ⟨rfl, rfl⟩
        · refine WO_step 8 [0] [0, 1, 2, 7, 29] True ⟨[(0, .one (.e (.sl 0 0 x1.length))), (1, I i2), (2, S s3), (7, I i97), (29, B false)], [.row .nod x1 false]⟩ (by kernel_rfl) trivial ?_
          cases hv136
          exact WO_nil rfl ⟨rfl, rfl⟩
      · refine thenS_n ?_
        refine iteO_e h (fun hb140 h => W_true rfl hb140 ?_) (fun hb140 h => W_false rfl hb140 ?_)
        · refine W_seq ?_
          refine W_region ?_
          refine WO_step 2 [0] [6] True ⟨[(6, I i97)], [.row .nod x1 false]⟩ (by kernel_rfl) trivial ?_
          refine WO_nil rfl ?_
          refine thenS_n ?_
          refine W_ret ?_
          refine blockS_r ?_
          refine thenS_r ?_
          refine thenS_r ?_
          cases h
          exact And.intro rfl rfl
        · refine W_sub [0] [0, 1, 2, 7] (st' := ⟨[(0, .one (.e (.sl 0 0 x1.length))), (1, I i2), (2, S s3), (7, I i97)], [.row .nod x1 false]⟩) (by kernel_rfl) ?_
          refine W_skip ?_
          refine blockS_n ?_
          refine thenS_n ?_
          refine W_region ?_
          refine WO_step 3 [0] [0, 1, 2, 7] (True ∧ True) ⟨[(0, .one (.e (.sl 0 0 x1.length))), (1, I i2), (2, S s3), (7, I (w64 (i97 + 1)))], [.row .nod x1 false]⟩ (by kernel_rfl) ⟨trivial, trivial⟩ ?_
          refine WO_nil rfl ?_
          refine thenS_n ?_
          exact ih _ h
    · refine W_sub [0] [] (st' := ⟨[], [.row .nod x1 false]⟩) (by kernel_rfl) ?_
      refine W_exit ?_
      refine thenS_e ?_
      refine thenS_e ?_
      cases h
      exact And.intro rfl rfl

def spec_kid (n : Nat) (x1 : List Nod) (i2 : Int) (s3 : Str) : Option (Int) :=
 bindO (spec_kid_L1 x1 i2 s3 n 1) fun v141 =>
 match v141 with
 | (.inl i119) => (some i119)
 | (.inr _) => (some (-1))


theorem spec_kid_ok (n : Nat) (x1 : List Nod) (i2 : Int) (s3 : Str) (i72 : Int) (h : spec_kid n x1 i2 s3 = some i72) : FOk EE 71 [.one (.e (.sl 0 0 x1.length)), I i2, S s3] [.row .nod x1 false] (I i72) [.row .nod x1 false] := by
  unfold spec_kid at h
  refine FOk_of_W 31 1 Try.func71 rfl rfl (Nat.le_of_ble_eq_true rfl) rfl (fun w X θ => ?_)
  refine W_seq ?_
  refine W_region ?_
  refine WO_step 1 [0] [0, 1, 2] True ⟨[(0, .one (.e (.sl 0 0 x1.length))), (1, I i2), (2, S s3)], [.row .nod x1 false]⟩ (by kernel_rfl) trivial ?_
  refine WO_nil rfl ?_
  refine thenS_n ?_
  refine W_seq ?_
  refine W_seq ?_
  refine W_region ?_
  refine WO_step 1 [0] [0, 1, 2, 7] True ⟨[(0, .one (.e (.sl 0 0 x1.length))), (1, I i2), (2, S s3), (7, I 1)], [.row .nod x1 false]⟩ (by kernel_rfl) trivial ?_
  refine WO_nil rfl ?_
  refine thenS_n ?_
  refine W_block ?_
  refine W_loop ?_
  refine bindO_e h (fun v141 hv141 h => ?_)
  refine WL_cut (spec_kid_L1_ok w X θ x1 i2 s3 v141 n 1 hv141) ?_
  rcases v141 with i119 | _
  · rintro _ _ ⟨rfl, rfl⟩
    refine blockS_r ?_
    refine thenS_r ?_
    cases h
    exact ⟨[0], True, by kernel_rfl, trivial⟩
  · rintro _ _ ⟨rfl, rfl⟩
    refine blockS_y ?_
    refine thenS_n ?_
    refine W_seq ?_
    refine W_region ?_
    refine WO_step 1 [0] [6] True ⟨[(6, I (-1))], [.row .nod x1 false]⟩ (by kernel_rfl) trivial ?_
    refine WO_nil rfl ?_
    refine thenS_n ?_
    refine W_ret ?_
    cases h
    exact ⟨[0], True, by kernel_rfl, trivial⟩

/- spec.depth -/
def spec_depth_L1 (x1 : List Nod) : Nat → Int → Int → Option (Int)
| 0, _, _ => none
| n + 1, i42, i43 =>
 guardO (0 ≤ i42 ∧ i42 < ((x1.length : Nat) : Int)) <|
 iteO (decide (0 ≤ ((x1.getD i42.toNat dnod).parent)))
 (guardO (0 ≤ i42 ∧ i42 < ((x1.length : Nat) : Int)) <|
 spec_depth_L1 x1 n ((x1.getD i42.toNat dnod).parent) (w64 (i43 + 1)))
 (some i43)

theorem spec_depth_L1_ok (w : World) (X : Nat → Prop) (θ : List Loc) (x1 : List Nod) (i51 : Int) : ∀ (n : Nat) (i42 : Int) (i43 : Int), spec_depth_L1 x1 n i42 i43 = some i51 → WL EE ⟨w, X, θ, 20, 1⟩ (subC [1, 1, 0, 4, 4] (bodyC Try.f72)) (fun (e : Exit) (s : St) => e = .exit 0 ∧ s = ⟨[(5, I i51)], [.row .nod x1 false]⟩) ⟨[(0, .one (.e (.sl 0 0 x1.length))), (1, I i42), (5, I i43)], [.row .nod x1 false]⟩ := by
  intro n
  induction n with
  | zero => intro _ _ h; exact none_e h
  | succ n ih =>
    intro i42 i43 h
    rw [spec_depth_L1] at h
    refine WL_round ?_
    refine W_seq ?_
    refine W_seq ?_
    refine W_region ?_
    refine guardO_e h (fun hg53 h => ?_)
    refine WO_step 6 [0] [0, 1, 5, 11] ((0 ≤ i42 ∧ i42 < ((x1.length : Nat) : Int)) ∧ (True ∧ (True ∧ True))) ⟨[(0, .one (.e (.sl 0 0 x1.length))), (1, I i42), (5, I i43), (11, B (decide (0 ≤ ((x1.getD i42.toNat dnod).parent))))], [.row .nod x1 false]⟩ (by kernel_rfl) ⟨hg53, trivial, trivial, trivial⟩ ?_
    refine WO_nil rfl ?_
    refine thenS_n ?_
    refine iteO_e h (fun hb55 h => W_true rfl hb55 ?_) (fun hb55 h => W_false rfl hb55 ?_)
    · refine W_sub [0] [0, 1, 5] (st' := ⟨[(0, .one (.e (.sl 0 0 x1.length))), (1, I i42), (5, I i43)], [.row .nod x1 false]⟩) (by kernel_rfl) ?_
      refine W_skip ?_
      refine thenS_n ?_
      refine W_block ?_
      refine W_seq ?_
      refine W_region ?_
      refine guardO_e h (fun hg57 h => ?_)
      refine WO_step 6 [0] [0, 1, 5] ((0 ≤ i42 ∧ i42 < ((x1.length : Nat) : Int)) ∧ (True ∧ True)) ⟨[(0, .one (.e (.sl 0 0 x1.length))), (1, I ((x1.getD i42.toNat dnod).parent)), (5, I i43)], [.row .nod x1 false]⟩ (by kernel_rfl) ⟨hg57, trivial, trivial⟩ ?_
      refine WO_nil rfl ?_
      refine thenS_n ?_
      refine W_region ?_
      refine WO_step 3 [0] [0, 1, 5] (True ∧ True) ⟨[(0, .one (.e (.sl 0 0 x1.length))), (1, I ((x1.getD i42.toNat dnod).parent)), (5, I (w64 (i43 + 1)))], [.row .nod x1 false]⟩ (by kernel_rfl) ⟨trivial, trivial⟩ ?_
      refine WO_nil rfl ?_
      refine blockS_n ?_
      refine thenS_n ?_
      exact ih _ _ h
    · refine W_sub [0] [5] (st' := ⟨[(5, I i43)], [.row .nod x1 false]⟩) (by kernel_rfl) ?_
      refine W_exit ?_
      refine thenS_e ?_
      refine thenS_e ?_
      cases h
      exact And.intro rfl rfl

def spec_depth (n : Nat) (x1 : List Nod) (i2 : Int) : Option (Int) :=
 bindO (spec_depth_L1 x1 n i2 0) fun i51 =>
 some i51

theorem spec_depth_ok (n : Nat) (x1 : List Nod) (i2 : Int) (i30 : Int) (h : spec_depth n x1 i2 = some i30) : FOk EE 72 [.one (.e (.sl 0 0 x1.length)), I i2] [.row .nod x1 false] (I i30) [.row .nod x1 false] := by
  unfold spec_depth at h
  refine FOk_of_W 20 1 Try.func72 rfl rfl (Nat.le_of_ble_eq_true rfl) rfl (fun w X θ => ?_)
  refine W_seq ?_
  refine W_region ?_
  refine WO_step 1 [0] [0, 1] True ⟨[(0, .one (.e (.sl 0 0 x1.length))), (1, I i2)], [.row .nod x1 false]⟩ (by kernel_rfl) trivial ?_
  refine WO_nil rfl ?_
  refine thenS_n ?_
  refine W_seq ?_
  refine W_region ?_
  refine WO_step 1 [0] [0, 1, 5] True ⟨[(0, .one (.e (.sl 0 0 x1.length))), (1, I i2), (5, I 0)], [.row .nod x1 false]⟩ (by kernel_rfl) trivial ?_
  refine WO_nil rfl ?_
  refine thenS_n ?_
  refine W_seq ?_
  refine W_block ?_
  refine W_loop ?_
  refine bindO_e h (fun i51 hi51 h => ?_)
  refine WL_cut (spec_depth_L1_ok w X θ x1 i51 n i2 0 hi51) ?_
  rintro _ _ ⟨rfl, rfl⟩
  refine blockS_y ?_
  refine thenS_n ?_
  refine W_seq ?_
  refine W_region ?_
  refine WO_step 2 [0] [4] True ⟨[(4, I i51)], [.row .nod x1 false]⟩ (by kernel_rfl) trivial ?_
  refine WO_nil rfl ?_
  refine thenS_n ?_
  refine W_ret ?_
  cases h
  exact ⟨[0], True, by kernel_rfl, trivial⟩

/- spec.validNode -/
def spec_validNode (n : Nat) (x1 : List Nod) (i2 : Int) : Option (Bool) :=
 guardO (0 ≤ i2 ∧ i2 < ((x1.length : Nat) : Int)) <|
 iteO (!(spec_inRange ((x1.getD i2.toNat dnod).value) (-1000) 1000))
 (some false)
 (iteO (decide (i2 = 0))
 (guardO (0 ≤ i2 ∧ i2 < ((x1.length : Nat) : Int)) <|
 bindO (iteO (decide (((x1.getD i2.toNat dnod).parent) = (-1)))
 (guardO (0 ≤ i2 ∧ i2 < ((x1.length : Nat) : Int)) <|
 some (decide (((x1.getD i2.toNat dnod).name) = [])))
 (some false)) fun b54 =>
 some b54)
 (guardO (0 ≤ i2 ∧ i2 < ((x1.length : Nat) : Int)) <|
 bindO (iteO (spec_inRange ((x1.getD i2.toNat dnod).parent) 0 (w64 (i2 - 1)))
 (guardO (0 ≤ i2 ∧ i2 < ((x1.length : Nat) : Int)) <|
 bindO (spec_validName n ((x1.getD i2.toNat dnod).name)) fun b61 =>
 iteO b61
 (guardO (0 ≤ i2 ∧ i2 ≤ ((x1.length : Nat) : Int)) <|
 guardO (0 ≤ i2 ∧ i2 < ((x1.length : Nat) : Int)) <|
 guardO (0 ≤ i2 ∧ i2 < ((x1.length : Nat) : Int)) <|
 bindO (spec_kid n ((x1.drop 0).take i2.toNat) ((x1.getD i2.toNat dnod).parent) ((x1.getD i2.toNat dnod).name)) fun i67 =>
 iteO (decide (i67 < 0))
 (bindO (spec_depth n x1 i2) fun i70 =>
 some (decide (i70 ≤ 4)))
 (some false))
 (some false))
 (some false)) fun b72 =>
 some b72))

theorem spec_validNode_ok (n : Nat) (x1 : List Nod) (i2 : Int) (b38 : Bool) (h : spec_validNode n x1 i2 = some b38) : FOk EE 61 [.one (.e (.sl 0 0 x1.length)), I i2] [.row .nod x1 false] (B b38) [.row .nod x1 false] := by
  unfold spec_validNode at h
  refine FOk_of_W 67 1 Try.func61 rfl rfl (Nat.le_of_ble_eq_true rfl) rfl (fun w X θ => ?_)
  refine W_seq ?_
  refine W_region ?_
  refine WO_step 1 [0] [0, 1] True ⟨[(0, .one (.e (.sl 0 0 x1.length))), (1, I i2)], [.row .nod x1 false]⟩ (by kernel_rfl) trivial ?_
  refine WO_nil rfl ?_
  refine thenS_n ?_
  refine W_seq ?_
  refine W_seq ?_
  refine W_region ?_
  refine guardO_e h (fun hg39 h => ?_)
  refine WO_step 5 [0] [0, 1, 9] ((0 ≤ i2 ∧ i2 < ((x1.length : Nat) : Int)) ∧ (True ∧ True)) ⟨[(0, .one (.e (.sl 0 0 x1.length))), (1, I i2), (9, I ((x1.getD i2.toNat dnod).value))], [.row .nod x1 false]⟩ (by kernel_rfl) ⟨hg39, trivial, trivial⟩ ?_
  refine WO_call [] Try.f62 rfl rfl rfl (by kernel_rfl) rfl rfl (by kernel_rfl) (spec_inRange_ok ((x1.getD i2.toNat dnod).value) (-1000) 1000) (trivial) rfl ?_
  refine WO_step 1 [0] [0, 1, 11] True ⟨[(0, .one (.e (.sl 0 0 x1.length))), (1, I i2), (11, B (!(spec_inRange ((x1.getD i2.toNat dnod).value) (-1000) 1000)))], [.row .nod x1 false]⟩ (by kernel_rfl) trivial ?_
  refine WO_nil rfl ?_
  refine thenS_n ?_
  refine iteO_e h (fun hb41 h => W_true rfl hb41 ?_) (fun hb41 h => W_false rfl hb41 ?_)
  · refine W_seq ?_
    refine W_region ?_
    refine WO_step 1 [0] [4] True ⟨[(4, B false)], [.row .nod x1 false]⟩ (by kernel_rfl) trivial ?_
    refine WO_nil rfl ?_
    refine thenS_n ?_
    refine W_ret ?_
    refine thenS_r ?_
    cases h
    exact ⟨[0], True, by kernel_rfl, trivial⟩
  · refine W_sub [0] [0, 1] (st' := ⟨[(0, .one (.e (.sl 0 0 x1.length))), (1, I i2)], [.row .nod x1 false]⟩) (by kernel_rfl) ?_
    refine W_skip ?_
    refine thenS_n ?_
    refine W_seq ?_
    refine W_seq ?_
    refine W_region ?_
    refine WO_step 2 [0] [0, 1, 13] (True ∧ True) ⟨[(0, .one (.e (.sl 0 0 x1.length))), (1, I i2), (13, B (decide (i2 = 0)))], [.row .nod x1 false]⟩ (by kernel_rfl) ⟨trivial, trivial⟩ ?_
    refine WO_nil rfl ?_
    refine thenS_n ?_
    refine iteO_e h (fun hb50 h => W_true rfl hb50 ?_) (fun hb50 h => W_false rfl hb50 ?_)
    · refine W_seq ?_
      refine W_region ?_
      refine guardO_e h (fun hg51 h => ?_)
      refine WO_step 7 [0] [0, 1, 20] ((0 ≤ i2 ∧ i2 < ((x1.length : Nat) : Int)) ∧ (True ∧ (True ∧ True))) ⟨[(0, .one (.e (.sl 0 0 x1.length))), (1, I i2), (20, B (decide (((x1.getD i2.toNat dnod).parent) = (-1))))], [.row .nod x1 false]⟩ (by kernel_rfl) ⟨hg51, trivial, trivial, trivial⟩ ?_
      refine bindO_e h (fun b54 hv55 h => ?_)
      refine WO_thru ⟨[(4, B b54)], [.row .nod x1 false]⟩ ?_ ?_
      · refine iteO_e hv55 (fun hb56 hv55 => WO_known 20 true rfl hb56 ?_) (fun hb56 hv55 => WO_known 20 false rfl hb56 ?_)
        · refine guardO_e hv55 (fun hg57 hv55 => ?_)
          refine WO_step 8 [0] [4] ((0 ≤ i2 ∧ i2 < ((x1.length : Nat) : Int)) ∧ (True ∧ (True ∧ True))) ⟨[(4, B (decide (((x1.getD i2.toNat dnod).name) = [])))], [.row .nod x1 false]⟩ (by kernel_rfl) ⟨hg57, trivial, trivial, trivial⟩ ?_
          cases hv55
          exact WO_nil rfl ⟨rfl, rfl⟩
        · refine WO_step 8 [0] [4] True ⟨[(4, B false)], [.row .nod x1 false]⟩ (by kernel_rfl) trivial ?_
          cases hv55
          exact WO_nil rfl ⟨rfl, rfl⟩
      · refine thenS_n ?_
        refine W_ret ?_
        refine thenS_r ?_
        cases h
        exact ⟨[0], True, by kernel_rfl, trivial⟩
    · refine W_sub [0] [0, 1] (st' := ⟨[(0, .one (.e (.sl 0 0 x1.length))), (1, I i2)], [.row .nod x1 false]⟩) (by kernel_rfl) ?_
      refine W_skip ?_
      refine thenS_n ?_
      refine W_seq ?_
      refine guardO_e h (fun hg58 h => ?_)
      refine bindO_e h (fun b72 hv73 h => ?_)
      refine W_cut (Q' := fun (e : Exit) (s : St) => e = .normal ∧ s = ⟨[(4, B b72)], [.row .nod x1 false]⟩) ?_ ?_
      · refine iteO_e hv73 (fun hb59 hv73 => ?_) (fun hb59 hv73 => ?_)
        · refine guardO_e hv73 (fun hg60 hv73 => ?_)
          refine bindO_e hv73 (fun b61 hc62 hv73 => ?_)
          refine iteO_e hv73 (fun hb63 hv73 => ?_) (fun hb63 hv73 => ?_)
          · refine guardO_e hv73 (fun hg64 hv73 => ?_)
            refine guardO_e hv73 (fun hg65 hv73 => ?_)
            refine guardO_e hv73 (fun hg66 hv73 => ?_)
            refine bindO_e hv73 (fun i67 hc68 hv73 => ?_)
            refine iteO_e hv73 (fun hb69 hv73 => ?_) (fun hb69 hv73 => ?_)
            · refine bindO_e hv73 (fun i70 hc71 hv73 => ?_)
              refine W_draw [] false (by kernel_rfl) (by kernel_rfl) ?_
              refine WD_takeK [0, 1, 2, 3, 4, 5, 6] [0, 1, 32, 34] [0, 1, 32, 34] (φ := ((0 ≤ i2 ∧ i2 < ((x1.length : Nat) : Int)) ∧ (0 ≤ i2 ∧ i2 < ((x1.length : Nat) : Int)) ∧ (True ∧ True ∧ (True ∧ True ∧ True)))) (ls' := #[true, true, true, true, true, true, true, false, false, false, false, false, false, false, false, false, false, false, false, false, false, false, false, false, false, false, false, false, false, false, false, false, false, false, false, false, false, false, false, false]) (Ts' := [(0, .one (.e (.sl 0 0 x1.length))), (1, I i2), (32, I ((x1.getD i2.toNat dnod).parent)), (34, I (w64 (i2 - 1)))]) (st' := ⟨[(0, .one (.e (.sl 0 0 x1.length))), (1, I i2), (32, I ((x1.getD i2.toNat dnod).parent)), (34, I (w64 (i2 - 1)))], [.row .nod x1 false]⟩) (n2 := 33) (by kernel_rfl) ⟨hg58, hg58, trivial, trivial, trivial, trivial, trivial⟩ rfl ?_
              refine WD_all [7] (n := 32) (by kernel_rfl) rfl ?_
              refine WM_call [] Try.f62 rfl rfl (by kernel_rfl) rfl rfl (by kernel_rfl) (spec_inRange_ok ((x1.getD i2.toNat dnod).parent) 0 (w64 (i2 - 1))) (trivial) rfl (And.intro rfl (trivial)) ?_
              refine WD_takeK [8] [0, 1, 36] [0, 1, 36] (φ := True) (ls' := #[true, true, true, true, true, true, true, true, true, false, false, false, false, false, false, false, false, false, false, false, false, false, false, false, false, false, false, false, false, false, false, false, false, false, false, false, false, false, false, false]) (Ts' := [(0, .one (.e (.sl 0 0 x1.length))), (1, I i2), (36, B (spec_inRange ((x1.getD i2.toNat dnod).parent) 0 (w64 (i2 - 1))))]) (st' := ⟨[(0, .one (.e (.sl 0 0 x1.length))), (1, I i2), (36, B (spec_inRange ((x1.getD i2.toNat dnod).parent) 0 (w64 (i2 - 1))))], [.row .nod x1 false]⟩) (n2 := 31) (by kernel_rfl) trivial rfl ?_
              refine WD_known 36 true rfl rfl hb59 ?_
              refine WD_takeK [9, 10, 11, 12, 13] [0, 1, 36, 41] [0, 1, 36, 41] (φ := ((0 ≤ i2 ∧ i2 < ((x1.length : Nat) : Int)) ∧ (0 ≤ i2 ∧ i2 < ((x1.length : Nat) : Int)) ∧ (True ∧ True ∧ True))) (ls' := #[true, true, true, true, true, true, true, true, true, true, true, true, true, true, false, false, false, false, false, false, false, false, false, false, false, false, false, false, false, false, false, false, false, false, false, false, false, false, false, false]) (Ts' := [(0, .one (.e (.sl 0 0 x1.length))), (1, I i2), (36, B true), (41, S ((x1.getD i2.toNat dnod).name))]) (st' := ⟨[(0, .one (.e (.sl 0 0 x1.length))), (1, I i2), (36, B true), (41, S ((x1.getD i2.toNat dnod).name))], [.row .nod x1 false]⟩) (n2 := 26) (by kernel_rfl) ⟨hg60, hg60, trivial, trivial, trivial⟩ rfl ?_
              refine WD_all [14] (n := 25) (by kernel_rfl) rfl ?_
              refine WM_call [] Try.f70 rfl rfl (by kernel_rfl) rfl rfl (by kernel_rfl) (spec_validName_ok n ((x1.getD i2.toNat dnod).name) b61 hc62) (trivial) rfl (And.intro rfl (trivial)) ?_
              refine WD_takeK [15, 16] [0, 1, 44] [0, 1, 44] (φ := True) (ls' := #[true, true, true, true, true, true, true, true, true, true, true, true, true, true, true, true, true, false, false, false, false, false, false, false, false, false, false, false, false, false, false, false, false, false, false, false, false, false, false, false]) (Ts' := [(0, .one (.e (.sl 0 0 x1.length))), (1, I i2), (44, B b61)]) (st' := ⟨[(0, .one (.e (.sl 0 0 x1.length))), (1, I i2), (44, B b61)], [.row .nod x1 false]⟩) (n2 := 23) (by kernel_rfl) trivial rfl ?_
              refine WD_known 44 true rfl rfl hb63 ?_
              refine WD_takeK [17, 18, 20, 21, 22, 23, 24, 25, 26, 27, 28, 29] [0, 1, 44, 45, 46, 52, 57] [0, 1, 44, 45, 46, 52, 57] (φ := ((0 ≤ i2 ∧ i2 < ((x1.length : Nat) : Int)) ∧ (0 ≤ i2 ∧ i2 < ((x1.length : Nat) : Int)) ∧ (True ∧ True ∧ ((0 ≤ i2 ∧ i2 < ((x1.length : Nat) : Int)) ∧ (0 ≤ i2 ∧ i2 < ((x1.length : Nat) : Int)) ∧ (True ∧ True ∧ True))))) (ls' := #[true, true, true, true, true, true, true, true, true, true, true, true, true, true, true, true, true, true, true, false, true, true, true, true, true, true, true, true, true, true, false, false, false, false, false, false, false, false, false, false]) (Ts' := [(0, .one (.e (.sl 0 0 x1.length))), (1, I i2), (44, B true), (45, .one (.e (.sl 0 0 x1.length))), (46, I i2), (52, I ((x1.getD i2.toNat dnod).parent)), (57, S ((x1.getD i2.toNat dnod).name))]) (st' := ⟨[(0, .one (.e (.sl 0 0 x1.length))), (1, I i2), (44, B true), (45, .one (.e (.sl 0 0 x1.length))), (46, I i2), (52, I ((x1.getD i2.toNat dnod).parent)), (57, S ((x1.getD i2.toNat dnod).name))], [.row .nod x1 false]⟩) (n2 := 11) (by kernel_rfl) ⟨hg65, hg65, trivial, trivial, hg66, hg66, trivial, trivial, trivial⟩ rfl ?_
              refine WD_all [19] (n := 10) (by kernel_rfl) rfl ?_
              refine WM_op (φ := 0 ≤ i2 ∧ i2 ≤ ((x1.length : Nat) : Int)) (v := .one (.e (.sl 0 0 i2.toNat))) (H' := [.row .nod x1 false]) rfl rfl (by kernel_rfl) hg64 rfl (And.intro rfl (trivial)) ?_
              refine WD_all [30] (n := 9) (by kernel_rfl) rfl ?_
              refine WM_call [.view 0] Try.f71 rfl rfl (by kernel_rfl) rfl rfl (by kernel_rfl) (spec_kid_ok n ((x1.drop 0).take i2.toNat) ((x1.getD i2.toNat dnod).parent) ((x1.getD i2.toNat dnod).name) i67 hc68) (trivial) rfl (And.intro rfl (trivial)) ?_
              refine WD_takeK [31, 32, 33] [0, 1, 61] [0, 1, 61] (φ := (True ∧ True ∧ True)) (ls' := #[true, true, true, true, true, true, true, true, true, true, true, true, true, true, true, true, true, true, true, true, true, true, true, true, true, true, true, true, true, true, true, true, true, true, false, false, false, false, false, false]) (Ts' := [(0, .one (.e (.sl 0 0 x1.length))), (1, I i2), (61, B (decide (i67 < 0)))]) (st' := ⟨[(0, .one (.e (.sl 0 0 x1.length))), (1, I i2), (61, B (decide (i67 < 0)))], [.row .nod x1 false]⟩) (n2 := 6) (by kernel_rfl) ⟨trivial, trivial, trivial⟩ rfl ?_
              refine WD_known 61 true rfl rfl hb69 ?_
              refine WD_takeK [34, 35] [61, 62, 63] [61, 62, 63] (φ := True) (ls' := #[true, true, true, true, true, true, true, true, true, true, true, true, true, true, true, true, true, true, true, true, true, true, true, true, true, true, true, true, true, true, true, true, true, true, true, true, false, false, false, false]) (Ts' := [(61, B true), (62, .one (.e (.sl 0 0 x1.length))), (63, I i2)]) (st' := ⟨[(61, B true), (62, .one (.e (.sl 0 0 x1.length))), (63, I i2)], [.row .nod x1 false]⟩) (n2 := 4) (by kernel_rfl) trivial rfl ?_
              refine WD_all [36] (n := 3) (by kernel_rfl) rfl ?_
              refine WM_call [.ro 0] Try.f72 rfl rfl (by kernel_rfl) rfl rfl (by kernel_rfl) (spec_depth_ok n x1 i2 i70 hc71) (And.intro (And.intro rfl rfl) (trivial)) rfl (And.intro rfl (trivial)) ?_
              refine WD_takeK [37, 38, 39] [4] [4] (φ := (True ∧ True ∧ True)) (ls' := #[true, true, true, true, true, true, true, true, true, true, true, true, true, true, true, true, true, true, true, true, true, true, true, true, true, true, true, true, true, true, true, true, true, true, true, true, true, true, true, true]) (Ts' := [(4, B (decide (i70 ≤ 4)))]) (st' := ⟨[(4, B (decide (i70 ≤ 4)))], [.row .nod x1 false]⟩) (n2 := 0) (by kernel_rfl) ⟨trivial, trivial, trivial⟩ rfl ?_
              exact WD_done [0] [4] (st' := ⟨[(4, B (decide (i70 ≤ 4)))], [.row .nod x1 false]⟩) (by kernel_rfl) (by kernel_rfl) (And.intro rfl (by cases hv73; rfl))
            · refine W_draw [] false (by kernel_rfl) (by kernel_rfl) ?_
              refine WD_takeK [0, 1, 2, 3, 4, 5, 6] [0, 1, 32, 34] [0, 1, 32, 34] (φ := ((0 ≤ i2 ∧ i2 < ((x1.length : Nat) : Int)) ∧ (0 ≤ i2 ∧ i2 < ((x1.length : Nat) : Int)) ∧ (True ∧ True ∧ (True ∧ True ∧ True)))) (ls' := #[true, true, true, true, true, true, true, false, false, false, false, false, false, false, false, false, false, false, false, false, false, false, false, false, false, false, false, false, false, false, false, false, false, false, false, false, false, false, false, false]) (Ts' := [(0, .one (.e (.sl 0 0 x1.length))), (1, I i2), (32, I ((x1.getD i2.toNat dnod).parent)), (34, I (w64 (i2 - 1)))]) (st' := ⟨[(0, .one (.e (.sl 0 0 x1.length))), (1, I i2), (32, I ((x1.getD i2.toNat dnod).parent)), (34, I (w64 (i2 - 1)))], [.row .nod x1 false]⟩) (n2 := 33) (by kernel_rfl) ⟨hg58, hg58, trivial, trivial, trivial, trivial, trivial⟩ rfl ?_
              refine WD_all [7] (n := 32) (by kernel_rfl) rfl ?_
              refine WM_call [] Try.f62 rfl rfl (by kernel_rfl) rfl rfl (by kernel_rfl) (spec_inRange_ok ((x1.getD i2.toNat dnod).parent) 0 (w64 (i2 - 1))) (trivial) rfl (And.intro rfl (trivial)) ?_
              refine WD_takeK [8] [0, 1, 36] [0, 1, 36] (φ := True) (ls' := #[true, true, true, true, true, true, true, true, true, false, false, false, false, false, false, false, false, false, false, false, false, false, false, false, false, false, false, false, false, false, false, false, false, false, false, false, false, false, false, false]) (Ts' := [(0, .one (.e (.sl 0 0 x1.length))), (1, I i2), (36, B (spec_inRange ((x1.getD i2.toNat dnod).parent) 0 (w64 (i2 - 1))))]) (st' := ⟨[(0, .one (.e (.sl 0 0 x1.length))), (1, I i2), (36, B (spec_inRange ((x1.getD i2.toNat dnod).parent) 0 (w64 (i2 - 1))))], [.row .nod x1 false]⟩) (n2 := 31) (by kernel_rfl) trivial rfl ?_
              refine WD_known 36 true rfl rfl hb59 ?_
              refine WD_takeK [9, 10, 11, 12, 13] [0, 1, 36, 41] [0, 1, 36, 41] (φ := ((0 ≤ i2 ∧ i2 < ((x1.length : Nat) : Int)) ∧ (0 ≤ i2 ∧ i2 < ((x1.length : Nat) : Int)) ∧ (True ∧ True ∧ True))) (ls' := #[true, true, true, true, true, true, true, true, true, true, true, true, true, true, false, false, false, false, false, false, false, false, false, false, false, false, false, false, false, false, false, false, false, false, false, false, false, false, false, false]) (Ts' := [(0, .one (.e (.sl 0 0 x1.length))), (1, I i2), (36, B true), (41, S ((x1.getD i2.toNat dnod).name))]) (st' := ⟨[(0, .one (.e (.sl 0 0 x1.length))), (1, I i2), (36, B true), (41, S ((x1.getD i2.toNat dnod).name))], [.row .nod x1 false]⟩) (n2 := 26) (by kernel_rfl) ⟨hg60, hg60, trivial, trivial, trivial⟩ rfl ?_
              refine WD_all [14] (n := 25) (by kernel_rfl) rfl ?_
              refine WM_call [] Try.f70 rfl rfl (by kernel_rfl) rfl rfl (by kernel_rfl) (spec_validName_ok n ((x1.getD i2.toNat dnod).name) b61 hc62) (trivial) rfl (And.intro rfl (trivial)) ?_
              refine WD_takeK [15, 16] [0, 1, 44] [0, 1, 44] (φ := True) (ls' := #[true, true, true, true, true, true, true, true, true, true, true, true, true, true, true, true, true, false, false, false, false, false, false, false, false, false, false, false, false, false, false, false, false, false, false, false, false, false, false, false]) (Ts' := [(0, .one (.e (.sl 0 0 x1.length))), (1, I i2), (44, B b61)]) (st' := ⟨[(0, .one (.e (.sl 0 0 x1.length))), (1, I i2), (44, B b61)], [.row .nod x1 false]⟩) (n2 := 23) (by kernel_rfl) trivial rfl ?_
              refine WD_known 44 true rfl rfl hb63 ?_
              refine WD_takeK [17, 18, 20, 21, 22, 23, 24, 25, 26, 27, 28, 29] [0, 1, 44, 45, 46, 52, 57] [0, 1, 44, 45, 46, 52, 57] (φ := ((0 ≤ i2 ∧ i2 < ((x1.length : Nat) : Int)) ∧ (0 ≤ i2 ∧ i2 < ((x1.length : Nat) : Int)) ∧ (True ∧ True ∧ ((0 ≤ i2 ∧ i2 < ((x1.length : Nat) : Int)) ∧ (0 ≤ i2 ∧ i2 < ((x1.length : Nat) : Int)) ∧ (True ∧ True ∧ True))))) (ls' := #[true, true, true, true, true, true, true, true, true, true, true, true, true, true, true, true, true, true, true, false, true, true, true, true, true, true, true, true, true, true, false, false, false, false, false, false, false, false, false, false]) (Ts' := [(0, .one (.e (.sl 0 0 x1.length))), (1, I i2), (44, B true), (45, .one (.e (.sl 0 0 x1.length))), (46, I i2), (52, I ((x1.getD i2.toNat dnod).parent)), (57, S ((x1.getD i2.toNat dnod).name))]) (st' := ⟨[(0, .one (.e (.sl 0 0 x1.length))), (1, I i2), (44, B true), (45, .one (.e (.sl 0 0 x1.length))), (46, I i2), (52, I ((x1.getD i2.toNat dnod).parent)), (57, S ((x1.getD i2.toNat dnod).name))], [.row .nod x1 false]⟩) (n2 := 11) (by kernel_rfl) ⟨hg65, hg65, trivial, trivial, hg66, hg66, trivial, trivial, trivial⟩ rfl ?_
              refine WD_all [19] (n := 10) (by kernel_rfl) rfl ?_
              refine WM_op (φ := 0 ≤ i2 ∧ i2 ≤ ((x1.length : Nat) : Int)) (v := .one (.e (.sl 0 0 i2.toNat))) (H' := [.row .nod x1 false]) rfl rfl (by kernel_rfl) hg64 rfl (And.intro rfl (trivial)) ?_
              refine WD_all [30] (n := 9) (by kernel_rfl) rfl ?_
              refine WM_call [.view 0] Try.f71 rfl rfl (by kernel_rfl) rfl rfl (by kernel_rfl) (spec_kid_ok n ((x1.drop 0).take i2.toNat) ((x1.getD i2.toNat dnod).parent) ((x1.getD i2.toNat dnod).name) i67 hc68) (trivial) rfl (And.intro rfl (trivial)) ?_
              refine WD_takeK [31, 32, 33] [0, 1, 61] [0, 1, 61] (φ := (True ∧ True ∧ True)) (ls' := #[true, true, true, true, true, true, true, true, true, true, true, true, true, true, true, true, true, true, true, true, true, true, true, true, true, true, true, true, true, true, true, true, true, true, false, false, false, false, false, false]) (Ts' := [(0, .one (.e (.sl 0 0 x1.length))), (1, I i2), (61, B (decide (i67 < 0)))]) (st' := ⟨[(0, .one (.e (.sl 0 0 x1.length))), (1, I i2), (61, B (decide (i67 < 0)))], [.row .nod x1 false]⟩) (n2 := 6) (by kernel_rfl) ⟨trivial, trivial, trivial⟩ rfl ?_
              refine WD_known 61 false rfl rfl hb69 ?_
              refine WD_takeK [34, 35, 36, 37, 38, 39] [4] [4] (φ := True) (ls' := #[true, true, true, true, true, true, true, true, true, true, true, true, true, true, true, true, true, true, true, true, true, true, true, true, true, true, true, true, true, true, true, true, true, true, true, true, true, true, true, true]) (Ts' := [(4, B false)]) (st' := ⟨[(4, B false)], [.row .nod x1 false]⟩) (n2 := 0) (by kernel_rfl) trivial rfl ?_
              exact WD_done [0] [4] (st' := ⟨[(4, B false)], [.row .nod x1 false]⟩) (by kernel_rfl) (by kernel_rfl) (And.intro rfl (by cases hv73; rfl))
          · refine W_draw [] false (by kernel_rfl) (by kernel_rfl) ?_
            refine WD_takeK [0, 1, 2, 3, 4, 5, 6] [0, 1, 32, 34] [0, 1, 32, 34] (φ := ((0 ≤ i2 ∧ i2 < ((x1.length : Nat) : Int)) ∧ (0 ≤ i2 ∧ i2 < ((x1.length : Nat) : Int)) ∧ (True ∧ True ∧ (True ∧ True ∧ True)))) (ls' := #[true, true, true, true, true, true, true, false, false, false, false, false, false, false, false, false, false, false, false, false, false, false, false, false, false, false, false, false, false, false, false, false, false, false, false, false, false, false, false, false]) (Ts' := [(0, .one (.e (.sl 0 0 x1.length))), (1, I i2), (32, I ((x1.getD i2.toNat dnod).parent)), (34, I (w64 (i2 - 1)))]) (st' := ⟨[(0, .one (.e (.sl 0 0 x1.length))), (1, I i2), (32, I ((x1.getD i2.toNat dnod).parent)), (34, I (w64 (i2 - 1)))], [.row .nod x1 false]⟩) (n2 := 33) (by kernel_rfl) ⟨hg58, hg58, trivial, trivial, trivial, trivial, trivial⟩ rfl ?_
            refine WD_all [7] (n := 32) (by kernel_rfl) rfl ?_
            refine WM_call [] Try.f62 rfl rfl (by kernel_rfl) rfl rfl (by kernel_rfl) (spec_inRange_ok ((x1.getD i2.toNat dnod).parent) 0 (w64 (i2 - 1))) (trivial) rfl (And.intro rfl (trivial)) ?_
            refine WD_takeK [8] [0, 1, 36] [0, 1, 36] (φ := True) (ls' := #[true, true, true, true, true, true, true, true, true, false, false, false, false, false, false, false, false, false, false, false, false, false, false, false, false, false, false, false, false, false, false, false, false, false, false, false, false, false, false, false]) (Ts' := [(0, .one (.e (.sl 0 0 x1.length))), (1, I i2), (36, B (spec_inRange ((x1.getD i2.toNat dnod).parent) 0 (w64 (i2 - 1))))]) (st' := ⟨[(0, .one (.e (.sl 0 0 x1.length))), (1, I i2), (36, B (spec_inRange ((x1.getD i2.toNat dnod).parent) 0 (w64 (i2 - 1))))], [.row .nod x1 false]⟩) (n2 := 31) (by kernel_rfl) trivial rfl ?_
            refine WD_known 36 true rfl rfl hb59 ?_
            refine WD_takeK [9, 10, 11, 12, 13] [0, 1, 36, 41] [0, 1, 36, 41] (φ := ((0 ≤ i2 ∧ i2 < ((x1.length : Nat) : Int)) ∧ (0 ≤ i2 ∧ i2 < ((x1.length : Nat) : Int)) ∧ (True ∧ True ∧ True))) (ls' := #[true, true, true, true, true, true, true, true, true, true, true, true, true, true, false, false, false, false, false, false, false, false, false, false, false, false, false, false, false, false, false, false, false, false, false, false, false, false, false, false]) (Ts' := [(0, .one (.e (.sl 0 0 x1.length))), (1, I i2), (36, B true), (41, S ((x1.getD i2.toNat dnod).name))]) (st' := ⟨[(0, .one (.e (.sl 0 0 x1.length))), (1, I i2), (36, B true), (41, S ((x1.getD i2.toNat dnod).name))], [.row .nod x1 false]⟩) (n2 := 26) (by kernel_rfl) ⟨hg60, hg60, trivial, trivial, trivial⟩ rfl ?_
            refine WD_all [14] (n := 25) (by kernel_rfl) rfl ?_
            refine WM_call [] Try.f70 rfl rfl (by kernel_rfl) rfl rfl (by kernel_rfl) (spec_validName_ok n ((x1.getD i2.toNat dnod).name) b61 hc62) (trivial) rfl (And.intro rfl (trivial)) ?_
            refine WD_takeK [15, 16] [0, 1, 44] [0, 1, 44] (φ := True) (ls' := #[true, true, true, true, true, true, true, true, true, true, true, true, true, true, true, true, true, false, false, false, false, false, false, false, false, false, false, false, false, false, false, false, false, false, false, false, false, false, false, false]) (Ts' := [(0, .one (.e (.sl 0 0 x1.length))), (1, I i2), (44, B b61)]) (st' := ⟨[(0, .one (.e (.sl 0 0 x1.length))), (1, I i2), (44, B b61)], [.row .nod x1 false]⟩) (n2 := 23) (by kernel_rfl) trivial rfl ?_
            refine WD_known 44 false rfl rfl hb63 ?_
            refine WD_takeK [17, 18, 19, 20, 21, 22, 23, 24, 25, 26, 27, 28, 29, 30, 31, 32, 33, 34, 35, 36, 37, 38, 39] [4] [4] (φ := True) (ls' := #[true, true, true, true, true, true, true, true, true, true, true, true, true, true, true, true, true, true, true, true, true, true, true, true, true, true, true, true, true, true, true, true, true, true, true, true, true, true, true, true]) (Ts' := [(4, B false)]) (st' := ⟨[(4, B false)], [.row .nod x1 false]⟩) (n2 := 0) (by kernel_rfl) trivial rfl ?_
            exact WD_done [0] [4] (st' := ⟨[(4, B false)], [.row .nod x1 false]⟩) (by kernel_rfl) (by kernel_rfl) (And.intro rfl (by cases hv73; rfl))
        · refine W_draw [] false (by kernel_rfl) (by kernel_rfl) ?_
          refine WD_takeK [0, 1, 2, 3, 4, 5, 6] [0, 1, 32, 34] [0, 1, 32, 34] (φ := ((0 ≤ i2 ∧ i2 < ((x1.length : Nat) : Int)) ∧ (0 ≤ i2 ∧ i2 < ((x1.length : Nat) : Int)) ∧ (True ∧ True ∧ (True ∧ True ∧ True)))) (ls' := #[true, true, true, true, true, true, true, false, false, false, false, false, false, false, false, false, false, false, false, false, false, false, false, false, false, false, false, false, false, false, false, false, false, false, false, false, false, false, false, false]) (Ts' := [(0, .one (.e (.sl 0 0 x1.length))), (1, I i2), (32, I ((x1.getD i2.toNat dnod).parent)), (34, I (w64 (i2 - 1)))]) (st' := ⟨[(0, .one (.e (.sl 0 0 x1.length))), (1, I i2), (32, I ((x1.getD i2.toNat dnod).parent)), (34, I (w64 (i2 - 1)))], [.row .nod x1 false]⟩) (n2 := 33) (by kernel_rfl) ⟨hg58, hg58, trivial, trivial, trivial, trivial, trivial⟩ rfl ?_
          refine WD_all [7] (n := 32) (by kernel_rfl) rfl ?_
          refine WM_call [] Try.f62 rfl rfl (by kernel_rfl) rfl rfl (by kernel_rfl) (spec_inRange_ok ((x1.getD i2.toNat dnod).parent) 0 (w64 (i2 - 1))) (trivial) rfl (And.intro rfl (trivial)) ?_
          refine WD_takeK [8] [0, 1, 36] [0, 1, 36] (φ := True) (ls' := #[true, true, true, true, true, true, true, true, true, false, false, false, false, false, false, false, false, false, false, false, false, false, false, false, false, false, false, false, false, false, false, false, false, false, false, false, false, false, false, false]) (Ts' := [(0, .one (.e (.sl 0 0 x1.length))), (1, I i2), (36, B (spec_inRange ((x1.getD i2.toNat dnod).parent) 0 (w64 (i2 - 1))))]) (st' := ⟨[(0, .one (.e (.sl 0 0 x1.length))), (1, I i2), (36, B (spec_inRange ((x1.getD i2.toNat dnod).parent) 0 (w64 (i2 - 1))))], [.row .nod x1 false]⟩) (n2 := 31) (by kernel_rfl) trivial rfl ?_
          refine WD_known 36 false rfl rfl hb59 ?_
          refine WD_takeK [9, 10, 11, 12, 13, 14, 15, 16, 17, 18, 19, 20, 21, 22, 23, 24, 25, 26, 27, 28, 29, 30, 31, 32, 33, 34, 35, 36, 37, 38, 39] [4] [4] (φ := True) (ls' := #[true, true, true, true, true, true, true, true, true, true, true, true, true, true, true, true, true, true, true, true, true, true, true, true, true, true, true, true, true, true, true, true, true, true, true, true, true, true, true, true]) (Ts' := [(4, B false)]) (st' := ⟨[(4, B false)], [.row .nod x1 false]⟩) (n2 := 0) (by kernel_rfl) trivial rfl ?_
          exact WD_done [0] [4] (st' := ⟨[(4, B false)], [.row .nod x1 false]⟩) (by kernel_rfl) (by kernel_rfl) (And.intro rfl (by cases hv73; rfl))
      · rintro _ _ ⟨rfl, rfl⟩
        refine thenS_n ?_
        refine W_ret ?_
        cases h
        exact ⟨[0], True, by kernel_rfl, trivial⟩

/- spec.validTree -/
def spec_validTree_L1 (x1 : List Nod) : Nat → Int → Option ((Unit) ⊕ (Unit))
| 0, _ => none
| n + 1, i52 =>
 iteO (decide (i52 < ((x1.length : Nat) : Int)))
 (bindO (spec_validNode n x1 i52) fun b71 =>
 iteO (!b71)
 (some (.inl ()))
 (spec_validTree_L1 x1 n (w64 (i52 + 1))))
 (some (.inr ()))

theorem spec_validTree_L1_ok (w : World) (X : Nat → Prop) (θ : List Loc) (x1 : List Nod) (v : (Unit) ⊕ (Unit)) : ∀ (n : Nat) (i52 : Int), spec_validTree_L1 x1 n i52 = some v → WL EE ⟨w, X, θ, 17, 1⟩ (subC [1, 0, 1, 4, 4] (bodyC Try.f42)) (fun (e : Exit) (s : St) => (match v with | (.inl _) => e = .ret ∧ s = ⟨[(2, B false)], [.row .nod x1 false]⟩ | (.inr _) => e = .exit 0 ∧ s = ⟨[(0, .one (.e (.sl 0 0 x1.length)))], [.row .nod x1 false]⟩ : Prop)) ⟨[(0, .one (.e (.sl 0 0 x1.length))), (3, I i52)], [.row .nod x1 false]⟩ := by
  intro n
  induction n with
  | zero => intro _ h; exact none_e h
  | succ n ih =>
    intro i52 h
    rw [spec_validTree_L1] at h
    refine WL_round ?_
    refine W_seq ?_
    refine W_seq ?_
    refine W_region ?_
    refine WO_step 4 [0] [0, 3, 7] (True ∧ (True ∧ True)) ⟨[(0, .one (.e (.sl 0 0 x1.length))), (3, I i52), (7, B (decide (i52 < ((x1.length : Nat) : Int))))], [.row .nod x1 false]⟩ (by kernel_rfl) ⟨trivial, trivial, trivial⟩ ?_
    refine WO_nil rfl ?_
    refine thenS_n ?_
    refine iteO_e h (fun hb66 h => W_true rfl hb66 ?_) (fun hb66 h => W_false rfl hb66 ?_)
    · refine W_sub [0] [0, 3] (st' := ⟨[(0, .one (.e (.sl 0 0 x1.length))), (3, I i52)], [.row .nod x1 false]⟩) (by kernel_rfl) ?_
      refine W_skip ?_
      refine thenS_n ?_
      refine W_seq ?_
      refine W_block ?_
      refine W_seq ?_
      refine W_region ?_
      refine WO_step 2 [0] [0, 3, 10, 11] True ⟨[(0, .one (.e (.sl 0 0 x1.length))), (3, I i52), (10, .one (.e (.sl 0 0 x1.length))), (11, I i52)], [.row .nod x1 false]⟩ (by kernel_rfl) trivial ?_
      refine bindO_e h (fun b71 hc72 h => ?_)
      refine WO_call [.ro 0] Try.f61 rfl rfl rfl (by kernel_rfl) rfl rfl (by kernel_rfl) (spec_validNode_ok n x1 i52 b71 hc72) (And.intro (And.intro rfl rfl) (trivial)) rfl ?_
      refine WO_step 1 [0] [0, 3, 13] True ⟨[(0, .one (.e (.sl 0 0 x1.length))), (3, I i52), (13, B (!b71))], [.row .nod x1 false]⟩ (by kernel_rfl) trivial ?_
      refine WO_nil rfl ?_
      refine thenS_n ?_
      refine iteO_e h (fun hb74 h => W_true rfl hb74 ?_) (fun hb74 h => W_false rfl hb74 ?_)
      · refine W_seq ?_
        refine W_region ?_
        refine WO_step 1 [0] [2] True ⟨[(2, B false)], [.row .nod x1 false]⟩ (by kernel_rfl) trivial ?_
        refine WO_nil rfl ?_
        refine thenS_n ?_
        refine W_ret ?_
        refine blockS_r ?_
        refine thenS_r ?_
        refine thenS_r ?_
        cases h
        exact And.intro rfl rfl
      · refine W_sub [0] [0, 3] (st' := ⟨[(0, .one (.e (.sl 0 0 x1.length))), (3, I i52)], [.row .nod x1 false]⟩) (by kernel_rfl) ?_
        refine W_skip ?_
        refine blockS_n ?_
        refine thenS_n ?_
        refine W_region ?_
        refine WO_step 3 [0] [0, 3] (True ∧ True) ⟨[(0, .one (.e (.sl 0 0 x1.length))), (3, I (w64 (i52 + 1)))], [.row .nod x1 false]⟩ (by kernel_rfl) ⟨trivial, trivial⟩ ?_
        refine WO_nil rfl ?_
        refine thenS_n ?_
        exact ih _ h
    · refine W_sub [0] [0] (st' := ⟨[(0, .one (.e (.sl 0 0 x1.length)))], [.row .nod x1 false]⟩) (by kernel_rfl) ?_
      refine W_exit ?_
      refine thenS_e ?_
      refine thenS_e ?_
      cases h
      exact And.intro rfl rfl

def spec_validTree (n : Nat) (x1 : List Nod) : Option (Bool) :=
 bindO (spec_validTree_L1 x1 n 0) fun v75 =>
 match v75 with
 | (.inl _) => (some false)
 | (.inr _) => (some (spec_inRange ((x1.length : Nat) : Int) 1 12))


theorem spec_validTree_ok (n : Nat) (x1 : List Nod) (b38 : Bool) (h : spec_validTree n x1 = some b38) : FOk EE 42 [.one (.e (.sl 0 0 x1.length))] [.row .nod x1 false] (B b38) [.row .nod x1 false] := by
  unfold spec_validTree at h
  refine FOk_of_W 17 1 Try.func42 rfl rfl (Nat.le_of_ble_eq_true rfl) rfl (fun w X θ => ?_)
  refine W_seq ?_
  refine W_region ?_
  refine WO_step 1 [0] [0] True ⟨[(0, .one (.e (.sl 0 0 x1.length)))], [.row .nod x1 false]⟩ (by kernel_rfl) trivial ?_
  refine WO_nil rfl ?_
  refine thenS_n ?_
  refine W_seq ?_
  refine W_seq ?_
  refine W_region ?_
  refine WO_step 1 [0] [0, 3] True ⟨[(0, .one (.e (.sl 0 0 x1.length))), (3, I 0)], [.row .nod x1 false]⟩ (by kernel_rfl) trivial ?_
  refine WO_nil rfl ?_
  refine thenS_n ?_
  refine W_block ?_
  refine W_loop ?_
  refine bindO_e h (fun v75 hv75 h => ?_)
  refine WL_cut (spec_validTree_L1_ok w X θ x1 v75 n 0 hv75) ?_
  rcases v75 with _ | _
  · rintro _ _ ⟨rfl, rfl⟩
    refine blockS_r ?_
    refine thenS_r ?_
    cases h
    exact ⟨[0], True, by kernel_rfl, trivial⟩
  · rintro _ _ ⟨rfl, rfl⟩
    refine blockS_y ?_
    refine thenS_n ?_
    refine W_seq ?_
    refine W_region ?_
    refine WO_step 2 [0] [15] (True ∧ True) ⟨[(15, I ((x1.length : Nat) : Int))], [.row .nod x1 false]⟩ (by kernel_rfl) ⟨trivial, trivial⟩ ?_
    refine WO_call [] Try.f62 rfl rfl rfl (by kernel_rfl) rfl rfl (by kernel_rfl) (spec_inRange_ok ((x1.length : Nat) : Int) 1 12) (trivial) rfl ?_
    refine WO_step 1 [0] [2] True ⟨[(2, B (spec_inRange ((x1.length : Nat) : Int) 1 12))], [.row .nod x1 false]⟩ (by kernel_rfl) trivial ?_
    refine WO_nil rfl ?_
    refine thenS_n ?_
    refine W_ret ?_
    cases h
    exact ⟨[0], True, by kernel_rfl, trivial⟩

/- spec.AddNode -/
def spec_AddNode (n : Nat) (x1 : List Nod) (i2 : Int) (s3 : Str) (i4 : Int) : Option ((List Nod) × Int × Bool) :=
 bindO (spec_validTree n x1) fun b21 =>
 iteO ((!b21) || (decide (((x1.length : Nat) : Int) = 12)))
 (some (([] : List Nod), (-1), false))
 (guardO (0 = 0 ∧ ([] : List Nod).length = ([] : List Nod).length ∧ ([] : List Nod).length + ((x1.drop 0).take x1.length).length ≤ 1099511627776) <|
 guardO (0 = 0 ∧ (([] : List Nod) ++ ((x1.drop 0).take x1.length)).length = (([] : List Nod) ++ ((x1.drop 0).take x1.length)).length ∧ (([] : List Nod) ++ ((x1.drop 0).take x1.length)).length + (([(⟨i2, s3, i4⟩ : Nod)].drop 0).take ([(⟨i2, s3, i4⟩ : Nod)].length)).length ≤ 1099511627776) <|
 bindO (spec_validTree n ((([] : List Nod) ++ ((x1.drop 0).take x1.length)) ++ (([(⟨i2, s3, i4⟩ : Nod)].drop 0).take ([(⟨i2, s3, i4⟩ : Nod)].length)))) fun b30 =>
 iteO (!b30)
 (some (([] : List Nod), (-1), false))
 (some (((([] : List Nod) ++ ((x1.drop 0).take x1.length)) ++ (([(⟨i2, s3, i4⟩ : Nod)].drop 0).take ([(⟨i2, s3, i4⟩ : Nod)].length))), ((x1.length : Nat) : Int), true)))

theorem spec_AddNode_ok (n : Nat) (x1 : List Nod) (i2 : Int) (s3 : Str) (i4 : Int) (x18 : List Nod) (i19 : Int) (b20 : Bool) (h : spec_AddNode n x1 i2 s3 i4 = some (x18, i19, b20)) : FOk EE 73 [.one (.e (.sl 0 0 x1.length)), I i2, S s3, I i4] [.row .nod x1 false] (.tup [.e (.sl 1 0 x18.length), .e (cI i19), .e (cB b20)]) [.row .nod x1 false, .row .nod x18 true] := by
  unfold spec_AddNode at h
  refine FOk_of_W 35 1 Try.func73 rfl rfl (Nat.le_of_ble_eq_true rfl) rfl (fun w X θ => ?_)
  refine W_seq ?_
  refine W_region ?_
  refine WO_step 3 [0] [0, 1, 2, 3] True ⟨[(0, .one (.e (.sl 0 0 x1.length))), (1, I i2), (2, S s3), (3, I i4)], [.row .nod x1 false]⟩ (by kernel_rfl) trivial ?_
  refine WO_nil rfl ?_
  refine thenS_n ?_
  refine W_seq ?_
  refine W_seq ?_
  refine W_region ?_
  refine WO_step 1 [0] [0, 1, 2, 3, 12] True ⟨[(0, .one (.e (.sl 0 0 x1.length))), (1, I i2), (2, S s3), (3, I i4), (12, .one (.e (.sl 0 0 x1.length)))], [.row .nod x1 false]⟩ (by kernel_rfl) trivial ?_
  refine bindO_e h (fun b21 hc22 h => ?_)
  refine WO_call [.ro 0] Try.f42 rfl rfl rfl (by kernel_rfl) rfl rfl (by kernel_rfl) (spec_validTree_ok n x1 b21 hc22) (And.intro (And.intro rfl rfl) (trivial)) rfl ?_
  refine WO_step 2 [0] [0, 1, 2, 3, 15] True ⟨[(0, .one (.e (.sl 0 0 x1.length))), (1, I i2), (2, S s3), (3, I i4), (15, B (!b21))], [.row .nod x1 false]⟩ (by kernel_rfl) trivial ?_
  refine WO_thru ⟨[(0, .one (.e (.sl 0 0 x1.length))), (1, I i2), (2, S s3), (3, I i4), (19, B ((!b21) || (decide (((x1.length : Nat) : Int) = 12))))], [.row .nod x1 false]⟩ ?_ ?_
  · refine WO_if 15 rfl (fun hb25 => ?_) (fun hb25 => ?_)
    · refine WO_step 4 [0] [0, 1, 2, 3, 19] True ⟨[(0, .one (.e (.sl 0 0 x1.length))), (1, I i2), (2, S s3), (3, I i4), (19, B true)], [.row .nod x1 false]⟩ (by kernel_rfl) trivial ?_
      exact WO_nil rfl ⟨rfl, by first | rfl | (rw [hb25]; first | done | rfl)⟩
    · refine WO_step 4 [0] [0, 1, 2, 3, 19] (True ∧ (True ∧ True)) ⟨[(0, .one (.e (.sl 0 0 x1.length))), (1, I i2), (2, S s3), (3, I i4), (19, B (decide (((x1.length : Nat) : Int) = 12)))], [.row .nod x1 false]⟩ (by kernel_rfl) ⟨trivial, trivial, trivial⟩ ?_
      exact WO_nil rfl ⟨rfl, by first | rfl | (rw [hb25]; first | done | rfl)⟩
  · refine thenS_n ?_
    refine iteO_e h (fun hb27 h => W_true rfl hb27 ?_) (fun hb27 h => W_false rfl hb27 ?_)
    · refine W_seq ?_
      refine W_region ?_
      refine WO_step 3 [0] [8, 9, 10] True ⟨[(8, .one (.e (.nsl))), (9, I (-1)), (10, B false)], [.row .nod x1 false]⟩ (by kernel_rfl) trivial ?_
      refine WO_nilrow 8 .nod rfl ?_
      refine WO_sub [0, 1] [8, 9, 10] (st' := ⟨[(8, .one (.e (.sl 1 0 (([] : List Nod).length)))), (9, I (-1)), (10, B false)], [.row .nod x1 false, .row .nod ([] : List Nod) true]⟩) (by kernel_rfl) ?_
      refine WO_nil rfl ?_
      refine thenS_n ?_
      refine W_ret ?_
      refine thenS_r ?_
      cases h
      exact ⟨[0, 1], True, by kernel_rfl, trivial⟩
    · refine W_sub [0] [0, 1, 2, 3] (st' := ⟨[(0, .one (.e (.sl 0 0 x1.length))), (1, I i2), (2, S s3), (3, I i4)], [.row .nod x1 false]⟩) (by kernel_rfl) ?_
      refine W_skip ?_
      refine thenS_n ?_
      refine W_seq ?_
      refine W_region ?_
      refine guardO_e h (fun hg28 h => ?_)
      refine guardO_e h (fun hg29 h => ?_)
      refine WO_step 10 [0, 4] [0, 11] ((0 = 0 ∧ ([] : List Nod).length = ([] : List Nod).length ∧ ([] : List Nod).length + ((x1.drop 0).take x1.length).length ≤ 1099511627776) ∧ ((0 = 0 ∧ (([] : List Nod) ++ ((x1.drop 0).take x1.length)).length = (([] : List Nod) ++ ((x1.drop 0).take x1.length)).length ∧ (([] : List Nod) ++ ((x1.drop 0).take x1.length)).length + (([(⟨i2, s3, i4⟩ : Nod)].drop 0).take ([(⟨i2, s3, i4⟩ : Nod)].length)).length ≤ 1099511627776) ∧ True)) ⟨[(0, .one (.e (.sl 0 0 x1.length))), (11, .one (.e (.sl 1 0 (((([] : List Nod) ++ ((x1.drop 0).take x1.length)) ++ (([(⟨i2, s3, i4⟩ : Nod)].drop 0).take ([(⟨i2, s3, i4⟩ : Nod)].length))).length))))], [.row .nod x1 false, .row .nod ((([] : List Nod) ++ ((x1.drop 0).take x1.length)) ++ (([(⟨i2, s3, i4⟩ : Nod)].drop 0).take ([(⟨i2, s3, i4⟩ : Nod)].length))) true]⟩ (by kernel_rfl) ⟨hg28, hg29, trivial⟩ ?_
      refine WO_nil rfl ?_
      refine thenS_n ?_
      refine W_seq ?_
      refine W_seq ?_
      refine W_region ?_
      refine WO_step 1 [0, 1] [0, 11, 29] True ⟨[(0, .one (.e (.sl 0 0 x1.length))), (11, .one (.e (.sl 1 0 (((([] : List Nod) ++ ((x1.drop 0).take x1.length)) ++ (([(⟨i2, s3, i4⟩ : Nod)].drop 0).take ([(⟨i2, s3, i4⟩ : Nod)].length))).length)))), (29, .one (.e (.sl 1 0 (((([] : List Nod) ++ ((x1.drop 0).take x1.length)) ++ (([(⟨i2, s3, i4⟩ : Nod)].drop 0).take ([(⟨i2, s3, i4⟩ : Nod)].length))).length))))], [.row .nod x1 false, .row .nod ((([] : List Nod) ++ ((x1.drop 0).take x1.length)) ++ (([(⟨i2, s3, i4⟩ : Nod)].drop 0).take ([(⟨i2, s3, i4⟩ : Nod)].length))) true]⟩ (by kernel_rfl) trivial ?_
      refine bindO_e h (fun b30 hc31 h => ?_)
      refine WO_call [.ro 1] Try.f42 rfl rfl rfl (by kernel_rfl) rfl rfl (by kernel_rfl) (spec_validTree_ok n ((([] : List Nod) ++ ((x1.drop 0).take x1.length)) ++ (([(⟨i2, s3, i4⟩ : Nod)].drop 0).take ([(⟨i2, s3, i4⟩ : Nod)].length))) b30 hc31) (And.intro (And.intro rfl rfl) (trivial)) rfl ?_
      refine WO_step 1 [0, 1] [0, 11, 31] True ⟨[(0, .one (.e (.sl 0 0 x1.length))), (11, .one (.e (.sl 1 0 (((([] : List Nod) ++ ((x1.drop 0).take x1.length)) ++ (([(⟨i2, s3, i4⟩ : Nod)].drop 0).take ([(⟨i2, s3, i4⟩ : Nod)].length))).length)))), (31, B (!b30))], [.row .nod x1 false, .row .nod ((([] : List Nod) ++ ((x1.drop 0).take x1.length)) ++ (([(⟨i2, s3, i4⟩ : Nod)].drop 0).take ([(⟨i2, s3, i4⟩ : Nod)].length))) true]⟩ (by kernel_rfl) trivial ?_
      refine WO_nil rfl ?_
      refine thenS_n ?_
      refine iteO_e h (fun hb33 h => W_true rfl hb33 ?_) (fun hb33 h => W_false rfl hb33 ?_)
      · refine W_seq ?_
        refine W_region ?_
        refine WO_step 3 [0] [8, 9, 10] True ⟨[(8, .one (.e (.nsl))), (9, I (-1)), (10, B false)], [.row .nod x1 false]⟩ (by kernel_rfl) trivial ?_
        refine WO_nilrow 8 .nod rfl ?_
        refine WO_sub [0, 1] [8, 9, 10] (st' := ⟨[(8, .one (.e (.sl 1 0 (([] : List Nod).length)))), (9, I (-1)), (10, B false)], [.row .nod x1 false, .row .nod ([] : List Nod) true]⟩) (by kernel_rfl) ?_
        refine WO_nil rfl ?_
        refine thenS_n ?_
        refine W_ret ?_
        refine thenS_r ?_
        cases h
        exact ⟨[0, 1], True, by kernel_rfl, trivial⟩
      · refine W_sub [0, 1] [0, 11] (st' := ⟨[(0, .one (.e (.sl 0 0 x1.length))), (11, .one (.e (.sl 1 0 (((([] : List Nod) ++ ((x1.drop 0).take x1.length)) ++ (([(⟨i2, s3, i4⟩ : Nod)].drop 0).take ([(⟨i2, s3, i4⟩ : Nod)].length))).length))))], [.row .nod x1 false, .row .nod ((([] : List Nod) ++ ((x1.drop 0).take x1.length)) ++ (([(⟨i2, s3, i4⟩ : Nod)].drop 0).take ([(⟨i2, s3, i4⟩ : Nod)].length))) true]⟩) (by kernel_rfl) ?_
        refine W_skip ?_
        refine thenS_n ?_
        refine W_seq ?_
        refine W_region ?_
        refine WO_step 6 [0, 1] [8, 9, 10] (True ∧ True) ⟨[(8, .one (.e (.sl 1 0 (((([] : List Nod) ++ ((x1.drop 0).take x1.length)) ++ (([(⟨i2, s3, i4⟩ : Nod)].drop 0).take ([(⟨i2, s3, i4⟩ : Nod)].length))).length)))), (9, I ((x1.length : Nat) : Int)), (10, B true)], [.row .nod x1 false, .row .nod ((([] : List Nod) ++ ((x1.drop 0).take x1.length)) ++ (([(⟨i2, s3, i4⟩ : Nod)].drop 0).take ([(⟨i2, s3, i4⟩ : Nod)].length))) true]⟩ (by kernel_rfl) ⟨trivial, trivial⟩ ?_
        refine WO_nil rfl ?_
        refine thenS_n ?_
        refine W_ret ?_
        cases h
        exact ⟨[0, 1], True, by kernel_rfl, trivial⟩

/- spec.someTree -/
def spec_someTree_L1 (k2 : Nat) (x1 : List Int) : Nat → Int → (List Nod) → Int → Option ((Int × (List Nod)))
| 0, _, _, _ => none
| n + 1, i199, x200, i201 =>
 iteO (decide (0 < i201))
 (bindO (spec_reader_pick x1 k2 i199 ((x200.length : Nat) : Int)) fun i266 =>
 bindO (spec_someName x1 k2 (w64 (i199 + 1))) fun (i268, s269) =>
 bindO (spec_someValue x1 k2 i268) fun (i271, i272) =>
 bindO (spec_AddNode n x200 i266 s269 i272) fun (x274, i275, b276) =>
 bindO (iteO b276
 (some x274)
 (some x200)) fun x279 =>
 spec_someTree_L1 k2 x1 n i271 x279 (w64 (i201 - 1)))
 (some (i199, x200))

theorem spec_someTree_L1_ok (w : World) (X : Nat → Prop) (θ : List Loc) (k2 : Nat) (x1 : List Int) (v : (Int × (List Nod))) : ∀ (n : Nat) (i199 : Int) (x200 : List Nod) (i201 : Int), spec_someTree_L1 k2 x1 n i199 x200 i201 = some v → WL EE ⟨w, X, θ, 36, 2⟩ (subC [1, 1, 0, 1, 4, 4] (bodyC Try.f65)) (fun (e : Exit) (s : St) => (match v with | (i243, x244) => e = .exit 0 ∧ s = ⟨[(3, .one (.e (.sl 2 0 x244.length)))], [.cells [.sl 1 0 k2, cI i243], .row .u8 x1 false, .row .nod x244 true]⟩ : Prop)) ⟨[(0, .one (.e (.p 0 0))), (3, .one (.e (.sl 2 0 x200.length))), (4, I i201)], [.cells [.sl 1 0 k2, cI i199], .row .u8 x1 false, .row .nod x200 true]⟩ := by
  intro n
  induction n with
  | zero => intro _ _ _ h; exact none_e h
  | succ n ih =>
    intro i199 x200 i201 h
    rw [spec_someTree_L1] at h
    refine WL_round ?_
    refine W_seq ?_
    refine W_seq ?_
    refine W_region ?_
    refine WO_step 2 [0, 1, 2] [0, 3, 4, 16] (True ∧ True) ⟨[(0, .one (.e (.p 0 0))), (3, .one (.e (.sl 2 0 x200.length))), (4, I i201), (16, B (decide (0 < i201)))], [.cells [.sl 1 0 k2, cI i199], .row .u8 x1 false, .row .nod x200 true]⟩ (by kernel_rfl) ⟨trivial, trivial⟩ ?_
    refine WO_nil rfl ?_
    refine thenS_n ?_
    refine iteO_e h (fun hb247 h => W_true rfl hb247 ?_) (fun hb247 h => W_false rfl hb247 ?_)
    · refine W_sub [0, 1, 2] [0, 3, 4] (st' := ⟨[(0, .one (.e (.p 0 0))), (3, .one (.e (.sl 2 0 x200.length))), (4, I i201)], [.cells [.sl 1 0 k2, cI i199], .row .u8 x1 false, .row .nod x200 true]⟩) (by kernel_rfl) ?_
      refine W_skip ?_
      refine thenS_n ?_
      refine W_seq ?_
      refine W_block ?_
      refine W_seq ?_
      refine W_region ?_
      refine WO_step 4 [0, 1, 2] [0, 3, 4, 20, 21, 23] (True ∧ True) ⟨[(0, .one (.e (.p 0 0))), (3, .one (.e (.sl 2 0 x200.length))), (4, I i201), (20, .one (.e (.sl 2 0 x200.length))), (21, .one (.e (.p 0 0))), (23, I ((x200.length : Nat) : Int))], [.cells [.sl 1 0 k2, cI i199], .row .u8 x1 false, .row .nod x200 true]⟩ (by kernel_rfl) ⟨trivial, trivial⟩ ?_
      refine bindO_e h (fun i266 hc267 h => ?_)
      refine WO_call [.own 0, .ro 1] Try.f66 rfl rfl rfl (by kernel_rfl) rfl rfl (by kernel_rfl) (spec_reader_pick_ok x1 k2 i199 ((x200.length : Nat) : Int) i266 hc267) (And.intro (trivial) (And.intro (And.intro rfl rfl) (trivial))) rfl ?_
      refine WO_step 1 [0, 1, 2] [0, 3, 4, 20, 24, 25] True ⟨[(0, .one (.e (.p 0 0))), (3, .one (.e (.sl 2 0 x200.length))), (4, I i201), (20, .one (.e (.sl 2 0 x200.length))), (24, I i266), (25, .one (.e (.p 0 0)))], [.cells [.sl 1 0 k2, cI (w64 (i199 + 1))], .row .u8 x1 false, .row .nod x200 true]⟩ (by kernel_rfl) trivial ?_
      refine bindO_e h (fun v284 hc270 h => ?_)
      obtain ⟨i268, s269⟩ := v284
      refine WO_call [.own 0, .ro 1] Try.f74 rfl rfl rfl (by kernel_rfl) rfl rfl (by kernel_rfl) (spec_someName_ok x1 k2 (w64 (i199 + 1)) i268 s269 hc270) (And.intro (trivial) (And.intro (And.intro rfl rfl) (trivial))) rfl ?_
      refine WO_step 1 [0, 1, 2] [0, 3, 4, 20, 24, 26, 27] True ⟨[(0, .one (.e (.p 0 0))), (3, .one (.e (.sl 2 0 x200.length))), (4, I i201), (20, .one (.e (.sl 2 0 x200.length))), (24, I i266), (26, S s269), (27, .one (.e (.p 0 0)))], [.cells [.sl 1 0 k2, cI i268], .row .u8 x1 false, .row .nod x200 true]⟩ (by kernel_rfl) trivial ?_
      refine bindO_e h (fun v283 hc273 h => ?_)
      obtain ⟨i271, i272⟩ := v283
      refine WO_call [.own 0, .ro 1] Try.f69 rfl rfl rfl (by kernel_rfl) rfl rfl (by kernel_rfl) (spec_someValue_ok x1 k2 i268 i271 i272 hc273) (And.intro (trivial) (And.intro (And.intro rfl rfl) (trivial))) rfl ?_
      refine WO_sub [0, 1, 2] [0, 3, 4, 20, 24, 26, 28] (st' := ⟨[(0, .one (.e (.p 0 0))), (3, .one (.e (.sl 2 0 x200.length))), (4, I i201), (20, .one (.e (.sl 2 0 x200.length))), (24, I i266), (26, S s269), (28, I i272)], [.cells [.sl 1 0 k2, cI i271], .row .u8 x1 false, .row .nod x200 true]⟩) (by kernel_rfl) ?_
      refine bindO_e h (fun v282 hc277 h => ?_)
      obtain ⟨x274, i275, b276⟩ := v282
      refine WO_call [.ro 2] Try.f73 rfl rfl rfl (by kernel_rfl) rfl rfl (by kernel_rfl) (spec_AddNode_ok n x200 i266 s269 i272 x274 i275 b276 hc277) (And.intro (And.intro rfl rfl) (trivial)) rfl ?_
      refine WO_step 7 [0, 1, 2, 3] [0, 3, 4, 5, 7] True ⟨[(0, .one (.e (.p 0 0))), (3, .one (.e (.sl 2 0 x200.length))), (4, I i201), (5, .one (.e (.sl 3 0 x274.length))), (7, B b276)], [.cells [.sl 1 0 k2, cI i271], .row .u8 x1 false, .row .nod x200 true, .row .nod x274 true]⟩ (by kernel_rfl) trivial ?_
      refine WO_nil rfl ?_
      refine thenS_n ?_
      refine W_seq ?_
      refine W_region ?_
      refine WO_step 1 [0, 1, 2, 3] [0, 3, 4, 5, 33] True ⟨[(0, .one (.e (.p 0 0))), (3, .one (.e (.sl 2 0 x200.length))), (4, I i201), (5, .one (.e (.sl 3 0 x274.length))), (33, B b276)], [.cells [.sl 1 0 k2, cI i271], .row .u8 x1 false, .row .nod x200 true, .row .nod x274 true]⟩ (by kernel_rfl) trivial ?_
      refine WO_nil rfl ?_
      refine thenS_n ?_
      refine bindO_e h (fun x279 hx279 h => ?_)
      refine W_cut (Q' := fun (e : Exit) (s : St) => e = .normal ∧ s = ⟨[(0, .one (.e (.p 0 0))), (3, .one (.e (.sl 2 0 x279.length))), (4, I i201)], [.cells [.sl 1 0 k2, cI i271], .row .u8 x1 false, .row .nod x279 true]⟩) ?_ ?_
      · refine iteO_e hx279 (fun hb281 hx279 => W_true rfl hb281 ?_) (fun hb281 hx279 => W_false rfl hb281 ?_)
        · refine W_region ?_
          refine WO_step 2 [0, 1, 3] [0, 3, 4] True ⟨[(0, .one (.e (.p 0 0))), (3, .one (.e (.sl 2 0 x274.length))), (4, I i201)], [.cells [.sl 1 0 k2, cI i271], .row .u8 x1 false, .row .nod x274 true]⟩ (by kernel_rfl) trivial ?_
          refine WO_nil rfl ?_
          cases hx279
          exact And.intro rfl rfl
        · refine W_sub [0, 1, 2] [0, 3, 4] (st' := ⟨[(0, .one (.e (.p 0 0))), (3, .one (.e (.sl 2 0 x200.length))), (4, I i201)], [.cells [.sl 1 0 k2, cI i271], .row .u8 x1 false, .row .nod x200 true]⟩) (by kernel_rfl) ?_
          refine W_skip ?_
          cases hx279
          exact And.intro rfl rfl
      · rintro _ _ ⟨rfl, rfl⟩
        refine blockS_n ?_
        refine thenS_n ?_
        refine W_region ?_
        refine WO_step 3 [0, 1, 2] [0, 3, 4] (True ∧ True) ⟨[(0, .one (.e (.p 0 0))), (3, .one (.e (.sl 2 0 x279.length))), (4, I (w64 (i201 - 1)))], [.cells [.sl 1 0 k2, cI i271], .row .u8 x1 false, .row .nod x279 true]⟩ (by kernel_rfl) ⟨trivial, trivial⟩ ?_
        refine WO_nil rfl ?_
        refine thenS_n ?_
        exact ih _ _ _ h
    · refine W_sub [0, 1, 2] [3] (st' := ⟨[(3, .one (.e (.sl 2 0 x200.length)))], [.cells [.sl 1 0 k2, cI i199], .row .u8 x1 false, .row .nod x200 true]⟩) (by kernel_rfl) ?_
      refine W_exit ?_
      refine thenS_e ?_
      refine thenS_e ?_
      cases h
      exact And.intro rfl rfl

def spec_someTree (n : Nat) (x1 : List Int) (k2 : Nat) (i3 : Int) : Option (Int × (List Nod)) :=
 bindO (spec_someValue x1 k2 i3) fun (i146, i147) =>
 bindO (spec_reader_one x1 k2 i146 [5, 8, 3, 12, 1, 0, 16]) fun (i149, i150) =>
 bindO (spec_someTree_L1 k2 x1 n i149 [(⟨(-1), [], i147⟩ : Nod)] i150) fun v285 =>
 match v285 with
 | (i243, x244) => (some (i243, x244))


theorem spec_someTree_ok (n : Nat) (x1 : List Int) (k2 : Nat) (i3 : Int) (i144 : Int) (x145 : List Nod) (h : spec_someTree n x1 k2 i3 = some (i144, x145)) : FOk EE 65 [.one (.e (.p 0 0))] [.cells [.sl 1 0 k2, cI i3], .row .u8 x1 false] (.one (.e (.sl 2 0 x145.length))) [.cells [.sl 1 0 k2, cI i144], .row .u8 x1 false, .row .nod x145 true] := by
  unfold spec_someTree at h
  refine FOk_of_W 36 2 Try.func65 rfl rfl (Nat.le_of_ble_eq_true rfl) rfl (fun w X θ => ?_)
  refine W_seq ?_
  refine W_region ?_
  refine WO_step 1 [0, 1] [0] True ⟨[(0, .one (.e (.p 0 0)))], [.cells [.sl 1 0 k2, cI i3], .row .u8 x1 false]⟩ (by kernel_rfl) trivial ?_
  refine WO_nil rfl ?_
  refine thenS_n ?_
  refine W_seq ?_
  refine W_region ?_
  refine WO_step 1 [0, 1] [0, 8] True ⟨[(0, .one (.e (.p 0 0))), (8, .one (.e (.p 0 0)))], [.cells [.sl 1 0 k2, cI i3], .row .u8 x1 false]⟩ (by kernel_rfl) trivial ?_
  refine bindO_e h (fun v287 hc148 h => ?_)
  obtain ⟨i146, i147⟩ := v287
  refine WO_call [.own 0, .ro 1] Try.f69 rfl rfl rfl (by kernel_rfl) rfl rfl (by kernel_rfl) (spec_someValue_ok x1 k2 i3 i146 i147 hc148) (And.intro (trivial) (And.intro (And.intro rfl rfl) (trivial))) rfl ?_
  refine WO_step 3 [0, 1, 2] [0, 3] True ⟨[(0, .one (.e (.p 0 0))), (3, .one (.e (.sl 2 0 ([(⟨(-1), [], i147⟩ : Nod)].length))))], [.cells [.sl 1 0 k2, cI i146], .row .u8 x1 false, .row .nod [(⟨(-1), [], i147⟩ : Nod)] true]⟩ (by kernel_rfl) trivial ?_
  refine WO_nil rfl ?_
  refine thenS_n ?_
  refine W_seq ?_
  refine W_seq ?_
  refine W_region ?_
  refine WO_step 2 [0, 1, 2, 3] [0, 3, 12, 13] True ⟨[(0, .one (.e (.p 0 0))), (3, .one (.e (.sl 2 0 ([(⟨(-1), [], i147⟩ : Nod)].length)))), (12, .one (.e (.p 0 0))), (13, .one (.e (.sl 3 0 ([5, 8, 3, 12, 1, 0, 16].length))))], [.cells [.sl 1 0 k2, cI i146], .row .u8 x1 false, .row .nod [(⟨(-1), [], i147⟩ : Nod)] true, .row .int [5, 8, 3, 12, 1, 0, 16] true]⟩ (by kernel_rfl) trivial ?_
  refine bindO_e h (fun v286 hc151 h => ?_)
  obtain ⟨i149, i150⟩ := v286
  refine WO_call [.own 0, .ro 1, .ro 3] Try.f68 rfl rfl rfl (by kernel_rfl) rfl rfl (by kernel_rfl) (spec_reader_one_ok x1 k2 i146 [5, 8, 3, 12, 1, 0, 16] i149 i150 hc151) (And.intro (trivial) (And.intro (And.intro rfl rfl) (And.intro (And.intro rfl rfl) (trivial)))) rfl ?_
  refine WO_step 1 [0, 1, 2] [0, 3, 4] True ⟨[(0, .one (.e (.p 0 0))), (3, .one (.e (.sl 2 0 ([(⟨(-1), [], i147⟩ : Nod)].length)))), (4, I i150)], [.cells [.sl 1 0 k2, cI i149], .row .u8 x1 false, .row .nod [(⟨(-1), [], i147⟩ : Nod)] true]⟩ (by kernel_rfl) trivial ?_
  refine WO_nil rfl ?_
  refine thenS_n ?_
  refine W_block ?_
  refine W_loop ?_
  refine bindO_e h (fun v285 hv285 h => ?_)
  refine WL_cut (spec_someTree_L1_ok w X θ k2 x1 v285 n i149 [(⟨(-1), [], i147⟩ : Nod)] i150 hv285) ?_
  obtain ⟨i243, x244⟩ := v285
  rintro _ _ ⟨rfl, rfl⟩
  refine blockS_y ?_
  refine thenS_n ?_
  refine W_seq ?_
  refine W_region ?_
  refine WO_step 2 [0, 1, 2] [2] True ⟨[(2, .one (.e (.sl 2 0 x244.length)))], [.cells [.sl 1 0 k2, cI i243], .row .u8 x1 false, .row .nod x244 true]⟩ (by kernel_rfl) trivial ?_
  refine WO_nil rfl ?_
  refine thenS_n ?_
  refine W_ret ?_
  cases h
  exact ⟨[0, 1, 2], True, by kernel_rfl, trivial⟩

/- spec.anyTree -/
def spec_anyTree_L1 (k2 : Nat) (i132 : Int) (x1 : List Int) : Nat → (List Nod) → Option ((List Nod))
| 0, _ => none
| n + 1, x405 =>
 iteO (decide (((x405.length : Nat) : Int) < 13))
 (guardO (0 = 0 ∧ x405.length = x405.length ∧ x405.length + (([(⟨0, [113], 0⟩ : Nod)].drop 0).take ([(⟨0, [113], 0⟩ : Nod)].length)).length ≤ 1099511627776) <|
 spec_anyTree_L1 k2 i132 x1 n (x405 ++ (([(⟨0, [113], 0⟩ : Nod)].drop 0).take ([(⟨0, [113], 0⟩ : Nod)].length))))
 (some x405)

theorem spec_anyTree_L1_ok (w : World) (X : Nat → Prop) (θ : List Loc) (k2 : Nat) (i132 : Int) (x1 : List Int) (x411 : (List Nod)) : ∀ (n : Nat) (x405 : List Nod), spec_anyTree_L1 k2 i132 x1 n x405 = some x411 → WL EE ⟨w, X, θ, 54, 2⟩ (subC [1, 1, 1, 0, 1, 4, 1, 3, 1, 3, 1, 3, 1, 3, 1, 2, 4, 4] (bodyC Try.f59)) (fun (e : Exit) (s : St) => e = .exit 1 ∧ s = ⟨[(3, .one (.e (.sl 2 0 x411.length)))], [.cells [.sl 1 0 k2, cI (w64 ((w64 (i132 + 1)) + 1))], .row .u8 x1 false, .row .nod x411 true]⟩) ⟨[(3, .one (.e (.sl 2 0 x405.length)))], [.cells [.sl 1 0 k2, cI (w64 ((w64 (i132 + 1)) + 1))], .row .u8 x1 false, .row .nod x405 true]⟩ := by
  intro n
  induction n with
  | zero => intro _ h; exact none_e h
  | succ n ih =>
    intro x405 h
    rw [spec_anyTree_L1] at h
    refine WL_round ?_
    refine W_seq ?_
    refine W_seq ?_
    refine W_region ?_
    refine WO_step 3 [0, 1, 2] [3, 48] (True ∧ (True ∧ True)) ⟨[(3, .one (.e (.sl 2 0 x405.length))), (48, B (decide (((x405.length : Nat) : Int) < 13)))], [.cells [.sl 1 0 k2, cI (w64 ((w64 (i132 + 1)) + 1))], .row .u8 x1 false, .row .nod x405 true]⟩ (by kernel_rfl) ⟨trivial, trivial, trivial⟩ ?_
    refine WO_nil rfl ?_
    refine thenS_n ?_
    refine iteO_e h (fun hb414 h => W_true rfl hb414 ?_) (fun hb414 h => W_false rfl hb414 ?_)
    · refine W_sub [0, 1, 2] [3] (st' := ⟨[(3, .one (.e (.sl 2 0 x405.length)))], [.cells [.sl 1 0 k2, cI (w64 ((w64 (i132 + 1)) + 1))], .row .u8 x1 false, .row .nod x405 true]⟩) (by kernel_rfl) ?_
      refine W_skip ?_
      refine thenS_n ?_
      refine W_block ?_
      refine W_region ?_
      refine guardO_e h (fun hg416 h => ?_)
      refine WO_step 5 [0, 1, 4] [3] ((0 = 0 ∧ x405.length = x405.length ∧ x405.length + (([(⟨0, [113], 0⟩ : Nod)].drop 0).take ([(⟨0, [113], 0⟩ : Nod)].length)).length ≤ 1099511627776) ∧ True) ⟨[(3, .one (.e (.sl 2 0 ((x405 ++ (([(⟨0, [113], 0⟩ : Nod)].drop 0).take ([(⟨0, [113], 0⟩ : Nod)].length))).length))))], [.cells [.sl 1 0 k2, cI (w64 ((w64 (i132 + 1)) + 1))], .row .u8 x1 false, .row .nod (x405 ++ (([(⟨0, [113], 0⟩ : Nod)].drop 0).take ([(⟨0, [113], 0⟩ : Nod)].length))) true]⟩ (by kernel_rfl) ⟨hg416, trivial⟩ ?_
      refine WO_nil rfl ?_
      refine blockS_n ?_
      refine thenS_n ?_
      exact ih _ h
    · refine W_sub [0, 1, 2] [3] (st' := ⟨[(3, .one (.e (.sl 2 0 x405.length)))], [.cells [.sl 1 0 k2, cI (w64 ((w64 (i132 + 1)) + 1))], .row .u8 x1 false, .row .nod x405 true]⟩) (by kernel_rfl) ?_
      refine W_exit ?_
      refine thenS_e ?_
      refine thenS_e ?_
      cases h
      exact And.intro rfl rfl

def spec_anyTree (n : Nat) (x1 : List Int) (k2 : Nat) (i3 : Int) : Option (Int × (List Nod) × Nat × Nat) :=
 bindO (spec_someTree n x1 k2 i3) fun (i132, x133) =>
 bindO (spec_reader_pick x1 k2 i132 ((x133.length : Nat) : Int)) fun i135 =>
 bindO (spec_reader_pick x1 k2 (w64 (i132 + 1)) 30) fun i137 =>
 bindO (iteO (decide (i137 = 0))
 (bindO (spec_reader_pick x1 k2 (w64 ((w64 (i132 + 1)) + 1)) 6) fun i252 =>
 guardO (0 ≤ i135 ∧ i135 < ((x133.length : Nat) : Int)) <|
 some ((w64 ((w64 ((w64 (i132 + 1)) + 1)) + 1)), (x133.set i135.toNat (⟨(w64 (i252 - 1)), (x133.getD i135.toNat dnod).name, (x133.getD i135.toNat dnod).value⟩ : Nod)), 0, (x133.set i135.toNat (⟨(w64 (i252 - 1)), (x133.getD i135.toNat dnod).name, (x133.getD i135.toNat dnod).value⟩ : Nod)).length))
 (bindO (iteO (decide (i137 = 1))
 (bindO (spec_reader_of x1 k2 (w64 ((w64 (i132 + 1)) + 1)) [[], [65], [97, 98, 99, 100, 101], [97]]) fun (i303, s304) =>
 guardO (0 ≤ i135 ∧ i135 < ((x133.length : Nat) : Int)) <|
 some (i303, (x133.set i135.toNat (⟨(x133.getD i135.toNat dnod).parent, s304, (x133.getD i135.toNat dnod).value⟩ : Nod)), 0, (x133.set i135.toNat (⟨(x133.getD i135.toNat dnod).parent, s304, (x133.getD i135.toNat dnod).value⟩ : Nod)).length))
 (bindO (iteO (decide (i137 = 2))
 (bindO (spec_reader_one x1 k2 (w64 ((w64 (i132 + 1)) + 1)) [1001, (-1001)]) fun (i345, i346) =>
 guardO (0 ≤ i135 ∧ i135 < ((x133.length : Nat) : Int)) <|
 some (i345, (x133.set i135.toNat (⟨(x133.getD i135.toNat dnod).parent, (x133.getD i135.toNat dnod).name, i346⟩ : Nod)), 0, (x133.set i135.toNat (⟨(x133.getD i135.toNat dnod).parent, (x133.getD i135.toNat dnod).name, i346⟩ : Nod)).length))
 (bindO (iteO (decide (i137 = 3))
 (guardO (0 ≤ (1 : Int) ∧ (1 : Int) ≤ ((x133.length : Nat) : Int)) <|
 some (x133, 1, (x133.length - 1)))
 (bindO (iteO (decide (i137 = 4))
 (bindO (spec_anyTree_L1 k2 i132 x1 n x133) fun x411 =>
 some x411)
 (some x133)) fun x394 =>
 some (x394, 0, x394.length))) fun v374 =>
 match v374 with
 | (x371, k372, k373) => (some ((w64 ((w64 (i132 + 1)) + 1)), x371, k372, k373))
)) fun v343 =>
 match v343 with
 | (i339, x340, k341, k342) => (some (i339, x340, k341, k342))
)) fun v301 =>
 match v301 with
 | (i297, x298, k299, k300) => (some (i297, x298, k299, k300))
)) fun v250 =>
 match v250 with
 | (i246, x247, k248, k249) => (some (i246, x247, k248, k249))


theorem spec_anyTree_ok (n : Nat) (x1 : List Int) (k2 : Nat) (i3 : Int) (i128 : Int) (x129 : List Nod) (k130 : Nat) (k131 : Nat) (h : spec_anyTree n x1 k2 i3 = some (i128, x129, k130, k131)) : FOk EE 59 [.one (.e (.p 0 0))] [.cells [.sl 1 0 k2, cI i3], .row .u8 x1 false] (.one (.e (.sl 2 k130 k131))) [.cells [.sl 1 0 k2, cI i128], .row .u8 x1 false, .row .nod x129 true] := by
  unfold spec_anyTree at h
  refine FOk_of_W 54 2 Try.func59 rfl rfl (Nat.le_of_ble_eq_true rfl) rfl (fun w X θ => ?_)
  refine W_seq ?_
  refine W_region ?_
  refine WO_step 1 [0, 1] [0] True ⟨[(0, .one (.e (.p 0 0)))], [.cells [.sl 1 0 k2, cI i3], .row .u8 x1 false]⟩ (by kernel_rfl) trivial ?_
  refine WO_nil rfl ?_
  refine thenS_n ?_
  refine W_seq ?_
  refine W_region ?_
  refine WO_step 1 [0, 1] [0, 5] True ⟨[(0, .one (.e (.p 0 0))), (5, .one (.e (.p 0 0)))], [.cells [.sl 1 0 k2, cI i3], .row .u8 x1 false]⟩ (by kernel_rfl) trivial ?_
  refine bindO_e h (fun v418 hc134 h => ?_)
  obtain ⟨i132, x133⟩ := v418
  refine WO_call [.own 0, .ro 1] Try.f65 rfl rfl rfl (by kernel_rfl) rfl rfl (by kernel_rfl) (spec_someTree_ok n x1 k2 i3 i132 x133 hc134) (And.intro (trivial) (And.intro (And.intro rfl rfl) (trivial))) rfl ?_
  refine WO_step 1 [0, 1, 2] [0, 3] True ⟨[(0, .one (.e (.p 0 0))), (3, .one (.e (.sl 2 0 x133.length)))], [.cells [.sl 1 0 k2, cI i132], .row .u8 x1 false, .row .nod x133 true]⟩ (by kernel_rfl) trivial ?_
  refine WO_nil rfl ?_
  refine thenS_n ?_
  refine W_seq ?_
  refine W_region ?_
  refine WO_step 3 [0, 1, 2] [0, 3, 7, 9] (True ∧ True) ⟨[(0, .one (.e (.p 0 0))), (3, .one (.e (.sl 2 0 x133.length))), (7, .one (.e (.p 0 0))), (9, I ((x133.length : Nat) : Int))], [.cells [.sl 1 0 k2, cI i132], .row .u8 x1 false, .row .nod x133 true]⟩ (by kernel_rfl) ⟨trivial, trivial⟩ ?_
  refine bindO_e h (fun i135 hc136 h => ?_)
  refine WO_call [.own 0, .ro 1] Try.f66 rfl rfl rfl (by kernel_rfl) rfl rfl (by kernel_rfl) (spec_reader_pick_ok x1 k2 i132 ((x133.length : Nat) : Int) i135 hc136) (And.intro (trivial) (And.intro (And.intro rfl rfl) (trivial))) rfl ?_
  refine WO_step 1 [0, 1, 2] [0, 3, 4] True ⟨[(0, .one (.e (.p 0 0))), (3, .one (.e (.sl 2 0 x133.length))), (4, I i135)], [.cells [.sl 1 0 k2, cI (w64 (i132 + 1))], .row .u8 x1 false, .row .nod x133 true]⟩ (by kernel_rfl) trivial ?_
  refine WO_nil rfl ?_
  refine thenS_n ?_
  refine W_seq ?_
  refine W_seq ?_
  refine W_region ?_
  refine WO_step 1 [0, 1, 2] [0, 3, 4, 11] True ⟨[(0, .one (.e (.p 0 0))), (3, .one (.e (.sl 2 0 x133.length))), (4, I i135), (11, .one (.e (.p 0 0)))], [.cells [.sl 1 0 k2, cI (w64 (i132 + 1))], .row .u8 x1 false, .row .nod x133 true]⟩ (by kernel_rfl) trivial ?_
  refine bindO_e h (fun i137 hc138 h => ?_)
  refine WO_call [.own 0, .ro 1] Try.f66 rfl rfl rfl (by kernel_rfl) rfl rfl (by kernel_rfl) (spec_reader_pick_ok x1 k2 (w64 (i132 + 1)) 30 i137 hc138) (And.intro (trivial) (And.intro (And.intro rfl rfl) (trivial))) rfl ?_
  refine WO_sub [0, 1, 2] [0, 3, 4, 12] (st' := ⟨[(0, .one (.e (.p 0 0))), (3, .one (.e (.sl 2 0 x133.length))), (4, I i135), (12, I i137)], [.cells [.sl 1 0 k2, cI (w64 ((w64 (i132 + 1)) + 1))], .row .u8 x1 false, .row .nod x133 true]⟩) (by kernel_rfl) ?_
  refine WO_nil rfl ?_
  refine thenS_n ?_
  refine W_block ?_
  refine W_seq ?_
  refine W_region ?_
  refine WO_step 2 [0, 1, 2] [0, 3, 4, 12, 13] (True ∧ True) ⟨[(0, .one (.e (.p 0 0))), (3, .one (.e (.sl 2 0 x133.length))), (4, I i135), (12, I i137), (13, B (decide (i137 = 0)))], [.cells [.sl 1 0 k2, cI (w64 ((w64 (i132 + 1)) + 1))], .row .u8 x1 false, .row .nod x133 true]⟩ (by kernel_rfl) ⟨trivial, trivial⟩ ?_
  refine WO_nil rfl ?_
  refine thenS_n ?_
  refine bindO_e h (fun v250 hv250 h => ?_)
  refine W_cut (Q' := fun (e : Exit) (s : St) => (match v250 with | (i246, x247, k248, k249) => e = .normal ∧ s = ⟨[(3, .one (.e (.sl 2 k248 k249)))], [.cells [.sl 1 0 k2, cI i246], .row .u8 x1 false, .row .nod x247 true]⟩ : Prop)) ?_ ?_
  · refine iteO_e hv250 (fun hb251 hv250 => W_true rfl hb251 ?_) (fun hb251 hv250 => W_false rfl hb251 ?_)
    · refine W_region ?_
      refine WO_step 3 [0, 1, 2] [3, 15, 16, 17] True ⟨[(3, .one (.e (.sl 2 0 x133.length))), (15, .one (.e (.sl 2 0 x133.length))), (16, I i135), (17, .one (.e (.p 0 0)))], [.cells [.sl 1 0 k2, cI (w64 ((w64 (i132 + 1)) + 1))], .row .u8 x1 false, .row .nod x133 true]⟩ (by kernel_rfl) trivial ?_
      refine bindO_e hv250 (fun i252 hc253 hv250 => ?_)
      refine WO_call [.own 0, .ro 1] Try.f66 rfl rfl rfl (by kernel_rfl) rfl rfl (by kernel_rfl) (spec_reader_pick_ok x1 k2 (w64 ((w64 (i132 + 1)) + 1)) 6 i252 hc253) (And.intro (trivial) (And.intro (And.intro rfl rfl) (trivial))) rfl ?_
      refine guardO_e hv250 (fun hg254 hv250 => ?_)
      refine WO_step 4 [0, 1, 2] [3] (True ∧ ((0 ≤ i135 ∧ i135 < ((x133.length : Nat) : Int)) ∧ (True ∧ True))) ⟨[(3, .one (.e (.sl 2 0 x133.length)))], [.cells [.sl 1 0 k2, cI (w64 ((w64 ((w64 (i132 + 1)) + 1)) + 1))], .row .u8 x1 false, .row .nod (x133.set i135.toNat (⟨(w64 (i252 - 1)), (x133.getD i135.toNat dnod).name, (x133.getD i135.toNat dnod).value⟩ : Nod)) true]⟩ (by kernel_rfl) ⟨trivial, hg254, trivial, trivial⟩ ?_
      refine WO_eq (st' := ⟨[(3, .one (.e (.sl 2 0 ((x133.set i135.toNat (⟨(w64 (i252 - 1)), (x133.getD i135.toNat dnod).name, (x133.getD i135.toNat dnod).value⟩ : Nod)).length))))], [.cells [.sl 1 0 k2, cI (w64 ((w64 ((w64 (i132 + 1)) + 1)) + 1))], .row .u8 x1 false, .row .nod (x133.set i135.toNat (⟨(w64 (i252 - 1)), (x133.getD i135.toNat dnod).name, (x133.getD i135.toNat dnod).value⟩ : Nod)) true]⟩) (by simp only [List.length_set]) ?_
      refine WO_nil rfl ?_
      cases hv250
      exact And.intro rfl rfl
    · refine W_seq ?_
      refine W_region ?_
      refine WO_step 2 [0, 1, 2] [0, 3, 4, 12, 22] (True ∧ True) ⟨[(0, .one (.e (.p 0 0))), (3, .one (.e (.sl 2 0 x133.length))), (4, I i135), (12, I i137), (22, B (decide (i137 = 1)))], [.cells [.sl 1 0 k2, cI (w64 ((w64 (i132 + 1)) + 1))], .row .u8 x1 false, .row .nod x133 true]⟩ (by kernel_rfl) ⟨trivial, trivial⟩ ?_
      refine WO_nil rfl ?_
      refine thenS_n ?_
      refine bindO_e hv250 (fun v301 hv301 hv250 => ?_)
      refine W_cut (Q' := fun (e : Exit) (s : St) => (match v301 with | (i297, x298, k299, k300) => e = .normal ∧ s = ⟨[(3, .one (.e (.sl 2 k299 k300)))], [.cells [.sl 1 0 k2, cI i297], .row .u8 x1 false, .row .nod x298 true]⟩ : Prop)) ?_ ?_
      · refine iteO_e hv301 (fun hb302 hv301 => W_true rfl hb302 ?_) (fun hb302 hv301 => W_false rfl hb302 ?_)
        · refine W_region ?_
          refine WO_step 4 [0, 1, 2, 3] [3, 24, 25, 26, 27] True ⟨[(3, .one (.e (.sl 2 0 x133.length))), (24, .one (.e (.sl 2 0 x133.length))), (25, I i135), (26, .one (.e (.p 0 0))), (27, .one (.e (.sl 3 0 ([[], [65], [97, 98, 99, 100, 101], [97]].length))))], [.cells [.sl 1 0 k2, cI (w64 ((w64 (i132 + 1)) + 1))], .row .u8 x1 false, .row .nod x133 true, .row .str [[], [65], [97, 98, 99, 100, 101], [97]] true]⟩ (by kernel_rfl) trivial ?_
          refine bindO_e hv301 (fun v307 hc305 hv301 => ?_)
          obtain ⟨i303, s304⟩ := v307
          refine WO_call [.own 0, .ro 1, .ro 3] Try.f67 rfl rfl rfl (by kernel_rfl) rfl rfl (by kernel_rfl) (spec_reader_of_ok x1 k2 (w64 ((w64 (i132 + 1)) + 1)) [[], [65], [97, 98, 99, 100, 101], [97]] i303 s304 hc305) (And.intro (trivial) (And.intro (And.intro rfl rfl) (And.intro (And.intro rfl rfl) (trivial)))) rfl ?_
          refine guardO_e hv301 (fun hg306 hv301 => ?_)
          refine WO_step 3 [0, 1, 2] [3] ((0 ≤ i135 ∧ i135 < ((x133.length : Nat) : Int)) ∧ (True ∧ True)) ⟨[(3, .one (.e (.sl 2 0 x133.length)))], [.cells [.sl 1 0 k2, cI i303], .row .u8 x1 false, .row .nod (x133.set i135.toNat (⟨(x133.getD i135.toNat dnod).parent, s304, (x133.getD i135.toNat dnod).value⟩ : Nod)) true]⟩ (by kernel_rfl) ⟨hg306, trivial, trivial⟩ ?_
          refine WO_eq (st' := ⟨[(3, .one (.e (.sl 2 0 ((x133.set i135.toNat (⟨(x133.getD i135.toNat dnod).parent, s304, (x133.getD i135.toNat dnod).value⟩ : Nod)).length))))], [.cells [.sl 1 0 k2, cI i303], .row .u8 x1 false, .row .nod (x133.set i135.toNat (⟨(x133.getD i135.toNat dnod).parent, s304, (x133.getD i135.toNat dnod).value⟩ : Nod)) true]⟩) (by simp only [List.length_set]) ?_
          refine WO_nil rfl ?_
          cases hv301
          exact And.intro rfl rfl
        · refine W_seq ?_
          refine W_region ?_
          refine WO_step 2 [0, 1, 2] [0, 3, 4, 12, 31] (True ∧ True) ⟨[(0, .one (.e (.p 0 0))), (3, .one (.e (.sl 2 0 x133.length))), (4, I i135), (12, I i137), (31, B (decide (i137 = 2)))], [.cells [.sl 1 0 k2, cI (w64 ((w64 (i132 + 1)) + 1))], .row .u8 x1 false, .row .nod x133 true]⟩ (by kernel_rfl) ⟨trivial, trivial⟩ ?_
          refine WO_nil rfl ?_
          refine thenS_n ?_
          refine bindO_e hv301 (fun v343 hv343 hv301 => ?_)
          refine W_cut (Q' := fun (e : Exit) (s : St) => (match v343 with | (i339, x340, k341, k342) => e = .normal ∧ s = ⟨[(3, .one (.e (.sl 2 k341 k342)))], [.cells [.sl 1 0 k2, cI i339], .row .u8 x1 false, .row .nod x340 true]⟩ : Prop)) ?_ ?_
          · refine iteO_e hv343 (fun hb344 hv343 => W_true rfl hb344 ?_) (fun hb344 hv343 => W_false rfl hb344 ?_)
            · refine W_region ?_
              refine WO_step 4 [0, 1, 2, 3] [3, 33, 34, 35, 36] True ⟨[(3, .one (.e (.sl 2 0 x133.length))), (33, .one (.e (.sl 2 0 x133.length))), (34, I i135), (35, .one (.e (.p 0 0))), (36, .one (.e (.sl 3 0 ([1001, (-1001)].length))))], [.cells [.sl 1 0 k2, cI (w64 ((w64 (i132 + 1)) + 1))], .row .u8 x1 false, .row .nod x133 true, .row .int [1001, (-1001)] true]⟩ (by kernel_rfl) trivial ?_
              refine bindO_e hv343 (fun v349 hc347 hv343 => ?_)
              obtain ⟨i345, i346⟩ := v349
              refine WO_call [.own 0, .ro 1, .ro 3] Try.f68 rfl rfl rfl (by kernel_rfl) rfl rfl (by kernel_rfl) (spec_reader_one_ok x1 k2 (w64 ((w64 (i132 + 1)) + 1)) [1001, (-1001)] i345 i346 hc347) (And.intro (trivial) (And.intro (And.intro rfl rfl) (And.intro (And.intro rfl rfl) (trivial)))) rfl ?_
              refine guardO_e hv343 (fun hg348 hv343 => ?_)
              refine WO_step 3 [0, 1, 2] [3] ((0 ≤ i135 ∧ i135 < ((x133.length : Nat) : Int)) ∧ (True ∧ True)) ⟨[(3, .one (.e (.sl 2 0 x133.length)))], [.cells [.sl 1 0 k2, cI i345], .row .u8 x1 false, .row .nod (x133.set i135.toNat (⟨(x133.getD i135.toNat dnod).parent, (x133.getD i135.toNat dnod).name, i346⟩ : Nod)) true]⟩ (by kernel_rfl) ⟨hg348, trivial, trivial⟩ ?_
              refine WO_eq (st' := ⟨[(3, .one (.e (.sl 2 0 ((x133.set i135.toNat (⟨(x133.getD i135.toNat dnod).parent, (x133.getD i135.toNat dnod).name, i346⟩ : Nod)).length))))], [.cells [.sl 1 0 k2, cI i345], .row .u8 x1 false, .row .nod (x133.set i135.toNat (⟨(x133.getD i135.toNat dnod).parent, (x133.getD i135.toNat dnod).name, i346⟩ : Nod)) true]⟩) (by simp only [List.length_set]) ?_
              refine WO_nil rfl ?_
              cases hv343
              exact And.intro rfl rfl
            · refine W_seq ?_
              refine W_region ?_
              refine WO_step 2 [0, 1, 2] [3, 12, 40] (True ∧ True) ⟨[(3, .one (.e (.sl 2 0 x133.length))), (12, I i137), (40, B (decide (i137 = 3)))], [.cells [.sl 1 0 k2, cI (w64 ((w64 (i132 + 1)) + 1))], .row .u8 x1 false, .row .nod x133 true]⟩ (by kernel_rfl) ⟨trivial, trivial⟩ ?_
              refine WO_nil rfl ?_
              refine thenS_n ?_
              refine bindO_e hv343 (fun v374 hv374 hv343 => ?_)
              refine W_cut (Q' := fun (e : Exit) (s : St) => (match v374 with | (x371, k372, k373) => e = .normal ∧ s = ⟨[(3, .one (.e (.sl 2 k372 k373)))], [.cells [.sl 1 0 k2, cI (w64 ((w64 (i132 + 1)) + 1))], .row .u8 x1 false, .row .nod x371 true]⟩ : Prop)) ?_ ?_
              · refine iteO_e hv374 (fun hb375 hv374 => W_true rfl hb375 ?_) (fun hb375 hv374 => W_false rfl hb375 ?_)
                · refine W_region ?_
                  refine guardO_e hv374 (fun hg376 hv374 => ?_)
                  refine WO_step 3 [0, 1, 2] [3] ((0 ≤ (1 : Int) ∧ (1 : Int) ≤ ((x133.length : Nat) : Int)) ∧ True) ⟨[(3, .one (.e (.sl 2 1 (x133.length - 1))))], [.cells [.sl 1 0 k2, cI (w64 ((w64 (i132 + 1)) + 1))], .row .u8 x1 false, .row .nod x133 true]⟩ (by kernel_rfl) ⟨hg376, trivial⟩ ?_
                  refine WO_nil rfl ?_
                  cases hv374
                  exact And.intro rfl rfl
                · refine W_seq ?_
                  refine W_region ?_
                  refine WO_step 2 [0, 1, 2] [3, 44] (True ∧ True) ⟨[(3, .one (.e (.sl 2 0 x133.length))), (44, B (decide (i137 = 4)))], [.cells [.sl 1 0 k2, cI (w64 ((w64 (i132 + 1)) + 1))], .row .u8 x1 false, .row .nod x133 true]⟩ (by kernel_rfl) ⟨trivial, trivial⟩ ?_
                  refine WO_nil rfl ?_
                  refine thenS_n ?_
                  refine bindO_e hv374 (fun x394 hx394 hv374 => ?_)
                  refine W_cut (Q' := fun (e : Exit) (s : St) => e = .normal ∧ s = ⟨[(3, .one (.e (.sl 2 0 x394.length)))], [.cells [.sl 1 0 k2, cI (w64 ((w64 (i132 + 1)) + 1))], .row .u8 x1 false, .row .nod x394 true]⟩) ?_ ?_
                  · refine iteO_e hx394 (fun hb396 hx394 => W_true rfl hb396 ?_) (fun hb396 hx394 => W_false rfl hb396 ?_)
                    · refine W_block ?_
                      refine W_sub [0, 1, 2] [3] (st' := ⟨[(3, .one (.e (.sl 2 0 x133.length)))], [.cells [.sl 1 0 k2, cI (w64 ((w64 (i132 + 1)) + 1))], .row .u8 x1 false, .row .nod x133 true]⟩) (by kernel_rfl) ?_
                      refine W_loop ?_
                      refine bindO_e hx394 (fun x411 hx411 hx394 => ?_)
                      refine WL_cut (spec_anyTree_L1_ok w X θ k2 i132 x1 x411 n x133 hx411) ?_
                      rintro _ _ ⟨rfl, rfl⟩
                      refine blockS_y ?_
                      cases hx394
                      exact And.intro rfl rfl
                    · refine W_sub [0, 1, 2] [3] (st' := ⟨[(3, .one (.e (.sl 2 0 x133.length)))], [.cells [.sl 1 0 k2, cI (w64 ((w64 (i132 + 1)) + 1))], .row .u8 x1 false, .row .nod x133 true]⟩) (by kernel_rfl) ?_
                      refine W_skip ?_
                      cases hx394
                      exact And.intro rfl rfl
                  · rintro _ _ ⟨rfl, rfl⟩
                    cases hv374
                    exact And.intro rfl rfl
              · obtain ⟨x371, k372, k373⟩ := v374
                rintro _ _ ⟨rfl, rfl⟩
                cases hv343
                exact And.intro rfl rfl
          · obtain ⟨i339, x340, k341, k342⟩ := v343
            rintro _ _ ⟨rfl, rfl⟩
            cases hv301
            exact And.intro rfl rfl
      · obtain ⟨i297, x298, k299, k300⟩ := v301
        rintro _ _ ⟨rfl, rfl⟩
        cases hv250
        exact And.intro rfl rfl
  · obtain ⟨i246, x247, k248, k249⟩ := v250
    rintro _ _ ⟨rfl, rfl⟩
    refine blockS_n ?_
    refine thenS_n ?_
    refine W_seq ?_
    refine W_region ?_
    refine WO_step 2 [0, 1, 2] [2] True ⟨[(2, .one (.e (.sl 2 k248 k249)))], [.cells [.sl 1 0 k2, cI i246], .row .u8 x1 false, .row .nod x247 true]⟩ (by kernel_rfl) trivial ?_
    refine WO_nil rfl ?_
    refine thenS_n ?_
    refine W_ret ?_
    cases h
    exact ⟨[0, 1, 2], True, by kernel_rfl, trivial⟩

/- spec.someLog -/
def spec_someLog_L1 (x4 : List Nod) (k2 : Nat) (x1 : List Int) : Nat → Int → (List Rcd) → Int → Option ((Int × (List Rcd)))
| 0, _, _, _ => none
| n + 1, i223, x224, i225 =>
 iteO (decide (0 < i225))
 (bindO (spec_reader_pick x1 k2 i223 3) fun i290 =>
 bindO (iteO (decide (i290 = 0))
 (bindO (spec_reader_pick x1 k2 (w64 (i223 + 1)) 4) fun i309 =>
 guardO (0 = 0 ∧ x224.length = x224.length ∧ x224.length + (([(⟨i309, 0, 0, true⟩ : Rcd)].drop 0).take ([(⟨i309, 0, 0, true⟩ : Rcd)].length)).length ≤ 1099511627776) <|
 some ((w64 ((w64 (i223 + 1)) + 1)), (x224 ++ (([(⟨i309, 0, 0, true⟩ : Rcd)].drop 0).take ([(⟨i309, 0, 0, true⟩ : Rcd)].length)))))
 (bindO (spec_reader_pick x1 k2 (w64 (i223 + 1)) 4) fun i312 =>
 bindO (spec_reader_pick x1 k2 (w64 ((w64 (i223 + 1)) + 1)) (if (if ((x4.length : Nat) : Int) < 4 then ((x4.length : Nat) : Int) else 4) > 1 then (if ((x4.length : Nat) : Int) < 4 then ((x4.length : Nat) : Int) else 4) else 1)) fun i314 =>
 bindO (spec_someValue x1 k2 (w64 ((w64 ((w64 (i223 + 1)) + 1)) + 1))) fun (i316, i317) =>
 guardO (0 = 0 ∧ x224.length = x224.length ∧ x224.length + (([(⟨i312, i314, i317, false⟩ : Rcd)].drop 0).take ([(⟨i312, i314, i317, false⟩ : Rcd)].length)).length ≤ 1099511627776) <|
 some (i316, (x224 ++ (([(⟨i312, i314, i317, false⟩ : Rcd)].drop 0).take ([(⟨i312, i314, i317, false⟩ : Rcd)].length)))))) fun v307 =>
 match v307 with
 | (i305, x306) => (spec_someLog_L1 x4 k2 x1 n i305 x306 (w64 (i225 - 1)))
)
 (some (i223, x224))

theorem spec_someLog_L1_ok (w : World) (X : Nat → Prop) (θ : List Loc) (x4 : List Nod) (k2 : Nat) (x1 : List Int) (v : (Int × (List Rcd))) : ∀ (n : Nat) (i223 : Int) (x224 : List Rcd) (i225 : Int), spec_someLog_L1 x4 k2 x1 n i223 x224 i225 = some v → WL EE ⟨w, X, θ, 66, 3⟩ (subC [1, 1, 0, 1, 4, 4] (bodyC Try.f60)) (fun (e : Exit) (s : St) => (match v with | (i267, x268) => e = .exit 0 ∧ s = ⟨[(0, .one (.e (.p 0 0))), (5, .one (.e (.sl 3 0 x268.length)))], [.cells [.sl 1 0 k2, cI i267], .row .u8 x1 false, .row .nod x4 false, .row .rcd x268 true]⟩ : Prop)) ⟨[(0, .one (.e (.p 0 0))), (1, .one (.e (.sl 2 0 x4.length))), (5, .one (.e (.sl 3 0 x224.length))), (6, I i225)], [.cells [.sl 1 0 k2, cI i223], .row .u8 x1 false, .row .nod x4 false, .row .rcd x224 true]⟩ := by
  intro n
  induction n with
  | zero => intro _ _ _ h; exact none_e h
  | succ n ih =>
    intro i223 x224 i225 h
    rw [spec_someLog_L1] at h
    refine WL_round ?_
    refine W_seq ?_
    refine W_seq ?_
    refine W_region ?_
    refine WO_step 2 [0, 1, 2, 3] [0, 1, 5, 6, 12] (True ∧ True) ⟨[(0, .one (.e (.p 0 0))), (1, .one (.e (.sl 2 0 x4.length))), (5, .one (.e (.sl 3 0 x224.length))), (6, I i225), (12, B (decide (0 < i225)))], [.cells [.sl 1 0 k2, cI i223], .row .u8 x1 false, .row .nod x4 false, .row .rcd x224 true]⟩ (by kernel_rfl) ⟨trivial, trivial⟩ ?_
    refine WO_nil rfl ?_
    refine thenS_n ?_
    refine iteO_e h (fun hb271 h => W_true rfl hb271 ?_) (fun hb271 h => W_false rfl hb271 ?_)
    · refine W_sub [0, 1, 2, 3] [0, 1, 5, 6] (st' := ⟨[(0, .one (.e (.p 0 0))), (1, .one (.e (.sl 2 0 x4.length))), (5, .one (.e (.sl 3 0 x224.length))), (6, I i225)], [.cells [.sl 1 0 k2, cI i223], .row .u8 x1 false, .row .nod x4 false, .row .rcd x224 true]⟩) (by kernel_rfl) ?_
      refine W_skip ?_
      refine thenS_n ?_
      refine W_seq ?_
      refine W_block ?_
      refine W_seq ?_
      refine W_region ?_
      refine WO_step 1 [0, 1, 2, 3] [0, 1, 5, 6, 15] True ⟨[(0, .one (.e (.p 0 0))), (1, .one (.e (.sl 2 0 x4.length))), (5, .one (.e (.sl 3 0 x224.length))), (6, I i225), (15, .one (.e (.p 0 0)))], [.cells [.sl 1 0 k2, cI i223], .row .u8 x1 false, .row .nod x4 false, .row .rcd x224 true]⟩ (by kernel_rfl) trivial ?_
      refine bindO_e h (fun i290 hc291 h => ?_)
      refine WO_call [.own 0, .ro 1] Try.f66 rfl rfl rfl (by kernel_rfl) rfl rfl (by kernel_rfl) (spec_reader_pick_ok x1 k2 i223 3 i290 hc291) (And.intro (trivial) (And.intro (And.intro rfl rfl) (trivial))) rfl ?_
      refine WO_step 1 [0, 1, 2, 3] [0, 1, 5, 6, 17] (True ∧ True) ⟨[(0, .one (.e (.p 0 0))), (1, .one (.e (.sl 2 0 x4.length))), (5, .one (.e (.sl 3 0 x224.length))), (6, I i225), (17, B (decide (i290 = 0)))], [.cells [.sl 1 0 k2, cI (w64 (i223 + 1))], .row .u8 x1 false, .row .nod x4 false, .row .rcd x224 true]⟩ (by kernel_rfl) ⟨trivial, trivial⟩ ?_
      refine WO_nil rfl ?_
      refine thenS_n ?_
      refine bindO_e h (fun v307 hv307 h => ?_)
      refine W_cut (Q' := fun (e : Exit) (s : St) => (match v307 with | (i305, x306) => e = .normal ∧ s = ⟨[(0, .one (.e (.p 0 0))), (1, .one (.e (.sl 2 0 x4.length))), (5, .one (.e (.sl 3 0 x306.length))), (6, I i225)], [.cells [.sl 1 0 k2, cI i305], .row .u8 x1 false, .row .nod x4 false, .row .rcd x306 true]⟩ : Prop)) ?_ ?_
      · refine iteO_e hv307 (fun hb308 hv307 => W_true rfl hb308 ?_) (fun hb308 hv307 => W_false rfl hb308 ?_)
        · refine W_region ?_
          refine WO_step 2 [0, 1, 2, 3] [0, 1, 6, 18, 19] True ⟨[(0, .one (.e (.p 0 0))), (1, .one (.e (.sl 2 0 x4.length))), (6, I i225), (18, .one (.e (.sl 3 0 x224.length))), (19, .one (.e (.p 0 0)))], [.cells [.sl 1 0 k2, cI (w64 (i223 + 1))], .row .u8 x1 false, .row .nod x4 false, .row .rcd x224 true]⟩ (by kernel_rfl) trivial ?_
          refine bindO_e hv307 (fun i309 hc310 hv307 => ?_)
          refine WO_call [.own 0, .ro 1] Try.f66 rfl rfl rfl (by kernel_rfl) rfl rfl (by kernel_rfl) (spec_reader_pick_ok x1 k2 (w64 (i223 + 1)) 4 i309 hc310) (And.intro (trivial) (And.intro (And.intro rfl rfl) (trivial))) rfl ?_
          refine guardO_e hv307 (fun hg311 hv307 => ?_)
          refine WO_step 4 [0, 1, 2, 5] [0, 1, 5, 6] ((0 = 0 ∧ x224.length = x224.length ∧ x224.length + (([(⟨i309, 0, 0, true⟩ : Rcd)].drop 0).take ([(⟨i309, 0, 0, true⟩ : Rcd)].length)).length ≤ 1099511627776) ∧ True) ⟨[(0, .one (.e (.p 0 0))), (1, .one (.e (.sl 2 0 x4.length))), (5, .one (.e (.sl 3 0 ((x224 ++ (([(⟨i309, 0, 0, true⟩ : Rcd)].drop 0).take ([(⟨i309, 0, 0, true⟩ : Rcd)].length))).length)))), (6, I i225)], [.cells [.sl 1 0 k2, cI (w64 ((w64 (i223 + 1)) + 1))], .row .u8 x1 false, .row .nod x4 false, .row .rcd (x224 ++ (([(⟨i309, 0, 0, true⟩ : Rcd)].drop 0).take ([(⟨i309, 0, 0, true⟩ : Rcd)].length))) true]⟩ (by kernel_rfl) ⟨hg311, trivial⟩ ?_
          refine WO_nil rfl ?_
          cases hv307
          exact And.intro rfl rfl
        · refine W_region ?_
          refine WO_step 2 [0, 1, 2, 3] [0, 1, 6, 24, 25] True ⟨[(0, .one (.e (.p 0 0))), (1, .one (.e (.sl 2 0 x4.length))), (6, I i225), (24, .one (.e (.sl 3 0 x224.length))), (25, .one (.e (.p 0 0)))], [.cells [.sl 1 0 k2, cI (w64 (i223 + 1))], .row .u8 x1 false, .row .nod x4 false, .row .rcd x224 true]⟩ (by kernel_rfl) trivial ?_
          refine bindO_e hv307 (fun i312 hc313 hv307 => ?_)
          refine WO_call [.own 0, .ro 1] Try.f66 rfl rfl rfl (by kernel_rfl) rfl rfl (by kernel_rfl) (spec_reader_pick_ok x1 k2 (w64 (i223 + 1)) 4 i312 hc313) (And.intro (trivial) (And.intro (And.intro rfl rfl) (trivial))) rfl ?_
          refine WO_step 5 [0, 1, 2, 3] [0, 1, 6, 24, 26, 27, 31] (True ∧ (True ∧ (True ∧ True))) ⟨[(0, .one (.e (.p 0 0))), (1, .one (.e (.sl 2 0 x4.length))), (6, I i225), (24, .one (.e (.sl 3 0 x224.length))), (26, I i312), (27, .one (.e (.p 0 0))), (31, I (if (if ((x4.length : Nat) : Int) < 4 then ((x4.length : Nat) : Int) else 4) > 1 then (if ((x4.length : Nat) : Int) < 4 then ((x4.length : Nat) : Int) else 4) else 1))], [.cells [.sl 1 0 k2, cI (w64 ((w64 (i223 + 1)) + 1))], .row .u8 x1 false, .row .nod x4 false, .row .rcd x224 true]⟩ (by kernel_rfl) ⟨trivial, trivial, trivial, trivial⟩ ?_
          refine bindO_e hv307 (fun i314 hc315 hv307 => ?_)
          refine WO_call [.own 0, .ro 1] Try.f66 rfl rfl rfl (by kernel_rfl) rfl rfl (by kernel_rfl) (spec_reader_pick_ok x1 k2 (w64 ((w64 (i223 + 1)) + 1)) (if (if ((x4.length : Nat) : Int) < 4 then ((x4.length : Nat) : Int) else 4) > 1 then (if ((x4.length : Nat) : Int) < 4 then ((x4.length : Nat) : Int) else 4) else 1) i314 hc315) (And.intro (trivial) (And.intro (And.intro rfl rfl) (trivial))) rfl ?_
          refine WO_step 1 [0, 1, 2, 3] [0, 1, 6, 24, 26, 32, 33] True ⟨[(0, .one (.e (.p 0 0))), (1, .one (.e (.sl 2 0 x4.length))), (6, I i225), (24, .one (.e (.sl 3 0 x224.length))), (26, I i312), (32, I i314), (33, .one (.e (.p 0 0)))], [.cells [.sl 1 0 k2, cI (w64 ((w64 ((w64 (i223 + 1)) + 1)) + 1))], .row .u8 x1 false, .row .nod x4 false, .row .rcd x224 true]⟩ (by kernel_rfl) trivial ?_
          refine bindO_e hv307 (fun v320 hc318 hv307 => ?_)
          obtain ⟨i316, i317⟩ := v320
          refine WO_call [.own 0, .ro 1] Try.f69 rfl rfl rfl (by kernel_rfl) rfl rfl (by kernel_rfl) (spec_someValue_ok x1 k2 (w64 ((w64 ((w64 (i223 + 1)) + 1)) + 1)) i316 i317 hc318) (And.intro (trivial) (And.intro (And.intro rfl rfl) (trivial))) rfl ?_
          refine guardO_e hv307 (fun hg319 hv307 => ?_)
          refine WO_step 4 [0, 1, 2, 5] [0, 1, 5, 6] ((0 = 0 ∧ x224.length = x224.length ∧ x224.length + (([(⟨i312, i314, i317, false⟩ : Rcd)].drop 0).take ([(⟨i312, i314, i317, false⟩ : Rcd)].length)).length ≤ 1099511627776) ∧ True) ⟨[(0, .one (.e (.p 0 0))), (1, .one (.e (.sl 2 0 x4.length))), (5, .one (.e (.sl 3 0 ((x224 ++ (([(⟨i312, i314, i317, false⟩ : Rcd)].drop 0).take ([(⟨i312, i314, i317, false⟩ : Rcd)].length))).length)))), (6, I i225)], [.cells [.sl 1 0 k2, cI i316], .row .u8 x1 false, .row .nod x4 false, .row .rcd (x224 ++ (([(⟨i312, i314, i317, false⟩ : Rcd)].drop 0).take ([(⟨i312, i314, i317, false⟩ : Rcd)].length))) true]⟩ (by kernel_rfl) ⟨hg319, trivial⟩ ?_
          refine WO_nil rfl ?_
          cases hv307
          exact And.intro rfl rfl
      · obtain ⟨i305, x306⟩ := v307
        rintro _ _ ⟨rfl, rfl⟩
        refine blockS_n ?_
        refine thenS_n ?_
        refine W_region ?_
        refine WO_step 3 [0, 1, 2, 3] [0, 1, 5, 6] (True ∧ True) ⟨[(0, .one (.e (.p 0 0))), (1, .one (.e (.sl 2 0 x4.length))), (5, .one (.e (.sl 3 0 x306.length))), (6, I (w64 (i225 - 1)))], [.cells [.sl 1 0 k2, cI i305], .row .u8 x1 false, .row .nod x4 false, .row .rcd x306 true]⟩ (by kernel_rfl) ⟨trivial, trivial⟩ ?_
        refine WO_nil rfl ?_
        refine thenS_n ?_
        exact ih _ _ _ h
    · refine W_sub [0, 1, 2, 3] [0, 5] (st' := ⟨[(0, .one (.e (.p 0 0))), (5, .one (.e (.sl 3 0 x224.length)))], [.cells [.sl 1 0 k2, cI i223], .row .u8 x1 false, .row .nod x4 false, .row .rcd x224 true]⟩) (by kernel_rfl) ?_
      refine W_exit ?_
      refine thenS_e ?_
      refine thenS_e ?_
      cases h
      exact And.intro rfl rfl

def spec_someLog (n : Nat) (x1 : List Int) (k2 : Nat) (i3 : Int) (x4 : List Nod) : Option (Int × (List Rcd)) :=
 bindO (spec_reader_one x1 k2 i3 [6, 8, 4, 12, 1, 0, 16, 17]) fun (i173, i174) =>
 bindO (spec_someLog_L1 x4 k2 x1 n i173 ([] : List Rcd) i174) fun v321 =>
 match v321 with
 | (i267, x268) => (bindO (iteO (decide (0 < ((x268.length : Nat) : Int)))
 (bindO (spec_reader_pick x1 k2 i267 16) fun i329 =>
 some ((w64 (i267 + 1)), (decide (i329 = 0))))
 (some (i267, false))) fun (i325, b326) =>
 bindO (iteO b326
 (bindO (spec_reader_pick x1 k2 i325 ((x268.length : Nat) : Int)) fun i353 =>
 bindO (spec_reader_one x1 k2 (w64 (i325 + 1)) [4, 0]) fun (i355, i356) =>
 bindO (spec_reader_one x1 k2 i355 [12, 1]) fun (i358, i359) =>
 bindO (spec_reader_one x1 k2 i358 [1001, 1]) fun (i361, i362) =>
 bindO (spec_reader_pick x1 k2 i361 2) fun i364 =>
 guardO (0 ≤ i353 ∧ i353 < ((x268.length : Nat) : Int)) <|
 some ((w64 (i361 + 1)), (x268.set i353.toNat (⟨i356, i359, i362, (decide (i364 = 0))⟩ : Rcd))))
 (some (i325, x268))) fun v351 =>
 match v351 with
 | (i349, x350) => (some (i349, x350)))


theorem spec_someLog_ok (n : Nat) (x1 : List Int) (k2 : Nat) (i3 : Int) (x4 : List Nod) (i171 : Int) (x172 : List Rcd) (h : spec_someLog n x1 k2 i3 x4 = some (i171, x172)) : FOk EE 60 [.one (.e (.p 0 0)), .one (.e (.sl 2 0 x4.length))] [.cells [.sl 1 0 k2, cI i3], .row .u8 x1 false, .row .nod x4 false] (.one (.e (.sl 3 0 x172.length))) [.cells [.sl 1 0 k2, cI i171], .row .u8 x1 false, .row .nod x4 false, .row .rcd x172 true] := by
  unfold spec_someLog at h
  refine FOk_of_W 66 3 Try.func60 rfl rfl (Nat.le_of_ble_eq_true rfl) rfl (fun w X θ => ?_)
  refine W_seq ?_
  refine W_region ?_
  refine WO_step 1 [0, 1, 2] [0, 1] True ⟨[(0, .one (.e (.p 0 0))), (1, .one (.e (.sl 2 0 x4.length)))], [.cells [.sl 1 0 k2, cI i3], .row .u8 x1 false, .row .nod x4 false]⟩ (by kernel_rfl) trivial ?_
  refine WO_nil rfl ?_
  refine thenS_n ?_
  refine W_seq ?_
  refine W_region ?_
  refine WO_step 2 [0, 1, 2, 3] [0, 1, 5] True ⟨[(0, .one (.e (.p 0 0))), (1, .one (.e (.sl 2 0 x4.length))), (5, .one (.e (.sl 3 0 (([] : List Rcd).length))))], [.cells [.sl 1 0 k2, cI i3], .row .u8 x1 false, .row .nod x4 false, .row .rcd ([] : List Rcd) true]⟩ (by kernel_rfl) trivial ?_
  refine WO_nil rfl ?_
  refine thenS_n ?_
  refine W_seq ?_
  refine W_seq ?_
  refine W_region ?_
  refine WO_step 2 [0, 1, 2, 3, 4] [0, 1, 5, 8, 9] True ⟨[(0, .one (.e (.p 0 0))), (1, .one (.e (.sl 2 0 x4.length))), (5, .one (.e (.sl 3 0 (([] : List Rcd).length)))), (8, .one (.e (.p 0 0))), (9, .one (.e (.sl 4 0 ([6, 8, 4, 12, 1, 0, 16, 17].length))))], [.cells [.sl 1 0 k2, cI i3], .row .u8 x1 false, .row .nod x4 false, .row .rcd ([] : List Rcd) true, .row .int [6, 8, 4, 12, 1, 0, 16, 17] true]⟩ (by kernel_rfl) trivial ?_
  refine bindO_e h (fun v370 hc175 h => ?_)
  obtain ⟨i173, i174⟩ := v370
  refine WO_call [.own 0, .ro 1, .ro 4] Try.f68 rfl rfl rfl (by kernel_rfl) rfl rfl (by kernel_rfl) (spec_reader_one_ok x1 k2 i3 [6, 8, 4, 12, 1, 0, 16, 17] i173 i174 hc175) (And.intro (trivial) (And.intro (And.intro rfl rfl) (And.intro (And.intro rfl rfl) (trivial)))) rfl ?_
  refine WO_step 1 [0, 1, 2, 3] [0, 1, 5, 6] True ⟨[(0, .one (.e (.p 0 0))), (1, .one (.e (.sl 2 0 x4.length))), (5, .one (.e (.sl 3 0 (([] : List Rcd).length)))), (6, I i174)], [.cells [.sl 1 0 k2, cI i173], .row .u8 x1 false, .row .nod x4 false, .row .rcd ([] : List Rcd) true]⟩ (by kernel_rfl) trivial ?_
  refine WO_nil rfl ?_
  refine thenS_n ?_
  refine W_block ?_
  refine W_loop ?_
  refine bindO_e h (fun v321 hv321 h => ?_)
  refine WL_cut (spec_someLog_L1_ok w X θ x4 k2 x1 v321 n i173 ([] : List Rcd) i174 hv321) ?_
  obtain ⟨i267, x268⟩ := v321
  rintro _ _ ⟨rfl, rfl⟩
  refine blockS_y ?_
  refine thenS_n ?_
  refine W_seq ?_
  refine W_seq ?_
  refine W_region ?_
  refine WO_step 4 [0, 1, 2, 3] [0, 5, 41] (True ∧ (True ∧ True)) ⟨[(0, .one (.e (.p 0 0))), (5, .one (.e (.sl 3 0 x268.length))), (41, B (decide (0 < ((x268.length : Nat) : Int))))], [.cells [.sl 1 0 k2, cI i267], .row .u8 x1 false, .row .nod x4 false, .row .rcd x268 true]⟩ (by kernel_rfl) ⟨trivial, trivial, trivial⟩ ?_
  refine bindO_e h (fun v327 hv327 h => ?_)
  obtain ⟨i325, b326⟩ := v327
  refine WO_thru ⟨[(0, .one (.e (.p 0 0))), (5, .one (.e (.sl 3 0 x268.length))), (45, B b326)], [.cells [.sl 1 0 k2, cI i325], .row .u8 x1 false, .row .nod x4 false, .row .rcd x268 true]⟩ ?_ ?_
  · refine iteO_e hv327 (fun hb328 hv327 => WO_known 41 true rfl hb328 ?_) (fun hb328 hv327 => WO_known 41 false rfl hb328 ?_)
    · refine WO_step 1 [0, 1, 2, 3] [0, 5, 41, 42] True ⟨[(0, .one (.e (.p 0 0))), (5, .one (.e (.sl 3 0 x268.length))), (41, B true), (42, .one (.e (.p 0 0)))], [.cells [.sl 1 0 k2, cI i267], .row .u8 x1 false, .row .nod x4 false, .row .rcd x268 true]⟩ (by kernel_rfl) trivial ?_
      refine bindO_e hv327 (fun i329 hc330 hv327 => ?_)
      refine WO_call [.own 0, .ro 1] Try.f66 rfl rfl rfl (by kernel_rfl) rfl rfl (by kernel_rfl) (spec_reader_pick_ok x1 k2 i267 16 i329 hc330) (And.intro (trivial) (And.intro (And.intro rfl rfl) (trivial))) rfl ?_
      refine WO_step 2 [0, 1, 2, 3] [0, 5, 45] (True ∧ True) ⟨[(0, .one (.e (.p 0 0))), (5, .one (.e (.sl 3 0 x268.length))), (45, B (decide (i329 = 0)))], [.cells [.sl 1 0 k2, cI (w64 (i267 + 1))], .row .u8 x1 false, .row .nod x4 false, .row .rcd x268 true]⟩ (by kernel_rfl) ⟨trivial, trivial⟩ ?_
      cases hv327
      exact WO_nil rfl ⟨rfl, rfl⟩
    · refine WO_step 4 [0, 1, 2, 3] [0, 5, 45] True ⟨[(0, .one (.e (.p 0 0))), (5, .one (.e (.sl 3 0 x268.length))), (45, B false)], [.cells [.sl 1 0 k2, cI i267], .row .u8 x1 false, .row .nod x4 false, .row .rcd x268 true]⟩ (by kernel_rfl) trivial ?_
      cases hv327
      exact WO_nil rfl ⟨rfl, rfl⟩
  · refine thenS_n ?_
    refine bindO_e h (fun v351 hv351 h => ?_)
    refine W_cut (Q' := fun (e : Exit) (s : St) => (match v351 with | (i349, x350) => e = .normal ∧ s = ⟨[(5, .one (.e (.sl 3 0 x350.length)))], [.cells [.sl 1 0 k2, cI i349], .row .u8 x1 false, .row .nod x4 false, .row .rcd x350 true]⟩ : Prop)) ?_ ?_
    · refine iteO_e hv351 (fun hb352 hv351 => W_true rfl hb352 ?_) (fun hb352 hv351 => W_false rfl hb352 ?_)
      · refine W_region ?_
        refine WO_step 4 [0, 1, 2, 3] [0, 5, 46, 47, 49] (True ∧ True) ⟨[(0, .one (.e (.p 0 0))), (5, .one (.e (.sl 3 0 x268.length))), (46, .one (.e (.sl 3 0 x268.length))), (47, .one (.e (.p 0 0))), (49, I ((x268.length : Nat) : Int))], [.cells [.sl 1 0 k2, cI i325], .row .u8 x1 false, .row .nod x4 false, .row .rcd x268 true]⟩ (by kernel_rfl) ⟨trivial, trivial⟩ ?_
        refine bindO_e hv351 (fun i353 hc354 hv351 => ?_)
        refine WO_call [.own 0, .ro 1] Try.f66 rfl rfl rfl (by kernel_rfl) rfl rfl (by kernel_rfl) (spec_reader_pick_ok x1 k2 i325 ((x268.length : Nat) : Int) i353 hc354) (And.intro (trivial) (And.intro (And.intro rfl rfl) (trivial))) rfl ?_
        refine WO_step 2 [0, 1, 2, 3, 4] [0, 5, 46, 50, 51, 52] True ⟨[(0, .one (.e (.p 0 0))), (5, .one (.e (.sl 3 0 x268.length))), (46, .one (.e (.sl 3 0 x268.length))), (50, I i353), (51, .one (.e (.p 0 0))), (52, .one (.e (.sl 4 0 ([4, 0].length))))], [.cells [.sl 1 0 k2, cI (w64 (i325 + 1))], .row .u8 x1 false, .row .nod x4 false, .row .rcd x268 true, .row .int [4, 0] true]⟩ (by kernel_rfl) trivial ?_
        refine bindO_e hv351 (fun v369 hc357 hv351 => ?_)
        obtain ⟨i355, i356⟩ := v369
        refine WO_call [.own 0, .ro 1, .ro 4] Try.f68 rfl rfl rfl (by kernel_rfl) rfl rfl (by kernel_rfl) (spec_reader_one_ok x1 k2 (w64 (i325 + 1)) [4, 0] i355 i356 hc357) (And.intro (trivial) (And.intro (And.intro rfl rfl) (And.intro (And.intro rfl rfl) (trivial)))) rfl ?_
        refine WO_step 2 [0, 1, 2, 3, 5] [0, 5, 46, 50, 53, 54, 55] True ⟨[(0, .one (.e (.p 0 0))), (5, .one (.e (.sl 3 0 x268.length))), (46, .one (.e (.sl 3 0 x268.length))), (50, I i353), (53, I i356), (54, .one (.e (.p 0 0))), (55, .one (.e (.sl 4 0 ([12, 1].length))))], [.cells [.sl 1 0 k2, cI i355], .row .u8 x1 false, .row .nod x4 false, .row .rcd x268 true, .row .int [12, 1] true]⟩ (by kernel_rfl) trivial ?_
        refine bindO_e hv351 (fun v368 hc360 hv351 => ?_)
        obtain ⟨i358, i359⟩ := v368
        refine WO_call [.own 0, .ro 1, .ro 4] Try.f68 rfl rfl rfl (by kernel_rfl) rfl rfl (by kernel_rfl) (spec_reader_one_ok x1 k2 i355 [12, 1] i358 i359 hc360) (And.intro (trivial) (And.intro (And.intro rfl rfl) (And.intro (And.intro rfl rfl) (trivial)))) rfl ?_
        refine WO_step 2 [0, 1, 2, 3, 5] [0, 5, 46, 50, 53, 56, 57, 58] True ⟨[(0, .one (.e (.p 0 0))), (5, .one (.e (.sl 3 0 x268.length))), (46, .one (.e (.sl 3 0 x268.length))), (50, I i353), (53, I i356), (56, I i359), (57, .one (.e (.p 0 0))), (58, .one (.e (.sl 4 0 ([1001, 1].length))))], [.cells [.sl 1 0 k2, cI i358], .row .u8 x1 false, .row .nod x4 false, .row .rcd x268 true, .row .int [1001, 1] true]⟩ (by kernel_rfl) trivial ?_
        refine bindO_e hv351 (fun v367 hc363 hv351 => ?_)
        obtain ⟨i361, i362⟩ := v367
        refine WO_call [.own 0, .ro 1, .ro 4] Try.f68 rfl rfl rfl (by kernel_rfl) rfl rfl (by kernel_rfl) (spec_reader_one_ok x1 k2 i358 [1001, 1] i361 i362 hc363) (And.intro (trivial) (And.intro (And.intro rfl rfl) (And.intro (And.intro rfl rfl) (trivial)))) rfl ?_
        refine WO_step 1 [0, 1, 2, 3] [5, 46, 50, 53, 56, 59, 60] True ⟨[(5, .one (.e (.sl 3 0 x268.length))), (46, .one (.e (.sl 3 0 x268.length))), (50, I i353), (53, I i356), (56, I i359), (59, I i362), (60, .one (.e (.p 0 0)))], [.cells [.sl 1 0 k2, cI i361], .row .u8 x1 false, .row .nod x4 false, .row .rcd x268 true]⟩ (by kernel_rfl) trivial ?_
        refine bindO_e hv351 (fun i364 hc365 hv351 => ?_)
        refine WO_call [.own 0, .ro 1] Try.f66 rfl rfl rfl (by kernel_rfl) rfl rfl (by kernel_rfl) (spec_reader_pick_ok x1 k2 i361 2 i364 hc365) (And.intro (trivial) (And.intro (And.intro rfl rfl) (trivial))) rfl ?_
        refine guardO_e hv351 (fun hg366 hv351 => ?_)
        refine WO_step 4 [0, 1, 2, 3] [5] (True ∧ ((0 ≤ i353 ∧ i353 < ((x268.length : Nat) : Int)) ∧ (True ∧ True))) ⟨[(5, .one (.e (.sl 3 0 x268.length)))], [.cells [.sl 1 0 k2, cI (w64 (i361 + 1))], .row .u8 x1 false, .row .nod x4 false, .row .rcd (x268.set i353.toNat (⟨i356, i359, i362, (decide (i364 = 0))⟩ : Rcd)) true]⟩ (by kernel_rfl) ⟨trivial, hg366, trivial, trivial⟩ ?_
        refine WO_eq (st' := ⟨[(5, .one (.e (.sl 3 0 ((x268.set i353.toNat (⟨i356, i359, i362, (decide (i364 = 0))⟩ : Rcd)).length))))], [.cells [.sl 1 0 k2, cI (w64 (i361 + 1))], .row .u8 x1 false, .row .nod x4 false, .row .rcd (x268.set i353.toNat (⟨i356, i359, i362, (decide (i364 = 0))⟩ : Rcd)) true]⟩) (by simp only [List.length_set]) ?_
        refine WO_nil rfl ?_
        cases hv351
        exact And.intro rfl rfl
      · refine W_sub [0, 1, 2, 3] [5] (st' := ⟨[(5, .one (.e (.sl 3 0 x268.length)))], [.cells [.sl 1 0 k2, cI i325], .row .u8 x1 false, .row .nod x4 false, .row .rcd x268 true]⟩) (by kernel_rfl) ?_
        refine W_skip ?_
        cases hv351
        exact And.intro rfl rfl
    · obtain ⟨i349, x350⟩ := v351
      rintro _ _ ⟨rfl, rfl⟩
      refine thenS_n ?_
      refine W_seq ?_
      refine W_region ?_
      refine WO_step 2 [0, 1, 2, 3] [4] True ⟨[(4, .one (.e (.sl 3 0 x350.length)))], [.cells [.sl 1 0 k2, cI i349], .row .u8 x1 false, .row .nod x4 false, .row .rcd x350 true]⟩ (by kernel_rfl) trivial ?_
      refine WO_nil rfl ?_
      refine thenS_n ?_
      refine W_ret ?_
      cases h
      exact ⟨[0, 1, 2, 3], True, by kernel_rfl, trivial⟩

/- spec.DrawValidLog -/
def spec_DrawValidLog (n : Nat) (x1 : List Int) : Option ((List Nod) × (List Rcd) × Nat × Nat) :=
 bindO (spec_newReader x1) fun k18 =>
 bindO (spec_anyTree n x1 k18 0) fun (i20, x21, k22, k23) =>
 bindO (spec_someLog n x1 k18 i20 ((x21.drop k22).take k23)) fun (i25, x26) =>
 some (x21, x26, k22, k23)

theorem spec_DrawValidLog_ok (n : Nat) (x1 : List Int) (x14 : List Nod) (x15 : List Rcd) (k16 : Nat) (k17 : Nat) (h : spec_DrawValidLog n x1 = some (x14, x15, k16, k17)) : FOk EE 39 [.one (.e (.sl 0 0 x1.length))] [.row .u8 x1 false] (.tup [.e (.sl 1 k16 k17), .e (.sl 2 0 x15.length)]) [.row .u8 x1 false, .row .nod x14 true, .row .rcd x15 true] := by
  unfold spec_DrawValidLog at h
  refine FOk_of_W 14 1 Try.func39 rfl rfl (Nat.le_of_ble_eq_true rfl) rfl (fun w X θ => ?_)
  refine W_seq ?_
  refine W_region ?_
  refine WO_step 2 [0] [0] True ⟨[(0, .one (.e (.sl 0 0 x1.length)))], [.row .u8 x1 false]⟩ (by kernel_rfl) trivial ?_
  refine WO_nil rfl ?_
  refine thenS_n ?_
  refine W_seq ?_
  refine W_region ?_
  refine WO_step 1 [0] [6] True ⟨[(6, .one (.e (.sl 0 0 x1.length)))], [.row .u8 x1 false]⟩ (by kernel_rfl) trivial ?_
  refine bindO_e h (fun k18 hc19 h => ?_)
  refine WO_call [.ro 0] Try.f58 rfl rfl rfl (by kernel_rfl) rfl rfl (by kernel_rfl) (spec_newReader_ok x1 k18 hc19) (And.intro (And.intro rfl rfl) (trivial)) rfl ?_
  refine WO_step 1 [0, 1] [4] True ⟨[(4, .one (.e (.p 1 0)))], [.row .u8 x1 false, .cells [.sl 0 0 k18, cI 0]]⟩ (by kernel_rfl) trivial ?_
  refine WO_nil rfl ?_
  refine thenS_n ?_
  refine W_seq ?_
  refine W_region ?_
  refine WO_step 1 [0, 1] [4, 8] True ⟨[(4, .one (.e (.p 1 0))), (8, .one (.e (.p 1 0)))], [.row .u8 x1 false, .cells [.sl 0 0 k18, cI 0]]⟩ (by kernel_rfl) trivial ?_
  refine bindO_e h (fun v29 hc24 h => ?_)
  obtain ⟨i20, x21, k22, k23⟩ := v29
  refine WO_call [.own 1, .ro 0] Try.f59 rfl rfl rfl (by kernel_rfl) rfl rfl (by kernel_rfl) (spec_anyTree_ok n x1 k18 0 i20 x21 k22 k23 hc24) (And.intro (trivial) (And.intro (And.intro rfl rfl) (trivial))) rfl ?_
  refine WO_step 1 [0, 1, 2] [4, 5] True ⟨[(4, .one (.e (.p 1 0))), (5, .one (.e (.sl 2 k22 k23)))], [.row .u8 x1 false, .cells [.sl 0 0 k18, cI i20], .row .nod x21 true]⟩ (by kernel_rfl) trivial ?_
  refine WO_nil rfl ?_
  refine thenS_n ?_
  refine W_seq ?_
  refine W_region ?_
  refine WO_step 3 [0, 2, 1] [10, 11, 12] True ⟨[(10, .one (.e (.sl 1 k22 k23))), (11, .one (.e (.p 2 0))), (12, .one (.e (.sl 1 k22 k23)))], [.row .u8 x1 false, .row .nod x21 true, .cells [.sl 0 0 k18, cI i20]]⟩ (by kernel_rfl) trivial ?_
  refine bindO_e h (fun v28 hc27 h => ?_)
  obtain ⟨i25, x26⟩ := v28
  refine WO_call [.own 2, .ro 0, .view 1] Try.f60 rfl rfl rfl (by kernel_rfl) rfl rfl (by kernel_rfl) (spec_someLog_ok n x1 k18 i20 ((x21.drop k22).take k23) i25 x26 hc27) (And.intro (trivial) (And.intro (And.intro rfl rfl) (trivial))) rfl ?_
  refine WO_step 2 [0, 1, 3] [2, 3] True ⟨[(2, .one (.e (.sl 1 k22 k23))), (3, .one (.e (.sl 2 0 x26.length)))], [.row .u8 x1 false, .row .nod x21 true, .row .rcd x26 true]⟩ (by kernel_rfl) trivial ?_
  refine WO_nil rfl ?_
  refine thenS_n ?_
  refine W_ret ?_
  cases h
  exact ⟨[0, 1, 2], True, by kernel_rfl, trivial⟩

/- spec.DrawShortLog -/
def spec_DrawShortLog (n : Nat) (x1 : List Int) : Option ((List Nod) × (List Rcd) × Nat × Nat) :=
 bindO (spec_DrawValidLog n x1) fun (x12, x13, k14, k15) =>
 some (x12, x13, k14, k15)

theorem spec_DrawShortLog_ok (n : Nat) (x1 : List Int) (x8 : List Nod) (x9 : List Rcd) (k10 : Nat) (k11 : Nat) (h : spec_DrawShortLog n x1 = some (x8, x9, k10, k11)) : FOk EE 22 [.one (.e (.sl 0 0 x1.length))] [.row .u8 x1 false] (.tup [.e (.sl 1 k10 k11), .e (.sl 2 0 x9.length)]) [.row .u8 x1 false, .row .nod x8 true, .row .rcd x9 true] := by
  unfold spec_DrawShortLog at h
  refine FOk_of_W 8 1 Try.func22 rfl rfl (Nat.le_of_ble_eq_true rfl) rfl (fun w X θ => ?_)
  refine W_seq ?_
  refine W_region ?_
  refine WO_step 2 [0] [0] True ⟨[(0, .one (.e (.sl 0 0 x1.length)))], [.row .u8 x1 false]⟩ (by kernel_rfl) trivial ?_
  refine WO_nil rfl ?_
  refine thenS_n ?_
  refine W_seq ?_
  refine W_region ?_
  refine WO_step 1 [0] [4] True ⟨[(4, .one (.e (.sl 0 0 x1.length)))], [.row .u8 x1 false]⟩ (by kernel_rfl) trivial ?_
  refine bindO_e h (fun v17 hc16 h => ?_)
  obtain ⟨x12, x13, k14, k15⟩ := v17
  refine WO_call [.ro 0] Try.f39 rfl rfl rfl (by kernel_rfl) rfl rfl (by kernel_rfl) (spec_DrawValidLog_ok n x1 x12 x13 k14 k15 hc16) (And.intro (And.intro rfl rfl) (trivial)) rfl ?_
  refine WO_step 4 [0, 1, 2] [2, 3] True ⟨[(2, .one (.e (.sl 1 k14 k15))), (3, .one (.e (.sl 2 0 x13.length)))], [.row .u8 x1 false, .row .nod x12 true, .row .rcd x13 true]⟩ (by kernel_rfl) trivial ?_
  refine WO_nil rfl ?_
  refine thenS_n ?_
  refine W_ret ?_
  cases h
  exact ⟨[0, 1, 2], True, by kernel_rfl, trivial⟩

/- impl.within -/
def impl_within (i1 : Int) (i2 : Int) (i3 : Int) : Bool :=
((decide (i2 ≤ i1)) && (decide (i1 ≤ i3)))

theorem impl_within_ok (i1 : Int) (i2 : Int) (i3 : Int) : FOk EE 46 [I i1, I i2, I i3] [] (B (impl_within i1 i2 i3)) [] := by
  refine FOk_of_W 15 0 Try.func46 rfl rfl (Nat.le_of_ble_eq_true rfl) rfl (fun w X θ => ?_)
  refine W_seq ?_
  refine W_region ?_
  refine WO_step 1 [] [0, 1, 2] True ⟨[(0, I i1), (1, I i2), (2, I i3)], []⟩ (by kernel_rfl) trivial ?_
  refine WO_nil rfl ?_
  refine thenS_n ?_
  refine W_seq ?_
  refine W_region ?_
  refine WO_step 4 [] [0, 2, 10] (True ∧ True) ⟨[(0, I i1), (2, I i3), (10, B (decide (i2 ≤ i1)))], []⟩ (by kernel_rfl) ⟨trivial, trivial⟩ ?_
  refine WO_thru ⟨[(6, B ((decide (i2 ≤ i1)) && (decide (i1 ≤ i3))))], []⟩ ?_ ?_
  · refine WO_if 10 rfl (fun hb10 => ?_) (fun hb10 => ?_)
    · refine WO_step 5 [] [6] (True ∧ True) ⟨[(6, B (decide (i1 ≤ i3)))], []⟩ (by kernel_rfl) ⟨trivial, trivial⟩ ?_
      exact WO_nil rfl ⟨rfl, by first | rfl | (rw [hb10]; first | done | rfl)⟩
    · refine WO_step 5 [] [6] True ⟨[(6, B false)], []⟩ (by kernel_rfl) trivial ?_
      exact WO_nil rfl ⟨rfl, by first | rfl | (rw [hb10]; first | done | rfl)⟩
  · refine thenS_n ?_
    refine W_ret ?_
    exact ⟨[], True, by kernel_rfl, trivial⟩

/- impl.isName -/
def impl_isName_L1 (s1 : Str) : Nat → Int → Option ((Unit) ⊕ (Unit))
| 0, _ => none
| n + 1, i96 =>
 iteO (decide (i96 < ((s1.length : Nat) : Int)))
 (guardO (0 ≤ i96 ∧ i96 < ((s1.length : Nat) : Int)) <|
 bindO (iteO (decide (((s1.getD i96.toNat 0).toNat : Int) < 97))
 (some true)
 (guardO (0 ≤ i96 ∧ i96 < ((s1.length : Nat) : Int)) <|
 some (decide (122 < ((s1.getD i96.toNat 0).toNat : Int))))) fun b133 =>
 iteO b133
 (some (.inl ()))
 (impl_isName_L1 s1 n (w64 (i96 + 1))))
 (some (.inr ()))

theorem impl_isName_L1_ok (w : World) (X : Nat → Prop) (θ : List Loc) (s1 : Str) (v : (Unit) ⊕ (Unit)) : ∀ (n : Nat) (i96 : Int), impl_isName_L1 s1 n i96 = some v → WL EE ⟨w, X, θ, 24, 0⟩ (subC [1, 1, 0, 1, 4, 4] (bodyC Try.f63)) (fun (e : Exit) (s : St) => (match v with | (.inl _) => e = .ret ∧ s = ⟨[(2, B false)], []⟩ | (.inr _) => e = .exit 0 ∧ s = ⟨[], []⟩ : Prop)) ⟨[(0, S s1), (9, I ((s1.length : Nat) : Int)), (10, I i96)], []⟩ := by
  intro n
  induction n with
  | zero => intro _ h; exact none_e h
  | succ n ih =>
    intro i96 h
    rw [impl_isName_L1] at h
    refine WL_round ?_
    refine W_seq ?_
    refine W_region ?_
    refine WO_step 1 [] [0, 9, 10, 11] (True ∧ True) ⟨[(0, S s1), (9, I ((s1.length : Nat) : Int)), (10, I i96), (11, B (decide (i96 < ((s1.length : Nat) : Int))))], []⟩ (by kernel_rfl) ⟨trivial, trivial⟩ ?_
    refine WO_nil rfl ?_
    refine thenS_n ?_
    refine W_seq ?_
    refine iteO_e h (fun hb120 h => W_true rfl hb120 ?_) (fun hb120 h => W_false rfl hb120 ?_)
    · refine W_sub [] [0, 9, 10] (st' := ⟨[(0, S s1), (9, I ((s1.length : Nat) : Int)), (10, I i96)], []⟩) (by kernel_rfl) ?_
      refine W_skip ?_
      refine thenS_n ?_
      refine W_seq ?_
      refine W_block ?_
      refine W_seq ?_
      refine W_region ?_
      refine WO_step 2 [] [0, 3, 9, 10] True ⟨[(0, S s1), (3, I i96), (9, I ((s1.length : Nat) : Int)), (10, I i96)], []⟩ (by kernel_rfl) trivial ?_
      refine WO_nil rfl ?_
      refine thenS_n ?_
      refine W_seq ?_
      refine W_region ?_
      refine guardO_e h (fun hg130 h => ?_)
      refine WO_step 5 [] [0, 3, 9, 10, 17] ((0 ≤ i96 ∧ i96 < ((s1.length : Nat) : Int)) ∧ (True ∧ True)) ⟨[(0, S s1), (3, I i96), (9, I ((s1.length : Nat) : Int)), (10, I i96), (17, B (decide (((s1.getD i96.toNat 0).toNat : Int) < 97)))], []⟩ (by kernel_rfl) ⟨hg130, trivial, trivial⟩ ?_
      refine bindO_e h (fun b133 hv134 h => ?_)
      refine WO_thru ⟨[(0, S s1), (9, I ((s1.length : Nat) : Int)), (10, I i96), (22, B b133)], []⟩ ?_ ?_
      · refine iteO_e hv134 (fun hb135 hv134 => WO_known 17 true rfl hb135 ?_) (fun hb135 hv134 => WO_known 17 false rfl hb135 ?_)
        · refine WO_step 5 [] [0, 9, 10, 22] True ⟨[(0, S s1), (9, I ((s1.length : Nat) : Int)), (10, I i96), (22, B true)], []⟩ (by kernel_rfl) trivial ?_
          cases hv134
          exact WO_nil rfl ⟨rfl, rfl⟩
        · refine guardO_e hv134 (fun hg136 hv134 => ?_)
          refine WO_step 5 [] [0, 9, 10, 22] ((0 ≤ i96 ∧ i96 < ((s1.length : Nat) : Int)) ∧ (True ∧ True)) ⟨[(0, S s1), (9, I ((s1.length : Nat) : Int)), (10, I i96), (22, B (decide (122 < ((s1.getD i96.toNat 0).toNat : Int))))], []⟩ (by kernel_rfl) ⟨hg136, trivial, trivial⟩ ?_
          cases hv134
          exact WO_nil rfl ⟨rfl, rfl⟩
      · refine thenS_n ?_
        refine iteO_e h (fun hb138 h => W_true rfl hb138 ?_) (fun hb138 h => W_false rfl hb138 ?_)
        · refine W_seq ?_
          refine W_region ?_
          refine WO_step 1 [] [2] True ⟨[(2, B false)], []⟩ (by kernel_rfl) trivial ?_
          refine WO_nil rfl ?_
          refine thenS_n ?_
          refine W_ret ?_
          refine blockS_r ?_
          refine thenS_r ?_
          refine thenS_r ?_
          cases h
          exact And.intro rfl rfl
        · refine W_sub [] [0, 9, 10] (st' := ⟨[(0, S s1), (9, I ((s1.length : Nat) : Int)), (10, I i96)], []⟩) (by kernel_rfl) ?_
          refine W_skip ?_
          refine blockS_n ?_
          refine thenS_n ?_
          refine W_region ?_
          refine WO_step 2 [] [0, 9, 10] (True ∧ True) ⟨[(0, S s1), (9, I ((s1.length : Nat) : Int)), (10, I (w64 (i96 + 1)))], []⟩ (by kernel_rfl) ⟨trivial, trivial⟩ ?_
          refine WO_nil rfl ?_
          refine thenS_n ?_
          exact ih _ h
    · refine W_sub [] [] (st' := ⟨[], []⟩) (by kernel_rfl) ?_
      refine W_exit ?_
      refine thenS_e ?_
      refine thenS_e ?_
      cases h
      exact And.intro rfl rfl

def impl_isName (n : Nat) (s1 : Str) : Option (Bool) :=
 iteO (!(impl_within ((s1.length : Nat) : Int) 1 4))
 (some false)
 (bindO (impl_isName_L1 s1 n 0) fun v139 =>
 match v139 with
 | (.inl _) => (some false)
 | (.inr _) => (some true)
)

theorem impl_isName_ok (n : Nat) (s1 : Str) (b70 : Bool) (h : impl_isName n s1 = some b70) : FOk EE 63 [S s1] [] (B b70) [] := by
  unfold impl_isName at h
  refine FOk_of_W 24 0 Try.func63 rfl rfl (Nat.le_of_ble_eq_true rfl) rfl (fun w X θ => ?_)
  refine W_seq ?_
  refine W_region ?_
  refine WO_step 1 [] [0] True ⟨[(0, S s1)], []⟩ (by kernel_rfl) trivial ?_
  refine WO_nil rfl ?_
  refine thenS_n ?_
  refine W_seq ?_
  refine W_seq ?_
  refine W_region ?_
  refine WO_step 2 [] [0, 5] (True ∧ True) ⟨[(0, S s1), (5, I ((s1.length : Nat) : Int))], []⟩ (by kernel_rfl) ⟨trivial, trivial⟩ ?_
  refine WO_call [] Try.f46 rfl rfl rfl (by kernel_rfl) rfl rfl (by kernel_rfl) (impl_within_ok ((s1.length : Nat) : Int) 1 4) (trivial) rfl ?_
  refine WO_step 1 [] [0, 7] True ⟨[(0, S s1), (7, B (!(impl_within ((s1.length : Nat) : Int) 1 4)))], []⟩ (by kernel_rfl) trivial ?_
  refine WO_nil rfl ?_
  refine thenS_n ?_
  refine iteO_e h (fun hb72 h => W_true rfl hb72 ?_) (fun hb72 h => W_false rfl hb72 ?_)
  · refine W_seq ?_
    refine W_region ?_
    refine WO_step 1 [] [2] True ⟨[(2, B false)], []⟩ (by kernel_rfl) trivial ?_
    refine WO_nil rfl ?_
    refine thenS_n ?_
    refine W_ret ?_
    refine thenS_r ?_
    cases h
    exact ⟨[], True, by kernel_rfl, trivial⟩
  · refine W_sub [] [0] (st' := ⟨[(0, S s1)], []⟩) (by kernel_rfl) ?_
    refine W_skip ?_
    refine thenS_n ?_
    refine W_seq ?_
    refine W_seq ?_
    refine W_region ?_
    refine WO_step 3 [] [0, 9, 10] (True ∧ True) ⟨[(0, S s1), (9, I ((s1.length : Nat) : Int)), (10, I 0)], []⟩ (by kernel_rfl) ⟨trivial, trivial⟩ ?_
    refine WO_nil rfl ?_
    refine thenS_n ?_
    refine W_block ?_
    refine W_loop ?_
    refine bindO_e h (fun v139 hv139 h => ?_)
    refine WL_cut (impl_isName_L1_ok w X θ s1 v139 n 0 hv139) ?_
    rcases v139 with _ | _
    · rintro _ _ ⟨rfl, rfl⟩
      refine blockS_r ?_
      refine thenS_r ?_
      cases h
      exact ⟨[], True, by kernel_rfl, trivial⟩
    · rintro _ _ ⟨rfl, rfl⟩
      refine blockS_y ?_
      refine thenS_n ?_
      refine W_seq ?_
      refine W_region ?_
      refine WO_step 1 [] [2] True ⟨[(2, B true)], []⟩ (by kernel_rfl) trivial ?_
      refine WO_nil rfl ?_
      refine thenS_n ?_
      refine W_ret ?_
      cases h
      exact ⟨[], True, by kernel_rfl, trivial⟩

/- impl.kidIn -/
def impl_kidIn_L1 (i2 : Int) (s3 : Str) (x1 : List Nod) : Nat → Int → Option ((Int) ⊕ (Unit))
| 0, _ => none
| n + 1, i73 =>
 iteO (decide (i73 < ((x1.length : Nat) : Int)))
 (guardO (0 ≤ i73 ∧ i73 < ((x1.length : Nat) : Int)) <|
 iteO ((decide (((x1.getD i73.toNat dnod).parent) = i2)) && (decide (((x1.getD i73.toNat dnod).name) = s3)))
 (some (.inl i73))
 (impl_kidIn_L1 i2 s3 x1 n (w64 (i73 + 1))))
 (some (.inr ()))

theorem impl_kidIn_L1_ok (w : World) (X : Nat → Prop) (θ : List Loc) (i2 : Int) (s3 : Str) (x1 : List Nod) (v : (Int) ⊕ (Unit)) : ∀ (n : Nat) (i73 : Int), impl_kidIn_L1 i2 s3 x1 n i73 = some v → WL EE ⟨w, X, θ, 28, 1⟩ (subC [1, 0, 1, 4, 4] (bodyC Try.f64)) (fun (e : Exit) (s : St) => (match v with | (.inl i89) => e = .ret ∧ s = ⟨[(6, I i89)], [.row .nod x1 false]⟩ | (.inr _) => e = .exit 0 ∧ s = ⟨[], [.row .nod x1 false]⟩ : Prop)) ⟨[(1, I i2), (2, S s3), (9, .one (.e (.sl 0 0 x1.length))), (10, I ((x1.length : Nat) : Int)), (11, I i73)], [.row .nod x1 false]⟩ := by
  intro n
  induction n with
  | zero => intro _ h; exact none_e h
  | succ n ih =>
    intro i73 h
    rw [impl_kidIn_L1] at h
    refine WL_round ?_
    refine W_seq ?_
    refine W_region ?_
    refine WO_step 1 [0] [1, 2, 9, 10, 11, 12] (True ∧ True) ⟨[(1, I i2), (2, S s3), (9, .one (.e (.sl 0 0 x1.length))), (10, I ((x1.length : Nat) : Int)), (11, I i73), (12, B (decide (i73 < ((x1.length : Nat) : Int))))], [.row .nod x1 false]⟩ (by kernel_rfl) ⟨trivial, trivial⟩ ?_
    refine WO_nil rfl ?_
    refine thenS_n ?_
    refine W_seq ?_
    refine iteO_e h (fun hb92 h => W_true rfl hb92 ?_) (fun hb92 h => W_false rfl hb92 ?_)
    · refine W_sub [0] [1, 2, 9, 10, 11] (st' := ⟨[(1, I i2), (2, S s3), (9, .one (.e (.sl 0 0 x1.length))), (10, I ((x1.length : Nat) : Int)), (11, I i73)], [.row .nod x1 false]⟩) (by kernel_rfl) ?_
      refine W_skip ?_
      refine thenS_n ?_
      refine W_seq ?_
      refine W_block ?_
      refine W_seq ?_
      refine W_region ?_
      refine guardO_e h (fun hg99 h => ?_)
      refine WO_step 6 [0, 1] [1, 2, 7, 8, 9, 10, 11] ((0 ≤ i73 ∧ i73 < ((x1.length : Nat) : Int)) ∧ (True ∧ (True ∧ (True ∧ True)))) ⟨[(1, I i2), (2, S s3), (7, I i73), (8, .one (.e (.p 1 0))), (9, .one (.e (.sl 0 0 x1.length))), (10, I ((x1.length : Nat) : Int)), (11, I i73)], [.row .nod x1 false, .cells [cI ((x1.getD i73.toNat dnod).parent), cS ((x1.getD i73.toNat dnod).name), cI ((x1.getD i73.toNat dnod).value)]]⟩ (by kernel_rfl) ⟨hg99, trivial, trivial, trivial, trivial⟩ ?_
      refine WO_nil rfl ?_
      refine thenS_n ?_
      refine W_seq ?_
      refine W_region ?_
      refine WO_step 5 [0, 1] [1, 2, 7, 8, 9, 10, 11, 20] (True ∧ (True ∧ True)) ⟨[(1, I i2), (2, S s3), (7, I i73), (8, .one (.e (.p 1 0))), (9, .one (.e (.sl 0 0 x1.length))), (10, I ((x1.length : Nat) : Int)), (11, I i73), (20, B (decide (((x1.getD i73.toNat dnod).parent) = i2)))], [.row .nod x1 false, .cells [cI ((x1.getD i73.toNat dnod).parent), cS ((x1.getD i73.toNat dnod).name), cI ((x1.getD i73.toNat dnod).value)]]⟩ (by kernel_rfl) ⟨trivial, trivial, trivial⟩ ?_
      refine WO_thru ⟨[(1, I i2), (2, S s3), (7, I i73), (9, .one (.e (.sl 0 0 x1.length))), (10, I ((x1.length : Nat) : Int)), (11, I i73), (25, B ((decide (((x1.getD i73.toNat dnod).parent) = i2)) && (decide (((x1.getD i73.toNat dnod).name) = s3))))], [.row .nod x1 false]⟩ ?_ ?_
      · refine WO_if 20 rfl (fun hb102 => ?_) (fun hb102 => ?_)
        · refine WO_step 5 [0] [1, 2, 7, 9, 10, 11, 25] (True ∧ (True ∧ True)) ⟨[(1, I i2), (2, S s3), (7, I i73), (9, .one (.e (.sl 0 0 x1.length))), (10, I ((x1.length : Nat) : Int)), (11, I i73), (25, B (decide (((x1.getD i73.toNat dnod).name) = s3)))], [.row .nod x1 false]⟩ (by kernel_rfl) ⟨trivial, trivial, trivial⟩ ?_
          exact WO_nil rfl ⟨rfl, by first | rfl | (rw [hb102]; first | done | rfl)⟩
        · refine WO_step 5 [0] [1, 2, 7, 9, 10, 11, 25] True ⟨[(1, I i2), (2, S s3), (7, I i73), (9, .one (.e (.sl 0 0 x1.length))), (10, I ((x1.length : Nat) : Int)), (11, I i73), (25, B false)], [.row .nod x1 false]⟩ (by kernel_rfl) trivial ?_
          exact WO_nil rfl ⟨rfl, by first | rfl | (rw [hb102]; first | done | rfl)⟩
      · refine thenS_n ?_
        refine iteO_e h (fun hb104 h => W_true rfl hb104 ?_) (fun hb104 h => W_false rfl hb104 ?_)
        · refine W_seq ?_
          refine W_region ?_
          refine WO_step 2 [0] [6] True ⟨[(6, I i73)], [.row .nod x1 false]⟩ (by kernel_rfl) trivial ?_
          refine WO_nil rfl ?_
          refine thenS_n ?_
          refine W_ret ?_
          refine blockS_r ?_
          refine thenS_r ?_
          refine thenS_r ?_
          cases h
          exact And.intro rfl rfl
        · refine W_sub [0] [1, 2, 9, 10, 11] (st' := ⟨[(1, I i2), (2, S s3), (9, .one (.e (.sl 0 0 x1.length))), (10, I ((x1.length : Nat) : Int)), (11, I i73)], [.row .nod x1 false]⟩) (by kernel_rfl) ?_
          refine W_skip ?_
          refine blockS_n ?_
          refine thenS_n ?_
          refine W_region ?_
          refine WO_step 2 [0] [1, 2, 9, 10, 11] (True ∧ True) ⟨[(1, I i2), (2, S s3), (9, .one (.e (.sl 0 0 x1.length))), (10, I ((x1.length : Nat) : Int)), (11, I (w64 (i73 + 1)))], [.row .nod x1 false]⟩ (by kernel_rfl) ⟨trivial, trivial⟩ ?_
          refine WO_nil rfl ?_
          refine thenS_n ?_
          exact ih _ h
    · refine W_sub [0] [] (st' := ⟨[], [.row .nod x1 false]⟩) (by kernel_rfl) ?_
      refine W_exit ?_
      refine thenS_e ?_
      refine thenS_e ?_
      cases h
      exact And.intro rfl rfl

def impl_kidIn (n : Nat) (x1 : List Nod) (i2 : Int) (s3 : Str) : Option (Int) :=
 bindO (impl_kidIn_L1 i2 s3 x1 n 0) fun v105 =>
 match v105 with
 | (.inl i89) => (some i89)
 | (.inr _) => (some (-1))


theorem impl_kidIn_ok (n : Nat) (x1 : List Nod) (i2 : Int) (s3 : Str) (i54 : Int) (h : impl_kidIn n x1 i2 s3 = some i54) : FOk EE 64 [.one (.e (.sl 0 0 x1.length)), I i2, S s3] [.row .nod x1 false] (I i54) [.row .nod x1 false] := by
  unfold impl_kidIn at h
  refine FOk_of_W 28 1 Try.func64 rfl rfl (Nat.le_of_ble_eq_true rfl) rfl (fun w X θ => ?_)
  refine W_seq ?_
  refine W_region ?_
  refine WO_step 1 [0] [0, 1, 2] True ⟨[(0, .one (.e (.sl 0 0 x1.length))), (1, I i2), (2, S s3)], [.row .nod x1 false]⟩ (by kernel_rfl) trivial ?_
  refine WO_nil rfl ?_
  refine thenS_n ?_
  refine W_seq ?_
  refine W_seq ?_
  refine W_region ?_
  refine WO_step 3 [0] [1, 2, 9, 10, 11] (True ∧ True) ⟨[(1, I i2), (2, S s3), (9, .one (.e (.sl 0 0 x1.length))), (10, I ((x1.length : Nat) : Int)), (11, I 0)], [.row .nod x1 false]⟩ (by kernel_rfl) ⟨trivial, trivial⟩ ?_
  refine WO_nil rfl ?_
  refine thenS_n ?_
  refine W_block ?_
  refine W_loop ?_
  refine bindO_e h (fun v105 hv105 h => ?_)
  refine WL_cut (impl_kidIn_L1_ok w X θ i2 s3 x1 v105 n 0 hv105) ?_
  rcases v105 with i89 | _
  · rintro _ _ ⟨rfl, rfl⟩
    refine blockS_r ?_
    refine thenS_r ?_
    cases h
    exact ⟨[0], True, by kernel_rfl, trivial⟩
  · rintro _ _ ⟨rfl, rfl⟩
    refine blockS_y ?_
    refine thenS_n ?_
    refine W_seq ?_
    refine W_region ?_
    refine WO_step 1 [0] [6] True ⟨[(6, I (-1))], [.row .nod x1 false]⟩ (by kernel_rfl) trivial ?_
    refine WO_nil rfl ?_
    refine thenS_n ?_
    refine W_ret ?_
    cases h
    exact ⟨[0], True, by kernel_rfl, trivial⟩

/- impl.ValidTree -/
def impl_ValidTree_L1 (x1 : List Nod) : Nat → (List Int) → Int → Option ((Unit) ⊕ (Unit))
| 0, _, _ => none
| n + 1, x164, i165 =>
 iteO (decide (i165 < ((x1.length : Nat) : Int)))
 (bindO (guardO (0 ≤ i165 ∧ i165 < ((x1.length : Nat) : Int)) <|
 iteO (!(impl_within ((x1.getD i165.toNat dnod).value) (-1000) 1000))
 (some (.inl ()))
 (iteO (decide (i165 = 0))
 (some (.inr x164))
 (bindO (iteO (!(impl_within ((x1.getD i165.toNat dnod).parent) 0 (w64 (i165 - 1))))
 (some true)
 (bindO (impl_isName n ((x1.getD i165.toNat dnod).name)) fun b238 =>
 some (!b238))) fun b235 =>
 iteO b235
 (some (.inl ()))
 (guardO (0 ≤ i165 ∧ i165 ≤ ((x1.length : Nat) : Int)) <|
 bindO (impl_kidIn n ((x1.drop 0).take i165.toNat) ((x1.getD i165.toNat dnod).parent) ((x1.getD i165.toNat dnod).name)) fun i243 =>
 iteO (decide (0 ≤ i243))
 (some (.inl ()))
 (guardO (0 ≤ (x1.getD i165.toNat dnod).parent ∧ (x1.getD i165.toNat dnod).parent < ((x164.length : Nat) : Int)) <|
 guardO (0 ≤ i165 ∧ i165 < ((x164.length : Nat) : Int)) <|
 guardO (0 ≤ i165 ∧ i165 < (((x164.set i165.toNat (w64 ((x164.getD (((x1.getD i165.toNat dnod).parent).toNat) 0) + 1))).length : Nat) : Int)) <|
 iteO (decide (4 < ((x164.set i165.toNat (w64 ((x164.getD (((x1.getD i165.toNat dnod).parent).toNat) 0) + 1))).getD i165.toNat 0)))
 (some (.inl ()))
 (some (.inr (x164.set i165.toNat (w64 ((x164.getD (((x1.getD i165.toNat dnod).parent).toNat) 0) + 1))))))))) : Option ((Unit) ⊕ ((List Int)))) fun v226 =>
 match v226 with
 | (.inl _) => (some (.inl ()))
 | (.inr x225) => (impl_ValidTree_L1 x1 n x225 (w64 (i165 + 1)))
)
 (some (.inr ()))

theorem impl_ValidTree_L1_ok (w : World) (X : Nat → Prop) (θ : List Loc) (x1 : List Nod) (v : (Unit) ⊕ (Unit)) : ∀ (n : Nat) (x164 : List Int) (i165 : Int), impl_ValidTree_L1 x1 n x164 i165 = some v → WL EE ⟨w, X, θ, 78, 1⟩ (subC [1, 1, 1, 1, 0, 1, 4, 4] (bodyC Try.f45)) (fun (e : Exit) (s : St) => (match v with | (.inl _) => e = .ret ∧ s = ⟨[(2, B false)], [.row .nod x1 false]⟩ | (.inr _) => e = .exit 0 ∧ s = ⟨[], [.row .nod x1 false]⟩ : Prop)) ⟨[(0, .one (.e (.sl 0 0 x1.length))), (3, .one (.e (.sl 1 0 x164.length))), (29, .one (.e (.sl 0 0 x1.length))), (30, I ((x1.length : Nat) : Int)), (31, I i165)], [.row .nod x1 false, .row .int x164 true]⟩ := by
  intro n
  induction n with
  | zero => intro _ _ h; exact none_e h
  | succ n ih =>
    intro x164 i165 h
    rw [impl_ValidTree_L1] at h
    refine WL_round ?_
    refine W_seq ?_
    refine W_region ?_
    refine WO_step 1 [0, 1] [0, 3, 29, 30, 31, 32] (True ∧ True) ⟨[(0, .one (.e (.sl 0 0 x1.length))), (3, .one (.e (.sl 1 0 x164.length))), (29, .one (.e (.sl 0 0 x1.length))), (30, I ((x1.length : Nat) : Int)), (31, I i165), (32, B (decide (i165 < ((x1.length : Nat) : Int))))], [.row .nod x1 false, .row .int x164 true]⟩ (by kernel_rfl) ⟨trivial, trivial⟩ ?_
    refine WO_nil rfl ?_
    refine thenS_n ?_
    refine W_seq ?_
    refine iteO_e h (fun hb199 h => W_true rfl hb199 ?_) (fun hb199 h => W_false rfl hb199 ?_)
    · refine W_sub [0, 1] [0, 3, 29, 30, 31] (st' := ⟨[(0, .one (.e (.sl 0 0 x1.length))), (3, .one (.e (.sl 1 0 x164.length))), (29, .one (.e (.sl 0 0 x1.length))), (30, I ((x1.length : Nat) : Int)), (31, I i165)], [.row .nod x1 false, .row .int x164 true]⟩) (by kernel_rfl) ?_
      refine W_skip ?_
      refine thenS_n ?_
      refine W_seq ?_
      refine bindO_e h (fun v226 hv226 h => ?_)
      refine W_cut (Q' := fun (e : Exit) (s : St) => (match v226 with | (.inl _) => e = .ret ∧ s = ⟨[(2, B false)], [.row .nod x1 false]⟩ | (.inr x225) => e = .normal ∧ s = ⟨[(0, .one (.e (.sl 0 0 x1.length))), (3, .one (.e (.sl 1 0 x225.length))), (29, .one (.e (.sl 0 0 x1.length))), (30, I ((x1.length : Nat) : Int)), (31, I i165)], [.row .nod x1 false, .row .int x225 true]⟩ : Prop)) ?_ ?_
      · refine W_block ?_
        refine W_seq ?_
        refine W_region ?_
        refine guardO_e hv226 (fun hg227 hv226 => ?_)
        refine WO_step 6 [0, 1, 2] [0, 3, 4, 5, 29, 30, 31] ((0 ≤ i165 ∧ i165 < ((x1.length : Nat) : Int)) ∧ (True ∧ (True ∧ (True ∧ True)))) ⟨[(0, .one (.e (.sl 0 0 x1.length))), (3, .one (.e (.sl 1 0 x164.length))), (4, I i165), (5, .one (.e (.p 2 0))), (29, .one (.e (.sl 0 0 x1.length))), (30, I ((x1.length : Nat) : Int)), (31, I i165)], [.row .nod x1 false, .row .int x164 true, .cells [cI ((x1.getD i165.toNat dnod).parent), cS ((x1.getD i165.toNat dnod).name), cI ((x1.getD i165.toNat dnod).value)]]⟩ (by kernel_rfl) ⟨hg227, trivial, trivial, trivial, trivial⟩ ?_
        refine WO_nil rfl ?_
        refine thenS_n ?_
        refine W_seq ?_
        refine W_seq ?_
        refine W_region ?_
        refine WO_step 2 [0, 1, 2] [0, 3, 4, 5, 29, 30, 31, 37] (True ∧ True) ⟨[(0, .one (.e (.sl 0 0 x1.length))), (3, .one (.e (.sl 1 0 x164.length))), (4, I i165), (5, .one (.e (.p 2 0))), (29, .one (.e (.sl 0 0 x1.length))), (30, I ((x1.length : Nat) : Int)), (31, I i165), (37, I ((x1.getD i165.toNat dnod).value))], [.row .nod x1 false, .row .int x164 true, .cells [cI ((x1.getD i165.toNat dnod).parent), cS ((x1.getD i165.toNat dnod).name), cI ((x1.getD i165.toNat dnod).value)]]⟩ (by kernel_rfl) ⟨trivial, trivial⟩ ?_
        refine WO_call [] Try.f46 rfl rfl rfl (by kernel_rfl) rfl rfl (by kernel_rfl) (impl_within_ok ((x1.getD i165.toNat dnod).value) (-1000) 1000) (trivial) rfl ?_
        refine WO_step 1 [0, 1, 2] [0, 3, 4, 5, 29, 30, 31, 39] True ⟨[(0, .one (.e (.sl 0 0 x1.length))), (3, .one (.e (.sl 1 0 x164.length))), (4, I i165), (5, .one (.e (.p 2 0))), (29, .one (.e (.sl 0 0 x1.length))), (30, I ((x1.length : Nat) : Int)), (31, I i165), (39, B (!(impl_within ((x1.getD i165.toNat dnod).value) (-1000) 1000)))], [.row .nod x1 false, .row .int x164 true, .cells [cI ((x1.getD i165.toNat dnod).parent), cS ((x1.getD i165.toNat dnod).name), cI ((x1.getD i165.toNat dnod).value)]]⟩ (by kernel_rfl) trivial ?_
        refine WO_nil rfl ?_
        refine thenS_n ?_
        refine iteO_e hv226 (fun hb229 hv226 => W_true rfl hb229 ?_) (fun hb229 hv226 => W_false rfl hb229 ?_)
        · refine W_seq ?_
          refine W_region ?_
          refine WO_step 1 [0] [2] True ⟨[(2, B false)], [.row .nod x1 false]⟩ (by kernel_rfl) trivial ?_
          refine WO_nil rfl ?_
          refine thenS_n ?_
          refine W_ret ?_
          refine thenS_r ?_
          refine blockS_r ?_
          cases hv226
          exact And.intro rfl rfl
        · refine W_sub [0, 1, 2] [0, 3, 4, 5, 29, 30, 31] (st' := ⟨[(0, .one (.e (.sl 0 0 x1.length))), (3, .one (.e (.sl 1 0 x164.length))), (4, I i165), (5, .one (.e (.p 2 0))), (29, .one (.e (.sl 0 0 x1.length))), (30, I ((x1.length : Nat) : Int)), (31, I i165)], [.row .nod x1 false, .row .int x164 true, .cells [cI ((x1.getD i165.toNat dnod).parent), cS ((x1.getD i165.toNat dnod).name), cI ((x1.getD i165.toNat dnod).value)]]⟩) (by kernel_rfl) ?_
          refine W_skip ?_
          refine thenS_n ?_
          refine W_seq ?_
          refine W_seq ?_
          refine W_region ?_
          refine WO_step 2 [0, 1, 2] [0, 3, 4, 5, 29, 30, 31, 41] (True ∧ True) ⟨[(0, .one (.e (.sl 0 0 x1.length))), (3, .one (.e (.sl 1 0 x164.length))), (4, I i165), (5, .one (.e (.p 2 0))), (29, .one (.e (.sl 0 0 x1.length))), (30, I ((x1.length : Nat) : Int)), (31, I i165), (41, B (decide (i165 = 0)))], [.row .nod x1 false, .row .int x164 true, .cells [cI ((x1.getD i165.toNat dnod).parent), cS ((x1.getD i165.toNat dnod).name), cI ((x1.getD i165.toNat dnod).value)]]⟩ (by kernel_rfl) ⟨trivial, trivial⟩ ?_
          refine WO_nil rfl ?_
          refine thenS_n ?_
          refine iteO_e hv226 (fun hb231 hv226 => W_true rfl hb231 ?_) (fun hb231 hv226 => W_false rfl hb231 ?_)
          · refine W_sub [0, 1] [0, 3, 29, 30, 31] (st' := ⟨[(0, .one (.e (.sl 0 0 x1.length))), (3, .one (.e (.sl 1 0 x164.length))), (29, .one (.e (.sl 0 0 x1.length))), (30, I ((x1.length : Nat) : Int)), (31, I i165)], [.row .nod x1 false, .row .int x164 true]⟩) (by kernel_rfl) ?_
            refine W_exit ?_
            refine thenS_e ?_
            refine blockS_y ?_
            cases hv226
            exact And.intro rfl rfl
          · refine W_sub [0, 1, 2] [0, 3, 4, 5, 29, 30, 31] (st' := ⟨[(0, .one (.e (.sl 0 0 x1.length))), (3, .one (.e (.sl 1 0 x164.length))), (4, I i165), (5, .one (.e (.p 2 0))), (29, .one (.e (.sl 0 0 x1.length))), (30, I ((x1.length : Nat) : Int)), (31, I i165)], [.row .nod x1 false, .row .int x164 true, .cells [cI ((x1.getD i165.toNat dnod).parent), cS ((x1.getD i165.toNat dnod).name), cI ((x1.getD i165.toNat dnod).value)]]⟩) (by kernel_rfl) ?_
            refine W_skip ?_
            refine thenS_n ?_
            refine W_seq ?_
            refine W_seq ?_
            refine W_region ?_
            refine WO_step 4 [0, 1, 2] [0, 3, 4, 5, 29, 30, 31, 43, 45] (True ∧ (True ∧ True)) ⟨[(0, .one (.e (.sl 0 0 x1.length))), (3, .one (.e (.sl 1 0 x164.length))), (4, I i165), (5, .one (.e (.p 2 0))), (29, .one (.e (.sl 0 0 x1.length))), (30, I ((x1.length : Nat) : Int)), (31, I i165), (43, I ((x1.getD i165.toNat dnod).parent)), (45, I (w64 (i165 - 1)))], [.row .nod x1 false, .row .int x164 true, .cells [cI ((x1.getD i165.toNat dnod).parent), cS ((x1.getD i165.toNat dnod).name), cI ((x1.getD i165.toNat dnod).value)]]⟩ (by kernel_rfl) ⟨trivial, trivial, trivial⟩ ?_
            refine WO_call [] Try.f46 rfl rfl rfl (by kernel_rfl) rfl rfl (by kernel_rfl) (impl_within_ok ((x1.getD i165.toNat dnod).parent) 0 (w64 (i165 - 1))) (trivial) rfl ?_
            refine WO_step 2 [0, 1, 2] [0, 3, 4, 5, 29, 30, 31, 48] True ⟨[(0, .one (.e (.sl 0 0 x1.length))), (3, .one (.e (.sl 1 0 x164.length))), (4, I i165), (5, .one (.e (.p 2 0))), (29, .one (.e (.sl 0 0 x1.length))), (30, I ((x1.length : Nat) : Int)), (31, I i165), (48, B (!(impl_within ((x1.getD i165.toNat dnod).parent) 0 (w64 (i165 - 1)))))], [.row .nod x1 false, .row .int x164 true, .cells [cI ((x1.getD i165.toNat dnod).parent), cS ((x1.getD i165.toNat dnod).name), cI ((x1.getD i165.toNat dnod).value)]]⟩ (by kernel_rfl) trivial ?_
            refine bindO_e hv226 (fun b235 hv236 hv226 => ?_)
            refine WO_thru ⟨[(0, .one (.e (.sl 0 0 x1.length))), (3, .one (.e (.sl 1 0 x164.length))), (4, I i165), (5, .one (.e (.p 2 0))), (29, .one (.e (.sl 0 0 x1.length))), (30, I ((x1.length : Nat) : Int)), (31, I i165), (53, B b235)], [.row .nod x1 false, .row .int x164 true, .cells [cI ((x1.getD i165.toNat dnod).parent), cS ((x1.getD i165.toNat dnod).name), cI ((x1.getD i165.toNat dnod).value)]]⟩ ?_ ?_
            · refine iteO_e hv236 (fun hb237 hv236 => WO_known 48 true rfl hb237 ?_) (fun hb237 hv236 => WO_known 48 false rfl hb237 ?_)
              · refine WO_step 5 [0, 1, 2] [0, 3, 4, 5, 29, 30, 31, 53] True ⟨[(0, .one (.e (.sl 0 0 x1.length))), (3, .one (.e (.sl 1 0 x164.length))), (4, I i165), (5, .one (.e (.p 2 0))), (29, .one (.e (.sl 0 0 x1.length))), (30, I ((x1.length : Nat) : Int)), (31, I i165), (53, B true)], [.row .nod x1 false, .row .int x164 true, .cells [cI ((x1.getD i165.toNat dnod).parent), cS ((x1.getD i165.toNat dnod).name), cI ((x1.getD i165.toNat dnod).value)]]⟩ (by kernel_rfl) trivial ?_
                cases hv236
                exact WO_nil rfl ⟨rfl, rfl⟩
              · refine WO_step 2 [0, 1, 2] [0, 3, 4, 5, 29, 30, 31, 48, 50] (True ∧ True) ⟨[(0, .one (.e (.sl 0 0 x1.length))), (3, .one (.e (.sl 1 0 x164.length))), (4, I i165), (5, .one (.e (.p 2 0))), (29, .one (.e (.sl 0 0 x1.length))), (30, I ((x1.length : Nat) : Int)), (31, I i165), (48, B false), (50, S ((x1.getD i165.toNat dnod).name))], [.row .nod x1 false, .row .int x164 true, .cells [cI ((x1.getD i165.toNat dnod).parent), cS ((x1.getD i165.toNat dnod).name), cI ((x1.getD i165.toNat dnod).value)]]⟩ (by kernel_rfl) ⟨trivial, trivial⟩ ?_
                refine bindO_e hv236 (fun b238 hc239 hv236 => ?_)
                refine WO_call [] Try.f63 rfl rfl rfl (by kernel_rfl) rfl rfl (by kernel_rfl) (impl_isName_ok n ((x1.getD i165.toNat dnod).name) b238 hc239) (trivial) rfl ?_
                refine WO_step 2 [0, 1, 2] [0, 3, 4, 5, 29, 30, 31, 53] True ⟨[(0, .one (.e (.sl 0 0 x1.length))), (3, .one (.e (.sl 1 0 x164.length))), (4, I i165), (5, .one (.e (.p 2 0))), (29, .one (.e (.sl 0 0 x1.length))), (30, I ((x1.length : Nat) : Int)), (31, I i165), (53, B (!b238))], [.row .nod x1 false, .row .int x164 true, .cells [cI ((x1.getD i165.toNat dnod).parent), cS ((x1.getD i165.toNat dnod).name), cI ((x1.getD i165.toNat dnod).value)]]⟩ (by kernel_rfl) trivial ?_
                cases hv236
                exact WO_nil rfl ⟨rfl, rfl⟩
            · refine thenS_n ?_
              refine iteO_e hv226 (fun hb241 hv226 => W_true rfl hb241 ?_) (fun hb241 hv226 => W_false rfl hb241 ?_)
              · refine W_seq ?_
                refine W_region ?_
                refine WO_step 1 [0] [2] True ⟨[(2, B false)], [.row .nod x1 false]⟩ (by kernel_rfl) trivial ?_
                refine WO_nil rfl ?_
                refine thenS_n ?_
                refine W_ret ?_
                refine thenS_r ?_
                refine blockS_r ?_
                cases hv226
                exact And.intro rfl rfl
              · refine W_sub [0, 1, 2] [0, 3, 4, 5, 29, 30, 31] (st' := ⟨[(0, .one (.e (.sl 0 0 x1.length))), (3, .one (.e (.sl 1 0 x164.length))), (4, I i165), (5, .one (.e (.p 2 0))), (29, .one (.e (.sl 0 0 x1.length))), (30, I ((x1.length : Nat) : Int)), (31, I i165)], [.row .nod x1 false, .row .int x164 true, .cells [cI ((x1.getD i165.toNat dnod).parent), cS ((x1.getD i165.toNat dnod).name), cI ((x1.getD i165.toNat dnod).value)]]⟩) (by kernel_rfl) ?_
                refine W_skip ?_
                refine thenS_n ?_
                refine W_seq ?_
                refine W_seq ?_
                refine guardO_e hv226 (fun hg242 hv226 => ?_)
                refine bindO_e hv226 (fun i243 hc244 hv226 => ?_)
                refine W_cut (Q' := fun (e : Exit) (s : St) => e = .normal ∧ s = ⟨[(0, .one (.e (.sl 0 0 x1.length))), (3, .one (.e (.sl 1 0 x164.length))), (4, I i165), (5, .one (.e (.p 2 0))), (29, .one (.e (.sl 0 0 x1.length))), (30, I ((x1.length : Nat) : Int)), (31, I i165), (62, B (decide (0 ≤ i243)))], [.row .nod x1 false, .row .int x164 true, .cells [cI ((x1.getD i165.toNat dnod).parent), cS ((x1.getD i165.toNat dnod).name), cI ((x1.getD i165.toNat dnod).value)]]⟩) ?_ ?_
                · refine W_draw [] false (by kernel_rfl) (by kernel_rfl) ?_
                  refine WD_takeK [0, 1, 3, 4, 5, 6] [0, 3, 4, 5, 29, 30, 31, 54, 55, 58, 60] [0, 3, 4, 5, 29, 30, 31, 54, 55, 58, 60] (φ := (True ∧ True ∧ (True ∧ True ∧ True))) (ls' := #[true, true, false, true, true, true, true, false, false]) (Ts' := [(0, .one (.e (.sl 0 0 x1.length))), (3, .one (.e (.sl 1 0 x164.length))), (4, I i165), (5, .one (.e (.p 2 0))), (29, .one (.e (.sl 0 0 x1.length))), (30, I ((x1.length : Nat) : Int)), (31, I i165), (54, .one (.e (.sl 0 0 x1.length))), (55, I i165), (58, I ((x1.getD i165.toNat dnod).parent)), (60, S ((x1.getD i165.toNat dnod).name))]) (st' := ⟨[(0, .one (.e (.sl 0 0 x1.length))), (3, .one (.e (.sl 1 0 x164.length))), (4, I i165), (5, .one (.e (.p 2 0))), (29, .one (.e (.sl 0 0 x1.length))), (30, I ((x1.length : Nat) : Int)), (31, I i165), (54, .one (.e (.sl 0 0 x1.length))), (55, I i165), (58, I ((x1.getD i165.toNat dnod).parent)), (60, S ((x1.getD i165.toNat dnod).name))], [.row .nod x1 false, .row .int x164 true, .cells [cI ((x1.getD i165.toNat dnod).parent), cS ((x1.getD i165.toNat dnod).name), cI ((x1.getD i165.toNat dnod).value)]]⟩) (n2 := 3) (by kernel_rfl) ⟨trivial, trivial, trivial, trivial, trivial⟩ rfl ?_
                  refine WD_all [2] (n := 2) (by kernel_rfl) rfl ?_
                  refine WM_op (φ := 0 ≤ i165 ∧ i165 ≤ ((x1.length : Nat) : Int)) (v := .one (.e (.sl 0 0 i165.toNat))) (H' := [.row .nod x1 false, .row .int x164 true, .cells [cI ((x1.getD i165.toNat dnod).parent), cS ((x1.getD i165.toNat dnod).name), cI ((x1.getD i165.toNat dnod).value)]]) rfl rfl (by kernel_rfl) hg242 rfl (And.intro rfl (And.intro rfl (And.intro (And.intro rfl rfl) (trivial)))) ?_
                  refine WD_all [7] (n := 1) (by kernel_rfl) rfl ?_
                  refine WM_call [.view 0] Try.f64 rfl rfl (by kernel_rfl) rfl rfl (by kernel_rfl) (impl_kidIn_ok n ((x1.drop 0).take i165.toNat) ((x1.getD i165.toNat dnod).parent) ((x1.getD i165.toNat dnod).name) i243 hc244) (trivial) rfl (And.intro rfl (And.intro rfl (And.intro (And.intro rfl rfl) (trivial)))) ?_
                  refine WD_takeK [8] [0, 3, 4, 5, 29, 30, 31, 62] [0, 3, 4, 5, 29, 30, 31, 62] (φ := (True ∧ True ∧ True)) (ls' := #[true, true, true, true, true, true, true, true, true]) (Ts' := [(0, .one (.e (.sl 0 0 x1.length))), (3, .one (.e (.sl 1 0 x164.length))), (4, I i165), (5, .one (.e (.p 2 0))), (29, .one (.e (.sl 0 0 x1.length))), (30, I ((x1.length : Nat) : Int)), (31, I i165), (62, B (decide (0 ≤ i243)))]) (st' := ⟨[(0, .one (.e (.sl 0 0 x1.length))), (3, .one (.e (.sl 1 0 x164.length))), (4, I i165), (5, .one (.e (.p 2 0))), (29, .one (.e (.sl 0 0 x1.length))), (30, I ((x1.length : Nat) : Int)), (31, I i165), (62, B (decide (0 ≤ i243)))], [.row .nod x1 false, .row .int x164 true, .cells [cI ((x1.getD i165.toNat dnod).parent), cS ((x1.getD i165.toNat dnod).name), cI ((x1.getD i165.toNat dnod).value)]]⟩) (n2 := 0) (by kernel_rfl) ⟨trivial, trivial, trivial⟩ rfl ?_
                  exact WD_done [0, 1, 2] [0, 3, 4, 5, 29, 30, 31, 62] (st' := ⟨[(0, .one (.e (.sl 0 0 x1.length))), (3, .one (.e (.sl 1 0 x164.length))), (4, I i165), (5, .one (.e (.p 2 0))), (29, .one (.e (.sl 0 0 x1.length))), (30, I ((x1.length : Nat) : Int)), (31, I i165), (62, B (decide (0 ≤ i243)))], [.row .nod x1 false, .row .int x164 true, .cells [cI ((x1.getD i165.toNat dnod).parent), cS ((x1.getD i165.toNat dnod).name), cI ((x1.getD i165.toNat dnod).value)]]⟩) (by kernel_rfl) (by kernel_rfl) (And.intro rfl rfl)
                · rintro _ _ ⟨rfl, rfl⟩
                  refine thenS_n ?_
                  refine iteO_e hv226 (fun hb246 hv226 => W_true rfl hb246 ?_) (fun hb246 hv226 => W_false rfl hb246 ?_)
                  · refine W_seq ?_
                    refine W_region ?_
                    refine WO_step 1 [0] [2] True ⟨[(2, B false)], [.row .nod x1 false]⟩ (by kernel_rfl) trivial ?_
                    refine WO_nil rfl ?_
                    refine thenS_n ?_
                    refine W_ret ?_
                    refine thenS_r ?_
                    refine blockS_r ?_
                    cases hv226
                    exact And.intro rfl rfl
                  · refine W_sub [0, 1, 2] [0, 3, 4, 5, 29, 30, 31] (st' := ⟨[(0, .one (.e (.sl 0 0 x1.length))), (3, .one (.e (.sl 1 0 x164.length))), (4, I i165), (5, .one (.e (.p 2 0))), (29, .one (.e (.sl 0 0 x1.length))), (30, I ((x1.length : Nat) : Int)), (31, I i165)], [.row .nod x1 false, .row .int x164 true, .cells [cI ((x1.getD i165.toNat dnod).parent), cS ((x1.getD i165.toNat dnod).name), cI ((x1.getD i165.toNat dnod).value)]]⟩) (by kernel_rfl) ?_
                    refine W_skip ?_
                    refine thenS_n ?_
                    refine W_seq ?_
                    refine W_region ?_
                    refine guardO_e hv226 (fun hg247 hv226 => ?_)
                    refine guardO_e hv226 (fun hg248 hv226 => ?_)
                    refine WO_step 10 [0, 1] [0, 3, 4, 29, 30, 31] (True ∧ ((0 ≤ (x1.getD i165.toNat dnod).parent ∧ (x1.getD i165.toNat dnod).parent < ((x164.length : Nat) : Int)) ∧ (True ∧ (True ∧ ((0 ≤ i165 ∧ i165 < ((x164.length : Nat) : Int)) ∧ (True ∧ True)))))) ⟨[(0, .one (.e (.sl 0 0 x1.length))), (3, .one (.e (.sl 1 0 x164.length))), (4, I i165), (29, .one (.e (.sl 0 0 x1.length))), (30, I ((x1.length : Nat) : Int)), (31, I i165)], [.row .nod x1 false, .row .int (x164.set i165.toNat (w64 ((x164.getD (((x1.getD i165.toNat dnod).parent).toNat) 0) + 1))) true]⟩ (by kernel_rfl) ⟨trivial, hg247, trivial, trivial, hg248, trivial, trivial⟩ ?_
                    refine WO_eq (st' := ⟨[(0, .one (.e (.sl 0 0 x1.length))), (3, .one (.e (.sl 1 0 ((x164.set i165.toNat (w64 ((x164.getD (((x1.getD i165.toNat dnod).parent).toNat) 0) + 1))).length)))), (4, I i165), (29, .one (.e (.sl 0 0 x1.length))), (30, I ((x1.length : Nat) : Int)), (31, I i165)], [.row .nod x1 false, .row .int (x164.set i165.toNat (w64 ((x164.getD (((x1.getD i165.toNat dnod).parent).toNat) 0) + 1))) true]⟩) (by simp only [List.length_set]) ?_
                    refine WO_nil rfl ?_
                    refine thenS_n ?_
                    refine W_seq ?_
                    refine W_region ?_
                    refine guardO_e hv226 (fun hg249 hv226 => ?_)
                    refine WO_step 5 [0, 1] [0, 3, 29, 30, 31, 76] ((0 ≤ i165 ∧ i165 < (((x164.set i165.toNat (w64 ((x164.getD (((x1.getD i165.toNat dnod).parent).toNat) 0) + 1))).length : Nat) : Int)) ∧ (True ∧ (True ∧ True))) ⟨[(0, .one (.e (.sl 0 0 x1.length))), (3, .one (.e (.sl 1 0 ((x164.set i165.toNat (w64 ((x164.getD (((x1.getD i165.toNat dnod).parent).toNat) 0) + 1))).length)))), (29, .one (.e (.sl 0 0 x1.length))), (30, I ((x1.length : Nat) : Int)), (31, I i165), (76, B (decide (4 < ((x164.set i165.toNat (w64 ((x164.getD (((x1.getD i165.toNat dnod).parent).toNat) 0) + 1))).getD i165.toNat 0))))], [.row .nod x1 false, .row .int (x164.set i165.toNat (w64 ((x164.getD (((x1.getD i165.toNat dnod).parent).toNat) 0) + 1))) true]⟩ (by kernel_rfl) ⟨hg249, trivial, trivial, trivial⟩ ?_
                    refine WO_nil rfl ?_
                    refine thenS_n ?_
                    refine iteO_e hv226 (fun hb251 hv226 => W_true rfl hb251 ?_) (fun hb251 hv226 => W_false rfl hb251 ?_)
                    · refine W_seq ?_
                      refine W_region ?_
                      refine WO_step 1 [0] [2] True ⟨[(2, B false)], [.row .nod x1 false]⟩ (by kernel_rfl) trivial ?_
                      refine WO_nil rfl ?_
                      refine thenS_n ?_
                      refine W_ret ?_
                      refine blockS_r ?_
                      cases hv226
                      exact And.intro rfl rfl
                    · refine W_sub [0, 1] [0, 3, 29, 30, 31] (st' := ⟨[(0, .one (.e (.sl 0 0 x1.length))), (3, .one (.e (.sl 1 0 ((x164.set i165.toNat (w64 ((x164.getD (((x1.getD i165.toNat dnod).parent).toNat) 0) + 1))).length)))), (29, .one (.e (.sl 0 0 x1.length))), (30, I ((x1.length : Nat) : Int)), (31, I i165)], [.row .nod x1 false, .row .int (x164.set i165.toNat (w64 ((x164.getD (((x1.getD i165.toNat dnod).parent).toNat) 0) + 1))) true]⟩) (by kernel_rfl) ?_
                      refine W_skip ?_
                      refine blockS_n ?_
                      cases hv226
                      exact And.intro rfl rfl
      · rcases v226 with _ | x225
        · rintro _ _ ⟨rfl, rfl⟩
          refine thenS_r ?_
          refine thenS_r ?_
          cases h
          exact And.intro rfl rfl
        · rintro _ _ ⟨rfl, rfl⟩
          refine thenS_n ?_
          refine W_region ?_
          refine WO_step 2 [0, 1] [0, 3, 29, 30, 31] (True ∧ True) ⟨[(0, .one (.e (.sl 0 0 x1.length))), (3, .one (.e (.sl 1 0 x225.length))), (29, .one (.e (.sl 0 0 x1.length))), (30, I ((x1.length : Nat) : Int)), (31, I (w64 (i165 + 1)))], [.row .nod x1 false, .row .int x225 true]⟩ (by kernel_rfl) ⟨trivial, trivial⟩ ?_
          refine WO_nil rfl ?_
          refine thenS_n ?_
          exact ih _ _ h
    · refine W_sub [0] [] (st' := ⟨[], [.row .nod x1 false]⟩) (by kernel_rfl) ?_
      refine W_exit ?_
      refine thenS_e ?_
      refine thenS_e ?_
      cases h
      exact And.intro rfl rfl

def impl_ValidTree (n : Nat) (x1 : List Nod) : Option (Bool) :=
 iteO ((decide (((x1.length : Nat) : Int) < 1)) || (decide (12 < ((x1.length : Nat) : Int))))
 (some false)
 (guardO (0 ≤ (0 : Int) ∧ (0 : Int) < ((x1.length : Nat) : Int)) <|
 bindO (iteO (!decide (((x1.getD 0 dnod).parent) = (-1)))
 (some true)
 (guardO (0 ≤ (0 : Int) ∧ (0 : Int) < ((x1.length : Nat) : Int)) <|
 some (!decide (((x1.getD 0 dnod).name) = [])))) fun b123 =>
 iteO b123
 (some false)
 (guardO ((((x1.length : Nat) : Int) : Int) = ((x1.length : Nat) : Int) ∧ 0 ≤ ((x1.length : Nat) : Int) ∧ ((x1.length : Nat) : Int) ≤ 1099511627776) <|
 bindO (impl_ValidTree_L1 x1 n (List.replicate (((x1.length : Nat) : Int).toNat) (0 : Int)) 0) fun v252 =>
 match v252 with
 | (.inl _) => (some false)
 | (.inr _) => (some true)
))

theorem impl_ValidTree_ok (n : Nat) (x1 : List Nod) (b114 : Bool) (h : impl_ValidTree n x1 = some b114) : FOk EE 45 [.one (.e (.sl 0 0 x1.length))] [.row .nod x1 false] (B b114) [.row .nod x1 false] := by
  unfold impl_ValidTree at h
  refine FOk_of_W 78 1 Try.func45 rfl rfl (Nat.le_of_ble_eq_true rfl) rfl (fun w X θ => ?_)
  refine W_seq ?_
  refine W_region ?_
  refine WO_step 1 [0] [0] True ⟨[(0, .one (.e (.sl 0 0 x1.length)))], [.row .nod x1 false]⟩ (by kernel_rfl) trivial ?_
  refine WO_nil rfl ?_
  refine thenS_n ?_
  refine W_seq ?_
  refine W_seq ?_
  refine W_region ?_
  refine WO_step 4 [0] [0, 9] (True ∧ (True ∧ True)) ⟨[(0, .one (.e (.sl 0 0 x1.length))), (9, B (decide (((x1.length : Nat) : Int) < 1)))], [.row .nod x1 false]⟩ (by kernel_rfl) ⟨trivial, trivial, trivial⟩ ?_
  refine WO_thru ⟨[(0, .one (.e (.sl 0 0 x1.length))), (13, B ((decide (((x1.length : Nat) : Int) < 1)) || (decide (12 < ((x1.length : Nat) : Int)))))], [.row .nod x1 false]⟩ ?_ ?_
  · refine WO_if 9 rfl (fun hb117 => ?_) (fun hb117 => ?_)
    · refine WO_step 4 [0] [0, 13] True ⟨[(0, .one (.e (.sl 0 0 x1.length))), (13, B true)], [.row .nod x1 false]⟩ (by kernel_rfl) trivial ?_
      exact WO_nil rfl ⟨rfl, by first | rfl | (rw [hb117]; first | done | rfl)⟩
    · refine WO_step 4 [0] [0, 13] (True ∧ (True ∧ True)) ⟨[(0, .one (.e (.sl 0 0 x1.length))), (13, B (decide (12 < ((x1.length : Nat) : Int))))], [.row .nod x1 false]⟩ (by kernel_rfl) ⟨trivial, trivial, trivial⟩ ?_
      exact WO_nil rfl ⟨rfl, by first | rfl | (rw [hb117]; first | done | rfl)⟩
  · refine thenS_n ?_
    refine iteO_e h (fun hb119 h => W_true rfl hb119 ?_) (fun hb119 h => W_false rfl hb119 ?_)
    · refine W_seq ?_
      refine W_region ?_
      refine WO_step 1 [0] [2] True ⟨[(2, B false)], [.row .nod x1 false]⟩ (by kernel_rfl) trivial ?_
      refine WO_nil rfl ?_
      refine thenS_n ?_
      refine W_ret ?_
      refine thenS_r ?_
      cases h
      exact ⟨[0], True, by kernel_rfl, trivial⟩
    · refine W_sub [0] [0] (st' := ⟨[(0, .one (.e (.sl 0 0 x1.length)))], [.row .nod x1 false]⟩) (by kernel_rfl) ?_
      refine W_skip ?_
      refine thenS_n ?_
      refine W_seq ?_
      refine W_seq ?_
      refine W_region ?_
      refine guardO_e h (fun hg120 h => ?_)
      refine WO_step 6 [0] [0, 19] ((0 ≤ (0 : Int) ∧ (0 : Int) < ((x1.length : Nat) : Int)) ∧ (True ∧ (True ∧ True))) ⟨[(0, .one (.e (.sl 0 0 x1.length))), (19, B (!decide (((x1.getD 0 dnod).parent) = (-1))))], [.row .nod x1 false]⟩ (by kernel_rfl) ⟨hg120, trivial, trivial, trivial⟩ ?_
      refine bindO_e h (fun b123 hv124 h => ?_)
      refine WO_thru ⟨[(0, .one (.e (.sl 0 0 x1.length))), (25, B b123)], [.row .nod x1 false]⟩ ?_ ?_
      · refine iteO_e hv124 (fun hb125 hv124 => WO_known 19 true rfl hb125 ?_) (fun hb125 hv124 => WO_known 19 false rfl hb125 ?_)
        · refine WO_step 6 [0] [0, 25] True ⟨[(0, .one (.e (.sl 0 0 x1.length))), (25, B true)], [.row .nod x1 false]⟩ (by kernel_rfl) trivial ?_
          cases hv124
          exact WO_nil rfl ⟨rfl, rfl⟩
        · refine guardO_e hv124 (fun hg126 hv124 => ?_)
          refine WO_step 6 [0] [0, 25] ((0 ≤ (0 : Int) ∧ (0 : Int) < ((x1.length : Nat) : Int)) ∧ (True ∧ (True ∧ True))) ⟨[(0, .one (.e (.sl 0 0 x1.length))), (25, B (!decide (((x1.getD 0 dnod).name) = [])))], [.row .nod x1 false]⟩ (by kernel_rfl) ⟨hg126, trivial, trivial, trivial⟩ ?_
          cases hv124
          exact WO_nil rfl ⟨rfl, rfl⟩
      · refine thenS_n ?_
        refine iteO_e h (fun hb128 h => W_true rfl hb128 ?_) (fun hb128 h => W_false rfl hb128 ?_)
        · refine W_seq ?_
          refine W_region ?_
          refine WO_step 1 [0] [2] True ⟨[(2, B false)], [.row .nod x1 false]⟩ (by kernel_rfl) trivial ?_
          refine WO_nil rfl ?_
          refine thenS_n ?_
          refine W_ret ?_
          refine thenS_r ?_
          cases h
          exact ⟨[0], True, by kernel_rfl, trivial⟩
        · refine W_sub [0] [0] (st' := ⟨[(0, .one (.e (.sl 0 0 x1.length)))], [.row .nod x1 false]⟩) (by kernel_rfl) ?_
          refine W_skip ?_
          refine thenS_n ?_
          refine W_seq ?_
          refine W_region ?_
          refine guardO_e h (fun hg129 h => ?_)
          refine WO_step 4 [0, 1] [0, 3] (True ∧ (((((x1.length : Nat) : Int) : Int) = ((x1.length : Nat) : Int) ∧ 0 ≤ ((x1.length : Nat) : Int) ∧ ((x1.length : Nat) : Int) ≤ 1099511627776) ∧ True)) ⟨[(0, .one (.e (.sl 0 0 x1.length))), (3, .one (.e (.sl 1 0 ((List.replicate (((x1.length : Nat) : Int).toNat) (0 : Int)).length))))], [.row .nod x1 false, .row .int (List.replicate (((x1.length : Nat) : Int).toNat) (0 : Int)) true]⟩ (by kernel_rfl) ⟨trivial, hg129, trivial⟩ ?_
          refine WO_nil rfl ?_
          refine thenS_n ?_
          refine W_seq ?_
          refine W_seq ?_
          refine W_region ?_
          refine WO_step 3 [0, 1] [0, 3, 29, 30, 31] (True ∧ True) ⟨[(0, .one (.e (.sl 0 0 x1.length))), (3, .one (.e (.sl 1 0 ((List.replicate (((x1.length : Nat) : Int).toNat) (0 : Int)).length)))), (29, .one (.e (.sl 0 0 x1.length))), (30, I ((x1.length : Nat) : Int)), (31, I 0)], [.row .nod x1 false, .row .int (List.replicate (((x1.length : Nat) : Int).toNat) (0 : Int)) true]⟩ (by kernel_rfl) ⟨trivial, trivial⟩ ?_
          refine WO_nil rfl ?_
          refine thenS_n ?_
          refine W_block ?_
          refine W_loop ?_
          refine bindO_e h (fun v252 hv252 h => ?_)
          refine WL_cut (impl_ValidTree_L1_ok w X θ x1 v252 n (List.replicate (((x1.length : Nat) : Int).toNat) (0 : Int)) 0 hv252) ?_
          rcases v252 with _ | _
          · rintro _ _ ⟨rfl, rfl⟩
            refine blockS_r ?_
            refine thenS_r ?_
            cases h
            exact ⟨[0], True, by kernel_rfl, trivial⟩
          · rintro _ _ ⟨rfl, rfl⟩
            refine blockS_y ?_
            refine thenS_n ?_
            refine W_seq ?_
            refine W_region ?_
            refine WO_step 1 [0] [2] True ⟨[(2, B true)], [.row .nod x1 false]⟩ (by kernel_rfl) trivial ?_
            refine WO_nil rfl ?_
            refine thenS_n ?_
            refine W_ret ?_
            cases h
            exact ⟨[0], True, by kernel_rfl, trivial⟩

/- impl.ValidLog -/
def impl_ValidLog_L1 (x1 : List Nod) (x2 : List Rcd) : Nat → Int → Option ((Unit) ⊕ (Unit))
| 0, _ => none
| n + 1, i155 =>
 iteO (decide (i155 < ((x2.length : Nat) : Int)))
 (guardO (0 ≤ i155 ∧ i155 < ((x2.length : Nat) : Int)) <|
 iteO ((!(impl_within ((x2.getD i155.toNat drcd).who) 0 3)) || ((!(impl_within ((x2.getD i155.toNat drcd).node) 0 (w64 (((x1.length : Nat) : Int) - 1)))) || (!(impl_within ((x2.getD i155.toNat drcd).value) (-1000) 1000))))
 (some (.inl ()))
 (iteO ((x2.getD i155.toNat drcd).fin && ((!decide (((x2.getD i155.toNat drcd).node) = 0)) || (!decide (((x2.getD i155.toNat drcd).value) = 0))))
 (some (.inl ()))
 (impl_ValidLog_L1 x1 x2 n (w64 (i155 + 1)))))
 (some (.inr ()))

theorem impl_ValidLog_L1_ok (w : World) (X : Nat → Prop) (θ : List Loc) (x1 : List Nod) (x2 : List Rcd) (v : (Unit) ⊕ (Unit)) : ∀ (n : Nat) (i155 : Int), impl_ValidLog_L1 x1 x2 n i155 = some v → WL EE ⟨w, X, θ, 53, 2⟩ (subC [1, 1, 0, 1, 4, 4] (bodyC Try.f16)) (fun (e : Exit) (s : St) => (match v with | (.inl _) => e = .ret ∧ s = ⟨[(4, B false)], [.row .nod x1 false, .row .rcd x2 false]⟩ | (.inr _) => e = .exit 0 ∧ s = ⟨[], [.row .nod x1 false, .row .rcd x2 false]⟩ : Prop)) ⟨[(0, .one (.e (.sl 0 0 x1.length))), (15, .one (.e (.sl 1 0 x2.length))), (16, I ((x2.length : Nat) : Int)), (17, I i155)], [.row .nod x1 false, .row .rcd x2 false]⟩ := by
  intro n
  induction n with
  | zero => intro _ h; exact none_e h
  | succ n ih =>
    intro i155 h
    rw [impl_ValidLog_L1] at h
    refine WL_round ?_
    refine W_seq ?_
    refine W_region ?_
    refine WO_step 1 [0, 1] [0, 15, 16, 17, 18] (True ∧ True) ⟨[(0, .one (.e (.sl 0 0 x1.length))), (15, .one (.e (.sl 1 0 x2.length))), (16, I ((x2.length : Nat) : Int)), (17, I i155), (18, B (decide (i155 < ((x2.length : Nat) : Int))))], [.row .nod x1 false, .row .rcd x2 false]⟩ (by kernel_rfl) ⟨trivial, trivial⟩ ?_
    refine WO_nil rfl ?_
    refine thenS_n ?_
    refine W_seq ?_
    refine iteO_e h (fun hb191 h => W_true rfl hb191 ?_) (fun hb191 h => W_false rfl hb191 ?_)
    · refine W_sub [0, 1] [0, 15, 16, 17] (st' := ⟨[(0, .one (.e (.sl 0 0 x1.length))), (15, .one (.e (.sl 1 0 x2.length))), (16, I ((x2.length : Nat) : Int)), (17, I i155)], [.row .nod x1 false, .row .rcd x2 false]⟩) (by kernel_rfl) ?_
      refine W_skip ?_
      refine thenS_n ?_
      refine W_seq ?_
      refine W_block ?_
      refine W_seq ?_
      refine W_region ?_
      refine guardO_e h (fun hg207 h => ?_)
      refine WO_step 4 [0, 1, 2] [0, 6, 15, 16, 17] ((0 ≤ i155 ∧ i155 < ((x2.length : Nat) : Int)) ∧ (True ∧ (True ∧ (True ∧ True)))) ⟨[(0, .one (.e (.sl 0 0 x1.length))), (6, .one (.e (.p 2 0))), (15, .one (.e (.sl 1 0 x2.length))), (16, I ((x2.length : Nat) : Int)), (17, I i155)], [.row .nod x1 false, .row .rcd x2 false, .cells [cI ((x2.getD i155.toNat drcd).who), cI ((x2.getD i155.toNat drcd).node), cI ((x2.getD i155.toNat drcd).value), cB ((x2.getD i155.toNat drcd).fin)]]⟩ (by kernel_rfl) ⟨hg207, trivial, trivial, trivial, trivial⟩ ?_
      refine WO_nil rfl ?_
      refine thenS_n ?_
      refine W_seq ?_
      refine W_seq ?_
      refine W_region ?_
      refine WO_step 2 [0, 1, 2] [0, 6, 15, 16, 17, 22] (True ∧ True) ⟨[(0, .one (.e (.sl 0 0 x1.length))), (6, .one (.e (.p 2 0))), (15, .one (.e (.sl 1 0 x2.length))), (16, I ((x2.length : Nat) : Int)), (17, I i155), (22, I ((x2.getD i155.toNat drcd).who))], [.row .nod x1 false, .row .rcd x2 false, .cells [cI ((x2.getD i155.toNat drcd).who), cI ((x2.getD i155.toNat drcd).node), cI ((x2.getD i155.toNat drcd).value), cB ((x2.getD i155.toNat drcd).fin)]]⟩ (by kernel_rfl) ⟨trivial, trivial⟩ ?_
      refine WO_call [] Try.f46 rfl rfl rfl (by kernel_rfl) rfl rfl (by kernel_rfl) (impl_within_ok ((x2.getD i155.toNat drcd).who) 0 3) (trivial) rfl ?_
      refine WO_step 2 [0, 1, 2] [0, 6, 15, 16, 17, 25] True ⟨[(0, .one (.e (.sl 0 0 x1.length))), (6, .one (.e (.p 2 0))), (15, .one (.e (.sl 1 0 x2.length))), (16, I ((x2.length : Nat) : Int)), (17, I i155), (25, B (!(impl_within ((x2.getD i155.toNat drcd).who) 0 3)))], [.row .nod x1 false, .row .rcd x2 false, .cells [cI ((x2.getD i155.toNat drcd).who), cI ((x2.getD i155.toNat drcd).node), cI ((x2.getD i155.toNat drcd).value), cB ((x2.getD i155.toNat drcd).fin)]]⟩ (by kernel_rfl) trivial ?_
      refine WO_thru ⟨[(0, .one (.e (.sl 0 0 x1.length))), (6, .one (.e (.p 2 0))), (15, .one (.e (.sl 1 0 x2.length))), (16, I ((x2.length : Nat) : Int)), (17, I i155), (39, B ((!(impl_within ((x2.getD i155.toNat drcd).who) 0 3)) || ((!(impl_within ((x2.getD i155.toNat drcd).node) 0 (w64 (((x1.length : Nat) : Int) - 1)))) || (!(impl_within ((x2.getD i155.toNat drcd).value) (-1000) 1000)))))], [.row .nod x1 false, .row .rcd x2 false, .cells [cI ((x2.getD i155.toNat drcd).who), cI ((x2.getD i155.toNat drcd).node), cI ((x2.getD i155.toNat drcd).value), cB ((x2.getD i155.toNat drcd).fin)]]⟩ ?_ ?_
      · refine WO_if 25 rfl (fun hb211 => ?_) (fun hb211 => ?_)
        · refine WO_step 14 [0, 1, 2] [0, 6, 15, 16, 17, 39] True ⟨[(0, .one (.e (.sl 0 0 x1.length))), (6, .one (.e (.p 2 0))), (15, .one (.e (.sl 1 0 x2.length))), (16, I ((x2.length : Nat) : Int)), (17, I i155), (39, B true)], [.row .nod x1 false, .row .rcd x2 false, .cells [cI ((x2.getD i155.toNat drcd).who), cI ((x2.getD i155.toNat drcd).node), cI ((x2.getD i155.toNat drcd).value), cB ((x2.getD i155.toNat drcd).fin)]]⟩ (by kernel_rfl) trivial ?_
          exact WO_nil rfl ⟨rfl, by first | rfl | (rw [hb211]; first | done | rfl)⟩
        · refine WO_step 5 [0, 1, 2] [0, 6, 15, 16, 17, 25, 27, 30] (True ∧ (True ∧ (True ∧ True))) ⟨[(0, .one (.e (.sl 0 0 x1.length))), (6, .one (.e (.p 2 0))), (15, .one (.e (.sl 1 0 x2.length))), (16, I ((x2.length : Nat) : Int)), (17, I i155), (25, B false), (27, I ((x2.getD i155.toNat drcd).node)), (30, I (w64 (((x1.length : Nat) : Int) - 1)))], [.row .nod x1 false, .row .rcd x2 false, .cells [cI ((x2.getD i155.toNat drcd).who), cI ((x2.getD i155.toNat drcd).node), cI ((x2.getD i155.toNat drcd).value), cB ((x2.getD i155.toNat drcd).fin)]]⟩ (by kernel_rfl) ⟨trivial, trivial, trivial, trivial⟩ ?_
          refine WO_call [] Try.f46 rfl rfl rfl (by kernel_rfl) rfl rfl (by kernel_rfl) (impl_within_ok ((x2.getD i155.toNat drcd).node) 0 (w64 (((x1.length : Nat) : Int) - 1))) (trivial) rfl ?_
          refine WO_step 3 [0, 1, 2] [0, 6, 15, 16, 17, 34] True ⟨[(0, .one (.e (.sl 0 0 x1.length))), (6, .one (.e (.p 2 0))), (15, .one (.e (.sl 1 0 x2.length))), (16, I ((x2.length : Nat) : Int)), (17, I i155), (34, B (!(impl_within ((x2.getD i155.toNat drcd).node) 0 (w64 (((x1.length : Nat) : Int) - 1)))))], [.row .nod x1 false, .row .rcd x2 false, .cells [cI ((x2.getD i155.toNat drcd).who), cI ((x2.getD i155.toNat drcd).node), cI ((x2.getD i155.toNat drcd).value), cB ((x2.getD i155.toNat drcd).fin)]]⟩ (by kernel_rfl) trivial ?_
          refine WO_if 34 rfl (fun hb212 => ?_) (fun hb212 => ?_)
          · refine WO_step 5 [0, 1, 2] [0, 6, 15, 16, 17, 39] True ⟨[(0, .one (.e (.sl 0 0 x1.length))), (6, .one (.e (.p 2 0))), (15, .one (.e (.sl 1 0 x2.length))), (16, I ((x2.length : Nat) : Int)), (17, I i155), (39, B true)], [.row .nod x1 false, .row .rcd x2 false, .cells [cI ((x2.getD i155.toNat drcd).who), cI ((x2.getD i155.toNat drcd).node), cI ((x2.getD i155.toNat drcd).value), cB ((x2.getD i155.toNat drcd).fin)]]⟩ (by kernel_rfl) trivial ?_
            exact WO_nil rfl ⟨rfl, by first | rfl | (simp only [hb211, hb212]; first | done | rfl)⟩
          · refine WO_step 2 [0, 1, 2] [0, 6, 15, 16, 17, 34, 36] (True ∧ True) ⟨[(0, .one (.e (.sl 0 0 x1.length))), (6, .one (.e (.p 2 0))), (15, .one (.e (.sl 1 0 x2.length))), (16, I ((x2.length : Nat) : Int)), (17, I i155), (34, B false), (36, I ((x2.getD i155.toNat drcd).value))], [.row .nod x1 false, .row .rcd x2 false, .cells [cI ((x2.getD i155.toNat drcd).who), cI ((x2.getD i155.toNat drcd).node), cI ((x2.getD i155.toNat drcd).value), cB ((x2.getD i155.toNat drcd).fin)]]⟩ (by kernel_rfl) ⟨trivial, trivial⟩ ?_
            refine WO_call [] Try.f46 rfl rfl rfl (by kernel_rfl) rfl rfl (by kernel_rfl) (impl_within_ok ((x2.getD i155.toNat drcd).value) (-1000) 1000) (trivial) rfl ?_
            refine WO_step 2 [0, 1, 2] [0, 6, 15, 16, 17, 39] True ⟨[(0, .one (.e (.sl 0 0 x1.length))), (6, .one (.e (.p 2 0))), (15, .one (.e (.sl 1 0 x2.length))), (16, I ((x2.length : Nat) : Int)), (17, I i155), (39, B (!(impl_within ((x2.getD i155.toNat drcd).value) (-1000) 1000)))], [.row .nod x1 false, .row .rcd x2 false, .cells [cI ((x2.getD i155.toNat drcd).who), cI ((x2.getD i155.toNat drcd).node), cI ((x2.getD i155.toNat drcd).value), cB ((x2.getD i155.toNat drcd).fin)]]⟩ (by kernel_rfl) trivial ?_
            exact WO_nil rfl ⟨rfl, by first | rfl | (simp only [hb211, hb212]; first | done | rfl)⟩
      · refine thenS_n ?_
        refine iteO_e h (fun hb214 h => W_true rfl hb214 ?_) (fun hb214 h => W_false rfl hb214 ?_)
        · refine W_seq ?_
          refine W_region ?_
          refine WO_step 1 [0, 1] [4] True ⟨[(4, B false)], [.row .nod x1 false, .row .rcd x2 false]⟩ (by kernel_rfl) trivial ?_
          refine WO_nil rfl ?_
          refine thenS_n ?_
          refine W_ret ?_
          refine thenS_r ?_
          refine blockS_r ?_
          refine thenS_r ?_
          refine thenS_r ?_
          cases h
          exact And.intro rfl rfl
        · refine W_sub [0, 1, 2] [0, 6, 15, 16, 17] (st' := ⟨[(0, .one (.e (.sl 0 0 x1.length))), (6, .one (.e (.p 2 0))), (15, .one (.e (.sl 1 0 x2.length))), (16, I ((x2.length : Nat) : Int)), (17, I i155)], [.row .nod x1 false, .row .rcd x2 false, .cells [cI ((x2.getD i155.toNat drcd).who), cI ((x2.getD i155.toNat drcd).node), cI ((x2.getD i155.toNat drcd).value), cB ((x2.getD i155.toNat drcd).fin)]]⟩) (by kernel_rfl) ?_
          refine W_skip ?_
          refine thenS_n ?_
          refine W_seq ?_
          refine W_region ?_
          refine WO_step 3 [0, 1, 2] [0, 6, 15, 16, 17, 42] (True ∧ True) ⟨[(0, .one (.e (.sl 0 0 x1.length))), (6, .one (.e (.p 2 0))), (15, .one (.e (.sl 1 0 x2.length))), (16, I ((x2.length : Nat) : Int)), (17, I i155), (42, B ((x2.getD i155.toNat drcd).fin))], [.row .nod x1 false, .row .rcd x2 false, .cells [cI ((x2.getD i155.toNat drcd).who), cI ((x2.getD i155.toNat drcd).node), cI ((x2.getD i155.toNat drcd).value), cB ((x2.getD i155.toNat drcd).fin)]]⟩ (by kernel_rfl) ⟨trivial, trivial⟩ ?_
          refine WO_thru ⟨[(0, .one (.e (.sl 0 0 x1.length))), (15, .one (.e (.sl 1 0 x2.length))), (16, I ((x2.length : Nat) : Int)), (17, I i155), (51, B ((x2.getD i155.toNat drcd).fin && ((!decide (((x2.getD i155.toNat drcd).node) = 0)) || (!decide (((x2.getD i155.toNat drcd).value) = 0)))))], [.row .nod x1 false, .row .rcd x2 false]⟩ ?_ ?_
          · refine WO_if 42 rfl (fun hb218 => ?_) (fun hb218 => ?_)
            · refine WO_step 4 [0, 1, 2] [0, 6, 15, 16, 17, 42, 46] (True ∧ (True ∧ True)) ⟨[(0, .one (.e (.sl 0 0 x1.length))), (6, .one (.e (.p 2 0))), (15, .one (.e (.sl 1 0 x2.length))), (16, I ((x2.length : Nat) : Int)), (17, I i155), (42, B true), (46, B (!decide (((x2.getD i155.toNat drcd).node) = 0)))], [.row .nod x1 false, .row .rcd x2 false, .cells [cI ((x2.getD i155.toNat drcd).who), cI ((x2.getD i155.toNat drcd).node), cI ((x2.getD i155.toNat drcd).value), cB ((x2.getD i155.toNat drcd).fin)]]⟩ (by kernel_rfl) ⟨trivial, trivial, trivial⟩ ?_
              refine WO_if 46 rfl (fun hb219 => ?_) (fun hb219 => ?_)
              · refine WO_step 5 [0, 1] [0, 15, 16, 17, 51] True ⟨[(0, .one (.e (.sl 0 0 x1.length))), (15, .one (.e (.sl 1 0 x2.length))), (16, I ((x2.length : Nat) : Int)), (17, I i155), (51, B true)], [.row .nod x1 false, .row .rcd x2 false]⟩ (by kernel_rfl) trivial ?_
                exact WO_nil rfl ⟨rfl, by first | rfl | (simp only [hb218, hb219]; first | done | rfl)⟩
              · refine WO_step 5 [0, 1] [0, 15, 16, 17, 51] (True ∧ (True ∧ True)) ⟨[(0, .one (.e (.sl 0 0 x1.length))), (15, .one (.e (.sl 1 0 x2.length))), (16, I ((x2.length : Nat) : Int)), (17, I i155), (51, B (!decide (((x2.getD i155.toNat drcd).value) = 0)))], [.row .nod x1 false, .row .rcd x2 false]⟩ (by kernel_rfl) ⟨trivial, trivial, trivial⟩ ?_
                exact WO_nil rfl ⟨rfl, by first | rfl | (simp only [hb218, hb219]; first | done | rfl)⟩
            · refine WO_step 9 [0, 1] [0, 15, 16, 17, 51] True ⟨[(0, .one (.e (.sl 0 0 x1.length))), (15, .one (.e (.sl 1 0 x2.length))), (16, I ((x2.length : Nat) : Int)), (17, I i155), (51, B false)], [.row .nod x1 false, .row .rcd x2 false]⟩ (by kernel_rfl) trivial ?_
              exact WO_nil rfl ⟨rfl, by first | rfl | (rw [hb218]; first | done | rfl)⟩
          · refine thenS_n ?_
            refine iteO_e h (fun hb221 h => W_true rfl hb221 ?_) (fun hb221 h => W_false rfl hb221 ?_)
            · refine W_seq ?_
              refine W_region ?_
              refine WO_step 1 [0, 1] [4] True ⟨[(4, B false)], [.row .nod x1 false, .row .rcd x2 false]⟩ (by kernel_rfl) trivial ?_
              refine WO_nil rfl ?_
              refine thenS_n ?_
              refine W_ret ?_
              refine blockS_r ?_
              refine thenS_r ?_
              refine thenS_r ?_
              cases h
              exact And.intro rfl rfl
            · refine W_sub [0, 1] [0, 15, 16, 17] (st' := ⟨[(0, .one (.e (.sl 0 0 x1.length))), (15, .one (.e (.sl 1 0 x2.length))), (16, I ((x2.length : Nat) : Int)), (17, I i155)], [.row .nod x1 false, .row .rcd x2 false]⟩) (by kernel_rfl) ?_
              refine W_skip ?_
              refine blockS_n ?_
              refine thenS_n ?_
              refine W_region ?_
              refine WO_step 2 [0, 1] [0, 15, 16, 17] (True ∧ True) ⟨[(0, .one (.e (.sl 0 0 x1.length))), (15, .one (.e (.sl 1 0 x2.length))), (16, I ((x2.length : Nat) : Int)), (17, I (w64 (i155 + 1)))], [.row .nod x1 false, .row .rcd x2 false]⟩ (by kernel_rfl) ⟨trivial, trivial⟩ ?_
              refine WO_nil rfl ?_
              refine thenS_n ?_
              exact ih _ h
    · refine W_sub [0, 1] [] (st' := ⟨[], [.row .nod x1 false, .row .rcd x2 false]⟩) (by kernel_rfl) ?_
      refine W_exit ?_
      refine thenS_e ?_
      refine thenS_e ?_
      cases h
      exact And.intro rfl rfl

def impl_ValidLog (n : Nat) (x1 : List Nod) (x2 : List Rcd) : Option (Bool) :=
 bindO (impl_ValidTree n x1) fun b113 =>
 iteO ((!b113) || (decide (16 < ((x2.length : Nat) : Int))))
 (some false)
 (bindO (impl_ValidLog_L1 x1 x2 n 0) fun v222 =>
 match v222 with
 | (.inl _) => (some false)
 | (.inr _) => (some true)
)

theorem impl_ValidLog_ok (n : Nat) (x1 : List Nod) (x2 : List Rcd) (b112 : Bool) (h : impl_ValidLog n x1 x2 = some b112) : FOk EE 16 [.one (.e (.sl 0 0 x1.length)), .one (.e (.sl 1 0 x2.length))] [.row .nod x1 false, .row .rcd x2 false] (B b112) [.row .nod x1 false, .row .rcd x2 false] := by
  unfold impl_ValidLog at h
  refine FOk_of_W 53 2 Try.func16 rfl rfl (Nat.le_of_ble_eq_true rfl) rfl (fun w X θ => ?_)
  refine W_seq ?_
  refine W_region ?_
  refine WO_step 1 [0, 1] [0, 1] True ⟨[(0, .one (.e (.sl 0 0 x1.length))), (1, .one (.e (.sl 1 0 x2.length)))], [.row .nod x1 false, .row .rcd x2 false]⟩ (by kernel_rfl) trivial ?_
  refine WO_nil rfl ?_
  refine thenS_n ?_
  refine W_seq ?_
  refine W_seq ?_
  refine W_region ?_
  refine WO_step 1 [0, 1] [0, 1, 7] True ⟨[(0, .one (.e (.sl 0 0 x1.length))), (1, .one (.e (.sl 1 0 x2.length))), (7, .one (.e (.sl 0 0 x1.length)))], [.row .nod x1 false, .row .rcd x2 false]⟩ (by kernel_rfl) trivial ?_
  refine bindO_e h (fun b113 hc114 h => ?_)
  refine WO_call [.ro 0] Try.f45 rfl rfl rfl (by kernel_rfl) rfl rfl (by kernel_rfl) (impl_ValidTree_ok n x1 b113 hc114) (And.intro (And.intro rfl rfl) (trivial)) rfl ?_
  refine WO_step 2 [0, 1] [0, 1, 10] True ⟨[(0, .one (.e (.sl 0 0 x1.length))), (1, .one (.e (.sl 1 0 x2.length))), (10, B (!b113))], [.row .nod x1 false, .row .rcd x2 false]⟩ (by kernel_rfl) trivial ?_
  refine WO_thru ⟨[(0, .one (.e (.sl 0 0 x1.length))), (1, .one (.e (.sl 1 0 x2.length))), (14, B ((!b113) || (decide (16 < ((x2.length : Nat) : Int)))))], [.row .nod x1 false, .row .rcd x2 false]⟩ ?_ ?_
  · refine WO_if 10 rfl (fun hb117 => ?_) (fun hb117 => ?_)
    · refine WO_step 4 [0, 1] [0, 1, 14] True ⟨[(0, .one (.e (.sl 0 0 x1.length))), (1, .one (.e (.sl 1 0 x2.length))), (14, B true)], [.row .nod x1 false, .row .rcd x2 false]⟩ (by kernel_rfl) trivial ?_
      exact WO_nil rfl ⟨rfl, by first | rfl | (rw [hb117]; first | done | rfl)⟩
    · refine WO_step 4 [0, 1] [0, 1, 14] (True ∧ (True ∧ True)) ⟨[(0, .one (.e (.sl 0 0 x1.length))), (1, .one (.e (.sl 1 0 x2.length))), (14, B (decide (16 < ((x2.length : Nat) : Int))))], [.row .nod x1 false, .row .rcd x2 false]⟩ (by kernel_rfl) ⟨trivial, trivial, trivial⟩ ?_
      exact WO_nil rfl ⟨rfl, by first | rfl | (rw [hb117]; first | done | rfl)⟩
  · refine thenS_n ?_
    refine iteO_e h (fun hb119 h => W_true rfl hb119 ?_) (fun hb119 h => W_false rfl hb119 ?_)
    · refine W_seq ?_
      refine W_region ?_
      refine WO_step 1 [0, 1] [4] True ⟨[(4, B false)], [.row .nod x1 false, .row .rcd x2 false]⟩ (by kernel_rfl) trivial ?_
      refine WO_nil rfl ?_
      refine thenS_n ?_
      refine W_ret ?_
      refine thenS_r ?_
      cases h
      exact ⟨[0, 1], True, by kernel_rfl, trivial⟩
    · refine W_sub [0, 1] [0, 1] (st' := ⟨[(0, .one (.e (.sl 0 0 x1.length))), (1, .one (.e (.sl 1 0 x2.length)))], [.row .nod x1 false, .row .rcd x2 false]⟩) (by kernel_rfl) ?_
      refine W_skip ?_
      refine thenS_n ?_
      refine W_seq ?_
      refine W_seq ?_
      refine W_region ?_
      refine WO_step 3 [0, 1] [0, 15, 16, 17] (True ∧ True) ⟨[(0, .one (.e (.sl 0 0 x1.length))), (15, .one (.e (.sl 1 0 x2.length))), (16, I ((x2.length : Nat) : Int)), (17, I 0)], [.row .nod x1 false, .row .rcd x2 false]⟩ (by kernel_rfl) ⟨trivial, trivial⟩ ?_
      refine WO_nil rfl ?_
      refine thenS_n ?_
      refine W_block ?_
      refine W_loop ?_
      refine bindO_e h (fun v222 hv222 h => ?_)
      refine WL_cut (impl_ValidLog_L1_ok w X θ x1 x2 v222 n 0 hv222) ?_
      rcases v222 with _ | _
      · rintro _ _ ⟨rfl, rfl⟩
        refine blockS_r ?_
        refine thenS_r ?_
        cases h
        exact ⟨[0, 1], True, by kernel_rfl, trivial⟩
      · rintro _ _ ⟨rfl, rfl⟩
        refine blockS_y ?_
        refine thenS_n ?_
        refine W_seq ?_
        refine W_region ?_
        refine WO_step 1 [0, 1] [4] True ⟨[(4, B true)], [.row .nod x1 false, .row .rcd x2 false]⟩ (by kernel_rfl) trivial ?_
        refine WO_nil rfl ?_
        refine thenS_n ?_
        refine W_ret ?_
        cases h
        exact ⟨[0, 1], True, by kernel_rfl, trivial⟩

/- impl.isDone -/
def impl_isDone_L1 (x1 : List Rcd) (i2 : Int) : Nat → Int → Option ((Unit) ⊕ (Unit))
| 0, _ => none
| n + 1, i85 =>
 iteO (decide (i85 < (((x1.length - (w64 (i2 + 1)).toNat) : Nat) : Int)))
 (guardO (0 ≤ i85 ∧ i85 < (((x1.length - (w64 (i2 + 1)).toNat) : Nat) : Int)) <|
 bindO (iteO ((x1.getD (addN ((w64 (i2 + 1)).toNat) i85.toNat) drcd).fin)
 (guardO (0 ≤ i2 ∧ i2 < ((x1.length : Nat) : Int)) <|
 some (decide (((x1.getD (addN ((w64 (i2 + 1)).toNat) i85.toNat) drcd).who) = ((x1.getD i2.toNat drcd).who))))
 (some false)) fun b116 =>
 iteO b116
 (some (.inl ()))
 (impl_isDone_L1 x1 i2 n (w64 (i85 + 1))))
 (some (.inr ()))

theorem impl_isDone_L1_ok (w : World) (X : Nat → Prop) (θ : List Loc) (x1 : List Rcd) (i2 : Int) (v : (Unit) ⊕ (Unit)) : ∀ (n : Nat) (i85 : Int), impl_isDone_L1 x1 i2 n i85 = some v → WL EE ⟨w, X, θ, 34, 1⟩ (subC [1, 1, 0, 1, 4, 4] (bodyC Try.f40)) (fun (e : Exit) (s : St) => (match v with | (.inl _) => e = .ret ∧ s = ⟨[(4, B true)], [.row .rcd x1 false]⟩ | (.inr _) => e = .exit 0 ∧ s = ⟨[], [.row .rcd x1 false]⟩ : Prop)) ⟨[(0, .one (.e (.sl 0 0 x1.length))), (1, I i2), (15, .one (.e (.sl 0 ((w64 (i2 + 1)).toNat) (x1.length - (w64 (i2 + 1)).toNat)))), (16, I (((x1.length - (w64 (i2 + 1)).toNat) : Nat) : Int)), (17, I i85)], [.row .rcd x1 false]⟩ := by
  intro n
  induction n with
  | zero => intro _ h; exact none_e h
  | succ n ih =>
    intro i85 h
    rw [impl_isDone_L1] at h
    refine WL_round ?_
    refine W_seq ?_
    refine W_region ?_
    refine WO_step 1 [0] [0, 1, 15, 16, 17, 18] (True ∧ True) ⟨[(0, .one (.e (.sl 0 0 x1.length))), (1, I i2), (15, .one (.e (.sl 0 ((w64 (i2 + 1)).toNat) (x1.length - (w64 (i2 + 1)).toNat)))), (16, I (((x1.length - (w64 (i2 + 1)).toNat) : Nat) : Int)), (17, I i85), (18, B (decide (i85 < (((x1.length - (w64 (i2 + 1)).toNat) : Nat) : Int))))], [.row .rcd x1 false]⟩ (by kernel_rfl) ⟨trivial, trivial⟩ ?_
    refine WO_nil rfl ?_
    refine thenS_n ?_
    refine W_seq ?_
    refine iteO_e h (fun hb105 h => W_true rfl hb105 ?_) (fun hb105 h => W_false rfl hb105 ?_)
    · refine W_sub [0] [0, 1, 15, 16, 17] (st' := ⟨[(0, .one (.e (.sl 0 0 x1.length))), (1, I i2), (15, .one (.e (.sl 0 ((w64 (i2 + 1)).toNat) (x1.length - (w64 (i2 + 1)).toNat)))), (16, I (((x1.length - (w64 (i2 + 1)).toNat) : Nat) : Int)), (17, I i85)], [.row .rcd x1 false]⟩) (by kernel_rfl) ?_
      refine W_skip ?_
      refine thenS_n ?_
      refine W_seq ?_
      refine W_block ?_
      refine W_seq ?_
      refine W_region ?_
      refine guardO_e h (fun hg113 h => ?_)
      refine WO_step 4 [0, 1] [0, 1, 6, 15, 16, 17] ((0 ≤ i85 ∧ i85 < (((x1.length - (w64 (i2 + 1)).toNat) : Nat) : Int)) ∧ (True ∧ (True ∧ (True ∧ True)))) ⟨[(0, .one (.e (.sl 0 0 x1.length))), (1, I i2), (6, .one (.e (.p 1 0))), (15, .one (.e (.sl 0 ((w64 (i2 + 1)).toNat) (x1.length - (w64 (i2 + 1)).toNat)))), (16, I (((x1.length - (w64 (i2 + 1)).toNat) : Nat) : Int)), (17, I i85)], [.row .rcd x1 false, .cells [cI ((x1.getD (addN ((w64 (i2 + 1)).toNat) i85.toNat) drcd).who), cI ((x1.getD (addN ((w64 (i2 + 1)).toNat) i85.toNat) drcd).node), cI ((x1.getD (addN ((w64 (i2 + 1)).toNat) i85.toNat) drcd).value), cB ((x1.getD (addN ((w64 (i2 + 1)).toNat) i85.toNat) drcd).fin)]]⟩ (by kernel_rfl) ⟨hg113, trivial, trivial, trivial, trivial⟩ ?_
      refine WO_nil rfl ?_
      refine thenS_n ?_
      refine W_seq ?_
      refine bindO_e h (fun b116 hv117 h => ?_)
      refine W_cut (Q' := fun (e : Exit) (s : St) => e = .normal ∧ s = ⟨[(0, .one (.e (.sl 0 0 x1.length))), (1, I i2), (15, .one (.e (.sl 0 ((w64 (i2 + 1)).toNat) (x1.length - (w64 (i2 + 1)).toNat)))), (16, I (((x1.length - (w64 (i2 + 1)).toNat) : Nat) : Int)), (17, I i85), (32, B b116)], [.row .rcd x1 false]⟩) ?_ ?_
      · refine iteO_e hv117 (fun hb114 hv117 => ?_) (fun hb114 hv117 => ?_)
        · refine guardO_e hv117 (fun hg115 hv117 => ?_)
          refine W_draw [] true (by kernel_rfl) (by kernel_rfl) ?_
          refine WD_takeK [0, 1, 2] [0, 1, 6, 15, 16, 17, 23] [0, 1, 6, 15, 16, 17, 23] (φ := (True ∧ True ∧ True)) (ls' := #[true, true, true, false, false, false, false, false, false, false, false, false]) (Ts' := [(0, .one (.e (.sl 0 0 x1.length))), (1, I i2), (6, .one (.e (.p 1 0))), (15, .one (.e (.sl 0 ((w64 (i2 + 1)).toNat) (x1.length - (w64 (i2 + 1)).toNat)))), (16, I (((x1.length - (w64 (i2 + 1)).toNat) : Nat) : Int)), (17, I i85), (23, B ((x1.getD (addN ((w64 (i2 + 1)).toNat) i85.toNat) drcd).fin))]) (st' := ⟨[(0, .one (.e (.sl 0 0 x1.length))), (1, I i2), (6, .one (.e (.p 1 0))), (15, .one (.e (.sl 0 ((w64 (i2 + 1)).toNat) (x1.length - (w64 (i2 + 1)).toNat)))), (16, I (((x1.length - (w64 (i2 + 1)).toNat) : Nat) : Int)), (17, I i85), (23, B ((x1.getD (addN ((w64 (i2 + 1)).toNat) i85.toNat) drcd).fin))], [.row .rcd x1 false, .cells [cI ((x1.getD (addN ((w64 (i2 + 1)).toNat) i85.toNat) drcd).who), cI ((x1.getD (addN ((w64 (i2 + 1)).toNat) i85.toNat) drcd).node), cI ((x1.getD (addN ((w64 (i2 + 1)).toNat) i85.toNat) drcd).value), cB ((x1.getD (addN ((w64 (i2 + 1)).toNat) i85.toNat) drcd).fin)]]⟩) (n2 := 9) (by kernel_rfl) ⟨trivial, trivial, trivial⟩ rfl ?_
          refine WD_known 23 true rfl rfl hb114 ?_
          refine WD_takeK [3, 4, 5, 6, 7, 8, 9, 10, 11] [0, 1, 15, 16, 17, 32] [0, 1, 15, 16, 17, 32] (φ := (True ∧ True ∧ ((0 ≤ i2 ∧ i2 < ((x1.length : Nat) : Int)) ∧ (0 ≤ i2 ∧ i2 < ((x1.length : Nat) : Int)) ∧ (True ∧ True ∧ (True ∧ True ∧ True))))) (ls' := #[true, true, true, true, true, true, true, true, true, true, true, true]) (Ts' := [(0, .one (.e (.sl 0 0 x1.length))), (1, I i2), (15, .one (.e (.sl 0 ((w64 (i2 + 1)).toNat) (x1.length - (w64 (i2 + 1)).toNat)))), (16, I (((x1.length - (w64 (i2 + 1)).toNat) : Nat) : Int)), (17, I i85), (32, B (decide (((x1.getD (addN ((w64 (i2 + 1)).toNat) i85.toNat) drcd).who) = ((x1.getD i2.toNat drcd).who))))]) (st' := ⟨[(0, .one (.e (.sl 0 0 x1.length))), (1, I i2), (15, .one (.e (.sl 0 ((w64 (i2 + 1)).toNat) (x1.length - (w64 (i2 + 1)).toNat)))), (16, I (((x1.length - (w64 (i2 + 1)).toNat) : Nat) : Int)), (17, I i85), (32, B (decide (((x1.getD (addN ((w64 (i2 + 1)).toNat) i85.toNat) drcd).who) = ((x1.getD i2.toNat drcd).who))))], [.row .rcd x1 false, .cells [cI ((x1.getD (addN ((w64 (i2 + 1)).toNat) i85.toNat) drcd).who), cI ((x1.getD (addN ((w64 (i2 + 1)).toNat) i85.toNat) drcd).node), cI ((x1.getD (addN ((w64 (i2 + 1)).toNat) i85.toNat) drcd).value), cB ((x1.getD (addN ((w64 (i2 + 1)).toNat) i85.toNat) drcd).fin)]]⟩) (n2 := 0) (by kernel_rfl) ⟨trivial, trivial, hg115, hg115, trivial, trivial, trivial, trivial, trivial⟩ rfl ?_
          exact WD_done [0] [0, 1, 15, 16, 17, 32] (st' := ⟨[(0, .one (.e (.sl 0 0 x1.length))), (1, I i2), (15, .one (.e (.sl 0 ((w64 (i2 + 1)).toNat) (x1.length - (w64 (i2 + 1)).toNat)))), (16, I (((x1.length - (w64 (i2 + 1)).toNat) : Nat) : Int)), (17, I i85), (32, B (decide (((x1.getD (addN ((w64 (i2 + 1)).toNat) i85.toNat) drcd).who) = ((x1.getD i2.toNat drcd).who))))], [.row .rcd x1 false]⟩) (by kernel_rfl) (by kernel_rfl) (And.intro rfl (by cases hv117; rfl))
        · refine W_draw [] true (by kernel_rfl) (by kernel_rfl) ?_
          refine WD_takeK [0, 1, 2] [0, 1, 6, 15, 16, 17, 23] [0, 1, 6, 15, 16, 17, 23] (φ := (True ∧ True ∧ True)) (ls' := #[true, true, true, false, false, false, false, false, false, false, false, false]) (Ts' := [(0, .one (.e (.sl 0 0 x1.length))), (1, I i2), (6, .one (.e (.p 1 0))), (15, .one (.e (.sl 0 ((w64 (i2 + 1)).toNat) (x1.length - (w64 (i2 + 1)).toNat)))), (16, I (((x1.length - (w64 (i2 + 1)).toNat) : Nat) : Int)), (17, I i85), (23, B ((x1.getD (addN ((w64 (i2 + 1)).toNat) i85.toNat) drcd).fin))]) (st' := ⟨[(0, .one (.e (.sl 0 0 x1.length))), (1, I i2), (6, .one (.e (.p 1 0))), (15, .one (.e (.sl 0 ((w64 (i2 + 1)).toNat) (x1.length - (w64 (i2 + 1)).toNat)))), (16, I (((x1.length - (w64 (i2 + 1)).toNat) : Nat) : Int)), (17, I i85), (23, B ((x1.getD (addN ((w64 (i2 + 1)).toNat) i85.toNat) drcd).fin))], [.row .rcd x1 false, .cells [cI ((x1.getD (addN ((w64 (i2 + 1)).toNat) i85.toNat) drcd).who), cI ((x1.getD (addN ((w64 (i2 + 1)).toNat) i85.toNat) drcd).node), cI ((x1.getD (addN ((w64 (i2 + 1)).toNat) i85.toNat) drcd).value), cB ((x1.getD (addN ((w64 (i2 + 1)).toNat) i85.toNat) drcd).fin)]]⟩) (n2 := 9) (by kernel_rfl) ⟨trivial, trivial, trivial⟩ rfl ?_
          refine WD_known 23 false rfl rfl hb114 ?_
          refine WD_takeK [3, 4, 5, 6, 7, 8, 9, 10, 11] [0, 1, 15, 16, 17, 32] [0, 1, 15, 16, 17, 32] (φ := True) (ls' := #[true, true, true, true, true, true, true, true, true, true, true, true]) (Ts' := [(0, .one (.e (.sl 0 0 x1.length))), (1, I i2), (15, .one (.e (.sl 0 ((w64 (i2 + 1)).toNat) (x1.length - (w64 (i2 + 1)).toNat)))), (16, I (((x1.length - (w64 (i2 + 1)).toNat) : Nat) : Int)), (17, I i85), (32, B false)]) (st' := ⟨[(0, .one (.e (.sl 0 0 x1.length))), (1, I i2), (15, .one (.e (.sl 0 ((w64 (i2 + 1)).toNat) (x1.length - (w64 (i2 + 1)).toNat)))), (16, I (((x1.length - (w64 (i2 + 1)).toNat) : Nat) : Int)), (17, I i85), (32, B false)], [.row .rcd x1 false, .cells [cI ((x1.getD (addN ((w64 (i2 + 1)).toNat) i85.toNat) drcd).who), cI ((x1.getD (addN ((w64 (i2 + 1)).toNat) i85.toNat) drcd).node), cI ((x1.getD (addN ((w64 (i2 + 1)).toNat) i85.toNat) drcd).value), cB ((x1.getD (addN ((w64 (i2 + 1)).toNat) i85.toNat) drcd).fin)]]⟩) (n2 := 0) (by kernel_rfl) trivial rfl ?_
          exact WD_done [0] [0, 1, 15, 16, 17, 32] (st' := ⟨[(0, .one (.e (.sl 0 0 x1.length))), (1, I i2), (15, .one (.e (.sl 0 ((w64 (i2 + 1)).toNat) (x1.length - (w64 (i2 + 1)).toNat)))), (16, I (((x1.length - (w64 (i2 + 1)).toNat) : Nat) : Int)), (17, I i85), (32, B false)], [.row .rcd x1 false]⟩) (by kernel_rfl) (by kernel_rfl) (And.intro rfl (by cases hv117; rfl))
      · rintro _ _ ⟨rfl, rfl⟩
        refine thenS_n ?_
        refine iteO_e h (fun hb119 h => W_true rfl hb119 ?_) (fun hb119 h => W_false rfl hb119 ?_)
        · refine W_seq ?_
          refine W_region ?_
          refine WO_step 1 [0] [4] True ⟨[(4, B true)], [.row .rcd x1 false]⟩ (by kernel_rfl) trivial ?_
          refine WO_nil rfl ?_
          refine thenS_n ?_
          refine W_ret ?_
          refine blockS_r ?_
          refine thenS_r ?_
          refine thenS_r ?_
          cases h
          exact And.intro rfl rfl
        · refine W_sub [0] [0, 1, 15, 16, 17] (st' := ⟨[(0, .one (.e (.sl 0 0 x1.length))), (1, I i2), (15, .one (.e (.sl 0 ((w64 (i2 + 1)).toNat) (x1.length - (w64 (i2 + 1)).toNat)))), (16, I (((x1.length - (w64 (i2 + 1)).toNat) : Nat) : Int)), (17, I i85)], [.row .rcd x1 false]⟩) (by kernel_rfl) ?_
          refine W_skip ?_
          refine blockS_n ?_
          refine thenS_n ?_
          refine W_region ?_
          refine WO_step 2 [0] [0, 1, 15, 16, 17] (True ∧ True) ⟨[(0, .one (.e (.sl 0 0 x1.length))), (1, I i2), (15, .one (.e (.sl 0 ((w64 (i2 + 1)).toNat) (x1.length - (w64 (i2 + 1)).toNat)))), (16, I (((x1.length - (w64 (i2 + 1)).toNat) : Nat) : Int)), (17, I (w64 (i85 + 1)))], [.row .rcd x1 false]⟩ (by kernel_rfl) ⟨trivial, trivial⟩ ?_
          refine WO_nil rfl ?_
          refine thenS_n ?_
          exact ih _ h
    · refine W_sub [0] [] (st' := ⟨[], [.row .rcd x1 false]⟩) (by kernel_rfl) ?_
      refine W_exit ?_
      refine thenS_e ?_
      refine thenS_e ?_
      cases h
      exact And.intro rfl rfl

def impl_isDone (n : Nat) (x1 : List Rcd) (i2 : Int) : Option (Bool) :=
 guardO (0 ≤ i2 ∧ i2 < ((x1.length : Nat) : Int)) <|
 iteO ((x1.getD i2.toNat drcd).fin)
 (some false)
 (guardO (0 ≤ (w64 (i2 + 1)) ∧ (w64 (i2 + 1)) ≤ ((x1.length : Nat) : Int)) <|
 bindO (impl_isDone_L1 x1 i2 n 0) fun v120 =>
 match v120 with
 | (.inl _) => (some true)
 | (.inr _) => (some false)
)

theorem impl_isDone_ok (n : Nat) (x1 : List Rcd) (i2 : Int) (b61 : Bool) (h : impl_isDone n x1 i2 = some b61) : FOk EE 40 [.one (.e (.sl 0 0 x1.length)), I i2] [.row .rcd x1 false] (B b61) [.row .rcd x1 false] := by
  unfold impl_isDone at h
  refine FOk_of_W 34 1 Try.func40 rfl rfl (Nat.le_of_ble_eq_true rfl) rfl (fun w X θ => ?_)
  refine W_seq ?_
  refine W_region ?_
  refine WO_step 1 [0] [0, 1] True ⟨[(0, .one (.e (.sl 0 0 x1.length))), (1, I i2)], [.row .rcd x1 false]⟩ (by kernel_rfl) trivial ?_
  refine WO_nil rfl ?_
  refine thenS_n ?_
  refine W_seq ?_
  refine W_seq ?_
  refine W_region ?_
  refine guardO_e h (fun hg62 h => ?_)
  refine WO_step 5 [0] [0, 1, 11] ((0 ≤ i2 ∧ i2 < ((x1.length : Nat) : Int)) ∧ (True ∧ True)) ⟨[(0, .one (.e (.sl 0 0 x1.length))), (1, I i2), (11, B ((x1.getD i2.toNat drcd).fin))], [.row .rcd x1 false]⟩ (by kernel_rfl) ⟨hg62, trivial, trivial⟩ ?_
  refine WO_nil rfl ?_
  refine thenS_n ?_
  refine iteO_e h (fun hb64 h => W_true rfl hb64 ?_) (fun hb64 h => W_false rfl hb64 ?_)
  · refine W_seq ?_
    refine W_region ?_
    refine WO_step 1 [0] [4] True ⟨[(4, B false)], [.row .rcd x1 false]⟩ (by kernel_rfl) trivial ?_
    refine WO_nil rfl ?_
    refine thenS_n ?_
    refine W_ret ?_
    refine thenS_r ?_
    cases h
    exact ⟨[0], True, by kernel_rfl, trivial⟩
  · refine W_sub [0] [0, 1] (st' := ⟨[(0, .one (.e (.sl 0 0 x1.length))), (1, I i2)], [.row .rcd x1 false]⟩) (by kernel_rfl) ?_
    refine W_skip ?_
    refine thenS_n ?_
    refine W_seq ?_
    refine W_seq ?_
    refine W_region ?_
    refine guardO_e h (fun hg65 h => ?_)
    refine WO_step 6 [0] [0, 1, 15, 16, 17] (True ∧ ((0 ≤ (w64 (i2 + 1)) ∧ (w64 (i2 + 1)) ≤ ((x1.length : Nat) : Int)) ∧ (True ∧ True))) ⟨[(0, .one (.e (.sl 0 0 x1.length))), (1, I i2), (15, .one (.e (.sl 0 ((w64 (i2 + 1)).toNat) (x1.length - (w64 (i2 + 1)).toNat)))), (16, I (((x1.length - (w64 (i2 + 1)).toNat) : Nat) : Int)), (17, I 0)], [.row .rcd x1 false]⟩ (by kernel_rfl) ⟨trivial, hg65, trivial, trivial⟩ ?_
    refine WO_nil rfl ?_
    refine thenS_n ?_
    refine W_block ?_
    refine W_loop ?_
    refine bindO_e h (fun v120 hv120 h => ?_)
    refine WL_cut (impl_isDone_L1_ok w X θ x1 i2 v120 n 0 hv120) ?_
    rcases v120 with _ | _
    · rintro _ _ ⟨rfl, rfl⟩
      refine blockS_r ?_
      refine thenS_r ?_
      cases h
      exact ⟨[0], True, by kernel_rfl, trivial⟩
    · rintro _ _ ⟨rfl, rfl⟩
      refine blockS_y ?_
      refine thenS_n ?_
      refine W_seq ?_
      refine W_region ?_
      refine WO_step 1 [0] [4] True ⟨[(4, B false)], [.row .rcd x1 false]⟩ (by kernel_rfl) trivial ?_
      refine WO_nil rfl ?_
      refine thenS_n ?_
      refine W_ret ?_
      cases h
      exact ⟨[0], True, by kernel_rfl, trivial⟩

/- impl.isReplaced -/
def impl_isReplaced_L1 (x1 : List Rcd) (i2 : Int) : Nat → Int → Option ((Unit) ⊕ (Unit))
| 0, _ => none
| n + 1, i93 =>
 iteO (decide (i93 < ((x1.length : Nat) : Int)))
 (guardO (0 ≤ i93 ∧ i93 < ((x1.length : Nat) : Int)) <|
 guardO (0 ≤ i2 ∧ i2 < ((x1.length : Nat) : Int)) <|
 bindO (iteO (decide (((x1.getD i93.toNat drcd).node) = ((x1.getD i2.toNat drcd).node)))
 (bindO (impl_isDone n x1 i93) fun b130 =>
 some b130)
 (some false)) fun b132 =>
 iteO b132
 (some (.inl ()))
 (impl_isReplaced_L1 x1 i2 n (w64 (i93 + 1))))
 (some (.inr ()))

theorem impl_isReplaced_L1_ok (w : World) (X : Nat → Prop) (θ : List Loc) (x1 : List Rcd) (i2 : Int) (v : (Unit) ⊕ (Unit)) : ∀ (n : Nat) (i93 : Int), impl_isReplaced_L1 x1 i2 n i93 = some v → WL EE ⟨w, X, θ, 30, 1⟩ (subC [1, 0, 1, 4, 4] (bodyC Try.f48)) (fun (e : Exit) (s : St) => (match v with | (.inl _) => e = .ret ∧ s = ⟨[(4, B true)], [.row .rcd x1 false]⟩ | (.inr _) => e = .exit 0 ∧ s = ⟨[], [.row .rcd x1 false]⟩ : Prop)) ⟨[(0, .one (.e (.sl 0 0 x1.length))), (1, I i2), (5, I i93)], [.row .rcd x1 false]⟩ := by
  intro n
  induction n with
  | zero => intro _ h; exact none_e h
  | succ n ih =>
    intro i93 h
    rw [impl_isReplaced_L1] at h
    refine WL_round ?_
    refine W_seq ?_
    refine W_seq ?_
    refine W_region ?_
    refine WO_step 4 [0] [0, 1, 5, 11] (True ∧ (True ∧ True)) ⟨[(0, .one (.e (.sl 0 0 x1.length))), (1, I i2), (5, I i93), (11, B (decide (i93 < ((x1.length : Nat) : Int))))], [.row .rcd x1 false]⟩ (by kernel_rfl) ⟨trivial, trivial, trivial⟩ ?_
    refine WO_nil rfl ?_
    refine thenS_n ?_
    refine iteO_e h (fun hb117 h => W_true rfl hb117 ?_) (fun hb117 h => W_false rfl hb117 ?_)
    · refine W_sub [0] [0, 1, 5] (st' := ⟨[(0, .one (.e (.sl 0 0 x1.length))), (1, I i2), (5, I i93)], [.row .rcd x1 false]⟩) (by kernel_rfl) ?_
      refine W_skip ?_
      refine thenS_n ?_
      refine W_seq ?_
      refine W_block ?_
      refine W_seq ?_
      refine guardO_e h (fun hg127 h => ?_)
      refine guardO_e h (fun hg128 h => ?_)
      refine bindO_e h (fun b132 hv133 h => ?_)
      refine W_cut (Q' := fun (e : Exit) (s : St) => e = .normal ∧ s = ⟨[(0, .one (.e (.sl 0 0 x1.length))), (1, I i2), (5, I i93), (29, B b132)], [.row .rcd x1 false]⟩) ?_ ?_
      · refine iteO_e hv133 (fun hb129 hv133 => ?_) (fun hb129 hv133 => ?_)
        · refine bindO_e hv133 (fun b130 hc131 hv133 => ?_)
          refine W_draw [] false (by kernel_rfl) (by kernel_rfl) ?_
          refine WD_takeK [0, 1, 2, 3, 4, 5, 6, 7, 8, 9, 10, 11] [0, 1, 5, 25] [0, 1, 5, 25] (φ := ((0 ≤ i93 ∧ i93 < ((x1.length : Nat) : Int)) ∧ (0 ≤ i93 ∧ i93 < ((x1.length : Nat) : Int)) ∧ (True ∧ True ∧ ((0 ≤ i2 ∧ i2 < ((x1.length : Nat) : Int)) ∧ (0 ≤ i2 ∧ i2 < ((x1.length : Nat) : Int)) ∧ (True ∧ True ∧ (True ∧ True ∧ True)))))) (ls' := #[true, true, true, true, true, true, true, true, true, true, true, true, false, false, false, false]) (Ts' := [(0, .one (.e (.sl 0 0 x1.length))), (1, I i2), (5, I i93), (25, B (decide (((x1.getD i93.toNat drcd).node) = ((x1.getD i2.toNat drcd).node))))]) (st' := ⟨[(0, .one (.e (.sl 0 0 x1.length))), (1, I i2), (5, I i93), (25, B (decide (((x1.getD i93.toNat drcd).node) = ((x1.getD i2.toNat drcd).node))))], [.row .rcd x1 false]⟩) (n2 := 4) (by kernel_rfl) ⟨hg127, hg127, trivial, trivial, hg128, hg128, trivial, trivial, trivial, trivial, trivial⟩ rfl ?_
          refine WD_known 25 true rfl rfl hb129 ?_
          refine WD_takeK [12, 13] [0, 1, 5, 25, 26, 27] [0, 1, 5, 25, 26, 27] (φ := True) (ls' := #[true, true, true, true, true, true, true, true, true, true, true, true, true, true, false, false]) (Ts' := [(0, .one (.e (.sl 0 0 x1.length))), (1, I i2), (5, I i93), (25, B true), (26, .one (.e (.sl 0 0 x1.length))), (27, I i93)]) (st' := ⟨[(0, .one (.e (.sl 0 0 x1.length))), (1, I i2), (5, I i93), (25, B true), (26, .one (.e (.sl 0 0 x1.length))), (27, I i93)], [.row .rcd x1 false]⟩) (n2 := 2) (by kernel_rfl) trivial rfl ?_
          refine WD_all [14] (n := 1) (by kernel_rfl) rfl ?_
          refine WM_call [.ro 0] Try.f40 rfl rfl (by kernel_rfl) rfl rfl (by kernel_rfl) (impl_isDone_ok n x1 i93 b130 hc131) (And.intro (And.intro rfl rfl) (trivial)) rfl (And.intro rfl (trivial)) ?_
          refine WD_takeK [15] [0, 1, 5, 29] [0, 1, 5, 29] (φ := True) (ls' := #[true, true, true, true, true, true, true, true, true, true, true, true, true, true, true, true]) (Ts' := [(0, .one (.e (.sl 0 0 x1.length))), (1, I i2), (5, I i93), (29, B b130)]) (st' := ⟨[(0, .one (.e (.sl 0 0 x1.length))), (1, I i2), (5, I i93), (29, B b130)], [.row .rcd x1 false]⟩) (n2 := 0) (by kernel_rfl) trivial rfl ?_
          exact WD_done [0] [0, 1, 5, 29] (st' := ⟨[(0, .one (.e (.sl 0 0 x1.length))), (1, I i2), (5, I i93), (29, B b130)], [.row .rcd x1 false]⟩) (by kernel_rfl) (by kernel_rfl) (And.intro rfl (by cases hv133; rfl))
        · refine W_draw [] false (by kernel_rfl) (by kernel_rfl) ?_
          refine WD_takeK [0, 1, 2, 3, 4, 5, 6, 7, 8, 9, 10, 11] [0, 1, 5, 25] [0, 1, 5, 25] (φ := ((0 ≤ i93 ∧ i93 < ((x1.length : Nat) : Int)) ∧ (0 ≤ i93 ∧ i93 < ((x1.length : Nat) : Int)) ∧ (True ∧ True ∧ ((0 ≤ i2 ∧ i2 < ((x1.length : Nat) : Int)) ∧ (0 ≤ i2 ∧ i2 < ((x1.length : Nat) : Int)) ∧ (True ∧ True ∧ (True ∧ True ∧ True)))))) (ls' := #[true, true, true, true, true, true, true, true, true, true, true, true, false, false, false, false]) (Ts' := [(0, .one (.e (.sl 0 0 x1.length))), (1, I i2), (5, I i93), (25, B (decide (((x1.getD i93.toNat drcd).node) = ((x1.getD i2.toNat drcd).node))))]) (st' := ⟨[(0, .one (.e (.sl 0 0 x1.length))), (1, I i2), (5, I i93), (25, B (decide (((x1.getD i93.toNat drcd).node) = ((x1.getD i2.toNat drcd).node))))], [.row .rcd x1 false]⟩) (n2 := 4) (by kernel_rfl) ⟨hg127, hg127, trivial, trivial, hg128, hg128, trivial, trivial, trivial, trivial, trivial⟩ rfl ?_
          refine WD_known 25 false rfl rfl hb129 ?_
          refine WD_takeK [12, 13, 14, 15] [0, 1, 5, 29] [0, 1, 5, 29] (φ := True) (ls' := #[true, true, true, true, true, true, true, true, true, true, true, true, true, true, true, true]) (Ts' := [(0, .one (.e (.sl 0 0 x1.length))), (1, I i2), (5, I i93), (29, B false)]) (st' := ⟨[(0, .one (.e (.sl 0 0 x1.length))), (1, I i2), (5, I i93), (29, B false)], [.row .rcd x1 false]⟩) (n2 := 0) (by kernel_rfl) trivial rfl ?_
          exact WD_done [0] [0, 1, 5, 29] (st' := ⟨[(0, .one (.e (.sl 0 0 x1.length))), (1, I i2), (5, I i93), (29, B false)], [.row .rcd x1 false]⟩) (by kernel_rfl) (by kernel_rfl) (And.intro rfl (by cases hv133; rfl))
      · rintro _ _ ⟨rfl, rfl⟩
        refine thenS_n ?_
        refine iteO_e h (fun hb135 h => W_true rfl hb135 ?_) (fun hb135 h => W_false rfl hb135 ?_)
        · refine W_seq ?_
          refine W_region ?_
          refine WO_step 1 [0] [4] True ⟨[(4, B true)], [.row .rcd x1 false]⟩ (by kernel_rfl) trivial ?_
          refine WO_nil rfl ?_
          refine thenS_n ?_
          refine W_ret ?_
          refine blockS_r ?_
          refine thenS_r ?_
          refine thenS_r ?_
          cases h
          exact And.intro rfl rfl
        · refine W_sub [0] [0, 1, 5] (st' := ⟨[(0, .one (.e (.sl 0 0 x1.length))), (1, I i2), (5, I i93)], [.row .rcd x1 false]⟩) (by kernel_rfl) ?_
          refine W_skip ?_
          refine blockS_n ?_
          refine thenS_n ?_
          refine W_region ?_
          refine WO_step 3 [0] [0, 1, 5] (True ∧ True) ⟨[(0, .one (.e (.sl 0 0 x1.length))), (1, I i2), (5, I (w64 (i93 + 1)))], [.row .rcd x1 false]⟩ (by kernel_rfl) ⟨trivial, trivial⟩ ?_
          refine WO_nil rfl ?_
          refine thenS_n ?_
          exact ih _ h
    · refine W_sub [0] [] (st' := ⟨[], [.row .rcd x1 false]⟩) (by kernel_rfl) ?_
      refine W_exit ?_
      refine thenS_e ?_
      refine thenS_e ?_
      cases h
      exact And.intro rfl rfl

def impl_isReplaced (n : Nat) (x1 : List Rcd) (i2 : Int) : Option (Bool) :=
 bindO (impl_isReplaced_L1 x1 i2 n (w64 (i2 + 1))) fun v136 =>
 match v136 with
 | (.inl _) => (some true)
 | (.inr _) => (some false)


theorem impl_isReplaced_ok (n : Nat) (x1 : List Rcd) (i2 : Int) (b69 : Bool) (h : impl_isReplaced n x1 i2 = some b69) : FOk EE 48 [.one (.e (.sl 0 0 x1.length)), I i2] [.row .rcd x1 false] (B b69) [.row .rcd x1 false] := by
  unfold impl_isReplaced at h
  refine FOk_of_W 30 1 Try.func48 rfl rfl (Nat.le_of_ble_eq_true rfl) rfl (fun w X θ => ?_)
  refine W_seq ?_
  refine W_region ?_
  refine WO_step 1 [0] [0, 1] True ⟨[(0, .one (.e (.sl 0 0 x1.length))), (1, I i2)], [.row .rcd x1 false]⟩ (by kernel_rfl) trivial ?_
  refine WO_nil rfl ?_
  refine thenS_n ?_
  refine W_seq ?_
  refine W_seq ?_
  refine W_region ?_
  refine WO_step 3 [0] [0, 1, 5] (True ∧ True) ⟨[(0, .one (.e (.sl 0 0 x1.length))), (1, I i2), (5, I (w64 (i2 + 1)))], [.row .rcd x1 false]⟩ (by kernel_rfl) ⟨trivial, trivial⟩ ?_
  refine WO_nil rfl ?_
  refine thenS_n ?_
  refine W_block ?_
  refine W_loop ?_
  refine bindO_e h (fun v136 hv136 h => ?_)
  refine WL_cut (impl_isReplaced_L1_ok w X θ x1 i2 v136 n (w64 (i2 + 1)) hv136) ?_
  rcases v136 with _ | _
  · rintro _ _ ⟨rfl, rfl⟩
    refine blockS_r ?_
    refine thenS_r ?_
    cases h
    exact ⟨[0], True, by kernel_rfl, trivial⟩
  · rintro _ _ ⟨rfl, rfl⟩
    refine blockS_y ?_
    refine thenS_n ?_
    refine W_seq ?_
    refine W_region ?_
    refine WO_step 1 [0] [4] True ⟨[(4, B false)], [.row .rcd x1 false]⟩ (by kernel_rfl) trivial ?_
    refine WO_nil rfl ?_
    refine thenS_n ?_
    refine W_ret ?_
    cases h
    exact ⟨[0], True, by kernel_rfl, trivial⟩

/- impl.ShortLog -/
def impl_ShortLog_L1 (x2 : List Rcd) (x1 : List Nod) : Nat → (List Rcd) → (List Bool) → Int → Option ((List Rcd))
| 0, _, _, _ => none
| n + 1, x180, x181, i182 =>
 iteO (decide (i182 < ((x2.length : Nat) : Int)))
 (bindO (guardO (0 ≤ i182 ∧ i182 < ((x2.length : Nat) : Int)) <|
 iteO ((x2.getD i182.toNat drcd).fin)
 (guardO (0 ≤ (x2.getD i182.toNat drcd).who ∧ (x2.getD i182.toNat drcd).who < (4 : Int) ∧ (((x2.getD i182.toNat drcd).who).toNat * 1) < x181.length) <|
 bindO (iteO (x181.getD (((x2.getD i182.toNat drcd).who).toNat * 1) false)
 (guardO (0 = 0 ∧ x180.length = x180.length ∧ x180.length + (([(⟨(x2.getD i182.toNat drcd).who, (x2.getD i182.toNat drcd).node, (x2.getD i182.toNat drcd).value, (x2.getD i182.toNat drcd).fin⟩ : Rcd)].drop 0).take ([(⟨(x2.getD i182.toNat drcd).who, (x2.getD i182.toNat drcd).node, (x2.getD i182.toNat drcd).value, (x2.getD i182.toNat drcd).fin⟩ : Rcd)].length)).length ≤ 1099511627776) <|
 some (x180 ++ (([(⟨(x2.getD i182.toNat drcd).who, (x2.getD i182.toNat drcd).node, (x2.getD i182.toNat drcd).value, (x2.getD i182.toNat drcd).fin⟩ : Rcd)].drop 0).take ([(⟨(x2.getD i182.toNat drcd).who, (x2.getD i182.toNat drcd).node, (x2.getD i182.toNat drcd).value, (x2.getD i182.toNat drcd).fin⟩ : Rcd)].length))))
 (some x180)) fun x272 =>
 guardO (0 ≤ (x2.getD i182.toNat drcd).who ∧ (x2.getD i182.toNat drcd).who < (4 : Int) ∧ (((x2.getD i182.toNat drcd).who).toNat * 1) < x181.length) <|
 some (x272, (x181.set (((x2.getD i182.toNat drcd).who).toNat * 1) false)))
 (bindO (impl_isDone n x2 i182) fun b277 =>
 bindO (iteO b277
 (bindO (impl_isReplaced n x2 i182) fun b285 =>
 some (!b285))
 (some false)) fun b282 =>
 bindO (iteO b282
 (guardO (0 = 0 ∧ x180.length = x180.length ∧ x180.length + (([(⟨(x2.getD i182.toNat drcd).who, (x2.getD i182.toNat drcd).node, (x2.getD i182.toNat drcd).value, (x2.getD i182.toNat drcd).fin⟩ : Rcd)].drop 0).take ([(⟨(x2.getD i182.toNat drcd).who, (x2.getD i182.toNat drcd).node, (x2.getD i182.toNat drcd).value, (x2.getD i182.toNat drcd).fin⟩ : Rcd)].length)).length ≤ 1099511627776) <|
 guardO (0 ≤ (x2.getD i182.toNat drcd).who ∧ (x2.getD i182.toNat drcd).who < (4 : Int) ∧ (((x2.getD i182.toNat drcd).who).toNat * 1) < x181.length) <|
 some ((x180 ++ (([(⟨(x2.getD i182.toNat drcd).who, (x2.getD i182.toNat drcd).node, (x2.getD i182.toNat drcd).value, (x2.getD i182.toNat drcd).fin⟩ : Rcd)].drop 0).take ([(⟨(x2.getD i182.toNat drcd).who, (x2.getD i182.toNat drcd).node, (x2.getD i182.toNat drcd).value, (x2.getD i182.toNat drcd).fin⟩ : Rcd)].length))), (x181.set (((x2.getD i182.toNat drcd).who).toNat * 1) true)))
 (some (x180, x181))) fun v292 =>
 match v292 with
 | (x290, x291) => (some (x290, x291))
)) fun v259 =>
 match v259 with
 | (x257, x258) => (impl_ShortLog_L1 x2 x1 n x257 x258 (w64 (i182 + 1)))
)
 (some x180)

theorem impl_ShortLog_L1_ok (w : World) (X : Nat → Prop) (θ : List Loc) (x2 : List Rcd) (x1 : List Nod) (x222 : (List Rcd)) : ∀ (n : Nat) (x180 : List Rcd) (x181 : List Bool) (i182 : Int), impl_ShortLog_L1 x2 x1 n x180 x181 i182 = some x222 → WL EE ⟨w, X, θ, 51, 2⟩ (subC [1, 1, 1, 1, 0, 1, 4, 4] (bodyC Try.f23)) (fun (e : Exit) (s : St) => e = .exit 0 ∧ s = ⟨[(5, .one (.e (.sl 2 0 x222.length)))], [.row .nod x1 false, .row .rcd x2 false, .row .rcd x222 true]⟩) ⟨[(1, .one (.e (.sl 1 0 x2.length))), (5, .one (.e (.sl 2 0 x180.length))), (6, .one (.e (.rp 3 0 0))), (13, .one (.e (.sl 1 0 x2.length))), (14, I ((x2.length : Nat) : Int)), (15, I i182)], [.row .nod x1 false, .row .rcd x2 false, .row .rcd x180 true, .row .bool x181 true]⟩ := by
  intro n
  induction n with
  | zero => intro _ _ _ h; exact none_e h
  | succ n ih =>
    intro x180 x181 i182 h
    rw [impl_ShortLog_L1] at h
    refine WL_round ?_
    refine W_seq ?_
    refine W_region ?_
    refine WO_step 1 [0, 1, 2, 3] [1, 5, 6, 13, 14, 15, 16] (True ∧ True) ⟨[(1, .one (.e (.sl 1 0 x2.length))), (5, .one (.e (.sl 2 0 x180.length))), (6, .one (.e (.rp 3 0 0))), (13, .one (.e (.sl 1 0 x2.length))), (14, I ((x2.length : Nat) : Int)), (15, I i182), (16, B (decide (i182 < ((x2.length : Nat) : Int))))], [.row .nod x1 false, .row .rcd x2 false, .row .rcd x180 true, .row .bool x181 true]⟩ (by kernel_rfl) ⟨trivial, trivial⟩ ?_
    refine WO_nil rfl ?_
    refine thenS_n ?_
    refine W_seq ?_
    refine iteO_e h (fun hb225 h => W_true rfl hb225 ?_) (fun hb225 h => W_false rfl hb225 ?_)
    · refine W_sub [0, 1, 2, 3] [1, 5, 6, 13, 14, 15] (st' := ⟨[(1, .one (.e (.sl 1 0 x2.length))), (5, .one (.e (.sl 2 0 x180.length))), (6, .one (.e (.rp 3 0 0))), (13, .one (.e (.sl 1 0 x2.length))), (14, I ((x2.length : Nat) : Int)), (15, I i182)], [.row .nod x1 false, .row .rcd x2 false, .row .rcd x180 true, .row .bool x181 true]⟩) (by kernel_rfl) ?_
      refine W_skip ?_
      refine thenS_n ?_
      refine W_seq ?_
      refine bindO_e h (fun v259 hv259 h => ?_)
      refine W_cut (Q' := fun (e : Exit) (s : St) => (match v259 with | (x257, x258) => e = .normal ∧ s = ⟨[(1, .one (.e (.sl 1 0 x2.length))), (5, .one (.e (.sl 2 0 x257.length))), (6, .one (.e (.rp 3 0 0))), (13, .one (.e (.sl 1 0 x2.length))), (14, I ((x2.length : Nat) : Int)), (15, I i182)], [.row .nod x1 false, .row .rcd x2 false, .row .rcd x257 true, .row .bool x258 true]⟩ : Prop)) ?_ ?_
      · refine W_block ?_
        refine W_seq ?_
        refine W_region ?_
        refine guardO_e hv259 (fun hg260 hv259 => ?_)
        refine WO_step 6 [0, 1, 2, 3, 4] [1, 5, 6, 7, 8, 13, 14, 15] ((0 ≤ i182 ∧ i182 < ((x2.length : Nat) : Int)) ∧ (True ∧ (True ∧ (True ∧ True)))) ⟨[(1, .one (.e (.sl 1 0 x2.length))), (5, .one (.e (.sl 2 0 x180.length))), (6, .one (.e (.rp 3 0 0))), (7, I i182), (8, .one (.e (.p 4 0))), (13, .one (.e (.sl 1 0 x2.length))), (14, I ((x2.length : Nat) : Int)), (15, I i182)], [.row .nod x1 false, .row .rcd x2 false, .row .rcd x180 true, .row .bool x181 true, .cells [cI ((x2.getD i182.toNat drcd).who), cI ((x2.getD i182.toNat drcd).node), cI ((x2.getD i182.toNat drcd).value), cB ((x2.getD i182.toNat drcd).fin)]]⟩ (by kernel_rfl) ⟨hg260, trivial, trivial, trivial, trivial⟩ ?_
        refine WO_nil rfl ?_
        refine thenS_n ?_
        refine W_seq ?_
        refine W_seq ?_
        refine W_region ?_
        refine WO_step 2 [0, 1, 2, 3, 4] [1, 5, 6, 7, 8, 13, 14, 15, 21] (True ∧ True) ⟨[(1, .one (.e (.sl 1 0 x2.length))), (5, .one (.e (.sl 2 0 x180.length))), (6, .one (.e (.rp 3 0 0))), (7, I i182), (8, .one (.e (.p 4 0))), (13, .one (.e (.sl 1 0 x2.length))), (14, I ((x2.length : Nat) : Int)), (15, I i182), (21, B ((x2.getD i182.toNat drcd).fin))], [.row .nod x1 false, .row .rcd x2 false, .row .rcd x180 true, .row .bool x181 true, .cells [cI ((x2.getD i182.toNat drcd).who), cI ((x2.getD i182.toNat drcd).node), cI ((x2.getD i182.toNat drcd).value), cB ((x2.getD i182.toNat drcd).fin)]]⟩ (by kernel_rfl) ⟨trivial, trivial⟩ ?_
        refine WO_nil rfl ?_
        refine thenS_n ?_
        refine iteO_e hv259 (fun hb268 hv259 => W_true rfl hb268 ?_) (fun hb268 hv259 => W_false rfl hb268 ?_)
        · refine W_seq ?_
          refine W_seq ?_
          refine W_region ?_
          refine guardO_e hv259 (fun hg269 hv259 => ?_)
          refine WO_step 4 [0, 1, 2, 3, 4] [1, 5, 6, 8, 13, 14, 15, 25] (True ∧ ((0 ≤ (x2.getD i182.toNat drcd).who ∧ (x2.getD i182.toNat drcd).who < (4 : Int) ∧ (((x2.getD i182.toNat drcd).who).toNat * 1) < x181.length) ∧ (True ∧ True))) ⟨[(1, .one (.e (.sl 1 0 x2.length))), (5, .one (.e (.sl 2 0 x180.length))), (6, .one (.e (.rp 3 0 0))), (8, .one (.e (.p 4 0))), (13, .one (.e (.sl 1 0 x2.length))), (14, I ((x2.length : Nat) : Int)), (15, I i182), (25, B (x181.getD (((x2.getD i182.toNat drcd).who).toNat * 1) false))], [.row .nod x1 false, .row .rcd x2 false, .row .rcd x180 true, .row .bool x181 true, .cells [cI ((x2.getD i182.toNat drcd).who), cI ((x2.getD i182.toNat drcd).node), cI ((x2.getD i182.toNat drcd).value), cB ((x2.getD i182.toNat drcd).fin)]]⟩ (by kernel_rfl) ⟨trivial, hg269, trivial, trivial⟩ ?_
          refine WO_nil rfl ?_
          refine thenS_n ?_
          refine bindO_e hv259 (fun x272 hx272 hv259 => ?_)
          refine W_cut (Q' := fun (e : Exit) (s : St) => e = .normal ∧ s = ⟨[(1, .one (.e (.sl 1 0 x2.length))), (5, .one (.e (.sl 2 0 x272.length))), (6, .one (.e (.rp 3 0 0))), (8, .one (.e (.p 4 0))), (13, .one (.e (.sl 1 0 x2.length))), (14, I ((x2.length : Nat) : Int)), (15, I i182)], [.row .nod x1 false, .row .rcd x2 false, .row .rcd x272 true, .row .bool x181 true, .cells [cI ((x2.getD i182.toNat drcd).who), cI ((x2.getD i182.toNat drcd).node), cI ((x2.getD i182.toNat drcd).value), cB ((x2.getD i182.toNat drcd).fin)]]⟩) ?_ ?_
          · refine iteO_e hx272 (fun hb274 hx272 => W_true rfl hb274 ?_) (fun hb274 hx272 => W_false rfl hb274 ?_)
            · refine W_region ?_
              refine guardO_e hx272 (fun hg275 hx272 => ?_)
              refine WO_step 5 [0, 1, 6, 3, 4] [1, 5, 6, 8, 13, 14, 15] (True ∧ ((0 = 0 ∧ x180.length = x180.length ∧ x180.length + (([(⟨(x2.getD i182.toNat drcd).who, (x2.getD i182.toNat drcd).node, (x2.getD i182.toNat drcd).value, (x2.getD i182.toNat drcd).fin⟩ : Rcd)].drop 0).take ([(⟨(x2.getD i182.toNat drcd).who, (x2.getD i182.toNat drcd).node, (x2.getD i182.toNat drcd).value, (x2.getD i182.toNat drcd).fin⟩ : Rcd)].length)).length ≤ 1099511627776) ∧ True)) ⟨[(1, .one (.e (.sl 1 0 x2.length))), (5, .one (.e (.sl 2 0 ((x180 ++ (([(⟨(x2.getD i182.toNat drcd).who, (x2.getD i182.toNat drcd).node, (x2.getD i182.toNat drcd).value, (x2.getD i182.toNat drcd).fin⟩ : Rcd)].drop 0).take ([(⟨(x2.getD i182.toNat drcd).who, (x2.getD i182.toNat drcd).node, (x2.getD i182.toNat drcd).value, (x2.getD i182.toNat drcd).fin⟩ : Rcd)].length))).length)))), (6, .one (.e (.rp 3 0 0))), (8, .one (.e (.p 4 0))), (13, .one (.e (.sl 1 0 x2.length))), (14, I ((x2.length : Nat) : Int)), (15, I i182)], [.row .nod x1 false, .row .rcd x2 false, .row .rcd (x180 ++ (([(⟨(x2.getD i182.toNat drcd).who, (x2.getD i182.toNat drcd).node, (x2.getD i182.toNat drcd).value, (x2.getD i182.toNat drcd).fin⟩ : Rcd)].drop 0).take ([(⟨(x2.getD i182.toNat drcd).who, (x2.getD i182.toNat drcd).node, (x2.getD i182.toNat drcd).value, (x2.getD i182.toNat drcd).fin⟩ : Rcd)].length))) true, .row .bool x181 true, .cells [cI ((x2.getD i182.toNat drcd).who), cI ((x2.getD i182.toNat drcd).node), cI ((x2.getD i182.toNat drcd).value), cB ((x2.getD i182.toNat drcd).fin)]]⟩ (by kernel_rfl) ⟨trivial, hg275, trivial⟩ ?_
              refine WO_nil rfl ?_
              cases hx272
              exact And.intro rfl rfl
            · refine W_sub [0, 1, 2, 3, 4] [1, 5, 6, 8, 13, 14, 15] (st' := ⟨[(1, .one (.e (.sl 1 0 x2.length))), (5, .one (.e (.sl 2 0 x180.length))), (6, .one (.e (.rp 3 0 0))), (8, .one (.e (.p 4 0))), (13, .one (.e (.sl 1 0 x2.length))), (14, I ((x2.length : Nat) : Int)), (15, I i182)], [.row .nod x1 false, .row .rcd x2 false, .row .rcd x180 true, .row .bool x181 true, .cells [cI ((x2.getD i182.toNat drcd).who), cI ((x2.getD i182.toNat drcd).node), cI ((x2.getD i182.toNat drcd).value), cB ((x2.getD i182.toNat drcd).fin)]]⟩) (by kernel_rfl) ?_
              refine W_skip ?_
              cases hx272
              exact And.intro rfl rfl
          · rintro _ _ ⟨rfl, rfl⟩
            refine thenS_n ?_
            refine W_seq ?_
            refine W_region ?_
            refine guardO_e hv259 (fun hg276 hv259 => ?_)
            refine WO_step 4 [0, 1, 2, 3] [1, 5, 6, 13, 14, 15] (True ∧ ((0 ≤ (x2.getD i182.toNat drcd).who ∧ (x2.getD i182.toNat drcd).who < (4 : Int) ∧ (((x2.getD i182.toNat drcd).who).toNat * 1) < x181.length) ∧ (True ∧ True))) ⟨[(1, .one (.e (.sl 1 0 x2.length))), (5, .one (.e (.sl 2 0 x272.length))), (6, .one (.e (.rp 3 0 0))), (13, .one (.e (.sl 1 0 x2.length))), (14, I ((x2.length : Nat) : Int)), (15, I i182)], [.row .nod x1 false, .row .rcd x2 false, .row .rcd x272 true, .row .bool (x181.set (((x2.getD i182.toNat drcd).who).toNat * 1) false) true]⟩ (by kernel_rfl) ⟨trivial, hg276, trivial, trivial⟩ ?_
            refine WO_nil rfl ?_
            refine thenS_n ?_
            refine W_exit ?_
            refine thenS_e ?_
            refine blockS_y ?_
            cases hv259
            exact And.intro rfl rfl
        · refine W_sub [0, 1, 2, 3, 4] [1, 5, 6, 7, 8, 13, 14, 15] (st' := ⟨[(1, .one (.e (.sl 1 0 x2.length))), (5, .one (.e (.sl 2 0 x180.length))), (6, .one (.e (.rp 3 0 0))), (7, I i182), (8, .one (.e (.p 4 0))), (13, .one (.e (.sl 1 0 x2.length))), (14, I ((x2.length : Nat) : Int)), (15, I i182)], [.row .nod x1 false, .row .rcd x2 false, .row .rcd x180 true, .row .bool x181 true, .cells [cI ((x2.getD i182.toNat drcd).who), cI ((x2.getD i182.toNat drcd).node), cI ((x2.getD i182.toNat drcd).value), cB ((x2.getD i182.toNat drcd).fin)]]⟩) (by kernel_rfl) ?_
          refine W_skip ?_
          refine thenS_n ?_
          refine W_seq ?_
          refine W_region ?_
          refine WO_step 2 [0, 1, 2, 3, 4] [1, 5, 6, 7, 8, 13, 14, 15, 33, 34] True ⟨[(1, .one (.e (.sl 1 0 x2.length))), (5, .one (.e (.sl 2 0 x180.length))), (6, .one (.e (.rp 3 0 0))), (7, I i182), (8, .one (.e (.p 4 0))), (13, .one (.e (.sl 1 0 x2.length))), (14, I ((x2.length : Nat) : Int)), (15, I i182), (33, .one (.e (.sl 1 0 x2.length))), (34, I i182)], [.row .nod x1 false, .row .rcd x2 false, .row .rcd x180 true, .row .bool x181 true, .cells [cI ((x2.getD i182.toNat drcd).who), cI ((x2.getD i182.toNat drcd).node), cI ((x2.getD i182.toNat drcd).value), cB ((x2.getD i182.toNat drcd).fin)]]⟩ (by kernel_rfl) trivial ?_
          refine bindO_e hv259 (fun b277 hc278 hv259 => ?_)
          refine WO_call [.ro 1] Try.f40 rfl rfl rfl (by kernel_rfl) rfl rfl (by kernel_rfl) (impl_isDone_ok n x2 i182 b277 hc278) (And.intro (And.intro rfl rfl) (trivial)) rfl ?_
          refine WO_step 1 [0, 1, 2, 3, 4] [1, 5, 6, 7, 8, 13, 14, 15, 36] True ⟨[(1, .one (.e (.sl 1 0 x2.length))), (5, .one (.e (.sl 2 0 x180.length))), (6, .one (.e (.rp 3 0 0))), (7, I i182), (8, .one (.e (.p 4 0))), (13, .one (.e (.sl 1 0 x2.length))), (14, I ((x2.length : Nat) : Int)), (15, I i182), (36, B b277)], [.row .nod x1 false, .row .rcd x2 false, .row .rcd x180 true, .row .bool x181 true, .cells [cI ((x2.getD i182.toNat drcd).who), cI ((x2.getD i182.toNat drcd).node), cI ((x2.getD i182.toNat drcd).value), cB ((x2.getD i182.toNat drcd).fin)]]⟩ (by kernel_rfl) trivial ?_
          refine bindO_e hv259 (fun b282 hv283 hv259 => ?_)
          refine WO_thru ⟨[(1, .one (.e (.sl 1 0 x2.length))), (5, .one (.e (.sl 2 0 x180.length))), (6, .one (.e (.rp 3 0 0))), (8, .one (.e (.p 4 0))), (13, .one (.e (.sl 1 0 x2.length))), (14, I ((x2.length : Nat) : Int)), (15, I i182), (41, B b282)], [.row .nod x1 false, .row .rcd x2 false, .row .rcd x180 true, .row .bool x181 true, .cells [cI ((x2.getD i182.toNat drcd).who), cI ((x2.getD i182.toNat drcd).node), cI ((x2.getD i182.toNat drcd).value), cB ((x2.getD i182.toNat drcd).fin)]]⟩ ?_ ?_
          · refine iteO_e hv283 (fun hb284 hv283 => WO_known 36 true rfl hb284 ?_) (fun hb284 hv283 => WO_known 36 false rfl hb284 ?_)
            · refine WO_step 2 [0, 1, 2, 3, 4] [1, 5, 6, 8, 13, 14, 15, 36, 37, 38] True ⟨[(1, .one (.e (.sl 1 0 x2.length))), (5, .one (.e (.sl 2 0 x180.length))), (6, .one (.e (.rp 3 0 0))), (8, .one (.e (.p 4 0))), (13, .one (.e (.sl 1 0 x2.length))), (14, I ((x2.length : Nat) : Int)), (15, I i182), (36, B true), (37, .one (.e (.sl 1 0 x2.length))), (38, I i182)], [.row .nod x1 false, .row .rcd x2 false, .row .rcd x180 true, .row .bool x181 true, .cells [cI ((x2.getD i182.toNat drcd).who), cI ((x2.getD i182.toNat drcd).node), cI ((x2.getD i182.toNat drcd).value), cB ((x2.getD i182.toNat drcd).fin)]]⟩ (by kernel_rfl) trivial ?_
              refine bindO_e hv283 (fun b285 hc286 hv283 => ?_)
              refine WO_call [.ro 1] Try.f48 rfl rfl rfl (by kernel_rfl) rfl rfl (by kernel_rfl) (impl_isReplaced_ok n x2 i182 b285 hc286) (And.intro (And.intro rfl rfl) (trivial)) rfl ?_
              refine WO_step 2 [0, 1, 2, 3, 4] [1, 5, 6, 8, 13, 14, 15, 41] True ⟨[(1, .one (.e (.sl 1 0 x2.length))), (5, .one (.e (.sl 2 0 x180.length))), (6, .one (.e (.rp 3 0 0))), (8, .one (.e (.p 4 0))), (13, .one (.e (.sl 1 0 x2.length))), (14, I ((x2.length : Nat) : Int)), (15, I i182), (41, B (!b285))], [.row .nod x1 false, .row .rcd x2 false, .row .rcd x180 true, .row .bool x181 true, .cells [cI ((x2.getD i182.toNat drcd).who), cI ((x2.getD i182.toNat drcd).node), cI ((x2.getD i182.toNat drcd).value), cB ((x2.getD i182.toNat drcd).fin)]]⟩ (by kernel_rfl) trivial ?_
              cases hv283
              exact WO_nil rfl ⟨rfl, rfl⟩
            · refine WO_step 5 [0, 1, 2, 3, 4] [1, 5, 6, 8, 13, 14, 15, 41] True ⟨[(1, .one (.e (.sl 1 0 x2.length))), (5, .one (.e (.sl 2 0 x180.length))), (6, .one (.e (.rp 3 0 0))), (8, .one (.e (.p 4 0))), (13, .one (.e (.sl 1 0 x2.length))), (14, I ((x2.length : Nat) : Int)), (15, I i182), (41, B false)], [.row .nod x1 false, .row .rcd x2 false, .row .rcd x180 true, .row .bool x181 true, .cells [cI ((x2.getD i182.toNat drcd).who), cI ((x2.getD i182.toNat drcd).node), cI ((x2.getD i182.toNat drcd).value), cB ((x2.getD i182.toNat drcd).fin)]]⟩ (by kernel_rfl) trivial ?_
              cases hv283
              exact WO_nil rfl ⟨rfl, rfl⟩
          · refine thenS_n ?_
            refine bindO_e hv259 (fun v292 hv292 hv259 => ?_)
            refine W_cut (Q' := fun (e : Exit) (s : St) => (match v292 with | (x290, x291) => e = .normal ∧ s = ⟨[(1, .one (.e (.sl 1 0 x2.length))), (5, .one (.e (.sl 2 0 x290.length))), (6, .one (.e (.rp 3 0 0))), (13, .one (.e (.sl 1 0 x2.length))), (14, I ((x2.length : Nat) : Int)), (15, I i182)], [.row .nod x1 false, .row .rcd x2 false, .row .rcd x290 true, .row .bool x291 true]⟩ : Prop)) ?_ ?_
            · refine iteO_e hv292 (fun hb293 hv292 => W_true rfl hb293 ?_) (fun hb293 hv292 => W_false rfl hb293 ?_)
              · refine W_seq ?_
                refine W_region ?_
                refine guardO_e hv292 (fun hg294 hv292 => ?_)
                refine WO_step 5 [0, 1, 6, 3, 4] [1, 5, 6, 8, 13, 14, 15] (True ∧ ((0 = 0 ∧ x180.length = x180.length ∧ x180.length + (([(⟨(x2.getD i182.toNat drcd).who, (x2.getD i182.toNat drcd).node, (x2.getD i182.toNat drcd).value, (x2.getD i182.toNat drcd).fin⟩ : Rcd)].drop 0).take ([(⟨(x2.getD i182.toNat drcd).who, (x2.getD i182.toNat drcd).node, (x2.getD i182.toNat drcd).value, (x2.getD i182.toNat drcd).fin⟩ : Rcd)].length)).length ≤ 1099511627776) ∧ True)) ⟨[(1, .one (.e (.sl 1 0 x2.length))), (5, .one (.e (.sl 2 0 ((x180 ++ (([(⟨(x2.getD i182.toNat drcd).who, (x2.getD i182.toNat drcd).node, (x2.getD i182.toNat drcd).value, (x2.getD i182.toNat drcd).fin⟩ : Rcd)].drop 0).take ([(⟨(x2.getD i182.toNat drcd).who, (x2.getD i182.toNat drcd).node, (x2.getD i182.toNat drcd).value, (x2.getD i182.toNat drcd).fin⟩ : Rcd)].length))).length)))), (6, .one (.e (.rp 3 0 0))), (8, .one (.e (.p 4 0))), (13, .one (.e (.sl 1 0 x2.length))), (14, I ((x2.length : Nat) : Int)), (15, I i182)], [.row .nod x1 false, .row .rcd x2 false, .row .rcd (x180 ++ (([(⟨(x2.getD i182.toNat drcd).who, (x2.getD i182.toNat drcd).node, (x2.getD i182.toNat drcd).value, (x2.getD i182.toNat drcd).fin⟩ : Rcd)].drop 0).take ([(⟨(x2.getD i182.toNat drcd).who, (x2.getD i182.toNat drcd).node, (x2.getD i182.toNat drcd).value, (x2.getD i182.toNat drcd).fin⟩ : Rcd)].length))) true, .row .bool x181 true, .cells [cI ((x2.getD i182.toNat drcd).who), cI ((x2.getD i182.toNat drcd).node), cI ((x2.getD i182.toNat drcd).value), cB ((x2.getD i182.toNat drcd).fin)]]⟩ (by kernel_rfl) ⟨trivial, hg294, trivial⟩ ?_
                refine WO_nil rfl ?_
                refine thenS_n ?_
                refine W_region ?_
                refine guardO_e hv292 (fun hg295 hv292 => ?_)
                refine WO_step 4 [0, 1, 2, 3] [1, 5, 6, 13, 14, 15] (True ∧ ((0 ≤ (x2.getD i182.toNat drcd).who ∧ (x2.getD i182.toNat drcd).who < (4 : Int) ∧ (((x2.getD i182.toNat drcd).who).toNat * 1) < x181.length) ∧ (True ∧ True))) ⟨[(1, .one (.e (.sl 1 0 x2.length))), (5, .one (.e (.sl 2 0 ((x180 ++ (([(⟨(x2.getD i182.toNat drcd).who, (x2.getD i182.toNat drcd).node, (x2.getD i182.toNat drcd).value, (x2.getD i182.toNat drcd).fin⟩ : Rcd)].drop 0).take ([(⟨(x2.getD i182.toNat drcd).who, (x2.getD i182.toNat drcd).node, (x2.getD i182.toNat drcd).value, (x2.getD i182.toNat drcd).fin⟩ : Rcd)].length))).length)))), (6, .one (.e (.rp 3 0 0))), (13, .one (.e (.sl 1 0 x2.length))), (14, I ((x2.length : Nat) : Int)), (15, I i182)], [.row .nod x1 false, .row .rcd x2 false, .row .rcd (x180 ++ (([(⟨(x2.getD i182.toNat drcd).who, (x2.getD i182.toNat drcd).node, (x2.getD i182.toNat drcd).value, (x2.getD i182.toNat drcd).fin⟩ : Rcd)].drop 0).take ([(⟨(x2.getD i182.toNat drcd).who, (x2.getD i182.toNat drcd).node, (x2.getD i182.toNat drcd).value, (x2.getD i182.toNat drcd).fin⟩ : Rcd)].length))) true, .row .bool (x181.set (((x2.getD i182.toNat drcd).who).toNat * 1) true) true]⟩ (by kernel_rfl) ⟨trivial, hg295, trivial, trivial⟩ ?_
                refine WO_nil rfl ?_
                cases hv292
                exact And.intro rfl rfl
              · refine W_sub [0, 1, 2, 3] [1, 5, 6, 13, 14, 15] (st' := ⟨[(1, .one (.e (.sl 1 0 x2.length))), (5, .one (.e (.sl 2 0 x180.length))), (6, .one (.e (.rp 3 0 0))), (13, .one (.e (.sl 1 0 x2.length))), (14, I ((x2.length : Nat) : Int)), (15, I i182)], [.row .nod x1 false, .row .rcd x2 false, .row .rcd x180 true, .row .bool x181 true]⟩) (by kernel_rfl) ?_
                refine W_skip ?_
                cases hv292
                exact And.intro rfl rfl
            · obtain ⟨x290, x291⟩ := v292
              rintro _ _ ⟨rfl, rfl⟩
              refine blockS_n ?_
              cases hv259
              exact And.intro rfl rfl
      · obtain ⟨x257, x258⟩ := v259
        rintro _ _ ⟨rfl, rfl⟩
        refine thenS_n ?_
        refine W_region ?_
        refine WO_step 2 [0, 1, 2, 3] [1, 5, 6, 13, 14, 15] (True ∧ True) ⟨[(1, .one (.e (.sl 1 0 x2.length))), (5, .one (.e (.sl 2 0 x257.length))), (6, .one (.e (.rp 3 0 0))), (13, .one (.e (.sl 1 0 x2.length))), (14, I ((x2.length : Nat) : Int)), (15, I (w64 (i182 + 1)))], [.row .nod x1 false, .row .rcd x2 false, .row .rcd x257 true, .row .bool x258 true]⟩ (by kernel_rfl) ⟨trivial, trivial⟩ ?_
        refine WO_nil rfl ?_
        refine thenS_n ?_
        exact ih _ _ _ h
    · refine W_sub [0, 1, 2] [5] (st' := ⟨[(5, .one (.e (.sl 2 0 x180.length)))], [.row .nod x1 false, .row .rcd x2 false, .row .rcd x180 true]⟩) (by kernel_rfl) ?_
      refine W_exit ?_
      refine thenS_e ?_
      refine thenS_e ?_
      cases h
      exact And.intro rfl rfl

def impl_ShortLog (n : Nat) (x1 : List Nod) (x2 : List Rcd) : Option ((List Rcd)) :=
 bindO (impl_ValidLog n x1 x2) fun b132 =>
 iteO (!b132)
 (some ([] : List Rcd))
 (bindO (impl_ShortLog_L1 x2 x1 n ([] : List Rcd) ([false, false, false, false] : List Bool) 0) fun x222 =>
 some x222)

theorem impl_ShortLog_ok (n : Nat) (x1 : List Nod) (x2 : List Rcd) (x131 : List Rcd) (h : impl_ShortLog n x1 x2 = some x131) : FOk EE 23 [.one (.e (.sl 0 0 x1.length)), .one (.e (.sl 1 0 x2.length))] [.row .nod x1 false, .row .rcd x2 false] (.one (.e (.sl 2 0 x131.length))) [.row .nod x1 false, .row .rcd x2 false, .row .rcd x131 true] := by
  unfold impl_ShortLog at h
  refine FOk_of_W 51 2 Try.func23 rfl rfl (Nat.le_of_ble_eq_true rfl) rfl (fun w X θ => ?_)
  refine W_seq ?_
  refine W_region ?_
  refine WO_step 1 [0, 1] [0, 1] True ⟨[(0, .one (.e (.sl 0 0 x1.length))), (1, .one (.e (.sl 1 0 x2.length)))], [.row .nod x1 false, .row .rcd x2 false]⟩ (by kernel_rfl) trivial ?_
  refine WO_nil rfl ?_
  refine thenS_n ?_
  refine W_seq ?_
  refine W_seq ?_
  refine W_region ?_
  refine WO_step 2 [0, 1] [1, 9, 10] True ⟨[(1, .one (.e (.sl 1 0 x2.length))), (9, .one (.e (.sl 0 0 x1.length))), (10, .one (.e (.sl 1 0 x2.length)))], [.row .nod x1 false, .row .rcd x2 false]⟩ (by kernel_rfl) trivial ?_
  refine bindO_e h (fun b132 hc133 h => ?_)
  refine WO_call [.ro 0, .ro 1] Try.f16 rfl rfl rfl (by kernel_rfl) rfl rfl (by kernel_rfl) (impl_ValidLog_ok n x1 x2 b132 hc133) (And.intro (And.intro rfl rfl) (And.intro (And.intro rfl rfl) (trivial))) rfl ?_
  refine WO_step 1 [0, 1] [1, 12] True ⟨[(1, .one (.e (.sl 1 0 x2.length))), (12, B (!b132))], [.row .nod x1 false, .row .rcd x2 false]⟩ (by kernel_rfl) trivial ?_
  refine WO_nil rfl ?_
  refine thenS_n ?_
  refine iteO_e h (fun hb135 h => W_true rfl hb135 ?_) (fun hb135 h => W_false rfl hb135 ?_)
  · refine W_seq ?_
    refine W_region ?_
    refine WO_step 1 [0, 1] [4] True ⟨[(4, .one (.e (.nsl)))], [.row .nod x1 false, .row .rcd x2 false]⟩ (by kernel_rfl) trivial ?_
    refine WO_nilrow 4 .rcd rfl ?_
    refine WO_sub [0, 1, 2] [4] (st' := ⟨[(4, .one (.e (.sl 2 0 (([] : List Rcd).length))))], [.row .nod x1 false, .row .rcd x2 false, .row .rcd ([] : List Rcd) true]⟩) (by kernel_rfl) ?_
    refine WO_nil rfl ?_
    refine thenS_n ?_
    refine W_ret ?_
    refine thenS_r ?_
    cases h
    exact ⟨[0, 1, 2], True, by kernel_rfl, trivial⟩
  · refine W_sub [0, 1] [1] (st' := ⟨[(1, .one (.e (.sl 1 0 x2.length)))], [.row .nod x1 false, .row .rcd x2 false]⟩) (by kernel_rfl) ?_
    refine W_skip ?_
    refine thenS_n ?_
    refine W_seq ?_
    refine W_region ?_
    refine WO_step 1 [0, 1] [1, 5] True ⟨[(1, .one (.e (.sl 1 0 x2.length))), (5, .one (.e (.nsl)))], [.row .nod x1 false, .row .rcd x2 false]⟩ (by kernel_rfl) trivial ?_
    refine WO_nilrow 5 .rcd rfl ?_
    refine WO_sub [0, 1, 2] [1, 5] (st' := ⟨[(1, .one (.e (.sl 1 0 x2.length))), (5, .one (.e (.sl 2 0 (([] : List Rcd).length))))], [.row .nod x1 false, .row .rcd x2 false, .row .rcd ([] : List Rcd) true]⟩) (by kernel_rfl) ?_
    refine WO_nil rfl ?_
    refine thenS_n ?_
    refine W_seq ?_
    refine W_region ?_
    refine WO_step 1 [0, 1, 2, 3] [1, 5, 6] ((0 < ([false, false, false, false] : List Bool).length ∧ ([false, false, false, false] : List Bool).length ≤ 1099511627776) ∧ True) ⟨[(1, .one (.e (.sl 1 0 x2.length))), (5, .one (.e (.sl 2 0 (([] : List Rcd).length)))), (6, .one (.e (.rp 3 0 0)))], [.row .nod x1 false, .row .rcd x2 false, .row .rcd ([] : List Rcd) true, .row .bool ([false, false, false, false] : List Bool) true]⟩ (by kernel_rfl) ⟨(by decide), trivial⟩ ?_
    refine WO_nil rfl ?_
    refine thenS_n ?_
    refine W_seq ?_
    refine W_seq ?_
    refine W_region ?_
    refine WO_step 3 [0, 1, 2, 3] [1, 5, 6, 13, 14, 15] (True ∧ True) ⟨[(1, .one (.e (.sl 1 0 x2.length))), (5, .one (.e (.sl 2 0 (([] : List Rcd).length)))), (6, .one (.e (.rp 3 0 0))), (13, .one (.e (.sl 1 0 x2.length))), (14, I ((x2.length : Nat) : Int)), (15, I 0)], [.row .nod x1 false, .row .rcd x2 false, .row .rcd ([] : List Rcd) true, .row .bool ([false, false, false, false] : List Bool) true]⟩ (by kernel_rfl) ⟨trivial, trivial⟩ ?_
    refine WO_nil rfl ?_
    refine thenS_n ?_
    refine W_block ?_
    refine W_loop ?_
    refine bindO_e h (fun x222 hx222 h => ?_)
    refine WL_cut (impl_ShortLog_L1_ok w X θ x2 x1 x222 n ([] : List Rcd) ([false, false, false, false] : List Bool) 0 hx222) ?_
    rintro _ _ ⟨rfl, rfl⟩
    refine blockS_y ?_
    refine thenS_n ?_
    refine W_seq ?_
    refine W_region ?_
    refine WO_step 2 [0, 1, 2] [4] True ⟨[(4, .one (.e (.sl 2 0 x222.length)))], [.row .nod x1 false, .row .rcd x2 false, .row .rcd x222 true]⟩ (by kernel_rfl) trivial ?_
    refine WO_nil rfl ?_
    refine thenS_n ?_
    refine W_ret ?_
    cases h
    exact ⟨[0, 1, 2], True, by kernel_rfl, trivial⟩

/- spec.validLog -/
def spec_validLog_L1 (x1 : List Nod) (x2 : List Rcd) : Nat → Int → Option ((Unit) ⊕ (Unit))
| 0, _ => none
| n + 1, i133 =>
 iteO (decide (i133 < ((x2.length : Nat) : Int)))
 (guardO (0 ≤ i133 ∧ i133 < ((x2.length : Nat) : Int)) <|
 iteO ((!(spec_inRange ((x2.getD i133.toNat drcd).who) 0 3)) || ((!(spec_inRange ((x2.getD i133.toNat drcd).node) 0 (w64 (((x1.length : Nat) : Int) - 1)))) || ((!(spec_inRange ((x2.getD i133.toNat drcd).value) (-1000) 1000)) || ((x2.getD i133.toNat drcd).fin && ((!decide (((x2.getD i133.toNat drcd).node) = 0)) || (!decide (((x2.getD i133.toNat drcd).value) = 0)))))))
 (some (.inl ()))
 (spec_validLog_L1 x1 x2 n (w64 (i133 + 1))))
 (some (.inr ()))

theorem spec_validLog_L1_ok (w : World) (X : Nat → Prop) (θ : List Loc) (x1 : List Nod) (x2 : List Rcd) (v : (Unit) ⊕ (Unit)) : ∀ (n : Nat) (i133 : Int), spec_validLog_L1 x1 x2 n i133 = some v → WL EE ⟨w, X, θ, 53, 2⟩ (subC [1, 0, 1, 4, 4] (bodyC Try.f43)) (fun (e : Exit) (s : St) => (match v with | (.inl _) => e = .ret ∧ s = ⟨[(4, B false)], [.row .nod x1 false, .row .rcd x2 false]⟩ | (.inr _) => e = .exit 0 ∧ s = ⟨[(1, .one (.e (.sl 1 0 x2.length)))], [.row .nod x1 false, .row .rcd x2 false]⟩ : Prop)) ⟨[(0, .one (.e (.sl 0 0 x1.length))), (1, .one (.e (.sl 1 0 x2.length))), (5, I i133)], [.row .nod x1 false, .row .rcd x2 false]⟩ := by
  intro n
  induction n with
  | zero => intro _ h; exact none_e h
  | succ n ih =>
    intro i133 h
    rw [spec_validLog_L1] at h
    refine WL_round ?_
    refine W_seq ?_
    refine W_seq ?_
    refine W_region ?_
    refine WO_step 4 [0, 1] [0, 1, 5, 10] (True ∧ (True ∧ True)) ⟨[(0, .one (.e (.sl 0 0 x1.length))), (1, .one (.e (.sl 1 0 x2.length))), (5, I i133), (10, B (decide (i133 < ((x2.length : Nat) : Int))))], [.row .nod x1 false, .row .rcd x2 false]⟩ (by kernel_rfl) ⟨trivial, trivial, trivial⟩ ?_
    refine WO_nil rfl ?_
    refine thenS_n ?_
    refine iteO_e h (fun hb167 h => W_true rfl hb167 ?_) (fun hb167 h => W_false rfl hb167 ?_)
    · refine W_sub [0, 1] [0, 1, 5] (st' := ⟨[(0, .one (.e (.sl 0 0 x1.length))), (1, .one (.e (.sl 1 0 x2.length))), (5, I i133)], [.row .nod x1 false, .row .rcd x2 false]⟩) (by kernel_rfl) ?_
      refine W_skip ?_
      refine thenS_n ?_
      refine W_seq ?_
      refine W_block ?_
      refine W_seq ?_
      refine W_region ?_
      refine guardO_e h (fun hg182 h => ?_)
      refine WO_step 6 [0, 1, 2] [0, 1, 5, 6] ((0 ≤ i133 ∧ i133 < ((x2.length : Nat) : Int)) ∧ (True ∧ (True ∧ (True ∧ True)))) ⟨[(0, .one (.e (.sl 0 0 x1.length))), (1, .one (.e (.sl 1 0 x2.length))), (5, I i133), (6, .one (.e (.p 2 0)))], [.row .nod x1 false, .row .rcd x2 false, .cells [cI ((x2.getD i133.toNat drcd).who), cI ((x2.getD i133.toNat drcd).node), cI ((x2.getD i133.toNat drcd).value), cB ((x2.getD i133.toNat drcd).fin)]]⟩ (by kernel_rfl) ⟨hg182, trivial, trivial, trivial, trivial⟩ ?_
      refine WO_nil rfl ?_
      refine thenS_n ?_
      refine W_seq ?_
      refine W_region ?_
      refine WO_step 2 [0, 1, 2] [0, 1, 5, 6, 18] (True ∧ True) ⟨[(0, .one (.e (.sl 0 0 x1.length))), (1, .one (.e (.sl 1 0 x2.length))), (5, I i133), (6, .one (.e (.p 2 0))), (18, I ((x2.getD i133.toNat drcd).who))], [.row .nod x1 false, .row .rcd x2 false, .cells [cI ((x2.getD i133.toNat drcd).who), cI ((x2.getD i133.toNat drcd).node), cI ((x2.getD i133.toNat drcd).value), cB ((x2.getD i133.toNat drcd).fin)]]⟩ (by kernel_rfl) ⟨trivial, trivial⟩ ?_
      refine WO_call [] Try.f62 rfl rfl rfl (by kernel_rfl) rfl rfl (by kernel_rfl) (spec_inRange_ok ((x2.getD i133.toNat drcd).who) 0 3) (trivial) rfl ?_
      refine WO_step 2 [0, 1, 2] [0, 1, 5, 6, 21] True ⟨[(0, .one (.e (.sl 0 0 x1.length))), (1, .one (.e (.sl 1 0 x2.length))), (5, I i133), (6, .one (.e (.p 2 0))), (21, B (!(spec_inRange ((x2.getD i133.toNat drcd).who) 0 3)))], [.row .nod x1 false, .row .rcd x2 false, .cells [cI ((x2.getD i133.toNat drcd).who), cI ((x2.getD i133.toNat drcd).node), cI ((x2.getD i133.toNat drcd).value), cB ((x2.getD i133.toNat drcd).fin)]]⟩ (by kernel_rfl) trivial ?_
      refine WO_thru ⟨[(0, .one (.e (.sl 0 0 x1.length))), (1, .one (.e (.sl 1 0 x2.length))), (5, I i133), (49, B ((!(spec_inRange ((x2.getD i133.toNat drcd).who) 0 3)) || ((!(spec_inRange ((x2.getD i133.toNat drcd).node) 0 (w64 (((x1.length : Nat) : Int) - 1)))) || ((!(spec_inRange ((x2.getD i133.toNat drcd).value) (-1000) 1000)) || ((x2.getD i133.toNat drcd).fin && ((!decide (((x2.getD i133.toNat drcd).node) = 0)) || (!decide (((x2.getD i133.toNat drcd).value) = 0))))))))], [.row .nod x1 false, .row .rcd x2 false]⟩ ?_ ?_
      · refine WO_if 21 rfl (fun hb189 => ?_) (fun hb189 => ?_)
        · refine WO_step 28 [0, 1] [0, 1, 5, 49] True ⟨[(0, .one (.e (.sl 0 0 x1.length))), (1, .one (.e (.sl 1 0 x2.length))), (5, I i133), (49, B true)], [.row .nod x1 false, .row .rcd x2 false]⟩ (by kernel_rfl) trivial ?_
          exact WO_nil rfl ⟨rfl, by first | rfl | (rw [hb189]; first | done | rfl)⟩
        · refine WO_step 5 [0, 1, 2] [0, 1, 5, 6, 21, 23, 26] (True ∧ (True ∧ (True ∧ True))) ⟨[(0, .one (.e (.sl 0 0 x1.length))), (1, .one (.e (.sl 1 0 x2.length))), (5, I i133), (6, .one (.e (.p 2 0))), (21, B false), (23, I ((x2.getD i133.toNat drcd).node)), (26, I (w64 (((x1.length : Nat) : Int) - 1)))], [.row .nod x1 false, .row .rcd x2 false, .cells [cI ((x2.getD i133.toNat drcd).who), cI ((x2.getD i133.toNat drcd).node), cI ((x2.getD i133.toNat drcd).value), cB ((x2.getD i133.toNat drcd).fin)]]⟩ (by kernel_rfl) ⟨trivial, trivial, trivial, trivial⟩ ?_
          refine WO_call [] Try.f62 rfl rfl rfl (by kernel_rfl) rfl rfl (by kernel_rfl) (spec_inRange_ok ((x2.getD i133.toNat drcd).node) 0 (w64 (((x1.length : Nat) : Int) - 1))) (trivial) rfl ?_
          refine WO_step 3 [0, 1, 2] [0, 1, 5, 6, 30] True ⟨[(0, .one (.e (.sl 0 0 x1.length))), (1, .one (.e (.sl 1 0 x2.length))), (5, I i133), (6, .one (.e (.p 2 0))), (30, B (!(spec_inRange ((x2.getD i133.toNat drcd).node) 0 (w64 (((x1.length : Nat) : Int) - 1)))))], [.row .nod x1 false, .row .rcd x2 false, .cells [cI ((x2.getD i133.toNat drcd).who), cI ((x2.getD i133.toNat drcd).node), cI ((x2.getD i133.toNat drcd).value), cB ((x2.getD i133.toNat drcd).fin)]]⟩ (by kernel_rfl) trivial ?_
          refine WO_if 30 rfl (fun hb190 => ?_) (fun hb190 => ?_)
          · refine WO_step 19 [0, 1] [0, 1, 5, 49] True ⟨[(0, .one (.e (.sl 0 0 x1.length))), (1, .one (.e (.sl 1 0 x2.length))), (5, I i133), (49, B true)], [.row .nod x1 false, .row .rcd x2 false]⟩ (by kernel_rfl) trivial ?_
            exact WO_nil rfl ⟨rfl, by first | rfl | (simp only [hb189, hb190]; first | done | rfl)⟩
          · refine WO_step 2 [0, 1, 2] [0, 1, 5, 6, 30, 32] (True ∧ True) ⟨[(0, .one (.e (.sl 0 0 x1.length))), (1, .one (.e (.sl 1 0 x2.length))), (5, I i133), (6, .one (.e (.p 2 0))), (30, B false), (32, I ((x2.getD i133.toNat drcd).value))], [.row .nod x1 false, .row .rcd x2 false, .cells [cI ((x2.getD i133.toNat drcd).who), cI ((x2.getD i133.toNat drcd).node), cI ((x2.getD i133.toNat drcd).value), cB ((x2.getD i133.toNat drcd).fin)]]⟩ (by kernel_rfl) ⟨trivial, trivial⟩ ?_
            refine WO_call [] Try.f62 rfl rfl rfl (by kernel_rfl) rfl rfl (by kernel_rfl) (spec_inRange_ok ((x2.getD i133.toNat drcd).value) (-1000) 1000) (trivial) rfl ?_
            refine WO_step 3 [0, 1, 2] [0, 1, 5, 6, 36] True ⟨[(0, .one (.e (.sl 0 0 x1.length))), (1, .one (.e (.sl 1 0 x2.length))), (5, I i133), (6, .one (.e (.p 2 0))), (36, B (!(spec_inRange ((x2.getD i133.toNat drcd).value) (-1000) 1000)))], [.row .nod x1 false, .row .rcd x2 false, .cells [cI ((x2.getD i133.toNat drcd).who), cI ((x2.getD i133.toNat drcd).node), cI ((x2.getD i133.toNat drcd).value), cB ((x2.getD i133.toNat drcd).fin)]]⟩ (by kernel_rfl) trivial ?_
            refine WO_if 36 rfl (fun hb191 => ?_) (fun hb191 => ?_)
            · refine WO_step 13 [0, 1] [0, 1, 5, 49] True ⟨[(0, .one (.e (.sl 0 0 x1.length))), (1, .one (.e (.sl 1 0 x2.length))), (5, I i133), (49, B true)], [.row .nod x1 false, .row .rcd x2 false]⟩ (by kernel_rfl) trivial ?_
              exact WO_nil rfl ⟨rfl, by first | rfl | (simp only [hb189, hb190, hb191]; first | done | rfl)⟩
            · refine WO_step 3 [0, 1, 2] [0, 1, 5, 6, 36, 39] (True ∧ True) ⟨[(0, .one (.e (.sl 0 0 x1.length))), (1, .one (.e (.sl 1 0 x2.length))), (5, I i133), (6, .one (.e (.p 2 0))), (36, B false), (39, B ((x2.getD i133.toNat drcd).fin))], [.row .nod x1 false, .row .rcd x2 false, .cells [cI ((x2.getD i133.toNat drcd).who), cI ((x2.getD i133.toNat drcd).node), cI ((x2.getD i133.toNat drcd).value), cB ((x2.getD i133.toNat drcd).fin)]]⟩ (by kernel_rfl) ⟨trivial, trivial⟩ ?_
              refine WO_if 39 rfl (fun hb192 => ?_) (fun hb192 => ?_)
              · refine WO_step 4 [0, 1, 2] [0, 1, 5, 6, 36, 39, 43] (True ∧ (True ∧ True)) ⟨[(0, .one (.e (.sl 0 0 x1.length))), (1, .one (.e (.sl 1 0 x2.length))), (5, I i133), (6, .one (.e (.p 2 0))), (36, B false), (39, B true), (43, B (!decide (((x2.getD i133.toNat drcd).node) = 0)))], [.row .nod x1 false, .row .rcd x2 false, .cells [cI ((x2.getD i133.toNat drcd).who), cI ((x2.getD i133.toNat drcd).node), cI ((x2.getD i133.toNat drcd).value), cB ((x2.getD i133.toNat drcd).fin)]]⟩ (by kernel_rfl) ⟨trivial, trivial, trivial⟩ ?_
                refine WO_if 43 rfl (fun hb193 => ?_) (fun hb193 => ?_)
                · refine WO_step 6 [0, 1] [0, 1, 5, 49] True ⟨[(0, .one (.e (.sl 0 0 x1.length))), (1, .one (.e (.sl 1 0 x2.length))), (5, I i133), (49, B true)], [.row .nod x1 false, .row .rcd x2 false]⟩ (by kernel_rfl) trivial ?_
                  exact WO_nil rfl ⟨rfl, by first | rfl | (simp only [hb189, hb190, hb191, hb192, hb193]; first | done | rfl)⟩
                · refine WO_step 6 [0, 1] [0, 1, 5, 49] (True ∧ (True ∧ True)) ⟨[(0, .one (.e (.sl 0 0 x1.length))), (1, .one (.e (.sl 1 0 x2.length))), (5, I i133), (49, B (!decide (((x2.getD i133.toNat drcd).value) = 0)))], [.row .nod x1 false, .row .rcd x2 false]⟩ (by kernel_rfl) ⟨trivial, trivial, trivial⟩ ?_
                  exact WO_nil rfl ⟨rfl, by first | rfl | (simp only [hb189, hb190, hb191, hb192, hb193]; first | done | rfl)⟩
              · refine WO_step 10 [0, 1] [0, 1, 5, 49] True ⟨[(0, .one (.e (.sl 0 0 x1.length))), (1, .one (.e (.sl 1 0 x2.length))), (5, I i133), (49, B false)], [.row .nod x1 false, .row .rcd x2 false]⟩ (by kernel_rfl) trivial ?_
                exact WO_nil rfl ⟨rfl, by first | rfl | (simp only [hb189, hb190, hb191, hb192]; first | done | rfl)⟩
      · refine thenS_n ?_
        refine iteO_e h (fun hb195 h => W_true rfl hb195 ?_) (fun hb195 h => W_false rfl hb195 ?_)
        · refine W_seq ?_
          refine W_region ?_
          refine WO_step 1 [0, 1] [4] True ⟨[(4, B false)], [.row .nod x1 false, .row .rcd x2 false]⟩ (by kernel_rfl) trivial ?_
          refine WO_nil rfl ?_
          refine thenS_n ?_
          refine W_ret ?_
          refine blockS_r ?_
          refine thenS_r ?_
          refine thenS_r ?_
          cases h
          exact And.intro rfl rfl
        · refine W_sub [0, 1] [0, 1, 5] (st' := ⟨[(0, .one (.e (.sl 0 0 x1.length))), (1, .one (.e (.sl 1 0 x2.length))), (5, I i133)], [.row .nod x1 false, .row .rcd x2 false]⟩) (by kernel_rfl) ?_
          refine W_skip ?_
          refine blockS_n ?_
          refine thenS_n ?_
          refine W_region ?_
          refine WO_step 3 [0, 1] [0, 1, 5] (True ∧ True) ⟨[(0, .one (.e (.sl 0 0 x1.length))), (1, .one (.e (.sl 1 0 x2.length))), (5, I (w64 (i133 + 1)))], [.row .nod x1 false, .row .rcd x2 false]⟩ (by kernel_rfl) ⟨trivial, trivial⟩ ?_
          refine WO_nil rfl ?_
          refine thenS_n ?_
          exact ih _ h
    · refine W_sub [0, 1] [1] (st' := ⟨[(1, .one (.e (.sl 1 0 x2.length)))], [.row .nod x1 false, .row .rcd x2 false]⟩) (by kernel_rfl) ?_
      refine W_exit ?_
      refine thenS_e ?_
      refine thenS_e ?_
      cases h
      exact And.intro rfl rfl

def spec_validLog (n : Nat) (x1 : List Nod) (x2 : List Rcd) : Option (Bool) :=
 bindO (spec_validLog_L1 x1 x2 n 0) fun v196 =>
 match v196 with
 | (.inl _) => (some false)
 | (.inr _) => (some (decide (((x2.length : Nat) : Int) ≤ 16)))


theorem spec_validLog_ok (n : Nat) (x1 : List Nod) (x2 : List Rcd) (b99 : Bool) (h : spec_validLog n x1 x2 = some b99) : FOk EE 43 [.one (.e (.sl 0 0 x1.length)), .one (.e (.sl 1 0 x2.length))] [.row .nod x1 false, .row .rcd x2 false] (B b99) [.row .nod x1 false, .row .rcd x2 false] := by
  unfold spec_validLog at h
  refine FOk_of_W 53 2 Try.func43 rfl rfl (Nat.le_of_ble_eq_true rfl) rfl (fun w X θ => ?_)
  refine W_seq ?_
  refine W_region ?_
  refine WO_step 1 [0, 1] [0, 1] True ⟨[(0, .one (.e (.sl 0 0 x1.length))), (1, .one (.e (.sl 1 0 x2.length)))], [.row .nod x1 false, .row .rcd x2 false]⟩ (by kernel_rfl) trivial ?_
  refine WO_nil rfl ?_
  refine thenS_n ?_
  refine W_seq ?_
  refine W_seq ?_
  refine W_region ?_
  refine WO_step 1 [0, 1] [0, 1, 5] True ⟨[(0, .one (.e (.sl 0 0 x1.length))), (1, .one (.e (.sl 1 0 x2.length))), (5, I 0)], [.row .nod x1 false, .row .rcd x2 false]⟩ (by kernel_rfl) trivial ?_
  refine WO_nil rfl ?_
  refine thenS_n ?_
  refine W_block ?_
  refine W_loop ?_
  refine bindO_e h (fun v196 hv196 h => ?_)
  refine WL_cut (spec_validLog_L1_ok w X θ x1 x2 v196 n 0 hv196) ?_
  rcases v196 with _ | _
  · rintro _ _ ⟨rfl, rfl⟩
    refine blockS_r ?_
    refine thenS_r ?_
    cases h
    exact ⟨[0, 1], True, by kernel_rfl, trivial⟩
  · rintro _ _ ⟨rfl, rfl⟩
    refine blockS_y ?_
    refine thenS_n ?_
    refine W_seq ?_
    refine W_region ?_
    refine WO_step 4 [0, 1] [4] (True ∧ (True ∧ True)) ⟨[(4, B (decide (((x2.length : Nat) : Int) ≤ 16)))], [.row .nod x1 false, .row .rcd x2 false]⟩ (by kernel_rfl) ⟨trivial, trivial, trivial⟩ ?_
    refine WO_nil rfl ?_
    refine thenS_n ?_
    refine W_ret ?_
    cases h
    exact ⟨[0, 1], True, by kernel_rfl, trivial⟩

end Go.Proofs.Ytdkmgkeaebcobaa

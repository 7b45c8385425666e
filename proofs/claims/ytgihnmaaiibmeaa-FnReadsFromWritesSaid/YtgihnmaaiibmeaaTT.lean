import Derived.Test.YtgihnmaaiibmeaaTLt
import Derived.Test.YtgihnmaaiibmeaaTLxa
import Derived.Test.YtgihnmaaiibmeaaProg
namespace Go.Proofs.Ytgihnmaaiibmeaa
open Go
set_option linter.unusedVariables false
noncomputable def EE : Env := ⟨Try.prog, fun _ => none, fun t => match t with | 3 => some .int | 5 => some .u8 | 31 => some .acc | 56 => some .acc | _ => none⟩
/- spec.newReader -/
def spec_newReader (x1 : List Int) : Option (Nat) :=
 bindO (iteO (decide (2000 < ((x1.length : Nat) : Int)))
 (guardO (0 ≤ (2000 : Int) ∧ (2000 : Int) ≤ ((x1.length : Nat) : Int)) <|
 some 2000)
 (some x1.length)) fun k9 =>
 some k9

theorem spec_newReader_ok (x1 : List Int) (k6 : Nat) (h : spec_newReader x1 = some k6) : FOk EE 35 [.one (.e (.sl 0 0 x1.length))] [.row .u8 x1 false] (.one (.e (.p 1 0))) [.row .u8 x1 false, .cells [.sl 0 0 k6, cI 0]] := by
  unfold spec_newReader at h
  refine FOk_of_W 11 1 Try.func35 rfl rfl (Nat.le_of_ble_eq_true rfl) rfl (fun w X θ => ?_)
  refine W_seq ?_
  refine W_region ?_
  refine WO_step 1 [0] [0] True ⟨[(0, .one (.e (.sl 0 0 x1.length)))], [.row .u8 x1 false]⟩ (by kernel_rfl) trivial ?_
  refine WO_nil rfl ?_
  refine thenS_n ?_
  refine W_seq ?_
  refine W_seq ?_
  refine W_region ?_
  refine WO_step 3 [0] [0, 5] (True ∧ (True ∧ True)) ⟨[(0, .one (.e (.sl 0 0 x1.length))), (5, B (decide (2000 < ((x1.length : Nat) : Int))))], [.row .u8 x1 false]⟩ (by kernel_rfl) ⟨trivial, trivial, trivial⟩ ?_
  refine WO_nil rfl ?_
  refine thenS_n ?_
  refine bindO_e h (fun k9 hk9 h => ?_)
  refine W_cut (Q' := fun (e : Exit) (s : St) => e = .normal ∧ s = ⟨[(0, .one (.e (.sl 0 0 k9)))], [.row .u8 x1 false]⟩) ?_ ?_
  · refine iteO_e hk9 (fun hb11 hk9 => W_true rfl hb11 ?_) (fun hb11 hk9 => W_false rfl hb11 ?_)
    · refine W_region ?_
      refine guardO_e hk9 (fun hg12 hk9 => ?_)
      refine WO_step 3 [0] [0] ((0 ≤ (2000 : Int) ∧ (2000 : Int) ≤ ((x1.length : Nat) : Int)) ∧ True) ⟨[(0, .one (.e (.sl 0 0 2000)))], [.row .u8 x1 false]⟩ (by kernel_rfl) ⟨hg12, trivial⟩ ?_
      refine WO_nil rfl ?_
      cases hk9
      exact And.intro rfl rfl
    · refine W_sub [0] [0] (st' := ⟨[(0, .one (.e (.sl 0 0 x1.length)))], [.row .u8 x1 false]⟩) (by kernel_rfl) ?_
      refine W_skip ?_
      cases hk9
      exact And.intro rfl rfl
  · rintro _ _ ⟨rfl, rfl⟩
    refine thenS_n ?_
    refine W_seq ?_
    refine W_region ?_
    refine WO_step 4 [0, 1] [2] (True ∧ True) ⟨[(2, .one (.e (.p 1 0)))], [.row .u8 x1 false, .cells [.sl 0 0 k9, cI 0]]⟩ (by kernel_rfl) ⟨trivial, trivial⟩ ?_
    refine WO_nil rfl ?_
    refine thenS_n ?_
    refine W_ret ?_
    cases h
    exact ⟨[0, 1], True, by kernel_rfl, trivial⟩

/- spec.reader).pick -/
def spec_reader_pick (x1 : List Int) (k2 : Nat) (i3 : Int) (i4 : Int) : Option (Int) :=
 iteO ((decide (i4 < 1)) || (decide (((k2 : Nat) : Int) = 0)))
 (some 0)
 (iteO (decide ((w64 ((w64 (i3 + 1)) - 1)) < ((k2 : Nat) : Int)))
 (guardO (0 ≤ (w64 ((w64 (i3 + 1)) - 1)) ∧ (w64 ((w64 (i3 + 1)) - 1)) < ((k2 : Nat) : Int)) <|
 guardO ((i4 : Int) ≠ 0) <|
 some ((w64 (x1.getD ((w64 ((w64 (i3 + 1)) - 1)).toNat) 0)).tmod i4))
 (guardO ((((k2 : Nat) : Int) : Int) ≠ 0) <|
 guardO (0 ≤ ((w64 ((w64 (i3 + 1)) - 1)).tmod ((k2 : Nat) : Int)) ∧ ((w64 ((w64 (i3 + 1)) - 1)).tmod ((k2 : Nat) : Int)) < ((k2 : Nat) : Int)) <|
 guardO ((((k2 : Nat) : Int) : Int) ≠ 0) <|
 guardO (0 ≤ ((w64 ((w64 ((w64 ((w64 (i3 + 1)) - 1)) * 7)) + 3)).tmod ((k2 : Nat) : Int)) ∧ ((w64 ((w64 ((w64 ((w64 (i3 + 1)) - 1)) * 7)) + 3)).tmod ((k2 : Nat) : Int)) < ((k2 : Nat) : Int)) <|
 guardO ((((k2 : Nat) : Int) : Int) ≠ 0) <|
 guardO ((i4 : Int) ≠ 0) <|
 some ((w64 (BitVec.ofInt 64 (w64 ((w64 ((w64 ((w64 ((w64 (x1.getD (((w64 ((w64 (i3 + 1)) - 1)).tmod ((k2 : Nat) : Int)).toNat) 0)) * 131)) + (w64 ((w64 (x1.getD (((w64 ((w64 ((w64 ((w64 (i3 + 1)) - 1)) * 7)) + 3)).tmod ((k2 : Nat) : Int)).toNat) 0)) * 1117)))) + (w64 ((w64 ((w64 (i3 + 1)) - 1)) * 29)))) + (w64 ((w64 ((w64 ((w64 (i3 + 1)) - 1)).tdiv ((k2 : Nat) : Int))) * 53)))) ^^^ BitVec.ofInt 64 (w64 ((w64 ((w64 ((w64 ((w64 ((w64 (x1.getD (((w64 ((w64 (i3 + 1)) - 1)).tmod ((k2 : Nat) : Int)).toNat) 0)) * 131)) + (w64 ((w64 (x1.getD (((w64 ((w64 ((w64 ((w64 (i3 + 1)) - 1)) * 7)) + 3)).tmod ((k2 : Nat) : Int)).toNat) 0)) * 1117)))) + (w64 ((w64 ((w64 (i3 + 1)) - 1)) * 29)))) + (w64 ((w64 ((w64 ((w64 (i3 + 1)) - 1)).tdiv ((k2 : Nat) : Int))) * 53)))).tdiv 64))).toNat).tmod i4)))

theorem spec_reader_pick_ok (x1 : List Int) (k2 : Nat) (i3 : Int) (i4 : Int) (i22 : Int) (h : spec_reader_pick x1 k2 i3 i4 = some i22) : FOk EE 37 [.one (.e (.p 0 0)), I i4] [.cells [.sl 1 0 k2, cI i3], .row .u8 x1 false] (I i22) [.cells [.sl 1 0 k2, cI (w64 (i3 + 1))], .row .u8 x1 false] := by
  unfold spec_reader_pick at h
  refine FOk_of_W 99 2 Try.func37 rfl rfl (Nat.le_of_ble_eq_true rfl) rfl (fun w X θ => ?_)
  refine W_seq ?_
  refine W_region ?_
  refine WO_step 1 [0, 1] [0, 1] True ⟨[(0, .one (.e (.p 0 0))), (1, I i4)], [.cells [.sl 1 0 k2, cI i3], .row .u8 x1 false]⟩ (by kernel_rfl) trivial ?_
  refine WO_nil rfl ?_
  refine thenS_n ?_
  refine W_seq ?_
  refine W_region ?_
  refine WO_step 9 [0, 1] [0, 1] (True ∧ (True ∧ (True ∧ True))) ⟨[(0, .one (.e (.p 0 0))), (1, I i4)], [.cells [.sl 1 0 k2, cI (w64 (i3 + 1))], .row .u8 x1 false]⟩ (by kernel_rfl) ⟨trivial, trivial, trivial, trivial⟩ ?_
  refine WO_nil rfl ?_
  refine thenS_n ?_
  refine W_seq ?_
  refine W_seq ?_
  refine W_region ?_
  refine WO_step 3 [0, 1] [0, 1, 17] (True ∧ True) ⟨[(0, .one (.e (.p 0 0))), (1, I i4), (17, B (decide (i4 < 1)))], [.cells [.sl 1 0 k2, cI (w64 (i3 + 1))], .row .u8 x1 false]⟩ (by kernel_rfl) ⟨trivial, trivial⟩ ?_
  refine WO_thru ⟨[(0, .one (.e (.p 0 0))), (1, I i4), (24, B ((decide (i4 < 1)) || (decide (((k2 : Nat) : Int) = 0))))], [.cells [.sl 1 0 k2, cI (w64 (i3 + 1))], .row .u8 x1 false]⟩ ?_ ?_
  · refine WO_if 17 rfl (fun hb25 => ?_) (fun hb25 => ?_)
    · refine WO_step 7 [0, 1] [0, 1, 24] True ⟨[(0, .one (.e (.p 0 0))), (1, I i4), (24, B true)], [.cells [.sl 1 0 k2, cI (w64 (i3 + 1))], .row .u8 x1 false]⟩ (by kernel_rfl) trivial ?_
      exact WO_nil rfl ⟨rfl, by first | rfl | (rw [hb25]; first | done | rfl)⟩
    · refine WO_step 7 [0, 1] [0, 1, 24] (True ∧ (True ∧ (True ∧ True))) ⟨[(0, .one (.e (.p 0 0))), (1, I i4), (24, B (decide (((k2 : Nat) : Int) = 0)))], [.cells [.sl 1 0 k2, cI (w64 (i3 + 1))], .row .u8 x1 false]⟩ (by kernel_rfl) ⟨trivial, trivial, trivial, trivial⟩ ?_
      exact WO_nil rfl ⟨rfl, by first | rfl | (rw [hb25]; first | done | rfl)⟩
  · refine thenS_n ?_
    refine iteO_e h (fun hb27 h => W_true rfl hb27 ?_) (fun hb27 h => W_false rfl hb27 ?_)
    · refine W_seq ?_
      refine W_region ?_
      refine WO_step 1 [0, 1] [4] True ⟨[(4, I 0)], [.cells [.sl 1 0 k2, cI (w64 (i3 + 1))], .row .u8 x1 false]⟩ (by kernel_rfl) trivial ?_
      refine WO_nil rfl ?_
      refine thenS_n ?_
      refine W_ret ?_
      refine thenS_r ?_
      cases h
      exact ⟨[0, 1], True, by kernel_rfl, trivial⟩
    · refine W_sub [0, 1] [0, 1] (st' := ⟨[(0, .one (.e (.p 0 0))), (1, I i4)], [.cells [.sl 1 0 k2, cI (w64 (i3 + 1))], .row .u8 x1 false]⟩) (by kernel_rfl) ?_
      refine W_skip ?_
      refine thenS_n ?_
      refine W_seq ?_
      refine W_region ?_
      refine WO_step 6 [0, 1] [0, 1, 5] (True ∧ (True ∧ True)) ⟨[(0, .one (.e (.p 0 0))), (1, I i4), (5, I (w64 ((w64 (i3 + 1)) - 1)))], [.cells [.sl 1 0 k2, cI (w64 (i3 + 1))], .row .u8 x1 false]⟩ (by kernel_rfl) ⟨trivial, trivial, trivial⟩ ?_
      refine WO_nil rfl ?_
      refine thenS_n ?_
      refine W_seq ?_
      refine W_seq ?_
      refine W_region ?_
      refine WO_step 7 [0, 1] [0, 1, 5, 36] (True ∧ (True ∧ (True ∧ True))) ⟨[(0, .one (.e (.p 0 0))), (1, I i4), (5, I (w64 ((w64 (i3 + 1)) - 1))), (36, B (decide ((w64 ((w64 (i3 + 1)) - 1)) < ((k2 : Nat) : Int))))], [.cells [.sl 1 0 k2, cI (w64 (i3 + 1))], .row .u8 x1 false]⟩ (by kernel_rfl) ⟨trivial, trivial, trivial, trivial⟩ ?_
      refine WO_nil rfl ?_
      refine thenS_n ?_
      refine iteO_e h (fun hb31 h => W_true rfl hb31 ?_) (fun hb31 h => W_false rfl hb31 ?_)
      · refine W_seq ?_
        refine W_region ?_
        refine guardO_e h (fun hg32 h => ?_)
        refine guardO_e h (fun hg33 h => ?_)
        refine WO_step 11 [0, 1] [4] (True ∧ ((0 ≤ (w64 ((w64 (i3 + 1)) - 1)) ∧ (w64 ((w64 (i3 + 1)) - 1)) < ((k2 : Nat) : Int)) ∧ (True ∧ (True ∧ (((i4 : Int) ≠ 0) ∧ True))))) ⟨[(4, I ((w64 (x1.getD ((w64 ((w64 (i3 + 1)) - 1)).toNat) 0)).tmod i4))], [.cells [.sl 1 0 k2, cI (w64 (i3 + 1))], .row .u8 x1 false]⟩ (by kernel_rfl) ⟨trivial, hg32, trivial, trivial, hg33, trivial⟩ ?_
        refine WO_nil rfl ?_
        refine thenS_n ?_
        refine W_ret ?_
        refine thenS_r ?_
        cases h
        exact ⟨[0, 1], True, by kernel_rfl, trivial⟩
      · refine W_sub [0, 1] [0, 1, 5] (st' := ⟨[(0, .one (.e (.p 0 0))), (1, I i4), (5, I (w64 ((w64 (i3 + 1)) - 1)))], [.cells [.sl 1 0 k2, cI (w64 (i3 + 1))], .row .u8 x1 false]⟩) (by kernel_rfl) ?_
        refine W_skip ?_
        refine thenS_n ?_
        refine W_seq ?_
        refine guardO_e h (fun hg34 h => ?_)
        refine guardO_e h (fun hg35 h => ?_)
        refine guardO_e h (fun hg36 h => ?_)
        refine guardO_e h (fun hg37 h => ?_)
        refine guardO_e h (fun hg38 h => ?_)
        refine W_cut (Q' := fun (e : Exit) (s : St) => e = .normal ∧ s = ⟨[(1, I i4), (6, I (w64 ((w64 ((w64 ((w64 ((w64 (x1.getD (((w64 ((w64 (i3 + 1)) - 1)).tmod ((k2 : Nat) : Int)).toNat) 0)) * 131)) + (w64 ((w64 (x1.getD (((w64 ((w64 ((w64 ((w64 (i3 + 1)) - 1)) * 7)) + 3)).tmod ((k2 : Nat) : Int)).toNat) 0)) * 1117)))) + (w64 ((w64 ((w64 (i3 + 1)) - 1)) * 29)))) + (w64 ((w64 ((w64 ((w64 (i3 + 1)) - 1)).tdiv ((k2 : Nat) : Int))) * 53)))))], [.cells [.sl 1 0 k2, cI (w64 (i3 + 1))], .row .u8 x1 false]⟩) ?_ ?_
        · refine W_draw [] true (by kernel_rfl) (by kernel_rfl) ?_
          refine WD_takeK [0, 1, 2, 3, 4, 5, 6, 7, 8, 9, 10, 11, 12, 13, 14, 15, 16, 17, 18, 19, 20, 21, 22, 23, 24, 25, 26, 27, 28, 29, 30, 31, 32, 33, 34, 35, 36, 37, 38, 39, 40, 41, 42, 43, 44, 45] [1, 6] [1, 6] (φ := (True ∧ True ∧ (True ∧ True ∧ (True ∧ True ∧ (((((k2 : Nat) : Int) : Int) ≠ 0) ∧ ((((k2 : Nat) : Int) : Int) ≠ 0) ∧ ((0 ≤ ((w64 ((w64 (i3 + 1)) - 1)).tmod ((k2 : Nat) : Int)) ∧ ((w64 ((w64 (i3 + 1)) - 1)).tmod ((k2 : Nat) : Int)) < ((k2 : Nat) : Int)) ∧ (0 ≤ ((w64 ((w64 (i3 + 1)) - 1)).tmod ((k2 : Nat) : Int)) ∧ ((w64 ((w64 (i3 + 1)) - 1)).tmod ((k2 : Nat) : Int)) < ((k2 : Nat) : Int)) ∧ (True ∧ True ∧ (True ∧ True ∧ (True ∧ True ∧ (True ∧ True ∧ (True ∧ True ∧ (True ∧ True ∧ (True ∧ True ∧ (True ∧ True ∧ (((((k2 : Nat) : Int) : Int) ≠ 0) ∧ ((((k2 : Nat) : Int) : Int) ≠ 0) ∧ ((0 ≤ ((w64 ((w64 ((w64 ((w64 (i3 + 1)) - 1)) * 7)) + 3)).tmod ((k2 : Nat) : Int)) ∧ ((w64 ((w64 ((w64 ((w64 (i3 + 1)) - 1)) * 7)) + 3)).tmod ((k2 : Nat) : Int)) < ((k2 : Nat) : Int)) ∧ (0 ≤ ((w64 ((w64 ((w64 ((w64 (i3 + 1)) - 1)) * 7)) + 3)).tmod ((k2 : Nat) : Int)) ∧ ((w64 ((w64 ((w64 ((w64 (i3 + 1)) - 1)) * 7)) + 3)).tmod ((k2 : Nat) : Int)) < ((k2 : Nat) : Int)) ∧ (True ∧ True ∧ (True ∧ True ∧ (True ∧ True ∧ (True ∧ True ∧ (True ∧ True ∧ (True ∧ True ∧ (True ∧ True ∧ (True ∧ True ∧ (((((k2 : Nat) : Int) : Int) ≠ 0) ∧ ((((k2 : Nat) : Int) : Int) ≠ 0) ∧ (True ∧ True ∧ (True ∧ True ∧ True))))))))))))))))))))))))))) (ls' := #[true, true, true, true, true, true, true, true, true, true, true, true, true, true, true, true, true, true, true, true, true, true, true, true, true, true, true, true, true, true, true, true, true, true, true, true, true, true, true, true, true, true, true, true, true, true]) (Ts' := [(1, I i4), (6, I (w64 ((w64 ((w64 ((w64 ((w64 (x1.getD (((w64 ((w64 (i3 + 1)) - 1)).tmod ((k2 : Nat) : Int)).toNat) 0)) * 131)) + (w64 ((w64 (x1.getD (((w64 ((w64 ((w64 ((w64 (i3 + 1)) - 1)) * 7)) + 3)).tmod ((k2 : Nat) : Int)).toNat) 0)) * 1117)))) + (w64 ((w64 ((w64 (i3 + 1)) - 1)) * 29)))) + (w64 ((w64 ((w64 ((w64 (i3 + 1)) - 1)).tdiv ((k2 : Nat) : Int))) * 53)))))]) (st' := ⟨[(1, I i4), (6, I (w64 ((w64 ((w64 ((w64 ((w64 (x1.getD (((w64 ((w64 (i3 + 1)) - 1)).tmod ((k2 : Nat) : Int)).toNat) 0)) * 131)) + (w64 ((w64 (x1.getD (((w64 ((w64 ((w64 ((w64 (i3 + 1)) - 1)) * 7)) + 3)).tmod ((k2 : Nat) : Int)).toNat) 0)) * 1117)))) + (w64 ((w64 ((w64 (i3 + 1)) - 1)) * 29)))) + (w64 ((w64 ((w64 ((w64 (i3 + 1)) - 1)).tdiv ((k2 : Nat) : Int))) * 53)))))], [.cells [.sl 1 0 k2, cI (w64 (i3 + 1))], .row .u8 x1 false]⟩) (n2 := 0) (by kernel_rfl) ⟨trivial, trivial, trivial, trivial, trivial, trivial, hg34, hg34, hg35, hg35, trivial, trivial, trivial, trivial, trivial, trivial, trivial, trivial, trivial, trivial, trivial, trivial, trivial, trivial, trivial, trivial, hg36, hg36, hg37, hg37, trivial, trivial, trivial, trivial, trivial, trivial, trivial, trivial, trivial, trivial, trivial, trivial, trivial, trivial, trivial, trivial, hg38, hg38, trivial, trivial, trivial, trivial, trivial⟩ rfl ?_
          exact WD_done [0, 1] [1, 6] (st' := ⟨[(1, I i4), (6, I (w64 ((w64 ((w64 ((w64 ((w64 (x1.getD (((w64 ((w64 (i3 + 1)) - 1)).tmod ((k2 : Nat) : Int)).toNat) 0)) * 131)) + (w64 ((w64 (x1.getD (((w64 ((w64 ((w64 ((w64 (i3 + 1)) - 1)) * 7)) + 3)).tmod ((k2 : Nat) : Int)).toNat) 0)) * 1117)))) + (w64 ((w64 ((w64 (i3 + 1)) - 1)) * 29)))) + (w64 ((w64 ((w64 ((w64 (i3 + 1)) - 1)).tdiv ((k2 : Nat) : Int))) * 53)))))], [.cells [.sl 1 0 k2, cI (w64 (i3 + 1))], .row .u8 x1 false]⟩) (by kernel_rfl) (by kernel_rfl) (And.intro rfl rfl)
        · rintro _ _ ⟨rfl, rfl⟩
          refine thenS_n ?_
          refine W_seq ?_
          refine W_region ?_
          refine WO_step 5 [0, 1] [1, 6] (((64 : Int) ≠ 0) ∧ (True ∧ True)) ⟨[(1, I i4), (6, I (w64 (BitVec.ofInt 64 (w64 ((w64 ((w64 ((w64 ((w64 (x1.getD (((w64 ((w64 (i3 + 1)) - 1)).tmod ((k2 : Nat) : Int)).toNat) 0)) * 131)) + (w64 ((w64 (x1.getD (((w64 ((w64 ((w64 ((w64 (i3 + 1)) - 1)) * 7)) + 3)).tmod ((k2 : Nat) : Int)).toNat) 0)) * 1117)))) + (w64 ((w64 ((w64 (i3 + 1)) - 1)) * 29)))) + (w64 ((w64 ((w64 ((w64 (i3 + 1)) - 1)).tdiv ((k2 : Nat) : Int))) * 53)))) ^^^ BitVec.ofInt 64 (w64 ((w64 ((w64 ((w64 ((w64 ((w64 (x1.getD (((w64 ((w64 (i3 + 1)) - 1)).tmod ((k2 : Nat) : Int)).toNat) 0)) * 131)) + (w64 ((w64 (x1.getD (((w64 ((w64 ((w64 ((w64 (i3 + 1)) - 1)) * 7)) + 3)).tmod ((k2 : Nat) : Int)).toNat) 0)) * 1117)))) + (w64 ((w64 ((w64 (i3 + 1)) - 1)) * 29)))) + (w64 ((w64 ((w64 ((w64 (i3 + 1)) - 1)).tdiv ((k2 : Nat) : Int))) * 53)))).tdiv 64))).toNat))], [.cells [.sl 1 0 k2, cI (w64 (i3 + 1))], .row .u8 x1 false]⟩ (by kernel_rfl) ⟨(by decide), trivial, trivial⟩ ?_
          refine WO_nil rfl ?_
          refine thenS_n ?_
          refine W_seq ?_
          refine W_region ?_
          refine guardO_e h (fun hg39 h => ?_)
          refine WO_step 4 [0, 1] [4] (((i4 : Int) ≠ 0) ∧ True) ⟨[(4, I ((w64 (BitVec.ofInt 64 (w64 ((w64 ((w64 ((w64 ((w64 (x1.getD (((w64 ((w64 (i3 + 1)) - 1)).tmod ((k2 : Nat) : Int)).toNat) 0)) * 131)) + (w64 ((w64 (x1.getD (((w64 ((w64 ((w64 ((w64 (i3 + 1)) - 1)) * 7)) + 3)).tmod ((k2 : Nat) : Int)).toNat) 0)) * 1117)))) + (w64 ((w64 ((w64 (i3 + 1)) - 1)) * 29)))) + (w64 ((w64 ((w64 ((w64 (i3 + 1)) - 1)).tdiv ((k2 : Nat) : Int))) * 53)))) ^^^ BitVec.ofInt 64 (w64 ((w64 ((w64 ((w64 ((w64 ((w64 (x1.getD (((w64 ((w64 (i3 + 1)) - 1)).tmod ((k2 : Nat) : Int)).toNat) 0)) * 131)) + (w64 ((w64 (x1.getD (((w64 ((w64 ((w64 ((w64 (i3 + 1)) - 1)) * 7)) + 3)).tmod ((k2 : Nat) : Int)).toNat) 0)) * 1117)))) + (w64 ((w64 ((w64 (i3 + 1)) - 1)) * 29)))) + (w64 ((w64 ((w64 ((w64 (i3 + 1)) - 1)).tdiv ((k2 : Nat) : Int))) * 53)))).tdiv 64))).toNat).tmod i4))], [.cells [.sl 1 0 k2, cI (w64 (i3 + 1))], .row .u8 x1 false]⟩ (by kernel_rfl) ⟨hg39, trivial⟩ ?_
          refine WO_nil rfl ?_
          refine thenS_n ?_
          refine W_ret ?_
          cases h
          exact ⟨[0, 1], True, by kernel_rfl, trivial⟩

/- spec.reader).one -/
def spec_reader_one (x1 : List Int) (k2 : Nat) (i3 : Int) (x4 : List Int) : Option (Int × Int) :=
 bindO (spec_reader_pick x1 k2 i3 ((x4.length : Nat) : Int)) fun i10 =>
 guardO (0 ≤ i10 ∧ i10 < ((x4.length : Nat) : Int)) <|
 some ((w64 (i3 + 1)), (x4.getD i10.toNat 0))

theorem spec_reader_one_ok (x1 : List Int) (k2 : Nat) (i3 : Int) (x4 : List Int) (i8 : Int) (i9 : Int) (h : spec_reader_one x1 k2 i3 x4 = some (i8, i9)) : FOk EE 48 [.one (.e (.p 0 0)), .one (.e (.sl 2 0 x4.length))] [.cells [.sl 1 0 k2, cI i3], .row .u8 x1 false, .row .int x4 false] (I i9) [.cells [.sl 1 0 k2, cI i8], .row .u8 x1 false, .row .int x4 false] := by
  unfold spec_reader_one at h
  refine FOk_of_W 12 3 Try.func48 rfl rfl (Nat.le_of_ble_eq_true rfl) rfl (fun w X θ => ?_)
  refine W_seq ?_
  refine W_region ?_
  refine WO_step 1 [0, 1, 2] [0, 1] True ⟨[(0, .one (.e (.p 0 0))), (1, .one (.e (.sl 2 0 x4.length)))], [.cells [.sl 1 0 k2, cI i3], .row .u8 x1 false, .row .int x4 false]⟩ (by kernel_rfl) trivial ?_
  refine WO_nil rfl ?_
  refine thenS_n ?_
  refine W_seq ?_
  refine W_region ?_
  refine WO_step 4 [0, 1, 2] [5, 6, 8] (True ∧ True) ⟨[(5, .one (.e (.sl 2 0 x4.length))), (6, .one (.e (.p 0 0))), (8, I ((x4.length : Nat) : Int))], [.cells [.sl 1 0 k2, cI i3], .row .u8 x1 false, .row .int x4 false]⟩ (by kernel_rfl) ⟨trivial, trivial⟩ ?_
  refine bindO_e h (fun i10 hc11 h => ?_)
  refine WO_call [.own 0, .ro 1] Try.f37 rfl rfl rfl (by kernel_rfl) rfl rfl (by kernel_rfl) (spec_reader_pick_ok x1 k2 i3 ((x4.length : Nat) : Int) i10 hc11) (And.intro (trivial) (And.intro (And.intro rfl rfl) (trivial))) rfl ?_
  refine guardO_e h (fun hg12 h => ?_)
  refine WO_step 3 [0, 1, 2] [4] ((0 ≤ i10 ∧ i10 < ((x4.length : Nat) : Int)) ∧ (True ∧ True)) ⟨[(4, I (x4.getD i10.toNat 0))], [.cells [.sl 1 0 k2, cI (w64 (i3 + 1))], .row .u8 x1 false, .row .int x4 false]⟩ (by kernel_rfl) ⟨hg12, trivial, trivial⟩ ?_
  refine WO_nil rfl ?_
  refine thenS_n ?_
  refine W_ret ?_
  cases h
  exact ⟨[0, 1, 2], True, by kernel_rfl, trivial⟩

/- spec.anyAccesses -/
def spec_anyAccesses_L1 (k2 : Nat) (x1 : List Int) : Nat → Int → (List Acc) → Int → Option ((Int × (List Acc)))
| 0, _, _, _ => none
| n + 1, i128, x129, i130 =>
 iteO (decide (0 < i130))
 (bindO (spec_reader_pick x1 k2 i128 4) fun i162 =>
 bindO (spec_reader_pick x1 k2 (w64 (i128 + 1)) 4) fun i164 =>
 bindO (spec_reader_pick x1 k2 (w64 ((w64 (i128 + 1)) + 1)) 2) fun i166 =>
 guardO (0 = 0 ∧ x129.length = x129.length ∧ x129.length + (([(⟨i162, i164, (decide (i166 = 0))⟩ : Acc)].drop 0).take ([(⟨i162, i164, (decide (i166 = 0))⟩ : Acc)].length)).length ≤ 1099511627776) <|
 spec_anyAccesses_L1 k2 x1 n (w64 ((w64 ((w64 (i128 + 1)) + 1)) + 1)) (x129 ++ (([(⟨i162, i164, (decide (i166 = 0))⟩ : Acc)].drop 0).take ([(⟨i162, i164, (decide (i166 = 0))⟩ : Acc)].length))) (w64 (i130 - 1)))
 (some (i128, x129))

theorem spec_anyAccesses_L1_ok (w : World) (X : Nat → Prop) (θ : List Loc) (k2 : Nat) (x1 : List Int) (v : (Int × (List Acc))) : ∀ (n : Nat) (i128 : Int) (x129 : List Acc) (i130 : Int), spec_anyAccesses_L1 k2 x1 n i128 x129 i130 = some v → WL EE ⟨w, X, θ, 46, 2⟩ (subC [1, 1, 0, 1, 4, 4] (bodyC Try.f36)) (fun (e : Exit) (s : St) => (match v with | (i150, x151) => e = .exit 0 ∧ s = ⟨[(0, .one (.e (.p 0 0))), (3, .one (.e (.sl 2 0 x151.length)))], [.cells [.sl 1 0 k2, cI i150], .row .u8 x1 false, .row .acc x151 true]⟩ : Prop)) ⟨[(0, .one (.e (.p 0 0))), (3, .one (.e (.sl 2 0 x129.length))), (4, I i130)], [.cells [.sl 1 0 k2, cI i128], .row .u8 x1 false, .row .acc x129 true]⟩ := by
  intro n
  induction n with
  | zero => intro _ _ _ h; exact none_e h
  | succ n ih =>
    intro i128 x129 i130 h
    rw [spec_anyAccesses_L1] at h
    refine WL_round ?_
    refine W_seq ?_
    refine W_seq ?_
    refine W_region ?_
    refine WO_step 2 [0, 1, 2] [0, 3, 4, 10] (True ∧ True) ⟨[(0, .one (.e (.p 0 0))), (3, .one (.e (.sl 2 0 x129.length))), (4, I i130), (10, B (decide (0 < i130)))], [.cells [.sl 1 0 k2, cI i128], .row .u8 x1 false, .row .acc x129 true]⟩ (by kernel_rfl) ⟨trivial, trivial⟩ ?_
    refine WO_nil rfl ?_
    refine thenS_n ?_
    refine iteO_e h (fun hb154 h => W_true rfl hb154 ?_) (fun hb154 h => W_false rfl hb154 ?_)
    · refine W_sub [0, 1, 2] [0, 3, 4] (st' := ⟨[(0, .one (.e (.p 0 0))), (3, .one (.e (.sl 2 0 x129.length))), (4, I i130)], [.cells [.sl 1 0 k2, cI i128], .row .u8 x1 false, .row .acc x129 true]⟩) (by kernel_rfl) ?_
      refine W_skip ?_
      refine thenS_n ?_
      refine W_seq ?_
      refine W_block ?_
      refine W_region ?_
      refine WO_step 2 [0, 1, 2] [0, 4, 13, 14] True ⟨[(0, .one (.e (.p 0 0))), (4, I i130), (13, .one (.e (.sl 2 0 x129.length))), (14, .one (.e (.p 0 0)))], [.cells [.sl 1 0 k2, cI i128], .row .u8 x1 false, .row .acc x129 true]⟩ (by kernel_rfl) trivial ?_
      refine bindO_e h (fun i162 hc163 h => ?_)
      refine WO_call [.own 0, .ro 1] Try.f37 rfl rfl rfl (by kernel_rfl) rfl rfl (by kernel_rfl) (spec_reader_pick_ok x1 k2 i128 4 i162 hc163) (And.intro (trivial) (And.intro (And.intro rfl rfl) (trivial))) rfl ?_
      refine WO_step 1 [0, 1, 2] [0, 4, 13, 15, 16] True ⟨[(0, .one (.e (.p 0 0))), (4, I i130), (13, .one (.e (.sl 2 0 x129.length))), (15, I i162), (16, .one (.e (.p 0 0)))], [.cells [.sl 1 0 k2, cI (w64 (i128 + 1))], .row .u8 x1 false, .row .acc x129 true]⟩ (by kernel_rfl) trivial ?_
      refine bindO_e h (fun i164 hc165 h => ?_)
      refine WO_call [.own 0, .ro 1] Try.f37 rfl rfl rfl (by kernel_rfl) rfl rfl (by kernel_rfl) (spec_reader_pick_ok x1 k2 (w64 (i128 + 1)) 4 i164 hc165) (And.intro (trivial) (And.intro (And.intro rfl rfl) (trivial))) rfl ?_
      refine WO_step 1 [0, 1, 2] [0, 4, 13, 15, 17, 18] True ⟨[(0, .one (.e (.p 0 0))), (4, I i130), (13, .one (.e (.sl 2 0 x129.length))), (15, I i162), (17, I i164), (18, .one (.e (.p 0 0)))], [.cells [.sl 1 0 k2, cI (w64 ((w64 (i128 + 1)) + 1))], .row .u8 x1 false, .row .acc x129 true]⟩ (by kernel_rfl) trivial ?_
      refine bindO_e h (fun i166 hc167 h => ?_)
      refine WO_call [.own 0, .ro 1] Try.f37 rfl rfl rfl (by kernel_rfl) rfl rfl (by kernel_rfl) (spec_reader_pick_ok x1 k2 (w64 ((w64 (i128 + 1)) + 1)) 2 i166 hc167) (And.intro (trivial) (And.intro (And.intro rfl rfl) (trivial))) rfl ?_
      refine guardO_e h (fun hg168 h => ?_)
      refine WO_step 5 [0, 1, 4] [0, 3, 4] (True ∧ ((0 = 0 ∧ x129.length = x129.length ∧ x129.length + (([(⟨i162, i164, (decide (i166 = 0))⟩ : Acc)].drop 0).take ([(⟨i162, i164, (decide (i166 = 0))⟩ : Acc)].length)).length ≤ 1099511627776) ∧ True)) ⟨[(0, .one (.e (.p 0 0))), (3, .one (.e (.sl 2 0 ((x129 ++ (([(⟨i162, i164, (decide (i166 = 0))⟩ : Acc)].drop 0).take ([(⟨i162, i164, (decide (i166 = 0))⟩ : Acc)].length))).length)))), (4, I i130)], [.cells [.sl 1 0 k2, cI (w64 ((w64 ((w64 (i128 + 1)) + 1)) + 1))], .row .u8 x1 false, .row .acc (x129 ++ (([(⟨i162, i164, (decide (i166 = 0))⟩ : Acc)].drop 0).take ([(⟨i162, i164, (decide (i166 = 0))⟩ : Acc)].length))) true]⟩ (by kernel_rfl) ⟨trivial, hg168, trivial⟩ ?_
      refine WO_nil rfl ?_
      refine blockS_n ?_
      refine thenS_n ?_
      refine W_region ?_
      refine WO_step 3 [0, 1, 2] [0, 3, 4] (True ∧ True) ⟨[(0, .one (.e (.p 0 0))), (3, .one (.e (.sl 2 0 ((x129 ++ (([(⟨i162, i164, (decide (i166 = 0))⟩ : Acc)].drop 0).take ([(⟨i162, i164, (decide (i166 = 0))⟩ : Acc)].length))).length)))), (4, I (w64 (i130 - 1)))], [.cells [.sl 1 0 k2, cI (w64 ((w64 ((w64 (i128 + 1)) + 1)) + 1))], .row .u8 x1 false, .row .acc (x129 ++ (([(⟨i162, i164, (decide (i166 = 0))⟩ : Acc)].drop 0).take ([(⟨i162, i164, (decide (i166 = 0))⟩ : Acc)].length))) true]⟩ (by kernel_rfl) ⟨trivial, trivial⟩ ?_
      refine WO_nil rfl ?_
      refine thenS_n ?_
      exact ih _ _ _ h
    · refine W_sub [0, 1, 2] [0, 3] (st' := ⟨[(0, .one (.e (.p 0 0))), (3, .one (.e (.sl 2 0 x129.length)))], [.cells [.sl 1 0 k2, cI i128], .row .u8 x1 false, .row .acc x129 true]⟩) (by kernel_rfl) ?_
      refine W_exit ?_
      refine thenS_e ?_
      refine thenS_e ?_
      cases h
      exact And.intro rfl rfl

def spec_anyAccesses (n : Nat) (x1 : List Int) (k2 : Nat) (i3 : Int) : Option (Int × (List Acc)) :=
 bindO (spec_reader_one x1 k2 i3 [6, 8, 4, 12, 2, 0, 16, 17]) fun (i100, i101) =>
 bindO (spec_anyAccesses_L1 k2 x1 n i100 ([] : List Acc) i101) fun v169 =>
 match v169 with
 | (i150, x151) => (bindO (iteO (decide (0 < ((x151.length : Nat) : Int)))
 (bindO (spec_reader_pick x1 k2 i150 16) fun i177 =>
 some ((w64 (i150 + 1)), (decide (i177 = 0))))
 (some (i150, false))) fun (i173, b174) =>
 bindO (iteO b174
 (bindO (spec_reader_pick x1 k2 i173 ((x151.length : Nat) : Int)) fun i195 =>
 bindO (spec_reader_one x1 k2 (w64 (i173 + 1)) [4, (-1), 0]) fun (i197, i198) =>
 bindO (spec_reader_one x1 k2 i197 [12, (-1), 11]) fun (i200, i201) =>
 guardO (0 ≤ i195 ∧ i195 < ((x151.length : Nat) : Int)) <|
 some (i200, (x151.set i195.toNat (⟨i198, i201, false⟩ : Acc))))
 (some (i173, x151))) fun v193 =>
 match v193 with
 | (i191, x192) => (some (i191, x192)))


theorem spec_anyAccesses_ok (n : Nat) (x1 : List Int) (k2 : Nat) (i3 : Int) (i98 : Int) (x99 : List Acc) (h : spec_anyAccesses n x1 k2 i3 = some (i98, x99)) : FOk EE 36 [.one (.e (.p 0 0))] [.cells [.sl 1 0 k2, cI i3], .row .u8 x1 false] (.one (.e (.sl 2 0 x99.length))) [.cells [.sl 1 0 k2, cI i98], .row .u8 x1 false, .row .acc x99 true] := by
  unfold spec_anyAccesses at h
  refine FOk_of_W 46 2 Try.func36 rfl rfl (Nat.le_of_ble_eq_true rfl) rfl (fun w X θ => ?_)
  refine W_seq ?_
  refine W_region ?_
  refine WO_step 1 [0, 1] [0] True ⟨[(0, .one (.e (.p 0 0)))], [.cells [.sl 1 0 k2, cI i3], .row .u8 x1 false]⟩ (by kernel_rfl) trivial ?_
  refine WO_nil rfl ?_
  refine thenS_n ?_
  refine W_seq ?_
  refine W_region ?_
  refine WO_step 2 [0, 1, 2] [0, 3] True ⟨[(0, .one (.e (.p 0 0))), (3, .one (.e (.sl 2 0 (([] : List Acc).length))))], [.cells [.sl 1 0 k2, cI i3], .row .u8 x1 false, .row .acc ([] : List Acc) true]⟩ (by kernel_rfl) trivial ?_
  refine WO_nil rfl ?_
  refine thenS_n ?_
  refine W_seq ?_
  refine W_seq ?_
  refine W_region ?_
  refine WO_step 2 [0, 1, 2, 3] [0, 3, 6, 7] True ⟨[(0, .one (.e (.p 0 0))), (3, .one (.e (.sl 2 0 (([] : List Acc).length)))), (6, .one (.e (.p 0 0))), (7, .one (.e (.sl 3 0 ([6, 8, 4, 12, 2, 0, 16, 17].length))))], [.cells [.sl 1 0 k2, cI i3], .row .u8 x1 false, .row .acc ([] : List Acc) true, .row .int [6, 8, 4, 12, 2, 0, 16, 17] true]⟩ (by kernel_rfl) trivial ?_
  refine bindO_e h (fun v206 hc102 h => ?_)
  obtain ⟨i100, i101⟩ := v206
  refine WO_call [.own 0, .ro 1, .ro 3] Try.f48 rfl rfl rfl (by kernel_rfl) rfl rfl (by kernel_rfl) (spec_reader_one_ok x1 k2 i3 [6, 8, 4, 12, 2, 0, 16, 17] i100 i101 hc102) (And.intro (trivial) (And.intro (And.intro rfl rfl) (And.intro (And.intro rfl rfl) (trivial)))) rfl ?_
  refine WO_step 1 [0, 1, 2] [0, 3, 4] True ⟨[(0, .one (.e (.p 0 0))), (3, .one (.e (.sl 2 0 (([] : List Acc).length)))), (4, I i101)], [.cells [.sl 1 0 k2, cI i100], .row .u8 x1 false, .row .acc ([] : List Acc) true]⟩ (by kernel_rfl) trivial ?_
  refine WO_nil rfl ?_
  refine thenS_n ?_
  refine W_block ?_
  refine W_loop ?_
  refine bindO_e h (fun v169 hv169 h => ?_)
  refine WL_cut (spec_anyAccesses_L1_ok w X θ k2 x1 v169 n i100 ([] : List Acc) i101 hv169) ?_
  obtain ⟨i150, x151⟩ := v169
  rintro _ _ ⟨rfl, rfl⟩
  refine blockS_y ?_
  refine thenS_n ?_
  refine W_seq ?_
  refine W_seq ?_
  refine W_region ?_
  refine WO_step 4 [0, 1, 2] [0, 3, 27] (True ∧ (True ∧ True)) ⟨[(0, .one (.e (.p 0 0))), (3, .one (.e (.sl 2 0 x151.length))), (27, B (decide (0 < ((x151.length : Nat) : Int))))], [.cells [.sl 1 0 k2, cI i150], .row .u8 x1 false, .row .acc x151 true]⟩ (by kernel_rfl) ⟨trivial, trivial, trivial⟩ ?_
  refine bindO_e h (fun v175 hv175 h => ?_)
  obtain ⟨i173, b174⟩ := v175
  refine WO_thru ⟨[(0, .one (.e (.p 0 0))), (3, .one (.e (.sl 2 0 x151.length))), (31, B b174)], [.cells [.sl 1 0 k2, cI i173], .row .u8 x1 false, .row .acc x151 true]⟩ ?_ ?_
  · refine iteO_e hv175 (fun hb176 hv175 => WO_known 27 true rfl hb176 ?_) (fun hb176 hv175 => WO_known 27 false rfl hb176 ?_)
    · refine WO_step 1 [0, 1, 2] [0, 3, 27, 28] True ⟨[(0, .one (.e (.p 0 0))), (3, .one (.e (.sl 2 0 x151.length))), (27, B true), (28, .one (.e (.p 0 0)))], [.cells [.sl 1 0 k2, cI i150], .row .u8 x1 false, .row .acc x151 true]⟩ (by kernel_rfl) trivial ?_
      refine bindO_e hv175 (fun i177 hc178 hv175 => ?_)
      refine WO_call [.own 0, .ro 1] Try.f37 rfl rfl rfl (by kernel_rfl) rfl rfl (by kernel_rfl) (spec_reader_pick_ok x1 k2 i150 16 i177 hc178) (And.intro (trivial) (And.intro (And.intro rfl rfl) (trivial))) rfl ?_
      refine WO_step 2 [0, 1, 2] [0, 3, 31] (True ∧ True) ⟨[(0, .one (.e (.p 0 0))), (3, .one (.e (.sl 2 0 x151.length))), (31, B (decide (i177 = 0)))], [.cells [.sl 1 0 k2, cI (w64 (i150 + 1))], .row .u8 x1 false, .row .acc x151 true]⟩ (by kernel_rfl) ⟨trivial, trivial⟩ ?_
      cases hv175
      exact WO_nil rfl ⟨rfl, rfl⟩
    · refine WO_step 4 [0, 1, 2] [0, 3, 31] True ⟨[(0, .one (.e (.p 0 0))), (3, .one (.e (.sl 2 0 x151.length))), (31, B false)], [.cells [.sl 1 0 k2, cI i150], .row .u8 x1 false, .row .acc x151 true]⟩ (by kernel_rfl) trivial ?_
      cases hv175
      exact WO_nil rfl ⟨rfl, rfl⟩
  · refine thenS_n ?_
    refine bindO_e h (fun v193 hv193 h => ?_)
    refine W_cut (Q' := fun (e : Exit) (s : St) => (match v193 with | (i191, x192) => e = .normal ∧ s = ⟨[(3, .one (.e (.sl 2 0 x192.length)))], [.cells [.sl 1 0 k2, cI i191], .row .u8 x1 false, .row .acc x192 true]⟩ : Prop)) ?_ ?_
    · refine iteO_e hv193 (fun hb194 hv193 => W_true rfl hb194 ?_) (fun hb194 hv193 => W_false rfl hb194 ?_)
      · refine W_region ?_
        refine WO_step 4 [0, 1, 2] [0, 3, 32, 33, 35] (True ∧ True) ⟨[(0, .one (.e (.p 0 0))), (3, .one (.e (.sl 2 0 x151.length))), (32, .one (.e (.sl 2 0 x151.length))), (33, .one (.e (.p 0 0))), (35, I ((x151.length : Nat) : Int))], [.cells [.sl 1 0 k2, cI i173], .row .u8 x1 false, .row .acc x151 true]⟩ (by kernel_rfl) ⟨trivial, trivial⟩ ?_
        refine bindO_e hv193 (fun i195 hc196 hv193 => ?_)
        refine WO_call [.own 0, .ro 1] Try.f37 rfl rfl rfl (by kernel_rfl) rfl rfl (by kernel_rfl) (spec_reader_pick_ok x1 k2 i173 ((x151.length : Nat) : Int) i195 hc196) (And.intro (trivial) (And.intro (And.intro rfl rfl) (trivial))) rfl ?_
        refine WO_step 2 [0, 1, 2, 3] [0, 3, 32, 36, 37, 38] True ⟨[(0, .one (.e (.p 0 0))), (3, .one (.e (.sl 2 0 x151.length))), (32, .one (.e (.sl 2 0 x151.length))), (36, I i195), (37, .one (.e (.p 0 0))), (38, .one (.e (.sl 3 0 ([4, (-1), 0].length))))], [.cells [.sl 1 0 k2, cI (w64 (i173 + 1))], .row .u8 x1 false, .row .acc x151 true, .row .int [4, (-1), 0] true]⟩ (by kernel_rfl) trivial ?_
        refine bindO_e hv193 (fun v205 hc199 hv193 => ?_)
        obtain ⟨i197, i198⟩ := v205
        refine WO_call [.own 0, .ro 1, .ro 3] Try.f48 rfl rfl rfl (by kernel_rfl) rfl rfl (by kernel_rfl) (spec_reader_one_ok x1 k2 (w64 (i173 + 1)) [4, (-1), 0] i197 i198 hc199) (And.intro (trivial) (And.intro (And.intro rfl rfl) (And.intro (And.intro rfl rfl) (trivial)))) rfl ?_
        refine WO_step 2 [0, 1, 2, 4] [3, 32, 36, 39, 40, 41] True ⟨[(3, .one (.e (.sl 2 0 x151.length))), (32, .one (.e (.sl 2 0 x151.length))), (36, I i195), (39, I i198), (40, .one (.e (.p 0 0))), (41, .one (.e (.sl 3 0 ([12, (-1), 11].length))))], [.cells [.sl 1 0 k2, cI i197], .row .u8 x1 false, .row .acc x151 true, .row .int [12, (-1), 11] true]⟩ (by kernel_rfl) trivial ?_
        refine bindO_e hv193 (fun v204 hc202 hv193 => ?_)
        obtain ⟨i200, i201⟩ := v204
        refine WO_call [.own 0, .ro 1, .ro 3] Try.f48 rfl rfl rfl (by kernel_rfl) rfl rfl (by kernel_rfl) (spec_reader_one_ok x1 k2 i197 [12, (-1), 11] i200 i201 hc202) (And.intro (trivial) (And.intro (And.intro rfl rfl) (And.intro (And.intro rfl rfl) (trivial)))) rfl ?_
        refine guardO_e hv193 (fun hg203 hv193 => ?_)
        refine WO_step 3 [0, 1, 2] [3] ((0 ≤ i195 ∧ i195 < ((x151.length : Nat) : Int)) ∧ (True ∧ True)) ⟨[(3, .one (.e (.sl 2 0 x151.length)))], [.cells [.sl 1 0 k2, cI i200], .row .u8 x1 false, .row .acc (x151.set i195.toNat (⟨i198, i201, false⟩ : Acc)) true]⟩ (by kernel_rfl) ⟨hg203, trivial, trivial⟩ ?_
        refine WO_eq (st' := ⟨[(3, .one (.e (.sl 2 0 ((x151.set i195.toNat (⟨i198, i201, false⟩ : Acc)).length))))], [.cells [.sl 1 0 k2, cI i200], .row .u8 x1 false, .row .acc (x151.set i195.toNat (⟨i198, i201, false⟩ : Acc)) true]⟩) (by simp only [List.length_set]) ?_
        refine WO_nil rfl ?_
        cases hv193
        exact And.intro rfl rfl
      · refine W_sub [0, 1, 2] [3] (st' := ⟨[(3, .one (.e (.sl 2 0 x151.length)))], [.cells [.sl 1 0 k2, cI i173], .row .u8 x1 false, .row .acc x151 true]⟩) (by kernel_rfl) ?_
        refine W_skip ?_
        cases hv193
        exact And.intro rfl rfl
    · obtain ⟨i191, x192⟩ := v193
      rintro _ _ ⟨rfl, rfl⟩
      refine thenS_n ?_
      refine W_seq ?_
      refine W_region ?_
      refine WO_step 2 [0, 1, 2] [2] True ⟨[(2, .one (.e (.sl 2 0 x192.length)))], [.cells [.sl 1 0 k2, cI i191], .row .u8 x1 false, .row .acc x192 true]⟩ (by kernel_rfl) trivial ?_
      refine WO_nil rfl ?_
      refine thenS_n ?_
      refine W_ret ?_
      cases h
      exact ⟨[0, 1, 2], True, by kernel_rfl, trivial⟩

/- spec.DrawReadsFrom -/
def spec_DrawReadsFrom (n : Nat) (x1 : List Int) : Option ((List Acc) × Int) :=
 bindO (spec_newReader x1) fun k12 =>
 bindO (spec_anyAccesses n x1 k12 0) fun (i14, x15) =>
 bindO (spec_reader_pick x1 k12 i14 6) fun i17 =>
 some (x15, (w64 (i17 - 1)))

theorem spec_DrawReadsFrom_ok (n : Nat) (x1 : List Int) (x10 : List Acc) (i11 : Int) (h : spec_DrawReadsFrom n x1 = some (x10, i11)) : FOk EE 15 [.one (.e (.sl 0 0 x1.length))] [.row .u8 x1 false] (.tup [.e (.sl 1 0 x10.length), .e (cI i11)]) [.row .u8 x1 false, .row .acc x10 true] := by
  unfold spec_DrawReadsFrom at h
  refine FOk_of_W 14 1 Try.func15 rfl rfl (Nat.le_of_ble_eq_true rfl) rfl (fun w X θ => ?_)
  refine W_seq ?_
  refine W_region ?_
  refine WO_step 2 [0] [0] True ⟨[(0, .one (.e (.sl 0 0 x1.length)))], [.row .u8 x1 false]⟩ (by kernel_rfl) trivial ?_
  refine WO_nil rfl ?_
  refine thenS_n ?_
  refine W_seq ?_
  refine W_region ?_
  refine WO_step 1 [0] [6] True ⟨[(6, .one (.e (.sl 0 0 x1.length)))], [.row .u8 x1 false]⟩ (by kernel_rfl) trivial ?_
  refine bindO_e h (fun k12 hc13 h => ?_)
  refine WO_call [.ro 0] Try.f35 rfl rfl rfl (by kernel_rfl) rfl rfl (by kernel_rfl) (spec_newReader_ok x1 k12 hc13) (And.intro (And.intro rfl rfl) (trivial)) rfl ?_
  refine WO_step 1 [0, 1] [4] True ⟨[(4, .one (.e (.p 1 0)))], [.row .u8 x1 false, .cells [.sl 0 0 k12, cI 0]]⟩ (by kernel_rfl) trivial ?_
  refine WO_nil rfl ?_
  refine thenS_n ?_
  refine W_seq ?_
  refine W_region ?_
  refine WO_step 1 [0, 1] [4, 8] True ⟨[(4, .one (.e (.p 1 0))), (8, .one (.e (.p 1 0)))], [.row .u8 x1 false, .cells [.sl 0 0 k12, cI 0]]⟩ (by kernel_rfl) trivial ?_
  refine bindO_e h (fun v19 hc16 h => ?_)
  obtain ⟨i14, x15⟩ := v19
  refine WO_call [.own 1, .ro 0] Try.f36 rfl rfl rfl (by kernel_rfl) rfl rfl (by kernel_rfl) (spec_anyAccesses_ok n x1 k12 0 i14 x15 hc16) (And.intro (trivial) (And.intro (And.intro rfl rfl) (trivial))) rfl ?_
  refine WO_step 1 [0, 1, 2] [4, 5] True ⟨[(4, .one (.e (.p 1 0))), (5, .one (.e (.sl 2 0 x15.length)))], [.row .u8 x1 false, .cells [.sl 0 0 k12, cI i14], .row .acc x15 true]⟩ (by kernel_rfl) trivial ?_
  refine WO_nil rfl ?_
  refine thenS_n ?_
  refine W_seq ?_
  refine W_region ?_
  refine WO_step 2 [0, 2, 1] [10, 11] True ⟨[(10, .one (.e (.sl 1 0 x15.length))), (11, .one (.e (.p 2 0)))], [.row .u8 x1 false, .row .acc x15 true, .cells [.sl 0 0 k12, cI i14]]⟩ (by kernel_rfl) trivial ?_
  refine bindO_e h (fun i17 hc18 h => ?_)
  refine WO_call [.own 2, .ro 0] Try.f37 rfl rfl rfl (by kernel_rfl) rfl rfl (by kernel_rfl) (spec_reader_pick_ok x1 k12 i14 6 i17 hc18) (And.intro (trivial) (And.intro (And.intro rfl rfl) (trivial))) rfl ?_
  refine WO_step 3 [0, 1] [2, 3] (True ∧ True) ⟨[(2, .one (.e (.sl 1 0 x15.length))), (3, I (w64 (i17 - 1)))], [.row .u8 x1 false, .row .acc x15 true]⟩ (by kernel_rfl) ⟨trivial, trivial⟩ ?_
  refine WO_nil rfl ?_
  refine thenS_n ?_
  refine W_ret ?_
  cases h
  exact ⟨[0, 1], True, by kernel_rfl, trivial⟩

/- impl.within -/
def impl_within (i1 : Int) (i2 : Int) (i3 : Int) : Bool :=
((decide (i2 ≤ i1)) && (decide (i1 ≤ i3)))

theorem impl_within_ok (i1 : Int) (i2 : Int) (i3 : Int) : FOk EE 42 [I i1, I i2, I i3] [] (B (impl_within i1 i2 i3)) [] := by
  refine FOk_of_W 15 0 Try.func42 rfl rfl (Nat.le_of_ble_eq_true rfl) rfl (fun w X θ => ?_)
  refine W_seq ?_
  refine W_region ?_
  refine WO_step 1 [] [0, 1, 2] True ⟨[(0, I i1), (1, I i2), (2, I i3)], []⟩ (by kernel_rfl) trivial ?_
  refine WO_nil rfl ?_
  refine thenS_n ?_
  refine W_seq ?_
  refine W_region ?_
  refine WO_step 4 [] [0, 2, 10] (True ∧ True) ⟨[(0, I i1), (2, I i3), (10, B (decide (i2 ≤ i1)))], []⟩ (by kernel_rfl) ⟨trivial, trivial⟩ ?_
  refine WO_thru ⟨[(6, B ((decide (i2 ≤ i1)) && (decide (i1 ≤ i3))))], []⟩ ?_ ?_
  · refine WO_if 10 rfl (fun hb10 => ?_) (fun hb10 => ?_)
    · refine WO_step 5 [] [6] (True ∧ True) ⟨[(6, B (decide (i1 ≤ i3)))], []⟩ (by kernel_rfl) ⟨trivial, trivial⟩ ?_
      exact WO_nil rfl ⟨rfl, by first | rfl | (rw [hb10]; first | done | rfl)⟩
    · refine WO_step 5 [] [6] True ⟨[(6, B false)], []⟩ (by kernel_rfl) trivial ?_
      exact WO_nil rfl ⟨rfl, by first | rfl | (rw [hb10]; first | done | rfl)⟩
  · refine thenS_n ?_
    refine W_ret ?_
    exact ⟨[], True, by kernel_rfl, trivial⟩

/- impl.ValidAccesses -/
def impl_ValidAccesses_L1 (x1 : List Acc) : Nat → Int → Option ((Unit) ⊕ (Unit))
| 0, _ => none
| n + 1, i72 =>
 iteO (decide (i72 < ((x1.length : Nat) : Int)))
 (guardO (0 ≤ i72 ∧ i72 < ((x1.length : Nat) : Int)) <|
 iteO ((!(impl_within ((x1.getD i72.toNat dacc).who) 0 3)) || (!(impl_within ((x1.getD i72.toNat dacc).node) 0 11)))
 (some (.inl ()))
 (impl_ValidAccesses_L1 x1 n (w64 (i72 + 1))))
 (some (.inr ()))

theorem impl_ValidAccesses_L1_ok (w : World) (X : Nat → Prop) (θ : List Loc) (x1 : List Acc) (v : (Unit) ⊕ (Unit)) : ∀ (n : Nat) (i72 : Int), impl_ValidAccesses_L1 x1 n i72 = some v → WL EE ⟨w, X, θ, 25, 1⟩ (subC [1, 1, 0, 1, 4, 4] (bodyC Try.f19)) (fun (e : Exit) (s : St) => (match v with | (.inl _) => e = .ret ∧ s = ⟨[(2, B false)], [.row .acc x1 false]⟩ | (.inr _) => e = .exit 0 ∧ s = ⟨[], [.row .acc x1 false]⟩ : Prop)) ⟨[(8, .one (.e (.sl 0 0 x1.length))), (9, I ((x1.length : Nat) : Int)), (10, I i72)], [.row .acc x1 false]⟩ := by
  intro n
  induction n with
  | zero => intro _ h; exact none_e h
  | succ n ih =>
    intro i72 h
    rw [impl_ValidAccesses_L1] at h
    refine WL_round ?_
    refine W_seq ?_
    refine W_region ?_
    refine WO_step 1 [0] [8, 9, 10, 11] (True ∧ True) ⟨[(8, .one (.e (.sl 0 0 x1.length))), (9, I ((x1.length : Nat) : Int)), (10, I i72), (11, B (decide (i72 < ((x1.length : Nat) : Int))))], [.row .acc x1 false]⟩ (by kernel_rfl) ⟨trivial, trivial⟩ ?_
    refine WO_nil rfl ?_
    refine thenS_n ?_
    refine W_seq ?_
    refine iteO_e h (fun hb90 h => W_true rfl hb90 ?_) (fun hb90 h => W_false rfl hb90 ?_)
    · refine W_sub [0] [8, 9, 10] (st' := ⟨[(8, .one (.e (.sl 0 0 x1.length))), (9, I ((x1.length : Nat) : Int)), (10, I i72)], [.row .acc x1 false]⟩) (by kernel_rfl) ?_
      refine W_skip ?_
      refine thenS_n ?_
      refine W_seq ?_
      refine W_block ?_
      refine W_seq ?_
      refine W_region ?_
      refine guardO_e h (fun hg97 h => ?_)
      refine WO_step 4 [0, 1] [4, 8, 9, 10] ((0 ≤ i72 ∧ i72 < ((x1.length : Nat) : Int)) ∧ (True ∧ (True ∧ (True ∧ True)))) ⟨[(4, .one (.e (.p 1 0))), (8, .one (.e (.sl 0 0 x1.length))), (9, I ((x1.length : Nat) : Int)), (10, I i72)], [.row .acc x1 false, .cells [cI ((x1.getD i72.toNat dacc).who), cI ((x1.getD i72.toNat dacc).node), cB ((x1.getD i72.toNat dacc).write)]]⟩ (by kernel_rfl) ⟨hg97, trivial, trivial, trivial, trivial⟩ ?_
      refine WO_nil rfl ?_
      refine thenS_n ?_
      refine W_seq ?_
      refine W_region ?_
      refine WO_step 2 [0, 1] [4, 8, 9, 10, 15] (True ∧ True) ⟨[(4, .one (.e (.p 1 0))), (8, .one (.e (.sl 0 0 x1.length))), (9, I ((x1.length : Nat) : Int)), (10, I i72), (15, I ((x1.getD i72.toNat dacc).who))], [.row .acc x1 false, .cells [cI ((x1.getD i72.toNat dacc).who), cI ((x1.getD i72.toNat dacc).node), cB ((x1.getD i72.toNat dacc).write)]]⟩ (by kernel_rfl) ⟨trivial, trivial⟩ ?_
      refine WO_call [] Try.f42 rfl rfl rfl (by kernel_rfl) rfl rfl (by kernel_rfl) (impl_within_ok ((x1.getD i72.toNat dacc).who) 0 3) (trivial) rfl ?_
      refine WO_step 2 [0, 1] [4, 8, 9, 10, 18] True ⟨[(4, .one (.e (.p 1 0))), (8, .one (.e (.sl 0 0 x1.length))), (9, I ((x1.length : Nat) : Int)), (10, I i72), (18, B (!(impl_within ((x1.getD i72.toNat dacc).who) 0 3)))], [.row .acc x1 false, .cells [cI ((x1.getD i72.toNat dacc).who), cI ((x1.getD i72.toNat dacc).node), cB ((x1.getD i72.toNat dacc).write)]]⟩ (by kernel_rfl) trivial ?_
      refine WO_thru ⟨[(8, .one (.e (.sl 0 0 x1.length))), (9, I ((x1.length : Nat) : Int)), (10, I i72), (23, B ((!(impl_within ((x1.getD i72.toNat dacc).who) 0 3)) || (!(impl_within ((x1.getD i72.toNat dacc).node) 0 11))))], [.row .acc x1 false]⟩ ?_ ?_
      · refine WO_if 18 rfl (fun hb100 => ?_) (fun hb100 => ?_)
        · refine WO_step 5 [0] [8, 9, 10, 23] True ⟨[(8, .one (.e (.sl 0 0 x1.length))), (9, I ((x1.length : Nat) : Int)), (10, I i72), (23, B true)], [.row .acc x1 false]⟩ (by kernel_rfl) trivial ?_
          exact WO_nil rfl ⟨rfl, by first | rfl | (rw [hb100]; first | done | rfl)⟩
        · refine WO_step 2 [0] [8, 9, 10, 18, 20] (True ∧ True) ⟨[(8, .one (.e (.sl 0 0 x1.length))), (9, I ((x1.length : Nat) : Int)), (10, I i72), (18, B false), (20, I ((x1.getD i72.toNat dacc).node))], [.row .acc x1 false]⟩ (by kernel_rfl) ⟨trivial, trivial⟩ ?_
          refine WO_call [] Try.f42 rfl rfl rfl (by kernel_rfl) rfl rfl (by kernel_rfl) (impl_within_ok ((x1.getD i72.toNat dacc).node) 0 11) (trivial) rfl ?_
          refine WO_step 2 [0] [8, 9, 10, 23] True ⟨[(8, .one (.e (.sl 0 0 x1.length))), (9, I ((x1.length : Nat) : Int)), (10, I i72), (23, B (!(impl_within ((x1.getD i72.toNat dacc).node) 0 11)))], [.row .acc x1 false]⟩ (by kernel_rfl) trivial ?_
          exact WO_nil rfl ⟨rfl, by first | rfl | (rw [hb100]; first | done | rfl)⟩
      · refine thenS_n ?_
        refine iteO_e h (fun hb102 h => W_true rfl hb102 ?_) (fun hb102 h => W_false rfl hb102 ?_)
        · refine W_seq ?_
          refine W_region ?_
          refine WO_step 1 [0] [2] True ⟨[(2, B false)], [.row .acc x1 false]⟩ (by kernel_rfl) trivial ?_
          refine WO_nil rfl ?_
          refine thenS_n ?_
          refine W_ret ?_
          refine blockS_r ?_
          refine thenS_r ?_
          refine thenS_r ?_
          cases h
          exact And.intro rfl rfl
        · refine W_sub [0] [8, 9, 10] (st' := ⟨[(8, .one (.e (.sl 0 0 x1.length))), (9, I ((x1.length : Nat) : Int)), (10, I i72)], [.row .acc x1 false]⟩) (by kernel_rfl) ?_
          refine W_skip ?_
          refine blockS_n ?_
          refine thenS_n ?_
          refine W_region ?_
          refine WO_step 2 [0] [8, 9, 10] (True ∧ True) ⟨[(8, .one (.e (.sl 0 0 x1.length))), (9, I ((x1.length : Nat) : Int)), (10, I (w64 (i72 + 1)))], [.row .acc x1 false]⟩ (by kernel_rfl) ⟨trivial, trivial⟩ ?_
          refine WO_nil rfl ?_
          refine thenS_n ?_
          exact ih _ h
    · refine W_sub [0] [] (st' := ⟨[], [.row .acc x1 false]⟩) (by kernel_rfl) ?_
      refine W_exit ?_
      refine thenS_e ?_
      refine thenS_e ?_
      cases h
      exact And.intro rfl rfl

def impl_ValidAccesses (n : Nat) (x1 : List Acc) : Option (Bool) :=
 iteO (decide (16 < ((x1.length : Nat) : Int)))
 (some false)
 (bindO (impl_ValidAccesses_L1 x1 n 0) fun v103 =>
 match v103 with
 | (.inl _) => (some false)
 | (.inr _) => (some true)
)

theorem impl_ValidAccesses_ok (n : Nat) (x1 : List Acc) (b52 : Bool) (h : impl_ValidAccesses n x1 = some b52) : FOk EE 19 [.one (.e (.sl 0 0 x1.length))] [.row .acc x1 false] (B b52) [.row .acc x1 false] := by
  unfold impl_ValidAccesses at h
  refine FOk_of_W 25 1 Try.func19 rfl rfl (Nat.le_of_ble_eq_true rfl) rfl (fun w X θ => ?_)
  refine W_seq ?_
  refine W_region ?_
  refine WO_step 1 [0] [0] True ⟨[(0, .one (.e (.sl 0 0 x1.length)))], [.row .acc x1 false]⟩ (by kernel_rfl) trivial ?_
  refine WO_nil rfl ?_
  refine thenS_n ?_
  refine W_seq ?_
  refine W_seq ?_
  refine W_region ?_
  refine WO_step 3 [0] [0, 7] (True ∧ (True ∧ True)) ⟨[(0, .one (.e (.sl 0 0 x1.length))), (7, B (decide (16 < ((x1.length : Nat) : Int))))], [.row .acc x1 false]⟩ (by kernel_rfl) ⟨trivial, trivial, trivial⟩ ?_
  refine WO_nil rfl ?_
  refine thenS_n ?_
  refine iteO_e h (fun hb54 h => W_true rfl hb54 ?_) (fun hb54 h => W_false rfl hb54 ?_)
  · refine W_seq ?_
    refine W_region ?_
    refine WO_step 1 [0] [2] True ⟨[(2, B false)], [.row .acc x1 false]⟩ (by kernel_rfl) trivial ?_
    refine WO_nil rfl ?_
    refine thenS_n ?_
    refine W_ret ?_
    refine thenS_r ?_
    cases h
    exact ⟨[0], True, by kernel_rfl, trivial⟩
  · refine W_sub [0] [0] (st' := ⟨[(0, .one (.e (.sl 0 0 x1.length)))], [.row .acc x1 false]⟩) (by kernel_rfl) ?_
    refine W_skip ?_
    refine thenS_n ?_
    refine W_seq ?_
    refine W_seq ?_
    refine W_region ?_
    refine WO_step 3 [0] [8, 9, 10] (True ∧ True) ⟨[(8, .one (.e (.sl 0 0 x1.length))), (9, I ((x1.length : Nat) : Int)), (10, I 0)], [.row .acc x1 false]⟩ (by kernel_rfl) ⟨trivial, trivial⟩ ?_
    refine WO_nil rfl ?_
    refine thenS_n ?_
    refine W_block ?_
    refine W_loop ?_
    refine bindO_e h (fun v103 hv103 h => ?_)
    refine WL_cut (impl_ValidAccesses_L1_ok w X θ x1 v103 n 0 hv103) ?_
    rcases v103 with _ | _
    · rintro _ _ ⟨rfl, rfl⟩
      refine blockS_r ?_
      refine thenS_r ?_
      cases h
      exact ⟨[0], True, by kernel_rfl, trivial⟩
    · rintro _ _ ⟨rfl, rfl⟩
      refine blockS_y ?_
      refine thenS_n ?_
      refine W_seq ?_
      refine W_region ?_
      refine WO_step 1 [0] [2] True ⟨[(2, B true)], [.row .acc x1 false]⟩ (by kernel_rfl) trivial ?_
      refine WO_nil rfl ?_
      refine thenS_n ?_
      refine W_ret ?_
      cases h
      exact ⟨[0], True, by kernel_rfl, trivial⟩

/- impl.lastWriter -/
def impl_lastWriter_L1 (x1 : List Acc) (i2 : Int) : Nat → Int → Option ((Int) ⊕ (Unit))
| 0, _ => none
| n + 1, i112 =>
 iteO (decide (0 ≤ i112))
 (guardO (0 ≤ i112 ∧ i112 < ((x1.length : Nat) : Int)) <|
 bindO (iteO ((x1.getD i112.toNat dacc).write)
 (guardO (0 ≤ i112 ∧ i112 < ((x1.length : Nat) : Int)) <|
 some (decide (((x1.getD i112.toNat dacc).node) = i2)))
 (some false)) fun b156 =>
 iteO b156
 (guardO (0 ≤ i112 ∧ i112 < ((x1.length : Nat) : Int)) <|
 some (.inl ((x1.getD i112.toNat dacc).who)))
 (impl_lastWriter_L1 x1 i2 n (w64 (i112 - 1))))
 (some (.inr ()))

theorem impl_lastWriter_L1_ok (w : World) (X : Nat → Prop) (θ : List Loc) (x1 : List Acc) (i2 : Int) (v : (Int) ⊕ (Unit)) : ∀ (n : Nat) (i112 : Int), impl_lastWriter_L1 x1 i2 n i112 = some v → WL EE ⟨w, X, θ, 32, 1⟩ (subC [1, 0, 1, 4, 4] (bodyC Try.f49)) (fun (e : Exit) (s : St) => (match v with | (.inl i138) => e = .ret ∧ s = ⟨[(4, I i138)], [.row .acc x1 false]⟩ | (.inr _) => e = .exit 0 ∧ s = ⟨[], [.row .acc x1 false]⟩ : Prop)) ⟨[(0, .one (.e (.sl 0 0 x1.length))), (1, I i2), (5, I i112)], [.row .acc x1 false]⟩ := by
  intro n
  induction n with
  | zero => intro _ h; exact none_e h
  | succ n ih =>
    intro i112 h
    rw [impl_lastWriter_L1] at h
    refine WL_round ?_
    refine W_seq ?_
    refine W_seq ?_
    refine W_region ?_
    refine WO_step 2 [0] [0, 1, 5, 10] (True ∧ True) ⟨[(0, .one (.e (.sl 0 0 x1.length))), (1, I i2), (5, I i112), (10, B (decide (0 ≤ i112)))], [.row .acc x1 false]⟩ (by kernel_rfl) ⟨trivial, trivial⟩ ?_
    refine WO_nil rfl ?_
    refine thenS_n ?_
    refine iteO_e h (fun hb141 h => W_true rfl hb141 ?_) (fun hb141 h => W_false rfl hb141 ?_)
    · refine W_sub [0] [0, 1, 5] (st' := ⟨[(0, .one (.e (.sl 0 0 x1.length))), (1, I i2), (5, I i112)], [.row .acc x1 false]⟩) (by kernel_rfl) ?_
      refine W_skip ?_
      refine thenS_n ?_
      refine W_seq ?_
      refine W_block ?_
      refine W_seq ?_
      refine W_region ?_
      refine guardO_e h (fun hg153 h => ?_)
      refine WO_step 6 [0] [0, 1, 5, 18] ((0 ≤ i112 ∧ i112 < ((x1.length : Nat) : Int)) ∧ (True ∧ True)) ⟨[(0, .one (.e (.sl 0 0 x1.length))), (1, I i2), (5, I i112), (18, B ((x1.getD i112.toNat dacc).write))], [.row .acc x1 false]⟩ (by kernel_rfl) ⟨hg153, trivial, trivial⟩ ?_
      refine bindO_e h (fun b156 hv157 h => ?_)
      refine WO_thru ⟨[(0, .one (.e (.sl 0 0 x1.length))), (1, I i2), (5, I i112), (26, B b156)], [.row .acc x1 false]⟩ ?_ ?_
      · refine iteO_e hv157 (fun hb158 hv157 => WO_known 18 true rfl hb158 ?_) (fun hb158 hv157 => WO_known 18 false rfl hb158 ?_)
        · refine guardO_e hv157 (fun hg159 hv157 => ?_)
          refine WO_step 8 [0] [0, 1, 5, 26] ((0 ≤ i112 ∧ i112 < ((x1.length : Nat) : Int)) ∧ (True ∧ (True ∧ True))) ⟨[(0, .one (.e (.sl 0 0 x1.length))), (1, I i2), (5, I i112), (26, B (decide (((x1.getD i112.toNat dacc).node) = i2)))], [.row .acc x1 false]⟩ (by kernel_rfl) ⟨hg159, trivial, trivial, trivial⟩ ?_
          cases hv157
          exact WO_nil rfl ⟨rfl, rfl⟩
        · refine WO_step 8 [0] [0, 1, 5, 26] True ⟨[(0, .one (.e (.sl 0 0 x1.length))), (1, I i2), (5, I i112), (26, B false)], [.row .acc x1 false]⟩ (by kernel_rfl) trivial ?_
          cases hv157
          exact WO_nil rfl ⟨rfl, rfl⟩
      · refine thenS_n ?_
        refine iteO_e h (fun hb162 h => W_true rfl hb162 ?_) (fun hb162 h => W_false rfl hb162 ?_)
        · refine W_seq ?_
          refine W_region ?_
          refine guardO_e h (fun hg163 h => ?_)
          refine WO_step 6 [0] [4] ((0 ≤ i112 ∧ i112 < ((x1.length : Nat) : Int)) ∧ (True ∧ True)) ⟨[(4, I ((x1.getD i112.toNat dacc).who))], [.row .acc x1 false]⟩ (by kernel_rfl) ⟨hg163, trivial, trivial⟩ ?_
          refine WO_nil rfl ?_
          refine thenS_n ?_
          refine W_ret ?_
          refine blockS_r ?_
          refine thenS_r ?_
          refine thenS_r ?_
          cases h
          exact And.intro rfl rfl
        · refine W_sub [0] [0, 1, 5] (st' := ⟨[(0, .one (.e (.sl 0 0 x1.length))), (1, I i2), (5, I i112)], [.row .acc x1 false]⟩) (by kernel_rfl) ?_
          refine W_skip ?_
          refine blockS_n ?_
          refine thenS_n ?_
          refine W_region ?_
          refine WO_step 3 [0] [0, 1, 5] (True ∧ True) ⟨[(0, .one (.e (.sl 0 0 x1.length))), (1, I i2), (5, I (w64 (i112 - 1)))], [.row .acc x1 false]⟩ (by kernel_rfl) ⟨trivial, trivial⟩ ?_
          refine WO_nil rfl ?_
          refine thenS_n ?_
          exact ih _ h
    · refine W_sub [0] [] (st' := ⟨[], [.row .acc x1 false]⟩) (by kernel_rfl) ?_
      refine W_exit ?_
      refine thenS_e ?_
      refine thenS_e ?_
      cases h
      exact And.intro rfl rfl

def impl_lastWriter (n : Nat) (x1 : List Acc) (i2 : Int) : Option (Int) :=
 bindO (impl_lastWriter_L1 x1 i2 n (w64 (((x1.length : Nat) : Int) - 1))) fun v164 =>
 match v164 with
 | (.inl i138) => (some i138)
 | (.inr _) => (some (-1))


theorem impl_lastWriter_ok (n : Nat) (x1 : List Acc) (i2 : Int) (i83 : Int) (h : impl_lastWriter n x1 i2 = some i83) : FOk EE 49 [.one (.e (.sl 0 0 x1.length)), I i2] [.row .acc x1 false] (I i83) [.row .acc x1 false] := by
  unfold impl_lastWriter at h
  refine FOk_of_W 32 1 Try.func49 rfl rfl (Nat.le_of_ble_eq_true rfl) rfl (fun w X θ => ?_)
  refine W_seq ?_
  refine W_region ?_
  refine WO_step 1 [0] [0, 1] True ⟨[(0, .one (.e (.sl 0 0 x1.length))), (1, I i2)], [.row .acc x1 false]⟩ (by kernel_rfl) trivial ?_
  refine WO_nil rfl ?_
  refine thenS_n ?_
  refine W_seq ?_
  refine W_seq ?_
  refine W_region ?_
  refine WO_step 4 [0] [0, 1, 5] (True ∧ (True ∧ True)) ⟨[(0, .one (.e (.sl 0 0 x1.length))), (1, I i2), (5, I (w64 (((x1.length : Nat) : Int) - 1)))], [.row .acc x1 false]⟩ (by kernel_rfl) ⟨trivial, trivial, trivial⟩ ?_
  refine WO_nil rfl ?_
  refine thenS_n ?_
  refine W_block ?_
  refine W_loop ?_
  refine bindO_e h (fun v164 hv164 h => ?_)
  refine WL_cut (impl_lastWriter_L1_ok w X θ x1 i2 v164 n (w64 (((x1.length : Nat) : Int) - 1)) hv164) ?_
  rcases v164 with i138 | _
  · rintro _ _ ⟨rfl, rfl⟩
    refine blockS_r ?_
    refine thenS_r ?_
    cases h
    exact ⟨[0], True, by kernel_rfl, trivial⟩
  · rintro _ _ ⟨rfl, rfl⟩
    refine blockS_y ?_
    refine thenS_n ?_
    refine W_seq ?_
    refine W_region ?_
    refine WO_step 1 [0] [4] True ⟨[(4, I (-1))], [.row .acc x1 false]⟩ (by kernel_rfl) trivial ?_
    refine WO_nil rfl ?_
    refine thenS_n ?_
    refine W_ret ?_
    cases h
    exact ⟨[0], True, by kernel_rfl, trivial⟩

/- impl.sourcesOf -/
def impl_sourcesOf_L1 (x1 : List Acc) (i2 : Int) : Nat → (List Bool) → Int → Option ((List Bool))
| 0, _, _ => none
| n + 1, x104, i105 =>
 iteO (decide (i105 < ((x1.length : Nat) : Int)))
 (bindO (guardO (0 ≤ i105 ∧ i105 < ((x1.length : Nat) : Int)) <|
 iteO ((!decide (((x1.getD i105.toNat dacc).who) = i2)) || (x1.getD i105.toNat dacc).write)
 (some x104)
 (guardO (0 ≤ i105 ∧ i105 ≤ ((x1.length : Nat) : Int)) <|
 bindO (impl_lastWriter n ((x1.drop 0).take i105.toNat) ((x1.getD i105.toNat dacc).node)) fun i157 =>
 bindO (iteO ((decide (0 ≤ i157)) && (!decide (i157 = i2)))
 (guardO (0 ≤ i157 ∧ i157 < (4 : Int) ∧ (i157.toNat * 1) < x104.length) <|
 some (x104.set (i157.toNat * 1) true))
 (some x104)) fun x164 =>
 some x164)) fun x148 =>
 impl_sourcesOf_L1 x1 i2 n x148 (w64 (i105 + 1)))
 (some x104)

theorem impl_sourcesOf_L1_ok (w : World) (X : Nat → Prop) (θ : List Loc) (x1 : List Acc) (i2 : Int) (x128 : (List Bool)) : ∀ (n : Nat) (x104 : List Bool) (i105 : Int), impl_sourcesOf_L1 x1 i2 n x104 i105 = some x128 → WL EE ⟨w, X, θ, 41, 1⟩ (subC [1, 1, 0, 1, 4, 4] (bodyC Try.f39)) (fun (e : Exit) (s : St) => e = .exit 0 ∧ s = ⟨[(4, .one (.e (.rp 1 0 0))), (5, .one (.e (.rp 2 0 0)))], [.row .acc x1 false, .row .bool ([false, false, false, false] : List Bool) true, .row .bool x128 true]⟩) ⟨[(0, .one (.e (.sl 0 0 x1.length))), (1, I i2), (4, .one (.e (.rp 1 0 0))), (5, .one (.e (.rp 2 0 0))), (9, .one (.e (.sl 0 0 x1.length))), (10, I ((x1.length : Nat) : Int)), (11, I i105)], [.row .acc x1 false, .row .bool ([false, false, false, false] : List Bool) true, .row .bool x104 true]⟩ := by
  intro n
  induction n with
  | zero => intro _ _ h; exact none_e h
  | succ n ih =>
    intro x104 i105 h
    rw [impl_sourcesOf_L1] at h
    refine WL_round ?_
    refine W_seq ?_
    refine W_region ?_
    refine WO_step 1 [0, 1, 2] [0, 1, 4, 5, 9, 10, 11, 12] (True ∧ True) ⟨[(0, .one (.e (.sl 0 0 x1.length))), (1, I i2), (4, .one (.e (.rp 1 0 0))), (5, .one (.e (.rp 2 0 0))), (9, .one (.e (.sl 0 0 x1.length))), (10, I ((x1.length : Nat) : Int)), (11, I i105), (12, B (decide (i105 < ((x1.length : Nat) : Int))))], [.row .acc x1 false, .row .bool ([false, false, false, false] : List Bool) true, .row .bool x104 true]⟩ (by kernel_rfl) ⟨trivial, trivial⟩ ?_
    refine WO_nil rfl ?_
    refine thenS_n ?_
    refine W_seq ?_
    refine iteO_e h (fun hb131 h => W_true rfl hb131 ?_) (fun hb131 h => W_false rfl hb131 ?_)
    · refine W_sub [0, 1, 2] [0, 1, 4, 5, 9, 10, 11] (st' := ⟨[(0, .one (.e (.sl 0 0 x1.length))), (1, I i2), (4, .one (.e (.rp 1 0 0))), (5, .one (.e (.rp 2 0 0))), (9, .one (.e (.sl 0 0 x1.length))), (10, I ((x1.length : Nat) : Int)), (11, I i105)], [.row .acc x1 false, .row .bool ([false, false, false, false] : List Bool) true, .row .bool x104 true]⟩) (by kernel_rfl) ?_
      refine W_skip ?_
      refine thenS_n ?_
      refine W_seq ?_
      refine bindO_e h (fun x148 hx148 h => ?_)
      refine W_cut (Q' := fun (e : Exit) (s : St) => e = .normal ∧ s = ⟨[(0, .one (.e (.sl 0 0 x1.length))), (1, I i2), (4, .one (.e (.rp 1 0 0))), (5, .one (.e (.rp 2 0 0))), (9, .one (.e (.sl 0 0 x1.length))), (10, I ((x1.length : Nat) : Int)), (11, I i105)], [.row .acc x1 false, .row .bool ([false, false, false, false] : List Bool) true, .row .bool x148 true]⟩) ?_ ?_
      · refine W_block ?_
        refine W_seq ?_
        refine W_region ?_
        refine guardO_e hx148 (fun hg150 hx148 => ?_)
        refine WO_step 6 [0, 1, 2, 3] [0, 1, 4, 5, 6, 7, 9, 10, 11] ((0 ≤ i105 ∧ i105 < ((x1.length : Nat) : Int)) ∧ (True ∧ (True ∧ (True ∧ True)))) ⟨[(0, .one (.e (.sl 0 0 x1.length))), (1, I i2), (4, .one (.e (.rp 1 0 0))), (5, .one (.e (.rp 2 0 0))), (6, I i105), (7, .one (.e (.p 3 0))), (9, .one (.e (.sl 0 0 x1.length))), (10, I ((x1.length : Nat) : Int)), (11, I i105)], [.row .acc x1 false, .row .bool ([false, false, false, false] : List Bool) true, .row .bool x104 true, .cells [cI ((x1.getD i105.toNat dacc).who), cI ((x1.getD i105.toNat dacc).node), cB ((x1.getD i105.toNat dacc).write)]]⟩ (by kernel_rfl) ⟨hg150, trivial, trivial, trivial, trivial⟩ ?_
        refine WO_nil rfl ?_
        refine thenS_n ?_
        refine W_seq ?_
        refine W_seq ?_
        refine W_region ?_
        refine WO_step 5 [0, 1, 2, 3] [0, 1, 4, 5, 6, 7, 9, 10, 11, 20] (True ∧ (True ∧ True)) ⟨[(0, .one (.e (.sl 0 0 x1.length))), (1, I i2), (4, .one (.e (.rp 1 0 0))), (5, .one (.e (.rp 2 0 0))), (6, I i105), (7, .one (.e (.p 3 0))), (9, .one (.e (.sl 0 0 x1.length))), (10, I ((x1.length : Nat) : Int)), (11, I i105), (20, B (!decide (((x1.getD i105.toNat dacc).who) = i2)))], [.row .acc x1 false, .row .bool ([false, false, false, false] : List Bool) true, .row .bool x104 true, .cells [cI ((x1.getD i105.toNat dacc).who), cI ((x1.getD i105.toNat dacc).node), cB ((x1.getD i105.toNat dacc).write)]]⟩ (by kernel_rfl) ⟨trivial, trivial, trivial⟩ ?_
        refine WO_thru ⟨[(0, .one (.e (.sl 0 0 x1.length))), (1, I i2), (4, .one (.e (.rp 1 0 0))), (5, .one (.e (.rp 2 0 0))), (6, I i105), (7, .one (.e (.p 3 0))), (9, .one (.e (.sl 0 0 x1.length))), (10, I ((x1.length : Nat) : Int)), (11, I i105), (23, B ((!decide (((x1.getD i105.toNat dacc).who) = i2)) || (x1.getD i105.toNat dacc).write))], [.row .acc x1 false, .row .bool ([false, false, false, false] : List Bool) true, .row .bool x104 true, .cells [cI ((x1.getD i105.toNat dacc).who), cI ((x1.getD i105.toNat dacc).node), cB ((x1.getD i105.toNat dacc).write)]]⟩ ?_ ?_
        · refine WO_if 20 rfl (fun hb153 => ?_) (fun hb153 => ?_)
          · refine WO_step 3 [0, 1, 2, 3] [0, 1, 4, 5, 6, 7, 9, 10, 11, 23] True ⟨[(0, .one (.e (.sl 0 0 x1.length))), (1, I i2), (4, .one (.e (.rp 1 0 0))), (5, .one (.e (.rp 2 0 0))), (6, I i105), (7, .one (.e (.p 3 0))), (9, .one (.e (.sl 0 0 x1.length))), (10, I ((x1.length : Nat) : Int)), (11, I i105), (23, B true)], [.row .acc x1 false, .row .bool ([false, false, false, false] : List Bool) true, .row .bool x104 true, .cells [cI ((x1.getD i105.toNat dacc).who), cI ((x1.getD i105.toNat dacc).node), cB ((x1.getD i105.toNat dacc).write)]]⟩ (by kernel_rfl) trivial ?_
            exact WO_nil rfl ⟨rfl, by first | rfl | (rw [hb153]; first | done | rfl)⟩
          · refine WO_step 3 [0, 1, 2, 3] [0, 1, 4, 5, 6, 7, 9, 10, 11, 23] (True ∧ True) ⟨[(0, .one (.e (.sl 0 0 x1.length))), (1, I i2), (4, .one (.e (.rp 1 0 0))), (5, .one (.e (.rp 2 0 0))), (6, I i105), (7, .one (.e (.p 3 0))), (9, .one (.e (.sl 0 0 x1.length))), (10, I ((x1.length : Nat) : Int)), (11, I i105), (23, B ((x1.getD i105.toNat dacc).write))], [.row .acc x1 false, .row .bool ([false, false, false, false] : List Bool) true, .row .bool x104 true, .cells [cI ((x1.getD i105.toNat dacc).who), cI ((x1.getD i105.toNat dacc).node), cB ((x1.getD i105.toNat dacc).write)]]⟩ (by kernel_rfl) ⟨trivial, trivial⟩ ?_
            exact WO_nil rfl ⟨rfl, by first | rfl | (rw [hb153]; first | done | rfl)⟩
        · refine thenS_n ?_
          refine iteO_e hx148 (fun hb155 hx148 => W_true rfl hb155 ?_) (fun hb155 hx148 => W_false rfl hb155 ?_)
          · refine W_sub [0, 1, 2] [0, 1, 4, 5, 9, 10, 11] (st' := ⟨[(0, .one (.e (.sl 0 0 x1.length))), (1, I i2), (4, .one (.e (.rp 1 0 0))), (5, .one (.e (.rp 2 0 0))), (9, .one (.e (.sl 0 0 x1.length))), (10, I ((x1.length : Nat) : Int)), (11, I i105)], [.row .acc x1 false, .row .bool ([false, false, false, false] : List Bool) true, .row .bool x104 true]⟩) (by kernel_rfl) ?_
            refine W_exit ?_
            refine thenS_e ?_
            refine blockS_y ?_
            cases hx148
            exact And.intro rfl rfl
          · refine W_sub [0, 1, 2, 3] [0, 1, 4, 5, 6, 7, 9, 10, 11] (st' := ⟨[(0, .one (.e (.sl 0 0 x1.length))), (1, I i2), (4, .one (.e (.rp 1 0 0))), (5, .one (.e (.rp 2 0 0))), (6, I i105), (7, .one (.e (.p 3 0))), (9, .one (.e (.sl 0 0 x1.length))), (10, I ((x1.length : Nat) : Int)), (11, I i105)], [.row .acc x1 false, .row .bool ([false, false, false, false] : List Bool) true, .row .bool x104 true, .cells [cI ((x1.getD i105.toNat dacc).who), cI ((x1.getD i105.toNat dacc).node), cB ((x1.getD i105.toNat dacc).write)]]⟩) (by kernel_rfl) ?_
            refine W_skip ?_
            refine thenS_n ?_
            refine W_seq ?_
            refine guardO_e hx148 (fun hg156 hx148 => ?_)
            refine bindO_e hx148 (fun i157 hc158 hx148 => ?_)
            refine W_cut (Q' := fun (e : Exit) (s : St) => e = .normal ∧ s = ⟨[(0, .one (.e (.sl 0 0 x1.length))), (1, I i2), (4, .one (.e (.rp 1 0 0))), (5, .one (.e (.rp 2 0 0))), (8, I i157), (9, .one (.e (.sl 0 0 x1.length))), (10, I ((x1.length : Nat) : Int)), (11, I i105)], [.row .acc x1 false, .row .bool ([false, false, false, false] : List Bool) true, .row .bool x104 true]⟩) ?_ ?_
            · refine W_draw [] false (by kernel_rfl) (by kernel_rfl) ?_
              refine WD_takeK [0, 1, 3, 4] [0, 1, 4, 5, 9, 10, 11, 24, 25, 28] [0, 1, 4, 5, 9, 10, 11, 24, 25, 28] (φ := (True ∧ True ∧ True)) (ls' := #[true, true, false, true, true, false, false]) (Ts' := [(0, .one (.e (.sl 0 0 x1.length))), (1, I i2), (4, .one (.e (.rp 1 0 0))), (5, .one (.e (.rp 2 0 0))), (9, .one (.e (.sl 0 0 x1.length))), (10, I ((x1.length : Nat) : Int)), (11, I i105), (24, .one (.e (.sl 0 0 x1.length))), (25, I i105), (28, I ((x1.getD i105.toNat dacc).node))]) (st' := ⟨[(0, .one (.e (.sl 0 0 x1.length))), (1, I i2), (4, .one (.e (.rp 1 0 0))), (5, .one (.e (.rp 2 0 0))), (9, .one (.e (.sl 0 0 x1.length))), (10, I ((x1.length : Nat) : Int)), (11, I i105), (24, .one (.e (.sl 0 0 x1.length))), (25, I i105), (28, I ((x1.getD i105.toNat dacc).node))], [.row .acc x1 false, .row .bool ([false, false, false, false] : List Bool) true, .row .bool x104 true, .cells [cI ((x1.getD i105.toNat dacc).who), cI ((x1.getD i105.toNat dacc).node), cB ((x1.getD i105.toNat dacc).write)]]⟩) (n2 := 3) (by kernel_rfl) ⟨trivial, trivial, trivial⟩ rfl ?_
              refine WD_all [2] (n := 2) (by kernel_rfl) rfl ?_
              refine WM_op (φ := 0 ≤ i105 ∧ i105 ≤ ((x1.length : Nat) : Int)) (v := .one (.e (.sl 0 0 i105.toNat))) (H' := [.row .acc x1 false, .row .bool ([false, false, false, false] : List Bool) true, .row .bool x104 true, .cells [cI ((x1.getD i105.toNat dacc).who), cI ((x1.getD i105.toNat dacc).node), cB ((x1.getD i105.toNat dacc).write)]]) rfl rfl (by kernel_rfl) hg156 rfl (And.intro rfl (And.intro rfl (And.intro rfl (And.intro (And.intro rfl rfl) (trivial))))) ?_
              refine WD_all [5] (n := 1) (by kernel_rfl) rfl ?_
              refine WM_call [.view 0] Try.f49 rfl rfl (by kernel_rfl) rfl rfl (by kernel_rfl) (impl_lastWriter_ok n ((x1.drop 0).take i105.toNat) ((x1.getD i105.toNat dacc).node) i157 hc158) (trivial) rfl (And.intro rfl (And.intro rfl (And.intro rfl (And.intro (And.intro rfl rfl) (trivial))))) ?_
              refine WD_takeK [6] [0, 1, 4, 5, 8, 9, 10, 11] [0, 1, 4, 5, 8, 9, 10, 11] (φ := True) (ls' := #[true, true, true, true, true, true, true]) (Ts' := [(0, .one (.e (.sl 0 0 x1.length))), (1, I i2), (4, .one (.e (.rp 1 0 0))), (5, .one (.e (.rp 2 0 0))), (8, I i157), (9, .one (.e (.sl 0 0 x1.length))), (10, I ((x1.length : Nat) : Int)), (11, I i105)]) (st' := ⟨[(0, .one (.e (.sl 0 0 x1.length))), (1, I i2), (4, .one (.e (.rp 1 0 0))), (5, .one (.e (.rp 2 0 0))), (8, I i157), (9, .one (.e (.sl 0 0 x1.length))), (10, I ((x1.length : Nat) : Int)), (11, I i105)], [.row .acc x1 false, .row .bool ([false, false, false, false] : List Bool) true, .row .bool x104 true, .cells [cI ((x1.getD i105.toNat dacc).who), cI ((x1.getD i105.toNat dacc).node), cB ((x1.getD i105.toNat dacc).write)]]⟩) (n2 := 0) (by kernel_rfl) trivial rfl ?_
              exact WD_done [0, 1, 2] [0, 1, 4, 5, 8, 9, 10, 11] (st' := ⟨[(0, .one (.e (.sl 0 0 x1.length))), (1, I i2), (4, .one (.e (.rp 1 0 0))), (5, .one (.e (.rp 2 0 0))), (8, I i157), (9, .one (.e (.sl 0 0 x1.length))), (10, I ((x1.length : Nat) : Int)), (11, I i105)], [.row .acc x1 false, .row .bool ([false, false, false, false] : List Bool) true, .row .bool x104 true]⟩) (by kernel_rfl) (by kernel_rfl) (And.intro rfl rfl)
            · rintro _ _ ⟨rfl, rfl⟩
              refine thenS_n ?_
              refine W_seq ?_
              refine W_region ?_
              refine WO_step 3 [0, 1, 2] [0, 1, 4, 5, 8, 9, 10, 11, 32] (True ∧ True) ⟨[(0, .one (.e (.sl 0 0 x1.length))), (1, I i2), (4, .one (.e (.rp 1 0 0))), (5, .one (.e (.rp 2 0 0))), (8, I i157), (9, .one (.e (.sl 0 0 x1.length))), (10, I ((x1.length : Nat) : Int)), (11, I i105), (32, B (decide (0 ≤ i157)))], [.row .acc x1 false, .row .bool ([false, false, false, false] : List Bool) true, .row .bool x104 true]⟩ (by kernel_rfl) ⟨trivial, trivial⟩ ?_
              refine WO_thru ⟨[(0, .one (.e (.sl 0 0 x1.length))), (1, I i2), (4, .one (.e (.rp 1 0 0))), (5, .one (.e (.rp 2 0 0))), (8, I i157), (9, .one (.e (.sl 0 0 x1.length))), (10, I ((x1.length : Nat) : Int)), (11, I i105), (36, B ((decide (0 ≤ i157)) && (!decide (i157 = i2))))], [.row .acc x1 false, .row .bool ([false, false, false, false] : List Bool) true, .row .bool x104 true]⟩ ?_ ?_
              · refine WO_if 32 rfl (fun hb161 => ?_) (fun hb161 => ?_)
                · refine WO_step 4 [0, 1, 2] [0, 1, 4, 5, 8, 9, 10, 11, 36] (True ∧ True) ⟨[(0, .one (.e (.sl 0 0 x1.length))), (1, I i2), (4, .one (.e (.rp 1 0 0))), (5, .one (.e (.rp 2 0 0))), (8, I i157), (9, .one (.e (.sl 0 0 x1.length))), (10, I ((x1.length : Nat) : Int)), (11, I i105), (36, B (!decide (i157 = i2)))], [.row .acc x1 false, .row .bool ([false, false, false, false] : List Bool) true, .row .bool x104 true]⟩ (by kernel_rfl) ⟨trivial, trivial⟩ ?_
                  exact WO_nil rfl ⟨rfl, by first | rfl | (rw [hb161]; first | done | rfl)⟩
                · refine WO_step 4 [0, 1, 2] [0, 1, 4, 5, 8, 9, 10, 11, 36] True ⟨[(0, .one (.e (.sl 0 0 x1.length))), (1, I i2), (4, .one (.e (.rp 1 0 0))), (5, .one (.e (.rp 2 0 0))), (8, I i157), (9, .one (.e (.sl 0 0 x1.length))), (10, I ((x1.length : Nat) : Int)), (11, I i105), (36, B false)], [.row .acc x1 false, .row .bool ([false, false, false, false] : List Bool) true, .row .bool x104 true]⟩ (by kernel_rfl) trivial ?_
                  exact WO_nil rfl ⟨rfl, by first | rfl | (rw [hb161]; first | done | rfl)⟩
              · refine thenS_n ?_
                refine bindO_e hx148 (fun x164 hx164 hx148 => ?_)
                refine W_cut (Q' := fun (e : Exit) (s : St) => e = .normal ∧ s = ⟨[(0, .one (.e (.sl 0 0 x1.length))), (1, I i2), (4, .one (.e (.rp 1 0 0))), (5, .one (.e (.rp 2 0 0))), (9, .one (.e (.sl 0 0 x1.length))), (10, I ((x1.length : Nat) : Int)), (11, I i105)], [.row .acc x1 false, .row .bool ([false, false, false, false] : List Bool) true, .row .bool x164 true]⟩) ?_ ?_
                · refine iteO_e hx164 (fun hb166 hx164 => W_true rfl hb166 ?_) (fun hb166 hx164 => W_false rfl hb166 ?_)
                  · refine W_region ?_
                    refine guardO_e hx164 (fun hg167 hx164 => ?_)
                    refine WO_step 3 [0, 1, 2] [0, 1, 4, 5, 9, 10, 11] ((0 ≤ i157 ∧ i157 < (4 : Int) ∧ (i157.toNat * 1) < x104.length) ∧ (True ∧ True)) ⟨[(0, .one (.e (.sl 0 0 x1.length))), (1, I i2), (4, .one (.e (.rp 1 0 0))), (5, .one (.e (.rp 2 0 0))), (9, .one (.e (.sl 0 0 x1.length))), (10, I ((x1.length : Nat) : Int)), (11, I i105)], [.row .acc x1 false, .row .bool ([false, false, false, false] : List Bool) true, .row .bool (x104.set (i157.toNat * 1) true) true]⟩ (by kernel_rfl) ⟨hg167, trivial, trivial⟩ ?_
                    refine WO_nil rfl ?_
                    cases hx164
                    exact And.intro rfl rfl
                  · refine W_sub [0, 1, 2] [0, 1, 4, 5, 9, 10, 11] (st' := ⟨[(0, .one (.e (.sl 0 0 x1.length))), (1, I i2), (4, .one (.e (.rp 1 0 0))), (5, .one (.e (.rp 2 0 0))), (9, .one (.e (.sl 0 0 x1.length))), (10, I ((x1.length : Nat) : Int)), (11, I i105)], [.row .acc x1 false, .row .bool ([false, false, false, false] : List Bool) true, .row .bool x104 true]⟩) (by kernel_rfl) ?_
                    refine W_skip ?_
                    cases hx164
                    exact And.intro rfl rfl
                · rintro _ _ ⟨rfl, rfl⟩
                  refine blockS_n ?_
                  cases hx148
                  exact And.intro rfl rfl
      · rintro _ _ ⟨rfl, rfl⟩
        refine thenS_n ?_
        refine W_region ?_
        refine WO_step 2 [0, 1, 2] [0, 1, 4, 5, 9, 10, 11] (True ∧ True) ⟨[(0, .one (.e (.sl 0 0 x1.length))), (1, I i2), (4, .one (.e (.rp 1 0 0))), (5, .one (.e (.rp 2 0 0))), (9, .one (.e (.sl 0 0 x1.length))), (10, I ((x1.length : Nat) : Int)), (11, I (w64 (i105 + 1)))], [.row .acc x1 false, .row .bool ([false, false, false, false] : List Bool) true, .row .bool x148 true]⟩ (by kernel_rfl) ⟨trivial, trivial⟩ ?_
        refine WO_nil rfl ?_
        refine thenS_n ?_
        exact ih _ _ h
    · refine W_sub [0, 1, 2] [4, 5] (st' := ⟨[(4, .one (.e (.rp 1 0 0))), (5, .one (.e (.rp 2 0 0)))], [.row .acc x1 false, .row .bool ([false, false, false, false] : List Bool) true, .row .bool x104 true]⟩) (by kernel_rfl) ?_
      refine W_exit ?_
      refine thenS_e ?_
      refine thenS_e ?_
      cases h
      exact And.intro rfl rfl

def impl_sourcesOf (n : Nat) (x1 : List Acc) (i2 : Int) : Option ((List Bool)) :=
 bindO (impl_sourcesOf_L1 x1 i2 n ([false, false, false, false] : List Bool) 0) fun x128 =>
 guardO (0 + 4 ≤ x128.length) <|
 guardO (((x128.drop 0).take 4).length = 4 ∧ 0 + ((x128.drop 0).take 4).length ≤ ([false, false, false, false] : List Bool).length) <|
 guardO (0 + 4 ≤ (splice ([false, false, false, false] : List Bool) 0 ((x128.drop 0).take 4)).length) <|
 some (((splice ([false, false, false, false] : List Bool) 0 ((x128.drop 0).take 4)).drop 0).take 4)

theorem impl_sourcesOf_ok (n : Nat) (x1 : List Acc) (i2 : Int) (x77 : List Bool) (h : impl_sourcesOf n x1 i2 = some x77) : FOk EE 39 [.one (.e (.sl 0 0 x1.length)), I i2] [.row .acc x1 false] (.one (.arr .bool x77)) [.row .acc x1 false] := by
  unfold impl_sourcesOf at h
  refine FOk_of_W 41 1 Try.func39 rfl rfl (Nat.le_of_ble_eq_true rfl) rfl (fun w X θ => ?_)
  refine W_seq ?_
  refine W_region ?_
  refine WO_step 1 [0, 1] [0, 1, 4] ((0 < ([false, false, false, false] : List Bool).length ∧ ([false, false, false, false] : List Bool).length ≤ 1099511627776) ∧ True) ⟨[(0, .one (.e (.sl 0 0 x1.length))), (1, I i2), (4, .one (.e (.rp 1 0 0)))], [.row .acc x1 false, .row .bool ([false, false, false, false] : List Bool) true]⟩ (by kernel_rfl) ⟨(by decide), trivial⟩ ?_
  refine WO_nil rfl ?_
  refine thenS_n ?_
  refine W_seq ?_
  refine W_region ?_
  refine WO_step 1 [0, 1, 2] [0, 1, 4, 5] ((0 < ([false, false, false, false] : List Bool).length ∧ ([false, false, false, false] : List Bool).length ≤ 1099511627776) ∧ True) ⟨[(0, .one (.e (.sl 0 0 x1.length))), (1, I i2), (4, .one (.e (.rp 1 0 0))), (5, .one (.e (.rp 2 0 0)))], [.row .acc x1 false, .row .bool ([false, false, false, false] : List Bool) true, .row .bool ([false, false, false, false] : List Bool) true]⟩ (by kernel_rfl) ⟨(by decide), trivial⟩ ?_
  refine WO_nil rfl ?_
  refine thenS_n ?_
  refine W_seq ?_
  refine W_seq ?_
  refine W_region ?_
  refine WO_step 3 [0, 1, 2] [0, 1, 4, 5, 9, 10, 11] (True ∧ True) ⟨[(0, .one (.e (.sl 0 0 x1.length))), (1, I i2), (4, .one (.e (.rp 1 0 0))), (5, .one (.e (.rp 2 0 0))), (9, .one (.e (.sl 0 0 x1.length))), (10, I ((x1.length : Nat) : Int)), (11, I 0)], [.row .acc x1 false, .row .bool ([false, false, false, false] : List Bool) true, .row .bool ([false, false, false, false] : List Bool) true]⟩ (by kernel_rfl) ⟨trivial, trivial⟩ ?_
  refine WO_nil rfl ?_
  refine thenS_n ?_
  refine W_block ?_
  refine W_loop ?_
  refine bindO_e h (fun x128 hx128 h => ?_)
  refine WL_cut (impl_sourcesOf_L1_ok w X θ x1 i2 x128 n ([false, false, false, false] : List Bool) 0 hx128) ?_
  rintro _ _ ⟨rfl, rfl⟩
  refine blockS_y ?_
  refine thenS_n ?_
  refine W_seq ?_
  refine W_region ?_
  refine guardO_e h (fun hg169 h => ?_)
  refine guardO_e h (fun hg170 h => ?_)
  refine WO_step 2 [0, 1] [4] ((0 + 4 ≤ x128.length) ∧ ((((x128.drop 0).take 4).length = 4 ∧ 0 + ((x128.drop 0).take 4).length ≤ ([false, false, false, false] : List Bool).length) ∧ True)) ⟨[(4, .one (.e (.rp 1 0 0)))], [.row .acc x1 false, .row .bool (splice ([false, false, false, false] : List Bool) 0 ((x128.drop 0).take 4)) true]⟩ (by kernel_rfl) ⟨hg169, hg170, trivial⟩ ?_
  refine WO_nil rfl ?_
  refine thenS_n ?_
  refine W_ret ?_
  refine guardO_e h (fun hg171 h => ?_)
  cases h
  exact ⟨[0], (0 + 4 ≤ (splice ([false, false, false, false] : List Bool) 0 ((x128.drop 0).take 4)).length ∧ True), by kernel_rfl, ⟨hg171, trivial⟩⟩

/- impl.marked -/
def impl_marked_L1 (x1 : List Bool) : Nat → (List Int) → Int → Option ((List Int))
| 0, _, _ => none
| n + 1, x71, i72 =>
 iteO (decide (i72 < 4))
 (guardO (0 ≤ i72 ∧ i72 < (4 : Int) ∧ i72.toNat < ((x1.drop 0).take 4).length) <|
 bindO (iteO (((x1.drop 0).take 4).getD i72.toNat false)
 (guardO (0 = 0 ∧ x71.length = x71.length ∧ x71.length + (([i72].drop 0).take ([i72].length)).length ≤ 1099511627776) <|
 some (x71 ++ (([i72].drop 0).take ([i72].length))))
 (some x71)) fun x99 =>
 impl_marked_L1 x1 n x99 (w64 (i72 + 1)))
 (some x71)

theorem impl_marked_L1_ok (w : World) (X : Nat → Prop) (θ : List Loc) (x1 : List Bool) (x87 : (List Int)) : ∀ (n : Nat) (x71 : List Int) (i72 : Int), impl_marked_L1 x1 n x71 i72 = some x87 → WL EE ⟨w, X, θ, 18, 0⟩ (subC [1, 1, 0, 1, 4, 4] (bodyC Try.f38)) (fun (e : Exit) (s : St) => e = .exit 0 ∧ s = ⟨[(3, .one (.e (.sl 0 0 x87.length)))], [.row .int x87 true]⟩) ⟨[(3, .one (.e (.sl 0 0 x71.length))), (6, .one (.arr .bool ((x1.drop 0).take 4))), (7, I i72)], [.row .int x71 true]⟩ := by
  intro n
  induction n with
  | zero => intro _ _ h; exact none_e h
  | succ n ih =>
    intro x71 i72 h
    rw [impl_marked_L1] at h
    refine WL_round ?_
    refine W_seq ?_
    refine W_region ?_
    refine WO_step 1 [0] [3, 6, 7, 8] (True ∧ True) ⟨[(3, .one (.e (.sl 0 0 x71.length))), (6, .one (.arr .bool ((x1.drop 0).take 4))), (7, I i72), (8, B (decide (i72 < 4)))], [.row .int x71 true]⟩ (by kernel_rfl) ⟨trivial, trivial⟩ ?_
    refine WO_nil rfl ?_
    refine thenS_n ?_
    refine W_seq ?_
    refine iteO_e h (fun hb90 h => W_true rfl hb90 ?_) (fun hb90 h => W_false rfl hb90 ?_)
    · refine W_sub [0] [3, 6, 7] (st' := ⟨[(3, .one (.e (.sl 0 0 x71.length))), (6, .one (.arr .bool ((x1.drop 0).take 4))), (7, I i72)], [.row .int x71 true]⟩) (by kernel_rfl) ?_
      refine W_skip ?_
      refine thenS_n ?_
      refine W_seq ?_
      refine W_block ?_
      refine W_seq ?_
      refine W_region ?_
      refine guardO_e h (fun hg96 h => ?_)
      refine WO_step 4 [0] [3, 4, 5, 6, 7] ((0 ≤ i72 ∧ i72 < (4 : Int) ∧ i72.toNat < ((x1.drop 0).take 4).length) ∧ True) ⟨[(3, .one (.e (.sl 0 0 x71.length))), (4, I i72), (5, B (((x1.drop 0).take 4).getD i72.toNat false)), (6, .one (.arr .bool ((x1.drop 0).take 4))), (7, I i72)], [.row .int x71 true]⟩ (by kernel_rfl) ⟨hg96, trivial⟩ ?_
      refine WO_nil rfl ?_
      refine thenS_n ?_
      refine W_seq ?_
      refine W_region ?_
      refine WO_step 1 [0] [3, 4, 6, 7, 11] True ⟨[(3, .one (.e (.sl 0 0 x71.length))), (4, I i72), (6, .one (.arr .bool ((x1.drop 0).take 4))), (7, I i72), (11, B (((x1.drop 0).take 4).getD i72.toNat false))], [.row .int x71 true]⟩ (by kernel_rfl) trivial ?_
      refine WO_nil rfl ?_
      refine thenS_n ?_
      refine bindO_e h (fun x99 hx99 h => ?_)
      refine W_cut (Q' := fun (e : Exit) (s : St) => e = .normal ∧ s = ⟨[(3, .one (.e (.sl 0 0 x99.length))), (6, .one (.arr .bool ((x1.drop 0).take 4))), (7, I i72)], [.row .int x99 true]⟩) ?_ ?_
      · refine iteO_e hx99 (fun hb101 hx99 => W_true rfl hb101 ?_) (fun hb101 hx99 => W_false rfl hb101 ?_)
        · refine W_region ?_
          refine guardO_e hx99 (fun hg102 hx99 => ?_)
          refine WO_step 5 [2] [3, 6, 7] ((0 = 0 ∧ x71.length = x71.length ∧ x71.length + (([i72].drop 0).take ([i72].length)).length ≤ 1099511627776) ∧ True) ⟨[(3, .one (.e (.sl 0 0 ((x71 ++ (([i72].drop 0).take ([i72].length))).length)))), (6, .one (.arr .bool ((x1.drop 0).take 4))), (7, I i72)], [.row .int (x71 ++ (([i72].drop 0).take ([i72].length))) true]⟩ (by kernel_rfl) ⟨hg102, trivial⟩ ?_
          refine WO_nil rfl ?_
          cases hx99
          exact And.intro rfl rfl
        · refine W_sub [0] [3, 6, 7] (st' := ⟨[(3, .one (.e (.sl 0 0 x71.length))), (6, .one (.arr .bool ((x1.drop 0).take 4))), (7, I i72)], [.row .int x71 true]⟩) (by kernel_rfl) ?_
          refine W_skip ?_
          cases hx99
          exact And.intro rfl rfl
      · rintro _ _ ⟨rfl, rfl⟩
        refine blockS_n ?_
        refine thenS_n ?_
        refine W_region ?_
        refine WO_step 2 [0] [3, 6, 7] (True ∧ True) ⟨[(3, .one (.e (.sl 0 0 x99.length))), (6, .one (.arr .bool ((x1.drop 0).take 4))), (7, I (w64 (i72 + 1)))], [.row .int x99 true]⟩ (by kernel_rfl) ⟨trivial, trivial⟩ ?_
        refine WO_nil rfl ?_
        refine thenS_n ?_
        exact ih _ _ h
    · refine W_sub [0] [3] (st' := ⟨[(3, .one (.e (.sl 0 0 x71.length)))], [.row .int x71 true]⟩) (by kernel_rfl) ?_
      refine W_exit ?_
      refine thenS_e ?_
      refine thenS_e ?_
      cases h
      exact And.intro rfl rfl

def impl_marked (n : Nat) (x1 : List Bool) : Option ((List Int)) :=
 guardO (0 < x1.length ∧ x1.length ≤ 1099511627776) <|
 guardO (0 + 4 ≤ x1.length) <|
 bindO (impl_marked_L1 x1 n ([] : List Int) 0) fun x87 =>
 some x87

theorem impl_marked_ok (n : Nat) (x1 : List Bool) (x50 : List Int) (h : impl_marked n x1 = some x50) : FOk EE 38 [.one (.arr .bool x1)] [] (.one (.e (.sl 0 0 x50.length))) [.row .int x50 true] := by
  unfold impl_marked at h
  refine FOk_of_W 18 0 Try.func38 rfl rfl (Nat.le_of_ble_eq_true rfl) rfl (fun w X θ => ?_)
  refine W_seq ?_
  refine W_region ?_
  refine guardO_e h (fun hg51 h => ?_)
  refine WO_step 2 [0] [1] ((0 < x1.length ∧ x1.length ≤ 1099511627776) ∧ True) ⟨[(1, .one (.e (.rp 0 0 0)))], [.row .bool x1 true]⟩ (by kernel_rfl) ⟨hg51, trivial⟩ ?_
  refine WO_nil rfl ?_
  refine thenS_n ?_
  refine W_seq ?_
  refine W_region ?_
  refine WO_step 1 [0] [1, 3] True ⟨[(1, .one (.e (.rp 0 0 0))), (3, .one (.e (.nsl)))], [.row .bool x1 true]⟩ (by kernel_rfl) trivial ?_
  refine WO_nilrow 3 .int rfl ?_
  refine WO_sub [0, 1] [1, 3] (st' := ⟨[(1, .one (.e (.rp 0 0 0))), (3, .one (.e (.sl 1 0 (([] : List Int).length))))], [.row .bool x1 true, .row .int ([] : List Int) true]⟩) (by kernel_rfl) ?_
  refine WO_nil rfl ?_
  refine thenS_n ?_
  refine W_seq ?_
  refine W_seq ?_
  refine W_region ?_
  refine guardO_e h (fun hg52 h => ?_)
  refine WO_step 2 [1] [3, 6, 7] ((0 + 4 ≤ x1.length) ∧ True) ⟨[(3, .one (.e (.sl 0 0 (([] : List Int).length)))), (6, .one (.arr .bool ((x1.drop 0).take 4))), (7, I 0)], [.row .int ([] : List Int) true]⟩ (by kernel_rfl) ⟨hg52, trivial⟩ ?_
  refine WO_nil rfl ?_
  refine thenS_n ?_
  refine W_block ?_
  refine W_loop ?_
  refine bindO_e h (fun x87 hx87 h => ?_)
  refine WL_cut (impl_marked_L1_ok w X θ x1 x87 n ([] : List Int) 0 hx87) ?_
  rintro _ _ ⟨rfl, rfl⟩
  refine blockS_y ?_
  refine thenS_n ?_
  refine W_seq ?_
  refine W_region ?_
  refine WO_step 2 [0] [2] True ⟨[(2, .one (.e (.sl 0 0 x87.length)))], [.row .int x87 true]⟩ (by kernel_rfl) trivial ?_
  refine WO_nil rfl ?_
  refine thenS_n ?_
  refine W_ret ?_
  cases h
  exact ⟨[0], True, by kernel_rfl, trivial⟩

/- impl.ReadsFrom -/
def impl_ReadsFrom (n : Nat) (x1 : List Acc) (i2 : Int) : Option ((List Int)) :=
 bindO (impl_ValidAccesses n x1) fun b12 =>
 iteO (!b12)
 (some ([] : List Int))
 (bindO (impl_sourcesOf n x1 i2) fun x16 =>
 bindO (impl_marked n x16) fun x18 =>
 some x18)

theorem impl_ReadsFrom_ok (n : Nat) (x1 : List Acc) (i2 : Int) (x11 : List Int) (h : impl_ReadsFrom n x1 i2 = some x11) : FOk EE 16 [.one (.e (.sl 0 0 x1.length)), I i2] [.row .acc x1 false] (.one (.e (.sl 1 0 x11.length))) [.row .acc x1 false, .row .int x11 true] := by
  unfold impl_ReadsFrom at h
  refine FOk_of_W 12 1 Try.func16 rfl rfl (Nat.le_of_ble_eq_true rfl) rfl (fun w X θ => ?_)
  refine W_seq ?_
  refine W_region ?_
  refine WO_step 1 [0] [0, 1] True ⟨[(0, .one (.e (.sl 0 0 x1.length))), (1, I i2)], [.row .acc x1 false]⟩ (by kernel_rfl) trivial ?_
  refine WO_nil rfl ?_
  refine thenS_n ?_
  refine W_seq ?_
  refine W_seq ?_
  refine W_region ?_
  refine WO_step 1 [0] [0, 1, 5] True ⟨[(0, .one (.e (.sl 0 0 x1.length))), (1, I i2), (5, .one (.e (.sl 0 0 x1.length)))], [.row .acc x1 false]⟩ (by kernel_rfl) trivial ?_
  refine bindO_e h (fun b12 hc13 h => ?_)
  refine WO_call [.ro 0] Try.f19 rfl rfl rfl (by kernel_rfl) rfl rfl (by kernel_rfl) (impl_ValidAccesses_ok n x1 b12 hc13) (And.intro (And.intro rfl rfl) (trivial)) rfl ?_
  refine WO_step 1 [0] [0, 1, 7] True ⟨[(0, .one (.e (.sl 0 0 x1.length))), (1, I i2), (7, B (!b12))], [.row .acc x1 false]⟩ (by kernel_rfl) trivial ?_
  refine WO_nil rfl ?_
  refine thenS_n ?_
  refine iteO_e h (fun hb15 h => W_true rfl hb15 ?_) (fun hb15 h => W_false rfl hb15 ?_)
  · refine W_seq ?_
    refine W_region ?_
    refine WO_step 1 [0] [4] True ⟨[(4, .one (.e (.nsl)))], [.row .acc x1 false]⟩ (by kernel_rfl) trivial ?_
    refine WO_nilrow 4 .int rfl ?_
    refine WO_sub [0, 1] [4] (st' := ⟨[(4, .one (.e (.sl 1 0 (([] : List Int).length))))], [.row .acc x1 false, .row .int ([] : List Int) true]⟩) (by kernel_rfl) ?_
    refine WO_nil rfl ?_
    refine thenS_n ?_
    refine W_ret ?_
    refine thenS_r ?_
    cases h
    exact ⟨[0, 1], True, by kernel_rfl, trivial⟩
  · refine W_sub [0] [0, 1] (st' := ⟨[(0, .one (.e (.sl 0 0 x1.length))), (1, I i2)], [.row .acc x1 false]⟩) (by kernel_rfl) ?_
    refine W_skip ?_
    refine thenS_n ?_
    refine W_seq ?_
    refine W_region ?_
    refine WO_step 2 [0] [8, 9] True ⟨[(8, .one (.e (.sl 0 0 x1.length))), (9, I i2)], [.row .acc x1 false]⟩ (by kernel_rfl) trivial ?_
    refine bindO_e h (fun x16 hc17 h => ?_)
    refine WO_call [.ro 0] Try.f39 rfl rfl rfl (by kernel_rfl) rfl rfl (by kernel_rfl) (impl_sourcesOf_ok n x1 i2 x16 hc17) (And.intro (And.intro rfl rfl) (trivial)) rfl ?_
    refine WO_sub [0] [10] (st' := ⟨[(10, .one (.arr .bool x16))], [.row .acc x1 false]⟩) (by kernel_rfl) ?_
    refine bindO_e h (fun x18 hc19 h => ?_)
    refine WO_call [] Try.f38 rfl rfl rfl (by kernel_rfl) rfl rfl (by kernel_rfl) (impl_marked_ok n x16 x18 hc19) (trivial) rfl ?_
    refine WO_step 1 [0, 1] [4] True ⟨[(4, .one (.e (.sl 1 0 x18.length)))], [.row .acc x1 false, .row .int x18 true]⟩ (by kernel_rfl) trivial ?_
    refine WO_nil rfl ?_
    refine thenS_n ?_
    refine W_ret ?_
    cases h
    exact ⟨[0, 1], True, by kernel_rfl, trivial⟩

/- spec.inRange -/
def spec_inRange (i1 : Int) (i2 : Int) (i3 : Int) : Bool :=
((decide (i2 ≤ i1)) && (decide (i1 ≤ i3)))

theorem spec_inRange_ok (i1 : Int) (i2 : Int) (i3 : Int) : FOk EE 47 [I i1, I i2, I i3] [] (B (spec_inRange i1 i2 i3)) [] := by
  refine FOk_of_W 15 0 Try.func47 rfl rfl (Nat.le_of_ble_eq_true rfl) rfl (fun w X θ => ?_)
  refine W_seq ?_
  refine W_region ?_
  refine WO_step 1 [] [0, 1, 2] True ⟨[(0, I i1), (1, I i2), (2, I i3)], []⟩ (by kernel_rfl) trivial ?_
  refine WO_nil rfl ?_
  refine thenS_n ?_
  refine W_seq ?_
  refine W_region ?_
  refine WO_step 4 [] [0, 2, 10] (True ∧ True) ⟨[(0, I i1), (2, I i3), (10, B (decide (i2 ≤ i1)))], []⟩ (by kernel_rfl) ⟨trivial, trivial⟩ ?_
  refine WO_thru ⟨[(6, B ((decide (i2 ≤ i1)) && (decide (i1 ≤ i3))))], []⟩ ?_ ?_
  · refine WO_if 10 rfl (fun hb10 => ?_) (fun hb10 => ?_)
    · refine WO_step 5 [] [6] (True ∧ True) ⟨[(6, B (decide (i1 ≤ i3)))], []⟩ (by kernel_rfl) ⟨trivial, trivial⟩ ?_
      exact WO_nil rfl ⟨rfl, by first | rfl | (rw [hb10]; first | done | rfl)⟩
    · refine WO_step 5 [] [6] True ⟨[(6, B false)], []⟩ (by kernel_rfl) trivial ?_
      exact WO_nil rfl ⟨rfl, by first | rfl | (rw [hb10]; first | done | rfl)⟩
  · refine thenS_n ?_
    refine W_ret ?_
    exact ⟨[], True, by kernel_rfl, trivial⟩

/- spec.validAccesses -/
def spec_validAccesses_L1 (x1 : List Acc) : Nat → Int → Option ((Unit) ⊕ (Unit))
| 0, _ => none
| n + 1, i92 =>
 iteO (decide (i92 < ((x1.length : Nat) : Int)))
 (guardO (0 ≤ i92 ∧ i92 < ((x1.length : Nat) : Int)) <|
 bindO (iteO (!(spec_inRange ((x1.getD i92.toNat dacc).who) 0 3))
 (some true)
 (guardO (0 ≤ i92 ∧ i92 < ((x1.length : Nat) : Int)) <|
 some (!(spec_inRange ((x1.getD i92.toNat dacc).node) 0 11)))) fun b129 =>
 iteO b129
 (some (.inl ()))
 (spec_validAccesses_L1 x1 n (w64 (i92 + 1))))
 (some (.inr ()))

theorem spec_validAccesses_L1_ok (w : World) (X : Nat → Prop) (θ : List Loc) (x1 : List Acc) (v : (Unit) ⊕ (Unit)) : ∀ (n : Nat) (i92 : Int), spec_validAccesses_L1 x1 n i92 = some v → WL EE ⟨w, X, θ, 29, 1⟩ (subC [1, 0, 1, 4, 4] (bodyC Try.f40)) (fun (e : Exit) (s : St) => (match v with | (.inl _) => e = .ret ∧ s = ⟨[(2, B false)], [.row .acc x1 false]⟩ | (.inr _) => e = .exit 0 ∧ s = ⟨[(0, .one (.e (.sl 0 0 x1.length)))], [.row .acc x1 false]⟩ : Prop)) ⟨[(0, .one (.e (.sl 0 0 x1.length))), (3, I i92)], [.row .acc x1 false]⟩ := by
  intro n
  induction n with
  | zero => intro _ h; exact none_e h
  | succ n ih =>
    intro i92 h
    rw [spec_validAccesses_L1] at h
    refine WL_round ?_
    refine W_seq ?_
    refine W_seq ?_
    refine W_region ?_
    refine WO_step 4 [0] [0, 3, 7] (True ∧ (True ∧ True)) ⟨[(0, .one (.e (.sl 0 0 x1.length))), (3, I i92), (7, B (decide (i92 < ((x1.length : Nat) : Int))))], [.row .acc x1 false]⟩ (by kernel_rfl) ⟨trivial, trivial, trivial⟩ ?_
    refine WO_nil rfl ?_
    refine thenS_n ?_
    refine iteO_e h (fun hb116 h => W_true rfl hb116 ?_) (fun hb116 h => W_false rfl hb116 ?_)
    · refine W_sub [0] [0, 3] (st' := ⟨[(0, .one (.e (.sl 0 0 x1.length))), (3, I i92)], [.row .acc x1 false]⟩) (by kernel_rfl) ?_
      refine W_skip ?_
      refine thenS_n ?_
      refine W_seq ?_
      refine W_block ?_
      refine W_seq ?_
      refine W_region ?_
      refine guardO_e h (fun hg126 h => ?_)
      refine WO_step 5 [0] [0, 3, 14] ((0 ≤ i92 ∧ i92 < ((x1.length : Nat) : Int)) ∧ (True ∧ True)) ⟨[(0, .one (.e (.sl 0 0 x1.length))), (3, I i92), (14, I ((x1.getD i92.toNat dacc).who))], [.row .acc x1 false]⟩ (by kernel_rfl) ⟨hg126, trivial, trivial⟩ ?_
      refine WO_call [] Try.f47 rfl rfl rfl (by kernel_rfl) rfl rfl (by kernel_rfl) (spec_inRange_ok ((x1.getD i92.toNat dacc).who) 0 3) (trivial) rfl ?_
      refine WO_step 2 [0] [0, 3, 17] True ⟨[(0, .one (.e (.sl 0 0 x1.length))), (3, I i92), (17, B (!(spec_inRange ((x1.getD i92.toNat dacc).who) 0 3)))], [.row .acc x1 false]⟩ (by kernel_rfl) trivial ?_
      refine bindO_e h (fun b129 hv130 h => ?_)
      refine WO_thru ⟨[(0, .one (.e (.sl 0 0 x1.length))), (3, I i92), (25, B b129)], [.row .acc x1 false]⟩ ?_ ?_
      · refine iteO_e hv130 (fun hb131 hv130 => WO_known 17 true rfl hb131 ?_) (fun hb131 hv130 => WO_known 17 false rfl hb131 ?_)
        · refine WO_step 8 [0] [0, 3, 25] True ⟨[(0, .one (.e (.sl 0 0 x1.length))), (3, I i92), (25, B true)], [.row .acc x1 false]⟩ (by kernel_rfl) trivial ?_
          cases hv130
          exact WO_nil rfl ⟨rfl, rfl⟩
        · refine guardO_e hv130 (fun hg132 hv130 => ?_)
          refine WO_step 5 [0] [0, 3, 17, 22] ((0 ≤ i92 ∧ i92 < ((x1.length : Nat) : Int)) ∧ (True ∧ True)) ⟨[(0, .one (.e (.sl 0 0 x1.length))), (3, I i92), (17, B false), (22, I ((x1.getD i92.toNat dacc).node))], [.row .acc x1 false]⟩ (by kernel_rfl) ⟨hg132, trivial, trivial⟩ ?_
          refine WO_call [] Try.f47 rfl rfl rfl (by kernel_rfl) rfl rfl (by kernel_rfl) (spec_inRange_ok ((x1.getD i92.toNat dacc).node) 0 11) (trivial) rfl ?_
          refine WO_step 2 [0] [0, 3, 25] True ⟨[(0, .one (.e (.sl 0 0 x1.length))), (3, I i92), (25, B (!(spec_inRange ((x1.getD i92.toNat dacc).node) 0 11)))], [.row .acc x1 false]⟩ (by kernel_rfl) trivial ?_
          cases hv130
          exact WO_nil rfl ⟨rfl, rfl⟩
      · refine thenS_n ?_
        refine iteO_e h (fun hb134 h => W_true rfl hb134 ?_) (fun hb134 h => W_false rfl hb134 ?_)
        · refine W_seq ?_
          refine W_region ?_
          refine WO_step 1 [0] [2] True ⟨[(2, B false)], [.row .acc x1 false]⟩ (by kernel_rfl) trivial ?_
          refine WO_nil rfl ?_
          refine thenS_n ?_
          refine W_ret ?_
          refine blockS_r ?_
          refine thenS_r ?_
          refine thenS_r ?_
          cases h
          exact And.intro rfl rfl
        · refine W_sub [0] [0, 3] (st' := ⟨[(0, .one (.e (.sl 0 0 x1.length))), (3, I i92)], [.row .acc x1 false]⟩) (by kernel_rfl) ?_
          refine W_skip ?_
          refine blockS_n ?_
          refine thenS_n ?_
          refine W_region ?_
          refine WO_step 3 [0] [0, 3] (True ∧ True) ⟨[(0, .one (.e (.sl 0 0 x1.length))), (3, I (w64 (i92 + 1)))], [.row .acc x1 false]⟩ (by kernel_rfl) ⟨trivial, trivial⟩ ?_
          refine WO_nil rfl ?_
          refine thenS_n ?_
          exact ih _ h
    · refine W_sub [0] [0] (st' := ⟨[(0, .one (.e (.sl 0 0 x1.length)))], [.row .acc x1 false]⟩) (by kernel_rfl) ?_
      refine W_exit ?_
      refine thenS_e ?_
      refine thenS_e ?_
      cases h
      exact And.intro rfl rfl

def spec_validAccesses (n : Nat) (x1 : List Acc) : Option (Bool) :=
 bindO (spec_validAccesses_L1 x1 n 0) fun v135 =>
 match v135 with
 | (.inl _) => (some false)
 | (.inr _) => (some (decide (((x1.length : Nat) : Int) ≤ 16)))


theorem spec_validAccesses_ok (n : Nat) (x1 : List Acc) (b68 : Bool) (h : spec_validAccesses n x1 = some b68) : FOk EE 40 [.one (.e (.sl 0 0 x1.length))] [.row .acc x1 false] (B b68) [.row .acc x1 false] := by
  unfold spec_validAccesses at h
  refine FOk_of_W 29 1 Try.func40 rfl rfl (Nat.le_of_ble_eq_true rfl) rfl (fun w X θ => ?_)
  refine W_seq ?_
  refine W_region ?_
  refine WO_step 1 [0] [0] True ⟨[(0, .one (.e (.sl 0 0 x1.length)))], [.row .acc x1 false]⟩ (by kernel_rfl) trivial ?_
  refine WO_nil rfl ?_
  refine thenS_n ?_
  refine W_seq ?_
  refine W_seq ?_
  refine W_region ?_
  refine WO_step 1 [0] [0, 3] True ⟨[(0, .one (.e (.sl 0 0 x1.length))), (3, I 0)], [.row .acc x1 false]⟩ (by kernel_rfl) trivial ?_
  refine WO_nil rfl ?_
  refine thenS_n ?_
  refine W_block ?_
  refine W_loop ?_
  refine bindO_e h (fun v135 hv135 h => ?_)
  refine WL_cut (spec_validAccesses_L1_ok w X θ x1 v135 n 0 hv135) ?_
  rcases v135 with _ | _
  · rintro _ _ ⟨rfl, rfl⟩
    refine blockS_r ?_
    refine thenS_r ?_
    cases h
    exact ⟨[0], True, by kernel_rfl, trivial⟩
  · rintro _ _ ⟨rfl, rfl⟩
    refine blockS_y ?_
    refine thenS_n ?_
    refine W_seq ?_
    refine W_region ?_
    refine WO_step 4 [0] [2] (True ∧ (True ∧ True)) ⟨[(2, B (decide (((x1.length : Nat) : Int) ≤ 16)))], [.row .acc x1 false]⟩ (by kernel_rfl) ⟨trivial, trivial, trivial⟩ ?_
    refine WO_nil rfl ?_
    refine thenS_n ?_
    refine W_ret ?_
    cases h
    exact ⟨[0], True, by kernel_rfl, trivial⟩

/- spec.lastWriter -/
def spec_lastWriter_L1 (x1 : List Acc) (i2 : Int) : Nat → Int → Option ((Int) ⊕ (Unit))
| 0, _ => none
| n + 1, i104 =>
 iteO (decide (0 ≤ i104))
 (guardO (0 ≤ i104 ∧ i104 < ((x1.length : Nat) : Int)) <|
 bindO (iteO ((x1.getD i104.toNat dacc).write)
 (guardO (0 ≤ i104 ∧ i104 < ((x1.length : Nat) : Int)) <|
 guardO (0 ≤ i2 ∧ i2 < ((x1.length : Nat) : Int)) <|
 some (decide (((x1.getD i104.toNat dacc).node) = ((x1.getD i2.toNat dacc).node))))
 (some false)) fun b146 =>
 iteO b146
 (guardO (0 ≤ i104 ∧ i104 < ((x1.length : Nat) : Int)) <|
 some (.inl ((x1.getD i104.toNat dacc).who)))
 (spec_lastWriter_L1 x1 i2 n (w64 (i104 - 1))))
 (some (.inr ()))

theorem spec_lastWriter_L1_ok (w : World) (X : Nat → Prop) (θ : List Loc) (x1 : List Acc) (i2 : Int) (v : (Int) ⊕ (Unit)) : ∀ (n : Nat) (i104 : Int), spec_lastWriter_L1 x1 i2 n i104 = some v → WL EE ⟨w, X, θ, 35, 1⟩ (subC [1, 0, 1, 4, 4] (bodyC Try.f50)) (fun (e : Exit) (s : St) => (match v with | (.inl i128) => e = .ret ∧ s = ⟨[(4, I i128)], [.row .acc x1 false]⟩ | (.inr _) => e = .exit 0 ∧ s = ⟨[], [.row .acc x1 false]⟩ : Prop)) ⟨[(0, .one (.e (.sl 0 0 x1.length))), (1, I i2), (5, I i104)], [.row .acc x1 false]⟩ := by
  intro n
  induction n with
  | zero => intro _ h; exact none_e h
  | succ n ih =>
    intro i104 h
    rw [spec_lastWriter_L1] at h
    refine WL_round ?_
    refine W_seq ?_
    refine W_seq ?_
    refine W_region ?_
    refine WO_step 2 [0] [0, 1, 5, 9] (True ∧ True) ⟨[(0, .one (.e (.sl 0 0 x1.length))), (1, I i2), (5, I i104), (9, B (decide (0 ≤ i104)))], [.row .acc x1 false]⟩ (by kernel_rfl) ⟨trivial, trivial⟩ ?_
    refine WO_nil rfl ?_
    refine thenS_n ?_
    refine iteO_e h (fun hb131 h => W_true rfl hb131 ?_) (fun hb131 h => W_false rfl hb131 ?_)
    · refine W_sub [0] [0, 1, 5] (st' := ⟨[(0, .one (.e (.sl 0 0 x1.length))), (1, I i2), (5, I i104)], [.row .acc x1 false]⟩) (by kernel_rfl) ?_
      refine W_skip ?_
      refine thenS_n ?_
      refine W_seq ?_
      refine W_block ?_
      refine W_seq ?_
      refine guardO_e h (fun hg142 h => ?_)
      refine bindO_e h (fun b146 hv147 h => ?_)
      refine W_cut (Q' := fun (e : Exit) (s : St) => e = .normal ∧ s = ⟨[(0, .one (.e (.sl 0 0 x1.length))), (1, I i2), (5, I i104), (29, B b146)], [.row .acc x1 false]⟩) ?_ ?_
      · refine iteO_e hv147 (fun hb143 hv147 => ?_) (fun hb143 hv147 => ?_)
        · refine guardO_e hv147 (fun hg144 hv147 => ?_)
          refine guardO_e hv147 (fun hg145 hv147 => ?_)
          refine W_draw [] true (by kernel_rfl) (by kernel_rfl) ?_
          refine WD_takeK [0, 1, 2, 3, 4, 5] [0, 1, 5, 17] [0, 1, 5, 17] (φ := ((0 ≤ i104 ∧ i104 < ((x1.length : Nat) : Int)) ∧ (0 ≤ i104 ∧ i104 < ((x1.length : Nat) : Int)) ∧ (True ∧ True ∧ True))) (ls' := #[true, true, true, true, true, true, false, false, false, false, false, false, false, false, false, false, false, false]) (Ts' := [(0, .one (.e (.sl 0 0 x1.length))), (1, I i2), (5, I i104), (17, B ((x1.getD i104.toNat dacc).write))]) (st' := ⟨[(0, .one (.e (.sl 0 0 x1.length))), (1, I i2), (5, I i104), (17, B ((x1.getD i104.toNat dacc).write))], [.row .acc x1 false]⟩) (n2 := 12) (by kernel_rfl) ⟨hg142, hg142, trivial, trivial, trivial⟩ rfl ?_
          refine WD_known 17 true rfl rfl hb143 ?_
          refine WD_takeK [6, 7, 8, 9, 10, 11, 12, 13, 14, 15, 16, 17] [0, 1, 5, 29] [0, 1, 5, 29] (φ := ((0 ≤ i104 ∧ i104 < ((x1.length : Nat) : Int)) ∧ (0 ≤ i104 ∧ i104 < ((x1.length : Nat) : Int)) ∧ (True ∧ True ∧ ((0 ≤ i2 ∧ i2 < ((x1.length : Nat) : Int)) ∧ (0 ≤ i2 ∧ i2 < ((x1.length : Nat) : Int)) ∧ (True ∧ True ∧ (True ∧ True ∧ True)))))) (ls' := #[true, true, true, true, true, true, true, true, true, true, true, true, true, true, true, true, true, true]) (Ts' := [(0, .one (.e (.sl 0 0 x1.length))), (1, I i2), (5, I i104), (29, B (decide (((x1.getD i104.toNat dacc).node) = ((x1.getD i2.toNat dacc).node))))]) (st' := ⟨[(0, .one (.e (.sl 0 0 x1.length))), (1, I i2), (5, I i104), (29, B (decide (((x1.getD i104.toNat dacc).node) = ((x1.getD i2.toNat dacc).node))))], [.row .acc x1 false]⟩) (n2 := 0) (by kernel_rfl) ⟨hg144, hg144, trivial, trivial, hg145, hg145, trivial, trivial, trivial, trivial, trivial⟩ rfl ?_
          exact WD_done [0] [0, 1, 5, 29] (st' := ⟨[(0, .one (.e (.sl 0 0 x1.length))), (1, I i2), (5, I i104), (29, B (decide (((x1.getD i104.toNat dacc).node) = ((x1.getD i2.toNat dacc).node))))], [.row .acc x1 false]⟩) (by kernel_rfl) (by kernel_rfl) (And.intro rfl (by cases hv147; rfl))
        · refine W_draw [] true (by kernel_rfl) (by kernel_rfl) ?_
          refine WD_takeK [0, 1, 2, 3, 4, 5] [0, 1, 5, 17] [0, 1, 5, 17] (φ := ((0 ≤ i104 ∧ i104 < ((x1.length : Nat) : Int)) ∧ (0 ≤ i104 ∧ i104 < ((x1.length : Nat) : Int)) ∧ (True ∧ True ∧ True))) (ls' := #[true, true, true, true, true, true, false, false, false, false, false, false, false, false, false, false, false, false]) (Ts' := [(0, .one (.e (.sl 0 0 x1.length))), (1, I i2), (5, I i104), (17, B ((x1.getD i104.toNat dacc).write))]) (st' := ⟨[(0, .one (.e (.sl 0 0 x1.length))), (1, I i2), (5, I i104), (17, B ((x1.getD i104.toNat dacc).write))], [.row .acc x1 false]⟩) (n2 := 12) (by kernel_rfl) ⟨hg142, hg142, trivial, trivial, trivial⟩ rfl ?_
          refine WD_known 17 false rfl rfl hb143 ?_
          refine WD_takeK [6, 7, 8, 9, 10, 11, 12, 13, 14, 15, 16, 17] [0, 1, 5, 29] [0, 1, 5, 29] (φ := True) (ls' := #[true, true, true, true, true, true, true, true, true, true, true, true, true, true, true, true, true, true]) (Ts' := [(0, .one (.e (.sl 0 0 x1.length))), (1, I i2), (5, I i104), (29, B false)]) (st' := ⟨[(0, .one (.e (.sl 0 0 x1.length))), (1, I i2), (5, I i104), (29, B false)], [.row .acc x1 false]⟩) (n2 := 0) (by kernel_rfl) trivial rfl ?_
          exact WD_done [0] [0, 1, 5, 29] (st' := ⟨[(0, .one (.e (.sl 0 0 x1.length))), (1, I i2), (5, I i104), (29, B false)], [.row .acc x1 false]⟩) (by kernel_rfl) (by kernel_rfl) (And.intro rfl (by cases hv147; rfl))
      · rintro _ _ ⟨rfl, rfl⟩
        refine thenS_n ?_
        refine iteO_e h (fun hb150 h => W_true rfl hb150 ?_) (fun hb150 h => W_false rfl hb150 ?_)
        · refine W_seq ?_
          refine W_region ?_
          refine guardO_e h (fun hg151 h => ?_)
          refine WO_step 6 [0] [4] ((0 ≤ i104 ∧ i104 < ((x1.length : Nat) : Int)) ∧ (True ∧ True)) ⟨[(4, I ((x1.getD i104.toNat dacc).who))], [.row .acc x1 false]⟩ (by kernel_rfl) ⟨hg151, trivial, trivial⟩ ?_
          refine WO_nil rfl ?_
          refine thenS_n ?_
          refine W_ret ?_
          refine blockS_r ?_
          refine thenS_r ?_
          refine thenS_r ?_
          cases h
          exact And.intro rfl rfl
        · refine W_sub [0] [0, 1, 5] (st' := ⟨[(0, .one (.e (.sl 0 0 x1.length))), (1, I i2), (5, I i104)], [.row .acc x1 false]⟩) (by kernel_rfl) ?_
          refine W_skip ?_
          refine blockS_n ?_
          refine thenS_n ?_
          refine W_region ?_
          refine WO_step 3 [0] [0, 1, 5] (True ∧ True) ⟨[(0, .one (.e (.sl 0 0 x1.length))), (1, I i2), (5, I (w64 (i104 - 1)))], [.row .acc x1 false]⟩ (by kernel_rfl) ⟨trivial, trivial⟩ ?_
          refine WO_nil rfl ?_
          refine thenS_n ?_
          exact ih _ h
    · refine W_sub [0] [] (st' := ⟨[], [.row .acc x1 false]⟩) (by kernel_rfl) ?_
      refine W_exit ?_
      refine thenS_e ?_
      refine thenS_e ?_
      cases h
      exact And.intro rfl rfl

def spec_lastWriter (n : Nat) (x1 : List Acc) (i2 : Int) : Option (Int) :=
 bindO (spec_lastWriter_L1 x1 i2 n (w64 (i2 - 1))) fun v152 =>
 match v152 with
 | (.inl i128) => (some i128)
 | (.inr _) => (some (-1))


theorem spec_lastWriter_ok (n : Nat) (x1 : List Acc) (i2 : Int) (i77 : Int) (h : spec_lastWriter n x1 i2 = some i77) : FOk EE 50 [.one (.e (.sl 0 0 x1.length)), I i2] [.row .acc x1 false] (I i77) [.row .acc x1 false] := by
  unfold spec_lastWriter at h
  refine FOk_of_W 35 1 Try.func50 rfl rfl (Nat.le_of_ble_eq_true rfl) rfl (fun w X θ => ?_)
  refine W_seq ?_
  refine W_region ?_
  refine WO_step 1 [0] [0, 1] True ⟨[(0, .one (.e (.sl 0 0 x1.length))), (1, I i2)], [.row .acc x1 false]⟩ (by kernel_rfl) trivial ?_
  refine WO_nil rfl ?_
  refine thenS_n ?_
  refine W_seq ?_
  refine W_seq ?_
  refine W_region ?_
  refine WO_step 3 [0] [0, 1, 5] (True ∧ True) ⟨[(0, .one (.e (.sl 0 0 x1.length))), (1, I i2), (5, I (w64 (i2 - 1)))], [.row .acc x1 false]⟩ (by kernel_rfl) ⟨trivial, trivial⟩ ?_
  refine WO_nil rfl ?_
  refine thenS_n ?_
  refine W_block ?_
  refine W_loop ?_
  refine bindO_e h (fun v152 hv152 h => ?_)
  refine WL_cut (spec_lastWriter_L1_ok w X θ x1 i2 v152 n (w64 (i2 - 1)) hv152) ?_
  rcases v152 with i128 | _
  · rintro _ _ ⟨rfl, rfl⟩
    refine blockS_r ?_
    refine thenS_r ?_
    cases h
    exact ⟨[0], True, by kernel_rfl, trivial⟩
  · rintro _ _ ⟨rfl, rfl⟩
    refine blockS_y ?_
    refine thenS_n ?_
    refine W_seq ?_
    refine W_region ?_
    refine WO_step 1 [0] [4] True ⟨[(4, I (-1))], [.row .acc x1 false]⟩ (by kernel_rfl) trivial ?_
    refine WO_nil rfl ?_
    refine thenS_n ?_
    refine W_ret ?_
    cases h
    exact ⟨[0], True, by kernel_rfl, trivial⟩

/- spec.readsFrom -/
def spec_readsFrom_L1 (x1 : List Acc) (i2 : Int) (i3 : Int) : Nat → Int → Option ((Unit) ⊕ (Unit))
| 0, _ => none
| n + 1, i142 =>
 iteO (decide (i142 < ((x1.length : Nat) : Int)))
 (guardO (0 ≤ i142 ∧ i142 < ((x1.length : Nat) : Int)) <|
 bindO (iteO (decide (((x1.getD i142.toNat dacc).who) = i2))
 (guardO (0 ≤ i142 ∧ i142 < ((x1.length : Nat) : Int)) <|
 iteO (!(x1.getD i142.toNat dacc).write)
 (bindO (spec_lastWriter n x1 i142) fun i205 =>
 some (decide (i205 = i3)))
 (some false))
 (some false)) fun b200 =>
 iteO b200
 (some (.inl ()))
 (spec_readsFrom_L1 x1 i2 i3 n (w64 (i142 + 1))))
 (some (.inr ()))

theorem spec_readsFrom_L1_ok (w : World) (X : Nat → Prop) (θ : List Loc) (x1 : List Acc) (i2 : Int) (i3 : Int) (v : (Unit) ⊕ (Unit)) : ∀ (n : Nat) (i142 : Int), spec_readsFrom_L1 x1 i2 i3 n i142 = some v → WL EE ⟨w, X, θ, 39, 1⟩ (subC [1, 0, 1, 4, 4] (bodyC Try.f41)) (fun (e : Exit) (s : St) => (match v with | (.inl _) => e = .ret ∧ s = ⟨[(6, B (!decide (i2 = i3)))], [.row .acc x1 false]⟩ | (.inr _) => e = .exit 0 ∧ s = ⟨[], [.row .acc x1 false]⟩ : Prop)) ⟨[(0, .one (.e (.sl 0 0 x1.length))), (1, I i2), (2, I i3), (7, I i142)], [.row .acc x1 false]⟩ := by
  intro n
  induction n with
  | zero => intro _ h; exact none_e h
  | succ n ih =>
    intro i142 h
    rw [spec_readsFrom_L1] at h
    refine WL_round ?_
    refine W_seq ?_
    refine W_seq ?_
    refine W_region ?_
    refine WO_step 4 [0] [0, 1, 2, 7, 11] (True ∧ (True ∧ True)) ⟨[(0, .one (.e (.sl 0 0 x1.length))), (1, I i2), (2, I i3), (7, I i142), (11, B (decide (i142 < ((x1.length : Nat) : Int))))], [.row .acc x1 false]⟩ (by kernel_rfl) ⟨trivial, trivial, trivial⟩ ?_
    refine WO_nil rfl ?_
    refine thenS_n ?_
    refine iteO_e h (fun hb178 h => W_true rfl hb178 ?_) (fun hb178 h => W_false rfl hb178 ?_)
    · refine W_sub [0] [0, 1, 2, 7] (st' := ⟨[(0, .one (.e (.sl 0 0 x1.length))), (1, I i2), (2, I i3), (7, I i142)], [.row .acc x1 false]⟩) (by kernel_rfl) ?_
      refine W_skip ?_
      refine thenS_n ?_
      refine W_seq ?_
      refine W_block ?_
      refine W_seq ?_
      refine W_region ?_
      refine guardO_e h (fun hg194 h => ?_)
      refine WO_step 8 [0] [0, 1, 2, 7, 21] ((0 ≤ i142 ∧ i142 < ((x1.length : Nat) : Int)) ∧ (True ∧ (True ∧ True))) ⟨[(0, .one (.e (.sl 0 0 x1.length))), (1, I i2), (2, I i3), (7, I i142), (21, B (decide (((x1.getD i142.toNat dacc).who) = i2)))], [.row .acc x1 false]⟩ (by kernel_rfl) ⟨hg194, trivial, trivial, trivial⟩ ?_
      refine bindO_e h (fun b200 hv201 h => ?_)
      refine WO_thru ⟨[(0, .one (.e (.sl 0 0 x1.length))), (1, I i2), (2, I i3), (7, I i142), (35, B b200)], [.row .acc x1 false]⟩ ?_ ?_
      · refine iteO_e hv201 (fun hb202 hv201 => WO_known 21 true rfl hb202 ?_) (fun hb202 hv201 => WO_known 21 false rfl hb202 ?_)
        · refine guardO_e hv201 (fun hg203 hv201 => ?_)
          refine WO_step 8 [0] [0, 1, 2, 7, 29] ((0 ≤ i142 ∧ i142 < ((x1.length : Nat) : Int)) ∧ (True ∧ True)) ⟨[(0, .one (.e (.sl 0 0 x1.length))), (1, I i2), (2, I i3), (7, I i142), (29, B (!(x1.getD i142.toNat dacc).write))], [.row .acc x1 false]⟩ (by kernel_rfl) ⟨hg203, trivial, trivial⟩ ?_
          refine iteO_e hv201 (fun hb204 hv201 => WO_known 29 true rfl hb204 ?_) (fun hb204 hv201 => WO_known 29 false rfl hb204 ?_)
          · refine WO_step 2 [0] [0, 1, 2, 7, 29, 30, 31] True ⟨[(0, .one (.e (.sl 0 0 x1.length))), (1, I i2), (2, I i3), (7, I i142), (29, B true), (30, .one (.e (.sl 0 0 x1.length))), (31, I i142)], [.row .acc x1 false]⟩ (by kernel_rfl) trivial ?_
            refine bindO_e hv201 (fun i205 hc206 hv201 => ?_)
            refine WO_call [.ro 0] Try.f50 rfl rfl rfl (by kernel_rfl) rfl rfl (by kernel_rfl) (spec_lastWriter_ok n x1 i142 i205 hc206) (And.intro (And.intro rfl rfl) (trivial)) rfl ?_
            refine WO_step 3 [0] [0, 1, 2, 7, 35] (True ∧ True) ⟨[(0, .one (.e (.sl 0 0 x1.length))), (1, I i2), (2, I i3), (7, I i142), (35, B (decide (i205 = i3)))], [.row .acc x1 false]⟩ (by kernel_rfl) ⟨trivial, trivial⟩ ?_
            cases hv201
            exact WO_nil rfl ⟨rfl, rfl⟩
          · refine WO_step 6 [0] [0, 1, 2, 7, 35] True ⟨[(0, .one (.e (.sl 0 0 x1.length))), (1, I i2), (2, I i3), (7, I i142), (35, B false)], [.row .acc x1 false]⟩ (by kernel_rfl) trivial ?_
            cases hv201
            exact WO_nil rfl ⟨rfl, rfl⟩
        · refine WO_step 14 [0] [0, 1, 2, 7, 35] True ⟨[(0, .one (.e (.sl 0 0 x1.length))), (1, I i2), (2, I i3), (7, I i142), (35, B false)], [.row .acc x1 false]⟩ (by kernel_rfl) trivial ?_
          cases hv201
          exact WO_nil rfl ⟨rfl, rfl⟩
      · refine thenS_n ?_
        refine iteO_e h (fun hb208 h => W_true rfl hb208 ?_) (fun hb208 h => W_false rfl hb208 ?_)
        · refine W_seq ?_
          refine W_region ?_
          refine WO_step 4 [0] [6] (True ∧ True) ⟨[(6, B (!decide (i2 = i3)))], [.row .acc x1 false]⟩ (by kernel_rfl) ⟨trivial, trivial⟩ ?_
          refine WO_nil rfl ?_
          refine thenS_n ?_
          refine W_ret ?_
          refine blockS_r ?_
          refine thenS_r ?_
          refine thenS_r ?_
          cases h
          exact And.intro rfl rfl
        · refine W_sub [0] [0, 1, 2, 7] (st' := ⟨[(0, .one (.e (.sl 0 0 x1.length))), (1, I i2), (2, I i3), (7, I i142)], [.row .acc x1 false]⟩) (by kernel_rfl) ?_
          refine W_skip ?_
          refine blockS_n ?_
          refine thenS_n ?_
          refine W_region ?_
          refine WO_step 3 [0] [0, 1, 2, 7] (True ∧ True) ⟨[(0, .one (.e (.sl 0 0 x1.length))), (1, I i2), (2, I i3), (7, I (w64 (i142 + 1)))], [.row .acc x1 false]⟩ (by kernel_rfl) ⟨trivial, trivial⟩ ?_
          refine WO_nil rfl ?_
          refine thenS_n ?_
          exact ih _ h
    · refine W_sub [0] [] (st' := ⟨[], [.row .acc x1 false]⟩) (by kernel_rfl) ?_
      refine W_exit ?_
      refine thenS_e ?_
      refine thenS_e ?_
      cases h
      exact And.intro rfl rfl

def spec_readsFrom (n : Nat) (x1 : List Acc) (i2 : Int) (i3 : Int) : Option (Bool) :=
 bindO (spec_readsFrom_L1 x1 i2 i3 n 0) fun v209 =>
 match v209 with
 | (.inl _) => (some (!decide (i2 = i3)))
 | (.inr _) => (some false)


theorem spec_readsFrom_ok (n : Nat) (x1 : List Acc) (i2 : Int) (i3 : Int) (b106 : Bool) (h : spec_readsFrom n x1 i2 i3 = some b106) : FOk EE 41 [.one (.e (.sl 0 0 x1.length)), I i2, I i3] [.row .acc x1 false] (B b106) [.row .acc x1 false] := by
  unfold spec_readsFrom at h
  refine FOk_of_W 39 1 Try.func41 rfl rfl (Nat.le_of_ble_eq_true rfl) rfl (fun w X θ => ?_)
  refine W_seq ?_
  refine W_region ?_
  refine WO_step 1 [0] [0, 1, 2] True ⟨[(0, .one (.e (.sl 0 0 x1.length))), (1, I i2), (2, I i3)], [.row .acc x1 false]⟩ (by kernel_rfl) trivial ?_
  refine WO_nil rfl ?_
  refine thenS_n ?_
  refine W_seq ?_
  refine W_seq ?_
  refine W_region ?_
  refine WO_step 1 [0] [0, 1, 2, 7] True ⟨[(0, .one (.e (.sl 0 0 x1.length))), (1, I i2), (2, I i3), (7, I 0)], [.row .acc x1 false]⟩ (by kernel_rfl) trivial ?_
  refine WO_nil rfl ?_
  refine thenS_n ?_
  refine W_block ?_
  refine W_loop ?_
  refine bindO_e h (fun v209 hv209 h => ?_)
  refine WL_cut (spec_readsFrom_L1_ok w X θ x1 i2 i3 v209 n 0 hv209) ?_
  rcases v209 with _ | _
  · rintro _ _ ⟨rfl, rfl⟩
    refine blockS_r ?_
    refine thenS_r ?_
    cases h
    exact ⟨[0], True, by kernel_rfl, trivial⟩
  · rintro _ _ ⟨rfl, rfl⟩
    refine blockS_y ?_
    refine thenS_n ?_
    refine W_seq ?_
    refine W_region ?_
    refine WO_step 1 [0] [6] True ⟨[(6, B false)], [.row .acc x1 false]⟩ (by kernel_rfl) trivial ?_
    refine WO_nil rfl ?_
    refine thenS_n ?_
    refine W_ret ?_
    cases h
    exact ⟨[0], True, by kernel_rfl, trivial⟩

/- spec.ReadsFrom -/
def spec_ReadsFrom_L1 (x1 : List Acc) (i2 : Int) : Nat → (List Int) → Int → Option ((List Int))
| 0, _, _ => none
| n + 1, x84, i85 =>
 iteO (decide (i85 < 4))
 (bindO (spec_readsFrom n x1 i2 i85) fun b112 =>
 bindO (iteO b112
 (guardO (0 = 0 ∧ x84.length = x84.length ∧ x84.length + (([i85].drop 0).take ([i85].length)).length ≤ 1099511627776) <|
 some (x84 ++ (([i85].drop 0).take ([i85].length))))
 (some x84)) fun x116 =>
 spec_ReadsFrom_L1 x1 i2 n x116 (w64 (i85 + 1)))
 (some x84)

theorem spec_ReadsFrom_L1_ok (w : World) (X : Nat → Prop) (θ : List Loc) (x1 : List Acc) (i2 : Int) (x102 : (List Int)) : ∀ (n : Nat) (x84 : List Int) (i85 : Int), spec_ReadsFrom_L1 x1 i2 n x84 i85 = some x102 → WL EE ⟨w, X, θ, 24, 1⟩ (subC [1, 1, 1, 0, 1, 4, 4] (bodyC Try.f18)) (fun (e : Exit) (s : St) => e = .exit 0 ∧ s = ⟨[(5, .one (.e (.sl 1 0 x102.length)))], [.row .acc x1 false, .row .int x102 true]⟩) ⟨[(0, .one (.e (.sl 0 0 x1.length))), (1, I i2), (5, .one (.e (.sl 1 0 x84.length))), (6, I i85)], [.row .acc x1 false, .row .int x84 true]⟩ := by
  intro n
  induction n with
  | zero => intro _ _ h; exact none_e h
  | succ n ih =>
    intro x84 i85 h
    rw [spec_ReadsFrom_L1] at h
    refine WL_round ?_
    refine W_seq ?_
    refine W_seq ?_
    refine W_region ?_
    refine WO_step 2 [0, 1] [0, 1, 5, 6, 12] (True ∧ True) ⟨[(0, .one (.e (.sl 0 0 x1.length))), (1, I i2), (5, .one (.e (.sl 1 0 x84.length))), (6, I i85), (12, B (decide (i85 < 4)))], [.row .acc x1 false, .row .int x84 true]⟩ (by kernel_rfl) ⟨trivial, trivial⟩ ?_
    refine WO_nil rfl ?_
    refine thenS_n ?_
    refine iteO_e h (fun hb105 h => W_true rfl hb105 ?_) (fun hb105 h => W_false rfl hb105 ?_)
    · refine W_sub [0, 1] [0, 1, 5, 6] (st' := ⟨[(0, .one (.e (.sl 0 0 x1.length))), (1, I i2), (5, .one (.e (.sl 1 0 x84.length))), (6, I i85)], [.row .acc x1 false, .row .int x84 true]⟩) (by kernel_rfl) ?_
      refine W_skip ?_
      refine thenS_n ?_
      refine W_seq ?_
      refine W_block ?_
      refine W_seq ?_
      refine W_region ?_
      refine WO_step 3 [0, 1] [0, 1, 5, 6, 15, 16, 17] True ⟨[(0, .one (.e (.sl 0 0 x1.length))), (1, I i2), (5, .one (.e (.sl 1 0 x84.length))), (6, I i85), (15, .one (.e (.sl 0 0 x1.length))), (16, I i2), (17, I i85)], [.row .acc x1 false, .row .int x84 true]⟩ (by kernel_rfl) trivial ?_
      refine bindO_e h (fun b112 hc113 h => ?_)
      refine WO_call [.ro 0] Try.f41 rfl rfl rfl (by kernel_rfl) rfl rfl (by kernel_rfl) (spec_readsFrom_ok n x1 i2 i85 b112 hc113) (And.intro (And.intro rfl rfl) (trivial)) rfl ?_
      refine WO_sub [0, 1] [0, 1, 5, 6, 18] (st' := ⟨[(0, .one (.e (.sl 0 0 x1.length))), (1, I i2), (5, .one (.e (.sl 1 0 x84.length))), (6, I i85), (18, B b112)], [.row .acc x1 false, .row .int x84 true]⟩) (by kernel_rfl) ?_
      refine WO_nil rfl ?_
      refine thenS_n ?_
      refine bindO_e h (fun x116 hx116 h => ?_)
      refine W_cut (Q' := fun (e : Exit) (s : St) => e = .normal ∧ s = ⟨[(0, .one (.e (.sl 0 0 x1.length))), (1, I i2), (5, .one (.e (.sl 1 0 x116.length))), (6, I i85)], [.row .acc x1 false, .row .int x116 true]⟩) ?_ ?_
      · refine iteO_e hx116 (fun hb118 hx116 => W_true rfl hb118 ?_) (fun hb118 hx116 => W_false rfl hb118 ?_)
        · refine W_region ?_
          refine guardO_e hx116 (fun hg119 hx116 => ?_)
          refine WO_step 5 [0, 3] [0, 1, 5, 6] ((0 = 0 ∧ x84.length = x84.length ∧ x84.length + (([i85].drop 0).take ([i85].length)).length ≤ 1099511627776) ∧ True) ⟨[(0, .one (.e (.sl 0 0 x1.length))), (1, I i2), (5, .one (.e (.sl 1 0 ((x84 ++ (([i85].drop 0).take ([i85].length))).length)))), (6, I i85)], [.row .acc x1 false, .row .int (x84 ++ (([i85].drop 0).take ([i85].length))) true]⟩ (by kernel_rfl) ⟨hg119, trivial⟩ ?_
          refine WO_nil rfl ?_
          cases hx116
          exact And.intro rfl rfl
        · refine W_sub [0, 1] [0, 1, 5, 6] (st' := ⟨[(0, .one (.e (.sl 0 0 x1.length))), (1, I i2), (5, .one (.e (.sl 1 0 x84.length))), (6, I i85)], [.row .acc x1 false, .row .int x84 true]⟩) (by kernel_rfl) ?_
          refine W_skip ?_
          cases hx116
          exact And.intro rfl rfl
      · rintro _ _ ⟨rfl, rfl⟩
        refine blockS_n ?_
        refine thenS_n ?_
        refine W_region ?_
        refine WO_step 3 [0, 1] [0, 1, 5, 6] (True ∧ True) ⟨[(0, .one (.e (.sl 0 0 x1.length))), (1, I i2), (5, .one (.e (.sl 1 0 x116.length))), (6, I (w64 (i85 + 1)))], [.row .acc x1 false, .row .int x116 true]⟩ (by kernel_rfl) ⟨trivial, trivial⟩ ?_
        refine WO_nil rfl ?_
        refine thenS_n ?_
        exact ih _ _ h
    · refine W_sub [0, 1] [5] (st' := ⟨[(5, .one (.e (.sl 1 0 x84.length)))], [.row .acc x1 false, .row .int x84 true]⟩) (by kernel_rfl) ?_
      refine W_exit ?_
      refine thenS_e ?_
      refine thenS_e ?_
      cases h
      exact And.intro rfl rfl

def spec_ReadsFrom (n : Nat) (x1 : List Acc) (i2 : Int) : Option ((List Int)) :=
 bindO (spec_validAccesses n x1) fun b60 =>
 iteO (!b60)
 (some ([] : List Int))
 (bindO (spec_ReadsFrom_L1 x1 i2 n ([] : List Int) 0) fun x102 =>
 some x102)

theorem spec_ReadsFrom_ok (n : Nat) (x1 : List Acc) (i2 : Int) (x59 : List Int) (h : spec_ReadsFrom n x1 i2 = some x59) : FOk EE 18 [.one (.e (.sl 0 0 x1.length)), I i2] [.row .acc x1 false] (.one (.e (.sl 1 0 x59.length))) [.row .acc x1 false, .row .int x59 true] := by
  unfold spec_ReadsFrom at h
  refine FOk_of_W 24 1 Try.func18 rfl rfl (Nat.le_of_ble_eq_true rfl) rfl (fun w X θ => ?_)
  refine W_seq ?_
  refine W_region ?_
  refine WO_step 1 [0] [0, 1] True ⟨[(0, .one (.e (.sl 0 0 x1.length))), (1, I i2)], [.row .acc x1 false]⟩ (by kernel_rfl) trivial ?_
  refine WO_nil rfl ?_
  refine thenS_n ?_
  refine W_seq ?_
  refine W_region ?_
  refine WO_step 2 [0, 1] [0, 1, 5] True ⟨[(0, .one (.e (.sl 0 0 x1.length))), (1, I i2), (5, .one (.e (.sl 1 0 (([] : List Int).length))))], [.row .acc x1 false, .row .int ([] : List Int) true]⟩ (by kernel_rfl) trivial ?_
  refine WO_nil rfl ?_
  refine thenS_n ?_
  refine W_seq ?_
  refine W_seq ?_
  refine W_region ?_
  refine WO_step 1 [0, 1] [0, 1, 5, 8] True ⟨[(0, .one (.e (.sl 0 0 x1.length))), (1, I i2), (5, .one (.e (.sl 1 0 (([] : List Int).length)))), (8, .one (.e (.sl 0 0 x1.length)))], [.row .acc x1 false, .row .int ([] : List Int) true]⟩ (by kernel_rfl) trivial ?_
  refine bindO_e h (fun b60 hc61 h => ?_)
  refine WO_call [.ro 0] Try.f40 rfl rfl rfl (by kernel_rfl) rfl rfl (by kernel_rfl) (spec_validAccesses_ok n x1 b60 hc61) (And.intro (And.intro rfl rfl) (trivial)) rfl ?_
  refine WO_step 1 [0, 1] [0, 1, 5, 10] True ⟨[(0, .one (.e (.sl 0 0 x1.length))), (1, I i2), (5, .one (.e (.sl 1 0 (([] : List Int).length)))), (10, B (!b60))], [.row .acc x1 false, .row .int ([] : List Int) true]⟩ (by kernel_rfl) trivial ?_
  refine WO_nil rfl ?_
  refine thenS_n ?_
  refine iteO_e h (fun hb63 h => W_true rfl hb63 ?_) (fun hb63 h => W_false rfl hb63 ?_)
  · refine W_seq ?_
    refine W_region ?_
    refine WO_step 1 [0] [4] True ⟨[(4, .one (.e (.nsl)))], [.row .acc x1 false]⟩ (by kernel_rfl) trivial ?_
    refine WO_nilrow 4 .int rfl ?_
    refine WO_sub [0, 1] [4] (st' := ⟨[(4, .one (.e (.sl 1 0 (([] : List Int).length))))], [.row .acc x1 false, .row .int ([] : List Int) true]⟩) (by kernel_rfl) ?_
    refine WO_nil rfl ?_
    refine thenS_n ?_
    refine W_ret ?_
    refine thenS_r ?_
    cases h
    exact ⟨[0, 1], True, by kernel_rfl, trivial⟩
  · refine W_sub [0, 1] [0, 1, 5] (st' := ⟨[(0, .one (.e (.sl 0 0 x1.length))), (1, I i2), (5, .one (.e (.sl 1 0 (([] : List Int).length))))], [.row .acc x1 false, .row .int ([] : List Int) true]⟩) (by kernel_rfl) ?_
    refine W_skip ?_
    refine thenS_n ?_
    refine W_seq ?_
    refine W_seq ?_
    refine W_region ?_
    refine WO_step 1 [0, 1] [0, 1, 5, 6] True ⟨[(0, .one (.e (.sl 0 0 x1.length))), (1, I i2), (5, .one (.e (.sl 1 0 (([] : List Int).length)))), (6, I 0)], [.row .acc x1 false, .row .int ([] : List Int) true]⟩ (by kernel_rfl) trivial ?_
    refine WO_nil rfl ?_
    refine thenS_n ?_
    refine W_block ?_
    refine W_loop ?_
    refine bindO_e h (fun x102 hx102 h => ?_)
    refine WL_cut (spec_ReadsFrom_L1_ok w X θ x1 i2 x102 n ([] : List Int) 0 hx102) ?_
    rintro _ _ ⟨rfl, rfl⟩
    refine blockS_y ?_
    refine thenS_n ?_
    refine W_seq ?_
    refine W_region ?_
    refine WO_step 2 [0, 1] [4] True ⟨[(4, .one (.e (.sl 1 0 x102.length)))], [.row .acc x1 false, .row .int x102 true]⟩ (by kernel_rfl) trivial ?_
    refine WO_nil rfl ?_
    refine thenS_n ?_
    refine W_ret ?_
    cases h
    exact ⟨[0, 1], True, by kernel_rfl, trivial⟩

/- laws.equalInts -/
def laws_equalInts_L1 (x1 : List Int) (x2 : List Int) : Nat → Int → Option ((Unit) ⊕ (Unit))
| 0, _ => none
| n + 1, i57 =>
 iteO (decide (i57 < ((x1.length : Nat) : Int)))
 (guardO (0 ≤ i57 ∧ i57 < ((x1.length : Nat) : Int)) <|
 guardO (0 ≤ i57 ∧ i57 < ((x2.length : Nat) : Int)) <|
 iteO (!decide ((x1.getD i57.toNat 0) = (x2.getD i57.toNat 0)))
 (some (.inl ()))
 (laws_equalInts_L1 x1 x2 n (w64 (i57 + 1))))
 (some (.inr ()))

theorem laws_equalInts_L1_ok (w : World) (X : Nat → Prop) (θ : List Loc) (x1 : List Int) (x2 : List Int) (v : (Unit) ⊕ (Unit)) : ∀ (n : Nat) (i57 : Int), laws_equalInts_L1 x1 x2 n i57 = some v → WL EE ⟨w, X, θ, 26, 2⟩ (subC [1, 1, 0, 1, 4, 4] (bodyC Try.f17)) (fun (e : Exit) (s : St) => (match v with | (.inl _) => e = .ret ∧ s = ⟨[(4, B false)], [.row .int x1 false, .row .int x2 false]⟩ | (.inr _) => e = .exit 0 ∧ s = ⟨[], [.row .int x1 false, .row .int x2 false]⟩ : Prop)) ⟨[(0, .one (.e (.sl 0 0 x1.length))), (1, .one (.e (.sl 1 0 x2.length))), (5, I i57)], [.row .int x1 false, .row .int x2 false]⟩ := by
  intro n
  induction n with
  | zero => intro _ h; exact none_e h
  | succ n ih =>
    intro i57 h
    rw [laws_equalInts_L1] at h
    refine WL_round ?_
    refine W_seq ?_
    refine W_seq ?_
    refine W_region ?_
    refine WO_step 4 [0, 1] [0, 1, 5, 14] (True ∧ (True ∧ True)) ⟨[(0, .one (.e (.sl 0 0 x1.length))), (1, .one (.e (.sl 1 0 x2.length))), (5, I i57), (14, B (decide (i57 < ((x1.length : Nat) : Int))))], [.row .int x1 false, .row .int x2 false]⟩ (by kernel_rfl) ⟨trivial, trivial, trivial⟩ ?_
    refine WO_nil rfl ?_
    refine thenS_n ?_
    refine iteO_e h (fun hb71 h => W_true rfl hb71 ?_) (fun hb71 h => W_false rfl hb71 ?_)
    · refine W_sub [0, 1] [0, 1, 5] (st' := ⟨[(0, .one (.e (.sl 0 0 x1.length))), (1, .one (.e (.sl 1 0 x2.length))), (5, I i57)], [.row .int x1 false, .row .int x2 false]⟩) (by kernel_rfl) ?_
      refine W_skip ?_
      refine thenS_n ?_
      refine W_seq ?_
      refine W_block ?_
      refine W_seq ?_
      refine guardO_e h (fun hg76 h => ?_)
      refine guardO_e h (fun hg77 h => ?_)
      refine W_cut (Q' := fun (e : Exit) (s : St) => e = .normal ∧ s = ⟨[(0, .one (.e (.sl 0 0 x1.length))), (1, .one (.e (.sl 1 0 x2.length))), (5, I i57), (25, B (!decide ((x1.getD i57.toNat 0) = (x2.getD i57.toNat 0))))], [.row .int x1 false, .row .int x2 false]⟩) ?_ ?_
      · refine W_draw [] true (by kernel_rfl) (by kernel_rfl) ?_
        refine WD_takeK [0, 1, 2, 3, 4, 5, 6, 7, 8] [0, 1, 5, 25] [0, 1, 5, 25] (φ := ((0 ≤ i57 ∧ i57 < ((x1.length : Nat) : Int)) ∧ (0 ≤ i57 ∧ i57 < ((x1.length : Nat) : Int)) ∧ (True ∧ True ∧ ((0 ≤ i57 ∧ i57 < ((x2.length : Nat) : Int)) ∧ (0 ≤ i57 ∧ i57 < ((x2.length : Nat) : Int)) ∧ (True ∧ True ∧ (True ∧ True ∧ True)))))) (ls' := #[true, true, true, true, true, true, true, true, true]) (Ts' := [(0, .one (.e (.sl 0 0 x1.length))), (1, .one (.e (.sl 1 0 x2.length))), (5, I i57), (25, B (!decide ((x1.getD i57.toNat 0) = (x2.getD i57.toNat 0))))]) (st' := ⟨[(0, .one (.e (.sl 0 0 x1.length))), (1, .one (.e (.sl 1 0 x2.length))), (5, I i57), (25, B (!decide ((x1.getD i57.toNat 0) = (x2.getD i57.toNat 0))))], [.row .int x1 false, .row .int x2 false]⟩) (n2 := 0) (by kernel_rfl) ⟨hg76, hg76, trivial, trivial, hg77, hg77, trivial, trivial, trivial, trivial, trivial⟩ rfl ?_
        exact WD_done [0, 1] [0, 1, 5, 25] (st' := ⟨[(0, .one (.e (.sl 0 0 x1.length))), (1, .one (.e (.sl 1 0 x2.length))), (5, I i57), (25, B (!decide ((x1.getD i57.toNat 0) = (x2.getD i57.toNat 0))))], [.row .int x1 false, .row .int x2 false]⟩) (by kernel_rfl) (by kernel_rfl) (And.intro rfl rfl)
      · rintro _ _ ⟨rfl, rfl⟩
        refine thenS_n ?_
        refine iteO_e h (fun hb79 h => W_true rfl hb79 ?_) (fun hb79 h => W_false rfl hb79 ?_)
        · refine W_seq ?_
          refine W_region ?_
          refine WO_step 1 [0, 1] [4] True ⟨[(4, B false)], [.row .int x1 false, .row .int x2 false]⟩ (by kernel_rfl) trivial ?_
          refine WO_nil rfl ?_
          refine thenS_n ?_
          refine W_ret ?_
          refine blockS_r ?_
          refine thenS_r ?_
          refine thenS_r ?_
          cases h
          exact And.intro rfl rfl
        · refine W_sub [0, 1] [0, 1, 5] (st' := ⟨[(0, .one (.e (.sl 0 0 x1.length))), (1, .one (.e (.sl 1 0 x2.length))), (5, I i57)], [.row .int x1 false, .row .int x2 false]⟩) (by kernel_rfl) ?_
          refine W_skip ?_
          refine blockS_n ?_
          refine thenS_n ?_
          refine W_region ?_
          refine WO_step 3 [0, 1] [0, 1, 5] (True ∧ True) ⟨[(0, .one (.e (.sl 0 0 x1.length))), (1, .one (.e (.sl 1 0 x2.length))), (5, I (w64 (i57 + 1)))], [.row .int x1 false, .row .int x2 false]⟩ (by kernel_rfl) ⟨trivial, trivial⟩ ?_
          refine WO_nil rfl ?_
          refine thenS_n ?_
          exact ih _ h
    · refine W_sub [0, 1] [] (st' := ⟨[], [.row .int x1 false, .row .int x2 false]⟩) (by kernel_rfl) ?_
      refine W_exit ?_
      refine thenS_e ?_
      refine thenS_e ?_
      cases h
      exact And.intro rfl rfl

def laws_equalInts (n : Nat) (x1 : List Int) (x2 : List Int) : Option (Bool) :=
 iteO (!decide (((x1.length : Nat) : Int) = ((x2.length : Nat) : Int)))
 (some false)
 (bindO (laws_equalInts_L1 x1 x2 n 0) fun v80 =>
 match v80 with
 | (.inl _) => (some false)
 | (.inr _) => (some true)
)

theorem laws_equalInts_ok (n : Nat) (x1 : List Int) (x2 : List Int) (b41 : Bool) (h : laws_equalInts n x1 x2 = some b41) : FOk EE 17 [.one (.e (.sl 0 0 x1.length)), .one (.e (.sl 1 0 x2.length))] [.row .int x1 false, .row .int x2 false] (B b41) [.row .int x1 false, .row .int x2 false] := by
  unfold laws_equalInts at h
  refine FOk_of_W 26 2 Try.func17 rfl rfl (Nat.le_of_ble_eq_true rfl) rfl (fun w X θ => ?_)
  refine W_seq ?_
  refine W_region ?_
  refine WO_step 1 [0, 1] [0, 1] True ⟨[(0, .one (.e (.sl 0 0 x1.length))), (1, .one (.e (.sl 1 0 x2.length)))], [.row .int x1 false, .row .int x2 false]⟩ (by kernel_rfl) trivial ?_
  refine WO_nil rfl ?_
  refine thenS_n ?_
  refine W_seq ?_
  refine W_seq ?_
  refine W_region ?_
  refine WO_step 5 [0, 1] [0, 1, 10] (True ∧ (True ∧ (True ∧ True))) ⟨[(0, .one (.e (.sl 0 0 x1.length))), (1, .one (.e (.sl 1 0 x2.length))), (10, B (!decide (((x1.length : Nat) : Int) = ((x2.length : Nat) : Int))))], [.row .int x1 false, .row .int x2 false]⟩ (by kernel_rfl) ⟨trivial, trivial, trivial, trivial⟩ ?_
  refine WO_nil rfl ?_
  refine thenS_n ?_
  refine iteO_e h (fun hb43 h => W_true rfl hb43 ?_) (fun hb43 h => W_false rfl hb43 ?_)
  · refine W_seq ?_
    refine W_region ?_
    refine WO_step 1 [0, 1] [4] True ⟨[(4, B false)], [.row .int x1 false, .row .int x2 false]⟩ (by kernel_rfl) trivial ?_
    refine WO_nil rfl ?_
    refine thenS_n ?_
    refine W_ret ?_
    refine thenS_r ?_
    cases h
    exact ⟨[0, 1], True, by kernel_rfl, trivial⟩
  · refine W_sub [0, 1] [0, 1] (st' := ⟨[(0, .one (.e (.sl 0 0 x1.length))), (1, .one (.e (.sl 1 0 x2.length)))], [.row .int x1 false, .row .int x2 false]⟩) (by kernel_rfl) ?_
    refine W_skip ?_
    refine thenS_n ?_
    refine W_seq ?_
    refine W_seq ?_
    refine W_region ?_
    refine WO_step 1 [0, 1] [0, 1, 5] True ⟨[(0, .one (.e (.sl 0 0 x1.length))), (1, .one (.e (.sl 1 0 x2.length))), (5, I 0)], [.row .int x1 false, .row .int x2 false]⟩ (by kernel_rfl) trivial ?_
    refine WO_nil rfl ?_
    refine thenS_n ?_
    refine W_block ?_
    refine W_loop ?_
    refine bindO_e h (fun v80 hv80 h => ?_)
    refine WL_cut (laws_equalInts_L1_ok w X θ x1 x2 v80 n 0 hv80) ?_
    rcases v80 with _ | _
    · rintro _ _ ⟨rfl, rfl⟩
      refine blockS_r ?_
      refine thenS_r ?_
      cases h
      exact ⟨[0, 1], True, by kernel_rfl, trivial⟩
    · rintro _ _ ⟨rfl, rfl⟩
      refine blockS_y ?_
      refine thenS_n ?_
      refine W_seq ?_
      refine W_region ?_
      refine WO_step 1 [0, 1] [4] True ⟨[(4, B true)], [.row .int x1 false, .row .int x2 false]⟩ (by kernel_rfl) trivial ?_
      refine WO_nil rfl ?_
      refine thenS_n ?_
      refine W_ret ?_
      cases h
      exact ⟨[0, 1], True, by kernel_rfl, trivial⟩

/- laws.FnReadsFromWrites -/
def laws_FnReadsFromWrites_L1 (x73 : List Acc) (i74 : Int) (x1 : List Int) : Nat → (List Acc) → Int → Option ((List Acc))
| 0, _, _ => none
| n + 1, x114, i115 =>
 iteO (decide (i115 < ((x73.length : Nat) : Int)))
 (guardO (0 ≤ i115 ∧ i115 < ((x73.length : Nat) : Int)) <|
 guardO (0 ≤ i115 ∧ i115 < ((x73.length : Nat) : Int)) <|
 guardO (0 = 0 ∧ x114.length = x114.length ∧ x114.length + (([(⟨(x73.getD i115.toNat dacc).who, (x73.getD i115.toNat dacc).node, true⟩ : Acc)].drop 0).take ([(⟨(x73.getD i115.toNat dacc).who, (x73.getD i115.toNat dacc).node, true⟩ : Acc)].length)).length ≤ 1099511627776) <|
 laws_FnReadsFromWrites_L1 x73 i74 x1 n (x114 ++ (([(⟨(x73.getD i115.toNat dacc).who, (x73.getD i115.toNat dacc).node, true⟩ : Acc)].drop 0).take ([(⟨(x73.getD i115.toNat dacc).who, (x73.getD i115.toNat dacc).node, true⟩ : Acc)].length))) (w64 (i115 + 1)))
 (some x114)

theorem laws_FnReadsFromWrites_L1_ok (w : World) (X : Nat → Prop) (θ : List Loc) (x73 : List Acc) (i74 : Int) (x1 : List Int) (x126 : (List Acc)) : ∀ (n : Nat) (x114 : List Acc) (i115 : Int), laws_FnReadsFromWrites_L1 x73 i74 x1 n x114 i115 = some x126 → WL EE ⟨w, X, θ, 61, 1⟩ (subC [1, 1, 1, 1, 1, 1, 0, 1, 4, 4] (bodyC Try.f3)) (fun (e : Exit) (s : St) => e = .exit 0 ∧ s = ⟨[(4, I i74), (6, .one (.e (.sl 1 0 x126.length)))], [.row .u8 x1 false, .row .acc x126 true]⟩) ⟨[(3, .one (.e (.sl 1 0 x73.length))), (4, I i74), (6, .one (.e (.sl 2 0 x114.length))), (7, I i115)], [.row .u8 x1 false, .row .acc x73 true, .row .acc x114 true]⟩ := by
  intro n
  induction n with
  | zero => intro _ _ h; exact none_e h
  | succ n ih =>
    intro x114 i115 h
    rw [laws_FnReadsFromWrites_L1] at h
    refine WL_round ?_
    refine W_seq ?_
    refine W_seq ?_
    refine W_region ?_
    refine WO_step 4 [0, 1, 2] [3, 4, 6, 7, 39] (True ∧ (True ∧ True)) ⟨[(3, .one (.e (.sl 1 0 x73.length))), (4, I i74), (6, .one (.e (.sl 2 0 x114.length))), (7, I i115), (39, B (decide (i115 < ((x73.length : Nat) : Int))))], [.row .u8 x1 false, .row .acc x73 true, .row .acc x114 true]⟩ (by kernel_rfl) ⟨trivial, trivial, trivial⟩ ?_
    refine WO_nil rfl ?_
    refine thenS_n ?_
    refine iteO_e h (fun hb129 h => W_true rfl hb129 ?_) (fun hb129 h => W_false rfl hb129 ?_)
    · refine W_sub [0, 1, 2] [3, 4, 6, 7] (st' := ⟨[(3, .one (.e (.sl 1 0 x73.length))), (4, I i74), (6, .one (.e (.sl 2 0 x114.length))), (7, I i115)], [.row .u8 x1 false, .row .acc x73 true, .row .acc x114 true]⟩) (by kernel_rfl) ?_
      refine W_skip ?_
      refine thenS_n ?_
      refine W_seq ?_
      refine W_block ?_
      refine guardO_e h (fun hg133 h => ?_)
      refine guardO_e h (fun hg134 h => ?_)
      refine guardO_e h (fun hg135 h => ?_)
      refine W_cut (Q' := fun (e : Exit) (s : St) => e = .normal ∧ s = ⟨[(3, .one (.e (.sl 1 0 x73.length))), (4, I i74), (6, .one (.e (.sl 2 0 ((x114 ++ (([(⟨(x73.getD i115.toNat dacc).who, (x73.getD i115.toNat dacc).node, true⟩ : Acc)].drop 0).take ([(⟨(x73.getD i115.toNat dacc).who, (x73.getD i115.toNat dacc).node, true⟩ : Acc)].length))).length)))), (7, I i115)], [.row .u8 x1 false, .row .acc x73 true, .row .acc (x114 ++ (([(⟨(x73.getD i115.toNat dacc).who, (x73.getD i115.toNat dacc).node, true⟩ : Acc)].drop 0).take ([(⟨(x73.getD i115.toNat dacc).who, (x73.getD i115.toNat dacc).node, true⟩ : Acc)].length))) true]⟩) ?_ ?_
      · refine W_draw [2] false (by kernel_rfl) (by kernel_rfl) ?_
        refine WD_takeK [0, 1, 2, 3, 4, 5, 6, 7, 8, 9, 10, 11] [3, 4, 6, 7, 42, 53] [3, 4, 6, 7, 42, 53] (φ := ((0 ≤ i115 ∧ i115 < ((x73.length : Nat) : Int)) ∧ (0 ≤ i115 ∧ i115 < ((x73.length : Nat) : Int)) ∧ (True ∧ True ∧ ((0 ≤ i115 ∧ i115 < ((x73.length : Nat) : Int)) ∧ (0 ≤ i115 ∧ i115 < ((x73.length : Nat) : Int)) ∧ (True ∧ True ∧ True))))) (ls' := #[true, true, true, true, true, true, true, true, true, true, true, true, false, false, false]) (Ts' := [(3, .one (.e (.sl 1 0 x73.length))), (4, I i74), (6, .one (.e (.sl 2 0 x114.length))), (7, I i115), (42, .one (.e (.sl 2 0 x114.length))), (53, AGG [cI ((x73.getD i115.toNat dacc).who), cI ((x73.getD i115.toNat dacc).node), cB true])]) (st' := ⟨[(3, .one (.e (.sl 1 0 x73.length))), (4, I i74), (6, .one (.e (.sl 2 0 x114.length))), (7, I i115), (42, .one (.e (.sl 2 0 x114.length))), (53, AGG [cI ((x73.getD i115.toNat dacc).who), cI ((x73.getD i115.toNat dacc).node), cB true])], [.row .u8 x1 false, .row .acc x73 true, .row .acc x114 true]⟩) (n2 := 3) (by kernel_rfl) ⟨hg133, hg133, trivial, trivial, hg134, hg134, trivial, trivial, trivial⟩ rfl ?_
        refine WD_all [12] (n := 2) (by kernel_rfl) rfl ?_
        refine WM_op (φ := True) (v := .one (.e (.sl 3 0 ([(⟨(x73.getD i115.toNat dacc).who, (x73.getD i115.toNat dacc).node, true⟩ : Acc)].length)))) (H' := [.row .u8 x1 false, .row .acc x73 true, .row .acc x114 true, .row .acc [(⟨(x73.getD i115.toNat dacc).who, (x73.getD i115.toNat dacc).node, true⟩ : Acc)] true]) rfl rfl (by kernel_rfl) trivial rfl (And.intro rfl (And.intro rfl (trivial))) ?_
        refine WD_all [13] (n := 1) (by kernel_rfl) rfl ?_
        refine WM_op (φ := 0 = 0 ∧ x114.length = x114.length ∧ x114.length + (([(⟨(x73.getD i115.toNat dacc).who, (x73.getD i115.toNat dacc).node, true⟩ : Acc)].drop 0).take ([(⟨(x73.getD i115.toNat dacc).who, (x73.getD i115.toNat dacc).node, true⟩ : Acc)].length)).length ≤ 1099511627776) (v := .one (.e (.sl 4 0 ((x114 ++ (([(⟨(x73.getD i115.toNat dacc).who, (x73.getD i115.toNat dacc).node, true⟩ : Acc)].drop 0).take ([(⟨(x73.getD i115.toNat dacc).who, (x73.getD i115.toNat dacc).node, true⟩ : Acc)].length))).length)))) (H' := [.row .u8 x1 false, .row .acc x73 true, .dead, .row .acc [(⟨(x73.getD i115.toNat dacc).who, (x73.getD i115.toNat dacc).node, true⟩ : Acc)] true, .row .acc (x114 ++ (([(⟨(x73.getD i115.toNat dacc).who, (x73.getD i115.toNat dacc).node, true⟩ : Acc)].drop 0).take ([(⟨(x73.getD i115.toNat dacc).who, (x73.getD i115.toNat dacc).node, true⟩ : Acc)].length))) true]) rfl rfl (by kernel_rfl) hg135 rfl (And.intro rfl (And.intro rfl (trivial))) ?_
        refine WD_all [14] (n := 0) (by kernel_rfl) rfl ?_
        refine WM_op (φ := True) (v := .one (.e (.sl 4 0 ((x114 ++ (([(⟨(x73.getD i115.toNat dacc).who, (x73.getD i115.toNat dacc).node, true⟩ : Acc)].drop 0).take ([(⟨(x73.getD i115.toNat dacc).who, (x73.getD i115.toNat dacc).node, true⟩ : Acc)].length))).length)))) (H' := [.row .u8 x1 false, .row .acc x73 true, .dead, .row .acc [(⟨(x73.getD i115.toNat dacc).who, (x73.getD i115.toNat dacc).node, true⟩ : Acc)] true, .row .acc (x114 ++ (([(⟨(x73.getD i115.toNat dacc).who, (x73.getD i115.toNat dacc).node, true⟩ : Acc)].drop 0).take ([(⟨(x73.getD i115.toNat dacc).who, (x73.getD i115.toNat dacc).node, true⟩ : Acc)].length))) true]) rfl rfl (by kernel_rfl) trivial rfl (And.intro rfl (And.intro rfl (trivial))) ?_
        exact WD_done [0, 1, 4] [3, 4, 6, 7] (st' := ⟨[(3, .one (.e (.sl 1 0 x73.length))), (4, I i74), (6, .one (.e (.sl 2 0 ((x114 ++ (([(⟨(x73.getD i115.toNat dacc).who, (x73.getD i115.toNat dacc).node, true⟩ : Acc)].drop 0).take ([(⟨(x73.getD i115.toNat dacc).who, (x73.getD i115.toNat dacc).node, true⟩ : Acc)].length))).length)))), (7, I i115)], [.row .u8 x1 false, .row .acc x73 true, .row .acc (x114 ++ (([(⟨(x73.getD i115.toNat dacc).who, (x73.getD i115.toNat dacc).node, true⟩ : Acc)].drop 0).take ([(⟨(x73.getD i115.toNat dacc).who, (x73.getD i115.toNat dacc).node, true⟩ : Acc)].length))) true]⟩) (by kernel_rfl) (by kernel_rfl) (And.intro rfl rfl)
      · rintro _ _ ⟨rfl, rfl⟩
        refine blockS_n ?_
        refine thenS_n ?_
        refine W_region ?_
        refine WO_step 3 [0, 1, 2] [3, 4, 6, 7] (True ∧ True) ⟨[(3, .one (.e (.sl 1 0 x73.length))), (4, I i74), (6, .one (.e (.sl 2 0 ((x114 ++ (([(⟨(x73.getD i115.toNat dacc).who, (x73.getD i115.toNat dacc).node, true⟩ : Acc)].drop 0).take ([(⟨(x73.getD i115.toNat dacc).who, (x73.getD i115.toNat dacc).node, true⟩ : Acc)].length))).length)))), (7, I (w64 (i115 + 1)))], [.row .u8 x1 false, .row .acc x73 true, .row .acc (x114 ++ (([(⟨(x73.getD i115.toNat dacc).who, (x73.getD i115.toNat dacc).node, true⟩ : Acc)].drop 0).take ([(⟨(x73.getD i115.toNat dacc).who, (x73.getD i115.toNat dacc).node, true⟩ : Acc)].length))) true]⟩ (by kernel_rfl) ⟨trivial, trivial⟩ ?_
        refine WO_nil rfl ?_
        refine thenS_n ?_
        exact ih _ _ h
    · refine W_sub [0, 2] [4, 6] (st' := ⟨[(4, I i74), (6, .one (.e (.sl 1 0 x114.length)))], [.row .u8 x1 false, .row .acc x114 true]⟩) (by kernel_rfl) ?_
      refine W_exit ?_
      refine thenS_e ?_
      refine thenS_e ?_
      cases h
      exact And.intro rfl rfl

def laws_FnReadsFromWrites (n : Nat) (x1 : List Int) : Option (Bool) :=
 iteO (decide (1048576 < ((x1.length : Nat) : Int)))
 (some true)
 (bindO (spec_DrawReadsFrom n x1) fun (x73, i74) =>
 bindO (impl_ReadsFrom n x73 i74) fun x76 =>
 bindO (spec_ReadsFrom n x73 i74) fun x78 =>
 bindO (laws_equalInts n x76 x78) fun b80 =>
 bindO (iteO (!b80)
 (some true)
 (bindO (impl_ValidAccesses n x73) fun b88 =>
 some (!b88))) fun b85 =>
 iteO b85
 (bindO (spec_ReadsFrom n x73 i74) fun x96 =>
 bindO (laws_equalInts n x76 x96) fun b98 =>
 some b98)
 (bindO (laws_FnReadsFromWrites_L1 x73 i74 x1 n ([] : List Acc) 0) fun x126 =>
 bindO (impl_ReadsFrom n x126 i74) fun x137 =>
 some (decide (((x137.length : Nat) : Int) = 0))))

theorem laws_FnReadsFromWrites_ok (n : Nat) (x1 : List Int) (b70 : Bool) (h : laws_FnReadsFromWrites n x1 = some b70) : FOk EE 3 [.one (.e (.sl 0 0 x1.length))] [.row .u8 x1 false] (B b70) [.row .u8 x1 false] := by
  unfold laws_FnReadsFromWrites at h
  refine FOk_of_W 61 1 Try.func3 rfl rfl (Nat.le_of_ble_eq_true rfl) rfl (fun w X θ => ?_)
  refine W_seq ?_
  refine W_region ?_
  refine WO_step 1 [0] [0] True ⟨[(0, .one (.e (.sl 0 0 x1.length)))], [.row .u8 x1 false]⟩ (by kernel_rfl) trivial ?_
  refine WO_nil rfl ?_
  refine thenS_n ?_
  refine W_seq ?_
  refine W_seq ?_
  refine W_region ?_
  refine WO_step 3 [0] [0, 10] (True ∧ (True ∧ True)) ⟨[(0, .one (.e (.sl 0 0 x1.length))), (10, B (decide (1048576 < ((x1.length : Nat) : Int))))], [.row .u8 x1 false]⟩ (by kernel_rfl) ⟨trivial, trivial, trivial⟩ ?_
  refine WO_nil rfl ?_
  refine thenS_n ?_
  refine iteO_e h (fun hb72 h => W_true rfl hb72 ?_) (fun hb72 h => W_false rfl hb72 ?_)
  · refine W_seq ?_
    refine W_region ?_
    refine WO_step 1 [0] [2] True ⟨[(2, B true)], [.row .u8 x1 false]⟩ (by kernel_rfl) trivial ?_
    refine WO_nil rfl ?_
    refine thenS_n ?_
    refine W_ret ?_
    refine thenS_r ?_
    cases h
    exact ⟨[0], True, by kernel_rfl, trivial⟩
  · refine W_sub [0] [0] (st' := ⟨[(0, .one (.e (.sl 0 0 x1.length)))], [.row .u8 x1 false]⟩) (by kernel_rfl) ?_
    refine W_skip ?_
    refine thenS_n ?_
    refine W_seq ?_
    refine W_region ?_
    refine WO_step 1 [0] [12] True ⟨[(12, .one (.e (.sl 0 0 x1.length)))], [.row .u8 x1 false]⟩ (by kernel_rfl) trivial ?_
    refine bindO_e h (fun v139 hc75 h => ?_)
    obtain ⟨x73, i74⟩ := v139
    refine WO_call [.ro 0] Try.f15 rfl rfl rfl (by kernel_rfl) rfl rfl (by kernel_rfl) (spec_DrawReadsFrom_ok n x1 x73 i74 hc75) (And.intro (And.intro rfl rfl) (trivial)) rfl ?_
    refine WO_step 5 [0, 1] [3, 4] True ⟨[(3, .one (.e (.sl 1 0 x73.length))), (4, I i74)], [.row .u8 x1 false, .row .acc x73 true]⟩ (by kernel_rfl) trivial ?_
    refine WO_nil rfl ?_
    refine thenS_n ?_
    refine W_seq ?_
    refine W_region ?_
    refine WO_step 2 [0, 1] [3, 4, 16, 17] True ⟨[(3, .one (.e (.sl 1 0 x73.length))), (4, I i74), (16, .one (.e (.sl 1 0 x73.length))), (17, I i74)], [.row .u8 x1 false, .row .acc x73 true]⟩ (by kernel_rfl) trivial ?_
    refine bindO_e h (fun x76 hc77 h => ?_)
    refine WO_call [.ro 1] Try.f16 rfl rfl rfl (by kernel_rfl) rfl rfl (by kernel_rfl) (impl_ReadsFrom_ok n x73 i74 x76 hc77) (And.intro (And.intro rfl rfl) (trivial)) rfl ?_
    refine WO_step 1 [0, 1, 2] [3, 4, 5] True ⟨[(3, .one (.e (.sl 1 0 x73.length))), (4, I i74), (5, .one (.e (.sl 2 0 x76.length)))], [.row .u8 x1 false, .row .acc x73 true, .row .int x76 true]⟩ (by kernel_rfl) trivial ?_
    refine WO_nil rfl ?_
    refine thenS_n ?_
    refine W_seq ?_
    refine W_seq ?_
    refine W_region ?_
    refine WO_step 3 [0, 1, 2] [3, 4, 5, 19, 20, 21] True ⟨[(3, .one (.e (.sl 1 0 x73.length))), (4, I i74), (5, .one (.e (.sl 2 0 x76.length))), (19, .one (.e (.sl 2 0 x76.length))), (20, .one (.e (.sl 1 0 x73.length))), (21, I i74)], [.row .u8 x1 false, .row .acc x73 true, .row .int x76 true]⟩ (by kernel_rfl) trivial ?_
    refine bindO_e h (fun x78 hc79 h => ?_)
    refine WO_call [.ro 1] Try.f18 rfl rfl rfl (by kernel_rfl) rfl rfl (by kernel_rfl) (spec_ReadsFrom_ok n x73 i74 x78 hc79) (And.intro (And.intro rfl rfl) (trivial)) rfl ?_
    refine WO_sub [0, 1, 2, 3] [3, 4, 5, 19, 22] (st' := ⟨[(3, .one (.e (.sl 1 0 x73.length))), (4, I i74), (5, .one (.e (.sl 2 0 x76.length))), (19, .one (.e (.sl 2 0 x76.length))), (22, .one (.e (.sl 3 0 x78.length)))], [.row .u8 x1 false, .row .acc x73 true, .row .int x76 true, .row .int x78 true]⟩) (by kernel_rfl) ?_
    refine bindO_e h (fun b80 hc81 h => ?_)
    refine WO_call [.ro 2, .ro 3] Try.f17 rfl rfl rfl (by kernel_rfl) rfl rfl (by kernel_rfl) (laws_equalInts_ok n x76 x78 b80 hc81) (And.intro (And.intro rfl rfl) (And.intro (And.intro rfl rfl) (trivial))) rfl ?_
    refine WO_step 2 [0, 1, 2] [3, 4, 5, 25] True ⟨[(3, .one (.e (.sl 1 0 x73.length))), (4, I i74), (5, .one (.e (.sl 2 0 x76.length))), (25, B (!b80))], [.row .u8 x1 false, .row .acc x73 true, .row .int x76 true]⟩ (by kernel_rfl) trivial ?_
    refine bindO_e h (fun b85 hv86 h => ?_)
    refine WO_thru ⟨[(3, .one (.e (.sl 1 0 x73.length))), (4, I i74), (5, .one (.e (.sl 2 0 x76.length))), (29, B b85)], [.row .u8 x1 false, .row .acc x73 true, .row .int x76 true]⟩ ?_ ?_
    · refine iteO_e hv86 (fun hb87 hv86 => WO_known 25 true rfl hb87 ?_) (fun hb87 hv86 => WO_known 25 false rfl hb87 ?_)
      · refine WO_step 4 [0, 1, 2] [3, 4, 5, 29] True ⟨[(3, .one (.e (.sl 1 0 x73.length))), (4, I i74), (5, .one (.e (.sl 2 0 x76.length))), (29, B true)], [.row .u8 x1 false, .row .acc x73 true, .row .int x76 true]⟩ (by kernel_rfl) trivial ?_
        cases hv86
        exact WO_nil rfl ⟨rfl, rfl⟩
      · refine WO_step 1 [0, 1, 2] [3, 4, 5, 25, 26] True ⟨[(3, .one (.e (.sl 1 0 x73.length))), (4, I i74), (5, .one (.e (.sl 2 0 x76.length))), (25, B false), (26, .one (.e (.sl 1 0 x73.length)))], [.row .u8 x1 false, .row .acc x73 true, .row .int x76 true]⟩ (by kernel_rfl) trivial ?_
        refine bindO_e hv86 (fun b88 hc89 hv86 => ?_)
        refine WO_call [.ro 1] Try.f19 rfl rfl rfl (by kernel_rfl) rfl rfl (by kernel_rfl) (impl_ValidAccesses_ok n x73 b88 hc89) (And.intro (And.intro rfl rfl) (trivial)) rfl ?_
        refine WO_step 2 [0, 1, 2] [3, 4, 5, 29] True ⟨[(3, .one (.e (.sl 1 0 x73.length))), (4, I i74), (5, .one (.e (.sl 2 0 x76.length))), (29, B (!b88))], [.row .u8 x1 false, .row .acc x73 true, .row .int x76 true]⟩ (by kernel_rfl) trivial ?_
        cases hv86
        exact WO_nil rfl ⟨rfl, rfl⟩
    · refine thenS_n ?_
      refine iteO_e h (fun hb95 h => W_true rfl hb95 ?_) (fun hb95 h => W_false rfl hb95 ?_)
      · refine W_seq ?_
        refine W_region ?_
        refine WO_step 3 [0, 2, 1] [30, 31, 32] True ⟨[(30, .one (.e (.sl 1 0 x76.length))), (31, .one (.e (.sl 2 0 x73.length))), (32, I i74)], [.row .u8 x1 false, .row .int x76 true, .row .acc x73 true]⟩ (by kernel_rfl) trivial ?_
        refine bindO_e h (fun x96 hc97 h => ?_)
        refine WO_call [.ro 2] Try.f18 rfl rfl rfl (by kernel_rfl) rfl rfl (by kernel_rfl) (spec_ReadsFrom_ok n x73 i74 x96 hc97) (And.intro (And.intro rfl rfl) (trivial)) rfl ?_
        refine WO_sub [0, 1, 3] [30, 33] (st' := ⟨[(30, .one (.e (.sl 1 0 x76.length))), (33, .one (.e (.sl 2 0 x96.length)))], [.row .u8 x1 false, .row .int x76 true, .row .int x96 true]⟩) (by kernel_rfl) ?_
        refine bindO_e h (fun b98 hc99 h => ?_)
        refine WO_call [.ro 1, .ro 2] Try.f17 rfl rfl rfl (by kernel_rfl) rfl rfl (by kernel_rfl) (laws_equalInts_ok n x76 x96 b98 hc99) (And.intro (And.intro rfl rfl) (And.intro (And.intro rfl rfl) (trivial))) rfl ?_
        refine WO_step 1 [0] [2] True ⟨[(2, B b98)], [.row .u8 x1 false]⟩ (by kernel_rfl) trivial ?_
        refine WO_nil rfl ?_
        refine thenS_n ?_
        refine W_ret ?_
        refine thenS_r ?_
        cases h
        exact ⟨[0], True, by kernel_rfl, trivial⟩
      · refine W_sub [0, 1] [3, 4] (st' := ⟨[(3, .one (.e (.sl 1 0 x73.length))), (4, I i74)], [.row .u8 x1 false, .row .acc x73 true]⟩) (by kernel_rfl) ?_
        refine W_skip ?_
        refine thenS_n ?_
        refine W_seq ?_
        refine W_region ?_
        refine WO_step 2 [0, 1, 2] [3, 4, 6] True ⟨[(3, .one (.e (.sl 1 0 x73.length))), (4, I i74), (6, .one (.e (.sl 2 0 (([] : List Acc).length))))], [.row .u8 x1 false, .row .acc x73 true, .row .acc ([] : List Acc) true]⟩ (by kernel_rfl) trivial ?_
        refine WO_nil rfl ?_
        refine thenS_n ?_
        refine W_seq ?_
        refine W_seq ?_
        refine W_region ?_
        refine WO_step 1 [0, 1, 2] [3, 4, 6, 7] True ⟨[(3, .one (.e (.sl 1 0 x73.length))), (4, I i74), (6, .one (.e (.sl 2 0 (([] : List Acc).length)))), (7, I 0)], [.row .u8 x1 false, .row .acc x73 true, .row .acc ([] : List Acc) true]⟩ (by kernel_rfl) trivial ?_
        refine WO_nil rfl ?_
        refine thenS_n ?_
        refine W_block ?_
        refine W_loop ?_
        refine bindO_e h (fun x126 hx126 h => ?_)
        refine WL_cut (laws_FnReadsFromWrites_L1_ok w X θ x73 i74 x1 x126 n ([] : List Acc) 0 hx126) ?_
        rintro _ _ ⟨rfl, rfl⟩
        refine blockS_y ?_
        refine thenS_n ?_
        refine W_seq ?_
        refine W_region ?_
        refine WO_step 2 [0, 1] [56, 57] True ⟨[(56, .one (.e (.sl 1 0 x126.length))), (57, I i74)], [.row .u8 x1 false, .row .acc x126 true]⟩ (by kernel_rfl) trivial ?_
        refine bindO_e h (fun x137 hc138 h => ?_)
        refine WO_call [.ro 1] Try.f16 rfl rfl rfl (by kernel_rfl) rfl rfl (by kernel_rfl) (impl_ReadsFrom_ok n x126 i74 x137 hc138) (And.intro (And.intro rfl rfl) (trivial)) rfl ?_
        refine WO_step 3 [0] [2] (True ∧ (True ∧ True)) ⟨[(2, B (decide (((x137.length : Nat) : Int) = 0)))], [.row .u8 x1 false]⟩ (by kernel_rfl) ⟨trivial, trivial, trivial⟩ ?_
        refine WO_nil rfl ?_
        refine thenS_n ?_
        refine W_ret ?_
        cases h
        exact ⟨[0], True, by kernel_rfl, trivial⟩

/- laws.isIn -/
def laws_isIn_L1 (x1 : List Int) (i2 : Int) : Nat → Int → Option ((Unit) ⊕ (Unit))
| 0, _ => none
| n + 1, i45 =>
 iteO (decide (i45 < ((x1.length : Nat) : Int)))
 (guardO (0 ≤ i45 ∧ i45 < ((x1.length : Nat) : Int)) <|
 iteO (decide ((x1.getD i45.toNat 0) = i2))
 (some (.inl ()))
 (laws_isIn_L1 x1 i2 n (w64 (i45 + 1))))
 (some (.inr ()))

theorem laws_isIn_L1_ok (w : World) (X : Nat → Prop) (θ : List Loc) (x1 : List Int) (i2 : Int) (v : (Unit) ⊕ (Unit)) : ∀ (n : Nat) (i45 : Int), laws_isIn_L1 x1 i2 n i45 = some v → WL EE ⟨w, X, θ, 18, 1⟩ (subC [1, 0, 1, 4, 4] (bodyC Try.f20)) (fun (e : Exit) (s : St) => (match v with | (.inl _) => e = .ret ∧ s = ⟨[(4, B true)], [.row .int x1 false]⟩ | (.inr _) => e = .exit 0 ∧ s = ⟨[], [.row .int x1 false]⟩ : Prop)) ⟨[(0, .one (.e (.sl 0 0 x1.length))), (1, I i2), (5, I i45)], [.row .int x1 false]⟩ := by
  intro n
  induction n with
  | zero => intro _ h; exact none_e h
  | succ n ih =>
    intro i45 h
    rw [laws_isIn_L1] at h
    refine WL_round ?_
    refine W_seq ?_
    refine W_seq ?_
    refine W_region ?_
    refine WO_step 4 [0] [0, 1, 5, 9] (True ∧ (True ∧ True)) ⟨[(0, .one (.e (.sl 0 0 x1.length))), (1, I i2), (5, I i45), (9, B (decide (i45 < ((x1.length : Nat) : Int))))], [.row .int x1 false]⟩ (by kernel_rfl) ⟨trivial, trivial, trivial⟩ ?_
    refine WO_nil rfl ?_
    refine thenS_n ?_
    refine iteO_e h (fun hb57 h => W_true rfl hb57 ?_) (fun hb57 h => W_false rfl hb57 ?_)
    · refine W_sub [0] [0, 1, 5] (st' := ⟨[(0, .one (.e (.sl 0 0 x1.length))), (1, I i2), (5, I i45)], [.row .int x1 false]⟩) (by kernel_rfl) ?_
      refine W_skip ?_
      refine thenS_n ?_
      refine W_seq ?_
      refine W_block ?_
      refine W_seq ?_
      refine W_region ?_
      refine guardO_e h (fun hg61 h => ?_)
      refine WO_step 6 [0] [0, 1, 5, 17] ((0 ≤ i45 ∧ i45 < ((x1.length : Nat) : Int)) ∧ (True ∧ (True ∧ True))) ⟨[(0, .one (.e (.sl 0 0 x1.length))), (1, I i2), (5, I i45), (17, B (decide ((x1.getD i45.toNat 0) = i2)))], [.row .int x1 false]⟩ (by kernel_rfl) ⟨hg61, trivial, trivial, trivial⟩ ?_
      refine WO_nil rfl ?_
      refine thenS_n ?_
      refine iteO_e h (fun hb63 h => W_true rfl hb63 ?_) (fun hb63 h => W_false rfl hb63 ?_)
      · refine W_seq ?_
        refine W_region ?_
        refine WO_step 1 [0] [4] True ⟨[(4, B true)], [.row .int x1 false]⟩ (by kernel_rfl) trivial ?_
        refine WO_nil rfl ?_
        refine thenS_n ?_
        refine W_ret ?_
        refine blockS_r ?_
        refine thenS_r ?_
        refine thenS_r ?_
        cases h
        exact And.intro rfl rfl
      · refine W_sub [0] [0, 1, 5] (st' := ⟨[(0, .one (.e (.sl 0 0 x1.length))), (1, I i2), (5, I i45)], [.row .int x1 false]⟩) (by kernel_rfl) ?_
        refine W_skip ?_
        refine blockS_n ?_
        refine thenS_n ?_
        refine W_region ?_
        refine WO_step 3 [0] [0, 1, 5] (True ∧ True) ⟨[(0, .one (.e (.sl 0 0 x1.length))), (1, I i2), (5, I (w64 (i45 + 1)))], [.row .int x1 false]⟩ (by kernel_rfl) ⟨trivial, trivial⟩ ?_
        refine WO_nil rfl ?_
        refine thenS_n ?_
        exact ih _ h
    · refine W_sub [0] [] (st' := ⟨[], [.row .int x1 false]⟩) (by kernel_rfl) ?_
      refine W_exit ?_
      refine thenS_e ?_
      refine thenS_e ?_
      cases h
      exact And.intro rfl rfl

def laws_isIn (n : Nat) (x1 : List Int) (i2 : Int) : Option (Bool) :=
 bindO (laws_isIn_L1 x1 i2 n 0) fun v64 =>
 match v64 with
 | (.inl _) => (some true)
 | (.inr _) => (some false)


theorem laws_isIn_ok (n : Nat) (x1 : List Int) (i2 : Int) (b33 : Bool) (h : laws_isIn n x1 i2 = some b33) : FOk EE 20 [.one (.e (.sl 0 0 x1.length)), I i2] [.row .int x1 false] (B b33) [.row .int x1 false] := by
  unfold laws_isIn at h
  refine FOk_of_W 18 1 Try.func20 rfl rfl (Nat.le_of_ble_eq_true rfl) rfl (fun w X θ => ?_)
  refine W_seq ?_
  refine W_region ?_
  refine WO_step 1 [0] [0, 1] True ⟨[(0, .one (.e (.sl 0 0 x1.length))), (1, I i2)], [.row .int x1 false]⟩ (by kernel_rfl) trivial ?_
  refine WO_nil rfl ?_
  refine thenS_n ?_
  refine W_seq ?_
  refine W_seq ?_
  refine W_region ?_
  refine WO_step 1 [0] [0, 1, 5] True ⟨[(0, .one (.e (.sl 0 0 x1.length))), (1, I i2), (5, I 0)], [.row .int x1 false]⟩ (by kernel_rfl) trivial ?_
  refine WO_nil rfl ?_
  refine thenS_n ?_
  refine W_block ?_
  refine W_loop ?_
  refine bindO_e h (fun v64 hv64 h => ?_)
  refine WL_cut (laws_isIn_L1_ok w X θ x1 i2 v64 n 0 hv64) ?_
  rcases v64 with _ | _
  · rintro _ _ ⟨rfl, rfl⟩
    refine blockS_r ?_
    refine thenS_r ?_
    cases h
    exact ⟨[0], True, by kernel_rfl, trivial⟩
  · rintro _ _ ⟨rfl, rfl⟩
    refine blockS_y ?_
    refine thenS_n ?_
    refine W_seq ?_
    refine W_region ?_
    refine WO_step 1 [0] [4] True ⟨[(4, B false)], [.row .int x1 false]⟩ (by kernel_rfl) trivial ?_
    refine WO_nil rfl ?_
    refine thenS_n ?_
    refine W_ret ?_
    cases h
    exact ⟨[0], True, by kernel_rfl, trivial⟩

/- laws.FnReadsFrom -/
def laws_FnReadsFrom_L3 (x2054 : List Acc) (i2055 : Int) (x2057 : List Int) (i2693 : Int) (i3771 : Int) (x1 : List Int) : Nat → Bool → Int → Option (Bool)
| 0, _, _ => none
| n + 1, b4032, i4033 =>
 iteO (decide (i4033 < ((x2054.length : Nat) : Int)))
 (bindO (iteO b4032
 (some true)
 (guardO (0 ≤ i3771 ∧ i3771 < ((x2054.length : Nat) : Int)) <|
 guardO (0 ≤ i2693 ∧ i2693 < ((x2057.length : Nat) : Int)) <|
 iteO (decide (((x2054.getD i3771.toNat dacc).who) = (x2057.getD i2693.toNat 0)))
 (guardO (0 ≤ i3771 ∧ i3771 < ((x2054.length : Nat) : Int)) <|
 iteO ((x2054.getD i3771.toNat dacc).write)
 (guardO (0 ≤ i4033 ∧ i4033 < ((x2054.length : Nat) : Int)) <|
 iteO (decide (((x2054.getD i4033.toNat dacc).who) = i2055))
 (guardO (0 ≤ i4033 ∧ i4033 < ((x2054.length : Nat) : Int)) <|
 iteO (!(x2054.getD i4033.toNat dacc).write)
 (guardO (0 ≤ i3771 ∧ i3771 < ((x2054.length : Nat) : Int)) <|
 guardO (0 ≤ i4033 ∧ i4033 < ((x2054.length : Nat) : Int)) <|
 some (decide (((x2054.getD i3771.toNat dacc).node) = ((x2054.getD i4033.toNat dacc).node))))
 (some false))
 (some false))
 (some false))
 (some false))) fun b4096 =>
 laws_FnReadsFrom_L3 x2054 i2055 x2057 i2693 i3771 x1 n b4096 (w64 (i4033 + 1)))
 (some b4032)

theorem laws_FnReadsFrom_L3_ok (w : World) (X : Nat → Prop) (θ : List Loc) (x2054 : List Acc) (i2055 : Int) (x2057 : List Int) (i2693 : Int) (i3771 : Int) (x1 : List Int) (b4066 : Bool) : ∀ (n : Nat) (b4032 : Bool) (i4033 : Int), laws_FnReadsFrom_L3 x2054 i2055 x2057 i2693 i3771 x1 n b4032 i4033 = some b4066 → WL EE ⟨w, X, θ, 113, 1⟩ (subC [1, 1, 1, 1, 1, 0, 1, 4, 4, 1, 0, 4, 1, 0, 1, 4, 4, 1, 0, 4, 1, 4, 4] (bodyC Try.f4)) (fun (e : Exit) (s : St) => e = .exit 4 ∧ s = ⟨[(3, .one (.e (.sl 1 0 x2054.length))), (4, I i2055), (5, .one (.e (.sl 2 0 x2057.length))), (6, I i2693), (7, B b4066), (8, I i3771)], [.row .u8 x1 false, .row .acc x2054 true, .row .int x2057 true]⟩) ⟨[(3, .one (.e (.sl 1 0 x2054.length))), (4, I i2055), (5, .one (.e (.sl 2 0 x2057.length))), (6, I i2693), (7, B b4032), (8, I i3771), (9, I i4033)], [.row .u8 x1 false, .row .acc x2054 true, .row .int x2057 true]⟩ := by
  intro n
  induction n with
  | zero => intro _ _ h; exact none_e h
  | succ n ih =>
    intro b4032 i4033 h
    rw [laws_FnReadsFrom_L3] at h
    refine WL_round ?_
    refine W_seq ?_
    refine W_seq ?_
    refine W_region ?_
    refine WO_step 4 [0, 1, 2] [3, 4, 5, 6, 7, 8, 9, 54] (True ∧ (True ∧ True)) ⟨[(3, .one (.e (.sl 1 0 x2054.length))), (4, I i2055), (5, .one (.e (.sl 2 0 x2057.length))), (6, I i2693), (7, B b4032), (8, I i3771), (9, I i4033), (54, B (decide (i4033 < ((x2054.length : Nat) : Int))))], [.row .u8 x1 false, .row .acc x2054 true, .row .int x2057 true]⟩ (by kernel_rfl) ⟨trivial, trivial, trivial⟩ ?_
    refine WO_nil rfl ?_
    refine thenS_n ?_
    refine iteO_e h (fun hb4069 h => W_true rfl hb4069 ?_) (fun hb4069 h => W_false rfl hb4069 ?_)
    · refine W_sub [0, 1, 2] [3, 4, 5, 6, 7, 8, 9] (st' := ⟨[(3, .one (.e (.sl 1 0 x2054.length))), (4, I i2055), (5, .one (.e (.sl 2 0 x2057.length))), (6, I i2693), (7, B b4032), (8, I i3771), (9, I i4033)], [.row .u8 x1 false, .row .acc x2054 true, .row .int x2057 true]⟩) (by kernel_rfl) ?_
      refine W_skip ?_
      refine thenS_n ?_
      refine W_seq ?_
      refine W_block ?_
      refine bindO_e h (fun b4096 hv4097 h => ?_)
      refine W_cut (Q' := fun (e : Exit) (s : St) => e = .normal ∧ s = ⟨[(3, .one (.e (.sl 1 0 x2054.length))), (4, I i2055), (5, .one (.e (.sl 2 0 x2057.length))), (6, I i2693), (7, B b4096), (8, I i3771), (9, I i4033)], [.row .u8 x1 false, .row .acc x2054 true, .row .int x2057 true]⟩) ?_ ?_
      · refine iteO_e hv4097 (fun hb4084 hv4097 => ?_) (fun hb4084 hv4097 => ?_)
        · refine W_draw [] true (by kernel_rfl) (by kernel_rfl) ?_
          refine WD_takeK [0, 1] [3, 4, 5, 6, 7, 8, 9, 58] [3, 4, 5, 6, 7, 8, 9, 58] (φ := True) (ls' := #[true, true, false, false, false, false, false, false, false, false, false, false, false, false, false, false, false, false, false, false, false, false, false, false, false, false, false, false, false, false, false, false, false, false, false, false, false, false, false, false, false, false, false, false, false, false, false, false, false, false, false]) (Ts' := [(3, .one (.e (.sl 1 0 x2054.length))), (4, I i2055), (5, .one (.e (.sl 2 0 x2057.length))), (6, I i2693), (7, B b4032), (8, I i3771), (9, I i4033), (58, B b4032)]) (st' := ⟨[(3, .one (.e (.sl 1 0 x2054.length))), (4, I i2055), (5, .one (.e (.sl 2 0 x2057.length))), (6, I i2693), (7, B b4032), (8, I i3771), (9, I i4033), (58, B b4032)], [.row .u8 x1 false, .row .acc x2054 true, .row .int x2057 true]⟩) (n2 := 49) (by kernel_rfl) trivial rfl ?_
          refine WD_known 58 true rfl rfl hb4084 ?_
          refine WD_takeK [2, 3, 4, 5, 6, 7, 8, 9, 10, 11, 12, 13, 14, 15, 16, 17, 18, 19, 20, 21, 22, 23, 24, 25, 26, 27, 28, 29, 30, 31, 32, 33, 34, 35, 36, 37, 38, 39, 40, 41, 42, 43, 44, 45, 46, 47, 48, 49, 50] [3, 4, 5, 6, 7, 8, 9] [3, 4, 5, 6, 7, 8, 9] (φ := True) (ls' := #[true, true, true, true, true, true, true, true, true, true, true, true, true, true, true, true, true, true, true, true, true, true, true, true, true, true, true, true, true, true, true, true, true, true, true, true, true, true, true, true, true, true, true, true, true, true, true, true, true, true, true]) (Ts' := [(3, .one (.e (.sl 1 0 x2054.length))), (4, I i2055), (5, .one (.e (.sl 2 0 x2057.length))), (6, I i2693), (7, B true), (8, I i3771), (9, I i4033)]) (st' := ⟨[(3, .one (.e (.sl 1 0 x2054.length))), (4, I i2055), (5, .one (.e (.sl 2 0 x2057.length))), (6, I i2693), (7, B true), (8, I i3771), (9, I i4033)], [.row .u8 x1 false, .row .acc x2054 true, .row .int x2057 true]⟩) (n2 := 0) (by kernel_rfl) trivial rfl ?_
          exact WD_done [0, 1, 2] [3, 4, 5, 6, 7, 8, 9] (st' := ⟨[(3, .one (.e (.sl 1 0 x2054.length))), (4, I i2055), (5, .one (.e (.sl 2 0 x2057.length))), (6, I i2693), (7, B true), (8, I i3771), (9, I i4033)], [.row .u8 x1 false, .row .acc x2054 true, .row .int x2057 true]⟩) (by kernel_rfl) (by kernel_rfl) (And.intro rfl (by cases hv4097; rfl))
        · refine guardO_e hv4097 (fun hg4085 hv4097 => ?_)
          refine guardO_e hv4097 (fun hg4086 hv4097 => ?_)
          refine iteO_e hv4097 (fun hb4087 hv4097 => ?_) (fun hb4087 hv4097 => ?_)
          · refine guardO_e hv4097 (fun hg4088 hv4097 => ?_)
            refine iteO_e hv4097 (fun hb4089 hv4097 => ?_) (fun hb4089 hv4097 => ?_)
            · refine guardO_e hv4097 (fun hg4090 hv4097 => ?_)
              refine iteO_e hv4097 (fun hb4091 hv4097 => ?_) (fun hb4091 hv4097 => ?_)
              · refine guardO_e hv4097 (fun hg4092 hv4097 => ?_)
                refine iteO_e hv4097 (fun hb4093 hv4097 => ?_) (fun hb4093 hv4097 => ?_)
                · refine guardO_e hv4097 (fun hg4094 hv4097 => ?_)
                  refine guardO_e hv4097 (fun hg4095 hv4097 => ?_)
                  refine W_draw [] true (by kernel_rfl) (by kernel_rfl) ?_
                  refine WD_takeK [0, 1] [3, 4, 5, 6, 7, 8, 9, 58] [3, 4, 5, 6, 7, 8, 9, 58] (φ := True) (ls' := #[true, true, false, false, false, false, false, false, false, false, false, false, false, false, false, false, false, false, false, false, false, false, false, false, false, false, false, false, false, false, false, false, false, false, false, false, false, false, false, false, false, false, false, false, false, false, false, false, false, false, false]) (Ts' := [(3, .one (.e (.sl 1 0 x2054.length))), (4, I i2055), (5, .one (.e (.sl 2 0 x2057.length))), (6, I i2693), (7, B b4032), (8, I i3771), (9, I i4033), (58, B b4032)]) (st' := ⟨[(3, .one (.e (.sl 1 0 x2054.length))), (4, I i2055), (5, .one (.e (.sl 2 0 x2057.length))), (6, I i2693), (7, B b4032), (8, I i3771), (9, I i4033), (58, B b4032)], [.row .u8 x1 false, .row .acc x2054 true, .row .int x2057 true]⟩) (n2 := 49) (by kernel_rfl) trivial rfl ?_
                  refine WD_known 58 false rfl rfl hb4084 ?_
                  refine WD_takeK [2, 3, 4, 5, 6, 7, 8, 9, 10, 11, 12] [3, 4, 5, 6, 7, 8, 9, 58, 69] [3, 4, 5, 6, 7, 8, 9, 58, 69] (φ := ((0 ≤ i3771 ∧ i3771 < ((x2054.length : Nat) : Int)) ∧ (0 ≤ i3771 ∧ i3771 < ((x2054.length : Nat) : Int)) ∧ (True ∧ True ∧ ((0 ≤ i2693 ∧ i2693 < ((x2057.length : Nat) : Int)) ∧ (0 ≤ i2693 ∧ i2693 < ((x2057.length : Nat) : Int)) ∧ (True ∧ True ∧ (True ∧ True ∧ True)))))) (ls' := #[true, true, true, true, true, true, true, true, true, true, true, true, true, false, false, false, false, false, false, false, false, false, false, false, false, false, false, false, false, false, false, false, false, false, false, false, false, false, false, false, false, false, false, false, false, false, false, false, false, false, false]) (Ts' := [(3, .one (.e (.sl 1 0 x2054.length))), (4, I i2055), (5, .one (.e (.sl 2 0 x2057.length))), (6, I i2693), (7, B b4032), (8, I i3771), (9, I i4033), (58, B false), (69, B (decide (((x2054.getD i3771.toNat dacc).who) = (x2057.getD i2693.toNat 0))))]) (st' := ⟨[(3, .one (.e (.sl 1 0 x2054.length))), (4, I i2055), (5, .one (.e (.sl 2 0 x2057.length))), (6, I i2693), (7, B b4032), (8, I i3771), (9, I i4033), (58, B false), (69, B (decide (((x2054.getD i3771.toNat dacc).who) = (x2057.getD i2693.toNat 0))))], [.row .u8 x1 false, .row .acc x2054 true, .row .int x2057 true]⟩) (n2 := 38) (by kernel_rfl) ⟨hg4085, hg4085, trivial, trivial, hg4086, hg4086, trivial, trivial, trivial, trivial, trivial⟩ rfl ?_
                  refine WD_known 69 true rfl rfl hb4087 ?_
                  refine WD_takeK [13, 14, 15, 16, 17, 18, 19] [3, 4, 5, 6, 7, 8, 9, 58, 76] [3, 4, 5, 6, 7, 8, 9, 58, 76] (φ := ((0 ≤ i3771 ∧ i3771 < ((x2054.length : Nat) : Int)) ∧ (0 ≤ i3771 ∧ i3771 < ((x2054.length : Nat) : Int)) ∧ (True ∧ True ∧ True))) (ls' := #[true, true, true, true, true, true, true, true, true, true, true, true, true, true, true, true, true, true, true, true, false, false, false, false, false, false, false, false, false, false, false, false, false, false, false, false, false, false, false, false, false, false, false, false, false, false, false, false, false, false, false]) (Ts' := [(3, .one (.e (.sl 1 0 x2054.length))), (4, I i2055), (5, .one (.e (.sl 2 0 x2057.length))), (6, I i2693), (7, B b4032), (8, I i3771), (9, I i4033), (58, B false), (76, B ((x2054.getD i3771.toNat dacc).write))]) (st' := ⟨[(3, .one (.e (.sl 1 0 x2054.length))), (4, I i2055), (5, .one (.e (.sl 2 0 x2057.length))), (6, I i2693), (7, B b4032), (8, I i3771), (9, I i4033), (58, B false), (76, B ((x2054.getD i3771.toNat dacc).write))], [.row .u8 x1 false, .row .acc x2054 true, .row .int x2057 true]⟩) (n2 := 31) (by kernel_rfl) ⟨hg4088, hg4088, trivial, trivial, trivial⟩ rfl ?_
                  refine WD_known 76 true rfl rfl hb4089 ?_
                  refine WD_takeK [20, 21, 22, 23, 24, 25, 26, 27, 28] [3, 4, 5, 6, 7, 8, 9, 58, 85] [3, 4, 5, 6, 7, 8, 9, 58, 85] (φ := ((0 ≤ i4033 ∧ i4033 < ((x2054.length : Nat) : Int)) ∧ (0 ≤ i4033 ∧ i4033 < ((x2054.length : Nat) : Int)) ∧ (True ∧ True ∧ (True ∧ True ∧ True)))) (ls' := #[true, true, true, true, true, true, true, true, true, true, true, true, true, true, true, true, true, true, true, true, true, true, true, true, true, true, true, true, true, false, false, false, false, false, false, false, false, false, false, false, false, false, false, false, false, false, false, false, false, false, false]) (Ts' := [(3, .one (.e (.sl 1 0 x2054.length))), (4, I i2055), (5, .one (.e (.sl 2 0 x2057.length))), (6, I i2693), (7, B b4032), (8, I i3771), (9, I i4033), (58, B false), (85, B (decide (((x2054.getD i4033.toNat dacc).who) = i2055)))]) (st' := ⟨[(3, .one (.e (.sl 1 0 x2054.length))), (4, I i2055), (5, .one (.e (.sl 2 0 x2057.length))), (6, I i2693), (7, B b4032), (8, I i3771), (9, I i4033), (58, B false), (85, B (decide (((x2054.getD i4033.toNat dacc).who) = i2055)))], [.row .u8 x1 false, .row .acc x2054 true, .row .int x2057 true]⟩) (n2 := 22) (by kernel_rfl) ⟨hg4090, hg4090, trivial, trivial, trivial, trivial, trivial⟩ rfl ?_
                  refine WD_known 85 true rfl rfl hb4091 ?_
                  refine WD_takeK [29, 30, 31, 32, 33, 34, 35, 36] [3, 4, 5, 6, 7, 8, 9, 58, 93] [3, 4, 5, 6, 7, 8, 9, 58, 93] (φ := ((0 ≤ i4033 ∧ i4033 < ((x2054.length : Nat) : Int)) ∧ (0 ≤ i4033 ∧ i4033 < ((x2054.length : Nat) : Int)) ∧ (True ∧ True ∧ True))) (ls' := #[true, true, true, true, true, true, true, true, true, true, true, true, true, true, true, true, true, true, true, true, true, true, true, true, true, true, true, true, true, true, true, true, true, true, true, true, true, false, false, false, false, false, false, false, false, false, false, false, false, false, false]) (Ts' := [(3, .one (.e (.sl 1 0 x2054.length))), (4, I i2055), (5, .one (.e (.sl 2 0 x2057.length))), (6, I i2693), (7, B b4032), (8, I i3771), (9, I i4033), (58, B false), (93, B (!(x2054.getD i4033.toNat dacc).write))]) (st' := ⟨[(3, .one (.e (.sl 1 0 x2054.length))), (4, I i2055), (5, .one (.e (.sl 2 0 x2057.length))), (6, I i2693), (7, B b4032), (8, I i3771), (9, I i4033), (58, B false), (93, B (!(x2054.getD i4033.toNat dacc).write))], [.row .u8 x1 false, .row .acc x2054 true, .row .int x2057 true]⟩) (n2 := 14) (by kernel_rfl) ⟨hg4092, hg4092, trivial, trivial, trivial⟩ rfl ?_
                  refine WD_known 93 true rfl rfl hb4093 ?_
                  refine WD_takeK [37, 38, 39, 40, 41, 42, 43, 44, 45, 46, 47, 48, 49, 50] [3, 4, 5, 6, 7, 8, 9] [3, 4, 5, 6, 7, 8, 9] (φ := ((0 ≤ i3771 ∧ i3771 < ((x2054.length : Nat) : Int)) ∧ (0 ≤ i3771 ∧ i3771 < ((x2054.length : Nat) : Int)) ∧ (True ∧ True ∧ ((0 ≤ i4033 ∧ i4033 < ((x2054.length : Nat) : Int)) ∧ (0 ≤ i4033 ∧ i4033 < ((x2054.length : Nat) : Int)) ∧ (True ∧ True ∧ (True ∧ True ∧ True)))))) (ls' := #[true, true, true, true, true, true, true, true, true, true, true, true, true, true, true, true, true, true, true, true, true, true, true, true, true, true, true, true, true, true, true, true, true, true, true, true, true, true, true, true, true, true, true, true, true, true, true, true, true, true, true]) (Ts' := [(3, .one (.e (.sl 1 0 x2054.length))), (4, I i2055), (5, .one (.e (.sl 2 0 x2057.length))), (6, I i2693), (7, B (decide (((x2054.getD i3771.toNat dacc).node) = ((x2054.getD i4033.toNat dacc).node)))), (8, I i3771), (9, I i4033)]) (st' := ⟨[(3, .one (.e (.sl 1 0 x2054.length))), (4, I i2055), (5, .one (.e (.sl 2 0 x2057.length))), (6, I i2693), (7, B (decide (((x2054.getD i3771.toNat dacc).node) = ((x2054.getD i4033.toNat dacc).node)))), (8, I i3771), (9, I i4033)], [.row .u8 x1 false, .row .acc x2054 true, .row .int x2057 true]⟩) (n2 := 0) (by kernel_rfl) ⟨hg4094, hg4094, trivial, trivial, hg4095, hg4095, trivial, trivial, trivial, trivial, trivial⟩ rfl ?_
                  exact WD_done [0, 1, 2] [3, 4, 5, 6, 7, 8, 9] (st' := ⟨[(3, .one (.e (.sl 1 0 x2054.length))), (4, I i2055), (5, .one (.e (.sl 2 0 x2057.length))), (6, I i2693), (7, B (decide (((x2054.getD i3771.toNat dacc).node) = ((x2054.getD i4033.toNat dacc).node)))), (8, I i3771), (9, I i4033)], [.row .u8 x1 false, .row .acc x2054 true, .row .int x2057 true]⟩) (by kernel_rfl) (by kernel_rfl) (And.intro rfl (by cases hv4097; rfl))
                · refine W_draw [] true (by kernel_rfl) (by kernel_rfl) ?_
                  refine WD_takeK [0, 1] [3, 4, 5, 6, 7, 8, 9, 58] [3, 4, 5, 6, 7, 8, 9, 58] (φ := True) (ls' := #[true, true, false, false, false, false, false, false, false, false, false, false, false, false, false, false, false, false, false, false, false, false, false, false, false, false, false, false, false, false, false, false, false, false, false, false, false, false, false, false, false, false, false, false, false, false, false, false, false, false, false]) (Ts' := [(3, .one (.e (.sl 1 0 x2054.length))), (4, I i2055), (5, .one (.e (.sl 2 0 x2057.length))), (6, I i2693), (7, B b4032), (8, I i3771), (9, I i4033), (58, B b4032)]) (st' := ⟨[(3, .one (.e (.sl 1 0 x2054.length))), (4, I i2055), (5, .one (.e (.sl 2 0 x2057.length))), (6, I i2693), (7, B b4032), (8, I i3771), (9, I i4033), (58, B b4032)], [.row .u8 x1 false, .row .acc x2054 true, .row .int x2057 true]⟩) (n2 := 49) (by kernel_rfl) trivial rfl ?_
                  refine WD_known 58 false rfl rfl hb4084 ?_
                  refine WD_takeK [2, 3, 4, 5, 6, 7, 8, 9, 10, 11, 12] [3, 4, 5, 6, 7, 8, 9, 58, 69] [3, 4, 5, 6, 7, 8, 9, 58, 69] (φ := ((0 ≤ i3771 ∧ i3771 < ((x2054.length : Nat) : Int)) ∧ (0 ≤ i3771 ∧ i3771 < ((x2054.length : Nat) : Int)) ∧ (True ∧ True ∧ ((0 ≤ i2693 ∧ i2693 < ((x2057.length : Nat) : Int)) ∧ (0 ≤ i2693 ∧ i2693 < ((x2057.length : Nat) : Int)) ∧ (True ∧ True ∧ (True ∧ True ∧ True)))))) (ls' := #[true, true, true, true, true, true, true, true, true, true, true, true, true, false, false, false, false, false, false, false, false, false, false, false, false, false, false, false, false, false, false, false, false, false, false, false, false, false, false, false, false, false, false, false, false, false, false, false, false, false, false]) (Ts' := [(3, .one (.e (.sl 1 0 x2054.length))), (4, I i2055), (5, .one (.e (.sl 2 0 x2057.length))), (6, I i2693), (7, B b4032), (8, I i3771), (9, I i4033), (58, B false), (69, B (decide (((x2054.getD i3771.toNat dacc).who) = (x2057.getD i2693.toNat 0))))]) (st' := ⟨[(3, .one (.e (.sl 1 0 x2054.length))), (4, I i2055), (5, .one (.e (.sl 2 0 x2057.length))), (6, I i2693), (7, B b4032), (8, I i3771), (9, I i4033), (58, B false), (69, B (decide (((x2054.getD i3771.toNat dacc).who) = (x2057.getD i2693.toNat 0))))], [.row .u8 x1 false, .row .acc x2054 true, .row .int x2057 true]⟩) (n2 := 38) (by kernel_rfl) ⟨hg4085, hg4085, trivial, trivial, hg4086, hg4086, trivial, trivial, trivial, trivial, trivial⟩ rfl ?_
                  refine WD_known 69 true rfl rfl hb4087 ?_
                  refine WD_takeK [13, 14, 15, 16, 17, 18, 19] [3, 4, 5, 6, 7, 8, 9, 58, 76] [3, 4, 5, 6, 7, 8, 9, 58, 76] (φ := ((0 ≤ i3771 ∧ i3771 < ((x2054.length : Nat) : Int)) ∧ (0 ≤ i3771 ∧ i3771 < ((x2054.length : Nat) : Int)) ∧ (True ∧ True ∧ True))) (ls' := #[true, true, true, true, true, true, true, true, true, true, true, true, true, true, true, true, true, true, true, true, false, false, false, false, false, false, false, false, false, false, false, false, false, false, false, false, false, false, false, false, false, false, false, false, false, false, false, false, false, false, false]) (Ts' := [(3, .one (.e (.sl 1 0 x2054.length))), (4, I i2055), (5, .one (.e (.sl 2 0 x2057.length))), (6, I i2693), (7, B b4032), (8, I i3771), (9, I i4033), (58, B false), (76, B ((x2054.getD i3771.toNat dacc).write))]) (st' := ⟨[(3, .one (.e (.sl 1 0 x2054.length))), (4, I i2055), (5, .one (.e (.sl 2 0 x2057.length))), (6, I i2693), (7, B b4032), (8, I i3771), (9, I i4033), (58, B false), (76, B ((x2054.getD i3771.toNat dacc).write))], [.row .u8 x1 false, .row .acc x2054 true, .row .int x2057 true]⟩) (n2 := 31) (by kernel_rfl) ⟨hg4088, hg4088, trivial, trivial, trivial⟩ rfl ?_
                  refine WD_known 76 true rfl rfl hb4089 ?_
                  refine WD_takeK [20, 21, 22, 23, 24, 25, 26, 27, 28] [3, 4, 5, 6, 7, 8, 9, 58, 85] [3, 4, 5, 6, 7, 8, 9, 58, 85] (φ := ((0 ≤ i4033 ∧ i4033 < ((x2054.length : Nat) : Int)) ∧ (0 ≤ i4033 ∧ i4033 < ((x2054.length : Nat) : Int)) ∧ (True ∧ True ∧ (True ∧ True ∧ True)))) (ls' := #[true, true, true, true, true, true, true, true, true, true, true, true, true, true, true, true, true, true, true, true, true, true, true, true, true, true, true, true, true, false, false, false, false, false, false, false, false, false, false, false, false, false, false, false, false, false, false, false, false, false, false]) (Ts' := [(3, .one (.e (.sl 1 0 x2054.length))), (4, I i2055), (5, .one (.e (.sl 2 0 x2057.length))), (6, I i2693), (7, B b4032), (8, I i3771), (9, I i4033), (58, B false), (85, B (decide (((x2054.getD i4033.toNat dacc).who) = i2055)))]) (st' := ⟨[(3, .one (.e (.sl 1 0 x2054.length))), (4, I i2055), (5, .one (.e (.sl 2 0 x2057.length))), (6, I i2693), (7, B b4032), (8, I i3771), (9, I i4033), (58, B false), (85, B (decide (((x2054.getD i4033.toNat dacc).who) = i2055)))], [.row .u8 x1 false, .row .acc x2054 true, .row .int x2057 true]⟩) (n2 := 22) (by kernel_rfl) ⟨hg4090, hg4090, trivial, trivial, trivial, trivial, trivial⟩ rfl ?_
                  refine WD_known 85 true rfl rfl hb4091 ?_
                  refine WD_takeK [29, 30, 31, 32, 33, 34, 35, 36] [3, 4, 5, 6, 7, 8, 9, 58, 93] [3, 4, 5, 6, 7, 8, 9, 58, 93] (φ := ((0 ≤ i4033 ∧ i4033 < ((x2054.length : Nat) : Int)) ∧ (0 ≤ i4033 ∧ i4033 < ((x2054.length : Nat) : Int)) ∧ (True ∧ True ∧ True))) (ls' := #[true, true, true, true, true, true, true, true, true, true, true, true, true, true, true, true, true, true, true, true, true, true, true, true, true, true, true, true, true, true, true, true, true, true, true, true, true, false, false, false, false, false, false, false, false, false, false, false, false, false, false]) (Ts' := [(3, .one (.e (.sl 1 0 x2054.length))), (4, I i2055), (5, .one (.e (.sl 2 0 x2057.length))), (6, I i2693), (7, B b4032), (8, I i3771), (9, I i4033), (58, B false), (93, B (!(x2054.getD i4033.toNat dacc).write))]) (st' := ⟨[(3, .one (.e (.sl 1 0 x2054.length))), (4, I i2055), (5, .one (.e (.sl 2 0 x2057.length))), (6, I i2693), (7, B b4032), (8, I i3771), (9, I i4033), (58, B false), (93, B (!(x2054.getD i4033.toNat dacc).write))], [.row .u8 x1 false, .row .acc x2054 true, .row .int x2057 true]⟩) (n2 := 14) (by kernel_rfl) ⟨hg4092, hg4092, trivial, trivial, trivial⟩ rfl ?_
                  refine WD_known 93 false rfl rfl hb4093 ?_
                  refine WD_takeK [37, 38, 39, 40, 41, 42, 43, 44, 45, 46, 47, 48, 49, 50] [3, 4, 5, 6, 7, 8, 9] [3, 4, 5, 6, 7, 8, 9] (φ := True) (ls' := #[true, true, true, true, true, true, true, true, true, true, true, true, true, true, true, true, true, true, true, true, true, true, true, true, true, true, true, true, true, true, true, true, true, true, true, true, true, true, true, true, true, true, true, true, true, true, true, true, true, true, true]) (Ts' := [(3, .one (.e (.sl 1 0 x2054.length))), (4, I i2055), (5, .one (.e (.sl 2 0 x2057.length))), (6, I i2693), (7, B false), (8, I i3771), (9, I i4033)]) (st' := ⟨[(3, .one (.e (.sl 1 0 x2054.length))), (4, I i2055), (5, .one (.e (.sl 2 0 x2057.length))), (6, I i2693), (7, B false), (8, I i3771), (9, I i4033)], [.row .u8 x1 false, .row .acc x2054 true, .row .int x2057 true]⟩) (n2 := 0) (by kernel_rfl) trivial rfl ?_
                  exact WD_done [0, 1, 2] [3, 4, 5, 6, 7, 8, 9] (st' := ⟨[(3, .one (.e (.sl 1 0 x2054.length))), (4, I i2055), (5, .one (.e (.sl 2 0 x2057.length))), (6, I i2693), (7, B false), (8, I i3771), (9, I i4033)], [.row .u8 x1 false, .row .acc x2054 true, .row .int x2057 true]⟩) (by kernel_rfl) (by kernel_rfl) (And.intro rfl (by cases hv4097; rfl))
              · refine W_draw [] true (by kernel_rfl) (by kernel_rfl) ?_
                refine WD_takeK [0, 1] [3, 4, 5, 6, 7, 8, 9, 58] [3, 4, 5, 6, 7, 8, 9, 58] (φ := True) (ls' := #[true, true, false, false, false, false, false, false, false, false, false, false, false, false, false, false, false, false, false, false, false, false, false, false, false, false, false, false, false, false, false, false, false, false, false, false, false, false, false, false, false, false, false, false, false, false, false, false, false, false, false]) (Ts' := [(3, .one (.e (.sl 1 0 x2054.length))), (4, I i2055), (5, .one (.e (.sl 2 0 x2057.length))), (6, I i2693), (7, B b4032), (8, I i3771), (9, I i4033), (58, B b4032)]) (st' := ⟨[(3, .one (.e (.sl 1 0 x2054.length))), (4, I i2055), (5, .one (.e (.sl 2 0 x2057.length))), (6, I i2693), (7, B b4032), (8, I i3771), (9, I i4033), (58, B b4032)], [.row .u8 x1 false, .row .acc x2054 true, .row .int x2057 true]⟩) (n2 := 49) (by kernel_rfl) trivial rfl ?_
                refine WD_known 58 false rfl rfl hb4084 ?_
                refine WD_takeK [2, 3, 4, 5, 6, 7, 8, 9, 10, 11, 12] [3, 4, 5, 6, 7, 8, 9, 58, 69] [3, 4, 5, 6, 7, 8, 9, 58, 69] (φ := ((0 ≤ i3771 ∧ i3771 < ((x2054.length : Nat) : Int)) ∧ (0 ≤ i3771 ∧ i3771 < ((x2054.length : Nat) : Int)) ∧ (True ∧ True ∧ ((0 ≤ i2693 ∧ i2693 < ((x2057.length : Nat) : Int)) ∧ (0 ≤ i2693 ∧ i2693 < ((x2057.length : Nat) : Int)) ∧ (True ∧ True ∧ (True ∧ True ∧ True)))))) (ls' := #[true, true, true, true, true, true, true, true, true, true, true, true, true, false, false, false, false, false, false, false, false, false, false, false, false, false, false, false, false, false, false, false, false, false, false, false, false, false, false, false, false, false, false, false, false, false, false, false, false, false, false]) (Ts' := [(3, .one (.e (.sl 1 0 x2054.length))), (4, I i2055), (5, .one (.e (.sl 2 0 x2057.length))), (6, I i2693), (7, B b4032), (8, I i3771), (9, I i4033), (58, B false), (69, B (decide (((x2054.getD i3771.toNat dacc).who) = (x2057.getD i2693.toNat 0))))]) (st' := ⟨[(3, .one (.e (.sl 1 0 x2054.length))), (4, I i2055), (5, .one (.e (.sl 2 0 x2057.length))), (6, I i2693), (7, B b4032), (8, I i3771), (9, I i4033), (58, B false), (69, B (decide (((x2054.getD i3771.toNat dacc).who) = (x2057.getD i2693.toNat 0))))], [.row .u8 x1 false, .row .acc x2054 true, .row .int x2057 true]⟩) (n2 := 38) (by kernel_rfl) ⟨hg4085, hg4085, trivial, trivial, hg4086, hg4086, trivial, trivial, trivial, trivial, trivial⟩ rfl ?_
                refine WD_known 69 true rfl rfl hb4087 ?_
                refine WD_takeK [13, 14, 15, 16, 17, 18, 19] [3, 4, 5, 6, 7, 8, 9, 58, 76] [3, 4, 5, 6, 7, 8, 9, 58, 76] (φ := ((0 ≤ i3771 ∧ i3771 < ((x2054.length : Nat) : Int)) ∧ (0 ≤ i3771 ∧ i3771 < ((x2054.length : Nat) : Int)) ∧ (True ∧ True ∧ True))) (ls' := #[true, true, true, true, true, true, true, true, true, true, true, true, true, true, true, true, true, true, true, true, false, false, false, false, false, false, false, false, false, false, false, false, false, false, false, false, false, false, false, false, false, false, false, false, false, false, false, false, false, false, false]) (Ts' := [(3, .one (.e (.sl 1 0 x2054.length))), (4, I i2055), (5, .one (.e (.sl 2 0 x2057.length))), (6, I i2693), (7, B b4032), (8, I i3771), (9, I i4033), (58, B false), (76, B ((x2054.getD i3771.toNat dacc).write))]) (st' := ⟨[(3, .one (.e (.sl 1 0 x2054.length))), (4, I i2055), (5, .one (.e (.sl 2 0 x2057.length))), (6, I i2693), (7, B b4032), (8, I i3771), (9, I i4033), (58, B false), (76, B ((x2054.getD i3771.toNat dacc).write))], [.row .u8 x1 false, .row .acc x2054 true, .row .int x2057 true]⟩) (n2 := 31) (by kernel_rfl) ⟨hg4088, hg4088, trivial, trivial, trivial⟩ rfl ?_
                refine WD_known 76 true rfl rfl hb4089 ?_
                refine WD_takeK [20, 21, 22, 23, 24, 25, 26, 27, 28] [3, 4, 5, 6, 7, 8, 9, 58, 85] [3, 4, 5, 6, 7, 8, 9, 58, 85] (φ := ((0 ≤ i4033 ∧ i4033 < ((x2054.length : Nat) : Int)) ∧ (0 ≤ i4033 ∧ i4033 < ((x2054.length : Nat) : Int)) ∧ (True ∧ True ∧ (True ∧ True ∧ True)))) (ls' := #[true, true, true, true, true, true, true, true, true, true, true, true, true, true, true, true, true, true, true, true, true, true, true, true, true, true, true, true, true, false, false, false, false, false, false, false, false, false, false, false, false, false, false, false, false, false, false, false, false, false, false]) (Ts' := [(3, .one (.e (.sl 1 0 x2054.length))), (4, I i2055), (5, .one (.e (.sl 2 0 x2057.length))), (6, I i2693), (7, B b4032), (8, I i3771), (9, I i4033), (58, B false), (85, B (decide (((x2054.getD i4033.toNat dacc).who) = i2055)))]) (st' := ⟨[(3, .one (.e (.sl 1 0 x2054.length))), (4, I i2055), (5, .one (.e (.sl 2 0 x2057.length))), (6, I i2693), (7, B b4032), (8, I i3771), (9, I i4033), (58, B false), (85, B (decide (((x2054.getD i4033.toNat dacc).who) = i2055)))], [.row .u8 x1 false, .row .acc x2054 true, .row .int x2057 true]⟩) (n2 := 22) (by kernel_rfl) ⟨hg4090, hg4090, trivial, trivial, trivial, trivial, trivial⟩ rfl ?_
                refine WD_known 85 false rfl rfl hb4091 ?_
                refine WD_takeK [29, 30, 31, 32, 33, 34, 35, 36, 37, 38, 39, 40, 41, 42, 43, 44, 45, 46, 47, 48, 49, 50] [3, 4, 5, 6, 7, 8, 9] [3, 4, 5, 6, 7, 8, 9] (φ := True) (ls' := #[true, true, true, true, true, true, true, true, true, true, true, true, true, true, true, true, true, true, true, true, true, true, true, true, true, true, true, true, true, true, true, true, true, true, true, true, true, true, true, true, true, true, true, true, true, true, true, true, true, true, true]) (Ts' := [(3, .one (.e (.sl 1 0 x2054.length))), (4, I i2055), (5, .one (.e (.sl 2 0 x2057.length))), (6, I i2693), (7, B false), (8, I i3771), (9, I i4033)]) (st' := ⟨[(3, .one (.e (.sl 1 0 x2054.length))), (4, I i2055), (5, .one (.e (.sl 2 0 x2057.length))), (6, I i2693), (7, B false), (8, I i3771), (9, I i4033)], [.row .u8 x1 false, .row .acc x2054 true, .row .int x2057 true]⟩) (n2 := 0) (by kernel_rfl) trivial rfl ?_
                exact WD_done [0, 1, 2] [3, 4, 5, 6, 7, 8, 9] (st' := ⟨[(3, .one (.e (.sl 1 0 x2054.length))), (4, I i2055), (5, .one (.e (.sl 2 0 x2057.length))), (6, I i2693), (7, B false), (8, I i3771), (9, I i4033)], [.row .u8 x1 false, .row .acc x2054 true, .row .int x2057 true]⟩) (by kernel_rfl) (by kernel_rfl) (And.intro rfl (by cases hv4097; rfl))
            · refine W_draw [] true (by kernel_rfl) (by kernel_rfl) ?_
              refine WD_takeK [0, 1] [3, 4, 5, 6, 7, 8, 9, 58] [3, 4, 5, 6, 7, 8, 9, 58] (φ := True) (ls' := #[true, true, false, false, false, false, false, false, false, false, false, false, false, false, false, false, false, false, false, false, false, false, false, false, false, false, false, false, false, false, false, false, false, false, false, false, false, false, false, false, false, false, false, false, false, false, false, false, false, false, false]) (Ts' := [(3, .one (.e (.sl 1 0 x2054.length))), (4, I i2055), (5, .one (.e (.sl 2 0 x2057.length))), (6, I i2693), (7, B b4032), (8, I i3771), (9, I i4033), (58, B b4032)]) (st' := ⟨[(3, .one (.e (.sl 1 0 x2054.length))), (4, I i2055), (5, .one (.e (.sl 2 0 x2057.length))), (6, I i2693), (7, B b4032), (8, I i3771), (9, I i4033), (58, B b4032)], [.row .u8 x1 false, .row .acc x2054 true, .row .int x2057 true]⟩) (n2 := 49) (by kernel_rfl) trivial rfl ?_
              refine WD_known 58 false rfl rfl hb4084 ?_
              refine WD_takeK [2, 3, 4, 5, 6, 7, 8, 9, 10, 11, 12] [3, 4, 5, 6, 7, 8, 9, 58, 69] [3, 4, 5, 6, 7, 8, 9, 58, 69] (φ := ((0 ≤ i3771 ∧ i3771 < ((x2054.length : Nat) : Int)) ∧ (0 ≤ i3771 ∧ i3771 < ((x2054.length : Nat) : Int)) ∧ (True ∧ True ∧ ((0 ≤ i2693 ∧ i2693 < ((x2057.length : Nat) : Int)) ∧ (0 ≤ i2693 ∧ i2693 < ((x2057.length : Nat) : Int)) ∧ (True ∧ True ∧ (True ∧ True ∧ True)))))) (ls' := #[true, true, true, true, true, true, true, true, true, true, true, true, true, false, false, false, false, false, false, false, false, false, false, false, false, false, false, false, false, false, false, false, false, false, false, false, false, false, false, false, false, false, false, false, false, false, false, false, false, false, false]) (Ts' := [(3, .one (.e (.sl 1 0 x2054.length))), (4, I i2055), (5, .one (.e (.sl 2 0 x2057.length))), (6, I i2693), (7, B b4032), (8, I i3771), (9, I i4033), (58, B false), (69, B (decide (((x2054.getD i3771.toNat dacc).who) = (x2057.getD i2693.toNat 0))))]) (st' := ⟨[(3, .one (.e (.sl 1 0 x2054.length))), (4, I i2055), (5, .one (.e (.sl 2 0 x2057.length))), (6, I i2693), (7, B b4032), (8, I i3771), (9, I i4033), (58, B false), (69, B (decide (((x2054.getD i3771.toNat dacc).who) = (x2057.getD i2693.toNat 0))))], [.row .u8 x1 false, .row .acc x2054 true, .row .int x2057 true]⟩) (n2 := 38) (by kernel_rfl) ⟨hg4085, hg4085, trivial, trivial, hg4086, hg4086, trivial, trivial, trivial, trivial, trivial⟩ rfl ?_
              refine WD_known 69 true rfl rfl hb4087 ?_
              refine WD_takeK [13, 14, 15, 16, 17, 18, 19] [3, 4, 5, 6, 7, 8, 9, 58, 76] [3, 4, 5, 6, 7, 8, 9, 58, 76] (φ := ((0 ≤ i3771 ∧ i3771 < ((x2054.length : Nat) : Int)) ∧ (0 ≤ i3771 ∧ i3771 < ((x2054.length : Nat) : Int)) ∧ (True ∧ True ∧ True))) (ls' := #[true, true, true, true, true, true, true, true, true, true, true, true, true, true, true, true, true, true, true, true, false, false, false, false, false, false, false, false, false, false, false, false, false, false, false, false, false, false, false, false, false, false, false, false, false, false, false, false, false, false, false]) (Ts' := [(3, .one (.e (.sl 1 0 x2054.length))), (4, I i2055), (5, .one (.e (.sl 2 0 x2057.length))), (6, I i2693), (7, B b4032), (8, I i3771), (9, I i4033), (58, B false), (76, B ((x2054.getD i3771.toNat dacc).write))]) (st' := ⟨[(3, .one (.e (.sl 1 0 x2054.length))), (4, I i2055), (5, .one (.e (.sl 2 0 x2057.length))), (6, I i2693), (7, B b4032), (8, I i3771), (9, I i4033), (58, B false), (76, B ((x2054.getD i3771.toNat dacc).write))], [.row .u8 x1 false, .row .acc x2054 true, .row .int x2057 true]⟩) (n2 := 31) (by kernel_rfl) ⟨hg4088, hg4088, trivial, trivial, trivial⟩ rfl ?_
              refine WD_known 76 false rfl rfl hb4089 ?_
              refine WD_takeK [20, 21, 22, 23, 24, 25, 26, 27, 28, 29, 30, 31, 32, 33, 34, 35, 36, 37, 38, 39, 40, 41, 42, 43, 44, 45, 46, 47, 48, 49, 50] [3, 4, 5, 6, 7, 8, 9] [3, 4, 5, 6, 7, 8, 9] (φ := True) (ls' := #[true, true, true, true, true, true, true, true, true, true, true, true, true, true, true, true, true, true, true, true, true, true, true, true, true, true, true, true, true, true, true, true, true, true, true, true, true, true, true, true, true, true, true, true, true, true, true, true, true, true, true]) (Ts' := [(3, .one (.e (.sl 1 0 x2054.length))), (4, I i2055), (5, .one (.e (.sl 2 0 x2057.length))), (6, I i2693), (7, B false), (8, I i3771), (9, I i4033)]) (st' := ⟨[(3, .one (.e (.sl 1 0 x2054.length))), (4, I i2055), (5, .one (.e (.sl 2 0 x2057.length))), (6, I i2693), (7, B false), (8, I i3771), (9, I i4033)], [.row .u8 x1 false, .row .acc x2054 true, .row .int x2057 true]⟩) (n2 := 0) (by kernel_rfl) trivial rfl ?_
              exact WD_done [0, 1, 2] [3, 4, 5, 6, 7, 8, 9] (st' := ⟨[(3, .one (.e (.sl 1 0 x2054.length))), (4, I i2055), (5, .one (.e (.sl 2 0 x2057.length))), (6, I i2693), (7, B false), (8, I i3771), (9, I i4033)], [.row .u8 x1 false, .row .acc x2054 true, .row .int x2057 true]⟩) (by kernel_rfl) (by kernel_rfl) (And.intro rfl (by cases hv4097; rfl))
          · refine W_draw [] true (by kernel_rfl) (by kernel_rfl) ?_
            refine WD_takeK [0, 1] [3, 4, 5, 6, 7, 8, 9, 58] [3, 4, 5, 6, 7, 8, 9, 58] (φ := True) (ls' := #[true, true, false, false, false, false, false, false, false, false, false, false, false, false, false, false, false, false, false, false, false, false, false, false, false, false, false, false, false, false, false, false, false, false, false, false, false, false, false, false, false, false, false, false, false, false, false, false, false, false, false]) (Ts' := [(3, .one (.e (.sl 1 0 x2054.length))), (4, I i2055), (5, .one (.e (.sl 2 0 x2057.length))), (6, I i2693), (7, B b4032), (8, I i3771), (9, I i4033), (58, B b4032)]) (st' := ⟨[(3, .one (.e (.sl 1 0 x2054.length))), (4, I i2055), (5, .one (.e (.sl 2 0 x2057.length))), (6, I i2693), (7, B b4032), (8, I i3771), (9, I i4033), (58, B b4032)], [.row .u8 x1 false, .row .acc x2054 true, .row .int x2057 true]⟩) (n2 := 49) (by kernel_rfl) trivial rfl ?_
            refine WD_known 58 false rfl rfl hb4084 ?_
            refine WD_takeK [2, 3, 4, 5, 6, 7, 8, 9, 10, 11, 12] [3, 4, 5, 6, 7, 8, 9, 58, 69] [3, 4, 5, 6, 7, 8, 9, 58, 69] (φ := ((0 ≤ i3771 ∧ i3771 < ((x2054.length : Nat) : Int)) ∧ (0 ≤ i3771 ∧ i3771 < ((x2054.length : Nat) : Int)) ∧ (True ∧ True ∧ ((0 ≤ i2693 ∧ i2693 < ((x2057.length : Nat) : Int)) ∧ (0 ≤ i2693 ∧ i2693 < ((x2057.length : Nat) : Int)) ∧ (True ∧ True ∧ (True ∧ True ∧ True)))))) (ls' := #[true, true, true, true, true, true, true, true, true, true, true, true, true, false, false, false, false, false, false, false, false, false, false, false, false, false, false, false, false, false, false, false, false, false, false, false, false, false, false, false, false, false, false, false, false, false, false, false, false, false, false]) (Ts' := [(3, .one (.e (.sl 1 0 x2054.length))), (4, I i2055), (5, .one (.e (.sl 2 0 x2057.length))), (6, I i2693), (7, B b4032), (8, I i3771), (9, I i4033), (58, B false), (69, B (decide (((x2054.getD i3771.toNat dacc).who) = (x2057.getD i2693.toNat 0))))]) (st' := ⟨[(3, .one (.e (.sl 1 0 x2054.length))), (4, I i2055), (5, .one (.e (.sl 2 0 x2057.length))), (6, I i2693), (7, B b4032), (8, I i3771), (9, I i4033), (58, B false), (69, B (decide (((x2054.getD i3771.toNat dacc).who) = (x2057.getD i2693.toNat 0))))], [.row .u8 x1 false, .row .acc x2054 true, .row .int x2057 true]⟩) (n2 := 38) (by kernel_rfl) ⟨hg4085, hg4085, trivial, trivial, hg4086, hg4086, trivial, trivial, trivial, trivial, trivial⟩ rfl ?_
            refine WD_known 69 false rfl rfl hb4087 ?_
            refine WD_takeK [13, 14, 15, 16, 17, 18, 19, 20, 21, 22, 23, 24, 25, 26, 27, 28, 29, 30, 31, 32, 33, 34, 35, 36, 37, 38, 39, 40, 41, 42, 43, 44, 45, 46, 47, 48, 49, 50] [3, 4, 5, 6, 7, 8, 9] [3, 4, 5, 6, 7, 8, 9] (φ := True) (ls' := #[true, true, true, true, true, true, true, true, true, true, true, true, true, true, true, true, true, true, true, true, true, true, true, true, true, true, true, true, true, true, true, true, true, true, true, true, true, true, true, true, true, true, true, true, true, true, true, true, true, true, true]) (Ts' := [(3, .one (.e (.sl 1 0 x2054.length))), (4, I i2055), (5, .one (.e (.sl 2 0 x2057.length))), (6, I i2693), (7, B false), (8, I i3771), (9, I i4033)]) (st' := ⟨[(3, .one (.e (.sl 1 0 x2054.length))), (4, I i2055), (5, .one (.e (.sl 2 0 x2057.length))), (6, I i2693), (7, B false), (8, I i3771), (9, I i4033)], [.row .u8 x1 false, .row .acc x2054 true, .row .int x2057 true]⟩) (n2 := 0) (by kernel_rfl) trivial rfl ?_
            exact WD_done [0, 1, 2] [3, 4, 5, 6, 7, 8, 9] (st' := ⟨[(3, .one (.e (.sl 1 0 x2054.length))), (4, I i2055), (5, .one (.e (.sl 2 0 x2057.length))), (6, I i2693), (7, B false), (8, I i3771), (9, I i4033)], [.row .u8 x1 false, .row .acc x2054 true, .row .int x2057 true]⟩) (by kernel_rfl) (by kernel_rfl) (And.intro rfl (by cases hv4097; rfl))
      · rintro _ _ ⟨rfl, rfl⟩
        refine blockS_n ?_
        refine thenS_n ?_
        refine W_region ?_
        refine WO_step 3 [0, 1, 2] [3, 4, 5, 6, 7, 8, 9] (True ∧ True) ⟨[(3, .one (.e (.sl 1 0 x2054.length))), (4, I i2055), (5, .one (.e (.sl 2 0 x2057.length))), (6, I i2693), (7, B b4096), (8, I i3771), (9, I (w64 (i4033 + 1)))], [.row .u8 x1 false, .row .acc x2054 true, .row .int x2057 true]⟩ (by kernel_rfl) ⟨trivial, trivial⟩ ?_
        refine WO_nil rfl ?_
        refine thenS_n ?_
        exact ih _ _ h
    · refine W_sub [0, 1, 2] [3, 4, 5, 6, 7, 8] (st' := ⟨[(3, .one (.e (.sl 1 0 x2054.length))), (4, I i2055), (5, .one (.e (.sl 2 0 x2057.length))), (6, I i2693), (7, B b4032), (8, I i3771)], [.row .u8 x1 false, .row .acc x2054 true, .row .int x2057 true]⟩) (by kernel_rfl) ?_
      refine W_exit ?_
      refine thenS_e ?_
      refine thenS_e ?_
      cases h
      exact And.intro rfl rfl

def laws_FnReadsFrom_L2 (x2054 : List Acc) (i2055 : Int) (x2057 : List Int) (i2693 : Int) (x1 : List Int) : Nat → Bool → Int → Option (Bool)
| 0, _, _ => none
| n + 1, b3770, i3771 =>
 iteO (decide (i3771 < ((x2054.length : Nat) : Int)))
 (bindO (laws_FnReadsFrom_L3 x2054 i2055 x2057 i2693 i3771 x1 n b3770 (w64 (i3771 + 1))) fun b4066 =>
 laws_FnReadsFrom_L2 x2054 i2055 x2057 i2693 x1 n b4066 (w64 (i3771 + 1)))
 (some b3770)

theorem laws_FnReadsFrom_L2_ok (w : World) (X : Nat → Prop) (θ : List Loc) (x2054 : List Acc) (i2055 : Int) (x2057 : List Int) (i2693 : Int) (x1 : List Int) (b3920 : Bool) : ∀ (n : Nat) (b3770 : Bool) (i3771 : Int), laws_FnReadsFrom_L2 x2054 i2055 x2057 i2693 x1 n b3770 i3771 = some b3920 → WL EE ⟨w, X, θ, 113, 1⟩ (subC [1, 1, 1, 1, 1, 0, 1, 4, 4, 1, 0, 4, 1, 0, 1, 4, 4] (bodyC Try.f4)) (fun (e : Exit) (s : St) => e = .exit 2 ∧ s = ⟨[(3, .one (.e (.sl 1 0 x2054.length))), (4, I i2055), (5, .one (.e (.sl 2 0 x2057.length))), (6, I i2693), (7, B b3920)], [.row .u8 x1 false, .row .acc x2054 true, .row .int x2057 true]⟩) ⟨[(3, .one (.e (.sl 1 0 x2054.length))), (4, I i2055), (5, .one (.e (.sl 2 0 x2057.length))), (6, I i2693), (7, B b3770), (8, I i3771)], [.row .u8 x1 false, .row .acc x2054 true, .row .int x2057 true]⟩ := by
  intro n
  induction n with
  | zero => intro _ _ h; exact none_e h
  | succ n ih =>
    intro b3770 i3771 h
    rw [laws_FnReadsFrom_L2] at h
    refine WL_round ?_
    refine W_seq ?_
    refine W_seq ?_
    refine W_region ?_
    refine WO_step 4 [0, 1, 2] [3, 4, 5, 6, 7, 8, 46] (True ∧ (True ∧ True)) ⟨[(3, .one (.e (.sl 1 0 x2054.length))), (4, I i2055), (5, .one (.e (.sl 2 0 x2057.length))), (6, I i2693), (7, B b3770), (8, I i3771), (46, B (decide (i3771 < ((x2054.length : Nat) : Int))))], [.row .u8 x1 false, .row .acc x2054 true, .row .int x2057 true]⟩ (by kernel_rfl) ⟨trivial, trivial, trivial⟩ ?_
    refine WO_nil rfl ?_
    refine thenS_n ?_
    refine iteO_e h (fun hb3923 h => W_true rfl hb3923 ?_) (fun hb3923 h => W_false rfl hb3923 ?_)
    · refine W_sub [0, 1, 2] [3, 4, 5, 6, 7, 8] (st' := ⟨[(3, .one (.e (.sl 1 0 x2054.length))), (4, I i2055), (5, .one (.e (.sl 2 0 x2057.length))), (6, I i2693), (7, B b3770), (8, I i3771)], [.row .u8 x1 false, .row .acc x2054 true, .row .int x2057 true]⟩) (by kernel_rfl) ?_
      refine W_skip ?_
      refine thenS_n ?_
      refine W_seq ?_
      refine W_block ?_
      refine W_seq ?_
      refine W_region ?_
      refine WO_step 3 [0, 1, 2] [3, 4, 5, 6, 7, 8, 9] (True ∧ True) ⟨[(3, .one (.e (.sl 1 0 x2054.length))), (4, I i2055), (5, .one (.e (.sl 2 0 x2057.length))), (6, I i2693), (7, B b3770), (8, I i3771), (9, I (w64 (i3771 + 1)))], [.row .u8 x1 false, .row .acc x2054 true, .row .int x2057 true]⟩ (by kernel_rfl) ⟨trivial, trivial⟩ ?_
      refine WO_nil rfl ?_
      refine thenS_n ?_
      refine W_block ?_
      refine W_loop ?_
      refine bindO_e h (fun b4066 hb4066 h => ?_)
      refine WL_cut (laws_FnReadsFrom_L3_ok w X θ x2054 i2055 x2057 i2693 i3771 x1 b4066 n b3770 (w64 (i3771 + 1)) hb4066) ?_
      rintro _ _ ⟨rfl, rfl⟩
      refine blockS_y ?_
      refine blockS_n ?_
      refine thenS_n ?_
      refine W_region ?_
      refine WO_step 3 [0, 1, 2] [3, 4, 5, 6, 7, 8] (True ∧ True) ⟨[(3, .one (.e (.sl 1 0 x2054.length))), (4, I i2055), (5, .one (.e (.sl 2 0 x2057.length))), (6, I i2693), (7, B b4066), (8, I (w64 (i3771 + 1)))], [.row .u8 x1 false, .row .acc x2054 true, .row .int x2057 true]⟩ (by kernel_rfl) ⟨trivial, trivial⟩ ?_
      refine WO_nil rfl ?_
      refine thenS_n ?_
      exact ih _ _ h
    · refine W_sub [0, 1, 2] [3, 4, 5, 6, 7] (st' := ⟨[(3, .one (.e (.sl 1 0 x2054.length))), (4, I i2055), (5, .one (.e (.sl 2 0 x2057.length))), (6, I i2693), (7, B b3770)], [.row .u8 x1 false, .row .acc x2054 true, .row .int x2057 true]⟩) (by kernel_rfl) ?_
      refine W_exit ?_
      refine thenS_e ?_
      refine thenS_e ?_
      cases h
      exact And.intro rfl rfl

def laws_FnReadsFrom_L1 (x2054 : List Acc) (i2055 : Int) (x2057 : List Int) (x1 : List Int) : Nat → Int → Option ((Unit) ⊕ (Unit))
| 0, _ => none
| n + 1, i2693 =>
 iteO (decide (i2693 < ((x2057.length : Nat) : Int)))
 (bindO (laws_FnReadsFrom_L2 x2054 i2055 x2057 i2693 x1 n false 0) fun b3920 =>
 iteO (!b3920)
 (some (.inl ()))
 (laws_FnReadsFrom_L1 x2054 i2055 x2057 x1 n (w64 (i2693 + 1))))
 (some (.inr ()))

theorem laws_FnReadsFrom_L1_ok (w : World) (X : Nat → Prop) (θ : List Loc) (x2054 : List Acc) (i2055 : Int) (x2057 : List Int) (x1 : List Int) (v : (Unit) ⊕ (Unit)) : ∀ (n : Nat) (i2693 : Int), laws_FnReadsFrom_L1 x2054 i2055 x2057 x1 n i2693 = some v → WL EE ⟨w, X, θ, 113, 1⟩ (subC [1, 1, 1, 1, 1, 0, 1, 4, 4] (bodyC Try.f4)) (fun (e : Exit) (s : St) => (match v with | (.inl _) => e = .ret ∧ s = ⟨[(2, B false)], [.row .u8 x1 false]⟩ | (.inr _) => e = .exit 0 ∧ s = ⟨[(4, I i2055), (5, .one (.e (.sl 1 0 x2057.length)))], [.row .u8 x1 false, .row .int x2057 true]⟩ : Prop)) ⟨[(3, .one (.e (.sl 1 0 x2054.length))), (4, I i2055), (5, .one (.e (.sl 2 0 x2057.length))), (6, I i2693)], [.row .u8 x1 false, .row .acc x2054 true, .row .int x2057 true]⟩ := by
  intro n
  induction n with
  | zero => intro _ h; exact none_e h
  | succ n ih =>
    intro i2693 h
    rw [laws_FnReadsFrom_L1] at h
    refine WL_round ?_
    refine W_seq ?_
    refine W_seq ?_
    refine W_region ?_
    refine WO_step 4 [0, 1, 2] [3, 4, 5, 6, 40] (True ∧ (True ∧ True)) ⟨[(3, .one (.e (.sl 1 0 x2054.length))), (4, I i2055), (5, .one (.e (.sl 2 0 x2057.length))), (6, I i2693), (40, B (decide (i2693 < ((x2057.length : Nat) : Int))))], [.row .u8 x1 false, .row .acc x2054 true, .row .int x2057 true]⟩ (by kernel_rfl) ⟨trivial, trivial, trivial⟩ ?_
    refine WO_nil rfl ?_
    refine thenS_n ?_
    refine iteO_e h (fun hb3311 h => W_true rfl hb3311 ?_) (fun hb3311 h => W_false rfl hb3311 ?_)
    · refine W_sub [0, 1, 2] [3, 4, 5, 6] (st' := ⟨[(3, .one (.e (.sl 1 0 x2054.length))), (4, I i2055), (5, .one (.e (.sl 2 0 x2057.length))), (6, I i2693)], [.row .u8 x1 false, .row .acc x2054 true, .row .int x2057 true]⟩) (by kernel_rfl) ?_
      refine W_skip ?_
      refine thenS_n ?_
      refine W_seq ?_
      refine W_block ?_
      refine W_seq ?_
      refine W_region ?_
      refine WO_step 1 [0, 1, 2] [3, 4, 5, 6, 7] True ⟨[(3, .one (.e (.sl 1 0 x2054.length))), (4, I i2055), (5, .one (.e (.sl 2 0 x2057.length))), (6, I i2693), (7, B false)], [.row .u8 x1 false, .row .acc x2054 true, .row .int x2057 true]⟩ (by kernel_rfl) trivial ?_
      refine WO_nil rfl ?_
      refine thenS_n ?_
      refine W_seq ?_
      refine W_seq ?_
      refine W_region ?_
      refine WO_step 1 [0, 1, 2] [3, 4, 5, 6, 7, 8] True ⟨[(3, .one (.e (.sl 1 0 x2054.length))), (4, I i2055), (5, .one (.e (.sl 2 0 x2057.length))), (6, I i2693), (7, B false), (8, I 0)], [.row .u8 x1 false, .row .acc x2054 true, .row .int x2057 true]⟩ (by kernel_rfl) trivial ?_
      refine WO_nil rfl ?_
      refine thenS_n ?_
      refine W_block ?_
      refine W_loop ?_
      refine bindO_e h (fun b3920 hb3920 h => ?_)
      refine WL_cut (laws_FnReadsFrom_L2_ok w X θ x2054 i2055 x2057 i2693 x1 b3920 n false 0 hb3920) ?_
      rintro _ _ ⟨rfl, rfl⟩
      refine blockS_y ?_
      refine thenS_n ?_
      refine W_seq ?_
      refine W_region ?_
      refine WO_step 2 [0, 1, 2] [3, 4, 5, 6, 108] True ⟨[(3, .one (.e (.sl 1 0 x2054.length))), (4, I i2055), (5, .one (.e (.sl 2 0 x2057.length))), (6, I i2693), (108, B (!b3920))], [.row .u8 x1 false, .row .acc x2054 true, .row .int x2057 true]⟩ (by kernel_rfl) trivial ?_
      refine WO_nil rfl ?_
      refine thenS_n ?_
      refine iteO_e h (fun hb4101 h => W_true rfl hb4101 ?_) (fun hb4101 h => W_false rfl hb4101 ?_)
      · refine W_seq ?_
        refine W_region ?_
        refine WO_step 1 [0] [2] True ⟨[(2, B false)], [.row .u8 x1 false]⟩ (by kernel_rfl) trivial ?_
        refine WO_nil rfl ?_
        refine thenS_n ?_
        refine W_ret ?_
        refine blockS_r ?_
        refine thenS_r ?_
        refine thenS_r ?_
        cases h
        exact And.intro rfl rfl
      · refine W_sub [0, 1, 2] [3, 4, 5, 6] (st' := ⟨[(3, .one (.e (.sl 1 0 x2054.length))), (4, I i2055), (5, .one (.e (.sl 2 0 x2057.length))), (6, I i2693)], [.row .u8 x1 false, .row .acc x2054 true, .row .int x2057 true]⟩) (by kernel_rfl) ?_
        refine W_skip ?_
        refine blockS_n ?_
        refine thenS_n ?_
        refine W_region ?_
        refine WO_step 3 [0, 1, 2] [3, 4, 5, 6] (True ∧ True) ⟨[(3, .one (.e (.sl 1 0 x2054.length))), (4, I i2055), (5, .one (.e (.sl 2 0 x2057.length))), (6, I (w64 (i2693 + 1)))], [.row .u8 x1 false, .row .acc x2054 true, .row .int x2057 true]⟩ (by kernel_rfl) ⟨trivial, trivial⟩ ?_
        refine WO_nil rfl ?_
        refine thenS_n ?_
        exact ih _ h
    · refine W_sub [0, 2] [4, 5] (st' := ⟨[(4, I i2055), (5, .one (.e (.sl 1 0 x2057.length)))], [.row .u8 x1 false, .row .int x2057 true]⟩) (by kernel_rfl) ?_
      refine W_exit ?_
      refine thenS_e ?_
      refine thenS_e ?_
      cases h
      exact And.intro rfl rfl

def laws_FnReadsFrom (n : Nat) (x1 : List Int) : Option (Bool) :=
 iteO (decide (1048576 < ((x1.length : Nat) : Int)))
 (some true)
 (bindO (spec_DrawReadsFrom n x1) fun (x2054, i2055) =>
 bindO (impl_ReadsFrom n x2054 i2055) fun x2057 =>
 bindO (spec_ReadsFrom n x2054 i2055) fun x2059 =>
 bindO (laws_equalInts n x2057 x2059) fun b2061 =>
 iteO ((!b2061) || (decide (((x2057.length : Nat) : Int) = 0)))
 (bindO (spec_ReadsFrom n x2054 i2055) fun x2072 =>
 bindO (laws_equalInts n x2057 x2072) fun b2074 =>
 some b2074)
 (bindO (laws_FnReadsFrom_L1 x2054 i2055 x2057 x1 n 0) fun v4102 =>
 match v4102 with
 | (.inl _) => (some false)
 | (.inr _) => (bindO (laws_isIn n x2057 i2055) fun b4103 =>
 some (!b4103))
))

theorem laws_FnReadsFrom_ok (n : Nat) (x1 : List Int) (b2051 : Bool) (h : laws_FnReadsFrom n x1 = some b2051) : FOk EE 4 [.one (.e (.sl 0 0 x1.length))] [.row .u8 x1 false] (B b2051) [.row .u8 x1 false] := by
  unfold laws_FnReadsFrom at h
  refine FOk_of_W 113 1 Try.func4 rfl rfl (Nat.le_of_ble_eq_true rfl) rfl (fun w X θ => ?_)
  refine W_seq ?_
  refine W_region ?_
  refine WO_step 1 [0] [0] True ⟨[(0, .one (.e (.sl 0 0 x1.length)))], [.row .u8 x1 false]⟩ (by kernel_rfl) trivial ?_
  refine WO_nil rfl ?_
  refine thenS_n ?_
  refine W_seq ?_
  refine W_seq ?_
  refine W_region ?_
  refine WO_step 3 [0] [0, 12] (True ∧ (True ∧ True)) ⟨[(0, .one (.e (.sl 0 0 x1.length))), (12, B (decide (1048576 < ((x1.length : Nat) : Int))))], [.row .u8 x1 false]⟩ (by kernel_rfl) ⟨trivial, trivial, trivial⟩ ?_
  refine WO_nil rfl ?_
  refine thenS_n ?_
  refine iteO_e h (fun hb2053 h => W_true rfl hb2053 ?_) (fun hb2053 h => W_false rfl hb2053 ?_)
  · refine W_seq ?_
    refine W_region ?_
    refine WO_step 1 [0] [2] True ⟨[(2, B true)], [.row .u8 x1 false]⟩ (by kernel_rfl) trivial ?_
    refine WO_nil rfl ?_
    refine thenS_n ?_
    refine W_ret ?_
    refine thenS_r ?_
    cases h
    exact ⟨[0], True, by kernel_rfl, trivial⟩
  · refine W_sub [0] [0] (st' := ⟨[(0, .one (.e (.sl 0 0 x1.length)))], [.row .u8 x1 false]⟩) (by kernel_rfl) ?_
    refine W_skip ?_
    refine thenS_n ?_
    refine W_seq ?_
    refine W_region ?_
    refine WO_step 1 [0] [14] True ⟨[(14, .one (.e (.sl 0 0 x1.length)))], [.row .u8 x1 false]⟩ (by kernel_rfl) trivial ?_
    refine bindO_e h (fun v4105 hc2056 h => ?_)
    obtain ⟨x2054, i2055⟩ := v4105
    refine WO_call [.ro 0] Try.f15 rfl rfl rfl (by kernel_rfl) rfl rfl (by kernel_rfl) (spec_DrawReadsFrom_ok n x1 x2054 i2055 hc2056) (And.intro (And.intro rfl rfl) (trivial)) rfl ?_
    refine WO_step 5 [0, 1] [3, 4] True ⟨[(3, .one (.e (.sl 1 0 x2054.length))), (4, I i2055)], [.row .u8 x1 false, .row .acc x2054 true]⟩ (by kernel_rfl) trivial ?_
    refine WO_nil rfl ?_
    refine thenS_n ?_
    refine W_seq ?_
    refine W_region ?_
    refine WO_step 2 [0, 1] [3, 4, 18, 19] True ⟨[(3, .one (.e (.sl 1 0 x2054.length))), (4, I i2055), (18, .one (.e (.sl 1 0 x2054.length))), (19, I i2055)], [.row .u8 x1 false, .row .acc x2054 true]⟩ (by kernel_rfl) trivial ?_
    refine bindO_e h (fun x2057 hc2058 h => ?_)
    refine WO_call [.ro 1] Try.f16 rfl rfl rfl (by kernel_rfl) rfl rfl (by kernel_rfl) (impl_ReadsFrom_ok n x2054 i2055 x2057 hc2058) (And.intro (And.intro rfl rfl) (trivial)) rfl ?_
    refine WO_step 1 [0, 1, 2] [3, 4, 5] True ⟨[(3, .one (.e (.sl 1 0 x2054.length))), (4, I i2055), (5, .one (.e (.sl 2 0 x2057.length)))], [.row .u8 x1 false, .row .acc x2054 true, .row .int x2057 true]⟩ (by kernel_rfl) trivial ?_
    refine WO_nil rfl ?_
    refine thenS_n ?_
    refine W_seq ?_
    refine W_seq ?_
    refine W_region ?_
    refine WO_step 3 [0, 1, 2] [3, 4, 5, 21, 22, 23] True ⟨[(3, .one (.e (.sl 1 0 x2054.length))), (4, I i2055), (5, .one (.e (.sl 2 0 x2057.length))), (21, .one (.e (.sl 2 0 x2057.length))), (22, .one (.e (.sl 1 0 x2054.length))), (23, I i2055)], [.row .u8 x1 false, .row .acc x2054 true, .row .int x2057 true]⟩ (by kernel_rfl) trivial ?_
    refine bindO_e h (fun x2059 hc2060 h => ?_)
    refine WO_call [.ro 1] Try.f18 rfl rfl rfl (by kernel_rfl) rfl rfl (by kernel_rfl) (spec_ReadsFrom_ok n x2054 i2055 x2059 hc2060) (And.intro (And.intro rfl rfl) (trivial)) rfl ?_
    refine WO_sub [0, 1, 2, 3] [3, 4, 5, 21, 24] (st' := ⟨[(3, .one (.e (.sl 1 0 x2054.length))), (4, I i2055), (5, .one (.e (.sl 2 0 x2057.length))), (21, .one (.e (.sl 2 0 x2057.length))), (24, .one (.e (.sl 3 0 x2059.length)))], [.row .u8 x1 false, .row .acc x2054 true, .row .int x2057 true, .row .int x2059 true]⟩) (by kernel_rfl) ?_
    refine bindO_e h (fun b2061 hc2062 h => ?_)
    refine WO_call [.ro 2, .ro 3] Try.f17 rfl rfl rfl (by kernel_rfl) rfl rfl (by kernel_rfl) (laws_equalInts_ok n x2057 x2059 b2061 hc2062) (And.intro (And.intro rfl rfl) (And.intro (And.intro rfl rfl) (trivial))) rfl ?_
    refine WO_step 2 [0, 1, 2] [3, 4, 5, 27] True ⟨[(3, .one (.e (.sl 1 0 x2054.length))), (4, I i2055), (5, .one (.e (.sl 2 0 x2057.length))), (27, B (!b2061))], [.row .u8 x1 false, .row .acc x2054 true, .row .int x2057 true]⟩ (by kernel_rfl) trivial ?_
    refine WO_thru ⟨[(3, .one (.e (.sl 1 0 x2054.length))), (4, I i2055), (5, .one (.e (.sl 2 0 x2057.length))), (31, B ((!b2061) || (decide (((x2057.length : Nat) : Int) = 0))))], [.row .u8 x1 false, .row .acc x2054 true, .row .int x2057 true]⟩ ?_ ?_
    · refine WO_if 27 rfl (fun hb2065 => ?_) (fun hb2065 => ?_)
      · refine WO_step 4 [0, 1, 2] [3, 4, 5, 31] True ⟨[(3, .one (.e (.sl 1 0 x2054.length))), (4, I i2055), (5, .one (.e (.sl 2 0 x2057.length))), (31, B true)], [.row .u8 x1 false, .row .acc x2054 true, .row .int x2057 true]⟩ (by kernel_rfl) trivial ?_
        exact WO_nil rfl ⟨rfl, by first | rfl | (rw [hb2065]; first | done | rfl)⟩
      · refine WO_step 4 [0, 1, 2] [3, 4, 5, 31] (True ∧ (True ∧ True)) ⟨[(3, .one (.e (.sl 1 0 x2054.length))), (4, I i2055), (5, .one (.e (.sl 2 0 x2057.length))), (31, B (decide (((x2057.length : Nat) : Int) = 0)))], [.row .u8 x1 false, .row .acc x2054 true, .row .int x2057 true]⟩ (by kernel_rfl) ⟨trivial, trivial, trivial⟩ ?_
        exact WO_nil rfl ⟨rfl, by first | rfl | (rw [hb2065]; first | done | rfl)⟩
    · refine thenS_n ?_
      refine iteO_e h (fun hb2071 h => W_true rfl hb2071 ?_) (fun hb2071 h => W_false rfl hb2071 ?_)
      · refine W_seq ?_
        refine W_region ?_
        refine WO_step 3 [0, 2, 1] [32, 33, 34] True ⟨[(32, .one (.e (.sl 1 0 x2057.length))), (33, .one (.e (.sl 2 0 x2054.length))), (34, I i2055)], [.row .u8 x1 false, .row .int x2057 true, .row .acc x2054 true]⟩ (by kernel_rfl) trivial ?_
        refine bindO_e h (fun x2072 hc2073 h => ?_)
        refine WO_call [.ro 2] Try.f18 rfl rfl rfl (by kernel_rfl) rfl rfl (by kernel_rfl) (spec_ReadsFrom_ok n x2054 i2055 x2072 hc2073) (And.intro (And.intro rfl rfl) (trivial)) rfl ?_
        refine WO_sub [0, 1, 3] [32, 35] (st' := ⟨[(32, .one (.e (.sl 1 0 x2057.length))), (35, .one (.e (.sl 2 0 x2072.length)))], [.row .u8 x1 false, .row .int x2057 true, .row .int x2072 true]⟩) (by kernel_rfl) ?_
        refine bindO_e h (fun b2074 hc2075 h => ?_)
        refine WO_call [.ro 1, .ro 2] Try.f17 rfl rfl rfl (by kernel_rfl) rfl rfl (by kernel_rfl) (laws_equalInts_ok n x2057 x2072 b2074 hc2075) (And.intro (And.intro rfl rfl) (And.intro (And.intro rfl rfl) (trivial))) rfl ?_
        refine WO_step 1 [0] [2] True ⟨[(2, B b2074)], [.row .u8 x1 false]⟩ (by kernel_rfl) trivial ?_
        refine WO_nil rfl ?_
        refine thenS_n ?_
        refine W_ret ?_
        refine thenS_r ?_
        cases h
        exact ⟨[0], True, by kernel_rfl, trivial⟩
      · refine W_sub [0, 1, 2] [3, 4, 5] (st' := ⟨[(3, .one (.e (.sl 1 0 x2054.length))), (4, I i2055), (5, .one (.e (.sl 2 0 x2057.length)))], [.row .u8 x1 false, .row .acc x2054 true, .row .int x2057 true]⟩) (by kernel_rfl) ?_
        refine W_skip ?_
        refine thenS_n ?_
        refine W_seq ?_
        refine W_seq ?_
        refine W_region ?_
        refine WO_step 1 [0, 1, 2] [3, 4, 5, 6] True ⟨[(3, .one (.e (.sl 1 0 x2054.length))), (4, I i2055), (5, .one (.e (.sl 2 0 x2057.length))), (6, I 0)], [.row .u8 x1 false, .row .acc x2054 true, .row .int x2057 true]⟩ (by kernel_rfl) trivial ?_
        refine WO_nil rfl ?_
        refine thenS_n ?_
        refine W_block ?_
        refine W_loop ?_
        refine bindO_e h (fun v4102 hv4102 h => ?_)
        refine WL_cut (laws_FnReadsFrom_L1_ok w X θ x2054 i2055 x2057 x1 v4102 n 0 hv4102) ?_
        rcases v4102 with _ | _
        · rintro _ _ ⟨rfl, rfl⟩
          refine blockS_r ?_
          refine thenS_r ?_
          cases h
          exact ⟨[0], True, by kernel_rfl, trivial⟩
        · rintro _ _ ⟨rfl, rfl⟩
          refine blockS_y ?_
          refine thenS_n ?_
          refine W_seq ?_
          refine W_region ?_
          refine WO_step 2 [0, 1] [109, 110] True ⟨[(109, .one (.e (.sl 1 0 x2057.length))), (110, I i2055)], [.row .u8 x1 false, .row .int x2057 true]⟩ (by kernel_rfl) trivial ?_
          refine bindO_e h (fun b4103 hc4104 h => ?_)
          refine WO_call [.ro 1] Try.f20 rfl rfl rfl (by kernel_rfl) rfl rfl (by kernel_rfl) (laws_isIn_ok n x2057 i2055 b4103 hc4104) (And.intro (And.intro rfl rfl) (trivial)) rfl ?_
          refine WO_step 2 [0] [2] True ⟨[(2, B (!b4103))], [.row .u8 x1 false]⟩ (by kernel_rfl) trivial ?_
          refine WO_nil rfl ?_
          refine thenS_n ?_
          refine W_ret ?_
          cases h
          exact ⟨[0], True, by kernel_rfl, trivial⟩

/- laws.FnReadsFromShort -/
def laws_FnReadsFromShort_L1 (x85 : List Int) (x112 : List Int) (x1 : List Int) : Nat → Int → Option ((Unit) ⊕ (Unit))
| 0, _ => none
| n + 1, i129 =>
 iteO (decide (i129 < ((x112.length : Nat) : Int)))
 (guardO (0 ≤ i129 ∧ i129 < ((x112.length : Nat) : Int)) <|
 bindO (laws_isIn n x85 (x112.getD i129.toNat 0)) fun b152 =>
 iteO (!b152)
 (some (.inl ()))
 (laws_FnReadsFromShort_L1 x85 x112 x1 n (w64 (i129 + 1))))
 (some (.inr ()))

theorem laws_FnReadsFromShort_L1_ok (w : World) (X : Nat → Prop) (θ : List Loc) (x85 : List Int) (x112 : List Int) (x1 : List Int) (v : (Unit) ⊕ (Unit)) : ∀ (n : Nat) (i129 : Int), laws_FnReadsFromShort_L1 x85 x112 x1 n i129 = some v → WL EE ⟨w, X, θ, 66, 1⟩ (subC [1, 1, 1, 1, 1, 1, 0, 1, 4, 4] (bodyC Try.f5)) (fun (e : Exit) (s : St) => (match v with | (.inl _) => e = .ret ∧ s = ⟨[(2, B false)], [.row .u8 x1 false]⟩ | (.inr _) => e = .exit 0 ∧ s = ⟨[(5, .one (.e (.sl 1 0 x85.length))), (6, .one (.e (.sl 2 0 x112.length)))], [.row .u8 x1 false, .row .int x85 true, .row .int x112 true]⟩ : Prop)) ⟨[(5, .one (.e (.sl 1 0 x85.length))), (6, .one (.e (.sl 2 0 x112.length))), (7, I i129)], [.row .u8 x1 false, .row .int x85 true, .row .int x112 true]⟩ := by
  intro n
  induction n with
  | zero => intro _ h; exact none_e h
  | succ n ih =>
    intro i129 h
    rw [laws_FnReadsFromShort_L1] at h
    refine WL_round ?_
    refine W_seq ?_
    refine W_seq ?_
    refine W_region ?_
    refine WO_step 4 [0, 1, 2] [5, 6, 7, 50] (True ∧ (True ∧ True)) ⟨[(5, .one (.e (.sl 1 0 x85.length))), (6, .one (.e (.sl 2 0 x112.length))), (7, I i129), (50, B (decide (i129 < ((x112.length : Nat) : Int))))], [.row .u8 x1 false, .row .int x85 true, .row .int x112 true]⟩ (by kernel_rfl) ⟨trivial, trivial, trivial⟩ ?_
    refine WO_nil rfl ?_
    refine thenS_n ?_
    refine iteO_e h (fun hb145 h => W_true rfl hb145 ?_) (fun hb145 h => W_false rfl hb145 ?_)
    · refine W_sub [0, 1, 2] [5, 6, 7] (st' := ⟨[(5, .one (.e (.sl 1 0 x85.length))), (6, .one (.e (.sl 2 0 x112.length))), (7, I i129)], [.row .u8 x1 false, .row .int x85 true, .row .int x112 true]⟩) (by kernel_rfl) ?_
      refine W_skip ?_
      refine thenS_n ?_
      refine W_seq ?_
      refine W_block ?_
      refine W_seq ?_
      refine W_region ?_
      refine guardO_e h (fun hg151 h => ?_)
      refine WO_step 5 [0, 1, 2] [5, 6, 7, 53, 57] ((0 ≤ i129 ∧ i129 < ((x112.length : Nat) : Int)) ∧ (True ∧ True)) ⟨[(5, .one (.e (.sl 1 0 x85.length))), (6, .one (.e (.sl 2 0 x112.length))), (7, I i129), (53, .one (.e (.sl 1 0 x85.length))), (57, I (x112.getD i129.toNat 0))], [.row .u8 x1 false, .row .int x85 true, .row .int x112 true]⟩ (by kernel_rfl) ⟨hg151, trivial, trivial⟩ ?_
      refine bindO_e h (fun b152 hc153 h => ?_)
      refine WO_call [.ro 1] Try.f20 rfl rfl rfl (by kernel_rfl) rfl rfl (by kernel_rfl) (laws_isIn_ok n x85 (x112.getD i129.toNat 0) b152 hc153) (And.intro (And.intro rfl rfl) (trivial)) rfl ?_
      refine WO_step 1 [0, 1, 2] [5, 6, 7, 59] True ⟨[(5, .one (.e (.sl 1 0 x85.length))), (6, .one (.e (.sl 2 0 x112.length))), (7, I i129), (59, B (!b152))], [.row .u8 x1 false, .row .int x85 true, .row .int x112 true]⟩ (by kernel_rfl) trivial ?_
      refine WO_nil rfl ?_
      refine thenS_n ?_
      refine iteO_e h (fun hb155 h => W_true rfl hb155 ?_) (fun hb155 h => W_false rfl hb155 ?_)
      · refine W_seq ?_
        refine W_region ?_
        refine WO_step 1 [0] [2] True ⟨[(2, B false)], [.row .u8 x1 false]⟩ (by kernel_rfl) trivial ?_
        refine WO_nil rfl ?_
        refine thenS_n ?_
        refine W_ret ?_
        refine blockS_r ?_
        refine thenS_r ?_
        refine thenS_r ?_
        cases h
        exact And.intro rfl rfl
      · refine W_sub [0, 1, 2] [5, 6, 7] (st' := ⟨[(5, .one (.e (.sl 1 0 x85.length))), (6, .one (.e (.sl 2 0 x112.length))), (7, I i129)], [.row .u8 x1 false, .row .int x85 true, .row .int x112 true]⟩) (by kernel_rfl) ?_
        refine W_skip ?_
        refine blockS_n ?_
        refine thenS_n ?_
        refine W_region ?_
        refine WO_step 3 [0, 1, 2] [5, 6, 7] (True ∧ True) ⟨[(5, .one (.e (.sl 1 0 x85.length))), (6, .one (.e (.sl 2 0 x112.length))), (7, I (w64 (i129 + 1)))], [.row .u8 x1 false, .row .int x85 true, .row .int x112 true]⟩ (by kernel_rfl) ⟨trivial, trivial⟩ ?_
        refine WO_nil rfl ?_
        refine thenS_n ?_
        exact ih _ h
    · refine W_sub [0, 1, 2] [5, 6] (st' := ⟨[(5, .one (.e (.sl 1 0 x85.length))), (6, .one (.e (.sl 2 0 x112.length)))], [.row .u8 x1 false, .row .int x85 true, .row .int x112 true]⟩) (by kernel_rfl) ?_
      refine W_exit ?_
      refine thenS_e ?_
      refine thenS_e ?_
      cases h
      exact And.intro rfl rfl

def laws_FnReadsFromShort (n : Nat) (x1 : List Int) : Option (Bool) :=
 iteO (decide (1048576 < ((x1.length : Nat) : Int)))
 (some true)
 (bindO (spec_DrawReadsFrom n x1) fun (x82, i83) =>
 bindO (impl_ReadsFrom n x82 i83) fun x85 =>
 bindO (spec_ReadsFrom n x82 i83) fun x87 =>
 bindO (laws_equalInts n x85 x87) fun b89 =>
 bindO (iteO (!b89)
 (some true)
 (bindO (impl_ValidAccesses n x82) fun b98 =>
 iteO (!b98)
 (some true)
 (some (decide (((x82.length : Nat) : Int) = 0))))) fun b95 =>
 iteO b95
 (bindO (spec_ReadsFrom n x82 i83) fun x107 =>
 bindO (laws_equalInts n x85 x107) fun b109 =>
 some b109)
 (guardO (0 ≤ (w64 (((x82.length : Nat) : Int) - 1)) ∧ (w64 (((x82.length : Nat) : Int) - 1)) ≤ ((x82.length : Nat) : Int)) <|
 bindO (impl_ReadsFrom n ((x82.drop 0).take ((w64 (((x82.length : Nat) : Int) - 1)).toNat)) i83) fun x112 =>
 bindO (laws_FnReadsFromShort_L1 x85 x112 x1 n 0) fun v156 =>
 match v156 with
 | (.inl _) => (some false)
 | (.inr _) => (some (decide (((x85.length : Nat) : Int) ≤ (w64 (((x112.length : Nat) : Int) + 1)))))
))

theorem laws_FnReadsFromShort_ok (n : Nat) (x1 : List Int) (b79 : Bool) (h : laws_FnReadsFromShort n x1 = some b79) : FOk EE 5 [.one (.e (.sl 0 0 x1.length))] [.row .u8 x1 false] (B b79) [.row .u8 x1 false] := by
  unfold laws_FnReadsFromShort at h
  refine FOk_of_W 66 1 Try.func5 rfl rfl (Nat.le_of_ble_eq_true rfl) rfl (fun w X θ => ?_)
  refine W_seq ?_
  refine W_region ?_
  refine WO_step 1 [0] [0] True ⟨[(0, .one (.e (.sl 0 0 x1.length)))], [.row .u8 x1 false]⟩ (by kernel_rfl) trivial ?_
  refine WO_nil rfl ?_
  refine thenS_n ?_
  refine W_seq ?_
  refine W_seq ?_
  refine W_region ?_
  refine WO_step 3 [0] [0, 10] (True ∧ (True ∧ True)) ⟨[(0, .one (.e (.sl 0 0 x1.length))), (10, B (decide (1048576 < ((x1.length : Nat) : Int))))], [.row .u8 x1 false]⟩ (by kernel_rfl) ⟨trivial, trivial, trivial⟩ ?_
  refine WO_nil rfl ?_
  refine thenS_n ?_
  refine iteO_e h (fun hb81 h => W_true rfl hb81 ?_) (fun hb81 h => W_false rfl hb81 ?_)
  · refine W_seq ?_
    refine W_region ?_
    refine WO_step 1 [0] [2] True ⟨[(2, B true)], [.row .u8 x1 false]⟩ (by kernel_rfl) trivial ?_
    refine WO_nil rfl ?_
    refine thenS_n ?_
    refine W_ret ?_
    refine thenS_r ?_
    cases h
    exact ⟨[0], True, by kernel_rfl, trivial⟩
  · refine W_sub [0] [0] (st' := ⟨[(0, .one (.e (.sl 0 0 x1.length)))], [.row .u8 x1 false]⟩) (by kernel_rfl) ?_
    refine W_skip ?_
    refine thenS_n ?_
    refine W_seq ?_
    refine W_region ?_
    refine WO_step 1 [0] [12] True ⟨[(12, .one (.e (.sl 0 0 x1.length)))], [.row .u8 x1 false]⟩ (by kernel_rfl) trivial ?_
    refine bindO_e h (fun v157 hc84 h => ?_)
    obtain ⟨x82, i83⟩ := v157
    refine WO_call [.ro 0] Try.f15 rfl rfl rfl (by kernel_rfl) rfl rfl (by kernel_rfl) (spec_DrawReadsFrom_ok n x1 x82 i83 hc84) (And.intro (And.intro rfl rfl) (trivial)) rfl ?_
    refine WO_step 5 [0, 1] [3, 4] True ⟨[(3, .one (.e (.sl 1 0 x82.length))), (4, I i83)], [.row .u8 x1 false, .row .acc x82 true]⟩ (by kernel_rfl) trivial ?_
    refine WO_nil rfl ?_
    refine thenS_n ?_
    refine W_seq ?_
    refine W_region ?_
    refine WO_step 2 [0, 1] [3, 4, 16, 17] True ⟨[(3, .one (.e (.sl 1 0 x82.length))), (4, I i83), (16, .one (.e (.sl 1 0 x82.length))), (17, I i83)], [.row .u8 x1 false, .row .acc x82 true]⟩ (by kernel_rfl) trivial ?_
    refine bindO_e h (fun x85 hc86 h => ?_)
    refine WO_call [.ro 1] Try.f16 rfl rfl rfl (by kernel_rfl) rfl rfl (by kernel_rfl) (impl_ReadsFrom_ok n x82 i83 x85 hc86) (And.intro (And.intro rfl rfl) (trivial)) rfl ?_
    refine WO_step 1 [0, 1, 2] [3, 4, 5] True ⟨[(3, .one (.e (.sl 1 0 x82.length))), (4, I i83), (5, .one (.e (.sl 2 0 x85.length)))], [.row .u8 x1 false, .row .acc x82 true, .row .int x85 true]⟩ (by kernel_rfl) trivial ?_
    refine WO_nil rfl ?_
    refine thenS_n ?_
    refine W_seq ?_
    refine W_seq ?_
    refine W_region ?_
    refine WO_step 3 [0, 1, 2] [3, 4, 5, 19, 20, 21] True ⟨[(3, .one (.e (.sl 1 0 x82.length))), (4, I i83), (5, .one (.e (.sl 2 0 x85.length))), (19, .one (.e (.sl 2 0 x85.length))), (20, .one (.e (.sl 1 0 x82.length))), (21, I i83)], [.row .u8 x1 false, .row .acc x82 true, .row .int x85 true]⟩ (by kernel_rfl) trivial ?_
    refine bindO_e h (fun x87 hc88 h => ?_)
    refine WO_call [.ro 1] Try.f18 rfl rfl rfl (by kernel_rfl) rfl rfl (by kernel_rfl) (spec_ReadsFrom_ok n x82 i83 x87 hc88) (And.intro (And.intro rfl rfl) (trivial)) rfl ?_
    refine WO_sub [0, 1, 2, 3] [3, 4, 5, 19, 22] (st' := ⟨[(3, .one (.e (.sl 1 0 x82.length))), (4, I i83), (5, .one (.e (.sl 2 0 x85.length))), (19, .one (.e (.sl 2 0 x85.length))), (22, .one (.e (.sl 3 0 x87.length)))], [.row .u8 x1 false, .row .acc x82 true, .row .int x85 true, .row .int x87 true]⟩) (by kernel_rfl) ?_
    refine bindO_e h (fun b89 hc90 h => ?_)
    refine WO_call [.ro 2, .ro 3] Try.f17 rfl rfl rfl (by kernel_rfl) rfl rfl (by kernel_rfl) (laws_equalInts_ok n x85 x87 b89 hc90) (And.intro (And.intro rfl rfl) (And.intro (And.intro rfl rfl) (trivial))) rfl ?_
    refine WO_step 2 [0, 1, 2] [3, 4, 5, 25] True ⟨[(3, .one (.e (.sl 1 0 x82.length))), (4, I i83), (5, .one (.e (.sl 2 0 x85.length))), (25, B (!b89))], [.row .u8 x1 false, .row .acc x82 true, .row .int x85 true]⟩ (by kernel_rfl) trivial ?_
    refine bindO_e h (fun b95 hv96 h => ?_)
    refine WO_thru ⟨[(3, .one (.e (.sl 1 0 x82.length))), (4, I i83), (5, .one (.e (.sl 2 0 x85.length))), (34, B b95)], [.row .u8 x1 false, .row .acc x82 true, .row .int x85 true]⟩ ?_ ?_
    · refine iteO_e hv96 (fun hb97 hv96 => WO_known 25 true rfl hb97 ?_) (fun hb97 hv96 => WO_known 25 false rfl hb97 ?_)
      · refine WO_step 9 [0, 1, 2] [3, 4, 5, 34] True ⟨[(3, .one (.e (.sl 1 0 x82.length))), (4, I i83), (5, .one (.e (.sl 2 0 x85.length))), (34, B true)], [.row .u8 x1 false, .row .acc x82 true, .row .int x85 true]⟩ (by kernel_rfl) trivial ?_
        cases hv96
        exact WO_nil rfl ⟨rfl, rfl⟩
      · refine WO_step 1 [0, 1, 2] [3, 4, 5, 25, 26] True ⟨[(3, .one (.e (.sl 1 0 x82.length))), (4, I i83), (5, .one (.e (.sl 2 0 x85.length))), (25, B false), (26, .one (.e (.sl 1 0 x82.length)))], [.row .u8 x1 false, .row .acc x82 true, .row .int x85 true]⟩ (by kernel_rfl) trivial ?_
        refine bindO_e hv96 (fun b98 hc99 hv96 => ?_)
        refine WO_call [.ro 1] Try.f19 rfl rfl rfl (by kernel_rfl) rfl rfl (by kernel_rfl) (impl_ValidAccesses_ok n x82 b98 hc99) (And.intro (And.intro rfl rfl) (trivial)) rfl ?_
        refine WO_step 3 [0, 1, 2] [3, 4, 5, 30] True ⟨[(3, .one (.e (.sl 1 0 x82.length))), (4, I i83), (5, .one (.e (.sl 2 0 x85.length))), (30, B (!b98))], [.row .u8 x1 false, .row .acc x82 true, .row .int x85 true]⟩ (by kernel_rfl) trivial ?_
        refine iteO_e hv96 (fun hb100 hv96 => WO_known 30 true rfl hb100 ?_) (fun hb100 hv96 => WO_known 30 false rfl hb100 ?_)
        · refine WO_step 4 [0, 1, 2] [3, 4, 5, 34] True ⟨[(3, .one (.e (.sl 1 0 x82.length))), (4, I i83), (5, .one (.e (.sl 2 0 x85.length))), (34, B true)], [.row .u8 x1 false, .row .acc x82 true, .row .int x85 true]⟩ (by kernel_rfl) trivial ?_
          cases hv96
          exact WO_nil rfl ⟨rfl, rfl⟩
        · refine WO_step 4 [0, 1, 2] [3, 4, 5, 34] (True ∧ (True ∧ True)) ⟨[(3, .one (.e (.sl 1 0 x82.length))), (4, I i83), (5, .one (.e (.sl 2 0 x85.length))), (34, B (decide (((x82.length : Nat) : Int) = 0)))], [.row .u8 x1 false, .row .acc x82 true, .row .int x85 true]⟩ (by kernel_rfl) ⟨trivial, trivial, trivial⟩ ?_
          cases hv96
          exact WO_nil rfl ⟨rfl, rfl⟩
    · refine thenS_n ?_
      refine iteO_e h (fun hb106 h => W_true rfl hb106 ?_) (fun hb106 h => W_false rfl hb106 ?_)
      · refine W_seq ?_
        refine W_region ?_
        refine WO_step 3 [0, 2, 1] [35, 36, 37] True ⟨[(35, .one (.e (.sl 1 0 x85.length))), (36, .one (.e (.sl 2 0 x82.length))), (37, I i83)], [.row .u8 x1 false, .row .int x85 true, .row .acc x82 true]⟩ (by kernel_rfl) trivial ?_
        refine bindO_e h (fun x107 hc108 h => ?_)
        refine WO_call [.ro 2] Try.f18 rfl rfl rfl (by kernel_rfl) rfl rfl (by kernel_rfl) (spec_ReadsFrom_ok n x82 i83 x107 hc108) (And.intro (And.intro rfl rfl) (trivial)) rfl ?_
        refine WO_sub [0, 1, 3] [35, 38] (st' := ⟨[(35, .one (.e (.sl 1 0 x85.length))), (38, .one (.e (.sl 2 0 x107.length)))], [.row .u8 x1 false, .row .int x85 true, .row .int x107 true]⟩) (by kernel_rfl) ?_
        refine bindO_e h (fun b109 hc110 h => ?_)
        refine WO_call [.ro 1, .ro 2] Try.f17 rfl rfl rfl (by kernel_rfl) rfl rfl (by kernel_rfl) (laws_equalInts_ok n x85 x107 b109 hc110) (And.intro (And.intro rfl rfl) (And.intro (And.intro rfl rfl) (trivial))) rfl ?_
        refine WO_step 1 [0] [2] True ⟨[(2, B b109)], [.row .u8 x1 false]⟩ (by kernel_rfl) trivial ?_
        refine WO_nil rfl ?_
        refine thenS_n ?_
        refine W_ret ?_
        refine thenS_r ?_
        cases h
        exact ⟨[0], True, by kernel_rfl, trivial⟩
      · refine W_sub [0, 1, 2] [3, 4, 5] (st' := ⟨[(3, .one (.e (.sl 1 0 x82.length))), (4, I i83), (5, .one (.e (.sl 2 0 x85.length)))], [.row .u8 x1 false, .row .acc x82 true, .row .int x85 true]⟩) (by kernel_rfl) ?_
        refine W_skip ?_
        refine thenS_n ?_
        refine W_seq ?_
        refine W_region ?_
        refine guardO_e h (fun hg111 h => ?_)
        refine WO_step 6 [0, 2, 1] [5, 44, 45] (True ∧ (True ∧ ((0 ≤ (w64 (((x82.length : Nat) : Int) - 1)) ∧ (w64 (((x82.length : Nat) : Int) - 1)) ≤ ((x82.length : Nat) : Int)) ∧ True))) ⟨[(5, .one (.e (.sl 1 0 x85.length))), (44, .one (.e (.sl 2 0 ((w64 (((x82.length : Nat) : Int) - 1)).toNat)))), (45, I i83)], [.row .u8 x1 false, .row .int x85 true, .row .acc x82 true]⟩ (by kernel_rfl) ⟨trivial, trivial, hg111, trivial⟩ ?_
        refine bindO_e h (fun x112 hc113 h => ?_)
        refine WO_call [.view 0] Try.f16 rfl rfl rfl (by kernel_rfl) rfl rfl (by kernel_rfl) (impl_ReadsFrom_ok n ((x82.drop 0).take ((w64 (((x82.length : Nat) : Int) - 1)).toNat)) i83 x112 hc113) (trivial) rfl ?_
        refine WO_step 1 [0, 1, 3] [5, 6] True ⟨[(5, .one (.e (.sl 1 0 x85.length))), (6, .one (.e (.sl 2 0 x112.length)))], [.row .u8 x1 false, .row .int x85 true, .row .int x112 true]⟩ (by kernel_rfl) trivial ?_
        refine WO_nil rfl ?_
        refine thenS_n ?_
        refine W_seq ?_
        refine W_seq ?_
        refine W_region ?_
        refine WO_step 1 [0, 1, 2] [5, 6, 7] True ⟨[(5, .one (.e (.sl 1 0 x85.length))), (6, .one (.e (.sl 2 0 x112.length))), (7, I 0)], [.row .u8 x1 false, .row .int x85 true, .row .int x112 true]⟩ (by kernel_rfl) trivial ?_
        refine WO_nil rfl ?_
        refine thenS_n ?_
        refine W_block ?_
        refine W_loop ?_
        refine bindO_e h (fun v156 hv156 h => ?_)
        refine WL_cut (laws_FnReadsFromShort_L1_ok w X θ x85 x112 x1 v156 n 0 hv156) ?_
        rcases v156 with _ | _
        · rintro _ _ ⟨rfl, rfl⟩
          refine blockS_r ?_
          refine thenS_r ?_
          cases h
          exact ⟨[0], True, by kernel_rfl, trivial⟩
        · rintro _ _ ⟨rfl, rfl⟩
          refine blockS_y ?_
          refine thenS_n ?_
          refine W_seq ?_
          refine W_region ?_
          refine WO_step 7 [0] [2] (True ∧ (True ∧ (True ∧ (True ∧ True)))) ⟨[(2, B (decide (((x85.length : Nat) : Int) ≤ (w64 (((x112.length : Nat) : Int) + 1)))))], [.row .u8 x1 false]⟩ (by kernel_rfl) ⟨trivial, trivial, trivial, trivial, trivial⟩ ?_
          refine WO_nil rfl ?_
          refine thenS_n ?_
          refine W_ret ?_
          cases h
          exact ⟨[0], True, by kernel_rfl, trivial⟩

end Go.Proofs.Ytgihnmaaiibmeaa

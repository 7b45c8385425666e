import Derived.Test.YtiboohplkihhnaaTLt
import Derived.Test.YtiboohplkihhnaaTLxb
import Derived.Shelf.Strings.Builder1
import Derived.Shelf.Strings.Search1
import Derived.Test.YtiboohplkihhnaaProg
namespace Go.Proofs.Ytiboohplkihhnaa
open Go Go.Shelf Go.Proofs
set_option linter.unusedVariables false
noncomputable def EE : Env := ⟨Try.prog, fun _ => none, fun t => match t with | 3 => some .int | 5 => some .u8 | 9 => some .str | 36 => some .nod | 38 => some .nod | 42 => some .edt | _ => none⟩
/- spec.newReader -/
def spec_newReader (x1 : List Int) : Option (Nat) :=
 bindO (iteO (decide (2000 < ((x1.length : Nat) : Int)))
 (guardO (0 ≤ (2000 : Int) ∧ (2000 : Int) ≤ ((x1.length : Nat) : Int)) <|
 some 2000)
 (some x1.length)) fun k9 =>
 some k9

theorem spec_newReader_ok (x1 : List Int) (k6 : Nat) (h : spec_newReader x1 = some k6) : FOk EE 21 [.one (.e (.sl 0 0 x1.length))] [.row .u8 x1 false] (.one (.e (.p 1 0))) [.row .u8 x1 false, .cells [.sl 0 0 k6, cI 0]] := by
  unfold spec_newReader at h
  refine FOk_of_W 11 1 Try.func21 rfl rfl (Nat.le_of_ble_eq_true rfl) rfl (fun w X θ => ?_)
  refine W_seq ?_
  refine W_region ?_
  refine WO_step 1 [0] [0] True ⟨[(0, .one (.e (.sl 0 0 x1.length)))], [.row .u8 x1 false]⟩ (by kernel_rfl) trivial ?_
  refine WO_nil rfl ?_
  refine thenS_n ?_
  refine W_seq ?_
  refine W_seq ?_
  refine W_region ?_
  refine WO_step 3 [0] [0, 5] (True ∧ (True ∧ True)) ⟨[(0, .one (.e (.sl 0 0 x1.length))), (5, B (decide (2000 < ((x1.length : Nat) : Int))))], [.row .u8 x1 false]⟩ (by kernel_rfl) ⟨trivial, trivial, trivial⟩ ?_
  refine WO_nil rfl ?_
  refine thenS_n ?_
  refine bindO_e h (fun k9 hk9 h => ?_)
  refine W_cut (Q' := fun (e : Exit) (s : St) => e = .normal ∧ s = ⟨[(0, .one (.e (.sl 0 0 k9)))], [.row .u8 x1 false]⟩) ?_ ?_
  · refine iteO_e hk9 (fun hb11 hk9 => W_true rfl hb11 ?_) (fun hb11 hk9 => W_false rfl hb11 ?_)
    · refine W_region ?_
      refine guardO_e hk9 (fun hg12 hk9 => ?_)
      refine WO_step 3 [0] [0] ((0 ≤ (2000 : Int) ∧ (2000 : Int) ≤ ((x1.length : Nat) : Int)) ∧ True) ⟨[(0, .one (.e (.sl 0 0 2000)))], [.row .u8 x1 false]⟩ (by kernel_rfl) ⟨hg12, trivial⟩ ?_
      refine WO_nil rfl ?_
      cases hk9
      exact And.intro rfl rfl
    · refine W_sub [0] [0] (st' := ⟨[(0, .one (.e (.sl 0 0 x1.length)))], [.row .u8 x1 false]⟩) (by kernel_rfl) ?_
      refine W_skip ?_
      cases hk9
      exact And.intro rfl rfl
  · rintro _ _ ⟨rfl, rfl⟩
    refine thenS_n ?_
    refine W_seq ?_
    refine W_region ?_
    refine WO_step 4 [0, 1] [2] (True ∧ True) ⟨[(2, .one (.e (.p 1 0)))], [.row .u8 x1 false, .cells [.sl 0 0 k9, cI 0]]⟩ (by kernel_rfl) ⟨trivial, trivial⟩ ?_
    refine WO_nil rfl ?_
    refine thenS_n ?_
    refine W_ret ?_
    cases h
    exact ⟨[0, 1], True, by kernel_rfl, trivial⟩

/- spec.reader).pick -/
def spec_reader_pick (x1 : List Int) (k2 : Nat) (i3 : Int) (i4 : Int) : Option (Int) :=
 iteO ((decide (i4 < 1)) || (decide (((k2 : Nat) : Int) = 0)))
 (some 0)
 (iteO (decide ((w64 ((w64 (i3 + 1)) - 1)) < ((k2 : Nat) : Int)))
 (guardO (0 ≤ (w64 ((w64 (i3 + 1)) - 1)) ∧ (w64 ((w64 (i3 + 1)) - 1)) < ((k2 : Nat) : Int)) <|
 guardO ((i4 : Int) ≠ 0) <|
 some ((w64 (x1.getD ((w64 ((w64 (i3 + 1)) - 1)).toNat) 0)).tmod i4))
 (guardO ((((k2 : Nat) : Int) : Int) ≠ 0) <|
 guardO (0 ≤ ((w64 ((w64 (i3 + 1)) - 1)).tmod ((k2 : Nat) : Int)) ∧ ((w64 ((w64 (i3 + 1)) - 1)).tmod ((k2 : Nat) : Int)) < ((k2 : Nat) : Int)) <|
 guardO ((((k2 : Nat) : Int) : Int) ≠ 0) <|
 guardO (0 ≤ ((w64 ((w64 ((w64 ((w64 (i3 + 1)) - 1)) * 7)) + 3)).tmod ((k2 : Nat) : Int)) ∧ ((w64 ((w64 ((w64 ((w64 (i3 + 1)) - 1)) * 7)) + 3)).tmod ((k2 : Nat) : Int)) < ((k2 : Nat) : Int)) <|
 guardO ((((k2 : Nat) : Int) : Int) ≠ 0) <|
 guardO ((i4 : Int) ≠ 0) <|
 some ((w64 (BitVec.ofInt 64 (w64 ((w64 ((w64 ((w64 ((w64 (x1.getD (((w64 ((w64 (i3 + 1)) - 1)).tmod ((k2 : Nat) : Int)).toNat) 0)) * 131)) + (w64 ((w64 (x1.getD (((w64 ((w64 ((w64 ((w64 (i3 + 1)) - 1)) * 7)) + 3)).tmod ((k2 : Nat) : Int)).toNat) 0)) * 1117)))) + (w64 ((w64 ((w64 (i3 + 1)) - 1)) * 29)))) + (w64 ((w64 ((w64 ((w64 (i3 + 1)) - 1)).tdiv ((k2 : Nat) : Int))) * 53)))) ^^^ BitVec.ofInt 64 (w64 ((w64 ((w64 ((w64 ((w64 ((w64 (x1.getD (((w64 ((w64 (i3 + 1)) - 1)).tmod ((k2 : Nat) : Int)).toNat) 0)) * 131)) + (w64 ((w64 (x1.getD (((w64 ((w64 ((w64 ((w64 (i3 + 1)) - 1)) * 7)) + 3)).tmod ((k2 : Nat) : Int)).toNat) 0)) * 1117)))) + (w64 ((w64 ((w64 (i3 + 1)) - 1)) * 29)))) + (w64 ((w64 ((w64 ((w64 (i3 + 1)) - 1)).tdiv ((k2 : Nat) : Int))) * 53)))).tdiv 64))).toNat).tmod i4)))

theorem spec_reader_pick_ok (x1 : List Int) (k2 : Nat) (i3 : Int) (i4 : Int) (i22 : Int) (h : spec_reader_pick x1 k2 i3 i4 = some i22) : FOk EE 23 [.one (.e (.p 0 0)), I i4] [.cells [.sl 1 0 k2, cI i3], .row .u8 x1 false] (I i22) [.cells [.sl 1 0 k2, cI (w64 (i3 + 1))], .row .u8 x1 false] := by
  unfold spec_reader_pick at h
  refine FOk_of_W 99 2 Try.func23 rfl rfl (Nat.le_of_ble_eq_true rfl) rfl (fun w X θ => ?_)
  refine W_seq ?_
  refine W_region ?_
  refine WO_step 1 [0, 1] [0, 1] True ⟨[(0, .one (.e (.p 0 0))), (1, I i4)], [.cells [.sl 1 0 k2, cI i3], .row .u8 x1 false]⟩ (by kernel_rfl) trivial ?_
  refine WO_nil rfl ?_
  refine thenS_n ?_
  refine W_seq ?_
  refine W_region ?_
  refine WO_step 9 [0, 1] [0, 1] (True ∧ (True ∧ (True ∧ True))) ⟨[(0, .one (.e (.p 0 0))), (1, I i4)], [.cells [.sl 1 0 k2, cI (w64 (i3 + 1))], .row .u8 x1 false]⟩ (by kernel_rfl) ⟨trivial, trivial, trivial, trivial⟩ ?_
  refine WO_nil rfl ?_
  refine thenS_n ?_
  refine W_seq ?_
  refine W_seq ?_
  refine W_region ?_
  refine WO_step 3 [0, 1] [0, 1, 17] (True ∧ True) ⟨[(0, .one (.e (.p 0 0))), (1, I i4), (17, B (decide (i4 < 1)))], [.cells [.sl 1 0 k2, cI (w64 (i3 + 1))], .row .u8 x1 false]⟩ (by kernel_rfl) ⟨trivial, trivial⟩ ?_
  refine WO_thru ⟨[(0, .one (.e (.p 0 0))), (1, I i4), (24, B ((decide (i4 < 1)) || (decide (((k2 : Nat) : Int) = 0))))], [.cells [.sl 1 0 k2, cI (w64 (i3 + 1))], .row .u8 x1 false]⟩ ?_ ?_
  · refine WO_if 17 rfl (fun hb25 => ?_) (fun hb25 => ?_)
    · refine WO_step 7 [0, 1] [0, 1, 24] True ⟨[(0, .one (.e (.p 0 0))), (1, I i4), (24, B true)], [.cells [.sl 1 0 k2, cI (w64 (i3 + 1))], .row .u8 x1 false]⟩ (by kernel_rfl) trivial ?_
      exact WO_nil rfl ⟨rfl, by first | rfl | (rw [hb25]; first | done | rfl)⟩
    · refine WO_step 7 [0, 1] [0, 1, 24] (True ∧ (True ∧ (True ∧ True))) ⟨[(0, .one (.e (.p 0 0))), (1, I i4), (24, B (decide (((k2 : Nat) : Int) = 0)))], [.cells [.sl 1 0 k2, cI (w64 (i3 + 1))], .row .u8 x1 false]⟩ (by kernel_rfl) ⟨trivial, trivial, trivial, trivial⟩ ?_
      exact WO_nil rfl ⟨rfl, by first | rfl | (rw [hb25]; first | done | rfl)⟩
  · refine thenS_n ?_
    refine iteO_e h (fun hb27 h => W_true rfl hb27 ?_) (fun hb27 h => W_false rfl hb27 ?_)
    · refine W_seq ?_
      refine W_region ?_
      refine WO_step 1 [0, 1] [4] True ⟨[(4, I 0)], [.cells [.sl 1 0 k2, cI (w64 (i3 + 1))], .row .u8 x1 false]⟩ (by kernel_rfl) trivial ?_
      refine WO_nil rfl ?_
      refine thenS_n ?_
      refine W_ret ?_
      refine thenS_r ?_
      cases h
      exact ⟨[0, 1], True, by kernel_rfl, trivial⟩
    · refine W_sub [0, 1] [0, 1] (st' := ⟨[(0, .one (.e (.p 0 0))), (1, I i4)], [.cells [.sl 1 0 k2, cI (w64 (i3 + 1))], .row .u8 x1 false]⟩) (by kernel_rfl) ?_
      refine W_skip ?_
      refine thenS_n ?_
      refine W_seq ?_
      refine W_region ?_
      refine WO_step 6 [0, 1] [0, 1, 5] (True ∧ (True ∧ True)) ⟨[(0, .one (.e (.p 0 0))), (1, I i4), (5, I (w64 ((w64 (i3 + 1)) - 1)))], [.cells [.sl 1 0 k2, cI (w64 (i3 + 1))], .row .u8 x1 false]⟩ (by kernel_rfl) ⟨trivial, trivial, trivial⟩ ?_
      refine WO_nil rfl ?_
      refine thenS_n ?_
      refine W_seq ?_
      refine W_seq ?_
      refine W_region ?_
      refine WO_step 7 [0, 1] [0, 1, 5, 36] (True ∧ (True ∧ (True ∧ True))) ⟨[(0, .one (.e (.p 0 0))), (1, I i4), (5, I (w64 ((w64 (i3 + 1)) - 1))), (36, B (decide ((w64 ((w64 (i3 + 1)) - 1)) < ((k2 : Nat) : Int))))], [.cells [.sl 1 0 k2, cI (w64 (i3 + 1))], .row .u8 x1 false]⟩ (by kernel_rfl) ⟨trivial, trivial, trivial, trivial⟩ ?_
      refine WO_nil rfl ?_
      refine thenS_n ?_
      refine iteO_e h (fun hb31 h => W_true rfl hb31 ?_) (fun hb31 h => W_false rfl hb31 ?_)
      · refine W_seq ?_
        refine W_region ?_
        refine guardO_e h (fun hg32 h => ?_)
        refine guardO_e h (fun hg33 h => ?_)
        refine WO_step 11 [0, 1] [4] (True ∧ ((0 ≤ (w64 ((w64 (i3 + 1)) - 1)) ∧ (w64 ((w64 (i3 + 1)) - 1)) < ((k2 : Nat) : Int)) ∧ (True ∧ (True ∧ (((i4 : Int) ≠ 0) ∧ True))))) ⟨[(4, I ((w64 (x1.getD ((w64 ((w64 (i3 + 1)) - 1)).toNat) 0)).tmod i4))], [.cells [.sl 1 0 k2, cI (w64 (i3 + 1))], .row .u8 x1 false]⟩ (by kernel_rfl) ⟨trivial, hg32, trivial, trivial, hg33, trivial⟩ ?_
        refine WO_nil rfl ?_
        refine thenS_n ?_
        refine W_ret ?_
        refine thenS_r ?_
        cases h
        exact ⟨[0, 1], True, by kernel_rfl, trivial⟩
      · refine W_sub [0, 1] [0, 1, 5] (st' := ⟨[(0, .one (.e (.p 0 0))), (1, I i4), (5, I (w64 ((w64 (i3 + 1)) - 1)))], [.cells [.sl 1 0 k2, cI (w64 (i3 + 1))], .row .u8 x1 false]⟩) (by kernel_rfl) ?_
        refine W_skip ?_
        refine thenS_n ?_
        refine W_seq ?_
        refine guardO_e h (fun hg34 h => ?_)
        refine guardO_e h (fun hg35 h => ?_)
        refine guardO_e h (fun hg36 h => ?_)
        refine guardO_e h (fun hg37 h => ?_)
        refine guardO_e h (fun hg38 h => ?_)
        refine W_cut (Q' := fun (e : Exit) (s : St) => e = .normal ∧ s = ⟨[(1, I i4), (6, I (w64 ((w64 ((w64 ((w64 ((w64 (x1.getD (((w64 ((w64 (i3 + 1)) - 1)).tmod ((k2 : Nat) : Int)).toNat) 0)) * 131)) + (w64 ((w64 (x1.getD (((w64 ((w64 ((w64 ((w64 (i3 + 1)) - 1)) * 7)) + 3)).tmod ((k2 : Nat) : Int)).toNat) 0)) * 1117)))) + (w64 ((w64 ((w64 (i3 + 1)) - 1)) * 29)))) + (w64 ((w64 ((w64 ((w64 (i3 + 1)) - 1)).tdiv ((k2 : Nat) : Int))) * 53)))))], [.cells [.sl 1 0 k2, cI (w64 (i3 + 1))], .row .u8 x1 false]⟩) ?_ ?_
        · refine W_draw [] true (by kernel_rfl) (by kernel_rfl) ?_
          refine WD_takeK [0, 1, 2, 3, 4, 5, 6, 7, 8, 9, 10, 11, 12, 13, 14, 15, 16, 17, 18, 19, 20, 21, 22, 23, 24, 25, 26, 27, 28, 29, 30, 31, 32, 33, 34, 35, 36, 37, 38, 39, 40, 41, 42, 43, 44, 45] [1, 6] [1, 6] (φ := (True ∧ True ∧ (True ∧ True ∧ (True ∧ True ∧ (((((k2 : Nat) : Int) : Int) ≠ 0) ∧ ((((k2 : Nat) : Int) : Int) ≠ 0) ∧ ((0 ≤ ((w64 ((w64 (i3 + 1)) - 1)).tmod ((k2 : Nat) : Int)) ∧ ((w64 ((w64 (i3 + 1)) - 1)).tmod ((k2 : Nat) : Int)) < ((k2 : Nat) : Int)) ∧ (0 ≤ ((w64 ((w64 (i3 + 1)) - 1)).tmod ((k2 : Nat) : Int)) ∧ ((w64 ((w64 (i3 + 1)) - 1)).tmod ((k2 : Nat) : Int)) < ((k2 : Nat) : Int)) ∧ (True ∧ True ∧ (True ∧ True ∧ (True ∧ True ∧ (True ∧ True ∧ (True ∧ True ∧ (True ∧ True ∧ (True ∧ True ∧ (True ∧ True ∧ (((((k2 : Nat) : Int) : Int) ≠ 0) ∧ ((((k2 : Nat) : Int) : Int) ≠ 0) ∧ ((0 ≤ ((w64 ((w64 ((w64 ((w64 (i3 + 1)) - 1)) * 7)) + 3)).tmod ((k2 : Nat) : Int)) ∧ ((w64 ((w64 ((w64 ((w64 (i3 + 1)) - 1)) * 7)) + 3)).tmod ((k2 : Nat) : Int)) < ((k2 : Nat) : Int)) ∧ (0 ≤ ((w64 ((w64 ((w64 ((w64 (i3 + 1)) - 1)) * 7)) + 3)).tmod ((k2 : Nat) : Int)) ∧ ((w64 ((w64 ((w64 ((w64 (i3 + 1)) - 1)) * 7)) + 3)).tmod ((k2 : Nat) : Int)) < ((k2 : Nat) : Int)) ∧ (True ∧ True ∧ (True ∧ True ∧ (True ∧ True ∧ (True ∧ True ∧ (True ∧ True ∧ (True ∧ True ∧ (True ∧ True ∧ (True ∧ True ∧ (((((k2 : Nat) : Int) : Int) ≠ 0) ∧ ((((k2 : Nat) : Int) : Int) ≠ 0) ∧ (True ∧ True ∧ (True ∧ True ∧ True))))))))))))))))))))))))))) (ls' := #[true, true, true, true, true, true, true, true, true, true, true, true, true, true, true, true, true, true, true, true, true, true, true, true, true, true, true, true, true, true, true, true, true, true, true, true, true, true, true, true, true, true, true, true, true, true]) (Ts' := [(1, I i4), (6, I (w64 ((w64 ((w64 ((w64 ((w64 (x1.getD (((w64 ((w64 (i3 + 1)) - 1)).tmod ((k2 : Nat) : Int)).toNat) 0)) * 131)) + (w64 ((w64 (x1.getD (((w64 ((w64 ((w64 ((w64 (i3 + 1)) - 1)) * 7)) + 3)).tmod ((k2 : Nat) : Int)).toNat) 0)) * 1117)))) + (w64 ((w64 ((w64 (i3 + 1)) - 1)) * 29)))) + (w64 ((w64 ((w64 ((w64 (i3 + 1)) - 1)).tdiv ((k2 : Nat) : Int))) * 53)))))]) (st' := ⟨[(1, I i4), (6, I (w64 ((w64 ((w64 ((w64 ((w64 (x1.getD (((w64 ((w64 (i3 + 1)) - 1)).tmod ((k2 : Nat) : Int)).toNat) 0)) * 131)) + (w64 ((w64 (x1.getD (((w64 ((w64 ((w64 ((w64 (i3 + 1)) - 1)) * 7)) + 3)).tmod ((k2 : Nat) : Int)).toNat) 0)) * 1117)))) + (w64 ((w64 ((w64 (i3 + 1)) - 1)) * 29)))) + (w64 ((w64 ((w64 ((w64 (i3 + 1)) - 1)).tdiv ((k2 : Nat) : Int))) * 53)))))], [.cells [.sl 1 0 k2, cI (w64 (i3 + 1))], .row .u8 x1 false]⟩) (n2 := 0) (by kernel_rfl) ⟨trivial, trivial, trivial, trivial, trivial, trivial, hg34, hg34, hg35, hg35, trivial, trivial, trivial, trivial, trivial, trivial, trivial, trivial, trivial, trivial, trivial, trivial, trivial, trivial, trivial, trivial, hg36, hg36, hg37, hg37, trivial, trivial, trivial, trivial, trivial, trivial, trivial, trivial, trivial, trivial, trivial, trivial, trivial, trivial, trivial, trivial, hg38, hg38, trivial, trivial, trivial, trivial, trivial⟩ rfl ?_
          exact WD_done [0, 1] [1, 6] (st' := ⟨[(1, I i4), (6, I (w64 ((w64 ((w64 ((w64 ((w64 (x1.getD (((w64 ((w64 (i3 + 1)) - 1)).tmod ((k2 : Nat) : Int)).toNat) 0)) * 131)) + (w64 ((w64 (x1.getD (((w64 ((w64 ((w64 ((w64 (i3 + 1)) - 1)) * 7)) + 3)).tmod ((k2 : Nat) : Int)).toNat) 0)) * 1117)))) + (w64 ((w64 ((w64 (i3 + 1)) - 1)) * 29)))) + (w64 ((w64 ((w64 ((w64 (i3 + 1)) - 1)).tdiv ((k2 : Nat) : Int))) * 53)))))], [.cells [.sl 1 0 k2, cI (w64 (i3 + 1))], .row .u8 x1 false]⟩) (by kernel_rfl) (by kernel_rfl) (And.intro rfl rfl)
        · rintro _ _ ⟨rfl, rfl⟩
          refine thenS_n ?_
          refine W_seq ?_
          refine W_region ?_
          refine WO_step 5 [0, 1] [1, 6] (((64 : Int) ≠ 0) ∧ (True ∧ True)) ⟨[(1, I i4), (6, I (w64 (BitVec.ofInt 64 (w64 ((w64 ((w64 ((w64 ((w64 (x1.getD (((w64 ((w64 (i3 + 1)) - 1)).tmod ((k2 : Nat) : Int)).toNat) 0)) * 131)) + (w64 ((w64 (x1.getD (((w64 ((w64 ((w64 ((w64 (i3 + 1)) - 1)) * 7)) + 3)).tmod ((k2 : Nat) : Int)).toNat) 0)) * 1117)))) + (w64 ((w64 ((w64 (i3 + 1)) - 1)) * 29)))) + (w64 ((w64 ((w64 ((w64 (i3 + 1)) - 1)).tdiv ((k2 : Nat) : Int))) * 53)))) ^^^ BitVec.ofInt 64 (w64 ((w64 ((w64 ((w64 ((w64 ((w64 (x1.getD (((w64 ((w64 (i3 + 1)) - 1)).tmod ((k2 : Nat) : Int)).toNat) 0)) * 131)) + (w64 ((w64 (x1.getD (((w64 ((w64 ((w64 ((w64 (i3 + 1)) - 1)) * 7)) + 3)).tmod ((k2 : Nat) : Int)).toNat) 0)) * 1117)))) + (w64 ((w64 ((w64 (i3 + 1)) - 1)) * 29)))) + (w64 ((w64 ((w64 ((w64 (i3 + 1)) - 1)).tdiv ((k2 : Nat) : Int))) * 53)))).tdiv 64))).toNat))], [.cells [.sl 1 0 k2, cI (w64 (i3 + 1))], .row .u8 x1 false]⟩ (by kernel_rfl) ⟨(by decide), trivial, trivial⟩ ?_
          refine WO_nil rfl ?_
          refine thenS_n ?_
          refine W_seq ?_
          refine W_region ?_
          refine guardO_e h (fun hg39 h => ?_)
          refine WO_step 4 [0, 1] [4] (((i4 : Int) ≠ 0) ∧ True) ⟨[(4, I ((w64 (BitVec.ofInt 64 (w64 ((w64 ((w64 ((w64 ((w64 (x1.getD (((w64 ((w64 (i3 + 1)) - 1)).tmod ((k2 : Nat) : Int)).toNat) 0)) * 131)) + (w64 ((w64 (x1.getD (((w64 ((w64 ((w64 ((w64 (i3 + 1)) - 1)) * 7)) + 3)).tmod ((k2 : Nat) : Int)).toNat) 0)) * 1117)))) + (w64 ((w64 ((w64 (i3 + 1)) - 1)) * 29)))) + (w64 ((w64 ((w64 ((w64 (i3 + 1)) - 1)).tdiv ((k2 : Nat) : Int))) * 53)))) ^^^ BitVec.ofInt 64 (w64 ((w64 ((w64 ((w64 ((w64 ((w64 (x1.getD (((w64 ((w64 (i3 + 1)) - 1)).tmod ((k2 : Nat) : Int)).toNat) 0)) * 131)) + (w64 ((w64 (x1.getD (((w64 ((w64 ((w64 ((w64 (i3 + 1)) - 1)) * 7)) + 3)).tmod ((k2 : Nat) : Int)).toNat) 0)) * 1117)))) + (w64 ((w64 ((w64 (i3 + 1)) - 1)) * 29)))) + (w64 ((w64 ((w64 ((w64 (i3 + 1)) - 1)).tdiv ((k2 : Nat) : Int))) * 53)))).tdiv 64))).toNat).tmod i4))], [.cells [.sl 1 0 k2, cI (w64 (i3 + 1))], .row .u8 x1 false]⟩ (by kernel_rfl) ⟨hg39, trivial⟩ ?_
          refine WO_nil rfl ?_
          refine thenS_n ?_
          refine W_ret ?_
          cases h
          exact ⟨[0, 1], True, by kernel_rfl, trivial⟩

/- spec.reader).one -/
def spec_reader_one (x1 : List Int) (k2 : Nat) (i3 : Int) (x4 : List Int) : Option (Int × Int) :=
 bindO (spec_reader_pick x1 k2 i3 ((x4.length : Nat) : Int)) fun i10 =>
 guardO (0 ≤ i10 ∧ i10 < ((x4.length : Nat) : Int)) <|
 some ((w64 (i3 + 1)), (x4.getD i10.toNat 0))

theorem spec_reader_one_ok (x1 : List Int) (k2 : Nat) (i3 : Int) (x4 : List Int) (i8 : Int) (i9 : Int) (h : spec_reader_one x1 k2 i3 x4 = some (i8, i9)) : FOk EE 41 [.one (.e (.p 0 0)), .one (.e (.sl 2 0 x4.length))] [.cells [.sl 1 0 k2, cI i3], .row .u8 x1 false, .row .int x4 false] (I i9) [.cells [.sl 1 0 k2, cI i8], .row .u8 x1 false, .row .int x4 false] := by
  unfold spec_reader_one at h
  refine FOk_of_W 12 3 Try.func41 rfl rfl (Nat.le_of_ble_eq_true rfl) rfl (fun w X θ => ?_)
  refine W_seq ?_
  refine W_region ?_
  refine WO_step 1 [0, 1, 2] [0, 1] True ⟨[(0, .one (.e (.p 0 0))), (1, .one (.e (.sl 2 0 x4.length)))], [.cells [.sl 1 0 k2, cI i3], .row .u8 x1 false, .row .int x4 false]⟩ (by kernel_rfl) trivial ?_
  refine WO_nil rfl ?_
  refine thenS_n ?_
  refine W_seq ?_
  refine W_region ?_
  refine WO_step 4 [0, 1, 2] [5, 6, 8] (True ∧ True) ⟨[(5, .one (.e (.sl 2 0 x4.length))), (6, .one (.e (.p 0 0))), (8, I ((x4.length : Nat) : Int))], [.cells [.sl 1 0 k2, cI i3], .row .u8 x1 false, .row .int x4 false]⟩ (by kernel_rfl) ⟨trivial, trivial⟩ ?_
  refine bindO_e h (fun i10 hc11 h => ?_)
  refine WO_call [.own 0, .ro 1] Try.f23 rfl rfl rfl (by kernel_rfl) Try.func23 rfl (by kernel_rfl) (spec_reader_pick_ok x1 k2 i3 ((x4.length : Nat) : Int) i10 hc11) (And.intro (trivial) (And.intro (And.intro rfl rfl) (trivial))) rfl ?_
  refine guardO_e h (fun hg12 h => ?_)
  refine WO_step 3 [0, 1, 2] [4] ((0 ≤ i10 ∧ i10 < ((x4.length : Nat) : Int)) ∧ (True ∧ True)) ⟨[(4, I (x4.getD i10.toNat 0))], [.cells [.sl 1 0 k2, cI (w64 (i3 + 1))], .row .u8 x1 false, .row .int x4 false]⟩ (by kernel_rfl) ⟨hg12, trivial, trivial⟩ ?_
  refine WO_nil rfl ?_
  refine thenS_n ?_
  refine W_ret ?_
  cases h
  exact ⟨[0, 1, 2], True, by kernel_rfl, trivial⟩

/- spec.someValue -/
def spec_someValue (x1 : List Int) (k2 : Nat) (i3 : Int) : Option (Int × Int) :=
 bindO (spec_reader_pick x1 k2 i3 40) fun i14 =>
 bindO (spec_reader_pick x1 k2 (w64 (i3 + 1)) 250) fun i16 =>
 bindO (spec_reader_one x1 k2 (w64 ((w64 (i3 + 1)) + 1)) [0, 1, (-1), 5, 10, 100, 1000, (-1000), i14, (w64 ((w64 (4 * i16)) - 500))]) fun (i18, i19) =>
 some (i18, i19)

theorem spec_someValue_ok (x1 : List Int) (k2 : Nat) (i3 : Int) (i12 : Int) (i13 : Int) (h : spec_someValue x1 k2 i3 = some (i12, i13)) : FOk EE 54 [.one (.e (.p 0 0))] [.cells [.sl 1 0 k2, cI i3], .row .u8 x1 false] (I i13) [.cells [.sl 1 0 k2, cI i12], .row .u8 x1 false] := by
  unfold spec_someValue at h
  refine FOk_of_W 12 2 Try.func54 rfl rfl (Nat.le_of_ble_eq_true rfl) rfl (fun w X θ => ?_)
  refine W_seq ?_
  refine W_region ?_
  refine WO_step 1 [0, 1] [0] True ⟨[(0, .one (.e (.p 0 0)))], [.cells [.sl 1 0 k2, cI i3], .row .u8 x1 false]⟩ (by kernel_rfl) trivial ?_
  refine WO_nil rfl ?_
  refine thenS_n ?_
  refine W_seq ?_
  refine W_region ?_
  refine WO_step 2 [0, 1] [0, 3, 4] True ⟨[(0, .one (.e (.p 0 0))), (3, .one (.e (.p 0 0))), (4, .one (.e (.p 0 0)))], [.cells [.sl 1 0 k2, cI i3], .row .u8 x1 false]⟩ (by kernel_rfl) trivial ?_
  refine bindO_e h (fun i14 hc15 h => ?_)
  refine WO_call [.own 0, .ro 1] Try.f23 rfl rfl rfl (by kernel_rfl) Try.func23 rfl (by kernel_rfl) (spec_reader_pick_ok x1 k2 i3 40 i14 hc15) (And.intro (trivial) (And.intro (And.intro rfl rfl) (trivial))) rfl ?_
  refine WO_step 1 [0, 1] [3, 5, 6] True ⟨[(3, .one (.e (.p 0 0))), (5, I i14), (6, .one (.e (.p 0 0)))], [.cells [.sl 1 0 k2, cI (w64 (i3 + 1))], .row .u8 x1 false]⟩ (by kernel_rfl) trivial ?_
  refine bindO_e h (fun i16 hc17 h => ?_)
  refine WO_call [.own 0, .ro 1] Try.f23 rfl rfl rfl (by kernel_rfl) Try.func23 rfl (by kernel_rfl) (spec_reader_pick_ok x1 k2 (w64 (i3 + 1)) 250 i16 hc17) (And.intro (trivial) (And.intro (And.intro rfl rfl) (trivial))) rfl ?_
  refine WO_step 3 [0, 1, 2] [3, 10] (True ∧ (True ∧ True)) ⟨[(3, .one (.e (.p 0 0))), (10, .one (.e (.sl 2 0 ([0, 1, (-1), 5, 10, 100, 1000, (-1000), i14, (w64 ((w64 (4 * i16)) - 500))].length))))], [.cells [.sl 1 0 k2, cI (w64 ((w64 (i3 + 1)) + 1))], .row .u8 x1 false, .row .int [0, 1, (-1), 5, 10, 100, 1000, (-1000), i14, (w64 ((w64 (4 * i16)) - 500))] true]⟩ (by kernel_rfl) ⟨trivial, trivial, trivial⟩ ?_
  refine bindO_e h (fun v21 hc20 h => ?_)
  obtain ⟨i18, i19⟩ := v21
  refine WO_call [.own 0, .ro 1, .ro 2] Try.f41 rfl rfl rfl (by kernel_rfl) Try.func41 rfl (by kernel_rfl) (spec_reader_one_ok x1 k2 (w64 ((w64 (i3 + 1)) + 1)) [0, 1, (-1), 5, 10, 100, 1000, (-1000), i14, (w64 ((w64 (4 * i16)) - 500))] i18 i19 hc20) (And.intro (trivial) (And.intro (And.intro rfl rfl) (And.intro (And.intro rfl rfl) (trivial)))) rfl ?_
  refine WO_step 1 [0, 1] [2] True ⟨[(2, I i19)], [.cells [.sl 1 0 k2, cI i18], .row .u8 x1 false]⟩ (by kernel_rfl) trivial ?_
  refine WO_nil rfl ?_
  refine thenS_n ?_
  refine W_ret ?_
  cases h
  exact ⟨[0, 1], True, by kernel_rfl, trivial⟩

/- spec.reader).of -/
def spec_reader_of (x1 : List Int) (k2 : Nat) (i3 : Int) (x4 : List Str) : Option (Int × Str) :=
 bindO (spec_reader_pick x1 k2 i3 ((x4.length : Nat) : Int)) fun i10 =>
 guardO (0 ≤ i10 ∧ i10 < ((x4.length : Nat) : Int)) <|
 some ((w64 (i3 + 1)), (x4.getD i10.toNat []))

theorem spec_reader_of_ok (x1 : List Int) (k2 : Nat) (i3 : Int) (x4 : List Str) (i8 : Int) (s9 : Str) (h : spec_reader_of x1 k2 i3 x4 = some (i8, s9)) : FOk EE 40 [.one (.e (.p 0 0)), .one (.e (.sl 2 0 x4.length))] [.cells [.sl 1 0 k2, cI i3], .row .u8 x1 false, .row .str x4 false] (S s9) [.cells [.sl 1 0 k2, cI i8], .row .u8 x1 false, .row .str x4 false] := by
  unfold spec_reader_of at h
  refine FOk_of_W 12 3 Try.func40 rfl rfl (Nat.le_of_ble_eq_true rfl) rfl (fun w X θ => ?_)
  refine W_seq ?_
  refine W_region ?_
  refine WO_step 1 [0, 1, 2] [0, 1] True ⟨[(0, .one (.e (.p 0 0))), (1, .one (.e (.sl 2 0 x4.length)))], [.cells [.sl 1 0 k2, cI i3], .row .u8 x1 false, .row .str x4 false]⟩ (by kernel_rfl) trivial ?_
  refine WO_nil rfl ?_
  refine thenS_n ?_
  refine W_seq ?_
  refine W_region ?_
  refine WO_step 4 [0, 1, 2] [5, 6, 8] (True ∧ True) ⟨[(5, .one (.e (.sl 2 0 x4.length))), (6, .one (.e (.p 0 0))), (8, I ((x4.length : Nat) : Int))], [.cells [.sl 1 0 k2, cI i3], .row .u8 x1 false, .row .str x4 false]⟩ (by kernel_rfl) ⟨trivial, trivial⟩ ?_
  refine bindO_e h (fun i10 hc11 h => ?_)
  refine WO_call [.own 0, .ro 1] Try.f23 rfl rfl rfl (by kernel_rfl) Try.func23 rfl (by kernel_rfl) (spec_reader_pick_ok x1 k2 i3 ((x4.length : Nat) : Int) i10 hc11) (And.intro (trivial) (And.intro (And.intro rfl rfl) (trivial))) rfl ?_
  refine guardO_e h (fun hg12 h => ?_)
  refine WO_step 3 [0, 1, 2] [4] ((0 ≤ i10 ∧ i10 < ((x4.length : Nat) : Int)) ∧ (True ∧ True)) ⟨[(4, S (x4.getD i10.toNat []))], [.cells [.sl 1 0 k2, cI (w64 (i3 + 1))], .row .u8 x1 false, .row .str x4 false]⟩ (by kernel_rfl) ⟨hg12, trivial, trivial⟩ ?_
  refine WO_nil rfl ?_
  refine thenS_n ?_
  refine W_ret ?_
  cases h
  exact ⟨[0, 1, 2], True, by kernel_rfl, trivial⟩

/- spec.someName -/
def spec_someName (x1 : List Int) (k2 : Nat) (i3 : Int) : Option (Int × Str) :=
 bindO (spec_reader_of x1 k2 i3 [[97], [98], [99], [97, 98], [120], [122]]) fun (i10, s11) =>
 some (i10, s11)

theorem spec_someName_ok (x1 : List Int) (k2 : Nat) (i3 : Int) (i8 : Int) (s9 : Str) (h : spec_someName x1 k2 i3 = some (i8, s9)) : FOk EE 56 [.one (.e (.p 0 0))] [.cells [.sl 1 0 k2, cI i3], .row .u8 x1 false] (S s9) [.cells [.sl 1 0 k2, cI i8], .row .u8 x1 false] := by
  unfold spec_someName at h
  refine FOk_of_W 6 2 Try.func56 rfl rfl (Nat.le_of_ble_eq_true rfl) rfl (fun w X θ => ?_)
  refine W_seq ?_
  refine W_region ?_
  refine WO_step 1 [0, 1] [0] True ⟨[(0, .one (.e (.p 0 0)))], [.cells [.sl 1 0 k2, cI i3], .row .u8 x1 false]⟩ (by kernel_rfl) trivial ?_
  refine WO_nil rfl ?_
  refine thenS_n ?_
  refine W_seq ?_
  refine W_region ?_
  refine WO_step 2 [0, 1, 2] [3, 4] True ⟨[(3, .one (.e (.p 0 0))), (4, .one (.e (.sl 2 0 ([[97], [98], [99], [97, 98], [120], [122]].length))))], [.cells [.sl 1 0 k2, cI i3], .row .u8 x1 false, .row .str [[97], [98], [99], [97, 98], [120], [122]] true]⟩ (by kernel_rfl) trivial ?_
  refine bindO_e h (fun v13 hc12 h => ?_)
  obtain ⟨i10, s11⟩ := v13
  refine WO_call [.own 0, .ro 1, .ro 2] Try.f40 rfl rfl rfl (by kernel_rfl) Try.func40 rfl (by kernel_rfl) (spec_reader_of_ok x1 k2 i3 [[97], [98], [99], [97, 98], [120], [122]] i10 s11 hc12) (And.intro (trivial) (And.intro (And.intro rfl rfl) (And.intro (And.intro rfl rfl) (trivial)))) rfl ?_
  refine WO_step 1 [0, 1] [2] True ⟨[(2, S s11)], [.cells [.sl 1 0 k2, cI i10], .row .u8 x1 false]⟩ (by kernel_rfl) trivial ?_
  refine WO_nil rfl ?_
  refine thenS_n ?_
  refine W_ret ?_
  cases h
  exact ⟨[0, 1], True, by kernel_rfl, trivial⟩

/- spec.inRange -/
def spec_inRange (i1 : Int) (i2 : Int) (i3 : Int) : Bool :=
((decide (i2 ≤ i1)) && (decide (i1 ≤ i3)))

theorem spec_inRange_ok (i1 : Int) (i2 : Int) (i3 : Int) : FOk EE 36 [I i1, I i2, I i3] [] (B (spec_inRange i1 i2 i3)) [] := by
  refine FOk_of_W 15 0 Try.func36 rfl rfl (Nat.le_of_ble_eq_true rfl) rfl (fun w X θ => ?_)
  refine W_seq ?_
  refine W_region ?_
  refine WO_step 1 [] [0, 1, 2] True ⟨[(0, I i1), (1, I i2), (2, I i3)], []⟩ (by kernel_rfl) trivial ?_
  refine WO_nil rfl ?_
  refine thenS_n ?_
  refine W_seq ?_
  refine W_region ?_
  refine WO_step 4 [] [0, 2, 10] (True ∧ True) ⟨[(0, I i1), (2, I i3), (10, B (decide (i2 ≤ i1)))], []⟩ (by kernel_rfl) ⟨trivial, trivial⟩ ?_
  refine WO_thru ⟨[(6, B ((decide (i2 ≤ i1)) && (decide (i1 ≤ i3))))], []⟩ ?_ ?_
  · refine WO_if 10 rfl (fun hb10 => ?_) (fun hb10 => ?_)
    · refine WO_step 5 [] [6] (True ∧ True) ⟨[(6, B (decide (i1 ≤ i3)))], []⟩ (by kernel_rfl) ⟨trivial, trivial⟩ ?_
      exact WO_nil rfl ⟨rfl, by first | rfl | (rw [hb10]; first | done | rfl)⟩
    · refine WO_step 5 [] [6] True ⟨[(6, B false)], []⟩ (by kernel_rfl) trivial ?_
      exact WO_nil rfl ⟨rfl, by first | rfl | (rw [hb10]; first | done | rfl)⟩
  · refine thenS_n ?_
    refine W_ret ?_
    exact ⟨[], True, by kernel_rfl, trivial⟩

/- spec.validName -/
def spec_validName_L1 (s1 : Str) : Nat → Int → Option ((Unit) ⊕ (Unit))
| 0, _ => none
| n + 1, i44 =>
 iteO (decide (i44 < ((s1.length : Nat) : Int)))
 (guardO (0 ≤ i44 ∧ i44 < ((s1.length : Nat) : Int)) <|
 iteO (!(spec_inRange (w64 ((s1.getD i44.toNat 0).toNat : Int)) 97 122))
 (some (.inl ()))
 (spec_validName_L1 s1 n (w64 (i44 + 1))))
 (some (.inr ()))

theorem spec_validName_L1_ok (w : World) (X : Nat → Prop) (θ : List Loc) (s1 : Str) (v : (Unit) ⊕ (Unit)) : ∀ (n : Nat) (i44 : Int), spec_validName_L1 s1 n i44 = some v → WL EE ⟨w, X, θ, 19, 0⟩ (subC [1, 0, 1, 4, 4] (bodyC Try.f49)) (fun (e : Exit) (s : St) => (match v with | (.inl _) => e = .ret ∧ s = ⟨[(2, B false)], []⟩ | (.inr _) => e = .exit 0 ∧ s = ⟨[(0, S s1)], []⟩ : Prop)) ⟨[(0, S s1), (3, I i44)], []⟩ := by
  intro n
  induction n with
  | zero => intro _ h; exact none_e h
  | succ n ih =>
    intro i44 h
    rw [spec_validName_L1] at h
    refine WL_round ?_
    refine W_seq ?_
    refine W_seq ?_
    refine W_region ?_
    refine WO_step 4 [] [0, 3, 7] (True ∧ (True ∧ True)) ⟨[(0, S s1), (3, I i44), (7, B (decide (i44 < ((s1.length : Nat) : Int))))], []⟩ (by kernel_rfl) ⟨trivial, trivial, trivial⟩ ?_
    refine WO_nil rfl ?_
    refine thenS_n ?_
    refine iteO_e h (fun hb56 h => W_true rfl hb56 ?_) (fun hb56 h => W_false rfl hb56 ?_)
    · refine W_sub [] [0, 3] (st' := ⟨[(0, S s1), (3, I i44)], []⟩) (by kernel_rfl) ?_
      refine W_skip ?_
      refine thenS_n ?_
      refine W_seq ?_
      refine W_block ?_
      refine W_seq ?_
      refine W_region ?_
      refine guardO_e h (fun hg60 h => ?_)
      refine WO_step 4 [] [0, 3, 13] ((0 ≤ i44 ∧ i44 < ((s1.length : Nat) : Int)) ∧ (True ∧ True)) ⟨[(0, S s1), (3, I i44), (13, I (w64 ((s1.getD i44.toNat 0).toNat : Int)))], []⟩ (by kernel_rfl) ⟨hg60, trivial, trivial⟩ ?_
      refine WO_call [] Try.f36 rfl rfl rfl (by kernel_rfl) Try.func36 rfl (by kernel_rfl) (spec_inRange_ok (w64 ((s1.getD i44.toNat 0).toNat : Int)) 97 122) (trivial) rfl ?_
      refine WO_step 1 [] [0, 3, 15] True ⟨[(0, S s1), (3, I i44), (15, B (!(spec_inRange (w64 ((s1.getD i44.toNat 0).toNat : Int)) 97 122)))], []⟩ (by kernel_rfl) trivial ?_
      refine WO_nil rfl ?_
      refine thenS_n ?_
      refine iteO_e h (fun hb62 h => W_true rfl hb62 ?_) (fun hb62 h => W_false rfl hb62 ?_)
      · refine W_seq ?_
        refine W_region ?_
        refine WO_step 1 [] [2] True ⟨[(2, B false)], []⟩ (by kernel_rfl) trivial ?_
        refine WO_nil rfl ?_
        refine thenS_n ?_
        refine W_ret ?_
        refine blockS_r ?_
        refine thenS_r ?_
        refine thenS_r ?_
        cases h
        exact And.intro rfl rfl
      · refine W_sub [] [0, 3] (st' := ⟨[(0, S s1), (3, I i44)], []⟩) (by kernel_rfl) ?_
        refine W_skip ?_
        refine blockS_n ?_
        refine thenS_n ?_
        refine W_region ?_
        refine WO_step 3 [] [0, 3] (True ∧ True) ⟨[(0, S s1), (3, I (w64 (i44 + 1)))], []⟩ (by kernel_rfl) ⟨trivial, trivial⟩ ?_
        refine WO_nil rfl ?_
        refine thenS_n ?_
        exact ih _ h
    · refine W_sub [] [0] (st' := ⟨[(0, S s1)], []⟩) (by kernel_rfl) ?_
      refine W_exit ?_
      refine thenS_e ?_
      refine thenS_e ?_
      cases h
      exact And.intro rfl rfl

def spec_validName (n : Nat) (s1 : Str) : Option (Bool) :=
 bindO (spec_validName_L1 s1 n 0) fun v63 =>
 match v63 with
 | (.inl _) => (some false)
 | (.inr _) => (some (spec_inRange ((s1.length : Nat) : Int) 1 4))


theorem spec_validName_ok (n : Nat) (s1 : Str) (b32 : Bool) (h : spec_validName n s1 = some b32) : FOk EE 49 [S s1] [] (B b32) [] := by
  unfold spec_validName at h
  refine FOk_of_W 19 0 Try.func49 rfl rfl (Nat.le_of_ble_eq_true rfl) rfl (fun w X θ => ?_)
  refine W_seq ?_
  refine W_region ?_
  refine WO_step 1 [] [0] True ⟨[(0, S s1)], []⟩ (by kernel_rfl) trivial ?_
  refine WO_nil rfl ?_
  refine thenS_n ?_
  refine W_seq ?_
  refine W_seq ?_
  refine W_region ?_
  refine WO_step 1 [] [0, 3] True ⟨[(0, S s1), (3, I 0)], []⟩ (by kernel_rfl) trivial ?_
  refine WO_nil rfl ?_
  refine thenS_n ?_
  refine W_block ?_
  refine W_loop ?_
  refine bindO_e h (fun v63 hv63 h => ?_)
  refine WL_cut (spec_validName_L1_ok w X θ s1 v63 n 0 hv63) ?_
  rcases v63 with _ | _
  · rintro _ _ ⟨rfl, rfl⟩
    refine blockS_r ?_
    refine thenS_r ?_
    cases h
    exact ⟨[], True, by kernel_rfl, trivial⟩
  · rintro _ _ ⟨rfl, rfl⟩
    refine blockS_y ?_
    refine thenS_n ?_
    refine W_seq ?_
    refine W_region ?_
    refine WO_step 2 [] [17] (True ∧ True) ⟨[(17, I ((s1.length : Nat) : Int))], []⟩ (by kernel_rfl) ⟨trivial, trivial⟩ ?_
    refine WO_call [] Try.f36 rfl rfl rfl (by kernel_rfl) Try.func36 rfl (by kernel_rfl) (spec_inRange_ok ((s1.length : Nat) : Int) 1 4) (trivial) rfl ?_
    refine WO_step 1 [] [2] True ⟨[(2, B (spec_inRange ((s1.length : Nat) : Int) 1 4))], []⟩ (by kernel_rfl) trivial ?_
    refine WO_nil rfl ?_
    refine thenS_n ?_
    refine W_ret ?_
    cases h
    exact ⟨[], True, by kernel_rfl, trivial⟩

/- spec.kid -/
def spec_kid_L1 (x1 : List Nod) (i2 : Int) (s3 : Str) : Nat → Int → Option ((Int) ⊕ (Unit))
| 0, _ => none
| n + 1, i97 =>
 iteO (decide (i97 < ((x1.length : Nat) : Int)))
 (guardO (0 ≤ i97 ∧ i97 < ((x1.length : Nat) : Int)) <|
 bindO (iteO (decide (((x1.getD i97.toNat dnod).parent) = i2))
 (guardO (0 ≤ i97 ∧ i97 < ((x1.length : Nat) : Int)) <|
 some (decide (((x1.getD i97.toNat dnod).name) = s3)))
 (some false)) fun b135 =>
 iteO b135
 (some (.inl i97))
 (spec_kid_L1 x1 i2 s3 n (w64 (i97 + 1))))
 (some (.inr ()))

theorem spec_kid_L1_ok (w : World) (X : Nat → Prop) (θ : List Loc) (x1 : List Nod) (i2 : Int) (s3 : Str) (v : (Int) ⊕ (Unit)) : ∀ (n : Nat) (i97 : Int), spec_kid_L1 x1 i2 s3 n i97 = some v → WL EE ⟨w, X, θ, 31, 1⟩ (subC [1, 0, 1, 4, 4] (bodyC Try.f50)) (fun (e : Exit) (s : St) => (match v with | (.inl i119) => e = .ret ∧ s = ⟨[(6, I i119)], [.row .nod x1 false]⟩ | (.inr _) => e = .exit 0 ∧ s = ⟨[], [.row .nod x1 false]⟩ : Prop)) ⟨[(0, .one (.e (.sl 0 0 x1.length))), (1, I i2), (2, S s3), (7, I i97)], [.row .nod x1 false]⟩ := by
  intro n
  induction n with
  | zero => intro _ h; exact none_e h
  | succ n ih =>
    intro i97 h
    rw [spec_kid_L1] at h
    refine WL_round ?_
    refine W_seq ?_
    refine W_seq ?_
    refine W_region ?_
    refine WO_step 4 [0] [0, 1, 2, 7, 11] (True ∧ (True ∧ True)) ⟨[(0, .one (.e (.sl 0 0 x1.length))), (1, I i2), (2, S s3), (7, I i97), (11, B (decide (i97 < ((x1.length : Nat) : Int))))], [.row .nod x1 false]⟩ (by kernel_rfl) ⟨trivial, trivial, trivial⟩ ?_
    refine WO_nil rfl ?_
    refine thenS_n ?_
    refine iteO_e h (fun hb122 h => W_true rfl hb122 ?_) (fun hb122 h => W_false rfl hb122 ?_)
    · refine W_sub [0] [0, 1, 2, 7] (st' := ⟨[(0, .one (.e (.sl 0 0 x1.length))), (1, I i2), (2, S s3), (7, I i97)], [.row .nod x1 false]⟩) (by kernel_rfl) ?_
      refine W_skip ?_
      refine thenS_n ?_
      refine W_seq ?_
      refine W_block ?_
      refine W_seq ?_
      refine W_region ?_
      refine guardO_e h (fun hg132 h => ?_)
      refine WO_step 8 [0] [0, 1, 2, 7, 21] ((0 ≤ i97 ∧ i97 < ((x1.length : Nat) : Int)) ∧ (True ∧ (True ∧ True))) ⟨[(0, .one (.e (.sl 0 0 x1.length))), (1, I i2), (2, S s3), (7, I i97), (21, B (decide (((x1.getD i97.toNat dnod).parent) = i2)))], [.row .nod x1 false]⟩ (by kernel_rfl) ⟨hg132, trivial, trivial, trivial⟩ ?_
      refine bindO_e h (fun b135 hv136 h => ?_)
      refine WO_thru ⟨[(0, .one (.e (.sl 0 0 x1.length))), (1, I i2), (2, S s3), (7, I i97), (29, B b135)], [.row .nod x1 false]⟩ ?_ ?_
      · refine iteO_e hv136 (fun hb137 hv136 => WO_known 21 true rfl hb137 ?_) (fun hb137 hv136 => WO_known 21 false rfl hb137 ?_)
        · refine guardO_e hv136 (fun hg138 hv136 => ?_)
          refine WO_step 8 [0] [0, 1, 2, 7, 29] ((0 ≤ i97 ∧ i97 < ((x1.length : Nat) : Int)) ∧ (True ∧ (True ∧ True))) ⟨[(0, .one (.e (.sl 0 0 x1.length))), (1, I i2), (2, S s3), (7, I i97), (29, B (decide (((x1.getD i97.toNat dnod).name) = s3)))], [.row .nod x1 false]⟩ (by kernel_rfl) ⟨hg138, trivial, trivial, trivial⟩ ?_
          cases hv136
          exact WO_nil rfl ⟨rfl, rfl⟩
        · refine WO_step 8 [0] [0, 1, 2, 7, 29] True ⟨[(0, .one (.e (.sl 0 0 x1.length))), (1, I i2), (2, S s3), (7, I i97), (29, B false)], [.row .nod x1 false]⟩ (by kernel_rfl) trivial ?_
          cases hv136
          exact WO_nil rfl ⟨rfl, rfl⟩
      · refine thenS_n ?_
        refine iteO_e h (fun hb140 h => W_true rfl hb140 ?_) (fun hb140 h => W_false rfl hb140 ?_)
        · refine W_seq ?_
          refine W_region ?_
          refine WO_step 2 [0] [6] True ⟨[(6, I i97)], [.row .nod x1 false]⟩ (by kernel_rfl) trivial ?_
          refine WO_nil rfl ?_
          refine thenS_n ?_
          refine W_ret ?_
          refine blockS_r ?_
          refine thenS_r ?_
          refine thenS_r ?_
          cases h
          exact And.intro rfl rfl
        · refine W_sub [0] [0, 1, 2, 7] (st' := ⟨[(0, .one (.e (.sl 0 0 x1.length))), (1, I i2), (2, S s3), (7, I i97)], [.row .nod x1 false]⟩) (by kernel_rfl) ?_
          refine W_skip ?_
          refine blockS_n ?_
          refine thenS_n ?_
          refine W_region ?_
          refine WO_step 3 [0] [0, 1, 2, 7] (True ∧ True) ⟨[(0, .one (.e (.sl 0 0 x1.length))), (1, I i2), (2, S s3), (7, I (w64 (i97 + 1)))], [.row .nod x1 false]⟩ (by kernel_rfl) ⟨trivial, trivial⟩ ?_
          refine WO_nil rfl ?_
          refine thenS_n ?_
          exact ih _ h
    · refine W_sub [0] [] (st' := ⟨[], [.row .nod x1 false]⟩) (by kernel_rfl) ?_
      refine W_exit ?_
      refine thenS_e ?_
      refine thenS_e ?_
      cases h
      exact And.intro rfl rfl

def spec_kid (n : Nat) (x1 : List Nod) (i2 : Int) (s3 : Str) : Option (Int) :=
 bindO (spec_kid_L1 x1 i2 s3 n 1) fun v141 =>
 match v141 with
 | (.inl i119) => (some i119)
 | (.inr _) => (some (-1))


theorem spec_kid_ok (n : Nat) (x1 : List Nod) (i2 : Int) (s3 : Str) (i72 : Int) (h : spec_kid n x1 i2 s3 = some i72) : FOk EE 50 [.one (.e (.sl 0 0 x1.length)), I i2, S s3] [.row .nod x1 false] (I i72) [.row .nod x1 false] := by
  unfold spec_kid at h
  refine FOk_of_W 31 1 Try.func50 rfl rfl (Nat.le_of_ble_eq_true rfl) rfl (fun w X θ => ?_)
  refine W_seq ?_
  refine W_region ?_
  refine WO_step 1 [0] [0, 1, 2] True ⟨[(0, .one (.e (.sl 0 0 x1.length))), (1, I i2), (2, S s3)], [.row .nod x1 false]⟩ (by kernel_rfl) trivial ?_
  refine WO_nil rfl ?_
  refine thenS_n ?_
  refine W_seq ?_
  refine W_seq ?_
  refine W_region ?_
  refine WO_step 1 [0] [0, 1, 2, 7] True ⟨[(0, .one (.e (.sl 0 0 x1.length))), (1, I i2), (2, S s3), (7, I 1)], [.row .nod x1 false]⟩ (by kernel_rfl) trivial ?_
  refine WO_nil rfl ?_
  refine thenS_n ?_
  refine W_block ?_
  refine W_loop ?_
  refine bindO_e h (fun v141 hv141 h => ?_)
  refine WL_cut (spec_kid_L1_ok w X θ x1 i2 s3 v141 n 1 hv141) ?_
  rcases v141 with i119 | _
  · rintro _ _ ⟨rfl, rfl⟩
    refine blockS_r ?_
    refine thenS_r ?_
    cases h
    exact ⟨[0], True, by kernel_rfl, trivial⟩
  · rintro _ _ ⟨rfl, rfl⟩
    refine blockS_y ?_
    refine thenS_n ?_
    refine W_seq ?_
    refine W_region ?_
    refine WO_step 1 [0] [6] True ⟨[(6, I (-1))], [.row .nod x1 false]⟩ (by kernel_rfl) trivial ?_
    refine WO_nil rfl ?_
    refine thenS_n ?_
    refine W_ret ?_
    cases h
    exact ⟨[0], True, by kernel_rfl, trivial⟩

/- spec.depth -/
def spec_depth_L1 (x1 : List Nod) : Nat → Int → Int → Option (Int)
| 0, _, _ => none
| n + 1, i42, i43 =>
 guardO (0 ≤ i42 ∧ i42 < ((x1.length : Nat) : Int)) <|
 iteO (decide (0 ≤ ((x1.getD i42.toNat dnod).parent)))
 (guardO (0 ≤ i42 ∧ i42 < ((x1.length : Nat) : Int)) <|
 spec_depth_L1 x1 n ((x1.getD i42.toNat dnod).parent) (w64 (i43 + 1)))
 (some i43)

theorem spec_depth_L1_ok (w : World) (X : Nat → Prop) (θ : List Loc) (x1 : List Nod) (i51 : Int) : ∀ (n : Nat) (i42 : Int) (i43 : Int), spec_depth_L1 x1 n i42 i43 = some i51 → WL EE ⟨w, X, θ, 20, 1⟩ (subC [1, 1, 0, 4, 4] (bodyC Try.f51)) (fun (e : Exit) (s : St) => e = .exit 0 ∧ s = ⟨[(5, I i51)], [.row .nod x1 false]⟩) ⟨[(0, .one (.e (.sl 0 0 x1.length))), (1, I i42), (5, I i43)], [.row .nod x1 false]⟩ := by
  intro n
  induction n with
  | zero => intro _ _ h; exact none_e h
  | succ n ih =>
    intro i42 i43 h
    rw [spec_depth_L1] at h
    refine WL_round ?_
    refine W_seq ?_
    refine W_seq ?_
    refine W_region ?_
    refine guardO_e h (fun hg53 h => ?_)
    refine WO_step 6 [0] [0, 1, 5, 11] ((0 ≤ i42 ∧ i42 < ((x1.length : Nat) : Int)) ∧ (True ∧ (True ∧ True))) ⟨[(0, .one (.e (.sl 0 0 x1.length))), (1, I i42), (5, I i43), (11, B (decide (0 ≤ ((x1.getD i42.toNat dnod).parent))))], [.row .nod x1 false]⟩ (by kernel_rfl) ⟨hg53, trivial, trivial, trivial⟩ ?_
    refine WO_nil rfl ?_
    refine thenS_n ?_
    refine iteO_e h (fun hb55 h => W_true rfl hb55 ?_) (fun hb55 h => W_false rfl hb55 ?_)
    · refine W_sub [0] [0, 1, 5] (st' := ⟨[(0, .one (.e (.sl 0 0 x1.length))), (1, I i42), (5, I i43)], [.row .nod x1 false]⟩) (by kernel_rfl) ?_
      refine W_skip ?_
      refine thenS_n ?_
      refine W_block ?_
      refine W_seq ?_
      refine W_region ?_
      refine guardO_e h (fun hg57 h => ?_)
      refine WO_step 6 [0] [0, 1, 5] ((0 ≤ i42 ∧ i42 < ((x1.length : Nat) : Int)) ∧ (True ∧ True)) ⟨[(0, .one (.e (.sl 0 0 x1.length))), (1, I ((x1.getD i42.toNat dnod).parent)), (5, I i43)], [.row .nod x1 false]⟩ (by kernel_rfl) ⟨hg57, trivial, trivial⟩ ?_
      refine WO_nil rfl ?_
      refine thenS_n ?_
      refine W_region ?_
      refine WO_step 3 [0] [0, 1, 5] (True ∧ True) ⟨[(0, .one (.e (.sl 0 0 x1.length))), (1, I ((x1.getD i42.toNat dnod).parent)), (5, I (w64 (i43 + 1)))], [.row .nod x1 false]⟩ (by kernel_rfl) ⟨trivial, trivial⟩ ?_
      refine WO_nil rfl ?_
      refine blockS_n ?_
      refine thenS_n ?_
      exact ih _ _ h
    · refine W_sub [0] [5] (st' := ⟨[(5, I i43)], [.row .nod x1 false]⟩) (by kernel_rfl) ?_
      refine W_exit ?_
      refine thenS_e ?_
      refine thenS_e ?_
      cases h
      exact And.intro rfl rfl

def spec_depth (n : Nat) (x1 : List Nod) (i2 : Int) : Option (Int) :=
 bindO (spec_depth_L1 x1 n i2 0) fun i51 =>
 some i51

theorem spec_depth_ok (n : Nat) (x1 : List Nod) (i2 : Int) (i30 : Int) (h : spec_depth n x1 i2 = some i30) : FOk EE 51 [.one (.e (.sl 0 0 x1.length)), I i2] [.row .nod x1 false] (I i30) [.row .nod x1 false] := by
  unfold spec_depth at h
  refine FOk_of_W 20 1 Try.func51 rfl rfl (Nat.le_of_ble_eq_true rfl) rfl (fun w X θ => ?_)
  refine W_seq ?_
  refine W_region ?_
  refine WO_step 1 [0] [0, 1] True ⟨[(0, .one (.e (.sl 0 0 x1.length))), (1, I i2)], [.row .nod x1 false]⟩ (by kernel_rfl) trivial ?_
  refine WO_nil rfl ?_
  refine thenS_n ?_
  refine W_seq ?_
  refine W_region ?_
  refine WO_step 1 [0] [0, 1, 5] True ⟨[(0, .one (.e (.sl 0 0 x1.length))), (1, I i2), (5, I 0)], [.row .nod x1 false]⟩ (by kernel_rfl) trivial ?_
  refine WO_nil rfl ?_
  refine thenS_n ?_
  refine W_seq ?_
  refine W_block ?_
  refine W_loop ?_
  refine bindO_e h (fun i51 hi51 h => ?_)
  refine WL_cut (spec_depth_L1_ok w X θ x1 i51 n i2 0 hi51) ?_
  rintro _ _ ⟨rfl, rfl⟩
  refine blockS_y ?_
  refine thenS_n ?_
  refine W_seq ?_
  refine W_region ?_
  refine WO_step 2 [0] [4] True ⟨[(4, I i51)], [.row .nod x1 false]⟩ (by kernel_rfl) trivial ?_
  refine WO_nil rfl ?_
  refine thenS_n ?_
  refine W_ret ?_
  cases h
  exact ⟨[0], True, by kernel_rfl, trivial⟩

/- spec.validNode -/
def spec_validNode (n : Nat) (x1 : List Nod) (i2 : Int) : Option (Bool) :=
 guardO (0 ≤ i2 ∧ i2 < ((x1.length : Nat) : Int)) <|
 iteO (!(spec_inRange ((x1.getD i2.toNat dnod).value) (-1000) 1000))
 (some false)
 (iteO (decide (i2 = 0))
 (guardO (0 ≤ i2 ∧ i2 < ((x1.length : Nat) : Int)) <|
 bindO (iteO (decide (((x1.getD i2.toNat dnod).parent) = (-1)))
 (guardO (0 ≤ i2 ∧ i2 < ((x1.length : Nat) : Int)) <|
 some (decide (((x1.getD i2.toNat dnod).name) = [])))
 (some false)) fun b54 =>
 some b54)
 (guardO (0 ≤ i2 ∧ i2 < ((x1.length : Nat) : Int)) <|
 bindO (iteO (spec_inRange ((x1.getD i2.toNat dnod).parent) 0 (w64 (i2 - 1)))
 (guardO (0 ≤ i2 ∧ i2 < ((x1.length : Nat) : Int)) <|
 bindO (spec_validName n ((x1.getD i2.toNat dnod).name)) fun b61 =>
 iteO b61
 (guardO (0 ≤ i2 ∧ i2 ≤ ((x1.length : Nat) : Int)) <|
 guardO (0 ≤ i2 ∧ i2 < ((x1.length : Nat) : Int)) <|
 guardO (0 ≤ i2 ∧ i2 < ((x1.length : Nat) : Int)) <|
 bindO (spec_kid n ((x1.drop 0).take i2.toNat) ((x1.getD i2.toNat dnod).parent) ((x1.getD i2.toNat dnod).name)) fun i67 =>
 iteO (decide (i67 < 0))
 (bindO (spec_depth n x1 i2) fun i70 =>
 some (decide (i70 ≤ 4)))
 (some false))
 (some false))
 (some false)) fun b72 =>
 some b72))

theorem spec_validNode_ok (n : Nat) (x1 : List Nod) (i2 : Int) (b38 : Bool) (h : spec_validNode n x1 i2 = some b38) : FOk EE 35 [.one (.e (.sl 0 0 x1.length)), I i2] [.row .nod x1 false] (B b38) [.row .nod x1 false] := by
  unfold spec_validNode at h
  refine FOk_of_W 67 1 Try.func35 rfl rfl (Nat.le_of_ble_eq_true rfl) rfl (fun w X θ => ?_)
  refine W_seq ?_
  refine W_region ?_
  refine WO_step 1 [0] [0, 1] True ⟨[(0, .one (.e (.sl 0 0 x1.length))), (1, I i2)], [.row .nod x1 false]⟩ (by kernel_rfl) trivial ?_
  refine WO_nil rfl ?_
  refine thenS_n ?_
  refine W_seq ?_
  refine W_seq ?_
  refine W_region ?_
  refine guardO_e h (fun hg39 h => ?_)
  refine WO_step 5 [0] [0, 1, 9] ((0 ≤ i2 ∧ i2 < ((x1.length : Nat) : Int)) ∧ (True ∧ True)) ⟨[(0, .one (.e (.sl 0 0 x1.length))), (1, I i2), (9, I ((x1.getD i2.toNat dnod).value))], [.row .nod x1 false]⟩ (by kernel_rfl) ⟨hg39, trivial, trivial⟩ ?_
  refine WO_call [] Try.f36 rfl rfl rfl (by kernel_rfl) Try.func36 rfl (by kernel_rfl) (spec_inRange_ok ((x1.getD i2.toNat dnod).value) (-1000) 1000) (trivial) rfl ?_
  refine WO_step 1 [0] [0, 1, 11] True ⟨[(0, .one (.e (.sl 0 0 x1.length))), (1, I i2), (11, B (!(spec_inRange ((x1.getD i2.toNat dnod).value) (-1000) 1000)))], [.row .nod x1 false]⟩ (by kernel_rfl) trivial ?_
  refine WO_nil rfl ?_
  refine thenS_n ?_
  refine iteO_e h (fun hb41 h => W_true rfl hb41 ?_) (fun hb41 h => W_false rfl hb41 ?_)
  · refine W_seq ?_
    refine W_region ?_
    refine WO_step 1 [0] [4] True ⟨[(4, B false)], [.row .nod x1 false]⟩ (by kernel_rfl) trivial ?_
    refine WO_nil rfl ?_
    refine thenS_n ?_
    refine W_ret ?_
    refine thenS_r ?_
    cases h
    exact ⟨[0], True, by kernel_rfl, trivial⟩
  · refine W_sub [0] [0, 1] (st' := ⟨[(0, .one (.e (.sl 0 0 x1.length))), (1, I i2)], [.row .nod x1 false]⟩) (by kernel_rfl) ?_
    refine W_skip ?_
    refine thenS_n ?_
    refine W_seq ?_
    refine W_seq ?_
    refine W_region ?_
    refine WO_step 2 [0] [0, 1, 13] (True ∧ True) ⟨[(0, .one (.e (.sl 0 0 x1.length))), (1, I i2), (13, B (decide (i2 = 0)))], [.row .nod x1 false]⟩ (by kernel_rfl) ⟨trivial, trivial⟩ ?_
    refine WO_nil rfl ?_
    refine thenS_n ?_
    refine iteO_e h (fun hb50 h => W_true rfl hb50 ?_) (fun hb50 h => W_false rfl hb50 ?_)
    · refine W_seq ?_
      refine W_region ?_
      refine guardO_e h (fun hg51 h => ?_)
      refine WO_step 7 [0] [0, 1, 20] ((0 ≤ i2 ∧ i2 < ((x1.length : Nat) : Int)) ∧ (True ∧ (True ∧ True))) ⟨[(0, .one (.e (.sl 0 0 x1.length))), (1, I i2), (20, B (decide (((x1.getD i2.toNat dnod).parent) = (-1))))], [.row .nod x1 false]⟩ (by kernel_rfl) ⟨hg51, trivial, trivial, trivial⟩ ?_
      refine bindO_e h (fun b54 hv55 h => ?_)
      refine WO_thru ⟨[(4, B b54)], [.row .nod x1 false]⟩ ?_ ?_
      · refine iteO_e hv55 (fun hb56 hv55 => WO_known 20 true rfl hb56 ?_) (fun hb56 hv55 => WO_known 20 false rfl hb56 ?_)
        · refine guardO_e hv55 (fun hg57 hv55 => ?_)
          refine WO_step 8 [0] [4] ((0 ≤ i2 ∧ i2 < ((x1.length : Nat) : Int)) ∧ (True ∧ (True ∧ True))) ⟨[(4, B (decide (((x1.getD i2.toNat dnod).name) = [])))], [.row .nod x1 false]⟩ (by kernel_rfl) ⟨hg57, trivial, trivial, trivial⟩ ?_
          cases hv55
          exact WO_nil rfl ⟨rfl, rfl⟩
        · refine WO_step 8 [0] [4] True ⟨[(4, B false)], [.row .nod x1 false]⟩ (by kernel_rfl) trivial ?_
          cases hv55
          exact WO_nil rfl ⟨rfl, rfl⟩
      · refine thenS_n ?_
        refine W_ret ?_
        refine thenS_r ?_
        cases h
        exact ⟨[0], True, by kernel_rfl, trivial⟩
    · refine W_sub [0] [0, 1] (st' := ⟨[(0, .one (.e (.sl 0 0 x1.length))), (1, I i2)], [.row .nod x1 false]⟩) (by kernel_rfl) ?_
      refine W_skip ?_
      refine thenS_n ?_
      refine W_seq ?_
      refine guardO_e h (fun hg58 h => ?_)
      refine bindO_e h (fun b72 hv73 h => ?_)
      refine W_cut (Q' := fun (e : Exit) (s : St) => e = .normal ∧ s = ⟨[(4, B b72)], [.row .nod x1 false]⟩) ?_ ?_
      · refine iteO_e hv73 (fun hb59 hv73 => ?_) (fun hb59 hv73 => ?_)
        · refine guardO_e hv73 (fun hg60 hv73 => ?_)
          refine bindO_e hv73 (fun b61 hc62 hv73 => ?_)
          refine iteO_e hv73 (fun hb63 hv73 => ?_) (fun hb63 hv73 => ?_)
          · refine guardO_e hv73 (fun hg64 hv73 => ?_)
            refine guardO_e hv73 (fun hg65 hv73 => ?_)
            refine guardO_e hv73 (fun hg66 hv73 => ?_)
            refine bindO_e hv73 (fun i67 hc68 hv73 => ?_)
            refine iteO_e hv73 (fun hb69 hv73 => ?_) (fun hb69 hv73 => ?_)
            · refine bindO_e hv73 (fun i70 hc71 hv73 => ?_)
              refine W_draw [] false (by kernel_rfl) (by kernel_rfl) ?_
              refine WD_takeK [0, 1, 2, 3, 4, 5, 6] [0, 1, 32, 34] [0, 1, 32, 34] (φ := ((0 ≤ i2 ∧ i2 < ((x1.length : Nat) : Int)) ∧ (0 ≤ i2 ∧ i2 < ((x1.length : Nat) : Int)) ∧ (True ∧ True ∧ (True ∧ True ∧ True)))) (ls' := #[true, true, true, true, true, true, true, false, false, false, false, false, false, false, false, false, false, false, false, false, false, false, false, false, false, false, false, false, false, false, false, false, false, false, false, false, false, false, false, false]) (Ts' := [(0, .one (.e (.sl 0 0 x1.length))), (1, I i2), (32, I ((x1.getD i2.toNat dnod).parent)), (34, I (w64 (i2 - 1)))]) (st' := ⟨[(0, .one (.e (.sl 0 0 x1.length))), (1, I i2), (32, I ((x1.getD i2.toNat dnod).parent)), (34, I (w64 (i2 - 1)))], [.row .nod x1 false]⟩) (n2 := 33) (by kernel_rfl) ⟨hg58, hg58, trivial, trivial, trivial, trivial, trivial⟩ rfl ?_
              refine WD_all [7] (n := 32) (by kernel_rfl) rfl ?_
              refine WM_call [] Try.f36 rfl rfl (by kernel_rfl) Try.func36 rfl (by kernel_rfl) (spec_inRange_ok ((x1.getD i2.toNat dnod).parent) 0 (w64 (i2 - 1))) (trivial) rfl (And.intro rfl (trivial)) ?_
              refine WD_takeK [8] [0, 1, 36] [0, 1, 36] (φ := True) (ls' := #[true, true, true, true, true, true, true, true, true, false, false, false, false, false, false, false, false, false, false, false, false, false, false, false, false, false, false, false, false, false, false, false, false, false, false, false, false, false, false, false]) (Ts' := [(0, .one (.e (.sl 0 0 x1.length))), (1, I i2), (36, B (spec_inRange ((x1.getD i2.toNat dnod).parent) 0 (w64 (i2 - 1))))]) (st' := ⟨[(0, .one (.e (.sl 0 0 x1.length))), (1, I i2), (36, B (spec_inRange ((x1.getD i2.toNat dnod).parent) 0 (w64 (i2 - 1))))], [.row .nod x1 false]⟩) (n2 := 31) (by kernel_rfl) trivial rfl ?_
              refine WD_known 36 true rfl rfl hb59 ?_
              refine WD_takeK [9, 10, 11, 12, 13] [0, 1, 36, 41] [0, 1, 36, 41] (φ := ((0 ≤ i2 ∧ i2 < ((x1.length : Nat) : Int)) ∧ (0 ≤ i2 ∧ i2 < ((x1.length : Nat) : Int)) ∧ (True ∧ True ∧ True))) (ls' := #[true, true, true, true, true, true, true, true, true, true, true, true, true, true, false, false, false, false, false, false, false, false, false, false, false, false, false, false, false, false, false, false, false, false, false, false, false, false, false, false]) (Ts' := [(0, .one (.e (.sl 0 0 x1.length))), (1, I i2), (36, B true), (41, S ((x1.getD i2.toNat dnod).name))]) (st' := ⟨[(0, .one (.e (.sl 0 0 x1.length))), (1, I i2), (36, B true), (41, S ((x1.getD i2.toNat dnod).name))], [.row .nod x1 false]⟩) (n2 := 26) (by kernel_rfl) ⟨hg60, hg60, trivial, trivial, trivial⟩ rfl ?_
              refine WD_all [14] (n := 25) (by kernel_rfl) rfl ?_
              refine WM_call [] Try.f49 rfl rfl (by kernel_rfl) Try.func49 rfl (by kernel_rfl) (spec_validName_ok n ((x1.getD i2.toNat dnod).name) b61 hc62) (trivial) rfl (And.intro rfl (trivial)) ?_
              refine WD_takeK [15, 16] [0, 1, 44] [0, 1, 44] (φ := True) (ls' := #[true, true, true, true, true, true, true, true, true, true, true, true, true, true, true, true, true, false, false, false, false, false, false, false, false, false, false, false, false, false, false, false, false, false, false, false, false, false, false, false]) (Ts' := [(0, .one (.e (.sl 0 0 x1.length))), (1, I i2), (44, B b61)]) (st' := ⟨[(0, .one (.e (.sl 0 0 x1.length))), (1, I i2), (44, B b61)], [.row .nod x1 false]⟩) (n2 := 23) (by kernel_rfl) trivial rfl ?_
              refine WD_known 44 true rfl rfl hb63 ?_
              refine WD_takeK [17, 18, 20, 21, 22, 23, 24, 25, 26, 27, 28, 29] [0, 1, 44, 45, 46, 52, 57] [0, 1, 44, 45, 46, 52, 57] (φ := ((0 ≤ i2 ∧ i2 < ((x1.length : Nat) : Int)) ∧ (0 ≤ i2 ∧ i2 < ((x1.length : Nat) : Int)) ∧ (True ∧ True ∧ ((0 ≤ i2 ∧ i2 < ((x1.length : Nat) : Int)) ∧ (0 ≤ i2 ∧ i2 < ((x1.length : Nat) : Int)) ∧ (True ∧ True ∧ True))))) (ls' := #[true, true, true, true, true, true, true, true, true, true, true, true, true, true, true, true, true, true, true, false, true, true, true, true, true, true, true, true, true, true, false, false, false, false, false, false, false, false, false, false]) (Ts' := [(0, .one (.e (.sl 0 0 x1.length))), (1, I i2), (44, B true), (45, .one (.e (.sl 0 0 x1.length))), (46, I i2), (52, I ((x1.getD i2.toNat dnod).parent)), (57, S ((x1.getD i2.toNat dnod).name))]) (st' := ⟨[(0, .one (.e (.sl 0 0 x1.length))), (1, I i2), (44, B true), (45, .one (.e (.sl 0 0 x1.length))), (46, I i2), (52, I ((x1.getD i2.toNat dnod).parent)), (57, S ((x1.getD i2.toNat dnod).name))], [.row .nod x1 false]⟩) (n2 := 11) (by kernel_rfl) ⟨hg65, hg65, trivial, trivial, hg66, hg66, trivial, trivial, trivial⟩ rfl ?_
              refine WD_all [19] (n := 10) (by kernel_rfl) rfl ?_
              refine WM_op (φ := 0 ≤ i2 ∧ i2 ≤ ((x1.length : Nat) : Int)) (v := .one (.e (.sl 0 0 i2.toNat))) (H' := [.row .nod x1 false]) rfl rfl (by kernel_rfl) hg64 rfl (And.intro rfl (trivial)) ?_
              refine WD_all [30] (n := 9) (by kernel_rfl) rfl ?_
              refine WM_call [.view 0] Try.f50 rfl rfl (by kernel_rfl) Try.func50 rfl (by kernel_rfl) (spec_kid_ok n ((x1.drop 0).take i2.toNat) ((x1.getD i2.toNat dnod).parent) ((x1.getD i2.toNat dnod).name) i67 hc68) (trivial) rfl (And.intro rfl (trivial)) ?_
              refine WD_takeK [31, 32, 33] [0, 1, 61] [0, 1, 61] (φ := (True ∧ True ∧ True)) (ls' := #[true, true, true, true, true, true, true, true, true, true, true, true, true, true, true, true, true, true, true, true, true, true, true, true, true, true, true, true, true, true, true, true, true, true, false, false, false, false, false, false]) (Ts' := [(0, .one (.e (.sl 0 0 x1.length))), (1, I i2), (61, B (decide (i67 < 0)))]) (st' := ⟨[(0, .one (.e (.sl 0 0 x1.length))), (1, I i2), (61, B (decide (i67 < 0)))], [.row .nod x1 false]⟩) (n2 := 6) (by kernel_rfl) ⟨trivial, trivial, trivial⟩ rfl ?_
              refine WD_known 61 true rfl rfl hb69 ?_
              refine WD_takeK [34, 35] [61, 62, 63] [61, 62, 63] (φ := True) (ls' := #[true, true, true, true, true, true, true, true, true, true, true, true, true, true, true, true, true, true, true, true, true, true, true, true, true, true, true, true, true, true, true, true, true, true, true, true, false, false, false, false]) (Ts' := [(61, B true), (62, .one (.e (.sl 0 0 x1.length))), (63, I i2)]) (st' := ⟨[(61, B true), (62, .one (.e (.sl 0 0 x1.length))), (63, I i2)], [.row .nod x1 false]⟩) (n2 := 4) (by kernel_rfl) trivial rfl ?_
              refine WD_all [36] (n := 3) (by kernel_rfl) rfl ?_
              refine WM_call [.ro 0] Try.f51 rfl rfl (by kernel_rfl) Try.func51 rfl (by kernel_rfl) (spec_depth_ok n x1 i2 i70 hc71) (And.intro (And.intro rfl rfl) (trivial)) rfl (And.intro rfl (trivial)) ?_
              refine WD_takeK [37, 38, 39] [4] [4] (φ := (True ∧ True ∧ True)) (ls' := #[true, true, true, true, true, true, true, true, true, true, true, true, true, true, true, true, true, true, true, true, true, true, true, true, true, true, true, true, true, true, true, true, true, true, true, true, true, true, true, true]) (Ts' := [(4, B (decide (i70 ≤ 4)))]) (st' := ⟨[(4, B (decide (i70 ≤ 4)))], [.row .nod x1 false]⟩) (n2 := 0) (by kernel_rfl) ⟨trivial, trivial, trivial⟩ rfl ?_
              exact WD_done [0] [4] (st' := ⟨[(4, B (decide (i70 ≤ 4)))], [.row .nod x1 false]⟩) (by kernel_rfl) (by kernel_rfl) (And.intro rfl (by cases hv73; rfl))
            · refine W_draw [] false (by kernel_rfl) (by kernel_rfl) ?_
              refine WD_takeK [0, 1, 2, 3, 4, 5, 6] [0, 1, 32, 34] [0, 1, 32, 34] (φ := ((0 ≤ i2 ∧ i2 < ((x1.length : Nat) : Int)) ∧ (0 ≤ i2 ∧ i2 < ((x1.length : Nat) : Int)) ∧ (True ∧ True ∧ (True ∧ True ∧ True)))) (ls' := #[true, true, true, true, true, true, true, false, false, false, false, false, false, false, false, false, false, false, false, false, false, false, false, false, false, false, false, false, false, false, false, false, false, false, false, false, false, false, false, false]) (Ts' := [(0, .one (.e (.sl 0 0 x1.length))), (1, I i2), (32, I ((x1.getD i2.toNat dnod).parent)), (34, I (w64 (i2 - 1)))]) (st' := ⟨[(0, .one (.e (.sl 0 0 x1.length))), (1, I i2), (32, I ((x1.getD i2.toNat dnod).parent)), (34, I (w64 (i2 - 1)))], [.row .nod x1 false]⟩) (n2 := 33) (by kernel_rfl) ⟨hg58, hg58, trivial, trivial, trivial, trivial, trivial⟩ rfl ?_
              refine WD_all [7] (n := 32) (by kernel_rfl) rfl ?_
              refine WM_call [] Try.f36 rfl rfl (by kernel_rfl) Try.func36 rfl (by kernel_rfl) (spec_inRange_ok ((x1.getD i2.toNat dnod).parent) 0 (w64 (i2 - 1))) (trivial) rfl (And.intro rfl (trivial)) ?_
              refine WD_takeK [8] [0, 1, 36] [0, 1, 36] (φ := True) (ls' := #[true, true, true, true, true, true, true, true, true, false, false, false, false, false, false, false, false, false, false, false, false, false, false, false, false, false, false, false, false, false, false, false, false, false, false, false, false, false, false, false]) (Ts' := [(0, .one (.e (.sl 0 0 x1.length))), (1, I i2), (36, B (spec_inRange ((x1.getD i2.toNat dnod).parent) 0 (w64 (i2 - 1))))]) (st' := ⟨[(0, .one (.e (.sl 0 0 x1.length))), (1, I i2), (36, B (spec_inRange ((x1.getD i2.toNat dnod).parent) 0 (w64 (i2 - 1))))], [.row .nod x1 false]⟩) (n2 := 31) (by kernel_rfl) trivial rfl ?_
              refine WD_known 36 true rfl rfl hb59 ?_
              refine WD_takeK [9, 10, 11, 12, 13] [0, 1, 36, 41] [0, 1, 36, 41] (φ := ((0 ≤ i2 ∧ i2 < ((x1.length : Nat) : Int)) ∧ (0 ≤ i2 ∧ i2 < ((x1.length : Nat) : Int)) ∧ (True ∧ True ∧ True))) (ls' := #[true, true, true, true, true, true, true, true, true, true, true, true, true, true, false, false, false, false, false, false, false, false, false, false, false, false, false, false, false, false, false, false, false, false, false, false, false, false, false, false]) (Ts' := [(0, .one (.e (.sl 0 0 x1.length))), (1, I i2), (36, B true), (41, S ((x1.getD i2.toNat dnod).name))]) (st' := ⟨[(0, .one (.e (.sl 0 0 x1.length))), (1, I i2), (36, B true), (41, S ((x1.getD i2.toNat dnod).name))], [.row .nod x1 false]⟩) (n2 := 26) (by kernel_rfl) ⟨hg60, hg60, trivial, trivial, trivial⟩ rfl ?_
              refine WD_all [14] (n := 25) (by kernel_rfl) rfl ?_
              refine WM_call [] Try.f49 rfl rfl (by kernel_rfl) Try.func49 rfl (by kernel_rfl) (spec_validName_ok n ((x1.getD i2.toNat dnod).name) b61 hc62) (trivial) rfl (And.intro rfl (trivial)) ?_
              refine WD_takeK [15, 16] [0, 1, 44] [0, 1, 44] (φ := True) (ls' := #[true, true, true, true, true, true, true, true, true, true, true, true, true, true, true, true, true, false, false, false, false, false, false, false, false, false, false, false, false, false, false, false, false, false, false, false, false, false, false, false]) (Ts' := [(0, .one (.e (.sl 0 0 x1.length))), (1, I i2), (44, B b61)]) (st' := ⟨[(0, .one (.e (.sl 0 0 x1.length))), (1, I i2), (44, B b61)], [.row .nod x1 false]⟩) (n2 := 23) (by kernel_rfl) trivial rfl ?_
              refine WD_known 44 true rfl rfl hb63 ?_
              refine WD_takeK [17, 18, 20, 21, 22, 23, 24, 25, 26, 27, 28, 29] [0, 1, 44, 45, 46, 52, 57] [0, 1, 44, 45, 46, 52, 57] (φ := ((0 ≤ i2 ∧ i2 < ((x1.length : Nat) : Int)) ∧ (0 ≤ i2 ∧ i2 < ((x1.length : Nat) : Int)) ∧ (True ∧ True ∧ ((0 ≤ i2 ∧ i2 < ((x1.length : Nat) : Int)) ∧ (0 ≤ i2 ∧ i2 < ((x1.length : Nat) : Int)) ∧ (True ∧ True ∧ True))))) (ls' := #[true, true, true, true, true, true, true, true, true, true, true, true, true, true, true, true, true, true, true, false, true, true, true, true, true, true, true, true, true, true, false, false, false, false, false, false, false, false, false, false]) (Ts' := [(0, .one (.e (.sl 0 0 x1.length))), (1, I i2), (44, B true), (45, .one (.e (.sl 0 0 x1.length))), (46, I i2), (52, I ((x1.getD i2.toNat dnod).parent)), (57, S ((x1.getD i2.toNat dnod).name))]) (st' := ⟨[(0, .one (.e (.sl 0 0 x1.length))), (1, I i2), (44, B true), (45, .one (.e (.sl 0 0 x1.length))), (46, I i2), (52, I ((x1.getD i2.toNat dnod).parent)), (57, S ((x1.getD i2.toNat dnod).name))], [.row .nod x1 false]⟩) (n2 := 11) (by kernel_rfl) ⟨hg65, hg65, trivial, trivial, hg66, hg66, trivial, trivial, trivial⟩ rfl ?_
              refine WD_all [19] (n := 10) (by kernel_rfl) rfl ?_
              refine WM_op (φ := 0 ≤ i2 ∧ i2 ≤ ((x1.length : Nat) : Int)) (v := .one (.e (.sl 0 0 i2.toNat))) (H' := [.row .nod x1 false]) rfl rfl (by kernel_rfl) hg64 rfl (And.intro rfl (trivial)) ?_
              refine WD_all [30] (n := 9) (by kernel_rfl) rfl ?_
              refine WM_call [.view 0] Try.f50 rfl rfl (by kernel_rfl) Try.func50 rfl (by kernel_rfl) (spec_kid_ok n ((x1.drop 0).take i2.toNat) ((x1.getD i2.toNat dnod).parent) ((x1.getD i2.toNat dnod).name) i67 hc68) (trivial) rfl (And.intro rfl (trivial)) ?_
              refine WD_takeK [31, 32, 33] [0, 1, 61] [0, 1, 61] (φ := (True ∧ True ∧ True)) (ls' := #[true, true, true, true, true, true, true, true, true, true, true, true, true, true, true, true, true, true, true, true, true, true, true, true, true, true, true, true, true, true, true, true, true, true, false, false, false, false, false, false]) (Ts' := [(0, .one (.e (.sl 0 0 x1.length))), (1, I i2), (61, B (decide (i67 < 0)))]) (st' := ⟨[(0, .one (.e (.sl 0 0 x1.length))), (1, I i2), (61, B (decide (i67 < 0)))], [.row .nod x1 false]⟩) (n2 := 6) (by kernel_rfl) ⟨trivial, trivial, trivial⟩ rfl ?_
              refine WD_known 61 false rfl rfl hb69 ?_
              refine WD_takeK [34, 35, 36, 37, 38, 39] [4] [4] (φ := True) (ls' := #[true, true, true, true, true, true, true, true, true, true, true, true, true, true, true, true, true, true, true, true, true, true, true, true, true, true, true, true, true, true, true, true, true, true, true, true, true, true, true, true]) (Ts' := [(4, B false)]) (st' := ⟨[(4, B false)], [.row .nod x1 false]⟩) (n2 := 0) (by kernel_rfl) trivial rfl ?_
              exact WD_done [0] [4] (st' := ⟨[(4, B false)], [.row .nod x1 false]⟩) (by kernel_rfl) (by kernel_rfl) (And.intro rfl (by cases hv73; rfl))
          · refine W_draw [] false (by kernel_rfl) (by kernel_rfl) ?_
            refine WD_takeK [0, 1, 2, 3, 4, 5, 6] [0, 1, 32, 34] [0, 1, 32, 34] (φ := ((0 ≤ i2 ∧ i2 < ((x1.length : Nat) : Int)) ∧ (0 ≤ i2 ∧ i2 < ((x1.length : Nat) : Int)) ∧ (True ∧ True ∧ (True ∧ True ∧ True)))) (ls' := #[true, true, true, true, true, true, true, false, false, false, false, false, false, false, false, false, false, false, false, false, false, false, false, false, false, false, false, false, false, false, false, false, false, false, false, false, false, false, false, false]) (Ts' := [(0, .one (.e (.sl 0 0 x1.length))), (1, I i2), (32, I ((x1.getD i2.toNat dnod).parent)), (34, I (w64 (i2 - 1)))]) (st' := ⟨[(0, .one (.e (.sl 0 0 x1.length))), (1, I i2), (32, I ((x1.getD i2.toNat dnod).parent)), (34, I (w64 (i2 - 1)))], [.row .nod x1 false]⟩) (n2 := 33) (by kernel_rfl) ⟨hg58, hg58, trivial, trivial, trivial, trivial, trivial⟩ rfl ?_
            refine WD_all [7] (n := 32) (by kernel_rfl) rfl ?_
            refine WM_call [] Try.f36 rfl rfl (by kernel_rfl) Try.func36 rfl (by kernel_rfl) (spec_inRange_ok ((x1.getD i2.toNat dnod).parent) 0 (w64 (i2 - 1))) (trivial) rfl (And.intro rfl (trivial)) ?_
            refine WD_takeK [8] [0, 1, 36] [0, 1, 36] (φ := True) (ls' := #[true, true, true, true, true, true, true, true, true, false, false, false, false, false, false, false, false, false, false, false, false, false, false, false, false, false, false, false, false, false, false, false, false, false, false, false, false, false, false, false]) (Ts' := [(0, .one (.e (.sl 0 0 x1.length))), (1, I i2), (36, B (spec_inRange ((x1.getD i2.toNat dnod).parent) 0 (w64 (i2 - 1))))]) (st' := ⟨[(0, .one (.e (.sl 0 0 x1.length))), (1, I i2), (36, B (spec_inRange ((x1.getD i2.toNat dnod).parent) 0 (w64 (i2 - 1))))], [.row .nod x1 false]⟩) (n2 := 31) (by kernel_rfl) trivial rfl ?_
            refine WD_known 36 true rfl rfl hb59 ?_
            refine WD_takeK [9, 10, 11, 12, 13] [0, 1, 36, 41] [0, 1, 36, 41] (φ := ((0 ≤ i2 ∧ i2 < ((x1.length : Nat) : Int)) ∧ (0 ≤ i2 ∧ i2 < ((x1.length : Nat) : Int)) ∧ (True ∧ True ∧ True))) (ls' := #[true, true, true, true, true, true, true, true, true, true, true, true, true, true, false, false, false, false, false, false, false, false, false, false, false, false, false, false, false, false, false, false, false, false, false, false, false, false, false, false]) (Ts' := [(0, .one (.e (.sl 0 0 x1.length))), (1, I i2), (36, B true), (41, S ((x1.getD i2.toNat dnod).name))]) (st' := ⟨[(0, .one (.e (.sl 0 0 x1.length))), (1, I i2), (36, B true), (41, S ((x1.getD i2.toNat dnod).name))], [.row .nod x1 false]⟩) (n2 := 26) (by kernel_rfl) ⟨hg60, hg60, trivial, trivial, trivial⟩ rfl ?_
            refine WD_all [14] (n := 25) (by kernel_rfl) rfl ?_
            refine WM_call [] Try.f49 rfl rfl (by kernel_rfl) Try.func49 rfl (by kernel_rfl) (spec_validName_ok n ((x1.getD i2.toNat dnod).name) b61 hc62) (trivial) rfl (And.intro rfl (trivial)) ?_
            refine WD_takeK [15, 16] [0, 1, 44] [0, 1, 44] (φ := True) (ls' := #[true, true, true, true, true, true, true, true, true, true, true, true, true, true, true, true, true, false, false, false, false, false, false, false, false, false, false, false, false, false, false, false, false, false, false, false, false, false, false, false]) (Ts' := [(0, .one (.e (.sl 0 0 x1.length))), (1, I i2), (44, B b61)]) (st' := ⟨[(0, .one (.e (.sl 0 0 x1.length))), (1, I i2), (44, B b61)], [.row .nod x1 false]⟩) (n2 := 23) (by kernel_rfl) trivial rfl ?_
            refine WD_known 44 false rfl rfl hb63 ?_
            refine WD_takeK [17, 18, 19, 20, 21, 22, 23, 24, 25, 26, 27, 28, 29, 30, 31, 32, 33, 34, 35, 36, 37, 38, 39] [4] [4] (φ := True) (ls' := #[true, true, true, true, true, true, true, true, true, true, true, true, true, true, true, true, true, true, true, true, true, true, true, true, true, true, true, true, true, true, true, true, true, true, true, true, true, true, true, true]) (Ts' := [(4, B false)]) (st' := ⟨[(4, B false)], [.row .nod x1 false]⟩) (n2 := 0) (by kernel_rfl) trivial rfl ?_
            exact WD_done [0] [4] (st' := ⟨[(4, B false)], [.row .nod x1 false]⟩) (by kernel_rfl) (by kernel_rfl) (And.intro rfl (by cases hv73; rfl))
        · refine W_draw [] false (by kernel_rfl) (by kernel_rfl) ?_
          refine WD_takeK [0, 1, 2, 3, 4, 5, 6] [0, 1, 32, 34] [0, 1, 32, 34] (φ := ((0 ≤ i2 ∧ i2 < ((x1.length : Nat) : Int)) ∧ (0 ≤ i2 ∧ i2 < ((x1.length : Nat) : Int)) ∧ (True ∧ True ∧ (True ∧ True ∧ True)))) (ls' := #[true, true, true, true, true, true, true, false, false, false, false, false, false, false, false, false, false, false, false, false, false, false, false, false, false, false, false, false, false, false, false, false, false, false, false, false, false, false, false, false]) (Ts' := [(0, .one (.e (.sl 0 0 x1.length))), (1, I i2), (32, I ((x1.getD i2.toNat dnod).parent)), (34, I (w64 (i2 - 1)))]) (st' := ⟨[(0, .one (.e (.sl 0 0 x1.length))), (1, I i2), (32, I ((x1.getD i2.toNat dnod).parent)), (34, I (w64 (i2 - 1)))], [.row .nod x1 false]⟩) (n2 := 33) (by kernel_rfl) ⟨hg58, hg58, trivial, trivial, trivial, trivial, trivial⟩ rfl ?_
          refine WD_all [7] (n := 32) (by kernel_rfl) rfl ?_
          refine WM_call [] Try.f36 rfl rfl (by kernel_rfl) Try.func36 rfl (by kernel_rfl) (spec_inRange_ok ((x1.getD i2.toNat dnod).parent) 0 (w64 (i2 - 1))) (trivial) rfl (And.intro rfl (trivial)) ?_
          refine WD_takeK [8] [0, 1, 36] [0, 1, 36] (φ := True) (ls' := #[true, true, true, true, true, true, true, true, true, false, false, false, false, false, false, false, false, false, false, false, false, false, false, false, false, false, false, false, false, false, false, false, false, false, false, false, false, false, false, false]) (Ts' := [(0, .one (.e (.sl 0 0 x1.length))), (1, I i2), (36, B (spec_inRange ((x1.getD i2.toNat dnod).parent) 0 (w64 (i2 - 1))))]) (st' := ⟨[(0, .one (.e (.sl 0 0 x1.length))), (1, I i2), (36, B (spec_inRange ((x1.getD i2.toNat dnod).parent) 0 (w64 (i2 - 1))))], [.row .nod x1 false]⟩) (n2 := 31) (by kernel_rfl) trivial rfl ?_
          refine WD_known 36 false rfl rfl hb59 ?_
          refine WD_takeK [9, 10, 11, 12, 13, 14, 15, 16, 17, 18, 19, 20, 21, 22, 23, 24, 25, 26, 27, 28, 29, 30, 31, 32, 33, 34, 35, 36, 37, 38, 39] [4] [4] (φ := True) (ls' := #[true, true, true, true, true, true, true, true, true, true, true, true, true, true, true, true, true, true, true, true, true, true, true, true, true, true, true, true, true, true, true, true, true, true, true, true, true, true, true, true]) (Ts' := [(4, B false)]) (st' := ⟨[(4, B false)], [.row .nod x1 false]⟩) (n2 := 0) (by kernel_rfl) trivial rfl ?_
          exact WD_done [0] [4] (st' := ⟨[(4, B false)], [.row .nod x1 false]⟩) (by kernel_rfl) (by kernel_rfl) (And.intro rfl (by cases hv73; rfl))
      · rintro _ _ ⟨rfl, rfl⟩
        refine thenS_n ?_
        refine W_ret ?_
        cases h
        exact ⟨[0], True, by kernel_rfl, trivial⟩

/- spec.validTree -/
def spec_validTree_L1 (x1 : List Nod) : Nat → Int → Option ((Unit) ⊕ (Unit))
| 0, _ => none
| n + 1, i52 =>
 iteO (decide (i52 < ((x1.length : Nat) : Int)))
 (bindO (spec_validNode n x1 i52) fun b71 =>
 iteO (!b71)
 (some (.inl ()))
 (spec_validTree_L1 x1 n (w64 (i52 + 1))))
 (some (.inr ()))

theorem spec_validTree_L1_ok (w : World) (X : Nat → Prop) (θ : List Loc) (x1 : List Nod) (v : (Unit) ⊕ (Unit)) : ∀ (n : Nat) (i52 : Int), spec_validTree_L1 x1 n i52 = some v → WL EE ⟨w, X, θ, 17, 1⟩ (subC [1, 0, 1, 4, 4] (bodyC Try.f17)) (fun (e : Exit) (s : St) => (match v with | (.inl _) => e = .ret ∧ s = ⟨[(2, B false)], [.row .nod x1 false]⟩ | (.inr _) => e = .exit 0 ∧ s = ⟨[(0, .one (.e (.sl 0 0 x1.length)))], [.row .nod x1 false]⟩ : Prop)) ⟨[(0, .one (.e (.sl 0 0 x1.length))), (3, I i52)], [.row .nod x1 false]⟩ := by
  intro n
  induction n with
  | zero => intro _ h; exact none_e h
  | succ n ih =>
    intro i52 h
    rw [spec_validTree_L1] at h
    refine WL_round ?_
    refine W_seq ?_
    refine W_seq ?_
    refine W_region ?_
    refine WO_step 4 [0] [0, 3, 7] (True ∧ (True ∧ True)) ⟨[(0, .one (.e (.sl 0 0 x1.length))), (3, I i52), (7, B (decide (i52 < ((x1.length : Nat) : Int))))], [.row .nod x1 false]⟩ (by kernel_rfl) ⟨trivial, trivial, trivial⟩ ?_
    refine WO_nil rfl ?_
    refine thenS_n ?_
    refine iteO_e h (fun hb66 h => W_true rfl hb66 ?_) (fun hb66 h => W_false rfl hb66 ?_)
    · refine W_sub [0] [0, 3] (st' := ⟨[(0, .one (.e (.sl 0 0 x1.length))), (3, I i52)], [.row .nod x1 false]⟩) (by kernel_rfl) ?_
      refine W_skip ?_
      refine thenS_n ?_
      refine W_seq ?_
      refine W_block ?_
      refine W_seq ?_
      refine W_region ?_
      refine WO_step 2 [0] [0, 3, 10, 11] True ⟨[(0, .one (.e (.sl 0 0 x1.length))), (3, I i52), (10, .one (.e (.sl 0 0 x1.length))), (11, I i52)], [.row .nod x1 false]⟩ (by kernel_rfl) trivial ?_
      refine bindO_e h (fun b71 hc72 h => ?_)
      refine WO_call [.ro 0] Try.f35 rfl rfl rfl (by kernel_rfl) Try.func35 rfl (by kernel_rfl) (spec_validNode_ok n x1 i52 b71 hc72) (And.intro (And.intro rfl rfl) (trivial)) rfl ?_
      refine WO_step 1 [0] [0, 3, 13] True ⟨[(0, .one (.e (.sl 0 0 x1.length))), (3, I i52), (13, B (!b71))], [.row .nod x1 false]⟩ (by kernel_rfl) trivial ?_
      refine WO_nil rfl ?_
      refine thenS_n ?_
      refine iteO_e h (fun hb74 h => W_true rfl hb74 ?_) (fun hb74 h => W_false rfl hb74 ?_)
      · refine W_seq ?_
        refine W_region ?_
        refine WO_step 1 [0] [2] True ⟨[(2, B false)], [.row .nod x1 false]⟩ (by kernel_rfl) trivial ?_
        refine WO_nil rfl ?_
        refine thenS_n ?_
        refine W_ret ?_
        refine blockS_r ?_
        refine thenS_r ?_
        refine thenS_r ?_
        cases h
        exact And.intro rfl rfl
      · refine W_sub [0] [0, 3] (st' := ⟨[(0, .one (.e (.sl 0 0 x1.length))), (3, I i52)], [.row .nod x1 false]⟩) (by kernel_rfl) ?_
        refine W_skip ?_
        refine blockS_n ?_
        refine thenS_n ?_
        refine W_region ?_
        refine WO_step 3 [0] [0, 3] (True ∧ True) ⟨[(0, .one (.e (.sl 0 0 x1.length))), (3, I (w64 (i52 + 1)))], [.row .nod x1 false]⟩ (by kernel_rfl) ⟨trivial, trivial⟩ ?_
        refine WO_nil rfl ?_
        refine thenS_n ?_
        exact ih _ h
    · refine W_sub [0] [0] (st' := ⟨[(0, .one (.e (.sl 0 0 x1.length)))], [.row .nod x1 false]⟩) (by kernel_rfl) ?_
      refine W_exit ?_
      refine thenS_e ?_
      refine thenS_e ?_
      cases h
      exact And.intro rfl rfl

def spec_validTree (n : Nat) (x1 : List Nod) : Option (Bool) :=
 bindO (spec_validTree_L1 x1 n 0) fun v75 =>
 match v75 with
 | (.inl _) => (some false)
 | (.inr _) => (some (spec_inRange ((x1.length : Nat) : Int) 1 12))


theorem spec_validTree_ok (n : Nat) (x1 : List Nod) (b38 : Bool) (h : spec_validTree n x1 = some b38) : FOk EE 17 [.one (.e (.sl 0 0 x1.length))] [.row .nod x1 false] (B b38) [.row .nod x1 false] := by
  unfold spec_validTree at h
  refine FOk_of_W 17 1 Try.func17 rfl rfl (Nat.le_of_ble_eq_true rfl) rfl (fun w X θ => ?_)
  refine W_seq ?_
  refine W_region ?_
  refine WO_step 1 [0] [0] True ⟨[(0, .one (.e (.sl 0 0 x1.length)))], [.row .nod x1 false]⟩ (by kernel_rfl) trivial ?_
  refine WO_nil rfl ?_
  refine thenS_n ?_
  refine W_seq ?_
  refine W_seq ?_
  refine W_region ?_
  refine WO_step 1 [0] [0, 3] True ⟨[(0, .one (.e (.sl 0 0 x1.length))), (3, I 0)], [.row .nod x1 false]⟩ (by kernel_rfl) trivial ?_
  refine WO_nil rfl ?_
  refine thenS_n ?_
  refine W_block ?_
  refine W_loop ?_
  refine bindO_e h (fun v75 hv75 h => ?_)
  refine WL_cut (spec_validTree_L1_ok w X θ x1 v75 n 0 hv75) ?_
  rcases v75 with _ | _
  · rintro _ _ ⟨rfl, rfl⟩
    refine blockS_r ?_
    refine thenS_r ?_
    cases h
    exact ⟨[0], True, by kernel_rfl, trivial⟩
  · rintro _ _ ⟨rfl, rfl⟩
    refine blockS_y ?_
    refine thenS_n ?_
    refine W_seq ?_
    refine W_region ?_
    refine WO_step 2 [0] [15] (True ∧ True) ⟨[(15, I ((x1.length : Nat) : Int))], [.row .nod x1 false]⟩ (by kernel_rfl) ⟨trivial, trivial⟩ ?_
    refine WO_call [] Try.f36 rfl rfl rfl (by kernel_rfl) Try.func36 rfl (by kernel_rfl) (spec_inRange_ok ((x1.length : Nat) : Int) 1 12) (trivial) rfl ?_
    refine WO_step 1 [0] [2] True ⟨[(2, B (spec_inRange ((x1.length : Nat) : Int) 1 12))], [.row .nod x1 false]⟩ (by kernel_rfl) trivial ?_
    refine WO_nil rfl ?_
    refine thenS_n ?_
    refine W_ret ?_
    cases h
    exact ⟨[0], True, by kernel_rfl, trivial⟩

/- spec.AddNode -/
def spec_AddNode (n : Nat) (x1 : List Nod) (i2 : Int) (s3 : Str) (i4 : Int) : Option ((List Nod) × Int × Bool) :=
 bindO (spec_validTree n x1) fun b21 =>
 iteO ((!b21) || (decide (((x1.length : Nat) : Int) = 12)))
 (some (([] : List Nod), (-1), false))
 (guardO (0 = 0 ∧ ([] : List Nod).length = ([] : List Nod).length ∧ ([] : List Nod).length + ((x1.drop 0).take x1.length).length ≤ 1099511627776) <|
 guardO (0 = 0 ∧ (([] : List Nod) ++ ((x1.drop 0).take x1.length)).length = (([] : List Nod) ++ ((x1.drop 0).take x1.length)).length ∧ (([] : List Nod) ++ ((x1.drop 0).take x1.length)).length + (([(⟨i2, s3, i4⟩ : Nod)].drop 0).take ([(⟨i2, s3, i4⟩ : Nod)].length)).length ≤ 1099511627776) <|
 bindO (spec_validTree n ((([] : List Nod) ++ ((x1.drop 0).take x1.length)) ++ (([(⟨i2, s3, i4⟩ : Nod)].drop 0).take ([(⟨i2, s3, i4⟩ : Nod)].length)))) fun b30 =>
 iteO (!b30)
 (some (([] : List Nod), (-1), false))
 (some (((([] : List Nod) ++ ((x1.drop 0).take x1.length)) ++ (([(⟨i2, s3, i4⟩ : Nod)].drop 0).take ([(⟨i2, s3, i4⟩ : Nod)].length))), ((x1.length : Nat) : Int), true)))

theorem spec_AddNode_ok (n : Nat) (x1 : List Nod) (i2 : Int) (s3 : Str) (i4 : Int) (x18 : List Nod) (i19 : Int) (b20 : Bool) (h : spec_AddNode n x1 i2 s3 i4 = some (x18, i19, b20)) : FOk EE 55 [.one (.e (.sl 0 0 x1.length)), I i2, S s3, I i4] [.row .nod x1 false] (.tup [.e (.sl 1 0 x18.length), .e (cI i19), .e (cB b20)]) [.row .nod x1 false, .row .nod x18 true] := by
  unfold spec_AddNode at h
  refine FOk_of_W 35 1 Try.func55 rfl rfl (Nat.le_of_ble_eq_true rfl) rfl (fun w X θ => ?_)
  refine W_seq ?_
  refine W_region ?_
  refine WO_step 3 [0] [0, 1, 2, 3] True ⟨[(0, .one (.e (.sl 0 0 x1.length))), (1, I i2), (2, S s3), (3, I i4)], [.row .nod x1 false]⟩ (by kernel_rfl) trivial ?_
  refine WO_nil rfl ?_
  refine thenS_n ?_
  refine W_seq ?_
  refine W_seq ?_
  refine W_region ?_
  refine WO_step 1 [0] [0, 1, 2, 3, 12] True ⟨[(0, .one (.e (.sl 0 0 x1.length))), (1, I i2), (2, S s3), (3, I i4), (12, .one (.e (.sl 0 0 x1.length)))], [.row .nod x1 false]⟩ (by kernel_rfl) trivial ?_
  refine bindO_e h (fun b21 hc22 h => ?_)
  refine WO_call [.ro 0] Try.f17 rfl rfl rfl (by kernel_rfl) Try.func17 rfl (by kernel_rfl) (spec_validTree_ok n x1 b21 hc22) (And.intro (And.intro rfl rfl) (trivial)) rfl ?_
  refine WO_step 2 [0] [0, 1, 2, 3, 15] True ⟨[(0, .one (.e (.sl 0 0 x1.length))), (1, I i2), (2, S s3), (3, I i4), (15, B (!b21))], [.row .nod x1 false]⟩ (by kernel_rfl) trivial ?_
  refine WO_thru ⟨[(0, .one (.e (.sl 0 0 x1.length))), (1, I i2), (2, S s3), (3, I i4), (19, B ((!b21) || (decide (((x1.length : Nat) : Int) = 12))))], [.row .nod x1 false]⟩ ?_ ?_
  · refine WO_if 15 rfl (fun hb25 => ?_) (fun hb25 => ?_)
    · refine WO_step 4 [0] [0, 1, 2, 3, 19] True ⟨[(0, .one (.e (.sl 0 0 x1.length))), (1, I i2), (2, S s3), (3, I i4), (19, B true)], [.row .nod x1 false]⟩ (by kernel_rfl) trivial ?_
      exact WO_nil rfl ⟨rfl, by first | rfl | (rw [hb25]; first | done | rfl)⟩
    · refine WO_step 4 [0] [0, 1, 2, 3, 19] (True ∧ (True ∧ True)) ⟨[(0, .one (.e (.sl 0 0 x1.length))), (1, I i2), (2, S s3), (3, I i4), (19, B (decide (((x1.length : Nat) : Int) = 12)))], [.row .nod x1 false]⟩ (by kernel_rfl) ⟨trivial, trivial, trivial⟩ ?_
      exact WO_nil rfl ⟨rfl, by first | rfl | (rw [hb25]; first | done | rfl)⟩
  · refine thenS_n ?_
    refine iteO_e h (fun hb27 h => W_true rfl hb27 ?_) (fun hb27 h => W_false rfl hb27 ?_)
    · refine W_seq ?_
      refine W_region ?_
      refine WO_step 3 [0] [8, 9, 10] True ⟨[(8, .one (.e (.nsl))), (9, I (-1)), (10, B false)], [.row .nod x1 false]⟩ (by kernel_rfl) trivial ?_
      refine WO_nilrow 8 .nod rfl ?_
      refine WO_sub [0, 1] [8, 9, 10] (st' := ⟨[(8, .one (.e (.sl 1 0 (([] : List Nod).length)))), (9, I (-1)), (10, B false)], [.row .nod x1 false, .row .nod ([] : List Nod) true]⟩) (by kernel_rfl) ?_
      refine WO_nil rfl ?_
      refine thenS_n ?_
      refine W_ret ?_
      refine thenS_r ?_
      cases h
      exact ⟨[0, 1], True, by kernel_rfl, trivial⟩
    · refine W_sub [0] [0, 1, 2, 3] (st' := ⟨[(0, .one (.e (.sl 0 0 x1.length))), (1, I i2), (2, S s3), (3, I i4)], [.row .nod x1 false]⟩) (by kernel_rfl) ?_
      refine W_skip ?_
      refine thenS_n ?_
      refine W_seq ?_
      refine W_region ?_
      refine guardO_e h (fun hg28 h => ?_)
      refine guardO_e h (fun hg29 h => ?_)
      refine WO_step 10 [0, 4] [0, 11] ((0 = 0 ∧ ([] : List Nod).length = ([] : List Nod).length ∧ ([] : List Nod).length + ((x1.drop 0).take x1.length).length ≤ 1099511627776) ∧ ((0 = 0 ∧ (([] : List Nod) ++ ((x1.drop 0).take x1.length)).length = (([] : List Nod) ++ ((x1.drop 0).take x1.length)).length ∧ (([] : List Nod) ++ ((x1.drop 0).take x1.length)).length + (([(⟨i2, s3, i4⟩ : Nod)].drop 0).take ([(⟨i2, s3, i4⟩ : Nod)].length)).length ≤ 1099511627776) ∧ True)) ⟨[(0, .one (.e (.sl 0 0 x1.length))), (11, .one (.e (.sl 1 0 (((([] : List Nod) ++ ((x1.drop 0).take x1.length)) ++ (([(⟨i2, s3, i4⟩ : Nod)].drop 0).take ([(⟨i2, s3, i4⟩ : Nod)].length))).length))))], [.row .nod x1 false, .row .nod ((([] : List Nod) ++ ((x1.drop 0).take x1.length)) ++ (([(⟨i2, s3, i4⟩ : Nod)].drop 0).take ([(⟨i2, s3, i4⟩ : Nod)].length))) true]⟩ (by kernel_rfl) ⟨hg28, hg29, trivial⟩ ?_
      refine WO_nil rfl ?_
      refine thenS_n ?_
      refine W_seq ?_
      refine W_seq ?_
      refine W_region ?_
      refine WO_step 1 [0, 1] [0, 11, 29] True ⟨[(0, .one (.e (.sl 0 0 x1.length))), (11, .one (.e (.sl 1 0 (((([] : List Nod) ++ ((x1.drop 0).take x1.length)) ++ (([(⟨i2, s3, i4⟩ : Nod)].drop 0).take ([(⟨i2, s3, i4⟩ : Nod)].length))).length)))), (29, .one (.e (.sl 1 0 (((([] : List Nod) ++ ((x1.drop 0).take x1.length)) ++ (([(⟨i2, s3, i4⟩ : Nod)].drop 0).take ([(⟨i2, s3, i4⟩ : Nod)].length))).length))))], [.row .nod x1 false, .row .nod ((([] : List Nod) ++ ((x1.drop 0).take x1.length)) ++ (([(⟨i2, s3, i4⟩ : Nod)].drop 0).take ([(⟨i2, s3, i4⟩ : Nod)].length))) true]⟩ (by kernel_rfl) trivial ?_
      refine bindO_e h (fun b30 hc31 h => ?_)
      refine WO_call [.ro 1] Try.f17 rfl rfl rfl (by kernel_rfl) Try.func17 rfl (by kernel_rfl) (spec_validTree_ok n ((([] : List Nod) ++ ((x1.drop 0).take x1.length)) ++ (([(⟨i2, s3, i4⟩ : Nod)].drop 0).take ([(⟨i2, s3, i4⟩ : Nod)].length))) b30 hc31) (And.intro (And.intro rfl rfl) (trivial)) rfl ?_
      refine WO_step 1 [0, 1] [0, 11, 31] True ⟨[(0, .one (.e (.sl 0 0 x1.length))), (11, .one (.e (.sl 1 0 (((([] : List Nod) ++ ((x1.drop 0).take x1.length)) ++ (([(⟨i2, s3, i4⟩ : Nod)].drop 0).take ([(⟨i2, s3, i4⟩ : Nod)].length))).length)))), (31, B (!b30))], [.row .nod x1 false, .row .nod ((([] : List Nod) ++ ((x1.drop 0).take x1.length)) ++ (([(⟨i2, s3, i4⟩ : Nod)].drop 0).take ([(⟨i2, s3, i4⟩ : Nod)].length))) true]⟩ (by kernel_rfl) trivial ?_
      refine WO_nil rfl ?_
      refine thenS_n ?_
      refine iteO_e h (fun hb33 h => W_true rfl hb33 ?_) (fun hb33 h => W_false rfl hb33 ?_)
      · refine W_seq ?_
        refine W_region ?_
        refine WO_step 3 [0] [8, 9, 10] True ⟨[(8, .one (.e (.nsl))), (9, I (-1)), (10, B false)], [.row .nod x1 false]⟩ (by kernel_rfl) trivial ?_
        refine WO_nilrow 8 .nod rfl ?_
        refine WO_sub [0, 1] [8, 9, 10] (st' := ⟨[(8, .one (.e (.sl 1 0 (([] : List Nod).length)))), (9, I (-1)), (10, B false)], [.row .nod x1 false, .row .nod ([] : List Nod) true]⟩) (by kernel_rfl) ?_
        refine WO_nil rfl ?_
        refine thenS_n ?_
        refine W_ret ?_
        refine thenS_r ?_
        cases h
        exact ⟨[0, 1], True, by kernel_rfl, trivial⟩
      · refine W_sub [0, 1] [0, 11] (st' := ⟨[(0, .one (.e (.sl 0 0 x1.length))), (11, .one (.e (.sl 1 0 (((([] : List Nod) ++ ((x1.drop 0).take x1.length)) ++ (([(⟨i2, s3, i4⟩ : Nod)].drop 0).take ([(⟨i2, s3, i4⟩ : Nod)].length))).length))))], [.row .nod x1 false, .row .nod ((([] : List Nod) ++ ((x1.drop 0).take x1.length)) ++ (([(⟨i2, s3, i4⟩ : Nod)].drop 0).take ([(⟨i2, s3, i4⟩ : Nod)].length))) true]⟩) (by kernel_rfl) ?_
        refine W_skip ?_
        refine thenS_n ?_
        refine W_seq ?_
        refine W_region ?_
        refine WO_step 6 [0, 1] [8, 9, 10] (True ∧ True) ⟨[(8, .one (.e (.sl 1 0 (((([] : List Nod) ++ ((x1.drop 0).take x1.length)) ++ (([(⟨i2, s3, i4⟩ : Nod)].drop 0).take ([(⟨i2, s3, i4⟩ : Nod)].length))).length)))), (9, I ((x1.length : Nat) : Int)), (10, B true)], [.row .nod x1 false, .row .nod ((([] : List Nod) ++ ((x1.drop 0).take x1.length)) ++ (([(⟨i2, s3, i4⟩ : Nod)].drop 0).take ([(⟨i2, s3, i4⟩ : Nod)].length))) true]⟩ (by kernel_rfl) ⟨trivial, trivial⟩ ?_
        refine WO_nil rfl ?_
        refine thenS_n ?_
        refine W_ret ?_
        cases h
        exact ⟨[0, 1], True, by kernel_rfl, trivial⟩

/- spec.someTree -/
def spec_someTree_L1 (k2 : Nat) (x1 : List Int) : Nat → Int → (List Nod) → Int → Option ((Int × (List Nod)))
| 0, _, _, _ => none
| n + 1, i199, x200, i201 =>
 iteO (decide (0 < i201))
 (bindO (spec_reader_pick x1 k2 i199 ((x200.length : Nat) : Int)) fun i266 =>
 bindO (spec_someName x1 k2 (w64 (i199 + 1))) fun (i268, s269) =>
 bindO (spec_someValue x1 k2 i268) fun (i271, i272) =>
 bindO (spec_AddNode n x200 i266 s269 i272) fun (x274, i275, b276) =>
 bindO (iteO b276
 (some x274)
 (some x200)) fun x279 =>
 spec_someTree_L1 k2 x1 n i271 x279 (w64 (i201 - 1)))
 (some (i199, x200))

theorem spec_someTree_L1_ok (w : World) (X : Nat → Prop) (θ : List Loc) (k2 : Nat) (x1 : List Int) (v : (Int × (List Nod))) : ∀ (n : Nat) (i199 : Int) (x200 : List Nod) (i201 : Int), spec_someTree_L1 k2 x1 n i199 x200 i201 = some v → WL EE ⟨w, X, θ, 36, 2⟩ (subC [1, 1, 0, 1, 4, 4] (bodyC Try.f39)) (fun (e : Exit) (s : St) => (match v with | (i243, x244) => e = .exit 0 ∧ s = ⟨[(3, .one (.e (.sl 2 0 x244.length)))], [.cells [.sl 1 0 k2, cI i243], .row .u8 x1 false, .row .nod x244 true]⟩ : Prop)) ⟨[(0, .one (.e (.p 0 0))), (3, .one (.e (.sl 2 0 x200.length))), (4, I i201)], [.cells [.sl 1 0 k2, cI i199], .row .u8 x1 false, .row .nod x200 true]⟩ := by
  intro n
  induction n with
  | zero => intro _ _ _ h; exact none_e h
  | succ n ih =>
    intro i199 x200 i201 h
    rw [spec_someTree_L1] at h
    refine WL_round ?_
    refine W_seq ?_
    refine W_seq ?_
    refine W_region ?_
    refine WO_step 2 [0, 1, 2] [0, 3, 4, 16] (True ∧ True) ⟨[(0, .one (.e (.p 0 0))), (3, .one (.e (.sl 2 0 x200.length))), (4, I i201), (16, B (decide (0 < i201)))], [.cells [.sl 1 0 k2, cI i199], .row .u8 x1 false, .row .nod x200 true]⟩ (by kernel_rfl) ⟨trivial, trivial⟩ ?_
    refine WO_nil rfl ?_
    refine thenS_n ?_
    refine iteO_e h (fun hb247 h => W_true rfl hb247 ?_) (fun hb247 h => W_false rfl hb247 ?_)
    · refine W_sub [0, 1, 2] [0, 3, 4] (st' := ⟨[(0, .one (.e (.p 0 0))), (3, .one (.e (.sl 2 0 x200.length))), (4, I i201)], [.cells [.sl 1 0 k2, cI i199], .row .u8 x1 false, .row .nod x200 true]⟩) (by kernel_rfl) ?_
      refine W_skip ?_
      refine thenS_n ?_
      refine W_seq ?_
      refine W_block ?_
      refine W_seq ?_
      refine W_region ?_
      refine WO_step 4 [0, 1, 2] [0, 3, 4, 20, 21, 23] (True ∧ True) ⟨[(0, .one (.e (.p 0 0))), (3, .one (.e (.sl 2 0 x200.length))), (4, I i201), (20, .one (.e (.sl 2 0 x200.length))), (21, .one (.e (.p 0 0))), (23, I ((x200.length : Nat) : Int))], [.cells [.sl 1 0 k2, cI i199], .row .u8 x1 false, .row .nod x200 true]⟩ (by kernel_rfl) ⟨trivial, trivial⟩ ?_
      refine bindO_e h (fun i266 hc267 h => ?_)
      refine WO_call [.own 0, .ro 1] Try.f23 rfl rfl rfl (by kernel_rfl) Try.func23 rfl (by kernel_rfl) (spec_reader_pick_ok x1 k2 i199 ((x200.length : Nat) : Int) i266 hc267) (And.intro (trivial) (And.intro (And.intro rfl rfl) (trivial))) rfl ?_
      refine WO_step 1 [0, 1, 2] [0, 3, 4, 20, 24, 25] True ⟨[(0, .one (.e (.p 0 0))), (3, .one (.e (.sl 2 0 x200.length))), (4, I i201), (20, .one (.e (.sl 2 0 x200.length))), (24, I i266), (25, .one (.e (.p 0 0)))], [.cells [.sl 1 0 k2, cI (w64 (i199 + 1))], .row .u8 x1 false, .row .nod x200 true]⟩ (by kernel_rfl) trivial ?_
      refine bindO_e h (fun v284 hc270 h => ?_)
      obtain ⟨i268, s269⟩ := v284
      refine WO_call [.own 0, .ro 1] Try.f56 rfl rfl rfl (by kernel_rfl) Try.func56 rfl (by kernel_rfl) (spec_someName_ok x1 k2 (w64 (i199 + 1)) i268 s269 hc270) (And.intro (trivial) (And.intro (And.intro rfl rfl) (trivial))) rfl ?_
      refine WO_step 1 [0, 1, 2] [0, 3, 4, 20, 24, 26, 27] True ⟨[(0, .one (.e (.p 0 0))), (3, .one (.e (.sl 2 0 x200.length))), (4, I i201), (20, .one (.e (.sl 2 0 x200.length))), (24, I i266), (26, S s269), (27, .one (.e (.p 0 0)))], [.cells [.sl 1 0 k2, cI i268], .row .u8 x1 false, .row .nod x200 true]⟩ (by kernel_rfl) trivial ?_
      refine bindO_e h (fun v283 hc273 h => ?_)
      obtain ⟨i271, i272⟩ := v283
      refine WO_call [.own 0, .ro 1] Try.f54 rfl rfl rfl (by kernel_rfl) Try.func54 rfl (by kernel_rfl) (spec_someValue_ok x1 k2 i268 i271 i272 hc273) (And.intro (trivial) (And.intro (And.intro rfl rfl) (trivial))) rfl ?_
      refine WO_sub [0, 1, 2] [0, 3, 4, 20, 24, 26, 28] (st' := ⟨[(0, .one (.e (.p 0 0))), (3, .one (.e (.sl 2 0 x200.length))), (4, I i201), (20, .one (.e (.sl 2 0 x200.length))), (24, I i266), (26, S s269), (28, I i272)], [.cells [.sl 1 0 k2, cI i271], .row .u8 x1 false, .row .nod x200 true]⟩) (by kernel_rfl) ?_
      refine bindO_e h (fun v282 hc277 h => ?_)
      obtain ⟨x274, i275, b276⟩ := v282
      refine WO_call [.ro 2] Try.f55 rfl rfl rfl (by kernel_rfl) Try.func55 rfl (by kernel_rfl) (spec_AddNode_ok n x200 i266 s269 i272 x274 i275 b276 hc277) (And.intro (And.intro rfl rfl) (trivial)) rfl ?_
      refine WO_step 7 [0, 1, 2, 3] [0, 3, 4, 5, 7] True ⟨[(0, .one (.e (.p 0 0))), (3, .one (.e (.sl 2 0 x200.length))), (4, I i201), (5, .one (.e (.sl 3 0 x274.length))), (7, B b276)], [.cells [.sl 1 0 k2, cI i271], .row .u8 x1 false, .row .nod x200 true, .row .nod x274 true]⟩ (by kernel_rfl) trivial ?_
      refine WO_nil rfl ?_
      refine thenS_n ?_
      refine W_seq ?_
      refine W_region ?_
      refine WO_step 1 [0, 1, 2, 3] [0, 3, 4, 5, 33] True ⟨[(0, .one (.e (.p 0 0))), (3, .one (.e (.sl 2 0 x200.length))), (4, I i201), (5, .one (.e (.sl 3 0 x274.length))), (33, B b276)], [.cells [.sl 1 0 k2, cI i271], .row .u8 x1 false, .row .nod x200 true, .row .nod x274 true]⟩ (by kernel_rfl) trivial ?_
      refine WO_nil rfl ?_
      refine thenS_n ?_
      refine bindO_e h (fun x279 hx279 h => ?_)
      refine W_cut (Q' := fun (e : Exit) (s : St) => e = .normal ∧ s = ⟨[(0, .one (.e (.p 0 0))), (3, .one (.e (.sl 2 0 x279.length))), (4, I i201)], [.cells [.sl 1 0 k2, cI i271], .row .u8 x1 false, .row .nod x279 true]⟩) ?_ ?_
      · refine iteO_e hx279 (fun hb281 hx279 => W_true rfl hb281 ?_) (fun hb281 hx279 => W_false rfl hb281 ?_)
        · refine W_region ?_
          refine WO_step 2 [0, 1, 3] [0, 3, 4] True ⟨[(0, .one (.e (.p 0 0))), (3, .one (.e (.sl 2 0 x274.length))), (4, I i201)], [.cells [.sl 1 0 k2, cI i271], .row .u8 x1 false, .row .nod x274 true]⟩ (by kernel_rfl) trivial ?_
          refine WO_nil rfl ?_
          cases hx279
          exact And.intro rfl rfl
        · refine W_sub [0, 1, 2] [0, 3, 4] (st' := ⟨[(0, .one (.e (.p 0 0))), (3, .one (.e (.sl 2 0 x200.length))), (4, I i201)], [.cells [.sl 1 0 k2, cI i271], .row .u8 x1 false, .row .nod x200 true]⟩) (by kernel_rfl) ?_
          refine W_skip ?_
          cases hx279
          exact And.intro rfl rfl
      · rintro _ _ ⟨rfl, rfl⟩
        refine blockS_n ?_
        refine thenS_n ?_
        refine W_region ?_
        refine WO_step 3 [0, 1, 2] [0, 3, 4] (True ∧ True) ⟨[(0, .one (.e (.p 0 0))), (3, .one (.e (.sl 2 0 x279.length))), (4, I (w64 (i201 - 1)))], [.cells [.sl 1 0 k2, cI i271], .row .u8 x1 false, .row .nod x279 true]⟩ (by kernel_rfl) ⟨trivial, trivial⟩ ?_
        refine WO_nil rfl ?_
        refine thenS_n ?_
        exact ih _ _ _ h
    · refine W_sub [0, 1, 2] [3] (st' := ⟨[(3, .one (.e (.sl 2 0 x200.length)))], [.cells [.sl 1 0 k2, cI i199], .row .u8 x1 false, .row .nod x200 true]⟩) (by kernel_rfl) ?_
      refine W_exit ?_
      refine thenS_e ?_
      refine thenS_e ?_
      cases h
      exact And.intro rfl rfl

def spec_someTree (n : Nat) (x1 : List Int) (k2 : Nat) (i3 : Int) : Option (Int × (List Nod)) :=
 bindO (spec_someValue x1 k2 i3) fun (i146, i147) =>
 bindO (spec_reader_one x1 k2 i146 [5, 8, 3, 12, 1, 0, 16]) fun (i149, i150) =>
 bindO (spec_someTree_L1 k2 x1 n i149 [(⟨(-1), [], i147⟩ : Nod)] i150) fun v285 =>
 match v285 with
 | (i243, x244) => (some (i243, x244))


theorem spec_someTree_ok (n : Nat) (x1 : List Int) (k2 : Nat) (i3 : Int) (i144 : Int) (x145 : List Nod) (h : spec_someTree n x1 k2 i3 = some (i144, x145)) : FOk EE 39 [.one (.e (.p 0 0))] [.cells [.sl 1 0 k2, cI i3], .row .u8 x1 false] (.one (.e (.sl 2 0 x145.length))) [.cells [.sl 1 0 k2, cI i144], .row .u8 x1 false, .row .nod x145 true] := by
  unfold spec_someTree at h
  refine FOk_of_W 36 2 Try.func39 rfl rfl (Nat.le_of_ble_eq_true rfl) rfl (fun w X θ => ?_)
  refine W_seq ?_
  refine W_region ?_
  refine WO_step 1 [0, 1] [0] True ⟨[(0, .one (.e (.p 0 0)))], [.cells [.sl 1 0 k2, cI i3], .row .u8 x1 false]⟩ (by kernel_rfl) trivial ?_
  refine WO_nil rfl ?_
  refine thenS_n ?_
  refine W_seq ?_
  refine W_region ?_
  refine WO_step 1 [0, 1] [0, 8] True ⟨[(0, .one (.e (.p 0 0))), (8, .one (.e (.p 0 0)))], [.cells [.sl 1 0 k2, cI i3], .row .u8 x1 false]⟩ (by kernel_rfl) trivial ?_
  refine bindO_e h (fun v287 hc148 h => ?_)
  obtain ⟨i146, i147⟩ := v287
  refine WO_call [.own 0, .ro 1] Try.f54 rfl rfl rfl (by kernel_rfl) Try.func54 rfl (by kernel_rfl) (spec_someValue_ok x1 k2 i3 i146 i147 hc148) (And.intro (trivial) (And.intro (And.intro rfl rfl) (trivial))) rfl ?_
  refine WO_step 3 [0, 1, 2] [0, 3] True ⟨[(0, .one (.e (.p 0 0))), (3, .one (.e (.sl 2 0 ([(⟨(-1), [], i147⟩ : Nod)].length))))], [.cells [.sl 1 0 k2, cI i146], .row .u8 x1 false, .row .nod [(⟨(-1), [], i147⟩ : Nod)] true]⟩ (by kernel_rfl) trivial ?_
  refine WO_nil rfl ?_
  refine thenS_n ?_
  refine W_seq ?_
  refine W_seq ?_
  refine W_region ?_
  refine WO_step 2 [0, 1, 2, 3] [0, 3, 12, 13] True ⟨[(0, .one (.e (.p 0 0))), (3, .one (.e (.sl 2 0 ([(⟨(-1), [], i147⟩ : Nod)].length)))), (12, .one (.e (.p 0 0))), (13, .one (.e (.sl 3 0 ([5, 8, 3, 12, 1, 0, 16].length))))], [.cells [.sl 1 0 k2, cI i146], .row .u8 x1 false, .row .nod [(⟨(-1), [], i147⟩ : Nod)] true, .row .int [5, 8, 3, 12, 1, 0, 16] true]⟩ (by kernel_rfl) trivial ?_
  refine bindO_e h (fun v286 hc151 h => ?_)
  obtain ⟨i149, i150⟩ := v286
  refine WO_call [.own 0, .ro 1, .ro 3] Try.f41 rfl rfl rfl (by kernel_rfl) Try.func41 rfl (by kernel_rfl) (spec_reader_one_ok x1 k2 i146 [5, 8, 3, 12, 1, 0, 16] i149 i150 hc151) (And.intro (trivial) (And.intro (And.intro rfl rfl) (And.intro (And.intro rfl rfl) (trivial)))) rfl ?_
  refine WO_step 1 [0, 1, 2] [0, 3, 4] True ⟨[(0, .one (.e (.p 0 0))), (3, .one (.e (.sl 2 0 ([(⟨(-1), [], i147⟩ : Nod)].length)))), (4, I i150)], [.cells [.sl 1 0 k2, cI i149], .row .u8 x1 false, .row .nod [(⟨(-1), [], i147⟩ : Nod)] true]⟩ (by kernel_rfl) trivial ?_
  refine WO_nil rfl ?_
  refine thenS_n ?_
  refine W_block ?_
  refine W_loop ?_
  refine bindO_e h (fun v285 hv285 h => ?_)
  refine WL_cut (spec_someTree_L1_ok w X θ k2 x1 v285 n i149 [(⟨(-1), [], i147⟩ : Nod)] i150 hv285) ?_
  obtain ⟨i243, x244⟩ := v285
  rintro _ _ ⟨rfl, rfl⟩
  refine blockS_y ?_
  refine thenS_n ?_
  refine W_seq ?_
  refine W_region ?_
  refine WO_step 2 [0, 1, 2] [2] True ⟨[(2, .one (.e (.sl 2 0 x244.length)))], [.cells [.sl 1 0 k2, cI i243], .row .u8 x1 false, .row .nod x244 true]⟩ (by kernel_rfl) trivial ?_
  refine WO_nil rfl ?_
  refine thenS_n ?_
  refine W_ret ?_
  cases h
  exact ⟨[0, 1, 2], True, by kernel_rfl, trivial⟩

/- spec.anyTree -/
def spec_anyTree_L1 (k2 : Nat) (i132 : Int) (x1 : List Int) : Nat → (List Nod) → Option ((List Nod))
| 0, _ => none
| n + 1, x405 =>
 iteO (decide (((x405.length : Nat) : Int) < 13))
 (guardO (0 = 0 ∧ x405.length = x405.length ∧ x405.length + (([(⟨0, [113], 0⟩ : Nod)].drop 0).take ([(⟨0, [113], 0⟩ : Nod)].length)).length ≤ 1099511627776) <|
 spec_anyTree_L1 k2 i132 x1 n (x405 ++ (([(⟨0, [113], 0⟩ : Nod)].drop 0).take ([(⟨0, [113], 0⟩ : Nod)].length))))
 (some x405)

theorem spec_anyTree_L1_ok (w : World) (X : Nat → Prop) (θ : List Loc) (k2 : Nat) (i132 : Int) (x1 : List Int) (x411 : (List Nod)) : ∀ (n : Nat) (x405 : List Nod), spec_anyTree_L1 k2 i132 x1 n x405 = some x411 → WL EE ⟨w, X, θ, 54, 2⟩ (subC [1, 1, 1, 0, 1, 4, 1, 3, 1, 3, 1, 3, 1, 3, 1, 2, 4, 4] (bodyC Try.f22)) (fun (e : Exit) (s : St) => e = .exit 1 ∧ s = ⟨[(3, .one (.e (.sl 2 0 x411.length)))], [.cells [.sl 1 0 k2, cI (w64 ((w64 (i132 + 1)) + 1))], .row .u8 x1 false, .row .nod x411 true]⟩) ⟨[(3, .one (.e (.sl 2 0 x405.length)))], [.cells [.sl 1 0 k2, cI (w64 ((w64 (i132 + 1)) + 1))], .row .u8 x1 false, .row .nod x405 true]⟩ := by
  intro n
  induction n with
  | zero => intro _ h; exact none_e h
  | succ n ih =>
    intro x405 h
    rw [spec_anyTree_L1] at h
    refine WL_round ?_
    refine W_seq ?_
    refine W_seq ?_
    refine W_region ?_
    refine WO_step 3 [0, 1, 2] [3, 48] (True ∧ (True ∧ True)) ⟨[(3, .one (.e (.sl 2 0 x405.length))), (48, B (decide (((x405.length : Nat) : Int) < 13)))], [.cells [.sl 1 0 k2, cI (w64 ((w64 (i132 + 1)) + 1))], .row .u8 x1 false, .row .nod x405 true]⟩ (by kernel_rfl) ⟨trivial, trivial, trivial⟩ ?_
    refine WO_nil rfl ?_
    refine thenS_n ?_
    refine iteO_e h (fun hb414 h => W_true rfl hb414 ?_) (fun hb414 h => W_false rfl hb414 ?_)
    · refine W_sub [0, 1, 2] [3] (st' := ⟨[(3, .one (.e (.sl 2 0 x405.length)))], [.cells [.sl 1 0 k2, cI (w64 ((w64 (i132 + 1)) + 1))], .row .u8 x1 false, .row .nod x405 true]⟩) (by kernel_rfl) ?_
      refine W_skip ?_
      refine thenS_n ?_
      refine W_block ?_
      refine W_region ?_
      refine guardO_e h (fun hg416 h => ?_)
      refine WO_step 5 [0, 1, 4] [3] ((0 = 0 ∧ x405.length = x405.length ∧ x405.length + (([(⟨0, [113], 0⟩ : Nod)].drop 0).take ([(⟨0, [113], 0⟩ : Nod)].length)).length ≤ 1099511627776) ∧ True) ⟨[(3, .one (.e (.sl 2 0 ((x405 ++ (([(⟨0, [113], 0⟩ : Nod)].drop 0).take ([(⟨0, [113], 0⟩ : Nod)].length))).length))))], [.cells [.sl 1 0 k2, cI (w64 ((w64 (i132 + 1)) + 1))], .row .u8 x1 false, .row .nod (x405 ++ (([(⟨0, [113], 0⟩ : Nod)].drop 0).take ([(⟨0, [113], 0⟩ : Nod)].length))) true]⟩ (by kernel_rfl) ⟨hg416, trivial⟩ ?_
      refine WO_nil rfl ?_
      refine blockS_n ?_
      refine thenS_n ?_
      exact ih _ h
    · refine W_sub [0, 1, 2] [3] (st' := ⟨[(3, .one (.e (.sl 2 0 x405.length)))], [.cells [.sl 1 0 k2, cI (w64 ((w64 (i132 + 1)) + 1))], .row .u8 x1 false, .row .nod x405 true]⟩) (by kernel_rfl) ?_
      refine W_exit ?_
      refine thenS_e ?_
      refine thenS_e ?_
      cases h
      exact And.intro rfl rfl

def spec_anyTree (n : Nat) (x1 : List Int) (k2 : Nat) (i3 : Int) : Option (Int × (List Nod) × Nat × Nat) :=
 bindO (spec_someTree n x1 k2 i3) fun (i132, x133) =>
 bindO (spec_reader_pick x1 k2 i132 ((x133.length : Nat) : Int)) fun i135 =>
 bindO (spec_reader_pick x1 k2 (w64 (i132 + 1)) 30) fun i137 =>
 bindO (iteO (decide (i137 = 0))
 (bindO (spec_reader_pick x1 k2 (w64 ((w64 (i132 + 1)) + 1)) 6) fun i252 =>
 guardO (0 ≤ i135 ∧ i135 < ((x133.length : Nat) : Int)) <|
 some ((w64 ((w64 ((w64 (i132 + 1)) + 1)) + 1)), (x133.set i135.toNat (⟨(w64 (i252 - 1)), (x133.getD i135.toNat dnod).name, (x133.getD i135.toNat dnod).value⟩ : Nod)), 0, (x133.set i135.toNat (⟨(w64 (i252 - 1)), (x133.getD i135.toNat dnod).name, (x133.getD i135.toNat dnod).value⟩ : Nod)).length))
 (bindO (iteO (decide (i137 = 1))
 (bindO (spec_reader_of x1 k2 (w64 ((w64 (i132 + 1)) + 1)) [[], [65], [97, 98, 99, 100, 101], [97]]) fun (i303, s304) =>
 guardO (0 ≤ i135 ∧ i135 < ((x133.length : Nat) : Int)) <|
 some (i303, (x133.set i135.toNat (⟨(x133.getD i135.toNat dnod).parent, s304, (x133.getD i135.toNat dnod).value⟩ : Nod)), 0, (x133.set i135.toNat (⟨(x133.getD i135.toNat dnod).parent, s304, (x133.getD i135.toNat dnod).value⟩ : Nod)).length))
 (bindO (iteO (decide (i137 = 2))
 (bindO (spec_reader_one x1 k2 (w64 ((w64 (i132 + 1)) + 1)) [1001, (-1001)]) fun (i345, i346) =>
 guardO (0 ≤ i135 ∧ i135 < ((x133.length : Nat) : Int)) <|
 some (i345, (x133.set i135.toNat (⟨(x133.getD i135.toNat dnod).parent, (x133.getD i135.toNat dnod).name, i346⟩ : Nod)), 0, (x133.set i135.toNat (⟨(x133.getD i135.toNat dnod).parent, (x133.getD i135.toNat dnod).name, i346⟩ : Nod)).length))
 (bindO (iteO (decide (i137 = 3))
 (guardO (0 ≤ (1 : Int) ∧ (1 : Int) ≤ ((x133.length : Nat) : Int)) <|
 some (x133, 1, (x133.length - 1)))
 (bindO (iteO (decide (i137 = 4))
 (bindO (spec_anyTree_L1 k2 i132 x1 n x133) fun x411 =>
 some x411)
 (some x133)) fun x394 =>
 some (x394, 0, x394.length))) fun v374 =>
 match v374 with
 | (x371, k372, k373) => (some ((w64 ((w64 (i132 + 1)) + 1)), x371, k372, k373))
)) fun v343 =>
 match v343 with
 | (i339, x340, k341, k342) => (some (i339, x340, k341, k342))
)) fun v301 =>
 match v301 with
 | (i297, x298, k299, k300) => (some (i297, x298, k299, k300))
)) fun v250 =>
 match v250 with
 | (i246, x247, k248, k249) => (some (i246, x247, k248, k249))


theorem spec_anyTree_ok (n : Nat) (x1 : List Int) (k2 : Nat) (i3 : Int) (i128 : Int) (x129 : List Nod) (k130 : Nat) (k131 : Nat) (h : spec_anyTree n x1 k2 i3 = some (i128, x129, k130, k131)) : FOk EE 22 [.one (.e (.p 0 0))] [.cells [.sl 1 0 k2, cI i3], .row .u8 x1 false] (.one (.e (.sl 2 k130 k131))) [.cells [.sl 1 0 k2, cI i128], .row .u8 x1 false, .row .nod x129 true] := by
  unfold spec_anyTree at h
  refine FOk_of_W 54 2 Try.func22 rfl rfl (Nat.le_of_ble_eq_true rfl) rfl (fun w X θ => ?_)
  refine W_seq ?_
  refine W_region ?_
  refine WO_step 1 [0, 1] [0] True ⟨[(0, .one (.e (.p 0 0)))], [.cells [.sl 1 0 k2, cI i3], .row .u8 x1 false]⟩ (by kernel_rfl) trivial ?_
  refine WO_nil rfl ?_
  refine thenS_n ?_
  refine W_seq ?_
  refine W_region ?_
  refine WO_step 1 [0, 1] [0, 5] True ⟨[(0, .one (.e (.p 0 0))), (5, .one (.e (.p 0 0)))], [.cells [.sl 1 0 k2, cI i3], .row .u8 x1 false]⟩ (by kernel_rfl) trivial ?_
  refine bindO_e h (fun v418 hc134 h => ?_)
  obtain ⟨i132, x133⟩ := v418
  refine WO_call [.own 0, .ro 1] Try.f39 rfl rfl rfl (by kernel_rfl) Try.func39 rfl (by kernel_rfl) (spec_someTree_ok n x1 k2 i3 i132 x133 hc134) (And.intro (trivial) (And.intro (And.intro rfl rfl) (trivial))) rfl ?_
  refine WO_step 1 [0, 1, 2] [0, 3] True ⟨[(0, .one (.e (.p 0 0))), (3, .one (.e (.sl 2 0 x133.length)))], [.cells [.sl 1 0 k2, cI i132], .row .u8 x1 false, .row .nod x133 true]⟩ (by kernel_rfl) trivial ?_
  refine WO_nil rfl ?_
  refine thenS_n ?_
  refine W_seq ?_
  refine W_region ?_
  refine WO_step 3 [0, 1, 2] [0, 3, 7, 9] (True ∧ True) ⟨[(0, .one (.e (.p 0 0))), (3, .one (.e (.sl 2 0 x133.length))), (7, .one (.e (.p 0 0))), (9, I ((x133.length : Nat) : Int))], [.cells [.sl 1 0 k2, cI i132], .row .u8 x1 false, .row .nod x133 true]⟩ (by kernel_rfl) ⟨trivial, trivial⟩ ?_
  refine bindO_e h (fun i135 hc136 h => ?_)
  refine WO_call [.own 0, .ro 1] Try.f23 rfl rfl rfl (by kernel_rfl) Try.func23 rfl (by kernel_rfl) (spec_reader_pick_ok x1 k2 i132 ((x133.length : Nat) : Int) i135 hc136) (And.intro (trivial) (And.intro (And.intro rfl rfl) (trivial))) rfl ?_
  refine WO_step 1 [0, 1, 2] [0, 3, 4] True ⟨[(0, .one (.e (.p 0 0))), (3, .one (.e (.sl 2 0 x133.length))), (4, I i135)], [.cells [.sl 1 0 k2, cI (w64 (i132 + 1))], .row .u8 x1 false, .row .nod x133 true]⟩ (by kernel_rfl) trivial ?_
  refine WO_nil rfl ?_
  refine thenS_n ?_
  refine W_seq ?_
  refine W_seq ?_
  refine W_region ?_
  refine WO_step 1 [0, 1, 2] [0, 3, 4, 11] True ⟨[(0, .one (.e (.p 0 0))), (3, .one (.e (.sl 2 0 x133.length))), (4, I i135), (11, .one (.e (.p 0 0)))], [.cells [.sl 1 0 k2, cI (w64 (i132 + 1))], .row .u8 x1 false, .row .nod x133 true]⟩ (by kernel_rfl) trivial ?_
  refine bindO_e h (fun i137 hc138 h => ?_)
  refine WO_call [.own 0, .ro 1] Try.f23 rfl rfl rfl (by kernel_rfl) Try.func23 rfl (by kernel_rfl) (spec_reader_pick_ok x1 k2 (w64 (i132 + 1)) 30 i137 hc138) (And.intro (trivial) (And.intro (And.intro rfl rfl) (trivial))) rfl ?_
  refine WO_sub [0, 1, 2] [0, 3, 4, 12] (st' := ⟨[(0, .one (.e (.p 0 0))), (3, .one (.e (.sl 2 0 x133.length))), (4, I i135), (12, I i137)], [.cells [.sl 1 0 k2, cI (w64 ((w64 (i132 + 1)) + 1))], .row .u8 x1 false, .row .nod x133 true]⟩) (by kernel_rfl) ?_
  refine WO_nil rfl ?_
  refine thenS_n ?_
  refine W_block ?_
  refine W_seq ?_
  refine W_region ?_
  refine WO_step 2 [0, 1, 2] [0, 3, 4, 12, 13] (True ∧ True) ⟨[(0, .one (.e (.p 0 0))), (3, .one (.e (.sl 2 0 x133.length))), (4, I i135), (12, I i137), (13, B (decide (i137 = 0)))], [.cells [.sl 1 0 k2, cI (w64 ((w64 (i132 + 1)) + 1))], .row .u8 x1 false, .row .nod x133 true]⟩ (by kernel_rfl) ⟨trivial, trivial⟩ ?_
  refine WO_nil rfl ?_
  refine thenS_n ?_
  refine bindO_e h (fun v250 hv250 h => ?_)
  refine W_cut (Q' := fun (e : Exit) (s : St) => (match v250 with | (i246, x247, k248, k249) => e = .normal ∧ s = ⟨[(3, .one (.e (.sl 2 k248 k249)))], [.cells [.sl 1 0 k2, cI i246], .row .u8 x1 false, .row .nod x247 true]⟩ : Prop)) ?_ ?_
  · refine iteO_e hv250 (fun hb251 hv250 => W_true rfl hb251 ?_) (fun hb251 hv250 => W_false rfl hb251 ?_)
    · refine W_region ?_
      refine WO_step 3 [0, 1, 2] [3, 15, 16, 17] True ⟨[(3, .one (.e (.sl 2 0 x133.length))), (15, .one (.e (.sl 2 0 x133.length))), (16, I i135), (17, .one (.e (.p 0 0)))], [.cells [.sl 1 0 k2, cI (w64 ((w64 (i132 + 1)) + 1))], .row .u8 x1 false, .row .nod x133 true]⟩ (by kernel_rfl) trivial ?_
      refine bindO_e hv250 (fun i252 hc253 hv250 => ?_)
      refine WO_call [.own 0, .ro 1] Try.f23 rfl rfl rfl (by kernel_rfl) Try.func23 rfl (by kernel_rfl) (spec_reader_pick_ok x1 k2 (w64 ((w64 (i132 + 1)) + 1)) 6 i252 hc253) (And.intro (trivial) (And.intro (And.intro rfl rfl) (trivial))) rfl ?_
      refine guardO_e hv250 (fun hg254 hv250 => ?_)
      refine WO_step 4 [0, 1, 2] [3] (True ∧ ((0 ≤ i135 ∧ i135 < ((x133.length : Nat) : Int)) ∧ (True ∧ True))) ⟨[(3, .one (.e (.sl 2 0 x133.length)))], [.cells [.sl 1 0 k2, cI (w64 ((w64 ((w64 (i132 + 1)) + 1)) + 1))], .row .u8 x1 false, .row .nod (x133.set i135.toNat (⟨(w64 (i252 - 1)), (x133.getD i135.toNat dnod).name, (x133.getD i135.toNat dnod).value⟩ : Nod)) true]⟩ (by kernel_rfl) ⟨trivial, hg254, trivial, trivial⟩ ?_
      refine WO_eq (st' := ⟨[(3, .one (.e (.sl 2 0 ((x133.set i135.toNat (⟨(w64 (i252 - 1)), (x133.getD i135.toNat dnod).name, (x133.getD i135.toNat dnod).value⟩ : Nod)).length))))], [.cells [.sl 1 0 k2, cI (w64 ((w64 ((w64 (i132 + 1)) + 1)) + 1))], .row .u8 x1 false, .row .nod (x133.set i135.toNat (⟨(w64 (i252 - 1)), (x133.getD i135.toNat dnod).name, (x133.getD i135.toNat dnod).value⟩ : Nod)) true]⟩) (by simp only [List.length_set]) ?_
      refine WO_nil rfl ?_
      cases hv250
      exact And.intro rfl rfl
    · refine W_seq ?_
      refine W_region ?_
      refine WO_step 2 [0, 1, 2] [0, 3, 4, 12, 22] (True ∧ True) ⟨[(0, .one (.e (.p 0 0))), (3, .one (.e (.sl 2 0 x133.length))), (4, I i135), (12, I i137), (22, B (decide (i137 = 1)))], [.cells [.sl 1 0 k2, cI (w64 ((w64 (i132 + 1)) + 1))], .row .u8 x1 false, .row .nod x133 true]⟩ (by kernel_rfl) ⟨trivial, trivial⟩ ?_
      refine WO_nil rfl ?_
      refine thenS_n ?_
      refine bindO_e hv250 (fun v301 hv301 hv250 => ?_)
      refine W_cut (Q' := fun (e : Exit) (s : St) => (match v301 with | (i297, x298, k299, k300) => e = .normal ∧ s = ⟨[(3, .one (.e (.sl 2 k299 k300)))], [.cells [.sl 1 0 k2, cI i297], .row .u8 x1 false, .row .nod x298 true]⟩ : Prop)) ?_ ?_
      · refine iteO_e hv301 (fun hb302 hv301 => W_true rfl hb302 ?_) (fun hb302 hv301 => W_false rfl hb302 ?_)
        · refine W_region ?_
          refine WO_step 4 [0, 1, 2, 3] [3, 24, 25, 26, 27] True ⟨[(3, .one (.e (.sl 2 0 x133.length))), (24, .one (.e (.sl 2 0 x133.length))), (25, I i135), (26, .one (.e (.p 0 0))), (27, .one (.e (.sl 3 0 ([[], [65], [97, 98, 99, 100, 101], [97]].length))))], [.cells [.sl 1 0 k2, cI (w64 ((w64 (i132 + 1)) + 1))], .row .u8 x1 false, .row .nod x133 true, .row .str [[], [65], [97, 98, 99, 100, 101], [97]] true]⟩ (by kernel_rfl) trivial ?_
          refine bindO_e hv301 (fun v307 hc305 hv301 => ?_)
          obtain ⟨i303, s304⟩ := v307
          refine WO_call [.own 0, .ro 1, .ro 3] Try.f40 rfl rfl rfl (by kernel_rfl) Try.func40 rfl (by kernel_rfl) (spec_reader_of_ok x1 k2 (w64 ((w64 (i132 + 1)) + 1)) [[], [65], [97, 98, 99, 100, 101], [97]] i303 s304 hc305) (And.intro (trivial) (And.intro (And.intro rfl rfl) (And.intro (And.intro rfl rfl) (trivial)))) rfl ?_
          refine guardO_e hv301 (fun hg306 hv301 => ?_)
          refine WO_step 3 [0, 1, 2] [3] ((0 ≤ i135 ∧ i135 < ((x133.length : Nat) : Int)) ∧ (True ∧ True)) ⟨[(3, .one (.e (.sl 2 0 x133.length)))], [.cells [.sl 1 0 k2, cI i303], .row .u8 x1 false, .row .nod (x133.set i135.toNat (⟨(x133.getD i135.toNat dnod).parent, s304, (x133.getD i135.toNat dnod).value⟩ : Nod)) true]⟩ (by kernel_rfl) ⟨hg306, trivial, trivial⟩ ?_
          refine WO_eq (st' := ⟨[(3, .one (.e (.sl 2 0 ((x133.set i135.toNat (⟨(x133.getD i135.toNat dnod).parent, s304, (x133.getD i135.toNat dnod).value⟩ : Nod)).length))))], [.cells [.sl 1 0 k2, cI i303], .row .u8 x1 false, .row .nod (x133.set i135.toNat (⟨(x133.getD i135.toNat dnod).parent, s304, (x133.getD i135.toNat dnod).value⟩ : Nod)) true]⟩) (by simp only [List.length_set]) ?_
          refine WO_nil rfl ?_
          cases hv301
          exact And.intro rfl rfl
        · refine W_seq ?_
          refine W_region ?_
          refine WO_step 2 [0, 1, 2] [0, 3, 4, 12, 31] (True ∧ True) ⟨[(0, .one (.e (.p 0 0))), (3, .one (.e (.sl 2 0 x133.length))), (4, I i135), (12, I i137), (31, B (decide (i137 = 2)))], [.cells [.sl 1 0 k2, cI (w64 ((w64 (i132 + 1)) + 1))], .row .u8 x1 false, .row .nod x133 true]⟩ (by kernel_rfl) ⟨trivial, trivial⟩ ?_
          refine WO_nil rfl ?_
          refine thenS_n ?_
          refine bindO_e hv301 (fun v343 hv343 hv301 => ?_)
          refine W_cut (Q' := fun (e : Exit) (s : St) => (match v343 with | (i339, x340, k341, k342) => e = .normal ∧ s = ⟨[(3, .one (.e (.sl 2 k341 k342)))], [.cells [.sl 1 0 k2, cI i339], .row .u8 x1 false, .row .nod x340 true]⟩ : Prop)) ?_ ?_
          · refine iteO_e hv343 (fun hb344 hv343 => W_true rfl hb344 ?_) (fun hb344 hv343 => W_false rfl hb344 ?_)
            · refine W_region ?_
              refine WO_step 4 [0, 1, 2, 3] [3, 33, 34, 35, 36] True ⟨[(3, .one (.e (.sl 2 0 x133.length))), (33, .one (.e (.sl 2 0 x133.length))), (34, I i135), (35, .one (.e (.p 0 0))), (36, .one (.e (.sl 3 0 ([1001, (-1001)].length))))], [.cells [.sl 1 0 k2, cI (w64 ((w64 (i132 + 1)) + 1))], .row .u8 x1 false, .row .nod x133 true, .row .int [1001, (-1001)] true]⟩ (by kernel_rfl) trivial ?_
              refine bindO_e hv343 (fun v349 hc347 hv343 => ?_)
              obtain ⟨i345, i346⟩ := v349
              refine WO_call [.own 0, .ro 1, .ro 3] Try.f41 rfl rfl rfl (by kernel_rfl) Try.func41 rfl (by kernel_rfl) (spec_reader_one_ok x1 k2 (w64 ((w64 (i132 + 1)) + 1)) [1001, (-1001)] i345 i346 hc347) (And.intro (trivial) (And.intro (And.intro rfl rfl) (And.intro (And.intro rfl rfl) (trivial)))) rfl ?_
              refine guardO_e hv343 (fun hg348 hv343 => ?_)
              refine WO_step 3 [0, 1, 2] [3] ((0 ≤ i135 ∧ i135 < ((x133.length : Nat) : Int)) ∧ (True ∧ True)) ⟨[(3, .one (.e (.sl 2 0 x133.length)))], [.cells [.sl 1 0 k2, cI i345], .row .u8 x1 false, .row .nod (x133.set i135.toNat (⟨(x133.getD i135.toNat dnod).parent, (x133.getD i135.toNat dnod).name, i346⟩ : Nod)) true]⟩ (by kernel_rfl) ⟨hg348, trivial, trivial⟩ ?_
              refine WO_eq (st' := ⟨[(3, .one (.e (.sl 2 0 ((x133.set i135.toNat (⟨(x133.getD i135.toNat dnod).parent, (x133.getD i135.toNat dnod).name, i346⟩ : Nod)).length))))], [.cells [.sl 1 0 k2, cI i345], .row .u8 x1 false, .row .nod (x133.set i135.toNat (⟨(x133.getD i135.toNat dnod).parent, (x133.getD i135.toNat dnod).name, i346⟩ : Nod)) true]⟩) (by simp only [List.length_set]) ?_
              refine WO_nil rfl ?_
              cases hv343
              exact And.intro rfl rfl
            · refine W_seq ?_
              refine W_region ?_
              refine WO_step 2 [0, 1, 2] [3, 12, 40] (True ∧ True) ⟨[(3, .one (.e (.sl 2 0 x133.length))), (12, I i137), (40, B (decide (i137 = 3)))], [.cells [.sl 1 0 k2, cI (w64 ((w64 (i132 + 1)) + 1))], .row .u8 x1 false, .row .nod x133 true]⟩ (by kernel_rfl) ⟨trivial, trivial⟩ ?_
              refine WO_nil rfl ?_
              refine thenS_n ?_
              refine bindO_e hv343 (fun v374 hv374 hv343 => ?_)
              refine W_cut (Q' := fun (e : Exit) (s : St) => (match v374 with | (x371, k372, k373) => e = .normal ∧ s = ⟨[(3, .one (.e (.sl 2 k372 k373)))], [.cells [.sl 1 0 k2, cI (w64 ((w64 (i132 + 1)) + 1))], .row .u8 x1 false, .row .nod x371 true]⟩ : Prop)) ?_ ?_
              · refine iteO_e hv374 (fun hb375 hv374 => W_true rfl hb375 ?_) (fun hb375 hv374 => W_false rfl hb375 ?_)
                · refine W_region ?_
                  refine guardO_e hv374 (fun hg376 hv374 => ?_)
                  refine WO_step 3 [0, 1, 2] [3] ((0 ≤ (1 : Int) ∧ (1 : Int) ≤ ((x133.length : Nat) : Int)) ∧ True) ⟨[(3, .one (.e (.sl 2 1 (x133.length - 1))))], [.cells [.sl 1 0 k2, cI (w64 ((w64 (i132 + 1)) + 1))], .row .u8 x1 false, .row .nod x133 true]⟩ (by kernel_rfl) ⟨hg376, trivial⟩ ?_
                  refine WO_nil rfl ?_
                  cases hv374
                  exact And.intro rfl rfl
                · refine W_seq ?_
                  refine W_region ?_
                  refine WO_step 2 [0, 1, 2] [3, 44] (True ∧ True) ⟨[(3, .one (.e (.sl 2 0 x133.length))), (44, B (decide (i137 = 4)))], [.cells [.sl 1 0 k2, cI (w64 ((w64 (i132 + 1)) + 1))], .row .u8 x1 false, .row .nod x133 true]⟩ (by kernel_rfl) ⟨trivial, trivial⟩ ?_
                  refine WO_nil rfl ?_
                  refine thenS_n ?_
                  refine bindO_e hv374 (fun x394 hx394 hv374 => ?_)
                  refine W_cut (Q' := fun (e : Exit) (s : St) => e = .normal ∧ s = ⟨[(3, .one (.e (.sl 2 0 x394.length)))], [.cells [.sl 1 0 k2, cI (w64 ((w64 (i132 + 1)) + 1))], .row .u8 x1 false, .row .nod x394 true]⟩) ?_ ?_
                  · refine iteO_e hx394 (fun hb396 hx394 => W_true rfl hb396 ?_) (fun hb396 hx394 => W_false rfl hb396 ?_)
                    · refine W_block ?_
                      refine W_sub [0, 1, 2] [3] (st' := ⟨[(3, .one (.e (.sl 2 0 x133.length)))], [.cells [.sl 1 0 k2, cI (w64 ((w64 (i132 + 1)) + 1))], .row .u8 x1 false, .row .nod x133 true]⟩) (by kernel_rfl) ?_
                      refine W_loop ?_
                      refine bindO_e hx394 (fun x411 hx411 hx394 => ?_)
                      refine WL_cut (spec_anyTree_L1_ok w X θ k2 i132 x1 x411 n x133 hx411) ?_
                      rintro _ _ ⟨rfl, rfl⟩
                      refine blockS_y ?_
                      cases hx394
                      exact And.intro rfl rfl
                    · refine W_sub [0, 1, 2] [3] (st' := ⟨[(3, .one (.e (.sl 2 0 x133.length)))], [.cells [.sl 1 0 k2, cI (w64 ((w64 (i132 + 1)) + 1))], .row .u8 x1 false, .row .nod x133 true]⟩) (by kernel_rfl) ?_
                      refine W_skip ?_
                      cases hx394
                      exact And.intro rfl rfl
                  · rintro _ _ ⟨rfl, rfl⟩
                    cases hv374
                    exact And.intro rfl rfl
              · obtain ⟨x371, k372, k373⟩ := v374
                rintro _ _ ⟨rfl, rfl⟩
                cases hv343
                exact And.intro rfl rfl
          · obtain ⟨i339, x340, k341, k342⟩ := v343
            rintro _ _ ⟨rfl, rfl⟩
            cases hv301
            exact And.intro rfl rfl
      · obtain ⟨i297, x298, k299, k300⟩ := v301
        rintro _ _ ⟨rfl, rfl⟩
        cases hv250
        exact And.intro rfl rfl
  · obtain ⟨i246, x247, k248, k249⟩ := v250
    rintro _ _ ⟨rfl, rfl⟩
    refine blockS_n ?_
    refine thenS_n ?_
    refine W_seq ?_
    refine W_region ?_
    refine WO_step 2 [0, 1, 2] [2] True ⟨[(2, .one (.e (.sl 2 k248 k249)))], [.cells [.sl 1 0 k2, cI i246], .row .u8 x1 false, .row .nod x247 true]⟩ (by kernel_rfl) trivial ?_
    refine WO_nil rfl ?_
    refine thenS_n ?_
    refine W_ret ?_
    cases h
    exact ⟨[0, 1, 2], True, by kernel_rfl, trivial⟩

/- spec.kids -/
def spec_kids_L1 (x1 : List Nod) (i2 : Int) : Nat → (List Int) → Int → Option ((List Int))
| 0, _, _ => none
| n + 1, x68, i69 =>
 iteO (decide (i69 < ((x1.length : Nat) : Int)))
 (guardO (0 ≤ i69 ∧ i69 < ((x1.length : Nat) : Int)) <|
 bindO (iteO (decide (((x1.getD i69.toNat dnod).parent) = i2))
 (guardO (0 = 0 ∧ x68.length = x68.length ∧ x68.length + (([i69].drop 0).take ([i69].length)).length ≤ 1099511627776) <|
 some (x68 ++ (([i69].drop 0).take ([i69].length))))
 (some x68)) fun x96 =>
 spec_kids_L1 x1 i2 n x96 (w64 (i69 + 1)))
 (some x68)

theorem spec_kids_L1_ok (w : World) (X : Nat → Prop) (θ : List Loc) (x1 : List Nod) (i2 : Int) (x84 : (List Int)) : ∀ (n : Nat) (x68 : List Int) (i69 : Int), spec_kids_L1 x1 i2 n x68 i69 = some x84 → WL EE ⟨w, X, θ, 26, 1⟩ (subC [1, 1, 0, 1, 4, 4] (bodyC Try.f52)) (fun (e : Exit) (s : St) => e = .exit 0 ∧ s = ⟨[(5, .one (.e (.sl 1 0 x84.length)))], [.row .nod x1 false, .row .int x84 true]⟩) ⟨[(0, .one (.e (.sl 0 0 x1.length))), (1, I i2), (5, .one (.e (.sl 1 0 x68.length))), (6, I i69)], [.row .nod x1 false, .row .int x68 true]⟩ := by
  intro n
  induction n with
  | zero => intro _ _ h; exact none_e h
  | succ n ih =>
    intro x68 i69 h
    rw [spec_kids_L1] at h
    refine WL_round ?_
    refine W_seq ?_
    refine W_seq ?_
    refine W_region ?_
    refine WO_step 4 [0, 1] [0, 1, 5, 6, 11] (True ∧ (True ∧ True)) ⟨[(0, .one (.e (.sl 0 0 x1.length))), (1, I i2), (5, .one (.e (.sl 1 0 x68.length))), (6, I i69), (11, B (decide (i69 < ((x1.length : Nat) : Int))))], [.row .nod x1 false, .row .int x68 true]⟩ (by kernel_rfl) ⟨trivial, trivial, trivial⟩ ?_
    refine WO_nil rfl ?_
    refine thenS_n ?_
    refine iteO_e h (fun hb87 h => W_true rfl hb87 ?_) (fun hb87 h => W_false rfl hb87 ?_)
    · refine W_sub [0, 1] [0, 1, 5, 6] (st' := ⟨[(0, .one (.e (.sl 0 0 x1.length))), (1, I i2), (5, .one (.e (.sl 1 0 x68.length))), (6, I i69)], [.row .nod x1 false, .row .int x68 true]⟩) (by kernel_rfl) ?_
      refine W_skip ?_
      refine thenS_n ?_
      refine W_seq ?_
      refine W_block ?_
      refine W_seq ?_
      refine W_region ?_
      refine guardO_e h (fun hg93 h => ?_)
      refine WO_step 7 [0, 1] [0, 1, 5, 6, 20] ((0 ≤ i69 ∧ i69 < ((x1.length : Nat) : Int)) ∧ (True ∧ (True ∧ True))) ⟨[(0, .one (.e (.sl 0 0 x1.length))), (1, I i2), (5, .one (.e (.sl 1 0 x68.length))), (6, I i69), (20, B (decide (((x1.getD i69.toNat dnod).parent) = i2)))], [.row .nod x1 false, .row .int x68 true]⟩ (by kernel_rfl) ⟨hg93, trivial, trivial, trivial⟩ ?_
      refine WO_nil rfl ?_
      refine thenS_n ?_
      refine bindO_e h (fun x96 hx96 h => ?_)
      refine W_cut (Q' := fun (e : Exit) (s : St) => e = .normal ∧ s = ⟨[(0, .one (.e (.sl 0 0 x1.length))), (1, I i2), (5, .one (.e (.sl 1 0 x96.length))), (6, I i69)], [.row .nod x1 false, .row .int x96 true]⟩) ?_ ?_
      · refine iteO_e hx96 (fun hb98 hx96 => W_true rfl hb98 ?_) (fun hb98 hx96 => W_false rfl hb98 ?_)
        · refine W_region ?_
          refine guardO_e hx96 (fun hg99 hx96 => ?_)
          refine WO_step 5 [0, 3] [0, 1, 5, 6] ((0 = 0 ∧ x68.length = x68.length ∧ x68.length + (([i69].drop 0).take ([i69].length)).length ≤ 1099511627776) ∧ True) ⟨[(0, .one (.e (.sl 0 0 x1.length))), (1, I i2), (5, .one (.e (.sl 1 0 ((x68 ++ (([i69].drop 0).take ([i69].length))).length)))), (6, I i69)], [.row .nod x1 false, .row .int (x68 ++ (([i69].drop 0).take ([i69].length))) true]⟩ (by kernel_rfl) ⟨hg99, trivial⟩ ?_
          refine WO_nil rfl ?_
          cases hx96
          exact And.intro rfl rfl
        · refine W_sub [0, 1] [0, 1, 5, 6] (st' := ⟨[(0, .one (.e (.sl 0 0 x1.length))), (1, I i2), (5, .one (.e (.sl 1 0 x68.length))), (6, I i69)], [.row .nod x1 false, .row .int x68 true]⟩) (by kernel_rfl) ?_
          refine W_skip ?_
          cases hx96
          exact And.intro rfl rfl
      · rintro _ _ ⟨rfl, rfl⟩
        refine blockS_n ?_
        refine thenS_n ?_
        refine W_region ?_
        refine WO_step 3 [0, 1] [0, 1, 5, 6] (True ∧ True) ⟨[(0, .one (.e (.sl 0 0 x1.length))), (1, I i2), (5, .one (.e (.sl 1 0 x96.length))), (6, I (w64 (i69 + 1)))], [.row .nod x1 false, .row .int x96 true]⟩ (by kernel_rfl) ⟨trivial, trivial⟩ ?_
        refine WO_nil rfl ?_
        refine thenS_n ?_
        exact ih _ _ h
    · refine W_sub [0, 1] [5] (st' := ⟨[(5, .one (.e (.sl 1 0 x68.length)))], [.row .nod x1 false, .row .int x68 true]⟩) (by kernel_rfl) ?_
      refine W_exit ?_
      refine thenS_e ?_
      refine thenS_e ?_
      cases h
      exact And.intro rfl rfl

def spec_kids (n : Nat) (x1 : List Nod) (i2 : Int) : Option ((List Int)) :=
 bindO (spec_kids_L1 x1 i2 n ([] : List Int) 1) fun x84 =>
 some x84

theorem spec_kids_ok (n : Nat) (x1 : List Nod) (i2 : Int) (x49 : List Int) (h : spec_kids n x1 i2 = some x49) : FOk EE 52 [.one (.e (.sl 0 0 x1.length)), I i2] [.row .nod x1 false] (.one (.e (.sl 1 0 x49.length))) [.row .nod x1 false, .row .int x49 true] := by
  unfold spec_kids at h
  refine FOk_of_W 26 1 Try.func52 rfl rfl (Nat.le_of_ble_eq_true rfl) rfl (fun w X θ => ?_)
  refine W_seq ?_
  refine W_region ?_
  refine WO_step 1 [0] [0, 1] True ⟨[(0, .one (.e (.sl 0 0 x1.length))), (1, I i2)], [.row .nod x1 false]⟩ (by kernel_rfl) trivial ?_
  refine WO_nil rfl ?_
  refine thenS_n ?_
  refine W_seq ?_
  refine W_region ?_
  refine WO_step 2 [0, 1] [0, 1, 5] True ⟨[(0, .one (.e (.sl 0 0 x1.length))), (1, I i2), (5, .one (.e (.sl 1 0 (([] : List Int).length))))], [.row .nod x1 false, .row .int ([] : List Int) true]⟩ (by kernel_rfl) trivial ?_
  refine WO_nil rfl ?_
  refine thenS_n ?_
  refine W_seq ?_
  refine W_seq ?_
  refine W_region ?_
  refine WO_step 1 [0, 1] [0, 1, 5, 6] True ⟨[(0, .one (.e (.sl 0 0 x1.length))), (1, I i2), (5, .one (.e (.sl 1 0 (([] : List Int).length)))), (6, I 1)], [.row .nod x1 false, .row .int ([] : List Int) true]⟩ (by kernel_rfl) trivial ?_
  refine WO_nil rfl ?_
  refine thenS_n ?_
  refine W_block ?_
  refine W_loop ?_
  refine bindO_e h (fun x84 hx84 h => ?_)
  refine WL_cut (spec_kids_L1_ok w X θ x1 i2 x84 n ([] : List Int) 1 hx84) ?_
  rintro _ _ ⟨rfl, rfl⟩
  refine blockS_y ?_
  refine thenS_n ?_
  refine W_seq ?_
  refine W_region ?_
  refine WO_step 2 [0, 1] [4] True ⟨[(4, .one (.e (.sl 1 0 x84.length)))], [.row .nod x1 false, .row .int x84 true]⟩ (by kernel_rfl) trivial ?_
  refine WO_nil rfl ?_
  refine thenS_n ?_
  refine W_ret ?_
  cases h
  exact ⟨[0, 1], True, by kernel_rfl, trivial⟩

/- spec.walk -/
def spec_walk_L2 (rec : (List Nod) → Int → Option ((List Int))) (x1 : List Nod) (i2 : Int) (i463 : Int) : Nat → (List Int) → Int → Option ((List Int))
| 0, _, _ => none
| n + 1, x633, i634 =>
 bindO (iteO (decide (0 < i634))
 (guardO (0 ≤ i634 ∧ i634 < ((x633.length : Nat) : Int)) <|
 guardO (0 ≤ (x633.getD i634.toNat 0) ∧ (x633.getD i634.toNat 0) < ((x1.length : Nat) : Int)) <|
 guardO (0 ≤ (w64 (i634 - 1)) ∧ (w64 (i634 - 1)) < ((x633.length : Nat) : Int)) <|
 guardO (0 ≤ (x633.getD ((w64 (i634 - 1)).toNat) 0) ∧ (x633.getD ((w64 (i634 - 1)).toNat) 0) < ((x1.length : Nat) : Int)) <|
 some (Op.bytesLess ((x1.getD ((x633.getD i634.toNat 0).toNat) dnod).name) ((x1.getD ((x633.getD ((w64 (i634 - 1)).toNat) 0).toNat) dnod).name)))
 (some false)) fun b661 =>
 iteO b661
 (guardO (0 ≤ i634 ∧ i634 < ((x633.length : Nat) : Int)) <|
 guardO (0 ≤ (w64 (i634 - 1)) ∧ (w64 (i634 - 1)) < ((x633.length : Nat) : Int)) <|
 guardO (0 ≤ i634 ∧ i634 < ((x633.length : Nat) : Int)) <|
 guardO (0 ≤ (w64 (i634 - 1)) ∧ (w64 (i634 - 1)) < (((x633.set i634.toNat (x633.getD ((w64 (i634 - 1)).toNat) 0)).length : Nat) : Int)) <|
 spec_walk_L2 rec x1 i2 i463 n ((x633.set i634.toNat (x633.getD ((w64 (i634 - 1)).toNat) 0)).set ((w64 (i634 - 1)).toNat) (x633.getD i634.toNat 0)) (w64 (i634 - 1)))
 (some x633)

theorem spec_walk_L2_ok (rec : (List Nod) → Int → Option ((List Int))) (hrec : ∀ (x1 : List Nod) (i2 : Int) (x3 : List Int), rec x1 i2 = some x3 → FOk EE 37 [.one (.e (.sl 0 0 x1.length)), I i2] [.row .nod x1 false] (.one (.e (.sl 1 0 x3.length))) [.row .nod x1 false, .row .int x3 true]) (w : World) (X : Nat → Prop) (θ : List Loc) (x1 : List Nod) (i2 : Int) (i463 : Int) (x654 : (List Int)) : ∀ (n : Nat) (x633 : List Int) (i634 : Int), spec_walk_L2 rec x1 i2 i463 n x633 i634 = some x654 → WL EE ⟨w, X, θ, 79, 1⟩ (subC [1, 1, 1, 0, 1, 4, 4, 1, 0, 4, 1, 4, 4] (bodyC Try.f37)) (fun (e : Exit) (s : St) => e = .exit 2 ∧ s = ⟨[(0, .one (.e (.sl 0 0 x1.length))), (5, .one (.e (.sl 1 0 ([i2].length)))), (6, .one (.e (.sl 2 0 x654.length))), (7, I i463)], [.row .nod x1 false, .row .int [i2] true, .row .int x654 true]⟩) ⟨[(0, .one (.e (.sl 0 0 x1.length))), (5, .one (.e (.sl 1 0 ([i2].length)))), (6, .one (.e (.sl 2 0 x633.length))), (7, I i463), (8, I i634)], [.row .nod x1 false, .row .int [i2] true, .row .int x633 true]⟩ := by
  intro n
  induction n with
  | zero => intro _ _ h; exact none_e h
  | succ n ih =>
    intro x633 i634 h
    rw [spec_walk_L2] at h
    refine WL_round ?_
    refine W_seq ?_
    refine W_seq ?_
    refine bindO_e h (fun b661 hv662 h => ?_)
    refine W_cut (Q' := fun (e : Exit) (s : St) => e = .normal ∧ s = ⟨[(0, .one (.e (.sl 0 0 x1.length))), (5, .one (.e (.sl 1 0 ([i2].length)))), (6, .one (.e (.sl 2 0 x633.length))), (7, I i463), (8, I i634), (44, B b661)], [.row .nod x1 false, .row .int [i2] true, .row .int x633 true]⟩) ?_ ?_
    · refine iteO_e hv662 (fun hb656 hv662 => ?_) (fun hb656 hv662 => ?_)
      · refine guardO_e hv662 (fun hg657 hv662 => ?_)
        refine guardO_e hv662 (fun hg658 hv662 => ?_)
        refine guardO_e hv662 (fun hg659 hv662 => ?_)
        refine guardO_e hv662 (fun hg660 hv662 => ?_)
        refine W_draw [] true (by kernel_rfl) (by kernel_rfl) ?_
        refine WD_takeK [0, 1, 2] [0, 5, 6, 7, 8, 25] [0, 5, 6, 7, 8, 25] (φ := (True ∧ True ∧ True)) (ls' := #[true, true, true, false, false, false, false, false, false, false, false, false, false, false, false, false, false, false, false, false, false, false]) (Ts' := [(0, .one (.e (.sl 0 0 x1.length))), (5, .one (.e (.sl 1 0 ([i2].length)))), (6, .one (.e (.sl 2 0 x633.length))), (7, I i463), (8, I i634), (25, B (decide (0 < i634)))]) (st' := ⟨[(0, .one (.e (.sl 0 0 x1.length))), (5, .one (.e (.sl 1 0 ([i2].length)))), (6, .one (.e (.sl 2 0 x633.length))), (7, I i463), (8, I i634), (25, B (decide (0 < i634)))], [.row .nod x1 false, .row .int [i2] true, .row .int x633 true]⟩) (n2 := 19) (by kernel_rfl) ⟨trivial, trivial, trivial⟩ rfl ?_
        refine WD_known 25 true rfl rfl hb656 ?_
        refine WD_takeK [3, 4, 5, 6, 7, 8, 9, 10, 11, 12, 13, 14, 15, 16, 17, 18, 19, 20, 21] [0, 5, 6, 7, 8, 44] [0, 5, 6, 7, 8, 44] (φ := ((0 ≤ i634 ∧ i634 < ((x633.length : Nat) : Int)) ∧ (0 ≤ i634 ∧ i634 < ((x633.length : Nat) : Int)) ∧ (True ∧ True ∧ ((0 ≤ (x633.getD i634.toNat 0) ∧ (x633.getD i634.toNat 0) < ((x1.length : Nat) : Int)) ∧ (0 ≤ (x633.getD i634.toNat 0) ∧ (x633.getD i634.toNat 0) < ((x1.length : Nat) : Int)) ∧ (True ∧ True ∧ (True ∧ True ∧ ((0 ≤ (w64 (i634 - 1)) ∧ (w64 (i634 - 1)) < ((x633.length : Nat) : Int)) ∧ (0 ≤ (w64 (i634 - 1)) ∧ (w64 (i634 - 1)) < ((x633.length : Nat) : Int)) ∧ (True ∧ True ∧ ((0 ≤ (x633.getD ((w64 (i634 - 1)).toNat) 0) ∧ (x633.getD ((w64 (i634 - 1)).toNat) 0) < ((x1.length : Nat) : Int)) ∧ (0 ≤ (x633.getD ((w64 (i634 - 1)).toNat) 0) ∧ (x633.getD ((w64 (i634 - 1)).toNat) 0) < ((x1.length : Nat) : Int)) ∧ (True ∧ True ∧ (True ∧ True ∧ True))))))))))) (ls' := #[true, true, true, true, true, true, true, true, true, true, true, true, true, true, true, true, true, true, true, true, true, true]) (Ts' := [(0, .one (.e (.sl 0 0 x1.length))), (5, .one (.e (.sl 1 0 ([i2].length)))), (6, .one (.e (.sl 2 0 x633.length))), (7, I i463), (8, I i634), (44, B (Op.bytesLess ((x1.getD ((x633.getD i634.toNat 0).toNat) dnod).name) ((x1.getD ((x633.getD ((w64 (i634 - 1)).toNat) 0).toNat) dnod).name)))]) (st' := ⟨[(0, .one (.e (.sl 0 0 x1.length))), (5, .one (.e (.sl 1 0 ([i2].length)))), (6, .one (.e (.sl 2 0 x633.length))), (7, I i463), (8, I i634), (44, B (Op.bytesLess ((x1.getD ((x633.getD i634.toNat 0).toNat) dnod).name) ((x1.getD ((x633.getD ((w64 (i634 - 1)).toNat) 0).toNat) dnod).name)))], [.row .nod x1 false, .row .int [i2] true, .row .int x633 true]⟩) (n2 := 0) (by kernel_rfl) ⟨hg657, hg657, trivial, trivial, hg658, hg658, trivial, trivial, trivial, trivial, hg659, hg659, trivial, trivial, hg660, hg660, trivial, trivial, trivial, trivial, trivial⟩ rfl ?_
        exact WD_done [0, 1, 2] [0, 5, 6, 7, 8, 44] (st' := ⟨[(0, .one (.e (.sl 0 0 x1.length))), (5, .one (.e (.sl 1 0 ([i2].length)))), (6, .one (.e (.sl 2 0 x633.length))), (7, I i463), (8, I i634), (44, B (Op.bytesLess ((x1.getD ((x633.getD i634.toNat 0).toNat) dnod).name) ((x1.getD ((x633.getD ((w64 (i634 - 1)).toNat) 0).toNat) dnod).name)))], [.row .nod x1 false, .row .int [i2] true, .row .int x633 true]⟩) (by kernel_rfl) (by kernel_rfl) (And.intro rfl (by cases hv662; rfl))
      · refine W_draw [] true (by kernel_rfl) (by kernel_rfl) ?_
        refine WD_takeK [0, 1, 2] [0, 5, 6, 7, 8, 25] [0, 5, 6, 7, 8, 25] (φ := (True ∧ True ∧ True)) (ls' := #[true, true, true, false, false, false, false, false, false, false, false, false, false, false, false, false, false, false, false, false, false, false]) (Ts' := [(0, .one (.e (.sl 0 0 x1.length))), (5, .one (.e (.sl 1 0 ([i2].length)))), (6, .one (.e (.sl 2 0 x633.length))), (7, I i463), (8, I i634), (25, B (decide (0 < i634)))]) (st' := ⟨[(0, .one (.e (.sl 0 0 x1.length))), (5, .one (.e (.sl 1 0 ([i2].length)))), (6, .one (.e (.sl 2 0 x633.length))), (7, I i463), (8, I i634), (25, B (decide (0 < i634)))], [.row .nod x1 false, .row .int [i2] true, .row .int x633 true]⟩) (n2 := 19) (by kernel_rfl) ⟨trivial, trivial, trivial⟩ rfl ?_
        refine WD_known 25 false rfl rfl hb656 ?_
        refine WD_takeK [3, 4, 5, 6, 7, 8, 9, 10, 11, 12, 13, 14, 15, 16, 17, 18, 19, 20, 21] [0, 5, 6, 7, 8, 44] [0, 5, 6, 7, 8, 44] (φ := True) (ls' := #[true, true, true, true, true, true, true, true, true, true, true, true, true, true, true, true, true, true, true, true, true, true]) (Ts' := [(0, .one (.e (.sl 0 0 x1.length))), (5, .one (.e (.sl 1 0 ([i2].length)))), (6, .one (.e (.sl 2 0 x633.length))), (7, I i463), (8, I i634), (44, B false)]) (st' := ⟨[(0, .one (.e (.sl 0 0 x1.length))), (5, .one (.e (.sl 1 0 ([i2].length)))), (6, .one (.e (.sl 2 0 x633.length))), (7, I i463), (8, I i634), (44, B false)], [.row .nod x1 false, .row .int [i2] true, .row .int x633 true]⟩) (n2 := 0) (by kernel_rfl) trivial rfl ?_
        exact WD_done [0, 1, 2] [0, 5, 6, 7, 8, 44] (st' := ⟨[(0, .one (.e (.sl 0 0 x1.length))), (5, .one (.e (.sl 1 0 ([i2].length)))), (6, .one (.e (.sl 2 0 x633.length))), (7, I i463), (8, I i634), (44, B false)], [.row .nod x1 false, .row .int [i2] true, .row .int x633 true]⟩) (by kernel_rfl) (by kernel_rfl) (And.intro rfl (by cases hv662; rfl))
    · rintro _ _ ⟨rfl, rfl⟩
      refine thenS_n ?_
      refine iteO_e h (fun hb664 h => W_true rfl hb664 ?_) (fun hb664 h => W_false rfl hb664 ?_)
      · refine W_sub [0, 1, 2] [0, 5, 6, 7, 8] (st' := ⟨[(0, .one (.e (.sl 0 0 x1.length))), (5, .one (.e (.sl 1 0 ([i2].length)))), (6, .one (.e (.sl 2 0 x633.length))), (7, I i463), (8, I i634)], [.row .nod x1 false, .row .int [i2] true, .row .int x633 true]⟩) (by kernel_rfl) ?_
        refine W_skip ?_
        refine thenS_n ?_
        refine W_seq ?_
        refine W_block ?_
        refine W_seq ?_
        refine W_region ?_
        refine guardO_e h (fun hg669 h => ?_)
        refine WO_step 5 [0, 1, 2] [0, 5, 6, 7, 8, 9] ((0 ≤ i634 ∧ i634 < ((x633.length : Nat) : Int)) ∧ (True ∧ True)) ⟨[(0, .one (.e (.sl 0 0 x1.length))), (5, .one (.e (.sl 1 0 ([i2].length)))), (6, .one (.e (.sl 2 0 x633.length))), (7, I i463), (8, I i634), (9, I (x633.getD i634.toNat 0))], [.row .nod x1 false, .row .int [i2] true, .row .int x633 true]⟩ (by kernel_rfl) ⟨hg669, trivial, trivial⟩ ?_
        refine WO_nil rfl ?_
        refine thenS_n ?_
        refine W_seq ?_
        refine W_region ?_
        refine guardO_e h (fun hg670 h => ?_)
        refine guardO_e h (fun hg671 h => ?_)
        refine WO_step 9 [0, 1, 2] [0, 5, 6, 7, 8, 9] (True ∧ ((0 ≤ (w64 (i634 - 1)) ∧ (w64 (i634 - 1)) < ((x633.length : Nat) : Int)) ∧ (True ∧ ((0 ≤ i634 ∧ i634 < ((x633.length : Nat) : Int)) ∧ (True ∧ True))))) ⟨[(0, .one (.e (.sl 0 0 x1.length))), (5, .one (.e (.sl 1 0 ([i2].length)))), (6, .one (.e (.sl 2 0 x633.length))), (7, I i463), (8, I i634), (9, I (x633.getD i634.toNat 0))], [.row .nod x1 false, .row .int [i2] true, .row .int (x633.set i634.toNat (x633.getD ((w64 (i634 - 1)).toNat) 0)) true]⟩ (by kernel_rfl) ⟨trivial, hg670, trivial, hg671, trivial, trivial⟩ ?_
        refine WO_eq (st' := ⟨[(0, .one (.e (.sl 0 0 x1.length))), (5, .one (.e (.sl 1 0 ([i2].length)))), (6, .one (.e (.sl 2 0 ((x633.set i634.toNat (x633.getD ((w64 (i634 - 1)).toNat) 0)).length)))), (7, I i463), (8, I i634), (9, I (x633.getD i634.toNat 0))], [.row .nod x1 false, .row .int [i2] true, .row .int (x633.set i634.toNat (x633.getD ((w64 (i634 - 1)).toNat) 0)) true]⟩) (by simp only [List.length_set]) ?_
        refine WO_nil rfl ?_
        refine thenS_n ?_
        refine W_region ?_
        refine guardO_e h (fun hg672 h => ?_)
        refine WO_step 6 [0, 1, 2] [0, 5, 6, 7, 8] (True ∧ ((0 ≤ (w64 (i634 - 1)) ∧ (w64 (i634 - 1)) < (((x633.set i634.toNat (x633.getD ((w64 (i634 - 1)).toNat) 0)).length : Nat) : Int)) ∧ (True ∧ True))) ⟨[(0, .one (.e (.sl 0 0 x1.length))), (5, .one (.e (.sl 1 0 ([i2].length)))), (6, .one (.e (.sl 2 0 ((x633.set i634.toNat (x633.getD ((w64 (i634 - 1)).toNat) 0)).length)))), (7, I i463), (8, I i634)], [.row .nod x1 false, .row .int [i2] true, .row .int ((x633.set i634.toNat (x633.getD ((w64 (i634 - 1)).toNat) 0)).set ((w64 (i634 - 1)).toNat) (x633.getD i634.toNat 0)) true]⟩ (by kernel_rfl) ⟨trivial, hg672, trivial, trivial⟩ ?_
        refine WO_eq (st' := ⟨[(0, .one (.e (.sl 0 0 x1.length))), (5, .one (.e (.sl 1 0 ([i2].length)))), (6, .one (.e (.sl 2 0 (((x633.set i634.toNat (x633.getD ((w64 (i634 - 1)).toNat) 0)).set ((w64 (i634 - 1)).toNat) (x633.getD i634.toNat 0)).length)))), (7, I i463), (8, I i634)], [.row .nod x1 false, .row .int [i2] true, .row .int ((x633.set i634.toNat (x633.getD ((w64 (i634 - 1)).toNat) 0)).set ((w64 (i634 - 1)).toNat) (x633.getD i634.toNat 0)) true]⟩) (by simp only [List.length_set]) ?_
        refine WO_nil rfl ?_
        refine blockS_n ?_
        refine thenS_n ?_
        refine W_region ?_
        refine WO_step 3 [0, 1, 2] [0, 5, 6, 7, 8] (True ∧ True) ⟨[(0, .one (.e (.sl 0 0 x1.length))), (5, .one (.e (.sl 1 0 ([i2].length)))), (6, .one (.e (.sl 2 0 (((x633.set i634.toNat (x633.getD ((w64 (i634 - 1)).toNat) 0)).set ((w64 (i634 - 1)).toNat) (x633.getD i634.toNat 0)).length)))), (7, I i463), (8, I (w64 (i634 - 1)))], [.row .nod x1 false, .row .int [i2] true, .row .int ((x633.set i634.toNat (x633.getD ((w64 (i634 - 1)).toNat) 0)).set ((w64 (i634 - 1)).toNat) (x633.getD i634.toNat 0)) true]⟩ (by kernel_rfl) ⟨trivial, trivial⟩ ?_
        refine WO_nil rfl ?_
        refine thenS_n ?_
        exact ih _ _ h
      · refine W_sub [0, 1, 2] [0, 5, 6, 7] (st' := ⟨[(0, .one (.e (.sl 0 0 x1.length))), (5, .one (.e (.sl 1 0 ([i2].length)))), (6, .one (.e (.sl 2 0 x633.length))), (7, I i463)], [.row .nod x1 false, .row .int [i2] true, .row .int x633 true]⟩) (by kernel_rfl) ?_
        refine W_exit ?_
        refine thenS_e ?_
        refine thenS_e ?_
        cases h
        exact And.intro rfl rfl

def spec_walk_L1 (rec : (List Nod) → Int → Option ((List Int))) (x1 : List Nod) (i2 : Int) : Nat → (List Int) → Int → Option ((List Int))
| 0, _, _ => none
| n + 1, x462, i463 =>
 iteO (decide (i463 < ((x462.length : Nat) : Int)))
 (bindO (spec_walk_L2 rec x1 i2 i463 n x462 i463) fun x654 =>
 spec_walk_L1 rec x1 i2 n x654 (w64 (i463 + 1)))
 (some x462)

theorem spec_walk_L1_ok (rec : (List Nod) → Int → Option ((List Int))) (hrec : ∀ (x1 : List Nod) (i2 : Int) (x3 : List Int), rec x1 i2 = some x3 → FOk EE 37 [.one (.e (.sl 0 0 x1.length)), I i2] [.row .nod x1 false] (.one (.e (.sl 1 0 x3.length))) [.row .nod x1 false, .row .int x3 true]) (w : World) (X : Nat → Prop) (θ : List Loc) (x1 : List Nod) (i2 : Int) (x560 : (List Int)) : ∀ (n : Nat) (x462 : List Int) (i463 : Int), spec_walk_L1 rec x1 i2 n x462 i463 = some x560 → WL EE ⟨w, X, θ, 79, 1⟩ (subC [1, 1, 1, 0, 1, 4, 4] (bodyC Try.f37)) (fun (e : Exit) (s : St) => e = .exit 0 ∧ s = ⟨[(0, .one (.e (.sl 0 0 x1.length))), (5, .one (.e (.sl 1 0 ([i2].length)))), (6, .one (.e (.sl 2 0 x560.length)))], [.row .nod x1 false, .row .int [i2] true, .row .int x560 true]⟩) ⟨[(0, .one (.e (.sl 0 0 x1.length))), (5, .one (.e (.sl 1 0 ([i2].length)))), (6, .one (.e (.sl 2 0 x462.length))), (7, I i463)], [.row .nod x1 false, .row .int [i2] true, .row .int x462 true]⟩ := by
  intro n
  induction n with
  | zero => intro _ _ h; exact none_e h
  | succ n ih =>
    intro x462 i463 h
    rw [spec_walk_L1] at h
    refine WL_round ?_
    refine W_seq ?_
    refine W_seq ?_
    refine W_region ?_
    refine WO_step 4 [0, 1, 2] [0, 5, 6, 7, 19] (True ∧ (True ∧ True)) ⟨[(0, .one (.e (.sl 0 0 x1.length))), (5, .one (.e (.sl 1 0 ([i2].length)))), (6, .one (.e (.sl 2 0 x462.length))), (7, I i463), (19, B (decide (i463 < ((x462.length : Nat) : Int))))], [.row .nod x1 false, .row .int [i2] true, .row .int x462 true]⟩ (by kernel_rfl) ⟨trivial, trivial, trivial⟩ ?_
    refine WO_nil rfl ?_
    refine thenS_n ?_
    refine iteO_e h (fun hb563 h => W_true rfl hb563 ?_) (fun hb563 h => W_false rfl hb563 ?_)
    · refine W_sub [0, 1, 2] [0, 5, 6, 7] (st' := ⟨[(0, .one (.e (.sl 0 0 x1.length))), (5, .one (.e (.sl 1 0 ([i2].length)))), (6, .one (.e (.sl 2 0 x462.length))), (7, I i463)], [.row .nod x1 false, .row .int [i2] true, .row .int x462 true]⟩) (by kernel_rfl) ?_
      refine W_skip ?_
      refine thenS_n ?_
      refine W_seq ?_
      refine W_block ?_
      refine W_seq ?_
      refine W_region ?_
      refine WO_step 2 [0, 1, 2] [0, 5, 6, 7, 8] True ⟨[(0, .one (.e (.sl 0 0 x1.length))), (5, .one (.e (.sl 1 0 ([i2].length)))), (6, .one (.e (.sl 2 0 x462.length))), (7, I i463), (8, I i463)], [.row .nod x1 false, .row .int [i2] true, .row .int x462 true]⟩ (by kernel_rfl) trivial ?_
      refine WO_nil rfl ?_
      refine thenS_n ?_
      refine W_block ?_
      refine W_loop ?_
      refine bindO_e h (fun x654 hx654 h => ?_)
      refine WL_cut (spec_walk_L2_ok rec hrec w X θ x1 i2 i463 x654 n x462 i463 hx654) ?_
      rintro _ _ ⟨rfl, rfl⟩
      refine blockS_y ?_
      refine blockS_n ?_
      refine thenS_n ?_
      refine W_region ?_
      refine WO_step 3 [0, 1, 2] [0, 5, 6, 7] (True ∧ True) ⟨[(0, .one (.e (.sl 0 0 x1.length))), (5, .one (.e (.sl 1 0 ([i2].length)))), (6, .one (.e (.sl 2 0 x654.length))), (7, I (w64 (i463 + 1)))], [.row .nod x1 false, .row .int [i2] true, .row .int x654 true]⟩ (by kernel_rfl) ⟨trivial, trivial⟩ ?_
      refine WO_nil rfl ?_
      refine thenS_n ?_
      exact ih _ _ h
    · refine W_sub [0, 1, 2] [0, 5, 6] (st' := ⟨[(0, .one (.e (.sl 0 0 x1.length))), (5, .one (.e (.sl 1 0 ([i2].length)))), (6, .one (.e (.sl 2 0 x462.length)))], [.row .nod x1 false, .row .int [i2] true, .row .int x462 true]⟩) (by kernel_rfl) ?_
      refine W_exit ?_
      refine thenS_e ?_
      refine thenS_e ?_
      cases h
      exact And.intro rfl rfl

def spec_walk_L3 (rec : (List Nod) → Int → Option ((List Int))) (x1 : List Nod) (x560 : List Int) : Nat → (List Int) → Int → Option ((List Int))
| 0, _, _ => none
| n + 1, x691, i692 =>
 iteO (decide (i692 < ((x560.length : Nat) : Int)))
 (guardO (0 ≤ i692 ∧ i692 < ((x560.length : Nat) : Int)) <|
 bindO (rec x1 (x560.getD i692.toNat 0)) fun x714 =>
 guardO (0 = 0 ∧ x691.length = x691.length ∧ x691.length + ((x714.drop 0).take x714.length).length ≤ 1099511627776) <|
 spec_walk_L3 rec x1 x560 n (x691 ++ ((x714.drop 0).take x714.length)) (w64 (i692 + 1)))
 (some x691)

theorem spec_walk_L3_ok (rec : (List Nod) → Int → Option ((List Int))) (hrec : ∀ (x1 : List Nod) (i2 : Int) (x3 : List Int), rec x1 i2 = some x3 → FOk EE 37 [.one (.e (.sl 0 0 x1.length)), I i2] [.row .nod x1 false] (.one (.e (.sl 1 0 x3.length))) [.row .nod x1 false, .row .int x3 true]) (w : World) (X : Nat → Prop) (θ : List Loc) (x1 : List Nod) (x560 : List Int) (x705 : (List Int)) : ∀ (n : Nat) (x691 : List Int) (i692 : Int), spec_walk_L3 rec x1 x560 n x691 i692 = some x705 → WL EE ⟨w, X, θ, 79, 1⟩ (subC [1, 1, 1, 1, 0, 1, 4, 4] (bodyC Try.f37)) (fun (e : Exit) (s : St) => e = .exit 4 ∧ s = ⟨[(5, .one (.e (.sl 1 0 x705.length)))], [.row .nod x1 false, .row .int x705 true]⟩) ⟨[(0, .one (.e (.sl 0 0 x1.length))), (5, .one (.e (.sl 1 0 x691.length))), (6, .one (.e (.sl 2 0 x560.length))), (10, I i692)], [.row .nod x1 false, .row .int x691 true, .row .int x560 true]⟩ := by
  intro n
  induction n with
  | zero => intro _ _ h; exact none_e h
  | succ n ih =>
    intro x691 i692 h
    rw [spec_walk_L3] at h
    refine WL_round ?_
    refine W_seq ?_
    refine W_seq ?_
    refine W_region ?_
    refine WO_step 4 [0, 1, 2] [0, 5, 6, 10, 67] (True ∧ (True ∧ True)) ⟨[(0, .one (.e (.sl 0 0 x1.length))), (5, .one (.e (.sl 1 0 x691.length))), (6, .one (.e (.sl 2 0 x560.length))), (10, I i692), (67, B (decide (i692 < ((x560.length : Nat) : Int))))], [.row .nod x1 false, .row .int x691 true, .row .int x560 true]⟩ (by kernel_rfl) ⟨trivial, trivial, trivial⟩ ?_
    refine WO_nil rfl ?_
    refine thenS_n ?_
    refine iteO_e h (fun hb708 h => W_true rfl hb708 ?_) (fun hb708 h => W_false rfl hb708 ?_)
    · refine W_sub [0, 1, 2] [0, 5, 6, 10] (st' := ⟨[(0, .one (.e (.sl 0 0 x1.length))), (5, .one (.e (.sl 1 0 x691.length))), (6, .one (.e (.sl 2 0 x560.length))), (10, I i692)], [.row .nod x1 false, .row .int x691 true, .row .int x560 true]⟩) (by kernel_rfl) ?_
      refine W_skip ?_
      refine thenS_n ?_
      refine W_seq ?_
      refine W_block ?_
      refine W_region ?_
      refine guardO_e h (fun hg713 h => ?_)
      refine WO_step 6 [0, 2, 1] [0, 6, 10, 70, 71, 75] ((0 ≤ i692 ∧ i692 < ((x560.length : Nat) : Int)) ∧ (True ∧ True)) ⟨[(0, .one (.e (.sl 0 0 x1.length))), (6, .one (.e (.sl 1 0 x560.length))), (10, I i692), (70, .one (.e (.sl 2 0 x691.length))), (71, .one (.e (.sl 0 0 x1.length))), (75, I (x560.getD i692.toNat 0))], [.row .nod x1 false, .row .int x560 true, .row .int x691 true]⟩ (by kernel_rfl) ⟨hg713, trivial, trivial⟩ ?_
      refine bindO_e h (fun x714 hc715 h => ?_)
      refine WO_call [.ro 0] Try.f37 rfl rfl rfl (by kernel_rfl) Try.func37 rfl (by kernel_rfl) (hrec x1 (x560.getD i692.toNat 0) x714 hc715) (And.intro (And.intro rfl rfl) (trivial)) rfl ?_
      refine guardO_e h (fun hg716 h => ?_)
      refine WO_step 2 [0, 4, 1] [0, 5, 6, 10] ((0 = 0 ∧ x691.length = x691.length ∧ x691.length + ((x714.drop 0).take x714.length).length ≤ 1099511627776) ∧ True) ⟨[(0, .one (.e (.sl 0 0 x1.length))), (5, .one (.e (.sl 1 0 ((x691 ++ ((x714.drop 0).take x714.length)).length)))), (6, .one (.e (.sl 2 0 x560.length))), (10, I i692)], [.row .nod x1 false, .row .int (x691 ++ ((x714.drop 0).take x714.length)) true, .row .int x560 true]⟩ (by kernel_rfl) ⟨hg716, trivial⟩ ?_
      refine WO_nil rfl ?_
      refine blockS_n ?_
      refine thenS_n ?_
      refine W_region ?_
      refine WO_step 3 [0, 1, 2] [0, 5, 6, 10] (True ∧ True) ⟨[(0, .one (.e (.sl 0 0 x1.length))), (5, .one (.e (.sl 1 0 ((x691 ++ ((x714.drop 0).take x714.length)).length)))), (6, .one (.e (.sl 2 0 x560.length))), (10, I (w64 (i692 + 1)))], [.row .nod x1 false, .row .int (x691 ++ ((x714.drop 0).take x714.length)) true, .row .int x560 true]⟩ (by kernel_rfl) ⟨trivial, trivial⟩ ?_
      refine WO_nil rfl ?_
      refine thenS_n ?_
      exact ih _ _ h
    · refine W_sub [0, 1] [5] (st' := ⟨[(5, .one (.e (.sl 1 0 x691.length)))], [.row .nod x1 false, .row .int x691 true]⟩) (by kernel_rfl) ?_
      refine W_exit ?_
      refine thenS_e ?_
      refine thenS_e ?_
      cases h
      exact And.intro rfl rfl

def spec_walk_B (rec : (List Nod) → Int → Option ((List Int))) (n : Nat) (x1 : List Nod) (i2 : Int) : Option ((List Int)) :=
 bindO (spec_kids n x1 i2) fun x360 =>
 bindO (spec_walk_L1 rec x1 i2 n x360 0) fun x560 =>
 bindO (spec_walk_L3 rec x1 x560 n [i2] 0) fun x705 =>
 some x705

theorem spec_walk_B_ok (rec : (List Nod) → Int → Option ((List Int))) (hrec : ∀ (x1 : List Nod) (i2 : Int) (x3 : List Int), rec x1 i2 = some x3 → FOk EE 37 [.one (.e (.sl 0 0 x1.length)), I i2] [.row .nod x1 false] (.one (.e (.sl 1 0 x3.length))) [.row .nod x1 false, .row .int x3 true]) (n : Nat) (x1 : List Nod) (i2 : Int) (x359 : List Int) (h : spec_walk_B rec n x1 i2 = some x359) : FOk EE 37 [.one (.e (.sl 0 0 x1.length)), I i2] [.row .nod x1 false] (.one (.e (.sl 1 0 x359.length))) [.row .nod x1 false, .row .int x359 true] := by
  unfold spec_walk_B at h
  refine FOk_of_W 79 1 Try.func37 rfl rfl (Nat.le_of_ble_eq_true rfl) rfl (fun w X θ => ?_)
  refine W_seq ?_
  refine W_region ?_
  refine WO_step 1 [0] [0, 1] True ⟨[(0, .one (.e (.sl 0 0 x1.length))), (1, I i2)], [.row .nod x1 false]⟩ (by kernel_rfl) trivial ?_
  refine WO_nil rfl ?_
  refine thenS_n ?_
  refine W_seq ?_
  refine W_region ?_
  refine WO_step 3 [0, 1] [0, 1, 5] True ⟨[(0, .one (.e (.sl 0 0 x1.length))), (1, I i2), (5, .one (.e (.sl 1 0 ([i2].length))))], [.row .nod x1 false, .row .int [i2] true]⟩ (by kernel_rfl) trivial ?_
  refine WO_nil rfl ?_
  refine thenS_n ?_
  refine W_seq ?_
  refine W_region ?_
  refine WO_step 2 [0, 1] [0, 5, 13, 14] True ⟨[(0, .one (.e (.sl 0 0 x1.length))), (5, .one (.e (.sl 1 0 ([i2].length)))), (13, .one (.e (.sl 0 0 x1.length))), (14, I i2)], [.row .nod x1 false, .row .int [i2] true]⟩ (by kernel_rfl) trivial ?_
  refine bindO_e h (fun x360 hc361 h => ?_)
  refine WO_call [.ro 0] Try.f52 rfl rfl rfl (by kernel_rfl) Try.func52 rfl (by kernel_rfl) (spec_kids_ok n x1 i2 x360 hc361) (And.intro (And.intro rfl rfl) (trivial)) rfl ?_
  refine WO_step 1 [0, 1, 2] [0, 5, 6] True ⟨[(0, .one (.e (.sl 0 0 x1.length))), (5, .one (.e (.sl 1 0 ([i2].length)))), (6, .one (.e (.sl 2 0 x360.length)))], [.row .nod x1 false, .row .int [i2] true, .row .int x360 true]⟩ (by kernel_rfl) trivial ?_
  refine WO_nil rfl ?_
  refine thenS_n ?_
  refine W_seq ?_
  refine W_seq ?_
  refine W_region ?_
  refine WO_step 1 [0, 1, 2] [0, 5, 6, 7] True ⟨[(0, .one (.e (.sl 0 0 x1.length))), (5, .one (.e (.sl 1 0 ([i2].length)))), (6, .one (.e (.sl 2 0 x360.length))), (7, I 0)], [.row .nod x1 false, .row .int [i2] true, .row .int x360 true]⟩ (by kernel_rfl) trivial ?_
  refine WO_nil rfl ?_
  refine thenS_n ?_
  refine W_block ?_
  refine W_loop ?_
  refine bindO_e h (fun x560 hx560 h => ?_)
  refine WL_cut (spec_walk_L1_ok rec hrec w X θ x1 i2 x560 n x360 0 hx560) ?_
  rintro _ _ ⟨rfl, rfl⟩
  refine blockS_y ?_
  refine thenS_n ?_
  refine W_seq ?_
  refine W_seq ?_
  refine W_region ?_
  refine WO_step 1 [0, 1, 2] [0, 5, 6, 10] True ⟨[(0, .one (.e (.sl 0 0 x1.length))), (5, .one (.e (.sl 1 0 ([i2].length)))), (6, .one (.e (.sl 2 0 x560.length))), (10, I 0)], [.row .nod x1 false, .row .int [i2] true, .row .int x560 true]⟩ (by kernel_rfl) trivial ?_
  refine WO_nil rfl ?_
  refine thenS_n ?_
  refine W_block ?_
  refine W_loop ?_
  refine bindO_e h (fun x705 hx705 h => ?_)
  refine WL_cut (spec_walk_L3_ok rec hrec w X θ x1 x560 x705 n [i2] 0 hx705) ?_
  rintro _ _ ⟨rfl, rfl⟩
  refine blockS_y ?_
  refine thenS_n ?_
  refine W_seq ?_
  refine W_region ?_
  refine WO_step 2 [0, 1] [4] True ⟨[(4, .one (.e (.sl 1 0 x705.length)))], [.row .nod x1 false, .row .int x705 true]⟩ (by kernel_rfl) trivial ?_
  refine WO_nil rfl ?_
  refine thenS_n ?_
  refine W_ret ?_
  cases h
  exact ⟨[0, 1], True, by kernel_rfl, trivial⟩

def spec_walk : Nat → (List Nod) → Int → Option ((List Int))
| 0, _, _ => none
| n + 1, x1, i2 => spec_walk_B (spec_walk n) n x1 i2

theorem spec_walk_ok : ∀ (n : Nat) (x1 : List Nod) (i2 : Int) (x359 : List Int), spec_walk n x1 i2 = some x359 → FOk EE 37 [.one (.e (.sl 0 0 x1.length)), I i2] [.row .nod x1 false] (.one (.e (.sl 1 0 x359.length))) [.row .nod x1 false, .row .int x359 true] := by
  intro n
  induction n with
  | zero => intro _ _ _ h; exact none_e h
  | succ n ih => intro x1 i2 x359 h; exact spec_walk_B_ok (spec_walk n) ih n x1 i2 x359 h

/- spec.pathTo -/
def spec_pathTo_L1 (x1 : List Nod) : Nat → (List Int) → Int → Option ((List Int))
| 0, _, _ => none
| n + 1, x46, i47 =>
 iteO (decide (0 < i47))
 (guardO (0 ≤ i47 ∧ i47 < ((x1.length : Nat) : Int)) <|
 guardO (0 = 0 ∧ [(x1.getD i47.toNat dnod).parent].length = [(x1.getD i47.toNat dnod).parent].length ∧ [(x1.getD i47.toNat dnod).parent].length + ((x46.drop 0).take x46.length).length ≤ 1099511627776) <|
 spec_pathTo_L1 x1 n ([(x1.getD i47.toNat dnod).parent] ++ ((x46.drop 0).take x46.length)) ((x1.getD i47.toNat dnod).parent))
 (some x46)

theorem spec_pathTo_L1_ok (w : World) (X : Nat → Prop) (θ : List Loc) (x1 : List Nod) (x56 : (List Int)) : ∀ (n : Nat) (x46 : List Int) (i47 : Int), spec_pathTo_L1 x1 n x46 i47 = some x56 → WL EE ⟨w, X, θ, 20, 1⟩ (subC [1, 1, 0, 4, 4] (bodyC Try.f53)) (fun (e : Exit) (s : St) => e = .exit 0 ∧ s = ⟨[(5, .one (.e (.sl 1 0 x56.length)))], [.row .nod x1 false, .row .int x56 true]⟩) ⟨[(0, .one (.e (.sl 0 0 x1.length))), (1, I i47), (5, .one (.e (.sl 1 0 x46.length)))], [.row .nod x1 false, .row .int x46 true]⟩ := by
  intro n
  induction n with
  | zero => intro _ _ h; exact none_e h
  | succ n ih =>
    intro x46 i47 h
    rw [spec_pathTo_L1] at h
    refine WL_round ?_
    refine W_seq ?_
    refine W_seq ?_
    refine W_region ?_
    refine WO_step 2 [0, 1] [0, 1, 5, 9] (True ∧ True) ⟨[(0, .one (.e (.sl 0 0 x1.length))), (1, I i47), (5, .one (.e (.sl 1 0 x46.length))), (9, B (decide (0 < i47)))], [.row .nod x1 false, .row .int x46 true]⟩ (by kernel_rfl) ⟨trivial, trivial⟩ ?_
    refine WO_nil rfl ?_
    refine thenS_n ?_
    refine iteO_e h (fun hb59 h => W_true rfl hb59 ?_) (fun hb59 h => W_false rfl hb59 ?_)
    · refine W_sub [0, 1] [0, 1, 5] (st' := ⟨[(0, .one (.e (.sl 0 0 x1.length))), (1, I i47), (5, .one (.e (.sl 1 0 x46.length)))], [.row .nod x1 false, .row .int x46 true]⟩) (by kernel_rfl) ?_
      refine W_skip ?_
      refine thenS_n ?_
      refine W_block ?_
      refine W_seq ?_
      refine W_region ?_
      refine guardO_e h (fun hg62 h => ?_)
      refine WO_step 6 [0, 1] [0, 1, 5] ((0 ≤ i47 ∧ i47 < ((x1.length : Nat) : Int)) ∧ (True ∧ True)) ⟨[(0, .one (.e (.sl 0 0 x1.length))), (1, I ((x1.getD i47.toNat dnod).parent)), (5, .one (.e (.sl 1 0 x46.length)))], [.row .nod x1 false, .row .int x46 true]⟩ (by kernel_rfl) ⟨hg62, trivial, trivial⟩ ?_
      refine WO_nil rfl ?_
      refine thenS_n ?_
      refine W_region ?_
      refine guardO_e h (fun hg63 h => ?_)
      refine WO_step 5 [0, 3] [0, 1, 5] ((0 = 0 ∧ [(x1.getD i47.toNat dnod).parent].length = [(x1.getD i47.toNat dnod).parent].length ∧ [(x1.getD i47.toNat dnod).parent].length + ((x46.drop 0).take x46.length).length ≤ 1099511627776) ∧ True) ⟨[(0, .one (.e (.sl 0 0 x1.length))), (1, I ((x1.getD i47.toNat dnod).parent)), (5, .one (.e (.sl 1 0 (([(x1.getD i47.toNat dnod).parent] ++ ((x46.drop 0).take x46.length)).length))))], [.row .nod x1 false, .row .int ([(x1.getD i47.toNat dnod).parent] ++ ((x46.drop 0).take x46.length)) true]⟩ (by kernel_rfl) ⟨hg63, trivial⟩ ?_
      refine WO_nil rfl ?_
      refine blockS_n ?_
      refine thenS_n ?_
      exact ih _ _ h
    · refine W_sub [0, 1] [5] (st' := ⟨[(5, .one (.e (.sl 1 0 x46.length)))], [.row .nod x1 false, .row .int x46 true]⟩) (by kernel_rfl) ?_
      refine W_exit ?_
      refine thenS_e ?_
      refine thenS_e ?_
      cases h
      exact And.intro rfl rfl

def spec_pathTo (n : Nat) (x1 : List Nod) (i2 : Int) : Option ((List Int)) :=
 bindO (spec_pathTo_L1 x1 n [i2] i2) fun x56 =>
 some x56

theorem spec_pathTo_ok (n : Nat) (x1 : List Nod) (i2 : Int) (x33 : List Int) (h : spec_pathTo n x1 i2 = some x33) : FOk EE 53 [.one (.e (.sl 0 0 x1.length)), I i2] [.row .nod x1 false] (.one (.e (.sl 1 0 x33.length))) [.row .nod x1 false, .row .int x33 true] := by
  unfold spec_pathTo at h
  refine FOk_of_W 20 1 Try.func53 rfl rfl (Nat.le_of_ble_eq_true rfl) rfl (fun w X θ => ?_)
  refine W_seq ?_
  refine W_region ?_
  refine WO_step 1 [0] [0, 1] True ⟨[(0, .one (.e (.sl 0 0 x1.length))), (1, I i2)], [.row .nod x1 false]⟩ (by kernel_rfl) trivial ?_
  refine WO_nil rfl ?_
  refine thenS_n ?_
  refine W_seq ?_
  refine W_region ?_
  refine WO_step 3 [0, 1] [0, 1, 5] True ⟨[(0, .one (.e (.sl 0 0 x1.length))), (1, I i2), (5, .one (.e (.sl 1 0 ([i2].length))))], [.row .nod x1 false, .row .int [i2] true]⟩ (by kernel_rfl) trivial ?_
  refine WO_nil rfl ?_
  refine thenS_n ?_
  refine W_seq ?_
  refine W_block ?_
  refine W_loop ?_
  refine bindO_e h (fun x56 hx56 h => ?_)
  refine WL_cut (spec_pathTo_L1_ok w X θ x1 x56 n [i2] i2 hx56) ?_
  rintro _ _ ⟨rfl, rfl⟩
  refine blockS_y ?_
  refine thenS_n ?_
  refine W_seq ?_
  refine W_region ?_
  refine WO_step 2 [0, 1] [4] True ⟨[(4, .one (.e (.sl 1 0 x56.length)))], [.row .nod x1 false, .row .int x56 true]⟩ (by kernel_rfl) trivial ?_
  refine WO_nil rfl ?_
  refine thenS_n ?_
  refine W_ret ?_
  cases h
  exact ⟨[0, 1], True, by kernel_rfl, trivial⟩

/- spec.pathText -/
def spec_pathText_L1 (x1 : List Nod) (i2 : Int) (x48 : List Int) : Nat → Str → Int → Option (Str)
| 0, _, _ => none
| n + 1, s66, i67 =>
 iteO (decide (i67 < ((x48.length : Nat) : Int)))
 (guardO (s66.length + [47].length ≤ 1099511627776) <|
 guardO (0 ≤ i67 ∧ i67 < ((x48.length : Nat) : Int)) <|
 guardO (0 ≤ (x48.getD i67.toNat 0) ∧ (x48.getD i67.toNat 0) < ((x1.length : Nat) : Int)) <|
 guardO ((s66 ++ [47]).length + ((x1.getD ((x48.getD i67.toNat 0).toNat) dnod).name).length ≤ 1099511627776) <|
 spec_pathText_L1 x1 i2 x48 n ((s66 ++ [47]) ++ ((x1.getD ((x48.getD i67.toNat 0).toNat) dnod).name)) (w64 (i67 + 1)))
 (some s66)

theorem spec_pathText_L1_ok (w : World) (X : Nat → Prop) (θ : List Loc) (x1 : List Nod) (i2 : Int) (x48 : List Int) (s80 : Str) : ∀ (n : Nat) (s66 : Str) (i67 : Int), spec_pathText_L1 x1 i2 x48 n s66 i67 = some s80 → WL EE ⟨w, X, θ, 31, 1⟩ (subC [1, 1, 1, 0, 1, 4, 4] (bodyC Try.f38)) (fun (e : Exit) (s : St) => e = .exit 0 ∧ s = ⟨[(1, I i2), (5, S s80)], [.row .nod x1 false]⟩) ⟨[(0, .one (.e (.sl 0 0 x1.length))), (1, I i2), (5, S s66), (6, .one (.e (.sl 1 0 x48.length))), (7, I i67)], [.row .nod x1 false, .row .int x48 true]⟩ := by
  intro n
  induction n with
  | zero => intro _ _ h; exact none_e h
  | succ n ih =>
    intro s66 i67 h
    rw [spec_pathText_L1] at h
    refine WL_round ?_
    refine W_seq ?_
    refine W_seq ?_
    refine W_region ?_
    refine WO_step 4 [0, 1] [0, 1, 5, 6, 7, 14] (True ∧ (True ∧ True)) ⟨[(0, .one (.e (.sl 0 0 x1.length))), (1, I i2), (5, S s66), (6, .one (.e (.sl 1 0 x48.length))), (7, I i67), (14, B (decide (i67 < ((x48.length : Nat) : Int))))], [.row .nod x1 false, .row .int x48 true]⟩ (by kernel_rfl) ⟨trivial, trivial, trivial⟩ ?_
    refine WO_nil rfl ?_
    refine thenS_n ?_
    refine iteO_e h (fun hb83 h => W_true rfl hb83 ?_) (fun hb83 h => W_false rfl hb83 ?_)
    · refine W_sub [0, 1] [0, 1, 5, 6, 7] (st' := ⟨[(0, .one (.e (.sl 0 0 x1.length))), (1, I i2), (5, S s66), (6, .one (.e (.sl 1 0 x48.length))), (7, I i67)], [.row .nod x1 false, .row .int x48 true]⟩) (by kernel_rfl) ?_
      refine W_skip ?_
      refine thenS_n ?_
      refine W_seq ?_
      refine W_block ?_
      refine W_region ?_
      refine guardO_e h (fun hg88 h => ?_)
      refine guardO_e h (fun hg89 h => ?_)
      refine guardO_e h (fun hg90 h => ?_)
      refine guardO_e h (fun hg91 h => ?_)
      refine WO_step 12 [0, 1] [0, 1, 5, 6, 7] ((s66.length + [47].length ≤ 1099511627776) ∧ ((0 ≤ i67 ∧ i67 < ((x48.length : Nat) : Int)) ∧ (True ∧ ((0 ≤ (x48.getD i67.toNat 0) ∧ (x48.getD i67.toNat 0) < ((x1.length : Nat) : Int)) ∧ (True ∧ (((s66 ++ [47]).length + ((x1.getD ((x48.getD i67.toNat 0).toNat) dnod).name).length ≤ 1099511627776) ∧ True)))))) ⟨[(0, .one (.e (.sl 0 0 x1.length))), (1, I i2), (5, S ((s66 ++ [47]) ++ ((x1.getD ((x48.getD i67.toNat 0).toNat) dnod).name))), (6, .one (.e (.sl 1 0 x48.length))), (7, I i67)], [.row .nod x1 false, .row .int x48 true]⟩ (by kernel_rfl) ⟨hg88, hg89, trivial, hg90, trivial, hg91, trivial⟩ ?_
      refine WO_nil rfl ?_
      refine blockS_n ?_
      refine thenS_n ?_
      refine W_region ?_
      refine WO_step 3 [0, 1] [0, 1, 5, 6, 7] (True ∧ True) ⟨[(0, .one (.e (.sl 0 0 x1.length))), (1, I i2), (5, S ((s66 ++ [47]) ++ ((x1.getD ((x48.getD i67.toNat 0).toNat) dnod).name))), (6, .one (.e (.sl 1 0 x48.length))), (7, I (w64 (i67 + 1)))], [.row .nod x1 false, .row .int x48 true]⟩ (by kernel_rfl) ⟨trivial, trivial⟩ ?_
      refine WO_nil rfl ?_
      refine thenS_n ?_
      exact ih _ _ h
    · refine W_sub [0] [1, 5] (st' := ⟨[(1, I i2), (5, S s66)], [.row .nod x1 false]⟩) (by kernel_rfl) ?_
      refine W_exit ?_
      refine thenS_e ?_
      refine thenS_e ?_
      cases h
      exact And.intro rfl rfl

def spec_pathText (n : Nat) (x1 : List Nod) (i2 : Int) : Option (Str) :=
 bindO (spec_pathTo n x1 i2) fun x48 =>
 bindO (spec_pathText_L1 x1 i2 x48 n [] 1) fun s80 =>
 iteO (decide (i2 = 0))
 (some [47])
 (some s80)

theorem spec_pathText_ok (n : Nat) (x1 : List Nod) (i2 : Int) (s47 : Str) (h : spec_pathText n x1 i2 = some s47) : FOk EE 38 [.one (.e (.sl 0 0 x1.length)), I i2] [.row .nod x1 false] (S s47) [.row .nod x1 false] := by
  unfold spec_pathText at h
  refine FOk_of_W 31 1 Try.func38 rfl rfl (Nat.le_of_ble_eq_true rfl) rfl (fun w X θ => ?_)
  refine W_seq ?_
  refine W_region ?_
  refine WO_step 1 [0] [0, 1] True ⟨[(0, .one (.e (.sl 0 0 x1.length))), (1, I i2)], [.row .nod x1 false]⟩ (by kernel_rfl) trivial ?_
  refine WO_nil rfl ?_
  refine thenS_n ?_
  refine W_seq ?_
  refine W_region ?_
  refine WO_step 1 [0] [0, 1, 5] True ⟨[(0, .one (.e (.sl 0 0 x1.length))), (1, I i2), (5, S [])], [.row .nod x1 false]⟩ (by kernel_rfl) trivial ?_
  refine WO_nil rfl ?_
  refine thenS_n ?_
  refine W_seq ?_
  refine W_region ?_
  refine WO_step 2 [0] [0, 1, 5, 8, 9] True ⟨[(0, .one (.e (.sl 0 0 x1.length))), (1, I i2), (5, S []), (8, .one (.e (.sl 0 0 x1.length))), (9, I i2)], [.row .nod x1 false]⟩ (by kernel_rfl) trivial ?_
  refine bindO_e h (fun x48 hc49 h => ?_)
  refine WO_call [.ro 0] Try.f53 rfl rfl rfl (by kernel_rfl) Try.func53 rfl (by kernel_rfl) (spec_pathTo_ok n x1 i2 x48 hc49) (And.intro (And.intro rfl rfl) (trivial)) rfl ?_
  refine WO_step 1 [0, 1] [0, 1, 5, 6] True ⟨[(0, .one (.e (.sl 0 0 x1.length))), (1, I i2), (5, S []), (6, .one (.e (.sl 1 0 x48.length)))], [.row .nod x1 false, .row .int x48 true]⟩ (by kernel_rfl) trivial ?_
  refine WO_nil rfl ?_
  refine thenS_n ?_
  refine W_seq ?_
  refine W_seq ?_
  refine W_region ?_
  refine WO_step 1 [0, 1] [0, 1, 5, 6, 7] True ⟨[(0, .one (.e (.sl 0 0 x1.length))), (1, I i2), (5, S []), (6, .one (.e (.sl 1 0 x48.length))), (7, I 1)], [.row .nod x1 false, .row .int x48 true]⟩ (by kernel_rfl) trivial ?_
  refine WO_nil rfl ?_
  refine thenS_n ?_
  refine W_block ?_
  refine W_loop ?_
  refine bindO_e h (fun s80 hs80 h => ?_)
  refine WL_cut (spec_pathText_L1_ok w X θ x1 i2 x48 s80 n [] 1 hs80) ?_
  rintro _ _ ⟨rfl, rfl⟩
  refine blockS_y ?_
  refine thenS_n ?_
  refine W_seq ?_
  refine W_seq ?_
  refine W_region ?_
  refine WO_step 2 [0] [5, 29] (True ∧ True) ⟨[(5, S s80), (29, B (decide (i2 = 0)))], [.row .nod x1 false]⟩ (by kernel_rfl) ⟨trivial, trivial⟩ ?_
  refine WO_nil rfl ?_
  refine thenS_n ?_
  refine iteO_e h (fun hb94 h => W_true rfl hb94 ?_) (fun hb94 h => W_false rfl hb94 ?_)
  · refine W_seq ?_
    refine W_region ?_
    refine WO_step 1 [0] [4] True ⟨[(4, S [47])], [.row .nod x1 false]⟩ (by kernel_rfl) trivial ?_
    refine WO_nil rfl ?_
    refine thenS_n ?_
    refine W_ret ?_
    refine thenS_r ?_
    cases h
    exact ⟨[0], True, by kernel_rfl, trivial⟩
  · refine W_sub [0] [5] (st' := ⟨[(5, S s80)], [.row .nod x1 false]⟩) (by kernel_rfl) ?_
    refine W_skip ?_
    refine thenS_n ?_
    refine W_seq ?_
    refine W_region ?_
    refine WO_step 2 [0] [4] True ⟨[(4, S s80)], [.row .nod x1 false]⟩ (by kernel_rfl) trivial ?_
    refine WO_nil rfl ?_
    refine thenS_n ?_
    refine W_ret ?_
    cases h
    exact ⟨[0], True, by kernel_rfl, trivial⟩

/- spec.resolve -/
def spec_resolve_L1 (x1 : List Nod) (s2 : Str) : Nat → Int → Option ((Int) ⊕ (Unit))
| 0, _ => none
| n + 1, i56 =>
 iteO (decide (i56 < ((x1.length : Nat) : Int)))
 (bindO (spec_pathText n x1 i56) fun s76 =>
 iteO (decide (s76 = s2))
 (some (.inl i56))
 (spec_resolve_L1 x1 s2 n (w64 (i56 + 1))))
 (some (.inr ()))

theorem spec_resolve_L1_ok (w : World) (X : Nat → Prop) (θ : List Loc) (x1 : List Nod) (s2 : Str) (v : (Int) ⊕ (Unit)) : ∀ (n : Nat) (i56 : Int), spec_resolve_L1 x1 s2 n i56 = some v → WL EE ⟨w, X, θ, 18, 1⟩ (subC [1, 0, 1, 4, 4] (bodyC Try.f43)) (fun (e : Exit) (s : St) => (match v with | (.inl i68) => e = .ret ∧ s = ⟨[(4, I i68)], [.row .nod x1 false]⟩ | (.inr _) => e = .exit 0 ∧ s = ⟨[], [.row .nod x1 false]⟩ : Prop)) ⟨[(0, .one (.e (.sl 0 0 x1.length))), (1, S s2), (5, I i56)], [.row .nod x1 false]⟩ := by
  intro n
  induction n with
  | zero => intro _ h; exact none_e h
  | succ n ih =>
    intro i56 h
    rw [spec_resolve_L1] at h
    refine WL_round ?_
    refine W_seq ?_
    refine W_seq ?_
    refine W_region ?_
    refine WO_step 4 [0] [0, 1, 5, 9] (True ∧ (True ∧ True)) ⟨[(0, .one (.e (.sl 0 0 x1.length))), (1, S s2), (5, I i56), (9, B (decide (i56 < ((x1.length : Nat) : Int))))], [.row .nod x1 false]⟩ (by kernel_rfl) ⟨trivial, trivial, trivial⟩ ?_
    refine WO_nil rfl ?_
    refine thenS_n ?_
    refine iteO_e h (fun hb71 h => W_true rfl hb71 ?_) (fun hb71 h => W_false rfl hb71 ?_)
    · refine W_sub [0] [0, 1, 5] (st' := ⟨[(0, .one (.e (.sl 0 0 x1.length))), (1, S s2), (5, I i56)], [.row .nod x1 false]⟩) (by kernel_rfl) ?_
      refine W_skip ?_
      refine thenS_n ?_
      refine W_seq ?_
      refine W_block ?_
      refine W_seq ?_
      refine W_region ?_
      refine WO_step 2 [0] [0, 1, 5, 12, 13] True ⟨[(0, .one (.e (.sl 0 0 x1.length))), (1, S s2), (5, I i56), (12, .one (.e (.sl 0 0 x1.length))), (13, I i56)], [.row .nod x1 false]⟩ (by kernel_rfl) trivial ?_
      refine bindO_e h (fun s76 hc77 h => ?_)
      refine WO_call [.ro 0] Try.f38 rfl rfl rfl (by kernel_rfl) Try.func38 rfl (by kernel_rfl) (spec_pathText_ok n x1 i56 s76 hc77) (And.intro (And.intro rfl rfl) (trivial)) rfl ?_
      refine WO_step 2 [0] [0, 1, 5, 16] (True ∧ True) ⟨[(0, .one (.e (.sl 0 0 x1.length))), (1, S s2), (5, I i56), (16, B (decide (s76 = s2)))], [.row .nod x1 false]⟩ (by kernel_rfl) ⟨trivial, trivial⟩ ?_
      refine WO_nil rfl ?_
      refine thenS_n ?_
      refine iteO_e h (fun hb79 h => W_true rfl hb79 ?_) (fun hb79 h => W_false rfl hb79 ?_)
      · refine W_seq ?_
        refine W_region ?_
        refine WO_step 2 [0] [4] True ⟨[(4, I i56)], [.row .nod x1 false]⟩ (by kernel_rfl) trivial ?_
        refine WO_nil rfl ?_
        refine thenS_n ?_
        refine W_ret ?_
        refine blockS_r ?_
        refine thenS_r ?_
        refine thenS_r ?_
        cases h
        exact And.intro rfl rfl
      · refine W_sub [0] [0, 1, 5] (st' := ⟨[(0, .one (.e (.sl 0 0 x1.length))), (1, S s2), (5, I i56)], [.row .nod x1 false]⟩) (by kernel_rfl) ?_
        refine W_skip ?_
        refine blockS_n ?_
        refine thenS_n ?_
        refine W_region ?_
        refine WO_step 3 [0] [0, 1, 5] (True ∧ True) ⟨[(0, .one (.e (.sl 0 0 x1.length))), (1, S s2), (5, I (w64 (i56 + 1)))], [.row .nod x1 false]⟩ (by kernel_rfl) ⟨trivial, trivial⟩ ?_
        refine WO_nil rfl ?_
        refine thenS_n ?_
        exact ih _ h
    · refine W_sub [0] [] (st' := ⟨[], [.row .nod x1 false]⟩) (by kernel_rfl) ?_
      refine W_exit ?_
      refine thenS_e ?_
      refine thenS_e ?_
      cases h
      exact And.intro rfl rfl

def spec_resolve (n : Nat) (x1 : List Nod) (s2 : Str) : Option (Int) :=
 bindO (spec_resolve_L1 x1 s2 n 0) fun v80 =>
 match v80 with
 | (.inl i68) => (some i68)
 | (.inr _) => (some (-1))


theorem spec_resolve_ok (n : Nat) (x1 : List Nod) (s2 : Str) (i41 : Int) (h : spec_resolve n x1 s2 = some i41) : FOk EE 43 [.one (.e (.sl 0 0 x1.length)), S s2] [.row .nod x1 false] (I i41) [.row .nod x1 false] := by
  unfold spec_resolve at h
  refine FOk_of_W 18 1 Try.func43 rfl rfl (Nat.le_of_ble_eq_true rfl) rfl (fun w X θ => ?_)
  refine W_seq ?_
  refine W_region ?_
  refine WO_step 1 [0] [0, 1] True ⟨[(0, .one (.e (.sl 0 0 x1.length))), (1, S s2)], [.row .nod x1 false]⟩ (by kernel_rfl) trivial ?_
  refine WO_nil rfl ?_
  refine thenS_n ?_
  refine W_seq ?_
  refine W_seq ?_
  refine W_region ?_
  refine WO_step 1 [0] [0, 1, 5] True ⟨[(0, .one (.e (.sl 0 0 x1.length))), (1, S s2), (5, I 0)], [.row .nod x1 false]⟩ (by kernel_rfl) trivial ?_
  refine WO_nil rfl ?_
  refine thenS_n ?_
  refine W_block ?_
  refine W_loop ?_
  refine bindO_e h (fun v80 hv80 h => ?_)
  refine WL_cut (spec_resolve_L1_ok w X θ x1 s2 v80 n 0 hv80) ?_
  rcases v80 with i68 | _
  · rintro _ _ ⟨rfl, rfl⟩
    refine blockS_r ?_
    refine thenS_r ?_
    cases h
    exact ⟨[0], True, by kernel_rfl, trivial⟩
  · rintro _ _ ⟨rfl, rfl⟩
    refine blockS_y ?_
    refine thenS_n ?_
    refine W_seq ?_
    refine W_region ?_
    refine WO_step 1 [0] [4] True ⟨[(4, I (-1))], [.row .nod x1 false]⟩ (by kernel_rfl) trivial ?_
    refine WO_nil rfl ?_
    refine thenS_n ?_
    refine W_ret ?_
    cases h
    exact ⟨[0], True, by kernel_rfl, trivial⟩

/- spec.entries -/
def spec_entries_L1 (x1 : List Nod) (x59 : List Int) : Nat → (List Edt) → Int → Option ((List Edt))
| 0, _, _ => none
| n + 1, x81, i82 =>
 iteO (decide (i82 < ((x59.length : Nat) : Int)))
 (guardO (0 ≤ i82 ∧ i82 < ((x59.length : Nat) : Int)) <|
 bindO (spec_pathText n x1 (x59.getD i82.toNat 0)) fun s110 =>
 guardO (0 ≤ i82 ∧ i82 < ((x59.length : Nat) : Int)) <|
 guardO (0 ≤ (x59.getD i82.toNat 0) ∧ (x59.getD i82.toNat 0) < ((x1.length : Nat) : Int)) <|
 guardO (0 = 0 ∧ x81.length = x81.length ∧ x81.length + (([(⟨0, s110, (x1.getD ((x59.getD i82.toNat 0).toNat) dnod).value⟩ : Edt)].drop 0).take ([(⟨0, s110, (x1.getD ((x59.getD i82.toNat 0).toNat) dnod).value⟩ : Edt)].length)).length ≤ 1099511627776) <|
 spec_entries_L1 x1 x59 n (x81 ++ (([(⟨0, s110, (x1.getD ((x59.getD i82.toNat 0).toNat) dnod).value⟩ : Edt)].drop 0).take ([(⟨0, s110, (x1.getD ((x59.getD i82.toNat 0).toNat) dnod).value⟩ : Edt)].length))) (w64 (i82 + 1)))
 (some x81)

theorem spec_entries_L1_ok (w : World) (X : Nat → Prop) (θ : List Loc) (x1 : List Nod) (x59 : List Int) (x99 : (List Edt)) : ∀ (n : Nat) (x81 : List Edt) (i82 : Int), spec_entries_L1 x1 x59 n x81 i82 = some x99 → WL EE ⟨w, X, θ, 34, 1⟩ (subC [1, 1, 1, 0, 1, 4, 4] (bodyC Try.f18)) (fun (e : Exit) (s : St) => e = .exit 0 ∧ s = ⟨[(3, .one (.e (.sl 1 0 x99.length)))], [.row .nod x1 false, .row .edt x99 true]⟩) ⟨[(0, .one (.e (.sl 0 0 x1.length))), (3, .one (.e (.sl 1 0 x81.length))), (4, .one (.e (.sl 2 0 x59.length))), (5, I i82)], [.row .nod x1 false, .row .edt x81 true, .row .int x59 true]⟩ := by
  intro n
  induction n with
  | zero => intro _ _ h; exact none_e h
  | succ n ih =>
    intro x81 i82 h
    rw [spec_entries_L1] at h
    refine WL_round ?_
    refine W_seq ?_
    refine W_seq ?_
    refine W_region ?_
    refine WO_step 4 [0, 1, 2] [0, 3, 4, 5, 12] (True ∧ (True ∧ True)) ⟨[(0, .one (.e (.sl 0 0 x1.length))), (3, .one (.e (.sl 1 0 x81.length))), (4, .one (.e (.sl 2 0 x59.length))), (5, I i82), (12, B (decide (i82 < ((x59.length : Nat) : Int))))], [.row .nod x1 false, .row .edt x81 true, .row .int x59 true]⟩ (by kernel_rfl) ⟨trivial, trivial, trivial⟩ ?_
    refine WO_nil rfl ?_
    refine thenS_n ?_
    refine iteO_e h (fun hb102 h => W_true rfl hb102 ?_) (fun hb102 h => W_false rfl hb102 ?_)
    · refine W_sub [0, 1, 2] [0, 3, 4, 5] (st' := ⟨[(0, .one (.e (.sl 0 0 x1.length))), (3, .one (.e (.sl 1 0 x81.length))), (4, .one (.e (.sl 2 0 x59.length))), (5, I i82)], [.row .nod x1 false, .row .edt x81 true, .row .int x59 true]⟩) (by kernel_rfl) ?_
      refine W_skip ?_
      refine thenS_n ?_
      refine W_seq ?_
      refine W_block ?_
      refine guardO_e h (fun hg109 h => ?_)
      refine bindO_e h (fun s110 hc111 h => ?_)
      refine guardO_e h (fun hg112 h => ?_)
      refine guardO_e h (fun hg113 h => ?_)
      refine guardO_e h (fun hg114 h => ?_)
      refine W_cut (Q' := fun (e : Exit) (s : St) => e = .normal ∧ s = ⟨[(0, .one (.e (.sl 0 0 x1.length))), (3, .one (.e (.sl 1 0 ((x81 ++ (([(⟨0, s110, (x1.getD ((x59.getD i82.toNat 0).toNat) dnod).value⟩ : Edt)].drop 0).take ([(⟨0, s110, (x1.getD ((x59.getD i82.toNat 0).toNat) dnod).value⟩ : Edt)].length))).length)))), (4, .one (.e (.sl 2 0 x59.length))), (5, I i82)], [.row .nod x1 false, .row .edt (x81 ++ (([(⟨0, s110, (x1.getD ((x59.getD i82.toNat 0).toNat) dnod).value⟩ : Edt)].drop 0).take ([(⟨0, s110, (x1.getD ((x59.getD i82.toNat 0).toNat) dnod).value⟩ : Edt)].length))) true, .row .int x59 true]⟩) ?_ ?_
      · refine W_draw [1] false (by kernel_rfl) (by kernel_rfl) ?_
        refine WD_takeK [0, 1, 2, 3, 4, 5, 7, 8, 9, 10, 11, 12, 13, 14] [0, 3, 4, 5, 15, 16, 20, 29] [0, 3, 4, 5, 15, 16, 20, 29] (φ := ((0 ≤ i82 ∧ i82 < ((x59.length : Nat) : Int)) ∧ (0 ≤ i82 ∧ i82 < ((x59.length : Nat) : Int)) ∧ (True ∧ True ∧ ((0 ≤ i82 ∧ i82 < ((x59.length : Nat) : Int)) ∧ (0 ≤ i82 ∧ i82 < ((x59.length : Nat) : Int)) ∧ (True ∧ True ∧ ((0 ≤ (x59.getD i82.toNat 0) ∧ (x59.getD i82.toNat 0) < ((x1.length : Nat) : Int)) ∧ (0 ≤ (x59.getD i82.toNat 0) ∧ (x59.getD i82.toNat 0) < ((x1.length : Nat) : Int)) ∧ (True ∧ True ∧ True))))))) (ls' := #[true, true, true, true, true, true, false, true, true, true, true, true, true, true, true, false, false, false, false]) (Ts' := [(0, .one (.e (.sl 0 0 x1.length))), (3, .one (.e (.sl 1 0 x81.length))), (4, .one (.e (.sl 2 0 x59.length))), (5, I i82), (15, .one (.e (.sl 1 0 x81.length))), (16, .one (.e (.sl 0 0 x1.length))), (20, I (x59.getD i82.toNat 0)), (29, I ((x1.getD ((x59.getD i82.toNat 0).toNat) dnod).value))]) (st' := ⟨[(0, .one (.e (.sl 0 0 x1.length))), (3, .one (.e (.sl 1 0 x81.length))), (4, .one (.e (.sl 2 0 x59.length))), (5, I i82), (15, .one (.e (.sl 1 0 x81.length))), (16, .one (.e (.sl 0 0 x1.length))), (20, I (x59.getD i82.toNat 0)), (29, I ((x1.getD ((x59.getD i82.toNat 0).toNat) dnod).value))], [.row .nod x1 false, .row .edt x81 true, .row .int x59 true]⟩) (n2 := 5) (by kernel_rfl) ⟨hg109, hg109, trivial, trivial, hg112, hg112, trivial, trivial, hg113, hg113, trivial, trivial, trivial⟩ rfl ?_
        refine WD_all [6] (n := 4) (by kernel_rfl) rfl ?_
        refine WM_call [.ro 0] Try.f38 rfl rfl (by kernel_rfl) Try.func38 rfl (by kernel_rfl) (spec_pathText_ok n x1 (x59.getD i82.toNat 0) s110 hc111) (And.intro (And.intro rfl rfl) (trivial)) rfl (And.intro rfl (And.intro rfl (trivial))) ?_
        refine WD_takeK [15] [0, 3, 4, 5, 15, 30] [0, 3, 4, 5, 15, 30] (φ := True) (ls' := #[true, true, true, true, true, true, true, true, true, true, true, true, true, true, true, true, false, false, false]) (Ts' := [(0, .one (.e (.sl 0 0 x1.length))), (3, .one (.e (.sl 1 0 x81.length))), (4, .one (.e (.sl 2 0 x59.length))), (5, I i82), (15, .one (.e (.sl 1 0 x81.length))), (30, AGG [cI 0, cS s110, cI ((x1.getD ((x59.getD i82.toNat 0).toNat) dnod).value)])]) (st' := ⟨[(0, .one (.e (.sl 0 0 x1.length))), (3, .one (.e (.sl 1 0 x81.length))), (4, .one (.e (.sl 2 0 x59.length))), (5, I i82), (15, .one (.e (.sl 1 0 x81.length))), (30, AGG [cI 0, cS s110, cI ((x1.getD ((x59.getD i82.toNat 0).toNat) dnod).value)])], [.row .nod x1 false, .row .edt x81 true, .row .int x59 true]⟩) (n2 := 3) (by kernel_rfl) trivial rfl ?_
        refine WD_all [16] (n := 2) (by kernel_rfl) rfl ?_
        refine WM_op (φ := True) (v := .one (.e (.sl 3 0 ([(⟨0, s110, (x1.getD ((x59.getD i82.toNat 0).toNat) dnod).value⟩ : Edt)].length)))) (H' := [.row .nod x1 false, .row .edt x81 true, .row .int x59 true, .row .edt [(⟨0, s110, (x1.getD ((x59.getD i82.toNat 0).toNat) dnod).value⟩ : Edt)] true]) rfl rfl (by kernel_rfl) trivial rfl (And.intro rfl (And.intro rfl (trivial))) ?_
        refine WD_all [17] (n := 1) (by kernel_rfl) rfl ?_
        refine WM_op (φ := 0 = 0 ∧ x81.length = x81.length ∧ x81.length + (([(⟨0, s110, (x1.getD ((x59.getD i82.toNat 0).toNat) dnod).value⟩ : Edt)].drop 0).take ([(⟨0, s110, (x1.getD ((x59.getD i82.toNat 0).toNat) dnod).value⟩ : Edt)].length)).length ≤ 1099511627776) (v := .one (.e (.sl 4 0 ((x81 ++ (([(⟨0, s110, (x1.getD ((x59.getD i82.toNat 0).toNat) dnod).value⟩ : Edt)].drop 0).take ([(⟨0, s110, (x1.getD ((x59.getD i82.toNat 0).toNat) dnod).value⟩ : Edt)].length))).length)))) (H' := [.row .nod x1 false, .dead, .row .int x59 true, .row .edt [(⟨0, s110, (x1.getD ((x59.getD i82.toNat 0).toNat) dnod).value⟩ : Edt)] true, .row .edt (x81 ++ (([(⟨0, s110, (x1.getD ((x59.getD i82.toNat 0).toNat) dnod).value⟩ : Edt)].drop 0).take ([(⟨0, s110, (x1.getD ((x59.getD i82.toNat 0).toNat) dnod).value⟩ : Edt)].length))) true]) rfl rfl (by kernel_rfl) hg114 rfl (And.intro rfl (And.intro rfl (trivial))) ?_
        refine WD_all [18] (n := 0) (by kernel_rfl) rfl ?_
        refine WM_op (φ := True) (v := .one (.e (.sl 4 0 ((x81 ++ (([(⟨0, s110, (x1.getD ((x59.getD i82.toNat 0).toNat) dnod).value⟩ : Edt)].drop 0).take ([(⟨0, s110, (x1.getD ((x59.getD i82.toNat 0).toNat) dnod).value⟩ : Edt)].length))).length)))) (H' := [.row .nod x1 false, .dead, .row .int x59 true, .row .edt [(⟨0, s110, (x1.getD ((x59.getD i82.toNat 0).toNat) dnod).value⟩ : Edt)] true, .row .edt (x81 ++ (([(⟨0, s110, (x1.getD ((x59.getD i82.toNat 0).toNat) dnod).value⟩ : Edt)].drop 0).take ([(⟨0, s110, (x1.getD ((x59.getD i82.toNat 0).toNat) dnod).value⟩ : Edt)].length))) true]) rfl rfl (by kernel_rfl) trivial rfl (And.intro rfl (And.intro rfl (trivial))) ?_
        exact WD_done [0, 4, 2] [0, 3, 4, 5] (st' := ⟨[(0, .one (.e (.sl 0 0 x1.length))), (3, .one (.e (.sl 1 0 ((x81 ++ (([(⟨0, s110, (x1.getD ((x59.getD i82.toNat 0).toNat) dnod).value⟩ : Edt)].drop 0).take ([(⟨0, s110, (x1.getD ((x59.getD i82.toNat 0).toNat) dnod).value⟩ : Edt)].length))).length)))), (4, .one (.e (.sl 2 0 x59.length))), (5, I i82)], [.row .nod x1 false, .row .edt (x81 ++ (([(⟨0, s110, (x1.getD ((x59.getD i82.toNat 0).toNat) dnod).value⟩ : Edt)].drop 0).take ([(⟨0, s110, (x1.getD ((x59.getD i82.toNat 0).toNat) dnod).value⟩ : Edt)].length))) true, .row .int x59 true]⟩) (by kernel_rfl) (by kernel_rfl) (And.intro rfl rfl)
      · rintro _ _ ⟨rfl, rfl⟩
        refine blockS_n ?_
        refine thenS_n ?_
        refine W_region ?_
        refine WO_step 3 [0, 1, 2] [0, 3, 4, 5] (True ∧ True) ⟨[(0, .one (.e (.sl 0 0 x1.length))), (3, .one (.e (.sl 1 0 ((x81 ++ (([(⟨0, s110, (x1.getD ((x59.getD i82.toNat 0).toNat) dnod).value⟩ : Edt)].drop 0).take ([(⟨0, s110, (x1.getD ((x59.getD i82.toNat 0).toNat) dnod).value⟩ : Edt)].length))).length)))), (4, .one (.e (.sl 2 0 x59.length))), (5, I (w64 (i82 + 1)))], [.row .nod x1 false, .row .edt (x81 ++ (([(⟨0, s110, (x1.getD ((x59.getD i82.toNat 0).toNat) dnod).value⟩ : Edt)].drop 0).take ([(⟨0, s110, (x1.getD ((x59.getD i82.toNat 0).toNat) dnod).value⟩ : Edt)].length))) true, .row .int x59 true]⟩ (by kernel_rfl) ⟨trivial, trivial⟩ ?_
        refine WO_nil rfl ?_
        refine thenS_n ?_
        exact ih _ _ h
    · refine W_sub [0, 1] [3] (st' := ⟨[(3, .one (.e (.sl 1 0 x81.length)))], [.row .nod x1 false, .row .edt x81 true]⟩) (by kernel_rfl) ?_
      refine W_exit ?_
      refine thenS_e ?_
      refine thenS_e ?_
      cases h
      exact And.intro rfl rfl

def spec_entries (n : Nat) (x1 : List Nod) : Option ((List Edt)) :=
 bindO (spec_walk n x1 0) fun x59 =>
 bindO (spec_entries_L1 x1 x59 n ([] : List Edt) 0) fun x99 =>
 some x99

theorem spec_entries_ok (n : Nat) (x1 : List Nod) (x58 : List Edt) (h : spec_entries n x1 = some x58) : FOk EE 18 [.one (.e (.sl 0 0 x1.length))] [.row .nod x1 false] (.one (.e (.sl 1 0 x58.length))) [.row .nod x1 false, .row .edt x58 true] := by
  unfold spec_entries at h
  refine FOk_of_W 34 1 Try.func18 rfl rfl (Nat.le_of_ble_eq_true rfl) rfl (fun w X θ => ?_)
  refine W_seq ?_
  refine W_region ?_
  refine WO_step 1 [0] [0] True ⟨[(0, .one (.e (.sl 0 0 x1.length)))], [.row .nod x1 false]⟩ (by kernel_rfl) trivial ?_
  refine WO_nil rfl ?_
  refine thenS_n ?_
  refine W_seq ?_
  refine W_region ?_
  refine WO_step 2 [0, 1] [0, 3] True ⟨[(0, .one (.e (.sl 0 0 x1.length))), (3, .one (.e (.sl 1 0 (([] : List Edt).length))))], [.row .nod x1 false, .row .edt ([] : List Edt) true]⟩ (by kernel_rfl) trivial ?_
  refine WO_nil rfl ?_
  refine thenS_n ?_
  refine W_seq ?_
  refine W_region ?_
  refine WO_step 1 [0, 1] [0, 3, 7] True ⟨[(0, .one (.e (.sl 0 0 x1.length))), (3, .one (.e (.sl 1 0 (([] : List Edt).length)))), (7, .one (.e (.sl 0 0 x1.length)))], [.row .nod x1 false, .row .edt ([] : List Edt) true]⟩ (by kernel_rfl) trivial ?_
  refine bindO_e h (fun x59 hc60 h => ?_)
  refine WO_call [.ro 0] Try.f37 rfl rfl rfl (by kernel_rfl) Try.func37 rfl (by kernel_rfl) (spec_walk_ok n x1 0 x59 hc60) (And.intro (And.intro rfl rfl) (trivial)) rfl ?_
  refine WO_step 1 [0, 1, 2] [0, 3, 4] True ⟨[(0, .one (.e (.sl 0 0 x1.length))), (3, .one (.e (.sl 1 0 (([] : List Edt).length)))), (4, .one (.e (.sl 2 0 x59.length)))], [.row .nod x1 false, .row .edt ([] : List Edt) true, .row .int x59 true]⟩ (by kernel_rfl) trivial ?_
  refine WO_nil rfl ?_
  refine thenS_n ?_
  refine W_seq ?_
  refine W_seq ?_
  refine W_region ?_
  refine WO_step 1 [0, 1, 2] [0, 3, 4, 5] True ⟨[(0, .one (.e (.sl 0 0 x1.length))), (3, .one (.e (.sl 1 0 (([] : List Edt).length)))), (4, .one (.e (.sl 2 0 x59.length))), (5, I 0)], [.row .nod x1 false, .row .edt ([] : List Edt) true, .row .int x59 true]⟩ (by kernel_rfl) trivial ?_
  refine WO_nil rfl ?_
  refine thenS_n ?_
  refine W_block ?_
  refine W_loop ?_
  refine bindO_e h (fun x99 hx99 h => ?_)
  refine WL_cut (spec_entries_L1_ok w X θ x1 x59 x99 n ([] : List Edt) 0 hx99) ?_
  rintro _ _ ⟨rfl, rfl⟩
  refine blockS_y ?_
  refine thenS_n ?_
  refine W_seq ?_
  refine W_region ?_
  refine WO_step 2 [0, 1] [2] True ⟨[(2, .one (.e (.sl 1 0 x99.length)))], [.row .nod x1 false, .row .edt x99 true]⟩ (by kernel_rfl) trivial ?_
  refine WO_nil rfl ?_
  refine thenS_n ?_
  refine W_ret ?_
  cases h
  exact ⟨[0, 1], True, by kernel_rfl, trivial⟩

/- spec.EditsBetween -/
def spec_EditsBetween_L1 (x1 : List Nod) (x2 : List Nod) (x296 : List Int) : Nat → (List Edt) → Int → Option ((List Edt))
| 0, _, _ => none
| n + 1, x356, i357 =>
 iteO (decide (i357 < ((x296.length : Nat) : Int)))
 (guardO (0 ≤ i357 ∧ i357 < ((x296.length : Nat) : Int)) <|
 bindO (spec_pathText n x1 (x296.getD i357.toNat 0)) fun s442 =>
 bindO (spec_resolve n x2 s442) fun i444 =>
 bindO (iteO (decide (i444 < 0))
 (guardO (0 ≤ (x296.getD i357.toNat 0) ∧ (x296.getD i357.toNat 0) < ((x1.length : Nat) : Int)) <|
 bindO (spec_pathText n x1 ((x1.getD ((x296.getD i357.toNat 0).toNat) dnod).parent)) fun s456 =>
 bindO (spec_resolve n x2 s456) fun i458 =>
 some (decide (0 ≤ i458)))
 (some false)) fun b452 =>
 bindO (iteO b452
 (bindO (spec_pathText n x1 (x296.getD i357.toNat 0)) fun s467 =>
 guardO (0 = 0 ∧ x356.length = x356.length ∧ x356.length + (([(⟨1, s467, 0⟩ : Edt)].drop 0).take ([(⟨1, s467, 0⟩ : Edt)].length)).length ≤ 1099511627776) <|
 some (x356 ++ (([(⟨1, s467, 0⟩ : Edt)].drop 0).take ([(⟨1, s467, 0⟩ : Edt)].length))))
 (some x356)) fun x464 =>
 spec_EditsBetween_L1 x1 x2 x296 n x464 (w64 (i357 + 1)))
 (some x356)

theorem spec_EditsBetween_L1_ok (w : World) (X : Nat → Prop) (θ : List Loc) (x1 : List Nod) (x2 : List Nod) (x296 : List Int) (x412 : (List Edt)) : ∀ (n : Nat) (x356 : List Edt) (i357 : Int), spec_EditsBetween_L1 x1 x2 x296 n x356 i357 = some x412 → WL EE ⟨w, X, θ, 96, 2⟩ (subC [1, 1, 1, 1, 0, 1, 4, 4] (bodyC Try.f25)) (fun (e : Exit) (s : St) => e = .exit 0 ∧ s = ⟨[(0, .one (.e (.sl 0 0 x1.length))), (1, .one (.e (.sl 1 0 x2.length))), (5, .one (.e (.sl 2 0 x412.length)))], [.row .nod x1 false, .row .nod x2 false, .row .edt x412 true]⟩) ⟨[(0, .one (.e (.sl 0 0 x1.length))), (1, .one (.e (.sl 1 0 x2.length))), (5, .one (.e (.sl 2 0 x356.length))), (6, .one (.e (.sl 3 0 x296.length))), (7, I i357)], [.row .nod x1 false, .row .nod x2 false, .row .edt x356 true, .row .int x296 true]⟩ := by
  intro n
  induction n with
  | zero => intro _ _ h; exact none_e h
  | succ n ih =>
    intro x356 i357 h
    rw [spec_EditsBetween_L1] at h
    refine WL_round ?_
    refine W_seq ?_
    refine W_seq ?_
    refine W_region ?_
    refine WO_step 4 [0, 1, 2, 3] [0, 1, 5, 6, 7, 26] (True ∧ (True ∧ True)) ⟨[(0, .one (.e (.sl 0 0 x1.length))), (1, .one (.e (.sl 1 0 x2.length))), (5, .one (.e (.sl 2 0 x356.length))), (6, .one (.e (.sl 3 0 x296.length))), (7, I i357), (26, B (decide (i357 < ((x296.length : Nat) : Int))))], [.row .nod x1 false, .row .nod x2 false, .row .edt x356 true, .row .int x296 true]⟩ (by kernel_rfl) ⟨trivial, trivial, trivial⟩ ?_
    refine WO_nil rfl ?_
    refine thenS_n ?_
    refine iteO_e h (fun hb415 h => W_true rfl hb415 ?_) (fun hb415 h => W_false rfl hb415 ?_)
    · refine W_sub [0, 1, 2, 3] [0, 1, 5, 6, 7] (st' := ⟨[(0, .one (.e (.sl 0 0 x1.length))), (1, .one (.e (.sl 1 0 x2.length))), (5, .one (.e (.sl 2 0 x356.length))), (6, .one (.e (.sl 3 0 x296.length))), (7, I i357)], [.row .nod x1 false, .row .nod x2 false, .row .edt x356 true, .row .int x296 true]⟩) (by kernel_rfl) ?_
      refine W_skip ?_
      refine thenS_n ?_
      refine W_seq ?_
      refine W_block ?_
      refine W_seq ?_
      refine W_region ?_
      refine guardO_e h (fun hg441 h => ?_)
      refine WO_step 5 [0, 1, 2, 3] [0, 1, 5, 6, 7, 8] ((0 ≤ i357 ∧ i357 < ((x296.length : Nat) : Int)) ∧ (True ∧ True)) ⟨[(0, .one (.e (.sl 0 0 x1.length))), (1, .one (.e (.sl 1 0 x2.length))), (5, .one (.e (.sl 2 0 x356.length))), (6, .one (.e (.sl 3 0 x296.length))), (7, I i357), (8, I (x296.getD i357.toNat 0))], [.row .nod x1 false, .row .nod x2 false, .row .edt x356 true, .row .int x296 true]⟩ (by kernel_rfl) ⟨hg441, trivial, trivial⟩ ?_
      refine WO_nil rfl ?_
      refine thenS_n ?_
      refine W_seq ?_
      refine W_region ?_
      refine WO_step 3 [0, 1, 2, 3] [0, 1, 5, 6, 7, 8, 33, 34, 35] True ⟨[(0, .one (.e (.sl 0 0 x1.length))), (1, .one (.e (.sl 1 0 x2.length))), (5, .one (.e (.sl 2 0 x356.length))), (6, .one (.e (.sl 3 0 x296.length))), (7, I i357), (8, I (x296.getD i357.toNat 0)), (33, .one (.e (.sl 1 0 x2.length))), (34, .one (.e (.sl 0 0 x1.length))), (35, I (x296.getD i357.toNat 0))], [.row .nod x1 false, .row .nod x2 false, .row .edt x356 true, .row .int x296 true]⟩ (by kernel_rfl) trivial ?_
      refine bindO_e h (fun s442 hc443 h => ?_)
      refine WO_call [.ro 0] Try.f38 rfl rfl rfl (by kernel_rfl) Try.func38 rfl (by kernel_rfl) (spec_pathText_ok n x1 (x296.getD i357.toNat 0) s442 hc443) (And.intro (And.intro rfl rfl) (trivial)) rfl ?_
      refine WO_sub [0, 1, 2, 3] [0, 1, 5, 6, 7, 8, 33, 36] (st' := ⟨[(0, .one (.e (.sl 0 0 x1.length))), (1, .one (.e (.sl 1 0 x2.length))), (5, .one (.e (.sl 2 0 x356.length))), (6, .one (.e (.sl 3 0 x296.length))), (7, I i357), (8, I (x296.getD i357.toNat 0)), (33, .one (.e (.sl 1 0 x2.length))), (36, S s442)], [.row .nod x1 false, .row .nod x2 false, .row .edt x356 true, .row .int x296 true]⟩) (by kernel_rfl) ?_
      refine bindO_e h (fun i444 hc445 h => ?_)
      refine WO_call [.ro 1] Try.f43 rfl rfl rfl (by kernel_rfl) Try.func43 rfl (by kernel_rfl) (spec_resolve_ok n x2 s442 i444 hc445) (And.intro (And.intro rfl rfl) (trivial)) rfl ?_
      refine WO_step 2 [0, 1, 2, 3] [0, 1, 5, 6, 7, 8, 39] (True ∧ True) ⟨[(0, .one (.e (.sl 0 0 x1.length))), (1, .one (.e (.sl 1 0 x2.length))), (5, .one (.e (.sl 2 0 x356.length))), (6, .one (.e (.sl 3 0 x296.length))), (7, I i357), (8, I (x296.getD i357.toNat 0)), (39, B (decide (i444 < 0)))], [.row .nod x1 false, .row .nod x2 false, .row .edt x356 true, .row .int x296 true]⟩ (by kernel_rfl) ⟨trivial, trivial⟩ ?_
      refine bindO_e h (fun b452 hv453 h => ?_)
      refine WO_thru ⟨[(0, .one (.e (.sl 0 0 x1.length))), (1, .one (.e (.sl 1 0 x2.length))), (5, .one (.e (.sl 2 0 x356.length))), (6, .one (.e (.sl 3 0 x296.length))), (7, I i357), (8, I (x296.getD i357.toNat 0)), (50, B b452)], [.row .nod x1 false, .row .nod x2 false, .row .edt x356 true, .row .int x296 true]⟩ ?_ ?_
      · refine iteO_e hv453 (fun hb454 hv453 => WO_known 39 true rfl hb454 ?_) (fun hb454 hv453 => WO_known 39 false rfl hb454 ?_)
        · refine guardO_e hv453 (fun hg455 hv453 => ?_)
          refine WO_step 7 [0, 1, 2, 3] [0, 1, 5, 6, 7, 8, 39, 40, 41, 46] ((0 ≤ (x296.getD i357.toNat 0) ∧ (x296.getD i357.toNat 0) < ((x1.length : Nat) : Int)) ∧ (True ∧ True)) ⟨[(0, .one (.e (.sl 0 0 x1.length))), (1, .one (.e (.sl 1 0 x2.length))), (5, .one (.e (.sl 2 0 x356.length))), (6, .one (.e (.sl 3 0 x296.length))), (7, I i357), (8, I (x296.getD i357.toNat 0)), (39, B true), (40, .one (.e (.sl 1 0 x2.length))), (41, .one (.e (.sl 0 0 x1.length))), (46, I ((x1.getD ((x296.getD i357.toNat 0).toNat) dnod).parent))], [.row .nod x1 false, .row .nod x2 false, .row .edt x356 true, .row .int x296 true]⟩ (by kernel_rfl) ⟨hg455, trivial, trivial⟩ ?_
          refine bindO_e hv453 (fun s456 hc457 hv453 => ?_)
          refine WO_call [.ro 0] Try.f38 rfl rfl rfl (by kernel_rfl) Try.func38 rfl (by kernel_rfl) (spec_pathText_ok n x1 ((x1.getD ((x296.getD i357.toNat 0).toNat) dnod).parent) s456 hc457) (And.intro (And.intro rfl rfl) (trivial)) rfl ?_
          refine WO_sub [0, 1, 2, 3] [0, 1, 5, 6, 7, 8, 39, 40, 47] (st' := ⟨[(0, .one (.e (.sl 0 0 x1.length))), (1, .one (.e (.sl 1 0 x2.length))), (5, .one (.e (.sl 2 0 x356.length))), (6, .one (.e (.sl 3 0 x296.length))), (7, I i357), (8, I (x296.getD i357.toNat 0)), (39, B true), (40, .one (.e (.sl 1 0 x2.length))), (47, S s456)], [.row .nod x1 false, .row .nod x2 false, .row .edt x356 true, .row .int x296 true]⟩) (by kernel_rfl) ?_
          refine bindO_e hv453 (fun i458 hc459 hv453 => ?_)
          refine WO_call [.ro 1] Try.f43 rfl rfl rfl (by kernel_rfl) Try.func43 rfl (by kernel_rfl) (spec_resolve_ok n x2 s456 i458 hc459) (And.intro (And.intro rfl rfl) (trivial)) rfl ?_
          refine WO_step 2 [0, 1, 2, 3] [0, 1, 5, 6, 7, 8, 50] (True ∧ True) ⟨[(0, .one (.e (.sl 0 0 x1.length))), (1, .one (.e (.sl 1 0 x2.length))), (5, .one (.e (.sl 2 0 x356.length))), (6, .one (.e (.sl 3 0 x296.length))), (7, I i357), (8, I (x296.getD i357.toNat 0)), (50, B (decide (0 ≤ i458)))], [.row .nod x1 false, .row .nod x2 false, .row .edt x356 true, .row .int x296 true]⟩ (by kernel_rfl) ⟨trivial, trivial⟩ ?_
          cases hv453
          exact WO_nil rfl ⟨rfl, rfl⟩
        · refine WO_step 11 [0, 1, 2, 3] [0, 1, 5, 6, 7, 8, 50] True ⟨[(0, .one (.e (.sl 0 0 x1.length))), (1, .one (.e (.sl 1 0 x2.length))), (5, .one (.e (.sl 2 0 x356.length))), (6, .one (.e (.sl 3 0 x296.length))), (7, I i357), (8, I (x296.getD i357.toNat 0)), (50, B false)], [.row .nod x1 false, .row .nod x2 false, .row .edt x356 true, .row .int x296 true]⟩ (by kernel_rfl) trivial ?_
          cases hv453
          exact WO_nil rfl ⟨rfl, rfl⟩
      · refine thenS_n ?_
        refine bindO_e h (fun x464 hx464 h => ?_)
        refine W_cut (Q' := fun (e : Exit) (s : St) => e = .normal ∧ s = ⟨[(0, .one (.e (.sl 0 0 x1.length))), (1, .one (.e (.sl 1 0 x2.length))), (5, .one (.e (.sl 2 0 x464.length))), (6, .one (.e (.sl 3 0 x296.length))), (7, I i357)], [.row .nod x1 false, .row .nod x2 false, .row .edt x464 true, .row .int x296 true]⟩) ?_ ?_
        · refine iteO_e hx464 (fun hb466 hx464 => W_true rfl hb466 ?_) (fun hb466 hx464 => W_false rfl hb466 ?_)
          · refine W_region ?_
            refine WO_step 3 [0, 1, 3, 2] [0, 1, 6, 7, 51, 52, 53] True ⟨[(0, .one (.e (.sl 0 0 x1.length))), (1, .one (.e (.sl 1 0 x2.length))), (6, .one (.e (.sl 2 0 x296.length))), (7, I i357), (51, .one (.e (.sl 3 0 x356.length))), (52, .one (.e (.sl 0 0 x1.length))), (53, I (x296.getD i357.toNat 0))], [.row .nod x1 false, .row .nod x2 false, .row .int x296 true, .row .edt x356 true]⟩ (by kernel_rfl) trivial ?_
            refine bindO_e hx464 (fun s467 hc468 hx464 => ?_)
            refine WO_call [.ro 0] Try.f38 rfl rfl rfl (by kernel_rfl) Try.func38 rfl (by kernel_rfl) (spec_pathText_ok n x1 (x296.getD i357.toNat 0) s467 hc468) (And.intro (And.intro rfl rfl) (trivial)) rfl ?_
            refine guardO_e hx464 (fun hg469 hx464 => ?_)
            refine WO_step 4 [0, 1, 5, 2] [0, 1, 5, 6, 7] ((0 = 0 ∧ x356.length = x356.length ∧ x356.length + (([(⟨1, s467, 0⟩ : Edt)].drop 0).take ([(⟨1, s467, 0⟩ : Edt)].length)).length ≤ 1099511627776) ∧ True) ⟨[(0, .one (.e (.sl 0 0 x1.length))), (1, .one (.e (.sl 1 0 x2.length))), (5, .one (.e (.sl 2 0 ((x356 ++ (([(⟨1, s467, 0⟩ : Edt)].drop 0).take ([(⟨1, s467, 0⟩ : Edt)].length))).length)))), (6, .one (.e (.sl 3 0 x296.length))), (7, I i357)], [.row .nod x1 false, .row .nod x2 false, .row .edt (x356 ++ (([(⟨1, s467, 0⟩ : Edt)].drop 0).take ([(⟨1, s467, 0⟩ : Edt)].length))) true, .row .int x296 true]⟩ (by kernel_rfl) ⟨hg469, trivial⟩ ?_
            refine WO_nil rfl ?_
            cases hx464
            exact And.intro rfl rfl
          · refine W_sub [0, 1, 2, 3] [0, 1, 5, 6, 7] (st' := ⟨[(0, .one (.e (.sl 0 0 x1.length))), (1, .one (.e (.sl 1 0 x2.length))), (5, .one (.e (.sl 2 0 x356.length))), (6, .one (.e (.sl 3 0 x296.length))), (7, I i357)], [.row .nod x1 false, .row .nod x2 false, .row .edt x356 true, .row .int x296 true]⟩) (by kernel_rfl) ?_
            refine W_skip ?_
            cases hx464
            exact And.intro rfl rfl
        · rintro _ _ ⟨rfl, rfl⟩
          refine blockS_n ?_
          refine thenS_n ?_
          refine W_region ?_
          refine WO_step 3 [0, 1, 2, 3] [0, 1, 5, 6, 7] (True ∧ True) ⟨[(0, .one (.e (.sl 0 0 x1.length))), (1, .one (.e (.sl 1 0 x2.length))), (5, .one (.e (.sl 2 0 x464.length))), (6, .one (.e (.sl 3 0 x296.length))), (7, I (w64 (i357 + 1)))], [.row .nod x1 false, .row .nod x2 false, .row .edt x464 true, .row .int x296 true]⟩ (by kernel_rfl) ⟨trivial, trivial⟩ ?_
          refine WO_nil rfl ?_
          refine thenS_n ?_
          exact ih _ _ h
    · refine W_sub [0, 1, 2] [0, 1, 5] (st' := ⟨[(0, .one (.e (.sl 0 0 x1.length))), (1, .one (.e (.sl 1 0 x2.length))), (5, .one (.e (.sl 2 0 x356.length)))], [.row .nod x1 false, .row .nod x2 false, .row .edt x356 true]⟩) (by kernel_rfl) ?_
      refine W_exit ?_
      refine thenS_e ?_
      refine thenS_e ?_
      cases h
      exact And.intro rfl rfl

def spec_EditsBetween_L2 (x1 : List Nod) (x471 : List Edt) (x2 : List Nod) : Nat → (List Edt) → Int → Option ((List Edt))
| 0, _, _ => none
| n + 1, x507, i508 =>
 iteO (decide (i508 < ((x471.length : Nat) : Int)))
 (guardO (0 ≤ i508 ∧ i508 < ((x471.length : Nat) : Int)) <|
 bindO (spec_resolve n x1 ((x471.getD i508.toNat dedt).path)) fun i557 =>
 bindO (iteO (decide (i557 < 0))
 (some true)
 (guardO (0 ≤ i557 ∧ i557 < ((x1.length : Nat) : Int)) <|
 guardO (0 ≤ i508 ∧ i508 < ((x471.length : Nat) : Int)) <|
 some (!decide (((x1.getD i557.toNat dnod).value) = ((x471.getD i508.toNat dedt).value))))) fun b562 =>
 bindO (iteO b562
 (guardO (0 ≤ i508 ∧ i508 < ((x471.length : Nat) : Int)) <|
 guardO (0 = 0 ∧ x507.length = x507.length ∧ x507.length + (([(⟨(x471.getD i508.toNat dedt).kind, (x471.getD i508.toNat dedt).path, (x471.getD i508.toNat dedt).value⟩ : Edt)].drop 0).take ([(⟨(x471.getD i508.toNat dedt).kind, (x471.getD i508.toNat dedt).path, (x471.getD i508.toNat dedt).value⟩ : Edt)].length)).length ≤ 1099511627776) <|
 some (x507 ++ (([(⟨(x471.getD i508.toNat dedt).kind, (x471.getD i508.toNat dedt).path, (x471.getD i508.toNat dedt).value⟩ : Edt)].drop 0).take ([(⟨(x471.getD i508.toNat dedt).kind, (x471.getD i508.toNat dedt).path, (x471.getD i508.toNat dedt).value⟩ : Edt)].length))))
 (some x507)) fun x567 =>
 spec_EditsBetween_L2 x1 x471 x2 n x567 (w64 (i508 + 1)))
 (some x507)

theorem spec_EditsBetween_L2_ok (w : World) (X : Nat → Prop) (θ : List Loc) (x1 : List Nod) (x471 : List Edt) (x2 : List Nod) (x539 : (List Edt)) : ∀ (n : Nat) (x507 : List Edt) (i508 : Int), spec_EditsBetween_L2 x1 x471 x2 n x507 i508 = some x539 → WL EE ⟨w, X, θ, 96, 2⟩ (subC [1, 1, 1, 1, 1, 1, 0, 1, 4, 4] (bodyC Try.f25)) (fun (e : Exit) (s : St) => e = .exit 2 ∧ s = ⟨[(5, .one (.e (.sl 2 0 x539.length)))], [.row .nod x1 false, .row .nod x2 false, .row .edt x539 true]⟩) ⟨[(0, .one (.e (.sl 0 0 x1.length))), (5, .one (.e (.sl 2 0 x507.length))), (9, .one (.e (.sl 3 0 x471.length))), (10, I i508)], [.row .nod x1 false, .row .nod x2 false, .row .edt x507 true, .row .edt x471 true]⟩ := by
  intro n
  induction n with
  | zero => intro _ _ h; exact none_e h
  | succ n ih =>
    intro x507 i508 h
    rw [spec_EditsBetween_L2] at h
    refine WL_round ?_
    refine W_seq ?_
    refine W_seq ?_
    refine W_region ?_
    refine WO_step 4 [0, 1, 2, 3] [0, 5, 9, 10, 63] (True ∧ (True ∧ True)) ⟨[(0, .one (.e (.sl 0 0 x1.length))), (5, .one (.e (.sl 2 0 x507.length))), (9, .one (.e (.sl 3 0 x471.length))), (10, I i508), (63, B (decide (i508 < ((x471.length : Nat) : Int))))], [.row .nod x1 false, .row .nod x2 false, .row .edt x507 true, .row .edt x471 true]⟩ (by kernel_rfl) ⟨trivial, trivial, trivial⟩ ?_
    refine WO_nil rfl ?_
    refine thenS_n ?_
    refine iteO_e h (fun hb542 h => W_true rfl hb542 ?_) (fun hb542 h => W_false rfl hb542 ?_)
    · refine W_sub [0, 1, 2, 3] [0, 5, 9, 10] (st' := ⟨[(0, .one (.e (.sl 0 0 x1.length))), (5, .one (.e (.sl 2 0 x507.length))), (9, .one (.e (.sl 3 0 x471.length))), (10, I i508)], [.row .nod x1 false, .row .nod x2 false, .row .edt x507 true, .row .edt x471 true]⟩) (by kernel_rfl) ?_
      refine W_skip ?_
      refine thenS_n ?_
      refine W_seq ?_
      refine W_block ?_
      refine W_seq ?_
      refine W_region ?_
      refine guardO_e h (fun hg556 h => ?_)
      refine WO_step 6 [0, 1, 2, 3] [0, 5, 9, 10, 66, 71] ((0 ≤ i508 ∧ i508 < ((x471.length : Nat) : Int)) ∧ (True ∧ True)) ⟨[(0, .one (.e (.sl 0 0 x1.length))), (5, .one (.e (.sl 2 0 x507.length))), (9, .one (.e (.sl 3 0 x471.length))), (10, I i508), (66, .one (.e (.sl 0 0 x1.length))), (71, S ((x471.getD i508.toNat dedt).path))], [.row .nod x1 false, .row .nod x2 false, .row .edt x507 true, .row .edt x471 true]⟩ (by kernel_rfl) ⟨hg556, trivial, trivial⟩ ?_
      refine bindO_e h (fun i557 hc558 h => ?_)
      refine WO_call [.ro 0] Try.f43 rfl rfl rfl (by kernel_rfl) Try.func43 rfl (by kernel_rfl) (spec_resolve_ok n x1 ((x471.getD i508.toNat dedt).path) i557 hc558) (And.intro (And.intro rfl rfl) (trivial)) rfl ?_
      refine WO_step 1 [0, 1, 2, 3] [0, 5, 9, 10, 11] True ⟨[(0, .one (.e (.sl 0 0 x1.length))), (5, .one (.e (.sl 2 0 x507.length))), (9, .one (.e (.sl 3 0 x471.length))), (10, I i508), (11, I i557)], [.row .nod x1 false, .row .nod x2 false, .row .edt x507 true, .row .edt x471 true]⟩ (by kernel_rfl) trivial ?_
      refine WO_nil rfl ?_
      refine thenS_n ?_
      refine W_seq ?_
      refine bindO_e h (fun b562 hv563 h => ?_)
      refine W_cut (Q' := fun (e : Exit) (s : St) => e = .normal ∧ s = ⟨[(0, .one (.e (.sl 0 0 x1.length))), (5, .one (.e (.sl 2 0 x507.length))), (9, .one (.e (.sl 3 0 x471.length))), (10, I i508), (87, B b562)], [.row .nod x1 false, .row .nod x2 false, .row .edt x507 true, .row .edt x471 true]⟩) ?_ ?_
      · refine iteO_e hv563 (fun hb559 hv563 => ?_) (fun hb559 hv563 => ?_)
        · refine W_draw [] true (by kernel_rfl) (by kernel_rfl) ?_
          refine WD_takeK [0, 1, 2] [0, 5, 9, 10, 11, 75] [0, 5, 9, 10, 11, 75] (φ := (True ∧ True ∧ True)) (ls' := #[true, true, true, false, false, false, false, false, false, false, false, false, false, false, false]) (Ts' := [(0, .one (.e (.sl 0 0 x1.length))), (5, .one (.e (.sl 2 0 x507.length))), (9, .one (.e (.sl 3 0 x471.length))), (10, I i508), (11, I i557), (75, B (decide (i557 < 0)))]) (st' := ⟨[(0, .one (.e (.sl 0 0 x1.length))), (5, .one (.e (.sl 2 0 x507.length))), (9, .one (.e (.sl 3 0 x471.length))), (10, I i508), (11, I i557), (75, B (decide (i557 < 0)))], [.row .nod x1 false, .row .nod x2 false, .row .edt x507 true, .row .edt x471 true]⟩) (n2 := 12) (by kernel_rfl) ⟨trivial, trivial, trivial⟩ rfl ?_
          refine WD_known 75 true rfl rfl hb559 ?_
          refine WD_takeK [3, 4, 5, 6, 7, 8, 9, 10, 11, 12, 13, 14] [0, 5, 9, 10, 87] [0, 5, 9, 10, 87] (φ := True) (ls' := #[true, true, true, true, true, true, true, true, true, true, true, true, true, true, true]) (Ts' := [(0, .one (.e (.sl 0 0 x1.length))), (5, .one (.e (.sl 2 0 x507.length))), (9, .one (.e (.sl 3 0 x471.length))), (10, I i508), (87, B true)]) (st' := ⟨[(0, .one (.e (.sl 0 0 x1.length))), (5, .one (.e (.sl 2 0 x507.length))), (9, .one (.e (.sl 3 0 x471.length))), (10, I i508), (87, B true)], [.row .nod x1 false, .row .nod x2 false, .row .edt x507 true, .row .edt x471 true]⟩) (n2 := 0) (by kernel_rfl) trivial rfl ?_
          exact WD_done [0, 1, 2, 3] [0, 5, 9, 10, 87] (st' := ⟨[(0, .one (.e (.sl 0 0 x1.length))), (5, .one (.e (.sl 2 0 x507.length))), (9, .one (.e (.sl 3 0 x471.length))), (10, I i508), (87, B true)], [.row .nod x1 false, .row .nod x2 false, .row .edt x507 true, .row .edt x471 true]⟩) (by kernel_rfl) (by kernel_rfl) (And.intro rfl (by cases hv563; rfl))
        · refine guardO_e hv563 (fun hg560 hv563 => ?_)
          refine guardO_e hv563 (fun hg561 hv563 => ?_)
          refine W_draw [] true (by kernel_rfl) (by kernel_rfl) ?_
          refine WD_takeK [0, 1, 2] [0, 5, 9, 10, 11, 75] [0, 5, 9, 10, 11, 75] (φ := (True ∧ True ∧ True)) (ls' := #[true, true, true, false, false, false, false, false, false, false, false, false, false, false, false]) (Ts' := [(0, .one (.e (.sl 0 0 x1.length))), (5, .one (.e (.sl 2 0 x507.length))), (9, .one (.e (.sl 3 0 x471.length))), (10, I i508), (11, I i557), (75, B (decide (i557 < 0)))]) (st' := ⟨[(0, .one (.e (.sl 0 0 x1.length))), (5, .one (.e (.sl 2 0 x507.length))), (9, .one (.e (.sl 3 0 x471.length))), (10, I i508), (11, I i557), (75, B (decide (i557 < 0)))], [.row .nod x1 false, .row .nod x2 false, .row .edt x507 true, .row .edt x471 true]⟩) (n2 := 12) (by kernel_rfl) ⟨trivial, trivial, trivial⟩ rfl ?_
          refine WD_known 75 false rfl rfl hb559 ?_
          refine WD_takeK [3, 4, 5, 6, 7, 8, 9, 10, 11, 12, 13, 14] [0, 5, 9, 10, 87] [0, 5, 9, 10, 87] (φ := ((0 ≤ i557 ∧ i557 < ((x1.length : Nat) : Int)) ∧ (0 ≤ i557 ∧ i557 < ((x1.length : Nat) : Int)) ∧ (True ∧ True ∧ ((0 ≤ i508 ∧ i508 < ((x471.length : Nat) : Int)) ∧ (0 ≤ i508 ∧ i508 < ((x471.length : Nat) : Int)) ∧ (True ∧ True ∧ (True ∧ True ∧ True)))))) (ls' := #[true, true, true, true, true, true, true, true, true, true, true, true, true, true, true]) (Ts' := [(0, .one (.e (.sl 0 0 x1.length))), (5, .one (.e (.sl 2 0 x507.length))), (9, .one (.e (.sl 3 0 x471.length))), (10, I i508), (87, B (!decide (((x1.getD i557.toNat dnod).value) = ((x471.getD i508.toNat dedt).value))))]) (st' := ⟨[(0, .one (.e (.sl 0 0 x1.length))), (5, .one (.e (.sl 2 0 x507.length))), (9, .one (.e (.sl 3 0 x471.length))), (10, I i508), (87, B (!decide (((x1.getD i557.toNat dnod).value) = ((x471.getD i508.toNat dedt).value))))], [.row .nod x1 false, .row .nod x2 false, .row .edt x507 true, .row .edt x471 true]⟩) (n2 := 0) (by kernel_rfl) ⟨hg560, hg560, trivial, trivial, hg561, hg561, trivial, trivial, trivial, trivial, trivial⟩ rfl ?_
          exact WD_done [0, 1, 2, 3] [0, 5, 9, 10, 87] (st' := ⟨[(0, .one (.e (.sl 0 0 x1.length))), (5, .one (.e (.sl 2 0 x507.length))), (9, .one (.e (.sl 3 0 x471.length))), (10, I i508), (87, B (!decide (((x1.getD i557.toNat dnod).value) = ((x471.getD i508.toNat dedt).value))))], [.row .nod x1 false, .row .nod x2 false, .row .edt x507 true, .row .edt x471 true]⟩) (by kernel_rfl) (by kernel_rfl) (And.intro rfl (by cases hv563; rfl))
      · rintro _ _ ⟨rfl, rfl⟩
        refine thenS_n ?_
        refine bindO_e h (fun x567 hx567 h => ?_)
        refine W_cut (Q' := fun (e : Exit) (s : St) => e = .normal ∧ s = ⟨[(0, .one (.e (.sl 0 0 x1.length))), (5, .one (.e (.sl 2 0 x567.length))), (9, .one (.e (.sl 3 0 x471.length))), (10, I i508)], [.row .nod x1 false, .row .nod x2 false, .row .edt x567 true, .row .edt x471 true]⟩) ?_ ?_
        · refine iteO_e hx567 (fun hb569 hx567 => W_true rfl hb569 ?_) (fun hb569 hx567 => W_false rfl hb569 ?_)
          · refine W_region ?_
            refine guardO_e hx567 (fun hg570 hx567 => ?_)
            refine guardO_e hx567 (fun hg571 hx567 => ?_)
            refine WO_step 8 [0, 1, 5, 3] [0, 5, 9, 10] ((0 ≤ i508 ∧ i508 < ((x471.length : Nat) : Int)) ∧ (True ∧ ((0 = 0 ∧ x507.length = x507.length ∧ x507.length + (([(⟨(x471.getD i508.toNat dedt).kind, (x471.getD i508.toNat dedt).path, (x471.getD i508.toNat dedt).value⟩ : Edt)].drop 0).take ([(⟨(x471.getD i508.toNat dedt).kind, (x471.getD i508.toNat dedt).path, (x471.getD i508.toNat dedt).value⟩ : Edt)].length)).length ≤ 1099511627776) ∧ True))) ⟨[(0, .one (.e (.sl 0 0 x1.length))), (5, .one (.e (.sl 2 0 ((x507 ++ (([(⟨(x471.getD i508.toNat dedt).kind, (x471.getD i508.toNat dedt).path, (x471.getD i508.toNat dedt).value⟩ : Edt)].drop 0).take ([(⟨(x471.getD i508.toNat dedt).kind, (x471.getD i508.toNat dedt).path, (x471.getD i508.toNat dedt).value⟩ : Edt)].length))).length)))), (9, .one (.e (.sl 3 0 x471.length))), (10, I i508)], [.row .nod x1 false, .row .nod x2 false, .row .edt (x507 ++ (([(⟨(x471.getD i508.toNat dedt).kind, (x471.getD i508.toNat dedt).path, (x471.getD i508.toNat dedt).value⟩ : Edt)].drop 0).take ([(⟨(x471.getD i508.toNat dedt).kind, (x471.getD i508.toNat dedt).path, (x471.getD i508.toNat dedt).value⟩ : Edt)].length))) true, .row .edt x471 true]⟩ (by kernel_rfl) ⟨hg570, trivial, hg571, trivial⟩ ?_
            refine WO_nil rfl ?_
            cases hx567
            exact And.intro rfl rfl
          · refine W_sub [0, 1, 2, 3] [0, 5, 9, 10] (st' := ⟨[(0, .one (.e (.sl 0 0 x1.length))), (5, .one (.e (.sl 2 0 x507.length))), (9, .one (.e (.sl 3 0 x471.length))), (10, I i508)], [.row .nod x1 false, .row .nod x2 false, .row .edt x507 true, .row .edt x471 true]⟩) (by kernel_rfl) ?_
            refine W_skip ?_
            cases hx567
            exact And.intro rfl rfl
        · rintro _ _ ⟨rfl, rfl⟩
          refine blockS_n ?_
          refine thenS_n ?_
          refine W_region ?_
          refine WO_step 3 [0, 1, 2, 3] [0, 5, 9, 10] (True ∧ True) ⟨[(0, .one (.e (.sl 0 0 x1.length))), (5, .one (.e (.sl 2 0 x567.length))), (9, .one (.e (.sl 3 0 x471.length))), (10, I (w64 (i508 + 1)))], [.row .nod x1 false, .row .nod x2 false, .row .edt x567 true, .row .edt x471 true]⟩ (by kernel_rfl) ⟨trivial, trivial⟩ ?_
          refine WO_nil rfl ?_
          refine thenS_n ?_
          exact ih _ _ h
    · refine W_sub [0, 1, 2] [5] (st' := ⟨[(5, .one (.e (.sl 2 0 x507.length)))], [.row .nod x1 false, .row .nod x2 false, .row .edt x507 true]⟩) (by kernel_rfl) ?_
      refine W_exit ?_
      refine thenS_e ?_
      refine thenS_e ?_
      cases h
      exact And.intro rfl rfl

def spec_EditsBetween (n : Nat) (x1 : List Nod) (x2 : List Nod) : Option ((List Edt)) :=
 bindO (spec_validTree n x1) fun b284 =>
 bindO (iteO (!b284)
 (some true)
 (bindO (spec_validTree n x2) fun b292 =>
 some (!b292))) fun b289 =>
 iteO b289
 (some ([] : List Edt))
 (bindO (spec_walk n x1 0) fun x296 =>
 bindO (spec_EditsBetween_L1 x1 x2 x296 n ([] : List Edt) 1) fun x412 =>
 bindO (spec_entries n x2) fun x471 =>
 bindO (spec_EditsBetween_L2 x1 x471 x2 n x412 0) fun x539 =>
 some x539)

theorem spec_EditsBetween_ok (n : Nat) (x1 : List Nod) (x2 : List Nod) (x283 : List Edt) (h : spec_EditsBetween n x1 x2 = some x283) : FOk EE 25 [.one (.e (.sl 0 0 x1.length)), .one (.e (.sl 1 0 x2.length))] [.row .nod x1 false, .row .nod x2 false] (.one (.e (.sl 2 0 x283.length))) [.row .nod x1 false, .row .nod x2 false, .row .edt x283 true] := by
  unfold spec_EditsBetween at h
  refine FOk_of_W 96 2 Try.func25 rfl rfl (Nat.le_of_ble_eq_true rfl) rfl (fun w X θ => ?_)
  refine W_seq ?_
  refine W_region ?_
  refine WO_step 1 [0, 1] [0, 1] True ⟨[(0, .one (.e (.sl 0 0 x1.length))), (1, .one (.e (.sl 1 0 x2.length)))], [.row .nod x1 false, .row .nod x2 false]⟩ (by kernel_rfl) trivial ?_
  refine WO_nil rfl ?_
  refine thenS_n ?_
  refine W_seq ?_
  refine W_region ?_
  refine WO_step 2 [0, 1, 2] [0, 1, 5] True ⟨[(0, .one (.e (.sl 0 0 x1.length))), (1, .one (.e (.sl 1 0 x2.length))), (5, .one (.e (.sl 2 0 (([] : List Edt).length))))], [.row .nod x1 false, .row .nod x2 false, .row .edt ([] : List Edt) true]⟩ (by kernel_rfl) trivial ?_
  refine WO_nil rfl ?_
  refine thenS_n ?_
  refine W_seq ?_
  refine W_seq ?_
  refine W_region ?_
  refine WO_step 1 [0, 1, 2] [0, 1, 5, 13] True ⟨[(0, .one (.e (.sl 0 0 x1.length))), (1, .one (.e (.sl 1 0 x2.length))), (5, .one (.e (.sl 2 0 (([] : List Edt).length)))), (13, .one (.e (.sl 0 0 x1.length)))], [.row .nod x1 false, .row .nod x2 false, .row .edt ([] : List Edt) true]⟩ (by kernel_rfl) trivial ?_
  refine bindO_e h (fun b284 hc285 h => ?_)
  refine WO_call [.ro 0] Try.f17 rfl rfl rfl (by kernel_rfl) Try.func17 rfl (by kernel_rfl) (spec_validTree_ok n x1 b284 hc285) (And.intro (And.intro rfl rfl) (trivial)) rfl ?_
  refine WO_step 2 [0, 1, 2] [0, 1, 5, 16] True ⟨[(0, .one (.e (.sl 0 0 x1.length))), (1, .one (.e (.sl 1 0 x2.length))), (5, .one (.e (.sl 2 0 (([] : List Edt).length)))), (16, B (!b284))], [.row .nod x1 false, .row .nod x2 false, .row .edt ([] : List Edt) true]⟩ (by kernel_rfl) trivial ?_
  refine bindO_e h (fun b289 hv290 h => ?_)
  refine WO_thru ⟨[(0, .one (.e (.sl 0 0 x1.length))), (1, .one (.e (.sl 1 0 x2.length))), (5, .one (.e (.sl 2 0 (([] : List Edt).length)))), (20, B b289)], [.row .nod x1 false, .row .nod x2 false, .row .edt ([] : List Edt) true]⟩ ?_ ?_
  · refine iteO_e hv290 (fun hb291 hv290 => WO_known 16 true rfl hb291 ?_) (fun hb291 hv290 => WO_known 16 false rfl hb291 ?_)
    · refine WO_step 4 [0, 1, 2] [0, 1, 5, 20] True ⟨[(0, .one (.e (.sl 0 0 x1.length))), (1, .one (.e (.sl 1 0 x2.length))), (5, .one (.e (.sl 2 0 (([] : List Edt).length)))), (20, B true)], [.row .nod x1 false, .row .nod x2 false, .row .edt ([] : List Edt) true]⟩ (by kernel_rfl) trivial ?_
      cases hv290
      exact WO_nil rfl ⟨rfl, rfl⟩
    · refine WO_step 1 [0, 1, 2] [0, 1, 5, 16, 17] True ⟨[(0, .one (.e (.sl 0 0 x1.length))), (1, .one (.e (.sl 1 0 x2.length))), (5, .one (.e (.sl 2 0 (([] : List Edt).length)))), (16, B false), (17, .one (.e (.sl 1 0 x2.length)))], [.row .nod x1 false, .row .nod x2 false, .row .edt ([] : List Edt) true]⟩ (by kernel_rfl) trivial ?_
      refine bindO_e hv290 (fun b292 hc293 hv290 => ?_)
      refine WO_call [.ro 1] Try.f17 rfl rfl rfl (by kernel_rfl) Try.func17 rfl (by kernel_rfl) (spec_validTree_ok n x2 b292 hc293) (And.intro (And.intro rfl rfl) (trivial)) rfl ?_
      refine WO_step 2 [0, 1, 2] [0, 1, 5, 20] True ⟨[(0, .one (.e (.sl 0 0 x1.length))), (1, .one (.e (.sl 1 0 x2.length))), (5, .one (.e (.sl 2 0 (([] : List Edt).length)))), (20, B (!b292))], [.row .nod x1 false, .row .nod x2 false, .row .edt ([] : List Edt) true]⟩ (by kernel_rfl) trivial ?_
      cases hv290
      exact WO_nil rfl ⟨rfl, rfl⟩
  · refine thenS_n ?_
    refine iteO_e h (fun hb295 h => W_true rfl hb295 ?_) (fun hb295 h => W_false rfl hb295 ?_)
    · refine W_seq ?_
      refine W_region ?_
      refine WO_step 1 [0, 1] [4] True ⟨[(4, .one (.e (.nsl)))], [.row .nod x1 false, .row .nod x2 false]⟩ (by kernel_rfl) trivial ?_
      refine WO_nilrow 4 .edt rfl ?_
      refine WO_sub [0, 1, 2] [4] (st' := ⟨[(4, .one (.e (.sl 2 0 (([] : List Edt).length))))], [.row .nod x1 false, .row .nod x2 false, .row .edt ([] : List Edt) true]⟩) (by kernel_rfl) ?_
      refine WO_nil rfl ?_
      refine thenS_n ?_
      refine W_ret ?_
      refine thenS_r ?_
      cases h
      exact ⟨[0, 1, 2], True, by kernel_rfl, trivial⟩
    · refine W_sub [0, 1, 2] [0, 1, 5] (st' := ⟨[(0, .one (.e (.sl 0 0 x1.length))), (1, .one (.e (.sl 1 0 x2.length))), (5, .one (.e (.sl 2 0 (([] : List Edt).length))))], [.row .nod x1 false, .row .nod x2 false, .row .edt ([] : List Edt) true]⟩) (by kernel_rfl) ?_
      refine W_skip ?_
      refine thenS_n ?_
      refine W_seq ?_
      refine W_region ?_
      refine WO_step 1 [0, 1, 2] [0, 1, 5, 21] True ⟨[(0, .one (.e (.sl 0 0 x1.length))), (1, .one (.e (.sl 1 0 x2.length))), (5, .one (.e (.sl 2 0 (([] : List Edt).length)))), (21, .one (.e (.sl 0 0 x1.length)))], [.row .nod x1 false, .row .nod x2 false, .row .edt ([] : List Edt) true]⟩ (by kernel_rfl) trivial ?_
      refine bindO_e h (fun x296 hc297 h => ?_)
      refine WO_call [.ro 0] Try.f37 rfl rfl rfl (by kernel_rfl) Try.func37 rfl (by kernel_rfl) (spec_walk_ok n x1 0 x296 hc297) (And.intro (And.intro rfl rfl) (trivial)) rfl ?_
      refine WO_step 1 [0, 1, 2, 3] [0, 1, 5, 6] True ⟨[(0, .one (.e (.sl 0 0 x1.length))), (1, .one (.e (.sl 1 0 x2.length))), (5, .one (.e (.sl 2 0 (([] : List Edt).length)))), (6, .one (.e (.sl 3 0 x296.length)))], [.row .nod x1 false, .row .nod x2 false, .row .edt ([] : List Edt) true, .row .int x296 true]⟩ (by kernel_rfl) trivial ?_
      refine WO_nil rfl ?_
      refine thenS_n ?_
      refine W_seq ?_
      refine W_seq ?_
      refine W_region ?_
      refine WO_step 1 [0, 1, 2, 3] [0, 1, 5, 6, 7] True ⟨[(0, .one (.e (.sl 0 0 x1.length))), (1, .one (.e (.sl 1 0 x2.length))), (5, .one (.e (.sl 2 0 (([] : List Edt).length)))), (6, .one (.e (.sl 3 0 x296.length))), (7, I 1)], [.row .nod x1 false, .row .nod x2 false, .row .edt ([] : List Edt) true, .row .int x296 true]⟩ (by kernel_rfl) trivial ?_
      refine WO_nil rfl ?_
      refine thenS_n ?_
      refine W_block ?_
      refine W_loop ?_
      refine bindO_e h (fun x412 hx412 h => ?_)
      refine WL_cut (spec_EditsBetween_L1_ok w X θ x1 x2 x296 x412 n ([] : List Edt) 1 hx412) ?_
      rintro _ _ ⟨rfl, rfl⟩
      refine blockS_y ?_
      refine thenS_n ?_
      refine W_seq ?_
      refine W_region ?_
      refine WO_step 1 [0, 1, 2] [0, 5, 58] True ⟨[(0, .one (.e (.sl 0 0 x1.length))), (5, .one (.e (.sl 2 0 x412.length))), (58, .one (.e (.sl 1 0 x2.length)))], [.row .nod x1 false, .row .nod x2 false, .row .edt x412 true]⟩ (by kernel_rfl) trivial ?_
      refine bindO_e h (fun x471 hc472 h => ?_)
      refine WO_call [.ro 1] Try.f18 rfl rfl rfl (by kernel_rfl) Try.func18 rfl (by kernel_rfl) (spec_entries_ok n x2 x471 hc472) (And.intro (And.intro rfl rfl) (trivial)) rfl ?_
      refine WO_step 1 [0, 1, 2, 3] [0, 5, 9] True ⟨[(0, .one (.e (.sl 0 0 x1.length))), (5, .one (.e (.sl 2 0 x412.length))), (9, .one (.e (.sl 3 0 x471.length)))], [.row .nod x1 false, .row .nod x2 false, .row .edt x412 true, .row .edt x471 true]⟩ (by kernel_rfl) trivial ?_
      refine WO_nil rfl ?_
      refine thenS_n ?_
      refine W_seq ?_
      refine W_seq ?_
      refine W_region ?_
      refine WO_step 1 [0, 1, 2, 3] [0, 5, 9, 10] True ⟨[(0, .one (.e (.sl 0 0 x1.length))), (5, .one (.e (.sl 2 0 x412.length))), (9, .one (.e (.sl 3 0 x471.length))), (10, I 0)], [.row .nod x1 false, .row .nod x2 false, .row .edt x412 true, .row .edt x471 true]⟩ (by kernel_rfl) trivial ?_
      refine WO_nil rfl ?_
      refine thenS_n ?_
      refine W_block ?_
      refine W_loop ?_
      refine bindO_e h (fun x539 hx539 h => ?_)
      refine WL_cut (spec_EditsBetween_L2_ok w X θ x1 x471 x2 x539 n x412 0 hx539) ?_
      rintro _ _ ⟨rfl, rfl⟩
      refine blockS_y ?_
      refine thenS_n ?_
      refine W_seq ?_
      refine W_region ?_
      refine WO_step 2 [0, 1, 2] [4] True ⟨[(4, .one (.e (.sl 2 0 x539.length)))], [.row .nod x1 false, .row .nod x2 false, .row .edt x539 true]⟩ (by kernel_rfl) trivial ?_
      refine WO_nil rfl ?_
      refine thenS_n ?_
      refine W_ret ?_
      cases h
      exact ⟨[0, 1, 2], True, by kernel_rfl, trivial⟩

/- spec.above -/
def spec_above_L1 (x1 : List Nod) (i2 : Int) : Nat → Int → Option (Int)
| 0, _ => none
| n + 1, i33 =>
 iteO (decide (i2 < i33))
 (guardO (0 ≤ i33 ∧ i33 < ((x1.length : Nat) : Int)) <|
 spec_above_L1 x1 i2 n ((x1.getD i33.toNat dnod).parent))
 (some i33)

theorem spec_above_L1_ok (w : World) (X : Nat → Prop) (θ : List Loc) (x1 : List Nod) (i2 : Int) (i39 : Int) : ∀ (n : Nat) (i33 : Int), spec_above_L1 x1 i2 n i33 = some i39 → WL EE ⟨w, X, θ, 18, 1⟩ (subC [1, 0, 4, 4] (bodyC Try.f68)) (fun (e : Exit) (s : St) => e = .exit 0 ∧ s = ⟨[(1, I i2), (2, I i39)], [.row .nod x1 false]⟩) ⟨[(0, .one (.e (.sl 0 0 x1.length))), (1, I i2), (2, I i33)], [.row .nod x1 false]⟩ := by
  intro n
  induction n with
  | zero => intro _ h; exact none_e h
  | succ n ih =>
    intro i33 h
    rw [spec_above_L1] at h
    refine WL_round ?_
    refine W_seq ?_
    refine W_seq ?_
    refine W_region ?_
    refine WO_step 3 [0] [0, 1, 2, 9] (True ∧ True) ⟨[(0, .one (.e (.sl 0 0 x1.length))), (1, I i2), (2, I i33), (9, B (decide (i2 < i33)))], [.row .nod x1 false]⟩ (by kernel_rfl) ⟨trivial, trivial⟩ ?_
    refine WO_nil rfl ?_
    refine thenS_n ?_
    refine iteO_e h (fun hb42 h => W_true rfl hb42 ?_) (fun hb42 h => W_false rfl hb42 ?_)
    · refine W_sub [0] [0, 1, 2] (st' := ⟨[(0, .one (.e (.sl 0 0 x1.length))), (1, I i2), (2, I i33)], [.row .nod x1 false]⟩) (by kernel_rfl) ?_
      refine W_skip ?_
      refine thenS_n ?_
      refine W_block ?_
      refine W_region ?_
      refine guardO_e h (fun hg44 h => ?_)
      refine WO_step 6 [0] [0, 1, 2] ((0 ≤ i33 ∧ i33 < ((x1.length : Nat) : Int)) ∧ (True ∧ True)) ⟨[(0, .one (.e (.sl 0 0 x1.length))), (1, I i2), (2, I ((x1.getD i33.toNat dnod).parent))], [.row .nod x1 false]⟩ (by kernel_rfl) ⟨hg44, trivial, trivial⟩ ?_
      refine WO_nil rfl ?_
      refine blockS_n ?_
      refine thenS_n ?_
      exact ih _ h
    · refine W_sub [0] [1, 2] (st' := ⟨[(1, I i2), (2, I i33)], [.row .nod x1 false]⟩) (by kernel_rfl) ?_
      refine W_exit ?_
      refine thenS_e ?_
      refine thenS_e ?_
      cases h
      exact And.intro rfl rfl

def spec_above (n : Nat) (x1 : List Nod) (i2 : Int) (i3 : Int) : Option (Bool) :=
 bindO (spec_above_L1 x1 i2 n i3) fun i39 =>
 some (decide (i39 = i2))

theorem spec_above_ok (n : Nat) (x1 : List Nod) (i2 : Int) (i3 : Int) (b24 : Bool) (h : spec_above n x1 i2 i3 = some b24) : FOk EE 68 [.one (.e (.sl 0 0 x1.length)), I i2, I i3] [.row .nod x1 false] (B b24) [.row .nod x1 false] := by
  unfold spec_above at h
  refine FOk_of_W 18 1 Try.func68 rfl rfl (Nat.le_of_ble_eq_true rfl) rfl (fun w X θ => ?_)
  refine W_seq ?_
  refine W_region ?_
  refine WO_step 1 [0] [0, 1, 2] True ⟨[(0, .one (.e (.sl 0 0 x1.length))), (1, I i2), (2, I i3)], [.row .nod x1 false]⟩ (by kernel_rfl) trivial ?_
  refine WO_nil rfl ?_
  refine thenS_n ?_
  refine W_seq ?_
  refine W_block ?_
  refine W_loop ?_
  refine bindO_e h (fun i39 hi39 h => ?_)
  refine WL_cut (spec_above_L1_ok w X θ x1 i2 i39 n i3 hi39) ?_
  rintro _ _ ⟨rfl, rfl⟩
  refine blockS_y ?_
  refine thenS_n ?_
  refine W_seq ?_
  refine W_region ?_
  refine WO_step 4 [0] [6] (True ∧ True) ⟨[(6, B (decide (i39 = i2)))], [.row .nod x1 false]⟩ (by kernel_rfl) ⟨trivial, trivial⟩ ?_
  refine WO_nil rfl ?_
  refine thenS_n ?_
  refine W_ret ?_
  cases h
  exact ⟨[0], True, by kernel_rfl, trivial⟩

/- spec.without -/
def spec_without_L1 (x1 : List Nod) (i2 : Int) : Nat → (List Nod) → (List Int) → Int → Option ((List Nod))
| 0, _, _, _ => none
| n + 1, x94, x95, i96 =>
 iteO (decide (i96 < ((x1.length : Nat) : Int)))
 (bindO (bindO (spec_above n x1 i2 i96) fun b134 =>
 iteO b134
 (some (x94, x95))
 (guardO (0 ≤ i96 ∧ i96 < ((x1.length : Nat) : Int)) <|
 bindO (iteO (decide (0 < i96))
 (guardO (0 ≤ (x1.getD i96.toNat dnod).parent ∧ (x1.getD i96.toNat dnod).parent < ((x95.length : Nat) : Int)) <|
 some (x95.getD (((x1.getD i96.toNat dnod).parent).toNat) 0))
 (some ((x1.getD i96.toNat dnod).parent))) fun i141 =>
 guardO (0 ≤ i96 ∧ i96 < ((x95.length : Nat) : Int)) <|
 guardO (0 = 0 ∧ x94.length = x94.length ∧ x94.length + (([(⟨i141, (x1.getD i96.toNat dnod).name, (x1.getD i96.toNat dnod).value⟩ : Nod)].drop 0).take ([(⟨i141, (x1.getD i96.toNat dnod).name, (x1.getD i96.toNat dnod).value⟩ : Nod)].length)).length ≤ 1099511627776) <|
 some ((x94 ++ (([(⟨i141, (x1.getD i96.toNat dnod).name, (x1.getD i96.toNat dnod).value⟩ : Nod)].drop 0).take ([(⟨i141, (x1.getD i96.toNat dnod).name, (x1.getD i96.toNat dnod).value⟩ : Nod)].length))), (x95.set i96.toNat ((x94.length : Nat) : Int))))) fun v133 =>
 match v133 with
 | (x131, x132) => (spec_without_L1 x1 i2 n x131 x132 (w64 (i96 + 1)))
)
 (some x94)

theorem spec_without_L1_ok (w : World) (X : Nat → Prop) (θ : List Loc) (x1 : List Nod) (i2 : Int) (x116 : (List Nod)) : ∀ (n : Nat) (x94 : List Nod) (x95 : List Int) (i96 : Int), spec_without_L1 x1 i2 n x94 x95 i96 = some x116 → WL EE ⟨w, X, θ, 45, 1⟩ (subC [1, 1, 1, 0, 1, 4, 4] (bodyC Try.f63)) (fun (e : Exit) (s : St) => e = .exit 0 ∧ s = ⟨[(5, .one (.e (.sl 1 0 x116.length)))], [.row .nod x1 false, .row .nod x116 true]⟩) ⟨[(0, .one (.e (.sl 0 0 x1.length))), (1, I i2), (5, .one (.e (.sl 1 0 x94.length))), (6, .one (.e (.sl 2 0 x95.length))), (7, I i96)], [.row .nod x1 false, .row .nod x94 true, .row .int x95 true]⟩ := by
  intro n
  induction n with
  | zero => intro _ _ _ h; exact none_e h
  | succ n ih =>
    intro x94 x95 i96 h
    rw [spec_without_L1] at h
    refine WL_round ?_
    refine W_seq ?_
    refine W_seq ?_
    refine W_region ?_
    refine WO_step 4 [0, 1, 2] [0, 1, 5, 6, 7, 16] (True ∧ (True ∧ True)) ⟨[(0, .one (.e (.sl 0 0 x1.length))), (1, I i2), (5, .one (.e (.sl 1 0 x94.length))), (6, .one (.e (.sl 2 0 x95.length))), (7, I i96), (16, B (decide (i96 < ((x1.length : Nat) : Int))))], [.row .nod x1 false, .row .nod x94 true, .row .int x95 true]⟩ (by kernel_rfl) ⟨trivial, trivial, trivial⟩ ?_
    refine WO_nil rfl ?_
    refine thenS_n ?_
    refine iteO_e h (fun hb119 h => W_true rfl hb119 ?_) (fun hb119 h => W_false rfl hb119 ?_)
    · refine W_sub [0, 1, 2] [0, 1, 5, 6, 7] (st' := ⟨[(0, .one (.e (.sl 0 0 x1.length))), (1, I i2), (5, .one (.e (.sl 1 0 x94.length))), (6, .one (.e (.sl 2 0 x95.length))), (7, I i96)], [.row .nod x1 false, .row .nod x94 true, .row .int x95 true]⟩) (by kernel_rfl) ?_
      refine W_skip ?_
      refine thenS_n ?_
      refine W_seq ?_
      refine bindO_e h (fun v133 hv133 h => ?_)
      refine W_cut (Q' := fun (e : Exit) (s : St) => (match v133 with | (x131, x132) => e = .normal ∧ s = ⟨[(0, .one (.e (.sl 0 0 x1.length))), (1, I i2), (5, .one (.e (.sl 1 0 x131.length))), (6, .one (.e (.sl 2 0 x132.length))), (7, I i96)], [.row .nod x1 false, .row .nod x131 true, .row .int x132 true]⟩ : Prop)) ?_ ?_
      · refine W_block ?_
        refine W_seq ?_
        refine W_seq ?_
        refine W_region ?_
        refine WO_step 3 [0, 1, 2] [0, 1, 5, 6, 7, 19, 20, 21] True ⟨[(0, .one (.e (.sl 0 0 x1.length))), (1, I i2), (5, .one (.e (.sl 1 0 x94.length))), (6, .one (.e (.sl 2 0 x95.length))), (7, I i96), (19, .one (.e (.sl 0 0 x1.length))), (20, I i2), (21, I i96)], [.row .nod x1 false, .row .nod x94 true, .row .int x95 true]⟩ (by kernel_rfl) trivial ?_
        refine bindO_e hv133 (fun b134 hc135 hv133 => ?_)
        refine WO_call [.ro 0] Try.f68 rfl rfl rfl (by kernel_rfl) Try.func68 rfl (by kernel_rfl) (spec_above_ok n x1 i2 i96 b134 hc135) (And.intro (And.intro rfl rfl) (trivial)) rfl ?_
        refine WO_sub [0, 1, 2] [0, 1, 5, 6, 7, 22] (st' := ⟨[(0, .one (.e (.sl 0 0 x1.length))), (1, I i2), (5, .one (.e (.sl 1 0 x94.length))), (6, .one (.e (.sl 2 0 x95.length))), (7, I i96), (22, B b134)], [.row .nod x1 false, .row .nod x94 true, .row .int x95 true]⟩) (by kernel_rfl) ?_
        refine WO_nil rfl ?_
        refine thenS_n ?_
        refine iteO_e hv133 (fun hb137 hv133 => W_true rfl hb137 ?_) (fun hb137 hv133 => W_false rfl hb137 ?_)
        · refine W_sub [0, 1, 2] [0, 1, 5, 6, 7] (st' := ⟨[(0, .one (.e (.sl 0 0 x1.length))), (1, I i2), (5, .one (.e (.sl 1 0 x94.length))), (6, .one (.e (.sl 2 0 x95.length))), (7, I i96)], [.row .nod x1 false, .row .nod x94 true, .row .int x95 true]⟩) (by kernel_rfl) ?_
          refine W_exit ?_
          refine thenS_e ?_
          refine blockS_y ?_
          cases hv133
          exact And.intro rfl rfl
        · refine W_sub [0, 1, 2] [0, 1, 5, 6, 7] (st' := ⟨[(0, .one (.e (.sl 0 0 x1.length))), (1, I i2), (5, .one (.e (.sl 1 0 x94.length))), (6, .one (.e (.sl 2 0 x95.length))), (7, I i96)], [.row .nod x1 false, .row .nod x94 true, .row .int x95 true]⟩) (by kernel_rfl) ?_
          refine W_skip ?_
          refine thenS_n ?_
          refine W_seq ?_
          refine W_region ?_
          refine guardO_e hv133 (fun hg138 hv133 => ?_)
          refine WO_step 6 [0, 1, 2, 3] [0, 1, 5, 6, 7, 8] ((0 ≤ i96 ∧ i96 < ((x1.length : Nat) : Int)) ∧ (True ∧ (True ∧ (True ∧ True)))) ⟨[(0, .one (.e (.sl 0 0 x1.length))), (1, I i2), (5, .one (.e (.sl 1 0 x94.length))), (6, .one (.e (.sl 2 0 x95.length))), (7, I i96), (8, .one (.e (.p 3 0)))], [.row .nod x1 false, .row .nod x94 true, .row .int x95 true, .cells [cI ((x1.getD i96.toNat dnod).parent), cS ((x1.getD i96.toNat dnod).name), cI ((x1.getD i96.toNat dnod).value)]]⟩ (by kernel_rfl) ⟨hg138, trivial, trivial, trivial, trivial⟩ ?_
          refine WO_nil rfl ?_
          refine thenS_n ?_
          refine W_seq ?_
          refine W_seq ?_
          refine W_region ?_
          refine WO_step 2 [0, 1, 2, 3] [0, 1, 5, 6, 7, 8, 28] (True ∧ True) ⟨[(0, .one (.e (.sl 0 0 x1.length))), (1, I i2), (5, .one (.e (.sl 1 0 x94.length))), (6, .one (.e (.sl 2 0 x95.length))), (7, I i96), (8, .one (.e (.p 3 0))), (28, B (decide (0 < i96)))], [.row .nod x1 false, .row .nod x94 true, .row .int x95 true, .cells [cI ((x1.getD i96.toNat dnod).parent), cS ((x1.getD i96.toNat dnod).name), cI ((x1.getD i96.toNat dnod).value)]]⟩ (by kernel_rfl) ⟨trivial, trivial⟩ ?_
          refine WO_nil rfl ?_
          refine thenS_n ?_
          refine bindO_e hv133 (fun i141 hi141 hv133 => ?_)
          refine W_cut (Q' := fun (e : Exit) (s : St) => e = .normal ∧ s = ⟨[(0, .one (.e (.sl 0 0 x1.length))), (1, I i2), (5, .one (.e (.sl 1 0 x94.length))), (6, .one (.e (.sl 2 0 x95.length))), (7, I i96), (8, .one (.e (.p 3 0)))], [.row .nod x1 false, .row .nod x94 true, .row .int x95 true, .cells [cI i141, cS ((x1.getD i96.toNat dnod).name), cI ((x1.getD i96.toNat dnod).value)]]⟩) ?_ ?_
          · refine iteO_e hi141 (fun hb143 hi141 => W_true rfl hb143 ?_) (fun hb143 hi141 => W_false rfl hb143 ?_)
            · refine W_region ?_
              refine guardO_e hi141 (fun hg144 hi141 => ?_)
              refine WO_step 7 [0, 1, 2, 3] [0, 1, 5, 6, 7, 8] (True ∧ ((0 ≤ (x1.getD i96.toNat dnod).parent ∧ (x1.getD i96.toNat dnod).parent < ((x95.length : Nat) : Int)) ∧ (True ∧ (True ∧ True)))) ⟨[(0, .one (.e (.sl 0 0 x1.length))), (1, I i2), (5, .one (.e (.sl 1 0 x94.length))), (6, .one (.e (.sl 2 0 x95.length))), (7, I i96), (8, .one (.e (.p 3 0)))], [.row .nod x1 false, .row .nod x94 true, .row .int x95 true, .cells [cI (x95.getD (((x1.getD i96.toNat dnod).parent).toNat) 0), cS ((x1.getD i96.toNat dnod).name), cI ((x1.getD i96.toNat dnod).value)]]⟩ (by kernel_rfl) ⟨trivial, hg144, trivial, trivial, trivial⟩ ?_
              refine WO_nil rfl ?_
              cases hi141
              exact And.intro rfl rfl
            · refine W_sub [0, 1, 2, 3] [0, 1, 5, 6, 7, 8] (st' := ⟨[(0, .one (.e (.sl 0 0 x1.length))), (1, I i2), (5, .one (.e (.sl 1 0 x94.length))), (6, .one (.e (.sl 2 0 x95.length))), (7, I i96), (8, .one (.e (.p 3 0)))], [.row .nod x1 false, .row .nod x94 true, .row .int x95 true, .cells [cI ((x1.getD i96.toNat dnod).parent), cS ((x1.getD i96.toNat dnod).name), cI ((x1.getD i96.toNat dnod).value)]]⟩) (by kernel_rfl) ?_
              refine W_skip ?_
              cases hi141
              exact And.intro rfl rfl
          · rintro _ _ ⟨rfl, rfl⟩
            refine thenS_n ?_
            refine W_seq ?_
            refine W_region ?_
            refine guardO_e hv133 (fun hg145 hv133 => ?_)
            refine WO_step 6 [0, 1, 2, 3] [0, 1, 5, 6, 7, 8] (True ∧ ((0 ≤ i96 ∧ i96 < ((x95.length : Nat) : Int)) ∧ (True ∧ True))) ⟨[(0, .one (.e (.sl 0 0 x1.length))), (1, I i2), (5, .one (.e (.sl 1 0 x94.length))), (6, .one (.e (.sl 2 0 x95.length))), (7, I i96), (8, .one (.e (.p 3 0)))], [.row .nod x1 false, .row .nod x94 true, .row .int (x95.set i96.toNat ((x94.length : Nat) : Int)) true, .cells [cI i141, cS ((x1.getD i96.toNat dnod).name), cI ((x1.getD i96.toNat dnod).value)]]⟩ (by kernel_rfl) ⟨trivial, hg145, trivial, trivial⟩ ?_
            refine WO_eq (st' := ⟨[(0, .one (.e (.sl 0 0 x1.length))), (1, I i2), (5, .one (.e (.sl 1 0 x94.length))), (6, .one (.e (.sl 2 0 ((x95.set i96.toNat ((x94.length : Nat) : Int)).length)))), (7, I i96), (8, .one (.e (.p 3 0)))], [.row .nod x1 false, .row .nod x94 true, .row .int (x95.set i96.toNat ((x94.length : Nat) : Int)) true, .cells [cI i141, cS ((x1.getD i96.toNat dnod).name), cI ((x1.getD i96.toNat dnod).value)]]⟩) (by simp only [List.length_set]) ?_
            refine WO_nil rfl ?_
            refine thenS_n ?_
            refine W_region ?_
            refine guardO_e hv133 (fun hg146 hv133 => ?_)
            refine WO_step 5 [0, 5, 2] [0, 1, 5, 6, 7] (True ∧ ((0 = 0 ∧ x94.length = x94.length ∧ x94.length + (([(⟨i141, (x1.getD i96.toNat dnod).name, (x1.getD i96.toNat dnod).value⟩ : Nod)].drop 0).take ([(⟨i141, (x1.getD i96.toNat dnod).name, (x1.getD i96.toNat dnod).value⟩ : Nod)].length)).length ≤ 1099511627776) ∧ True)) ⟨[(0, .one (.e (.sl 0 0 x1.length))), (1, I i2), (5, .one (.e (.sl 1 0 ((x94 ++ (([(⟨i141, (x1.getD i96.toNat dnod).name, (x1.getD i96.toNat dnod).value⟩ : Nod)].drop 0).take ([(⟨i141, (x1.getD i96.toNat dnod).name, (x1.getD i96.toNat dnod).value⟩ : Nod)].length))).length)))), (6, .one (.e (.sl 2 0 ((x95.set i96.toNat ((x94.length : Nat) : Int)).length)))), (7, I i96)], [.row .nod x1 false, .row .nod (x94 ++ (([(⟨i141, (x1.getD i96.toNat dnod).name, (x1.getD i96.toNat dnod).value⟩ : Nod)].drop 0).take ([(⟨i141, (x1.getD i96.toNat dnod).name, (x1.getD i96.toNat dnod).value⟩ : Nod)].length))) true, .row .int (x95.set i96.toNat ((x94.length : Nat) : Int)) true]⟩ (by kernel_rfl) ⟨trivial, hg146, trivial⟩ ?_
            refine WO_nil rfl ?_
            refine blockS_n ?_
            cases hv133
            exact And.intro rfl rfl
      · obtain ⟨x131, x132⟩ := v133
        rintro _ _ ⟨rfl, rfl⟩
        refine thenS_n ?_
        refine W_region ?_
        refine WO_step 3 [0, 1, 2] [0, 1, 5, 6, 7] (True ∧ True) ⟨[(0, .one (.e (.sl 0 0 x1.length))), (1, I i2), (5, .one (.e (.sl 1 0 x131.length))), (6, .one (.e (.sl 2 0 x132.length))), (7, I (w64 (i96 + 1)))], [.row .nod x1 false, .row .nod x131 true, .row .int x132 true]⟩ (by kernel_rfl) ⟨trivial, trivial⟩ ?_
        refine WO_nil rfl ?_
        refine thenS_n ?_
        exact ih _ _ _ h
    · refine W_sub [0, 1] [5] (st' := ⟨[(5, .one (.e (.sl 1 0 x94.length)))], [.row .nod x1 false, .row .nod x94 true]⟩) (by kernel_rfl) ?_
      refine W_exit ?_
      refine thenS_e ?_
      refine thenS_e ?_
      cases h
      exact And.intro rfl rfl

def spec_without (n : Nat) (x1 : List Nod) (i2 : Int) : Option ((List Nod)) :=
 guardO ((((x1.length : Nat) : Int) : Int) = ((x1.length : Nat) : Int) ∧ 0 ≤ ((x1.length : Nat) : Int) ∧ ((x1.length : Nat) : Int) ≤ 1099511627776) <|
 bindO (spec_without_L1 x1 i2 n ([] : List Nod) (List.replicate (((x1.length : Nat) : Int).toNat) (0 : Int)) 0) fun x116 =>
 some x116

theorem spec_without_ok (n : Nat) (x1 : List Nod) (i2 : Int) (x68 : List Nod) (h : spec_without n x1 i2 = some x68) : FOk EE 63 [.one (.e (.sl 0 0 x1.length)), I i2] [.row .nod x1 false] (.one (.e (.sl 1 0 x68.length))) [.row .nod x1 false, .row .nod x68 true] := by
  unfold spec_without at h
  refine FOk_of_W 45 1 Try.func63 rfl rfl (Nat.le_of_ble_eq_true rfl) rfl (fun w X θ => ?_)
  refine W_seq ?_
  refine W_region ?_
  refine WO_step 1 [0] [0, 1] True ⟨[(0, .one (.e (.sl 0 0 x1.length))), (1, I i2)], [.row .nod x1 false]⟩ (by kernel_rfl) trivial ?_
  refine WO_nil rfl ?_
  refine thenS_n ?_
  refine W_seq ?_
  refine W_region ?_
  refine WO_step 2 [0, 1] [0, 1, 5] True ⟨[(0, .one (.e (.sl 0 0 x1.length))), (1, I i2), (5, .one (.e (.sl 1 0 (([] : List Nod).length))))], [.row .nod x1 false, .row .nod ([] : List Nod) true]⟩ (by kernel_rfl) trivial ?_
  refine WO_nil rfl ?_
  refine thenS_n ?_
  refine W_seq ?_
  refine W_region ?_
  refine guardO_e h (fun hg69 h => ?_)
  refine WO_step 4 [0, 1, 2] [0, 1, 5, 6] (True ∧ (((((x1.length : Nat) : Int) : Int) = ((x1.length : Nat) : Int) ∧ 0 ≤ ((x1.length : Nat) : Int) ∧ ((x1.length : Nat) : Int) ≤ 1099511627776) ∧ True)) ⟨[(0, .one (.e (.sl 0 0 x1.length))), (1, I i2), (5, .one (.e (.sl 1 0 (([] : List Nod).length)))), (6, .one (.e (.sl 2 0 ((List.replicate (((x1.length : Nat) : Int).toNat) (0 : Int)).length))))], [.row .nod x1 false, .row .nod ([] : List Nod) true, .row .int (List.replicate (((x1.length : Nat) : Int).toNat) (0 : Int)) true]⟩ (by kernel_rfl) ⟨trivial, hg69, trivial⟩ ?_
  refine WO_nil rfl ?_
  refine thenS_n ?_
  refine W_seq ?_
  refine W_seq ?_
  refine W_region ?_
  refine WO_step 1 [0, 1, 2] [0, 1, 5, 6, 7] True ⟨[(0, .one (.e (.sl 0 0 x1.length))), (1, I i2), (5, .one (.e (.sl 1 0 (([] : List Nod).length)))), (6, .one (.e (.sl 2 0 ((List.replicate (((x1.length : Nat) : Int).toNat) (0 : Int)).length)))), (7, I 0)], [.row .nod x1 false, .row .nod ([] : List Nod) true, .row .int (List.replicate (((x1.length : Nat) : Int).toNat) (0 : Int)) true]⟩ (by kernel_rfl) trivial ?_
  refine WO_nil rfl ?_
  refine thenS_n ?_
  refine W_block ?_
  refine W_loop ?_
  refine bindO_e h (fun x116 hx116 h => ?_)
  refine WL_cut (spec_without_L1_ok w X θ x1 i2 x116 n ([] : List Nod) (List.replicate (((x1.length : Nat) : Int).toNat) (0 : Int)) 0 hx116) ?_
  rintro _ _ ⟨rfl, rfl⟩
  refine blockS_y ?_
  refine thenS_n ?_
  refine W_seq ?_
  refine W_region ?_
  refine WO_step 2 [0, 1] [4] True ⟨[(4, .one (.e (.sl 1 0 x116.length)))], [.row .nod x1 false, .row .nod x116 true]⟩ (by kernel_rfl) trivial ?_
  refine WO_nil rfl ?_
  refine thenS_n ?_
  refine W_ret ?_
  cases h
  exact ⟨[0, 1], True, by kernel_rfl, trivial⟩

/- spec.DropNode -/
def spec_DropNode (n : Nat) (x1 : List Nod) (i2 : Int) : Option ((List Nod) × Bool) :=
 bindO (spec_validTree n x1) fun b14 =>
 iteO ((!b14) || (!(spec_inRange i2 1 (w64 (((x1.length : Nat) : Int) - 1)))))
 (some (([] : List Nod), false))
 (bindO (spec_without n x1 i2) fun x21 =>
 some (x21, true))

theorem spec_DropNode_ok (n : Nat) (x1 : List Nod) (i2 : Int) (x12 : List Nod) (b13 : Bool) (h : spec_DropNode n x1 i2 = some (x12, b13)) : FOk EE 57 [.one (.e (.sl 0 0 x1.length)), I i2] [.row .nod x1 false] (.tup [.e (.sl 1 0 x12.length), .e (cB b13)]) [.row .nod x1 false, .row .nod x12 true] := by
  unfold spec_DropNode at h
  refine FOk_of_W 20 1 Try.func57 rfl rfl (Nat.le_of_ble_eq_true rfl) rfl (fun w X θ => ?_)
  refine W_seq ?_
  refine W_region ?_
  refine WO_step 2 [0] [0, 1] True ⟨[(0, .one (.e (.sl 0 0 x1.length))), (1, I i2)], [.row .nod x1 false]⟩ (by kernel_rfl) trivial ?_
  refine WO_nil rfl ?_
  refine thenS_n ?_
  refine W_seq ?_
  refine W_seq ?_
  refine W_region ?_
  refine WO_step 1 [0] [0, 1, 6] True ⟨[(0, .one (.e (.sl 0 0 x1.length))), (1, I i2), (6, .one (.e (.sl 0 0 x1.length)))], [.row .nod x1 false]⟩ (by kernel_rfl) trivial ?_
  refine bindO_e h (fun b14 hc15 h => ?_)
  refine WO_call [.ro 0] Try.f17 rfl rfl rfl (by kernel_rfl) Try.func17 rfl (by kernel_rfl) (spec_validTree_ok n x1 b14 hc15) (And.intro (And.intro rfl rfl) (trivial)) rfl ?_
  refine WO_step 2 [0] [0, 1, 9] True ⟨[(0, .one (.e (.sl 0 0 x1.length))), (1, I i2), (9, B (!b14))], [.row .nod x1 false]⟩ (by kernel_rfl) trivial ?_
  refine WO_thru ⟨[(0, .one (.e (.sl 0 0 x1.length))), (1, I i2), (16, B ((!b14) || (!(spec_inRange i2 1 (w64 (((x1.length : Nat) : Int) - 1))))))], [.row .nod x1 false]⟩ ?_ ?_
  · refine WO_if 9 rfl (fun hb18 => ?_) (fun hb18 => ?_)
    · refine WO_step 7 [0] [0, 1, 16] True ⟨[(0, .one (.e (.sl 0 0 x1.length))), (1, I i2), (16, B true)], [.row .nod x1 false]⟩ (by kernel_rfl) trivial ?_
      exact WO_nil rfl ⟨rfl, by first | rfl | (rw [hb18]; first | done | rfl)⟩
    · refine WO_step 4 [0] [0, 1, 9, 10, 13] (True ∧ (True ∧ True)) ⟨[(0, .one (.e (.sl 0 0 x1.length))), (1, I i2), (9, B false), (10, I i2), (13, I (w64 (((x1.length : Nat) : Int) - 1)))], [.row .nod x1 false]⟩ (by kernel_rfl) ⟨trivial, trivial, trivial⟩ ?_
      refine WO_call [] Try.f36 rfl rfl rfl (by kernel_rfl) Try.func36 rfl (by kernel_rfl) (spec_inRange_ok i2 1 (w64 (((x1.length : Nat) : Int) - 1))) (trivial) rfl ?_
      refine WO_step 2 [0] [0, 1, 16] True ⟨[(0, .one (.e (.sl 0 0 x1.length))), (1, I i2), (16, B (!(spec_inRange i2 1 (w64 (((x1.length : Nat) : Int) - 1)))))], [.row .nod x1 false]⟩ (by kernel_rfl) trivial ?_
      exact WO_nil rfl ⟨rfl, by first | rfl | (rw [hb18]; first | done | rfl)⟩
  · refine thenS_n ?_
    refine iteO_e h (fun hb20 h => W_true rfl hb20 ?_) (fun hb20 h => W_false rfl hb20 ?_)
    · refine W_seq ?_
      refine W_region ?_
      refine WO_step 2 [0] [4, 5] True ⟨[(4, .one (.e (.nsl))), (5, B false)], [.row .nod x1 false]⟩ (by kernel_rfl) trivial ?_
      refine WO_nilrow 4 .nod rfl ?_
      refine WO_sub [0, 1] [4, 5] (st' := ⟨[(4, .one (.e (.sl 1 0 (([] : List Nod).length)))), (5, B false)], [.row .nod x1 false, .row .nod ([] : List Nod) true]⟩) (by kernel_rfl) ?_
      refine WO_nil rfl ?_
      refine thenS_n ?_
      refine W_ret ?_
      refine thenS_r ?_
      cases h
      exact ⟨[0, 1], True, by kernel_rfl, trivial⟩
    · refine W_sub [0] [0, 1] (st' := ⟨[(0, .one (.e (.sl 0 0 x1.length))), (1, I i2)], [.row .nod x1 false]⟩) (by kernel_rfl) ?_
      refine W_skip ?_
      refine thenS_n ?_
      refine W_seq ?_
      refine W_region ?_
      refine WO_step 2 [0] [17, 18] True ⟨[(17, .one (.e (.sl 0 0 x1.length))), (18, I i2)], [.row .nod x1 false]⟩ (by kernel_rfl) trivial ?_
      refine bindO_e h (fun x21 hc22 h => ?_)
      refine WO_call [.ro 0] Try.f63 rfl rfl rfl (by kernel_rfl) Try.func63 rfl (by kernel_rfl) (spec_without_ok n x1 i2 x21 hc22) (And.intro (And.intro rfl rfl) (trivial)) rfl ?_
      refine WO_step 2 [0, 1] [4, 5] True ⟨[(4, .one (.e (.sl 1 0 x21.length))), (5, B true)], [.row .nod x1 false, .row .nod x21 true]⟩ (by kernel_rfl) trivial ?_
      refine WO_nil rfl ?_
      refine thenS_n ?_
      refine W_ret ?_
      cases h
      exact ⟨[0, 1], True, by kernel_rfl, trivial⟩

/- spec.SetValue -/
def spec_SetValue (n : Nat) (x1 : List Nod) (i2 : Int) (i3 : Int) : Option ((List Nod) × Bool) :=
 bindO (spec_validTree n x1) fun b17 =>
 iteO ((!b17) || ((!(spec_inRange i2 0 (w64 (((x1.length : Nat) : Int) - 1)))) || (!(spec_inRange i3 (-1000) 1000))))
 (some (([] : List Nod), false))
 (guardO (0 = 0 ∧ ([] : List Nod).length = ([] : List Nod).length ∧ ([] : List Nod).length + ((x1.drop 0).take x1.length).length ≤ 1099511627776) <|
 guardO (0 ≤ i2 ∧ i2 < (((([] : List Nod) ++ ((x1.drop 0).take x1.length)).length : Nat) : Int)) <|
 some (((([] : List Nod) ++ ((x1.drop 0).take x1.length)).set i2.toNat (⟨((([] : List Nod) ++ ((x1.drop 0).take x1.length)).getD i2.toNat dnod).parent, ((([] : List Nod) ++ ((x1.drop 0).take x1.length)).getD i2.toNat dnod).name, i3⟩ : Nod)), true))

theorem spec_SetValue_ok (n : Nat) (x1 : List Nod) (i2 : Int) (i3 : Int) (x15 : List Nod) (b16 : Bool) (h : spec_SetValue n x1 i2 i3 = some (x15, b16)) : FOk EE 58 [.one (.e (.sl 0 0 x1.length)), I i2, I i3] [.row .nod x1 false] (.tup [.e (.sl 1 0 x15.length), .e (cB b16)]) [.row .nod x1 false, .row .nod x15 true] := by
  unfold spec_SetValue at h
  refine FOk_of_W 34 1 Try.func58 rfl rfl (Nat.le_of_ble_eq_true rfl) rfl (fun w X θ => ?_)
  refine W_seq ?_
  refine W_region ?_
  refine WO_step 2 [0] [0, 1, 2] True ⟨[(0, .one (.e (.sl 0 0 x1.length))), (1, I i2), (2, I i3)], [.row .nod x1 false]⟩ (by kernel_rfl) trivial ?_
  refine WO_nil rfl ?_
  refine thenS_n ?_
  refine W_seq ?_
  refine W_seq ?_
  refine W_region ?_
  refine WO_step 1 [0] [0, 1, 2, 9] True ⟨[(0, .one (.e (.sl 0 0 x1.length))), (1, I i2), (2, I i3), (9, .one (.e (.sl 0 0 x1.length)))], [.row .nod x1 false]⟩ (by kernel_rfl) trivial ?_
  refine bindO_e h (fun b17 hc18 h => ?_)
  refine WO_call [.ro 0] Try.f17 rfl rfl rfl (by kernel_rfl) Try.func17 rfl (by kernel_rfl) (spec_validTree_ok n x1 b17 hc18) (And.intro (And.intro rfl rfl) (trivial)) rfl ?_
  refine WO_step 2 [0] [0, 1, 2, 12] True ⟨[(0, .one (.e (.sl 0 0 x1.length))), (1, I i2), (2, I i3), (12, B (!b17))], [.row .nod x1 false]⟩ (by kernel_rfl) trivial ?_
  refine WO_thru ⟨[(0, .one (.e (.sl 0 0 x1.length))), (1, I i2), (2, I i3), (24, B ((!b17) || ((!(spec_inRange i2 0 (w64 (((x1.length : Nat) : Int) - 1)))) || (!(spec_inRange i3 (-1000) 1000)))))], [.row .nod x1 false]⟩ ?_ ?_
  · refine WO_if 12 rfl (fun hb22 => ?_) (fun hb22 => ?_)
    · refine WO_step 12 [0] [0, 1, 2, 24] True ⟨[(0, .one (.e (.sl 0 0 x1.length))), (1, I i2), (2, I i3), (24, B true)], [.row .nod x1 false]⟩ (by kernel_rfl) trivial ?_
      exact WO_nil rfl ⟨rfl, by first | rfl | (rw [hb22]; first | done | rfl)⟩
    · refine WO_step 4 [0] [0, 1, 2, 12, 13, 16] (True ∧ (True ∧ True)) ⟨[(0, .one (.e (.sl 0 0 x1.length))), (1, I i2), (2, I i3), (12, B false), (13, I i2), (16, I (w64 (((x1.length : Nat) : Int) - 1)))], [.row .nod x1 false]⟩ (by kernel_rfl) ⟨trivial, trivial, trivial⟩ ?_
      refine WO_call [] Try.f36 rfl rfl rfl (by kernel_rfl) Try.func36 rfl (by kernel_rfl) (spec_inRange_ok i2 0 (w64 (((x1.length : Nat) : Int) - 1))) (trivial) rfl ?_
      refine WO_step 3 [0] [0, 1, 2, 20] True ⟨[(0, .one (.e (.sl 0 0 x1.length))), (1, I i2), (2, I i3), (20, B (!(spec_inRange i2 0 (w64 (((x1.length : Nat) : Int) - 1)))))], [.row .nod x1 false]⟩ (by kernel_rfl) trivial ?_
      refine WO_if 20 rfl (fun hb23 => ?_) (fun hb23 => ?_)
      · refine WO_step 4 [0] [0, 1, 2, 24] True ⟨[(0, .one (.e (.sl 0 0 x1.length))), (1, I i2), (2, I i3), (24, B true)], [.row .nod x1 false]⟩ (by kernel_rfl) trivial ?_
        exact WO_nil rfl ⟨rfl, by first | rfl | (simp only [hb22, hb23]; first | done | rfl)⟩
      · refine WO_step 1 [0] [0, 1, 2, 20, 21] True ⟨[(0, .one (.e (.sl 0 0 x1.length))), (1, I i2), (2, I i3), (20, B false), (21, I i3)], [.row .nod x1 false]⟩ (by kernel_rfl) trivial ?_
        refine WO_call [] Try.f36 rfl rfl rfl (by kernel_rfl) Try.func36 rfl (by kernel_rfl) (spec_inRange_ok i3 (-1000) 1000) (trivial) rfl ?_
        refine WO_step 2 [0] [0, 1, 2, 24] True ⟨[(0, .one (.e (.sl 0 0 x1.length))), (1, I i2), (2, I i3), (24, B (!(spec_inRange i3 (-1000) 1000)))], [.row .nod x1 false]⟩ (by kernel_rfl) trivial ?_
        exact WO_nil rfl ⟨rfl, by first | rfl | (simp only [hb22, hb23]; first | done | rfl)⟩
  · refine thenS_n ?_
    refine iteO_e h (fun hb25 h => W_true rfl hb25 ?_) (fun hb25 h => W_false rfl hb25 ?_)
    · refine W_seq ?_
      refine W_region ?_
      refine WO_step 2 [0] [6, 7] True ⟨[(6, .one (.e (.nsl))), (7, B false)], [.row .nod x1 false]⟩ (by kernel_rfl) trivial ?_
      refine WO_nilrow 6 .nod rfl ?_
      refine WO_sub [0, 1] [6, 7] (st' := ⟨[(6, .one (.e (.sl 1 0 (([] : List Nod).length)))), (7, B false)], [.row .nod x1 false, .row .nod ([] : List Nod) true]⟩) (by kernel_rfl) ?_
      refine WO_nil rfl ?_
      refine thenS_n ?_
      refine W_ret ?_
      refine thenS_r ?_
      cases h
      exact ⟨[0, 1], True, by kernel_rfl, trivial⟩
    · refine W_sub [0] [0, 1, 2] (st' := ⟨[(0, .one (.e (.sl 0 0 x1.length))), (1, I i2), (2, I i3)], [.row .nod x1 false]⟩) (by kernel_rfl) ?_
      refine W_skip ?_
      refine thenS_n ?_
      refine W_seq ?_
      refine W_region ?_
      refine guardO_e h (fun hg26 h => ?_)
      refine WO_step 4 [0, 2] [1, 2, 8] ((0 = 0 ∧ ([] : List Nod).length = ([] : List Nod).length ∧ ([] : List Nod).length + ((x1.drop 0).take x1.length).length ≤ 1099511627776) ∧ True) ⟨[(1, I i2), (2, I i3), (8, .one (.e (.sl 1 0 ((([] : List Nod) ++ ((x1.drop 0).take x1.length)).length))))], [.row .nod x1 false, .row .nod (([] : List Nod) ++ ((x1.drop 0).take x1.length)) true]⟩ (by kernel_rfl) ⟨hg26, trivial⟩ ?_
      refine WO_nil rfl ?_
      refine thenS_n ?_
      refine W_seq ?_
      refine W_region ?_
      refine guardO_e h (fun hg27 h => ?_)
      refine WO_step 6 [0, 1] [8] ((0 ≤ i2 ∧ i2 < (((([] : List Nod) ++ ((x1.drop 0).take x1.length)).length : Nat) : Int)) ∧ (True ∧ True)) ⟨[(8, .one (.e (.sl 1 0 ((([] : List Nod) ++ ((x1.drop 0).take x1.length)).length))))], [.row .nod x1 false, .row .nod ((([] : List Nod) ++ ((x1.drop 0).take x1.length)).set i2.toNat (⟨((([] : List Nod) ++ ((x1.drop 0).take x1.length)).getD i2.toNat dnod).parent, ((([] : List Nod) ++ ((x1.drop 0).take x1.length)).getD i2.toNat dnod).name, i3⟩ : Nod)) true]⟩ (by kernel_rfl) ⟨hg27, trivial, trivial⟩ ?_
      refine WO_eq (st' := ⟨[(8, .one (.e (.sl 1 0 (((([] : List Nod) ++ ((x1.drop 0).take x1.length)).set i2.toNat (⟨((([] : List Nod) ++ ((x1.drop 0).take x1.length)).getD i2.toNat dnod).parent, ((([] : List Nod) ++ ((x1.drop 0).take x1.length)).getD i2.toNat dnod).name, i3⟩ : Nod)).length))))], [.row .nod x1 false, .row .nod ((([] : List Nod) ++ ((x1.drop 0).take x1.length)).set i2.toNat (⟨((([] : List Nod) ++ ((x1.drop 0).take x1.length)).getD i2.toNat dnod).parent, ((([] : List Nod) ++ ((x1.drop 0).take x1.length)).getD i2.toNat dnod).name, i3⟩ : Nod)) true]⟩) (by simp only [List.length_set]) ?_
      refine WO_nil rfl ?_
      refine thenS_n ?_
      refine W_seq ?_
      refine W_region ?_
      refine WO_step 3 [0, 1] [6, 7] True ⟨[(6, .one (.e (.sl 1 0 (((([] : List Nod) ++ ((x1.drop 0).take x1.length)).set i2.toNat (⟨((([] : List Nod) ++ ((x1.drop 0).take x1.length)).getD i2.toNat dnod).parent, ((([] : List Nod) ++ ((x1.drop 0).take x1.length)).getD i2.toNat dnod).name, i3⟩ : Nod)).length)))), (7, B true)], [.row .nod x1 false, .row .nod ((([] : List Nod) ++ ((x1.drop 0).take x1.length)).set i2.toNat (⟨((([] : List Nod) ++ ((x1.drop 0).take x1.length)).getD i2.toNat dnod).parent, ((([] : List Nod) ++ ((x1.drop 0).take x1.length)).getD i2.toNat dnod).name, i3⟩ : Nod)) true]⟩ (by kernel_rfl) trivial ?_
      refine WO_nil rfl ?_
      refine thenS_n ?_
      refine W_ret ?_
      cases h
      exact ⟨[0, 1], True, by kernel_rfl, trivial⟩

/- spec.cut -/
def spec_cut_L1 (s1 : Str) : Nat → Int → Option ((Str × Str) ⊕ (Unit))
| 0, _ => none
| n + 1, i86 =>
 iteO (decide (0 < i86))
 (guardO (0 ≤ i86 ∧ i86 < ((s1.length : Nat) : Int)) <|
 iteO (decide (((s1.getD i86.toNat 0).toNat : Int) = 47))
 (guardO (0 ≤ i86 ∧ i86 ≤ ((s1.length : Nat) : Int)) <|
 guardO (0 ≤ (w64 (i86 + 1)) ∧ (w64 (i86 + 1)) ≤ ((s1.length : Nat) : Int)) <|
 some (.inl ((s1.take i86.toNat), (s1.drop ((w64 (i86 + 1)).toNat)))))
 (spec_cut_L1 s1 n (w64 (i86 - 1))))
 (some (.inr ()))

theorem spec_cut_L1_ok (w : World) (X : Nat → Prop) (θ : List Loc) (s1 : Str) (v : (Str × Str) ⊕ (Unit)) : ∀ (n : Nat) (i86 : Int), spec_cut_L1 s1 n i86 = some v → WL EE ⟨w, X, θ, 28, 0⟩ (subC [1, 0, 1, 4, 4] (bodyC Try.f59)) (fun (e : Exit) (s : St) => (match v with | (.inl (s104, s105)) => e = .ret ∧ s = ⟨[(2, S s104), (3, S s105)], []⟩ | (.inr _) => e = .exit 0 ∧ s = ⟨[(0, S s1)], []⟩ : Prop)) ⟨[(0, S s1), (4, I i86)], []⟩ := by
  intro n
  induction n with
  | zero => intro _ h; exact none_e h
  | succ n ih =>
    intro i86 h
    rw [spec_cut_L1] at h
    refine WL_round ?_
    refine W_seq ?_
    refine W_seq ?_
    refine W_region ?_
    refine WO_step 2 [] [0, 4, 9] (True ∧ True) ⟨[(0, S s1), (4, I i86), (9, B (decide (0 < i86)))], []⟩ (by kernel_rfl) ⟨trivial, trivial⟩ ?_
    refine WO_nil rfl ?_
    refine thenS_n ?_
    refine iteO_e h (fun hb108 h => W_true rfl hb108 ?_) (fun hb108 h => W_false rfl hb108 ?_)
    · refine W_sub [] [0, 4] (st' := ⟨[(0, S s1), (4, I i86)], []⟩) (by kernel_rfl) ?_
      refine W_skip ?_
      refine thenS_n ?_
      refine W_seq ?_
      refine W_block ?_
      refine W_seq ?_
      refine W_region ?_
      refine guardO_e h (fun hg116 h => ?_)
      refine WO_step 4 [] [0, 4, 15] ((0 ≤ i86 ∧ i86 < ((s1.length : Nat) : Int)) ∧ (True ∧ True)) ⟨[(0, S s1), (4, I i86), (15, B (decide (((s1.getD i86.toNat 0).toNat : Int) = 47)))], []⟩ (by kernel_rfl) ⟨hg116, trivial, trivial⟩ ?_
      refine WO_nil rfl ?_
      refine thenS_n ?_
      refine iteO_e h (fun hb120 h => W_true rfl hb120 ?_) (fun hb120 h => W_false rfl hb120 ?_)
      · refine W_seq ?_
        refine guardO_e h (fun hg121 h => ?_)
        refine guardO_e h (fun hg122 h => ?_)
        refine W_cut (Q' := fun (e : Exit) (s : St) => e = .normal ∧ s = ⟨[(2, S (s1.take i86.toNat)), (3, S (s1.drop ((w64 (i86 + 1)).toNat)))], []⟩) ?_ ?_
        · refine W_draw [] true (by kernel_rfl) (by kernel_rfl) ?_
          refine WD_takeK [0, 1, 2, 3, 4, 5, 6, 7, 8] [2, 3] [2, 3] (φ := ((0 ≤ i86 ∧ i86 ≤ ((s1.length : Nat) : Int)) ∧ (0 ≤ i86 ∧ i86 ≤ ((s1.length : Nat) : Int)) ∧ (True ∧ True ∧ ((0 ≤ (w64 (i86 + 1)) ∧ (w64 (i86 + 1)) ≤ ((s1.length : Nat) : Int)) ∧ (0 ≤ (w64 (i86 + 1)) ∧ (w64 (i86 + 1)) ≤ ((s1.length : Nat) : Int)) ∧ True)))) (ls' := #[true, true, true, true, true, true, true, true, true]) (Ts' := [(2, S (s1.take i86.toNat)), (3, S (s1.drop ((w64 (i86 + 1)).toNat)))]) (st' := ⟨[(2, S (s1.take i86.toNat)), (3, S (s1.drop ((w64 (i86 + 1)).toNat)))], []⟩) (n2 := 0) (by kernel_rfl) ⟨hg121, hg121, trivial, trivial, hg122, hg122, trivial⟩ rfl ?_
          exact WD_done [] [2, 3] (st' := ⟨[(2, S (s1.take i86.toNat)), (3, S (s1.drop ((w64 (i86 + 1)).toNat)))], []⟩) (by kernel_rfl) (by kernel_rfl) (And.intro rfl rfl)
        · rintro _ _ ⟨rfl, rfl⟩
          refine thenS_n ?_
          refine W_ret ?_
          refine blockS_r ?_
          refine thenS_r ?_
          refine thenS_r ?_
          cases h
          exact And.intro rfl rfl
      · refine W_sub [] [0, 4] (st' := ⟨[(0, S s1), (4, I i86)], []⟩) (by kernel_rfl) ?_
        refine W_skip ?_
        refine blockS_n ?_
        refine thenS_n ?_
        refine W_region ?_
        refine WO_step 3 [] [0, 4] (True ∧ True) ⟨[(0, S s1), (4, I (w64 (i86 - 1)))], []⟩ (by kernel_rfl) ⟨trivial, trivial⟩ ?_
        refine WO_nil rfl ?_
        refine thenS_n ?_
        exact ih _ h
    · refine W_sub [] [0] (st' := ⟨[(0, S s1)], []⟩) (by kernel_rfl) ?_
      refine W_exit ?_
      refine thenS_e ?_
      refine thenS_e ?_
      cases h
      exact And.intro rfl rfl

def spec_cut (n : Nat) (s1 : Str) : Option (Str × Str) :=
 bindO (spec_cut_L1 s1 n (w64 (((s1.length : Nat) : Int) - 1))) fun v123 =>
 match v123 with
 | (.inl (s104, s105)) => (some (s104, s105))
 | (.inr _) => (iteO (decide (((s1.length : Nat) : Int) = 0))
 (some ([], []))
 (guardO (0 ≤ (1 : Int) ∧ (1 : Int) ≤ ((s1.length : Nat) : Int)) <|
 some ([47], (s1.drop 1))))


theorem spec_cut_ok (n : Nat) (s1 : Str) (s63 : Str) (s64 : Str) (h : spec_cut n s1 = some (s63, s64)) : FOk EE 59 [S s1] [] (.tup [.e (cS s63), .e (cS s64)]) [] := by
  unfold spec_cut at h
  refine FOk_of_W 28 0 Try.func59 rfl rfl (Nat.le_of_ble_eq_true rfl) rfl (fun w X θ => ?_)
  refine W_seq ?_
  refine W_region ?_
  refine WO_step 2 [] [0] True ⟨[(0, S s1)], []⟩ (by kernel_rfl) trivial ?_
  refine WO_nil rfl ?_
  refine thenS_n ?_
  refine W_seq ?_
  refine W_seq ?_
  refine W_region ?_
  refine WO_step 4 [] [0, 4] (True ∧ (True ∧ True)) ⟨[(0, S s1), (4, I (w64 (((s1.length : Nat) : Int) - 1)))], []⟩ (by kernel_rfl) ⟨trivial, trivial, trivial⟩ ?_
  refine WO_nil rfl ?_
  refine thenS_n ?_
  refine W_block ?_
  refine W_loop ?_
  refine bindO_e h (fun v123 hv123 h => ?_)
  refine WL_cut (spec_cut_L1_ok w X θ s1 v123 n (w64 (((s1.length : Nat) : Int) - 1)) hv123) ?_
  rcases v123 with ⟨s104, s105⟩ | _
  · rintro _ _ ⟨rfl, rfl⟩
    refine blockS_r ?_
    refine thenS_r ?_
    cases h
    exact ⟨[], True, by kernel_rfl, trivial⟩
  · rintro _ _ ⟨rfl, rfl⟩
    refine blockS_y ?_
    refine thenS_n ?_
    refine W_seq ?_
    refine W_seq ?_
    refine W_region ?_
    refine WO_step 3 [] [0, 25] (True ∧ (True ∧ True)) ⟨[(0, S s1), (25, B (decide (((s1.length : Nat) : Int) = 0)))], []⟩ (by kernel_rfl) ⟨trivial, trivial, trivial⟩ ?_
    refine WO_nil rfl ?_
    refine thenS_n ?_
    refine iteO_e h (fun hb125 h => W_true rfl hb125 ?_) (fun hb125 h => W_false rfl hb125 ?_)
    · refine W_seq ?_
      refine W_region ?_
      refine WO_step 2 [] [2, 3] True ⟨[(2, S []), (3, S [])], []⟩ (by kernel_rfl) trivial ?_
      refine WO_nil rfl ?_
      refine thenS_n ?_
      refine W_ret ?_
      refine thenS_r ?_
      cases h
      exact ⟨[], True, by kernel_rfl, trivial⟩
    · refine W_sub [] [0] (st' := ⟨[(0, S s1)], []⟩) (by kernel_rfl) ?_
      refine W_skip ?_
      refine thenS_n ?_
      refine W_seq ?_
      refine guardO_e h (fun hg126 h => ?_)
      refine W_cut (Q' := fun (e : Exit) (s : St) => e = .normal ∧ s = ⟨[(2, S [47]), (3, S (s1.drop 1))], []⟩) ?_ ?_
      · refine W_draw [] true (by kernel_rfl) (by kernel_rfl) ?_
        refine WD_takeK [0, 1, 2, 3] [2, 3] [2, 3] (φ := ((0 ≤ (1 : Int) ∧ (1 : Int) ≤ ((s1.length : Nat) : Int)) ∧ (0 ≤ (1 : Int) ∧ (1 : Int) ≤ ((s1.length : Nat) : Int)) ∧ True)) (ls' := #[true, true, true, true]) (Ts' := [(2, S [47]), (3, S (s1.drop 1))]) (st' := ⟨[(2, S [47]), (3, S (s1.drop 1))], []⟩) (n2 := 0) (by kernel_rfl) ⟨hg126, hg126, trivial⟩ rfl ?_
        exact WD_done [] [2, 3] (st' := ⟨[(2, S [47]), (3, S (s1.drop 1))], []⟩) (by kernel_rfl) (by kernel_rfl) (And.intro rfl rfl)
      · rintro _ _ ⟨rfl, rfl⟩
        refine thenS_n ?_
        refine W_ret ?_
        cases h
        exact ⟨[], True, by kernel_rfl, trivial⟩

end Go.Proofs.Ytiboohplkihhnaa

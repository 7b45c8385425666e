import Derived.Test.YtiboohplkihhnaaDoorTLt
import Derived.Test.YtiboohplkihhnaaDoorTLxc
import Derived.Shelf.Strings.Builder1
import Derived.Shelf.Strconv.Itoa3
import Derived.Lib.AppendIntMem
import Derived.Lib.LaidTab
import Derived.Test.YtiboohplkihhnaaDoorProg
namespace Go.Proofs.YtiboohplkihhnaaDoor
open Go Go.Shelf Go.Proofs
set_option linter.unusedVariables false
def gtab0 : List Bool := [true, true, true, true, true, true, true, true, true, true, true, false, true, true, true, false, false, false, true, true, false, true, false, false, true, true, false, false, false, false, true, false, false, false, false, false]
def KK (w : World) : Prop := Lib.TabIs Tryd.prog w "internal/strconv.uint64pow10" .u64 Lib.pow10Tab
theorem KK_tab (w : World) (h : KK w) : Lib.TabIs Tryd.prog w "internal/strconv.uint64pow10" .u64 Lib.pow10Tab := h
noncomputable def EE : Env := ⟨Tryd.prog, fun g => match g with | 0 => some ⟨.bool, gtab0⟩ | _ => none, fun t => match t with | 3 => some .int | 5 => some .u8 | 9 => some .str | 43 => some .lck | 45 => some .lck | 63 => some .nod | 65 => some .nod | _ => none, KK⟩
/- spec.newReader -/
def spec_newReader (x1 : List Int) : Option (Nat) :=
 bindO (iteO (decide (2000 < ((x1.length : Nat) : Int)))
 (guardO (0 ≤ (2000 : Int) ∧ (2000 : Int) ≤ ((x1.length : Nat) : Int)) <|
 some 2000)
 (some x1.length)) fun k9 =>
 some k9

theorem spec_newReader_ok (x1 : List Int) (k6 : Nat) (h : spec_newReader x1 = some k6) : FOk EE 31 [.one (.e (.sl 0 0 x1.length))] [.row .u8 x1 false] (.one (.e (.p 1 0))) [.row .u8 x1 false, .cells [.sl 0 0 k6, cI 0]] := by
  unfold spec_newReader at h
  refine FOk_of_W 11 1 Tryd.func31 rfl rfl (Nat.le_of_ble_eq_true rfl) rfl (fun w X θ => ?_)
  refine W_seq ?_
  refine W_region ?_
  refine WO_step 1 [0] [0] True ⟨[(0, .one (.e (.sl 0 0 x1.length)))], [.row .u8 x1 false]⟩ (by kernel_rfl) trivial ?_
  refine WO_nil rfl ?_
  refine thenS_n ?_
  refine W_seq ?_
  refine W_seq ?_
  refine W_region ?_
  refine WO_step 3 [0] [0, 5] (True ∧ (True ∧ True)) ⟨[(0, .one (.e (.sl 0 0 x1.length))), (5, B (decide (2000 < ((x1.length : Nat) : Int))))], [.row .u8 x1 false]⟩ (by kernel_rfl) ⟨trivial, trivial, trivial⟩ ?_
  refine WO_nil rfl ?_
  refine thenS_n ?_
  refine bindO_e h (fun k9 hk9 h => ?_)
  refine W_cut (Q' := fun (e : Exit) (s : St) => e = .normal ∧ s = ⟨[(0, .one (.e (.sl 0 0 k9)))], [.row .u8 x1 false]⟩) ?_ ?_
  · refine iteO_e hk9 (fun hb11 hk9 => W_true rfl hb11 ?_) (fun hb11 hk9 => W_false rfl hb11 ?_)
    · refine W_region ?_
      refine guardO_e hk9 (fun hg12 hk9 => ?_)
      refine WO_step 3 [0] [0] ((0 ≤ (2000 : Int) ∧ (2000 : Int) ≤ ((x1.length : Nat) : Int)) ∧ True) ⟨[(0, .one (.e (.sl 0 0 2000)))], [.row .u8 x1 false]⟩ (by kernel_rfl) ⟨hg12, trivial⟩ ?_
      refine WO_nil rfl ?_
      cases hk9
      exact And.intro rfl rfl
    · refine W_sub [0] [0] (st' := ⟨[(0, .one (.e (.sl 0 0 x1.length)))], [.row .u8 x1 false]⟩) (by kernel_rfl) ?_
      refine W_skip ?_
      cases hk9
      exact And.intro rfl rfl
  · rintro _ _ ⟨rfl, rfl⟩
    refine thenS_n ?_
    refine W_seq ?_
    refine W_region ?_
    refine WO_step 4 [0, 1] [2] (True ∧ True) ⟨[(2, .one (.e (.p 1 0)))], [.row .u8 x1 false, .cells [.sl 0 0 k9, cI 0]]⟩ (by kernel_rfl) ⟨trivial, trivial⟩ ?_
    refine WO_nil rfl ?_
    refine thenS_n ?_
    refine W_ret ?_
    cases h
    exact ⟨[0, 1], True, by kernel_rfl, trivial⟩

/- spec.reader).pick -/
def spec_reader_pick (x1 : List Int) (k2 : Nat) (i3 : Int) (i4 : Int) : Option (Int) :=
 iteO ((decide (i4 < 1)) || (decide (((k2 : Nat) : Int) = 0)))
 (some 0)
 (iteO (decide ((w64 ((w64 (i3 + 1)) - 1)) < ((k2 : Nat) : Int)))
 (guardO (0 ≤ (w64 ((w64 (i3 + 1)) - 1)) ∧ (w64 ((w64 (i3 + 1)) - 1)) < ((k2 : Nat) : Int)) <|
 guardO ((i4 : Int) ≠ 0) <|
 some ((w64 (x1.getD ((w64 ((w64 (i3 + 1)) - 1)).toNat) 0)).tmod i4))
 (guardO ((((k2 : Nat) : Int) : Int) ≠ 0) <|
 guardO (0 ≤ ((w64 ((w64 (i3 + 1)) - 1)).tmod ((k2 : Nat) : Int)) ∧ ((w64 ((w64 (i3 + 1)) - 1)).tmod ((k2 : Nat) : Int)) < ((k2 : Nat) : Int)) <|
 guardO ((((k2 : Nat) : Int) : Int) ≠ 0) <|
 guardO (0 ≤ ((w64 ((w64 ((w64 ((w64 (i3 + 1)) - 1)) * 7)) + 3)).tmod ((k2 : Nat) : Int)) ∧ ((w64 ((w64 ((w64 ((w64 (i3 + 1)) - 1)) * 7)) + 3)).tmod ((k2 : Nat) : Int)) < ((k2 : Nat) : Int)) <|
 guardO ((((k2 : Nat) : Int) : Int) ≠ 0) <|
 guardO ((i4 : Int) ≠ 0) <|
 some ((w64 (BitVec.ofInt 64 (w64 ((w64 ((w64 ((w64 ((w64 (x1.getD (((w64 ((w64 (i3 + 1)) - 1)).tmod ((k2 : Nat) : Int)).toNat) 0)) * 131)) + (w64 ((w64 (x1.getD (((w64 ((w64 ((w64 ((w64 (i3 + 1)) - 1)) * 7)) + 3)).tmod ((k2 : Nat) : Int)).toNat) 0)) * 1117)))) + (w64 ((w64 ((w64 (i3 + 1)) - 1)) * 29)))) + (w64 ((w64 ((w64 ((w64 (i3 + 1)) - 1)).tdiv ((k2 : Nat) : Int))) * 53)))) ^^^ BitVec.ofInt 64 (w64 ((w64 ((w64 ((w64 ((w64 ((w64 (x1.getD (((w64 ((w64 (i3 + 1)) - 1)).tmod ((k2 : Nat) : Int)).toNat) 0)) * 131)) + (w64 ((w64 (x1.getD (((w64 ((w64 ((w64 ((w64 (i3 + 1)) - 1)) * 7)) + 3)).tmod ((k2 : Nat) : Int)).toNat) 0)) * 1117)))) + (w64 ((w64 ((w64 (i3 + 1)) - 1)) * 29)))) + (w64 ((w64 ((w64 ((w64 (i3 + 1)) - 1)).tdiv ((k2 : Nat) : Int))) * 53)))).tdiv 64))).toNat).tmod i4)))

theorem spec_reader_pick_ok (x1 : List Int) (k2 : Nat) (i3 : Int) (i4 : Int) (i22 : Int) (h : spec_reader_pick x1 k2 i3 i4 = some i22) : FOk EE 47 [.one (.e (.p 0 0)), I i4] [.cells [.sl 1 0 k2, cI i3], .row .u8 x1 false] (I i22) [.cells [.sl 1 0 k2, cI (w64 (i3 + 1))], .row .u8 x1 false] := by
  unfold spec_reader_pick at h
  refine FOk_of_W 99 2 Tryd.func47 rfl rfl (Nat.le_of_ble_eq_true rfl) rfl (fun w X θ => ?_)
  refine W_seq ?_
  refine W_region ?_
  refine WO_step 1 [0, 1] [0, 1] True ⟨[(0, .one (.e (.p 0 0))), (1, I i4)], [.cells [.sl 1 0 k2, cI i3], .row .u8 x1 false]⟩ (by kernel_rfl) trivial ?_
  refine WO_nil rfl ?_
  refine thenS_n ?_
  refine W_seq ?_
  refine W_region ?_
  refine WO_step 9 [0, 1] [0, 1] (True ∧ (True ∧ (True ∧ True))) ⟨[(0, .one (.e (.p 0 0))), (1, I i4)], [.cells [.sl 1 0 k2, cI (w64 (i3 + 1))], .row .u8 x1 false]⟩ (by kernel_rfl) ⟨trivial, trivial, trivial, trivial⟩ ?_
  refine WO_nil rfl ?_
  refine thenS_n ?_
  refine W_seq ?_
  refine W_seq ?_
  refine W_region ?_
  refine WO_step 3 [0, 1] [0, 1, 17] (True ∧ True) ⟨[(0, .one (.e (.p 0 0))), (1, I i4), (17, B (decide (i4 < 1)))], [.cells [.sl 1 0 k2, cI (w64 (i3 + 1))], .row .u8 x1 false]⟩ (by kernel_rfl) ⟨trivial, trivial⟩ ?_
  refine WO_thru ⟨[(0, .one (.e (.p 0 0))), (1, I i4), (24, B ((decide (i4 < 1)) || (decide (((k2 : Nat) : Int) = 0))))], [.cells [.sl 1 0 k2, cI (w64 (i3 + 1))], .row .u8 x1 false]⟩ ?_ ?_
  · refine WO_if 17 rfl (fun hb25 => ?_) (fun hb25 => ?_)
    · refine WO_step 7 [0, 1] [0, 1, 24] True ⟨[(0, .one (.e (.p 0 0))), (1, I i4), (24, B true)], [.cells [.sl 1 0 k2, cI (w64 (i3 + 1))], .row .u8 x1 false]⟩ (by kernel_rfl) trivial ?_
      exact WO_nil rfl ⟨rfl, by first | rfl | (rw [hb25]; first | done | rfl)⟩
    · refine WO_step 7 [0, 1] [0, 1, 24] (True ∧ (True ∧ (True ∧ True))) ⟨[(0, .one (.e (.p 0 0))), (1, I i4), (24, B (decide (((k2 : Nat) : Int) = 0)))], [.cells [.sl 1 0 k2, cI (w64 (i3 + 1))], .row .u8 x1 false]⟩ (by kernel_rfl) ⟨trivial, trivial, trivial, trivial⟩ ?_
      exact WO_nil rfl ⟨rfl, by first | rfl | (rw [hb25]; first | done | rfl)⟩
  · refine thenS_n ?_
    refine iteO_e h (fun hb27 h => W_true rfl hb27 ?_) (fun hb27 h => W_false rfl hb27 ?_)
    · refine W_seq ?_
      refine W_region ?_
      refine WO_step 1 [0, 1] [4] True ⟨[(4, I 0)], [.cells [.sl 1 0 k2, cI (w64 (i3 + 1))], .row .u8 x1 false]⟩ (by kernel_rfl) trivial ?_
      refine WO_nil rfl ?_
      refine thenS_n ?_
      refine W_ret ?_
      refine thenS_r ?_
      cases h
      exact ⟨[0, 1], True, by kernel_rfl, trivial⟩
    · refine W_sub [0, 1] [0, 1] (st' := ⟨[(0, .one (.e (.p 0 0))), (1, I i4)], [.cells [.sl 1 0 k2, cI (w64 (i3 + 1))], .row .u8 x1 false]⟩) (by kernel_rfl) ?_
      refine W_skip ?_
      refine thenS_n ?_
      refine W_seq ?_
      refine W_region ?_
      refine WO_step 6 [0, 1] [0, 1, 5] (True ∧ (True ∧ True)) ⟨[(0, .one (.e (.p 0 0))), (1, I i4), (5, I (w64 ((w64 (i3 + 1)) - 1)))], [.cells [.sl 1 0 k2, cI (w64 (i3 + 1))], .row .u8 x1 false]⟩ (by kernel_rfl) ⟨trivial, trivial, trivial⟩ ?_
      refine WO_nil rfl ?_
      refine thenS_n ?_
      refine W_seq ?_
      refine W_seq ?_
      refine W_region ?_
      refine WO_step 7 [0, 1] [0, 1, 5, 36] (True ∧ (True ∧ (True ∧ True))) ⟨[(0, .one (.e (.p 0 0))), (1, I i4), (5, I (w64 ((w64 (i3 + 1)) - 1))), (36, B (decide ((w64 ((w64 (i3 + 1)) - 1)) < ((k2 : Nat) : Int))))], [.cells [.sl 1 0 k2, cI (w64 (i3 + 1))], .row .u8 x1 false]⟩ (by kernel_rfl) ⟨trivial, trivial, trivial, trivial⟩ ?_
      refine WO_nil rfl ?_
      refine thenS_n ?_
      refine iteO_e h (fun hb31 h => W_true rfl hb31 ?_) (fun hb31 h => W_false rfl hb31 ?_)
      · refine W_seq ?_
        refine W_region ?_
        refine guardO_e h (fun hg32 h => ?_)
        refine guardO_e h (fun hg33 h => ?_)
        refine WO_step 11 [0, 1] [4] (True ∧ ((0 ≤ (w64 ((w64 (i3 + 1)) - 1)) ∧ (w64 ((w64 (i3 + 1)) - 1)) < ((k2 : Nat) : Int)) ∧ (True ∧ (True ∧ (((i4 : Int) ≠ 0) ∧ True))))) ⟨[(4, I ((w64 (x1.getD ((w64 ((w64 (i3 + 1)) - 1)).toNat) 0)).tmod i4))], [.cells [.sl 1 0 k2, cI (w64 (i3 + 1))], .row .u8 x1 false]⟩ (by kernel_rfl) ⟨trivial, hg32, trivial, trivial, hg33, trivial⟩ ?_
        refine WO_nil rfl ?_
        refine thenS_n ?_
        refine W_ret ?_
        refine thenS_r ?_
        cases h
        exact ⟨[0, 1], True, by kernel_rfl, trivial⟩
      · refine W_sub [0, 1] [0, 1, 5] (st' := ⟨[(0, .one (.e (.p 0 0))), (1, I i4), (5, I (w64 ((w64 (i3 + 1)) - 1)))], [.cells [.sl 1 0 k2, cI (w64 (i3 + 1))], .row .u8 x1 false]⟩) (by kernel_rfl) ?_
        refine W_skip ?_
        refine thenS_n ?_
        refine W_seq ?_
        refine guardO_e h (fun hg34 h => ?_)
        refine guardO_e h (fun hg35 h => ?_)
        refine guardO_e h (fun hg36 h => ?_)
        refine guardO_e h (fun hg37 h => ?_)
        refine guardO_e h (fun hg38 h => ?_)
        refine W_cut (Q' := fun (e : Exit) (s : St) => e = .normal ∧ s = ⟨[(1, I i4), (6, I (w64 ((w64 ((w64 ((w64 ((w64 (x1.getD (((w64 ((w64 (i3 + 1)) - 1)).tmod ((k2 : Nat) : Int)).toNat) 0)) * 131)) + (w64 ((w64 (x1.getD (((w64 ((w64 ((w64 ((w64 (i3 + 1)) - 1)) * 7)) + 3)).tmod ((k2 : Nat) : Int)).toNat) 0)) * 1117)))) + (w64 ((w64 ((w64 (i3 + 1)) - 1)) * 29)))) + (w64 ((w64 ((w64 ((w64 (i3 + 1)) - 1)).tdiv ((k2 : Nat) : Int))) * 53)))))], [.cells [.sl 1 0 k2, cI (w64 (i3 + 1))], .row .u8 x1 false]⟩) ?_ ?_
        · refine W_draw [] true (by kernel_rfl) (by kernel_rfl) ?_
          refine WD_takeK [0, 1, 2, 3, 4, 5, 6, 7, 8, 9, 10, 11, 12, 13, 14, 15, 16, 17, 18, 19, 20, 21, 22, 23, 24, 25, 26, 27, 28, 29, 30, 31, 32, 33, 34, 35, 36, 37, 38, 39, 40, 41, 42, 43, 44, 45] [1, 6] [1, 6] (φ := (True ∧ True ∧ (True ∧ True ∧ (True ∧ True ∧ (((((k2 : Nat) : Int) : Int) ≠ 0) ∧ ((((k2 : Nat) : Int) : Int) ≠ 0) ∧ ((0 ≤ ((w64 ((w64 (i3 + 1)) - 1)).tmod ((k2 : Nat) : Int)) ∧ ((w64 ((w64 (i3 + 1)) - 1)).tmod ((k2 : Nat) : Int)) < ((k2 : Nat) : Int)) ∧ (0 ≤ ((w64 ((w64 (i3 + 1)) - 1)).tmod ((k2 : Nat) : Int)) ∧ ((w64 ((w64 (i3 + 1)) - 1)).tmod ((k2 : Nat) : Int)) < ((k2 : Nat) : Int)) ∧ (True ∧ True ∧ (True ∧ True ∧ (True ∧ True ∧ (True ∧ True ∧ (True ∧ True ∧ (True ∧ True ∧ (True ∧ True ∧ (True ∧ True ∧ (((((k2 : Nat) : Int) : Int) ≠ 0) ∧ ((((k2 : Nat) : Int) : Int) ≠ 0) ∧ ((0 ≤ ((w64 ((w64 ((w64 ((w64 (i3 + 1)) - 1)) * 7)) + 3)).tmod ((k2 : Nat) : Int)) ∧ ((w64 ((w64 ((w64 ((w64 (i3 + 1)) - 1)) * 7)) + 3)).tmod ((k2 : Nat) : Int)) < ((k2 : Nat) : Int)) ∧ (0 ≤ ((w64 ((w64 ((w64 ((w64 (i3 + 1)) - 1)) * 7)) + 3)).tmod ((k2 : Nat) : Int)) ∧ ((w64 ((w64 ((w64 ((w64 (i3 + 1)) - 1)) * 7)) + 3)).tmod ((k2 : Nat) : Int)) < ((k2 : Nat) : Int)) ∧ (True ∧ True ∧ (True ∧ True ∧ (True ∧ True ∧ (True ∧ True ∧ (True ∧ True ∧ (True ∧ True ∧ (True ∧ True ∧ (True ∧ True ∧ (((((k2 : Nat) : Int) : Int) ≠ 0) ∧ ((((k2 : Nat) : Int) : Int) ≠ 0) ∧ (True ∧ True ∧ (True ∧ True ∧ True))))))))))))))))))))))))))) (ls' := #[true, true, true, true, true, true, true, true, true, true, true, true, true, true, true, true, true, true, true, true, true, true, true, true, true, true, true, true, true, true, true, true, true, true, true, true, true, true, true, true, true, true, true, true, true, true]) (Ts' := [(1, I i4), (6, I (w64 ((w64 ((w64 ((w64 ((w64 (x1.getD (((w64 ((w64 (i3 + 1)) - 1)).tmod ((k2 : Nat) : Int)).toNat) 0)) * 131)) + (w64 ((w64 (x1.getD (((w64 ((w64 ((w64 ((w64 (i3 + 1)) - 1)) * 7)) + 3)).tmod ((k2 : Nat) : Int)).toNat) 0)) * 1117)))) + (w64 ((w64 ((w64 (i3 + 1)) - 1)) * 29)))) + (w64 ((w64 ((w64 ((w64 (i3 + 1)) - 1)).tdiv ((k2 : Nat) : Int))) * 53)))))]) (st' := ⟨[(1, I i4), (6, I (w64 ((w64 ((w64 ((w64 ((w64 (x1.getD (((w64 ((w64 (i3 + 1)) - 1)).tmod ((k2 : Nat) : Int)).toNat) 0)) * 131)) + (w64 ((w64 (x1.getD (((w64 ((w64 ((w64 ((w64 (i3 + 1)) - 1)) * 7)) + 3)).tmod ((k2 : Nat) : Int)).toNat) 0)) * 1117)))) + (w64 ((w64 ((w64 (i3 + 1)) - 1)) * 29)))) + (w64 ((w64 ((w64 ((w64 (i3 + 1)) - 1)).tdiv ((k2 : Nat) : Int))) * 53)))))], [.cells [.sl 1 0 k2, cI (w64 (i3 + 1))], .row .u8 x1 false]⟩) (n2 := 0) (by kernel_rfl) ⟨trivial, trivial, trivial, trivial, trivial, trivial, hg34, hg34, hg35, hg35, trivial, trivial, trivial, trivial, trivial, trivial, trivial, trivial, trivial, trivial, trivial, trivial, trivial, trivial, trivial, trivial, hg36, hg36, hg37, hg37, trivial, trivial, trivial, trivial, trivial, trivial, trivial, trivial, trivial, trivial, trivial, trivial, trivial, trivial, trivial, trivial, hg38, hg38, trivial, trivial, trivial, trivial, trivial⟩ rfl ?_
          exact WD_done [0, 1] [1, 6] (st' := ⟨[(1, I i4), (6, I (w64 ((w64 ((w64 ((w64 ((w64 (x1.getD (((w64 ((w64 (i3 + 1)) - 1)).tmod ((k2 : Nat) : Int)).toNat) 0)) * 131)) + (w64 ((w64 (x1.getD (((w64 ((w64 ((w64 ((w64 (i3 + 1)) - 1)) * 7)) + 3)).tmod ((k2 : Nat) : Int)).toNat) 0)) * 1117)))) + (w64 ((w64 ((w64 (i3 + 1)) - 1)) * 29)))) + (w64 ((w64 ((w64 ((w64 (i3 + 1)) - 1)).tdiv ((k2 : Nat) : Int))) * 53)))))], [.cells [.sl 1 0 k2, cI (w64 (i3 + 1))], .row .u8 x1 false]⟩) (by kernel_rfl) (by kernel_rfl) (And.intro rfl rfl)
        · rintro _ _ ⟨rfl, rfl⟩
          refine thenS_n ?_
          refine W_seq ?_
          refine W_region ?_
          refine WO_step 5 [0, 1] [1, 6] (((64 : Int) ≠ 0) ∧ (True ∧ True)) ⟨[(1, I i4), (6, I (w64 (BitVec.ofInt 64 (w64 ((w64 ((w64 ((w64 ((w64 (x1.getD (((w64 ((w64 (i3 + 1)) - 1)).tmod ((k2 : Nat) : Int)).toNat) 0)) * 131)) + (w64 ((w64 (x1.getD (((w64 ((w64 ((w64 ((w64 (i3 + 1)) - 1)) * 7)) + 3)).tmod ((k2 : Nat) : Int)).toNat) 0)) * 1117)))) + (w64 ((w64 ((w64 (i3 + 1)) - 1)) * 29)))) + (w64 ((w64 ((w64 ((w64 (i3 + 1)) - 1)).tdiv ((k2 : Nat) : Int))) * 53)))) ^^^ BitVec.ofInt 64 (w64 ((w64 ((w64 ((w64 ((w64 ((w64 (x1.getD (((w64 ((w64 (i3 + 1)) - 1)).tmod ((k2 : Nat) : Int)).toNat) 0)) * 131)) + (w64 ((w64 (x1.getD (((w64 ((w64 ((w64 ((w64 (i3 + 1)) - 1)) * 7)) + 3)).tmod ((k2 : Nat) : Int)).toNat) 0)) * 1117)))) + (w64 ((w64 ((w64 (i3 + 1)) - 1)) * 29)))) + (w64 ((w64 ((w64 ((w64 (i3 + 1)) - 1)).tdiv ((k2 : Nat) : Int))) * 53)))).tdiv 64))).toNat))], [.cells [.sl 1 0 k2, cI (w64 (i3 + 1))], .row .u8 x1 false]⟩ (by kernel_rfl) ⟨(by decide), trivial, trivial⟩ ?_
          refine WO_nil rfl ?_
          refine thenS_n ?_
          refine W_seq ?_
          refine W_region ?_
          refine guardO_e h (fun hg39 h => ?_)
          refine WO_step 4 [0, 1] [4] (((i4 : Int) ≠ 0) ∧ True) ⟨[(4, I ((w64 (BitVec.ofInt 64 (w64 ((w64 ((w64 ((w64 ((w64 (x1.getD (((w64 ((w64 (i3 + 1)) - 1)).tmod ((k2 : Nat) : Int)).toNat) 0)) * 131)) + (w64 ((w64 (x1.getD (((w64 ((w64 ((w64 ((w64 (i3 + 1)) - 1)) * 7)) + 3)).tmod ((k2 : Nat) : Int)).toNat) 0)) * 1117)))) + (w64 ((w64 ((w64 (i3 + 1)) - 1)) * 29)))) + (w64 ((w64 ((w64 ((w64 (i3 + 1)) - 1)).tdiv ((k2 : Nat) : Int))) * 53)))) ^^^ BitVec.ofInt 64 (w64 ((w64 ((w64 ((w64 ((w64 ((w64 (x1.getD (((w64 ((w64 (i3 + 1)) - 1)).tmod ((k2 : Nat) : Int)).toNat) 0)) * 131)) + (w64 ((w64 (x1.getD (((w64 ((w64 ((w64 ((w64 (i3 + 1)) - 1)) * 7)) + 3)).tmod ((k2 : Nat) : Int)).toNat) 0)) * 1117)))) + (w64 ((w64 ((w64 (i3 + 1)) - 1)) * 29)))) + (w64 ((w64 ((w64 ((w64 (i3 + 1)) - 1)).tdiv ((k2 : Nat) : Int))) * 53)))).tdiv 64))).toNat).tmod i4))], [.cells [.sl 1 0 k2, cI (w64 (i3 + 1))], .row .u8 x1 false]⟩ (by kernel_rfl) ⟨hg39, trivial⟩ ?_
          refine WO_nil rfl ?_
          refine thenS_n ?_
          refine W_ret ?_
          cases h
          exact ⟨[0, 1], True, by kernel_rfl, trivial⟩

/- spec.reader).one -/
def spec_reader_one (x1 : List Int) (k2 : Nat) (i3 : Int) (x4 : List Int) : Option (Int × Int) :=
 bindO (spec_reader_pick x1 k2 i3 ((x4.length : Nat) : Int)) fun i10 =>
 guardO (0 ≤ i10 ∧ i10 < ((x4.length : Nat) : Int)) <|
 some ((w64 (i3 + 1)), (x4.getD i10.toNat 0))

theorem spec_reader_one_ok (x1 : List Int) (k2 : Nat) (i3 : Int) (x4 : List Int) (i8 : Int) (i9 : Int) (h : spec_reader_one x1 k2 i3 x4 = some (i8, i9)) : FOk EE 48 [.one (.e (.p 0 0)), .one (.e (.sl 2 0 x4.length))] [.cells [.sl 1 0 k2, cI i3], .row .u8 x1 false, .row .int x4 false] (I i9) [.cells [.sl 1 0 k2, cI i8], .row .u8 x1 false, .row .int x4 false] := by
  unfold spec_reader_one at h
  refine FOk_of_W 12 3 Tryd.func48 rfl rfl (Nat.le_of_ble_eq_true rfl) rfl (fun w X θ => ?_)
  refine W_seq ?_
  refine W_region ?_
  refine WO_step 1 [0, 1, 2] [0, 1] True ⟨[(0, .one (.e (.p 0 0))), (1, .one (.e (.sl 2 0 x4.length)))], [.cells [.sl 1 0 k2, cI i3], .row .u8 x1 false, .row .int x4 false]⟩ (by kernel_rfl) trivial ?_
  refine WO_nil rfl ?_
  refine thenS_n ?_
  refine W_seq ?_
  refine W_region ?_
  refine WO_step 4 [0, 1, 2] [5, 6, 8] (True ∧ True) ⟨[(5, .one (.e (.sl 2 0 x4.length))), (6, .one (.e (.p 0 0))), (8, I ((x4.length : Nat) : Int))], [.cells [.sl 1 0 k2, cI i3], .row .u8 x1 false, .row .int x4 false]⟩ (by kernel_rfl) ⟨trivial, trivial⟩ ?_
  refine bindO_e h (fun i10 hc11 h => ?_)
  refine WO_call [.own 0, .ro 1] Tryd.f47 rfl rfl rfl (by kernel_rfl) Tryd.func47 rfl (by kernel_rfl) (spec_reader_pick_ok x1 k2 i3 ((x4.length : Nat) : Int) i10 hc11) (And.intro (trivial) (And.intro (And.intro rfl rfl) (trivial))) rfl ?_
  refine guardO_e h (fun hg12 h => ?_)
  refine WO_step 3 [0, 1, 2] [4] ((0 ≤ i10 ∧ i10 < ((x4.length : Nat) : Int)) ∧ (True ∧ True)) ⟨[(4, I (x4.getD i10.toNat 0))], [.cells [.sl 1 0 k2, cI (w64 (i3 + 1))], .row .u8 x1 false, .row .int x4 false]⟩ (by kernel_rfl) ⟨hg12, trivial, trivial⟩ ?_
  refine WO_nil rfl ?_
  refine thenS_n ?_
  refine W_ret ?_
  cases h
  exact ⟨[0, 1, 2], True, by kernel_rfl, trivial⟩

/- spec.inRange -/
def spec_inRange (i1 : Int) (i2 : Int) (i3 : Int) : Bool :=
((decide (i2 ≤ i1)) && (decide (i1 ≤ i3)))

theorem spec_inRange_ok (i1 : Int) (i2 : Int) (i3 : Int) : FOk EE 42 [I i1, I i2, I i3] [] (B (spec_inRange i1 i2 i3)) [] := by
  refine FOk_of_W 15 0 Tryd.func42 rfl rfl (Nat.le_of_ble_eq_true rfl) rfl (fun w X θ => ?_)
  refine W_seq ?_
  refine W_region ?_
  refine WO_step 1 [] [0, 1, 2] True ⟨[(0, I i1), (1, I i2), (2, I i3)], []⟩ (by kernel_rfl) trivial ?_
  refine WO_nil rfl ?_
  refine thenS_n ?_
  refine W_seq ?_
  refine W_region ?_
  refine WO_step 4 [] [0, 2, 10] (True ∧ True) ⟨[(0, I i1), (2, I i3), (10, B (decide (i2 ≤ i1)))], []⟩ (by kernel_rfl) ⟨trivial, trivial⟩ ?_
  refine WO_thru ⟨[(6, B ((decide (i2 ≤ i1)) && (decide (i1 ≤ i3))))], []⟩ ?_ ?_
  · refine WO_if 10 rfl (fun hb10 => ?_) (fun hb10 => ?_)
    · refine WO_step 5 [] [6] (True ∧ True) ⟨[(6, B (decide (i1 ≤ i3)))], []⟩ (by kernel_rfl) ⟨trivial, trivial⟩ ?_
      exact WO_nil rfl ⟨rfl, by first | rfl | (rw [hb10]; first | done | rfl)⟩
    · refine WO_step 5 [] [6] True ⟨[(6, B false)], []⟩ (by kernel_rfl) trivial ?_
      exact WO_nil rfl ⟨rfl, by first | rfl | (rw [hb10]; first | done | rfl)⟩
  · refine thenS_n ?_
    refine W_ret ?_
    exact ⟨[], True, by kernel_rfl, trivial⟩

/- spec.goTogether -/
def spec_goTogether (i1 : Int) (i2 : Int) : Option (Bool) :=
 iteO (decide ((if i2 < i1 then i2 else i1) = 0))
 (some true)
 (iteO (decide ((if i2 < i1 then i2 else i1) = 1))
 (some (!decide ((if i2 > i1 then i2 else i1) = 5)))
 (iteO (decide ((if i2 < i1 then i2 else i1) = 2))
 (some (decide ((if i2 > i1 then i2 else i1) = 2)))
 (iteO (decide ((if i2 < i1 then i2 else i1) = 3))
 (some (decide ((if i2 > i1 then i2 else i1) = 3)))
 (some false))))

theorem spec_goTogether_ok (i1 : Int) (i2 : Int) (b63 : Bool) (h : spec_goTogether i1 i2 = some b63) : FOk EE 43 [I i1, I i2] [] (B b63) [] := by
  unfold spec_goTogether at h
  refine FOk_of_W 28 0 Tryd.func43 rfl rfl (Nat.le_of_ble_eq_true rfl) rfl (fun w X θ => ?_)
  refine W_seq ?_
  refine W_region ?_
  refine WO_step 1 [] [0, 1] True ⟨[(0, I i1), (1, I i2)], []⟩ (by kernel_rfl) trivial ?_
  refine WO_nil rfl ?_
  refine thenS_n ?_
  refine W_seq ?_
  refine W_region ?_
  refine WO_step 4 [] [0, 1, 5] (True ∧ True) ⟨[(0, I i1), (1, I i2), (5, I (if i2 < i1 then i2 else i1))], []⟩ (by kernel_rfl) ⟨trivial, trivial⟩ ?_
  refine WO_nil rfl ?_
  refine thenS_n ?_
  refine W_seq ?_
  refine W_region ?_
  refine WO_step 4 [] [5, 6] (True ∧ True) ⟨[(5, I (if i2 < i1 then i2 else i1)), (6, I (if i2 > i1 then i2 else i1))], []⟩ (by kernel_rfl) ⟨trivial, trivial⟩ ?_
  refine WO_nil rfl ?_
  refine thenS_n ?_
  refine W_seq ?_
  refine W_seq ?_
  refine W_region ?_
  refine WO_step 1 [] [6, 13] True ⟨[(6, I (if i2 > i1 then i2 else i1)), (13, I (if i2 < i1 then i2 else i1))], []⟩ (by kernel_rfl) trivial ?_
  refine WO_nil rfl ?_
  refine thenS_n ?_
  refine W_block ?_
  refine W_seq ?_
  refine W_region ?_
  refine WO_step 2 [] [6, 13, 14] (True ∧ True) ⟨[(6, I (if i2 > i1 then i2 else i1)), (13, I (if i2 < i1 then i2 else i1)), (14, B (decide ((if i2 < i1 then i2 else i1) = 0)))], []⟩ (by kernel_rfl) ⟨trivial, trivial⟩ ?_
  refine WO_nil rfl ?_
  refine thenS_n ?_
  refine iteO_e h (fun hb109 h => W_true rfl hb109 ?_) (fun hb109 h => W_false rfl hb109 ?_)
  · refine W_seq ?_
    refine W_region ?_
    refine WO_step 1 [] [4] True ⟨[(4, B true)], []⟩ (by kernel_rfl) trivial ?_
    refine WO_nil rfl ?_
    refine thenS_n ?_
    refine W_ret ?_
    refine blockS_r ?_
    refine thenS_r ?_
    cases h
    exact ⟨[], True, by kernel_rfl, trivial⟩
  · refine W_seq ?_
    refine W_region ?_
    refine WO_step 2 [] [6, 13, 16] (True ∧ True) ⟨[(6, I (if i2 > i1 then i2 else i1)), (13, I (if i2 < i1 then i2 else i1)), (16, B (decide ((if i2 < i1 then i2 else i1) = 1)))], []⟩ (by kernel_rfl) ⟨trivial, trivial⟩ ?_
    refine WO_nil rfl ?_
    refine thenS_n ?_
    refine iteO_e h (fun hb117 h => W_true rfl hb117 ?_) (fun hb117 h => W_false rfl hb117 ?_)
    · refine W_seq ?_
      refine W_region ?_
      refine WO_step 3 [] [4] (True ∧ True) ⟨[(4, B (!decide ((if i2 > i1 then i2 else i1) = 5)))], []⟩ (by kernel_rfl) ⟨trivial, trivial⟩ ?_
      refine WO_nil rfl ?_
      refine thenS_n ?_
      refine W_ret ?_
      refine blockS_r ?_
      refine thenS_r ?_
      cases h
      exact ⟨[], True, by kernel_rfl, trivial⟩
    · refine W_seq ?_
      refine W_region ?_
      refine WO_step 2 [] [6, 13, 20] (True ∧ True) ⟨[(6, I (if i2 > i1 then i2 else i1)), (13, I (if i2 < i1 then i2 else i1)), (20, B (decide ((if i2 < i1 then i2 else i1) = 2)))], []⟩ (by kernel_rfl) ⟨trivial, trivial⟩ ?_
      refine WO_nil rfl ?_
      refine thenS_n ?_
      refine iteO_e h (fun hb121 h => W_true rfl hb121 ?_) (fun hb121 h => W_false rfl hb121 ?_)
      · refine W_seq ?_
        refine W_region ?_
        refine WO_step 3 [] [4] (True ∧ True) ⟨[(4, B (decide ((if i2 > i1 then i2 else i1) = 2)))], []⟩ (by kernel_rfl) ⟨trivial, trivial⟩ ?_
        refine WO_nil rfl ?_
        refine thenS_n ?_
        refine W_ret ?_
        refine blockS_r ?_
        refine thenS_r ?_
        cases h
        exact ⟨[], True, by kernel_rfl, trivial⟩
      · refine W_seq ?_
        refine W_region ?_
        refine WO_step 2 [] [6, 24] (True ∧ True) ⟨[(6, I (if i2 > i1 then i2 else i1)), (24, B (decide ((if i2 < i1 then i2 else i1) = 3)))], []⟩ (by kernel_rfl) ⟨trivial, trivial⟩ ?_
        refine WO_nil rfl ?_
        refine thenS_n ?_
        refine iteO_e h (fun hb123 h => W_true rfl hb123 ?_) (fun hb123 h => W_false rfl hb123 ?_)
        · refine W_seq ?_
          refine W_region ?_
          refine WO_step 3 [] [4] (True ∧ True) ⟨[(4, B (decide ((if i2 > i1 then i2 else i1) = 3)))], []⟩ (by kernel_rfl) ⟨trivial, trivial⟩ ?_
          refine WO_nil rfl ?_
          refine thenS_n ?_
          refine W_ret ?_
          refine blockS_r ?_
          refine thenS_r ?_
          cases h
          exact ⟨[], True, by kernel_rfl, trivial⟩
        · refine W_sub [] [] (st' := ⟨[], []⟩) (by kernel_rfl) ?_
          refine W_skip ?_
          refine blockS_n ?_
          refine thenS_n ?_
          refine W_seq ?_
          refine W_region ?_
          refine WO_step 1 [] [4] True ⟨[(4, B false)], []⟩ (by kernel_rfl) trivial ?_
          refine WO_nil rfl ?_
          refine thenS_n ?_
          refine W_ret ?_
          cases h
          exact ⟨[], True, by kernel_rfl, trivial⟩

/- spec.validTable -/
def spec_validTable_L2 (x1 : List Lck) (i682 : Int) : Nat → Int → Option ((Unit) ⊕ (Unit))
| 0, _ => none
| n + 1, i972 =>
 iteO (decide (i972 < i682))
 (guardO (0 ≤ i972 ∧ i972 < ((x1.length : Nat) : Int)) <|
 guardO (0 ≤ i682 ∧ i682 < ((x1.length : Nat) : Int)) <|
 bindO (iteO (decide (((x1.getD i972.toNat dlck).node) = ((x1.getD i682.toNat dlck).node)))
 (guardO (0 ≤ i972 ∧ i972 < ((x1.length : Nat) : Int)) <|
 guardO (0 ≤ i682 ∧ i682 < ((x1.length : Nat) : Int)) <|
 iteO (decide (((x1.getD i972.toNat dlck).who) = ((x1.getD i682.toNat dlck).who)))
 (some true)
 (guardO (0 ≤ i972 ∧ i972 < ((x1.length : Nat) : Int)) <|
 guardO (0 ≤ i682 ∧ i682 < ((x1.length : Nat) : Int)) <|
 bindO (spec_goTogether ((x1.getD i972.toNat dlck).mode) ((x1.getD i682.toNat dlck).mode)) fun b1029 =>
 some (!b1029)))
 (some false)) fun b1031 =>
 iteO b1031
 (some (.inl ()))
 (spec_validTable_L2 x1 i682 n (w64 (i972 + 1))))
 (some (.inr ()))

theorem spec_validTable_L2_ok (w : World) (X : Nat → Prop) (θ : List Loc) (x1 : List Lck) (i682 : Int) (v : (Unit) ⊕ (Unit)) : ∀ (n : Nat) (i972 : Int), spec_validTable_L2 x1 i682 n i972 = some v → WL EE ⟨w, X, θ, 82, 1⟩ (subC [1, 0, 1, 4, 4, 1, 0, 4, 1, 1, 4, 4] (bodyC Tryd.f22)) (fun (e : Exit) (s : St) => (match v with | (.inl _) => e = .ret ∧ s = ⟨[(2, B false)], [.row .lck x1 false]⟩ | (.inr _) => e = .exit 2 ∧ s = ⟨[(0, .one (.e (.sl 0 0 x1.length))), (3, I i682)], [.row .lck x1 false]⟩ : Prop)) ⟨[(0, .one (.e (.sl 0 0 x1.length))), (3, I i682), (4, I i972)], [.row .lck x1 false]⟩ := by
  intro n
  induction n with
  | zero => intro _ h; exact none_e h
  | succ n ih =>
    intro i972 h
    rw [spec_validTable_L2] at h
    refine WL_round ?_
    refine W_seq ?_
    refine W_seq ?_
    refine W_region ?_
    refine WO_step 3 [0] [0, 3, 4, 38] (True ∧ True) ⟨[(0, .one (.e (.sl 0 0 x1.length))), (3, I i682), (4, I i972), (38, B (decide (i972 < i682)))], [.row .lck x1 false]⟩ (by kernel_rfl) ⟨trivial, trivial⟩ ?_
    refine WO_nil rfl ?_
    refine thenS_n ?_
    refine iteO_e h (fun hb1006 h => W_true rfl hb1006 ?_) (fun hb1006 h => W_false rfl hb1006 ?_)
    · refine W_sub [0] [0, 3, 4] (st' := ⟨[(0, .one (.e (.sl 0 0 x1.length))), (3, I i682), (4, I i972)], [.row .lck x1 false]⟩) (by kernel_rfl) ?_
      refine W_skip ?_
      refine thenS_n ?_
      refine W_seq ?_
      refine W_block ?_
      refine W_seq ?_
      refine guardO_e h (fun hg1021 h => ?_)
      refine guardO_e h (fun hg1022 h => ?_)
      refine bindO_e h (fun b1031 hv1032 h => ?_)
      refine W_cut (Q' := fun (e : Exit) (s : St) => e = .normal ∧ s = ⟨[(0, .one (.e (.sl 0 0 x1.length))), (3, I i682), (4, I i972), (78, B b1031)], [.row .lck x1 false]⟩) ?_ ?_
      · refine iteO_e hv1032 (fun hb1023 hv1032 => ?_) (fun hb1023 hv1032 => ?_)
        · refine guardO_e hv1032 (fun hg1024 hv1032 => ?_)
          refine guardO_e hv1032 (fun hg1025 hv1032 => ?_)
          refine iteO_e hv1032 (fun hb1026 hv1032 => ?_) (fun hb1026 hv1032 => ?_)
          · refine W_draw [] false (by kernel_rfl) (by kernel_rfl) ?_
            refine WD_takeK [0, 1, 2, 3, 4, 5, 6, 7, 8, 9, 10, 11] [0, 3, 4, 52] [0, 3, 4, 52] (φ := ((0 ≤ i972 ∧ i972 < ((x1.length : Nat) : Int)) ∧ (0 ≤ i972 ∧ i972 < ((x1.length : Nat) : Int)) ∧ (True ∧ True ∧ ((0 ≤ i682 ∧ i682 < ((x1.length : Nat) : Int)) ∧ (0 ≤ i682 ∧ i682 < ((x1.length : Nat) : Int)) ∧ (True ∧ True ∧ (True ∧ True ∧ True)))))) (ls' := #[true, true, true, true, true, true, true, true, true, true, true, true, false, false, false, false, false, false, false, false, false, false, false, false, false, false, false, false, false, false, false, false, false, false, false, false, false, false]) (Ts' := [(0, .one (.e (.sl 0 0 x1.length))), (3, I i682), (4, I i972), (52, B (decide (((x1.getD i972.toNat dlck).node) = ((x1.getD i682.toNat dlck).node))))]) (st' := ⟨[(0, .one (.e (.sl 0 0 x1.length))), (3, I i682), (4, I i972), (52, B (decide (((x1.getD i972.toNat dlck).node) = ((x1.getD i682.toNat dlck).node))))], [.row .lck x1 false]⟩) (n2 := 26) (by kernel_rfl) ⟨hg1021, hg1021, trivial, trivial, hg1022, hg1022, trivial, trivial, trivial, trivial, trivial⟩ rfl ?_
            refine WD_known 52 true rfl rfl hb1023 ?_
            refine WD_takeK [12, 13, 14, 15, 16, 17, 18, 19, 20, 21, 22, 23] [0, 3, 4, 52, 64] [0, 3, 4, 52, 64] (φ := ((0 ≤ i972 ∧ i972 < ((x1.length : Nat) : Int)) ∧ (0 ≤ i972 ∧ i972 < ((x1.length : Nat) : Int)) ∧ (True ∧ True ∧ ((0 ≤ i682 ∧ i682 < ((x1.length : Nat) : Int)) ∧ (0 ≤ i682 ∧ i682 < ((x1.length : Nat) : Int)) ∧ (True ∧ True ∧ (True ∧ True ∧ True)))))) (ls' := #[true, true, true, true, true, true, true, true, true, true, true, true, true, true, true, true, true, true, true, true, true, true, true, true, false, false, false, false, false, false, false, false, false, false, false, false, false, false]) (Ts' := [(0, .one (.e (.sl 0 0 x1.length))), (3, I i682), (4, I i972), (52, B true), (64, B (decide (((x1.getD i972.toNat dlck).who) = ((x1.getD i682.toNat dlck).who))))]) (st' := ⟨[(0, .one (.e (.sl 0 0 x1.length))), (3, I i682), (4, I i972), (52, B true), (64, B (decide (((x1.getD i972.toNat dlck).who) = ((x1.getD i682.toNat dlck).who))))], [.row .lck x1 false]⟩) (n2 := 14) (by kernel_rfl) ⟨hg1024, hg1024, trivial, trivial, hg1025, hg1025, trivial, trivial, trivial, trivial, trivial⟩ rfl ?_
            refine WD_known 64 true rfl rfl hb1026 ?_
            refine WD_takeK [24, 25, 26, 27, 28, 29, 30, 31, 32, 33, 34, 35, 36, 37] [0, 3, 4, 78] [0, 3, 4, 78] (φ := True) (ls' := #[true, true, true, true, true, true, true, true, true, true, true, true, true, true, true, true, true, true, true, true, true, true, true, true, true, true, true, true, true, true, true, true, true, true, true, true, true, true]) (Ts' := [(0, .one (.e (.sl 0 0 x1.length))), (3, I i682), (4, I i972), (78, B true)]) (st' := ⟨[(0, .one (.e (.sl 0 0 x1.length))), (3, I i682), (4, I i972), (78, B true)], [.row .lck x1 false]⟩) (n2 := 0) (by kernel_rfl) trivial rfl ?_
            exact WD_done [0] [0, 3, 4, 78] (st' := ⟨[(0, .one (.e (.sl 0 0 x1.length))), (3, I i682), (4, I i972), (78, B true)], [.row .lck x1 false]⟩) (by kernel_rfl) (by kernel_rfl) (And.intro rfl (by cases hv1032; rfl))
          · refine guardO_e hv1032 (fun hg1027 hv1032 => ?_)
            refine guardO_e hv1032 (fun hg1028 hv1032 => ?_)
            refine bindO_e hv1032 (fun b1029 hc1030 hv1032 => ?_)
            refine W_draw [] false (by kernel_rfl) (by kernel_rfl) ?_
            refine WD_takeK [0, 1, 2, 3, 4, 5, 6, 7, 8, 9, 10, 11] [0, 3, 4, 52] [0, 3, 4, 52] (φ := ((0 ≤ i972 ∧ i972 < ((x1.length : Nat) : Int)) ∧ (0 ≤ i972 ∧ i972 < ((x1.length : Nat) : Int)) ∧ (True ∧ True ∧ ((0 ≤ i682 ∧ i682 < ((x1.length : Nat) : Int)) ∧ (0 ≤ i682 ∧ i682 < ((x1.length : Nat) : Int)) ∧ (True ∧ True ∧ (True ∧ True ∧ True)))))) (ls' := #[true, true, true, true, true, true, true, true, true, true, true, true, false, false, false, false, false, false, false, false, false, false, false, false, false, false, false, false, false, false, false, false, false, false, false, false, false, false]) (Ts' := [(0, .one (.e (.sl 0 0 x1.length))), (3, I i682), (4, I i972), (52, B (decide (((x1.getD i972.toNat dlck).node) = ((x1.getD i682.toNat dlck).node))))]) (st' := ⟨[(0, .one (.e (.sl 0 0 x1.length))), (3, I i682), (4, I i972), (52, B (decide (((x1.getD i972.toNat dlck).node) = ((x1.getD i682.toNat dlck).node))))], [.row .lck x1 false]⟩) (n2 := 26) (by kernel_rfl) ⟨hg1021, hg1021, trivial, trivial, hg1022, hg1022, trivial, trivial, trivial, trivial, trivial⟩ rfl ?_
            refine WD_known 52 true rfl rfl hb1023 ?_
            refine WD_takeK [12, 13, 14, 15, 16, 17, 18, 19, 20, 21, 22, 23] [0, 3, 4, 52, 64] [0, 3, 4, 52, 64] (φ := ((0 ≤ i972 ∧ i972 < ((x1.length : Nat) : Int)) ∧ (0 ≤ i972 ∧ i972 < ((x1.length : Nat) : Int)) ∧ (True ∧ True ∧ ((0 ≤ i682 ∧ i682 < ((x1.length : Nat) : Int)) ∧ (0 ≤ i682 ∧ i682 < ((x1.length : Nat) : Int)) ∧ (True ∧ True ∧ (True ∧ True ∧ True)))))) (ls' := #[true, true, true, true, true, true, true, true, true, true, true, true, true, true, true, true, true, true, true, true, true, true, true, true, false, false, false, false, false, false, false, false, false, false, false, false, false, false]) (Ts' := [(0, .one (.e (.sl 0 0 x1.length))), (3, I i682), (4, I i972), (52, B true), (64, B (decide (((x1.getD i972.toNat dlck).who) = ((x1.getD i682.toNat dlck).who))))]) (st' := ⟨[(0, .one (.e (.sl 0 0 x1.length))), (3, I i682), (4, I i972), (52, B true), (64, B (decide (((x1.getD i972.toNat dlck).who) = ((x1.getD i682.toNat dlck).who))))], [.row .lck x1 false]⟩) (n2 := 14) (by kernel_rfl) ⟨hg1024, hg1024, trivial, trivial, hg1025, hg1025, trivial, trivial, trivial, trivial, trivial⟩ rfl ?_
            refine WD_known 64 false rfl rfl hb1026 ?_
            refine WD_takeK [24, 25, 26, 27, 28, 29, 30, 31, 32, 33] [0, 3, 4, 52, 64, 69, 74] [0, 3, 4, 52, 64, 69, 74] (φ := ((0 ≤ i972 ∧ i972 < ((x1.length : Nat) : Int)) ∧ (0 ≤ i972 ∧ i972 < ((x1.length : Nat) : Int)) ∧ (True ∧ True ∧ ((0 ≤ i682 ∧ i682 < ((x1.length : Nat) : Int)) ∧ (0 ≤ i682 ∧ i682 < ((x1.length : Nat) : Int)) ∧ (True ∧ True ∧ True))))) (ls' := #[true, true, true, true, true, true, true, true, true, true, true, true, true, true, true, true, true, true, true, true, true, true, true, true, true, true, true, true, true, true, true, true, true, true, false, false, false, false]) (Ts' := [(0, .one (.e (.sl 0 0 x1.length))), (3, I i682), (4, I i972), (52, B true), (64, B false), (69, I ((x1.getD i972.toNat dlck).mode)), (74, I ((x1.getD i682.toNat dlck).mode))]) (st' := ⟨[(0, .one (.e (.sl 0 0 x1.length))), (3, I i682), (4, I i972), (52, B true), (64, B false), (69, I ((x1.getD i972.toNat dlck).mode)), (74, I ((x1.getD i682.toNat dlck).mode))], [.row .lck x1 false]⟩) (n2 := 4) (by kernel_rfl) ⟨hg1027, hg1027, trivial, trivial, hg1028, hg1028, trivial, trivial, trivial⟩ rfl ?_
            refine WD_all [34] (n := 3) (by kernel_rfl) rfl ?_
            refine WM_call [] Tryd.f43 rfl rfl (by kernel_rfl) Tryd.func43 rfl (by kernel_rfl) (spec_goTogether_ok ((x1.getD i972.toNat dlck).mode) ((x1.getD i682.toNat dlck).mode) b1029 hc1030) (trivial) rfl (And.intro rfl (trivial)) ?_
            refine WD_takeK [35, 36, 37] [0, 3, 4, 78] [0, 3, 4, 78] (φ := True) (ls' := #[true, true, true, true, true, true, true, true, true, true, true, true, true, true, true, true, true, true, true, true, true, true, true, true, true, true, true, true, true, true, true, true, true, true, true, true, true, true]) (Ts' := [(0, .one (.e (.sl 0 0 x1.length))), (3, I i682), (4, I i972), (78, B (!b1029))]) (st' := ⟨[(0, .one (.e (.sl 0 0 x1.length))), (3, I i682), (4, I i972), (78, B (!b1029))], [.row .lck x1 false]⟩) (n2 := 0) (by kernel_rfl) trivial rfl ?_
            exact WD_done [0] [0, 3, 4, 78] (st' := ⟨[(0, .one (.e (.sl 0 0 x1.length))), (3, I i682), (4, I i972), (78, B (!b1029))], [.row .lck x1 false]⟩) (by kernel_rfl) (by kernel_rfl) (And.intro rfl (by cases hv1032; rfl))
        · refine W_draw [] false (by kernel_rfl) (by kernel_rfl) ?_
          refine WD_takeK [0, 1, 2, 3, 4, 5, 6, 7, 8, 9, 10, 11] [0, 3, 4, 52] [0, 3, 4, 52] (φ := ((0 ≤ i972 ∧ i972 < ((x1.length : Nat) : Int)) ∧ (0 ≤ i972 ∧ i972 < ((x1.length : Nat) : Int)) ∧ (True ∧ True ∧ ((0 ≤ i682 ∧ i682 < ((x1.length : Nat) : Int)) ∧ (0 ≤ i682 ∧ i682 < ((x1.length : Nat) : Int)) ∧ (True ∧ True ∧ (True ∧ True ∧ True)))))) (ls' := #[true, true, true, true, true, true, true, true, true, true, true, true, false, false, false, false, false, false, false, false, false, false, false, false, false, false, false, false, false, false, false, false, false, false, false, false, false, false]) (Ts' := [(0, .one (.e (.sl 0 0 x1.length))), (3, I i682), (4, I i972), (52, B (decide (((x1.getD i972.toNat dlck).node) = ((x1.getD i682.toNat dlck).node))))]) (st' := ⟨[(0, .one (.e (.sl 0 0 x1.length))), (3, I i682), (4, I i972), (52, B (decide (((x1.getD i972.toNat dlck).node) = ((x1.getD i682.toNat dlck).node))))], [.row .lck x1 false]⟩) (n2 := 26) (by kernel_rfl) ⟨hg1021, hg1021, trivial, trivial, hg1022, hg1022, trivial, trivial, trivial, trivial, trivial⟩ rfl ?_
          refine WD_known 52 false rfl rfl hb1023 ?_
          refine WD_takeK [12, 13, 14, 15, 16, 17, 18, 19, 20, 21, 22, 23, 24, 25, 26, 27, 28, 29, 30, 31, 32, 33, 34, 35, 36, 37] [0, 3, 4, 78] [0, 3, 4, 78] (φ := True) (ls' := #[true, true, true, true, true, true, true, true, true, true, true, true, true, true, true, true, true, true, true, true, true, true, true, true, true, true, true, true, true, true, true, true, true, true, true, true, true, true]) (Ts' := [(0, .one (.e (.sl 0 0 x1.length))), (3, I i682), (4, I i972), (78, B false)]) (st' := ⟨[(0, .one (.e (.sl 0 0 x1.length))), (3, I i682), (4, I i972), (78, B false)], [.row .lck x1 false]⟩) (n2 := 0) (by kernel_rfl) trivial rfl ?_
          exact WD_done [0] [0, 3, 4, 78] (st' := ⟨[(0, .one (.e (.sl 0 0 x1.length))), (3, I i682), (4, I i972), (78, B false)], [.row .lck x1 false]⟩) (by kernel_rfl) (by kernel_rfl) (And.intro rfl (by cases hv1032; rfl))
      · rintro _ _ ⟨rfl, rfl⟩
        refine thenS_n ?_
        refine iteO_e h (fun hb1034 h => W_true rfl hb1034 ?_) (fun hb1034 h => W_false rfl hb1034 ?_)
        · refine W_seq ?_
          refine W_region ?_
          refine WO_step 1 [0] [2] True ⟨[(2, B false)], [.row .lck x1 false]⟩ (by kernel_rfl) trivial ?_
          refine WO_nil rfl ?_
          refine thenS_n ?_
          refine W_ret ?_
          refine blockS_r ?_
          refine thenS_r ?_
          refine thenS_r ?_
          cases h
          exact And.intro rfl rfl
        · refine W_sub [0] [0, 3, 4] (st' := ⟨[(0, .one (.e (.sl 0 0 x1.length))), (3, I i682), (4, I i972)], [.row .lck x1 false]⟩) (by kernel_rfl) ?_
          refine W_skip ?_
          refine blockS_n ?_
          refine thenS_n ?_
          refine W_region ?_
          refine WO_step 3 [0] [0, 3, 4] (True ∧ True) ⟨[(0, .one (.e (.sl 0 0 x1.length))), (3, I i682), (4, I (w64 (i972 + 1)))], [.row .lck x1 false]⟩ (by kernel_rfl) ⟨trivial, trivial⟩ ?_
          refine WO_nil rfl ?_
          refine thenS_n ?_
          exact ih _ h
    · refine W_sub [0] [0, 3] (st' := ⟨[(0, .one (.e (.sl 0 0 x1.length))), (3, I i682)], [.row .lck x1 false]⟩) (by kernel_rfl) ?_
      refine W_exit ?_
      refine thenS_e ?_
      refine thenS_e ?_
      cases h
      exact And.intro rfl rfl

def spec_validTable_L1 (x1 : List Lck) : Nat → Int → Option ((Unit) ⊕ (Unit))
| 0, _ => none
| n + 1, i682 =>
 iteO (decide (i682 < ((x1.length : Nat) : Int)))
 (guardO (0 ≤ i682 ∧ i682 < ((x1.length : Nat) : Int)) <|
 bindO (iteO (!(spec_inRange ((x1.getD i682.toNat dlck).who) 0 3))
 (some true)
 (guardO (0 ≤ i682 ∧ i682 < ((x1.length : Nat) : Int)) <|
 iteO (!(spec_inRange ((x1.getD i682.toNat dlck).node) 0 11))
 (some true)
 (guardO (0 ≤ i682 ∧ i682 < ((x1.length : Nat) : Int)) <|
 some (!(spec_inRange ((x1.getD i682.toNat dlck).mode) 1 5))))) fun b931 =>
 iteO b931
 (some (.inl ()))
 (bindO (spec_validTable_L2 x1 i682 n 0) fun v1035 =>
 match v1035 with
 | (.inl _) => (some (.inl ()))
 | (.inr _) => (spec_validTable_L1 x1 n (w64 (i682 + 1)))
))
 (some (.inr ()))

theorem spec_validTable_L1_ok (w : World) (X : Nat → Prop) (θ : List Loc) (x1 : List Lck) (v : (Unit) ⊕ (Unit)) : ∀ (n : Nat) (i682 : Int), spec_validTable_L1 x1 n i682 = some v → WL EE ⟨w, X, θ, 82, 1⟩ (subC [1, 0, 1, 4, 4] (bodyC Tryd.f22)) (fun (e : Exit) (s : St) => (match v with | (.inl _) => e = .ret ∧ s = ⟨[(2, B false)], [.row .lck x1 false]⟩ | (.inr _) => e = .exit 0 ∧ s = ⟨[(0, .one (.e (.sl 0 0 x1.length)))], [.row .lck x1 false]⟩ : Prop)) ⟨[(0, .one (.e (.sl 0 0 x1.length))), (3, I i682)], [.row .lck x1 false]⟩ := by
  intro n
  induction n with
  | zero => intro _ h; exact none_e h
  | succ n ih =>
    intro i682 h
    rw [spec_validTable_L1] at h
    refine WL_round ?_
    refine W_seq ?_
    refine W_seq ?_
    refine W_region ?_
    refine WO_step 4 [0] [0, 3, 8] (True ∧ (True ∧ True)) ⟨[(0, .one (.e (.sl 0 0 x1.length))), (3, I i682), (8, B (decide (i682 < ((x1.length : Nat) : Int))))], [.row .lck x1 false]⟩ (by kernel_rfl) ⟨trivial, trivial, trivial⟩ ?_
    refine WO_nil rfl ?_
    refine thenS_n ?_
    refine iteO_e h (fun hb846 h => W_true rfl hb846 ?_) (fun hb846 h => W_false rfl hb846 ?_)
    · refine W_sub [0] [0, 3] (st' := ⟨[(0, .one (.e (.sl 0 0 x1.length))), (3, I i682)], [.row .lck x1 false]⟩) (by kernel_rfl) ?_
      refine W_skip ?_
      refine thenS_n ?_
      refine W_seq ?_
      refine W_block ?_
      refine W_seq ?_
      refine W_seq ?_
      refine W_region ?_
      refine guardO_e h (fun hg926 h => ?_)
      refine WO_step 5 [0] [0, 3, 15] ((0 ≤ i682 ∧ i682 < ((x1.length : Nat) : Int)) ∧ (True ∧ True)) ⟨[(0, .one (.e (.sl 0 0 x1.length))), (3, I i682), (15, I ((x1.getD i682.toNat dlck).who))], [.row .lck x1 false]⟩ (by kernel_rfl) ⟨hg926, trivial, trivial⟩ ?_
      refine WO_call [] Tryd.f42 rfl rfl rfl (by kernel_rfl) Tryd.func42 rfl (by kernel_rfl) (spec_inRange_ok ((x1.getD i682.toNat dlck).who) 0 3) (trivial) rfl ?_
      refine WO_step 2 [0] [0, 3, 18] True ⟨[(0, .one (.e (.sl 0 0 x1.length))), (3, I i682), (18, B (!(spec_inRange ((x1.getD i682.toNat dlck).who) 0 3)))], [.row .lck x1 false]⟩ (by kernel_rfl) trivial ?_
      refine bindO_e h (fun b931 hv932 h => ?_)
      refine WO_thru ⟨[(0, .one (.e (.sl 0 0 x1.length))), (3, I i682), (35, B b931)], [.row .lck x1 false]⟩ ?_ ?_
      · refine iteO_e hv932 (fun hb933 hv932 => WO_known 18 true rfl hb933 ?_) (fun hb933 hv932 => WO_known 18 false rfl hb933 ?_)
        · refine WO_step 17 [0] [0, 3, 35] True ⟨[(0, .one (.e (.sl 0 0 x1.length))), (3, I i682), (35, B true)], [.row .lck x1 false]⟩ (by kernel_rfl) trivial ?_
          cases hv932
          exact WO_nil rfl ⟨rfl, rfl⟩
        · refine guardO_e hv932 (fun hg934 hv932 => ?_)
          refine WO_step 5 [0] [0, 3, 18, 23] ((0 ≤ i682 ∧ i682 < ((x1.length : Nat) : Int)) ∧ (True ∧ True)) ⟨[(0, .one (.e (.sl 0 0 x1.length))), (3, I i682), (18, B false), (23, I ((x1.getD i682.toNat dlck).node))], [.row .lck x1 false]⟩ (by kernel_rfl) ⟨hg934, trivial, trivial⟩ ?_
          refine WO_call [] Tryd.f42 rfl rfl rfl (by kernel_rfl) Tryd.func42 rfl (by kernel_rfl) (spec_inRange_ok ((x1.getD i682.toNat dlck).node) 0 11) (trivial) rfl ?_
          refine WO_step 3 [0] [0, 3, 27] True ⟨[(0, .one (.e (.sl 0 0 x1.length))), (3, I i682), (27, B (!(spec_inRange ((x1.getD i682.toNat dlck).node) 0 11)))], [.row .lck x1 false]⟩ (by kernel_rfl) trivial ?_
          refine iteO_e hv932 (fun hb935 hv932 => WO_known 27 true rfl hb935 ?_) (fun hb935 hv932 => WO_known 27 false rfl hb935 ?_)
          · refine WO_step 8 [0] [0, 3, 35] True ⟨[(0, .one (.e (.sl 0 0 x1.length))), (3, I i682), (35, B true)], [.row .lck x1 false]⟩ (by kernel_rfl) trivial ?_
            cases hv932
            exact WO_nil rfl ⟨rfl, rfl⟩
          · refine guardO_e hv932 (fun hg936 hv932 => ?_)
            refine WO_step 5 [0] [0, 3, 27, 32] ((0 ≤ i682 ∧ i682 < ((x1.length : Nat) : Int)) ∧ (True ∧ True)) ⟨[(0, .one (.e (.sl 0 0 x1.length))), (3, I i682), (27, B false), (32, I ((x1.getD i682.toNat dlck).mode))], [.row .lck x1 false]⟩ (by kernel_rfl) ⟨hg936, trivial, trivial⟩ ?_
            refine WO_call [] Tryd.f42 rfl rfl rfl (by kernel_rfl) Tryd.func42 rfl (by kernel_rfl) (spec_inRange_ok ((x1.getD i682.toNat dlck).mode) 1 5) (trivial) rfl ?_
            refine WO_step 2 [0] [0, 3, 35] True ⟨[(0, .one (.e (.sl 0 0 x1.length))), (3, I i682), (35, B (!(spec_inRange ((x1.getD i682.toNat dlck).mode) 1 5)))], [.row .lck x1 false]⟩ (by kernel_rfl) trivial ?_
            cases hv932
            exact WO_nil rfl ⟨rfl, rfl⟩
      · refine thenS_n ?_
        refine iteO_e h (fun hb938 h => W_true rfl hb938 ?_) (fun hb938 h => W_false rfl hb938 ?_)
        · refine W_seq ?_
          refine W_region ?_
          refine WO_step 1 [0] [2] True ⟨[(2, B false)], [.row .lck x1 false]⟩ (by kernel_rfl) trivial ?_
          refine WO_nil rfl ?_
          refine thenS_n ?_
          refine W_ret ?_
          refine thenS_r ?_
          refine blockS_r ?_
          refine thenS_r ?_
          refine thenS_r ?_
          cases h
          exact And.intro rfl rfl
        · refine W_sub [0] [0, 3] (st' := ⟨[(0, .one (.e (.sl 0 0 x1.length))), (3, I i682)], [.row .lck x1 false]⟩) (by kernel_rfl) ?_
          refine W_skip ?_
          refine thenS_n ?_
          refine W_seq ?_
          refine W_region ?_
          refine WO_step 1 [0] [0, 3, 4] True ⟨[(0, .one (.e (.sl 0 0 x1.length))), (3, I i682), (4, I 0)], [.row .lck x1 false]⟩ (by kernel_rfl) trivial ?_
          refine WO_nil rfl ?_
          refine thenS_n ?_
          refine W_block ?_
          refine W_loop ?_
          refine bindO_e h (fun v1035 hv1035 h => ?_)
          refine WL_cut (spec_validTable_L2_ok w X θ x1 i682 v1035 n 0 hv1035) ?_
          rcases v1035 with _ | _
          · rintro _ _ ⟨rfl, rfl⟩
            refine blockS_r ?_
            refine blockS_r ?_
            refine thenS_r ?_
            refine thenS_r ?_
            cases h
            exact And.intro rfl rfl
          · rintro _ _ ⟨rfl, rfl⟩
            refine blockS_y ?_
            refine blockS_n ?_
            refine thenS_n ?_
            refine W_region ?_
            refine WO_step 3 [0] [0, 3] (True ∧ True) ⟨[(0, .one (.e (.sl 0 0 x1.length))), (3, I (w64 (i682 + 1)))], [.row .lck x1 false]⟩ (by kernel_rfl) ⟨trivial, trivial⟩ ?_
            refine WO_nil rfl ?_
            refine thenS_n ?_
            exact ih _ h
    · refine W_sub [0] [0] (st' := ⟨[(0, .one (.e (.sl 0 0 x1.length)))], [.row .lck x1 false]⟩) (by kernel_rfl) ?_
      refine W_exit ?_
      refine thenS_e ?_
      refine thenS_e ?_
      cases h
      exact And.intro rfl rfl

def spec_validTable (n : Nat) (x1 : List Lck) : Option (Bool) :=
 bindO (spec_validTable_L1 x1 n 0) fun v1036 =>
 match v1036 with
 | (.inl _) => (some false)
 | (.inr _) => (some (decide (((x1.length : Nat) : Int) ≤ 48)))


theorem spec_validTable_ok (n : Nat) (x1 : List Lck) (b518 : Bool) (h : spec_validTable n x1 = some b518) : FOk EE 22 [.one (.e (.sl 0 0 x1.length))] [.row .lck x1 false] (B b518) [.row .lck x1 false] := by
  unfold spec_validTable at h
  refine FOk_of_W 82 1 Tryd.func22 rfl rfl (Nat.le_of_ble_eq_true rfl) rfl (fun w X θ => ?_)
  refine W_seq ?_
  refine W_region ?_
  refine WO_step 1 [0] [0] True ⟨[(0, .one (.e (.sl 0 0 x1.length)))], [.row .lck x1 false]⟩ (by kernel_rfl) trivial ?_
  refine WO_nil rfl ?_
  refine thenS_n ?_
  refine W_seq ?_
  refine W_seq ?_
  refine W_region ?_
  refine WO_step 1 [0] [0, 3] True ⟨[(0, .one (.e (.sl 0 0 x1.length))), (3, I 0)], [.row .lck x1 false]⟩ (by kernel_rfl) trivial ?_
  refine WO_nil rfl ?_
  refine thenS_n ?_
  refine W_block ?_
  refine W_loop ?_
  refine bindO_e h (fun v1036 hv1036 h => ?_)
  refine WL_cut (spec_validTable_L1_ok w X θ x1 v1036 n 0 hv1036) ?_
  rcases v1036 with _ | _
  · rintro _ _ ⟨rfl, rfl⟩
    refine blockS_r ?_
    refine thenS_r ?_
    cases h
    exact ⟨[0], True, by kernel_rfl, trivial⟩
  · rintro _ _ ⟨rfl, rfl⟩
    refine blockS_y ?_
    refine thenS_n ?_
    refine W_seq ?_
    refine W_region ?_
    refine WO_step 4 [0] [2] (True ∧ (True ∧ True)) ⟨[(2, B (decide (((x1.length : Nat) : Int) ≤ 48)))], [.row .lck x1 false]⟩ (by kernel_rfl) ⟨trivial, trivial, trivial⟩ ?_
    refine WO_nil rfl ?_
    refine thenS_n ?_
    refine W_ret ?_
    cases h
    exact ⟨[0], True, by kernel_rfl, trivial⟩

/- spec.validAsk -/
def spec_validAsk (n : Nat) (x1 : List Lck) (i2 : Int) (i3 : Int) (i4 : Int) : Option (Bool) :=
 bindO (spec_validTable n x1) fun b15 =>
 some (b15 && ((spec_inRange i2 0 3) && ((spec_inRange i3 0 11) && (spec_inRange i4 1 5))))

theorem spec_validAsk_ok (n : Nat) (x1 : List Lck) (i2 : Int) (i3 : Int) (i4 : Int) (b14 : Bool) (h : spec_validAsk n x1 i2 i3 i4 = some b14) : FOk EE 74 [.one (.e (.sl 0 0 x1.length)), I i2, I i3, I i4] [.row .lck x1 false] (B b14) [.row .lck x1 false] := by
  unfold spec_validAsk at h
  refine FOk_of_W 23 1 Tryd.func74 rfl rfl (Nat.le_of_ble_eq_true rfl) rfl (fun w X θ => ?_)
  refine W_seq ?_
  refine W_region ?_
  refine WO_step 1 [0] [0, 1, 2, 3] True ⟨[(0, .one (.e (.sl 0 0 x1.length))), (1, I i2), (2, I i3), (3, I i4)], [.row .lck x1 false]⟩ (by kernel_rfl) trivial ?_
  refine WO_nil rfl ?_
  refine thenS_n ?_
  refine W_seq ?_
  refine W_region ?_
  refine WO_step 1 [0] [1, 2, 3, 9] True ⟨[(1, I i2), (2, I i3), (3, I i4), (9, .one (.e (.sl 0 0 x1.length)))], [.row .lck x1 false]⟩ (by kernel_rfl) trivial ?_
  refine bindO_e h (fun b15 hc16 h => ?_)
  refine WO_call [.ro 0] Tryd.f22 rfl rfl rfl (by kernel_rfl) Tryd.func22 rfl (by kernel_rfl) (spec_validTable_ok n x1 b15 hc16) (And.intro (And.intro rfl rfl) (trivial)) rfl ?_
  refine WO_step 1 [0] [1, 2, 3, 11] True ⟨[(1, I i2), (2, I i3), (3, I i4), (11, B b15)], [.row .lck x1 false]⟩ (by kernel_rfl) trivial ?_
  refine WO_thru ⟨[(8, B (b15 && ((spec_inRange i2 0 3) && ((spec_inRange i3 0 11) && (spec_inRange i4 1 5)))))], [.row .lck x1 false]⟩ ?_ ?_
  · refine WO_if 11 rfl (fun hb21 => ?_) (fun hb21 => ?_)
    · refine WO_step 1 [0] [2, 3, 11, 12] True ⟨[(2, I i3), (3, I i4), (11, B true), (12, I i2)], [.row .lck x1 false]⟩ (by kernel_rfl) trivial ?_
      refine WO_call [] Tryd.f42 rfl rfl rfl (by kernel_rfl) Tryd.func42 rfl (by kernel_rfl) (spec_inRange_ok i2 0 3) (trivial) rfl ?_
      refine WO_step 2 [0] [2, 3, 15] True ⟨[(2, I i3), (3, I i4), (15, B (spec_inRange i2 0 3))], [.row .lck x1 false]⟩ (by kernel_rfl) trivial ?_
      refine WO_if 15 rfl (fun hb22 => ?_) (fun hb22 => ?_)
      · refine WO_step 1 [0] [3, 15, 16] True ⟨[(3, I i4), (15, B true), (16, I i3)], [.row .lck x1 false]⟩ (by kernel_rfl) trivial ?_
        refine WO_call [] Tryd.f42 rfl rfl rfl (by kernel_rfl) Tryd.func42 rfl (by kernel_rfl) (spec_inRange_ok i3 0 11) (trivial) rfl ?_
        refine WO_step 2 [0] [3, 19] True ⟨[(3, I i4), (19, B (spec_inRange i3 0 11))], [.row .lck x1 false]⟩ (by kernel_rfl) trivial ?_
        refine WO_if 19 rfl (fun hb23 => ?_) (fun hb23 => ?_)
        · refine WO_step 1 [0] [19, 20] True ⟨[(19, B true), (20, I i4)], [.row .lck x1 false]⟩ (by kernel_rfl) trivial ?_
          refine WO_call [] Tryd.f42 rfl rfl rfl (by kernel_rfl) Tryd.func42 rfl (by kernel_rfl) (spec_inRange_ok i4 1 5) (trivial) rfl ?_
          refine WO_step 2 [0] [8] True ⟨[(8, B (spec_inRange i4 1 5))], [.row .lck x1 false]⟩ (by kernel_rfl) trivial ?_
          exact WO_nil rfl ⟨rfl, by first | rfl | (simp only [hb21, hb22, hb23]; first | done | rfl)⟩
        · refine WO_step 4 [0] [8] True ⟨[(8, B false)], [.row .lck x1 false]⟩ (by kernel_rfl) trivial ?_
          exact WO_nil rfl ⟨rfl, by first | rfl | (simp only [hb21, hb22, hb23]; first | done | rfl)⟩
      · refine WO_step 8 [0] [8] True ⟨[(8, B false)], [.row .lck x1 false]⟩ (by kernel_rfl) trivial ?_
        exact WO_nil rfl ⟨rfl, by first | rfl | (simp only [hb21, hb22]; first | done | rfl)⟩
    · refine WO_step 12 [0] [8] True ⟨[(8, B false)], [.row .lck x1 false]⟩ (by kernel_rfl) trivial ?_
      exact WO_nil rfl ⟨rfl, by first | rfl | (rw [hb21]; first | done | rfl)⟩
  · refine thenS_n ?_
    refine W_ret ?_
    cases h
    exact ⟨[0], True, by kernel_rfl, trivial⟩

/- spec.held -/
def spec_held_L1 (x1 : List Lck) (i2 : Int) (i3 : Int) : Nat → Int → Option ((Int) ⊕ (Unit))
| 0, _ => none
| n + 1, i113 =>
 iteO (decide (i113 < ((x1.length : Nat) : Int)))
 (guardO (0 ≤ i113 ∧ i113 < ((x1.length : Nat) : Int)) <|
 bindO (iteO (decide (((x1.getD i113.toNat dlck).who) = i2))
 (guardO (0 ≤ i113 ∧ i113 < ((x1.length : Nat) : Int)) <|
 some (decide (((x1.getD i113.toNat dlck).node) = i3)))
 (some false)) fun b157 =>
 iteO b157
 (guardO (0 ≤ i113 ∧ i113 < ((x1.length : Nat) : Int)) <|
 some (.inl ((x1.getD i113.toNat dlck).mode)))
 (spec_held_L1 x1 i2 i3 n (w64 (i113 + 1))))
 (some (.inr ()))

theorem spec_held_L1_ok (w : World) (X : Nat → Prop) (θ : List Loc) (x1 : List Lck) (i2 : Int) (i3 : Int) (v : (Int) ⊕ (Unit)) : ∀ (n : Nat) (i113 : Int), spec_held_L1 x1 i2 i3 n i113 = some v → WL EE ⟨w, X, θ, 35, 1⟩ (subC [1, 0, 1, 4, 4] (bodyC Tryd.f77)) (fun (e : Exit) (s : St) => (match v with | (.inl i139) => e = .ret ∧ s = ⟨[(6, I i139)], [.row .lck x1 false]⟩ | (.inr _) => e = .exit 0 ∧ s = ⟨[], [.row .lck x1 false]⟩ : Prop)) ⟨[(0, .one (.e (.sl 0 0 x1.length))), (1, I i2), (2, I i3), (7, I i113)], [.row .lck x1 false]⟩ := by
  intro n
  induction n with
  | zero => intro _ h; exact none_e h
  | succ n ih =>
    intro i113 h
    rw [spec_held_L1] at h
    refine WL_round ?_
    refine W_seq ?_
    refine W_seq ?_
    refine W_region ?_
    refine WO_step 4 [0] [0, 1, 2, 7, 11] (True ∧ (True ∧ True)) ⟨[(0, .one (.e (.sl 0 0 x1.length))), (1, I i2), (2, I i3), (7, I i113), (11, B (decide (i113 < ((x1.length : Nat) : Int))))], [.row .lck x1 false]⟩ (by kernel_rfl) ⟨trivial, trivial, trivial⟩ ?_
    refine WO_nil rfl ?_
    refine thenS_n ?_
    refine iteO_e h (fun hb142 h => W_true rfl hb142 ?_) (fun hb142 h => W_false rfl hb142 ?_)
    · refine W_sub [0] [0, 1, 2, 7] (st' := ⟨[(0, .one (.e (.sl 0 0 x1.length))), (1, I i2), (2, I i3), (7, I i113)], [.row .lck x1 false]⟩) (by kernel_rfl) ?_
      refine W_skip ?_
      refine thenS_n ?_
      refine W_seq ?_
      refine W_block ?_
      refine W_seq ?_
      refine W_region ?_
      refine guardO_e h (fun hg154 h => ?_)
      refine WO_step 8 [0] [0, 1, 2, 7, 21] ((0 ≤ i113 ∧ i113 < ((x1.length : Nat) : Int)) ∧ (True ∧ (True ∧ True))) ⟨[(0, .one (.e (.sl 0 0 x1.length))), (1, I i2), (2, I i3), (7, I i113), (21, B (decide (((x1.getD i113.toNat dlck).who) = i2)))], [.row .lck x1 false]⟩ (by kernel_rfl) ⟨hg154, trivial, trivial, trivial⟩ ?_
      refine bindO_e h (fun b157 hv158 h => ?_)
      refine WO_thru ⟨[(0, .one (.e (.sl 0 0 x1.length))), (1, I i2), (2, I i3), (7, I i113), (29, B b157)], [.row .lck x1 false]⟩ ?_ ?_
      · refine iteO_e hv158 (fun hb159 hv158 => WO_known 21 true rfl hb159 ?_) (fun hb159 hv158 => WO_known 21 false rfl hb159 ?_)
        · refine guardO_e hv158 (fun hg160 hv158 => ?_)
          refine WO_step 8 [0] [0, 1, 2, 7, 29] ((0 ≤ i113 ∧ i113 < ((x1.length : Nat) : Int)) ∧ (True ∧ (True ∧ True))) ⟨[(0, .one (.e (.sl 0 0 x1.length))), (1, I i2), (2, I i3), (7, I i113), (29, B (decide (((x1.getD i113.toNat dlck).node) = i3)))], [.row .lck x1 false]⟩ (by kernel_rfl) ⟨hg160, trivial, trivial, trivial⟩ ?_
          cases hv158
          exact WO_nil rfl ⟨rfl, rfl⟩
        · refine WO_step 8 [0] [0, 1, 2, 7, 29] True ⟨[(0, .one (.e (.sl 0 0 x1.length))), (1, I i2), (2, I i3), (7, I i113), (29, B false)], [.row .lck x1 false]⟩ (by kernel_rfl) trivial ?_
          cases hv158
          exact WO_nil rfl ⟨rfl, rfl⟩
      · refine thenS_n ?_
        refine iteO_e h (fun hb163 h => W_true rfl hb163 ?_) (fun hb163 h => W_false rfl hb163 ?_)
        · refine W_seq ?_
          refine W_region ?_
          refine guardO_e h (fun hg164 h => ?_)
          refine WO_step 6 [0] [6] ((0 ≤ i113 ∧ i113 < ((x1.length : Nat) : Int)) ∧ (True ∧ True)) ⟨[(6, I ((x1.getD i113.toNat dlck).mode))], [.row .lck x1 false]⟩ (by kernel_rfl) ⟨hg164, trivial, trivial⟩ ?_
          refine WO_nil rfl ?_
          refine thenS_n ?_
          refine W_ret ?_
          refine blockS_r ?_
          refine thenS_r ?_
          refine thenS_r ?_
          cases h
          exact And.intro rfl rfl
        · refine W_sub [0] [0, 1, 2, 7] (st' := ⟨[(0, .one (.e (.sl 0 0 x1.length))), (1, I i2), (2, I i3), (7, I i113)], [.row .lck x1 false]⟩) (by kernel_rfl) ?_
          refine W_skip ?_
          refine blockS_n ?_
          refine thenS_n ?_
          refine W_region ?_
          refine WO_step 3 [0] [0, 1, 2, 7] (True ∧ True) ⟨[(0, .one (.e (.sl 0 0 x1.length))), (1, I i2), (2, I i3), (7, I (w64 (i113 + 1)))], [.row .lck x1 false]⟩ (by kernel_rfl) ⟨trivial, trivial⟩ ?_
          refine WO_nil rfl ?_
          refine thenS_n ?_
          exact ih _ h
    · refine W_sub [0] [] (st' := ⟨[], [.row .lck x1 false]⟩) (by kernel_rfl) ?_
      refine W_exit ?_
      refine thenS_e ?_
      refine thenS_e ?_
      cases h
      exact And.intro rfl rfl

def spec_held (n : Nat) (x1 : List Lck) (i2 : Int) (i3 : Int) : Option (Int) :=
 bindO (spec_held_L1 x1 i2 i3 n 0) fun v165 =>
 match v165 with
 | (.inl i139) => (some i139)
 | (.inr _) => (some 0)


theorem spec_held_ok (n : Nat) (x1 : List Lck) (i2 : Int) (i3 : Int) (i84 : Int) (h : spec_held n x1 i2 i3 = some i84) : FOk EE 77 [.one (.e (.sl 0 0 x1.length)), I i2, I i3] [.row .lck x1 false] (I i84) [.row .lck x1 false] := by
  unfold spec_held at h
  refine FOk_of_W 35 1 Tryd.func77 rfl rfl (Nat.le_of_ble_eq_true rfl) rfl (fun w X θ => ?_)
  refine W_seq ?_
  refine W_region ?_
  refine WO_step 1 [0] [0, 1, 2] True ⟨[(0, .one (.e (.sl 0 0 x1.length))), (1, I i2), (2, I i3)], [.row .lck x1 false]⟩ (by kernel_rfl) trivial ?_
  refine WO_nil rfl ?_
  refine thenS_n ?_
  refine W_seq ?_
  refine W_seq ?_
  refine W_region ?_
  refine WO_step 1 [0] [0, 1, 2, 7] True ⟨[(0, .one (.e (.sl 0 0 x1.length))), (1, I i2), (2, I i3), (7, I 0)], [.row .lck x1 false]⟩ (by kernel_rfl) trivial ?_
  refine WO_nil rfl ?_
  refine thenS_n ?_
  refine W_block ?_
  refine W_loop ?_
  refine bindO_e h (fun v165 hv165 h => ?_)
  refine WL_cut (spec_held_L1_ok w X θ x1 i2 i3 v165 n 0 hv165) ?_
  rcases v165 with i139 | _
  · rintro _ _ ⟨rfl, rfl⟩
    refine blockS_r ?_
    refine thenS_r ?_
    cases h
    exact ⟨[0], True, by kernel_rfl, trivial⟩
  · rintro _ _ ⟨rfl, rfl⟩
    refine blockS_y ?_
    refine thenS_n ?_
    refine W_seq ?_
    refine W_region ?_
    refine WO_step 1 [0] [6] True ⟨[(6, I 0)], [.row .lck x1 false]⟩ (by kernel_rfl) trivial ?_
    refine WO_nil rfl ?_
    refine thenS_n ?_
    refine W_ret ?_
    cases h
    exact ⟨[0], True, by kernel_rfl, trivial⟩

/- spec.joined -/
def spec_joined (i1 : Int) (i2 : Int) : Option (Int) :=
 iteO ((decide ((if i2 < i1 then i2 else i1) = 2)) && (decide ((if i2 > i1 then i2 else i1) = 3)))
 (some 4)
 (some (if i2 > i1 then i2 else i1))

theorem spec_joined_ok (i1 : Int) (i2 : Int) (i8 : Int) (h : spec_joined i1 i2 = some i8) : FOk EE 76 [I i1, I i2] [] (I i8) [] := by
  unfold spec_joined at h
  refine FOk_of_W 20 0 Tryd.func76 rfl rfl (Nat.le_of_ble_eq_true rfl) rfl (fun w X θ => ?_)
  refine W_seq ?_
  refine W_region ?_
  refine WO_step 1 [] [0, 1] True ⟨[(0, I i1), (1, I i2)], []⟩ (by kernel_rfl) trivial ?_
  refine WO_nil rfl ?_
  refine thenS_n ?_
  refine W_seq ?_
  refine W_region ?_
  refine WO_step 4 [] [0, 1, 5] (True ∧ True) ⟨[(0, I i1), (1, I i2), (5, I (if i2 < i1 then i2 else i1))], []⟩ (by kernel_rfl) ⟨trivial, trivial⟩ ?_
  refine WO_nil rfl ?_
  refine thenS_n ?_
  refine W_seq ?_
  refine W_region ?_
  refine WO_step 4 [] [5, 6] (True ∧ True) ⟨[(5, I (if i2 < i1 then i2 else i1)), (6, I (if i2 > i1 then i2 else i1))], []⟩ (by kernel_rfl) ⟨trivial, trivial⟩ ?_
  refine WO_nil rfl ?_
  refine thenS_n ?_
  refine W_seq ?_
  refine W_seq ?_
  refine W_region ?_
  refine WO_step 3 [] [6, 15] (True ∧ True) ⟨[(6, I (if i2 > i1 then i2 else i1)), (15, B (decide ((if i2 < i1 then i2 else i1) = 2)))], []⟩ (by kernel_rfl) ⟨trivial, trivial⟩ ?_
  refine WO_thru ⟨[(6, I (if i2 > i1 then i2 else i1)), (18, B ((decide ((if i2 < i1 then i2 else i1) = 2)) && (decide ((if i2 > i1 then i2 else i1) = 3))))], []⟩ ?_ ?_
  · refine WO_if 15 rfl (fun hb11 => ?_) (fun hb11 => ?_)
    · refine WO_step 3 [] [6, 18] (True ∧ True) ⟨[(6, I (if i2 > i1 then i2 else i1)), (18, B (decide ((if i2 > i1 then i2 else i1) = 3)))], []⟩ (by kernel_rfl) ⟨trivial, trivial⟩ ?_
      exact WO_nil rfl ⟨rfl, by first | rfl | (rw [hb11]; first | done | rfl)⟩
    · refine WO_step 3 [] [6, 18] True ⟨[(6, I (if i2 > i1 then i2 else i1)), (18, B false)], []⟩ (by kernel_rfl) trivial ?_
      exact WO_nil rfl ⟨rfl, by first | rfl | (rw [hb11]; first | done | rfl)⟩
  · refine thenS_n ?_
    refine iteO_e h (fun hb13 h => W_true rfl hb13 ?_) (fun hb13 h => W_false rfl hb13 ?_)
    · refine W_seq ?_
      refine W_region ?_
      refine WO_step 1 [] [4] True ⟨[(4, I 4)], []⟩ (by kernel_rfl) trivial ?_
      refine WO_nil rfl ?_
      refine thenS_n ?_
      refine W_ret ?_
      refine thenS_r ?_
      cases h
      exact ⟨[], True, by kernel_rfl, trivial⟩
    · refine W_sub [] [6] (st' := ⟨[(6, I (if i2 > i1 then i2 else i1))], []⟩) (by kernel_rfl) ?_
      refine W_skip ?_
      refine thenS_n ?_
      refine W_seq ?_
      refine W_region ?_
      refine WO_step 2 [] [4] True ⟨[(4, I (if i2 > i1 then i2 else i1))], []⟩ (by kernel_rfl) trivial ?_
      refine WO_nil rfl ?_
      refine thenS_n ?_
      refine W_ret ?_
      cases h
      exact ⟨[], True, by kernel_rfl, trivial⟩

/- spec.blockers -/
def spec_blockers_L1 (x1 : List Lck) (i2 : Int) (i3 : Int) (i4 : Int) : Nat → (List Int) → Int → Option ((List Int))
| 0, _, _ => none
| n + 1, x158, i159 =>
 iteO (decide (i159 < 4))
 (bindO (iteO (!decide (i159 = i2))
 (bindO (spec_held n x1 i159 i3) fun i224 =>
 bindO (spec_goTogether i224 i4) fun b226 =>
 some (!b226))
 (some false)) fun b221 =>
 bindO (iteO b221
 (guardO (0 = 0 ∧ x158.length = x158.length ∧ x158.length + (([i159].drop 0).take ([i159].length)).length ≤ 1099511627776) <|
 some (x158 ++ (([i159].drop 0).take ([i159].length))))
 (some x158)) fun x230 =>
 spec_blockers_L1 x1 i2 i3 i4 n x230 (w64 (i159 + 1)))
 (some x158)

theorem spec_blockers_L1_ok (w : World) (X : Nat → Prop) (θ : List Loc) (x1 : List Lck) (i2 : Int) (i3 : Int) (i4 : Int) (x196 : (List Int)) : ∀ (n : Nat) (x158 : List Int) (i159 : Int), spec_blockers_L1 x1 i2 i3 i4 n x158 i159 = some x196 → WL EE ⟨w, X, θ, 33, 1⟩ (subC [1, 1, 0, 1, 4, 4] (bodyC Tryd.f75)) (fun (e : Exit) (s : St) => e = .exit 0 ∧ s = ⟨[(9, .one (.e (.sl 1 0 x196.length)))], [.row .lck x1 false, .row .int x196 true]⟩) ⟨[(0, .one (.e (.sl 0 0 x1.length))), (1, I i2), (2, I i3), (3, I i4), (9, .one (.e (.sl 1 0 x158.length))), (10, I i159)], [.row .lck x1 false, .row .int x158 true]⟩ := by
  intro n
  induction n with
  | zero => intro _ _ h; exact none_e h
  | succ n ih =>
    intro x158 i159 h
    rw [spec_blockers_L1] at h
    refine WL_round ?_
    refine W_seq ?_
    refine W_seq ?_
    refine W_region ?_
    refine WO_step 2 [0, 1] [0, 1, 2, 3, 9, 10, 13] (True ∧ True) ⟨[(0, .one (.e (.sl 0 0 x1.length))), (1, I i2), (2, I i3), (3, I i4), (9, .one (.e (.sl 1 0 x158.length))), (10, I i159), (13, B (decide (i159 < 4)))], [.row .lck x1 false, .row .int x158 true]⟩ (by kernel_rfl) ⟨trivial, trivial⟩ ?_
    refine WO_nil rfl ?_
    refine thenS_n ?_
    refine iteO_e h (fun hb199 h => W_true rfl hb199 ?_) (fun hb199 h => W_false rfl hb199 ?_)
    · refine W_sub [0, 1] [0, 1, 2, 3, 9, 10] (st' := ⟨[(0, .one (.e (.sl 0 0 x1.length))), (1, I i2), (2, I i3), (3, I i4), (9, .one (.e (.sl 1 0 x158.length))), (10, I i159)], [.row .lck x1 false, .row .int x158 true]⟩) (by kernel_rfl) ?_
      refine W_skip ?_
      refine thenS_n ?_
      refine W_seq ?_
      refine W_block ?_
      refine W_seq ?_
      refine W_region ?_
      refine WO_step 4 [0, 1] [0, 1, 2, 3, 9, 10, 19] (True ∧ True) ⟨[(0, .one (.e (.sl 0 0 x1.length))), (1, I i2), (2, I i3), (3, I i4), (9, .one (.e (.sl 1 0 x158.length))), (10, I i159), (19, B (!decide (i159 = i2)))], [.row .lck x1 false, .row .int x158 true]⟩ (by kernel_rfl) ⟨trivial, trivial⟩ ?_
      refine bindO_e h (fun b221 hv222 h => ?_)
      refine WO_thru ⟨[(0, .one (.e (.sl 0 0 x1.length))), (1, I i2), (2, I i3), (3, I i4), (9, .one (.e (.sl 1 0 x158.length))), (10, I i159), (27, B b221)], [.row .lck x1 false, .row .int x158 true]⟩ ?_ ?_
      · refine iteO_e hv222 (fun hb223 hv222 => WO_known 19 true rfl hb223 ?_) (fun hb223 hv222 => WO_known 19 false rfl hb223 ?_)
        · refine WO_step 3 [0, 1] [0, 1, 2, 3, 9, 10, 19, 20, 21, 22] True ⟨[(0, .one (.e (.sl 0 0 x1.length))), (1, I i2), (2, I i3), (3, I i4), (9, .one (.e (.sl 1 0 x158.length))), (10, I i159), (19, B true), (20, .one (.e (.sl 0 0 x1.length))), (21, I i159), (22, I i3)], [.row .lck x1 false, .row .int x158 true]⟩ (by kernel_rfl) trivial ?_
          refine bindO_e hv222 (fun i224 hc225 hv222 => ?_)
          refine WO_call [.ro 0] Tryd.f77 rfl rfl rfl (by kernel_rfl) Tryd.func77 rfl (by kernel_rfl) (spec_held_ok n x1 i159 i3 i224 hc225) (And.intro (And.intro rfl rfl) (trivial)) rfl ?_
          refine WO_step 1 [0, 1] [0, 1, 2, 3, 9, 10, 19, 23, 24] True ⟨[(0, .one (.e (.sl 0 0 x1.length))), (1, I i2), (2, I i3), (3, I i4), (9, .one (.e (.sl 1 0 x158.length))), (10, I i159), (19, B true), (23, I i224), (24, I i4)], [.row .lck x1 false, .row .int x158 true]⟩ (by kernel_rfl) trivial ?_
          refine bindO_e hv222 (fun b226 hc227 hv222 => ?_)
          refine WO_call [] Tryd.f43 rfl rfl rfl (by kernel_rfl) Tryd.func43 rfl (by kernel_rfl) (spec_goTogether_ok i224 i4 b226 hc227) (trivial) rfl ?_
          refine WO_step 2 [0, 1] [0, 1, 2, 3, 9, 10, 27] True ⟨[(0, .one (.e (.sl 0 0 x1.length))), (1, I i2), (2, I i3), (3, I i4), (9, .one (.e (.sl 1 0 x158.length))), (10, I i159), (27, B (!b226))], [.row .lck x1 false, .row .int x158 true]⟩ (by kernel_rfl) trivial ?_
          cases hv222
          exact WO_nil rfl ⟨rfl, rfl⟩
        · refine WO_step 8 [0, 1] [0, 1, 2, 3, 9, 10, 27] True ⟨[(0, .one (.e (.sl 0 0 x1.length))), (1, I i2), (2, I i3), (3, I i4), (9, .one (.e (.sl 1 0 x158.length))), (10, I i159), (27, B false)], [.row .lck x1 false, .row .int x158 true]⟩ (by kernel_rfl) trivial ?_
          cases hv222
          exact WO_nil rfl ⟨rfl, rfl⟩
      · refine thenS_n ?_
        refine bindO_e h (fun x230 hx230 h => ?_)
        refine W_cut (Q' := fun (e : Exit) (s : St) => e = .normal ∧ s = ⟨[(0, .one (.e (.sl 0 0 x1.length))), (1, I i2), (2, I i3), (3, I i4), (9, .one (.e (.sl 1 0 x230.length))), (10, I i159)], [.row .lck x1 false, .row .int x230 true]⟩) ?_ ?_
        · refine iteO_e hx230 (fun hb232 hx230 => W_true rfl hb232 ?_) (fun hb232 hx230 => W_false rfl hb232 ?_)
          · refine W_region ?_
            refine guardO_e hx230 (fun hg233 hx230 => ?_)
            refine WO_step 5 [0, 3] [0, 1, 2, 3, 9, 10] ((0 = 0 ∧ x158.length = x158.length ∧ x158.length + (([i159].drop 0).take ([i159].length)).length ≤ 1099511627776) ∧ True) ⟨[(0, .one (.e (.sl 0 0 x1.length))), (1, I i2), (2, I i3), (3, I i4), (9, .one (.e (.sl 1 0 ((x158 ++ (([i159].drop 0).take ([i159].length))).length)))), (10, I i159)], [.row .lck x1 false, .row .int (x158 ++ (([i159].drop 0).take ([i159].length))) true]⟩ (by kernel_rfl) ⟨hg233, trivial⟩ ?_
            refine WO_nil rfl ?_
            cases hx230
            exact And.intro rfl rfl
          · refine W_sub [0, 1] [0, 1, 2, 3, 9, 10] (st' := ⟨[(0, .one (.e (.sl 0 0 x1.length))), (1, I i2), (2, I i3), (3, I i4), (9, .one (.e (.sl 1 0 x158.length))), (10, I i159)], [.row .lck x1 false, .row .int x158 true]⟩) (by kernel_rfl) ?_
            refine W_skip ?_
            cases hx230
            exact And.intro rfl rfl
        · rintro _ _ ⟨rfl, rfl⟩
          refine blockS_n ?_
          refine thenS_n ?_
          refine W_region ?_
          refine WO_step 3 [0, 1] [0, 1, 2, 3, 9, 10] (True ∧ True) ⟨[(0, .one (.e (.sl 0 0 x1.length))), (1, I i2), (2, I i3), (3, I i4), (9, .one (.e (.sl 1 0 x230.length))), (10, I (w64 (i159 + 1)))], [.row .lck x1 false, .row .int x230 true]⟩ (by kernel_rfl) ⟨trivial, trivial⟩ ?_
          refine WO_nil rfl ?_
          refine thenS_n ?_
          exact ih _ _ h
    · refine W_sub [0, 1] [9] (st' := ⟨[(9, .one (.e (.sl 1 0 x158.length)))], [.row .lck x1 false, .row .int x158 true]⟩) (by kernel_rfl) ?_
      refine W_exit ?_
      refine thenS_e ?_
      refine thenS_e ?_
      cases h
      exact And.intro rfl rfl

def spec_blockers (n : Nat) (x1 : List Lck) (i2 : Int) (i3 : Int) (i4 : Int) : Option ((List Int)) :=
 bindO (spec_blockers_L1 x1 i2 i3 i4 n ([] : List Int) 0) fun x196 =>
 some x196

theorem spec_blockers_ok (n : Nat) (x1 : List Lck) (i2 : Int) (i3 : Int) (i4 : Int) (x117 : List Int) (h : spec_blockers n x1 i2 i3 i4 = some x117) : FOk EE 75 [.one (.e (.sl 0 0 x1.length)), I i2, I i3, I i4] [.row .lck x1 false] (.one (.e (.sl 1 0 x117.length))) [.row .lck x1 false, .row .int x117 true] := by
  unfold spec_blockers at h
  refine FOk_of_W 33 1 Tryd.func75 rfl rfl (Nat.le_of_ble_eq_true rfl) rfl (fun w X θ => ?_)
  refine W_seq ?_
  refine W_region ?_
  refine WO_step 1 [0] [0, 1, 2, 3] True ⟨[(0, .one (.e (.sl 0 0 x1.length))), (1, I i2), (2, I i3), (3, I i4)], [.row .lck x1 false]⟩ (by kernel_rfl) trivial ?_
  refine WO_nil rfl ?_
  refine thenS_n ?_
  refine W_seq ?_
  refine W_region ?_
  refine WO_step 2 [0, 1] [0, 1, 2, 3, 9] True ⟨[(0, .one (.e (.sl 0 0 x1.length))), (1, I i2), (2, I i3), (3, I i4), (9, .one (.e (.sl 1 0 (([] : List Int).length))))], [.row .lck x1 false, .row .int ([] : List Int) true]⟩ (by kernel_rfl) trivial ?_
  refine WO_nil rfl ?_
  refine thenS_n ?_
  refine W_seq ?_
  refine W_seq ?_
  refine W_region ?_
  refine WO_step 1 [0, 1] [0, 1, 2, 3, 9, 10] True ⟨[(0, .one (.e (.sl 0 0 x1.length))), (1, I i2), (2, I i3), (3, I i4), (9, .one (.e (.sl 1 0 (([] : List Int).length)))), (10, I 0)], [.row .lck x1 false, .row .int ([] : List Int) true]⟩ (by kernel_rfl) trivial ?_
  refine WO_nil rfl ?_
  refine thenS_n ?_
  refine W_block ?_
  refine W_loop ?_
  refine bindO_e h (fun x196 hx196 h => ?_)
  refine WL_cut (spec_blockers_L1_ok w X θ x1 i2 i3 i4 x196 n ([] : List Int) 0 hx196) ?_
  rintro _ _ ⟨rfl, rfl⟩
  refine blockS_y ?_
  refine thenS_n ?_
  refine W_seq ?_
  refine W_region ?_
  refine WO_step 2 [0, 1] [8] True ⟨[(8, .one (.e (.sl 1 0 x196.length)))], [.row .lck x1 false, .row .int x196 true]⟩ (by kernel_rfl) trivial ?_
  refine WO_nil rfl ?_
  refine thenS_n ?_
  refine W_ret ?_
  cases h
  exact ⟨[0, 1], True, by kernel_rfl, trivial⟩

/- spec.grant -/
def spec_grant_L1 (i2 : Int) (i3 : Int) (i4 : Int) (x1 : List Lck) : Nat → Int → Option (((List Lck)) ⊕ (Unit))
| 0, _ => none
| n + 1, i165 =>
 iteO (decide (i165 < (((([] : List Lck) ++ ((x1.drop 0).take x1.length)).length : Nat) : Int)))
 (guardO (0 ≤ i165 ∧ i165 < (((([] : List Lck) ++ ((x1.drop 0).take x1.length)).length : Nat) : Int)) <|
 bindO (iteO (decide ((((([] : List Lck) ++ ((x1.drop 0).take x1.length)).getD i165.toNat dlck).who) = i2))
 (guardO (0 ≤ i165 ∧ i165 < (((([] : List Lck) ++ ((x1.drop 0).take x1.length)).length : Nat) : Int)) <|
 some (decide ((((([] : List Lck) ++ ((x1.drop 0).take x1.length)).getD i165.toNat dlck).node) = i3)))
 (some false)) fun b227 =>
 iteO b227
 (guardO (0 ≤ i165 ∧ i165 < (((([] : List Lck) ++ ((x1.drop 0).take x1.length)).length : Nat) : Int)) <|
 bindO (spec_joined (((([] : List Lck) ++ ((x1.drop 0).take x1.length)).getD i165.toNat dlck).mode) i4) fun i238 =>
 guardO (0 ≤ i165 ∧ i165 < (((([] : List Lck) ++ ((x1.drop 0).take x1.length)).length : Nat) : Int)) <|
 some (.inl ((([] : List Lck) ++ ((x1.drop 0).take x1.length)).set i165.toNat (⟨((([] : List Lck) ++ ((x1.drop 0).take x1.length)).getD i165.toNat dlck).who, ((([] : List Lck) ++ ((x1.drop 0).take x1.length)).getD i165.toNat dlck).node, i238⟩ : Lck))))
 (spec_grant_L1 i2 i3 i4 x1 n (w64 (i165 + 1))))
 (some (.inr ()))

theorem spec_grant_L1_ok (w : World) (X : Nat → Prop) (θ : List Loc) (i2 : Int) (i3 : Int) (i4 : Int) (x1 : List Lck) (v : ((List Lck)) ⊕ (Unit)) : ∀ (n : Nat) (i165 : Int), spec_grant_L1 i2 i3 i4 x1 n i165 = some v → WL EE ⟨w, X, θ, 55, 1⟩ (subC [1, 1, 0, 1, 4, 4] (bodyC Tryd.f78)) (fun (e : Exit) (s : St) => (match v with | (.inl x203) => e = .ret ∧ s = ⟨[(8, .one (.e (.sl 1 0 x203.length)))], [.row .lck x1 false, .row .lck x203 true]⟩ | (.inr _) => e = .exit 0 ∧ s = ⟨[(1, I i2), (2, I i3), (3, I i4), (9, .one (.e (.sl 1 0 ((([] : List Lck) ++ ((x1.drop 0).take x1.length)).length))))], [.row .lck x1 false, .row .lck (([] : List Lck) ++ ((x1.drop 0).take x1.length)) true]⟩ : Prop)) ⟨[(1, I i2), (2, I i3), (3, I i4), (9, .one (.e (.sl 1 0 ((([] : List Lck) ++ ((x1.drop 0).take x1.length)).length)))), (10, I i165)], [.row .lck x1 false, .row .lck (([] : List Lck) ++ ((x1.drop 0).take x1.length)) true]⟩ := by
  intro n
  induction n with
  | zero => intro _ h; exact none_e h
  | succ n ih =>
    intro i165 h
    rw [spec_grant_L1] at h
    refine WL_round ?_
    refine W_seq ?_
    refine W_seq ?_
    refine W_region ?_
    refine WO_step 4 [0, 1] [1, 2, 3, 9, 10, 17] (True ∧ (True ∧ True)) ⟨[(1, I i2), (2, I i3), (3, I i4), (9, .one (.e (.sl 1 0 ((([] : List Lck) ++ ((x1.drop 0).take x1.length)).length)))), (10, I i165), (17, B (decide (i165 < (((([] : List Lck) ++ ((x1.drop 0).take x1.length)).length : Nat) : Int))))], [.row .lck x1 false, .row .lck (([] : List Lck) ++ ((x1.drop 0).take x1.length)) true]⟩ (by kernel_rfl) ⟨trivial, trivial, trivial⟩ ?_
    refine WO_nil rfl ?_
    refine thenS_n ?_
    refine iteO_e h (fun hb206 h => W_true rfl hb206 ?_) (fun hb206 h => W_false rfl hb206 ?_)
    · refine W_sub [0, 1] [1, 2, 3, 9, 10] (st' := ⟨[(1, I i2), (2, I i3), (3, I i4), (9, .one (.e (.sl 1 0 ((([] : List Lck) ++ ((x1.drop 0).take x1.length)).length)))), (10, I i165)], [.row .lck x1 false, .row .lck (([] : List Lck) ++ ((x1.drop 0).take x1.length)) true]⟩) (by kernel_rfl) ?_
      refine W_skip ?_
      refine thenS_n ?_
      refine W_seq ?_
      refine W_block ?_
      refine W_seq ?_
      refine W_region ?_
      refine guardO_e h (fun hg224 h => ?_)
      refine WO_step 8 [0, 1] [1, 2, 3, 9, 10, 27] ((0 ≤ i165 ∧ i165 < (((([] : List Lck) ++ ((x1.drop 0).take x1.length)).length : Nat) : Int)) ∧ (True ∧ (True ∧ True))) ⟨[(1, I i2), (2, I i3), (3, I i4), (9, .one (.e (.sl 1 0 ((([] : List Lck) ++ ((x1.drop 0).take x1.length)).length)))), (10, I i165), (27, B (decide ((((([] : List Lck) ++ ((x1.drop 0).take x1.length)).getD i165.toNat dlck).who) = i2)))], [.row .lck x1 false, .row .lck (([] : List Lck) ++ ((x1.drop 0).take x1.length)) true]⟩ (by kernel_rfl) ⟨hg224, trivial, trivial, trivial⟩ ?_
      refine bindO_e h (fun b227 hv228 h => ?_)
      refine WO_thru ⟨[(1, I i2), (2, I i3), (3, I i4), (9, .one (.e (.sl 1 0 ((([] : List Lck) ++ ((x1.drop 0).take x1.length)).length)))), (10, I i165), (35, B b227)], [.row .lck x1 false, .row .lck (([] : List Lck) ++ ((x1.drop 0).take x1.length)) true]⟩ ?_ ?_
      · refine iteO_e hv228 (fun hb229 hv228 => WO_known 27 true rfl hb229 ?_) (fun hb229 hv228 => WO_known 27 false rfl hb229 ?_)
        · refine guardO_e hv228 (fun hg230 hv228 => ?_)
          refine WO_step 8 [0, 1] [1, 2, 3, 9, 10, 35] ((0 ≤ i165 ∧ i165 < (((([] : List Lck) ++ ((x1.drop 0).take x1.length)).length : Nat) : Int)) ∧ (True ∧ (True ∧ True))) ⟨[(1, I i2), (2, I i3), (3, I i4), (9, .one (.e (.sl 1 0 ((([] : List Lck) ++ ((x1.drop 0).take x1.length)).length)))), (10, I i165), (35, B (decide ((((([] : List Lck) ++ ((x1.drop 0).take x1.length)).getD i165.toNat dlck).node) = i3)))], [.row .lck x1 false, .row .lck (([] : List Lck) ++ ((x1.drop 0).take x1.length)) true]⟩ (by kernel_rfl) ⟨hg230, trivial, trivial, trivial⟩ ?_
          cases hv228
          exact WO_nil rfl ⟨rfl, rfl⟩
        · refine WO_step 8 [0, 1] [1, 2, 3, 9, 10, 35] True ⟨[(1, I i2), (2, I i3), (3, I i4), (9, .one (.e (.sl 1 0 ((([] : List Lck) ++ ((x1.drop 0).take x1.length)).length)))), (10, I i165), (35, B false)], [.row .lck x1 false, .row .lck (([] : List Lck) ++ ((x1.drop 0).take x1.length)) true]⟩ (by kernel_rfl) trivial ?_
          cases hv228
          exact WO_nil rfl ⟨rfl, rfl⟩
      · refine thenS_n ?_
        refine iteO_e h (fun hb236 h => W_true rfl hb236 ?_) (fun hb236 h => W_false rfl hb236 ?_)
        · refine W_seq ?_
          refine W_region ?_
          refine guardO_e h (fun hg237 h => ?_)
          refine WO_step 8 [0, 1] [9, 36, 37, 42, 43] ((0 ≤ i165 ∧ i165 < (((([] : List Lck) ++ ((x1.drop 0).take x1.length)).length : Nat) : Int)) ∧ (True ∧ True)) ⟨[(9, .one (.e (.sl 1 0 ((([] : List Lck) ++ ((x1.drop 0).take x1.length)).length)))), (36, .one (.e (.sl 1 0 ((([] : List Lck) ++ ((x1.drop 0).take x1.length)).length)))), (37, I i165), (42, I (((([] : List Lck) ++ ((x1.drop 0).take x1.length)).getD i165.toNat dlck).mode)), (43, I i4)], [.row .lck x1 false, .row .lck (([] : List Lck) ++ ((x1.drop 0).take x1.length)) true]⟩ (by kernel_rfl) ⟨hg237, trivial, trivial⟩ ?_
          refine bindO_e h (fun i238 hc239 h => ?_)
          refine WO_call [] Tryd.f76 rfl rfl rfl (by kernel_rfl) Tryd.func76 rfl (by kernel_rfl) (spec_joined_ok (((([] : List Lck) ++ ((x1.drop 0).take x1.length)).getD i165.toNat dlck).mode) i4 i238 hc239) (trivial) rfl ?_
          refine guardO_e h (fun hg240 h => ?_)
          refine WO_step 3 [0, 1] [9] ((0 ≤ i165 ∧ i165 < (((([] : List Lck) ++ ((x1.drop 0).take x1.length)).length : Nat) : Int)) ∧ (True ∧ True)) ⟨[(9, .one (.e (.sl 1 0 ((([] : List Lck) ++ ((x1.drop 0).take x1.length)).length))))], [.row .lck x1 false, .row .lck ((([] : List Lck) ++ ((x1.drop 0).take x1.length)).set i165.toNat (⟨((([] : List Lck) ++ ((x1.drop 0).take x1.length)).getD i165.toNat dlck).who, ((([] : List Lck) ++ ((x1.drop 0).take x1.length)).getD i165.toNat dlck).node, i238⟩ : Lck)) true]⟩ (by kernel_rfl) ⟨hg240, trivial, trivial⟩ ?_
          refine WO_eq (st' := ⟨[(9, .one (.e (.sl 1 0 (((([] : List Lck) ++ ((x1.drop 0).take x1.length)).set i165.toNat (⟨((([] : List Lck) ++ ((x1.drop 0).take x1.length)).getD i165.toNat dlck).who, ((([] : List Lck) ++ ((x1.drop 0).take x1.length)).getD i165.toNat dlck).node, i238⟩ : Lck)).length))))], [.row .lck x1 false, .row .lck ((([] : List Lck) ++ ((x1.drop 0).take x1.length)).set i165.toNat (⟨((([] : List Lck) ++ ((x1.drop 0).take x1.length)).getD i165.toNat dlck).who, ((([] : List Lck) ++ ((x1.drop 0).take x1.length)).getD i165.toNat dlck).node, i238⟩ : Lck)) true]⟩) (by simp only [List.length_set]) ?_
          refine WO_nil rfl ?_
          refine thenS_n ?_
          refine W_seq ?_
          refine W_region ?_
          refine WO_step 2 [0, 1] [8] True ⟨[(8, .one (.e (.sl 1 0 (((([] : List Lck) ++ ((x1.drop 0).take x1.length)).set i165.toNat (⟨((([] : List Lck) ++ ((x1.drop 0).take x1.length)).getD i165.toNat dlck).who, ((([] : List Lck) ++ ((x1.drop 0).take x1.length)).getD i165.toNat dlck).node, i238⟩ : Lck)).length))))], [.row .lck x1 false, .row .lck ((([] : List Lck) ++ ((x1.drop 0).take x1.length)).set i165.toNat (⟨((([] : List Lck) ++ ((x1.drop 0).take x1.length)).getD i165.toNat dlck).who, ((([] : List Lck) ++ ((x1.drop 0).take x1.length)).getD i165.toNat dlck).node, i238⟩ : Lck)) true]⟩ (by kernel_rfl) trivial ?_
          refine WO_nil rfl ?_
          refine thenS_n ?_
          refine W_ret ?_
          refine blockS_r ?_
          refine thenS_r ?_
          refine thenS_r ?_
          cases h
          exact And.intro rfl rfl
        · refine W_sub [0, 1] [1, 2, 3, 9, 10] (st' := ⟨[(1, I i2), (2, I i3), (3, I i4), (9, .one (.e (.sl 1 0 ((([] : List Lck) ++ ((x1.drop 0).take x1.length)).length)))), (10, I i165)], [.row .lck x1 false, .row .lck (([] : List Lck) ++ ((x1.drop 0).take x1.length)) true]⟩) (by kernel_rfl) ?_
          refine W_skip ?_
          refine blockS_n ?_
          refine thenS_n ?_
          refine W_region ?_
          refine WO_step 3 [0, 1] [1, 2, 3, 9, 10] (True ∧ True) ⟨[(1, I i2), (2, I i3), (3, I i4), (9, .one (.e (.sl 1 0 ((([] : List Lck) ++ ((x1.drop 0).take x1.length)).length)))), (10, I (w64 (i165 + 1)))], [.row .lck x1 false, .row .lck (([] : List Lck) ++ ((x1.drop 0).take x1.length)) true]⟩ (by kernel_rfl) ⟨trivial, trivial⟩ ?_
          refine WO_nil rfl ?_
          refine thenS_n ?_
          exact ih _ h
    · refine W_sub [0, 1] [1, 2, 3, 9] (st' := ⟨[(1, I i2), (2, I i3), (3, I i4), (9, .one (.e (.sl 1 0 ((([] : List Lck) ++ ((x1.drop 0).take x1.length)).length))))], [.row .lck x1 false, .row .lck (([] : List Lck) ++ ((x1.drop 0).take x1.length)) true]⟩) (by kernel_rfl) ?_
      refine W_exit ?_
      refine thenS_e ?_
      refine thenS_e ?_
      cases h
      exact And.intro rfl rfl

def spec_grant (n : Nat) (x1 : List Lck) (i2 : Int) (i3 : Int) (i4 : Int) : Option ((List Lck)) :=
 guardO (0 = 0 ∧ ([] : List Lck).length = ([] : List Lck).length ∧ ([] : List Lck).length + ((x1.drop 0).take x1.length).length ≤ 1099511627776) <|
 bindO (spec_grant_L1 i2 i3 i4 x1 n 0) fun v241 =>
 match v241 with
 | (.inl x203) => (some x203)
 | (.inr _) => (guardO (0 = 0 ∧ (([] : List Lck) ++ ((x1.drop 0).take x1.length)).length = (([] : List Lck) ++ ((x1.drop 0).take x1.length)).length ∧ (([] : List Lck) ++ ((x1.drop 0).take x1.length)).length + (([(⟨i2, i3, i4⟩ : Lck)].drop 0).take ([(⟨i2, i3, i4⟩ : Lck)].length)).length ≤ 1099511627776) <|
 some ((([] : List Lck) ++ ((x1.drop 0).take x1.length)) ++ (([(⟨i2, i3, i4⟩ : Lck)].drop 0).take ([(⟨i2, i3, i4⟩ : Lck)].length))))


theorem spec_grant_ok (n : Nat) (x1 : List Lck) (i2 : Int) (i3 : Int) (i4 : Int) (x123 : List Lck) (h : spec_grant n x1 i2 i3 i4 = some x123) : FOk EE 78 [.one (.e (.sl 0 0 x1.length)), I i2, I i3, I i4] [.row .lck x1 false] (.one (.e (.sl 1 0 x123.length))) [.row .lck x1 false, .row .lck x123 true] := by
  unfold spec_grant at h
  refine FOk_of_W 55 1 Tryd.func78 rfl rfl (Nat.le_of_ble_eq_true rfl) rfl (fun w X θ => ?_)
  refine W_seq ?_
  refine W_region ?_
  refine WO_step 1 [0] [0, 1, 2, 3] True ⟨[(0, .one (.e (.sl 0 0 x1.length))), (1, I i2), (2, I i3), (3, I i4)], [.row .lck x1 false]⟩ (by kernel_rfl) trivial ?_
  refine WO_nil rfl ?_
  refine thenS_n ?_
  refine W_seq ?_
  refine W_region ?_
  refine guardO_e h (fun hg124 h => ?_)
  refine WO_step 4 [0, 2] [1, 2, 3, 9] ((0 = 0 ∧ ([] : List Lck).length = ([] : List Lck).length ∧ ([] : List Lck).length + ((x1.drop 0).take x1.length).length ≤ 1099511627776) ∧ True) ⟨[(1, I i2), (2, I i3), (3, I i4), (9, .one (.e (.sl 1 0 ((([] : List Lck) ++ ((x1.drop 0).take x1.length)).length))))], [.row .lck x1 false, .row .lck (([] : List Lck) ++ ((x1.drop 0).take x1.length)) true]⟩ (by kernel_rfl) ⟨hg124, trivial⟩ ?_
  refine WO_nil rfl ?_
  refine thenS_n ?_
  refine W_seq ?_
  refine W_seq ?_
  refine W_region ?_
  refine WO_step 1 [0, 1] [1, 2, 3, 9, 10] True ⟨[(1, I i2), (2, I i3), (3, I i4), (9, .one (.e (.sl 1 0 ((([] : List Lck) ++ ((x1.drop 0).take x1.length)).length)))), (10, I 0)], [.row .lck x1 false, .row .lck (([] : List Lck) ++ ((x1.drop 0).take x1.length)) true]⟩ (by kernel_rfl) trivial ?_
  refine WO_nil rfl ?_
  refine thenS_n ?_
  refine W_block ?_
  refine W_loop ?_
  refine bindO_e h (fun v241 hv241 h => ?_)
  refine WL_cut (spec_grant_L1_ok w X θ i2 i3 i4 x1 v241 n 0 hv241) ?_
  rcases v241 with x203 | _
  · rintro _ _ ⟨rfl, rfl⟩
    refine blockS_r ?_
    refine thenS_r ?_
    cases h
    exact ⟨[0, 1], True, by kernel_rfl, trivial⟩
  · rintro _ _ ⟨rfl, rfl⟩
    refine blockS_y ?_
    refine thenS_n ?_
    refine W_seq ?_
    refine W_region ?_
    refine guardO_e h (fun hg242 h => ?_)
    refine WO_step 8 [0, 3] [8] ((0 = 0 ∧ (([] : List Lck) ++ ((x1.drop 0).take x1.length)).length = (([] : List Lck) ++ ((x1.drop 0).take x1.length)).length ∧ (([] : List Lck) ++ ((x1.drop 0).take x1.length)).length + (([(⟨i2, i3, i4⟩ : Lck)].drop 0).take ([(⟨i2, i3, i4⟩ : Lck)].length)).length ≤ 1099511627776) ∧ True) ⟨[(8, .one (.e (.sl 1 0 (((([] : List Lck) ++ ((x1.drop 0).take x1.length)) ++ (([(⟨i2, i3, i4⟩ : Lck)].drop 0).take ([(⟨i2, i3, i4⟩ : Lck)].length))).length))))], [.row .lck x1 false, .row .lck ((([] : List Lck) ++ ((x1.drop 0).take x1.length)) ++ (([(⟨i2, i3, i4⟩ : Lck)].drop 0).take ([(⟨i2, i3, i4⟩ : Lck)].length))) true]⟩ (by kernel_rfl) ⟨hg242, trivial⟩ ?_
    refine WO_nil rfl ?_
    refine thenS_n ?_
    refine W_ret ?_
    cases h
    exact ⟨[0, 1], True, by kernel_rfl, trivial⟩

/- spec.TakeLock -/
def spec_TakeLock (n : Nat) (x1 : List Lck) (i2 : Int) (i3 : Int) (i4 : Int) : Option ((List Lck) × Bool) :=
 bindO (spec_validAsk n x1 i2 i3 i4) fun b29 =>
 bindO (iteO (!b29)
 (some true)
 (bindO (spec_held n x1 i2 i3) fun i41 =>
 bindO (spec_joined i41 i4) fun i43 =>
 bindO (spec_blockers n x1 i2 i3 i43) fun x45 =>
 some (decide (0 < ((x45.length : Nat) : Int))))) fun b38 =>
 iteO b38
 (some (([] : List Lck), false))
 (bindO (spec_grant n x1 i2 i3 i4) fun x49 =>
 some (x49, true))

theorem spec_TakeLock_ok (n : Nat) (x1 : List Lck) (i2 : Int) (i3 : Int) (i4 : Int) (x27 : List Lck) (b28 : Bool) (h : spec_TakeLock n x1 i2 i3 i4 = some (x27, b28)) : FOk EE 60 [.one (.e (.sl 0 0 x1.length)), I i2, I i3, I i4] [.row .lck x1 false] (.tup [.e (.sl 1 0 x27.length), .e (cB b28)]) [.row .lck x1 false, .row .lck x27 true] := by
  unfold spec_TakeLock at h
  refine FOk_of_W 35 1 Tryd.func60 rfl rfl (Nat.le_of_ble_eq_true rfl) rfl (fun w X θ => ?_)
  refine W_seq ?_
  refine W_region ?_
  refine WO_step 2 [0] [0, 1, 2, 3] True ⟨[(0, .one (.e (.sl 0 0 x1.length))), (1, I i2), (2, I i3), (3, I i4)], [.row .lck x1 false]⟩ (by kernel_rfl) trivial ?_
  refine WO_nil rfl ?_
  refine thenS_n ?_
  refine W_seq ?_
  refine W_seq ?_
  refine W_region ?_
  refine WO_step 4 [0] [0, 1, 2, 3, 10, 11, 12, 13] True ⟨[(0, .one (.e (.sl 0 0 x1.length))), (1, I i2), (2, I i3), (3, I i4), (10, .one (.e (.sl 0 0 x1.length))), (11, I i2), (12, I i3), (13, I i4)], [.row .lck x1 false]⟩ (by kernel_rfl) trivial ?_
  refine bindO_e h (fun b29 hc30 h => ?_)
  refine WO_call [.ro 0] Tryd.f74 rfl rfl rfl (by kernel_rfl) Tryd.func74 rfl (by kernel_rfl) (spec_validAsk_ok n x1 i2 i3 i4 b29 hc30) (And.intro (And.intro rfl rfl) (trivial)) rfl ?_
  refine WO_step 2 [0] [0, 1, 2, 3, 16] True ⟨[(0, .one (.e (.sl 0 0 x1.length))), (1, I i2), (2, I i3), (3, I i4), (16, B (!b29))], [.row .lck x1 false]⟩ (by kernel_rfl) trivial ?_
  refine bindO_e h (fun b38 hv39 h => ?_)
  refine WO_thru ⟨[(0, .one (.e (.sl 0 0 x1.length))), (1, I i2), (2, I i3), (3, I i4), (29, B b38)], [.row .lck x1 false]⟩ ?_ ?_
  · refine iteO_e hv39 (fun hb40 hv39 => WO_known 16 true rfl hb40 ?_) (fun hb40 hv39 => WO_known 16 false rfl hb40 ?_)
    · refine WO_step 13 [0] [0, 1, 2, 3, 29] True ⟨[(0, .one (.e (.sl 0 0 x1.length))), (1, I i2), (2, I i3), (3, I i4), (29, B true)], [.row .lck x1 false]⟩ (by kernel_rfl) trivial ?_
      cases hv39
      exact WO_nil rfl ⟨rfl, rfl⟩
    · refine WO_step 6 [0] [0, 1, 2, 3, 16, 17, 18, 19, 20, 21, 22] True ⟨[(0, .one (.e (.sl 0 0 x1.length))), (1, I i2), (2, I i3), (3, I i4), (16, B false), (17, .one (.e (.sl 0 0 x1.length))), (18, I i2), (19, I i3), (20, .one (.e (.sl 0 0 x1.length))), (21, I i2), (22, I i3)], [.row .lck x1 false]⟩ (by kernel_rfl) trivial ?_
      refine bindO_e hv39 (fun i41 hc42 hv39 => ?_)
      refine WO_call [.ro 0] Tryd.f77 rfl rfl rfl (by kernel_rfl) Tryd.func77 rfl (by kernel_rfl) (spec_held_ok n x1 i2 i3 i41 hc42) (And.intro (And.intro rfl rfl) (trivial)) rfl ?_
      refine WO_step 1 [0] [0, 1, 2, 3, 16, 17, 18, 19, 23, 24] True ⟨[(0, .one (.e (.sl 0 0 x1.length))), (1, I i2), (2, I i3), (3, I i4), (16, B false), (17, .one (.e (.sl 0 0 x1.length))), (18, I i2), (19, I i3), (23, I i41), (24, I i4)], [.row .lck x1 false]⟩ (by kernel_rfl) trivial ?_
      refine bindO_e hv39 (fun i43 hc44 hv39 => ?_)
      refine WO_call [] Tryd.f76 rfl rfl rfl (by kernel_rfl) Tryd.func76 rfl (by kernel_rfl) (spec_joined_ok i41 i4 i43 hc44) (trivial) rfl ?_
      refine WO_sub [0] [0, 1, 2, 3, 16, 17, 18, 19, 25] (st' := ⟨[(0, .one (.e (.sl 0 0 x1.length))), (1, I i2), (2, I i3), (3, I i4), (16, B false), (17, .one (.e (.sl 0 0 x1.length))), (18, I i2), (19, I i3), (25, I i43)], [.row .lck x1 false]⟩) (by kernel_rfl) ?_
      refine bindO_e hv39 (fun x45 hc46 hv39 => ?_)
      refine WO_call [.ro 0] Tryd.f75 rfl rfl rfl (by kernel_rfl) Tryd.func75 rfl (by kernel_rfl) (spec_blockers_ok n x1 i2 i3 i43 x45 hc46) (And.intro (And.intro rfl rfl) (trivial)) rfl ?_
      refine WO_step 3 [0] [0, 1, 2, 3, 29] (True ∧ (True ∧ True)) ⟨[(0, .one (.e (.sl 0 0 x1.length))), (1, I i2), (2, I i3), (3, I i4), (29, B (decide (0 < ((x45.length : Nat) : Int))))], [.row .lck x1 false]⟩ (by kernel_rfl) ⟨trivial, trivial, trivial⟩ ?_
      cases hv39
      exact WO_nil rfl ⟨rfl, rfl⟩
  · refine thenS_n ?_
    refine iteO_e h (fun hb48 h => W_true rfl hb48 ?_) (fun hb48 h => W_false rfl hb48 ?_)
    · refine W_seq ?_
      refine W_region ?_
      refine WO_step 2 [0] [8, 9] True ⟨[(8, .one (.e (.nsl))), (9, B false)], [.row .lck x1 false]⟩ (by kernel_rfl) trivial ?_
      refine WO_nilrow 8 .lck rfl ?_
      refine WO_sub [0, 1] [8, 9] (st' := ⟨[(8, .one (.e (.sl 1 0 (([] : List Lck).length)))), (9, B false)], [.row .lck x1 false, .row .lck ([] : List Lck) true]⟩) (by kernel_rfl) ?_
      refine WO_nil rfl ?_
      refine thenS_n ?_
      refine W_ret ?_
      refine thenS_r ?_
      cases h
      exact ⟨[0, 1], True, by kernel_rfl, trivial⟩
    · refine W_sub [0] [0, 1, 2, 3] (st' := ⟨[(0, .one (.e (.sl 0 0 x1.length))), (1, I i2), (2, I i3), (3, I i4)], [.row .lck x1 false]⟩) (by kernel_rfl) ?_
      refine W_skip ?_
      refine thenS_n ?_
      refine W_seq ?_
      refine W_region ?_
      refine WO_step 4 [0] [30, 31, 32, 33] True ⟨[(30, .one (.e (.sl 0 0 x1.length))), (31, I i2), (32, I i3), (33, I i4)], [.row .lck x1 false]⟩ (by kernel_rfl) trivial ?_
      refine bindO_e h (fun x49 hc50 h => ?_)
      refine WO_call [.ro 0] Tryd.f78 rfl rfl rfl (by kernel_rfl) Tryd.func78 rfl (by kernel_rfl) (spec_grant_ok n x1 i2 i3 i4 x49 hc50) (And.intro (And.intro rfl rfl) (trivial)) rfl ?_
      refine WO_step 2 [0, 1] [8, 9] True ⟨[(8, .one (.e (.sl 1 0 x49.length))), (9, B true)], [.row .lck x1 false, .row .lck x49 true]⟩ (by kernel_rfl) trivial ?_
      refine WO_nil rfl ?_
      refine thenS_n ?_
      refine W_ret ?_
      cases h
      exact ⟨[0, 1], True, by kernel_rfl, trivial⟩

/- spec.someTable -/
def spec_someTable_L1 (k2 : Nat) (x1 : List Int) : Nat → Int → (List Lck) → Int → Option ((Int × (List Lck)))
| 0, _, _, _ => none
| n + 1, i152, x153, i154 =>
 iteO (decide (0 < i154))
 (bindO (spec_reader_pick x1 k2 i152 4) fun i204 =>
 bindO (spec_reader_pick x1 k2 (w64 (i152 + 1)) 8) fun i206 =>
 bindO (spec_reader_pick x1 k2 (w64 ((w64 (i152 + 1)) + 1)) 5) fun i208 =>
 bindO (spec_TakeLock n x153 i204 i206 (w64 (1 + i208))) fun (x210, b211) =>
 bindO (iteO b211
 (some x210)
 (some x153)) fun x214 =>
 spec_someTable_L1 k2 x1 n (w64 ((w64 ((w64 (i152 + 1)) + 1)) + 1)) x214 (w64 (i154 - 1)))
 (some (i152, x153))

theorem spec_someTable_L1_ok (w : World) (X : Nat → Prop) (θ : List Loc) (k2 : Nat) (x1 : List Int) (v : (Int × (List Lck))) : ∀ (n : Nat) (i152 : Int) (x153 : List Lck) (i154 : Int), spec_someTable_L1 k2 x1 n i152 x153 i154 = some v → WL EE ⟨w, X, θ, 30, 2⟩ (subC [1, 1, 0, 1, 4, 4] (bodyC Tryd.f46)) (fun (e : Exit) (s : St) => (match v with | (i186, x187) => e = .exit 0 ∧ s = ⟨[(3, .one (.e (.sl 2 0 x187.length)))], [.cells [.sl 1 0 k2, cI i186], .row .u8 x1 false, .row .lck x187 true]⟩ : Prop)) ⟨[(0, .one (.e (.p 0 0))), (3, .one (.e (.sl 2 0 x153.length))), (4, I i154)], [.cells [.sl 1 0 k2, cI i152], .row .u8 x1 false, .row .lck x153 true]⟩ := by
  intro n
  induction n with
  | zero => intro _ _ _ h; exact none_e h
  | succ n ih =>
    intro i152 x153 i154 h
    rw [spec_someTable_L1] at h
    refine WL_round ?_
    refine W_seq ?_
    refine W_seq ?_
    refine W_region ?_
    refine WO_step 2 [0, 1, 2] [0, 3, 4, 12] (True ∧ True) ⟨[(0, .one (.e (.p 0 0))), (3, .one (.e (.sl 2 0 x153.length))), (4, I i154), (12, B (decide (0 < i154)))], [.cells [.sl 1 0 k2, cI i152], .row .u8 x1 false, .row .lck x153 true]⟩ (by kernel_rfl) ⟨trivial, trivial⟩ ?_
    refine WO_nil rfl ?_
    refine thenS_n ?_
    refine iteO_e h (fun hb190 h => W_true rfl hb190 ?_) (fun hb190 h => W_false rfl hb190 ?_)
    · refine W_sub [0, 1, 2] [0, 3, 4] (st' := ⟨[(0, .one (.e (.p 0 0))), (3, .one (.e (.sl 2 0 x153.length))), (4, I i154)], [.cells [.sl 1 0 k2, cI i152], .row .u8 x1 false, .row .lck x153 true]⟩) (by kernel_rfl) ?_
      refine W_skip ?_
      refine thenS_n ?_
      refine W_seq ?_
      refine W_block ?_
      refine W_seq ?_
      refine W_region ?_
      refine WO_step 2 [0, 1, 2] [0, 3, 4, 16, 17] True ⟨[(0, .one (.e (.p 0 0))), (3, .one (.e (.sl 2 0 x153.length))), (4, I i154), (16, .one (.e (.sl 2 0 x153.length))), (17, .one (.e (.p 0 0)))], [.cells [.sl 1 0 k2, cI i152], .row .u8 x1 false, .row .lck x153 true]⟩ (by kernel_rfl) trivial ?_
      refine bindO_e h (fun i204 hc205 h => ?_)
      refine WO_call [.own 0, .ro 1] Tryd.f47 rfl rfl rfl (by kernel_rfl) Tryd.func47 rfl (by kernel_rfl) (spec_reader_pick_ok x1 k2 i152 4 i204 hc205) (And.intro (trivial) (And.intro (And.intro rfl rfl) (trivial))) rfl ?_
      refine WO_step 1 [0, 1, 2] [0, 3, 4, 16, 18, 19] True ⟨[(0, .one (.e (.p 0 0))), (3, .one (.e (.sl 2 0 x153.length))), (4, I i154), (16, .one (.e (.sl 2 0 x153.length))), (18, I i204), (19, .one (.e (.p 0 0)))], [.cells [.sl 1 0 k2, cI (w64 (i152 + 1))], .row .u8 x1 false, .row .lck x153 true]⟩ (by kernel_rfl) trivial ?_
      refine bindO_e h (fun i206 hc207 h => ?_)
      refine WO_call [.own 0, .ro 1] Tryd.f47 rfl rfl rfl (by kernel_rfl) Tryd.func47 rfl (by kernel_rfl) (spec_reader_pick_ok x1 k2 (w64 (i152 + 1)) 8 i206 hc207) (And.intro (trivial) (And.intro (And.intro rfl rfl) (trivial))) rfl ?_
      refine WO_step 1 [0, 1, 2] [0, 3, 4, 16, 18, 20, 21] True ⟨[(0, .one (.e (.p 0 0))), (3, .one (.e (.sl 2 0 x153.length))), (4, I i154), (16, .one (.e (.sl 2 0 x153.length))), (18, I i204), (20, I i206), (21, .one (.e (.p 0 0)))], [.cells [.sl 1 0 k2, cI (w64 ((w64 (i152 + 1)) + 1))], .row .u8 x1 false, .row .lck x153 true]⟩ (by kernel_rfl) trivial ?_
      refine bindO_e h (fun i208 hc209 h => ?_)
      refine WO_call [.own 0, .ro 1] Tryd.f47 rfl rfl rfl (by kernel_rfl) Tryd.func47 rfl (by kernel_rfl) (spec_reader_pick_ok x1 k2 (w64 ((w64 (i152 + 1)) + 1)) 5 i208 hc209) (And.intro (trivial) (And.intro (And.intro rfl rfl) (trivial))) rfl ?_
      refine WO_step 1 [0, 1, 2] [0, 3, 4, 16, 18, 20, 23] (True ∧ True) ⟨[(0, .one (.e (.p 0 0))), (3, .one (.e (.sl 2 0 x153.length))), (4, I i154), (16, .one (.e (.sl 2 0 x153.length))), (18, I i204), (20, I i206), (23, I (w64 (1 + i208)))], [.cells [.sl 1 0 k2, cI (w64 ((w64 ((w64 (i152 + 1)) + 1)) + 1))], .row .u8 x1 false, .row .lck x153 true]⟩ (by kernel_rfl) ⟨trivial, trivial⟩ ?_
      refine bindO_e h (fun v217 hc212 h => ?_)
      obtain ⟨x210, b211⟩ := v217
      refine WO_call [.ro 2] Tryd.f60 rfl rfl rfl (by kernel_rfl) Tryd.func60 rfl (by kernel_rfl) (spec_TakeLock_ok n x153 i204 i206 (w64 (1 + i208)) x210 b211 hc212) (And.intro (And.intro rfl rfl) (trivial)) rfl ?_
      refine WO_step 5 [0, 1, 2, 3] [0, 3, 4, 5, 6] True ⟨[(0, .one (.e (.p 0 0))), (3, .one (.e (.sl 2 0 x153.length))), (4, I i154), (5, .one (.e (.sl 3 0 x210.length))), (6, B b211)], [.cells [.sl 1 0 k2, cI (w64 ((w64 ((w64 (i152 + 1)) + 1)) + 1))], .row .u8 x1 false, .row .lck x153 true, .row .lck x210 true]⟩ (by kernel_rfl) trivial ?_
      refine WO_nil rfl ?_
      refine thenS_n ?_
      refine W_seq ?_
      refine W_region ?_
      refine WO_step 1 [0, 1, 2, 3] [0, 3, 4, 5, 27] True ⟨[(0, .one (.e (.p 0 0))), (3, .one (.e (.sl 2 0 x153.length))), (4, I i154), (5, .one (.e (.sl 3 0 x210.length))), (27, B b211)], [.cells [.sl 1 0 k2, cI (w64 ((w64 ((w64 (i152 + 1)) + 1)) + 1))], .row .u8 x1 false, .row .lck x153 true, .row .lck x210 true]⟩ (by kernel_rfl) trivial ?_
      refine WO_nil rfl ?_
      refine thenS_n ?_
      refine bindO_e h (fun x214 hx214 h => ?_)
      refine W_cut (Q' := fun (e : Exit) (s : St) => e = .normal ∧ s = ⟨[(0, .one (.e (.p 0 0))), (3, .one (.e (.sl 2 0 x214.length))), (4, I i154)], [.cells [.sl 1 0 k2, cI (w64 ((w64 ((w64 (i152 + 1)) + 1)) + 1))], .row .u8 x1 false, .row .lck x214 true]⟩) ?_ ?_
      · refine iteO_e hx214 (fun hb216 hx214 => W_true rfl hb216 ?_) (fun hb216 hx214 => W_false rfl hb216 ?_)
        · refine W_region ?_
          refine WO_step 2 [0, 1, 3] [0, 3, 4] True ⟨[(0, .one (.e (.p 0 0))), (3, .one (.e (.sl 2 0 x210.length))), (4, I i154)], [.cells [.sl 1 0 k2, cI (w64 ((w64 ((w64 (i152 + 1)) + 1)) + 1))], .row .u8 x1 false, .row .lck x210 true]⟩ (by kernel_rfl) trivial ?_
          refine WO_nil rfl ?_
          cases hx214
          exact And.intro rfl rfl
        · refine W_sub [0, 1, 2] [0, 3, 4] (st' := ⟨[(0, .one (.e (.p 0 0))), (3, .one (.e (.sl 2 0 x153.length))), (4, I i154)], [.cells [.sl 1 0 k2, cI (w64 ((w64 ((w64 (i152 + 1)) + 1)) + 1))], .row .u8 x1 false, .row .lck x153 true]⟩) (by kernel_rfl) ?_
          refine W_skip ?_
          cases hx214
          exact And.intro rfl rfl
      · rintro _ _ ⟨rfl, rfl⟩
        refine blockS_n ?_
        refine thenS_n ?_
        refine W_region ?_
        refine WO_step 3 [0, 1, 2] [0, 3, 4] (True ∧ True) ⟨[(0, .one (.e (.p 0 0))), (3, .one (.e (.sl 2 0 x214.length))), (4, I (w64 (i154 - 1)))], [.cells [.sl 1 0 k2, cI (w64 ((w64 ((w64 (i152 + 1)) + 1)) + 1))], .row .u8 x1 false, .row .lck x214 true]⟩ (by kernel_rfl) ⟨trivial, trivial⟩ ?_
        refine WO_nil rfl ?_
        refine thenS_n ?_
        exact ih _ _ _ h
    · refine W_sub [0, 1, 2] [3] (st' := ⟨[(3, .one (.e (.sl 2 0 x153.length)))], [.cells [.sl 1 0 k2, cI i152], .row .u8 x1 false, .row .lck x153 true]⟩) (by kernel_rfl) ?_
      refine W_exit ?_
      refine thenS_e ?_
      refine thenS_e ?_
      cases h
      exact And.intro rfl rfl

def spec_someTable (n : Nat) (x1 : List Int) (k2 : Nat) (i3 : Int) : Option (Int × (List Lck)) :=
 bindO (spec_reader_one x1 k2 i3 [5, 8, 3, 12, 1, 0, 24]) fun (i112, i113) =>
 bindO (spec_someTable_L1 k2 x1 n i112 ([] : List Lck) i113) fun v218 =>
 match v218 with
 | (i186, x187) => (some (i186, x187))


theorem spec_someTable_ok (n : Nat) (x1 : List Int) (k2 : Nat) (i3 : Int) (i110 : Int) (x111 : List Lck) (h : spec_someTable n x1 k2 i3 = some (i110, x111)) : FOk EE 46 [.one (.e (.p 0 0))] [.cells [.sl 1 0 k2, cI i3], .row .u8 x1 false] (.one (.e (.sl 2 0 x111.length))) [.cells [.sl 1 0 k2, cI i110], .row .u8 x1 false, .row .lck x111 true] := by
  unfold spec_someTable at h
  refine FOk_of_W 30 2 Tryd.func46 rfl rfl (Nat.le_of_ble_eq_true rfl) rfl (fun w X θ => ?_)
  refine W_seq ?_
  refine W_region ?_
  refine WO_step 1 [0, 1] [0] True ⟨[(0, .one (.e (.p 0 0)))], [.cells [.sl 1 0 k2, cI i3], .row .u8 x1 false]⟩ (by kernel_rfl) trivial ?_
  refine WO_nil rfl ?_
  refine thenS_n ?_
  refine W_seq ?_
  refine W_region ?_
  refine WO_step 2 [0, 1, 2] [0, 3] True ⟨[(0, .one (.e (.p 0 0))), (3, .one (.e (.sl 2 0 (([] : List Lck).length))))], [.cells [.sl 1 0 k2, cI i3], .row .u8 x1 false, .row .lck ([] : List Lck) true]⟩ (by kernel_rfl) trivial ?_
  refine WO_nil rfl ?_
  refine thenS_n ?_
  refine W_seq ?_
  refine W_seq ?_
  refine W_region ?_
  refine WO_step 2 [0, 1, 2, 3] [0, 3, 8, 9] True ⟨[(0, .one (.e (.p 0 0))), (3, .one (.e (.sl 2 0 (([] : List Lck).length)))), (8, .one (.e (.p 0 0))), (9, .one (.e (.sl 3 0 ([5, 8, 3, 12, 1, 0, 24].length))))], [.cells [.sl 1 0 k2, cI i3], .row .u8 x1 false, .row .lck ([] : List Lck) true, .row .int [5, 8, 3, 12, 1, 0, 24] true]⟩ (by kernel_rfl) trivial ?_
  refine bindO_e h (fun v219 hc114 h => ?_)
  obtain ⟨i112, i113⟩ := v219
  refine WO_call [.own 0, .ro 1, .ro 3] Tryd.f48 rfl rfl rfl (by kernel_rfl) Tryd.func48 rfl (by kernel_rfl) (spec_reader_one_ok x1 k2 i3 [5, 8, 3, 12, 1, 0, 24] i112 i113 hc114) (And.intro (trivial) (And.intro (And.intro rfl rfl) (And.intro (And.intro rfl rfl) (trivial)))) rfl ?_
  refine WO_step 1 [0, 1, 2] [0, 3, 4] True ⟨[(0, .one (.e (.p 0 0))), (3, .one (.e (.sl 2 0 (([] : List Lck).length)))), (4, I i113)], [.cells [.sl 1 0 k2, cI i112], .row .u8 x1 false, .row .lck ([] : List Lck) true]⟩ (by kernel_rfl) trivial ?_
  refine WO_nil rfl ?_
  refine thenS_n ?_
  refine W_block ?_
  refine W_loop ?_
  refine bindO_e h (fun v218 hv218 h => ?_)
  refine WL_cut (spec_someTable_L1_ok w X θ k2 x1 v218 n i112 ([] : List Lck) i113 hv218) ?_
  obtain ⟨i186, x187⟩ := v218
  rintro _ _ ⟨rfl, rfl⟩
  refine blockS_y ?_
  refine thenS_n ?_
  refine W_seq ?_
  refine W_region ?_
  refine WO_step 2 [0, 1, 2] [2] True ⟨[(2, .one (.e (.sl 2 0 x187.length)))], [.cells [.sl 1 0 k2, cI i186], .row .u8 x1 false, .row .lck x187 true]⟩ (by kernel_rfl) trivial ?_
  refine WO_nil rfl ?_
  refine thenS_n ?_
  refine W_ret ?_
  cases h
  exact ⟨[0, 1, 2], True, by kernel_rfl, trivial⟩

/- spec.anyTable -/
def spec_anyTable (n : Nat) (x1 : List Int) (k2 : Nat) (i3 : Int) : Option (Int × (List Lck)) :=
 bindO (spec_someTable n x1 k2 i3) fun (i29, x30) =>
 bindO (spec_reader_pick x1 k2 i29 14) fun i32 =>
 bindO (iteO (decide (i32 = 0))
 (bindO (spec_reader_one x1 k2 (w64 (i29 + 1)) [0, 3, 4, (-1)]) fun (i52, i53) =>
 bindO (spec_reader_one x1 k2 i52 [0, 11, 12, 1]) fun (i55, i56) =>
 bindO (spec_reader_one x1 k2 i55 [5, 0, 6, 1]) fun (i58, i59) =>
 guardO (0 = 0 ∧ x30.length = x30.length ∧ x30.length + (([(⟨i53, i56, i59⟩ : Lck)].drop 0).take ([(⟨i53, i56, i59⟩ : Lck)].length)).length ≤ 1099511627776) <|
 some (i58, (x30 ++ (([(⟨i53, i56, i59⟩ : Lck)].drop 0).take ([(⟨i53, i56, i59⟩ : Lck)].length)))))
 (some ((w64 (i29 + 1)), x30))) fun v50 =>
 match v50 with
 | (i48, x49) => (some (i48, x49))


theorem spec_anyTable_ok (n : Nat) (x1 : List Int) (k2 : Nat) (i3 : Int) (i27 : Int) (x28 : List Lck) (h : spec_anyTable n x1 k2 i3 = some (i27, x28)) : FOk EE 30 [.one (.e (.p 0 0))] [.cells [.sl 1 0 k2, cI i3], .row .u8 x1 false] (.one (.e (.sl 2 0 x28.length))) [.cells [.sl 1 0 k2, cI i27], .row .u8 x1 false, .row .lck x28 true] := by
  unfold spec_anyTable at h
  refine FOk_of_W 23 2 Tryd.func30 rfl rfl (Nat.le_of_ble_eq_true rfl) rfl (fun w X θ => ?_)
  refine W_seq ?_
  refine W_region ?_
  refine WO_step 1 [0, 1] [0] True ⟨[(0, .one (.e (.p 0 0)))], [.cells [.sl 1 0 k2, cI i3], .row .u8 x1 false]⟩ (by kernel_rfl) trivial ?_
  refine WO_nil rfl ?_
  refine thenS_n ?_
  refine W_seq ?_
  refine W_region ?_
  refine WO_step 1 [0, 1] [0, 4] True ⟨[(0, .one (.e (.p 0 0))), (4, .one (.e (.p 0 0)))], [.cells [.sl 1 0 k2, cI i3], .row .u8 x1 false]⟩ (by kernel_rfl) trivial ?_
  refine bindO_e h (fun v65 hc31 h => ?_)
  obtain ⟨i29, x30⟩ := v65
  refine WO_call [.own 0, .ro 1] Tryd.f46 rfl rfl rfl (by kernel_rfl) Tryd.func46 rfl (by kernel_rfl) (spec_someTable_ok n x1 k2 i3 i29 x30 hc31) (And.intro (trivial) (And.intro (And.intro rfl rfl) (trivial))) rfl ?_
  refine WO_step 1 [0, 1, 2] [0, 3] True ⟨[(0, .one (.e (.p 0 0))), (3, .one (.e (.sl 2 0 x30.length)))], [.cells [.sl 1 0 k2, cI i29], .row .u8 x1 false, .row .lck x30 true]⟩ (by kernel_rfl) trivial ?_
  refine WO_nil rfl ?_
  refine thenS_n ?_
  refine W_seq ?_
  refine W_seq ?_
  refine W_region ?_
  refine WO_step 1 [0, 1, 2] [0, 3, 6] True ⟨[(0, .one (.e (.p 0 0))), (3, .one (.e (.sl 2 0 x30.length))), (6, .one (.e (.p 0 0)))], [.cells [.sl 1 0 k2, cI i29], .row .u8 x1 false, .row .lck x30 true]⟩ (by kernel_rfl) trivial ?_
  refine bindO_e h (fun i32 hc33 h => ?_)
  refine WO_call [.own 0, .ro 1] Tryd.f47 rfl rfl rfl (by kernel_rfl) Tryd.func47 rfl (by kernel_rfl) (spec_reader_pick_ok x1 k2 i29 14 i32 hc33) (And.intro (trivial) (And.intro (And.intro rfl rfl) (trivial))) rfl ?_
  refine WO_step 1 [0, 1, 2] [0, 3, 8] (True ∧ True) ⟨[(0, .one (.e (.p 0 0))), (3, .one (.e (.sl 2 0 x30.length))), (8, B (decide (i32 = 0)))], [.cells [.sl 1 0 k2, cI (w64 (i29 + 1))], .row .u8 x1 false, .row .lck x30 true]⟩ (by kernel_rfl) ⟨trivial, trivial⟩ ?_
  refine WO_nil rfl ?_
  refine thenS_n ?_
  refine bindO_e h (fun v50 hv50 h => ?_)
  refine W_cut (Q' := fun (e : Exit) (s : St) => (match v50 with | (i48, x49) => e = .normal ∧ s = ⟨[(3, .one (.e (.sl 2 0 x49.length)))], [.cells [.sl 1 0 k2, cI i48], .row .u8 x1 false, .row .lck x49 true]⟩ : Prop)) ?_ ?_
  · refine iteO_e hv50 (fun hb51 hv50 => W_true rfl hb51 ?_) (fun hb51 hv50 => W_false rfl hb51 ?_)
    · refine W_region ?_
      refine WO_step 3 [0, 1, 2, 3] [0, 9, 10, 11] True ⟨[(0, .one (.e (.p 0 0))), (9, .one (.e (.sl 2 0 x30.length))), (10, .one (.e (.p 0 0))), (11, .one (.e (.sl 3 0 ([0, 3, 4, (-1)].length))))], [.cells [.sl 1 0 k2, cI (w64 (i29 + 1))], .row .u8 x1 false, .row .lck x30 true, .row .int [0, 3, 4, (-1)] true]⟩ (by kernel_rfl) trivial ?_
      refine bindO_e hv50 (fun v64 hc54 hv50 => ?_)
      obtain ⟨i52, i53⟩ := v64
      refine WO_call [.own 0, .ro 1, .ro 3] Tryd.f48 rfl rfl rfl (by kernel_rfl) Tryd.func48 rfl (by kernel_rfl) (spec_reader_one_ok x1 k2 (w64 (i29 + 1)) [0, 3, 4, (-1)] i52 i53 hc54) (And.intro (trivial) (And.intro (And.intro rfl rfl) (And.intro (And.intro rfl rfl) (trivial)))) rfl ?_
      refine WO_step 2 [0, 1, 2, 4] [0, 9, 12, 13, 14] True ⟨[(0, .one (.e (.p 0 0))), (9, .one (.e (.sl 2 0 x30.length))), (12, I i53), (13, .one (.e (.p 0 0))), (14, .one (.e (.sl 3 0 ([0, 11, 12, 1].length))))], [.cells [.sl 1 0 k2, cI i52], .row .u8 x1 false, .row .lck x30 true, .row .int [0, 11, 12, 1] true]⟩ (by kernel_rfl) trivial ?_
      refine bindO_e hv50 (fun v63 hc57 hv50 => ?_)
      obtain ⟨i55, i56⟩ := v63
      refine WO_call [.own 0, .ro 1, .ro 3] Tryd.f48 rfl rfl rfl (by kernel_rfl) Tryd.func48 rfl (by kernel_rfl) (spec_reader_one_ok x1 k2 i52 [0, 11, 12, 1] i55 i56 hc57) (And.intro (trivial) (And.intro (And.intro rfl rfl) (And.intro (And.intro rfl rfl) (trivial)))) rfl ?_
      refine WO_step 2 [0, 1, 2, 4] [9, 12, 15, 16, 17] True ⟨[(9, .one (.e (.sl 2 0 x30.length))), (12, I i53), (15, I i56), (16, .one (.e (.p 0 0))), (17, .one (.e (.sl 3 0 ([5, 0, 6, 1].length))))], [.cells [.sl 1 0 k2, cI i55], .row .u8 x1 false, .row .lck x30 true, .row .int [5, 0, 6, 1] true]⟩ (by kernel_rfl) trivial ?_
      refine bindO_e hv50 (fun v62 hc60 hv50 => ?_)
      obtain ⟨i58, i59⟩ := v62
      refine WO_call [.own 0, .ro 1, .ro 3] Tryd.f48 rfl rfl rfl (by kernel_rfl) Tryd.func48 rfl (by kernel_rfl) (spec_reader_one_ok x1 k2 i55 [5, 0, 6, 1] i58 i59 hc60) (And.intro (trivial) (And.intro (And.intro rfl rfl) (And.intro (And.intro rfl rfl) (trivial)))) rfl ?_
      refine guardO_e hv50 (fun hg61 hv50 => ?_)
      refine WO_step 4 [0, 1, 5] [3] ((0 = 0 ∧ x30.length = x30.length ∧ x30.length + (([(⟨i53, i56, i59⟩ : Lck)].drop 0).take ([(⟨i53, i56, i59⟩ : Lck)].length)).length ≤ 1099511627776) ∧ True) ⟨[(3, .one (.e (.sl 2 0 ((x30 ++ (([(⟨i53, i56, i59⟩ : Lck)].drop 0).take ([(⟨i53, i56, i59⟩ : Lck)].length))).length))))], [.cells [.sl 1 0 k2, cI i58], .row .u8 x1 false, .row .lck (x30 ++ (([(⟨i53, i56, i59⟩ : Lck)].drop 0).take ([(⟨i53, i56, i59⟩ : Lck)].length))) true]⟩ (by kernel_rfl) ⟨hg61, trivial⟩ ?_
      refine WO_nil rfl ?_
      cases hv50
      exact And.intro rfl rfl
    · refine W_sub [0, 1, 2] [3] (st' := ⟨[(3, .one (.e (.sl 2 0 x30.length)))], [.cells [.sl 1 0 k2, cI (w64 (i29 + 1))], .row .u8 x1 false, .row .lck x30 true]⟩) (by kernel_rfl) ?_
      refine W_skip ?_
      cases hv50
      exact And.intro rfl rfl
  · obtain ⟨i48, x49⟩ := v50
    rintro _ _ ⟨rfl, rfl⟩
    refine thenS_n ?_
    refine W_seq ?_
    refine W_region ?_
    refine WO_step 2 [0, 1, 2] [2] True ⟨[(2, .one (.e (.sl 2 0 x49.length)))], [.cells [.sl 1 0 k2, cI i48], .row .u8 x1 false, .row .lck x49 true]⟩ (by kernel_rfl) trivial ?_
    refine WO_nil rfl ?_
    refine thenS_n ?_
    refine W_ret ?_
    cases h
    exact ⟨[0, 1, 2], True, by kernel_rfl, trivial⟩

/- spec.DrawFormatLocks -/
def spec_DrawFormatLocks (n : Nat) (x1 : List Int) : Option ((List Lck)) :=
 bindO (spec_newReader x1) fun k9 =>
 bindO (spec_anyTable n x1 k9 0) fun (i11, x12) =>
 some x12

theorem spec_DrawFormatLocks_ok (n : Nat) (x1 : List Int) (x8 : List Lck) (h : spec_DrawFormatLocks n x1 = some x8) : FOk EE 14 [.one (.e (.sl 0 0 x1.length))] [.row .u8 x1 false] (.one (.e (.sl 1 0 x8.length))) [.row .u8 x1 false, .row .lck x8 true] := by
  unfold spec_DrawFormatLocks at h
  refine FOk_of_W 6 1 Tryd.func14 rfl rfl (Nat.le_of_ble_eq_true rfl) rfl (fun w X θ => ?_)
  refine W_seq ?_
  refine W_region ?_
  refine WO_step 1 [0] [0] True ⟨[(0, .one (.e (.sl 0 0 x1.length)))], [.row .u8 x1 false]⟩ (by kernel_rfl) trivial ?_
  refine WO_nil rfl ?_
  refine thenS_n ?_
  refine W_seq ?_
  refine W_region ?_
  refine WO_step 1 [0] [3] True ⟨[(3, .one (.e (.sl 0 0 x1.length)))], [.row .u8 x1 false]⟩ (by kernel_rfl) trivial ?_
  refine bindO_e h (fun k9 hc10 h => ?_)
  refine WO_call [.ro 0] Tryd.f31 rfl rfl rfl (by kernel_rfl) Tryd.func31 rfl (by kernel_rfl) (spec_newReader_ok x1 k9 hc10) (And.intro (And.intro rfl rfl) (trivial)) rfl ?_
  refine WO_sub [0, 1] [4] (st' := ⟨[(4, .one (.e (.p 1 0)))], [.row .u8 x1 false, .cells [.sl 0 0 k9, cI 0]]⟩) (by kernel_rfl) ?_
  refine bindO_e h (fun v14 hc13 h => ?_)
  obtain ⟨i11, x12⟩ := v14
  refine WO_call [.own 1, .ro 0] Tryd.f30 rfl rfl rfl (by kernel_rfl) Tryd.func30 rfl (by kernel_rfl) (spec_anyTable_ok n x1 k9 0 i11 x12 hc13) (And.intro (trivial) (And.intro (And.intro rfl rfl) (trivial))) rfl ?_
  refine WO_step 1 [0, 2] [2] True ⟨[(2, .one (.e (.sl 1 0 x12.length)))], [.row .u8 x1 false, .row .lck x12 true]⟩ (by kernel_rfl) trivial ?_
  refine WO_nil rfl ?_
  refine thenS_n ?_
  refine W_ret ?_
  cases h
  exact ⟨[0, 1], True, by kernel_rfl, trivial⟩

/- impl.within -/
def impl_within (i1 : Int) (i2 : Int) (i3 : Int) : Bool :=
((decide (i2 ≤ i1)) && (decide (i1 ≤ i3)))

theorem impl_within_ok (i1 : Int) (i2 : Int) (i3 : Int) : FOk EE 49 [I i1, I i2, I i3] [] (B (impl_within i1 i2 i3)) [] := by
  refine FOk_of_W 15 0 Tryd.func49 rfl rfl (Nat.le_of_ble_eq_true rfl) rfl (fun w X θ => ?_)
  refine W_seq ?_
  refine W_region ?_
  refine WO_step 1 [] [0, 1, 2] True ⟨[(0, I i1), (1, I i2), (2, I i3)], []⟩ (by kernel_rfl) trivial ?_
  refine WO_nil rfl ?_
  refine thenS_n ?_
  refine W_seq ?_
  refine W_region ?_
  refine WO_step 4 [] [0, 2, 10] (True ∧ True) ⟨[(0, I i1), (2, I i3), (10, B (decide (i2 ≤ i1)))], []⟩ (by kernel_rfl) ⟨trivial, trivial⟩ ?_
  refine WO_thru ⟨[(6, B ((decide (i2 ≤ i1)) && (decide (i1 ≤ i3))))], []⟩ ?_ ?_
  · refine WO_if 10 rfl (fun hb10 => ?_) (fun hb10 => ?_)
    · refine WO_step 5 [] [6] (True ∧ True) ⟨[(6, B (decide (i1 ≤ i3)))], []⟩ (by kernel_rfl) ⟨trivial, trivial⟩ ?_
      exact WO_nil rfl ⟨rfl, by first | rfl | (rw [hb10]; first | done | rfl)⟩
    · refine WO_step 5 [] [6] True ⟨[(6, B false)], []⟩ (by kernel_rfl) trivial ?_
      exact WO_nil rfl ⟨rfl, by first | rfl | (rw [hb10]; first | done | rfl)⟩
  · refine thenS_n ?_
    refine W_ret ?_
    exact ⟨[], True, by kernel_rfl, trivial⟩

/- impl.isAsk -/
def impl_isAsk (i1 : Int) (i2 : Int) (i3 : Int) : Bool :=
((impl_within i1 0 3) && ((impl_within i2 0 11) && (impl_within i3 1 5)))

theorem impl_isAsk_ok (i1 : Int) (i2 : Int) (i3 : Int) : FOk EE 32 [I i1, I i2, I i3] [] (B (impl_isAsk i1 i2 i3)) [] := by
  refine FOk_of_W 17 0 Tryd.func32 rfl rfl (Nat.le_of_ble_eq_true rfl) rfl (fun w X θ => ?_)
  refine W_seq ?_
  refine W_region ?_
  refine WO_step 1 [] [0, 1, 2] True ⟨[(0, I i1), (1, I i2), (2, I i3)], []⟩ (by kernel_rfl) trivial ?_
  refine WO_nil rfl ?_
  refine thenS_n ?_
  refine W_seq ?_
  refine W_region ?_
  refine WO_step 1 [] [1, 2, 7] True ⟨[(1, I i2), (2, I i3), (7, I i1)], []⟩ (by kernel_rfl) trivial ?_
  refine WO_call [] Tryd.f49 rfl rfl rfl (by kernel_rfl) Tryd.func49 rfl (by kernel_rfl) (impl_within_ok i1 0 3) (trivial) rfl ?_
  refine WO_step 1 [] [1, 2, 9] True ⟨[(1, I i2), (2, I i3), (9, B (impl_within i1 0 3))], []⟩ (by kernel_rfl) trivial ?_
  refine WO_thru ⟨[(6, B ((impl_within i1 0 3) && ((impl_within i2 0 11) && (impl_within i3 1 5))))], []⟩ ?_ ?_
  · refine WO_if 9 rfl (fun hb13 => ?_) (fun hb13 => ?_)
    · refine WO_step 1 [] [2, 9, 10] True ⟨[(2, I i3), (9, B true), (10, I i2)], []⟩ (by kernel_rfl) trivial ?_
      refine WO_call [] Tryd.f49 rfl rfl rfl (by kernel_rfl) Tryd.func49 rfl (by kernel_rfl) (impl_within_ok i2 0 11) (trivial) rfl ?_
      refine WO_step 2 [] [2, 13] True ⟨[(2, I i3), (13, B (impl_within i2 0 11))], []⟩ (by kernel_rfl) trivial ?_
      refine WO_if 13 rfl (fun hb14 => ?_) (fun hb14 => ?_)
      · refine WO_step 1 [] [13, 14] True ⟨[(13, B true), (14, I i3)], []⟩ (by kernel_rfl) trivial ?_
        refine WO_call [] Tryd.f49 rfl rfl rfl (by kernel_rfl) Tryd.func49 rfl (by kernel_rfl) (impl_within_ok i3 1 5) (trivial) rfl ?_
        refine WO_step 2 [] [6] True ⟨[(6, B (impl_within i3 1 5))], []⟩ (by kernel_rfl) trivial ?_
        exact WO_nil rfl ⟨rfl, by first | rfl | (simp only [hb13, hb14]; first | done | rfl)⟩
      · refine WO_step 4 [] [6] True ⟨[(6, B false)], []⟩ (by kernel_rfl) trivial ?_
        exact WO_nil rfl ⟨rfl, by first | rfl | (simp only [hb13, hb14]; first | done | rfl)⟩
    · refine WO_step 8 [] [6] True ⟨[(6, B false)], []⟩ (by kernel_rfl) trivial ?_
      exact WO_nil rfl ⟨rfl, by first | rfl | (rw [hb13]; first | done | rfl)⟩
  · refine thenS_n ?_
    refine W_ret ?_
    exact ⟨[], True, by kernel_rfl, trivial⟩

/- impl.isMode -/
def impl_isMode (i1 : Int) : Bool :=
(impl_within i1 0 5)

theorem impl_isMode_ok (i1 : Int) : FOk EE 50 [I i1] [] (B (impl_isMode i1)) [] := by
  refine FOk_of_W 5 0 Tryd.func50 rfl rfl (Nat.le_of_ble_eq_true rfl) rfl (fun w X θ => ?_)
  refine W_seq ?_
  refine W_region ?_
  refine WO_step 1 [] [0] True ⟨[(0, I i1)], []⟩ (by kernel_rfl) trivial ?_
  refine WO_nil rfl ?_
  refine thenS_n ?_
  refine W_seq ?_
  refine W_region ?_
  refine WO_step 1 [] [3] True ⟨[(3, I i1)], []⟩ (by kernel_rfl) trivial ?_
  refine WO_call [] Tryd.f49 rfl rfl rfl (by kernel_rfl) Tryd.func49 rfl (by kernel_rfl) (impl_within_ok i1 0 5) (trivial) rfl ?_
  refine WO_step 1 [] [2] True ⟨[(2, B (impl_within i1 0 5))], []⟩ (by kernel_rfl) trivial ?_
  refine WO_nil rfl ?_
  refine thenS_n ?_
  refine W_ret ?_
  exact ⟨[], True, by kernel_rfl, trivial⟩

/- impl.GoTogether -/
def impl_GoTogether (i1 : Int) (i2 : Int) : Option (Bool) :=
 bindO (iteO (impl_isMode i1)
 (iteO (impl_isMode i2)
 (guardO (0 ≤ i1 ∧ i1 < (6 : Int)) <|
 guardO (0 ≤ i2 ∧ i2 < (6 : Int)) <|
 guardO (((0 + (i1.toNat * 6)) + (i2.toNat * 1)) < gtab0.length) <|
 some (gtab0.getD ((0 + (i1.toNat * 6)) + (i2.toNat * 1)) false))
 (some false))
 (some false)) fun b21 =>
 some b21

theorem impl_GoTogether_ok (i1 : Int) (i2 : Int) (b15 : Bool) (h : impl_GoTogether i1 i2 = some b15) : FOk EE 33 [I i1, I i2] [] (B b15) [] := by
  unfold impl_GoTogether at h
  refine FOk_of_W 18 0 Tryd.func33 rfl rfl (Nat.le_of_ble_eq_true rfl) rfl (fun w X θ => ?_)
  refine W_seq ?_
  refine W_region ?_
  refine WO_step 1 [] [0, 1] True ⟨[(0, I i1), (1, I i2)], []⟩ (by kernel_rfl) trivial ?_
  refine WO_nil rfl ?_
  refine thenS_n ?_
  refine W_seq ?_
  refine W_region ?_
  refine WO_step 1 [] [0, 1, 5] True ⟨[(0, I i1), (1, I i2), (5, I i1)], []⟩ (by kernel_rfl) trivial ?_
  refine WO_call [] Tryd.f50 rfl rfl rfl (by kernel_rfl) Tryd.func50 rfl (by kernel_rfl) (impl_isMode_ok i1) (trivial) rfl ?_
  refine WO_step 1 [] [0, 1, 7] True ⟨[(0, I i1), (1, I i2), (7, B (impl_isMode i1))], []⟩ (by kernel_rfl) trivial ?_
  refine bindO_e h (fun b21 hv22 h => ?_)
  refine WO_thru ⟨[(4, B b21)], []⟩ ?_ ?_
  · refine iteO_e hv22 (fun hb23 hv22 => WO_known 7 true rfl hb23 ?_) (fun hb23 hv22 => WO_known 7 false rfl hb23 ?_)
    · refine WO_step 1 [] [0, 1, 7, 8] True ⟨[(0, I i1), (1, I i2), (7, B true), (8, I i2)], []⟩ (by kernel_rfl) trivial ?_
      refine WO_call [] Tryd.f50 rfl rfl rfl (by kernel_rfl) Tryd.func50 rfl (by kernel_rfl) (impl_isMode_ok i2) (trivial) rfl ?_
      refine WO_step 2 [] [0, 1, 11] True ⟨[(0, I i1), (1, I i2), (11, B (impl_isMode i2))], []⟩ (by kernel_rfl) trivial ?_
      refine iteO_e hv22 (fun hb24 hv22 => WO_known 11 true rfl hb24 ?_) (fun hb24 hv22 => WO_known 11 false rfl hb24 ?_)
      · refine guardO_e hv22 (fun hg25 hv22 => ?_)
        refine guardO_e hv22 (fun hg26 hv22 => ?_)
        refine guardO_e hv22 (fun hg27 hv22 => ?_)
        refine WO_step 7 [] [4] ((0 ≤ i1 ∧ i1 < (6 : Int)) ∧ ((0 ≤ i2 ∧ i2 < (6 : Int)) ∧ ((((0 + (i1.toNat * 6)) + (i2.toNat * 1)) < gtab0.length) ∧ True))) ⟨[(4, B (gtab0.getD ((0 + (i1.toNat * 6)) + (i2.toNat * 1)) false))], []⟩ (by kernel_rfl) ⟨hg25, hg26, hg27, trivial⟩ ?_
        cases hv22
        exact WO_nil rfl ⟨rfl, rfl⟩
      · refine WO_step 7 [] [4] True ⟨[(4, B false)], []⟩ (by kernel_rfl) trivial ?_
        cases hv22
        exact WO_nil rfl ⟨rfl, rfl⟩
    · refine WO_step 11 [] [4] True ⟨[(4, B false)], []⟩ (by kernel_rfl) trivial ?_
      cases hv22
      exact WO_nil rfl ⟨rfl, rfl⟩
  · refine thenS_n ?_
    refine W_ret ?_
    cases h
    exact ⟨[], True, by kernel_rfl, trivial⟩

/- impl.ValidTable -/
def impl_ValidTable_L2 (x1 : List Lck) (i578 : Int) : Nat → Int → Option ((Unit) ⊕ (Unit))
| 0, _ => none
| n + 1, i818 =>
 iteO (decide (i818 < ((i578.toNat : Nat) : Int)))
 (guardO (0 ≤ i818 ∧ i818 < ((i578.toNat : Nat) : Int)) <|
 bindO (iteO (decide (((x1.getD i578.toNat dlck).node) = ((x1.getD i818.toNat dlck).node)))
 (iteO (decide (((x1.getD i578.toNat dlck).who) = ((x1.getD i818.toNat dlck).who)))
 (some true)
 (bindO (impl_GoTogether ((x1.getD i578.toNat dlck).mode) ((x1.getD i818.toNat dlck).mode)) fun b873 =>
 some (!b873)))
 (some false)) fun b869 =>
 iteO b869
 (some (.inl ()))
 (impl_ValidTable_L2 x1 i578 n (w64 (i818 + 1))))
 (some (.inr ()))

theorem impl_ValidTable_L2_ok (w : World) (X : Nat → Prop) (θ : List Loc) (x1 : List Lck) (i578 : Int) (v : (Unit) ⊕ (Unit)) : ∀ (n : Nat) (i818 : Int), impl_ValidTable_L2 x1 i578 n i818 = some v → WL EE ⟨w, X, θ, 55, 1⟩ (subC [1, 1, 0, 1, 4, 4, 1, 1, 0, 4, 1, 1, 1, 4, 4] (bodyC Tryd.f15)) (fun (e : Exit) (s : St) => (match v with | (.inl _) => e = .ret ∧ s = ⟨[(2, B false)], [.row .lck x1 false]⟩ | (.inr _) => e = .exit 2 ∧ s = ⟨[(0, .one (.e (.sl 0 0 x1.length))), (10, .one (.e (.sl 0 0 x1.length))), (11, I ((x1.length : Nat) : Int)), (12, I i578)], [.row .lck x1 false]⟩ : Prop)) ⟨[(0, .one (.e (.sl 0 0 x1.length))), (4, .one (.e (.p 1 0))), (10, .one (.e (.sl 0 0 x1.length))), (11, I ((x1.length : Nat) : Int)), (12, I i578), (27, .one (.e (.sl 0 0 i578.toNat))), (28, I ((i578.toNat : Nat) : Int)), (29, I i818)], [.row .lck x1 false, .cells [cI ((x1.getD i578.toNat dlck).who), cI ((x1.getD i578.toNat dlck).node), cI ((x1.getD i578.toNat dlck).mode)]]⟩ := by
  intro n
  induction n with
  | zero => intro _ h; exact none_e h
  | succ n ih =>
    intro i818 h
    rw [impl_ValidTable_L2] at h
    refine WL_round ?_
    refine W_seq ?_
    refine W_region ?_
    refine WO_step 1 [0, 1] [0, 4, 10, 11, 12, 27, 28, 29, 30] (True ∧ True) ⟨[(0, .one (.e (.sl 0 0 x1.length))), (4, .one (.e (.p 1 0))), (10, .one (.e (.sl 0 0 x1.length))), (11, I ((x1.length : Nat) : Int)), (12, I i578), (27, .one (.e (.sl 0 0 i578.toNat))), (28, I ((i578.toNat : Nat) : Int)), (29, I i818), (30, B (decide (i818 < ((i578.toNat : Nat) : Int))))], [.row .lck x1 false, .cells [cI ((x1.getD i578.toNat dlck).who), cI ((x1.getD i578.toNat dlck).node), cI ((x1.getD i578.toNat dlck).mode)]]⟩ (by kernel_rfl) ⟨trivial, trivial⟩ ?_
    refine WO_nil rfl ?_
    refine thenS_n ?_
    refine W_seq ?_
    refine iteO_e h (fun hb850 h => W_true rfl hb850 ?_) (fun hb850 h => W_false rfl hb850 ?_)
    · refine W_sub [0, 1] [0, 4, 10, 11, 12, 27, 28, 29] (st' := ⟨[(0, .one (.e (.sl 0 0 x1.length))), (4, .one (.e (.p 1 0))), (10, .one (.e (.sl 0 0 x1.length))), (11, I ((x1.length : Nat) : Int)), (12, I i578), (27, .one (.e (.sl 0 0 i578.toNat))), (28, I ((i578.toNat : Nat) : Int)), (29, I i818)], [.row .lck x1 false, .cells [cI ((x1.getD i578.toNat dlck).who), cI ((x1.getD i578.toNat dlck).node), cI ((x1.getD i578.toNat dlck).mode)]]⟩) (by kernel_rfl) ?_
      refine W_skip ?_
      refine thenS_n ?_
      refine W_seq ?_
      refine W_block ?_
      refine W_seq ?_
      refine W_region ?_
      refine guardO_e h (fun hg864 h => ?_)
      refine WO_step 4 [0, 1, 2] [0, 4, 6, 10, 11, 12, 27, 28, 29] ((0 ≤ i818 ∧ i818 < ((i578.toNat : Nat) : Int)) ∧ (True ∧ (True ∧ (True ∧ True)))) ⟨[(0, .one (.e (.sl 0 0 x1.length))), (4, .one (.e (.p 1 0))), (6, .one (.e (.p 2 0))), (10, .one (.e (.sl 0 0 x1.length))), (11, I ((x1.length : Nat) : Int)), (12, I i578), (27, .one (.e (.sl 0 0 i578.toNat))), (28, I ((i578.toNat : Nat) : Int)), (29, I i818)], [.row .lck x1 false, .cells [cI ((x1.getD i578.toNat dlck).who), cI ((x1.getD i578.toNat dlck).node), cI ((x1.getD i578.toNat dlck).mode)], .cells [cI ((x1.getD i818.toNat dlck).who), cI ((x1.getD i818.toNat dlck).node), cI ((x1.getD i818.toNat dlck).mode)]]⟩ (by kernel_rfl) ⟨hg864, trivial, trivial, trivial, trivial⟩ ?_
      refine WO_nil rfl ?_
      refine thenS_n ?_
      refine W_seq ?_
      refine W_region ?_
      refine WO_step 6 [0, 1, 2] [0, 4, 6, 10, 11, 12, 27, 28, 29, 38] (True ∧ (True ∧ (True ∧ True))) ⟨[(0, .one (.e (.sl 0 0 x1.length))), (4, .one (.e (.p 1 0))), (6, .one (.e (.p 2 0))), (10, .one (.e (.sl 0 0 x1.length))), (11, I ((x1.length : Nat) : Int)), (12, I i578), (27, .one (.e (.sl 0 0 i578.toNat))), (28, I ((i578.toNat : Nat) : Int)), (29, I i818), (38, B (decide (((x1.getD i578.toNat dlck).node) = ((x1.getD i818.toNat dlck).node))))], [.row .lck x1 false, .cells [cI ((x1.getD i578.toNat dlck).who), cI ((x1.getD i578.toNat dlck).node), cI ((x1.getD i578.toNat dlck).mode)], .cells [cI ((x1.getD i818.toNat dlck).who), cI ((x1.getD i818.toNat dlck).node), cI ((x1.getD i818.toNat dlck).mode)]]⟩ (by kernel_rfl) ⟨trivial, trivial, trivial, trivial⟩ ?_
      refine bindO_e h (fun b869 hv870 h => ?_)
      refine WO_thru ⟨[(0, .one (.e (.sl 0 0 x1.length))), (4, .one (.e (.p 1 0))), (10, .one (.e (.sl 0 0 x1.length))), (11, I ((x1.length : Nat) : Int)), (12, I i578), (27, .one (.e (.sl 0 0 i578.toNat))), (28, I ((i578.toNat : Nat) : Int)), (29, I i818), (52, B b869)], [.row .lck x1 false, .cells [cI ((x1.getD i578.toNat dlck).who), cI ((x1.getD i578.toNat dlck).node), cI ((x1.getD i578.toNat dlck).mode)]]⟩ ?_ ?_
      · refine iteO_e hv870 (fun hb871 hv870 => WO_known 38 true rfl hb871 ?_) (fun hb871 hv870 => WO_known 38 false rfl hb871 ?_)
        · refine WO_step 6 [0, 1, 2] [0, 4, 6, 10, 11, 12, 27, 28, 29, 38, 44] (True ∧ (True ∧ (True ∧ True))) ⟨[(0, .one (.e (.sl 0 0 x1.length))), (4, .one (.e (.p 1 0))), (6, .one (.e (.p 2 0))), (10, .one (.e (.sl 0 0 x1.length))), (11, I ((x1.length : Nat) : Int)), (12, I i578), (27, .one (.e (.sl 0 0 i578.toNat))), (28, I ((i578.toNat : Nat) : Int)), (29, I i818), (38, B true), (44, B (decide (((x1.getD i578.toNat dlck).who) = ((x1.getD i818.toNat dlck).who))))], [.row .lck x1 false, .cells [cI ((x1.getD i578.toNat dlck).who), cI ((x1.getD i578.toNat dlck).node), cI ((x1.getD i578.toNat dlck).mode)], .cells [cI ((x1.getD i818.toNat dlck).who), cI ((x1.getD i818.toNat dlck).node), cI ((x1.getD i818.toNat dlck).mode)]]⟩ (by kernel_rfl) ⟨trivial, trivial, trivial, trivial⟩ ?_
          refine iteO_e hv870 (fun hb872 hv870 => WO_known 44 true rfl hb872 ?_) (fun hb872 hv870 => WO_known 44 false rfl hb872 ?_)
          · refine WO_step 8 [0, 1] [0, 4, 10, 11, 12, 27, 28, 29, 52] True ⟨[(0, .one (.e (.sl 0 0 x1.length))), (4, .one (.e (.p 1 0))), (10, .one (.e (.sl 0 0 x1.length))), (11, I ((x1.length : Nat) : Int)), (12, I i578), (27, .one (.e (.sl 0 0 i578.toNat))), (28, I ((i578.toNat : Nat) : Int)), (29, I i818), (52, B true)], [.row .lck x1 false, .cells [cI ((x1.getD i578.toNat dlck).who), cI ((x1.getD i578.toNat dlck).node), cI ((x1.getD i578.toNat dlck).mode)]]⟩ (by kernel_rfl) trivial ?_
            cases hv870
            exact WO_nil rfl ⟨rfl, rfl⟩
          · refine WO_step 4 [0, 1] [0, 4, 10, 11, 12, 27, 28, 29, 38, 44, 46, 48] (True ∧ (True ∧ True)) ⟨[(0, .one (.e (.sl 0 0 x1.length))), (4, .one (.e (.p 1 0))), (10, .one (.e (.sl 0 0 x1.length))), (11, I ((x1.length : Nat) : Int)), (12, I i578), (27, .one (.e (.sl 0 0 i578.toNat))), (28, I ((i578.toNat : Nat) : Int)), (29, I i818), (38, B true), (44, B false), (46, I ((x1.getD i578.toNat dlck).mode)), (48, I ((x1.getD i818.toNat dlck).mode))], [.row .lck x1 false, .cells [cI ((x1.getD i578.toNat dlck).who), cI ((x1.getD i578.toNat dlck).node), cI ((x1.getD i578.toNat dlck).mode)]]⟩ (by kernel_rfl) ⟨trivial, trivial, trivial⟩ ?_
            refine bindO_e hv870 (fun b873 hc874 hv870 => ?_)
            refine WO_call [] Tryd.f33 rfl rfl rfl (by kernel_rfl) Tryd.func33 rfl (by kernel_rfl) (impl_GoTogether_ok ((x1.getD i578.toNat dlck).mode) ((x1.getD i818.toNat dlck).mode) b873 hc874) (trivial) rfl ?_
            refine WO_step 3 [0, 1] [0, 4, 10, 11, 12, 27, 28, 29, 52] True ⟨[(0, .one (.e (.sl 0 0 x1.length))), (4, .one (.e (.p 1 0))), (10, .one (.e (.sl 0 0 x1.length))), (11, I ((x1.length : Nat) : Int)), (12, I i578), (27, .one (.e (.sl 0 0 i578.toNat))), (28, I ((i578.toNat : Nat) : Int)), (29, I i818), (52, B (!b873))], [.row .lck x1 false, .cells [cI ((x1.getD i578.toNat dlck).who), cI ((x1.getD i578.toNat dlck).node), cI ((x1.getD i578.toNat dlck).mode)]]⟩ (by kernel_rfl) trivial ?_
            cases hv870
            exact WO_nil rfl ⟨rfl, rfl⟩
        · refine WO_step 14 [0, 1] [0, 4, 10, 11, 12, 27, 28, 29, 52] True ⟨[(0, .one (.e (.sl 0 0 x1.length))), (4, .one (.e (.p 1 0))), (10, .one (.e (.sl 0 0 x1.length))), (11, I ((x1.length : Nat) : Int)), (12, I i578), (27, .one (.e (.sl 0 0 i578.toNat))), (28, I ((i578.toNat : Nat) : Int)), (29, I i818), (52, B false)], [.row .lck x1 false, .cells [cI ((x1.getD i578.toNat dlck).who), cI ((x1.getD i578.toNat dlck).node), cI ((x1.getD i578.toNat dlck).mode)]]⟩ (by kernel_rfl) trivial ?_
          cases hv870
          exact WO_nil rfl ⟨rfl, rfl⟩
      · refine thenS_n ?_
        refine iteO_e h (fun hb876 h => W_true rfl hb876 ?_) (fun hb876 h => W_false rfl hb876 ?_)
        · refine W_seq ?_
          refine W_region ?_
          refine WO_step 1 [0] [2] True ⟨[(2, B false)], [.row .lck x1 false]⟩ (by kernel_rfl) trivial ?_
          refine WO_nil rfl ?_
          refine thenS_n ?_
          refine W_ret ?_
          refine blockS_r ?_
          refine thenS_r ?_
          refine thenS_r ?_
          cases h
          exact And.intro rfl rfl
        · refine W_sub [0, 1] [0, 4, 10, 11, 12, 27, 28, 29] (st' := ⟨[(0, .one (.e (.sl 0 0 x1.length))), (4, .one (.e (.p 1 0))), (10, .one (.e (.sl 0 0 x1.length))), (11, I ((x1.length : Nat) : Int)), (12, I i578), (27, .one (.e (.sl 0 0 i578.toNat))), (28, I ((i578.toNat : Nat) : Int)), (29, I i818)], [.row .lck x1 false, .cells [cI ((x1.getD i578.toNat dlck).who), cI ((x1.getD i578.toNat dlck).node), cI ((x1.getD i578.toNat dlck).mode)]]⟩) (by kernel_rfl) ?_
          refine W_skip ?_
          refine blockS_n ?_
          refine thenS_n ?_
          refine W_region ?_
          refine WO_step 2 [0, 1] [0, 4, 10, 11, 12, 27, 28, 29] (True ∧ True) ⟨[(0, .one (.e (.sl 0 0 x1.length))), (4, .one (.e (.p 1 0))), (10, .one (.e (.sl 0 0 x1.length))), (11, I ((x1.length : Nat) : Int)), (12, I i578), (27, .one (.e (.sl 0 0 i578.toNat))), (28, I ((i578.toNat : Nat) : Int)), (29, I (w64 (i818 + 1)))], [.row .lck x1 false, .cells [cI ((x1.getD i578.toNat dlck).who), cI ((x1.getD i578.toNat dlck).node), cI ((x1.getD i578.toNat dlck).mode)]]⟩ (by kernel_rfl) ⟨trivial, trivial⟩ ?_
          refine WO_nil rfl ?_
          refine thenS_n ?_
          exact ih _ h
    · refine W_sub [0] [0, 10, 11, 12] (st' := ⟨[(0, .one (.e (.sl 0 0 x1.length))), (10, .one (.e (.sl 0 0 x1.length))), (11, I ((x1.length : Nat) : Int)), (12, I i578)], [.row .lck x1 false]⟩) (by kernel_rfl) ?_
      refine W_exit ?_
      refine thenS_e ?_
      refine thenS_e ?_
      cases h
      exact And.intro rfl rfl

def impl_ValidTable_L1 (x1 : List Lck) : Nat → Int → Option ((Unit) ⊕ (Unit))
| 0, _ => none
| n + 1, i578 =>
 iteO (decide (i578 < ((x1.length : Nat) : Int)))
 (guardO (0 ≤ i578 ∧ i578 < ((x1.length : Nat) : Int)) <|
 iteO (!(impl_isAsk ((x1.getD i578.toNat dlck).who) ((x1.getD i578.toNat dlck).node) ((x1.getD i578.toNat dlck).mode)))
 (some (.inl ()))
 (guardO (0 ≤ i578 ∧ i578 ≤ ((x1.length : Nat) : Int)) <|
 bindO (impl_ValidTable_L2 x1 i578 n 0) fun v877 =>
 match v877 with
 | (.inl _) => (some (.inl ()))
 | (.inr _) => (impl_ValidTable_L1 x1 n (w64 (i578 + 1)))
))
 (some (.inr ()))

theorem impl_ValidTable_L1_ok (w : World) (X : Nat → Prop) (θ : List Loc) (x1 : List Lck) (v : (Unit) ⊕ (Unit)) : ∀ (n : Nat) (i578 : Int), impl_ValidTable_L1 x1 n i578 = some v → WL EE ⟨w, X, θ, 55, 1⟩ (subC [1, 1, 0, 1, 4, 4] (bodyC Tryd.f15)) (fun (e : Exit) (s : St) => (match v with | (.inl _) => e = .ret ∧ s = ⟨[(2, B false)], [.row .lck x1 false]⟩ | (.inr _) => e = .exit 0 ∧ s = ⟨[], [.row .lck x1 false]⟩ : Prop)) ⟨[(0, .one (.e (.sl 0 0 x1.length))), (10, .one (.e (.sl 0 0 x1.length))), (11, I ((x1.length : Nat) : Int)), (12, I i578)], [.row .lck x1 false]⟩ := by
  intro n
  induction n with
  | zero => intro _ h; exact none_e h
  | succ n ih =>
    intro i578 h
    rw [impl_ValidTable_L1] at h
    refine WL_round ?_
    refine W_seq ?_
    refine W_region ?_
    refine WO_step 1 [0] [0, 10, 11, 12, 13] (True ∧ True) ⟨[(0, .one (.e (.sl 0 0 x1.length))), (10, .one (.e (.sl 0 0 x1.length))), (11, I ((x1.length : Nat) : Int)), (12, I i578), (13, B (decide (i578 < ((x1.length : Nat) : Int))))], [.row .lck x1 false]⟩ (by kernel_rfl) ⟨trivial, trivial⟩ ?_
    refine WO_nil rfl ?_
    refine thenS_n ?_
    refine W_seq ?_
    refine iteO_e h (fun hb716 h => W_true rfl hb716 ?_) (fun hb716 h => W_false rfl hb716 ?_)
    · refine W_sub [0] [0, 10, 11, 12] (st' := ⟨[(0, .one (.e (.sl 0 0 x1.length))), (10, .one (.e (.sl 0 0 x1.length))), (11, I ((x1.length : Nat) : Int)), (12, I i578)], [.row .lck x1 false]⟩) (by kernel_rfl) ?_
      refine W_skip ?_
      refine thenS_n ?_
      refine W_seq ?_
      refine W_block ?_
      refine W_seq ?_
      refine W_region ?_
      refine guardO_e h (fun hg783 h => ?_)
      refine WO_step 6 [0, 1] [0, 3, 4, 10, 11, 12] ((0 ≤ i578 ∧ i578 < ((x1.length : Nat) : Int)) ∧ (True ∧ (True ∧ (True ∧ True)))) ⟨[(0, .one (.e (.sl 0 0 x1.length))), (3, I i578), (4, .one (.e (.p 1 0))), (10, .one (.e (.sl 0 0 x1.length))), (11, I ((x1.length : Nat) : Int)), (12, I i578)], [.row .lck x1 false, .cells [cI ((x1.getD i578.toNat dlck).who), cI ((x1.getD i578.toNat dlck).node), cI ((x1.getD i578.toNat dlck).mode)]]⟩ (by kernel_rfl) ⟨hg783, trivial, trivial, trivial, trivial⟩ ?_
      refine WO_nil rfl ?_
      refine thenS_n ?_
      refine W_seq ?_
      refine W_seq ?_
      refine W_region ?_
      refine WO_step 6 [0, 1] [0, 3, 4, 10, 11, 12, 18, 20, 22] (True ∧ (True ∧ (True ∧ True))) ⟨[(0, .one (.e (.sl 0 0 x1.length))), (3, I i578), (4, .one (.e (.p 1 0))), (10, .one (.e (.sl 0 0 x1.length))), (11, I ((x1.length : Nat) : Int)), (12, I i578), (18, I ((x1.getD i578.toNat dlck).who)), (20, I ((x1.getD i578.toNat dlck).node)), (22, I ((x1.getD i578.toNat dlck).mode))], [.row .lck x1 false, .cells [cI ((x1.getD i578.toNat dlck).who), cI ((x1.getD i578.toNat dlck).node), cI ((x1.getD i578.toNat dlck).mode)]]⟩ (by kernel_rfl) ⟨trivial, trivial, trivial, trivial⟩ ?_
      refine WO_call [] Tryd.f32 rfl rfl rfl (by kernel_rfl) Tryd.func32 rfl (by kernel_rfl) (impl_isAsk_ok ((x1.getD i578.toNat dlck).who) ((x1.getD i578.toNat dlck).node) ((x1.getD i578.toNat dlck).mode)) (trivial) rfl ?_
      refine WO_step 1 [0, 1] [0, 3, 4, 10, 11, 12, 24] True ⟨[(0, .one (.e (.sl 0 0 x1.length))), (3, I i578), (4, .one (.e (.p 1 0))), (10, .one (.e (.sl 0 0 x1.length))), (11, I ((x1.length : Nat) : Int)), (12, I i578), (24, B (!(impl_isAsk ((x1.getD i578.toNat dlck).who) ((x1.getD i578.toNat dlck).node) ((x1.getD i578.toNat dlck).mode))))], [.row .lck x1 false, .cells [cI ((x1.getD i578.toNat dlck).who), cI ((x1.getD i578.toNat dlck).node), cI ((x1.getD i578.toNat dlck).mode)]]⟩ (by kernel_rfl) trivial ?_
      refine WO_nil rfl ?_
      refine thenS_n ?_
      refine iteO_e h (fun hb785 h => W_true rfl hb785 ?_) (fun hb785 h => W_false rfl hb785 ?_)
      · refine W_seq ?_
        refine W_region ?_
        refine WO_step 1 [0] [2] True ⟨[(2, B false)], [.row .lck x1 false]⟩ (by kernel_rfl) trivial ?_
        refine WO_nil rfl ?_
        refine thenS_n ?_
        refine W_ret ?_
        refine thenS_r ?_
        refine blockS_r ?_
        refine thenS_r ?_
        refine thenS_r ?_
        cases h
        exact And.intro rfl rfl
      · refine W_sub [0, 1] [0, 3, 4, 10, 11, 12] (st' := ⟨[(0, .one (.e (.sl 0 0 x1.length))), (3, I i578), (4, .one (.e (.p 1 0))), (10, .one (.e (.sl 0 0 x1.length))), (11, I ((x1.length : Nat) : Int)), (12, I i578)], [.row .lck x1 false, .cells [cI ((x1.getD i578.toNat dlck).who), cI ((x1.getD i578.toNat dlck).node), cI ((x1.getD i578.toNat dlck).mode)]]⟩) (by kernel_rfl) ?_
        refine W_skip ?_
        refine thenS_n ?_
        refine W_seq ?_
        refine W_region ?_
        refine guardO_e h (fun hg786 h => ?_)
        refine WO_step 5 [0, 1] [0, 4, 10, 11, 12, 27, 28, 29] ((0 ≤ i578 ∧ i578 ≤ ((x1.length : Nat) : Int)) ∧ (True ∧ True)) ⟨[(0, .one (.e (.sl 0 0 x1.length))), (4, .one (.e (.p 1 0))), (10, .one (.e (.sl 0 0 x1.length))), (11, I ((x1.length : Nat) : Int)), (12, I i578), (27, .one (.e (.sl 0 0 i578.toNat))), (28, I ((i578.toNat : Nat) : Int)), (29, I 0)], [.row .lck x1 false, .cells [cI ((x1.getD i578.toNat dlck).who), cI ((x1.getD i578.toNat dlck).node), cI ((x1.getD i578.toNat dlck).mode)]]⟩ (by kernel_rfl) ⟨hg786, trivial, trivial⟩ ?_
        refine WO_nil rfl ?_
        refine thenS_n ?_
        refine W_block ?_
        refine W_loop ?_
        refine bindO_e h (fun v877 hv877 h => ?_)
        refine WL_cut (impl_ValidTable_L2_ok w X θ x1 i578 v877 n 0 hv877) ?_
        rcases v877 with _ | _
        · rintro _ _ ⟨rfl, rfl⟩
          refine blockS_r ?_
          refine blockS_r ?_
          refine thenS_r ?_
          refine thenS_r ?_
          cases h
          exact And.intro rfl rfl
        · rintro _ _ ⟨rfl, rfl⟩
          refine blockS_y ?_
          refine blockS_n ?_
          refine thenS_n ?_
          refine W_region ?_
          refine WO_step 2 [0] [0, 10, 11, 12] (True ∧ True) ⟨[(0, .one (.e (.sl 0 0 x1.length))), (10, .one (.e (.sl 0 0 x1.length))), (11, I ((x1.length : Nat) : Int)), (12, I (w64 (i578 + 1)))], [.row .lck x1 false]⟩ (by kernel_rfl) ⟨trivial, trivial⟩ ?_
          refine WO_nil rfl ?_
          refine thenS_n ?_
          exact ih _ h
    · refine W_sub [0] [] (st' := ⟨[], [.row .lck x1 false]⟩) (by kernel_rfl) ?_
      refine W_exit ?_
      refine thenS_e ?_
      refine thenS_e ?_
      cases h
      exact And.intro rfl rfl

def impl_ValidTable (n : Nat) (x1 : List Lck) : Option (Bool) :=
 iteO (decide (48 < ((x1.length : Nat) : Int)))
 (some false)
 (bindO (impl_ValidTable_L1 x1 n 0) fun v878 =>
 match v878 with
 | (.inl _) => (some false)
 | (.inr _) => (some true)
)

theorem impl_ValidTable_ok (n : Nat) (x1 : List Lck) (b438 : Bool) (h : impl_ValidTable n x1 = some b438) : FOk EE 15 [.one (.e (.sl 0 0 x1.length))] [.row .lck x1 false] (B b438) [.row .lck x1 false] := by
  unfold impl_ValidTable at h
  refine FOk_of_W 55 1 Tryd.func15 rfl rfl (Nat.le_of_ble_eq_true rfl) rfl (fun w X θ => ?_)
  refine W_seq ?_
  refine W_region ?_
  refine WO_step 1 [0] [0] True ⟨[(0, .one (.e (.sl 0 0 x1.length)))], [.row .lck x1 false]⟩ (by kernel_rfl) trivial ?_
  refine WO_nil rfl ?_
  refine thenS_n ?_
  refine W_seq ?_
  refine W_seq ?_
  refine W_region ?_
  refine WO_step 3 [0] [0, 9] (True ∧ (True ∧ True)) ⟨[(0, .one (.e (.sl 0 0 x1.length))), (9, B (decide (48 < ((x1.length : Nat) : Int))))], [.row .lck x1 false]⟩ (by kernel_rfl) ⟨trivial, trivial, trivial⟩ ?_
  refine WO_nil rfl ?_
  refine thenS_n ?_
  refine iteO_e h (fun hb440 h => W_true rfl hb440 ?_) (fun hb440 h => W_false rfl hb440 ?_)
  · refine W_seq ?_
    refine W_region ?_
    refine WO_step 1 [0] [2] True ⟨[(2, B false)], [.row .lck x1 false]⟩ (by kernel_rfl) trivial ?_
    refine WO_nil rfl ?_
    refine thenS_n ?_
    refine W_ret ?_
    refine thenS_r ?_
    cases h
    exact ⟨[0], True, by kernel_rfl, trivial⟩
  · refine W_sub [0] [0] (st' := ⟨[(0, .one (.e (.sl 0 0 x1.length)))], [.row .lck x1 false]⟩) (by kernel_rfl) ?_
    refine W_skip ?_
    refine thenS_n ?_
    refine W_seq ?_
    refine W_seq ?_
    refine W_region ?_
    refine WO_step 3 [0] [0, 10, 11, 12] (True ∧ True) ⟨[(0, .one (.e (.sl 0 0 x1.length))), (10, .one (.e (.sl 0 0 x1.length))), (11, I ((x1.length : Nat) : Int)), (12, I 0)], [.row .lck x1 false]⟩ (by kernel_rfl) ⟨trivial, trivial⟩ ?_
    refine WO_nil rfl ?_
    refine thenS_n ?_
    refine W_block ?_
    refine W_loop ?_
    refine bindO_e h (fun v878 hv878 h => ?_)
    refine WL_cut (impl_ValidTable_L1_ok w X θ x1 v878 n 0 hv878) ?_
    rcases v878 with _ | _
    · rintro _ _ ⟨rfl, rfl⟩
      refine blockS_r ?_
      refine thenS_r ?_
      cases h
      exact ⟨[0], True, by kernel_rfl, trivial⟩
    · rintro _ _ ⟨rfl, rfl⟩
      refine blockS_y ?_
      refine thenS_n ?_
      refine W_seq ?_
      refine W_region ?_
      refine WO_step 1 [0] [2] True ⟨[(2, B true)], [.row .lck x1 false]⟩ (by kernel_rfl) trivial ?_
      refine WO_nil rfl ?_
      refine thenS_n ?_
      refine W_ret ?_
      cases h
      exact ⟨[0], True, by kernel_rfl, trivial⟩

/- (*strings.Builder).copyCheck -/
def lays240R : Shelf.Ren := ⟨fun n => match n with | 240 => 44 | 276 => 58 | _ => 0, fun n => match n with | 0 => 0 | 4 => 4 | 9 => 9 | 20 => 20 | 70 => 46 | 72 => 48 | 164 => 85 | 37 => 29 | 5 => 5 | _ => 0, fun n => n⟩
set_option maxRecDepth 100000 in
theorem lays240 : Lays.n240 Tryd.prog lays240R := {
  mixed := by kernel_rfl
  f240 := by kernel_rfl
  f276 := by kernel_rfl
  t0 := Tryd.underlying0
  a0 := Tryd.isAgg0
  z0 := Tryd.sizeOf0
  v0 := Tryd.zeroValue0
  t4 := Tryd.underlying4
  a4 := Tryd.isAgg4
  z4 := Tryd.sizeOf4
  v4 := Tryd.zeroValue4
  t9 := Tryd.underlying9
  a9 := Tryd.isAgg9
  z9 := Tryd.sizeOf9
  v9 := Tryd.zeroValue9
  t20 := Tryd.underlying20
  a20 := Tryd.isAgg20
  z20 := Tryd.sizeOf20
  v20 := Tryd.zeroValue20
  t70 := Tryd.underlying46
  a70 := Tryd.isAgg46
  z70 := Tryd.sizeOf46
  v70 := Tryd.zeroValue46
  t72 := Tryd.underlying48
  a72 := Tryd.isAgg48
  z72 := Tryd.sizeOf48
  v72 := Tryd.zeroValue48
  t164 := Tryd.underlying85
  a164 := Tryd.isAgg85
  z164 := Tryd.sizeOf85
  v164 := Tryd.zeroValue85 }
theorem x72 : Builder.X72 Tryd.prog lays240R := {
  sizeBuilder := by kernel_rfl
  liesBuilder := by kernel_rfl }
theorem copyCheck_ok (x1 : List Int) : FOk EE 44 [.one (.e (.p 0 0))] [.cells [.sp 0 48, .bsl 1 x1.length], .row .u8 x1 true] (.tup []) [.cells [.sp 0 48, .bsl 1 x1.length], .row .u8 x1 true] := by
  refine FOk_copy (fun b w h0 h1 h2 => ?_) (fun b w h0 => ?_) x1.length x1
  · exact Any.Builder_copyCheck_fresh lays240 x72 b w h0 h1 h2
  · exact Any.Builder_copyCheck_used lays240 x72 b w h0

/- (*strings.Builder).WriteString -/
def strings_Builder_WriteString (x1 : List Int) (s2 : Str) : Option ((List Int) × Int) :=
 guardO (0 = 0 ∧ x1.length = x1.length ∧ x1.length + ((s2 : Str).map fun b => ((b.toNat : Nat) : Int)).length ≤ 1099511627776) <|
 some ((x1 ++ ((s2 : Str).map fun b => ((b.toNat : Nat) : Int))), ((s2.length : Nat) : Int))

theorem strings_Builder_WriteString_ok (x1 : List Int) (s2 : Str) (x4 : List Int) (i5 : Int) (h : strings_Builder_WriteString x1 s2 = some (x4, i5)) : FOk EE 25 [.one (.e (.p 0 0)), S s2] [.cells [.sp 0 48, .bsl 1 x1.length], .row .u8 x1 true] (.tup [.e (cI i5), .e (.nif)]) [.cells [.sp 0 48, .bsl 2 x4.length], .dead, .row .u8 x4 true] := by
  unfold strings_Builder_WriteString at h
  refine FOk_of_W 19 2 Tryd.func25 rfl rfl (Nat.le_of_ble_eq_true rfl) rfl (fun w X θ => ?_)
  refine W_seq ?_
  refine W_region ?_
  refine WO_step 2 [0, 1] [0, 1] True ⟨[(0, .one (.e (.p 0 0))), (1, S s2)], [.cells [.sp 0 48, .bsl 1 x1.length], .row .u8 x1 true]⟩ (by kernel_rfl) trivial ?_
  refine WO_nil rfl ?_
  refine thenS_n ?_
  refine W_seq ?_
  refine W_region ?_
  refine WO_step 1 [0, 1] [0, 1, 6] True ⟨[(0, .one (.e (.p 0 0))), (1, S s2), (6, .one (.e (.p 0 0)))], [.cells [.sp 0 48, .bsl 1 x1.length], .row .u8 x1 true]⟩ (by kernel_rfl) trivial ?_
  refine WO_call [.own 0, .own 1] Tryd.f44 rfl rfl rfl (by kernel_rfl) Tryd.func44 rfl (by kernel_rfl) (copyCheck_ok x1) (And.intro (trivial) (And.intro (And.intro rfl (And.intro rfl rfl)) (trivial))) rfl ?_
  refine WO_sub [0, 1] [0, 1] (st' := ⟨[(0, .one (.e (.p 0 0))), (1, S s2)], [.cells [.sp 0 48, .bsl 1 x1.length], .row .u8 x1 true]⟩) (by kernel_rfl) ?_
  refine WO_nil rfl ?_
  refine thenS_n ?_
  refine W_seq ?_
  refine W_region ?_
  refine guardO_e h (fun hg6 h => ?_)
  refine WO_step 10 [0, 1, 2] [1] (True ∧ ((0 = 0 ∧ x1.length = x1.length ∧ x1.length + ((s2 : Str).map fun b => ((b.toNat : Nat) : Int)).length ≤ 1099511627776) ∧ (True ∧ True))) ⟨[(1, S s2)], [.cells [.sp 0 48, .bsl 2 ((x1 ++ ((s2 : Str).map fun b => ((b.toNat : Nat) : Int))).length)], .dead, .row .u8 (x1 ++ ((s2 : Str).map fun b => ((b.toNat : Nat) : Int))) true]⟩ (by kernel_rfl) ⟨trivial, hg6, trivial, trivial⟩ ?_
  refine WO_nil rfl ?_
  refine thenS_n ?_
  refine W_seq ?_
  refine W_region ?_
  refine WO_step 4 [0, 1, 2] [4, 5] (True ∧ True) ⟨[(4, I ((s2.length : Nat) : Int)), (5, .one (.e (.nif)))], [.cells [.sp 0 48, .bsl 2 ((x1 ++ ((s2 : Str).map fun b => ((b.toNat : Nat) : Int))).length)], .dead, .row .u8 (x1 ++ ((s2 : Str).map fun b => ((b.toNat : Nat) : Int))) true]⟩ (by kernel_rfl) ⟨trivial, trivial⟩ ?_
  refine WO_nil rfl ?_
  refine thenS_n ?_
  refine W_ret ?_
  cases h
  exact ⟨[0, 1, 2], True, by kernel_rfl, trivial⟩

/- strconv.Itoa -/
def lays171R : Shelf.Ren := ⟨fun n => match n with | 129 => 80 | 171 => 26 | 243 => 45 | 246 => 59 | 283 => 70 | 284 => 71 | 285 => 72 | 286 => 73 | 317 => 79 | 318 => 81 | 319 => 82 | 320 => 83 | 337 => 84 | 338 => 85 | _ => 0, fun n => match n with | 0 => 0 | 2 => 2 | 3 => 3 | 4 => 4 | 5 => 5 | 9 => 9 | 20 => 20 | 37 => 29 | 46 => 111 | 51 => 109 | 53 => 97 | 171 => 96 | 173 => 100 | 212 => 108 | 213 => 110 | 232 => 114 | 233 => 115 | _ => 0, fun n => match n with | 17 => 1 | 18 => 2 | 19 => 3 | _ => 0⟩
set_option maxRecDepth 100000 in
theorem lays171 : LaysM.n171 Tryd.prog lays171R := {
  mixed := by kernel_rfl
  f129 := by kernel_rfl
  f171 := by kernel_rfl
  f243 := by kernel_rfl
  f246 := by kernel_rfl
  f283 := by kernel_rfl
  f284 := by kernel_rfl
  f285 := by kernel_rfl
  f286 := by kernel_rfl
  f317 := by kernel_rfl
  f318 := by kernel_rfl
  f319 := by kernel_rfl
  f320 := by kernel_rfl
  f337 := by kernel_rfl
  f338 := by kernel_rfl
  t0 := Tryd.underlying0
  a0 := Tryd.isAgg0
  z0 := Tryd.sizeOf0
  v0 := Tryd.zeroValue0
  t2 := Tryd.underlying2
  a2 := Tryd.isAgg2
  z2 := Tryd.sizeOf2
  v2 := Tryd.zeroValue2
  t3 := Tryd.underlying3
  a3 := Tryd.isAgg3
  z3 := Tryd.sizeOf3
  v3 := Tryd.zeroValue3
  t4 := Tryd.underlying4
  a4 := Tryd.isAgg4
  z4 := Tryd.sizeOf4
  v4 := Tryd.zeroValue4
  t5 := Tryd.underlying5
  a5 := Tryd.isAgg5
  z5 := Tryd.sizeOf5
  v5 := Tryd.zeroValue5
  t9 := Tryd.underlying9
  a9 := Tryd.isAgg9
  z9 := Tryd.sizeOf9
  v9 := Tryd.zeroValue9
  t20 := Tryd.underlying20
  a20 := Tryd.isAgg20
  z20 := Tryd.sizeOf20
  v20 := Tryd.zeroValue20
  t37 := Tryd.underlying29
  a37 := Tryd.isAgg29
  z37 := Tryd.sizeOf29
  v37 := Tryd.zeroValue29
  t46 := Tryd.underlying111
  a46 := Tryd.isAgg111
  z46 := Tryd.sizeOf111
  v46 := Tryd.zeroValue111
  t51 := Tryd.underlying109
  a51 := Tryd.isAgg109
  z51 := Tryd.sizeOf109
  v51 := Tryd.zeroValue109
  t53 := Tryd.underlying97
  a53 := Tryd.isAgg97
  z53 := Tryd.sizeOf97
  v53 := Tryd.zeroValue97
  t171 := Tryd.underlying96
  a171 := Tryd.isAgg96
  z171 := Tryd.sizeOf96
  v171 := Tryd.zeroValue96
  t173 := Tryd.underlying100
  a173 := Tryd.isAgg100
  z173 := Tryd.sizeOf100
  v173 := Tryd.zeroValue100
  t212 := Tryd.underlying108
  a212 := Tryd.isAgg108
  z212 := Tryd.sizeOf108
  v212 := Tryd.zeroValue108
  t213 := Tryd.underlying110
  a213 := Tryd.isAgg110
  z213 := Tryd.sizeOf110
  t232 := Tryd.underlying114
  a232 := Tryd.isAgg114
  z232 := Tryd.sizeOf114
  v232 := Tryd.zeroValue114
  t233 := Tryd.underlying115
  a233 := Tryd.isAgg115
  z233 := Tryd.sizeOf115
  v233 := Tryd.zeroValue115
  g17 := by kernel_rfl
  g18 := by kernel_rfl
  g19 := by kernel_rfl
  i0 := by kernel_rfl
  i2 := by kernel_rfl
  i3 := by kernel_rfl
  i4 := by kernel_rfl
  i5 := by kernel_rfl
  i9 := by kernel_rfl
  i20 := by kernel_rfl
  i37 := by kernel_rfl
  i46 := by kernel_rfl
  i51 := by kernel_rfl
  i53 := by kernel_rfl
  i171 := by kernel_rfl
  i173 := by kernel_rfl
  i212 := by kernel_rfl
  i232 := by kernel_rfl
  i233 := by kernel_rfl
  m17 := by kernel_rfl
  m18 := by kernel_rfl
  m19 := by kernel_rfl }
def strconv_Itoa (i1 : Int) : Option Str :=
 guardO (-9223372036854775808 ≤ i1 ∧ i1 ≤ 9223372036854775807) <|
 some (Lib.itoa i1)
theorem strconv_Itoa_ok (i1 : Int) (s2 : Str) (h : strconv_Itoa i1 = some s2) : FOk EE 26 [I i1] [] (S s2) [] := by
  unfold strconv_Itoa at h
  refine guardO_e h (fun hg h => ?_)
  cases h
  refine FOk_kept (args := [.int .i64 i1]) (r := .str (Lib.itoa i1)) (fun w hw => ?_)
  refine (Any.strconv_Itoa lays171 i1 hg.1 hg.2 w (KK_tab w hw)).mono ?_
  rintro e w' ⟨rfl, k, os, rfl⟩
  exact ⟨rfl, Lib.below_grow _ w (Nat.le_refl _) k os⟩

/- (*strings.Builder).WriteByte -/
def strings_Builder_WriteByte (x1 : List Int) (i2 : Int) : Option ((List Int)) :=
 guardO (0 = 0 ∧ x1.length = x1.length ∧ x1.length + (([i2].drop 0).take ([i2].length)).length ≤ 1099511627776) <|
 some (x1 ++ (([i2].drop 0).take ([i2].length)))

theorem strings_Builder_WriteByte_ok (x1 : List Int) (i2 : Int) (x4 : List Int) (h : strings_Builder_WriteByte x1 i2 = some x4) : FOk EE 27 [.one (.e (.p 0 0)), U i2] [.cells [.sp 0 48, .bsl 1 x1.length], .row .u8 x1 true] (.one (.e (.nif))) [.cells [.sp 0 48, .bsl 2 x4.length], .dead, .row .u8 x4 true] := by
  unfold strings_Builder_WriteByte at h
  refine FOk_of_W 17 2 Tryd.func27 rfl rfl (Nat.le_of_ble_eq_true rfl) rfl (fun w X θ => ?_)
  refine W_seq ?_
  refine W_region ?_
  refine WO_step 1 [0, 1] [0, 1] True ⟨[(0, .one (.e (.p 0 0))), (1, U i2)], [.cells [.sp 0 48, .bsl 1 x1.length], .row .u8 x1 true]⟩ (by kernel_rfl) trivial ?_
  refine WO_nil rfl ?_
  refine thenS_n ?_
  refine W_seq ?_
  refine W_region ?_
  refine WO_step 1 [0, 1] [0, 1, 5] True ⟨[(0, .one (.e (.p 0 0))), (1, U i2), (5, .one (.e (.p 0 0)))], [.cells [.sp 0 48, .bsl 1 x1.length], .row .u8 x1 true]⟩ (by kernel_rfl) trivial ?_
  refine WO_call [.own 0, .own 1] Tryd.f44 rfl rfl rfl (by kernel_rfl) Tryd.func44 rfl (by kernel_rfl) (copyCheck_ok x1) (And.intro (trivial) (And.intro (And.intro rfl (And.intro rfl rfl)) (trivial))) rfl ?_
  refine WO_sub [0, 1] [0, 1] (st' := ⟨[(0, .one (.e (.p 0 0))), (1, U i2)], [.cells [.sp 0 48, .bsl 1 x1.length], .row .u8 x1 true]⟩) (by kernel_rfl) ?_
  refine WO_nil rfl ?_
  refine thenS_n ?_
  refine W_seq ?_
  refine W_region ?_
  refine guardO_e h (fun hg5 h => ?_)
  refine WO_step 11 [0, 1, 3] [] (True ∧ ((0 = 0 ∧ x1.length = x1.length ∧ x1.length + (([i2].drop 0).take ([i2].length)).length ≤ 1099511627776) ∧ (True ∧ True))) ⟨[], [.cells [.sp 0 48, .bsl 2 ((x1 ++ (([i2].drop 0).take ([i2].length))).length)], .dead, .row .u8 (x1 ++ (([i2].drop 0).take ([i2].length))) true]⟩ (by kernel_rfl) ⟨trivial, hg5, trivial, trivial⟩ ?_
  refine WO_nil rfl ?_
  refine thenS_n ?_
  refine W_seq ?_
  refine W_region ?_
  refine WO_step 1 [0, 1, 2] [4] True ⟨[(4, .one (.e (.nif)))], [.cells [.sp 0 48, .bsl 2 ((x1 ++ (([i2].drop 0).take ([i2].length))).length)], .dead, .row .u8 (x1 ++ (([i2].drop 0).take ([i2].length))) true]⟩ (by kernel_rfl) trivial ?_
  refine WO_nil rfl ?_
  refine thenS_n ?_
  refine W_ret ?_
  cases h
  exact ⟨[0, 1, 2], True, by kernel_rfl, trivial⟩

/- (*strings.Builder).String -/
def strings_Builder_String (x1 : List Int) : Option (Nat × Str) :=
 guardO (((x1.length : Nat) : Int) = (x1.length : Int) ∧ ∀ x ∈ x1, 0 ≤ x ∧ x ≤ 255) <|
 some (x1.length, (bytesOf x1))

theorem strings_Builder_String_ok (x1 : List Int) (k3 : Nat) (s4 : Str) (h : strings_Builder_String x1 = some (k3, s4)) : FOk EE 28 [.one (.e (.p 0 0))] [.cells [.sp 0 48, .bsl 1 x1.length], .row .u8 x1 true] (S s4) [.cells [.sp 0 48, .bsl 1 k3], .dead] := by
  unfold strings_Builder_String at h
  refine FOk_of_W 14 2 Tryd.func28 rfl rfl (Nat.le_of_ble_eq_true rfl) rfl (fun w X θ => ?_)
  refine W_seq ?_
  refine W_region ?_
  refine WO_step 1 [0, 1] [0] True ⟨[(0, .one (.e (.p 0 0)))], [.cells [.sp 0 48, .bsl 1 x1.length], .row .u8 x1 true]⟩ (by kernel_rfl) trivial ?_
  refine WO_nil rfl ?_
  refine thenS_n ?_
  refine W_seq ?_
  refine guardO_e h (fun hg5 h => ?_)
  refine W_cut (Q' := fun (e : Exit) (s : St) => e = .normal ∧ s = ⟨[(2, S (bytesOf x1))], [.cells [.sp 0 48, .bsl 1 x1.length], .dead]⟩) ?_ ?_
  · refine W_draw [1] false (by kernel_rfl) (by kernel_rfl) ?_
    refine WD_takeK [0, 1, 2, 5, 6, 7] [5, 10] [5, 10] (φ := True) (ls' := #[true, true, true, false, false, true, true, true, false, false, false, false]) (Ts' := [(5, .one (.e (.p 0 1))), (10, .one (.e (.p 0 1)))]) (st' := ⟨[(5, .one (.e (.p 0 1))), (10, .one (.e (.p 0 1)))], [.cells [.sp 0 48, .bsl 1 x1.length], .row .u8 x1 true]⟩) (n2 := 6) (by kernel_rfl) trivial rfl ?_
    refine WD_all [3, 8] (n := 5) (by kernel_rfl) rfl (And.intro ?_ (?_))
    · refine WM_op (φ := True) (v := .one (.e (.bsl 1 x1.length))) (H' := [.cells [.sp 0 48, .bsl 1 x1.length], .row .u8 x1 true]) rfl rfl (by kernel_rfl) trivial rfl (And.intro (And.intro rfl rfl) (trivial)) ?_
      refine WD_all [4, 8] (n := 4) (by kernel_rfl) rfl (And.intro ?_ (?_))
      · refine WM_op (φ := True) (v := .one (.e (.sd 1))) (H' := [.cells [.sp 0 48, .bsl 1 x1.length], .row .u8 x1 true]) rfl rfl (by kernel_rfl) trivial rfl (And.intro (And.intro rfl rfl) (trivial)) ?_
        refine WD_all [8] (n := 3) (by kernel_rfl) rfl ?_
        refine WM_op (φ := True) (v := .one (.e (.bsl 1 x1.length))) (H' := [.cells [.sp 0 48, .bsl 1 x1.length], .row .u8 x1 true]) rfl rfl (by kernel_rfl) trivial rfl (And.intro (And.intro rfl rfl) (trivial)) ?_
        refine WD_all [9] (n := 2) (by kernel_rfl) rfl ?_
        refine WM_op (φ := True) (v := I ((x1.length : Nat) : Int)) (H' := [.cells [.sp 0 48, .bsl 1 x1.length], .row .u8 x1 true]) rfl rfl (by kernel_rfl) trivial rfl (And.intro (And.intro rfl rfl) (trivial)) ?_
        refine WD_all [10] (n := 1) (by kernel_rfl) rfl ?_
        refine WM_op (φ := ((x1.length : Nat) : Int) = (x1.length : Int) ∧ ∀ x ∈ x1, 0 ≤ x ∧ x ≤ 255) (v := S (bytesOf x1)) (H' := [.cells [.sp 0 48, .bsl 1 x1.length], .dead]) rfl rfl (by kernel_rfl) hg5 rfl (And.intro (And.intro rfl rfl) (trivial)) ?_
        refine WD_takeK [11] [2] [2] (φ := True) (ls' := #[true, true, true, true, true, true, true, true, true, true, true, true]) (Ts' := [(2, S (bytesOf x1))]) (st' := ⟨[(2, S (bytesOf x1))], [.cells [.sp 0 48, .bsl 1 x1.length], .dead]⟩) (n2 := 0) (by kernel_rfl) trivial rfl ?_
        exact WD_done [0, 1] [2] (st' := ⟨[(2, S (bytesOf x1))], [.cells [.sp 0 48, .bsl 1 x1.length], .dead]⟩) (by kernel_rfl) (by kernel_rfl) (And.intro rfl rfl)
      · refine WM_op (φ := True) (v := .one (.e (.bsl 1 x1.length))) (H' := [.cells [.sp 0 48, .bsl 1 x1.length], .row .u8 x1 true]) rfl rfl (by kernel_rfl) trivial rfl (And.intro (And.intro rfl rfl) (trivial)) ?_
        refine WD_all [4, 9] (n := 3) (by kernel_rfl) rfl (And.intro ?_ (?_))
        · refine WM_op (φ := True) (v := .one (.e (.sd 1))) (H' := [.cells [.sp 0 48, .bsl 1 x1.length], .row .u8 x1 true]) rfl rfl (by kernel_rfl) trivial rfl (And.intro (And.intro rfl rfl) (trivial)) ?_
          refine WD_all [9] (n := 2) (by kernel_rfl) rfl ?_
          refine WM_op (φ := True) (v := I ((x1.length : Nat) : Int)) (H' := [.cells [.sp 0 48, .bsl 1 x1.length], .row .u8 x1 true]) rfl rfl (by kernel_rfl) trivial rfl (And.intro (And.intro rfl rfl) (trivial)) ?_
          refine WD_all [10] (n := 1) (by kernel_rfl) rfl ?_
          refine WM_op (φ := ((x1.length : Nat) : Int) = (x1.length : Int) ∧ ∀ x ∈ x1, 0 ≤ x ∧ x ≤ 255) (v := S (bytesOf x1)) (H' := [.cells [.sp 0 48, .bsl 1 x1.length], .dead]) rfl rfl (by kernel_rfl) hg5 rfl (And.intro (And.intro rfl rfl) (trivial)) ?_
          refine WD_takeK [11] [2] [2] (φ := True) (ls' := #[true, true, true, true, true, true, true, true, true, true, true, true]) (Ts' := [(2, S (bytesOf x1))]) (st' := ⟨[(2, S (bytesOf x1))], [.cells [.sp 0 48, .bsl 1 x1.length], .dead]⟩) (n2 := 0) (by kernel_rfl) trivial rfl ?_
          exact WD_done [0, 1] [2] (st' := ⟨[(2, S (bytesOf x1))], [.cells [.sp 0 48, .bsl 1 x1.length], .dead]⟩) (by kernel_rfl) (by kernel_rfl) (And.intro rfl rfl)
        · refine WM_op (φ := True) (v := I ((x1.length : Nat) : Int)) (H' := [.cells [.sp 0 48, .bsl 1 x1.length], .row .u8 x1 true]) rfl rfl (by kernel_rfl) trivial rfl (And.intro (And.intro rfl rfl) (trivial)) ?_
          refine WD_all [4] (n := 2) (by kernel_rfl) rfl ?_
          refine WM_op (φ := True) (v := .one (.e (.sd 1))) (H' := [.cells [.sp 0 48, .bsl 1 x1.length], .row .u8 x1 true]) rfl rfl (by kernel_rfl) trivial rfl (And.intro (And.intro rfl rfl) (trivial)) ?_
          refine WD_all [10] (n := 1) (by kernel_rfl) rfl ?_
          refine WM_op (φ := ((x1.length : Nat) : Int) = (x1.length : Int) ∧ ∀ x ∈ x1, 0 ≤ x ∧ x ≤ 255) (v := S (bytesOf x1)) (H' := [.cells [.sp 0 48, .bsl 1 x1.length], .dead]) rfl rfl (by kernel_rfl) hg5 rfl (And.intro (And.intro rfl rfl) (trivial)) ?_
          refine WD_takeK [11] [2] [2] (φ := True) (ls' := #[true, true, true, true, true, true, true, true, true, true, true, true]) (Ts' := [(2, S (bytesOf x1))]) (st' := ⟨[(2, S (bytesOf x1))], [.cells [.sp 0 48, .bsl 1 x1.length], .dead]⟩) (n2 := 0) (by kernel_rfl) trivial rfl ?_
          exact WD_done [0, 1] [2] (st' := ⟨[(2, S (bytesOf x1))], [.cells [.sp 0 48, .bsl 1 x1.length], .dead]⟩) (by kernel_rfl) (by kernel_rfl) (And.intro rfl rfl)
    · refine WM_op (φ := True) (v := .one (.e (.bsl 1 x1.length))) (H' := [.cells [.sp 0 48, .bsl 1 x1.length], .row .u8 x1 true]) rfl rfl (by kernel_rfl) trivial rfl (And.intro (And.intro rfl rfl) (trivial)) ?_
      refine WD_all [3, 9] (n := 4) (by kernel_rfl) rfl (And.intro ?_ (?_))
      · refine WM_op (φ := True) (v := .one (.e (.bsl 1 x1.length))) (H' := [.cells [.sp 0 48, .bsl 1 x1.length], .row .u8 x1 true]) rfl rfl (by kernel_rfl) trivial rfl (And.intro (And.intro rfl rfl) (trivial)) ?_
        refine WD_all [4, 9] (n := 3) (by kernel_rfl) rfl (And.intro ?_ (?_))
        · refine WM_op (φ := True) (v := .one (.e (.sd 1))) (H' := [.cells [.sp 0 48, .bsl 1 x1.length], .row .u8 x1 true]) rfl rfl (by kernel_rfl) trivial rfl (And.intro (And.intro rfl rfl) (trivial)) ?_
          refine WD_all [9] (n := 2) (by kernel_rfl) rfl ?_
          refine WM_op (φ := True) (v := I ((x1.length : Nat) : Int)) (H' := [.cells [.sp 0 48, .bsl 1 x1.length], .row .u8 x1 true]) rfl rfl (by kernel_rfl) trivial rfl (And.intro (And.intro rfl rfl) (trivial)) ?_
          refine WD_all [10] (n := 1) (by kernel_rfl) rfl ?_
          refine WM_op (φ := ((x1.length : Nat) : Int) = (x1.length : Int) ∧ ∀ x ∈ x1, 0 ≤ x ∧ x ≤ 255) (v := S (bytesOf x1)) (H' := [.cells [.sp 0 48, .bsl 1 x1.length], .dead]) rfl rfl (by kernel_rfl) hg5 rfl (And.intro (And.intro rfl rfl) (trivial)) ?_
          refine WD_takeK [11] [2] [2] (φ := True) (ls' := #[true, true, true, true, true, true, true, true, true, true, true, true]) (Ts' := [(2, S (bytesOf x1))]) (st' := ⟨[(2, S (bytesOf x1))], [.cells [.sp 0 48, .bsl 1 x1.length], .dead]⟩) (n2 := 0) (by kernel_rfl) trivial rfl ?_
          exact WD_done [0, 1] [2] (st' := ⟨[(2, S (bytesOf x1))], [.cells [.sp 0 48, .bsl 1 x1.length], .dead]⟩) (by kernel_rfl) (by kernel_rfl) (And.intro rfl rfl)
        · refine WM_op (φ := True) (v := I ((x1.length : Nat) : Int)) (H' := [.cells [.sp 0 48, .bsl 1 x1.length], .row .u8 x1 true]) rfl rfl (by kernel_rfl) trivial rfl (And.intro (And.intro rfl rfl) (trivial)) ?_
          refine WD_all [4] (n := 2) (by kernel_rfl) rfl ?_
          refine WM_op (φ := True) (v := .one (.e (.sd 1))) (H' := [.cells [.sp 0 48, .bsl 1 x1.length], .row .u8 x1 true]) rfl rfl (by kernel_rfl) trivial rfl (And.intro (And.intro rfl rfl) (trivial)) ?_
          refine WD_all [10] (n := 1) (by kernel_rfl) rfl ?_
          refine WM_op (φ := ((x1.length : Nat) : Int) = (x1.length : Int) ∧ ∀ x ∈ x1, 0 ≤ x ∧ x ≤ 255) (v := S (bytesOf x1)) (H' := [.cells [.sp 0 48, .bsl 1 x1.length], .dead]) rfl rfl (by kernel_rfl) hg5 rfl (And.intro (And.intro rfl rfl) (trivial)) ?_
          refine WD_takeK [11] [2] [2] (φ := True) (ls' := #[true, true, true, true, true, true, true, true, true, true, true, true]) (Ts' := [(2, S (bytesOf x1))]) (st' := ⟨[(2, S (bytesOf x1))], [.cells [.sp 0 48, .bsl 1 x1.length], .dead]⟩) (n2 := 0) (by kernel_rfl) trivial rfl ?_
          exact WD_done [0, 1] [2] (st' := ⟨[(2, S (bytesOf x1))], [.cells [.sp 0 48, .bsl 1 x1.length], .dead]⟩) (by kernel_rfl) (by kernel_rfl) (And.intro rfl rfl)
      · refine WM_op (φ := True) (v := I ((x1.length : Nat) : Int)) (H' := [.cells [.sp 0 48, .bsl 1 x1.length], .row .u8 x1 true]) rfl rfl (by kernel_rfl) trivial rfl (And.intro (And.intro rfl rfl) (trivial)) ?_
        refine WD_all [3] (n := 3) (by kernel_rfl) rfl ?_
        refine WM_op (φ := True) (v := .one (.e (.bsl 1 x1.length))) (H' := [.cells [.sp 0 48, .bsl 1 x1.length], .row .u8 x1 true]) rfl rfl (by kernel_rfl) trivial rfl (And.intro (And.intro rfl rfl) (trivial)) ?_
        refine WD_all [4] (n := 2) (by kernel_rfl) rfl ?_
        refine WM_op (φ := True) (v := .one (.e (.sd 1))) (H' := [.cells [.sp 0 48, .bsl 1 x1.length], .row .u8 x1 true]) rfl rfl (by kernel_rfl) trivial rfl (And.intro (And.intro rfl rfl) (trivial)) ?_
        refine WD_all [10] (n := 1) (by kernel_rfl) rfl ?_
        refine WM_op (φ := ((x1.length : Nat) : Int) = (x1.length : Int) ∧ ∀ x ∈ x1, 0 ≤ x ∧ x ≤ 255) (v := S (bytesOf x1)) (H' := [.cells [.sp 0 48, .bsl 1 x1.length], .dead]) rfl rfl (by kernel_rfl) hg5 rfl (And.intro (And.intro rfl rfl) (trivial)) ?_
        refine WD_takeK [11] [2] [2] (φ := True) (ls' := #[true, true, true, true, true, true, true, true, true, true, true, true]) (Ts' := [(2, S (bytesOf x1))]) (st' := ⟨[(2, S (bytesOf x1))], [.cells [.sp 0 48, .bsl 1 x1.length], .dead]⟩) (n2 := 0) (by kernel_rfl) trivial rfl ?_
        exact WD_done [0, 1] [2] (st' := ⟨[(2, S (bytesOf x1))], [.cells [.sp 0 48, .bsl 1 x1.length], .dead]⟩) (by kernel_rfl) (by kernel_rfl) (And.intro rfl rfl)
  · rintro _ _ ⟨rfl, rfl⟩
    refine thenS_n ?_
    refine W_ret ?_
    cases h
    exact ⟨[0, 1], True, by kernel_rfl, trivial⟩

/- impl.FormatLocks -/
def impl_FormatLocks_L1 (x1 : List Lck) : Nat → (List Int) → Int → Option ((List Int))
| 0, _, _ => none
| n + 1, x281, i282 =>
 iteO (decide (i282 < ((x1.length : Nat) : Int)))
 (guardO (0 ≤ i282 ∧ i282 < ((x1.length : Nat) : Int)) <|
 bindO (iteO (decide (0 < i282))
 (bindO (strings_Builder_WriteString x281 [59, 32]) fun (x390, i391) =>
 some x390)
 (some x281)) fun x387 =>
 bindO (strconv_Itoa ((x1.getD i282.toNat dlck).who)) fun s394 =>
 bindO (strings_Builder_WriteString x387 s394) fun (x396, i397) =>
 bindO (strings_Builder_WriteByte x396 32) fun x399 =>
 bindO (strconv_Itoa ((x1.getD i282.toNat dlck).node)) fun s401 =>
 bindO (strings_Builder_WriteString x399 s401) fun (x403, i404) =>
 bindO (strings_Builder_WriteByte x403 32) fun x406 =>
 bindO (strconv_Itoa ((x1.getD i282.toNat dlck).mode)) fun s408 =>
 bindO (strings_Builder_WriteString x406 s408) fun (x410, i411) =>
 impl_FormatLocks_L1 x1 n x410 (w64 (i282 + 1)))
 (some x281)

theorem impl_FormatLocks_L1_ok (w : World) (X : Nat → Prop) (θ : List Loc) (x1 : List Lck) (x347 : (List Int)) : ∀ (n : Nat) (x281 : List Int) (i282 : Int), impl_FormatLocks_L1 x1 n x281 i282 = some x347 → WL EE ⟨w, X, θ, 35, 1⟩ (subC [1, 1, 1, 0, 1, 4, 4] (bodyC Tryd.f12)) (fun (e : Exit) (s : St) => e = .exit 0 ∧ s = ⟨[(3, .one (.e (.p 1 0)))], [.row .lck x1 false, .cells [.sp 1 48, .bsl 2 x347.length], .row .u8 x347 true]⟩) ⟨[(3, .one (.e (.p 1 0))), (9, .one (.e (.sl 0 0 x1.length))), (10, I ((x1.length : Nat) : Int)), (11, I i282)], [.row .lck x1 false, .cells [.sp 1 48, .bsl 2 x281.length], .row .u8 x281 true]⟩ := by
  intro n
  induction n with
  | zero => intro _ _ h; exact none_e h
  | succ n ih =>
    intro x281 i282 h
    rw [impl_FormatLocks_L1] at h
    refine WL_round ?_
    refine W_seq ?_
    refine W_region ?_
    refine WO_step 1 [0, 1, 2] [3, 9, 10, 11, 12] (True ∧ True) ⟨[(3, .one (.e (.p 1 0))), (9, .one (.e (.sl 0 0 x1.length))), (10, I ((x1.length : Nat) : Int)), (11, I i282), (12, B (decide (i282 < ((x1.length : Nat) : Int))))], [.row .lck x1 false, .cells [.sp 1 48, .bsl 2 x281.length], .row .u8 x281 true]⟩ (by kernel_rfl) ⟨trivial, trivial⟩ ?_
    refine WO_nil rfl ?_
    refine thenS_n ?_
    refine W_seq ?_
    refine iteO_e h (fun hb350 h => W_true rfl hb350 ?_) (fun hb350 h => W_false rfl hb350 ?_)
    · refine W_sub [0, 1, 2] [3, 9, 10, 11] (st' := ⟨[(3, .one (.e (.p 1 0))), (9, .one (.e (.sl 0 0 x1.length))), (10, I ((x1.length : Nat) : Int)), (11, I i282)], [.row .lck x1 false, .cells [.sp 1 48, .bsl 2 x281.length], .row .u8 x281 true]⟩) (by kernel_rfl) ?_
      refine W_skip ?_
      refine thenS_n ?_
      refine W_seq ?_
      refine W_block ?_
      refine W_seq ?_
      refine W_region ?_
      refine guardO_e h (fun hg381 h => ?_)
      refine WO_step 6 [0, 1, 3, 2] [3, 4, 5, 9, 10, 11] ((0 ≤ i282 ∧ i282 < ((x1.length : Nat) : Int)) ∧ (True ∧ (True ∧ (True ∧ True)))) ⟨[(3, .one (.e (.p 1 0))), (4, I i282), (5, .one (.e (.p 2 0))), (9, .one (.e (.sl 0 0 x1.length))), (10, I ((x1.length : Nat) : Int)), (11, I i282)], [.row .lck x1 false, .cells [.sp 1 48, .bsl 3 x281.length], .cells [cI ((x1.getD i282.toNat dlck).who), cI ((x1.getD i282.toNat dlck).node), cI ((x1.getD i282.toNat dlck).mode)], .row .u8 x281 true]⟩ (by kernel_rfl) ⟨hg381, trivial, trivial, trivial, trivial⟩ ?_
      refine WO_nil rfl ?_
      refine thenS_n ?_
      refine W_seq ?_
      refine W_seq ?_
      refine W_region ?_
      refine WO_step 2 [0, 1, 2, 3] [3, 5, 9, 10, 11, 17] (True ∧ True) ⟨[(3, .one (.e (.p 1 0))), (5, .one (.e (.p 2 0))), (9, .one (.e (.sl 0 0 x1.length))), (10, I ((x1.length : Nat) : Int)), (11, I i282), (17, B (decide (0 < i282)))], [.row .lck x1 false, .cells [.sp 1 48, .bsl 3 x281.length], .cells [cI ((x1.getD i282.toNat dlck).who), cI ((x1.getD i282.toNat dlck).node), cI ((x1.getD i282.toNat dlck).mode)], .row .u8 x281 true]⟩ (by kernel_rfl) ⟨trivial, trivial⟩ ?_
      refine WO_nil rfl ?_
      refine thenS_n ?_
      refine bindO_e h (fun x387 hx387 h => ?_)
      refine W_cut (Q' := fun (e : Exit) (s : St) => e = .normal ∧ s = ⟨[(3, .one (.e (.p 1 0))), (5, .one (.e (.p 2 0))), (9, .one (.e (.sl 0 0 x1.length))), (10, I ((x1.length : Nat) : Int)), (11, I i282)], [.row .lck x1 false, .cells [.sp 1 48, .bsl 3 x387.length], .cells [cI ((x1.getD i282.toNat dlck).who), cI ((x1.getD i282.toNat dlck).node), cI ((x1.getD i282.toNat dlck).mode)], .row .u8 x387 true]⟩) ?_ ?_
      · refine iteO_e hx387 (fun hb389 hx387 => W_true rfl hb389 ?_) (fun hb389 hx387 => W_false rfl hb389 ?_)
        · refine W_region ?_
          refine WO_sub [0, 1, 2, 3] [3, 5, 9, 10, 11] (st' := ⟨[(3, .one (.e (.p 1 0))), (5, .one (.e (.p 2 0))), (9, .one (.e (.sl 0 0 x1.length))), (10, I ((x1.length : Nat) : Int)), (11, I i282)], [.row .lck x1 false, .cells [.sp 1 48, .bsl 3 x281.length], .cells [cI ((x1.getD i282.toNat dlck).who), cI ((x1.getD i282.toNat dlck).node), cI ((x1.getD i282.toNat dlck).mode)], .row .u8 x281 true]⟩) (by kernel_rfl) ?_
          refine bindO_e hx387 (fun v393 hc392 hx387 => ?_)
          obtain ⟨x390, i391⟩ := v393
          refine WO_call [.own 1, .own 3] Tryd.f25 rfl rfl rfl (by kernel_rfl) Tryd.func25 rfl (by kernel_rfl) (strings_Builder_WriteString_ok x281 [59, 32] x390 i391 hc392) (And.intro (trivial) (And.intro (trivial) (trivial))) rfl ?_
          refine WO_sub [0, 1, 2, 4] [3, 5, 9, 10, 11] (st' := ⟨[(3, .one (.e (.p 1 0))), (5, .one (.e (.p 2 0))), (9, .one (.e (.sl 0 0 x1.length))), (10, I ((x1.length : Nat) : Int)), (11, I i282)], [.row .lck x1 false, .cells [.sp 1 48, .bsl 3 x390.length], .cells [cI ((x1.getD i282.toNat dlck).who), cI ((x1.getD i282.toNat dlck).node), cI ((x1.getD i282.toNat dlck).mode)], .row .u8 x390 true]⟩) (by kernel_rfl) ?_
          refine WO_nil rfl ?_
          cases hx387
          exact And.intro rfl rfl
        · refine W_sub [0, 1, 2, 3] [3, 5, 9, 10, 11] (st' := ⟨[(3, .one (.e (.p 1 0))), (5, .one (.e (.p 2 0))), (9, .one (.e (.sl 0 0 x1.length))), (10, I ((x1.length : Nat) : Int)), (11, I i282)], [.row .lck x1 false, .cells [.sp 1 48, .bsl 3 x281.length], .cells [cI ((x1.getD i282.toNat dlck).who), cI ((x1.getD i282.toNat dlck).node), cI ((x1.getD i282.toNat dlck).mode)], .row .u8 x281 true]⟩) (by kernel_rfl) ?_
          refine W_skip ?_
          cases hx387
          exact And.intro rfl rfl
      · rintro _ _ ⟨rfl, rfl⟩
        refine thenS_n ?_
        refine W_seq ?_
        refine W_region ?_
        refine WO_step 2 [0, 1, 2, 3] [3, 5, 9, 10, 11, 20] (True ∧ True) ⟨[(3, .one (.e (.p 1 0))), (5, .one (.e (.p 2 0))), (9, .one (.e (.sl 0 0 x1.length))), (10, I ((x1.length : Nat) : Int)), (11, I i282), (20, I ((x1.getD i282.toNat dlck).who))], [.row .lck x1 false, .cells [.sp 1 48, .bsl 3 x387.length], .cells [cI ((x1.getD i282.toNat dlck).who), cI ((x1.getD i282.toNat dlck).node), cI ((x1.getD i282.toNat dlck).mode)], .row .u8 x387 true]⟩ (by kernel_rfl) ⟨trivial, trivial⟩ ?_
        refine bindO_e h (fun s394 hc395 h => ?_)
        refine WO_call [] Tryd.f26 rfl rfl rfl (by kernel_rfl) Tryd.func26 rfl (by kernel_rfl) (strconv_Itoa_ok ((x1.getD i282.toNat dlck).who) s394 hc395) (trivial) rfl ?_
        refine WO_sub [0, 1, 2, 3] [3, 5, 9, 10, 11, 21] (st' := ⟨[(3, .one (.e (.p 1 0))), (5, .one (.e (.p 2 0))), (9, .one (.e (.sl 0 0 x1.length))), (10, I ((x1.length : Nat) : Int)), (11, I i282), (21, S s394)], [.row .lck x1 false, .cells [.sp 1 48, .bsl 3 x387.length], .cells [cI ((x1.getD i282.toNat dlck).who), cI ((x1.getD i282.toNat dlck).node), cI ((x1.getD i282.toNat dlck).mode)], .row .u8 x387 true]⟩) (by kernel_rfl) ?_
        refine bindO_e h (fun v415 hc398 h => ?_)
        obtain ⟨x396, i397⟩ := v415
        refine WO_call [.own 1, .own 3] Tryd.f25 rfl rfl rfl (by kernel_rfl) Tryd.func25 rfl (by kernel_rfl) (strings_Builder_WriteString_ok x387 s394 x396 i397 hc398) (And.intro (trivial) (And.intro (trivial) (trivial))) rfl ?_
        refine WO_sub [0, 1, 2, 4] [3, 5, 9, 10, 11] (st' := ⟨[(3, .one (.e (.p 1 0))), (5, .one (.e (.p 2 0))), (9, .one (.e (.sl 0 0 x1.length))), (10, I ((x1.length : Nat) : Int)), (11, I i282)], [.row .lck x1 false, .cells [.sp 1 48, .bsl 3 x396.length], .cells [cI ((x1.getD i282.toNat dlck).who), cI ((x1.getD i282.toNat dlck).node), cI ((x1.getD i282.toNat dlck).mode)], .row .u8 x396 true]⟩) (by kernel_rfl) ?_
        refine WO_nil rfl ?_
        refine thenS_n ?_
        refine W_seq ?_
        refine W_region ?_
        refine bindO_e h (fun x399 hc400 h => ?_)
        refine WO_call [.own 1, .own 3] Tryd.f27 rfl rfl rfl (by kernel_rfl) Tryd.func27 rfl (by kernel_rfl) (strings_Builder_WriteByte_ok x396 32 x399 hc400) (And.intro (trivial) (And.intro (trivial) (trivial))) rfl ?_
        refine WO_sub [0, 1, 2, 4] [3, 5, 9, 10, 11] (st' := ⟨[(3, .one (.e (.p 1 0))), (5, .one (.e (.p 2 0))), (9, .one (.e (.sl 0 0 x1.length))), (10, I ((x1.length : Nat) : Int)), (11, I i282)], [.row .lck x1 false, .cells [.sp 1 48, .bsl 3 x399.length], .cells [cI ((x1.getD i282.toNat dlck).who), cI ((x1.getD i282.toNat dlck).node), cI ((x1.getD i282.toNat dlck).mode)], .row .u8 x399 true]⟩) (by kernel_rfl) ?_
        refine WO_nil rfl ?_
        refine thenS_n ?_
        refine W_seq ?_
        refine W_region ?_
        refine WO_step 2 [0, 1, 2, 3] [3, 5, 9, 10, 11, 25] (True ∧ True) ⟨[(3, .one (.e (.p 1 0))), (5, .one (.e (.p 2 0))), (9, .one (.e (.sl 0 0 x1.length))), (10, I ((x1.length : Nat) : Int)), (11, I i282), (25, I ((x1.getD i282.toNat dlck).node))], [.row .lck x1 false, .cells [.sp 1 48, .bsl 3 x399.length], .cells [cI ((x1.getD i282.toNat dlck).who), cI ((x1.getD i282.toNat dlck).node), cI ((x1.getD i282.toNat dlck).mode)], .row .u8 x399 true]⟩ (by kernel_rfl) ⟨trivial, trivial⟩ ?_
        refine bindO_e h (fun s401 hc402 h => ?_)
        refine WO_call [] Tryd.f26 rfl rfl rfl (by kernel_rfl) Tryd.func26 rfl (by kernel_rfl) (strconv_Itoa_ok ((x1.getD i282.toNat dlck).node) s401 hc402) (trivial) rfl ?_
        refine WO_sub [0, 1, 2, 3] [3, 5, 9, 10, 11, 26] (st' := ⟨[(3, .one (.e (.p 1 0))), (5, .one (.e (.p 2 0))), (9, .one (.e (.sl 0 0 x1.length))), (10, I ((x1.length : Nat) : Int)), (11, I i282), (26, S s401)], [.row .lck x1 false, .cells [.sp 1 48, .bsl 3 x399.length], .cells [cI ((x1.getD i282.toNat dlck).who), cI ((x1.getD i282.toNat dlck).node), cI ((x1.getD i282.toNat dlck).mode)], .row .u8 x399 true]⟩) (by kernel_rfl) ?_
        refine bindO_e h (fun v414 hc405 h => ?_)
        obtain ⟨x403, i404⟩ := v414
        refine WO_call [.own 1, .own 3] Tryd.f25 rfl rfl rfl (by kernel_rfl) Tryd.func25 rfl (by kernel_rfl) (strings_Builder_WriteString_ok x399 s401 x403 i404 hc405) (And.intro (trivial) (And.intro (trivial) (trivial))) rfl ?_
        refine WO_sub [0, 1, 2, 4] [3, 5, 9, 10, 11] (st' := ⟨[(3, .one (.e (.p 1 0))), (5, .one (.e (.p 2 0))), (9, .one (.e (.sl 0 0 x1.length))), (10, I ((x1.length : Nat) : Int)), (11, I i282)], [.row .lck x1 false, .cells [.sp 1 48, .bsl 3 x403.length], .cells [cI ((x1.getD i282.toNat dlck).who), cI ((x1.getD i282.toNat dlck).node), cI ((x1.getD i282.toNat dlck).mode)], .row .u8 x403 true]⟩) (by kernel_rfl) ?_
        refine WO_nil rfl ?_
        refine thenS_n ?_
        refine W_seq ?_
        refine W_region ?_
        refine bindO_e h (fun x406 hc407 h => ?_)
        refine WO_call [.own 1, .own 3] Tryd.f27 rfl rfl rfl (by kernel_rfl) Tryd.func27 rfl (by kernel_rfl) (strings_Builder_WriteByte_ok x403 32 x406 hc407) (And.intro (trivial) (And.intro (trivial) (trivial))) rfl ?_
        refine WO_sub [0, 1, 2, 4] [3, 5, 9, 10, 11] (st' := ⟨[(3, .one (.e (.p 1 0))), (5, .one (.e (.p 2 0))), (9, .one (.e (.sl 0 0 x1.length))), (10, I ((x1.length : Nat) : Int)), (11, I i282)], [.row .lck x1 false, .cells [.sp 1 48, .bsl 3 x406.length], .cells [cI ((x1.getD i282.toNat dlck).who), cI ((x1.getD i282.toNat dlck).node), cI ((x1.getD i282.toNat dlck).mode)], .row .u8 x406 true]⟩) (by kernel_rfl) ?_
        refine WO_nil rfl ?_
        refine thenS_n ?_
        refine W_region ?_
        refine WO_step 2 [0, 1, 3] [3, 9, 10, 11, 30] (True ∧ True) ⟨[(3, .one (.e (.p 1 0))), (9, .one (.e (.sl 0 0 x1.length))), (10, I ((x1.length : Nat) : Int)), (11, I i282), (30, I ((x1.getD i282.toNat dlck).mode))], [.row .lck x1 false, .cells [.sp 1 48, .bsl 2 x406.length], .row .u8 x406 true]⟩ (by kernel_rfl) ⟨trivial, trivial⟩ ?_
        refine bindO_e h (fun s408 hc409 h => ?_)
        refine WO_call [] Tryd.f26 rfl rfl rfl (by kernel_rfl) Tryd.func26 rfl (by kernel_rfl) (strconv_Itoa_ok ((x1.getD i282.toNat dlck).mode) s408 hc409) (trivial) rfl ?_
        refine WO_sub [0, 1, 2] [3, 9, 10, 11, 31] (st' := ⟨[(3, .one (.e (.p 1 0))), (9, .one (.e (.sl 0 0 x1.length))), (10, I ((x1.length : Nat) : Int)), (11, I i282), (31, S s408)], [.row .lck x1 false, .cells [.sp 1 48, .bsl 2 x406.length], .row .u8 x406 true]⟩) (by kernel_rfl) ?_
        refine bindO_e h (fun v413 hc412 h => ?_)
        obtain ⟨x410, i411⟩ := v413
        refine WO_call [.own 1, .own 2] Tryd.f25 rfl rfl rfl (by kernel_rfl) Tryd.func25 rfl (by kernel_rfl) (strings_Builder_WriteString_ok x406 s408 x410 i411 hc412) (And.intro (trivial) (And.intro (trivial) (trivial))) rfl ?_
        refine WO_sub [0, 1, 3] [3, 9, 10, 11] (st' := ⟨[(3, .one (.e (.p 1 0))), (9, .one (.e (.sl 0 0 x1.length))), (10, I ((x1.length : Nat) : Int)), (11, I i282)], [.row .lck x1 false, .cells [.sp 1 48, .bsl 2 x410.length], .row .u8 x410 true]⟩) (by kernel_rfl) ?_
        refine WO_nil rfl ?_
        refine blockS_n ?_
        refine thenS_n ?_
        refine W_region ?_
        refine WO_step 2 [0, 1, 2] [3, 9, 10, 11] (True ∧ True) ⟨[(3, .one (.e (.p 1 0))), (9, .one (.e (.sl 0 0 x1.length))), (10, I ((x1.length : Nat) : Int)), (11, I (w64 (i282 + 1)))], [.row .lck x1 false, .cells [.sp 1 48, .bsl 2 x410.length], .row .u8 x410 true]⟩ (by kernel_rfl) ⟨trivial, trivial⟩ ?_
        refine WO_nil rfl ?_
        refine thenS_n ?_
        exact ih _ _ h
    · refine W_sub [0, 1, 2] [3] (st' := ⟨[(3, .one (.e (.p 1 0)))], [.row .lck x1 false, .cells [.sp 1 48, .bsl 2 x281.length], .row .u8 x281 true]⟩) (by kernel_rfl) ?_
      refine W_exit ?_
      refine thenS_e ?_
      refine thenS_e ?_
      cases h
      exact And.intro rfl rfl

def impl_FormatLocks (n : Nat) (x1 : List Lck) : Option (Str) :=
 bindO (impl_ValidTable n x1) fun b209 =>
 iteO (!b209)
 (some [])
 (bindO (impl_FormatLocks_L1 x1 n ([] : List Int) 0) fun x347 =>
 bindO (strings_Builder_String x347) fun (k417, s418) =>
 some s418)

theorem impl_FormatLocks_ok (n : Nat) (x1 : List Lck) (s208 : Str) (h : impl_FormatLocks n x1 = some s208) : FOk EE 12 [.one (.e (.sl 0 0 x1.length))] [.row .lck x1 false] (S s208) [.row .lck x1 false] := by
  unfold impl_FormatLocks at h
  refine FOk_of_W 35 1 Tryd.func12 rfl rfl (Nat.le_of_ble_eq_true rfl) rfl (fun w X θ => ?_)
  refine W_seq ?_
  refine W_region ?_
  refine WO_step 1 [0] [0] True ⟨[(0, .one (.e (.sl 0 0 x1.length)))], [.row .lck x1 false]⟩ (by kernel_rfl) trivial ?_
  refine WO_nil rfl ?_
  refine thenS_n ?_
  refine W_seq ?_
  refine W_seq ?_
  refine W_region ?_
  refine WO_step 1 [0] [0, 6] True ⟨[(0, .one (.e (.sl 0 0 x1.length))), (6, .one (.e (.sl 0 0 x1.length)))], [.row .lck x1 false]⟩ (by kernel_rfl) trivial ?_
  refine bindO_e h (fun b209 hc210 h => ?_)
  refine WO_call [.ro 0] Tryd.f15 rfl rfl rfl (by kernel_rfl) Tryd.func15 rfl (by kernel_rfl) (impl_ValidTable_ok n x1 b209 hc210) (And.intro (And.intro rfl rfl) (trivial)) rfl ?_
  refine WO_step 1 [0] [0, 8] True ⟨[(0, .one (.e (.sl 0 0 x1.length))), (8, B (!b209))], [.row .lck x1 false]⟩ (by kernel_rfl) trivial ?_
  refine WO_nil rfl ?_
  refine thenS_n ?_
  refine iteO_e h (fun hb212 h => W_true rfl hb212 ?_) (fun hb212 h => W_false rfl hb212 ?_)
  · refine W_seq ?_
    refine W_region ?_
    refine WO_step 1 [0] [2] True ⟨[(2, S [])], [.row .lck x1 false]⟩ (by kernel_rfl) trivial ?_
    refine WO_nil rfl ?_
    refine thenS_n ?_
    refine W_ret ?_
    refine thenS_r ?_
    cases h
    exact ⟨[0], True, by kernel_rfl, trivial⟩
  · refine W_sub [0] [0] (st' := ⟨[(0, .one (.e (.sl 0 0 x1.length)))], [.row .lck x1 false]⟩) (by kernel_rfl) ?_
    refine W_skip ?_
    refine thenS_n ?_
    refine W_seq ?_
    refine W_region ?_
    refine WO_step 1 [0, 1] [0, 3] (True ∧ True) ⟨[(0, .one (.e (.sl 0 0 x1.length))), (3, .one (.e (.p 1 0)))], [.row .lck x1 false, .cells [.sp 1 48, .nsl]]⟩ (by kernel_rfl) ⟨trivial, trivial⟩ ?_
    refine WO_bld 1 rfl ?_
    refine WO_nil rfl ?_
    refine thenS_n ?_
    refine W_seq ?_
    refine W_seq ?_
    refine W_region ?_
    refine WO_step 3 [0, 1, 2] [3, 9, 10, 11] (True ∧ True) ⟨[(3, .one (.e (.p 1 0))), (9, .one (.e (.sl 0 0 x1.length))), (10, I ((x1.length : Nat) : Int)), (11, I 0)], [.row .lck x1 false, .cells [.sp 1 48, .bsl 2 (([] : List Int).length)], .row .u8 ([] : List Int) true]⟩ (by kernel_rfl) ⟨trivial, trivial⟩ ?_
    refine WO_nil rfl ?_
    refine thenS_n ?_
    refine W_block ?_
    refine W_loop ?_
    refine bindO_e h (fun x347 hx347 h => ?_)
    refine WL_cut (impl_FormatLocks_L1_ok w X θ x1 x347 n ([] : List Int) 0 hx347) ?_
    rintro _ _ ⟨rfl, rfl⟩
    refine blockS_y ?_
    refine thenS_n ?_
    refine W_seq ?_
    refine W_region ?_
    refine bindO_e h (fun v420 hc419 h => ?_)
    obtain ⟨k417, s418⟩ := v420
    refine WO_call [.own 1, .own 2] Tryd.f28 rfl rfl rfl (by kernel_rfl) Tryd.func28 rfl (by kernel_rfl) (strings_Builder_String_ok x347 k417 s418 hc419) (And.intro (trivial) (And.intro (trivial) (trivial))) rfl ?_
    refine WO_step 1 [0] [2] True ⟨[(2, S s418)], [.row .lck x1 false]⟩ (by kernel_rfl) trivial ?_
    refine WO_nil rfl ?_
    refine thenS_n ?_
    refine W_ret ?_
    cases h
    exact ⟨[0], True, by kernel_rfl, trivial⟩

/- spec.decimal -/
def spec_decimal_B (rec : Int → Option (Str)) (i1 : Int) : Option (Str) :=
 iteO ((decide (i1 < 0)) && (decide (i1 = (w64 (0 - i1)))))
 (some [45, 57, 50, 50, 51, 51, 55, 50, 48, 51, 54, 56, 53, 52, 55, 55, 53, 56, 48, 56])
 (iteO (decide (i1 < 0))
 (bindO (rec (w64 (0 - i1))) fun s32 =>
 guardO ([45].length + s32.length ≤ 1099511627776) <|
 some ([45] ++ s32))
 (iteO (decide (i1 < 10))
 (some (bytesOf (([(IntKind.u8.wrap (w64 (48 + i1)))].drop 0).take ([(IntKind.u8.wrap (w64 (48 + i1)))].length))))
 (bindO (rec (w64 (i1.tdiv 10))) fun s37 =>
 guardO (s37.length + (bytesOf (([(IntKind.u8.wrap (w64 (48 + (i1.tmod 10))))].drop 0).take ([(IntKind.u8.wrap (w64 (48 + (i1.tmod 10))))].length))).length ≤ 1099511627776) <|
 some (s37 ++ (bytesOf (([(IntKind.u8.wrap (w64 (48 + (i1.tmod 10))))].drop 0).take ([(IntKind.u8.wrap (w64 (48 + (i1.tmod 10))))].length)))))))

theorem spec_decimal_B_ok (rec : Int → Option (Str)) (hrec : ∀ (i1 : Int) (s2 : Str), rec i1 = some s2 → FOk EE 23 [I i1] [] (S s2) []) (i1 : Int) (s21 : Str) (h : spec_decimal_B rec i1 = some s21) : FOk EE 23 [I i1] [] (S s21) [] := by
  unfold spec_decimal_B at h
  refine FOk_of_W 34 0 Tryd.func23 rfl rfl (Nat.le_of_ble_eq_true rfl) rfl (fun w X θ => ?_)
  refine W_seq ?_
  refine W_region ?_
  refine WO_step 1 [] [0] True ⟨[(0, I i1)], []⟩ (by kernel_rfl) trivial ?_
  refine WO_nil rfl ?_
  refine thenS_n ?_
  refine W_seq ?_
  refine W_seq ?_
  refine W_region ?_
  refine WO_step 3 [] [0, 5] (True ∧ True) ⟨[(0, I i1), (5, B (decide (i1 < 0)))], []⟩ (by kernel_rfl) ⟨trivial, trivial⟩ ?_
  refine WO_thru ⟨[(0, I i1), (10, B ((decide (i1 < 0)) && (decide (i1 = (w64 (0 - i1))))))], []⟩ ?_ ?_
  · refine WO_if 5 rfl (fun hb24 => ?_) (fun hb24 => ?_)
    · refine WO_step 5 [] [0, 10] (True ∧ True) ⟨[(0, I i1), (10, B (decide (i1 = (w64 (0 - i1)))))], []⟩ (by kernel_rfl) ⟨trivial, trivial⟩ ?_
      exact WO_nil rfl ⟨rfl, by first | rfl | (rw [hb24]; first | done | rfl)⟩
    · refine WO_step 5 [] [0, 10] True ⟨[(0, I i1), (10, B false)], []⟩ (by kernel_rfl) trivial ?_
      exact WO_nil rfl ⟨rfl, by first | rfl | (rw [hb24]; first | done | rfl)⟩
  · refine thenS_n ?_
    refine iteO_e h (fun hb26 h => W_true rfl hb26 ?_) (fun hb26 h => W_false rfl hb26 ?_)
    · refine W_seq ?_
      refine W_region ?_
      refine WO_step 1 [] [2] True ⟨[(2, S [45, 57, 50, 50, 51, 51, 55, 50, 48, 51, 54, 56, 53, 52, 55, 55, 53, 56, 48, 56])], []⟩ (by kernel_rfl) trivial ?_
      refine WO_nil rfl ?_
      refine thenS_n ?_
      refine W_ret ?_
      refine thenS_r ?_
      cases h
      exact ⟨[], True, by kernel_rfl, trivial⟩
    · refine W_sub [] [0] (st' := ⟨[(0, I i1)], []⟩) (by kernel_rfl) ?_
      refine W_skip ?_
      refine thenS_n ?_
      refine W_seq ?_
      refine W_seq ?_
      refine W_region ?_
      refine WO_step 2 [] [0, 12] (True ∧ True) ⟨[(0, I i1), (12, B (decide (i1 < 0)))], []⟩ (by kernel_rfl) ⟨trivial, trivial⟩ ?_
      refine WO_nil rfl ?_
      refine thenS_n ?_
      refine iteO_e h (fun hb31 h => W_true rfl hb31 ?_) (fun hb31 h => W_false rfl hb31 ?_)
      · refine W_seq ?_
        refine W_region ?_
        refine WO_step 2 [] [14] True ⟨[(14, I (w64 (0 - i1)))], []⟩ (by kernel_rfl) trivial ?_
        refine bindO_e h (fun s32 hc33 h => ?_)
        refine WO_call [] Tryd.f23 rfl rfl rfl (by kernel_rfl) Tryd.func23 rfl (by kernel_rfl) (hrec (w64 (0 - i1)) s32 hc33) (trivial) rfl ?_
        refine guardO_e h (fun hg34 h => ?_)
        refine WO_step 2 [] [2] (([45].length + s32.length ≤ 1099511627776) ∧ True) ⟨[(2, S ([45] ++ s32))], []⟩ (by kernel_rfl) ⟨hg34, trivial⟩ ?_
        refine WO_nil rfl ?_
        refine thenS_n ?_
        refine W_ret ?_
        refine thenS_r ?_
        cases h
        exact ⟨[], True, by kernel_rfl, trivial⟩
      · refine W_sub [] [0] (st' := ⟨[(0, I i1)], []⟩) (by kernel_rfl) ?_
        refine W_skip ?_
        refine thenS_n ?_
        refine W_seq ?_
        refine W_seq ?_
        refine W_region ?_
        refine WO_step 2 [] [0, 18] (True ∧ True) ⟨[(0, I i1), (18, B (decide (i1 < 10)))], []⟩ (by kernel_rfl) ⟨trivial, trivial⟩ ?_
        refine WO_nil rfl ?_
        refine thenS_n ?_
        refine iteO_e h (fun hb36 h => W_true rfl hb36 ?_) (fun hb36 h => W_false rfl hb36 ?_)
        · refine W_seq ?_
          refine W_region ?_
          refine WO_step 6 [] [2] (True ∧ (True ∧ (True ∧ True))) ⟨[(2, S (bytesOf (([(IntKind.u8.wrap (w64 (48 + i1)))].drop 0).take ([(IntKind.u8.wrap (w64 (48 + i1)))].length))))], []⟩ (by kernel_rfl) ⟨trivial, trivial, trivial, trivial⟩ ?_
          refine WO_nil rfl ?_
          refine thenS_n ?_
          refine W_ret ?_
          refine thenS_r ?_
          cases h
          exact ⟨[], True, by kernel_rfl, trivial⟩
        · refine W_sub [] [0] (st' := ⟨[(0, I i1)], []⟩) (by kernel_rfl) ?_
          refine W_skip ?_
          refine thenS_n ?_
          refine W_seq ?_
          refine bindO_e h (fun s37 hc38 h => ?_)
          refine guardO_e h (fun hg39 h => ?_)
          refine W_cut (Q' := fun (e : Exit) (s : St) => e = .normal ∧ s = ⟨[(2, S (s37 ++ (bytesOf (([(IntKind.u8.wrap (w64 (48 + (i1.tmod 10))))].drop 0).take ([(IntKind.u8.wrap (w64 (48 + (i1.tmod 10))))].length)))))], []⟩) ?_ ?_
          · refine W_draw [] false (by kernel_rfl) (by kernel_rfl) ?_
            refine WD_takeK [0, 1, 3, 4, 5, 6] [25, 30] [25, 30] (φ := (((10 : Int) ≠ 0) ∧ ((10 : Int) ≠ 0) ∧ (((10 : Int) ≠ 0) ∧ ((10 : Int) ≠ 0) ∧ (True ∧ True ∧ (True ∧ True ∧ True))))) (ls' := #[true, true, false, true, true, true, true, false, false, false, false]) (Ts' := [(25, I (w64 (i1.tdiv 10))), (30, U (IntKind.u8.wrap (w64 (48 + (i1.tmod 10)))))]) (st' := ⟨[(25, I (w64 (i1.tdiv 10))), (30, U (IntKind.u8.wrap (w64 (48 + (i1.tmod 10)))))], []⟩) (n2 := 5) (by kernel_rfl) ⟨(by decide), (by decide), (by decide), (by decide), trivial, trivial, trivial, trivial, trivial⟩ rfl ?_
            refine WD_all [2, 7] (n := 4) (by kernel_rfl) rfl (And.intro ?_ (?_))
            · refine WM_call [] Tryd.f23 rfl rfl (by kernel_rfl) Tryd.func23 rfl (by kernel_rfl) (hrec (w64 (i1.tdiv 10)) s37 hc38) (trivial) rfl (trivial) ?_
              refine WD_all [7] (n := 3) (by kernel_rfl) rfl ?_
              refine WM_op (φ := True) (v := .one (.e (.sl 0 0 ([(IntKind.u8.wrap (w64 (48 + (i1.tmod 10))))].length)))) (H' := [.row .u8 [(IntKind.u8.wrap (w64 (48 + (i1.tmod 10))))] true]) rfl rfl (by kernel_rfl) trivial rfl (trivial) ?_
              refine WD_all [8] (n := 2) (by kernel_rfl) rfl ?_
              refine WM_op (φ := True) (v := S (bytesOf (([(IntKind.u8.wrap (w64 (48 + (i1.tmod 10))))].drop 0).take ([(IntKind.u8.wrap (w64 (48 + (i1.tmod 10))))].length)))) (H' := [.row .u8 [(IntKind.u8.wrap (w64 (48 + (i1.tmod 10))))] true]) rfl rfl (by kernel_rfl) trivial rfl (trivial) ?_
              refine WD_takeK [9, 10] [2] [2] (φ := ((s37.length + (bytesOf (([(IntKind.u8.wrap (w64 (48 + (i1.tmod 10))))].drop 0).take ([(IntKind.u8.wrap (w64 (48 + (i1.tmod 10))))].length))).length ≤ 1099511627776) ∧ (s37.length + (bytesOf (([(IntKind.u8.wrap (w64 (48 + (i1.tmod 10))))].drop 0).take ([(IntKind.u8.wrap (w64 (48 + (i1.tmod 10))))].length))).length ≤ 1099511627776) ∧ True)) (ls' := #[true, true, true, true, true, true, true, true, true, true, true]) (Ts' := [(2, S (s37 ++ (bytesOf (([(IntKind.u8.wrap (w64 (48 + (i1.tmod 10))))].drop 0).take ([(IntKind.u8.wrap (w64 (48 + (i1.tmod 10))))].length)))))]) (st' := ⟨[(2, S (s37 ++ (bytesOf (([(IntKind.u8.wrap (w64 (48 + (i1.tmod 10))))].drop 0).take ([(IntKind.u8.wrap (w64 (48 + (i1.tmod 10))))].length)))))], [.row .u8 [(IntKind.u8.wrap (w64 (48 + (i1.tmod 10))))] true]⟩) (n2 := 0) (by kernel_rfl) ⟨hg39, hg39, trivial⟩ rfl ?_
              exact WD_done [] [2] (st' := ⟨[(2, S (s37 ++ (bytesOf (([(IntKind.u8.wrap (w64 (48 + (i1.tmod 10))))].drop 0).take ([(IntKind.u8.wrap (w64 (48 + (i1.tmod 10))))].length)))))], []⟩) (by kernel_rfl) (by kernel_rfl) (And.intro rfl rfl)
            · refine WM_op (φ := True) (v := .one (.e (.sl 0 0 ([(IntKind.u8.wrap (w64 (48 + (i1.tmod 10))))].length)))) (H' := [.row .u8 [(IntKind.u8.wrap (w64 (48 + (i1.tmod 10))))] true]) rfl rfl (by kernel_rfl) trivial rfl (trivial) ?_
              refine WD_all [2, 8] (n := 3) (by kernel_rfl) rfl (And.intro ?_ (?_))
              · refine WM_call [] Tryd.f23 rfl rfl (by kernel_rfl) Tryd.func23 rfl (by kernel_rfl) (hrec (w64 (i1.tdiv 10)) s37 hc38) (trivial) rfl (trivial) ?_
                refine WD_all [8] (n := 2) (by kernel_rfl) rfl ?_
                refine WM_op (φ := True) (v := S (bytesOf (([(IntKind.u8.wrap (w64 (48 + (i1.tmod 10))))].drop 0).take ([(IntKind.u8.wrap (w64 (48 + (i1.tmod 10))))].length)))) (H' := [.row .u8 [(IntKind.u8.wrap (w64 (48 + (i1.tmod 10))))] true]) rfl rfl (by kernel_rfl) trivial rfl (trivial) ?_
                refine WD_takeK [9, 10] [2] [2] (φ := ((s37.length + (bytesOf (([(IntKind.u8.wrap (w64 (48 + (i1.tmod 10))))].drop 0).take ([(IntKind.u8.wrap (w64 (48 + (i1.tmod 10))))].length))).length ≤ 1099511627776) ∧ (s37.length + (bytesOf (([(IntKind.u8.wrap (w64 (48 + (i1.tmod 10))))].drop 0).take ([(IntKind.u8.wrap (w64 (48 + (i1.tmod 10))))].length))).length ≤ 1099511627776) ∧ True)) (ls' := #[true, true, true, true, true, true, true, true, true, true, true]) (Ts' := [(2, S (s37 ++ (bytesOf (([(IntKind.u8.wrap (w64 (48 + (i1.tmod 10))))].drop 0).take ([(IntKind.u8.wrap (w64 (48 + (i1.tmod 10))))].length)))))]) (st' := ⟨[(2, S (s37 ++ (bytesOf (([(IntKind.u8.wrap (w64 (48 + (i1.tmod 10))))].drop 0).take ([(IntKind.u8.wrap (w64 (48 + (i1.tmod 10))))].length)))))], [.row .u8 [(IntKind.u8.wrap (w64 (48 + (i1.tmod 10))))] true]⟩) (n2 := 0) (by kernel_rfl) ⟨hg39, hg39, trivial⟩ rfl ?_
                exact WD_done [] [2] (st' := ⟨[(2, S (s37 ++ (bytesOf (([(IntKind.u8.wrap (w64 (48 + (i1.tmod 10))))].drop 0).take ([(IntKind.u8.wrap (w64 (48 + (i1.tmod 10))))].length)))))], []⟩) (by kernel_rfl) (by kernel_rfl) (And.intro rfl rfl)
              · refine WM_op (φ := True) (v := S (bytesOf (([(IntKind.u8.wrap (w64 (48 + (i1.tmod 10))))].drop 0).take ([(IntKind.u8.wrap (w64 (48 + (i1.tmod 10))))].length)))) (H' := [.row .u8 [(IntKind.u8.wrap (w64 (48 + (i1.tmod 10))))] true]) rfl rfl (by kernel_rfl) trivial rfl (trivial) ?_
                refine WD_all [2] (n := 2) (by kernel_rfl) rfl ?_
                refine WM_call [] Tryd.f23 rfl rfl (by kernel_rfl) Tryd.func23 rfl (by kernel_rfl) (hrec (w64 (i1.tdiv 10)) s37 hc38) (trivial) rfl (trivial) ?_
                refine WD_takeK [9, 10] [2] [2] (φ := ((s37.length + (bytesOf (([(IntKind.u8.wrap (w64 (48 + (i1.tmod 10))))].drop 0).take ([(IntKind.u8.wrap (w64 (48 + (i1.tmod 10))))].length))).length ≤ 1099511627776) ∧ (s37.length + (bytesOf (([(IntKind.u8.wrap (w64 (48 + (i1.tmod 10))))].drop 0).take ([(IntKind.u8.wrap (w64 (48 + (i1.tmod 10))))].length))).length ≤ 1099511627776) ∧ True)) (ls' := #[true, true, true, true, true, true, true, true, true, true, true]) (Ts' := [(2, S (s37 ++ (bytesOf (([(IntKind.u8.wrap (w64 (48 + (i1.tmod 10))))].drop 0).take ([(IntKind.u8.wrap (w64 (48 + (i1.tmod 10))))].length)))))]) (st' := ⟨[(2, S (s37 ++ (bytesOf (([(IntKind.u8.wrap (w64 (48 + (i1.tmod 10))))].drop 0).take ([(IntKind.u8.wrap (w64 (48 + (i1.tmod 10))))].length)))))], [.row .u8 [(IntKind.u8.wrap (w64 (48 + (i1.tmod 10))))] true]⟩) (n2 := 0) (by kernel_rfl) ⟨hg39, hg39, trivial⟩ rfl ?_
                exact WD_done [] [2] (st' := ⟨[(2, S (s37 ++ (bytesOf (([(IntKind.u8.wrap (w64 (48 + (i1.tmod 10))))].drop 0).take ([(IntKind.u8.wrap (w64 (48 + (i1.tmod 10))))].length)))))], []⟩) (by kernel_rfl) (by kernel_rfl) (And.intro rfl rfl)
          · rintro _ _ ⟨rfl, rfl⟩
            refine thenS_n ?_
            refine W_ret ?_
            cases h
            exact ⟨[], True, by kernel_rfl, trivial⟩

def spec_decimal : Nat → Int → Option (Str)
| 0, _ => none
| n + 1, i1 => spec_decimal_B (spec_decimal n) i1

theorem spec_decimal_ok : ∀ (n : Nat) (i1 : Int) (s21 : Str), spec_decimal n i1 = some s21 → FOk EE 23 [I i1] [] (S s21) [] := by
  intro n
  induction n with
  | zero => intro _ _ h; exact none_e h
  | succ n ih => intro i1 s21 h; exact spec_decimal_B_ok (spec_decimal n) ih i1 s21 h

/- spec.FormatLocks -/
def spec_FormatLocks_L1 (x1 : List Lck) : Nat → Str → Int → Option (Str)
| 0, _, _ => none
| n + 1, s179, i180 =>
 iteO (decide (i180 < ((x1.length : Nat) : Int)))
 (bindO (iteO (decide (0 < i180))
 (guardO (s179.length + [59, 32].length ≤ 1099511627776) <|
 some (s179 ++ [59, 32]))
 (some s179)) fun s245 =>
 guardO (0 ≤ i180 ∧ i180 < ((x1.length : Nat) : Int)) <|
 bindO (spec_decimal n ((x1.getD i180.toNat dlck).who)) fun s250 =>
 guardO (s245.length + s250.length ≤ 1099511627776) <|
 guardO ((s245 ++ s250).length + [32].length ≤ 1099511627776) <|
 guardO (0 ≤ i180 ∧ i180 < ((x1.length : Nat) : Int)) <|
 bindO (spec_decimal n ((x1.getD i180.toNat dlck).node)) fun s255 =>
 guardO (((s245 ++ s250) ++ [32]).length + s255.length ≤ 1099511627776) <|
 guardO ((((s245 ++ s250) ++ [32]) ++ s255).length + [32].length ≤ 1099511627776) <|
 guardO (0 ≤ i180 ∧ i180 < ((x1.length : Nat) : Int)) <|
 bindO (spec_decimal n ((x1.getD i180.toNat dlck).mode)) fun s260 =>
 guardO (((((s245 ++ s250) ++ [32]) ++ s255) ++ [32]).length + s260.length ≤ 1099511627776) <|
 spec_FormatLocks_L1 x1 n (((((s245 ++ s250) ++ [32]) ++ s255) ++ [32]) ++ s260) (w64 (i180 + 1)))
 (some s179)

theorem spec_FormatLocks_L1_ok (w : World) (X : Nat → Prop) (θ : List Loc) (x1 : List Lck) (s221 : Str) : ∀ (n : Nat) (s179 : Str) (i180 : Int), spec_FormatLocks_L1 x1 n s179 i180 = some s221 → WL EE ⟨w, X, θ, 43, 1⟩ (subC [1, 1, 1, 0, 1, 4, 4] (bodyC Tryd.f10)) (fun (e : Exit) (s : St) => e = .exit 0 ∧ s = ⟨[(3, S s221)], [.row .lck x1 false]⟩) ⟨[(0, .one (.e (.sl 0 0 x1.length))), (3, S s179), (4, I i180)], [.row .lck x1 false]⟩ := by
  intro n
  induction n with
  | zero => intro _ _ h; exact none_e h
  | succ n ih =>
    intro s179 i180 h
    rw [spec_FormatLocks_L1] at h
    refine WL_round ?_
    refine W_seq ?_
    refine W_seq ?_
    refine W_region ?_
    refine WO_step 4 [0] [0, 3, 4, 11] (True ∧ (True ∧ True)) ⟨[(0, .one (.e (.sl 0 0 x1.length))), (3, S s179), (4, I i180), (11, B (decide (i180 < ((x1.length : Nat) : Int))))], [.row .lck x1 false]⟩ (by kernel_rfl) ⟨trivial, trivial, trivial⟩ ?_
    refine WO_nil rfl ?_
    refine thenS_n ?_
    refine iteO_e h (fun hb224 h => W_true rfl hb224 ?_) (fun hb224 h => W_false rfl hb224 ?_)
    · refine W_sub [0] [0, 3, 4] (st' := ⟨[(0, .one (.e (.sl 0 0 x1.length))), (3, S s179), (4, I i180)], [.row .lck x1 false]⟩) (by kernel_rfl) ?_
      refine W_skip ?_
      refine thenS_n ?_
      refine W_seq ?_
      refine W_block ?_
      refine W_seq ?_
      refine W_seq ?_
      refine W_region ?_
      refine WO_step 2 [0] [0, 3, 4, 15] (True ∧ True) ⟨[(0, .one (.e (.sl 0 0 x1.length))), (3, S s179), (4, I i180), (15, B (decide (0 < i180)))], [.row .lck x1 false]⟩ (by kernel_rfl) ⟨trivial, trivial⟩ ?_
      refine WO_nil rfl ?_
      refine thenS_n ?_
      refine bindO_e h (fun s245 hs245 h => ?_)
      refine W_cut (Q' := fun (e : Exit) (s : St) => e = .normal ∧ s = ⟨[(0, .one (.e (.sl 0 0 x1.length))), (3, S s245), (4, I i180)], [.row .lck x1 false]⟩) ?_ ?_
      · refine iteO_e hs245 (fun hb247 hs245 => W_true rfl hb247 ?_) (fun hb247 hs245 => W_false rfl hb247 ?_)
        · refine W_region ?_
          refine guardO_e hs245 (fun hg248 hs245 => ?_)
          refine WO_step 3 [0] [0, 3, 4] ((s179.length + [59, 32].length ≤ 1099511627776) ∧ True) ⟨[(0, .one (.e (.sl 0 0 x1.length))), (3, S (s179 ++ [59, 32])), (4, I i180)], [.row .lck x1 false]⟩ (by kernel_rfl) ⟨hg248, trivial⟩ ?_
          refine WO_nil rfl ?_
          cases hs245
          exact And.intro rfl rfl
        · refine W_sub [0] [0, 3, 4] (st' := ⟨[(0, .one (.e (.sl 0 0 x1.length))), (3, S s179), (4, I i180)], [.row .lck x1 false]⟩) (by kernel_rfl) ?_
          refine W_skip ?_
          cases hs245
          exact And.intro rfl rfl
      · rintro _ _ ⟨rfl, rfl⟩
        refine thenS_n ?_
        refine guardO_e h (fun hg249 h => ?_)
        refine bindO_e h (fun s250 hc251 h => ?_)
        refine guardO_e h (fun hg252 h => ?_)
        refine guardO_e h (fun hg253 h => ?_)
        refine guardO_e h (fun hg254 h => ?_)
        refine bindO_e h (fun s255 hc256 h => ?_)
        refine guardO_e h (fun hg257 h => ?_)
        refine guardO_e h (fun hg258 h => ?_)
        refine guardO_e h (fun hg259 h => ?_)
        refine bindO_e h (fun s260 hc261 h => ?_)
        refine guardO_e h (fun hg262 h => ?_)
        refine W_cut (Q' := fun (e : Exit) (s : St) => e = .normal ∧ s = ⟨[(0, .one (.e (.sl 0 0 x1.length))), (3, S (((((s245 ++ s250) ++ [32]) ++ s255) ++ [32]) ++ s260)), (4, I i180)], [.row .lck x1 false]⟩) ?_ ?_
        · refine W_draw [] false (by kernel_rfl) (by kernel_rfl) ?_
          refine WD_takeK [0, 1, 2, 3, 4, 5, 9, 10, 11, 12, 13, 17, 18, 19, 20, 21] [0, 3, 4, 18, 23, 31, 39] [0, 3, 4, 18, 23, 31, 39] (φ := ((0 ≤ i180 ∧ i180 < ((x1.length : Nat) : Int)) ∧ (0 ≤ i180 ∧ i180 < ((x1.length : Nat) : Int)) ∧ (True ∧ True ∧ ((0 ≤ i180 ∧ i180 < ((x1.length : Nat) : Int)) ∧ (0 ≤ i180 ∧ i180 < ((x1.length : Nat) : Int)) ∧ (True ∧ True ∧ ((0 ≤ i180 ∧ i180 < ((x1.length : Nat) : Int)) ∧ (0 ≤ i180 ∧ i180 < ((x1.length : Nat) : Int)) ∧ (True ∧ True ∧ True))))))) (ls' := #[true, true, true, true, true, true, false, false, false, true, true, true, true, true, false, false, false, true, true, true, true, true, false, false, false]) (Ts' := [(0, .one (.e (.sl 0 0 x1.length))), (3, S s245), (4, I i180), (18, S s245), (23, I ((x1.getD i180.toNat dlck).who)), (31, I ((x1.getD i180.toNat dlck).node)), (39, I ((x1.getD i180.toNat dlck).mode))]) (st' := ⟨[(0, .one (.e (.sl 0 0 x1.length))), (3, S s245), (4, I i180), (18, S s245), (23, I ((x1.getD i180.toNat dlck).who)), (31, I ((x1.getD i180.toNat dlck).node)), (39, I ((x1.getD i180.toNat dlck).mode))], [.row .lck x1 false]⟩) (n2 := 9) (by kernel_rfl) ⟨hg249, hg249, trivial, trivial, hg254, hg254, trivial, trivial, hg259, hg259, trivial, trivial, trivial⟩ rfl ?_
          refine WD_all [6] (n := 8) (by kernel_rfl) rfl ?_
          refine WM_call [] Tryd.f23 rfl rfl (by kernel_rfl) Tryd.func23 rfl (by kernel_rfl) (spec_decimal_ok n ((x1.getD i180.toNat dlck).who) s250 hc251) (trivial) rfl (And.intro rfl (trivial)) ?_
          refine WD_takeK [7, 8] [0, 3, 4, 26, 31, 39] [0, 3, 4, 26, 31, 39] (φ := ((s245.length + s250.length ≤ 1099511627776) ∧ (s245.length + s250.length ≤ 1099511627776) ∧ (((s245 ++ s250).length + [32].length ≤ 1099511627776) ∧ ((s245 ++ s250).length + [32].length ≤ 1099511627776) ∧ True))) (ls' := #[true, true, true, true, true, true, true, true, true, true, true, true, true, true, false, false, false, true, true, true, true, true, false, false, false]) (Ts' := [(0, .one (.e (.sl 0 0 x1.length))), (3, S s245), (4, I i180), (26, S ((s245 ++ s250) ++ [32])), (31, I ((x1.getD i180.toNat dlck).node)), (39, I ((x1.getD i180.toNat dlck).mode))]) (st' := ⟨[(0, .one (.e (.sl 0 0 x1.length))), (3, S s245), (4, I i180), (26, S ((s245 ++ s250) ++ [32])), (31, I ((x1.getD i180.toNat dlck).node)), (39, I ((x1.getD i180.toNat dlck).mode))], [.row .lck x1 false]⟩) (n2 := 6) (by kernel_rfl) ⟨hg252, hg252, hg253, hg253, trivial⟩ rfl ?_
          refine WD_all [14] (n := 5) (by kernel_rfl) rfl ?_
          refine WM_call [] Tryd.f23 rfl rfl (by kernel_rfl) Tryd.func23 rfl (by kernel_rfl) (spec_decimal_ok n ((x1.getD i180.toNat dlck).node) s255 hc256) (trivial) rfl (And.intro rfl (trivial)) ?_
          refine WD_takeK [15, 16] [0, 3, 4, 34, 39] [0, 3, 4, 34, 39] (φ := ((((s245 ++ s250) ++ [32]).length + s255.length ≤ 1099511627776) ∧ (((s245 ++ s250) ++ [32]).length + s255.length ≤ 1099511627776) ∧ (((((s245 ++ s250) ++ [32]) ++ s255).length + [32].length ≤ 1099511627776) ∧ ((((s245 ++ s250) ++ [32]) ++ s255).length + [32].length ≤ 1099511627776) ∧ True))) (ls' := #[true, true, true, true, true, true, true, true, true, true, true, true, true, true, true, true, true, true, true, true, true, true, false, false, false]) (Ts' := [(0, .one (.e (.sl 0 0 x1.length))), (3, S s245), (4, I i180), (34, S ((((s245 ++ s250) ++ [32]) ++ s255) ++ [32])), (39, I ((x1.getD i180.toNat dlck).mode))]) (st' := ⟨[(0, .one (.e (.sl 0 0 x1.length))), (3, S s245), (4, I i180), (34, S ((((s245 ++ s250) ++ [32]) ++ s255) ++ [32])), (39, I ((x1.getD i180.toNat dlck).mode))], [.row .lck x1 false]⟩) (n2 := 3) (by kernel_rfl) ⟨hg257, hg257, hg258, hg258, trivial⟩ rfl ?_
          refine WD_all [22] (n := 2) (by kernel_rfl) rfl ?_
          refine WM_call [] Tryd.f23 rfl rfl (by kernel_rfl) Tryd.func23 rfl (by kernel_rfl) (spec_decimal_ok n ((x1.getD i180.toNat dlck).mode) s260 hc261) (trivial) rfl (And.intro rfl (trivial)) ?_
          refine WD_takeK [23, 24] [0, 3, 4] [0, 3, 4] (φ := ((((((s245 ++ s250) ++ [32]) ++ s255) ++ [32]).length + s260.length ≤ 1099511627776) ∧ (((((s245 ++ s250) ++ [32]) ++ s255) ++ [32]).length + s260.length ≤ 1099511627776) ∧ True)) (ls' := #[true, true, true, true, true, true, true, true, true, true, true, true, true, true, true, true, true, true, true, true, true, true, true, true, true]) (Ts' := [(0, .one (.e (.sl 0 0 x1.length))), (3, S (((((s245 ++ s250) ++ [32]) ++ s255) ++ [32]) ++ s260)), (4, I i180)]) (st' := ⟨[(0, .one (.e (.sl 0 0 x1.length))), (3, S (((((s245 ++ s250) ++ [32]) ++ s255) ++ [32]) ++ s260)), (4, I i180)], [.row .lck x1 false]⟩) (n2 := 0) (by kernel_rfl) ⟨hg262, hg262, trivial⟩ rfl ?_
          exact WD_done [0] [0, 3, 4] (st' := ⟨[(0, .one (.e (.sl 0 0 x1.length))), (3, S (((((s245 ++ s250) ++ [32]) ++ s255) ++ [32]) ++ s260)), (4, I i180)], [.row .lck x1 false]⟩) (by kernel_rfl) (by kernel_rfl) (And.intro rfl rfl)
        · rintro _ _ ⟨rfl, rfl⟩
          refine blockS_n ?_
          refine thenS_n ?_
          refine W_region ?_
          refine WO_step 3 [0] [0, 3, 4] (True ∧ True) ⟨[(0, .one (.e (.sl 0 0 x1.length))), (3, S (((((s245 ++ s250) ++ [32]) ++ s255) ++ [32]) ++ s260)), (4, I (w64 (i180 + 1)))], [.row .lck x1 false]⟩ (by kernel_rfl) ⟨trivial, trivial⟩ ?_
          refine WO_nil rfl ?_
          refine thenS_n ?_
          exact ih _ _ h
    · refine W_sub [0] [3] (st' := ⟨[(3, S s179)], [.row .lck x1 false]⟩) (by kernel_rfl) ?_
      refine W_exit ?_
      refine thenS_e ?_
      refine thenS_e ?_
      cases h
      exact And.intro rfl rfl

def spec_FormatLocks (n : Nat) (x1 : List Lck) : Option (Str) :=
 bindO (spec_validTable n x1) fun b131 =>
 iteO (!b131)
 (some [])
 (bindO (spec_FormatLocks_L1 x1 n [] 0) fun s221 =>
 some s221)

theorem spec_FormatLocks_ok (n : Nat) (x1 : List Lck) (s130 : Str) (h : spec_FormatLocks n x1 = some s130) : FOk EE 10 [.one (.e (.sl 0 0 x1.length))] [.row .lck x1 false] (S s130) [.row .lck x1 false] := by
  unfold spec_FormatLocks at h
  refine FOk_of_W 43 1 Tryd.func10 rfl rfl (Nat.le_of_ble_eq_true rfl) rfl (fun w X θ => ?_)
  refine W_seq ?_
  refine W_region ?_
  refine WO_step 1 [0] [0] True ⟨[(0, .one (.e (.sl 0 0 x1.length)))], [.row .lck x1 false]⟩ (by kernel_rfl) trivial ?_
  refine WO_nil rfl ?_
  refine thenS_n ?_
  refine W_seq ?_
  refine W_region ?_
  refine WO_step 1 [0] [0, 3] True ⟨[(0, .one (.e (.sl 0 0 x1.length))), (3, S [])], [.row .lck x1 false]⟩ (by kernel_rfl) trivial ?_
  refine WO_nil rfl ?_
  refine thenS_n ?_
  refine W_seq ?_
  refine W_seq ?_
  refine W_region ?_
  refine WO_step 1 [0] [0, 3, 5] True ⟨[(0, .one (.e (.sl 0 0 x1.length))), (3, S []), (5, .one (.e (.sl 0 0 x1.length)))], [.row .lck x1 false]⟩ (by kernel_rfl) trivial ?_
  refine bindO_e h (fun b131 hc132 h => ?_)
  refine WO_call [.ro 0] Tryd.f22 rfl rfl rfl (by kernel_rfl) Tryd.func22 rfl (by kernel_rfl) (spec_validTable_ok n x1 b131 hc132) (And.intro (And.intro rfl rfl) (trivial)) rfl ?_
  refine WO_step 1 [0] [0, 3, 7] True ⟨[(0, .one (.e (.sl 0 0 x1.length))), (3, S []), (7, B (!b131))], [.row .lck x1 false]⟩ (by kernel_rfl) trivial ?_
  refine WO_nil rfl ?_
  refine thenS_n ?_
  refine iteO_e h (fun hb134 h => W_true rfl hb134 ?_) (fun hb134 h => W_false rfl hb134 ?_)
  · refine W_seq ?_
    refine W_region ?_
    refine WO_step 1 [0] [2] True ⟨[(2, S [])], [.row .lck x1 false]⟩ (by kernel_rfl) trivial ?_
    refine WO_nil rfl ?_
    refine thenS_n ?_
    refine W_ret ?_
    refine thenS_r ?_
    cases h
    exact ⟨[0], True, by kernel_rfl, trivial⟩
  · refine W_sub [0] [0, 3] (st' := ⟨[(0, .one (.e (.sl 0 0 x1.length))), (3, S [])], [.row .lck x1 false]⟩) (by kernel_rfl) ?_
    refine W_skip ?_
    refine thenS_n ?_
    refine W_seq ?_
    refine W_seq ?_
    refine W_region ?_
    refine WO_step 1 [0] [0, 3, 4] True ⟨[(0, .one (.e (.sl 0 0 x1.length))), (3, S []), (4, I 0)], [.row .lck x1 false]⟩ (by kernel_rfl) trivial ?_
    refine WO_nil rfl ?_
    refine thenS_n ?_
    refine W_block ?_
    refine W_loop ?_
    refine bindO_e h (fun s221 hs221 h => ?_)
    refine WL_cut (spec_FormatLocks_L1_ok w X θ x1 s221 n [] 0 hs221) ?_
    rintro _ _ ⟨rfl, rfl⟩
    refine blockS_y ?_
    refine thenS_n ?_
    refine W_seq ?_
    refine W_region ?_
    refine WO_step 2 [0] [2] True ⟨[(2, S s221)], [.row .lck x1 false]⟩ (by kernel_rfl) trivial ?_
    refine WO_nil rfl ?_
    refine thenS_n ?_
    refine W_ret ?_
    cases h
    exact ⟨[0], True, by kernel_rfl, trivial⟩

/- laws.FnLocksTextEmpty -/
def laws_FnLocksTextEmpty (n : Nat) (x1 : List Int) : Option (Bool) :=
 iteO (decide (1048576 < ((x1.length : Nat) : Int)))
 (some true)
 (bindO (spec_DrawFormatLocks n x1) fun x27 =>
 bindO (impl_FormatLocks n x27) fun s29 =>
 bindO (spec_FormatLocks n x27) fun s31 =>
 bindO (iteO (!decide (s29 = s31))
 (some true)
 (bindO (impl_ValidTable n x27) fun b39 =>
 some (!b39))) fun b36 =>
 iteO b36
 (bindO (spec_FormatLocks n x27) fun s45 =>
 some (decide (s29 = s45)))
 (some ((decide (s29 = [])) == (decide (((x27.length : Nat) : Int) = 0)))))

theorem laws_FnLocksTextEmpty_ok (n : Nat) (x1 : List Int) (b24 : Bool) (h : laws_FnLocksTextEmpty n x1 = some b24) : FOk EE 5 [.one (.e (.sl 0 0 x1.length))] [.row .u8 x1 false] (B b24) [.row .u8 x1 false] := by
  unfold laws_FnLocksTextEmpty at h
  refine FOk_of_W 31 1 Tryd.func5 rfl rfl (Nat.le_of_ble_eq_true rfl) rfl (fun w X θ => ?_)
  refine W_seq ?_
  refine W_region ?_
  refine WO_step 1 [0] [0] True ⟨[(0, .one (.e (.sl 0 0 x1.length)))], [.row .u8 x1 false]⟩ (by kernel_rfl) trivial ?_
  refine WO_nil rfl ?_
  refine thenS_n ?_
  refine W_seq ?_
  refine W_seq ?_
  refine W_region ?_
  refine WO_step 3 [0] [0, 7] (True ∧ (True ∧ True)) ⟨[(0, .one (.e (.sl 0 0 x1.length))), (7, B (decide (1048576 < ((x1.length : Nat) : Int))))], [.row .u8 x1 false]⟩ (by kernel_rfl) ⟨trivial, trivial, trivial⟩ ?_
  refine WO_nil rfl ?_
  refine thenS_n ?_
  refine iteO_e h (fun hb26 h => W_true rfl hb26 ?_) (fun hb26 h => W_false rfl hb26 ?_)
  · refine W_seq ?_
    refine W_region ?_
    refine WO_step 1 [0] [2] True ⟨[(2, B true)], [.row .u8 x1 false]⟩ (by kernel_rfl) trivial ?_
    refine WO_nil rfl ?_
    refine thenS_n ?_
    refine W_ret ?_
    refine thenS_r ?_
    cases h
    exact ⟨[0], True, by kernel_rfl, trivial⟩
  · refine W_sub [0] [0] (st' := ⟨[(0, .one (.e (.sl 0 0 x1.length)))], [.row .u8 x1 false]⟩) (by kernel_rfl) ?_
    refine W_skip ?_
    refine thenS_n ?_
    refine W_seq ?_
    refine W_region ?_
    refine WO_step 1 [0] [8] True ⟨[(8, .one (.e (.sl 0 0 x1.length)))], [.row .u8 x1 false]⟩ (by kernel_rfl) trivial ?_
    refine bindO_e h (fun x27 hc28 h => ?_)
    refine WO_call [.ro 0] Tryd.f14 rfl rfl rfl (by kernel_rfl) Tryd.func14 rfl (by kernel_rfl) (spec_DrawFormatLocks_ok n x1 x27 hc28) (And.intro (And.intro rfl rfl) (trivial)) rfl ?_
    refine WO_step 1 [0, 1] [3] True ⟨[(3, .one (.e (.sl 1 0 x27.length)))], [.row .u8 x1 false, .row .lck x27 true]⟩ (by kernel_rfl) trivial ?_
    refine WO_nil rfl ?_
    refine thenS_n ?_
    refine W_seq ?_
    refine W_region ?_
    refine WO_step 1 [0, 1] [3, 10] True ⟨[(3, .one (.e (.sl 1 0 x27.length))), (10, .one (.e (.sl 1 0 x27.length)))], [.row .u8 x1 false, .row .lck x27 true]⟩ (by kernel_rfl) trivial ?_
    refine bindO_e h (fun s29 hc30 h => ?_)
    refine WO_call [.ro 1] Tryd.f12 rfl rfl rfl (by kernel_rfl) Tryd.func12 rfl (by kernel_rfl) (impl_FormatLocks_ok n x27 s29 hc30) (And.intro (And.intro rfl rfl) (trivial)) rfl ?_
    refine WO_step 1 [0, 1] [3, 4] True ⟨[(3, .one (.e (.sl 1 0 x27.length))), (4, S s29)], [.row .u8 x1 false, .row .lck x27 true]⟩ (by kernel_rfl) trivial ?_
    refine WO_nil rfl ?_
    refine thenS_n ?_
    refine W_seq ?_
    refine W_seq ?_
    refine W_region ?_
    refine WO_step 2 [0, 1] [3, 4, 12, 13] True ⟨[(3, .one (.e (.sl 1 0 x27.length))), (4, S s29), (12, S s29), (13, .one (.e (.sl 1 0 x27.length)))], [.row .u8 x1 false, .row .lck x27 true]⟩ (by kernel_rfl) trivial ?_
    refine bindO_e h (fun s31 hc32 h => ?_)
    refine WO_call [.ro 1] Tryd.f10 rfl rfl rfl (by kernel_rfl) Tryd.func10 rfl (by kernel_rfl) (spec_FormatLocks_ok n x27 s31 hc32) (And.intro (And.intro rfl rfl) (trivial)) rfl ?_
    refine WO_step 2 [0, 1] [3, 4, 16] (True ∧ True) ⟨[(3, .one (.e (.sl 1 0 x27.length))), (4, S s29), (16, B (!decide (s29 = s31)))], [.row .u8 x1 false, .row .lck x27 true]⟩ (by kernel_rfl) ⟨trivial, trivial⟩ ?_
    refine bindO_e h (fun b36 hv37 h => ?_)
    refine WO_thru ⟨[(3, .one (.e (.sl 1 0 x27.length))), (4, S s29), (20, B b36)], [.row .u8 x1 false, .row .lck x27 true]⟩ ?_ ?_
    · refine iteO_e hv37 (fun hb38 hv37 => WO_known 16 true rfl hb38 ?_) (fun hb38 hv37 => WO_known 16 false rfl hb38 ?_)
      · refine WO_step 4 [0, 1] [3, 4, 20] True ⟨[(3, .one (.e (.sl 1 0 x27.length))), (4, S s29), (20, B true)], [.row .u8 x1 false, .row .lck x27 true]⟩ (by kernel_rfl) trivial ?_
        cases hv37
        exact WO_nil rfl ⟨rfl, rfl⟩
      · refine WO_step 1 [0, 1] [3, 4, 16, 17] True ⟨[(3, .one (.e (.sl 1 0 x27.length))), (4, S s29), (16, B false), (17, .one (.e (.sl 1 0 x27.length)))], [.row .u8 x1 false, .row .lck x27 true]⟩ (by kernel_rfl) trivial ?_
        refine bindO_e hv37 (fun b39 hc40 hv37 => ?_)
        refine WO_call [.ro 1] Tryd.f15 rfl rfl rfl (by kernel_rfl) Tryd.func15 rfl (by kernel_rfl) (impl_ValidTable_ok n x27 b39 hc40) (And.intro (And.intro rfl rfl) (trivial)) rfl ?_
        refine WO_step 2 [0, 1] [3, 4, 20] True ⟨[(3, .one (.e (.sl 1 0 x27.length))), (4, S s29), (20, B (!b39))], [.row .u8 x1 false, .row .lck x27 true]⟩ (by kernel_rfl) trivial ?_
        cases hv37
        exact WO_nil rfl ⟨rfl, rfl⟩
    · refine thenS_n ?_
      refine iteO_e h (fun hb44 h => W_true rfl hb44 ?_) (fun hb44 h => W_false rfl hb44 ?_)
      · refine W_seq ?_
        refine W_region ?_
        refine WO_step 2 [0, 1] [21, 22] True ⟨[(21, S s29), (22, .one (.e (.sl 1 0 x27.length)))], [.row .u8 x1 false, .row .lck x27 true]⟩ (by kernel_rfl) trivial ?_
        refine bindO_e h (fun s45 hc46 h => ?_)
        refine WO_call [.ro 1] Tryd.f10 rfl rfl rfl (by kernel_rfl) Tryd.func10 rfl (by kernel_rfl) (spec_FormatLocks_ok n x27 s45 hc46) (And.intro (And.intro rfl rfl) (trivial)) rfl ?_
        refine WO_step 2 [0] [2] (True ∧ True) ⟨[(2, B (decide (s29 = s45)))], [.row .u8 x1 false]⟩ (by kernel_rfl) ⟨trivial, trivial⟩ ?_
        refine WO_nil rfl ?_
        refine thenS_n ?_
        refine W_ret ?_
        refine thenS_r ?_
        cases h
        exact ⟨[0], True, by kernel_rfl, trivial⟩
      · refine W_sub [0, 1] [3, 4] (st' := ⟨[(3, .one (.e (.sl 1 0 x27.length))), (4, S s29)], [.row .u8 x1 false, .row .lck x27 true]⟩) (by kernel_rfl) ?_
        refine W_skip ?_
        refine thenS_n ?_
        refine W_seq ?_
        refine W_region ?_
        refine WO_step 7 [0] [2] (True ∧ (True ∧ (True ∧ (True ∧ True)))) ⟨[(2, B ((decide (s29 = [])) == (decide (((x27.length : Nat) : Int) = 0))))], [.row .u8 x1 false]⟩ (by kernel_rfl) ⟨trivial, trivial, trivial, trivial, trivial⟩ ?_
        refine WO_nil rfl ?_
        refine thenS_n ?_
        refine W_ret ?_
        cases h
        exact ⟨[0], True, by kernel_rfl, trivial⟩

end Go.Proofs.YtiboohplkihhnaaDoor

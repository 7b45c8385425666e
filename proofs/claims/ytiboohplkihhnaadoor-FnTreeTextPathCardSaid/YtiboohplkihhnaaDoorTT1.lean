import Derived.Test.YtiboohplkihhnaaDoorTLt
import Derived.Test.YtiboohplkihhnaaDoorTLxc
import Derived.Shelf.Strings.Builder1
import Derived.Shelf.Strconv.Itoa3
import Derived.Lib.AppendIntMem
import Derived.Lib.LaidTab
import Derived.Test.YtiboohplkihhnaaDoorProg
namespace Go.Proofs.YtiboohplkihhnaaDoor
open Go Go.Shelf Go.Proofs
set_option linter.unusedVariables false
def KK (w : World) : Prop := Lib.TabIs Tryd.prog w "internal/strconv.uint64pow10" .u64 Lib.pow10Tab
theorem KK_tab (w : World) (h : KK w) : Lib.TabIs Tryd.prog w "internal/strconv.uint64pow10" .u64 Lib.pow10Tab := h
noncomputable def EE : Env := ⟨Tryd.prog, fun _ => none, fun t => match t with | 3 => some .int | 5 => some .u8 | 9 => some .str | 43 => some .lck | 45 => some .lck | 63 => some .nod | 65 => some .nod | _ => none, KK⟩
/- spec.newReader -/
def spec_newReader (x1 : List Int) : Option (Nat) :=
 bindO (iteO (decide (2000 < ((x1.length : Nat) : Int)))
 (guardO (0 ≤ (2000 : Int) ∧ (2000 : Int) ≤ ((x1.length : Nat) : Int)) <|
 some 2000)
 (some x1.length)) fun k9 =>
 some k9

theorem spec_newReader_ok (x1 : List Int) (k6 : Nat) (h : spec_newReader x1 = some k6) : FOk EE 31 [.one (.e (.sl 0 0 x1.length))] [.row .u8 x1 false] (.one (.e (.p 1 0))) [.row .u8 x1 false, .cells [.sl 0 0 k6, cI 0]] := by
  unfold spec_newReader at h
  refine FOk_of_W 11 1 Tryd.func31 rfl rfl (Nat.le_of_ble_eq_true rfl) rfl (fun w X θ => ?_)
  refine W_seq ?_
  refine W_region ?_
  refine WO_step 1 [0] [0] True ⟨[(0, .one (.e (.sl 0 0 x1.length)))], [.row .u8 x1 false]⟩ (by kernel_rfl) trivial ?_
  refine WO_nil rfl ?_
  refine thenS_n ?_
  refine W_seq ?_
  refine W_seq ?_
  refine W_region ?_
  refine WO_step 3 [0] [0, 5] (True ∧ (True ∧ True)) ⟨[(0, .one (.e (.sl 0 0 x1.length))), (5, B (decide (2000 < ((x1.length : Nat) : Int))))], [.row .u8 x1 false]⟩ (by kernel_rfl) ⟨trivial, trivial, trivial⟩ ?_
  refine WO_nil rfl ?_
  refine thenS_n ?_
  refine bindO_e h (fun k9 hk9 h => ?_)
  refine W_cut (Q' := fun (e : Exit) (s : St) => e = .normal ∧ s = ⟨[(0, .one (.e (.sl 0 0 k9)))], [.row .u8 x1 false]⟩) ?_ ?_
  · refine iteO_e hk9 (fun hb11 hk9 => W_true rfl hb11 ?_) (fun hb11 hk9 => W_false rfl hb11 ?_)
    · refine W_region ?_
      refine guardO_e hk9 (fun hg12 hk9 => ?_)
      refine WO_step 3 [0] [0] ((0 ≤ (2000 : Int) ∧ (2000 : Int) ≤ ((x1.length : Nat) : Int)) ∧ True) ⟨[(0, .one (.e (.sl 0 0 2000)))], [.row .u8 x1 false]⟩ (by kernel_rfl) ⟨hg12, trivial⟩ ?_
      refine WO_nil rfl ?_
      cases hk9
      exact And.intro rfl rfl
    · refine W_sub [0] [0] (st' := ⟨[(0, .one (.e (.sl 0 0 x1.length)))], [.row .u8 x1 false]⟩) (by kernel_rfl) ?_
      refine W_skip ?_
      cases hk9
      exact And.intro rfl rfl
  · rintro _ _ ⟨rfl, rfl⟩
    refine thenS_n ?_
    refine W_seq ?_
    refine W_region ?_
    refine WO_step 4 [0, 1] [2] (True ∧ True) ⟨[(2, .one (.e (.p 1 0)))], [.row .u8 x1 false, .cells [.sl 0 0 k9, cI 0]]⟩ (by kernel_rfl) ⟨trivial, trivial⟩ ?_
    refine WO_nil rfl ?_
    refine thenS_n ?_
    refine W_ret ?_
    cases h
    exact ⟨[0, 1], True, by kernel_rfl, trivial⟩

/- spec.reader).pick -/
def spec_reader_pick (x1 : List Int) (k2 : Nat) (i3 : Int) (i4 : Int) : Option (Int) :=
 iteO ((decide (i4 < 1)) || (decide (((k2 : Nat) : Int) = 0)))
 (some 0)
 (iteO (decide ((w64 ((w64 (i3 + 1)) - 1)) < ((k2 : Nat) : Int)))
 (guardO (0 ≤ (w64 ((w64 (i3 + 1)) - 1)) ∧ (w64 ((w64 (i3 + 1)) - 1)) < ((k2 : Nat) : Int)) <|
 guardO ((i4 : Int) ≠ 0) <|
 some ((w64 (x1.getD ((w64 ((w64 (i3 + 1)) - 1)).toNat) 0)).tmod i4))
 (guardO ((((k2 : Nat) : Int) : Int) ≠ 0) <|
 guardO (0 ≤ ((w64 ((w64 (i3 + 1)) - 1)).tmod ((k2 : Nat) : Int)) ∧ ((w64 ((w64 (i3 + 1)) - 1)).tmod ((k2 : Nat) : Int)) < ((k2 : Nat) : Int)) <|
 guardO ((((k2 : Nat) : Int) : Int) ≠ 0) <|
 guardO (0 ≤ ((w64 ((w64 ((w64 ((w64 (i3 + 1)) - 1)) * 7)) + 3)).tmod ((k2 : Nat) : Int)) ∧ ((w64 ((w64 ((w64 ((w64 (i3 + 1)) - 1)) * 7)) + 3)).tmod ((k2 : Nat) : Int)) < ((k2 : Nat) : Int)) <|
 guardO ((((k2 : Nat) : Int) : Int) ≠ 0) <|
 guardO ((i4 : Int) ≠ 0) <|
 some ((w64 (BitVec.ofInt 64 (w64 ((w64 ((w64 ((w64 ((w64 (x1.getD (((w64 ((w64 (i3 + 1)) - 1)).tmod ((k2 : Nat) : Int)).toNat) 0)) * 131)) + (w64 ((w64 (x1.getD (((w64 ((w64 ((w64 ((w64 (i3 + 1)) - 1)) * 7)) + 3)).tmod ((k2 : Nat) : Int)).toNat) 0)) * 1117)))) + (w64 ((w64 ((w64 (i3 + 1)) - 1)) * 29)))) + (w64 ((w64 ((w64 ((w64 (i3 + 1)) - 1)).tdiv ((k2 : Nat) : Int))) * 53)))) ^^^ BitVec.ofInt 64 (w64 ((w64 ((w64 ((w64 ((w64 ((w64 (x1.getD (((w64 ((w64 (i3 + 1)) - 1)).tmod ((k2 : Nat) : Int)).toNat) 0)) * 131)) + (w64 ((w64 (x1.getD (((w64 ((w64 ((w64 ((w64 (i3 + 1)) - 1)) * 7)) + 3)).tmod ((k2 : Nat) : Int)).toNat) 0)) * 1117)))) + (w64 ((w64 ((w64 (i3 + 1)) - 1)) * 29)))) + (w64 ((w64 ((w64 ((w64 (i3 + 1)) - 1)).tdiv ((k2 : Nat) : Int))) * 53)))).tdiv 64))).toNat).tmod i4)))

theorem spec_reader_pick_ok (x1 : List Int) (k2 : Nat) (i3 : Int) (i4 : Int) (i22 : Int) (h : spec_reader_pick x1 k2 i3 i4 = some i22) : FOk EE 47 [.one (.e (.p 0 0)), I i4] [.cells [.sl 1 0 k2, cI i3], .row .u8 x1 false] (I i22) [.cells [.sl 1 0 k2, cI (w64 (i3 + 1))], .row .u8 x1 false] := by
  unfold spec_reader_pick at h
  refine FOk_of_W 99 2 Tryd.func47 rfl rfl (Nat.le_of_ble_eq_true rfl) rfl (fun w X θ => ?_)
  refine W_seq ?_
  refine W_region ?_
  refine WO_step 1 [0, 1] [0, 1] True ⟨[(0, .one (.e (.p 0 0))), (1, I i4)], [.cells [.sl 1 0 k2, cI i3], .row .u8 x1 false]⟩ (by kernel_rfl) trivial ?_
  refine WO_nil rfl ?_
  refine thenS_n ?_
  refine W_seq ?_
  refine W_region ?_
  refine WO_step 9 [0, 1] [0, 1] (True ∧ (True ∧ (True ∧ True))) ⟨[(0, .one (.e (.p 0 0))), (1, I i4)], [.cells [.sl 1 0 k2, cI (w64 (i3 + 1))], .row .u8 x1 false]⟩ (by kernel_rfl) ⟨trivial, trivial, trivial, trivial⟩ ?_
  refine WO_nil rfl ?_
  refine thenS_n ?_
  refine W_seq ?_
  refine W_seq ?_
  refine W_region ?_
  refine WO_step 3 [0, 1] [0, 1, 17] (True ∧ True) ⟨[(0, .one (.e (.p 0 0))), (1, I i4), (17, B (decide (i4 < 1)))], [.cells [.sl 1 0 k2, cI (w64 (i3 + 1))], .row .u8 x1 false]⟩ (by kernel_rfl) ⟨trivial, trivial⟩ ?_
  refine WO_thru ⟨[(0, .one (.e (.p 0 0))), (1, I i4), (24, B ((decide (i4 < 1)) || (decide (((k2 : Nat) : Int) = 0))))], [.cells [.sl 1 0 k2, cI (w64 (i3 + 1))], .row .u8 x1 false]⟩ ?_ ?_
  · refine WO_if 17 rfl (fun hb25 => ?_) (fun hb25 => ?_)
    · refine WO_step 7 [0, 1] [0, 1, 24] True ⟨[(0, .one (.e (.p 0 0))), (1, I i4), (24, B true)], [.cells [.sl 1 0 k2, cI (w64 (i3 + 1))], .row .u8 x1 false]⟩ (by kernel_rfl) trivial ?_
      exact WO_nil rfl ⟨rfl, by first | rfl | (rw [hb25]; first | done | rfl)⟩
    · refine WO_step 7 [0, 1] [0, 1, 24] (True ∧ (True ∧ (True ∧ True))) ⟨[(0, .one (.e (.p 0 0))), (1, I i4), (24, B (decide (((k2 : Nat) : Int) = 0)))], [.cells [.sl 1 0 k2, cI (w64 (i3 + 1))], .row .u8 x1 false]⟩ (by kernel_rfl) ⟨trivial, trivial, trivial, trivial⟩ ?_
      exact WO_nil rfl ⟨rfl, by first | rfl | (rw [hb25]; first | done | rfl)⟩
  · refine thenS_n ?_
    refine iteO_e h (fun hb27 h => W_true rfl hb27 ?_) (fun hb27 h => W_false rfl hb27 ?_)
    · refine W_seq ?_
      refine W_region ?_
      refine WO_step 1 [0, 1] [4] True ⟨[(4, I 0)], [.cells [.sl 1 0 k2, cI (w64 (i3 + 1))], .row .u8 x1 false]⟩ (by kernel_rfl) trivial ?_
      refine WO_nil rfl ?_
      refine thenS_n ?_
      refine W_ret ?_
      refine thenS_r ?_
      cases h
      exact ⟨[0, 1], True, by kernel_rfl, trivial⟩
    · refine W_sub [0, 1] [0, 1] (st' := ⟨[(0, .one (.e (.p 0 0))), (1, I i4)], [.cells [.sl 1 0 k2, cI (w64 (i3 + 1))], .row .u8 x1 false]⟩) (by kernel_rfl) ?_
      refine W_skip ?_
      refine thenS_n ?_
      refine W_seq ?_
      refine W_region ?_
      refine WO_step 6 [0, 1] [0, 1, 5] (True ∧ (True ∧ True)) ⟨[(0, .one (.e (.p 0 0))), (1, I i4), (5, I (w64 ((w64 (i3 + 1)) - 1)))], [.cells [.sl 1 0 k2, cI (w64 (i3 + 1))], .row .u8 x1 false]⟩ (by kernel_rfl) ⟨trivial, trivial, trivial⟩ ?_
      refine WO_nil rfl ?_
      refine thenS_n ?_
      refine W_seq ?_
      refine W_seq ?_
      refine W_region ?_
      refine WO_step 7 [0, 1] [0, 1, 5, 36] (True ∧ (True ∧ (True ∧ True))) ⟨[(0, .one (.e (.p 0 0))), (1, I i4), (5, I (w64 ((w64 (i3 + 1)) - 1))), (36, B (decide ((w64 ((w64 (i3 + 1)) - 1)) < ((k2 : Nat) : Int))))], [.cells [.sl 1 0 k2, cI (w64 (i3 + 1))], .row .u8 x1 false]⟩ (by kernel_rfl) ⟨trivial, trivial, trivial, trivial⟩ ?_
      refine WO_nil rfl ?_
      refine thenS_n ?_
      refine iteO_e h (fun hb31 h => W_true rfl hb31 ?_) (fun hb31 h => W_false rfl hb31 ?_)
      · refine W_seq ?_
        refine W_region ?_
        refine guardO_e h (fun hg32 h => ?_)
        refine guardO_e h (fun hg33 h => ?_)
        refine WO_step 11 [0, 1] [4] (True ∧ ((0 ≤ (w64 ((w64 (i3 + 1)) - 1)) ∧ (w64 ((w64 (i3 + 1)) - 1)) < ((k2 : Nat) : Int)) ∧ (True ∧ (True ∧ (((i4 : Int) ≠ 0) ∧ True))))) ⟨[(4, I ((w64 (x1.getD ((w64 ((w64 (i3 + 1)) - 1)).toNat) 0)).tmod i4))], [.cells [.sl 1 0 k2, cI (w64 (i3 + 1))], .row .u8 x1 false]⟩ (by kernel_rfl) ⟨trivial, hg32, trivial, trivial, hg33, trivial⟩ ?_
        refine WO_nil rfl ?_
        refine thenS_n ?_
        refine W_ret ?_
        refine thenS_r ?_
        cases h
        exact ⟨[0, 1], True, by kernel_rfl, trivial⟩
      · refine W_sub [0, 1] [0, 1, 5] (st' := ⟨[(0, .one (.e (.p 0 0))), (1, I i4), (5, I (w64 ((w64 (i3 + 1)) - 1)))], [.cells [.sl 1 0 k2, cI (w64 (i3 + 1))], .row .u8 x1 false]⟩) (by kernel_rfl) ?_
        refine W_skip ?_
        refine thenS_n ?_
        refine W_seq ?_
        refine guardO_e h (fun hg34 h => ?_)
        refine guardO_e h (fun hg35 h => ?_)
        refine guardO_e h (fun hg36 h => ?_)
        refine guardO_e h (fun hg37 h => ?_)
        refine guardO_e h (fun hg38 h => ?_)
        refine W_cut (Q' := fun (e : Exit) (s : St) => e = .normal ∧ s = ⟨[(1, I i4), (6, I (w64 ((w64 ((w64 ((w64 ((w64 (x1.getD (((w64 ((w64 (i3 + 1)) - 1)).tmod ((k2 : Nat) : Int)).toNat) 0)) * 131)) + (w64 ((w64 (x1.getD (((w64 ((w64 ((w64 ((w64 (i3 + 1)) - 1)) * 7)) + 3)).tmod ((k2 : Nat) : Int)).toNat) 0)) * 1117)))) + (w64 ((w64 ((w64 (i3 + 1)) - 1)) * 29)))) + (w64 ((w64 ((w64 ((w64 (i3 + 1)) - 1)).tdiv ((k2 : Nat) : Int))) * 53)))))], [.cells [.sl 1 0 k2, cI (w64 (i3 + 1))], .row .u8 x1 false]⟩) ?_ ?_
        · refine W_draw [] true (by kernel_rfl) (by kernel_rfl) ?_
          refine WD_takeK [0, 1, 2, 3, 4, 5, 6, 7, 8, 9, 10, 11, 12, 13, 14, 15, 16, 17, 18, 19, 20, 21, 22, 23, 24, 25, 26, 27, 28, 29, 30, 31, 32, 33, 34, 35, 36, 37, 38, 39, 40, 41, 42, 43, 44, 45] [1, 6] [1, 6] (φ := (True ∧ True ∧ (True ∧ True ∧ (True ∧ True ∧ (((((k2 : Nat) : Int) : Int) ≠ 0) ∧ ((((k2 : Nat) : Int) : Int) ≠ 0) ∧ ((0 ≤ ((w64 ((w64 (i3 + 1)) - 1)).tmod ((k2 : Nat) : Int)) ∧ ((w64 ((w64 (i3 + 1)) - 1)).tmod ((k2 : Nat) : Int)) < ((k2 : Nat) : Int)) ∧ (0 ≤ ((w64 ((w64 (i3 + 1)) - 1)).tmod ((k2 : Nat) : Int)) ∧ ((w64 ((w64 (i3 + 1)) - 1)).tmod ((k2 : Nat) : Int)) < ((k2 : Nat) : Int)) ∧ (True ∧ True ∧ (True ∧ True ∧ (True ∧ True ∧ (True ∧ True ∧ (True ∧ True ∧ (True ∧ True ∧ (True ∧ True ∧ (True ∧ True ∧ (((((k2 : Nat) : Int) : Int) ≠ 0) ∧ ((((k2 : Nat) : Int) : Int) ≠ 0) ∧ ((0 ≤ ((w64 ((w64 ((w64 ((w64 (i3 + 1)) - 1)) * 7)) + 3)).tmod ((k2 : Nat) : Int)) ∧ ((w64 ((w64 ((w64 ((w64 (i3 + 1)) - 1)) * 7)) + 3)).tmod ((k2 : Nat) : Int)) < ((k2 : Nat) : Int)) ∧ (0 ≤ ((w64 ((w64 ((w64 ((w64 (i3 + 1)) - 1)) * 7)) + 3)).tmod ((k2 : Nat) : Int)) ∧ ((w64 ((w64 ((w64 ((w64 (i3 + 1)) - 1)) * 7)) + 3)).tmod ((k2 : Nat) : Int)) < ((k2 : Nat) : Int)) ∧ (True ∧ True ∧ (True ∧ True ∧ (True ∧ True ∧ (True ∧ True ∧ (True ∧ True ∧ (True ∧ True ∧ (True ∧ True ∧ (True ∧ True ∧ (((((k2 : Nat) : Int) : Int) ≠ 0) ∧ ((((k2 : Nat) : Int) : Int) ≠ 0) ∧ (True ∧ True ∧ (True ∧ True ∧ True))))))))))))))))))))))))))) (ls' := #[true, true, true, true, true, true, true, true, true, true, true, true, true, true, true, true, true, true, true, true, true, true, true, true, true, true, true, true, true, true, true, true, true, true, true, true, true, true, true, true, true, true, true, true, true, true]) (Ts' := [(1, I i4), (6, I (w64 ((w64 ((w64 ((w64 ((w64 (x1.getD (((w64 ((w64 (i3 + 1)) - 1)).tmod ((k2 : Nat) : Int)).toNat) 0)) * 131)) + (w64 ((w64 (x1.getD (((w64 ((w64 ((w64 ((w64 (i3 + 1)) - 1)) * 7)) + 3)).tmod ((k2 : Nat) : Int)).toNat) 0)) * 1117)))) + (w64 ((w64 ((w64 (i3 + 1)) - 1)) * 29)))) + (w64 ((w64 ((w64 ((w64 (i3 + 1)) - 1)).tdiv ((k2 : Nat) : Int))) * 53)))))]) (st' := ⟨[(1, I i4), (6, I (w64 ((w64 ((w64 ((w64 ((w64 (x1.getD (((w64 ((w64 (i3 + 1)) - 1)).tmod ((k2 : Nat) : Int)).toNat) 0)) * 131)) + (w64 ((w64 (x1.getD (((w64 ((w64 ((w64 ((w64 (i3 + 1)) - 1)) * 7)) + 3)).tmod ((k2 : Nat) : Int)).toNat) 0)) * 1117)))) + (w64 ((w64 ((w64 (i3 + 1)) - 1)) * 29)))) + (w64 ((w64 ((w64 ((w64 (i3 + 1)) - 1)).tdiv ((k2 : Nat) : Int))) * 53)))))], [.cells [.sl 1 0 k2, cI (w64 (i3 + 1))], .row .u8 x1 false]⟩) (n2 := 0) (by kernel_rfl) ⟨trivial, trivial, trivial, trivial, trivial, trivial, hg34, hg34, hg35, hg35, trivial, trivial, trivial, trivial, trivial, trivial, trivial, trivial, trivial, trivial, trivial, trivial, trivial, trivial, trivial, trivial, hg36, hg36, hg37, hg37, trivial, trivial, trivial, trivial, trivial, trivial, trivial, trivial, trivial, trivial, trivial, trivial, trivial, trivial, trivial, trivial, hg38, hg38, trivial, trivial, trivial, trivial, trivial⟩ rfl ?_
          exact WD_done [0, 1] [1, 6] (st' := ⟨[(1, I i4), (6, I (w64 ((w64 ((w64 ((w64 ((w64 (x1.getD (((w64 ((w64 (i3 + 1)) - 1)).tmod ((k2 : Nat) : Int)).toNat) 0)) * 131)) + (w64 ((w64 (x1.getD (((w64 ((w64 ((w64 ((w64 (i3 + 1)) - 1)) * 7)) + 3)).tmod ((k2 : Nat) : Int)).toNat) 0)) * 1117)))) + (w64 ((w64 ((w64 (i3 + 1)) - 1)) * 29)))) + (w64 ((w64 ((w64 ((w64 (i3 + 1)) - 1)).tdiv ((k2 : Nat) : Int))) * 53)))))], [.cells [.sl 1 0 k2, cI (w64 (i3 + 1))], .row .u8 x1 false]⟩) (by kernel_rfl) (by kernel_rfl) (And.intro rfl rfl)
        · rintro _ _ ⟨rfl, rfl⟩
          refine thenS_n ?_
          refine W_seq ?_
          refine W_region ?_
          refine WO_step 5 [0, 1] [1, 6] (((64 : Int) ≠ 0) ∧ (True ∧ True)) ⟨[(1, I i4), (6, I (w64 (BitVec.ofInt 64 (w64 ((w64 ((w64 ((w64 ((w64 (x1.getD (((w64 ((w64 (i3 + 1)) - 1)).tmod ((k2 : Nat) : Int)).toNat) 0)) * 131)) + (w64 ((w64 (x1.getD (((w64 ((w64 ((w64 ((w64 (i3 + 1)) - 1)) * 7)) + 3)).tmod ((k2 : Nat) : Int)).toNat) 0)) * 1117)))) + (w64 ((w64 ((w64 (i3 + 1)) - 1)) * 29)))) + (w64 ((w64 ((w64 ((w64 (i3 + 1)) - 1)).tdiv ((k2 : Nat) : Int))) * 53)))) ^^^ BitVec.ofInt 64 (w64 ((w64 ((w64 ((w64 ((w64 ((w64 (x1.getD (((w64 ((w64 (i3 + 1)) - 1)).tmod ((k2 : Nat) : Int)).toNat) 0)) * 131)) + (w64 ((w64 (x1.getD (((w64 ((w64 ((w64 ((w64 (i3 + 1)) - 1)) * 7)) + 3)).tmod ((k2 : Nat) : Int)).toNat) 0)) * 1117)))) + (w64 ((w64 ((w64 (i3 + 1)) - 1)) * 29)))) + (w64 ((w64 ((w64 ((w64 (i3 + 1)) - 1)).tdiv ((k2 : Nat) : Int))) * 53)))).tdiv 64))).toNat))], [.cells [.sl 1 0 k2, cI (w64 (i3 + 1))], .row .u8 x1 false]⟩ (by kernel_rfl) ⟨(by decide), trivial, trivial⟩ ?_
          refine WO_nil rfl ?_
          refine thenS_n ?_
          refine W_seq ?_
          refine W_region ?_
          refine guardO_e h (fun hg39 h => ?_)
          refine WO_step 4 [0, 1] [4] (((i4 : Int) ≠ 0) ∧ True) ⟨[(4, I ((w64 (BitVec.ofInt 64 (w64 ((w64 ((w64 ((w64 ((w64 (x1.getD (((w64 ((w64 (i3 + 1)) - 1)).tmod ((k2 : Nat) : Int)).toNat) 0)) * 131)) + (w64 ((w64 (x1.getD (((w64 ((w64 ((w64 ((w64 (i3 + 1)) - 1)) * 7)) + 3)).tmod ((k2 : Nat) : Int)).toNat) 0)) * 1117)))) + (w64 ((w64 ((w64 (i3 + 1)) - 1)) * 29)))) + (w64 ((w64 ((w64 ((w64 (i3 + 1)) - 1)).tdiv ((k2 : Nat) : Int))) * 53)))) ^^^ BitVec.ofInt 64 (w64 ((w64 ((w64 ((w64 ((w64 ((w64 (x1.getD (((w64 ((w64 (i3 + 1)) - 1)).tmod ((k2 : Nat) : Int)).toNat) 0)) * 131)) + (w64 ((w64 (x1.getD (((w64 ((w64 ((w64 ((w64 (i3 + 1)) - 1)) * 7)) + 3)).tmod ((k2 : Nat) : Int)).toNat) 0)) * 1117)))) + (w64 ((w64 ((w64 (i3 + 1)) - 1)) * 29)))) + (w64 ((w64 ((w64 ((w64 (i3 + 1)) - 1)).tdiv ((k2 : Nat) : Int))) * 53)))).tdiv 64))).toNat).tmod i4))], [.cells [.sl 1 0 k2, cI (w64 (i3 + 1))], .row .u8 x1 false]⟩ (by kernel_rfl) ⟨hg39, trivial⟩ ?_
          refine WO_nil rfl ?_
          refine thenS_n ?_
          refine W_ret ?_
          cases h
          exact ⟨[0, 1], True, by kernel_rfl, trivial⟩

/- spec.reader).one -/
def spec_reader_one (x1 : List Int) (k2 : Nat) (i3 : Int) (x4 : List Int) : Option (Int × Int) :=
 bindO (spec_reader_pick x1 k2 i3 ((x4.length : Nat) : Int)) fun i10 =>
 guardO (0 ≤ i10 ∧ i10 < ((x4.length : Nat) : Int)) <|
 some ((w64 (i3 + 1)), (x4.getD i10.toNat 0))

theorem spec_reader_one_ok (x1 : List Int) (k2 : Nat) (i3 : Int) (x4 : List Int) (i8 : Int) (i9 : Int) (h : spec_reader_one x1 k2 i3 x4 = some (i8, i9)) : FOk EE 48 [.one (.e (.p 0 0)), .one (.e (.sl 2 0 x4.length))] [.cells [.sl 1 0 k2, cI i3], .row .u8 x1 false, .row .int x4 false] (I i9) [.cells [.sl 1 0 k2, cI i8], .row .u8 x1 false, .row .int x4 false] := by
  unfold spec_reader_one at h
  refine FOk_of_W 12 3 Tryd.func48 rfl rfl (Nat.le_of_ble_eq_true rfl) rfl (fun w X θ => ?_)
  refine W_seq ?_
  refine W_region ?_
  refine WO_step 1 [0, 1, 2] [0, 1] True ⟨[(0, .one (.e (.p 0 0))), (1, .one (.e (.sl 2 0 x4.length)))], [.cells [.sl 1 0 k2, cI i3], .row .u8 x1 false, .row .int x4 false]⟩ (by kernel_rfl) trivial ?_
  refine WO_nil rfl ?_
  refine thenS_n ?_
  refine W_seq ?_
  refine W_region ?_
  refine WO_step 4 [0, 1, 2] [5, 6, 8] (True ∧ True) ⟨[(5, .one (.e (.sl 2 0 x4.length))), (6, .one (.e (.p 0 0))), (8, I ((x4.length : Nat) : Int))], [.cells [.sl 1 0 k2, cI i3], .row .u8 x1 false, .row .int x4 false]⟩ (by kernel_rfl) ⟨trivial, trivial⟩ ?_
  refine bindO_e h (fun i10 hc11 h => ?_)
  refine WO_call [.own 0, .ro 1] Tryd.f47 rfl rfl rfl (by kernel_rfl) Tryd.func47 rfl (by kernel_rfl) (spec_reader_pick_ok x1 k2 i3 ((x4.length : Nat) : Int) i10 hc11) (And.intro (trivial) (And.intro (And.intro rfl rfl) (trivial))) rfl ?_
  refine guardO_e h (fun hg12 h => ?_)
  refine WO_step 3 [0, 1, 2] [4] ((0 ≤ i10 ∧ i10 < ((x4.length : Nat) : Int)) ∧ (True ∧ True)) ⟨[(4, I (x4.getD i10.toNat 0))], [.cells [.sl 1 0 k2, cI (w64 (i3 + 1))], .row .u8 x1 false, .row .int x4 false]⟩ (by kernel_rfl) ⟨hg12, trivial, trivial⟩ ?_
  refine WO_nil rfl ?_
  refine thenS_n ?_
  refine W_ret ?_
  cases h
  exact ⟨[0, 1, 2], True, by kernel_rfl, trivial⟩

/- spec.someValue -/
def spec_someValue (x1 : List Int) (k2 : Nat) (i3 : Int) : Option (Int × Int) :=
 bindO (spec_reader_pick x1 k2 i3 40) fun i14 =>
 bindO (spec_reader_pick x1 k2 (w64 (i3 + 1)) 250) fun i16 =>
 bindO (spec_reader_one x1 k2 (w64 ((w64 (i3 + 1)) + 1)) [0, 1, (-1), 5, 10, 100, 1000, (-1000), i14, (w64 ((w64 (4 * i16)) - 500))]) fun (i18, i19) =>
 some (i18, i19)

theorem spec_someValue_ok (x1 : List Int) (k2 : Nat) (i3 : Int) (i12 : Int) (i13 : Int) (h : spec_someValue x1 k2 i3 = some (i12, i13)) : FOk EE 67 [.one (.e (.p 0 0))] [.cells [.sl 1 0 k2, cI i3], .row .u8 x1 false] (I i13) [.cells [.sl 1 0 k2, cI i12], .row .u8 x1 false] := by
  unfold spec_someValue at h
  refine FOk_of_W 12 2 Tryd.func67 rfl rfl (Nat.le_of_ble_eq_true rfl) rfl (fun w X θ => ?_)
  refine W_seq ?_
  refine W_region ?_
  refine WO_step 1 [0, 1] [0] True ⟨[(0, .one (.e (.p 0 0)))], [.cells [.sl 1 0 k2, cI i3], .row .u8 x1 false]⟩ (by kernel_rfl) trivial ?_
  refine WO_nil rfl ?_
  refine thenS_n ?_
  refine W_seq ?_
  refine W_region ?_
  refine WO_step 2 [0, 1] [0, 3, 4] True ⟨[(0, .one (.e (.p 0 0))), (3, .one (.e (.p 0 0))), (4, .one (.e (.p 0 0)))], [.cells [.sl 1 0 k2, cI i3], .row .u8 x1 false]⟩ (by kernel_rfl) trivial ?_
  refine bindO_e h (fun i14 hc15 h => ?_)
  refine WO_call [.own 0, .ro 1] Tryd.f47 rfl rfl rfl (by kernel_rfl) Tryd.func47 rfl (by kernel_rfl) (spec_reader_pick_ok x1 k2 i3 40 i14 hc15) (And.intro (trivial) (And.intro (And.intro rfl rfl) (trivial))) rfl ?_
  refine WO_step 1 [0, 1] [3, 5, 6] True ⟨[(3, .one (.e (.p 0 0))), (5, I i14), (6, .one (.e (.p 0 0)))], [.cells [.sl 1 0 k2, cI (w64 (i3 + 1))], .row .u8 x1 false]⟩ (by kernel_rfl) trivial ?_
  refine bindO_e h (fun i16 hc17 h => ?_)
  refine WO_call [.own 0, .ro 1] Tryd.f47 rfl rfl rfl (by kernel_rfl) Tryd.func47 rfl (by kernel_rfl) (spec_reader_pick_ok x1 k2 (w64 (i3 + 1)) 250 i16 hc17) (And.intro (trivial) (And.intro (And.intro rfl rfl) (trivial))) rfl ?_
  refine WO_step 3 [0, 1, 2] [3, 10] (True ∧ (True ∧ True)) ⟨[(3, .one (.e (.p 0 0))), (10, .one (.e (.sl 2 0 ([0, 1, (-1), 5, 10, 100, 1000, (-1000), i14, (w64 ((w64 (4 * i16)) - 500))].length))))], [.cells [.sl 1 0 k2, cI (w64 ((w64 (i3 + 1)) + 1))], .row .u8 x1 false, .row .int [0, 1, (-1), 5, 10, 100, 1000, (-1000), i14, (w64 ((w64 (4 * i16)) - 500))] true]⟩ (by kernel_rfl) ⟨trivial, trivial, trivial⟩ ?_
  refine bindO_e h (fun v21 hc20 h => ?_)
  obtain ⟨i18, i19⟩ := v21
  refine WO_call [.own 0, .ro 1, .ro 2] Tryd.f48 rfl rfl rfl (by kernel_rfl) Tryd.func48 rfl (by kernel_rfl) (spec_reader_one_ok x1 k2 (w64 ((w64 (i3 + 1)) + 1)) [0, 1, (-1), 5, 10, 100, 1000, (-1000), i14, (w64 ((w64 (4 * i16)) - 500))] i18 i19 hc20) (And.intro (trivial) (And.intro (And.intro rfl rfl) (And.intro (And.intro rfl rfl) (trivial)))) rfl ?_
  refine WO_step 1 [0, 1] [2] True ⟨[(2, I i19)], [.cells [.sl 1 0 k2, cI i18], .row .u8 x1 false]⟩ (by kernel_rfl) trivial ?_
  refine WO_nil rfl ?_
  refine thenS_n ?_
  refine W_ret ?_
  cases h
  exact ⟨[0, 1], True, by kernel_rfl, trivial⟩

/- spec.reader).of -/
def spec_reader_of (x1 : List Int) (k2 : Nat) (i3 : Int) (x4 : List Str) : Option (Int × Str) :=
 bindO (spec_reader_pick x1 k2 i3 ((x4.length : Nat) : Int)) fun i10 =>
 guardO (0 ≤ i10 ∧ i10 < ((x4.length : Nat) : Int)) <|
 some ((w64 (i3 + 1)), (x4.getD i10.toNat []))

theorem spec_reader_of_ok (x1 : List Int) (k2 : Nat) (i3 : Int) (x4 : List Str) (i8 : Int) (s9 : Str) (h : spec_reader_of x1 k2 i3 x4 = some (i8, s9)) : FOk EE 57 [.one (.e (.p 0 0)), .one (.e (.sl 2 0 x4.length))] [.cells [.sl 1 0 k2, cI i3], .row .u8 x1 false, .row .str x4 false] (S s9) [.cells [.sl 1 0 k2, cI i8], .row .u8 x1 false, .row .str x4 false] := by
  unfold spec_reader_of at h
  refine FOk_of_W 12 3 Tryd.func57 rfl rfl (Nat.le_of_ble_eq_true rfl) rfl (fun w X θ => ?_)
  refine W_seq ?_
  refine W_region ?_
  refine WO_step 1 [0, 1, 2] [0, 1] True ⟨[(0, .one (.e (.p 0 0))), (1, .one (.e (.sl 2 0 x4.length)))], [.cells [.sl 1 0 k2, cI i3], .row .u8 x1 false, .row .str x4 false]⟩ (by kernel_rfl) trivial ?_
  refine WO_nil rfl ?_
  refine thenS_n ?_
  refine W_seq ?_
  refine W_region ?_
  refine WO_step 4 [0, 1, 2] [5, 6, 8] (True ∧ True) ⟨[(5, .one (.e (.sl 2 0 x4.length))), (6, .one (.e (.p 0 0))), (8, I ((x4.length : Nat) : Int))], [.cells [.sl 1 0 k2, cI i3], .row .u8 x1 false, .row .str x4 false]⟩ (by kernel_rfl) ⟨trivial, trivial⟩ ?_
  refine bindO_e h (fun i10 hc11 h => ?_)
  refine WO_call [.own 0, .ro 1] Tryd.f47 rfl rfl rfl (by kernel_rfl) Tryd.func47 rfl (by kernel_rfl) (spec_reader_pick_ok x1 k2 i3 ((x4.length : Nat) : Int) i10 hc11) (And.intro (trivial) (And.intro (And.intro rfl rfl) (trivial))) rfl ?_
  refine guardO_e h (fun hg12 h => ?_)
  refine WO_step 3 [0, 1, 2] [4] ((0 ≤ i10 ∧ i10 < ((x4.length : Nat) : Int)) ∧ (True ∧ True)) ⟨[(4, S (x4.getD i10.toNat []))], [.cells [.sl 1 0 k2, cI (w64 (i3 + 1))], .row .u8 x1 false, .row .str x4 false]⟩ (by kernel_rfl) ⟨hg12, trivial, trivial⟩ ?_
  refine WO_nil rfl ?_
  refine thenS_n ?_
  refine W_ret ?_
  cases h
  exact ⟨[0, 1, 2], True, by kernel_rfl, trivial⟩

/- spec.someName -/
def spec_someName (x1 : List Int) (k2 : Nat) (i3 : Int) : Option (Int × Str) :=
 bindO (spec_reader_of x1 k2 i3 [[97], [98], [99], [97, 98], [120], [122]]) fun (i10, s11) =>
 some (i10, s11)

theorem spec_someName_ok (x1 : List Int) (k2 : Nat) (i3 : Int) (i8 : Int) (s9 : Str) (h : spec_someName x1 k2 i3 = some (i8, s9)) : FOk EE 69 [.one (.e (.p 0 0))] [.cells [.sl 1 0 k2, cI i3], .row .u8 x1 false] (S s9) [.cells [.sl 1 0 k2, cI i8], .row .u8 x1 false] := by
  unfold spec_someName at h
  refine FOk_of_W 6 2 Tryd.func69 rfl rfl (Nat.le_of_ble_eq_true rfl) rfl (fun w X θ => ?_)
  refine W_seq ?_
  refine W_region ?_
  refine WO_step 1 [0, 1] [0] True ⟨[(0, .one (.e (.p 0 0)))], [.cells [.sl 1 0 k2, cI i3], .row .u8 x1 false]⟩ (by kernel_rfl) trivial ?_
  refine WO_nil rfl ?_
  refine thenS_n ?_
  refine W_seq ?_
  refine W_region ?_
  refine WO_step 2 [0, 1, 2] [3, 4] True ⟨[(3, .one (.e (.p 0 0))), (4, .one (.e (.sl 2 0 ([[97], [98], [99], [97, 98], [120], [122]].length))))], [.cells [.sl 1 0 k2, cI i3], .row .u8 x1 false, .row .str [[97], [98], [99], [97, 98], [120], [122]] true]⟩ (by kernel_rfl) trivial ?_
  refine bindO_e h (fun v13 hc12 h => ?_)
  obtain ⟨i10, s11⟩ := v13
  refine WO_call [.own 0, .ro 1, .ro 2] Tryd.f57 rfl rfl rfl (by kernel_rfl) Tryd.func57 rfl (by kernel_rfl) (spec_reader_of_ok x1 k2 i3 [[97], [98], [99], [97, 98], [120], [122]] i10 s11 hc12) (And.intro (trivial) (And.intro (And.intro rfl rfl) (And.intro (And.intro rfl rfl) (trivial)))) rfl ?_
  refine WO_step 1 [0, 1] [2] True ⟨[(2, S s11)], [.cells [.sl 1 0 k2, cI i10], .row .u8 x1 false]⟩ (by kernel_rfl) trivial ?_
  refine WO_nil rfl ?_
  refine thenS_n ?_
  refine W_ret ?_
  cases h
  exact ⟨[0, 1], True, by kernel_rfl, trivial⟩

/- spec.inRange -/
def spec_inRange (i1 : Int) (i2 : Int) (i3 : Int) : Bool :=
((decide (i2 ≤ i1)) && (decide (i1 ≤ i3)))

theorem spec_inRange_ok (i1 : Int) (i2 : Int) (i3 : Int) : FOk EE 42 [I i1, I i2, I i3] [] (B (spec_inRange i1 i2 i3)) [] := by
  refine FOk_of_W 15 0 Tryd.func42 rfl rfl (Nat.le_of_ble_eq_true rfl) rfl (fun w X θ => ?_)
  refine W_seq ?_
  refine W_region ?_
  refine WO_step 1 [] [0, 1, 2] True ⟨[(0, I i1), (1, I i2), (2, I i3)], []⟩ (by kernel_rfl) trivial ?_
  refine WO_nil rfl ?_
  refine thenS_n ?_
  refine W_seq ?_
  refine W_region ?_
  refine WO_step 4 [] [0, 2, 10] (True ∧ True) ⟨[(0, I i1), (2, I i3), (10, B (decide (i2 ≤ i1)))], []⟩ (by kernel_rfl) ⟨trivial, trivial⟩ ?_
  refine WO_thru ⟨[(6, B ((decide (i2 ≤ i1)) && (decide (i1 ≤ i3))))], []⟩ ?_ ?_
  · refine WO_if 10 rfl (fun hb10 => ?_) (fun hb10 => ?_)
    · refine WO_step 5 [] [6] (True ∧ True) ⟨[(6, B (decide (i1 ≤ i3)))], []⟩ (by kernel_rfl) ⟨trivial, trivial⟩ ?_
      exact WO_nil rfl ⟨rfl, by first | rfl | (rw [hb10]; first | done | rfl)⟩
    · refine WO_step 5 [] [6] True ⟨[(6, B false)], []⟩ (by kernel_rfl) trivial ?_
      exact WO_nil rfl ⟨rfl, by first | rfl | (rw [hb10]; first | done | rfl)⟩
  · refine thenS_n ?_
    refine W_ret ?_
    exact ⟨[], True, by kernel_rfl, trivial⟩

/- spec.validName -/
def spec_validName_L1 (s1 : Str) : Nat → Int → Option ((Unit) ⊕ (Unit))
| 0, _ => none
| n + 1, i44 =>
 iteO (decide (i44 < ((s1.length : Nat) : Int)))
 (guardO (0 ≤ i44 ∧ i44 < ((s1.length : Nat) : Int)) <|
 iteO (!(spec_inRange (w64 ((s1.getD i44.toNat 0).toNat : Int)) 97 122))
 (some (.inl ()))
 (spec_validName_L1 s1 n (w64 (i44 + 1))))
 (some (.inr ()))

theorem spec_validName_L1_ok (w : World) (X : Nat → Prop) (θ : List Loc) (s1 : Str) (v : (Unit) ⊕ (Unit)) : ∀ (n : Nat) (i44 : Int), spec_validName_L1 s1 n i44 = some v → WL EE ⟨w, X, θ, 19, 0⟩ (subC [1, 0, 1, 4, 4] (bodyC Tryd.f61)) (fun (e : Exit) (s : St) => (match v with | (.inl _) => e = .ret ∧ s = ⟨[(2, B false)], []⟩ | (.inr _) => e = .exit 0 ∧ s = ⟨[(0, S s1)], []⟩ : Prop)) ⟨[(0, S s1), (3, I i44)], []⟩ := by
  intro n
  induction n with
  | zero => intro _ h; exact none_e h
  | succ n ih =>
    intro i44 h
    rw [spec_validName_L1] at h
    refine WL_round ?_
    refine W_seq ?_
    refine W_seq ?_
    refine W_region ?_
    refine WO_step 4 [] [0, 3, 7] (True ∧ (True ∧ True)) ⟨[(0, S s1), (3, I i44), (7, B (decide (i44 < ((s1.length : Nat) : Int))))], []⟩ (by kernel_rfl) ⟨trivial, trivial, trivial⟩ ?_
    refine WO_nil rfl ?_
    refine thenS_n ?_
    refine iteO_e h (fun hb56 h => W_true rfl hb56 ?_) (fun hb56 h => W_false rfl hb56 ?_)
    · refine W_sub [] [0, 3] (st' := ⟨[(0, S s1), (3, I i44)], []⟩) (by kernel_rfl) ?_
      refine W_skip ?_
      refine thenS_n ?_
      refine W_seq ?_
      refine W_block ?_
      refine W_seq ?_
      refine W_region ?_
      refine guardO_e h (fun hg60 h => ?_)
      refine WO_step 4 [] [0, 3, 13] ((0 ≤ i44 ∧ i44 < ((s1.length : Nat) : Int)) ∧ (True ∧ True)) ⟨[(0, S s1), (3, I i44), (13, I (w64 ((s1.getD i44.toNat 0).toNat : Int)))], []⟩ (by kernel_rfl) ⟨hg60, trivial, trivial⟩ ?_
      refine WO_call [] Tryd.f42 rfl rfl rfl (by kernel_rfl) Tryd.func42 rfl (by kernel_rfl) (spec_inRange_ok (w64 ((s1.getD i44.toNat 0).toNat : Int)) 97 122) (trivial) rfl ?_
      refine WO_step 1 [] [0, 3, 15] True ⟨[(0, S s1), (3, I i44), (15, B (!(spec_inRange (w64 ((s1.getD i44.toNat 0).toNat : Int)) 97 122)))], []⟩ (by kernel_rfl) trivial ?_
      refine WO_nil rfl ?_
      refine thenS_n ?_
      refine iteO_e h (fun hb62 h => W_true rfl hb62 ?_) (fun hb62 h => W_false rfl hb62 ?_)
      · refine W_seq ?_
        refine W_region ?_
        refine WO_step 1 [] [2] True ⟨[(2, B false)], []⟩ (by kernel_rfl) trivial ?_
        refine WO_nil rfl ?_
        refine thenS_n ?_
        refine W_ret ?_
        refine blockS_r ?_
        refine thenS_r ?_
        refine thenS_r ?_
        cases h
        exact And.intro rfl rfl
      · refine W_sub [] [0, 3] (st' := ⟨[(0, S s1), (3, I i44)], []⟩) (by kernel_rfl) ?_
        refine W_skip ?_
        refine blockS_n ?_
        refine thenS_n ?_
        refine W_region ?_
        refine WO_step 3 [] [0, 3] (True ∧ True) ⟨[(0, S s1), (3, I (w64 (i44 + 1)))], []⟩ (by kernel_rfl) ⟨trivial, trivial⟩ ?_
        refine WO_nil rfl ?_
        refine thenS_n ?_
        exact ih _ h
    · refine W_sub [] [0] (st' := ⟨[(0, S s1)], []⟩) (by kernel_rfl) ?_
      refine W_exit ?_
      refine thenS_e ?_
      refine thenS_e ?_
      cases h
      exact And.intro rfl rfl

def spec_validName (n : Nat) (s1 : Str) : Option (Bool) :=
 bindO (spec_validName_L1 s1 n 0) fun v63 =>
 match v63 with
 | (.inl _) => (some false)
 | (.inr _) => (some (spec_inRange ((s1.length : Nat) : Int) 1 4))


theorem spec_validName_ok (n : Nat) (s1 : Str) (b32 : Bool) (h : spec_validName n s1 = some b32) : FOk EE 61 [S s1] [] (B b32) [] := by
  unfold spec_validName at h
  refine FOk_of_W 19 0 Tryd.func61 rfl rfl (Nat.le_of_ble_eq_true rfl) rfl (fun w X θ => ?_)
  refine W_seq ?_
  refine W_region ?_
  refine WO_step 1 [] [0] True ⟨[(0, S s1)], []⟩ (by kernel_rfl) trivial ?_
  refine WO_nil rfl ?_
  refine thenS_n ?_
  refine W_seq ?_
  refine W_seq ?_
  refine W_region ?_
  refine WO_step 1 [] [0, 3] True ⟨[(0, S s1), (3, I 0)], []⟩ (by kernel_rfl) trivial ?_
  refine WO_nil rfl ?_
  refine thenS_n ?_
  refine W_block ?_
  refine W_loop ?_
  refine bindO_e h (fun v63 hv63 h => ?_)
  refine WL_cut (spec_validName_L1_ok w X θ s1 v63 n 0 hv63) ?_
  rcases v63 with _ | _
  · rintro _ _ ⟨rfl, rfl⟩
    refine blockS_r ?_
    refine thenS_r ?_
    cases h
    exact ⟨[], True, by kernel_rfl, trivial⟩
  · rintro _ _ ⟨rfl, rfl⟩
    refine blockS_y ?_
    refine thenS_n ?_
    refine W_seq ?_
    refine W_region ?_
    refine WO_step 2 [] [17] (True ∧ True) ⟨[(17, I ((s1.length : Nat) : Int))], []⟩ (by kernel_rfl) ⟨trivial, trivial⟩ ?_
    refine WO_call [] Tryd.f42 rfl rfl rfl (by kernel_rfl) Tryd.func42 rfl (by kernel_rfl) (spec_inRange_ok ((s1.length : Nat) : Int) 1 4) (trivial) rfl ?_
    refine WO_step 1 [] [2] True ⟨[(2, B (spec_inRange ((s1.length : Nat) : Int) 1 4))], []⟩ (by kernel_rfl) trivial ?_
    refine WO_nil rfl ?_
    refine thenS_n ?_
    refine W_ret ?_
    cases h
    exact ⟨[], True, by kernel_rfl, trivial⟩

/- spec.kid -/
def spec_kid_L1 (x1 : List Nod) (i2 : Int) (s3 : Str) : Nat → Int → Option ((Int) ⊕ (Unit))
| 0, _ => none
| n + 1, i97 =>
 iteO (decide (i97 < ((x1.length : Nat) : Int)))
 (guardO (0 ≤ i97 ∧ i97 < ((x1.length : Nat) : Int)) <|
 bindO (iteO (decide (((x1.getD i97.toNat dnod).parent) = i2))
 (guardO (0 ≤ i97 ∧ i97 < ((x1.length : Nat) : Int)) <|
 some (decide (((x1.getD i97.toNat dnod).name) = s3)))
 (some false)) fun b135 =>
 iteO b135
 (some (.inl i97))
 (spec_kid_L1 x1 i2 s3 n (w64 (i97 + 1))))
 (some (.inr ()))

theorem spec_kid_L1_ok (w : World) (X : Nat → Prop) (θ : List Loc) (x1 : List Nod) (i2 : Int) (s3 : Str) (v : (Int) ⊕ (Unit)) : ∀ (n : Nat) (i97 : Int), spec_kid_L1 x1 i2 s3 n i97 = some v → WL EE ⟨w, X, θ, 31, 1⟩ (subC [1, 0, 1, 4, 4] (bodyC Tryd.f62)) (fun (e : Exit) (s : St) => (match v with | (.inl i119) => e = .ret ∧ s = ⟨[(6, I i119)], [.row .nod x1 false]⟩ | (.inr _) => e = .exit 0 ∧ s = ⟨[], [.row .nod x1 false]⟩ : Prop)) ⟨[(0, .one (.e (.sl 0 0 x1.length))), (1, I i2), (2, S s3), (7, I i97)], [.row .nod x1 false]⟩ := by
  intro n
  induction n with
  | zero => intro _ h; exact none_e h
  | succ n ih =>
    intro i97 h
    rw [spec_kid_L1] at h
    refine WL_round ?_
    refine W_seq ?_
    refine W_seq ?_
    refine W_region ?_
    refine WO_step 4 [0] [0, 1, 2, 7, 11] (True ∧ (True ∧ True)) ⟨[(0, .one (.e (.sl 0 0 x1.length))), (1, I i2), (2, S s3), (7, I i97), (11, B (decide (i97 < ((x1.length : Nat) : Int))))], [.row .nod x1 false]⟩ (by kernel_rfl) ⟨trivial, trivial, trivial⟩ ?_
    refine WO_nil rfl ?_
    refine thenS_n ?_
    refine iteO_e h (fun hb122 h => W_true rfl hb122 ?_) (fun hb122 h => W_false rfl hb122 ?_)
    · refine W_sub [0] [0, 1, 2, 7] (st' := ⟨[(0, .one (.e (.sl 0 0 x1.length))), (1, I i2), (2, S s3), (7, I i97)], [.row .nod x1 false]⟩) (by kernel_rfl) ?_
      refine W_skip ?_
      refine thenS_n ?_
      refine W_seq ?_
      refine W_block ?_
      refine W_seq ?_
      refine W_region ?_
      refine guardO_e h (fun hg132 h => ?_)
      refine WO_step 8 [0] [0, 1, 2, 7, 21] ((0 ≤ i97 ∧ i97 < ((x1.length : Nat) : Int)) ∧ (True ∧ (True ∧ True))) ⟨[(0, .one (.e (.sl 0 0 x1.length))), (1, I i2), (2, S s3), (7, I i97), (21, B (decide (((x1.getD i97.toNat dnod).parent) = i2)))], [.row .nod x1 false]⟩ (by kernel_rfl) ⟨hg132, trivial, trivial, trivial⟩ ?_
      refine bindO_e h (fun b135 hv136 h => ?_)
      refine WO_thru ⟨[(0, .one (.e (.sl 0 0 x1.length))), (1, I i2), (2, S s3), (7, I i97), (29, B b135)], [.row .nod x1 false]⟩ ?_ ?_
      · refine iteO_e hv136 (fun hb137 hv136 => WO_known 21 true rfl hb137 ?_) (fun hb137 hv136 => WO_known 21 false rfl hb137 ?_)
        · refine guardO_e hv136 (fun hg138 hv136 => ?_)
          refine WO_step 8 [0] [0, 1, 2, 7, 29] ((0 ≤ i97 ∧ i97 < ((x1.length : Nat) : Int)) ∧ (True ∧ (True ∧ True))) ⟨[(0, .one (.e (.sl 0 0 x1.length))), (1, I i2), (2, S s3), (7, I i97), (29, B (decide (((x1.getD i97.toNat dnod).name) = s3)))], [.row .nod x1 false]⟩ (by kernel_rfl) ⟨hg138, trivial, trivial, trivial⟩ ?_
          cases hv136
          exact WO_nil rfl ⟨rfl, rfl⟩
        · refine WO_step 8 [0] [0, 1, 2, 7, 29] True ⟨[(0, .one (.e (.sl 0 0 x1.length))), (1, I i2), (2, S s3), (7, I i97), (29, B false)], [.row .nod x1 false]⟩ (by kernel_rfl) trivial ?_
          cases hv136
          exact WO_nil rfl ⟨rfl, rfl⟩
      · refine thenS_n ?_
        refine iteO_e h (fun hb140 h => W_true rfl hb140 ?_) (fun hb140 h => W_false rfl hb140 ?_)
        · refine W_seq ?_
          refine W_region ?_
          refine WO_step 2 [0] [6] True ⟨[(6, I i97)], [.row .nod x1 false]⟩ (by kernel_rfl) trivial ?_
          refine WO_nil rfl ?_
          refine thenS_n ?_
          refine W_ret ?_
          refine blockS_r ?_
          refine thenS_r ?_
          refine thenS_r ?_
          cases h
          exact And.intro rfl rfl
        · refine W_sub [0] [0, 1, 2, 7] (st' := ⟨[(0, .one (.e (.sl 0 0 x1.length))), (1, I i2), (2, S s3), (7, I i97)], [.row .nod x1 false]⟩) (by kernel_rfl) ?_
          refine W_skip ?_
          refine blockS_n ?_
          refine thenS_n ?_
          refine W_region ?_
          refine WO_step 3 [0] [0, 1, 2, 7] (True ∧ True) ⟨[(0, .one (.e (.sl 0 0 x1.length))), (1, I i2), (2, S s3), (7, I (w64 (i97 + 1)))], [.row .nod x1 false]⟩ (by kernel_rfl) ⟨trivial, trivial⟩ ?_
          refine WO_nil rfl ?_
          refine thenS_n ?_
          exact ih _ h
    · refine W_sub [0] [] (st' := ⟨[], [.row .nod x1 false]⟩) (by kernel_rfl) ?_
      refine W_exit ?_
      refine thenS_e ?_
      refine thenS_e ?_
      cases h
      exact And.intro rfl rfl

def spec_kid (n : Nat) (x1 : List Nod) (i2 : Int) (s3 : Str) : Option (Int) :=
 bindO (spec_kid_L1 x1 i2 s3 n 1) fun v141 =>
 match v141 with
 | (.inl i119) => (some i119)
 | (.inr _) => (some (-1))


theorem spec_kid_ok (n : Nat) (x1 : List Nod) (i2 : Int) (s3 : Str) (i72 : Int) (h : spec_kid n x1 i2 s3 = some i72) : FOk EE 62 [.one (.e (.sl 0 0 x1.length)), I i2, S s3] [.row .nod x1 false] (I i72) [.row .nod x1 false] := by
  unfold spec_kid at h
  refine FOk_of_W 31 1 Tryd.func62 rfl rfl (Nat.le_of_ble_eq_true rfl) rfl (fun w X θ => ?_)
  refine W_seq ?_
  refine W_region ?_
  refine WO_step 1 [0] [0, 1, 2] True ⟨[(0, .one (.e (.sl 0 0 x1.length))), (1, I i2), (2, S s3)], [.row .nod x1 false]⟩ (by kernel_rfl) trivial ?_
  refine WO_nil rfl ?_
  refine thenS_n ?_
  refine W_seq ?_
  refine W_seq ?_
  refine W_region ?_
  refine WO_step 1 [0] [0, 1, 2, 7] True ⟨[(0, .one (.e (.sl 0 0 x1.length))), (1, I i2), (2, S s3), (7, I 1)], [.row .nod x1 false]⟩ (by kernel_rfl) trivial ?_
  refine WO_nil rfl ?_
  refine thenS_n ?_
  refine W_block ?_
  refine W_loop ?_
  refine bindO_e h (fun v141 hv141 h => ?_)
  refine WL_cut (spec_kid_L1_ok w X θ x1 i2 s3 v141 n 1 hv141) ?_
  rcases v141 with i119 | _
  · rintro _ _ ⟨rfl, rfl⟩
    refine blockS_r ?_
    refine thenS_r ?_
    cases h
    exact ⟨[0], True, by kernel_rfl, trivial⟩
  · rintro _ _ ⟨rfl, rfl⟩
    refine blockS_y ?_
    refine thenS_n ?_
    refine W_seq ?_
    refine W_region ?_
    refine WO_step 1 [0] [6] True ⟨[(6, I (-1))], [.row .nod x1 false]⟩ (by kernel_rfl) trivial ?_
    refine WO_nil rfl ?_
    refine thenS_n ?_
    refine W_ret ?_
    cases h
    exact ⟨[0], True, by kernel_rfl, trivial⟩

/- spec.depth -/
def spec_depth_L1 (x1 : List Nod) : Nat → Int → Int → Option (Int)
| 0, _, _ => none
| n + 1, i42, i43 =>
 guardO (0 ≤ i42 ∧ i42 < ((x1.length : Nat) : Int)) <|
 iteO (decide (0 ≤ ((x1.getD i42.toNat dnod).parent)))
 (guardO (0 ≤ i42 ∧ i42 < ((x1.length : Nat) : Int)) <|
 spec_depth_L1 x1 n ((x1.getD i42.toNat dnod).parent) (w64 (i43 + 1)))
 (some i43)

theorem spec_depth_L1_ok (w : World) (X : Nat → Prop) (θ : List Loc) (x1 : List Nod) (i51 : Int) : ∀ (n : Nat) (i42 : Int) (i43 : Int), spec_depth_L1 x1 n i42 i43 = some i51 → WL EE ⟨w, X, θ, 20, 1⟩ (subC [1, 1, 0, 4, 4] (bodyC Tryd.f63)) (fun (e : Exit) (s : St) => e = .exit 0 ∧ s = ⟨[(5, I i51)], [.row .nod x1 false]⟩) ⟨[(0, .one (.e (.sl 0 0 x1.length))), (1, I i42), (5, I i43)], [.row .nod x1 false]⟩ := by
  intro n
  induction n with
  | zero => intro _ _ h; exact none_e h
  | succ n ih =>
    intro i42 i43 h
    rw [spec_depth_L1] at h
    refine WL_round ?_
    refine W_seq ?_
    refine W_seq ?_
    refine W_region ?_
    refine guardO_e h (fun hg53 h => ?_)
    refine WO_step 6 [0] [0, 1, 5, 11] ((0 ≤ i42 ∧ i42 < ((x1.length : Nat) : Int)) ∧ (True ∧ (True ∧ True))) ⟨[(0, .one (.e (.sl 0 0 x1.length))), (1, I i42), (5, I i43), (11, B (decide (0 ≤ ((x1.getD i42.toNat dnod).parent))))], [.row .nod x1 false]⟩ (by kernel_rfl) ⟨hg53, trivial, trivial, trivial⟩ ?_
    refine WO_nil rfl ?_
    refine thenS_n ?_
    refine iteO_e h (fun hb55 h => W_true rfl hb55 ?_) (fun hb55 h => W_false rfl hb55 ?_)
    · refine W_sub [0] [0, 1, 5] (st' := ⟨[(0, .one (.e (.sl 0 0 x1.length))), (1, I i42), (5, I i43)], [.row .nod x1 false]⟩) (by kernel_rfl) ?_
      refine W_skip ?_
      refine thenS_n ?_
      refine W_block ?_
      refine W_seq ?_
      refine W_region ?_
      refine guardO_e h (fun hg57 h => ?_)
      refine WO_step 6 [0] [0, 1, 5] ((0 ≤ i42 ∧ i42 < ((x1.length : Nat) : Int)) ∧ (True ∧ True)) ⟨[(0, .one (.e (.sl 0 0 x1.length))), (1, I ((x1.getD i42.toNat dnod).parent)), (5, I i43)], [.row .nod x1 false]⟩ (by kernel_rfl) ⟨hg57, trivial, trivial⟩ ?_
      refine WO_nil rfl ?_
      refine thenS_n ?_
      refine W_region ?_
      refine WO_step 3 [0] [0, 1, 5] (True ∧ True) ⟨[(0, .one (.e (.sl 0 0 x1.length))), (1, I ((x1.getD i42.toNat dnod).parent)), (5, I (w64 (i43 + 1)))], [.row .nod x1 false]⟩ (by kernel_rfl) ⟨trivial, trivial⟩ ?_
      refine WO_nil rfl ?_
      refine blockS_n ?_
      refine thenS_n ?_
      exact ih _ _ h
    · refine W_sub [0] [5] (st' := ⟨[(5, I i43)], [.row .nod x1 false]⟩) (by kernel_rfl) ?_
      refine W_exit ?_
      refine thenS_e ?_
      refine thenS_e ?_
      cases h
      exact And.intro rfl rfl

def spec_depth (n : Nat) (x1 : List Nod) (i2 : Int) : Option (Int) :=
 bindO (spec_depth_L1 x1 n i2 0) fun i51 =>
 some i51

theorem spec_depth_ok (n : Nat) (x1 : List Nod) (i2 : Int) (i30 : Int) (h : spec_depth n x1 i2 = some i30) : FOk EE 63 [.one (.e (.sl 0 0 x1.length)), I i2] [.row .nod x1 false] (I i30) [.row .nod x1 false] := by
  unfold spec_depth at h
  refine FOk_of_W 20 1 Tryd.func63 rfl rfl (Nat.le_of_ble_eq_true rfl) rfl (fun w X θ => ?_)
  refine W_seq ?_
  refine W_region ?_
  refine WO_step 1 [0] [0, 1] True ⟨[(0, .one (.e (.sl 0 0 x1.length))), (1, I i2)], [.row .nod x1 false]⟩ (by kernel_rfl) trivial ?_
  refine WO_nil rfl ?_
  refine thenS_n ?_
  refine W_seq ?_
  refine W_region ?_
  refine WO_step 1 [0] [0, 1, 5] True ⟨[(0, .one (.e (.sl 0 0 x1.length))), (1, I i2), (5, I 0)], [.row .nod x1 false]⟩ (by kernel_rfl) trivial ?_
  refine WO_nil rfl ?_
  refine thenS_n ?_
  refine W_seq ?_
  refine W_block ?_
  refine W_loop ?_
  refine bindO_e h (fun i51 hi51 h => ?_)
  refine WL_cut (spec_depth_L1_ok w X θ x1 i51 n i2 0 hi51) ?_
  rintro _ _ ⟨rfl, rfl⟩
  refine blockS_y ?_
  refine thenS_n ?_
  refine W_seq ?_
  refine W_region ?_
  refine WO_step 2 [0] [4] True ⟨[(4, I i51)], [.row .nod x1 false]⟩ (by kernel_rfl) trivial ?_
  refine WO_nil rfl ?_
  refine thenS_n ?_
  refine W_ret ?_
  cases h
  exact ⟨[0], True, by kernel_rfl, trivial⟩

/- spec.validNode -/
def spec_validNode (n : Nat) (x1 : List Nod) (i2 : Int) : Option (Bool) :=
 guardO (0 ≤ i2 ∧ i2 < ((x1.length : Nat) : Int)) <|
 iteO (!(spec_inRange ((x1.getD i2.toNat dnod).value) (-1000) 1000))
 (some false)
 (iteO (decide (i2 = 0))
 (guardO (0 ≤ i2 ∧ i2 < ((x1.length : Nat) : Int)) <|
 bindO (iteO (decide (((x1.getD i2.toNat dnod).parent) = (-1)))
 (guardO (0 ≤ i2 ∧ i2 < ((x1.length : Nat) : Int)) <|
 some (decide (((x1.getD i2.toNat dnod).name) = [])))
 (some false)) fun b54 =>
 some b54)
 (guardO (0 ≤ i2 ∧ i2 < ((x1.length : Nat) : Int)) <|
 bindO (iteO (spec_inRange ((x1.getD i2.toNat dnod).parent) 0 (w64 (i2 - 1)))
 (guardO (0 ≤ i2 ∧ i2 < ((x1.length : Nat) : Int)) <|
 bindO (spec_validName n ((x1.getD i2.toNat dnod).name)) fun b61 =>
 iteO b61
 (guardO (0 ≤ i2 ∧ i2 ≤ ((x1.length : Nat) : Int)) <|
 guardO (0 ≤ i2 ∧ i2 < ((x1.length : Nat) : Int)) <|
 guardO (0 ≤ i2 ∧ i2 < ((x1.length : Nat) : Int)) <|
 bindO (spec_kid n ((x1.drop 0).take i2.toNat) ((x1.getD i2.toNat dnod).parent) ((x1.getD i2.toNat dnod).name)) fun i67 =>
 iteO (decide (i67 < 0))
 (bindO (spec_depth n x1 i2) fun i70 =>
 some (decide (i70 ≤ 4)))
 (some false))
 (some false))
 (some false)) fun b72 =>
 some b72))

theorem spec_validNode_ok (n : Nat) (x1 : List Nod) (i2 : Int) (b38 : Bool) (h : spec_validNode n x1 i2 = some b38) : FOk EE 51 [.one (.e (.sl 0 0 x1.length)), I i2] [.row .nod x1 false] (B b38) [.row .nod x1 false] := by
  unfold spec_validNode at h
  refine FOk_of_W 67 1 Tryd.func51 rfl rfl (Nat.le_of_ble_eq_true rfl) rfl (fun w X θ => ?_)
  refine W_seq ?_
  refine W_region ?_
  refine WO_step 1 [0] [0, 1] True ⟨[(0, .one (.e (.sl 0 0 x1.length))), (1, I i2)], [.row .nod x1 false]⟩ (by kernel_rfl) trivial ?_
  refine WO_nil rfl ?_
  refine thenS_n ?_
  refine W_seq ?_
  refine W_seq ?_
  refine W_region ?_
  refine guardO_e h (fun hg39 h => ?_)
  refine WO_step 5 [0] [0, 1, 9] ((0 ≤ i2 ∧ i2 < ((x1.length : Nat) : Int)) ∧ (True ∧ True)) ⟨[(0, .one (.e (.sl 0 0 x1.length))), (1, I i2), (9, I ((x1.getD i2.toNat dnod).value))], [.row .nod x1 false]⟩ (by kernel_rfl) ⟨hg39, trivial, trivial⟩ ?_
  refine WO_call [] Tryd.f42 rfl rfl rfl (by kernel_rfl) Tryd.func42 rfl (by kernel_rfl) (spec_inRange_ok ((x1.getD i2.toNat dnod).value) (-1000) 1000) (trivial) rfl ?_
  refine WO_step 1 [0] [0, 1, 11] True ⟨[(0, .one (.e (.sl 0 0 x1.length))), (1, I i2), (11, B (!(spec_inRange ((x1.getD i2.toNat dnod).value) (-1000) 1000)))], [.row .nod x1 false]⟩ (by kernel_rfl) trivial ?_
  refine WO_nil rfl ?_
  refine thenS_n ?_
  refine iteO_e h (fun hb41 h => W_true rfl hb41 ?_) (fun hb41 h => W_false rfl hb41 ?_)
  · refine W_seq ?_
    refine W_region ?_
    refine WO_step 1 [0] [4] True ⟨[(4, B false)], [.row .nod x1 false]⟩ (by kernel_rfl) trivial ?_
    refine WO_nil rfl ?_
    refine thenS_n ?_
    refine W_ret ?_
    refine thenS_r ?_
    cases h
    exact ⟨[0], True, by kernel_rfl, trivial⟩
  · refine W_sub [0] [0, 1] (st' := ⟨[(0, .one (.e (.sl 0 0 x1.length))), (1, I i2)], [.row .nod x1 false]⟩) (by kernel_rfl) ?_
    refine W_skip ?_
    refine thenS_n ?_
    refine W_seq ?_
    refine W_seq ?_
    refine W_region ?_
    refine WO_step 2 [0] [0, 1, 13] (True ∧ True) ⟨[(0, .one (.e (.sl 0 0 x1.length))), (1, I i2), (13, B (decide (i2 = 0)))], [.row .nod x1 false]⟩ (by kernel_rfl) ⟨trivial, trivial⟩ ?_
    refine WO_nil rfl ?_
    refine thenS_n ?_
    refine iteO_e h (fun hb50 h => W_true rfl hb50 ?_) (fun hb50 h => W_false rfl hb50 ?_)
    · refine W_seq ?_
      refine W_region ?_
      refine guardO_e h (fun hg51 h => ?_)
      refine WO_step 7 [0] [0, 1, 20] ((0 ≤ i2 ∧ i2 < ((x1.length : Nat) : Int)) ∧ (True ∧ (True ∧ True))) ⟨[(0, .one (.e (.sl 0 0 x1.length))), (1, I i2), (20, B (decide (((x1.getD i2.toNat dnod).parent) = (-1))))], [.row .nod x1 false]⟩ (by kernel_rfl) ⟨hg51, trivial, trivial, trivial⟩ ?_
      refine bindO_e h (fun b54 hv55 h => ?_)
      refine WO_thru ⟨[(4, B b54)], [.row .nod x1 false]⟩ ?_ ?_
      · refine iteO_e hv55 (fun hb56 hv55 => WO_known 20 true rfl hb56 ?_) (fun hb56 hv55 => WO_known 20 false rfl hb56 ?_)
        · refine guardO_e hv55 (fun hg57 hv55 => ?_)
          refine WO_step 8 [0] [4] ((0 ≤ i2 ∧ i2 < ((x1.length : Nat) : Int)) ∧ (True ∧ (True ∧ True))) ⟨[(4, B (decide (((x1.getD i2.toNat dnod).name) = [])))], [.row .nod x1 false]⟩ (by kernel_rfl) ⟨hg57, trivial, trivial, trivial⟩ ?_
          cases hv55
          exact WO_nil rfl ⟨rfl, rfl⟩
        · refine WO_step 8 [0] [4] True ⟨[(4, B false)], [.row .nod x1 false]⟩ (by kernel_rfl) trivial ?_
          cases hv55
          exact WO_nil rfl ⟨rfl, rfl⟩
      · refine thenS_n ?_
        refine W_ret ?_
        refine thenS_r ?_
        cases h
        exact ⟨[0], True, by kernel_rfl, trivial⟩
    · refine W_sub [0] [0, 1] (st' := ⟨[(0, .one (.e (.sl 0 0 x1.length))), (1, I i2)], [.row .nod x1 false]⟩) (by kernel_rfl) ?_
      refine W_skip ?_
      refine thenS_n ?_
      refine W_seq ?_
      refine guardO_e h (fun hg58 h => ?_)
      refine bindO_e h (fun b72 hv73 h => ?_)
      refine W_cut (Q' := fun (e : Exit) (s : St) => e = .normal ∧ s = ⟨[(4, B b72)], [.row .nod x1 false]⟩) ?_ ?_
      · refine iteO_e hv73 (fun hb59 hv73 => ?_) (fun hb59 hv73 => ?_)
        · refine guardO_e hv73 (fun hg60 hv73 => ?_)
          refine bindO_e hv73 (fun b61 hc62 hv73 => ?_)
          refine iteO_e hv73 (fun hb63 hv73 => ?_) (fun hb63 hv73 => ?_)
          · refine guardO_e hv73 (fun hg64 hv73 => ?_)
            refine guardO_e hv73 (fun hg65 hv73 => ?_)
            refine guardO_e hv73 (fun hg66 hv73 => ?_)
            refine bindO_e hv73 (fun i67 hc68 hv73 => ?_)
            refine iteO_e hv73 (fun hb69 hv73 => ?_) (fun hb69 hv73 => ?_)
            · refine bindO_e hv73 (fun i70 hc71 hv73 => ?_)
              refine W_draw [] false (by kernel_rfl) (by kernel_rfl) ?_
              refine WD_takeK [0, 1, 2, 3, 4, 5, 6] [0, 1, 32, 34] [0, 1, 32, 34] (φ := ((0 ≤ i2 ∧ i2 < ((x1.length : Nat) : Int)) ∧ (0 ≤ i2 ∧ i2 < ((x1.length : Nat) : Int)) ∧ (True ∧ True ∧ (True ∧ True ∧ True)))) (ls' := #[true, true, true, true, true, true, true, false, false, false, false, false, false, false, false, false, false, false, false, false, false, false, false, false, false, false, false, false, false, false, false, false, false, false, false, false, false, false, false, false]) (Ts' := [(0, .one (.e (.sl 0 0 x1.length))), (1, I i2), (32, I ((x1.getD i2.toNat dnod).parent)), (34, I (w64 (i2 - 1)))]) (st' := ⟨[(0, .one (.e (.sl 0 0 x1.length))), (1, I i2), (32, I ((x1.getD i2.toNat dnod).parent)), (34, I (w64 (i2 - 1)))], [.row .nod x1 false]⟩) (n2 := 33) (by kernel_rfl) ⟨hg58, hg58, trivial, trivial, trivial, trivial, trivial⟩ rfl ?_
              refine WD_all [7] (n := 32) (by kernel_rfl) rfl ?_
              refine WM_call [] Tryd.f42 rfl rfl (by kernel_rfl) Tryd.func42 rfl (by kernel_rfl) (spec_inRange_ok ((x1.getD i2.toNat dnod).parent) 0 (w64 (i2 - 1))) (trivial) rfl (And.intro rfl (trivial)) ?_
              refine WD_takeK [8] [0, 1, 36] [0, 1, 36] (φ := True) (ls' := #[true, true, true, true, true, true, true, true, true, false, false, false, false, false, false, false, false, false, false, false, false, false, false, false, false, false, false, false, false, false, false, false, false, false, false, false, false, false, false, false]) (Ts' := [(0, .one (.e (.sl 0 0 x1.length))), (1, I i2), (36, B (spec_inRange ((x1.getD i2.toNat dnod).parent) 0 (w64 (i2 - 1))))]) (st' := ⟨[(0, .one (.e (.sl 0 0 x1.length))), (1, I i2), (36, B (spec_inRange ((x1.getD i2.toNat dnod).parent) 0 (w64 (i2 - 1))))], [.row .nod x1 false]⟩) (n2 := 31) (by kernel_rfl) trivial rfl ?_
              refine WD_known 36 true rfl rfl hb59 ?_
              refine WD_takeK [9, 10, 11, 12, 13] [0, 1, 36, 41] [0, 1, 36, 41] (φ := ((0 ≤ i2 ∧ i2 < ((x1.length : Nat) : Int)) ∧ (0 ≤ i2 ∧ i2 < ((x1.length : Nat) : Int)) ∧ (True ∧ True ∧ True))) (ls' := #[true, true, true, true, true, true, true, true, true, true, true, true, true, true, false, false, false, false, false, false, false, false, false, false, false, false, false, false, false, false, false, false, false, false, false, false, false, false, false, false]) (Ts' := [(0, .one (.e (.sl 0 0 x1.length))), (1, I i2), (36, B true), (41, S ((x1.getD i2.toNat dnod).name))]) (st' := ⟨[(0, .one (.e (.sl 0 0 x1.length))), (1, I i2), (36, B true), (41, S ((x1.getD i2.toNat dnod).name))], [.row .nod x1 false]⟩) (n2 := 26) (by kernel_rfl) ⟨hg60, hg60, trivial, trivial, trivial⟩ rfl ?_
              refine WD_all [14] (n := 25) (by kernel_rfl) rfl ?_
              refine WM_call [] Tryd.f61 rfl rfl (by kernel_rfl) Tryd.func61 rfl (by kernel_rfl) (spec_validName_ok n ((x1.getD i2.toNat dnod).name) b61 hc62) (trivial) rfl (And.intro rfl (trivial)) ?_
              refine WD_takeK [15, 16] [0, 1, 44] [0, 1, 44] (φ := True) (ls' := #[true, true, true, true, true, true, true, true, true, true, true, true, true, true, true, true, true, false, false, false, false, false, false, false, false, false, false, false, false, false, false, false, false, false, false, false, false, false, false, false]) (Ts' := [(0, .one (.e (.sl 0 0 x1.length))), (1, I i2), (44, B b61)]) (st' := ⟨[(0, .one (.e (.sl 0 0 x1.length))), (1, I i2), (44, B b61)], [.row .nod x1 false]⟩) (n2 := 23) (by kernel_rfl) trivial rfl ?_
              refine WD_known 44 true rfl rfl hb63 ?_
              refine WD_takeK [17, 18, 20, 21, 22, 23, 24, 25, 26, 27, 28, 29] [0, 1, 44, 45, 46, 52, 57] [0, 1, 44, 45, 46, 52, 57] (φ := ((0 ≤ i2 ∧ i2 < ((x1.length : Nat) : Int)) ∧ (0 ≤ i2 ∧ i2 < ((x1.length : Nat) : Int)) ∧ (True ∧ True ∧ ((0 ≤ i2 ∧ i2 < ((x1.length : Nat) : Int)) ∧ (0 ≤ i2 ∧ i2 < ((x1.length : Nat) : Int)) ∧ (True ∧ True ∧ True))))) (ls' := #[true, true, true, true, true, true, true, true, true, true, true, true, true, true, true, true, true, true, true, false, true, true, true, true, true, true, true, true, true, true, false, false, false, false, false, false, false, false, false, false]) (Ts' := [(0, .one (.e (.sl 0 0 x1.length))), (1, I i2), (44, B true), (45, .one (.e (.sl 0 0 x1.length))), (46, I i2), (52, I ((x1.getD i2.toNat dnod).parent)), (57, S ((x1.getD i2.toNat dnod).name))]) (st' := ⟨[(0, .one (.e (.sl 0 0 x1.length))), (1, I i2), (44, B true), (45, .one (.e (.sl 0 0 x1.length))), (46, I i2), (52, I ((x1.getD i2.toNat dnod).parent)), (57, S ((x1.getD i2.toNat dnod).name))], [.row .nod x1 false]⟩) (n2 := 11) (by kernel_rfl) ⟨hg65, hg65, trivial, trivial, hg66, hg66, trivial, trivial, trivial⟩ rfl ?_
              refine WD_all [19] (n := 10) (by kernel_rfl) rfl ?_
              refine WM_op (φ := 0 ≤ i2 ∧ i2 ≤ ((x1.length : Nat) : Int)) (v := .one (.e (.sl 0 0 i2.toNat))) (H' := [.row .nod x1 false]) rfl rfl (by kernel_rfl) hg64 rfl (And.intro rfl (trivial)) ?_
              refine WD_all [30] (n := 9) (by kernel_rfl) rfl ?_
              refine WM_call [.view 0] Tryd.f62 rfl rfl (by kernel_rfl) Tryd.func62 rfl (by kernel_rfl) (spec_kid_ok n ((x1.drop 0).take i2.toNat) ((x1.getD i2.toNat dnod).parent) ((x1.getD i2.toNat dnod).name) i67 hc68) (trivial) rfl (And.intro rfl (trivial)) ?_
              refine WD_takeK [31, 32, 33] [0, 1, 61] [0, 1, 61] (φ := (True ∧ True ∧ True)) (ls' := #[true, true, true, true, true, true, true, true, true, true, true, true, true, true, true, true, true, true, true, true, true, true, true, true, true, true, true, true, true, true, true, true, true, true, false, false, false, false, false, false]) (Ts' := [(0, .one (.e (.sl 0 0 x1.length))), (1, I i2), (61, B (decide (i67 < 0)))]) (st' := ⟨[(0, .one (.e (.sl 0 0 x1.length))), (1, I i2), (61, B (decide (i67 < 0)))], [.row .nod x1 false]⟩) (n2 := 6) (by kernel_rfl) ⟨trivial, trivial, trivial⟩ rfl ?_
              refine WD_known 61 true rfl rfl hb69 ?_
              refine WD_takeK [34, 35] [61, 62, 63] [61, 62, 63] (φ := True) (ls' := #[true, true, true, true, true, true, true, true, true, true, true, true, true, true, true, true, true, true, true, true, true, true, true, true, true, true, true, true, true, true, true, true, true, true, true, true, false, false, false, false]) (Ts' := [(61, B true), (62, .one (.e (.sl 0 0 x1.length))), (63, I i2)]) (st' := ⟨[(61, B true), (62, .one (.e (.sl 0 0 x1.length))), (63, I i2)], [.row .nod x1 false]⟩) (n2 := 4) (by kernel_rfl) trivial rfl ?_
              refine WD_all [36] (n := 3) (by kernel_rfl) rfl ?_
              refine WM_call [.ro 0] Tryd.f63 rfl rfl (by kernel_rfl) Tryd.func63 rfl (by kernel_rfl) (spec_depth_ok n x1 i2 i70 hc71) (And.intro (And.intro rfl rfl) (trivial)) rfl (And.intro rfl (trivial)) ?_
              refine WD_takeK [37, 38, 39] [4] [4] (φ := (True ∧ True ∧ True)) (ls' := #[true, true, true, true, true, true, true, true, true, true, true, true, true, true, true, true, true, true, true, true, true, true, true, true, true, true, true, true, true, true, true, true, true, true, true, true, true, true, true, true]) (Ts' := [(4, B (decide (i70 ≤ 4)))]) (st' := ⟨[(4, B (decide (i70 ≤ 4)))], [.row .nod x1 false]⟩) (n2 := 0) (by kernel_rfl) ⟨trivial, trivial, trivial⟩ rfl ?_
              exact WD_done [0] [4] (st' := ⟨[(4, B (decide (i70 ≤ 4)))], [.row .nod x1 false]⟩) (by kernel_rfl) (by kernel_rfl) (And.intro rfl (by cases hv73; rfl))
            · refine W_draw [] false (by kernel_rfl) (by kernel_rfl) ?_
              refine WD_takeK [0, 1, 2, 3, 4, 5, 6] [0, 1, 32, 34] [0, 1, 32, 34] (φ := ((0 ≤ i2 ∧ i2 < ((x1.length : Nat) : Int)) ∧ (0 ≤ i2 ∧ i2 < ((x1.length : Nat) : Int)) ∧ (True ∧ True ∧ (True ∧ True ∧ True)))) (ls' := #[true, true, true, true, true, true, true, false, false, false, false, false, false, false, false, false, false, false, false, false, false, false, false, false, false, false, false, false, false, false, false, false, false, false, false, false, false, false, false, false]) (Ts' := [(0, .one (.e (.sl 0 0 x1.length))), (1, I i2), (32, I ((x1.getD i2.toNat dnod).parent)), (34, I (w64 (i2 - 1)))]) (st' := ⟨[(0, .one (.e (.sl 0 0 x1.length))), (1, I i2), (32, I ((x1.getD i2.toNat dnod).parent)), (34, I (w64 (i2 - 1)))], [.row .nod x1 false]⟩) (n2 := 33) (by kernel_rfl) ⟨hg58, hg58, trivial, trivial, trivial, trivial, trivial⟩ rfl ?_
              refine WD_all [7] (n := 32) (by kernel_rfl) rfl ?_
              refine WM_call [] Tryd.f42 rfl rfl (by kernel_rfl) Tryd.func42 rfl (by kernel_rfl) (spec_inRange_ok ((x1.getD i2.toNat dnod).parent) 0 (w64 (i2 - 1))) (trivial) rfl (And.intro rfl (trivial)) ?_
              refine WD_takeK [8] [0, 1, 36] [0, 1, 36] (φ := True) (ls' := #[true, true, true, true, true, true, true, true, true, false, false, false, false, false, false, false, false, false, false, false, false, false, false, false, false, false, false, false, false, false, false, false, false, false, false, false, false, false, false, false]) (Ts' := [(0, .one (.e (.sl 0 0 x1.length))), (1, I i2), (36, B (spec_inRange ((x1.getD i2.toNat dnod).parent) 0 (w64 (i2 - 1))))]) (st' := ⟨[(0, .one (.e (.sl 0 0 x1.length))), (1, I i2), (36, B (spec_inRange ((x1.getD i2.toNat dnod).parent) 0 (w64 (i2 - 1))))], [.row .nod x1 false]⟩) (n2 := 31) (by kernel_rfl) trivial rfl ?_
              refine WD_known 36 true rfl rfl hb59 ?_
              refine WD_takeK [9, 10, 11, 12, 13] [0, 1, 36, 41] [0, 1, 36, 41] (φ := ((0 ≤ i2 ∧ i2 < ((x1.length : Nat) : Int)) ∧ (0 ≤ i2 ∧ i2 < ((x1.length : Nat) : Int)) ∧ (True ∧ True ∧ True))) (ls' := #[true, true, true, true, true, true, true, true, true, true, true, true, true, true, false, false, false, false, false, false, false, false, false, false, false, false, false, false, false, false, false, false, false, false, false, false, false, false, false, false]) (Ts' := [(0, .one (.e (.sl 0 0 x1.length))), (1, I i2), (36, B true), (41, S ((x1.getD i2.toNat dnod).name))]) (st' := ⟨[(0, .one (.e (.sl 0 0 x1.length))), (1, I i2), (36, B true), (41, S ((x1.getD i2.toNat dnod).name))], [.row .nod x1 false]⟩) (n2 := 26) (by kernel_rfl) ⟨hg60, hg60, trivial, trivial, trivial⟩ rfl ?_
              refine WD_all [14] (n := 25) (by kernel_rfl) rfl ?_
              refine WM_call [] Tryd.f61 rfl rfl (by kernel_rfl) Tryd.func61 rfl (by kernel_rfl) (spec_validName_ok n ((x1.getD i2.toNat dnod).name) b61 hc62) (trivial) rfl (And.intro rfl (trivial)) ?_
              refine WD_takeK [15, 16] [0, 1, 44] [0, 1, 44] (φ := True) (ls' := #[true, true, true, true, true, true, true, true, true, true, true, true, true, true, true, true, true, false, false, false, false, false, false, false, false, false, false, false, false, false, false, false, false, false, false, false, false, false, false, false]) (Ts' := [(0, .one (.e (.sl 0 0 x1.length))), (1, I i2), (44, B b61)]) (st' := ⟨[(0, .one (.e (.sl 0 0 x1.length))), (1, I i2), (44, B b61)], [.row .nod x1 false]⟩) (n2 := 23) (by kernel_rfl) trivial rfl ?_
              refine WD_known 44 true rfl rfl hb63 ?_
              refine WD_takeK [17, 18, 20, 21, 22, 23, 24, 25, 26, 27, 28, 29] [0, 1, 44, 45, 46, 52, 57] [0, 1, 44, 45, 46, 52, 57] (φ := ((0 ≤ i2 ∧ i2 < ((x1.length : Nat) : Int)) ∧ (0 ≤ i2 ∧ i2 < ((x1.length : Nat) : Int)) ∧ (True ∧ True ∧ ((0 ≤ i2 ∧ i2 < ((x1.length : Nat) : Int)) ∧ (0 ≤ i2 ∧ i2 < ((x1.length : Nat) : Int)) ∧ (True ∧ True ∧ True))))) (ls' := #[true, true, true, true, true, true, true, true, true, true, true, true, true, true, true, true, true, true, true, false, true, true, true, true, true, true, true, true, true, true, false, false, false, false, false, false, false, false, false, false]) (Ts' := [(0, .one (.e (.sl 0 0 x1.length))), (1, I i2), (44, B true), (45, .one (.e (.sl 0 0 x1.length))), (46, I i2), (52, I ((x1.getD i2.toNat dnod).parent)), (57, S ((x1.getD i2.toNat dnod).name))]) (st' := ⟨[(0, .one (.e (.sl 0 0 x1.length))), (1, I i2), (44, B true), (45, .one (.e (.sl 0 0 x1.length))), (46, I i2), (52, I ((x1.getD i2.toNat dnod).parent)), (57, S ((x1.getD i2.toNat dnod).name))], [.row .nod x1 false]⟩) (n2 := 11) (by kernel_rfl) ⟨hg65, hg65, trivial, trivial, hg66, hg66, trivial, trivial, trivial⟩ rfl ?_
              refine WD_all [19] (n := 10) (by kernel_rfl) rfl ?_
              refine WM_op (φ := 0 ≤ i2 ∧ i2 ≤ ((x1.length : Nat) : Int)) (v := .one (.e (.sl 0 0 i2.toNat))) (H' := [.row .nod x1 false]) rfl rfl (by kernel_rfl) hg64 rfl (And.intro rfl (trivial)) ?_
              refine WD_all [30] (n := 9) (by kernel_rfl) rfl ?_
              refine WM_call [.view 0] Tryd.f62 rfl rfl (by kernel_rfl) Tryd.func62 rfl (by kernel_rfl) (spec_kid_ok n ((x1.drop 0).take i2.toNat) ((x1.getD i2.toNat dnod).parent) ((x1.getD i2.toNat dnod).name) i67 hc68) (trivial) rfl (And.intro rfl (trivial)) ?_
              refine WD_takeK [31, 32, 33] [0, 1, 61] [0, 1, 61] (φ := (True ∧ True ∧ True)) (ls' := #[true, true, true, true, true, true, true, true, true, true, true, true, true, true, true, true, true, true, true, true, true, true, true, true, true, true, true, true, true, true, true, true, true, true, false, false, false, false, false, false]) (Ts' := [(0, .one (.e (.sl 0 0 x1.length))), (1, I i2), (61, B (decide (i67 < 0)))]) (st' := ⟨[(0, .one (.e (.sl 0 0 x1.length))), (1, I i2), (61, B (decide (i67 < 0)))], [.row .nod x1 false]⟩) (n2 := 6) (by kernel_rfl) ⟨trivial, trivial, trivial⟩ rfl ?_
              refine WD_known 61 false rfl rfl hb69 ?_
              refine WD_takeK [34, 35, 36, 37, 38, 39] [4] [4] (φ := True) (ls' := #[true, true, true, true, true, true, true, true, true, true, true, true, true, true, true, true, true, true, true, true, true, true, true, true, true, true, true, true, true, true, true, true, true, true, true, true, true, true, true, true]) (Ts' := [(4, B false)]) (st' := ⟨[(4, B false)], [.row .nod x1 false]⟩) (n2 := 0) (by kernel_rfl) trivial rfl ?_
              exact WD_done [0] [4] (st' := ⟨[(4, B false)], [.row .nod x1 false]⟩) (by kernel_rfl) (by kernel_rfl) (And.intro rfl (by cases hv73; rfl))
          · refine W_draw [] false (by kernel_rfl) (by kernel_rfl) ?_
            refine WD_takeK [0, 1, 2, 3, 4, 5, 6] [0, 1, 32, 34] [0, 1, 32, 34] (φ := ((0 ≤ i2 ∧ i2 < ((x1.length : Nat) : Int)) ∧ (0 ≤ i2 ∧ i2 < ((x1.length : Nat) : Int)) ∧ (True ∧ True ∧ (True ∧ True ∧ True)))) (ls' := #[true, true, true, true, true, true, true, false, false, false, false, false, false, false, false, false, false, false, false, false, false, false, false, false, false, false, false, false, false, false, false, false, false, false, false, false, false, false, false, false]) (Ts' := [(0, .one (.e (.sl 0 0 x1.length))), (1, I i2), (32, I ((x1.getD i2.toNat dnod).parent)), (34, I (w64 (i2 - 1)))]) (st' := ⟨[(0, .one (.e (.sl 0 0 x1.length))), (1, I i2), (32, I ((x1.getD i2.toNat dnod).parent)), (34, I (w64 (i2 - 1)))], [.row .nod x1 false]⟩) (n2 := 33) (by kernel_rfl) ⟨hg58, hg58, trivial, trivial, trivial, trivial, trivial⟩ rfl ?_
            refine WD_all [7] (n := 32) (by kernel_rfl) rfl ?_
            refine WM_call [] Tryd.f42 rfl rfl (by kernel_rfl) Tryd.func42 rfl (by kernel_rfl) (spec_inRange_ok ((x1.getD i2.toNat dnod).parent) 0 (w64 (i2 - 1))) (trivial) rfl (And.intro rfl (trivial)) ?_
            refine WD_takeK [8] [0, 1, 36] [0, 1, 36] (φ := True) (ls' := #[true, true, true, true, true, true, true, true, true, false, false, false, false, false, false, false, false, false, false, false, false, false, false, false, false, false, false, false, false, false, false, false, false, false, false, false, false, false, false, false]) (Ts' := [(0, .one (.e (.sl 0 0 x1.length))), (1, I i2), (36, B (spec_inRange ((x1.getD i2.toNat dnod).parent) 0 (w64 (i2 - 1))))]) (st' := ⟨[(0, .one (.e (.sl 0 0 x1.length))), (1, I i2), (36, B (spec_inRange ((x1.getD i2.toNat dnod).parent) 0 (w64 (i2 - 1))))], [.row .nod x1 false]⟩) (n2 := 31) (by kernel_rfl) trivial rfl ?_
            refine WD_known 36 true rfl rfl hb59 ?_
            refine WD_takeK [9, 10, 11, 12, 13] [0, 1, 36, 41] [0, 1, 36, 41] (φ := ((0 ≤ i2 ∧ i2 < ((x1.length : Nat) : Int)) ∧ (0 ≤ i2 ∧ i2 < ((x1.length : Nat) : Int)) ∧ (True ∧ True ∧ True))) (ls' := #[true, true, true, true, true, true, true, true, true, true, true, true, true, true, false, false, false, false, false, false, false, false, false, false, false, false, false, false, false, false, false, false, false, false, false, false, false, false, false, false]) (Ts' := [(0, .one (.e (.sl 0 0 x1.length))), (1, I i2), (36, B true), (41, S ((x1.getD i2.toNat dnod).name))]) (st' := ⟨[(0, .one (.e (.sl 0 0 x1.length))), (1, I i2), (36, B true), (41, S ((x1.getD i2.toNat dnod).name))], [.row .nod x1 false]⟩) (n2 := 26) (by kernel_rfl) ⟨hg60, hg60, trivial, trivial, trivial⟩ rfl ?_
            refine WD_all [14] (n := 25) (by kernel_rfl) rfl ?_
            refine WM_call [] Tryd.f61 rfl rfl (by kernel_rfl) Tryd.func61 rfl (by kernel_rfl) (spec_validName_ok n ((x1.getD i2.toNat dnod).name) b61 hc62) (trivial) rfl (And.intro rfl (trivial)) ?_
            refine WD_takeK [15, 16] [0, 1, 44] [0, 1, 44] (φ := True) (ls' := #[true, true, true, true, true, true, true, true, true, true, true, true, true, true, true, true, true, false, false, false, false, false, false, false, false, false, false, false, false, false, false, false, false, false, false, false, false, false, false, false]) (Ts' := [(0, .one (.e (.sl 0 0 x1.length))), (1, I i2), (44, B b61)]) (st' := ⟨[(0, .one (.e (.sl 0 0 x1.length))), (1, I i2), (44, B b61)], [.row .nod x1 false]⟩) (n2 := 23) (by kernel_rfl) trivial rfl ?_
            refine WD_known 44 false rfl rfl hb63 ?_
            refine WD_takeK [17, 18, 19, 20, 21, 22, 23, 24, 25, 26, 27, 28, 29, 30, 31, 32, 33, 34, 35, 36, 37, 38, 39] [4] [4] (φ := True) (ls' := #[true, true, true, true, true, true, true, true, true, true, true, true, true, true, true, true, true, true, true, true, true, true, true, true, true, true, true, true, true, true, true, true, true, true, true, true, true, true, true, true]) (Ts' := [(4, B false)]) (st' := ⟨[(4, B false)], [.row .nod x1 false]⟩) (n2 := 0) (by kernel_rfl) trivial rfl ?_
            exact WD_done [0] [4] (st' := ⟨[(4, B false)], [.row .nod x1 false]⟩) (by kernel_rfl) (by kernel_rfl) (And.intro rfl (by cases hv73; rfl))
        · refine W_draw [] false (by kernel_rfl) (by kernel_rfl) ?_
          refine WD_takeK [0, 1, 2, 3, 4, 5, 6] [0, 1, 32, 34] [0, 1, 32, 34] (φ := ((0 ≤ i2 ∧ i2 < ((x1.length : Nat) : Int)) ∧ (0 ≤ i2 ∧ i2 < ((x1.length : Nat) : Int)) ∧ (True ∧ True ∧ (True ∧ True ∧ True)))) (ls' := #[true, true, true, true, true, true, true, false, false, false, false, false, false, false, false, false, false, false, false, false, false, false, false, false, false, false, false, false, false, false, false, false, false, false, false, false, false, false, false, false]) (Ts' := [(0, .one (.e (.sl 0 0 x1.length))), (1, I i2), (32, I ((x1.getD i2.toNat dnod).parent)), (34, I (w64 (i2 - 1)))]) (st' := ⟨[(0, .one (.e (.sl 0 0 x1.length))), (1, I i2), (32, I ((x1.getD i2.toNat dnod).parent)), (34, I (w64 (i2 - 1)))], [.row .nod x1 false]⟩) (n2 := 33) (by kernel_rfl) ⟨hg58, hg58, trivial, trivial, trivial, trivial, trivial⟩ rfl ?_
          refine WD_all [7] (n := 32) (by kernel_rfl) rfl ?_
          refine WM_call [] Tryd.f42 rfl rfl (by kernel_rfl) Tryd.func42 rfl (by kernel_rfl) (spec_inRange_ok ((x1.getD i2.toNat dnod).parent) 0 (w64 (i2 - 1))) (trivial) rfl (And.intro rfl (trivial)) ?_
          refine WD_takeK [8] [0, 1, 36] [0, 1, 36] (φ := True) (ls' := #[true, true, true, true, true, true, true, true, true, false, false, false, false, false, false, false, false, false, false, false, false, false, false, false, false, false, false, false, false, false, false, false, false, false, false, false, false, false, false, false]) (Ts' := [(0, .one (.e (.sl 0 0 x1.length))), (1, I i2), (36, B (spec_inRange ((x1.getD i2.toNat dnod).parent) 0 (w64 (i2 - 1))))]) (st' := ⟨[(0, .one (.e (.sl 0 0 x1.length))), (1, I i2), (36, B (spec_inRange ((x1.getD i2.toNat dnod).parent) 0 (w64 (i2 - 1))))], [.row .nod x1 false]⟩) (n2 := 31) (by kernel_rfl) trivial rfl ?_
          refine WD_known 36 false rfl rfl hb59 ?_
          refine WD_takeK [9, 10, 11, 12, 13, 14, 15, 16, 17, 18, 19, 20, 21, 22, 23, 24, 25, 26, 27, 28, 29, 30, 31, 32, 33, 34, 35, 36, 37, 38, 39] [4] [4] (φ := True) (ls' := #[true, true, true, true, true, true, true, true, true, true, true, true, true, true, true, true, true, true, true, true, true, true, true, true, true, true, true, true, true, true, true, true, true, true, true, true, true, true, true, true]) (Ts' := [(4, B false)]) (st' := ⟨[(4, B false)], [.row .nod x1 false]⟩) (n2 := 0) (by kernel_rfl) trivial rfl ?_
          exact WD_done [0] [4] (st' := ⟨[(4, B false)], [.row .nod x1 false]⟩) (by kernel_rfl) (by kernel_rfl) (And.intro rfl (by cases hv73; rfl))
      · rintro _ _ ⟨rfl, rfl⟩
        refine thenS_n ?_
        refine W_ret ?_
        cases h
        exact ⟨[0], True, by kernel_rfl, trivial⟩

/- spec.validTree -/
def spec_validTree_L1 (x1 : List Nod) : Nat → Int → Option ((Unit) ⊕ (Unit))
| 0, _ => none
| n + 1, i52 =>
 iteO (decide (i52 < ((x1.length : Nat) : Int)))
 (bindO (spec_validNode n x1 i52) fun b71 =>
 iteO (!b71)
 (some (.inl ()))
 (spec_validTree_L1 x1 n (w64 (i52 + 1))))
 (some (.inr ()))

theorem spec_validTree_L1_ok (w : World) (X : Nat → Prop) (θ : List Loc) (x1 : List Nod) (v : (Unit) ⊕ (Unit)) : ∀ (n : Nat) (i52 : Int), spec_validTree_L1 x1 n i52 = some v → WL EE ⟨w, X, θ, 17, 1⟩ (subC [1, 0, 1, 4, 4] (bodyC Tryd.f35)) (fun (e : Exit) (s : St) => (match v with | (.inl _) => e = .ret ∧ s = ⟨[(2, B false)], [.row .nod x1 false]⟩ | (.inr _) => e = .exit 0 ∧ s = ⟨[(0, .one (.e (.sl 0 0 x1.length)))], [.row .nod x1 false]⟩ : Prop)) ⟨[(0, .one (.e (.sl 0 0 x1.length))), (3, I i52)], [.row .nod x1 false]⟩ := by
  intro n
  induction n with
  | zero => intro _ h; exact none_e h
  | succ n ih =>
    intro i52 h
    rw [spec_validTree_L1] at h
    refine WL_round ?_
    refine W_seq ?_
    refine W_seq ?_
    refine W_region ?_
    refine WO_step 4 [0] [0, 3, 7] (True ∧ (True ∧ True)) ⟨[(0, .one (.e (.sl 0 0 x1.length))), (3, I i52), (7, B (decide (i52 < ((x1.length : Nat) : Int))))], [.row .nod x1 false]⟩ (by kernel_rfl) ⟨trivial, trivial, trivial⟩ ?_
    refine WO_nil rfl ?_
    refine thenS_n ?_
    refine iteO_e h (fun hb66 h => W_true rfl hb66 ?_) (fun hb66 h => W_false rfl hb66 ?_)
    · refine W_sub [0] [0, 3] (st' := ⟨[(0, .one (.e (.sl 0 0 x1.length))), (3, I i52)], [.row .nod x1 false]⟩) (by kernel_rfl) ?_
      refine W_skip ?_
      refine thenS_n ?_
      refine W_seq ?_
      refine W_block ?_
      refine W_seq ?_
      refine W_region ?_
      refine WO_step 2 [0] [0, 3, 10, 11] True ⟨[(0, .one (.e (.sl 0 0 x1.length))), (3, I i52), (10, .one (.e (.sl 0 0 x1.length))), (11, I i52)], [.row .nod x1 false]⟩ (by kernel_rfl) trivial ?_
      refine bindO_e h (fun b71 hc72 h => ?_)
      refine WO_call [.ro 0] Tryd.f51 rfl rfl rfl (by kernel_rfl) Tryd.func51 rfl (by kernel_rfl) (spec_validNode_ok n x1 i52 b71 hc72) (And.intro (And.intro rfl rfl) (trivial)) rfl ?_
      refine WO_step 1 [0] [0, 3, 13] True ⟨[(0, .one (.e (.sl 0 0 x1.length))), (3, I i52), (13, B (!b71))], [.row .nod x1 false]⟩ (by kernel_rfl) trivial ?_
      refine WO_nil rfl ?_
      refine thenS_n ?_
      refine iteO_e h (fun hb74 h => W_true rfl hb74 ?_) (fun hb74 h => W_false rfl hb74 ?_)
      · refine W_seq ?_
        refine W_region ?_
        refine WO_step 1 [0] [2] True ⟨[(2, B false)], [.row .nod x1 false]⟩ (by kernel_rfl) trivial ?_
        refine WO_nil rfl ?_
        refine thenS_n ?_
        refine W_ret ?_
        refine blockS_r ?_
        refine thenS_r ?_
        refine thenS_r ?_
        cases h
        exact And.intro rfl rfl
      · refine W_sub [0] [0, 3] (st' := ⟨[(0, .one (.e (.sl 0 0 x1.length))), (3, I i52)], [.row .nod x1 false]⟩) (by kernel_rfl) ?_
        refine W_skip ?_
        refine blockS_n ?_
        refine thenS_n ?_
        refine W_region ?_
        refine WO_step 3 [0] [0, 3] (True ∧ True) ⟨[(0, .one (.e (.sl 0 0 x1.length))), (3, I (w64 (i52 + 1)))], [.row .nod x1 false]⟩ (by kernel_rfl) ⟨trivial, trivial⟩ ?_
        refine WO_nil rfl ?_
        refine thenS_n ?_
        exact ih _ h
    · refine W_sub [0] [0] (st' := ⟨[(0, .one (.e (.sl 0 0 x1.length)))], [.row .nod x1 false]⟩) (by kernel_rfl) ?_
      refine W_exit ?_
      refine thenS_e ?_
      refine thenS_e ?_
      cases h
      exact And.intro rfl rfl

def spec_validTree (n : Nat) (x1 : List Nod) : Option (Bool) :=
 bindO (spec_validTree_L1 x1 n 0) fun v75 =>
 match v75 with
 | (.inl _) => (some false)
 | (.inr _) => (some (spec_inRange ((x1.length : Nat) : Int) 1 12))


theorem spec_validTree_ok (n : Nat) (x1 : List Nod) (b38 : Bool) (h : spec_validTree n x1 = some b38) : FOk EE 35 [.one (.e (.sl 0 0 x1.length))] [.row .nod x1 false] (B b38) [.row .nod x1 false] := by
  unfold spec_validTree at h
  refine FOk_of_W 17 1 Tryd.func35 rfl rfl (Nat.le_of_ble_eq_true rfl) rfl (fun w X θ => ?_)
  refine W_seq ?_
  refine W_region ?_
  refine WO_step 1 [0] [0] True ⟨[(0, .one (.e (.sl 0 0 x1.length)))], [.row .nod x1 false]⟩ (by kernel_rfl) trivial ?_
  refine WO_nil rfl ?_
  refine thenS_n ?_
  refine W_seq ?_
  refine W_seq ?_
  refine W_region ?_
  refine WO_step 1 [0] [0, 3] True ⟨[(0, .one (.e (.sl 0 0 x1.length))), (3, I 0)], [.row .nod x1 false]⟩ (by kernel_rfl) trivial ?_
  refine WO_nil rfl ?_
  refine thenS_n ?_
  refine W_block ?_
  refine W_loop ?_
  refine bindO_e h (fun v75 hv75 h => ?_)
  refine WL_cut (spec_validTree_L1_ok w X θ x1 v75 n 0 hv75) ?_
  rcases v75 with _ | _
  · rintro _ _ ⟨rfl, rfl⟩
    refine blockS_r ?_
    refine thenS_r ?_
    cases h
    exact ⟨[0], True, by kernel_rfl, trivial⟩
  · rintro _ _ ⟨rfl, rfl⟩
    refine blockS_y ?_
    refine thenS_n ?_
    refine W_seq ?_
    refine W_region ?_
    refine WO_step 2 [0] [15] (True ∧ True) ⟨[(15, I ((x1.length : Nat) : Int))], [.row .nod x1 false]⟩ (by kernel_rfl) ⟨trivial, trivial⟩ ?_
    refine WO_call [] Tryd.f42 rfl rfl rfl (by kernel_rfl) Tryd.func42 rfl (by kernel_rfl) (spec_inRange_ok ((x1.length : Nat) : Int) 1 12) (trivial) rfl ?_
    refine WO_step 1 [0] [2] True ⟨[(2, B (spec_inRange ((x1.length : Nat) : Int) 1 12))], [.row .nod x1 false]⟩ (by kernel_rfl) trivial ?_
    refine WO_nil rfl ?_
    refine thenS_n ?_
    refine W_ret ?_
    cases h
    exact ⟨[0], True, by kernel_rfl, trivial⟩

/- spec.AddNode -/
def spec_AddNode (n : Nat) (x1 : List Nod) (i2 : Int) (s3 : Str) (i4 : Int) : Option ((List Nod) × Int × Bool) :=
 bindO (spec_validTree n x1) fun b21 =>
 iteO ((!b21) || (decide (((x1.length : Nat) : Int) = 12)))
 (some (([] : List Nod), (-1), false))
 (guardO (0 = 0 ∧ ([] : List Nod).length = ([] : List Nod).length ∧ ([] : List Nod).length + ((x1.drop 0).take x1.length).length ≤ 1099511627776) <|
 guardO (0 = 0 ∧ (([] : List Nod) ++ ((x1.drop 0).take x1.length)).length = (([] : List Nod) ++ ((x1.drop 0).take x1.length)).length ∧ (([] : List Nod) ++ ((x1.drop 0).take x1.length)).length + (([(⟨i2, s3, i4⟩ : Nod)].drop 0).take ([(⟨i2, s3, i4⟩ : Nod)].length)).length ≤ 1099511627776) <|
 bindO (spec_validTree n ((([] : List Nod) ++ ((x1.drop 0).take x1.length)) ++ (([(⟨i2, s3, i4⟩ : Nod)].drop 0).take ([(⟨i2, s3, i4⟩ : Nod)].length)))) fun b30 =>
 iteO (!b30)
 (some (([] : List Nod), (-1), false))
 (some (((([] : List Nod) ++ ((x1.drop 0).take x1.length)) ++ (([(⟨i2, s3, i4⟩ : Nod)].drop 0).take ([(⟨i2, s3, i4⟩ : Nod)].length))), ((x1.length : Nat) : Int), true)))

theorem spec_AddNode_ok (n : Nat) (x1 : List Nod) (i2 : Int) (s3 : Str) (i4 : Int) (x18 : List Nod) (i19 : Int) (b20 : Bool) (h : spec_AddNode n x1 i2 s3 i4 = some (x18, i19, b20)) : FOk EE 68 [.one (.e (.sl 0 0 x1.length)), I i2, S s3, I i4] [.row .nod x1 false] (.tup [.e (.sl 1 0 x18.length), .e (cI i19), .e (cB b20)]) [.row .nod x1 false, .row .nod x18 true] := by
  unfold spec_AddNode at h
  refine FOk_of_W 35 1 Tryd.func68 rfl rfl (Nat.le_of_ble_eq_true rfl) rfl (fun w X θ => ?_)
  refine W_seq ?_
  refine W_region ?_
  refine WO_step 3 [0] [0, 1, 2, 3] True ⟨[(0, .one (.e (.sl 0 0 x1.length))), (1, I i2), (2, S s3), (3, I i4)], [.row .nod x1 false]⟩ (by kernel_rfl) trivial ?_
  refine WO_nil rfl ?_
  refine thenS_n ?_
  refine W_seq ?_
  refine W_seq ?_
  refine W_region ?_
  refine WO_step 1 [0] [0, 1, 2, 3, 12] True ⟨[(0, .one (.e (.sl 0 0 x1.length))), (1, I i2), (2, S s3), (3, I i4), (12, .one (.e (.sl 0 0 x1.length)))], [.row .nod x1 false]⟩ (by kernel_rfl) trivial ?_
  refine bindO_e h (fun b21 hc22 h => ?_)
  refine WO_call [.ro 0] Tryd.f35 rfl rfl rfl (by kernel_rfl) Tryd.func35 rfl (by kernel_rfl) (spec_validTree_ok n x1 b21 hc22) (And.intro (And.intro rfl rfl) (trivial)) rfl ?_
  refine WO_step 2 [0] [0, 1, 2, 3, 15] True ⟨[(0, .one (.e (.sl 0 0 x1.length))), (1, I i2), (2, S s3), (3, I i4), (15, B (!b21))], [.row .nod x1 false]⟩ (by kernel_rfl) trivial ?_
  refine WO_thru ⟨[(0, .one (.e (.sl 0 0 x1.length))), (1, I i2), (2, S s3), (3, I i4), (19, B ((!b21) || (decide (((x1.length : Nat) : Int) = 12))))], [.row .nod x1 false]⟩ ?_ ?_
  · refine WO_if 15 rfl (fun hb25 => ?_) (fun hb25 => ?_)
    · refine WO_step 4 [0] [0, 1, 2, 3, 19] True ⟨[(0, .one (.e (.sl 0 0 x1.length))), (1, I i2), (2, S s3), (3, I i4), (19, B true)], [.row .nod x1 false]⟩ (by kernel_rfl) trivial ?_
      exact WO_nil rfl ⟨rfl, by first | rfl | (rw [hb25]; first | done | rfl)⟩
    · refine WO_step 4 [0] [0, 1, 2, 3, 19] (True ∧ (True ∧ True)) ⟨[(0, .one (.e (.sl 0 0 x1.length))), (1, I i2), (2, S s3), (3, I i4), (19, B (decide (((x1.length : Nat) : Int) = 12)))], [.row .nod x1 false]⟩ (by kernel_rfl) ⟨trivial, trivial, trivial⟩ ?_
      exact WO_nil rfl ⟨rfl, by first | rfl | (rw [hb25]; first | done | rfl)⟩
  · refine thenS_n ?_
    refine iteO_e h (fun hb27 h => W_true rfl hb27 ?_) (fun hb27 h => W_false rfl hb27 ?_)
    · refine W_seq ?_
      refine W_region ?_
      refine WO_step 3 [0] [8, 9, 10] True ⟨[(8, .one (.e (.nsl))), (9, I (-1)), (10, B false)], [.row .nod x1 false]⟩ (by kernel_rfl) trivial ?_
      refine WO_nilrow 8 .nod rfl ?_
      refine WO_sub [0, 1] [8, 9, 10] (st' := ⟨[(8, .one (.e (.sl 1 0 (([] : List Nod).length)))), (9, I (-1)), (10, B false)], [.row .nod x1 false, .row .nod ([] : List Nod) true]⟩) (by kernel_rfl) ?_
      refine WO_nil rfl ?_
      refine thenS_n ?_
      refine W_ret ?_
      refine thenS_r ?_
      cases h
      exact ⟨[0, 1], True, by kernel_rfl, trivial⟩
    · refine W_sub [0] [0, 1, 2, 3] (st' := ⟨[(0, .one (.e (.sl 0 0 x1.length))), (1, I i2), (2, S s3), (3, I i4)], [.row .nod x1 false]⟩) (by kernel_rfl) ?_
      refine W_skip ?_
      refine thenS_n ?_
      refine W_seq ?_
      refine W_region ?_
      refine guardO_e h (fun hg28 h => ?_)
      refine guardO_e h (fun hg29 h => ?_)
      refine WO_step 10 [0, 4] [0, 11] ((0 = 0 ∧ ([] : List Nod).length = ([] : List Nod).length ∧ ([] : List Nod).length + ((x1.drop 0).take x1.length).length ≤ 1099511627776) ∧ ((0 = 0 ∧ (([] : List Nod) ++ ((x1.drop 0).take x1.length)).length = (([] : List Nod) ++ ((x1.drop 0).take x1.length)).length ∧ (([] : List Nod) ++ ((x1.drop 0).take x1.length)).length + (([(⟨i2, s3, i4⟩ : Nod)].drop 0).take ([(⟨i2, s3, i4⟩ : Nod)].length)).length ≤ 1099511627776) ∧ True)) ⟨[(0, .one (.e (.sl 0 0 x1.length))), (11, .one (.e (.sl 1 0 (((([] : List Nod) ++ ((x1.drop 0).take x1.length)) ++ (([(⟨i2, s3, i4⟩ : Nod)].drop 0).take ([(⟨i2, s3, i4⟩ : Nod)].length))).length))))], [.row .nod x1 false, .row .nod ((([] : List Nod) ++ ((x1.drop 0).take x1.length)) ++ (([(⟨i2, s3, i4⟩ : Nod)].drop 0).take ([(⟨i2, s3, i4⟩ : Nod)].length))) true]⟩ (by kernel_rfl) ⟨hg28, hg29, trivial⟩ ?_
      refine WO_nil rfl ?_
      refine thenS_n ?_
      refine W_seq ?_
      refine W_seq ?_
      refine W_region ?_
      refine WO_step 1 [0, 1] [0, 11, 29] True ⟨[(0, .one (.e (.sl 0 0 x1.length))), (11, .one (.e (.sl 1 0 (((([] : List Nod) ++ ((x1.drop 0).take x1.length)) ++ (([(⟨i2, s3, i4⟩ : Nod)].drop 0).take ([(⟨i2, s3, i4⟩ : Nod)].length))).length)))), (29, .one (.e (.sl 1 0 (((([] : List Nod) ++ ((x1.drop 0).take x1.length)) ++ (([(⟨i2, s3, i4⟩ : Nod)].drop 0).take ([(⟨i2, s3, i4⟩ : Nod)].length))).length))))], [.row .nod x1 false, .row .nod ((([] : List Nod) ++ ((x1.drop 0).take x1.length)) ++ (([(⟨i2, s3, i4⟩ : Nod)].drop 0).take ([(⟨i2, s3, i4⟩ : Nod)].length))) true]⟩ (by kernel_rfl) trivial ?_
      refine bindO_e h (fun b30 hc31 h => ?_)
      refine WO_call [.ro 1] Tryd.f35 rfl rfl rfl (by kernel_rfl) Tryd.func35 rfl (by kernel_rfl) (spec_validTree_ok n ((([] : List Nod) ++ ((x1.drop 0).take x1.length)) ++ (([(⟨i2, s3, i4⟩ : Nod)].drop 0).take ([(⟨i2, s3, i4⟩ : Nod)].length))) b30 hc31) (And.intro (And.intro rfl rfl) (trivial)) rfl ?_
      refine WO_step 1 [0, 1] [0, 11, 31] True ⟨[(0, .one (.e (.sl 0 0 x1.length))), (11, .one (.e (.sl 1 0 (((([] : List Nod) ++ ((x1.drop 0).take x1.length)) ++ (([(⟨i2, s3, i4⟩ : Nod)].drop 0).take ([(⟨i2, s3, i4⟩ : Nod)].length))).length)))), (31, B (!b30))], [.row .nod x1 false, .row .nod ((([] : List Nod) ++ ((x1.drop 0).take x1.length)) ++ (([(⟨i2, s3, i4⟩ : Nod)].drop 0).take ([(⟨i2, s3, i4⟩ : Nod)].length))) true]⟩ (by kernel_rfl) trivial ?_
      refine WO_nil rfl ?_
      refine thenS_n ?_
      refine iteO_e h (fun hb33 h => W_true rfl hb33 ?_) (fun hb33 h => W_false rfl hb33 ?_)
      · refine W_seq ?_
        refine W_region ?_
        refine WO_step 3 [0] [8, 9, 10] True ⟨[(8, .one (.e (.nsl))), (9, I (-1)), (10, B false)], [.row .nod x1 false]⟩ (by kernel_rfl) trivial ?_
        refine WO_nilrow 8 .nod rfl ?_
        refine WO_sub [0, 1] [8, 9, 10] (st' := ⟨[(8, .one (.e (.sl 1 0 (([] : List Nod).length)))), (9, I (-1)), (10, B false)], [.row .nod x1 false, .row .nod ([] : List Nod) true]⟩) (by kernel_rfl) ?_
        refine WO_nil rfl ?_
        refine thenS_n ?_
        refine W_ret ?_
        refine thenS_r ?_
        cases h
        exact ⟨[0, 1], True, by kernel_rfl, trivial⟩
      · refine W_sub [0, 1] [0, 11] (st' := ⟨[(0, .one (.e (.sl 0 0 x1.length))), (11, .one (.e (.sl 1 0 (((([] : List Nod) ++ ((x1.drop 0).take x1.length)) ++ (([(⟨i2, s3, i4⟩ : Nod)].drop 0).take ([(⟨i2, s3, i4⟩ : Nod)].length))).length))))], [.row .nod x1 false, .row .nod ((([] : List Nod) ++ ((x1.drop 0).take x1.length)) ++ (([(⟨i2, s3, i4⟩ : Nod)].drop 0).take ([(⟨i2, s3, i4⟩ : Nod)].length))) true]⟩) (by kernel_rfl) ?_
        refine W_skip ?_
        refine thenS_n ?_
        refine W_seq ?_
        refine W_region ?_
        refine WO_step 6 [0, 1] [8, 9, 10] (True ∧ True) ⟨[(8, .one (.e (.sl 1 0 (((([] : List Nod) ++ ((x1.drop 0).take x1.length)) ++ (([(⟨i2, s3, i4⟩ : Nod)].drop 0).take ([(⟨i2, s3, i4⟩ : Nod)].length))).length)))), (9, I ((x1.length : Nat) : Int)), (10, B true)], [.row .nod x1 false, .row .nod ((([] : List Nod) ++ ((x1.drop 0).take x1.length)) ++ (([(⟨i2, s3, i4⟩ : Nod)].drop 0).take ([(⟨i2, s3, i4⟩ : Nod)].length))) true]⟩ (by kernel_rfl) ⟨trivial, trivial⟩ ?_
        refine WO_nil rfl ?_
        refine thenS_n ?_
        refine W_ret ?_
        cases h
        exact ⟨[0, 1], True, by kernel_rfl, trivial⟩

/- spec.someTree -/
def spec_someTree_L1 (k2 : Nat) (x1 : List Int) : Nat → Int → (List Nod) → Int → Option ((Int × (List Nod)))
| 0, _, _, _ => none
| n + 1, i199, x200, i201 =>
 iteO (decide (0 < i201))
 (bindO (spec_reader_pick x1 k2 i199 ((x200.length : Nat) : Int)) fun i266 =>
 bindO (spec_someName x1 k2 (w64 (i199 + 1))) fun (i268, s269) =>
 bindO (spec_someValue x1 k2 i268) fun (i271, i272) =>
 bindO (spec_AddNode n x200 i266 s269 i272) fun (x274, i275, b276) =>
 bindO (iteO b276
 (some x274)
 (some x200)) fun x279 =>
 spec_someTree_L1 k2 x1 n i271 x279 (w64 (i201 - 1)))
 (some (i199, x200))

theorem spec_someTree_L1_ok (w : World) (X : Nat → Prop) (θ : List Loc) (k2 : Nat) (x1 : List Int) (v : (Int × (List Nod))) : ∀ (n : Nat) (i199 : Int) (x200 : List Nod) (i201 : Int), spec_someTree_L1 k2 x1 n i199 x200 i201 = some v → WL EE ⟨w, X, θ, 36, 2⟩ (subC [1, 1, 0, 1, 4, 4] (bodyC Tryd.f56)) (fun (e : Exit) (s : St) => (match v with | (i243, x244) => e = .exit 0 ∧ s = ⟨[(3, .one (.e (.sl 2 0 x244.length)))], [.cells [.sl 1 0 k2, cI i243], .row .u8 x1 false, .row .nod x244 true]⟩ : Prop)) ⟨[(0, .one (.e (.p 0 0))), (3, .one (.e (.sl 2 0 x200.length))), (4, I i201)], [.cells [.sl 1 0 k2, cI i199], .row .u8 x1 false, .row .nod x200 true]⟩ := by
  intro n
  induction n with
  | zero => intro _ _ _ h; exact none_e h
  | succ n ih =>
    intro i199 x200 i201 h
    rw [spec_someTree_L1] at h
    refine WL_round ?_
    refine W_seq ?_
    refine W_seq ?_
    refine W_region ?_
    refine WO_step 2 [0, 1, 2] [0, 3, 4, 16] (True ∧ True) ⟨[(0, .one (.e (.p 0 0))), (3, .one (.e (.sl 2 0 x200.length))), (4, I i201), (16, B (decide (0 < i201)))], [.cells [.sl 1 0 k2, cI i199], .row .u8 x1 false, .row .nod x200 true]⟩ (by kernel_rfl) ⟨trivial, trivial⟩ ?_
    refine WO_nil rfl ?_
    refine thenS_n ?_
    refine iteO_e h (fun hb247 h => W_true rfl hb247 ?_) (fun hb247 h => W_false rfl hb247 ?_)
    · refine W_sub [0, 1, 2] [0, 3, 4] (st' := ⟨[(0, .one (.e (.p 0 0))), (3, .one (.e (.sl 2 0 x200.length))), (4, I i201)], [.cells [.sl 1 0 k2, cI i199], .row .u8 x1 false, .row .nod x200 true]⟩) (by kernel_rfl) ?_
      refine W_skip ?_
      refine thenS_n ?_
      refine W_seq ?_
      refine W_block ?_
      refine W_seq ?_
      refine W_region ?_
      refine WO_step 4 [0, 1, 2] [0, 3, 4, 20, 21, 23] (True ∧ True) ⟨[(0, .one (.e (.p 0 0))), (3, .one (.e (.sl 2 0 x200.length))), (4, I i201), (20, .one (.e (.sl 2 0 x200.length))), (21, .one (.e (.p 0 0))), (23, I ((x200.length : Nat) : Int))], [.cells [.sl 1 0 k2, cI i199], .row .u8 x1 false, .row .nod x200 true]⟩ (by kernel_rfl) ⟨trivial, trivial⟩ ?_
      refine bindO_e h (fun i266 hc267 h => ?_)
      refine WO_call [.own 0, .ro 1] Tryd.f47 rfl rfl rfl (by kernel_rfl) Tryd.func47 rfl (by kernel_rfl) (spec_reader_pick_ok x1 k2 i199 ((x200.length : Nat) : Int) i266 hc267) (And.intro (trivial) (And.intro (And.intro rfl rfl) (trivial))) rfl ?_
      refine WO_step 1 [0, 1, 2] [0, 3, 4, 20, 24, 25] True ⟨[(0, .one (.e (.p 0 0))), (3, .one (.e (.sl 2 0 x200.length))), (4, I i201), (20, .one (.e (.sl 2 0 x200.length))), (24, I i266), (25, .one (.e (.p 0 0)))], [.cells [.sl 1 0 k2, cI (w64 (i199 + 1))], .row .u8 x1 false, .row .nod x200 true]⟩ (by kernel_rfl) trivial ?_
      refine bindO_e h (fun v284 hc270 h => ?_)
      obtain ⟨i268, s269⟩ := v284
      refine WO_call [.own 0, .ro 1] Tryd.f69 rfl rfl rfl (by kernel_rfl) Tryd.func69 rfl (by kernel_rfl) (spec_someName_ok x1 k2 (w64 (i199 + 1)) i268 s269 hc270) (And.intro (trivial) (And.intro (And.intro rfl rfl) (trivial))) rfl ?_
      refine WO_step 1 [0, 1, 2] [0, 3, 4, 20, 24, 26, 27] True ⟨[(0, .one (.e (.p 0 0))), (3, .one (.e (.sl 2 0 x200.length))), (4, I i201), (20, .one (.e (.sl 2 0 x200.length))), (24, I i266), (26, S s269), (27, .one (.e (.p 0 0)))], [.cells [.sl 1 0 k2, cI i268], .row .u8 x1 false, .row .nod x200 true]⟩ (by kernel_rfl) trivial ?_
      refine bindO_e h (fun v283 hc273 h => ?_)
      obtain ⟨i271, i272⟩ := v283
      refine WO_call [.own 0, .ro 1] Tryd.f67 rfl rfl rfl (by kernel_rfl) Tryd.func67 rfl (by kernel_rfl) (spec_someValue_ok x1 k2 i268 i271 i272 hc273) (And.intro (trivial) (And.intro (And.intro rfl rfl) (trivial))) rfl ?_
      refine WO_sub [0, 1, 2] [0, 3, 4, 20, 24, 26, 28] (st' := ⟨[(0, .one (.e (.p 0 0))), (3, .one (.e (.sl 2 0 x200.length))), (4, I i201), (20, .one (.e (.sl 2 0 x200.length))), (24, I i266), (26, S s269), (28, I i272)], [.cells [.sl 1 0 k2, cI i271], .row .u8 x1 false, .row .nod x200 true]⟩) (by kernel_rfl) ?_
      refine bindO_e h (fun v282 hc277 h => ?_)
      obtain ⟨x274, i275, b276⟩ := v282
      refine WO_call [.ro 2] Tryd.f68 rfl rfl rfl (by kernel_rfl) Tryd.func68 rfl (by kernel_rfl) (spec_AddNode_ok n x200 i266 s269 i272 x274 i275 b276 hc277) (And.intro (And.intro rfl rfl) (trivial)) rfl ?_
      refine WO_step 7 [0, 1, 2, 3] [0, 3, 4, 5, 7] True ⟨[(0, .one (.e (.p 0 0))), (3, .one (.e (.sl 2 0 x200.length))), (4, I i201), (5, .one (.e (.sl 3 0 x274.length))), (7, B b276)], [.cells [.sl 1 0 k2, cI i271], .row .u8 x1 false, .row .nod x200 true, .row .nod x274 true]⟩ (by kernel_rfl) trivial ?_
      refine WO_nil rfl ?_
      refine thenS_n ?_
      refine W_seq ?_
      refine W_region ?_
      refine WO_step 1 [0, 1, 2, 3] [0, 3, 4, 5, 33] True ⟨[(0, .one (.e (.p 0 0))), (3, .one (.e (.sl 2 0 x200.length))), (4, I i201), (5, .one (.e (.sl 3 0 x274.length))), (33, B b276)], [.cells [.sl 1 0 k2, cI i271], .row .u8 x1 false, .row .nod x200 true, .row .nod x274 true]⟩ (by kernel_rfl) trivial ?_
      refine WO_nil rfl ?_
      refine thenS_n ?_
      refine bindO_e h (fun x279 hx279 h => ?_)
      refine W_cut (Q' := fun (e : Exit) (s : St) => e = .normal ∧ s = ⟨[(0, .one (.e (.p 0 0))), (3, .one (.e (.sl 2 0 x279.length))), (4, I i201)], [.cells [.sl 1 0 k2, cI i271], .row .u8 x1 false, .row .nod x279 true]⟩) ?_ ?_
      · refine iteO_e hx279 (fun hb281 hx279 => W_true rfl hb281 ?_) (fun hb281 hx279 => W_false rfl hb281 ?_)
        · refine W_region ?_
          refine WO_step 2 [0, 1, 3] [0, 3, 4] True ⟨[(0, .one (.e (.p 0 0))), (3, .one (.e (.sl 2 0 x274.length))), (4, I i201)], [.cells [.sl 1 0 k2, cI i271], .row .u8 x1 false, .row .nod x274 true]⟩ (by kernel_rfl) trivial ?_
          refine WO_nil rfl ?_
          cases hx279
          exact And.intro rfl rfl
        · refine W_sub [0, 1, 2] [0, 3, 4] (st' := ⟨[(0, .one (.e (.p 0 0))), (3, .one (.e (.sl 2 0 x200.length))), (4, I i201)], [.cells [.sl 1 0 k2, cI i271], .row .u8 x1 false, .row .nod x200 true]⟩) (by kernel_rfl) ?_
          refine W_skip ?_
          cases hx279
          exact And.intro rfl rfl
      · rintro _ _ ⟨rfl, rfl⟩
        refine blockS_n ?_
        refine thenS_n ?_
        refine W_region ?_
        refine WO_step 3 [0, 1, 2] [0, 3, 4] (True ∧ True) ⟨[(0, .one (.e (.p 0 0))), (3, .one (.e (.sl 2 0 x279.length))), (4, I (w64 (i201 - 1)))], [.cells [.sl 1 0 k2, cI i271], .row .u8 x1 false, .row .nod x279 true]⟩ (by kernel_rfl) ⟨trivial, trivial⟩ ?_
        refine WO_nil rfl ?_
        refine thenS_n ?_
        exact ih _ _ _ h
    · refine W_sub [0, 1, 2] [3] (st' := ⟨[(3, .one (.e (.sl 2 0 x200.length)))], [.cells [.sl 1 0 k2, cI i199], .row .u8 x1 false, .row .nod x200 true]⟩) (by kernel_rfl) ?_
      refine W_exit ?_
      refine thenS_e ?_
      refine thenS_e ?_
      cases h
      exact And.intro rfl rfl

def spec_someTree (n : Nat) (x1 : List Int) (k2 : Nat) (i3 : Int) : Option (Int × (List Nod)) :=
 bindO (spec_someValue x1 k2 i3) fun (i146, i147) =>
 bindO (spec_reader_one x1 k2 i146 [5, 8, 3, 12, 1, 0, 16]) fun (i149, i150) =>
 bindO (spec_someTree_L1 k2 x1 n i149 [(⟨(-1), [], i147⟩ : Nod)] i150) fun v285 =>
 match v285 with
 | (i243, x244) => (some (i243, x244))


theorem spec_someTree_ok (n : Nat) (x1 : List Int) (k2 : Nat) (i3 : Int) (i144 : Int) (x145 : List Nod) (h : spec_someTree n x1 k2 i3 = some (i144, x145)) : FOk EE 56 [.one (.e (.p 0 0))] [.cells [.sl 1 0 k2, cI i3], .row .u8 x1 false] (.one (.e (.sl 2 0 x145.length))) [.cells [.sl 1 0 k2, cI i144], .row .u8 x1 false, .row .nod x145 true] := by
  unfold spec_someTree at h
  refine FOk_of_W 36 2 Tryd.func56 rfl rfl (Nat.le_of_ble_eq_true rfl) rfl (fun w X θ => ?_)
  refine W_seq ?_
  refine W_region ?_
  refine WO_step 1 [0, 1] [0] True ⟨[(0, .one (.e (.p 0 0)))], [.cells [.sl 1 0 k2, cI i3], .row .u8 x1 false]⟩ (by kernel_rfl) trivial ?_
  refine WO_nil rfl ?_
  refine thenS_n ?_
  refine W_seq ?_
  refine W_region ?_
  refine WO_step 1 [0, 1] [0, 8] True ⟨[(0, .one (.e (.p 0 0))), (8, .one (.e (.p 0 0)))], [.cells [.sl 1 0 k2, cI i3], .row .u8 x1 false]⟩ (by kernel_rfl) trivial ?_
  refine bindO_e h (fun v287 hc148 h => ?_)
  obtain ⟨i146, i147⟩ := v287
  refine WO_call [.own 0, .ro 1] Tryd.f67 rfl rfl rfl (by kernel_rfl) Tryd.func67 rfl (by kernel_rfl) (spec_someValue_ok x1 k2 i3 i146 i147 hc148) (And.intro (trivial) (And.intro (And.intro rfl rfl) (trivial))) rfl ?_
  refine WO_step 3 [0, 1, 2] [0, 3] True ⟨[(0, .one (.e (.p 0 0))), (3, .one (.e (.sl 2 0 ([(⟨(-1), [], i147⟩ : Nod)].length))))], [.cells [.sl 1 0 k2, cI i146], .row .u8 x1 false, .row .nod [(⟨(-1), [], i147⟩ : Nod)] true]⟩ (by kernel_rfl) trivial ?_
  refine WO_nil rfl ?_
  refine thenS_n ?_
  refine W_seq ?_
  refine W_seq ?_
  refine W_region ?_
  refine WO_step 2 [0, 1, 2, 3] [0, 3, 12, 13] True ⟨[(0, .one (.e (.p 0 0))), (3, .one (.e (.sl 2 0 ([(⟨(-1), [], i147⟩ : Nod)].length)))), (12, .one (.e (.p 0 0))), (13, .one (.e (.sl 3 0 ([5, 8, 3, 12, 1, 0, 16].length))))], [.cells [.sl 1 0 k2, cI i146], .row .u8 x1 false, .row .nod [(⟨(-1), [], i147⟩ : Nod)] true, .row .int [5, 8, 3, 12, 1, 0, 16] true]⟩ (by kernel_rfl) trivial ?_
  refine bindO_e h (fun v286 hc151 h => ?_)
  obtain ⟨i149, i150⟩ := v286
  refine WO_call [.own 0, .ro 1, .ro 3] Tryd.f48 rfl rfl rfl (by kernel_rfl) Tryd.func48 rfl (by kernel_rfl) (spec_reader_one_ok x1 k2 i146 [5, 8, 3, 12, 1, 0, 16] i149 i150 hc151) (And.intro (trivial) (And.intro (And.intro rfl rfl) (And.intro (And.intro rfl rfl) (trivial)))) rfl ?_
  refine WO_step 1 [0, 1, 2] [0, 3, 4] True ⟨[(0, .one (.e (.p 0 0))), (3, .one (.e (.sl 2 0 ([(⟨(-1), [], i147⟩ : Nod)].length)))), (4, I i150)], [.cells [.sl 1 0 k2, cI i149], .row .u8 x1 false, .row .nod [(⟨(-1), [], i147⟩ : Nod)] true]⟩ (by kernel_rfl) trivial ?_
  refine WO_nil rfl ?_
  refine thenS_n ?_
  refine W_block ?_
  refine W_loop ?_
  refine bindO_e h (fun v285 hv285 h => ?_)
  refine WL_cut (spec_someTree_L1_ok w X θ k2 x1 v285 n i149 [(⟨(-1), [], i147⟩ : Nod)] i150 hv285) ?_
  obtain ⟨i243, x244⟩ := v285
  rintro _ _ ⟨rfl, rfl⟩
  refine blockS_y ?_
  refine thenS_n ?_
  refine W_seq ?_
  refine W_region ?_
  refine WO_step 2 [0, 1, 2] [2] True ⟨[(2, .one (.e (.sl 2 0 x244.length)))], [.cells [.sl 1 0 k2, cI i243], .row .u8 x1 false, .row .nod x244 true]⟩ (by kernel_rfl) trivial ?_
  refine WO_nil rfl ?_
  refine thenS_n ?_
  refine W_ret ?_
  cases h
  exact ⟨[0, 1, 2], True, by kernel_rfl, trivial⟩

/- spec.anyTree -/
def spec_anyTree_L1 (k2 : Nat) (i132 : Int) (x1 : List Int) : Nat → (List Nod) → Option ((List Nod))
| 0, _ => none
| n + 1, x405 =>
 iteO (decide (((x405.length : Nat) : Int) < 13))
 (guardO (0 = 0 ∧ x405.length = x405.length ∧ x405.length + (([(⟨0, [113], 0⟩ : Nod)].drop 0).take ([(⟨0, [113], 0⟩ : Nod)].length)).length ≤ 1099511627776) <|
 spec_anyTree_L1 k2 i132 x1 n (x405 ++ (([(⟨0, [113], 0⟩ : Nod)].drop 0).take ([(⟨0, [113], 0⟩ : Nod)].length))))
 (some x405)

theorem spec_anyTree_L1_ok (w : World) (X : Nat → Prop) (θ : List Loc) (k2 : Nat) (i132 : Int) (x1 : List Int) (x411 : (List Nod)) : ∀ (n : Nat) (x405 : List Nod), spec_anyTree_L1 k2 i132 x1 n x405 = some x411 → WL EE ⟨w, X, θ, 54, 2⟩ (subC [1, 1, 1, 0, 1, 4, 1, 3, 1, 3, 1, 3, 1, 3, 1, 2, 4, 4] (bodyC Tryd.f41)) (fun (e : Exit) (s : St) => e = .exit 1 ∧ s = ⟨[(3, .one (.e (.sl 2 0 x411.length)))], [.cells [.sl 1 0 k2, cI (w64 ((w64 (i132 + 1)) + 1))], .row .u8 x1 false, .row .nod x411 true]⟩) ⟨[(3, .one (.e (.sl 2 0 x405.length)))], [.cells [.sl 1 0 k2, cI (w64 ((w64 (i132 + 1)) + 1))], .row .u8 x1 false, .row .nod x405 true]⟩ := by
  intro n
  induction n with
  | zero => intro _ h; exact none_e h
  | succ n ih =>
    intro x405 h
    rw [spec_anyTree_L1] at h
    refine WL_round ?_
    refine W_seq ?_
    refine W_seq ?_
    refine W_region ?_
    refine WO_step 3 [0, 1, 2] [3, 48] (True ∧ (True ∧ True)) ⟨[(3, .one (.e (.sl 2 0 x405.length))), (48, B (decide (((x405.length : Nat) : Int) < 13)))], [.cells [.sl 1 0 k2, cI (w64 ((w64 (i132 + 1)) + 1))], .row .u8 x1 false, .row .nod x405 true]⟩ (by kernel_rfl) ⟨trivial, trivial, trivial⟩ ?_
    refine WO_nil rfl ?_
    refine thenS_n ?_
    refine iteO_e h (fun hb414 h => W_true rfl hb414 ?_) (fun hb414 h => W_false rfl hb414 ?_)
    · refine W_sub [0, 1, 2] [3] (st' := ⟨[(3, .one (.e (.sl 2 0 x405.length)))], [.cells [.sl 1 0 k2, cI (w64 ((w64 (i132 + 1)) + 1))], .row .u8 x1 false, .row .nod x405 true]⟩) (by kernel_rfl) ?_
      refine W_skip ?_
      refine thenS_n ?_
      refine W_block ?_
      refine W_region ?_
      refine guardO_e h (fun hg416 h => ?_)
      refine WO_step 5 [0, 1, 4] [3] ((0 = 0 ∧ x405.length = x405.length ∧ x405.length + (([(⟨0, [113], 0⟩ : Nod)].drop 0).take ([(⟨0, [113], 0⟩ : Nod)].length)).length ≤ 1099511627776) ∧ True) ⟨[(3, .one (.e (.sl 2 0 ((x405 ++ (([(⟨0, [113], 0⟩ : Nod)].drop 0).take ([(⟨0, [113], 0⟩ : Nod)].length))).length))))], [.cells [.sl 1 0 k2, cI (w64 ((w64 (i132 + 1)) + 1))], .row .u8 x1 false, .row .nod (x405 ++ (([(⟨0, [113], 0⟩ : Nod)].drop 0).take ([(⟨0, [113], 0⟩ : Nod)].length))) true]⟩ (by kernel_rfl) ⟨hg416, trivial⟩ ?_
      refine WO_nil rfl ?_
      refine blockS_n ?_
      refine thenS_n ?_
      exact ih _ h
    · refine W_sub [0, 1, 2] [3] (st' := ⟨[(3, .one (.e (.sl 2 0 x405.length)))], [.cells [.sl 1 0 k2, cI (w64 ((w64 (i132 + 1)) + 1))], .row .u8 x1 false, .row .nod x405 true]⟩) (by kernel_rfl) ?_
      refine W_exit ?_
      refine thenS_e ?_
      refine thenS_e ?_
      cases h
      exact And.intro rfl rfl

def spec_anyTree (n : Nat) (x1 : List Int) (k2 : Nat) (i3 : Int) : Option (Int × (List Nod) × Nat × Nat) :=
 bindO (spec_someTree n x1 k2 i3) fun (i132, x133) =>
 bindO (spec_reader_pick x1 k2 i132 ((x133.length : Nat) : Int)) fun i135 =>
 bindO (spec_reader_pick x1 k2 (w64 (i132 + 1)) 30) fun i137 =>
 bindO (iteO (decide (i137 = 0))
 (bindO (spec_reader_pick x1 k2 (w64 ((w64 (i132 + 1)) + 1)) 6) fun i252 =>
 guardO (0 ≤ i135 ∧ i135 < ((x133.length : Nat) : Int)) <|
 some ((w64 ((w64 ((w64 (i132 + 1)) + 1)) + 1)), (x133.set i135.toNat (⟨(w64 (i252 - 1)), (x133.getD i135.toNat dnod).name, (x133.getD i135.toNat dnod).value⟩ : Nod)), 0, (x133.set i135.toNat (⟨(w64 (i252 - 1)), (x133.getD i135.toNat dnod).name, (x133.getD i135.toNat dnod).value⟩ : Nod)).length))
 (bindO (iteO (decide (i137 = 1))
 (bindO (spec_reader_of x1 k2 (w64 ((w64 (i132 + 1)) + 1)) [[], [65], [97, 98, 99, 100, 101], [97]]) fun (i303, s304) =>
 guardO (0 ≤ i135 ∧ i135 < ((x133.length : Nat) : Int)) <|
 some (i303, (x133.set i135.toNat (⟨(x133.getD i135.toNat dnod).parent, s304, (x133.getD i135.toNat dnod).value⟩ : Nod)), 0, (x133.set i135.toNat (⟨(x133.getD i135.toNat dnod).parent, s304, (x133.getD i135.toNat dnod).value⟩ : Nod)).length))
 (bindO (iteO (decide (i137 = 2))
 (bindO (spec_reader_one x1 k2 (w64 ((w64 (i132 + 1)) + 1)) [1001, (-1001)]) fun (i345, i346) =>
 guardO (0 ≤ i135 ∧ i135 < ((x133.length : Nat) : Int)) <|
 some (i345, (x133.set i135.toNat (⟨(x133.getD i135.toNat dnod).parent, (x133.getD i135.toNat dnod).name, i346⟩ : Nod)), 0, (x133.set i135.toNat (⟨(x133.getD i135.toNat dnod).parent, (x133.getD i135.toNat dnod).name, i346⟩ : Nod)).length))
 (bindO (iteO (decide (i137 = 3))
 (guardO (0 ≤ (1 : Int) ∧ (1 : Int) ≤ ((x133.length : Nat) : Int)) <|
 some (x133, 1, (x133.length - 1)))
 (bindO (iteO (decide (i137 = 4))
 (bindO (spec_anyTree_L1 k2 i132 x1 n x133) fun x411 =>
 some x411)
 (some x133)) fun x394 =>
 some (x394, 0, x394.length))) fun v374 =>
 match v374 with
 | (x371, k372, k373) => (some ((w64 ((w64 (i132 + 1)) + 1)), x371, k372, k373))
)) fun v343 =>
 match v343 with
 | (i339, x340, k341, k342) => (some (i339, x340, k341, k342))
)) fun v301 =>
 match v301 with
 | (i297, x298, k299, k300) => (some (i297, x298, k299, k300))
)) fun v250 =>
 match v250 with
 | (i246, x247, k248, k249) => (some (i246, x247, k248, k249))


theorem spec_anyTree_ok (n : Nat) (x1 : List Int) (k2 : Nat) (i3 : Int) (i128 : Int) (x129 : List Nod) (k130 : Nat) (k131 : Nat) (h : spec_anyTree n x1 k2 i3 = some (i128, x129, k130, k131)) : FOk EE 41 [.one (.e (.p 0 0))] [.cells [.sl 1 0 k2, cI i3], .row .u8 x1 false] (.one (.e (.sl 2 k130 k131))) [.cells [.sl 1 0 k2, cI i128], .row .u8 x1 false, .row .nod x129 true] := by
  unfold spec_anyTree at h
  refine FOk_of_W 54 2 Tryd.func41 rfl rfl (Nat.le_of_ble_eq_true rfl) rfl (fun w X θ => ?_)
  refine W_seq ?_
  refine W_region ?_
  refine WO_step 1 [0, 1] [0] True ⟨[(0, .one (.e (.p 0 0)))], [.cells [.sl 1 0 k2, cI i3], .row .u8 x1 false]⟩ (by kernel_rfl) trivial ?_
  refine WO_nil rfl ?_
  refine thenS_n ?_
  refine W_seq ?_
  refine W_region ?_
  refine WO_step 1 [0, 1] [0, 5] True ⟨[(0, .one (.e (.p 0 0))), (5, .one (.e (.p 0 0)))], [.cells [.sl 1 0 k2, cI i3], .row .u8 x1 false]⟩ (by kernel_rfl) trivial ?_
  refine bindO_e h (fun v418 hc134 h => ?_)
  obtain ⟨i132, x133⟩ := v418
  refine WO_call [.own 0, .ro 1] Tryd.f56 rfl rfl rfl (by kernel_rfl) Tryd.func56 rfl (by kernel_rfl) (spec_someTree_ok n x1 k2 i3 i132 x133 hc134) (And.intro (trivial) (And.intro (And.intro rfl rfl) (trivial))) rfl ?_
  refine WO_step 1 [0, 1, 2] [0, 3] True ⟨[(0, .one (.e (.p 0 0))), (3, .one (.e (.sl 2 0 x133.length)))], [.cells [.sl 1 0 k2, cI i132], .row .u8 x1 false, .row .nod x133 true]⟩ (by kernel_rfl) trivial ?_
  refine WO_nil rfl ?_
  refine thenS_n ?_
  refine W_seq ?_
  refine W_region ?_
  refine WO_step 3 [0, 1, 2] [0, 3, 7, 9] (True ∧ True) ⟨[(0, .one (.e (.p 0 0))), (3, .one (.e (.sl 2 0 x133.length))), (7, .one (.e (.p 0 0))), (9, I ((x133.length : Nat) : Int))], [.cells [.sl 1 0 k2, cI i132], .row .u8 x1 false, .row .nod x133 true]⟩ (by kernel_rfl) ⟨trivial, trivial⟩ ?_
  refine bindO_e h (fun i135 hc136 h => ?_)
  refine WO_call [.own 0, .ro 1] Tryd.f47 rfl rfl rfl (by kernel_rfl) Tryd.func47 rfl (by kernel_rfl) (spec_reader_pick_ok x1 k2 i132 ((x133.length : Nat) : Int) i135 hc136) (And.intro (trivial) (And.intro (And.intro rfl rfl) (trivial))) rfl ?_
  refine WO_step 1 [0, 1, 2] [0, 3, 4] True ⟨[(0, .one (.e (.p 0 0))), (3, .one (.e (.sl 2 0 x133.length))), (4, I i135)], [.cells [.sl 1 0 k2, cI (w64 (i132 + 1))], .row .u8 x1 false, .row .nod x133 true]⟩ (by kernel_rfl) trivial ?_
  refine WO_nil rfl ?_
  refine thenS_n ?_
  refine W_seq ?_
  refine W_seq ?_
  refine W_region ?_
  refine WO_step 1 [0, 1, 2] [0, 3, 4, 11] True ⟨[(0, .one (.e (.p 0 0))), (3, .one (.e (.sl 2 0 x133.length))), (4, I i135), (11, .one (.e (.p 0 0)))], [.cells [.sl 1 0 k2, cI (w64 (i132 + 1))], .row .u8 x1 false, .row .nod x133 true]⟩ (by kernel_rfl) trivial ?_
  refine bindO_e h (fun i137 hc138 h => ?_)
  refine WO_call [.own 0, .ro 1] Tryd.f47 rfl rfl rfl (by kernel_rfl) Tryd.func47 rfl (by kernel_rfl) (spec_reader_pick_ok x1 k2 (w64 (i132 + 1)) 30 i137 hc138) (And.intro (trivial) (And.intro (And.intro rfl rfl) (trivial))) rfl ?_
  refine WO_sub [0, 1, 2] [0, 3, 4, 12] (st' := ⟨[(0, .one (.e (.p 0 0))), (3, .one (.e (.sl 2 0 x133.length))), (4, I i135), (12, I i137)], [.cells [.sl 1 0 k2, cI (w64 ((w64 (i132 + 1)) + 1))], .row .u8 x1 false, .row .nod x133 true]⟩) (by kernel_rfl) ?_
  refine WO_nil rfl ?_
  refine thenS_n ?_
  refine W_block ?_
  refine W_seq ?_
  refine W_region ?_
  refine WO_step 2 [0, 1, 2] [0, 3, 4, 12, 13] (True ∧ True) ⟨[(0, .one (.e (.p 0 0))), (3, .one (.e (.sl 2 0 x133.length))), (4, I i135), (12, I i137), (13, B (decide (i137 = 0)))], [.cells [.sl 1 0 k2, cI (w64 ((w64 (i132 + 1)) + 1))], .row .u8 x1 false, .row .nod x133 true]⟩ (by kernel_rfl) ⟨trivial, trivial⟩ ?_
  refine WO_nil rfl ?_
  refine thenS_n ?_
  refine bindO_e h (fun v250 hv250 h => ?_)
  refine W_cut (Q' := fun (e : Exit) (s : St) => (match v250 with | (i246, x247, k248, k249) => e = .normal ∧ s = ⟨[(3, .one (.e (.sl 2 k248 k249)))], [.cells [.sl 1 0 k2, cI i246], .row .u8 x1 false, .row .nod x247 true]⟩ : Prop)) ?_ ?_
  · refine iteO_e hv250 (fun hb251 hv250 => W_true rfl hb251 ?_) (fun hb251 hv250 => W_false rfl hb251 ?_)
    · refine W_region ?_
      refine WO_step 3 [0, 1, 2] [3, 15, 16, 17] True ⟨[(3, .one (.e (.sl 2 0 x133.length))), (15, .one (.e (.sl 2 0 x133.length))), (16, I i135), (17, .one (.e (.p 0 0)))], [.cells [.sl 1 0 k2, cI (w64 ((w64 (i132 + 1)) + 1))], .row .u8 x1 false, .row .nod x133 true]⟩ (by kernel_rfl) trivial ?_
      refine bindO_e hv250 (fun i252 hc253 hv250 => ?_)
      refine WO_call [.own 0, .ro 1] Tryd.f47 rfl rfl rfl (by kernel_rfl) Tryd.func47 rfl (by kernel_rfl) (spec_reader_pick_ok x1 k2 (w64 ((w64 (i132 + 1)) + 1)) 6 i252 hc253) (And.intro (trivial) (And.intro (And.intro rfl rfl) (trivial))) rfl ?_
      refine guardO_e hv250 (fun hg254 hv250 => ?_)
      refine WO_step 4 [0, 1, 2] [3] (True ∧ ((0 ≤ i135 ∧ i135 < ((x133.length : Nat) : Int)) ∧ (True ∧ True))) ⟨[(3, .one (.e (.sl 2 0 x133.length)))], [.cells [.sl 1 0 k2, cI (w64 ((w64 ((w64 (i132 + 1)) + 1)) + 1))], .row .u8 x1 false, .row .nod (x133.set i135.toNat (⟨(w64 (i252 - 1)), (x133.getD i135.toNat dnod).name, (x133.getD i135.toNat dnod).value⟩ : Nod)) true]⟩ (by kernel_rfl) ⟨trivial, hg254, trivial, trivial⟩ ?_
      refine WO_eq (st' := ⟨[(3, .one (.e (.sl 2 0 ((x133.set i135.toNat (⟨(w64 (i252 - 1)), (x133.getD i135.toNat dnod).name, (x133.getD i135.toNat dnod).value⟩ : Nod)).length))))], [.cells [.sl 1 0 k2, cI (w64 ((w64 ((w64 (i132 + 1)) + 1)) + 1))], .row .u8 x1 false, .row .nod (x133.set i135.toNat (⟨(w64 (i252 - 1)), (x133.getD i135.toNat dnod).name, (x133.getD i135.toNat dnod).value⟩ : Nod)) true]⟩) (by simp only [List.length_set]) ?_
      refine WO_nil rfl ?_
      cases hv250
      exact And.intro rfl rfl
    · refine W_seq ?_
      refine W_region ?_
      refine WO_step 2 [0, 1, 2] [0, 3, 4, 12, 22] (True ∧ True) ⟨[(0, .one (.e (.p 0 0))), (3, .one (.e (.sl 2 0 x133.length))), (4, I i135), (12, I i137), (22, B (decide (i137 = 1)))], [.cells [.sl 1 0 k2, cI (w64 ((w64 (i132 + 1)) + 1))], .row .u8 x1 false, .row .nod x133 true]⟩ (by kernel_rfl) ⟨trivial, trivial⟩ ?_
      refine WO_nil rfl ?_
      refine thenS_n ?_
      refine bindO_e hv250 (fun v301 hv301 hv250 => ?_)
      refine W_cut (Q' := fun (e : Exit) (s : St) => (match v301 with | (i297, x298, k299, k300) => e = .normal ∧ s = ⟨[(3, .one (.e (.sl 2 k299 k300)))], [.cells [.sl 1 0 k2, cI i297], .row .u8 x1 false, .row .nod x298 true]⟩ : Prop)) ?_ ?_
      · refine iteO_e hv301 (fun hb302 hv301 => W_true rfl hb302 ?_) (fun hb302 hv301 => W_false rfl hb302 ?_)
        · refine W_region ?_
          refine WO_step 4 [0, 1, 2, 3] [3, 24, 25, 26, 27] True ⟨[(3, .one (.e (.sl 2 0 x133.length))), (24, .one (.e (.sl 2 0 x133.length))), (25, I i135), (26, .one (.e (.p 0 0))), (27, .one (.e (.sl 3 0 ([[], [65], [97, 98, 99, 100, 101], [97]].length))))], [.cells [.sl 1 0 k2, cI (w64 ((w64 (i132 + 1)) + 1))], .row .u8 x1 false, .row .nod x133 true, .row .str [[], [65], [97, 98, 99, 100, 101], [97]] true]⟩ (by kernel_rfl) trivial ?_
          refine bindO_e hv301 (fun v307 hc305 hv301 => ?_)
          obtain ⟨i303, s304⟩ := v307
          refine WO_call [.own 0, .ro 1, .ro 3] Tryd.f57 rfl rfl rfl (by kernel_rfl) Tryd.func57 rfl (by kernel_rfl) (spec_reader_of_ok x1 k2 (w64 ((w64 (i132 + 1)) + 1)) [[], [65], [97, 98, 99, 100, 101], [97]] i303 s304 hc305) (And.intro (trivial) (And.intro (And.intro rfl rfl) (And.intro (And.intro rfl rfl) (trivial)))) rfl ?_
          refine guardO_e hv301 (fun hg306 hv301 => ?_)
          refine WO_step 3 [0, 1, 2] [3] ((0 ≤ i135 ∧ i135 < ((x133.length : Nat) : Int)) ∧ (True ∧ True)) ⟨[(3, .one (.e (.sl 2 0 x133.length)))], [.cells [.sl 1 0 k2, cI i303], .row .u8 x1 false, .row .nod (x133.set i135.toNat (⟨(x133.getD i135.toNat dnod).parent, s304, (x133.getD i135.toNat dnod).value⟩ : Nod)) true]⟩ (by kernel_rfl) ⟨hg306, trivial, trivial⟩ ?_
          refine WO_eq (st' := ⟨[(3, .one (.e (.sl 2 0 ((x133.set i135.toNat (⟨(x133.getD i135.toNat dnod).parent, s304, (x133.getD i135.toNat dnod).value⟩ : Nod)).length))))], [.cells [.sl 1 0 k2, cI i303], .row .u8 x1 false, .row .nod (x133.set i135.toNat (⟨(x133.getD i135.toNat dnod).parent, s304, (x133.getD i135.toNat dnod).value⟩ : Nod)) true]⟩) (by simp only [List.length_set]) ?_
          refine WO_nil rfl ?_
          cases hv301
          exact And.intro rfl rfl
        · refine W_seq ?_
          refine W_region ?_
          refine WO_step 2 [0, 1, 2] [0, 3, 4, 12, 31] (True ∧ True) ⟨[(0, .one (.e (.p 0 0))), (3, .one (.e (.sl 2 0 x133.length))), (4, I i135), (12, I i137), (31, B (decide (i137 = 2)))], [.cells [.sl 1 0 k2, cI (w64 ((w64 (i132 + 1)) + 1))], .row .u8 x1 false, .row .nod x133 true]⟩ (by kernel_rfl) ⟨trivial, trivial⟩ ?_
          refine WO_nil rfl ?_
          refine thenS_n ?_
          refine bindO_e hv301 (fun v343 hv343 hv301 => ?_)
          refine W_cut (Q' := fun (e : Exit) (s : St) => (match v343 with | (i339, x340, k341, k342) => e = .normal ∧ s = ⟨[(3, .one (.e (.sl 2 k341 k342)))], [.cells [.sl 1 0 k2, cI i339], .row .u8 x1 false, .row .nod x340 true]⟩ : Prop)) ?_ ?_
          · refine iteO_e hv343 (fun hb344 hv343 => W_true rfl hb344 ?_) (fun hb344 hv343 => W_false rfl hb344 ?_)
            · refine W_region ?_
              refine WO_step 4 [0, 1, 2, 3] [3, 33, 34, 35, 36] True ⟨[(3, .one (.e (.sl 2 0 x133.length))), (33, .one (.e (.sl 2 0 x133.length))), (34, I i135), (35, .one (.e (.p 0 0))), (36, .one (.e (.sl 3 0 ([1001, (-1001)].length))))], [.cells [.sl 1 0 k2, cI (w64 ((w64 (i132 + 1)) + 1))], .row .u8 x1 false, .row .nod x133 true, .row .int [1001, (-1001)] true]⟩ (by kernel_rfl) trivial ?_
              refine bindO_e hv343 (fun v349 hc347 hv343 => ?_)
              obtain ⟨i345, i346⟩ := v349
              refine WO_call [.own 0, .ro 1, .ro 3] Tryd.f48 rfl rfl rfl (by kernel_rfl) Tryd.func48 rfl (by kernel_rfl) (spec_reader_one_ok x1 k2 (w64 ((w64 (i132 + 1)) + 1)) [1001, (-1001)] i345 i346 hc347) (And.intro (trivial) (And.intro (And.intro rfl rfl) (And.intro (And.intro rfl rfl) (trivial)))) rfl ?_
              refine guardO_e hv343 (fun hg348 hv343 => ?_)
              refine WO_step 3 [0, 1, 2] [3] ((0 ≤ i135 ∧ i135 < ((x133.length : Nat) : Int)) ∧ (True ∧ True)) ⟨[(3, .one (.e (.sl 2 0 x133.length)))], [.cells [.sl 1 0 k2, cI i345], .row .u8 x1 false, .row .nod (x133.set i135.toNat (⟨(x133.getD i135.toNat dnod).parent, (x133.getD i135.toNat dnod).name, i346⟩ : Nod)) true]⟩ (by kernel_rfl) ⟨hg348, trivial, trivial⟩ ?_
              refine WO_eq (st' := ⟨[(3, .one (.e (.sl 2 0 ((x133.set i135.toNat (⟨(x133.getD i135.toNat dnod).parent, (x133.getD i135.toNat dnod).name, i346⟩ : Nod)).length))))], [.cells [.sl 1 0 k2, cI i345], .row .u8 x1 false, .row .nod (x133.set i135.toNat (⟨(x133.getD i135.toNat dnod).parent, (x133.getD i135.toNat dnod).name, i346⟩ : Nod)) true]⟩) (by simp only [List.length_set]) ?_
              refine WO_nil rfl ?_
              cases hv343
              exact And.intro rfl rfl
            · refine W_seq ?_
              refine W_region ?_
              refine WO_step 2 [0, 1, 2] [3, 12, 40] (True ∧ True) ⟨[(3, .one (.e (.sl 2 0 x133.length))), (12, I i137), (40, B (decide (i137 = 3)))], [.cells [.sl 1 0 k2, cI (w64 ((w64 (i132 + 1)) + 1))], .row .u8 x1 false, .row .nod x133 true]⟩ (by kernel_rfl) ⟨trivial, trivial⟩ ?_
              refine WO_nil rfl ?_
              refine thenS_n ?_
              refine bindO_e hv343 (fun v374 hv374 hv343 => ?_)
              refine W_cut (Q' := fun (e : Exit) (s : St) => (match v374 with | (x371, k372, k373) => e = .normal ∧ s = ⟨[(3, .one (.e (.sl 2 k372 k373)))], [.cells [.sl 1 0 k2, cI (w64 ((w64 (i132 + 1)) + 1))], .row .u8 x1 false, .row .nod x371 true]⟩ : Prop)) ?_ ?_
              · refine iteO_e hv374 (fun hb375 hv374 => W_true rfl hb375 ?_) (fun hb375 hv374 => W_false rfl hb375 ?_)
                · refine W_region ?_
                  refine guardO_e hv374 (fun hg376 hv374 => ?_)
                  refine WO_step 3 [0, 1, 2] [3] ((0 ≤ (1 : Int) ∧ (1 : Int) ≤ ((x133.length : Nat) : Int)) ∧ True) ⟨[(3, .one (.e (.sl 2 1 (x133.length - 1))))], [.cells [.sl 1 0 k2, cI (w64 ((w64 (i132 + 1)) + 1))], .row .u8 x1 false, .row .nod x133 true]⟩ (by kernel_rfl) ⟨hg376, trivial⟩ ?_
                  refine WO_nil rfl ?_
                  cases hv374
                  exact And.intro rfl rfl
                · refine W_seq ?_
                  refine W_region ?_
                  refine WO_step 2 [0, 1, 2] [3, 44] (True ∧ True) ⟨[(3, .one (.e (.sl 2 0 x133.length))), (44, B (decide (i137 = 4)))], [.cells [.sl 1 0 k2, cI (w64 ((w64 (i132 + 1)) + 1))], .row .u8 x1 false, .row .nod x133 true]⟩ (by kernel_rfl) ⟨trivial, trivial⟩ ?_
                  refine WO_nil rfl ?_
                  refine thenS_n ?_
                  refine bindO_e hv374 (fun x394 hx394 hv374 => ?_)
                  refine W_cut (Q' := fun (e : Exit) (s : St) => e = .normal ∧ s = ⟨[(3, .one (.e (.sl 2 0 x394.length)))], [.cells [.sl 1 0 k2, cI (w64 ((w64 (i132 + 1)) + 1))], .row .u8 x1 false, .row .nod x394 true]⟩) ?_ ?_
                  · refine iteO_e hx394 (fun hb396 hx394 => W_true rfl hb396 ?_) (fun hb396 hx394 => W_false rfl hb396 ?_)
                    · refine W_block ?_
                      refine W_sub [0, 1, 2] [3] (st' := ⟨[(3, .one (.e (.sl 2 0 x133.length)))], [.cells [.sl 1 0 k2, cI (w64 ((w64 (i132 + 1)) + 1))], .row .u8 x1 false, .row .nod x133 true]⟩) (by kernel_rfl) ?_
                      refine W_loop ?_
                      refine bindO_e hx394 (fun x411 hx411 hx394 => ?_)
                      refine WL_cut (spec_anyTree_L1_ok w X θ k2 i132 x1 x411 n x133 hx411) ?_
                      rintro _ _ ⟨rfl, rfl⟩
                      refine blockS_y ?_
                      cases hx394
                      exact And.intro rfl rfl
                    · refine W_sub [0, 1, 2] [3] (st' := ⟨[(3, .one (.e (.sl 2 0 x133.length)))], [.cells [.sl 1 0 k2, cI (w64 ((w64 (i132 + 1)) + 1))], .row .u8 x1 false, .row .nod x133 true]⟩) (by kernel_rfl) ?_
                      refine W_skip ?_
                      cases hx394
                      exact And.intro rfl rfl
                  · rintro _ _ ⟨rfl, rfl⟩
                    cases hv374
                    exact And.intro rfl rfl
              · obtain ⟨x371, k372, k373⟩ := v374
                rintro _ _ ⟨rfl, rfl⟩
                cases hv343
                exact And.intro rfl rfl
          · obtain ⟨i339, x340, k341, k342⟩ := v343
            rintro _ _ ⟨rfl, rfl⟩
            cases hv301
            exact And.intro rfl rfl
      · obtain ⟨i297, x298, k299, k300⟩ := v301
        rintro _ _ ⟨rfl, rfl⟩
        cases hv250
        exact And.intro rfl rfl
  · obtain ⟨i246, x247, k248, k249⟩ := v250
    rintro _ _ ⟨rfl, rfl⟩
    refine blockS_n ?_
    refine thenS_n ?_
    refine W_seq ?_
    refine W_region ?_
    refine WO_step 2 [0, 1, 2] [2] True ⟨[(2, .one (.e (.sl 2 k248 k249)))], [.cells [.sl 1 0 k2, cI i246], .row .u8 x1 false, .row .nod x247 true]⟩ (by kernel_rfl) trivial ?_
    refine WO_nil rfl ?_
    refine thenS_n ?_
    refine W_ret ?_
    cases h
    exact ⟨[0, 1, 2], True, by kernel_rfl, trivial⟩

/- spec.DrawFormatTree -/
def spec_DrawFormatTree (n : Nat) (x1 : List Int) : Option ((List Nod) × Nat × Nat) :=
 bindO (spec_newReader x1) fun k13 =>
 bindO (spec_anyTree n x1 k13 0) fun (i15, x16, k17, k18) =>
 some (x16, k17, k18)

theorem spec_DrawFormatTree_ok (n : Nat) (x1 : List Int) (x10 : List Nod) (k11 : Nat) (k12 : Nat) (h : spec_DrawFormatTree n x1 = some (x10, k11, k12)) : FOk EE 21 [.one (.e (.sl 0 0 x1.length))] [.row .u8 x1 false] (.one (.e (.sl 1 k11 k12))) [.row .u8 x1 false, .row .nod x10 true] := by
  unfold spec_DrawFormatTree at h
  refine FOk_of_W 6 1 Tryd.func21 rfl rfl (Nat.le_of_ble_eq_true rfl) rfl (fun w X θ => ?_)
  refine W_seq ?_
  refine W_region ?_
  refine WO_step 1 [0] [0] True ⟨[(0, .one (.e (.sl 0 0 x1.length)))], [.row .u8 x1 false]⟩ (by kernel_rfl) trivial ?_
  refine WO_nil rfl ?_
  refine thenS_n ?_
  refine W_seq ?_
  refine W_region ?_
  refine WO_step 1 [0] [3] True ⟨[(3, .one (.e (.sl 0 0 x1.length)))], [.row .u8 x1 false]⟩ (by kernel_rfl) trivial ?_
  refine bindO_e h (fun k13 hc14 h => ?_)
  refine WO_call [.ro 0] Tryd.f31 rfl rfl rfl (by kernel_rfl) Tryd.func31 rfl (by kernel_rfl) (spec_newReader_ok x1 k13 hc14) (And.intro (And.intro rfl rfl) (trivial)) rfl ?_
  refine WO_sub [0, 1] [4] (st' := ⟨[(4, .one (.e (.p 1 0)))], [.row .u8 x1 false, .cells [.sl 0 0 k13, cI 0]]⟩) (by kernel_rfl) ?_
  refine bindO_e h (fun v20 hc19 h => ?_)
  obtain ⟨i15, x16, k17, k18⟩ := v20
  refine WO_call [.own 1, .ro 0] Tryd.f41 rfl rfl rfl (by kernel_rfl) Tryd.func41 rfl (by kernel_rfl) (spec_anyTree_ok n x1 k13 0 i15 x16 k17 k18 hc19) (And.intro (trivial) (And.intro (And.intro rfl rfl) (trivial))) rfl ?_
  refine WO_step 1 [0, 2] [2] True ⟨[(2, .one (.e (.sl 1 k17 k18)))], [.row .u8 x1 false, .row .nod x16 true]⟩ (by kernel_rfl) trivial ?_
  refine WO_nil rfl ?_
  refine thenS_n ?_
  refine W_ret ?_
  cases h
  exact ⟨[0, 1], True, by kernel_rfl, trivial⟩

/- impl.within -/
def impl_within (i1 : Int) (i2 : Int) (i3 : Int) : Bool :=
((decide (i2 ≤ i1)) && (decide (i1 ≤ i3)))

theorem impl_within_ok (i1 : Int) (i2 : Int) (i3 : Int) : FOk EE 49 [I i1, I i2, I i3] [] (B (impl_within i1 i2 i3)) [] := by
  refine FOk_of_W 15 0 Tryd.func49 rfl rfl (Nat.le_of_ble_eq_true rfl) rfl (fun w X θ => ?_)
  refine W_seq ?_
  refine W_region ?_
  refine WO_step 1 [] [0, 1, 2] True ⟨[(0, I i1), (1, I i2), (2, I i3)], []⟩ (by kernel_rfl) trivial ?_
  refine WO_nil rfl ?_
  refine thenS_n ?_
  refine W_seq ?_
  refine W_region ?_
  refine WO_step 4 [] [0, 2, 10] (True ∧ True) ⟨[(0, I i1), (2, I i3), (10, B (decide (i2 ≤ i1)))], []⟩ (by kernel_rfl) ⟨trivial, trivial⟩ ?_
  refine WO_thru ⟨[(6, B ((decide (i2 ≤ i1)) && (decide (i1 ≤ i3))))], []⟩ ?_ ?_
  · refine WO_if 10 rfl (fun hb10 => ?_) (fun hb10 => ?_)
    · refine WO_step 5 [] [6] (True ∧ True) ⟨[(6, B (decide (i1 ≤ i3)))], []⟩ (by kernel_rfl) ⟨trivial, trivial⟩ ?_
      exact WO_nil rfl ⟨rfl, by first | rfl | (rw [hb10]; first | done | rfl)⟩
    · refine WO_step 5 [] [6] True ⟨[(6, B false)], []⟩ (by kernel_rfl) trivial ?_
      exact WO_nil rfl ⟨rfl, by first | rfl | (rw [hb10]; first | done | rfl)⟩
  · refine thenS_n ?_
    refine W_ret ?_
    exact ⟨[], True, by kernel_rfl, trivial⟩

/- impl.isName -/
def impl_isName_L1 (s1 : Str) : Nat → Int → Option ((Unit) ⊕ (Unit))
| 0, _ => none
| n + 1, i96 =>
 iteO (decide (i96 < ((s1.length : Nat) : Int)))
 (guardO (0 ≤ i96 ∧ i96 < ((s1.length : Nat) : Int)) <|
 bindO (iteO (decide (((s1.getD i96.toNat 0).toNat : Int) < 97))
 (some true)
 (guardO (0 ≤ i96 ∧ i96 < ((s1.length : Nat) : Int)) <|
 some (decide (122 < ((s1.getD i96.toNat 0).toNat : Int))))) fun b133 =>
 iteO b133
 (some (.inl ()))
 (impl_isName_L1 s1 n (w64 (i96 + 1))))
 (some (.inr ()))

theorem impl_isName_L1_ok (w : World) (X : Nat → Prop) (θ : List Loc) (s1 : Str) (v : (Unit) ⊕ (Unit)) : ∀ (n : Nat) (i96 : Int), impl_isName_L1 s1 n i96 = some v → WL EE ⟨w, X, θ, 24, 0⟩ (subC [1, 1, 0, 1, 4, 4] (bodyC Tryd.f53)) (fun (e : Exit) (s : St) => (match v with | (.inl _) => e = .ret ∧ s = ⟨[(2, B false)], []⟩ | (.inr _) => e = .exit 0 ∧ s = ⟨[], []⟩ : Prop)) ⟨[(0, S s1), (9, I ((s1.length : Nat) : Int)), (10, I i96)], []⟩ := by
  intro n
  induction n with
  | zero => intro _ h; exact none_e h
  | succ n ih =>
    intro i96 h
    rw [impl_isName_L1] at h
    refine WL_round ?_
    refine W_seq ?_
    refine W_region ?_
    refine WO_step 1 [] [0, 9, 10, 11] (True ∧ True) ⟨[(0, S s1), (9, I ((s1.length : Nat) : Int)), (10, I i96), (11, B (decide (i96 < ((s1.length : Nat) : Int))))], []⟩ (by kernel_rfl) ⟨trivial, trivial⟩ ?_
    refine WO_nil rfl ?_
    refine thenS_n ?_
    refine W_seq ?_
    refine iteO_e h (fun hb120 h => W_true rfl hb120 ?_) (fun hb120 h => W_false rfl hb120 ?_)
    · refine W_sub [] [0, 9, 10] (st' := ⟨[(0, S s1), (9, I ((s1.length : Nat) : Int)), (10, I i96)], []⟩) (by kernel_rfl) ?_
      refine W_skip ?_
      refine thenS_n ?_
      refine W_seq ?_
      refine W_block ?_
      refine W_seq ?_
      refine W_region ?_
      refine WO_step 2 [] [0, 3, 9, 10] True ⟨[(0, S s1), (3, I i96), (9, I ((s1.length : Nat) : Int)), (10, I i96)], []⟩ (by kernel_rfl) trivial ?_
      refine WO_nil rfl ?_
      refine thenS_n ?_
      refine W_seq ?_
      refine W_region ?_
      refine guardO_e h (fun hg130 h => ?_)
      refine WO_step 5 [] [0, 3, 9, 10, 17] ((0 ≤ i96 ∧ i96 < ((s1.length : Nat) : Int)) ∧ (True ∧ True)) ⟨[(0, S s1), (3, I i96), (9, I ((s1.length : Nat) : Int)), (10, I i96), (17, B (decide (((s1.getD i96.toNat 0).toNat : Int) < 97)))], []⟩ (by kernel_rfl) ⟨hg130, trivial, trivial⟩ ?_
      refine bindO_e h (fun b133 hv134 h => ?_)
      refine WO_thru ⟨[(0, S s1), (9, I ((s1.length : Nat) : Int)), (10, I i96), (22, B b133)], []⟩ ?_ ?_
      · refine iteO_e hv134 (fun hb135 hv134 => WO_known 17 true rfl hb135 ?_) (fun hb135 hv134 => WO_known 17 false rfl hb135 ?_)
        · refine WO_step 5 [] [0, 9, 10, 22] True ⟨[(0, S s1), (9, I ((s1.length : Nat) : Int)), (10, I i96), (22, B true)], []⟩ (by kernel_rfl) trivial ?_
          cases hv134
          exact WO_nil rfl ⟨rfl, rfl⟩
        · refine guardO_e hv134 (fun hg136 hv134 => ?_)
          refine WO_step 5 [] [0, 9, 10, 22] ((0 ≤ i96 ∧ i96 < ((s1.length : Nat) : Int)) ∧ (True ∧ True)) ⟨[(0, S s1), (9, I ((s1.length : Nat) : Int)), (10, I i96), (22, B (decide (122 < ((s1.getD i96.toNat 0).toNat : Int))))], []⟩ (by kernel_rfl) ⟨hg136, trivial, trivial⟩ ?_
          cases hv134
          exact WO_nil rfl ⟨rfl, rfl⟩
      · refine thenS_n ?_
        refine iteO_e h (fun hb138 h => W_true rfl hb138 ?_) (fun hb138 h => W_false rfl hb138 ?_)
        · refine W_seq ?_
          refine W_region ?_
          refine WO_step 1 [] [2] True ⟨[(2, B false)], []⟩ (by kernel_rfl) trivial ?_
          refine WO_nil rfl ?_
          refine thenS_n ?_
          refine W_ret ?_
          refine blockS_r ?_
          refine thenS_r ?_
          refine thenS_r ?_
          cases h
          exact And.intro rfl rfl
        · refine W_sub [] [0, 9, 10] (st' := ⟨[(0, S s1), (9, I ((s1.length : Nat) : Int)), (10, I i96)], []⟩) (by kernel_rfl) ?_
          refine W_skip ?_
          refine blockS_n ?_
          refine thenS_n ?_
          refine W_region ?_
          refine WO_step 2 [] [0, 9, 10] (True ∧ True) ⟨[(0, S s1), (9, I ((s1.length : Nat) : Int)), (10, I (w64 (i96 + 1)))], []⟩ (by kernel_rfl) ⟨trivial, trivial⟩ ?_
          refine WO_nil rfl ?_
          refine thenS_n ?_
          exact ih _ h
    · refine W_sub [] [] (st' := ⟨[], []⟩) (by kernel_rfl) ?_
      refine W_exit ?_
      refine thenS_e ?_
      refine thenS_e ?_
      cases h
      exact And.intro rfl rfl

def impl_isName (n : Nat) (s1 : Str) : Option (Bool) :=
 iteO (!(impl_within ((s1.length : Nat) : Int) 1 4))
 (some false)
 (bindO (impl_isName_L1 s1 n 0) fun v139 =>
 match v139 with
 | (.inl _) => (some false)
 | (.inr _) => (some true)
)

theorem impl_isName_ok (n : Nat) (s1 : Str) (b70 : Bool) (h : impl_isName n s1 = some b70) : FOk EE 53 [S s1] [] (B b70) [] := by
  unfold impl_isName at h
  refine FOk_of_W 24 0 Tryd.func53 rfl rfl (Nat.le_of_ble_eq_true rfl) rfl (fun w X θ => ?_)
  refine W_seq ?_
  refine W_region ?_
  refine WO_step 1 [] [0] True ⟨[(0, S s1)], []⟩ (by kernel_rfl) trivial ?_
  refine WO_nil rfl ?_
  refine thenS_n ?_
  refine W_seq ?_
  refine W_seq ?_
  refine W_region ?_
  refine WO_step 2 [] [0, 5] (True ∧ True) ⟨[(0, S s1), (5, I ((s1.length : Nat) : Int))], []⟩ (by kernel_rfl) ⟨trivial, trivial⟩ ?_
  refine WO_call [] Tryd.f49 rfl rfl rfl (by kernel_rfl) Tryd.func49 rfl (by kernel_rfl) (impl_within_ok ((s1.length : Nat) : Int) 1 4) (trivial) rfl ?_
  refine WO_step 1 [] [0, 7] True ⟨[(0, S s1), (7, B (!(impl_within ((s1.length : Nat) : Int) 1 4)))], []⟩ (by kernel_rfl) trivial ?_
  refine WO_nil rfl ?_
  refine thenS_n ?_
  refine iteO_e h (fun hb72 h => W_true rfl hb72 ?_) (fun hb72 h => W_false rfl hb72 ?_)
  · refine W_seq ?_
    refine W_region ?_
    refine WO_step 1 [] [2] True ⟨[(2, B false)], []⟩ (by kernel_rfl) trivial ?_
    refine WO_nil rfl ?_
    refine thenS_n ?_
    refine W_ret ?_
    refine thenS_r ?_
    cases h
    exact ⟨[], True, by kernel_rfl, trivial⟩
  · refine W_sub [] [0] (st' := ⟨[(0, S s1)], []⟩) (by kernel_rfl) ?_
    refine W_skip ?_
    refine thenS_n ?_
    refine W_seq ?_
    refine W_seq ?_
    refine W_region ?_
    refine WO_step 3 [] [0, 9, 10] (True ∧ True) ⟨[(0, S s1), (9, I ((s1.length : Nat) : Int)), (10, I 0)], []⟩ (by kernel_rfl) ⟨trivial, trivial⟩ ?_
    refine WO_nil rfl ?_
    refine thenS_n ?_
    refine W_block ?_
    refine W_loop ?_
    refine bindO_e h (fun v139 hv139 h => ?_)
    refine WL_cut (impl_isName_L1_ok w X θ s1 v139 n 0 hv139) ?_
    rcases v139 with _ | _
    · rintro _ _ ⟨rfl, rfl⟩
      refine blockS_r ?_
      refine thenS_r ?_
      cases h
      exact ⟨[], True, by kernel_rfl, trivial⟩
    · rintro _ _ ⟨rfl, rfl⟩
      refine blockS_y ?_
      refine thenS_n ?_
      refine W_seq ?_
      refine W_region ?_
      refine WO_step 1 [] [2] True ⟨[(2, B true)], []⟩ (by kernel_rfl) trivial ?_
      refine WO_nil rfl ?_
      refine thenS_n ?_
      refine W_ret ?_
      cases h
      exact ⟨[], True, by kernel_rfl, trivial⟩

/- impl.kidIn -/
def impl_kidIn_L1 (i2 : Int) (s3 : Str) (x1 : List Nod) : Nat → Int → Option ((Int) ⊕ (Unit))
| 0, _ => none
| n + 1, i73 =>
 iteO (decide (i73 < ((x1.length : Nat) : Int)))
 (guardO (0 ≤ i73 ∧ i73 < ((x1.length : Nat) : Int)) <|
 iteO ((decide (((x1.getD i73.toNat dnod).parent) = i2)) && (decide (((x1.getD i73.toNat dnod).name) = s3)))
 (some (.inl i73))
 (impl_kidIn_L1 i2 s3 x1 n (w64 (i73 + 1))))
 (some (.inr ()))

theorem impl_kidIn_L1_ok (w : World) (X : Nat → Prop) (θ : List Loc) (i2 : Int) (s3 : Str) (x1 : List Nod) (v : (Int) ⊕ (Unit)) : ∀ (n : Nat) (i73 : Int), impl_kidIn_L1 i2 s3 x1 n i73 = some v → WL EE ⟨w, X, θ, 28, 1⟩ (subC [1, 0, 1, 4, 4] (bodyC Tryd.f54)) (fun (e : Exit) (s : St) => (match v with | (.inl i89) => e = .ret ∧ s = ⟨[(6, I i89)], [.row .nod x1 false]⟩ | (.inr _) => e = .exit 0 ∧ s = ⟨[], [.row .nod x1 false]⟩ : Prop)) ⟨[(1, I i2), (2, S s3), (9, .one (.e (.sl 0 0 x1.length))), (10, I ((x1.length : Nat) : Int)), (11, I i73)], [.row .nod x1 false]⟩ := by
  intro n
  induction n with
  | zero => intro _ h; exact none_e h
  | succ n ih =>
    intro i73 h
    rw [impl_kidIn_L1] at h
    refine WL_round ?_
    refine W_seq ?_
    refine W_region ?_
    refine WO_step 1 [0] [1, 2, 9, 10, 11, 12] (True ∧ True) ⟨[(1, I i2), (2, S s3), (9, .one (.e (.sl 0 0 x1.length))), (10, I ((x1.length : Nat) : Int)), (11, I i73), (12, B (decide (i73 < ((x1.length : Nat) : Int))))], [.row .nod x1 false]⟩ (by kernel_rfl) ⟨trivial, trivial⟩ ?_
    refine WO_nil rfl ?_
    refine thenS_n ?_
    refine W_seq ?_
    refine iteO_e h (fun hb92 h => W_true rfl hb92 ?_) (fun hb92 h => W_false rfl hb92 ?_)
    · refine W_sub [0] [1, 2, 9, 10, 11] (st' := ⟨[(1, I i2), (2, S s3), (9, .one (.e (.sl 0 0 x1.length))), (10, I ((x1.length : Nat) : Int)), (11, I i73)], [.row .nod x1 false]⟩) (by kernel_rfl) ?_
      refine W_skip ?_
      refine thenS_n ?_
      refine W_seq ?_
      refine W_block ?_
      refine W_seq ?_
      refine W_region ?_
      refine guardO_e h (fun hg99 h => ?_)
      refine WO_step 6 [0, 1] [1, 2, 7, 8, 9, 10, 11] ((0 ≤ i73 ∧ i73 < ((x1.length : Nat) : Int)) ∧ (True ∧ (True ∧ (True ∧ True)))) ⟨[(1, I i2), (2, S s3), (7, I i73), (8, .one (.e (.p 1 0))), (9, .one (.e (.sl 0 0 x1.length))), (10, I ((x1.length : Nat) : Int)), (11, I i73)], [.row .nod x1 false, .cells [cI ((x1.getD i73.toNat dnod).parent), cS ((x1.getD i73.toNat dnod).name), cI ((x1.getD i73.toNat dnod).value)]]⟩ (by kernel_rfl) ⟨hg99, trivial, trivial, trivial, trivial⟩ ?_
      refine WO_nil rfl ?_
      refine thenS_n ?_
      refine W_seq ?_
      refine W_region ?_
      refine WO_step 5 [0, 1] [1, 2, 7, 8, 9, 10, 11, 20] (True ∧ (True ∧ True)) ⟨[(1, I i2), (2, S s3), (7, I i73), (8, .one (.e (.p 1 0))), (9, .one (.e (.sl 0 0 x1.length))), (10, I ((x1.length : Nat) : Int)), (11, I i73), (20, B (decide (((x1.getD i73.toNat dnod).parent) = i2)))], [.row .nod x1 false, .cells [cI ((x1.getD i73.toNat dnod).parent), cS ((x1.getD i73.toNat dnod).name), cI ((x1.getD i73.toNat dnod).value)]]⟩ (by kernel_rfl) ⟨trivial, trivial, trivial⟩ ?_
      refine WO_thru ⟨[(1, I i2), (2, S s3), (7, I i73), (9, .one (.e (.sl 0 0 x1.length))), (10, I ((x1.length : Nat) : Int)), (11, I i73), (25, B ((decide (((x1.getD i73.toNat dnod).parent) = i2)) && (decide (((x1.getD i73.toNat dnod).name) = s3))))], [.row .nod x1 false]⟩ ?_ ?_
      · refine WO_if 20 rfl (fun hb102 => ?_) (fun hb102 => ?_)
        · refine WO_step 5 [0] [1, 2, 7, 9, 10, 11, 25] (True ∧ (True ∧ True)) ⟨[(1, I i2), (2, S s3), (7, I i73), (9, .one (.e (.sl 0 0 x1.length))), (10, I ((x1.length : Nat) : Int)), (11, I i73), (25, B (decide (((x1.getD i73.toNat dnod).name) = s3)))], [.row .nod x1 false]⟩ (by kernel_rfl) ⟨trivial, trivial, trivial⟩ ?_
          exact WO_nil rfl ⟨rfl, by first | rfl | (rw [hb102]; first | done | rfl)⟩
        · refine WO_step 5 [0] [1, 2, 7, 9, 10, 11, 25] True ⟨[(1, I i2), (2, S s3), (7, I i73), (9, .one (.e (.sl 0 0 x1.length))), (10, I ((x1.length : Nat) : Int)), (11, I i73), (25, B false)], [.row .nod x1 false]⟩ (by kernel_rfl) trivial ?_
          exact WO_nil rfl ⟨rfl, by first | rfl | (rw [hb102]; first | done | rfl)⟩
      · refine thenS_n ?_
        refine iteO_e h (fun hb104 h => W_true rfl hb104 ?_) (fun hb104 h => W_false rfl hb104 ?_)
        · refine W_seq ?_
          refine W_region ?_
          refine WO_step 2 [0] [6] True ⟨[(6, I i73)], [.row .nod x1 false]⟩ (by kernel_rfl) trivial ?_
          refine WO_nil rfl ?_
          refine thenS_n ?_
          refine W_ret ?_
          refine blockS_r ?_
          refine thenS_r ?_
          refine thenS_r ?_
          cases h
          exact And.intro rfl rfl
        · refine W_sub [0] [1, 2, 9, 10, 11] (st' := ⟨[(1, I i2), (2, S s3), (9, .one (.e (.sl 0 0 x1.length))), (10, I ((x1.length : Nat) : Int)), (11, I i73)], [.row .nod x1 false]⟩) (by kernel_rfl) ?_
          refine W_skip ?_
          refine blockS_n ?_
          refine thenS_n ?_
          refine W_region ?_
          refine WO_step 2 [0] [1, 2, 9, 10, 11] (True ∧ True) ⟨[(1, I i2), (2, S s3), (9, .one (.e (.sl 0 0 x1.length))), (10, I ((x1.length : Nat) : Int)), (11, I (w64 (i73 + 1)))], [.row .nod x1 false]⟩ (by kernel_rfl) ⟨trivial, trivial⟩ ?_
          refine WO_nil rfl ?_
          refine thenS_n ?_
          exact ih _ h
    · refine W_sub [0] [] (st' := ⟨[], [.row .nod x1 false]⟩) (by kernel_rfl) ?_
      refine W_exit ?_
      refine thenS_e ?_
      refine thenS_e ?_
      cases h
      exact And.intro rfl rfl

def impl_kidIn (n : Nat) (x1 : List Nod) (i2 : Int) (s3 : Str) : Option (Int) :=
 bindO (impl_kidIn_L1 i2 s3 x1 n 0) fun v105 =>
 match v105 with
 | (.inl i89) => (some i89)
 | (.inr _) => (some (-1))


theorem impl_kidIn_ok (n : Nat) (x1 : List Nod) (i2 : Int) (s3 : Str) (i54 : Int) (h : impl_kidIn n x1 i2 s3 = some i54) : FOk EE 54 [.one (.e (.sl 0 0 x1.length)), I i2, S s3] [.row .nod x1 false] (I i54) [.row .nod x1 false] := by
  unfold impl_kidIn at h
  refine FOk_of_W 28 1 Tryd.func54 rfl rfl (Nat.le_of_ble_eq_true rfl) rfl (fun w X θ => ?_)
  refine W_seq ?_
  refine W_region ?_
  refine WO_step 1 [0] [0, 1, 2] True ⟨[(0, .one (.e (.sl 0 0 x1.length))), (1, I i2), (2, S s3)], [.row .nod x1 false]⟩ (by kernel_rfl) trivial ?_
  refine WO_nil rfl ?_
  refine thenS_n ?_
  refine W_seq ?_
  refine W_seq ?_
  refine W_region ?_
  refine WO_step 3 [0] [1, 2, 9, 10, 11] (True ∧ True) ⟨[(1, I i2), (2, S s3), (9, .one (.e (.sl 0 0 x1.length))), (10, I ((x1.length : Nat) : Int)), (11, I 0)], [.row .nod x1 false]⟩ (by kernel_rfl) ⟨trivial, trivial⟩ ?_
  refine WO_nil rfl ?_
  refine thenS_n ?_
  refine W_block ?_
  refine W_loop ?_
  refine bindO_e h (fun v105 hv105 h => ?_)
  refine WL_cut (impl_kidIn_L1_ok w X θ i2 s3 x1 v105 n 0 hv105) ?_
  rcases v105 with i89 | _
  · rintro _ _ ⟨rfl, rfl⟩
    refine blockS_r ?_
    refine thenS_r ?_
    cases h
    exact ⟨[0], True, by kernel_rfl, trivial⟩
  · rintro _ _ ⟨rfl, rfl⟩
    refine blockS_y ?_
    refine thenS_n ?_
    refine W_seq ?_
    refine W_region ?_
    refine WO_step 1 [0] [6] True ⟨[(6, I (-1))], [.row .nod x1 false]⟩ (by kernel_rfl) trivial ?_
    refine WO_nil rfl ?_
    refine thenS_n ?_
    refine W_ret ?_
    cases h
    exact ⟨[0], True, by kernel_rfl, trivial⟩

/- impl.ValidTree -/
def impl_ValidTree_L1 (x1 : List Nod) : Nat → (List Int) → Int → Option ((Unit) ⊕ (Unit))
| 0, _, _ => none
| n + 1, x164, i165 =>
 iteO (decide (i165 < ((x1.length : Nat) : Int)))
 (bindO (guardO (0 ≤ i165 ∧ i165 < ((x1.length : Nat) : Int)) <|
 iteO (!(impl_within ((x1.getD i165.toNat dnod).value) (-1000) 1000))
 (some (.inl ()))
 (iteO (decide (i165 = 0))
 (some (.inr x164))
 (bindO (iteO (!(impl_within ((x1.getD i165.toNat dnod).parent) 0 (w64 (i165 - 1))))
 (some true)
 (bindO (impl_isName n ((x1.getD i165.toNat dnod).name)) fun b238 =>
 some (!b238))) fun b235 =>
 iteO b235
 (some (.inl ()))
 (guardO (0 ≤ i165 ∧ i165 ≤ ((x1.length : Nat) : Int)) <|
 bindO (impl_kidIn n ((x1.drop 0).take i165.toNat) ((x1.getD i165.toNat dnod).parent) ((x1.getD i165.toNat dnod).name)) fun i243 =>
 iteO (decide (0 ≤ i243))
 (some (.inl ()))
 (guardO (0 ≤ (x1.getD i165.toNat dnod).parent ∧ (x1.getD i165.toNat dnod).parent < ((x164.length : Nat) : Int)) <|
 guardO (0 ≤ i165 ∧ i165 < ((x164.length : Nat) : Int)) <|
 guardO (0 ≤ i165 ∧ i165 < (((x164.set i165.toNat (w64 ((x164.getD (((x1.getD i165.toNat dnod).parent).toNat) 0) + 1))).length : Nat) : Int)) <|
 iteO (decide (4 < ((x164.set i165.toNat (w64 ((x164.getD (((x1.getD i165.toNat dnod).parent).toNat) 0) + 1))).getD i165.toNat 0)))
 (some (.inl ()))
 (some (.inr (x164.set i165.toNat (w64 ((x164.getD (((x1.getD i165.toNat dnod).parent).toNat) 0) + 1))))))))) : Option ((Unit) ⊕ ((List Int)))) fun v226 =>
 match v226 with
 | (.inl _) => (some (.inl ()))
 | (.inr x225) => (impl_ValidTree_L1 x1 n x225 (w64 (i165 + 1)))
)
 (some (.inr ()))

theorem impl_ValidTree_L1_ok (w : World) (X : Nat → Prop) (θ : List Loc) (x1 : List Nod) (v : (Unit) ⊕ (Unit)) : ∀ (n : Nat) (x164 : List Int) (i165 : Int), impl_ValidTree_L1 x1 n x164 i165 = some v → WL EE ⟨w, X, θ, 78, 1⟩ (subC [1, 1, 1, 1, 0, 1, 4, 4] (bodyC Tryd.f38)) (fun (e : Exit) (s : St) => (match v with | (.inl _) => e = .ret ∧ s = ⟨[(2, B false)], [.row .nod x1 false]⟩ | (.inr _) => e = .exit 0 ∧ s = ⟨[], [.row .nod x1 false]⟩ : Prop)) ⟨[(0, .one (.e (.sl 0 0 x1.length))), (3, .one (.e (.sl 1 0 x164.length))), (29, .one (.e (.sl 0 0 x1.length))), (30, I ((x1.length : Nat) : Int)), (31, I i165)], [.row .nod x1 false, .row .int x164 true]⟩ := by
  intro n
  induction n with
  | zero => intro _ _ h; exact none_e h
  | succ n ih =>
    intro x164 i165 h
    rw [impl_ValidTree_L1] at h
    refine WL_round ?_
    refine W_seq ?_
    refine W_region ?_
    refine WO_step 1 [0, 1] [0, 3, 29, 30, 31, 32] (True ∧ True) ⟨[(0, .one (.e (.sl 0 0 x1.length))), (3, .one (.e (.sl 1 0 x164.length))), (29, .one (.e (.sl 0 0 x1.length))), (30, I ((x1.length : Nat) : Int)), (31, I i165), (32, B (decide (i165 < ((x1.length : Nat) : Int))))], [.row .nod x1 false, .row .int x164 true]⟩ (by kernel_rfl) ⟨trivial, trivial⟩ ?_
    refine WO_nil rfl ?_
    refine thenS_n ?_
    refine W_seq ?_
    refine iteO_e h (fun hb199 h => W_true rfl hb199 ?_) (fun hb199 h => W_false rfl hb199 ?_)
    · refine W_sub [0, 1] [0, 3, 29, 30, 31] (st' := ⟨[(0, .one (.e (.sl 0 0 x1.length))), (3, .one (.e (.sl 1 0 x164.length))), (29, .one (.e (.sl 0 0 x1.length))), (30, I ((x1.length : Nat) : Int)), (31, I i165)], [.row .nod x1 false, .row .int x164 true]⟩) (by kernel_rfl) ?_
      refine W_skip ?_
      refine thenS_n ?_
      refine W_seq ?_
      refine bindO_e h (fun v226 hv226 h => ?_)
      refine W_cut (Q' := fun (e : Exit) (s : St) => (match v226 with | (.inl _) => e = .ret ∧ s = ⟨[(2, B false)], [.row .nod x1 false]⟩ | (.inr x225) => e = .normal ∧ s = ⟨[(0, .one (.e (.sl 0 0 x1.length))), (3, .one (.e (.sl 1 0 x225.length))), (29, .one (.e (.sl 0 0 x1.length))), (30, I ((x1.length : Nat) : Int)), (31, I i165)], [.row .nod x1 false, .row .int x225 true]⟩ : Prop)) ?_ ?_
      · refine W_block ?_
        refine W_seq ?_
        refine W_region ?_
        refine guardO_e hv226 (fun hg227 hv226 => ?_)
        refine WO_step 6 [0, 1, 2] [0, 3, 4, 5, 29, 30, 31] ((0 ≤ i165 ∧ i165 < ((x1.length : Nat) : Int)) ∧ (True ∧ (True ∧ (True ∧ True)))) ⟨[(0, .one (.e (.sl 0 0 x1.length))), (3, .one (.e (.sl 1 0 x164.length))), (4, I i165), (5, .one (.e (.p 2 0))), (29, .one (.e (.sl 0 0 x1.length))), (30, I ((x1.length : Nat) : Int)), (31, I i165)], [.row .nod x1 false, .row .int x164 true, .cells [cI ((x1.getD i165.toNat dnod).parent), cS ((x1.getD i165.toNat dnod).name), cI ((x1.getD i165.toNat dnod).value)]]⟩ (by kernel_rfl) ⟨hg227, trivial, trivial, trivial, trivial⟩ ?_
        refine WO_nil rfl ?_
        refine thenS_n ?_
        refine W_seq ?_
        refine W_seq ?_
        refine W_region ?_
        refine WO_step 2 [0, 1, 2] [0, 3, 4, 5, 29, 30, 31, 37] (True ∧ True) ⟨[(0, .one (.e (.sl 0 0 x1.length))), (3, .one (.e (.sl 1 0 x164.length))), (4, I i165), (5, .one (.e (.p 2 0))), (29, .one (.e (.sl 0 0 x1.length))), (30, I ((x1.length : Nat) : Int)), (31, I i165), (37, I ((x1.getD i165.toNat dnod).value))], [.row .nod x1 false, .row .int x164 true, .cells [cI ((x1.getD i165.toNat dnod).parent), cS ((x1.getD i165.toNat dnod).name), cI ((x1.getD i165.toNat dnod).value)]]⟩ (by kernel_rfl) ⟨trivial, trivial⟩ ?_
        refine WO_call [] Tryd.f49 rfl rfl rfl (by kernel_rfl) Tryd.func49 rfl (by kernel_rfl) (impl_within_ok ((x1.getD i165.toNat dnod).value) (-1000) 1000) (trivial) rfl ?_
        refine WO_step 1 [0, 1, 2] [0, 3, 4, 5, 29, 30, 31, 39] True ⟨[(0, .one (.e (.sl 0 0 x1.length))), (3, .one (.e (.sl 1 0 x164.length))), (4, I i165), (5, .one (.e (.p 2 0))), (29, .one (.e (.sl 0 0 x1.length))), (30, I ((x1.length : Nat) : Int)), (31, I i165), (39, B (!(impl_within ((x1.getD i165.toNat dnod).value) (-1000) 1000)))], [.row .nod x1 false, .row .int x164 true, .cells [cI ((x1.getD i165.toNat dnod).parent), cS ((x1.getD i165.toNat dnod).name), cI ((x1.getD i165.toNat dnod).value)]]⟩ (by kernel_rfl) trivial ?_
        refine WO_nil rfl ?_
        refine thenS_n ?_
        refine iteO_e hv226 (fun hb229 hv226 => W_true rfl hb229 ?_) (fun hb229 hv226 => W_false rfl hb229 ?_)
        · refine W_seq ?_
          refine W_region ?_
          refine WO_step 1 [0] [2] True ⟨[(2, B false)], [.row .nod x1 false]⟩ (by kernel_rfl) trivial ?_
          refine WO_nil rfl ?_
          refine thenS_n ?_
          refine W_ret ?_
          refine thenS_r ?_
          refine blockS_r ?_
          cases hv226
          exact And.intro rfl rfl
        · refine W_sub [0, 1, 2] [0, 3, 4, 5, 29, 30, 31] (st' := ⟨[(0, .one (.e (.sl 0 0 x1.length))), (3, .one (.e (.sl 1 0 x164.length))), (4, I i165), (5, .one (.e (.p 2 0))), (29, .one (.e (.sl 0 0 x1.length))), (30, I ((x1.length : Nat) : Int)), (31, I i165)], [.row .nod x1 false, .row .int x164 true, .cells [cI ((x1.getD i165.toNat dnod).parent), cS ((x1.getD i165.toNat dnod).name), cI ((x1.getD i165.toNat dnod).value)]]⟩) (by kernel_rfl) ?_
          refine W_skip ?_
          refine thenS_n ?_
          refine W_seq ?_
          refine W_seq ?_
          refine W_region ?_
          refine WO_step 2 [0, 1, 2] [0, 3, 4, 5, 29, 30, 31, 41] (True ∧ True) ⟨[(0, .one (.e (.sl 0 0 x1.length))), (3, .one (.e (.sl 1 0 x164.length))), (4, I i165), (5, .one (.e (.p 2 0))), (29, .one (.e (.sl 0 0 x1.length))), (30, I ((x1.length : Nat) : Int)), (31, I i165), (41, B (decide (i165 = 0)))], [.row .nod x1 false, .row .int x164 true, .cells [cI ((x1.getD i165.toNat dnod).parent), cS ((x1.getD i165.toNat dnod).name), cI ((x1.getD i165.toNat dnod).value)]]⟩ (by kernel_rfl) ⟨trivial, trivial⟩ ?_
          refine WO_nil rfl ?_
          refine thenS_n ?_
          refine iteO_e hv226 (fun hb231 hv226 => W_true rfl hb231 ?_) (fun hb231 hv226 => W_false rfl hb231 ?_)
          · refine W_sub [0, 1] [0, 3, 29, 30, 31] (st' := ⟨[(0, .one (.e (.sl 0 0 x1.length))), (3, .one (.e (.sl 1 0 x164.length))), (29, .one (.e (.sl 0 0 x1.length))), (30, I ((x1.length : Nat) : Int)), (31, I i165)], [.row .nod x1 false, .row .int x164 true]⟩) (by kernel_rfl) ?_
            refine W_exit ?_
            refine thenS_e ?_
            refine blockS_y ?_
            cases hv226
            exact And.intro rfl rfl
          · refine W_sub [0, 1, 2] [0, 3, 4, 5, 29, 30, 31] (st' := ⟨[(0, .one (.e (.sl 0 0 x1.length))), (3, .one (.e (.sl 1 0 x164.length))), (4, I i165), (5, .one (.e (.p 2 0))), (29, .one (.e (.sl 0 0 x1.length))), (30, I ((x1.length : Nat) : Int)), (31, I i165)], [.row .nod x1 false, .row .int x164 true, .cells [cI ((x1.getD i165.toNat dnod).parent), cS ((x1.getD i165.toNat dnod).name), cI ((x1.getD i165.toNat dnod).value)]]⟩) (by kernel_rfl) ?_
            refine W_skip ?_
            refine thenS_n ?_
            refine W_seq ?_
            refine W_seq ?_
            refine W_region ?_
            refine WO_step 4 [0, 1, 2] [0, 3, 4, 5, 29, 30, 31, 43, 45] (True ∧ (True ∧ True)) ⟨[(0, .one (.e (.sl 0 0 x1.length))), (3, .one (.e (.sl 1 0 x164.length))), (4, I i165), (5, .one (.e (.p 2 0))), (29, .one (.e (.sl 0 0 x1.length))), (30, I ((x1.length : Nat) : Int)), (31, I i165), (43, I ((x1.getD i165.toNat dnod).parent)), (45, I (w64 (i165 - 1)))], [.row .nod x1 false, .row .int x164 true, .cells [cI ((x1.getD i165.toNat dnod).parent), cS ((x1.getD i165.toNat dnod).name), cI ((x1.getD i165.toNat dnod).value)]]⟩ (by kernel_rfl) ⟨trivial, trivial, trivial⟩ ?_
            refine WO_call [] Tryd.f49 rfl rfl rfl (by kernel_rfl) Tryd.func49 rfl (by kernel_rfl) (impl_within_ok ((x1.getD i165.toNat dnod).parent) 0 (w64 (i165 - 1))) (trivial) rfl ?_
            refine WO_step 2 [0, 1, 2] [0, 3, 4, 5, 29, 30, 31, 48] True ⟨[(0, .one (.e (.sl 0 0 x1.length))), (3, .one (.e (.sl 1 0 x164.length))), (4, I i165), (5, .one (.e (.p 2 0))), (29, .one (.e (.sl 0 0 x1.length))), (30, I ((x1.length : Nat) : Int)), (31, I i165), (48, B (!(impl_within ((x1.getD i165.toNat dnod).parent) 0 (w64 (i165 - 1)))))], [.row .nod x1 false, .row .int x164 true, .cells [cI ((x1.getD i165.toNat dnod).parent), cS ((x1.getD i165.toNat dnod).name), cI ((x1.getD i165.toNat dnod).value)]]⟩ (by kernel_rfl) trivial ?_
            refine bindO_e hv226 (fun b235 hv236 hv226 => ?_)
            refine WO_thru ⟨[(0, .one (.e (.sl 0 0 x1.length))), (3, .one (.e (.sl 1 0 x164.length))), (4, I i165), (5, .one (.e (.p 2 0))), (29, .one (.e (.sl 0 0 x1.length))), (30, I ((x1.length : Nat) : Int)), (31, I i165), (53, B b235)], [.row .nod x1 false, .row .int x164 true, .cells [cI ((x1.getD i165.toNat dnod).parent), cS ((x1.getD i165.toNat dnod).name), cI ((x1.getD i165.toNat dnod).value)]]⟩ ?_ ?_
            · refine iteO_e hv236 (fun hb237 hv236 => WO_known 48 true rfl hb237 ?_) (fun hb237 hv236 => WO_known 48 false rfl hb237 ?_)
              · refine WO_step 5 [0, 1, 2] [0, 3, 4, 5, 29, 30, 31, 53] True ⟨[(0, .one (.e (.sl 0 0 x1.length))), (3, .one (.e (.sl 1 0 x164.length))), (4, I i165), (5, .one (.e (.p 2 0))), (29, .one (.e (.sl 0 0 x1.length))), (30, I ((x1.length : Nat) : Int)), (31, I i165), (53, B true)], [.row .nod x1 false, .row .int x164 true, .cells [cI ((x1.getD i165.toNat dnod).parent), cS ((x1.getD i165.toNat dnod).name), cI ((x1.getD i165.toNat dnod).value)]]⟩ (by kernel_rfl) trivial ?_
                cases hv236
                exact WO_nil rfl ⟨rfl, rfl⟩
              · refine WO_step 2 [0, 1, 2] [0, 3, 4, 5, 29, 30, 31, 48, 50] (True ∧ True) ⟨[(0, .one (.e (.sl 0 0 x1.length))), (3, .one (.e (.sl 1 0 x164.length))), (4, I i165), (5, .one (.e (.p 2 0))), (29, .one (.e (.sl 0 0 x1.length))), (30, I ((x1.length : Nat) : Int)), (31, I i165), (48, B false), (50, S ((x1.getD i165.toNat dnod).name))], [.row .nod x1 false, .row .int x164 true, .cells [cI ((x1.getD i165.toNat dnod).parent), cS ((x1.getD i165.toNat dnod).name), cI ((x1.getD i165.toNat dnod).value)]]⟩ (by kernel_rfl) ⟨trivial, trivial⟩ ?_
                refine bindO_e hv236 (fun b238 hc239 hv236 => ?_)
                refine WO_call [] Tryd.f53 rfl rfl rfl (by kernel_rfl) Tryd.func53 rfl (by kernel_rfl) (impl_isName_ok n ((x1.getD i165.toNat dnod).name) b238 hc239) (trivial) rfl ?_
                refine WO_step 2 [0, 1, 2] [0, 3, 4, 5, 29, 30, 31, 53] True ⟨[(0, .one (.e (.sl 0 0 x1.length))), (3, .one (.e (.sl 1 0 x164.length))), (4, I i165), (5, .one (.e (.p 2 0))), (29, .one (.e (.sl 0 0 x1.length))), (30, I ((x1.length : Nat) : Int)), (31, I i165), (53, B (!b238))], [.row .nod x1 false, .row .int x164 true, .cells [cI ((x1.getD i165.toNat dnod).parent), cS ((x1.getD i165.toNat dnod).name), cI ((x1.getD i165.toNat dnod).value)]]⟩ (by kernel_rfl) trivial ?_
                cases hv236
                exact WO_nil rfl ⟨rfl, rfl⟩
            · refine thenS_n ?_
              refine iteO_e hv226 (fun hb241 hv226 => W_true rfl hb241 ?_) (fun hb241 hv226 => W_false rfl hb241 ?_)
              · refine W_seq ?_
                refine W_region ?_
                refine WO_step 1 [0] [2] True ⟨[(2, B false)], [.row .nod x1 false]⟩ (by kernel_rfl) trivial ?_
                refine WO_nil rfl ?_
                refine thenS_n ?_
                refine W_ret ?_
                refine thenS_r ?_
                refine blockS_r ?_
                cases hv226
                exact And.intro rfl rfl
              · refine W_sub [0, 1, 2] [0, 3, 4, 5, 29, 30, 31] (st' := ⟨[(0, .one (.e (.sl 0 0 x1.length))), (3, .one (.e (.sl 1 0 x164.length))), (4, I i165), (5, .one (.e (.p 2 0))), (29, .one (.e (.sl 0 0 x1.length))), (30, I ((x1.length : Nat) : Int)), (31, I i165)], [.row .nod x1 false, .row .int x164 true, .cells [cI ((x1.getD i165.toNat dnod).parent), cS ((x1.getD i165.toNat dnod).name), cI ((x1.getD i165.toNat dnod).value)]]⟩) (by kernel_rfl) ?_
                refine W_skip ?_
                refine thenS_n ?_
                refine W_seq ?_
                refine W_seq ?_
                refine guardO_e hv226 (fun hg242 hv226 => ?_)
                refine bindO_e hv226 (fun i243 hc244 hv226 => ?_)
                refine W_cut (Q' := fun (e : Exit) (s : St) => e = .normal ∧ s = ⟨[(0, .one (.e (.sl 0 0 x1.length))), (3, .one (.e (.sl 1 0 x164.length))), (4, I i165), (5, .one (.e (.p 2 0))), (29, .one (.e (.sl 0 0 x1.length))), (30, I ((x1.length : Nat) : Int)), (31, I i165), (62, B (decide (0 ≤ i243)))], [.row .nod x1 false, .row .int x164 true, .cells [cI ((x1.getD i165.toNat dnod).parent), cS ((x1.getD i165.toNat dnod).name), cI ((x1.getD i165.toNat dnod).value)]]⟩) ?_ ?_
                · refine W_draw [] false (by kernel_rfl) (by kernel_rfl) ?_
                  refine WD_takeK [0, 1, 3, 4, 5, 6] [0, 3, 4, 5, 29, 30, 31, 54, 55, 58, 60] [0, 3, 4, 5, 29, 30, 31, 54, 55, 58, 60] (φ := (True ∧ True ∧ (True ∧ True ∧ True))) (ls' := #[true, true, false, true, true, true, true, false, false]) (Ts' := [(0, .one (.e (.sl 0 0 x1.length))), (3, .one (.e (.sl 1 0 x164.length))), (4, I i165), (5, .one (.e (.p 2 0))), (29, .one (.e (.sl 0 0 x1.length))), (30, I ((x1.length : Nat) : Int)), (31, I i165), (54, .one (.e (.sl 0 0 x1.length))), (55, I i165), (58, I ((x1.getD i165.toNat dnod).parent)), (60, S ((x1.getD i165.toNat dnod).name))]) (st' := ⟨[(0, .one (.e (.sl 0 0 x1.length))), (3, .one (.e (.sl 1 0 x164.length))), (4, I i165), (5, .one (.e (.p 2 0))), (29, .one (.e (.sl 0 0 x1.length))), (30, I ((x1.length : Nat) : Int)), (31, I i165), (54, .one (.e (.sl 0 0 x1.length))), (55, I i165), (58, I ((x1.getD i165.toNat dnod).parent)), (60, S ((x1.getD i165.toNat dnod).name))], [.row .nod x1 false, .row .int x164 true, .cells [cI ((x1.getD i165.toNat dnod).parent), cS ((x1.getD i165.toNat dnod).name), cI ((x1.getD i165.toNat dnod).value)]]⟩) (n2 := 3) (by kernel_rfl) ⟨trivial, trivial, trivial, trivial, trivial⟩ rfl ?_
                  refine WD_all [2] (n := 2) (by kernel_rfl) rfl ?_
                  refine WM_op (φ := 0 ≤ i165 ∧ i165 ≤ ((x1.length : Nat) : Int)) (v := .one (.e (.sl 0 0 i165.toNat))) (H' := [.row .nod x1 false, .row .int x164 true, .cells [cI ((x1.getD i165.toNat dnod).parent), cS ((x1.getD i165.toNat dnod).name), cI ((x1.getD i165.toNat dnod).value)]]) rfl rfl (by kernel_rfl) hg242 rfl (And.intro rfl (And.intro rfl (And.intro (And.intro rfl rfl) (trivial)))) ?_
                  refine WD_all [7] (n := 1) (by kernel_rfl) rfl ?_
                  refine WM_call [.view 0] Tryd.f54 rfl rfl (by kernel_rfl) Tryd.func54 rfl (by kernel_rfl) (impl_kidIn_ok n ((x1.drop 0).take i165.toNat) ((x1.getD i165.toNat dnod).parent) ((x1.getD i165.toNat dnod).name) i243 hc244) (trivial) rfl (And.intro rfl (And.intro rfl (And.intro (And.intro rfl rfl) (trivial)))) ?_
                  refine WD_takeK [8] [0, 3, 4, 5, 29, 30, 31, 62] [0, 3, 4, 5, 29, 30, 31, 62] (φ := (True ∧ True ∧ True)) (ls' := #[true, true, true, true, true, true, true, true, true]) (Ts' := [(0, .one (.e (.sl 0 0 x1.length))), (3, .one (.e (.sl 1 0 x164.length))), (4, I i165), (5, .one (.e (.p 2 0))), (29, .one (.e (.sl 0 0 x1.length))), (30, I ((x1.length : Nat) : Int)), (31, I i165), (62, B (decide (0 ≤ i243)))]) (st' := ⟨[(0, .one (.e (.sl 0 0 x1.length))), (3, .one (.e (.sl 1 0 x164.length))), (4, I i165), (5, .one (.e (.p 2 0))), (29, .one (.e (.sl 0 0 x1.length))), (30, I ((x1.length : Nat) : Int)), (31, I i165), (62, B (decide (0 ≤ i243)))], [.row .nod x1 false, .row .int x164 true, .cells [cI ((x1.getD i165.toNat dnod).parent), cS ((x1.getD i165.toNat dnod).name), cI ((x1.getD i165.toNat dnod).value)]]⟩) (n2 := 0) (by kernel_rfl) ⟨trivial, trivial, trivial⟩ rfl ?_
                  exact WD_done [0, 1, 2] [0, 3, 4, 5, 29, 30, 31, 62] (st' := ⟨[(0, .one (.e (.sl 0 0 x1.length))), (3, .one (.e (.sl 1 0 x164.length))), (4, I i165), (5, .one (.e (.p 2 0))), (29, .one (.e (.sl 0 0 x1.length))), (30, I ((x1.length : Nat) : Int)), (31, I i165), (62, B (decide (0 ≤ i243)))], [.row .nod x1 false, .row .int x164 true, .cells [cI ((x1.getD i165.toNat dnod).parent), cS ((x1.getD i165.toNat dnod).name), cI ((x1.getD i165.toNat dnod).value)]]⟩) (by kernel_rfl) (by kernel_rfl) (And.intro rfl rfl)
                · rintro _ _ ⟨rfl, rfl⟩
                  refine thenS_n ?_
                  refine iteO_e hv226 (fun hb246 hv226 => W_true rfl hb246 ?_) (fun hb246 hv226 => W_false rfl hb246 ?_)
                  · refine W_seq ?_
                    refine W_region ?_
                    refine WO_step 1 [0] [2] True ⟨[(2, B false)], [.row .nod x1 false]⟩ (by kernel_rfl) trivial ?_
                    refine WO_nil rfl ?_
                    refine thenS_n ?_
                    refine W_ret ?_
                    refine thenS_r ?_
                    refine blockS_r ?_
                    cases hv226
                    exact And.intro rfl rfl
                  · refine W_sub [0, 1, 2] [0, 3, 4, 5, 29, 30, 31] (st' := ⟨[(0, .one (.e (.sl 0 0 x1.length))), (3, .one (.e (.sl 1 0 x164.length))), (4, I i165), (5, .one (.e (.p 2 0))), (29, .one (.e (.sl 0 0 x1.length))), (30, I ((x1.length : Nat) : Int)), (31, I i165)], [.row .nod x1 false, .row .int x164 true, .cells [cI ((x1.getD i165.toNat dnod).parent), cS ((x1.getD i165.toNat dnod).name), cI ((x1.getD i165.toNat dnod).value)]]⟩) (by kernel_rfl) ?_
                    refine W_skip ?_
                    refine thenS_n ?_
                    refine W_seq ?_
                    refine W_region ?_
                    refine guardO_e hv226 (fun hg247 hv226 => ?_)
                    refine guardO_e hv226 (fun hg248 hv226 => ?_)
                    refine WO_step 10 [0, 1] [0, 3, 4, 29, 30, 31] (True ∧ ((0 ≤ (x1.getD i165.toNat dnod).parent ∧ (x1.getD i165.toNat dnod).parent < ((x164.length : Nat) : Int)) ∧ (True ∧ (True ∧ ((0 ≤ i165 ∧ i165 < ((x164.length : Nat) : Int)) ∧ (True ∧ True)))))) ⟨[(0, .one (.e (.sl 0 0 x1.length))), (3, .one (.e (.sl 1 0 x164.length))), (4, I i165), (29, .one (.e (.sl 0 0 x1.length))), (30, I ((x1.length : Nat) : Int)), (31, I i165)], [.row .nod x1 false, .row .int (x164.set i165.toNat (w64 ((x164.getD (((x1.getD i165.toNat dnod).parent).toNat) 0) + 1))) true]⟩ (by kernel_rfl) ⟨trivial, hg247, trivial, trivial, hg248, trivial, trivial⟩ ?_
                    refine WO_eq (st' := ⟨[(0, .one (.e (.sl 0 0 x1.length))), (3, .one (.e (.sl 1 0 ((x164.set i165.toNat (w64 ((x164.getD (((x1.getD i165.toNat dnod).parent).toNat) 0) + 1))).length)))), (4, I i165), (29, .one (.e (.sl 0 0 x1.length))), (30, I ((x1.length : Nat) : Int)), (31, I i165)], [.row .nod x1 false, .row .int (x164.set i165.toNat (w64 ((x164.getD (((x1.getD i165.toNat dnod).parent).toNat) 0) + 1))) true]⟩) (by simp only [List.length_set]) ?_
                    refine WO_nil rfl ?_
                    refine thenS_n ?_
                    refine W_seq ?_
                    refine W_region ?_
                    refine guardO_e hv226 (fun hg249 hv226 => ?_)
                    refine WO_step 5 [0, 1] [0, 3, 29, 30, 31, 76] ((0 ≤ i165 ∧ i165 < (((x164.set i165.toNat (w64 ((x164.getD (((x1.getD i165.toNat dnod).parent).toNat) 0) + 1))).length : Nat) : Int)) ∧ (True ∧ (True ∧ True))) ⟨[(0, .one (.e (.sl 0 0 x1.length))), (3, .one (.e (.sl 1 0 ((x164.set i165.toNat (w64 ((x164.getD (((x1.getD i165.toNat dnod).parent).toNat) 0) + 1))).length)))), (29, .one (.e (.sl 0 0 x1.length))), (30, I ((x1.length : Nat) : Int)), (31, I i165), (76, B (decide (4 < ((x164.set i165.toNat (w64 ((x164.getD (((x1.getD i165.toNat dnod).parent).toNat) 0) + 1))).getD i165.toNat 0))))], [.row .nod x1 false, .row .int (x164.set i165.toNat (w64 ((x164.getD (((x1.getD i165.toNat dnod).parent).toNat) 0) + 1))) true]⟩ (by kernel_rfl) ⟨hg249, trivial, trivial, trivial⟩ ?_
                    refine WO_nil rfl ?_
                    refine thenS_n ?_
                    refine iteO_e hv226 (fun hb251 hv226 => W_true rfl hb251 ?_) (fun hb251 hv226 => W_false rfl hb251 ?_)
                    · refine W_seq ?_
                      refine W_region ?_
                      refine WO_step 1 [0] [2] True ⟨[(2, B false)], [.row .nod x1 false]⟩ (by kernel_rfl) trivial ?_
                      refine WO_nil rfl ?_
                      refine thenS_n ?_
                      refine W_ret ?_
                      refine blockS_r ?_
                      cases hv226
                      exact And.intro rfl rfl
                    · refine W_sub [0, 1] [0, 3, 29, 30, 31] (st' := ⟨[(0, .one (.e (.sl 0 0 x1.length))), (3, .one (.e (.sl 1 0 ((x164.set i165.toNat (w64 ((x164.getD (((x1.getD i165.toNat dnod).parent).toNat) 0) + 1))).length)))), (29, .one (.e (.sl 0 0 x1.length))), (30, I ((x1.length : Nat) : Int)), (31, I i165)], [.row .nod x1 false, .row .int (x164.set i165.toNat (w64 ((x164.getD (((x1.getD i165.toNat dnod).parent).toNat) 0) + 1))) true]⟩) (by kernel_rfl) ?_
                      refine W_skip ?_
                      refine blockS_n ?_
                      cases hv226
                      exact And.intro rfl rfl
      · rcases v226 with _ | x225
        · rintro _ _ ⟨rfl, rfl⟩
          refine thenS_r ?_
          refine thenS_r ?_
          cases h
          exact And.intro rfl rfl
        · rintro _ _ ⟨rfl, rfl⟩
          refine thenS_n ?_
          refine W_region ?_
          refine WO_step 2 [0, 1] [0, 3, 29, 30, 31] (True ∧ True) ⟨[(0, .one (.e (.sl 0 0 x1.length))), (3, .one (.e (.sl 1 0 x225.length))), (29, .one (.e (.sl 0 0 x1.length))), (30, I ((x1.length : Nat) : Int)), (31, I (w64 (i165 + 1)))], [.row .nod x1 false, .row .int x225 true]⟩ (by kernel_rfl) ⟨trivial, trivial⟩ ?_
          refine WO_nil rfl ?_
          refine thenS_n ?_
          exact ih _ _ h
    · refine W_sub [0] [] (st' := ⟨[], [.row .nod x1 false]⟩) (by kernel_rfl) ?_
      refine W_exit ?_
      refine thenS_e ?_
      refine thenS_e ?_
      cases h
      exact And.intro rfl rfl

def impl_ValidTree (n : Nat) (x1 : List Nod) : Option (Bool) :=
 iteO ((decide (((x1.length : Nat) : Int) < 1)) || (decide (12 < ((x1.length : Nat) : Int))))
 (some false)
 (guardO (0 ≤ (0 : Int) ∧ (0 : Int) < ((x1.length : Nat) : Int)) <|
 bindO (iteO (!decide (((x1.getD 0 dnod).parent) = (-1)))
 (some true)
 (guardO (0 ≤ (0 : Int) ∧ (0 : Int) < ((x1.length : Nat) : Int)) <|
 some (!decide (((x1.getD 0 dnod).name) = [])))) fun b123 =>
 iteO b123
 (some false)
 (guardO ((((x1.length : Nat) : Int) : Int) = ((x1.length : Nat) : Int) ∧ 0 ≤ ((x1.length : Nat) : Int) ∧ ((x1.length : Nat) : Int) ≤ 1099511627776) <|
 bindO (impl_ValidTree_L1 x1 n (List.replicate (((x1.length : Nat) : Int).toNat) (0 : Int)) 0) fun v252 =>
 match v252 with
 | (.inl _) => (some false)
 | (.inr _) => (some true)
))

theorem impl_ValidTree_ok (n : Nat) (x1 : List Nod) (b114 : Bool) (h : impl_ValidTree n x1 = some b114) : FOk EE 38 [.one (.e (.sl 0 0 x1.length))] [.row .nod x1 false] (B b114) [.row .nod x1 false] := by
  unfold impl_ValidTree at h
  refine FOk_of_W 78 1 Tryd.func38 rfl rfl (Nat.le_of_ble_eq_true rfl) rfl (fun w X θ => ?_)
  refine W_seq ?_
  refine W_region ?_
  refine WO_step 1 [0] [0] True ⟨[(0, .one (.e (.sl 0 0 x1.length)))], [.row .nod x1 false]⟩ (by kernel_rfl) trivial ?_
  refine WO_nil rfl ?_
  refine thenS_n ?_
  refine W_seq ?_
  refine W_seq ?_
  refine W_region ?_
  refine WO_step 4 [0] [0, 9] (True ∧ (True ∧ True)) ⟨[(0, .one (.e (.sl 0 0 x1.length))), (9, B (decide (((x1.length : Nat) : Int) < 1)))], [.row .nod x1 false]⟩ (by kernel_rfl) ⟨trivial, trivial, trivial⟩ ?_
  refine WO_thru ⟨[(0, .one (.e (.sl 0 0 x1.length))), (13, B ((decide (((x1.length : Nat) : Int) < 1)) || (decide (12 < ((x1.length : Nat) : Int)))))], [.row .nod x1 false]⟩ ?_ ?_
  · refine WO_if 9 rfl (fun hb117 => ?_) (fun hb117 => ?_)
    · refine WO_step 4 [0] [0, 13] True ⟨[(0, .one (.e (.sl 0 0 x1.length))), (13, B true)], [.row .nod x1 false]⟩ (by kernel_rfl) trivial ?_
      exact WO_nil rfl ⟨rfl, by first | rfl | (rw [hb117]; first | done | rfl)⟩
    · refine WO_step 4 [0] [0, 13] (True ∧ (True ∧ True)) ⟨[(0, .one (.e (.sl 0 0 x1.length))), (13, B (decide (12 < ((x1.length : Nat) : Int))))], [.row .nod x1 false]⟩ (by kernel_rfl) ⟨trivial, trivial, trivial⟩ ?_
      exact WO_nil rfl ⟨rfl, by first | rfl | (rw [hb117]; first | done | rfl)⟩
  · refine thenS_n ?_
    refine iteO_e h (fun hb119 h => W_true rfl hb119 ?_) (fun hb119 h => W_false rfl hb119 ?_)
    · refine W_seq ?_
      refine W_region ?_
      refine WO_step 1 [0] [2] True ⟨[(2, B false)], [.row .nod x1 false]⟩ (by kernel_rfl) trivial ?_
      refine WO_nil rfl ?_
      refine thenS_n ?_
      refine W_ret ?_
      refine thenS_r ?_
      cases h
      exact ⟨[0], True, by kernel_rfl, trivial⟩
    · refine W_sub [0] [0] (st' := ⟨[(0, .one (.e (.sl 0 0 x1.length)))], [.row .nod x1 false]⟩) (by kernel_rfl) ?_
      refine W_skip ?_
      refine thenS_n ?_
      refine W_seq ?_
      refine W_seq ?_
      refine W_region ?_
      refine guardO_e h (fun hg120 h => ?_)
      refine WO_step 6 [0] [0, 19] ((0 ≤ (0 : Int) ∧ (0 : Int) < ((x1.length : Nat) : Int)) ∧ (True ∧ (True ∧ True))) ⟨[(0, .one (.e (.sl 0 0 x1.length))), (19, B (!decide (((x1.getD 0 dnod).parent) = (-1))))], [.row .nod x1 false]⟩ (by kernel_rfl) ⟨hg120, trivial, trivial, trivial⟩ ?_
      refine bindO_e h (fun b123 hv124 h => ?_)
      refine WO_thru ⟨[(0, .one (.e (.sl 0 0 x1.length))), (25, B b123)], [.row .nod x1 false]⟩ ?_ ?_
      · refine iteO_e hv124 (fun hb125 hv124 => WO_known 19 true rfl hb125 ?_) (fun hb125 hv124 => WO_known 19 false rfl hb125 ?_)
        · refine WO_step 6 [0] [0, 25] True ⟨[(0, .one (.e (.sl 0 0 x1.length))), (25, B true)], [.row .nod x1 false]⟩ (by kernel_rfl) trivial ?_
          cases hv124
          exact WO_nil rfl ⟨rfl, rfl⟩
        · refine guardO_e hv124 (fun hg126 hv124 => ?_)
          refine WO_step 6 [0] [0, 25] ((0 ≤ (0 : Int) ∧ (0 : Int) < ((x1.length : Nat) : Int)) ∧ (True ∧ (True ∧ True))) ⟨[(0, .one (.e (.sl 0 0 x1.length))), (25, B (!decide (((x1.getD 0 dnod).name) = [])))], [.row .nod x1 false]⟩ (by kernel_rfl) ⟨hg126, trivial, trivial, trivial⟩ ?_
          cases hv124
          exact WO_nil rfl ⟨rfl, rfl⟩
      · refine thenS_n ?_
        refine iteO_e h (fun hb128 h => W_true rfl hb128 ?_) (fun hb128 h => W_false rfl hb128 ?_)
        · refine W_seq ?_
          refine W_region ?_
          refine WO_step 1 [0] [2] True ⟨[(2, B false)], [.row .nod x1 false]⟩ (by kernel_rfl) trivial ?_
          refine WO_nil rfl ?_
          refine thenS_n ?_
          refine W_ret ?_
          refine thenS_r ?_
          cases h
          exact ⟨[0], True, by kernel_rfl, trivial⟩
        · refine W_sub [0] [0] (st' := ⟨[(0, .one (.e (.sl 0 0 x1.length)))], [.row .nod x1 false]⟩) (by kernel_rfl) ?_
          refine W_skip ?_
          refine thenS_n ?_
          refine W_seq ?_
          refine W_region ?_
          refine guardO_e h (fun hg129 h => ?_)
          refine WO_step 4 [0, 1] [0, 3] (True ∧ (((((x1.length : Nat) : Int) : Int) = ((x1.length : Nat) : Int) ∧ 0 ≤ ((x1.length : Nat) : Int) ∧ ((x1.length : Nat) : Int) ≤ 1099511627776) ∧ True)) ⟨[(0, .one (.e (.sl 0 0 x1.length))), (3, .one (.e (.sl 1 0 ((List.replicate (((x1.length : Nat) : Int).toNat) (0 : Int)).length))))], [.row .nod x1 false, .row .int (List.replicate (((x1.length : Nat) : Int).toNat) (0 : Int)) true]⟩ (by kernel_rfl) ⟨trivial, hg129, trivial⟩ ?_
          refine WO_nil rfl ?_
          refine thenS_n ?_
          refine W_seq ?_
          refine W_seq ?_
          refine W_region ?_
          refine WO_step 3 [0, 1] [0, 3, 29, 30, 31] (True ∧ True) ⟨[(0, .one (.e (.sl 0 0 x1.length))), (3, .one (.e (.sl 1 0 ((List.replicate (((x1.length : Nat) : Int).toNat) (0 : Int)).length)))), (29, .one (.e (.sl 0 0 x1.length))), (30, I ((x1.length : Nat) : Int)), (31, I 0)], [.row .nod x1 false, .row .int (List.replicate (((x1.length : Nat) : Int).toNat) (0 : Int)) true]⟩ (by kernel_rfl) ⟨trivial, trivial⟩ ?_
          refine WO_nil rfl ?_
          refine thenS_n ?_
          refine W_block ?_
          refine W_loop ?_
          refine bindO_e h (fun v252 hv252 h => ?_)
          refine WL_cut (impl_ValidTree_L1_ok w X θ x1 v252 n (List.replicate (((x1.length : Nat) : Int).toNat) (0 : Int)) 0 hv252) ?_
          rcases v252 with _ | _
          · rintro _ _ ⟨rfl, rfl⟩
            refine blockS_r ?_
            refine thenS_r ?_
            cases h
            exact ⟨[0], True, by kernel_rfl, trivial⟩
          · rintro _ _ ⟨rfl, rfl⟩
            refine blockS_y ?_
            refine thenS_n ?_
            refine W_seq ?_
            refine W_region ?_
            refine WO_step 1 [0] [2] True ⟨[(2, B true)], [.row .nod x1 false]⟩ (by kernel_rfl) trivial ?_
            refine WO_nil rfl ?_
            refine thenS_n ?_
            refine W_ret ?_
            cases h
            exact ⟨[0], True, by kernel_rfl, trivial⟩

/- (*strings.Builder).copyCheck -/
def lays240R : Shelf.Ren := ⟨fun n => match n with | 240 => 44 | 276 => 58 | _ => 0, fun n => match n with | 0 => 0 | 4 => 4 | 9 => 9 | 20 => 20 | 70 => 46 | 72 => 48 | 164 => 85 | 37 => 29 | 5 => 5 | _ => 0, fun n => n⟩
set_option maxRecDepth 100000 in
theorem lays240 : Lays.n240 Tryd.prog lays240R := {
  mixed := by kernel_rfl
  f240 := by kernel_rfl
  f276 := by kernel_rfl
  t0 := Tryd.underlying0
  a0 := Tryd.isAgg0
  z0 := Tryd.sizeOf0
  v0 := Tryd.zeroValue0
  t4 := Tryd.underlying4
  a4 := Tryd.isAgg4
  z4 := Tryd.sizeOf4
  v4 := Tryd.zeroValue4
  t9 := Tryd.underlying9
  a9 := Tryd.isAgg9
  z9 := Tryd.sizeOf9
  v9 := Tryd.zeroValue9
  t20 := Tryd.underlying20
  a20 := Tryd.isAgg20
  z20 := Tryd.sizeOf20
  v20 := Tryd.zeroValue20
  t70 := Tryd.underlying46
  a70 := Tryd.isAgg46
  z70 := Tryd.sizeOf46
  v70 := Tryd.zeroValue46
  t72 := Tryd.underlying48
  a72 := Tryd.isAgg48
  z72 := Tryd.sizeOf48
  v72 := Tryd.zeroValue48
  t164 := Tryd.underlying85
  a164 := Tryd.isAgg85
  z164 := Tryd.sizeOf85
  v164 := Tryd.zeroValue85 }
theorem x72 : Builder.X72 Tryd.prog lays240R := {
  sizeBuilder := by kernel_rfl
  liesBuilder := by kernel_rfl }
theorem copyCheck_ok (x1 : List Int) : FOk EE 44 [.one (.e (.p 0 0))] [.cells [.sp 0 48, .bsl 1 x1.length], .row .u8 x1 true] (.tup []) [.cells [.sp 0 48, .bsl 1 x1.length], .row .u8 x1 true] := by
  refine FOk_copy (fun b w h0 h1 h2 => ?_) (fun b w h0 => ?_) x1.length x1
  · exact Any.Builder_copyCheck_fresh lays240 x72 b w h0 h1 h2
  · exact Any.Builder_copyCheck_used lays240 x72 b w h0

/- (*strings.Builder).WriteString -/
def strings_Builder_WriteString (x1 : List Int) (s2 : Str) : Option ((List Int) × Int) :=
 guardO (0 = 0 ∧ x1.length = x1.length ∧ x1.length + ((s2 : Str).map fun b => ((b.toNat : Nat) : Int)).length ≤ 1099511627776) <|
 some ((x1 ++ ((s2 : Str).map fun b => ((b.toNat : Nat) : Int))), ((s2.length : Nat) : Int))

theorem strings_Builder_WriteString_ok (x1 : List Int) (s2 : Str) (x4 : List Int) (i5 : Int) (h : strings_Builder_WriteString x1 s2 = some (x4, i5)) : FOk EE 25 [.one (.e (.p 0 0)), S s2] [.cells [.sp 0 48, .bsl 1 x1.length], .row .u8 x1 true] (.tup [.e (cI i5), .e (.nif)]) [.cells [.sp 0 48, .bsl 2 x4.length], .dead, .row .u8 x4 true] := by
  unfold strings_Builder_WriteString at h
  refine FOk_of_W 19 2 Tryd.func25 rfl rfl (Nat.le_of_ble_eq_true rfl) rfl (fun w X θ => ?_)
  refine W_seq ?_
  refine W_region ?_
  refine WO_step 2 [0, 1] [0, 1] True ⟨[(0, .one (.e (.p 0 0))), (1, S s2)], [.cells [.sp 0 48, .bsl 1 x1.length], .row .u8 x1 true]⟩ (by kernel_rfl) trivial ?_
  refine WO_nil rfl ?_
  refine thenS_n ?_
  refine W_seq ?_
  refine W_region ?_
  refine WO_step 1 [0, 1] [0, 1, 6] True ⟨[(0, .one (.e (.p 0 0))), (1, S s2), (6, .one (.e (.p 0 0)))], [.cells [.sp 0 48, .bsl 1 x1.length], .row .u8 x1 true]⟩ (by kernel_rfl) trivial ?_
  refine WO_call [.own 0, .own 1] Tryd.f44 rfl rfl rfl (by kernel_rfl) Tryd.func44 rfl (by kernel_rfl) (copyCheck_ok x1) (And.intro (trivial) (And.intro (And.intro rfl (And.intro rfl rfl)) (trivial))) rfl ?_
  refine WO_sub [0, 1] [0, 1] (st' := ⟨[(0, .one (.e (.p 0 0))), (1, S s2)], [.cells [.sp 0 48, .bsl 1 x1.length], .row .u8 x1 true]⟩) (by kernel_rfl) ?_
  refine WO_nil rfl ?_
  refine thenS_n ?_
  refine W_seq ?_
  refine W_region ?_
  refine guardO_e h (fun hg6 h => ?_)
  refine WO_step 10 [0, 1, 2] [1] (True ∧ ((0 = 0 ∧ x1.length = x1.length ∧ x1.length + ((s2 : Str).map fun b => ((b.toNat : Nat) : Int)).length ≤ 1099511627776) ∧ (True ∧ True))) ⟨[(1, S s2)], [.cells [.sp 0 48, .bsl 2 ((x1 ++ ((s2 : Str).map fun b => ((b.toNat : Nat) : Int))).length)], .dead, .row .u8 (x1 ++ ((s2 : Str).map fun b => ((b.toNat : Nat) : Int))) true]⟩ (by kernel_rfl) ⟨trivial, hg6, trivial, trivial⟩ ?_
  refine WO_nil rfl ?_
  refine thenS_n ?_
  refine W_seq ?_
  refine W_region ?_
  refine WO_step 4 [0, 1, 2] [4, 5] (True ∧ True) ⟨[(4, I ((s2.length : Nat) : Int)), (5, .one (.e (.nif)))], [.cells [.sp 0 48, .bsl 2 ((x1 ++ ((s2 : Str).map fun b => ((b.toNat : Nat) : Int))).length)], .dead, .row .u8 (x1 ++ ((s2 : Str).map fun b => ((b.toNat : Nat) : Int))) true]⟩ (by kernel_rfl) ⟨trivial, trivial⟩ ?_
  refine WO_nil rfl ?_
  refine thenS_n ?_
  refine W_ret ?_
  cases h
  exact ⟨[0, 1, 2], True, by kernel_rfl, trivial⟩

/- impl.isNode -/
def impl_isNode (n : Nat) (x1 : List Nod) (i2 : Int) : Option (Bool) :=
 bindO (iteO (impl_within i2 0 (w64 (((x1.length : Nat) : Int) - 1)))
 (bindO (impl_ValidTree n x1) fun b18 =>
 some b18)
 (some false)) fun b15 =>
 some b15

theorem impl_isNode_ok (n : Nat) (x1 : List Nod) (i2 : Int) (b11 : Bool) (h : impl_isNode n x1 i2 = some b11) : FOk EE 65 [.one (.e (.sl 0 0 x1.length)), I i2] [.row .nod x1 false] (B b11) [.row .nod x1 false] := by
  unfold impl_isNode at h
  refine FOk_of_W 14 1 Tryd.func65 rfl rfl (Nat.le_of_ble_eq_true rfl) rfl (fun w X θ => ?_)
  refine W_seq ?_
  refine W_region ?_
  refine WO_step 1 [0] [0, 1] True ⟨[(0, .one (.e (.sl 0 0 x1.length))), (1, I i2)], [.row .nod x1 false]⟩ (by kernel_rfl) trivial ?_
  refine WO_nil rfl ?_
  refine thenS_n ?_
  refine W_seq ?_
  refine W_region ?_
  refine WO_step 4 [0] [0, 5, 8] (True ∧ (True ∧ True)) ⟨[(0, .one (.e (.sl 0 0 x1.length))), (5, I i2), (8, I (w64 (((x1.length : Nat) : Int) - 1)))], [.row .nod x1 false]⟩ (by kernel_rfl) ⟨trivial, trivial, trivial⟩ ?_
  refine WO_call [] Tryd.f49 rfl rfl rfl (by kernel_rfl) Tryd.func49 rfl (by kernel_rfl) (impl_within_ok i2 0 (w64 (((x1.length : Nat) : Int) - 1))) (trivial) rfl ?_
  refine WO_step 1 [0] [0, 10] True ⟨[(0, .one (.e (.sl 0 0 x1.length))), (10, B (impl_within i2 0 (w64 (((x1.length : Nat) : Int) - 1))))], [.row .nod x1 false]⟩ (by kernel_rfl) trivial ?_
  refine bindO_e h (fun b15 hv16 h => ?_)
  refine WO_thru ⟨[(4, B b15)], [.row .nod x1 false]⟩ ?_ ?_
  · refine iteO_e hv16 (fun hb17 hv16 => WO_known 10 true rfl hb17 ?_) (fun hb17 hv16 => WO_known 10 false rfl hb17 ?_)
    · refine WO_step 1 [0] [10, 11] True ⟨[(10, B true), (11, .one (.e (.sl 0 0 x1.length)))], [.row .nod x1 false]⟩ (by kernel_rfl) trivial ?_
      refine bindO_e hv16 (fun b18 hc19 hv16 => ?_)
      refine WO_call [.ro 0] Tryd.f38 rfl rfl rfl (by kernel_rfl) Tryd.func38 rfl (by kernel_rfl) (impl_ValidTree_ok n x1 b18 hc19) (And.intro (And.intro rfl rfl) (trivial)) rfl ?_
      refine WO_step 2 [0] [4] True ⟨[(4, B b18)], [.row .nod x1 false]⟩ (by kernel_rfl) trivial ?_
      cases hv16
      exact WO_nil rfl ⟨rfl, rfl⟩
    · refine WO_step 4 [0] [4] True ⟨[(4, B false)], [.row .nod x1 false]⟩ (by kernel_rfl) trivial ?_
      cases hv16
      exact WO_nil rfl ⟨rfl, rfl⟩
  · refine thenS_n ?_
    refine W_ret ?_
    cases h
    exact ⟨[0], True, by kernel_rfl, trivial⟩

/- slices.Reverse[[]int,int] -/
def slices_Reverse_int_int_L1 (k2 : Nat) : Nat → (List Int) → Int → Int → Option ((List Int))
| 0, _, _, _ => none
| n + 1, x68, i69, i70 =>
 iteO (decide (i69 < i70))
 (guardO (0 ≤ i70 ∧ i70 < ((k2 : Nat) : Int)) <|
 guardO (0 ≤ i69 ∧ i69 < ((k2 : Nat) : Int)) <|
 guardO (0 ≤ i69 ∧ i69 < ((k2 : Nat) : Int)) <|
 guardO (0 ≤ i70 ∧ i70 < ((k2 : Nat) : Int)) <|
 slices_Reverse_int_int_L1 k2 n ((x68.set i69.toNat (x68.getD i70.toNat 0)).set i70.toNat (x68.getD i69.toNat 0)) (w64 (i69 + 1)) (w64 (i70 - 1)))
 (some x68)

theorem slices_Reverse_int_int_L1_ok (w : World) (X : Nat → Prop) (θ : List Loc) (k2 : Nat) (x84 : (List Int)) : ∀ (n : Nat) (x68 : List Int) (i69 : Int) (i70 : Int), slices_Reverse_int_int_L1 k2 n x68 i69 i70 = some x84 → WL EE ⟨w, X, θ, 28, 1⟩ (subC [1, 4, 4] (bodyC Tryd.f66)) (fun (e : Exit) (s : St) => e = .exit 0 ∧ s = ⟨[], [.row .int x84 true]⟩) ⟨[(0, .one (.e (.sl 0 0 k2))), (2, I i69), (3, I i70)], [.row .int x68 true]⟩ := by
  intro n
  induction n with
  | zero => intro _ _ _ h; exact none_e h
  | succ n ih =>
    intro x68 i69 i70 h
    rw [slices_Reverse_int_int_L1] at h
    refine WL_round ?_
    refine W_seq ?_
    refine W_seq ?_
    refine W_region ?_
    refine WO_step 3 [0] [0, 2, 3, 9] (True ∧ True) ⟨[(0, .one (.e (.sl 0 0 k2))), (2, I i69), (3, I i70), (9, B (decide (i69 < i70)))], [.row .int x68 true]⟩ (by kernel_rfl) ⟨trivial, trivial⟩ ?_
    refine WO_nil rfl ?_
    refine thenS_n ?_
    refine iteO_e h (fun hb87 h => W_true rfl hb87 ?_) (fun hb87 h => W_false rfl hb87 ?_)
    · refine W_sub [0] [0, 2, 3] (st' := ⟨[(0, .one (.e (.sl 0 0 k2))), (2, I i69), (3, I i70)], [.row .int x68 true]⟩) (by kernel_rfl) ?_
      refine W_skip ?_
      refine thenS_n ?_
      refine W_seq ?_
      refine W_block ?_
      refine guardO_e h (fun hg92 h => ?_)
      refine guardO_e h (fun hg93 h => ?_)
      refine guardO_e h (fun hg94 h => ?_)
      refine guardO_e h (fun hg95 h => ?_)
      refine W_cut (Q' := fun (e : Exit) (s : St) => e = .normal ∧ s = ⟨[(0, .one (.e (.sl 0 0 k2))), (2, I i69), (3, I i70)], [.row .int ((x68.set i69.toNat (x68.getD i70.toNat 0)).set i70.toNat (x68.getD i69.toNat 0)) true]⟩) ?_ ?_
      · refine W_draw [0] false (by kernel_rfl) (by kernel_rfl) ?_
        refine WD_takeK [0, 1, 2, 3, 4, 5, 8, 9] [0, 2, 3, 14, 15, 16, 17, 18, 19, 22, 23] [0, 2, 3, 14, 15, 16, 17, 18, 19, 22, 23] (φ := True) (ls' := #[true, true, true, true, true, true, false, false, true, true, false, false, false, false, false, false]) (Ts' := [(0, .one (.e (.sl 0 0 k2))), (2, I i69), (3, I i70), (14, .one (.e (.sl 0 0 k2))), (15, I i69), (16, .one (.e (.sl 0 0 k2))), (17, I i70), (18, .one (.e (.sl 0 0 k2))), (19, I i70), (22, .one (.e (.sl 0 0 k2))), (23, I i69)]) (st' := ⟨[(0, .one (.e (.sl 0 0 k2))), (2, I i69), (3, I i70), (14, .one (.e (.sl 0 0 k2))), (15, I i69), (16, .one (.e (.sl 0 0 k2))), (17, I i70), (18, .one (.e (.sl 0 0 k2))), (19, I i70), (22, .one (.e (.sl 0 0 k2))), (23, I i69)], [.row .int x68 true]⟩) (n2 := 8) (by kernel_rfl) trivial rfl ?_
        refine WD_all [6, 10] (n := 7) (by kernel_rfl) rfl (And.intro ?_ (?_))
        · refine WM_op (φ := 0 ≤ i70 ∧ i70 < ((k2 : Nat) : Int)) (v := .one (.e (.rp 0 i70.toNat 0))) (H' := [.row .int x68 true]) rfl rfl (by kernel_rfl) hg92 rfl (trivial) ?_
          refine WD_all [7, 10] (n := 6) (by kernel_rfl) rfl (And.intro ?_ (?_))
          · refine WM_op (φ := True) (v := I (x68.getD i70.toNat 0)) (H' := [.row .int x68 true]) rfl rfl (by kernel_rfl) trivial rfl (trivial) ?_
            refine WD_all [10] (n := 5) (by kernel_rfl) rfl ?_
            refine WM_op (φ := 0 ≤ i69 ∧ i69 < ((k2 : Nat) : Int)) (v := .one (.e (.rp 0 i69.toNat 0))) (H' := [.row .int x68 true]) rfl rfl (by kernel_rfl) hg93 rfl (trivial) ?_
            refine WD_all [11] (n := 4) (by kernel_rfl) rfl ?_
            refine WM_op (φ := True) (v := I (x68.getD i69.toNat 0)) (H' := [.row .int x68 true]) rfl rfl (by kernel_rfl) trivial rfl (trivial) ?_
            refine WD_all [12] (n := 3) (by kernel_rfl) rfl ?_
            refine WM_op (φ := 0 ≤ i69 ∧ i69 < ((k2 : Nat) : Int)) (v := .one (.e (.rp 0 i69.toNat 0))) (H' := [.row .int x68 true]) rfl rfl (by kernel_rfl) hg94 rfl (trivial) ?_
            refine WD_all [13] (n := 2) (by kernel_rfl) rfl ?_
            refine WM_store (u := .one (.e (.rp 0 i69.toNat 0))) (v := I (x68.getD i70.toNat 0)) (φ := True) (H' := [.row .int (x68.set i69.toNat (x68.getD i70.toNat 0)) true]) rfl rfl rfl rfl rfl (by kernel_rfl) trivial rfl (trivial) ?_
            refine WD_all [14] (n := 1) (by kernel_rfl) rfl ?_
            refine WM_op (φ := 0 ≤ i70 ∧ i70 < ((k2 : Nat) : Int)) (v := .one (.e (.rp 0 i70.toNat 0))) (H' := [.row .int (x68.set i69.toNat (x68.getD i70.toNat 0)) true]) rfl rfl (by kernel_rfl) hg95 rfl (trivial) ?_
            refine WD_all [15] (n := 0) (by kernel_rfl) rfl ?_
            refine WM_store (u := .one (.e (.rp 0 i70.toNat 0))) (v := I (x68.getD i69.toNat 0)) (φ := True) (H' := [.row .int ((x68.set i69.toNat (x68.getD i70.toNat 0)).set i70.toNat (x68.getD i69.toNat 0)) true]) rfl rfl rfl rfl rfl (by kernel_rfl) trivial rfl (trivial) ?_
            exact WD_done [0] [0, 2, 3] (st' := ⟨[(0, .one (.e (.sl 0 0 k2))), (2, I i69), (3, I i70)], [.row .int ((x68.set i69.toNat (x68.getD i70.toNat 0)).set i70.toNat (x68.getD i69.toNat 0)) true]⟩) (by kernel_rfl) (by kernel_rfl) (And.intro rfl rfl)
          · refine WM_op (φ := 0 ≤ i69 ∧ i69 < ((k2 : Nat) : Int)) (v := .one (.e (.rp 0 i69.toNat 0))) (H' := [.row .int x68 true]) rfl rfl (by kernel_rfl) hg93 rfl (trivial) ?_
            refine WD_all [7, 11] (n := 5) (by kernel_rfl) rfl (And.intro ?_ (?_))
            · refine WM_op (φ := True) (v := I (x68.getD i70.toNat 0)) (H' := [.row .int x68 true]) rfl rfl (by kernel_rfl) trivial rfl (trivial) ?_
              refine WD_all [11] (n := 4) (by kernel_rfl) rfl ?_
              refine WM_op (φ := True) (v := I (x68.getD i69.toNat 0)) (H' := [.row .int x68 true]) rfl rfl (by kernel_rfl) trivial rfl (trivial) ?_
              refine WD_all [12] (n := 3) (by kernel_rfl) rfl ?_
              refine WM_op (φ := 0 ≤ i69 ∧ i69 < ((k2 : Nat) : Int)) (v := .one (.e (.rp 0 i69.toNat 0))) (H' := [.row .int x68 true]) rfl rfl (by kernel_rfl) hg94 rfl (trivial) ?_
              refine WD_all [13] (n := 2) (by kernel_rfl) rfl ?_
              refine WM_store (u := .one (.e (.rp 0 i69.toNat 0))) (v := I (x68.getD i70.toNat 0)) (φ := True) (H' := [.row .int (x68.set i69.toNat (x68.getD i70.toNat 0)) true]) rfl rfl rfl rfl rfl (by kernel_rfl) trivial rfl (trivial) ?_
              refine WD_all [14] (n := 1) (by kernel_rfl) rfl ?_
              refine WM_op (φ := 0 ≤ i70 ∧ i70 < ((k2 : Nat) : Int)) (v := .one (.e (.rp 0 i70.toNat 0))) (H' := [.row .int (x68.set i69.toNat (x68.getD i70.toNat 0)) true]) rfl rfl (by kernel_rfl) hg95 rfl (trivial) ?_
              refine WD_all [15] (n := 0) (by kernel_rfl) rfl ?_
              refine WM_store (u := .one (.e (.rp 0 i70.toNat 0))) (v := I (x68.getD i69.toNat 0)) (φ := True) (H' := [.row .int ((x68.set i69.toNat (x68.getD i70.toNat 0)).set i70.toNat (x68.getD i69.toNat 0)) true]) rfl rfl rfl rfl rfl (by kernel_rfl) trivial rfl (trivial) ?_
              exact WD_done [0] [0, 2, 3] (st' := ⟨[(0, .one (.e (.sl 0 0 k2))), (2, I i69), (3, I i70)], [.row .int ((x68.set i69.toNat (x68.getD i70.toNat 0)).set i70.toNat (x68.getD i69.toNat 0)) true]⟩) (by kernel_rfl) (by kernel_rfl) (And.intro rfl rfl)
            · refine WM_op (φ := True) (v := I (x68.getD i69.toNat 0)) (H' := [.row .int x68 true]) rfl rfl (by kernel_rfl) trivial rfl (trivial) ?_
              refine WD_all [7] (n := 4) (by kernel_rfl) rfl ?_
              refine WM_op (φ := True) (v := I (x68.getD i70.toNat 0)) (H' := [.row .int x68 true]) rfl rfl (by kernel_rfl) trivial rfl (trivial) ?_
              refine WD_all [12] (n := 3) (by kernel_rfl) rfl ?_
              refine WM_op (φ := 0 ≤ i69 ∧ i69 < ((k2 : Nat) : Int)) (v := .one (.e (.rp 0 i69.toNat 0))) (H' := [.row .int x68 true]) rfl rfl (by kernel_rfl) hg94 rfl (trivial) ?_
              refine WD_all [13] (n := 2) (by kernel_rfl) rfl ?_
              refine WM_store (u := .one (.e (.rp 0 i69.toNat 0))) (v := I (x68.getD i70.toNat 0)) (φ := True) (H' := [.row .int (x68.set i69.toNat (x68.getD i70.toNat 0)) true]) rfl rfl rfl rfl rfl (by kernel_rfl) trivial rfl (trivial) ?_
              refine WD_all [14] (n := 1) (by kernel_rfl) rfl ?_
              refine WM_op (φ := 0 ≤ i70 ∧ i70 < ((k2 : Nat) : Int)) (v := .one (.e (.rp 0 i70.toNat 0))) (H' := [.row .int (x68.set i69.toNat (x68.getD i70.toNat 0)) true]) rfl rfl (by kernel_rfl) hg95 rfl (trivial) ?_
              refine WD_all [15] (n := 0) (by kernel_rfl) rfl ?_
              refine WM_store (u := .one (.e (.rp 0 i70.toNat 0))) (v := I (x68.getD i69.toNat 0)) (φ := True) (H' := [.row .int ((x68.set i69.toNat (x68.getD i70.toNat 0)).set i70.toNat (x68.getD i69.toNat 0)) true]) rfl rfl rfl rfl rfl (by kernel_rfl) trivial rfl (trivial) ?_
              exact WD_done [0] [0, 2, 3] (st' := ⟨[(0, .one (.e (.sl 0 0 k2))), (2, I i69), (3, I i70)], [.row .int ((x68.set i69.toNat (x68.getD i70.toNat 0)).set i70.toNat (x68.getD i69.toNat 0)) true]⟩) (by kernel_rfl) (by kernel_rfl) (And.intro rfl rfl)
        · refine WM_op (φ := 0 ≤ i69 ∧ i69 < ((k2 : Nat) : Int)) (v := .one (.e (.rp 0 i69.toNat 0))) (H' := [.row .int x68 true]) rfl rfl (by kernel_rfl) hg93 rfl (trivial) ?_
          refine WD_all [6, 11] (n := 6) (by kernel_rfl) rfl (And.intro ?_ (?_))
          · refine WM_op (φ := 0 ≤ i70 ∧ i70 < ((k2 : Nat) : Int)) (v := .one (.e (.rp 0 i70.toNat 0))) (H' := [.row .int x68 true]) rfl rfl (by kernel_rfl) hg92 rfl (trivial) ?_
            refine WD_all [7, 11] (n := 5) (by kernel_rfl) rfl (And.intro ?_ (?_))
            · refine WM_op (φ := True) (v := I (x68.getD i70.toNat 0)) (H' := [.row .int x68 true]) rfl rfl (by kernel_rfl) trivial rfl (trivial) ?_
              refine WD_all [11] (n := 4) (by kernel_rfl) rfl ?_
              refine WM_op (φ := True) (v := I (x68.getD i69.toNat 0)) (H' := [.row .int x68 true]) rfl rfl (by kernel_rfl) trivial rfl (trivial) ?_
              refine WD_all [12] (n := 3) (by kernel_rfl) rfl ?_
              refine WM_op (φ := 0 ≤ i69 ∧ i69 < ((k2 : Nat) : Int)) (v := .one (.e (.rp 0 i69.toNat 0))) (H' := [.row .int x68 true]) rfl rfl (by kernel_rfl) hg94 rfl (trivial) ?_
              refine WD_all [13] (n := 2) (by kernel_rfl) rfl ?_
              refine WM_store (u := .one (.e (.rp 0 i69.toNat 0))) (v := I (x68.getD i70.toNat 0)) (φ := True) (H' := [.row .int (x68.set i69.toNat (x68.getD i70.toNat 0)) true]) rfl rfl rfl rfl rfl (by kernel_rfl) trivial rfl (trivial) ?_
              refine WD_all [14] (n := 1) (by kernel_rfl) rfl ?_
              refine WM_op (φ := 0 ≤ i70 ∧ i70 < ((k2 : Nat) : Int)) (v := .one (.e (.rp 0 i70.toNat 0))) (H' := [.row .int (x68.set i69.toNat (x68.getD i70.toNat 0)) true]) rfl rfl (by kernel_rfl) hg95 rfl (trivial) ?_
              refine WD_all [15] (n := 0) (by kernel_rfl) rfl ?_
              refine WM_store (u := .one (.e (.rp 0 i70.toNat 0))) (v := I (x68.getD i69.toNat 0)) (φ := True) (H' := [.row .int ((x68.set i69.toNat (x68.getD i70.toNat 0)).set i70.toNat (x68.getD i69.toNat 0)) true]) rfl rfl rfl rfl rfl (by kernel_rfl) trivial rfl (trivial) ?_
              exact WD_done [0] [0, 2, 3] (st' := ⟨[(0, .one (.e (.sl 0 0 k2))), (2, I i69), (3, I i70)], [.row .int ((x68.set i69.toNat (x68.getD i70.toNat 0)).set i70.toNat (x68.getD i69.toNat 0)) true]⟩) (by kernel_rfl) (by kernel_rfl) (And.intro rfl rfl)
            · refine WM_op (φ := True) (v := I (x68.getD i69.toNat 0)) (H' := [.row .int x68 true]) rfl rfl (by kernel_rfl) trivial rfl (trivial) ?_
              refine WD_all [7] (n := 4) (by kernel_rfl) rfl ?_
              refine WM_op (φ := True) (v := I (x68.getD i70.toNat 0)) (H' := [.row .int x68 true]) rfl rfl (by kernel_rfl) trivial rfl (trivial) ?_
              refine WD_all [12] (n := 3) (by kernel_rfl) rfl ?_
              refine WM_op (φ := 0 ≤ i69 ∧ i69 < ((k2 : Nat) : Int)) (v := .one (.e (.rp 0 i69.toNat 0))) (H' := [.row .int x68 true]) rfl rfl (by kernel_rfl) hg94 rfl (trivial) ?_
              refine WD_all [13] (n := 2) (by kernel_rfl) rfl ?_
              refine WM_store (u := .one (.e (.rp 0 i69.toNat 0))) (v := I (x68.getD i70.toNat 0)) (φ := True) (H' := [.row .int (x68.set i69.toNat (x68.getD i70.toNat 0)) true]) rfl rfl rfl rfl rfl (by kernel_rfl) trivial rfl (trivial) ?_
              refine WD_all [14] (n := 1) (by kernel_rfl) rfl ?_
              refine WM_op (φ := 0 ≤ i70 ∧ i70 < ((k2 : Nat) : Int)) (v := .one (.e (.rp 0 i70.toNat 0))) (H' := [.row .int (x68.set i69.toNat (x68.getD i70.toNat 0)) true]) rfl rfl (by kernel_rfl) hg95 rfl (trivial) ?_
              refine WD_all [15] (n := 0) (by kernel_rfl) rfl ?_
              refine WM_store (u := .one (.e (.rp 0 i70.toNat 0))) (v := I (x68.getD i69.toNat 0)) (φ := True) (H' := [.row .int ((x68.set i69.toNat (x68.getD i70.toNat 0)).set i70.toNat (x68.getD i69.toNat 0)) true]) rfl rfl rfl rfl rfl (by kernel_rfl) trivial rfl (trivial) ?_
              exact WD_done [0] [0, 2, 3] (st' := ⟨[(0, .one (.e (.sl 0 0 k2))), (2, I i69), (3, I i70)], [.row .int ((x68.set i69.toNat (x68.getD i70.toNat 0)).set i70.toNat (x68.getD i69.toNat 0)) true]⟩) (by kernel_rfl) (by kernel_rfl) (And.intro rfl rfl)
          · refine WM_op (φ := True) (v := I (x68.getD i69.toNat 0)) (H' := [.row .int x68 true]) rfl rfl (by kernel_rfl) trivial rfl (trivial) ?_
            refine WD_all [6] (n := 5) (by kernel_rfl) rfl ?_
            refine WM_op (φ := 0 ≤ i70 ∧ i70 < ((k2 : Nat) : Int)) (v := .one (.e (.rp 0 i70.toNat 0))) (H' := [.row .int x68 true]) rfl rfl (by kernel_rfl) hg92 rfl (trivial) ?_
            refine WD_all [7] (n := 4) (by kernel_rfl) rfl ?_
            refine WM_op (φ := True) (v := I (x68.getD i70.toNat 0)) (H' := [.row .int x68 true]) rfl rfl (by kernel_rfl) trivial rfl (trivial) ?_
            refine WD_all [12] (n := 3) (by kernel_rfl) rfl ?_
            refine WM_op (φ := 0 ≤ i69 ∧ i69 < ((k2 : Nat) : Int)) (v := .one (.e (.rp 0 i69.toNat 0))) (H' := [.row .int x68 true]) rfl rfl (by kernel_rfl) hg94 rfl (trivial) ?_
            refine WD_all [13] (n := 2) (by kernel_rfl) rfl ?_
            refine WM_store (u := .one (.e (.rp 0 i69.toNat 0))) (v := I (x68.getD i70.toNat 0)) (φ := True) (H' := [.row .int (x68.set i69.toNat (x68.getD i70.toNat 0)) true]) rfl rfl rfl rfl rfl (by kernel_rfl) trivial rfl (trivial) ?_
            refine WD_all [14] (n := 1) (by kernel_rfl) rfl ?_
            refine WM_op (φ := 0 ≤ i70 ∧ i70 < ((k2 : Nat) : Int)) (v := .one (.e (.rp 0 i70.toNat 0))) (H' := [.row .int (x68.set i69.toNat (x68.getD i70.toNat 0)) true]) rfl rfl (by kernel_rfl) hg95 rfl (trivial) ?_
            refine WD_all [15] (n := 0) (by kernel_rfl) rfl ?_
            refine WM_store (u := .one (.e (.rp 0 i70.toNat 0))) (v := I (x68.getD i69.toNat 0)) (φ := True) (H' := [.row .int ((x68.set i69.toNat (x68.getD i70.toNat 0)).set i70.toNat (x68.getD i69.toNat 0)) true]) rfl rfl rfl rfl rfl (by kernel_rfl) trivial rfl (trivial) ?_
            exact WD_done [0] [0, 2, 3] (st' := ⟨[(0, .one (.e (.sl 0 0 k2))), (2, I i69), (3, I i70)], [.row .int ((x68.set i69.toNat (x68.getD i70.toNat 0)).set i70.toNat (x68.getD i69.toNat 0)) true]⟩) (by kernel_rfl) (by kernel_rfl) (And.intro rfl rfl)
      · rintro _ _ ⟨rfl, rfl⟩
        refine blockS_n ?_
        refine thenS_n ?_
        refine W_region ?_
        refine WO_step 6 [0] [0, 2, 3] (True ∧ (True ∧ True)) ⟨[(0, .one (.e (.sl 0 0 k2))), (2, I (w64 (i69 + 1))), (3, I (w64 (i70 - 1)))], [.row .int ((x68.set i69.toNat (x68.getD i70.toNat 0)).set i70.toNat (x68.getD i69.toNat 0)) true]⟩ (by kernel_rfl) ⟨trivial, trivial, trivial⟩ ?_
        refine WO_nil rfl ?_
        refine thenS_n ?_
        exact ih _ _ _ h
    · refine W_sub [0] [] (st' := ⟨[], [.row .int x68 true]⟩) (by kernel_rfl) ?_
      refine W_exit ?_
      refine thenS_e ?_
      refine thenS_e ?_
      cases h
      exact And.intro rfl rfl

def slices_Reverse_int_int (n : Nat) (x1 : List Int) (k2 : Nat) : Option ((List Int)) :=
 bindO (slices_Reverse_int_int_L1 k2 n x1 0 (w64 (((k2 : Nat) : Int) - 1))) fun x84 =>
 some x84

theorem slices_Reverse_int_int_ok (n : Nat) (x1 : List Int) (k2 : Nat) (x49 : List Int) (h : slices_Reverse_int_int n x1 k2 = some x49) : FOk EE 66 [.one (.e (.sl 0 0 k2))] [.row .int x1 true] (.tup []) [.row .int x49 true] := by
  unfold slices_Reverse_int_int at h
  refine FOk_of_W 28 1 Tryd.func66 rfl rfl (Nat.le_of_ble_eq_true rfl) rfl (fun w X θ => ?_)
  refine W_seq ?_
  refine W_region ?_
  refine WO_step 5 [0] [0, 2, 3] (True ∧ (True ∧ True)) ⟨[(0, .one (.e (.sl 0 0 k2))), (2, I 0), (3, I (w64 (((k2 : Nat) : Int) - 1)))], [.row .int x1 true]⟩ (by kernel_rfl) ⟨trivial, trivial, trivial⟩ ?_
  refine WO_nil rfl ?_
  refine thenS_n ?_
  refine W_block ?_
  refine W_loop ?_
  refine bindO_e h (fun x84 hx84 h => ?_)
  refine WL_cut (slices_Reverse_int_int_L1_ok w X θ k2 x84 n x1 0 (w64 (((k2 : Nat) : Int) - 1)) hx84) ?_
  rintro _ _ ⟨rfl, rfl⟩
  refine blockS_y ?_
  cases h
  exact ⟨[0], True, by kernel_rfl, trivial⟩

/- impl.PathTo -/
def impl_PathTo_L1 (x1 : List Nod) : Nat → (List Int) → Int → Option ((List Int))
| 0, _, _ => none
| n + 1, x53, i54 =>
 iteO (decide (0 ≤ i54))
 (guardO (0 = 0 ∧ x53.length = x53.length ∧ x53.length + (([i54].drop 0).take ([i54].length)).length ≤ 1099511627776) <|
 guardO (0 ≤ i54 ∧ i54 < ((x1.length : Nat) : Int)) <|
 impl_PathTo_L1 x1 n (x53 ++ (([i54].drop 0).take ([i54].length))) ((x1.getD i54.toNat dnod).parent))
 (some x53)

theorem impl_PathTo_L1_ok (w : World) (X : Nat → Prop) (θ : List Loc) (x1 : List Nod) (x62 : (List Int)) : ∀ (n : Nat) (x53 : List Int) (i54 : Int), impl_PathTo_L1 x1 n x53 i54 = some x62 → WL EE ⟨w, X, θ, 26, 1⟩ (subC [1, 1, 1, 0, 1, 4, 4] (bodyC Tryd.f55)) (fun (e : Exit) (s : St) => e = .exit 0 ∧ s = ⟨[(5, .one (.e (.sl 1 0 x62.length)))], [.row .nod x1 false, .row .int x62 true]⟩) ⟨[(0, .one (.e (.sl 0 0 x1.length))), (5, .one (.e (.sl 1 0 x53.length))), (6, I i54)], [.row .nod x1 false, .row .int x53 true]⟩ := by
  intro n
  induction n with
  | zero => intro _ _ h; exact none_e h
  | succ n ih =>
    intro x53 i54 h
    rw [impl_PathTo_L1] at h
    refine WL_round ?_
    refine W_seq ?_
    refine W_seq ?_
    refine W_region ?_
    refine WO_step 2 [0, 1] [0, 5, 6, 13] (True ∧ True) ⟨[(0, .one (.e (.sl 0 0 x1.length))), (5, .one (.e (.sl 1 0 x53.length))), (6, I i54), (13, B (decide (0 ≤ i54)))], [.row .nod x1 false, .row .int x53 true]⟩ (by kernel_rfl) ⟨trivial, trivial⟩ ?_
    refine WO_nil rfl ?_
    refine thenS_n ?_
    refine iteO_e h (fun hb65 h => W_true rfl hb65 ?_) (fun hb65 h => W_false rfl hb65 ?_)
    · refine W_sub [0, 1] [0, 5, 6] (st' := ⟨[(0, .one (.e (.sl 0 0 x1.length))), (5, .one (.e (.sl 1 0 x53.length))), (6, I i54)], [.row .nod x1 false, .row .int x53 true]⟩) (by kernel_rfl) ?_
      refine W_skip ?_
      refine thenS_n ?_
      refine W_seq ?_
      refine W_block ?_
      refine W_region ?_
      refine guardO_e h (fun hg67 h => ?_)
      refine WO_step 5 [0, 3] [0, 5, 6] ((0 = 0 ∧ x53.length = x53.length ∧ x53.length + (([i54].drop 0).take ([i54].length)).length ≤ 1099511627776) ∧ True) ⟨[(0, .one (.e (.sl 0 0 x1.length))), (5, .one (.e (.sl 1 0 ((x53 ++ (([i54].drop 0).take ([i54].length))).length)))), (6, I i54)], [.row .nod x1 false, .row .int (x53 ++ (([i54].drop 0).take ([i54].length))) true]⟩ (by kernel_rfl) ⟨hg67, trivial⟩ ?_
      refine WO_nil rfl ?_
      refine blockS_n ?_
      refine thenS_n ?_
      refine W_region ?_
      refine guardO_e h (fun hg68 h => ?_)
      refine WO_step 6 [0, 1] [0, 5, 6] ((0 ≤ i54 ∧ i54 < ((x1.length : Nat) : Int)) ∧ (True ∧ True)) ⟨[(0, .one (.e (.sl 0 0 x1.length))), (5, .one (.e (.sl 1 0 ((x53 ++ (([i54].drop 0).take ([i54].length))).length)))), (6, I ((x1.getD i54.toNat dnod).parent))], [.row .nod x1 false, .row .int (x53 ++ (([i54].drop 0).take ([i54].length))) true]⟩ (by kernel_rfl) ⟨hg68, trivial, trivial⟩ ?_
      refine WO_nil rfl ?_
      refine thenS_n ?_
      exact ih _ _ h
    · refine W_sub [0, 1] [5] (st' := ⟨[(5, .one (.e (.sl 1 0 x53.length)))], [.row .nod x1 false, .row .int x53 true]⟩) (by kernel_rfl) ?_
      refine W_exit ?_
      refine thenS_e ?_
      refine thenS_e ?_
      cases h
      exact And.intro rfl rfl

def impl_PathTo (n : Nat) (x1 : List Nod) (i2 : Int) : Option ((List Int)) :=
 bindO (impl_isNode n x1 i2) fun b38 =>
 iteO (!b38)
 (some ([] : List Int))
 (bindO (impl_PathTo_L1 x1 n ([] : List Int) i2) fun x62 =>
 bindO (slices_Reverse_int_int n x62 x62.length) fun x70 =>
 guardO (x62.length = x70.length) <|
 some x70)

theorem impl_PathTo_ok (n : Nat) (x1 : List Nod) (i2 : Int) (x37 : List Int) (h : impl_PathTo n x1 i2 = some x37) : FOk EE 55 [.one (.e (.sl 0 0 x1.length)), I i2] [.row .nod x1 false] (.one (.e (.sl 1 0 x37.length))) [.row .nod x1 false, .row .int x37 true] := by
  unfold impl_PathTo at h
  refine FOk_of_W 26 1 Tryd.func55 rfl rfl (Nat.le_of_ble_eq_true rfl) rfl (fun w X θ => ?_)
  refine W_seq ?_
  refine W_region ?_
  refine WO_step 1 [0] [0, 1] True ⟨[(0, .one (.e (.sl 0 0 x1.length))), (1, I i2)], [.row .nod x1 false]⟩ (by kernel_rfl) trivial ?_
  refine WO_nil rfl ?_
  refine thenS_n ?_
  refine W_seq ?_
  refine W_seq ?_
  refine W_region ?_
  refine WO_step 2 [0] [0, 1, 7, 8] True ⟨[(0, .one (.e (.sl 0 0 x1.length))), (1, I i2), (7, .one (.e (.sl 0 0 x1.length))), (8, I i2)], [.row .nod x1 false]⟩ (by kernel_rfl) trivial ?_
  refine bindO_e h (fun b38 hc39 h => ?_)
  refine WO_call [.ro 0] Tryd.f65 rfl rfl rfl (by kernel_rfl) Tryd.func65 rfl (by kernel_rfl) (impl_isNode_ok n x1 i2 b38 hc39) (And.intro (And.intro rfl rfl) (trivial)) rfl ?_
  refine WO_step 1 [0] [0, 1, 10] True ⟨[(0, .one (.e (.sl 0 0 x1.length))), (1, I i2), (10, B (!b38))], [.row .nod x1 false]⟩ (by kernel_rfl) trivial ?_
  refine WO_nil rfl ?_
  refine thenS_n ?_
  refine iteO_e h (fun hb41 h => W_true rfl hb41 ?_) (fun hb41 h => W_false rfl hb41 ?_)
  · refine W_seq ?_
    refine W_region ?_
    refine WO_step 1 [0] [4] True ⟨[(4, .one (.e (.nsl)))], [.row .nod x1 false]⟩ (by kernel_rfl) trivial ?_
    refine WO_nilrow 4 .int rfl ?_
    refine WO_sub [0, 1] [4] (st' := ⟨[(4, .one (.e (.sl 1 0 (([] : List Int).length))))], [.row .nod x1 false, .row .int ([] : List Int) true]⟩) (by kernel_rfl) ?_
    refine WO_nil rfl ?_
    refine thenS_n ?_
    refine W_ret ?_
    refine thenS_r ?_
    cases h
    exact ⟨[0, 1], True, by kernel_rfl, trivial⟩
  · refine W_sub [0] [0, 1] (st' := ⟨[(0, .one (.e (.sl 0 0 x1.length))), (1, I i2)], [.row .nod x1 false]⟩) (by kernel_rfl) ?_
    refine W_skip ?_
    refine thenS_n ?_
    refine W_seq ?_
    refine W_region ?_
    refine WO_step 1 [0] [0, 1, 5] True ⟨[(0, .one (.e (.sl 0 0 x1.length))), (1, I i2), (5, .one (.e (.nsl)))], [.row .nod x1 false]⟩ (by kernel_rfl) trivial ?_
    refine WO_nilrow 5 .int rfl ?_
    refine WO_sub [0, 1] [0, 1, 5] (st' := ⟨[(0, .one (.e (.sl 0 0 x1.length))), (1, I i2), (5, .one (.e (.sl 1 0 (([] : List Int).length))))], [.row .nod x1 false, .row .int ([] : List Int) true]⟩) (by kernel_rfl) ?_
    refine WO_nil rfl ?_
    refine thenS_n ?_
    refine W_seq ?_
    refine W_seq ?_
    refine W_region ?_
    refine WO_step 2 [0, 1] [0, 5, 6] True ⟨[(0, .one (.e (.sl 0 0 x1.length))), (5, .one (.e (.sl 1 0 (([] : List Int).length)))), (6, I i2)], [.row .nod x1 false, .row .int ([] : List Int) true]⟩ (by kernel_rfl) trivial ?_
    refine WO_nil rfl ?_
    refine thenS_n ?_
    refine W_block ?_
    refine W_loop ?_
    refine bindO_e h (fun x62 hx62 h => ?_)
    refine WL_cut (impl_PathTo_L1_ok w X θ x1 x62 n ([] : List Int) i2 hx62) ?_
    rintro _ _ ⟨rfl, rfl⟩
    refine blockS_y ?_
    refine thenS_n ?_
    refine W_seq ?_
    refine W_region ?_
    refine WO_step 1 [0, 1] [5, 23] True ⟨[(5, .one (.e (.sl 1 0 x62.length))), (23, .one (.e (.sl 1 0 x62.length)))], [.row .nod x1 false, .row .int x62 true]⟩ (by kernel_rfl) trivial ?_
    refine bindO_e h (fun x70 hc71 h => ?_)
    refine guardO_e h (fun hl72 h => ?_)
    refine WO_call [.own 1] Tryd.f66 rfl rfl rfl (by kernel_rfl) Tryd.func66 rfl (by kernel_rfl) (slices_Reverse_int_int_ok n x62 x62.length x70 hc71) (And.intro (And.intro rfl (And.intro rfl hl72)) (trivial)) rfl ?_
    refine WO_sub [0, 1] [5, 23] (st' := ⟨[(5, .one (.e (.sl 1 0 x62.length))), (23, .one (.e (.sl 1 0 x62.length)))], [.row .nod x1 false, .row .int x70 true]⟩) (by kernel_rfl) ?_
    refine WO_eq (st' := ⟨[(5, .one (.e (.sl 1 0 x70.length))), (23, .one (.e (.sl 1 0 x70.length)))], [.row .nod x1 false, .row .int x70 true]⟩) (by simp only [hl72]) ?_
    refine WO_sub [0, 1] [5] (st' := ⟨[(5, .one (.e (.sl 1 0 x70.length)))], [.row .nod x1 false, .row .int x70 true]⟩) (by kernel_rfl) ?_
    refine WO_nil rfl ?_
    refine thenS_n ?_
    refine W_seq ?_
    refine W_region ?_
    refine WO_step 2 [0, 1] [4] True ⟨[(4, .one (.e (.sl 1 0 x70.length)))], [.row .nod x1 false, .row .int x70 true]⟩ (by kernel_rfl) trivial ?_
    refine WO_nil rfl ?_
    refine thenS_n ?_
    refine W_ret ?_
    cases h
    exact ⟨[0, 1], True, by kernel_rfl, trivial⟩

/- (*strings.Builder).WriteByte -/
def strings_Builder_WriteByte (x1 : List Int) (i2 : Int) : Option ((List Int)) :=
 guardO (0 = 0 ∧ x1.length = x1.length ∧ x1.length + (([i2].drop 0).take ([i2].length)).length ≤ 1099511627776) <|
 some (x1 ++ (([i2].drop 0).take ([i2].length)))

theorem strings_Builder_WriteByte_ok (x1 : List Int) (i2 : Int) (x4 : List Int) (h : strings_Builder_WriteByte x1 i2 = some x4) : FOk EE 27 [.one (.e (.p 0 0)), U i2] [.cells [.sp 0 48, .bsl 1 x1.length], .row .u8 x1 true] (.one (.e (.nif))) [.cells [.sp 0 48, .bsl 2 x4.length], .dead, .row .u8 x4 true] := by
  unfold strings_Builder_WriteByte at h
  refine FOk_of_W 17 2 Tryd.func27 rfl rfl (Nat.le_of_ble_eq_true rfl) rfl (fun w X θ => ?_)
  refine W_seq ?_
  refine W_region ?_
  refine WO_step 1 [0, 1] [0, 1] True ⟨[(0, .one (.e (.p 0 0))), (1, U i2)], [.cells [.sp 0 48, .bsl 1 x1.length], .row .u8 x1 true]⟩ (by kernel_rfl) trivial ?_
  refine WO_nil rfl ?_
  refine thenS_n ?_
  refine W_seq ?_
  refine W_region ?_
  refine WO_step 1 [0, 1] [0, 1, 5] True ⟨[(0, .one (.e (.p 0 0))), (1, U i2), (5, .one (.e (.p 0 0)))], [.cells [.sp 0 48, .bsl 1 x1.length], .row .u8 x1 true]⟩ (by kernel_rfl) trivial ?_
  refine WO_call [.own 0, .own 1] Tryd.f44 rfl rfl rfl (by kernel_rfl) Tryd.func44 rfl (by kernel_rfl) (copyCheck_ok x1) (And.intro (trivial) (And.intro (And.intro rfl (And.intro rfl rfl)) (trivial))) rfl ?_
  refine WO_sub [0, 1] [0, 1] (st' := ⟨[(0, .one (.e (.p 0 0))), (1, U i2)], [.cells [.sp 0 48, .bsl 1 x1.length], .row .u8 x1 true]⟩) (by kernel_rfl) ?_
  refine WO_nil rfl ?_
  refine thenS_n ?_
  refine W_seq ?_
  refine W_region ?_
  refine guardO_e h (fun hg5 h => ?_)
  refine WO_step 11 [0, 1, 3] [] (True ∧ ((0 = 0 ∧ x1.length = x1.length ∧ x1.length + (([i2].drop 0).take ([i2].length)).length ≤ 1099511627776) ∧ (True ∧ True))) ⟨[], [.cells [.sp 0 48, .bsl 2 ((x1 ++ (([i2].drop 0).take ([i2].length))).length)], .dead, .row .u8 (x1 ++ (([i2].drop 0).take ([i2].length))) true]⟩ (by kernel_rfl) ⟨trivial, hg5, trivial, trivial⟩ ?_
  refine WO_nil rfl ?_
  refine thenS_n ?_
  refine W_seq ?_
  refine W_region ?_
  refine WO_step 1 [0, 1, 2] [4] True ⟨[(4, .one (.e (.nif)))], [.cells [.sp 0 48, .bsl 2 ((x1 ++ (([i2].drop 0).take ([i2].length))).length)], .dead, .row .u8 (x1 ++ (([i2].drop 0).take ([i2].length))) true]⟩ (by kernel_rfl) trivial ?_
  refine WO_nil rfl ?_
  refine thenS_n ?_
  refine W_ret ?_
  cases h
  exact ⟨[0, 1, 2], True, by kernel_rfl, trivial⟩

/- (*strings.Builder).String -/
def strings_Builder_String (x1 : List Int) : Option (Nat × Str) :=
 guardO (((x1.length : Nat) : Int) = (x1.length : Int) ∧ ∀ x ∈ x1, 0 ≤ x ∧ x ≤ 255) <|
 some (x1.length, (bytesOf x1))

theorem strings_Builder_String_ok (x1 : List Int) (k3 : Nat) (s4 : Str) (h : strings_Builder_String x1 = some (k3, s4)) : FOk EE 28 [.one (.e (.p 0 0))] [.cells [.sp 0 48, .bsl 1 x1.length], .row .u8 x1 true] (S s4) [.cells [.sp 0 48, .bsl 1 k3], .dead] := by
  unfold strings_Builder_String at h
  refine FOk_of_W 14 2 Tryd.func28 rfl rfl (Nat.le_of_ble_eq_true rfl) rfl (fun w X θ => ?_)
  refine W_seq ?_
  refine W_region ?_
  refine WO_step 1 [0, 1] [0] True ⟨[(0, .one (.e (.p 0 0)))], [.cells [.sp 0 48, .bsl 1 x1.length], .row .u8 x1 true]⟩ (by kernel_rfl) trivial ?_
  refine WO_nil rfl ?_
  refine thenS_n ?_
  refine W_seq ?_
  refine guardO_e h (fun hg5 h => ?_)
  refine W_cut (Q' := fun (e : Exit) (s : St) => e = .normal ∧ s = ⟨[(2, S (bytesOf x1))], [.cells [.sp 0 48, .bsl 1 x1.length], .dead]⟩) ?_ ?_
  · refine W_draw [1] false (by kernel_rfl) (by kernel_rfl) ?_
    refine WD_takeK [0, 1, 2, 5, 6, 7] [5, 10] [5, 10] (φ := True) (ls' := #[true, true, true, false, false, true, true, true, false, false, false, false]) (Ts' := [(5, .one (.e (.p 0 1))), (10, .one (.e (.p 0 1)))]) (st' := ⟨[(5, .one (.e (.p 0 1))), (10, .one (.e (.p 0 1)))], [.cells [.sp 0 48, .bsl 1 x1.length], .row .u8 x1 true]⟩) (n2 := 6) (by kernel_rfl) trivial rfl ?_
    refine WD_all [3, 8] (n := 5) (by kernel_rfl) rfl (And.intro ?_ (?_))
    · refine WM_op (φ := True) (v := .one (.e (.bsl 1 x1.length))) (H' := [.cells [.sp 0 48, .bsl 1 x1.length], .row .u8 x1 true]) rfl rfl (by kernel_rfl) trivial rfl (And.intro (And.intro rfl rfl) (trivial)) ?_
      refine WD_all [4, 8] (n := 4) (by kernel_rfl) rfl (And.intro ?_ (?_))
      · refine WM_op (φ := True) (v := .one (.e (.sd 1))) (H' := [.cells [.sp 0 48, .bsl 1 x1.length], .row .u8 x1 true]) rfl rfl (by kernel_rfl) trivial rfl (And.intro (And.intro rfl rfl) (trivial)) ?_
        refine WD_all [8] (n := 3) (by kernel_rfl) rfl ?_
        refine WM_op (φ := True) (v := .one (.e (.bsl 1 x1.length))) (H' := [.cells [.sp 0 48, .bsl 1 x1.length], .row .u8 x1 true]) rfl rfl (by kernel_rfl) trivial rfl (And.intro (And.intro rfl rfl) (trivial)) ?_
        refine WD_all [9] (n := 2) (by kernel_rfl) rfl ?_
        refine WM_op (φ := True) (v := I ((x1.length : Nat) : Int)) (H' := [.cells [.sp 0 48, .bsl 1 x1.length], .row .u8 x1 true]) rfl rfl (by kernel_rfl) trivial rfl (And.intro (And.intro rfl rfl) (trivial)) ?_
        refine WD_all [10] (n := 1) (by kernel_rfl) rfl ?_
        refine WM_op (φ := ((x1.length : Nat) : Int) = (x1.length : Int) ∧ ∀ x ∈ x1, 0 ≤ x ∧ x ≤ 255) (v := S (bytesOf x1)) (H' := [.cells [.sp 0 48, .bsl 1 x1.length], .dead]) rfl rfl (by kernel_rfl) hg5 rfl (And.intro (And.intro rfl rfl) (trivial)) ?_
        refine WD_takeK [11] [2] [2] (φ := True) (ls' := #[true, true, true, true, true, true, true, true, true, true, true, true]) (Ts' := [(2, S (bytesOf x1))]) (st' := ⟨[(2, S (bytesOf x1))], [.cells [.sp 0 48, .bsl 1 x1.length], .dead]⟩) (n2 := 0) (by kernel_rfl) trivial rfl ?_
        exact WD_done [0, 1] [2] (st' := ⟨[(2, S (bytesOf x1))], [.cells [.sp 0 48, .bsl 1 x1.length], .dead]⟩) (by kernel_rfl) (by kernel_rfl) (And.intro rfl rfl)
      · refine WM_op (φ := True) (v := .one (.e (.bsl 1 x1.length))) (H' := [.cells [.sp 0 48, .bsl 1 x1.length], .row .u8 x1 true]) rfl rfl (by kernel_rfl) trivial rfl (And.intro (And.intro rfl rfl) (trivial)) ?_
        refine WD_all [4, 9] (n := 3) (by kernel_rfl) rfl (And.intro ?_ (?_))
        · refine WM_op (φ := True) (v := .one (.e (.sd 1))) (H' := [.cells [.sp 0 48, .bsl 1 x1.length], .row .u8 x1 true]) rfl rfl (by kernel_rfl) trivial rfl (And.intro (And.intro rfl rfl) (trivial)) ?_
          refine WD_all [9] (n := 2) (by kernel_rfl) rfl ?_
          refine WM_op (φ := True) (v := I ((x1.length : Nat) : Int)) (H' := [.cells [.sp 0 48, .bsl 1 x1.length], .row .u8 x1 true]) rfl rfl (by kernel_rfl) trivial rfl (And.intro (And.intro rfl rfl) (trivial)) ?_
          refine WD_all [10] (n := 1) (by kernel_rfl) rfl ?_
          refine WM_op (φ := ((x1.length : Nat) : Int) = (x1.length : Int) ∧ ∀ x ∈ x1, 0 ≤ x ∧ x ≤ 255) (v := S (bytesOf x1)) (H' := [.cells [.sp 0 48, .bsl 1 x1.length], .dead]) rfl rfl (by kernel_rfl) hg5 rfl (And.intro (And.intro rfl rfl) (trivial)) ?_
          refine WD_takeK [11] [2] [2] (φ := True) (ls' := #[true, true, true, true, true, true, true, true, true, true, true, true]) (Ts' := [(2, S (bytesOf x1))]) (st' := ⟨[(2, S (bytesOf x1))], [.cells [.sp 0 48, .bsl 1 x1.length], .dead]⟩) (n2 := 0) (by kernel_rfl) trivial rfl ?_
          exact WD_done [0, 1] [2] (st' := ⟨[(2, S (bytesOf x1))], [.cells [.sp 0 48, .bsl 1 x1.length], .dead]⟩) (by kernel_rfl) (by kernel_rfl) (And.intro rfl rfl)
        · refine WM_op (φ := True) (v := I ((x1.length : Nat) : Int)) (H' := [.cells [.sp 0 48, .bsl 1 x1.length], .row .u8 x1 true]) rfl rfl (by kernel_rfl) trivial rfl (And.intro (And.intro rfl rfl) (trivial)) ?_
          refine WD_all [4] (n := 2) (by kernel_rfl) rfl ?_
          refine WM_op (φ := True) (v := .one (.e (.sd 1))) (H' := [.cells [.sp 0 48, .bsl 1 x1.length], .row .u8 x1 true]) rfl rfl (by kernel_rfl) trivial rfl (And.intro (And.intro rfl rfl) (trivial)) ?_
          refine WD_all [10] (n := 1) (by kernel_rfl) rfl ?_
          refine WM_op (φ := ((x1.length : Nat) : Int) = (x1.length : Int) ∧ ∀ x ∈ x1, 0 ≤ x ∧ x ≤ 255) (v := S (bytesOf x1)) (H' := [.cells [.sp 0 48, .bsl 1 x1.length], .dead]) rfl rfl (by kernel_rfl) hg5 rfl (And.intro (And.intro rfl rfl) (trivial)) ?_
          refine WD_takeK [11] [2] [2] (φ := True) (ls' := #[true, true, true, true, true, true, true, true, true, true, true, true]) (Ts' := [(2, S (bytesOf x1))]) (st' := ⟨[(2, S (bytesOf x1))], [.cells [.sp 0 48, .bsl 1 x1.length], .dead]⟩) (n2 := 0) (by kernel_rfl) trivial rfl ?_
          exact WD_done [0, 1] [2] (st' := ⟨[(2, S (bytesOf x1))], [.cells [.sp 0 48, .bsl 1 x1.length], .dead]⟩) (by kernel_rfl) (by kernel_rfl) (And.intro rfl rfl)
    · refine WM_op (φ := True) (v := .one (.e (.bsl 1 x1.length))) (H' := [.cells [.sp 0 48, .bsl 1 x1.length], .row .u8 x1 true]) rfl rfl (by kernel_rfl) trivial rfl (And.intro (And.intro rfl rfl) (trivial)) ?_
      refine WD_all [3, 9] (n := 4) (by kernel_rfl) rfl (And.intro ?_ (?_))
      · refine WM_op (φ := True) (v := .one (.e (.bsl 1 x1.length))) (H' := [.cells [.sp 0 48, .bsl 1 x1.length], .row .u8 x1 true]) rfl rfl (by kernel_rfl) trivial rfl (And.intro (And.intro rfl rfl) (trivial)) ?_
        refine WD_all [4, 9] (n := 3) (by kernel_rfl) rfl (And.intro ?_ (?_))
        · refine WM_op (φ := True) (v := .one (.e (.sd 1))) (H' := [.cells [.sp 0 48, .bsl 1 x1.length], .row .u8 x1 true]) rfl rfl (by kernel_rfl) trivial rfl (And.intro (And.intro rfl rfl) (trivial)) ?_
          refine WD_all [9] (n := 2) (by kernel_rfl) rfl ?_
          refine WM_op (φ := True) (v := I ((x1.length : Nat) : Int)) (H' := [.cells [.sp 0 48, .bsl 1 x1.length], .row .u8 x1 true]) rfl rfl (by kernel_rfl) trivial rfl (And.intro (And.intro rfl rfl) (trivial)) ?_
          refine WD_all [10] (n := 1) (by kernel_rfl) rfl ?_
          refine WM_op (φ := ((x1.length : Nat) : Int) = (x1.length : Int) ∧ ∀ x ∈ x1, 0 ≤ x ∧ x ≤ 255) (v := S (bytesOf x1)) (H' := [.cells [.sp 0 48, .bsl 1 x1.length], .dead]) rfl rfl (by kernel_rfl) hg5 rfl (And.intro (And.intro rfl rfl) (trivial)) ?_
          refine WD_takeK [11] [2] [2] (φ := True) (ls' := #[true, true, true, true, true, true, true, true, true, true, true, true]) (Ts' := [(2, S (bytesOf x1))]) (st' := ⟨[(2, S (bytesOf x1))], [.cells [.sp 0 48, .bsl 1 x1.length], .dead]⟩) (n2 := 0) (by kernel_rfl) trivial rfl ?_
          exact WD_done [0, 1] [2] (st' := ⟨[(2, S (bytesOf x1))], [.cells [.sp 0 48, .bsl 1 x1.length], .dead]⟩) (by kernel_rfl) (by kernel_rfl) (And.intro rfl rfl)
        · refine WM_op (φ := True) (v := I ((x1.length : Nat) : Int)) (H' := [.cells [.sp 0 48, .bsl 1 x1.length], .row .u8 x1 true]) rfl rfl (by kernel_rfl) trivial rfl (And.intro (And.intro rfl rfl) (trivial)) ?_
          refine WD_all [4] (n := 2) (by kernel_rfl) rfl ?_
          refine WM_op (φ := True) (v := .one (.e (.sd 1))) (H' := [.cells [.sp 0 48, .bsl 1 x1.length], .row .u8 x1 true]) rfl rfl (by kernel_rfl) trivial rfl (And.intro (And.intro rfl rfl) (trivial)) ?_
          refine WD_all [10] (n := 1) (by kernel_rfl) rfl ?_
          refine WM_op (φ := ((x1.length : Nat) : Int) = (x1.length : Int) ∧ ∀ x ∈ x1, 0 ≤ x ∧ x ≤ 255) (v := S (bytesOf x1)) (H' := [.cells [.sp 0 48, .bsl 1 x1.length], .dead]) rfl rfl (by kernel_rfl) hg5 rfl (And.intro (And.intro rfl rfl) (trivial)) ?_
          refine WD_takeK [11] [2] [2] (φ := True) (ls' := #[true, true, true, true, true, true, true, true, true, true, true, true]) (Ts' := [(2, S (bytesOf x1))]) (st' := ⟨[(2, S (bytesOf x1))], [.cells [.sp 0 48, .bsl 1 x1.length], .dead]⟩) (n2 := 0) (by kernel_rfl) trivial rfl ?_
          exact WD_done [0, 1] [2] (st' := ⟨[(2, S (bytesOf x1))], [.cells [.sp 0 48, .bsl 1 x1.length], .dead]⟩) (by kernel_rfl) (by kernel_rfl) (And.intro rfl rfl)
      · refine WM_op (φ := True) (v := I ((x1.length : Nat) : Int)) (H' := [.cells [.sp 0 48, .bsl 1 x1.length], .row .u8 x1 true]) rfl rfl (by kernel_rfl) trivial rfl (And.intro (And.intro rfl rfl) (trivial)) ?_
        refine WD_all [3] (n := 3) (by kernel_rfl) rfl ?_
        refine WM_op (φ := True) (v := .one (.e (.bsl 1 x1.length))) (H' := [.cells [.sp 0 48, .bsl 1 x1.length], .row .u8 x1 true]) rfl rfl (by kernel_rfl) trivial rfl (And.intro (And.intro rfl rfl) (trivial)) ?_
        refine WD_all [4] (n := 2) (by kernel_rfl) rfl ?_
        refine WM_op (φ := True) (v := .one (.e (.sd 1))) (H' := [.cells [.sp 0 48, .bsl 1 x1.length], .row .u8 x1 true]) rfl rfl (by kernel_rfl) trivial rfl (And.intro (And.intro rfl rfl) (trivial)) ?_
        refine WD_all [10] (n := 1) (by kernel_rfl) rfl ?_
        refine WM_op (φ := ((x1.length : Nat) : Int) = (x1.length : Int) ∧ ∀ x ∈ x1, 0 ≤ x ∧ x ≤ 255) (v := S (bytesOf x1)) (H' := [.cells [.sp 0 48, .bsl 1 x1.length], .dead]) rfl rfl (by kernel_rfl) hg5 rfl (And.intro (And.intro rfl rfl) (trivial)) ?_
        refine WD_takeK [11] [2] [2] (φ := True) (ls' := #[true, true, true, true, true, true, true, true, true, true, true, true]) (Ts' := [(2, S (bytesOf x1))]) (st' := ⟨[(2, S (bytesOf x1))], [.cells [.sp 0 48, .bsl 1 x1.length], .dead]⟩) (n2 := 0) (by kernel_rfl) trivial rfl ?_
        exact WD_done [0, 1] [2] (st' := ⟨[(2, S (bytesOf x1))], [.cells [.sp 0 48, .bsl 1 x1.length], .dead]⟩) (by kernel_rfl) (by kernel_rfl) (And.intro rfl rfl)
  · rintro _ _ ⟨rfl, rfl⟩
    refine thenS_n ?_
    refine W_ret ?_
    cases h
    exact ⟨[0, 1], True, by kernel_rfl, trivial⟩

/- impl.PathText -/
def impl_PathText_L1 (x1 : List Nod) (x81 : List Int) : Nat → (List Int) → Int → Option ((List Int))
| 0, _, _ => none
| n + 1, x112, i113 =>
 iteO (decide (i113 < (((x81.length - 1) : Nat) : Int)))
 (guardO (0 ≤ i113 ∧ i113 < (((x81.length - 1) : Nat) : Int)) <|
 bindO (strings_Builder_WriteByte x112 47) fun x147 =>
 guardO (0 ≤ (x81.getD (1 + i113.toNat) 0) ∧ (x81.getD (1 + i113.toNat) 0) < ((x1.length : Nat) : Int)) <|
 bindO (strings_Builder_WriteString x147 ((x1.getD ((x81.getD (1 + i113.toNat) 0).toNat) dnod).name)) fun (x150, i151) =>
 impl_PathText_L1 x1 x81 n x150 (w64 (i113 + 1)))
 (some x112)

theorem impl_PathText_L1_ok (w : World) (X : Nat → Prop) (θ : List Loc) (x1 : List Nod) (x81 : List Int) (x134 : (List Int)) : ∀ (n : Nat) (x112 : List Int) (i113 : Int), impl_PathText_L1 x1 x81 n x112 i113 = some x134 → WL EE ⟨w, X, θ, 34, 1⟩ (subC [1, 1, 1, 1, 1, 0, 1, 4, 4] (bodyC Tryd.f39)) (fun (e : Exit) (s : St) => e = .exit 0 ∧ s = ⟨[(6, .one (.e (.p 1 0)))], [.row .nod x1 false, .cells [.sp 1 48, .bsl 2 x134.length], .row .u8 x134 true]⟩) ⟨[(0, .one (.e (.sl 0 0 x1.length))), (6, .one (.e (.p 1 0))), (19, .one (.e (.sl 2 1 (x81.length - 1)))), (20, I (((x81.length - 1) : Nat) : Int)), (21, I i113)], [.row .nod x1 false, .cells [.sp 1 48, .bsl 3 x112.length], .row .int x81 true, .row .u8 x112 true]⟩ := by
  intro n
  induction n with
  | zero => intro _ _ h; exact none_e h
  | succ n ih =>
    intro x112 i113 h
    rw [impl_PathText_L1] at h
    refine WL_round ?_
    refine W_seq ?_
    refine W_region ?_
    refine WO_step 1 [0, 1, 2, 3] [0, 6, 19, 20, 21, 22] (True ∧ True) ⟨[(0, .one (.e (.sl 0 0 x1.length))), (6, .one (.e (.p 1 0))), (19, .one (.e (.sl 2 1 (x81.length - 1)))), (20, I (((x81.length - 1) : Nat) : Int)), (21, I i113), (22, B (decide (i113 < (((x81.length - 1) : Nat) : Int))))], [.row .nod x1 false, .cells [.sp 1 48, .bsl 3 x112.length], .row .int x81 true, .row .u8 x112 true]⟩ (by kernel_rfl) ⟨trivial, trivial⟩ ?_
    refine WO_nil rfl ?_
    refine thenS_n ?_
    refine W_seq ?_
    refine iteO_e h (fun hb137 h => W_true rfl hb137 ?_) (fun hb137 h => W_false rfl hb137 ?_)
    · refine W_sub [0, 1, 2, 3] [0, 6, 19, 20, 21] (st' := ⟨[(0, .one (.e (.sl 0 0 x1.length))), (6, .one (.e (.p 1 0))), (19, .one (.e (.sl 2 1 (x81.length - 1)))), (20, I (((x81.length - 1) : Nat) : Int)), (21, I i113)], [.row .nod x1 false, .cells [.sp 1 48, .bsl 3 x112.length], .row .int x81 true, .row .u8 x112 true]⟩) (by kernel_rfl) ?_
      refine W_skip ?_
      refine thenS_n ?_
      refine W_seq ?_
      refine W_block ?_
      refine W_seq ?_
      refine W_region ?_
      refine guardO_e h (fun hg146 h => ?_)
      refine WO_step 3 [0, 1, 2, 3] [0, 6, 8, 19, 20, 21] ((0 ≤ i113 ∧ i113 < (((x81.length - 1) : Nat) : Int)) ∧ (True ∧ True)) ⟨[(0, .one (.e (.sl 0 0 x1.length))), (6, .one (.e (.p 1 0))), (8, I (x81.getD (1 + i113.toNat) 0)), (19, .one (.e (.sl 2 1 (x81.length - 1)))), (20, I (((x81.length - 1) : Nat) : Int)), (21, I i113)], [.row .nod x1 false, .cells [.sp 1 48, .bsl 3 x112.length], .row .int x81 true, .row .u8 x112 true]⟩ (by kernel_rfl) ⟨hg146, trivial, trivial⟩ ?_
      refine WO_nil rfl ?_
      refine thenS_n ?_
      refine W_seq ?_
      refine W_region ?_
      refine bindO_e h (fun x147 hc148 h => ?_)
      refine WO_call [.own 1, .own 3] Tryd.f27 rfl rfl rfl (by kernel_rfl) Tryd.func27 rfl (by kernel_rfl) (strings_Builder_WriteByte_ok x112 47 x147 hc148) (And.intro (trivial) (And.intro (trivial) (trivial))) rfl ?_
      refine WO_sub [0, 1, 2, 4] [0, 6, 8, 19, 20, 21] (st' := ⟨[(0, .one (.e (.sl 0 0 x1.length))), (6, .one (.e (.p 1 0))), (8, I (x81.getD (1 + i113.toNat) 0)), (19, .one (.e (.sl 2 1 (x81.length - 1)))), (20, I (((x81.length - 1) : Nat) : Int)), (21, I i113)], [.row .nod x1 false, .cells [.sp 1 48, .bsl 3 x147.length], .row .int x81 true, .row .u8 x147 true]⟩) (by kernel_rfl) ?_
      refine WO_nil rfl ?_
      refine thenS_n ?_
      refine W_region ?_
      refine guardO_e h (fun hg149 h => ?_)
      refine WO_step 5 [0, 1, 2, 3] [0, 6, 19, 20, 21, 30] ((0 ≤ (x81.getD (1 + i113.toNat) 0) ∧ (x81.getD (1 + i113.toNat) 0) < ((x1.length : Nat) : Int)) ∧ (True ∧ True)) ⟨[(0, .one (.e (.sl 0 0 x1.length))), (6, .one (.e (.p 1 0))), (19, .one (.e (.sl 2 1 (x81.length - 1)))), (20, I (((x81.length - 1) : Nat) : Int)), (21, I i113), (30, S ((x1.getD ((x81.getD (1 + i113.toNat) 0).toNat) dnod).name))], [.row .nod x1 false, .cells [.sp 1 48, .bsl 3 x147.length], .row .int x81 true, .row .u8 x147 true]⟩ (by kernel_rfl) ⟨hg149, trivial, trivial⟩ ?_
      refine bindO_e h (fun v153 hc152 h => ?_)
      obtain ⟨x150, i151⟩ := v153
      refine WO_call [.own 1, .own 3] Tryd.f25 rfl rfl rfl (by kernel_rfl) Tryd.func25 rfl (by kernel_rfl) (strings_Builder_WriteString_ok x147 ((x1.getD ((x81.getD (1 + i113.toNat) 0).toNat) dnod).name) x150 i151 hc152) (And.intro (trivial) (And.intro (trivial) (trivial))) rfl ?_
      refine WO_sub [0, 1, 2, 4] [0, 6, 19, 20, 21] (st' := ⟨[(0, .one (.e (.sl 0 0 x1.length))), (6, .one (.e (.p 1 0))), (19, .one (.e (.sl 2 1 (x81.length - 1)))), (20, I (((x81.length - 1) : Nat) : Int)), (21, I i113)], [.row .nod x1 false, .cells [.sp 1 48, .bsl 3 x150.length], .row .int x81 true, .row .u8 x150 true]⟩) (by kernel_rfl) ?_
      refine WO_nil rfl ?_
      refine blockS_n ?_
      refine thenS_n ?_
      refine W_region ?_
      refine WO_step 2 [0, 1, 2, 3] [0, 6, 19, 20, 21] (True ∧ True) ⟨[(0, .one (.e (.sl 0 0 x1.length))), (6, .one (.e (.p 1 0))), (19, .one (.e (.sl 2 1 (x81.length - 1)))), (20, I (((x81.length - 1) : Nat) : Int)), (21, I (w64 (i113 + 1)))], [.row .nod x1 false, .cells [.sp 1 48, .bsl 3 x150.length], .row .int x81 true, .row .u8 x150 true]⟩ (by kernel_rfl) ⟨trivial, trivial⟩ ?_
      refine WO_nil rfl ?_
      refine thenS_n ?_
      exact ih _ _ h
    · refine W_sub [0, 1, 3] [6] (st' := ⟨[(6, .one (.e (.p 1 0)))], [.row .nod x1 false, .cells [.sp 1 48, .bsl 2 x112.length], .row .u8 x112 true]⟩) (by kernel_rfl) ?_
      refine W_exit ?_
      refine thenS_e ?_
      refine thenS_e ?_
      cases h
      exact And.intro rfl rfl

def impl_PathText (n : Nat) (x1 : List Nod) (i2 : Int) : Option (Str) :=
 bindO (impl_PathTo n x1 i2) fun x81 =>
 iteO (decide (((x81.length : Nat) : Int) = 0))
 (some [])
 (iteO (decide (((x81.length : Nat) : Int) = 1))
 (some [47])
 (guardO (0 ≤ (1 : Int) ∧ (1 : Int) ≤ ((x81.length : Nat) : Int)) <|
 bindO (impl_PathText_L1 x1 x81 n ([] : List Int) 0) fun x134 =>
 bindO (strings_Builder_String x134) fun (k155, s156) =>
 some s156))

theorem impl_PathText_ok (n : Nat) (x1 : List Nod) (i2 : Int) (s80 : Str) (h : impl_PathText n x1 i2 = some s80) : FOk EE 39 [.one (.e (.sl 0 0 x1.length)), I i2] [.row .nod x1 false] (S s80) [.row .nod x1 false] := by
  unfold impl_PathText at h
  refine FOk_of_W 34 1 Tryd.func39 rfl rfl (Nat.le_of_ble_eq_true rfl) rfl (fun w X θ => ?_)
  refine W_seq ?_
  refine W_region ?_
  refine WO_step 1 [0] [0, 1] True ⟨[(0, .one (.e (.sl 0 0 x1.length))), (1, I i2)], [.row .nod x1 false]⟩ (by kernel_rfl) trivial ?_
  refine WO_nil rfl ?_
  refine thenS_n ?_
  refine W_seq ?_
  refine W_region ?_
  refine WO_step 2 [0] [0, 9, 10] True ⟨[(0, .one (.e (.sl 0 0 x1.length))), (9, .one (.e (.sl 0 0 x1.length))), (10, I i2)], [.row .nod x1 false]⟩ (by kernel_rfl) trivial ?_
  refine bindO_e h (fun x81 hc82 h => ?_)
  refine WO_call [.ro 0] Tryd.f55 rfl rfl rfl (by kernel_rfl) Tryd.func55 rfl (by kernel_rfl) (impl_PathTo_ok n x1 i2 x81 hc82) (And.intro (And.intro rfl rfl) (trivial)) rfl ?_
  refine WO_step 1 [0, 1] [0, 5] True ⟨[(0, .one (.e (.sl 0 0 x1.length))), (5, .one (.e (.sl 1 0 x81.length)))], [.row .nod x1 false, .row .int x81 true]⟩ (by kernel_rfl) trivial ?_
  refine WO_nil rfl ?_
  refine thenS_n ?_
  refine W_seq ?_
  refine W_seq ?_
  refine W_region ?_
  refine WO_step 3 [0, 1] [0, 5, 14] (True ∧ (True ∧ True)) ⟨[(0, .one (.e (.sl 0 0 x1.length))), (5, .one (.e (.sl 1 0 x81.length))), (14, B (decide (((x81.length : Nat) : Int) = 0)))], [.row .nod x1 false, .row .int x81 true]⟩ (by kernel_rfl) ⟨trivial, trivial, trivial⟩ ?_
  refine WO_nil rfl ?_
  refine thenS_n ?_
  refine iteO_e h (fun hb84 h => W_true rfl hb84 ?_) (fun hb84 h => W_false rfl hb84 ?_)
  · refine W_seq ?_
    refine W_region ?_
    refine WO_step 1 [0] [4] True ⟨[(4, S [])], [.row .nod x1 false]⟩ (by kernel_rfl) trivial ?_
    refine WO_nil rfl ?_
    refine thenS_n ?_
    refine W_ret ?_
    refine thenS_r ?_
    cases h
    exact ⟨[0], True, by kernel_rfl, trivial⟩
  · refine W_sub [0, 1] [0, 5] (st' := ⟨[(0, .one (.e (.sl 0 0 x1.length))), (5, .one (.e (.sl 1 0 x81.length)))], [.row .nod x1 false, .row .int x81 true]⟩) (by kernel_rfl) ?_
    refine W_skip ?_
    refine thenS_n ?_
    refine W_seq ?_
    refine W_seq ?_
    refine W_region ?_
    refine WO_step 3 [0, 1] [0, 5, 17] (True ∧ (True ∧ True)) ⟨[(0, .one (.e (.sl 0 0 x1.length))), (5, .one (.e (.sl 1 0 x81.length))), (17, B (decide (((x81.length : Nat) : Int) = 1)))], [.row .nod x1 false, .row .int x81 true]⟩ (by kernel_rfl) ⟨trivial, trivial, trivial⟩ ?_
    refine WO_nil rfl ?_
    refine thenS_n ?_
    refine iteO_e h (fun hb86 h => W_true rfl hb86 ?_) (fun hb86 h => W_false rfl hb86 ?_)
    · refine W_seq ?_
      refine W_region ?_
      refine WO_step 1 [0] [4] True ⟨[(4, S [47])], [.row .nod x1 false]⟩ (by kernel_rfl) trivial ?_
      refine WO_nil rfl ?_
      refine thenS_n ?_
      refine W_ret ?_
      refine thenS_r ?_
      cases h
      exact ⟨[0], True, by kernel_rfl, trivial⟩
    · refine W_sub [0, 1] [0, 5] (st' := ⟨[(0, .one (.e (.sl 0 0 x1.length))), (5, .one (.e (.sl 1 0 x81.length)))], [.row .nod x1 false, .row .int x81 true]⟩) (by kernel_rfl) ?_
      refine W_skip ?_
      refine thenS_n ?_
      refine W_seq ?_
      refine W_region ?_
      refine WO_step 1 [0, 1, 2] [0, 5, 6] (True ∧ True) ⟨[(0, .one (.e (.sl 0 0 x1.length))), (5, .one (.e (.sl 1 0 x81.length))), (6, .one (.e (.p 2 0)))], [.row .nod x1 false, .row .int x81 true, .cells [.sp 2 48, .nsl]]⟩ (by kernel_rfl) ⟨trivial, trivial⟩ ?_
      refine WO_bld 2 rfl ?_
      refine WO_nil rfl ?_
      refine thenS_n ?_
      refine W_seq ?_
      refine W_seq ?_
      refine W_region ?_
      refine guardO_e h (fun hg87 h => ?_)
      refine WO_step 4 [0, 2, 1, 3] [0, 6, 19, 20, 21] ((0 ≤ (1 : Int) ∧ (1 : Int) ≤ ((x81.length : Nat) : Int)) ∧ (True ∧ True)) ⟨[(0, .one (.e (.sl 0 0 x1.length))), (6, .one (.e (.p 1 0))), (19, .one (.e (.sl 2 1 (x81.length - 1)))), (20, I (((x81.length - 1) : Nat) : Int)), (21, I 0)], [.row .nod x1 false, .cells [.sp 1 48, .bsl 3 (([] : List Int).length)], .row .int x81 true, .row .u8 ([] : List Int) true]⟩ (by kernel_rfl) ⟨hg87, trivial, trivial⟩ ?_
      refine WO_nil rfl ?_
      refine thenS_n ?_
      refine W_block ?_
      refine W_loop ?_
      refine bindO_e h (fun x134 hx134 h => ?_)
      refine WL_cut (impl_PathText_L1_ok w X θ x1 x81 x134 n ([] : List Int) 0 hx134) ?_
      rintro _ _ ⟨rfl, rfl⟩
      refine blockS_y ?_
      refine thenS_n ?_
      refine W_seq ?_
      refine W_region ?_
      refine bindO_e h (fun v158 hc157 h => ?_)
      obtain ⟨k155, s156⟩ := v158
      refine WO_call [.own 1, .own 2] Tryd.f28 rfl rfl rfl (by kernel_rfl) Tryd.func28 rfl (by kernel_rfl) (strings_Builder_String_ok x134 k155 s156 hc157) (And.intro (trivial) (And.intro (trivial) (trivial))) rfl ?_
      refine WO_step 1 [0] [4] True ⟨[(4, S s156)], [.row .nod x1 false]⟩ (by kernel_rfl) trivial ?_
      refine WO_nil rfl ?_
      refine thenS_n ?_
      refine W_ret ?_
      cases h
      exact ⟨[0], True, by kernel_rfl, trivial⟩

/- strconv.Itoa -/
def lays171R : Shelf.Ren := ⟨fun n => match n with | 129 => 80 | 171 => 26 | 243 => 45 | 246 => 59 | 283 => 70 | 284 => 71 | 285 => 72 | 286 => 73 | 317 => 79 | 318 => 81 | 319 => 82 | 320 => 83 | 337 => 84 | 338 => 85 | _ => 0, fun n => match n with | 0 => 0 | 2 => 2 | 3 => 3 | 4 => 4 | 5 => 5 | 9 => 9 | 20 => 20 | 37 => 29 | 46 => 111 | 51 => 109 | 53 => 97 | 171 => 96 | 173 => 100 | 212 => 108 | 213 => 110 | 232 => 114 | 233 => 115 | _ => 0, fun n => match n with | 17 => 1 | 18 => 2 | 19 => 3 | _ => 0⟩
set_option maxRecDepth 100000 in
theorem lays171 : LaysM.n171 Tryd.prog lays171R := {
  mixed := by kernel_rfl
  f129 := by kernel_rfl
  f171 := by kernel_rfl
  f243 := by kernel_rfl
  f246 := by kernel_rfl
  f283 := by kernel_rfl
  f284 := by kernel_rfl
  f285 := by kernel_rfl
  f286 := by kernel_rfl
  f317 := by kernel_rfl
  f318 := by kernel_rfl
  f319 := by kernel_rfl
  f320 := by kernel_rfl
  f337 := by kernel_rfl
  f338 := by kernel_rfl
  t0 := Tryd.underlying0
  a0 := Tryd.isAgg0
  z0 := Tryd.sizeOf0
  v0 := Tryd.zeroValue0
  t2 := Tryd.underlying2
  a2 := Tryd.isAgg2
  z2 := Tryd.sizeOf2
  v2 := Tryd.zeroValue2
  t3 := Tryd.underlying3
  a3 := Tryd.isAgg3
  z3 := Tryd.sizeOf3
  v3 := Tryd.zeroValue3
  t4 := Tryd.underlying4
  a4 := Tryd.isAgg4
  z4 := Tryd.sizeOf4
  v4 := Tryd.zeroValue4
  t5 := Tryd.underlying5
  a5 := Tryd.isAgg5
  z5 := Tryd.sizeOf5
  v5 := Tryd.zeroValue5
  t9 := Tryd.underlying9
  a9 := Tryd.isAgg9
  z9 := Tryd.sizeOf9
  v9 := Tryd.zeroValue9
  t20 := Tryd.underlying20
  a20 := Tryd.isAgg20
  z20 := Tryd.sizeOf20
  v20 := Tryd.zeroValue20
  t37 := Tryd.underlying29
  a37 := Tryd.isAgg29
  z37 := Tryd.sizeOf29
  v37 := Tryd.zeroValue29
  t46 := Tryd.underlying111
  a46 := Tryd.isAgg111
  z46 := Tryd.sizeOf111
  v46 := Tryd.zeroValue111
  t51 := Tryd.underlying109
  a51 := Tryd.isAgg109
  z51 := Tryd.sizeOf109
  v51 := Tryd.zeroValue109
  t53 := Tryd.underlying97
  a53 := Tryd.isAgg97
  z53 := Tryd.sizeOf97
  v53 := Tryd.zeroValue97
  t171 := Tryd.underlying96
  a171 := Tryd.isAgg96
  z171 := Tryd.sizeOf96
  v171 := Tryd.zeroValue96
  t173 := Tryd.underlying100
  a173 := Tryd.isAgg100
  z173 := Tryd.sizeOf100
  v173 := Tryd.zeroValue100
  t212 := Tryd.underlying108
  a212 := Tryd.isAgg108
  z212 := Tryd.sizeOf108
  v212 := Tryd.zeroValue108
  t213 := Tryd.underlying110
  a213 := Tryd.isAgg110
  z213 := Tryd.sizeOf110
  t232 := Tryd.underlying114
  a232 := Tryd.isAgg114
  z232 := Tryd.sizeOf114
  v232 := Tryd.zeroValue114
  t233 := Tryd.underlying115
  a233 := Tryd.isAgg115
  z233 := Tryd.sizeOf115
  v233 := Tryd.zeroValue115
  g17 := by kernel_rfl
  g18 := by kernel_rfl
  g19 := by kernel_rfl
  i0 := by kernel_rfl
  i2 := by kernel_rfl
  i3 := by kernel_rfl
  i4 := by kernel_rfl
  i5 := by kernel_rfl
  i9 := by kernel_rfl
  i20 := by kernel_rfl
  i37 := by kernel_rfl
  i46 := by kernel_rfl
  i51 := by kernel_rfl
  i53 := by kernel_rfl
  i171 := by kernel_rfl
  i173 := by kernel_rfl
  i212 := by kernel_rfl
  i232 := by kernel_rfl
  i233 := by kernel_rfl
  m17 := by kernel_rfl
  m18 := by kernel_rfl
  m19 := by kernel_rfl }
def strconv_Itoa (i1 : Int) : Option Str :=
 guardO (-9223372036854775808 ≤ i1 ∧ i1 ≤ 9223372036854775807) <|
 some (Lib.itoa i1)
theorem strconv_Itoa_ok (i1 : Int) (s2 : Str) (h : strconv_Itoa i1 = some s2) : FOk EE 26 [I i1] [] (S s2) [] := by
  unfold strconv_Itoa at h
  refine guardO_e h (fun hg h => ?_)
  cases h
  refine FOk_kept (args := [.int .i64 i1]) (r := .str (Lib.itoa i1)) (fun w hw => ?_)
  refine (Any.strconv_Itoa lays171 i1 hg.1 hg.2 w (KK_tab w hw)).mono ?_
  rintro e w' ⟨rfl, k, os, rfl⟩
  exact ⟨rfl, Lib.below_grow _ w (Nat.le_refl _) k os⟩

/- impl.FormatTree -/
def impl_FormatTree_L1 (x1 : List Nod) : Nat → (List Int) → Int → Option ((List Int))
| 0, _, _ => none
| n + 1, x217, i218 =>
 iteO (decide (i218 < ((x1.length : Nat) : Int)))
 (guardO (0 ≤ i218 ∧ i218 < ((x1.length : Nat) : Int)) <|
 bindO (iteO (decide (0 < i218))
 (bindO (strings_Builder_WriteString x217 [59, 32]) fun (x302, i303) =>
 some x302)
 (some x217)) fun x299 =>
 bindO (impl_PathText n x1 i218) fun s306 =>
 bindO (strings_Builder_WriteString x299 s306) fun (x308, i309) =>
 bindO (strings_Builder_WriteByte x308 32) fun x311 =>
 bindO (strconv_Itoa ((x1.getD i218.toNat dnod).value)) fun s313 =>
 bindO (strings_Builder_WriteString x311 s313) fun (x315, i316) =>
 impl_FormatTree_L1 x1 n x315 (w64 (i218 + 1)))
 (some x217)

theorem impl_FormatTree_L1_ok (w : World) (X : Nat → Prop) (θ : List Loc) (x1 : List Nod) (x267 : (List Int)) : ∀ (n : Nat) (x217 : List Int) (i218 : Int), impl_FormatTree_L1 x1 n x217 i218 = some x267 → WL EE ⟨w, X, θ, 30, 1⟩ (subC [1, 1, 1, 0, 1, 4, 4] (bodyC Tryd.f19)) (fun (e : Exit) (s : St) => e = .exit 0 ∧ s = ⟨[(3, .one (.e (.p 1 0)))], [.row .nod x1 false, .cells [.sp 1 48, .bsl 2 x267.length], .row .u8 x267 true]⟩) ⟨[(0, .one (.e (.sl 0 0 x1.length))), (3, .one (.e (.p 1 0))), (9, .one (.e (.sl 0 0 x1.length))), (10, I ((x1.length : Nat) : Int)), (11, I i218)], [.row .nod x1 false, .cells [.sp 1 48, .bsl 2 x217.length], .row .u8 x217 true]⟩ := by
  intro n
  induction n with
  | zero => intro _ _ h; exact none_e h
  | succ n ih =>
    intro x217 i218 h
    rw [impl_FormatTree_L1] at h
    refine WL_round ?_
    refine W_seq ?_
    refine W_region ?_
    refine WO_step 1 [0, 1, 2] [0, 3, 9, 10, 11, 12] (True ∧ True) ⟨[(0, .one (.e (.sl 0 0 x1.length))), (3, .one (.e (.p 1 0))), (9, .one (.e (.sl 0 0 x1.length))), (10, I ((x1.length : Nat) : Int)), (11, I i218), (12, B (decide (i218 < ((x1.length : Nat) : Int))))], [.row .nod x1 false, .cells [.sp 1 48, .bsl 2 x217.length], .row .u8 x217 true]⟩ (by kernel_rfl) ⟨trivial, trivial⟩ ?_
    refine WO_nil rfl ?_
    refine thenS_n ?_
    refine W_seq ?_
    refine iteO_e h (fun hb270 h => W_true rfl hb270 ?_) (fun hb270 h => W_false rfl hb270 ?_)
    · refine W_sub [0, 1, 2] [0, 3, 9, 10, 11] (st' := ⟨[(0, .one (.e (.sl 0 0 x1.length))), (3, .one (.e (.p 1 0))), (9, .one (.e (.sl 0 0 x1.length))), (10, I ((x1.length : Nat) : Int)), (11, I i218)], [.row .nod x1 false, .cells [.sp 1 48, .bsl 2 x217.length], .row .u8 x217 true]⟩) (by kernel_rfl) ?_
      refine W_skip ?_
      refine thenS_n ?_
      refine W_seq ?_
      refine W_block ?_
      refine W_seq ?_
      refine W_region ?_
      refine guardO_e h (fun hg293 h => ?_)
      refine WO_step 6 [0, 1, 3, 2] [0, 3, 4, 5, 9, 10, 11] ((0 ≤ i218 ∧ i218 < ((x1.length : Nat) : Int)) ∧ (True ∧ (True ∧ (True ∧ True)))) ⟨[(0, .one (.e (.sl 0 0 x1.length))), (3, .one (.e (.p 1 0))), (4, I i218), (5, .one (.e (.p 2 0))), (9, .one (.e (.sl 0 0 x1.length))), (10, I ((x1.length : Nat) : Int)), (11, I i218)], [.row .nod x1 false, .cells [.sp 1 48, .bsl 3 x217.length], .cells [cI ((x1.getD i218.toNat dnod).parent), cS ((x1.getD i218.toNat dnod).name), cI ((x1.getD i218.toNat dnod).value)], .row .u8 x217 true]⟩ (by kernel_rfl) ⟨hg293, trivial, trivial, trivial, trivial⟩ ?_
      refine WO_nil rfl ?_
      refine thenS_n ?_
      refine W_seq ?_
      refine W_seq ?_
      refine W_region ?_
      refine WO_step 2 [0, 1, 2, 3] [0, 3, 4, 5, 9, 10, 11, 17] (True ∧ True) ⟨[(0, .one (.e (.sl 0 0 x1.length))), (3, .one (.e (.p 1 0))), (4, I i218), (5, .one (.e (.p 2 0))), (9, .one (.e (.sl 0 0 x1.length))), (10, I ((x1.length : Nat) : Int)), (11, I i218), (17, B (decide (0 < i218)))], [.row .nod x1 false, .cells [.sp 1 48, .bsl 3 x217.length], .cells [cI ((x1.getD i218.toNat dnod).parent), cS ((x1.getD i218.toNat dnod).name), cI ((x1.getD i218.toNat dnod).value)], .row .u8 x217 true]⟩ (by kernel_rfl) ⟨trivial, trivial⟩ ?_
      refine WO_nil rfl ?_
      refine thenS_n ?_
      refine bindO_e h (fun x299 hx299 h => ?_)
      refine W_cut (Q' := fun (e : Exit) (s : St) => e = .normal ∧ s = ⟨[(0, .one (.e (.sl 0 0 x1.length))), (3, .one (.e (.p 1 0))), (4, I i218), (5, .one (.e (.p 2 0))), (9, .one (.e (.sl 0 0 x1.length))), (10, I ((x1.length : Nat) : Int)), (11, I i218)], [.row .nod x1 false, .cells [.sp 1 48, .bsl 3 x299.length], .cells [cI ((x1.getD i218.toNat dnod).parent), cS ((x1.getD i218.toNat dnod).name), cI ((x1.getD i218.toNat dnod).value)], .row .u8 x299 true]⟩) ?_ ?_
      · refine iteO_e hx299 (fun hb301 hx299 => W_true rfl hb301 ?_) (fun hb301 hx299 => W_false rfl hb301 ?_)
        · refine W_region ?_
          refine WO_sub [0, 1, 2, 3] [0, 3, 4, 5, 9, 10, 11] (st' := ⟨[(0, .one (.e (.sl 0 0 x1.length))), (3, .one (.e (.p 1 0))), (4, I i218), (5, .one (.e (.p 2 0))), (9, .one (.e (.sl 0 0 x1.length))), (10, I ((x1.length : Nat) : Int)), (11, I i218)], [.row .nod x1 false, .cells [.sp 1 48, .bsl 3 x217.length], .cells [cI ((x1.getD i218.toNat dnod).parent), cS ((x1.getD i218.toNat dnod).name), cI ((x1.getD i218.toNat dnod).value)], .row .u8 x217 true]⟩) (by kernel_rfl) ?_
          refine bindO_e hx299 (fun v305 hc304 hx299 => ?_)
          obtain ⟨x302, i303⟩ := v305
          refine WO_call [.own 1, .own 3] Tryd.f25 rfl rfl rfl (by kernel_rfl) Tryd.func25 rfl (by kernel_rfl) (strings_Builder_WriteString_ok x217 [59, 32] x302 i303 hc304) (And.intro (trivial) (And.intro (trivial) (trivial))) rfl ?_
          refine WO_sub [0, 1, 2, 4] [0, 3, 4, 5, 9, 10, 11] (st' := ⟨[(0, .one (.e (.sl 0 0 x1.length))), (3, .one (.e (.p 1 0))), (4, I i218), (5, .one (.e (.p 2 0))), (9, .one (.e (.sl 0 0 x1.length))), (10, I ((x1.length : Nat) : Int)), (11, I i218)], [.row .nod x1 false, .cells [.sp 1 48, .bsl 3 x302.length], .cells [cI ((x1.getD i218.toNat dnod).parent), cS ((x1.getD i218.toNat dnod).name), cI ((x1.getD i218.toNat dnod).value)], .row .u8 x302 true]⟩) (by kernel_rfl) ?_
          refine WO_nil rfl ?_
          cases hx299
          exact And.intro rfl rfl
        · refine W_sub [0, 1, 2, 3] [0, 3, 4, 5, 9, 10, 11] (st' := ⟨[(0, .one (.e (.sl 0 0 x1.length))), (3, .one (.e (.p 1 0))), (4, I i218), (5, .one (.e (.p 2 0))), (9, .one (.e (.sl 0 0 x1.length))), (10, I ((x1.length : Nat) : Int)), (11, I i218)], [.row .nod x1 false, .cells [.sp 1 48, .bsl 3 x217.length], .cells [cI ((x1.getD i218.toNat dnod).parent), cS ((x1.getD i218.toNat dnod).name), cI ((x1.getD i218.toNat dnod).value)], .row .u8 x217 true]⟩) (by kernel_rfl) ?_
          refine W_skip ?_
          cases hx299
          exact And.intro rfl rfl
      · rintro _ _ ⟨rfl, rfl⟩
        refine thenS_n ?_
        refine W_seq ?_
        refine W_region ?_
        refine WO_step 2 [0, 1, 2, 3] [0, 3, 5, 9, 10, 11, 19, 20] True ⟨[(0, .one (.e (.sl 0 0 x1.length))), (3, .one (.e (.p 1 0))), (5, .one (.e (.p 2 0))), (9, .one (.e (.sl 0 0 x1.length))), (10, I ((x1.length : Nat) : Int)), (11, I i218), (19, .one (.e (.sl 0 0 x1.length))), (20, I i218)], [.row .nod x1 false, .cells [.sp 1 48, .bsl 3 x299.length], .cells [cI ((x1.getD i218.toNat dnod).parent), cS ((x1.getD i218.toNat dnod).name), cI ((x1.getD i218.toNat dnod).value)], .row .u8 x299 true]⟩ (by kernel_rfl) trivial ?_
        refine bindO_e h (fun s306 hc307 h => ?_)
        refine WO_call [.ro 0] Tryd.f39 rfl rfl rfl (by kernel_rfl) Tryd.func39 rfl (by kernel_rfl) (impl_PathText_ok n x1 i218 s306 hc307) (And.intro (And.intro rfl rfl) (trivial)) rfl ?_
        refine WO_sub [0, 1, 2, 3] [0, 3, 5, 9, 10, 11, 21] (st' := ⟨[(0, .one (.e (.sl 0 0 x1.length))), (3, .one (.e (.p 1 0))), (5, .one (.e (.p 2 0))), (9, .one (.e (.sl 0 0 x1.length))), (10, I ((x1.length : Nat) : Int)), (11, I i218), (21, S s306)], [.row .nod x1 false, .cells [.sp 1 48, .bsl 3 x299.length], .cells [cI ((x1.getD i218.toNat dnod).parent), cS ((x1.getD i218.toNat dnod).name), cI ((x1.getD i218.toNat dnod).value)], .row .u8 x299 true]⟩) (by kernel_rfl) ?_
        refine bindO_e h (fun v319 hc310 h => ?_)
        obtain ⟨x308, i309⟩ := v319
        refine WO_call [.own 1, .own 3] Tryd.f25 rfl rfl rfl (by kernel_rfl) Tryd.func25 rfl (by kernel_rfl) (strings_Builder_WriteString_ok x299 s306 x308 i309 hc310) (And.intro (trivial) (And.intro (trivial) (trivial))) rfl ?_
        refine WO_sub [0, 1, 2, 4] [0, 3, 5, 9, 10, 11] (st' := ⟨[(0, .one (.e (.sl 0 0 x1.length))), (3, .one (.e (.p 1 0))), (5, .one (.e (.p 2 0))), (9, .one (.e (.sl 0 0 x1.length))), (10, I ((x1.length : Nat) : Int)), (11, I i218)], [.row .nod x1 false, .cells [.sp 1 48, .bsl 3 x308.length], .cells [cI ((x1.getD i218.toNat dnod).parent), cS ((x1.getD i218.toNat dnod).name), cI ((x1.getD i218.toNat dnod).value)], .row .u8 x308 true]⟩) (by kernel_rfl) ?_
        refine WO_nil rfl ?_
        refine thenS_n ?_
        refine W_seq ?_
        refine W_region ?_
        refine bindO_e h (fun x311 hc312 h => ?_)
        refine WO_call [.own 1, .own 3] Tryd.f27 rfl rfl rfl (by kernel_rfl) Tryd.func27 rfl (by kernel_rfl) (strings_Builder_WriteByte_ok x308 32 x311 hc312) (And.intro (trivial) (And.intro (trivial) (trivial))) rfl ?_
        refine WO_sub [0, 1, 2, 4] [0, 3, 5, 9, 10, 11] (st' := ⟨[(0, .one (.e (.sl 0 0 x1.length))), (3, .one (.e (.p 1 0))), (5, .one (.e (.p 2 0))), (9, .one (.e (.sl 0 0 x1.length))), (10, I ((x1.length : Nat) : Int)), (11, I i218)], [.row .nod x1 false, .cells [.sp 1 48, .bsl 3 x311.length], .cells [cI ((x1.getD i218.toNat dnod).parent), cS ((x1.getD i218.toNat dnod).name), cI ((x1.getD i218.toNat dnod).value)], .row .u8 x311 true]⟩) (by kernel_rfl) ?_
        refine WO_nil rfl ?_
        refine thenS_n ?_
        refine W_region ?_
        refine WO_step 2 [0, 1, 3] [0, 3, 9, 10, 11, 25] (True ∧ True) ⟨[(0, .one (.e (.sl 0 0 x1.length))), (3, .one (.e (.p 1 0))), (9, .one (.e (.sl 0 0 x1.length))), (10, I ((x1.length : Nat) : Int)), (11, I i218), (25, I ((x1.getD i218.toNat dnod).value))], [.row .nod x1 false, .cells [.sp 1 48, .bsl 2 x311.length], .row .u8 x311 true]⟩ (by kernel_rfl) ⟨trivial, trivial⟩ ?_
        refine bindO_e h (fun s313 hc314 h => ?_)
        refine WO_call [] Tryd.f26 rfl rfl rfl (by kernel_rfl) Tryd.func26 rfl (by kernel_rfl) (strconv_Itoa_ok ((x1.getD i218.toNat dnod).value) s313 hc314) (trivial) rfl ?_
        refine WO_sub [0, 1, 2] [0, 3, 9, 10, 11, 26] (st' := ⟨[(0, .one (.e (.sl 0 0 x1.length))), (3, .one (.e (.p 1 0))), (9, .one (.e (.sl 0 0 x1.length))), (10, I ((x1.length : Nat) : Int)), (11, I i218), (26, S s313)], [.row .nod x1 false, .cells [.sp 1 48, .bsl 2 x311.length], .row .u8 x311 true]⟩) (by kernel_rfl) ?_
        refine bindO_e h (fun v318 hc317 h => ?_)
        obtain ⟨x315, i316⟩ := v318
        refine WO_call [.own 1, .own 2] Tryd.f25 rfl rfl rfl (by kernel_rfl) Tryd.func25 rfl (by kernel_rfl) (strings_Builder_WriteString_ok x311 s313 x315 i316 hc317) (And.intro (trivial) (And.intro (trivial) (trivial))) rfl ?_
        refine WO_sub [0, 1, 3] [0, 3, 9, 10, 11] (st' := ⟨[(0, .one (.e (.sl 0 0 x1.length))), (3, .one (.e (.p 1 0))), (9, .one (.e (.sl 0 0 x1.length))), (10, I ((x1.length : Nat) : Int)), (11, I i218)], [.row .nod x1 false, .cells [.sp 1 48, .bsl 2 x315.length], .row .u8 x315 true]⟩) (by kernel_rfl) ?_
        refine WO_nil rfl ?_
        refine blockS_n ?_
        refine thenS_n ?_
        refine W_region ?_
        refine WO_step 2 [0, 1, 2] [0, 3, 9, 10, 11] (True ∧ True) ⟨[(0, .one (.e (.sl 0 0 x1.length))), (3, .one (.e (.p 1 0))), (9, .one (.e (.sl 0 0 x1.length))), (10, I ((x1.length : Nat) : Int)), (11, I (w64 (i218 + 1)))], [.row .nod x1 false, .cells [.sp 1 48, .bsl 2 x315.length], .row .u8 x315 true]⟩ (by kernel_rfl) ⟨trivial, trivial⟩ ?_
        refine WO_nil rfl ?_
        refine thenS_n ?_
        exact ih _ _ h
    · refine W_sub [0, 1, 2] [3] (st' := ⟨[(3, .one (.e (.p 1 0)))], [.row .nod x1 false, .cells [.sp 1 48, .bsl 2 x217.length], .row .u8 x217 true]⟩) (by kernel_rfl) ?_
      refine W_exit ?_
      refine thenS_e ?_
      refine thenS_e ?_
      cases h
      exact And.intro rfl rfl

def impl_FormatTree (n : Nat) (x1 : List Nod) : Option (Str) :=
 bindO (impl_ValidTree n x1) fun b161 =>
 iteO (!b161)
 (some [])
 (bindO (impl_FormatTree_L1 x1 n ([] : List Int) 0) fun x267 =>
 bindO (strings_Builder_String x267) fun (k321, s322) =>
 some s322)

theorem impl_FormatTree_ok (n : Nat) (x1 : List Nod) (s160 : Str) (h : impl_FormatTree n x1 = some s160) : FOk EE 19 [.one (.e (.sl 0 0 x1.length))] [.row .nod x1 false] (S s160) [.row .nod x1 false] := by
  unfold impl_FormatTree at h
  refine FOk_of_W 30 1 Tryd.func19 rfl rfl (Nat.le_of_ble_eq_true rfl) rfl (fun w X θ => ?_)
  refine W_seq ?_
  refine W_region ?_
  refine WO_step 1 [0] [0] True ⟨[(0, .one (.e (.sl 0 0 x1.length)))], [.row .nod x1 false]⟩ (by kernel_rfl) trivial ?_
  refine WO_nil rfl ?_
  refine thenS_n ?_
  refine W_seq ?_
  refine W_seq ?_
  refine W_region ?_
  refine WO_step 1 [0] [0, 6] True ⟨[(0, .one (.e (.sl 0 0 x1.length))), (6, .one (.e (.sl 0 0 x1.length)))], [.row .nod x1 false]⟩ (by kernel_rfl) trivial ?_
  refine bindO_e h (fun b161 hc162 h => ?_)
  refine WO_call [.ro 0] Tryd.f38 rfl rfl rfl (by kernel_rfl) Tryd.func38 rfl (by kernel_rfl) (impl_ValidTree_ok n x1 b161 hc162) (And.intro (And.intro rfl rfl) (trivial)) rfl ?_
  refine WO_step 1 [0] [0, 8] True ⟨[(0, .one (.e (.sl 0 0 x1.length))), (8, B (!b161))], [.row .nod x1 false]⟩ (by kernel_rfl) trivial ?_
  refine WO_nil rfl ?_
  refine thenS_n ?_
  refine iteO_e h (fun hb164 h => W_true rfl hb164 ?_) (fun hb164 h => W_false rfl hb164 ?_)
  · refine W_seq ?_
    refine W_region ?_
    refine WO_step 1 [0] [2] True ⟨[(2, S [])], [.row .nod x1 false]⟩ (by kernel_rfl) trivial ?_
    refine WO_nil rfl ?_
    refine thenS_n ?_
    refine W_ret ?_
    refine thenS_r ?_
    cases h
    exact ⟨[0], True, by kernel_rfl, trivial⟩
  · refine W_sub [0] [0] (st' := ⟨[(0, .one (.e (.sl 0 0 x1.length)))], [.row .nod x1 false]⟩) (by kernel_rfl) ?_
    refine W_skip ?_
    refine thenS_n ?_
    refine W_seq ?_
    refine W_region ?_
    refine WO_step 1 [0, 1] [0, 3] (True ∧ True) ⟨[(0, .one (.e (.sl 0 0 x1.length))), (3, .one (.e (.p 1 0)))], [.row .nod x1 false, .cells [.sp 1 48, .nsl]]⟩ (by kernel_rfl) ⟨trivial, trivial⟩ ?_
    refine WO_bld 1 rfl ?_
    refine WO_nil rfl ?_
    refine thenS_n ?_
    refine W_seq ?_
    refine W_seq ?_
    refine W_region ?_
    refine WO_step 3 [0, 1, 2] [0, 3, 9, 10, 11] (True ∧ True) ⟨[(0, .one (.e (.sl 0 0 x1.length))), (3, .one (.e (.p 1 0))), (9, .one (.e (.sl 0 0 x1.length))), (10, I ((x1.length : Nat) : Int)), (11, I 0)], [.row .nod x1 false, .cells [.sp 1 48, .bsl 2 (([] : List Int).length)], .row .u8 ([] : List Int) true]⟩ (by kernel_rfl) ⟨trivial, trivial⟩ ?_
    refine WO_nil rfl ?_
    refine thenS_n ?_
    refine W_block ?_
    refine W_loop ?_
    refine bindO_e h (fun x267 hx267 h => ?_)
    refine WL_cut (impl_FormatTree_L1_ok w X θ x1 x267 n ([] : List Int) 0 hx267) ?_
    rintro _ _ ⟨rfl, rfl⟩
    refine blockS_y ?_
    refine thenS_n ?_
    refine W_seq ?_
    refine W_region ?_
    refine bindO_e h (fun v324 hc323 h => ?_)
    obtain ⟨k321, s322⟩ := v324
    refine WO_call [.own 1, .own 2] Tryd.f28 rfl rfl rfl (by kernel_rfl) Tryd.func28 rfl (by kernel_rfl) (strings_Builder_String_ok x267 k321 s322 hc323) (And.intro (trivial) (And.intro (trivial) (trivial))) rfl ?_
    refine WO_step 1 [0] [2] True ⟨[(2, S s322)], [.row .nod x1 false]⟩ (by kernel_rfl) trivial ?_
    refine WO_nil rfl ?_
    refine thenS_n ?_
    refine W_ret ?_
    cases h
    exact ⟨[0], True, by kernel_rfl, trivial⟩

/- spec.pathTo -/
def spec_pathTo_L1 (x1 : List Nod) : Nat → (List Int) → Int → Option ((List Int))
| 0, _, _ => none
| n + 1, x46, i47 =>
 iteO (decide (0 < i47))
 (guardO (0 ≤ i47 ∧ i47 < ((x1.length : Nat) : Int)) <|
 guardO (0 = 0 ∧ [(x1.getD i47.toNat dnod).parent].length = [(x1.getD i47.toNat dnod).parent].length ∧ [(x1.getD i47.toNat dnod).parent].length + ((x46.drop 0).take x46.length).length ≤ 1099511627776) <|
 spec_pathTo_L1 x1 n ([(x1.getD i47.toNat dnod).parent] ++ ((x46.drop 0).take x46.length)) ((x1.getD i47.toNat dnod).parent))
 (some x46)

theorem spec_pathTo_L1_ok (w : World) (X : Nat → Prop) (θ : List Loc) (x1 : List Nod) (x56 : (List Int)) : ∀ (n : Nat) (x46 : List Int) (i47 : Int), spec_pathTo_L1 x1 n x46 i47 = some x56 → WL EE ⟨w, X, θ, 20, 1⟩ (subC [1, 1, 0, 4, 4] (bodyC Tryd.f64)) (fun (e : Exit) (s : St) => e = .exit 0 ∧ s = ⟨[(5, .one (.e (.sl 1 0 x56.length)))], [.row .nod x1 false, .row .int x56 true]⟩) ⟨[(0, .one (.e (.sl 0 0 x1.length))), (1, I i47), (5, .one (.e (.sl 1 0 x46.length)))], [.row .nod x1 false, .row .int x46 true]⟩ := by
  intro n
  induction n with
  | zero => intro _ _ h; exact none_e h
  | succ n ih =>
    intro x46 i47 h
    rw [spec_pathTo_L1] at h
    refine WL_round ?_
    refine W_seq ?_
    refine W_seq ?_
    refine W_region ?_
    refine WO_step 2 [0, 1] [0, 1, 5, 9] (True ∧ True) ⟨[(0, .one (.e (.sl 0 0 x1.length))), (1, I i47), (5, .one (.e (.sl 1 0 x46.length))), (9, B (decide (0 < i47)))], [.row .nod x1 false, .row .int x46 true]⟩ (by kernel_rfl) ⟨trivial, trivial⟩ ?_
    refine WO_nil rfl ?_
    refine thenS_n ?_
    refine iteO_e h (fun hb59 h => W_true rfl hb59 ?_) (fun hb59 h => W_false rfl hb59 ?_)
    · refine W_sub [0, 1] [0, 1, 5] (st' := ⟨[(0, .one (.e (.sl 0 0 x1.length))), (1, I i47), (5, .one (.e (.sl 1 0 x46.length)))], [.row .nod x1 false, .row .int x46 true]⟩) (by kernel_rfl) ?_
      refine W_skip ?_
      refine thenS_n ?_
      refine W_block ?_
      refine W_seq ?_
      refine W_region ?_
      refine guardO_e h (fun hg62 h => ?_)
      refine WO_step 6 [0, 1] [0, 1, 5] ((0 ≤ i47 ∧ i47 < ((x1.length : Nat) : Int)) ∧ (True ∧ True)) ⟨[(0, .one (.e (.sl 0 0 x1.length))), (1, I ((x1.getD i47.toNat dnod).parent)), (5, .one (.e (.sl 1 0 x46.length)))], [.row .nod x1 false, .row .int x46 true]⟩ (by kernel_rfl) ⟨hg62, trivial, trivial⟩ ?_
      refine WO_nil rfl ?_
      refine thenS_n ?_
      refine W_region ?_
      refine guardO_e h (fun hg63 h => ?_)
      refine WO_step 5 [0, 3] [0, 1, 5] ((0 = 0 ∧ [(x1.getD i47.toNat dnod).parent].length = [(x1.getD i47.toNat dnod).parent].length ∧ [(x1.getD i47.toNat dnod).parent].length + ((x46.drop 0).take x46.length).length ≤ 1099511627776) ∧ True) ⟨[(0, .one (.e (.sl 0 0 x1.length))), (1, I ((x1.getD i47.toNat dnod).parent)), (5, .one (.e (.sl 1 0 (([(x1.getD i47.toNat dnod).parent] ++ ((x46.drop 0).take x46.length)).length))))], [.row .nod x1 false, .row .int ([(x1.getD i47.toNat dnod).parent] ++ ((x46.drop 0).take x46.length)) true]⟩ (by kernel_rfl) ⟨hg63, trivial⟩ ?_
      refine WO_nil rfl ?_
      refine blockS_n ?_
      refine thenS_n ?_
      exact ih _ _ h
    · refine W_sub [0, 1] [5] (st' := ⟨[(5, .one (.e (.sl 1 0 x46.length)))], [.row .nod x1 false, .row .int x46 true]⟩) (by kernel_rfl) ?_
      refine W_exit ?_
      refine thenS_e ?_
      refine thenS_e ?_
      cases h
      exact And.intro rfl rfl

def spec_pathTo (n : Nat) (x1 : List Nod) (i2 : Int) : Option ((List Int)) :=
 bindO (spec_pathTo_L1 x1 n [i2] i2) fun x56 =>
 some x56

theorem spec_pathTo_ok (n : Nat) (x1 : List Nod) (i2 : Int) (x33 : List Int) (h : spec_pathTo n x1 i2 = some x33) : FOk EE 64 [.one (.e (.sl 0 0 x1.length)), I i2] [.row .nod x1 false] (.one (.e (.sl 1 0 x33.length))) [.row .nod x1 false, .row .int x33 true] := by
  unfold spec_pathTo at h
  refine FOk_of_W 20 1 Tryd.func64 rfl rfl (Nat.le_of_ble_eq_true rfl) rfl (fun w X θ => ?_)
  refine W_seq ?_
  refine W_region ?_
  refine WO_step 1 [0] [0, 1] True ⟨[(0, .one (.e (.sl 0 0 x1.length))), (1, I i2)], [.row .nod x1 false]⟩ (by kernel_rfl) trivial ?_
  refine WO_nil rfl ?_
  refine thenS_n ?_
  refine W_seq ?_
  refine W_region ?_
  refine WO_step 3 [0, 1] [0, 1, 5] True ⟨[(0, .one (.e (.sl 0 0 x1.length))), (1, I i2), (5, .one (.e (.sl 1 0 ([i2].length))))], [.row .nod x1 false, .row .int [i2] true]⟩ (by kernel_rfl) trivial ?_
  refine WO_nil rfl ?_
  refine thenS_n ?_
  refine W_seq ?_
  refine W_block ?_
  refine W_loop ?_
  refine bindO_e h (fun x56 hx56 h => ?_)
  refine WL_cut (spec_pathTo_L1_ok w X θ x1 x56 n [i2] i2 hx56) ?_
  rintro _ _ ⟨rfl, rfl⟩
  refine blockS_y ?_
  refine thenS_n ?_
  refine W_seq ?_
  refine W_region ?_
  refine WO_step 2 [0, 1] [4] True ⟨[(4, .one (.e (.sl 1 0 x56.length)))], [.row .nod x1 false, .row .int x56 true]⟩ (by kernel_rfl) trivial ?_
  refine WO_nil rfl ?_
  refine thenS_n ?_
  refine W_ret ?_
  cases h
  exact ⟨[0, 1], True, by kernel_rfl, trivial⟩

/- spec.pathText -/
def spec_pathText_L1 (x1 : List Nod) (i2 : Int) (x48 : List Int) : Nat → Str → Int → Option (Str)
| 0, _, _ => none
| n + 1, s66, i67 =>
 iteO (decide (i67 < ((x48.length : Nat) : Int)))
 (guardO (s66.length + [47].length ≤ 1099511627776) <|
 guardO (0 ≤ i67 ∧ i67 < ((x48.length : Nat) : Int)) <|
 guardO (0 ≤ (x48.getD i67.toNat 0) ∧ (x48.getD i67.toNat 0) < ((x1.length : Nat) : Int)) <|
 guardO ((s66 ++ [47]).length + ((x1.getD ((x48.getD i67.toNat 0).toNat) dnod).name).length ≤ 1099511627776) <|
 spec_pathText_L1 x1 i2 x48 n ((s66 ++ [47]) ++ ((x1.getD ((x48.getD i67.toNat 0).toNat) dnod).name)) (w64 (i67 + 1)))
 (some s66)

theorem spec_pathText_L1_ok (w : World) (X : Nat → Prop) (θ : List Loc) (x1 : List Nod) (i2 : Int) (x48 : List Int) (s80 : Str) : ∀ (n : Nat) (s66 : Str) (i67 : Int), spec_pathText_L1 x1 i2 x48 n s66 i67 = some s80 → WL EE ⟨w, X, θ, 31, 1⟩ (subC [1, 1, 1, 0, 1, 4, 4] (bodyC Tryd.f52)) (fun (e : Exit) (s : St) => e = .exit 0 ∧ s = ⟨[(1, I i2), (5, S s80)], [.row .nod x1 false]⟩) ⟨[(0, .one (.e (.sl 0 0 x1.length))), (1, I i2), (5, S s66), (6, .one (.e (.sl 1 0 x48.length))), (7, I i67)], [.row .nod x1 false, .row .int x48 true]⟩ := by
  intro n
  induction n with
  | zero => intro _ _ h; exact none_e h
  | succ n ih =>
    intro s66 i67 h
    rw [spec_pathText_L1] at h
    refine WL_round ?_
    refine W_seq ?_
    refine W_seq ?_
    refine W_region ?_
    refine WO_step 4 [0, 1] [0, 1, 5, 6, 7, 14] (True ∧ (True ∧ True)) ⟨[(0, .one (.e (.sl 0 0 x1.length))), (1, I i2), (5, S s66), (6, .one (.e (.sl 1 0 x48.length))), (7, I i67), (14, B (decide (i67 < ((x48.length : Nat) : Int))))], [.row .nod x1 false, .row .int x48 true]⟩ (by kernel_rfl) ⟨trivial, trivial, trivial⟩ ?_
    refine WO_nil rfl ?_
    refine thenS_n ?_
    refine iteO_e h (fun hb83 h => W_true rfl hb83 ?_) (fun hb83 h => W_false rfl hb83 ?_)
    · refine W_sub [0, 1] [0, 1, 5, 6, 7] (st' := ⟨[(0, .one (.e (.sl 0 0 x1.length))), (1, I i2), (5, S s66), (6, .one (.e (.sl 1 0 x48.length))), (7, I i67)], [.row .nod x1 false, .row .int x48 true]⟩) (by kernel_rfl) ?_
      refine W_skip ?_
      refine thenS_n ?_
      refine W_seq ?_
      refine W_block ?_
      refine W_region ?_
      refine guardO_e h (fun hg88 h => ?_)
      refine guardO_e h (fun hg89 h => ?_)
      refine guardO_e h (fun hg90 h => ?_)
      refine guardO_e h (fun hg91 h => ?_)
      refine WO_step 12 [0, 1] [0, 1, 5, 6, 7] ((s66.length + [47].length ≤ 1099511627776) ∧ ((0 ≤ i67 ∧ i67 < ((x48.length : Nat) : Int)) ∧ (True ∧ ((0 ≤ (x48.getD i67.toNat 0) ∧ (x48.getD i67.toNat 0) < ((x1.length : Nat) : Int)) ∧ (True ∧ (((s66 ++ [47]).length + ((x1.getD ((x48.getD i67.toNat 0).toNat) dnod).name).length ≤ 1099511627776) ∧ True)))))) ⟨[(0, .one (.e (.sl 0 0 x1.length))), (1, I i2), (5, S ((s66 ++ [47]) ++ ((x1.getD ((x48.getD i67.toNat 0).toNat) dnod).name))), (6, .one (.e (.sl 1 0 x48.length))), (7, I i67)], [.row .nod x1 false, .row .int x48 true]⟩ (by kernel_rfl) ⟨hg88, hg89, trivial, hg90, trivial, hg91, trivial⟩ ?_
      refine WO_nil rfl ?_
      refine blockS_n ?_
      refine thenS_n ?_
      refine W_region ?_
      refine WO_step 3 [0, 1] [0, 1, 5, 6, 7] (True ∧ True) ⟨[(0, .one (.e (.sl 0 0 x1.length))), (1, I i2), (5, S ((s66 ++ [47]) ++ ((x1.getD ((x48.getD i67.toNat 0).toNat) dnod).name))), (6, .one (.e (.sl 1 0 x48.length))), (7, I (w64 (i67 + 1)))], [.row .nod x1 false, .row .int x48 true]⟩ (by kernel_rfl) ⟨trivial, trivial⟩ ?_
      refine WO_nil rfl ?_
      refine thenS_n ?_
      exact ih _ _ h
    · refine W_sub [0] [1, 5] (st' := ⟨[(1, I i2), (5, S s66)], [.row .nod x1 false]⟩) (by kernel_rfl) ?_
      refine W_exit ?_
      refine thenS_e ?_
      refine thenS_e ?_
      cases h
      exact And.intro rfl rfl

def spec_pathText (n : Nat) (x1 : List Nod) (i2 : Int) : Option (Str) :=
 bindO (spec_pathTo n x1 i2) fun x48 =>
 bindO (spec_pathText_L1 x1 i2 x48 n [] 1) fun s80 =>
 iteO (decide (i2 = 0))
 (some [47])
 (some s80)

theorem spec_pathText_ok (n : Nat) (x1 : List Nod) (i2 : Int) (s47 : Str) (h : spec_pathText n x1 i2 = some s47) : FOk EE 52 [.one (.e (.sl 0 0 x1.length)), I i2] [.row .nod x1 false] (S s47) [.row .nod x1 false] := by
  unfold spec_pathText at h
  refine FOk_of_W 31 1 Tryd.func52 rfl rfl (Nat.le_of_ble_eq_true rfl) rfl (fun w X θ => ?_)
  refine W_seq ?_
  refine W_region ?_
  refine WO_step 1 [0] [0, 1] True ⟨[(0, .one (.e (.sl 0 0 x1.length))), (1, I i2)], [.row .nod x1 false]⟩ (by kernel_rfl) trivial ?_
  refine WO_nil rfl ?_
  refine thenS_n ?_
  refine W_seq ?_
  refine W_region ?_
  refine WO_step 1 [0] [0, 1, 5] True ⟨[(0, .one (.e (.sl 0 0 x1.length))), (1, I i2), (5, S [])], [.row .nod x1 false]⟩ (by kernel_rfl) trivial ?_
  refine WO_nil rfl ?_
  refine thenS_n ?_
  refine W_seq ?_
  refine W_region ?_
  refine WO_step 2 [0] [0, 1, 5, 8, 9] True ⟨[(0, .one (.e (.sl 0 0 x1.length))), (1, I i2), (5, S []), (8, .one (.e (.sl 0 0 x1.length))), (9, I i2)], [.row .nod x1 false]⟩ (by kernel_rfl) trivial ?_
  refine bindO_e h (fun x48 hc49 h => ?_)
  refine WO_call [.ro 0] Tryd.f64 rfl rfl rfl (by kernel_rfl) Tryd.func64 rfl (by kernel_rfl) (spec_pathTo_ok n x1 i2 x48 hc49) (And.intro (And.intro rfl rfl) (trivial)) rfl ?_
  refine WO_step 1 [0, 1] [0, 1, 5, 6] True ⟨[(0, .one (.e (.sl 0 0 x1.length))), (1, I i2), (5, S []), (6, .one (.e (.sl 1 0 x48.length)))], [.row .nod x1 false, .row .int x48 true]⟩ (by kernel_rfl) trivial ?_
  refine WO_nil rfl ?_
  refine thenS_n ?_
  refine W_seq ?_
  refine W_seq ?_
  refine W_region ?_
  refine WO_step 1 [0, 1] [0, 1, 5, 6, 7] True ⟨[(0, .one (.e (.sl 0 0 x1.length))), (1, I i2), (5, S []), (6, .one (.e (.sl 1 0 x48.length))), (7, I 1)], [.row .nod x1 false, .row .int x48 true]⟩ (by kernel_rfl) trivial ?_
  refine WO_nil rfl ?_
  refine thenS_n ?_
  refine W_block ?_
  refine W_loop ?_
  refine bindO_e h (fun s80 hs80 h => ?_)
  refine WL_cut (spec_pathText_L1_ok w X θ x1 i2 x48 s80 n [] 1 hs80) ?_
  rintro _ _ ⟨rfl, rfl⟩
  refine blockS_y ?_
  refine thenS_n ?_
  refine W_seq ?_
  refine W_seq ?_
  refine W_region ?_
  refine WO_step 2 [0] [5, 29] (True ∧ True) ⟨[(5, S s80), (29, B (decide (i2 = 0)))], [.row .nod x1 false]⟩ (by kernel_rfl) ⟨trivial, trivial⟩ ?_
  refine WO_nil rfl ?_
  refine thenS_n ?_
  refine iteO_e h (fun hb94 h => W_true rfl hb94 ?_) (fun hb94 h => W_false rfl hb94 ?_)
  · refine W_seq ?_
    refine W_region ?_
    refine WO_step 1 [0] [4] True ⟨[(4, S [47])], [.row .nod x1 false]⟩ (by kernel_rfl) trivial ?_
    refine WO_nil rfl ?_
    refine thenS_n ?_
    refine W_ret ?_
    refine thenS_r ?_
    cases h
    exact ⟨[0], True, by kernel_rfl, trivial⟩
  · refine W_sub [0] [5] (st' := ⟨[(5, S s80)], [.row .nod x1 false]⟩) (by kernel_rfl) ?_
    refine W_skip ?_
    refine thenS_n ?_
    refine W_seq ?_
    refine W_region ?_
    refine WO_step 2 [0] [4] True ⟨[(4, S s80)], [.row .nod x1 false]⟩ (by kernel_rfl) trivial ?_
    refine WO_nil rfl ?_
    refine thenS_n ?_
    refine W_ret ?_
    cases h
    exact ⟨[0], True, by kernel_rfl, trivial⟩

/- spec.decimal -/
def spec_decimal_B (rec : Int → Option (Str)) (i1 : Int) : Option (Str) :=
 iteO ((decide (i1 < 0)) && (decide (i1 = (w64 (0 - i1)))))
 (some [45, 57, 50, 50, 51, 51, 55, 50, 48, 51, 54, 56, 53, 52, 55, 55, 53, 56, 48, 56])
 (iteO (decide (i1 < 0))
 (bindO (rec (w64 (0 - i1))) fun s32 =>
 guardO ([45].length + s32.length ≤ 1099511627776) <|
 some ([45] ++ s32))
 (iteO (decide (i1 < 10))
 (some (bytesOf (([(IntKind.u8.wrap (w64 (48 + i1)))].drop 0).take ([(IntKind.u8.wrap (w64 (48 + i1)))].length))))
 (bindO (rec (w64 (i1.tdiv 10))) fun s37 =>
 guardO (s37.length + (bytesOf (([(IntKind.u8.wrap (w64 (48 + (i1.tmod 10))))].drop 0).take ([(IntKind.u8.wrap (w64 (48 + (i1.tmod 10))))].length))).length ≤ 1099511627776) <|
 some (s37 ++ (bytesOf (([(IntKind.u8.wrap (w64 (48 + (i1.tmod 10))))].drop 0).take ([(IntKind.u8.wrap (w64 (48 + (i1.tmod 10))))].length)))))))

theorem spec_decimal_B_ok (rec : Int → Option (Str)) (hrec : ∀ (i1 : Int) (s2 : Str), rec i1 = some s2 → FOk EE 23 [I i1] [] (S s2) []) (i1 : Int) (s21 : Str) (h : spec_decimal_B rec i1 = some s21) : FOk EE 23 [I i1] [] (S s21) [] := by
  unfold spec_decimal_B at h
  refine FOk_of_W 34 0 Tryd.func23 rfl rfl (Nat.le_of_ble_eq_true rfl) rfl (fun w X θ => ?_)
  refine W_seq ?_
  refine W_region ?_
  refine WO_step 1 [] [0] True ⟨[(0, I i1)], []⟩ (by kernel_rfl) trivial ?_
  refine WO_nil rfl ?_
  refine thenS_n ?_
  refine W_seq ?_
  refine W_seq ?_
  refine W_region ?_
  refine WO_step 3 [] [0, 5] (True ∧ True) ⟨[(0, I i1), (5, B (decide (i1 < 0)))], []⟩ (by kernel_rfl) ⟨trivial, trivial⟩ ?_
  refine WO_thru ⟨[(0, I i1), (10, B ((decide (i1 < 0)) && (decide (i1 = (w64 (0 - i1))))))], []⟩ ?_ ?_
  · refine WO_if 5 rfl (fun hb24 => ?_) (fun hb24 => ?_)
    · refine WO_step 5 [] [0, 10] (True ∧ True) ⟨[(0, I i1), (10, B (decide (i1 = (w64 (0 - i1)))))], []⟩ (by kernel_rfl) ⟨trivial, trivial⟩ ?_
      exact WO_nil rfl ⟨rfl, by first | rfl | (rw [hb24]; first | done | rfl)⟩
    · refine WO_step 5 [] [0, 10] True ⟨[(0, I i1), (10, B false)], []⟩ (by kernel_rfl) trivial ?_
      exact WO_nil rfl ⟨rfl, by first | rfl | (rw [hb24]; first | done | rfl)⟩
  · refine thenS_n ?_
    refine iteO_e h (fun hb26 h => W_true rfl hb26 ?_) (fun hb26 h => W_false rfl hb26 ?_)
    · refine W_seq ?_
      refine W_region ?_
      refine WO_step 1 [] [2] True ⟨[(2, S [45, 57, 50, 50, 51, 51, 55, 50, 48, 51, 54, 56, 53, 52, 55, 55, 53, 56, 48, 56])], []⟩ (by kernel_rfl) trivial ?_
      refine WO_nil rfl ?_
      refine thenS_n ?_
      refine W_ret ?_
      refine thenS_r ?_
      cases h
      exact ⟨[], True, by kernel_rfl, trivial⟩
    · refine W_sub [] [0] (st' := ⟨[(0, I i1)], []⟩) (by kernel_rfl) ?_
      refine W_skip ?_
      refine thenS_n ?_
      refine W_seq ?_
      refine W_seq ?_
      refine W_region ?_
      refine WO_step 2 [] [0, 12] (True ∧ True) ⟨[(0, I i1), (12, B (decide (i1 < 0)))], []⟩ (by kernel_rfl) ⟨trivial, trivial⟩ ?_
      refine WO_nil rfl ?_
      refine thenS_n ?_
      refine iteO_e h (fun hb31 h => W_true rfl hb31 ?_) (fun hb31 h => W_false rfl hb31 ?_)
      · refine W_seq ?_
        refine W_region ?_
        refine WO_step 2 [] [14] True ⟨[(14, I (w64 (0 - i1)))], []⟩ (by kernel_rfl) trivial ?_
        refine bindO_e h (fun s32 hc33 h => ?_)
        refine WO_call [] Tryd.f23 rfl rfl rfl (by kernel_rfl) Tryd.func23 rfl (by kernel_rfl) (hrec (w64 (0 - i1)) s32 hc33) (trivial) rfl ?_
        refine guardO_e h (fun hg34 h => ?_)
        refine WO_step 2 [] [2] (([45].length + s32.length ≤ 1099511627776) ∧ True) ⟨[(2, S ([45] ++ s32))], []⟩ (by kernel_rfl) ⟨hg34, trivial⟩ ?_
        refine WO_nil rfl ?_
        refine thenS_n ?_
        refine W_ret ?_
        refine thenS_r ?_
        cases h
        exact ⟨[], True, by kernel_rfl, trivial⟩
      · refine W_sub [] [0] (st' := ⟨[(0, I i1)], []⟩) (by kernel_rfl) ?_
        refine W_skip ?_
        refine thenS_n ?_
        refine W_seq ?_
        refine W_seq ?_
        refine W_region ?_
        refine WO_step 2 [] [0, 18] (True ∧ True) ⟨[(0, I i1), (18, B (decide (i1 < 10)))], []⟩ (by kernel_rfl) ⟨trivial, trivial⟩ ?_
        refine WO_nil rfl ?_
        refine thenS_n ?_
        refine iteO_e h (fun hb36 h => W_true rfl hb36 ?_) (fun hb36 h => W_false rfl hb36 ?_)
        · refine W_seq ?_
          refine W_region ?_
          refine WO_step 6 [] [2] (True ∧ (True ∧ (True ∧ True))) ⟨[(2, S (bytesOf (([(IntKind.u8.wrap (w64 (48 + i1)))].drop 0).take ([(IntKind.u8.wrap (w64 (48 + i1)))].length))))], []⟩ (by kernel_rfl) ⟨trivial, trivial, trivial, trivial⟩ ?_
          refine WO_nil rfl ?_
          refine thenS_n ?_
          refine W_ret ?_
          refine thenS_r ?_
          cases h
          exact ⟨[], True, by kernel_rfl, trivial⟩
        · refine W_sub [] [0] (st' := ⟨[(0, I i1)], []⟩) (by kernel_rfl) ?_
          refine W_skip ?_
          refine thenS_n ?_
          refine W_seq ?_
          refine bindO_e h (fun s37 hc38 h => ?_)
          refine guardO_e h (fun hg39 h => ?_)
          refine W_cut (Q' := fun (e : Exit) (s : St) => e = .normal ∧ s = ⟨[(2, S (s37 ++ (bytesOf (([(IntKind.u8.wrap (w64 (48 + (i1.tmod 10))))].drop 0).take ([(IntKind.u8.wrap (w64 (48 + (i1.tmod 10))))].length)))))], []⟩) ?_ ?_
          · refine W_draw [] false (by kernel_rfl) (by kernel_rfl) ?_
            refine WD_takeK [0, 1, 3, 4, 5, 6] [25, 30] [25, 30] (φ := (((10 : Int) ≠ 0) ∧ ((10 : Int) ≠ 0) ∧ (((10 : Int) ≠ 0) ∧ ((10 : Int) ≠ 0) ∧ (True ∧ True ∧ (True ∧ True ∧ True))))) (ls' := #[true, true, false, true, true, true, true, false, false, false, false]) (Ts' := [(25, I (w64 (i1.tdiv 10))), (30, U (IntKind.u8.wrap (w64 (48 + (i1.tmod 10)))))]) (st' := ⟨[(25, I (w64 (i1.tdiv 10))), (30, U (IntKind.u8.wrap (w64 (48 + (i1.tmod 10)))))], []⟩) (n2 := 5) (by kernel_rfl) ⟨(by decide), (by decide), (by decide), (by decide), trivial, trivial, trivial, trivial, trivial⟩ rfl ?_
            refine WD_all [2, 7] (n := 4) (by kernel_rfl) rfl (And.intro ?_ (?_))
            · refine WM_call [] Tryd.f23 rfl rfl (by kernel_rfl) Tryd.func23 rfl (by kernel_rfl) (hrec (w64 (i1.tdiv 10)) s37 hc38) (trivial) rfl (trivial) ?_
              refine WD_all [7] (n := 3) (by kernel_rfl) rfl ?_
              refine WM_op (φ := True) (v := .one (.e (.sl 0 0 ([(IntKind.u8.wrap (w64 (48 + (i1.tmod 10))))].length)))) (H' := [.row .u8 [(IntKind.u8.wrap (w64 (48 + (i1.tmod 10))))] true]) rfl rfl (by kernel_rfl) trivial rfl (trivial) ?_
              refine WD_all [8] (n := 2) (by kernel_rfl) rfl ?_
              refine WM_op (φ := True) (v := S (bytesOf (([(IntKind.u8.wrap (w64 (48 + (i1.tmod 10))))].drop 0).take ([(IntKind.u8.wrap (w64 (48 + (i1.tmod 10))))].length)))) (H' := [.row .u8 [(IntKind.u8.wrap (w64 (48 + (i1.tmod 10))))] true]) rfl rfl (by kernel_rfl) trivial rfl (trivial) ?_
              refine WD_takeK [9, 10] [2] [2] (φ := ((s37.length + (bytesOf (([(IntKind.u8.wrap (w64 (48 + (i1.tmod 10))))].drop 0).take ([(IntKind.u8.wrap (w64 (48 + (i1.tmod 10))))].length))).length ≤ 1099511627776) ∧ (s37.length + (bytesOf (([(IntKind.u8.wrap (w64 (48 + (i1.tmod 10))))].drop 0).take ([(IntKind.u8.wrap (w64 (48 + (i1.tmod 10))))].length))).length ≤ 1099511627776) ∧ True)) (ls' := #[true, true, true, true, true, true, true, true, true, true, true]) (Ts' := [(2, S (s37 ++ (bytesOf (([(IntKind.u8.wrap (w64 (48 + (i1.tmod 10))))].drop 0).take ([(IntKind.u8.wrap (w64 (48 + (i1.tmod 10))))].length)))))]) (st' := ⟨[(2, S (s37 ++ (bytesOf (([(IntKind.u8.wrap (w64 (48 + (i1.tmod 10))))].drop 0).take ([(IntKind.u8.wrap (w64 (48 + (i1.tmod 10))))].length)))))], [.row .u8 [(IntKind.u8.wrap (w64 (48 + (i1.tmod 10))))] true]⟩) (n2 := 0) (by kernel_rfl) ⟨hg39, hg39, trivial⟩ rfl ?_
              exact WD_done [] [2] (st' := ⟨[(2, S (s37 ++ (bytesOf (([(IntKind.u8.wrap (w64 (48 + (i1.tmod 10))))].drop 0).take ([(IntKind.u8.wrap (w64 (48 + (i1.tmod 10))))].length)))))], []⟩) (by kernel_rfl) (by kernel_rfl) (And.intro rfl rfl)
            · refine WM_op (φ := True) (v := .one (.e (.sl 0 0 ([(IntKind.u8.wrap (w64 (48 + (i1.tmod 10))))].length)))) (H' := [.row .u8 [(IntKind.u8.wrap (w64 (48 + (i1.tmod 10))))] true]) rfl rfl (by kernel_rfl) trivial rfl (trivial) ?_
              refine WD_all [2, 8] (n := 3) (by kernel_rfl) rfl (And.intro ?_ (?_))
              · refine WM_call [] Tryd.f23 rfl rfl (by kernel_rfl) Tryd.func23 rfl (by kernel_rfl) (hrec (w64 (i1.tdiv 10)) s37 hc38) (trivial) rfl (trivial) ?_
                refine WD_all [8] (n := 2) (by kernel_rfl) rfl ?_
                refine WM_op (φ := True) (v := S (bytesOf (([(IntKind.u8.wrap (w64 (48 + (i1.tmod 10))))].drop 0).take ([(IntKind.u8.wrap (w64 (48 + (i1.tmod 10))))].length)))) (H' := [.row .u8 [(IntKind.u8.wrap (w64 (48 + (i1.tmod 10))))] true]) rfl rfl (by kernel_rfl) trivial rfl (trivial) ?_
                refine WD_takeK [9, 10] [2] [2] (φ := ((s37.length + (bytesOf (([(IntKind.u8.wrap (w64 (48 + (i1.tmod 10))))].drop 0).take ([(IntKind.u8.wrap (w64 (48 + (i1.tmod 10))))].length))).length ≤ 1099511627776) ∧ (s37.length + (bytesOf (([(IntKind.u8.wrap (w64 (48 + (i1.tmod 10))))].drop 0).take ([(IntKind.u8.wrap (w64 (48 + (i1.tmod 10))))].length))).length ≤ 1099511627776) ∧ True)) (ls' := #[true, true, true, true, true, true, true, true, true, true, true]) (Ts' := [(2, S (s37 ++ (bytesOf (([(IntKind.u8.wrap (w64 (48 + (i1.tmod 10))))].drop 0).take ([(IntKind.u8.wrap (w64 (48 + (i1.tmod 10))))].length)))))]) (st' := ⟨[(2, S (s37 ++ (bytesOf (([(IntKind.u8.wrap (w64 (48 + (i1.tmod 10))))].drop 0).take ([(IntKind.u8.wrap (w64 (48 + (i1.tmod 10))))].length)))))], [.row .u8 [(IntKind.u8.wrap (w64 (48 + (i1.tmod 10))))] true]⟩) (n2 := 0) (by kernel_rfl) ⟨hg39, hg39, trivial⟩ rfl ?_
                exact WD_done [] [2] (st' := ⟨[(2, S (s37 ++ (bytesOf (([(IntKind.u8.wrap (w64 (48 + (i1.tmod 10))))].drop 0).take ([(IntKind.u8.wrap (w64 (48 + (i1.tmod 10))))].length)))))], []⟩) (by kernel_rfl) (by kernel_rfl) (And.intro rfl rfl)
              · refine WM_op (φ := True) (v := S (bytesOf (([(IntKind.u8.wrap (w64 (48 + (i1.tmod 10))))].drop 0).take ([(IntKind.u8.wrap (w64 (48 + (i1.tmod 10))))].length)))) (H' := [.row .u8 [(IntKind.u8.wrap (w64 (48 + (i1.tmod 10))))] true]) rfl rfl (by kernel_rfl) trivial rfl (trivial) ?_
                refine WD_all [2] (n := 2) (by kernel_rfl) rfl ?_
                refine WM_call [] Tryd.f23 rfl rfl (by kernel_rfl) Tryd.func23 rfl (by kernel_rfl) (hrec (w64 (i1.tdiv 10)) s37 hc38) (trivial) rfl (trivial) ?_
                refine WD_takeK [9, 10] [2] [2] (φ := ((s37.length + (bytesOf (([(IntKind.u8.wrap (w64 (48 + (i1.tmod 10))))].drop 0).take ([(IntKind.u8.wrap (w64 (48 + (i1.tmod 10))))].length))).length ≤ 1099511627776) ∧ (s37.length + (bytesOf (([(IntKind.u8.wrap (w64 (48 + (i1.tmod 10))))].drop 0).take ([(IntKind.u8.wrap (w64 (48 + (i1.tmod 10))))].length))).length ≤ 1099511627776) ∧ True)) (ls' := #[true, true, true, true, true, true, true, true, true, true, true]) (Ts' := [(2, S (s37 ++ (bytesOf (([(IntKind.u8.wrap (w64 (48 + (i1.tmod 10))))].drop 0).take ([(IntKind.u8.wrap (w64 (48 + (i1.tmod 10))))].length)))))]) (st' := ⟨[(2, S (s37 ++ (bytesOf (([(IntKind.u8.wrap (w64 (48 + (i1.tmod 10))))].drop 0).take ([(IntKind.u8.wrap (w64 (48 + (i1.tmod 10))))].length)))))], [.row .u8 [(IntKind.u8.wrap (w64 (48 + (i1.tmod 10))))] true]⟩) (n2 := 0) (by kernel_rfl) ⟨hg39, hg39, trivial⟩ rfl ?_
                exact WD_done [] [2] (st' := ⟨[(2, S (s37 ++ (bytesOf (([(IntKind.u8.wrap (w64 (48 + (i1.tmod 10))))].drop 0).take ([(IntKind.u8.wrap (w64 (48 + (i1.tmod 10))))].length)))))], []⟩) (by kernel_rfl) (by kernel_rfl) (And.intro rfl rfl)
          · rintro _ _ ⟨rfl, rfl⟩
            refine thenS_n ?_
            refine W_ret ?_
            cases h
            exact ⟨[], True, by kernel_rfl, trivial⟩

def spec_decimal : Nat → Int → Option (Str)
| 0, _ => none
| n + 1, i1 => spec_decimal_B (spec_decimal n) i1

theorem spec_decimal_ok : ∀ (n : Nat) (i1 : Int) (s21 : Str), spec_decimal n i1 = some s21 → FOk EE 23 [I i1] [] (S s21) [] := by
  intro n
  induction n with
  | zero => intro _ _ h; exact none_e h
  | succ n ih => intro i1 s21 h; exact spec_decimal_B_ok (spec_decimal n) ih i1 s21 h

/- spec.formatTree -/
def spec_formatTree_L1 (x1 : List Nod) : Nat → Str → Int → Option (Str)
| 0, _, _ => none
| n + 1, s123, i124 =>
 iteO (decide (i124 < ((x1.length : Nat) : Int)))
 (bindO (iteO (decide (0 < i124))
 (guardO (s123.length + [59, 32].length ≤ 1099511627776) <|
 some (s123 ++ [59, 32]))
 (some s123)) fun s171 =>
 bindO (spec_pathText n x1 i124) fun s175 =>
 guardO (s171.length + s175.length ≤ 1099511627776) <|
 guardO ((s171 ++ s175).length + [32].length ≤ 1099511627776) <|
 guardO (0 ≤ i124 ∧ i124 < ((x1.length : Nat) : Int)) <|
 bindO (spec_decimal n ((x1.getD i124.toNat dnod).value)) fun s180 =>
 guardO (((s171 ++ s175) ++ [32]).length + s180.length ≤ 1099511627776) <|
 spec_formatTree_L1 x1 n (((s171 ++ s175) ++ [32]) ++ s180) (w64 (i124 + 1)))
 (some s123)

theorem spec_formatTree_L1_ok (w : World) (X : Nat → Prop) (θ : List Loc) (x1 : List Nod) (s153 : Str) : ∀ (n : Nat) (s123 : Str) (i124 : Int), spec_formatTree_L1 x1 n s123 i124 = some s153 → WL EE ⟨w, X, θ, 29, 1⟩ (subC [1, 1, 0, 1, 4, 4] (bodyC Tryd.f36)) (fun (e : Exit) (s : St) => e = .exit 0 ∧ s = ⟨[(3, S s153)], [.row .nod x1 false]⟩) ⟨[(0, .one (.e (.sl 0 0 x1.length))), (3, S s123), (4, I i124)], [.row .nod x1 false]⟩ := by
  intro n
  induction n with
  | zero => intro _ _ h; exact none_e h
  | succ n ih =>
    intro s123 i124 h
    rw [spec_formatTree_L1] at h
    refine WL_round ?_
    refine W_seq ?_
    refine W_seq ?_
    refine W_region ?_
    refine WO_step 4 [0] [0, 3, 4, 8] (True ∧ (True ∧ True)) ⟨[(0, .one (.e (.sl 0 0 x1.length))), (3, S s123), (4, I i124), (8, B (decide (i124 < ((x1.length : Nat) : Int))))], [.row .nod x1 false]⟩ (by kernel_rfl) ⟨trivial, trivial, trivial⟩ ?_
    refine WO_nil rfl ?_
    refine thenS_n ?_
    refine iteO_e h (fun hb156 h => W_true rfl hb156 ?_) (fun hb156 h => W_false rfl hb156 ?_)
    · refine W_sub [0] [0, 3, 4] (st' := ⟨[(0, .one (.e (.sl 0 0 x1.length))), (3, S s123), (4, I i124)], [.row .nod x1 false]⟩) (by kernel_rfl) ?_
      refine W_skip ?_
      refine thenS_n ?_
      refine W_seq ?_
      refine W_block ?_
      refine W_seq ?_
      refine W_seq ?_
      refine W_region ?_
      refine WO_step 2 [0] [0, 3, 4, 12] (True ∧ True) ⟨[(0, .one (.e (.sl 0 0 x1.length))), (3, S s123), (4, I i124), (12, B (decide (0 < i124)))], [.row .nod x1 false]⟩ (by kernel_rfl) ⟨trivial, trivial⟩ ?_
      refine WO_nil rfl ?_
      refine thenS_n ?_
      refine bindO_e h (fun s171 hs171 h => ?_)
      refine W_cut (Q' := fun (e : Exit) (s : St) => e = .normal ∧ s = ⟨[(0, .one (.e (.sl 0 0 x1.length))), (3, S s171), (4, I i124)], [.row .nod x1 false]⟩) ?_ ?_
      · refine iteO_e hs171 (fun hb173 hs171 => W_true rfl hb173 ?_) (fun hb173 hs171 => W_false rfl hb173 ?_)
        · refine W_region ?_
          refine guardO_e hs171 (fun hg174 hs171 => ?_)
          refine WO_step 3 [0] [0, 3, 4] ((s123.length + [59, 32].length ≤ 1099511627776) ∧ True) ⟨[(0, .one (.e (.sl 0 0 x1.length))), (3, S (s123 ++ [59, 32])), (4, I i124)], [.row .nod x1 false]⟩ (by kernel_rfl) ⟨hg174, trivial⟩ ?_
          refine WO_nil rfl ?_
          cases hs171
          exact And.intro rfl rfl
        · refine W_sub [0] [0, 3, 4] (st' := ⟨[(0, .one (.e (.sl 0 0 x1.length))), (3, S s123), (4, I i124)], [.row .nod x1 false]⟩) (by kernel_rfl) ?_
          refine W_skip ?_
          cases hs171
          exact And.intro rfl rfl
      · rintro _ _ ⟨rfl, rfl⟩
        refine thenS_n ?_
        refine bindO_e h (fun s175 hc176 h => ?_)
        refine guardO_e h (fun hg177 h => ?_)
        refine guardO_e h (fun hg178 h => ?_)
        refine guardO_e h (fun hg179 h => ?_)
        refine bindO_e h (fun s180 hc181 h => ?_)
        refine guardO_e h (fun hg182 h => ?_)
        refine W_cut (Q' := fun (e : Exit) (s : St) => e = .normal ∧ s = ⟨[(0, .one (.e (.sl 0 0 x1.length))), (3, S (((s171 ++ s175) ++ [32]) ++ s180)), (4, I i124)], [.row .nod x1 false]⟩) ?_ ?_
        · refine W_draw [] false (by kernel_rfl) (by kernel_rfl) ?_
          refine WD_takeK [0, 1, 2, 6, 7, 8, 9, 10] [0, 3, 4, 15, 16, 17, 25] [0, 3, 4, 15, 16, 17, 25] (φ := ((0 ≤ i124 ∧ i124 < ((x1.length : Nat) : Int)) ∧ (0 ≤ i124 ∧ i124 < ((x1.length : Nat) : Int)) ∧ (True ∧ True ∧ True))) (ls' := #[true, true, true, false, false, false, true, true, true, true, true, false, false, false]) (Ts' := [(0, .one (.e (.sl 0 0 x1.length))), (3, S s171), (4, I i124), (15, S s171), (16, .one (.e (.sl 0 0 x1.length))), (17, I i124), (25, I ((x1.getD i124.toNat dnod).value))]) (st' := ⟨[(0, .one (.e (.sl 0 0 x1.length))), (3, S s171), (4, I i124), (15, S s171), (16, .one (.e (.sl 0 0 x1.length))), (17, I i124), (25, I ((x1.getD i124.toNat dnod).value))], [.row .nod x1 false]⟩) (n2 := 6) (by kernel_rfl) ⟨hg179, hg179, trivial, trivial, trivial⟩ rfl ?_
          refine WD_all [3] (n := 5) (by kernel_rfl) rfl ?_
          refine WM_call [.ro 0] Tryd.f52 rfl rfl (by kernel_rfl) Tryd.func52 rfl (by kernel_rfl) (spec_pathText_ok n x1 i124 s175 hc176) (And.intro (And.intro rfl rfl) (trivial)) rfl (And.intro rfl (trivial)) ?_
          refine WD_takeK [4, 5] [0, 3, 4, 20, 25] [0, 3, 4, 20, 25] (φ := ((s171.length + s175.length ≤ 1099511627776) ∧ (s171.length + s175.length ≤ 1099511627776) ∧ (((s171 ++ s175).length + [32].length ≤ 1099511627776) ∧ ((s171 ++ s175).length + [32].length ≤ 1099511627776) ∧ True))) (ls' := #[true, true, true, true, true, true, true, true, true, true, true, false, false, false]) (Ts' := [(0, .one (.e (.sl 0 0 x1.length))), (3, S s171), (4, I i124), (20, S ((s171 ++ s175) ++ [32])), (25, I ((x1.getD i124.toNat dnod).value))]) (st' := ⟨[(0, .one (.e (.sl 0 0 x1.length))), (3, S s171), (4, I i124), (20, S ((s171 ++ s175) ++ [32])), (25, I ((x1.getD i124.toNat dnod).value))], [.row .nod x1 false]⟩) (n2 := 3) (by kernel_rfl) ⟨hg177, hg177, hg178, hg178, trivial⟩ rfl ?_
          refine WD_all [11] (n := 2) (by kernel_rfl) rfl ?_
          refine WM_call [] Tryd.f23 rfl rfl (by kernel_rfl) Tryd.func23 rfl (by kernel_rfl) (spec_decimal_ok n ((x1.getD i124.toNat dnod).value) s180 hc181) (trivial) rfl (And.intro rfl (trivial)) ?_
          refine WD_takeK [12, 13] [0, 3, 4] [0, 3, 4] (φ := ((((s171 ++ s175) ++ [32]).length + s180.length ≤ 1099511627776) ∧ (((s171 ++ s175) ++ [32]).length + s180.length ≤ 1099511627776) ∧ True)) (ls' := #[true, true, true, true, true, true, true, true, true, true, true, true, true, true]) (Ts' := [(0, .one (.e (.sl 0 0 x1.length))), (3, S (((s171 ++ s175) ++ [32]) ++ s180)), (4, I i124)]) (st' := ⟨[(0, .one (.e (.sl 0 0 x1.length))), (3, S (((s171 ++ s175) ++ [32]) ++ s180)), (4, I i124)], [.row .nod x1 false]⟩) (n2 := 0) (by kernel_rfl) ⟨hg182, hg182, trivial⟩ rfl ?_
          exact WD_done [0] [0, 3, 4] (st' := ⟨[(0, .one (.e (.sl 0 0 x1.length))), (3, S (((s171 ++ s175) ++ [32]) ++ s180)), (4, I i124)], [.row .nod x1 false]⟩) (by kernel_rfl) (by kernel_rfl) (And.intro rfl rfl)
        · rintro _ _ ⟨rfl, rfl⟩
          refine blockS_n ?_
          refine thenS_n ?_
          refine W_region ?_
          refine WO_step 3 [0] [0, 3, 4] (True ∧ True) ⟨[(0, .one (.e (.sl 0 0 x1.length))), (3, S (((s171 ++ s175) ++ [32]) ++ s180)), (4, I (w64 (i124 + 1)))], [.row .nod x1 false]⟩ (by kernel_rfl) ⟨trivial, trivial⟩ ?_
          refine WO_nil rfl ?_
          refine thenS_n ?_
          exact ih _ _ h
    · refine W_sub [0] [3] (st' := ⟨[(3, S s123)], [.row .nod x1 false]⟩) (by kernel_rfl) ?_
      refine W_exit ?_
      refine thenS_e ?_
      refine thenS_e ?_
      cases h
      exact And.intro rfl rfl

def spec_formatTree (n : Nat) (x1 : List Nod) : Option (Str) :=
 bindO (spec_formatTree_L1 x1 n [] 0) fun s153 =>
 some s153

theorem spec_formatTree_ok (n : Nat) (x1 : List Nod) (s90 : Str) (h : spec_formatTree n x1 = some s90) : FOk EE 36 [.one (.e (.sl 0 0 x1.length))] [.row .nod x1 false] (S s90) [.row .nod x1 false] := by
  unfold spec_formatTree at h
  refine FOk_of_W 29 1 Tryd.func36 rfl rfl (Nat.le_of_ble_eq_true rfl) rfl (fun w X θ => ?_)
  refine W_seq ?_
  refine W_region ?_
  refine WO_step 1 [0] [0] True ⟨[(0, .one (.e (.sl 0 0 x1.length)))], [.row .nod x1 false]⟩ (by kernel_rfl) trivial ?_
  refine WO_nil rfl ?_
  refine thenS_n ?_
  refine W_seq ?_
  refine W_region ?_
  refine WO_step 1 [0] [0, 3] True ⟨[(0, .one (.e (.sl 0 0 x1.length))), (3, S [])], [.row .nod x1 false]⟩ (by kernel_rfl) trivial ?_
  refine WO_nil rfl ?_
  refine thenS_n ?_
  refine W_seq ?_
  refine W_seq ?_
  refine W_region ?_
  refine WO_step 1 [0] [0, 3, 4] True ⟨[(0, .one (.e (.sl 0 0 x1.length))), (3, S []), (4, I 0)], [.row .nod x1 false]⟩ (by kernel_rfl) trivial ?_
  refine WO_nil rfl ?_
  refine thenS_n ?_
  refine W_block ?_
  refine W_loop ?_
  refine bindO_e h (fun s153 hs153 h => ?_)
  refine WL_cut (spec_formatTree_L1_ok w X θ x1 s153 n [] 0 hs153) ?_
  rintro _ _ ⟨rfl, rfl⟩
  refine blockS_y ?_
  refine thenS_n ?_
  refine W_seq ?_
  refine W_region ?_
  refine WO_step 2 [0] [2] True ⟨[(2, S s153)], [.row .nod x1 false]⟩ (by kernel_rfl) trivial ?_
  refine WO_nil rfl ?_
  refine thenS_n ?_
  refine W_ret ?_
  cases h
  exact ⟨[0], True, by kernel_rfl, trivial⟩

/- spec.FormatTree -/
def spec_FormatTree (n : Nat) (x1 : List Nod) : Option (Str) :=
 bindO (spec_validTree n x1) fun b9 =>
 iteO (!b9)
 (some [])
 (bindO (spec_formatTree n x1) fun s13 =>
 some s13)

theorem spec_FormatTree_ok (n : Nat) (x1 : List Nod) (s8 : Str) (h : spec_FormatTree n x1 = some s8) : FOk EE 17 [.one (.e (.sl 0 0 x1.length))] [.row .nod x1 false] (S s8) [.row .nod x1 false] := by
  unfold spec_FormatTree at h
  refine FOk_of_W 8 1 Tryd.func17 rfl rfl (Nat.le_of_ble_eq_true rfl) rfl (fun w X θ => ?_)
  refine W_seq ?_
  refine W_region ?_
  refine WO_step 1 [0] [0] True ⟨[(0, .one (.e (.sl 0 0 x1.length)))], [.row .nod x1 false]⟩ (by kernel_rfl) trivial ?_
  refine WO_nil rfl ?_
  refine thenS_n ?_
  refine W_seq ?_
  refine W_seq ?_
  refine W_region ?_
  refine WO_step 1 [0] [0, 3] True ⟨[(0, .one (.e (.sl 0 0 x1.length))), (3, .one (.e (.sl 0 0 x1.length)))], [.row .nod x1 false]⟩ (by kernel_rfl) trivial ?_
  refine bindO_e h (fun b9 hc10 h => ?_)
  refine WO_call [.ro 0] Tryd.f35 rfl rfl rfl (by kernel_rfl) Tryd.func35 rfl (by kernel_rfl) (spec_validTree_ok n x1 b9 hc10) (And.intro (And.intro rfl rfl) (trivial)) rfl ?_
  refine WO_step 1 [0] [0, 5] True ⟨[(0, .one (.e (.sl 0 0 x1.length))), (5, B (!b9))], [.row .nod x1 false]⟩ (by kernel_rfl) trivial ?_
  refine WO_nil rfl ?_
  refine thenS_n ?_
  refine iteO_e h (fun hb12 h => W_true rfl hb12 ?_) (fun hb12 h => W_false rfl hb12 ?_)
  · refine W_seq ?_
    refine W_region ?_
    refine WO_step 1 [0] [2] True ⟨[(2, S [])], [.row .nod x1 false]⟩ (by kernel_rfl) trivial ?_
    refine WO_nil rfl ?_
    refine thenS_n ?_
    refine W_ret ?_
    refine thenS_r ?_
    cases h
    exact ⟨[0], True, by kernel_rfl, trivial⟩
  · refine W_sub [0] [0] (st' := ⟨[(0, .one (.e (.sl 0 0 x1.length)))], [.row .nod x1 false]⟩) (by kernel_rfl) ?_
    refine W_skip ?_
    refine thenS_n ?_
    refine W_seq ?_
    refine W_region ?_
    refine WO_step 1 [0] [6] True ⟨[(6, .one (.e (.sl 0 0 x1.length)))], [.row .nod x1 false]⟩ (by kernel_rfl) trivial ?_
    refine bindO_e h (fun s13 hc14 h => ?_)
    refine WO_call [.ro 0] Tryd.f36 rfl rfl rfl (by kernel_rfl) Tryd.func36 rfl (by kernel_rfl) (spec_formatTree_ok n x1 s13 hc14) (And.intro (And.intro rfl rfl) (trivial)) rfl ?_
    refine WO_step 1 [0] [2] True ⟨[(2, S s13)], [.row .nod x1 false]⟩ (by kernel_rfl) trivial ?_
    refine WO_nil rfl ?_
    refine thenS_n ?_
    refine W_ret ?_
    cases h
    exact ⟨[0], True, by kernel_rfl, trivial⟩

end Go.Proofs.YtiboohplkihhnaaDoor

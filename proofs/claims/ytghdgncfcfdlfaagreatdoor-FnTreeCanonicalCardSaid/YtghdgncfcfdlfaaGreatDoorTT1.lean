import Derived.Test.YtghdgncfcfdlfaaGreatDoorTLt
import Derived.Test.YtghdgncfcfdlfaaGreatDoorTLxd
import Derived.Shelf.Strings.Builder1
import Derived.Shelf.Strings.Search1
import Derived.Shelf.Strconv.Itoa3
import Derived.Lib.AppendIntMem
import Derived.Shelf.Strings.Split
import Derived.Shelf.Strconv.AtoiAll
import Derived.Lib.LaidTab
import Derived.Test.YtghdgncfcfdlfaaGreatDoorProg
namespace Go.Proofs.YtghdgncfcfdlfaaGreatDoor
open Go Go.Shelf Go.Proofs
set_option linter.unusedVariables false
def KK (w : World) : Prop := Lib.TabIs Tryz.prog w "internal/strconv.uint64pow10" .u64 Lib.pow10Tab ∧ (∃ m, w.cell? ⟨0, 0, none⟩ = some (.int .i64 m)) ∧ (∃ ev, w.cell? ⟨1, 0, none⟩ = some ev ∧ (ev = .nilIface ∨ ∃ te pe, ev = .iface te pe)) ∧ (∃ ev, w.cell? ⟨2, 0, none⟩ = some ev ∧ (ev = .nilIface ∨ ∃ te pe, ev = .iface te pe))
theorem KK_tab (w : World) (h : KK w) : Lib.TabIs Tryz.prog w "internal/strconv.uint64pow10" .u64 Lib.pow10Tab := h.1
theorem KK_max (w : World) (h : KK w) : ∃ m, w.cell? ⟨0, 0, none⟩ = some (.int .i64 m) := h.2.1
theorem KK_syn (w : World) (h : KK w) : ∃ ev, w.cell? ⟨1, 0, none⟩ = some ev ∧ (ev = .nilIface ∨ ∃ te pe, ev = .iface te pe) := h.2.2.1
theorem KK_rng (w : World) (h : KK w) : ∃ ev, w.cell? ⟨2, 0, none⟩ = some ev ∧ (ev = .nilIface ∨ ∃ te pe, ev = .iface te pe) := h.2.2.2
noncomputable def EE : Env := ⟨Tryz.prog, fun _ => none, fun t => match t with | 3 => some .int | 5 => some .u8 | 9 => some .str | 47 => some .nod | 103 => some .edt | 108 => some .lck | _ => none, KK⟩
/- spec.newReader -/
def spec_newReader (x1 : List Int) : Option (Nat) :=
 bindO (iteO (decide (2000 < ((x1.length : Nat) : Int)))
 (guardO (0 ≤ (2000 : Int) ∧ (2000 : Int) ≤ ((x1.length : Nat) : Int)) <|
 some 2000)
 (some x1.length)) fun k9 =>
 some k9

theorem spec_newReader_ok (x1 : List Int) (k6 : Nat) (h : spec_newReader x1 = some k6) : FOk EE 22 [sF 0 x1] [uR x1] (pA 1 0) [uR x1, .cells [.sl 0 0 k6, cI 0]] := by
  unfold spec_newReader at h
  refine FOk_of_W 11 1 Tryz.func22 rfl rfl (Nat.le_of_ble_eq_true rfl) rfl (fun w X θ => ?_)
  refine Wsr ((Ws 1 [0] [0] ⟨[(0, sF 0 x1)], [uR x1]⟩ (Wnt ((W_seq (W_seq ?_))))))
  refine W_region (Wp 3 [0] [0, 5] T3 ⟨[(0, sF 0 x1), (5, B (decide (2000 < (lI x1))))], [uR x1]⟩ t3 (Wnt ((bindO_e h (fun k9 hk9 h => (W_cut (Q' := fun (e : Exit) (s : St) => e = .normal ∧ s = ⟨[(0, SL 0 0 k9)], [uR x1]⟩) ?_ ?_))))))
  ·refine iteO_e hk9 (fun hb11 hk9 => W_true rfl hb11 ?_) (fun hb11 hk9 => W_false rfl hb11 ?_)
   ·refine W_region (guardO_e hk9 (fun hg12 hk9 => (Wp 3 [0] [0] ((0 ≤ (2000 : Int) ∧ (2000 : Int) ≤ (lI x1)) ∧ True) ⟨[(0, SL 0 0 2000)], [uR x1]⟩ ⟨hg12, trivial⟩ (WO_nil rfl ?_))))
    cases hk9
    exact aI rfl rfl
   ·refine Ww [0] [0] ⟨[(0, sF 0 x1)], [uR x1]⟩ (W_skip ?_)
    cases hk9
    exact aI rfl rfl
  ·rintro _ _ ⟨rfl, rfl⟩
   refine thenS_n (Wsr ((Wp 4 [0, 1] [2] T2 ⟨[(2, pA 1 0)], [uR x1, .cells [.sl 0 0 k9, cI 0]]⟩ t2 (Wnt ((W_ret ?_))))))
   cases h
   exact ⟨[0, 1], True, by kernel_rfl, trivial⟩

/- spec.reader).pick -/
def spec_reader_pick (x1 : List Int) (k2 : Nat) (i3 : Int) (i4 : Int) : Option (Int) :=
 iteO ((decide (i4 < 1)) || (decide (((k2 : Nat) : Int) = 0)))
 (some 0)
 (iteO (decide ((w64 ((w64 (i3 + 1)) - 1)) < ((k2 : Nat) : Int)))
 (guardO (0 ≤ (w64 ((w64 (i3 + 1)) - 1)) ∧ (w64 ((w64 (i3 + 1)) - 1)) < ((k2 : Nat) : Int)) <|
 guardO ((i4 : Int) ≠ 0) <|
 some ((w64 (x1.getD ((w64 ((w64 (i3 + 1)) - 1)).toNat) 0)).tmod i4))
 (guardO ((((k2 : Nat) : Int) : Int) ≠ 0) <|
 guardO (0 ≤ ((w64 ((w64 (i3 + 1)) - 1)).tmod ((k2 : Nat) : Int)) ∧ ((w64 ((w64 (i3 + 1)) - 1)).tmod ((k2 : Nat) : Int)) < ((k2 : Nat) : Int)) <|
 guardO ((((k2 : Nat) : Int) : Int) ≠ 0) <|
 guardO (0 ≤ ((w64 ((w64 ((w64 ((w64 (i3 + 1)) - 1)) * 7)) + 3)).tmod ((k2 : Nat) : Int)) ∧ ((w64 ((w64 ((w64 ((w64 (i3 + 1)) - 1)) * 7)) + 3)).tmod ((k2 : Nat) : Int)) < ((k2 : Nat) : Int)) <|
 guardO ((((k2 : Nat) : Int) : Int) ≠ 0) <|
 guardO ((i4 : Int) ≠ 0) <|
 some ((w64 (BitVec.ofInt 64 (w64 ((w64 ((w64 ((w64 ((w64 (x1.getD (((w64 ((w64 (i3 + 1)) - 1)).tmod ((k2 : Nat) : Int)).toNat) 0)) * 131)) + (w64 ((w64 (x1.getD (((w64 ((w64 ((w64 ((w64 (i3 + 1)) - 1)) * 7)) + 3)).tmod ((k2 : Nat) : Int)).toNat) 0)) * 1117)))) + (w64 ((w64 ((w64 (i3 + 1)) - 1)) * 29)))) + (w64 ((w64 ((w64 ((w64 (i3 + 1)) - 1)).tdiv ((k2 : Nat) : Int))) * 53)))) ^^^ BitVec.ofInt 64 (w64 ((w64 ((w64 ((w64 ((w64 ((w64 (x1.getD (((w64 ((w64 (i3 + 1)) - 1)).tmod ((k2 : Nat) : Int)).toNat) 0)) * 131)) + (w64 ((w64 (x1.getD (((w64 ((w64 ((w64 ((w64 (i3 + 1)) - 1)) * 7)) + 3)).tmod ((k2 : Nat) : Int)).toNat) 0)) * 1117)))) + (w64 ((w64 ((w64 (i3 + 1)) - 1)) * 29)))) + (w64 ((w64 ((w64 ((w64 (i3 + 1)) - 1)).tdiv ((k2 : Nat) : Int))) * 53)))).tdiv 64))).toNat).tmod i4)))

theorem spec_reader_pick_ok (x1 : List Int) (k2 : Nat) (i3 : Int) (i4 : Int) (i22 : Int) (h : spec_reader_pick x1 k2 i3 i4 = some i22) : FOk EE 25 [pA 0 0, I i4] [.cells [.sl 1 0 k2, cI i3], uR x1] (I i22) [.cells [.sl 1 0 k2, cI (w64 (i3 + 1))], uR x1] := by
  unfold spec_reader_pick at h
  refine FOk_of_W 99 2 Tryz.func25 rfl rfl (Nat.le_of_ble_eq_true rfl) rfl (fun w X θ => ?_)
  refine Wsr ((Ws 1 [0, 1] [0, 1] ⟨[(0, pA 0 0), (1, I i4)], [.cells [.sl 1 0 k2, cI i3], uR x1]⟩ (Wnt ((W_seq (W_region ?_))))))
  refine Wp 9 [0, 1] [0, 1] T4 ⟨[(0, pA 0 0), (1, I i4)], [.cells [.sl 1 0 k2, cI (w64 (i3 + 1))], uR x1]⟩ t4 (Wnt ((W_seq (Wsr ((Wp 3 [0, 1] [0, 1, 17] T2 ⟨[(0, pA 0 0), (1, I i4), (17, B (decide (i4 < 1)))], [.cells [.sl 1 0 k2, cI (w64 (i3 + 1))], uR x1]⟩ t2 ?_))))))
  refine WO_thru ⟨[(0, pA 0 0), (1, I i4), (24, B ((decide (i4 < 1)) || (decide (((k2 : Nat) : Int) = 0))))], [.cells [.sl 1 0 k2, cI (w64 (i3 + 1))], uR x1]⟩ ?_ ?_
  ·refine WO_if 17 rfl (fun hb25 => ?_) (fun hb25 => ?_)
   ·refine Ws 7 [0, 1] [0, 1, 24] ⟨[(0, pA 0 0), (1, I i4), (24, B true)], [.cells [.sl 1 0 k2, cI (w64 (i3 + 1))], uR x1]⟩ ?_
    exact WO_nil rfl ⟨rfl, by first | rfl | (rw [hb25]; first | done | rfl)⟩
   ·refine Wp 7 [0, 1] [0, 1, 24] T4 ⟨[(0, pA 0 0), (1, I i4), (24, B (decide (((k2 : Nat) : Int) = 0)))], [.cells [.sl 1 0 k2, cI (w64 (i3 + 1))], uR x1]⟩ t4 ?_
    exact WO_nil rfl ⟨rfl, by first | rfl | (rw [hb25]; first | done | rfl)⟩
  ·refine thenS_n (iteO_e h (fun hb27 h => W_true rfl hb27 ?_) (fun hb27 h => W_false rfl hb27 ?_))
   ·refine Wsr ((Ws 1 [0, 1] [4] ⟨[(4, I 0)], [.cells [.sl 1 0 k2, cI (w64 (i3 + 1))], uR x1]⟩ (Wnt ((W_ret (thenS_r ?_))))))
    cases h
    exact ⟨[0, 1], True, by kernel_rfl, trivial⟩
   ·refine Ww [0, 1] [0, 1] ⟨[(0, pA 0 0), (1, I i4)], [.cells [.sl 1 0 k2, cI (w64 (i3 + 1))], uR x1]⟩ (W_skip (thenS_n (Wsr ((Wp 6 [0, 1] [0, 1, 5] T3 ⟨[(0, pA 0 0), (1, I i4), (5, I (w64 ((w64 (i3 + 1)) - 1)))], [.cells [.sl 1 0 k2, cI (w64 (i3 + 1))], uR x1]⟩ t3 (Wnt ((W_seq (Wsr ((Wp 7 [0, 1] [0, 1, 5, 36] T4 ⟨[(0, pA 0 0), (1, I i4), (5, I (w64 ((w64 (i3 + 1)) - 1))), (36, B (decide ((w64 ((w64 (i3 + 1)) - 1)) < ((k2 : Nat) : Int))))], [.cells [.sl 1 0 k2, cI (w64 (i3 + 1))], uR x1]⟩ t4 (Wnt ((iteO_e h (fun hb31 h => W_true rfl hb31 ?_) (fun hb31 h => W_false rfl hb31 ?_)))))))))))))))
    ·refine Wsr ((guardO_e h (fun hg32 h => (guardO_e h (fun hg33 h => (Wp 11 [0, 1] [4] (True ∧ ((0 ≤ (w64 ((w64 (i3 + 1)) - 1)) ∧ (w64 ((w64 (i3 + 1)) - 1)) < ((k2 : Nat) : Int)) ∧ (True ∧ (True ∧ (((i4 : Int) ≠ 0) ∧ True))))) ⟨[(4, I ((w64 (x1.getD ((w64 ((w64 (i3 + 1)) - 1)).toNat) 0)).tmod i4))], [.cells [.sl 1 0 k2, cI (w64 (i3 + 1))], uR x1]⟩ ⟨trivial, hg32, trivial, trivial, hg33, trivial⟩ (Wnt ((W_ret (thenS_r ?_))))))))))
     cases h
     exact ⟨[0, 1], True, by kernel_rfl, trivial⟩
    ·refine Ww [0, 1] [0, 1, 5] ⟨[(0, pA 0 0), (1, I i4), (5, I (w64 ((w64 (i3 + 1)) - 1)))], [.cells [.sl 1 0 k2, cI (w64 (i3 + 1))], uR x1]⟩ (W_skip (thenS_n (W_seq (guardO_e h (fun hg34 h => (guardO_e h (fun hg35 h => (guardO_e h (fun hg36 h => (guardO_e h (fun hg37 h => (guardO_e h (fun hg38 h => (W_cut (Q' := fun (e : Exit) (s : St) => e = .normal ∧ s = ⟨[(1, I i4), (6, I (w64 ((w64 ((w64 ((w64 ((w64 (x1.getD (((w64 ((w64 (i3 + 1)) - 1)).tmod ((k2 : Nat) : Int)).toNat) 0)) * 131)) + (w64 ((w64 (x1.getD (((w64 ((w64 ((w64 ((w64 (i3 + 1)) - 1)) * 7)) + 3)).tmod ((k2 : Nat) : Int)).toNat) 0)) * 1117)))) + (w64 ((w64 ((w64 (i3 + 1)) - 1)) * 29)))) + (w64 ((w64 ((w64 ((w64 (i3 + 1)) - 1)).tdiv ((k2 : Nat) : Int))) * 53)))))], [.cells [.sl 1 0 k2, cI (w64 (i3 + 1))], uR x1]⟩) ?_ ?_))))))))))))))
     ·refine W_draw [] true (by kernel_rfl) (by kernel_rfl) (WD_takeQ [0, 1, 2, 3, 4, 5, 6, 7, 8, 9, 10, 11, 12, 13, 14, 15, 16, 17, 18, 19, 20, 21, 22, 23, 24, 25, 26, 27, 28, 29, 30, 31, 32, 33, 34, 35, 36, 37, 38, 39, 40, 41, 42, 43, 44, 45] [1, 6] [1, 6] (φ := (True ∧ True ∧ (True ∧ True ∧ (True ∧ True ∧ (((((k2 : Nat) : Int) : Int) ≠ 0) ∧ ((((k2 : Nat) : Int) : Int) ≠ 0) ∧ ((0 ≤ ((w64 ((w64 (i3 + 1)) - 1)).tmod ((k2 : Nat) : Int)) ∧ ((w64 ((w64 (i3 + 1)) - 1)).tmod ((k2 : Nat) : Int)) < ((k2 : Nat) : Int)) ∧ (0 ≤ ((w64 ((w64 (i3 + 1)) - 1)).tmod ((k2 : Nat) : Int)) ∧ ((w64 ((w64 (i3 + 1)) - 1)).tmod ((k2 : Nat) : Int)) < ((k2 : Nat) : Int)) ∧ (True ∧ True ∧ (True ∧ True ∧ (True ∧ True ∧ (True ∧ True ∧ (True ∧ True ∧ (True ∧ True ∧ (True ∧ True ∧ (True ∧ True ∧ (((((k2 : Nat) : Int) : Int) ≠ 0) ∧ ((((k2 : Nat) : Int) : Int) ≠ 0) ∧ ((0 ≤ ((w64 ((w64 ((w64 ((w64 (i3 + 1)) - 1)) * 7)) + 3)).tmod ((k2 : Nat) : Int)) ∧ ((w64 ((w64 ((w64 ((w64 (i3 + 1)) - 1)) * 7)) + 3)).tmod ((k2 : Nat) : Int)) < ((k2 : Nat) : Int)) ∧ (0 ≤ ((w64 ((w64 ((w64 ((w64 (i3 + 1)) - 1)) * 7)) + 3)).tmod ((k2 : Nat) : Int)) ∧ ((w64 ((w64 ((w64 ((w64 (i3 + 1)) - 1)) * 7)) + 3)).tmod ((k2 : Nat) : Int)) < ((k2 : Nat) : Int)) ∧ (True ∧ True ∧ (True ∧ True ∧ (True ∧ True ∧ (True ∧ True ∧ (True ∧ True ∧ (True ∧ True ∧ (True ∧ True ∧ (True ∧ True ∧ (((((k2 : Nat) : Int) : Int) ≠ 0) ∧ ((((k2 : Nat) : Int) : Int) ≠ 0) ∧ (True ∧ True ∧ (True ∧ True ∧ True))))))))))))))))))))))))))) (ls' := (tf true [46])) (st' := ⟨[(1, I i4), (6, I (w64 ((w64 ((w64 ((w64 ((w64 (x1.getD (((w64 ((w64 (i3 + 1)) - 1)).tmod ((k2 : Nat) : Int)).toNat) 0)) * 131)) + (w64 ((w64 (x1.getD (((w64 ((w64 ((w64 ((w64 (i3 + 1)) - 1)) * 7)) + 3)).tmod ((k2 : Nat) : Int)).toNat) 0)) * 1117)))) + (w64 ((w64 ((w64 (i3 + 1)) - 1)) * 29)))) + (w64 ((w64 ((w64 ((w64 (i3 + 1)) - 1)).tdiv ((k2 : Nat) : Int))) * 53)))))], [.cells [.sl 1 0 k2, cI (w64 (i3 + 1))], uR x1]⟩) (n2 := 0) (by kernel_rfl) ⟨trivial, trivial, trivial, trivial, trivial, trivial, hg34, hg34, hg35, hg35, trivial, trivial, trivial, trivial, trivial, trivial, trivial, trivial, trivial, trivial, trivial, trivial, trivial, trivial, trivial, trivial, hg36, hg36, hg37, hg37, trivial, trivial, trivial, trivial, trivial, trivial, trivial, trivial, trivial, trivial, trivial, trivial, trivial, trivial, trivial, trivial, hg38, hg38, trivial, trivial, trivial, trivial, trivial⟩ rfl ?_)
      exact WD_done [0, 1] [1, 6] (st' := ⟨[(1, I i4), (6, I (w64 ((w64 ((w64 ((w64 ((w64 (x1.getD (((w64 ((w64 (i3 + 1)) - 1)).tmod ((k2 : Nat) : Int)).toNat) 0)) * 131)) + (w64 ((w64 (x1.getD (((w64 ((w64 ((w64 ((w64 (i3 + 1)) - 1)) * 7)) + 3)).tmod ((k2 : Nat) : Int)).toNat) 0)) * 1117)))) + (w64 ((w64 ((w64 (i3 + 1)) - 1)) * 29)))) + (w64 ((w64 ((w64 ((w64 (i3 + 1)) - 1)).tdiv ((k2 : Nat) : Int))) * 53)))))], [.cells [.sl 1 0 k2, cI (w64 (i3 + 1))], uR x1]⟩) (by kernel_rfl) (by kernel_rfl) (aI rfl rfl)
     ·rintro _ _ ⟨rfl, rfl⟩
      refine thenS_n (Wsr ((Wp 5 [0, 1] [1, 6] (((64 : Int) ≠ 0) ∧ T2) ⟨[(1, I i4), (6, I (w64 (BitVec.ofInt 64 (w64 ((w64 ((w64 ((w64 ((w64 (x1.getD (((w64 ((w64 (i3 + 1)) - 1)).tmod ((k2 : Nat) : Int)).toNat) 0)) * 131)) + (w64 ((w64 (x1.getD (((w64 ((w64 ((w64 ((w64 (i3 + 1)) - 1)) * 7)) + 3)).tmod ((k2 : Nat) : Int)).toNat) 0)) * 1117)))) + (w64 ((w64 ((w64 (i3 + 1)) - 1)) * 29)))) + (w64 ((w64 ((w64 ((w64 (i3 + 1)) - 1)).tdiv ((k2 : Nat) : Int))) * 53)))) ^^^ BitVec.ofInt 64 (w64 ((w64 ((w64 ((w64 ((w64 ((w64 (x1.getD (((w64 ((w64 (i3 + 1)) - 1)).tmod ((k2 : Nat) : Int)).toNat) 0)) * 131)) + (w64 ((w64 (x1.getD (((w64 ((w64 ((w64 ((w64 (i3 + 1)) - 1)) * 7)) + 3)).tmod ((k2 : Nat) : Int)).toNat) 0)) * 1117)))) + (w64 ((w64 ((w64 (i3 + 1)) - 1)) * 29)))) + (w64 ((w64 ((w64 ((w64 (i3 + 1)) - 1)).tdiv ((k2 : Nat) : Int))) * 53)))).tdiv 64))).toNat))], [.cells [.sl 1 0 k2, cI (w64 (i3 + 1))], uR x1]⟩ ⟨(by decide), trivial, trivial⟩ (Wnt ((Wsr ((guardO_e h (fun hg39 h => (Wp 4 [0, 1] [4] (((i4 : Int) ≠ 0) ∧ True) ⟨[(4, I ((w64 (BitVec.ofInt 64 (w64 ((w64 ((w64 ((w64 ((w64 (x1.getD (((w64 ((w64 (i3 + 1)) - 1)).tmod ((k2 : Nat) : Int)).toNat) 0)) * 131)) + (w64 ((w64 (x1.getD (((w64 ((w64 ((w64 ((w64 (i3 + 1)) - 1)) * 7)) + 3)).tmod ((k2 : Nat) : Int)).toNat) 0)) * 1117)))) + (w64 ((w64 ((w64 (i3 + 1)) - 1)) * 29)))) + (w64 ((w64 ((w64 ((w64 (i3 + 1)) - 1)).tdiv ((k2 : Nat) : Int))) * 53)))) ^^^ BitVec.ofInt 64 (w64 ((w64 ((w64 ((w64 ((w64 ((w64 (x1.getD (((w64 ((w64 (i3 + 1)) - 1)).tmod ((k2 : Nat) : Int)).toNat) 0)) * 131)) + (w64 ((w64 (x1.getD (((w64 ((w64 ((w64 ((w64 (i3 + 1)) - 1)) * 7)) + 3)).tmod ((k2 : Nat) : Int)).toNat) 0)) * 1117)))) + (w64 ((w64 ((w64 (i3 + 1)) - 1)) * 29)))) + (w64 ((w64 ((w64 ((w64 (i3 + 1)) - 1)).tdiv ((k2 : Nat) : Int))) * 53)))).tdiv 64))).toNat).tmod i4))], [.cells [.sl 1 0 k2, cI (w64 (i3 + 1))], uR x1]⟩ ⟨hg39, trivial⟩ (Wnt ((W_ret ?_)))))))))))))
      cases h
      exact ⟨[0, 1], True, by kernel_rfl, trivial⟩

/- spec.reader).one -/
def spec_reader_one (x1 : List Int) (k2 : Nat) (i3 : Int) (x4 : List Int) : Option (Int × Int) :=
 bindO (spec_reader_pick x1 k2 i3 ((x4.length : Nat) : Int)) fun i10 =>
 guardO (0 ≤ i10 ∧ i10 < ((x4.length : Nat) : Int)) <|
 some ((w64 (i3 + 1)), (x4.getD i10.toNat 0))

theorem spec_reader_one_ok (x1 : List Int) (k2 : Nat) (i3 : Int) (x4 : List Int) (i8 : Int) (i9 : Int) (h : spec_reader_one x1 k2 i3 x4 = some (i8, i9)) : FOk EE 23 [pA 0 0, sF 2 x4] [.cells [.sl 1 0 k2, cI i3], uR x1, iR x4] (I i9) [.cells [.sl 1 0 k2, cI i8], uR x1, iR x4] := by
  unfold spec_reader_one at h
  refine FOk_of_W 12 3 Tryz.func23 rfl rfl (Nat.le_of_ble_eq_true rfl) rfl (fun w X θ => ?_)
  refine Wsr ((Ws 1 [0, 1, 2] [0, 1] ⟨[(0, pA 0 0), (1, sF 2 x4)], [.cells [.sl 1 0 k2, cI i3], uR x1, iR x4]⟩ (Wnt ((W_seq (W_region ?_))))))
  refine Wp 4 [0, 1, 2] [5, 6, 8] T2 ⟨[(5, sF 2 x4), (6, pA 0 0), (8, I (lI x4))], [.cells [.sl 1 0 k2, cI i3], uR x1, iR x4]⟩ t2 (bindO_e h (fun i10 hc11 h => (Wc [.own 0, .ro 1] rfl rfl rfl Tryz.func25 rfl (spec_reader_pick_ok x1 k2 i3 (lI x4) i10 hc11) (aI (trivial) (aI (aI rfl rfl) (trivial))) rfl (guardO_e h (fun hg12 h => (Wp 3 [0, 1, 2] [4] ((0 ≤ i10 ∧ i10 < (lI x4)) ∧ T2) ⟨[(4, I (x4.getD i10.toNat 0))], [.cells [.sl 1 0 k2, cI (w64 (i3 + 1))], uR x1, iR x4]⟩ ⟨hg12, trivial, trivial⟩ (Wnt (?_))))))))
  refine W_ret ?_
  cases h
  exact ⟨[0, 1, 2], True, by kernel_rfl, trivial⟩

/- spec.someValue -/
def spec_someValue (x1 : List Int) (k2 : Nat) (i3 : Int) : Option (Int × Int) :=
 bindO (spec_reader_pick x1 k2 i3 40) fun i14 =>
 bindO (spec_reader_pick x1 k2 (w64 (i3 + 1)) 250) fun i16 =>
 bindO (spec_reader_one x1 k2 (w64 ((w64 (i3 + 1)) + 1)) [0, 1, (-1), 5, 10, 100, 1000, (-1000), i14, (w64 ((w64 (4 * i16)) - 500))]) fun (i18, i19) =>
 some (i18, i19)

theorem spec_someValue_ok (x1 : List Int) (k2 : Nat) (i3 : Int) (i12 : Int) (i13 : Int) (h : spec_someValue x1 k2 i3 = some (i12, i13)) : FOk EE 27 [pA 0 0] [.cells [.sl 1 0 k2, cI i3], uR x1] (I i13) [.cells [.sl 1 0 k2, cI i12], uR x1] := by
  unfold spec_someValue at h
  refine FOk_of_W 12 2 Tryz.func27 rfl rfl (Nat.le_of_ble_eq_true rfl) rfl (fun w X θ => ?_)
  refine Wsr ((Ws 1 [0, 1] [0] ⟨[(0, pA 0 0)], [.cells [.sl 1 0 k2, cI i3], uR x1]⟩ (Wnt ((W_seq (W_region ?_))))))
  refine Ws 2 [0, 1] [0, 3, 4] ⟨[(0, pA 0 0), (3, pA 0 0), (4, pA 0 0)], [.cells [.sl 1 0 k2, cI i3], uR x1]⟩ (bindO_e h (fun i14 hc15 h => (Wc [.own 0, .ro 1] rfl rfl rfl Tryz.func25 rfl (spec_reader_pick_ok x1 k2 i3 40 i14 hc15) (aI (trivial) (aI (aI rfl rfl) (trivial))) rfl (Ws 1 [0, 1] [3, 5, 6] ⟨[(3, pA 0 0), (5, I i14), (6, pA 0 0)], [.cells [.sl 1 0 k2, cI (w64 (i3 + 1))], uR x1]⟩ (bindO_e h (fun i16 hc17 h => (Wc [.own 0, .ro 1] rfl rfl rfl Tryz.func25 rfl (spec_reader_pick_ok x1 k2 (w64 (i3 + 1)) 250 i16 hc17) (aI (trivial) (aI (aI rfl rfl) (trivial))) rfl (Wp 3 [0, 1, 2] [3, 10] T3 ⟨[(3, pA 0 0), (10, .one (.e (.sl 2 0 ([0, 1, (-1), 5, 10, 100, 1000, (-1000), i14, (w64 ((w64 (4 * i16)) - 500))].length))))], [.cells [.sl 1 0 k2, cI (w64 ((w64 (i3 + 1)) + 1))], uR x1, .row .int [0, 1, (-1), 5, 10, 100, 1000, (-1000), i14, (w64 ((w64 (4 * i16)) - 500))] true]⟩ t3 ?_))))))))
  refine bindO_e h (fun v21 hc20 h => ?_)
  obtain ⟨i18, i19⟩ := v21
  refine Wc [.own 0, .ro 1, .ro 2] rfl rfl rfl Tryz.func23 rfl (spec_reader_one_ok x1 k2 (w64 ((w64 (i3 + 1)) + 1)) [0, 1, (-1), 5, 10, 100, 1000, (-1000), i14, (w64 ((w64 (4 * i16)) - 500))] i18 i19 hc20) (aI (trivial) (aI (aI rfl rfl) (aI (aI rfl rfl) (trivial)))) rfl (Ws 1 [0, 1] [2] ⟨[(2, I i19)], [.cells [.sl 1 0 k2, cI i18], uR x1]⟩ (Wnt ((W_ret ?_))))
  cases h
  exact ⟨[0, 1], True, by kernel_rfl, trivial⟩

/- spec.reader).of -/
def spec_reader_of (x1 : List Int) (k2 : Nat) (i3 : Int) (x4 : List Str) : Option (Int × Str) :=
 bindO (spec_reader_pick x1 k2 i3 ((x4.length : Nat) : Int)) fun i10 =>
 guardO (0 ≤ i10 ∧ i10 < ((x4.length : Nat) : Int)) <|
 some ((w64 (i3 + 1)), (x4.getD i10.toNat []))

theorem spec_reader_of_ok (x1 : List Int) (k2 : Nat) (i3 : Int) (x4 : List Str) (i8 : Int) (s9 : Str) (h : spec_reader_of x1 k2 i3 x4 = some (i8, s9)) : FOk EE 26 [pA 0 0, sF 2 x4] [.cells [.sl 1 0 k2, cI i3], uR x1, sR x4] (S s9) [.cells [.sl 1 0 k2, cI i8], uR x1, sR x4] := by
  unfold spec_reader_of at h
  refine FOk_of_W 12 3 Tryz.func26 rfl rfl (Nat.le_of_ble_eq_true rfl) rfl (fun w X θ => ?_)
  refine Wsr ((Ws 1 [0, 1, 2] [0, 1] ⟨[(0, pA 0 0), (1, sF 2 x4)], [.cells [.sl 1 0 k2, cI i3], uR x1, sR x4]⟩ (Wnt ((W_seq (W_region ?_))))))
  refine Wp 4 [0, 1, 2] [5, 6, 8] T2 ⟨[(5, sF 2 x4), (6, pA 0 0), (8, I (lI x4))], [.cells [.sl 1 0 k2, cI i3], uR x1, sR x4]⟩ t2 (bindO_e h (fun i10 hc11 h => (Wc [.own 0, .ro 1] rfl rfl rfl Tryz.func25 rfl (spec_reader_pick_ok x1 k2 i3 (lI x4) i10 hc11) (aI (trivial) (aI (aI rfl rfl) (trivial))) rfl (guardO_e h (fun hg12 h => (Wp 3 [0, 1, 2] [4] ((0 ≤ i10 ∧ i10 < (lI x4)) ∧ T2) ⟨[(4, S (x4.getD i10.toNat []))], [.cells [.sl 1 0 k2, cI (w64 (i3 + 1))], uR x1, sR x4]⟩ ⟨hg12, trivial, trivial⟩ (Wnt (?_))))))))
  refine W_ret ?_
  cases h
  exact ⟨[0, 1, 2], True, by kernel_rfl, trivial⟩

/- spec.someName -/
def spec_someName (x1 : List Int) (k2 : Nat) (i3 : Int) : Option (Int × Str) :=
 bindO (spec_reader_of x1 k2 i3 [[97], [98], [99], [97, 98], [120], [122]]) fun (i10, s11) =>
 some (i10, s11)

theorem spec_someName_ok (x1 : List Int) (k2 : Nat) (i3 : Int) (i8 : Int) (s9 : Str) (h : spec_someName x1 k2 i3 = some (i8, s9)) : FOk EE 98 [pA 0 0] [.cells [.sl 1 0 k2, cI i3], uR x1] (S s9) [.cells [.sl 1 0 k2, cI i8], uR x1] := by
  unfold spec_someName at h
  refine FOk_of_W 6 2 Tryz.func98 rfl rfl (Nat.le_of_ble_eq_true rfl) rfl (fun w X θ => ?_)
  refine Wsr ((Ws 1 [0, 1] [0] ⟨[(0, pA 0 0)], [.cells [.sl 1 0 k2, cI i3], uR x1]⟩ (Wnt ((W_seq (W_region ?_))))))
  refine Ws 2 [0, 1, 2] [3, 4] ⟨[(3, pA 0 0), (4, SL 2 0 ([[97], [98], [99], [97, 98], [120], [122]].length))], [.cells [.sl 1 0 k2, cI i3], uR x1, .row .str [[97], [98], [99], [97, 98], [120], [122]] true]⟩ (bindO_e h (fun v13 hc12 h => ?_))
  obtain ⟨i10, s11⟩ := v13
  refine Wc [.own 0, .ro 1, .ro 2] rfl rfl rfl Tryz.func26 rfl (spec_reader_of_ok x1 k2 i3 [[97], [98], [99], [97, 98], [120], [122]] i10 s11 hc12) (aI (trivial) (aI (aI rfl rfl) (aI (aI rfl rfl) (trivial)))) rfl (Ws 1 [0, 1] [2] ⟨[(2, S s11)], [.cells [.sl 1 0 k2, cI i10], uR x1]⟩ (Wnt ((W_ret ?_))))
  cases h
  exact ⟨[0, 1], True, by kernel_rfl, trivial⟩

/- spec.inRange -/
def spec_inRange (i1 : Int) (i2 : Int) (i3 : Int) : Bool :=
((decide (i2 ≤ i1)) && (decide (i1 ≤ i3)))

theorem spec_inRange_ok (i1 : Int) (i2 : Int) (i3 : Int) : FOk EE 71 [I i1, I i2, I i3] [] (B (spec_inRange i1 i2 i3)) [] := by
  refine FOk_of_W 15 0 Tryz.func71 rfl rfl (Nat.le_of_ble_eq_true rfl) rfl (fun w X θ => ?_)
  refine Wsr ((Ws 1 [] [0, 1, 2] ⟨[(0, I i1), (1, I i2), (2, I i3)], []⟩ (Wnt ((W_seq (W_region ?_))))))
  refine Wp 4 [] [0, 2, 10] T2 ⟨[(0, I i1), (2, I i3), (10, B (decide (i2 ≤ i1)))], []⟩ t2 (WO_thru ⟨[(6, B ((decide (i2 ≤ i1)) && (decide (i1 ≤ i3))))], []⟩ ?_ ?_)
  ·refine WO_if 10 rfl (fun hb10 => ?_) (fun hb10 => ?_)
   ·refine Wp 5 [] [6] T2 ⟨[(6, B (decide (i1 ≤ i3)))], []⟩ t2 ?_
    exact WO_nil rfl ⟨rfl, by first | rfl | (rw [hb10]; first | done | rfl)⟩
   ·refine Ws 5 [] [6] ⟨[(6, B false)], []⟩ ?_
    exact WO_nil rfl ⟨rfl, by first | rfl | (rw [hb10]; first | done | rfl)⟩
  ·refine thenS_n (W_ret ?_)
   exact ⟨[], True, by kernel_rfl, trivial⟩

/- spec.validName -/
def spec_validName_L1 (s1 : Str) : Nat → Int → Option ((Unit) ⊕ (Unit))
| 0, _ => none
| n + 1, i44 =>
 iteO (decide (i44 < ((s1.length : Nat) : Int)))
 (guardO (0 ≤ i44 ∧ i44 < ((s1.length : Nat) : Int)) <|
 iteO (!(spec_inRange (w64 ((s1.getD i44.toNat 0).toNat : Int)) 97 122))
 (some (.inl ()))
 (spec_validName_L1 s1 n (w64 (i44 + 1))))
 (some (.inr ()))

theorem spec_validName_L1_ok (w : World) (X : Nat → Prop) (θ : List Loc) (s1 : Str) (v : (Unit) ⊕ (Unit)) : ∀ (n : Nat) (i44 : Int), spec_validName_L1 s1 n i44 = some v → WL EE ⟨w, X, θ, 19, 0⟩ (subC [1, 0, 1, 4, 4] (bodyC Tryz.f108)) (fun (e : Exit) (s : St) => (match v with | (.inl _) => e = .ret ∧ s = ⟨[(2, B false)], []⟩ | (.inr _) => e = .exit 0 ∧ s = ⟨[(0, S s1)], []⟩ : Prop)) ⟨[(0, S s1), (3, I i44)], []⟩ := by
  intro n
  induction n with
  | zero => intro _ h; exact none_e h
  | succ n ih =>
    intro i44 h
    rw [spec_validName_L1] at h
    refine WL_round ?_
    refine W_seq (Wsr ((Wp 4 [] [0, 3, 7] T3 ⟨[(0, S s1), (3, I i44), (7, B (decide (i44 < (lI s1))))], []⟩ t3 (Wnt ((iteO_e h (fun hb56 h => W_true rfl hb56 ?_) (fun hb56 h => W_false rfl hb56 ?_)))))))
    ·refine Ww [] [0, 3] ⟨[(0, S s1), (3, I i44)], []⟩ (W_skip (thenS_n (W_seq (W_block (Wsr ((guardO_e h (fun hg60 h => (Wp 4 [] [0, 3, 13] ((0 ≤ i44 ∧ i44 < (lI s1)) ∧ T2) ⟨[(0, S s1), (3, I i44), (13, I (w64 ((s1.getD i44.toNat 0).toNat : Int)))], []⟩ ⟨hg60, trivial, trivial⟩ (Wc [] rfl rfl rfl Tryz.func71 rfl (spec_inRange_ok (w64 ((s1.getD i44.toNat 0).toNat : Int)) 97 122) (trivial) rfl (Ws 1 [] [0, 3, 15] ⟨[(0, S s1), (3, I i44), (15, B (!(spec_inRange (w64 ((s1.getD i44.toNat 0).toNat : Int)) 97 122)))], []⟩ (Wnt ((iteO_e h (fun hb62 h => W_true rfl hb62 ?_) (fun hb62 h => W_false rfl hb62 ?_)))))))))))))))
     ·refine Wsr ((Ws 1 [] [2] ⟨[(2, B false)], []⟩ (Wnt ((W_ret (blockS_r (thenS_r (thenS_r ?_))))))))
      cases h
      exact aI rfl rfl
     ·refine Ww [] [0, 3] ⟨[(0, S s1), (3, I i44)], []⟩ (W_skip (blockS_n (thenS_n (W_region (Wp 3 [] [0, 3] T2 ⟨[(0, S s1), (3, I (w64 (i44 + 1)))], []⟩ t2 (Wnt (?_)))))))
      exact ih _ h
    ·refine Ww [] [0] ⟨[(0, S s1)], []⟩ (W_exit (thenS_e (thenS_e ?_)))
     cases h
     exact aI rfl rfl

def spec_validName (n : Nat) (s1 : Str) : Option (Bool) :=
 bindO (spec_validName_L1 s1 n 0) fun v63 =>
 match v63 with
 | (.inl _) => (some false)
 | (.inr _) => (some (spec_inRange ((s1.length : Nat) : Int) 1 4))


theorem spec_validName_ok (n : Nat) (s1 : Str) (b32 : Bool) (h : spec_validName n s1 = some b32) : FOk EE 108 [S s1] [] (B b32) [] := by
  unfold spec_validName at h
  refine FOk_of_W 19 0 Tryz.func108 rfl rfl (Nat.le_of_ble_eq_true rfl) rfl (fun w X θ => ?_)
  refine Wsr ((Ws 1 [] [0] ⟨[(0, S s1)], []⟩ (Wnt ((W_seq (W_seq ?_))))))
  refine W_region (Ws 1 [] [0, 3] ⟨[(0, S s1), (3, I 0)], []⟩ (Wnt ((W_block (W_loop (bindO_e h (fun v63 hv63 h => ?_)))))))
  refine WL_cut (spec_validName_L1_ok w X θ s1 v63 n 0 hv63) ?_
  rcases v63 with _ | _
  ·rintro _ _ ⟨rfl, rfl⟩
   refine blockS_r (thenS_r ?_)
   cases h
   exact ⟨[], True, by kernel_rfl, trivial⟩
  ·rintro _ _ ⟨rfl, rfl⟩
   refine blockS_y (thenS_n (Wsr ((Wp 2 [] [17] T2 ⟨[(17, I (lI s1))], []⟩ t2 (Wc [] rfl rfl rfl Tryz.func71 rfl (spec_inRange_ok (lI s1) 1 4) (trivial) rfl (Ws 1 [] [2] ⟨[(2, B (spec_inRange (lI s1) 1 4))], []⟩ (Wnt ((W_ret ?_)))))))))
   cases h
   exact ⟨[], True, by kernel_rfl, trivial⟩

/- spec.kid -/
def spec_kid_L1 (x1 : List Nod) (i2 : Int) (s3 : Str) : Nat → Int → Option ((Int) ⊕ (Unit))
| 0, _ => none
| n + 1, i97 =>
 iteO (decide (i97 < ((x1.length : Nat) : Int)))
 (guardO (0 ≤ i97 ∧ i97 < ((x1.length : Nat) : Int)) <|
 bindO (iteO (decide (((x1.getD i97.toNat dnod).parent) = i2))
 (guardO (0 ≤ i97 ∧ i97 < ((x1.length : Nat) : Int)) <|
 some (decide (((x1.getD i97.toNat dnod).name) = s3)))
 (some false)) fun b135 =>
 iteO b135
 (some (.inl i97))
 (spec_kid_L1 x1 i2 s3 n (w64 (i97 + 1))))
 (some (.inr ()))

theorem spec_kid_L1_ok (w : World) (X : Nat → Prop) (θ : List Loc) (x1 : List Nod) (i2 : Int) (s3 : Str) (v : (Int) ⊕ (Unit)) : ∀ (n : Nat) (i97 : Int), spec_kid_L1 x1 i2 s3 n i97 = some v → WL EE ⟨w, X, θ, 31, 1⟩ (subC [1, 0, 1, 4, 4] (bodyC Tryz.f109)) (fun (e : Exit) (s : St) => (match v with | (.inl i119) => e = .ret ∧ s = ⟨[(6, I i119)], [nR x1]⟩ | (.inr _) => e = .exit 0 ∧ s = ⟨[], [nR x1]⟩ : Prop)) ⟨[(0, sF 0 x1), (1, I i2), (2, S s3), (7, I i97)], [nR x1]⟩ := by
  intro n
  induction n with
  | zero => intro _ h; exact none_e h
  | succ n ih =>
    intro i97 h
    rw [spec_kid_L1] at h
    refine WL_round ?_
    refine W_seq (Wsr ((Wp 4 [0] [0, 1, 2, 7, 11] T3 ⟨[(0, sF 0 x1), (1, I i2), (2, S s3), (7, I i97), (11, B (decide (i97 < (lI x1))))], [nR x1]⟩ t3 (Wnt ((iteO_e h (fun hb122 h => W_true rfl hb122 ?_) (fun hb122 h => W_false rfl hb122 ?_)))))))
    ·refine Ww [0] [0, 1, 2, 7] ⟨[(0, sF 0 x1), (1, I i2), (2, S s3), (7, I i97)], [nR x1]⟩ (W_skip (thenS_n (W_seq (W_block (Wsr ((guardO_e h (fun hg132 h => (Wp 8 [0] [0, 1, 2, 7, 21] ((0 ≤ i97 ∧ i97 < (lI x1)) ∧ T3) ⟨[(0, sF 0 x1), (1, I i2), (2, S s3), (7, I i97), (21, B (decide (((x1.getD i97.toNat dnod).parent) = i2)))], [nR x1]⟩ ⟨hg132, trivial, trivial, trivial⟩ (bindO_e h (fun b135 hv136 h => (WO_thru ⟨[(0, sF 0 x1), (1, I i2), (2, S s3), (7, I i97), (29, B b135)], [nR x1]⟩ ?_ ?_))))))))))))
     ·refine iteO_e hv136 (fun hb137 hv136 => WO_known 21 true rfl hb137 ?_) (fun hb137 hv136 => WO_known 21 false rfl hb137 ?_)
      ·refine guardO_e hv136 (fun hg138 hv136 => (Wp 8 [0] [0, 1, 2, 7, 29] ((0 ≤ i97 ∧ i97 < (lI x1)) ∧ T3) ⟨[(0, sF 0 x1), (1, I i2), (2, S s3), (7, I i97), (29, B (decide (((x1.getD i97.toNat dnod).name) = s3)))], [nR x1]⟩ ⟨hg138, trivial, trivial, trivial⟩ ?_))
       cases hv136
       exact WO_nil rfl ⟨rfl, rfl⟩
      ·refine Ws 8 [0] [0, 1, 2, 7, 29] ⟨[(0, sF 0 x1), (1, I i2), (2, S s3), (7, I i97), (29, B false)], [nR x1]⟩ ?_
       cases hv136
       exact WO_nil rfl ⟨rfl, rfl⟩
     ·refine thenS_n (iteO_e h (fun hb140 h => W_true rfl hb140 ?_) (fun hb140 h => W_false rfl hb140 ?_))
      ·refine Wsr ((Ws 2 [0] [6] ⟨[(6, I i97)], [nR x1]⟩ (Wnt ((W_ret (blockS_r (thenS_r (thenS_r ?_))))))))
       cases h
       exact aI rfl rfl
      ·refine Ww [0] [0, 1, 2, 7] ⟨[(0, sF 0 x1), (1, I i2), (2, S s3), (7, I i97)], [nR x1]⟩ (W_skip (blockS_n (thenS_n (W_region (Wp 3 [0] [0, 1, 2, 7] T2 ⟨[(0, sF 0 x1), (1, I i2), (2, S s3), (7, I (w64 (i97 + 1)))], [nR x1]⟩ t2 (Wnt (?_)))))))
       exact ih _ h
    ·refine Ww [0] [] ⟨[], [nR x1]⟩ (W_exit (thenS_e (thenS_e ?_)))
     cases h
     exact aI rfl rfl

def spec_kid (n : Nat) (x1 : List Nod) (i2 : Int) (s3 : Str) : Option (Int) :=
 bindO (spec_kid_L1 x1 i2 s3 n 1) fun v141 =>
 match v141 with
 | (.inl i119) => (some i119)
 | (.inr _) => (some (-1))


theorem spec_kid_ok (n : Nat) (x1 : List Nod) (i2 : Int) (s3 : Str) (i72 : Int) (h : spec_kid n x1 i2 s3 = some i72) : FOk EE 109 [sF 0 x1, I i2, S s3] [nR x1] (I i72) [nR x1] := by
  unfold spec_kid at h
  refine FOk_of_W 31 1 Tryz.func109 rfl rfl (Nat.le_of_ble_eq_true rfl) rfl (fun w X θ => ?_)
  refine Wsr ((Ws 1 [0] [0, 1, 2] ⟨[(0, sF 0 x1), (1, I i2), (2, S s3)], [nR x1]⟩ (Wnt ((W_seq (W_seq ?_))))))
  refine W_region (Ws 1 [0] [0, 1, 2, 7] ⟨[(0, sF 0 x1), (1, I i2), (2, S s3), (7, I 1)], [nR x1]⟩ (Wnt ((W_block (W_loop (bindO_e h (fun v141 hv141 h => ?_)))))))
  refine WL_cut (spec_kid_L1_ok w X θ x1 i2 s3 v141 n 1 hv141) ?_
  rcases v141 with i119 | _
  ·rintro _ _ ⟨rfl, rfl⟩
   refine blockS_r (thenS_r ?_)
   cases h
   exact ⟨[0], True, by kernel_rfl, trivial⟩
  ·rintro _ _ ⟨rfl, rfl⟩
   refine blockS_y (thenS_n (Wsr ((Ws 1 [0] [6] ⟨[(6, I (-1))], [nR x1]⟩ (Wnt ((W_ret ?_)))))))
   cases h
   exact ⟨[0], True, by kernel_rfl, trivial⟩

/- spec.depth -/
def spec_depth_L1 (x1 : List Nod) : Nat → Int → Int → Option (Int)
| 0, _, _ => none
| n + 1, i42, i43 =>
 guardO (0 ≤ i42 ∧ i42 < ((x1.length : Nat) : Int)) <|
 iteO (decide (0 ≤ ((x1.getD i42.toNat dnod).parent)))
 (guardO (0 ≤ i42 ∧ i42 < ((x1.length : Nat) : Int)) <|
 spec_depth_L1 x1 n ((x1.getD i42.toNat dnod).parent) (w64 (i43 + 1)))
 (some i43)

theorem spec_depth_L1_ok (w : World) (X : Nat → Prop) (θ : List Loc) (x1 : List Nod) (i51 : Int) : ∀ (n : Nat) (i42 : Int) (i43 : Int), spec_depth_L1 x1 n i42 i43 = some i51 → WL EE ⟨w, X, θ, 20, 1⟩ (subC [1, 1, 0, 4, 4] (bodyC Tryz.f110)) (fun (e : Exit) (s : St) => e = .exit 0 ∧ s = ⟨[(5, I i51)], [nR x1]⟩) ⟨[(0, sF 0 x1), (1, I i42), (5, I i43)], [nR x1]⟩ := by
  intro n
  induction n with
  | zero => intro _ _ h; exact none_e h
  | succ n ih =>
    intro i42 i43 h
    rw [spec_depth_L1] at h
    refine WL_round ?_
    refine W_seq (Wsr ((guardO_e h (fun hg53 h => (Wp 6 [0] [0, 1, 5, 11] ((0 ≤ i42 ∧ i42 < (lI x1)) ∧ T3) ⟨[(0, sF 0 x1), (1, I i42), (5, I i43), (11, B (decide (0 ≤ ((x1.getD i42.toNat dnod).parent))))], [nR x1]⟩ ⟨hg53, trivial, trivial, trivial⟩ (Wnt (?_)))))))
    refine iteO_e h (fun hb55 h => W_true rfl hb55 ?_) (fun hb55 h => W_false rfl hb55 ?_)
    ·refine Ww [0] [0, 1, 5] ⟨[(0, sF 0 x1), (1, I i42), (5, I i43)], [nR x1]⟩ (W_skip (thenS_n (W_block (Wsr ((guardO_e h (fun hg57 h => (Wp 6 [0] [0, 1, 5] ((0 ≤ i42 ∧ i42 < (lI x1)) ∧ T2) ⟨[(0, sF 0 x1), (1, I ((x1.getD i42.toNat dnod).parent)), (5, I i43)], [nR x1]⟩ ⟨hg57, trivial, trivial⟩ (Wnt ((W_region (Wp 3 [0] [0, 1, 5] T2 ⟨[(0, sF 0 x1), (1, I ((x1.getD i42.toNat dnod).parent)), (5, I (w64 (i43 + 1)))], [nR x1]⟩ t2 (WO_nil rfl (blockS_n (thenS_n ?_)))))))))))))))
     exact ih _ _ h
    ·refine Ww [0] [5] ⟨[(5, I i43)], [nR x1]⟩ (W_exit (thenS_e (thenS_e ?_)))
     cases h
     exact aI rfl rfl

def spec_depth (n : Nat) (x1 : List Nod) (i2 : Int) : Option (Int) :=
 bindO (spec_depth_L1 x1 n i2 0) fun i51 =>
 some i51

theorem spec_depth_ok (n : Nat) (x1 : List Nod) (i2 : Int) (i30 : Int) (h : spec_depth n x1 i2 = some i30) : FOk EE 110 [sF 0 x1, I i2] [nR x1] (I i30) [nR x1] := by
  unfold spec_depth at h
  refine FOk_of_W 20 1 Tryz.func110 rfl rfl (Nat.le_of_ble_eq_true rfl) rfl (fun w X θ => ?_)
  refine Wsr ((Ws 1 [0] [0, 1] ⟨[(0, sF 0 x1), (1, I i2)], [nR x1]⟩ (Wnt ((W_seq (W_region ?_))))))
  refine Ws 1 [0] [0, 1, 5] ⟨[(0, sF 0 x1), (1, I i2), (5, I 0)], [nR x1]⟩ (Wnt ((W_seq (W_block (W_loop (bindO_e h (fun i51 hi51 h => ?_)))))))
  refine WL_cut (spec_depth_L1_ok w X θ x1 i51 n i2 0 hi51) ?_
  rintro _ _ ⟨rfl, rfl⟩
  refine blockS_y (thenS_n (Wsr ((Ws 2 [0] [4] ⟨[(4, I i51)], [nR x1]⟩ (Wnt (?_))))))
  refine W_ret ?_
  cases h
  exact ⟨[0], True, by kernel_rfl, trivial⟩

/- spec.validNode -/
def spec_validNode (n : Nat) (x1 : List Nod) (i2 : Int) : Option (Bool) :=
 guardO (0 ≤ i2 ∧ i2 < ((x1.length : Nat) : Int)) <|
 iteO (!(spec_inRange ((x1.getD i2.toNat dnod).value) (-1000) 1000))
 (some false)
 (iteO (decide (i2 = 0))
 (guardO (0 ≤ i2 ∧ i2 < ((x1.length : Nat) : Int)) <|
 bindO (iteO (decide (((x1.getD i2.toNat dnod).parent) = (-1)))
 (guardO (0 ≤ i2 ∧ i2 < ((x1.length : Nat) : Int)) <|
 some (decide (((x1.getD i2.toNat dnod).name) = [])))
 (some false)) fun b54 =>
 some b54)
 (guardO (0 ≤ i2 ∧ i2 < ((x1.length : Nat) : Int)) <|
 bindO (iteO (spec_inRange ((x1.getD i2.toNat dnod).parent) 0 (w64 (i2 - 1)))
 (guardO (0 ≤ i2 ∧ i2 < ((x1.length : Nat) : Int)) <|
 bindO (spec_validName n ((x1.getD i2.toNat dnod).name)) fun b61 =>
 iteO b61
 (guardO (0 ≤ i2 ∧ i2 ≤ ((x1.length : Nat) : Int)) <|
 guardO (0 ≤ i2 ∧ i2 < ((x1.length : Nat) : Int)) <|
 guardO (0 ≤ i2 ∧ i2 < ((x1.length : Nat) : Int)) <|
 bindO (spec_kid n ((x1.drop 0).take i2.toNat) ((x1.getD i2.toNat dnod).parent) ((x1.getD i2.toNat dnod).name)) fun i67 =>
 iteO (decide (i67 < 0))
 (bindO (spec_depth n x1 i2) fun i70 =>
 some (decide (i70 ≤ 4)))
 (some false))
 (some false))
 (some false)) fun b72 =>
 some b72))

theorem spec_validNode_ok (n : Nat) (x1 : List Nod) (i2 : Int) (b38 : Bool) (h : spec_validNode n x1 i2 = some b38) : FOk EE 73 [sF 0 x1, I i2] [nR x1] (B b38) [nR x1] := by
  unfold spec_validNode at h
  refine FOk_of_W 67 1 Tryz.func73 rfl rfl (Nat.le_of_ble_eq_true rfl) rfl (fun w X θ => ?_)
  refine Wsr ((Ws 1 [0] [0, 1] ⟨[(0, sF 0 x1), (1, I i2)], [nR x1]⟩ (Wnt ((W_seq (W_seq ?_))))))
  refine W_region (guardO_e h (fun hg39 h => (Wp 5 [0] [0, 1, 9] ((0 ≤ i2 ∧ i2 < (lI x1)) ∧ T2) ⟨[(0, sF 0 x1), (1, I i2), (9, I ((x1.getD i2.toNat dnod).value))], [nR x1]⟩ ⟨hg39, trivial, trivial⟩ (Wc [] rfl rfl rfl Tryz.func71 rfl (spec_inRange_ok ((x1.getD i2.toNat dnod).value) (-1000) 1000) (trivial) rfl (Ws 1 [0] [0, 1, 11] ⟨[(0, sF 0 x1), (1, I i2), (11, B (!(spec_inRange ((x1.getD i2.toNat dnod).value) (-1000) 1000)))], [nR x1]⟩ (Wnt (?_)))))))
  refine iteO_e h (fun hb41 h => W_true rfl hb41 ?_) (fun hb41 h => W_false rfl hb41 ?_)
  ·refine Wsr ((Ws 1 [0] [4] ⟨[(4, B false)], [nR x1]⟩ (Wnt ((W_ret (thenS_r ?_))))))
   cases h
   exact ⟨[0], True, by kernel_rfl, trivial⟩
  ·refine Ww [0] [0, 1] ⟨[(0, sF 0 x1), (1, I i2)], [nR x1]⟩ (W_skip (thenS_n (W_seq (Wsr ((Wp 2 [0] [0, 1, 13] T2 ⟨[(0, sF 0 x1), (1, I i2), (13, B (decide (i2 = 0)))], [nR x1]⟩ t2 (Wnt ((iteO_e h (fun hb50 h => W_true rfl hb50 ?_) (fun hb50 h => W_false rfl hb50 ?_))))))))))
   ·refine Wsr ((guardO_e h (fun hg51 h => (Wp 7 [0] [0, 1, 20] ((0 ≤ i2 ∧ i2 < (lI x1)) ∧ T3) ⟨[(0, sF 0 x1), (1, I i2), (20, B (decide (((x1.getD i2.toNat dnod).parent) = (-1))))], [nR x1]⟩ ⟨hg51, trivial, trivial, trivial⟩ (bindO_e h (fun b54 hv55 h => (WO_thru ⟨[(4, B b54)], [nR x1]⟩ ?_ ?_)))))))
    ·refine iteO_e hv55 (fun hb56 hv55 => WO_known 20 true rfl hb56 ?_) (fun hb56 hv55 => WO_known 20 false rfl hb56 ?_)
     ·refine guardO_e hv55 (fun hg57 hv55 => (Wp 8 [0] [4] ((0 ≤ i2 ∧ i2 < (lI x1)) ∧ T3) ⟨[(4, B (decide (((x1.getD i2.toNat dnod).name) = [])))], [nR x1]⟩ ⟨hg57, trivial, trivial, trivial⟩ ?_))
      cases hv55
      exact WO_nil rfl ⟨rfl, rfl⟩
     ·refine Ws 8 [0] [4] ⟨[(4, B false)], [nR x1]⟩ ?_
      cases hv55
      exact WO_nil rfl ⟨rfl, rfl⟩
    ·refine thenS_n (W_ret (thenS_r ?_))
     cases h
     exact ⟨[0], True, by kernel_rfl, trivial⟩
   ·refine Ww [0] [0, 1] ⟨[(0, sF 0 x1), (1, I i2)], [nR x1]⟩ (W_skip (thenS_n (W_seq (guardO_e h (fun hg58 h => (bindO_e h (fun b72 hv73 h => (W_cut (Q' := fun (e : Exit) (s : St) => e = .normal ∧ s = ⟨[(4, B b72)], [nR x1]⟩) ?_ ?_))))))))
    ·refine iteO_e hv73 (fun hb59 hv73 => ?_) (fun hb59 hv73 => ?_)
     ·refine guardO_e hv73 (fun hg60 hv73 => (bindO_e hv73 (fun b61 hc62 hv73 => (iteO_e hv73 (fun hb63 hv73 => ?_) (fun hb63 hv73 => ?_)))))
      ·refine guardO_e hv73 (fun hg64 hv73 => (guardO_e hv73 (fun hg65 hv73 => (guardO_e hv73 (fun hg66 hv73 => (bindO_e hv73 (fun i67 hc68 hv73 => (iteO_e hv73 (fun hb69 hv73 => ?_) (fun hb69 hv73 => ?_)))))))))
       ·refine bindO_e hv73 (fun i70 hc71 hv73 => (W_draw [] false (by kernel_rfl) (by kernel_rfl) (WD_takeQ [0, 1, 2, 3, 4, 5, 6] [0, 1, 32, 34] [0, 1, 32, 34] (φ := ((0 ≤ i2 ∧ i2 < (lI x1)) ∧ (0 ≤ i2 ∧ i2 < (lI x1)) ∧ (True ∧ True ∧ (True ∧ True ∧ True)))) (ls' := (tf true [7, 33])) (st' := ⟨[(0, sF 0 x1), (1, I i2), (32, I ((x1.getD i2.toNat dnod).parent)), (34, I (w64 (i2 - 1)))], [nR x1]⟩) (n2 := 33) (by kernel_rfl) ⟨hg58, hg58, trivial, trivial, trivial, trivial, trivial⟩ rfl (WD_all [7] (n := 32) (by kernel_rfl) rfl (WM_call [] Tryz.f71 rfl rfl (by kernel_rfl) Tryz.func71 rfl (by kernel_rfl) (spec_inRange_ok ((x1.getD i2.toNat dnod).parent) 0 (w64 (i2 - 1))) (trivial) rfl (aI rfl (trivial)) (WD_takeQ [8] [0, 1, 36] [0, 1, 36] (φ := True) (ls' := (tf true [9, 31])) (st' := ⟨[(0, sF 0 x1), (1, I i2), (36, B (spec_inRange ((x1.getD i2.toNat dnod).parent) 0 (w64 (i2 - 1))))], [nR x1]⟩) (n2 := 31) (by kernel_rfl) trivial rfl (WD_known 36 true rfl rfl hb59 (WD_takeQ [9, 10, 11, 12, 13] [0, 1, 36, 41] [0, 1, 36, 41] (φ := ((0 ≤ i2 ∧ i2 < (lI x1)) ∧ (0 ≤ i2 ∧ i2 < (lI x1)) ∧ (True ∧ True ∧ True))) (ls' := (tf true [14, 26])) (st' := ⟨[(0, sF 0 x1), (1, I i2), (36, B true), (41, S ((x1.getD i2.toNat dnod).name))], [nR x1]⟩) (n2 := 26) (by kernel_rfl) ⟨hg60, hg60, trivial, trivial, trivial⟩ rfl (WD_all [14] (n := 25) (by kernel_rfl) rfl (WM_call [] Tryz.f108 rfl rfl (by kernel_rfl) Tryz.func108 rfl (by kernel_rfl) (spec_validName_ok n ((x1.getD i2.toNat dnod).name) b61 hc62) (trivial) rfl (aI rfl (trivial)) (WD_takeQ [15, 16] [0, 1, 44] [0, 1, 44] (φ := True) (ls' := (tf true [17, 23])) (st' := ⟨[(0, sF 0 x1), (1, I i2), (44, B b61)], [nR x1]⟩) (n2 := 23) (by kernel_rfl) trivial rfl (WD_known 44 true rfl rfl hb63 (WD_takeQ [17, 18, 20, 21, 22, 23, 24, 25, 26, 27, 28, 29] [0, 1, 44, 45, 46, 52, 57] [0, 1, 44, 45, 46, 52, 57] (φ := ((0 ≤ i2 ∧ i2 < (lI x1)) ∧ (0 ≤ i2 ∧ i2 < (lI x1)) ∧ (True ∧ True ∧ ((0 ≤ i2 ∧ i2 < (lI x1)) ∧ (0 ≤ i2 ∧ i2 < (lI x1)) ∧ (True ∧ True ∧ True))))) (ls' := (tf true [19, 1, 10, 10])) (st' := ⟨[(0, sF 0 x1), (1, I i2), (44, B true), (45, sF 0 x1), (46, I i2), (52, I ((x1.getD i2.toNat dnod).parent)), (57, S ((x1.getD i2.toNat dnod).name))], [nR x1]⟩) (n2 := 11) (by kernel_rfl) ⟨hg65, hg65, trivial, trivial, hg66, hg66, trivial, trivial, trivial⟩ rfl (WD_all [19] (n := 10) (by kernel_rfl) rfl (WM_op (φ := 0 ≤ i2 ∧ i2 ≤ (lI x1)) (v := .one (.e (.sl 0 0 i2.toNat))) (H' := [nR x1]) rfl rfl (by kernel_rfl) hg64 rfl (aI rfl (trivial)) (WD_all [30] (n := 9) (by kernel_rfl) rfl (WM_call [.view 0] Tryz.f109 rfl rfl (by kernel_rfl) Tryz.func109 rfl (by kernel_rfl) (spec_kid_ok n ((x1.drop 0).take i2.toNat) ((x1.getD i2.toNat dnod).parent) ((x1.getD i2.toNat dnod).name) i67 hc68) (trivial) rfl (aI rfl (trivial)) (WD_takeQ [31, 32, 33] [0, 1, 61] [0, 1, 61] (φ := (True ∧ True ∧ True)) (ls' := (tf true [34, 6])) (st' := ⟨[(0, sF 0 x1), (1, I i2), (61, B (decide (i67 < 0)))], [nR x1]⟩) (n2 := 6) (by kernel_rfl) t3 rfl (WD_known 61 true rfl rfl hb69 (WD_takeQ [34, 35] [61, 62, 63] [61, 62, 63] (φ := True) (ls' := (tf true [36, 4])) (st' := ⟨[(61, B true), (62, sF 0 x1), (63, I i2)], [nR x1]⟩) (n2 := 4) (by kernel_rfl) trivial rfl (WD_all [36] (n := 3) (by kernel_rfl) rfl (WM_call [.ro 0] Tryz.f110 rfl rfl (by kernel_rfl) Tryz.func110 rfl (by kernel_rfl) (spec_depth_ok n x1 i2 i70 hc71) (aI (aI rfl rfl) (trivial)) rfl (aI rfl (trivial)) (WD_takeQ [37, 38, 39] [4] [4] (φ := (True ∧ True ∧ True)) (ls' := (tf true [40])) (st' := ⟨[(4, B (decide (i70 ≤ 4)))], [nR x1]⟩) (n2 := 0) (by kernel_rfl) t3 rfl ?_)))))))))))))))))))))))
        exact WD_done [0] [4] (st' := ⟨[(4, B (decide (i70 ≤ 4)))], [nR x1]⟩) (by kernel_rfl) (by kernel_rfl) (aI rfl (by cases hv73; rfl))
       ·refine W_draw [] false (by kernel_rfl) (by kernel_rfl) (WD_takeQ [0, 1, 2, 3, 4, 5, 6] [0, 1, 32, 34] [0, 1, 32, 34] (φ := ((0 ≤ i2 ∧ i2 < (lI x1)) ∧ (0 ≤ i2 ∧ i2 < (lI x1)) ∧ (True ∧ True ∧ (True ∧ True ∧ True)))) (ls' := (tf true [7, 33])) (st' := ⟨[(0, sF 0 x1), (1, I i2), (32, I ((x1.getD i2.toNat dnod).parent)), (34, I (w64 (i2 - 1)))], [nR x1]⟩) (n2 := 33) (by kernel_rfl) ⟨hg58, hg58, trivial, trivial, trivial, trivial, trivial⟩ rfl (WD_all [7] (n := 32) (by kernel_rfl) rfl (WM_call [] Tryz.f71 rfl rfl (by kernel_rfl) Tryz.func71 rfl (by kernel_rfl) (spec_inRange_ok ((x1.getD i2.toNat dnod).parent) 0 (w64 (i2 - 1))) (trivial) rfl (aI rfl (trivial)) (WD_takeQ [8] [0, 1, 36] [0, 1, 36] (φ := True) (ls' := (tf true [9, 31])) (st' := ⟨[(0, sF 0 x1), (1, I i2), (36, B (spec_inRange ((x1.getD i2.toNat dnod).parent) 0 (w64 (i2 - 1))))], [nR x1]⟩) (n2 := 31) (by kernel_rfl) trivial rfl (WD_known 36 true rfl rfl hb59 (WD_takeQ [9, 10, 11, 12, 13] [0, 1, 36, 41] [0, 1, 36, 41] (φ := ((0 ≤ i2 ∧ i2 < (lI x1)) ∧ (0 ≤ i2 ∧ i2 < (lI x1)) ∧ (True ∧ True ∧ True))) (ls' := (tf true [14, 26])) (st' := ⟨[(0, sF 0 x1), (1, I i2), (36, B true), (41, S ((x1.getD i2.toNat dnod).name))], [nR x1]⟩) (n2 := 26) (by kernel_rfl) ⟨hg60, hg60, trivial, trivial, trivial⟩ rfl (WD_all [14] (n := 25) (by kernel_rfl) rfl (WM_call [] Tryz.f108 rfl rfl (by kernel_rfl) Tryz.func108 rfl (by kernel_rfl) (spec_validName_ok n ((x1.getD i2.toNat dnod).name) b61 hc62) (trivial) rfl (aI rfl (trivial)) (WD_takeQ [15, 16] [0, 1, 44] [0, 1, 44] (φ := True) (ls' := (tf true [17, 23])) (st' := ⟨[(0, sF 0 x1), (1, I i2), (44, B b61)], [nR x1]⟩) (n2 := 23) (by kernel_rfl) trivial rfl (WD_known 44 true rfl rfl hb63 (WD_takeQ [17, 18, 20, 21, 22, 23, 24, 25, 26, 27, 28, 29] [0, 1, 44, 45, 46, 52, 57] [0, 1, 44, 45, 46, 52, 57] (φ := ((0 ≤ i2 ∧ i2 < (lI x1)) ∧ (0 ≤ i2 ∧ i2 < (lI x1)) ∧ (True ∧ True ∧ ((0 ≤ i2 ∧ i2 < (lI x1)) ∧ (0 ≤ i2 ∧ i2 < (lI x1)) ∧ (True ∧ True ∧ True))))) (ls' := (tf true [19, 1, 10, 10])) (st' := ⟨[(0, sF 0 x1), (1, I i2), (44, B true), (45, sF 0 x1), (46, I i2), (52, I ((x1.getD i2.toNat dnod).parent)), (57, S ((x1.getD i2.toNat dnod).name))], [nR x1]⟩) (n2 := 11) (by kernel_rfl) ⟨hg65, hg65, trivial, trivial, hg66, hg66, trivial, trivial, trivial⟩ rfl (WD_all [19] (n := 10) (by kernel_rfl) rfl (WM_op (φ := 0 ≤ i2 ∧ i2 ≤ (lI x1)) (v := .one (.e (.sl 0 0 i2.toNat))) (H' := [nR x1]) rfl rfl (by kernel_rfl) hg64 rfl (aI rfl (trivial)) (WD_all [30] (n := 9) (by kernel_rfl) rfl (WM_call [.view 0] Tryz.f109 rfl rfl (by kernel_rfl) Tryz.func109 rfl (by kernel_rfl) (spec_kid_ok n ((x1.drop 0).take i2.toNat) ((x1.getD i2.toNat dnod).parent) ((x1.getD i2.toNat dnod).name) i67 hc68) (trivial) rfl (aI rfl (trivial)) (WD_takeQ [31, 32, 33] [0, 1, 61] [0, 1, 61] (φ := (True ∧ True ∧ True)) (ls' := (tf true [34, 6])) (st' := ⟨[(0, sF 0 x1), (1, I i2), (61, B (decide (i67 < 0)))], [nR x1]⟩) (n2 := 6) (by kernel_rfl) t3 rfl (WD_known 61 false rfl rfl hb69 (WD_takeQ [34, 35, 36, 37, 38, 39] [4] [4] (φ := True) (ls' := (tf true [40])) (st' := ⟨[(4, B false)], [nR x1]⟩) (n2 := 0) (by kernel_rfl) trivial rfl ?_))))))))))))))))))
        exact WD_done [0] [4] (st' := ⟨[(4, B false)], [nR x1]⟩) (by kernel_rfl) (by kernel_rfl) (aI rfl (by cases hv73; rfl))
      ·refine W_draw [] false (by kernel_rfl) (by kernel_rfl) (WD_takeQ [0, 1, 2, 3, 4, 5, 6] [0, 1, 32, 34] [0, 1, 32, 34] (φ := ((0 ≤ i2 ∧ i2 < (lI x1)) ∧ (0 ≤ i2 ∧ i2 < (lI x1)) ∧ (True ∧ True ∧ (True ∧ True ∧ True)))) (ls' := (tf true [7, 33])) (st' := ⟨[(0, sF 0 x1), (1, I i2), (32, I ((x1.getD i2.toNat dnod).parent)), (34, I (w64 (i2 - 1)))], [nR x1]⟩) (n2 := 33) (by kernel_rfl) ⟨hg58, hg58, trivial, trivial, trivial, trivial, trivial⟩ rfl (WD_all [7] (n := 32) (by kernel_rfl) rfl (WM_call [] Tryz.f71 rfl rfl (by kernel_rfl) Tryz.func71 rfl (by kernel_rfl) (spec_inRange_ok ((x1.getD i2.toNat dnod).parent) 0 (w64 (i2 - 1))) (trivial) rfl (aI rfl (trivial)) (WD_takeQ [8] [0, 1, 36] [0, 1, 36] (φ := True) (ls' := (tf true [9, 31])) (st' := ⟨[(0, sF 0 x1), (1, I i2), (36, B (spec_inRange ((x1.getD i2.toNat dnod).parent) 0 (w64 (i2 - 1))))], [nR x1]⟩) (n2 := 31) (by kernel_rfl) trivial rfl (WD_known 36 true rfl rfl hb59 (WD_takeQ [9, 10, 11, 12, 13] [0, 1, 36, 41] [0, 1, 36, 41] (φ := ((0 ≤ i2 ∧ i2 < (lI x1)) ∧ (0 ≤ i2 ∧ i2 < (lI x1)) ∧ (True ∧ True ∧ True))) (ls' := (tf true [14, 26])) (st' := ⟨[(0, sF 0 x1), (1, I i2), (36, B true), (41, S ((x1.getD i2.toNat dnod).name))], [nR x1]⟩) (n2 := 26) (by kernel_rfl) ⟨hg60, hg60, trivial, trivial, trivial⟩ rfl (WD_all [14] (n := 25) (by kernel_rfl) rfl (WM_call [] Tryz.f108 rfl rfl (by kernel_rfl) Tryz.func108 rfl (by kernel_rfl) (spec_validName_ok n ((x1.getD i2.toNat dnod).name) b61 hc62) (trivial) rfl (aI rfl (trivial)) (WD_takeQ [15, 16] [0, 1, 44] [0, 1, 44] (φ := True) (ls' := (tf true [17, 23])) (st' := ⟨[(0, sF 0 x1), (1, I i2), (44, B b61)], [nR x1]⟩) (n2 := 23) (by kernel_rfl) trivial rfl (WD_known 44 false rfl rfl hb63 (WD_takeQ [17, 18, 19, 20, 21, 22, 23, 24, 25, 26, 27, 28, 29, 30, 31, 32, 33, 34, 35, 36, 37, 38, 39] [4] [4] (φ := True) (ls' := (tf true [40])) (st' := ⟨[(4, B false)], [nR x1]⟩) (n2 := 0) (by kernel_rfl) trivial rfl ?_)))))))))))
       exact WD_done [0] [4] (st' := ⟨[(4, B false)], [nR x1]⟩) (by kernel_rfl) (by kernel_rfl) (aI rfl (by cases hv73; rfl))
     ·refine W_draw [] false (by kernel_rfl) (by kernel_rfl) (WD_takeQ [0, 1, 2, 3, 4, 5, 6] [0, 1, 32, 34] [0, 1, 32, 34] (φ := ((0 ≤ i2 ∧ i2 < (lI x1)) ∧ (0 ≤ i2 ∧ i2 < (lI x1)) ∧ (True ∧ True ∧ (True ∧ True ∧ True)))) (ls' := (tf true [7, 33])) (st' := ⟨[(0, sF 0 x1), (1, I i2), (32, I ((x1.getD i2.toNat dnod).parent)), (34, I (w64 (i2 - 1)))], [nR x1]⟩) (n2 := 33) (by kernel_rfl) ⟨hg58, hg58, trivial, trivial, trivial, trivial, trivial⟩ rfl (WD_all [7] (n := 32) (by kernel_rfl) rfl (WM_call [] Tryz.f71 rfl rfl (by kernel_rfl) Tryz.func71 rfl (by kernel_rfl) (spec_inRange_ok ((x1.getD i2.toNat dnod).parent) 0 (w64 (i2 - 1))) (trivial) rfl (aI rfl (trivial)) (WD_takeQ [8] [0, 1, 36] [0, 1, 36] (φ := True) (ls' := (tf true [9, 31])) (st' := ⟨[(0, sF 0 x1), (1, I i2), (36, B (spec_inRange ((x1.getD i2.toNat dnod).parent) 0 (w64 (i2 - 1))))], [nR x1]⟩) (n2 := 31) (by kernel_rfl) trivial rfl (WD_known 36 false rfl rfl hb59 (WD_takeQ [9, 10, 11, 12, 13, 14, 15, 16, 17, 18, 19, 20, 21, 22, 23, 24, 25, 26, 27, 28, 29, 30, 31, 32, 33, 34, 35, 36, 37, 38, 39] [4] [4] (φ := True) (ls' := (tf true [40])) (st' := ⟨[(4, B false)], [nR x1]⟩) (n2 := 0) (by kernel_rfl) trivial rfl ?_))))))
      exact WD_done [0] [4] (st' := ⟨[(4, B false)], [nR x1]⟩) (by kernel_rfl) (by kernel_rfl) (aI rfl (by cases hv73; rfl))
    ·rintro _ _ ⟨rfl, rfl⟩
     refine thenS_n (W_ret ?_)
     cases h
     exact ⟨[0], True, by kernel_rfl, trivial⟩

/- spec.validTree -/
def spec_validTree_L1 (x1 : List Nod) : Nat → Int → Option ((Unit) ⊕ (Unit))
| 0, _ => none
| n + 1, i52 =>
 iteO (decide (i52 < ((x1.length : Nat) : Int)))
 (bindO (spec_validNode n x1 i52) fun b71 =>
 iteO (!b71)
 (some (.inl ()))
 (spec_validTree_L1 x1 n (w64 (i52 + 1))))
 (some (.inr ()))

theorem spec_validTree_L1_ok (w : World) (X : Nat → Prop) (θ : List Loc) (x1 : List Nod) (v : (Unit) ⊕ (Unit)) : ∀ (n : Nat) (i52 : Int), spec_validTree_L1 x1 n i52 = some v → WL EE ⟨w, X, θ, 17, 1⟩ (subC [1, 0, 1, 4, 4] (bodyC Tryz.f45)) (fun (e : Exit) (s : St) => (match v with | (.inl _) => e = .ret ∧ s = ⟨[(2, B false)], [nR x1]⟩ | (.inr _) => e = .exit 0 ∧ s = ⟨[(0, sF 0 x1)], [nR x1]⟩ : Prop)) ⟨[(0, sF 0 x1), (3, I i52)], [nR x1]⟩ := by
  intro n
  induction n with
  | zero => intro _ h; exact none_e h
  | succ n ih =>
    intro i52 h
    rw [spec_validTree_L1] at h
    refine WL_round ?_
    refine W_seq (Wsr ((Wp 4 [0] [0, 3, 7] T3 ⟨[(0, sF 0 x1), (3, I i52), (7, B (decide (i52 < (lI x1))))], [nR x1]⟩ t3 (Wnt ((iteO_e h (fun hb66 h => W_true rfl hb66 ?_) (fun hb66 h => W_false rfl hb66 ?_)))))))
    ·refine Ww [0] [0, 3] ⟨[(0, sF 0 x1), (3, I i52)], [nR x1]⟩ (W_skip (thenS_n (W_seq (W_block (Wsr ((Ws 2 [0] [0, 3, 10, 11] ⟨[(0, sF 0 x1), (3, I i52), (10, sF 0 x1), (11, I i52)], [nR x1]⟩ (bindO_e h (fun b71 hc72 h => (Wc [.ro 0] rfl rfl rfl Tryz.func73 rfl (spec_validNode_ok n x1 i52 b71 hc72) (aI (aI rfl rfl) (trivial)) rfl (Ws 1 [0] [0, 3, 13] ⟨[(0, sF 0 x1), (3, I i52), (13, B (!b71))], [nR x1]⟩ (Wnt ((iteO_e h (fun hb74 h => W_true rfl hb74 ?_) (fun hb74 h => W_false rfl hb74 ?_)))))))))))))))
     ·refine Wsr ((Ws 1 [0] [2] ⟨[(2, B false)], [nR x1]⟩ (Wnt ((W_ret (blockS_r (thenS_r (thenS_r ?_))))))))
      cases h
      exact aI rfl rfl
     ·refine Ww [0] [0, 3] ⟨[(0, sF 0 x1), (3, I i52)], [nR x1]⟩ (W_skip (blockS_n (thenS_n (W_region (Wp 3 [0] [0, 3] T2 ⟨[(0, sF 0 x1), (3, I (w64 (i52 + 1)))], [nR x1]⟩ t2 (Wnt (?_)))))))
      exact ih _ h
    ·refine Ww [0] [0] ⟨[(0, sF 0 x1)], [nR x1]⟩ (W_exit (thenS_e (thenS_e ?_)))
     cases h
     exact aI rfl rfl

def spec_validTree (n : Nat) (x1 : List Nod) : Option (Bool) :=
 bindO (spec_validTree_L1 x1 n 0) fun v75 =>
 match v75 with
 | (.inl _) => (some false)
 | (.inr _) => (some (spec_inRange ((x1.length : Nat) : Int) 1 12))


theorem spec_validTree_ok (n : Nat) (x1 : List Nod) (b38 : Bool) (h : spec_validTree n x1 = some b38) : FOk EE 45 [sF 0 x1] [nR x1] (B b38) [nR x1] := by
  unfold spec_validTree at h
  refine FOk_of_W 17 1 Tryz.func45 rfl rfl (Nat.le_of_ble_eq_true rfl) rfl (fun w X θ => ?_)
  refine Wsr ((Ws 1 [0] [0] ⟨[(0, sF 0 x1)], [nR x1]⟩ (Wnt ((W_seq (W_seq ?_))))))
  refine W_region (Ws 1 [0] [0, 3] ⟨[(0, sF 0 x1), (3, I 0)], [nR x1]⟩ (Wnt ((W_block (W_loop (bindO_e h (fun v75 hv75 h => ?_)))))))
  refine WL_cut (spec_validTree_L1_ok w X θ x1 v75 n 0 hv75) ?_
  rcases v75 with _ | _
  ·rintro _ _ ⟨rfl, rfl⟩
   refine blockS_r (thenS_r ?_)
   cases h
   exact ⟨[0], True, by kernel_rfl, trivial⟩
  ·rintro _ _ ⟨rfl, rfl⟩
   refine blockS_y (thenS_n (Wsr ((Wp 2 [0] [15] T2 ⟨[(15, I (lI x1))], [nR x1]⟩ t2 (Wc [] rfl rfl rfl Tryz.func71 rfl (spec_inRange_ok (lI x1) 1 12) (trivial) rfl (Ws 1 [0] [2] ⟨[(2, B (spec_inRange (lI x1) 1 12))], [nR x1]⟩ (Wnt ((W_ret ?_)))))))))
   cases h
   exact ⟨[0], True, by kernel_rfl, trivial⟩

/- spec.AddNode -/
def spec_AddNode (n : Nat) (x1 : List Nod) (i2 : Int) (s3 : Str) (i4 : Int) : Option ((List Nod) × Int × Bool) :=
 bindO (spec_validTree n x1) fun b21 =>
 iteO ((!b21) || (decide (((x1.length : Nat) : Int) = 12)))
 (some (([] : List Nod), (-1), false))
 (guardO (0 = 0 ∧ ([] : List Nod).length = ([] : List Nod).length ∧ ([] : List Nod).length + ((x1.drop 0).take x1.length).length ≤ 1099511627776) <|
 guardO (0 = 0 ∧ (([] : List Nod) ++ ((x1.drop 0).take x1.length)).length = (([] : List Nod) ++ ((x1.drop 0).take x1.length)).length ∧ (([] : List Nod) ++ ((x1.drop 0).take x1.length)).length + (([(⟨i2, s3, i4⟩ : Nod)].drop 0).take ([(⟨i2, s3, i4⟩ : Nod)].length)).length ≤ 1099511627776) <|
 bindO (spec_validTree n ((([] : List Nod) ++ ((x1.drop 0).take x1.length)) ++ (([(⟨i2, s3, i4⟩ : Nod)].drop 0).take ([(⟨i2, s3, i4⟩ : Nod)].length)))) fun b30 =>
 iteO (!b30)
 (some (([] : List Nod), (-1), false))
 (some (((([] : List Nod) ++ ((x1.drop 0).take x1.length)) ++ (([(⟨i2, s3, i4⟩ : Nod)].drop 0).take ([(⟨i2, s3, i4⟩ : Nod)].length))), ((x1.length : Nat) : Int), true)))

theorem spec_AddNode_ok (n : Nat) (x1 : List Nod) (i2 : Int) (s3 : Str) (i4 : Int) (x18 : List Nod) (i19 : Int) (b20 : Bool) (h : spec_AddNode n x1 i2 s3 i4 = some (x18, i19, b20)) : FOk EE 97 [sF 0 x1, I i2, S s3, I i4] [nR x1] (.tup [.e (.sl 1 0 x18.length), .e (cI i19), .e (cB b20)]) [nR x1, nO x18] := by
  unfold spec_AddNode at h
  refine FOk_of_W 35 1 Tryz.func97 rfl rfl (Nat.le_of_ble_eq_true rfl) rfl (fun w X θ => ?_)
  refine Wsr ((Ws 3 [0] [0, 1, 2, 3] ⟨[(0, sF 0 x1), (1, I i2), (2, S s3), (3, I i4)], [nR x1]⟩ (Wnt ((W_seq (W_seq ?_))))))
  refine W_region (Ws 1 [0] [0, 1, 2, 3, 12] ⟨[(0, sF 0 x1), (1, I i2), (2, S s3), (3, I i4), (12, sF 0 x1)], [nR x1]⟩ (bindO_e h (fun b21 hc22 h => (Wc [.ro 0] rfl rfl rfl Tryz.func45 rfl (spec_validTree_ok n x1 b21 hc22) (aI (aI rfl rfl) (trivial)) rfl (Ws 2 [0] [0, 1, 2, 3, 15] ⟨[(0, sF 0 x1), (1, I i2), (2, S s3), (3, I i4), (15, B (!b21))], [nR x1]⟩ (WO_thru ⟨[(0, sF 0 x1), (1, I i2), (2, S s3), (3, I i4), (19, B ((!b21) || (decide ((lI x1) = 12))))], [nR x1]⟩ ?_ ?_))))))
  ·refine WO_if 15 rfl (fun hb25 => ?_) (fun hb25 => ?_)
   ·refine Ws 4 [0] [0, 1, 2, 3, 19] ⟨[(0, sF 0 x1), (1, I i2), (2, S s3), (3, I i4), (19, B true)], [nR x1]⟩ ?_
    exact WO_nil rfl ⟨rfl, by first | rfl | (rw [hb25]; first | done | rfl)⟩
   ·refine Wp 4 [0] [0, 1, 2, 3, 19] T3 ⟨[(0, sF 0 x1), (1, I i2), (2, S s3), (3, I i4), (19, B (decide ((lI x1) = 12)))], [nR x1]⟩ t3 ?_
    exact WO_nil rfl ⟨rfl, by first | rfl | (rw [hb25]; first | done | rfl)⟩
  ·refine thenS_n (iteO_e h (fun hb27 h => W_true rfl hb27 ?_) (fun hb27 h => W_false rfl hb27 ?_))
   ·refine Wsr ((Ws 3 [0] [8, 9, 10] ⟨[(8, .one (.e (.nsl))), (9, I (-1)), (10, B false)], [nR x1]⟩ (WO_nilrow 8 .nod rfl (Wb [0, 1] [8, 9, 10] ⟨[(8, .one (.e (.sl 1 0 (([] : List Nod).length)))), (9, I (-1)), (10, B false)], [nR x1, nO ([] : List Nod)]⟩ (Wnt ((W_ret (thenS_r ?_))))))))
    cases h
    exact ⟨[0, 1], True, by kernel_rfl, trivial⟩
   ·refine Ww [0] [0, 1, 2, 3] ⟨[(0, sF 0 x1), (1, I i2), (2, S s3), (3, I i4)], [nR x1]⟩ (W_skip (thenS_n (Wsr ((guardO_e h (fun hg28 h => (guardO_e h (fun hg29 h => (Wp 10 [0, 4] [0, 11] ((0 = 0 ∧ ([] : List Nod).length = ([] : List Nod).length ∧ ([] : List Nod).length + ((x1.drop 0).take x1.length).length ≤ 1099511627776) ∧ ((0 = 0 ∧ (([] : List Nod) ++ ((x1.drop 0).take x1.length)).length = (([] : List Nod) ++ ((x1.drop 0).take x1.length)).length ∧ (([] : List Nod) ++ ((x1.drop 0).take x1.length)).length + (([(⟨i2, s3, i4⟩ : Nod)].drop 0).take ([(⟨i2, s3, i4⟩ : Nod)].length)).length ≤ 1099511627776) ∧ True)) ⟨[(0, sF 0 x1), (11, .one (.e (.sl 1 0 (((([] : List Nod) ++ ((x1.drop 0).take x1.length)) ++ (([(⟨i2, s3, i4⟩ : Nod)].drop 0).take ([(⟨i2, s3, i4⟩ : Nod)].length))).length))))], [nR x1, .row .nod ((([] : List Nod) ++ ((x1.drop 0).take x1.length)) ++ (([(⟨i2, s3, i4⟩ : Nod)].drop 0).take ([(⟨i2, s3, i4⟩ : Nod)].length))) true]⟩ ⟨hg28, hg29, trivial⟩ (Wnt ((W_seq (Wsr ((Ws 1 [0, 1] [0, 11, 29] ⟨[(0, sF 0 x1), (11, .one (.e (.sl 1 0 (((([] : List Nod) ++ ((x1.drop 0).take x1.length)) ++ (([(⟨i2, s3, i4⟩ : Nod)].drop 0).take ([(⟨i2, s3, i4⟩ : Nod)].length))).length)))), (29, .one (.e (.sl 1 0 (((([] : List Nod) ++ ((x1.drop 0).take x1.length)) ++ (([(⟨i2, s3, i4⟩ : Nod)].drop 0).take ([(⟨i2, s3, i4⟩ : Nod)].length))).length))))], [nR x1, .row .nod ((([] : List Nod) ++ ((x1.drop 0).take x1.length)) ++ (([(⟨i2, s3, i4⟩ : Nod)].drop 0).take ([(⟨i2, s3, i4⟩ : Nod)].length))) true]⟩ (bindO_e h (fun b30 hc31 h => (Wc [.ro 1] rfl rfl rfl Tryz.func45 rfl (spec_validTree_ok n ((([] : List Nod) ++ ((x1.drop 0).take x1.length)) ++ (([(⟨i2, s3, i4⟩ : Nod)].drop 0).take ([(⟨i2, s3, i4⟩ : Nod)].length))) b30 hc31) (aI (aI rfl rfl) (trivial)) rfl (Ws 1 [0, 1] [0, 11, 31] ⟨[(0, sF 0 x1), (11, .one (.e (.sl 1 0 (((([] : List Nod) ++ ((x1.drop 0).take x1.length)) ++ (([(⟨i2, s3, i4⟩ : Nod)].drop 0).take ([(⟨i2, s3, i4⟩ : Nod)].length))).length)))), (31, B (!b30))], [nR x1, .row .nod ((([] : List Nod) ++ ((x1.drop 0).take x1.length)) ++ (([(⟨i2, s3, i4⟩ : Nod)].drop 0).take ([(⟨i2, s3, i4⟩ : Nod)].length))) true]⟩ (Wnt ((iteO_e h (fun hb33 h => W_true rfl hb33 ?_) (fun hb33 h => W_false rfl hb33 ?_)))))))))))))))))))))))
    ·refine Wsr ((Ws 3 [0] [8, 9, 10] ⟨[(8, .one (.e (.nsl))), (9, I (-1)), (10, B false)], [nR x1]⟩ (WO_nilrow 8 .nod rfl (Wb [0, 1] [8, 9, 10] ⟨[(8, .one (.e (.sl 1 0 (([] : List Nod).length)))), (9, I (-1)), (10, B false)], [nR x1, nO ([] : List Nod)]⟩ (Wnt ((W_ret (thenS_r ?_))))))))
     cases h
     exact ⟨[0, 1], True, by kernel_rfl, trivial⟩
    ·refine Ww [0, 1] [0, 11] ⟨[(0, sF 0 x1), (11, .one (.e (.sl 1 0 (((([] : List Nod) ++ ((x1.drop 0).take x1.length)) ++ (([(⟨i2, s3, i4⟩ : Nod)].drop 0).take ([(⟨i2, s3, i4⟩ : Nod)].length))).length))))], [nR x1, .row .nod ((([] : List Nod) ++ ((x1.drop 0).take x1.length)) ++ (([(⟨i2, s3, i4⟩ : Nod)].drop 0).take ([(⟨i2, s3, i4⟩ : Nod)].length))) true]⟩ (W_skip (thenS_n (Wsr ((Wp 6 [0, 1] [8, 9, 10] T2 ⟨[(8, .one (.e (.sl 1 0 (((([] : List Nod) ++ ((x1.drop 0).take x1.length)) ++ (([(⟨i2, s3, i4⟩ : Nod)].drop 0).take ([(⟨i2, s3, i4⟩ : Nod)].length))).length)))), (9, I (lI x1)), (10, B true)], [nR x1, .row .nod ((([] : List Nod) ++ ((x1.drop 0).take x1.length)) ++ (([(⟨i2, s3, i4⟩ : Nod)].drop 0).take ([(⟨i2, s3, i4⟩ : Nod)].length))) true]⟩ t2 (Wnt ((W_ret ?_))))))))
     cases h
     exact ⟨[0, 1], True, by kernel_rfl, trivial⟩

/- spec.someTree -/
def spec_someTree_L1 (k2 : Nat) (x1 : List Int) : Nat → Int → (List Nod) → Int → Option ((Int × (List Nod)))
| 0, _, _, _ => none
| n + 1, i199, x200, i201 =>
 iteO (decide (0 < i201))
 (bindO (spec_reader_pick x1 k2 i199 ((x200.length : Nat) : Int)) fun i266 =>
 bindO (spec_someName x1 k2 (w64 (i199 + 1))) fun (i268, s269) =>
 bindO (spec_someValue x1 k2 i268) fun (i271, i272) =>
 bindO (spec_AddNode n x200 i266 s269 i272) fun (x274, i275, b276) =>
 bindO (iteO b276
 (some x274)
 (some x200)) fun x279 =>
 spec_someTree_L1 k2 x1 n i271 x279 (w64 (i201 - 1)))
 (some (i199, x200))

theorem spec_someTree_L1_ok (w : World) (X : Nat → Prop) (θ : List Loc) (k2 : Nat) (x1 : List Int) (v : (Int × (List Nod))) : ∀ (n : Nat) (i199 : Int) (x200 : List Nod) (i201 : Int), spec_someTree_L1 k2 x1 n i199 x200 i201 = some v → WL EE ⟨w, X, θ, 36, 2⟩ (subC [1, 1, 0, 1, 4, 4] (bodyC Tryz.f64)) (fun (e : Exit) (s : St) => (match v with | (i243, x244) => e = .exit 0 ∧ s = ⟨[(3, sF 2 x244)], [.cells [.sl 1 0 k2, cI i243], uR x1, nO x244]⟩ : Prop)) ⟨[(0, pA 0 0), (3, sF 2 x200), (4, I i201)], [.cells [.sl 1 0 k2, cI i199], uR x1, nO x200]⟩ := by
  intro n
  induction n with
  | zero => intro _ _ _ h; exact none_e h
  | succ n ih =>
    intro i199 x200 i201 h
    rw [spec_someTree_L1] at h
    refine WL_round ?_
    refine W_seq (Wsr ((Wp 2 [0, 1, 2] [0, 3, 4, 16] T2 ⟨[(0, pA 0 0), (3, sF 2 x200), (4, I i201), (16, B (decide (0 < i201)))], [.cells [.sl 1 0 k2, cI i199], uR x1, nO x200]⟩ t2 (Wnt ((iteO_e h (fun hb247 h => W_true rfl hb247 ?_) (fun hb247 h => W_false rfl hb247 ?_)))))))
    ·refine Ww [0, 1, 2] [0, 3, 4] ⟨[(0, pA 0 0), (3, sF 2 x200), (4, I i201)], [.cells [.sl 1 0 k2, cI i199], uR x1, nO x200]⟩ (W_skip (thenS_n (W_seq (W_block (Wsr ((Wp 4 [0, 1, 2] [0, 3, 4, 20, 21, 23] T2 ⟨[(0, pA 0 0), (3, sF 2 x200), (4, I i201), (20, sF 2 x200), (21, pA 0 0), (23, I (lI x200))], [.cells [.sl 1 0 k2, cI i199], uR x1, nO x200]⟩ t2 (bindO_e h (fun i266 hc267 h => (Wc [.own 0, .ro 1] rfl rfl rfl Tryz.func25 rfl (spec_reader_pick_ok x1 k2 i199 (lI x200) i266 hc267) (aI (trivial) (aI (aI rfl rfl) (trivial))) rfl (Ws 1 [0, 1, 2] [0, 3, 4, 20, 24, 25] ⟨[(0, pA 0 0), (3, sF 2 x200), (4, I i201), (20, sF 2 x200), (24, I i266), (25, pA 0 0)], [.cells [.sl 1 0 k2, cI (w64 (i199 + 1))], uR x1, nO x200]⟩ (bindO_e h (fun v284 hc270 h => ?_)))))))))))))
     obtain ⟨i268, s269⟩ := v284
     refine Wc [.own 0, .ro 1] rfl rfl rfl Tryz.func98 rfl (spec_someName_ok x1 k2 (w64 (i199 + 1)) i268 s269 hc270) (aI (trivial) (aI (aI rfl rfl) (trivial))) rfl (Ws 1 [0, 1, 2] [0, 3, 4, 20, 24, 26, 27] ⟨[(0, pA 0 0), (3, sF 2 x200), (4, I i201), (20, sF 2 x200), (24, I i266), (26, S s269), (27, pA 0 0)], [.cells [.sl 1 0 k2, cI i268], uR x1, nO x200]⟩ (bindO_e h (fun v283 hc273 h => ?_)))
     obtain ⟨i271, i272⟩ := v283
     refine Wc [.own 0, .ro 1] rfl rfl rfl Tryz.func27 rfl (spec_someValue_ok x1 k2 i268 i271 i272 hc273) (aI (trivial) (aI (aI rfl rfl) (trivial))) rfl (Wb [0, 1, 2] [0, 3, 4, 20, 24, 26, 28] ⟨[(0, pA 0 0), (3, sF 2 x200), (4, I i201), (20, sF 2 x200), (24, I i266), (26, S s269), (28, I i272)], [.cells [.sl 1 0 k2, cI i271], uR x1, nO x200]⟩ (bindO_e h (fun v282 hc277 h => ?_)))
     obtain ⟨x274, i275, b276⟩ := v282
     refine Wc [.ro 2] rfl rfl rfl Tryz.func97 rfl (spec_AddNode_ok n x200 i266 s269 i272 x274 i275 b276 hc277) (aI (aI rfl rfl) (trivial)) rfl (Ws 7 [0, 1, 2, 3] [0, 3, 4, 5, 7] ⟨[(0, pA 0 0), (3, sF 2 x200), (4, I i201), (5, sF 3 x274), (7, B b276)], [.cells [.sl 1 0 k2, cI i271], uR x1, nO x200, nO x274]⟩ (Wnt ((Wsr ((Ws 1 [0, 1, 2, 3] [0, 3, 4, 5, 33] ⟨[(0, pA 0 0), (3, sF 2 x200), (4, I i201), (5, sF 3 x274), (33, B b276)], [.cells [.sl 1 0 k2, cI i271], uR x1, nO x200, nO x274]⟩ (Wnt ((bindO_e h (fun x279 hx279 h => (W_cut (Q' := fun (e : Exit) (s : St) => e = .normal ∧ s = ⟨[(0, pA 0 0), (3, sF 2 x279), (4, I i201)], [.cells [.sl 1 0 k2, cI i271], uR x1, nO x279]⟩) ?_ ?_)))))))))))
     ·refine iteO_e hx279 (fun hb281 hx279 => W_true rfl hb281 ?_) (fun hb281 hx279 => W_false rfl hb281 ?_)
      ·refine W_region (Ws 2 [0, 1, 3] [0, 3, 4] ⟨[(0, pA 0 0), (3, sF 2 x274), (4, I i201)], [.cells [.sl 1 0 k2, cI i271], uR x1, nO x274]⟩ (WO_nil rfl ?_))
       cases hx279
       exact aI rfl rfl
      ·refine Ww [0, 1, 2] [0, 3, 4] ⟨[(0, pA 0 0), (3, sF 2 x200), (4, I i201)], [.cells [.sl 1 0 k2, cI i271], uR x1, nO x200]⟩ (W_skip ?_)
       cases hx279
       exact aI rfl rfl
     ·rintro _ _ ⟨rfl, rfl⟩
      refine blockS_n (thenS_n (W_region (Wp 3 [0, 1, 2] [0, 3, 4] T2 ⟨[(0, pA 0 0), (3, sF 2 x279), (4, I (w64 (i201 - 1)))], [.cells [.sl 1 0 k2, cI i271], uR x1, nO x279]⟩ t2 (Wnt (?_)))))
      exact ih _ _ _ h
    ·refine Ww [0, 1, 2] [3] ⟨[(3, sF 2 x200)], [.cells [.sl 1 0 k2, cI i199], uR x1, nO x200]⟩ (W_exit (thenS_e (thenS_e ?_)))
     cases h
     exact aI rfl rfl

def spec_someTree (n : Nat) (x1 : List Int) (k2 : Nat) (i3 : Int) : Option (Int × (List Nod)) :=
 bindO (spec_someValue x1 k2 i3) fun (i146, i147) =>
 bindO (spec_reader_one x1 k2 i146 [5, 8, 3, 12, 1, 0, 16]) fun (i149, i150) =>
 bindO (spec_someTree_L1 k2 x1 n i149 [(⟨(-1), [], i147⟩ : Nod)] i150) fun v285 =>
 match v285 with
 | (i243, x244) => (some (i243, x244))


theorem spec_someTree_ok (n : Nat) (x1 : List Int) (k2 : Nat) (i3 : Int) (i144 : Int) (x145 : List Nod) (h : spec_someTree n x1 k2 i3 = some (i144, x145)) : FOk EE 64 [pA 0 0] [.cells [.sl 1 0 k2, cI i3], uR x1] (sF 2 x145) [.cells [.sl 1 0 k2, cI i144], uR x1, nO x145] := by
  unfold spec_someTree at h
  refine FOk_of_W 36 2 Tryz.func64 rfl rfl (Nat.le_of_ble_eq_true rfl) rfl (fun w X θ => ?_)
  refine Wsr ((Ws 1 [0, 1] [0] ⟨[(0, pA 0 0)], [.cells [.sl 1 0 k2, cI i3], uR x1]⟩ (Wnt ((W_seq (W_region ?_))))))
  refine Ws 1 [0, 1] [0, 8] ⟨[(0, pA 0 0), (8, pA 0 0)], [.cells [.sl 1 0 k2, cI i3], uR x1]⟩ (bindO_e h (fun v287 hc148 h => ?_))
  obtain ⟨i146, i147⟩ := v287
  refine Wc [.own 0, .ro 1] rfl rfl rfl Tryz.func27 rfl (spec_someValue_ok x1 k2 i3 i146 i147 hc148) (aI (trivial) (aI (aI rfl rfl) (trivial))) rfl (Ws 3 [0, 1, 2] [0, 3] ⟨[(0, pA 0 0), (3, .one (.e (.sl 2 0 ([(⟨(-1), [], i147⟩ : Nod)].length))))], [.cells [.sl 1 0 k2, cI i146], uR x1, .row .nod [(⟨(-1), [], i147⟩ : Nod)] true]⟩ (Wnt ((W_seq (W_seq (W_region ?_))))))
  refine Ws 2 [0, 1, 2, 3] [0, 3, 12, 13] ⟨[(0, pA 0 0), (3, .one (.e (.sl 2 0 ([(⟨(-1), [], i147⟩ : Nod)].length)))), (12, pA 0 0), (13, SL 3 0 ([5, 8, 3, 12, 1, 0, 16].length))], [.cells [.sl 1 0 k2, cI i146], uR x1, .row .nod [(⟨(-1), [], i147⟩ : Nod)] true, .row .int [5, 8, 3, 12, 1, 0, 16] true]⟩ (bindO_e h (fun v286 hc151 h => ?_))
  obtain ⟨i149, i150⟩ := v286
  refine Wc [.own 0, .ro 1, .ro 3] rfl rfl rfl Tryz.func23 rfl (spec_reader_one_ok x1 k2 i146 [5, 8, 3, 12, 1, 0, 16] i149 i150 hc151) (aI (trivial) (aI (aI rfl rfl) (aI (aI rfl rfl) (trivial)))) rfl (Ws 1 [0, 1, 2] [0, 3, 4] ⟨[(0, pA 0 0), (3, .one (.e (.sl 2 0 ([(⟨(-1), [], i147⟩ : Nod)].length)))), (4, I i150)], [.cells [.sl 1 0 k2, cI i149], uR x1, .row .nod [(⟨(-1), [], i147⟩ : Nod)] true]⟩ (Wnt ((W_block (W_loop (bindO_e h (fun v285 hv285 h => ?_)))))))
  refine WL_cut (spec_someTree_L1_ok w X θ k2 x1 v285 n i149 [(⟨(-1), [], i147⟩ : Nod)] i150 hv285) ?_
  obtain ⟨i243, x244⟩ := v285
  rintro _ _ ⟨rfl, rfl⟩
  refine blockS_y (thenS_n (Wsr ((Ws 2 [0, 1, 2] [2] ⟨[(2, sF 2 x244)], [.cells [.sl 1 0 k2, cI i243], uR x1, nO x244]⟩ (Wnt (?_))))))
  refine W_ret ?_
  cases h
  exact ⟨[0, 1, 2], True, by kernel_rfl, trivial⟩

/- spec.anyTree -/
def spec_anyTree_L1 (k2 : Nat) (i132 : Int) (x1 : List Int) : Nat → (List Nod) → Option ((List Nod))
| 0, _ => none
| n + 1, x405 =>
 iteO (decide (((x405.length : Nat) : Int) < 13))
 (guardO (0 = 0 ∧ x405.length = x405.length ∧ x405.length + (([(⟨0, [113], 0⟩ : Nod)].drop 0).take ([(⟨0, [113], 0⟩ : Nod)].length)).length ≤ 1099511627776) <|
 spec_anyTree_L1 k2 i132 x1 n (x405 ++ (([(⟨0, [113], 0⟩ : Nod)].drop 0).take ([(⟨0, [113], 0⟩ : Nod)].length))))
 (some x405)

theorem spec_anyTree_L1_ok (w : World) (X : Nat → Prop) (θ : List Loc) (k2 : Nat) (i132 : Int) (x1 : List Int) (x411 : (List Nod)) : ∀ (n : Nat) (x405 : List Nod), spec_anyTree_L1 k2 i132 x1 n x405 = some x411 → WL EE ⟨w, X, θ, 54, 2⟩ (subC [1, 1, 1, 0, 1, 4, 1, 3, 1, 3, 1, 3, 1, 3, 1, 2, 4, 4] (bodyC Tryz.f36)) (fun (e : Exit) (s : St) => e = .exit 1 ∧ s = ⟨[(3, sF 2 x411)], [.cells [.sl 1 0 k2, cI (w64 ((w64 (i132 + 1)) + 1))], uR x1, nO x411]⟩) ⟨[(3, sF 2 x405)], [.cells [.sl 1 0 k2, cI (w64 ((w64 (i132 + 1)) + 1))], uR x1, nO x405]⟩ := by
  intro n
  induction n with
  | zero => intro _ h; exact none_e h
  | succ n ih =>
    intro x405 h
    rw [spec_anyTree_L1] at h
    refine WL_round ?_
    refine W_seq (Wsr ((Wp 3 [0, 1, 2] [3, 48] T3 ⟨[(3, sF 2 x405), (48, B (decide ((lI x405) < 13)))], [.cells [.sl 1 0 k2, cI (w64 ((w64 (i132 + 1)) + 1))], uR x1, nO x405]⟩ t3 (Wnt ((iteO_e h (fun hb414 h => W_true rfl hb414 ?_) (fun hb414 h => W_false rfl hb414 ?_)))))))
    ·refine Ww [0, 1, 2] [3] ⟨[(3, sF 2 x405)], [.cells [.sl 1 0 k2, cI (w64 ((w64 (i132 + 1)) + 1))], uR x1, nO x405]⟩ (W_skip (thenS_n (W_block (W_region (guardO_e h (fun hg416 h => (Wp 5 [0, 1, 4] [3] ((0 = 0 ∧ x405.length = x405.length ∧ x405.length + (([(⟨0, [113], 0⟩ : Nod)].drop 0).take ([(⟨0, [113], 0⟩ : Nod)].length)).length ≤ 1099511627776) ∧ True) ⟨[(3, .one (.e (.sl 2 0 ((x405 ++ (([(⟨0, [113], 0⟩ : Nod)].drop 0).take ([(⟨0, [113], 0⟩ : Nod)].length))).length))))], [.cells [.sl 1 0 k2, cI (w64 ((w64 (i132 + 1)) + 1))], uR x1, .row .nod (x405 ++ (([(⟨0, [113], 0⟩ : Nod)].drop 0).take ([(⟨0, [113], 0⟩ : Nod)].length))) true]⟩ ⟨hg416, trivial⟩ (WO_nil rfl (blockS_n (thenS_n ?_))))))))))
     exact ih _ h
    ·refine Ww [0, 1, 2] [3] ⟨[(3, sF 2 x405)], [.cells [.sl 1 0 k2, cI (w64 ((w64 (i132 + 1)) + 1))], uR x1, nO x405]⟩ (W_exit (thenS_e (thenS_e ?_)))
     cases h
     exact aI rfl rfl

def spec_anyTree (n : Nat) (x1 : List Int) (k2 : Nat) (i3 : Int) : Option (Int × (List Nod) × Nat × Nat) :=
 bindO (spec_someTree n x1 k2 i3) fun (i132, x133) =>
 bindO (spec_reader_pick x1 k2 i132 ((x133.length : Nat) : Int)) fun i135 =>
 bindO (spec_reader_pick x1 k2 (w64 (i132 + 1)) 30) fun i137 =>
 bindO (iteO (decide (i137 = 0))
 (bindO (spec_reader_pick x1 k2 (w64 ((w64 (i132 + 1)) + 1)) 6) fun i252 =>
 guardO (0 ≤ i135 ∧ i135 < ((x133.length : Nat) : Int)) <|
 some ((w64 ((w64 ((w64 (i132 + 1)) + 1)) + 1)), (x133.set i135.toNat (⟨(w64 (i252 - 1)), (x133.getD i135.toNat dnod).name, (x133.getD i135.toNat dnod).value⟩ : Nod)), 0, (x133.set i135.toNat (⟨(w64 (i252 - 1)), (x133.getD i135.toNat dnod).name, (x133.getD i135.toNat dnod).value⟩ : Nod)).length))
 (bindO (iteO (decide (i137 = 1))
 (bindO (spec_reader_of x1 k2 (w64 ((w64 (i132 + 1)) + 1)) [[], [65], [97, 98, 99, 100, 101], [97]]) fun (i303, s304) =>
 guardO (0 ≤ i135 ∧ i135 < ((x133.length : Nat) : Int)) <|
 some (i303, (x133.set i135.toNat (⟨(x133.getD i135.toNat dnod).parent, s304, (x133.getD i135.toNat dnod).value⟩ : Nod)), 0, (x133.set i135.toNat (⟨(x133.getD i135.toNat dnod).parent, s304, (x133.getD i135.toNat dnod).value⟩ : Nod)).length))
 (bindO (iteO (decide (i137 = 2))
 (bindO (spec_reader_one x1 k2 (w64 ((w64 (i132 + 1)) + 1)) [1001, (-1001)]) fun (i345, i346) =>
 guardO (0 ≤ i135 ∧ i135 < ((x133.length : Nat) : Int)) <|
 some (i345, (x133.set i135.toNat (⟨(x133.getD i135.toNat dnod).parent, (x133.getD i135.toNat dnod).name, i346⟩ : Nod)), 0, (x133.set i135.toNat (⟨(x133.getD i135.toNat dnod).parent, (x133.getD i135.toNat dnod).name, i346⟩ : Nod)).length))
 (bindO (iteO (decide (i137 = 3))
 (guardO (0 ≤ (1 : Int) ∧ (1 : Int) ≤ ((x133.length : Nat) : Int)) <|
 some (x133, 1, (x133.length - 1)))
 (bindO (iteO (decide (i137 = 4))
 (bindO (spec_anyTree_L1 k2 i132 x1 n x133) fun x411 =>
 some x411)
 (some x133)) fun x394 =>
 some (x394, 0, x394.length))) fun v374 =>
 match v374 with
 | (x371, k372, k373) => (some ((w64 ((w64 (i132 + 1)) + 1)), x371, k372, k373))
)) fun v343 =>
 match v343 with
 | (i339, x340, k341, k342) => (some (i339, x340, k341, k342))
)) fun v301 =>
 match v301 with
 | (i297, x298, k299, k300) => (some (i297, x298, k299, k300))
)) fun v250 =>
 match v250 with
 | (i246, x247, k248, k249) => (some (i246, x247, k248, k249))


theorem spec_anyTree_ok (n : Nat) (x1 : List Int) (k2 : Nat) (i3 : Int) (i128 : Int) (x129 : List Nod) (k130 : Nat) (k131 : Nat) (h : spec_anyTree n x1 k2 i3 = some (i128, x129, k130, k131)) : FOk EE 36 [pA 0 0] [.cells [.sl 1 0 k2, cI i3], uR x1] (.one (.e (.sl 2 k130 k131))) [.cells [.sl 1 0 k2, cI i128], uR x1, nO x129] := by
  unfold spec_anyTree at h
  refine FOk_of_W 54 2 Tryz.func36 rfl rfl (Nat.le_of_ble_eq_true rfl) rfl (fun w X θ => ?_)
  refine Wsr ((Ws 1 [0, 1] [0] ⟨[(0, pA 0 0)], [.cells [.sl 1 0 k2, cI i3], uR x1]⟩ (Wnt ((W_seq (W_region ?_))))))
  refine Ws 1 [0, 1] [0, 5] ⟨[(0, pA 0 0), (5, pA 0 0)], [.cells [.sl 1 0 k2, cI i3], uR x1]⟩ (bindO_e h (fun v418 hc134 h => ?_))
  obtain ⟨i132, x133⟩ := v418
  refine Wc [.own 0, .ro 1] rfl rfl rfl Tryz.func64 rfl (spec_someTree_ok n x1 k2 i3 i132 x133 hc134) (aI (trivial) (aI (aI rfl rfl) (trivial))) rfl (Ws 1 [0, 1, 2] [0, 3] ⟨[(0, pA 0 0), (3, sF 2 x133)], [.cells [.sl 1 0 k2, cI i132], uR x1, nO x133]⟩ (Wnt ((Wsr ((Wp 3 [0, 1, 2] [0, 3, 7, 9] T2 ⟨[(0, pA 0 0), (3, sF 2 x133), (7, pA 0 0), (9, I (lI x133))], [.cells [.sl 1 0 k2, cI i132], uR x1, nO x133]⟩ t2 ?_))))))
  refine bindO_e h (fun i135 hc136 h => (Wc [.own 0, .ro 1] rfl rfl rfl Tryz.func25 rfl (spec_reader_pick_ok x1 k2 i132 (lI x133) i135 hc136) (aI (trivial) (aI (aI rfl rfl) (trivial))) rfl (Ws 1 [0, 1, 2] [0, 3, 4] ⟨[(0, pA 0 0), (3, sF 2 x133), (4, I i135)], [.cells [.sl 1 0 k2, cI (w64 (i132 + 1))], uR x1, nO x133]⟩ (Wnt ((W_seq (W_seq ?_)))))))
  refine W_region (Ws 1 [0, 1, 2] [0, 3, 4, 11] ⟨[(0, pA 0 0), (3, sF 2 x133), (4, I i135), (11, pA 0 0)], [.cells [.sl 1 0 k2, cI (w64 (i132 + 1))], uR x1, nO x133]⟩ (bindO_e h (fun i137 hc138 h => (Wc [.own 0, .ro 1] rfl rfl rfl Tryz.func25 rfl (spec_reader_pick_ok x1 k2 (w64 (i132 + 1)) 30 i137 hc138) (aI (trivial) (aI (aI rfl rfl) (trivial))) rfl (Wb [0, 1, 2] [0, 3, 4, 12] ⟨[(0, pA 0 0), (3, sF 2 x133), (4, I i135), (12, I i137)], [.cells [.sl 1 0 k2, cI (w64 ((w64 (i132 + 1)) + 1))], uR x1, nO x133]⟩ (Wnt (?_)))))))
  refine W_block (Wsr ((Wp 2 [0, 1, 2] [0, 3, 4, 12, 13] T2 ⟨[(0, pA 0 0), (3, sF 2 x133), (4, I i135), (12, I i137), (13, B (decide (i137 = 0)))], [.cells [.sl 1 0 k2, cI (w64 ((w64 (i132 + 1)) + 1))], uR x1, nO x133]⟩ t2 (Wnt ((bindO_e h (fun v250 hv250 h => ?_)))))))
  refine W_cut (Q' := fun (e : Exit) (s : St) => (match v250 with | (i246, x247, k248, k249) => e = .normal ∧ s = ⟨[(3, .one (.e (.sl 2 k248 k249)))], [.cells [.sl 1 0 k2, cI i246], uR x1, nO x247]⟩ : Prop)) ?_ ?_
  ·refine iteO_e hv250 (fun hb251 hv250 => W_true rfl hb251 ?_) (fun hb251 hv250 => W_false rfl hb251 ?_)
   ·refine W_region (Ws 3 [0, 1, 2] [3, 15, 16, 17] ⟨[(3, sF 2 x133), (15, sF 2 x133), (16, I i135), (17, pA 0 0)], [.cells [.sl 1 0 k2, cI (w64 ((w64 (i132 + 1)) + 1))], uR x1, nO x133]⟩ (bindO_e hv250 (fun i252 hc253 hv250 => (Wc [.own 0, .ro 1] rfl rfl rfl Tryz.func25 rfl (spec_reader_pick_ok x1 k2 (w64 ((w64 (i132 + 1)) + 1)) 6 i252 hc253) (aI (trivial) (aI (aI rfl rfl) (trivial))) rfl (guardO_e hv250 (fun hg254 hv250 => (Wp 4 [0, 1, 2] [3] (True ∧ ((0 ≤ i135 ∧ i135 < (lI x133)) ∧ T2)) ⟨[(3, sF 2 x133)], [.cells [.sl 1 0 k2, cI (w64 ((w64 ((w64 (i132 + 1)) + 1)) + 1))], uR x1, .row .nod (x133.set i135.toNat (⟨(w64 (i252 - 1)), (x133.getD i135.toNat dnod).name, (x133.getD i135.toNat dnod).value⟩ : Nod)) true]⟩ ⟨trivial, hg254, trivial, trivial⟩ (WO_eq (st' := ⟨[(3, .one (.e (.sl 2 0 ((x133.set i135.toNat (⟨(w64 (i252 - 1)), (x133.getD i135.toNat dnod).name, (x133.getD i135.toNat dnod).value⟩ : Nod)).length))))], [.cells [.sl 1 0 k2, cI (w64 ((w64 ((w64 (i132 + 1)) + 1)) + 1))], uR x1, .row .nod (x133.set i135.toNat (⟨(w64 (i252 - 1)), (x133.getD i135.toNat dnod).name, (x133.getD i135.toNat dnod).value⟩ : Nod)) true]⟩) (by simp only [sF, List.length_set]) (WO_nil rfl ?_)))))))))
    cases hv250
    exact aI rfl rfl
   ·refine Wsr ((Wp 2 [0, 1, 2] [0, 3, 4, 12, 22] T2 ⟨[(0, pA 0 0), (3, sF 2 x133), (4, I i135), (12, I i137), (22, B (decide (i137 = 1)))], [.cells [.sl 1 0 k2, cI (w64 ((w64 (i132 + 1)) + 1))], uR x1, nO x133]⟩ t2 (Wnt ((bindO_e hv250 (fun v301 hv301 hv250 => (W_cut (Q' := fun (e : Exit) (s : St) => (match v301 with | (i297, x298, k299, k300) => e = .normal ∧ s = ⟨[(3, .one (.e (.sl 2 k299 k300)))], [.cells [.sl 1 0 k2, cI i297], uR x1, nO x298]⟩ : Prop)) ?_ ?_)))))))
    ·refine iteO_e hv301 (fun hb302 hv301 => W_true rfl hb302 ?_) (fun hb302 hv301 => W_false rfl hb302 ?_)
     ·refine W_region (Ws 4 [0, 1, 2, 3] [3, 24, 25, 26, 27] ⟨[(3, sF 2 x133), (24, sF 2 x133), (25, I i135), (26, pA 0 0), (27, SL 3 0 ([[], [65], [97, 98, 99, 100, 101], [97]].length))], [.cells [.sl 1 0 k2, cI (w64 ((w64 (i132 + 1)) + 1))], uR x1, nO x133, .row .str [[], [65], [97, 98, 99, 100, 101], [97]] true]⟩ (bindO_e hv301 (fun v307 hc305 hv301 => ?_)))
      obtain ⟨i303, s304⟩ := v307
      refine Wc [.own 0, .ro 1, .ro 3] rfl rfl rfl Tryz.func26 rfl (spec_reader_of_ok x1 k2 (w64 ((w64 (i132 + 1)) + 1)) [[], [65], [97, 98, 99, 100, 101], [97]] i303 s304 hc305) (aI (trivial) (aI (aI rfl rfl) (aI (aI rfl rfl) (trivial)))) rfl (guardO_e hv301 (fun hg306 hv301 => (Wp 3 [0, 1, 2] [3] ((0 ≤ i135 ∧ i135 < (lI x133)) ∧ T2) ⟨[(3, sF 2 x133)], [.cells [.sl 1 0 k2, cI i303], uR x1, .row .nod (x133.set i135.toNat (⟨(x133.getD i135.toNat dnod).parent, s304, (x133.getD i135.toNat dnod).value⟩ : Nod)) true]⟩ ⟨hg306, trivial, trivial⟩ (WO_eq (st' := ⟨[(3, .one (.e (.sl 2 0 ((x133.set i135.toNat (⟨(x133.getD i135.toNat dnod).parent, s304, (x133.getD i135.toNat dnod).value⟩ : Nod)).length))))], [.cells [.sl 1 0 k2, cI i303], uR x1, .row .nod (x133.set i135.toNat (⟨(x133.getD i135.toNat dnod).parent, s304, (x133.getD i135.toNat dnod).value⟩ : Nod)) true]⟩) (by simp only [sF, List.length_set]) (WO_nil rfl ?_)))))
      cases hv301
      exact aI rfl rfl
     ·refine Wsr ((Wp 2 [0, 1, 2] [0, 3, 4, 12, 31] T2 ⟨[(0, pA 0 0), (3, sF 2 x133), (4, I i135), (12, I i137), (31, B (decide (i137 = 2)))], [.cells [.sl 1 0 k2, cI (w64 ((w64 (i132 + 1)) + 1))], uR x1, nO x133]⟩ t2 (Wnt ((bindO_e hv301 (fun v343 hv343 hv301 => (W_cut (Q' := fun (e : Exit) (s : St) => (match v343 with | (i339, x340, k341, k342) => e = .normal ∧ s = ⟨[(3, .one (.e (.sl 2 k341 k342)))], [.cells [.sl 1 0 k2, cI i339], uR x1, nO x340]⟩ : Prop)) ?_ ?_)))))))
      ·refine iteO_e hv343 (fun hb344 hv343 => W_true rfl hb344 ?_) (fun hb344 hv343 => W_false rfl hb344 ?_)
       ·refine W_region (Ws 4 [0, 1, 2, 3] [3, 33, 34, 35, 36] ⟨[(3, sF 2 x133), (33, sF 2 x133), (34, I i135), (35, pA 0 0), (36, .one (.e (.sl 3 0 ([1001, (-1001)].length))))], [.cells [.sl 1 0 k2, cI (w64 ((w64 (i132 + 1)) + 1))], uR x1, nO x133, .row .int [1001, (-1001)] true]⟩ (bindO_e hv343 (fun v349 hc347 hv343 => ?_)))
        obtain ⟨i345, i346⟩ := v349
        refine Wc [.own 0, .ro 1, .ro 3] rfl rfl rfl Tryz.func23 rfl (spec_reader_one_ok x1 k2 (w64 ((w64 (i132 + 1)) + 1)) [1001, (-1001)] i345 i346 hc347) (aI (trivial) (aI (aI rfl rfl) (aI (aI rfl rfl) (trivial)))) rfl (guardO_e hv343 (fun hg348 hv343 => (Wp 3 [0, 1, 2] [3] ((0 ≤ i135 ∧ i135 < (lI x133)) ∧ T2) ⟨[(3, sF 2 x133)], [.cells [.sl 1 0 k2, cI i345], uR x1, .row .nod (x133.set i135.toNat (⟨(x133.getD i135.toNat dnod).parent, (x133.getD i135.toNat dnod).name, i346⟩ : Nod)) true]⟩ ⟨hg348, trivial, trivial⟩ (WO_eq (st' := ⟨[(3, .one (.e (.sl 2 0 ((x133.set i135.toNat (⟨(x133.getD i135.toNat dnod).parent, (x133.getD i135.toNat dnod).name, i346⟩ : Nod)).length))))], [.cells [.sl 1 0 k2, cI i345], uR x1, .row .nod (x133.set i135.toNat (⟨(x133.getD i135.toNat dnod).parent, (x133.getD i135.toNat dnod).name, i346⟩ : Nod)) true]⟩) (by simp only [sF, List.length_set]) (WO_nil rfl ?_)))))
        cases hv343
        exact aI rfl rfl
       ·refine Wsr ((Wp 2 [0, 1, 2] [3, 12, 40] T2 ⟨[(3, sF 2 x133), (12, I i137), (40, B (decide (i137 = 3)))], [.cells [.sl 1 0 k2, cI (w64 ((w64 (i132 + 1)) + 1))], uR x1, nO x133]⟩ t2 (Wnt ((bindO_e hv343 (fun v374 hv374 hv343 => (W_cut (Q' := fun (e : Exit) (s : St) => (match v374 with | (x371, k372, k373) => e = .normal ∧ s = ⟨[(3, .one (.e (.sl 2 k372 k373)))], [.cells [.sl 1 0 k2, cI (w64 ((w64 (i132 + 1)) + 1))], uR x1, nO x371]⟩ : Prop)) ?_ ?_)))))))
        ·refine iteO_e hv374 (fun hb375 hv374 => W_true rfl hb375 ?_) (fun hb375 hv374 => W_false rfl hb375 ?_)
         ·refine W_region (guardO_e hv374 (fun hg376 hv374 => (Wp 3 [0, 1, 2] [3] ((0 ≤ (1 : Int) ∧ (1 : Int) ≤ (lI x133)) ∧ True) ⟨[(3, SL 2 1 (x133.length - 1))], [.cells [.sl 1 0 k2, cI (w64 ((w64 (i132 + 1)) + 1))], uR x1, nO x133]⟩ ⟨hg376, trivial⟩ (WO_nil rfl ?_))))
          cases hv374
          exact aI rfl rfl
         ·refine Wsr ((Wp 2 [0, 1, 2] [3, 44] T2 ⟨[(3, sF 2 x133), (44, B (decide (i137 = 4)))], [.cells [.sl 1 0 k2, cI (w64 ((w64 (i132 + 1)) + 1))], uR x1, nO x133]⟩ t2 (Wnt ((bindO_e hv374 (fun x394 hx394 hv374 => (W_cut (Q' := fun (e : Exit) (s : St) => e = .normal ∧ s = ⟨[(3, sF 2 x394)], [.cells [.sl 1 0 k2, cI (w64 ((w64 (i132 + 1)) + 1))], uR x1, nO x394]⟩) ?_ ?_)))))))
          ·refine iteO_e hx394 (fun hb396 hx394 => W_true rfl hb396 ?_) (fun hb396 hx394 => W_false rfl hb396 ?_)
           ·refine W_block (Ww [0, 1, 2] [3] ⟨[(3, sF 2 x133)], [.cells [.sl 1 0 k2, cI (w64 ((w64 (i132 + 1)) + 1))], uR x1, nO x133]⟩ (W_loop (bindO_e hx394 (fun x411 hx411 hx394 => (WL_cut (spec_anyTree_L1_ok w X θ k2 i132 x1 x411 n x133 hx411) ?_)))))
            rintro _ _ ⟨rfl, rfl⟩
            refine blockS_y ?_
            cases hx394
            exact aI rfl rfl
           ·refine Ww [0, 1, 2] [3] ⟨[(3, sF 2 x133)], [.cells [.sl 1 0 k2, cI (w64 ((w64 (i132 + 1)) + 1))], uR x1, nO x133]⟩ (W_skip ?_)
            cases hx394
            exact aI rfl rfl
          ·rintro _ _ ⟨rfl, rfl⟩
           cases hv374
           exact aI rfl rfl
        ·obtain ⟨x371, k372, k373⟩ := v374
         rintro _ _ ⟨rfl, rfl⟩
         cases hv343
         exact aI rfl rfl
      ·obtain ⟨i339, x340, k341, k342⟩ := v343
       rintro _ _ ⟨rfl, rfl⟩
       cases hv301
       exact aI rfl rfl
    ·obtain ⟨i297, x298, k299, k300⟩ := v301
     rintro _ _ ⟨rfl, rfl⟩
     cases hv250
     exact aI rfl rfl
  ·obtain ⟨i246, x247, k248, k249⟩ := v250
   rintro _ _ ⟨rfl, rfl⟩
   refine blockS_n (thenS_n (Wsr ((Ws 2 [0, 1, 2] [2] ⟨[(2, .one (.e (.sl 2 k248 k249)))], [.cells [.sl 1 0 k2, cI i246], uR x1, nO x247]⟩ (Wnt ((W_ret ?_)))))))
   cases h
   exact ⟨[0, 1, 2], True, by kernel_rfl, trivial⟩

/- spec.pathTo -/
def spec_pathTo_L1 (x1 : List Nod) : Nat → (List Int) → Int → Option ((List Int))
| 0, _, _ => none
| n + 1, x46, i47 =>
 iteO (decide (0 < i47))
 (guardO (0 ≤ i47 ∧ i47 < ((x1.length : Nat) : Int)) <|
 guardO (0 = 0 ∧ [(x1.getD i47.toNat dnod).parent].length = [(x1.getD i47.toNat dnod).parent].length ∧ [(x1.getD i47.toNat dnod).parent].length + ((x46.drop 0).take x46.length).length ≤ 1099511627776) <|
 spec_pathTo_L1 x1 n ([(x1.getD i47.toNat dnod).parent] ++ ((x46.drop 0).take x46.length)) ((x1.getD i47.toNat dnod).parent))
 (some x46)

theorem spec_pathTo_L1_ok (w : World) (X : Nat → Prop) (θ : List Loc) (x1 : List Nod) (x56 : (List Int)) : ∀ (n : Nat) (x46 : List Int) (i47 : Int), spec_pathTo_L1 x1 n x46 i47 = some x56 → WL EE ⟨w, X, θ, 20, 1⟩ (subC [1, 1, 0, 4, 4] (bodyC Tryz.f107)) (fun (e : Exit) (s : St) => e = .exit 0 ∧ s = ⟨[(5, sF 1 x56)], [nR x1, iO x56]⟩) ⟨[(0, sF 0 x1), (1, I i47), (5, sF 1 x46)], [nR x1, iO x46]⟩ := by
  intro n
  induction n with
  | zero => intro _ _ h; exact none_e h
  | succ n ih =>
    intro x46 i47 h
    rw [spec_pathTo_L1] at h
    refine WL_round ?_
    refine W_seq (Wsr ((Wp 2 [0, 1] [0, 1, 5, 9] T2 ⟨[(0, sF 0 x1), (1, I i47), (5, sF 1 x46), (9, B (decide (0 < i47)))], [nR x1, iO x46]⟩ t2 (Wnt ((iteO_e h (fun hb59 h => W_true rfl hb59 ?_) (fun hb59 h => W_false rfl hb59 ?_)))))))
    ·refine Ww [0, 1] [0, 1, 5] ⟨[(0, sF 0 x1), (1, I i47), (5, sF 1 x46)], [nR x1, iO x46]⟩ (W_skip (thenS_n (W_block (Wsr ((guardO_e h (fun hg62 h => (Wp 6 [0, 1] [0, 1, 5] ((0 ≤ i47 ∧ i47 < (lI x1)) ∧ T2) ⟨[(0, sF 0 x1), (1, I ((x1.getD i47.toNat dnod).parent)), (5, sF 1 x46)], [nR x1, iO x46]⟩ ⟨hg62, trivial, trivial⟩ (Wnt ((W_region (guardO_e h (fun hg63 h => (Wp 5 [0, 3] [0, 1, 5] ((0 = 0 ∧ [(x1.getD i47.toNat dnod).parent].length = [(x1.getD i47.toNat dnod).parent].length ∧ [(x1.getD i47.toNat dnod).parent].length + ((x46.drop 0).take x46.length).length ≤ 1099511627776) ∧ True) ⟨[(0, sF 0 x1), (1, I ((x1.getD i47.toNat dnod).parent)), (5, .one (.e (.sl 1 0 (([(x1.getD i47.toNat dnod).parent] ++ ((x46.drop 0).take x46.length)).length))))], [nR x1, .row .int ([(x1.getD i47.toNat dnod).parent] ++ ((x46.drop 0).take x46.length)) true]⟩ ⟨hg63, trivial⟩ (WO_nil rfl (blockS_n (thenS_n ?_)))))))))))))))))
     exact ih _ _ h
    ·refine Ww [0, 1] [5] ⟨[(5, sF 1 x46)], [nR x1, iO x46]⟩ (W_exit (thenS_e (thenS_e ?_)))
     cases h
     exact aI rfl rfl

def spec_pathTo (n : Nat) (x1 : List Nod) (i2 : Int) : Option ((List Int)) :=
 bindO (spec_pathTo_L1 x1 n [i2] i2) fun x56 =>
 some x56

theorem spec_pathTo_ok (n : Nat) (x1 : List Nod) (i2 : Int) (x33 : List Int) (h : spec_pathTo n x1 i2 = some x33) : FOk EE 107 [sF 0 x1, I i2] [nR x1] (sF 1 x33) [nR x1, iO x33] := by
  unfold spec_pathTo at h
  refine FOk_of_W 20 1 Tryz.func107 rfl rfl (Nat.le_of_ble_eq_true rfl) rfl (fun w X θ => ?_)
  refine Wsr ((Ws 1 [0] [0, 1] ⟨[(0, sF 0 x1), (1, I i2)], [nR x1]⟩ (Wnt ((W_seq (W_region ?_))))))
  refine Ws 3 [0, 1] [0, 1, 5] ⟨[(0, sF 0 x1), (1, I i2), (5, SL 1 0 ([i2].length))], [nR x1, .row .int [i2] true]⟩ (Wnt ((W_seq (W_block (W_loop (bindO_e h (fun x56 hx56 h => ?_)))))))
  refine WL_cut (spec_pathTo_L1_ok w X θ x1 x56 n [i2] i2 hx56) ?_
  rintro _ _ ⟨rfl, rfl⟩
  refine blockS_y (thenS_n (Wsr ((Ws 2 [0, 1] [4] ⟨[(4, sF 1 x56)], [nR x1, iO x56]⟩ (Wnt (?_))))))
  refine W_ret ?_
  cases h
  exact ⟨[0, 1], True, by kernel_rfl, trivial⟩

/- spec.pathText -/
def spec_pathText_L1 (x1 : List Nod) (i2 : Int) (x48 : List Int) : Nat → Str → Int → Option (Str)
| 0, _, _ => none
| n + 1, s66, i67 =>
 iteO (decide (i67 < ((x48.length : Nat) : Int)))
 (guardO (s66.length + [47].length ≤ 1099511627776) <|
 guardO (0 ≤ i67 ∧ i67 < ((x48.length : Nat) : Int)) <|
 guardO (0 ≤ (x48.getD i67.toNat 0) ∧ (x48.getD i67.toNat 0) < ((x1.length : Nat) : Int)) <|
 guardO ((s66 ++ [47]).length + ((x1.getD ((x48.getD i67.toNat 0).toNat) dnod).name).length ≤ 1099511627776) <|
 spec_pathText_L1 x1 i2 x48 n ((s66 ++ [47]) ++ ((x1.getD ((x48.getD i67.toNat 0).toNat) dnod).name)) (w64 (i67 + 1)))
 (some s66)

theorem spec_pathText_L1_ok (w : World) (X : Nat → Prop) (θ : List Loc) (x1 : List Nod) (i2 : Int) (x48 : List Int) (s80 : Str) : ∀ (n : Nat) (s66 : Str) (i67 : Int), spec_pathText_L1 x1 i2 x48 n s66 i67 = some s80 → WL EE ⟨w, X, θ, 31, 1⟩ (subC [1, 1, 1, 0, 1, 4, 4] (bodyC Tryz.f72)) (fun (e : Exit) (s : St) => e = .exit 0 ∧ s = ⟨[(1, I i2), (5, S s80)], [nR x1]⟩) ⟨[(0, sF 0 x1), (1, I i2), (5, S s66), (6, sF 1 x48), (7, I i67)], [nR x1, iO x48]⟩ := by
  intro n
  induction n with
  | zero => intro _ _ h; exact none_e h
  | succ n ih =>
    intro s66 i67 h
    rw [spec_pathText_L1] at h
    refine WL_round ?_
    refine W_seq (Wsr ((Wp 4 [0, 1] [0, 1, 5, 6, 7, 14] T3 ⟨[(0, sF 0 x1), (1, I i2), (5, S s66), (6, sF 1 x48), (7, I i67), (14, B (decide (i67 < (lI x48))))], [nR x1, iO x48]⟩ t3 (Wnt ((iteO_e h (fun hb83 h => W_true rfl hb83 ?_) (fun hb83 h => W_false rfl hb83 ?_)))))))
    ·refine Ww [0, 1] [0, 1, 5, 6, 7] ⟨[(0, sF 0 x1), (1, I i2), (5, S s66), (6, sF 1 x48), (7, I i67)], [nR x1, iO x48]⟩ (W_skip (thenS_n (W_seq (W_block (W_region (guardO_e h (fun hg88 h => (guardO_e h (fun hg89 h => (guardO_e h (fun hg90 h => (guardO_e h (fun hg91 h => (Wp 12 [0, 1] [0, 1, 5, 6, 7] ((s66.length + [47].length ≤ 1099511627776) ∧ ((0 ≤ i67 ∧ i67 < (lI x48)) ∧ (True ∧ ((0 ≤ (x48.getD i67.toNat 0) ∧ (x48.getD i67.toNat 0) < (lI x1)) ∧ (True ∧ (((s66 ++ [47]).length + ((x1.getD ((x48.getD i67.toNat 0).toNat) dnod).name).length ≤ 1099511627776) ∧ True)))))) ⟨[(0, sF 0 x1), (1, I i2), (5, S ((s66 ++ [47]) ++ ((x1.getD ((x48.getD i67.toNat 0).toNat) dnod).name))), (6, sF 1 x48), (7, I i67)], [nR x1, iO x48]⟩ ⟨hg88, hg89, trivial, hg90, trivial, hg91, trivial⟩ (WO_nil rfl (blockS_n (thenS_n (W_region (Wp 3 [0, 1] [0, 1, 5, 6, 7] T2 ⟨[(0, sF 0 x1), (1, I i2), (5, S ((s66 ++ [47]) ++ ((x1.getD ((x48.getD i67.toNat 0).toNat) dnod).name))), (6, sF 1 x48), (7, I (w64 (i67 + 1)))], [nR x1, iO x48]⟩ t2 (Wnt (?_)))))))))))))))))))))
     exact ih _ _ h
    ·refine Ww [0] [1, 5] ⟨[(1, I i2), (5, S s66)], [nR x1]⟩ (W_exit (thenS_e (thenS_e ?_)))
     cases h
     exact aI rfl rfl

def spec_pathText (n : Nat) (x1 : List Nod) (i2 : Int) : Option (Str) :=
 bindO (spec_pathTo n x1 i2) fun x48 =>
 bindO (spec_pathText_L1 x1 i2 x48 n [] 1) fun s80 =>
 iteO (decide (i2 = 0))
 (some [47])
 (some s80)

theorem spec_pathText_ok (n : Nat) (x1 : List Nod) (i2 : Int) (s47 : Str) (h : spec_pathText n x1 i2 = some s47) : FOk EE 72 [sF 0 x1, I i2] [nR x1] (S s47) [nR x1] := by
  unfold spec_pathText at h
  refine FOk_of_W 31 1 Tryz.func72 rfl rfl (Nat.le_of_ble_eq_true rfl) rfl (fun w X θ => ?_)
  refine Wsr ((Ws 1 [0] [0, 1] ⟨[(0, sF 0 x1), (1, I i2)], [nR x1]⟩ (Wnt ((W_seq (W_region ?_))))))
  refine Ws 1 [0] [0, 1, 5] ⟨[(0, sF 0 x1), (1, I i2), (5, S [])], [nR x1]⟩ (Wnt ((Wsr ((Ws 2 [0] [0, 1, 5, 8, 9] ⟨[(0, sF 0 x1), (1, I i2), (5, S []), (8, sF 0 x1), (9, I i2)], [nR x1]⟩ (bindO_e h (fun x48 hc49 h => ?_)))))))
  refine Wc [.ro 0] rfl rfl rfl Tryz.func107 rfl (spec_pathTo_ok n x1 i2 x48 hc49) (aI (aI rfl rfl) (trivial)) rfl (Ws 1 [0, 1] [0, 1, 5, 6] ⟨[(0, sF 0 x1), (1, I i2), (5, S []), (6, sF 1 x48)], [nR x1, iO x48]⟩ (Wnt ((W_seq (W_seq (W_region ?_))))))
  refine Ws 1 [0, 1] [0, 1, 5, 6, 7] ⟨[(0, sF 0 x1), (1, I i2), (5, S []), (6, sF 1 x48), (7, I 1)], [nR x1, iO x48]⟩ (Wnt ((W_block (W_loop (bindO_e h (fun s80 hs80 h => (WL_cut (spec_pathText_L1_ok w X θ x1 i2 x48 s80 n [] 1 hs80) ?_)))))))
  rintro _ _ ⟨rfl, rfl⟩
  refine blockS_y (thenS_n (W_seq (Wsr ((Wp 2 [0] [5, 29] T2 ⟨[(5, S s80), (29, B (decide (i2 = 0)))], [nR x1]⟩ t2 (WO_nil rfl ?_))))))
  refine thenS_n (iteO_e h (fun hb94 h => W_true rfl hb94 ?_) (fun hb94 h => W_false rfl hb94 ?_))
  ·refine Wsr ((Ws 1 [0] [4] ⟨[(4, S [47])], [nR x1]⟩ (Wnt ((W_ret (thenS_r ?_))))))
   cases h
   exact ⟨[0], True, by kernel_rfl, trivial⟩
  ·refine Ww [0] [5] ⟨[(5, S s80)], [nR x1]⟩ (W_skip (thenS_n (Wsr ((Ws 2 [0] [4] ⟨[(4, S s80)], [nR x1]⟩ (Wnt ((W_ret ?_))))))))
   cases h
   exact ⟨[0], True, by kernel_rfl, trivial⟩

/- spec.decimal -/
def spec_decimal_B (rec : Int → Option (Str)) (i1 : Int) : Option (Str) :=
 iteO ((decide (i1 < 0)) && (decide (i1 = (w64 (0 - i1)))))
 (some [45, 57, 50, 50, 51, 51, 55, 50, 48, 51, 54, 56, 53, 52, 55, 55, 53, 56, 48, 56])
 (iteO (decide (i1 < 0))
 (bindO (rec (w64 (0 - i1))) fun s32 =>
 guardO ([45].length + s32.length ≤ 1099511627776) <|
 some ([45] ++ s32))
 (iteO (decide (i1 < 10))
 (some (bytesOf (([(IntKind.u8.wrap (w64 (48 + i1)))].drop 0).take ([(IntKind.u8.wrap (w64 (48 + i1)))].length))))
 (bindO (rec (w64 (i1.tdiv 10))) fun s37 =>
 guardO (s37.length + (bytesOf (([(IntKind.u8.wrap (w64 (48 + (i1.tmod 10))))].drop 0).take ([(IntKind.u8.wrap (w64 (48 + (i1.tmod 10))))].length))).length ≤ 1099511627776) <|
 some (s37 ++ (bytesOf (([(IntKind.u8.wrap (w64 (48 + (i1.tmod 10))))].drop 0).take ([(IntKind.u8.wrap (w64 (48 + (i1.tmod 10))))].length)))))))

theorem spec_decimal_B_ok (rec : Int → Option (Str)) (hrec : ∀ (i1 : Int) (s2 : Str), rec i1 = some s2 → FOk EE 24 [I i1] [] (S s2) []) (i1 : Int) (s21 : Str) (h : spec_decimal_B rec i1 = some s21) : FOk EE 24 [I i1] [] (S s21) [] := by
  unfold spec_decimal_B at h
  refine FOk_of_W 34 0 Tryz.func24 rfl rfl (Nat.le_of_ble_eq_true rfl) rfl (fun w X θ => ?_)
  refine Wsr ((Ws 1 [] [0] ⟨[(0, I i1)], []⟩ (Wnt ((W_seq (W_seq ?_))))))
  refine W_region (Wp 3 [] [0, 5] T2 ⟨[(0, I i1), (5, B (decide (i1 < 0)))], []⟩ t2 (WO_thru ⟨[(0, I i1), (10, B ((decide (i1 < 0)) && (decide (i1 = (w64 (0 - i1))))))], []⟩ ?_ ?_))
  ·refine WO_if 5 rfl (fun hb24 => ?_) (fun hb24 => ?_)
   ·refine Wp 5 [] [0, 10] T2 ⟨[(0, I i1), (10, B (decide (i1 = (w64 (0 - i1)))))], []⟩ t2 ?_
    exact WO_nil rfl ⟨rfl, by first | rfl | (rw [hb24]; first | done | rfl)⟩
   ·refine Ws 5 [] [0, 10] ⟨[(0, I i1), (10, B false)], []⟩ ?_
    exact WO_nil rfl ⟨rfl, by first | rfl | (rw [hb24]; first | done | rfl)⟩
  ·refine thenS_n (iteO_e h (fun hb26 h => W_true rfl hb26 ?_) (fun hb26 h => W_false rfl hb26 ?_))
   ·refine Wsr ((Ws 1 [] [2] ⟨[(2, S [45, 57, 50, 50, 51, 51, 55, 50, 48, 51, 54, 56, 53, 52, 55, 55, 53, 56, 48, 56])], []⟩ (Wnt ((W_ret (thenS_r ?_))))))
    cases h
    exact ⟨[], True, by kernel_rfl, trivial⟩
   ·refine Ww [] [0] ⟨[(0, I i1)], []⟩ (W_skip (thenS_n (W_seq (Wsr ((Wp 2 [] [0, 12] T2 ⟨[(0, I i1), (12, B (decide (i1 < 0)))], []⟩ t2 (Wnt ((iteO_e h (fun hb31 h => W_true rfl hb31 ?_) (fun hb31 h => W_false rfl hb31 ?_))))))))))
    ·refine Wsr ((Ws 2 [] [14] ⟨[(14, I (w64 (0 - i1)))], []⟩ (bindO_e h (fun s32 hc33 h => (Wc [] rfl rfl rfl Tryz.func24 rfl (hrec (w64 (0 - i1)) s32 hc33) (trivial) rfl (guardO_e h (fun hg34 h => (Wp 2 [] [2] (([45].length + s32.length ≤ 1099511627776) ∧ True) ⟨[(2, S ([45] ++ s32))], []⟩ ⟨hg34, trivial⟩ (Wnt ((W_ret (thenS_r ?_))))))))))))
     cases h
     exact ⟨[], True, by kernel_rfl, trivial⟩
    ·refine Ww [] [0] ⟨[(0, I i1)], []⟩ (W_skip (thenS_n (W_seq (Wsr ((Wp 2 [] [0, 18] T2 ⟨[(0, I i1), (18, B (decide (i1 < 10)))], []⟩ t2 (Wnt ((iteO_e h (fun hb36 h => W_true rfl hb36 ?_) (fun hb36 h => W_false rfl hb36 ?_))))))))))
     ·refine Wsr ((Wp 6 [] [2] T4 ⟨[(2, S (bytesOf (([(IntKind.u8.wrap (w64 (48 + i1)))].drop 0).take ([(IntKind.u8.wrap (w64 (48 + i1)))].length))))], []⟩ t4 (Wnt ((W_ret (thenS_r ?_))))))
      cases h
      exact ⟨[], True, by kernel_rfl, trivial⟩
     ·refine Ww [] [0] ⟨[(0, I i1)], []⟩ (W_skip (thenS_n (W_seq (bindO_e h (fun s37 hc38 h => (guardO_e h (fun hg39 h => (W_cut (Q' := fun (e : Exit) (s : St) => e = .normal ∧ s = ⟨[(2, S (s37 ++ (bytesOf (([(IntKind.u8.wrap (w64 (48 + (i1.tmod 10))))].drop 0).take ([(IntKind.u8.wrap (w64 (48 + (i1.tmod 10))))].length)))))], []⟩) ?_ ?_))))))))
      ·refine W_draw [] false (by kernel_rfl) (by kernel_rfl) (WD_takeQ [0, 1, 3, 4, 5, 6] [25, 30] [25, 30] (φ := (((10 : Int) ≠ 0) ∧ ((10 : Int) ≠ 0) ∧ (((10 : Int) ≠ 0) ∧ ((10 : Int) ≠ 0) ∧ (True ∧ True ∧ (True ∧ True ∧ True))))) (ls' := (tf true [2, 1, 4, 4])) (st' := ⟨[(25, I (w64 (i1.tdiv 10))), (30, U (IntKind.u8.wrap (w64 (48 + (i1.tmod 10)))))], []⟩) (n2 := 5) (by kernel_rfl) ⟨(by decide), (by decide), (by decide), (by decide), trivial, trivial, trivial, trivial, trivial⟩ rfl (WD_all [2, 7] (n := 4) (by kernel_rfl) rfl (aI ?_ (?_))))
       ·refine WM_call [] Tryz.f24 rfl rfl (by kernel_rfl) Tryz.func24 rfl (by kernel_rfl) (hrec (w64 (i1.tdiv 10)) s37 hc38) (trivial) rfl (trivial) (WD_all [7] (n := 3) (by kernel_rfl) rfl (WM_op (φ := True) (v := .one (.e (.sl 0 0 ([(IntKind.u8.wrap (w64 (48 + (i1.tmod 10))))].length)))) (H' := [.row .u8 [(IntKind.u8.wrap (w64 (48 + (i1.tmod 10))))] true]) rfl rfl (by kernel_rfl) trivial rfl (trivial) (WD_all [8] (n := 2) (by kernel_rfl) rfl (WM_op (φ := True) (v := S (bytesOf (([(IntKind.u8.wrap (w64 (48 + (i1.tmod 10))))].drop 0).take ([(IntKind.u8.wrap (w64 (48 + (i1.tmod 10))))].length)))) (H' := [.row .u8 [(IntKind.u8.wrap (w64 (48 + (i1.tmod 10))))] true]) rfl rfl (by kernel_rfl) trivial rfl (trivial) (WD_takeQ [9, 10] [2] [2] (φ := ((s37.length + (bytesOf (([(IntKind.u8.wrap (w64 (48 + (i1.tmod 10))))].drop 0).take ([(IntKind.u8.wrap (w64 (48 + (i1.tmod 10))))].length))).length ≤ 1099511627776) ∧ (s37.length + (bytesOf (([(IntKind.u8.wrap (w64 (48 + (i1.tmod 10))))].drop 0).take ([(IntKind.u8.wrap (w64 (48 + (i1.tmod 10))))].length))).length ≤ 1099511627776) ∧ True)) (ls' := (tf true [11])) (st' := ⟨[(2, S (s37 ++ (bytesOf (([(IntKind.u8.wrap (w64 (48 + (i1.tmod 10))))].drop 0).take ([(IntKind.u8.wrap (w64 (48 + (i1.tmod 10))))].length)))))], [.row .u8 [(IntKind.u8.wrap (w64 (48 + (i1.tmod 10))))] true]⟩) (n2 := 0) (by kernel_rfl) ⟨hg39, hg39, trivial⟩ rfl ?_)))))
        exact WD_done [] [2] (st' := ⟨[(2, S (s37 ++ (bytesOf (([(IntKind.u8.wrap (w64 (48 + (i1.tmod 10))))].drop 0).take ([(IntKind.u8.wrap (w64 (48 + (i1.tmod 10))))].length)))))], []⟩) (by kernel_rfl) (by kernel_rfl) (aI rfl rfl)
       ·refine WM_op (φ := True) (v := .one (.e (.sl 0 0 ([(IntKind.u8.wrap (w64 (48 + (i1.tmod 10))))].length)))) (H' := [.row .u8 [(IntKind.u8.wrap (w64 (48 + (i1.tmod 10))))] true]) rfl rfl (by kernel_rfl) trivial rfl (trivial) (WD_all [2, 8] (n := 3) (by kernel_rfl) rfl (aI ?_ (?_)))
        ·refine WM_call [] Tryz.f24 rfl rfl (by kernel_rfl) Tryz.func24 rfl (by kernel_rfl) (hrec (w64 (i1.tdiv 10)) s37 hc38) (trivial) rfl (trivial) (WD_all [8] (n := 2) (by kernel_rfl) rfl (WM_op (φ := True) (v := S (bytesOf (([(IntKind.u8.wrap (w64 (48 + (i1.tmod 10))))].drop 0).take ([(IntKind.u8.wrap (w64 (48 + (i1.tmod 10))))].length)))) (H' := [.row .u8 [(IntKind.u8.wrap (w64 (48 + (i1.tmod 10))))] true]) rfl rfl (by kernel_rfl) trivial rfl (trivial) (WD_takeQ [9, 10] [2] [2] (φ := ((s37.length + (bytesOf (([(IntKind.u8.wrap (w64 (48 + (i1.tmod 10))))].drop 0).take ([(IntKind.u8.wrap (w64 (48 + (i1.tmod 10))))].length))).length ≤ 1099511627776) ∧ (s37.length + (bytesOf (([(IntKind.u8.wrap (w64 (48 + (i1.tmod 10))))].drop 0).take ([(IntKind.u8.wrap (w64 (48 + (i1.tmod 10))))].length))).length ≤ 1099511627776) ∧ True)) (ls' := (tf true [11])) (st' := ⟨[(2, S (s37 ++ (bytesOf (([(IntKind.u8.wrap (w64 (48 + (i1.tmod 10))))].drop 0).take ([(IntKind.u8.wrap (w64 (48 + (i1.tmod 10))))].length)))))], [.row .u8 [(IntKind.u8.wrap (w64 (48 + (i1.tmod 10))))] true]⟩) (n2 := 0) (by kernel_rfl) ⟨hg39, hg39, trivial⟩ rfl ?_)))
         exact WD_done [] [2] (st' := ⟨[(2, S (s37 ++ (bytesOf (([(IntKind.u8.wrap (w64 (48 + (i1.tmod 10))))].drop 0).take ([(IntKind.u8.wrap (w64 (48 + (i1.tmod 10))))].length)))))], []⟩) (by kernel_rfl) (by kernel_rfl) (aI rfl rfl)
        ·refine WM_op (φ := True) (v := S (bytesOf (([(IntKind.u8.wrap (w64 (48 + (i1.tmod 10))))].drop 0).take ([(IntKind.u8.wrap (w64 (48 + (i1.tmod 10))))].length)))) (H' := [.row .u8 [(IntKind.u8.wrap (w64 (48 + (i1.tmod 10))))] true]) rfl rfl (by kernel_rfl) trivial rfl (trivial) (WD_all [2] (n := 2) (by kernel_rfl) rfl (WM_call [] Tryz.f24 rfl rfl (by kernel_rfl) Tryz.func24 rfl (by kernel_rfl) (hrec (w64 (i1.tdiv 10)) s37 hc38) (trivial) rfl (trivial) (WD_takeQ [9, 10] [2] [2] (φ := ((s37.length + (bytesOf (([(IntKind.u8.wrap (w64 (48 + (i1.tmod 10))))].drop 0).take ([(IntKind.u8.wrap (w64 (48 + (i1.tmod 10))))].length))).length ≤ 1099511627776) ∧ (s37.length + (bytesOf (([(IntKind.u8.wrap (w64 (48 + (i1.tmod 10))))].drop 0).take ([(IntKind.u8.wrap (w64 (48 + (i1.tmod 10))))].length))).length ≤ 1099511627776) ∧ True)) (ls' := (tf true [11])) (st' := ⟨[(2, S (s37 ++ (bytesOf (([(IntKind.u8.wrap (w64 (48 + (i1.tmod 10))))].drop 0).take ([(IntKind.u8.wrap (w64 (48 + (i1.tmod 10))))].length)))))], [.row .u8 [(IntKind.u8.wrap (w64 (48 + (i1.tmod 10))))] true]⟩) (n2 := 0) (by kernel_rfl) ⟨hg39, hg39, trivial⟩ rfl ?_)))
         exact WD_done [] [2] (st' := ⟨[(2, S (s37 ++ (bytesOf (([(IntKind.u8.wrap (w64 (48 + (i1.tmod 10))))].drop 0).take ([(IntKind.u8.wrap (w64 (48 + (i1.tmod 10))))].length)))))], []⟩) (by kernel_rfl) (by kernel_rfl) (aI rfl rfl)
      ·rintro _ _ ⟨rfl, rfl⟩
       refine thenS_n (W_ret ?_)
       cases h
       exact ⟨[], True, by kernel_rfl, trivial⟩

def spec_decimal : Nat → Int → Option (Str)
| 0, _ => none
| n + 1, i1 => spec_decimal_B (spec_decimal n) i1

theorem spec_decimal_ok : ∀ (n : Nat) (i1 : Int) (s21 : Str), spec_decimal n i1 = some s21 → FOk EE 24 [I i1] [] (S s21) [] := by
  intro n
  induction n with
  | zero => intro _ _ h; exact none_e h
  | succ n ih => intro i1 s21 h; exact spec_decimal_B_ok (spec_decimal n) ih i1 s21 h

/- spec.formatTree -/
def spec_formatTree_L1 (x1 : List Nod) : Nat → Str → Int → Option (Str)
| 0, _, _ => none
| n + 1, s123, i124 =>
 iteO (decide (i124 < ((x1.length : Nat) : Int)))
 (bindO (iteO (decide (0 < i124))
 (guardO (s123.length + [59, 32].length ≤ 1099511627776) <|
 some (s123 ++ [59, 32]))
 (some s123)) fun s171 =>
 bindO (spec_pathText n x1 i124) fun s175 =>
 guardO (s171.length + s175.length ≤ 1099511627776) <|
 guardO ((s171 ++ s175).length + [32].length ≤ 1099511627776) <|
 guardO (0 ≤ i124 ∧ i124 < ((x1.length : Nat) : Int)) <|
 bindO (spec_decimal n ((x1.getD i124.toNat dnod).value)) fun s180 =>
 guardO (((s171 ++ s175) ++ [32]).length + s180.length ≤ 1099511627776) <|
 spec_formatTree_L1 x1 n (((s171 ++ s175) ++ [32]) ++ s180) (w64 (i124 + 1)))
 (some s123)

theorem spec_formatTree_L1_ok (w : World) (X : Nat → Prop) (θ : List Loc) (x1 : List Nod) (s153 : Str) : ∀ (n : Nat) (s123 : Str) (i124 : Int), spec_formatTree_L1 x1 n s123 i124 = some s153 → WL EE ⟨w, X, θ, 29, 1⟩ (subC [1, 1, 0, 1, 4, 4] (bodyC Tryz.f46)) (fun (e : Exit) (s : St) => e = .exit 0 ∧ s = ⟨[(3, S s153)], [nR x1]⟩) ⟨[(0, sF 0 x1), (3, S s123), (4, I i124)], [nR x1]⟩ := by
  intro n
  induction n with
  | zero => intro _ _ h; exact none_e h
  | succ n ih =>
    intro s123 i124 h
    rw [spec_formatTree_L1] at h
    refine WL_round ?_
    refine W_seq (Wsr ((Wp 4 [0] [0, 3, 4, 8] T3 ⟨[(0, sF 0 x1), (3, S s123), (4, I i124), (8, B (decide (i124 < (lI x1))))], [nR x1]⟩ t3 (Wnt ((iteO_e h (fun hb156 h => W_true rfl hb156 ?_) (fun hb156 h => W_false rfl hb156 ?_)))))))
    ·refine Ww [0] [0, 3, 4] ⟨[(0, sF 0 x1), (3, S s123), (4, I i124)], [nR x1]⟩ (W_skip (thenS_n (W_seq (W_block (W_seq (Wsr ((Wp 2 [0] [0, 3, 4, 12] T2 ⟨[(0, sF 0 x1), (3, S s123), (4, I i124), (12, B (decide (0 < i124)))], [nR x1]⟩ t2 (Wnt ((bindO_e h (fun s171 hs171 h => (W_cut (Q' := fun (e : Exit) (s : St) => e = .normal ∧ s = ⟨[(0, sF 0 x1), (3, S s171), (4, I i124)], [nR x1]⟩) ?_ ?_)))))))))))))
     ·refine iteO_e hs171 (fun hb173 hs171 => W_true rfl hb173 ?_) (fun hb173 hs171 => W_false rfl hb173 ?_)
      ·refine W_region (guardO_e hs171 (fun hg174 hs171 => (Wp 3 [0] [0, 3, 4] ((s123.length + [59, 32].length ≤ 1099511627776) ∧ True) ⟨[(0, sF 0 x1), (3, S (s123 ++ [59, 32])), (4, I i124)], [nR x1]⟩ ⟨hg174, trivial⟩ (WO_nil rfl ?_))))
       cases hs171
       exact aI rfl rfl
      ·refine Ww [0] [0, 3, 4] ⟨[(0, sF 0 x1), (3, S s123), (4, I i124)], [nR x1]⟩ (W_skip ?_)
       cases hs171
       exact aI rfl rfl
     ·rintro _ _ ⟨rfl, rfl⟩
      refine thenS_n (bindO_e h (fun s175 hc176 h => (guardO_e h (fun hg177 h => (guardO_e h (fun hg178 h => (guardO_e h (fun hg179 h => (bindO_e h (fun s180 hc181 h => (guardO_e h (fun hg182 h => (W_cut (Q' := fun (e : Exit) (s : St) => e = .normal ∧ s = ⟨[(0, sF 0 x1), (3, S (((s171 ++ s175) ++ [32]) ++ s180)), (4, I i124)], [nR x1]⟩) ?_ ?_)))))))))))))
      ·refine W_draw [] false (by kernel_rfl) (by kernel_rfl) (WD_takeQ [0, 1, 2, 6, 7, 8, 9, 10] [0, 3, 4, 15, 16, 17, 25] [0, 3, 4, 15, 16, 17, 25] (φ := ((0 ≤ i124 ∧ i124 < (lI x1)) ∧ (0 ≤ i124 ∧ i124 < (lI x1)) ∧ (True ∧ True ∧ True))) (ls' := (tf true [3, 3, 5, 3])) (st' := ⟨[(0, sF 0 x1), (3, S s171), (4, I i124), (15, S s171), (16, sF 0 x1), (17, I i124), (25, I ((x1.getD i124.toNat dnod).value))], [nR x1]⟩) (n2 := 6) (by kernel_rfl) ⟨hg179, hg179, trivial, trivial, trivial⟩ rfl (WD_all [3] (n := 5) (by kernel_rfl) rfl (WM_call [.ro 0] Tryz.f72 rfl rfl (by kernel_rfl) Tryz.func72 rfl (by kernel_rfl) (spec_pathText_ok n x1 i124 s175 hc176) (aI (aI rfl rfl) (trivial)) rfl (aI rfl (trivial)) (WD_takeQ [4, 5] [0, 3, 4, 20, 25] [0, 3, 4, 20, 25] (φ := ((s171.length + s175.length ≤ 1099511627776) ∧ (s171.length + s175.length ≤ 1099511627776) ∧ (((s171 ++ s175).length + [32].length ≤ 1099511627776) ∧ ((s171 ++ s175).length + [32].length ≤ 1099511627776) ∧ True))) (ls' := (tf true [11, 3])) (st' := ⟨[(0, sF 0 x1), (3, S s171), (4, I i124), (20, S ((s171 ++ s175) ++ [32])), (25, I ((x1.getD i124.toNat dnod).value))], [nR x1]⟩) (n2 := 3) (by kernel_rfl) ⟨hg177, hg177, hg178, hg178, trivial⟩ rfl (WD_all [11] (n := 2) (by kernel_rfl) rfl (WM_call [] Tryz.f24 rfl rfl (by kernel_rfl) Tryz.func24 rfl (by kernel_rfl) (spec_decimal_ok n ((x1.getD i124.toNat dnod).value) s180 hc181) (trivial) rfl (aI rfl (trivial)) (WD_takeQ [12, 13] [0, 3, 4] [0, 3, 4] (φ := ((((s171 ++ s175) ++ [32]).length + s180.length ≤ 1099511627776) ∧ (((s171 ++ s175) ++ [32]).length + s180.length ≤ 1099511627776) ∧ True)) (ls' := (tf true [14])) (st' := ⟨[(0, sF 0 x1), (3, S (((s171 ++ s175) ++ [32]) ++ s180)), (4, I i124)], [nR x1]⟩) (n2 := 0) (by kernel_rfl) ⟨hg182, hg182, trivial⟩ rfl ?_)))))))
       exact WD_done [0] [0, 3, 4] (st' := ⟨[(0, sF 0 x1), (3, S (((s171 ++ s175) ++ [32]) ++ s180)), (4, I i124)], [nR x1]⟩) (by kernel_rfl) (by kernel_rfl) (aI rfl rfl)
      ·rintro _ _ ⟨rfl, rfl⟩
       refine blockS_n (thenS_n (W_region (Wp 3 [0] [0, 3, 4] T2 ⟨[(0, sF 0 x1), (3, S (((s171 ++ s175) ++ [32]) ++ s180)), (4, I (w64 (i124 + 1)))], [nR x1]⟩ t2 (Wnt (?_)))))
       exact ih _ _ h
    ·refine Ww [0] [3] ⟨[(3, S s123)], [nR x1]⟩ (W_exit (thenS_e (thenS_e ?_)))
     cases h
     exact aI rfl rfl

def spec_formatTree (n : Nat) (x1 : List Nod) : Option (Str) :=
 bindO (spec_formatTree_L1 x1 n [] 0) fun s153 =>
 some s153

theorem spec_formatTree_ok (n : Nat) (x1 : List Nod) (s90 : Str) (h : spec_formatTree n x1 = some s90) : FOk EE 46 [sF 0 x1] [nR x1] (S s90) [nR x1] := by
  unfold spec_formatTree at h
  refine FOk_of_W 29 1 Tryz.func46 rfl rfl (Nat.le_of_ble_eq_true rfl) rfl (fun w X θ => ?_)
  refine Wsr ((Ws 1 [0] [0] ⟨[(0, sF 0 x1)], [nR x1]⟩ (Wnt ((W_seq (W_region ?_))))))
  refine Ws 1 [0] [0, 3] ⟨[(0, sF 0 x1), (3, S [])], [nR x1]⟩ (Wnt ((W_seq (Wsr ((Ws 1 [0] [0, 3, 4] ⟨[(0, sF 0 x1), (3, S []), (4, I 0)], [nR x1]⟩ ?_))))))
  refine Wnt ((W_block (W_loop (bindO_e h (fun s153 hs153 h => (WL_cut (spec_formatTree_L1_ok w X θ x1 s153 n [] 0 hs153) ?_))))))
  rintro _ _ ⟨rfl, rfl⟩
  refine blockS_y (thenS_n (Wsr ((Ws 2 [0] [2] ⟨[(2, S s153)], [nR x1]⟩ (Wnt (?_))))))
  refine W_ret ?_
  cases h
  exact ⟨[0], True, by kernel_rfl, trivial⟩

/- spec.FormatTree -/
def spec_FormatTree (n : Nat) (x1 : List Nod) : Option (Str) :=
 bindO (spec_validTree n x1) fun b9 =>
 iteO (!b9)
 (some [])
 (bindO (spec_formatTree n x1) fun s13 =>
 some s13)

theorem spec_FormatTree_ok (n : Nat) (x1 : List Nod) (s8 : Str) (h : spec_FormatTree n x1 = some s8) : FOk EE 35 [sF 0 x1] [nR x1] (S s8) [nR x1] := by
  unfold spec_FormatTree at h
  refine FOk_of_W 8 1 Tryz.func35 rfl rfl (Nat.le_of_ble_eq_true rfl) rfl (fun w X θ => ?_)
  refine Wsr ((Ws 1 [0] [0] ⟨[(0, sF 0 x1)], [nR x1]⟩ (Wnt ((W_seq (W_seq ?_))))))
  refine W_region (Ws 1 [0] [0, 3] ⟨[(0, sF 0 x1), (3, sF 0 x1)], [nR x1]⟩ (bindO_e h (fun b9 hc10 h => (Wc [.ro 0] rfl rfl rfl Tryz.func45 rfl (spec_validTree_ok n x1 b9 hc10) (aI (aI rfl rfl) (trivial)) rfl (Ws 1 [0] [0, 5] ⟨[(0, sF 0 x1), (5, B (!b9))], [nR x1]⟩ (Wnt (?_)))))))
  refine iteO_e h (fun hb12 h => W_true rfl hb12 ?_) (fun hb12 h => W_false rfl hb12 ?_)
  ·refine Wsr ((Ws 1 [0] [2] ⟨[(2, S [])], [nR x1]⟩ (Wnt ((W_ret (thenS_r ?_))))))
   cases h
   exact ⟨[0], True, by kernel_rfl, trivial⟩
  ·refine Ww [0] [0] ⟨[(0, sF 0 x1)], [nR x1]⟩ (W_skip (thenS_n (Wsr ((Ws 1 [0] [6] ⟨[(6, sF 0 x1)], [nR x1]⟩ (bindO_e h (fun s13 hc14 h => (Wc [.ro 0] rfl rfl rfl Tryz.func46 rfl (spec_formatTree_ok n x1 s13 hc14) (aI (aI rfl rfl) (trivial)) rfl (Ws 1 [0] [2] ⟨[(2, S s13)], [nR x1]⟩ (Wnt ((W_ret ?_))))))))))))
   cases h
   exact ⟨[0], True, by kernel_rfl, trivial⟩

/- spec.mutate -/
def spec_mutate (x1 : List Int) (k2 : Nat) (i3 : Int) (s4 : Str) : Option (Int × Str) :=
 bindO (spec_reader_pick x1 k2 i3 (w64 (((s4.length : Nat) : Int) + 1))) fun i111 =>
 bindO (spec_reader_pick x1 k2 (w64 (i3 + 1)) 5) fun i113 =>
 bindO (iteO (decide (i113 = 0))
 (iteO (decide (i111 < ((s4.length : Nat) : Int)))
 (guardO (0 ≤ i111 ∧ i111 ≤ ((s4.length : Nat) : Int)) <|
 bindO (spec_reader_of x1 k2 (w64 ((w64 (i3 + 1)) + 1)) [[48], [49], [32], [45], [47], [97], [59], [57]]) fun (i227, s228) =>
 guardO ((s4.take i111.toNat).length + s228.length ≤ 1099511627776) <|
 guardO (0 ≤ (w64 (i111 + 1)) ∧ (w64 (i111 + 1)) ≤ ((s4.length : Nat) : Int)) <|
 guardO (((s4.take i111.toNat) ++ s228).length + (s4.drop ((w64 (i111 + 1)).toNat)).length ≤ 1099511627776) <|
 some (.inl (i227, (((s4.take i111.toNat) ++ s228) ++ (s4.drop ((w64 (i111 + 1)).toNat))))))
 (some (.inr ())))
 (iteO (decide (i113 = 1))
 (guardO (0 ≤ i111 ∧ i111 ≤ ((s4.length : Nat) : Int)) <|
 some (.inl ((w64 ((w64 (i3 + 1)) + 1)), (s4.take i111.toNat))))
 (iteO (decide (i113 = 2))
 (bindO (spec_reader_of x1 k2 (w64 ((w64 (i3 + 1)) + 1)) [[48], [32], [47, 97], [32, 49], [98], [59, 32]]) fun (i257, s258) =>
 guardO (s4.length + s258.length ≤ 1099511627776) <|
 some (.inl (i257, (s4 ++ s258))))
 (some (.inr ())))) : Option ((Int × Str) ⊕ (Unit))) fun v214 =>
 match v214 with
 | (.inl (i212, s213)) => (some (i212, s213))
 | (.inr _) => (some ((w64 ((w64 (i3 + 1)) + 1)), s4))


theorem spec_mutate_ok (x1 : List Int) (k2 : Nat) (i3 : Int) (s4 : Str) (i109 : Int) (s110 : Str) (h : spec_mutate x1 k2 i3 s4 = some (i109, s110)) : FOk EE 28 [pA 0 0, S s4] [.cells [.sl 1 0 k2, cI i3], uR x1] (S s110) [.cells [.sl 1 0 k2, cI i109], uR x1] := by
  unfold spec_mutate at h
  refine FOk_of_W 44 2 Tryz.func28 rfl rfl (Nat.le_of_ble_eq_true rfl) rfl (fun w X θ => ?_)
  refine Wsr ((Ws 1 [0, 1] [0, 1] ⟨[(0, pA 0 0), (1, S s4)], [.cells [.sl 1 0 k2, cI i3], uR x1]⟩ (Wnt ((W_seq (W_region ?_))))))
  refine Wp 4 [0, 1] [0, 1, 6, 9] T3 ⟨[(0, pA 0 0), (1, S s4), (6, pA 0 0), (9, I (w64 ((lI s4) + 1)))], [.cells [.sl 1 0 k2, cI i3], uR x1]⟩ t3 (bindO_e h (fun i111 hc112 h => (Wc [.own 0, .ro 1] rfl rfl rfl Tryz.func25 rfl (spec_reader_pick_ok x1 k2 i3 (w64 ((lI s4) + 1)) i111 hc112) (aI (trivial) (aI (aI rfl rfl) (trivial))) rfl (Ws 1 [0, 1] [0, 1, 5] ⟨[(0, pA 0 0), (1, S s4), (5, I i111)], [.cells [.sl 1 0 k2, cI (w64 (i3 + 1))], uR x1]⟩ (Wnt ((W_seq ?_)))))))
  refine Wsr ((Ws 1 [0, 1] [0, 1, 5, 11] ⟨[(0, pA 0 0), (1, S s4), (5, I i111), (11, pA 0 0)], [.cells [.sl 1 0 k2, cI (w64 (i3 + 1))], uR x1]⟩ (bindO_e h (fun i113 hc114 h => (Wc [.own 0, .ro 1] rfl rfl rfl Tryz.func25 rfl (spec_reader_pick_ok x1 k2 (w64 (i3 + 1)) 5 i113 hc114) (aI (trivial) (aI (aI rfl rfl) (trivial))) rfl (Wb [0, 1] [0, 1, 5, 12] ⟨[(0, pA 0 0), (1, S s4), (5, I i111), (12, I i113)], [.cells [.sl 1 0 k2, cI (w64 ((w64 (i3 + 1)) + 1))], uR x1]⟩ (WO_nil rfl ?_)))))))
  refine thenS_n (W_block (Wsr ((Wp 2 [0, 1] [0, 1, 5, 12, 13] T2 ⟨[(0, pA 0 0), (1, S s4), (5, I i111), (12, I i113), (13, B (decide (i113 = 0)))], [.cells [.sl 1 0 k2, cI (w64 ((w64 (i3 + 1)) + 1))], uR x1]⟩ t2 (Wnt (?_))))))
  refine bindO_e h (fun v214 hv214 h => (W_cut (Q' := fun (e : Exit) (s : St) => (match v214 with | (.inl (i212, s213)) => e = .ret ∧ s = ⟨[(4, S s213)], [.cells [.sl 1 0 k2, cI i212], uR x1]⟩ | (.inr _) => e = .normal ∧ s = ⟨[(1, S s4)], [.cells [.sl 1 0 k2, cI (w64 ((w64 (i3 + 1)) + 1))], uR x1]⟩ : Prop)) ?_ ?_))
  ·refine iteO_e hv214 (fun hb215 hv214 => W_true rfl hb215 ?_) (fun hb215 hv214 => W_false rfl hb215 ?_)
   ·refine Wsr ((Wp 4 [0, 1] [0, 1, 5, 18] T3 ⟨[(0, pA 0 0), (1, S s4), (5, I i111), (18, B (decide (i111 < (lI s4))))], [.cells [.sl 1 0 k2, cI (w64 ((w64 (i3 + 1)) + 1))], uR x1]⟩ t3 (Wnt ((iteO_e hv214 (fun hb225 hv214 => W_true rfl hb225 ?_) (fun hb225 hv214 => W_false rfl hb225 ?_))))))
    ·refine W_seq (guardO_e hv214 (fun hg226 hv214 => (bindO_e hv214 (fun v233 hc229 hv214 => ?_))))
     obtain ⟨i227, s228⟩ := v233
     refine guardO_e hv214 (fun hg230 hv214 => (guardO_e hv214 (fun hg231 hv214 => (guardO_e hv214 (fun hg232 hv214 => (W_cut (Q' := fun (e : Exit) (s : St) => e = .normal ∧ s = ⟨[(4, S (((s4.take i111.toNat) ++ s228) ++ (s4.drop ((w64 (i111 + 1)).toNat))))], [.cells [.sl 1 0 k2, cI i227], uR x1]⟩) ?_ ?_))))))
     ·refine W_draw [0] false (by kernel_rfl) (by kernel_rfl) (WD_takeQ [0, 1, 2, 3, 7, 8, 9, 10] [21, 22, 29] [21, 22, 29] (φ := ((0 ≤ i111 ∧ i111 ≤ (lI s4)) ∧ (0 ≤ i111 ∧ i111 ≤ (lI s4)) ∧ (True ∧ True ∧ ((0 ≤ (w64 (i111 + 1)) ∧ (w64 (i111 + 1)) ≤ (lI s4)) ∧ (0 ≤ (w64 (i111 + 1)) ∧ (w64 (i111 + 1)) ≤ (lI s4)) ∧ True)))) (ls' := (tf true [4, 3, 4, 2])) (st' := ⟨[(21, S (s4.take i111.toNat)), (22, pA 0 0), (29, S (s4.drop ((w64 (i111 + 1)).toNat)))], [.cells [.sl 1 0 k2, cI (w64 ((w64 (i3 + 1)) + 1))], uR x1]⟩) (n2 := 5) (by kernel_rfl) ⟨hg226, hg226, trivial, trivial, hg231, hg231, trivial⟩ rfl (WD_all [4] (n := 4) (by kernel_rfl) rfl (WM_op (φ := True) (v := SL 2 0 ([[48], [49], [32], [45], [47], [97], [59], [57]].length)) (H' := [.cells [.sl 1 0 k2, cI (w64 ((w64 (i3 + 1)) + 1))], uR x1, .row .str [[48], [49], [32], [45], [47], [97], [59], [57]] true]) rfl rfl (by kernel_rfl) trivial rfl (aI rfl (trivial)) (WD_all [5] (n := 3) (by kernel_rfl) rfl (WM_call [.own 0, .ro 1, .ro 2] Tryz.f26 rfl rfl (by kernel_rfl) Tryz.func26 rfl (by kernel_rfl) (spec_reader_of_ok x1 k2 (w64 ((w64 (i3 + 1)) + 1)) [[48], [49], [32], [45], [47], [97], [59], [57]] i227 s228 hc229) (aI (trivial) (aI (aI rfl rfl) (aI (aI rfl rfl) (trivial)))) rfl (aI rfl (trivial)) (WD_takeQ [6, 11, 12] [4] [4] (φ := (((s4.take i111.toNat).length + s228.length ≤ 1099511627776) ∧ ((s4.take i111.toNat).length + s228.length ≤ 1099511627776) ∧ ((((s4.take i111.toNat) ++ s228).length + (s4.drop ((w64 (i111 + 1)).toNat)).length ≤ 1099511627776) ∧ (((s4.take i111.toNat) ++ s228).length + (s4.drop ((w64 (i111 + 1)).toNat)).length ≤ 1099511627776) ∧ True))) (ls' := (tf true [13])) (st' := ⟨[(4, S (((s4.take i111.toNat) ++ s228) ++ (s4.drop ((w64 (i111 + 1)).toNat))))], [.cells [.sl 1 0 k2, cI i227], uR x1, .row .str [[48], [49], [32], [45], [47], [97], [59], [57]] true]⟩) (n2 := 0) (by kernel_rfl) ⟨hg230, hg230, hg232, hg232, trivial⟩ rfl ?_))))))
      exact WD_done [0, 1] [4] (st' := ⟨[(4, S (((s4.take i111.toNat) ++ s228) ++ (s4.drop ((w64 (i111 + 1)).toNat))))], [.cells [.sl 1 0 k2, cI i227], uR x1]⟩) (by kernel_rfl) (by kernel_rfl) (aI rfl rfl)
     ·rintro _ _ ⟨rfl, rfl⟩
      refine thenS_n (W_ret ?_)
      cases hv214
      exact aI rfl rfl
    ·refine Ww [0, 1] [1] ⟨[(1, S s4)], [.cells [.sl 1 0 k2, cI (w64 ((w64 (i3 + 1)) + 1))], uR x1]⟩ (W_skip ?_)
     cases hv214
     exact aI rfl rfl
   ·refine Wsr ((Wp 2 [0, 1] [0, 1, 5, 12, 31] T2 ⟨[(0, pA 0 0), (1, S s4), (5, I i111), (12, I i113), (31, B (decide (i113 = 1)))], [.cells [.sl 1 0 k2, cI (w64 ((w64 (i3 + 1)) + 1))], uR x1]⟩ t2 (Wnt ((iteO_e hv214 (fun hb248 hv214 => W_true rfl hb248 ?_) (fun hb248 hv214 => W_false rfl hb248 ?_))))))
    ·refine Wsr ((guardO_e hv214 (fun hg249 hv214 => (Wp 4 [0, 1] [4] ((0 ≤ i111 ∧ i111 ≤ (lI s4)) ∧ True) ⟨[(4, S (s4.take i111.toNat))], [.cells [.sl 1 0 k2, cI (w64 ((w64 (i3 + 1)) + 1))], uR x1]⟩ ⟨hg249, trivial⟩ (Wnt ((W_ret ?_)))))))
     cases hv214
     exact aI rfl rfl
    ·refine Wsr ((Wp 2 [0, 1] [0, 1, 36] T2 ⟨[(0, pA 0 0), (1, S s4), (36, B (decide (i113 = 2)))], [.cells [.sl 1 0 k2, cI (w64 ((w64 (i3 + 1)) + 1))], uR x1]⟩ t2 (Wnt ((iteO_e hv214 (fun hb256 hv214 => W_true rfl hb256 ?_) (fun hb256 hv214 => W_false rfl hb256 ?_))))))
     ·refine Wsr ((Ws 3 [0, 1, 2] [38, 39, 40] ⟨[(38, S s4), (39, pA 0 0), (40, SL 2 0 ([[48], [32], [47, 97], [32, 49], [98], [59, 32]].length))], [.cells [.sl 1 0 k2, cI (w64 ((w64 (i3 + 1)) + 1))], uR x1, .row .str [[48], [32], [47, 97], [32, 49], [98], [59, 32]] true]⟩ (bindO_e hv214 (fun v261 hc259 hv214 => ?_))))
      obtain ⟨i257, s258⟩ := v261
      refine Wc [.own 0, .ro 1, .ro 2] rfl rfl rfl Tryz.func26 rfl (spec_reader_of_ok x1 k2 (w64 ((w64 (i3 + 1)) + 1)) [[48], [32], [47, 97], [32, 49], [98], [59, 32]] i257 s258 hc259) (aI (trivial) (aI (aI rfl rfl) (aI (aI rfl rfl) (trivial)))) rfl (guardO_e hv214 (fun hg260 hv214 => (Wp 2 [0, 1] [4] ((s4.length + s258.length ≤ 1099511627776) ∧ True) ⟨[(4, S (s4 ++ s258))], [.cells [.sl 1 0 k2, cI i257], uR x1]⟩ ⟨hg260, trivial⟩ (Wnt ((W_ret ?_))))))
      cases hv214
      exact aI rfl rfl
     ·refine Ww [0, 1] [1] ⟨[(1, S s4)], [.cells [.sl 1 0 k2, cI (w64 ((w64 (i3 + 1)) + 1))], uR x1]⟩ (W_skip ?_)
      cases hv214
      exact aI rfl rfl
  ·rcases v214 with ⟨i212, s213⟩ | _
   ·rintro _ _ ⟨rfl, rfl⟩
    refine blockS_r (thenS_r ?_)
    cases h
    exact ⟨[0, 1], True, by kernel_rfl, trivial⟩
   ·rintro _ _ ⟨rfl, rfl⟩
    refine blockS_n (thenS_n (Wsr ((Ws 2 [0, 1] [4] ⟨[(4, S s4)], [.cells [.sl 1 0 k2, cI (w64 ((w64 (i3 + 1)) + 1))], uR x1]⟩ (Wnt ((W_ret ?_)))))))
    cases h
    exact ⟨[0, 1], True, by kernel_rfl, trivial⟩

/- spec.DrawParseTree -/
def spec_DrawParseTree (n : Nat) (x1 : List Int) : Option (Str) :=
 bindO (spec_newReader x1) fun k22 =>
 bindO (spec_anyTree n x1 k22 0) fun (i24, x25, k26, k27) =>
 bindO (spec_FormatTree n ((x25.drop k26).take k27)) fun s29 =>
 bindO (spec_reader_pick x1 k22 i24 3) fun i31 =>
 bindO (iteO (decide (i31 = 0))
 (bindO (spec_mutate x1 k22 (w64 (i24 + 1)) s29) fun (i41, s42) =>
 some s42)
 (some s29)) fun s38 =>
 some s38

theorem spec_DrawParseTree_ok (n : Nat) (x1 : List Int) (s21 : Str) (h : spec_DrawParseTree n x1 = some s21) : FOk EE 13 [sF 0 x1] [uR x1] (S s21) [uR x1] := by
  unfold spec_DrawParseTree at h
  refine FOk_of_W 17 1 Tryz.func13 rfl rfl (Nat.le_of_ble_eq_true rfl) rfl (fun w X θ => ?_)
  refine Wsr ((Ws 1 [0] [0] ⟨[(0, sF 0 x1)], [uR x1]⟩ (Wnt ((W_seq (W_region ?_))))))
  refine Ws 1 [0] [5] ⟨[(5, sF 0 x1)], [uR x1]⟩ (bindO_e h (fun k22 hc23 h => (Wc [.ro 0] rfl rfl rfl Tryz.func22 rfl (spec_newReader_ok x1 k22 hc23) (aI (aI rfl rfl) (trivial)) rfl (Ws 1 [0, 1] [3] ⟨[(3, pA 1 0)], [uR x1, .cells [.sl 0 0 k22, cI 0]]⟩ (Wnt ((W_seq ?_)))))))
  refine W_region (Ws 1 [0, 1] [3, 7] ⟨[(3, pA 1 0), (7, pA 1 0)], [uR x1, .cells [.sl 0 0 k22, cI 0]]⟩ (bindO_e h (fun v45 hc28 h => ?_)))
  obtain ⟨i24, x25, k26, k27⟩ := v45
  refine Wc [.own 1, .ro 0] rfl rfl rfl Tryz.func36 rfl (spec_anyTree_ok n x1 k22 0 i24 x25 k26 k27 hc28) (aI (trivial) (aI (aI rfl rfl) (trivial))) rfl (Wb [0, 1, 2] [3, 8] ⟨[(3, pA 1 0), (8, .one (.e (.sl 2 k26 k27)))], [uR x1, .cells [.sl 0 0 k22, cI i24], nO x25]⟩ (bindO_e h (fun s29 hc30 h => (Wc [.view 0] rfl rfl rfl Tryz.func35 rfl (spec_FormatTree_ok n ((x25.drop k26).take k27) s29 hc30) (trivial) rfl (Ws 1 [0, 1] [3, 4] ⟨[(3, pA 1 0), (4, S s29)], [uR x1, .cells [.sl 0 0 k22, cI i24]]⟩ (Wnt (?_)))))))
  refine W_seq (Wsr ((Ws 1 [0, 1] [3, 4, 10] ⟨[(3, pA 1 0), (4, S s29), (10, pA 1 0)], [uR x1, .cells [.sl 0 0 k22, cI i24]]⟩ (bindO_e h (fun i31 hc32 h => (Wc [.own 1, .ro 0] rfl rfl rfl Tryz.func25 rfl (spec_reader_pick_ok x1 k22 i24 3 i31 hc32) (aI (trivial) (aI (aI rfl rfl) (trivial))) rfl (Wp 1 [0, 1] [3, 4, 12] T2 ⟨[(3, pA 1 0), (4, S s29), (12, B (decide (i31 = 0)))], [uR x1, .cells [.sl 0 0 k22, cI (w64 (i24 + 1))]]⟩ t2 ?_)))))))
  refine Wnt ((bindO_e h (fun s38 hs38 h => (W_cut (Q' := fun (e : Exit) (s : St) => e = .normal ∧ s = ⟨[(4, S s38)], [uR x1]⟩) ?_ ?_))))
  ·refine iteO_e hs38 (fun hb40 hs38 => W_true rfl hb40 ?_) (fun hb40 hs38 => W_false rfl hb40 ?_)
   ·refine W_region (Ws 2 [0, 1] [13, 14] ⟨[(13, pA 1 0), (14, S s29)], [uR x1, .cells [.sl 0 0 k22, cI (w64 (i24 + 1))]]⟩ (bindO_e hs38 (fun v44 hc43 hs38 => ?_)))
    obtain ⟨i41, s42⟩ := v44
    refine Wc [.own 1, .ro 0] rfl rfl rfl Tryz.func28 rfl (spec_mutate_ok x1 k22 (w64 (i24 + 1)) s29 i41 s42 hc43) (aI (trivial) (aI (aI rfl rfl) (trivial))) rfl (Ws 1 [0] [4] ⟨[(4, S s42)], [uR x1]⟩ (WO_nil rfl ?_))
    cases hs38
    exact aI rfl rfl
   ·refine Ww [0] [4] ⟨[(4, S s29)], [uR x1]⟩ (W_skip ?_)
    cases hs38
    exact aI rfl rfl
  ·rintro _ _ ⟨rfl, rfl⟩
   refine thenS_n (Wsr ((Ws 2 [0] [2] ⟨[(2, S s38)], [uR x1]⟩ (Wnt ((W_ret ?_))))))
   cases h
   exact ⟨[0], True, by kernel_rfl, trivial⟩

/- strings.SplitN -/
def lays147R : Shelf.Ren := ⟨fun n => match n with | 138 => 88 | 143 => 89 | 147 => 37 | 195 => 122 | 197 => 123 | 217 => 130 | 218 => 124 | 219 => 99 | 221 => 58 | 224 => 132 | 225 => 131 | 260 => 150 | 266 => 157 | 267 => 133 | 268 => 87 | 314 => 158 | _ => 0, fun n => match n with | 0 => 0 | 3 => 3 | 4 => 4 | 5 => 5 | 9 => 9 | 21 => 21 | 31 => 23 | 46 => 133 | 51 => 154 | 105 => 130 | 119 => 171 | 138 => 173 | 139 => 174 | 146 => 155 | _ => 0, fun n => match n with | 1 => 0 | 3 => 6 | 4 => 7 | _ => 0⟩
set_option maxRecDepth 100000 in
theorem lays147 : Lays.n147 Tryz.prog lays147R := {
  mixed := by kernel_rfl
  f138 := by kernel_rfl
  f143 := by kernel_rfl
  f147 := by kernel_rfl
  f195 := by kernel_rfl
  f197 := by kernel_rfl
  f217 := by kernel_rfl
  f218 := by kernel_rfl
  f219 := by kernel_rfl
  f221 := by kernel_rfl
  f224 := by kernel_rfl
  f225 := by kernel_rfl
  f260 := by kernel_rfl
  f266 := by kernel_rfl
  f267 := by kernel_rfl
  f268 := by kernel_rfl
  f314 := by kernel_rfl
  t0 := Tryz.underlying0
  a0 := Tryz.isAgg0
  z0 := Tryz.sizeOf0
  v0 := Tryz.zeroValue0
  t3 := Tryz.underlying3
  a3 := Tryz.isAgg3
  z3 := Tryz.sizeOf3
  v3 := Tryz.zeroValue3
  t4 := Tryz.underlying4
  a4 := Tryz.isAgg4
  z4 := Tryz.sizeOf4
  v4 := Tryz.zeroValue4
  t5 := Tryz.underlying5
  a5 := Tryz.isAgg5
  z5 := Tryz.sizeOf5
  v5 := Tryz.zeroValue5
  t9 := Tryz.underlying9
  a9 := Tryz.isAgg9
  z9 := Tryz.sizeOf9
  v9 := Tryz.zeroValue9
  t21 := Tryz.underlying21
  a21 := Tryz.isAgg21
  z21 := Tryz.sizeOf21
  v21 := Tryz.zeroValue21
  t31 := Tryz.underlying23
  a31 := Tryz.isAgg23
  z31 := Tryz.sizeOf23
  v31 := Tryz.zeroValue23
  t46 := Tryz.underlying133
  a46 := Tryz.isAgg133
  z46 := Tryz.sizeOf133
  v46 := Tryz.zeroValue133
  t51 := Tryz.underlying154
  a51 := Tryz.isAgg154
  z51 := Tryz.sizeOf154
  v51 := Tryz.zeroValue154
  t105 := Tryz.underlying130
  a105 := Tryz.isAgg130
  z105 := Tryz.sizeOf130
  v105 := Tryz.zeroValue130
  t119 := Tryz.underlying171
  a119 := Tryz.isAgg171
  z119 := Tryz.sizeOf171
  t138 := Tryz.underlying173
  a138 := Tryz.isAgg173
  z138 := Tryz.sizeOf173
  v138 := Tryz.zeroValue173
  t139 := Tryz.underlying174
  a139 := Tryz.isAgg174
  z139 := Tryz.sizeOf174
  v139 := Tryz.zeroValue174
  t146 := Tryz.underlying155
  a146 := Tryz.isAgg155
  z146 := Tryz.sizeOf155
  v146 := Tryz.zeroValue155
  g1 := by kernel_rfl
  g3 := by kernel_rfl
  g4 := by kernel_rfl }
def strings_SplitN (s1 s2 : Str) (i3 : Int) : Option (List Str) :=
 guardO (s1.length < 4294967281 ∧ 1 ≤ s2.length ∧ 1 ≤ i3 ∧ i3 ≤ 9223372036854775807) <|
 some (Lib.splitN s1 s2 i3.toNat)
theorem strings_SplitN_ok (s1 s2 : Str) (i3 : Int) (x4 : List Str) (h : strings_SplitN s1 s2 i3 = some x4) : FOk EE 37 [S s1, S s2, I i3] [] (sF 0 x4) [sO x4] := by
  unfold strings_SplitN at h
  refine guardO_e h (fun hg h => ?_)
  cases h
  obtain ⟨n, rfl⟩ : ∃ n : Nat, i3 = (n : Int) := ⟨i3.toNat, by omega⟩
  have he := Lib.splitB_data ⟨⟨s2⟩⟩ 0 (min n (s1.length + 1) - 1) ⟨⟨s1⟩⟩
  have hlen := Lib.splitB_length_le ⟨⟨s2⟩⟩ 0 (min n (s1.length + 1) - 1) ⟨⟨s1⟩⟩
  refine FOk_splits (cap := min n (s1.length + 1)) (t := lays147R.t 9) he (by omega) (by unfold maxLen; omega) (args := [.str s1, .str s2, .int .i64 n]) (fun w hw => ?_)
  obtain ⟨m, hm⟩ := KK_max w hw
  exact Any.strings_SplitN lays147 (by kernel_rfl) ⟨⟨s1⟩⟩ ⟨⟨s2⟩⟩ n m w hg.1 hm hg.2.1 (by omega) (by omega)

/- stringslite.IndexByte -/
def lays217R : Shelf.Ren := ⟨fun n => match n with | 217 => 130 | 266 => 157 | _ => 0, fun n => match n with | 3 => 3 | 5 => 5 | 9 => 9 | _ => 0, fun n => n⟩
set_option maxRecDepth 100000 in
theorem lays217 : Lays.n217 Tryz.prog lays217R := {
  mixed := by kernel_rfl
  f217 := by kernel_rfl
  f266 := by kernel_rfl
  t3 := Tryz.underlying3
  a3 := Tryz.isAgg3
  z3 := Tryz.sizeOf3
  v3 := Tryz.zeroValue3
  t5 := Tryz.underlying5
  a5 := Tryz.isAgg5
  z5 := Tryz.sizeOf5
  v5 := Tryz.zeroValue5
  t9 := Tryz.underlying9
  a9 := Tryz.isAgg9
  z9 := Tryz.sizeOf9
  v9 := Tryz.zeroValue9 }
def stringslite_IndexByte (s1 : Str) (i2 : Int) : Int := Lib.indexByte s1 (UInt8.ofNat i2.toNat)
theorem stringslite_IndexByte_ok (s1 : Str) (i2 : Int) : FOk EE 130 [S s1, U i2] [] (I (stringslite_IndexByte s1 i2)) [] :=
  FOk_pure (args := [.str s1, .int .u8 i2]) (r := .int .i64 (Lib.indexByte s1 (UInt8.ofNat i2.toNat))) (fun w => Any.stringslite_IndexByte lays217 ⟨⟨s1⟩⟩ i2 w)

/- stringslite.Index -/
def stringslite_Index (s1 : Str) (s2 : Str) : Option (Int) :=
 iteO ((decide (((s2.length : Nat) : Int) = 0)) || (decide (s2 = s1)))
 (some 0)
 (iteO (decide (((s2.length : Nat) : Int) = 1))
 (guardO (0 ≤ (0 : Int) ∧ (0 : Int) < ((s2.length : Nat) : Int)) <|
 some (stringslite_IndexByte s1 ((s2.getD ((0 : Int).toNat) 0).toNat : Int)))
 (iteO (decide (((s1.length : Nat) : Int) ≤ ((s2.length : Nat) : Int)))
 (some (-1))
 (none)))

theorem stringslite_Index_ok (s1 : Str) (s2 : Str) (i45 : Int) (h : stringslite_Index s1 s2 = some i45) : FOk EE 99 [S s1, S s2] [] (I i45) [] := by
  unfold stringslite_Index at h
  refine FOk_of_W 143 0 Tryz.func99 rfl rfl (Nat.le_of_ble_eq_true rfl) rfl (fun w X θ => ?_)
  refine Wsr ((Ws 1 [] [0, 1] ⟨[(0, S s1), (1, S s2)], []⟩ (Wnt ((W_seq (W_region ?_))))))
  refine Wp 3 [] [0, 1, 5] T2 ⟨[(0, S s1), (1, S s2), (5, I (lI s2))], []⟩ t2 (Wnt ((W_seq (W_block (W_seq (W_region ?_))))))
  refine Wp 3 [] [0, 1, 5, 19] T2 ⟨[(0, S s1), (1, S s2), (5, I (lI s2)), (19, B (decide ((lI s2) = 0)))], []⟩ t2 (WO_thru ⟨[(0, S s1), (1, S s2), (5, I (lI s2)), (16, B ((decide ((lI s2) = 0)) || (decide (s2 = s1))))], []⟩ ?_ ?_)
  ·refine WO_if 19 rfl (fun hb69 => ?_) (fun hb69 => ?_)
   ·refine Ws 5 [] [0, 1, 5, 16] ⟨[(0, S s1), (1, S s2), (5, I (lI s2)), (16, B true)], []⟩ ?_
    exact WO_nil rfl ⟨rfl, by first | rfl | (rw [hb69]; first | done | rfl)⟩
   ·refine Wp 5 [] [0, 1, 5, 16] T2 ⟨[(0, S s1), (1, S s2), (5, I (lI s2)), (16, B (decide (s2 = s1)))], []⟩ t2 ?_
    exact WO_nil rfl ⟨rfl, by first | rfl | (rw [hb69]; first | done | rfl)⟩
  ·refine thenS_n (iteO_e h (fun hb79 h => W_true rfl hb79 ?_) (fun hb79 h => W_false rfl hb79 ?_))
   ·refine Wsr ((Ws 1 [] [4] ⟨[(4, I 0)], []⟩ (Wnt ((W_ret (blockS_r (thenS_r ?_)))))))
    cases h
    exact ⟨[], True, by kernel_rfl, trivial⟩
   ·refine Wsr ((Wp 3 [] [0, 1, 5, 24] T2 ⟨[(0, S s1), (1, S s2), (5, I (lI s2)), (24, B (decide ((lI s2) = 1)))], []⟩ t2 (Wnt ((iteO_e h (fun hb84 h => W_true rfl hb84 ?_) (fun hb84 h => W_false rfl hb84 ?_))))))
    ·refine Wsr ((guardO_e h (fun hg85 h => (Wp 3 [] [27, 29] ((0 ≤ (0 : Int) ∧ (0 : Int) < (lI s2)) ∧ True) ⟨[(27, S s1), (29, U ((s2.getD ((0 : Int).toNat) 0).toNat : Int))], []⟩ ⟨hg85, trivial⟩ (Wc [] rfl rfl rfl Tryz.func130 rfl (stringslite_IndexByte_ok s1 ((s2.getD ((0 : Int).toNat) 0).toNat : Int)) (trivial) rfl (Ws 1 [] [4] ⟨[(4, I (stringslite_IndexByte s1 ((s2.getD ((0 : Int).toNat) 0).toNat : Int)))], []⟩ (Wnt ((W_ret (blockS_r (thenS_r ?_)))))))))))
     cases h
     exact ⟨[], True, by kernel_rfl, trivial⟩
    ·refine Wsr ((Wp 5 [] [0, 1, 5, 31] T3 ⟨[(0, S s1), (1, S s2), (5, I (lI s2)), (31, B (decide ((lI s1) ≤ (lI s2))))], []⟩ t3 (Wnt ((iteO_e h (fun hb87 h => W_true rfl hb87 ?_) (fun hb87 h => W_false rfl hb87 ?_))))))
     ·refine Wsr ((Ws 1 [] [4] ⟨[(4, I (-1))], []⟩ (Wnt ((W_ret (blockS_r (thenS_r ?_)))))))
      cases h
      exact ⟨[], True, by kernel_rfl, trivial⟩
     ·exact none_e h

/- stringslite.Cut -/
def stringslite_Cut (s1 : Str) (s2 : Str) : Option (Str × Str × Bool) :=
 bindO (stringslite_Index s1 s2) fun i14 =>
 iteO (decide (0 ≤ i14))
 (guardO (0 ≤ i14 ∧ i14 ≤ ((s1.length : Nat) : Int)) <|
 guardO (0 ≤ (w64 (i14 + ((s2.length : Nat) : Int))) ∧ (w64 (i14 + ((s2.length : Nat) : Int))) ≤ ((s1.length : Nat) : Int)) <|
 some ((s1.take i14.toNat), (s1.drop ((w64 (i14 + ((s2.length : Nat) : Int))).toNat)), true))
 (some (s1, [], false))

theorem stringslite_Cut_ok (s1 : Str) (s2 : Str) (s11 : Str) (s12 : Str) (b13 : Bool) (h : stringslite_Cut s1 s2 = some (s11, s12, b13)) : FOk EE 65 [S s1, S s2] [] (.tup [.e (cS s11), .e (cS s12), .e (cB b13)]) [] := by
  unfold stringslite_Cut at h
  refine FOk_of_W 23 0 Tryz.func65 rfl rfl (Nat.le_of_ble_eq_true rfl) rfl (fun w X θ => ?_)
  refine Wsr ((Ws 3 [] [0, 1] ⟨[(0, S s1), (1, S s2)], []⟩ (Wnt ((W_seq (W_seq ?_))))))
  refine W_region (Ws 2 [] [0, 1, 8, 9] ⟨[(0, S s1), (1, S s2), (8, S s1), (9, S s2)], []⟩ (bindO_e h (fun i14 hc15 h => (Wc [] rfl rfl rfl Tryz.func99 rfl (stringslite_Index_ok s1 s2 i14 hc15) (trivial) rfl (Ws 1 [] [0, 1, 7] ⟨[(0, S s1), (1, S s2), (7, I i14)], []⟩ (Wnt (?_)))))))
  refine Wsr ((Wp 2 [] [0, 1, 7, 12] T2 ⟨[(0, S s1), (1, S s2), (7, I i14), (12, B (decide (0 ≤ i14)))], []⟩ t2 (Wnt ((iteO_e h (fun hb19 h => W_true rfl hb19 ?_) (fun hb19 h => W_false rfl hb19 ?_))))))
  ·refine W_seq (guardO_e h (fun hg20 h => (guardO_e h (fun hg21 h => (W_cut (Q' := fun (e : Exit) (s : St) => e = .normal ∧ s = ⟨[(4, S (s1.take i14.toNat)), (5, S (s1.drop ((w64 (i14 + (lI s2))).toNat))), (6, B true)], []⟩) ?_ ?_)))))
   ·refine W_draw [] true (by kernel_rfl) (by kernel_rfl) (WD_takeQ [0, 1, 2, 3, 4, 5, 6, 7, 8, 9, 10, 11] [4, 5, 6] [4, 5, 6] (φ := ((0 ≤ i14 ∧ i14 ≤ (lI s1)) ∧ (0 ≤ i14 ∧ i14 ≤ (lI s1)) ∧ (True ∧ True ∧ (True ∧ True ∧ ((0 ≤ (w64 (i14 + (lI s2))) ∧ (w64 (i14 + (lI s2))) ≤ (lI s1)) ∧ (0 ≤ (w64 (i14 + (lI s2))) ∧ (w64 (i14 + (lI s2))) ≤ (lI s1)) ∧ True))))) (ls' := (tf true [12])) (st' := ⟨[(4, S (s1.take i14.toNat)), (5, S (s1.drop ((w64 (i14 + (lI s2))).toNat))), (6, B true)], []⟩) (n2 := 0) (by kernel_rfl) ⟨hg20, hg20, trivial, trivial, trivial, trivial, hg21, hg21, trivial⟩ rfl ?_)
    exact WD_done [] [4, 5, 6] (st' := ⟨[(4, S (s1.take i14.toNat)), (5, S (s1.drop ((w64 (i14 + ((s2.length : Nat) : Int))).toNat))), (6, B true)], []⟩) (by kernel_rfl) (by kernel_rfl) (aI rfl rfl)
   ·rintro _ _ ⟨rfl, rfl⟩
    refine thenS_n (W_ret (thenS_r ?_))
    cases h
    exact ⟨[], True, by kernel_rfl, trivial⟩
  ·refine Ww [] [0] ⟨[(0, S s1)], []⟩ (W_skip (thenS_n (Wsr ((Ws 4 [] [4, 5, 6] ⟨[(4, S s1), (5, S []), (6, B false)], []⟩ (Wnt ((W_ret ?_))))))))
   cases h
   exact ⟨[], True, by kernel_rfl, trivial⟩

/- strings.Cut -/
def strings_Cut (s1 : Str) (s2 : Str) : Option (Str × Str × Bool) :=
 bindO (stringslite_Cut s1 s2) fun (s11, s12, b13) =>
 some (s11, s12, b13)

theorem strings_Cut_ok (s1 : Str) (s2 : Str) (s8 : Str) (s9 : Str) (b10 : Bool) (h : strings_Cut s1 s2 = some (s8, s9, b10)) : FOk EE 38 [S s1, S s2] [] (.tup [.e (cS s8), .e (cS s9), .e (cB b10)]) [] := by
  unfold strings_Cut at h
  refine FOk_of_W 13 0 Tryz.func38 rfl rfl (Nat.le_of_ble_eq_true rfl) rfl (fun w X θ => ?_)
  refine Wsr ((Ws 3 [] [0, 1] ⟨[(0, S s1), (1, S s2)], []⟩ (Wnt ((W_seq (W_region ?_))))))
  refine Ws 2 [] [7, 8] ⟨[(7, S s1), (8, S s2)], []⟩ (bindO_e h (fun v15 hc14 h => ?_))
  obtain ⟨s11, s12, b13⟩ := v15
  refine Wc [] rfl rfl rfl Tryz.func65 rfl (stringslite_Cut_ok s1 s2 s11 s12 b13 hc14) (trivial) rfl (Ws 6 [] [4, 5, 6] ⟨[(4, S s11), (5, S s12), (6, B b13)], []⟩ (Wnt ((W_ret ?_))))
  cases h
  exact ⟨[], True, by kernel_rfl, trivial⟩

/- strconv.Atoi -/
def lays172R : Shelf.Ren := ⟨fun n => match n with | 129 => 162 | 171 => 48 | 172 => 39 | 205 => 136 | 243 => 75 | 244 => 66 | 245 => 67 | 246 => 113 | 247 => 100 | 279 => 101 | 280 => 102 | 281 => 103 | 282 => 104 | 283 => 137 | 284 => 138 | 285 => 139 | 286 => 140 | 287 => 134 | 316 => 135 | 317 => 161 | 318 => 163 | 319 => 164 | 320 => 165 | 321 => 159 | 322 => 160 | 337 => 171 | 338 => 172 | _ => 0, fun n => match n with | 0 => 0 | 2 => 2 | 3 => 3 | 4 => 4 | 5 => 5 | 9 => 9 | 20 => 20 | 21 => 21 | 37 => 22 | 46 => 133 | 51 => 154 | 53 => 134 | 75 => 55 | 76 => 56 | 80 => 60 | 85 => 113 | 127 => 88 | 143 => 158 | 145 => 160 | 167 => 112 | 168 => 115 | 171 => 140 | 173 => 143 | 175 => 135 | 210 => 138 | 212 => 162 | 213 => 163 | 232 => 177 | 233 => 178 | _ => 0, fun n => match n with | 15 => 1 | 16 => 2 | 17 => 4 | 18 => 8 | 19 => 9 | _ => 0⟩
set_option maxRecDepth 100000 in
theorem lays172 : LaysC.n172 Tryz.prog lays172R := {
  mixed := by kernel_rfl
  f129 := by kernel_rfl
  f171 := by kernel_rfl
  f172 := by kernel_rfl
  f205 := by kernel_rfl
  f243 := by kernel_rfl
  f244 := by kernel_rfl
  f245 := by kernel_rfl
  f246 := by kernel_rfl
  f247 := by kernel_rfl
  f279 := by kernel_rfl
  f280 := by kernel_rfl
  f281 := by kernel_rfl
  f282 := by kernel_rfl
  f283 := by kernel_rfl
  f284 := by kernel_rfl
  f285 := by kernel_rfl
  f286 := by kernel_rfl
  f287 := by kernel_rfl
  f316 := by kernel_rfl
  f317 := by kernel_rfl
  f318 := by kernel_rfl
  f319 := by kernel_rfl
  f320 := by kernel_rfl
  f321 := by kernel_rfl
  f322 := by kernel_rfl
  f337 := by kernel_rfl
  f338 := by kernel_rfl
  t0 := Tryz.underlying0
  a0 := Tryz.isAgg0
  z0 := Tryz.sizeOf0
  v0 := Tryz.zeroValue0
  t2 := Tryz.underlying2
  a2 := Tryz.isAgg2
  z2 := Tryz.sizeOf2
  v2 := Tryz.zeroValue2
  t3 := Tryz.underlying3
  a3 := Tryz.isAgg3
  z3 := Tryz.sizeOf3
  v3 := Tryz.zeroValue3
  t4 := Tryz.underlying4
  a4 := Tryz.isAgg4
  z4 := Tryz.sizeOf4
  v4 := Tryz.zeroValue4
  t5 := Tryz.underlying5
  a5 := Tryz.isAgg5
  z5 := Tryz.sizeOf5
  v5 := Tryz.zeroValue5
  t9 := Tryz.underlying9
  a9 := Tryz.isAgg9
  z9 := Tryz.sizeOf9
  v9 := Tryz.zeroValue9
  t20 := Tryz.underlying20
  a20 := Tryz.isAgg20
  z20 := Tryz.sizeOf20
  v20 := Tryz.zeroValue20
  t21 := Tryz.underlying21
  a21 := Tryz.isAgg21
  z21 := Tryz.sizeOf21
  v21 := Tryz.zeroValue21
  t37 := Tryz.underlying22
  a37 := Tryz.isAgg22
  z37 := Tryz.sizeOf22
  v37 := Tryz.zeroValue22
  t46 := Tryz.underlying133
  a46 := Tryz.isAgg133
  z46 := Tryz.sizeOf133
  v46 := Tryz.zeroValue133
  t51 := Tryz.underlying154
  a51 := Tryz.isAgg154
  z51 := Tryz.sizeOf154
  v51 := Tryz.zeroValue154
  t53 := Tryz.underlying134
  a53 := Tryz.isAgg134
  z53 := Tryz.sizeOf134
  v53 := Tryz.zeroValue134
  t75 := Tryz.underlying55
  a75 := Tryz.isAgg55
  z75 := Tryz.sizeOf55
  v75 := Tryz.zeroValue55
  t76 := Tryz.underlying56
  a76 := Tryz.isAgg56
  z76 := Tryz.sizeOf56
  v76 := Tryz.zeroValue56
  t85 := Tryz.underlying113
  a85 := Tryz.isAgg113
  z85 := Tryz.sizeOf113
  v85 := Tryz.zeroValue113
  t127 := Tryz.underlying88
  a127 := Tryz.isAgg88
  z127 := Tryz.sizeOf88
  v127 := Tryz.zeroValue88
  t143 := Tryz.underlying158
  a143 := Tryz.isAgg158
  z143 := Tryz.sizeOf158
  v143 := Tryz.zeroValue158
  t145 := Tryz.underlying160
  a145 := Tryz.isAgg160
  z145 := Tryz.sizeOf160
  v145 := Tryz.zeroValue160
  t167 := Tryz.underlying112
  a167 := Tryz.isAgg112
  z167 := Tryz.sizeOf112
  v167 := Tryz.zeroValue112
  t168 := Tryz.underlying115
  a168 := Tryz.isAgg115
  z168 := Tryz.sizeOf115
  v168 := Tryz.zeroValue115
  t171 := Tryz.underlying140
  a171 := Tryz.isAgg140
  z171 := Tryz.sizeOf140
  v171 := Tryz.zeroValue140
  t173 := Tryz.underlying143
  a173 := Tryz.isAgg143
  z173 := Tryz.sizeOf143
  v173 := Tryz.zeroValue143
  t175 := Tryz.underlying135
  a175 := Tryz.isAgg135
  z175 := Tryz.sizeOf135
  v175 := Tryz.zeroValue135
  t210 := Tryz.underlying138
  a210 := Tryz.isAgg138
  z210 := Tryz.sizeOf138
  v210 := Tryz.zeroValue138
  t212 := Tryz.underlying162
  a212 := Tryz.isAgg162
  z212 := Tryz.sizeOf162
  v212 := Tryz.zeroValue162
  t213 := Tryz.underlying163
  a213 := Tryz.isAgg163
  z213 := Tryz.sizeOf163
  t232 := Tryz.underlying177
  a232 := Tryz.isAgg177
  z232 := Tryz.sizeOf177
  v232 := Tryz.zeroValue177
  t233 := Tryz.underlying178
  a233 := Tryz.isAgg178
  z233 := Tryz.sizeOf178
  v233 := Tryz.zeroValue178
  g15 := by kernel_rfl
  g16 := by kernel_rfl
  g17 := by kernel_rfl
  g18 := by kernel_rfl
  g19 := by kernel_rfl
  t80 := Tryz.underlying60
  a80 := Tryz.isAgg60
  z80 := Tryz.sizeOf60
  v80 := Tryz.zeroValue60
  i0 := by kernel_rfl
  i2 := by kernel_rfl
  i3 := by kernel_rfl
  i4 := by kernel_rfl
  i5 := by kernel_rfl
  i9 := by kernel_rfl
  i20 := by kernel_rfl
  i21 := by kernel_rfl
  i37 := by kernel_rfl
  i46 := by kernel_rfl
  i51 := by kernel_rfl
  i53 := by kernel_rfl
  i75 := by kernel_rfl
  i76 := by kernel_rfl
  i80 := by kernel_rfl
  i85 := by kernel_rfl
  i127 := by kernel_rfl
  i143 := by kernel_rfl
  i145 := by kernel_rfl
  i167 := by kernel_rfl
  i168 := by kernel_rfl
  i171 := by kernel_rfl
  i173 := by kernel_rfl
  i175 := by kernel_rfl
  i210 := by kernel_rfl
  i212 := by kernel_rfl
  i232 := by kernel_rfl
  i233 := by kernel_rfl
  m15 := by kernel_rfl
  m16 := by kernel_rfl
  m17 := by kernel_rfl
  m18 := by kernel_rfl
  m19 := by kernel_rfl
  c0 := by kernel_rfl
  c2 := by kernel_rfl
  c3 := by kernel_rfl
  c4 := by kernel_rfl
  c5 := by kernel_rfl
  c9 := by kernel_rfl
  c20 := by kernel_rfl
  c21 := by kernel_rfl
  c37 := by kernel_rfl
  c46 := by kernel_rfl
  c51 := by kernel_rfl
  c53 := by kernel_rfl
  c75 := by kernel_rfl
  c76 := by kernel_rfl
  c80 := by kernel_rfl
  c85 := by kernel_rfl
  c127 := by kernel_rfl
  c143 := by kernel_rfl
  c145 := by kernel_rfl
  c167 := by kernel_rfl
  c168 := by kernel_rfl
  c171 := by kernel_rfl
  c173 := by kernel_rfl
  c175 := by kernel_rfl
  c210 := by kernel_rfl
  c212 := by kernel_rfl
  c213 := by kernel_rfl
  c232 := by kernel_rfl
  c233 := by kernel_rfl }
def strconv_Atoi (s1 : Str) : Option (Int × Bool) :=
 guardO (s1.length ≤ 281474976710656) <|
 match Lib.atoiAll s1 with
 | .ok v => some (v, false)
 | .range => some (Lib.atoiSat s1, true)
 | _ => some (0, true)
theorem strconv_Atoi_ok (s1 : Str) (i2 : Int) (b3 : Bool) (h : strconv_Atoi s1 = some (i2, b3)) : FOk EE 39 [S s1] [] (.tup [.e (cI i2), .e (.err b3)]) [] := by
  unfold strconv_Atoi at h
  refine guardO_e h (fun hg h => ?_)
  refine FOk_numErr (args := [.str s1]) (fun w hw => ?_)
  rcases ha : Lib.atoiAll s1 with v | _ | _
  · rw [ha] at h
    cases h
    refine (Any.strconv_Atoi_ok lays172 ⟨⟨s1⟩⟩ (Nat.le_trans hg (by decide)) i2 ha w).mono ?_
    rintro e w' ⟨rfl, hw'⟩
    refine ⟨⟨_, rfl, rfl⟩, ?_⟩
    rcases hw' with rfl | ⟨t, rfl⟩
    · exact RowKit.Below.refl _ _
    · exact Lib.bytesWorld_below _ _ _
  · rw [ha] at h
    cases h
    obtain ⟨ev, h1, h2⟩ := KK_syn w hw
    refine (Any.strconv_Atoi_syntax lays172 ⟨⟨s1⟩⟩ hg ha ev w h1 h2).mono ?_
    rintro e w' ⟨N, rfl, _, _, hb⟩
    exact ⟨⟨_, rfl, _, _, rfl⟩, hb⟩
  · rw [ha] at h
    cases h
    obtain ⟨ev, h1, h2⟩ := KK_rng w hw
    refine (Any.strconv_Atoi_range lays172 ⟨⟨s1⟩⟩ hg ha ev w h1 h2).mono ?_
    rintro e w' ⟨N, rfl, _, _, hb⟩
    exact ⟨⟨_, rfl, _, _, rfl⟩, hb⟩

/- bytealg.LastIndexByteString -/
def bytealg_LastIndexByteString_L1 (s1 : Str) (i2 : Int) : Nat → Int → Option ((Int) ⊕ (Unit))
| 0, _ => none
| n + 1, i48 =>
 iteO (decide (0 ≤ i48))
 (guardO (0 ≤ i48 ∧ i48 < ((s1.length : Nat) : Int)) <|
 iteO (decide (((s1.getD i48.toNat 0).toNat : Int) = i2))
 (some (.inl i48))
 (bytealg_LastIndexByteString_L1 s1 i2 n (w64 (i48 - 1))))
 (some (.inr ()))

theorem bytealg_LastIndexByteString_L1_ok (w : World) (X : Nat → Prop) (θ : List Loc) (s1 : Str) (i2 : Int) (v : (Int) ⊕ (Unit)) : ∀ (n : Nat) (i48 : Int), bytealg_LastIndexByteString_L1 s1 i2 n i48 = some v → WL EE ⟨w, X, θ, 19, 0⟩ (subC [1, 0, 1, 4, 4] (bodyC Tryz.f106)) (fun (e : Exit) (s : St) => (match v with | (.inl i58) => e = .ret ∧ s = ⟨[(4, I i58)], []⟩ | (.inr _) => e = .exit 0 ∧ s = ⟨[], []⟩ : Prop)) ⟨[(0, S s1), (1, U i2), (5, I i48)], []⟩ := by
  intro n
  induction n with
  | zero => intro _ h; exact none_e h
  | succ n ih =>
    intro i48 h
    rw [bytealg_LastIndexByteString_L1] at h
    refine WL_round ?_
    refine W_seq (Wsr ((Wp 2 [] [0, 1, 5, 10] T2 ⟨[(0, S s1), (1, U i2), (5, I i48), (10, B (decide (0 ≤ i48)))], []⟩ t2 (Wnt ((iteO_e h (fun hb61 h => W_true rfl hb61 ?_) (fun hb61 h => W_false rfl hb61 ?_)))))))
    ·refine Ww [] [0, 1, 5] ⟨[(0, S s1), (1, U i2), (5, I i48)], []⟩ (W_skip (thenS_n (W_seq (W_block (Wsr ((guardO_e h (fun hg65 h => (Wp 5 [] [0, 1, 5, 17] ((0 ≤ i48 ∧ i48 < (lI s1)) ∧ T2) ⟨[(0, S s1), (1, U i2), (5, I i48), (17, B (decide (((s1.getD i48.toNat 0).toNat : Int) = i2)))], []⟩ ⟨hg65, trivial, trivial⟩ (Wnt ((iteO_e h (fun hb67 h => W_true rfl hb67 ?_) (fun hb67 h => W_false rfl hb67 ?_)))))))))))))
     ·refine Wsr ((Ws 2 [] [4] ⟨[(4, I i48)], []⟩ (Wnt ((W_ret (blockS_r (thenS_r (thenS_r ?_))))))))
      cases h
      exact aI rfl rfl
     ·refine Ww [] [0, 1, 5] ⟨[(0, S s1), (1, U i2), (5, I i48)], []⟩ (W_skip (blockS_n (thenS_n (W_region (Wp 3 [] [0, 1, 5] T2 ⟨[(0, S s1), (1, U i2), (5, I (w64 (i48 - 1)))], []⟩ t2 (Wnt (?_)))))))
      exact ih _ h
    ·refine Ww [] [] ⟨[], []⟩ (W_exit (thenS_e (thenS_e ?_)))
     cases h
     exact aI rfl rfl

def bytealg_LastIndexByteString (n : Nat) (s1 : Str) (i2 : Int) : Option (Int) :=
 bindO (bytealg_LastIndexByteString_L1 s1 i2 n (w64 (((s1.length : Nat) : Int) - 1))) fun v68 =>
 match v68 with
 | (.inl i58) => (some i58)
 | (.inr _) => (some (-1))


theorem bytealg_LastIndexByteString_ok (n : Nat) (s1 : Str) (i2 : Int) (i35 : Int) (h : bytealg_LastIndexByteString n s1 i2 = some i35) : FOk EE 106 [S s1, U i2] [] (I i35) [] := by
  unfold bytealg_LastIndexByteString at h
  refine FOk_of_W 19 0 Tryz.func106 rfl rfl (Nat.le_of_ble_eq_true rfl) rfl (fun w X θ => ?_)
  refine Wsr ((Ws 1 [] [0, 1] ⟨[(0, S s1), (1, U i2)], []⟩ (Wnt ((W_seq (W_seq ?_))))))
  refine W_region (Wp 4 [] [0, 1, 5] T3 ⟨[(0, S s1), (1, U i2), (5, I (w64 ((lI s1) - 1)))], []⟩ t3 (Wnt ((W_block (W_loop (bindO_e h (fun v68 hv68 h => ?_)))))))
  refine WL_cut (bytealg_LastIndexByteString_L1_ok w X θ s1 i2 v68 n (w64 ((lI s1) - 1)) hv68) ?_
  rcases v68 with i58 | _
  ·rintro _ _ ⟨rfl, rfl⟩
   refine blockS_r (thenS_r ?_)
   cases h
   exact ⟨[], True, by kernel_rfl, trivial⟩
  ·rintro _ _ ⟨rfl, rfl⟩
   refine blockS_y (thenS_n (Wsr ((Ws 1 [] [4] ⟨[(4, I (-1))], []⟩ (Wnt ((W_ret ?_)))))))
   cases h
   exact ⟨[], True, by kernel_rfl, trivial⟩

/- strings.LastIndexByte -/
def strings_LastIndexByte (n : Nat) (s1 : Str) (i2 : Int) : Option (Int) :=
 bindO (bytealg_LastIndexByteString n s1 i2) fun i6 =>
 some i6

theorem strings_LastIndexByte_ok (n : Nat) (s1 : Str) (i2 : Int) (i5 : Int) (h : strings_LastIndexByte n s1 i2 = some i5) : FOk EE 70 [S s1, U i2] [] (I i5) [] := by
  unfold strings_LastIndexByte at h
  refine FOk_of_W 8 0 Tryz.func70 rfl rfl (Nat.le_of_ble_eq_true rfl) rfl (fun w X θ => ?_)
  refine Wsr ((Ws 1 [] [0, 1] ⟨[(0, S s1), (1, U i2)], []⟩ (Wnt ((W_seq (W_region ?_))))))
  refine Ws 2 [] [5, 6] ⟨[(5, S s1), (6, U i2)], []⟩ (bindO_e h (fun i6 hc7 h => (Wc [] rfl rfl rfl Tryz.func106 rfl (bytealg_LastIndexByteString_ok n s1 i2 i6 hc7) (trivial) rfl (Ws 1 [] [4] ⟨[(4, I i6)], []⟩ (Wnt ((W_ret ?_)))))))
  cases h
  exact ⟨[], True, by kernel_rfl, trivial⟩

/- impl.within -/
def impl_within (i1 : Int) (i2 : Int) (i3 : Int) : Bool :=
((decide (i2 ≤ i1)) && (decide (i1 ≤ i3)))

theorem impl_within_ok (i1 : Int) (i2 : Int) (i3 : Int) : FOk EE 49 [I i1, I i2, I i3] [] (B (impl_within i1 i2 i3)) [] := by
  refine FOk_of_W 15 0 Tryz.func49 rfl rfl (Nat.le_of_ble_eq_true rfl) rfl (fun w X θ => ?_)
  refine Wsr ((Ws 1 [] [0, 1, 2] ⟨[(0, I i1), (1, I i2), (2, I i3)], []⟩ (Wnt ((W_seq (W_region ?_))))))
  refine Wp 4 [] [0, 2, 10] T2 ⟨[(0, I i1), (2, I i3), (10, B (decide (i2 ≤ i1)))], []⟩ t2 (WO_thru ⟨[(6, B ((decide (i2 ≤ i1)) && (decide (i1 ≤ i3))))], []⟩ ?_ ?_)
  ·refine WO_if 10 rfl (fun hb10 => ?_) (fun hb10 => ?_)
   ·refine Wp 5 [] [6] T2 ⟨[(6, B (decide (i1 ≤ i3)))], []⟩ t2 ?_
    exact WO_nil rfl ⟨rfl, by first | rfl | (rw [hb10]; first | done | rfl)⟩
   ·refine Ws 5 [] [6] ⟨[(6, B false)], []⟩ ?_
    exact WO_nil rfl ⟨rfl, by first | rfl | (rw [hb10]; first | done | rfl)⟩
  ·refine thenS_n (W_ret ?_)
   exact ⟨[], True, by kernel_rfl, trivial⟩

/- impl.isName -/
def impl_isName_L1 (s1 : Str) : Nat → Int → Option ((Unit) ⊕ (Unit))
| 0, _ => none
| n + 1, i96 =>
 iteO (decide (i96 < ((s1.length : Nat) : Int)))
 (guardO (0 ≤ i96 ∧ i96 < ((s1.length : Nat) : Int)) <|
 bindO (iteO (decide (((s1.getD i96.toNat 0).toNat : Int) < 97))
 (some true)
 (guardO (0 ≤ i96 ∧ i96 < ((s1.length : Nat) : Int)) <|
 some (decide (122 < ((s1.getD i96.toNat 0).toNat : Int))))) fun b133 =>
 iteO b133
 (some (.inl ()))
 (impl_isName_L1 s1 n (w64 (i96 + 1))))
 (some (.inr ()))

theorem impl_isName_L1_ok (w : World) (X : Nat → Prop) (θ : List Loc) (s1 : Str) (v : (Unit) ⊕ (Unit)) : ∀ (n : Nat) (i96 : Int), impl_isName_L1 s1 n i96 = some v → WL EE ⟨w, X, θ, 24, 0⟩ (subC [1, 1, 0, 1, 4, 4] (bodyC Tryz.f50)) (fun (e : Exit) (s : St) => (match v with | (.inl _) => e = .ret ∧ s = ⟨[(2, B false)], []⟩ | (.inr _) => e = .exit 0 ∧ s = ⟨[], []⟩ : Prop)) ⟨[(0, S s1), (9, I ((s1.length : Nat) : Int)), (10, I i96)], []⟩ := by
  intro n
  induction n with
  | zero => intro _ h; exact none_e h
  | succ n ih =>
    intro i96 h
    rw [impl_isName_L1] at h
    refine WL_round ?_
    refine Wsr ((Wp 1 [] [0, 9, 10, 11] T2 ⟨[(0, S s1), (9, I (lI s1)), (10, I i96), (11, B (decide (i96 < (lI s1))))], []⟩ t2 (Wnt ((W_seq (iteO_e h (fun hb120 h => W_true rfl hb120 ?_) (fun hb120 h => W_false rfl hb120 ?_)))))))
    ·refine Ww [] [0, 9, 10] ⟨[(0, S s1), (9, I (lI s1)), (10, I i96)], []⟩ (W_skip (thenS_n (W_seq (W_block (Wsr ((Ws 2 [] [0, 3, 9, 10] ⟨[(0, S s1), (3, I i96), (9, I (lI s1)), (10, I i96)], []⟩ (Wnt ((Wsr ((guardO_e h (fun hg130 h => (Wp 5 [] [0, 3, 9, 10, 17] ((0 ≤ i96 ∧ i96 < (lI s1)) ∧ T2) ⟨[(0, S s1), (3, I i96), (9, I (lI s1)), (10, I i96), (17, B (decide (((s1.getD i96.toNat 0).toNat : Int) < 97)))], []⟩ ⟨hg130, trivial, trivial⟩ (bindO_e h (fun b133 hv134 h => (WO_thru ⟨[(0, S s1), (9, I (lI s1)), (10, I i96), (22, B b133)], []⟩ ?_ ?_)))))))))))))))))
     ·refine iteO_e hv134 (fun hb135 hv134 => WO_known 17 true rfl hb135 ?_) (fun hb135 hv134 => WO_known 17 false rfl hb135 ?_)
      ·refine Ws 5 [] [0, 9, 10, 22] ⟨[(0, S s1), (9, I (lI s1)), (10, I i96), (22, B true)], []⟩ ?_
       cases hv134
       exact WO_nil rfl ⟨rfl, rfl⟩
      ·refine guardO_e hv134 (fun hg136 hv134 => (Wp 5 [] [0, 9, 10, 22] ((0 ≤ i96 ∧ i96 < (lI s1)) ∧ T2) ⟨[(0, S s1), (9, I (lI s1)), (10, I i96), (22, B (decide (122 < ((s1.getD i96.toNat 0).toNat : Int))))], []⟩ ⟨hg136, trivial, trivial⟩ ?_))
       cases hv134
       exact WO_nil rfl ⟨rfl, rfl⟩
     ·refine thenS_n (iteO_e h (fun hb138 h => W_true rfl hb138 ?_) (fun hb138 h => W_false rfl hb138 ?_))
      ·refine Wsr ((Ws 1 [] [2] ⟨[(2, B false)], []⟩ (Wnt ((W_ret (blockS_r (thenS_r (thenS_r ?_))))))))
       cases h
       exact aI rfl rfl
      ·refine Ww [] [0, 9, 10] ⟨[(0, S s1), (9, I (lI s1)), (10, I i96)], []⟩ (W_skip (blockS_n (thenS_n (W_region (Wp 2 [] [0, 9, 10] T2 ⟨[(0, S s1), (9, I (lI s1)), (10, I (w64 (i96 + 1)))], []⟩ t2 (Wnt (?_)))))))
       exact ih _ h
    ·refine Ww [] [] ⟨[], []⟩ (W_exit (thenS_e (thenS_e ?_)))
     cases h
     exact aI rfl rfl

def impl_isName (n : Nat) (s1 : Str) : Option (Bool) :=
 iteO (!(impl_within ((s1.length : Nat) : Int) 1 4))
 (some false)
 (bindO (impl_isName_L1 s1 n 0) fun v139 =>
 match v139 with
 | (.inl _) => (some false)
 | (.inr _) => (some true)
)

theorem impl_isName_ok (n : Nat) (s1 : Str) (b70 : Bool) (h : impl_isName n s1 = some b70) : FOk EE 50 [S s1] [] (B b70) [] := by
  unfold impl_isName at h
  refine FOk_of_W 24 0 Tryz.func50 rfl rfl (Nat.le_of_ble_eq_true rfl) rfl (fun w X θ => ?_)
  refine Wsr ((Ws 1 [] [0] ⟨[(0, S s1)], []⟩ (Wnt ((W_seq (W_seq ?_))))))
  refine W_region (Wp 2 [] [0, 5] T2 ⟨[(0, S s1), (5, I (lI s1))], []⟩ t2 (Wc [] rfl rfl rfl Tryz.func49 rfl (impl_within_ok (lI s1) 1 4) (trivial) rfl (Ws 1 [] [0, 7] ⟨[(0, S s1), (7, B (!(impl_within (lI s1) 1 4)))], []⟩ (Wnt ((iteO_e h (fun hb72 h => W_true rfl hb72 ?_) (fun hb72 h => W_false rfl hb72 ?_)))))))
  ·refine Wsr ((Ws 1 [] [2] ⟨[(2, B false)], []⟩ (Wnt ((W_ret (thenS_r ?_))))))
   cases h
   exact ⟨[], True, by kernel_rfl, trivial⟩
  ·refine Ww [] [0] ⟨[(0, S s1)], []⟩ (W_skip (thenS_n (W_seq (Wsr ((Wp 3 [] [0, 9, 10] T2 ⟨[(0, S s1), (9, I (lI s1)), (10, I 0)], []⟩ t2 (Wnt ((W_block (W_loop (bindO_e h (fun v139 hv139 h => (WL_cut (impl_isName_L1_ok w X θ s1 v139 n 0 hv139) ?_)))))))))))))
   rcases v139 with _ | _
   ·rintro _ _ ⟨rfl, rfl⟩
    refine blockS_r (thenS_r ?_)
    cases h
    exact ⟨[], True, by kernel_rfl, trivial⟩
   ·rintro _ _ ⟨rfl, rfl⟩
    refine blockS_y (thenS_n (Wsr ((Ws 1 [] [2] ⟨[(2, B true)], []⟩ (Wnt ((W_ret ?_)))))))
    cases h
    exact ⟨[], True, by kernel_rfl, trivial⟩

/- impl.kidIn -/
def impl_kidIn_L1 (i2 : Int) (s3 : Str) (x1 : List Nod) : Nat → Int → Option ((Int) ⊕ (Unit))
| 0, _ => none
| n + 1, i73 =>
 iteO (decide (i73 < ((x1.length : Nat) : Int)))
 (guardO (0 ≤ i73 ∧ i73 < ((x1.length : Nat) : Int)) <|
 iteO ((decide (((x1.getD i73.toNat dnod).parent) = i2)) && (decide (((x1.getD i73.toNat dnod).name) = s3)))
 (some (.inl i73))
 (impl_kidIn_L1 i2 s3 x1 n (w64 (i73 + 1))))
 (some (.inr ()))

theorem impl_kidIn_L1_ok (w : World) (X : Nat → Prop) (θ : List Loc) (i2 : Int) (s3 : Str) (x1 : List Nod) (v : (Int) ⊕ (Unit)) : ∀ (n : Nat) (i73 : Int), impl_kidIn_L1 i2 s3 x1 n i73 = some v → WL EE ⟨w, X, θ, 28, 1⟩ (subC [1, 0, 1, 4, 4] (bodyC Tryz.f51)) (fun (e : Exit) (s : St) => (match v with | (.inl i89) => e = .ret ∧ s = ⟨[(6, I i89)], [nR x1]⟩ | (.inr _) => e = .exit 0 ∧ s = ⟨[], [nR x1]⟩ : Prop)) ⟨[(1, I i2), (2, S s3), (9, sF 0 x1), (10, I ((x1.length : Nat) : Int)), (11, I i73)], [nR x1]⟩ := by
  intro n
  induction n with
  | zero => intro _ h; exact none_e h
  | succ n ih =>
    intro i73 h
    rw [impl_kidIn_L1] at h
    refine WL_round ?_
    refine Wsr ((Wp 1 [0] [1, 2, 9, 10, 11, 12] T2 ⟨[(1, I i2), (2, S s3), (9, sF 0 x1), (10, I (lI x1)), (11, I i73), (12, B (decide (i73 < (lI x1))))], [nR x1]⟩ t2 (Wnt ((W_seq (iteO_e h (fun hb92 h => W_true rfl hb92 ?_) (fun hb92 h => W_false rfl hb92 ?_)))))))
    ·refine Ww [0] [1, 2, 9, 10, 11] ⟨[(1, I i2), (2, S s3), (9, sF 0 x1), (10, I (lI x1)), (11, I i73)], [nR x1]⟩ (W_skip (thenS_n (W_seq (W_block (Wsr ((guardO_e h (fun hg99 h => (Wp 6 [0, 1] [1, 2, 7, 8, 9, 10, 11] ((0 ≤ i73 ∧ i73 < (lI x1)) ∧ T4) ⟨[(1, I i2), (2, S s3), (7, I i73), (8, pA 1 0), (9, sF 0 x1), (10, I (lI x1)), (11, I i73)], [nR x1, .cells [cI ((x1.getD i73.toNat dnod).parent), cS ((x1.getD i73.toNat dnod).name), cI ((x1.getD i73.toNat dnod).value)]]⟩ ⟨hg99, trivial, trivial, trivial, trivial⟩ (Wnt ((Wsr ((Wp 5 [0, 1] [1, 2, 7, 8, 9, 10, 11, 20] T3 ⟨[(1, I i2), (2, S s3), (7, I i73), (8, pA 1 0), (9, sF 0 x1), (10, I (lI x1)), (11, I i73), (20, B (decide (((x1.getD i73.toNat dnod).parent) = i2)))], [nR x1, .cells [cI ((x1.getD i73.toNat dnod).parent), cS ((x1.getD i73.toNat dnod).name), cI ((x1.getD i73.toNat dnod).value)]]⟩ t3 (WO_thru ⟨[(1, I i2), (2, S s3), (7, I i73), (9, sF 0 x1), (10, I (lI x1)), (11, I i73), (25, B ((decide (((x1.getD i73.toNat dnod).parent) = i2)) && (decide (((x1.getD i73.toNat dnod).name) = s3))))], [nR x1]⟩ ?_ ?_)))))))))))))))
     ·refine WO_if 20 rfl (fun hb102 => ?_) (fun hb102 => ?_)
      ·refine Wp 5 [0] [1, 2, 7, 9, 10, 11, 25] T3 ⟨[(1, I i2), (2, S s3), (7, I i73), (9, sF 0 x1), (10, I (lI x1)), (11, I i73), (25, B (decide (((x1.getD i73.toNat dnod).name) = s3)))], [nR x1]⟩ t3 ?_
       exact WO_nil rfl ⟨rfl, by first | rfl | (rw [hb102]; first | done | rfl)⟩
      ·refine Ws 5 [0] [1, 2, 7, 9, 10, 11, 25] ⟨[(1, I i2), (2, S s3), (7, I i73), (9, sF 0 x1), (10, I (lI x1)), (11, I i73), (25, B false)], [nR x1]⟩ ?_
       exact WO_nil rfl ⟨rfl, by first | rfl | (rw [hb102]; first | done | rfl)⟩
     ·refine thenS_n (iteO_e h (fun hb104 h => W_true rfl hb104 ?_) (fun hb104 h => W_false rfl hb104 ?_))
      ·refine Wsr ((Ws 2 [0] [6] ⟨[(6, I i73)], [nR x1]⟩ (Wnt ((W_ret (blockS_r (thenS_r (thenS_r ?_))))))))
       cases h
       exact aI rfl rfl
      ·refine Ww [0] [1, 2, 9, 10, 11] ⟨[(1, I i2), (2, S s3), (9, sF 0 x1), (10, I (lI x1)), (11, I i73)], [nR x1]⟩ (W_skip (blockS_n (thenS_n (W_region (Wp 2 [0] [1, 2, 9, 10, 11] T2 ⟨[(1, I i2), (2, S s3), (9, sF 0 x1), (10, I (lI x1)), (11, I (w64 (i73 + 1)))], [nR x1]⟩ t2 (Wnt (?_)))))))
       exact ih _ h
    ·refine Ww [0] [] ⟨[], [nR x1]⟩ (W_exit (thenS_e (thenS_e ?_)))
     cases h
     exact aI rfl rfl

def impl_kidIn (n : Nat) (x1 : List Nod) (i2 : Int) (s3 : Str) : Option (Int) :=
 bindO (impl_kidIn_L1 i2 s3 x1 n 0) fun v105 =>
 match v105 with
 | (.inl i89) => (some i89)
 | (.inr _) => (some (-1))


theorem impl_kidIn_ok (n : Nat) (x1 : List Nod) (i2 : Int) (s3 : Str) (i54 : Int) (h : impl_kidIn n x1 i2 s3 = some i54) : FOk EE 51 [sF 0 x1, I i2, S s3] [nR x1] (I i54) [nR x1] := by
  unfold impl_kidIn at h
  refine FOk_of_W 28 1 Tryz.func51 rfl rfl (Nat.le_of_ble_eq_true rfl) rfl (fun w X θ => ?_)
  refine Wsr ((Ws 1 [0] [0, 1, 2] ⟨[(0, sF 0 x1), (1, I i2), (2, S s3)], [nR x1]⟩ (Wnt ((W_seq (W_seq ?_))))))
  refine W_region (Wp 3 [0] [1, 2, 9, 10, 11] T2 ⟨[(1, I i2), (2, S s3), (9, sF 0 x1), (10, I (lI x1)), (11, I 0)], [nR x1]⟩ t2 (Wnt ((W_block (W_loop (bindO_e h (fun v105 hv105 h => ?_)))))))
  refine WL_cut (impl_kidIn_L1_ok w X θ i2 s3 x1 v105 n 0 hv105) ?_
  rcases v105 with i89 | _
  ·rintro _ _ ⟨rfl, rfl⟩
   refine blockS_r (thenS_r ?_)
   cases h
   exact ⟨[0], True, by kernel_rfl, trivial⟩
  ·rintro _ _ ⟨rfl, rfl⟩
   refine blockS_y (thenS_n (Wsr ((Ws 1 [0] [6] ⟨[(6, I (-1))], [nR x1]⟩ (Wnt ((W_ret ?_)))))))
   cases h
   exact ⟨[0], True, by kernel_rfl, trivial⟩

/- impl.ValidTree -/
def impl_ValidTree_L1 (x1 : List Nod) : Nat → (List Int) → Int → Option ((Unit) ⊕ (Unit))
| 0, _, _ => none
| n + 1, x164, i165 =>
 iteO (decide (i165 < ((x1.length : Nat) : Int)))
 (bindO (guardO (0 ≤ i165 ∧ i165 < ((x1.length : Nat) : Int)) <|
 iteO (!(impl_within ((x1.getD i165.toNat dnod).value) (-1000) 1000))
 (some (.inl ()))
 (iteO (decide (i165 = 0))
 (some (.inr x164))
 (bindO (iteO (!(impl_within ((x1.getD i165.toNat dnod).parent) 0 (w64 (i165 - 1))))
 (some true)
 (bindO (impl_isName n ((x1.getD i165.toNat dnod).name)) fun b238 =>
 some (!b238))) fun b235 =>
 iteO b235
 (some (.inl ()))
 (guardO (0 ≤ i165 ∧ i165 ≤ ((x1.length : Nat) : Int)) <|
 bindO (impl_kidIn n ((x1.drop 0).take i165.toNat) ((x1.getD i165.toNat dnod).parent) ((x1.getD i165.toNat dnod).name)) fun i243 =>
 iteO (decide (0 ≤ i243))
 (some (.inl ()))
 (guardO (0 ≤ (x1.getD i165.toNat dnod).parent ∧ (x1.getD i165.toNat dnod).parent < ((x164.length : Nat) : Int)) <|
 guardO (0 ≤ i165 ∧ i165 < ((x164.length : Nat) : Int)) <|
 guardO (0 ≤ i165 ∧ i165 < (((x164.set i165.toNat (w64 ((x164.getD (((x1.getD i165.toNat dnod).parent).toNat) 0) + 1))).length : Nat) : Int)) <|
 iteO (decide (4 < ((x164.set i165.toNat (w64 ((x164.getD (((x1.getD i165.toNat dnod).parent).toNat) 0) + 1))).getD i165.toNat 0)))
 (some (.inl ()))
 (some (.inr (x164.set i165.toNat (w64 ((x164.getD (((x1.getD i165.toNat dnod).parent).toNat) 0) + 1))))))))) : Option ((Unit) ⊕ ((List Int)))) fun v226 =>
 match v226 with
 | (.inl _) => (some (.inl ()))
 | (.inr x225) => (impl_ValidTree_L1 x1 n x225 (w64 (i165 + 1)))
)
 (some (.inr ()))

theorem impl_ValidTree_L1_ok (w : World) (X : Nat → Prop) (θ : List Loc) (x1 : List Nod) (v : (Unit) ⊕ (Unit)) : ∀ (n : Nat) (x164 : List Int) (i165 : Int), impl_ValidTree_L1 x1 n x164 i165 = some v → WL EE ⟨w, X, θ, 78, 1⟩ (subC [1, 1, 1, 1, 0, 1, 4, 4] (bodyC Tryz.f18)) (fun (e : Exit) (s : St) => (match v with | (.inl _) => e = .ret ∧ s = ⟨[(2, B false)], [nR x1]⟩ | (.inr _) => e = .exit 0 ∧ s = ⟨[], [nR x1]⟩ : Prop)) ⟨[(0, sF 0 x1), (3, sF 1 x164), (29, sF 0 x1), (30, I ((x1.length : Nat) : Int)), (31, I i165)], [nR x1, iO x164]⟩ := by
  intro n
  induction n with
  | zero => intro _ _ h; exact none_e h
  | succ n ih =>
    intro x164 i165 h
    rw [impl_ValidTree_L1] at h
    refine WL_round ?_
    refine Wsr ((Wp 1 [0, 1] [0, 3, 29, 30, 31, 32] T2 ⟨[(0, sF 0 x1), (3, sF 1 x164), (29, sF 0 x1), (30, I (lI x1)), (31, I i165), (32, B (decide (i165 < (lI x1))))], [nR x1, iO x164]⟩ t2 (Wnt ((W_seq (iteO_e h (fun hb199 h => W_true rfl hb199 ?_) (fun hb199 h => W_false rfl hb199 ?_)))))))
    ·refine Ww [0, 1] [0, 3, 29, 30, 31] ⟨[(0, sF 0 x1), (3, sF 1 x164), (29, sF 0 x1), (30, I (lI x1)), (31, I i165)], [nR x1, iO x164]⟩ (W_skip (thenS_n (W_seq (bindO_e h (fun v226 hv226 h => (W_cut (Q' := fun (e : Exit) (s : St) => (match v226 with | (.inl _) => e = .ret ∧ s = ⟨[(2, B false)], [nR x1]⟩ | (.inr x225) => e = .normal ∧ s = ⟨[(0, sF 0 x1), (3, sF 1 x225), (29, sF 0 x1), (30, I (lI x1)), (31, I i165)], [nR x1, iO x225]⟩ : Prop)) ?_ ?_))))))
     ·refine W_block (Wsr ((guardO_e hv226 (fun hg227 hv226 => (Wp 6 [0, 1, 2] [0, 3, 4, 5, 29, 30, 31] ((0 ≤ i165 ∧ i165 < (lI x1)) ∧ T4) ⟨[(0, sF 0 x1), (3, sF 1 x164), (4, I i165), (5, pA 2 0), (29, sF 0 x1), (30, I (lI x1)), (31, I i165)], [nR x1, iO x164, .cells [cI ((x1.getD i165.toNat dnod).parent), cS ((x1.getD i165.toNat dnod).name), cI ((x1.getD i165.toNat dnod).value)]]⟩ ⟨hg227, trivial, trivial, trivial, trivial⟩ (Wnt ((W_seq (Wsr ((Wp 2 [0, 1, 2] [0, 3, 4, 5, 29, 30, 31, 37] T2 ⟨[(0, sF 0 x1), (3, sF 1 x164), (4, I i165), (5, pA 2 0), (29, sF 0 x1), (30, I (lI x1)), (31, I i165), (37, I ((x1.getD i165.toNat dnod).value))], [nR x1, iO x164, .cells [cI ((x1.getD i165.toNat dnod).parent), cS ((x1.getD i165.toNat dnod).name), cI ((x1.getD i165.toNat dnod).value)]]⟩ t2 (Wc [] rfl rfl rfl Tryz.func49 rfl (impl_within_ok ((x1.getD i165.toNat dnod).value) (-1000) 1000) (trivial) rfl (Ws 1 [0, 1, 2] [0, 3, 4, 5, 29, 30, 31, 39] ⟨[(0, sF 0 x1), (3, sF 1 x164), (4, I i165), (5, pA 2 0), (29, sF 0 x1), (30, I (lI x1)), (31, I i165), (39, B (!(impl_within ((x1.getD i165.toNat dnod).value) (-1000) 1000)))], [nR x1, iO x164, .cells [cI ((x1.getD i165.toNat dnod).parent), cS ((x1.getD i165.toNat dnod).name), cI ((x1.getD i165.toNat dnod).value)]]⟩ (Wnt ((iteO_e hv226 (fun hb229 hv226 => W_true rfl hb229 ?_) (fun hb229 hv226 => W_false rfl hb229 ?_)))))))))))))))))
      ·refine Wsr ((Ws 1 [0] [2] ⟨[(2, B false)], [nR x1]⟩ (Wnt ((W_ret (thenS_r (blockS_r ?_)))))))
       cases hv226
       exact aI rfl rfl
      ·refine Ww [0, 1, 2] [0, 3, 4, 5, 29, 30, 31] ⟨[(0, sF 0 x1), (3, sF 1 x164), (4, I i165), (5, pA 2 0), (29, sF 0 x1), (30, I (lI x1)), (31, I i165)], [nR x1, iO x164, .cells [cI ((x1.getD i165.toNat dnod).parent), cS ((x1.getD i165.toNat dnod).name), cI ((x1.getD i165.toNat dnod).value)]]⟩ (W_skip (thenS_n (W_seq (Wsr ((Wp 2 [0, 1, 2] [0, 3, 4, 5, 29, 30, 31, 41] T2 ⟨[(0, sF 0 x1), (3, sF 1 x164), (4, I i165), (5, pA 2 0), (29, sF 0 x1), (30, I (lI x1)), (31, I i165), (41, B (decide (i165 = 0)))], [nR x1, iO x164, .cells [cI ((x1.getD i165.toNat dnod).parent), cS ((x1.getD i165.toNat dnod).name), cI ((x1.getD i165.toNat dnod).value)]]⟩ t2 (Wnt ((iteO_e hv226 (fun hb231 hv226 => W_true rfl hb231 ?_) (fun hb231 hv226 => W_false rfl hb231 ?_))))))))))
       ·refine Ww [0, 1] [0, 3, 29, 30, 31] ⟨[(0, sF 0 x1), (3, sF 1 x164), (29, sF 0 x1), (30, I (lI x1)), (31, I i165)], [nR x1, iO x164]⟩ (W_exit (thenS_e (blockS_y ?_)))
        cases hv226
        exact aI rfl rfl
       ·refine Ww [0, 1, 2] [0, 3, 4, 5, 29, 30, 31] ⟨[(0, sF 0 x1), (3, sF 1 x164), (4, I i165), (5, pA 2 0), (29, sF 0 x1), (30, I (lI x1)), (31, I i165)], [nR x1, iO x164, .cells [cI ((x1.getD i165.toNat dnod).parent), cS ((x1.getD i165.toNat dnod).name), cI ((x1.getD i165.toNat dnod).value)]]⟩ (W_skip (thenS_n (W_seq (Wsr ((Wp 4 [0, 1, 2] [0, 3, 4, 5, 29, 30, 31, 43, 45] T3 ⟨[(0, sF 0 x1), (3, sF 1 x164), (4, I i165), (5, pA 2 0), (29, sF 0 x1), (30, I (lI x1)), (31, I i165), (43, I ((x1.getD i165.toNat dnod).parent)), (45, I (w64 (i165 - 1)))], [nR x1, iO x164, .cells [cI ((x1.getD i165.toNat dnod).parent), cS ((x1.getD i165.toNat dnod).name), cI ((x1.getD i165.toNat dnod).value)]]⟩ t3 (Wc [] rfl rfl rfl Tryz.func49 rfl (impl_within_ok ((x1.getD i165.toNat dnod).parent) 0 (w64 (i165 - 1))) (trivial) rfl (Ws 2 [0, 1, 2] [0, 3, 4, 5, 29, 30, 31, 48] ⟨[(0, sF 0 x1), (3, sF 1 x164), (4, I i165), (5, pA 2 0), (29, sF 0 x1), (30, I (lI x1)), (31, I i165), (48, B (!(impl_within ((x1.getD i165.toNat dnod).parent) 0 (w64 (i165 - 1)))))], [nR x1, iO x164, .cells [cI ((x1.getD i165.toNat dnod).parent), cS ((x1.getD i165.toNat dnod).name), cI ((x1.getD i165.toNat dnod).value)]]⟩ (bindO_e hv226 (fun b235 hv236 hv226 => (WO_thru ⟨[(0, sF 0 x1), (3, sF 1 x164), (4, I i165), (5, pA 2 0), (29, sF 0 x1), (30, I (lI x1)), (31, I i165), (53, B b235)], [nR x1, iO x164, .cells [cI ((x1.getD i165.toNat dnod).parent), cS ((x1.getD i165.toNat dnod).name), cI ((x1.getD i165.toNat dnod).value)]]⟩ ?_ ?_)))))))))))
        ·refine iteO_e hv236 (fun hb237 hv236 => WO_known 48 true rfl hb237 ?_) (fun hb237 hv236 => WO_known 48 false rfl hb237 ?_)
         ·refine Ws 5 [0, 1, 2] [0, 3, 4, 5, 29, 30, 31, 53] ⟨[(0, sF 0 x1), (3, sF 1 x164), (4, I i165), (5, pA 2 0), (29, sF 0 x1), (30, I (lI x1)), (31, I i165), (53, B true)], [nR x1, iO x164, .cells [cI ((x1.getD i165.toNat dnod).parent), cS ((x1.getD i165.toNat dnod).name), cI ((x1.getD i165.toNat dnod).value)]]⟩ ?_
          cases hv236
          exact WO_nil rfl ⟨rfl, rfl⟩
         ·refine Wp 2 [0, 1, 2] [0, 3, 4, 5, 29, 30, 31, 48, 50] T2 ⟨[(0, sF 0 x1), (3, sF 1 x164), (4, I i165), (5, pA 2 0), (29, sF 0 x1), (30, I (lI x1)), (31, I i165), (48, B false), (50, S ((x1.getD i165.toNat dnod).name))], [nR x1, iO x164, .cells [cI ((x1.getD i165.toNat dnod).parent), cS ((x1.getD i165.toNat dnod).name), cI ((x1.getD i165.toNat dnod).value)]]⟩ t2 (bindO_e hv236 (fun b238 hc239 hv236 => (Wc [] rfl rfl rfl Tryz.func50 rfl (impl_isName_ok n ((x1.getD i165.toNat dnod).name) b238 hc239) (trivial) rfl (Ws 2 [0, 1, 2] [0, 3, 4, 5, 29, 30, 31, 53] ⟨[(0, sF 0 x1), (3, sF 1 x164), (4, I i165), (5, pA 2 0), (29, sF 0 x1), (30, I (lI x1)), (31, I i165), (53, B (!b238))], [nR x1, iO x164, .cells [cI ((x1.getD i165.toNat dnod).parent), cS ((x1.getD i165.toNat dnod).name), cI ((x1.getD i165.toNat dnod).value)]]⟩ ?_))))
          cases hv236
          exact WO_nil rfl ⟨rfl, rfl⟩
        ·refine thenS_n (iteO_e hv226 (fun hb241 hv226 => W_true rfl hb241 ?_) (fun hb241 hv226 => W_false rfl hb241 ?_))
         ·refine Wsr ((Ws 1 [0] [2] ⟨[(2, B false)], [nR x1]⟩ (Wnt ((W_ret (thenS_r (blockS_r ?_)))))))
          cases hv226
          exact aI rfl rfl
         ·refine Ww [0, 1, 2] [0, 3, 4, 5, 29, 30, 31] ⟨[(0, sF 0 x1), (3, sF 1 x164), (4, I i165), (5, pA 2 0), (29, sF 0 x1), (30, I (lI x1)), (31, I i165)], [nR x1, iO x164, .cells [cI ((x1.getD i165.toNat dnod).parent), cS ((x1.getD i165.toNat dnod).name), cI ((x1.getD i165.toNat dnod).value)]]⟩ (W_skip (thenS_n (W_seq (W_seq (guardO_e hv226 (fun hg242 hv226 => (bindO_e hv226 (fun i243 hc244 hv226 => (W_cut (Q' := fun (e : Exit) (s : St) => e = .normal ∧ s = ⟨[(0, sF 0 x1), (3, sF 1 x164), (4, I i165), (5, pA 2 0), (29, sF 0 x1), (30, I (lI x1)), (31, I i165), (62, B (decide (0 ≤ i243)))], [nR x1, iO x164, .cells [cI ((x1.getD i165.toNat dnod).parent), cS ((x1.getD i165.toNat dnod).name), cI ((x1.getD i165.toNat dnod).value)]]⟩) ?_ ?_)))))))))
          ·refine W_draw [] false (by kernel_rfl) (by kernel_rfl) (WD_takeQ [0, 1, 3, 4, 5, 6] [0, 3, 4, 5, 29, 30, 31, 54, 55, 58, 60] [0, 3, 4, 5, 29, 30, 31, 54, 55, 58, 60] (φ := (True ∧ True ∧ (True ∧ True ∧ True))) (ls' := (tf true [2, 1, 4, 2])) (st' := ⟨[(0, sF 0 x1), (3, sF 1 x164), (4, I i165), (5, pA 2 0), (29, sF 0 x1), (30, I (lI x1)), (31, I i165), (54, sF 0 x1), (55, I i165), (58, I ((x1.getD i165.toNat dnod).parent)), (60, S ((x1.getD i165.toNat dnod).name))], [nR x1, iO x164, .cells [cI ((x1.getD i165.toNat dnod).parent), cS ((x1.getD i165.toNat dnod).name), cI ((x1.getD i165.toNat dnod).value)]]⟩) (n2 := 3) (by kernel_rfl) t5 rfl (WD_all [2] (n := 2) (by kernel_rfl) rfl (WM_op (φ := 0 ≤ i165 ∧ i165 ≤ (lI x1)) (v := .one (.e (.sl 0 0 i165.toNat))) (H' := [nR x1, iO x164, .cells [cI ((x1.getD i165.toNat dnod).parent), cS ((x1.getD i165.toNat dnod).name), cI ((x1.getD i165.toNat dnod).value)]]) rfl rfl (by kernel_rfl) hg242 rfl (aI rfl (aI rfl (aI (aI rfl rfl) (trivial)))) (WD_all [7] (n := 1) (by kernel_rfl) rfl (WM_call [.view 0] Tryz.f51 rfl rfl (by kernel_rfl) Tryz.func51 rfl (by kernel_rfl) (impl_kidIn_ok n ((x1.drop 0).take i165.toNat) ((x1.getD i165.toNat dnod).parent) ((x1.getD i165.toNat dnod).name) i243 hc244) (trivial) rfl (aI rfl (aI rfl (aI (aI rfl rfl) (trivial)))) (WD_takeQ [8] [0, 3, 4, 5, 29, 30, 31, 62] [0, 3, 4, 5, 29, 30, 31, 62] (φ := (True ∧ True ∧ True)) (ls' := (tf true [9])) (st' := ⟨[(0, sF 0 x1), (3, sF 1 x164), (4, I i165), (5, pA 2 0), (29, sF 0 x1), (30, I (lI x1)), (31, I i165), (62, B (decide (0 ≤ i243)))], [nR x1, iO x164, .cells [cI ((x1.getD i165.toNat dnod).parent), cS ((x1.getD i165.toNat dnod).name), cI ((x1.getD i165.toNat dnod).value)]]⟩) (n2 := 0) (by kernel_rfl) t3 rfl ?_))))))
           exact WD_done [0, 1, 2] [0, 3, 4, 5, 29, 30, 31, 62] (st' := ⟨[(0, sF 0 x1), (3, sF 1 x164), (4, I i165), (5, pA 2 0), (29, sF 0 x1), (30, I ((x1.length : Nat) : Int)), (31, I i165), (62, B (decide (0 ≤ i243)))], [nR x1, iO x164, .cells [cI ((x1.getD i165.toNat dnod).parent), cS ((x1.getD i165.toNat dnod).name), cI ((x1.getD i165.toNat dnod).value)]]⟩) (by kernel_rfl) (by kernel_rfl) (aI rfl rfl)
          ·rintro _ _ ⟨rfl, rfl⟩
           refine thenS_n (iteO_e hv226 (fun hb246 hv226 => W_true rfl hb246 ?_) (fun hb246 hv226 => W_false rfl hb246 ?_))
           ·refine Wsr ((Ws 1 [0] [2] ⟨[(2, B false)], [nR x1]⟩ (Wnt ((W_ret (thenS_r (blockS_r ?_)))))))
            cases hv226
            exact aI rfl rfl
           ·refine Ww [0, 1, 2] [0, 3, 4, 5, 29, 30, 31] ⟨[(0, sF 0 x1), (3, sF 1 x164), (4, I i165), (5, pA 2 0), (29, sF 0 x1), (30, I (lI x1)), (31, I i165)], [nR x1, iO x164, .cells [cI ((x1.getD i165.toNat dnod).parent), cS ((x1.getD i165.toNat dnod).name), cI ((x1.getD i165.toNat dnod).value)]]⟩ (W_skip (thenS_n (Wsr ((guardO_e hv226 (fun hg247 hv226 => (guardO_e hv226 (fun hg248 hv226 => (Wp 10 [0, 1] [0, 3, 4, 29, 30, 31] (True ∧ ((0 ≤ (x1.getD i165.toNat dnod).parent ∧ (x1.getD i165.toNat dnod).parent < (lI x164)) ∧ (True ∧ (True ∧ ((0 ≤ i165 ∧ i165 < (lI x164)) ∧ T2))))) ⟨[(0, sF 0 x1), (3, sF 1 x164), (4, I i165), (29, sF 0 x1), (30, I (lI x1)), (31, I i165)], [nR x1, .row .int (x164.set i165.toNat (w64 ((x164.getD (((x1.getD i165.toNat dnod).parent).toNat) 0) + 1))) true]⟩ ⟨trivial, hg247, trivial, trivial, hg248, trivial, trivial⟩ (WO_eq (st' := ⟨[(0, sF 0 x1), (3, .one (.e (.sl 1 0 ((x164.set i165.toNat (w64 ((x164.getD (((x1.getD i165.toNat dnod).parent).toNat) 0) + 1))).length)))), (4, I i165), (29, sF 0 x1), (30, I (lI x1)), (31, I i165)], [nR x1, .row .int (x164.set i165.toNat (w64 ((x164.getD (((x1.getD i165.toNat dnod).parent).toNat) 0) + 1))) true]⟩) (by simp only [sF, List.length_set]) (Wnt ((Wsr ((guardO_e hv226 (fun hg249 hv226 => (Wp 5 [0, 1] [0, 3, 29, 30, 31, 76] ((0 ≤ i165 ∧ i165 < (((x164.set i165.toNat (w64 ((x164.getD (((x1.getD i165.toNat dnod).parent).toNat) 0) + 1))).length : Nat) : Int)) ∧ T3) ⟨[(0, sF 0 x1), (3, .one (.e (.sl 1 0 ((x164.set i165.toNat (w64 ((x164.getD (((x1.getD i165.toNat dnod).parent).toNat) 0) + 1))).length)))), (29, sF 0 x1), (30, I (lI x1)), (31, I i165), (76, B (decide (4 < ((x164.set i165.toNat (w64 ((x164.getD (((x1.getD i165.toNat dnod).parent).toNat) 0) + 1))).getD i165.toNat 0))))], [nR x1, .row .int (x164.set i165.toNat (w64 ((x164.getD (((x1.getD i165.toNat dnod).parent).toNat) 0) + 1))) true]⟩ ⟨hg249, trivial, trivial, trivial⟩ (Wnt ((iteO_e hv226 (fun hb251 hv226 => W_true rfl hb251 ?_) (fun hb251 hv226 => W_false rfl hb251 ?_)))))))))))))))))))))
            ·refine Wsr ((Ws 1 [0] [2] ⟨[(2, B false)], [nR x1]⟩ (Wnt ((W_ret (blockS_r ?_))))))
             cases hv226
             exact aI rfl rfl
            ·refine Ww [0, 1] [0, 3, 29, 30, 31] ⟨[(0, sF 0 x1), (3, .one (.e (.sl 1 0 ((x164.set i165.toNat (w64 ((x164.getD (((x1.getD i165.toNat dnod).parent).toNat) 0) + 1))).length)))), (29, sF 0 x1), (30, I (lI x1)), (31, I i165)], [nR x1, .row .int (x164.set i165.toNat (w64 ((x164.getD (((x1.getD i165.toNat dnod).parent).toNat) 0) + 1))) true]⟩ (W_skip (blockS_n ?_))
             cases hv226
             exact aI rfl rfl
     ·rcases v226 with _ | x225
      ·rintro _ _ ⟨rfl, rfl⟩
       refine thenS_r (thenS_r ?_)
       cases h
       exact aI rfl rfl
      ·rintro _ _ ⟨rfl, rfl⟩
       refine thenS_n (W_region (Wp 2 [0, 1] [0, 3, 29, 30, 31] T2 ⟨[(0, sF 0 x1), (3, sF 1 x225), (29, sF 0 x1), (30, I (lI x1)), (31, I (w64 (i165 + 1)))], [nR x1, iO x225]⟩ t2 (Wnt (?_))))
       exact ih _ _ h
    ·refine Ww [0] [] ⟨[], [nR x1]⟩ (W_exit (thenS_e (thenS_e ?_)))
     cases h
     exact aI rfl rfl

def impl_ValidTree (n : Nat) (x1 : List Nod) : Option (Bool) :=
 iteO ((decide (((x1.length : Nat) : Int) < 1)) || (decide (12 < ((x1.length : Nat) : Int))))
 (some false)
 (guardO (0 ≤ (0 : Int) ∧ (0 : Int) < ((x1.length : Nat) : Int)) <|
 bindO (iteO (!decide (((x1.getD 0 dnod).parent) = (-1)))
 (some true)
 (guardO (0 ≤ (0 : Int) ∧ (0 : Int) < ((x1.length : Nat) : Int)) <|
 some (!decide (((x1.getD 0 dnod).name) = [])))) fun b123 =>
 iteO b123
 (some false)
 (guardO ((((x1.length : Nat) : Int) : Int) = ((x1.length : Nat) : Int) ∧ 0 ≤ ((x1.length : Nat) : Int) ∧ ((x1.length : Nat) : Int) ≤ 1099511627776) <|
 bindO (impl_ValidTree_L1 x1 n (List.replicate (((x1.length : Nat) : Int).toNat) (0 : Int)) 0) fun v252 =>
 match v252 with
 | (.inl _) => (some false)
 | (.inr _) => (some true)
))

theorem impl_ValidTree_ok (n : Nat) (x1 : List Nod) (b114 : Bool) (h : impl_ValidTree n x1 = some b114) : FOk EE 18 [sF 0 x1] [nR x1] (B b114) [nR x1] := by
  unfold impl_ValidTree at h
  refine FOk_of_W 78 1 Tryz.func18 rfl rfl (Nat.le_of_ble_eq_true rfl) rfl (fun w X θ => ?_)
  refine Wsr ((Ws 1 [0] [0] ⟨[(0, sF 0 x1)], [nR x1]⟩ (Wnt ((W_seq (W_seq ?_))))))
  refine W_region (Wp 4 [0] [0, 9] T3 ⟨[(0, sF 0 x1), (9, B (decide ((lI x1) < 1)))], [nR x1]⟩ t3 (WO_thru ⟨[(0, sF 0 x1), (13, B ((decide ((lI x1) < 1)) || (decide (12 < (lI x1)))))], [nR x1]⟩ ?_ ?_))
  ·refine WO_if 9 rfl (fun hb117 => ?_) (fun hb117 => ?_)
   ·refine Ws 4 [0] [0, 13] ⟨[(0, sF 0 x1), (13, B true)], [nR x1]⟩ ?_
    exact WO_nil rfl ⟨rfl, by first | rfl | (rw [hb117]; first | done | rfl)⟩
   ·refine Wp 4 [0] [0, 13] T3 ⟨[(0, sF 0 x1), (13, B (decide (12 < (lI x1))))], [nR x1]⟩ t3 ?_
    exact WO_nil rfl ⟨rfl, by first | rfl | (rw [hb117]; first | done | rfl)⟩
  ·refine thenS_n (iteO_e h (fun hb119 h => W_true rfl hb119 ?_) (fun hb119 h => W_false rfl hb119 ?_))
   ·refine Wsr ((Ws 1 [0] [2] ⟨[(2, B false)], [nR x1]⟩ (Wnt ((W_ret (thenS_r ?_))))))
    cases h
    exact ⟨[0], True, by kernel_rfl, trivial⟩
   ·refine Ww [0] [0] ⟨[(0, sF 0 x1)], [nR x1]⟩ (W_skip (thenS_n (W_seq (Wsr ((guardO_e h (fun hg120 h => (Wp 6 [0] [0, 19] ((0 ≤ (0 : Int) ∧ (0 : Int) < (lI x1)) ∧ T3) ⟨[(0, sF 0 x1), (19, B (!decide (((x1.getD 0 dnod).parent) = (-1))))], [nR x1]⟩ ⟨hg120, trivial, trivial, trivial⟩ (bindO_e h (fun b123 hv124 h => (WO_thru ⟨[(0, sF 0 x1), (25, B b123)], [nR x1]⟩ ?_ ?_)))))))))))
    ·refine iteO_e hv124 (fun hb125 hv124 => WO_known 19 true rfl hb125 ?_) (fun hb125 hv124 => WO_known 19 false rfl hb125 ?_)
     ·refine Ws 6 [0] [0, 25] ⟨[(0, sF 0 x1), (25, B true)], [nR x1]⟩ ?_
      cases hv124
      exact WO_nil rfl ⟨rfl, rfl⟩
     ·refine guardO_e hv124 (fun hg126 hv124 => (Wp 6 [0] [0, 25] ((0 ≤ (0 : Int) ∧ (0 : Int) < (lI x1)) ∧ T3) ⟨[(0, sF 0 x1), (25, B (!decide (((x1.getD 0 dnod).name) = [])))], [nR x1]⟩ ⟨hg126, trivial, trivial, trivial⟩ ?_))
      cases hv124
      exact WO_nil rfl ⟨rfl, rfl⟩
    ·refine thenS_n (iteO_e h (fun hb128 h => W_true rfl hb128 ?_) (fun hb128 h => W_false rfl hb128 ?_))
     ·refine Wsr ((Ws 1 [0] [2] ⟨[(2, B false)], [nR x1]⟩ (Wnt ((W_ret (thenS_r ?_))))))
      cases h
      exact ⟨[0], True, by kernel_rfl, trivial⟩
     ·refine Ww [0] [0] ⟨[(0, sF 0 x1)], [nR x1]⟩ (W_skip (thenS_n (Wsr ((guardO_e h (fun hg129 h => (Wp 4 [0, 1] [0, 3] (True ∧ ((((lI x1) : Int) = (lI x1) ∧ 0 ≤ (lI x1) ∧ (lI x1) ≤ 1099511627776) ∧ True)) ⟨[(0, sF 0 x1), (3, .one (.e (.sl 1 0 ((List.replicate ((lI x1).toNat) (0 : Int)).length))))], [nR x1, .row .int (List.replicate ((lI x1).toNat) (0 : Int)) true]⟩ ⟨trivial, hg129, trivial⟩ (Wnt ((W_seq (Wsr ((Wp 3 [0, 1] [0, 3, 29, 30, 31] T2 ⟨[(0, sF 0 x1), (3, .one (.e (.sl 1 0 ((List.replicate ((lI x1).toNat) (0 : Int)).length)))), (29, sF 0 x1), (30, I (lI x1)), (31, I 0)], [nR x1, .row .int (List.replicate ((lI x1).toNat) (0 : Int)) true]⟩ t2 (Wnt ((W_block (W_loop (bindO_e h (fun v252 hv252 h => (WL_cut (impl_ValidTree_L1_ok w X θ x1 v252 n (List.replicate ((lI x1).toNat) (0 : Int)) 0 hv252) ?_))))))))))))))))))))
      rcases v252 with _ | _
      ·rintro _ _ ⟨rfl, rfl⟩
       refine blockS_r (thenS_r ?_)
       cases h
       exact ⟨[0], True, by kernel_rfl, trivial⟩
      ·rintro _ _ ⟨rfl, rfl⟩
       refine blockS_y (thenS_n (Wsr ((Ws 1 [0] [2] ⟨[(2, B true)], [nR x1]⟩ (Wnt ((W_ret ?_)))))))
       cases h
       exact ⟨[0], True, by kernel_rfl, trivial⟩

/- stringslite.HasPrefix -/
def stringslite_HasPrefix (s1 : Str) (s2 : Str) : Option (Bool) :=
 bindO (iteO (decide (((s2.length : Nat) : Int) ≤ ((s1.length : Nat) : Int)))
 (guardO (0 ≤ ((s2.length : Nat) : Int) ∧ ((s2.length : Nat) : Int) ≤ ((s1.length : Nat) : Int)) <|
 some (decide ((s1.take (((s2.length : Nat) : Int).toNat)) = s2)))
 (some false)) fun b12 =>
 some b12

theorem stringslite_HasPrefix_ok (s1 : Str) (s2 : Str) (b9 : Bool) (h : stringslite_HasPrefix s1 s2 = some b9) : FOk EE 166 [S s1, S s2] [] (B b9) [] := by
  unfold stringslite_HasPrefix at h
  refine FOk_of_W 18 0 Tryz.func166 rfl rfl (Nat.le_of_ble_eq_true rfl) rfl (fun w X θ => ?_)
  refine Wsr ((Ws 1 [] [0, 1] ⟨[(0, S s1), (1, S s2)], []⟩ (Wnt ((W_seq (W_region ?_))))))
  refine Wp 6 [] [0, 1, 10] T4 ⟨[(0, S s1), (1, S s2), (10, B (decide ((lI s2) ≤ (lI s1))))], []⟩ t4 (bindO_e h (fun b12 hv13 h => (WO_thru ⟨[(4, B b12)], []⟩ ?_ ?_)))
  ·refine iteO_e hv13 (fun hb14 hv13 => WO_known 10 true rfl hb14 ?_) (fun hb14 hv13 => WO_known 10 false rfl hb14 ?_)
   ·refine guardO_e hv13 (fun hg15 hv13 => (Wp 8 [] [4] (True ∧ ((0 ≤ (lI s2) ∧ (lI s2) ≤ (lI s1)) ∧ T2)) ⟨[(4, B (decide ((s1.take ((lI s2).toNat)) = s2)))], []⟩ ⟨trivial, hg15, trivial, trivial⟩ ?_))
    cases hv13
    exact WO_nil rfl ⟨rfl, rfl⟩
   ·refine Ws 8 [] [4] ⟨[(4, B false)], []⟩ ?_
    cases hv13
    exact WO_nil rfl ⟨rfl, rfl⟩
  ·refine thenS_n (W_ret ?_)
   cases h
   exact ⟨[], True, by kernel_rfl, trivial⟩

/- stringslite.CutPrefix -/
def stringslite_CutPrefix (s1 : Str) (s2 : Str) : Option (Str × Bool) :=
 bindO (stringslite_HasPrefix s1 s2) fun b10 =>
 iteO (!b10)
 (some (s1, false))
 (guardO (0 ≤ ((s2.length : Nat) : Int) ∧ ((s2.length : Nat) : Int) ≤ ((s1.length : Nat) : Int)) <|
 some ((s1.drop (((s2.length : Nat) : Int).toNat)), true))

theorem stringslite_CutPrefix_ok (s1 : Str) (s2 : Str) (s8 : Str) (b9 : Bool) (h : stringslite_CutPrefix s1 s2 = some (s8, b9)) : FOk EE 141 [S s1, S s2] [] (.tup [.e (cS s8), .e (cB b9)]) [] := by
  unfold stringslite_CutPrefix at h
  refine FOk_of_W 15 0 Tryz.func141 rfl rfl (Nat.le_of_ble_eq_true rfl) rfl (fun w X θ => ?_)
  refine Wsr ((Ws 2 [] [0, 1] ⟨[(0, S s1), (1, S s2)], []⟩ (Wnt ((W_seq (W_seq ?_))))))
  refine W_region (Ws 2 [] [0, 1, 6, 7] ⟨[(0, S s1), (1, S s2), (6, S s1), (7, S s2)], []⟩ (bindO_e h (fun b10 hc11 h => (Wc [] rfl rfl rfl Tryz.func166 rfl (stringslite_HasPrefix_ok s1 s2 b10 hc11) (trivial) rfl (Ws 1 [] [0, 1, 9] ⟨[(0, S s1), (1, S s2), (9, B (!b10))], []⟩ (Wnt (?_)))))))
  refine iteO_e h (fun hb13 h => W_true rfl hb13 ?_) (fun hb13 h => W_false rfl hb13 ?_)
  ·refine Wsr ((Ws 3 [] [4, 5] ⟨[(4, S s1), (5, B false)], []⟩ (Wnt ((W_ret (thenS_r ?_))))))
   cases h
   exact ⟨[], True, by kernel_rfl, trivial⟩
  ·refine Ww [] [0, 1] ⟨[(0, S s1), (1, S s2)], []⟩ (W_skip (thenS_n (Wsr ((guardO_e h (fun hg14 h => (Wp 6 [] [4, 5] (True ∧ ((0 ≤ (lI s2) ∧ (lI s2) ≤ (lI s1)) ∧ True)) ⟨[(4, S (s1.drop ((lI s2).toNat))), (5, B true)], []⟩ ⟨trivial, hg14, trivial⟩ (Wnt ((W_ret ?_))))))))))
   cases h
   exact ⟨[], True, by kernel_rfl, trivial⟩

/- strings.CutPrefix -/
def strings_CutPrefix (s1 : Str) (s2 : Str) : Option (Str × Bool) :=
 bindO (stringslite_CutPrefix s1 s2) fun (s9, b10) =>
 some (s9, b10)

theorem strings_CutPrefix_ok (s1 : Str) (s2 : Str) (s7 : Str) (b8 : Bool) (h : strings_CutPrefix s1 s2 = some (s7, b8)) : FOk EE 114 [S s1, S s2] [] (.tup [.e (cS s7), .e (cB b8)]) [] := by
  unfold strings_CutPrefix at h
  refine FOk_of_W 11 0 Tryz.func114 rfl rfl (Nat.le_of_ble_eq_true rfl) rfl (fun w X θ => ?_)
  refine Wsr ((Ws 2 [] [0, 1] ⟨[(0, S s1), (1, S s2)], []⟩ (Wnt ((W_seq (W_region ?_))))))
  refine Ws 2 [] [6, 7] ⟨[(6, S s1), (7, S s2)], []⟩ (bindO_e h (fun v12 hc11 h => ?_))
  obtain ⟨s9, b10⟩ := v12
  refine Wc [] rfl rfl rfl Tryz.func141 rfl (stringslite_CutPrefix_ok s1 s2 s9 b10 hc11) (trivial) rfl (Ws 4 [] [4, 5] ⟨[(4, S s9), (5, B b10)], []⟩ (Wnt ((W_ret ?_))))
  cases h
  exact ⟨[], True, by kernel_rfl, trivial⟩

/- impl.ResolvePath -/
def impl_ResolvePath_L1 (x1 : List Nod) : Nat → Str → Int → Bool → Option ((Unit) ⊕ (Int))
| 0, _, _, _ => none
| n + 1, s129, i130, b131 =>
 iteO b131
 (bindO (strings_Cut s129 [47]) fun (s168, s169, b170) =>
 bindO (impl_kidIn n x1 i130 s168) fun i172 =>
 iteO (decide (i172 < 0))
 (some (.inl ()))
 (impl_ResolvePath_L1 x1 n s169 i172 b170))
 (some (.inr i130))

theorem impl_ResolvePath_L1_ok (w : World) (X : Nat → Prop) (θ : List Loc) (x1 : List Nod) (v : (Unit) ⊕ (Int)) : ∀ (n : Nat) (s129 : Str) (i130 : Int) (b131 : Bool), impl_ResolvePath_L1 x1 n s129 i130 b131 = some v → WL EE ⟨w, X, θ, 36, 1⟩ (subC [1, 1, 1, 1, 1, 1, 0, 1, 4, 4] (bodyC Tryz.f78)) (fun (e : Exit) (s : St) => (match v with | (.inl _) => e = .ret ∧ s = ⟨[(4, I (-1))], [nR x1]⟩ | (.inr i155) => e = .exit 0 ∧ s = ⟨[(7, I i155)], [nR x1]⟩ : Prop)) ⟨[(0, sF 0 x1), (5, S s129), (7, I i130), (8, B b131)], [nR x1]⟩ := by
  intro n
  induction n with
  | zero => intro _ _ _ h; exact none_e h
  | succ n ih =>
    intro s129 i130 b131 h
    rw [impl_ResolvePath_L1] at h
    refine WL_round ?_
    refine W_seq (Wsr ((Ws 1 [0] [0, 5, 7, 22] ⟨[(0, sF 0 x1), (5, S s129), (7, I i130), (22, B b131)], [nR x1]⟩ (Wnt ((iteO_e h (fun hb158 h => W_true rfl hb158 ?_) (fun hb158 h => W_false rfl hb158 ?_)))))))
    ·refine Ww [0] [0, 5, 7] ⟨[(0, sF 0 x1), (5, S s129), (7, I i130)], [nR x1]⟩ (W_skip (thenS_n (W_block (Wsr ((Ws 1 [0] [0, 5, 7] ⟨[(0, sF 0 x1), (5, S s129), (7, I i130)], [nR x1]⟩ (Wnt ((Wsr ((Ws 1 [0] [0, 7, 24] ⟨[(0, sF 0 x1), (7, I i130), (24, S s129)], [nR x1]⟩ (bindO_e h (fun v176 hc171 h => ?_)))))))))))))
     obtain ⟨s168, s169, b170⟩ := v176
     refine Wc [] rfl rfl rfl Tryz.func38 rfl (strings_Cut_ok s129 [47] s168 s169 b170 hc171) (trivial) rfl (Ws 7 [0] [0, 5, 7, 8, 9] ⟨[(0, sF 0 x1), (5, S s169), (7, I i130), (8, B b170), (9, S s168)], [nR x1]⟩ (Wnt ((Wsr ((Ws 3 [0] [0, 5, 8, 29, 30, 31] ⟨[(0, sF 0 x1), (5, S s169), (8, B b170), (29, sF 0 x1), (30, I i130), (31, S s168)], [nR x1]⟩ (bindO_e h (fun i172 hc173 h => (Wc [.ro 0] rfl rfl rfl Tryz.func51 rfl (impl_kidIn_ok n x1 i130 s168 i172 hc173) (aI (aI rfl rfl) (trivial)) rfl (Ws 1 [0] [0, 5, 7, 8] ⟨[(0, sF 0 x1), (5, S s169), (7, I i172), (8, B b170)], [nR x1]⟩ (Wnt ((Wsr ((Wp 2 [0] [0, 5, 7, 8, 34] T2 ⟨[(0, sF 0 x1), (5, S s169), (7, I i172), (8, B b170), (34, B (decide (i172 < 0)))], [nR x1]⟩ t2 (Wnt ((iteO_e h (fun hb175 h => W_true rfl hb175 ?_) (fun hb175 h => W_false rfl hb175 ?_)))))))))))))))))))
     ·refine Wsr ((Ws 1 [0] [4] ⟨[(4, I (-1))], [nR x1]⟩ (Wnt ((W_ret (blockS_r (thenS_r ?_)))))))
      cases h
      exact aI rfl rfl
     ·refine Ww [0] [0, 5, 7, 8] ⟨[(0, sF 0 x1), (5, S s169), (7, I i172), (8, B b170)], [nR x1]⟩ (W_skip (blockS_n (thenS_n ?_)))
      exact ih _ _ _ h
    ·refine Ww [0] [7] ⟨[(7, I i130)], [nR x1]⟩ (W_exit (thenS_e (thenS_e ?_)))
     cases h
     exact aI rfl rfl

def impl_ResolvePath (n : Nat) (x1 : List Nod) (s2 : Str) : Option (Int) :=
 bindO (impl_ValidTree n x1) fun b90 =>
 iteO (!b90)
 (some (-1))
 (bindO (strings_CutPrefix s2 [47]) fun (s94, b95) =>
 iteO (!b95)
 (some (-1))
 (iteO (decide (s94 = []))
 (some 0)
 (bindO (impl_ResolvePath_L1 x1 n s94 0 true) fun v177 =>
 match v177 with
 | (.inl _) => (some (-1))
 | (.inr i155) => (some i155)
)))

theorem impl_ResolvePath_ok (n : Nat) (x1 : List Nod) (s2 : Str) (i89 : Int) (h : impl_ResolvePath n x1 s2 = some i89) : FOk EE 78 [sF 0 x1, S s2] [nR x1] (I i89) [nR x1] := by
  unfold impl_ResolvePath at h
  refine FOk_of_W 36 1 Tryz.func78 rfl rfl (Nat.le_of_ble_eq_true rfl) rfl (fun w X θ => ?_)
  refine Wsr ((Ws 1 [0] [0, 1] ⟨[(0, sF 0 x1), (1, S s2)], [nR x1]⟩ (Wnt ((W_seq (W_seq ?_))))))
  refine W_region (Ws 1 [0] [0, 1, 10] ⟨[(0, sF 0 x1), (1, S s2), (10, sF 0 x1)], [nR x1]⟩ (bindO_e h (fun b90 hc91 h => (Wc [.ro 0] rfl rfl rfl Tryz.func18 rfl (impl_ValidTree_ok n x1 b90 hc91) (aI (aI rfl rfl) (trivial)) rfl (Ws 1 [0] [0, 1, 12] ⟨[(0, sF 0 x1), (1, S s2), (12, B (!b90))], [nR x1]⟩ (Wnt (?_)))))))
  refine iteO_e h (fun hb93 h => W_true rfl hb93 ?_) (fun hb93 h => W_false rfl hb93 ?_)
  ·refine Wsr ((Ws 1 [0] [4] ⟨[(4, I (-1))], [nR x1]⟩ (Wnt ((W_ret (thenS_r ?_))))))
   cases h
   exact ⟨[0], True, by kernel_rfl, trivial⟩
  ·refine Ww [0] [0, 1] ⟨[(0, sF 0 x1), (1, S s2)], [nR x1]⟩ (W_skip (thenS_n (Wsr ((Ws 1 [0] [0, 14] ⟨[(0, sF 0 x1), (14, S s2)], [nR x1]⟩ (bindO_e h (fun v178 hc96 h => ?_)))))))
   obtain ⟨s94, b95⟩ := v178
   refine Wc [] rfl rfl rfl Tryz.func114 rfl (strings_CutPrefix_ok s2 [47] s94 b95 hc96) (trivial) rfl (Ws 5 [0] [0, 5, 6] ⟨[(0, sF 0 x1), (5, S s94), (6, B b95)], [nR x1]⟩ (Wnt ((W_seq (Wsr ((Ws 2 [0] [0, 5, 19] ⟨[(0, sF 0 x1), (5, S s94), (19, B (!b95))], [nR x1]⟩ (Wnt ((iteO_e h (fun hb98 h => W_true rfl hb98 ?_) (fun hb98 h => W_false rfl hb98 ?_)))))))))))
   ·refine Wsr ((Ws 1 [0] [4] ⟨[(4, I (-1))], [nR x1]⟩ (Wnt ((W_ret (thenS_r ?_))))))
    cases h
    exact ⟨[0], True, by kernel_rfl, trivial⟩
   ·refine Ww [0] [0, 5] ⟨[(0, sF 0 x1), (5, S s94)], [nR x1]⟩ (W_skip (thenS_n (W_seq (Wsr ((Wp 2 [0] [0, 5, 21] T2 ⟨[(0, sF 0 x1), (5, S s94), (21, B (decide (s94 = [])))], [nR x1]⟩ t2 (Wnt ((iteO_e h (fun hb100 h => W_true rfl hb100 ?_) (fun hb100 h => W_false rfl hb100 ?_))))))))))
    ·refine Wsr ((Ws 1 [0] [4] ⟨[(4, I 0)], [nR x1]⟩ (Wnt ((W_ret (thenS_r ?_))))))
     cases h
     exact ⟨[0], True, by kernel_rfl, trivial⟩
    ·refine Ww [0] [0, 5] ⟨[(0, sF 0 x1), (5, S s94)], [nR x1]⟩ (W_skip (thenS_n (Wsr ((Ws 1 [0] [0, 5, 7] ⟨[(0, sF 0 x1), (5, S s94), (7, I 0)], [nR x1]⟩ (Wnt ((W_seq (Wsr ((Ws 1 [0] [0, 5, 7, 8] ⟨[(0, sF 0 x1), (5, S s94), (7, I 0), (8, B true)], [nR x1]⟩ (Wnt ((W_block (W_loop (bindO_e h (fun v177 hv177 h => (WL_cut (impl_ResolvePath_L1_ok w X θ x1 v177 n s94 0 true hv177) ?_))))))))))))))))))
     rcases v177 with _ | i155
     ·rintro _ _ ⟨rfl, rfl⟩
      refine blockS_r (thenS_r ?_)
      cases h
      exact ⟨[0], True, by kernel_rfl, trivial⟩
     ·rintro _ _ ⟨rfl, rfl⟩
      refine blockS_y (thenS_n (Wsr ((Ws 2 [0] [4] ⟨[(4, I i155)], [nR x1]⟩ (Wnt ((W_ret ?_)))))))
      cases h
      exact ⟨[0], True, by kernel_rfl, trivial⟩

/- impl.upperNode -/
def impl_upperNode (n : Nat) (x1 : List Nod) (s2 : Str) : Option (Int) :=
 bindO (strings_LastIndexByte n s2 47) fun i13 =>
 iteO (decide (i13 < 0))
 (some (-1))
 (iteO (decide (i13 = 0))
 (some 0)
 (guardO (0 ≤ i13 ∧ i13 ≤ ((s2.length : Nat) : Int)) <|
 bindO (impl_ResolvePath n x1 (s2.take i13.toNat)) fun i20 =>
 some i20))

theorem impl_upperNode_ok (n : Nat) (x1 : List Nod) (s2 : Str) (i12 : Int) (h : impl_upperNode n x1 s2 = some i12) : FOk EE 69 [sF 0 x1, S s2] [nR x1] (I i12) [nR x1] := by
  unfold impl_upperNode at h
  refine FOk_of_W 17 1 Tryz.func69 rfl rfl (Nat.le_of_ble_eq_true rfl) rfl (fun w X θ => ?_)
  refine Wsr ((Ws 1 [0] [0, 1] ⟨[(0, sF 0 x1), (1, S s2)], [nR x1]⟩ (Wnt ((W_seq (W_region ?_))))))
  refine Ws 1 [0] [0, 1, 6] ⟨[(0, sF 0 x1), (1, S s2), (6, S s2)], [nR x1]⟩ (bindO_e h (fun i13 hc14 h => (Wc [] rfl rfl rfl Tryz.func70 rfl (strings_LastIndexByte_ok n s2 47 i13 hc14) (trivial) rfl (Ws 1 [0] [0, 1, 5] ⟨[(0, sF 0 x1), (1, S s2), (5, I i13)], [nR x1]⟩ (Wnt ((W_seq ?_)))))))
  refine Wsr ((Wp 2 [0] [0, 1, 5, 9] T2 ⟨[(0, sF 0 x1), (1, S s2), (5, I i13), (9, B (decide (i13 < 0)))], [nR x1]⟩ t2 (Wnt ((iteO_e h (fun hb16 h => W_true rfl hb16 ?_) (fun hb16 h => W_false rfl hb16 ?_))))))
  ·refine Wsr ((Ws 1 [0] [4] ⟨[(4, I (-1))], [nR x1]⟩ (Wnt ((W_ret (thenS_r ?_))))))
   cases h
   exact ⟨[0], True, by kernel_rfl, trivial⟩
  ·refine Ww [0] [0, 1, 5] ⟨[(0, sF 0 x1), (1, S s2), (5, I i13)], [nR x1]⟩ (W_skip (thenS_n (W_seq (Wsr ((Wp 2 [0] [0, 1, 5, 11] T2 ⟨[(0, sF 0 x1), (1, S s2), (5, I i13), (11, B (decide (i13 = 0)))], [nR x1]⟩ t2 (Wnt ((iteO_e h (fun hb18 h => W_true rfl hb18 ?_) (fun hb18 h => W_false rfl hb18 ?_))))))))))
   ·refine Wsr ((Ws 1 [0] [4] ⟨[(4, I 0)], [nR x1]⟩ (Wnt ((W_ret (thenS_r ?_))))))
    cases h
    exact ⟨[0], True, by kernel_rfl, trivial⟩
   ·refine Ww [0] [0, 1, 5] ⟨[(0, sF 0 x1), (1, S s2), (5, I i13)], [nR x1]⟩ (W_skip (thenS_n (Wsr ((guardO_e h (fun hg19 h => (Wp 4 [0] [12, 15] ((0 ≤ i13 ∧ i13 ≤ (lI s2)) ∧ True) ⟨[(12, sF 0 x1), (15, S (s2.take i13.toNat))], [nR x1]⟩ ⟨hg19, trivial⟩ (bindO_e h (fun i20 hc21 h => (Wc [.ro 0] rfl rfl rfl Tryz.func78 rfl (impl_ResolvePath_ok n x1 (s2.take i13.toNat) i20 hc21) (aI (aI rfl rfl) (trivial)) rfl (Ws 1 [0] [4] ⟨[(4, I i20)], [nR x1]⟩ (Wnt ((W_ret ?_))))))))))))))
    cases h
    exact ⟨[0], True, by kernel_rfl, trivial⟩

/- impl.Node] -/
def slices_Clone_Node (x1 : List Nod) : Option (List Nod) :=
 guardO (x1.length ≤ 1099511627776) <|
 some x1

theorem slices_Clone_Node_ok (x1 x2 : List Nod) (h : slices_Clone_Node x1 = some x2) : FOk EE 105 [sF 0 x1] [nR x1] (sF 1 x2) [nR x1, nO x2] := by
  unfold slices_Clone_Node at h
  refine guardO_e h (fun hg h => ?_)
  cases h
  refine FOk_of_W 8 1 Tryz.func105 rfl rfl (Nat.le_of_ble_eq_true rfl) rfl (fun w X θ => ?_)
  refine W_seq ?_
  refine W_region ?_
  refine Ws 1 [0] [0] ⟨[(0, sF 0 x1)], [nR x1]⟩ ?_
  refine WO_nil rfl ?_
  refine thenS_n ?_
  refine W_seq ?_
  refine W_seq ?_
  refine W_region ?_
  refine Ws 1 [0] [0, 3] ⟨[(0, sF 0 x1), (3, sF 0 x1)], [nR x1]⟩ ?_
  refine WO_isnil (R := .nod) (xs := x1) (own := false) rfl rfl rfl rfl Tryz.underlying28 rfl rfl rfl (fun b hb => ?_)
  refine WO_nil rfl ?_
  refine thenS_n ?_
  cases b with
  | true =>
    have e : x1 = [] := List.eq_nil_of_length_eq_zero (hb rfl)
    subst e
    refine W_true rfl rfl ?_
    refine W_seq ?_
    refine W_region ?_
    refine Ws 1 [0] [2] ⟨[(2, .one (.e .nsl))], [.row .nod [] false]⟩ ?_
    refine WO_nil rfl ?_
    refine thenS_n ?_
    refine W_nil 2 .nod rfl ?_
    refine W_ret ?_
    refine thenS_r ?_
    exact ⟨[0, 1], True, by kernel_rfl, trivial⟩
  | false =>
    refine W_false rfl rfl ?_
    refine Ww [0] [0] ⟨[(0, sF 0 x1)], [nR x1]⟩ ?_
    refine W_skip ?_
    refine thenS_n ?_
    refine W_seq ?_
    refine W_region ?_
    refine Wp 4 [0, 2] [2] ((0 = 0 ∧ 0 = ([] : List Nod).length ∧ ([] : List Nod).length + ((x1.drop 0).take x1.length).length ≤ 1099511627776) ∧ True) ⟨[(2, .one (.e (.sl 1 0 (([] : List Nod) ++ ((x1.drop 0).take x1.length)).length)))], [nR x1, .row .nod (([] : List Nod) ++ ((x1.drop 0).take x1.length)) true]⟩ ⟨⟨rfl, rfl, by simpa using hg⟩, trivial⟩ ?_
    refine WO_eq (st' := ⟨[(2, sF 1 x1)], [nR x1, nO x1]⟩) (by simp only [List.drop_zero, List.take_length, List.nil_append]) ?_
    refine WO_nil rfl ?_
    refine thenS_n ?_
    refine W_ret ?_
    exact ⟨[0, 1], True, by kernel_rfl, trivial⟩

/- impl.AddNode -/
def impl_AddNode (n : Nat) (x1 : List Nod) (i2 : Int) (s3 : Str) (i4 : Int) : Option ((List Nod) × Int × Bool) :=
 bindO (impl_ValidTree n x1) fun b19 =>
 iteO (!b19)
 (some (([] : List Nod), (-1), false))
 (bindO (slices_Clone_Node x1) fun x23 =>
 guardO (0 = 0 ∧ x23.length = x23.length ∧ x23.length + (([(⟨i2, s3, i4⟩ : Nod)].drop 0).take ([(⟨i2, s3, i4⟩ : Nod)].length)).length ≤ 1099511627776) <|
 bindO (impl_ValidTree n (x23 ++ (([(⟨i2, s3, i4⟩ : Nod)].drop 0).take ([(⟨i2, s3, i4⟩ : Nod)].length)))) fun b26 =>
 iteO (!b26)
 (some (([] : List Nod), (-1), false))
 (some ((x23 ++ (([(⟨i2, s3, i4⟩ : Nod)].drop 0).take ([(⟨i2, s3, i4⟩ : Nod)].length))), ((x1.length : Nat) : Int), true)))

theorem impl_AddNode_ok (n : Nat) (x1 : List Nod) (i2 : Int) (s3 : Str) (i4 : Int) (x16 : List Nod) (i17 : Int) (b18 : Bool) (h : impl_AddNode n x1 i2 s3 i4 = some (x16, i17, b18)) : FOk EE 68 [sF 0 x1, I i2, S s3, I i4] [nR x1] (.tup [.e (.sl 1 0 x16.length), .e (cI i17), .e (cB b18)]) [nR x1, nO x16] := by
  unfold impl_AddNode at h
  refine FOk_of_W 29 1 Tryz.func68 rfl rfl (Nat.le_of_ble_eq_true rfl) rfl (fun w X θ => ?_)
  refine Wsr ((Ws 3 [0] [0, 1, 2, 3] ⟨[(0, sF 0 x1), (1, I i2), (2, S s3), (3, I i4)], [nR x1]⟩ (Wnt ((W_seq (W_seq ?_))))))
  refine W_region (Ws 1 [0] [0, 1, 2, 3, 12] ⟨[(0, sF 0 x1), (1, I i2), (2, S s3), (3, I i4), (12, sF 0 x1)], [nR x1]⟩ (bindO_e h (fun b19 hc20 h => (Wc [.ro 0] rfl rfl rfl Tryz.func18 rfl (impl_ValidTree_ok n x1 b19 hc20) (aI (aI rfl rfl) (trivial)) rfl (Ws 1 [0] [0, 1, 2, 3, 14] ⟨[(0, sF 0 x1), (1, I i2), (2, S s3), (3, I i4), (14, B (!b19))], [nR x1]⟩ (Wnt (?_)))))))
  refine iteO_e h (fun hb22 h => W_true rfl hb22 ?_) (fun hb22 h => W_false rfl hb22 ?_)
  ·refine Wsr ((Ws 3 [0] [8, 9, 10] ⟨[(8, .one (.e (.nsl))), (9, I (-1)), (10, B false)], [nR x1]⟩ (WO_nilrow 8 .nod rfl (Wb [0, 1] [8, 9, 10] ⟨[(8, .one (.e (.sl 1 0 (([] : List Nod).length)))), (9, I (-1)), (10, B false)], [nR x1, nO ([] : List Nod)]⟩ (Wnt ((W_ret (thenS_r ?_))))))))
   cases h
   exact ⟨[0, 1], True, by kernel_rfl, trivial⟩
  ·refine Ww [0] [0, 1, 2, 3] ⟨[(0, sF 0 x1), (1, I i2), (2, S s3), (3, I i4)], [nR x1]⟩ (W_skip (thenS_n (Wsr ((Ws 1 [0] [0, 1, 2, 3, 15] ⟨[(0, sF 0 x1), (1, I i2), (2, S s3), (3, I i4), (15, sF 0 x1)], [nR x1]⟩ (bindO_e h (fun x23 hc24 h => (Wc [.ro 0] rfl rfl rfl Tryz.func105 rfl (slices_Clone_Node_ok x1 x23 hc24) (aI (aI rfl rfl) (trivial)) rfl (guardO_e h (fun hg25 h => (Wp 7 [0, 3] [0, 11] ((0 = 0 ∧ x23.length = x23.length ∧ x23.length + (([(⟨i2, s3, i4⟩ : Nod)].drop 0).take ([(⟨i2, s3, i4⟩ : Nod)].length)).length ≤ 1099511627776) ∧ True) ⟨[(0, sF 0 x1), (11, .one (.e (.sl 1 0 ((x23 ++ (([(⟨i2, s3, i4⟩ : Nod)].drop 0).take ([(⟨i2, s3, i4⟩ : Nod)].length))).length))))], [nR x1, .row .nod (x23 ++ (([(⟨i2, s3, i4⟩ : Nod)].drop 0).take ([(⟨i2, s3, i4⟩ : Nod)].length))) true]⟩ ⟨hg25, trivial⟩ (Wnt ((W_seq (Wsr ((Ws 1 [0, 1] [0, 11, 23] ⟨[(0, sF 0 x1), (11, .one (.e (.sl 1 0 ((x23 ++ (([(⟨i2, s3, i4⟩ : Nod)].drop 0).take ([(⟨i2, s3, i4⟩ : Nod)].length))).length)))), (23, .one (.e (.sl 1 0 ((x23 ++ (([(⟨i2, s3, i4⟩ : Nod)].drop 0).take ([(⟨i2, s3, i4⟩ : Nod)].length))).length))))], [nR x1, .row .nod (x23 ++ (([(⟨i2, s3, i4⟩ : Nod)].drop 0).take ([(⟨i2, s3, i4⟩ : Nod)].length))) true]⟩ (bindO_e h (fun b26 hc27 h => (Wc [.ro 1] rfl rfl rfl Tryz.func18 rfl (impl_ValidTree_ok n (x23 ++ (([(⟨i2, s3, i4⟩ : Nod)].drop 0).take ([(⟨i2, s3, i4⟩ : Nod)].length))) b26 hc27) (aI (aI rfl rfl) (trivial)) rfl (Ws 1 [0, 1] [0, 11, 25] ⟨[(0, sF 0 x1), (11, .one (.e (.sl 1 0 ((x23 ++ (([(⟨i2, s3, i4⟩ : Nod)].drop 0).take ([(⟨i2, s3, i4⟩ : Nod)].length))).length)))), (25, B (!b26))], [nR x1, .row .nod (x23 ++ (([(⟨i2, s3, i4⟩ : Nod)].drop 0).take ([(⟨i2, s3, i4⟩ : Nod)].length))) true]⟩ (Wnt ((iteO_e h (fun hb29 h => W_true rfl hb29 ?_) (fun hb29 h => W_false rfl hb29 ?_)))))))))))))))))))))))))
   ·refine Wsr ((Ws 3 [0] [8, 9, 10] ⟨[(8, .one (.e (.nsl))), (9, I (-1)), (10, B false)], [nR x1]⟩ (WO_nilrow 8 .nod rfl (Wb [0, 1] [8, 9, 10] ⟨[(8, .one (.e (.sl 1 0 (([] : List Nod).length)))), (9, I (-1)), (10, B false)], [nR x1, nO ([] : List Nod)]⟩ (Wnt ((W_ret (thenS_r ?_))))))))
    cases h
    exact ⟨[0, 1], True, by kernel_rfl, trivial⟩
   ·refine Ww [0, 1] [0, 11] ⟨[(0, sF 0 x1), (11, .one (.e (.sl 1 0 ((x23 ++ (([(⟨i2, s3, i4⟩ : Nod)].drop 0).take ([(⟨i2, s3, i4⟩ : Nod)].length))).length))))], [nR x1, .row .nod (x23 ++ (([(⟨i2, s3, i4⟩ : Nod)].drop 0).take ([(⟨i2, s3, i4⟩ : Nod)].length))) true]⟩ (W_skip (thenS_n (Wsr ((Wp 6 [0, 1] [8, 9, 10] T2 ⟨[(8, .one (.e (.sl 1 0 ((x23 ++ (([(⟨i2, s3, i4⟩ : Nod)].drop 0).take ([(⟨i2, s3, i4⟩ : Nod)].length))).length)))), (9, I (lI x1)), (10, B true)], [nR x1, .row .nod (x23 ++ (([(⟨i2, s3, i4⟩ : Nod)].drop 0).take ([(⟨i2, s3, i4⟩ : Nod)].length))) true]⟩ t2 (Wnt ((W_ret ?_))))))))
    cases h
    exact ⟨[0, 1], True, by kernel_rfl, trivial⟩

/- impl.isNode -/
def impl_isNode (n : Nat) (x1 : List Nod) (i2 : Int) : Option (Bool) :=
 bindO (iteO (impl_within i2 0 (w64 (((x1.length : Nat) : Int) - 1)))
 (bindO (impl_ValidTree n x1) fun b18 =>
 some b18)
 (some false)) fun b15 =>
 some b15

theorem impl_isNode_ok (n : Nat) (x1 : List Nod) (i2 : Int) (b11 : Bool) (h : impl_isNode n x1 i2 = some b11) : FOk EE 111 [sF 0 x1, I i2] [nR x1] (B b11) [nR x1] := by
  unfold impl_isNode at h
  refine FOk_of_W 14 1 Tryz.func111 rfl rfl (Nat.le_of_ble_eq_true rfl) rfl (fun w X θ => ?_)
  refine Wsr ((Ws 1 [0] [0, 1] ⟨[(0, sF 0 x1), (1, I i2)], [nR x1]⟩ (Wnt ((W_seq (W_region ?_))))))
  refine Wp 4 [0] [0, 5, 8] T3 ⟨[(0, sF 0 x1), (5, I i2), (8, I (w64 ((lI x1) - 1)))], [nR x1]⟩ t3 (Wc [] rfl rfl rfl Tryz.func49 rfl (impl_within_ok i2 0 (w64 ((lI x1) - 1))) (trivial) rfl (Ws 1 [0] [0, 10] ⟨[(0, sF 0 x1), (10, B (impl_within i2 0 (w64 ((lI x1) - 1))))], [nR x1]⟩ (bindO_e h (fun b15 hv16 h => (WO_thru ⟨[(4, B b15)], [nR x1]⟩ ?_ ?_)))))
  ·refine iteO_e hv16 (fun hb17 hv16 => WO_known 10 true rfl hb17 ?_) (fun hb17 hv16 => WO_known 10 false rfl hb17 ?_)
   ·refine Ws 1 [0] [10, 11] ⟨[(10, B true), (11, sF 0 x1)], [nR x1]⟩ (bindO_e hv16 (fun b18 hc19 hv16 => (Wc [.ro 0] rfl rfl rfl Tryz.func18 rfl (impl_ValidTree_ok n x1 b18 hc19) (aI (aI rfl rfl) (trivial)) rfl (Ws 2 [0] [4] ⟨[(4, B b18)], [nR x1]⟩ ?_))))
    cases hv16
    exact WO_nil rfl ⟨rfl, rfl⟩
   ·refine Ws 4 [0] [4] ⟨[(4, B false)], [nR x1]⟩ ?_
    cases hv16
    exact WO_nil rfl ⟨rfl, rfl⟩
  ·refine thenS_n (W_ret ?_)
   cases h
   exact ⟨[0], True, by kernel_rfl, trivial⟩

/- slices.Reverse[[]int,int] -/
def slices_Reverse_int_int_L1 (k2 : Nat) : Nat → (List Int) → Int → Int → Option ((List Int))
| 0, _, _, _ => none
| n + 1, x68, i69, i70 =>
 iteO (decide (i69 < i70))
 (guardO (0 ≤ i70 ∧ i70 < ((k2 : Nat) : Int)) <|
 guardO (0 ≤ i69 ∧ i69 < ((k2 : Nat) : Int)) <|
 guardO (0 ≤ i69 ∧ i69 < ((k2 : Nat) : Int)) <|
 guardO (0 ≤ i70 ∧ i70 < ((k2 : Nat) : Int)) <|
 slices_Reverse_int_int_L1 k2 n ((x68.set i69.toNat (x68.getD i70.toNat 0)).set i70.toNat (x68.getD i69.toNat 0)) (w64 (i69 + 1)) (w64 (i70 - 1)))
 (some x68)

theorem slices_Reverse_int_int_L1_ok (w : World) (X : Nat → Prop) (θ : List Loc) (k2 : Nat) (x84 : (List Int)) : ∀ (n : Nat) (x68 : List Int) (i69 : Int) (i70 : Int), slices_Reverse_int_int_L1 k2 n x68 i69 i70 = some x84 → WL EE ⟨w, X, θ, 28, 1⟩ (subC [1, 4, 4] (bodyC Tryz.f112)) (fun (e : Exit) (s : St) => e = .exit 0 ∧ s = ⟨[], [iO x84]⟩) ⟨[(0, SL 0 0 k2), (2, I i69), (3, I i70)], [iO x68]⟩ := by
  intro n
  induction n with
  | zero => intro _ _ _ h; exact none_e h
  | succ n ih =>
    intro x68 i69 i70 h
    rw [slices_Reverse_int_int_L1] at h
    refine WL_round ?_
    refine W_seq (Wsr ((Wp 3 [0] [0, 2, 3, 9] T2 ⟨[(0, SL 0 0 k2), (2, I i69), (3, I i70), (9, B (decide (i69 < i70)))], [iO x68]⟩ t2 (Wnt ((iteO_e h (fun hb87 h => W_true rfl hb87 ?_) (fun hb87 h => W_false rfl hb87 ?_)))))))
    ·refine Ww [0] [0, 2, 3] ⟨[(0, SL 0 0 k2), (2, I i69), (3, I i70)], [iO x68]⟩ (W_skip (thenS_n (W_seq (W_block (guardO_e h (fun hg92 h => (guardO_e h (fun hg93 h => (guardO_e h (fun hg94 h => (guardO_e h (fun hg95 h => (W_cut (Q' := fun (e : Exit) (s : St) => e = .normal ∧ s = ⟨[(0, SL 0 0 k2), (2, I i69), (3, I i70)], [.row .int ((x68.set i69.toNat (x68.getD i70.toNat 0)).set i70.toNat (x68.getD i69.toNat 0)) true]⟩) ?_ ?_)))))))))))))
     ·refine W_draw [0] false (by kernel_rfl) (by kernel_rfl) (WD_takeQ [0, 1, 2, 3, 4, 5, 8, 9] [0, 2, 3, 14, 15, 16, 17, 18, 19, 22, 23] [0, 2, 3, 14, 15, 16, 17, 18, 19, 22, 23] (φ := True) (ls' := (tf true [6, 2, 2, 6])) (st' := ⟨[(0, SL 0 0 k2), (2, I i69), (3, I i70), (14, SL 0 0 k2), (15, I i69), (16, SL 0 0 k2), (17, I i70), (18, SL 0 0 k2), (19, I i70), (22, SL 0 0 k2), (23, I i69)], [iO x68]⟩) (n2 := 8) (by kernel_rfl) trivial rfl (WD_all [6, 10] (n := 7) (by kernel_rfl) rfl (aI ?_ (?_))))
      ·refine WM_op (φ := 0 ≤ i70 ∧ i70 < ((k2 : Nat) : Int)) (v := .one (.e (.rp 0 i70.toNat 0))) (H' := [iO x68]) rfl rfl (by kernel_rfl) hg92 rfl (trivial) (WD_all [7, 10] (n := 6) (by kernel_rfl) rfl (aI ?_ (?_)))
       ·refine WM_op (φ := True) (v := I (x68.getD i70.toNat 0)) (H' := [iO x68]) rfl rfl (by kernel_rfl) trivial rfl (trivial) (WD_all [10] (n := 5) (by kernel_rfl) rfl (WM_op (φ := 0 ≤ i69 ∧ i69 < ((k2 : Nat) : Int)) (v := .one (.e (.rp 0 i69.toNat 0))) (H' := [iO x68]) rfl rfl (by kernel_rfl) hg93 rfl (trivial) (WD_all [11] (n := 4) (by kernel_rfl) rfl (WM_op (φ := True) (v := I (x68.getD i69.toNat 0)) (H' := [iO x68]) rfl rfl (by kernel_rfl) trivial rfl (trivial) (WD_all [12] (n := 3) (by kernel_rfl) rfl (WM_op (φ := 0 ≤ i69 ∧ i69 < ((k2 : Nat) : Int)) (v := .one (.e (.rp 0 i69.toNat 0))) (H' := [iO x68]) rfl rfl (by kernel_rfl) hg94 rfl (trivial) (WD_all [13] (n := 2) (by kernel_rfl) rfl (WM_store (u := .one (.e (.rp 0 i69.toNat 0))) (v := I (x68.getD i70.toNat 0)) (φ := True) (H' := [iO (x68.set i69.toNat (x68.getD i70.toNat 0))]) rfl rfl rfl rfl rfl (by kernel_rfl) trivial rfl (trivial) (WD_all [14] (n := 1) (by kernel_rfl) rfl (WM_op (φ := 0 ≤ i70 ∧ i70 < ((k2 : Nat) : Int)) (v := .one (.e (.rp 0 i70.toNat 0))) (H' := [iO (x68.set i69.toNat (x68.getD i70.toNat 0))]) rfl rfl (by kernel_rfl) hg95 rfl (trivial) (WD_all [15] (n := 0) (by kernel_rfl) rfl (WM_store (u := .one (.e (.rp 0 i70.toNat 0))) (v := I (x68.getD i69.toNat 0)) (φ := True) (H' := [.row .int ((x68.set i69.toNat (x68.getD i70.toNat 0)).set i70.toNat (x68.getD i69.toNat 0)) true]) rfl rfl rfl rfl rfl (by kernel_rfl) trivial rfl (trivial) ?_))))))))))))
        exact WD_done [0] [0, 2, 3] (st' := ⟨[(0, SL 0 0 k2), (2, I i69), (3, I i70)], [.row .int ((x68.set i69.toNat (x68.getD i70.toNat 0)).set i70.toNat (x68.getD i69.toNat 0)) true]⟩) (by kernel_rfl) (by kernel_rfl) (aI rfl rfl)
       ·refine WM_op (φ := 0 ≤ i69 ∧ i69 < ((k2 : Nat) : Int)) (v := .one (.e (.rp 0 i69.toNat 0))) (H' := [iO x68]) rfl rfl (by kernel_rfl) hg93 rfl (trivial) (WD_all [7, 11] (n := 5) (by kernel_rfl) rfl (aI ?_ (?_)))
        ·refine WM_op (φ := True) (v := I (x68.getD i70.toNat 0)) (H' := [iO x68]) rfl rfl (by kernel_rfl) trivial rfl (trivial) (WD_all [11] (n := 4) (by kernel_rfl) rfl (WM_op (φ := True) (v := I (x68.getD i69.toNat 0)) (H' := [iO x68]) rfl rfl (by kernel_rfl) trivial rfl (trivial) (WD_all [12] (n := 3) (by kernel_rfl) rfl (WM_op (φ := 0 ≤ i69 ∧ i69 < ((k2 : Nat) : Int)) (v := .one (.e (.rp 0 i69.toNat 0))) (H' := [iO x68]) rfl rfl (by kernel_rfl) hg94 rfl (trivial) (WD_all [13] (n := 2) (by kernel_rfl) rfl (WM_store (u := .one (.e (.rp 0 i69.toNat 0))) (v := I (x68.getD i70.toNat 0)) (φ := True) (H' := [iO (x68.set i69.toNat (x68.getD i70.toNat 0))]) rfl rfl rfl rfl rfl (by kernel_rfl) trivial rfl (trivial) (WD_all [14] (n := 1) (by kernel_rfl) rfl (WM_op (φ := 0 ≤ i70 ∧ i70 < ((k2 : Nat) : Int)) (v := .one (.e (.rp 0 i70.toNat 0))) (H' := [iO (x68.set i69.toNat (x68.getD i70.toNat 0))]) rfl rfl (by kernel_rfl) hg95 rfl (trivial) (WD_all [15] (n := 0) (by kernel_rfl) rfl (WM_store (u := .one (.e (.rp 0 i70.toNat 0))) (v := I (x68.getD i69.toNat 0)) (φ := True) (H' := [.row .int ((x68.set i69.toNat (x68.getD i70.toNat 0)).set i70.toNat (x68.getD i69.toNat 0)) true]) rfl rfl rfl rfl rfl (by kernel_rfl) trivial rfl (trivial) ?_))))))))))
         exact WD_done [0] [0, 2, 3] (st' := ⟨[(0, SL 0 0 k2), (2, I i69), (3, I i70)], [.row .int ((x68.set i69.toNat (x68.getD i70.toNat 0)).set i70.toNat (x68.getD i69.toNat 0)) true]⟩) (by kernel_rfl) (by kernel_rfl) (aI rfl rfl)
        ·refine WM_op (φ := True) (v := I (x68.getD i69.toNat 0)) (H' := [iO x68]) rfl rfl (by kernel_rfl) trivial rfl (trivial) (WD_all [7] (n := 4) (by kernel_rfl) rfl (WM_op (φ := True) (v := I (x68.getD i70.toNat 0)) (H' := [iO x68]) rfl rfl (by kernel_rfl) trivial rfl (trivial) (WD_all [12] (n := 3) (by kernel_rfl) rfl (WM_op (φ := 0 ≤ i69 ∧ i69 < ((k2 : Nat) : Int)) (v := .one (.e (.rp 0 i69.toNat 0))) (H' := [iO x68]) rfl rfl (by kernel_rfl) hg94 rfl (trivial) (WD_all [13] (n := 2) (by kernel_rfl) rfl (WM_store (u := .one (.e (.rp 0 i69.toNat 0))) (v := I (x68.getD i70.toNat 0)) (φ := True) (H' := [iO (x68.set i69.toNat (x68.getD i70.toNat 0))]) rfl rfl rfl rfl rfl (by kernel_rfl) trivial rfl (trivial) (WD_all [14] (n := 1) (by kernel_rfl) rfl (WM_op (φ := 0 ≤ i70 ∧ i70 < ((k2 : Nat) : Int)) (v := .one (.e (.rp 0 i70.toNat 0))) (H' := [iO (x68.set i69.toNat (x68.getD i70.toNat 0))]) rfl rfl (by kernel_rfl) hg95 rfl (trivial) (WD_all [15] (n := 0) (by kernel_rfl) rfl (WM_store (u := .one (.e (.rp 0 i70.toNat 0))) (v := I (x68.getD i69.toNat 0)) (φ := True) (H' := [.row .int ((x68.set i69.toNat (x68.getD i70.toNat 0)).set i70.toNat (x68.getD i69.toNat 0)) true]) rfl rfl rfl rfl rfl (by kernel_rfl) trivial rfl (trivial) ?_))))))))))
         exact WD_done [0] [0, 2, 3] (st' := ⟨[(0, SL 0 0 k2), (2, I i69), (3, I i70)], [.row .int ((x68.set i69.toNat (x68.getD i70.toNat 0)).set i70.toNat (x68.getD i69.toNat 0)) true]⟩) (by kernel_rfl) (by kernel_rfl) (aI rfl rfl)
      ·refine WM_op (φ := 0 ≤ i69 ∧ i69 < ((k2 : Nat) : Int)) (v := .one (.e (.rp 0 i69.toNat 0))) (H' := [iO x68]) rfl rfl (by kernel_rfl) hg93 rfl (trivial) (WD_all [6, 11] (n := 6) (by kernel_rfl) rfl (aI ?_ (?_)))
       ·refine WM_op (φ := 0 ≤ i70 ∧ i70 < ((k2 : Nat) : Int)) (v := .one (.e (.rp 0 i70.toNat 0))) (H' := [iO x68]) rfl rfl (by kernel_rfl) hg92 rfl (trivial) (WD_all [7, 11] (n := 5) (by kernel_rfl) rfl (aI ?_ (?_)))
        ·refine WM_op (φ := True) (v := I (x68.getD i70.toNat 0)) (H' := [iO x68]) rfl rfl (by kernel_rfl) trivial rfl (trivial) (WD_all [11] (n := 4) (by kernel_rfl) rfl (WM_op (φ := True) (v := I (x68.getD i69.toNat 0)) (H' := [iO x68]) rfl rfl (by kernel_rfl) trivial rfl (trivial) (WD_all [12] (n := 3) (by kernel_rfl) rfl (WM_op (φ := 0 ≤ i69 ∧ i69 < ((k2 : Nat) : Int)) (v := .one (.e (.rp 0 i69.toNat 0))) (H' := [iO x68]) rfl rfl (by kernel_rfl) hg94 rfl (trivial) (WD_all [13] (n := 2) (by kernel_rfl) rfl (WM_store (u := .one (.e (.rp 0 i69.toNat 0))) (v := I (x68.getD i70.toNat 0)) (φ := True) (H' := [iO (x68.set i69.toNat (x68.getD i70.toNat 0))]) rfl rfl rfl rfl rfl (by kernel_rfl) trivial rfl (trivial) (WD_all [14] (n := 1) (by kernel_rfl) rfl (WM_op (φ := 0 ≤ i70 ∧ i70 < ((k2 : Nat) : Int)) (v := .one (.e (.rp 0 i70.toNat 0))) (H' := [iO (x68.set i69.toNat (x68.getD i70.toNat 0))]) rfl rfl (by kernel_rfl) hg95 rfl (trivial) (WD_all [15] (n := 0) (by kernel_rfl) rfl (WM_store (u := .one (.e (.rp 0 i70.toNat 0))) (v := I (x68.getD i69.toNat 0)) (φ := True) (H' := [.row .int ((x68.set i69.toNat (x68.getD i70.toNat 0)).set i70.toNat (x68.getD i69.toNat 0)) true]) rfl rfl rfl rfl rfl (by kernel_rfl) trivial rfl (trivial) ?_))))))))))
         exact WD_done [0] [0, 2, 3] (st' := ⟨[(0, SL 0 0 k2), (2, I i69), (3, I i70)], [.row .int ((x68.set i69.toNat (x68.getD i70.toNat 0)).set i70.toNat (x68.getD i69.toNat 0)) true]⟩) (by kernel_rfl) (by kernel_rfl) (aI rfl rfl)
        ·refine WM_op (φ := True) (v := I (x68.getD i69.toNat 0)) (H' := [iO x68]) rfl rfl (by kernel_rfl) trivial rfl (trivial) (WD_all [7] (n := 4) (by kernel_rfl) rfl (WM_op (φ := True) (v := I (x68.getD i70.toNat 0)) (H' := [iO x68]) rfl rfl (by kernel_rfl) trivial rfl (trivial) (WD_all [12] (n := 3) (by kernel_rfl) rfl (WM_op (φ := 0 ≤ i69 ∧ i69 < ((k2 : Nat) : Int)) (v := .one (.e (.rp 0 i69.toNat 0))) (H' := [iO x68]) rfl rfl (by kernel_rfl) hg94 rfl (trivial) (WD_all [13] (n := 2) (by kernel_rfl) rfl (WM_store (u := .one (.e (.rp 0 i69.toNat 0))) (v := I (x68.getD i70.toNat 0)) (φ := True) (H' := [iO (x68.set i69.toNat (x68.getD i70.toNat 0))]) rfl rfl rfl rfl rfl (by kernel_rfl) trivial rfl (trivial) (WD_all [14] (n := 1) (by kernel_rfl) rfl (WM_op (φ := 0 ≤ i70 ∧ i70 < ((k2 : Nat) : Int)) (v := .one (.e (.rp 0 i70.toNat 0))) (H' := [iO (x68.set i69.toNat (x68.getD i70.toNat 0))]) rfl rfl (by kernel_rfl) hg95 rfl (trivial) (WD_all [15] (n := 0) (by kernel_rfl) rfl (WM_store (u := .one (.e (.rp 0 i70.toNat 0))) (v := I (x68.getD i69.toNat 0)) (φ := True) (H' := [.row .int ((x68.set i69.toNat (x68.getD i70.toNat 0)).set i70.toNat (x68.getD i69.toNat 0)) true]) rfl rfl rfl rfl rfl (by kernel_rfl) trivial rfl (trivial) ?_))))))))))
         exact WD_done [0] [0, 2, 3] (st' := ⟨[(0, SL 0 0 k2), (2, I i69), (3, I i70)], [.row .int ((x68.set i69.toNat (x68.getD i70.toNat 0)).set i70.toNat (x68.getD i69.toNat 0)) true]⟩) (by kernel_rfl) (by kernel_rfl) (aI rfl rfl)
       ·refine WM_op (φ := True) (v := I (x68.getD i69.toNat 0)) (H' := [iO x68]) rfl rfl (by kernel_rfl) trivial rfl (trivial) (WD_all [6] (n := 5) (by kernel_rfl) rfl (WM_op (φ := 0 ≤ i70 ∧ i70 < ((k2 : Nat) : Int)) (v := .one (.e (.rp 0 i70.toNat 0))) (H' := [iO x68]) rfl rfl (by kernel_rfl) hg92 rfl (trivial) (WD_all [7] (n := 4) (by kernel_rfl) rfl (WM_op (φ := True) (v := I (x68.getD i70.toNat 0)) (H' := [iO x68]) rfl rfl (by kernel_rfl) trivial rfl (trivial) (WD_all [12] (n := 3) (by kernel_rfl) rfl (WM_op (φ := 0 ≤ i69 ∧ i69 < ((k2 : Nat) : Int)) (v := .one (.e (.rp 0 i69.toNat 0))) (H' := [iO x68]) rfl rfl (by kernel_rfl) hg94 rfl (trivial) (WD_all [13] (n := 2) (by kernel_rfl) rfl (WM_store (u := .one (.e (.rp 0 i69.toNat 0))) (v := I (x68.getD i70.toNat 0)) (φ := True) (H' := [iO (x68.set i69.toNat (x68.getD i70.toNat 0))]) rfl rfl rfl rfl rfl (by kernel_rfl) trivial rfl (trivial) (WD_all [14] (n := 1) (by kernel_rfl) rfl (WM_op (φ := 0 ≤ i70 ∧ i70 < ((k2 : Nat) : Int)) (v := .one (.e (.rp 0 i70.toNat 0))) (H' := [iO (x68.set i69.toNat (x68.getD i70.toNat 0))]) rfl rfl (by kernel_rfl) hg95 rfl (trivial) (WD_all [15] (n := 0) (by kernel_rfl) rfl (WM_store (u := .one (.e (.rp 0 i70.toNat 0))) (v := I (x68.getD i69.toNat 0)) (φ := True) (H' := [.row .int ((x68.set i69.toNat (x68.getD i70.toNat 0)).set i70.toNat (x68.getD i69.toNat 0)) true]) rfl rfl rfl rfl rfl (by kernel_rfl) trivial rfl (trivial) ?_))))))))))))
        exact WD_done [0] [0, 2, 3] (st' := ⟨[(0, SL 0 0 k2), (2, I i69), (3, I i70)], [.row .int ((x68.set i69.toNat (x68.getD i70.toNat 0)).set i70.toNat (x68.getD i69.toNat 0)) true]⟩) (by kernel_rfl) (by kernel_rfl) (aI rfl rfl)
     ·rintro _ _ ⟨rfl, rfl⟩
      refine blockS_n (thenS_n (W_region (Wp 6 [0] [0, 2, 3] T3 ⟨[(0, SL 0 0 k2), (2, I (w64 (i69 + 1))), (3, I (w64 (i70 - 1)))], [.row .int ((x68.set i69.toNat (x68.getD i70.toNat 0)).set i70.toNat (x68.getD i69.toNat 0)) true]⟩ t3 (Wnt (?_)))))
      exact ih _ _ _ h
    ·refine Ww [0] [] ⟨[], [iO x68]⟩ (W_exit (thenS_e (thenS_e ?_)))
     cases h
     exact aI rfl rfl

def slices_Reverse_int_int (n : Nat) (x1 : List Int) (k2 : Nat) : Option ((List Int)) :=
 bindO (slices_Reverse_int_int_L1 k2 n x1 0 (w64 (((k2 : Nat) : Int) - 1))) fun x84 =>
 some x84

theorem slices_Reverse_int_int_ok (n : Nat) (x1 : List Int) (k2 : Nat) (x49 : List Int) (h : slices_Reverse_int_int n x1 k2 = some x49) : FOk EE 112 [SL 0 0 k2] [iO x1] (.tup []) [iO x49] := by
  unfold slices_Reverse_int_int at h
  refine FOk_of_W 28 1 Tryz.func112 rfl rfl (Nat.le_of_ble_eq_true rfl) rfl (fun w X θ => ?_)
  refine Wsr ((Wp 5 [0] [0, 2, 3] T3 ⟨[(0, SL 0 0 k2), (2, I 0), (3, I (w64 (((k2 : Nat) : Int) - 1)))], [iO x1]⟩ t3 (Wnt ((W_block (W_loop ?_))))))
  refine bindO_e h (fun x84 hx84 h => (WL_cut (slices_Reverse_int_int_L1_ok w X θ k2 x84 n x1 0 (w64 (((k2 : Nat) : Int) - 1)) hx84) ?_))
  rintro _ _ ⟨rfl, rfl⟩
  refine blockS_y ?_
  cases h
  exact ⟨[0], True, by kernel_rfl, trivial⟩

/- impl.PathTo -/
def impl_PathTo_L1 (x1 : List Nod) : Nat → (List Int) → Int → Option ((List Int))
| 0, _, _ => none
| n + 1, x53, i54 =>
 iteO (decide (0 ≤ i54))
 (guardO (0 = 0 ∧ x53.length = x53.length ∧ x53.length + (([i54].drop 0).take ([i54].length)).length ≤ 1099511627776) <|
 guardO (0 ≤ i54 ∧ i54 < ((x1.length : Nat) : Int)) <|
 impl_PathTo_L1 x1 n (x53 ++ (([i54].drop 0).take ([i54].length))) ((x1.getD i54.toNat dnod).parent))
 (some x53)

theorem impl_PathTo_L1_ok (w : World) (X : Nat → Prop) (θ : List Loc) (x1 : List Nod) (x62 : (List Int)) : ∀ (n : Nat) (x53 : List Int) (i54 : Int), impl_PathTo_L1 x1 n x53 i54 = some x62 → WL EE ⟨w, X, θ, 26, 1⟩ (subC [1, 1, 1, 0, 1, 4, 4] (bodyC Tryz.f74)) (fun (e : Exit) (s : St) => e = .exit 0 ∧ s = ⟨[(5, sF 1 x62)], [nR x1, iO x62]⟩) ⟨[(0, sF 0 x1), (5, sF 1 x53), (6, I i54)], [nR x1, iO x53]⟩ := by
  intro n
  induction n with
  | zero => intro _ _ h; exact none_e h
  | succ n ih =>
    intro x53 i54 h
    rw [impl_PathTo_L1] at h
    refine WL_round ?_
    refine W_seq (Wsr ((Wp 2 [0, 1] [0, 5, 6, 13] T2 ⟨[(0, sF 0 x1), (5, sF 1 x53), (6, I i54), (13, B (decide (0 ≤ i54)))], [nR x1, iO x53]⟩ t2 (Wnt ((iteO_e h (fun hb65 h => W_true rfl hb65 ?_) (fun hb65 h => W_false rfl hb65 ?_)))))))
    ·refine Ww [0, 1] [0, 5, 6] ⟨[(0, sF 0 x1), (5, sF 1 x53), (6, I i54)], [nR x1, iO x53]⟩ (W_skip (thenS_n (W_seq (W_block (W_region (guardO_e h (fun hg67 h => (Wp 5 [0, 3] [0, 5, 6] ((0 = 0 ∧ x53.length = x53.length ∧ x53.length + (([i54].drop 0).take ([i54].length)).length ≤ 1099511627776) ∧ True) ⟨[(0, sF 0 x1), (5, .one (.e (.sl 1 0 ((x53 ++ (([i54].drop 0).take ([i54].length))).length)))), (6, I i54)], [nR x1, .row .int (x53 ++ (([i54].drop 0).take ([i54].length))) true]⟩ ⟨hg67, trivial⟩ (WO_nil rfl (blockS_n (thenS_n (W_region (guardO_e h (fun hg68 h => (Wp 6 [0, 1] [0, 5, 6] ((0 ≤ i54 ∧ i54 < (lI x1)) ∧ T2) ⟨[(0, sF 0 x1), (5, .one (.e (.sl 1 0 ((x53 ++ (([i54].drop 0).take ([i54].length))).length)))), (6, I ((x1.getD i54.toNat dnod).parent))], [nR x1, .row .int (x53 ++ (([i54].drop 0).take ([i54].length))) true]⟩ ⟨hg68, trivial, trivial⟩ (Wnt (?_)))))))))))))))))
     exact ih _ _ h
    ·refine Ww [0, 1] [5] ⟨[(5, sF 1 x53)], [nR x1, iO x53]⟩ (W_exit (thenS_e (thenS_e ?_)))
     cases h
     exact aI rfl rfl

def impl_PathTo (n : Nat) (x1 : List Nod) (i2 : Int) : Option ((List Int)) :=
 bindO (impl_isNode n x1 i2) fun b38 =>
 iteO (!b38)
 (some ([] : List Int))
 (bindO (impl_PathTo_L1 x1 n ([] : List Int) i2) fun x62 =>
 bindO (slices_Reverse_int_int n x62 x62.length) fun x70 =>
 guardO (x62.length = x70.length) <|
 some x70)

theorem impl_PathTo_ok (n : Nat) (x1 : List Nod) (i2 : Int) (x37 : List Int) (h : impl_PathTo n x1 i2 = some x37) : FOk EE 74 [sF 0 x1, I i2] [nR x1] (sF 1 x37) [nR x1, iO x37] := by
  unfold impl_PathTo at h
  refine FOk_of_W 26 1 Tryz.func74 rfl rfl (Nat.le_of_ble_eq_true rfl) rfl (fun w X θ => ?_)
  refine Wsr ((Ws 1 [0] [0, 1] ⟨[(0, sF 0 x1), (1, I i2)], [nR x1]⟩ (Wnt ((W_seq (W_seq ?_))))))
  refine W_region (Ws 2 [0] [0, 1, 7, 8] ⟨[(0, sF 0 x1), (1, I i2), (7, sF 0 x1), (8, I i2)], [nR x1]⟩ (bindO_e h (fun b38 hc39 h => (Wc [.ro 0] rfl rfl rfl Tryz.func111 rfl (impl_isNode_ok n x1 i2 b38 hc39) (aI (aI rfl rfl) (trivial)) rfl (Ws 1 [0] [0, 1, 10] ⟨[(0, sF 0 x1), (1, I i2), (10, B (!b38))], [nR x1]⟩ (Wnt (?_)))))))
  refine iteO_e h (fun hb41 h => W_true rfl hb41 ?_) (fun hb41 h => W_false rfl hb41 ?_)
  ·refine Wsr ((Ws 1 [0] [4] ⟨[(4, .one (.e (.nsl)))], [nR x1]⟩ (WO_nilrow 4 .int rfl (Wb [0, 1] [4] ⟨[(4, .one (.e (.sl 1 0 (([] : List Int).length))))], [nR x1, iO ([] : List Int)]⟩ (Wnt ((W_ret (thenS_r ?_))))))))
   cases h
   exact ⟨[0, 1], True, by kernel_rfl, trivial⟩
  ·refine Ww [0] [0, 1] ⟨[(0, sF 0 x1), (1, I i2)], [nR x1]⟩ (W_skip (thenS_n (Wsr ((Ws 1 [0] [0, 1, 5] ⟨[(0, sF 0 x1), (1, I i2), (5, .one (.e (.nsl)))], [nR x1]⟩ (WO_nilrow 5 .int rfl (Wb [0, 1] [0, 1, 5] ⟨[(0, sF 0 x1), (1, I i2), (5, .one (.e (.sl 1 0 (([] : List Int).length))))], [nR x1, iO ([] : List Int)]⟩ (Wnt ((W_seq (Wsr ((Ws 2 [0, 1] [0, 5, 6] ⟨[(0, sF 0 x1), (5, .one (.e (.sl 1 0 (([] : List Int).length)))), (6, I i2)], [nR x1, iO ([] : List Int)]⟩ (Wnt ((W_block (W_loop (bindO_e h (fun x62 hx62 h => (WL_cut (impl_PathTo_L1_ok w X θ x1 x62 n ([] : List Int) i2 hx62) ?_))))))))))))))))))))
   rintro _ _ ⟨rfl, rfl⟩
   refine blockS_y (thenS_n (Wsr ((Ws 1 [0, 1] [5, 23] ⟨[(5, sF 1 x62), (23, sF 1 x62)], [nR x1, iO x62]⟩ (bindO_e h (fun x70 hc71 h => (guardO_e h (fun hl72 h => (Wc [.own 1] rfl rfl rfl Tryz.func112 rfl (slices_Reverse_int_int_ok n x62 x62.length x70 hc71) (aI (aI rfl (aI rfl hl72)) (trivial)) rfl (Wb [0, 1] [5, 23] ⟨[(5, sF 1 x62), (23, sF 1 x62)], [nR x1, iO x70]⟩ (WO_eq (st' := ⟨[(5, sF 1 x70), (23, sF 1 x70)], [nR x1, iO x70]⟩) (by simp only [sF, hl72]) (Wb [0, 1] [5] ⟨[(5, sF 1 x70)], [nR x1, iO x70]⟩ (Wnt ((Wsr ((Ws 2 [0, 1] [4] ⟨[(4, sF 1 x70)], [nR x1, iO x70]⟩ (Wnt ((W_ret ?_))))))))))))))))))))
   cases h
   exact ⟨[0, 1], True, by kernel_rfl, trivial⟩

/- (*strings.Builder).copyCheck -/
def lays240R : Shelf.Ren := ⟨fun n => match n with | 240 => 52 | 276 => 76 | _ => 0, fun n => match n with | 0 => 0 | 4 => 4 | 9 => 9 | 20 => 20 | 70 => 51 | 72 => 53 | 164 => 95 | 37 => 22 | 5 => 5 | _ => 0, fun n => n⟩
set_option maxRecDepth 100000 in
theorem lays240 : Lays.n240 Tryz.prog lays240R := {
  mixed := by kernel_rfl
  f240 := by kernel_rfl
  f276 := by kernel_rfl
  t0 := Tryz.underlying0
  a0 := Tryz.isAgg0
  z0 := Tryz.sizeOf0
  v0 := Tryz.zeroValue0
  t4 := Tryz.underlying4
  a4 := Tryz.isAgg4
  z4 := Tryz.sizeOf4
  v4 := Tryz.zeroValue4
  t9 := Tryz.underlying9
  a9 := Tryz.isAgg9
  z9 := Tryz.sizeOf9
  v9 := Tryz.zeroValue9
  t20 := Tryz.underlying20
  a20 := Tryz.isAgg20
  z20 := Tryz.sizeOf20
  v20 := Tryz.zeroValue20
  t70 := Tryz.underlying51
  a70 := Tryz.isAgg51
  z70 := Tryz.sizeOf51
  v70 := Tryz.zeroValue51
  t72 := Tryz.underlying53
  a72 := Tryz.isAgg53
  z72 := Tryz.sizeOf53
  v72 := Tryz.zeroValue53
  t164 := Tryz.underlying95
  a164 := Tryz.isAgg95
  z164 := Tryz.sizeOf95
  v164 := Tryz.zeroValue95 }
theorem x72 : Builder.X72 Tryz.prog lays240R := {
  sizeBuilder := by kernel_rfl
  liesBuilder := by kernel_rfl }
theorem copyCheck_ok (x1 : List Int) : FOk EE 52 [pA 0 0] [.cells [.sp 0 53, .bsl 1 x1.length], uO x1] (.tup []) [.cells [.sp 0 53, .bsl 1 x1.length], uO x1] := by
  refine FOk_copy (fun b w h0 h1 h2 => ?_) (fun b w h0 => ?_) x1.length x1
  · exact Any.Builder_copyCheck_fresh lays240 x72 b w h0 h1 h2
  · exact Any.Builder_copyCheck_used lays240 x72 b w h0

/- (*strings.Builder).WriteByte -/
def strings_Builder_WriteByte (x1 : List Int) (i2 : Int) : Option ((List Int)) :=
 guardO (0 = 0 ∧ x1.length = x1.length ∧ x1.length + (([i2].drop 0).take ([i2].length)).length ≤ 1099511627776) <|
 some (x1 ++ (([i2].drop 0).take ([i2].length)))

theorem strings_Builder_WriteByte_ok (x1 : List Int) (i2 : Int) (x4 : List Int) (h : strings_Builder_WriteByte x1 i2 = some x4) : FOk EE 32 [pA 0 0, U i2] [.cells [.sp 0 53, .bsl 1 x1.length], uO x1] (.one (.e (.nif))) [.cells [.sp 0 53, .bsl 2 x4.length], .dead, uO x4] := by
  unfold strings_Builder_WriteByte at h
  refine FOk_of_W 17 2 Tryz.func32 rfl rfl (Nat.le_of_ble_eq_true rfl) rfl (fun w X θ => ?_)
  refine Wsr ((Ws 1 [0, 1] [0, 1] ⟨[(0, pA 0 0), (1, U i2)], [.cells [.sp 0 53, .bsl 1 x1.length], uO x1]⟩ (Wnt ((W_seq (W_region ?_))))))
  refine Ws 1 [0, 1] [0, 1, 5] ⟨[(0, pA 0 0), (1, U i2), (5, pA 0 0)], [.cells [.sp 0 53, .bsl 1 x1.length], uO x1]⟩ (Wc [.own 0, .own 1] rfl rfl rfl Tryz.func52 rfl (copyCheck_ok x1) (aI (trivial) (aI (aI rfl (aI rfl rfl)) (trivial))) rfl (Wb [0, 1] [0, 1] ⟨[(0, pA 0 0), (1, U i2)], [.cells [.sp 0 53, .bsl 1 x1.length], uO x1]⟩ (Wnt ((W_seq (W_region ?_))))))
  refine guardO_e h (fun hg5 h => (Wp 11 [0, 1, 3] [] (True ∧ ((0 = 0 ∧ x1.length = x1.length ∧ x1.length + (([i2].drop 0).take ([i2].length)).length ≤ 1099511627776) ∧ T2)) ⟨[], [.cells [.sp 0 53, .bsl 2 ((x1 ++ (([i2].drop 0).take ([i2].length))).length)], .dead, .row .u8 (x1 ++ (([i2].drop 0).take ([i2].length))) true]⟩ ⟨trivial, hg5, trivial, trivial⟩ (Wnt ((Wsr ((Ws 1 [0, 1, 2] [4] ⟨[(4, .one (.e (.nif)))], [.cells [.sp 0 53, .bsl 2 ((x1 ++ (([i2].drop 0).take ([i2].length))).length)], .dead, .row .u8 (x1 ++ (([i2].drop 0).take ([i2].length))) true]⟩ ?_)))))))
  refine Wnt ((W_ret ?_))
  cases h
  exact ⟨[0, 1, 2], True, by kernel_rfl, trivial⟩

/- (*strings.Builder).WriteString -/
def strings_Builder_WriteString (x1 : List Int) (s2 : Str) : Option ((List Int) × Int) :=
 guardO (0 = 0 ∧ x1.length = x1.length ∧ x1.length + ((s2 : Str).map fun b => ((b.toNat : Nat) : Int)).length ≤ 1099511627776) <|
 some ((x1 ++ ((s2 : Str).map fun b => ((b.toNat : Nat) : Int))), ((s2.length : Nat) : Int))

theorem strings_Builder_WriteString_ok (x1 : List Int) (s2 : Str) (x4 : List Int) (i5 : Int) (h : strings_Builder_WriteString x1 s2 = some (x4, i5)) : FOk EE 29 [pA 0 0, S s2] [.cells [.sp 0 53, .bsl 1 x1.length], uO x1] (.tup [.e (cI i5), .e (.nif)]) [.cells [.sp 0 53, .bsl 2 x4.length], .dead, uO x4] := by
  unfold strings_Builder_WriteString at h
  refine FOk_of_W 19 2 Tryz.func29 rfl rfl (Nat.le_of_ble_eq_true rfl) rfl (fun w X θ => ?_)
  refine Wsr ((Ws 2 [0, 1] [0, 1] ⟨[(0, pA 0 0), (1, S s2)], [.cells [.sp 0 53, .bsl 1 x1.length], uO x1]⟩ (Wnt ((W_seq (W_region ?_))))))
  refine Ws 1 [0, 1] [0, 1, 6] ⟨[(0, pA 0 0), (1, S s2), (6, pA 0 0)], [.cells [.sp 0 53, .bsl 1 x1.length], uO x1]⟩ (Wc [.own 0, .own 1] rfl rfl rfl Tryz.func52 rfl (copyCheck_ok x1) (aI (trivial) (aI (aI rfl (aI rfl rfl)) (trivial))) rfl (Wb [0, 1] [0, 1] ⟨[(0, pA 0 0), (1, S s2)], [.cells [.sp 0 53, .bsl 1 x1.length], uO x1]⟩ (Wnt ((W_seq (W_region ?_))))))
  refine guardO_e h (fun hg6 h => (Wp 10 [0, 1, 2] [1] (True ∧ ((0 = 0 ∧ x1.length = x1.length ∧ x1.length + ((s2 : Str).map fun b => ((b.toNat : Nat) : Int)).length ≤ 1099511627776) ∧ T2)) ⟨[(1, S s2)], [.cells [.sp 0 53, .bsl 2 ((x1 ++ ((s2 : Str).map fun b => ((b.toNat : Nat) : Int))).length)], .dead, .row .u8 (x1 ++ ((s2 : Str).map fun b => ((b.toNat : Nat) : Int))) true]⟩ ⟨trivial, hg6, trivial, trivial⟩ (Wnt ((Wsr ((Wp 4 [0, 1, 2] [4, 5] T2 ⟨[(4, I (lI s2)), (5, .one (.e (.nif)))], [.cells [.sp 0 53, .bsl 2 ((x1 ++ ((s2 : Str).map fun b => ((b.toNat : Nat) : Int))).length)], .dead, .row .u8 (x1 ++ ((s2 : Str).map fun b => ((b.toNat : Nat) : Int))) true]⟩ t2 ?_)))))))
  refine Wnt ((W_ret ?_))
  cases h
  exact ⟨[0, 1, 2], True, by kernel_rfl, trivial⟩

/- (*strings.Builder).String -/
def strings_Builder_String (x1 : List Int) : Option (Nat × Str) :=
 guardO (((x1.length : Nat) : Int) = (x1.length : Int) ∧ ∀ x ∈ x1, 0 ≤ x ∧ x ≤ 255) <|
 some (x1.length, (bytesOf x1))

theorem strings_Builder_String_ok (x1 : List Int) (k3 : Nat) (s4 : Str) (h : strings_Builder_String x1 = some (k3, s4)) : FOk EE 33 [pA 0 0] [.cells [.sp 0 53, .bsl 1 x1.length], uO x1] (S s4) [.cells [.sp 0 53, .bsl 1 k3], .dead] := by
  unfold strings_Builder_String at h
  refine FOk_of_W 14 2 Tryz.func33 rfl rfl (Nat.le_of_ble_eq_true rfl) rfl (fun w X θ => ?_)
  refine Wsr ((Ws 1 [0, 1] [0] ⟨[(0, pA 0 0)], [.cells [.sp 0 53, .bsl 1 x1.length], uO x1]⟩ (Wnt ((W_seq (guardO_e h (fun hg5 h => ?_)))))))
  refine W_cut (Q' := fun (e : Exit) (s : St) => e = .normal ∧ s = ⟨[(2, S (bytesOf x1))], [.cells [.sp 0 53, .bsl 1 x1.length], .dead]⟩) ?_ ?_
  ·refine W_draw [1] false (by kernel_rfl) (by kernel_rfl) (WD_takeQ [0, 1, 2, 5, 6, 7] [5, 10] [5, 10] (φ := True) (ls' := (tf true [3, 2, 3, 4])) (st' := ⟨[(5, pA 0 1), (10, pA 0 1)], [.cells [.sp 0 53, .bsl 1 x1.length], uO x1]⟩) (n2 := 6) (by kernel_rfl) trivial rfl (WD_all [3, 8] (n := 5) (by kernel_rfl) rfl (aI ?_ (?_))))
   ·refine WM_op (φ := True) (v := .one (.e (.bsl 1 x1.length))) (H' := [.cells [.sp 0 53, .bsl 1 x1.length], uO x1]) rfl rfl (by kernel_rfl) trivial rfl (aI (aI rfl rfl) (trivial)) (WD_all [4, 8] (n := 4) (by kernel_rfl) rfl (aI ?_ (?_)))
    ·refine WM_op (φ := True) (v := .one (.e (.sd 1))) (H' := [.cells [.sp 0 53, .bsl 1 x1.length], uO x1]) rfl rfl (by kernel_rfl) trivial rfl (aI (aI rfl rfl) (trivial)) (WD_all [8] (n := 3) (by kernel_rfl) rfl (WM_op (φ := True) (v := .one (.e (.bsl 1 x1.length))) (H' := [.cells [.sp 0 53, .bsl 1 x1.length], uO x1]) rfl rfl (by kernel_rfl) trivial rfl (aI (aI rfl rfl) (trivial)) (WD_all [9] (n := 2) (by kernel_rfl) rfl (WM_op (φ := True) (v := I (lI x1)) (H' := [.cells [.sp 0 53, .bsl 1 x1.length], uO x1]) rfl rfl (by kernel_rfl) trivial rfl (aI (aI rfl rfl) (trivial)) (WD_all [10] (n := 1) (by kernel_rfl) rfl (WM_op (φ := (lI x1) = (x1.length : Int) ∧ ∀ x ∈ x1, 0 ≤ x ∧ x ≤ 255) (v := S (bytesOf x1)) (H' := [.cells [.sp 0 53, .bsl 1 x1.length], .dead]) rfl rfl (by kernel_rfl) hg5 rfl (aI (aI rfl rfl) (trivial)) (WD_takeQ [11] [2] [2] (φ := True) (ls' := (tf true [12])) (st' := ⟨[(2, S (bytesOf x1))], [.cells [.sp 0 53, .bsl 1 x1.length], .dead]⟩) (n2 := 0) (by kernel_rfl) trivial rfl ?_)))))))
     exact WD_done [0, 1] [2] (st' := ⟨[(2, S (bytesOf x1))], [.cells [.sp 0 53, .bsl 1 x1.length], .dead]⟩) (by kernel_rfl) (by kernel_rfl) (aI rfl rfl)
    ·refine WM_op (φ := True) (v := .one (.e (.bsl 1 x1.length))) (H' := [.cells [.sp 0 53, .bsl 1 x1.length], uO x1]) rfl rfl (by kernel_rfl) trivial rfl (aI (aI rfl rfl) (trivial)) (WD_all [4, 9] (n := 3) (by kernel_rfl) rfl (aI ?_ (?_)))
     ·refine WM_op (φ := True) (v := .one (.e (.sd 1))) (H' := [.cells [.sp 0 53, .bsl 1 x1.length], uO x1]) rfl rfl (by kernel_rfl) trivial rfl (aI (aI rfl rfl) (trivial)) (WD_all [9] (n := 2) (by kernel_rfl) rfl (WM_op (φ := True) (v := I (lI x1)) (H' := [.cells [.sp 0 53, .bsl 1 x1.length], uO x1]) rfl rfl (by kernel_rfl) trivial rfl (aI (aI rfl rfl) (trivial)) (WD_all [10] (n := 1) (by kernel_rfl) rfl (WM_op (φ := (lI x1) = (x1.length : Int) ∧ ∀ x ∈ x1, 0 ≤ x ∧ x ≤ 255) (v := S (bytesOf x1)) (H' := [.cells [.sp 0 53, .bsl 1 x1.length], .dead]) rfl rfl (by kernel_rfl) hg5 rfl (aI (aI rfl rfl) (trivial)) (WD_takeQ [11] [2] [2] (φ := True) (ls' := (tf true [12])) (st' := ⟨[(2, S (bytesOf x1))], [.cells [.sp 0 53, .bsl 1 x1.length], .dead]⟩) (n2 := 0) (by kernel_rfl) trivial rfl ?_)))))
      exact WD_done [0, 1] [2] (st' := ⟨[(2, S (bytesOf x1))], [.cells [.sp 0 53, .bsl 1 x1.length], .dead]⟩) (by kernel_rfl) (by kernel_rfl) (aI rfl rfl)
     ·refine WM_op (φ := True) (v := I (lI x1)) (H' := [.cells [.sp 0 53, .bsl 1 x1.length], uO x1]) rfl rfl (by kernel_rfl) trivial rfl (aI (aI rfl rfl) (trivial)) (WD_all [4] (n := 2) (by kernel_rfl) rfl (WM_op (φ := True) (v := .one (.e (.sd 1))) (H' := [.cells [.sp 0 53, .bsl 1 x1.length], uO x1]) rfl rfl (by kernel_rfl) trivial rfl (aI (aI rfl rfl) (trivial)) (WD_all [10] (n := 1) (by kernel_rfl) rfl (WM_op (φ := (lI x1) = (x1.length : Int) ∧ ∀ x ∈ x1, 0 ≤ x ∧ x ≤ 255) (v := S (bytesOf x1)) (H' := [.cells [.sp 0 53, .bsl 1 x1.length], .dead]) rfl rfl (by kernel_rfl) hg5 rfl (aI (aI rfl rfl) (trivial)) (WD_takeQ [11] [2] [2] (φ := True) (ls' := (tf true [12])) (st' := ⟨[(2, S (bytesOf x1))], [.cells [.sp 0 53, .bsl 1 x1.length], .dead]⟩) (n2 := 0) (by kernel_rfl) trivial rfl ?_)))))
      exact WD_done [0, 1] [2] (st' := ⟨[(2, S (bytesOf x1))], [.cells [.sp 0 53, .bsl 1 x1.length], .dead]⟩) (by kernel_rfl) (by kernel_rfl) (aI rfl rfl)
   ·refine WM_op (φ := True) (v := .one (.e (.bsl 1 x1.length))) (H' := [.cells [.sp 0 53, .bsl 1 x1.length], uO x1]) rfl rfl (by kernel_rfl) trivial rfl (aI (aI rfl rfl) (trivial)) (WD_all [3, 9] (n := 4) (by kernel_rfl) rfl (aI ?_ (?_)))
    ·refine WM_op (φ := True) (v := .one (.e (.bsl 1 x1.length))) (H' := [.cells [.sp 0 53, .bsl 1 x1.length], uO x1]) rfl rfl (by kernel_rfl) trivial rfl (aI (aI rfl rfl) (trivial)) (WD_all [4, 9] (n := 3) (by kernel_rfl) rfl (aI ?_ (?_)))
     ·refine WM_op (φ := True) (v := .one (.e (.sd 1))) (H' := [.cells [.sp 0 53, .bsl 1 x1.length], uO x1]) rfl rfl (by kernel_rfl) trivial rfl (aI (aI rfl rfl) (trivial)) (WD_all [9] (n := 2) (by kernel_rfl) rfl (WM_op (φ := True) (v := I (lI x1)) (H' := [.cells [.sp 0 53, .bsl 1 x1.length], uO x1]) rfl rfl (by kernel_rfl) trivial rfl (aI (aI rfl rfl) (trivial)) (WD_all [10] (n := 1) (by kernel_rfl) rfl (WM_op (φ := (lI x1) = (x1.length : Int) ∧ ∀ x ∈ x1, 0 ≤ x ∧ x ≤ 255) (v := S (bytesOf x1)) (H' := [.cells [.sp 0 53, .bsl 1 x1.length], .dead]) rfl rfl (by kernel_rfl) hg5 rfl (aI (aI rfl rfl) (trivial)) (WD_takeQ [11] [2] [2] (φ := True) (ls' := (tf true [12])) (st' := ⟨[(2, S (bytesOf x1))], [.cells [.sp 0 53, .bsl 1 x1.length], .dead]⟩) (n2 := 0) (by kernel_rfl) trivial rfl ?_)))))
      exact WD_done [0, 1] [2] (st' := ⟨[(2, S (bytesOf x1))], [.cells [.sp 0 53, .bsl 1 x1.length], .dead]⟩) (by kernel_rfl) (by kernel_rfl) (aI rfl rfl)
     ·refine WM_op (φ := True) (v := I (lI x1)) (H' := [.cells [.sp 0 53, .bsl 1 x1.length], uO x1]) rfl rfl (by kernel_rfl) trivial rfl (aI (aI rfl rfl) (trivial)) (WD_all [4] (n := 2) (by kernel_rfl) rfl (WM_op (φ := True) (v := .one (.e (.sd 1))) (H' := [.cells [.sp 0 53, .bsl 1 x1.length], uO x1]) rfl rfl (by kernel_rfl) trivial rfl (aI (aI rfl rfl) (trivial)) (WD_all [10] (n := 1) (by kernel_rfl) rfl (WM_op (φ := (lI x1) = (x1.length : Int) ∧ ∀ x ∈ x1, 0 ≤ x ∧ x ≤ 255) (v := S (bytesOf x1)) (H' := [.cells [.sp 0 53, .bsl 1 x1.length], .dead]) rfl rfl (by kernel_rfl) hg5 rfl (aI (aI rfl rfl) (trivial)) (WD_takeQ [11] [2] [2] (φ := True) (ls' := (tf true [12])) (st' := ⟨[(2, S (bytesOf x1))], [.cells [.sp 0 53, .bsl 1 x1.length], .dead]⟩) (n2 := 0) (by kernel_rfl) trivial rfl ?_)))))
      exact WD_done [0, 1] [2] (st' := ⟨[(2, S (bytesOf x1))], [.cells [.sp 0 53, .bsl 1 x1.length], .dead]⟩) (by kernel_rfl) (by kernel_rfl) (aI rfl rfl)
    ·refine WM_op (φ := True) (v := I (lI x1)) (H' := [.cells [.sp 0 53, .bsl 1 x1.length], uO x1]) rfl rfl (by kernel_rfl) trivial rfl (aI (aI rfl rfl) (trivial)) (WD_all [3] (n := 3) (by kernel_rfl) rfl (WM_op (φ := True) (v := .one (.e (.bsl 1 x1.length))) (H' := [.cells [.sp 0 53, .bsl 1 x1.length], uO x1]) rfl rfl (by kernel_rfl) trivial rfl (aI (aI rfl rfl) (trivial)) (WD_all [4] (n := 2) (by kernel_rfl) rfl (WM_op (φ := True) (v := .one (.e (.sd 1))) (H' := [.cells [.sp 0 53, .bsl 1 x1.length], uO x1]) rfl rfl (by kernel_rfl) trivial rfl (aI (aI rfl rfl) (trivial)) (WD_all [10] (n := 1) (by kernel_rfl) rfl (WM_op (φ := (lI x1) = (x1.length : Int) ∧ ∀ x ∈ x1, 0 ≤ x ∧ x ≤ 255) (v := S (bytesOf x1)) (H' := [.cells [.sp 0 53, .bsl 1 x1.length], .dead]) rfl rfl (by kernel_rfl) hg5 rfl (aI (aI rfl rfl) (trivial)) (WD_takeQ [11] [2] [2] (φ := True) (ls' := (tf true [12])) (st' := ⟨[(2, S (bytesOf x1))], [.cells [.sp 0 53, .bsl 1 x1.length], .dead]⟩) (n2 := 0) (by kernel_rfl) trivial rfl ?_)))))))
     exact WD_done [0, 1] [2] (st' := ⟨[(2, S (bytesOf x1))], [.cells [.sp 0 53, .bsl 1 x1.length], .dead]⟩) (by kernel_rfl) (by kernel_rfl) (aI rfl rfl)
  ·rintro _ _ ⟨rfl, rfl⟩
   refine thenS_n (W_ret ?_)
   cases h
   exact ⟨[0, 1], True, by kernel_rfl, trivial⟩

/- impl.PathText -/
def impl_PathText_L1 (x1 : List Nod) (x81 : List Int) : Nat → (List Int) → Int → Option ((List Int))
| 0, _, _ => none
| n + 1, x112, i113 =>
 iteO (decide (i113 < (((x81.length - 1) : Nat) : Int)))
 (guardO (0 ≤ i113 ∧ i113 < (((x81.length - 1) : Nat) : Int)) <|
 bindO (strings_Builder_WriteByte x112 47) fun x147 =>
 guardO (0 ≤ (x81.getD (1 + i113.toNat) 0) ∧ (x81.getD (1 + i113.toNat) 0) < ((x1.length : Nat) : Int)) <|
 bindO (strings_Builder_WriteString x147 ((x1.getD ((x81.getD (1 + i113.toNat) 0).toNat) dnod).name)) fun (x150, i151) =>
 impl_PathText_L1 x1 x81 n x150 (w64 (i113 + 1)))
 (some x112)

theorem impl_PathText_L1_ok (w : World) (X : Nat → Prop) (θ : List Loc) (x1 : List Nod) (x81 : List Int) (x134 : (List Int)) : ∀ (n : Nat) (x112 : List Int) (i113 : Int), impl_PathText_L1 x1 x81 n x112 i113 = some x134 → WL EE ⟨w, X, θ, 34, 1⟩ (subC [1, 1, 1, 1, 1, 0, 1, 4, 4] (bodyC Tryz.f47)) (fun (e : Exit) (s : St) => e = .exit 0 ∧ s = ⟨[(6, pA 1 0)], [nR x1, .cells [.sp 1 53, .bsl 2 x134.length], uO x134]⟩) ⟨[(0, sF 0 x1), (6, pA 1 0), (19, SL 2 1 (x81.length - 1)), (20, I (((x81.length - 1) : Nat) : Int)), (21, I i113)], [nR x1, .cells [.sp 1 53, .bsl 3 x112.length], iO x81, uO x112]⟩ := by
  intro n
  induction n with
  | zero => intro _ _ h; exact none_e h
  | succ n ih =>
    intro x112 i113 h
    rw [impl_PathText_L1] at h
    refine WL_round ?_
    refine Wsr ((Wp 1 [0, 1, 2, 3] [0, 6, 19, 20, 21, 22] T2 ⟨[(0, sF 0 x1), (6, pA 1 0), (19, SL 2 1 (x81.length - 1)), (20, I (((x81.length - 1) : Nat) : Int)), (21, I i113), (22, B (decide (i113 < (((x81.length - 1) : Nat) : Int))))], [nR x1, .cells [.sp 1 53, .bsl 3 x112.length], iO x81, uO x112]⟩ t2 (Wnt ((W_seq (iteO_e h (fun hb137 h => W_true rfl hb137 ?_) (fun hb137 h => W_false rfl hb137 ?_)))))))
    ·refine Ww [0, 1, 2, 3] [0, 6, 19, 20, 21] ⟨[(0, sF 0 x1), (6, pA 1 0), (19, SL 2 1 (x81.length - 1)), (20, I (((x81.length - 1) : Nat) : Int)), (21, I i113)], [nR x1, .cells [.sp 1 53, .bsl 3 x112.length], iO x81, uO x112]⟩ (W_skip (thenS_n (W_seq (W_block (Wsr ((guardO_e h (fun hg146 h => (Wp 3 [0, 1, 2, 3] [0, 6, 8, 19, 20, 21] ((0 ≤ i113 ∧ i113 < (((x81.length - 1) : Nat) : Int)) ∧ T2) ⟨[(0, sF 0 x1), (6, pA 1 0), (8, I (x81.getD (1 + i113.toNat) 0)), (19, SL 2 1 (x81.length - 1)), (20, I (((x81.length - 1) : Nat) : Int)), (21, I i113)], [nR x1, .cells [.sp 1 53, .bsl 3 x112.length], iO x81, uO x112]⟩ ⟨hg146, trivial, trivial⟩ (Wnt ((Wsr ((bindO_e h (fun x147 hc148 h => (Wc [.own 1, .own 3] rfl rfl rfl Tryz.func32 rfl (strings_Builder_WriteByte_ok x112 47 x147 hc148) (aI (trivial) (aI (trivial) (trivial))) rfl (Wb [0, 1, 2, 4] [0, 6, 8, 19, 20, 21] ⟨[(0, sF 0 x1), (6, pA 1 0), (8, I (x81.getD (1 + i113.toNat) 0)), (19, SL 2 1 (x81.length - 1)), (20, I (((x81.length - 1) : Nat) : Int)), (21, I i113)], [nR x1, .cells [.sp 1 53, .bsl 3 x147.length], iO x81, uO x147]⟩ (Wnt ((W_region (guardO_e h (fun hg149 h => (Wp 5 [0, 1, 2, 3] [0, 6, 19, 20, 21, 30] ((0 ≤ (x81.getD (1 + i113.toNat) 0) ∧ (x81.getD (1 + i113.toNat) 0) < (lI x1)) ∧ T2) ⟨[(0, sF 0 x1), (6, pA 1 0), (19, SL 2 1 (x81.length - 1)), (20, I (((x81.length - 1) : Nat) : Int)), (21, I i113), (30, S ((x1.getD ((x81.getD (1 + i113.toNat) 0).toNat) dnod).name))], [nR x1, .cells [.sp 1 53, .bsl 3 x147.length], iO x81, uO x147]⟩ ⟨hg149, trivial, trivial⟩ (bindO_e h (fun v153 hc152 h => ?_)))))))))))))))))))))))))
     obtain ⟨x150, i151⟩ := v153
     refine Wc [.own 1, .own 3] rfl rfl rfl Tryz.func29 rfl (strings_Builder_WriteString_ok x147 ((x1.getD ((x81.getD (1 + i113.toNat) 0).toNat) dnod).name) x150 i151 hc152) (aI (trivial) (aI (trivial) (trivial))) rfl (Wb [0, 1, 2, 4] [0, 6, 19, 20, 21] ⟨[(0, sF 0 x1), (6, pA 1 0), (19, SL 2 1 (x81.length - 1)), (20, I (((x81.length - 1) : Nat) : Int)), (21, I i113)], [nR x1, .cells [.sp 1 53, .bsl 3 x150.length], iO x81, uO x150]⟩ (WO_nil rfl (blockS_n (thenS_n (W_region (Wp 2 [0, 1, 2, 3] [0, 6, 19, 20, 21] T2 ⟨[(0, sF 0 x1), (6, pA 1 0), (19, SL 2 1 (x81.length - 1)), (20, I (((x81.length - 1) : Nat) : Int)), (21, I (w64 (i113 + 1)))], [nR x1, .cells [.sp 1 53, .bsl 3 x150.length], iO x81, uO x150]⟩ t2 (Wnt (?_))))))))
     exact ih _ _ h
    ·refine Ww [0, 1, 3] [6] ⟨[(6, pA 1 0)], [nR x1, .cells [.sp 1 53, .bsl 2 x112.length], uO x112]⟩ (W_exit (thenS_e (thenS_e ?_)))
     cases h
     exact aI rfl rfl

def impl_PathText (n : Nat) (x1 : List Nod) (i2 : Int) : Option (Str) :=
 bindO (impl_PathTo n x1 i2) fun x81 =>
 iteO (decide (((x81.length : Nat) : Int) = 0))
 (some [])
 (iteO (decide (((x81.length : Nat) : Int) = 1))
 (some [47])
 (guardO (0 ≤ (1 : Int) ∧ (1 : Int) ≤ ((x81.length : Nat) : Int)) <|
 bindO (impl_PathText_L1 x1 x81 n ([] : List Int) 0) fun x134 =>
 bindO (strings_Builder_String x134) fun (k155, s156) =>
 some s156))

theorem impl_PathText_ok (n : Nat) (x1 : List Nod) (i2 : Int) (s80 : Str) (h : impl_PathText n x1 i2 = some s80) : FOk EE 47 [sF 0 x1, I i2] [nR x1] (S s80) [nR x1] := by
  unfold impl_PathText at h
  refine FOk_of_W 34 1 Tryz.func47 rfl rfl (Nat.le_of_ble_eq_true rfl) rfl (fun w X θ => ?_)
  refine Wsr ((Ws 1 [0] [0, 1] ⟨[(0, sF 0 x1), (1, I i2)], [nR x1]⟩ (Wnt ((W_seq (W_region ?_))))))
  refine Ws 2 [0] [0, 9, 10] ⟨[(0, sF 0 x1), (9, sF 0 x1), (10, I i2)], [nR x1]⟩ (bindO_e h (fun x81 hc82 h => (Wc [.ro 0] rfl rfl rfl Tryz.func74 rfl (impl_PathTo_ok n x1 i2 x81 hc82) (aI (aI rfl rfl) (trivial)) rfl (Ws 1 [0, 1] [0, 5] ⟨[(0, sF 0 x1), (5, sF 1 x81)], [nR x1, iO x81]⟩ (Wnt ((W_seq ?_)))))))
  refine Wsr ((Wp 3 [0, 1] [0, 5, 14] T3 ⟨[(0, sF 0 x1), (5, sF 1 x81), (14, B (decide ((lI x81) = 0)))], [nR x1, iO x81]⟩ t3 (Wnt ((iteO_e h (fun hb84 h => W_true rfl hb84 ?_) (fun hb84 h => W_false rfl hb84 ?_))))))
  ·refine Wsr ((Ws 1 [0] [4] ⟨[(4, S [])], [nR x1]⟩ (Wnt ((W_ret (thenS_r ?_))))))
   cases h
   exact ⟨[0], True, by kernel_rfl, trivial⟩
  ·refine Ww [0, 1] [0, 5] ⟨[(0, sF 0 x1), (5, sF 1 x81)], [nR x1, iO x81]⟩ (W_skip (thenS_n (W_seq (Wsr ((Wp 3 [0, 1] [0, 5, 17] T3 ⟨[(0, sF 0 x1), (5, sF 1 x81), (17, B (decide ((lI x81) = 1)))], [nR x1, iO x81]⟩ t3 (Wnt ((iteO_e h (fun hb86 h => W_true rfl hb86 ?_) (fun hb86 h => W_false rfl hb86 ?_))))))))))
   ·refine Wsr ((Ws 1 [0] [4] ⟨[(4, S [47])], [nR x1]⟩ (Wnt ((W_ret (thenS_r ?_))))))
    cases h
    exact ⟨[0], True, by kernel_rfl, trivial⟩
   ·refine Ww [0, 1] [0, 5] ⟨[(0, sF 0 x1), (5, sF 1 x81)], [nR x1, iO x81]⟩ (W_skip (thenS_n (Wsr ((Wp 1 [0, 1, 2] [0, 5, 6] T2 ⟨[(0, sF 0 x1), (5, sF 1 x81), (6, pA 2 0)], [nR x1, iO x81, .cells [.sp 2 53, .nsl]]⟩ t2 (WO_bld 2 rfl (Wnt ((W_seq (Wsr ((guardO_e h (fun hg87 h => (Wp 4 [0, 2, 1, 3] [0, 6, 19, 20, 21] ((0 ≤ (1 : Int) ∧ (1 : Int) ≤ (lI x81)) ∧ T2) ⟨[(0, sF 0 x1), (6, pA 1 0), (19, SL 2 1 (x81.length - 1)), (20, I (((x81.length - 1) : Nat) : Int)), (21, I 0)], [nR x1, .cells [.sp 1 53, .bsl 3 (([] : List Int).length)], iO x81, uO ([] : List Int)]⟩ ⟨hg87, trivial, trivial⟩ (Wnt ((W_block (W_loop (bindO_e h (fun x134 hx134 h => (WL_cut (impl_PathText_L1_ok w X θ x1 x81 x134 n ([] : List Int) 0 hx134) ?_)))))))))))))))))))))
    rintro _ _ ⟨rfl, rfl⟩
    refine blockS_y (thenS_n (Wsr ((bindO_e h (fun v158 hc157 h => ?_)))))
    obtain ⟨k155, s156⟩ := v158
    refine Wc [.own 1, .own 2] rfl rfl rfl Tryz.func33 rfl (strings_Builder_String_ok x134 k155 s156 hc157) (aI (trivial) (aI (trivial) (trivial))) rfl (Ws 1 [0] [4] ⟨[(4, S s156)], [nR x1]⟩ (Wnt ((W_ret ?_))))
    cases h
    exact ⟨[0], True, by kernel_rfl, trivial⟩

/- impl.addPath -/
def impl_addPath (n : Nat) (x1 : List Nod) (s2 : Str) (i3 : Int) : Option ((List Nod) × Bool) :=
 bindO (impl_upperNode n x1 s2) fun i26 =>
 bindO (strings_LastIndexByte n s2 47) fun i28 =>
 guardO (0 ≤ (w64 (i28 + 1)) ∧ (w64 (i28 + 1)) ≤ ((s2.length : Nat) : Int)) <|
 bindO (impl_AddNode n x1 i26 (s2.drop ((w64 (i28 + 1)).toNat)) i3) fun (x31, i32, b33) =>
 bindO (iteO (!b33)
 (some true)
 (bindO (impl_PathText n x31 i32) fun s41 =>
 some (!decide (s41 = s2)))) fun b38 =>
 iteO b38
 (some (([] : List Nod), false))
 (some (x31, true))

theorem impl_addPath_ok (n : Nat) (x1 : List Nod) (s2 : Str) (i3 : Int) (x24 : List Nod) (b25 : Bool) (h : impl_addPath n x1 s2 i3 = some (x24, b25)) : FOk EE 40 [sF 0 x1, S s2, I i3] [nR x1] (.tup [.e (.sl 1 0 x24.length), .e (cB b25)]) [nR x1, nO x24] := by
  unfold impl_addPath at h
  refine FOk_of_W 36 1 Tryz.func40 rfl rfl (Nat.le_of_ble_eq_true rfl) rfl (fun w X θ => ?_)
  refine Wsr ((Ws 2 [0] [0, 1, 2] ⟨[(0, sF 0 x1), (1, S s2), (2, I i3)], [nR x1]⟩ (Wnt ((W_seq (W_region ?_))))))
  refine Ws 3 [0] [1, 2, 12, 13, 14] ⟨[(1, S s2), (2, I i3), (12, sF 0 x1), (13, sF 0 x1), (14, S s2)], [nR x1]⟩ (bindO_e h (fun i26 hc27 h => (Wc [.ro 0] rfl rfl rfl Tryz.func69 rfl (impl_upperNode_ok n x1 s2 i26 hc27) (aI (aI rfl rfl) (trivial)) rfl (Ws 2 [0] [1, 2, 12, 15, 16, 17] ⟨[(1, S s2), (2, I i3), (12, sF 0 x1), (15, I i26), (16, S s2), (17, S s2)], [nR x1]⟩ (bindO_e h (fun i28 hc29 h => (Wc [] rfl rfl rfl Tryz.func70 rfl (strings_LastIndexByte_ok n s2 47 i28 hc29) (trivial) rfl (guardO_e h (fun hg30 h => ?_)))))))))
  refine Wp 3 [0] [1, 12, 15, 20, 21] (True ∧ ((0 ≤ (w64 (i28 + 1)) ∧ (w64 (i28 + 1)) ≤ (lI s2)) ∧ True)) ⟨[(1, S s2), (12, sF 0 x1), (15, I i26), (20, S (s2.drop ((w64 (i28 + 1)).toNat))), (21, I i3)], [nR x1]⟩ ⟨trivial, hg30, trivial⟩ (bindO_e h (fun v45 hc34 h => ?_))
  obtain ⟨x31, i32, b33⟩ := v45
  refine Wc [.ro 0] rfl rfl rfl Tryz.func68 rfl (impl_AddNode_ok n x1 i26 (s2.drop ((w64 (i28 + 1)).toNat)) i3 x31 i32 b33 hc34) (aI (aI rfl rfl) (trivial)) rfl (Ws 7 [0, 1] [1, 8, 9, 10] ⟨[(1, S s2), (8, sF 1 x31), (9, I i32), (10, B b33)], [nR x1, nO x31]⟩ (Wnt ((W_seq (W_seq (W_region ?_))))))
  refine Ws 3 [0, 1] [1, 8, 9, 28] ⟨[(1, S s2), (8, sF 1 x31), (9, I i32), (28, B (!b33))], [nR x1, nO x31]⟩ (bindO_e h (fun b38 hv39 h => (WO_thru ⟨[(8, sF 1 x31), (34, B b38)], [nR x1, nO x31]⟩ ?_ ?_)))
  ·refine iteO_e hv39 (fun hb40 hv39 => WO_known 28 true rfl hb40 ?_) (fun hb40 hv39 => WO_known 28 false rfl hb40 ?_)
   ·refine Ws 6 [0, 1] [8, 34] ⟨[(8, sF 1 x31), (34, B true)], [nR x1, nO x31]⟩ ?_
    cases hv39
    exact WO_nil rfl ⟨rfl, rfl⟩
   ·refine Ws 2 [0, 1] [1, 8, 28, 29, 30] ⟨[(1, S s2), (8, sF 1 x31), (28, B false), (29, sF 1 x31), (30, I i32)], [nR x1, nO x31]⟩ (bindO_e hv39 (fun s41 hc42 hv39 => (Wc [.ro 1] rfl rfl rfl Tryz.func47 rfl (impl_PathText_ok n x31 i32 s41 hc42) (aI (aI rfl rfl) (trivial)) rfl (Wp 3 [0, 1] [8, 34] T2 ⟨[(8, sF 1 x31), (34, B (!decide (s41 = s2)))], [nR x1, nO x31]⟩ t2 ?_))))
    cases hv39
    exact WO_nil rfl ⟨rfl, rfl⟩
  ·refine thenS_n (iteO_e h (fun hb44 h => W_true rfl hb44 ?_) (fun hb44 h => W_false rfl hb44 ?_))
   ·refine Wsr ((Ws 2 [0] [6, 7] ⟨[(6, .one (.e (.nsl))), (7, B false)], [nR x1]⟩ (WO_nilrow 6 .nod rfl (Wb [0, 1] [6, 7] ⟨[(6, .one (.e (.sl 1 0 (([] : List Nod).length)))), (7, B false)], [nR x1, nO ([] : List Nod)]⟩ (Wnt ((W_ret (thenS_r ?_))))))))
    cases h
    exact ⟨[0, 1], True, by kernel_rfl, trivial⟩
   ·refine Ww [0, 1] [8] ⟨[(8, sF 1 x31)], [nR x1, nO x31]⟩ (W_skip (thenS_n (Wsr ((Ws 3 [0, 1] [6, 7] ⟨[(6, sF 1 x31), (7, B true)], [nR x1, nO x31]⟩ (Wnt ((W_ret ?_))))))))
    cases h
    exact ⟨[0, 1], True, by kernel_rfl, trivial⟩

/- strconv.Itoa -/
def lays171R : Shelf.Ren := ⟨fun n => match n with | 129 => 162 | 171 => 48 | 243 => 75 | 246 => 113 | 283 => 137 | 284 => 138 | 285 => 139 | 286 => 140 | 317 => 161 | 318 => 163 | 319 => 164 | 320 => 165 | 337 => 171 | 338 => 172 | _ => 0, fun n => match n with | 0 => 0 | 2 => 2 | 3 => 3 | 4 => 4 | 5 => 5 | 9 => 9 | 20 => 20 | 37 => 22 | 46 => 133 | 51 => 154 | 53 => 134 | 171 => 140 | 173 => 143 | 212 => 162 | 213 => 163 | 232 => 177 | 233 => 178 | _ => 0, fun n => match n with | 17 => 4 | 18 => 8 | 19 => 9 | _ => 0⟩
set_option maxRecDepth 100000 in
theorem lays171 : LaysM.n171 Tryz.prog lays171R := {
  mixed := by kernel_rfl
  f129 := by kernel_rfl
  f171 := by kernel_rfl
  f243 := by kernel_rfl
  f246 := by kernel_rfl
  f283 := by kernel_rfl
  f284 := by kernel_rfl
  f285 := by kernel_rfl
  f286 := by kernel_rfl
  f317 := by kernel_rfl
  f318 := by kernel_rfl
  f319 := by kernel_rfl
  f320 := by kernel_rfl
  f337 := by kernel_rfl
  f338 := by kernel_rfl
  t0 := Tryz.underlying0
  a0 := Tryz.isAgg0
  z0 := Tryz.sizeOf0
  v0 := Tryz.zeroValue0
  t2 := Tryz.underlying2
  a2 := Tryz.isAgg2
  z2 := Tryz.sizeOf2
  v2 := Tryz.zeroValue2
  t3 := Tryz.underlying3
  a3 := Tryz.isAgg3
  z3 := Tryz.sizeOf3
  v3 := Tryz.zeroValue3
  t4 := Tryz.underlying4
  a4 := Tryz.isAgg4
  z4 := Tryz.sizeOf4
  v4 := Tryz.zeroValue4
  t5 := Tryz.underlying5
  a5 := Tryz.isAgg5
  z5 := Tryz.sizeOf5
  v5 := Tryz.zeroValue5
  t9 := Tryz.underlying9
  a9 := Tryz.isAgg9
  z9 := Tryz.sizeOf9
  v9 := Tryz.zeroValue9
  t20 := Tryz.underlying20
  a20 := Tryz.isAgg20
  z20 := Tryz.sizeOf20
  v20 := Tryz.zeroValue20
  t37 := Tryz.underlying22
  a37 := Tryz.isAgg22
  z37 := Tryz.sizeOf22
  v37 := Tryz.zeroValue22
  t46 := Tryz.underlying133
  a46 := Tryz.isAgg133
  z46 := Tryz.sizeOf133
  v46 := Tryz.zeroValue133
  t51 := Tryz.underlying154
  a51 := Tryz.isAgg154
  z51 := Tryz.sizeOf154
  v51 := Tryz.zeroValue154
  t53 := Tryz.underlying134
  a53 := Tryz.isAgg134
  z53 := Tryz.sizeOf134
  v53 := Tryz.zeroValue134
  t171 := Tryz.underlying140
  a171 := Tryz.isAgg140
  z171 := Tryz.sizeOf140
  v171 := Tryz.zeroValue140
  t173 := Tryz.underlying143
  a173 := Tryz.isAgg143
  z173 := Tryz.sizeOf143
  v173 := Tryz.zeroValue143
  t212 := Tryz.underlying162
  a212 := Tryz.isAgg162
  z212 := Tryz.sizeOf162
  v212 := Tryz.zeroValue162
  t213 := Tryz.underlying163
  a213 := Tryz.isAgg163
  z213 := Tryz.sizeOf163
  t232 := Tryz.underlying177
  a232 := Tryz.isAgg177
  z232 := Tryz.sizeOf177
  v232 := Tryz.zeroValue177
  t233 := Tryz.underlying178
  a233 := Tryz.isAgg178
  z233 := Tryz.sizeOf178
  v233 := Tryz.zeroValue178
  g17 := by kernel_rfl
  g18 := by kernel_rfl
  g19 := by kernel_rfl
  i0 := by kernel_rfl
  i2 := by kernel_rfl
  i3 := by kernel_rfl
  i4 := by kernel_rfl
  i5 := by kernel_rfl
  i9 := by kernel_rfl
  i20 := by kernel_rfl
  i37 := by kernel_rfl
  i46 := by kernel_rfl
  i51 := by kernel_rfl
  i53 := by kernel_rfl
  i171 := by kernel_rfl
  i173 := by kernel_rfl
  i212 := by kernel_rfl
  i232 := by kernel_rfl
  i233 := by kernel_rfl
  m17 := by kernel_rfl
  m18 := by kernel_rfl
  m19 := by kernel_rfl }
def strconv_Itoa (i1 : Int) : Option Str :=
 guardO (-9223372036854775808 ≤ i1 ∧ i1 ≤ 9223372036854775807) <|
 some (Lib.itoa i1)
theorem strconv_Itoa_ok (i1 : Int) (s2 : Str) (h : strconv_Itoa i1 = some s2) : FOk EE 48 [I i1] [] (S s2) [] := by
  unfold strconv_Itoa at h
  refine guardO_e h (fun hg h => ?_)
  cases h
  refine FOk_kept (args := [.int .i64 i1]) (r := .str (Lib.itoa i1)) (fun w hw => ?_)
  refine (Any.strconv_Itoa lays171 i1 hg.1 hg.2 w (KK_tab w hw)).mono ?_
  rintro e w' ⟨rfl, k, os, rfl⟩
  exact ⟨rfl, Lib.below_grow _ w (Nat.le_refl _) k os⟩

/- impl.FormatTree -/
def impl_FormatTree_L1 (x1 : List Nod) : Nat → (List Int) → Int → Option ((List Int))
| 0, _, _ => none
| n + 1, x217, i218 =>
 iteO (decide (i218 < ((x1.length : Nat) : Int)))
 (guardO (0 ≤ i218 ∧ i218 < ((x1.length : Nat) : Int)) <|
 bindO (iteO (decide (0 < i218))
 (bindO (strings_Builder_WriteString x217 [59, 32]) fun (x302, i303) =>
 some x302)
 (some x217)) fun x299 =>
 bindO (impl_PathText n x1 i218) fun s306 =>
 bindO (strings_Builder_WriteString x299 s306) fun (x308, i309) =>
 bindO (strings_Builder_WriteByte x308 32) fun x311 =>
 bindO (strconv_Itoa ((x1.getD i218.toNat dnod).value)) fun s313 =>
 bindO (strings_Builder_WriteString x311 s313) fun (x315, i316) =>
 impl_FormatTree_L1 x1 n x315 (w64 (i218 + 1)))
 (some x217)

theorem impl_FormatTree_L1_ok (w : World) (X : Nat → Prop) (θ : List Loc) (x1 : List Nod) (x267 : (List Int)) : ∀ (n : Nat) (x217 : List Int) (i218 : Int), impl_FormatTree_L1 x1 n x217 i218 = some x267 → WL EE ⟨w, X, θ, 30, 1⟩ (subC [1, 1, 1, 0, 1, 4, 4] (bodyC Tryz.f17)) (fun (e : Exit) (s : St) => e = .exit 0 ∧ s = ⟨[(3, pA 1 0)], [nR x1, .cells [.sp 1 53, .bsl 2 x267.length], uO x267]⟩) ⟨[(0, sF 0 x1), (3, pA 1 0), (9, sF 0 x1), (10, I ((x1.length : Nat) : Int)), (11, I i218)], [nR x1, .cells [.sp 1 53, .bsl 2 x217.length], uO x217]⟩ := by
  intro n
  induction n with
  | zero => intro _ _ h; exact none_e h
  | succ n ih =>
    intro x217 i218 h
    rw [impl_FormatTree_L1] at h
    refine WL_round ?_
    refine Wsr ((Wp 1 [0, 1, 2] [0, 3, 9, 10, 11, 12] T2 ⟨[(0, sF 0 x1), (3, pA 1 0), (9, sF 0 x1), (10, I (lI x1)), (11, I i218), (12, B (decide (i218 < (lI x1))))], [nR x1, .cells [.sp 1 53, .bsl 2 x217.length], uO x217]⟩ t2 (Wnt ((W_seq (iteO_e h (fun hb270 h => W_true rfl hb270 ?_) (fun hb270 h => W_false rfl hb270 ?_)))))))
    ·refine Ww [0, 1, 2] [0, 3, 9, 10, 11] ⟨[(0, sF 0 x1), (3, pA 1 0), (9, sF 0 x1), (10, I (lI x1)), (11, I i218)], [nR x1, .cells [.sp 1 53, .bsl 2 x217.length], uO x217]⟩ (W_skip (thenS_n (W_seq (W_block (Wsr ((guardO_e h (fun hg293 h => (Wp 6 [0, 1, 3, 2] [0, 3, 4, 5, 9, 10, 11] ((0 ≤ i218 ∧ i218 < (lI x1)) ∧ T4) ⟨[(0, sF 0 x1), (3, pA 1 0), (4, I i218), (5, pA 2 0), (9, sF 0 x1), (10, I (lI x1)), (11, I i218)], [nR x1, .cells [.sp 1 53, .bsl 3 x217.length], .cells [cI ((x1.getD i218.toNat dnod).parent), cS ((x1.getD i218.toNat dnod).name), cI ((x1.getD i218.toNat dnod).value)], uO x217]⟩ ⟨hg293, trivial, trivial, trivial, trivial⟩ (Wnt ((W_seq (Wsr ((Wp 2 [0, 1, 2, 3] [0, 3, 4, 5, 9, 10, 11, 17] T2 ⟨[(0, sF 0 x1), (3, pA 1 0), (4, I i218), (5, pA 2 0), (9, sF 0 x1), (10, I (lI x1)), (11, I i218), (17, B (decide (0 < i218)))], [nR x1, .cells [.sp 1 53, .bsl 3 x217.length], .cells [cI ((x1.getD i218.toNat dnod).parent), cS ((x1.getD i218.toNat dnod).name), cI ((x1.getD i218.toNat dnod).value)], uO x217]⟩ t2 (Wnt ((bindO_e h (fun x299 hx299 h => (W_cut (Q' := fun (e : Exit) (s : St) => e = .normal ∧ s = ⟨[(0, sF 0 x1), (3, pA 1 0), (4, I i218), (5, pA 2 0), (9, sF 0 x1), (10, I (lI x1)), (11, I i218)], [nR x1, .cells [.sp 1 53, .bsl 3 x299.length], .cells [cI ((x1.getD i218.toNat dnod).parent), cS ((x1.getD i218.toNat dnod).name), cI ((x1.getD i218.toNat dnod).value)], uO x299]⟩) ?_ ?_))))))))))))))))))))
     ·refine iteO_e hx299 (fun hb301 hx299 => W_true rfl hb301 ?_) (fun hb301 hx299 => W_false rfl hb301 ?_)
      ·refine W_region (Wb [0, 1, 2, 3] [0, 3, 4, 5, 9, 10, 11] ⟨[(0, sF 0 x1), (3, pA 1 0), (4, I i218), (5, pA 2 0), (9, sF 0 x1), (10, I (lI x1)), (11, I i218)], [nR x1, .cells [.sp 1 53, .bsl 3 x217.length], .cells [cI ((x1.getD i218.toNat dnod).parent), cS ((x1.getD i218.toNat dnod).name), cI ((x1.getD i218.toNat dnod).value)], uO x217]⟩ (bindO_e hx299 (fun v305 hc304 hx299 => ?_)))
       obtain ⟨x302, i303⟩ := v305
       refine Wc [.own 1, .own 3] rfl rfl rfl Tryz.func29 rfl (strings_Builder_WriteString_ok x217 [59, 32] x302 i303 hc304) (aI (trivial) (aI (trivial) (trivial))) rfl (Wb [0, 1, 2, 4] [0, 3, 4, 5, 9, 10, 11] ⟨[(0, sF 0 x1), (3, pA 1 0), (4, I i218), (5, pA 2 0), (9, sF 0 x1), (10, I (lI x1)), (11, I i218)], [nR x1, .cells [.sp 1 53, .bsl 3 x302.length], .cells [cI ((x1.getD i218.toNat dnod).parent), cS ((x1.getD i218.toNat dnod).name), cI ((x1.getD i218.toNat dnod).value)], uO x302]⟩ (WO_nil rfl ?_))
       cases hx299
       exact aI rfl rfl
      ·refine Ww [0, 1, 2, 3] [0, 3, 4, 5, 9, 10, 11] ⟨[(0, sF 0 x1), (3, pA 1 0), (4, I i218), (5, pA 2 0), (9, sF 0 x1), (10, I (lI x1)), (11, I i218)], [nR x1, .cells [.sp 1 53, .bsl 3 x217.length], .cells [cI ((x1.getD i218.toNat dnod).parent), cS ((x1.getD i218.toNat dnod).name), cI ((x1.getD i218.toNat dnod).value)], uO x217]⟩ (W_skip ?_)
       cases hx299
       exact aI rfl rfl
     ·rintro _ _ ⟨rfl, rfl⟩
      refine thenS_n (Wsr ((Ws 2 [0, 1, 2, 3] [0, 3, 5, 9, 10, 11, 19, 20] ⟨[(0, sF 0 x1), (3, pA 1 0), (5, pA 2 0), (9, sF 0 x1), (10, I (lI x1)), (11, I i218), (19, sF 0 x1), (20, I i218)], [nR x1, .cells [.sp 1 53, .bsl 3 x299.length], .cells [cI ((x1.getD i218.toNat dnod).parent), cS ((x1.getD i218.toNat dnod).name), cI ((x1.getD i218.toNat dnod).value)], uO x299]⟩ (bindO_e h (fun s306 hc307 h => (Wc [.ro 0] rfl rfl rfl Tryz.func47 rfl (impl_PathText_ok n x1 i218 s306 hc307) (aI (aI rfl rfl) (trivial)) rfl (Wb [0, 1, 2, 3] [0, 3, 5, 9, 10, 11, 21] ⟨[(0, sF 0 x1), (3, pA 1 0), (5, pA 2 0), (9, sF 0 x1), (10, I (lI x1)), (11, I i218), (21, S s306)], [nR x1, .cells [.sp 1 53, .bsl 3 x299.length], .cells [cI ((x1.getD i218.toNat dnod).parent), cS ((x1.getD i218.toNat dnod).name), cI ((x1.getD i218.toNat dnod).value)], uO x299]⟩ (bindO_e h (fun v319 hc310 h => ?_)))))))))
      obtain ⟨x308, i309⟩ := v319
      refine Wc [.own 1, .own 3] rfl rfl rfl Tryz.func29 rfl (strings_Builder_WriteString_ok x299 s306 x308 i309 hc310) (aI (trivial) (aI (trivial) (trivial))) rfl (Wb [0, 1, 2, 4] [0, 3, 5, 9, 10, 11] ⟨[(0, sF 0 x1), (3, pA 1 0), (5, pA 2 0), (9, sF 0 x1), (10, I (lI x1)), (11, I i218)], [nR x1, .cells [.sp 1 53, .bsl 3 x308.length], .cells [cI ((x1.getD i218.toNat dnod).parent), cS ((x1.getD i218.toNat dnod).name), cI ((x1.getD i218.toNat dnod).value)], uO x308]⟩ (Wnt ((Wsr ((bindO_e h (fun x311 hc312 h => (Wc [.own 1, .own 3] rfl rfl rfl Tryz.func32 rfl (strings_Builder_WriteByte_ok x308 32 x311 hc312) (aI (trivial) (aI (trivial) (trivial))) rfl (Wb [0, 1, 2, 4] [0, 3, 5, 9, 10, 11] ⟨[(0, sF 0 x1), (3, pA 1 0), (5, pA 2 0), (9, sF 0 x1), (10, I (lI x1)), (11, I i218)], [nR x1, .cells [.sp 1 53, .bsl 3 x311.length], .cells [cI ((x1.getD i218.toNat dnod).parent), cS ((x1.getD i218.toNat dnod).name), cI ((x1.getD i218.toNat dnod).value)], uO x311]⟩ (Wnt ((W_region (Wp 2 [0, 1, 3] [0, 3, 9, 10, 11, 25] T2 ⟨[(0, sF 0 x1), (3, pA 1 0), (9, sF 0 x1), (10, I (lI x1)), (11, I i218), (25, I ((x1.getD i218.toNat dnod).value))], [nR x1, .cells [.sp 1 53, .bsl 2 x311.length], uO x311]⟩ t2 (bindO_e h (fun s313 hc314 h => (Wc [] rfl rfl rfl Tryz.func48 rfl (strconv_Itoa_ok ((x1.getD i218.toNat dnod).value) s313 hc314) (trivial) rfl (Wb [0, 1, 2] [0, 3, 9, 10, 11, 26] ⟨[(0, sF 0 x1), (3, pA 1 0), (9, sF 0 x1), (10, I (lI x1)), (11, I i218), (26, S s313)], [nR x1, .cells [.sp 1 53, .bsl 2 x311.length], uO x311]⟩ (bindO_e h (fun v318 hc317 h => ?_)))))))))))))))))))
      obtain ⟨x315, i316⟩ := v318
      refine Wc [.own 1, .own 2] rfl rfl rfl Tryz.func29 rfl (strings_Builder_WriteString_ok x311 s313 x315 i316 hc317) (aI (trivial) (aI (trivial) (trivial))) rfl (Wb [0, 1, 3] [0, 3, 9, 10, 11] ⟨[(0, sF 0 x1), (3, pA 1 0), (9, sF 0 x1), (10, I (lI x1)), (11, I i218)], [nR x1, .cells [.sp 1 53, .bsl 2 x315.length], uO x315]⟩ (WO_nil rfl (blockS_n (thenS_n (W_region (Wp 2 [0, 1, 2] [0, 3, 9, 10, 11] T2 ⟨[(0, sF 0 x1), (3, pA 1 0), (9, sF 0 x1), (10, I (lI x1)), (11, I (w64 (i218 + 1)))], [nR x1, .cells [.sp 1 53, .bsl 2 x315.length], uO x315]⟩ t2 (Wnt (?_))))))))
      exact ih _ _ h
    ·refine Ww [0, 1, 2] [3] ⟨[(3, pA 1 0)], [nR x1, .cells [.sp 1 53, .bsl 2 x217.length], uO x217]⟩ (W_exit (thenS_e (thenS_e ?_)))
     cases h
     exact aI rfl rfl

def impl_FormatTree (n : Nat) (x1 : List Nod) : Option (Str) :=
 bindO (impl_ValidTree n x1) fun b161 =>
 iteO (!b161)
 (some [])
 (bindO (impl_FormatTree_L1 x1 n ([] : List Int) 0) fun x267 =>
 bindO (strings_Builder_String x267) fun (k321, s322) =>
 some s322)

theorem impl_FormatTree_ok (n : Nat) (x1 : List Nod) (s160 : Str) (h : impl_FormatTree n x1 = some s160) : FOk EE 17 [sF 0 x1] [nR x1] (S s160) [nR x1] := by
  unfold impl_FormatTree at h
  refine FOk_of_W 30 1 Tryz.func17 rfl rfl (Nat.le_of_ble_eq_true rfl) rfl (fun w X θ => ?_)
  refine Wsr ((Ws 1 [0] [0] ⟨[(0, sF 0 x1)], [nR x1]⟩ (Wnt ((W_seq (W_seq ?_))))))
  refine W_region (Ws 1 [0] [0, 6] ⟨[(0, sF 0 x1), (6, sF 0 x1)], [nR x1]⟩ (bindO_e h (fun b161 hc162 h => (Wc [.ro 0] rfl rfl rfl Tryz.func18 rfl (impl_ValidTree_ok n x1 b161 hc162) (aI (aI rfl rfl) (trivial)) rfl (Ws 1 [0] [0, 8] ⟨[(0, sF 0 x1), (8, B (!b161))], [nR x1]⟩ (Wnt (?_)))))))
  refine iteO_e h (fun hb164 h => W_true rfl hb164 ?_) (fun hb164 h => W_false rfl hb164 ?_)
  ·refine Wsr ((Ws 1 [0] [2] ⟨[(2, S [])], [nR x1]⟩ (Wnt ((W_ret (thenS_r ?_))))))
   cases h
   exact ⟨[0], True, by kernel_rfl, trivial⟩
  ·refine Ww [0] [0] ⟨[(0, sF 0 x1)], [nR x1]⟩ (W_skip (thenS_n (Wsr ((Wp 1 [0, 1] [0, 3] T2 ⟨[(0, sF 0 x1), (3, pA 1 0)], [nR x1, .cells [.sp 1 53, .nsl]]⟩ t2 (WO_bld 1 rfl (Wnt ((W_seq (Wsr ((Wp 3 [0, 1, 2] [0, 3, 9, 10, 11] T2 ⟨[(0, sF 0 x1), (3, pA 1 0), (9, sF 0 x1), (10, I (lI x1)), (11, I 0)], [nR x1, .cells [.sp 1 53, .bsl 2 (([] : List Int).length)], uO ([] : List Int)]⟩ t2 (Wnt ((W_block (W_loop (bindO_e h (fun x267 hx267 h => (WL_cut (impl_FormatTree_L1_ok w X θ x1 x267 n ([] : List Int) 0 hx267) ?_)))))))))))))))))))
   rintro _ _ ⟨rfl, rfl⟩
   refine blockS_y (thenS_n (Wsr ((bindO_e h (fun v324 hc323 h => ?_)))))
   obtain ⟨k321, s322⟩ := v324
   refine Wc [.own 1, .own 2] rfl rfl rfl Tryz.func33 rfl (strings_Builder_String_ok x267 k321 s322 hc323) (aI (trivial) (aI (trivial) (trivial))) rfl (Ws 1 [0] [2] ⟨[(2, S s322)], [nR x1]⟩ (Wnt ((W_ret ?_))))
   cases h
   exact ⟨[0], True, by kernel_rfl, trivial⟩

/- impl.ParseTree -/
def impl_ParseTree_L1 (s1 : Str) (x180 : List Str) : Nat → (List Nod) → Int → Option ((Unit) ⊕ ((List Nod)))
| 0, _, _ => none
| n + 1, x238, i239 =>
 iteO (decide (i239 < ((x180.length : Nat) : Int)))
 (guardO (0 ≤ i239 ∧ i239 < ((x180.length : Nat) : Int)) <|
 bindO (strings_Cut (x180.getD i239.toNat []) [32]) fun (s321, s322, b323) =>
 bindO (strconv_Atoi s322) fun (i325, b326) =>
 iteO ((!b323) || b326)
 (some (.inl ()))
 (bindO (iteO (decide (i239 = 0))
 (some (.inl [(⟨(-1), [], i325⟩ : Nod)]))
 (bindO (impl_addPath n x238 s321 i325) fun (x343, b344) =>
 iteO (!b344)
 (some (.inr ()))
 (some (.inl x343))) : Option (((List Nod)) ⊕ (Unit))) fun v341 =>
 match v341 with
 | (.inl x340) => (impl_ParseTree_L1 s1 x180 n x340 (w64 (i239 + 1)))
 | (.inr _) => (some (.inl ()))
))
 (some (.inr x238))

theorem impl_ParseTree_L1_ok (w : World) (X : Nat → Prop) (θ : List Loc) (s1 : Str) (x180 : List Str) (v : (Unit) ⊕ ((List Nod))) : ∀ (n : Nat) (x238 : List Nod) (i239 : Int), impl_ParseTree_L1 s1 x180 n x238 i239 = some v → WL EE ⟨w, X, θ, 62, 0⟩ (subC [1, 1, 0, 1, 4, 4] (bodyC Tryz.f14)) (fun (e : Exit) (s : St) => (match v with | (.inl _) => e = .ret ∧ s = ⟨[(2, .one (.e (.sl 0 0 (([] : List Nod).length)))), (3, B false)], [nO ([] : List Nod)]⟩ | (.inr x292) => e = .exit 0 ∧ s = ⟨[(0, S s1), (4, sF 0 x292)], [nO x292]⟩ : Prop)) ⟨[(0, S s1), (4, sF 0 x238), (13, sF 1 x180), (14, I ((x180.length : Nat) : Int)), (15, I i239)], [nO x238, sO x180]⟩ := by
  intro n
  induction n with
  | zero => intro _ _ h; exact none_e h
  | succ n ih =>
    intro x238 i239 h
    rw [impl_ParseTree_L1] at h
    refine WL_round ?_
    refine Wsr ((Wp 1 [0, 1] [0, 4, 13, 14, 15, 16] T2 ⟨[(0, S s1), (4, sF 0 x238), (13, sF 1 x180), (14, I (lI x180)), (15, I i239), (16, B (decide (i239 < (lI x180))))], [nO x238, sO x180]⟩ t2 (Wnt ((W_seq (iteO_e h (fun hb295 h => W_true rfl hb295 ?_) (fun hb295 h => W_false rfl hb295 ?_)))))))
    ·refine Ww [0, 1] [0, 4, 13, 14, 15] ⟨[(0, S s1), (4, sF 0 x238), (13, sF 1 x180), (14, I (lI x180)), (15, I i239)], [nO x238, sO x180]⟩ (W_skip (thenS_n (W_seq (W_block (Wsr ((guardO_e h (fun hg320 h => (Wp 5 [0, 1] [0, 4, 5, 6, 13, 14, 15] ((0 ≤ i239 ∧ i239 < (lI x180)) ∧ T2) ⟨[(0, S s1), (4, sF 0 x238), (5, I i239), (6, S (x180.getD i239.toNat [])), (13, sF 1 x180), (14, I (lI x180)), (15, I i239)], [nO x238, sO x180]⟩ ⟨hg320, trivial, trivial⟩ (Wnt ((Wsr ((Ws 1 [0, 1] [0, 4, 5, 13, 14, 15, 21] ⟨[(0, S s1), (4, sF 0 x238), (5, I i239), (13, sF 1 x180), (14, I (lI x180)), (15, I i239), (21, S (x180.getD i239.toNat []))], [nO x238, sO x180]⟩ (bindO_e h (fun v350 hc324 h => ?_))))))))))))))))
     obtain ⟨s321, s322, b323⟩ := v350
     refine Wc [] rfl rfl rfl Tryz.func38 rfl (strings_Cut_ok (x180.getD i239.toNat []) [32] s321 s322 b323 hc324) (trivial) rfl (Ws 7 [0, 1] [0, 4, 5, 7, 8, 9, 13, 14, 15] ⟨[(0, S s1), (4, sF 0 x238), (5, I i239), (7, S s321), (8, S s322), (9, B b323), (13, sF 1 x180), (14, I (lI x180)), (15, I i239)], [nO x238, sO x180]⟩ (Wnt ((Wsr ((Ws 1 [0, 1] [0, 4, 5, 7, 9, 13, 14, 15, 27] ⟨[(0, S s1), (4, sF 0 x238), (5, I i239), (7, S s321), (9, B b323), (13, sF 1 x180), (14, I (lI x180)), (15, I i239), (27, S s322)], [nO x238, sO x180]⟩ (bindO_e h (fun v349 hc327 h => ?_))))))))
     obtain ⟨i325, b326⟩ := v349
     refine Wc [] rfl rfl rfl Tryz.func39 rfl (strconv_Atoi_ok s322 i325 b326 hc327) (trivial) rfl (Ws 5 [0, 1] [0, 4, 5, 7, 9, 10, 11, 13, 14, 15] ⟨[(0, S s1), (4, sF 0 x238), (5, I i239), (7, S s321), (9, B b323), (10, I i325), (11, .one (.e (.err b326))), (13, sF 1 x180), (14, I (lI x180)), (15, I i239)], [nO x238, sO x180]⟩ (Wnt ((W_seq (Wsr ((Ws 3 [0, 1] [0, 4, 5, 7, 10, 11, 13, 14, 15, 33] ⟨[(0, S s1), (4, sF 0 x238), (5, I i239), (7, S s321), (10, I i325), (11, .one (.e (.err b326))), (13, sF 1 x180), (14, I (lI x180)), (15, I i239), (33, B (!b323))], [nO x238, sO x180]⟩ (WO_thru ⟨[(0, S s1), (4, sF 0 x238), (5, I i239), (7, S s321), (10, I i325), (13, sF 1 x180), (14, I (lI x180)), (15, I i239), (36, B ((!b323) || b326))], [nO x238, sO x180]⟩ ?_ ?_))))))))
     ·refine WO_if 33 rfl (fun hb330 => ?_) (fun hb330 => ?_)
      ·refine Ws 3 [0, 1] [0, 4, 5, 7, 10, 13, 14, 15, 36] ⟨[(0, S s1), (4, sF 0 x238), (5, I i239), (7, S s321), (10, I i325), (13, sF 1 x180), (14, I (lI x180)), (15, I i239), (36, B true)], [nO x238, sO x180]⟩ ?_
       exact WO_nil rfl ⟨rfl, by first | rfl | (rw [hb330]; first | done | rfl)⟩
      ·refine Wp 3 [0, 1] [0, 4, 5, 7, 10, 13, 14, 15, 36] T2 ⟨[(0, S s1), (4, sF 0 x238), (5, I i239), (7, S s321), (10, I i325), (13, sF 1 x180), (14, I (lI x180)), (15, I i239), (36, B b326)], [nO x238, sO x180]⟩ t2 ?_
       exact WO_nil rfl ⟨rfl, by first | rfl | (rw [hb330]; first | done | rfl)⟩
     ·refine thenS_n (iteO_e h (fun hb332 h => W_true rfl hb332 ?_) (fun hb332 h => W_false rfl hb332 ?_))
      ·refine Wsr ((Ws 2 [] [2, 3] ⟨[(2, .one (.e (.nsl))), (3, B false)], []⟩ (WO_nilrow 2 .nod rfl (Wb [0] [2, 3] ⟨[(2, .one (.e (.sl 0 0 (([] : List Nod).length)))), (3, B false)], [nO ([] : List Nod)]⟩ (Wnt ((W_ret (thenS_r (blockS_r (thenS_r (thenS_r ?_)))))))))))
       cases h
       exact aI rfl rfl
      ·refine Ww [0, 1] [0, 4, 5, 7, 10, 13, 14, 15] ⟨[(0, S s1), (4, sF 0 x238), (5, I i239), (7, S s321), (10, I i325), (13, sF 1 x180), (14, I (lI x180)), (15, I i239)], [nO x238, sO x180]⟩ (W_skip (thenS_n (Wsr ((Wp 2 [0, 1] [0, 4, 7, 10, 13, 14, 15, 38] T2 ⟨[(0, S s1), (4, sF 0 x238), (7, S s321), (10, I i325), (13, sF 1 x180), (14, I (lI x180)), (15, I i239), (38, B (decide (i239 = 0)))], [nO x238, sO x180]⟩ t2 (Wnt ((bindO_e h (fun v341 hv341 h => (W_cut (Q' := fun (e : Exit) (s : St) => (match v341 with | (.inl x340) => e = .normal ∧ s = ⟨[(0, S s1), (4, sF 0 x340), (13, sF 1 x180), (14, I (lI x180)), (15, I i239)], [nO x340, sO x180]⟩ | (.inr _) => e = .ret ∧ s = ⟨[(2, .one (.e (.sl 0 0 (([] : List Nod).length)))), (3, B false)], [nO ([] : List Nod)]⟩ : Prop)) ?_ ?_))))))))))
       ·refine iteO_e hv341 (fun hb342 hv341 => W_true rfl hb342 ?_) (fun hb342 hv341 => W_false rfl hb342 ?_)
        ·refine W_region (Ws 4 [2, 1] [0, 4, 13, 14, 15] ⟨[(0, S s1), (4, .one (.e (.sl 0 0 ([(⟨(-1), [], i325⟩ : Nod)].length)))), (13, sF 1 x180), (14, I (lI x180)), (15, I i239)], [.row .nod [(⟨(-1), [], i325⟩ : Nod)] true, sO x180]⟩ (WO_nil rfl ?_))
         cases hv341
         exact aI rfl rfl
        ·refine Wsr ((Ws 3 [1, 0] [0, 13, 14, 15, 43, 44, 45] ⟨[(0, S s1), (13, sF 0 x180), (14, I (lI x180)), (15, I i239), (43, sF 1 x238), (44, S s321), (45, I i325)], [sO x180, nO x238]⟩ (bindO_e hv341 (fun v348 hc345 hv341 => ?_))))
         obtain ⟨x343, b344⟩ := v348
         refine Wc [.ro 1] rfl rfl rfl Tryz.func40 rfl (impl_addPath_ok n x238 s321 i325 x343 b344 hc345) (aI (aI rfl rfl) (trivial)) rfl (Ws 5 [2, 0] [0, 4, 9, 13, 14, 15] ⟨[(0, S s1), (4, sF 0 x343), (9, B b344), (13, sF 1 x180), (14, I (lI x180)), (15, I i239)], [nO x343, sO x180]⟩ (Wnt ((Wsr ((Ws 2 [0, 1] [0, 4, 13, 14, 15, 50] ⟨[(0, S s1), (4, sF 0 x343), (13, sF 1 x180), (14, I (lI x180)), (15, I i239), (50, B (!b344))], [nO x343, sO x180]⟩ (Wnt ((iteO_e hv341 (fun hb347 hv341 => W_true rfl hb347 ?_) (fun hb347 hv341 => W_false rfl hb347 ?_))))))))))
         ·refine Wsr ((Ws 2 [] [2, 3] ⟨[(2, .one (.e (.nsl))), (3, B false)], []⟩ (WO_nilrow 2 .nod rfl (Wb [0] [2, 3] ⟨[(2, .one (.e (.sl 0 0 (([] : List Nod).length)))), (3, B false)], [nO ([] : List Nod)]⟩ (Wnt ((W_ret ?_)))))))
          cases hv341
          exact aI rfl rfl
         ·refine Ww [0, 1] [0, 4, 13, 14, 15] ⟨[(0, S s1), (4, sF 0 x343), (13, sF 1 x180), (14, I (lI x180)), (15, I i239)], [nO x343, sO x180]⟩ (W_skip ?_)
          cases hv341
          exact aI rfl rfl
       ·rcases v341 with x340 | _
        ·rintro _ _ ⟨rfl, rfl⟩
         refine blockS_n (thenS_n (W_region (Wp 2 [0, 1] [0, 4, 13, 14, 15] T2 ⟨[(0, S s1), (4, sF 0 x340), (13, sF 1 x180), (14, I (lI x180)), (15, I (w64 (i239 + 1)))], [nO x340, sO x180]⟩ t2 (Wnt (?_)))))
         exact ih _ _ h
        ·rintro _ _ ⟨rfl, rfl⟩
         refine blockS_r (thenS_r (thenS_r ?_))
         cases h
         exact aI rfl rfl
    ·refine Ww [0] [0, 4] ⟨[(0, S s1), (4, sF 0 x238)], [nO x238]⟩ (W_exit (thenS_e (thenS_e ?_)))
     cases h
     exact aI rfl rfl

def impl_ParseTree (n : Nat) (s1 : Str) : Option ((List Nod) × Bool) :=
 bindO (strings_SplitN s1 [59, 32] 13) fun x180 =>
 bindO (impl_ParseTree_L1 s1 x180 n ([] : List Nod) 0) fun v351 =>
 match v351 with
 | (.inl _) => (some (([] : List Nod), false))
 | (.inr x292) => (bindO (impl_ValidTree n x292) fun b352 =>
 bindO (iteO (!b352)
 (some true)
 (bindO (impl_FormatTree n x292) fun s360 =>
 some (!decide (s360 = s1)))) fun b357 =>
 iteO b357
 (some (([] : List Nod), false))
 (some (x292, true)))


theorem impl_ParseTree_ok (n : Nat) (s1 : Str) (x178 : List Nod) (b179 : Bool) (h : impl_ParseTree n s1 = some (x178, b179)) : FOk EE 14 [S s1] [] (.tup [.e (.sl 0 0 x178.length), .e (cB b179)]) [nO x178] := by
  unfold impl_ParseTree at h
  refine FOk_of_W 62 0 Tryz.func14 rfl rfl (Nat.le_of_ble_eq_true rfl) rfl (fun w X θ => ?_)
  refine Wsr ((Ws 2 [] [0] ⟨[(0, S s1)], []⟩ (Wnt ((W_seq (W_region ?_))))))
  refine Ws 1 [] [0, 4] ⟨[(0, S s1), (4, .one (.e (.nsl)))], []⟩ (WO_nilrow 4 .nod rfl (Wb [0] [0, 4] ⟨[(0, S s1), (4, .one (.e (.sl 0 0 (([] : List Nod).length))))], [nO ([] : List Nod)]⟩ (Wnt ((W_seq (W_seq ?_))))))
  refine W_region (Ws 1 [0] [0, 4, 12] ⟨[(0, S s1), (4, .one (.e (.sl 0 0 (([] : List Nod).length)))), (12, S s1)], [nO ([] : List Nod)]⟩ (bindO_e h (fun x180 hc181 h => (Wc [] rfl rfl rfl Tryz.func37 rfl (strings_SplitN_ok s1 [59, 32] 13 x180 hc181) (trivial) rfl (Wp 2 [0, 1] [0, 4, 13, 14, 15] T2 ⟨[(0, S s1), (4, .one (.e (.sl 0 0 (([] : List Nod).length)))), (13, sF 1 x180), (14, I (lI x180)), (15, I 0)], [nO ([] : List Nod), sO x180]⟩ t2 (Wnt (?_)))))))
  refine W_block (W_loop (bindO_e h (fun v351 hv351 h => (WL_cut (impl_ParseTree_L1_ok w X θ s1 x180 v351 n ([] : List Nod) 0 hv351) ?_))))
  rcases v351 with _ | x292
  ·rintro _ _ ⟨rfl, rfl⟩
   refine blockS_r (thenS_r ?_)
   cases h
   exact ⟨[0], True, by kernel_rfl, trivial⟩
  ·rintro _ _ ⟨rfl, rfl⟩
   refine blockS_y (thenS_n (W_seq (Wsr ((Ws 1 [0] [0, 4, 52] ⟨[(0, S s1), (4, sF 0 x292), (52, sF 0 x292)], [nO x292]⟩ (bindO_e h (fun b352 hc353 h => (Wc [.ro 0] rfl rfl rfl Tryz.func18 rfl (impl_ValidTree_ok n x292 b352 hc353) (aI (aI rfl rfl) (trivial)) rfl (Ws 2 [0] [0, 4, 55] ⟨[(0, S s1), (4, sF 0 x292), (55, B (!b352))], [nO x292]⟩ (bindO_e h (fun b357 hv358 h => (WO_thru ⟨[(4, sF 0 x292), (60, B b357)], [nO x292]⟩ ?_ ?_))))))))))))
   ·refine iteO_e hv358 (fun hb359 hv358 => WO_known 55 true rfl hb359 ?_) (fun hb359 hv358 => WO_known 55 false rfl hb359 ?_)
    ·refine Ws 5 [0] [4, 60] ⟨[(4, sF 0 x292), (60, B true)], [nO x292]⟩ ?_
     cases hv358
     exact WO_nil rfl ⟨rfl, rfl⟩
    ·refine Ws 1 [0] [0, 4, 55, 56] ⟨[(0, S s1), (4, sF 0 x292), (55, B false), (56, sF 0 x292)], [nO x292]⟩ (bindO_e hv358 (fun s360 hc361 hv358 => (Wc [.ro 0] rfl rfl rfl Tryz.func17 rfl (impl_FormatTree_ok n x292 s360 hc361) (aI (aI rfl rfl) (trivial)) rfl (Wp 3 [0] [4, 60] T2 ⟨[(4, sF 0 x292), (60, B (!decide (s360 = s1)))], [nO x292]⟩ t2 ?_))))
     cases hv358
     exact WO_nil rfl ⟨rfl, rfl⟩
   ·refine thenS_n (iteO_e h (fun hb363 h => W_true rfl hb363 ?_) (fun hb363 h => W_false rfl hb363 ?_))
    ·refine Wsr ((Ws 2 [] [2, 3] ⟨[(2, .one (.e (.nsl))), (3, B false)], []⟩ (WO_nilrow 2 .nod rfl (Wb [0] [2, 3] ⟨[(2, .one (.e (.sl 0 0 (([] : List Nod).length)))), (3, B false)], [nO ([] : List Nod)]⟩ (Wnt ((W_ret (thenS_r ?_))))))))
     cases h
     exact ⟨[0], True, by kernel_rfl, trivial⟩
    ·refine Ww [0] [4] ⟨[(4, sF 0 x292)], [nO x292]⟩ (W_skip (thenS_n (Wsr ((Ws 3 [0] [2, 3] ⟨[(2, sF 0 x292), (3, B true)], [nO x292]⟩ (Wnt ((W_ret ?_))))))))
     cases h
     exact ⟨[0], True, by kernel_rfl, trivial⟩

/- spec.splitAt -/
def spec_splitAt_L1 (s1 : Str) (i2 : Int) : Nat → (List Str) → Int → Int → Option (((List Str) × Int))
| 0, _, _, _ => none
| n + 1, x97, i98, i99 =>
 iteO (decide (i99 < ((s1.length : Nat) : Int)))
 (guardO (0 ≤ i99 ∧ i99 < ((s1.length : Nat) : Int)) <|
 bindO (iteO (decide (((s1.getD i99.toNat 0).toNat : Int) = i2))
 (guardO (0 ≤ i98 ∧ i98 ≤ i99 ∧ i99 ≤ ((s1.length : Nat) : Int)) <|
 guardO (0 = 0 ∧ x97.length = x97.length ∧ x97.length + (([((s1.take i99.toNat).drop i98.toNat)].drop 0).take ([((s1.take i99.toNat).drop i98.toNat)].length)).length ≤ 1099511627776) <|
 some ((x97 ++ (([((s1.take i99.toNat).drop i98.toNat)].drop 0).take ([((s1.take i99.toNat).drop i98.toNat)].length))), (w64 (i99 + 1))))
 (some (x97, i98))) fun v137 =>
 match v137 with
 | (x135, i136) => (spec_splitAt_L1 s1 i2 n x135 i136 (w64 (i99 + 1)))
)
 (some (x97, i98))

theorem spec_splitAt_L1_ok (w : World) (X : Nat → Prop) (θ : List Loc) (s1 : Str) (i2 : Int) (v : ((List Str) × Int)) : ∀ (n : Nat) (x97 : List Str) (i98 : Int) (i99 : Int), spec_splitAt_L1 s1 i2 n x97 i98 i99 = some v → WL EE ⟨w, X, θ, 35, 0⟩ (subC [1, 1, 1, 0, 1, 4, 4] (bodyC Tryz.f41)) (fun (e : Exit) (s : St) => (match v with | (x119, i120) => e = .exit 0 ∧ s = ⟨[(0, S s1), (5, sF 0 x119), (6, I i120)], [sO x119]⟩ : Prop)) ⟨[(0, S s1), (1, U i2), (5, sF 0 x97), (6, I i98), (7, I i99)], [sO x97]⟩ := by
  intro n
  induction n with
  | zero => intro _ _ _ h; exact none_e h
  | succ n ih =>
    intro x97 i98 i99 h
    rw [spec_splitAt_L1] at h
    refine WL_round ?_
    refine W_seq (Wsr ((Wp 4 [0] [0, 1, 5, 6, 7, 12] T3 ⟨[(0, S s1), (1, U i2), (5, sF 0 x97), (6, I i98), (7, I i99), (12, B (decide (i99 < (lI s1))))], [sO x97]⟩ t3 (Wnt ((iteO_e h (fun hb123 h => W_true rfl hb123 ?_) (fun hb123 h => W_false rfl hb123 ?_)))))))
    ·refine Ww [0] [0, 1, 5, 6, 7] ⟨[(0, S s1), (1, U i2), (5, sF 0 x97), (6, I i98), (7, I i99)], [sO x97]⟩ (W_skip (thenS_n (W_seq (W_block (Wsr ((guardO_e h (fun hg131 h => (Wp 5 [0] [0, 1, 5, 6, 7, 19] ((0 ≤ i99 ∧ i99 < (lI s1)) ∧ T2) ⟨[(0, S s1), (1, U i2), (5, sF 0 x97), (6, I i98), (7, I i99), (19, B (decide (((s1.getD i99.toNat 0).toNat : Int) = i2)))], [sO x97]⟩ ⟨hg131, trivial, trivial⟩ (Wnt ((bindO_e h (fun v137 hv137 h => (W_cut (Q' := fun (e : Exit) (s : St) => (match v137 with | (x135, i136) => e = .normal ∧ s = ⟨[(0, S s1), (1, U i2), (5, sF 0 x135), (6, I i136), (7, I i99)], [sO x135]⟩ : Prop)) ?_ ?_))))))))))))))
     ·refine iteO_e hv137 (fun hb138 hv137 => W_true rfl hb138 ?_) (fun hb138 hv137 => W_false rfl hb138 ?_)
      ·refine Wsr ((guardO_e hv137 (fun hg139 hv137 => (guardO_e hv137 (fun hg140 hv137 => (Wp 8 [2] [0, 1, 5, 7] ((0 ≤ i98 ∧ i98 ≤ i99 ∧ i99 ≤ (lI s1)) ∧ ((0 = 0 ∧ x97.length = x97.length ∧ x97.length + (([((s1.take i99.toNat).drop i98.toNat)].drop 0).take ([((s1.take i99.toNat).drop i98.toNat)].length)).length ≤ 1099511627776) ∧ True)) ⟨[(0, S s1), (1, U i2), (5, .one (.e (.sl 0 0 ((x97 ++ (([((s1.take i99.toNat).drop i98.toNat)].drop 0).take ([((s1.take i99.toNat).drop i98.toNat)].length))).length)))), (7, I i99)], [.row .str (x97 ++ (([((s1.take i99.toNat).drop i98.toNat)].drop 0).take ([((s1.take i99.toNat).drop i98.toNat)].length))) true]⟩ ⟨hg139, hg140, trivial⟩ (Wnt ((W_region (Wp 3 [0] [0, 1, 5, 6, 7] T2 ⟨[(0, S s1), (1, U i2), (5, .one (.e (.sl 0 0 ((x97 ++ (([((s1.take i99.toNat).drop i98.toNat)].drop 0).take ([((s1.take i99.toNat).drop i98.toNat)].length))).length)))), (6, I (w64 (i99 + 1))), (7, I i99)], [.row .str (x97 ++ (([((s1.take i99.toNat).drop i98.toNat)].drop 0).take ([((s1.take i99.toNat).drop i98.toNat)].length))) true]⟩ t2 (WO_nil rfl ?_)))))))))))
       cases hv137
       exact aI rfl rfl
      ·refine Ww [0] [0, 1, 5, 6, 7] ⟨[(0, S s1), (1, U i2), (5, sF 0 x97), (6, I i98), (7, I i99)], [sO x97]⟩ (W_skip ?_)
       cases hv137
       exact aI rfl rfl
     ·obtain ⟨x135, i136⟩ := v137
      rintro _ _ ⟨rfl, rfl⟩
      refine blockS_n (thenS_n (W_region (Wp 3 [0] [0, 1, 5, 6, 7] T2 ⟨[(0, S s1), (1, U i2), (5, sF 0 x135), (6, I i136), (7, I (w64 (i99 + 1)))], [sO x135]⟩ t2 (Wnt (?_)))))
      exact ih _ _ _ h
    ·refine Ww [0] [0, 5, 6] ⟨[(0, S s1), (5, sF 0 x97), (6, I i98)], [sO x97]⟩ (W_exit (thenS_e (thenS_e ?_)))
     cases h
     exact aI rfl rfl

def spec_splitAt (n : Nat) (s1 : Str) (i2 : Int) : Option ((List Str)) :=
 bindO (spec_splitAt_L1 s1 i2 n ([] : List Str) 0 0) fun v141 =>
 match v141 with
 | (x119, i120) => (guardO (0 ≤ i120 ∧ i120 ≤ ((s1.length : Nat) : Int)) <|
 guardO (0 = 0 ∧ x119.length = x119.length ∧ x119.length + (([(s1.drop i120.toNat)].drop 0).take ([(s1.drop i120.toNat)].length)).length ≤ 1099511627776) <|
 some (x119 ++ (([(s1.drop i120.toNat)].drop 0).take ([(s1.drop i120.toNat)].length))))


theorem spec_splitAt_ok (n : Nat) (s1 : Str) (i2 : Int) (x71 : List Str) (h : spec_splitAt n s1 i2 = some x71) : FOk EE 41 [S s1, U i2] [] (sF 0 x71) [sO x71] := by
  unfold spec_splitAt at h
  refine FOk_of_W 35 0 Tryz.func41 rfl rfl (Nat.le_of_ble_eq_true rfl) rfl (fun w X θ => ?_)
  refine Wsr ((Ws 1 [] [0, 1] ⟨[(0, S s1), (1, U i2)], []⟩ (Wnt ((W_seq (W_region ?_))))))
  refine Ws 2 [0] [0, 1, 5] ⟨[(0, S s1), (1, U i2), (5, .one (.e (.sl 0 0 (([] : List Str).length))))], [sO ([] : List Str)]⟩ (Wnt ((Wsr ((Ws 1 [0] [0, 1, 5, 6] ⟨[(0, S s1), (1, U i2), (5, .one (.e (.sl 0 0 (([] : List Str).length)))), (6, I 0)], [sO ([] : List Str)]⟩ (WO_nil rfl ?_))))))
  refine thenS_n (W_seq (Wsr ((Ws 1 [0] [0, 1, 5, 6, 7] ⟨[(0, S s1), (1, U i2), (5, .one (.e (.sl 0 0 (([] : List Str).length)))), (6, I 0), (7, I 0)], [sO ([] : List Str)]⟩ (Wnt (?_))))))
  refine W_block (W_loop (bindO_e h (fun v141 hv141 h => (WL_cut (spec_splitAt_L1_ok w X θ s1 i2 v141 n ([] : List Str) 0 0 hv141) ?_))))
  obtain ⟨x119, i120⟩ := v141
  rintro _ _ ⟨rfl, rfl⟩
  refine blockS_y (thenS_n (Wsr ((guardO_e h (fun hg142 h => (guardO_e h (fun hg143 h => (Wp 7 [2] [4] ((0 ≤ i120 ∧ i120 ≤ (lI s1)) ∧ ((0 = 0 ∧ x119.length = x119.length ∧ x119.length + (([(s1.drop i120.toNat)].drop 0).take ([(s1.drop i120.toNat)].length)).length ≤ 1099511627776) ∧ True)) ⟨[(4, .one (.e (.sl 0 0 ((x119 ++ (([(s1.drop i120.toNat)].drop 0).take ([(s1.drop i120.toNat)].length))).length))))], [.row .str (x119 ++ (([(s1.drop i120.toNat)].drop 0).take ([(s1.drop i120.toNat)].length))) true]⟩ ⟨hg142, hg143, trivial⟩ ?_))))))))
  refine Wnt ((W_ret ?_))
  cases h
  exact ⟨[0], True, by kernel_rfl, trivial⟩

end Go.Proofs.YtghdgncfcfdlfaaGreatDoor

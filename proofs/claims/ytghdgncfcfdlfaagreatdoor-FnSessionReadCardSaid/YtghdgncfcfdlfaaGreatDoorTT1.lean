import Derived.Test.YtghdgncfcfdlfaaGreatDoorTLt
import Derived.Test.YtghdgncfcfdlfaaGreatDoorTLxd
import Derived.Shelf.Strings.Builder1
import Derived.Shelf.Strings.Search1
import Derived.Shelf.Strconv.Itoa3
import Derived.Lib.AppendIntMem
import Derived.Shelf.Strings.Split
import Derived.Shelf.Strconv.AtoiAll
import Derived.Lib.LaidTab
import Derived.Test.YtghdgncfcfdlfaaGreatDoorProg
namespace Go.Proofs.YtghdgncfcfdlfaaGreatDoor
open Go Go.Shelf Go.Proofs
set_option linter.unusedVariables false
def gtab3 : List Bool := [true, true, true, true, true, true, true, true, true, true, true, false, true, true, true, false, false, false, true, true, false, true, false, false, true, true, false, false, false, false, true, false, false, false, false, false]
def gtab5 : List Int := [0, 1, 2, 3, 4, 5, 1, 1, 2, 3, 4, 5, 2, 2, 2, 4, 4, 5, 3, 3, 4, 3, 4, 5, 4, 4, 4, 4, 4, 5, 5, 5, 5, 5, 5, 5]
def KK (w : World) : Prop := Lib.TabIs Tryz.prog w "internal/strconv.uint64pow10" .u64 Lib.pow10Tab ∧ (∃ m, w.cell? ⟨0, 0, none⟩ = some (.int .i64 m)) ∧ (∃ ev, w.cell? ⟨1, 0, none⟩ = some ev ∧ (ev = .nilIface ∨ ∃ te pe, ev = .iface te pe)) ∧ (∃ ev, w.cell? ⟨2, 0, none⟩ = some ev ∧ (ev = .nilIface ∨ ∃ te pe, ev = .iface te pe))
theorem KK_tab (w : World) (h : KK w) : Lib.TabIs Tryz.prog w "internal/strconv.uint64pow10" .u64 Lib.pow10Tab := h.1
theorem KK_max (w : World) (h : KK w) : ∃ m, w.cell? ⟨0, 0, none⟩ = some (.int .i64 m) := h.2.1
theorem KK_syn (w : World) (h : KK w) : ∃ ev, w.cell? ⟨1, 0, none⟩ = some ev ∧ (ev = .nilIface ∨ ∃ te pe, ev = .iface te pe) := h.2.2.1
theorem KK_rng (w : World) (h : KK w) : ∃ ev, w.cell? ⟨2, 0, none⟩ = some ev ∧ (ev = .nilIface ∨ ∃ te pe, ev = .iface te pe) := h.2.2.2
noncomputable def EE : Env := ⟨Tryz.prog, fun g => match g with | 3 => some ⟨.bool, gtab3⟩ | 5 => some ⟨.int, gtab5⟩ | _ => none, fun t => match t with | 3 => some .int | 5 => some .u8 | 9 => some .str | 47 => some .nod | 103 => some .edt | 108 => some .lck | _ => none, KK⟩
/- spec.newReader -/
def spec_newReader (x1 : List Int) : Option (Nat) :=
 bindO (iteO (decide (2000 < ((x1.length : Nat) : Int)))
 (guardO (0 ≤ (2000 : Int) ∧ (2000 : Int) ≤ ((x1.length : Nat) : Int)) <|
 some 2000)
 (some x1.length)) fun k9 =>
 some k9

theorem spec_newReader_ok (x1 : List Int) (k6 : Nat) (h : spec_newReader x1 = some k6) : FOk EE 22 [sF 0 x1] [uR x1] (pA 1 0) [uR x1, .cells [.sl 0 0 k6, cI 0]] := by
  unfold spec_newReader at h
  refine FOk_of_W 11 1 Tryz.func22 rfl rfl (Nat.le_of_ble_eq_true rfl) rfl (fun w X θ => ?_)
  refine Wsr ((Ws 1 [0] [0] ⟨[(0, sF 0 x1)], [uR x1]⟩ (Wnt ((W_seq (W_seq ?_))))))
  refine W_region (Wp 3 [0] [0, 5] T3 ⟨[(0, sF 0 x1), (5, B (decide (2000 < (lI x1))))], [uR x1]⟩ t3 (Wnt ((bindO_e h (fun k9 hk9 h => (W_cut (Q' := fun (e : Exit) (s : St) => e = .normal ∧ s = ⟨[(0, SL 0 0 k9)], [uR x1]⟩) ?_ ?_))))))
  ·refine iteO_e hk9 (fun hb11 hk9 => W_true rfl hb11 ?_) (fun hb11 hk9 => W_false rfl hb11 ?_)
   ·refine W_region (guardO_e hk9 (fun hg12 hk9 => (Wp 3 [0] [0] ((0 ≤ (2000 : Int) ∧ (2000 : Int) ≤ (lI x1)) ∧ True) ⟨[(0, SL 0 0 2000)], [uR x1]⟩ ⟨hg12, trivial⟩ (WO_nil rfl ?_))))
    cases hk9
    exact aI rfl rfl
   ·refine Ww [0] [0] ⟨[(0, sF 0 x1)], [uR x1]⟩ (W_skip ?_)
    cases hk9
    exact aI rfl rfl
  ·rintro _ _ ⟨rfl, rfl⟩
   refine thenS_n (Wsr ((Wp 4 [0, 1] [2] T2 ⟨[(2, pA 1 0)], [uR x1, .cells [.sl 0 0 k9, cI 0]]⟩ t2 (Wnt ((W_ret ?_))))))
   cases h
   exact ⟨[0, 1], True, by kernel_rfl, trivial⟩

/- spec.reader).pick -/
def spec_reader_pick (x1 : List Int) (k2 : Nat) (i3 : Int) (i4 : Int) : Option (Int) :=
 iteO ((decide (i4 < 1)) || (decide (((k2 : Nat) : Int) = 0)))
 (some 0)
 (iteO (decide ((w64 ((w64 (i3 + 1)) - 1)) < ((k2 : Nat) : Int)))
 (guardO (0 ≤ (w64 ((w64 (i3 + 1)) - 1)) ∧ (w64 ((w64 (i3 + 1)) - 1)) < ((k2 : Nat) : Int)) <|
 guardO ((i4 : Int) ≠ 0) <|
 some ((w64 (x1.getD ((w64 ((w64 (i3 + 1)) - 1)).toNat) 0)).tmod i4))
 (guardO ((((k2 : Nat) : Int) : Int) ≠ 0) <|
 guardO (0 ≤ ((w64 ((w64 (i3 + 1)) - 1)).tmod ((k2 : Nat) : Int)) ∧ ((w64 ((w64 (i3 + 1)) - 1)).tmod ((k2 : Nat) : Int)) < ((k2 : Nat) : Int)) <|
 guardO ((((k2 : Nat) : Int) : Int) ≠ 0) <|
 guardO (0 ≤ ((w64 ((w64 ((w64 ((w64 (i3 + 1)) - 1)) * 7)) + 3)).tmod ((k2 : Nat) : Int)) ∧ ((w64 ((w64 ((w64 ((w64 (i3 + 1)) - 1)) * 7)) + 3)).tmod ((k2 : Nat) : Int)) < ((k2 : Nat) : Int)) <|
 guardO ((((k2 : Nat) : Int) : Int) ≠ 0) <|
 guardO ((i4 : Int) ≠ 0) <|
 some ((w64 (BitVec.ofInt 64 (w64 ((w64 ((w64 ((w64 ((w64 (x1.getD (((w64 ((w64 (i3 + 1)) - 1)).tmod ((k2 : Nat) : Int)).toNat) 0)) * 131)) + (w64 ((w64 (x1.getD (((w64 ((w64 ((w64 ((w64 (i3 + 1)) - 1)) * 7)) + 3)).tmod ((k2 : Nat) : Int)).toNat) 0)) * 1117)))) + (w64 ((w64 ((w64 (i3 + 1)) - 1)) * 29)))) + (w64 ((w64 ((w64 ((w64 (i3 + 1)) - 1)).tdiv ((k2 : Nat) : Int))) * 53)))) ^^^ BitVec.ofInt 64 (w64 ((w64 ((w64 ((w64 ((w64 ((w64 (x1.getD (((w64 ((w64 (i3 + 1)) - 1)).tmod ((k2 : Nat) : Int)).toNat) 0)) * 131)) + (w64 ((w64 (x1.getD (((w64 ((w64 ((w64 ((w64 (i3 + 1)) - 1)) * 7)) + 3)).tmod ((k2 : Nat) : Int)).toNat) 0)) * 1117)))) + (w64 ((w64 ((w64 (i3 + 1)) - 1)) * 29)))) + (w64 ((w64 ((w64 ((w64 (i3 + 1)) - 1)).tdiv ((k2 : Nat) : Int))) * 53)))).tdiv 64))).toNat).tmod i4)))

theorem spec_reader_pick_ok (x1 : List Int) (k2 : Nat) (i3 : Int) (i4 : Int) (i22 : Int) (h : spec_reader_pick x1 k2 i3 i4 = some i22) : FOk EE 25 [pA 0 0, I i4] [.cells [.sl 1 0 k2, cI i3], uR x1] (I i22) [.cells [.sl 1 0 k2, cI (w64 (i3 + 1))], uR x1] := by
  unfold spec_reader_pick at h
  refine FOk_of_W 99 2 Tryz.func25 rfl rfl (Nat.le_of_ble_eq_true rfl) rfl (fun w X θ => ?_)
  refine Wsr ((Ws 1 [0, 1] [0, 1] ⟨[(0, pA 0 0), (1, I i4)], [.cells [.sl 1 0 k2, cI i3], uR x1]⟩ (Wnt ((W_seq (W_region ?_))))))
  refine Wp 9 [0, 1] [0, 1] T4 ⟨[(0, pA 0 0), (1, I i4)], [.cells [.sl 1 0 k2, cI (w64 (i3 + 1))], uR x1]⟩ t4 (Wnt ((W_seq (Wsr ((Wp 3 [0, 1] [0, 1, 17] T2 ⟨[(0, pA 0 0), (1, I i4), (17, B (decide (i4 < 1)))], [.cells [.sl 1 0 k2, cI (w64 (i3 + 1))], uR x1]⟩ t2 ?_))))))
  refine WO_thru ⟨[(0, pA 0 0), (1, I i4), (24, B ((decide (i4 < 1)) || (decide (((k2 : Nat) : Int) = 0))))], [.cells [.sl 1 0 k2, cI (w64 (i3 + 1))], uR x1]⟩ ?_ ?_
  ·refine WO_if 17 rfl (fun hb25 => ?_) (fun hb25 => ?_)
   ·refine Ws 7 [0, 1] [0, 1, 24] ⟨[(0, pA 0 0), (1, I i4), (24, B true)], [.cells [.sl 1 0 k2, cI (w64 (i3 + 1))], uR x1]⟩ ?_
    exact WO_nil rfl ⟨rfl, by first | rfl | (rw [hb25]; first | done | rfl)⟩
   ·refine Wp 7 [0, 1] [0, 1, 24] T4 ⟨[(0, pA 0 0), (1, I i4), (24, B (decide (((k2 : Nat) : Int) = 0)))], [.cells [.sl 1 0 k2, cI (w64 (i3 + 1))], uR x1]⟩ t4 ?_
    exact WO_nil rfl ⟨rfl, by first | rfl | (rw [hb25]; first | done | rfl)⟩
  ·refine thenS_n (iteO_e h (fun hb27 h => W_true rfl hb27 ?_) (fun hb27 h => W_false rfl hb27 ?_))
   ·refine Wsr ((Ws 1 [0, 1] [4] ⟨[(4, I 0)], [.cells [.sl 1 0 k2, cI (w64 (i3 + 1))], uR x1]⟩ (Wnt ((W_ret (thenS_r ?_))))))
    cases h
    exact ⟨[0, 1], True, by kernel_rfl, trivial⟩
   ·refine Ww [0, 1] [0, 1] ⟨[(0, pA 0 0), (1, I i4)], [.cells [.sl 1 0 k2, cI (w64 (i3 + 1))], uR x1]⟩ (W_skip (thenS_n (Wsr ((Wp 6 [0, 1] [0, 1, 5] T3 ⟨[(0, pA 0 0), (1, I i4), (5, I (w64 ((w64 (i3 + 1)) - 1)))], [.cells [.sl 1 0 k2, cI (w64 (i3 + 1))], uR x1]⟩ t3 (Wnt ((W_seq (Wsr ((Wp 7 [0, 1] [0, 1, 5, 36] T4 ⟨[(0, pA 0 0), (1, I i4), (5, I (w64 ((w64 (i3 + 1)) - 1))), (36, B (decide ((w64 ((w64 (i3 + 1)) - 1)) < ((k2 : Nat) : Int))))], [.cells [.sl 1 0 k2, cI (w64 (i3 + 1))], uR x1]⟩ t4 (Wnt ((iteO_e h (fun hb31 h => W_true rfl hb31 ?_) (fun hb31 h => W_false rfl hb31 ?_)))))))))))))))
    ·refine Wsr ((guardO_e h (fun hg32 h => (guardO_e h (fun hg33 h => (Wp 11 [0, 1] [4] (True ∧ ((0 ≤ (w64 ((w64 (i3 + 1)) - 1)) ∧ (w64 ((w64 (i3 + 1)) - 1)) < ((k2 : Nat) : Int)) ∧ (True ∧ (True ∧ (((i4 : Int) ≠ 0) ∧ True))))) ⟨[(4, I ((w64 (x1.getD ((w64 ((w64 (i3 + 1)) - 1)).toNat) 0)).tmod i4))], [.cells [.sl 1 0 k2, cI (w64 (i3 + 1))], uR x1]⟩ ⟨trivial, hg32, trivial, trivial, hg33, trivial⟩ (Wnt ((W_ret (thenS_r ?_))))))))))
     cases h
     exact ⟨[0, 1], True, by kernel_rfl, trivial⟩
    ·refine Ww [0, 1] [0, 1, 5] ⟨[(0, pA 0 0), (1, I i4), (5, I (w64 ((w64 (i3 + 1)) - 1)))], [.cells [.sl 1 0 k2, cI (w64 (i3 + 1))], uR x1]⟩ (W_skip (thenS_n (W_seq (guardO_e h (fun hg34 h => (guardO_e h (fun hg35 h => (guardO_e h (fun hg36 h => (guardO_e h (fun hg37 h => (guardO_e h (fun hg38 h => (W_cut (Q' := fun (e : Exit) (s : St) => e = .normal ∧ s = ⟨[(1, I i4), (6, I (w64 ((w64 ((w64 ((w64 ((w64 (x1.getD (((w64 ((w64 (i3 + 1)) - 1)).tmod ((k2 : Nat) : Int)).toNat) 0)) * 131)) + (w64 ((w64 (x1.getD (((w64 ((w64 ((w64 ((w64 (i3 + 1)) - 1)) * 7)) + 3)).tmod ((k2 : Nat) : Int)).toNat) 0)) * 1117)))) + (w64 ((w64 ((w64 (i3 + 1)) - 1)) * 29)))) + (w64 ((w64 ((w64 ((w64 (i3 + 1)) - 1)).tdiv ((k2 : Nat) : Int))) * 53)))))], [.cells [.sl 1 0 k2, cI (w64 (i3 + 1))], uR x1]⟩) ?_ ?_))))))))))))))
     ·refine W_draw [] true (by kernel_rfl) (by kernel_rfl) (WD_takeQ [0, 1, 2, 3, 4, 5, 6, 7, 8, 9, 10, 11, 12, 13, 14, 15, 16, 17, 18, 19, 20, 21, 22, 23, 24, 25, 26, 27, 28, 29, 30, 31, 32, 33, 34, 35, 36, 37, 38, 39, 40, 41, 42, 43, 44, 45] [1, 6] [1, 6] (φ := (True ∧ True ∧ (True ∧ True ∧ (True ∧ True ∧ (((((k2 : Nat) : Int) : Int) ≠ 0) ∧ ((((k2 : Nat) : Int) : Int) ≠ 0) ∧ ((0 ≤ ((w64 ((w64 (i3 + 1)) - 1)).tmod ((k2 : Nat) : Int)) ∧ ((w64 ((w64 (i3 + 1)) - 1)).tmod ((k2 : Nat) : Int)) < ((k2 : Nat) : Int)) ∧ (0 ≤ ((w64 ((w64 (i3 + 1)) - 1)).tmod ((k2 : Nat) : Int)) ∧ ((w64 ((w64 (i3 + 1)) - 1)).tmod ((k2 : Nat) : Int)) < ((k2 : Nat) : Int)) ∧ (True ∧ True ∧ (True ∧ True ∧ (True ∧ True ∧ (True ∧ True ∧ (True ∧ True ∧ (True ∧ True ∧ (True ∧ True ∧ (True ∧ True ∧ (((((k2 : Nat) : Int) : Int) ≠ 0) ∧ ((((k2 : Nat) : Int) : Int) ≠ 0) ∧ ((0 ≤ ((w64 ((w64 ((w64 ((w64 (i3 + 1)) - 1)) * 7)) + 3)).tmod ((k2 : Nat) : Int)) ∧ ((w64 ((w64 ((w64 ((w64 (i3 + 1)) - 1)) * 7)) + 3)).tmod ((k2 : Nat) : Int)) < ((k2 : Nat) : Int)) ∧ (0 ≤ ((w64 ((w64 ((w64 ((w64 (i3 + 1)) - 1)) * 7)) + 3)).tmod ((k2 : Nat) : Int)) ∧ ((w64 ((w64 ((w64 ((w64 (i3 + 1)) - 1)) * 7)) + 3)).tmod ((k2 : Nat) : Int)) < ((k2 : Nat) : Int)) ∧ (True ∧ True ∧ (True ∧ True ∧ (True ∧ True ∧ (True ∧ True ∧ (True ∧ True ∧ (True ∧ True ∧ (True ∧ True ∧ (True ∧ True ∧ (((((k2 : Nat) : Int) : Int) ≠ 0) ∧ ((((k2 : Nat) : Int) : Int) ≠ 0) ∧ (True ∧ True ∧ (True ∧ True ∧ True))))))))))))))))))))))))))) (ls' := (tf true [46])) (st' := ⟨[(1, I i4), (6, I (w64 ((w64 ((w64 ((w64 ((w64 (x1.getD (((w64 ((w64 (i3 + 1)) - 1)).tmod ((k2 : Nat) : Int)).toNat) 0)) * 131)) + (w64 ((w64 (x1.getD (((w64 ((w64 ((w64 ((w64 (i3 + 1)) - 1)) * 7)) + 3)).tmod ((k2 : Nat) : Int)).toNat) 0)) * 1117)))) + (w64 ((w64 ((w64 (i3 + 1)) - 1)) * 29)))) + (w64 ((w64 ((w64 ((w64 (i3 + 1)) - 1)).tdiv ((k2 : Nat) : Int))) * 53)))))], [.cells [.sl 1 0 k2, cI (w64 (i3 + 1))], uR x1]⟩) (n2 := 0) (by kernel_rfl) ⟨trivial, trivial, trivial, trivial, trivial, trivial, hg34, hg34, hg35, hg35, trivial, trivial, trivial, trivial, trivial, trivial, trivial, trivial, trivial, trivial, trivial, trivial, trivial, trivial, trivial, trivial, hg36, hg36, hg37, hg37, trivial, trivial, trivial, trivial, trivial, trivial, trivial, trivial, trivial, trivial, trivial, trivial, trivial, trivial, trivial, trivial, hg38, hg38, trivial, trivial, trivial, trivial, trivial⟩ rfl ?_)
      exact WD_done [0, 1] [1, 6] (st' := ⟨[(1, I i4), (6, I (w64 ((w64 ((w64 ((w64 ((w64 (x1.getD (((w64 ((w64 (i3 + 1)) - 1)).tmod ((k2 : Nat) : Int)).toNat) 0)) * 131)) + (w64 ((w64 (x1.getD (((w64 ((w64 ((w64 ((w64 (i3 + 1)) - 1)) * 7)) + 3)).tmod ((k2 : Nat) : Int)).toNat) 0)) * 1117)))) + (w64 ((w64 ((w64 (i3 + 1)) - 1)) * 29)))) + (w64 ((w64 ((w64 ((w64 (i3 + 1)) - 1)).tdiv ((k2 : Nat) : Int))) * 53)))))], [.cells [.sl 1 0 k2, cI (w64 (i3 + 1))], uR x1]⟩) (by kernel_rfl) (by kernel_rfl) (aI rfl rfl)
     ·rintro _ _ ⟨rfl, rfl⟩
      refine thenS_n (Wsr ((Wp 5 [0, 1] [1, 6] (((64 : Int) ≠ 0) ∧ T2) ⟨[(1, I i4), (6, I (w64 (BitVec.ofInt 64 (w64 ((w64 ((w64 ((w64 ((w64 (x1.getD (((w64 ((w64 (i3 + 1)) - 1)).tmod ((k2 : Nat) : Int)).toNat) 0)) * 131)) + (w64 ((w64 (x1.getD (((w64 ((w64 ((w64 ((w64 (i3 + 1)) - 1)) * 7)) + 3)).tmod ((k2 : Nat) : Int)).toNat) 0)) * 1117)))) + (w64 ((w64 ((w64 (i3 + 1)) - 1)) * 29)))) + (w64 ((w64 ((w64 ((w64 (i3 + 1)) - 1)).tdiv ((k2 : Nat) : Int))) * 53)))) ^^^ BitVec.ofInt 64 (w64 ((w64 ((w64 ((w64 ((w64 ((w64 (x1.getD (((w64 ((w64 (i3 + 1)) - 1)).tmod ((k2 : Nat) : Int)).toNat) 0)) * 131)) + (w64 ((w64 (x1.getD (((w64 ((w64 ((w64 ((w64 (i3 + 1)) - 1)) * 7)) + 3)).tmod ((k2 : Nat) : Int)).toNat) 0)) * 1117)))) + (w64 ((w64 ((w64 (i3 + 1)) - 1)) * 29)))) + (w64 ((w64 ((w64 ((w64 (i3 + 1)) - 1)).tdiv ((k2 : Nat) : Int))) * 53)))).tdiv 64))).toNat))], [.cells [.sl 1 0 k2, cI (w64 (i3 + 1))], uR x1]⟩ ⟨(by decide), trivial, trivial⟩ (Wnt ((Wsr ((guardO_e h (fun hg39 h => (Wp 4 [0, 1] [4] (((i4 : Int) ≠ 0) ∧ True) ⟨[(4, I ((w64 (BitVec.ofInt 64 (w64 ((w64 ((w64 ((w64 ((w64 (x1.getD (((w64 ((w64 (i3 + 1)) - 1)).tmod ((k2 : Nat) : Int)).toNat) 0)) * 131)) + (w64 ((w64 (x1.getD (((w64 ((w64 ((w64 ((w64 (i3 + 1)) - 1)) * 7)) + 3)).tmod ((k2 : Nat) : Int)).toNat) 0)) * 1117)))) + (w64 ((w64 ((w64 (i3 + 1)) - 1)) * 29)))) + (w64 ((w64 ((w64 ((w64 (i3 + 1)) - 1)).tdiv ((k2 : Nat) : Int))) * 53)))) ^^^ BitVec.ofInt 64 (w64 ((w64 ((w64 ((w64 ((w64 ((w64 (x1.getD (((w64 ((w64 (i3 + 1)) - 1)).tmod ((k2 : Nat) : Int)).toNat) 0)) * 131)) + (w64 ((w64 (x1.getD (((w64 ((w64 ((w64 ((w64 (i3 + 1)) - 1)) * 7)) + 3)).tmod ((k2 : Nat) : Int)).toNat) 0)) * 1117)))) + (w64 ((w64 ((w64 (i3 + 1)) - 1)) * 29)))) + (w64 ((w64 ((w64 ((w64 (i3 + 1)) - 1)).tdiv ((k2 : Nat) : Int))) * 53)))).tdiv 64))).toNat).tmod i4))], [.cells [.sl 1 0 k2, cI (w64 (i3 + 1))], uR x1]⟩ ⟨hg39, trivial⟩ (Wnt ((W_ret ?_)))))))))))))
      cases h
      exact ⟨[0, 1], True, by kernel_rfl, trivial⟩

/- spec.reader).one -/
def spec_reader_one (x1 : List Int) (k2 : Nat) (i3 : Int) (x4 : List Int) : Option (Int × Int) :=
 bindO (spec_reader_pick x1 k2 i3 ((x4.length : Nat) : Int)) fun i10 =>
 guardO (0 ≤ i10 ∧ i10 < ((x4.length : Nat) : Int)) <|
 some ((w64 (i3 + 1)), (x4.getD i10.toNat 0))

theorem spec_reader_one_ok (x1 : List Int) (k2 : Nat) (i3 : Int) (x4 : List Int) (i8 : Int) (i9 : Int) (h : spec_reader_one x1 k2 i3 x4 = some (i8, i9)) : FOk EE 23 [pA 0 0, sF 2 x4] [.cells [.sl 1 0 k2, cI i3], uR x1, iR x4] (I i9) [.cells [.sl 1 0 k2, cI i8], uR x1, iR x4] := by
  unfold spec_reader_one at h
  refine FOk_of_W 12 3 Tryz.func23 rfl rfl (Nat.le_of_ble_eq_true rfl) rfl (fun w X θ => ?_)
  refine Wsr ((Ws 1 [0, 1, 2] [0, 1] ⟨[(0, pA 0 0), (1, sF 2 x4)], [.cells [.sl 1 0 k2, cI i3], uR x1, iR x4]⟩ (Wnt ((W_seq (W_region ?_))))))
  refine Wp 4 [0, 1, 2] [5, 6, 8] T2 ⟨[(5, sF 2 x4), (6, pA 0 0), (8, I (lI x4))], [.cells [.sl 1 0 k2, cI i3], uR x1, iR x4]⟩ t2 (bindO_e h (fun i10 hc11 h => (Wc [.own 0, .ro 1] rfl rfl rfl Tryz.func25 rfl (spec_reader_pick_ok x1 k2 i3 (lI x4) i10 hc11) (aI (trivial) (aI (aI rfl rfl) (trivial))) rfl (guardO_e h (fun hg12 h => (Wp 3 [0, 1, 2] [4] ((0 ≤ i10 ∧ i10 < (lI x4)) ∧ T2) ⟨[(4, I (x4.getD i10.toNat 0))], [.cells [.sl 1 0 k2, cI (w64 (i3 + 1))], uR x1, iR x4]⟩ ⟨hg12, trivial, trivial⟩ (Wnt (?_))))))))
  refine W_ret ?_
  cases h
  exact ⟨[0, 1, 2], True, by kernel_rfl, trivial⟩

/- spec.decimal -/
def spec_decimal_B (rec : Int → Option (Str)) (i1 : Int) : Option (Str) :=
 iteO ((decide (i1 < 0)) && (decide (i1 = (w64 (0 - i1)))))
 (some [45, 57, 50, 50, 51, 51, 55, 50, 48, 51, 54, 56, 53, 52, 55, 55, 53, 56, 48, 56])
 (iteO (decide (i1 < 0))
 (bindO (rec (w64 (0 - i1))) fun s32 =>
 guardO ([45].length + s32.length ≤ 1099511627776) <|
 some ([45] ++ s32))
 (iteO (decide (i1 < 10))
 (some (bytesOf (([(IntKind.u8.wrap (w64 (48 + i1)))].drop 0).take ([(IntKind.u8.wrap (w64 (48 + i1)))].length))))
 (bindO (rec (w64 (i1.tdiv 10))) fun s37 =>
 guardO (s37.length + (bytesOf (([(IntKind.u8.wrap (w64 (48 + (i1.tmod 10))))].drop 0).take ([(IntKind.u8.wrap (w64 (48 + (i1.tmod 10))))].length))).length ≤ 1099511627776) <|
 some (s37 ++ (bytesOf (([(IntKind.u8.wrap (w64 (48 + (i1.tmod 10))))].drop 0).take ([(IntKind.u8.wrap (w64 (48 + (i1.tmod 10))))].length)))))))

theorem spec_decimal_B_ok (rec : Int → Option (Str)) (hrec : ∀ (i1 : Int) (s2 : Str), rec i1 = some s2 → FOk EE 24 [I i1] [] (S s2) []) (i1 : Int) (s21 : Str) (h : spec_decimal_B rec i1 = some s21) : FOk EE 24 [I i1] [] (S s21) [] := by
  unfold spec_decimal_B at h
  refine FOk_of_W 34 0 Tryz.func24 rfl rfl (Nat.le_of_ble_eq_true rfl) rfl (fun w X θ => ?_)
  refine Wsr ((Ws 1 [] [0] ⟨[(0, I i1)], []⟩ (Wnt ((W_seq (W_seq ?_))))))
  refine W_region (Wp 3 [] [0, 5] T2 ⟨[(0, I i1), (5, B (decide (i1 < 0)))], []⟩ t2 (WO_thru ⟨[(0, I i1), (10, B ((decide (i1 < 0)) && (decide (i1 = (w64 (0 - i1))))))], []⟩ ?_ ?_))
  ·refine WO_if 5 rfl (fun hb24 => ?_) (fun hb24 => ?_)
   ·refine Wp 5 [] [0, 10] T2 ⟨[(0, I i1), (10, B (decide (i1 = (w64 (0 - i1)))))], []⟩ t2 ?_
    exact WO_nil rfl ⟨rfl, by first | rfl | (rw [hb24]; first | done | rfl)⟩
   ·refine Ws 5 [] [0, 10] ⟨[(0, I i1), (10, B false)], []⟩ ?_
    exact WO_nil rfl ⟨rfl, by first | rfl | (rw [hb24]; first | done | rfl)⟩
  ·refine thenS_n (iteO_e h (fun hb26 h => W_true rfl hb26 ?_) (fun hb26 h => W_false rfl hb26 ?_))
   ·refine Wsr ((Ws 1 [] [2] ⟨[(2, S [45, 57, 50, 50, 51, 51, 55, 50, 48, 51, 54, 56, 53, 52, 55, 55, 53, 56, 48, 56])], []⟩ (Wnt ((W_ret (thenS_r ?_))))))
    cases h
    exact ⟨[], True, by kernel_rfl, trivial⟩
   ·refine Ww [] [0] ⟨[(0, I i1)], []⟩ (W_skip (thenS_n (W_seq (Wsr ((Wp 2 [] [0, 12] T2 ⟨[(0, I i1), (12, B (decide (i1 < 0)))], []⟩ t2 (Wnt ((iteO_e h (fun hb31 h => W_true rfl hb31 ?_) (fun hb31 h => W_false rfl hb31 ?_))))))))))
    ·refine Wsr ((Ws 2 [] [14] ⟨[(14, I (w64 (0 - i1)))], []⟩ (bindO_e h (fun s32 hc33 h => (Wc [] rfl rfl rfl Tryz.func24 rfl (hrec (w64 (0 - i1)) s32 hc33) (trivial) rfl (guardO_e h (fun hg34 h => (Wp 2 [] [2] (([45].length + s32.length ≤ 1099511627776) ∧ True) ⟨[(2, S ([45] ++ s32))], []⟩ ⟨hg34, trivial⟩ (Wnt ((W_ret (thenS_r ?_))))))))))))
     cases h
     exact ⟨[], True, by kernel_rfl, trivial⟩
    ·refine Ww [] [0] ⟨[(0, I i1)], []⟩ (W_skip (thenS_n (W_seq (Wsr ((Wp 2 [] [0, 18] T2 ⟨[(0, I i1), (18, B (decide (i1 < 10)))], []⟩ t2 (Wnt ((iteO_e h (fun hb36 h => W_true rfl hb36 ?_) (fun hb36 h => W_false rfl hb36 ?_))))))))))
     ·refine Wsr ((Wp 6 [] [2] T4 ⟨[(2, S (bytesOf (([(IntKind.u8.wrap (w64 (48 + i1)))].drop 0).take ([(IntKind.u8.wrap (w64 (48 + i1)))].length))))], []⟩ t4 (Wnt ((W_ret (thenS_r ?_))))))
      cases h
      exact ⟨[], True, by kernel_rfl, trivial⟩
     ·refine Ww [] [0] ⟨[(0, I i1)], []⟩ (W_skip (thenS_n (W_seq (bindO_e h (fun s37 hc38 h => (guardO_e h (fun hg39 h => (W_cut (Q' := fun (e : Exit) (s : St) => e = .normal ∧ s = ⟨[(2, S (s37 ++ (bytesOf (([(IntKind.u8.wrap (w64 (48 + (i1.tmod 10))))].drop 0).take ([(IntKind.u8.wrap (w64 (48 + (i1.tmod 10))))].length)))))], []⟩) ?_ ?_))))))))
      ·refine W_draw [] false (by kernel_rfl) (by kernel_rfl) (WD_takeQ [0, 1, 3, 4, 5, 6] [25, 30] [25, 30] (φ := (((10 : Int) ≠ 0) ∧ ((10 : Int) ≠ 0) ∧ (((10 : Int) ≠ 0) ∧ ((10 : Int) ≠ 0) ∧ (True ∧ True ∧ (True ∧ True ∧ True))))) (ls' := (tf true [2, 1, 4, 4])) (st' := ⟨[(25, I (w64 (i1.tdiv 10))), (30, U (IntKind.u8.wrap (w64 (48 + (i1.tmod 10)))))], []⟩) (n2 := 5) (by kernel_rfl) ⟨(by decide), (by decide), (by decide), (by decide), trivial, trivial, trivial, trivial, trivial⟩ rfl (WD_all [2, 7] (n := 4) (by kernel_rfl) rfl (aI ?_ (?_))))
       ·refine WM_call [] Tryz.f24 rfl rfl (by kernel_rfl) Tryz.func24 rfl (by kernel_rfl) (hrec (w64 (i1.tdiv 10)) s37 hc38) (trivial) rfl (trivial) (WD_all [7] (n := 3) (by kernel_rfl) rfl (WM_op (φ := True) (v := .one (.e (.sl 0 0 ([(IntKind.u8.wrap (w64 (48 + (i1.tmod 10))))].length)))) (H' := [.row .u8 [(IntKind.u8.wrap (w64 (48 + (i1.tmod 10))))] true]) rfl rfl (by kernel_rfl) trivial rfl (trivial) (WD_all [8] (n := 2) (by kernel_rfl) rfl (WM_op (φ := True) (v := S (bytesOf (([(IntKind.u8.wrap (w64 (48 + (i1.tmod 10))))].drop 0).take ([(IntKind.u8.wrap (w64 (48 + (i1.tmod 10))))].length)))) (H' := [.row .u8 [(IntKind.u8.wrap (w64 (48 + (i1.tmod 10))))] true]) rfl rfl (by kernel_rfl) trivial rfl (trivial) (WD_takeQ [9, 10] [2] [2] (φ := ((s37.length + (bytesOf (([(IntKind.u8.wrap (w64 (48 + (i1.tmod 10))))].drop 0).take ([(IntKind.u8.wrap (w64 (48 + (i1.tmod 10))))].length))).length ≤ 1099511627776) ∧ (s37.length + (bytesOf (([(IntKind.u8.wrap (w64 (48 + (i1.tmod 10))))].drop 0).take ([(IntKind.u8.wrap (w64 (48 + (i1.tmod 10))))].length))).length ≤ 1099511627776) ∧ True)) (ls' := (tf true [11])) (st' := ⟨[(2, S (s37 ++ (bytesOf (([(IntKind.u8.wrap (w64 (48 + (i1.tmod 10))))].drop 0).take ([(IntKind.u8.wrap (w64 (48 + (i1.tmod 10))))].length)))))], [.row .u8 [(IntKind.u8.wrap (w64 (48 + (i1.tmod 10))))] true]⟩) (n2 := 0) (by kernel_rfl) ⟨hg39, hg39, trivial⟩ rfl ?_)))))
        exact WD_done [] [2] (st' := ⟨[(2, S (s37 ++ (bytesOf (([(IntKind.u8.wrap (w64 (48 + (i1.tmod 10))))].drop 0).take ([(IntKind.u8.wrap (w64 (48 + (i1.tmod 10))))].length)))))], []⟩) (by kernel_rfl) (by kernel_rfl) (aI rfl rfl)
       ·refine WM_op (φ := True) (v := .one (.e (.sl 0 0 ([(IntKind.u8.wrap (w64 (48 + (i1.tmod 10))))].length)))) (H' := [.row .u8 [(IntKind.u8.wrap (w64 (48 + (i1.tmod 10))))] true]) rfl rfl (by kernel_rfl) trivial rfl (trivial) (WD_all [2, 8] (n := 3) (by kernel_rfl) rfl (aI ?_ (?_)))
        ·refine WM_call [] Tryz.f24 rfl rfl (by kernel_rfl) Tryz.func24 rfl (by kernel_rfl) (hrec (w64 (i1.tdiv 10)) s37 hc38) (trivial) rfl (trivial) (WD_all [8] (n := 2) (by kernel_rfl) rfl (WM_op (φ := True) (v := S (bytesOf (([(IntKind.u8.wrap (w64 (48 + (i1.tmod 10))))].drop 0).take ([(IntKind.u8.wrap (w64 (48 + (i1.tmod 10))))].length)))) (H' := [.row .u8 [(IntKind.u8.wrap (w64 (48 + (i1.tmod 10))))] true]) rfl rfl (by kernel_rfl) trivial rfl (trivial) (WD_takeQ [9, 10] [2] [2] (φ := ((s37.length + (bytesOf (([(IntKind.u8.wrap (w64 (48 + (i1.tmod 10))))].drop 0).take ([(IntKind.u8.wrap (w64 (48 + (i1.tmod 10))))].length))).length ≤ 1099511627776) ∧ (s37.length + (bytesOf (([(IntKind.u8.wrap (w64 (48 + (i1.tmod 10))))].drop 0).take ([(IntKind.u8.wrap (w64 (48 + (i1.tmod 10))))].length))).length ≤ 1099511627776) ∧ True)) (ls' := (tf true [11])) (st' := ⟨[(2, S (s37 ++ (bytesOf (([(IntKind.u8.wrap (w64 (48 + (i1.tmod 10))))].drop 0).take ([(IntKind.u8.wrap (w64 (48 + (i1.tmod 10))))].length)))))], [.row .u8 [(IntKind.u8.wrap (w64 (48 + (i1.tmod 10))))] true]⟩) (n2 := 0) (by kernel_rfl) ⟨hg39, hg39, trivial⟩ rfl ?_)))
         exact WD_done [] [2] (st' := ⟨[(2, S (s37 ++ (bytesOf (([(IntKind.u8.wrap (w64 (48 + (i1.tmod 10))))].drop 0).take ([(IntKind.u8.wrap (w64 (48 + (i1.tmod 10))))].length)))))], []⟩) (by kernel_rfl) (by kernel_rfl) (aI rfl rfl)
        ·refine WM_op (φ := True) (v := S (bytesOf (([(IntKind.u8.wrap (w64 (48 + (i1.tmod 10))))].drop 0).take ([(IntKind.u8.wrap (w64 (48 + (i1.tmod 10))))].length)))) (H' := [.row .u8 [(IntKind.u8.wrap (w64 (48 + (i1.tmod 10))))] true]) rfl rfl (by kernel_rfl) trivial rfl (trivial) (WD_all [2] (n := 2) (by kernel_rfl) rfl (WM_call [] Tryz.f24 rfl rfl (by kernel_rfl) Tryz.func24 rfl (by kernel_rfl) (hrec (w64 (i1.tdiv 10)) s37 hc38) (trivial) rfl (trivial) (WD_takeQ [9, 10] [2] [2] (φ := ((s37.length + (bytesOf (([(IntKind.u8.wrap (w64 (48 + (i1.tmod 10))))].drop 0).take ([(IntKind.u8.wrap (w64 (48 + (i1.tmod 10))))].length))).length ≤ 1099511627776) ∧ (s37.length + (bytesOf (([(IntKind.u8.wrap (w64 (48 + (i1.tmod 10))))].drop 0).take ([(IntKind.u8.wrap (w64 (48 + (i1.tmod 10))))].length))).length ≤ 1099511627776) ∧ True)) (ls' := (tf true [11])) (st' := ⟨[(2, S (s37 ++ (bytesOf (([(IntKind.u8.wrap (w64 (48 + (i1.tmod 10))))].drop 0).take ([(IntKind.u8.wrap (w64 (48 + (i1.tmod 10))))].length)))))], [.row .u8 [(IntKind.u8.wrap (w64 (48 + (i1.tmod 10))))] true]⟩) (n2 := 0) (by kernel_rfl) ⟨hg39, hg39, trivial⟩ rfl ?_)))
         exact WD_done [] [2] (st' := ⟨[(2, S (s37 ++ (bytesOf (([(IntKind.u8.wrap (w64 (48 + (i1.tmod 10))))].drop 0).take ([(IntKind.u8.wrap (w64 (48 + (i1.tmod 10))))].length)))))], []⟩) (by kernel_rfl) (by kernel_rfl) (aI rfl rfl)
      ·rintro _ _ ⟨rfl, rfl⟩
       refine thenS_n (W_ret ?_)
       cases h
       exact ⟨[], True, by kernel_rfl, trivial⟩

def spec_decimal : Nat → Int → Option (Str)
| 0, _ => none
| n + 1, i1 => spec_decimal_B (spec_decimal n) i1

theorem spec_decimal_ok : ∀ (n : Nat) (i1 : Int) (s21 : Str), spec_decimal n i1 = some s21 → FOk EE 24 [I i1] [] (S s21) [] := by
  intro n
  induction n with
  | zero => intro _ _ h; exact none_e h
  | succ n ih => intro i1 s21 h; exact spec_decimal_B_ok (spec_decimal n) ih i1 s21 h

/- spec.reader).of -/
def spec_reader_of (x1 : List Int) (k2 : Nat) (i3 : Int) (x4 : List Str) : Option (Int × Str) :=
 bindO (spec_reader_pick x1 k2 i3 ((x4.length : Nat) : Int)) fun i10 =>
 guardO (0 ≤ i10 ∧ i10 < ((x4.length : Nat) : Int)) <|
 some ((w64 (i3 + 1)), (x4.getD i10.toNat []))

theorem spec_reader_of_ok (x1 : List Int) (k2 : Nat) (i3 : Int) (x4 : List Str) (i8 : Int) (s9 : Str) (h : spec_reader_of x1 k2 i3 x4 = some (i8, s9)) : FOk EE 26 [pA 0 0, sF 2 x4] [.cells [.sl 1 0 k2, cI i3], uR x1, sR x4] (S s9) [.cells [.sl 1 0 k2, cI i8], uR x1, sR x4] := by
  unfold spec_reader_of at h
  refine FOk_of_W 12 3 Tryz.func26 rfl rfl (Nat.le_of_ble_eq_true rfl) rfl (fun w X θ => ?_)
  refine Wsr ((Ws 1 [0, 1, 2] [0, 1] ⟨[(0, pA 0 0), (1, sF 2 x4)], [.cells [.sl 1 0 k2, cI i3], uR x1, sR x4]⟩ (Wnt ((W_seq (W_region ?_))))))
  refine Wp 4 [0, 1, 2] [5, 6, 8] T2 ⟨[(5, sF 2 x4), (6, pA 0 0), (8, I (lI x4))], [.cells [.sl 1 0 k2, cI i3], uR x1, sR x4]⟩ t2 (bindO_e h (fun i10 hc11 h => (Wc [.own 0, .ro 1] rfl rfl rfl Tryz.func25 rfl (spec_reader_pick_ok x1 k2 i3 (lI x4) i10 hc11) (aI (trivial) (aI (aI rfl rfl) (trivial))) rfl (guardO_e h (fun hg12 h => (Wp 3 [0, 1, 2] [4] ((0 ≤ i10 ∧ i10 < (lI x4)) ∧ T2) ⟨[(4, S (x4.getD i10.toNat []))], [.cells [.sl 1 0 k2, cI (w64 (i3 + 1))], uR x1, sR x4]⟩ ⟨hg12, trivial, trivial⟩ (Wnt (?_))))))))
  refine W_ret ?_
  cases h
  exact ⟨[0, 1, 2], True, by kernel_rfl, trivial⟩

/- spec.someValue -/
def spec_someValue (x1 : List Int) (k2 : Nat) (i3 : Int) : Option (Int × Int) :=
 bindO (spec_reader_pick x1 k2 i3 40) fun i14 =>
 bindO (spec_reader_pick x1 k2 (w64 (i3 + 1)) 250) fun i16 =>
 bindO (spec_reader_one x1 k2 (w64 ((w64 (i3 + 1)) + 1)) [0, 1, (-1), 5, 10, 100, 1000, (-1000), i14, (w64 ((w64 (4 * i16)) - 500))]) fun (i18, i19) =>
 some (i18, i19)

theorem spec_someValue_ok (x1 : List Int) (k2 : Nat) (i3 : Int) (i12 : Int) (i13 : Int) (h : spec_someValue x1 k2 i3 = some (i12, i13)) : FOk EE 27 [pA 0 0] [.cells [.sl 1 0 k2, cI i3], uR x1] (I i13) [.cells [.sl 1 0 k2, cI i12], uR x1] := by
  unfold spec_someValue at h
  refine FOk_of_W 12 2 Tryz.func27 rfl rfl (Nat.le_of_ble_eq_true rfl) rfl (fun w X θ => ?_)
  refine Wsr ((Ws 1 [0, 1] [0] ⟨[(0, pA 0 0)], [.cells [.sl 1 0 k2, cI i3], uR x1]⟩ (Wnt ((W_seq (W_region ?_))))))
  refine Ws 2 [0, 1] [0, 3, 4] ⟨[(0, pA 0 0), (3, pA 0 0), (4, pA 0 0)], [.cells [.sl 1 0 k2, cI i3], uR x1]⟩ (bindO_e h (fun i14 hc15 h => (Wc [.own 0, .ro 1] rfl rfl rfl Tryz.func25 rfl (spec_reader_pick_ok x1 k2 i3 40 i14 hc15) (aI (trivial) (aI (aI rfl rfl) (trivial))) rfl (Ws 1 [0, 1] [3, 5, 6] ⟨[(3, pA 0 0), (5, I i14), (6, pA 0 0)], [.cells [.sl 1 0 k2, cI (w64 (i3 + 1))], uR x1]⟩ (bindO_e h (fun i16 hc17 h => (Wc [.own 0, .ro 1] rfl rfl rfl Tryz.func25 rfl (spec_reader_pick_ok x1 k2 (w64 (i3 + 1)) 250 i16 hc17) (aI (trivial) (aI (aI rfl rfl) (trivial))) rfl (Wp 3 [0, 1, 2] [3, 10] T3 ⟨[(3, pA 0 0), (10, .one (.e (.sl 2 0 ([0, 1, (-1), 5, 10, 100, 1000, (-1000), i14, (w64 ((w64 (4 * i16)) - 500))].length))))], [.cells [.sl 1 0 k2, cI (w64 ((w64 (i3 + 1)) + 1))], uR x1, .row .int [0, 1, (-1), 5, 10, 100, 1000, (-1000), i14, (w64 ((w64 (4 * i16)) - 500))] true]⟩ t3 ?_))))))))
  refine bindO_e h (fun v21 hc20 h => ?_)
  obtain ⟨i18, i19⟩ := v21
  refine Wc [.own 0, .ro 1, .ro 2] rfl rfl rfl Tryz.func23 rfl (spec_reader_one_ok x1 k2 (w64 ((w64 (i3 + 1)) + 1)) [0, 1, (-1), 5, 10, 100, 1000, (-1000), i14, (w64 ((w64 (4 * i16)) - 500))] i18 i19 hc20) (aI (trivial) (aI (aI rfl rfl) (aI (aI rfl rfl) (trivial)))) rfl (Ws 1 [0, 1] [2] ⟨[(2, I i19)], [.cells [.sl 1 0 k2, cI i18], uR x1]⟩ (Wnt ((W_ret ?_))))
  cases h
  exact ⟨[0, 1], True, by kernel_rfl, trivial⟩

/- spec.mutate -/
def spec_mutate (x1 : List Int) (k2 : Nat) (i3 : Int) (s4 : Str) : Option (Int × Str) :=
 bindO (spec_reader_pick x1 k2 i3 (w64 (((s4.length : Nat) : Int) + 1))) fun i111 =>
 bindO (spec_reader_pick x1 k2 (w64 (i3 + 1)) 5) fun i113 =>
 bindO (iteO (decide (i113 = 0))
 (iteO (decide (i111 < ((s4.length : Nat) : Int)))
 (guardO (0 ≤ i111 ∧ i111 ≤ ((s4.length : Nat) : Int)) <|
 bindO (spec_reader_of x1 k2 (w64 ((w64 (i3 + 1)) + 1)) [[48], [49], [32], [45], [47], [97], [59], [57]]) fun (i227, s228) =>
 guardO ((s4.take i111.toNat).length + s228.length ≤ 1099511627776) <|
 guardO (0 ≤ (w64 (i111 + 1)) ∧ (w64 (i111 + 1)) ≤ ((s4.length : Nat) : Int)) <|
 guardO (((s4.take i111.toNat) ++ s228).length + (s4.drop ((w64 (i111 + 1)).toNat)).length ≤ 1099511627776) <|
 some (.inl (i227, (((s4.take i111.toNat) ++ s228) ++ (s4.drop ((w64 (i111 + 1)).toNat))))))
 (some (.inr ())))
 (iteO (decide (i113 = 1))
 (guardO (0 ≤ i111 ∧ i111 ≤ ((s4.length : Nat) : Int)) <|
 some (.inl ((w64 ((w64 (i3 + 1)) + 1)), (s4.take i111.toNat))))
 (iteO (decide (i113 = 2))
 (bindO (spec_reader_of x1 k2 (w64 ((w64 (i3 + 1)) + 1)) [[48], [32], [47, 97], [32, 49], [98], [59, 32]]) fun (i257, s258) =>
 guardO (s4.length + s258.length ≤ 1099511627776) <|
 some (.inl (i257, (s4 ++ s258))))
 (some (.inr ())))) : Option ((Int × Str) ⊕ (Unit))) fun v214 =>
 match v214 with
 | (.inl (i212, s213)) => (some (i212, s213))
 | (.inr _) => (some ((w64 ((w64 (i3 + 1)) + 1)), s4))


theorem spec_mutate_ok (x1 : List Int) (k2 : Nat) (i3 : Int) (s4 : Str) (i109 : Int) (s110 : Str) (h : spec_mutate x1 k2 i3 s4 = some (i109, s110)) : FOk EE 28 [pA 0 0, S s4] [.cells [.sl 1 0 k2, cI i3], uR x1] (S s110) [.cells [.sl 1 0 k2, cI i109], uR x1] := by
  unfold spec_mutate at h
  refine FOk_of_W 44 2 Tryz.func28 rfl rfl (Nat.le_of_ble_eq_true rfl) rfl (fun w X θ => ?_)
  refine Wsr ((Ws 1 [0, 1] [0, 1] ⟨[(0, pA 0 0), (1, S s4)], [.cells [.sl 1 0 k2, cI i3], uR x1]⟩ (Wnt ((W_seq (W_region ?_))))))
  refine Wp 4 [0, 1] [0, 1, 6, 9] T3 ⟨[(0, pA 0 0), (1, S s4), (6, pA 0 0), (9, I (w64 ((lI s4) + 1)))], [.cells [.sl 1 0 k2, cI i3], uR x1]⟩ t3 (bindO_e h (fun i111 hc112 h => (Wc [.own 0, .ro 1] rfl rfl rfl Tryz.func25 rfl (spec_reader_pick_ok x1 k2 i3 (w64 ((lI s4) + 1)) i111 hc112) (aI (trivial) (aI (aI rfl rfl) (trivial))) rfl (Ws 1 [0, 1] [0, 1, 5] ⟨[(0, pA 0 0), (1, S s4), (5, I i111)], [.cells [.sl 1 0 k2, cI (w64 (i3 + 1))], uR x1]⟩ (Wnt ((W_seq ?_)))))))
  refine Wsr ((Ws 1 [0, 1] [0, 1, 5, 11] ⟨[(0, pA 0 0), (1, S s4), (5, I i111), (11, pA 0 0)], [.cells [.sl 1 0 k2, cI (w64 (i3 + 1))], uR x1]⟩ (bindO_e h (fun i113 hc114 h => (Wc [.own 0, .ro 1] rfl rfl rfl Tryz.func25 rfl (spec_reader_pick_ok x1 k2 (w64 (i3 + 1)) 5 i113 hc114) (aI (trivial) (aI (aI rfl rfl) (trivial))) rfl (Wb [0, 1] [0, 1, 5, 12] ⟨[(0, pA 0 0), (1, S s4), (5, I i111), (12, I i113)], [.cells [.sl 1 0 k2, cI (w64 ((w64 (i3 + 1)) + 1))], uR x1]⟩ (WO_nil rfl ?_)))))))
  refine thenS_n (W_block (Wsr ((Wp 2 [0, 1] [0, 1, 5, 12, 13] T2 ⟨[(0, pA 0 0), (1, S s4), (5, I i111), (12, I i113), (13, B (decide (i113 = 0)))], [.cells [.sl 1 0 k2, cI (w64 ((w64 (i3 + 1)) + 1))], uR x1]⟩ t2 (Wnt (?_))))))
  refine bindO_e h (fun v214 hv214 h => (W_cut (Q' := fun (e : Exit) (s : St) => (match v214 with | (.inl (i212, s213)) => e = .ret ∧ s = ⟨[(4, S s213)], [.cells [.sl 1 0 k2, cI i212], uR x1]⟩ | (.inr _) => e = .normal ∧ s = ⟨[(1, S s4)], [.cells [.sl 1 0 k2, cI (w64 ((w64 (i3 + 1)) + 1))], uR x1]⟩ : Prop)) ?_ ?_))
  ·refine iteO_e hv214 (fun hb215 hv214 => W_true rfl hb215 ?_) (fun hb215 hv214 => W_false rfl hb215 ?_)
   ·refine Wsr ((Wp 4 [0, 1] [0, 1, 5, 18] T3 ⟨[(0, pA 0 0), (1, S s4), (5, I i111), (18, B (decide (i111 < (lI s4))))], [.cells [.sl 1 0 k2, cI (w64 ((w64 (i3 + 1)) + 1))], uR x1]⟩ t3 (Wnt ((iteO_e hv214 (fun hb225 hv214 => W_true rfl hb225 ?_) (fun hb225 hv214 => W_false rfl hb225 ?_))))))
    ·refine W_seq (guardO_e hv214 (fun hg226 hv214 => (bindO_e hv214 (fun v233 hc229 hv214 => ?_))))
     obtain ⟨i227, s228⟩ := v233
     refine guardO_e hv214 (fun hg230 hv214 => (guardO_e hv214 (fun hg231 hv214 => (guardO_e hv214 (fun hg232 hv214 => (W_cut (Q' := fun (e : Exit) (s : St) => e = .normal ∧ s = ⟨[(4, S (((s4.take i111.toNat) ++ s228) ++ (s4.drop ((w64 (i111 + 1)).toNat))))], [.cells [.sl 1 0 k2, cI i227], uR x1]⟩) ?_ ?_))))))
     ·refine W_draw [0] false (by kernel_rfl) (by kernel_rfl) (WD_takeQ [0, 1, 2, 3, 7, 8, 9, 10] [21, 22, 29] [21, 22, 29] (φ := ((0 ≤ i111 ∧ i111 ≤ (lI s4)) ∧ (0 ≤ i111 ∧ i111 ≤ (lI s4)) ∧ (True ∧ True ∧ ((0 ≤ (w64 (i111 + 1)) ∧ (w64 (i111 + 1)) ≤ (lI s4)) ∧ (0 ≤ (w64 (i111 + 1)) ∧ (w64 (i111 + 1)) ≤ (lI s4)) ∧ True)))) (ls' := (tf true [4, 3, 4, 2])) (st' := ⟨[(21, S (s4.take i111.toNat)), (22, pA 0 0), (29, S (s4.drop ((w64 (i111 + 1)).toNat)))], [.cells [.sl 1 0 k2, cI (w64 ((w64 (i3 + 1)) + 1))], uR x1]⟩) (n2 := 5) (by kernel_rfl) ⟨hg226, hg226, trivial, trivial, hg231, hg231, trivial⟩ rfl (WD_all [4] (n := 4) (by kernel_rfl) rfl (WM_op (φ := True) (v := SL 2 0 ([[48], [49], [32], [45], [47], [97], [59], [57]].length)) (H' := [.cells [.sl 1 0 k2, cI (w64 ((w64 (i3 + 1)) + 1))], uR x1, .row .str [[48], [49], [32], [45], [47], [97], [59], [57]] true]) rfl rfl (by kernel_rfl) trivial rfl (aI rfl (trivial)) (WD_all [5] (n := 3) (by kernel_rfl) rfl (WM_call [.own 0, .ro 1, .ro 2] Tryz.f26 rfl rfl (by kernel_rfl) Tryz.func26 rfl (by kernel_rfl) (spec_reader_of_ok x1 k2 (w64 ((w64 (i3 + 1)) + 1)) [[48], [49], [32], [45], [47], [97], [59], [57]] i227 s228 hc229) (aI (trivial) (aI (aI rfl rfl) (aI (aI rfl rfl) (trivial)))) rfl (aI rfl (trivial)) (WD_takeQ [6, 11, 12] [4] [4] (φ := (((s4.take i111.toNat).length + s228.length ≤ 1099511627776) ∧ ((s4.take i111.toNat).length + s228.length ≤ 1099511627776) ∧ ((((s4.take i111.toNat) ++ s228).length + (s4.drop ((w64 (i111 + 1)).toNat)).length ≤ 1099511627776) ∧ (((s4.take i111.toNat) ++ s228).length + (s4.drop ((w64 (i111 + 1)).toNat)).length ≤ 1099511627776) ∧ True))) (ls' := (tf true [13])) (st' := ⟨[(4, S (((s4.take i111.toNat) ++ s228) ++ (s4.drop ((w64 (i111 + 1)).toNat))))], [.cells [.sl 1 0 k2, cI i227], uR x1, .row .str [[48], [49], [32], [45], [47], [97], [59], [57]] true]⟩) (n2 := 0) (by kernel_rfl) ⟨hg230, hg230, hg232, hg232, trivial⟩ rfl ?_))))))
      exact WD_done [0, 1] [4] (st' := ⟨[(4, S (((s4.take i111.toNat) ++ s228) ++ (s4.drop ((w64 (i111 + 1)).toNat))))], [.cells [.sl 1 0 k2, cI i227], uR x1]⟩) (by kernel_rfl) (by kernel_rfl) (aI rfl rfl)
     ·rintro _ _ ⟨rfl, rfl⟩
      refine thenS_n (W_ret ?_)
      cases hv214
      exact aI rfl rfl
    ·refine Ww [0, 1] [1] ⟨[(1, S s4)], [.cells [.sl 1 0 k2, cI (w64 ((w64 (i3 + 1)) + 1))], uR x1]⟩ (W_skip ?_)
     cases hv214
     exact aI rfl rfl
   ·refine Wsr ((Wp 2 [0, 1] [0, 1, 5, 12, 31] T2 ⟨[(0, pA 0 0), (1, S s4), (5, I i111), (12, I i113), (31, B (decide (i113 = 1)))], [.cells [.sl 1 0 k2, cI (w64 ((w64 (i3 + 1)) + 1))], uR x1]⟩ t2 (Wnt ((iteO_e hv214 (fun hb248 hv214 => W_true rfl hb248 ?_) (fun hb248 hv214 => W_false rfl hb248 ?_))))))
    ·refine Wsr ((guardO_e hv214 (fun hg249 hv214 => (Wp 4 [0, 1] [4] ((0 ≤ i111 ∧ i111 ≤ (lI s4)) ∧ True) ⟨[(4, S (s4.take i111.toNat))], [.cells [.sl 1 0 k2, cI (w64 ((w64 (i3 + 1)) + 1))], uR x1]⟩ ⟨hg249, trivial⟩ (Wnt ((W_ret ?_)))))))
     cases hv214
     exact aI rfl rfl
    ·refine Wsr ((Wp 2 [0, 1] [0, 1, 36] T2 ⟨[(0, pA 0 0), (1, S s4), (36, B (decide (i113 = 2)))], [.cells [.sl 1 0 k2, cI (w64 ((w64 (i3 + 1)) + 1))], uR x1]⟩ t2 (Wnt ((iteO_e hv214 (fun hb256 hv214 => W_true rfl hb256 ?_) (fun hb256 hv214 => W_false rfl hb256 ?_))))))
     ·refine Wsr ((Ws 3 [0, 1, 2] [38, 39, 40] ⟨[(38, S s4), (39, pA 0 0), (40, SL 2 0 ([[48], [32], [47, 97], [32, 49], [98], [59, 32]].length))], [.cells [.sl 1 0 k2, cI (w64 ((w64 (i3 + 1)) + 1))], uR x1, .row .str [[48], [32], [47, 97], [32, 49], [98], [59, 32]] true]⟩ (bindO_e hv214 (fun v261 hc259 hv214 => ?_))))
      obtain ⟨i257, s258⟩ := v261
      refine Wc [.own 0, .ro 1, .ro 2] rfl rfl rfl Tryz.func26 rfl (spec_reader_of_ok x1 k2 (w64 ((w64 (i3 + 1)) + 1)) [[48], [32], [47, 97], [32, 49], [98], [59, 32]] i257 s258 hc259) (aI (trivial) (aI (aI rfl rfl) (aI (aI rfl rfl) (trivial)))) rfl (guardO_e hv214 (fun hg260 hv214 => (Wp 2 [0, 1] [4] ((s4.length + s258.length ≤ 1099511627776) ∧ True) ⟨[(4, S (s4 ++ s258))], [.cells [.sl 1 0 k2, cI i257], uR x1]⟩ ⟨hg260, trivial⟩ (Wnt ((W_ret ?_))))))
      cases hv214
      exact aI rfl rfl
     ·refine Ww [0, 1] [1] ⟨[(1, S s4)], [.cells [.sl 1 0 k2, cI (w64 ((w64 (i3 + 1)) + 1))], uR x1]⟩ (W_skip ?_)
      cases hv214
      exact aI rfl rfl
  ·rcases v214 with ⟨i212, s213⟩ | _
   ·rintro _ _ ⟨rfl, rfl⟩
    refine blockS_r (thenS_r ?_)
    cases h
    exact ⟨[0, 1], True, by kernel_rfl, trivial⟩
   ·rintro _ _ ⟨rfl, rfl⟩
    refine blockS_n (thenS_n (Wsr ((Ws 2 [0, 1] [4] ⟨[(4, S s4)], [.cells [.sl 1 0 k2, cI (w64 ((w64 (i3 + 1)) + 1))], uR x1]⟩ (Wnt ((W_ret ?_)))))))
    cases h
    exact ⟨[0, 1], True, by kernel_rfl, trivial⟩

/- spec.DrawRunSession -/
def spec_DrawRunSession_L1 (x1 : List Int) (k701 : Nat) : Nat → Int → (List Str) → Int → Option ((Int × (List Str)))
| 0, _, _, _ => none
| n + 1, i933, x934, i935 =>
 iteO (decide (0 < i935))
 (bindO (spec_reader_pick x1 k701 i933 3) fun i1270 =>
 bindO (spec_decimal n i1270) fun s1272 =>
 bindO (spec_reader_of x1 k701 (w64 (i933 + 1)) [[47], [47, 97], [47, 97, 47, 98], [47, 99]]) fun (i1274, s1275) =>
 bindO (spec_reader_pick x1 k701 i1274 5) fun i1277 =>
 bindO (iteO (decide (i1277 = 0))
 (guardO ([119, 114, 105, 116, 101, 32].length + s1272.length ≤ 1099511627776) <|
 guardO (([119, 114, 105, 116, 101, 32] ++ s1272).length + [32].length ≤ 1099511627776) <|
 guardO ((([119, 114, 105, 116, 101, 32] ++ s1272) ++ [32]).length + s1275.length ≤ 1099511627776) <|
 guardO (0 = 0 ∧ x934.length = x934.length ∧ x934.length + (([((([119, 114, 105, 116, 101, 32] ++ s1272) ++ [32]) ++ s1275)].drop 0).take ([((([119, 114, 105, 116, 101, 32] ++ s1272) ++ [32]) ++ s1275)].length)).length ≤ 1099511627776) <|
 some ((w64 (i1274 + 1)), (x934 ++ (([((([119, 114, 105, 116, 101, 32] ++ s1272) ++ [32]) ++ s1275)].drop 0).take ([((([119, 114, 105, 116, 101, 32] ++ s1272) ++ [32]) ++ s1275)].length)))))
 (bindO (iteO (decide (i1277 = 1))
 (guardO ([115, 101, 116, 32].length + s1272.length ≤ 1099511627776) <|
 guardO (([115, 101, 116, 32] ++ s1272).length + [32].length ≤ 1099511627776) <|
 guardO ((([115, 101, 116, 32] ++ s1272) ++ [32]).length + s1275.length ≤ 1099511627776) <|
 guardO (((([115, 101, 116, 32] ++ s1272) ++ [32]) ++ s1275).length + [32].length ≤ 1099511627776) <|
 bindO (spec_someValue x1 k701 (w64 (i1274 + 1))) fun (i1428, i1429) =>
 bindO (spec_decimal n i1429) fun s1431 =>
 guardO ((((([115, 101, 116, 32] ++ s1272) ++ [32]) ++ s1275) ++ [32]).length + s1431.length ≤ 1099511627776) <|
 guardO (0 = 0 ∧ x934.length = x934.length ∧ x934.length + (([((((([115, 101, 116, 32] ++ s1272) ++ [32]) ++ s1275) ++ [32]) ++ s1431)].drop 0).take ([((((([115, 101, 116, 32] ++ s1272) ++ [32]) ++ s1275) ++ [32]) ++ s1431)].length)).length ≤ 1099511627776) <|
 some (i1428, (x934 ++ (([((((([115, 101, 116, 32] ++ s1272) ++ [32]) ++ s1275) ++ [32]) ++ s1431)].drop 0).take ([((((([115, 101, 116, 32] ++ s1272) ++ [32]) ++ s1275) ++ [32]) ++ s1431)].length)))))
 (bindO (iteO (decide (i1277 = 2))
 (bindO (spec_reader_of x1 k701 (w64 (i1274 + 1)) [[114, 101, 97, 100, 32], [103, 101, 116, 32]]) fun (i1462, s1463) =>
 guardO (s1463.length + s1272.length ≤ 1099511627776) <|
 guardO ((s1463 ++ s1272).length + [32].length ≤ 1099511627776) <|
 guardO (((s1463 ++ s1272) ++ [32]).length + s1275.length ≤ 1099511627776) <|
 guardO (0 = 0 ∧ x934.length = x934.length ∧ x934.length + (([(((s1463 ++ s1272) ++ [32]) ++ s1275)].drop 0).take ([(((s1463 ++ s1272) ++ [32]) ++ s1275)].length)).length ≤ 1099511627776) <|
 some (i1462, (x934 ++ (([(((s1463 ++ s1272) ++ [32]) ++ s1275)].drop 0).take ([(((s1463 ++ s1272) ++ [32]) ++ s1275)].length)))))
 (bindO (iteO (decide (i1277 = 3))
 (guardO ([102, 114, 101, 101, 32].length + s1272.length ≤ 1099511627776) <|
 bindO (spec_reader_of x1 k701 (w64 (i1274 + 1)) [([102, 114, 101, 101, 32] ++ s1272), [116, 114, 101, 101], [108, 111, 99, 107, 115], [103, 101, 116, 32, 120, 32, 47], [115, 101, 116, 32, 48, 32, 47, 32, 120], [], [104, 101, 108, 112], [102, 114, 101, 101, 32, 57]]) fun (i1485, s1486) =>
 guardO (0 = 0 ∧ x934.length = x934.length ∧ x934.length + (([s1486].drop 0).take ([s1486].length)).length ≤ 1099511627776) <|
 some (i1485, (x934 ++ (([s1486].drop 0).take ([s1486].length)))))
 (guardO ([115, 101, 116, 32, 48, 32].length + s1275.length ≤ 1099511627776) <|
 guardO (([115, 101, 116, 32, 48, 32] ++ s1275).length + [32, 53].length ≤ 1099511627776) <|
 guardO (0 = 0 ∧ x934.length = x934.length ∧ x934.length + (([[119, 114, 105, 116, 101, 32, 48, 32, 47], (([115, 101, 116, 32, 48, 32] ++ s1275) ++ [32, 53])].drop 0).take ([[119, 114, 105, 116, 101, 32, 48, 32, 47], (([115, 101, 116, 32, 48, 32] ++ s1275) ++ [32, 53])].length)).length ≤ 1099511627776) <|
 some ((w64 (i1274 + 1)), (x934 ++ (([[119, 114, 105, 116, 101, 32, 48, 32, 47], (([115, 101, 116, 32, 48, 32] ++ s1275) ++ [32, 53])].drop 0).take ([[119, 114, 105, 116, 101, 32, 48, 32, 47], (([115, 101, 116, 32, 48, 32] ++ s1275) ++ [32, 53])].length)))))) fun v1482 =>
 match v1482 with
 | (i1480, x1481) => (some (i1480, x1481))
)) fun v1460 =>
 match v1460 with
 | (i1458, x1459) => (some (i1458, x1459))
)) fun v1422 =>
 match v1422 with
 | (i1420, x1421) => (some (i1420, x1421))
)) fun v1376 =>
 match v1376 with
 | (i1374, x1375) => (spec_DrawRunSession_L1 x1 k701 n i1374 x1375 (w64 (i935 - 1)))
)
 (some (i933, x934))

theorem spec_DrawRunSession_L1_ok (w : World) (X : Nat → Prop) (θ : List Loc) (x1 : List Int) (k701 : Nat) (v : (Int × (List Str))) : ∀ (n : Nat) (i933 : Int) (x934 : List Str) (i935 : Int), spec_DrawRunSession_L1 x1 k701 n i933 x934 i935 = some v → WL EE ⟨w, X, θ, 103, 1⟩ (subC [1, 1, 1, 0, 1, 4, 4] (bodyC Tryz.f10)) (fun (e : Exit) (s : St) => (match v with | (i1157, x1158) => e = .exit 0 ∧ s = ⟨[(3, pA 1 0), (4, sF 2 x1158)], [uR x1, .cells [.sl 0 0 k701, cI i1157], sO x1158]⟩ : Prop)) ⟨[(3, pA 1 0), (4, sF 2 x934), (5, I i935)], [uR x1, .cells [.sl 0 0 k701, cI i933], sO x934]⟩ := by
  intro n
  induction n with
  | zero => intro _ _ _ h; exact none_e h
  | succ n ih =>
    intro i933 x934 i935 h
    rw [spec_DrawRunSession_L1] at h
    refine WL_round ?_
    refine W_seq (Wsr ((Wp 2 [0, 1, 2] [3, 4, 5, 16] T2 ⟨[(3, pA 1 0), (4, sF 2 x934), (5, I i935), (16, B (decide (0 < i935)))], [uR x1, .cells [.sl 0 0 k701, cI i933], sO x934]⟩ t2 (Wnt ((iteO_e h (fun hb1161 h => W_true rfl hb1161 ?_) (fun hb1161 h => W_false rfl hb1161 ?_)))))))
    ·refine Ww [0, 1, 2] [3, 4, 5] ⟨[(3, pA 1 0), (4, sF 2 x934), (5, I i935)], [uR x1, .cells [.sl 0 0 k701, cI i933], sO x934]⟩ (W_skip (thenS_n (W_seq (W_block (Wsr ((Ws 1 [0, 1, 2] [3, 4, 5, 19] ⟨[(3, pA 1 0), (4, sF 2 x934), (5, I i935), (19, pA 1 0)], [uR x1, .cells [.sl 0 0 k701, cI i933], sO x934]⟩ (bindO_e h (fun i1270 hc1271 h => (Wc [.own 1, .ro 0] rfl rfl rfl Tryz.func25 rfl (spec_reader_pick_ok x1 k701 i933 3 i1270 hc1271) (aI (trivial) (aI (aI rfl rfl) (trivial))) rfl (Wb [0, 1, 2] [3, 4, 5, 20] ⟨[(3, pA 1 0), (4, sF 2 x934), (5, I i935), (20, I i1270)], [uR x1, .cells [.sl 0 0 k701, cI (w64 (i933 + 1))], sO x934]⟩ (bindO_e h (fun s1272 hc1273 h => (Wc [] rfl rfl rfl Tryz.func24 rfl (spec_decimal_ok n i1270 s1272 hc1273) (trivial) rfl (Ws 1 [0, 1, 2] [3, 4, 5, 6] ⟨[(3, pA 1 0), (4, sF 2 x934), (5, I i935), (6, S s1272)], [uR x1, .cells [.sl 0 0 k701, cI (w64 (i933 + 1))], sO x934]⟩ (Wnt ((Wsr ((Ws 2 [0, 1, 2, 3] [3, 4, 5, 6, 22, 23] ⟨[(3, pA 1 0), (4, sF 2 x934), (5, I i935), (6, S s1272), (22, pA 1 0), (23, SL 3 0 ([[47], [47, 97], [47, 97, 47, 98], [47, 99]].length))], [uR x1, .cells [.sl 0 0 k701, cI (w64 (i933 + 1))], sO x934, .row .str [[47], [47, 97], [47, 97, 47, 98], [47, 99]] true]⟩ (bindO_e h (fun v1493 hc1276 h => ?_))))))))))))))))))))))
     obtain ⟨i1274, s1275⟩ := v1493
     refine Wc [.own 1, .ro 0, .ro 3] rfl rfl rfl Tryz.func26 rfl (spec_reader_of_ok x1 k701 (w64 (i933 + 1)) [[47], [47, 97], [47, 97, 47, 98], [47, 99]] i1274 s1275 hc1276) (aI (trivial) (aI (aI rfl rfl) (aI (aI rfl rfl) (trivial)))) rfl (Ws 1 [0, 1, 2] [3, 4, 5, 6, 7] ⟨[(3, pA 1 0), (4, sF 2 x934), (5, I i935), (6, S s1272), (7, S s1275)], [uR x1, .cells [.sl 0 0 k701, cI i1274], sO x934]⟩ (Wnt ((Wsr ((Ws 1 [0, 1, 2] [3, 4, 5, 6, 7, 25] ⟨[(3, pA 1 0), (4, sF 2 x934), (5, I i935), (6, S s1272), (7, S s1275), (25, pA 1 0)], [uR x1, .cells [.sl 0 0 k701, cI i1274], sO x934]⟩ (bindO_e h (fun i1277 hc1278 h => (Wc [.own 1, .ro 0] rfl rfl rfl Tryz.func25 rfl (spec_reader_pick_ok x1 k701 i1274 5 i1277 hc1278) (aI (trivial) (aI (aI rfl rfl) (trivial))) rfl (Wb [0, 1, 2] [3, 4, 5, 6, 7, 26] ⟨[(3, pA 1 0), (4, sF 2 x934), (5, I i935), (6, S s1272), (7, S s1275), (26, I i1277)], [uR x1, .cells [.sl 0 0 k701, cI (w64 (i1274 + 1))], sO x934]⟩ (Wnt ((W_block (Wsr ((Wp 2 [0, 1, 2] [3, 4, 5, 6, 7, 26, 33] T2 ⟨[(3, pA 1 0), (4, sF 2 x934), (5, I i935), (6, S s1272), (7, S s1275), (26, I i1277), (33, B (decide (i1277 = 0)))], [uR x1, .cells [.sl 0 0 k701, cI (w64 (i1274 + 1))], sO x934]⟩ t2 (Wnt ((bindO_e h (fun v1376 hv1376 h => (W_cut (Q' := fun (e : Exit) (s : St) => (match v1376 with | (i1374, x1375) => e = .normal ∧ s = ⟨[(3, pA 1 0), (4, sF 2 x1375), (5, I i935)], [uR x1, .cells [.sl 0 0 k701, cI i1374], sO x1375]⟩ : Prop)) ?_ ?_)))))))))))))))))))))
     ·refine iteO_e hv1376 (fun hb1377 hv1376 => W_true rfl hb1377 ?_) (fun hb1377 hv1376 => W_false rfl hb1377 ?_)
      ·refine W_region (guardO_e hv1376 (fun hg1378 hv1376 => (guardO_e hv1376 (fun hg1379 hv1376 => (guardO_e hv1376 (fun hg1380 hv1376 => (guardO_e hv1376 (fun hg1381 hv1376 => (Wp 9 [0, 1, 4] [3, 4, 5] (([119, 114, 105, 116, 101, 32].length + s1272.length ≤ 1099511627776) ∧ ((([119, 114, 105, 116, 101, 32] ++ s1272).length + [32].length ≤ 1099511627776) ∧ (((([119, 114, 105, 116, 101, 32] ++ s1272) ++ [32]).length + s1275.length ≤ 1099511627776) ∧ ((0 = 0 ∧ x934.length = x934.length ∧ x934.length + (([((([119, 114, 105, 116, 101, 32] ++ s1272) ++ [32]) ++ s1275)].drop 0).take ([((([119, 114, 105, 116, 101, 32] ++ s1272) ++ [32]) ++ s1275)].length)).length ≤ 1099511627776) ∧ True)))) ⟨[(3, pA 1 0), (4, .one (.e (.sl 2 0 ((x934 ++ (([((([119, 114, 105, 116, 101, 32] ++ s1272) ++ [32]) ++ s1275)].drop 0).take ([((([119, 114, 105, 116, 101, 32] ++ s1272) ++ [32]) ++ s1275)].length))).length)))), (5, I i935)], [uR x1, .cells [.sl 0 0 k701, cI (w64 (i1274 + 1))], .row .str (x934 ++ (([((([119, 114, 105, 116, 101, 32] ++ s1272) ++ [32]) ++ s1275)].drop 0).take ([((([119, 114, 105, 116, 101, 32] ++ s1272) ++ [32]) ++ s1275)].length))) true]⟩ ⟨hg1378, hg1379, hg1380, hg1381, trivial⟩ (WO_nil rfl ?_))))))))))
       cases hv1376
       exact aI rfl rfl
      ·refine Wsr ((Wp 2 [0, 1, 2] [3, 4, 5, 6, 7, 26, 43] T2 ⟨[(3, pA 1 0), (4, sF 2 x934), (5, I i935), (6, S s1272), (7, S s1275), (26, I i1277), (43, B (decide (i1277 = 1)))], [uR x1, .cells [.sl 0 0 k701, cI (w64 (i1274 + 1))], sO x934]⟩ t2 (Wnt ((bindO_e hv1376 (fun v1422 hv1422 hv1376 => (W_cut (Q' := fun (e : Exit) (s : St) => (match v1422 with | (i1420, x1421) => e = .normal ∧ s = ⟨[(3, pA 1 0), (4, sF 2 x1421), (5, I i935)], [uR x1, .cells [.sl 0 0 k701, cI i1420], sO x1421]⟩ : Prop)) ?_ ?_)))))))
       ·refine iteO_e hv1422 (fun hb1423 hv1422 => W_true rfl hb1423 ?_) (fun hb1423 hv1422 => W_false rfl hb1423 ?_)
        ·refine W_region (guardO_e hv1422 (fun hg1424 hv1422 => (guardO_e hv1422 (fun hg1425 hv1422 => (guardO_e hv1422 (fun hg1426 hv1422 => (guardO_e hv1422 (fun hg1427 hv1422 => (Wp 8 [0, 1, 2] [3, 5, 45, 51, 52] (([115, 101, 116, 32].length + s1272.length ≤ 1099511627776) ∧ ((([115, 101, 116, 32] ++ s1272).length + [32].length ≤ 1099511627776) ∧ (((([115, 101, 116, 32] ++ s1272) ++ [32]).length + s1275.length ≤ 1099511627776) ∧ ((((([115, 101, 116, 32] ++ s1272) ++ [32]) ++ s1275).length + [32].length ≤ 1099511627776) ∧ True)))) ⟨[(3, pA 1 0), (5, I i935), (45, sF 2 x934), (51, S (((([115, 101, 116, 32] ++ s1272) ++ [32]) ++ s1275) ++ [32])), (52, pA 1 0)], [uR x1, .cells [.sl 0 0 k701, cI (w64 (i1274 + 1))], sO x934]⟩ ⟨hg1424, hg1425, hg1426, hg1427, trivial⟩ (bindO_e hv1422 (fun v1435 hc1430 hv1422 => ?_)))))))))))
         obtain ⟨i1428, i1429⟩ := v1435
         refine Wc [.own 1, .ro 0] rfl rfl rfl Tryz.func27 rfl (spec_someValue_ok x1 k701 (w64 (i1274 + 1)) i1428 i1429 hc1430) (aI (trivial) (aI (aI rfl rfl) (trivial))) rfl (Wb [0, 1, 2] [3, 5, 45, 51, 53] ⟨[(3, pA 1 0), (5, I i935), (45, sF 2 x934), (51, S (((([115, 101, 116, 32] ++ s1272) ++ [32]) ++ s1275) ++ [32])), (53, I i1429)], [uR x1, .cells [.sl 0 0 k701, cI i1428], sO x934]⟩ (bindO_e hv1422 (fun s1431 hc1432 hv1422 => (Wc [] rfl rfl rfl Tryz.func24 rfl (spec_decimal_ok n i1429 s1431 hc1432) (trivial) rfl (guardO_e hv1422 (fun hg1433 hv1422 => (guardO_e hv1422 (fun hg1434 hv1422 => (Wp 4 [0, 1, 4] [3, 4, 5] (((((([115, 101, 116, 32] ++ s1272) ++ [32]) ++ s1275) ++ [32]).length + s1431.length ≤ 1099511627776) ∧ ((0 = 0 ∧ x934.length = x934.length ∧ x934.length + (([((((([115, 101, 116, 32] ++ s1272) ++ [32]) ++ s1275) ++ [32]) ++ s1431)].drop 0).take ([((((([115, 101, 116, 32] ++ s1272) ++ [32]) ++ s1275) ++ [32]) ++ s1431)].length)).length ≤ 1099511627776) ∧ True)) ⟨[(3, pA 1 0), (4, .one (.e (.sl 2 0 ((x934 ++ (([((((([115, 101, 116, 32] ++ s1272) ++ [32]) ++ s1275) ++ [32]) ++ s1431)].drop 0).take ([((((([115, 101, 116, 32] ++ s1272) ++ [32]) ++ s1275) ++ [32]) ++ s1431)].length))).length)))), (5, I i935)], [uR x1, .cells [.sl 0 0 k701, cI i1428], .row .str (x934 ++ (([((((([115, 101, 116, 32] ++ s1272) ++ [32]) ++ s1275) ++ [32]) ++ s1431)].drop 0).take ([((((([115, 101, 116, 32] ++ s1272) ++ [32]) ++ s1275) ++ [32]) ++ s1431)].length))) true]⟩ ⟨hg1433, hg1434, trivial⟩ (WO_nil rfl ?_))))))))))
         cases hv1422
         exact aI rfl rfl
        ·refine Wsr ((Wp 2 [0, 1, 2] [3, 4, 5, 6, 7, 26, 58] T2 ⟨[(3, pA 1 0), (4, sF 2 x934), (5, I i935), (6, S s1272), (7, S s1275), (26, I i1277), (58, B (decide (i1277 = 2)))], [uR x1, .cells [.sl 0 0 k701, cI (w64 (i1274 + 1))], sO x934]⟩ t2 (Wnt ((bindO_e hv1422 (fun v1460 hv1460 hv1422 => (W_cut (Q' := fun (e : Exit) (s : St) => (match v1460 with | (i1458, x1459) => e = .normal ∧ s = ⟨[(3, pA 1 0), (4, sF 2 x1459), (5, I i935)], [uR x1, .cells [.sl 0 0 k701, cI i1458], sO x1459]⟩ : Prop)) ?_ ?_)))))))
         ·refine iteO_e hv1460 (fun hb1461 hv1460 => W_true rfl hb1461 ?_) (fun hb1461 hv1460 => W_false rfl hb1461 ?_)
          ·refine W_region (Ws 3 [0, 1, 2, 3] [3, 5, 6, 7, 60, 61, 62] ⟨[(3, pA 1 0), (5, I i935), (6, S s1272), (7, S s1275), (60, sF 2 x934), (61, pA 1 0), (62, SL 3 0 ([[114, 101, 97, 100, 32], [103, 101, 116, 32]].length))], [uR x1, .cells [.sl 0 0 k701, cI (w64 (i1274 + 1))], sO x934, .row .str [[114, 101, 97, 100, 32], [103, 101, 116, 32]] true]⟩ (bindO_e hv1460 (fun v1469 hc1464 hv1460 => ?_)))
           obtain ⟨i1462, s1463⟩ := v1469
           refine Wc [.own 1, .ro 0, .ro 3] rfl rfl rfl Tryz.func26 rfl (spec_reader_of_ok x1 k701 (w64 (i1274 + 1)) [[114, 101, 97, 100, 32], [103, 101, 116, 32]] i1462 s1463 hc1464) (aI (trivial) (aI (aI rfl rfl) (aI (aI rfl rfl) (trivial)))) rfl (guardO_e hv1460 (fun hg1465 hv1460 => (guardO_e hv1460 (fun hg1466 hv1460 => (guardO_e hv1460 (fun hg1467 hv1460 => (guardO_e hv1460 (fun hg1468 hv1460 => (Wp 8 [0, 1, 5] [3, 4, 5] ((s1463.length + s1272.length ≤ 1099511627776) ∧ (((s1463 ++ s1272).length + [32].length ≤ 1099511627776) ∧ ((((s1463 ++ s1272) ++ [32]).length + s1275.length ≤ 1099511627776) ∧ ((0 = 0 ∧ x934.length = x934.length ∧ x934.length + (([(((s1463 ++ s1272) ++ [32]) ++ s1275)].drop 0).take ([(((s1463 ++ s1272) ++ [32]) ++ s1275)].length)).length ≤ 1099511627776) ∧ True)))) ⟨[(3, pA 1 0), (4, .one (.e (.sl 2 0 ((x934 ++ (([(((s1463 ++ s1272) ++ [32]) ++ s1275)].drop 0).take ([(((s1463 ++ s1272) ++ [32]) ++ s1275)].length))).length)))), (5, I i935)], [uR x1, .cells [.sl 0 0 k701, cI i1462], .row .str (x934 ++ (([(((s1463 ++ s1272) ++ [32]) ++ s1275)].drop 0).take ([(((s1463 ++ s1272) ++ [32]) ++ s1275)].length))) true]⟩ ⟨hg1465, hg1466, hg1467, hg1468, trivial⟩ (WO_nil rfl ?_))))))))))
           cases hv1460
           exact aI rfl rfl
          ·refine Wsr ((Wp 2 [0, 1, 2] [3, 4, 5, 6, 7, 71] T2 ⟨[(3, pA 1 0), (4, sF 2 x934), (5, I i935), (6, S s1272), (7, S s1275), (71, B (decide (i1277 = 3)))], [uR x1, .cells [.sl 0 0 k701, cI (w64 (i1274 + 1))], sO x934]⟩ t2 (Wnt ((bindO_e hv1460 (fun v1482 hv1482 hv1460 => (W_cut (Q' := fun (e : Exit) (s : St) => (match v1482 with | (i1480, x1481) => e = .normal ∧ s = ⟨[(3, pA 1 0), (4, sF 2 x1481), (5, I i935)], [uR x1, .cells [.sl 0 0 k701, cI i1480], sO x1481]⟩ : Prop)) ?_ ?_)))))))
           ·refine iteO_e hv1482 (fun hb1483 hv1482 => W_true rfl hb1483 ?_) (fun hb1483 hv1482 => W_false rfl hb1483 ?_)
            ·refine W_region (guardO_e hv1482 (fun hg1484 hv1482 => (Wp 5 [0, 1, 2, 3] [3, 5, 73, 74, 77] (([102, 114, 101, 101, 32].length + s1272.length ≤ 1099511627776) ∧ True) ⟨[(3, pA 1 0), (5, I i935), (73, sF 2 x934), (74, pA 1 0), (77, .one (.e (.sl 3 0 ([([102, 114, 101, 101, 32] ++ s1272), [116, 114, 101, 101], [108, 111, 99, 107, 115], [103, 101, 116, 32, 120, 32, 47], [115, 101, 116, 32, 48, 32, 47, 32, 120], [], [104, 101, 108, 112], [102, 114, 101, 101, 32, 57]].length))))], [uR x1, .cells [.sl 0 0 k701, cI (w64 (i1274 + 1))], sO x934, .row .str [([102, 114, 101, 101, 32] ++ s1272), [116, 114, 101, 101], [108, 111, 99, 107, 115], [103, 101, 116, 32, 120, 32, 47], [115, 101, 116, 32, 48, 32, 47, 32, 120], [], [104, 101, 108, 112], [102, 114, 101, 101, 32, 57]] true]⟩ ⟨hg1484, trivial⟩ (bindO_e hv1482 (fun v1489 hc1487 hv1482 => ?_)))))
             obtain ⟨i1485, s1486⟩ := v1489
             refine Wc [.own 1, .ro 0, .ro 3] rfl rfl rfl Tryz.func26 rfl (spec_reader_of_ok x1 k701 (w64 (i1274 + 1)) [([102, 114, 101, 101, 32] ++ s1272), [116, 114, 101, 101], [108, 111, 99, 107, 115], [103, 101, 116, 32, 120, 32, 47], [115, 101, 116, 32, 48, 32, 47, 32, 120], [], [104, 101, 108, 112], [102, 114, 101, 101, 32, 57]] i1485 s1486 hc1487) (aI (trivial) (aI (aI rfl rfl) (aI (aI rfl rfl) (trivial)))) rfl (guardO_e hv1482 (fun hg1488 hv1482 => (Wp 3 [0, 1, 5] [3, 4, 5] ((0 = 0 ∧ x934.length = x934.length ∧ x934.length + (([s1486].drop 0).take ([s1486].length)).length ≤ 1099511627776) ∧ True) ⟨[(3, pA 1 0), (4, .one (.e (.sl 2 0 ((x934 ++ (([s1486].drop 0).take ([s1486].length))).length)))), (5, I i935)], [uR x1, .cells [.sl 0 0 k701, cI i1485], .row .str (x934 ++ (([s1486].drop 0).take ([s1486].length))) true]⟩ ⟨hg1488, trivial⟩ (WO_nil rfl ?_))))
             cases hv1482
             exact aI rfl rfl
            ·refine W_region (guardO_e hv1482 (fun hg1490 hv1482 => (guardO_e hv1482 (fun hg1491 hv1482 => (guardO_e hv1482 (fun hg1492 hv1482 => (Wp 7 [0, 1, 4] [3, 4, 5] (([115, 101, 116, 32, 48, 32].length + s1275.length ≤ 1099511627776) ∧ ((([115, 101, 116, 32, 48, 32] ++ s1275).length + [32, 53].length ≤ 1099511627776) ∧ ((0 = 0 ∧ x934.length = x934.length ∧ x934.length + (([[119, 114, 105, 116, 101, 32, 48, 32, 47], (([115, 101, 116, 32, 48, 32] ++ s1275) ++ [32, 53])].drop 0).take ([[119, 114, 105, 116, 101, 32, 48, 32, 47], (([115, 101, 116, 32, 48, 32] ++ s1275) ++ [32, 53])].length)).length ≤ 1099511627776) ∧ True))) ⟨[(3, pA 1 0), (4, .one (.e (.sl 2 0 ((x934 ++ (([[119, 114, 105, 116, 101, 32, 48, 32, 47], (([115, 101, 116, 32, 48, 32] ++ s1275) ++ [32, 53])].drop 0).take ([[119, 114, 105, 116, 101, 32, 48, 32, 47], (([115, 101, 116, 32, 48, 32] ++ s1275) ++ [32, 53])].length))).length)))), (5, I i935)], [uR x1, .cells [.sl 0 0 k701, cI (w64 (i1274 + 1))], .row .str (x934 ++ (([[119, 114, 105, 116, 101, 32, 48, 32, 47], (([115, 101, 116, 32, 48, 32] ++ s1275) ++ [32, 53])].drop 0).take ([[119, 114, 105, 116, 101, 32, 48, 32, 47], (([115, 101, 116, 32, 48, 32] ++ s1275) ++ [32, 53])].length))) true]⟩ ⟨hg1490, hg1491, hg1492, trivial⟩ (WO_nil rfl ?_))))))))
             cases hv1482
             exact aI rfl rfl
           ·obtain ⟨i1480, x1481⟩ := v1482
            rintro _ _ ⟨rfl, rfl⟩
            cases hv1460
            exact aI rfl rfl
         ·obtain ⟨i1458, x1459⟩ := v1460
          rintro _ _ ⟨rfl, rfl⟩
          cases hv1422
          exact aI rfl rfl
       ·obtain ⟨i1420, x1421⟩ := v1422
        rintro _ _ ⟨rfl, rfl⟩
        cases hv1376
        exact aI rfl rfl
     ·obtain ⟨i1374, x1375⟩ := v1376
      rintro _ _ ⟨rfl, rfl⟩
      refine blockS_n (blockS_n (thenS_n (W_region (Wp 3 [0, 1, 2] [3, 4, 5] T2 ⟨[(3, pA 1 0), (4, sF 2 x1375), (5, I (w64 (i935 - 1)))], [uR x1, .cells [.sl 0 0 k701, cI i1374], sO x1375]⟩ t2 (Wnt (?_))))))
      exact ih _ _ _ h
    ·refine Ww [0, 1, 2] [3, 4] ⟨[(3, pA 1 0), (4, sF 2 x934)], [uR x1, .cells [.sl 0 0 k701, cI i933], sO x934]⟩ (W_exit (thenS_e (thenS_e ?_)))
     cases h
     exact aI rfl rfl

def spec_DrawRunSession (n : Nat) (x1 : List Int) : Option ((List Str)) :=
 bindO (spec_newReader x1) fun k701 =>
 bindO (spec_reader_one x1 k701 0 [8, 12, 6, 16, 3, 0]) fun (i703, i704) =>
 bindO (spec_DrawRunSession_L1 x1 k701 n i703 ([] : List Str) i704) fun v1494 =>
 match v1494 with
 | (i1157, x1158) => (bindO (iteO (decide (0 < ((x1158.length : Nat) : Int)))
 (bindO (spec_reader_pick x1 k701 i1157 5) fun i1502 =>
 some ((w64 (i1157 + 1)), (decide (i1502 = 0))))
 (some (i1157, false))) fun (i1498, b1499) =>
 bindO (iteO b1499
 (bindO (spec_reader_pick x1 k701 i1498 ((x1158.length : Nat) : Int)) fun i1516 =>
 guardO (0 ≤ i1516 ∧ i1516 < ((x1158.length : Nat) : Int)) <|
 bindO (spec_mutate x1 k701 (w64 (i1498 + 1)) (x1158.getD i1516.toNat [])) fun (i1519, s1520) =>
 guardO (0 ≤ i1516 ∧ i1516 < ((x1158.length : Nat) : Int)) <|
 some (x1158.set i1516.toNat s1520))
 (some x1158)) fun x1513 =>
 some x1513)


theorem spec_DrawRunSession_ok (n : Nat) (x1 : List Int) (x700 : List Str) (h : spec_DrawRunSession n x1 = some x700) : FOk EE 10 [sF 0 x1] [uR x1] (sF 1 x700) [uR x1, sO x700] := by
  unfold spec_DrawRunSession at h
  refine FOk_of_W 103 1 Tryz.func10 rfl rfl (Nat.le_of_ble_eq_true rfl) rfl (fun w X θ => ?_)
  refine Wsr ((Ws 1 [0] [0] ⟨[(0, sF 0 x1)], [uR x1]⟩ (Wnt ((W_seq (W_region ?_))))))
  refine Ws 1 [0] [9] ⟨[(9, sF 0 x1)], [uR x1]⟩ (bindO_e h (fun k701 hc702 h => (Wc [.ro 0] rfl rfl rfl Tryz.func22 rfl (spec_newReader_ok x1 k701 hc702) (aI (aI rfl rfl) (trivial)) rfl (Ws 1 [0, 1] [3] ⟨[(3, pA 1 0)], [uR x1, .cells [.sl 0 0 k701, cI 0]]⟩ (Wnt ((W_seq ?_)))))))
  refine W_region (Ws 2 [0, 1, 2] [3, 4] ⟨[(3, pA 1 0), (4, .one (.e (.sl 2 0 (([] : List Str).length))))], [uR x1, .cells [.sl 0 0 k701, cI 0], sO ([] : List Str)]⟩ (Wnt ((W_seq (W_seq (W_region ?_))))))
  refine Ws 2 [0, 1, 2, 3] [3, 4, 12, 13] ⟨[(3, pA 1 0), (4, .one (.e (.sl 2 0 (([] : List Str).length)))), (12, pA 1 0), (13, SL 3 0 ([8, 12, 6, 16, 3, 0].length))], [uR x1, .cells [.sl 0 0 k701, cI 0], sO ([] : List Str), .row .int [8, 12, 6, 16, 3, 0] true]⟩ (bindO_e h (fun v1524 hc705 h => ?_))
  obtain ⟨i703, i704⟩ := v1524
  refine Wc [.own 1, .ro 0, .ro 3] rfl rfl rfl Tryz.func23 rfl (spec_reader_one_ok x1 k701 0 [8, 12, 6, 16, 3, 0] i703 i704 hc705) (aI (trivial) (aI (aI rfl rfl) (aI (aI rfl rfl) (trivial)))) rfl (Ws 1 [0, 1, 2] [3, 4, 5] ⟨[(3, pA 1 0), (4, .one (.e (.sl 2 0 (([] : List Str).length)))), (5, I i704)], [uR x1, .cells [.sl 0 0 k701, cI i703], sO ([] : List Str)]⟩ (Wnt ((W_block (W_loop (bindO_e h (fun v1494 hv1494 h => ?_)))))))
  refine WL_cut (spec_DrawRunSession_L1_ok w X θ x1 k701 v1494 n i703 ([] : List Str) i704 hv1494) ?_
  obtain ⟨i1157, x1158⟩ := v1494
  rintro _ _ ⟨rfl, rfl⟩
  refine blockS_y (thenS_n (W_seq (Wsr ((Wp 4 [0, 1, 2] [3, 4, 84] T3 ⟨[(3, pA 1 0), (4, sF 2 x1158), (84, B (decide (0 < (lI x1158))))], [uR x1, .cells [.sl 0 0 k701, cI i1157], sO x1158]⟩ t3 (bindO_e h (fun v1500 hv1500 h => ?_)))))))
  obtain ⟨i1498, b1499⟩ := v1500
  refine WO_thru ⟨[(3, pA 1 0), (4, sF 2 x1158), (88, B b1499)], [uR x1, .cells [.sl 0 0 k701, cI i1498], sO x1158]⟩ ?_ ?_
  ·refine iteO_e hv1500 (fun hb1501 hv1500 => WO_known 84 true rfl hb1501 ?_) (fun hb1501 hv1500 => WO_known 84 false rfl hb1501 ?_)
   ·refine Ws 1 [0, 1, 2] [3, 4, 84, 85] ⟨[(3, pA 1 0), (4, sF 2 x1158), (84, B true), (85, pA 1 0)], [uR x1, .cells [.sl 0 0 k701, cI i1157], sO x1158]⟩ (bindO_e hv1500 (fun i1502 hc1503 hv1500 => (Wc [.own 1, .ro 0] rfl rfl rfl Tryz.func25 rfl (spec_reader_pick_ok x1 k701 i1157 5 i1502 hc1503) (aI (trivial) (aI (aI rfl rfl) (trivial))) rfl (Wp 2 [0, 1, 2] [3, 4, 88] T2 ⟨[(3, pA 1 0), (4, sF 2 x1158), (88, B (decide (i1502 = 0)))], [uR x1, .cells [.sl 0 0 k701, cI (w64 (i1157 + 1))], sO x1158]⟩ t2 ?_))))
    cases hv1500
    exact WO_nil rfl ⟨rfl, rfl⟩
   ·refine Ws 4 [0, 1, 2] [3, 4, 88] ⟨[(3, pA 1 0), (4, sF 2 x1158), (88, B false)], [uR x1, .cells [.sl 0 0 k701, cI i1157], sO x1158]⟩ ?_
    cases hv1500
    exact WO_nil rfl ⟨rfl, rfl⟩
  ·refine thenS_n (bindO_e h (fun x1513 hx1513 h => (W_cut (Q' := fun (e : Exit) (s : St) => e = .normal ∧ s = ⟨[(4, sF 1 x1513)], [uR x1, sO x1513]⟩) ?_ ?_)))
   ·refine iteO_e hx1513 (fun hb1515 hx1513 => W_true rfl hb1515 ?_) (fun hb1515 hx1513 => W_false rfl hb1515 ?_)
    ·refine Wsr ((Wp 3 [0, 1, 2] [3, 4, 89, 91] T2 ⟨[(3, pA 1 0), (4, sF 2 x1158), (89, pA 1 0), (91, I (lI x1158))], [uR x1, .cells [.sl 0 0 k701, cI i1498], sO x1158]⟩ t2 (bindO_e hx1513 (fun i1516 hc1517 hx1513 => (Wc [.own 1, .ro 0] rfl rfl rfl Tryz.func25 rfl (spec_reader_pick_ok x1 k701 i1498 (lI x1158) i1516 hc1517) (aI (trivial) (aI (aI rfl rfl) (trivial))) rfl (Ws 1 [0, 1, 2] [3, 4, 8] ⟨[(3, pA 1 0), (4, sF 2 x1158), (8, I i1516)], [uR x1, .cells [.sl 0 0 k701, cI (w64 (i1498 + 1))], sO x1158]⟩ (Wnt ((W_region (guardO_e hx1513 (fun hg1518 hx1513 => (Wp 7 [0, 2, 1] [4, 93, 94, 95, 99] ((0 ≤ i1516 ∧ i1516 < (lI x1158)) ∧ T2) ⟨[(4, sF 1 x1158), (93, sF 1 x1158), (94, I i1516), (95, pA 2 0), (99, S (x1158.getD i1516.toNat []))], [uR x1, sO x1158, .cells [.sl 0 0 k701, cI (w64 (i1498 + 1))]]⟩ ⟨hg1518, trivial, trivial⟩ (bindO_e hx1513 (fun v1523 hc1521 hx1513 => ?_))))))))))))))
     obtain ⟨i1519, s1520⟩ := v1523
     refine Wc [.own 2, .ro 0] rfl rfl rfl Tryz.func28 rfl (spec_mutate_ok x1 k701 (w64 (i1498 + 1)) (x1158.getD i1516.toNat []) i1519 s1520 hc1521) (aI (trivial) (aI (aI rfl rfl) (trivial))) rfl (guardO_e hx1513 (fun hg1522 hx1513 => (Wp 2 [0, 1] [4] ((0 ≤ i1516 ∧ i1516 < (lI x1158)) ∧ T2) ⟨[(4, sF 1 x1158)], [uR x1, sO (x1158.set i1516.toNat s1520)]⟩ ⟨hg1522, trivial, trivial⟩ (WO_eq (st' := ⟨[(4, .one (.e (.sl 1 0 ((x1158.set i1516.toNat s1520).length))))], [uR x1, sO (x1158.set i1516.toNat s1520)]⟩) (by simp only [sF, List.length_set]) (WO_nil rfl ?_)))))
     cases hx1513
     exact aI rfl rfl
    ·refine Ww [0, 2] [4] ⟨[(4, sF 1 x1158)], [uR x1, sO x1158]⟩ (W_skip ?_)
     cases hx1513
     exact aI rfl rfl
   ·rintro _ _ ⟨rfl, rfl⟩
    refine thenS_n (Wsr ((Ws 2 [0, 1] [2] ⟨[(2, sF 1 x1513)], [uR x1, sO x1513]⟩ (Wnt ((W_ret ?_))))))
    cases h
    exact ⟨[0, 1], True, by kernel_rfl, trivial⟩

/- strings.Split -/
def lays146R : Shelf.Ren := ⟨fun n => match n with | 138 => 88 | 143 => 89 | 146 => 31 | 195 => 122 | 197 => 123 | 217 => 130 | 218 => 124 | 219 => 99 | 221 => 58 | 224 => 132 | 225 => 131 | 260 => 150 | 266 => 157 | 267 => 133 | 268 => 87 | 314 => 158 | _ => 0, fun n => match n with | 0 => 0 | 3 => 3 | 4 => 4 | 5 => 5 | 9 => 9 | 21 => 21 | 31 => 23 | 46 => 133 | 51 => 154 | 105 => 130 | 119 => 171 | 138 => 173 | 139 => 174 | 146 => 155 | _ => 0, fun n => match n with | 1 => 0 | 3 => 6 | 4 => 7 | _ => 0⟩
set_option maxRecDepth 100000 in
theorem lays146 : Lays.n146 Tryz.prog lays146R := {
  mixed := by kernel_rfl
  f138 := by kernel_rfl
  f143 := by kernel_rfl
  f146 := by kernel_rfl
  f195 := by kernel_rfl
  f197 := by kernel_rfl
  f217 := by kernel_rfl
  f218 := by kernel_rfl
  f219 := by kernel_rfl
  f221 := by kernel_rfl
  f224 := by kernel_rfl
  f225 := by kernel_rfl
  f260 := by kernel_rfl
  f266 := by kernel_rfl
  f267 := by kernel_rfl
  f268 := by kernel_rfl
  f314 := by kernel_rfl
  t0 := Tryz.underlying0
  a0 := Tryz.isAgg0
  z0 := Tryz.sizeOf0
  v0 := Tryz.zeroValue0
  t3 := Tryz.underlying3
  a3 := Tryz.isAgg3
  z3 := Tryz.sizeOf3
  v3 := Tryz.zeroValue3
  t4 := Tryz.underlying4
  a4 := Tryz.isAgg4
  z4 := Tryz.sizeOf4
  v4 := Tryz.zeroValue4
  t5 := Tryz.underlying5
  a5 := Tryz.isAgg5
  z5 := Tryz.sizeOf5
  v5 := Tryz.zeroValue5
  t9 := Tryz.underlying9
  a9 := Tryz.isAgg9
  z9 := Tryz.sizeOf9
  v9 := Tryz.zeroValue9
  t21 := Tryz.underlying21
  a21 := Tryz.isAgg21
  z21 := Tryz.sizeOf21
  v21 := Tryz.zeroValue21
  t31 := Tryz.underlying23
  a31 := Tryz.isAgg23
  z31 := Tryz.sizeOf23
  v31 := Tryz.zeroValue23
  t46 := Tryz.underlying133
  a46 := Tryz.isAgg133
  z46 := Tryz.sizeOf133
  v46 := Tryz.zeroValue133
  t51 := Tryz.underlying154
  a51 := Tryz.isAgg154
  z51 := Tryz.sizeOf154
  v51 := Tryz.zeroValue154
  t105 := Tryz.underlying130
  a105 := Tryz.isAgg130
  z105 := Tryz.sizeOf130
  v105 := Tryz.zeroValue130
  t119 := Tryz.underlying171
  a119 := Tryz.isAgg171
  z119 := Tryz.sizeOf171
  t138 := Tryz.underlying173
  a138 := Tryz.isAgg173
  z138 := Tryz.sizeOf173
  v138 := Tryz.zeroValue173
  t139 := Tryz.underlying174
  a139 := Tryz.isAgg174
  z139 := Tryz.sizeOf174
  v139 := Tryz.zeroValue174
  t146 := Tryz.underlying155
  a146 := Tryz.isAgg155
  z146 := Tryz.sizeOf155
  v146 := Tryz.zeroValue155
  g1 := by kernel_rfl
  g3 := by kernel_rfl
  g4 := by kernel_rfl }
def strings_Split (s1 s2 : Str) : Option (List Str) :=
 guardO (s1.length < 4294967281 ∧ 1 ≤ s2.length) <|
 some (Lib.split s1 s2)
theorem strings_Split_ok (s1 s2 : Str) (x4 : List Str) (h : strings_Split s1 s2 = some x4) : FOk EE 31 [S s1, S s2] [] (sF 0 x4) [sO x4] := by
  unfold strings_Split at h
  refine guardO_e h (fun hg h => ?_)
  cases h
  have he := Lib.splitB_data ⟨⟨s2⟩⟩ 0 (Lib.countB ⟨⟨s1⟩⟩ ⟨⟨s2⟩⟩) ⟨⟨s1⟩⟩
  have hall := Lib.splitB_all ⟨⟨s2⟩⟩ hg.2 0 _ ⟨⟨s1⟩⟩ rfl
  have hle := Lib.countB_le ⟨⟨s2⟩⟩ hg.2 s1.length ⟨⟨s1⟩⟩ (Nat.le_refl _)
  rw [show (⟨⟨s1⟩⟩ : ByteArray).size = s1.length from rfl] at hle
  refine FOk_splits (cap := Lib.countB ⟨⟨s1⟩⟩ ⟨⟨s2⟩⟩ + 1) (t := lays146R.t 9) he (by omega) (by unfold maxLen; omega) (args := [.str s1, .str s2]) (fun w hw => ?_)
  obtain ⟨m, hm⟩ := KK_max w hw
  have := Any.strings_Split lays146 (by kernel_rfl) ⟨⟨s1⟩⟩ ⟨⟨s2⟩⟩ m w hg.1 hm hg.2
  rw [← hall, Lib.cellsOf_full, hall]
  exact this

/- strconv.Atoi -/
def lays172R : Shelf.Ren := ⟨fun n => match n with | 129 => 162 | 171 => 48 | 172 => 39 | 205 => 136 | 243 => 75 | 244 => 66 | 245 => 67 | 246 => 113 | 247 => 100 | 279 => 101 | 280 => 102 | 281 => 103 | 282 => 104 | 283 => 137 | 284 => 138 | 285 => 139 | 286 => 140 | 287 => 134 | 316 => 135 | 317 => 161 | 318 => 163 | 319 => 164 | 320 => 165 | 321 => 159 | 322 => 160 | 337 => 171 | 338 => 172 | _ => 0, fun n => match n with | 0 => 0 | 2 => 2 | 3 => 3 | 4 => 4 | 5 => 5 | 9 => 9 | 20 => 20 | 21 => 21 | 37 => 22 | 46 => 133 | 51 => 154 | 53 => 134 | 75 => 55 | 76 => 56 | 80 => 60 | 85 => 113 | 127 => 88 | 143 => 158 | 145 => 160 | 167 => 112 | 168 => 115 | 171 => 140 | 173 => 143 | 175 => 135 | 210 => 138 | 212 => 162 | 213 => 163 | 232 => 177 | 233 => 178 | _ => 0, fun n => match n with | 15 => 1 | 16 => 2 | 17 => 4 | 18 => 8 | 19 => 9 | _ => 0⟩
set_option maxRecDepth 100000 in
theorem lays172 : LaysC.n172 Tryz.prog lays172R := {
  mixed := by kernel_rfl
  f129 := by kernel_rfl
  f171 := by kernel_rfl
  f172 := by kernel_rfl
  f205 := by kernel_rfl
  f243 := by kernel_rfl
  f244 := by kernel_rfl
  f245 := by kernel_rfl
  f246 := by kernel_rfl
  f247 := by kernel_rfl
  f279 := by kernel_rfl
  f280 := by kernel_rfl
  f281 := by kernel_rfl
  f282 := by kernel_rfl
  f283 := by kernel_rfl
  f284 := by kernel_rfl
  f285 := by kernel_rfl
  f286 := by kernel_rfl
  f287 := by kernel_rfl
  f316 := by kernel_rfl
  f317 := by kernel_rfl
  f318 := by kernel_rfl
  f319 := by kernel_rfl
  f320 := by kernel_rfl
  f321 := by kernel_rfl
  f322 := by kernel_rfl
  f337 := by kernel_rfl
  f338 := by kernel_rfl
  t0 := Tryz.underlying0
  a0 := Tryz.isAgg0
  z0 := Tryz.sizeOf0
  v0 := Tryz.zeroValue0
  t2 := Tryz.underlying2
  a2 := Tryz.isAgg2
  z2 := Tryz.sizeOf2
  v2 := Tryz.zeroValue2
  t3 := Tryz.underlying3
  a3 := Tryz.isAgg3
  z3 := Tryz.sizeOf3
  v3 := Tryz.zeroValue3
  t4 := Tryz.underlying4
  a4 := Tryz.isAgg4
  z4 := Tryz.sizeOf4
  v4 := Tryz.zeroValue4
  t5 := Tryz.underlying5
  a5 := Tryz.isAgg5
  z5 := Tryz.sizeOf5
  v5 := Tryz.zeroValue5
  t9 := Tryz.underlying9
  a9 := Tryz.isAgg9
  z9 := Tryz.sizeOf9
  v9 := Tryz.zeroValue9
  t20 := Tryz.underlying20
  a20 := Tryz.isAgg20
  z20 := Tryz.sizeOf20
  v20 := Tryz.zeroValue20
  t21 := Tryz.underlying21
  a21 := Tryz.isAgg21
  z21 := Tryz.sizeOf21
  v21 := Tryz.zeroValue21
  t37 := Tryz.underlying22
  a37 := Tryz.isAgg22
  z37 := Tryz.sizeOf22
  v37 := Tryz.zeroValue22
  t46 := Tryz.underlying133
  a46 := Tryz.isAgg133
  z46 := Tryz.sizeOf133
  v46 := Tryz.zeroValue133
  t51 := Tryz.underlying154
  a51 := Tryz.isAgg154
  z51 := Tryz.sizeOf154
  v51 := Tryz.zeroValue154
  t53 := Tryz.underlying134
  a53 := Tryz.isAgg134
  z53 := Tryz.sizeOf134
  v53 := Tryz.zeroValue134
  t75 := Tryz.underlying55
  a75 := Tryz.isAgg55
  z75 := Tryz.sizeOf55
  v75 := Tryz.zeroValue55
  t76 := Tryz.underlying56
  a76 := Tryz.isAgg56
  z76 := Tryz.sizeOf56
  v76 := Tryz.zeroValue56
  t85 := Tryz.underlying113
  a85 := Tryz.isAgg113
  z85 := Tryz.sizeOf113
  v85 := Tryz.zeroValue113
  t127 := Tryz.underlying88
  a127 := Tryz.isAgg88
  z127 := Tryz.sizeOf88
  v127 := Tryz.zeroValue88
  t143 := Tryz.underlying158
  a143 := Tryz.isAgg158
  z143 := Tryz.sizeOf158
  v143 := Tryz.zeroValue158
  t145 := Tryz.underlying160
  a145 := Tryz.isAgg160
  z145 := Tryz.sizeOf160
  v145 := Tryz.zeroValue160
  t167 := Tryz.underlying112
  a167 := Tryz.isAgg112
  z167 := Tryz.sizeOf112
  v167 := Tryz.zeroValue112
  t168 := Tryz.underlying115
  a168 := Tryz.isAgg115
  z168 := Tryz.sizeOf115
  v168 := Tryz.zeroValue115
  t171 := Tryz.underlying140
  a171 := Tryz.isAgg140
  z171 := Tryz.sizeOf140
  v171 := Tryz.zeroValue140
  t173 := Tryz.underlying143
  a173 := Tryz.isAgg143
  z173 := Tryz.sizeOf143
  v173 := Tryz.zeroValue143
  t175 := Tryz.underlying135
  a175 := Tryz.isAgg135
  z175 := Tryz.sizeOf135
  v175 := Tryz.zeroValue135
  t210 := Tryz.underlying138
  a210 := Tryz.isAgg138
  z210 := Tryz.sizeOf138
  v210 := Tryz.zeroValue138
  t212 := Tryz.underlying162
  a212 := Tryz.isAgg162
  z212 := Tryz.sizeOf162
  v212 := Tryz.zeroValue162
  t213 := Tryz.underlying163
  a213 := Tryz.isAgg163
  z213 := Tryz.sizeOf163
  t232 := Tryz.underlying177
  a232 := Tryz.isAgg177
  z232 := Tryz.sizeOf177
  v232 := Tryz.zeroValue177
  t233 := Tryz.underlying178
  a233 := Tryz.isAgg178
  z233 := Tryz.sizeOf178
  v233 := Tryz.zeroValue178
  g15 := by kernel_rfl
  g16 := by kernel_rfl
  g17 := by kernel_rfl
  g18 := by kernel_rfl
  g19 := by kernel_rfl
  t80 := Tryz.underlying60
  a80 := Tryz.isAgg60
  z80 := Tryz.sizeOf60
  v80 := Tryz.zeroValue60
  i0 := by kernel_rfl
  i2 := by kernel_rfl
  i3 := by kernel_rfl
  i4 := by kernel_rfl
  i5 := by kernel_rfl
  i9 := by kernel_rfl
  i20 := by kernel_rfl
  i21 := by kernel_rfl
  i37 := by kernel_rfl
  i46 := by kernel_rfl
  i51 := by kernel_rfl
  i53 := by kernel_rfl
  i75 := by kernel_rfl
  i76 := by kernel_rfl
  i80 := by kernel_rfl
  i85 := by kernel_rfl
  i127 := by kernel_rfl
  i143 := by kernel_rfl
  i145 := by kernel_rfl
  i167 := by kernel_rfl
  i168 := by kernel_rfl
  i171 := by kernel_rfl
  i173 := by kernel_rfl
  i175 := by kernel_rfl
  i210 := by kernel_rfl
  i212 := by kernel_rfl
  i232 := by kernel_rfl
  i233 := by kernel_rfl
  m15 := by kernel_rfl
  m16 := by kernel_rfl
  m17 := by kernel_rfl
  m18 := by kernel_rfl
  m19 := by kernel_rfl
  c0 := by kernel_rfl
  c2 := by kernel_rfl
  c3 := by kernel_rfl
  c4 := by kernel_rfl
  c5 := by kernel_rfl
  c9 := by kernel_rfl
  c20 := by kernel_rfl
  c21 := by kernel_rfl
  c37 := by kernel_rfl
  c46 := by kernel_rfl
  c51 := by kernel_rfl
  c53 := by kernel_rfl
  c75 := by kernel_rfl
  c76 := by kernel_rfl
  c80 := by kernel_rfl
  c85 := by kernel_rfl
  c127 := by kernel_rfl
  c143 := by kernel_rfl
  c145 := by kernel_rfl
  c167 := by kernel_rfl
  c168 := by kernel_rfl
  c171 := by kernel_rfl
  c173 := by kernel_rfl
  c175 := by kernel_rfl
  c210 := by kernel_rfl
  c212 := by kernel_rfl
  c213 := by kernel_rfl
  c232 := by kernel_rfl
  c233 := by kernel_rfl }
def strconv_Atoi (s1 : Str) : Option (Int × Bool) :=
 guardO (s1.length ≤ 281474976710656) <|
 match Lib.atoiAll s1 with
 | .ok v => some (v, false)
 | .range => some (Lib.atoiSat s1, true)
 | _ => some (0, true)
theorem strconv_Atoi_ok (s1 : Str) (i2 : Int) (b3 : Bool) (h : strconv_Atoi s1 = some (i2, b3)) : FOk EE 39 [S s1] [] (.tup [.e (cI i2), .e (.err b3)]) [] := by
  unfold strconv_Atoi at h
  refine guardO_e h (fun hg h => ?_)
  refine FOk_numErr (args := [.str s1]) (fun w hw => ?_)
  rcases ha : Lib.atoiAll s1 with v | _ | _
  · rw [ha] at h
    cases h
    refine (Any.strconv_Atoi_ok lays172 ⟨⟨s1⟩⟩ (Nat.le_trans hg (by decide)) i2 ha w).mono ?_
    rintro e w' ⟨rfl, hw'⟩
    refine ⟨⟨_, rfl, rfl⟩, ?_⟩
    rcases hw' with rfl | ⟨t, rfl⟩
    · exact RowKit.Below.refl _ _
    · exact Lib.bytesWorld_below _ _ _
  · rw [ha] at h
    cases h
    obtain ⟨ev, h1, h2⟩ := KK_syn w hw
    refine (Any.strconv_Atoi_syntax lays172 ⟨⟨s1⟩⟩ hg ha ev w h1 h2).mono ?_
    rintro e w' ⟨N, rfl, _, _, hb⟩
    exact ⟨⟨_, rfl, _, _, rfl⟩, hb⟩
  · rw [ha] at h
    cases h
    obtain ⟨ev, h1, h2⟩ := KK_rng w hw
    refine (Any.strconv_Atoi_range lays172 ⟨⟨s1⟩⟩ hg ha ev w h1 h2).mono ?_
    rintro e w' ⟨N, rfl, _, _, hb⟩
    exact ⟨⟨_, rfl, _, _, rfl⟩, hb⟩

/- strconv.Itoa -/
def lays171R : Shelf.Ren := ⟨fun n => match n with | 129 => 162 | 171 => 48 | 243 => 75 | 246 => 113 | 283 => 137 | 284 => 138 | 285 => 139 | 286 => 140 | 317 => 161 | 318 => 163 | 319 => 164 | 320 => 165 | 337 => 171 | 338 => 172 | _ => 0, fun n => match n with | 0 => 0 | 2 => 2 | 3 => 3 | 4 => 4 | 5 => 5 | 9 => 9 | 20 => 20 | 37 => 22 | 46 => 133 | 51 => 154 | 53 => 134 | 171 => 140 | 173 => 143 | 212 => 162 | 213 => 163 | 232 => 177 | 233 => 178 | _ => 0, fun n => match n with | 17 => 4 | 18 => 8 | 19 => 9 | _ => 0⟩
set_option maxRecDepth 100000 in
theorem lays171 : LaysM.n171 Tryz.prog lays171R := {
  mixed := by kernel_rfl
  f129 := by kernel_rfl
  f171 := by kernel_rfl
  f243 := by kernel_rfl
  f246 := by kernel_rfl
  f283 := by kernel_rfl
  f284 := by kernel_rfl
  f285 := by kernel_rfl
  f286 := by kernel_rfl
  f317 := by kernel_rfl
  f318 := by kernel_rfl
  f319 := by kernel_rfl
  f320 := by kernel_rfl
  f337 := by kernel_rfl
  f338 := by kernel_rfl
  t0 := Tryz.underlying0
  a0 := Tryz.isAgg0
  z0 := Tryz.sizeOf0
  v0 := Tryz.zeroValue0
  t2 := Tryz.underlying2
  a2 := Tryz.isAgg2
  z2 := Tryz.sizeOf2
  v2 := Tryz.zeroValue2
  t3 := Tryz.underlying3
  a3 := Tryz.isAgg3
  z3 := Tryz.sizeOf3
  v3 := Tryz.zeroValue3
  t4 := Tryz.underlying4
  a4 := Tryz.isAgg4
  z4 := Tryz.sizeOf4
  v4 := Tryz.zeroValue4
  t5 := Tryz.underlying5
  a5 := Tryz.isAgg5
  z5 := Tryz.sizeOf5
  v5 := Tryz.zeroValue5
  t9 := Tryz.underlying9
  a9 := Tryz.isAgg9
  z9 := Tryz.sizeOf9
  v9 := Tryz.zeroValue9
  t20 := Tryz.underlying20
  a20 := Tryz.isAgg20
  z20 := Tryz.sizeOf20
  v20 := Tryz.zeroValue20
  t37 := Tryz.underlying22
  a37 := Tryz.isAgg22
  z37 := Tryz.sizeOf22
  v37 := Tryz.zeroValue22
  t46 := Tryz.underlying133
  a46 := Tryz.isAgg133
  z46 := Tryz.sizeOf133
  v46 := Tryz.zeroValue133
  t51 := Tryz.underlying154
  a51 := Tryz.isAgg154
  z51 := Tryz.sizeOf154
  v51 := Tryz.zeroValue154
  t53 := Tryz.underlying134
  a53 := Tryz.isAgg134
  z53 := Tryz.sizeOf134
  v53 := Tryz.zeroValue134
  t171 := Tryz.underlying140
  a171 := Tryz.isAgg140
  z171 := Tryz.sizeOf140
  v171 := Tryz.zeroValue140
  t173 := Tryz.underlying143
  a173 := Tryz.isAgg143
  z173 := Tryz.sizeOf143
  v173 := Tryz.zeroValue143
  t212 := Tryz.underlying162
  a212 := Tryz.isAgg162
  z212 := Tryz.sizeOf162
  v212 := Tryz.zeroValue162
  t213 := Tryz.underlying163
  a213 := Tryz.isAgg163
  z213 := Tryz.sizeOf163
  t232 := Tryz.underlying177
  a232 := Tryz.isAgg177
  z232 := Tryz.sizeOf177
  v232 := Tryz.zeroValue177
  t233 := Tryz.underlying178
  a233 := Tryz.isAgg178
  z233 := Tryz.sizeOf178
  v233 := Tryz.zeroValue178
  g17 := by kernel_rfl
  g18 := by kernel_rfl
  g19 := by kernel_rfl
  i0 := by kernel_rfl
  i2 := by kernel_rfl
  i3 := by kernel_rfl
  i4 := by kernel_rfl
  i5 := by kernel_rfl
  i9 := by kernel_rfl
  i20 := by kernel_rfl
  i37 := by kernel_rfl
  i46 := by kernel_rfl
  i51 := by kernel_rfl
  i53 := by kernel_rfl
  i171 := by kernel_rfl
  i173 := by kernel_rfl
  i212 := by kernel_rfl
  i232 := by kernel_rfl
  i233 := by kernel_rfl
  m17 := by kernel_rfl
  m18 := by kernel_rfl
  m19 := by kernel_rfl }
def strconv_Itoa (i1 : Int) : Option Str :=
 guardO (-9223372036854775808 ≤ i1 ∧ i1 ≤ 9223372036854775807) <|
 some (Lib.itoa i1)
theorem strconv_Itoa_ok (i1 : Int) (s2 : Str) (h : strconv_Itoa i1 = some s2) : FOk EE 48 [I i1] [] (S s2) [] := by
  unfold strconv_Itoa at h
  refine guardO_e h (fun hg h => ?_)
  cases h
  refine FOk_kept (args := [.int .i64 i1]) (r := .str (Lib.itoa i1)) (fun w hw => ?_)
  refine (Any.strconv_Itoa lays171 i1 hg.1 hg.2 w (KK_tab w hw)).mono ?_
  rintro e w' ⟨rfl, k, os, rfl⟩
  exact ⟨rfl, Lib.below_grow _ w (Nat.le_refl _) k os⟩

/- impl.numberOf -/
def impl_numberOf (s1 : Str) : Option (Int × Bool) :=
 iteO (decide (5 < ((s1.length : Nat) : Int)))
 (some (0, false))
 (bindO (strconv_Atoi s1) fun (i22, b23) =>
 bindO (iteO b23
 (some true)
 (bindO (strconv_Itoa i22) fun s31 =>
 some (!decide (s31 = s1)))) fun b28 =>
 iteO b28
 (some (0, false))
 (some (i22, true)))

theorem impl_numberOf_ok (s1 : Str) (i18 : Int) (b19 : Bool) (h : impl_numberOf s1 = some (i18, b19)) : FOk EE 82 [S s1] [] (.tup [.e (cI i18), .e (cB b19)]) [] := by
  unfold impl_numberOf at h
  refine FOk_of_W 23 0 Tryz.func82 rfl rfl (Nat.le_of_ble_eq_true rfl) rfl (fun w X θ => ?_)
  refine Wsr ((Ws 2 [] [0] ⟨[(0, S s1)], []⟩ (Wnt ((W_seq (W_seq ?_))))))
  refine W_region (Wp 3 [] [0, 8] T3 ⟨[(0, S s1), (8, B (decide (5 < (lI s1))))], []⟩ t3 (Wnt ((iteO_e h (fun hb21 h => W_true rfl hb21 ?_) (fun hb21 h => W_false rfl hb21 ?_)))))
  ·refine Wsr ((Ws 2 [] [2, 3] ⟨[(2, I 0), (3, B false)], []⟩ (Wnt ((W_ret (thenS_r ?_))))))
   cases h
   exact ⟨[], True, by kernel_rfl, trivial⟩
  ·refine Ww [] [0] ⟨[(0, S s1)], []⟩ (W_skip (thenS_n (Wsr ((Ws 1 [] [0, 10] ⟨[(0, S s1), (10, S s1)], []⟩ (bindO_e h (fun v35 hc24 h => ?_)))))))
   obtain ⟨i22, b23⟩ := v35
   refine Wc [] rfl rfl rfl Tryz.func39 rfl (strconv_Atoi_ok s1 i22 b23 hc24) (trivial) rfl (Ws 5 [] [0, 4, 5] ⟨[(0, S s1), (4, I i22), (5, .one (.e (.err b23)))], []⟩ (Wnt ((W_seq (Wsr ((Wp 3 [] [0, 4, 16] T2 ⟨[(0, S s1), (4, I i22), (16, B b23)], []⟩ t2 (bindO_e h (fun b28 hv29 h => (WO_thru ⟨[(4, I i22), (21, B b28)], []⟩ ?_ ?_))))))))))
   ·refine iteO_e hv29 (fun hb30 hv29 => WO_known 16 true rfl hb30 ?_) (fun hb30 hv29 => WO_known 16 false rfl hb30 ?_)
    ·refine Ws 5 [] [4, 21] ⟨[(4, I i22), (21, B true)], []⟩ ?_
     cases hv29
     exact WO_nil rfl ⟨rfl, rfl⟩
    ·refine Ws 1 [] [0, 4, 16, 17] ⟨[(0, S s1), (4, I i22), (16, B false), (17, I i22)], []⟩ (bindO_e hv29 (fun s31 hc32 hv29 => (Wc [] rfl rfl rfl Tryz.func48 rfl (strconv_Itoa_ok i22 s31 hc32) (trivial) rfl (Wp 3 [] [4, 21] T2 ⟨[(4, I i22), (21, B (!decide (s31 = s1)))], []⟩ t2 ?_))))
     cases hv29
     exact WO_nil rfl ⟨rfl, rfl⟩
   ·refine thenS_n (iteO_e h (fun hb34 h => W_true rfl hb34 ?_) (fun hb34 h => W_false rfl hb34 ?_))
    ·refine Wsr ((Ws 2 [] [2, 3] ⟨[(2, I 0), (3, B false)], []⟩ (Wnt ((W_ret (thenS_r ?_))))))
     cases h
     exact ⟨[], True, by kernel_rfl, trivial⟩
    ·refine Ww [] [4] ⟨[(4, I i22)], []⟩ (W_skip (thenS_n (Wsr ((Ws 3 [] [2, 3] ⟨[(2, I i22), (3, B true)], []⟩ (Wnt ((W_ret ?_))))))))
     cases h
     exact ⟨[], True, by kernel_rfl, trivial⟩

/- impl.within -/
def impl_within (i1 : Int) (i2 : Int) (i3 : Int) : Bool :=
((decide (i2 ≤ i1)) && (decide (i1 ≤ i3)))

theorem impl_within_ok (i1 : Int) (i2 : Int) (i3 : Int) : FOk EE 49 [I i1, I i2, I i3] [] (B (impl_within i1 i2 i3)) [] := by
  refine FOk_of_W 15 0 Tryz.func49 rfl rfl (Nat.le_of_ble_eq_true rfl) rfl (fun w X θ => ?_)
  refine Wsr ((Ws 1 [] [0, 1, 2] ⟨[(0, I i1), (1, I i2), (2, I i3)], []⟩ (Wnt ((W_seq (W_region ?_))))))
  refine Wp 4 [] [0, 2, 10] T2 ⟨[(0, I i1), (2, I i3), (10, B (decide (i2 ≤ i1)))], []⟩ t2 (WO_thru ⟨[(6, B ((decide (i2 ≤ i1)) && (decide (i1 ≤ i3))))], []⟩ ?_ ?_)
  ·refine WO_if 10 rfl (fun hb10 => ?_) (fun hb10 => ?_)
   ·refine Wp 5 [] [6] T2 ⟨[(6, B (decide (i1 ≤ i3)))], []⟩ t2 ?_
    exact WO_nil rfl ⟨rfl, by first | rfl | (rw [hb10]; first | done | rfl)⟩
   ·refine Ws 5 [] [6] ⟨[(6, B false)], []⟩ ?_
    exact WO_nil rfl ⟨rfl, by first | rfl | (rw [hb10]; first | done | rfl)⟩
  ·refine thenS_n (W_ret ?_)
   exact ⟨[], True, by kernel_rfl, trivial⟩

/- impl.txnOf -/
def impl_txnOf (s1 : Str) : Option (Int × Bool) :=
 bindO (impl_numberOf s1) fun (i13, b14) =>
 iteO ((!b14) || (!(impl_within i13 0 3)))
 (some (0, false))
 (some (i13, true))

theorem impl_txnOf_ok (s1 : Str) (i11 : Int) (b12 : Bool) (h : impl_txnOf s1 = some (i11, b12)) : FOk EE 77 [S s1] [] (.tup [.e (cI i11), .e (cB b12)]) [] := by
  unfold impl_txnOf at h
  refine FOk_of_W 19 0 Tryz.func77 rfl rfl (Nat.le_of_ble_eq_true rfl) rfl (fun w X θ => ?_)
  refine Wsr ((Ws 2 [] [0] ⟨[(0, S s1)], []⟩ (Wnt ((W_seq (W_region ?_))))))
  refine Ws 1 [] [7] ⟨[(7, S s1)], []⟩ (bindO_e h (fun v21 hc15 h => ?_))
  obtain ⟨i13, b14⟩ := v21
  refine Wc [] rfl rfl rfl Tryz.func82 rfl (impl_numberOf_ok s1 i13 b14 hc15) (trivial) rfl (Ws 5 [] [4, 5] ⟨[(4, I i13), (5, B b14)], []⟩ (Wnt ((W_seq (W_seq (W_region ?_))))))
  refine Ws 3 [] [4, 13] ⟨[(4, I i13), (13, B (!b14))], []⟩ (WO_thru ⟨[(4, I i13), (17, B ((!b14) || (!(impl_within i13 0 3))))], []⟩ ?_ ?_)
  ·refine WO_if 13 rfl (fun hb18 => ?_) (fun hb18 => ?_)
   ·refine Ws 4 [] [4, 17] ⟨[(4, I i13), (17, B true)], []⟩ ?_
    exact WO_nil rfl ⟨rfl, by first | rfl | (rw [hb18]; first | done | rfl)⟩
   ·refine Ws 1 [] [4, 13, 14] ⟨[(4, I i13), (13, B false), (14, I i13)], []⟩ (Wc [] rfl rfl rfl Tryz.func49 rfl (impl_within_ok i13 0 3) (trivial) rfl (Ws 2 [] [4, 17] ⟨[(4, I i13), (17, B (!(impl_within i13 0 3)))], []⟩ ?_))
    exact WO_nil rfl ⟨rfl, by first | rfl | (rw [hb18]; first | done | rfl)⟩
  ·refine thenS_n (iteO_e h (fun hb20 h => W_true rfl hb20 ?_) (fun hb20 h => W_false rfl hb20 ?_))
   ·refine Wsr ((Ws 2 [] [2, 3] ⟨[(2, I 0), (3, B false)], []⟩ (Wnt ((W_ret (thenS_r ?_))))))
    cases h
    exact ⟨[], True, by kernel_rfl, trivial⟩
   ·refine Ww [] [4] ⟨[(4, I i13)], []⟩ (W_skip (thenS_n (Wsr ((Ws 3 [] [2, 3] ⟨[(2, I i13), (3, B true)], []⟩ (Wnt ((W_ret ?_))))))))
    cases h
    exact ⟨[], True, by kernel_rfl, trivial⟩

/- impl.isName -/
def impl_isName_L1 (s1 : Str) : Nat → Int → Option ((Unit) ⊕ (Unit))
| 0, _ => none
| n + 1, i96 =>
 iteO (decide (i96 < ((s1.length : Nat) : Int)))
 (guardO (0 ≤ i96 ∧ i96 < ((s1.length : Nat) : Int)) <|
 bindO (iteO (decide (((s1.getD i96.toNat 0).toNat : Int) < 97))
 (some true)
 (guardO (0 ≤ i96 ∧ i96 < ((s1.length : Nat) : Int)) <|
 some (decide (122 < ((s1.getD i96.toNat 0).toNat : Int))))) fun b133 =>
 iteO b133
 (some (.inl ()))
 (impl_isName_L1 s1 n (w64 (i96 + 1))))
 (some (.inr ()))

theorem impl_isName_L1_ok (w : World) (X : Nat → Prop) (θ : List Loc) (s1 : Str) (v : (Unit) ⊕ (Unit)) : ∀ (n : Nat) (i96 : Int), impl_isName_L1 s1 n i96 = some v → WL EE ⟨w, X, θ, 24, 0⟩ (subC [1, 1, 0, 1, 4, 4] (bodyC Tryz.f50)) (fun (e : Exit) (s : St) => (match v with | (.inl _) => e = .ret ∧ s = ⟨[(2, B false)], []⟩ | (.inr _) => e = .exit 0 ∧ s = ⟨[], []⟩ : Prop)) ⟨[(0, S s1), (9, I ((s1.length : Nat) : Int)), (10, I i96)], []⟩ := by
  intro n
  induction n with
  | zero => intro _ h; exact none_e h
  | succ n ih =>
    intro i96 h
    rw [impl_isName_L1] at h
    refine WL_round ?_
    refine Wsr ((Wp 1 [] [0, 9, 10, 11] T2 ⟨[(0, S s1), (9, I (lI s1)), (10, I i96), (11, B (decide (i96 < (lI s1))))], []⟩ t2 (Wnt ((W_seq (iteO_e h (fun hb120 h => W_true rfl hb120 ?_) (fun hb120 h => W_false rfl hb120 ?_)))))))
    ·refine Ww [] [0, 9, 10] ⟨[(0, S s1), (9, I (lI s1)), (10, I i96)], []⟩ (W_skip (thenS_n (W_seq (W_block (Wsr ((Ws 2 [] [0, 3, 9, 10] ⟨[(0, S s1), (3, I i96), (9, I (lI s1)), (10, I i96)], []⟩ (Wnt ((Wsr ((guardO_e h (fun hg130 h => (Wp 5 [] [0, 3, 9, 10, 17] ((0 ≤ i96 ∧ i96 < (lI s1)) ∧ T2) ⟨[(0, S s1), (3, I i96), (9, I (lI s1)), (10, I i96), (17, B (decide (((s1.getD i96.toNat 0).toNat : Int) < 97)))], []⟩ ⟨hg130, trivial, trivial⟩ (bindO_e h (fun b133 hv134 h => (WO_thru ⟨[(0, S s1), (9, I (lI s1)), (10, I i96), (22, B b133)], []⟩ ?_ ?_)))))))))))))))))
     ·refine iteO_e hv134 (fun hb135 hv134 => WO_known 17 true rfl hb135 ?_) (fun hb135 hv134 => WO_known 17 false rfl hb135 ?_)
      ·refine Ws 5 [] [0, 9, 10, 22] ⟨[(0, S s1), (9, I (lI s1)), (10, I i96), (22, B true)], []⟩ ?_
       cases hv134
       exact WO_nil rfl ⟨rfl, rfl⟩
      ·refine guardO_e hv134 (fun hg136 hv134 => (Wp 5 [] [0, 9, 10, 22] ((0 ≤ i96 ∧ i96 < (lI s1)) ∧ T2) ⟨[(0, S s1), (9, I (lI s1)), (10, I i96), (22, B (decide (122 < ((s1.getD i96.toNat 0).toNat : Int))))], []⟩ ⟨hg136, trivial, trivial⟩ ?_))
       cases hv134
       exact WO_nil rfl ⟨rfl, rfl⟩
     ·refine thenS_n (iteO_e h (fun hb138 h => W_true rfl hb138 ?_) (fun hb138 h => W_false rfl hb138 ?_))
      ·refine Wsr ((Ws 1 [] [2] ⟨[(2, B false)], []⟩ (Wnt ((W_ret (blockS_r (thenS_r (thenS_r ?_))))))))
       cases h
       exact aI rfl rfl
      ·refine Ww [] [0, 9, 10] ⟨[(0, S s1), (9, I (lI s1)), (10, I i96)], []⟩ (W_skip (blockS_n (thenS_n (W_region (Wp 2 [] [0, 9, 10] T2 ⟨[(0, S s1), (9, I (lI s1)), (10, I (w64 (i96 + 1)))], []⟩ t2 (Wnt (?_)))))))
       exact ih _ h
    ·refine Ww [] [] ⟨[], []⟩ (W_exit (thenS_e (thenS_e ?_)))
     cases h
     exact aI rfl rfl

def impl_isName (n : Nat) (s1 : Str) : Option (Bool) :=
 iteO (!(impl_within ((s1.length : Nat) : Int) 1 4))
 (some false)
 (bindO (impl_isName_L1 s1 n 0) fun v139 =>
 match v139 with
 | (.inl _) => (some false)
 | (.inr _) => (some true)
)

theorem impl_isName_ok (n : Nat) (s1 : Str) (b70 : Bool) (h : impl_isName n s1 = some b70) : FOk EE 50 [S s1] [] (B b70) [] := by
  unfold impl_isName at h
  refine FOk_of_W 24 0 Tryz.func50 rfl rfl (Nat.le_of_ble_eq_true rfl) rfl (fun w X θ => ?_)
  refine Wsr ((Ws 1 [] [0] ⟨[(0, S s1)], []⟩ (Wnt ((W_seq (W_seq ?_))))))
  refine W_region (Wp 2 [] [0, 5] T2 ⟨[(0, S s1), (5, I (lI s1))], []⟩ t2 (Wc [] rfl rfl rfl Tryz.func49 rfl (impl_within_ok (lI s1) 1 4) (trivial) rfl (Ws 1 [] [0, 7] ⟨[(0, S s1), (7, B (!(impl_within (lI s1) 1 4)))], []⟩ (Wnt ((iteO_e h (fun hb72 h => W_true rfl hb72 ?_) (fun hb72 h => W_false rfl hb72 ?_)))))))
  ·refine Wsr ((Ws 1 [] [2] ⟨[(2, B false)], []⟩ (Wnt ((W_ret (thenS_r ?_))))))
   cases h
   exact ⟨[], True, by kernel_rfl, trivial⟩
  ·refine Ww [] [0] ⟨[(0, S s1)], []⟩ (W_skip (thenS_n (W_seq (Wsr ((Wp 3 [] [0, 9, 10] T2 ⟨[(0, S s1), (9, I (lI s1)), (10, I 0)], []⟩ t2 (Wnt ((W_block (W_loop (bindO_e h (fun v139 hv139 h => (WL_cut (impl_isName_L1_ok w X θ s1 v139 n 0 hv139) ?_)))))))))))))
   rcases v139 with _ | _
   ·rintro _ _ ⟨rfl, rfl⟩
    refine blockS_r (thenS_r ?_)
    cases h
    exact ⟨[], True, by kernel_rfl, trivial⟩
   ·rintro _ _ ⟨rfl, rfl⟩
    refine blockS_y (thenS_n (Wsr ((Ws 1 [] [2] ⟨[(2, B true)], []⟩ (Wnt ((W_ret ?_)))))))
    cases h
    exact ⟨[], True, by kernel_rfl, trivial⟩

/- impl.kidIn -/
def impl_kidIn_L1 (i2 : Int) (s3 : Str) (x1 : List Nod) : Nat → Int → Option ((Int) ⊕ (Unit))
| 0, _ => none
| n + 1, i73 =>
 iteO (decide (i73 < ((x1.length : Nat) : Int)))
 (guardO (0 ≤ i73 ∧ i73 < ((x1.length : Nat) : Int)) <|
 iteO ((decide (((x1.getD i73.toNat dnod).parent) = i2)) && (decide (((x1.getD i73.toNat dnod).name) = s3)))
 (some (.inl i73))
 (impl_kidIn_L1 i2 s3 x1 n (w64 (i73 + 1))))
 (some (.inr ()))

theorem impl_kidIn_L1_ok (w : World) (X : Nat → Prop) (θ : List Loc) (i2 : Int) (s3 : Str) (x1 : List Nod) (v : (Int) ⊕ (Unit)) : ∀ (n : Nat) (i73 : Int), impl_kidIn_L1 i2 s3 x1 n i73 = some v → WL EE ⟨w, X, θ, 28, 1⟩ (subC [1, 0, 1, 4, 4] (bodyC Tryz.f51)) (fun (e : Exit) (s : St) => (match v with | (.inl i89) => e = .ret ∧ s = ⟨[(6, I i89)], [nR x1]⟩ | (.inr _) => e = .exit 0 ∧ s = ⟨[], [nR x1]⟩ : Prop)) ⟨[(1, I i2), (2, S s3), (9, sF 0 x1), (10, I ((x1.length : Nat) : Int)), (11, I i73)], [nR x1]⟩ := by
  intro n
  induction n with
  | zero => intro _ h; exact none_e h
  | succ n ih =>
    intro i73 h
    rw [impl_kidIn_L1] at h
    refine WL_round ?_
    refine Wsr ((Wp 1 [0] [1, 2, 9, 10, 11, 12] T2 ⟨[(1, I i2), (2, S s3), (9, sF 0 x1), (10, I (lI x1)), (11, I i73), (12, B (decide (i73 < (lI x1))))], [nR x1]⟩ t2 (Wnt ((W_seq (iteO_e h (fun hb92 h => W_true rfl hb92 ?_) (fun hb92 h => W_false rfl hb92 ?_)))))))
    ·refine Ww [0] [1, 2, 9, 10, 11] ⟨[(1, I i2), (2, S s3), (9, sF 0 x1), (10, I (lI x1)), (11, I i73)], [nR x1]⟩ (W_skip (thenS_n (W_seq (W_block (Wsr ((guardO_e h (fun hg99 h => (Wp 6 [0, 1] [1, 2, 7, 8, 9, 10, 11] ((0 ≤ i73 ∧ i73 < (lI x1)) ∧ T4) ⟨[(1, I i2), (2, S s3), (7, I i73), (8, pA 1 0), (9, sF 0 x1), (10, I (lI x1)), (11, I i73)], [nR x1, .cells [cI ((x1.getD i73.toNat dnod).parent), cS ((x1.getD i73.toNat dnod).name), cI ((x1.getD i73.toNat dnod).value)]]⟩ ⟨hg99, trivial, trivial, trivial, trivial⟩ (Wnt ((Wsr ((Wp 5 [0, 1] [1, 2, 7, 8, 9, 10, 11, 20] T3 ⟨[(1, I i2), (2, S s3), (7, I i73), (8, pA 1 0), (9, sF 0 x1), (10, I (lI x1)), (11, I i73), (20, B (decide (((x1.getD i73.toNat dnod).parent) = i2)))], [nR x1, .cells [cI ((x1.getD i73.toNat dnod).parent), cS ((x1.getD i73.toNat dnod).name), cI ((x1.getD i73.toNat dnod).value)]]⟩ t3 (WO_thru ⟨[(1, I i2), (2, S s3), (7, I i73), (9, sF 0 x1), (10, I (lI x1)), (11, I i73), (25, B ((decide (((x1.getD i73.toNat dnod).parent) = i2)) && (decide (((x1.getD i73.toNat dnod).name) = s3))))], [nR x1]⟩ ?_ ?_)))))))))))))))
     ·refine WO_if 20 rfl (fun hb102 => ?_) (fun hb102 => ?_)
      ·refine Wp 5 [0] [1, 2, 7, 9, 10, 11, 25] T3 ⟨[(1, I i2), (2, S s3), (7, I i73), (9, sF 0 x1), (10, I (lI x1)), (11, I i73), (25, B (decide (((x1.getD i73.toNat dnod).name) = s3)))], [nR x1]⟩ t3 ?_
       exact WO_nil rfl ⟨rfl, by first | rfl | (rw [hb102]; first | done | rfl)⟩
      ·refine Ws 5 [0] [1, 2, 7, 9, 10, 11, 25] ⟨[(1, I i2), (2, S s3), (7, I i73), (9, sF 0 x1), (10, I (lI x1)), (11, I i73), (25, B false)], [nR x1]⟩ ?_
       exact WO_nil rfl ⟨rfl, by first | rfl | (rw [hb102]; first | done | rfl)⟩
     ·refine thenS_n (iteO_e h (fun hb104 h => W_true rfl hb104 ?_) (fun hb104 h => W_false rfl hb104 ?_))
      ·refine Wsr ((Ws 2 [0] [6] ⟨[(6, I i73)], [nR x1]⟩ (Wnt ((W_ret (blockS_r (thenS_r (thenS_r ?_))))))))
       cases h
       exact aI rfl rfl
      ·refine Ww [0] [1, 2, 9, 10, 11] ⟨[(1, I i2), (2, S s3), (9, sF 0 x1), (10, I (lI x1)), (11, I i73)], [nR x1]⟩ (W_skip (blockS_n (thenS_n (W_region (Wp 2 [0] [1, 2, 9, 10, 11] T2 ⟨[(1, I i2), (2, S s3), (9, sF 0 x1), (10, I (lI x1)), (11, I (w64 (i73 + 1)))], [nR x1]⟩ t2 (Wnt (?_)))))))
       exact ih _ h
    ·refine Ww [0] [] ⟨[], [nR x1]⟩ (W_exit (thenS_e (thenS_e ?_)))
     cases h
     exact aI rfl rfl

def impl_kidIn (n : Nat) (x1 : List Nod) (i2 : Int) (s3 : Str) : Option (Int) :=
 bindO (impl_kidIn_L1 i2 s3 x1 n 0) fun v105 =>
 match v105 with
 | (.inl i89) => (some i89)
 | (.inr _) => (some (-1))


theorem impl_kidIn_ok (n : Nat) (x1 : List Nod) (i2 : Int) (s3 : Str) (i54 : Int) (h : impl_kidIn n x1 i2 s3 = some i54) : FOk EE 51 [sF 0 x1, I i2, S s3] [nR x1] (I i54) [nR x1] := by
  unfold impl_kidIn at h
  refine FOk_of_W 28 1 Tryz.func51 rfl rfl (Nat.le_of_ble_eq_true rfl) rfl (fun w X θ => ?_)
  refine Wsr ((Ws 1 [0] [0, 1, 2] ⟨[(0, sF 0 x1), (1, I i2), (2, S s3)], [nR x1]⟩ (Wnt ((W_seq (W_seq ?_))))))
  refine W_region (Wp 3 [0] [1, 2, 9, 10, 11] T2 ⟨[(1, I i2), (2, S s3), (9, sF 0 x1), (10, I (lI x1)), (11, I 0)], [nR x1]⟩ t2 (Wnt ((W_block (W_loop (bindO_e h (fun v105 hv105 h => ?_)))))))
  refine WL_cut (impl_kidIn_L1_ok w X θ i2 s3 x1 v105 n 0 hv105) ?_
  rcases v105 with i89 | _
  ·rintro _ _ ⟨rfl, rfl⟩
   refine blockS_r (thenS_r ?_)
   cases h
   exact ⟨[0], True, by kernel_rfl, trivial⟩
  ·rintro _ _ ⟨rfl, rfl⟩
   refine blockS_y (thenS_n (Wsr ((Ws 1 [0] [6] ⟨[(6, I (-1))], [nR x1]⟩ (Wnt ((W_ret ?_)))))))
   cases h
   exact ⟨[0], True, by kernel_rfl, trivial⟩

/- impl.ValidTree -/
def impl_ValidTree_L1 (x1 : List Nod) : Nat → (List Int) → Int → Option ((Unit) ⊕ (Unit))
| 0, _, _ => none
| n + 1, x164, i165 =>
 iteO (decide (i165 < ((x1.length : Nat) : Int)))
 (bindO (guardO (0 ≤ i165 ∧ i165 < ((x1.length : Nat) : Int)) <|
 iteO (!(impl_within ((x1.getD i165.toNat dnod).value) (-1000) 1000))
 (some (.inl ()))
 (iteO (decide (i165 = 0))
 (some (.inr x164))
 (bindO (iteO (!(impl_within ((x1.getD i165.toNat dnod).parent) 0 (w64 (i165 - 1))))
 (some true)
 (bindO (impl_isName n ((x1.getD i165.toNat dnod).name)) fun b238 =>
 some (!b238))) fun b235 =>
 iteO b235
 (some (.inl ()))
 (guardO (0 ≤ i165 ∧ i165 ≤ ((x1.length : Nat) : Int)) <|
 bindO (impl_kidIn n ((x1.drop 0).take i165.toNat) ((x1.getD i165.toNat dnod).parent) ((x1.getD i165.toNat dnod).name)) fun i243 =>
 iteO (decide (0 ≤ i243))
 (some (.inl ()))
 (guardO (0 ≤ (x1.getD i165.toNat dnod).parent ∧ (x1.getD i165.toNat dnod).parent < ((x164.length : Nat) : Int)) <|
 guardO (0 ≤ i165 ∧ i165 < ((x164.length : Nat) : Int)) <|
 guardO (0 ≤ i165 ∧ i165 < (((x164.set i165.toNat (w64 ((x164.getD (((x1.getD i165.toNat dnod).parent).toNat) 0) + 1))).length : Nat) : Int)) <|
 iteO (decide (4 < ((x164.set i165.toNat (w64 ((x164.getD (((x1.getD i165.toNat dnod).parent).toNat) 0) + 1))).getD i165.toNat 0)))
 (some (.inl ()))
 (some (.inr (x164.set i165.toNat (w64 ((x164.getD (((x1.getD i165.toNat dnod).parent).toNat) 0) + 1))))))))) : Option ((Unit) ⊕ ((List Int)))) fun v226 =>
 match v226 with
 | (.inl _) => (some (.inl ()))
 | (.inr x225) => (impl_ValidTree_L1 x1 n x225 (w64 (i165 + 1)))
)
 (some (.inr ()))

theorem impl_ValidTree_L1_ok (w : World) (X : Nat → Prop) (θ : List Loc) (x1 : List Nod) (v : (Unit) ⊕ (Unit)) : ∀ (n : Nat) (x164 : List Int) (i165 : Int), impl_ValidTree_L1 x1 n x164 i165 = some v → WL EE ⟨w, X, θ, 78, 1⟩ (subC [1, 1, 1, 1, 0, 1, 4, 4] (bodyC Tryz.f18)) (fun (e : Exit) (s : St) => (match v with | (.inl _) => e = .ret ∧ s = ⟨[(2, B false)], [nR x1]⟩ | (.inr _) => e = .exit 0 ∧ s = ⟨[], [nR x1]⟩ : Prop)) ⟨[(0, sF 0 x1), (3, sF 1 x164), (29, sF 0 x1), (30, I ((x1.length : Nat) : Int)), (31, I i165)], [nR x1, iO x164]⟩ := by
  intro n
  induction n with
  | zero => intro _ _ h; exact none_e h
  | succ n ih =>
    intro x164 i165 h
    rw [impl_ValidTree_L1] at h
    refine WL_round ?_
    refine Wsr ((Wp 1 [0, 1] [0, 3, 29, 30, 31, 32] T2 ⟨[(0, sF 0 x1), (3, sF 1 x164), (29, sF 0 x1), (30, I (lI x1)), (31, I i165), (32, B (decide (i165 < (lI x1))))], [nR x1, iO x164]⟩ t2 (Wnt ((W_seq (iteO_e h (fun hb199 h => W_true rfl hb199 ?_) (fun hb199 h => W_false rfl hb199 ?_)))))))
    ·refine Ww [0, 1] [0, 3, 29, 30, 31] ⟨[(0, sF 0 x1), (3, sF 1 x164), (29, sF 0 x1), (30, I (lI x1)), (31, I i165)], [nR x1, iO x164]⟩ (W_skip (thenS_n (W_seq (bindO_e h (fun v226 hv226 h => (W_cut (Q' := fun (e : Exit) (s : St) => (match v226 with | (.inl _) => e = .ret ∧ s = ⟨[(2, B false)], [nR x1]⟩ | (.inr x225) => e = .normal ∧ s = ⟨[(0, sF 0 x1), (3, sF 1 x225), (29, sF 0 x1), (30, I (lI x1)), (31, I i165)], [nR x1, iO x225]⟩ : Prop)) ?_ ?_))))))
     ·refine W_block (Wsr ((guardO_e hv226 (fun hg227 hv226 => (Wp 6 [0, 1, 2] [0, 3, 4, 5, 29, 30, 31] ((0 ≤ i165 ∧ i165 < (lI x1)) ∧ T4) ⟨[(0, sF 0 x1), (3, sF 1 x164), (4, I i165), (5, pA 2 0), (29, sF 0 x1), (30, I (lI x1)), (31, I i165)], [nR x1, iO x164, .cells [cI ((x1.getD i165.toNat dnod).parent), cS ((x1.getD i165.toNat dnod).name), cI ((x1.getD i165.toNat dnod).value)]]⟩ ⟨hg227, trivial, trivial, trivial, trivial⟩ (Wnt ((W_seq (Wsr ((Wp 2 [0, 1, 2] [0, 3, 4, 5, 29, 30, 31, 37] T2 ⟨[(0, sF 0 x1), (3, sF 1 x164), (4, I i165), (5, pA 2 0), (29, sF 0 x1), (30, I (lI x1)), (31, I i165), (37, I ((x1.getD i165.toNat dnod).value))], [nR x1, iO x164, .cells [cI ((x1.getD i165.toNat dnod).parent), cS ((x1.getD i165.toNat dnod).name), cI ((x1.getD i165.toNat dnod).value)]]⟩ t2 (Wc [] rfl rfl rfl Tryz.func49 rfl (impl_within_ok ((x1.getD i165.toNat dnod).value) (-1000) 1000) (trivial) rfl (Ws 1 [0, 1, 2] [0, 3, 4, 5, 29, 30, 31, 39] ⟨[(0, sF 0 x1), (3, sF 1 x164), (4, I i165), (5, pA 2 0), (29, sF 0 x1), (30, I (lI x1)), (31, I i165), (39, B (!(impl_within ((x1.getD i165.toNat dnod).value) (-1000) 1000)))], [nR x1, iO x164, .cells [cI ((x1.getD i165.toNat dnod).parent), cS ((x1.getD i165.toNat dnod).name), cI ((x1.getD i165.toNat dnod).value)]]⟩ (Wnt ((iteO_e hv226 (fun hb229 hv226 => W_true rfl hb229 ?_) (fun hb229 hv226 => W_false rfl hb229 ?_)))))))))))))))))
      ·refine Wsr ((Ws 1 [0] [2] ⟨[(2, B false)], [nR x1]⟩ (Wnt ((W_ret (thenS_r (blockS_r ?_)))))))
       cases hv226
       exact aI rfl rfl
      ·refine Ww [0, 1, 2] [0, 3, 4, 5, 29, 30, 31] ⟨[(0, sF 0 x1), (3, sF 1 x164), (4, I i165), (5, pA 2 0), (29, sF 0 x1), (30, I (lI x1)), (31, I i165)], [nR x1, iO x164, .cells [cI ((x1.getD i165.toNat dnod).parent), cS ((x1.getD i165.toNat dnod).name), cI ((x1.getD i165.toNat dnod).value)]]⟩ (W_skip (thenS_n (W_seq (Wsr ((Wp 2 [0, 1, 2] [0, 3, 4, 5, 29, 30, 31, 41] T2 ⟨[(0, sF 0 x1), (3, sF 1 x164), (4, I i165), (5, pA 2 0), (29, sF 0 x1), (30, I (lI x1)), (31, I i165), (41, B (decide (i165 = 0)))], [nR x1, iO x164, .cells [cI ((x1.getD i165.toNat dnod).parent), cS ((x1.getD i165.toNat dnod).name), cI ((x1.getD i165.toNat dnod).value)]]⟩ t2 (Wnt ((iteO_e hv226 (fun hb231 hv226 => W_true rfl hb231 ?_) (fun hb231 hv226 => W_false rfl hb231 ?_))))))))))
       ·refine Ww [0, 1] [0, 3, 29, 30, 31] ⟨[(0, sF 0 x1), (3, sF 1 x164), (29, sF 0 x1), (30, I (lI x1)), (31, I i165)], [nR x1, iO x164]⟩ (W_exit (thenS_e (blockS_y ?_)))
        cases hv226
        exact aI rfl rfl
       ·refine Ww [0, 1, 2] [0, 3, 4, 5, 29, 30, 31] ⟨[(0, sF 0 x1), (3, sF 1 x164), (4, I i165), (5, pA 2 0), (29, sF 0 x1), (30, I (lI x1)), (31, I i165)], [nR x1, iO x164, .cells [cI ((x1.getD i165.toNat dnod).parent), cS ((x1.getD i165.toNat dnod).name), cI ((x1.getD i165.toNat dnod).value)]]⟩ (W_skip (thenS_n (W_seq (Wsr ((Wp 4 [0, 1, 2] [0, 3, 4, 5, 29, 30, 31, 43, 45] T3 ⟨[(0, sF 0 x1), (3, sF 1 x164), (4, I i165), (5, pA 2 0), (29, sF 0 x1), (30, I (lI x1)), (31, I i165), (43, I ((x1.getD i165.toNat dnod).parent)), (45, I (w64 (i165 - 1)))], [nR x1, iO x164, .cells [cI ((x1.getD i165.toNat dnod).parent), cS ((x1.getD i165.toNat dnod).name), cI ((x1.getD i165.toNat dnod).value)]]⟩ t3 (Wc [] rfl rfl rfl Tryz.func49 rfl (impl_within_ok ((x1.getD i165.toNat dnod).parent) 0 (w64 (i165 - 1))) (trivial) rfl (Ws 2 [0, 1, 2] [0, 3, 4, 5, 29, 30, 31, 48] ⟨[(0, sF 0 x1), (3, sF 1 x164), (4, I i165), (5, pA 2 0), (29, sF 0 x1), (30, I (lI x1)), (31, I i165), (48, B (!(impl_within ((x1.getD i165.toNat dnod).parent) 0 (w64 (i165 - 1)))))], [nR x1, iO x164, .cells [cI ((x1.getD i165.toNat dnod).parent), cS ((x1.getD i165.toNat dnod).name), cI ((x1.getD i165.toNat dnod).value)]]⟩ (bindO_e hv226 (fun b235 hv236 hv226 => (WO_thru ⟨[(0, sF 0 x1), (3, sF 1 x164), (4, I i165), (5, pA 2 0), (29, sF 0 x1), (30, I (lI x1)), (31, I i165), (53, B b235)], [nR x1, iO x164, .cells [cI ((x1.getD i165.toNat dnod).parent), cS ((x1.getD i165.toNat dnod).name), cI ((x1.getD i165.toNat dnod).value)]]⟩ ?_ ?_)))))))))))
        ·refine iteO_e hv236 (fun hb237 hv236 => WO_known 48 true rfl hb237 ?_) (fun hb237 hv236 => WO_known 48 false rfl hb237 ?_)
         ·refine Ws 5 [0, 1, 2] [0, 3, 4, 5, 29, 30, 31, 53] ⟨[(0, sF 0 x1), (3, sF 1 x164), (4, I i165), (5, pA 2 0), (29, sF 0 x1), (30, I (lI x1)), (31, I i165), (53, B true)], [nR x1, iO x164, .cells [cI ((x1.getD i165.toNat dnod).parent), cS ((x1.getD i165.toNat dnod).name), cI ((x1.getD i165.toNat dnod).value)]]⟩ ?_
          cases hv236
          exact WO_nil rfl ⟨rfl, rfl⟩
         ·refine Wp 2 [0, 1, 2] [0, 3, 4, 5, 29, 30, 31, 48, 50] T2 ⟨[(0, sF 0 x1), (3, sF 1 x164), (4, I i165), (5, pA 2 0), (29, sF 0 x1), (30, I (lI x1)), (31, I i165), (48, B false), (50, S ((x1.getD i165.toNat dnod).name))], [nR x1, iO x164, .cells [cI ((x1.getD i165.toNat dnod).parent), cS ((x1.getD i165.toNat dnod).name), cI ((x1.getD i165.toNat dnod).value)]]⟩ t2 (bindO_e hv236 (fun b238 hc239 hv236 => (Wc [] rfl rfl rfl Tryz.func50 rfl (impl_isName_ok n ((x1.getD i165.toNat dnod).name) b238 hc239) (trivial) rfl (Ws 2 [0, 1, 2] [0, 3, 4, 5, 29, 30, 31, 53] ⟨[(0, sF 0 x1), (3, sF 1 x164), (4, I i165), (5, pA 2 0), (29, sF 0 x1), (30, I (lI x1)), (31, I i165), (53, B (!b238))], [nR x1, iO x164, .cells [cI ((x1.getD i165.toNat dnod).parent), cS ((x1.getD i165.toNat dnod).name), cI ((x1.getD i165.toNat dnod).value)]]⟩ ?_))))
          cases hv236
          exact WO_nil rfl ⟨rfl, rfl⟩
        ·refine thenS_n (iteO_e hv226 (fun hb241 hv226 => W_true rfl hb241 ?_) (fun hb241 hv226 => W_false rfl hb241 ?_))
         ·refine Wsr ((Ws 1 [0] [2] ⟨[(2, B false)], [nR x1]⟩ (Wnt ((W_ret (thenS_r (blockS_r ?_)))))))
          cases hv226
          exact aI rfl rfl
         ·refine Ww [0, 1, 2] [0, 3, 4, 5, 29, 30, 31] ⟨[(0, sF 0 x1), (3, sF 1 x164), (4, I i165), (5, pA 2 0), (29, sF 0 x1), (30, I (lI x1)), (31, I i165)], [nR x1, iO x164, .cells [cI ((x1.getD i165.toNat dnod).parent), cS ((x1.getD i165.toNat dnod).name), cI ((x1.getD i165.toNat dnod).value)]]⟩ (W_skip (thenS_n (W_seq (W_seq (guardO_e hv226 (fun hg242 hv226 => (bindO_e hv226 (fun i243 hc244 hv226 => (W_cut (Q' := fun (e : Exit) (s : St) => e = .normal ∧ s = ⟨[(0, sF 0 x1), (3, sF 1 x164), (4, I i165), (5, pA 2 0), (29, sF 0 x1), (30, I (lI x1)), (31, I i165), (62, B (decide (0 ≤ i243)))], [nR x1, iO x164, .cells [cI ((x1.getD i165.toNat dnod).parent), cS ((x1.getD i165.toNat dnod).name), cI ((x1.getD i165.toNat dnod).value)]]⟩) ?_ ?_)))))))))
          ·refine W_draw [] false (by kernel_rfl) (by kernel_rfl) (WD_takeQ [0, 1, 3, 4, 5, 6] [0, 3, 4, 5, 29, 30, 31, 54, 55, 58, 60] [0, 3, 4, 5, 29, 30, 31, 54, 55, 58, 60] (φ := (True ∧ True ∧ (True ∧ True ∧ True))) (ls' := (tf true [2, 1, 4, 2])) (st' := ⟨[(0, sF 0 x1), (3, sF 1 x164), (4, I i165), (5, pA 2 0), (29, sF 0 x1), (30, I (lI x1)), (31, I i165), (54, sF 0 x1), (55, I i165), (58, I ((x1.getD i165.toNat dnod).parent)), (60, S ((x1.getD i165.toNat dnod).name))], [nR x1, iO x164, .cells [cI ((x1.getD i165.toNat dnod).parent), cS ((x1.getD i165.toNat dnod).name), cI ((x1.getD i165.toNat dnod).value)]]⟩) (n2 := 3) (by kernel_rfl) t5 rfl (WD_all [2] (n := 2) (by kernel_rfl) rfl (WM_op (φ := 0 ≤ i165 ∧ i165 ≤ (lI x1)) (v := .one (.e (.sl 0 0 i165.toNat))) (H' := [nR x1, iO x164, .cells [cI ((x1.getD i165.toNat dnod).parent), cS ((x1.getD i165.toNat dnod).name), cI ((x1.getD i165.toNat dnod).value)]]) rfl rfl (by kernel_rfl) hg242 rfl (aI rfl (aI rfl (aI (aI rfl rfl) (trivial)))) (WD_all [7] (n := 1) (by kernel_rfl) rfl (WM_call [.view 0] Tryz.f51 rfl rfl (by kernel_rfl) Tryz.func51 rfl (by kernel_rfl) (impl_kidIn_ok n ((x1.drop 0).take i165.toNat) ((x1.getD i165.toNat dnod).parent) ((x1.getD i165.toNat dnod).name) i243 hc244) (trivial) rfl (aI rfl (aI rfl (aI (aI rfl rfl) (trivial)))) (WD_takeQ [8] [0, 3, 4, 5, 29, 30, 31, 62] [0, 3, 4, 5, 29, 30, 31, 62] (φ := (True ∧ True ∧ True)) (ls' := (tf true [9])) (st' := ⟨[(0, sF 0 x1), (3, sF 1 x164), (4, I i165), (5, pA 2 0), (29, sF 0 x1), (30, I (lI x1)), (31, I i165), (62, B (decide (0 ≤ i243)))], [nR x1, iO x164, .cells [cI ((x1.getD i165.toNat dnod).parent), cS ((x1.getD i165.toNat dnod).name), cI ((x1.getD i165.toNat dnod).value)]]⟩) (n2 := 0) (by kernel_rfl) t3 rfl ?_))))))
           exact WD_done [0, 1, 2] [0, 3, 4, 5, 29, 30, 31, 62] (st' := ⟨[(0, sF 0 x1), (3, sF 1 x164), (4, I i165), (5, pA 2 0), (29, sF 0 x1), (30, I ((x1.length : Nat) : Int)), (31, I i165), (62, B (decide (0 ≤ i243)))], [nR x1, iO x164, .cells [cI ((x1.getD i165.toNat dnod).parent), cS ((x1.getD i165.toNat dnod).name), cI ((x1.getD i165.toNat dnod).value)]]⟩) (by kernel_rfl) (by kernel_rfl) (aI rfl rfl)
          ·rintro _ _ ⟨rfl, rfl⟩
           refine thenS_n (iteO_e hv226 (fun hb246 hv226 => W_true rfl hb246 ?_) (fun hb246 hv226 => W_false rfl hb246 ?_))
           ·refine Wsr ((Ws 1 [0] [2] ⟨[(2, B false)], [nR x1]⟩ (Wnt ((W_ret (thenS_r (blockS_r ?_)))))))
            cases hv226
            exact aI rfl rfl
           ·refine Ww [0, 1, 2] [0, 3, 4, 5, 29, 30, 31] ⟨[(0, sF 0 x1), (3, sF 1 x164), (4, I i165), (5, pA 2 0), (29, sF 0 x1), (30, I (lI x1)), (31, I i165)], [nR x1, iO x164, .cells [cI ((x1.getD i165.toNat dnod).parent), cS ((x1.getD i165.toNat dnod).name), cI ((x1.getD i165.toNat dnod).value)]]⟩ (W_skip (thenS_n (Wsr ((guardO_e hv226 (fun hg247 hv226 => (guardO_e hv226 (fun hg248 hv226 => (Wp 10 [0, 1] [0, 3, 4, 29, 30, 31] (True ∧ ((0 ≤ (x1.getD i165.toNat dnod).parent ∧ (x1.getD i165.toNat dnod).parent < (lI x164)) ∧ (True ∧ (True ∧ ((0 ≤ i165 ∧ i165 < (lI x164)) ∧ T2))))) ⟨[(0, sF 0 x1), (3, sF 1 x164), (4, I i165), (29, sF 0 x1), (30, I (lI x1)), (31, I i165)], [nR x1, .row .int (x164.set i165.toNat (w64 ((x164.getD (((x1.getD i165.toNat dnod).parent).toNat) 0) + 1))) true]⟩ ⟨trivial, hg247, trivial, trivial, hg248, trivial, trivial⟩ (WO_eq (st' := ⟨[(0, sF 0 x1), (3, .one (.e (.sl 1 0 ((x164.set i165.toNat (w64 ((x164.getD (((x1.getD i165.toNat dnod).parent).toNat) 0) + 1))).length)))), (4, I i165), (29, sF 0 x1), (30, I (lI x1)), (31, I i165)], [nR x1, .row .int (x164.set i165.toNat (w64 ((x164.getD (((x1.getD i165.toNat dnod).parent).toNat) 0) + 1))) true]⟩) (by simp only [sF, List.length_set]) (Wnt ((Wsr ((guardO_e hv226 (fun hg249 hv226 => (Wp 5 [0, 1] [0, 3, 29, 30, 31, 76] ((0 ≤ i165 ∧ i165 < (((x164.set i165.toNat (w64 ((x164.getD (((x1.getD i165.toNat dnod).parent).toNat) 0) + 1))).length : Nat) : Int)) ∧ T3) ⟨[(0, sF 0 x1), (3, .one (.e (.sl 1 0 ((x164.set i165.toNat (w64 ((x164.getD (((x1.getD i165.toNat dnod).parent).toNat) 0) + 1))).length)))), (29, sF 0 x1), (30, I (lI x1)), (31, I i165), (76, B (decide (4 < ((x164.set i165.toNat (w64 ((x164.getD (((x1.getD i165.toNat dnod).parent).toNat) 0) + 1))).getD i165.toNat 0))))], [nR x1, .row .int (x164.set i165.toNat (w64 ((x164.getD (((x1.getD i165.toNat dnod).parent).toNat) 0) + 1))) true]⟩ ⟨hg249, trivial, trivial, trivial⟩ (Wnt ((iteO_e hv226 (fun hb251 hv226 => W_true rfl hb251 ?_) (fun hb251 hv226 => W_false rfl hb251 ?_)))))))))))))))))))))
            ·refine Wsr ((Ws 1 [0] [2] ⟨[(2, B false)], [nR x1]⟩ (Wnt ((W_ret (blockS_r ?_))))))
             cases hv226
             exact aI rfl rfl
            ·refine Ww [0, 1] [0, 3, 29, 30, 31] ⟨[(0, sF 0 x1), (3, .one (.e (.sl 1 0 ((x164.set i165.toNat (w64 ((x164.getD (((x1.getD i165.toNat dnod).parent).toNat) 0) + 1))).length)))), (29, sF 0 x1), (30, I (lI x1)), (31, I i165)], [nR x1, .row .int (x164.set i165.toNat (w64 ((x164.getD (((x1.getD i165.toNat dnod).parent).toNat) 0) + 1))) true]⟩ (W_skip (blockS_n ?_))
             cases hv226
             exact aI rfl rfl
     ·rcases v226 with _ | x225
      ·rintro _ _ ⟨rfl, rfl⟩
       refine thenS_r (thenS_r ?_)
       cases h
       exact aI rfl rfl
      ·rintro _ _ ⟨rfl, rfl⟩
       refine thenS_n (W_region (Wp 2 [0, 1] [0, 3, 29, 30, 31] T2 ⟨[(0, sF 0 x1), (3, sF 1 x225), (29, sF 0 x1), (30, I (lI x1)), (31, I (w64 (i165 + 1)))], [nR x1, iO x225]⟩ t2 (Wnt (?_))))
       exact ih _ _ h
    ·refine Ww [0] [] ⟨[], [nR x1]⟩ (W_exit (thenS_e (thenS_e ?_)))
     cases h
     exact aI rfl rfl

def impl_ValidTree (n : Nat) (x1 : List Nod) : Option (Bool) :=
 iteO ((decide (((x1.length : Nat) : Int) < 1)) || (decide (12 < ((x1.length : Nat) : Int))))
 (some false)
 (guardO (0 ≤ (0 : Int) ∧ (0 : Int) < ((x1.length : Nat) : Int)) <|
 bindO (iteO (!decide (((x1.getD 0 dnod).parent) = (-1)))
 (some true)
 (guardO (0 ≤ (0 : Int) ∧ (0 : Int) < ((x1.length : Nat) : Int)) <|
 some (!decide (((x1.getD 0 dnod).name) = [])))) fun b123 =>
 iteO b123
 (some false)
 (guardO ((((x1.length : Nat) : Int) : Int) = ((x1.length : Nat) : Int) ∧ 0 ≤ ((x1.length : Nat) : Int) ∧ ((x1.length : Nat) : Int) ≤ 1099511627776) <|
 bindO (impl_ValidTree_L1 x1 n (List.replicate (((x1.length : Nat) : Int).toNat) (0 : Int)) 0) fun v252 =>
 match v252 with
 | (.inl _) => (some false)
 | (.inr _) => (some true)
))

theorem impl_ValidTree_ok (n : Nat) (x1 : List Nod) (b114 : Bool) (h : impl_ValidTree n x1 = some b114) : FOk EE 18 [sF 0 x1] [nR x1] (B b114) [nR x1] := by
  unfold impl_ValidTree at h
  refine FOk_of_W 78 1 Tryz.func18 rfl rfl (Nat.le_of_ble_eq_true rfl) rfl (fun w X θ => ?_)
  refine Wsr ((Ws 1 [0] [0] ⟨[(0, sF 0 x1)], [nR x1]⟩ (Wnt ((W_seq (W_seq ?_))))))
  refine W_region (Wp 4 [0] [0, 9] T3 ⟨[(0, sF 0 x1), (9, B (decide ((lI x1) < 1)))], [nR x1]⟩ t3 (WO_thru ⟨[(0, sF 0 x1), (13, B ((decide ((lI x1) < 1)) || (decide (12 < (lI x1)))))], [nR x1]⟩ ?_ ?_))
  ·refine WO_if 9 rfl (fun hb117 => ?_) (fun hb117 => ?_)
   ·refine Ws 4 [0] [0, 13] ⟨[(0, sF 0 x1), (13, B true)], [nR x1]⟩ ?_
    exact WO_nil rfl ⟨rfl, by first | rfl | (rw [hb117]; first | done | rfl)⟩
   ·refine Wp 4 [0] [0, 13] T3 ⟨[(0, sF 0 x1), (13, B (decide (12 < (lI x1))))], [nR x1]⟩ t3 ?_
    exact WO_nil rfl ⟨rfl, by first | rfl | (rw [hb117]; first | done | rfl)⟩
  ·refine thenS_n (iteO_e h (fun hb119 h => W_true rfl hb119 ?_) (fun hb119 h => W_false rfl hb119 ?_))
   ·refine Wsr ((Ws 1 [0] [2] ⟨[(2, B false)], [nR x1]⟩ (Wnt ((W_ret (thenS_r ?_))))))
    cases h
    exact ⟨[0], True, by kernel_rfl, trivial⟩
   ·refine Ww [0] [0] ⟨[(0, sF 0 x1)], [nR x1]⟩ (W_skip (thenS_n (W_seq (Wsr ((guardO_e h (fun hg120 h => (Wp 6 [0] [0, 19] ((0 ≤ (0 : Int) ∧ (0 : Int) < (lI x1)) ∧ T3) ⟨[(0, sF 0 x1), (19, B (!decide (((x1.getD 0 dnod).parent) = (-1))))], [nR x1]⟩ ⟨hg120, trivial, trivial, trivial⟩ (bindO_e h (fun b123 hv124 h => (WO_thru ⟨[(0, sF 0 x1), (25, B b123)], [nR x1]⟩ ?_ ?_)))))))))))
    ·refine iteO_e hv124 (fun hb125 hv124 => WO_known 19 true rfl hb125 ?_) (fun hb125 hv124 => WO_known 19 false rfl hb125 ?_)
     ·refine Ws 6 [0] [0, 25] ⟨[(0, sF 0 x1), (25, B true)], [nR x1]⟩ ?_
      cases hv124
      exact WO_nil rfl ⟨rfl, rfl⟩
     ·refine guardO_e hv124 (fun hg126 hv124 => (Wp 6 [0] [0, 25] ((0 ≤ (0 : Int) ∧ (0 : Int) < (lI x1)) ∧ T3) ⟨[(0, sF 0 x1), (25, B (!decide (((x1.getD 0 dnod).name) = [])))], [nR x1]⟩ ⟨hg126, trivial, trivial, trivial⟩ ?_))
      cases hv124
      exact WO_nil rfl ⟨rfl, rfl⟩
    ·refine thenS_n (iteO_e h (fun hb128 h => W_true rfl hb128 ?_) (fun hb128 h => W_false rfl hb128 ?_))
     ·refine Wsr ((Ws 1 [0] [2] ⟨[(2, B false)], [nR x1]⟩ (Wnt ((W_ret (thenS_r ?_))))))
      cases h
      exact ⟨[0], True, by kernel_rfl, trivial⟩
     ·refine Ww [0] [0] ⟨[(0, sF 0 x1)], [nR x1]⟩ (W_skip (thenS_n (Wsr ((guardO_e h (fun hg129 h => (Wp 4 [0, 1] [0, 3] (True ∧ ((((lI x1) : Int) = (lI x1) ∧ 0 ≤ (lI x1) ∧ (lI x1) ≤ 1099511627776) ∧ True)) ⟨[(0, sF 0 x1), (3, .one (.e (.sl 1 0 ((List.replicate ((lI x1).toNat) (0 : Int)).length))))], [nR x1, .row .int (List.replicate ((lI x1).toNat) (0 : Int)) true]⟩ ⟨trivial, hg129, trivial⟩ (Wnt ((W_seq (Wsr ((Wp 3 [0, 1] [0, 3, 29, 30, 31] T2 ⟨[(0, sF 0 x1), (3, .one (.e (.sl 1 0 ((List.replicate ((lI x1).toNat) (0 : Int)).length)))), (29, sF 0 x1), (30, I (lI x1)), (31, I 0)], [nR x1, .row .int (List.replicate ((lI x1).toNat) (0 : Int)) true]⟩ t2 (Wnt ((W_block (W_loop (bindO_e h (fun v252 hv252 h => (WL_cut (impl_ValidTree_L1_ok w X θ x1 v252 n (List.replicate ((lI x1).toNat) (0 : Int)) 0 hv252) ?_))))))))))))))))))))
      rcases v252 with _ | _
      ·rintro _ _ ⟨rfl, rfl⟩
       refine blockS_r (thenS_r ?_)
       cases h
       exact ⟨[0], True, by kernel_rfl, trivial⟩
      ·rintro _ _ ⟨rfl, rfl⟩
       refine blockS_y (thenS_n (Wsr ((Ws 1 [0] [2] ⟨[(2, B true)], [nR x1]⟩ (Wnt ((W_ret ?_)))))))
       cases h
       exact ⟨[0], True, by kernel_rfl, trivial⟩

/- stringslite.HasPrefix -/
def stringslite_HasPrefix (s1 : Str) (s2 : Str) : Option (Bool) :=
 bindO (iteO (decide (((s2.length : Nat) : Int) ≤ ((s1.length : Nat) : Int)))
 (guardO (0 ≤ ((s2.length : Nat) : Int) ∧ ((s2.length : Nat) : Int) ≤ ((s1.length : Nat) : Int)) <|
 some (decide ((s1.take (((s2.length : Nat) : Int).toNat)) = s2)))
 (some false)) fun b12 =>
 some b12

theorem stringslite_HasPrefix_ok (s1 : Str) (s2 : Str) (b9 : Bool) (h : stringslite_HasPrefix s1 s2 = some b9) : FOk EE 166 [S s1, S s2] [] (B b9) [] := by
  unfold stringslite_HasPrefix at h
  refine FOk_of_W 18 0 Tryz.func166 rfl rfl (Nat.le_of_ble_eq_true rfl) rfl (fun w X θ => ?_)
  refine Wsr ((Ws 1 [] [0, 1] ⟨[(0, S s1), (1, S s2)], []⟩ (Wnt ((W_seq (W_region ?_))))))
  refine Wp 6 [] [0, 1, 10] T4 ⟨[(0, S s1), (1, S s2), (10, B (decide ((lI s2) ≤ (lI s1))))], []⟩ t4 (bindO_e h (fun b12 hv13 h => (WO_thru ⟨[(4, B b12)], []⟩ ?_ ?_)))
  ·refine iteO_e hv13 (fun hb14 hv13 => WO_known 10 true rfl hb14 ?_) (fun hb14 hv13 => WO_known 10 false rfl hb14 ?_)
   ·refine guardO_e hv13 (fun hg15 hv13 => (Wp 8 [] [4] (True ∧ ((0 ≤ (lI s2) ∧ (lI s2) ≤ (lI s1)) ∧ T2)) ⟨[(4, B (decide ((s1.take ((lI s2).toNat)) = s2)))], []⟩ ⟨trivial, hg15, trivial, trivial⟩ ?_))
    cases hv13
    exact WO_nil rfl ⟨rfl, rfl⟩
   ·refine Ws 8 [] [4] ⟨[(4, B false)], []⟩ ?_
    cases hv13
    exact WO_nil rfl ⟨rfl, rfl⟩
  ·refine thenS_n (W_ret ?_)
   cases h
   exact ⟨[], True, by kernel_rfl, trivial⟩

/- stringslite.CutPrefix -/
def stringslite_CutPrefix (s1 : Str) (s2 : Str) : Option (Str × Bool) :=
 bindO (stringslite_HasPrefix s1 s2) fun b10 =>
 iteO (!b10)
 (some (s1, false))
 (guardO (0 ≤ ((s2.length : Nat) : Int) ∧ ((s2.length : Nat) : Int) ≤ ((s1.length : Nat) : Int)) <|
 some ((s1.drop (((s2.length : Nat) : Int).toNat)), true))

theorem stringslite_CutPrefix_ok (s1 : Str) (s2 : Str) (s8 : Str) (b9 : Bool) (h : stringslite_CutPrefix s1 s2 = some (s8, b9)) : FOk EE 141 [S s1, S s2] [] (.tup [.e (cS s8), .e (cB b9)]) [] := by
  unfold stringslite_CutPrefix at h
  refine FOk_of_W 15 0 Tryz.func141 rfl rfl (Nat.le_of_ble_eq_true rfl) rfl (fun w X θ => ?_)
  refine Wsr ((Ws 2 [] [0, 1] ⟨[(0, S s1), (1, S s2)], []⟩ (Wnt ((W_seq (W_seq ?_))))))
  refine W_region (Ws 2 [] [0, 1, 6, 7] ⟨[(0, S s1), (1, S s2), (6, S s1), (7, S s2)], []⟩ (bindO_e h (fun b10 hc11 h => (Wc [] rfl rfl rfl Tryz.func166 rfl (stringslite_HasPrefix_ok s1 s2 b10 hc11) (trivial) rfl (Ws 1 [] [0, 1, 9] ⟨[(0, S s1), (1, S s2), (9, B (!b10))], []⟩ (Wnt (?_)))))))
  refine iteO_e h (fun hb13 h => W_true rfl hb13 ?_) (fun hb13 h => W_false rfl hb13 ?_)
  ·refine Wsr ((Ws 3 [] [4, 5] ⟨[(4, S s1), (5, B false)], []⟩ (Wnt ((W_ret (thenS_r ?_))))))
   cases h
   exact ⟨[], True, by kernel_rfl, trivial⟩
  ·refine Ww [] [0, 1] ⟨[(0, S s1), (1, S s2)], []⟩ (W_skip (thenS_n (Wsr ((guardO_e h (fun hg14 h => (Wp 6 [] [4, 5] (True ∧ ((0 ≤ (lI s2) ∧ (lI s2) ≤ (lI s1)) ∧ True)) ⟨[(4, S (s1.drop ((lI s2).toNat))), (5, B true)], []⟩ ⟨trivial, hg14, trivial⟩ (Wnt ((W_ret ?_))))))))))
   cases h
   exact ⟨[], True, by kernel_rfl, trivial⟩

/- strings.CutPrefix -/
def strings_CutPrefix (s1 : Str) (s2 : Str) : Option (Str × Bool) :=
 bindO (stringslite_CutPrefix s1 s2) fun (s9, b10) =>
 some (s9, b10)

theorem strings_CutPrefix_ok (s1 : Str) (s2 : Str) (s7 : Str) (b8 : Bool) (h : strings_CutPrefix s1 s2 = some (s7, b8)) : FOk EE 114 [S s1, S s2] [] (.tup [.e (cS s7), .e (cB b8)]) [] := by
  unfold strings_CutPrefix at h
  refine FOk_of_W 11 0 Tryz.func114 rfl rfl (Nat.le_of_ble_eq_true rfl) rfl (fun w X θ => ?_)
  refine Wsr ((Ws 2 [] [0, 1] ⟨[(0, S s1), (1, S s2)], []⟩ (Wnt ((W_seq (W_region ?_))))))
  refine Ws 2 [] [6, 7] ⟨[(6, S s1), (7, S s2)], []⟩ (bindO_e h (fun v12 hc11 h => ?_))
  obtain ⟨s9, b10⟩ := v12
  refine Wc [] rfl rfl rfl Tryz.func141 rfl (stringslite_CutPrefix_ok s1 s2 s9 b10 hc11) (trivial) rfl (Ws 4 [] [4, 5] ⟨[(4, S s9), (5, B b10)], []⟩ (Wnt ((W_ret ?_))))
  cases h
  exact ⟨[], True, by kernel_rfl, trivial⟩

/- stringslite.IndexByte -/
def lays217R : Shelf.Ren := ⟨fun n => match n with | 217 => 130 | 266 => 157 | _ => 0, fun n => match n with | 3 => 3 | 5 => 5 | 9 => 9 | _ => 0, fun n => n⟩
set_option maxRecDepth 100000 in
theorem lays217 : Lays.n217 Tryz.prog lays217R := {
  mixed := by kernel_rfl
  f217 := by kernel_rfl
  f266 := by kernel_rfl
  t3 := Tryz.underlying3
  a3 := Tryz.isAgg3
  z3 := Tryz.sizeOf3
  v3 := Tryz.zeroValue3
  t5 := Tryz.underlying5
  a5 := Tryz.isAgg5
  z5 := Tryz.sizeOf5
  v5 := Tryz.zeroValue5
  t9 := Tryz.underlying9
  a9 := Tryz.isAgg9
  z9 := Tryz.sizeOf9
  v9 := Tryz.zeroValue9 }
def stringslite_IndexByte (s1 : Str) (i2 : Int) : Int := Lib.indexByte s1 (UInt8.ofNat i2.toNat)
theorem stringslite_IndexByte_ok (s1 : Str) (i2 : Int) : FOk EE 130 [S s1, U i2] [] (I (stringslite_IndexByte s1 i2)) [] :=
  FOk_pure (args := [.str s1, .int .u8 i2]) (r := .int .i64 (Lib.indexByte s1 (UInt8.ofNat i2.toNat))) (fun w => Any.stringslite_IndexByte lays217 ⟨⟨s1⟩⟩ i2 w)

/- stringslite.Index -/
def stringslite_Index (s1 : Str) (s2 : Str) : Option (Int) :=
 iteO ((decide (((s2.length : Nat) : Int) = 0)) || (decide (s2 = s1)))
 (some 0)
 (iteO (decide (((s2.length : Nat) : Int) = 1))
 (guardO (0 ≤ (0 : Int) ∧ (0 : Int) < ((s2.length : Nat) : Int)) <|
 some (stringslite_IndexByte s1 ((s2.getD ((0 : Int).toNat) 0).toNat : Int)))
 (iteO (decide (((s1.length : Nat) : Int) ≤ ((s2.length : Nat) : Int)))
 (some (-1))
 (none)))

theorem stringslite_Index_ok (s1 : Str) (s2 : Str) (i45 : Int) (h : stringslite_Index s1 s2 = some i45) : FOk EE 99 [S s1, S s2] [] (I i45) [] := by
  unfold stringslite_Index at h
  refine FOk_of_W 143 0 Tryz.func99 rfl rfl (Nat.le_of_ble_eq_true rfl) rfl (fun w X θ => ?_)
  refine Wsr ((Ws 1 [] [0, 1] ⟨[(0, S s1), (1, S s2)], []⟩ (Wnt ((W_seq (W_region ?_))))))
  refine Wp 3 [] [0, 1, 5] T2 ⟨[(0, S s1), (1, S s2), (5, I (lI s2))], []⟩ t2 (Wnt ((W_seq (W_block (W_seq (W_region ?_))))))
  refine Wp 3 [] [0, 1, 5, 19] T2 ⟨[(0, S s1), (1, S s2), (5, I (lI s2)), (19, B (decide ((lI s2) = 0)))], []⟩ t2 (WO_thru ⟨[(0, S s1), (1, S s2), (5, I (lI s2)), (16, B ((decide ((lI s2) = 0)) || (decide (s2 = s1))))], []⟩ ?_ ?_)
  ·refine WO_if 19 rfl (fun hb69 => ?_) (fun hb69 => ?_)
   ·refine Ws 5 [] [0, 1, 5, 16] ⟨[(0, S s1), (1, S s2), (5, I (lI s2)), (16, B true)], []⟩ ?_
    exact WO_nil rfl ⟨rfl, by first | rfl | (rw [hb69]; first | done | rfl)⟩
   ·refine Wp 5 [] [0, 1, 5, 16] T2 ⟨[(0, S s1), (1, S s2), (5, I (lI s2)), (16, B (decide (s2 = s1)))], []⟩ t2 ?_
    exact WO_nil rfl ⟨rfl, by first | rfl | (rw [hb69]; first | done | rfl)⟩
  ·refine thenS_n (iteO_e h (fun hb79 h => W_true rfl hb79 ?_) (fun hb79 h => W_false rfl hb79 ?_))
   ·refine Wsr ((Ws 1 [] [4] ⟨[(4, I 0)], []⟩ (Wnt ((W_ret (blockS_r (thenS_r ?_)))))))
    cases h
    exact ⟨[], True, by kernel_rfl, trivial⟩
   ·refine Wsr ((Wp 3 [] [0, 1, 5, 24] T2 ⟨[(0, S s1), (1, S s2), (5, I (lI s2)), (24, B (decide ((lI s2) = 1)))], []⟩ t2 (Wnt ((iteO_e h (fun hb84 h => W_true rfl hb84 ?_) (fun hb84 h => W_false rfl hb84 ?_))))))
    ·refine Wsr ((guardO_e h (fun hg85 h => (Wp 3 [] [27, 29] ((0 ≤ (0 : Int) ∧ (0 : Int) < (lI s2)) ∧ True) ⟨[(27, S s1), (29, U ((s2.getD ((0 : Int).toNat) 0).toNat : Int))], []⟩ ⟨hg85, trivial⟩ (Wc [] rfl rfl rfl Tryz.func130 rfl (stringslite_IndexByte_ok s1 ((s2.getD ((0 : Int).toNat) 0).toNat : Int)) (trivial) rfl (Ws 1 [] [4] ⟨[(4, I (stringslite_IndexByte s1 ((s2.getD ((0 : Int).toNat) 0).toNat : Int)))], []⟩ (Wnt ((W_ret (blockS_r (thenS_r ?_)))))))))))
     cases h
     exact ⟨[], True, by kernel_rfl, trivial⟩
    ·refine Wsr ((Wp 5 [] [0, 1, 5, 31] T3 ⟨[(0, S s1), (1, S s2), (5, I (lI s2)), (31, B (decide ((lI s1) ≤ (lI s2))))], []⟩ t3 (Wnt ((iteO_e h (fun hb87 h => W_true rfl hb87 ?_) (fun hb87 h => W_false rfl hb87 ?_))))))
     ·refine Wsr ((Ws 1 [] [4] ⟨[(4, I (-1))], []⟩ (Wnt ((W_ret (blockS_r (thenS_r ?_)))))))
      cases h
      exact ⟨[], True, by kernel_rfl, trivial⟩
     ·exact none_e h

/- stringslite.Cut -/
def stringslite_Cut (s1 : Str) (s2 : Str) : Option (Str × Str × Bool) :=
 bindO (stringslite_Index s1 s2) fun i14 =>
 iteO (decide (0 ≤ i14))
 (guardO (0 ≤ i14 ∧ i14 ≤ ((s1.length : Nat) : Int)) <|
 guardO (0 ≤ (w64 (i14 + ((s2.length : Nat) : Int))) ∧ (w64 (i14 + ((s2.length : Nat) : Int))) ≤ ((s1.length : Nat) : Int)) <|
 some ((s1.take i14.toNat), (s1.drop ((w64 (i14 + ((s2.length : Nat) : Int))).toNat)), true))
 (some (s1, [], false))

theorem stringslite_Cut_ok (s1 : Str) (s2 : Str) (s11 : Str) (s12 : Str) (b13 : Bool) (h : stringslite_Cut s1 s2 = some (s11, s12, b13)) : FOk EE 65 [S s1, S s2] [] (.tup [.e (cS s11), .e (cS s12), .e (cB b13)]) [] := by
  unfold stringslite_Cut at h
  refine FOk_of_W 23 0 Tryz.func65 rfl rfl (Nat.le_of_ble_eq_true rfl) rfl (fun w X θ => ?_)
  refine Wsr ((Ws 3 [] [0, 1] ⟨[(0, S s1), (1, S s2)], []⟩ (Wnt ((W_seq (W_seq ?_))))))
  refine W_region (Ws 2 [] [0, 1, 8, 9] ⟨[(0, S s1), (1, S s2), (8, S s1), (9, S s2)], []⟩ (bindO_e h (fun i14 hc15 h => (Wc [] rfl rfl rfl Tryz.func99 rfl (stringslite_Index_ok s1 s2 i14 hc15) (trivial) rfl (Ws 1 [] [0, 1, 7] ⟨[(0, S s1), (1, S s2), (7, I i14)], []⟩ (Wnt (?_)))))))
  refine Wsr ((Wp 2 [] [0, 1, 7, 12] T2 ⟨[(0, S s1), (1, S s2), (7, I i14), (12, B (decide (0 ≤ i14)))], []⟩ t2 (Wnt ((iteO_e h (fun hb19 h => W_true rfl hb19 ?_) (fun hb19 h => W_false rfl hb19 ?_))))))
  ·refine W_seq (guardO_e h (fun hg20 h => (guardO_e h (fun hg21 h => (W_cut (Q' := fun (e : Exit) (s : St) => e = .normal ∧ s = ⟨[(4, S (s1.take i14.toNat)), (5, S (s1.drop ((w64 (i14 + (lI s2))).toNat))), (6, B true)], []⟩) ?_ ?_)))))
   ·refine W_draw [] true (by kernel_rfl) (by kernel_rfl) (WD_takeQ [0, 1, 2, 3, 4, 5, 6, 7, 8, 9, 10, 11] [4, 5, 6] [4, 5, 6] (φ := ((0 ≤ i14 ∧ i14 ≤ (lI s1)) ∧ (0 ≤ i14 ∧ i14 ≤ (lI s1)) ∧ (True ∧ True ∧ (True ∧ True ∧ ((0 ≤ (w64 (i14 + (lI s2))) ∧ (w64 (i14 + (lI s2))) ≤ (lI s1)) ∧ (0 ≤ (w64 (i14 + (lI s2))) ∧ (w64 (i14 + (lI s2))) ≤ (lI s1)) ∧ True))))) (ls' := (tf true [12])) (st' := ⟨[(4, S (s1.take i14.toNat)), (5, S (s1.drop ((w64 (i14 + (lI s2))).toNat))), (6, B true)], []⟩) (n2 := 0) (by kernel_rfl) ⟨hg20, hg20, trivial, trivial, trivial, trivial, hg21, hg21, trivial⟩ rfl ?_)
    exact WD_done [] [4, 5, 6] (st' := ⟨[(4, S (s1.take i14.toNat)), (5, S (s1.drop ((w64 (i14 + ((s2.length : Nat) : Int))).toNat))), (6, B true)], []⟩) (by kernel_rfl) (by kernel_rfl) (aI rfl rfl)
   ·rintro _ _ ⟨rfl, rfl⟩
    refine thenS_n (W_ret (thenS_r ?_))
    cases h
    exact ⟨[], True, by kernel_rfl, trivial⟩
  ·refine Ww [] [0] ⟨[(0, S s1)], []⟩ (W_skip (thenS_n (Wsr ((Ws 4 [] [4, 5, 6] ⟨[(4, S s1), (5, S []), (6, B false)], []⟩ (Wnt ((W_ret ?_))))))))
   cases h
   exact ⟨[], True, by kernel_rfl, trivial⟩

/- strings.Cut -/
def strings_Cut (s1 : Str) (s2 : Str) : Option (Str × Str × Bool) :=
 bindO (stringslite_Cut s1 s2) fun (s11, s12, b13) =>
 some (s11, s12, b13)

theorem strings_Cut_ok (s1 : Str) (s2 : Str) (s8 : Str) (s9 : Str) (b10 : Bool) (h : strings_Cut s1 s2 = some (s8, s9, b10)) : FOk EE 38 [S s1, S s2] [] (.tup [.e (cS s8), .e (cS s9), .e (cB b10)]) [] := by
  unfold strings_Cut at h
  refine FOk_of_W 13 0 Tryz.func38 rfl rfl (Nat.le_of_ble_eq_true rfl) rfl (fun w X θ => ?_)
  refine Wsr ((Ws 3 [] [0, 1] ⟨[(0, S s1), (1, S s2)], []⟩ (Wnt ((W_seq (W_region ?_))))))
  refine Ws 2 [] [7, 8] ⟨[(7, S s1), (8, S s2)], []⟩ (bindO_e h (fun v15 hc14 h => ?_))
  obtain ⟨s11, s12, b13⟩ := v15
  refine Wc [] rfl rfl rfl Tryz.func65 rfl (stringslite_Cut_ok s1 s2 s11 s12 b13 hc14) (trivial) rfl (Ws 6 [] [4, 5, 6] ⟨[(4, S s11), (5, S s12), (6, B b13)], []⟩ (Wnt ((W_ret ?_))))
  cases h
  exact ⟨[], True, by kernel_rfl, trivial⟩

/- impl.ResolvePath -/
def impl_ResolvePath_L1 (x1 : List Nod) : Nat → Str → Int → Bool → Option ((Unit) ⊕ (Int))
| 0, _, _, _ => none
| n + 1, s129, i130, b131 =>
 iteO b131
 (bindO (strings_Cut s129 [47]) fun (s168, s169, b170) =>
 bindO (impl_kidIn n x1 i130 s168) fun i172 =>
 iteO (decide (i172 < 0))
 (some (.inl ()))
 (impl_ResolvePath_L1 x1 n s169 i172 b170))
 (some (.inr i130))

theorem impl_ResolvePath_L1_ok (w : World) (X : Nat → Prop) (θ : List Loc) (x1 : List Nod) (v : (Unit) ⊕ (Int)) : ∀ (n : Nat) (s129 : Str) (i130 : Int) (b131 : Bool), impl_ResolvePath_L1 x1 n s129 i130 b131 = some v → WL EE ⟨w, X, θ, 36, 1⟩ (subC [1, 1, 1, 1, 1, 1, 0, 1, 4, 4] (bodyC Tryz.f78)) (fun (e : Exit) (s : St) => (match v with | (.inl _) => e = .ret ∧ s = ⟨[(4, I (-1))], [nR x1]⟩ | (.inr i155) => e = .exit 0 ∧ s = ⟨[(7, I i155)], [nR x1]⟩ : Prop)) ⟨[(0, sF 0 x1), (5, S s129), (7, I i130), (8, B b131)], [nR x1]⟩ := by
  intro n
  induction n with
  | zero => intro _ _ _ h; exact none_e h
  | succ n ih =>
    intro s129 i130 b131 h
    rw [impl_ResolvePath_L1] at h
    refine WL_round ?_
    refine W_seq (Wsr ((Ws 1 [0] [0, 5, 7, 22] ⟨[(0, sF 0 x1), (5, S s129), (7, I i130), (22, B b131)], [nR x1]⟩ (Wnt ((iteO_e h (fun hb158 h => W_true rfl hb158 ?_) (fun hb158 h => W_false rfl hb158 ?_)))))))
    ·refine Ww [0] [0, 5, 7] ⟨[(0, sF 0 x1), (5, S s129), (7, I i130)], [nR x1]⟩ (W_skip (thenS_n (W_block (Wsr ((Ws 1 [0] [0, 5, 7] ⟨[(0, sF 0 x1), (5, S s129), (7, I i130)], [nR x1]⟩ (Wnt ((Wsr ((Ws 1 [0] [0, 7, 24] ⟨[(0, sF 0 x1), (7, I i130), (24, S s129)], [nR x1]⟩ (bindO_e h (fun v176 hc171 h => ?_)))))))))))))
     obtain ⟨s168, s169, b170⟩ := v176
     refine Wc [] rfl rfl rfl Tryz.func38 rfl (strings_Cut_ok s129 [47] s168 s169 b170 hc171) (trivial) rfl (Ws 7 [0] [0, 5, 7, 8, 9] ⟨[(0, sF 0 x1), (5, S s169), (7, I i130), (8, B b170), (9, S s168)], [nR x1]⟩ (Wnt ((Wsr ((Ws 3 [0] [0, 5, 8, 29, 30, 31] ⟨[(0, sF 0 x1), (5, S s169), (8, B b170), (29, sF 0 x1), (30, I i130), (31, S s168)], [nR x1]⟩ (bindO_e h (fun i172 hc173 h => (Wc [.ro 0] rfl rfl rfl Tryz.func51 rfl (impl_kidIn_ok n x1 i130 s168 i172 hc173) (aI (aI rfl rfl) (trivial)) rfl (Ws 1 [0] [0, 5, 7, 8] ⟨[(0, sF 0 x1), (5, S s169), (7, I i172), (8, B b170)], [nR x1]⟩ (Wnt ((Wsr ((Wp 2 [0] [0, 5, 7, 8, 34] T2 ⟨[(0, sF 0 x1), (5, S s169), (7, I i172), (8, B b170), (34, B (decide (i172 < 0)))], [nR x1]⟩ t2 (Wnt ((iteO_e h (fun hb175 h => W_true rfl hb175 ?_) (fun hb175 h => W_false rfl hb175 ?_)))))))))))))))))))
     ·refine Wsr ((Ws 1 [0] [4] ⟨[(4, I (-1))], [nR x1]⟩ (Wnt ((W_ret (blockS_r (thenS_r ?_)))))))
      cases h
      exact aI rfl rfl
     ·refine Ww [0] [0, 5, 7, 8] ⟨[(0, sF 0 x1), (5, S s169), (7, I i172), (8, B b170)], [nR x1]⟩ (W_skip (blockS_n (thenS_n ?_)))
      exact ih _ _ _ h
    ·refine Ww [0] [7] ⟨[(7, I i130)], [nR x1]⟩ (W_exit (thenS_e (thenS_e ?_)))
     cases h
     exact aI rfl rfl

def impl_ResolvePath (n : Nat) (x1 : List Nod) (s2 : Str) : Option (Int) :=
 bindO (impl_ValidTree n x1) fun b90 =>
 iteO (!b90)
 (some (-1))
 (bindO (strings_CutPrefix s2 [47]) fun (s94, b95) =>
 iteO (!b95)
 (some (-1))
 (iteO (decide (s94 = []))
 (some 0)
 (bindO (impl_ResolvePath_L1 x1 n s94 0 true) fun v177 =>
 match v177 with
 | (.inl _) => (some (-1))
 | (.inr i155) => (some i155)
)))

theorem impl_ResolvePath_ok (n : Nat) (x1 : List Nod) (s2 : Str) (i89 : Int) (h : impl_ResolvePath n x1 s2 = some i89) : FOk EE 78 [sF 0 x1, S s2] [nR x1] (I i89) [nR x1] := by
  unfold impl_ResolvePath at h
  refine FOk_of_W 36 1 Tryz.func78 rfl rfl (Nat.le_of_ble_eq_true rfl) rfl (fun w X θ => ?_)
  refine Wsr ((Ws 1 [0] [0, 1] ⟨[(0, sF 0 x1), (1, S s2)], [nR x1]⟩ (Wnt ((W_seq (W_seq ?_))))))
  refine W_region (Ws 1 [0] [0, 1, 10] ⟨[(0, sF 0 x1), (1, S s2), (10, sF 0 x1)], [nR x1]⟩ (bindO_e h (fun b90 hc91 h => (Wc [.ro 0] rfl rfl rfl Tryz.func18 rfl (impl_ValidTree_ok n x1 b90 hc91) (aI (aI rfl rfl) (trivial)) rfl (Ws 1 [0] [0, 1, 12] ⟨[(0, sF 0 x1), (1, S s2), (12, B (!b90))], [nR x1]⟩ (Wnt (?_)))))))
  refine iteO_e h (fun hb93 h => W_true rfl hb93 ?_) (fun hb93 h => W_false rfl hb93 ?_)
  ·refine Wsr ((Ws 1 [0] [4] ⟨[(4, I (-1))], [nR x1]⟩ (Wnt ((W_ret (thenS_r ?_))))))
   cases h
   exact ⟨[0], True, by kernel_rfl, trivial⟩
  ·refine Ww [0] [0, 1] ⟨[(0, sF 0 x1), (1, S s2)], [nR x1]⟩ (W_skip (thenS_n (Wsr ((Ws 1 [0] [0, 14] ⟨[(0, sF 0 x1), (14, S s2)], [nR x1]⟩ (bindO_e h (fun v178 hc96 h => ?_)))))))
   obtain ⟨s94, b95⟩ := v178
   refine Wc [] rfl rfl rfl Tryz.func114 rfl (strings_CutPrefix_ok s2 [47] s94 b95 hc96) (trivial) rfl (Ws 5 [0] [0, 5, 6] ⟨[(0, sF 0 x1), (5, S s94), (6, B b95)], [nR x1]⟩ (Wnt ((W_seq (Wsr ((Ws 2 [0] [0, 5, 19] ⟨[(0, sF 0 x1), (5, S s94), (19, B (!b95))], [nR x1]⟩ (Wnt ((iteO_e h (fun hb98 h => W_true rfl hb98 ?_) (fun hb98 h => W_false rfl hb98 ?_)))))))))))
   ·refine Wsr ((Ws 1 [0] [4] ⟨[(4, I (-1))], [nR x1]⟩ (Wnt ((W_ret (thenS_r ?_))))))
    cases h
    exact ⟨[0], True, by kernel_rfl, trivial⟩
   ·refine Ww [0] [0, 5] ⟨[(0, sF 0 x1), (5, S s94)], [nR x1]⟩ (W_skip (thenS_n (W_seq (Wsr ((Wp 2 [0] [0, 5, 21] T2 ⟨[(0, sF 0 x1), (5, S s94), (21, B (decide (s94 = [])))], [nR x1]⟩ t2 (Wnt ((iteO_e h (fun hb100 h => W_true rfl hb100 ?_) (fun hb100 h => W_false rfl hb100 ?_))))))))))
    ·refine Wsr ((Ws 1 [0] [4] ⟨[(4, I 0)], [nR x1]⟩ (Wnt ((W_ret (thenS_r ?_))))))
     cases h
     exact ⟨[0], True, by kernel_rfl, trivial⟩
    ·refine Ww [0] [0, 5] ⟨[(0, sF 0 x1), (5, S s94)], [nR x1]⟩ (W_skip (thenS_n (Wsr ((Ws 1 [0] [0, 5, 7] ⟨[(0, sF 0 x1), (5, S s94), (7, I 0)], [nR x1]⟩ (Wnt ((W_seq (Wsr ((Ws 1 [0] [0, 5, 7, 8] ⟨[(0, sF 0 x1), (5, S s94), (7, I 0), (8, B true)], [nR x1]⟩ (Wnt ((W_block (W_loop (bindO_e h (fun v177 hv177 h => (WL_cut (impl_ResolvePath_L1_ok w X θ x1 v177 n s94 0 true hv177) ?_))))))))))))))))))
     rcases v177 with _ | i155
     ·rintro _ _ ⟨rfl, rfl⟩
      refine blockS_r (thenS_r ?_)
      cases h
      exact ⟨[0], True, by kernel_rfl, trivial⟩
     ·rintro _ _ ⟨rfl, rfl⟩
      refine blockS_y (thenS_n (Wsr ((Ws 2 [0] [4] ⟨[(4, I i155)], [nR x1]⟩ (Wnt ((W_ret ?_)))))))
      cases h
      exact ⟨[0], True, by kernel_rfl, trivial⟩

/- impl.isNode -/
def impl_isNode (n : Nat) (x1 : List Nod) (i2 : Int) : Option (Bool) :=
 bindO (iteO (impl_within i2 0 (w64 (((x1.length : Nat) : Int) - 1)))
 (bindO (impl_ValidTree n x1) fun b18 =>
 some b18)
 (some false)) fun b15 =>
 some b15

theorem impl_isNode_ok (n : Nat) (x1 : List Nod) (i2 : Int) (b11 : Bool) (h : impl_isNode n x1 i2 = some b11) : FOk EE 111 [sF 0 x1, I i2] [nR x1] (B b11) [nR x1] := by
  unfold impl_isNode at h
  refine FOk_of_W 14 1 Tryz.func111 rfl rfl (Nat.le_of_ble_eq_true rfl) rfl (fun w X θ => ?_)
  refine Wsr ((Ws 1 [0] [0, 1] ⟨[(0, sF 0 x1), (1, I i2)], [nR x1]⟩ (Wnt ((W_seq (W_region ?_))))))
  refine Wp 4 [0] [0, 5, 8] T3 ⟨[(0, sF 0 x1), (5, I i2), (8, I (w64 ((lI x1) - 1)))], [nR x1]⟩ t3 (Wc [] rfl rfl rfl Tryz.func49 rfl (impl_within_ok i2 0 (w64 ((lI x1) - 1))) (trivial) rfl (Ws 1 [0] [0, 10] ⟨[(0, sF 0 x1), (10, B (impl_within i2 0 (w64 ((lI x1) - 1))))], [nR x1]⟩ (bindO_e h (fun b15 hv16 h => (WO_thru ⟨[(4, B b15)], [nR x1]⟩ ?_ ?_)))))
  ·refine iteO_e hv16 (fun hb17 hv16 => WO_known 10 true rfl hb17 ?_) (fun hb17 hv16 => WO_known 10 false rfl hb17 ?_)
   ·refine Ws 1 [0] [10, 11] ⟨[(10, B true), (11, sF 0 x1)], [nR x1]⟩ (bindO_e hv16 (fun b18 hc19 hv16 => (Wc [.ro 0] rfl rfl rfl Tryz.func18 rfl (impl_ValidTree_ok n x1 b18 hc19) (aI (aI rfl rfl) (trivial)) rfl (Ws 2 [0] [4] ⟨[(4, B b18)], [nR x1]⟩ ?_))))
    cases hv16
    exact WO_nil rfl ⟨rfl, rfl⟩
   ·refine Ws 4 [0] [4] ⟨[(4, B false)], [nR x1]⟩ ?_
    cases hv16
    exact WO_nil rfl ⟨rfl, rfl⟩
  ·refine thenS_n (W_ret ?_)
   cases h
   exact ⟨[0], True, by kernel_rfl, trivial⟩

/- impl.isAsk -/
def impl_isAsk (i1 : Int) (i2 : Int) (i3 : Int) : Bool :=
((impl_within i1 0 3) && ((impl_within i2 0 11) && (impl_within i3 1 5)))

theorem impl_isAsk_ok (i1 : Int) (i2 : Int) (i3 : Int) : FOk EE 117 [I i1, I i2, I i3] [] (B (impl_isAsk i1 i2 i3)) [] := by
  refine FOk_of_W 17 0 Tryz.func117 rfl rfl (Nat.le_of_ble_eq_true rfl) rfl (fun w X θ => ?_)
  refine Wsr ((Ws 1 [] [0, 1, 2] ⟨[(0, I i1), (1, I i2), (2, I i3)], []⟩ (Wnt ((W_seq (W_region ?_))))))
  refine Ws 1 [] [1, 2, 7] ⟨[(1, I i2), (2, I i3), (7, I i1)], []⟩ (Wc [] rfl rfl rfl Tryz.func49 rfl (impl_within_ok i1 0 3) (trivial) rfl (Ws 1 [] [1, 2, 9] ⟨[(1, I i2), (2, I i3), (9, B (impl_within i1 0 3))], []⟩ (WO_thru ⟨[(6, B ((impl_within i1 0 3) && ((impl_within i2 0 11) && (impl_within i3 1 5))))], []⟩ ?_ ?_)))
  ·refine WO_if 9 rfl (fun hb13 => ?_) (fun hb13 => ?_)
   ·refine Ws 1 [] [2, 9, 10] ⟨[(2, I i3), (9, B true), (10, I i2)], []⟩ (Wc [] rfl rfl rfl Tryz.func49 rfl (impl_within_ok i2 0 11) (trivial) rfl (Ws 2 [] [2, 13] ⟨[(2, I i3), (13, B (impl_within i2 0 11))], []⟩ (WO_if 13 rfl (fun hb14 => ?_) (fun hb14 => ?_))))
    ·refine Ws 1 [] [13, 14] ⟨[(13, B true), (14, I i3)], []⟩ (Wc [] rfl rfl rfl Tryz.func49 rfl (impl_within_ok i3 1 5) (trivial) rfl (Ws 2 [] [6] ⟨[(6, B (impl_within i3 1 5))], []⟩ ?_))
     exact WO_nil rfl ⟨rfl, by first | rfl | (simp only [hb13, hb14]; first | done | rfl)⟩
    ·refine Ws 4 [] [6] ⟨[(6, B false)], []⟩ ?_
     exact WO_nil rfl ⟨rfl, by first | rfl | (simp only [hb13, hb14]; first | done | rfl)⟩
   ·refine Ws 8 [] [6] ⟨[(6, B false)], []⟩ ?_
    exact WO_nil rfl ⟨rfl, by first | rfl | (rw [hb13]; first | done | rfl)⟩
  ·refine thenS_n (W_ret ?_)
   exact ⟨[], True, by kernel_rfl, trivial⟩

/- slices.Reverse[[]int,int] -/
def slices_Reverse_int_int_L1 (k2 : Nat) : Nat → (List Int) → Int → Int → Option ((List Int))
| 0, _, _, _ => none
| n + 1, x68, i69, i70 =>
 iteO (decide (i69 < i70))
 (guardO (0 ≤ i70 ∧ i70 < ((k2 : Nat) : Int)) <|
 guardO (0 ≤ i69 ∧ i69 < ((k2 : Nat) : Int)) <|
 guardO (0 ≤ i69 ∧ i69 < ((k2 : Nat) : Int)) <|
 guardO (0 ≤ i70 ∧ i70 < ((k2 : Nat) : Int)) <|
 slices_Reverse_int_int_L1 k2 n ((x68.set i69.toNat (x68.getD i70.toNat 0)).set i70.toNat (x68.getD i69.toNat 0)) (w64 (i69 + 1)) (w64 (i70 - 1)))
 (some x68)

theorem slices_Reverse_int_int_L1_ok (w : World) (X : Nat → Prop) (θ : List Loc) (k2 : Nat) (x84 : (List Int)) : ∀ (n : Nat) (x68 : List Int) (i69 : Int) (i70 : Int), slices_Reverse_int_int_L1 k2 n x68 i69 i70 = some x84 → WL EE ⟨w, X, θ, 28, 1⟩ (subC [1, 4, 4] (bodyC Tryz.f112)) (fun (e : Exit) (s : St) => e = .exit 0 ∧ s = ⟨[], [iO x84]⟩) ⟨[(0, SL 0 0 k2), (2, I i69), (3, I i70)], [iO x68]⟩ := by
  intro n
  induction n with
  | zero => intro _ _ _ h; exact none_e h
  | succ n ih =>
    intro x68 i69 i70 h
    rw [slices_Reverse_int_int_L1] at h
    refine WL_round ?_
    refine W_seq (Wsr ((Wp 3 [0] [0, 2, 3, 9] T2 ⟨[(0, SL 0 0 k2), (2, I i69), (3, I i70), (9, B (decide (i69 < i70)))], [iO x68]⟩ t2 (Wnt ((iteO_e h (fun hb87 h => W_true rfl hb87 ?_) (fun hb87 h => W_false rfl hb87 ?_)))))))
    ·refine Ww [0] [0, 2, 3] ⟨[(0, SL 0 0 k2), (2, I i69), (3, I i70)], [iO x68]⟩ (W_skip (thenS_n (W_seq (W_block (guardO_e h (fun hg92 h => (guardO_e h (fun hg93 h => (guardO_e h (fun hg94 h => (guardO_e h (fun hg95 h => (W_cut (Q' := fun (e : Exit) (s : St) => e = .normal ∧ s = ⟨[(0, SL 0 0 k2), (2, I i69), (3, I i70)], [.row .int ((x68.set i69.toNat (x68.getD i70.toNat 0)).set i70.toNat (x68.getD i69.toNat 0)) true]⟩) ?_ ?_)))))))))))))
     ·refine W_draw [0] false (by kernel_rfl) (by kernel_rfl) (WD_takeQ [0, 1, 2, 3, 4, 5, 8, 9] [0, 2, 3, 14, 15, 16, 17, 18, 19, 22, 23] [0, 2, 3, 14, 15, 16, 17, 18, 19, 22, 23] (φ := True) (ls' := (tf true [6, 2, 2, 6])) (st' := ⟨[(0, SL 0 0 k2), (2, I i69), (3, I i70), (14, SL 0 0 k2), (15, I i69), (16, SL 0 0 k2), (17, I i70), (18, SL 0 0 k2), (19, I i70), (22, SL 0 0 k2), (23, I i69)], [iO x68]⟩) (n2 := 8) (by kernel_rfl) trivial rfl (WD_all [6, 10] (n := 7) (by kernel_rfl) rfl (aI ?_ (?_))))
      ·refine WM_op (φ := 0 ≤ i70 ∧ i70 < ((k2 : Nat) : Int)) (v := .one (.e (.rp 0 i70.toNat 0))) (H' := [iO x68]) rfl rfl (by kernel_rfl) hg92 rfl (trivial) (WD_all [7, 10] (n := 6) (by kernel_rfl) rfl (aI ?_ (?_)))
       ·refine WM_op (φ := True) (v := I (x68.getD i70.toNat 0)) (H' := [iO x68]) rfl rfl (by kernel_rfl) trivial rfl (trivial) (WD_all [10] (n := 5) (by kernel_rfl) rfl (WM_op (φ := 0 ≤ i69 ∧ i69 < ((k2 : Nat) : Int)) (v := .one (.e (.rp 0 i69.toNat 0))) (H' := [iO x68]) rfl rfl (by kernel_rfl) hg93 rfl (trivial) (WD_all [11] (n := 4) (by kernel_rfl) rfl (WM_op (φ := True) (v := I (x68.getD i69.toNat 0)) (H' := [iO x68]) rfl rfl (by kernel_rfl) trivial rfl (trivial) (WD_all [12] (n := 3) (by kernel_rfl) rfl (WM_op (φ := 0 ≤ i69 ∧ i69 < ((k2 : Nat) : Int)) (v := .one (.e (.rp 0 i69.toNat 0))) (H' := [iO x68]) rfl rfl (by kernel_rfl) hg94 rfl (trivial) (WD_all [13] (n := 2) (by kernel_rfl) rfl (WM_store (u := .one (.e (.rp 0 i69.toNat 0))) (v := I (x68.getD i70.toNat 0)) (φ := True) (H' := [iO (x68.set i69.toNat (x68.getD i70.toNat 0))]) rfl rfl rfl rfl rfl (by kernel_rfl) trivial rfl (trivial) (WD_all [14] (n := 1) (by kernel_rfl) rfl (WM_op (φ := 0 ≤ i70 ∧ i70 < ((k2 : Nat) : Int)) (v := .one (.e (.rp 0 i70.toNat 0))) (H' := [iO (x68.set i69.toNat (x68.getD i70.toNat 0))]) rfl rfl (by kernel_rfl) hg95 rfl (trivial) (WD_all [15] (n := 0) (by kernel_rfl) rfl (WM_store (u := .one (.e (.rp 0 i70.toNat 0))) (v := I (x68.getD i69.toNat 0)) (φ := True) (H' := [.row .int ((x68.set i69.toNat (x68.getD i70.toNat 0)).set i70.toNat (x68.getD i69.toNat 0)) true]) rfl rfl rfl rfl rfl (by kernel_rfl) trivial rfl (trivial) ?_))))))))))))
        exact WD_done [0] [0, 2, 3] (st' := ⟨[(0, SL 0 0 k2), (2, I i69), (3, I i70)], [.row .int ((x68.set i69.toNat (x68.getD i70.toNat 0)).set i70.toNat (x68.getD i69.toNat 0)) true]⟩) (by kernel_rfl) (by kernel_rfl) (aI rfl rfl)
       ·refine WM_op (φ := 0 ≤ i69 ∧ i69 < ((k2 : Nat) : Int)) (v := .one (.e (.rp 0 i69.toNat 0))) (H' := [iO x68]) rfl rfl (by kernel_rfl) hg93 rfl (trivial) (WD_all [7, 11] (n := 5) (by kernel_rfl) rfl (aI ?_ (?_)))
        ·refine WM_op (φ := True) (v := I (x68.getD i70.toNat 0)) (H' := [iO x68]) rfl rfl (by kernel_rfl) trivial rfl (trivial) (WD_all [11] (n := 4) (by kernel_rfl) rfl (WM_op (φ := True) (v := I (x68.getD i69.toNat 0)) (H' := [iO x68]) rfl rfl (by kernel_rfl) trivial rfl (trivial) (WD_all [12] (n := 3) (by kernel_rfl) rfl (WM_op (φ := 0 ≤ i69 ∧ i69 < ((k2 : Nat) : Int)) (v := .one (.e (.rp 0 i69.toNat 0))) (H' := [iO x68]) rfl rfl (by kernel_rfl) hg94 rfl (trivial) (WD_all [13] (n := 2) (by kernel_rfl) rfl (WM_store (u := .one (.e (.rp 0 i69.toNat 0))) (v := I (x68.getD i70.toNat 0)) (φ := True) (H' := [iO (x68.set i69.toNat (x68.getD i70.toNat 0))]) rfl rfl rfl rfl rfl (by kernel_rfl) trivial rfl (trivial) (WD_all [14] (n := 1) (by kernel_rfl) rfl (WM_op (φ := 0 ≤ i70 ∧ i70 < ((k2 : Nat) : Int)) (v := .one (.e (.rp 0 i70.toNat 0))) (H' := [iO (x68.set i69.toNat (x68.getD i70.toNat 0))]) rfl rfl (by kernel_rfl) hg95 rfl (trivial) (WD_all [15] (n := 0) (by kernel_rfl) rfl (WM_store (u := .one (.e (.rp 0 i70.toNat 0))) (v := I (x68.getD i69.toNat 0)) (φ := True) (H' := [.row .int ((x68.set i69.toNat (x68.getD i70.toNat 0)).set i70.toNat (x68.getD i69.toNat 0)) true]) rfl rfl rfl rfl rfl (by kernel_rfl) trivial rfl (trivial) ?_))))))))))
         exact WD_done [0] [0, 2, 3] (st' := ⟨[(0, SL 0 0 k2), (2, I i69), (3, I i70)], [.row .int ((x68.set i69.toNat (x68.getD i70.toNat 0)).set i70.toNat (x68.getD i69.toNat 0)) true]⟩) (by kernel_rfl) (by kernel_rfl) (aI rfl rfl)
        ·refine WM_op (φ := True) (v := I (x68.getD i69.toNat 0)) (H' := [iO x68]) rfl rfl (by kernel_rfl) trivial rfl (trivial) (WD_all [7] (n := 4) (by kernel_rfl) rfl (WM_op (φ := True) (v := I (x68.getD i70.toNat 0)) (H' := [iO x68]) rfl rfl (by kernel_rfl) trivial rfl (trivial) (WD_all [12] (n := 3) (by kernel_rfl) rfl (WM_op (φ := 0 ≤ i69 ∧ i69 < ((k2 : Nat) : Int)) (v := .one (.e (.rp 0 i69.toNat 0))) (H' := [iO x68]) rfl rfl (by kernel_rfl) hg94 rfl (trivial) (WD_all [13] (n := 2) (by kernel_rfl) rfl (WM_store (u := .one (.e (.rp 0 i69.toNat 0))) (v := I (x68.getD i70.toNat 0)) (φ := True) (H' := [iO (x68.set i69.toNat (x68.getD i70.toNat 0))]) rfl rfl rfl rfl rfl (by kernel_rfl) trivial rfl (trivial) (WD_all [14] (n := 1) (by kernel_rfl) rfl (WM_op (φ := 0 ≤ i70 ∧ i70 < ((k2 : Nat) : Int)) (v := .one (.e (.rp 0 i70.toNat 0))) (H' := [iO (x68.set i69.toNat (x68.getD i70.toNat 0))]) rfl rfl (by kernel_rfl) hg95 rfl (trivial) (WD_all [15] (n := 0) (by kernel_rfl) rfl (WM_store (u := .one (.e (.rp 0 i70.toNat 0))) (v := I (x68.getD i69.toNat 0)) (φ := True) (H' := [.row .int ((x68.set i69.toNat (x68.getD i70.toNat 0)).set i70.toNat (x68.getD i69.toNat 0)) true]) rfl rfl rfl rfl rfl (by kernel_rfl) trivial rfl (trivial) ?_))))))))))
         exact WD_done [0] [0, 2, 3] (st' := ⟨[(0, SL 0 0 k2), (2, I i69), (3, I i70)], [.row .int ((x68.set i69.toNat (x68.getD i70.toNat 0)).set i70.toNat (x68.getD i69.toNat 0)) true]⟩) (by kernel_rfl) (by kernel_rfl) (aI rfl rfl)
      ·refine WM_op (φ := 0 ≤ i69 ∧ i69 < ((k2 : Nat) : Int)) (v := .one (.e (.rp 0 i69.toNat 0))) (H' := [iO x68]) rfl rfl (by kernel_rfl) hg93 rfl (trivial) (WD_all [6, 11] (n := 6) (by kernel_rfl) rfl (aI ?_ (?_)))
       ·refine WM_op (φ := 0 ≤ i70 ∧ i70 < ((k2 : Nat) : Int)) (v := .one (.e (.rp 0 i70.toNat 0))) (H' := [iO x68]) rfl rfl (by kernel_rfl) hg92 rfl (trivial) (WD_all [7, 11] (n := 5) (by kernel_rfl) rfl (aI ?_ (?_)))
        ·refine WM_op (φ := True) (v := I (x68.getD i70.toNat 0)) (H' := [iO x68]) rfl rfl (by kernel_rfl) trivial rfl (trivial) (WD_all [11] (n := 4) (by kernel_rfl) rfl (WM_op (φ := True) (v := I (x68.getD i69.toNat 0)) (H' := [iO x68]) rfl rfl (by kernel_rfl) trivial rfl (trivial) (WD_all [12] (n := 3) (by kernel_rfl) rfl (WM_op (φ := 0 ≤ i69 ∧ i69 < ((k2 : Nat) : Int)) (v := .one (.e (.rp 0 i69.toNat 0))) (H' := [iO x68]) rfl rfl (by kernel_rfl) hg94 rfl (trivial) (WD_all [13] (n := 2) (by kernel_rfl) rfl (WM_store (u := .one (.e (.rp 0 i69.toNat 0))) (v := I (x68.getD i70.toNat 0)) (φ := True) (H' := [iO (x68.set i69.toNat (x68.getD i70.toNat 0))]) rfl rfl rfl rfl rfl (by kernel_rfl) trivial rfl (trivial) (WD_all [14] (n := 1) (by kernel_rfl) rfl (WM_op (φ := 0 ≤ i70 ∧ i70 < ((k2 : Nat) : Int)) (v := .one (.e (.rp 0 i70.toNat 0))) (H' := [iO (x68.set i69.toNat (x68.getD i70.toNat 0))]) rfl rfl (by kernel_rfl) hg95 rfl (trivial) (WD_all [15] (n := 0) (by kernel_rfl) rfl (WM_store (u := .one (.e (.rp 0 i70.toNat 0))) (v := I (x68.getD i69.toNat 0)) (φ := True) (H' := [.row .int ((x68.set i69.toNat (x68.getD i70.toNat 0)).set i70.toNat (x68.getD i69.toNat 0)) true]) rfl rfl rfl rfl rfl (by kernel_rfl) trivial rfl (trivial) ?_))))))))))
         exact WD_done [0] [0, 2, 3] (st' := ⟨[(0, SL 0 0 k2), (2, I i69), (3, I i70)], [.row .int ((x68.set i69.toNat (x68.getD i70.toNat 0)).set i70.toNat (x68.getD i69.toNat 0)) true]⟩) (by kernel_rfl) (by kernel_rfl) (aI rfl rfl)
        ·refine WM_op (φ := True) (v := I (x68.getD i69.toNat 0)) (H' := [iO x68]) rfl rfl (by kernel_rfl) trivial rfl (trivial) (WD_all [7] (n := 4) (by kernel_rfl) rfl (WM_op (φ := True) (v := I (x68.getD i70.toNat 0)) (H' := [iO x68]) rfl rfl (by kernel_rfl) trivial rfl (trivial) (WD_all [12] (n := 3) (by kernel_rfl) rfl (WM_op (φ := 0 ≤ i69 ∧ i69 < ((k2 : Nat) : Int)) (v := .one (.e (.rp 0 i69.toNat 0))) (H' := [iO x68]) rfl rfl (by kernel_rfl) hg94 rfl (trivial) (WD_all [13] (n := 2) (by kernel_rfl) rfl (WM_store (u := .one (.e (.rp 0 i69.toNat 0))) (v := I (x68.getD i70.toNat 0)) (φ := True) (H' := [iO (x68.set i69.toNat (x68.getD i70.toNat 0))]) rfl rfl rfl rfl rfl (by kernel_rfl) trivial rfl (trivial) (WD_all [14] (n := 1) (by kernel_rfl) rfl (WM_op (φ := 0 ≤ i70 ∧ i70 < ((k2 : Nat) : Int)) (v := .one (.e (.rp 0 i70.toNat 0))) (H' := [iO (x68.set i69.toNat (x68.getD i70.toNat 0))]) rfl rfl (by kernel_rfl) hg95 rfl (trivial) (WD_all [15] (n := 0) (by kernel_rfl) rfl (WM_store (u := .one (.e (.rp 0 i70.toNat 0))) (v := I (x68.getD i69.toNat 0)) (φ := True) (H' := [.row .int ((x68.set i69.toNat (x68.getD i70.toNat 0)).set i70.toNat (x68.getD i69.toNat 0)) true]) rfl rfl rfl rfl rfl (by kernel_rfl) trivial rfl (trivial) ?_))))))))))
         exact WD_done [0] [0, 2, 3] (st' := ⟨[(0, SL 0 0 k2), (2, I i69), (3, I i70)], [.row .int ((x68.set i69.toNat (x68.getD i70.toNat 0)).set i70.toNat (x68.getD i69.toNat 0)) true]⟩) (by kernel_rfl) (by kernel_rfl) (aI rfl rfl)
       ·refine WM_op (φ := True) (v := I (x68.getD i69.toNat 0)) (H' := [iO x68]) rfl rfl (by kernel_rfl) trivial rfl (trivial) (WD_all [6] (n := 5) (by kernel_rfl) rfl (WM_op (φ := 0 ≤ i70 ∧ i70 < ((k2 : Nat) : Int)) (v := .one (.e (.rp 0 i70.toNat 0))) (H' := [iO x68]) rfl rfl (by kernel_rfl) hg92 rfl (trivial) (WD_all [7] (n := 4) (by kernel_rfl) rfl (WM_op (φ := True) (v := I (x68.getD i70.toNat 0)) (H' := [iO x68]) rfl rfl (by kernel_rfl) trivial rfl (trivial) (WD_all [12] (n := 3) (by kernel_rfl) rfl (WM_op (φ := 0 ≤ i69 ∧ i69 < ((k2 : Nat) : Int)) (v := .one (.e (.rp 0 i69.toNat 0))) (H' := [iO x68]) rfl rfl (by kernel_rfl) hg94 rfl (trivial) (WD_all [13] (n := 2) (by kernel_rfl) rfl (WM_store (u := .one (.e (.rp 0 i69.toNat 0))) (v := I (x68.getD i70.toNat 0)) (φ := True) (H' := [iO (x68.set i69.toNat (x68.getD i70.toNat 0))]) rfl rfl rfl rfl rfl (by kernel_rfl) trivial rfl (trivial) (WD_all [14] (n := 1) (by kernel_rfl) rfl (WM_op (φ := 0 ≤ i70 ∧ i70 < ((k2 : Nat) : Int)) (v := .one (.e (.rp 0 i70.toNat 0))) (H' := [iO (x68.set i69.toNat (x68.getD i70.toNat 0))]) rfl rfl (by kernel_rfl) hg95 rfl (trivial) (WD_all [15] (n := 0) (by kernel_rfl) rfl (WM_store (u := .one (.e (.rp 0 i70.toNat 0))) (v := I (x68.getD i69.toNat 0)) (φ := True) (H' := [.row .int ((x68.set i69.toNat (x68.getD i70.toNat 0)).set i70.toNat (x68.getD i69.toNat 0)) true]) rfl rfl rfl rfl rfl (by kernel_rfl) trivial rfl (trivial) ?_))))))))))))
        exact WD_done [0] [0, 2, 3] (st' := ⟨[(0, SL 0 0 k2), (2, I i69), (3, I i70)], [.row .int ((x68.set i69.toNat (x68.getD i70.toNat 0)).set i70.toNat (x68.getD i69.toNat 0)) true]⟩) (by kernel_rfl) (by kernel_rfl) (aI rfl rfl)
     ·rintro _ _ ⟨rfl, rfl⟩
      refine blockS_n (thenS_n (W_region (Wp 6 [0] [0, 2, 3] T3 ⟨[(0, SL 0 0 k2), (2, I (w64 (i69 + 1))), (3, I (w64 (i70 - 1)))], [.row .int ((x68.set i69.toNat (x68.getD i70.toNat 0)).set i70.toNat (x68.getD i69.toNat 0)) true]⟩ t3 (Wnt (?_)))))
      exact ih _ _ _ h
    ·refine Ww [0] [] ⟨[], [iO x68]⟩ (W_exit (thenS_e (thenS_e ?_)))
     cases h
     exact aI rfl rfl

def slices_Reverse_int_int (n : Nat) (x1 : List Int) (k2 : Nat) : Option ((List Int)) :=
 bindO (slices_Reverse_int_int_L1 k2 n x1 0 (w64 (((k2 : Nat) : Int) - 1))) fun x84 =>
 some x84

theorem slices_Reverse_int_int_ok (n : Nat) (x1 : List Int) (k2 : Nat) (x49 : List Int) (h : slices_Reverse_int_int n x1 k2 = some x49) : FOk EE 112 [SL 0 0 k2] [iO x1] (.tup []) [iO x49] := by
  unfold slices_Reverse_int_int at h
  refine FOk_of_W 28 1 Tryz.func112 rfl rfl (Nat.le_of_ble_eq_true rfl) rfl (fun w X θ => ?_)
  refine Wsr ((Wp 5 [0] [0, 2, 3] T3 ⟨[(0, SL 0 0 k2), (2, I 0), (3, I (w64 (((k2 : Nat) : Int) - 1)))], [iO x1]⟩ t3 (Wnt ((W_block (W_loop ?_))))))
  refine bindO_e h (fun x84 hx84 h => (WL_cut (slices_Reverse_int_int_L1_ok w X θ k2 x84 n x1 0 (w64 (((k2 : Nat) : Int) - 1)) hx84) ?_))
  rintro _ _ ⟨rfl, rfl⟩
  refine blockS_y ?_
  cases h
  exact ⟨[0], True, by kernel_rfl, trivial⟩

/- impl.PathTo -/
def impl_PathTo_L1 (x1 : List Nod) : Nat → (List Int) → Int → Option ((List Int))
| 0, _, _ => none
| n + 1, x53, i54 =>
 iteO (decide (0 ≤ i54))
 (guardO (0 = 0 ∧ x53.length = x53.length ∧ x53.length + (([i54].drop 0).take ([i54].length)).length ≤ 1099511627776) <|
 guardO (0 ≤ i54 ∧ i54 < ((x1.length : Nat) : Int)) <|
 impl_PathTo_L1 x1 n (x53 ++ (([i54].drop 0).take ([i54].length))) ((x1.getD i54.toNat dnod).parent))
 (some x53)

theorem impl_PathTo_L1_ok (w : World) (X : Nat → Prop) (θ : List Loc) (x1 : List Nod) (x62 : (List Int)) : ∀ (n : Nat) (x53 : List Int) (i54 : Int), impl_PathTo_L1 x1 n x53 i54 = some x62 → WL EE ⟨w, X, θ, 26, 1⟩ (subC [1, 1, 1, 0, 1, 4, 4] (bodyC Tryz.f74)) (fun (e : Exit) (s : St) => e = .exit 0 ∧ s = ⟨[(5, sF 1 x62)], [nR x1, iO x62]⟩) ⟨[(0, sF 0 x1), (5, sF 1 x53), (6, I i54)], [nR x1, iO x53]⟩ := by
  intro n
  induction n with
  | zero => intro _ _ h; exact none_e h
  | succ n ih =>
    intro x53 i54 h
    rw [impl_PathTo_L1] at h
    refine WL_round ?_
    refine W_seq (Wsr ((Wp 2 [0, 1] [0, 5, 6, 13] T2 ⟨[(0, sF 0 x1), (5, sF 1 x53), (6, I i54), (13, B (decide (0 ≤ i54)))], [nR x1, iO x53]⟩ t2 (Wnt ((iteO_e h (fun hb65 h => W_true rfl hb65 ?_) (fun hb65 h => W_false rfl hb65 ?_)))))))
    ·refine Ww [0, 1] [0, 5, 6] ⟨[(0, sF 0 x1), (5, sF 1 x53), (6, I i54)], [nR x1, iO x53]⟩ (W_skip (thenS_n (W_seq (W_block (W_region (guardO_e h (fun hg67 h => (Wp 5 [0, 3] [0, 5, 6] ((0 = 0 ∧ x53.length = x53.length ∧ x53.length + (([i54].drop 0).take ([i54].length)).length ≤ 1099511627776) ∧ True) ⟨[(0, sF 0 x1), (5, .one (.e (.sl 1 0 ((x53 ++ (([i54].drop 0).take ([i54].length))).length)))), (6, I i54)], [nR x1, .row .int (x53 ++ (([i54].drop 0).take ([i54].length))) true]⟩ ⟨hg67, trivial⟩ (WO_nil rfl (blockS_n (thenS_n (W_region (guardO_e h (fun hg68 h => (Wp 6 [0, 1] [0, 5, 6] ((0 ≤ i54 ∧ i54 < (lI x1)) ∧ T2) ⟨[(0, sF 0 x1), (5, .one (.e (.sl 1 0 ((x53 ++ (([i54].drop 0).take ([i54].length))).length)))), (6, I ((x1.getD i54.toNat dnod).parent))], [nR x1, .row .int (x53 ++ (([i54].drop 0).take ([i54].length))) true]⟩ ⟨hg68, trivial, trivial⟩ (Wnt (?_)))))))))))))))))
     exact ih _ _ h
    ·refine Ww [0, 1] [5] ⟨[(5, sF 1 x53)], [nR x1, iO x53]⟩ (W_exit (thenS_e (thenS_e ?_)))
     cases h
     exact aI rfl rfl

def impl_PathTo (n : Nat) (x1 : List Nod) (i2 : Int) : Option ((List Int)) :=
 bindO (impl_isNode n x1 i2) fun b38 =>
 iteO (!b38)
 (some ([] : List Int))
 (bindO (impl_PathTo_L1 x1 n ([] : List Int) i2) fun x62 =>
 bindO (slices_Reverse_int_int n x62 x62.length) fun x70 =>
 guardO (x62.length = x70.length) <|
 some x70)

theorem impl_PathTo_ok (n : Nat) (x1 : List Nod) (i2 : Int) (x37 : List Int) (h : impl_PathTo n x1 i2 = some x37) : FOk EE 74 [sF 0 x1, I i2] [nR x1] (sF 1 x37) [nR x1, iO x37] := by
  unfold impl_PathTo at h
  refine FOk_of_W 26 1 Tryz.func74 rfl rfl (Nat.le_of_ble_eq_true rfl) rfl (fun w X θ => ?_)
  refine Wsr ((Ws 1 [0] [0, 1] ⟨[(0, sF 0 x1), (1, I i2)], [nR x1]⟩ (Wnt ((W_seq (W_seq ?_))))))
  refine W_region (Ws 2 [0] [0, 1, 7, 8] ⟨[(0, sF 0 x1), (1, I i2), (7, sF 0 x1), (8, I i2)], [nR x1]⟩ (bindO_e h (fun b38 hc39 h => (Wc [.ro 0] rfl rfl rfl Tryz.func111 rfl (impl_isNode_ok n x1 i2 b38 hc39) (aI (aI rfl rfl) (trivial)) rfl (Ws 1 [0] [0, 1, 10] ⟨[(0, sF 0 x1), (1, I i2), (10, B (!b38))], [nR x1]⟩ (Wnt (?_)))))))
  refine iteO_e h (fun hb41 h => W_true rfl hb41 ?_) (fun hb41 h => W_false rfl hb41 ?_)
  ·refine Wsr ((Ws 1 [0] [4] ⟨[(4, .one (.e (.nsl)))], [nR x1]⟩ (WO_nilrow 4 .int rfl (Wb [0, 1] [4] ⟨[(4, .one (.e (.sl 1 0 (([] : List Int).length))))], [nR x1, iO ([] : List Int)]⟩ (Wnt ((W_ret (thenS_r ?_))))))))
   cases h
   exact ⟨[0, 1], True, by kernel_rfl, trivial⟩
  ·refine Ww [0] [0, 1] ⟨[(0, sF 0 x1), (1, I i2)], [nR x1]⟩ (W_skip (thenS_n (Wsr ((Ws 1 [0] [0, 1, 5] ⟨[(0, sF 0 x1), (1, I i2), (5, .one (.e (.nsl)))], [nR x1]⟩ (WO_nilrow 5 .int rfl (Wb [0, 1] [0, 1, 5] ⟨[(0, sF 0 x1), (1, I i2), (5, .one (.e (.sl 1 0 (([] : List Int).length))))], [nR x1, iO ([] : List Int)]⟩ (Wnt ((W_seq (Wsr ((Ws 2 [0, 1] [0, 5, 6] ⟨[(0, sF 0 x1), (5, .one (.e (.sl 1 0 (([] : List Int).length)))), (6, I i2)], [nR x1, iO ([] : List Int)]⟩ (Wnt ((W_block (W_loop (bindO_e h (fun x62 hx62 h => (WL_cut (impl_PathTo_L1_ok w X θ x1 x62 n ([] : List Int) i2 hx62) ?_))))))))))))))))))))
   rintro _ _ ⟨rfl, rfl⟩
   refine blockS_y (thenS_n (Wsr ((Ws 1 [0, 1] [5, 23] ⟨[(5, sF 1 x62), (23, sF 1 x62)], [nR x1, iO x62]⟩ (bindO_e h (fun x70 hc71 h => (guardO_e h (fun hl72 h => (Wc [.own 1] rfl rfl rfl Tryz.func112 rfl (slices_Reverse_int_int_ok n x62 x62.length x70 hc71) (aI (aI rfl (aI rfl hl72)) (trivial)) rfl (Wb [0, 1] [5, 23] ⟨[(5, sF 1 x62), (23, sF 1 x62)], [nR x1, iO x70]⟩ (WO_eq (st' := ⟨[(5, sF 1 x70), (23, sF 1 x70)], [nR x1, iO x70]⟩) (by simp only [sF, hl72]) (Wb [0, 1] [5] ⟨[(5, sF 1 x70)], [nR x1, iO x70]⟩ (Wnt ((Wsr ((Ws 2 [0, 1] [4] ⟨[(4, sF 1 x70)], [nR x1, iO x70]⟩ (Wnt ((W_ret ?_))))))))))))))))))))
   cases h
   exact ⟨[0, 1], True, by kernel_rfl, trivial⟩

/- impl.NeedAbove -/
def impl_NeedAbove (i1 : Int) : Option (Int) :=
 iteO (decide (i1 = 0))
 (some 0)
 (bindO (iteO (decide (i1 = 1))
 (some (decide (i1 = 1)))
 (some (decide (i1 = 3)))) fun b159 =>
 iteO b159
 (some 1)
 (bindO (iteO (decide (i1 = 2))
 (some (decide (i1 = 2)))
 (bindO (iteO (decide (i1 = 4))
 (some (decide (i1 = 4)))
 (some (decide (i1 = 5)))) fun b180 =>
 some b180)) fun b176 =>
 iteO b176
 (some 2)
 (some (-1))))

theorem impl_NeedAbove_ok (i1 : Int) (i90 : Int) (h : impl_NeedAbove i1 = some i90) : FOk EE 118 [I i1] [] (I i90) [] := by
  unfold impl_NeedAbove at h
  refine FOk_of_W 13 0 Tryz.func118 rfl rfl (Nat.le_of_ble_eq_true rfl) rfl (fun w X θ => ?_)
  refine Wsr ((Ws 1 [] [0] ⟨[(0, I i1)], []⟩ (Wnt ((W_seq (W_seq ?_))))))
  refine W_region (Ws 1 [] [3] ⟨[(3, I i1)], []⟩ (Wnt ((W_block (W_seq (W_region ?_))))))
  refine Wp 2 [] [3, 4] T2 ⟨[(3, I i1), (4, B (decide (i1 = 0)))], []⟩ t2 (Wnt ((iteO_e h (fun hb157 h => W_true rfl hb157 ?_) (fun hb157 h => W_false rfl hb157 ?_))))
  ·refine Wsr ((Ws 1 [] [2] ⟨[(2, I 0)], []⟩ (Wnt ((W_ret (blockS_r (thenS_r ?_)))))))
   cases h
   exact ⟨[], True, by kernel_rfl, trivial⟩
  ·refine W_seq (Wsr ((Wp 2 [] [3, 6] T2 ⟨[(3, I i1), (6, B (decide (i1 = 1)))], []⟩ t2 (Wnt ((bindO_e h (fun b159 hb159 h => (W_cut (Q' := fun (e : Exit) (s : St) => e = .normal ∧ s = ⟨[(3, I i1), (6, B b159)], []⟩) ?_ ?_))))))))
   ·refine iteO_e hb159 (fun hb161 hb159 => W_true rfl hb161 ?_) (fun hb161 hb159 => W_false rfl hb161 ?_)
    ·refine W_skip ?_
     cases hb159
     exact aI rfl rfl
    ·refine W_region (Wp 2 [] [3, 6] T2 ⟨[(3, I i1), (6, B (decide (i1 = 3)))], []⟩ t2 (WO_nil rfl ?_))
     cases hb159
     exact aI rfl rfl
   ·rintro _ _ ⟨rfl, rfl⟩
    refine thenS_n (iteO_e h (fun hb171 h => W_true rfl hb171 ?_) (fun hb171 h => W_false rfl hb171 ?_))
    ·refine Wsr ((Ws 1 [] [2] ⟨[(2, I 1)], []⟩ (Wnt ((W_ret (blockS_r (thenS_r ?_)))))))
     cases h
     exact ⟨[], True, by kernel_rfl, trivial⟩
    ·refine W_seq (Wsr ((Wp 2 [] [3, 9] T2 ⟨[(3, I i1), (9, B (decide (i1 = 2)))], []⟩ t2 (Wnt ((bindO_e h (fun b176 hb176 h => (W_cut (Q' := fun (e : Exit) (s : St) => e = .normal ∧ s = ⟨[(9, B b176)], []⟩) ?_ ?_))))))))
     ·refine iteO_e hb176 (fun hb178 hb176 => W_true rfl hb178 ?_) (fun hb178 hb176 => W_false rfl hb178 ?_)
      ·refine Ww [] [9] ⟨[(9, B (decide (i1 = 2)))], []⟩ (W_skip ?_)
       cases hb176
       exact aI rfl rfl
      ·refine Wsr ((Wp 2 [] [3, 9] T2 ⟨[(3, I i1), (9, B (decide (i1 = 4)))], []⟩ t2 (Wnt ((bindO_e hb176 (fun b180 hb180 hb176 => (W_cut (Q' := fun (e : Exit) (s : St) => e = .normal ∧ s = ⟨[(9, B b180)], []⟩) ?_ ?_)))))))
       ·refine iteO_e hb180 (fun hb182 hb180 => W_true rfl hb182 ?_) (fun hb182 hb180 => W_false rfl hb182 ?_)
        ·refine Ww [] [9] ⟨[(9, B (decide (i1 = 4)))], []⟩ (W_skip ?_)
         cases hb180
         exact aI rfl rfl
        ·refine W_region (Wp 2 [] [9] T2 ⟨[(9, B (decide (i1 = 5)))], []⟩ t2 (WO_nil rfl ?_))
         cases hb180
         exact aI rfl rfl
       ·rintro _ _ ⟨rfl, rfl⟩
        cases hb176
        exact aI rfl rfl
     ·rintro _ _ ⟨rfl, rfl⟩
      refine thenS_n (iteO_e h (fun hb184 h => W_true rfl hb184 ?_) (fun hb184 h => W_false rfl hb184 ?_))
      ·refine Wsr ((Ws 1 [] [2] ⟨[(2, I 2)], []⟩ (Wnt ((W_ret (blockS_r (thenS_r ?_)))))))
       cases h
       exact ⟨[], True, by kernel_rfl, trivial⟩
      ·refine Ww [] [] ⟨[], []⟩ (W_skip (blockS_n (thenS_n (Wsr ((Ws 1 [] [2] ⟨[(2, I (-1))], []⟩ (Wnt ((W_ret ?_)))))))))
       cases h
       exact ⟨[], True, by kernel_rfl, trivial⟩

/- impl.LocksFor -/
def impl_LocksFor_L1 (i2 : Int) (i3 : Int) (i4 : Int) (x66 : List Int) (x1 : List Nod) : Nat → (List Lck) → Int → Option ((List Lck))
| 0, _, _ => none
| n + 1, x85, i86 =>
 iteO (decide (i86 < (((w64 (((x66.length : Nat) : Int) - 1)).toNat : Nat) : Int)))
 (guardO (0 ≤ i86 ∧ i86 < (((w64 (((x66.length : Nat) : Int) - 1)).toNat : Nat) : Int)) <|
 bindO (impl_NeedAbove i4) fun i108 =>
 guardO (0 = 0 ∧ x85.length = x85.length ∧ x85.length + (([(⟨i2, (x66.getD i86.toNat 0), i108⟩ : Lck)].drop 0).take ([(⟨i2, (x66.getD i86.toNat 0), i108⟩ : Lck)].length)).length ≤ 1099511627776) <|
 impl_LocksFor_L1 i2 i3 i4 x66 x1 n (x85 ++ (([(⟨i2, (x66.getD i86.toNat 0), i108⟩ : Lck)].drop 0).take ([(⟨i2, (x66.getD i86.toNat 0), i108⟩ : Lck)].length))) (w64 (i86 + 1)))
 (some x85)

theorem impl_LocksFor_L1_ok (w : World) (X : Nat → Prop) (θ : List Loc) (i2 : Int) (i3 : Int) (i4 : Int) (x66 : List Int) (x1 : List Nod) (x99 : (List Lck)) : ∀ (n : Nat) (x85 : List Lck) (i86 : Int), impl_LocksFor_L1 i2 i3 i4 x66 x1 n x85 i86 = some x99 → WL EE ⟨w, X, θ, 53, 1⟩ (subC [1, 1, 1, 1, 0, 1, 4, 4] (bodyC Tryz.f80)) (fun (e : Exit) (s : St) => e = .exit 0 ∧ s = ⟨[(1, I i2), (2, I i3), (3, I i4), (10, sF 1 x99)], [nR x1, lO x99]⟩) ⟨[(1, I i2), (2, I i3), (3, I i4), (10, sF 1 x85), (31, .one (.e (.sl 2 0 ((w64 (((x66.length : Nat) : Int) - 1)).toNat)))), (32, I (((w64 (((x66.length : Nat) : Int) - 1)).toNat : Nat) : Int)), (33, I i86)], [nR x1, lO x85, iO x66]⟩ := by
  intro n
  induction n with
  | zero => intro _ _ h; exact none_e h
  | succ n ih =>
    intro x85 i86 h
    rw [impl_LocksFor_L1] at h
    refine WL_round ?_
    refine Wsr ((Wp 1 [0, 1, 2] [1, 2, 3, 10, 31, 32, 33, 34] T2 ⟨[(1, I i2), (2, I i3), (3, I i4), (10, sF 1 x85), (31, .one (.e (.sl 2 0 ((w64 ((lI x66) - 1)).toNat)))), (32, I (((w64 ((lI x66) - 1)).toNat : Nat) : Int)), (33, I i86), (34, B (decide (i86 < (((w64 ((lI x66) - 1)).toNat : Nat) : Int))))], [nR x1, lO x85, iO x66]⟩ t2 (Wnt ((W_seq (iteO_e h (fun hb102 h => W_true rfl hb102 ?_) (fun hb102 h => W_false rfl hb102 ?_)))))))
    ·refine Ww [0, 1, 2] [1, 2, 3, 10, 31, 32, 33] ⟨[(1, I i2), (2, I i3), (3, I i4), (10, sF 1 x85), (31, .one (.e (.sl 2 0 ((w64 ((lI x66) - 1)).toNat)))), (32, I (((w64 ((lI x66) - 1)).toNat : Nat) : Int)), (33, I i86)], [nR x1, lO x85, iO x66]⟩ (W_skip (thenS_n (W_seq (W_block (Wsr ((guardO_e h (fun hg107 h => (Wp 3 [0, 1, 2] [1, 2, 3, 10, 12, 31, 32, 33] ((0 ≤ i86 ∧ i86 < (((w64 ((lI x66) - 1)).toNat : Nat) : Int)) ∧ T2) ⟨[(1, I i2), (2, I i3), (3, I i4), (10, sF 1 x85), (12, I (x66.getD i86.toNat 0)), (31, .one (.e (.sl 2 0 ((w64 ((lI x66) - 1)).toNat)))), (32, I (((w64 ((lI x66) - 1)).toNat : Nat) : Int)), (33, I i86)], [nR x1, lO x85, iO x66]⟩ ⟨hg107, trivial, trivial⟩ (Wnt ((W_region (Ws 4 [0, 2, 1] [1, 2, 3, 31, 32, 33, 37, 38, 39, 40] ⟨[(1, I i2), (2, I i3), (3, I i4), (31, .one (.e (.sl 1 0 ((w64 ((lI x66) - 1)).toNat)))), (32, I (((w64 ((lI x66) - 1)).toNat : Nat) : Int)), (33, I i86), (37, sF 2 x85), (38, I i2), (39, I (x66.getD i86.toNat 0)), (40, I i4)], [nR x1, iO x66, lO x85]⟩ (bindO_e h (fun i108 hc109 h => (Wc [] rfl rfl rfl Tryz.func118 rfl (impl_NeedAbove_ok i4 i108 hc109) (trivial) rfl (guardO_e h (fun hg110 h => (Wp 4 [0, 4, 1] [1, 2, 3, 10, 31, 32, 33] ((0 = 0 ∧ x85.length = x85.length ∧ x85.length + (([(⟨i2, (x66.getD i86.toNat 0), i108⟩ : Lck)].drop 0).take ([(⟨i2, (x66.getD i86.toNat 0), i108⟩ : Lck)].length)).length ≤ 1099511627776) ∧ True) ⟨[(1, I i2), (2, I i3), (3, I i4), (10, .one (.e (.sl 1 0 ((x85 ++ (([(⟨i2, (x66.getD i86.toNat 0), i108⟩ : Lck)].drop 0).take ([(⟨i2, (x66.getD i86.toNat 0), i108⟩ : Lck)].length))).length)))), (31, .one (.e (.sl 2 0 ((w64 ((lI x66) - 1)).toNat)))), (32, I (((w64 ((lI x66) - 1)).toNat : Nat) : Int)), (33, I i86)], [nR x1, .row .lck (x85 ++ (([(⟨i2, (x66.getD i86.toNat 0), i108⟩ : Lck)].drop 0).take ([(⟨i2, (x66.getD i86.toNat 0), i108⟩ : Lck)].length))) true, iO x66]⟩ ⟨hg110, trivial⟩ (WO_nil rfl (blockS_n (thenS_n (W_region (Wp 2 [0, 1, 2] [1, 2, 3, 10, 31, 32, 33] T2 ⟨[(1, I i2), (2, I i3), (3, I i4), (10, .one (.e (.sl 1 0 ((x85 ++ (([(⟨i2, (x66.getD i86.toNat 0), i108⟩ : Lck)].drop 0).take ([(⟨i2, (x66.getD i86.toNat 0), i108⟩ : Lck)].length))).length)))), (31, .one (.e (.sl 2 0 ((w64 ((lI x66) - 1)).toNat)))), (32, I (((w64 ((lI x66) - 1)).toNat : Nat) : Int)), (33, I (w64 (i86 + 1)))], [nR x1, .row .lck (x85 ++ (([(⟨i2, (x66.getD i86.toNat 0), i108⟩ : Lck)].drop 0).take ([(⟨i2, (x66.getD i86.toNat 0), i108⟩ : Lck)].length))) true, iO x66]⟩ t2 (Wnt (?_))))))))))))))))))))))))))
     exact ih _ _ h
    ·refine Ww [0, 1] [1, 2, 3, 10] ⟨[(1, I i2), (2, I i3), (3, I i4), (10, sF 1 x85)], [nR x1, lO x85]⟩ (W_exit (thenS_e (thenS_e ?_)))
     cases h
     exact aI rfl rfl

def impl_LocksFor (n : Nat) (x1 : List Nod) (i2 : Int) (i3 : Int) (i4 : Int) : Option ((List Lck)) :=
 bindO (impl_isNode n x1 i3) fun b59 =>
 iteO ((!b59) || (!(impl_isAsk i2 i3 i4)))
 (some ([] : List Lck))
 (bindO (impl_PathTo n x1 i3) fun x66 =>
 guardO (0 ≤ (w64 (((x66.length : Nat) : Int) - 1)) ∧ (w64 (((x66.length : Nat) : Int) - 1)) ≤ ((x66.length : Nat) : Int)) <|
 bindO (impl_LocksFor_L1 i2 i3 i4 x66 x1 n ([] : List Lck) 0) fun x99 =>
 guardO (0 = 0 ∧ x99.length = x99.length ∧ x99.length + (([(⟨i2, i3, i4⟩ : Lck)].drop 0).take ([(⟨i2, i3, i4⟩ : Lck)].length)).length ≤ 1099511627776) <|
 some (x99 ++ (([(⟨i2, i3, i4⟩ : Lck)].drop 0).take ([(⟨i2, i3, i4⟩ : Lck)].length))))

theorem impl_LocksFor_ok (n : Nat) (x1 : List Nod) (i2 : Int) (i3 : Int) (i4 : Int) (x58 : List Lck) (h : impl_LocksFor n x1 i2 i3 i4 = some x58) : FOk EE 80 [sF 0 x1, I i2, I i3, I i4] [nR x1] (sF 1 x58) [nR x1, lO x58] := by
  unfold impl_LocksFor at h
  refine FOk_of_W 53 1 Tryz.func80 rfl rfl (Nat.le_of_ble_eq_true rfl) rfl (fun w X θ => ?_)
  refine Wsr ((Ws 1 [0] [0, 1, 2, 3] ⟨[(0, sF 0 x1), (1, I i2), (2, I i3), (3, I i4)], [nR x1]⟩ (Wnt ((W_seq (W_seq ?_))))))
  refine W_region (Ws 2 [0] [0, 1, 2, 3, 13, 14] ⟨[(0, sF 0 x1), (1, I i2), (2, I i3), (3, I i4), (13, sF 0 x1), (14, I i3)], [nR x1]⟩ (bindO_e h (fun b59 hc60 h => (Wc [.ro 0] rfl rfl rfl Tryz.func111 rfl (impl_isNode_ok n x1 i3 b59 hc60) (aI (aI rfl rfl) (trivial)) rfl (Ws 2 [0] [0, 1, 2, 3, 17] ⟨[(0, sF 0 x1), (1, I i2), (2, I i3), (3, I i4), (17, B (!b59))], [nR x1]⟩ (WO_thru ⟨[(0, sF 0 x1), (1, I i2), (2, I i3), (3, I i4), (23, B ((!b59) || (!(impl_isAsk i2 i3 i4))))], [nR x1]⟩ ?_ ?_))))))
  ·refine WO_if 17 rfl (fun hb63 => ?_) (fun hb63 => ?_)
   ·refine Ws 6 [0] [0, 1, 2, 3, 23] ⟨[(0, sF 0 x1), (1, I i2), (2, I i3), (3, I i4), (23, B true)], [nR x1]⟩ ?_
    exact WO_nil rfl ⟨rfl, by first | rfl | (rw [hb63]; first | done | rfl)⟩
   ·refine Ws 3 [0] [0, 1, 2, 3, 17, 18, 19, 20] ⟨[(0, sF 0 x1), (1, I i2), (2, I i3), (3, I i4), (17, B false), (18, I i2), (19, I i3), (20, I i4)], [nR x1]⟩ (Wc [] rfl rfl rfl Tryz.func117 rfl (impl_isAsk_ok i2 i3 i4) (trivial) rfl (Ws 2 [0] [0, 1, 2, 3, 23] ⟨[(0, sF 0 x1), (1, I i2), (2, I i3), (3, I i4), (23, B (!(impl_isAsk i2 i3 i4)))], [nR x1]⟩ ?_))
    exact WO_nil rfl ⟨rfl, by first | rfl | (rw [hb63]; first | done | rfl)⟩
  ·refine thenS_n (iteO_e h (fun hb65 h => W_true rfl hb65 ?_) (fun hb65 h => W_false rfl hb65 ?_))
   ·refine Wsr ((Ws 1 [0] [8] ⟨[(8, .one (.e (.nsl)))], [nR x1]⟩ (WO_nilrow 8 .lck rfl (Wb [0, 1] [8] ⟨[(8, .one (.e (.sl 1 0 (([] : List Lck).length))))], [nR x1, lO ([] : List Lck)]⟩ (Wnt ((W_ret (thenS_r ?_))))))))
    cases h
    exact ⟨[0, 1], True, by kernel_rfl, trivial⟩
   ·refine Ww [0] [0, 1, 2, 3] ⟨[(0, sF 0 x1), (1, I i2), (2, I i3), (3, I i4)], [nR x1]⟩ (W_skip (thenS_n (Wsr ((Ws 2 [0] [1, 2, 3, 24, 25] ⟨[(1, I i2), (2, I i3), (3, I i4), (24, sF 0 x1), (25, I i3)], [nR x1]⟩ (bindO_e h (fun x66 hc67 h => (Wc [.ro 0] rfl rfl rfl Tryz.func74 rfl (impl_PathTo_ok n x1 i3 x66 hc67) (aI (aI rfl rfl) (trivial)) rfl (Ws 1 [0, 1] [1, 2, 3, 9] ⟨[(1, I i2), (2, I i3), (3, I i4), (9, sF 1 x66)], [nR x1, iO x66]⟩ (Wnt ((Wsr ((Ws 1 [0, 1] [1, 2, 3, 9, 10] ⟨[(1, I i2), (2, I i3), (3, I i4), (9, sF 1 x66), (10, .one (.e (.nsl)))], [nR x1, iO x66]⟩ (WO_nilrow 10 .lck rfl (Wb [0, 1, 2] [1, 2, 3, 9, 10] ⟨[(1, I i2), (2, I i3), (3, I i4), (9, sF 1 x66), (10, .one (.e (.sl 2 0 (([] : List Lck).length))))], [nR x1, iO x66, lO ([] : List Lck)]⟩ (Wnt ((W_seq (Wsr ((guardO_e h (fun hg68 h => (Wp 7 [0, 2, 1] [1, 2, 3, 10, 31, 32, 33] (True ∧ (True ∧ ((0 ≤ (w64 ((lI x66) - 1)) ∧ (w64 ((lI x66) - 1)) ≤ (lI x66)) ∧ T2))) ⟨[(1, I i2), (2, I i3), (3, I i4), (10, .one (.e (.sl 1 0 (([] : List Lck).length)))), (31, .one (.e (.sl 2 0 ((w64 ((lI x66) - 1)).toNat)))), (32, I (((w64 ((lI x66) - 1)).toNat : Nat) : Int)), (33, I 0)], [nR x1, lO ([] : List Lck), iO x66]⟩ ⟨trivial, trivial, hg68, trivial, trivial⟩ (Wnt ((W_block (W_loop (bindO_e h (fun x99 hx99 h => (WL_cut (impl_LocksFor_L1_ok w X θ i2 i3 i4 x66 x1 x99 n ([] : List Lck) 0 hx99) ?_)))))))))))))))))))))))))))))))
    rintro _ _ ⟨rfl, rfl⟩
    refine blockS_y (thenS_n (Wsr ((guardO_e h (fun hg112 h => (Wp 8 [0, 3] [8] ((0 = 0 ∧ x99.length = x99.length ∧ x99.length + (([(⟨i2, i3, i4⟩ : Lck)].drop 0).take ([(⟨i2, i3, i4⟩ : Lck)].length)).length ≤ 1099511627776) ∧ True) ⟨[(8, .one (.e (.sl 1 0 ((x99 ++ (([(⟨i2, i3, i4⟩ : Lck)].drop 0).take ([(⟨i2, i3, i4⟩ : Lck)].length))).length))))], [nR x1, .row .lck (x99 ++ (([(⟨i2, i3, i4⟩ : Lck)].drop 0).take ([(⟨i2, i3, i4⟩ : Lck)].length))) true]⟩ ⟨hg112, trivial⟩ (Wnt ((W_ret ?_)))))))))
    cases h
    exact ⟨[0, 1], True, by kernel_rfl, trivial⟩

/- impl.isMode -/
def impl_isMode (i1 : Int) : Bool :=
(impl_within i1 0 5)

theorem impl_isMode_ok (i1 : Int) : FOk EE 149 [I i1] [] (B (impl_isMode i1)) [] := by
  refine FOk_of_W 5 0 Tryz.func149 rfl rfl (Nat.le_of_ble_eq_true rfl) rfl (fun w X θ => ?_)
  refine Wsr ((Ws 1 [] [0] ⟨[(0, I i1)], []⟩ (Wnt ((W_seq (W_region ?_))))))
  refine Ws 1 [] [3] ⟨[(3, I i1)], []⟩ (Wc [] rfl rfl rfl Tryz.func49 rfl (impl_within_ok i1 0 5) (trivial) rfl (Ws 1 [] [2] ⟨[(2, B (impl_within i1 0 5))], []⟩ (Wnt ((W_ret ?_)))))
  exact ⟨[], True, by kernel_rfl, trivial⟩

/- impl.GoTogether -/
def impl_GoTogether (i1 : Int) (i2 : Int) : Option (Bool) :=
 bindO (iteO (impl_isMode i1)
 (iteO (impl_isMode i2)
 (guardO (0 ≤ i1 ∧ i1 < (6 : Int)) <|
 guardO (0 ≤ i2 ∧ i2 < (6 : Int)) <|
 guardO (((0 + (i1.toNat * 6)) + (i2.toNat * 1)) < gtab3.length) <|
 some (gtab3.getD ((0 + (i1.toNat * 6)) + (i2.toNat * 1)) false))
 (some false))
 (some false)) fun b21 =>
 some b21

theorem impl_GoTogether_ok (i1 : Int) (i2 : Int) (b15 : Bool) (h : impl_GoTogether i1 i2 = some b15) : FOk EE 121 [I i1, I i2] [] (B b15) [] := by
  unfold impl_GoTogether at h
  refine FOk_of_W 18 0 Tryz.func121 rfl rfl (Nat.le_of_ble_eq_true rfl) rfl (fun w X θ => ?_)
  refine Wsr ((Ws 1 [] [0, 1] ⟨[(0, I i1), (1, I i2)], []⟩ (Wnt ((W_seq (W_region ?_))))))
  refine Ws 1 [] [0, 1, 5] ⟨[(0, I i1), (1, I i2), (5, I i1)], []⟩ (Wc [] rfl rfl rfl Tryz.func149 rfl (impl_isMode_ok i1) (trivial) rfl (Ws 1 [] [0, 1, 7] ⟨[(0, I i1), (1, I i2), (7, B (impl_isMode i1))], []⟩ (bindO_e h (fun b21 hv22 h => (WO_thru ⟨[(4, B b21)], []⟩ ?_ ?_)))))
  ·refine iteO_e hv22 (fun hb23 hv22 => WO_known 7 true rfl hb23 ?_) (fun hb23 hv22 => WO_known 7 false rfl hb23 ?_)
   ·refine Ws 1 [] [0, 1, 7, 8] ⟨[(0, I i1), (1, I i2), (7, B true), (8, I i2)], []⟩ (Wc [] rfl rfl rfl Tryz.func149 rfl (impl_isMode_ok i2) (trivial) rfl (Ws 2 [] [0, 1, 11] ⟨[(0, I i1), (1, I i2), (11, B (impl_isMode i2))], []⟩ (iteO_e hv22 (fun hb24 hv22 => WO_known 11 true rfl hb24 ?_) (fun hb24 hv22 => WO_known 11 false rfl hb24 ?_))))
    ·refine guardO_e hv22 (fun hg25 hv22 => (guardO_e hv22 (fun hg26 hv22 => (guardO_e hv22 (fun hg27 hv22 => (Wp 7 [] [4] ((0 ≤ i1 ∧ i1 < (6 : Int)) ∧ ((0 ≤ i2 ∧ i2 < (6 : Int)) ∧ ((((0 + (i1.toNat * 6)) + (i2.toNat * 1)) < gtab3.length) ∧ True))) ⟨[(4, B (gtab3.getD ((0 + (i1.toNat * 6)) + (i2.toNat * 1)) false))], []⟩ ⟨hg25, hg26, hg27, trivial⟩ ?_))))))
     cases hv22
     exact WO_nil rfl ⟨rfl, rfl⟩
    ·refine Ws 7 [] [4] ⟨[(4, B false)], []⟩ ?_
     cases hv22
     exact WO_nil rfl ⟨rfl, rfl⟩
   ·refine Ws 11 [] [4] ⟨[(4, B false)], []⟩ ?_
    cases hv22
    exact WO_nil rfl ⟨rfl, rfl⟩
  ·refine thenS_n (W_ret ?_)
   cases h
   exact ⟨[], True, by kernel_rfl, trivial⟩

/- impl.ValidTable -/
def impl_ValidTable_L2 (x1 : List Lck) (i578 : Int) : Nat → Int → Option ((Unit) ⊕ (Unit))
| 0, _ => none
| n + 1, i818 =>
 iteO (decide (i818 < ((i578.toNat : Nat) : Int)))
 (guardO (0 ≤ i818 ∧ i818 < ((i578.toNat : Nat) : Int)) <|
 bindO (iteO (decide (((x1.getD i578.toNat dlck).node) = ((x1.getD i818.toNat dlck).node)))
 (iteO (decide (((x1.getD i578.toNat dlck).who) = ((x1.getD i818.toNat dlck).who)))
 (some true)
 (bindO (impl_GoTogether ((x1.getD i578.toNat dlck).mode) ((x1.getD i818.toNat dlck).mode)) fun b873 =>
 some (!b873)))
 (some false)) fun b869 =>
 iteO b869
 (some (.inl ()))
 (impl_ValidTable_L2 x1 i578 n (w64 (i818 + 1))))
 (some (.inr ()))

theorem impl_ValidTable_L2_ok (w : World) (X : Nat → Prop) (θ : List Loc) (x1 : List Lck) (i578 : Int) (v : (Unit) ⊕ (Unit)) : ∀ (n : Nat) (i818 : Int), impl_ValidTable_L2 x1 i578 n i818 = some v → WL EE ⟨w, X, θ, 55, 1⟩ (subC [1, 1, 0, 1, 4, 4, 1, 1, 0, 4, 1, 1, 1, 4, 4] (bodyC Tryz.f86)) (fun (e : Exit) (s : St) => (match v with | (.inl _) => e = .ret ∧ s = ⟨[(2, B false)], [lR x1]⟩ | (.inr _) => e = .exit 2 ∧ s = ⟨[(0, sF 0 x1), (10, sF 0 x1), (11, I ((x1.length : Nat) : Int)), (12, I i578)], [lR x1]⟩ : Prop)) ⟨[(0, sF 0 x1), (4, pA 1 0), (10, sF 0 x1), (11, I ((x1.length : Nat) : Int)), (12, I i578), (27, .one (.e (.sl 0 0 i578.toNat))), (28, I ((i578.toNat : Nat) : Int)), (29, I i818)], [lR x1, .cells [cI ((x1.getD i578.toNat dlck).who), cI ((x1.getD i578.toNat dlck).node), cI ((x1.getD i578.toNat dlck).mode)]]⟩ := by
  intro n
  induction n with
  | zero => intro _ h; exact none_e h
  | succ n ih =>
    intro i818 h
    rw [impl_ValidTable_L2] at h
    refine WL_round ?_
    refine Wsr ((Wp 1 [0, 1] [0, 4, 10, 11, 12, 27, 28, 29, 30] T2 ⟨[(0, sF 0 x1), (4, pA 1 0), (10, sF 0 x1), (11, I (lI x1)), (12, I i578), (27, .one (.e (.sl 0 0 i578.toNat))), (28, I ((i578.toNat : Nat) : Int)), (29, I i818), (30, B (decide (i818 < ((i578.toNat : Nat) : Int))))], [lR x1, .cells [cI ((x1.getD i578.toNat dlck).who), cI ((x1.getD i578.toNat dlck).node), cI ((x1.getD i578.toNat dlck).mode)]]⟩ t2 (Wnt ((W_seq (iteO_e h (fun hb850 h => W_true rfl hb850 ?_) (fun hb850 h => W_false rfl hb850 ?_)))))))
    ·refine Ww [0, 1] [0, 4, 10, 11, 12, 27, 28, 29] ⟨[(0, sF 0 x1), (4, pA 1 0), (10, sF 0 x1), (11, I (lI x1)), (12, I i578), (27, .one (.e (.sl 0 0 i578.toNat))), (28, I ((i578.toNat : Nat) : Int)), (29, I i818)], [lR x1, .cells [cI ((x1.getD i578.toNat dlck).who), cI ((x1.getD i578.toNat dlck).node), cI ((x1.getD i578.toNat dlck).mode)]]⟩ (W_skip (thenS_n (W_seq (W_block (Wsr ((guardO_e h (fun hg864 h => (Wp 4 [0, 1, 2] [0, 4, 6, 10, 11, 12, 27, 28, 29] ((0 ≤ i818 ∧ i818 < ((i578.toNat : Nat) : Int)) ∧ T4) ⟨[(0, sF 0 x1), (4, pA 1 0), (6, pA 2 0), (10, sF 0 x1), (11, I (lI x1)), (12, I i578), (27, .one (.e (.sl 0 0 i578.toNat))), (28, I ((i578.toNat : Nat) : Int)), (29, I i818)], [lR x1, .cells [cI ((x1.getD i578.toNat dlck).who), cI ((x1.getD i578.toNat dlck).node), cI ((x1.getD i578.toNat dlck).mode)], .cells [cI ((x1.getD i818.toNat dlck).who), cI ((x1.getD i818.toNat dlck).node), cI ((x1.getD i818.toNat dlck).mode)]]⟩ ⟨hg864, trivial, trivial, trivial, trivial⟩ (Wnt ((Wsr ((Wp 6 [0, 1, 2] [0, 4, 6, 10, 11, 12, 27, 28, 29, 38] T4 ⟨[(0, sF 0 x1), (4, pA 1 0), (6, pA 2 0), (10, sF 0 x1), (11, I (lI x1)), (12, I i578), (27, .one (.e (.sl 0 0 i578.toNat))), (28, I ((i578.toNat : Nat) : Int)), (29, I i818), (38, B (decide (((x1.getD i578.toNat dlck).node) = ((x1.getD i818.toNat dlck).node))))], [lR x1, .cells [cI ((x1.getD i578.toNat dlck).who), cI ((x1.getD i578.toNat dlck).node), cI ((x1.getD i578.toNat dlck).mode)], .cells [cI ((x1.getD i818.toNat dlck).who), cI ((x1.getD i818.toNat dlck).node), cI ((x1.getD i818.toNat dlck).mode)]]⟩ t4 (bindO_e h (fun b869 hv870 h => (WO_thru ⟨[(0, sF 0 x1), (4, pA 1 0), (10, sF 0 x1), (11, I (lI x1)), (12, I i578), (27, .one (.e (.sl 0 0 i578.toNat))), (28, I ((i578.toNat : Nat) : Int)), (29, I i818), (52, B b869)], [lR x1, .cells [cI ((x1.getD i578.toNat dlck).who), cI ((x1.getD i578.toNat dlck).node), cI ((x1.getD i578.toNat dlck).mode)]]⟩ ?_ ?_)))))))))))))))))
     ·refine iteO_e hv870 (fun hb871 hv870 => WO_known 38 true rfl hb871 ?_) (fun hb871 hv870 => WO_known 38 false rfl hb871 ?_)
      ·refine Wp 6 [0, 1, 2] [0, 4, 6, 10, 11, 12, 27, 28, 29, 38, 44] T4 ⟨[(0, sF 0 x1), (4, pA 1 0), (6, pA 2 0), (10, sF 0 x1), (11, I (lI x1)), (12, I i578), (27, .one (.e (.sl 0 0 i578.toNat))), (28, I ((i578.toNat : Nat) : Int)), (29, I i818), (38, B true), (44, B (decide (((x1.getD i578.toNat dlck).who) = ((x1.getD i818.toNat dlck).who))))], [lR x1, .cells [cI ((x1.getD i578.toNat dlck).who), cI ((x1.getD i578.toNat dlck).node), cI ((x1.getD i578.toNat dlck).mode)], .cells [cI ((x1.getD i818.toNat dlck).who), cI ((x1.getD i818.toNat dlck).node), cI ((x1.getD i818.toNat dlck).mode)]]⟩ t4 (iteO_e hv870 (fun hb872 hv870 => WO_known 44 true rfl hb872 ?_) (fun hb872 hv870 => WO_known 44 false rfl hb872 ?_))
       ·refine Ws 8 [0, 1] [0, 4, 10, 11, 12, 27, 28, 29, 52] ⟨[(0, sF 0 x1), (4, pA 1 0), (10, sF 0 x1), (11, I (lI x1)), (12, I i578), (27, .one (.e (.sl 0 0 i578.toNat))), (28, I ((i578.toNat : Nat) : Int)), (29, I i818), (52, B true)], [lR x1, .cells [cI ((x1.getD i578.toNat dlck).who), cI ((x1.getD i578.toNat dlck).node), cI ((x1.getD i578.toNat dlck).mode)]]⟩ ?_
        cases hv870
        exact WO_nil rfl ⟨rfl, rfl⟩
       ·refine Wp 4 [0, 1] [0, 4, 10, 11, 12, 27, 28, 29, 38, 44, 46, 48] T3 ⟨[(0, sF 0 x1), (4, pA 1 0), (10, sF 0 x1), (11, I (lI x1)), (12, I i578), (27, .one (.e (.sl 0 0 i578.toNat))), (28, I ((i578.toNat : Nat) : Int)), (29, I i818), (38, B true), (44, B false), (46, I ((x1.getD i578.toNat dlck).mode)), (48, I ((x1.getD i818.toNat dlck).mode))], [lR x1, .cells [cI ((x1.getD i578.toNat dlck).who), cI ((x1.getD i578.toNat dlck).node), cI ((x1.getD i578.toNat dlck).mode)]]⟩ t3 (bindO_e hv870 (fun b873 hc874 hv870 => (Wc [] rfl rfl rfl Tryz.func121 rfl (impl_GoTogether_ok ((x1.getD i578.toNat dlck).mode) ((x1.getD i818.toNat dlck).mode) b873 hc874) (trivial) rfl (Ws 3 [0, 1] [0, 4, 10, 11, 12, 27, 28, 29, 52] ⟨[(0, sF 0 x1), (4, pA 1 0), (10, sF 0 x1), (11, I (lI x1)), (12, I i578), (27, .one (.e (.sl 0 0 i578.toNat))), (28, I ((i578.toNat : Nat) : Int)), (29, I i818), (52, B (!b873))], [lR x1, .cells [cI ((x1.getD i578.toNat dlck).who), cI ((x1.getD i578.toNat dlck).node), cI ((x1.getD i578.toNat dlck).mode)]]⟩ ?_))))
        cases hv870
        exact WO_nil rfl ⟨rfl, rfl⟩
      ·refine Ws 14 [0, 1] [0, 4, 10, 11, 12, 27, 28, 29, 52] ⟨[(0, sF 0 x1), (4, pA 1 0), (10, sF 0 x1), (11, I (lI x1)), (12, I i578), (27, .one (.e (.sl 0 0 i578.toNat))), (28, I ((i578.toNat : Nat) : Int)), (29, I i818), (52, B false)], [lR x1, .cells [cI ((x1.getD i578.toNat dlck).who), cI ((x1.getD i578.toNat dlck).node), cI ((x1.getD i578.toNat dlck).mode)]]⟩ ?_
       cases hv870
       exact WO_nil rfl ⟨rfl, rfl⟩
     ·refine thenS_n (iteO_e h (fun hb876 h => W_true rfl hb876 ?_) (fun hb876 h => W_false rfl hb876 ?_))
      ·refine Wsr ((Ws 1 [0] [2] ⟨[(2, B false)], [lR x1]⟩ (Wnt ((W_ret (blockS_r (thenS_r (thenS_r ?_))))))))
       cases h
       exact aI rfl rfl
      ·refine Ww [0, 1] [0, 4, 10, 11, 12, 27, 28, 29] ⟨[(0, sF 0 x1), (4, pA 1 0), (10, sF 0 x1), (11, I (lI x1)), (12, I i578), (27, .one (.e (.sl 0 0 i578.toNat))), (28, I ((i578.toNat : Nat) : Int)), (29, I i818)], [lR x1, .cells [cI ((x1.getD i578.toNat dlck).who), cI ((x1.getD i578.toNat dlck).node), cI ((x1.getD i578.toNat dlck).mode)]]⟩ (W_skip (blockS_n (thenS_n (W_region (Wp 2 [0, 1] [0, 4, 10, 11, 12, 27, 28, 29] T2 ⟨[(0, sF 0 x1), (4, pA 1 0), (10, sF 0 x1), (11, I (lI x1)), (12, I i578), (27, .one (.e (.sl 0 0 i578.toNat))), (28, I ((i578.toNat : Nat) : Int)), (29, I (w64 (i818 + 1)))], [lR x1, .cells [cI ((x1.getD i578.toNat dlck).who), cI ((x1.getD i578.toNat dlck).node), cI ((x1.getD i578.toNat dlck).mode)]]⟩ t2 (Wnt (?_)))))))
       exact ih _ h
    ·refine Ww [0] [0, 10, 11, 12] ⟨[(0, sF 0 x1), (10, sF 0 x1), (11, I (lI x1)), (12, I i578)], [lR x1]⟩ (W_exit (thenS_e (thenS_e ?_)))
     cases h
     exact aI rfl rfl

def impl_ValidTable_L1 (x1 : List Lck) : Nat → Int → Option ((Unit) ⊕ (Unit))
| 0, _ => none
| n + 1, i578 =>
 iteO (decide (i578 < ((x1.length : Nat) : Int)))
 (guardO (0 ≤ i578 ∧ i578 < ((x1.length : Nat) : Int)) <|
 iteO (!(impl_isAsk ((x1.getD i578.toNat dlck).who) ((x1.getD i578.toNat dlck).node) ((x1.getD i578.toNat dlck).mode)))
 (some (.inl ()))
 (guardO (0 ≤ i578 ∧ i578 ≤ ((x1.length : Nat) : Int)) <|
 bindO (impl_ValidTable_L2 x1 i578 n 0) fun v877 =>
 match v877 with
 | (.inl _) => (some (.inl ()))
 | (.inr _) => (impl_ValidTable_L1 x1 n (w64 (i578 + 1)))
))
 (some (.inr ()))

theorem impl_ValidTable_L1_ok (w : World) (X : Nat → Prop) (θ : List Loc) (x1 : List Lck) (v : (Unit) ⊕ (Unit)) : ∀ (n : Nat) (i578 : Int), impl_ValidTable_L1 x1 n i578 = some v → WL EE ⟨w, X, θ, 55, 1⟩ (subC [1, 1, 0, 1, 4, 4] (bodyC Tryz.f86)) (fun (e : Exit) (s : St) => (match v with | (.inl _) => e = .ret ∧ s = ⟨[(2, B false)], [lR x1]⟩ | (.inr _) => e = .exit 0 ∧ s = ⟨[], [lR x1]⟩ : Prop)) ⟨[(0, sF 0 x1), (10, sF 0 x1), (11, I ((x1.length : Nat) : Int)), (12, I i578)], [lR x1]⟩ := by
  intro n
  induction n with
  | zero => intro _ h; exact none_e h
  | succ n ih =>
    intro i578 h
    rw [impl_ValidTable_L1] at h
    refine WL_round ?_
    refine Wsr ((Wp 1 [0] [0, 10, 11, 12, 13] T2 ⟨[(0, sF 0 x1), (10, sF 0 x1), (11, I (lI x1)), (12, I i578), (13, B (decide (i578 < (lI x1))))], [lR x1]⟩ t2 (Wnt ((W_seq (iteO_e h (fun hb716 h => W_true rfl hb716 ?_) (fun hb716 h => W_false rfl hb716 ?_)))))))
    ·refine Ww [0] [0, 10, 11, 12] ⟨[(0, sF 0 x1), (10, sF 0 x1), (11, I (lI x1)), (12, I i578)], [lR x1]⟩ (W_skip (thenS_n (W_seq (W_block (Wsr ((guardO_e h (fun hg783 h => (Wp 6 [0, 1] [0, 3, 4, 10, 11, 12] ((0 ≤ i578 ∧ i578 < (lI x1)) ∧ T4) ⟨[(0, sF 0 x1), (3, I i578), (4, pA 1 0), (10, sF 0 x1), (11, I (lI x1)), (12, I i578)], [lR x1, .cells [cI ((x1.getD i578.toNat dlck).who), cI ((x1.getD i578.toNat dlck).node), cI ((x1.getD i578.toNat dlck).mode)]]⟩ ⟨hg783, trivial, trivial, trivial, trivial⟩ (Wnt ((W_seq (Wsr ((Wp 6 [0, 1] [0, 3, 4, 10, 11, 12, 18, 20, 22] T4 ⟨[(0, sF 0 x1), (3, I i578), (4, pA 1 0), (10, sF 0 x1), (11, I (lI x1)), (12, I i578), (18, I ((x1.getD i578.toNat dlck).who)), (20, I ((x1.getD i578.toNat dlck).node)), (22, I ((x1.getD i578.toNat dlck).mode))], [lR x1, .cells [cI ((x1.getD i578.toNat dlck).who), cI ((x1.getD i578.toNat dlck).node), cI ((x1.getD i578.toNat dlck).mode)]]⟩ t4 (Wc [] rfl rfl rfl Tryz.func117 rfl (impl_isAsk_ok ((x1.getD i578.toNat dlck).who) ((x1.getD i578.toNat dlck).node) ((x1.getD i578.toNat dlck).mode)) (trivial) rfl (Ws 1 [0, 1] [0, 3, 4, 10, 11, 12, 24] ⟨[(0, sF 0 x1), (3, I i578), (4, pA 1 0), (10, sF 0 x1), (11, I (lI x1)), (12, I i578), (24, B (!(impl_isAsk ((x1.getD i578.toNat dlck).who) ((x1.getD i578.toNat dlck).node) ((x1.getD i578.toNat dlck).mode))))], [lR x1, .cells [cI ((x1.getD i578.toNat dlck).who), cI ((x1.getD i578.toNat dlck).node), cI ((x1.getD i578.toNat dlck).mode)]]⟩ (Wnt ((iteO_e h (fun hb785 h => W_true rfl hb785 ?_) (fun hb785 h => W_false rfl hb785 ?_)))))))))))))))))))))
     ·refine Wsr ((Ws 1 [0] [2] ⟨[(2, B false)], [lR x1]⟩ (Wnt ((W_ret (thenS_r (blockS_r (thenS_r (thenS_r ?_)))))))))
      cases h
      exact aI rfl rfl
     ·refine Ww [0, 1] [0, 3, 4, 10, 11, 12] ⟨[(0, sF 0 x1), (3, I i578), (4, pA 1 0), (10, sF 0 x1), (11, I (lI x1)), (12, I i578)], [lR x1, .cells [cI ((x1.getD i578.toNat dlck).who), cI ((x1.getD i578.toNat dlck).node), cI ((x1.getD i578.toNat dlck).mode)]]⟩ (W_skip (thenS_n (Wsr ((guardO_e h (fun hg786 h => (Wp 5 [0, 1] [0, 4, 10, 11, 12, 27, 28, 29] ((0 ≤ i578 ∧ i578 ≤ (lI x1)) ∧ T2) ⟨[(0, sF 0 x1), (4, pA 1 0), (10, sF 0 x1), (11, I (lI x1)), (12, I i578), (27, .one (.e (.sl 0 0 i578.toNat))), (28, I ((i578.toNat : Nat) : Int)), (29, I 0)], [lR x1, .cells [cI ((x1.getD i578.toNat dlck).who), cI ((x1.getD i578.toNat dlck).node), cI ((x1.getD i578.toNat dlck).mode)]]⟩ ⟨hg786, trivial, trivial⟩ (Wnt ((W_block (W_loop (bindO_e h (fun v877 hv877 h => (WL_cut (impl_ValidTable_L2_ok w X θ x1 i578 v877 n 0 hv877) ?_))))))))))))))
      rcases v877 with _ | _
      ·rintro _ _ ⟨rfl, rfl⟩
       refine blockS_r (blockS_r (thenS_r (thenS_r ?_)))
       cases h
       exact aI rfl rfl
      ·rintro _ _ ⟨rfl, rfl⟩
       refine blockS_y (blockS_n (thenS_n (W_region (Wp 2 [0] [0, 10, 11, 12] T2 ⟨[(0, sF 0 x1), (10, sF 0 x1), (11, I (lI x1)), (12, I (w64 (i578 + 1)))], [lR x1]⟩ t2 (Wnt (?_))))))
       exact ih _ h
    ·refine Ww [0] [] ⟨[], [lR x1]⟩ (W_exit (thenS_e (thenS_e ?_)))
     cases h
     exact aI rfl rfl

def impl_ValidTable (n : Nat) (x1 : List Lck) : Option (Bool) :=
 iteO (decide (48 < ((x1.length : Nat) : Int)))
 (some false)
 (bindO (impl_ValidTable_L1 x1 n 0) fun v878 =>
 match v878 with
 | (.inl _) => (some false)
 | (.inr _) => (some true)
)

theorem impl_ValidTable_ok (n : Nat) (x1 : List Lck) (b438 : Bool) (h : impl_ValidTable n x1 = some b438) : FOk EE 86 [sF 0 x1] [lR x1] (B b438) [lR x1] := by
  unfold impl_ValidTable at h
  refine FOk_of_W 55 1 Tryz.func86 rfl rfl (Nat.le_of_ble_eq_true rfl) rfl (fun w X θ => ?_)
  refine Wsr ((Ws 1 [0] [0] ⟨[(0, sF 0 x1)], [lR x1]⟩ (Wnt ((W_seq (W_seq ?_))))))
  refine W_region (Wp 3 [0] [0, 9] T3 ⟨[(0, sF 0 x1), (9, B (decide (48 < (lI x1))))], [lR x1]⟩ t3 (Wnt ((iteO_e h (fun hb440 h => W_true rfl hb440 ?_) (fun hb440 h => W_false rfl hb440 ?_)))))
  ·refine Wsr ((Ws 1 [0] [2] ⟨[(2, B false)], [lR x1]⟩ (Wnt ((W_ret (thenS_r ?_))))))
   cases h
   exact ⟨[0], True, by kernel_rfl, trivial⟩
  ·refine Ww [0] [0] ⟨[(0, sF 0 x1)], [lR x1]⟩ (W_skip (thenS_n (W_seq (Wsr ((Wp 3 [0] [0, 10, 11, 12] T2 ⟨[(0, sF 0 x1), (10, sF 0 x1), (11, I (lI x1)), (12, I 0)], [lR x1]⟩ t2 (Wnt ((W_block (W_loop (bindO_e h (fun v878 hv878 h => (WL_cut (impl_ValidTable_L1_ok w X θ x1 v878 n 0 hv878) ?_)))))))))))))
   rcases v878 with _ | _
   ·rintro _ _ ⟨rfl, rfl⟩
    refine blockS_r (thenS_r ?_)
    cases h
    exact ⟨[0], True, by kernel_rfl, trivial⟩
   ·rintro _ _ ⟨rfl, rfl⟩
    refine blockS_y (thenS_n (Wsr ((Ws 1 [0] [2] ⟨[(2, B true)], [lR x1]⟩ (Wnt ((W_ret ?_)))))))
    cases h
    exact ⟨[0], True, by kernel_rfl, trivial⟩

/- impl.Lock] -/
def slices_Clone_Lock (x1 : List Lck) : Option (List Lck) :=
 guardO (x1.length ≤ 1099511627776) <|
 some x1

theorem slices_Clone_Lock_ok (x1 x2 : List Lck) (h : slices_Clone_Lock x1 = some x2) : FOk EE 115 [sF 0 x1] [lR x1] (sF 1 x2) [lR x1, lO x2] := by
  unfold slices_Clone_Lock at h
  refine guardO_e h (fun hg h => ?_)
  cases h
  refine FOk_of_W 8 1 Tryz.func115 rfl rfl (Nat.le_of_ble_eq_true rfl) rfl (fun w X θ => ?_)
  refine W_seq ?_
  refine W_region ?_
  refine Ws 1 [0] [0] ⟨[(0, sF 0 x1)], [lR x1]⟩ ?_
  refine WO_nil rfl ?_
  refine thenS_n ?_
  refine W_seq ?_
  refine W_seq ?_
  refine W_region ?_
  refine Ws 1 [0] [0, 3] ⟨[(0, sF 0 x1), (3, sF 0 x1)], [lR x1]⟩ ?_
  refine WO_isnil (R := .lck) (xs := x1) (own := false) rfl rfl rfl rfl Tryz.underlying48 rfl rfl rfl (fun b hb => ?_)
  refine WO_nil rfl ?_
  refine thenS_n ?_
  cases b with
  | true =>
    have e : x1 = [] := List.eq_nil_of_length_eq_zero (hb rfl)
    subst e
    refine W_true rfl rfl ?_
    refine W_seq ?_
    refine W_region ?_
    refine Ws 1 [0] [2] ⟨[(2, .one (.e .nsl))], [.row .lck [] false]⟩ ?_
    refine WO_nil rfl ?_
    refine thenS_n ?_
    refine W_nil 2 .lck rfl ?_
    refine W_ret ?_
    refine thenS_r ?_
    exact ⟨[0, 1], True, by kernel_rfl, trivial⟩
  | false =>
    refine W_false rfl rfl ?_
    refine Ww [0] [0] ⟨[(0, sF 0 x1)], [lR x1]⟩ ?_
    refine W_skip ?_
    refine thenS_n ?_
    refine W_seq ?_
    refine W_region ?_
    refine Wp 4 [0, 2] [2] ((0 = 0 ∧ 0 = ([] : List Lck).length ∧ ([] : List Lck).length + ((x1.drop 0).take x1.length).length ≤ 1099511627776) ∧ True) ⟨[(2, .one (.e (.sl 1 0 (([] : List Lck) ++ ((x1.drop 0).take x1.length)).length)))], [lR x1, .row .lck (([] : List Lck) ++ ((x1.drop 0).take x1.length)) true]⟩ ⟨⟨rfl, rfl, by simpa using hg⟩, trivial⟩ ?_
    refine WO_eq (st' := ⟨[(2, sF 1 x1)], [lR x1, lO x1]⟩) (by simp only [List.drop_zero, List.take_length, List.nil_append]) ?_
    refine WO_nil rfl ?_
    refine thenS_n ?_
    refine W_ret ?_
    exact ⟨[0, 1], True, by kernel_rfl, trivial⟩

/- impl.lockAt$1 -/
def impl_lockAt_1 (x1 : Lck) (i2 : Int) (i3 : Int) : Bool :=
((decide (x1.who = i2)) && (decide (x1.node = i3)))

theorem impl_lockAt_1_ok (x1 : Lck) (i2 : Int) (i3 : Int) : FOk EE 168 [AGG [cI x1.who, cI x1.node, cI x1.mode], pA 0 0, pA 1 0] [.cells [cI i2], .cells [cI i3]] (B (impl_lockAt_1 x1 i2 i3)) [.cells [cI i2], .cells [cI i3]] := by
  refine FOk_of_W 15 2 Tryz.func168 rfl rfl (Nat.le_of_ble_eq_true rfl) rfl (fun w X θ => ?_)
  refine Wsr ((Wp 2 [0, 1, 2] [1, 2, 3] T2 ⟨[(1, pA 0 0), (2, pA 1 0), (3, pA 2 0)], [.cells [cI i2], .cells [cI i3], .cells [cI x1.who, cI x1.node, cI x1.mode]]⟩ t2 (Wnt ((W_seq (W_region ?_))))))
  refine Wp 5 [0, 1, 2] [2, 3, 9] T4 ⟨[(2, pA 1 0), (3, pA 2 0), (9, B (decide (x1.who = i2)))], [.cells [cI i2], .cells [cI i3], .cells [cI x1.who, cI x1.node, cI x1.mode]]⟩ t4 (WO_thru ⟨[(4, B ((decide (x1.who = i2)) && (decide (x1.node = i3))))], [.cells [cI i2], .cells [cI i3]]⟩ ?_ ?_)
  ·refine WO_if 9 rfl (fun hb10 => ?_) (fun hb10 => ?_)
   ·refine Wp 6 [0, 1] [4] T4 ⟨[(4, B (decide (x1.node = i3)))], [.cells [cI i2], .cells [cI i3]]⟩ t4 ?_
    exact WO_nil rfl ⟨rfl, by first | rfl | (rw [hb10]; first | done | rfl)⟩
   ·refine Ws 6 [0, 1] [4] ⟨[(4, B false)], [.cells [cI i2], .cells [cI i3]]⟩ ?_
    exact WO_nil rfl ⟨rfl, by first | rfl | (rw [hb10]; first | done | rfl)⟩
  ·refine thenS_n (W_ret ?_)
   exact ⟨[0, 1], True, by kernel_rfl, trivial⟩

/- impl.Lock] -/
def slices_IndexFunc_Lock_impl_lockAt_1_L1 (x1 : List Lck) (i2 : Int) (i3 : Int) : Nat → Int → Option ((Int) ⊕ (Unit))
| 0, _ => none
| n + 1, i49 =>
 iteO (decide (i49 < ((x1.length : Nat) : Int)))
 (guardO (0 ≤ i49 ∧ i49 < ((x1.length : Nat) : Int)) <|
 iteO (impl_lockAt_1 (x1.getD i49.toNat dlck) i2 i3)
 (some (.inl i49))
 (slices_IndexFunc_Lock_impl_lockAt_1_L1 x1 i2 i3 n (w64 (i49 + 1))))
 (some (.inr ()))

theorem slices_IndexFunc_Lock_impl_lockAt_1_L1_ok (w : World) (X : Nat → Prop) (θ : List Loc) (x1 : List Lck) (i2 : Int) (i3 : Int) (v : (Int) ⊕ (Unit)) : ∀ (n : Nat) (i49 : Int), slices_IndexFunc_Lock_impl_lockAt_1_L1 x1 i2 i3 n i49 = some v → WL EE ⟨w, X, θ, 19, 3⟩ (subC [1, 0, 1, 4, 4] (bodyC Tryz.f167)) (fun (e : Exit) (s : St) => (match v with | (.inl i59) => e = .ret ∧ s = ⟨[(4, I i59)], [lR x1, .cells [cI i2], .cells [cI i3]]⟩ | (.inr _) => e = .exit 0 ∧ s = ⟨[], [lR x1, .cells [cI i2], .cells [cI i3]]⟩ : Prop)) ⟨[(0, sF 0 x1), (1, .one (.fn 168 [.p 1 0, .p 2 0])), (7, I ((x1.length : Nat) : Int)), (8, I i49)], [lR x1, .cells [cI i2], .cells [cI i3]]⟩ := by
  intro n
  induction n with
  | zero => intro _ h; exact none_e h
  | succ n ih =>
    intro i49 h
    rw [slices_IndexFunc_Lock_impl_lockAt_1_L1] at h
    refine WL_round ?_
    refine Wsr ((Wp 1 [0, 1, 2] [0, 1, 7, 8, 9] T2 ⟨[(0, sF 0 x1), (1, .one (.fn 168 [.p 1 0, .p 2 0])), (7, I (lI x1)), (8, I i49), (9, B (decide (i49 < (lI x1))))], [lR x1, .cells [cI i2], .cells [cI i3]]⟩ t2 (Wnt ((W_seq (iteO_e h (fun hb62 h => W_true rfl hb62 ?_) (fun hb62 h => W_false rfl hb62 ?_)))))))
    ·refine Ww [0, 1, 2] [0, 1, 7, 8] ⟨[(0, sF 0 x1), (1, .one (.fn 168 [.p 1 0, .p 2 0])), (7, I (lI x1)), (8, I i49)], [lR x1, .cells [cI i2], .cells [cI i3]]⟩ (W_skip (thenS_n (W_seq (W_block (Wsr ((Ws 2 [0, 1, 2] [0, 1, 5, 7, 8] ⟨[(0, sF 0 x1), (1, .one (.fn 168 [.p 1 0, .p 2 0])), (5, I i49), (7, I (lI x1)), (8, I i49)], [lR x1, .cells [cI i2], .cells [cI i3]]⟩ (Wnt ((Wsr ((guardO_e h (fun hg66 h => (Wp 5 [0, 1, 2] [0, 1, 5, 7, 8, 11, 15] ((0 ≤ i49 ∧ i49 < (lI x1)) ∧ T2) ⟨[(0, sF 0 x1), (1, .one (.fn 168 [.p 1 0, .p 2 0])), (5, I i49), (7, I (lI x1)), (8, I i49), (11, .one (.fn 168 [.p 1 0, .p 2 0])), (15, AGG [cI ((x1.getD i49.toNat dlck).who), cI ((x1.getD i49.toNat dlck).node), cI ((x1.getD i49.toNat dlck).mode)])], [lR x1, .cells [cI i2], .cells [cI i3]]⟩ ⟨hg66, trivial, trivial⟩ (Wc [.own 1, .own 2] rfl rfl rfl Tryz.func168 rfl (impl_lockAt_1_ok (x1.getD i49.toNat dlck) i2 i3) (aI (trivial) (aI (trivial) (trivial))) rfl (Wb [0, 1, 2] [0, 1, 5, 7, 8, 16] ⟨[(0, sF 0 x1), (1, .one (.fn 168 [.p 1 0, .p 2 0])), (5, I i49), (7, I (lI x1)), (8, I i49), (16, B (impl_lockAt_1 (x1.getD i49.toNat dlck) i2 i3))], [lR x1, .cells [cI i2], .cells [cI i3]]⟩ (Wnt ((iteO_e h (fun hb68 h => W_true rfl hb68 ?_) (fun hb68 h => W_false rfl hb68 ?_))))))))))))))))))))
     ·refine Wsr ((Ws 2 [0, 1, 2] [4] ⟨[(4, I i49)], [lR x1, .cells [cI i2], .cells [cI i3]]⟩ (Wnt ((W_ret (blockS_r (thenS_r (thenS_r ?_))))))))
      cases h
      exact aI rfl rfl
     ·refine Ww [0, 1, 2] [0, 1, 7, 8] ⟨[(0, sF 0 x1), (1, .one (.fn 168 [.p 1 0, .p 2 0])), (7, I (lI x1)), (8, I i49)], [lR x1, .cells [cI i2], .cells [cI i3]]⟩ (W_skip (blockS_n (thenS_n (W_region (Wp 2 [0, 1, 2] [0, 1, 7, 8] T2 ⟨[(0, sF 0 x1), (1, .one (.fn 168 [.p 1 0, .p 2 0])), (7, I (lI x1)), (8, I (w64 (i49 + 1)))], [lR x1, .cells [cI i2], .cells [cI i3]]⟩ t2 (Wnt (?_)))))))
      exact ih _ h
    ·refine Ww [0, 1, 2] [] ⟨[], [lR x1, .cells [cI i2], .cells [cI i3]]⟩ (W_exit (thenS_e (thenS_e ?_)))
     cases h
     exact aI rfl rfl

def slices_IndexFunc_Lock_impl_lockAt_1 (n : Nat) (x1 : List Lck) (i2 : Int) (i3 : Int) : Option (Int) :=
 bindO (slices_IndexFunc_Lock_impl_lockAt_1_L1 x1 i2 i3 n 0) fun v69 =>
 match v69 with
 | (.inl i59) => (some i59)
 | (.inr _) => (some (-1))


theorem slices_IndexFunc_Lock_impl_lockAt_1_ok (n : Nat) (x1 : List Lck) (i2 : Int) (i3 : Int) (i36 : Int) (h : slices_IndexFunc_Lock_impl_lockAt_1 n x1 i2 i3 = some i36) : FOk EE 167 [sF 0 x1, .one (.fn 168 [.p 1 0, .p 2 0])] [lR x1, .cells [cI i2], .cells [cI i3]] (I i36) [lR x1, .cells [cI i2], .cells [cI i3]] := by
  unfold slices_IndexFunc_Lock_impl_lockAt_1 at h
  refine FOk_of_W 19 3 Tryz.func167 rfl rfl (Nat.le_of_ble_eq_true rfl) rfl (fun w X θ => ?_)
  refine Wsr ((Ws 1 [0, 1, 2] [0, 1] ⟨[(0, sF 0 x1), (1, .one (.fn 168 [.p 1 0, .p 2 0]))], [lR x1, .cells [cI i2], .cells [cI i3]]⟩ (Wnt ((W_seq (W_seq ?_))))))
  refine W_region (Wp 3 [0, 1, 2] [0, 1, 7, 8] T2 ⟨[(0, sF 0 x1), (1, .one (.fn 168 [.p 1 0, .p 2 0])), (7, I (lI x1)), (8, I 0)], [lR x1, .cells [cI i2], .cells [cI i3]]⟩ t2 (Wnt ((W_block (W_loop (bindO_e h (fun v69 hv69 h => ?_)))))))
  refine WL_cut (slices_IndexFunc_Lock_impl_lockAt_1_L1_ok w X θ x1 i2 i3 v69 n 0 hv69) ?_
  rcases v69 with i59 | _
  ·rintro _ _ ⟨rfl, rfl⟩
   refine blockS_r (thenS_r ?_)
   cases h
   exact ⟨[0, 1, 2], True, by kernel_rfl, trivial⟩
  ·rintro _ _ ⟨rfl, rfl⟩
   refine blockS_y (thenS_n (Wsr ((Ws 1 [0, 1, 2] [4] ⟨[(4, I (-1))], [lR x1, .cells [cI i2], .cells [cI i3]]⟩ (Wnt ((W_ret ?_)))))))
   cases h
   exact ⟨[0, 1, 2], True, by kernel_rfl, trivial⟩

/- impl.lockAt -/
def impl_lockAt (n : Nat) (x1 : List Lck) (i2 : Int) (i3 : Int) : Option (Int) :=
 bindO (slices_IndexFunc_Lock_impl_lockAt_1 n x1 i2 i3) fun i7 =>
 some i7

theorem impl_lockAt_ok (n : Nat) (x1 : List Lck) (i2 : Int) (i3 : Int) (i6 : Int) (h : impl_lockAt n x1 i2 i3 = some i6) : FOk EE 143 [sF 0 x1, I i2, I i3] [lR x1] (I i6) [lR x1] := by
  unfold impl_lockAt at h
  refine FOk_of_W 10 1 Tryz.func143 rfl rfl (Nat.le_of_ble_eq_true rfl) rfl (fun w X θ => ?_)
  refine Wsr ((Wp 3 [0, 1, 2] [0, 4, 5] T3 ⟨[(0, sF 0 x1), (4, pA 1 0), (5, pA 2 0)], [lR x1, .cells [cI i2], .cells [cI i3]]⟩ t3 (Wnt ((W_seq (W_region ?_))))))
  refine Wp 2 [0, 1, 2] [7, 8] T2 ⟨[(7, sF 0 x1), (8, .one (.fn 168 [.p 1 0, .p 2 0]))], [lR x1, .cells [cI i2], .cells [cI i3]]⟩ t2 (bindO_e h (fun i7 hc8 h => (Wc [.ro 0, .own 1, .own 2] rfl rfl rfl Tryz.func167 rfl (slices_IndexFunc_Lock_impl_lockAt_1_ok n x1 i2 i3 i7 hc8) (aI (aI rfl rfl) (aI (trivial) (aI (trivial) (trivial)))) rfl (Ws 1 [0] [6] ⟨[(6, I i7)], [lR x1]⟩ (Wnt ((W_ret ?_)))))))
  cases h
  exact ⟨[0], True, by kernel_rfl, trivial⟩

/- impl.heldIn -/
def impl_heldIn (n : Nat) (x1 : List Lck) (i2 : Int) (i3 : Int) : Option (Int) :=
 bindO (impl_lockAt n x1 i2 i3) fun i10 =>
 iteO (decide (i10 < 0))
 (some 0)
 (guardO (0 ≤ i10 ∧ i10 < ((x1.length : Nat) : Int)) <|
 some ((x1.getD i10.toNat dlck).mode))

theorem impl_heldIn_ok (n : Nat) (x1 : List Lck) (i2 : Int) (i3 : Int) (i9 : Int) (h : impl_heldIn n x1 i2 i3 = some i9) : FOk EE 146 [sF 0 x1, I i2, I i3] [lR x1] (I i9) [lR x1] := by
  unfold impl_heldIn at h
  refine FOk_of_W 19 1 Tryz.func146 rfl rfl (Nat.le_of_ble_eq_true rfl) rfl (fun w X θ => ?_)
  refine Wsr ((Ws 1 [0] [0, 1, 2] ⟨[(0, sF 0 x1), (1, I i2), (2, I i3)], [lR x1]⟩ (Wnt ((W_seq (W_region ?_))))))
  refine Ws 3 [0] [0, 8, 9, 10] ⟨[(0, sF 0 x1), (8, sF 0 x1), (9, I i2), (10, I i3)], [lR x1]⟩ (bindO_e h (fun i10 hc11 h => (Wc [.ro 0] rfl rfl rfl Tryz.func143 rfl (impl_lockAt_ok n x1 i2 i3 i10 hc11) (aI (aI rfl rfl) (trivial)) rfl (Ws 1 [0] [0, 7] ⟨[(0, sF 0 x1), (7, I i10)], [lR x1]⟩ (Wnt ((W_seq ?_)))))))
  refine Wsr ((Wp 2 [0] [0, 7, 13] T2 ⟨[(0, sF 0 x1), (7, I i10), (13, B (decide (i10 < 0)))], [lR x1]⟩ t2 (Wnt ((iteO_e h (fun hb13 h => W_true rfl hb13 ?_) (fun hb13 h => W_false rfl hb13 ?_))))))
  ·refine Wsr ((Ws 1 [0] [6] ⟨[(6, I 0)], [lR x1]⟩ (Wnt ((W_ret (thenS_r ?_))))))
   cases h
   exact ⟨[0], True, by kernel_rfl, trivial⟩
  ·refine Ww [0] [0, 7] ⟨[(0, sF 0 x1), (7, I i10)], [lR x1]⟩ (W_skip (thenS_n (Wsr ((guardO_e h (fun hg14 h => (Wp 6 [0] [6] ((0 ≤ i10 ∧ i10 < (lI x1)) ∧ T2) ⟨[(6, I ((x1.getD i10.toNat dlck).mode))], [lR x1]⟩ ⟨hg14, trivial, trivial⟩ (Wnt ((W_ret ?_))))))))))
   cases h
   exact ⟨[0], True, by kernel_rfl, trivial⟩

/- impl.JoinModes -/
def impl_JoinModes (i1 : Int) (i2 : Int) : Option (Int) :=
 iteO ((!(impl_isMode i1)) || (!(impl_isMode i2)))
 (some (-1))
 (guardO (0 ≤ i1 ∧ i1 < (6 : Int)) <|
 guardO (0 ≤ i2 ∧ i2 < (6 : Int)) <|
 guardO (((0 + (i1.toNat * 6)) + (i2.toNat * 1)) < gtab5.length) <|
 some (gtab5.getD ((0 + (i1.toNat * 6)) + (i2.toNat * 1)) 0))

theorem impl_JoinModes_ok (i1 : Int) (i2 : Int) (i11 : Int) (h : impl_JoinModes i1 i2 = some i11) : FOk EE 144 [I i1, I i2] [] (I i11) [] := by
  unfold impl_JoinModes at h
  refine FOk_of_W 18 0 Tryz.func144 rfl rfl (Nat.le_of_ble_eq_true rfl) rfl (fun w X θ => ?_)
  refine Wsr ((Ws 1 [] [0, 1] ⟨[(0, I i1), (1, I i2)], []⟩ (Wnt ((W_seq (W_seq ?_))))))
  refine W_region (Ws 1 [] [0, 1, 5] ⟨[(0, I i1), (1, I i2), (5, I i1)], []⟩ (Wc [] rfl rfl rfl Tryz.func149 rfl (impl_isMode_ok i1) (trivial) rfl (Ws 2 [] [0, 1, 8] ⟨[(0, I i1), (1, I i2), (8, B (!(impl_isMode i1)))], []⟩ (WO_thru ⟨[(0, I i1), (1, I i2), (12, B ((!(impl_isMode i1)) || (!(impl_isMode i2))))], []⟩ ?_ ?_))))
  ·refine WO_if 8 rfl (fun hb14 => ?_) (fun hb14 => ?_)
   ·refine Ws 4 [] [0, 1, 12] ⟨[(0, I i1), (1, I i2), (12, B true)], []⟩ ?_
    exact WO_nil rfl ⟨rfl, by first | rfl | (rw [hb14]; first | done | rfl)⟩
   ·refine Ws 1 [] [0, 1, 8, 9] ⟨[(0, I i1), (1, I i2), (8, B false), (9, I i2)], []⟩ (Wc [] rfl rfl rfl Tryz.func149 rfl (impl_isMode_ok i2) (trivial) rfl (Ws 2 [] [0, 1, 12] ⟨[(0, I i1), (1, I i2), (12, B (!(impl_isMode i2)))], []⟩ ?_))
    exact WO_nil rfl ⟨rfl, by first | rfl | (rw [hb14]; first | done | rfl)⟩
  ·refine thenS_n (iteO_e h (fun hb16 h => W_true rfl hb16 ?_) (fun hb16 h => W_false rfl hb16 ?_))
   ·refine Wsr ((Ws 1 [] [4] ⟨[(4, I (-1))], []⟩ (Wnt ((W_ret (thenS_r ?_))))))
    cases h
    exact ⟨[], True, by kernel_rfl, trivial⟩
   ·refine Ww [] [0, 1] ⟨[(0, I i1), (1, I i2)], []⟩ (W_skip (thenS_n (Wsr ((guardO_e h (fun hg17 h => (guardO_e h (fun hg18 h => (guardO_e h (fun hg19 h => (Wp 6 [] [4] ((0 ≤ i1 ∧ i1 < (6 : Int)) ∧ ((0 ≤ i2 ∧ i2 < (6 : Int)) ∧ ((((0 + (i1.toNat * 6)) + (i2.toNat * 1)) < gtab5.length) ∧ True))) ⟨[(4, I (gtab5.getD ((0 + (i1.toNat * 6)) + (i2.toNat * 1)) 0))], []⟩ ⟨hg17, hg18, hg19, trivial⟩ (Wnt ((W_ret ?_))))))))))))))
    cases h
    exact ⟨[], True, by kernel_rfl, trivial⟩

/- impl.LockBlockers -/
def impl_LockBlockers_L1 (x1 : List Lck) (i2 : Int) (i3 : Int) (i138 : Int) : Nat → (List Int) → Int → Option ((List Int))
| 0, _, _ => none
| n + 1, x180, i181 =>
 iteO (decide (i181 < 4))
 (bindO (iteO (!decide (i181 = i2))
 (bindO (impl_heldIn n x1 i181 i3) fun i246 =>
 bindO (impl_GoTogether i246 i138) fun b248 =>
 some (!b248))
 (some false)) fun b243 =>
 bindO (iteO b243
 (guardO (0 = 0 ∧ x180.length = x180.length ∧ x180.length + (([i181].drop 0).take ([i181].length)).length ≤ 1099511627776) <|
 some (x180 ++ (([i181].drop 0).take ([i181].length))))
 (some x180)) fun x252 =>
 impl_LockBlockers_L1 x1 i2 i3 i138 n x252 (w64 (i181 + 1)))
 (some x180)

theorem impl_LockBlockers_L1_ok (w : World) (X : Nat → Prop) (θ : List Loc) (x1 : List Lck) (i2 : Int) (i3 : Int) (i138 : Int) (x218 : (List Int)) : ∀ (n : Nat) (x180 : List Int) (i181 : Int), impl_LockBlockers_L1 x1 i2 i3 i138 n x180 i181 = some x218 → WL EE ⟨w, X, θ, 49, 1⟩ (subC [1, 1, 1, 1, 0, 1, 4, 4] (bodyC Tryz.f142)) (fun (e : Exit) (s : St) => e = .exit 0 ∧ s = ⟨[(10, sF 1 x218)], [lR x1, iO x218]⟩) ⟨[(0, sF 0 x1), (1, I i2), (2, I i3), (9, I i138), (10, sF 1 x180), (28, I i181)], [lR x1, iO x180]⟩ := by
  intro n
  induction n with
  | zero => intro _ _ h; exact none_e h
  | succ n ih =>
    intro x180 i181 h
    rw [impl_LockBlockers_L1] at h
    refine WL_round ?_
    refine Wsr ((Wp 1 [0, 1] [0, 1, 2, 9, 10, 28, 29] T2 ⟨[(0, sF 0 x1), (1, I i2), (2, I i3), (9, I i138), (10, sF 1 x180), (28, I i181), (29, B (decide (i181 < 4)))], [lR x1, iO x180]⟩ t2 (Wnt ((W_seq (iteO_e h (fun hb221 h => W_true rfl hb221 ?_) (fun hb221 h => W_false rfl hb221 ?_)))))))
    ·refine Ww [0, 1] [0, 1, 2, 9, 10, 28] ⟨[(0, sF 0 x1), (1, I i2), (2, I i3), (9, I i138), (10, sF 1 x180), (28, I i181)], [lR x1, iO x180]⟩ (W_skip (thenS_n (W_seq (W_block (Wsr ((Ws 2 [0, 1] [0, 1, 2, 9, 10, 11, 28] ⟨[(0, sF 0 x1), (1, I i2), (2, I i3), (9, I i138), (10, sF 1 x180), (11, I i181), (28, I i181)], [lR x1, iO x180]⟩ (Wnt ((Wsr ((Wp 4 [0, 1] [0, 1, 2, 9, 10, 11, 28, 34] T2 ⟨[(0, sF 0 x1), (1, I i2), (2, I i3), (9, I i138), (10, sF 1 x180), (11, I i181), (28, I i181), (34, B (!decide (i181 = i2)))], [lR x1, iO x180]⟩ t2 (bindO_e h (fun b243 hv244 h => (WO_thru ⟨[(0, sF 0 x1), (1, I i2), (2, I i3), (9, I i138), (10, sF 1 x180), (11, I i181), (28, I i181), (42, B b243)], [lR x1, iO x180]⟩ ?_ ?_)))))))))))))))
     ·refine iteO_e hv244 (fun hb245 hv244 => WO_known 34 true rfl hb245 ?_) (fun hb245 hv244 => WO_known 34 false rfl hb245 ?_)
      ·refine Ws 3 [0, 1] [0, 1, 2, 9, 10, 11, 28, 34, 35, 36, 37] ⟨[(0, sF 0 x1), (1, I i2), (2, I i3), (9, I i138), (10, sF 1 x180), (11, I i181), (28, I i181), (34, B true), (35, sF 0 x1), (36, I i181), (37, I i3)], [lR x1, iO x180]⟩ (bindO_e hv244 (fun i246 hc247 hv244 => (Wc [.ro 0] rfl rfl rfl Tryz.func146 rfl (impl_heldIn_ok n x1 i181 i3 i246 hc247) (aI (aI rfl rfl) (trivial)) rfl (Ws 1 [0, 1] [0, 1, 2, 9, 10, 11, 28, 34, 38, 39] ⟨[(0, sF 0 x1), (1, I i2), (2, I i3), (9, I i138), (10, sF 1 x180), (11, I i181), (28, I i181), (34, B true), (38, I i246), (39, I i138)], [lR x1, iO x180]⟩ (bindO_e hv244 (fun b248 hc249 hv244 => (Wc [] rfl rfl rfl Tryz.func121 rfl (impl_GoTogether_ok i246 i138 b248 hc249) (trivial) rfl (Ws 2 [0, 1] [0, 1, 2, 9, 10, 11, 28, 42] ⟨[(0, sF 0 x1), (1, I i2), (2, I i3), (9, I i138), (10, sF 1 x180), (11, I i181), (28, I i181), (42, B (!b248))], [lR x1, iO x180]⟩ ?_))))))))
       cases hv244
       exact WO_nil rfl ⟨rfl, rfl⟩
      ·refine Ws 8 [0, 1] [0, 1, 2, 9, 10, 11, 28, 42] ⟨[(0, sF 0 x1), (1, I i2), (2, I i3), (9, I i138), (10, sF 1 x180), (11, I i181), (28, I i181), (42, B false)], [lR x1, iO x180]⟩ ?_
       cases hv244
       exact WO_nil rfl ⟨rfl, rfl⟩
     ·refine thenS_n (bindO_e h (fun x252 hx252 h => (W_cut (Q' := fun (e : Exit) (s : St) => e = .normal ∧ s = ⟨[(0, sF 0 x1), (1, I i2), (2, I i3), (9, I i138), (10, sF 1 x252), (28, I i181)], [lR x1, iO x252]⟩) ?_ ?_)))
      ·refine iteO_e hx252 (fun hb254 hx252 => W_true rfl hb254 ?_) (fun hb254 hx252 => W_false rfl hb254 ?_)
       ·refine W_region (guardO_e hx252 (fun hg255 hx252 => (Wp 5 [0, 3] [0, 1, 2, 9, 10, 28] ((0 = 0 ∧ x180.length = x180.length ∧ x180.length + (([i181].drop 0).take ([i181].length)).length ≤ 1099511627776) ∧ True) ⟨[(0, sF 0 x1), (1, I i2), (2, I i3), (9, I i138), (10, .one (.e (.sl 1 0 ((x180 ++ (([i181].drop 0).take ([i181].length))).length)))), (28, I i181)], [lR x1, .row .int (x180 ++ (([i181].drop 0).take ([i181].length))) true]⟩ ⟨hg255, trivial⟩ (WO_nil rfl ?_))))
        cases hx252
        exact aI rfl rfl
       ·refine Ww [0, 1] [0, 1, 2, 9, 10, 28] ⟨[(0, sF 0 x1), (1, I i2), (2, I i3), (9, I i138), (10, sF 1 x180), (28, I i181)], [lR x1, iO x180]⟩ (W_skip ?_)
        cases hx252
        exact aI rfl rfl
      ·rintro _ _ ⟨rfl, rfl⟩
       refine blockS_n (thenS_n (W_region (Wp 2 [0, 1] [0, 1, 2, 9, 10, 28] T2 ⟨[(0, sF 0 x1), (1, I i2), (2, I i3), (9, I i138), (10, sF 1 x252), (28, I (w64 (i181 + 1)))], [lR x1, iO x252]⟩ t2 (Wnt (?_)))))
       exact ih _ _ h
    ·refine Ww [0, 1] [10] ⟨[(10, sF 1 x180)], [lR x1, iO x180]⟩ (W_exit (thenS_e (thenS_e ?_)))
     cases h
     exact aI rfl rfl

def impl_LockBlockers (n : Nat) (x1 : List Lck) (i2 : Int) (i3 : Int) (i4 : Int) : Option ((List Int)) :=
 bindO (impl_ValidTable n x1) fun b129 =>
 iteO ((!b129) || (!(impl_isAsk i2 i3 i4)))
 (some ([] : List Int))
 (bindO (impl_heldIn n x1 i2 i3) fun i136 =>
 bindO (impl_JoinModes i136 i4) fun i138 =>
 bindO (impl_LockBlockers_L1 x1 i2 i3 i138 n ([] : List Int) 0) fun x218 =>
 some x218)

theorem impl_LockBlockers_ok (n : Nat) (x1 : List Lck) (i2 : Int) (i3 : Int) (i4 : Int) (x128 : List Int) (h : impl_LockBlockers n x1 i2 i3 i4 = some x128) : FOk EE 142 [sF 0 x1, I i2, I i3, I i4] [lR x1] (sF 1 x128) [lR x1, iO x128] := by
  unfold impl_LockBlockers at h
  refine FOk_of_W 49 1 Tryz.func142 rfl rfl (Nat.le_of_ble_eq_true rfl) rfl (fun w X θ => ?_)
  refine Wsr ((Ws 1 [0] [0, 1, 2, 3] ⟨[(0, sF 0 x1), (1, I i2), (2, I i3), (3, I i4)], [lR x1]⟩ (Wnt ((W_seq (W_seq ?_))))))
  refine W_region (Ws 1 [0] [0, 1, 2, 3, 12] ⟨[(0, sF 0 x1), (1, I i2), (2, I i3), (3, I i4), (12, sF 0 x1)], [lR x1]⟩ (bindO_e h (fun b129 hc130 h => (Wc [.ro 0] rfl rfl rfl Tryz.func86 rfl (impl_ValidTable_ok n x1 b129 hc130) (aI (aI rfl rfl) (trivial)) rfl (Ws 2 [0] [0, 1, 2, 3, 15] ⟨[(0, sF 0 x1), (1, I i2), (2, I i3), (3, I i4), (15, B (!b129))], [lR x1]⟩ (WO_thru ⟨[(0, sF 0 x1), (1, I i2), (2, I i3), (3, I i4), (21, B ((!b129) || (!(impl_isAsk i2 i3 i4))))], [lR x1]⟩ ?_ ?_))))))
  ·refine WO_if 15 rfl (fun hb133 => ?_) (fun hb133 => ?_)
   ·refine Ws 6 [0] [0, 1, 2, 3, 21] ⟨[(0, sF 0 x1), (1, I i2), (2, I i3), (3, I i4), (21, B true)], [lR x1]⟩ ?_
    exact WO_nil rfl ⟨rfl, by first | rfl | (rw [hb133]; first | done | rfl)⟩
   ·refine Ws 3 [0] [0, 1, 2, 3, 15, 16, 17, 18] ⟨[(0, sF 0 x1), (1, I i2), (2, I i3), (3, I i4), (15, B false), (16, I i2), (17, I i3), (18, I i4)], [lR x1]⟩ (Wc [] rfl rfl rfl Tryz.func117 rfl (impl_isAsk_ok i2 i3 i4) (trivial) rfl (Ws 2 [0] [0, 1, 2, 3, 21] ⟨[(0, sF 0 x1), (1, I i2), (2, I i3), (3, I i4), (21, B (!(impl_isAsk i2 i3 i4)))], [lR x1]⟩ ?_))
    exact WO_nil rfl ⟨rfl, by first | rfl | (rw [hb133]; first | done | rfl)⟩
  ·refine thenS_n (iteO_e h (fun hb135 h => W_true rfl hb135 ?_) (fun hb135 h => W_false rfl hb135 ?_))
   ·refine Wsr ((Ws 1 [0] [8] ⟨[(8, .one (.e (.nsl)))], [lR x1]⟩ (WO_nilrow 8 .int rfl (Wb [0, 1] [8] ⟨[(8, .one (.e (.sl 1 0 (([] : List Int).length))))], [lR x1, iO ([] : List Int)]⟩ (Wnt ((W_ret (thenS_r ?_))))))))
    cases h
    exact ⟨[0, 1], True, by kernel_rfl, trivial⟩
   ·refine Ww [0] [0, 1, 2, 3] ⟨[(0, sF 0 x1), (1, I i2), (2, I i3), (3, I i4)], [lR x1]⟩ (W_skip (thenS_n (Wsr ((Ws 3 [0] [0, 1, 2, 3, 22, 23, 24] ⟨[(0, sF 0 x1), (1, I i2), (2, I i3), (3, I i4), (22, sF 0 x1), (23, I i2), (24, I i3)], [lR x1]⟩ (bindO_e h (fun i136 hc137 h => (Wc [.ro 0] rfl rfl rfl Tryz.func146 rfl (impl_heldIn_ok n x1 i2 i3 i136 hc137) (aI (aI rfl rfl) (trivial)) rfl (Ws 1 [0] [0, 1, 2, 25, 26] ⟨[(0, sF 0 x1), (1, I i2), (2, I i3), (25, I i136), (26, I i4)], [lR x1]⟩ (bindO_e h (fun i138 hc139 h => (Wc [] rfl rfl rfl Tryz.func144 rfl (impl_JoinModes_ok i136 i4 i138 hc139) (trivial) rfl (Ws 1 [0] [0, 1, 2, 9] ⟨[(0, sF 0 x1), (1, I i2), (2, I i3), (9, I i138)], [lR x1]⟩ (Wnt ((Wsr ((Ws 1 [0] [0, 1, 2, 9, 10] ⟨[(0, sF 0 x1), (1, I i2), (2, I i3), (9, I i138), (10, .one (.e (.nsl)))], [lR x1]⟩ (WO_nilrow 10 .int rfl (Wb [0, 1] [0, 1, 2, 9, 10] ⟨[(0, sF 0 x1), (1, I i2), (2, I i3), (9, I i138), (10, .one (.e (.sl 1 0 (([] : List Int).length))))], [lR x1, iO ([] : List Int)]⟩ (Wnt ((W_seq (Wsr ((Ws 1 [0, 1] [0, 1, 2, 9, 10, 28] ⟨[(0, sF 0 x1), (1, I i2), (2, I i3), (9, I i138), (10, .one (.e (.sl 1 0 (([] : List Int).length)))), (28, I 0)], [lR x1, iO ([] : List Int)]⟩ (Wnt ((W_block (W_loop (bindO_e h (fun x218 hx218 h => (WL_cut (impl_LockBlockers_L1_ok w X θ x1 i2 i3 i138 x218 n ([] : List Int) 0 hx218) ?_)))))))))))))))))))))))))))))))))
    rintro _ _ ⟨rfl, rfl⟩
    refine blockS_y (thenS_n (Wsr ((Ws 2 [0, 1] [8] ⟨[(8, sF 1 x218)], [lR x1, iO x218]⟩ (Wnt ((W_ret ?_)))))))
    cases h
    exact ⟨[0, 1], True, by kernel_rfl, trivial⟩

/- impl.TakeLock -/
def impl_TakeLock (n : Nat) (x1 : List Lck) (i2 : Int) (i3 : Int) (i4 : Int) : Option ((List Lck) × Bool) :=
 bindO (impl_ValidTable n x1) fun b33 =>
 bindO (iteO (!b33)
 (some true)
 (iteO (!(impl_isAsk i2 i3 i4))
 (some true)
 (bindO (impl_LockBlockers n x1 i2 i3 i4) fun x43 =>
 some (decide (0 < ((x43.length : Nat) : Int)))))) fun b39 =>
 iteO b39
 (some (([] : List Lck), false))
 (bindO (slices_Clone_Lock x1) fun x47 =>
 bindO (impl_lockAt n x1 i2 i3) fun i49 =>
 iteO (decide (i49 < 0))
 (guardO (0 = 0 ∧ x47.length = x47.length ∧ x47.length + (([(⟨i2, i3, i4⟩ : Lck)].drop 0).take ([(⟨i2, i3, i4⟩ : Lck)].length)).length ≤ 1099511627776) <|
 some ((x47 ++ (([(⟨i2, i3, i4⟩ : Lck)].drop 0).take ([(⟨i2, i3, i4⟩ : Lck)].length))), true))
 (guardO (0 ≤ i49 ∧ i49 < ((x1.length : Nat) : Int)) <|
 bindO (impl_JoinModes ((x1.getD i49.toNat dlck).mode) i4) fun i56 =>
 guardO (0 ≤ i49 ∧ i49 < ((x47.length : Nat) : Int)) <|
 some ((x47.set i49.toNat (⟨(x47.getD i49.toNat dlck).who, (x47.getD i49.toNat dlck).node, i56⟩ : Lck)), true)))

theorem impl_TakeLock_ok (n : Nat) (x1 : List Lck) (i2 : Int) (i3 : Int) (i4 : Int) (x31 : List Lck) (b32 : Bool) (h : impl_TakeLock n x1 i2 i3 i4 = some (x31, b32)) : FOk EE 116 [sF 0 x1, I i2, I i3, I i4] [lR x1] (.tup [.e (.sl 1 0 x31.length), .e (cB b32)]) [lR x1, lO x31] := by
  unfold impl_TakeLock at h
  refine FOk_of_W 58 1 Tryz.func116 rfl rfl (Nat.le_of_ble_eq_true rfl) rfl (fun w X θ => ?_)
  refine Wsr ((Ws 2 [0] [0, 1, 2, 3] ⟨[(0, sF 0 x1), (1, I i2), (2, I i3), (3, I i4)], [lR x1]⟩ (Wnt ((W_seq (W_seq ?_))))))
  refine W_region (Ws 1 [0] [0, 1, 2, 3, 12] ⟨[(0, sF 0 x1), (1, I i2), (2, I i3), (3, I i4), (12, sF 0 x1)], [lR x1]⟩ (bindO_e h (fun b33 hc34 h => (Wc [.ro 0] rfl rfl rfl Tryz.func86 rfl (impl_ValidTable_ok n x1 b33 hc34) (aI (aI rfl rfl) (trivial)) rfl (Ws 2 [0] [0, 1, 2, 3, 15] ⟨[(0, sF 0 x1), (1, I i2), (2, I i3), (3, I i4), (15, B (!b33))], [lR x1]⟩ (bindO_e h (fun b39 hv40 h => (WO_thru ⟨[(0, sF 0 x1), (1, I i2), (2, I i3), (3, I i4), (30, B b39)], [lR x1]⟩ ?_ ?_))))))))
  ·refine iteO_e hv40 (fun hb41 hv40 => WO_known 15 true rfl hb41 ?_) (fun hb41 hv40 => WO_known 15 false rfl hb41 ?_)
   ·refine Ws 15 [0] [0, 1, 2, 3, 30] ⟨[(0, sF 0 x1), (1, I i2), (2, I i3), (3, I i4), (30, B true)], [lR x1]⟩ ?_
    cases hv40
    exact WO_nil rfl ⟨rfl, rfl⟩
   ·refine Ws 3 [0] [0, 1, 2, 3, 15, 16, 17, 18] ⟨[(0, sF 0 x1), (1, I i2), (2, I i3), (3, I i4), (15, B false), (16, I i2), (17, I i3), (18, I i4)], [lR x1]⟩ (Wc [] rfl rfl rfl Tryz.func117 rfl (impl_isAsk_ok i2 i3 i4) (trivial) rfl (Ws 3 [0] [0, 1, 2, 3, 22] ⟨[(0, sF 0 x1), (1, I i2), (2, I i3), (3, I i4), (22, B (!(impl_isAsk i2 i3 i4)))], [lR x1]⟩ (iteO_e hv40 (fun hb42 hv40 => WO_known 22 true rfl hb42 ?_) (fun hb42 hv40 => WO_known 22 false rfl hb42 ?_))))
    ·refine Ws 8 [0] [0, 1, 2, 3, 30] ⟨[(0, sF 0 x1), (1, I i2), (2, I i3), (3, I i4), (30, B true)], [lR x1]⟩ ?_
     cases hv40
     exact WO_nil rfl ⟨rfl, rfl⟩
    ·refine Ws 4 [0] [0, 1, 2, 3, 22, 23, 24, 25, 26] ⟨[(0, sF 0 x1), (1, I i2), (2, I i3), (3, I i4), (22, B false), (23, sF 0 x1), (24, I i2), (25, I i3), (26, I i4)], [lR x1]⟩ (bindO_e hv40 (fun x43 hc44 hv40 => (Wc [.ro 0] rfl rfl rfl Tryz.func142 rfl (impl_LockBlockers_ok n x1 i2 i3 i4 x43 hc44) (aI (aI rfl rfl) (trivial)) rfl (Wp 3 [0] [0, 1, 2, 3, 30] T3 ⟨[(0, sF 0 x1), (1, I i2), (2, I i3), (3, I i4), (30, B (decide (0 < (lI x43))))], [lR x1]⟩ t3 ?_))))
     cases hv40
     exact WO_nil rfl ⟨rfl, rfl⟩
  ·refine thenS_n (iteO_e h (fun hb46 h => W_true rfl hb46 ?_) (fun hb46 h => W_false rfl hb46 ?_))
   ·refine Wsr ((Ws 2 [0] [8, 9] ⟨[(8, .one (.e (.nsl))), (9, B false)], [lR x1]⟩ (WO_nilrow 8 .lck rfl (Wb [0, 1] [8, 9] ⟨[(8, .one (.e (.sl 1 0 (([] : List Lck).length)))), (9, B false)], [lR x1, lO ([] : List Lck)]⟩ (Wnt ((W_ret (thenS_r ?_))))))))
    cases h
    exact ⟨[0, 1], True, by kernel_rfl, trivial⟩
   ·refine Ww [0] [0, 1, 2, 3] ⟨[(0, sF 0 x1), (1, I i2), (2, I i3), (3, I i4)], [lR x1]⟩ (W_skip (thenS_n (Wsr ((Ws 1 [0] [0, 1, 2, 3, 31] ⟨[(0, sF 0 x1), (1, I i2), (2, I i3), (3, I i4), (31, sF 0 x1)], [lR x1]⟩ (bindO_e h (fun x47 hc48 h => (Wc [.ro 0] rfl rfl rfl Tryz.func115 rfl (slices_Clone_Lock_ok x1 x47 hc48) (aI (aI rfl rfl) (trivial)) rfl (Ws 1 [0, 1] [0, 1, 2, 3, 10] ⟨[(0, sF 0 x1), (1, I i2), (2, I i3), (3, I i4), (10, sF 1 x47)], [lR x1, lO x47]⟩ (Wnt ((Wsr ((Ws 3 [0, 1] [0, 1, 2, 3, 10, 33, 34, 35] ⟨[(0, sF 0 x1), (1, I i2), (2, I i3), (3, I i4), (10, sF 1 x47), (33, sF 0 x1), (34, I i2), (35, I i3)], [lR x1, lO x47]⟩ (bindO_e h (fun i49 hc50 h => (Wc [.ro 0] rfl rfl rfl Tryz.func143 rfl (impl_lockAt_ok n x1 i2 i3 i49 hc50) (aI (aI rfl rfl) (trivial)) rfl (Ws 1 [0, 1] [0, 1, 2, 3, 10, 11] ⟨[(0, sF 0 x1), (1, I i2), (2, I i3), (3, I i4), (10, sF 1 x47), (11, I i49)], [lR x1, lO x47]⟩ (Wnt ((W_seq (Wsr ((Wp 2 [0, 1] [0, 1, 2, 3, 10, 11, 38] T2 ⟨[(0, sF 0 x1), (1, I i2), (2, I i3), (3, I i4), (10, sF 1 x47), (11, I i49), (38, B (decide (i49 < 0)))], [lR x1, lO x47]⟩ t2 (Wnt ((iteO_e h (fun hb53 h => W_true rfl hb53 ?_) (fun hb53 h => W_false rfl hb53 ?_))))))))))))))))))))))))))))
    ·refine Wsr ((guardO_e h (fun hg54 h => (Wp 9 [0, 3] [8, 9] ((0 = 0 ∧ x47.length = x47.length ∧ x47.length + (([(⟨i2, i3, i4⟩ : Lck)].drop 0).take ([(⟨i2, i3, i4⟩ : Lck)].length)).length ≤ 1099511627776) ∧ True) ⟨[(8, .one (.e (.sl 1 0 ((x47 ++ (([(⟨i2, i3, i4⟩ : Lck)].drop 0).take ([(⟨i2, i3, i4⟩ : Lck)].length))).length)))), (9, B true)], [lR x1, .row .lck (x47 ++ (([(⟨i2, i3, i4⟩ : Lck)].drop 0).take ([(⟨i2, i3, i4⟩ : Lck)].length))) true]⟩ ⟨hg54, trivial⟩ (Wnt ((W_ret (thenS_r ?_))))))))
     cases h
     exact ⟨[0, 1], True, by kernel_rfl, trivial⟩
    ·refine Ww [0, 1] [0, 3, 10, 11] ⟨[(0, sF 0 x1), (3, I i4), (10, sF 1 x47), (11, I i49)], [lR x1, lO x47]⟩ (W_skip (thenS_n (Wsr ((guardO_e h (fun hg55 h => (Wp 8 [0, 1] [10, 46, 47, 52, 53] ((0 ≤ i49 ∧ i49 < (lI x1)) ∧ T2) ⟨[(10, sF 1 x47), (46, sF 1 x47), (47, I i49), (52, I ((x1.getD i49.toNat dlck).mode)), (53, I i4)], [lR x1, lO x47]⟩ ⟨hg55, trivial, trivial⟩ (bindO_e h (fun i56 hc57 h => (Wc [] rfl rfl rfl Tryz.func144 rfl (impl_JoinModes_ok ((x1.getD i49.toNat dlck).mode) i4 i56 hc57) (trivial) rfl (guardO_e h (fun hg58 h => (Wp 3 [0, 1] [10] ((0 ≤ i49 ∧ i49 < (lI x47)) ∧ T2) ⟨[(10, sF 1 x47)], [lR x1, .row .lck (x47.set i49.toNat (⟨(x47.getD i49.toNat dlck).who, (x47.getD i49.toNat dlck).node, i56⟩ : Lck)) true]⟩ ⟨hg58, trivial, trivial⟩ (WO_eq (st' := ⟨[(10, .one (.e (.sl 1 0 ((x47.set i49.toNat (⟨(x47.getD i49.toNat dlck).who, (x47.getD i49.toNat dlck).node, i56⟩ : Lck)).length))))], [lR x1, .row .lck (x47.set i49.toNat (⟨(x47.getD i49.toNat dlck).who, (x47.getD i49.toNat dlck).node, i56⟩ : Lck)) true]⟩) (by simp only [sF, List.length_set]) (Wnt ((Wsr ((Ws 3 [0, 1] [8, 9] ⟨[(8, .one (.e (.sl 1 0 ((x47.set i49.toNat (⟨(x47.getD i49.toNat dlck).who, (x47.getD i49.toNat dlck).node, i56⟩ : Lck)).length)))), (9, B true)], [lR x1, .row .lck (x47.set i49.toNat (⟨(x47.getD i49.toNat dlck).who, (x47.getD i49.toNat dlck).node, i56⟩ : Lck)) true]⟩ (Wnt ((W_ret ?_))))))))))))))))))))))
     cases h
     exact ⟨[0, 1], True, by kernel_rfl, trivial⟩

/- impl.TakeAll -/
def impl_TakeAll_L1 (x2 : List Lck) (x1 : List Lck) : Nat → (List Lck) → Int → Option ((Unit) ⊕ ((List Lck)))
| 0, _, _ => none
| n + 1, x99, i100 =>
 iteO (decide (i100 < ((x2.length : Nat) : Int)))
 (guardO (0 ≤ i100 ∧ i100 < ((x2.length : Nat) : Int)) <|
 bindO (impl_TakeLock n x99 ((x2.getD i100.toNat dlck).who) ((x2.getD i100.toNat dlck).node) ((x2.getD i100.toNat dlck).mode)) fun (x131, b132) =>
 iteO (!b132)
 (some (.inl ()))
 (impl_TakeAll_L1 x2 x1 n x131 (w64 (i100 + 1))))
 (some (.inr x99))

theorem impl_TakeAll_L1_ok (w : World) (X : Nat → Prop) (θ : List Loc) (x2 : List Lck) (x1 : List Lck) (v : (Unit) ⊕ ((List Lck))) : ∀ (n : Nat) (x99 : List Lck) (i100 : Int), impl_TakeAll_L1 x2 x1 n x99 i100 = some v → WL EE ⟨w, X, θ, 38, 2⟩ (subC [1, 1, 1, 0, 1, 4, 4] (bodyC Tryz.f79)) (fun (e : Exit) (s : St) => (match v with | (.inl _) => e = .ret ∧ s = ⟨[(4, .one (.e (.sl 2 0 (([] : List Lck).length)))), (5, B false)], [lR x1, lR x2, lO ([] : List Lck)]⟩ | (.inr x119) => e = .exit 0 ∧ s = ⟨[(6, sF 2 x119)], [lR x1, lR x2, lO x119]⟩ : Prop)) ⟨[(6, sF 2 x99), (16, sF 1 x2), (17, I ((x2.length : Nat) : Int)), (18, I i100)], [lR x1, lR x2, lO x99]⟩ := by
  intro n
  induction n with
  | zero => intro _ _ h; exact none_e h
  | succ n ih =>
    intro x99 i100 h
    rw [impl_TakeAll_L1] at h
    refine WL_round ?_
    refine Wsr ((Wp 1 [0, 1, 2] [6, 16, 17, 18, 19] T2 ⟨[(6, sF 2 x99), (16, sF 1 x2), (17, I (lI x2)), (18, I i100), (19, B (decide (i100 < (lI x2))))], [lR x1, lR x2, lO x99]⟩ t2 (Wnt ((W_seq (iteO_e h (fun hb122 h => W_true rfl hb122 ?_) (fun hb122 h => W_false rfl hb122 ?_)))))))
    ·refine Ww [0, 1, 2] [6, 16, 17, 18] ⟨[(6, sF 2 x99), (16, sF 1 x2), (17, I (lI x2)), (18, I i100)], [lR x1, lR x2, lO x99]⟩ (W_skip (thenS_n (W_seq (W_block (Wsr ((guardO_e h (fun hg130 h => (Wp 4 [0, 1, 2, 3] [6, 8, 16, 17, 18] ((0 ≤ i100 ∧ i100 < (lI x2)) ∧ T4) ⟨[(6, sF 2 x99), (8, pA 3 0), (16, sF 1 x2), (17, I (lI x2)), (18, I i100)], [lR x1, lR x2, lO x99, .cells [cI ((x2.getD i100.toNat dlck).who), cI ((x2.getD i100.toNat dlck).node), cI ((x2.getD i100.toNat dlck).mode)]]⟩ ⟨hg130, trivial, trivial, trivial, trivial⟩ (Wnt ((Wsr ((Wp 7 [0, 1, 2] [16, 17, 18, 23, 25, 27, 29] T4 ⟨[(16, sF 1 x2), (17, I (lI x2)), (18, I i100), (23, sF 2 x99), (25, I ((x2.getD i100.toNat dlck).who)), (27, I ((x2.getD i100.toNat dlck).node)), (29, I ((x2.getD i100.toNat dlck).mode))], [lR x1, lR x2, lO x99]⟩ t4 (bindO_e h (fun v136 hc133 h => ?_))))))))))))))))
     obtain ⟨x131, b132⟩ := v136
     refine Wc [.ro 2] rfl rfl rfl Tryz.func116 rfl (impl_TakeLock_ok n x99 ((x2.getD i100.toNat dlck).who) ((x2.getD i100.toNat dlck).node) ((x2.getD i100.toNat dlck).mode) x131 b132 hc133) (aI (aI rfl rfl) (trivial)) rfl (Ws 5 [0, 1, 3] [9, 10, 16, 17, 18] ⟨[(9, sF 2 x131), (10, B b132), (16, sF 1 x2), (17, I (lI x2)), (18, I i100)], [lR x1, lR x2, lO x131]⟩ (Wnt ((W_seq (Wsr ((Ws 2 [0, 1, 2] [9, 16, 17, 18, 34] ⟨[(9, sF 2 x131), (16, sF 1 x2), (17, I (lI x2)), (18, I i100), (34, B (!b132))], [lR x1, lR x2, lO x131]⟩ (Wnt ((iteO_e h (fun hb135 h => W_true rfl hb135 ?_) (fun hb135 h => W_false rfl hb135 ?_)))))))))))
     ·refine Wsr ((Ws 2 [0, 1] [4, 5] ⟨[(4, .one (.e (.nsl))), (5, B false)], [lR x1, lR x2]⟩ (WO_nilrow 4 .lck rfl (Wb [0, 1, 2] [4, 5] ⟨[(4, .one (.e (.sl 2 0 (([] : List Lck).length)))), (5, B false)], [lR x1, lR x2, lO ([] : List Lck)]⟩ (Wnt ((W_ret (thenS_r (blockS_r (thenS_r (thenS_r ?_)))))))))))
      cases h
      exact aI rfl rfl
     ·refine Ww [0, 1, 2] [9, 16, 17, 18] ⟨[(9, sF 2 x131), (16, sF 1 x2), (17, I (lI x2)), (18, I i100)], [lR x1, lR x2, lO x131]⟩ (W_skip (thenS_n (W_region (Ws 2 [0, 1, 2] [6, 16, 17, 18] ⟨[(6, sF 2 x131), (16, sF 1 x2), (17, I (lI x2)), (18, I i100)], [lR x1, lR x2, lO x131]⟩ (WO_nil rfl (blockS_n (thenS_n (W_region (Wp 2 [0, 1, 2] [6, 16, 17, 18] T2 ⟨[(6, sF 2 x131), (16, sF 1 x2), (17, I (lI x2)), (18, I (w64 (i100 + 1)))], [lR x1, lR x2, lO x131]⟩ t2 (Wnt (?_)))))))))))
      exact ih _ _ h
    ·refine Ww [0, 1, 2] [6] ⟨[(6, sF 2 x99)], [lR x1, lR x2, lO x99]⟩ (W_exit (thenS_e (thenS_e ?_)))
     cases h
     exact aI rfl rfl

def impl_TakeAll (n : Nat) (x1 : List Lck) (x2 : List Lck) : Option ((List Lck) × Bool) :=
 bindO (impl_ValidTable n x1) fun b71 =>
 iteO (!b71)
 (some (([] : List Lck), false))
 (bindO (slices_Clone_Lock x1) fun x75 =>
 bindO (impl_TakeAll_L1 x2 x1 n x75 0) fun v137 =>
 match v137 with
 | (.inl _) => (some (([] : List Lck), false))
 | (.inr x119) => (some (x119, true))
)

theorem impl_TakeAll_ok (n : Nat) (x1 : List Lck) (x2 : List Lck) (x69 : List Lck) (b70 : Bool) (h : impl_TakeAll n x1 x2 = some (x69, b70)) : FOk EE 79 [sF 0 x1, sF 1 x2] [lR x1, lR x2] (.tup [.e (.sl 2 0 x69.length), .e (cB b70)]) [lR x1, lR x2, lO x69] := by
  unfold impl_TakeAll at h
  refine FOk_of_W 38 2 Tryz.func79 rfl rfl (Nat.le_of_ble_eq_true rfl) rfl (fun w X θ => ?_)
  refine Wsr ((Ws 2 [0, 1] [0, 1] ⟨[(0, sF 0 x1), (1, sF 1 x2)], [lR x1, lR x2]⟩ (Wnt ((W_seq (W_seq ?_))))))
  refine W_region (Ws 1 [0, 1] [0, 1, 11] ⟨[(0, sF 0 x1), (1, sF 1 x2), (11, sF 0 x1)], [lR x1, lR x2]⟩ (bindO_e h (fun b71 hc72 h => (Wc [.ro 0] rfl rfl rfl Tryz.func86 rfl (impl_ValidTable_ok n x1 b71 hc72) (aI (aI rfl rfl) (trivial)) rfl (Ws 1 [0, 1] [0, 1, 13] ⟨[(0, sF 0 x1), (1, sF 1 x2), (13, B (!b71))], [lR x1, lR x2]⟩ (Wnt (?_)))))))
  refine iteO_e h (fun hb74 h => W_true rfl hb74 ?_) (fun hb74 h => W_false rfl hb74 ?_)
  ·refine Wsr ((Ws 2 [0, 1] [4, 5] ⟨[(4, .one (.e (.nsl))), (5, B false)], [lR x1, lR x2]⟩ (WO_nilrow 4 .lck rfl (Wb [0, 1, 2] [4, 5] ⟨[(4, .one (.e (.sl 2 0 (([] : List Lck).length)))), (5, B false)], [lR x1, lR x2, lO ([] : List Lck)]⟩ (Wnt ((W_ret (thenS_r ?_))))))))
   cases h
   exact ⟨[0, 1, 2], True, by kernel_rfl, trivial⟩
  ·refine Ww [0, 1] [0, 1] ⟨[(0, sF 0 x1), (1, sF 1 x2)], [lR x1, lR x2]⟩ (W_skip (thenS_n (Wsr ((Ws 1 [0, 1] [1, 14] ⟨[(1, sF 1 x2), (14, sF 0 x1)], [lR x1, lR x2]⟩ (bindO_e h (fun x75 hc76 h => (Wc [.ro 0] rfl rfl rfl Tryz.func115 rfl (slices_Clone_Lock_ok x1 x75 hc76) (aI (aI rfl rfl) (trivial)) rfl (Ws 1 [0, 1, 2] [1, 6] ⟨[(1, sF 1 x2), (6, sF 2 x75)], [lR x1, lR x2, lO x75]⟩ (Wnt ((W_seq (Wsr ((Wp 3 [0, 1, 2] [6, 16, 17, 18] T2 ⟨[(6, sF 2 x75), (16, sF 1 x2), (17, I (lI x2)), (18, I 0)], [lR x1, lR x2, lO x75]⟩ t2 (Wnt ((W_block (W_loop (bindO_e h (fun v137 hv137 h => (WL_cut (impl_TakeAll_L1_ok w X θ x2 x1 v137 n x75 0 hv137) ?_))))))))))))))))))))))
   rcases v137 with _ | x119
   ·rintro _ _ ⟨rfl, rfl⟩
    refine blockS_r (thenS_r ?_)
    cases h
    exact ⟨[0, 1, 2], True, by kernel_rfl, trivial⟩
   ·rintro _ _ ⟨rfl, rfl⟩
    refine blockS_y (thenS_n (Wsr ((Ws 3 [0, 1, 2] [4, 5] ⟨[(4, sF 2 x119), (5, B true)], [lR x1, lR x2, lO x119]⟩ (Wnt ((W_ret ?_)))))))
    cases h
    exact ⟨[0, 1, 2], True, by kernel_rfl, trivial⟩

/- impl.session).lock -/
def impl_session_lock (n : Nat) (x1 : List Nod) (k2 : Nat) (x3 : List Lck) (k4 : Nat) (s5 : Str) (s6 : Str) (i7 : Int) : Option (Nat × (List Lck) × Str) :=
 bindO (impl_txnOf s5) fun (i30, b31) =>
 bindO (impl_ResolvePath n ((x1.drop 0).take k2) s6) fun i33 =>
 iteO ((!b31) || (decide (i33 < 0)))
 (some (k4, x3, [110, 111]))
 (bindO (impl_LocksFor n ((x1.drop 0).take k2) i30 i33 i7) fun x40 =>
 bindO (impl_TakeAll n ((x3.drop 0).take k4) x40) fun (x42, b43) =>
 iteO (!b43)
 (some (k4, x3, [110, 111]))
 (some (x42.length, x42, [111, 107])))

theorem impl_session_lock_ok (n : Nat) (x1 : List Nod) (k2 : Nat) (x3 : List Lck) (k4 : Nat) (s5 : Str) (s6 : Str) (i7 : Int) (k27 : Nat) (x28 : List Lck) (s29 : Str) (h : impl_session_lock n x1 k2 x3 k4 s5 s6 i7 = some (k27, x28, s29)) : FOk EE 53 [pA 0 0, S s5, S s6, I i7] [.cells [.sl 1 0 k2, .sl 2 0 k4], nR x1, lO x3] (S s29) [.cells [.sl 1 0 k2, .sl 3 0 k27], nR x1, .dead, lO x28] := by
  unfold impl_session_lock at h
  refine FOk_of_W 52 3 Tryz.func53 rfl rfl (Nat.le_of_ble_eq_true rfl) rfl (fun w X θ => ?_)
  refine Wsr ((Ws 1 [0, 1, 2] [0, 1, 2, 3] ⟨[(0, pA 0 0), (1, S s5), (2, S s6), (3, I i7)], [.cells [.sl 1 0 k2, .sl 2 0 k4], nR x1, lO x3]⟩ (Wnt ((W_seq (W_region ?_))))))
  refine Ws 1 [0, 1, 2] [0, 2, 3, 14] ⟨[(0, pA 0 0), (2, S s6), (3, I i7), (14, S s5)], [.cells [.sl 1 0 k2, .sl 2 0 k4], nR x1, lO x3]⟩ (bindO_e h (fun v48 hc32 h => ?_))
  obtain ⟨i30, b31⟩ := v48
  refine Wc [] rfl rfl rfl Tryz.func77 rfl (impl_txnOf_ok s5 i30 b31 hc32) (trivial) rfl (Ws 5 [0, 1, 2] [0, 2, 3, 9, 10] ⟨[(0, pA 0 0), (2, S s6), (3, I i7), (9, I i30), (10, B b31)], [.cells [.sl 1 0 k2, .sl 2 0 k4], nR x1, lO x3]⟩ (Wnt ((Wsr ((Wp 5 [0, 1, 2] [0, 3, 9, 10, 21, 22] T2 ⟨[(0, pA 0 0), (3, I i7), (9, I i30), (10, B b31), (21, SL 1 0 k2), (22, S s6)], [.cells [.sl 1 0 k2, .sl 2 0 k4], nR x1, lO x3]⟩ t2 ?_))))))
  refine bindO_e h (fun i33 hc34 h => (Wc [.view 0] rfl rfl rfl Tryz.func78 rfl (impl_ResolvePath_ok n ((x1.drop 0).take k2) s6 i33 hc34) (trivial) rfl (Ws 1 [0, 1, 2] [0, 3, 9, 10, 11] ⟨[(0, pA 0 0), (3, I i7), (9, I i30), (10, B b31), (11, I i33)], [.cells [.sl 1 0 k2, .sl 2 0 k4], nR x1, lO x3]⟩ (Wnt ((W_seq (W_seq ?_)))))))
  refine W_region (Ws 3 [0, 1, 2] [0, 3, 9, 11, 26] ⟨[(0, pA 0 0), (3, I i7), (9, I i30), (11, I i33), (26, B (!b31))], [.cells [.sl 1 0 k2, .sl 2 0 k4], nR x1, lO x3]⟩ (WO_thru ⟨[(0, pA 0 0), (3, I i7), (9, I i30), (11, I i33), (29, B ((!b31) || (decide (i33 < 0))))], [.cells [.sl 1 0 k2, .sl 2 0 k4], nR x1, lO x3]⟩ ?_ ?_))
  ·refine WO_if 26 rfl (fun hb37 => ?_) (fun hb37 => ?_)
   ·refine Ws 3 [0, 1, 2] [0, 3, 9, 11, 29] ⟨[(0, pA 0 0), (3, I i7), (9, I i30), (11, I i33), (29, B true)], [.cells [.sl 1 0 k2, .sl 2 0 k4], nR x1, lO x3]⟩ ?_
    exact WO_nil rfl ⟨rfl, by first | rfl | (rw [hb37]; first | done | rfl)⟩
   ·refine Wp 3 [0, 1, 2] [0, 3, 9, 11, 29] T2 ⟨[(0, pA 0 0), (3, I i7), (9, I i30), (11, I i33), (29, B (decide (i33 < 0)))], [.cells [.sl 1 0 k2, .sl 2 0 k4], nR x1, lO x3]⟩ t2 ?_
    exact WO_nil rfl ⟨rfl, by first | rfl | (rw [hb37]; first | done | rfl)⟩
  ·refine thenS_n (iteO_e h (fun hb39 h => W_true rfl hb39 ?_) (fun hb39 h => W_false rfl hb39 ?_))
   ·refine Wsr ((Ws 1 [0, 1, 2] [8] ⟨[(8, S [110, 111])], [.cells [.sl 1 0 k2, .sl 2 0 k4], nR x1, lO x3]⟩ (Wnt ((W_ret (thenS_r ?_))))))
    cases h
    exact ⟨[0, 1, 999, 2], True, by kernel_rfl, trivial⟩
   ·refine Ww [0, 1, 2] [0, 3, 9, 11] ⟨[(0, pA 0 0), (3, I i7), (9, I i30), (11, I i33)], [.cells [.sl 1 0 k2, .sl 2 0 k4], nR x1, lO x3]⟩ (W_skip (thenS_n (W_seq (bindO_e h (fun x40 hc41 h => (bindO_e h (fun v45 hc44 h => ?_)))))))
    obtain ⟨x42, b43⟩ := v45
    refine W_cut (Q' := fun (e : Exit) (s : St) => e = .normal ∧ s = ⟨[(0, pA 0 0), (10, B b43), (12, sF 3 x42)], [.cells [.sl 1 0 k2, .sl 2 0 k4], nR x1, lO x3, lO x42]⟩) ?_ ?_
    ·refine W_draw [] false (by kernel_rfl) (by kernel_rfl) (WD_takeQ [0, 1, 2, 4, 5, 6, 8, 9, 10] [0, 33, 37, 39, 40, 41] [0, 33, 37, 39, 40, 41] (φ := True) (ls' := (tf true [3, 1, 3, 1, 3, 7])) (st' := ⟨[(0, pA 0 0), (33, pA 0 1), (37, pA 0 0), (39, I i30), (40, I i33), (41, I i7)], [.cells [.sl 1 0 k2, .sl 2 0 k4], nR x1, lO x3]⟩) (n2 := 9) (by kernel_rfl) trivial rfl (WD_all [3, 7] (n := 8) (by kernel_rfl) rfl (aI ?_ (?_))))
     ·refine WM_op (φ := True) (v := SL 2 0 k4) (H' := [.cells [.sl 1 0 k2, .sl 2 0 k4], nR x1, lO x3]) rfl rfl (by kernel_rfl) trivial rfl (aI (aI rfl rfl) (aI rfl (aI rfl (trivial)))) (WD_all [7] (n := 7) (by kernel_rfl) rfl (WM_op (φ := True) (v := SL 1 0 k2) (H' := [.cells [.sl 1 0 k2, .sl 2 0 k4], nR x1, lO x3]) rfl rfl (by kernel_rfl) trivial rfl (aI (aI rfl rfl) (aI rfl (aI rfl (trivial)))) (WD_all [11] (n := 6) (by kernel_rfl) rfl (WM_call [.view 0] Tryz.f80 rfl rfl (by kernel_rfl) Tryz.func80 rfl (by kernel_rfl) (impl_LocksFor_ok n ((x1.drop 0).take k2) i30 i33 i7 x40 hc41) (trivial) rfl (aI (aI rfl rfl) (aI rfl (aI rfl (trivial)))) (WD_all [12] (n := 5) (by kernel_rfl) rfl (WM_call [.view 0, .ro 3] Tryz.f79 rfl rfl (by kernel_rfl) Tryz.func79 rfl (by kernel_rfl) (impl_TakeAll_ok n ((x3.drop 0).take k4) x40 x42 b43 hc44) (aI (aI rfl rfl) (trivial)) rfl (aI (aI rfl rfl) (aI rfl (aI rfl (trivial)))) (WD_all [13] (n := 4) (by kernel_rfl) rfl (WM_op (φ := True) (v := .tup [.e (.sl 4 0 x42.length), .e (cB b43)]) (H' := [.cells [.sl 1 0 k2, .sl 2 0 k4], nR x1, lO x3, lO x40, lO x42]) rfl rfl (by kernel_rfl) trivial rfl (aI (aI rfl rfl) (aI rfl (aI rfl (trivial)))) (WD_all [14, 15] (n := 3) (by kernel_rfl) rfl (aI ?_ (?_)))))))))))
      ·refine WM_op (φ := True) (v := sF 4 x42) (H' := [.cells [.sl 1 0 k2, .sl 2 0 k4], nR x1, lO x3, lO x40, lO x42]) rfl rfl (by kernel_rfl) trivial rfl (aI (aI rfl rfl) (aI rfl (aI rfl (trivial)))) (WD_all [15, 16] (n := 2) (by kernel_rfl) rfl (aI ?_ (?_)))
       ·refine WM_op (φ := True) (v := B b43) (H' := [.cells [.sl 1 0 k2, .sl 2 0 k4], nR x1, lO x3, lO x40, lO x42]) rfl rfl (by kernel_rfl) trivial rfl (aI (aI rfl rfl) (aI rfl (aI rfl (trivial)))) (WD_all [16] (n := 1) (by kernel_rfl) rfl (WM_op (φ := True) (v := sF 4 x42) (H' := [.cells [.sl 1 0 k2, .sl 2 0 k4], nR x1, lO x3, lO x40, lO x42]) rfl rfl (by kernel_rfl) trivial rfl (aI (aI rfl rfl) (aI rfl (aI rfl (trivial)))) (WD_takeK [17] [0, 10] [0, 10, 12] (φ := True) (ls' := (tf true [18])) (Ts' := [(0, pA 0 0), (10, B b43)]) (st' := ⟨[(0, pA 0 0), (10, B b43), (12, sF 4 x42)], [.cells [.sl 1 0 k2, .sl 2 0 k4], nR x1, lO x3, lO x40, lO x42]⟩) (n2 := 0) (by kernel_rfl) trivial rfl ?_)))
        exact WD_done [0, 1, 2, 4] [0, 10, 12] (st' := ⟨[(0, pA 0 0), (10, B b43), (12, sF 3 x42)], [.cells [.sl 1 0 k2, .sl 2 0 k4], nR x1, lO x3, lO x42]⟩) (by kernel_rfl) (by kernel_rfl) (aI rfl rfl)
       ·refine WM_op (φ := True) (v := sF 4 x42) (H' := [.cells [.sl 1 0 k2, .sl 2 0 k4], nR x1, lO x3, lO x40, lO x42]) rfl rfl (by kernel_rfl) trivial rfl (aI (aI rfl rfl) (aI rfl (aI rfl (trivial)))) (WD_all [15] (n := 1) (by kernel_rfl) rfl (WM_op (φ := True) (v := B b43) (H' := [.cells [.sl 1 0 k2, .sl 2 0 k4], nR x1, lO x3, lO x40, lO x42]) rfl rfl (by kernel_rfl) trivial rfl (aI (aI rfl rfl) (aI rfl (aI rfl (trivial)))) (WD_takeK [17] [0, 10] [0, 10, 12] (φ := True) (ls' := (tf true [18])) (Ts' := [(0, pA 0 0), (10, B b43)]) (st' := ⟨[(0, pA 0 0), (10, B b43), (12, sF 4 x42)], [.cells [.sl 1 0 k2, .sl 2 0 k4], nR x1, lO x3, lO x40, lO x42]⟩) (n2 := 0) (by kernel_rfl) trivial rfl ?_)))
        exact WD_done [0, 1, 2, 4] [0, 10, 12] (st' := ⟨[(0, pA 0 0), (10, B b43), (12, sF 3 x42)], [.cells [.sl 1 0 k2, .sl 2 0 k4], nR x1, lO x3, lO x42]⟩) (by kernel_rfl) (by kernel_rfl) (aI rfl rfl)
      ·refine WM_op (φ := True) (v := B b43) (H' := [.cells [.sl 1 0 k2, .sl 2 0 k4], nR x1, lO x3, lO x40, lO x42]) rfl rfl (by kernel_rfl) trivial rfl (aI (aI rfl rfl) (aI rfl (aI rfl (trivial)))) (WD_all [14] (n := 2) (by kernel_rfl) rfl (WM_op (φ := True) (v := sF 4 x42) (H' := [.cells [.sl 1 0 k2, .sl 2 0 k4], nR x1, lO x3, lO x40, lO x42]) rfl rfl (by kernel_rfl) trivial rfl (aI (aI rfl rfl) (aI rfl (aI rfl (trivial)))) (WD_all [16] (n := 1) (by kernel_rfl) rfl (WM_op (φ := True) (v := sF 4 x42) (H' := [.cells [.sl 1 0 k2, .sl 2 0 k4], nR x1, lO x3, lO x40, lO x42]) rfl rfl (by kernel_rfl) trivial rfl (aI (aI rfl rfl) (aI rfl (aI rfl (trivial)))) (WD_takeK [17] [0, 10] [0, 10, 12] (φ := True) (ls' := (tf true [18])) (Ts' := [(0, pA 0 0), (10, B b43)]) (st' := ⟨[(0, pA 0 0), (10, B b43), (12, sF 4 x42)], [.cells [.sl 1 0 k2, .sl 2 0 k4], nR x1, lO x3, lO x40, lO x42]⟩) (n2 := 0) (by kernel_rfl) trivial rfl ?_)))))
       exact WD_done [0, 1, 2, 4] [0, 10, 12] (st' := ⟨[(0, pA 0 0), (10, B b43), (12, sF 3 x42)], [.cells [.sl 1 0 k2, .sl 2 0 k4], nR x1, lO x3, lO x42]⟩) (by kernel_rfl) (by kernel_rfl) (aI rfl rfl)
     ·refine WM_op (φ := True) (v := SL 1 0 k2) (H' := [.cells [.sl 1 0 k2, .sl 2 0 k4], nR x1, lO x3]) rfl rfl (by kernel_rfl) trivial rfl (aI (aI rfl rfl) (aI rfl (aI rfl (trivial)))) (WD_all [3, 11] (n := 7) (by kernel_rfl) rfl (aI ?_ (?_)))
      ·refine WM_op (φ := True) (v := SL 2 0 k4) (H' := [.cells [.sl 1 0 k2, .sl 2 0 k4], nR x1, lO x3]) rfl rfl (by kernel_rfl) trivial rfl (aI (aI rfl rfl) (aI rfl (aI rfl (trivial)))) (WD_all [11] (n := 6) (by kernel_rfl) rfl (WM_call [.view 0] Tryz.f80 rfl rfl (by kernel_rfl) Tryz.func80 rfl (by kernel_rfl) (impl_LocksFor_ok n ((x1.drop 0).take k2) i30 i33 i7 x40 hc41) (trivial) rfl (aI (aI rfl rfl) (aI rfl (aI rfl (trivial)))) (WD_all [12] (n := 5) (by kernel_rfl) rfl (WM_call [.view 0, .ro 3] Tryz.f79 rfl rfl (by kernel_rfl) Tryz.func79 rfl (by kernel_rfl) (impl_TakeAll_ok n ((x3.drop 0).take k4) x40 x42 b43 hc44) (aI (aI rfl rfl) (trivial)) rfl (aI (aI rfl rfl) (aI rfl (aI rfl (trivial)))) (WD_all [13] (n := 4) (by kernel_rfl) rfl (WM_op (φ := True) (v := .tup [.e (.sl 4 0 x42.length), .e (cB b43)]) (H' := [.cells [.sl 1 0 k2, .sl 2 0 k4], nR x1, lO x3, lO x40, lO x42]) rfl rfl (by kernel_rfl) trivial rfl (aI (aI rfl rfl) (aI rfl (aI rfl (trivial)))) (WD_all [14, 15] (n := 3) (by kernel_rfl) rfl (aI ?_ (?_)))))))))
       ·refine WM_op (φ := True) (v := sF 4 x42) (H' := [.cells [.sl 1 0 k2, .sl 2 0 k4], nR x1, lO x3, lO x40, lO x42]) rfl rfl (by kernel_rfl) trivial rfl (aI (aI rfl rfl) (aI rfl (aI rfl (trivial)))) (WD_all [15, 16] (n := 2) (by kernel_rfl) rfl (aI ?_ (?_)))
        ·refine WM_op (φ := True) (v := B b43) (H' := [.cells [.sl 1 0 k2, .sl 2 0 k4], nR x1, lO x3, lO x40, lO x42]) rfl rfl (by kernel_rfl) trivial rfl (aI (aI rfl rfl) (aI rfl (aI rfl (trivial)))) (WD_all [16] (n := 1) (by kernel_rfl) rfl (WM_op (φ := True) (v := sF 4 x42) (H' := [.cells [.sl 1 0 k2, .sl 2 0 k4], nR x1, lO x3, lO x40, lO x42]) rfl rfl (by kernel_rfl) trivial rfl (aI (aI rfl rfl) (aI rfl (aI rfl (trivial)))) (WD_takeK [17] [0, 10] [0, 10, 12] (φ := True) (ls' := (tf true [18])) (Ts' := [(0, pA 0 0), (10, B b43)]) (st' := ⟨[(0, pA 0 0), (10, B b43), (12, sF 4 x42)], [.cells [.sl 1 0 k2, .sl 2 0 k4], nR x1, lO x3, lO x40, lO x42]⟩) (n2 := 0) (by kernel_rfl) trivial rfl ?_)))
         exact WD_done [0, 1, 2, 4] [0, 10, 12] (st' := ⟨[(0, pA 0 0), (10, B b43), (12, sF 3 x42)], [.cells [.sl 1 0 k2, .sl 2 0 k4], nR x1, lO x3, lO x42]⟩) (by kernel_rfl) (by kernel_rfl) (aI rfl rfl)
        ·refine WM_op (φ := True) (v := sF 4 x42) (H' := [.cells [.sl 1 0 k2, .sl 2 0 k4], nR x1, lO x3, lO x40, lO x42]) rfl rfl (by kernel_rfl) trivial rfl (aI (aI rfl rfl) (aI rfl (aI rfl (trivial)))) (WD_all [15] (n := 1) (by kernel_rfl) rfl (WM_op (φ := True) (v := B b43) (H' := [.cells [.sl 1 0 k2, .sl 2 0 k4], nR x1, lO x3, lO x40, lO x42]) rfl rfl (by kernel_rfl) trivial rfl (aI (aI rfl rfl) (aI rfl (aI rfl (trivial)))) (WD_takeK [17] [0, 10] [0, 10, 12] (φ := True) (ls' := (tf true [18])) (Ts' := [(0, pA 0 0), (10, B b43)]) (st' := ⟨[(0, pA 0 0), (10, B b43), (12, sF 4 x42)], [.cells [.sl 1 0 k2, .sl 2 0 k4], nR x1, lO x3, lO x40, lO x42]⟩) (n2 := 0) (by kernel_rfl) trivial rfl ?_)))
         exact WD_done [0, 1, 2, 4] [0, 10, 12] (st' := ⟨[(0, pA 0 0), (10, B b43), (12, sF 3 x42)], [.cells [.sl 1 0 k2, .sl 2 0 k4], nR x1, lO x3, lO x42]⟩) (by kernel_rfl) (by kernel_rfl) (aI rfl rfl)
       ·refine WM_op (φ := True) (v := B b43) (H' := [.cells [.sl 1 0 k2, .sl 2 0 k4], nR x1, lO x3, lO x40, lO x42]) rfl rfl (by kernel_rfl) trivial rfl (aI (aI rfl rfl) (aI rfl (aI rfl (trivial)))) (WD_all [14] (n := 2) (by kernel_rfl) rfl (WM_op (φ := True) (v := sF 4 x42) (H' := [.cells [.sl 1 0 k2, .sl 2 0 k4], nR x1, lO x3, lO x40, lO x42]) rfl rfl (by kernel_rfl) trivial rfl (aI (aI rfl rfl) (aI rfl (aI rfl (trivial)))) (WD_all [16] (n := 1) (by kernel_rfl) rfl (WM_op (φ := True) (v := sF 4 x42) (H' := [.cells [.sl 1 0 k2, .sl 2 0 k4], nR x1, lO x3, lO x40, lO x42]) rfl rfl (by kernel_rfl) trivial rfl (aI (aI rfl rfl) (aI rfl (aI rfl (trivial)))) (WD_takeK [17] [0, 10] [0, 10, 12] (φ := True) (ls' := (tf true [18])) (Ts' := [(0, pA 0 0), (10, B b43)]) (st' := ⟨[(0, pA 0 0), (10, B b43), (12, sF 4 x42)], [.cells [.sl 1 0 k2, .sl 2 0 k4], nR x1, lO x3, lO x40, lO x42]⟩) (n2 := 0) (by kernel_rfl) trivial rfl ?_)))))
        exact WD_done [0, 1, 2, 4] [0, 10, 12] (st' := ⟨[(0, pA 0 0), (10, B b43), (12, sF 3 x42)], [.cells [.sl 1 0 k2, .sl 2 0 k4], nR x1, lO x3, lO x42]⟩) (by kernel_rfl) (by kernel_rfl) (aI rfl rfl)
      ·refine WM_call [.view 0] Tryz.f80 rfl rfl (by kernel_rfl) Tryz.func80 rfl (by kernel_rfl) (impl_LocksFor_ok n ((x1.drop 0).take k2) i30 i33 i7 x40 hc41) (trivial) rfl (aI (aI rfl rfl) (aI rfl (aI rfl (trivial)))) (WD_all [3] (n := 6) (by kernel_rfl) rfl (WM_op (φ := True) (v := SL 2 0 k4) (H' := [.cells [.sl 1 0 k2, .sl 2 0 k4], nR x1, lO x3, lO x40]) rfl rfl (by kernel_rfl) trivial rfl (aI (aI rfl rfl) (aI rfl (aI rfl (trivial)))) (WD_all [12] (n := 5) (by kernel_rfl) rfl (WM_call [.view 0, .ro 3] Tryz.f79 rfl rfl (by kernel_rfl) Tryz.func79 rfl (by kernel_rfl) (impl_TakeAll_ok n ((x3.drop 0).take k4) x40 x42 b43 hc44) (aI (aI rfl rfl) (trivial)) rfl (aI (aI rfl rfl) (aI rfl (aI rfl (trivial)))) (WD_all [13] (n := 4) (by kernel_rfl) rfl (WM_op (φ := True) (v := .tup [.e (.sl 4 0 x42.length), .e (cB b43)]) (H' := [.cells [.sl 1 0 k2, .sl 2 0 k4], nR x1, lO x3, lO x40, lO x42]) rfl rfl (by kernel_rfl) trivial rfl (aI (aI rfl rfl) (aI rfl (aI rfl (trivial)))) (WD_all [14, 15] (n := 3) (by kernel_rfl) rfl (aI ?_ (?_)))))))))
       ·refine WM_op (φ := True) (v := sF 4 x42) (H' := [.cells [.sl 1 0 k2, .sl 2 0 k4], nR x1, lO x3, lO x40, lO x42]) rfl rfl (by kernel_rfl) trivial rfl (aI (aI rfl rfl) (aI rfl (aI rfl (trivial)))) (WD_all [15, 16] (n := 2) (by kernel_rfl) rfl (aI ?_ (?_)))
        ·refine WM_op (φ := True) (v := B b43) (H' := [.cells [.sl 1 0 k2, .sl 2 0 k4], nR x1, lO x3, lO x40, lO x42]) rfl rfl (by kernel_rfl) trivial rfl (aI (aI rfl rfl) (aI rfl (aI rfl (trivial)))) (WD_all [16] (n := 1) (by kernel_rfl) rfl (WM_op (φ := True) (v := sF 4 x42) (H' := [.cells [.sl 1 0 k2, .sl 2 0 k4], nR x1, lO x3, lO x40, lO x42]) rfl rfl (by kernel_rfl) trivial rfl (aI (aI rfl rfl) (aI rfl (aI rfl (trivial)))) (WD_takeK [17] [0, 10] [0, 10, 12] (φ := True) (ls' := (tf true [18])) (Ts' := [(0, pA 0 0), (10, B b43)]) (st' := ⟨[(0, pA 0 0), (10, B b43), (12, sF 4 x42)], [.cells [.sl 1 0 k2, .sl 2 0 k4], nR x1, lO x3, lO x40, lO x42]⟩) (n2 := 0) (by kernel_rfl) trivial rfl ?_)))
         exact WD_done [0, 1, 2, 4] [0, 10, 12] (st' := ⟨[(0, pA 0 0), (10, B b43), (12, sF 3 x42)], [.cells [.sl 1 0 k2, .sl 2 0 k4], nR x1, lO x3, lO x42]⟩) (by kernel_rfl) (by kernel_rfl) (aI rfl rfl)
        ·refine WM_op (φ := True) (v := sF 4 x42) (H' := [.cells [.sl 1 0 k2, .sl 2 0 k4], nR x1, lO x3, lO x40, lO x42]) rfl rfl (by kernel_rfl) trivial rfl (aI (aI rfl rfl) (aI rfl (aI rfl (trivial)))) (WD_all [15] (n := 1) (by kernel_rfl) rfl (WM_op (φ := True) (v := B b43) (H' := [.cells [.sl 1 0 k2, .sl 2 0 k4], nR x1, lO x3, lO x40, lO x42]) rfl rfl (by kernel_rfl) trivial rfl (aI (aI rfl rfl) (aI rfl (aI rfl (trivial)))) (WD_takeK [17] [0, 10] [0, 10, 12] (φ := True) (ls' := (tf true [18])) (Ts' := [(0, pA 0 0), (10, B b43)]) (st' := ⟨[(0, pA 0 0), (10, B b43), (12, sF 4 x42)], [.cells [.sl 1 0 k2, .sl 2 0 k4], nR x1, lO x3, lO x40, lO x42]⟩) (n2 := 0) (by kernel_rfl) trivial rfl ?_)))
         exact WD_done [0, 1, 2, 4] [0, 10, 12] (st' := ⟨[(0, pA 0 0), (10, B b43), (12, sF 3 x42)], [.cells [.sl 1 0 k2, .sl 2 0 k4], nR x1, lO x3, lO x42]⟩) (by kernel_rfl) (by kernel_rfl) (aI rfl rfl)
       ·refine WM_op (φ := True) (v := B b43) (H' := [.cells [.sl 1 0 k2, .sl 2 0 k4], nR x1, lO x3, lO x40, lO x42]) rfl rfl (by kernel_rfl) trivial rfl (aI (aI rfl rfl) (aI rfl (aI rfl (trivial)))) (WD_all [14] (n := 2) (by kernel_rfl) rfl (WM_op (φ := True) (v := sF 4 x42) (H' := [.cells [.sl 1 0 k2, .sl 2 0 k4], nR x1, lO x3, lO x40, lO x42]) rfl rfl (by kernel_rfl) trivial rfl (aI (aI rfl rfl) (aI rfl (aI rfl (trivial)))) (WD_all [16] (n := 1) (by kernel_rfl) rfl (WM_op (φ := True) (v := sF 4 x42) (H' := [.cells [.sl 1 0 k2, .sl 2 0 k4], nR x1, lO x3, lO x40, lO x42]) rfl rfl (by kernel_rfl) trivial rfl (aI (aI rfl rfl) (aI rfl (aI rfl (trivial)))) (WD_takeK [17] [0, 10] [0, 10, 12] (φ := True) (ls' := (tf true [18])) (Ts' := [(0, pA 0 0), (10, B b43)]) (st' := ⟨[(0, pA 0 0), (10, B b43), (12, sF 4 x42)], [.cells [.sl 1 0 k2, .sl 2 0 k4], nR x1, lO x3, lO x40, lO x42]⟩) (n2 := 0) (by kernel_rfl) trivial rfl ?_)))))
        exact WD_done [0, 1, 2, 4] [0, 10, 12] (st' := ⟨[(0, pA 0 0), (10, B b43), (12, sF 3 x42)], [.cells [.sl 1 0 k2, .sl 2 0 k4], nR x1, lO x3, lO x42]⟩) (by kernel_rfl) (by kernel_rfl) (aI rfl rfl)
    ·rintro _ _ ⟨rfl, rfl⟩
     refine thenS_n (W_seq (Wsr ((Ws 2 [0, 1, 2, 3] [0, 12, 47] ⟨[(0, pA 0 0), (12, sF 3 x42), (47, B (!b43))], [.cells [.sl 1 0 k2, .sl 2 0 k4], nR x1, lO x3, lO x42]⟩ (Wnt ((iteO_e h (fun hb47 h => W_true rfl hb47 ?_) (fun hb47 h => W_false rfl hb47 ?_))))))))
     ·refine Wsr ((Ws 1 [0, 1, 2] [8] ⟨[(8, S [110, 111])], [.cells [.sl 1 0 k2, .sl 2 0 k4], nR x1, lO x3]⟩ (Wnt ((W_ret (thenS_r ?_))))))
      cases h
      exact ⟨[0, 1, 999, 2], True, by kernel_rfl, trivial⟩
     ·refine Ww [0, 1, 2, 3] [0, 12] ⟨[(0, pA 0 0), (12, sF 3 x42)], [.cells [.sl 1 0 k2, .sl 2 0 k4], nR x1, lO x3, lO x42]⟩ (W_skip (thenS_n (Wsr ((Wp 5 [0, 1, 2, 3] [] T2 ⟨[], [.cells [.sl 1 0 k2, .sl 3 0 x42.length], nR x1, lO x3, lO x42]⟩ t2 (Wnt ((Wsr ((Ws 1 [0, 1, 2, 3] [8] ⟨[(8, S [111, 107])], [.cells [.sl 1 0 k2, .sl 3 0 x42.length], nR x1, lO x3, lO x42]⟩ (Wnt ((W_ret ?_)))))))))))))
      cases h
      exact ⟨[0, 1, 999, 3], True, by kernel_rfl, trivial⟩

/- impl.IsStronger -/
def impl_IsStronger (i1 : Int) (i2 : Int) : Option (Bool) :=
 bindO (iteO (impl_isMode i1)
 (iteO (impl_isMode i2)
 (guardO (0 ≤ i1 ∧ i1 < (6 : Int)) <|
 guardO (0 ≤ i2 ∧ i2 < (6 : Int)) <|
 guardO (((0 + (i1.toNat * 6)) + (i2.toNat * 1)) < gtab5.length) <|
 some (decide ((gtab5.getD ((0 + (i1.toNat * 6)) + (i2.toNat * 1)) 0) = i1)))
 (some false))
 (some false)) fun b21 =>
 some b21

theorem impl_IsStronger_ok (i1 : Int) (i2 : Int) (b15 : Bool) (h : impl_IsStronger i1 i2 = some b15) : FOk EE 145 [I i1, I i2] [] (B b15) [] := by
  unfold impl_IsStronger at h
  refine FOk_of_W 20 0 Tryz.func145 rfl rfl (Nat.le_of_ble_eq_true rfl) rfl (fun w X θ => ?_)
  refine Wsr ((Ws 1 [] [0, 1] ⟨[(0, I i1), (1, I i2)], []⟩ (Wnt ((W_seq (W_region ?_))))))
  refine Ws 1 [] [0, 1, 5] ⟨[(0, I i1), (1, I i2), (5, I i1)], []⟩ (Wc [] rfl rfl rfl Tryz.func149 rfl (impl_isMode_ok i1) (trivial) rfl (Ws 1 [] [0, 1, 7] ⟨[(0, I i1), (1, I i2), (7, B (impl_isMode i1))], []⟩ (bindO_e h (fun b21 hv22 h => (WO_thru ⟨[(4, B b21)], []⟩ ?_ ?_)))))
  ·refine iteO_e hv22 (fun hb23 hv22 => WO_known 7 true rfl hb23 ?_) (fun hb23 hv22 => WO_known 7 false rfl hb23 ?_)
   ·refine Ws 1 [] [0, 1, 7, 8] ⟨[(0, I i1), (1, I i2), (7, B true), (8, I i2)], []⟩ (Wc [] rfl rfl rfl Tryz.func149 rfl (impl_isMode_ok i2) (trivial) rfl (Ws 2 [] [0, 1, 11] ⟨[(0, I i1), (1, I i2), (11, B (impl_isMode i2))], []⟩ (iteO_e hv22 (fun hb24 hv22 => WO_known 11 true rfl hb24 ?_) (fun hb24 hv22 => WO_known 11 false rfl hb24 ?_))))
    ·refine guardO_e hv22 (fun hg25 hv22 => (guardO_e hv22 (fun hg26 hv22 => (guardO_e hv22 (fun hg27 hv22 => (Wp 9 [] [4] ((0 ≤ i1 ∧ i1 < (6 : Int)) ∧ ((0 ≤ i2 ∧ i2 < (6 : Int)) ∧ ((((0 + (i1.toNat * 6)) + (i2.toNat * 1)) < gtab5.length) ∧ T2))) ⟨[(4, B (decide ((gtab5.getD ((0 + (i1.toNat * 6)) + (i2.toNat * 1)) 0) = i1)))], []⟩ ⟨hg25, hg26, hg27, trivial, trivial⟩ ?_))))))
     cases hv22
     exact WO_nil rfl ⟨rfl, rfl⟩
    ·refine Ws 9 [] [4] ⟨[(4, B false)], []⟩ ?_
     cases hv22
     exact WO_nil rfl ⟨rfl, rfl⟩
   ·refine Ws 13 [] [4] ⟨[(4, B false)], []⟩ ?_
    cases hv22
    exact WO_nil rfl ⟨rfl, rfl⟩
  ·refine thenS_n (W_ret ?_)
   cases h
   exact ⟨[], True, by kernel_rfl, trivial⟩

/- impl.hasOnPath -/
def impl_hasOnPath_L1 (x1 : List Nod) (x2 : List Lck) (i3 : Int) (i5 : Int) : Nat → Int → Option ((Unit) ⊕ (Unit))
| 0, _ => none
| n + 1, i100 =>
 iteO (decide (0 ≤ i100))
 (bindO (impl_heldIn n x2 i3 i100) fun i126 =>
 bindO (impl_IsStronger i126 i5) fun b128 =>
 iteO b128
 (some (.inl ()))
 (guardO (0 ≤ i100 ∧ i100 < ((x1.length : Nat) : Int)) <|
 impl_hasOnPath_L1 x1 x2 i3 i5 n ((x1.getD i100.toNat dnod).parent)))
 (some (.inr ()))

theorem impl_hasOnPath_L1_ok (w : World) (X : Nat → Prop) (θ : List Loc) (x1 : List Nod) (x2 : List Lck) (i3 : Int) (i5 : Int) (v : (Unit) ⊕ (Unit)) : ∀ (n : Nat) (i100 : Int), impl_hasOnPath_L1 x1 x2 i3 i5 n i100 = some v → WL EE ⟨w, X, θ, 35, 2⟩ (subC [1, 1, 0, 1, 4, 4] (bodyC Tryz.f119)) (fun (e : Exit) (s : St) => (match v with | (.inl _) => e = .ret ∧ s = ⟨[(10, B true)], [nR x1, lR x2]⟩ | (.inr _) => e = .exit 0 ∧ s = ⟨[], [nR x1, lR x2]⟩ : Prop)) ⟨[(0, sF 0 x1), (1, sF 1 x2), (2, I i3), (4, I i5), (11, I i100)], [nR x1, lR x2]⟩ := by
  intro n
  induction n with
  | zero => intro _ h; exact none_e h
  | succ n ih =>
    intro i100 h
    rw [impl_hasOnPath_L1] at h
    refine WL_round ?_
    refine W_seq (Wsr ((Wp 2 [0, 1] [0, 1, 2, 4, 11, 23] T2 ⟨[(0, sF 0 x1), (1, sF 1 x2), (2, I i3), (4, I i5), (11, I i100), (23, B (decide (0 ≤ i100)))], [nR x1, lR x2]⟩ t2 (Wnt ((iteO_e h (fun hb119 h => W_true rfl hb119 ?_) (fun hb119 h => W_false rfl hb119 ?_)))))))
    ·refine Ww [0, 1] [0, 1, 2, 4, 11] ⟨[(0, sF 0 x1), (1, sF 1 x2), (2, I i3), (4, I i5), (11, I i100)], [nR x1, lR x2]⟩ (W_skip (thenS_n (W_seq (W_block (Wsr ((Ws 3 [0, 1] [0, 1, 2, 4, 11, 29, 30, 31] ⟨[(0, sF 0 x1), (1, sF 1 x2), (2, I i3), (4, I i5), (11, I i100), (29, sF 1 x2), (30, I i3), (31, I i100)], [nR x1, lR x2]⟩ (bindO_e h (fun i126 hc127 h => (Wc [.ro 1] rfl rfl rfl Tryz.func146 rfl (impl_heldIn_ok n x2 i3 i100 i126 hc127) (aI (aI rfl rfl) (trivial)) rfl (Ws 1 [0, 1] [0, 1, 2, 4, 11, 32, 33] ⟨[(0, sF 0 x1), (1, sF 1 x2), (2, I i3), (4, I i5), (11, I i100), (32, I i126), (33, I i5)], [nR x1, lR x2]⟩ (bindO_e h (fun b128 hc129 h => (Wc [] rfl rfl rfl Tryz.func145 rfl (impl_IsStronger_ok i126 i5 b128 hc129) (trivial) rfl (Wb [0, 1] [0, 1, 2, 4, 11, 34] ⟨[(0, sF 0 x1), (1, sF 1 x2), (2, I i3), (4, I i5), (11, I i100), (34, B b128)], [nR x1, lR x2]⟩ (Wnt ((iteO_e h (fun hb131 h => W_true rfl hb131 ?_) (fun hb131 h => W_false rfl hb131 ?_)))))))))))))))))))
     ·refine Wsr ((Ws 1 [0, 1] [10] ⟨[(10, B true)], [nR x1, lR x2]⟩ (Wnt ((W_ret (blockS_r (thenS_r (thenS_r ?_))))))))
      cases h
      exact aI rfl rfl
     ·refine Ww [0, 1] [0, 1, 2, 4, 11] ⟨[(0, sF 0 x1), (1, sF 1 x2), (2, I i3), (4, I i5), (11, I i100)], [nR x1, lR x2]⟩ (W_skip (blockS_n (thenS_n (W_region (guardO_e h (fun hg132 h => (Wp 6 [0, 1] [0, 1, 2, 4, 11] ((0 ≤ i100 ∧ i100 < (lI x1)) ∧ T2) ⟨[(0, sF 0 x1), (1, sF 1 x2), (2, I i3), (4, I i5), (11, I ((x1.getD i100.toNat dnod).parent))], [nR x1, lR x2]⟩ ⟨hg132, trivial, trivial⟩ (Wnt (?_)))))))))
      exact ih _ h
    ·refine Ww [0, 1] [] ⟨[], [nR x1, lR x2]⟩ (W_exit (thenS_e (thenS_e ?_)))
     cases h
     exact aI rfl rfl

def impl_hasOnPath (n : Nat) (x1 : List Nod) (x2 : List Lck) (i3 : Int) (i4 : Int) (i5 : Int) : Option (Bool) :=
 bindO (impl_isNode n x1 i4) fun b70 =>
 bindO (iteO (!b70)
 (some true)
 (bindO (impl_ValidTable n x2) fun b78 =>
 some (!b78))) fun b75 =>
 iteO b75
 (some false)
 (bindO (impl_hasOnPath_L1 x1 x2 i3 i5 n i4) fun v133 =>
 match v133 with
 | (.inl _) => (some true)
 | (.inr _) => (some false)
)

theorem impl_hasOnPath_ok (n : Nat) (x1 : List Nod) (x2 : List Lck) (i3 : Int) (i4 : Int) (i5 : Int) (b69 : Bool) (h : impl_hasOnPath n x1 x2 i3 i4 i5 = some b69) : FOk EE 119 [sF 0 x1, sF 1 x2, I i3, I i4, I i5] [nR x1, lR x2] (B b69) [nR x1, lR x2] := by
  unfold impl_hasOnPath at h
  refine FOk_of_W 35 2 Tryz.func119 rfl rfl (Nat.le_of_ble_eq_true rfl) rfl (fun w X θ => ?_)
  refine Wsr ((Ws 1 [0, 1] [0, 1, 2, 3, 4] ⟨[(0, sF 0 x1), (1, sF 1 x2), (2, I i3), (3, I i4), (4, I i5)], [nR x1, lR x2]⟩ (Wnt ((W_seq (W_seq ?_))))))
  refine W_region (Ws 2 [0, 1] [0, 1, 2, 3, 4, 12, 13] ⟨[(0, sF 0 x1), (1, sF 1 x2), (2, I i3), (3, I i4), (4, I i5), (12, sF 0 x1), (13, I i4)], [nR x1, lR x2]⟩ (bindO_e h (fun b70 hc71 h => (Wc [.ro 0] rfl rfl rfl Tryz.func111 rfl (impl_isNode_ok n x1 i4 b70 hc71) (aI (aI rfl rfl) (trivial)) rfl (Ws 2 [0, 1] [0, 1, 2, 3, 4, 16] ⟨[(0, sF 0 x1), (1, sF 1 x2), (2, I i3), (3, I i4), (4, I i5), (16, B (!b70))], [nR x1, lR x2]⟩ (bindO_e h (fun b75 hv76 h => (WO_thru ⟨[(0, sF 0 x1), (1, sF 1 x2), (2, I i3), (3, I i4), (4, I i5), (20, B b75)], [nR x1, lR x2]⟩ ?_ ?_))))))))
  ·refine iteO_e hv76 (fun hb77 hv76 => WO_known 16 true rfl hb77 ?_) (fun hb77 hv76 => WO_known 16 false rfl hb77 ?_)
   ·refine Ws 4 [0, 1] [0, 1, 2, 3, 4, 20] ⟨[(0, sF 0 x1), (1, sF 1 x2), (2, I i3), (3, I i4), (4, I i5), (20, B true)], [nR x1, lR x2]⟩ ?_
    cases hv76
    exact WO_nil rfl ⟨rfl, rfl⟩
   ·refine Ws 1 [0, 1] [0, 1, 2, 3, 4, 16, 17] ⟨[(0, sF 0 x1), (1, sF 1 x2), (2, I i3), (3, I i4), (4, I i5), (16, B false), (17, sF 1 x2)], [nR x1, lR x2]⟩ (bindO_e hv76 (fun b78 hc79 hv76 => (Wc [.ro 1] rfl rfl rfl Tryz.func86 rfl (impl_ValidTable_ok n x2 b78 hc79) (aI (aI rfl rfl) (trivial)) rfl (Ws 2 [0, 1] [0, 1, 2, 3, 4, 20] ⟨[(0, sF 0 x1), (1, sF 1 x2), (2, I i3), (3, I i4), (4, I i5), (20, B (!b78))], [nR x1, lR x2]⟩ ?_))))
    cases hv76
    exact WO_nil rfl ⟨rfl, rfl⟩
  ·refine thenS_n (iteO_e h (fun hb81 h => W_true rfl hb81 ?_) (fun hb81 h => W_false rfl hb81 ?_))
   ·refine Wsr ((Ws 1 [0, 1] [10] ⟨[(10, B false)], [nR x1, lR x2]⟩ (Wnt ((W_ret (thenS_r ?_))))))
    cases h
    exact ⟨[0, 1], True, by kernel_rfl, trivial⟩
   ·refine Ww [0, 1] [0, 1, 2, 3, 4] ⟨[(0, sF 0 x1), (1, sF 1 x2), (2, I i3), (3, I i4), (4, I i5)], [nR x1, lR x2]⟩ (W_skip (thenS_n (W_seq (Wsr ((Ws 2 [0, 1] [0, 1, 2, 4, 11] ⟨[(0, sF 0 x1), (1, sF 1 x2), (2, I i3), (4, I i5), (11, I i4)], [nR x1, lR x2]⟩ (Wnt ((W_block (W_loop (bindO_e h (fun v133 hv133 h => (WL_cut (impl_hasOnPath_L1_ok w X θ x1 x2 i3 i5 v133 n i4 hv133) ?_)))))))))))))
    rcases v133 with _ | _
    ·rintro _ _ ⟨rfl, rfl⟩
     refine blockS_r (thenS_r ?_)
     cases h
     exact ⟨[0, 1], True, by kernel_rfl, trivial⟩
    ·rintro _ _ ⟨rfl, rfl⟩
     refine blockS_y (thenS_n (Wsr ((Ws 1 [0, 1] [10] ⟨[(10, B false)], [nR x1, lR x2]⟩ (Wnt ((W_ret ?_)))))))
     cases h
     exact ⟨[0, 1], True, by kernel_rfl, trivial⟩

/- impl.MayRead -/
def impl_MayRead (n : Nat) (x1 : List Nod) (x2 : List Lck) (i3 : Int) (i4 : Int) : Option (Bool) :=
 bindO (impl_hasOnPath n x1 x2 i3 i4 3) fun b8 =>
 some b8

theorem impl_MayRead_ok (n : Nat) (x1 : List Nod) (x2 : List Lck) (i3 : Int) (i4 : Int) (b7 : Bool) (h : impl_MayRead n x1 x2 i3 i4 = some b7) : FOk EE 81 [sF 0 x1, sF 1 x2, I i3, I i4] [nR x1, lR x2] (B b7) [nR x1, lR x2] := by
  unfold impl_MayRead at h
  refine FOk_of_W 14 2 Tryz.func81 rfl rfl (Nat.le_of_ble_eq_true rfl) rfl (fun w X θ => ?_)
  refine Wsr ((Ws 1 [0, 1] [0, 1, 2, 3] ⟨[(0, sF 0 x1), (1, sF 1 x2), (2, I i3), (3, I i4)], [nR x1, lR x2]⟩ (Wnt ((W_seq (W_region ?_))))))
  refine Ws 4 [0, 1] [9, 10, 11, 12] ⟨[(9, sF 0 x1), (10, sF 1 x2), (11, I i3), (12, I i4)], [nR x1, lR x2]⟩ (bindO_e h (fun b8 hc9 h => (Wc [.ro 0, .ro 1] rfl rfl rfl Tryz.func119 rfl (impl_hasOnPath_ok n x1 x2 i3 i4 3 b8 hc9) (aI (aI rfl rfl) (aI (aI rfl rfl) (trivial))) rfl (Ws 1 [0, 1] [8] ⟨[(8, B b8)], [nR x1, lR x2]⟩ (Wnt ((W_ret ?_)))))))
  cases h
  exact ⟨[0, 1], True, by kernel_rfl, trivial⟩

/- impl.session).get -/
def impl_session_get (n : Nat) (x1 : List Nod) (k2 : Nat) (x3 : List Lck) (k4 : Nat) (s5 : Str) (s6 : Str) : Option (Str) :=
 bindO (impl_txnOf s5) fun (i25, b26) =>
 bindO (impl_ResolvePath n ((x1.drop 0).take k2) s6) fun i28 =>
 bindO (iteO (!b26)
 (some true)
 (iteO (decide (i28 < 0))
 (some true)
 (bindO (impl_MayRead n ((x1.drop 0).take k2) ((x3.drop 0).take k4) i25 i28) fun b32 =>
 some (!b32)))) fun b34 =>
 iteO b34
 (some [110, 111])
 (guardO (0 ≤ i28 ∧ i28 < ((k2 : Nat) : Int)) <|
 bindO (strconv_Itoa ((x1.getD i28.toNat dnod).value)) fun s39 =>
 some s39)

theorem impl_session_get_ok (n : Nat) (x1 : List Nod) (k2 : Nat) (x3 : List Lck) (k4 : Nat) (s5 : Str) (s6 : Str) (s24 : Str) (h : impl_session_get n x1 k2 x3 k4 s5 s6 = some s24) : FOk EE 54 [pA 0 0, S s5, S s6] [.cells [.sl 1 0 k2, .sl 2 0 k4], nR x1, lR x3] (S s24) [.cells [.sl 1 0 k2, .sl 2 0 k4], nR x1, lR x3] := by
  unfold impl_session_get at h
  refine FOk_of_W 50 3 Tryz.func54 rfl rfl (Nat.le_of_ble_eq_true rfl) rfl (fun w X θ => ?_)
  refine Wsr ((Ws 1 [0, 1, 2] [0, 1, 2] ⟨[(0, pA 0 0), (1, S s5), (2, S s6)], [.cells [.sl 1 0 k2, .sl 2 0 k4], nR x1, lR x3]⟩ (Wnt ((W_seq (W_region ?_))))))
  refine Ws 1 [0, 1, 2] [0, 2, 11] ⟨[(0, pA 0 0), (2, S s6), (11, S s5)], [.cells [.sl 1 0 k2, .sl 2 0 k4], nR x1, lR x3]⟩ (bindO_e h (fun v41 hc27 h => ?_))
  obtain ⟨i25, b26⟩ := v41
  refine Wc [] rfl rfl rfl Tryz.func77 rfl (impl_txnOf_ok s5 i25 b26 hc27) (trivial) rfl (Ws 5 [0, 1, 2] [0, 2, 7, 8] ⟨[(0, pA 0 0), (2, S s6), (7, I i25), (8, B b26)], [.cells [.sl 1 0 k2, .sl 2 0 k4], nR x1, lR x3]⟩ (Wnt ((Wsr ((Wp 5 [0, 1, 2] [0, 7, 8, 18, 19] T2 ⟨[(0, pA 0 0), (7, I i25), (8, B b26), (18, SL 1 0 k2), (19, S s6)], [.cells [.sl 1 0 k2, .sl 2 0 k4], nR x1, lR x3]⟩ t2 ?_))))))
  refine bindO_e h (fun i28 hc29 h => (Wc [.view 0] rfl rfl rfl Tryz.func78 rfl (impl_ResolvePath_ok n ((x1.drop 0).take k2) s6 i28 hc29) (trivial) rfl (Ws 1 [0, 1, 2] [0, 7, 8, 9] ⟨[(0, pA 0 0), (7, I i25), (8, B b26), (9, I i28)], [.cells [.sl 1 0 k2, .sl 2 0 k4], nR x1, lR x3]⟩ (Wnt ((W_seq (W_seq ?_)))))))
  refine bindO_e h (fun b34 hv35 h => (W_cut (Q' := fun (e : Exit) (s : St) => e = .normal ∧ s = ⟨[(0, pA 0 0), (9, I i28), (40, B b34)], [.cells [.sl 1 0 k2, .sl 2 0 k4], nR x1, lR x3]⟩) ?_ ?_))
  ·refine iteO_e hv35 (fun hb30 hv35 => ?_) (fun hb30 hv35 => ?_)
   ·refine W_draw [] false (by kernel_rfl) (by kernel_rfl) (WD_takeQ [0, 1, 2] [0, 7, 9, 23] [0, 7, 9, 23] (φ := True) (ls' := (tf true [3, 17])) (st' := ⟨[(0, pA 0 0), (7, I i25), (9, I i28), (23, B (!b26))], [.cells [.sl 1 0 k2, .sl 2 0 k4], nR x1, lR x3]⟩) (n2 := 17) (by kernel_rfl) trivial rfl (WD_known 23 true rfl rfl hb30 (WD_takeQ [3, 4, 5, 6, 7, 8, 9, 10, 11, 12, 13, 14, 15, 16, 17, 18, 19] [0, 9, 40] [0, 9, 40] (φ := True) (ls' := (tf true [20])) (st' := ⟨[(0, pA 0 0), (9, I i28), (40, B true)], [.cells [.sl 1 0 k2, .sl 2 0 k4], nR x1, lR x3]⟩) (n2 := 0) (by kernel_rfl) trivial rfl ?_)))
    exact WD_done [0, 1, 2] [0, 9, 40] (st' := ⟨[(0, pA 0 0), (9, I i28), (40, B true)], [.cells [.sl 1 0 k2, .sl 2 0 k4], nR x1, lR x3]⟩) (by kernel_rfl) (by kernel_rfl) (aI rfl (by cases hv35; rfl))
   ·refine iteO_e hv35 (fun hb31 hv35 => ?_) (fun hb31 hv35 => ?_)
    ·refine W_draw [] false (by kernel_rfl) (by kernel_rfl) (WD_takeQ [0, 1, 2] [0, 7, 9, 23] [0, 7, 9, 23] (φ := True) (ls' := (tf true [3, 17])) (st' := ⟨[(0, pA 0 0), (7, I i25), (9, I i28), (23, B (!b26))], [.cells [.sl 1 0 k2, .sl 2 0 k4], nR x1, lR x3]⟩) (n2 := 17) (by kernel_rfl) trivial rfl (WD_known 23 false rfl rfl hb30 (WD_takeQ [3, 4, 5, 6] [0, 7, 9, 27] [0, 7, 9, 27] (φ := (True ∧ True ∧ True)) (ls' := (tf true [7, 13])) (st' := ⟨[(0, pA 0 0), (7, I i25), (9, I i28), (27, B (decide (i28 < 0)))], [.cells [.sl 1 0 k2, .sl 2 0 k4], nR x1, lR x3]⟩) (n2 := 13) (by kernel_rfl) t3 rfl (WD_known 27 true rfl rfl hb31 (WD_takeQ [7, 8, 9, 10, 11, 12, 13, 14, 15, 16, 17, 18, 19] [0, 9, 40] [0, 9, 40] (φ := True) (ls' := (tf true [20])) (st' := ⟨[(0, pA 0 0), (9, I i28), (40, B true)], [.cells [.sl 1 0 k2, .sl 2 0 k4], nR x1, lR x3]⟩) (n2 := 0) (by kernel_rfl) trivial rfl ?_)))))
     exact WD_done [0, 1, 2] [0, 9, 40] (st' := ⟨[(0, pA 0 0), (9, I i28), (40, B true)], [.cells [.sl 1 0 k2, .sl 2 0 k4], nR x1, lR x3]⟩) (by kernel_rfl) (by kernel_rfl) (aI rfl (by cases hv35; rfl))
    ·refine bindO_e hv35 (fun b32 hc33 hv35 => (W_draw [] false (by kernel_rfl) (by kernel_rfl) (WD_takeQ [0, 1, 2] [0, 7, 9, 23] [0, 7, 9, 23] (φ := True) (ls' := (tf true [3, 17])) (st' := ⟨[(0, pA 0 0), (7, I i25), (9, I i28), (23, B (!b26))], [.cells [.sl 1 0 k2, .sl 2 0 k4], nR x1, lR x3]⟩) (n2 := 17) (by kernel_rfl) trivial rfl (WD_known 23 false rfl rfl hb30 (WD_takeQ [3, 4, 5, 6] [0, 7, 9, 27] [0, 7, 9, 27] (φ := (True ∧ True ∧ True)) (ls' := (tf true [7, 13])) (st' := ⟨[(0, pA 0 0), (7, I i25), (9, I i28), (27, B (decide (i28 < 0)))], [.cells [.sl 1 0 k2, .sl 2 0 k4], nR x1, lR x3]⟩) (n2 := 13) (by kernel_rfl) t3 rfl (WD_known 27 false rfl rfl hb31 (WD_takeQ [7, 8, 9, 11, 12, 13, 15, 16] [0, 9, 27, 30, 34, 36, 37] [0, 9, 27, 30, 34, 36, 37] (φ := True) (ls' := (tf true [10, 1, 3, 1, 2, 3])) (st' := ⟨[(0, pA 0 0), (9, I i28), (27, B false), (30, pA 0 0), (34, pA 0 1), (36, I i25), (37, I i28)], [.cells [.sl 1 0 k2, .sl 2 0 k4], nR x1, lR x3]⟩) (n2 := 5) (by kernel_rfl) trivial rfl (WD_all [10, 14] (n := 4) (by kernel_rfl) rfl (aI ?_ (?_))))))))))
     ·refine WM_op (φ := True) (v := SL 1 0 k2) (H' := [.cells [.sl 1 0 k2, .sl 2 0 k4], nR x1, lR x3]) rfl rfl (by kernel_rfl) trivial rfl (aI (aI rfl rfl) (aI rfl (aI rfl (trivial)))) (WD_all [14] (n := 3) (by kernel_rfl) rfl (WM_op (φ := True) (v := SL 2 0 k4) (H' := [.cells [.sl 1 0 k2, .sl 2 0 k4], nR x1, lR x3]) rfl rfl (by kernel_rfl) trivial rfl (aI (aI rfl rfl) (aI rfl (aI rfl (trivial)))) (WD_all [17] (n := 2) (by kernel_rfl) rfl (WM_call [.view 0, .view 1] Tryz.f81 rfl rfl (by kernel_rfl) Tryz.func81 rfl (by kernel_rfl) (impl_MayRead_ok n ((x1.drop 0).take k2) ((x3.drop 0).take k4) i25 i28 b32 hc33) (trivial) rfl (aI (aI rfl rfl) (aI rfl (aI rfl (trivial)))) (WD_takeQ [18, 19] [0, 9, 40] [0, 9, 40] (φ := True) (ls' := (tf true [20])) (st' := ⟨[(0, pA 0 0), (9, I i28), (40, B (!b32))], [.cells [.sl 1 0 k2, .sl 2 0 k4], nR x1, lR x3]⟩) (n2 := 0) (by kernel_rfl) trivial rfl ?_)))))
      exact WD_done [0, 1, 2] [0, 9, 40] (st' := ⟨[(0, pA 0 0), (9, I i28), (40, B (!b32))], [.cells [.sl 1 0 k2, .sl 2 0 k4], nR x1, lR x3]⟩) (by kernel_rfl) (by kernel_rfl) (aI rfl (by cases hv35; rfl))
     ·refine WM_op (φ := True) (v := SL 2 0 k4) (H' := [.cells [.sl 1 0 k2, .sl 2 0 k4], nR x1, lR x3]) rfl rfl (by kernel_rfl) trivial rfl (aI (aI rfl rfl) (aI rfl (aI rfl (trivial)))) (WD_all [10] (n := 3) (by kernel_rfl) rfl (WM_op (φ := True) (v := SL 1 0 k2) (H' := [.cells [.sl 1 0 k2, .sl 2 0 k4], nR x1, lR x3]) rfl rfl (by kernel_rfl) trivial rfl (aI (aI rfl rfl) (aI rfl (aI rfl (trivial)))) (WD_all [17] (n := 2) (by kernel_rfl) rfl (WM_call [.view 0, .view 1] Tryz.f81 rfl rfl (by kernel_rfl) Tryz.func81 rfl (by kernel_rfl) (impl_MayRead_ok n ((x1.drop 0).take k2) ((x3.drop 0).take k4) i25 i28 b32 hc33) (trivial) rfl (aI (aI rfl rfl) (aI rfl (aI rfl (trivial)))) (WD_takeQ [18, 19] [0, 9, 40] [0, 9, 40] (φ := True) (ls' := (tf true [20])) (st' := ⟨[(0, pA 0 0), (9, I i28), (40, B (!b32))], [.cells [.sl 1 0 k2, .sl 2 0 k4], nR x1, lR x3]⟩) (n2 := 0) (by kernel_rfl) trivial rfl ?_)))))
      exact WD_done [0, 1, 2] [0, 9, 40] (st' := ⟨[(0, pA 0 0), (9, I i28), (40, B (!b32))], [.cells [.sl 1 0 k2, .sl 2 0 k4], nR x1, lR x3]⟩) (by kernel_rfl) (by kernel_rfl) (aI rfl (by cases hv35; rfl))
  ·rintro _ _ ⟨rfl, rfl⟩
   refine thenS_n (iteO_e h (fun hb37 h => W_true rfl hb37 ?_) (fun hb37 h => W_false rfl hb37 ?_))
   ·refine Wsr ((Ws 1 [0, 1, 2] [6] ⟨[(6, S [110, 111])], [.cells [.sl 1 0 k2, .sl 2 0 k4], nR x1, lR x3]⟩ (Wnt ((W_ret (thenS_r ?_))))))
    cases h
    exact ⟨[0, 1, 2], True, by kernel_rfl, trivial⟩
   ·refine Ww [0, 1, 2] [0, 9] ⟨[(0, pA 0 0), (9, I i28)], [.cells [.sl 1 0 k2, .sl 2 0 k4], nR x1, lR x3]⟩ (W_skip (thenS_n (Wsr ((guardO_e h (fun hg38 h => (Wp 8 [0, 1, 2] [48] (True ∧ ((0 ≤ i28 ∧ i28 < ((k2 : Nat) : Int)) ∧ T2)) ⟨[(48, I ((x1.getD i28.toNat dnod).value))], [.cells [.sl 1 0 k2, .sl 2 0 k4], nR x1, lR x3]⟩ ⟨trivial, hg38, trivial, trivial⟩ (bindO_e h (fun s39 hc40 h => (Wc [] rfl rfl rfl Tryz.func48 rfl (strconv_Itoa_ok ((x1.getD i28.toNat dnod).value) s39 hc40) (trivial) rfl (Ws 1 [0, 1, 2] [6] ⟨[(6, S s39)], [.cells [.sl 1 0 k2, .sl 2 0 k4], nR x1, lR x3]⟩ (Wnt ((W_ret ?_))))))))))))))
    cases h
    exact ⟨[0, 1, 2], True, by kernel_rfl, trivial⟩

/- bytealg.LastIndexByteString -/
def bytealg_LastIndexByteString_L1 (s1 : Str) (i2 : Int) : Nat → Int → Option ((Int) ⊕ (Unit))
| 0, _ => none
| n + 1, i48 =>
 iteO (decide (0 ≤ i48))
 (guardO (0 ≤ i48 ∧ i48 < ((s1.length : Nat) : Int)) <|
 iteO (decide (((s1.getD i48.toNat 0).toNat : Int) = i2))
 (some (.inl i48))
 (bytealg_LastIndexByteString_L1 s1 i2 n (w64 (i48 - 1))))
 (some (.inr ()))

theorem bytealg_LastIndexByteString_L1_ok (w : World) (X : Nat → Prop) (θ : List Loc) (s1 : Str) (i2 : Int) (v : (Int) ⊕ (Unit)) : ∀ (n : Nat) (i48 : Int), bytealg_LastIndexByteString_L1 s1 i2 n i48 = some v → WL EE ⟨w, X, θ, 19, 0⟩ (subC [1, 0, 1, 4, 4] (bodyC Tryz.f106)) (fun (e : Exit) (s : St) => (match v with | (.inl i58) => e = .ret ∧ s = ⟨[(4, I i58)], []⟩ | (.inr _) => e = .exit 0 ∧ s = ⟨[], []⟩ : Prop)) ⟨[(0, S s1), (1, U i2), (5, I i48)], []⟩ := by
  intro n
  induction n with
  | zero => intro _ h; exact none_e h
  | succ n ih =>
    intro i48 h
    rw [bytealg_LastIndexByteString_L1] at h
    refine WL_round ?_
    refine W_seq (Wsr ((Wp 2 [] [0, 1, 5, 10] T2 ⟨[(0, S s1), (1, U i2), (5, I i48), (10, B (decide (0 ≤ i48)))], []⟩ t2 (Wnt ((iteO_e h (fun hb61 h => W_true rfl hb61 ?_) (fun hb61 h => W_false rfl hb61 ?_)))))))
    ·refine Ww [] [0, 1, 5] ⟨[(0, S s1), (1, U i2), (5, I i48)], []⟩ (W_skip (thenS_n (W_seq (W_block (Wsr ((guardO_e h (fun hg65 h => (Wp 5 [] [0, 1, 5, 17] ((0 ≤ i48 ∧ i48 < (lI s1)) ∧ T2) ⟨[(0, S s1), (1, U i2), (5, I i48), (17, B (decide (((s1.getD i48.toNat 0).toNat : Int) = i2)))], []⟩ ⟨hg65, trivial, trivial⟩ (Wnt ((iteO_e h (fun hb67 h => W_true rfl hb67 ?_) (fun hb67 h => W_false rfl hb67 ?_)))))))))))))
     ·refine Wsr ((Ws 2 [] [4] ⟨[(4, I i48)], []⟩ (Wnt ((W_ret (blockS_r (thenS_r (thenS_r ?_))))))))
      cases h
      exact aI rfl rfl
     ·refine Ww [] [0, 1, 5] ⟨[(0, S s1), (1, U i2), (5, I i48)], []⟩ (W_skip (blockS_n (thenS_n (W_region (Wp 3 [] [0, 1, 5] T2 ⟨[(0, S s1), (1, U i2), (5, I (w64 (i48 - 1)))], []⟩ t2 (Wnt (?_)))))))
      exact ih _ h
    ·refine Ww [] [] ⟨[], []⟩ (W_exit (thenS_e (thenS_e ?_)))
     cases h
     exact aI rfl rfl

def bytealg_LastIndexByteString (n : Nat) (s1 : Str) (i2 : Int) : Option (Int) :=
 bindO (bytealg_LastIndexByteString_L1 s1 i2 n (w64 (((s1.length : Nat) : Int) - 1))) fun v68 =>
 match v68 with
 | (.inl i58) => (some i58)
 | (.inr _) => (some (-1))


theorem bytealg_LastIndexByteString_ok (n : Nat) (s1 : Str) (i2 : Int) (i35 : Int) (h : bytealg_LastIndexByteString n s1 i2 = some i35) : FOk EE 106 [S s1, U i2] [] (I i35) [] := by
  unfold bytealg_LastIndexByteString at h
  refine FOk_of_W 19 0 Tryz.func106 rfl rfl (Nat.le_of_ble_eq_true rfl) rfl (fun w X θ => ?_)
  refine Wsr ((Ws 1 [] [0, 1] ⟨[(0, S s1), (1, U i2)], []⟩ (Wnt ((W_seq (W_seq ?_))))))
  refine W_region (Wp 4 [] [0, 1, 5] T3 ⟨[(0, S s1), (1, U i2), (5, I (w64 ((lI s1) - 1)))], []⟩ t3 (Wnt ((W_block (W_loop (bindO_e h (fun v68 hv68 h => ?_)))))))
  refine WL_cut (bytealg_LastIndexByteString_L1_ok w X θ s1 i2 v68 n (w64 ((lI s1) - 1)) hv68) ?_
  rcases v68 with i58 | _
  ·rintro _ _ ⟨rfl, rfl⟩
   refine blockS_r (thenS_r ?_)
   cases h
   exact ⟨[], True, by kernel_rfl, trivial⟩
  ·rintro _ _ ⟨rfl, rfl⟩
   refine blockS_y (thenS_n (Wsr ((Ws 1 [] [4] ⟨[(4, I (-1))], []⟩ (Wnt ((W_ret ?_)))))))
   cases h
   exact ⟨[], True, by kernel_rfl, trivial⟩

/- strings.LastIndexByte -/
def strings_LastIndexByte (n : Nat) (s1 : Str) (i2 : Int) : Option (Int) :=
 bindO (bytealg_LastIndexByteString n s1 i2) fun i6 =>
 some i6

theorem strings_LastIndexByte_ok (n : Nat) (s1 : Str) (i2 : Int) (i5 : Int) (h : strings_LastIndexByte n s1 i2 = some i5) : FOk EE 70 [S s1, U i2] [] (I i5) [] := by
  unfold strings_LastIndexByte at h
  refine FOk_of_W 8 0 Tryz.func70 rfl rfl (Nat.le_of_ble_eq_true rfl) rfl (fun w X θ => ?_)
  refine Wsr ((Ws 1 [] [0, 1] ⟨[(0, S s1), (1, U i2)], []⟩ (Wnt ((W_seq (W_region ?_))))))
  refine Ws 2 [] [5, 6] ⟨[(5, S s1), (6, U i2)], []⟩ (bindO_e h (fun i6 hc7 h => (Wc [] rfl rfl rfl Tryz.func106 rfl (bytealg_LastIndexByteString_ok n s1 i2 i6 hc7) (trivial) rfl (Ws 1 [] [4] ⟨[(4, I i6)], []⟩ (Wnt ((W_ret ?_)))))))
  cases h
  exact ⟨[], True, by kernel_rfl, trivial⟩

/- impl.upperNode -/
def impl_upperNode (n : Nat) (x1 : List Nod) (s2 : Str) : Option (Int) :=
 bindO (strings_LastIndexByte n s2 47) fun i13 =>
 iteO (decide (i13 < 0))
 (some (-1))
 (iteO (decide (i13 = 0))
 (some 0)
 (guardO (0 ≤ i13 ∧ i13 ≤ ((s2.length : Nat) : Int)) <|
 bindO (impl_ResolvePath n x1 (s2.take i13.toNat)) fun i20 =>
 some i20))

theorem impl_upperNode_ok (n : Nat) (x1 : List Nod) (s2 : Str) (i12 : Int) (h : impl_upperNode n x1 s2 = some i12) : FOk EE 69 [sF 0 x1, S s2] [nR x1] (I i12) [nR x1] := by
  unfold impl_upperNode at h
  refine FOk_of_W 17 1 Tryz.func69 rfl rfl (Nat.le_of_ble_eq_true rfl) rfl (fun w X θ => ?_)
  refine Wsr ((Ws 1 [0] [0, 1] ⟨[(0, sF 0 x1), (1, S s2)], [nR x1]⟩ (Wnt ((W_seq (W_region ?_))))))
  refine Ws 1 [0] [0, 1, 6] ⟨[(0, sF 0 x1), (1, S s2), (6, S s2)], [nR x1]⟩ (bindO_e h (fun i13 hc14 h => (Wc [] rfl rfl rfl Tryz.func70 rfl (strings_LastIndexByte_ok n s2 47 i13 hc14) (trivial) rfl (Ws 1 [0] [0, 1, 5] ⟨[(0, sF 0 x1), (1, S s2), (5, I i13)], [nR x1]⟩ (Wnt ((W_seq ?_)))))))
  refine Wsr ((Wp 2 [0] [0, 1, 5, 9] T2 ⟨[(0, sF 0 x1), (1, S s2), (5, I i13), (9, B (decide (i13 < 0)))], [nR x1]⟩ t2 (Wnt ((iteO_e h (fun hb16 h => W_true rfl hb16 ?_) (fun hb16 h => W_false rfl hb16 ?_))))))
  ·refine Wsr ((Ws 1 [0] [4] ⟨[(4, I (-1))], [nR x1]⟩ (Wnt ((W_ret (thenS_r ?_))))))
   cases h
   exact ⟨[0], True, by kernel_rfl, trivial⟩
  ·refine Ww [0] [0, 1, 5] ⟨[(0, sF 0 x1), (1, S s2), (5, I i13)], [nR x1]⟩ (W_skip (thenS_n (W_seq (Wsr ((Wp 2 [0] [0, 1, 5, 11] T2 ⟨[(0, sF 0 x1), (1, S s2), (5, I i13), (11, B (decide (i13 = 0)))], [nR x1]⟩ t2 (Wnt ((iteO_e h (fun hb18 h => W_true rfl hb18 ?_) (fun hb18 h => W_false rfl hb18 ?_))))))))))
   ·refine Wsr ((Ws 1 [0] [4] ⟨[(4, I 0)], [nR x1]⟩ (Wnt ((W_ret (thenS_r ?_))))))
    cases h
    exact ⟨[0], True, by kernel_rfl, trivial⟩
   ·refine Ww [0] [0, 1, 5] ⟨[(0, sF 0 x1), (1, S s2), (5, I i13)], [nR x1]⟩ (W_skip (thenS_n (Wsr ((guardO_e h (fun hg19 h => (Wp 4 [0] [12, 15] ((0 ≤ i13 ∧ i13 ≤ (lI s2)) ∧ True) ⟨[(12, sF 0 x1), (15, S (s2.take i13.toNat))], [nR x1]⟩ ⟨hg19, trivial⟩ (bindO_e h (fun i20 hc21 h => (Wc [.ro 0] rfl rfl rfl Tryz.func78 rfl (impl_ResolvePath_ok n x1 (s2.take i13.toNat) i20 hc21) (aI (aI rfl rfl) (trivial)) rfl (Ws 1 [0] [4] ⟨[(4, I i20)], [nR x1]⟩ (Wnt ((W_ret ?_))))))))))))))
    cases h
    exact ⟨[0], True, by kernel_rfl, trivial⟩

/- impl.MayWrite -/
def impl_MayWrite (n : Nat) (x1 : List Nod) (x2 : List Lck) (i3 : Int) (i4 : Int) : Option (Bool) :=
 bindO (impl_hasOnPath n x1 x2 i3 i4 5) fun b8 =>
 some b8

theorem impl_MayWrite_ok (n : Nat) (x1 : List Nod) (x2 : List Lck) (i3 : Int) (i4 : Int) (b7 : Bool) (h : impl_MayWrite n x1 x2 i3 i4 = some b7) : FOk EE 83 [sF 0 x1, sF 1 x2, I i3, I i4] [nR x1, lR x2] (B b7) [nR x1, lR x2] := by
  unfold impl_MayWrite at h
  refine FOk_of_W 14 2 Tryz.func83 rfl rfl (Nat.le_of_ble_eq_true rfl) rfl (fun w X θ => ?_)
  refine Wsr ((Ws 1 [0, 1] [0, 1, 2, 3] ⟨[(0, sF 0 x1), (1, sF 1 x2), (2, I i3), (3, I i4)], [nR x1, lR x2]⟩ (Wnt ((W_seq (W_region ?_))))))
  refine Ws 4 [0, 1] [9, 10, 11, 12] ⟨[(9, sF 0 x1), (10, sF 1 x2), (11, I i3), (12, I i4)], [nR x1, lR x2]⟩ (bindO_e h (fun b8 hc9 h => (Wc [.ro 0, .ro 1] rfl rfl rfl Tryz.func119 rfl (impl_hasOnPath_ok n x1 x2 i3 i4 5 b8 hc9) (aI (aI rfl rfl) (aI (aI rfl rfl) (trivial))) rfl (Ws 1 [0, 1] [8] ⟨[(8, B b8)], [nR x1, lR x2]⟩ (Wnt ((W_ret ?_)))))))
  cases h
  exact ⟨[0, 1], True, by kernel_rfl, trivial⟩

/- impl.Node] -/
def slices_Clone_Node (x1 : List Nod) : Option (List Nod) :=
 guardO (x1.length ≤ 1099511627776) <|
 some x1

theorem slices_Clone_Node_ok (x1 x2 : List Nod) (h : slices_Clone_Node x1 = some x2) : FOk EE 105 [sF 0 x1] [nR x1] (sF 1 x2) [nR x1, nO x2] := by
  unfold slices_Clone_Node at h
  refine guardO_e h (fun hg h => ?_)
  cases h
  refine FOk_of_W 8 1 Tryz.func105 rfl rfl (Nat.le_of_ble_eq_true rfl) rfl (fun w X θ => ?_)
  refine W_seq ?_
  refine W_region ?_
  refine Ws 1 [0] [0] ⟨[(0, sF 0 x1)], [nR x1]⟩ ?_
  refine WO_nil rfl ?_
  refine thenS_n ?_
  refine W_seq ?_
  refine W_seq ?_
  refine W_region ?_
  refine Ws 1 [0] [0, 3] ⟨[(0, sF 0 x1), (3, sF 0 x1)], [nR x1]⟩ ?_
  refine WO_isnil (R := .nod) (xs := x1) (own := false) rfl rfl rfl rfl Tryz.underlying28 rfl rfl rfl (fun b hb => ?_)
  refine WO_nil rfl ?_
  refine thenS_n ?_
  cases b with
  | true =>
    have e : x1 = [] := List.eq_nil_of_length_eq_zero (hb rfl)
    subst e
    refine W_true rfl rfl ?_
    refine W_seq ?_
    refine W_region ?_
    refine Ws 1 [0] [2] ⟨[(2, .one (.e .nsl))], [.row .nod [] false]⟩ ?_
    refine WO_nil rfl ?_
    refine thenS_n ?_
    refine W_nil 2 .nod rfl ?_
    refine W_ret ?_
    refine thenS_r ?_
    exact ⟨[0, 1], True, by kernel_rfl, trivial⟩
  | false =>
    refine W_false rfl rfl ?_
    refine Ww [0] [0] ⟨[(0, sF 0 x1)], [nR x1]⟩ ?_
    refine W_skip ?_
    refine thenS_n ?_
    refine W_seq ?_
    refine W_region ?_
    refine Wp 4 [0, 2] [2] ((0 = 0 ∧ 0 = ([] : List Nod).length ∧ ([] : List Nod).length + ((x1.drop 0).take x1.length).length ≤ 1099511627776) ∧ True) ⟨[(2, .one (.e (.sl 1 0 (([] : List Nod) ++ ((x1.drop 0).take x1.length)).length)))], [nR x1, .row .nod (([] : List Nod) ++ ((x1.drop 0).take x1.length)) true]⟩ ⟨⟨rfl, rfl, by simpa using hg⟩, trivial⟩ ?_
    refine WO_eq (st' := ⟨[(2, sF 1 x1)], [nR x1, nO x1]⟩) (by simp only [List.drop_zero, List.take_length, List.nil_append]) ?_
    refine WO_nil rfl ?_
    refine thenS_n ?_
    refine W_ret ?_
    exact ⟨[0, 1], True, by kernel_rfl, trivial⟩

/- impl.reaches -/
def impl_reaches_L1 (x1 : List Nod) (i2 : Int) : Nat → Int → Option (Int)
| 0, _ => none
| n + 1, i33 =>
 iteO (decide (i2 < i33))
 (guardO (0 ≤ i33 ∧ i33 < ((x1.length : Nat) : Int)) <|
 impl_reaches_L1 x1 i2 n ((x1.getD i33.toNat dnod).parent))
 (some i33)

theorem impl_reaches_L1_ok (w : World) (X : Nat → Prop) (θ : List Loc) (x1 : List Nod) (i2 : Int) (i39 : Int) : ∀ (n : Nat) (i33 : Int), impl_reaches_L1 x1 i2 n i33 = some i39 → WL EE ⟨w, X, θ, 18, 1⟩ (subC [1, 0, 4, 4] (bodyC Tryz.f169)) (fun (e : Exit) (s : St) => e = .exit 0 ∧ s = ⟨[(1, I i2), (2, I i39)], [nR x1]⟩) ⟨[(0, sF 0 x1), (1, I i2), (2, I i33)], [nR x1]⟩ := by
  intro n
  induction n with
  | zero => intro _ h; exact none_e h
  | succ n ih =>
    intro i33 h
    rw [impl_reaches_L1] at h
    refine WL_round ?_
    refine W_seq (Wsr ((Wp 3 [0] [0, 1, 2, 9] T2 ⟨[(0, sF 0 x1), (1, I i2), (2, I i33), (9, B (decide (i2 < i33)))], [nR x1]⟩ t2 (Wnt ((iteO_e h (fun hb42 h => W_true rfl hb42 ?_) (fun hb42 h => W_false rfl hb42 ?_)))))))
    ·refine Ww [0] [0, 1, 2] ⟨[(0, sF 0 x1), (1, I i2), (2, I i33)], [nR x1]⟩ (W_skip (thenS_n (W_block (W_region (guardO_e h (fun hg44 h => (Wp 6 [0] [0, 1, 2] ((0 ≤ i33 ∧ i33 < (lI x1)) ∧ T2) ⟨[(0, sF 0 x1), (1, I i2), (2, I ((x1.getD i33.toNat dnod).parent))], [nR x1]⟩ ⟨hg44, trivial, trivial⟩ (WO_nil rfl (blockS_n (thenS_n ?_))))))))))
     exact ih _ h
    ·refine Ww [0] [1, 2] ⟨[(1, I i2), (2, I i33)], [nR x1]⟩ (W_exit (thenS_e (thenS_e ?_)))
     cases h
     exact aI rfl rfl

def impl_reaches (n : Nat) (x1 : List Nod) (i2 : Int) (i3 : Int) : Option (Bool) :=
 bindO (impl_reaches_L1 x1 i2 n i3) fun i39 =>
 some (decide (i39 = i2))

theorem impl_reaches_ok (n : Nat) (x1 : List Nod) (i2 : Int) (i3 : Int) (b24 : Bool) (h : impl_reaches n x1 i2 i3 = some b24) : FOk EE 169 [sF 0 x1, I i2, I i3] [nR x1] (B b24) [nR x1] := by
  unfold impl_reaches at h
  refine FOk_of_W 18 1 Tryz.func169 rfl rfl (Nat.le_of_ble_eq_true rfl) rfl (fun w X θ => ?_)
  refine Wsr ((Ws 1 [0] [0, 1, 2] ⟨[(0, sF 0 x1), (1, I i2), (2, I i3)], [nR x1]⟩ (Wnt ((W_seq (W_block ?_))))))
  refine W_loop (bindO_e h (fun i39 hi39 h => (WL_cut (impl_reaches_L1_ok w X θ x1 i2 i39 n i3 hi39) ?_)))
  rintro _ _ ⟨rfl, rfl⟩
  refine blockS_y (thenS_n (Wsr ((Wp 4 [0] [6] T2 ⟨[(6, B (decide (i39 = i2)))], [nR x1]⟩ t2 (Wnt (?_))))))
  refine W_ret ?_
  cases h
  exact ⟨[0], True, by kernel_rfl, trivial⟩

end Go.Proofs.YtghdgncfcfdlfaaGreatDoor

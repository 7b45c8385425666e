import Derived.Test.YtghdgncfcfdlfaaGreatDoorTT2
namespace Go.Proofs.YtghdgncfcfdlfaaGreatDoor
open Go Go.Shelf Go.Proofs
set_option linter.unusedVariables false
/- spec.desk).set -/
def spec_desk_set (n : Nat) (x1 : List Nod) (k2 : Nat) (x3 : List Lck) (k4 : Nat) (s5 : Str) (s6 : Str) (s7 : Str) : Option (Nat × (List Nod) × Str) :=
 bindO (spec_parseInt n s5) fun (i50, b51) =>
 bindO (spec_parseInt n s7) fun (i53, b54) =>
 bindO (spec_resolve n ((x1.drop 0).take k2) s6) fun i56 =>
 iteO ((!b51) || ((!b54) || (!(spec_inRange i50 0 3))))
 (some (k2, x1, [110, 111]))
 (bindO (spec_cut n s6) fun (s65, s66) =>
 bindO (iteO (decide (i56 < 0))
 (bindO (spec_resolve n ((x1.drop 0).take k2) s65) fun i74 =>
 some i74)
 (some i56)) fun i71 =>
 bindO (iteO (decide (i71 < 0))
 (some true)
 (bindO (spec_mayWrite n ((x1.drop 0).take k2) ((x3.drop 0).take k4) i50 i71) fun b77 =>
 some (!b77))) fun b79 =>
 iteO b79
 (some (k2, x1, [110, 111]))
 (bindO (spec_ApplyEdits n ((x1.drop 0).take k2) [(⟨0, s6, i53⟩ : Edt)]) fun (x83, b84) =>
 iteO (!b84)
 (some (k2, x1, [110, 111]))
 (some (x83.length, x83, [111, 107]))))

theorem spec_desk_set_ok (n : Nat) (x1 : List Nod) (k2 : Nat) (x3 : List Lck) (k4 : Nat) (s5 : Str) (s6 : Str) (s7 : Str) (k47 : Nat) (x48 : List Nod) (s49 : Str) (h : spec_desk_set n x1 k2 x3 k4 s5 s6 s7 = some (k47, x48, s49)) : FOk EE 59 [pA 0 0, S s5, S s6, S s7] [.cells [.sl 1 0 k2, .sl 2 0 k4], nO x1, lR x3] (S s49) [.cells [.sl 3 0 k47, .sl 2 0 k4], .dead, lR x3, nO x48] := by
  unfold spec_desk_set at h
  refine FOk_of_W 94 3 Tryz.func59 rfl rfl (Nat.le_of_ble_eq_true rfl) rfl (fun w X θ => ?_)
  refine Wsr ((Ws 1 [0, 1, 2] [0, 1, 2, 3] ⟨[(0, pA 0 0), (1, S s5), (2, S s6), (3, S s7)], [.cells [.sl 1 0 k2, .sl 2 0 k4], nO x1, lR x3]⟩ (Wnt ((W_seq (W_region ?_))))))
  refine Ws 1 [0, 1, 2] [0, 2, 3, 20] ⟨[(0, pA 0 0), (2, S s6), (3, S s7), (20, S s5)], [.cells [.sl 1 0 k2, .sl 2 0 k4], nO x1, lR x3]⟩ (bindO_e h (fun v91 hc52 h => ?_))
  obtain ⟨i50, b51⟩ := v91
  refine Wc [] rfl rfl rfl Tryz.func42 rfl (spec_parseInt_ok n s5 i50 b51 hc52) (trivial) rfl (Ws 5 [0, 1, 2] [0, 2, 3, 9, 10] ⟨[(0, pA 0 0), (2, S s6), (3, S s7), (9, I i50), (10, B b51)], [.cells [.sl 1 0 k2, .sl 2 0 k4], nO x1, lR x3]⟩ (Wnt ((Wsr ((Ws 1 [0, 1, 2] [0, 2, 9, 10, 25] ⟨[(0, pA 0 0), (2, S s6), (9, I i50), (10, B b51), (25, S s7)], [.cells [.sl 1 0 k2, .sl 2 0 k4], nO x1, lR x3]⟩ ?_))))))
  refine bindO_e h (fun v90 hc55 h => ?_)
  obtain ⟨i53, b54⟩ := v90
  refine Wc [] rfl rfl rfl Tryz.func42 rfl (spec_parseInt_ok n s7 i53 b54 hc55) (trivial) rfl (Ws 5 [0, 1, 2] [0, 2, 9, 10, 11, 12] ⟨[(0, pA 0 0), (2, S s6), (9, I i50), (10, B b51), (11, I i53), (12, B b54)], [.cells [.sl 1 0 k2, .sl 2 0 k4], nO x1, lR x3]⟩ (Wnt ((Wsr ((Wp 5 [0, 1, 2] [0, 2, 9, 10, 11, 12, 32, 33] T2 ⟨[(0, pA 0 0), (2, S s6), (9, I i50), (10, B b51), (11, I i53), (12, B b54), (32, SL 1 0 k2), (33, S s6)], [.cells [.sl 1 0 k2, .sl 2 0 k4], nO x1, lR x3]⟩ t2 ?_))))))
  refine bindO_e h (fun i56 hc57 h => (Wc [.view 0] rfl rfl rfl Tryz.func44 rfl (spec_resolve_ok n ((x1.drop 0).take k2) s6 i56 hc57) (trivial) rfl (Ws 1 [0, 1, 2] [0, 2, 9, 10, 11, 12, 13] ⟨[(0, pA 0 0), (2, S s6), (9, I i50), (10, B b51), (11, I i53), (12, B b54), (13, I i56)], [.cells [.sl 1 0 k2, .sl 2 0 k4], nO x1, lR x3]⟩ (Wnt ((W_seq (W_seq ?_)))))))
  refine W_region (Ws 3 [0, 1, 2] [0, 2, 9, 11, 12, 13, 37] ⟨[(0, pA 0 0), (2, S s6), (9, I i50), (11, I i53), (12, B b54), (13, I i56), (37, B (!b51))], [.cells [.sl 1 0 k2, .sl 2 0 k4], nO x1, lR x3]⟩ (WO_thru ⟨[(0, pA 0 0), (2, S s6), (9, I i50), (11, I i53), (13, I i56), (45, B ((!b51) || ((!b54) || (!(spec_inRange i50 0 3)))))], [.cells [.sl 1 0 k2, .sl 2 0 k4], nO x1, lR x3]⟩ ?_ ?_))
  ·refine WO_if 37 rfl (fun hb61 => ?_) (fun hb61 => ?_)
   ·refine Ws 8 [0, 1, 2] [0, 2, 9, 11, 13, 45] ⟨[(0, pA 0 0), (2, S s6), (9, I i50), (11, I i53), (13, I i56), (45, B true)], [.cells [.sl 1 0 k2, .sl 2 0 k4], nO x1, lR x3]⟩ ?_
    exact WO_nil rfl ⟨rfl, by first | rfl | (rw [hb61]; first | done | rfl)⟩
   ·refine Ws 4 [0, 1, 2] [0, 2, 9, 11, 13, 41] ⟨[(0, pA 0 0), (2, S s6), (9, I i50), (11, I i53), (13, I i56), (41, B (!b54))], [.cells [.sl 1 0 k2, .sl 2 0 k4], nO x1, lR x3]⟩ (WO_if 41 rfl (fun hb62 => ?_) (fun hb62 => ?_))
    ·refine Ws 4 [0, 1, 2] [0, 2, 9, 11, 13, 45] ⟨[(0, pA 0 0), (2, S s6), (9, I i50), (11, I i53), (13, I i56), (45, B true)], [.cells [.sl 1 0 k2, .sl 2 0 k4], nO x1, lR x3]⟩ ?_
     exact WO_nil rfl ⟨rfl, by first | rfl | (simp only [hb61, hb62]; first | done | rfl)⟩
    ·refine Ws 1 [0, 1, 2] [0, 2, 9, 11, 13, 41, 42] ⟨[(0, pA 0 0), (2, S s6), (9, I i50), (11, I i53), (13, I i56), (41, B false), (42, I i50)], [.cells [.sl 1 0 k2, .sl 2 0 k4], nO x1, lR x3]⟩ (Wc [] rfl rfl rfl Tryz.func71 rfl (spec_inRange_ok i50 0 3) (trivial) rfl (Ws 2 [0, 1, 2] [0, 2, 9, 11, 13, 45] ⟨[(0, pA 0 0), (2, S s6), (9, I i50), (11, I i53), (13, I i56), (45, B (!(spec_inRange i50 0 3)))], [.cells [.sl 1 0 k2, .sl 2 0 k4], nO x1, lR x3]⟩ ?_))
     exact WO_nil rfl ⟨rfl, by first | rfl | (simp only [hb61, hb62]; first | done | rfl)⟩
  ·refine thenS_n (iteO_e h (fun hb64 h => W_true rfl hb64 ?_) (fun hb64 h => W_false rfl hb64 ?_))
   ·refine Wsr ((Ws 1 [0, 1, 2] [8] ⟨[(8, S [110, 111])], [.cells [.sl 1 0 k2, .sl 2 0 k4], nO x1, lR x3]⟩ (Wnt ((W_ret (thenS_r ?_))))))
    cases h
    exact ⟨[0, 999, 2, 1], True, by kernel_rfl, trivial⟩
   ·refine Ww [0, 1, 2] [0, 2, 9, 11, 13] ⟨[(0, pA 0 0), (2, S s6), (9, I i50), (11, I i53), (13, I i56)], [.cells [.sl 1 0 k2, .sl 2 0 k4], nO x1, lR x3]⟩ (W_skip (thenS_n (Wsr ((Ws 1 [0, 1, 2] [0, 2, 9, 11, 13, 47] ⟨[(0, pA 0 0), (2, S s6), (9, I i50), (11, I i53), (13, I i56), (47, S s6)], [.cells [.sl 1 0 k2, .sl 2 0 k4], nO x1, lR x3]⟩ (bindO_e h (fun v89 hc67 h => ?_)))))))
    obtain ⟨s65, s66⟩ := v89
    refine Wc [] rfl rfl rfl Tryz.func43 rfl (spec_cut_ok n s6 s65 s66 hc67) (trivial) rfl (Ws 5 [0, 1, 2] [0, 2, 9, 11, 13, 14] ⟨[(0, pA 0 0), (2, S s6), (9, I i50), (11, I i53), (13, I i56), (14, S s65)], [.cells [.sl 1 0 k2, .sl 2 0 k4], nO x1, lR x3]⟩ (Wnt ((Wsr ((Ws 2 [0, 1, 2] [0, 2, 9, 11, 13, 14, 16] ⟨[(0, pA 0 0), (2, S s6), (9, I i50), (11, I i53), (13, I i56), (14, S s65), (16, I i56)], [.cells [.sl 1 0 k2, .sl 2 0 k4], nO x1, lR x3]⟩ (Wnt ((W_seq (Wsr ((Wp 2 [0, 1, 2] [0, 2, 9, 11, 14, 16, 53] T2 ⟨[(0, pA 0 0), (2, S s6), (9, I i50), (11, I i53), (14, S s65), (16, I i56), (53, B (decide (i56 < 0)))], [.cells [.sl 1 0 k2, .sl 2 0 k4], nO x1, lR x3]⟩ t2 (Wnt ((bindO_e h (fun i71 hi71 h => (W_cut (Q' := fun (e : Exit) (s : St) => e = .normal ∧ s = ⟨[(0, pA 0 0), (2, S s6), (9, I i50), (11, I i53), (16, I i71)], [.cells [.sl 1 0 k2, .sl 2 0 k4], nO x1, lR x3]⟩) ?_ ?_)))))))))))))))))
    ·refine iteO_e hi71 (fun hb73 hi71 => W_true rfl hb73 ?_) (fun hb73 hi71 => W_false rfl hb73 ?_)
     ·refine W_region (Wp 5 [0, 1, 2] [0, 2, 9, 11, 57, 58] T2 ⟨[(0, pA 0 0), (2, S s6), (9, I i50), (11, I i53), (57, SL 1 0 k2), (58, S s65)], [.cells [.sl 1 0 k2, .sl 2 0 k4], nO x1, lR x3]⟩ t2 (bindO_e hi71 (fun i74 hc75 hi71 => (Wc [.view 0] rfl rfl rfl Tryz.func44 rfl (spec_resolve_ok n ((x1.drop 0).take k2) s65 i74 hc75) (trivial) rfl (Ws 1 [0, 1, 2] [0, 2, 9, 11, 16] ⟨[(0, pA 0 0), (2, S s6), (9, I i50), (11, I i53), (16, I i74)], [.cells [.sl 1 0 k2, .sl 2 0 k4], nO x1, lR x3]⟩ (WO_nil rfl ?_))))))
      cases hi71
      exact aI rfl rfl
     ·refine Ww [0, 1, 2] [0, 2, 9, 11, 16] ⟨[(0, pA 0 0), (2, S s6), (9, I i50), (11, I i53), (16, I i56)], [.cells [.sl 1 0 k2, .sl 2 0 k4], nO x1, lR x3]⟩ (W_skip ?_)
      cases hi71
      exact aI rfl rfl
    ·rintro _ _ ⟨rfl, rfl⟩
     refine thenS_n (W_seq (W_seq (bindO_e h (fun b79 hv80 h => (W_cut (Q' := fun (e : Exit) (s : St) => e = .normal ∧ s = ⟨[(0, pA 0 0), (2, S s6), (11, I i53), (75, B b79)], [.cells [.sl 1 0 k2, .sl 2 0 k4], nO x1, lR x3]⟩) ?_ ?_)))))
     ·refine iteO_e hv80 (fun hb76 hv80 => ?_) (fun hb76 hv80 => ?_)
      ·refine W_draw [] false (by kernel_rfl) (by kernel_rfl) (WD_takeQ [0, 1, 2] [0, 2, 9, 11, 16, 62] [0, 2, 9, 11, 16, 62] (φ := (True ∧ True ∧ True)) (ls' := (tf true [3, 13])) (st' := ⟨[(0, pA 0 0), (2, S s6), (9, I i50), (11, I i53), (16, I i71), (62, B (decide (i71 < 0)))], [.cells [.sl 1 0 k2, .sl 2 0 k4], nO x1, lR x3]⟩) (n2 := 13) (by kernel_rfl) t3 rfl (WD_known 62 true rfl rfl hb76 (WD_takeQ [3, 4, 5, 6, 7, 8, 9, 10, 11, 12, 13, 14, 15] [0, 2, 11, 75] [0, 2, 11, 75] (φ := True) (ls' := (tf true [16])) (st' := ⟨[(0, pA 0 0), (2, S s6), (11, I i53), (75, B true)], [.cells [.sl 1 0 k2, .sl 2 0 k4], nO x1, lR x3]⟩) (n2 := 0) (by kernel_rfl) trivial rfl ?_)))
       exact WD_done [0, 1, 2] [0, 2, 11, 75] (st' := ⟨[(0, pA 0 0), (2, S s6), (11, I i53), (75, B true)], [.cells [.sl 1 0 k2, .sl 2 0 k4], nO x1, lR x3]⟩) (by kernel_rfl) (by kernel_rfl) (aI rfl (by cases hv80; rfl))
      ·refine bindO_e hv80 (fun b77 hc78 hv80 => (W_draw [] false (by kernel_rfl) (by kernel_rfl) (WD_takeQ [0, 1, 2] [0, 2, 9, 11, 16, 62] [0, 2, 9, 11, 16, 62] (φ := (True ∧ True ∧ True)) (ls' := (tf true [3, 13])) (st' := ⟨[(0, pA 0 0), (2, S s6), (9, I i50), (11, I i53), (16, I i71), (62, B (decide (i71 < 0)))], [.cells [.sl 1 0 k2, .sl 2 0 k4], nO x1, lR x3]⟩) (n2 := 13) (by kernel_rfl) t3 rfl (WD_known 62 false rfl rfl hb76 (WD_takeQ [3, 4, 5, 7, 8, 9, 11, 12] [0, 2, 11, 62, 65, 69, 71, 72] [0, 2, 11, 62, 65, 69, 71, 72] (φ := True) (ls' := (tf true [6, 1, 3, 1, 2, 3])) (st' := ⟨[(0, pA 0 0), (2, S s6), (11, I i53), (62, B false), (65, pA 0 0), (69, pA 0 1), (71, I i50), (72, I i71)], [.cells [.sl 1 0 k2, .sl 2 0 k4], nO x1, lR x3]⟩) (n2 := 5) (by kernel_rfl) trivial rfl (WD_all [6, 10] (n := 4) (by kernel_rfl) rfl (aI ?_ (?_))))))))
       ·refine WM_op (φ := True) (v := SL 1 0 k2) (H' := [.cells [.sl 1 0 k2, .sl 2 0 k4], nO x1, lR x3]) rfl rfl (by kernel_rfl) trivial rfl (aI (aI rfl rfl) (aI rfl (aI rfl (trivial)))) (WD_all [10] (n := 3) (by kernel_rfl) rfl (WM_op (φ := True) (v := SL 2 0 k4) (H' := [.cells [.sl 1 0 k2, .sl 2 0 k4], nO x1, lR x3]) rfl rfl (by kernel_rfl) trivial rfl (aI (aI rfl rfl) (aI rfl (aI rfl (trivial)))) (WD_all [13] (n := 2) (by kernel_rfl) rfl (WM_call [.view 0, .view 1] Tryz.f90 rfl rfl (by kernel_rfl) Tryz.func90 rfl (by kernel_rfl) (spec_mayWrite_ok n ((x1.drop 0).take k2) ((x3.drop 0).take k4) i50 i71 b77 hc78) (trivial) rfl (aI (aI rfl rfl) (aI rfl (aI rfl (trivial)))) (WD_takeQ [14, 15] [0, 2, 11, 75] [0, 2, 11, 75] (φ := True) (ls' := (tf true [16])) (st' := ⟨[(0, pA 0 0), (2, S s6), (11, I i53), (75, B (!b77))], [.cells [.sl 1 0 k2, .sl 2 0 k4], nO x1, lR x3]⟩) (n2 := 0) (by kernel_rfl) trivial rfl ?_)))))
        exact WD_done [0, 1, 2] [0, 2, 11, 75] (st' := ⟨[(0, pA 0 0), (2, S s6), (11, I i53), (75, B (!b77))], [.cells [.sl 1 0 k2, .sl 2 0 k4], nO x1, lR x3]⟩) (by kernel_rfl) (by kernel_rfl) (aI rfl (by cases hv80; rfl))
       ·refine WM_op (φ := True) (v := SL 2 0 k4) (H' := [.cells [.sl 1 0 k2, .sl 2 0 k4], nO x1, lR x3]) rfl rfl (by kernel_rfl) trivial rfl (aI (aI rfl rfl) (aI rfl (aI rfl (trivial)))) (WD_all [6] (n := 3) (by kernel_rfl) rfl (WM_op (φ := True) (v := SL 1 0 k2) (H' := [.cells [.sl 1 0 k2, .sl 2 0 k4], nO x1, lR x3]) rfl rfl (by kernel_rfl) trivial rfl (aI (aI rfl rfl) (aI rfl (aI rfl (trivial)))) (WD_all [13] (n := 2) (by kernel_rfl) rfl (WM_call [.view 0, .view 1] Tryz.f90 rfl rfl (by kernel_rfl) Tryz.func90 rfl (by kernel_rfl) (spec_mayWrite_ok n ((x1.drop 0).take k2) ((x3.drop 0).take k4) i50 i71 b77 hc78) (trivial) rfl (aI (aI rfl rfl) (aI rfl (aI rfl (trivial)))) (WD_takeQ [14, 15] [0, 2, 11, 75] [0, 2, 11, 75] (φ := True) (ls' := (tf true [16])) (st' := ⟨[(0, pA 0 0), (2, S s6), (11, I i53), (75, B (!b77))], [.cells [.sl 1 0 k2, .sl 2 0 k4], nO x1, lR x3]⟩) (n2 := 0) (by kernel_rfl) trivial rfl ?_)))))
        exact WD_done [0, 1, 2] [0, 2, 11, 75] (st' := ⟨[(0, pA 0 0), (2, S s6), (11, I i53), (75, B (!b77))], [.cells [.sl 1 0 k2, .sl 2 0 k4], nO x1, lR x3]⟩) (by kernel_rfl) (by kernel_rfl) (aI rfl (by cases hv80; rfl))
     ·rintro _ _ ⟨rfl, rfl⟩
      refine thenS_n (iteO_e h (fun hb82 h => W_true rfl hb82 ?_) (fun hb82 h => W_false rfl hb82 ?_))
      ·refine Wsr ((Ws 1 [0, 1, 2] [8] ⟨[(8, S [110, 111])], [.cells [.sl 1 0 k2, .sl 2 0 k4], nO x1, lR x3]⟩ (Wnt ((W_ret (thenS_r ?_))))))
       cases h
       exact ⟨[0, 999, 2, 1], True, by kernel_rfl, trivial⟩
      ·refine Ww [0, 1, 2] [0, 2, 11] ⟨[(0, pA 0 0), (2, S s6), (11, I i53)], [.cells [.sl 1 0 k2, .sl 2 0 k4], nO x1, lR x3]⟩ (W_skip (thenS_n (Wsr ((Wp 8 [0, 1, 2, 3] [0, 80, 84] T2 ⟨[(0, pA 0 0), (80, SL 1 0 k2), (84, .one (.e (.sl 3 0 ([(⟨0, s6, i53⟩ : Edt)].length))))], [.cells [.sl 1 0 k2, .sl 2 0 k4], nO x1, lR x3, .row .edt [(⟨0, s6, i53⟩ : Edt)] true]⟩ t2 (bindO_e h (fun v88 hc85 h => ?_)))))))
       obtain ⟨x83, b84⟩ := v88
       refine Wc [.view 0, .ro 3] rfl rfl rfl Tryz.func91 rfl (spec_ApplyEdits_ok n ((x1.drop 0).take k2) [(⟨0, s6, i53⟩ : Edt)] x83 b84 hc85) (aI (aI rfl rfl) (trivial)) rfl (Ws 5 [0, 1, 2, 4] [0, 17, 18] ⟨[(0, pA 0 0), (17, sF 3 x83), (18, B b84)], [.cells [.sl 1 0 k2, .sl 2 0 k4], nO x1, lR x3, nO x83]⟩ (Wnt ((W_seq (Wsr ((Ws 2 [0, 1, 2, 3] [0, 17, 89] ⟨[(0, pA 0 0), (17, sF 3 x83), (89, B (!b84))], [.cells [.sl 1 0 k2, .sl 2 0 k4], nO x1, lR x3, nO x83]⟩ (Wnt ((iteO_e h (fun hb87 h => W_true rfl hb87 ?_) (fun hb87 h => W_false rfl hb87 ?_)))))))))))
       ·refine Wsr ((Ws 1 [0, 1, 2] [8] ⟨[(8, S [110, 111])], [.cells [.sl 1 0 k2, .sl 2 0 k4], nO x1, lR x3]⟩ (Wnt ((W_ret (thenS_r ?_))))))
        cases h
        exact ⟨[0, 999, 2, 1], True, by kernel_rfl, trivial⟩
       ·refine Ww [0, 1, 2, 3] [0, 17] ⟨[(0, pA 0 0), (17, sF 3 x83)], [.cells [.sl 1 0 k2, .sl 2 0 k4], nO x1, lR x3, nO x83]⟩ (W_skip (thenS_n (Wsr ((Wp 5 [0, 1, 2, 3] [] T2 ⟨[], [.cells [.sl 3 0 x83.length, .sl 2 0 k4], nO x1, lR x3, nO x83]⟩ t2 (Wnt ((Wsr ((Ws 1 [0, 1, 2, 3] [8] ⟨[(8, S [111, 107])], [.cells [.sl 3 0 x83.length, .sl 2 0 k4], nO x1, lR x3, nO x83]⟩ (Wnt ((W_ret ?_)))))))))))))
        cases h
        exact ⟨[0, 999, 2, 3], True, by kernel_rfl, trivial⟩

/- spec.mayRead -/
def spec_mayRead_L1 (x2 : List Lck) (i3 : Int) (x50 : List Int) (x1 : List Nod) : Nat → Int → Option ((Unit) ⊕ (Unit))
| 0, _ => none
| n + 1, i67 =>
 iteO (decide (i67 < ((x50.length : Nat) : Int)))
 (guardO (0 ≤ i67 ∧ i67 < ((x50.length : Nat) : Int)) <|
 bindO (spec_held n x2 i3 (x50.getD i67.toNat 0)) fun i90 =>
 iteO (decide (3 ≤ i90))
 (some (.inl ()))
 (spec_mayRead_L1 x2 i3 x50 x1 n (w64 (i67 + 1))))
 (some (.inr ()))

theorem spec_mayRead_L1_ok (w : World) (X : Nat → Prop) (θ : List Loc) (x2 : List Lck) (i3 : Int) (x50 : List Int) (x1 : List Nod) (v : (Unit) ⊕ (Unit)) : ∀ (n : Nat) (i67 : Int), spec_mayRead_L1 x2 i3 x50 x1 n i67 = some v → WL EE ⟨w, X, θ, 28, 2⟩ (subC [1, 1, 0, 1, 4, 4] (bodyC Tryz.f92)) (fun (e : Exit) (s : St) => (match v with | (.inl _) => e = .ret ∧ s = ⟨[(8, B true)], [nR x1, lR x2]⟩ | (.inr _) => e = .exit 0 ∧ s = ⟨[], [nR x1, lR x2]⟩ : Prop)) ⟨[(1, sF 1 x2), (2, I i3), (9, sF 2 x50), (10, I i67)], [nR x1, lR x2, iO x50]⟩ := by
  intro n
  induction n with
  | zero => intro _ h; exact none_e h
  | succ n ih =>
    intro i67 h
    rw [spec_mayRead_L1] at h
    refine WL_round ?_
    refine W_seq (Wsr ((Wp 4 [0, 1, 2] [1, 2, 9, 10, 17] T3 ⟨[(1, sF 1 x2), (2, I i3), (9, sF 2 x50), (10, I i67), (17, B (decide (i67 < (lI x50))))], [nR x1, lR x2, iO x50]⟩ t3 (Wnt ((iteO_e h (fun hb83 h => W_true rfl hb83 ?_) (fun hb83 h => W_false rfl hb83 ?_)))))))
    ·refine Ww [0, 1, 2] [1, 2, 9, 10] ⟨[(1, sF 1 x2), (2, I i3), (9, sF 2 x50), (10, I i67)], [nR x1, lR x2, iO x50]⟩ (W_skip (thenS_n (W_seq (W_block (Wsr ((guardO_e h (fun hg89 h => (Wp 6 [0, 1, 2] [1, 2, 9, 10, 20, 21, 25] ((0 ≤ i67 ∧ i67 < (lI x50)) ∧ T2) ⟨[(1, sF 1 x2), (2, I i3), (9, sF 2 x50), (10, I i67), (20, sF 1 x2), (21, I i3), (25, I (x50.getD i67.toNat 0))], [nR x1, lR x2, iO x50]⟩ ⟨hg89, trivial, trivial⟩ (bindO_e h (fun i90 hc91 h => (Wc [.ro 1] rfl rfl rfl Tryz.func125 rfl (spec_held_ok n x2 i3 (x50.getD i67.toNat 0) i90 hc91) (aI (aI rfl rfl) (trivial)) rfl (Wp 1 [0, 1, 2] [1, 2, 9, 10, 27] T2 ⟨[(1, sF 1 x2), (2, I i3), (9, sF 2 x50), (10, I i67), (27, B (decide (3 ≤ i90)))], [nR x1, lR x2, iO x50]⟩ t2 (Wnt ((iteO_e h (fun hb93 h => W_true rfl hb93 ?_) (fun hb93 h => W_false rfl hb93 ?_)))))))))))))))))
     ·refine Wsr ((Ws 1 [0, 1] [8] ⟨[(8, B true)], [nR x1, lR x2]⟩ (Wnt ((W_ret (blockS_r (thenS_r (thenS_r ?_))))))))
      cases h
      exact aI rfl rfl
     ·refine Ww [0, 1, 2] [1, 2, 9, 10] ⟨[(1, sF 1 x2), (2, I i3), (9, sF 2 x50), (10, I i67)], [nR x1, lR x2, iO x50]⟩ (W_skip (blockS_n (thenS_n (W_region (Wp 3 [0, 1, 2] [1, 2, 9, 10] T2 ⟨[(1, sF 1 x2), (2, I i3), (9, sF 2 x50), (10, I (w64 (i67 + 1)))], [nR x1, lR x2, iO x50]⟩ t2 (Wnt (?_)))))))
      exact ih _ h
    ·refine Ww [0, 1] [] ⟨[], [nR x1, lR x2]⟩ (W_exit (thenS_e (thenS_e ?_)))
     cases h
     exact aI rfl rfl

def spec_mayRead (n : Nat) (x1 : List Nod) (x2 : List Lck) (i3 : Int) (i4 : Int) : Option (Bool) :=
 bindO (spec_pathTo n x1 i4) fun x50 =>
 bindO (spec_mayRead_L1 x2 i3 x50 x1 n 0) fun v94 =>
 match v94 with
 | (.inl _) => (some true)
 | (.inr _) => (some false)


theorem spec_mayRead_ok (n : Nat) (x1 : List Nod) (x2 : List Lck) (i3 : Int) (i4 : Int) (b49 : Bool) (h : spec_mayRead n x1 x2 i3 i4 = some b49) : FOk EE 92 [sF 0 x1, sF 1 x2, I i3, I i4] [nR x1, lR x2] (B b49) [nR x1, lR x2] := by
  unfold spec_mayRead at h
  refine FOk_of_W 28 2 Tryz.func92 rfl rfl (Nat.le_of_ble_eq_true rfl) rfl (fun w X θ => ?_)
  refine Wsr ((Ws 1 [0, 1] [0, 1, 2, 3] ⟨[(0, sF 0 x1), (1, sF 1 x2), (2, I i3), (3, I i4)], [nR x1, lR x2]⟩ (Wnt ((W_seq (W_region ?_))))))
  refine Ws 2 [0, 1] [1, 2, 11, 12] ⟨[(1, sF 1 x2), (2, I i3), (11, sF 0 x1), (12, I i4)], [nR x1, lR x2]⟩ (bindO_e h (fun x50 hc51 h => (Wc [.ro 0] rfl rfl rfl Tryz.func107 rfl (spec_pathTo_ok n x1 i4 x50 hc51) (aI (aI rfl rfl) (trivial)) rfl (Ws 1 [0, 1, 2] [1, 2, 9] ⟨[(1, sF 1 x2), (2, I i3), (9, sF 2 x50)], [nR x1, lR x2, iO x50]⟩ (Wnt ((W_seq ?_)))))))
  refine Wsr ((Ws 1 [0, 1, 2] [1, 2, 9, 10] ⟨[(1, sF 1 x2), (2, I i3), (9, sF 2 x50), (10, I 0)], [nR x1, lR x2, iO x50]⟩ (Wnt ((W_block (W_loop ?_))))))
  refine bindO_e h (fun v94 hv94 h => (WL_cut (spec_mayRead_L1_ok w X θ x2 i3 x50 x1 v94 n 0 hv94) ?_))
  rcases v94 with _ | _
  ·rintro _ _ ⟨rfl, rfl⟩
   refine blockS_r (thenS_r ?_)
   cases h
   exact ⟨[0, 1], True, by kernel_rfl, trivial⟩
  ·rintro _ _ ⟨rfl, rfl⟩
   refine blockS_y (thenS_n (Wsr ((Ws 1 [0, 1] [8] ⟨[(8, B false)], [nR x1, lR x2]⟩ (Wnt ((W_ret ?_)))))))
   cases h
   exact ⟨[0, 1], True, by kernel_rfl, trivial⟩

/- spec.desk).get -/
def spec_desk_get (n : Nat) (x1 : List Nod) (k2 : Nat) (x3 : List Lck) (k4 : Nat) (s5 : Str) (s6 : Str) : Option (Str) :=
 bindO (spec_parseInt n s5) fun (i26, b27) =>
 bindO (spec_resolve n ((x1.drop 0).take k2) s6) fun i29 =>
 bindO (iteO (!b27)
 (some true)
 (iteO (decide (i29 < 0))
 (some true)
 (iteO (!(spec_inRange i26 0 3))
 (some true)
 (bindO (spec_mayRead n ((x1.drop 0).take k2) ((x3.drop 0).take k4) i26 i29) fun b34 =>
 some (!b34))))) fun b36 =>
 iteO b36
 (some [110, 111])
 (guardO (0 ≤ i29 ∧ i29 < ((k2 : Nat) : Int)) <|
 bindO (spec_decimal n ((x1.getD i29.toNat dnod).value)) fun s41 =>
 some s41)

theorem spec_desk_get_ok (n : Nat) (x1 : List Nod) (k2 : Nat) (x3 : List Lck) (k4 : Nat) (s5 : Str) (s6 : Str) (s25 : Str) (h : spec_desk_get n x1 k2 x3 k4 s5 s6 = some s25) : FOk EE 60 [pA 0 0, S s5, S s6] [.cells [.sl 1 0 k2, .sl 2 0 k4], nR x1, lR x3] (S s25) [.cells [.sl 1 0 k2, .sl 2 0 k4], nR x1, lR x3] := by
  unfold spec_desk_get at h
  refine FOk_of_W 55 3 Tryz.func60 rfl rfl (Nat.le_of_ble_eq_true rfl) rfl (fun w X θ => ?_)
  refine Wsr ((Ws 1 [0, 1, 2] [0, 1, 2] ⟨[(0, pA 0 0), (1, S s5), (2, S s6)], [.cells [.sl 1 0 k2, .sl 2 0 k4], nR x1, lR x3]⟩ (Wnt ((W_seq (W_region ?_))))))
  refine Ws 1 [0, 1, 2] [0, 2, 11] ⟨[(0, pA 0 0), (2, S s6), (11, S s5)], [.cells [.sl 1 0 k2, .sl 2 0 k4], nR x1, lR x3]⟩ (bindO_e h (fun v43 hc28 h => ?_))
  obtain ⟨i26, b27⟩ := v43
  refine Wc [] rfl rfl rfl Tryz.func42 rfl (spec_parseInt_ok n s5 i26 b27 hc28) (trivial) rfl (Ws 5 [0, 1, 2] [0, 2, 7, 8] ⟨[(0, pA 0 0), (2, S s6), (7, I i26), (8, B b27)], [.cells [.sl 1 0 k2, .sl 2 0 k4], nR x1, lR x3]⟩ (Wnt ((Wsr ((Wp 5 [0, 1, 2] [0, 7, 8, 18, 19] T2 ⟨[(0, pA 0 0), (7, I i26), (8, B b27), (18, SL 1 0 k2), (19, S s6)], [.cells [.sl 1 0 k2, .sl 2 0 k4], nR x1, lR x3]⟩ t2 ?_))))))
  refine bindO_e h (fun i29 hc30 h => (Wc [.view 0] rfl rfl rfl Tryz.func44 rfl (spec_resolve_ok n ((x1.drop 0).take k2) s6 i29 hc30) (trivial) rfl (Ws 1 [0, 1, 2] [0, 7, 8, 9] ⟨[(0, pA 0 0), (7, I i26), (8, B b27), (9, I i29)], [.cells [.sl 1 0 k2, .sl 2 0 k4], nR x1, lR x3]⟩ (Wnt ((W_seq (W_seq ?_)))))))
  refine bindO_e h (fun b36 hv37 h => (W_cut (Q' := fun (e : Exit) (s : St) => e = .normal ∧ s = ⟨[(0, pA 0 0), (9, I i29), (45, B b36)], [.cells [.sl 1 0 k2, .sl 2 0 k4], nR x1, lR x3]⟩) ?_ ?_))
  ·refine iteO_e hv37 (fun hb31 hv37 => ?_) (fun hb31 hv37 => ?_)
   ·refine W_draw [] false (by kernel_rfl) (by kernel_rfl) (WD_takeQ [0, 1, 2] [0, 7, 9, 23] [0, 7, 9, 23] (φ := True) (ls' := (tf true [3, 22])) (st' := ⟨[(0, pA 0 0), (7, I i26), (9, I i29), (23, B (!b27))], [.cells [.sl 1 0 k2, .sl 2 0 k4], nR x1, lR x3]⟩) (n2 := 22) (by kernel_rfl) trivial rfl (WD_known 23 true rfl rfl hb31 (WD_takeQ [3, 4, 5, 6, 7, 8, 9, 10, 11, 12, 13, 14, 15, 16, 17, 18, 19, 20, 21, 22, 23, 24] [0, 9, 45] [0, 9, 45] (φ := True) (ls' := (tf true [25])) (st' := ⟨[(0, pA 0 0), (9, I i29), (45, B true)], [.cells [.sl 1 0 k2, .sl 2 0 k4], nR x1, lR x3]⟩) (n2 := 0) (by kernel_rfl) trivial rfl ?_)))
    exact WD_done [0, 1, 2] [0, 9, 45] (st' := ⟨[(0, pA 0 0), (9, I i29), (45, B true)], [.cells [.sl 1 0 k2, .sl 2 0 k4], nR x1, lR x3]⟩) (by kernel_rfl) (by kernel_rfl) (aI rfl (by cases hv37; rfl))
   ·refine iteO_e hv37 (fun hb32 hv37 => ?_) (fun hb32 hv37 => ?_)
    ·refine W_draw [] false (by kernel_rfl) (by kernel_rfl) (WD_takeQ [0, 1, 2] [0, 7, 9, 23] [0, 7, 9, 23] (φ := True) (ls' := (tf true [3, 22])) (st' := ⟨[(0, pA 0 0), (7, I i26), (9, I i29), (23, B (!b27))], [.cells [.sl 1 0 k2, .sl 2 0 k4], nR x1, lR x3]⟩) (n2 := 22) (by kernel_rfl) trivial rfl (WD_known 23 false rfl rfl hb31 (WD_takeQ [3, 4, 5, 6] [0, 7, 9, 27] [0, 7, 9, 27] (φ := (True ∧ True ∧ True)) (ls' := (tf true [7, 18])) (st' := ⟨[(0, pA 0 0), (7, I i26), (9, I i29), (27, B (decide (i29 < 0)))], [.cells [.sl 1 0 k2, .sl 2 0 k4], nR x1, lR x3]⟩) (n2 := 18) (by kernel_rfl) t3 rfl (WD_known 27 true rfl rfl hb32 (WD_takeQ [7, 8, 9, 10, 11, 12, 13, 14, 15, 16, 17, 18, 19, 20, 21, 22, 23, 24] [0, 9, 45] [0, 9, 45] (φ := True) (ls' := (tf true [25])) (st' := ⟨[(0, pA 0 0), (9, I i29), (45, B true)], [.cells [.sl 1 0 k2, .sl 2 0 k4], nR x1, lR x3]⟩) (n2 := 0) (by kernel_rfl) trivial rfl ?_)))))
     exact WD_done [0, 1, 2] [0, 9, 45] (st' := ⟨[(0, pA 0 0), (9, I i29), (45, B true)], [.cells [.sl 1 0 k2, .sl 2 0 k4], nR x1, lR x3]⟩) (by kernel_rfl) (by kernel_rfl) (aI rfl (by cases hv37; rfl))
    ·refine iteO_e hv37 (fun hb33 hv37 => ?_) (fun hb33 hv37 => ?_)
     ·refine W_draw [] false (by kernel_rfl) (by kernel_rfl) (WD_takeQ [0, 1, 2] [0, 7, 9, 23] [0, 7, 9, 23] (φ := True) (ls' := (tf true [3, 22])) (st' := ⟨[(0, pA 0 0), (7, I i26), (9, I i29), (23, B (!b27))], [.cells [.sl 1 0 k2, .sl 2 0 k4], nR x1, lR x3]⟩) (n2 := 22) (by kernel_rfl) trivial rfl (WD_known 23 false rfl rfl hb31 (WD_takeQ [3, 4, 5, 6] [0, 7, 9, 27] [0, 7, 9, 27] (φ := (True ∧ True ∧ True)) (ls' := (tf true [7, 18])) (st' := ⟨[(0, pA 0 0), (7, I i26), (9, I i29), (27, B (decide (i29 < 0)))], [.cells [.sl 1 0 k2, .sl 2 0 k4], nR x1, lR x3]⟩) (n2 := 18) (by kernel_rfl) t3 rfl (WD_known 27 false rfl rfl hb32 (WD_takeQ [7] [0, 7, 9, 27, 28] [0, 7, 9, 27, 28] (φ := True) (ls' := (tf true [8, 17])) (st' := ⟨[(0, pA 0 0), (7, I i26), (9, I i29), (27, B false), (28, I i26)], [.cells [.sl 1 0 k2, .sl 2 0 k4], nR x1, lR x3]⟩) (n2 := 17) (by kernel_rfl) trivial rfl (WD_all [8] (n := 16) (by kernel_rfl) rfl (WM_call [] Tryz.f71 rfl rfl (by kernel_rfl) Tryz.func71 rfl (by kernel_rfl) (spec_inRange_ok i26 0 3) (trivial) rfl (aI (aI rfl rfl) (aI rfl (aI rfl (trivial)))) (WD_takeQ [9, 10, 11] [0, 7, 9, 32] [0, 7, 9, 32] (φ := True) (ls' := (tf true [12, 13])) (st' := ⟨[(0, pA 0 0), (7, I i26), (9, I i29), (32, B (!(spec_inRange i26 0 3)))], [.cells [.sl 1 0 k2, .sl 2 0 k4], nR x1, lR x3]⟩) (n2 := 13) (by kernel_rfl) trivial rfl (WD_known 32 true rfl rfl hb33 (WD_takeQ [12, 13, 14, 15, 16, 17, 18, 19, 20, 21, 22, 23, 24] [0, 9, 45] [0, 9, 45] (φ := True) (ls' := (tf true [25])) (st' := ⟨[(0, pA 0 0), (9, I i29), (45, B true)], [.cells [.sl 1 0 k2, .sl 2 0 k4], nR x1, lR x3]⟩) (n2 := 0) (by kernel_rfl) trivial rfl ?_))))))))))
      exact WD_done [0, 1, 2] [0, 9, 45] (st' := ⟨[(0, pA 0 0), (9, I i29), (45, B true)], [.cells [.sl 1 0 k2, .sl 2 0 k4], nR x1, lR x3]⟩) (by kernel_rfl) (by kernel_rfl) (aI rfl (by cases hv37; rfl))
     ·refine bindO_e hv37 (fun b34 hc35 hv37 => (W_draw [] false (by kernel_rfl) (by kernel_rfl) (WD_takeQ [0, 1, 2] [0, 7, 9, 23] [0, 7, 9, 23] (φ := True) (ls' := (tf true [3, 22])) (st' := ⟨[(0, pA 0 0), (7, I i26), (9, I i29), (23, B (!b27))], [.cells [.sl 1 0 k2, .sl 2 0 k4], nR x1, lR x3]⟩) (n2 := 22) (by kernel_rfl) trivial rfl (WD_known 23 false rfl rfl hb31 (WD_takeQ [3, 4, 5, 6] [0, 7, 9, 27] [0, 7, 9, 27] (φ := (True ∧ True ∧ True)) (ls' := (tf true [7, 18])) (st' := ⟨[(0, pA 0 0), (7, I i26), (9, I i29), (27, B (decide (i29 < 0)))], [.cells [.sl 1 0 k2, .sl 2 0 k4], nR x1, lR x3]⟩) (n2 := 18) (by kernel_rfl) t3 rfl (WD_known 27 false rfl rfl hb32 (WD_takeQ [7] [0, 7, 9, 27, 28] [0, 7, 9, 27, 28] (φ := True) (ls' := (tf true [8, 17])) (st' := ⟨[(0, pA 0 0), (7, I i26), (9, I i29), (27, B false), (28, I i26)], [.cells [.sl 1 0 k2, .sl 2 0 k4], nR x1, lR x3]⟩) (n2 := 17) (by kernel_rfl) trivial rfl (WD_all [8] (n := 16) (by kernel_rfl) rfl (WM_call [] Tryz.f71 rfl rfl (by kernel_rfl) Tryz.func71 rfl (by kernel_rfl) (spec_inRange_ok i26 0 3) (trivial) rfl (aI (aI rfl rfl) (aI rfl (aI rfl (trivial)))) (WD_takeQ [9, 10, 11] [0, 7, 9, 32] [0, 7, 9, 32] (φ := True) (ls' := (tf true [12, 13])) (st' := ⟨[(0, pA 0 0), (7, I i26), (9, I i29), (32, B (!(spec_inRange i26 0 3)))], [.cells [.sl 1 0 k2, .sl 2 0 k4], nR x1, lR x3]⟩) (n2 := 13) (by kernel_rfl) trivial rfl (WD_known 32 false rfl rfl hb33 (WD_takeQ [12, 13, 14, 16, 17, 18, 20, 21] [0, 9, 32, 35, 39, 41, 42] [0, 9, 32, 35, 39, 41, 42] (φ := True) (ls' := (tf true [15, 1, 3, 1, 2, 3])) (st' := ⟨[(0, pA 0 0), (9, I i29), (32, B false), (35, pA 0 0), (39, pA 0 1), (41, I i26), (42, I i29)], [.cells [.sl 1 0 k2, .sl 2 0 k4], nR x1, lR x3]⟩) (n2 := 5) (by kernel_rfl) trivial rfl (WD_all [15, 19] (n := 4) (by kernel_rfl) rfl (aI ?_ (?_)))))))))))))))
      ·refine WM_op (φ := True) (v := SL 1 0 k2) (H' := [.cells [.sl 1 0 k2, .sl 2 0 k4], nR x1, lR x3]) rfl rfl (by kernel_rfl) trivial rfl (aI (aI rfl rfl) (aI rfl (aI rfl (trivial)))) (WD_all [19] (n := 3) (by kernel_rfl) rfl (WM_op (φ := True) (v := SL 2 0 k4) (H' := [.cells [.sl 1 0 k2, .sl 2 0 k4], nR x1, lR x3]) rfl rfl (by kernel_rfl) trivial rfl (aI (aI rfl rfl) (aI rfl (aI rfl (trivial)))) (WD_all [22] (n := 2) (by kernel_rfl) rfl (WM_call [.view 0, .view 1] Tryz.f92 rfl rfl (by kernel_rfl) Tryz.func92 rfl (by kernel_rfl) (spec_mayRead_ok n ((x1.drop 0).take k2) ((x3.drop 0).take k4) i26 i29 b34 hc35) (trivial) rfl (aI (aI rfl rfl) (aI rfl (aI rfl (trivial)))) (WD_takeQ [23, 24] [0, 9, 45] [0, 9, 45] (φ := True) (ls' := (tf true [25])) (st' := ⟨[(0, pA 0 0), (9, I i29), (45, B (!b34))], [.cells [.sl 1 0 k2, .sl 2 0 k4], nR x1, lR x3]⟩) (n2 := 0) (by kernel_rfl) trivial rfl ?_)))))
       exact WD_done [0, 1, 2] [0, 9, 45] (st' := ⟨[(0, pA 0 0), (9, I i29), (45, B (!b34))], [.cells [.sl 1 0 k2, .sl 2 0 k4], nR x1, lR x3]⟩) (by kernel_rfl) (by kernel_rfl) (aI rfl (by cases hv37; rfl))
      ·refine WM_op (φ := True) (v := SL 2 0 k4) (H' := [.cells [.sl 1 0 k2, .sl 2 0 k4], nR x1, lR x3]) rfl rfl (by kernel_rfl) trivial rfl (aI (aI rfl rfl) (aI rfl (aI rfl (trivial)))) (WD_all [15] (n := 3) (by kernel_rfl) rfl (WM_op (φ := True) (v := SL 1 0 k2) (H' := [.cells [.sl 1 0 k2, .sl 2 0 k4], nR x1, lR x3]) rfl rfl (by kernel_rfl) trivial rfl (aI (aI rfl rfl) (aI rfl (aI rfl (trivial)))) (WD_all [22] (n := 2) (by kernel_rfl) rfl (WM_call [.view 0, .view 1] Tryz.f92 rfl rfl (by kernel_rfl) Tryz.func92 rfl (by kernel_rfl) (spec_mayRead_ok n ((x1.drop 0).take k2) ((x3.drop 0).take k4) i26 i29 b34 hc35) (trivial) rfl (aI (aI rfl rfl) (aI rfl (aI rfl (trivial)))) (WD_takeQ [23, 24] [0, 9, 45] [0, 9, 45] (φ := True) (ls' := (tf true [25])) (st' := ⟨[(0, pA 0 0), (9, I i29), (45, B (!b34))], [.cells [.sl 1 0 k2, .sl 2 0 k4], nR x1, lR x3]⟩) (n2 := 0) (by kernel_rfl) trivial rfl ?_)))))
       exact WD_done [0, 1, 2] [0, 9, 45] (st' := ⟨[(0, pA 0 0), (9, I i29), (45, B (!b34))], [.cells [.sl 1 0 k2, .sl 2 0 k4], nR x1, lR x3]⟩) (by kernel_rfl) (by kernel_rfl) (aI rfl (by cases hv37; rfl))
  ·rintro _ _ ⟨rfl, rfl⟩
   refine thenS_n (iteO_e h (fun hb39 h => W_true rfl hb39 ?_) (fun hb39 h => W_false rfl hb39 ?_))
   ·refine Wsr ((Ws 1 [0, 1, 2] [6] ⟨[(6, S [110, 111])], [.cells [.sl 1 0 k2, .sl 2 0 k4], nR x1, lR x3]⟩ (Wnt ((W_ret (thenS_r ?_))))))
    cases h
    exact ⟨[0, 1, 2], True, by kernel_rfl, trivial⟩
   ·refine Ww [0, 1, 2] [0, 9] ⟨[(0, pA 0 0), (9, I i29)], [.cells [.sl 1 0 k2, .sl 2 0 k4], nR x1, lR x3]⟩ (W_skip (thenS_n (Wsr ((guardO_e h (fun hg40 h => (Wp 8 [0, 1, 2] [53] (True ∧ ((0 ≤ i29 ∧ i29 < ((k2 : Nat) : Int)) ∧ T2)) ⟨[(53, I ((x1.getD i29.toNat dnod).value))], [.cells [.sl 1 0 k2, .sl 2 0 k4], nR x1, lR x3]⟩ ⟨trivial, hg40, trivial, trivial⟩ (bindO_e h (fun s41 hc42 h => (Wc [] rfl rfl rfl Tryz.func24 rfl (spec_decimal_ok n ((x1.getD i29.toNat dnod).value) s41 hc42) (trivial) rfl (Ws 1 [0, 1, 2] [6] ⟨[(6, S s41)], [.cells [.sl 1 0 k2, .sl 2 0 k4], nR x1, lR x3]⟩ (Wnt ((W_ret ?_))))))))))))))
    cases h
    exact ⟨[0, 1, 2], True, by kernel_rfl, trivial⟩

/- spec.needAbove -/
def spec_needAbove (i1 : Int) : Option (Int) :=
 bindO (iteO (decide (i1 = 1))
 (some (decide (i1 = 1)))
 (some (decide (i1 = 3)))) fun b67 =>
 iteO b67
 (some 1)
 (bindO (iteO (decide (i1 = 2))
 (some (decide (i1 = 2)))
 (bindO (iteO (decide (i1 = 4))
 (some (decide (i1 = 4)))
 (some (decide (i1 = 5)))) fun b88 =>
 some b88)) fun b84 =>
 iteO b84
 (some 2)
 (some 0))

theorem spec_needAbove_ok (i1 : Int) (i44 : Int) (h : spec_needAbove i1 = some i44) : FOk EE 128 [I i1] [] (I i44) [] := by
  unfold spec_needAbove at h
  refine FOk_of_W 11 0 Tryz.func128 rfl rfl (Nat.le_of_ble_eq_true rfl) rfl (fun w X θ => ?_)
  refine Wsr ((Ws 1 [] [0] ⟨[(0, I i1)], []⟩ (Wnt ((W_seq (W_seq ?_))))))
  refine W_region (Ws 1 [] [3] ⟨[(3, I i1)], []⟩ (Wnt ((W_block (W_seq (W_seq ?_))))))
  refine W_region (Wp 2 [] [3, 4] T2 ⟨[(3, I i1), (4, B (decide (i1 = 1)))], []⟩ t2 (Wnt ((bindO_e h (fun b67 hb67 h => (W_cut (Q' := fun (e : Exit) (s : St) => e = .normal ∧ s = ⟨[(3, I i1), (4, B b67)], []⟩) ?_ ?_))))))
  ·refine iteO_e hb67 (fun hb69 hb67 => W_true rfl hb69 ?_) (fun hb69 hb67 => W_false rfl hb69 ?_)
   ·refine W_skip ?_
    cases hb67
    exact aI rfl rfl
   ·refine W_region (Wp 2 [] [3, 4] T2 ⟨[(3, I i1), (4, B (decide (i1 = 3)))], []⟩ t2 (WO_nil rfl ?_))
    cases hb67
    exact aI rfl rfl
  ·rintro _ _ ⟨rfl, rfl⟩
   refine thenS_n (iteO_e h (fun hb79 h => W_true rfl hb79 ?_) (fun hb79 h => W_false rfl hb79 ?_))
   ·refine Wsr ((Ws 1 [] [2] ⟨[(2, I 1)], []⟩ (Wnt ((W_ret (blockS_r (thenS_r ?_)))))))
    cases h
    exact ⟨[], True, by kernel_rfl, trivial⟩
   ·refine W_seq (Wsr ((Wp 2 [] [3, 7] T2 ⟨[(3, I i1), (7, B (decide (i1 = 2)))], []⟩ t2 (Wnt ((bindO_e h (fun b84 hb84 h => (W_cut (Q' := fun (e : Exit) (s : St) => e = .normal ∧ s = ⟨[(7, B b84)], []⟩) ?_ ?_))))))))
    ·refine iteO_e hb84 (fun hb86 hb84 => W_true rfl hb86 ?_) (fun hb86 hb84 => W_false rfl hb86 ?_)
     ·refine Ww [] [7] ⟨[(7, B (decide (i1 = 2)))], []⟩ (W_skip ?_)
      cases hb84
      exact aI rfl rfl
     ·refine Wsr ((Wp 2 [] [3, 7] T2 ⟨[(3, I i1), (7, B (decide (i1 = 4)))], []⟩ t2 (Wnt ((bindO_e hb84 (fun b88 hb88 hb84 => (W_cut (Q' := fun (e : Exit) (s : St) => e = .normal ∧ s = ⟨[(7, B b88)], []⟩) ?_ ?_)))))))
      ·refine iteO_e hb88 (fun hb90 hb88 => W_true rfl hb90 ?_) (fun hb90 hb88 => W_false rfl hb90 ?_)
       ·refine Ww [] [7] ⟨[(7, B (decide (i1 = 4)))], []⟩ (W_skip ?_)
        cases hb88
        exact aI rfl rfl
       ·refine W_region (Wp 2 [] [7] T2 ⟨[(7, B (decide (i1 = 5)))], []⟩ t2 (WO_nil rfl ?_))
        cases hb88
        exact aI rfl rfl
      ·rintro _ _ ⟨rfl, rfl⟩
       cases hb84
       exact aI rfl rfl
    ·rintro _ _ ⟨rfl, rfl⟩
     refine thenS_n (iteO_e h (fun hb92 h => W_true rfl hb92 ?_) (fun hb92 h => W_false rfl hb92 ?_))
     ·refine Wsr ((Ws 1 [] [2] ⟨[(2, I 2)], []⟩ (Wnt ((W_ret (blockS_r (thenS_r ?_)))))))
      cases h
      exact ⟨[], True, by kernel_rfl, trivial⟩
     ·refine Ww [] [] ⟨[], []⟩ (W_skip (blockS_n (thenS_n (Wsr ((Ws 1 [] [2] ⟨[(2, I 0)], []⟩ (Wnt ((W_ret ?_)))))))))
      cases h
      exact ⟨[], True, by kernel_rfl, trivial⟩

/- spec.locksFor -/
def spec_locksFor_L1 (i2 : Int) (i3 : Int) (i4 : Int) (x51 : List Int) (x1 : List Nod) : Nat → (List Lck) → Int → Option ((List Lck))
| 0, _, _ => none
| n + 1, x69, i70 =>
 iteO (decide ((w64 (i70 + 1)) < ((x51.length : Nat) : Int)))
 (guardO (0 ≤ i70 ∧ i70 < ((x51.length : Nat) : Int)) <|
 bindO (spec_needAbove i4) fun i92 =>
 guardO (0 = 0 ∧ x69.length = x69.length ∧ x69.length + (([(⟨i2, (x51.getD i70.toNat 0), i92⟩ : Lck)].drop 0).take ([(⟨i2, (x51.getD i70.toNat 0), i92⟩ : Lck)].length)).length ≤ 1099511627776) <|
 spec_locksFor_L1 i2 i3 i4 x51 x1 n (x69 ++ (([(⟨i2, (x51.getD i70.toNat 0), i92⟩ : Lck)].drop 0).take ([(⟨i2, (x51.getD i70.toNat 0), i92⟩ : Lck)].length))) (w64 (i70 + 1)))
 (some x69)

theorem spec_locksFor_L1_ok (w : World) (X : Nat → Prop) (θ : List Loc) (i2 : Int) (i3 : Int) (i4 : Int) (x51 : List Int) (x1 : List Nod) (x83 : (List Lck)) : ∀ (n : Nat) (x69 : List Lck) (i70 : Int), spec_locksFor_L1 i2 i3 i4 x51 x1 n x69 i70 = some x83 → WL EE ⟨w, X, θ, 41, 1⟩ (subC [1, 1, 1, 0, 1, 4, 4] (bodyC Tryz.f94)) (fun (e : Exit) (s : St) => e = .exit 0 ∧ s = ⟨[(1, I i2), (2, I i3), (3, I i4), (9, sF 1 x83)], [nR x1, lO x83]⟩) ⟨[(1, I i2), (2, I i3), (3, I i4), (9, sF 1 x69), (10, sF 2 x51), (11, I i70)], [nR x1, lO x69, iO x51]⟩ := by
  intro n
  induction n with
  | zero => intro _ _ h; exact none_e h
  | succ n ih =>
    intro x69 i70 h
    rw [spec_locksFor_L1] at h
    refine WL_round ?_
    refine W_seq (Wsr ((Wp 5 [0, 1, 2] [1, 2, 3, 9, 10, 11, 20] T4 ⟨[(1, I i2), (2, I i3), (3, I i4), (9, sF 1 x69), (10, sF 2 x51), (11, I i70), (20, B (decide ((w64 (i70 + 1)) < (lI x51))))], [nR x1, lO x69, iO x51]⟩ t4 (Wnt ((iteO_e h (fun hb86 h => W_true rfl hb86 ?_) (fun hb86 h => W_false rfl hb86 ?_)))))))
    ·refine Ww [0, 1, 2] [1, 2, 3, 9, 10, 11] ⟨[(1, I i2), (2, I i3), (3, I i4), (9, sF 1 x69), (10, sF 2 x51), (11, I i70)], [nR x1, lO x69, iO x51]⟩ (W_skip (thenS_n (W_seq (W_block (guardO_e h (fun hg91 h => (bindO_e h (fun i92 hc93 h => (guardO_e h (fun hg94 h => (W_cut (Q' := fun (e : Exit) (s : St) => e = .normal ∧ s = ⟨[(1, I i2), (2, I i3), (3, I i4), (9, .one (.e (.sl 1 0 ((x69 ++ (([(⟨i2, (x51.getD i70.toNat 0), i92⟩ : Lck)].drop 0).take ([(⟨i2, (x51.getD i70.toNat 0), i92⟩ : Lck)].length))).length)))), (10, sF 2 x51), (11, I i70)], [nR x1, .row .lck (x69 ++ (([(⟨i2, (x51.getD i70.toNat 0), i92⟩ : Lck)].drop 0).take ([(⟨i2, (x51.getD i70.toNat 0), i92⟩ : Lck)].length))) true, iO x51]⟩) ?_ ?_)))))))))))
     ·refine W_draw [1] false (by kernel_rfl) (by kernel_rfl) (WD_takeQ [0, 1, 2, 3, 4, 5, 6] [1, 2, 3, 9, 10, 11, 23, 24, 28, 29] [1, 2, 3, 9, 10, 11, 23, 24, 28, 29] (φ := ((0 ≤ i70 ∧ i70 < (lI x51)) ∧ (0 ≤ i70 ∧ i70 < (lI x51)) ∧ (True ∧ True ∧ True))) (ls' := (tf true [7, 5])) (st' := ⟨[(1, I i2), (2, I i3), (3, I i4), (9, sF 1 x69), (10, sF 2 x51), (11, I i70), (23, sF 1 x69), (24, I i2), (28, I (x51.getD i70.toNat 0)), (29, I i4)], [nR x1, lO x69, iO x51]⟩) (n2 := 5) (by kernel_rfl) ⟨hg91, hg91, trivial, trivial, trivial⟩ rfl (WD_all [7] (n := 4) (by kernel_rfl) rfl (WM_call [] Tryz.f128 rfl rfl (by kernel_rfl) Tryz.func128 rfl (by kernel_rfl) (spec_needAbove_ok i4 i92 hc93) (trivial) rfl (aI rfl (aI rfl (trivial))) (WD_takeQ [8] [1, 2, 3, 9, 10, 11, 23, 31] [1, 2, 3, 9, 10, 11, 23, 31] (φ := True) (ls' := (tf true [9, 3])) (st' := ⟨[(1, I i2), (2, I i3), (3, I i4), (9, sF 1 x69), (10, sF 2 x51), (11, I i70), (23, sF 1 x69), (31, AGG [cI i2, cI (x51.getD i70.toNat 0), cI i92])], [nR x1, lO x69, iO x51]⟩) (n2 := 3) (by kernel_rfl) trivial rfl (WD_all [9] (n := 2) (by kernel_rfl) rfl (WM_op (φ := True) (v := .one (.e (.sl 3 0 ([(⟨i2, (x51.getD i70.toNat 0), i92⟩ : Lck)].length)))) (H' := [nR x1, lO x69, iO x51, .row .lck [(⟨i2, (x51.getD i70.toNat 0), i92⟩ : Lck)] true]) rfl rfl (by kernel_rfl) trivial rfl (aI rfl (aI rfl (trivial))) (WD_all [10] (n := 1) (by kernel_rfl) rfl (WM_op (φ := 0 = 0 ∧ x69.length = x69.length ∧ x69.length + (([(⟨i2, (x51.getD i70.toNat 0), i92⟩ : Lck)].drop 0).take ([(⟨i2, (x51.getD i70.toNat 0), i92⟩ : Lck)].length)).length ≤ 1099511627776) (v := .one (.e (.sl 4 0 ((x69 ++ (([(⟨i2, (x51.getD i70.toNat 0), i92⟩ : Lck)].drop 0).take ([(⟨i2, (x51.getD i70.toNat 0), i92⟩ : Lck)].length))).length)))) (H' := [nR x1, .dead, iO x51, .row .lck [(⟨i2, (x51.getD i70.toNat 0), i92⟩ : Lck)] true, .row .lck (x69 ++ (([(⟨i2, (x51.getD i70.toNat 0), i92⟩ : Lck)].drop 0).take ([(⟨i2, (x51.getD i70.toNat 0), i92⟩ : Lck)].length))) true]) rfl rfl (by kernel_rfl) hg94 rfl (aI rfl (aI rfl (trivial))) (WD_all [11] (n := 0) (by kernel_rfl) rfl (WM_op (φ := True) (v := .one (.e (.sl 4 0 ((x69 ++ (([(⟨i2, (x51.getD i70.toNat 0), i92⟩ : Lck)].drop 0).take ([(⟨i2, (x51.getD i70.toNat 0), i92⟩ : Lck)].length))).length)))) (H' := [nR x1, .dead, iO x51, .row .lck [(⟨i2, (x51.getD i70.toNat 0), i92⟩ : Lck)] true, .row .lck (x69 ++ (([(⟨i2, (x51.getD i70.toNat 0), i92⟩ : Lck)].drop 0).take ([(⟨i2, (x51.getD i70.toNat 0), i92⟩ : Lck)].length))) true]) rfl rfl (by kernel_rfl) trivial rfl (aI rfl (aI rfl (trivial))) ?_))))))))))
      exact WD_done [0, 4, 2] [1, 2, 3, 9, 10, 11] (st' := ⟨[(1, I i2), (2, I i3), (3, I i4), (9, .one (.e (.sl 1 0 ((x69 ++ (([(⟨i2, (x51.getD i70.toNat 0), i92⟩ : Lck)].drop 0).take ([(⟨i2, (x51.getD i70.toNat 0), i92⟩ : Lck)].length))).length)))), (10, sF 2 x51), (11, I i70)], [nR x1, .row .lck (x69 ++ (([(⟨i2, (x51.getD i70.toNat 0), i92⟩ : Lck)].drop 0).take ([(⟨i2, (x51.getD i70.toNat 0), i92⟩ : Lck)].length))) true, iO x51]⟩) (by kernel_rfl) (by kernel_rfl) (aI rfl rfl)
     ·rintro _ _ ⟨rfl, rfl⟩
      refine blockS_n (thenS_n (W_region (Wp 3 [0, 1, 2] [1, 2, 3, 9, 10, 11] T2 ⟨[(1, I i2), (2, I i3), (3, I i4), (9, .one (.e (.sl 1 0 ((x69 ++ (([(⟨i2, (x51.getD i70.toNat 0), i92⟩ : Lck)].drop 0).take ([(⟨i2, (x51.getD i70.toNat 0), i92⟩ : Lck)].length))).length)))), (10, sF 2 x51), (11, I (w64 (i70 + 1)))], [nR x1, .row .lck (x69 ++ (([(⟨i2, (x51.getD i70.toNat 0), i92⟩ : Lck)].drop 0).take ([(⟨i2, (x51.getD i70.toNat 0), i92⟩ : Lck)].length))) true, iO x51]⟩ t2 (Wnt (?_)))))
      exact ih _ _ h
    ·refine Ww [0, 1] [1, 2, 3, 9] ⟨[(1, I i2), (2, I i3), (3, I i4), (9, sF 1 x69)], [nR x1, lO x69]⟩ (W_exit (thenS_e (thenS_e ?_)))
     cases h
     exact aI rfl rfl

def spec_locksFor (n : Nat) (x1 : List Nod) (i2 : Int) (i3 : Int) (i4 : Int) : Option ((List Lck)) :=
 bindO (spec_pathTo n x1 i3) fun x51 =>
 bindO (spec_locksFor_L1 i2 i3 i4 x51 x1 n ([] : List Lck) 0) fun x83 =>
 guardO (0 = 0 ∧ x83.length = x83.length ∧ x83.length + (([(⟨i2, i3, i4⟩ : Lck)].drop 0).take ([(⟨i2, i3, i4⟩ : Lck)].length)).length ≤ 1099511627776) <|
 some (x83 ++ (([(⟨i2, i3, i4⟩ : Lck)].drop 0).take ([(⟨i2, i3, i4⟩ : Lck)].length)))

theorem spec_locksFor_ok (n : Nat) (x1 : List Nod) (i2 : Int) (i3 : Int) (i4 : Int) (x50 : List Lck) (h : spec_locksFor n x1 i2 i3 i4 = some x50) : FOk EE 94 [sF 0 x1, I i2, I i3, I i4] [nR x1] (sF 1 x50) [nR x1, lO x50] := by
  unfold spec_locksFor at h
  refine FOk_of_W 41 1 Tryz.func94 rfl rfl (Nat.le_of_ble_eq_true rfl) rfl (fun w X θ => ?_)
  refine Wsr ((Ws 1 [0] [0, 1, 2, 3] ⟨[(0, sF 0 x1), (1, I i2), (2, I i3), (3, I i4)], [nR x1]⟩ (Wnt ((W_seq (W_region ?_))))))
  refine Ws 2 [0, 1] [0, 1, 2, 3, 9] ⟨[(0, sF 0 x1), (1, I i2), (2, I i3), (3, I i4), (9, .one (.e (.sl 1 0 (([] : List Lck).length))))], [nR x1, lO ([] : List Lck)]⟩ (Wnt ((Wsr ((Ws 2 [0, 1] [1, 2, 3, 9, 13, 14] ⟨[(1, I i2), (2, I i3), (3, I i4), (9, .one (.e (.sl 1 0 (([] : List Lck).length)))), (13, sF 0 x1), (14, I i3)], [nR x1, lO ([] : List Lck)]⟩ (bindO_e h (fun x51 hc52 h => ?_)))))))
  refine Wc [.ro 0] rfl rfl rfl Tryz.func107 rfl (spec_pathTo_ok n x1 i3 x51 hc52) (aI (aI rfl rfl) (trivial)) rfl (Ws 1 [0, 1, 2] [1, 2, 3, 9, 10] ⟨[(1, I i2), (2, I i3), (3, I i4), (9, .one (.e (.sl 1 0 (([] : List Lck).length)))), (10, sF 2 x51)], [nR x1, lO ([] : List Lck), iO x51]⟩ (Wnt ((W_seq (W_seq (W_region ?_))))))
  refine Ws 1 [0, 1, 2] [1, 2, 3, 9, 10, 11] ⟨[(1, I i2), (2, I i3), (3, I i4), (9, .one (.e (.sl 1 0 (([] : List Lck).length)))), (10, sF 2 x51), (11, I 0)], [nR x1, lO ([] : List Lck), iO x51]⟩ (Wnt ((W_block (W_loop (bindO_e h (fun x83 hx83 h => (WL_cut (spec_locksFor_L1_ok w X θ i2 i3 i4 x51 x1 x83 n ([] : List Lck) 0 hx83) ?_)))))))
  rintro _ _ ⟨rfl, rfl⟩
  refine blockS_y (thenS_n (Wsr ((guardO_e h (fun hg96 h => (Wp 8 [0, 3] [8] ((0 = 0 ∧ x83.length = x83.length ∧ x83.length + (([(⟨i2, i3, i4⟩ : Lck)].drop 0).take ([(⟨i2, i3, i4⟩ : Lck)].length)).length ≤ 1099511627776) ∧ True) ⟨[(8, .one (.e (.sl 1 0 ((x83 ++ (([(⟨i2, i3, i4⟩ : Lck)].drop 0).take ([(⟨i2, i3, i4⟩ : Lck)].length))).length))))], [nR x1, .row .lck (x83 ++ (([(⟨i2, i3, i4⟩ : Lck)].drop 0).take ([(⟨i2, i3, i4⟩ : Lck)].length))) true]⟩ ⟨hg96, trivial⟩ (WO_nil rfl ?_)))))))
  refine thenS_n (W_ret ?_)
  cases h
  exact ⟨[0, 1], True, by kernel_rfl, trivial⟩

/- spec.goTogether -/
def spec_goTogether (i1 : Int) (i2 : Int) : Option (Bool) :=
 iteO (decide ((if i2 < i1 then i2 else i1) = 0))
 (some true)
 (iteO (decide ((if i2 < i1 then i2 else i1) = 1))
 (some (!decide ((if i2 > i1 then i2 else i1) = 5)))
 (iteO (decide ((if i2 < i1 then i2 else i1) = 2))
 (some (decide ((if i2 > i1 then i2 else i1) = 2)))
 (iteO (decide ((if i2 < i1 then i2 else i1) = 3))
 (some (decide ((if i2 > i1 then i2 else i1) = 3)))
 (some false))))

theorem spec_goTogether_ok (i1 : Int) (i2 : Int) (b63 : Bool) (h : spec_goTogether i1 i2 = some b63) : FOk EE 129 [I i1, I i2] [] (B b63) [] := by
  unfold spec_goTogether at h
  refine FOk_of_W 28 0 Tryz.func129 rfl rfl (Nat.le_of_ble_eq_true rfl) rfl (fun w X θ => ?_)
  refine Wsr ((Ws 1 [] [0, 1] ⟨[(0, I i1), (1, I i2)], []⟩ (Wnt ((W_seq (W_region ?_))))))
  refine Wp 4 [] [0, 1, 5] T2 ⟨[(0, I i1), (1, I i2), (5, I (if i2 < i1 then i2 else i1))], []⟩ t2 (Wnt ((Wsr ((Wp 4 [] [5, 6] T2 ⟨[(5, I (if i2 < i1 then i2 else i1)), (6, I (if i2 > i1 then i2 else i1))], []⟩ t2 (WO_nil rfl ?_))))))
  refine thenS_n (W_seq (Wsr ((Ws 1 [] [6, 13] ⟨[(6, I (if i2 > i1 then i2 else i1)), (13, I (if i2 < i1 then i2 else i1))], []⟩ (Wnt (?_))))))
  refine W_block (Wsr ((Wp 2 [] [6, 13, 14] T2 ⟨[(6, I (if i2 > i1 then i2 else i1)), (13, I (if i2 < i1 then i2 else i1)), (14, B (decide ((if i2 < i1 then i2 else i1) = 0)))], []⟩ t2 (Wnt ((iteO_e h (fun hb109 h => W_true rfl hb109 ?_) (fun hb109 h => W_false rfl hb109 ?_)))))))
  ·refine Wsr ((Ws 1 [] [4] ⟨[(4, B true)], []⟩ (Wnt ((W_ret (blockS_r (thenS_r ?_)))))))
   cases h
   exact ⟨[], True, by kernel_rfl, trivial⟩
  ·refine Wsr ((Wp 2 [] [6, 13, 16] T2 ⟨[(6, I (if i2 > i1 then i2 else i1)), (13, I (if i2 < i1 then i2 else i1)), (16, B (decide ((if i2 < i1 then i2 else i1) = 1)))], []⟩ t2 (Wnt ((iteO_e h (fun hb117 h => W_true rfl hb117 ?_) (fun hb117 h => W_false rfl hb117 ?_))))))
   ·refine Wsr ((Wp 3 [] [4] T2 ⟨[(4, B (!decide ((if i2 > i1 then i2 else i1) = 5)))], []⟩ t2 (Wnt ((W_ret (blockS_r (thenS_r ?_)))))))
    cases h
    exact ⟨[], True, by kernel_rfl, trivial⟩
   ·refine Wsr ((Wp 2 [] [6, 13, 20] T2 ⟨[(6, I (if i2 > i1 then i2 else i1)), (13, I (if i2 < i1 then i2 else i1)), (20, B (decide ((if i2 < i1 then i2 else i1) = 2)))], []⟩ t2 (Wnt ((iteO_e h (fun hb121 h => W_true rfl hb121 ?_) (fun hb121 h => W_false rfl hb121 ?_))))))
    ·refine Wsr ((Wp 3 [] [4] T2 ⟨[(4, B (decide ((if i2 > i1 then i2 else i1) = 2)))], []⟩ t2 (Wnt ((W_ret (blockS_r (thenS_r ?_)))))))
     cases h
     exact ⟨[], True, by kernel_rfl, trivial⟩
    ·refine Wsr ((Wp 2 [] [6, 24] T2 ⟨[(6, I (if i2 > i1 then i2 else i1)), (24, B (decide ((if i2 < i1 then i2 else i1) = 3)))], []⟩ t2 (Wnt ((iteO_e h (fun hb123 h => W_true rfl hb123 ?_) (fun hb123 h => W_false rfl hb123 ?_))))))
     ·refine Wsr ((Wp 3 [] [4] T2 ⟨[(4, B (decide ((if i2 > i1 then i2 else i1) = 3)))], []⟩ t2 (Wnt ((W_ret (blockS_r (thenS_r ?_)))))))
      cases h
      exact ⟨[], True, by kernel_rfl, trivial⟩
     ·refine Ww [] [] ⟨[], []⟩ (W_skip (blockS_n (thenS_n (Wsr ((Ws 1 [] [4] ⟨[(4, B false)], []⟩ (Wnt ((W_ret ?_)))))))))
      cases h
      exact ⟨[], True, by kernel_rfl, trivial⟩

/- spec.validTable -/
def spec_validTable_L2 (x1 : List Lck) (i682 : Int) : Nat → Int → Option ((Unit) ⊕ (Unit))
| 0, _ => none
| n + 1, i972 =>
 iteO (decide (i972 < i682))
 (guardO (0 ≤ i972 ∧ i972 < ((x1.length : Nat) : Int)) <|
 guardO (0 ≤ i682 ∧ i682 < ((x1.length : Nat) : Int)) <|
 bindO (iteO (decide (((x1.getD i972.toNat dlck).node) = ((x1.getD i682.toNat dlck).node)))
 (guardO (0 ≤ i972 ∧ i972 < ((x1.length : Nat) : Int)) <|
 guardO (0 ≤ i682 ∧ i682 < ((x1.length : Nat) : Int)) <|
 iteO (decide (((x1.getD i972.toNat dlck).who) = ((x1.getD i682.toNat dlck).who)))
 (some true)
 (guardO (0 ≤ i972 ∧ i972 < ((x1.length : Nat) : Int)) <|
 guardO (0 ≤ i682 ∧ i682 < ((x1.length : Nat) : Int)) <|
 bindO (spec_goTogether ((x1.getD i972.toNat dlck).mode) ((x1.getD i682.toNat dlck).mode)) fun b1029 =>
 some (!b1029)))
 (some false)) fun b1031 =>
 iteO b1031
 (some (.inl ()))
 (spec_validTable_L2 x1 i682 n (w64 (i972 + 1))))
 (some (.inr ()))

theorem spec_validTable_L2_ok (w : World) (X : Nat → Prop) (θ : List Loc) (x1 : List Lck) (i682 : Int) (v : (Unit) ⊕ (Unit)) : ∀ (n : Nat) (i972 : Int), spec_validTable_L2 x1 i682 n i972 = some v → WL EE ⟨w, X, θ, 82, 1⟩ (subC [1, 0, 1, 4, 4, 1, 0, 4, 1, 1, 4, 4] (bodyC Tryz.f96)) (fun (e : Exit) (s : St) => (match v with | (.inl _) => e = .ret ∧ s = ⟨[(2, B false)], [lR x1]⟩ | (.inr _) => e = .exit 2 ∧ s = ⟨[(0, sF 0 x1), (3, I i682)], [lR x1]⟩ : Prop)) ⟨[(0, sF 0 x1), (3, I i682), (4, I i972)], [lR x1]⟩ := by
  intro n
  induction n with
  | zero => intro _ h; exact none_e h
  | succ n ih =>
    intro i972 h
    rw [spec_validTable_L2] at h
    refine WL_round ?_
    refine W_seq (Wsr ((Wp 3 [0] [0, 3, 4, 38] T2 ⟨[(0, sF 0 x1), (3, I i682), (4, I i972), (38, B (decide (i972 < i682)))], [lR x1]⟩ t2 (Wnt ((iteO_e h (fun hb1006 h => W_true rfl hb1006 ?_) (fun hb1006 h => W_false rfl hb1006 ?_)))))))
    ·refine Ww [0] [0, 3, 4] ⟨[(0, sF 0 x1), (3, I i682), (4, I i972)], [lR x1]⟩ (W_skip (thenS_n (W_seq (W_block (W_seq (guardO_e h (fun hg1021 h => (guardO_e h (fun hg1022 h => (bindO_e h (fun b1031 hv1032 h => (W_cut (Q' := fun (e : Exit) (s : St) => e = .normal ∧ s = ⟨[(0, sF 0 x1), (3, I i682), (4, I i972), (78, B b1031)], [lR x1]⟩) ?_ ?_))))))))))))
     ·refine iteO_e hv1032 (fun hb1023 hv1032 => ?_) (fun hb1023 hv1032 => ?_)
      ·refine guardO_e hv1032 (fun hg1024 hv1032 => (guardO_e hv1032 (fun hg1025 hv1032 => (iteO_e hv1032 (fun hb1026 hv1032 => ?_) (fun hb1026 hv1032 => ?_)))))
       ·refine W_draw [] false (by kernel_rfl) (by kernel_rfl) (WD_takeQ [0, 1, 2, 3, 4, 5, 6, 7, 8, 9, 10, 11] [0, 3, 4, 52] [0, 3, 4, 52] (φ := ((0 ≤ i972 ∧ i972 < (lI x1)) ∧ (0 ≤ i972 ∧ i972 < (lI x1)) ∧ (True ∧ True ∧ ((0 ≤ i682 ∧ i682 < (lI x1)) ∧ (0 ≤ i682 ∧ i682 < (lI x1)) ∧ (True ∧ True ∧ (True ∧ True ∧ True)))))) (ls' := (tf true [12, 26])) (st' := ⟨[(0, sF 0 x1), (3, I i682), (4, I i972), (52, B (decide (((x1.getD i972.toNat dlck).node) = ((x1.getD i682.toNat dlck).node))))], [lR x1]⟩) (n2 := 26) (by kernel_rfl) ⟨hg1021, hg1021, trivial, trivial, hg1022, hg1022, trivial, trivial, trivial, trivial, trivial⟩ rfl (WD_known 52 true rfl rfl hb1023 (WD_takeQ [12, 13, 14, 15, 16, 17, 18, 19, 20, 21, 22, 23] [0, 3, 4, 52, 64] [0, 3, 4, 52, 64] (φ := ((0 ≤ i972 ∧ i972 < (lI x1)) ∧ (0 ≤ i972 ∧ i972 < (lI x1)) ∧ (True ∧ True ∧ ((0 ≤ i682 ∧ i682 < (lI x1)) ∧ (0 ≤ i682 ∧ i682 < (lI x1)) ∧ (True ∧ True ∧ (True ∧ True ∧ True)))))) (ls' := (tf true [24, 14])) (st' := ⟨[(0, sF 0 x1), (3, I i682), (4, I i972), (52, B true), (64, B (decide (((x1.getD i972.toNat dlck).who) = ((x1.getD i682.toNat dlck).who))))], [lR x1]⟩) (n2 := 14) (by kernel_rfl) ⟨hg1024, hg1024, trivial, trivial, hg1025, hg1025, trivial, trivial, trivial, trivial, trivial⟩ rfl (WD_known 64 true rfl rfl hb1026 (WD_takeQ [24, 25, 26, 27, 28, 29, 30, 31, 32, 33, 34, 35, 36, 37] [0, 3, 4, 78] [0, 3, 4, 78] (φ := True) (ls' := (tf true [38])) (st' := ⟨[(0, sF 0 x1), (3, I i682), (4, I i972), (78, B true)], [lR x1]⟩) (n2 := 0) (by kernel_rfl) trivial rfl ?_)))))
        exact WD_done [0] [0, 3, 4, 78] (st' := ⟨[(0, sF 0 x1), (3, I i682), (4, I i972), (78, B true)], [lR x1]⟩) (by kernel_rfl) (by kernel_rfl) (aI rfl (by cases hv1032; rfl))
       ·refine guardO_e hv1032 (fun hg1027 hv1032 => (guardO_e hv1032 (fun hg1028 hv1032 => (bindO_e hv1032 (fun b1029 hc1030 hv1032 => (W_draw [] false (by kernel_rfl) (by kernel_rfl) (WD_takeQ [0, 1, 2, 3, 4, 5, 6, 7, 8, 9, 10, 11] [0, 3, 4, 52] [0, 3, 4, 52] (φ := ((0 ≤ i972 ∧ i972 < (lI x1)) ∧ (0 ≤ i972 ∧ i972 < (lI x1)) ∧ (True ∧ True ∧ ((0 ≤ i682 ∧ i682 < (lI x1)) ∧ (0 ≤ i682 ∧ i682 < (lI x1)) ∧ (True ∧ True ∧ (True ∧ True ∧ True)))))) (ls' := (tf true [12, 26])) (st' := ⟨[(0, sF 0 x1), (3, I i682), (4, I i972), (52, B (decide (((x1.getD i972.toNat dlck).node) = ((x1.getD i682.toNat dlck).node))))], [lR x1]⟩) (n2 := 26) (by kernel_rfl) ⟨hg1021, hg1021, trivial, trivial, hg1022, hg1022, trivial, trivial, trivial, trivial, trivial⟩ rfl (WD_known 52 true rfl rfl hb1023 (WD_takeQ [12, 13, 14, 15, 16, 17, 18, 19, 20, 21, 22, 23] [0, 3, 4, 52, 64] [0, 3, 4, 52, 64] (φ := ((0 ≤ i972 ∧ i972 < (lI x1)) ∧ (0 ≤ i972 ∧ i972 < (lI x1)) ∧ (True ∧ True ∧ ((0 ≤ i682 ∧ i682 < (lI x1)) ∧ (0 ≤ i682 ∧ i682 < (lI x1)) ∧ (True ∧ True ∧ (True ∧ True ∧ True)))))) (ls' := (tf true [24, 14])) (st' := ⟨[(0, sF 0 x1), (3, I i682), (4, I i972), (52, B true), (64, B (decide (((x1.getD i972.toNat dlck).who) = ((x1.getD i682.toNat dlck).who))))], [lR x1]⟩) (n2 := 14) (by kernel_rfl) ⟨hg1024, hg1024, trivial, trivial, hg1025, hg1025, trivial, trivial, trivial, trivial, trivial⟩ rfl (WD_known 64 false rfl rfl hb1026 (WD_takeQ [24, 25, 26, 27, 28, 29, 30, 31, 32, 33] [0, 3, 4, 52, 64, 69, 74] [0, 3, 4, 52, 64, 69, 74] (φ := ((0 ≤ i972 ∧ i972 < (lI x1)) ∧ (0 ≤ i972 ∧ i972 < (lI x1)) ∧ (True ∧ True ∧ ((0 ≤ i682 ∧ i682 < (lI x1)) ∧ (0 ≤ i682 ∧ i682 < (lI x1)) ∧ (True ∧ True ∧ True))))) (ls' := (tf true [34, 4])) (st' := ⟨[(0, sF 0 x1), (3, I i682), (4, I i972), (52, B true), (64, B false), (69, I ((x1.getD i972.toNat dlck).mode)), (74, I ((x1.getD i682.toNat dlck).mode))], [lR x1]⟩) (n2 := 4) (by kernel_rfl) ⟨hg1027, hg1027, trivial, trivial, hg1028, hg1028, trivial, trivial, trivial⟩ rfl (WD_all [34] (n := 3) (by kernel_rfl) rfl (WM_call [] Tryz.f129 rfl rfl (by kernel_rfl) Tryz.func129 rfl (by kernel_rfl) (spec_goTogether_ok ((x1.getD i972.toNat dlck).mode) ((x1.getD i682.toNat dlck).mode) b1029 hc1030) (trivial) rfl (aI rfl (trivial)) (WD_takeQ [35, 36, 37] [0, 3, 4, 78] [0, 3, 4, 78] (φ := True) (ls' := (tf true [38])) (st' := ⟨[(0, sF 0 x1), (3, I i682), (4, I i972), (78, B (!b1029))], [lR x1]⟩) (n2 := 0) (by kernel_rfl) trivial rfl ?_))))))))))))))
        exact WD_done [0] [0, 3, 4, 78] (st' := ⟨[(0, sF 0 x1), (3, I i682), (4, I i972), (78, B (!b1029))], [lR x1]⟩) (by kernel_rfl) (by kernel_rfl) (aI rfl (by cases hv1032; rfl))
      ·refine W_draw [] false (by kernel_rfl) (by kernel_rfl) (WD_takeQ [0, 1, 2, 3, 4, 5, 6, 7, 8, 9, 10, 11] [0, 3, 4, 52] [0, 3, 4, 52] (φ := ((0 ≤ i972 ∧ i972 < (lI x1)) ∧ (0 ≤ i972 ∧ i972 < (lI x1)) ∧ (True ∧ True ∧ ((0 ≤ i682 ∧ i682 < (lI x1)) ∧ (0 ≤ i682 ∧ i682 < (lI x1)) ∧ (True ∧ True ∧ (True ∧ True ∧ True)))))) (ls' := (tf true [12, 26])) (st' := ⟨[(0, sF 0 x1), (3, I i682), (4, I i972), (52, B (decide (((x1.getD i972.toNat dlck).node) = ((x1.getD i682.toNat dlck).node))))], [lR x1]⟩) (n2 := 26) (by kernel_rfl) ⟨hg1021, hg1021, trivial, trivial, hg1022, hg1022, trivial, trivial, trivial, trivial, trivial⟩ rfl (WD_known 52 false rfl rfl hb1023 (WD_takeQ [12, 13, 14, 15, 16, 17, 18, 19, 20, 21, 22, 23, 24, 25, 26, 27, 28, 29, 30, 31, 32, 33, 34, 35, 36, 37] [0, 3, 4, 78] [0, 3, 4, 78] (φ := True) (ls' := (tf true [38])) (st' := ⟨[(0, sF 0 x1), (3, I i682), (4, I i972), (78, B false)], [lR x1]⟩) (n2 := 0) (by kernel_rfl) trivial rfl ?_)))
       exact WD_done [0] [0, 3, 4, 78] (st' := ⟨[(0, sF 0 x1), (3, I i682), (4, I i972), (78, B false)], [lR x1]⟩) (by kernel_rfl) (by kernel_rfl) (aI rfl (by cases hv1032; rfl))
     ·rintro _ _ ⟨rfl, rfl⟩
      refine thenS_n (iteO_e h (fun hb1034 h => W_true rfl hb1034 ?_) (fun hb1034 h => W_false rfl hb1034 ?_))
      ·refine Wsr ((Ws 1 [0] [2] ⟨[(2, B false)], [lR x1]⟩ (Wnt ((W_ret (blockS_r (thenS_r (thenS_r ?_))))))))
       cases h
       exact aI rfl rfl
      ·refine Ww [0] [0, 3, 4] ⟨[(0, sF 0 x1), (3, I i682), (4, I i972)], [lR x1]⟩ (W_skip (blockS_n (thenS_n (W_region (Wp 3 [0] [0, 3, 4] T2 ⟨[(0, sF 0 x1), (3, I i682), (4, I (w64 (i972 + 1)))], [lR x1]⟩ t2 (Wnt (?_)))))))
       exact ih _ h
    ·refine Ww [0] [0, 3] ⟨[(0, sF 0 x1), (3, I i682)], [lR x1]⟩ (W_exit (thenS_e (thenS_e ?_)))
     cases h
     exact aI rfl rfl

def spec_validTable_L1 (x1 : List Lck) : Nat → Int → Option ((Unit) ⊕ (Unit))
| 0, _ => none
| n + 1, i682 =>
 iteO (decide (i682 < ((x1.length : Nat) : Int)))
 (guardO (0 ≤ i682 ∧ i682 < ((x1.length : Nat) : Int)) <|
 bindO (iteO (!(spec_inRange ((x1.getD i682.toNat dlck).who) 0 3))
 (some true)
 (guardO (0 ≤ i682 ∧ i682 < ((x1.length : Nat) : Int)) <|
 iteO (!(spec_inRange ((x1.getD i682.toNat dlck).node) 0 11))
 (some true)
 (guardO (0 ≤ i682 ∧ i682 < ((x1.length : Nat) : Int)) <|
 some (!(spec_inRange ((x1.getD i682.toNat dlck).mode) 1 5))))) fun b931 =>
 iteO b931
 (some (.inl ()))
 (bindO (spec_validTable_L2 x1 i682 n 0) fun v1035 =>
 match v1035 with
 | (.inl _) => (some (.inl ()))
 | (.inr _) => (spec_validTable_L1 x1 n (w64 (i682 + 1)))
))
 (some (.inr ()))

theorem spec_validTable_L1_ok (w : World) (X : Nat → Prop) (θ : List Loc) (x1 : List Lck) (v : (Unit) ⊕ (Unit)) : ∀ (n : Nat) (i682 : Int), spec_validTable_L1 x1 n i682 = some v → WL EE ⟨w, X, θ, 82, 1⟩ (subC [1, 0, 1, 4, 4] (bodyC Tryz.f96)) (fun (e : Exit) (s : St) => (match v with | (.inl _) => e = .ret ∧ s = ⟨[(2, B false)], [lR x1]⟩ | (.inr _) => e = .exit 0 ∧ s = ⟨[(0, sF 0 x1)], [lR x1]⟩ : Prop)) ⟨[(0, sF 0 x1), (3, I i682)], [lR x1]⟩ := by
  intro n
  induction n with
  | zero => intro _ h; exact none_e h
  | succ n ih =>
    intro i682 h
    rw [spec_validTable_L1] at h
    refine WL_round ?_
    refine W_seq (Wsr ((Wp 4 [0] [0, 3, 8] T3 ⟨[(0, sF 0 x1), (3, I i682), (8, B (decide (i682 < (lI x1))))], [lR x1]⟩ t3 (Wnt ((iteO_e h (fun hb846 h => W_true rfl hb846 ?_) (fun hb846 h => W_false rfl hb846 ?_)))))))
    ·refine Ww [0] [0, 3] ⟨[(0, sF 0 x1), (3, I i682)], [lR x1]⟩ (W_skip (thenS_n (W_seq (W_block (W_seq (Wsr ((guardO_e h (fun hg926 h => (Wp 5 [0] [0, 3, 15] ((0 ≤ i682 ∧ i682 < (lI x1)) ∧ T2) ⟨[(0, sF 0 x1), (3, I i682), (15, I ((x1.getD i682.toNat dlck).who))], [lR x1]⟩ ⟨hg926, trivial, trivial⟩ (Wc [] rfl rfl rfl Tryz.func71 rfl (spec_inRange_ok ((x1.getD i682.toNat dlck).who) 0 3) (trivial) rfl (Ws 2 [0] [0, 3, 18] ⟨[(0, sF 0 x1), (3, I i682), (18, B (!(spec_inRange ((x1.getD i682.toNat dlck).who) 0 3)))], [lR x1]⟩ (bindO_e h (fun b931 hv932 h => (WO_thru ⟨[(0, sF 0 x1), (3, I i682), (35, B b931)], [lR x1]⟩ ?_ ?_)))))))))))))))
     ·refine iteO_e hv932 (fun hb933 hv932 => WO_known 18 true rfl hb933 ?_) (fun hb933 hv932 => WO_known 18 false rfl hb933 ?_)
      ·refine Ws 17 [0] [0, 3, 35] ⟨[(0, sF 0 x1), (3, I i682), (35, B true)], [lR x1]⟩ ?_
       cases hv932
       exact WO_nil rfl ⟨rfl, rfl⟩
      ·refine guardO_e hv932 (fun hg934 hv932 => (Wp 5 [0] [0, 3, 18, 23] ((0 ≤ i682 ∧ i682 < (lI x1)) ∧ T2) ⟨[(0, sF 0 x1), (3, I i682), (18, B false), (23, I ((x1.getD i682.toNat dlck).node))], [lR x1]⟩ ⟨hg934, trivial, trivial⟩ (Wc [] rfl rfl rfl Tryz.func71 rfl (spec_inRange_ok ((x1.getD i682.toNat dlck).node) 0 11) (trivial) rfl (Ws 3 [0] [0, 3, 27] ⟨[(0, sF 0 x1), (3, I i682), (27, B (!(spec_inRange ((x1.getD i682.toNat dlck).node) 0 11)))], [lR x1]⟩ (iteO_e hv932 (fun hb935 hv932 => WO_known 27 true rfl hb935 ?_) (fun hb935 hv932 => WO_known 27 false rfl hb935 ?_))))))
       ·refine Ws 8 [0] [0, 3, 35] ⟨[(0, sF 0 x1), (3, I i682), (35, B true)], [lR x1]⟩ ?_
        cases hv932
        exact WO_nil rfl ⟨rfl, rfl⟩
       ·refine guardO_e hv932 (fun hg936 hv932 => (Wp 5 [0] [0, 3, 27, 32] ((0 ≤ i682 ∧ i682 < (lI x1)) ∧ T2) ⟨[(0, sF 0 x1), (3, I i682), (27, B false), (32, I ((x1.getD i682.toNat dlck).mode))], [lR x1]⟩ ⟨hg936, trivial, trivial⟩ (Wc [] rfl rfl rfl Tryz.func71 rfl (spec_inRange_ok ((x1.getD i682.toNat dlck).mode) 1 5) (trivial) rfl (Ws 2 [0] [0, 3, 35] ⟨[(0, sF 0 x1), (3, I i682), (35, B (!(spec_inRange ((x1.getD i682.toNat dlck).mode) 1 5)))], [lR x1]⟩ ?_))))
        cases hv932
        exact WO_nil rfl ⟨rfl, rfl⟩
     ·refine thenS_n (iteO_e h (fun hb938 h => W_true rfl hb938 ?_) (fun hb938 h => W_false rfl hb938 ?_))
      ·refine Wsr ((Ws 1 [0] [2] ⟨[(2, B false)], [lR x1]⟩ (Wnt ((W_ret (thenS_r (blockS_r (thenS_r (thenS_r ?_)))))))))
       cases h
       exact aI rfl rfl
      ·refine Ww [0] [0, 3] ⟨[(0, sF 0 x1), (3, I i682)], [lR x1]⟩ (W_skip (thenS_n (Wsr ((Ws 1 [0] [0, 3, 4] ⟨[(0, sF 0 x1), (3, I i682), (4, I 0)], [lR x1]⟩ (Wnt ((W_block (W_loop (bindO_e h (fun v1035 hv1035 h => (WL_cut (spec_validTable_L2_ok w X θ x1 i682 v1035 n 0 hv1035) ?_))))))))))))
       rcases v1035 with _ | _
       ·rintro _ _ ⟨rfl, rfl⟩
        refine blockS_r (blockS_r (thenS_r (thenS_r ?_)))
        cases h
        exact aI rfl rfl
       ·rintro _ _ ⟨rfl, rfl⟩
        refine blockS_y (blockS_n (thenS_n (W_region (Wp 3 [0] [0, 3] T2 ⟨[(0, sF 0 x1), (3, I (w64 (i682 + 1)))], [lR x1]⟩ t2 (Wnt (?_))))))
        exact ih _ h
    ·refine Ww [0] [0] ⟨[(0, sF 0 x1)], [lR x1]⟩ (W_exit (thenS_e (thenS_e ?_)))
     cases h
     exact aI rfl rfl

def spec_validTable (n : Nat) (x1 : List Lck) : Option (Bool) :=
 bindO (spec_validTable_L1 x1 n 0) fun v1036 =>
 match v1036 with
 | (.inl _) => (some false)
 | (.inr _) => (some (decide (((x1.length : Nat) : Int) ≤ 48)))


theorem spec_validTable_ok (n : Nat) (x1 : List Lck) (b518 : Bool) (h : spec_validTable n x1 = some b518) : FOk EE 96 [sF 0 x1] [lR x1] (B b518) [lR x1] := by
  unfold spec_validTable at h
  refine FOk_of_W 82 1 Tryz.func96 rfl rfl (Nat.le_of_ble_eq_true rfl) rfl (fun w X θ => ?_)
  refine Wsr ((Ws 1 [0] [0] ⟨[(0, sF 0 x1)], [lR x1]⟩ (Wnt ((W_seq (W_seq ?_))))))
  refine W_region (Ws 1 [0] [0, 3] ⟨[(0, sF 0 x1), (3, I 0)], [lR x1]⟩ (Wnt ((W_block (W_loop (bindO_e h (fun v1036 hv1036 h => ?_)))))))
  refine WL_cut (spec_validTable_L1_ok w X θ x1 v1036 n 0 hv1036) ?_
  rcases v1036 with _ | _
  ·rintro _ _ ⟨rfl, rfl⟩
   refine blockS_r (thenS_r ?_)
   cases h
   exact ⟨[0], True, by kernel_rfl, trivial⟩
  ·rintro _ _ ⟨rfl, rfl⟩
   refine blockS_y (thenS_n (Wsr ((Wp 4 [0] [2] T3 ⟨[(2, B (decide ((lI x1) ≤ 48)))], [lR x1]⟩ t3 (Wnt ((W_ret ?_)))))))
   cases h
   exact ⟨[0], True, by kernel_rfl, trivial⟩

/- spec.validAsk -/
def spec_validAsk (n : Nat) (x1 : List Lck) (i2 : Int) (i3 : Int) (i4 : Int) : Option (Bool) :=
 bindO (spec_validTable n x1) fun b15 =>
 some (b15 && ((spec_inRange i2 0 3) && ((spec_inRange i3 0 11) && (spec_inRange i4 1 5))))

theorem spec_validAsk_ok (n : Nat) (x1 : List Lck) (i2 : Int) (i3 : Int) (i4 : Int) (b14 : Bool) (h : spec_validAsk n x1 i2 i3 i4 = some b14) : FOk EE 153 [sF 0 x1, I i2, I i3, I i4] [lR x1] (B b14) [lR x1] := by
  unfold spec_validAsk at h
  refine FOk_of_W 23 1 Tryz.func153 rfl rfl (Nat.le_of_ble_eq_true rfl) rfl (fun w X θ => ?_)
  refine Wsr ((Ws 1 [0] [0, 1, 2, 3] ⟨[(0, sF 0 x1), (1, I i2), (2, I i3), (3, I i4)], [lR x1]⟩ (Wnt ((W_seq (W_region ?_))))))
  refine Ws 1 [0] [1, 2, 3, 9] ⟨[(1, I i2), (2, I i3), (3, I i4), (9, sF 0 x1)], [lR x1]⟩ (bindO_e h (fun b15 hc16 h => (Wc [.ro 0] rfl rfl rfl Tryz.func96 rfl (spec_validTable_ok n x1 b15 hc16) (aI (aI rfl rfl) (trivial)) rfl (Ws 1 [0] [1, 2, 3, 11] ⟨[(1, I i2), (2, I i3), (3, I i4), (11, B b15)], [lR x1]⟩ (WO_thru ⟨[(8, B (b15 && ((spec_inRange i2 0 3) && ((spec_inRange i3 0 11) && (spec_inRange i4 1 5)))))], [lR x1]⟩ ?_ ?_)))))
  ·refine WO_if 11 rfl (fun hb21 => ?_) (fun hb21 => ?_)
   ·refine Ws 1 [0] [2, 3, 11, 12] ⟨[(2, I i3), (3, I i4), (11, B true), (12, I i2)], [lR x1]⟩ (Wc [] rfl rfl rfl Tryz.func71 rfl (spec_inRange_ok i2 0 3) (trivial) rfl (Ws 2 [0] [2, 3, 15] ⟨[(2, I i3), (3, I i4), (15, B (spec_inRange i2 0 3))], [lR x1]⟩ (WO_if 15 rfl (fun hb22 => ?_) (fun hb22 => ?_))))
    ·refine Ws 1 [0] [3, 15, 16] ⟨[(3, I i4), (15, B true), (16, I i3)], [lR x1]⟩ (Wc [] rfl rfl rfl Tryz.func71 rfl (spec_inRange_ok i3 0 11) (trivial) rfl (Ws 2 [0] [3, 19] ⟨[(3, I i4), (19, B (spec_inRange i3 0 11))], [lR x1]⟩ (WO_if 19 rfl (fun hb23 => ?_) (fun hb23 => ?_))))
     ·refine Ws 1 [0] [19, 20] ⟨[(19, B true), (20, I i4)], [lR x1]⟩ (Wc [] rfl rfl rfl Tryz.func71 rfl (spec_inRange_ok i4 1 5) (trivial) rfl (Ws 2 [0] [8] ⟨[(8, B (spec_inRange i4 1 5))], [lR x1]⟩ ?_))
      exact WO_nil rfl ⟨rfl, by first | rfl | (simp only [hb21, hb22, hb23]; first | done | rfl)⟩
     ·refine Ws 4 [0] [8] ⟨[(8, B false)], [lR x1]⟩ ?_
      exact WO_nil rfl ⟨rfl, by first | rfl | (simp only [hb21, hb22, hb23]; first | done | rfl)⟩
    ·refine Ws 8 [0] [8] ⟨[(8, B false)], [lR x1]⟩ ?_
     exact WO_nil rfl ⟨rfl, by first | rfl | (simp only [hb21, hb22]; first | done | rfl)⟩
   ·refine Ws 12 [0] [8] ⟨[(8, B false)], [lR x1]⟩ ?_
    exact WO_nil rfl ⟨rfl, by first | rfl | (rw [hb21]; first | done | rfl)⟩
  ·refine thenS_n (W_ret ?_)
   cases h
   exact ⟨[0], True, by kernel_rfl, trivial⟩

/- spec.joined -/
def spec_joined (i1 : Int) (i2 : Int) : Option (Int) :=
 iteO ((decide ((if i2 < i1 then i2 else i1) = 2)) && (decide ((if i2 > i1 then i2 else i1) = 3)))
 (some 4)
 (some (if i2 > i1 then i2 else i1))

theorem spec_joined_ok (i1 : Int) (i2 : Int) (i8 : Int) (h : spec_joined i1 i2 = some i8) : FOk EE 155 [I i1, I i2] [] (I i8) [] := by
  unfold spec_joined at h
  refine FOk_of_W 20 0 Tryz.func155 rfl rfl (Nat.le_of_ble_eq_true rfl) rfl (fun w X θ => ?_)
  refine Wsr ((Ws 1 [] [0, 1] ⟨[(0, I i1), (1, I i2)], []⟩ (Wnt ((W_seq (W_region ?_))))))
  refine Wp 4 [] [0, 1, 5] T2 ⟨[(0, I i1), (1, I i2), (5, I (if i2 < i1 then i2 else i1))], []⟩ t2 (Wnt ((Wsr ((Wp 4 [] [5, 6] T2 ⟨[(5, I (if i2 < i1 then i2 else i1)), (6, I (if i2 > i1 then i2 else i1))], []⟩ t2 (WO_nil rfl ?_))))))
  refine thenS_n (W_seq (Wsr ((Wp 3 [] [6, 15] T2 ⟨[(6, I (if i2 > i1 then i2 else i1)), (15, B (decide ((if i2 < i1 then i2 else i1) = 2)))], []⟩ t2 (WO_thru ⟨[(6, I (if i2 > i1 then i2 else i1)), (18, B ((decide ((if i2 < i1 then i2 else i1) = 2)) && (decide ((if i2 > i1 then i2 else i1) = 3))))], []⟩ ?_ ?_)))))
  ·refine WO_if 15 rfl (fun hb11 => ?_) (fun hb11 => ?_)
   ·refine Wp 3 [] [6, 18] T2 ⟨[(6, I (if i2 > i1 then i2 else i1)), (18, B (decide ((if i2 > i1 then i2 else i1) = 3)))], []⟩ t2 ?_
    exact WO_nil rfl ⟨rfl, by first | rfl | (rw [hb11]; first | done | rfl)⟩
   ·refine Ws 3 [] [6, 18] ⟨[(6, I (if i2 > i1 then i2 else i1)), (18, B false)], []⟩ ?_
    exact WO_nil rfl ⟨rfl, by first | rfl | (rw [hb11]; first | done | rfl)⟩
  ·refine thenS_n (iteO_e h (fun hb13 h => W_true rfl hb13 ?_) (fun hb13 h => W_false rfl hb13 ?_))
   ·refine Wsr ((Ws 1 [] [4] ⟨[(4, I 4)], []⟩ (Wnt ((W_ret (thenS_r ?_))))))
    cases h
    exact ⟨[], True, by kernel_rfl, trivial⟩
   ·refine Ww [] [6] ⟨[(6, I (if i2 > i1 then i2 else i1))], []⟩ (W_skip (thenS_n (Wsr ((Ws 2 [] [4] ⟨[(4, I (if i2 > i1 then i2 else i1))], []⟩ (Wnt ((W_ret ?_))))))))
    cases h
    exact ⟨[], True, by kernel_rfl, trivial⟩

/- spec.blockers -/
def spec_blockers_L1 (x1 : List Lck) (i2 : Int) (i3 : Int) (i4 : Int) : Nat → (List Int) → Int → Option ((List Int))
| 0, _, _ => none
| n + 1, x158, i159 =>
 iteO (decide (i159 < 4))
 (bindO (iteO (!decide (i159 = i2))
 (bindO (spec_held n x1 i159 i3) fun i224 =>
 bindO (spec_goTogether i224 i4) fun b226 =>
 some (!b226))
 (some false)) fun b221 =>
 bindO (iteO b221
 (guardO (0 = 0 ∧ x158.length = x158.length ∧ x158.length + (([i159].drop 0).take ([i159].length)).length ≤ 1099511627776) <|
 some (x158 ++ (([i159].drop 0).take ([i159].length))))
 (some x158)) fun x230 =>
 spec_blockers_L1 x1 i2 i3 i4 n x230 (w64 (i159 + 1)))
 (some x158)

theorem spec_blockers_L1_ok (w : World) (X : Nat → Prop) (θ : List Loc) (x1 : List Lck) (i2 : Int) (i3 : Int) (i4 : Int) (x196 : (List Int)) : ∀ (n : Nat) (x158 : List Int) (i159 : Int), spec_blockers_L1 x1 i2 i3 i4 n x158 i159 = some x196 → WL EE ⟨w, X, θ, 33, 1⟩ (subC [1, 1, 0, 1, 4, 4] (bodyC Tryz.f154)) (fun (e : Exit) (s : St) => e = .exit 0 ∧ s = ⟨[(9, sF 1 x196)], [lR x1, iO x196]⟩) ⟨[(0, sF 0 x1), (1, I i2), (2, I i3), (3, I i4), (9, sF 1 x158), (10, I i159)], [lR x1, iO x158]⟩ := by
  intro n
  induction n with
  | zero => intro _ _ h; exact none_e h
  | succ n ih =>
    intro x158 i159 h
    rw [spec_blockers_L1] at h
    refine WL_round ?_
    refine W_seq (Wsr ((Wp 2 [0, 1] [0, 1, 2, 3, 9, 10, 13] T2 ⟨[(0, sF 0 x1), (1, I i2), (2, I i3), (3, I i4), (9, sF 1 x158), (10, I i159), (13, B (decide (i159 < 4)))], [lR x1, iO x158]⟩ t2 (Wnt ((iteO_e h (fun hb199 h => W_true rfl hb199 ?_) (fun hb199 h => W_false rfl hb199 ?_)))))))
    ·refine Ww [0, 1] [0, 1, 2, 3, 9, 10] ⟨[(0, sF 0 x1), (1, I i2), (2, I i3), (3, I i4), (9, sF 1 x158), (10, I i159)], [lR x1, iO x158]⟩ (W_skip (thenS_n (W_seq (W_block (Wsr ((Wp 4 [0, 1] [0, 1, 2, 3, 9, 10, 19] T2 ⟨[(0, sF 0 x1), (1, I i2), (2, I i3), (3, I i4), (9, sF 1 x158), (10, I i159), (19, B (!decide (i159 = i2)))], [lR x1, iO x158]⟩ t2 (bindO_e h (fun b221 hv222 h => (WO_thru ⟨[(0, sF 0 x1), (1, I i2), (2, I i3), (3, I i4), (9, sF 1 x158), (10, I i159), (27, B b221)], [lR x1, iO x158]⟩ ?_ ?_))))))))))
     ·refine iteO_e hv222 (fun hb223 hv222 => WO_known 19 true rfl hb223 ?_) (fun hb223 hv222 => WO_known 19 false rfl hb223 ?_)
      ·refine Ws 3 [0, 1] [0, 1, 2, 3, 9, 10, 19, 20, 21, 22] ⟨[(0, sF 0 x1), (1, I i2), (2, I i3), (3, I i4), (9, sF 1 x158), (10, I i159), (19, B true), (20, sF 0 x1), (21, I i159), (22, I i3)], [lR x1, iO x158]⟩ (bindO_e hv222 (fun i224 hc225 hv222 => (Wc [.ro 0] rfl rfl rfl Tryz.func125 rfl (spec_held_ok n x1 i159 i3 i224 hc225) (aI (aI rfl rfl) (trivial)) rfl (Ws 1 [0, 1] [0, 1, 2, 3, 9, 10, 19, 23, 24] ⟨[(0, sF 0 x1), (1, I i2), (2, I i3), (3, I i4), (9, sF 1 x158), (10, I i159), (19, B true), (23, I i224), (24, I i4)], [lR x1, iO x158]⟩ (bindO_e hv222 (fun b226 hc227 hv222 => (Wc [] rfl rfl rfl Tryz.func129 rfl (spec_goTogether_ok i224 i4 b226 hc227) (trivial) rfl (Ws 2 [0, 1] [0, 1, 2, 3, 9, 10, 27] ⟨[(0, sF 0 x1), (1, I i2), (2, I i3), (3, I i4), (9, sF 1 x158), (10, I i159), (27, B (!b226))], [lR x1, iO x158]⟩ ?_))))))))
       cases hv222
       exact WO_nil rfl ⟨rfl, rfl⟩
      ·refine Ws 8 [0, 1] [0, 1, 2, 3, 9, 10, 27] ⟨[(0, sF 0 x1), (1, I i2), (2, I i3), (3, I i4), (9, sF 1 x158), (10, I i159), (27, B false)], [lR x1, iO x158]⟩ ?_
       cases hv222
       exact WO_nil rfl ⟨rfl, rfl⟩
     ·refine thenS_n (bindO_e h (fun x230 hx230 h => (W_cut (Q' := fun (e : Exit) (s : St) => e = .normal ∧ s = ⟨[(0, sF 0 x1), (1, I i2), (2, I i3), (3, I i4), (9, sF 1 x230), (10, I i159)], [lR x1, iO x230]⟩) ?_ ?_)))
      ·refine iteO_e hx230 (fun hb232 hx230 => W_true rfl hb232 ?_) (fun hb232 hx230 => W_false rfl hb232 ?_)
       ·refine W_region (guardO_e hx230 (fun hg233 hx230 => (Wp 5 [0, 3] [0, 1, 2, 3, 9, 10] ((0 = 0 ∧ x158.length = x158.length ∧ x158.length + (([i159].drop 0).take ([i159].length)).length ≤ 1099511627776) ∧ True) ⟨[(0, sF 0 x1), (1, I i2), (2, I i3), (3, I i4), (9, .one (.e (.sl 1 0 ((x158 ++ (([i159].drop 0).take ([i159].length))).length)))), (10, I i159)], [lR x1, .row .int (x158 ++ (([i159].drop 0).take ([i159].length))) true]⟩ ⟨hg233, trivial⟩ (WO_nil rfl ?_))))
        cases hx230
        exact aI rfl rfl
       ·refine Ww [0, 1] [0, 1, 2, 3, 9, 10] ⟨[(0, sF 0 x1), (1, I i2), (2, I i3), (3, I i4), (9, sF 1 x158), (10, I i159)], [lR x1, iO x158]⟩ (W_skip ?_)
        cases hx230
        exact aI rfl rfl
      ·rintro _ _ ⟨rfl, rfl⟩
       refine blockS_n (thenS_n (W_region (Wp 3 [0, 1] [0, 1, 2, 3, 9, 10] T2 ⟨[(0, sF 0 x1), (1, I i2), (2, I i3), (3, I i4), (9, sF 1 x230), (10, I (w64 (i159 + 1)))], [lR x1, iO x230]⟩ t2 (Wnt (?_)))))
       exact ih _ _ h
    ·refine Ww [0, 1] [9] ⟨[(9, sF 1 x158)], [lR x1, iO x158]⟩ (W_exit (thenS_e (thenS_e ?_)))
     cases h
     exact aI rfl rfl

def spec_blockers (n : Nat) (x1 : List Lck) (i2 : Int) (i3 : Int) (i4 : Int) : Option ((List Int)) :=
 bindO (spec_blockers_L1 x1 i2 i3 i4 n ([] : List Int) 0) fun x196 =>
 some x196

theorem spec_blockers_ok (n : Nat) (x1 : List Lck) (i2 : Int) (i3 : Int) (i4 : Int) (x117 : List Int) (h : spec_blockers n x1 i2 i3 i4 = some x117) : FOk EE 154 [sF 0 x1, I i2, I i3, I i4] [lR x1] (sF 1 x117) [lR x1, iO x117] := by
  unfold spec_blockers at h
  refine FOk_of_W 33 1 Tryz.func154 rfl rfl (Nat.le_of_ble_eq_true rfl) rfl (fun w X θ => ?_)
  refine Wsr ((Ws 1 [0] [0, 1, 2, 3] ⟨[(0, sF 0 x1), (1, I i2), (2, I i3), (3, I i4)], [lR x1]⟩ (Wnt ((W_seq (W_region ?_))))))
  refine Ws 2 [0, 1] [0, 1, 2, 3, 9] ⟨[(0, sF 0 x1), (1, I i2), (2, I i3), (3, I i4), (9, .one (.e (.sl 1 0 (([] : List Int).length))))], [lR x1, iO ([] : List Int)]⟩ (Wnt ((W_seq (Wsr ((Ws 1 [0, 1] [0, 1, 2, 3, 9, 10] ⟨[(0, sF 0 x1), (1, I i2), (2, I i3), (3, I i4), (9, .one (.e (.sl 1 0 (([] : List Int).length)))), (10, I 0)], [lR x1, iO ([] : List Int)]⟩ ?_))))))
  refine Wnt ((W_block (W_loop (bindO_e h (fun x196 hx196 h => (WL_cut (spec_blockers_L1_ok w X θ x1 i2 i3 i4 x196 n ([] : List Int) 0 hx196) ?_))))))
  rintro _ _ ⟨rfl, rfl⟩
  refine blockS_y (thenS_n (Wsr ((Ws 2 [0, 1] [8] ⟨[(8, sF 1 x196)], [lR x1, iO x196]⟩ (Wnt (?_))))))
  refine W_ret ?_
  cases h
  exact ⟨[0, 1], True, by kernel_rfl, trivial⟩

/- spec.grant -/
def spec_grant_L1 (i2 : Int) (i3 : Int) (i4 : Int) (x1 : List Lck) : Nat → Int → Option (((List Lck)) ⊕ (Unit))
| 0, _ => none
| n + 1, i165 =>
 iteO (decide (i165 < (((([] : List Lck) ++ ((x1.drop 0).take x1.length)).length : Nat) : Int)))
 (guardO (0 ≤ i165 ∧ i165 < (((([] : List Lck) ++ ((x1.drop 0).take x1.length)).length : Nat) : Int)) <|
 bindO (iteO (decide ((((([] : List Lck) ++ ((x1.drop 0).take x1.length)).getD i165.toNat dlck).who) = i2))
 (guardO (0 ≤ i165 ∧ i165 < (((([] : List Lck) ++ ((x1.drop 0).take x1.length)).length : Nat) : Int)) <|
 some (decide ((((([] : List Lck) ++ ((x1.drop 0).take x1.length)).getD i165.toNat dlck).node) = i3)))
 (some false)) fun b227 =>
 iteO b227
 (guardO (0 ≤ i165 ∧ i165 < (((([] : List Lck) ++ ((x1.drop 0).take x1.length)).length : Nat) : Int)) <|
 bindO (spec_joined (((([] : List Lck) ++ ((x1.drop 0).take x1.length)).getD i165.toNat dlck).mode) i4) fun i238 =>
 guardO (0 ≤ i165 ∧ i165 < (((([] : List Lck) ++ ((x1.drop 0).take x1.length)).length : Nat) : Int)) <|
 some (.inl ((([] : List Lck) ++ ((x1.drop 0).take x1.length)).set i165.toNat (⟨((([] : List Lck) ++ ((x1.drop 0).take x1.length)).getD i165.toNat dlck).who, ((([] : List Lck) ++ ((x1.drop 0).take x1.length)).getD i165.toNat dlck).node, i238⟩ : Lck))))
 (spec_grant_L1 i2 i3 i4 x1 n (w64 (i165 + 1))))
 (some (.inr ()))

theorem spec_grant_L1_ok (w : World) (X : Nat → Prop) (θ : List Loc) (i2 : Int) (i3 : Int) (i4 : Int) (x1 : List Lck) (v : ((List Lck)) ⊕ (Unit)) : ∀ (n : Nat) (i165 : Int), spec_grant_L1 i2 i3 i4 x1 n i165 = some v → WL EE ⟨w, X, θ, 55, 1⟩ (subC [1, 1, 0, 1, 4, 4] (bodyC Tryz.f156)) (fun (e : Exit) (s : St) => (match v with | (.inl x203) => e = .ret ∧ s = ⟨[(8, sF 1 x203)], [lR x1, lO x203]⟩ | (.inr _) => e = .exit 0 ∧ s = ⟨[(1, I i2), (2, I i3), (3, I i4), (9, .one (.e (.sl 1 0 ((([] : List Lck) ++ ((x1.drop 0).take x1.length)).length))))], [lR x1, .row .lck (([] : List Lck) ++ ((x1.drop 0).take x1.length)) true]⟩ : Prop)) ⟨[(1, I i2), (2, I i3), (3, I i4), (9, .one (.e (.sl 1 0 ((([] : List Lck) ++ ((x1.drop 0).take x1.length)).length)))), (10, I i165)], [lR x1, .row .lck (([] : List Lck) ++ ((x1.drop 0).take x1.length)) true]⟩ := by
  intro n
  induction n with
  | zero => intro _ h; exact none_e h
  | succ n ih =>
    intro i165 h
    rw [spec_grant_L1] at h
    refine WL_round ?_
    refine W_seq (Wsr ((Wp 4 [0, 1] [1, 2, 3, 9, 10, 17] T3 ⟨[(1, I i2), (2, I i3), (3, I i4), (9, .one (.e (.sl 1 0 ((([] : List Lck) ++ ((x1.drop 0).take x1.length)).length)))), (10, I i165), (17, B (decide (i165 < (((([] : List Lck) ++ ((x1.drop 0).take x1.length)).length : Nat) : Int))))], [lR x1, .row .lck (([] : List Lck) ++ ((x1.drop 0).take x1.length)) true]⟩ t3 (Wnt ((iteO_e h (fun hb206 h => W_true rfl hb206 ?_) (fun hb206 h => W_false rfl hb206 ?_)))))))
    ·refine Ww [0, 1] [1, 2, 3, 9, 10] ⟨[(1, I i2), (2, I i3), (3, I i4), (9, .one (.e (.sl 1 0 ((([] : List Lck) ++ ((x1.drop 0).take x1.length)).length)))), (10, I i165)], [lR x1, .row .lck (([] : List Lck) ++ ((x1.drop 0).take x1.length)) true]⟩ (W_skip (thenS_n (W_seq (W_block (Wsr ((guardO_e h (fun hg224 h => (Wp 8 [0, 1] [1, 2, 3, 9, 10, 27] ((0 ≤ i165 ∧ i165 < (((([] : List Lck) ++ ((x1.drop 0).take x1.length)).length : Nat) : Int)) ∧ T3) ⟨[(1, I i2), (2, I i3), (3, I i4), (9, .one (.e (.sl 1 0 ((([] : List Lck) ++ ((x1.drop 0).take x1.length)).length)))), (10, I i165), (27, B (decide ((((([] : List Lck) ++ ((x1.drop 0).take x1.length)).getD i165.toNat dlck).who) = i2)))], [lR x1, .row .lck (([] : List Lck) ++ ((x1.drop 0).take x1.length)) true]⟩ ⟨hg224, trivial, trivial, trivial⟩ (bindO_e h (fun b227 hv228 h => (WO_thru ⟨[(1, I i2), (2, I i3), (3, I i4), (9, .one (.e (.sl 1 0 ((([] : List Lck) ++ ((x1.drop 0).take x1.length)).length)))), (10, I i165), (35, B b227)], [lR x1, .row .lck (([] : List Lck) ++ ((x1.drop 0).take x1.length)) true]⟩ ?_ ?_))))))))))))
     ·refine iteO_e hv228 (fun hb229 hv228 => WO_known 27 true rfl hb229 ?_) (fun hb229 hv228 => WO_known 27 false rfl hb229 ?_)
      ·refine guardO_e hv228 (fun hg230 hv228 => (Wp 8 [0, 1] [1, 2, 3, 9, 10, 35] ((0 ≤ i165 ∧ i165 < (((([] : List Lck) ++ ((x1.drop 0).take x1.length)).length : Nat) : Int)) ∧ T3) ⟨[(1, I i2), (2, I i3), (3, I i4), (9, .one (.e (.sl 1 0 ((([] : List Lck) ++ ((x1.drop 0).take x1.length)).length)))), (10, I i165), (35, B (decide ((((([] : List Lck) ++ ((x1.drop 0).take x1.length)).getD i165.toNat dlck).node) = i3)))], [lR x1, .row .lck (([] : List Lck) ++ ((x1.drop 0).take x1.length)) true]⟩ ⟨hg230, trivial, trivial, trivial⟩ ?_))
       cases hv228
       exact WO_nil rfl ⟨rfl, rfl⟩
      ·refine Ws 8 [0, 1] [1, 2, 3, 9, 10, 35] ⟨[(1, I i2), (2, I i3), (3, I i4), (9, .one (.e (.sl 1 0 ((([] : List Lck) ++ ((x1.drop 0).take x1.length)).length)))), (10, I i165), (35, B false)], [lR x1, .row .lck (([] : List Lck) ++ ((x1.drop 0).take x1.length)) true]⟩ ?_
       cases hv228
       exact WO_nil rfl ⟨rfl, rfl⟩
     ·refine thenS_n (iteO_e h (fun hb236 h => W_true rfl hb236 ?_) (fun hb236 h => W_false rfl hb236 ?_))
      ·refine Wsr ((guardO_e h (fun hg237 h => (Wp 8 [0, 1] [9, 36, 37, 42, 43] ((0 ≤ i165 ∧ i165 < (((([] : List Lck) ++ ((x1.drop 0).take x1.length)).length : Nat) : Int)) ∧ T2) ⟨[(9, .one (.e (.sl 1 0 ((([] : List Lck) ++ ((x1.drop 0).take x1.length)).length)))), (36, .one (.e (.sl 1 0 ((([] : List Lck) ++ ((x1.drop 0).take x1.length)).length)))), (37, I i165), (42, I (((([] : List Lck) ++ ((x1.drop 0).take x1.length)).getD i165.toNat dlck).mode)), (43, I i4)], [lR x1, .row .lck (([] : List Lck) ++ ((x1.drop 0).take x1.length)) true]⟩ ⟨hg237, trivial, trivial⟩ (bindO_e h (fun i238 hc239 h => (Wc [] rfl rfl rfl Tryz.func155 rfl (spec_joined_ok (((([] : List Lck) ++ ((x1.drop 0).take x1.length)).getD i165.toNat dlck).mode) i4 i238 hc239) (trivial) rfl (guardO_e h (fun hg240 h => (Wp 3 [0, 1] [9] ((0 ≤ i165 ∧ i165 < (((([] : List Lck) ++ ((x1.drop 0).take x1.length)).length : Nat) : Int)) ∧ T2) ⟨[(9, .one (.e (.sl 1 0 ((([] : List Lck) ++ ((x1.drop 0).take x1.length)).length))))], [lR x1, .row .lck ((([] : List Lck) ++ ((x1.drop 0).take x1.length)).set i165.toNat (⟨((([] : List Lck) ++ ((x1.drop 0).take x1.length)).getD i165.toNat dlck).who, ((([] : List Lck) ++ ((x1.drop 0).take x1.length)).getD i165.toNat dlck).node, i238⟩ : Lck)) true]⟩ ⟨hg240, trivial, trivial⟩ (WO_eq (st' := ⟨[(9, .one (.e (.sl 1 0 (((([] : List Lck) ++ ((x1.drop 0).take x1.length)).set i165.toNat (⟨((([] : List Lck) ++ ((x1.drop 0).take x1.length)).getD i165.toNat dlck).who, ((([] : List Lck) ++ ((x1.drop 0).take x1.length)).getD i165.toNat dlck).node, i238⟩ : Lck)).length))))], [lR x1, .row .lck ((([] : List Lck) ++ ((x1.drop 0).take x1.length)).set i165.toNat (⟨((([] : List Lck) ++ ((x1.drop 0).take x1.length)).getD i165.toNat dlck).who, ((([] : List Lck) ++ ((x1.drop 0).take x1.length)).getD i165.toNat dlck).node, i238⟩ : Lck)) true]⟩) (by simp only [sF, List.length_set]) (Wnt ((Wsr ((Ws 2 [0, 1] [8] ⟨[(8, .one (.e (.sl 1 0 (((([] : List Lck) ++ ((x1.drop 0).take x1.length)).set i165.toNat (⟨((([] : List Lck) ++ ((x1.drop 0).take x1.length)).getD i165.toNat dlck).who, ((([] : List Lck) ++ ((x1.drop 0).take x1.length)).getD i165.toNat dlck).node, i238⟩ : Lck)).length))))], [lR x1, .row .lck ((([] : List Lck) ++ ((x1.drop 0).take x1.length)).set i165.toNat (⟨((([] : List Lck) ++ ((x1.drop 0).take x1.length)).getD i165.toNat dlck).who, ((([] : List Lck) ++ ((x1.drop 0).take x1.length)).getD i165.toNat dlck).node, i238⟩ : Lck)) true]⟩ (Wnt ((W_ret (blockS_r (thenS_r (thenS_r ?_))))))))))))))))))))))
       cases h
       exact aI rfl rfl
      ·refine Ww [0, 1] [1, 2, 3, 9, 10] ⟨[(1, I i2), (2, I i3), (3, I i4), (9, .one (.e (.sl 1 0 ((([] : List Lck) ++ ((x1.drop 0).take x1.length)).length)))), (10, I i165)], [lR x1, .row .lck (([] : List Lck) ++ ((x1.drop 0).take x1.length)) true]⟩ (W_skip (blockS_n (thenS_n (W_region (Wp 3 [0, 1] [1, 2, 3, 9, 10] T2 ⟨[(1, I i2), (2, I i3), (3, I i4), (9, .one (.e (.sl 1 0 ((([] : List Lck) ++ ((x1.drop 0).take x1.length)).length)))), (10, I (w64 (i165 + 1)))], [lR x1, .row .lck (([] : List Lck) ++ ((x1.drop 0).take x1.length)) true]⟩ t2 (Wnt (?_)))))))
       exact ih _ h
    ·refine Ww [0, 1] [1, 2, 3, 9] ⟨[(1, I i2), (2, I i3), (3, I i4), (9, .one (.e (.sl 1 0 ((([] : List Lck) ++ ((x1.drop 0).take x1.length)).length))))], [lR x1, .row .lck (([] : List Lck) ++ ((x1.drop 0).take x1.length)) true]⟩ (W_exit (thenS_e (thenS_e ?_)))
     cases h
     exact aI rfl rfl

def spec_grant (n : Nat) (x1 : List Lck) (i2 : Int) (i3 : Int) (i4 : Int) : Option ((List Lck)) :=
 guardO (0 = 0 ∧ ([] : List Lck).length = ([] : List Lck).length ∧ ([] : List Lck).length + ((x1.drop 0).take x1.length).length ≤ 1099511627776) <|
 bindO (spec_grant_L1 i2 i3 i4 x1 n 0) fun v241 =>
 match v241 with
 | (.inl x203) => (some x203)
 | (.inr _) => (guardO (0 = 0 ∧ (([] : List Lck) ++ ((x1.drop 0).take x1.length)).length = (([] : List Lck) ++ ((x1.drop 0).take x1.length)).length ∧ (([] : List Lck) ++ ((x1.drop 0).take x1.length)).length + (([(⟨i2, i3, i4⟩ : Lck)].drop 0).take ([(⟨i2, i3, i4⟩ : Lck)].length)).length ≤ 1099511627776) <|
 some ((([] : List Lck) ++ ((x1.drop 0).take x1.length)) ++ (([(⟨i2, i3, i4⟩ : Lck)].drop 0).take ([(⟨i2, i3, i4⟩ : Lck)].length))))


theorem spec_grant_ok (n : Nat) (x1 : List Lck) (i2 : Int) (i3 : Int) (i4 : Int) (x123 : List Lck) (h : spec_grant n x1 i2 i3 i4 = some x123) : FOk EE 156 [sF 0 x1, I i2, I i3, I i4] [lR x1] (sF 1 x123) [lR x1, lO x123] := by
  unfold spec_grant at h
  refine FOk_of_W 55 1 Tryz.func156 rfl rfl (Nat.le_of_ble_eq_true rfl) rfl (fun w X θ => ?_)
  refine Wsr ((Ws 1 [0] [0, 1, 2, 3] ⟨[(0, sF 0 x1), (1, I i2), (2, I i3), (3, I i4)], [lR x1]⟩ (Wnt ((W_seq (W_region ?_))))))
  refine guardO_e h (fun hg124 h => (Wp 4 [0, 2] [1, 2, 3, 9] ((0 = 0 ∧ ([] : List Lck).length = ([] : List Lck).length ∧ ([] : List Lck).length + ((x1.drop 0).take x1.length).length ≤ 1099511627776) ∧ True) ⟨[(1, I i2), (2, I i3), (3, I i4), (9, .one (.e (.sl 1 0 ((([] : List Lck) ++ ((x1.drop 0).take x1.length)).length))))], [lR x1, .row .lck (([] : List Lck) ++ ((x1.drop 0).take x1.length)) true]⟩ ⟨hg124, trivial⟩ (Wnt ((W_seq (W_seq (W_region ?_)))))))
  refine Ws 1 [0, 1] [1, 2, 3, 9, 10] ⟨[(1, I i2), (2, I i3), (3, I i4), (9, .one (.e (.sl 1 0 ((([] : List Lck) ++ ((x1.drop 0).take x1.length)).length)))), (10, I 0)], [lR x1, .row .lck (([] : List Lck) ++ ((x1.drop 0).take x1.length)) true]⟩ (Wnt ((W_block (W_loop (bindO_e h (fun v241 hv241 h => (WL_cut (spec_grant_L1_ok w X θ i2 i3 i4 x1 v241 n 0 hv241) ?_)))))))
  rcases v241 with x203 | _
  ·rintro _ _ ⟨rfl, rfl⟩
   refine blockS_r (thenS_r ?_)
   cases h
   exact ⟨[0, 1], True, by kernel_rfl, trivial⟩
  ·rintro _ _ ⟨rfl, rfl⟩
   refine blockS_y (thenS_n (Wsr ((guardO_e h (fun hg242 h => (Wp 8 [0, 3] [8] ((0 = 0 ∧ (([] : List Lck) ++ ((x1.drop 0).take x1.length)).length = (([] : List Lck) ++ ((x1.drop 0).take x1.length)).length ∧ (([] : List Lck) ++ ((x1.drop 0).take x1.length)).length + (([(⟨i2, i3, i4⟩ : Lck)].drop 0).take ([(⟨i2, i3, i4⟩ : Lck)].length)).length ≤ 1099511627776) ∧ True) ⟨[(8, .one (.e (.sl 1 0 (((([] : List Lck) ++ ((x1.drop 0).take x1.length)) ++ (([(⟨i2, i3, i4⟩ : Lck)].drop 0).take ([(⟨i2, i3, i4⟩ : Lck)].length))).length))))], [lR x1, .row .lck ((([] : List Lck) ++ ((x1.drop 0).take x1.length)) ++ (([(⟨i2, i3, i4⟩ : Lck)].drop 0).take ([(⟨i2, i3, i4⟩ : Lck)].length))) true]⟩ ⟨hg242, trivial⟩ (Wnt ((W_ret ?_)))))))))
   cases h
   exact ⟨[0, 1], True, by kernel_rfl, trivial⟩

/- spec.TakeLock -/
def spec_TakeLock (n : Nat) (x1 : List Lck) (i2 : Int) (i3 : Int) (i4 : Int) : Option ((List Lck) × Bool) :=
 bindO (spec_validAsk n x1 i2 i3 i4) fun b29 =>
 bindO (iteO (!b29)
 (some true)
 (bindO (spec_held n x1 i2 i3) fun i41 =>
 bindO (spec_joined i41 i4) fun i43 =>
 bindO (spec_blockers n x1 i2 i3 i43) fun x45 =>
 some (decide (0 < ((x45.length : Nat) : Int))))) fun b38 =>
 iteO b38
 (some (([] : List Lck), false))
 (bindO (spec_grant n x1 i2 i3 i4) fun x49 =>
 some (x49, true))

theorem spec_TakeLock_ok (n : Nat) (x1 : List Lck) (i2 : Int) (i3 : Int) (i4 : Int) (x27 : List Lck) (b28 : Bool) (h : spec_TakeLock n x1 i2 i3 i4 = some (x27, b28)) : FOk EE 127 [sF 0 x1, I i2, I i3, I i4] [lR x1] (.tup [.e (.sl 1 0 x27.length), .e (cB b28)]) [lR x1, lO x27] := by
  unfold spec_TakeLock at h
  refine FOk_of_W 35 1 Tryz.func127 rfl rfl (Nat.le_of_ble_eq_true rfl) rfl (fun w X θ => ?_)
  refine Wsr ((Ws 2 [0] [0, 1, 2, 3] ⟨[(0, sF 0 x1), (1, I i2), (2, I i3), (3, I i4)], [lR x1]⟩ (Wnt ((W_seq (W_seq ?_))))))
  refine W_region (Ws 4 [0] [0, 1, 2, 3, 10, 11, 12, 13] ⟨[(0, sF 0 x1), (1, I i2), (2, I i3), (3, I i4), (10, sF 0 x1), (11, I i2), (12, I i3), (13, I i4)], [lR x1]⟩ (bindO_e h (fun b29 hc30 h => (Wc [.ro 0] rfl rfl rfl Tryz.func153 rfl (spec_validAsk_ok n x1 i2 i3 i4 b29 hc30) (aI (aI rfl rfl) (trivial)) rfl (Ws 2 [0] [0, 1, 2, 3, 16] ⟨[(0, sF 0 x1), (1, I i2), (2, I i3), (3, I i4), (16, B (!b29))], [lR x1]⟩ (bindO_e h (fun b38 hv39 h => (WO_thru ⟨[(0, sF 0 x1), (1, I i2), (2, I i3), (3, I i4), (29, B b38)], [lR x1]⟩ ?_ ?_))))))))
  ·refine iteO_e hv39 (fun hb40 hv39 => WO_known 16 true rfl hb40 ?_) (fun hb40 hv39 => WO_known 16 false rfl hb40 ?_)
   ·refine Ws 13 [0] [0, 1, 2, 3, 29] ⟨[(0, sF 0 x1), (1, I i2), (2, I i3), (3, I i4), (29, B true)], [lR x1]⟩ ?_
    cases hv39
    exact WO_nil rfl ⟨rfl, rfl⟩
   ·refine Ws 6 [0] [0, 1, 2, 3, 16, 17, 18, 19, 20, 21, 22] ⟨[(0, sF 0 x1), (1, I i2), (2, I i3), (3, I i4), (16, B false), (17, sF 0 x1), (18, I i2), (19, I i3), (20, sF 0 x1), (21, I i2), (22, I i3)], [lR x1]⟩ (bindO_e hv39 (fun i41 hc42 hv39 => (Wc [.ro 0] rfl rfl rfl Tryz.func125 rfl (spec_held_ok n x1 i2 i3 i41 hc42) (aI (aI rfl rfl) (trivial)) rfl (Ws 1 [0] [0, 1, 2, 3, 16, 17, 18, 19, 23, 24] ⟨[(0, sF 0 x1), (1, I i2), (2, I i3), (3, I i4), (16, B false), (17, sF 0 x1), (18, I i2), (19, I i3), (23, I i41), (24, I i4)], [lR x1]⟩ (bindO_e hv39 (fun i43 hc44 hv39 => (Wc [] rfl rfl rfl Tryz.func155 rfl (spec_joined_ok i41 i4 i43 hc44) (trivial) rfl (Wb [0] [0, 1, 2, 3, 16, 17, 18, 19, 25] ⟨[(0, sF 0 x1), (1, I i2), (2, I i3), (3, I i4), (16, B false), (17, sF 0 x1), (18, I i2), (19, I i3), (25, I i43)], [lR x1]⟩ (bindO_e hv39 (fun x45 hc46 hv39 => (Wc [.ro 0] rfl rfl rfl Tryz.func154 rfl (spec_blockers_ok n x1 i2 i3 i43 x45 hc46) (aI (aI rfl rfl) (trivial)) rfl (Wp 3 [0] [0, 1, 2, 3, 29] T3 ⟨[(0, sF 0 x1), (1, I i2), (2, I i3), (3, I i4), (29, B (decide (0 < (lI x45))))], [lR x1]⟩ t3 ?_))))))))))))
    cases hv39
    exact WO_nil rfl ⟨rfl, rfl⟩
  ·refine thenS_n (iteO_e h (fun hb48 h => W_true rfl hb48 ?_) (fun hb48 h => W_false rfl hb48 ?_))
   ·refine Wsr ((Ws 2 [0] [8, 9] ⟨[(8, .one (.e (.nsl))), (9, B false)], [lR x1]⟩ (WO_nilrow 8 .lck rfl (Wb [0, 1] [8, 9] ⟨[(8, .one (.e (.sl 1 0 (([] : List Lck).length)))), (9, B false)], [lR x1, lO ([] : List Lck)]⟩ (Wnt ((W_ret (thenS_r ?_))))))))
    cases h
    exact ⟨[0, 1], True, by kernel_rfl, trivial⟩
   ·refine Ww [0] [0, 1, 2, 3] ⟨[(0, sF 0 x1), (1, I i2), (2, I i3), (3, I i4)], [lR x1]⟩ (W_skip (thenS_n (Wsr ((Ws 4 [0] [30, 31, 32, 33] ⟨[(30, sF 0 x1), (31, I i2), (32, I i3), (33, I i4)], [lR x1]⟩ (bindO_e h (fun x49 hc50 h => (Wc [.ro 0] rfl rfl rfl Tryz.func156 rfl (spec_grant_ok n x1 i2 i3 i4 x49 hc50) (aI (aI rfl rfl) (trivial)) rfl (Ws 2 [0, 1] [8, 9] ⟨[(8, sF 1 x49), (9, B true)], [lR x1, lO x49]⟩ (Wnt ((W_ret ?_))))))))))))
    cases h
    exact ⟨[0, 1], True, by kernel_rfl, trivial⟩

/- spec.takeAll -/
def spec_takeAll_L1 (x2 : List Lck) (x1 : List Lck) : Nat → (List Lck) → Int → Option ((Unit) ⊕ ((List Lck)))
| 0, _, _ => none
| n + 1, x143, i144 =>
 iteO (decide (i144 < ((x2.length : Nat) : Int)))
 (guardO (0 ≤ i144 ∧ i144 < ((x2.length : Nat) : Int)) <|
 guardO (0 ≤ i144 ∧ i144 < ((x2.length : Nat) : Int)) <|
 guardO (0 ≤ i144 ∧ i144 < ((x2.length : Nat) : Int)) <|
 bindO (spec_TakeLock n x143 ((x2.getD i144.toNat dlck).who) ((x2.getD i144.toNat dlck).node) ((x2.getD i144.toNat dlck).mode)) fun (x183, b184) =>
 iteO (!b184)
 (some (.inl ()))
 (spec_takeAll_L1 x2 x1 n x183 (w64 (i144 + 1))))
 (some (.inr x143))

theorem spec_takeAll_L1_ok (w : World) (X : Nat → Prop) (θ : List Loc) (x2 : List Lck) (x1 : List Lck) (v : (Unit) ⊕ ((List Lck))) : ∀ (n : Nat) (x143 : List Lck) (i144 : Int), spec_takeAll_L1 x2 x1 n x143 i144 = some v → WL EE ⟨w, X, θ, 41, 2⟩ (subC [1, 0, 1, 4, 4] (bodyC Tryz.f93)) (fun (e : Exit) (s : St) => (match v with | (.inl _) => e = .ret ∧ s = ⟨[(4, .one (.e (.sl 2 0 (([] : List Lck).length)))), (5, B false)], [lR x1, lR x2, lO ([] : List Lck)]⟩ | (.inr x167) => e = .exit 0 ∧ s = ⟨[(0, sF 2 x167)], [lR x1, lR x2, lO x167]⟩ : Prop)) ⟨[(0, sF 2 x143), (1, sF 1 x2), (6, I i144)], [lR x1, lR x2, lO x143]⟩ := by
  intro n
  induction n with
  | zero => intro _ _ h; exact none_e h
  | succ n ih =>
    intro x143 i144 h
    rw [spec_takeAll_L1] at h
    refine WL_round ?_
    refine W_seq (Wsr ((Wp 4 [0, 1, 2] [0, 1, 6, 12] T3 ⟨[(0, sF 2 x143), (1, sF 1 x2), (6, I i144), (12, B (decide (i144 < (lI x2))))], [lR x1, lR x2, lO x143]⟩ t3 (Wnt ((iteO_e h (fun hb170 h => W_true rfl hb170 ?_) (fun hb170 h => W_false rfl hb170 ?_)))))))
    ·refine Ww [0, 1, 2] [0, 1, 6] ⟨[(0, sF 2 x143), (1, sF 1 x2), (6, I i144)], [lR x1, lR x2, lO x143]⟩ (W_skip (thenS_n (W_seq (W_block (W_seq (guardO_e h (fun hg180 h => (guardO_e h (fun hg181 h => (guardO_e h (fun hg182 h => (bindO_e h (fun v186 hc185 h => ?_)))))))))))))
     obtain ⟨x183, b184⟩ := v186
     refine W_cut (Q' := fun (e : Exit) (s : St) => e = .normal ∧ s = ⟨[(1, sF 1 x2), (6, I i144), (7, sF 2 x183), (8, B b184)], [lR x1, lR x2, lO x183]⟩) ?_ ?_
     ·refine W_draw [] false (by kernel_rfl) (by kernel_rfl) (WD_takeQ [0, 1, 2, 3, 4, 5, 6, 7, 8, 9, 10, 11, 12, 13, 14, 15] [1, 6, 16, 21, 26, 31] [1, 6, 16, 21, 26, 31] (φ := ((0 ≤ i144 ∧ i144 < (lI x2)) ∧ (0 ≤ i144 ∧ i144 < (lI x2)) ∧ (True ∧ True ∧ ((0 ≤ i144 ∧ i144 < (lI x2)) ∧ (0 ≤ i144 ∧ i144 < (lI x2)) ∧ (True ∧ True ∧ ((0 ≤ i144 ∧ i144 < (lI x2)) ∧ (0 ≤ i144 ∧ i144 < (lI x2)) ∧ (True ∧ True ∧ True))))))) (ls' := (tf true [16, 6])) (st' := ⟨[(1, sF 1 x2), (6, I i144), (16, sF 2 x143), (21, I ((x2.getD i144.toNat dlck).who)), (26, I ((x2.getD i144.toNat dlck).node)), (31, I ((x2.getD i144.toNat dlck).mode))], [lR x1, lR x2, lO x143]⟩) (n2 := 6) (by kernel_rfl) ⟨hg180, hg180, trivial, trivial, hg181, hg181, trivial, trivial, hg182, hg182, trivial, trivial, trivial⟩ rfl (WD_all [16] (n := 5) (by kernel_rfl) rfl (WM_call [.ro 2] Tryz.f127 rfl rfl (by kernel_rfl) Tryz.func127 rfl (by kernel_rfl) (spec_TakeLock_ok n x143 ((x2.getD i144.toNat dlck).who) ((x2.getD i144.toNat dlck).node) ((x2.getD i144.toNat dlck).mode) x183 b184 hc185) (aI (aI rfl rfl) (trivial)) rfl (aI rfl (aI rfl (aI rfl (trivial)))) (WD_all [17] (n := 4) (by kernel_rfl) rfl (WM_op (φ := True) (v := .tup [.e (.sl 3 0 x183.length), .e (cB b184)]) (H' := [lR x1, lR x2, lO x143, lO x183]) rfl rfl (by kernel_rfl) trivial rfl (aI rfl (aI rfl (aI rfl (trivial)))) (WD_all [18, 19] (n := 3) (by kernel_rfl) rfl (aI ?_ (?_))))))))
      ·refine WM_op (φ := True) (v := sF 3 x183) (H' := [lR x1, lR x2, lO x143, lO x183]) rfl rfl (by kernel_rfl) trivial rfl (aI rfl (aI rfl (aI rfl (trivial)))) (WD_all [19, 20] (n := 2) (by kernel_rfl) rfl (aI ?_ (?_)))
       ·refine WM_op (φ := True) (v := B b184) (H' := [lR x1, lR x2, lO x143, lO x183]) rfl rfl (by kernel_rfl) trivial rfl (aI rfl (aI rfl (aI rfl (trivial)))) (WD_all [20] (n := 1) (by kernel_rfl) rfl (WM_op (φ := True) (v := sF 3 x183) (H' := [lR x1, lR x2, lO x143, lO x183]) rfl rfl (by kernel_rfl) trivial rfl (aI rfl (aI rfl (aI rfl (trivial)))) (WD_takeK [21] [1, 6, 8] [1, 6, 7, 8] (φ := True) (ls' := (tf true [22])) (Ts' := [(1, sF 1 x2), (6, I i144), (8, B b184)]) (st' := ⟨[(1, sF 1 x2), (6, I i144), (7, sF 3 x183), (8, B b184)], [lR x1, lR x2, lO x143, lO x183]⟩) (n2 := 0) (by kernel_rfl) trivial rfl ?_)))
        exact WD_done [0, 1, 3] [1, 6, 7, 8] (st' := ⟨[(1, sF 1 x2), (6, I i144), (7, sF 2 x183), (8, B b184)], [lR x1, lR x2, lO x183]⟩) (by kernel_rfl) (by kernel_rfl) (aI rfl rfl)
       ·refine WM_op (φ := True) (v := sF 3 x183) (H' := [lR x1, lR x2, lO x143, lO x183]) rfl rfl (by kernel_rfl) trivial rfl (aI rfl (aI rfl (aI rfl (trivial)))) (WD_all [19] (n := 1) (by kernel_rfl) rfl (WM_op (φ := True) (v := B b184) (H' := [lR x1, lR x2, lO x143, lO x183]) rfl rfl (by kernel_rfl) trivial rfl (aI rfl (aI rfl (aI rfl (trivial)))) (WD_takeK [21] [1, 6, 8] [1, 6, 7, 8] (φ := True) (ls' := (tf true [22])) (Ts' := [(1, sF 1 x2), (6, I i144), (8, B b184)]) (st' := ⟨[(1, sF 1 x2), (6, I i144), (7, sF 3 x183), (8, B b184)], [lR x1, lR x2, lO x143, lO x183]⟩) (n2 := 0) (by kernel_rfl) trivial rfl ?_)))
        exact WD_done [0, 1, 3] [1, 6, 7, 8] (st' := ⟨[(1, sF 1 x2), (6, I i144), (7, sF 2 x183), (8, B b184)], [lR x1, lR x2, lO x183]⟩) (by kernel_rfl) (by kernel_rfl) (aI rfl rfl)
      ·refine WM_op (φ := True) (v := B b184) (H' := [lR x1, lR x2, lO x143, lO x183]) rfl rfl (by kernel_rfl) trivial rfl (aI rfl (aI rfl (aI rfl (trivial)))) (WD_all [18] (n := 2) (by kernel_rfl) rfl (WM_op (φ := True) (v := sF 3 x183) (H' := [lR x1, lR x2, lO x143, lO x183]) rfl rfl (by kernel_rfl) trivial rfl (aI rfl (aI rfl (aI rfl (trivial)))) (WD_all [20] (n := 1) (by kernel_rfl) rfl (WM_op (φ := True) (v := sF 3 x183) (H' := [lR x1, lR x2, lO x143, lO x183]) rfl rfl (by kernel_rfl) trivial rfl (aI rfl (aI rfl (aI rfl (trivial)))) (WD_takeK [21] [1, 6, 8] [1, 6, 7, 8] (φ := True) (ls' := (tf true [22])) (Ts' := [(1, sF 1 x2), (6, I i144), (8, B b184)]) (st' := ⟨[(1, sF 1 x2), (6, I i144), (7, sF 3 x183), (8, B b184)], [lR x1, lR x2, lO x143, lO x183]⟩) (n2 := 0) (by kernel_rfl) trivial rfl ?_)))))
       exact WD_done [0, 1, 3] [1, 6, 7, 8] (st' := ⟨[(1, sF 1 x2), (6, I i144), (7, sF 2 x183), (8, B b184)], [lR x1, lR x2, lO x183]⟩) (by kernel_rfl) (by kernel_rfl) (aI rfl rfl)
     ·rintro _ _ ⟨rfl, rfl⟩
      refine thenS_n (W_seq (Wsr ((Ws 2 [0, 1, 2] [1, 6, 7, 36] ⟨[(1, sF 1 x2), (6, I i144), (7, sF 2 x183), (36, B (!b184))], [lR x1, lR x2, lO x183]⟩ (Wnt ((iteO_e h (fun hb188 h => W_true rfl hb188 ?_) (fun hb188 h => W_false rfl hb188 ?_))))))))
      ·refine Wsr ((Ws 2 [0, 1] [4, 5] ⟨[(4, .one (.e (.nsl))), (5, B false)], [lR x1, lR x2]⟩ (WO_nilrow 4 .lck rfl (Wb [0, 1, 2] [4, 5] ⟨[(4, .one (.e (.sl 2 0 (([] : List Lck).length)))), (5, B false)], [lR x1, lR x2, lO ([] : List Lck)]⟩ (Wnt ((W_ret (thenS_r (blockS_r (thenS_r (thenS_r ?_)))))))))))
       cases h
       exact aI rfl rfl
      ·refine Ww [0, 1, 2] [1, 6, 7] ⟨[(1, sF 1 x2), (6, I i144), (7, sF 2 x183)], [lR x1, lR x2, lO x183]⟩ (W_skip (thenS_n (W_region (Ws 2 [0, 1, 2] [0, 1, 6] ⟨[(0, sF 2 x183), (1, sF 1 x2), (6, I i144)], [lR x1, lR x2, lO x183]⟩ (WO_nil rfl (blockS_n (thenS_n (W_region (Wp 3 [0, 1, 2] [0, 1, 6] T2 ⟨[(0, sF 2 x183), (1, sF 1 x2), (6, I (w64 (i144 + 1)))], [lR x1, lR x2, lO x183]⟩ t2 (Wnt (?_)))))))))))
       exact ih _ _ h
    ·refine Ww [0, 1, 2] [0] ⟨[(0, sF 2 x143)], [lR x1, lR x2, lO x143]⟩ (W_exit (thenS_e (thenS_e ?_)))
     cases h
     exact aI rfl rfl

def spec_takeAll (n : Nat) (x1 : List Lck) (x2 : List Lck) : Option ((List Lck) × Bool) :=
 bindO (iteO (decide (0 < ((x2.length : Nat) : Int)))
 (guardO (0 ≤ (0 : Int) ∧ (0 : Int) < ((x2.length : Nat) : Int)) <|
 guardO (0 ≤ (0 : Int) ∧ (0 : Int) < ((x2.length : Nat) : Int)) <|
 guardO (0 ≤ (0 : Int) ∧ (0 : Int) < ((x2.length : Nat) : Int)) <|
 bindO (spec_TakeLock n x1 ((x2.getD 0 dlck).who) ((x2.getD 0 dlck).node) ((x2.getD 0 dlck).mode)) fun (x137, b138) =>
 iteO (!b138)
 (some (.inl ()))
 (bindO (spec_takeAll_L1 x2 x1 n x137 (w64 (0 + 1))) fun v189 =>
 match v189 with
 | (.inl _) => (some (.inl ()))
 | (.inr x167) => (some (.inr (.inl x167)))
))
 (some (.inr (.inr ()))) : Option ((Unit) ⊕ (((List Lck)) ⊕ (Unit)))) fun v122 =>
 match v122 with
 | (.inl _) => (some (([] : List Lck), false))
 | (.inr (.inl x121)) => (guardO (0 = 0 ∧ ([] : List Lck).length = ([] : List Lck).length ∧ ([] : List Lck).length + ((x121.drop 0).take x121.length).length ≤ 1099511627776) <|
 some ((([] : List Lck) ++ ((x121.drop 0).take x121.length)), true))
 | (.inr (.inr _)) => (guardO (0 = 0 ∧ ([] : List Lck).length = ([] : List Lck).length ∧ ([] : List Lck).length + ((x1.drop 0).take x1.length).length ≤ 1099511627776) <|
 some ((([] : List Lck) ++ ((x1.drop 0).take x1.length)), true))


theorem spec_takeAll_ok (n : Nat) (x1 : List Lck) (x2 : List Lck) (x73 : List Lck) (b74 : Bool) (h : spec_takeAll n x1 x2 = some (x73, b74)) : FOk EE 93 [sF 0 x1, sF 1 x2] [lR x1, lR x2] (.tup [.e (.sl 2 0 x73.length), .e (cB b74)]) [lR x1, lR x2, lO x73] := by
  unfold spec_takeAll at h
  refine FOk_of_W 41 2 Tryz.func93 rfl rfl (Nat.le_of_ble_eq_true rfl) rfl (fun w X θ => ?_)
  refine Wsr ((Ws 2 [0, 1] [0, 1] ⟨[(0, sF 0 x1), (1, sF 1 x2)], [lR x1, lR x2]⟩ (Wnt ((W_seq (W_seq ?_))))))
  refine W_region (Ws 1 [0, 1] [0, 1, 6] ⟨[(0, sF 0 x1), (1, sF 1 x2), (6, I 0)], [lR x1, lR x2]⟩ (Wnt ((bindO_e h (fun v122 hv122 h => (W_cut (Q' := fun (e : Exit) (s : St) => (match v122 with | (.inl _) => e = .ret ∧ s = ⟨[(4, .one (.e (.sl 2 0 (([] : List Lck).length)))), (5, B false)], [lR x1, lR x2, lO ([] : List Lck)]⟩ | (.inr (.inl x121)) => e = .normal ∧ s = ⟨[(0, sF 2 x121)], [lR x1, lR x2, lO x121]⟩ | (.inr (.inr _)) => e = .normal ∧ s = ⟨[(0, sF 0 x1)], [lR x1, lR x2]⟩ : Prop)) ?_ ?_))))))
  ·refine W_block (W_loop (WL_round (W_seq (Wsr ((Wp 4 [0, 1] [0, 1, 6, 12] T3 ⟨[(0, sF 0 x1), (1, sF 1 x2), (6, I 0), (12, B (decide (0 < (lI x2))))], [lR x1, lR x2]⟩ t3 (Wnt ((iteO_e hv122 (fun hb124 hv122 => W_true rfl hb124 ?_) (fun hb124 hv122 => W_false rfl hb124 ?_))))))))))
   ·refine Ww [0, 1] [0, 1, 6] ⟨[(0, sF 0 x1), (1, sF 1 x2), (6, I 0)], [lR x1, lR x2]⟩ (W_skip (thenS_n (W_seq (W_block (W_seq (guardO_e hv122 (fun hg134 hv122 => (guardO_e hv122 (fun hg135 hv122 => (guardO_e hv122 (fun hg136 hv122 => (bindO_e hv122 (fun v140 hc139 hv122 => ?_)))))))))))))
    obtain ⟨x137, b138⟩ := v140
    refine W_cut (Q' := fun (e : Exit) (s : St) => e = .normal ∧ s = ⟨[(1, sF 1 x2), (6, I 0), (7, sF 2 x137), (8, B b138)], [lR x1, lR x2, lO x137]⟩) ?_ ?_
    ·refine W_draw [] false (by kernel_rfl) (by kernel_rfl) (WD_takeQ [0, 1, 2, 3, 4, 5, 6, 7, 8, 9, 10, 11, 12, 13, 14, 15] [1, 6, 16, 21, 26, 31] [1, 6, 16, 21, 26, 31] (φ := ((0 ≤ (0 : Int) ∧ (0 : Int) < (lI x2)) ∧ (0 ≤ (0 : Int) ∧ (0 : Int) < (lI x2)) ∧ (True ∧ True ∧ ((0 ≤ (0 : Int) ∧ (0 : Int) < (lI x2)) ∧ (0 ≤ (0 : Int) ∧ (0 : Int) < (lI x2)) ∧ (True ∧ True ∧ ((0 ≤ (0 : Int) ∧ (0 : Int) < (lI x2)) ∧ (0 ≤ (0 : Int) ∧ (0 : Int) < (lI x2)) ∧ (True ∧ True ∧ True))))))) (ls' := (tf true [16, 6])) (st' := ⟨[(1, sF 1 x2), (6, I 0), (16, sF 0 x1), (21, I ((x2.getD 0 dlck).who)), (26, I ((x2.getD 0 dlck).node)), (31, I ((x2.getD 0 dlck).mode))], [lR x1, lR x2]⟩) (n2 := 6) (by kernel_rfl) ⟨hg134, hg134, trivial, trivial, hg135, hg135, trivial, trivial, hg136, hg136, trivial, trivial, trivial⟩ rfl (WD_all [16] (n := 5) (by kernel_rfl) rfl (WM_call [.ro 0] Tryz.f127 rfl rfl (by kernel_rfl) Tryz.func127 rfl (by kernel_rfl) (spec_TakeLock_ok n x1 ((x2.getD 0 dlck).who) ((x2.getD 0 dlck).node) ((x2.getD 0 dlck).mode) x137 b138 hc139) (aI (aI rfl rfl) (trivial)) rfl (aI rfl (aI rfl (trivial))) (WD_all [17] (n := 4) (by kernel_rfl) rfl (WM_op (φ := True) (v := .tup [.e (.sl 2 0 x137.length), .e (cB b138)]) (H' := [lR x1, lR x2, lO x137]) rfl rfl (by kernel_rfl) trivial rfl (aI rfl (aI rfl (trivial))) (WD_all [18, 19] (n := 3) (by kernel_rfl) rfl (aI ?_ (?_))))))))
     ·refine WM_op (φ := True) (v := sF 2 x137) (H' := [lR x1, lR x2, lO x137]) rfl rfl (by kernel_rfl) trivial rfl (aI rfl (aI rfl (trivial))) (WD_all [19, 20] (n := 2) (by kernel_rfl) rfl (aI ?_ (?_)))
      ·refine WM_op (φ := True) (v := B b138) (H' := [lR x1, lR x2, lO x137]) rfl rfl (by kernel_rfl) trivial rfl (aI rfl (aI rfl (trivial))) (WD_all [20] (n := 1) (by kernel_rfl) rfl (WM_op (φ := True) (v := sF 2 x137) (H' := [lR x1, lR x2, lO x137]) rfl rfl (by kernel_rfl) trivial rfl (aI rfl (aI rfl (trivial))) (WD_takeK [21] [1, 6, 8] [1, 6, 7, 8] (φ := True) (ls' := (tf true [22])) (Ts' := [(1, sF 1 x2), (6, I 0), (8, B b138)]) (st' := ⟨[(1, sF 1 x2), (6, I 0), (7, sF 2 x137), (8, B b138)], [lR x1, lR x2, lO x137]⟩) (n2 := 0) (by kernel_rfl) trivial rfl ?_)))
       exact WD_done [0, 1, 2] [1, 6, 7, 8] (st' := ⟨[(1, sF 1 x2), (6, I 0), (7, sF 2 x137), (8, B b138)], [lR x1, lR x2, lO x137]⟩) (by kernel_rfl) (by kernel_rfl) (aI rfl rfl)
      ·refine WM_op (φ := True) (v := sF 2 x137) (H' := [lR x1, lR x2, lO x137]) rfl rfl (by kernel_rfl) trivial rfl (aI rfl (aI rfl (trivial))) (WD_all [19] (n := 1) (by kernel_rfl) rfl (WM_op (φ := True) (v := B b138) (H' := [lR x1, lR x2, lO x137]) rfl rfl (by kernel_rfl) trivial rfl (aI rfl (aI rfl (trivial))) (WD_takeK [21] [1, 6, 8] [1, 6, 7, 8] (φ := True) (ls' := (tf true [22])) (Ts' := [(1, sF 1 x2), (6, I 0), (8, B b138)]) (st' := ⟨[(1, sF 1 x2), (6, I 0), (7, sF 2 x137), (8, B b138)], [lR x1, lR x2, lO x137]⟩) (n2 := 0) (by kernel_rfl) trivial rfl ?_)))
       exact WD_done [0, 1, 2] [1, 6, 7, 8] (st' := ⟨[(1, sF 1 x2), (6, I 0), (7, sF 2 x137), (8, B b138)], [lR x1, lR x2, lO x137]⟩) (by kernel_rfl) (by kernel_rfl) (aI rfl rfl)
     ·refine WM_op (φ := True) (v := B b138) (H' := [lR x1, lR x2, lO x137]) rfl rfl (by kernel_rfl) trivial rfl (aI rfl (aI rfl (trivial))) (WD_all [18] (n := 2) (by kernel_rfl) rfl (WM_op (φ := True) (v := sF 2 x137) (H' := [lR x1, lR x2, lO x137]) rfl rfl (by kernel_rfl) trivial rfl (aI rfl (aI rfl (trivial))) (WD_all [20] (n := 1) (by kernel_rfl) rfl (WM_op (φ := True) (v := sF 2 x137) (H' := [lR x1, lR x2, lO x137]) rfl rfl (by kernel_rfl) trivial rfl (aI rfl (aI rfl (trivial))) (WD_takeK [21] [1, 6, 8] [1, 6, 7, 8] (φ := True) (ls' := (tf true [22])) (Ts' := [(1, sF 1 x2), (6, I 0), (8, B b138)]) (st' := ⟨[(1, sF 1 x2), (6, I 0), (7, sF 2 x137), (8, B b138)], [lR x1, lR x2, lO x137]⟩) (n2 := 0) (by kernel_rfl) trivial rfl ?_)))))
      exact WD_done [0, 1, 2] [1, 6, 7, 8] (st' := ⟨[(1, sF 1 x2), (6, I 0), (7, sF 2 x137), (8, B b138)], [lR x1, lR x2, lO x137]⟩) (by kernel_rfl) (by kernel_rfl) (aI rfl rfl)
    ·rintro _ _ ⟨rfl, rfl⟩
     refine thenS_n (W_seq (Wsr ((Ws 2 [0, 1, 2] [1, 6, 7, 36] ⟨[(1, sF 1 x2), (6, I 0), (7, sF 2 x137), (36, B (!b138))], [lR x1, lR x2, lO x137]⟩ (Wnt ((iteO_e hv122 (fun hb142 hv122 => W_true rfl hb142 ?_) (fun hb142 hv122 => W_false rfl hb142 ?_))))))))
     ·refine Wsr ((Ws 2 [0, 1] [4, 5] ⟨[(4, .one (.e (.nsl))), (5, B false)], [lR x1, lR x2]⟩ (WO_nilrow 4 .lck rfl (Wb [0, 1, 2] [4, 5] ⟨[(4, .one (.e (.sl 2 0 (([] : List Lck).length)))), (5, B false)], [lR x1, lR x2, lO ([] : List Lck)]⟩ (Wnt ((W_ret (thenS_r (blockS_r (thenS_r (thenS_r (blockS_r ?_))))))))))))
      cases hv122
      exact aI rfl rfl
     ·refine Ww [0, 1, 2] [1, 6, 7] ⟨[(1, sF 1 x2), (6, I 0), (7, sF 2 x137)], [lR x1, lR x2, lO x137]⟩ (W_skip (thenS_n (W_region (Ws 2 [0, 1, 2] [0, 1, 6] ⟨[(0, sF 2 x137), (1, sF 1 x2), (6, I 0)], [lR x1, lR x2, lO x137]⟩ (WO_nil rfl (blockS_n (thenS_n (W_region (Wp 3 [0, 1, 2] [0, 1, 6] T2 ⟨[(0, sF 2 x137), (1, sF 1 x2), (6, I (w64 (0 + 1)))], [lR x1, lR x2, lO x137]⟩ t2 (Wnt ((bindO_e hv122 (fun v189 hv189 hv122 => (WL_cut (spec_takeAll_L1_ok w X θ x2 x1 v189 n x137 (w64 (0 + 1)) hv189) ?_))))))))))))))
      rcases v189 with _ | x167
      ·rintro _ _ ⟨rfl, rfl⟩
       refine blockS_r ?_
       cases hv122
       exact aI rfl rfl
      ·rintro _ _ ⟨rfl, rfl⟩
       refine blockS_y ?_
       cases hv122
       exact aI rfl rfl
   ·refine Ww [0, 1] [0] ⟨[(0, sF 0 x1)], [lR x1, lR x2]⟩ (W_exit (thenS_e (thenS_e (blockS_y ?_))))
    cases hv122
    exact aI rfl rfl
  ·rcases v122 with _ | x121 | _
   ·rintro _ _ ⟨rfl, rfl⟩
    refine thenS_r ?_
    cases h
    exact ⟨[0, 1, 2], True, by kernel_rfl, trivial⟩
   ·rintro _ _ ⟨rfl, rfl⟩
    refine thenS_n (Wsr ((guardO_e h (fun hg190 h => (Wp 5 [0, 1, 4] [4, 5] ((0 = 0 ∧ ([] : List Lck).length = ([] : List Lck).length ∧ ([] : List Lck).length + ((x121.drop 0).take x121.length).length ≤ 1099511627776) ∧ True) ⟨[(4, .one (.e (.sl 2 0 ((([] : List Lck) ++ ((x121.drop 0).take x121.length)).length)))), (5, B true)], [lR x1, lR x2, .row .lck (([] : List Lck) ++ ((x121.drop 0).take x121.length)) true]⟩ ⟨hg190, trivial⟩ (Wnt ((W_ret ?_))))))))
    cases h
    exact ⟨[0, 1, 2], True, by kernel_rfl, trivial⟩
   ·rintro _ _ ⟨rfl, rfl⟩
    refine thenS_n (Wsr ((guardO_e h (fun hg191 h => (Wp 5 [0, 1, 3] [4, 5] ((0 = 0 ∧ ([] : List Lck).length = ([] : List Lck).length ∧ ([] : List Lck).length + ((x1.drop 0).take x1.length).length ≤ 1099511627776) ∧ True) ⟨[(4, .one (.e (.sl 2 0 ((([] : List Lck) ++ ((x1.drop 0).take x1.length)).length)))), (5, B true)], [lR x1, lR x2, .row .lck (([] : List Lck) ++ ((x1.drop 0).take x1.length)) true]⟩ ⟨hg191, trivial⟩ (Wnt ((W_ret ?_))))))))
    cases h
    exact ⟨[0, 1, 2], True, by kernel_rfl, trivial⟩

/- spec.desk).lock -/
def spec_desk_lock (n : Nat) (x1 : List Nod) (k2 : Nat) (x3 : List Lck) (k4 : Nat) (s5 : Str) (s6 : Str) (i7 : Int) : Option (Nat × (List Lck) × Str) :=
 bindO (spec_parseInt n s5) fun (i32, b33) =>
 bindO (spec_resolve n ((x1.drop 0).take k2) s6) fun i35 =>
 iteO ((!b33) || ((decide (i35 < 0)) || (!(spec_inRange i32 0 3))))
 (some (k4, x3, [110, 111]))
 (bindO (spec_locksFor n ((x1.drop 0).take k2) i32 i35 i7) fun x44 =>
 bindO (spec_takeAll n ((x3.drop 0).take k4) x44) fun (x46, b47) =>
 iteO (!b47)
 (some (k4, x3, [110, 111]))
 (some (x46.length, x46, [111, 107])))

theorem spec_desk_lock_ok (n : Nat) (x1 : List Nod) (k2 : Nat) (x3 : List Lck) (k4 : Nat) (s5 : Str) (s6 : Str) (i7 : Int) (k29 : Nat) (x30 : List Lck) (s31 : Str) (h : spec_desk_lock n x1 k2 x3 k4 s5 s6 i7 = some (k29, x30, s31)) : FOk EE 61 [pA 0 0, S s5, S s6, I i7] [.cells [.sl 1 0 k2, .sl 2 0 k4], nR x1, lO x3] (S s31) [.cells [.sl 1 0 k2, .sl 3 0 k29], nR x1, .dead, lO x30] := by
  unfold spec_desk_lock at h
  refine FOk_of_W 58 3 Tryz.func61 rfl rfl (Nat.le_of_ble_eq_true rfl) rfl (fun w X θ => ?_)
  refine Wsr ((Ws 1 [0, 1, 2] [0, 1, 2, 3] ⟨[(0, pA 0 0), (1, S s5), (2, S s6), (3, I i7)], [.cells [.sl 1 0 k2, .sl 2 0 k4], nR x1, lO x3]⟩ (Wnt ((W_seq (W_region ?_))))))
  refine Ws 1 [0, 1, 2] [0, 2, 3, 15] ⟨[(0, pA 0 0), (2, S s6), (3, I i7), (15, S s5)], [.cells [.sl 1 0 k2, .sl 2 0 k4], nR x1, lO x3]⟩ (bindO_e h (fun v52 hc34 h => ?_))
  obtain ⟨i32, b33⟩ := v52
  refine Wc [] rfl rfl rfl Tryz.func42 rfl (spec_parseInt_ok n s5 i32 b33 hc34) (trivial) rfl (Ws 5 [0, 1, 2] [0, 2, 3, 9, 10] ⟨[(0, pA 0 0), (2, S s6), (3, I i7), (9, I i32), (10, B b33)], [.cells [.sl 1 0 k2, .sl 2 0 k4], nR x1, lO x3]⟩ (Wnt ((Wsr ((Wp 5 [0, 1, 2] [0, 3, 9, 10, 22, 23] T2 ⟨[(0, pA 0 0), (3, I i7), (9, I i32), (10, B b33), (22, SL 1 0 k2), (23, S s6)], [.cells [.sl 1 0 k2, .sl 2 0 k4], nR x1, lO x3]⟩ t2 ?_))))))
  refine bindO_e h (fun i35 hc36 h => (Wc [.view 0] rfl rfl rfl Tryz.func44 rfl (spec_resolve_ok n ((x1.drop 0).take k2) s6 i35 hc36) (trivial) rfl (Ws 1 [0, 1, 2] [0, 3, 9, 10, 11] ⟨[(0, pA 0 0), (3, I i7), (9, I i32), (10, B b33), (11, I i35)], [.cells [.sl 1 0 k2, .sl 2 0 k4], nR x1, lO x3]⟩ (Wnt ((W_seq (W_seq ?_)))))))
  refine W_region (Ws 3 [0, 1, 2] [0, 3, 9, 11, 27] ⟨[(0, pA 0 0), (3, I i7), (9, I i32), (11, I i35), (27, B (!b33))], [.cells [.sl 1 0 k2, .sl 2 0 k4], nR x1, lO x3]⟩ (WO_thru ⟨[(0, pA 0 0), (3, I i7), (9, I i32), (11, I i35), (35, B ((!b33) || ((decide (i35 < 0)) || (!(spec_inRange i32 0 3)))))], [.cells [.sl 1 0 k2, .sl 2 0 k4], nR x1, lO x3]⟩ ?_ ?_))
  ·refine WO_if 27 rfl (fun hb40 => ?_) (fun hb40 => ?_)
   ·refine Ws 8 [0, 1, 2] [0, 3, 9, 11, 35] ⟨[(0, pA 0 0), (3, I i7), (9, I i32), (11, I i35), (35, B true)], [.cells [.sl 1 0 k2, .sl 2 0 k4], nR x1, lO x3]⟩ ?_
    exact WO_nil rfl ⟨rfl, by first | rfl | (rw [hb40]; first | done | rfl)⟩
   ·refine Wp 4 [0, 1, 2] [0, 3, 9, 11, 31] T2 ⟨[(0, pA 0 0), (3, I i7), (9, I i32), (11, I i35), (31, B (decide (i35 < 0)))], [.cells [.sl 1 0 k2, .sl 2 0 k4], nR x1, lO x3]⟩ t2 (WO_if 31 rfl (fun hb41 => ?_) (fun hb41 => ?_))
    ·refine Ws 4 [0, 1, 2] [0, 3, 9, 11, 35] ⟨[(0, pA 0 0), (3, I i7), (9, I i32), (11, I i35), (35, B true)], [.cells [.sl 1 0 k2, .sl 2 0 k4], nR x1, lO x3]⟩ ?_
     exact WO_nil rfl ⟨rfl, by first | rfl | (simp only [hb40, hb41]; first | done | rfl)⟩
    ·refine Ws 1 [0, 1, 2] [0, 3, 9, 11, 31, 32] ⟨[(0, pA 0 0), (3, I i7), (9, I i32), (11, I i35), (31, B false), (32, I i32)], [.cells [.sl 1 0 k2, .sl 2 0 k4], nR x1, lO x3]⟩ (Wc [] rfl rfl rfl Tryz.func71 rfl (spec_inRange_ok i32 0 3) (trivial) rfl (Ws 2 [0, 1, 2] [0, 3, 9, 11, 35] ⟨[(0, pA 0 0), (3, I i7), (9, I i32), (11, I i35), (35, B (!(spec_inRange i32 0 3)))], [.cells [.sl 1 0 k2, .sl 2 0 k4], nR x1, lO x3]⟩ ?_))
     exact WO_nil rfl ⟨rfl, by first | rfl | (simp only [hb40, hb41]; first | done | rfl)⟩
  ·refine thenS_n (iteO_e h (fun hb43 h => W_true rfl hb43 ?_) (fun hb43 h => W_false rfl hb43 ?_))
   ·refine Wsr ((Ws 1 [0, 1, 2] [8] ⟨[(8, S [110, 111])], [.cells [.sl 1 0 k2, .sl 2 0 k4], nR x1, lO x3]⟩ (Wnt ((W_ret (thenS_r ?_))))))
    cases h
    exact ⟨[0, 1, 999, 2], True, by kernel_rfl, trivial⟩
   ·refine Ww [0, 1, 2] [0, 3, 9, 11] ⟨[(0, pA 0 0), (3, I i7), (9, I i32), (11, I i35)], [.cells [.sl 1 0 k2, .sl 2 0 k4], nR x1, lO x3]⟩ (W_skip (thenS_n (W_seq (bindO_e h (fun x44 hc45 h => (bindO_e h (fun v49 hc48 h => ?_)))))))
    obtain ⟨x46, b47⟩ := v49
    refine W_cut (Q' := fun (e : Exit) (s : St) => e = .normal ∧ s = ⟨[(0, pA 0 0), (12, sF 3 x46), (13, B b47)], [.cells [.sl 1 0 k2, .sl 2 0 k4], nR x1, lO x3, lO x46]⟩) ?_ ?_
    ·refine W_draw [] false (by kernel_rfl) (by kernel_rfl) (WD_takeQ [0, 1, 2, 4, 5, 6, 8, 9, 10] [0, 39, 43, 45, 46, 47] [0, 39, 43, 45, 46, 47] (φ := True) (ls' := (tf true [3, 1, 3, 1, 3, 7])) (st' := ⟨[(0, pA 0 0), (39, pA 0 1), (43, pA 0 0), (45, I i32), (46, I i35), (47, I i7)], [.cells [.sl 1 0 k2, .sl 2 0 k4], nR x1, lO x3]⟩) (n2 := 9) (by kernel_rfl) trivial rfl (WD_all [3, 7] (n := 8) (by kernel_rfl) rfl (aI ?_ (?_))))
     ·refine WM_op (φ := True) (v := SL 2 0 k4) (H' := [.cells [.sl 1 0 k2, .sl 2 0 k4], nR x1, lO x3]) rfl rfl (by kernel_rfl) trivial rfl (aI (aI rfl rfl) (aI rfl (aI rfl (trivial)))) (WD_all [7] (n := 7) (by kernel_rfl) rfl (WM_op (φ := True) (v := SL 1 0 k2) (H' := [.cells [.sl 1 0 k2, .sl 2 0 k4], nR x1, lO x3]) rfl rfl (by kernel_rfl) trivial rfl (aI (aI rfl rfl) (aI rfl (aI rfl (trivial)))) (WD_all [11] (n := 6) (by kernel_rfl) rfl (WM_call [.view 0] Tryz.f94 rfl rfl (by kernel_rfl) Tryz.func94 rfl (by kernel_rfl) (spec_locksFor_ok n ((x1.drop 0).take k2) i32 i35 i7 x44 hc45) (trivial) rfl (aI (aI rfl rfl) (aI rfl (aI rfl (trivial)))) (WD_all [12] (n := 5) (by kernel_rfl) rfl (WM_call [.view 0, .ro 3] Tryz.f93 rfl rfl (by kernel_rfl) Tryz.func93 rfl (by kernel_rfl) (spec_takeAll_ok n ((x3.drop 0).take k4) x44 x46 b47 hc48) (aI (aI rfl rfl) (trivial)) rfl (aI (aI rfl rfl) (aI rfl (aI rfl (trivial)))) (WD_all [13] (n := 4) (by kernel_rfl) rfl (WM_op (φ := True) (v := .tup [.e (.sl 4 0 x46.length), .e (cB b47)]) (H' := [.cells [.sl 1 0 k2, .sl 2 0 k4], nR x1, lO x3, lO x44, lO x46]) rfl rfl (by kernel_rfl) trivial rfl (aI (aI rfl rfl) (aI rfl (aI rfl (trivial)))) (WD_all [14, 15] (n := 3) (by kernel_rfl) rfl (aI ?_ (?_)))))))))))
      ·refine WM_op (φ := True) (v := sF 4 x46) (H' := [.cells [.sl 1 0 k2, .sl 2 0 k4], nR x1, lO x3, lO x44, lO x46]) rfl rfl (by kernel_rfl) trivial rfl (aI (aI rfl rfl) (aI rfl (aI rfl (trivial)))) (WD_all [15, 16] (n := 2) (by kernel_rfl) rfl (aI ?_ (?_)))
       ·refine WM_op (φ := True) (v := B b47) (H' := [.cells [.sl 1 0 k2, .sl 2 0 k4], nR x1, lO x3, lO x44, lO x46]) rfl rfl (by kernel_rfl) trivial rfl (aI (aI rfl rfl) (aI rfl (aI rfl (trivial)))) (WD_all [16] (n := 1) (by kernel_rfl) rfl (WM_op (φ := True) (v := sF 4 x46) (H' := [.cells [.sl 1 0 k2, .sl 2 0 k4], nR x1, lO x3, lO x44, lO x46]) rfl rfl (by kernel_rfl) trivial rfl (aI (aI rfl rfl) (aI rfl (aI rfl (trivial)))) (WD_takeK [17] [0, 13] [0, 12, 13] (φ := True) (ls' := (tf true [18])) (Ts' := [(0, pA 0 0), (13, B b47)]) (st' := ⟨[(0, pA 0 0), (12, sF 4 x46), (13, B b47)], [.cells [.sl 1 0 k2, .sl 2 0 k4], nR x1, lO x3, lO x44, lO x46]⟩) (n2 := 0) (by kernel_rfl) trivial rfl ?_)))
        exact WD_done [0, 1, 2, 4] [0, 12, 13] (st' := ⟨[(0, pA 0 0), (12, sF 3 x46), (13, B b47)], [.cells [.sl 1 0 k2, .sl 2 0 k4], nR x1, lO x3, lO x46]⟩) (by kernel_rfl) (by kernel_rfl) (aI rfl rfl)
       ·refine WM_op (φ := True) (v := sF 4 x46) (H' := [.cells [.sl 1 0 k2, .sl 2 0 k4], nR x1, lO x3, lO x44, lO x46]) rfl rfl (by kernel_rfl) trivial rfl (aI (aI rfl rfl) (aI rfl (aI rfl (trivial)))) (WD_all [15] (n := 1) (by kernel_rfl) rfl (WM_op (φ := True) (v := B b47) (H' := [.cells [.sl 1 0 k2, .sl 2 0 k4], nR x1, lO x3, lO x44, lO x46]) rfl rfl (by kernel_rfl) trivial rfl (aI (aI rfl rfl) (aI rfl (aI rfl (trivial)))) (WD_takeK [17] [0, 13] [0, 12, 13] (φ := True) (ls' := (tf true [18])) (Ts' := [(0, pA 0 0), (13, B b47)]) (st' := ⟨[(0, pA 0 0), (12, sF 4 x46), (13, B b47)], [.cells [.sl 1 0 k2, .sl 2 0 k4], nR x1, lO x3, lO x44, lO x46]⟩) (n2 := 0) (by kernel_rfl) trivial rfl ?_)))
        exact WD_done [0, 1, 2, 4] [0, 12, 13] (st' := ⟨[(0, pA 0 0), (12, sF 3 x46), (13, B b47)], [.cells [.sl 1 0 k2, .sl 2 0 k4], nR x1, lO x3, lO x46]⟩) (by kernel_rfl) (by kernel_rfl) (aI rfl rfl)
      ·refine WM_op (φ := True) (v := B b47) (H' := [.cells [.sl 1 0 k2, .sl 2 0 k4], nR x1, lO x3, lO x44, lO x46]) rfl rfl (by kernel_rfl) trivial rfl (aI (aI rfl rfl) (aI rfl (aI rfl (trivial)))) (WD_all [14] (n := 2) (by kernel_rfl) rfl (WM_op (φ := True) (v := sF 4 x46) (H' := [.cells [.sl 1 0 k2, .sl 2 0 k4], nR x1, lO x3, lO x44, lO x46]) rfl rfl (by kernel_rfl) trivial rfl (aI (aI rfl rfl) (aI rfl (aI rfl (trivial)))) (WD_all [16] (n := 1) (by kernel_rfl) rfl (WM_op (φ := True) (v := sF 4 x46) (H' := [.cells [.sl 1 0 k2, .sl 2 0 k4], nR x1, lO x3, lO x44, lO x46]) rfl rfl (by kernel_rfl) trivial rfl (aI (aI rfl rfl) (aI rfl (aI rfl (trivial)))) (WD_takeK [17] [0, 13] [0, 12, 13] (φ := True) (ls' := (tf true [18])) (Ts' := [(0, pA 0 0), (13, B b47)]) (st' := ⟨[(0, pA 0 0), (12, sF 4 x46), (13, B b47)], [.cells [.sl 1 0 k2, .sl 2 0 k4], nR x1, lO x3, lO x44, lO x46]⟩) (n2 := 0) (by kernel_rfl) trivial rfl ?_)))))
       exact WD_done [0, 1, 2, 4] [0, 12, 13] (st' := ⟨[(0, pA 0 0), (12, sF 3 x46), (13, B b47)], [.cells [.sl 1 0 k2, .sl 2 0 k4], nR x1, lO x3, lO x46]⟩) (by kernel_rfl) (by kernel_rfl) (aI rfl rfl)
     ·refine WM_op (φ := True) (v := SL 1 0 k2) (H' := [.cells [.sl 1 0 k2, .sl 2 0 k4], nR x1, lO x3]) rfl rfl (by kernel_rfl) trivial rfl (aI (aI rfl rfl) (aI rfl (aI rfl (trivial)))) (WD_all [3, 11] (n := 7) (by kernel_rfl) rfl (aI ?_ (?_)))
      ·refine WM_op (φ := True) (v := SL 2 0 k4) (H' := [.cells [.sl 1 0 k2, .sl 2 0 k4], nR x1, lO x3]) rfl rfl (by kernel_rfl) trivial rfl (aI (aI rfl rfl) (aI rfl (aI rfl (trivial)))) (WD_all [11] (n := 6) (by kernel_rfl) rfl (WM_call [.view 0] Tryz.f94 rfl rfl (by kernel_rfl) Tryz.func94 rfl (by kernel_rfl) (spec_locksFor_ok n ((x1.drop 0).take k2) i32 i35 i7 x44 hc45) (trivial) rfl (aI (aI rfl rfl) (aI rfl (aI rfl (trivial)))) (WD_all [12] (n := 5) (by kernel_rfl) rfl (WM_call [.view 0, .ro 3] Tryz.f93 rfl rfl (by kernel_rfl) Tryz.func93 rfl (by kernel_rfl) (spec_takeAll_ok n ((x3.drop 0).take k4) x44 x46 b47 hc48) (aI (aI rfl rfl) (trivial)) rfl (aI (aI rfl rfl) (aI rfl (aI rfl (trivial)))) (WD_all [13] (n := 4) (by kernel_rfl) rfl (WM_op (φ := True) (v := .tup [.e (.sl 4 0 x46.length), .e (cB b47)]) (H' := [.cells [.sl 1 0 k2, .sl 2 0 k4], nR x1, lO x3, lO x44, lO x46]) rfl rfl (by kernel_rfl) trivial rfl (aI (aI rfl rfl) (aI rfl (aI rfl (trivial)))) (WD_all [14, 15] (n := 3) (by kernel_rfl) rfl (aI ?_ (?_)))))))))
       ·refine WM_op (φ := True) (v := sF 4 x46) (H' := [.cells [.sl 1 0 k2, .sl 2 0 k4], nR x1, lO x3, lO x44, lO x46]) rfl rfl (by kernel_rfl) trivial rfl (aI (aI rfl rfl) (aI rfl (aI rfl (trivial)))) (WD_all [15, 16] (n := 2) (by kernel_rfl) rfl (aI ?_ (?_)))
        ·refine WM_op (φ := True) (v := B b47) (H' := [.cells [.sl 1 0 k2, .sl 2 0 k4], nR x1, lO x3, lO x44, lO x46]) rfl rfl (by kernel_rfl) trivial rfl (aI (aI rfl rfl) (aI rfl (aI rfl (trivial)))) (WD_all [16] (n := 1) (by kernel_rfl) rfl (WM_op (φ := True) (v := sF 4 x46) (H' := [.cells [.sl 1 0 k2, .sl 2 0 k4], nR x1, lO x3, lO x44, lO x46]) rfl rfl (by kernel_rfl) trivial rfl (aI (aI rfl rfl) (aI rfl (aI rfl (trivial)))) (WD_takeK [17] [0, 13] [0, 12, 13] (φ := True) (ls' := (tf true [18])) (Ts' := [(0, pA 0 0), (13, B b47)]) (st' := ⟨[(0, pA 0 0), (12, sF 4 x46), (13, B b47)], [.cells [.sl 1 0 k2, .sl 2 0 k4], nR x1, lO x3, lO x44, lO x46]⟩) (n2 := 0) (by kernel_rfl) trivial rfl ?_)))
         exact WD_done [0, 1, 2, 4] [0, 12, 13] (st' := ⟨[(0, pA 0 0), (12, sF 3 x46), (13, B b47)], [.cells [.sl 1 0 k2, .sl 2 0 k4], nR x1, lO x3, lO x46]⟩) (by kernel_rfl) (by kernel_rfl) (aI rfl rfl)
        ·refine WM_op (φ := True) (v := sF 4 x46) (H' := [.cells [.sl 1 0 k2, .sl 2 0 k4], nR x1, lO x3, lO x44, lO x46]) rfl rfl (by kernel_rfl) trivial rfl (aI (aI rfl rfl) (aI rfl (aI rfl (trivial)))) (WD_all [15] (n := 1) (by kernel_rfl) rfl (WM_op (φ := True) (v := B b47) (H' := [.cells [.sl 1 0 k2, .sl 2 0 k4], nR x1, lO x3, lO x44, lO x46]) rfl rfl (by kernel_rfl) trivial rfl (aI (aI rfl rfl) (aI rfl (aI rfl (trivial)))) (WD_takeK [17] [0, 13] [0, 12, 13] (φ := True) (ls' := (tf true [18])) (Ts' := [(0, pA 0 0), (13, B b47)]) (st' := ⟨[(0, pA 0 0), (12, sF 4 x46), (13, B b47)], [.cells [.sl 1 0 k2, .sl 2 0 k4], nR x1, lO x3, lO x44, lO x46]⟩) (n2 := 0) (by kernel_rfl) trivial rfl ?_)))
         exact WD_done [0, 1, 2, 4] [0, 12, 13] (st' := ⟨[(0, pA 0 0), (12, sF 3 x46), (13, B b47)], [.cells [.sl 1 0 k2, .sl 2 0 k4], nR x1, lO x3, lO x46]⟩) (by kernel_rfl) (by kernel_rfl) (aI rfl rfl)
       ·refine WM_op (φ := True) (v := B b47) (H' := [.cells [.sl 1 0 k2, .sl 2 0 k4], nR x1, lO x3, lO x44, lO x46]) rfl rfl (by kernel_rfl) trivial rfl (aI (aI rfl rfl) (aI rfl (aI rfl (trivial)))) (WD_all [14] (n := 2) (by kernel_rfl) rfl (WM_op (φ := True) (v := sF 4 x46) (H' := [.cells [.sl 1 0 k2, .sl 2 0 k4], nR x1, lO x3, lO x44, lO x46]) rfl rfl (by kernel_rfl) trivial rfl (aI (aI rfl rfl) (aI rfl (aI rfl (trivial)))) (WD_all [16] (n := 1) (by kernel_rfl) rfl (WM_op (φ := True) (v := sF 4 x46) (H' := [.cells [.sl 1 0 k2, .sl 2 0 k4], nR x1, lO x3, lO x44, lO x46]) rfl rfl (by kernel_rfl) trivial rfl (aI (aI rfl rfl) (aI rfl (aI rfl (trivial)))) (WD_takeK [17] [0, 13] [0, 12, 13] (φ := True) (ls' := (tf true [18])) (Ts' := [(0, pA 0 0), (13, B b47)]) (st' := ⟨[(0, pA 0 0), (12, sF 4 x46), (13, B b47)], [.cells [.sl 1 0 k2, .sl 2 0 k4], nR x1, lO x3, lO x44, lO x46]⟩) (n2 := 0) (by kernel_rfl) trivial rfl ?_)))))
        exact WD_done [0, 1, 2, 4] [0, 12, 13] (st' := ⟨[(0, pA 0 0), (12, sF 3 x46), (13, B b47)], [.cells [.sl 1 0 k2, .sl 2 0 k4], nR x1, lO x3, lO x46]⟩) (by kernel_rfl) (by kernel_rfl) (aI rfl rfl)
      ·refine WM_call [.view 0] Tryz.f94 rfl rfl (by kernel_rfl) Tryz.func94 rfl (by kernel_rfl) (spec_locksFor_ok n ((x1.drop 0).take k2) i32 i35 i7 x44 hc45) (trivial) rfl (aI (aI rfl rfl) (aI rfl (aI rfl (trivial)))) (WD_all [3] (n := 6) (by kernel_rfl) rfl (WM_op (φ := True) (v := SL 2 0 k4) (H' := [.cells [.sl 1 0 k2, .sl 2 0 k4], nR x1, lO x3, lO x44]) rfl rfl (by kernel_rfl) trivial rfl (aI (aI rfl rfl) (aI rfl (aI rfl (trivial)))) (WD_all [12] (n := 5) (by kernel_rfl) rfl (WM_call [.view 0, .ro 3] Tryz.f93 rfl rfl (by kernel_rfl) Tryz.func93 rfl (by kernel_rfl) (spec_takeAll_ok n ((x3.drop 0).take k4) x44 x46 b47 hc48) (aI (aI rfl rfl) (trivial)) rfl (aI (aI rfl rfl) (aI rfl (aI rfl (trivial)))) (WD_all [13] (n := 4) (by kernel_rfl) rfl (WM_op (φ := True) (v := .tup [.e (.sl 4 0 x46.length), .e (cB b47)]) (H' := [.cells [.sl 1 0 k2, .sl 2 0 k4], nR x1, lO x3, lO x44, lO x46]) rfl rfl (by kernel_rfl) trivial rfl (aI (aI rfl rfl) (aI rfl (aI rfl (trivial)))) (WD_all [14, 15] (n := 3) (by kernel_rfl) rfl (aI ?_ (?_)))))))))
       ·refine WM_op (φ := True) (v := sF 4 x46) (H' := [.cells [.sl 1 0 k2, .sl 2 0 k4], nR x1, lO x3, lO x44, lO x46]) rfl rfl (by kernel_rfl) trivial rfl (aI (aI rfl rfl) (aI rfl (aI rfl (trivial)))) (WD_all [15, 16] (n := 2) (by kernel_rfl) rfl (aI ?_ (?_)))
        ·refine WM_op (φ := True) (v := B b47) (H' := [.cells [.sl 1 0 k2, .sl 2 0 k4], nR x1, lO x3, lO x44, lO x46]) rfl rfl (by kernel_rfl) trivial rfl (aI (aI rfl rfl) (aI rfl (aI rfl (trivial)))) (WD_all [16] (n := 1) (by kernel_rfl) rfl (WM_op (φ := True) (v := sF 4 x46) (H' := [.cells [.sl 1 0 k2, .sl 2 0 k4], nR x1, lO x3, lO x44, lO x46]) rfl rfl (by kernel_rfl) trivial rfl (aI (aI rfl rfl) (aI rfl (aI rfl (trivial)))) (WD_takeK [17] [0, 13] [0, 12, 13] (φ := True) (ls' := (tf true [18])) (Ts' := [(0, pA 0 0), (13, B b47)]) (st' := ⟨[(0, pA 0 0), (12, sF 4 x46), (13, B b47)], [.cells [.sl 1 0 k2, .sl 2 0 k4], nR x1, lO x3, lO x44, lO x46]⟩) (n2 := 0) (by kernel_rfl) trivial rfl ?_)))
         exact WD_done [0, 1, 2, 4] [0, 12, 13] (st' := ⟨[(0, pA 0 0), (12, sF 3 x46), (13, B b47)], [.cells [.sl 1 0 k2, .sl 2 0 k4], nR x1, lO x3, lO x46]⟩) (by kernel_rfl) (by kernel_rfl) (aI rfl rfl)
        ·refine WM_op (φ := True) (v := sF 4 x46) (H' := [.cells [.sl 1 0 k2, .sl 2 0 k4], nR x1, lO x3, lO x44, lO x46]) rfl rfl (by kernel_rfl) trivial rfl (aI (aI rfl rfl) (aI rfl (aI rfl (trivial)))) (WD_all [15] (n := 1) (by kernel_rfl) rfl (WM_op (φ := True) (v := B b47) (H' := [.cells [.sl 1 0 k2, .sl 2 0 k4], nR x1, lO x3, lO x44, lO x46]) rfl rfl (by kernel_rfl) trivial rfl (aI (aI rfl rfl) (aI rfl (aI rfl (trivial)))) (WD_takeK [17] [0, 13] [0, 12, 13] (φ := True) (ls' := (tf true [18])) (Ts' := [(0, pA 0 0), (13, B b47)]) (st' := ⟨[(0, pA 0 0), (12, sF 4 x46), (13, B b47)], [.cells [.sl 1 0 k2, .sl 2 0 k4], nR x1, lO x3, lO x44, lO x46]⟩) (n2 := 0) (by kernel_rfl) trivial rfl ?_)))
         exact WD_done [0, 1, 2, 4] [0, 12, 13] (st' := ⟨[(0, pA 0 0), (12, sF 3 x46), (13, B b47)], [.cells [.sl 1 0 k2, .sl 2 0 k4], nR x1, lO x3, lO x46]⟩) (by kernel_rfl) (by kernel_rfl) (aI rfl rfl)
       ·refine WM_op (φ := True) (v := B b47) (H' := [.cells [.sl 1 0 k2, .sl 2 0 k4], nR x1, lO x3, lO x44, lO x46]) rfl rfl (by kernel_rfl) trivial rfl (aI (aI rfl rfl) (aI rfl (aI rfl (trivial)))) (WD_all [14] (n := 2) (by kernel_rfl) rfl (WM_op (φ := True) (v := sF 4 x46) (H' := [.cells [.sl 1 0 k2, .sl 2 0 k4], nR x1, lO x3, lO x44, lO x46]) rfl rfl (by kernel_rfl) trivial rfl (aI (aI rfl rfl) (aI rfl (aI rfl (trivial)))) (WD_all [16] (n := 1) (by kernel_rfl) rfl (WM_op (φ := True) (v := sF 4 x46) (H' := [.cells [.sl 1 0 k2, .sl 2 0 k4], nR x1, lO x3, lO x44, lO x46]) rfl rfl (by kernel_rfl) trivial rfl (aI (aI rfl rfl) (aI rfl (aI rfl (trivial)))) (WD_takeK [17] [0, 13] [0, 12, 13] (φ := True) (ls' := (tf true [18])) (Ts' := [(0, pA 0 0), (13, B b47)]) (st' := ⟨[(0, pA 0 0), (12, sF 4 x46), (13, B b47)], [.cells [.sl 1 0 k2, .sl 2 0 k4], nR x1, lO x3, lO x44, lO x46]⟩) (n2 := 0) (by kernel_rfl) trivial rfl ?_)))))
        exact WD_done [0, 1, 2, 4] [0, 12, 13] (st' := ⟨[(0, pA 0 0), (12, sF 3 x46), (13, B b47)], [.cells [.sl 1 0 k2, .sl 2 0 k4], nR x1, lO x3, lO x46]⟩) (by kernel_rfl) (by kernel_rfl) (aI rfl rfl)
    ·rintro _ _ ⟨rfl, rfl⟩
     refine thenS_n (W_seq (Wsr ((Ws 2 [0, 1, 2, 3] [0, 12, 53] ⟨[(0, pA 0 0), (12, sF 3 x46), (53, B (!b47))], [.cells [.sl 1 0 k2, .sl 2 0 k4], nR x1, lO x3, lO x46]⟩ (Wnt ((iteO_e h (fun hb51 h => W_true rfl hb51 ?_) (fun hb51 h => W_false rfl hb51 ?_))))))))
     ·refine Wsr ((Ws 1 [0, 1, 2] [8] ⟨[(8, S [110, 111])], [.cells [.sl 1 0 k2, .sl 2 0 k4], nR x1, lO x3]⟩ (Wnt ((W_ret (thenS_r ?_))))))
      cases h
      exact ⟨[0, 1, 999, 2], True, by kernel_rfl, trivial⟩
     ·refine Ww [0, 1, 2, 3] [0, 12] ⟨[(0, pA 0 0), (12, sF 3 x46)], [.cells [.sl 1 0 k2, .sl 2 0 k4], nR x1, lO x3, lO x46]⟩ (W_skip (thenS_n (Wsr ((Wp 5 [0, 1, 2, 3] [] T2 ⟨[], [.cells [.sl 1 0 k2, .sl 3 0 x46.length], nR x1, lO x3, lO x46]⟩ t2 (Wnt ((Wsr ((Ws 1 [0, 1, 2, 3] [8] ⟨[(8, S [111, 107])], [.cells [.sl 1 0 k2, .sl 3 0 x46.length], nR x1, lO x3, lO x46]⟩ (Wnt ((W_ret ?_)))))))))))))
      cases h
      exact ⟨[0, 1, 999, 3], True, by kernel_rfl, trivial⟩

/- spec.FreeLocks -/
def spec_FreeLocks_L1 (x1 : List Lck) (i2 : Int) : Nat → (List Lck) → Int → Option ((List Lck))
| 0, _, _ => none
| n + 1, x86, i87 =>
 iteO (decide (i87 < ((x1.length : Nat) : Int)))
 (guardO (0 ≤ i87 ∧ i87 < ((x1.length : Nat) : Int)) <|
 bindO (iteO (!decide (((x1.getD i87.toNat dlck).who) = i2))
 (guardO (0 ≤ i87 ∧ i87 < ((x1.length : Nat) : Int)) <|
 guardO (0 = 0 ∧ x86.length = x86.length ∧ x86.length + (([(⟨(x1.getD i87.toNat dlck).who, (x1.getD i87.toNat dlck).node, (x1.getD i87.toNat dlck).mode⟩ : Lck)].drop 0).take ([(⟨(x1.getD i87.toNat dlck).who, (x1.getD i87.toNat dlck).node, (x1.getD i87.toNat dlck).mode⟩ : Lck)].length)).length ≤ 1099511627776) <|
 some (x86 ++ (([(⟨(x1.getD i87.toNat dlck).who, (x1.getD i87.toNat dlck).node, (x1.getD i87.toNat dlck).mode⟩ : Lck)].drop 0).take ([(⟨(x1.getD i87.toNat dlck).who, (x1.getD i87.toNat dlck).node, (x1.getD i87.toNat dlck).mode⟩ : Lck)].length))))
 (some x86)) fun x118 =>
 spec_FreeLocks_L1 x1 i2 n x118 (w64 (i87 + 1)))
 (some x86)

theorem spec_FreeLocks_L1_ok (w : World) (X : Nat → Prop) (θ : List Loc) (x1 : List Lck) (i2 : Int) (x104 : (List Lck)) : ∀ (n : Nat) (x86 : List Lck) (i87 : Int), spec_FreeLocks_L1 x1 i2 n x86 i87 = some x104 → WL EE ⟨w, X, θ, 32, 1⟩ (subC [1, 1, 1, 0, 1, 4, 4] (bodyC Tryz.f95)) (fun (e : Exit) (s : St) => e = .exit 0 ∧ s = ⟨[(5, sF 1 x104)], [lR x1, lO x104]⟩) ⟨[(0, sF 0 x1), (1, I i2), (5, sF 1 x86), (6, I i87)], [lR x1, lO x86]⟩ := by
  intro n
  induction n with
  | zero => intro _ _ h; exact none_e h
  | succ n ih =>
    intro x86 i87 h
    rw [spec_FreeLocks_L1] at h
    refine WL_round ?_
    refine W_seq (Wsr ((Wp 4 [0, 1] [0, 1, 5, 6, 14] T3 ⟨[(0, sF 0 x1), (1, I i2), (5, sF 1 x86), (6, I i87), (14, B (decide (i87 < (lI x1))))], [lR x1, lO x86]⟩ t3 (Wnt ((iteO_e h (fun hb107 h => W_true rfl hb107 ?_) (fun hb107 h => W_false rfl hb107 ?_)))))))
    ·refine Ww [0, 1] [0, 1, 5, 6] ⟨[(0, sF 0 x1), (1, I i2), (5, sF 1 x86), (6, I i87)], [lR x1, lO x86]⟩ (W_skip (thenS_n (W_seq (W_block (Wsr ((guardO_e h (fun hg114 h => (Wp 7 [0, 1] [0, 1, 5, 6, 23] ((0 ≤ i87 ∧ i87 < (lI x1)) ∧ T3) ⟨[(0, sF 0 x1), (1, I i2), (5, sF 1 x86), (6, I i87), (23, B (!decide (((x1.getD i87.toNat dlck).who) = i2)))], [lR x1, lO x86]⟩ ⟨hg114, trivial, trivial, trivial⟩ (Wnt ((bindO_e h (fun x118 hx118 h => (W_cut (Q' := fun (e : Exit) (s : St) => e = .normal ∧ s = ⟨[(0, sF 0 x1), (1, I i2), (5, sF 1 x118), (6, I i87)], [lR x1, lO x118]⟩) ?_ ?_))))))))))))))
     ·refine iteO_e hx118 (fun hb120 hx118 => W_true rfl hb120 ?_) (fun hb120 hx118 => W_false rfl hb120 ?_)
      ·refine W_region (guardO_e hx118 (fun hg121 hx118 => (guardO_e hx118 (fun hg122 hx118 => (Wp 8 [0, 3] [0, 1, 5, 6] ((0 ≤ i87 ∧ i87 < (lI x1)) ∧ (True ∧ ((0 = 0 ∧ x86.length = x86.length ∧ x86.length + (([(⟨(x1.getD i87.toNat dlck).who, (x1.getD i87.toNat dlck).node, (x1.getD i87.toNat dlck).mode⟩ : Lck)].drop 0).take ([(⟨(x1.getD i87.toNat dlck).who, (x1.getD i87.toNat dlck).node, (x1.getD i87.toNat dlck).mode⟩ : Lck)].length)).length ≤ 1099511627776) ∧ True))) ⟨[(0, sF 0 x1), (1, I i2), (5, .one (.e (.sl 1 0 ((x86 ++ (([(⟨(x1.getD i87.toNat dlck).who, (x1.getD i87.toNat dlck).node, (x1.getD i87.toNat dlck).mode⟩ : Lck)].drop 0).take ([(⟨(x1.getD i87.toNat dlck).who, (x1.getD i87.toNat dlck).node, (x1.getD i87.toNat dlck).mode⟩ : Lck)].length))).length)))), (6, I i87)], [lR x1, .row .lck (x86 ++ (([(⟨(x1.getD i87.toNat dlck).who, (x1.getD i87.toNat dlck).node, (x1.getD i87.toNat dlck).mode⟩ : Lck)].drop 0).take ([(⟨(x1.getD i87.toNat dlck).who, (x1.getD i87.toNat dlck).node, (x1.getD i87.toNat dlck).mode⟩ : Lck)].length))) true]⟩ ⟨hg121, trivial, hg122, trivial⟩ (WO_nil rfl ?_))))))
       cases hx118
       exact aI rfl rfl
      ·refine Ww [0, 1] [0, 1, 5, 6] ⟨[(0, sF 0 x1), (1, I i2), (5, sF 1 x86), (6, I i87)], [lR x1, lO x86]⟩ (W_skip ?_)
       cases hx118
       exact aI rfl rfl
     ·rintro _ _ ⟨rfl, rfl⟩
      refine blockS_n (thenS_n (W_region (Wp 3 [0, 1] [0, 1, 5, 6] T2 ⟨[(0, sF 0 x1), (1, I i2), (5, sF 1 x118), (6, I (w64 (i87 + 1)))], [lR x1, lO x118]⟩ t2 (Wnt (?_)))))
      exact ih _ _ h
    ·refine Ww [0, 1] [5] ⟨[(5, sF 1 x86)], [lR x1, lO x86]⟩ (W_exit (thenS_e (thenS_e ?_)))
     cases h
     exact aI rfl rfl

def spec_FreeLocks (n : Nat) (x1 : List Lck) (i2 : Int) : Option ((List Lck)) :=
 bindO (spec_validTable n x1) fun b62 =>
 iteO (!b62)
 (some ([] : List Lck))
 (bindO (spec_FreeLocks_L1 x1 i2 n ([] : List Lck) 0) fun x104 =>
 some x104)

theorem spec_FreeLocks_ok (n : Nat) (x1 : List Lck) (i2 : Int) (x61 : List Lck) (h : spec_FreeLocks n x1 i2 = some x61) : FOk EE 95 [sF 0 x1, I i2] [lR x1] (sF 1 x61) [lR x1, lO x61] := by
  unfold spec_FreeLocks at h
  refine FOk_of_W 32 1 Tryz.func95 rfl rfl (Nat.le_of_ble_eq_true rfl) rfl (fun w X θ => ?_)
  refine Wsr ((Ws 1 [0] [0, 1] ⟨[(0, sF 0 x1), (1, I i2)], [lR x1]⟩ (Wnt ((W_seq (W_region ?_))))))
  refine Ws 2 [0, 1] [0, 1, 5] ⟨[(0, sF 0 x1), (1, I i2), (5, .one (.e (.sl 1 0 (([] : List Lck).length))))], [lR x1, lO ([] : List Lck)]⟩ (Wnt ((W_seq (Wsr ((Ws 1 [0, 1] [0, 1, 5, 8] ⟨[(0, sF 0 x1), (1, I i2), (5, .one (.e (.sl 1 0 (([] : List Lck).length)))), (8, sF 0 x1)], [lR x1, lO ([] : List Lck)]⟩ ?_))))))
  refine bindO_e h (fun b62 hc63 h => (Wc [.ro 0] rfl rfl rfl Tryz.func96 rfl (spec_validTable_ok n x1 b62 hc63) (aI (aI rfl rfl) (trivial)) rfl (Ws 1 [0, 1] [0, 1, 5, 10] ⟨[(0, sF 0 x1), (1, I i2), (5, .one (.e (.sl 1 0 (([] : List Lck).length)))), (10, B (!b62))], [lR x1, lO ([] : List Lck)]⟩ (Wnt ((iteO_e h (fun hb65 h => W_true rfl hb65 ?_) (fun hb65 h => W_false rfl hb65 ?_)))))))
  ·refine Wsr ((Ws 1 [0] [4] ⟨[(4, .one (.e (.nsl)))], [lR x1]⟩ (WO_nilrow 4 .lck rfl (Wb [0, 1] [4] ⟨[(4, .one (.e (.sl 1 0 (([] : List Lck).length))))], [lR x1, lO ([] : List Lck)]⟩ (Wnt ((W_ret (thenS_r ?_))))))))
   cases h
   exact ⟨[0, 1], True, by kernel_rfl, trivial⟩
  ·refine Ww [0, 1] [0, 1, 5] ⟨[(0, sF 0 x1), (1, I i2), (5, .one (.e (.sl 1 0 (([] : List Lck).length))))], [lR x1, lO ([] : List Lck)]⟩ (W_skip (thenS_n (W_seq (Wsr ((Ws 1 [0, 1] [0, 1, 5, 6] ⟨[(0, sF 0 x1), (1, I i2), (5, .one (.e (.sl 1 0 (([] : List Lck).length)))), (6, I 0)], [lR x1, lO ([] : List Lck)]⟩ (Wnt ((W_block (W_loop (bindO_e h (fun x104 hx104 h => (WL_cut (spec_FreeLocks_L1_ok w X θ x1 i2 x104 n ([] : List Lck) 0 hx104) ?_)))))))))))))
   rintro _ _ ⟨rfl, rfl⟩
   refine blockS_y (thenS_n (Wsr ((Ws 2 [0, 1] [4] ⟨[(4, sF 1 x104)], [lR x1, lO x104]⟩ (Wnt ((W_ret ?_)))))))
   cases h
   exact ⟨[0, 1], True, by kernel_rfl, trivial⟩

/- spec.desk).free -/
def spec_desk_free (n : Nat) (x1 : List Nod) (k2 : Nat) (x3 : List Lck) (k4 : Nat) (s5 : Str) : Option (Nat × (List Lck) × Str) :=
 bindO (spec_parseInt n s5) fun (i20, b21) =>
 iteO ((!b21) || (!(spec_inRange i20 0 3)))
 (some (k4, x3, [110, 111]))
 (bindO (spec_FreeLocks n ((x3.drop 0).take k4) i20) fun x28 =>
 some (x28.length, x28, [111, 107]))

theorem spec_desk_free_ok (n : Nat) (x1 : List Nod) (k2 : Nat) (x3 : List Lck) (k4 : Nat) (s5 : Str) (k17 : Nat) (x18 : List Lck) (s19 : Str) (h : spec_desk_free n x1 k2 x3 k4 s5 = some (k17, x18, s19)) : FOk EE 62 [pA 0 0, S s5] [.cells [.sl 1 0 k2, .sl 2 0 k4], nR x1, lO x3] (S s19) [.cells [.sl 1 0 k2, .sl 3 0 k17], nR x1, .dead, lO x18] := by
  unfold spec_desk_free at h
  refine FOk_of_W 28 3 Tryz.func62 rfl rfl (Nat.le_of_ble_eq_true rfl) rfl (fun w X θ => ?_)
  refine Wsr ((Ws 1 [0, 1, 2] [0, 1] ⟨[(0, pA 0 0), (1, S s5)], [.cells [.sl 1 0 k2, .sl 2 0 k4], nR x1, lO x3]⟩ (Wnt ((W_seq (W_region ?_))))))
  refine Ws 1 [0, 1, 2] [0, 8] ⟨[(0, pA 0 0), (8, S s5)], [.cells [.sl 1 0 k2, .sl 2 0 k4], nR x1, lO x3]⟩ (bindO_e h (fun v30 hc22 h => ?_))
  obtain ⟨i20, b21⟩ := v30
  refine Wc [] rfl rfl rfl Tryz.func42 rfl (spec_parseInt_ok n s5 i20 b21 hc22) (trivial) rfl (Ws 5 [0, 1, 2] [0, 5, 6] ⟨[(0, pA 0 0), (5, I i20), (6, B b21)], [.cells [.sl 1 0 k2, .sl 2 0 k4], nR x1, lO x3]⟩ (Wnt ((W_seq (W_seq (W_region ?_))))))
  refine Ws 3 [0, 1, 2] [0, 5, 14] ⟨[(0, pA 0 0), (5, I i20), (14, B (!b21))], [.cells [.sl 1 0 k2, .sl 2 0 k4], nR x1, lO x3]⟩ (WO_thru ⟨[(0, pA 0 0), (5, I i20), (18, B ((!b21) || (!(spec_inRange i20 0 3))))], [.cells [.sl 1 0 k2, .sl 2 0 k4], nR x1, lO x3]⟩ ?_ ?_)
  ·refine WO_if 14 rfl (fun hb25 => ?_) (fun hb25 => ?_)
   ·refine Ws 4 [0, 1, 2] [0, 5, 18] ⟨[(0, pA 0 0), (5, I i20), (18, B true)], [.cells [.sl 1 0 k2, .sl 2 0 k4], nR x1, lO x3]⟩ ?_
    exact WO_nil rfl ⟨rfl, by first | rfl | (rw [hb25]; first | done | rfl)⟩
   ·refine Ws 1 [0, 1, 2] [0, 5, 14, 15] ⟨[(0, pA 0 0), (5, I i20), (14, B false), (15, I i20)], [.cells [.sl 1 0 k2, .sl 2 0 k4], nR x1, lO x3]⟩ (Wc [] rfl rfl rfl Tryz.func71 rfl (spec_inRange_ok i20 0 3) (trivial) rfl (Ws 2 [0, 1, 2] [0, 5, 18] ⟨[(0, pA 0 0), (5, I i20), (18, B (!(spec_inRange i20 0 3)))], [.cells [.sl 1 0 k2, .sl 2 0 k4], nR x1, lO x3]⟩ ?_))
    exact WO_nil rfl ⟨rfl, by first | rfl | (rw [hb25]; first | done | rfl)⟩
  ·refine thenS_n (iteO_e h (fun hb27 h => W_true rfl hb27 ?_) (fun hb27 h => W_false rfl hb27 ?_))
   ·refine Wsr ((Ws 1 [0, 1, 2] [4] ⟨[(4, S [110, 111])], [.cells [.sl 1 0 k2, .sl 2 0 k4], nR x1, lO x3]⟩ (Wnt ((W_ret (thenS_r ?_))))))
    cases h
    exact ⟨[0, 1, 999, 2], True, by kernel_rfl, trivial⟩
   ·refine Ww [0, 1, 2] [0, 5] ⟨[(0, pA 0 0), (5, I i20)], [.cells [.sl 1 0 k2, .sl 2 0 k4], nR x1, lO x3]⟩ (W_skip (thenS_n (Wsr ((Wp 6 [0, 1, 2] [19, 23, 24] T2 ⟨[(19, pA 0 0), (23, SL 2 0 k4), (24, I i20)], [.cells [.sl 1 0 k2, .sl 2 0 k4], nR x1, lO x3]⟩ t2 (bindO_e h (fun x28 hc29 h => (Wc [.view 0] rfl rfl rfl Tryz.func95 rfl (spec_FreeLocks_ok n ((x3.drop 0).take k4) i20 x28 hc29) (trivial) rfl (Wp 3 [0, 1, 2, 3] [] T2 ⟨[], [.cells [.sl 1 0 k2, .sl 3 0 x28.length], nR x1, lO x3, lO x28]⟩ t2 (Wnt ((Wsr ((Ws 1 [0, 1, 2, 3] [4] ⟨[(4, S [111, 107])], [.cells [.sl 1 0 k2, .sl 3 0 x28.length], nR x1, lO x3, lO x28]⟩ (Wnt ((W_ret ?_)))))))))))))))))
    cases h
    exact ⟨[0, 1, 999, 3], True, by kernel_rfl, trivial⟩

/- spec.formatTree -/
def spec_formatTree_L1 (x1 : List Nod) : Nat → Str → Int → Option (Str)
| 0, _, _ => none
| n + 1, s123, i124 =>
 iteO (decide (i124 < ((x1.length : Nat) : Int)))
 (bindO (iteO (decide (0 < i124))
 (guardO (s123.length + [59, 32].length ≤ 1099511627776) <|
 some (s123 ++ [59, 32]))
 (some s123)) fun s171 =>
 bindO (spec_pathText n x1 i124) fun s175 =>
 guardO (s171.length + s175.length ≤ 1099511627776) <|
 guardO ((s171 ++ s175).length + [32].length ≤ 1099511627776) <|
 guardO (0 ≤ i124 ∧ i124 < ((x1.length : Nat) : Int)) <|
 bindO (spec_decimal n ((x1.getD i124.toNat dnod).value)) fun s180 =>
 guardO (((s171 ++ s175) ++ [32]).length + s180.length ≤ 1099511627776) <|
 spec_formatTree_L1 x1 n (((s171 ++ s175) ++ [32]) ++ s180) (w64 (i124 + 1)))
 (some s123)

theorem spec_formatTree_L1_ok (w : World) (X : Nat → Prop) (θ : List Loc) (x1 : List Nod) (s153 : Str) : ∀ (n : Nat) (s123 : Str) (i124 : Int), spec_formatTree_L1 x1 n s123 i124 = some s153 → WL EE ⟨w, X, θ, 29, 1⟩ (subC [1, 1, 0, 1, 4, 4] (bodyC Tryz.f46)) (fun (e : Exit) (s : St) => e = .exit 0 ∧ s = ⟨[(3, S s153)], [nR x1]⟩) ⟨[(0, sF 0 x1), (3, S s123), (4, I i124)], [nR x1]⟩ := by
  intro n
  induction n with
  | zero => intro _ _ h; exact none_e h
  | succ n ih =>
    intro s123 i124 h
    rw [spec_formatTree_L1] at h
    refine WL_round ?_
    refine W_seq (Wsr ((Wp 4 [0] [0, 3, 4, 8] T3 ⟨[(0, sF 0 x1), (3, S s123), (4, I i124), (8, B (decide (i124 < (lI x1))))], [nR x1]⟩ t3 (Wnt ((iteO_e h (fun hb156 h => W_true rfl hb156 ?_) (fun hb156 h => W_false rfl hb156 ?_)))))))
    ·refine Ww [0] [0, 3, 4] ⟨[(0, sF 0 x1), (3, S s123), (4, I i124)], [nR x1]⟩ (W_skip (thenS_n (W_seq (W_block (W_seq (Wsr ((Wp 2 [0] [0, 3, 4, 12] T2 ⟨[(0, sF 0 x1), (3, S s123), (4, I i124), (12, B (decide (0 < i124)))], [nR x1]⟩ t2 (Wnt ((bindO_e h (fun s171 hs171 h => (W_cut (Q' := fun (e : Exit) (s : St) => e = .normal ∧ s = ⟨[(0, sF 0 x1), (3, S s171), (4, I i124)], [nR x1]⟩) ?_ ?_)))))))))))))
     ·refine iteO_e hs171 (fun hb173 hs171 => W_true rfl hb173 ?_) (fun hb173 hs171 => W_false rfl hb173 ?_)
      ·refine W_region (guardO_e hs171 (fun hg174 hs171 => (Wp 3 [0] [0, 3, 4] ((s123.length + [59, 32].length ≤ 1099511627776) ∧ True) ⟨[(0, sF 0 x1), (3, S (s123 ++ [59, 32])), (4, I i124)], [nR x1]⟩ ⟨hg174, trivial⟩ (WO_nil rfl ?_))))
       cases hs171
       exact aI rfl rfl
      ·refine Ww [0] [0, 3, 4] ⟨[(0, sF 0 x1), (3, S s123), (4, I i124)], [nR x1]⟩ (W_skip ?_)
       cases hs171
       exact aI rfl rfl
     ·rintro _ _ ⟨rfl, rfl⟩
      refine thenS_n (bindO_e h (fun s175 hc176 h => (guardO_e h (fun hg177 h => (guardO_e h (fun hg178 h => (guardO_e h (fun hg179 h => (bindO_e h (fun s180 hc181 h => (guardO_e h (fun hg182 h => (W_cut (Q' := fun (e : Exit) (s : St) => e = .normal ∧ s = ⟨[(0, sF 0 x1), (3, S (((s171 ++ s175) ++ [32]) ++ s180)), (4, I i124)], [nR x1]⟩) ?_ ?_)))))))))))))
      ·refine W_draw [] false (by kernel_rfl) (by kernel_rfl) (WD_takeQ [0, 1, 2, 6, 7, 8, 9, 10] [0, 3, 4, 15, 16, 17, 25] [0, 3, 4, 15, 16, 17, 25] (φ := ((0 ≤ i124 ∧ i124 < (lI x1)) ∧ (0 ≤ i124 ∧ i124 < (lI x1)) ∧ (True ∧ True ∧ True))) (ls' := (tf true [3, 3, 5, 3])) (st' := ⟨[(0, sF 0 x1), (3, S s171), (4, I i124), (15, S s171), (16, sF 0 x1), (17, I i124), (25, I ((x1.getD i124.toNat dnod).value))], [nR x1]⟩) (n2 := 6) (by kernel_rfl) ⟨hg179, hg179, trivial, trivial, trivial⟩ rfl (WD_all [3] (n := 5) (by kernel_rfl) rfl (WM_call [.ro 0] Tryz.f72 rfl rfl (by kernel_rfl) Tryz.func72 rfl (by kernel_rfl) (spec_pathText_ok n x1 i124 s175 hc176) (aI (aI rfl rfl) (trivial)) rfl (aI rfl (trivial)) (WD_takeQ [4, 5] [0, 3, 4, 20, 25] [0, 3, 4, 20, 25] (φ := ((s171.length + s175.length ≤ 1099511627776) ∧ (s171.length + s175.length ≤ 1099511627776) ∧ (((s171 ++ s175).length + [32].length ≤ 1099511627776) ∧ ((s171 ++ s175).length + [32].length ≤ 1099511627776) ∧ True))) (ls' := (tf true [11, 3])) (st' := ⟨[(0, sF 0 x1), (3, S s171), (4, I i124), (20, S ((s171 ++ s175) ++ [32])), (25, I ((x1.getD i124.toNat dnod).value))], [nR x1]⟩) (n2 := 3) (by kernel_rfl) ⟨hg177, hg177, hg178, hg178, trivial⟩ rfl (WD_all [11] (n := 2) (by kernel_rfl) rfl (WM_call [] Tryz.f24 rfl rfl (by kernel_rfl) Tryz.func24 rfl (by kernel_rfl) (spec_decimal_ok n ((x1.getD i124.toNat dnod).value) s180 hc181) (trivial) rfl (aI rfl (trivial)) (WD_takeQ [12, 13] [0, 3, 4] [0, 3, 4] (φ := ((((s171 ++ s175) ++ [32]).length + s180.length ≤ 1099511627776) ∧ (((s171 ++ s175) ++ [32]).length + s180.length ≤ 1099511627776) ∧ True)) (ls' := (tf true [14])) (st' := ⟨[(0, sF 0 x1), (3, S (((s171 ++ s175) ++ [32]) ++ s180)), (4, I i124)], [nR x1]⟩) (n2 := 0) (by kernel_rfl) ⟨hg182, hg182, trivial⟩ rfl ?_)))))))
       exact WD_done [0] [0, 3, 4] (st' := ⟨[(0, sF 0 x1), (3, S (((s171 ++ s175) ++ [32]) ++ s180)), (4, I i124)], [nR x1]⟩) (by kernel_rfl) (by kernel_rfl) (aI rfl rfl)
      ·rintro _ _ ⟨rfl, rfl⟩
       refine blockS_n (thenS_n (W_region (Wp 3 [0] [0, 3, 4] T2 ⟨[(0, sF 0 x1), (3, S (((s171 ++ s175) ++ [32]) ++ s180)), (4, I (w64 (i124 + 1)))], [nR x1]⟩ t2 (Wnt (?_)))))
       exact ih _ _ h
    ·refine Ww [0] [3] ⟨[(3, S s123)], [nR x1]⟩ (W_exit (thenS_e (thenS_e ?_)))
     cases h
     exact aI rfl rfl

def spec_formatTree (n : Nat) (x1 : List Nod) : Option (Str) :=
 bindO (spec_formatTree_L1 x1 n [] 0) fun s153 =>
 some s153

theorem spec_formatTree_ok (n : Nat) (x1 : List Nod) (s90 : Str) (h : spec_formatTree n x1 = some s90) : FOk EE 46 [sF 0 x1] [nR x1] (S s90) [nR x1] := by
  unfold spec_formatTree at h
  refine FOk_of_W 29 1 Tryz.func46 rfl rfl (Nat.le_of_ble_eq_true rfl) rfl (fun w X θ => ?_)
  refine Wsr ((Ws 1 [0] [0] ⟨[(0, sF 0 x1)], [nR x1]⟩ (Wnt ((W_seq (W_region ?_))))))
  refine Ws 1 [0] [0, 3] ⟨[(0, sF 0 x1), (3, S [])], [nR x1]⟩ (Wnt ((W_seq (Wsr ((Ws 1 [0] [0, 3, 4] ⟨[(0, sF 0 x1), (3, S []), (4, I 0)], [nR x1]⟩ ?_))))))
  refine Wnt ((W_block (W_loop (bindO_e h (fun s153 hs153 h => (WL_cut (spec_formatTree_L1_ok w X θ x1 s153 n [] 0 hs153) ?_))))))
  rintro _ _ ⟨rfl, rfl⟩
  refine blockS_y (thenS_n (Wsr ((Ws 2 [0] [2] ⟨[(2, S s153)], [nR x1]⟩ (Wnt (?_))))))
  refine W_ret ?_
  cases h
  exact ⟨[0], True, by kernel_rfl, trivial⟩

/- spec.FormatLocks -/
def spec_FormatLocks_L1 (x1 : List Lck) : Nat → Str → Int → Option (Str)
| 0, _, _ => none
| n + 1, s179, i180 =>
 iteO (decide (i180 < ((x1.length : Nat) : Int)))
 (bindO (iteO (decide (0 < i180))
 (guardO (s179.length + [59, 32].length ≤ 1099511627776) <|
 some (s179 ++ [59, 32]))
 (some s179)) fun s245 =>
 guardO (0 ≤ i180 ∧ i180 < ((x1.length : Nat) : Int)) <|
 bindO (spec_decimal n ((x1.getD i180.toNat dlck).who)) fun s250 =>
 guardO (s245.length + s250.length ≤ 1099511627776) <|
 guardO ((s245 ++ s250).length + [32].length ≤ 1099511627776) <|
 guardO (0 ≤ i180 ∧ i180 < ((x1.length : Nat) : Int)) <|
 bindO (spec_decimal n ((x1.getD i180.toNat dlck).node)) fun s255 =>
 guardO (((s245 ++ s250) ++ [32]).length + s255.length ≤ 1099511627776) <|
 guardO ((((s245 ++ s250) ++ [32]) ++ s255).length + [32].length ≤ 1099511627776) <|
 guardO (0 ≤ i180 ∧ i180 < ((x1.length : Nat) : Int)) <|
 bindO (spec_decimal n ((x1.getD i180.toNat dlck).mode)) fun s260 =>
 guardO (((((s245 ++ s250) ++ [32]) ++ s255) ++ [32]).length + s260.length ≤ 1099511627776) <|
 spec_FormatLocks_L1 x1 n (((((s245 ++ s250) ++ [32]) ++ s255) ++ [32]) ++ s260) (w64 (i180 + 1)))
 (some s179)

theorem spec_FormatLocks_L1_ok (w : World) (X : Nat → Prop) (θ : List Loc) (x1 : List Lck) (s221 : Str) : ∀ (n : Nat) (s179 : Str) (i180 : Int), spec_FormatLocks_L1 x1 n s179 i180 = some s221 → WL EE ⟨w, X, θ, 43, 1⟩ (subC [1, 1, 1, 0, 1, 4, 4] (bodyC Tryz.f63)) (fun (e : Exit) (s : St) => e = .exit 0 ∧ s = ⟨[(3, S s221)], [lR x1]⟩) ⟨[(0, sF 0 x1), (3, S s179), (4, I i180)], [lR x1]⟩ := by
  intro n
  induction n with
  | zero => intro _ _ h; exact none_e h
  | succ n ih =>
    intro s179 i180 h
    rw [spec_FormatLocks_L1] at h
    refine WL_round ?_
    refine W_seq (Wsr ((Wp 4 [0] [0, 3, 4, 11] T3 ⟨[(0, sF 0 x1), (3, S s179), (4, I i180), (11, B (decide (i180 < (lI x1))))], [lR x1]⟩ t3 (Wnt ((iteO_e h (fun hb224 h => W_true rfl hb224 ?_) (fun hb224 h => W_false rfl hb224 ?_)))))))
    ·refine Ww [0] [0, 3, 4] ⟨[(0, sF 0 x1), (3, S s179), (4, I i180)], [lR x1]⟩ (W_skip (thenS_n (W_seq (W_block (W_seq (Wsr ((Wp 2 [0] [0, 3, 4, 15] T2 ⟨[(0, sF 0 x1), (3, S s179), (4, I i180), (15, B (decide (0 < i180)))], [lR x1]⟩ t2 (Wnt ((bindO_e h (fun s245 hs245 h => (W_cut (Q' := fun (e : Exit) (s : St) => e = .normal ∧ s = ⟨[(0, sF 0 x1), (3, S s245), (4, I i180)], [lR x1]⟩) ?_ ?_)))))))))))))
     ·refine iteO_e hs245 (fun hb247 hs245 => W_true rfl hb247 ?_) (fun hb247 hs245 => W_false rfl hb247 ?_)
      ·refine W_region (guardO_e hs245 (fun hg248 hs245 => (Wp 3 [0] [0, 3, 4] ((s179.length + [59, 32].length ≤ 1099511627776) ∧ True) ⟨[(0, sF 0 x1), (3, S (s179 ++ [59, 32])), (4, I i180)], [lR x1]⟩ ⟨hg248, trivial⟩ (WO_nil rfl ?_))))
       cases hs245
       exact aI rfl rfl
      ·refine Ww [0] [0, 3, 4] ⟨[(0, sF 0 x1), (3, S s179), (4, I i180)], [lR x1]⟩ (W_skip ?_)
       cases hs245
       exact aI rfl rfl
     ·rintro _ _ ⟨rfl, rfl⟩
      refine thenS_n (guardO_e h (fun hg249 h => (bindO_e h (fun s250 hc251 h => (guardO_e h (fun hg252 h => (guardO_e h (fun hg253 h => (guardO_e h (fun hg254 h => (bindO_e h (fun s255 hc256 h => (guardO_e h (fun hg257 h => (guardO_e h (fun hg258 h => (guardO_e h (fun hg259 h => (bindO_e h (fun s260 hc261 h => (guardO_e h (fun hg262 h => (W_cut (Q' := fun (e : Exit) (s : St) => e = .normal ∧ s = ⟨[(0, sF 0 x1), (3, S (((((s245 ++ s250) ++ [32]) ++ s255) ++ [32]) ++ s260)), (4, I i180)], [lR x1]⟩) ?_ ?_)))))))))))))))))))))))
      ·refine W_draw [] false (by kernel_rfl) (by kernel_rfl) (WD_takeQ [0, 1, 2, 3, 4, 5, 9, 10, 11, 12, 13, 17, 18, 19, 20, 21] [0, 3, 4, 18, 23, 31, 39] [0, 3, 4, 18, 23, 31, 39] (φ := ((0 ≤ i180 ∧ i180 < (lI x1)) ∧ (0 ≤ i180 ∧ i180 < (lI x1)) ∧ (True ∧ True ∧ ((0 ≤ i180 ∧ i180 < (lI x1)) ∧ (0 ≤ i180 ∧ i180 < (lI x1)) ∧ (True ∧ True ∧ ((0 ≤ i180 ∧ i180 < (lI x1)) ∧ (0 ≤ i180 ∧ i180 < (lI x1)) ∧ (True ∧ True ∧ True))))))) (ls' := (tf true [6, 3, 5, 3, 5, 3])) (st' := ⟨[(0, sF 0 x1), (3, S s245), (4, I i180), (18, S s245), (23, I ((x1.getD i180.toNat dlck).who)), (31, I ((x1.getD i180.toNat dlck).node)), (39, I ((x1.getD i180.toNat dlck).mode))], [lR x1]⟩) (n2 := 9) (by kernel_rfl) ⟨hg249, hg249, trivial, trivial, hg254, hg254, trivial, trivial, hg259, hg259, trivial, trivial, trivial⟩ rfl (WD_all [6] (n := 8) (by kernel_rfl) rfl (WM_call [] Tryz.f24 rfl rfl (by kernel_rfl) Tryz.func24 rfl (by kernel_rfl) (spec_decimal_ok n ((x1.getD i180.toNat dlck).who) s250 hc251) (trivial) rfl (aI rfl (trivial)) (WD_takeQ [7, 8] [0, 3, 4, 26, 31, 39] [0, 3, 4, 26, 31, 39] (φ := ((s245.length + s250.length ≤ 1099511627776) ∧ (s245.length + s250.length ≤ 1099511627776) ∧ (((s245 ++ s250).length + [32].length ≤ 1099511627776) ∧ ((s245 ++ s250).length + [32].length ≤ 1099511627776) ∧ True))) (ls' := (tf true [14, 3, 5, 3])) (st' := ⟨[(0, sF 0 x1), (3, S s245), (4, I i180), (26, S ((s245 ++ s250) ++ [32])), (31, I ((x1.getD i180.toNat dlck).node)), (39, I ((x1.getD i180.toNat dlck).mode))], [lR x1]⟩) (n2 := 6) (by kernel_rfl) ⟨hg252, hg252, hg253, hg253, trivial⟩ rfl (WD_all [14] (n := 5) (by kernel_rfl) rfl (WM_call [] Tryz.f24 rfl rfl (by kernel_rfl) Tryz.func24 rfl (by kernel_rfl) (spec_decimal_ok n ((x1.getD i180.toNat dlck).node) s255 hc256) (trivial) rfl (aI rfl (trivial)) (WD_takeQ [15, 16] [0, 3, 4, 34, 39] [0, 3, 4, 34, 39] (φ := ((((s245 ++ s250) ++ [32]).length + s255.length ≤ 1099511627776) ∧ (((s245 ++ s250) ++ [32]).length + s255.length ≤ 1099511627776) ∧ (((((s245 ++ s250) ++ [32]) ++ s255).length + [32].length ≤ 1099511627776) ∧ ((((s245 ++ s250) ++ [32]) ++ s255).length + [32].length ≤ 1099511627776) ∧ True))) (ls' := (tf true [22, 3])) (st' := ⟨[(0, sF 0 x1), (3, S s245), (4, I i180), (34, S ((((s245 ++ s250) ++ [32]) ++ s255) ++ [32])), (39, I ((x1.getD i180.toNat dlck).mode))], [lR x1]⟩) (n2 := 3) (by kernel_rfl) ⟨hg257, hg257, hg258, hg258, trivial⟩ rfl (WD_all [22] (n := 2) (by kernel_rfl) rfl (WM_call [] Tryz.f24 rfl rfl (by kernel_rfl) Tryz.func24 rfl (by kernel_rfl) (spec_decimal_ok n ((x1.getD i180.toNat dlck).mode) s260 hc261) (trivial) rfl (aI rfl (trivial)) (WD_takeQ [23, 24] [0, 3, 4] [0, 3, 4] (φ := ((((((s245 ++ s250) ++ [32]) ++ s255) ++ [32]).length + s260.length ≤ 1099511627776) ∧ (((((s245 ++ s250) ++ [32]) ++ s255) ++ [32]).length + s260.length ≤ 1099511627776) ∧ True)) (ls' := (tf true [25])) (st' := ⟨[(0, sF 0 x1), (3, S (((((s245 ++ s250) ++ [32]) ++ s255) ++ [32]) ++ s260)), (4, I i180)], [lR x1]⟩) (n2 := 0) (by kernel_rfl) ⟨hg262, hg262, trivial⟩ rfl ?_))))))))))
       exact WD_done [0] [0, 3, 4] (st' := ⟨[(0, sF 0 x1), (3, S (((((s245 ++ s250) ++ [32]) ++ s255) ++ [32]) ++ s260)), (4, I i180)], [lR x1]⟩) (by kernel_rfl) (by kernel_rfl) (aI rfl rfl)
      ·rintro _ _ ⟨rfl, rfl⟩
       refine blockS_n (thenS_n (W_region (Wp 3 [0] [0, 3, 4] T2 ⟨[(0, sF 0 x1), (3, S (((((s245 ++ s250) ++ [32]) ++ s255) ++ [32]) ++ s260)), (4, I (w64 (i180 + 1)))], [lR x1]⟩ t2 (Wnt (?_)))))
       exact ih _ _ h
    ·refine Ww [0] [3] ⟨[(3, S s179)], [lR x1]⟩ (W_exit (thenS_e (thenS_e ?_)))
     cases h
     exact aI rfl rfl

def spec_FormatLocks (n : Nat) (x1 : List Lck) : Option (Str) :=
 bindO (spec_validTable n x1) fun b131 =>
 iteO (!b131)
 (some [])
 (bindO (spec_FormatLocks_L1 x1 n [] 0) fun s221 =>
 some s221)

theorem spec_FormatLocks_ok (n : Nat) (x1 : List Lck) (s130 : Str) (h : spec_FormatLocks n x1 = some s130) : FOk EE 63 [sF 0 x1] [lR x1] (S s130) [lR x1] := by
  unfold spec_FormatLocks at h
  refine FOk_of_W 43 1 Tryz.func63 rfl rfl (Nat.le_of_ble_eq_true rfl) rfl (fun w X θ => ?_)
  refine Wsr ((Ws 1 [0] [0] ⟨[(0, sF 0 x1)], [lR x1]⟩ (Wnt ((W_seq (W_region ?_))))))
  refine Ws 1 [0] [0, 3] ⟨[(0, sF 0 x1), (3, S [])], [lR x1]⟩ (Wnt ((W_seq (Wsr ((Ws 1 [0] [0, 3, 5] ⟨[(0, sF 0 x1), (3, S []), (5, sF 0 x1)], [lR x1]⟩ ?_))))))
  refine bindO_e h (fun b131 hc132 h => (Wc [.ro 0] rfl rfl rfl Tryz.func96 rfl (spec_validTable_ok n x1 b131 hc132) (aI (aI rfl rfl) (trivial)) rfl (Ws 1 [0] [0, 3, 7] ⟨[(0, sF 0 x1), (3, S []), (7, B (!b131))], [lR x1]⟩ (Wnt ((iteO_e h (fun hb134 h => W_true rfl hb134 ?_) (fun hb134 h => W_false rfl hb134 ?_)))))))
  ·refine Wsr ((Ws 1 [0] [2] ⟨[(2, S [])], [lR x1]⟩ (Wnt ((W_ret (thenS_r ?_))))))
   cases h
   exact ⟨[0], True, by kernel_rfl, trivial⟩
  ·refine Ww [0] [0, 3] ⟨[(0, sF 0 x1), (3, S [])], [lR x1]⟩ (W_skip (thenS_n (W_seq (Wsr ((Ws 1 [0] [0, 3, 4] ⟨[(0, sF 0 x1), (3, S []), (4, I 0)], [lR x1]⟩ (Wnt ((W_block (W_loop (bindO_e h (fun s221 hs221 h => (WL_cut (spec_FormatLocks_L1_ok w X θ x1 s221 n [] 0 hs221) ?_)))))))))))))
   rintro _ _ ⟨rfl, rfl⟩
   refine blockS_y (thenS_n (Wsr ((Ws 2 [0] [2] ⟨[(2, S s221)], [lR x1]⟩ (Wnt ((W_ret ?_)))))))
   cases h
   exact ⟨[0], True, by kernel_rfl, trivial⟩

/- spec.desk).line -/
def spec_desk_line (n : Nat) (x1 : List Nod) (k2 : Nat) (x3 : List Lck) (k4 : Nat) (s5 : Str) : Option (Nat × Nat × (List Nod) × (List Lck) × Str) :=
 bindO (spec_splitAt n s5 32) fun x2321 =>
 guardO (0 ≤ (0 : Int) ∧ (0 : Int) < ((x2321.length : Nat) : Int)) <|
 iteO ((decide ((x2321.getD 0 []) = [115, 101, 116])) && (decide (((x2321.length : Nat) : Int) = 4)))
 (guardO (0 ≤ (1 : Int) ∧ (1 : Int) < ((x2321.length : Nat) : Int)) <|
 guardO (0 ≤ (2 : Int) ∧ (2 : Int) < ((x2321.length : Nat) : Int)) <|
 guardO (0 ≤ (3 : Int) ∧ (3 : Int) < ((x2321.length : Nat) : Int)) <|
 bindO (spec_desk_set n x1 k2 x3 k4 (x2321.getD 1 []) (x2321.getD 2 []) (x2321.getD 3 [])) fun (k4060, x4061, s4062) =>
 some (k4060, k4, x4061, x3, s4062))
 (guardO (0 ≤ (0 : Int) ∧ (0 : Int) < ((x2321.length : Nat) : Int)) <|
 iteO ((decide ((x2321.getD 0 []) = [103, 101, 116])) && (decide (((x2321.length : Nat) : Int) = 3)))
 (guardO (0 ≤ (1 : Int) ∧ (1 : Int) < ((x2321.length : Nat) : Int)) <|
 guardO (0 ≤ (2 : Int) ∧ (2 : Int) < ((x2321.length : Nat) : Int)) <|
 bindO (spec_desk_get n x1 k2 x3 k4 (x2321.getD 1 []) (x2321.getD 2 [])) fun s4353 =>
 some (k2, k4, x1, x3, s4353))
 (guardO (0 ≤ (0 : Int) ∧ (0 : Int) < ((x2321.length : Nat) : Int)) <|
 iteO ((decide ((x2321.getD 0 []) = [114, 101, 97, 100])) && (decide (((x2321.length : Nat) : Int) = 3)))
 (guardO (0 ≤ (1 : Int) ∧ (1 : Int) < ((x2321.length : Nat) : Int)) <|
 guardO (0 ≤ (2 : Int) ∧ (2 : Int) < ((x2321.length : Nat) : Int)) <|
 bindO (spec_desk_lock n x1 k2 x3 k4 (x2321.getD 1 []) (x2321.getD 2 []) 3) fun (k4498, x4499, s4500) =>
 some (k2, k4498, x1, x4499, s4500))
 (guardO (0 ≤ (0 : Int) ∧ (0 : Int) < ((x2321.length : Nat) : Int)) <|
 iteO ((decide ((x2321.getD 0 []) = [119, 114, 105, 116, 101])) && (decide (((x2321.length : Nat) : Int) = 3)))
 (guardO (0 ≤ (1 : Int) ∧ (1 : Int) < ((x2321.length : Nat) : Int)) <|
 guardO (0 ≤ (2 : Int) ∧ (2 : Int) < ((x2321.length : Nat) : Int)) <|
 bindO (spec_desk_lock n x1 k2 x3 k4 (x2321.getD 1 []) (x2321.getD 2 []) 5) fun (k4572, x4573, s4574) =>
 some (k2, k4572, x1, x4573, s4574))
 (guardO (0 ≤ (0 : Int) ∧ (0 : Int) < ((x2321.length : Nat) : Int)) <|
 iteO ((decide ((x2321.getD 0 []) = [102, 114, 101, 101])) && (decide (((x2321.length : Nat) : Int) = 2)))
 (guardO (0 ≤ (1 : Int) ∧ (1 : Int) < ((x2321.length : Nat) : Int)) <|
 bindO (spec_desk_free n x1 k2 x3 k4 (x2321.getD 1 [])) fun (k4608, x4609, s4610) =>
 some (k2, k4608, x1, x4609, s4610))
 (iteO (decide (s5 = [116, 114, 101, 101]))
 (bindO (spec_formatTree n ((x1.drop 0).take k2)) fun s4623 =>
 some (k2, k4, x1, x3, s4623))
 (iteO (decide (s5 = [108, 111, 99, 107, 115]))
 (bindO (spec_FormatLocks n ((x3.drop 0).take k4)) fun s4629 =>
 some (k2, k4, x1, x3, s4629))
 (some (k2, k4, x1, x3, [119, 104, 97, 116]))))))))

theorem spec_desk_line_ok (n : Nat) (x1 : List Nod) (k2 : Nat) (x3 : List Lck) (k4 : Nat) (s5 : Str) (k2316 : Nat) (k2317 : Nat) (x2318 : List Nod) (x2319 : List Lck) (s2320 : Str) (h : spec_desk_line n x1 k2 x3 k4 s5 = some (k2316, k2317, x2318, x2319, s2320)) : FOk EE 34 [pA 0 0, S s5] [.cells [.sl 1 0 k2, .sl 2 0 k4], nO x1, lO x3] (S s2320) [.cells [.sl 3 0 k2316, .sl 4 0 k2317], .dead, .dead, nO x2318, lO x2319] := by
  unfold spec_desk_line at h
  refine FOk_of_W 114 3 Tryz.func34 rfl rfl (Nat.le_of_ble_eq_true rfl) rfl (fun w X θ => ?_)
  refine Wsr ((Ws 1 [0, 1, 2] [0, 1] ⟨[(0, pA 0 0), (1, S s5)], [.cells [.sl 1 0 k2, .sl 2 0 k4], nO x1, lO x3]⟩ (Wnt ((W_seq (W_region ?_))))))
  refine Ws 1 [0, 1, 2] [0, 1, 6] ⟨[(0, pA 0 0), (1, S s5), (6, S s5)], [.cells [.sl 1 0 k2, .sl 2 0 k4], nO x1, lO x3]⟩ (bindO_e h (fun x2321 hc2322 h => (Wc [] rfl rfl rfl Tryz.func41 rfl (spec_splitAt_ok n s5 32 x2321 hc2322) (trivial) rfl (Ws 1 [0, 1, 2, 3] [0, 1, 5] ⟨[(0, pA 0 0), (1, S s5), (5, sF 3 x2321)], [.cells [.sl 1 0 k2, .sl 2 0 k4], nO x1, lO x3, sO x2321]⟩ (Wnt ((W_seq ?_)))))))
  refine W_block (Wsr ((guardO_e h (fun hg3477 h => (Wp 5 [0, 1, 2, 3] [0, 1, 5, 13] ((0 ≤ (0 : Int) ∧ (0 : Int) < (lI x2321)) ∧ T3) ⟨[(0, pA 0 0), (1, S s5), (5, sF 3 x2321), (13, B (decide ((x2321.getD 0 []) = [115, 101, 116])))], [.cells [.sl 1 0 k2, .sl 2 0 k4], nO x1, lO x3, sO x2321]⟩ ⟨hg3477, trivial, trivial, trivial⟩ (WO_thru ⟨[(0, pA 0 0), (1, S s5), (5, sF 3 x2321), (8, B ((decide ((x2321.getD 0 []) = [115, 101, 116])) && (decide ((lI x2321) = 4))))], [.cells [.sl 1 0 k2, .sl 2 0 k4], nO x1, lO x3, sO x2321]⟩ ?_ ?_))))))
  ·refine WO_if 13 rfl (fun hb3480 => ?_) (fun hb3480 => ?_)
   ·refine Wp 5 [0, 1, 2, 3] [0, 1, 5, 8] T3 ⟨[(0, pA 0 0), (1, S s5), (5, sF 3 x2321), (8, B (decide ((lI x2321) = 4)))], [.cells [.sl 1 0 k2, .sl 2 0 k4], nO x1, lO x3, sO x2321]⟩ t3 ?_
    exact WO_nil rfl ⟨rfl, by first | rfl | (rw [hb3480]; first | done | rfl)⟩
   ·refine Ws 5 [0, 1, 2, 3] [0, 1, 5, 8] ⟨[(0, pA 0 0), (1, S s5), (5, sF 3 x2321), (8, B false)], [.cells [.sl 1 0 k2, .sl 2 0 k4], nO x1, lO x3, sO x2321]⟩ ?_
    exact WO_nil rfl ⟨rfl, by first | rfl | (rw [hb3480]; first | done | rfl)⟩
  ·refine thenS_n (iteO_e h (fun hb4056 h => W_true rfl hb4056 ?_) (fun hb4056 h => W_false rfl hb4056 ?_))
   ·refine W_seq (guardO_e h (fun hg4057 h => (guardO_e h (fun hg4058 h => (guardO_e h (fun hg4059 h => (bindO_e h (fun v4064 hc4063 h => ?_))))))))
    obtain ⟨k4060, x4061, s4062⟩ := v4064
    refine W_cut (Q' := fun (e : Exit) (s : St) => e = .normal ∧ s = ⟨[(4, S s4062)], [.cells [.sl 3 0 k4060, .sl 2 0 k4], .dead, lO x3, nO x4061]⟩) ?_ ?_
    ·refine W_draw [0, 1] false (by kernel_rfl) (by kernel_rfl) (WD_takeQ [0, 1, 2, 3, 4, 5, 6, 7, 8, 9] [18, 21, 24, 27] [18, 21, 24, 27] (φ := ((0 ≤ (1 : Int) ∧ (1 : Int) < (lI x2321)) ∧ (0 ≤ (1 : Int) ∧ (1 : Int) < (lI x2321)) ∧ (True ∧ True ∧ ((0 ≤ (2 : Int) ∧ (2 : Int) < (lI x2321)) ∧ (0 ≤ (2 : Int) ∧ (2 : Int) < (lI x2321)) ∧ (True ∧ True ∧ ((0 ≤ (3 : Int) ∧ (3 : Int) < (lI x2321)) ∧ (0 ≤ (3 : Int) ∧ (3 : Int) < (lI x2321)) ∧ (True ∧ True ∧ True))))))) (ls' := (tf true [10, 2])) (st' := ⟨[(18, pA 0 0), (21, S (x2321.getD 1 [])), (24, S (x2321.getD 2 [])), (27, S (x2321.getD 3 []))], [.cells [.sl 1 0 k2, .sl 2 0 k4], nO x1, lO x3, sO x2321]⟩) (n2 := 2) (by kernel_rfl) ⟨hg4057, hg4057, trivial, trivial, hg4058, hg4058, trivial, trivial, hg4059, hg4059, trivial, trivial, trivial⟩ rfl (WD_all [10] (n := 1) (by kernel_rfl) rfl (WM_call [.own 0, .own 1, .ro 2] Tryz.f59 rfl rfl (by kernel_rfl) Tryz.func59 rfl (by kernel_rfl) (spec_desk_set_ok n x1 k2 x3 k4 (x2321.getD 1 []) (x2321.getD 2 []) (x2321.getD 3 []) k4060 x4061 s4062 hc4063) (aI (trivial) (aI (trivial) (aI (aI rfl rfl) (trivial)))) rfl (aI rfl (aI rfl (trivial))) (WD_takeQ [11] [4] [4] (φ := True) (ls' := (tf true [12])) (st' := ⟨[(4, S s4062)], [.cells [.sl 4 0 k4060, .sl 2 0 k4], .dead, lO x3, sO x2321, nO x4061]⟩) (n2 := 0) (by kernel_rfl) trivial rfl ?_))))
     exact WD_done [0, 1, 2, 4] [4] (st' := ⟨[(4, S s4062)], [.cells [.sl 3 0 k4060, .sl 2 0 k4], .dead, lO x3, nO x4061]⟩) (by kernel_rfl) (by kernel_rfl) (aI rfl rfl)
    ·rintro _ _ ⟨rfl, rfl⟩
     refine thenS_n (W_ret (blockS_r (thenS_r ?_)))
     cases h
     exact ⟨[0, 1, 999, 3, 2], True, by kernel_rfl, trivial⟩
   ·refine Wsr ((guardO_e h (fun hg4065 h => (Wp 5 [0, 1, 2, 3] [0, 1, 5, 34] ((0 ≤ (0 : Int) ∧ (0 : Int) < (lI x2321)) ∧ T3) ⟨[(0, pA 0 0), (1, S s5), (5, sF 3 x2321), (34, B (decide ((x2321.getD 0 []) = [103, 101, 116])))], [.cells [.sl 1 0 k2, .sl 2 0 k4], nO x1, lO x3, sO x2321]⟩ ⟨hg4065, trivial, trivial, trivial⟩ (WO_thru ⟨[(0, pA 0 0), (1, S s5), (5, sF 3 x2321), (29, B ((decide ((x2321.getD 0 []) = [103, 101, 116])) && (decide ((lI x2321) = 3))))], [.cells [.sl 1 0 k2, .sl 2 0 k4], nO x1, lO x3, sO x2321]⟩ ?_ ?_)))))
    ·refine WO_if 34 rfl (fun hb4068 => ?_) (fun hb4068 => ?_)
     ·refine Wp 5 [0, 1, 2, 3] [0, 1, 5, 29] T3 ⟨[(0, pA 0 0), (1, S s5), (5, sF 3 x2321), (29, B (decide ((lI x2321) = 3)))], [.cells [.sl 1 0 k2, .sl 2 0 k4], nO x1, lO x3, sO x2321]⟩ t3 ?_
      exact WO_nil rfl ⟨rfl, by first | rfl | (rw [hb4068]; first | done | rfl)⟩
     ·refine Ws 5 [0, 1, 2, 3] [0, 1, 5, 29] ⟨[(0, pA 0 0), (1, S s5), (5, sF 3 x2321), (29, B false)], [.cells [.sl 1 0 k2, .sl 2 0 k4], nO x1, lO x3, sO x2321]⟩ ?_
      exact WO_nil rfl ⟨rfl, by first | rfl | (rw [hb4068]; first | done | rfl)⟩
    ·refine thenS_n (iteO_e h (fun hb4350 h => W_true rfl hb4350 ?_) (fun hb4350 h => W_false rfl hb4350 ?_))
     ·refine W_seq (guardO_e h (fun hg4351 h => (guardO_e h (fun hg4352 h => (bindO_e h (fun s4353 hc4354 h => (W_cut (Q' := fun (e : Exit) (s : St) => e = .normal ∧ s = ⟨[(4, S s4353)], [.cells [.sl 1 0 k2, .sl 2 0 k4], nO x1, lO x3]⟩) ?_ ?_)))))))
      ·refine W_draw [0] false (by kernel_rfl) (by kernel_rfl) (WD_takeQ [0, 1, 2, 3, 4, 5, 6] [39, 42, 45] [39, 42, 45] (φ := ((0 ≤ (1 : Int) ∧ (1 : Int) < (lI x2321)) ∧ (0 ≤ (1 : Int) ∧ (1 : Int) < (lI x2321)) ∧ (True ∧ True ∧ ((0 ≤ (2 : Int) ∧ (2 : Int) < (lI x2321)) ∧ (0 ≤ (2 : Int) ∧ (2 : Int) < (lI x2321)) ∧ (True ∧ True ∧ True))))) (ls' := (tf true [7, 2])) (st' := ⟨[(39, pA 0 0), (42, S (x2321.getD 1 [])), (45, S (x2321.getD 2 []))], [.cells [.sl 1 0 k2, .sl 2 0 k4], nO x1, lO x3, sO x2321]⟩) (n2 := 2) (by kernel_rfl) ⟨hg4351, hg4351, trivial, trivial, hg4352, hg4352, trivial, trivial, trivial⟩ rfl (WD_all [7] (n := 1) (by kernel_rfl) rfl (WM_call [.own 0, .ro 1, .ro 2] Tryz.f60 rfl rfl (by kernel_rfl) Tryz.func60 rfl (by kernel_rfl) (spec_desk_get_ok n x1 k2 x3 k4 (x2321.getD 1 []) (x2321.getD 2 []) s4353 hc4354) (aI (trivial) (aI (aI rfl rfl) (aI (aI rfl rfl) (trivial)))) rfl (aI rfl (aI rfl (aI rfl (trivial)))) (WD_takeQ [8] [4] [4] (φ := True) (ls' := (tf true [9])) (st' := ⟨[(4, S s4353)], [.cells [.sl 1 0 k2, .sl 2 0 k4], nO x1, lO x3, sO x2321]⟩) (n2 := 0) (by kernel_rfl) trivial rfl ?_))))
       exact WD_done [0, 1, 2] [4] (st' := ⟨[(4, S s4353)], [.cells [.sl 1 0 k2, .sl 2 0 k4], nO x1, lO x3]⟩) (by kernel_rfl) (by kernel_rfl) (aI rfl rfl)
      ·rintro _ _ ⟨rfl, rfl⟩
       refine thenS_n (W_ret (blockS_r (thenS_r ?_)))
       cases h
       exact ⟨[0, 999, 999, 1, 2], True, by kernel_rfl, trivial⟩
     ·refine Wsr ((guardO_e h (fun hg4355 h => (Wp 5 [0, 1, 2, 3] [0, 1, 5, 52] ((0 ≤ (0 : Int) ∧ (0 : Int) < (lI x2321)) ∧ T3) ⟨[(0, pA 0 0), (1, S s5), (5, sF 3 x2321), (52, B (decide ((x2321.getD 0 []) = [114, 101, 97, 100])))], [.cells [.sl 1 0 k2, .sl 2 0 k4], nO x1, lO x3, sO x2321]⟩ ⟨hg4355, trivial, trivial, trivial⟩ (WO_thru ⟨[(0, pA 0 0), (1, S s5), (5, sF 3 x2321), (47, B ((decide ((x2321.getD 0 []) = [114, 101, 97, 100])) && (decide ((lI x2321) = 3))))], [.cells [.sl 1 0 k2, .sl 2 0 k4], nO x1, lO x3, sO x2321]⟩ ?_ ?_)))))
      ·refine WO_if 52 rfl (fun hb4358 => ?_) (fun hb4358 => ?_)
       ·refine Wp 5 [0, 1, 2, 3] [0, 1, 5, 47] T3 ⟨[(0, pA 0 0), (1, S s5), (5, sF 3 x2321), (47, B (decide ((lI x2321) = 3)))], [.cells [.sl 1 0 k2, .sl 2 0 k4], nO x1, lO x3, sO x2321]⟩ t3 ?_
        exact WO_nil rfl ⟨rfl, by first | rfl | (rw [hb4358]; first | done | rfl)⟩
       ·refine Ws 5 [0, 1, 2, 3] [0, 1, 5, 47] ⟨[(0, pA 0 0), (1, S s5), (5, sF 3 x2321), (47, B false)], [.cells [.sl 1 0 k2, .sl 2 0 k4], nO x1, lO x3, sO x2321]⟩ ?_
        exact WO_nil rfl ⟨rfl, by first | rfl | (rw [hb4358]; first | done | rfl)⟩
      ·refine thenS_n (iteO_e h (fun hb4495 h => W_true rfl hb4495 ?_) (fun hb4495 h => W_false rfl hb4495 ?_))
       ·refine W_seq (guardO_e h (fun hg4496 h => (guardO_e h (fun hg4497 h => (bindO_e h (fun v4502 hc4501 h => ?_))))))
        obtain ⟨k4498, x4499, s4500⟩ := v4502
        refine W_cut (Q' := fun (e : Exit) (s : St) => e = .normal ∧ s = ⟨[(4, S s4500)], [.cells [.sl 1 0 k2, .sl 3 0 k4498], nO x1, .dead, lO x4499]⟩) ?_ ?_
        ·refine W_draw [0, 2] false (by kernel_rfl) (by kernel_rfl) (WD_takeQ [0, 1, 2, 3, 4, 5, 6] [57, 60, 63] [57, 60, 63] (φ := ((0 ≤ (1 : Int) ∧ (1 : Int) < (lI x2321)) ∧ (0 ≤ (1 : Int) ∧ (1 : Int) < (lI x2321)) ∧ (True ∧ True ∧ ((0 ≤ (2 : Int) ∧ (2 : Int) < (lI x2321)) ∧ (0 ≤ (2 : Int) ∧ (2 : Int) < (lI x2321)) ∧ (True ∧ True ∧ True))))) (ls' := (tf true [7, 2])) (st' := ⟨[(57, pA 0 0), (60, S (x2321.getD 1 [])), (63, S (x2321.getD 2 []))], [.cells [.sl 1 0 k2, .sl 2 0 k4], nO x1, lO x3, sO x2321]⟩) (n2 := 2) (by kernel_rfl) ⟨hg4496, hg4496, trivial, trivial, hg4497, hg4497, trivial, trivial, trivial⟩ rfl (WD_all [7] (n := 1) (by kernel_rfl) rfl (WM_call [.own 0, .ro 1, .own 2] Tryz.f61 rfl rfl (by kernel_rfl) Tryz.func61 rfl (by kernel_rfl) (spec_desk_lock_ok n x1 k2 x3 k4 (x2321.getD 1 []) (x2321.getD 2 []) 3 k4498 x4499 s4500 hc4501) (aI (trivial) (aI (aI rfl rfl) (aI (trivial) (trivial)))) rfl (aI rfl (aI rfl (trivial))) (WD_takeQ [8] [4] [4] (φ := True) (ls' := (tf true [9])) (st' := ⟨[(4, S s4500)], [.cells [.sl 1 0 k2, .sl 4 0 k4498], nO x1, .dead, sO x2321, lO x4499]⟩) (n2 := 0) (by kernel_rfl) trivial rfl ?_))))
         exact WD_done [0, 1, 2, 4] [4] (st' := ⟨[(4, S s4500)], [.cells [.sl 1 0 k2, .sl 3 0 k4498], nO x1, .dead, lO x4499]⟩) (by kernel_rfl) (by kernel_rfl) (aI rfl rfl)
        ·rintro _ _ ⟨rfl, rfl⟩
         refine thenS_n (W_ret (blockS_r (thenS_r ?_)))
         cases h
         exact ⟨[0, 999, 2, 1, 3], True, by kernel_rfl, trivial⟩
       ·refine Wsr ((guardO_e h (fun hg4503 h => (Wp 5 [0, 1, 2, 3] [0, 1, 5, 70] ((0 ≤ (0 : Int) ∧ (0 : Int) < (lI x2321)) ∧ T3) ⟨[(0, pA 0 0), (1, S s5), (5, sF 3 x2321), (70, B (decide ((x2321.getD 0 []) = [119, 114, 105, 116, 101])))], [.cells [.sl 1 0 k2, .sl 2 0 k4], nO x1, lO x3, sO x2321]⟩ ⟨hg4503, trivial, trivial, trivial⟩ (WO_thru ⟨[(0, pA 0 0), (1, S s5), (5, sF 3 x2321), (65, B ((decide ((x2321.getD 0 []) = [119, 114, 105, 116, 101])) && (decide ((lI x2321) = 3))))], [.cells [.sl 1 0 k2, .sl 2 0 k4], nO x1, lO x3, sO x2321]⟩ ?_ ?_)))))
        ·refine WO_if 70 rfl (fun hb4506 => ?_) (fun hb4506 => ?_)
         ·refine Wp 5 [0, 1, 2, 3] [0, 1, 5, 65] T3 ⟨[(0, pA 0 0), (1, S s5), (5, sF 3 x2321), (65, B (decide ((lI x2321) = 3)))], [.cells [.sl 1 0 k2, .sl 2 0 k4], nO x1, lO x3, sO x2321]⟩ t3 ?_
          exact WO_nil rfl ⟨rfl, by first | rfl | (rw [hb4506]; first | done | rfl)⟩
         ·refine Ws 5 [0, 1, 2, 3] [0, 1, 5, 65] ⟨[(0, pA 0 0), (1, S s5), (5, sF 3 x2321), (65, B false)], [.cells [.sl 1 0 k2, .sl 2 0 k4], nO x1, lO x3, sO x2321]⟩ ?_
          exact WO_nil rfl ⟨rfl, by first | rfl | (rw [hb4506]; first | done | rfl)⟩
        ·refine thenS_n (iteO_e h (fun hb4569 h => W_true rfl hb4569 ?_) (fun hb4569 h => W_false rfl hb4569 ?_))
         ·refine W_seq (guardO_e h (fun hg4570 h => (guardO_e h (fun hg4571 h => (bindO_e h (fun v4576 hc4575 h => ?_))))))
          obtain ⟨k4572, x4573, s4574⟩ := v4576
          refine W_cut (Q' := fun (e : Exit) (s : St) => e = .normal ∧ s = ⟨[(4, S s4574)], [.cells [.sl 1 0 k2, .sl 3 0 k4572], nO x1, .dead, lO x4573]⟩) ?_ ?_
          ·refine W_draw [0, 2] false (by kernel_rfl) (by kernel_rfl) (WD_takeQ [0, 1, 2, 3, 4, 5, 6] [75, 78, 81] [75, 78, 81] (φ := ((0 ≤ (1 : Int) ∧ (1 : Int) < (lI x2321)) ∧ (0 ≤ (1 : Int) ∧ (1 : Int) < (lI x2321)) ∧ (True ∧ True ∧ ((0 ≤ (2 : Int) ∧ (2 : Int) < (lI x2321)) ∧ (0 ≤ (2 : Int) ∧ (2 : Int) < (lI x2321)) ∧ (True ∧ True ∧ True))))) (ls' := (tf true [7, 2])) (st' := ⟨[(75, pA 0 0), (78, S (x2321.getD 1 [])), (81, S (x2321.getD 2 []))], [.cells [.sl 1 0 k2, .sl 2 0 k4], nO x1, lO x3, sO x2321]⟩) (n2 := 2) (by kernel_rfl) ⟨hg4570, hg4570, trivial, trivial, hg4571, hg4571, trivial, trivial, trivial⟩ rfl (WD_all [7] (n := 1) (by kernel_rfl) rfl (WM_call [.own 0, .ro 1, .own 2] Tryz.f61 rfl rfl (by kernel_rfl) Tryz.func61 rfl (by kernel_rfl) (spec_desk_lock_ok n x1 k2 x3 k4 (x2321.getD 1 []) (x2321.getD 2 []) 5 k4572 x4573 s4574 hc4575) (aI (trivial) (aI (aI rfl rfl) (aI (trivial) (trivial)))) rfl (aI rfl (aI rfl (trivial))) (WD_takeQ [8] [4] [4] (φ := True) (ls' := (tf true [9])) (st' := ⟨[(4, S s4574)], [.cells [.sl 1 0 k2, .sl 4 0 k4572], nO x1, .dead, sO x2321, lO x4573]⟩) (n2 := 0) (by kernel_rfl) trivial rfl ?_))))
           exact WD_done [0, 1, 2, 4] [4] (st' := ⟨[(4, S s4574)], [.cells [.sl 1 0 k2, .sl 3 0 k4572], nO x1, .dead, lO x4573]⟩) (by kernel_rfl) (by kernel_rfl) (aI rfl rfl)
          ·rintro _ _ ⟨rfl, rfl⟩
           refine thenS_n (W_ret (blockS_r (thenS_r ?_)))
           cases h
           exact ⟨[0, 999, 2, 1, 3], True, by kernel_rfl, trivial⟩
         ·refine Wsr ((guardO_e h (fun hg4577 h => (Wp 5 [0, 1, 2, 3] [0, 1, 5, 88] ((0 ≤ (0 : Int) ∧ (0 : Int) < (lI x2321)) ∧ T3) ⟨[(0, pA 0 0), (1, S s5), (5, sF 3 x2321), (88, B (decide ((x2321.getD 0 []) = [102, 114, 101, 101])))], [.cells [.sl 1 0 k2, .sl 2 0 k4], nO x1, lO x3, sO x2321]⟩ ⟨hg4577, trivial, trivial, trivial⟩ (WO_thru ⟨[(0, pA 0 0), (1, S s5), (5, sF 3 x2321), (83, B ((decide ((x2321.getD 0 []) = [102, 114, 101, 101])) && (decide ((lI x2321) = 2))))], [.cells [.sl 1 0 k2, .sl 2 0 k4], nO x1, lO x3, sO x2321]⟩ ?_ ?_)))))
          ·refine WO_if 88 rfl (fun hb4580 => ?_) (fun hb4580 => ?_)
           ·refine Wp 5 [0, 1, 2, 3] [0, 1, 5, 83] T3 ⟨[(0, pA 0 0), (1, S s5), (5, sF 3 x2321), (83, B (decide ((lI x2321) = 2)))], [.cells [.sl 1 0 k2, .sl 2 0 k4], nO x1, lO x3, sO x2321]⟩ t3 ?_
            exact WO_nil rfl ⟨rfl, by first | rfl | (rw [hb4580]; first | done | rfl)⟩
           ·refine Ws 5 [0, 1, 2, 3] [0, 1, 5, 83] ⟨[(0, pA 0 0), (1, S s5), (5, sF 3 x2321), (83, B false)], [.cells [.sl 1 0 k2, .sl 2 0 k4], nO x1, lO x3, sO x2321]⟩ ?_
            exact WO_nil rfl ⟨rfl, by first | rfl | (rw [hb4580]; first | done | rfl)⟩
          ·refine thenS_n (iteO_e h (fun hb4606 h => W_true rfl hb4606 ?_) (fun hb4606 h => W_false rfl hb4606 ?_))
           ·refine Wsr ((guardO_e h (fun hg4607 h => (Wp 4 [0, 1, 2] [93, 96] ((0 ≤ (1 : Int) ∧ (1 : Int) < (lI x2321)) ∧ T2) ⟨[(93, pA 0 0), (96, S (x2321.getD 1 []))], [.cells [.sl 1 0 k2, .sl 2 0 k4], nO x1, lO x3]⟩ ⟨hg4607, trivial, trivial⟩ (bindO_e h (fun v4612 hc4611 h => ?_))))))
            obtain ⟨k4608, x4609, s4610⟩ := v4612
            refine Wc [.own 0, .ro 1, .own 2] rfl rfl rfl Tryz.func62 rfl (spec_desk_free_ok n x1 k2 x3 k4 (x2321.getD 1 []) k4608 x4609 s4610 hc4611) (aI (trivial) (aI (aI rfl rfl) (aI (trivial) (trivial)))) rfl (Ws 1 [0, 1, 2, 3] [4] ⟨[(4, S s4610)], [.cells [.sl 1 0 k2, .sl 3 0 k4608], nO x1, .dead, lO x4609]⟩ (Wnt ((W_ret (blockS_r (thenS_r ?_))))))
            cases h
            exact ⟨[0, 999, 2, 1, 3], True, by kernel_rfl, trivial⟩
           ·refine Wsr ((Wp 3 [0, 1, 2] [0, 1, 98] T2 ⟨[(0, pA 0 0), (1, S s5), (98, B (decide (s5 = [116, 114, 101, 101])))], [.cells [.sl 1 0 k2, .sl 2 0 k4], nO x1, lO x3]⟩ t2 (Wnt ((iteO_e h (fun hb4622 h => W_true rfl hb4622 ?_) (fun hb4622 h => W_false rfl hb4622 ?_))))))
            ·refine Wsr ((Wp 4 [0, 1, 2] [104] T2 ⟨[(104, SL 1 0 k2)], [.cells [.sl 1 0 k2, .sl 2 0 k4], nO x1, lO x3]⟩ t2 (bindO_e h (fun s4623 hc4624 h => (Wc [.view 0] rfl rfl rfl Tryz.func46 rfl (spec_formatTree_ok n ((x1.drop 0).take k2) s4623 hc4624) (trivial) rfl (Ws 1 [0, 1, 2] [4] ⟨[(4, S s4623)], [.cells [.sl 1 0 k2, .sl 2 0 k4], nO x1, lO x3]⟩ (Wnt ((W_ret (blockS_r (thenS_r ?_)))))))))))
             cases h
             exact ⟨[0, 999, 999, 1, 2], True, by kernel_rfl, trivial⟩
            ·refine Wsr ((Wp 3 [0, 1, 2] [0, 106] T2 ⟨[(0, pA 0 0), (106, B (decide (s5 = [108, 111, 99, 107, 115])))], [.cells [.sl 1 0 k2, .sl 2 0 k4], nO x1, lO x3]⟩ t2 (Wnt ((iteO_e h (fun hb4628 h => W_true rfl hb4628 ?_) (fun hb4628 h => W_false rfl hb4628 ?_))))))
             ·refine Wsr ((Wp 4 [0, 1, 2] [112] T2 ⟨[(112, SL 2 0 k4)], [.cells [.sl 1 0 k2, .sl 2 0 k4], nO x1, lO x3]⟩ t2 (bindO_e h (fun s4629 hc4630 h => (Wc [.view 0] rfl rfl rfl Tryz.func63 rfl (spec_FormatLocks_ok n ((x3.drop 0).take k4) s4629 hc4630) (trivial) rfl (Ws 1 [0, 1, 2] [4] ⟨[(4, S s4629)], [.cells [.sl 1 0 k2, .sl 2 0 k4], nO x1, lO x3]⟩ (Wnt ((W_ret (blockS_r (thenS_r ?_)))))))))))
              cases h
              exact ⟨[0, 999, 999, 1, 2], True, by kernel_rfl, trivial⟩
             ·refine Ww [0, 1, 2] [] ⟨[], [.cells [.sl 1 0 k2, .sl 2 0 k4], nO x1, lO x3]⟩ (W_skip (blockS_n (thenS_n (Wsr ((Ws 1 [0, 1, 2] [4] ⟨[(4, S [119, 104, 97, 116])], [.cells [.sl 1 0 k2, .sl 2 0 k4], nO x1, lO x3]⟩ (Wnt ((W_ret ?_)))))))))
              cases h
              exact ⟨[0, 999, 999, 1, 2], True, by kernel_rfl, trivial⟩

/- spec.RunSession -/
def spec_RunSession_L1 (x1 : List Str) : Nat → Nat → Nat → (List Nod) → (List Lck) → Str → Int → Option (Str)
| 0, _, _, _, _, _, _ => none
| n + 1, k145, k146, x147, x148, s149, i150 =>
 iteO ((decide (i150 < ((x1.length : Nat) : Int))) && (decide (i150 < 20)))
 (guardO (0 ≤ i150 ∧ i150 < ((x1.length : Nat) : Int)) <|
 bindO (spec_desk_line n x147 k145 x148 k146 (x1.getD i150.toNat [])) fun (k200, k201, x202, x203, s204) =>
 guardO (s149.length + s204.length ≤ 1099511627776) <|
 guardO ((s149 ++ s204).length + [10].length ≤ 1099511627776) <|
 spec_RunSession_L1 x1 n k200 k201 x202 x203 ((s149 ++ s204) ++ [10]) (w64 (i150 + 1)))
 (some s149)

theorem spec_RunSession_L1_ok (w : World) (X : Nat → Prop) (θ : List Loc) (x1 : List Str) (s182 : Str) : ∀ (n : Nat) (k145 : Nat) (k146 : Nat) (x147 : List Nod) (x148 : List Lck) (s149 : Str) (i150 : Int), spec_RunSession_L1 x1 n k145 k146 x147 x148 s149 i150 = some s182 → WL EE ⟨w, X, θ, 31, 1⟩ (subC [1, 1, 1, 0, 1, 4, 4] (bodyC Tryz.f12)) (fun (e : Exit) (s : St) => e = .exit 0 ∧ s = ⟨[(4, S s182)], [sR x1]⟩) ⟨[(0, sF 0 x1), (3, pA 1 0), (4, S s149), (5, I i150)], [sR x1, .cells [.sl 2 0 k145, .sl 3 0 k146], nO x147, lO x148]⟩ := by
  intro n
  induction n with
  | zero => intro _ _ _ _ _ _ h; exact none_e h
  | succ n ih =>
    intro k145 k146 x147 x148 s149 i150 h
    rw [spec_RunSession_L1] at h
    refine WL_round ?_
    refine W_seq (Wsr ((Wp 5 [0, 1, 2, 3] [0, 3, 4, 5, 15] T3 ⟨[(0, sF 0 x1), (3, pA 1 0), (4, S s149), (5, I i150), (15, B (decide (i150 < (lI x1))))], [sR x1, .cells [.sl 2 0 k145, .sl 3 0 k146], nO x147, lO x148]⟩ t3 (WO_thru ⟨[(0, sF 0 x1), (3, pA 1 0), (4, S s149), (5, I i150), (18, B ((decide (i150 < (lI x1))) && (decide (i150 < 20))))], [sR x1, .cells [.sl 2 0 k145, .sl 3 0 k146], nO x147, lO x148]⟩ ?_ ?_))))
    ·refine WO_if 15 rfl (fun hb186 => ?_) (fun hb186 => ?_)
     ·refine Wp 3 [0, 1, 2, 3] [0, 3, 4, 5, 18] T2 ⟨[(0, sF 0 x1), (3, pA 1 0), (4, S s149), (5, I i150), (18, B (decide (i150 < 20)))], [sR x1, .cells [.sl 2 0 k145, .sl 3 0 k146], nO x147, lO x148]⟩ t2 ?_
      exact WO_nil rfl ⟨rfl, by first | rfl | (rw [hb186]; first | done | rfl)⟩
     ·refine Ws 3 [0, 1, 2, 3] [0, 3, 4, 5, 18] ⟨[(0, sF 0 x1), (3, pA 1 0), (4, S s149), (5, I i150), (18, B false)], [sR x1, .cells [.sl 2 0 k145, .sl 3 0 k146], nO x147, lO x148]⟩ ?_
      exact WO_nil rfl ⟨rfl, by first | rfl | (rw [hb186]; first | done | rfl)⟩
    ·refine thenS_n (iteO_e h (fun hb188 h => W_true rfl hb188 ?_) (fun hb188 h => W_false rfl hb188 ?_))
     ·refine Ww [0, 1, 2, 3] [0, 3, 4, 5] ⟨[(0, sF 0 x1), (3, pA 1 0), (4, S s149), (5, I i150)], [sR x1, .cells [.sl 2 0 k145, .sl 3 0 k146], nO x147, lO x148]⟩ (W_skip (thenS_n (W_seq (W_block (W_region (guardO_e h (fun hg199 h => (Wp 6 [0, 1, 2, 3] [0, 3, 5, 21, 22, 26] ((0 ≤ i150 ∧ i150 < (lI x1)) ∧ T2) ⟨[(0, sF 0 x1), (3, pA 1 0), (5, I i150), (21, S s149), (22, pA 1 0), (26, S (x1.getD i150.toNat []))], [sR x1, .cells [.sl 2 0 k145, .sl 3 0 k146], nO x147, lO x148]⟩ ⟨hg199, trivial, trivial⟩ (bindO_e h (fun v208 hc205 h => ?_))))))))))
      obtain ⟨k200, k201, x202, x203, s204⟩ := v208
      refine Wc [.own 1, .own 2, .own 3] rfl rfl rfl Tryz.func34 rfl (spec_desk_line_ok n x147 k145 x148 k146 (x1.getD i150.toNat []) k200 k201 x202 x203 s204 hc205) (aI (trivial) (aI (trivial) (aI (trivial) (trivial)))) rfl (guardO_e h (fun hg206 h => (guardO_e h (fun hg207 h => (Wp 3 [0, 1, 4, 5] [0, 3, 4, 5] ((s149.length + s204.length ≤ 1099511627776) ∧ (((s149 ++ s204).length + [10].length ≤ 1099511627776) ∧ True)) ⟨[(0, sF 0 x1), (3, pA 1 0), (4, S ((s149 ++ s204) ++ [10])), (5, I i150)], [sR x1, .cells [.sl 2 0 k200, .sl 3 0 k201], nO x202, lO x203]⟩ ⟨hg206, hg207, trivial⟩ (WO_nil rfl (blockS_n (thenS_n (W_region (Wp 3 [0, 1, 2, 3] [0, 3, 4, 5] T2 ⟨[(0, sF 0 x1), (3, pA 1 0), (4, S ((s149 ++ s204) ++ [10])), (5, I (w64 (i150 + 1)))], [sR x1, .cells [.sl 2 0 k200, .sl 3 0 k201], nO x202, lO x203]⟩ t2 (Wnt (?_))))))))))))
      exact ih _ _ _ _ _ _ h
     ·refine Ww [0] [4] ⟨[(4, S s149)], [sR x1]⟩ (W_exit (thenS_e (thenS_e ?_)))
      cases h
      exact aI rfl rfl

def spec_RunSession (n : Nat) (x1 : List Str) : Option (Str) :=
 bindO (spec_RunSession_L1 x1 n ([(⟨(-1), [], 0⟩ : Nod)].length) (([] : List Lck).length) [(⟨(-1), [], 0⟩ : Nod)] ([] : List Lck) [] 0) fun s182 =>
 some s182

theorem spec_RunSession_ok (n : Nat) (x1 : List Str) (s105 : Str) (h : spec_RunSession n x1 = some s105) : FOk EE 12 [sF 0 x1] [sR x1] (S s105) [sR x1] := by
  unfold spec_RunSession at h
  refine FOk_of_W 31 1 Tryz.func12 rfl rfl (Nat.le_of_ble_eq_true rfl) rfl (fun w X θ => ?_)
  refine Wsr ((Ws 1 [0] [0] ⟨[(0, sF 0 x1)], [sR x1]⟩ (Wnt ((W_seq (W_region ?_))))))
  refine Wp 6 [0, 3, 1, 2] [0, 3] T2 ⟨[(0, sF 0 x1), (3, pA 1 0)], [sR x1, .cells [.sl 2 0 ([(⟨(-1), [], 0⟩ : Nod)].length), .sl 3 0 (([] : List Lck).length)], .row .nod [(⟨(-1), [], 0⟩ : Nod)] true, lO ([] : List Lck)]⟩ t2 (Wnt ((Wsr ((Ws 1 [0, 1, 2, 3] [0, 3, 4] ⟨[(0, sF 0 x1), (3, pA 1 0), (4, S [])], [sR x1, .cells [.sl 2 0 ([(⟨(-1), [], 0⟩ : Nod)].length), .sl 3 0 (([] : List Lck).length)], .row .nod [(⟨(-1), [], 0⟩ : Nod)] true, lO ([] : List Lck)]⟩ (WO_nil rfl ?_))))))
  refine thenS_n (W_seq (Wsr ((Ws 1 [0, 1, 2, 3] [0, 3, 4, 5] ⟨[(0, sF 0 x1), (3, pA 1 0), (4, S []), (5, I 0)], [sR x1, .cells [.sl 2 0 ([(⟨(-1), [], 0⟩ : Nod)].length), .sl 3 0 (([] : List Lck).length)], .row .nod [(⟨(-1), [], 0⟩ : Nod)] true, lO ([] : List Lck)]⟩ (Wnt (?_))))))
  refine W_block (W_loop (bindO_e h (fun s182 hs182 h => (WL_cut (spec_RunSession_L1_ok w X θ x1 s182 n ([(⟨(-1), [], 0⟩ : Nod)].length) (([] : List Lck).length) [(⟨(-1), [], 0⟩ : Nod)] ([] : List Lck) [] 0 hs182) ?_))))
  rintro _ _ ⟨rfl, rfl⟩
  refine blockS_y (thenS_n (Wsr ((Ws 2 [0] [2] ⟨[(2, S s182)], [sR x1]⟩ (Wnt (?_))))))
  refine W_ret ?_
  cases h
  exact ⟨[0], True, by kernel_rfl, trivial⟩

/- laws.FnSessionRead -/
def cstr1 : Str := [111, 107, 10, 111, 107, 10, 111, 107, 10, 111, 107, 10, 111, 107, 10, 111, 107, 10, 111, 107, 10, 111, 107, 10, 49, 10, 110, 111, 10, 111, 107, 10, 110, 111, 10, 111, 107, 10, 111, 107, 10, 111, 107, 10, 111, 107, 10]

/- laws.FnSessionRead -/
def laws_FnSessionRead (n : Nat) (x1 : List Int) : Option (Bool) :=
 iteO (decide (1048576 < ((x1.length : Nat) : Int)))
 (some true)
 (bindO (spec_DrawRunSession n x1) fun x17 =>
 bindO (impl_RunSession n x17) fun s19 =>
 bindO (spec_RunSession n x17) fun s21 =>
 iteO (!decide (s19 = s21))
 (some false)
 (bindO (impl_RunSession n [[119, 114, 105, 116, 101, 32, 48, 32, 47], [115, 101, 116, 32, 48, 32, 47, 97, 32, 49], [115, 101, 116, 32, 48, 32, 47, 98, 32, 50], [102, 114, 101, 101, 32, 48], [114, 101, 97, 100, 32, 48, 32, 47, 97], [114, 101, 97, 100, 32, 49, 32, 47, 97], [119, 114, 105, 116, 101, 32, 50, 32, 47, 98], [115, 101, 116, 32, 50, 32, 47, 98, 32, 57], [103, 101, 116, 32, 48, 32, 47, 97], [103, 101, 116, 32, 49, 32, 47, 98], [115, 101, 116, 32, 50, 32, 47, 98, 47, 99, 32, 52], [119, 114, 105, 116, 101, 32, 50, 32, 47, 97], [114, 101, 97, 100, 32, 50, 32, 47], [102, 114, 101, 101, 32, 48], [102, 114, 101, 101, 32, 49], [119, 114, 105, 116, 101, 32, 50, 32, 47, 97]]) fun s25 =>
 some (decide (s25 = cstr1))))

theorem laws_FnSessionRead_ok (n : Nat) (x1 : List Int) (b14 : Bool) (h : laws_FnSessionRead n x1 = some b14) : FOk EE 4 [sF 0 x1] [uR x1] (B b14) [uR x1] := by
  unfold laws_FnSessionRead at h
  refine FOk_of_W 21 1 Tryz.func4 rfl rfl (Nat.le_of_ble_eq_true rfl) rfl (fun w X θ => ?_)
  refine Wsr ((Ws 1 [0] [0] ⟨[(0, sF 0 x1)], [uR x1]⟩ (Wnt ((W_seq (W_seq ?_))))))
  refine W_region (Wp 3 [0] [0, 8] T3 ⟨[(0, sF 0 x1), (8, B (decide (1048576 < (lI x1))))], [uR x1]⟩ t3 (Wnt ((iteO_e h (fun hb16 h => W_true rfl hb16 ?_) (fun hb16 h => W_false rfl hb16 ?_)))))
  ·refine Wsr ((Ws 1 [0] [2] ⟨[(2, B true)], [uR x1]⟩ (Wnt ((W_ret (thenS_r ?_))))))
   cases h
   exact ⟨[0], True, by kernel_rfl, trivial⟩
  ·refine Ww [0] [0] ⟨[(0, sF 0 x1)], [uR x1]⟩ (W_skip (thenS_n (Wsr ((Ws 1 [0] [9] ⟨[(9, sF 0 x1)], [uR x1]⟩ (bindO_e h (fun x17 hc18 h => (Wc [.ro 0] rfl rfl rfl Tryz.func10 rfl (spec_DrawRunSession_ok n x1 x17 hc18) (aI (aI rfl rfl) (trivial)) rfl (Ws 1 [0, 1] [3] ⟨[(3, sF 1 x17)], [uR x1, sO x17]⟩ (Wnt ((Wsr ((Ws 1 [0, 1] [3, 11] ⟨[(3, sF 1 x17), (11, sF 1 x17)], [uR x1, sO x17]⟩ (bindO_e h (fun s19 hc20 h => (Wc [.ro 1] rfl rfl rfl Tryz.func11 rfl (impl_RunSession_ok n x17 s19 hc20) (aI (aI rfl rfl) (trivial)) rfl (Ws 1 [0, 1] [3, 4] ⟨[(3, sF 1 x17), (4, S s19)], [uR x1, sO x17]⟩ (Wnt ((W_seq (Wsr ((Ws 2 [0, 1] [13, 14] ⟨[(13, S s19), (14, sF 1 x17)], [uR x1, sO x17]⟩ (bindO_e h (fun s21 hc22 h => (Wc [.ro 1] rfl rfl rfl Tryz.func12 rfl (spec_RunSession_ok n x17 s21 hc22) (aI (aI rfl rfl) (trivial)) rfl (Wp 1 [0] [16] T2 ⟨[(16, B (!decide (s19 = s21)))], [uR x1]⟩ t2 (Wnt ((iteO_e h (fun hb24 h => W_true rfl hb24 ?_) (fun hb24 h => W_false rfl hb24 ?_))))))))))))))))))))))))))))))))
   ·refine Wsr ((Ws 1 [0] [2] ⟨[(2, B false)], [uR x1]⟩ (Wnt ((W_ret (thenS_r ?_))))))
    cases h
    exact ⟨[0], True, by kernel_rfl, trivial⟩
   ·refine Ww [0] [] ⟨[], [uR x1]⟩ (W_skip (thenS_n (Wsr ((Ws 1 [0, 1] [17] ⟨[(17, SL 1 0 ([[119, 114, 105, 116, 101, 32, 48, 32, 47], [115, 101, 116, 32, 48, 32, 47, 97, 32, 49], [115, 101, 116, 32, 48, 32, 47, 98, 32, 50], [102, 114, 101, 101, 32, 48], [114, 101, 97, 100, 32, 48, 32, 47, 97], [114, 101, 97, 100, 32, 49, 32, 47, 97], [119, 114, 105, 116, 101, 32, 50, 32, 47, 98], [115, 101, 116, 32, 50, 32, 47, 98, 32, 57], [103, 101, 116, 32, 48, 32, 47, 97], [103, 101, 116, 32, 49, 32, 47, 98], [115, 101, 116, 32, 50, 32, 47, 98, 47, 99, 32, 52], [119, 114, 105, 116, 101, 32, 50, 32, 47, 97], [114, 101, 97, 100, 32, 50, 32, 47], [102, 114, 101, 101, 32, 48], [102, 114, 101, 101, 32, 49], [119, 114, 105, 116, 101, 32, 50, 32, 47, 97]].length))], [uR x1, .row .str [[119, 114, 105, 116, 101, 32, 48, 32, 47], [115, 101, 116, 32, 48, 32, 47, 97, 32, 49], [115, 101, 116, 32, 48, 32, 47, 98, 32, 50], [102, 114, 101, 101, 32, 48], [114, 101, 97, 100, 32, 48, 32, 47, 97], [114, 101, 97, 100, 32, 49, 32, 47, 97], [119, 114, 105, 116, 101, 32, 50, 32, 47, 98], [115, 101, 116, 32, 50, 32, 47, 98, 32, 57], [103, 101, 116, 32, 48, 32, 47, 97], [103, 101, 116, 32, 49, 32, 47, 98], [115, 101, 116, 32, 50, 32, 47, 98, 47, 99, 32, 52], [119, 114, 105, 116, 101, 32, 50, 32, 47, 97], [114, 101, 97, 100, 32, 50, 32, 47], [102, 114, 101, 101, 32, 48], [102, 114, 101, 101, 32, 49], [119, 114, 105, 116, 101, 32, 50, 32, 47, 97]] true]⟩ (bindO_e h (fun s25 hc26 h => (Wc [.ro 1] rfl rfl rfl Tryz.func11 rfl (impl_RunSession_ok n [[119, 114, 105, 116, 101, 32, 48, 32, 47], [115, 101, 116, 32, 48, 32, 47, 97, 32, 49], [115, 101, 116, 32, 48, 32, 47, 98, 32, 50], [102, 114, 101, 101, 32, 48], [114, 101, 97, 100, 32, 48, 32, 47, 97], [114, 101, 97, 100, 32, 49, 32, 47, 97], [119, 114, 105, 116, 101, 32, 50, 32, 47, 98], [115, 101, 116, 32, 50, 32, 47, 98, 32, 57], [103, 101, 116, 32, 48, 32, 47, 97], [103, 101, 116, 32, 49, 32, 47, 98], [115, 101, 116, 32, 50, 32, 47, 98, 47, 99, 32, 52], [119, 114, 105, 116, 101, 32, 50, 32, 47, 97], [114, 101, 97, 100, 32, 50, 32, 47], [102, 114, 101, 101, 32, 48], [102, 114, 101, 101, 32, 49], [119, 114, 105, 116, 101, 32, 50, 32, 47, 97]] s25 hc26) (aI (aI rfl rfl) (trivial)) rfl (Ws 1 [0] [5] ⟨[(5, S s25)], [uR x1]⟩ (Wnt ((Wsr ((Wp 3 [0] [2] T2 ⟨[(2, B (decide (s25 = cstr1)))], [uR x1]⟩ t2 (Wnt ((W_ret ?_)))))))))))))))))
    cases h
    exact ⟨[0], True, by kernel_rfl, trivial⟩

end Go.Proofs.YtghdgncfcfdlfaaGreatDoor

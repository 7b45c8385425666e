import Derived.Test.YtiboohplkihhnaaTT1
namespace Go.Proofs.Ytiboohplkihhnaa
open Go Go.Shelf Go.Proofs
set_option linter.unusedVariables false
/- spec.apply -/
def spec_apply (n : Nat) (x1 : List Nod) (x2 : Edt) : Option ((List Nod) × Bool) :=
 bindO (spec_resolve n x1 x2.path) fun i53 =>
 iteO ((decide (x2.kind = 1)) && (decide (x2.value = 0)))
 (bindO (spec_DropNode n x1 i53) fun (x64, b65) =>
 some (x64, b65))
 (iteO (!decide (x2.kind = 0))
 (some (([] : List Nod), false))
 (iteO (decide (0 ≤ i53))
 (bindO (spec_SetValue n x1 i53 x2.value) fun (x76, b77) =>
 some (x76, b77))
 (bindO (spec_cut n x2.path) fun (s80, s81) =>
 bindO (spec_resolve n x1 s80) fun i83 =>
 bindO (spec_AddNode n x1 i83 s81 x2.value) fun (x85, i86, b87) =>
 bindO (iteO (!b87)
 (some true)
 (bindO (spec_resolve n x85 x2.path) fun i96 =>
 some (decide (i96 < 0)))) fun b93 =>
 iteO b93
 (some (([] : List Nod), false))
 (some (x85, true)))))

theorem spec_apply_ok (n : Nat) (x1 : List Nod) (x2 : Edt) (x51 : List Nod) (b52 : Bool) (h : spec_apply n x1 x2 = some (x51, b52)) : FOk EE 42 [.one (.e (.sl 0 0 x1.length)), AGG [cI x2.kind, cS x2.path, cI x2.value]] [.row .nod x1 false] (.tup [.e (.sl 1 0 x51.length), .e (cB b52)]) [.row .nod x1 false, .row .nod x51 true] := by
  unfold spec_apply at h
  refine FOk_of_W 69 1 Try.func42 rfl rfl (Nat.le_of_ble_eq_true rfl) rfl (fun w X θ => ?_)
  refine W_seq ?_
  refine W_region ?_
  refine WO_step 3 [0, 1] [0, 3] (True ∧ True) ⟨[(0, .one (.e (.sl 0 0 x1.length))), (3, .one (.e (.p 1 0)))], [.row .nod x1 false, .cells [cI x2.kind, cS x2.path, cI x2.value]]⟩ (by kernel_rfl) ⟨trivial, trivial⟩ ?_
  refine WO_nil rfl ?_
  refine thenS_n ?_
  refine W_seq ?_
  refine W_region ?_
  refine WO_step 3 [0, 1] [0, 3, 12, 14] (True ∧ True) ⟨[(0, .one (.e (.sl 0 0 x1.length))), (3, .one (.e (.p 1 0))), (12, .one (.e (.sl 0 0 x1.length))), (14, S x2.path)], [.row .nod x1 false, .cells [cI x2.kind, cS x2.path, cI x2.value]]⟩ (by kernel_rfl) ⟨trivial, trivial⟩ ?_
  refine bindO_e h (fun i53 hc54 h => ?_)
  refine WO_call [.ro 0] Try.f43 rfl rfl rfl (by kernel_rfl) Try.func43 rfl (by kernel_rfl) (spec_resolve_ok n x1 x2.path i53 hc54) (And.intro (And.intro rfl rfl) (trivial)) rfl ?_
  refine WO_step 1 [0, 1] [0, 3, 6] True ⟨[(0, .one (.e (.sl 0 0 x1.length))), (3, .one (.e (.p 1 0))), (6, I i53)], [.row .nod x1 false, .cells [cI x2.kind, cS x2.path, cI x2.value]]⟩ (by kernel_rfl) trivial ?_
  refine WO_nil rfl ?_
  refine thenS_n ?_
  refine W_seq ?_
  refine W_seq ?_
  refine W_region ?_
  refine WO_step 4 [0, 1] [0, 3, 6, 19] (True ∧ (True ∧ True)) ⟨[(0, .one (.e (.sl 0 0 x1.length))), (3, .one (.e (.p 1 0))), (6, I i53), (19, B (decide (x2.kind = 1)))], [.row .nod x1 false, .cells [cI x2.kind, cS x2.path, cI x2.value]]⟩ (by kernel_rfl) ⟨trivial, trivial, trivial⟩ ?_
  refine WO_thru ⟨[(0, .one (.e (.sl 0 0 x1.length))), (3, .one (.e (.p 1 0))), (6, I i53), (23, B ((decide (x2.kind = 1)) && (decide (x2.value = 0))))], [.row .nod x1 false, .cells [cI x2.kind, cS x2.path, cI x2.value]]⟩ ?_ ?_
  · refine WO_if 19 rfl (fun hb57 => ?_) (fun hb57 => ?_)
    · refine WO_step 4 [0, 1] [0, 3, 6, 23] (True ∧ (True ∧ True)) ⟨[(0, .one (.e (.sl 0 0 x1.length))), (3, .one (.e (.p 1 0))), (6, I i53), (23, B (decide (x2.value = 0)))], [.row .nod x1 false, .cells [cI x2.kind, cS x2.path, cI x2.value]]⟩ (by kernel_rfl) ⟨trivial, trivial, trivial⟩ ?_
      exact WO_nil rfl ⟨rfl, by first | rfl | (rw [hb57]; first | done | rfl)⟩
    · refine WO_step 4 [0, 1] [0, 3, 6, 23] True ⟨[(0, .one (.e (.sl 0 0 x1.length))), (3, .one (.e (.p 1 0))), (6, I i53), (23, B false)], [.row .nod x1 false, .cells [cI x2.kind, cS x2.path, cI x2.value]]⟩ (by kernel_rfl) trivial ?_
      exact WO_nil rfl ⟨rfl, by first | rfl | (rw [hb57]; first | done | rfl)⟩
  · refine thenS_n ?_
    refine iteO_e h (fun hb63 h => W_true rfl hb63 ?_) (fun hb63 h => W_false rfl hb63 ?_)
    · refine W_seq ?_
      refine W_region ?_
      refine WO_step 2 [0] [24, 25] True ⟨[(24, .one (.e (.sl 0 0 x1.length))), (25, I i53)], [.row .nod x1 false]⟩ (by kernel_rfl) trivial ?_
      refine bindO_e h (fun v67 hc66 h => ?_)
      obtain ⟨x64, b65⟩ := v67
      refine WO_call [.ro 0] Try.f57 rfl rfl rfl (by kernel_rfl) Try.func57 rfl (by kernel_rfl) (spec_DropNode_ok n x1 i53 x64 b65 hc66) (And.intro (And.intro rfl rfl) (trivial)) rfl ?_
      refine WO_step 4 [0, 1] [4, 5] True ⟨[(4, .one (.e (.sl 1 0 x64.length))), (5, B b65)], [.row .nod x1 false, .row .nod x64 true]⟩ (by kernel_rfl) trivial ?_
      refine WO_nil rfl ?_
      refine thenS_n ?_
      refine W_ret ?_
      refine thenS_r ?_
      cases h
      exact ⟨[0, 1], True, by kernel_rfl, trivial⟩
    · refine W_sub [0, 1] [0, 3, 6] (st' := ⟨[(0, .one (.e (.sl 0 0 x1.length))), (3, .one (.e (.p 1 0))), (6, I i53)], [.row .nod x1 false, .cells [cI x2.kind, cS x2.path, cI x2.value]]⟩) (by kernel_rfl) ?_
      refine W_skip ?_
      refine thenS_n ?_
      refine W_seq ?_
      refine W_seq ?_
      refine W_region ?_
      refine WO_step 3 [0, 1] [0, 3, 6, 31] (True ∧ (True ∧ True)) ⟨[(0, .one (.e (.sl 0 0 x1.length))), (3, .one (.e (.p 1 0))), (6, I i53), (31, B (!decide (x2.kind = 0)))], [.row .nod x1 false, .cells [cI x2.kind, cS x2.path, cI x2.value]]⟩ (by kernel_rfl) ⟨trivial, trivial, trivial⟩ ?_
      refine WO_nil rfl ?_
      refine thenS_n ?_
      refine iteO_e h (fun hb69 h => W_true rfl hb69 ?_) (fun hb69 h => W_false rfl hb69 ?_)
      · refine W_seq ?_
        refine W_region ?_
        refine WO_step 2 [0] [4, 5] True ⟨[(4, .one (.e (.nsl))), (5, B false)], [.row .nod x1 false]⟩ (by kernel_rfl) trivial ?_
        refine WO_nilrow 4 .nod rfl ?_
        refine WO_sub [0, 1] [4, 5] (st' := ⟨[(4, .one (.e (.sl 1 0 (([] : List Nod).length)))), (5, B false)], [.row .nod x1 false, .row .nod ([] : List Nod) true]⟩) (by kernel_rfl) ?_
        refine WO_nil rfl ?_
        refine thenS_n ?_
        refine W_ret ?_
        refine thenS_r ?_
        cases h
        exact ⟨[0, 1], True, by kernel_rfl, trivial⟩
      · refine W_sub [0, 1] [0, 3, 6] (st' := ⟨[(0, .one (.e (.sl 0 0 x1.length))), (3, .one (.e (.p 1 0))), (6, I i53)], [.row .nod x1 false, .cells [cI x2.kind, cS x2.path, cI x2.value]]⟩) (by kernel_rfl) ?_
        refine W_skip ?_
        refine thenS_n ?_
        refine W_seq ?_
        refine W_seq ?_
        refine W_region ?_
        refine WO_step 2 [0, 1] [0, 3, 6, 33] (True ∧ True) ⟨[(0, .one (.e (.sl 0 0 x1.length))), (3, .one (.e (.p 1 0))), (6, I i53), (33, B (decide (0 ≤ i53)))], [.row .nod x1 false, .cells [cI x2.kind, cS x2.path, cI x2.value]]⟩ (by kernel_rfl) ⟨trivial, trivial⟩ ?_
        refine WO_nil rfl ?_
        refine thenS_n ?_
        refine iteO_e h (fun hb75 h => W_true rfl hb75 ?_) (fun hb75 h => W_false rfl hb75 ?_)
        · refine W_seq ?_
          refine W_region ?_
          refine WO_step 4 [0] [34, 35, 37] (True ∧ True) ⟨[(34, .one (.e (.sl 0 0 x1.length))), (35, I i53), (37, I x2.value)], [.row .nod x1 false]⟩ (by kernel_rfl) ⟨trivial, trivial⟩ ?_
          refine bindO_e h (fun v79 hc78 h => ?_)
          obtain ⟨x76, b77⟩ := v79
          refine WO_call [.ro 0] Try.f58 rfl rfl rfl (by kernel_rfl) Try.func58 rfl (by kernel_rfl) (spec_SetValue_ok n x1 i53 x2.value x76 b77 hc78) (And.intro (And.intro rfl rfl) (trivial)) rfl ?_
          refine WO_step 4 [0, 1] [4, 5] True ⟨[(4, .one (.e (.sl 1 0 x76.length))), (5, B b77)], [.row .nod x1 false, .row .nod x76 true]⟩ (by kernel_rfl) trivial ?_
          refine WO_nil rfl ?_
          refine thenS_n ?_
          refine W_ret ?_
          refine thenS_r ?_
          cases h
          exact ⟨[0, 1], True, by kernel_rfl, trivial⟩
        · refine W_sub [0, 1] [0, 3] (st' := ⟨[(0, .one (.e (.sl 0 0 x1.length))), (3, .one (.e (.p 1 0)))], [.row .nod x1 false, .cells [cI x2.kind, cS x2.path, cI x2.value]]⟩) (by kernel_rfl) ?_
          refine W_skip ?_
          refine thenS_n ?_
          refine W_seq ?_
          refine W_region ?_
          refine WO_step 2 [0, 1] [0, 3, 43] (True ∧ True) ⟨[(0, .one (.e (.sl 0 0 x1.length))), (3, .one (.e (.p 1 0))), (43, S x2.path)], [.row .nod x1 false, .cells [cI x2.kind, cS x2.path, cI x2.value]]⟩ (by kernel_rfl) ⟨trivial, trivial⟩ ?_
          refine bindO_e h (fun v100 hc82 h => ?_)
          obtain ⟨s80, s81⟩ := v100
          refine WO_call [] Try.f59 rfl rfl rfl (by kernel_rfl) Try.func59 rfl (by kernel_rfl) (spec_cut_ok n x2.path s80 s81 hc82) (trivial) rfl ?_
          refine WO_step 5 [0, 1] [0, 3, 7, 8] True ⟨[(0, .one (.e (.sl 0 0 x1.length))), (3, .one (.e (.p 1 0))), (7, S s80), (8, S s81)], [.row .nod x1 false, .cells [cI x2.kind, cS x2.path, cI x2.value]]⟩ (by kernel_rfl) trivial ?_
          refine WO_nil rfl ?_
          refine thenS_n ?_
          refine W_seq ?_
          refine bindO_e h (fun i83 hc84 h => ?_)
          refine bindO_e h (fun v89 hc88 h => ?_)
          obtain ⟨x85, i86, b87⟩ := v89
          refine W_cut (Q' := fun (e : Exit) (s : St) => e = .normal ∧ s = ⟨[(3, .one (.e (.p 1 0))), (9, .one (.e (.sl 2 0 x85.length))), (11, B b87)], [.row .nod x1 false, .cells [cI x2.kind, cS x2.path, cI x2.value], .row .nod x85 true]⟩) ?_ ?_
          · refine W_draw [] false (by kernel_rfl) (by kernel_rfl) ?_
            refine WD_takeK [0, 1, 2, 4, 5, 6] [3, 48, 49, 50, 52, 54] [3, 48, 49, 50, 52, 54] (φ := (True ∧ True ∧ True)) (ls' := #[true, true, true, false, true, true, true, false, false, false, false, false, false, false, false]) (Ts' := [(3, .one (.e (.p 1 0))), (48, .one (.e (.sl 0 0 x1.length))), (49, .one (.e (.sl 0 0 x1.length))), (50, S s80), (52, S s81), (54, I x2.value)]) (st' := ⟨[(3, .one (.e (.p 1 0))), (48, .one (.e (.sl 0 0 x1.length))), (49, .one (.e (.sl 0 0 x1.length))), (50, S s80), (52, S s81), (54, I x2.value)], [.row .nod x1 false, .cells [cI x2.kind, cS x2.path, cI x2.value]]⟩) (n2 := 9) (by kernel_rfl) ⟨trivial, trivial, trivial⟩ rfl ?_
            refine WD_all [3] (n := 8) (by kernel_rfl) rfl ?_
            refine WM_call [.ro 0] Try.f43 rfl rfl (by kernel_rfl) Try.func43 rfl (by kernel_rfl) (spec_resolve_ok n x1 s80 i83 hc84) (And.intro (And.intro rfl rfl) (trivial)) rfl (And.intro rfl (And.intro (And.intro rfl rfl) (trivial))) ?_
            refine WD_all [7] (n := 7) (by kernel_rfl) rfl ?_
            refine WM_call [.ro 0] Try.f55 rfl rfl (by kernel_rfl) Try.func55 rfl (by kernel_rfl) (spec_AddNode_ok n x1 i83 s81 x2.value x85 i86 b87 hc88) (And.intro (And.intro rfl rfl) (trivial)) rfl (And.intro rfl (And.intro (And.intro rfl rfl) (trivial))) ?_
            refine WD_all [8] (n := 6) (by kernel_rfl) rfl ?_
            refine WM_op (φ := True) (v := .tup [.e (.sl 2 0 x85.length), .e (cI i86), .e (cB b87)]) (H' := [.row .nod x1 false, .cells [cI x2.kind, cS x2.path, cI x2.value], .row .nod x85 true]) rfl rfl (by kernel_rfl) trivial rfl (And.intro rfl (And.intro (And.intro rfl rfl) (trivial))) ?_
            refine WD_all [9, 10, 11] (n := 5) (by kernel_rfl) rfl (And.intro ?_ (And.intro ?_ (?_)))
            · refine WM_op (φ := True) (v := .one (.e (.sl 2 0 x85.length))) (H' := [.row .nod x1 false, .cells [cI x2.kind, cS x2.path, cI x2.value], .row .nod x85 true]) rfl rfl (by kernel_rfl) trivial rfl (And.intro rfl (And.intro (And.intro rfl rfl) (trivial))) ?_
              refine WD_all [10, 11, 12] (n := 4) (by kernel_rfl) rfl (And.intro ?_ (And.intro ?_ (?_)))
              · refine WM_op (φ := True) (v := I i86) (H' := [.row .nod x1 false, .cells [cI x2.kind, cS x2.path, cI x2.value], .row .nod x85 true]) rfl rfl (by kernel_rfl) trivial rfl (And.intro rfl (And.intro (And.intro rfl rfl) (trivial))) ?_
                refine WD_all [11, 12] (n := 3) (by kernel_rfl) rfl (And.intro ?_ (?_))
                · refine WM_op (φ := True) (v := B b87) (H' := [.row .nod x1 false, .cells [cI x2.kind, cS x2.path, cI x2.value], .row .nod x85 true]) rfl rfl (by kernel_rfl) trivial rfl (And.intro rfl (And.intro (And.intro rfl rfl) (trivial))) ?_
                  refine WD_all [12] (n := 2) (by kernel_rfl) rfl ?_
                  refine WM_op (φ := True) (v := .one (.e (.sl 2 0 x85.length))) (H' := [.row .nod x1 false, .cells [cI x2.kind, cS x2.path, cI x2.value], .row .nod x85 true]) rfl rfl (by kernel_rfl) trivial rfl (And.intro rfl (And.intro (And.intro rfl rfl) (trivial))) ?_
                  refine WD_takeK [13, 14] [3, 11] [3, 9, 11] (φ := True) (ls' := #[true, true, true, true, true, true, true, true, true, true, true, true, true, true, true]) (Ts' := [(3, .one (.e (.p 1 0))), (11, B b87)]) (st' := ⟨[(3, .one (.e (.p 1 0))), (9, .one (.e (.sl 2 0 x85.length))), (11, B b87)], [.row .nod x1 false, .cells [cI x2.kind, cS x2.path, cI x2.value], .row .nod x85 true]⟩) (n2 := 0) (by kernel_rfl) trivial rfl ?_
                  exact WD_done [0, 1, 2] [3, 9, 11] (st' := ⟨[(3, .one (.e (.p 1 0))), (9, .one (.e (.sl 2 0 x85.length))), (11, B b87)], [.row .nod x1 false, .cells [cI x2.kind, cS x2.path, cI x2.value], .row .nod x85 true]⟩) (by kernel_rfl) (by kernel_rfl) (And.intro rfl rfl)
                · refine WM_op (φ := True) (v := .one (.e (.sl 2 0 x85.length))) (H' := [.row .nod x1 false, .cells [cI x2.kind, cS x2.path, cI x2.value], .row .nod x85 true]) rfl rfl (by kernel_rfl) trivial rfl (And.intro rfl (And.intro (And.intro rfl rfl) (trivial))) ?_
                  refine WD_takeK [13] [3] [3, 9, 47] (φ := True) (ls' := #[true, true, true, true, true, true, true, true, true, true, true, false, true, true, false]) (Ts' := [(3, .one (.e (.p 1 0)))]) (st' := ⟨[(3, .one (.e (.p 1 0))), (9, .one (.e (.sl 2 0 x85.length))), (47, .tup [.e (.sl 2 0 x85.length), .e (cI i86), .e (cB b87)])], [.row .nod x1 false, .cells [cI x2.kind, cS x2.path, cI x2.value], .row .nod x85 true]⟩) (n2 := 2) (by kernel_rfl) trivial rfl ?_
                  refine WD_all [11] (n := 1) (by kernel_rfl) rfl ?_
                  refine WM_op (φ := True) (v := B b87) (H' := [.row .nod x1 false, .cells [cI x2.kind, cS x2.path, cI x2.value], .row .nod x85 true]) rfl rfl (by kernel_rfl) trivial rfl (And.intro rfl (And.intro (And.intro rfl rfl) (trivial))) ?_
                  refine WD_takeK [14] [3, 11] [3, 9, 11] (φ := True) (ls' := #[true, true, true, true, true, true, true, true, true, true, true, true, true, true, true]) (Ts' := [(3, .one (.e (.p 1 0))), (11, B b87)]) (st' := ⟨[(3, .one (.e (.p 1 0))), (9, .one (.e (.sl 2 0 x85.length))), (11, B b87)], [.row .nod x1 false, .cells [cI x2.kind, cS x2.path, cI x2.value], .row .nod x85 true]⟩) (n2 := 0) (by kernel_rfl) trivial rfl ?_
                  exact WD_done [0, 1, 2] [3, 9, 11] (st' := ⟨[(3, .one (.e (.p 1 0))), (9, .one (.e (.sl 2 0 x85.length))), (11, B b87)], [.row .nod x1 false, .cells [cI x2.kind, cS x2.path, cI x2.value], .row .nod x85 true]⟩) (by kernel_rfl) (by kernel_rfl) (And.intro rfl rfl)
              · refine WM_op (φ := True) (v := B b87) (H' := [.row .nod x1 false, .cells [cI x2.kind, cS x2.path, cI x2.value], .row .nod x85 true]) rfl rfl (by kernel_rfl) trivial rfl (And.intro rfl (And.intro (And.intro rfl rfl) (trivial))) ?_
                refine WD_all [10, 12] (n := 3) (by kernel_rfl) rfl (And.intro ?_ (?_))
                · refine WM_op (φ := True) (v := I i86) (H' := [.row .nod x1 false, .cells [cI x2.kind, cS x2.path, cI x2.value], .row .nod x85 true]) rfl rfl (by kernel_rfl) trivial rfl (And.intro rfl (And.intro (And.intro rfl rfl) (trivial))) ?_
                  refine WD_all [12] (n := 2) (by kernel_rfl) rfl ?_
                  refine WM_op (φ := True) (v := .one (.e (.sl 2 0 x85.length))) (H' := [.row .nod x1 false, .cells [cI x2.kind, cS x2.path, cI x2.value], .row .nod x85 true]) rfl rfl (by kernel_rfl) trivial rfl (And.intro rfl (And.intro (And.intro rfl rfl) (trivial))) ?_
                  refine WD_takeK [13, 14] [3, 11] [3, 9, 11] (φ := True) (ls' := #[true, true, true, true, true, true, true, true, true, true, true, true, true, true, true]) (Ts' := [(3, .one (.e (.p 1 0))), (11, B b87)]) (st' := ⟨[(3, .one (.e (.p 1 0))), (9, .one (.e (.sl 2 0 x85.length))), (11, B b87)], [.row .nod x1 false, .cells [cI x2.kind, cS x2.path, cI x2.value], .row .nod x85 true]⟩) (n2 := 0) (by kernel_rfl) trivial rfl ?_
                  exact WD_done [0, 1, 2] [3, 9, 11] (st' := ⟨[(3, .one (.e (.p 1 0))), (9, .one (.e (.sl 2 0 x85.length))), (11, B b87)], [.row .nod x1 false, .cells [cI x2.kind, cS x2.path, cI x2.value], .row .nod x85 true]⟩) (by kernel_rfl) (by kernel_rfl) (And.intro rfl rfl)
                · refine WM_op (φ := True) (v := .one (.e (.sl 2 0 x85.length))) (H' := [.row .nod x1 false, .cells [cI x2.kind, cS x2.path, cI x2.value], .row .nod x85 true]) rfl rfl (by kernel_rfl) trivial rfl (And.intro rfl (And.intro (And.intro rfl rfl) (trivial))) ?_
                  refine WD_all [10] (n := 2) (by kernel_rfl) rfl ?_
                  refine WM_op (φ := True) (v := I i86) (H' := [.row .nod x1 false, .cells [cI x2.kind, cS x2.path, cI x2.value], .row .nod x85 true]) rfl rfl (by kernel_rfl) trivial rfl (And.intro rfl (And.intro (And.intro rfl rfl) (trivial))) ?_
                  refine WD_takeK [13, 14] [3, 11] [3, 9, 11] (φ := True) (ls' := #[true, true, true, true, true, true, true, true, true, true, true, true, true, true, true]) (Ts' := [(3, .one (.e (.p 1 0))), (11, B b87)]) (st' := ⟨[(3, .one (.e (.p 1 0))), (9, .one (.e (.sl 2 0 x85.length))), (11, B b87)], [.row .nod x1 false, .cells [cI x2.kind, cS x2.path, cI x2.value], .row .nod x85 true]⟩) (n2 := 0) (by kernel_rfl) trivial rfl ?_
                  exact WD_done [0, 1, 2] [3, 9, 11] (st' := ⟨[(3, .one (.e (.p 1 0))), (9, .one (.e (.sl 2 0 x85.length))), (11, B b87)], [.row .nod x1 false, .cells [cI x2.kind, cS x2.path, cI x2.value], .row .nod x85 true]⟩) (by kernel_rfl) (by kernel_rfl) (And.intro rfl rfl)
              · refine WM_op (φ := True) (v := .one (.e (.sl 2 0 x85.length))) (H' := [.row .nod x1 false, .cells [cI x2.kind, cS x2.path, cI x2.value], .row .nod x85 true]) rfl rfl (by kernel_rfl) trivial rfl (And.intro rfl (And.intro (And.intro rfl rfl) (trivial))) ?_
                refine WD_all [10, 11] (n := 3) (by kernel_rfl) rfl (And.intro ?_ (?_))
                · refine WM_op (φ := True) (v := I i86) (H' := [.row .nod x1 false, .cells [cI x2.kind, cS x2.path, cI x2.value], .row .nod x85 true]) rfl rfl (by kernel_rfl) trivial rfl (And.intro rfl (And.intro (And.intro rfl rfl) (trivial))) ?_
                  refine WD_takeK [13] [3] [3, 9, 47] (φ := True) (ls' := #[true, true, true, true, true, true, true, true, true, true, true, false, true, true, false]) (Ts' := [(3, .one (.e (.p 1 0)))]) (st' := ⟨[(3, .one (.e (.p 1 0))), (9, .one (.e (.sl 2 0 x85.length))), (47, .tup [.e (.sl 2 0 x85.length), .e (cI i86), .e (cB b87)])], [.row .nod x1 false, .cells [cI x2.kind, cS x2.path, cI x2.value], .row .nod x85 true]⟩) (n2 := 2) (by kernel_rfl) trivial rfl ?_
                  refine WD_all [11] (n := 1) (by kernel_rfl) rfl ?_
                  refine WM_op (φ := True) (v := B b87) (H' := [.row .nod x1 false, .cells [cI x2.kind, cS x2.path, cI x2.value], .row .nod x85 true]) rfl rfl (by kernel_rfl) trivial rfl (And.intro rfl (And.intro (And.intro rfl rfl) (trivial))) ?_
                  refine WD_takeK [14] [3, 11] [3, 9, 11] (φ := True) (ls' := #[true, true, true, true, true, true, true, true, true, true, true, true, true, true, true]) (Ts' := [(3, .one (.e (.p 1 0))), (11, B b87)]) (st' := ⟨[(3, .one (.e (.p 1 0))), (9, .one (.e (.sl 2 0 x85.length))), (11, B b87)], [.row .nod x1 false, .cells [cI x2.kind, cS x2.path, cI x2.value], .row .nod x85 true]⟩) (n2 := 0) (by kernel_rfl) trivial rfl ?_
                  exact WD_done [0, 1, 2] [3, 9, 11] (st' := ⟨[(3, .one (.e (.p 1 0))), (9, .one (.e (.sl 2 0 x85.length))), (11, B b87)], [.row .nod x1 false, .cells [cI x2.kind, cS x2.path, cI x2.value], .row .nod x85 true]⟩) (by kernel_rfl) (by kernel_rfl) (And.intro rfl rfl)
                · refine WM_op (φ := True) (v := B b87) (H' := [.row .nod x1 false, .cells [cI x2.kind, cS x2.path, cI x2.value], .row .nod x85 true]) rfl rfl (by kernel_rfl) trivial rfl (And.intro rfl (And.intro (And.intro rfl rfl) (trivial))) ?_
                  refine WD_all [10] (n := 2) (by kernel_rfl) rfl ?_
                  refine WM_op (φ := True) (v := I i86) (H' := [.row .nod x1 false, .cells [cI x2.kind, cS x2.path, cI x2.value], .row .nod x85 true]) rfl rfl (by kernel_rfl) trivial rfl (And.intro rfl (And.intro (And.intro rfl rfl) (trivial))) ?_
                  refine WD_takeK [13, 14] [3, 11] [3, 9, 11] (φ := True) (ls' := #[true, true, true, true, true, true, true, true, true, true, true, true, true, true, true]) (Ts' := [(3, .one (.e (.p 1 0))), (11, B b87)]) (st' := ⟨[(3, .one (.e (.p 1 0))), (9, .one (.e (.sl 2 0 x85.length))), (11, B b87)], [.row .nod x1 false, .cells [cI x2.kind, cS x2.path, cI x2.value], .row .nod x85 true]⟩) (n2 := 0) (by kernel_rfl) trivial rfl ?_
                  exact WD_done [0, 1, 2] [3, 9, 11] (st' := ⟨[(3, .one (.e (.p 1 0))), (9, .one (.e (.sl 2 0 x85.length))), (11, B b87)], [.row .nod x1 false, .cells [cI x2.kind, cS x2.path, cI x2.value], .row .nod x85 true]⟩) (by kernel_rfl) (by kernel_rfl) (And.intro rfl rfl)
            · refine WM_op (φ := True) (v := I i86) (H' := [.row .nod x1 false, .cells [cI x2.kind, cS x2.path, cI x2.value], .row .nod x85 true]) rfl rfl (by kernel_rfl) trivial rfl (And.intro rfl (And.intro (And.intro rfl rfl) (trivial))) ?_
              refine WD_all [9, 11] (n := 4) (by kernel_rfl) rfl (And.intro ?_ (?_))
              · refine WM_op (φ := True) (v := .one (.e (.sl 2 0 x85.length))) (H' := [.row .nod x1 false, .cells [cI x2.kind, cS x2.path, cI x2.value], .row .nod x85 true]) rfl rfl (by kernel_rfl) trivial rfl (And.intro rfl (And.intro (And.intro rfl rfl) (trivial))) ?_
                refine WD_all [11, 12] (n := 3) (by kernel_rfl) rfl (And.intro ?_ (?_))
                · refine WM_op (φ := True) (v := B b87) (H' := [.row .nod x1 false, .cells [cI x2.kind, cS x2.path, cI x2.value], .row .nod x85 true]) rfl rfl (by kernel_rfl) trivial rfl (And.intro rfl (And.intro (And.intro rfl rfl) (trivial))) ?_
                  refine WD_all [12] (n := 2) (by kernel_rfl) rfl ?_
                  refine WM_op (φ := True) (v := .one (.e (.sl 2 0 x85.length))) (H' := [.row .nod x1 false, .cells [cI x2.kind, cS x2.path, cI x2.value], .row .nod x85 true]) rfl rfl (by kernel_rfl) trivial rfl (And.intro rfl (And.intro (And.intro rfl rfl) (trivial))) ?_
                  refine WD_takeK [13, 14] [3, 11] [3, 9, 11] (φ := True) (ls' := #[true, true, true, true, true, true, true, true, true, true, true, true, true, true, true]) (Ts' := [(3, .one (.e (.p 1 0))), (11, B b87)]) (st' := ⟨[(3, .one (.e (.p 1 0))), (9, .one (.e (.sl 2 0 x85.length))), (11, B b87)], [.row .nod x1 false, .cells [cI x2.kind, cS x2.path, cI x2.value], .row .nod x85 true]⟩) (n2 := 0) (by kernel_rfl) trivial rfl ?_
                  exact WD_done [0, 1, 2] [3, 9, 11] (st' := ⟨[(3, .one (.e (.p 1 0))), (9, .one (.e (.sl 2 0 x85.length))), (11, B b87)], [.row .nod x1 false, .cells [cI x2.kind, cS x2.path, cI x2.value], .row .nod x85 true]⟩) (by kernel_rfl) (by kernel_rfl) (And.intro rfl rfl)
                · refine WM_op (φ := True) (v := .one (.e (.sl 2 0 x85.length))) (H' := [.row .nod x1 false, .cells [cI x2.kind, cS x2.path, cI x2.value], .row .nod x85 true]) rfl rfl (by kernel_rfl) trivial rfl (And.intro rfl (And.intro (And.intro rfl rfl) (trivial))) ?_
                  refine WD_takeK [13] [3] [3, 9, 47] (φ := True) (ls' := #[true, true, true, true, true, true, true, true, true, true, true, false, true, true, false]) (Ts' := [(3, .one (.e (.p 1 0)))]) (st' := ⟨[(3, .one (.e (.p 1 0))), (9, .one (.e (.sl 2 0 x85.length))), (47, .tup [.e (.sl 2 0 x85.length), .e (cI i86), .e (cB b87)])], [.row .nod x1 false, .cells [cI x2.kind, cS x2.path, cI x2.value], .row .nod x85 true]⟩) (n2 := 2) (by kernel_rfl) trivial rfl ?_
                  refine WD_all [11] (n := 1) (by kernel_rfl) rfl ?_
                  refine WM_op (φ := True) (v := B b87) (H' := [.row .nod x1 false, .cells [cI x2.kind, cS x2.path, cI x2.value], .row .nod x85 true]) rfl rfl (by kernel_rfl) trivial rfl (And.intro rfl (And.intro (And.intro rfl rfl) (trivial))) ?_
                  refine WD_takeK [14] [3, 11] [3, 9, 11] (φ := True) (ls' := #[true, true, true, true, true, true, true, true, true, true, true, true, true, true, true]) (Ts' := [(3, .one (.e (.p 1 0))), (11, B b87)]) (st' := ⟨[(3, .one (.e (.p 1 0))), (9, .one (.e (.sl 2 0 x85.length))), (11, B b87)], [.row .nod x1 false, .cells [cI x2.kind, cS x2.path, cI x2.value], .row .nod x85 true]⟩) (n2 := 0) (by kernel_rfl) trivial rfl ?_
                  exact WD_done [0, 1, 2] [3, 9, 11] (st' := ⟨[(3, .one (.e (.p 1 0))), (9, .one (.e (.sl 2 0 x85.length))), (11, B b87)], [.row .nod x1 false, .cells [cI x2.kind, cS x2.path, cI x2.value], .row .nod x85 true]⟩) (by kernel_rfl) (by kernel_rfl) (And.intro rfl rfl)
              · refine WM_op (φ := True) (v := B b87) (H' := [.row .nod x1 false, .cells [cI x2.kind, cS x2.path, cI x2.value], .row .nod x85 true]) rfl rfl (by kernel_rfl) trivial rfl (And.intro rfl (And.intro (And.intro rfl rfl) (trivial))) ?_
                refine WD_all [9] (n := 3) (by kernel_rfl) rfl ?_
                refine WM_op (φ := True) (v := .one (.e (.sl 2 0 x85.length))) (H' := [.row .nod x1 false, .cells [cI x2.kind, cS x2.path, cI x2.value], .row .nod x85 true]) rfl rfl (by kernel_rfl) trivial rfl (And.intro rfl (And.intro (And.intro rfl rfl) (trivial))) ?_
                refine WD_all [12] (n := 2) (by kernel_rfl) rfl ?_
                refine WM_op (φ := True) (v := .one (.e (.sl 2 0 x85.length))) (H' := [.row .nod x1 false, .cells [cI x2.kind, cS x2.path, cI x2.value], .row .nod x85 true]) rfl rfl (by kernel_rfl) trivial rfl (And.intro rfl (And.intro (And.intro rfl rfl) (trivial))) ?_
                refine WD_takeK [13, 14] [3, 11] [3, 9, 11] (φ := True) (ls' := #[true, true, true, true, true, true, true, true, true, true, true, true, true, true, true]) (Ts' := [(3, .one (.e (.p 1 0))), (11, B b87)]) (st' := ⟨[(3, .one (.e (.p 1 0))), (9, .one (.e (.sl 2 0 x85.length))), (11, B b87)], [.row .nod x1 false, .cells [cI x2.kind, cS x2.path, cI x2.value], .row .nod x85 true]⟩) (n2 := 0) (by kernel_rfl) trivial rfl ?_
                exact WD_done [0, 1, 2] [3, 9, 11] (st' := ⟨[(3, .one (.e (.p 1 0))), (9, .one (.e (.sl 2 0 x85.length))), (11, B b87)], [.row .nod x1 false, .cells [cI x2.kind, cS x2.path, cI x2.value], .row .nod x85 true]⟩) (by kernel_rfl) (by kernel_rfl) (And.intro rfl rfl)
            · refine WM_op (φ := True) (v := B b87) (H' := [.row .nod x1 false, .cells [cI x2.kind, cS x2.path, cI x2.value], .row .nod x85 true]) rfl rfl (by kernel_rfl) trivial rfl (And.intro rfl (And.intro (And.intro rfl rfl) (trivial))) ?_
              refine WD_all [9, 10] (n := 4) (by kernel_rfl) rfl (And.intro ?_ (?_))
              · refine WM_op (φ := True) (v := .one (.e (.sl 2 0 x85.length))) (H' := [.row .nod x1 false, .cells [cI x2.kind, cS x2.path, cI x2.value], .row .nod x85 true]) rfl rfl (by kernel_rfl) trivial rfl (And.intro rfl (And.intro (And.intro rfl rfl) (trivial))) ?_
                refine WD_all [10, 12] (n := 3) (by kernel_rfl) rfl (And.intro ?_ (?_))
                · refine WM_op (φ := True) (v := I i86) (H' := [.row .nod x1 false, .cells [cI x2.kind, cS x2.path, cI x2.value], .row .nod x85 true]) rfl rfl (by kernel_rfl) trivial rfl (And.intro rfl (And.intro (And.intro rfl rfl) (trivial))) ?_
                  refine WD_all [12] (n := 2) (by kernel_rfl) rfl ?_
                  refine WM_op (φ := True) (v := .one (.e (.sl 2 0 x85.length))) (H' := [.row .nod x1 false, .cells [cI x2.kind, cS x2.path, cI x2.value], .row .nod x85 true]) rfl rfl (by kernel_rfl) trivial rfl (And.intro rfl (And.intro (And.intro rfl rfl) (trivial))) ?_
                  refine WD_takeK [13, 14] [3, 11] [3, 9, 11] (φ := True) (ls' := #[true, true, true, true, true, true, true, true, true, true, true, true, true, true, true]) (Ts' := [(3, .one (.e (.p 1 0))), (11, B b87)]) (st' := ⟨[(3, .one (.e (.p 1 0))), (9, .one (.e (.sl 2 0 x85.length))), (11, B b87)], [.row .nod x1 false, .cells [cI x2.kind, cS x2.path, cI x2.value], .row .nod x85 true]⟩) (n2 := 0) (by kernel_rfl) trivial rfl ?_
                  exact WD_done [0, 1, 2] [3, 9, 11] (st' := ⟨[(3, .one (.e (.p 1 0))), (9, .one (.e (.sl 2 0 x85.length))), (11, B b87)], [.row .nod x1 false, .cells [cI x2.kind, cS x2.path, cI x2.value], .row .nod x85 true]⟩) (by kernel_rfl) (by kernel_rfl) (And.intro rfl rfl)
                · refine WM_op (φ := True) (v := .one (.e (.sl 2 0 x85.length))) (H' := [.row .nod x1 false, .cells [cI x2.kind, cS x2.path, cI x2.value], .row .nod x85 true]) rfl rfl (by kernel_rfl) trivial rfl (And.intro rfl (And.intro (And.intro rfl rfl) (trivial))) ?_
                  refine WD_all [10] (n := 2) (by kernel_rfl) rfl ?_
                  refine WM_op (φ := True) (v := I i86) (H' := [.row .nod x1 false, .cells [cI x2.kind, cS x2.path, cI x2.value], .row .nod x85 true]) rfl rfl (by kernel_rfl) trivial rfl (And.intro rfl (And.intro (And.intro rfl rfl) (trivial))) ?_
                  refine WD_takeK [13, 14] [3, 11] [3, 9, 11] (φ := True) (ls' := #[true, true, true, true, true, true, true, true, true, true, true, true, true, true, true]) (Ts' := [(3, .one (.e (.p 1 0))), (11, B b87)]) (st' := ⟨[(3, .one (.e (.p 1 0))), (9, .one (.e (.sl 2 0 x85.length))), (11, B b87)], [.row .nod x1 false, .cells [cI x2.kind, cS x2.path, cI x2.value], .row .nod x85 true]⟩) (n2 := 0) (by kernel_rfl) trivial rfl ?_
                  exact WD_done [0, 1, 2] [3, 9, 11] (st' := ⟨[(3, .one (.e (.p 1 0))), (9, .one (.e (.sl 2 0 x85.length))), (11, B b87)], [.row .nod x1 false, .cells [cI x2.kind, cS x2.path, cI x2.value], .row .nod x85 true]⟩) (by kernel_rfl) (by kernel_rfl) (And.intro rfl rfl)
              · refine WM_op (φ := True) (v := I i86) (H' := [.row .nod x1 false, .cells [cI x2.kind, cS x2.path, cI x2.value], .row .nod x85 true]) rfl rfl (by kernel_rfl) trivial rfl (And.intro rfl (And.intro (And.intro rfl rfl) (trivial))) ?_
                refine WD_all [9] (n := 3) (by kernel_rfl) rfl ?_
                refine WM_op (φ := True) (v := .one (.e (.sl 2 0 x85.length))) (H' := [.row .nod x1 false, .cells [cI x2.kind, cS x2.path, cI x2.value], .row .nod x85 true]) rfl rfl (by kernel_rfl) trivial rfl (And.intro rfl (And.intro (And.intro rfl rfl) (trivial))) ?_
                refine WD_all [12] (n := 2) (by kernel_rfl) rfl ?_
                refine WM_op (φ := True) (v := .one (.e (.sl 2 0 x85.length))) (H' := [.row .nod x1 false, .cells [cI x2.kind, cS x2.path, cI x2.value], .row .nod x85 true]) rfl rfl (by kernel_rfl) trivial rfl (And.intro rfl (And.intro (And.intro rfl rfl) (trivial))) ?_
                refine WD_takeK [13, 14] [3, 11] [3, 9, 11] (φ := True) (ls' := #[true, true, true, true, true, true, true, true, true, true, true, true, true, true, true]) (Ts' := [(3, .one (.e (.p 1 0))), (11, B b87)]) (st' := ⟨[(3, .one (.e (.p 1 0))), (9, .one (.e (.sl 2 0 x85.length))), (11, B b87)], [.row .nod x1 false, .cells [cI x2.kind, cS x2.path, cI x2.value], .row .nod x85 true]⟩) (n2 := 0) (by kernel_rfl) trivial rfl ?_
                exact WD_done [0, 1, 2] [3, 9, 11] (st' := ⟨[(3, .one (.e (.p 1 0))), (9, .one (.e (.sl 2 0 x85.length))), (11, B b87)], [.row .nod x1 false, .cells [cI x2.kind, cS x2.path, cI x2.value], .row .nod x85 true]⟩) (by kernel_rfl) (by kernel_rfl) (And.intro rfl rfl)
          · rintro _ _ ⟨rfl, rfl⟩
            refine thenS_n ?_
            refine W_seq ?_
            refine W_seq ?_
            refine W_region ?_
            refine WO_step 3 [0, 1, 2] [3, 9, 61] True ⟨[(3, .one (.e (.p 1 0))), (9, .one (.e (.sl 2 0 x85.length))), (61, B (!b87))], [.row .nod x1 false, .cells [cI x2.kind, cS x2.path, cI x2.value], .row .nod x85 true]⟩ (by kernel_rfl) trivial ?_
            refine bindO_e h (fun b93 hv94 h => ?_)
            refine WO_thru ⟨[(9, .one (.e (.sl 1 0 x85.length))), (67, B b93)], [.row .nod x1 false, .row .nod x85 true]⟩ ?_ ?_
            · refine iteO_e hv94 (fun hb95 hv94 => WO_known 61 true rfl hb95 ?_) (fun hb95 hv94 => WO_known 61 false rfl hb95 ?_)
              · refine WO_step 6 [0, 2] [9, 67] True ⟨[(9, .one (.e (.sl 1 0 x85.length))), (67, B true)], [.row .nod x1 false, .row .nod x85 true]⟩ (by kernel_rfl) trivial ?_
                cases hv94
                exact WO_nil rfl ⟨rfl, rfl⟩
              · refine WO_step 3 [0, 2] [9, 61, 62, 64] (True ∧ True) ⟨[(9, .one (.e (.sl 1 0 x85.length))), (61, B false), (62, .one (.e (.sl 1 0 x85.length))), (64, S x2.path)], [.row .nod x1 false, .row .nod x85 true]⟩ (by kernel_rfl) ⟨trivial, trivial⟩ ?_
                refine bindO_e hv94 (fun i96 hc97 hv94 => ?_)
                refine WO_call [.ro 1] Try.f43 rfl rfl rfl (by kernel_rfl) Try.func43 rfl (by kernel_rfl) (spec_resolve_ok n x85 x2.path i96 hc97) (And.intro (And.intro rfl rfl) (trivial)) rfl ?_
                refine WO_step 2 [0, 1] [9, 67] (True ∧ True) ⟨[(9, .one (.e (.sl 1 0 x85.length))), (67, B (decide (i96 < 0)))], [.row .nod x1 false, .row .nod x85 true]⟩ (by kernel_rfl) ⟨trivial, trivial⟩ ?_
                cases hv94
                exact WO_nil rfl ⟨rfl, rfl⟩
            · refine thenS_n ?_
              refine iteO_e h (fun hb99 h => W_true rfl hb99 ?_) (fun hb99 h => W_false rfl hb99 ?_)
              · refine W_seq ?_
                refine W_region ?_
                refine WO_step 2 [0] [4, 5] True ⟨[(4, .one (.e (.nsl))), (5, B false)], [.row .nod x1 false]⟩ (by kernel_rfl) trivial ?_
                refine WO_nilrow 4 .nod rfl ?_
                refine WO_sub [0, 1] [4, 5] (st' := ⟨[(4, .one (.e (.sl 1 0 (([] : List Nod).length)))), (5, B false)], [.row .nod x1 false, .row .nod ([] : List Nod) true]⟩) (by kernel_rfl) ?_
                refine WO_nil rfl ?_
                refine thenS_n ?_
                refine W_ret ?_
                refine thenS_r ?_
                cases h
                exact ⟨[0, 1], True, by kernel_rfl, trivial⟩
              · refine W_sub [0, 1] [9] (st' := ⟨[(9, .one (.e (.sl 1 0 x85.length)))], [.row .nod x1 false, .row .nod x85 true]⟩) (by kernel_rfl) ?_
                refine W_skip ?_
                refine thenS_n ?_
                refine W_seq ?_
                refine W_region ?_
                refine WO_step 3 [0, 1] [4, 5] True ⟨[(4, .one (.e (.sl 1 0 x85.length))), (5, B true)], [.row .nod x1 false, .row .nod x85 true]⟩ (by kernel_rfl) trivial ?_
                refine WO_nil rfl ?_
                refine thenS_n ?_
                refine W_ret ?_
                cases h
                exact ⟨[0, 1], True, by kernel_rfl, trivial⟩

/- spec.ApplyEdits -/
def spec_ApplyEdits_L1 (x2 : List Edt) (x1 : List Nod) : Nat → (List Nod) → Int → Option ((Unit) ⊕ ((List Nod)))
| 0, _, _ => none
| n + 1, x132, i133 =>
 iteO (decide (i133 < ((x2.length : Nat) : Int)))
 (guardO (0 ≤ i133 ∧ i133 < ((x2.length : Nat) : Int)) <|
 bindO (spec_apply n x132 (x2.getD i133.toNat dedt)) fun (x164, b165) =>
 iteO (!b165)
 (some (.inl ()))
 (spec_ApplyEdits_L1 x2 x1 n x164 (w64 (i133 + 1))))
 (some (.inr x132))

theorem spec_ApplyEdits_L1_ok (w : World) (X : Nat → Prop) (θ : List Loc) (x2 : List Edt) (x1 : List Nod) (v : (Unit) ⊕ ((List Nod))) : ∀ (n : Nat) (x132 : List Nod) (i133 : Int), spec_ApplyEdits_L1 x2 x1 n x132 i133 = some v → WL EE ⟨w, X, θ, 38, 2⟩ (subC [1, 1, 0, 1, 4, 4] (bodyC Try.f24)) (fun (e : Exit) (s : St) => (match v with | (.inl _) => e = .ret ∧ s = ⟨[(4, .one (.e (.sl 2 0 (([] : List Nod).length)))), (5, B false)], [.row .nod x1 false, .row .edt x2 false, .row .nod ([] : List Nod) true]⟩ | (.inr x152) => e = .exit 0 ∧ s = ⟨[(0, .one (.e (.sl 2 0 x152.length)))], [.row .nod x1 false, .row .edt x2 false, .row .nod x152 true]⟩ : Prop)) ⟨[(0, .one (.e (.sl 2 0 x132.length))), (1, .one (.e (.sl 1 0 x2.length))), (6, I i133)], [.row .nod x1 false, .row .edt x2 false, .row .nod x132 true]⟩ := by
  intro n
  induction n with
  | zero => intro _ _ h; exact none_e h
  | succ n ih =>
    intro x132 i133 h
    rw [spec_ApplyEdits_L1] at h
    refine WL_round ?_
    refine W_seq ?_
    refine W_seq ?_
    refine W_region ?_
    refine WO_step 4 [0, 1, 2] [0, 1, 6, 20] (True ∧ (True ∧ True)) ⟨[(0, .one (.e (.sl 2 0 x132.length))), (1, .one (.e (.sl 1 0 x2.length))), (6, I i133), (20, B (decide (i133 < ((x2.length : Nat) : Int))))], [.row .nod x1 false, .row .edt x2 false, .row .nod x132 true]⟩ (by kernel_rfl) ⟨trivial, trivial, trivial⟩ ?_
    refine WO_nil rfl ?_
    refine thenS_n ?_
    refine iteO_e h (fun hb155 h => W_true rfl hb155 ?_) (fun hb155 h => W_false rfl hb155 ?_)
    · refine W_sub [0, 1, 2] [0, 1, 6] (st' := ⟨[(0, .one (.e (.sl 2 0 x132.length))), (1, .one (.e (.sl 1 0 x2.length))), (6, I i133)], [.row .nod x1 false, .row .edt x2 false, .row .nod x132 true]⟩) (by kernel_rfl) ?_
      refine W_skip ?_
      refine thenS_n ?_
      refine W_seq ?_
      refine W_block ?_
      refine W_seq ?_
      refine W_region ?_
      refine guardO_e h (fun hg163 h => ?_)
      refine WO_step 5 [0, 1, 2] [1, 6, 24, 28] ((0 ≤ i133 ∧ i133 < ((x2.length : Nat) : Int)) ∧ (True ∧ True)) ⟨[(1, .one (.e (.sl 1 0 x2.length))), (6, I i133), (24, .one (.e (.sl 2 0 x132.length))), (28, AGG [cI ((x2.getD i133.toNat dedt).kind), cS ((x2.getD i133.toNat dedt).path), cI ((x2.getD i133.toNat dedt).value)])], [.row .nod x1 false, .row .edt x2 false, .row .nod x132 true]⟩ (by kernel_rfl) ⟨hg163, trivial, trivial⟩ ?_
      refine bindO_e h (fun v169 hc166 h => ?_)
      obtain ⟨x164, b165⟩ := v169
      refine WO_call [.ro 2] Try.f42 rfl rfl rfl (by kernel_rfl) Try.func42 rfl (by kernel_rfl) (spec_apply_ok n x132 (x2.getD i133.toNat dedt) x164 b165 hc166) (And.intro (And.intro rfl rfl) (trivial)) rfl ?_
      refine WO_step 5 [0, 1, 3] [1, 6, 7, 8] True ⟨[(1, .one (.e (.sl 1 0 x2.length))), (6, I i133), (7, .one (.e (.sl 2 0 x164.length))), (8, B b165)], [.row .nod x1 false, .row .edt x2 false, .row .nod x164 true]⟩ (by kernel_rfl) trivial ?_
      refine WO_nil rfl ?_
      refine thenS_n ?_
      refine W_seq ?_
      refine W_seq ?_
      refine W_region ?_
      refine WO_step 2 [0, 1, 2] [1, 6, 7, 33] True ⟨[(1, .one (.e (.sl 1 0 x2.length))), (6, I i133), (7, .one (.e (.sl 2 0 x164.length))), (33, B (!b165))], [.row .nod x1 false, .row .edt x2 false, .row .nod x164 true]⟩ (by kernel_rfl) trivial ?_
      refine WO_nil rfl ?_
      refine thenS_n ?_
      refine iteO_e h (fun hb168 h => W_true rfl hb168 ?_) (fun hb168 h => W_false rfl hb168 ?_)
      · refine W_seq ?_
        refine W_region ?_
        refine WO_step 2 [0, 1] [4, 5] True ⟨[(4, .one (.e (.nsl))), (5, B false)], [.row .nod x1 false, .row .edt x2 false]⟩ (by kernel_rfl) trivial ?_
        refine WO_nilrow 4 .nod rfl ?_
        refine WO_sub [0, 1, 2] [4, 5] (st' := ⟨[(4, .one (.e (.sl 2 0 (([] : List Nod).length)))), (5, B false)], [.row .nod x1 false, .row .edt x2 false, .row .nod ([] : List Nod) true]⟩) (by kernel_rfl) ?_
        refine WO_nil rfl ?_
        refine thenS_n ?_
        refine W_ret ?_
        refine thenS_r ?_
        refine blockS_r ?_
        refine thenS_r ?_
        refine thenS_r ?_
        cases h
        exact And.intro rfl rfl
      · refine W_sub [0, 1, 2] [1, 6, 7] (st' := ⟨[(1, .one (.e (.sl 1 0 x2.length))), (6, I i133), (7, .one (.e (.sl 2 0 x164.length)))], [.row .nod x1 false, .row .edt x2 false, .row .nod x164 true]⟩) (by kernel_rfl) ?_
        refine W_skip ?_
        refine thenS_n ?_
        refine W_region ?_
        refine WO_step 2 [0, 1, 2] [0, 1, 6] True ⟨[(0, .one (.e (.sl 2 0 x164.length))), (1, .one (.e (.sl 1 0 x2.length))), (6, I i133)], [.row .nod x1 false, .row .edt x2 false, .row .nod x164 true]⟩ (by kernel_rfl) trivial ?_
        refine WO_nil rfl ?_
        refine blockS_n ?_
        refine thenS_n ?_
        refine W_region ?_
        refine WO_step 3 [0, 1, 2] [0, 1, 6] (True ∧ True) ⟨[(0, .one (.e (.sl 2 0 x164.length))), (1, .one (.e (.sl 1 0 x2.length))), (6, I (w64 (i133 + 1)))], [.row .nod x1 false, .row .edt x2 false, .row .nod x164 true]⟩ (by kernel_rfl) ⟨trivial, trivial⟩ ?_
        refine WO_nil rfl ?_
        refine thenS_n ?_
        exact ih _ _ h
    · refine W_sub [0, 1, 2] [0] (st' := ⟨[(0, .one (.e (.sl 2 0 x132.length)))], [.row .nod x1 false, .row .edt x2 false, .row .nod x132 true]⟩) (by kernel_rfl) ?_
      refine W_exit ?_
      refine thenS_e ?_
      refine thenS_e ?_
      cases h
      exact And.intro rfl rfl

def spec_ApplyEdits (n : Nat) (x1 : List Nod) (x2 : List Edt) : Option ((List Nod) × Bool) :=
 bindO (spec_validTree n x1) fun b70 =>
 iteO ((!b70) || (decide (24 < ((x2.length : Nat) : Int))))
 (some (([] : List Nod), false))
 (bindO (iteO (decide (0 < ((x2.length : Nat) : Int)))
 (guardO (0 ≤ (0 : Int) ∧ (0 : Int) < ((x2.length : Nat) : Int)) <|
 bindO (spec_apply n x1 (x2.getD 0 dedt)) fun (x127, b128) =>
 iteO (!b128)
 (some (.inl ()))
 (bindO (spec_ApplyEdits_L1 x2 x1 n x127 (w64 (0 + 1))) fun v170 =>
 match v170 with
 | (.inl _) => (some (.inl ()))
 | (.inr x152) => (some (.inr (.inl x152)))
))
 (some (.inr (.inr ()))) : Option ((Unit) ⊕ (((List Nod)) ⊕ (Unit)))) fun v116 =>
 match v116 with
 | (.inl _) => (some (([] : List Nod), false))
 | (.inr (.inl x115)) => (guardO (0 = 0 ∧ ([] : List Nod).length = ([] : List Nod).length ∧ ([] : List Nod).length + ((x115.drop 0).take x115.length).length ≤ 1099511627776) <|
 some ((([] : List Nod) ++ ((x115.drop 0).take x115.length)), true))
 | (.inr (.inr _)) => (guardO (0 = 0 ∧ ([] : List Nod).length = ([] : List Nod).length ∧ ([] : List Nod).length + ((x1.drop 0).take x1.length).length ≤ 1099511627776) <|
 some ((([] : List Nod) ++ ((x1.drop 0).take x1.length)), true))
)

theorem spec_ApplyEdits_ok (n : Nat) (x1 : List Nod) (x2 : List Edt) (x68 : List Nod) (b69 : Bool) (h : spec_ApplyEdits n x1 x2 = some (x68, b69)) : FOk EE 24 [.one (.e (.sl 0 0 x1.length)), .one (.e (.sl 1 0 x2.length))] [.row .nod x1 false, .row .edt x2 false] (.tup [.e (.sl 2 0 x68.length), .e (cB b69)]) [.row .nod x1 false, .row .edt x2 false, .row .nod x68 true] := by
  unfold spec_ApplyEdits at h
  refine FOk_of_W 38 2 Try.func24 rfl rfl (Nat.le_of_ble_eq_true rfl) rfl (fun w X θ => ?_)
  refine W_seq ?_
  refine W_region ?_
  refine WO_step 2 [0, 1] [0, 1] True ⟨[(0, .one (.e (.sl 0 0 x1.length))), (1, .one (.e (.sl 1 0 x2.length)))], [.row .nod x1 false, .row .edt x2 false]⟩ (by kernel_rfl) trivial ?_
  refine WO_nil rfl ?_
  refine thenS_n ?_
  refine W_seq ?_
  refine W_seq ?_
  refine W_region ?_
  refine WO_step 1 [0, 1] [0, 1, 9] True ⟨[(0, .one (.e (.sl 0 0 x1.length))), (1, .one (.e (.sl 1 0 x2.length))), (9, .one (.e (.sl 0 0 x1.length)))], [.row .nod x1 false, .row .edt x2 false]⟩ (by kernel_rfl) trivial ?_
  refine bindO_e h (fun b70 hc71 h => ?_)
  refine WO_call [.ro 0] Try.f17 rfl rfl rfl (by kernel_rfl) Try.func17 rfl (by kernel_rfl) (spec_validTree_ok n x1 b70 hc71) (And.intro (And.intro rfl rfl) (trivial)) rfl ?_
  refine WO_step 2 [0, 1] [0, 1, 12] True ⟨[(0, .one (.e (.sl 0 0 x1.length))), (1, .one (.e (.sl 1 0 x2.length))), (12, B (!b70))], [.row .nod x1 false, .row .edt x2 false]⟩ (by kernel_rfl) trivial ?_
  refine WO_thru ⟨[(0, .one (.e (.sl 0 0 x1.length))), (1, .one (.e (.sl 1 0 x2.length))), (16, B ((!b70) || (decide (24 < ((x2.length : Nat) : Int)))))], [.row .nod x1 false, .row .edt x2 false]⟩ ?_ ?_
  · refine WO_if 12 rfl (fun hb74 => ?_) (fun hb74 => ?_)
    · refine WO_step 4 [0, 1] [0, 1, 16] True ⟨[(0, .one (.e (.sl 0 0 x1.length))), (1, .one (.e (.sl 1 0 x2.length))), (16, B true)], [.row .nod x1 false, .row .edt x2 false]⟩ (by kernel_rfl) trivial ?_
      exact WO_nil rfl ⟨rfl, by first | rfl | (rw [hb74]; first | done | rfl)⟩
    · refine WO_step 4 [0, 1] [0, 1, 16] (True ∧ (True ∧ True)) ⟨[(0, .one (.e (.sl 0 0 x1.length))), (1, .one (.e (.sl 1 0 x2.length))), (16, B (decide (24 < ((x2.length : Nat) : Int))))], [.row .nod x1 false, .row .edt x2 false]⟩ (by kernel_rfl) ⟨trivial, trivial, trivial⟩ ?_
      exact WO_nil rfl ⟨rfl, by first | rfl | (rw [hb74]; first | done | rfl)⟩
  · refine thenS_n ?_
    refine iteO_e h (fun hb76 h => W_true rfl hb76 ?_) (fun hb76 h => W_false rfl hb76 ?_)
    · refine W_seq ?_
      refine W_region ?_
      refine WO_step 2 [0, 1] [4, 5] True ⟨[(4, .one (.e (.nsl))), (5, B false)], [.row .nod x1 false, .row .edt x2 false]⟩ (by kernel_rfl) trivial ?_
      refine WO_nilrow 4 .nod rfl ?_
      refine WO_sub [0, 1, 2] [4, 5] (st' := ⟨[(4, .one (.e (.sl 2 0 (([] : List Nod).length)))), (5, B false)], [.row .nod x1 false, .row .edt x2 false, .row .nod ([] : List Nod) true]⟩) (by kernel_rfl) ?_
      refine WO_nil rfl ?_
      refine thenS_n ?_
      refine W_ret ?_
      refine thenS_r ?_
      cases h
      exact ⟨[0, 1, 2], True, by kernel_rfl, trivial⟩
    · refine W_sub [0, 1] [0, 1] (st' := ⟨[(0, .one (.e (.sl 0 0 x1.length))), (1, .one (.e (.sl 1 0 x2.length)))], [.row .nod x1 false, .row .edt x2 false]⟩) (by kernel_rfl) ?_
      refine W_skip ?_
      refine thenS_n ?_
      refine W_seq ?_
      refine W_seq ?_
      refine W_region ?_
      refine WO_step 1 [0, 1] [0, 1, 6] True ⟨[(0, .one (.e (.sl 0 0 x1.length))), (1, .one (.e (.sl 1 0 x2.length))), (6, I 0)], [.row .nod x1 false, .row .edt x2 false]⟩ (by kernel_rfl) trivial ?_
      refine WO_nil rfl ?_
      refine thenS_n ?_
      refine bindO_e h (fun v116 hv116 h => ?_)
      refine W_cut (Q' := fun (e : Exit) (s : St) => (match v116 with | (.inl _) => e = .ret ∧ s = ⟨[(4, .one (.e (.sl 2 0 (([] : List Nod).length)))), (5, B false)], [.row .nod x1 false, .row .edt x2 false, .row .nod ([] : List Nod) true]⟩ | (.inr (.inl x115)) => e = .normal ∧ s = ⟨[(0, .one (.e (.sl 2 0 x115.length)))], [.row .nod x1 false, .row .edt x2 false, .row .nod x115 true]⟩ | (.inr (.inr _)) => e = .normal ∧ s = ⟨[(0, .one (.e (.sl 0 0 x1.length)))], [.row .nod x1 false, .row .edt x2 false]⟩ : Prop)) ?_ ?_
      · refine W_block ?_
        refine W_loop ?_
        refine WL_round ?_
        refine W_seq ?_
        refine W_seq ?_
        refine W_region ?_
        refine WO_step 4 [0, 1] [0, 1, 6, 20] (True ∧ (True ∧ True)) ⟨[(0, .one (.e (.sl 0 0 x1.length))), (1, .one (.e (.sl 1 0 x2.length))), (6, I 0), (20, B (decide (0 < ((x2.length : Nat) : Int))))], [.row .nod x1 false, .row .edt x2 false]⟩ (by kernel_rfl) ⟨trivial, trivial, trivial⟩ ?_
        refine WO_nil rfl ?_
        refine thenS_n ?_
        refine iteO_e hv116 (fun hb118 hv116 => W_true rfl hb118 ?_) (fun hb118 hv116 => W_false rfl hb118 ?_)
        · refine W_sub [0, 1] [0, 1, 6] (st' := ⟨[(0, .one (.e (.sl 0 0 x1.length))), (1, .one (.e (.sl 1 0 x2.length))), (6, I 0)], [.row .nod x1 false, .row .edt x2 false]⟩) (by kernel_rfl) ?_
          refine W_skip ?_
          refine thenS_n ?_
          refine W_seq ?_
          refine W_block ?_
          refine W_seq ?_
          refine W_region ?_
          refine guardO_e hv116 (fun hg126 hv116 => ?_)
          refine WO_step 5 [0, 1] [1, 6, 24, 28] ((0 ≤ (0 : Int) ∧ (0 : Int) < ((x2.length : Nat) : Int)) ∧ (True ∧ True)) ⟨[(1, .one (.e (.sl 1 0 x2.length))), (6, I 0), (24, .one (.e (.sl 0 0 x1.length))), (28, AGG [cI ((x2.getD 0 dedt).kind), cS ((x2.getD 0 dedt).path), cI ((x2.getD 0 dedt).value)])], [.row .nod x1 false, .row .edt x2 false]⟩ (by kernel_rfl) ⟨hg126, trivial, trivial⟩ ?_
          refine bindO_e hv116 (fun v171 hc129 hv116 => ?_)
          obtain ⟨x127, b128⟩ := v171
          refine WO_call [.ro 0] Try.f42 rfl rfl rfl (by kernel_rfl) Try.func42 rfl (by kernel_rfl) (spec_apply_ok n x1 (x2.getD 0 dedt) x127 b128 hc129) (And.intro (And.intro rfl rfl) (trivial)) rfl ?_
          refine WO_step 5 [0, 1, 2] [1, 6, 7, 8] True ⟨[(1, .one (.e (.sl 1 0 x2.length))), (6, I 0), (7, .one (.e (.sl 2 0 x127.length))), (8, B b128)], [.row .nod x1 false, .row .edt x2 false, .row .nod x127 true]⟩ (by kernel_rfl) trivial ?_
          refine WO_nil rfl ?_
          refine thenS_n ?_
          refine W_seq ?_
          refine W_seq ?_
          refine W_region ?_
          refine WO_step 2 [0, 1, 2] [1, 6, 7, 33] True ⟨[(1, .one (.e (.sl 1 0 x2.length))), (6, I 0), (7, .one (.e (.sl 2 0 x127.length))), (33, B (!b128))], [.row .nod x1 false, .row .edt x2 false, .row .nod x127 true]⟩ (by kernel_rfl) trivial ?_
          refine WO_nil rfl ?_
          refine thenS_n ?_
          refine iteO_e hv116 (fun hb131 hv116 => W_true rfl hb131 ?_) (fun hb131 hv116 => W_false rfl hb131 ?_)
          · refine W_seq ?_
            refine W_region ?_
            refine WO_step 2 [0, 1] [4, 5] True ⟨[(4, .one (.e (.nsl))), (5, B false)], [.row .nod x1 false, .row .edt x2 false]⟩ (by kernel_rfl) trivial ?_
            refine WO_nilrow 4 .nod rfl ?_
            refine WO_sub [0, 1, 2] [4, 5] (st' := ⟨[(4, .one (.e (.sl 2 0 (([] : List Nod).length)))), (5, B false)], [.row .nod x1 false, .row .edt x2 false, .row .nod ([] : List Nod) true]⟩) (by kernel_rfl) ?_
            refine WO_nil rfl ?_
            refine thenS_n ?_
            refine W_ret ?_
            refine thenS_r ?_
            refine blockS_r ?_
            refine thenS_r ?_
            refine thenS_r ?_
            refine blockS_r ?_
            cases hv116
            exact And.intro rfl rfl
          · refine W_sub [0, 1, 2] [1, 6, 7] (st' := ⟨[(1, .one (.e (.sl 1 0 x2.length))), (6, I 0), (7, .one (.e (.sl 2 0 x127.length)))], [.row .nod x1 false, .row .edt x2 false, .row .nod x127 true]⟩) (by kernel_rfl) ?_
            refine W_skip ?_
            refine thenS_n ?_
            refine W_region ?_
            refine WO_step 2 [0, 1, 2] [0, 1, 6] True ⟨[(0, .one (.e (.sl 2 0 x127.length))), (1, .one (.e (.sl 1 0 x2.length))), (6, I 0)], [.row .nod x1 false, .row .edt x2 false, .row .nod x127 true]⟩ (by kernel_rfl) trivial ?_
            refine WO_nil rfl ?_
            refine blockS_n ?_
            refine thenS_n ?_
            refine W_region ?_
            refine WO_step 3 [0, 1, 2] [0, 1, 6] (True ∧ True) ⟨[(0, .one (.e (.sl 2 0 x127.length))), (1, .one (.e (.sl 1 0 x2.length))), (6, I (w64 (0 + 1)))], [.row .nod x1 false, .row .edt x2 false, .row .nod x127 true]⟩ (by kernel_rfl) ⟨trivial, trivial⟩ ?_
            refine WO_nil rfl ?_
            refine thenS_n ?_
            refine bindO_e hv116 (fun v170 hv170 hv116 => ?_)
            refine WL_cut (spec_ApplyEdits_L1_ok w X θ x2 x1 v170 n x127 (w64 (0 + 1)) hv170) ?_
            rcases v170 with _ | x152
            · rintro _ _ ⟨rfl, rfl⟩
              refine blockS_r ?_
              cases hv116
              exact And.intro rfl rfl
            · rintro _ _ ⟨rfl, rfl⟩
              refine blockS_y ?_
              cases hv116
              exact And.intro rfl rfl
        · refine W_sub [0, 1] [0] (st' := ⟨[(0, .one (.e (.sl 0 0 x1.length)))], [.row .nod x1 false, .row .edt x2 false]⟩) (by kernel_rfl) ?_
          refine W_exit ?_
          refine thenS_e ?_
          refine thenS_e ?_
          refine blockS_y ?_
          cases hv116
          exact And.intro rfl rfl
      · rcases v116 with _ | x115 | _
        · rintro _ _ ⟨rfl, rfl⟩
          refine thenS_r ?_
          cases h
          exact ⟨[0, 1, 2], True, by kernel_rfl, trivial⟩
        · rintro _ _ ⟨rfl, rfl⟩
          refine thenS_n ?_
          refine W_seq ?_
          refine W_region ?_
          refine guardO_e h (fun hg172 h => ?_)
          refine WO_step 5 [0, 1, 4] [4, 5] ((0 = 0 ∧ ([] : List Nod).length = ([] : List Nod).length ∧ ([] : List Nod).length + ((x115.drop 0).take x115.length).length ≤ 1099511627776) ∧ True) ⟨[(4, .one (.e (.sl 2 0 ((([] : List Nod) ++ ((x115.drop 0).take x115.length)).length)))), (5, B true)], [.row .nod x1 false, .row .edt x2 false, .row .nod (([] : List Nod) ++ ((x115.drop 0).take x115.length)) true]⟩ (by kernel_rfl) ⟨hg172, trivial⟩ ?_
          refine WO_nil rfl ?_
          refine thenS_n ?_
          refine W_ret ?_
          cases h
          exact ⟨[0, 1, 2], True, by kernel_rfl, trivial⟩
        · rintro _ _ ⟨rfl, rfl⟩
          refine thenS_n ?_
          refine W_seq ?_
          refine W_region ?_
          refine guardO_e h (fun hg173 h => ?_)
          refine WO_step 5 [0, 1, 3] [4, 5] ((0 = 0 ∧ ([] : List Nod).length = ([] : List Nod).length ∧ ([] : List Nod).length + ((x1.drop 0).take x1.length).length ≤ 1099511627776) ∧ True) ⟨[(4, .one (.e (.sl 2 0 ((([] : List Nod) ++ ((x1.drop 0).take x1.length)).length)))), (5, B true)], [.row .nod x1 false, .row .edt x2 false, .row .nod (([] : List Nod) ++ ((x1.drop 0).take x1.length)) true]⟩ (by kernel_rfl) ⟨hg173, trivial⟩ ?_
          refine WO_nil rfl ?_
          refine thenS_n ?_
          refine W_ret ?_
          cases h
          exact ⟨[0, 1, 2], True, by kernel_rfl, trivial⟩

/- spec.DrawSameTree -/
def spec_DrawSameTree (n : Nat) (x1 : List Int) : Option ((List Nod) × (List Nod) × Nat × Nat × Nat × Nat) :=
 bindO (spec_newReader x1) fun k35 =>
 bindO (spec_anyTree n x1 k35 0) fun (i37, x38, k39, k40) =>
 bindO (spec_reader_pick x1 k35 i37 2) fun i42 =>
 bindO (iteO (decide (i42 = 0))
 (bindO (spec_EditsBetween n [(⟨(-1), [], 0⟩ : Nod)] ((x38.drop k39).take k40)) fun x56 =>
 bindO (spec_ApplyEdits n [(⟨(-1), [], 0⟩ : Nod)] x56) fun (x58, b59) =>
 iteO b59
 (some (.inl x58))
 (some (.inr ())))
 (some (.inr ())) : Option (((List Nod)) ⊕ (Unit))) fun v54 =>
 match v54 with
 | (.inl x53) => (some (x38, x53, k39, k40, 0, x53.length))
 | (.inr _) => (bindO (spec_anyTree n x1 k35 (w64 (i37 + 1))) fun (i64, x65, k66, k67) =>
 some (x38, x65, k39, k40, k66, k67))


theorem spec_DrawSameTree_ok (n : Nat) (x1 : List Int) (x29 : List Nod) (x30 : List Nod) (k31 : Nat) (k32 : Nat) (k33 : Nat) (k34 : Nat) (h : spec_DrawSameTree n x1 = some (x29, x30, k31, k32, k33, k34)) : FOk EE 12 [.one (.e (.sl 0 0 x1.length))] [.row .u8 x1 false] (.tup [.e (.sl 1 k31 k32), .e (.sl 2 k33 k34)]) [.row .u8 x1 false, .row .nod x29 true, .row .nod x30 true] := by
  unfold spec_DrawSameTree at h
  refine FOk_of_W 31 1 Try.func12 rfl rfl (Nat.le_of_ble_eq_true rfl) rfl (fun w X θ => ?_)
  refine W_seq ?_
  refine W_region ?_
  refine WO_step 2 [0] [0] True ⟨[(0, .one (.e (.sl 0 0 x1.length)))], [.row .u8 x1 false]⟩ (by kernel_rfl) trivial ?_
  refine WO_nil rfl ?_
  refine thenS_n ?_
  refine W_seq ?_
  refine W_region ?_
  refine WO_step 1 [0] [8] True ⟨[(8, .one (.e (.sl 0 0 x1.length)))], [.row .u8 x1 false]⟩ (by kernel_rfl) trivial ?_
  refine bindO_e h (fun k35 hc36 h => ?_)
  refine WO_call [.ro 0] Try.f21 rfl rfl rfl (by kernel_rfl) Try.func21 rfl (by kernel_rfl) (spec_newReader_ok x1 k35 hc36) (And.intro (And.intro rfl rfl) (trivial)) rfl ?_
  refine WO_step 1 [0, 1] [4] True ⟨[(4, .one (.e (.p 1 0)))], [.row .u8 x1 false, .cells [.sl 0 0 k35, cI 0]]⟩ (by kernel_rfl) trivial ?_
  refine WO_nil rfl ?_
  refine thenS_n ?_
  refine W_seq ?_
  refine W_region ?_
  refine WO_step 1 [0, 1] [4, 10] True ⟨[(4, .one (.e (.p 1 0))), (10, .one (.e (.p 1 0)))], [.row .u8 x1 false, .cells [.sl 0 0 k35, cI 0]]⟩ (by kernel_rfl) trivial ?_
  refine bindO_e h (fun v70 hc41 h => ?_)
  obtain ⟨i37, x38, k39, k40⟩ := v70
  refine WO_call [.own 1, .ro 0] Try.f22 rfl rfl rfl (by kernel_rfl) Try.func22 rfl (by kernel_rfl) (spec_anyTree_ok n x1 k35 0 i37 x38 k39 k40 hc41) (And.intro (trivial) (And.intro (And.intro rfl rfl) (trivial))) rfl ?_
  refine WO_step 1 [0, 1, 2] [4, 5] True ⟨[(4, .one (.e (.p 1 0))), (5, .one (.e (.sl 2 k39 k40)))], [.row .u8 x1 false, .cells [.sl 0 0 k35, cI i37], .row .nod x38 true]⟩ (by kernel_rfl) trivial ?_
  refine WO_nil rfl ?_
  refine thenS_n ?_
  refine W_seq ?_
  refine W_seq ?_
  refine W_region ?_
  refine WO_step 1 [0, 1, 2] [4, 5, 12] True ⟨[(4, .one (.e (.p 1 0))), (5, .one (.e (.sl 2 k39 k40))), (12, .one (.e (.p 1 0)))], [.row .u8 x1 false, .cells [.sl 0 0 k35, cI i37], .row .nod x38 true]⟩ (by kernel_rfl) trivial ?_
  refine bindO_e h (fun i42 hc43 h => ?_)
  refine WO_call [.own 1, .ro 0] Try.f23 rfl rfl rfl (by kernel_rfl) Try.func23 rfl (by kernel_rfl) (spec_reader_pick_ok x1 k35 i37 2 i42 hc43) (And.intro (trivial) (And.intro (And.intro rfl rfl) (trivial))) rfl ?_
  refine WO_step 1 [0, 1, 2] [4, 5, 14] (True ∧ True) ⟨[(4, .one (.e (.p 1 0))), (5, .one (.e (.sl 2 k39 k40))), (14, B (decide (i42 = 0)))], [.row .u8 x1 false, .cells [.sl 0 0 k35, cI (w64 (i37 + 1))], .row .nod x38 true]⟩ (by kernel_rfl) ⟨trivial, trivial⟩ ?_
  refine WO_nil rfl ?_
  refine thenS_n ?_
  refine bindO_e h (fun v54 hv54 h => ?_)
  refine W_cut (Q' := fun (e : Exit) (s : St) => (match v54 with | (.inl x53) => e = .ret ∧ s = ⟨[(2, .one (.e (.sl 1 k39 k40))), (3, .one (.e (.sl 2 0 x53.length)))], [.row .u8 x1 false, .row .nod x38 true, .row .nod x53 true]⟩ | (.inr _) => e = .normal ∧ s = ⟨[(4, .one (.e (.p 1 0))), (5, .one (.e (.sl 2 k39 k40)))], [.row .u8 x1 false, .cells [.sl 0 0 k35, cI (w64 (i37 + 1))], .row .nod x38 true]⟩ : Prop)) ?_ ?_
  · refine iteO_e hv54 (fun hb55 hv54 => W_true rfl hb55 ?_) (fun hb55 hv54 => W_false rfl hb55 ?_)
    · refine W_seq ?_
      refine W_region ?_
      refine WO_step 5 [0, 1, 2, 3, 4] [4, 5, 17, 19, 20] True ⟨[(4, .one (.e (.p 1 0))), (5, .one (.e (.sl 2 k39 k40))), (17, .one (.e (.sl 3 0 ([(⟨(-1), [], 0⟩ : Nod)].length)))), (19, .one (.e (.sl 4 0 ([(⟨(-1), [], 0⟩ : Nod)].length)))), (20, .one (.e (.sl 2 k39 k40)))], [.row .u8 x1 false, .cells [.sl 0 0 k35, cI (w64 (i37 + 1))], .row .nod x38 true, .row .nod [(⟨(-1), [], 0⟩ : Nod)] true, .row .nod [(⟨(-1), [], 0⟩ : Nod)] true]⟩ (by kernel_rfl) trivial ?_
      refine bindO_e hv54 (fun x56 hc57 hv54 => ?_)
      refine WO_call [.ro 4, .view 1] Try.f25 rfl rfl rfl (by kernel_rfl) Try.func25 rfl (by kernel_rfl) (spec_EditsBetween_ok n [(⟨(-1), [], 0⟩ : Nod)] ((x38.drop k39).take k40) x56 hc57) (And.intro (And.intro rfl rfl) (trivial)) rfl ?_
      refine WO_sub [0, 1, 2, 3, 5] [4, 5, 17, 21] (st' := ⟨[(4, .one (.e (.p 1 0))), (5, .one (.e (.sl 2 k39 k40))), (17, .one (.e (.sl 3 0 ([(⟨(-1), [], 0⟩ : Nod)].length)))), (21, .one (.e (.sl 4 0 x56.length)))], [.row .u8 x1 false, .cells [.sl 0 0 k35, cI (w64 (i37 + 1))], .row .nod x38 true, .row .nod [(⟨(-1), [], 0⟩ : Nod)] true, .row .edt x56 true]⟩) (by kernel_rfl) ?_
      refine bindO_e hv54 (fun v63 hc60 hv54 => ?_)
      obtain ⟨x58, b59⟩ := v63
      refine WO_call [.ro 3, .ro 4] Try.f24 rfl rfl rfl (by kernel_rfl) Try.func24 rfl (by kernel_rfl) (spec_ApplyEdits_ok n [(⟨(-1), [], 0⟩ : Nod)] x56 x58 b59 hc60) (And.intro (And.intro rfl rfl) (And.intro (And.intro rfl rfl) (trivial))) rfl ?_
      refine WO_step 5 [0, 1, 2, 5] [4, 5, 6, 7] True ⟨[(4, .one (.e (.p 1 0))), (5, .one (.e (.sl 2 k39 k40))), (6, .one (.e (.sl 3 0 x58.length))), (7, B b59)], [.row .u8 x1 false, .cells [.sl 0 0 k35, cI (w64 (i37 + 1))], .row .nod x38 true, .row .nod x58 true]⟩ (by kernel_rfl) trivial ?_
      refine WO_nil rfl ?_
      refine thenS_n ?_
      refine W_seq ?_
      refine W_region ?_
      refine WO_step 1 [0, 1, 2, 3] [4, 5, 6, 25] True ⟨[(4, .one (.e (.p 1 0))), (5, .one (.e (.sl 2 k39 k40))), (6, .one (.e (.sl 3 0 x58.length))), (25, B b59)], [.row .u8 x1 false, .cells [.sl 0 0 k35, cI (w64 (i37 + 1))], .row .nod x38 true, .row .nod x58 true]⟩ (by kernel_rfl) trivial ?_
      refine WO_nil rfl ?_
      refine thenS_n ?_
      refine iteO_e hv54 (fun hb62 hv54 => W_true rfl hb62 ?_) (fun hb62 hv54 => W_false rfl hb62 ?_)
      · refine W_seq ?_
        refine W_region ?_
        refine WO_step 4 [0, 2, 3] [2, 3] True ⟨[(2, .one (.e (.sl 1 k39 k40))), (3, .one (.e (.sl 2 0 x58.length)))], [.row .u8 x1 false, .row .nod x38 true, .row .nod x58 true]⟩ (by kernel_rfl) trivial ?_
        refine WO_nil rfl ?_
        refine thenS_n ?_
        refine W_ret ?_
        cases hv54
        exact And.intro rfl rfl
      · refine W_sub [0, 1, 2] [4, 5] (st' := ⟨[(4, .one (.e (.p 1 0))), (5, .one (.e (.sl 2 k39 k40)))], [.row .u8 x1 false, .cells [.sl 0 0 k35, cI (w64 (i37 + 1))], .row .nod x38 true]⟩) (by kernel_rfl) ?_
        refine W_skip ?_
        cases hv54
        exact And.intro rfl rfl
    · refine W_sub [0, 1, 2] [4, 5] (st' := ⟨[(4, .one (.e (.p 1 0))), (5, .one (.e (.sl 2 k39 k40)))], [.row .u8 x1 false, .cells [.sl 0 0 k35, cI (w64 (i37 + 1))], .row .nod x38 true]⟩) (by kernel_rfl) ?_
      refine W_skip ?_
      cases hv54
      exact And.intro rfl rfl
  · rcases v54 with x53 | _
    · rintro _ _ ⟨rfl, rfl⟩
      refine thenS_r ?_
      cases h
      exact ⟨[0, 1, 2], True, by kernel_rfl, trivial⟩
    · rintro _ _ ⟨rfl, rfl⟩
      refine thenS_n ?_
      refine W_seq ?_
      refine W_region ?_
      refine WO_step 2 [0, 2, 1] [28, 29] True ⟨[(28, .one (.e (.sl 1 k39 k40))), (29, .one (.e (.p 2 0)))], [.row .u8 x1 false, .row .nod x38 true, .cells [.sl 0 0 k35, cI (w64 (i37 + 1))]]⟩ (by kernel_rfl) trivial ?_
      refine bindO_e h (fun v69 hc68 h => ?_)
      obtain ⟨i64, x65, k66, k67⟩ := v69
      refine WO_call [.own 2, .ro 0] Try.f22 rfl rfl rfl (by kernel_rfl) Try.func22 rfl (by kernel_rfl) (spec_anyTree_ok n x1 k35 (w64 (i37 + 1)) i64 x65 k66 k67 hc68) (And.intro (trivial) (And.intro (And.intro rfl rfl) (trivial))) rfl ?_
      refine WO_step 2 [0, 1, 3] [2, 3] True ⟨[(2, .one (.e (.sl 1 k39 k40))), (3, .one (.e (.sl 2 k66 k67)))], [.row .u8 x1 false, .row .nod x38 true, .row .nod x65 true]⟩ (by kernel_rfl) trivial ?_
      refine WO_nil rfl ?_
      refine thenS_n ?_
      refine W_ret ?_
      cases h
      exact ⟨[0, 1, 2], True, by kernel_rfl, trivial⟩

/- impl.within -/
def impl_within (i1 : Int) (i2 : Int) (i3 : Int) : Bool :=
((decide (i2 ≤ i1)) && (decide (i1 ≤ i3)))

theorem impl_within_ok (i1 : Int) (i2 : Int) (i3 : Int) : FOk EE 26 [I i1, I i2, I i3] [] (B (impl_within i1 i2 i3)) [] := by
  refine FOk_of_W 15 0 Try.func26 rfl rfl (Nat.le_of_ble_eq_true rfl) rfl (fun w X θ => ?_)
  refine W_seq ?_
  refine W_region ?_
  refine WO_step 1 [] [0, 1, 2] True ⟨[(0, I i1), (1, I i2), (2, I i3)], []⟩ (by kernel_rfl) trivial ?_
  refine WO_nil rfl ?_
  refine thenS_n ?_
  refine W_seq ?_
  refine W_region ?_
  refine WO_step 4 [] [0, 2, 10] (True ∧ True) ⟨[(0, I i1), (2, I i3), (10, B (decide (i2 ≤ i1)))], []⟩ (by kernel_rfl) ⟨trivial, trivial⟩ ?_
  refine WO_thru ⟨[(6, B ((decide (i2 ≤ i1)) && (decide (i1 ≤ i3))))], []⟩ ?_ ?_
  · refine WO_if 10 rfl (fun hb10 => ?_) (fun hb10 => ?_)
    · refine WO_step 5 [] [6] (True ∧ True) ⟨[(6, B (decide (i1 ≤ i3)))], []⟩ (by kernel_rfl) ⟨trivial, trivial⟩ ?_
      exact WO_nil rfl ⟨rfl, by first | rfl | (rw [hb10]; first | done | rfl)⟩
    · refine WO_step 5 [] [6] True ⟨[(6, B false)], []⟩ (by kernel_rfl) trivial ?_
      exact WO_nil rfl ⟨rfl, by first | rfl | (rw [hb10]; first | done | rfl)⟩
  · refine thenS_n ?_
    refine W_ret ?_
    exact ⟨[], True, by kernel_rfl, trivial⟩

/- impl.isName -/
def impl_isName_L1 (s1 : Str) : Nat → Int → Option ((Unit) ⊕ (Unit))
| 0, _ => none
| n + 1, i96 =>
 iteO (decide (i96 < ((s1.length : Nat) : Int)))
 (guardO (0 ≤ i96 ∧ i96 < ((s1.length : Nat) : Int)) <|
 bindO (iteO (decide (((s1.getD i96.toNat 0).toNat : Int) < 97))
 (some true)
 (guardO (0 ≤ i96 ∧ i96 < ((s1.length : Nat) : Int)) <|
 some (decide (122 < ((s1.getD i96.toNat 0).toNat : Int))))) fun b133 =>
 iteO b133
 (some (.inl ()))
 (impl_isName_L1 s1 n (w64 (i96 + 1))))
 (some (.inr ()))

theorem impl_isName_L1_ok (w : World) (X : Nat → Prop) (θ : List Loc) (s1 : Str) (v : (Unit) ⊕ (Unit)) : ∀ (n : Nat) (i96 : Int), impl_isName_L1 s1 n i96 = some v → WL EE ⟨w, X, θ, 24, 0⟩ (subC [1, 1, 0, 1, 4, 4] (bodyC Try.f27)) (fun (e : Exit) (s : St) => (match v with | (.inl _) => e = .ret ∧ s = ⟨[(2, B false)], []⟩ | (.inr _) => e = .exit 0 ∧ s = ⟨[], []⟩ : Prop)) ⟨[(0, S s1), (9, I ((s1.length : Nat) : Int)), (10, I i96)], []⟩ := by
  intro n
  induction n with
  | zero => intro _ h; exact none_e h
  | succ n ih =>
    intro i96 h
    rw [impl_isName_L1] at h
    refine WL_round ?_
    refine W_seq ?_
    refine W_region ?_
    refine WO_step 1 [] [0, 9, 10, 11] (True ∧ True) ⟨[(0, S s1), (9, I ((s1.length : Nat) : Int)), (10, I i96), (11, B (decide (i96 < ((s1.length : Nat) : Int))))], []⟩ (by kernel_rfl) ⟨trivial, trivial⟩ ?_
    refine WO_nil rfl ?_
    refine thenS_n ?_
    refine W_seq ?_
    refine iteO_e h (fun hb120 h => W_true rfl hb120 ?_) (fun hb120 h => W_false rfl hb120 ?_)
    · refine W_sub [] [0, 9, 10] (st' := ⟨[(0, S s1), (9, I ((s1.length : Nat) : Int)), (10, I i96)], []⟩) (by kernel_rfl) ?_
      refine W_skip ?_
      refine thenS_n ?_
      refine W_seq ?_
      refine W_block ?_
      refine W_seq ?_
      refine W_region ?_
      refine WO_step 2 [] [0, 3, 9, 10] True ⟨[(0, S s1), (3, I i96), (9, I ((s1.length : Nat) : Int)), (10, I i96)], []⟩ (by kernel_rfl) trivial ?_
      refine WO_nil rfl ?_
      refine thenS_n ?_
      refine W_seq ?_
      refine W_region ?_
      refine guardO_e h (fun hg130 h => ?_)
      refine WO_step 5 [] [0, 3, 9, 10, 17] ((0 ≤ i96 ∧ i96 < ((s1.length : Nat) : Int)) ∧ (True ∧ True)) ⟨[(0, S s1), (3, I i96), (9, I ((s1.length : Nat) : Int)), (10, I i96), (17, B (decide (((s1.getD i96.toNat 0).toNat : Int) < 97)))], []⟩ (by kernel_rfl) ⟨hg130, trivial, trivial⟩ ?_
      refine bindO_e h (fun b133 hv134 h => ?_)
      refine WO_thru ⟨[(0, S s1), (9, I ((s1.length : Nat) : Int)), (10, I i96), (22, B b133)], []⟩ ?_ ?_
      · refine iteO_e hv134 (fun hb135 hv134 => WO_known 17 true rfl hb135 ?_) (fun hb135 hv134 => WO_known 17 false rfl hb135 ?_)
        · refine WO_step 5 [] [0, 9, 10, 22] True ⟨[(0, S s1), (9, I ((s1.length : Nat) : Int)), (10, I i96), (22, B true)], []⟩ (by kernel_rfl) trivial ?_
          cases hv134
          exact WO_nil rfl ⟨rfl, rfl⟩
        · refine guardO_e hv134 (fun hg136 hv134 => ?_)
          refine WO_step 5 [] [0, 9, 10, 22] ((0 ≤ i96 ∧ i96 < ((s1.length : Nat) : Int)) ∧ (True ∧ True)) ⟨[(0, S s1), (9, I ((s1.length : Nat) : Int)), (10, I i96), (22, B (decide (122 < ((s1.getD i96.toNat 0).toNat : Int))))], []⟩ (by kernel_rfl) ⟨hg136, trivial, trivial⟩ ?_
          cases hv134
          exact WO_nil rfl ⟨rfl, rfl⟩
      · refine thenS_n ?_
        refine iteO_e h (fun hb138 h => W_true rfl hb138 ?_) (fun hb138 h => W_false rfl hb138 ?_)
        · refine W_seq ?_
          refine W_region ?_
          refine WO_step 1 [] [2] True ⟨[(2, B false)], []⟩ (by kernel_rfl) trivial ?_
          refine WO_nil rfl ?_
          refine thenS_n ?_
          refine W_ret ?_
          refine blockS_r ?_
          refine thenS_r ?_
          refine thenS_r ?_
          cases h
          exact And.intro rfl rfl
        · refine W_sub [] [0, 9, 10] (st' := ⟨[(0, S s1), (9, I ((s1.length : Nat) : Int)), (10, I i96)], []⟩) (by kernel_rfl) ?_
          refine W_skip ?_
          refine blockS_n ?_
          refine thenS_n ?_
          refine W_region ?_
          refine WO_step 2 [] [0, 9, 10] (True ∧ True) ⟨[(0, S s1), (9, I ((s1.length : Nat) : Int)), (10, I (w64 (i96 + 1)))], []⟩ (by kernel_rfl) ⟨trivial, trivial⟩ ?_
          refine WO_nil rfl ?_
          refine thenS_n ?_
          exact ih _ h
    · refine W_sub [] [] (st' := ⟨[], []⟩) (by kernel_rfl) ?_
      refine W_exit ?_
      refine thenS_e ?_
      refine thenS_e ?_
      cases h
      exact And.intro rfl rfl

def impl_isName (n : Nat) (s1 : Str) : Option (Bool) :=
 iteO (!(impl_within ((s1.length : Nat) : Int) 1 4))
 (some false)
 (bindO (impl_isName_L1 s1 n 0) fun v139 =>
 match v139 with
 | (.inl _) => (some false)
 | (.inr _) => (some true)
)

theorem impl_isName_ok (n : Nat) (s1 : Str) (b70 : Bool) (h : impl_isName n s1 = some b70) : FOk EE 27 [S s1] [] (B b70) [] := by
  unfold impl_isName at h
  refine FOk_of_W 24 0 Try.func27 rfl rfl (Nat.le_of_ble_eq_true rfl) rfl (fun w X θ => ?_)
  refine W_seq ?_
  refine W_region ?_
  refine WO_step 1 [] [0] True ⟨[(0, S s1)], []⟩ (by kernel_rfl) trivial ?_
  refine WO_nil rfl ?_
  refine thenS_n ?_
  refine W_seq ?_
  refine W_seq ?_
  refine W_region ?_
  refine WO_step 2 [] [0, 5] (True ∧ True) ⟨[(0, S s1), (5, I ((s1.length : Nat) : Int))], []⟩ (by kernel_rfl) ⟨trivial, trivial⟩ ?_
  refine WO_call [] Try.f26 rfl rfl rfl (by kernel_rfl) Try.func26 rfl (by kernel_rfl) (impl_within_ok ((s1.length : Nat) : Int) 1 4) (trivial) rfl ?_
  refine WO_step 1 [] [0, 7] True ⟨[(0, S s1), (7, B (!(impl_within ((s1.length : Nat) : Int) 1 4)))], []⟩ (by kernel_rfl) trivial ?_
  refine WO_nil rfl ?_
  refine thenS_n ?_
  refine iteO_e h (fun hb72 h => W_true rfl hb72 ?_) (fun hb72 h => W_false rfl hb72 ?_)
  · refine W_seq ?_
    refine W_region ?_
    refine WO_step 1 [] [2] True ⟨[(2, B false)], []⟩ (by kernel_rfl) trivial ?_
    refine WO_nil rfl ?_
    refine thenS_n ?_
    refine W_ret ?_
    refine thenS_r ?_
    cases h
    exact ⟨[], True, by kernel_rfl, trivial⟩
  · refine W_sub [] [0] (st' := ⟨[(0, S s1)], []⟩) (by kernel_rfl) ?_
    refine W_skip ?_
    refine thenS_n ?_
    refine W_seq ?_
    refine W_seq ?_
    refine W_region ?_
    refine WO_step 3 [] [0, 9, 10] (True ∧ True) ⟨[(0, S s1), (9, I ((s1.length : Nat) : Int)), (10, I 0)], []⟩ (by kernel_rfl) ⟨trivial, trivial⟩ ?_
    refine WO_nil rfl ?_
    refine thenS_n ?_
    refine W_block ?_
    refine W_loop ?_
    refine bindO_e h (fun v139 hv139 h => ?_)
    refine WL_cut (impl_isName_L1_ok w X θ s1 v139 n 0 hv139) ?_
    rcases v139 with _ | _
    · rintro _ _ ⟨rfl, rfl⟩
      refine blockS_r ?_
      refine thenS_r ?_
      cases h
      exact ⟨[], True, by kernel_rfl, trivial⟩
    · rintro _ _ ⟨rfl, rfl⟩
      refine blockS_y ?_
      refine thenS_n ?_
      refine W_seq ?_
      refine W_region ?_
      refine WO_step 1 [] [2] True ⟨[(2, B true)], []⟩ (by kernel_rfl) trivial ?_
      refine WO_nil rfl ?_
      refine thenS_n ?_
      refine W_ret ?_
      cases h
      exact ⟨[], True, by kernel_rfl, trivial⟩

/- impl.kidIn -/
def impl_kidIn_L1 (i2 : Int) (s3 : Str) (x1 : List Nod) : Nat → Int → Option ((Int) ⊕ (Unit))
| 0, _ => none
| n + 1, i73 =>
 iteO (decide (i73 < ((x1.length : Nat) : Int)))
 (guardO (0 ≤ i73 ∧ i73 < ((x1.length : Nat) : Int)) <|
 iteO ((decide (((x1.getD i73.toNat dnod).parent) = i2)) && (decide (((x1.getD i73.toNat dnod).name) = s3)))
 (some (.inl i73))
 (impl_kidIn_L1 i2 s3 x1 n (w64 (i73 + 1))))
 (some (.inr ()))

theorem impl_kidIn_L1_ok (w : World) (X : Nat → Prop) (θ : List Loc) (i2 : Int) (s3 : Str) (x1 : List Nod) (v : (Int) ⊕ (Unit)) : ∀ (n : Nat) (i73 : Int), impl_kidIn_L1 i2 s3 x1 n i73 = some v → WL EE ⟨w, X, θ, 28, 1⟩ (subC [1, 0, 1, 4, 4] (bodyC Try.f28)) (fun (e : Exit) (s : St) => (match v with | (.inl i89) => e = .ret ∧ s = ⟨[(6, I i89)], [.row .nod x1 false]⟩ | (.inr _) => e = .exit 0 ∧ s = ⟨[], [.row .nod x1 false]⟩ : Prop)) ⟨[(1, I i2), (2, S s3), (9, .one (.e (.sl 0 0 x1.length))), (10, I ((x1.length : Nat) : Int)), (11, I i73)], [.row .nod x1 false]⟩ := by
  intro n
  induction n with
  | zero => intro _ h; exact none_e h
  | succ n ih =>
    intro i73 h
    rw [impl_kidIn_L1] at h
    refine WL_round ?_
    refine W_seq ?_
    refine W_region ?_
    refine WO_step 1 [0] [1, 2, 9, 10, 11, 12] (True ∧ True) ⟨[(1, I i2), (2, S s3), (9, .one (.e (.sl 0 0 x1.length))), (10, I ((x1.length : Nat) : Int)), (11, I i73), (12, B (decide (i73 < ((x1.length : Nat) : Int))))], [.row .nod x1 false]⟩ (by kernel_rfl) ⟨trivial, trivial⟩ ?_
    refine WO_nil rfl ?_
    refine thenS_n ?_
    refine W_seq ?_
    refine iteO_e h (fun hb92 h => W_true rfl hb92 ?_) (fun hb92 h => W_false rfl hb92 ?_)
    · refine W_sub [0] [1, 2, 9, 10, 11] (st' := ⟨[(1, I i2), (2, S s3), (9, .one (.e (.sl 0 0 x1.length))), (10, I ((x1.length : Nat) : Int)), (11, I i73)], [.row .nod x1 false]⟩) (by kernel_rfl) ?_
      refine W_skip ?_
      refine thenS_n ?_
      refine W_seq ?_
      refine W_block ?_
      refine W_seq ?_
      refine W_region ?_
      refine guardO_e h (fun hg99 h => ?_)
      refine WO_step 6 [0, 1] [1, 2, 7, 8, 9, 10, 11] ((0 ≤ i73 ∧ i73 < ((x1.length : Nat) : Int)) ∧ (True ∧ (True ∧ (True ∧ True)))) ⟨[(1, I i2), (2, S s3), (7, I i73), (8, .one (.e (.p 1 0))), (9, .one (.e (.sl 0 0 x1.length))), (10, I ((x1.length : Nat) : Int)), (11, I i73)], [.row .nod x1 false, .cells [cI ((x1.getD i73.toNat dnod).parent), cS ((x1.getD i73.toNat dnod).name), cI ((x1.getD i73.toNat dnod).value)]]⟩ (by kernel_rfl) ⟨hg99, trivial, trivial, trivial, trivial⟩ ?_
      refine WO_nil rfl ?_
      refine thenS_n ?_
      refine W_seq ?_
      refine W_region ?_
      refine WO_step 5 [0, 1] [1, 2, 7, 8, 9, 10, 11, 20] (True ∧ (True ∧ True)) ⟨[(1, I i2), (2, S s3), (7, I i73), (8, .one (.e (.p 1 0))), (9, .one (.e (.sl 0 0 x1.length))), (10, I ((x1.length : Nat) : Int)), (11, I i73), (20, B (decide (((x1.getD i73.toNat dnod).parent) = i2)))], [.row .nod x1 false, .cells [cI ((x1.getD i73.toNat dnod).parent), cS ((x1.getD i73.toNat dnod).name), cI ((x1.getD i73.toNat dnod).value)]]⟩ (by kernel_rfl) ⟨trivial, trivial, trivial⟩ ?_
      refine WO_thru ⟨[(1, I i2), (2, S s3), (7, I i73), (9, .one (.e (.sl 0 0 x1.length))), (10, I ((x1.length : Nat) : Int)), (11, I i73), (25, B ((decide (((x1.getD i73.toNat dnod).parent) = i2)) && (decide (((x1.getD i73.toNat dnod).name) = s3))))], [.row .nod x1 false]⟩ ?_ ?_
      · refine WO_if 20 rfl (fun hb102 => ?_) (fun hb102 => ?_)
        · refine WO_step 5 [0] [1, 2, 7, 9, 10, 11, 25] (True ∧ (True ∧ True)) ⟨[(1, I i2), (2, S s3), (7, I i73), (9, .one (.e (.sl 0 0 x1.length))), (10, I ((x1.length : Nat) : Int)), (11, I i73), (25, B (decide (((x1.getD i73.toNat dnod).name) = s3)))], [.row .nod x1 false]⟩ (by kernel_rfl) ⟨trivial, trivial, trivial⟩ ?_
          exact WO_nil rfl ⟨rfl, by first | rfl | (rw [hb102]; first | done | rfl)⟩
        · refine WO_step 5 [0] [1, 2, 7, 9, 10, 11, 25] True ⟨[(1, I i2), (2, S s3), (7, I i73), (9, .one (.e (.sl 0 0 x1.length))), (10, I ((x1.length : Nat) : Int)), (11, I i73), (25, B false)], [.row .nod x1 false]⟩ (by kernel_rfl) trivial ?_
          exact WO_nil rfl ⟨rfl, by first | rfl | (rw [hb102]; first | done | rfl)⟩
      · refine thenS_n ?_
        refine iteO_e h (fun hb104 h => W_true rfl hb104 ?_) (fun hb104 h => W_false rfl hb104 ?_)
        · refine W_seq ?_
          refine W_region ?_
          refine WO_step 2 [0] [6] True ⟨[(6, I i73)], [.row .nod x1 false]⟩ (by kernel_rfl) trivial ?_
          refine WO_nil rfl ?_
          refine thenS_n ?_
          refine W_ret ?_
          refine blockS_r ?_
          refine thenS_r ?_
          refine thenS_r ?_
          cases h
          exact And.intro rfl rfl
        · refine W_sub [0] [1, 2, 9, 10, 11] (st' := ⟨[(1, I i2), (2, S s3), (9, .one (.e (.sl 0 0 x1.length))), (10, I ((x1.length : Nat) : Int)), (11, I i73)], [.row .nod x1 false]⟩) (by kernel_rfl) ?_
          refine W_skip ?_
          refine blockS_n ?_
          refine thenS_n ?_
          refine W_region ?_
          refine WO_step 2 [0] [1, 2, 9, 10, 11] (True ∧ True) ⟨[(1, I i2), (2, S s3), (9, .one (.e (.sl 0 0 x1.length))), (10, I ((x1.length : Nat) : Int)), (11, I (w64 (i73 + 1)))], [.row .nod x1 false]⟩ (by kernel_rfl) ⟨trivial, trivial⟩ ?_
          refine WO_nil rfl ?_
          refine thenS_n ?_
          exact ih _ h
    · refine W_sub [0] [] (st' := ⟨[], [.row .nod x1 false]⟩) (by kernel_rfl) ?_
      refine W_exit ?_
      refine thenS_e ?_
      refine thenS_e ?_
      cases h
      exact And.intro rfl rfl

def impl_kidIn (n : Nat) (x1 : List Nod) (i2 : Int) (s3 : Str) : Option (Int) :=
 bindO (impl_kidIn_L1 i2 s3 x1 n 0) fun v105 =>
 match v105 with
 | (.inl i89) => (some i89)
 | (.inr _) => (some (-1))


theorem impl_kidIn_ok (n : Nat) (x1 : List Nod) (i2 : Int) (s3 : Str) (i54 : Int) (h : impl_kidIn n x1 i2 s3 = some i54) : FOk EE 28 [.one (.e (.sl 0 0 x1.length)), I i2, S s3] [.row .nod x1 false] (I i54) [.row .nod x1 false] := by
  unfold impl_kidIn at h
  refine FOk_of_W 28 1 Try.func28 rfl rfl (Nat.le_of_ble_eq_true rfl) rfl (fun w X θ => ?_)
  refine W_seq ?_
  refine W_region ?_
  refine WO_step 1 [0] [0, 1, 2] True ⟨[(0, .one (.e (.sl 0 0 x1.length))), (1, I i2), (2, S s3)], [.row .nod x1 false]⟩ (by kernel_rfl) trivial ?_
  refine WO_nil rfl ?_
  refine thenS_n ?_
  refine W_seq ?_
  refine W_seq ?_
  refine W_region ?_
  refine WO_step 3 [0] [1, 2, 9, 10, 11] (True ∧ True) ⟨[(1, I i2), (2, S s3), (9, .one (.e (.sl 0 0 x1.length))), (10, I ((x1.length : Nat) : Int)), (11, I 0)], [.row .nod x1 false]⟩ (by kernel_rfl) ⟨trivial, trivial⟩ ?_
  refine WO_nil rfl ?_
  refine thenS_n ?_
  refine W_block ?_
  refine W_loop ?_
  refine bindO_e h (fun v105 hv105 h => ?_)
  refine WL_cut (impl_kidIn_L1_ok w X θ i2 s3 x1 v105 n 0 hv105) ?_
  rcases v105 with i89 | _
  · rintro _ _ ⟨rfl, rfl⟩
    refine blockS_r ?_
    refine thenS_r ?_
    cases h
    exact ⟨[0], True, by kernel_rfl, trivial⟩
  · rintro _ _ ⟨rfl, rfl⟩
    refine blockS_y ?_
    refine thenS_n ?_
    refine W_seq ?_
    refine W_region ?_
    refine WO_step 1 [0] [6] True ⟨[(6, I (-1))], [.row .nod x1 false]⟩ (by kernel_rfl) trivial ?_
    refine WO_nil rfl ?_
    refine thenS_n ?_
    refine W_ret ?_
    cases h
    exact ⟨[0], True, by kernel_rfl, trivial⟩

/- impl.ValidTree -/
def impl_ValidTree_L1 (x1 : List Nod) : Nat → (List Int) → Int → Option ((Unit) ⊕ (Unit))
| 0, _, _ => none
| n + 1, x164, i165 =>
 iteO (decide (i165 < ((x1.length : Nat) : Int)))
 (bindO (guardO (0 ≤ i165 ∧ i165 < ((x1.length : Nat) : Int)) <|
 iteO (!(impl_within ((x1.getD i165.toNat dnod).value) (-1000) 1000))
 (some (.inl ()))
 (iteO (decide (i165 = 0))
 (some (.inr x164))
 (bindO (iteO (!(impl_within ((x1.getD i165.toNat dnod).parent) 0 (w64 (i165 - 1))))
 (some true)
 (bindO (impl_isName n ((x1.getD i165.toNat dnod).name)) fun b238 =>
 some (!b238))) fun b235 =>
 iteO b235
 (some (.inl ()))
 (guardO (0 ≤ i165 ∧ i165 ≤ ((x1.length : Nat) : Int)) <|
 bindO (impl_kidIn n ((x1.drop 0).take i165.toNat) ((x1.getD i165.toNat dnod).parent) ((x1.getD i165.toNat dnod).name)) fun i243 =>
 iteO (decide (0 ≤ i243))
 (some (.inl ()))
 (guardO (0 ≤ (x1.getD i165.toNat dnod).parent ∧ (x1.getD i165.toNat dnod).parent < ((x164.length : Nat) : Int)) <|
 guardO (0 ≤ i165 ∧ i165 < ((x164.length : Nat) : Int)) <|
 guardO (0 ≤ i165 ∧ i165 < (((x164.set i165.toNat (w64 ((x164.getD (((x1.getD i165.toNat dnod).parent).toNat) 0) + 1))).length : Nat) : Int)) <|
 iteO (decide (4 < ((x164.set i165.toNat (w64 ((x164.getD (((x1.getD i165.toNat dnod).parent).toNat) 0) + 1))).getD i165.toNat 0)))
 (some (.inl ()))
 (some (.inr (x164.set i165.toNat (w64 ((x164.getD (((x1.getD i165.toNat dnod).parent).toNat) 0) + 1))))))))) : Option ((Unit) ⊕ ((List Int)))) fun v226 =>
 match v226 with
 | (.inl _) => (some (.inl ()))
 | (.inr x225) => (impl_ValidTree_L1 x1 n x225 (w64 (i165 + 1)))
)
 (some (.inr ()))

theorem impl_ValidTree_L1_ok (w : World) (X : Nat → Prop) (θ : List Loc) (x1 : List Nod) (v : (Unit) ⊕ (Unit)) : ∀ (n : Nat) (x164 : List Int) (i165 : Int), impl_ValidTree_L1 x1 n x164 i165 = some v → WL EE ⟨w, X, θ, 78, 1⟩ (subC [1, 1, 1, 1, 0, 1, 4, 4] (bodyC Try.f13)) (fun (e : Exit) (s : St) => (match v with | (.inl _) => e = .ret ∧ s = ⟨[(2, B false)], [.row .nod x1 false]⟩ | (.inr _) => e = .exit 0 ∧ s = ⟨[], [.row .nod x1 false]⟩ : Prop)) ⟨[(0, .one (.e (.sl 0 0 x1.length))), (3, .one (.e (.sl 1 0 x164.length))), (29, .one (.e (.sl 0 0 x1.length))), (30, I ((x1.length : Nat) : Int)), (31, I i165)], [.row .nod x1 false, .row .int x164 true]⟩ := by
  intro n
  induction n with
  | zero => intro _ _ h; exact none_e h
  | succ n ih =>
    intro x164 i165 h
    rw [impl_ValidTree_L1] at h
    refine WL_round ?_
    refine W_seq ?_
    refine W_region ?_
    refine WO_step 1 [0, 1] [0, 3, 29, 30, 31, 32] (True ∧ True) ⟨[(0, .one (.e (.sl 0 0 x1.length))), (3, .one (.e (.sl 1 0 x164.length))), (29, .one (.e (.sl 0 0 x1.length))), (30, I ((x1.length : Nat) : Int)), (31, I i165), (32, B (decide (i165 < ((x1.length : Nat) : Int))))], [.row .nod x1 false, .row .int x164 true]⟩ (by kernel_rfl) ⟨trivial, trivial⟩ ?_
    refine WO_nil rfl ?_
    refine thenS_n ?_
    refine W_seq ?_
    refine iteO_e h (fun hb199 h => W_true rfl hb199 ?_) (fun hb199 h => W_false rfl hb199 ?_)
    · refine W_sub [0, 1] [0, 3, 29, 30, 31] (st' := ⟨[(0, .one (.e (.sl 0 0 x1.length))), (3, .one (.e (.sl 1 0 x164.length))), (29, .one (.e (.sl 0 0 x1.length))), (30, I ((x1.length : Nat) : Int)), (31, I i165)], [.row .nod x1 false, .row .int x164 true]⟩) (by kernel_rfl) ?_
      refine W_skip ?_
      refine thenS_n ?_
      refine W_seq ?_
      refine bindO_e h (fun v226 hv226 h => ?_)
      refine W_cut (Q' := fun (e : Exit) (s : St) => (match v226 with | (.inl _) => e = .ret ∧ s = ⟨[(2, B false)], [.row .nod x1 false]⟩ | (.inr x225) => e = .normal ∧ s = ⟨[(0, .one (.e (.sl 0 0 x1.length))), (3, .one (.e (.sl 1 0 x225.length))), (29, .one (.e (.sl 0 0 x1.length))), (30, I ((x1.length : Nat) : Int)), (31, I i165)], [.row .nod x1 false, .row .int x225 true]⟩ : Prop)) ?_ ?_
      · refine W_block ?_
        refine W_seq ?_
        refine W_region ?_
        refine guardO_e hv226 (fun hg227 hv226 => ?_)
        refine WO_step 6 [0, 1, 2] [0, 3, 4, 5, 29, 30, 31] ((0 ≤ i165 ∧ i165 < ((x1.length : Nat) : Int)) ∧ (True ∧ (True ∧ (True ∧ True)))) ⟨[(0, .one (.e (.sl 0 0 x1.length))), (3, .one (.e (.sl 1 0 x164.length))), (4, I i165), (5, .one (.e (.p 2 0))), (29, .one (.e (.sl 0 0 x1.length))), (30, I ((x1.length : Nat) : Int)), (31, I i165)], [.row .nod x1 false, .row .int x164 true, .cells [cI ((x1.getD i165.toNat dnod).parent), cS ((x1.getD i165.toNat dnod).name), cI ((x1.getD i165.toNat dnod).value)]]⟩ (by kernel_rfl) ⟨hg227, trivial, trivial, trivial, trivial⟩ ?_
        refine WO_nil rfl ?_
        refine thenS_n ?_
        refine W_seq ?_
        refine W_seq ?_
        refine W_region ?_
        refine WO_step 2 [0, 1, 2] [0, 3, 4, 5, 29, 30, 31, 37] (True ∧ True) ⟨[(0, .one (.e (.sl 0 0 x1.length))), (3, .one (.e (.sl 1 0 x164.length))), (4, I i165), (5, .one (.e (.p 2 0))), (29, .one (.e (.sl 0 0 x1.length))), (30, I ((x1.length : Nat) : Int)), (31, I i165), (37, I ((x1.getD i165.toNat dnod).value))], [.row .nod x1 false, .row .int x164 true, .cells [cI ((x1.getD i165.toNat dnod).parent), cS ((x1.getD i165.toNat dnod).name), cI ((x1.getD i165.toNat dnod).value)]]⟩ (by kernel_rfl) ⟨trivial, trivial⟩ ?_
        refine WO_call [] Try.f26 rfl rfl rfl (by kernel_rfl) Try.func26 rfl (by kernel_rfl) (impl_within_ok ((x1.getD i165.toNat dnod).value) (-1000) 1000) (trivial) rfl ?_
        refine WO_step 1 [0, 1, 2] [0, 3, 4, 5, 29, 30, 31, 39] True ⟨[(0, .one (.e (.sl 0 0 x1.length))), (3, .one (.e (.sl 1 0 x164.length))), (4, I i165), (5, .one (.e (.p 2 0))), (29, .one (.e (.sl 0 0 x1.length))), (30, I ((x1.length : Nat) : Int)), (31, I i165), (39, B (!(impl_within ((x1.getD i165.toNat dnod).value) (-1000) 1000)))], [.row .nod x1 false, .row .int x164 true, .cells [cI ((x1.getD i165.toNat dnod).parent), cS ((x1.getD i165.toNat dnod).name), cI ((x1.getD i165.toNat dnod).value)]]⟩ (by kernel_rfl) trivial ?_
        refine WO_nil rfl ?_
        refine thenS_n ?_
        refine iteO_e hv226 (fun hb229 hv226 => W_true rfl hb229 ?_) (fun hb229 hv226 => W_false rfl hb229 ?_)
        · refine W_seq ?_
          refine W_region ?_
          refine WO_step 1 [0] [2] True ⟨[(2, B false)], [.row .nod x1 false]⟩ (by kernel_rfl) trivial ?_
          refine WO_nil rfl ?_
          refine thenS_n ?_
          refine W_ret ?_
          refine thenS_r ?_
          refine blockS_r ?_
          cases hv226
          exact And.intro rfl rfl
        · refine W_sub [0, 1, 2] [0, 3, 4, 5, 29, 30, 31] (st' := ⟨[(0, .one (.e (.sl 0 0 x1.length))), (3, .one (.e (.sl 1 0 x164.length))), (4, I i165), (5, .one (.e (.p 2 0))), (29, .one (.e (.sl 0 0 x1.length))), (30, I ((x1.length : Nat) : Int)), (31, I i165)], [.row .nod x1 false, .row .int x164 true, .cells [cI ((x1.getD i165.toNat dnod).parent), cS ((x1.getD i165.toNat dnod).name), cI ((x1.getD i165.toNat dnod).value)]]⟩) (by kernel_rfl) ?_
          refine W_skip ?_
          refine thenS_n ?_
          refine W_seq ?_
          refine W_seq ?_
          refine W_region ?_
          refine WO_step 2 [0, 1, 2] [0, 3, 4, 5, 29, 30, 31, 41] (True ∧ True) ⟨[(0, .one (.e (.sl 0 0 x1.length))), (3, .one (.e (.sl 1 0 x164.length))), (4, I i165), (5, .one (.e (.p 2 0))), (29, .one (.e (.sl 0 0 x1.length))), (30, I ((x1.length : Nat) : Int)), (31, I i165), (41, B (decide (i165 = 0)))], [.row .nod x1 false, .row .int x164 true, .cells [cI ((x1.getD i165.toNat dnod).parent), cS ((x1.getD i165.toNat dnod).name), cI ((x1.getD i165.toNat dnod).value)]]⟩ (by kernel_rfl) ⟨trivial, trivial⟩ ?_
          refine WO_nil rfl ?_
          refine thenS_n ?_
          refine iteO_e hv226 (fun hb231 hv226 => W_true rfl hb231 ?_) (fun hb231 hv226 => W_false rfl hb231 ?_)
          · refine W_sub [0, 1] [0, 3, 29, 30, 31] (st' := ⟨[(0, .one (.e (.sl 0 0 x1.length))), (3, .one (.e (.sl 1 0 x164.length))), (29, .one (.e (.sl 0 0 x1.length))), (30, I ((x1.length : Nat) : Int)), (31, I i165)], [.row .nod x1 false, .row .int x164 true]⟩) (by kernel_rfl) ?_
            refine W_exit ?_
            refine thenS_e ?_
            refine blockS_y ?_
            cases hv226
            exact And.intro rfl rfl
          · refine W_sub [0, 1, 2] [0, 3, 4, 5, 29, 30, 31] (st' := ⟨[(0, .one (.e (.sl 0 0 x1.length))), (3, .one (.e (.sl 1 0 x164.length))), (4, I i165), (5, .one (.e (.p 2 0))), (29, .one (.e (.sl 0 0 x1.length))), (30, I ((x1.length : Nat) : Int)), (31, I i165)], [.row .nod x1 false, .row .int x164 true, .cells [cI ((x1.getD i165.toNat dnod).parent), cS ((x1.getD i165.toNat dnod).name), cI ((x1.getD i165.toNat dnod).value)]]⟩) (by kernel_rfl) ?_
            refine W_skip ?_
            refine thenS_n ?_
            refine W_seq ?_
            refine W_seq ?_
            refine W_region ?_
            refine WO_step 4 [0, 1, 2] [0, 3, 4, 5, 29, 30, 31, 43, 45] (True ∧ (True ∧ True)) ⟨[(0, .one (.e (.sl 0 0 x1.length))), (3, .one (.e (.sl 1 0 x164.length))), (4, I i165), (5, .one (.e (.p 2 0))), (29, .one (.e (.sl 0 0 x1.length))), (30, I ((x1.length : Nat) : Int)), (31, I i165), (43, I ((x1.getD i165.toNat dnod).parent)), (45, I (w64 (i165 - 1)))], [.row .nod x1 false, .row .int x164 true, .cells [cI ((x1.getD i165.toNat dnod).parent), cS ((x1.getD i165.toNat dnod).name), cI ((x1.getD i165.toNat dnod).value)]]⟩ (by kernel_rfl) ⟨trivial, trivial, trivial⟩ ?_
            refine WO_call [] Try.f26 rfl rfl rfl (by kernel_rfl) Try.func26 rfl (by kernel_rfl) (impl_within_ok ((x1.getD i165.toNat dnod).parent) 0 (w64 (i165 - 1))) (trivial) rfl ?_
            refine WO_step 2 [0, 1, 2] [0, 3, 4, 5, 29, 30, 31, 48] True ⟨[(0, .one (.e (.sl 0 0 x1.length))), (3, .one (.e (.sl 1 0 x164.length))), (4, I i165), (5, .one (.e (.p 2 0))), (29, .one (.e (.sl 0 0 x1.length))), (30, I ((x1.length : Nat) : Int)), (31, I i165), (48, B (!(impl_within ((x1.getD i165.toNat dnod).parent) 0 (w64 (i165 - 1)))))], [.row .nod x1 false, .row .int x164 true, .cells [cI ((x1.getD i165.toNat dnod).parent), cS ((x1.getD i165.toNat dnod).name), cI ((x1.getD i165.toNat dnod).value)]]⟩ (by kernel_rfl) trivial ?_
            refine bindO_e hv226 (fun b235 hv236 hv226 => ?_)
            refine WO_thru ⟨[(0, .one (.e (.sl 0 0 x1.length))), (3, .one (.e (.sl 1 0 x164.length))), (4, I i165), (5, .one (.e (.p 2 0))), (29, .one (.e (.sl 0 0 x1.length))), (30, I ((x1.length : Nat) : Int)), (31, I i165), (53, B b235)], [.row .nod x1 false, .row .int x164 true, .cells [cI ((x1.getD i165.toNat dnod).parent), cS ((x1.getD i165.toNat dnod).name), cI ((x1.getD i165.toNat dnod).value)]]⟩ ?_ ?_
            · refine iteO_e hv236 (fun hb237 hv236 => WO_known 48 true rfl hb237 ?_) (fun hb237 hv236 => WO_known 48 false rfl hb237 ?_)
              · refine WO_step 5 [0, 1, 2] [0, 3, 4, 5, 29, 30, 31, 53] True ⟨[(0, .one (.e (.sl 0 0 x1.length))), (3, .one (.e (.sl 1 0 x164.length))), (4, I i165), (5, .one (.e (.p 2 0))), (29, .one (.e (.sl 0 0 x1.length))), (30, I ((x1.length : Nat) : Int)), (31, I i165), (53, B true)], [.row .nod x1 false, .row .int x164 true, .cells [cI ((x1.getD i165.toNat dnod).parent), cS ((x1.getD i165.toNat dnod).name), cI ((x1.getD i165.toNat dnod).value)]]⟩ (by kernel_rfl) trivial ?_
                cases hv236
                exact WO_nil rfl ⟨rfl, rfl⟩
              · refine WO_step 2 [0, 1, 2] [0, 3, 4, 5, 29, 30, 31, 48, 50] (True ∧ True) ⟨[(0, .one (.e (.sl 0 0 x1.length))), (3, .one (.e (.sl 1 0 x164.length))), (4, I i165), (5, .one (.e (.p 2 0))), (29, .one (.e (.sl 0 0 x1.length))), (30, I ((x1.length : Nat) : Int)), (31, I i165), (48, B false), (50, S ((x1.getD i165.toNat dnod).name))], [.row .nod x1 false, .row .int x164 true, .cells [cI ((x1.getD i165.toNat dnod).parent), cS ((x1.getD i165.toNat dnod).name), cI ((x1.getD i165.toNat dnod).value)]]⟩ (by kernel_rfl) ⟨trivial, trivial⟩ ?_
                refine bindO_e hv236 (fun b238 hc239 hv236 => ?_)
                refine WO_call [] Try.f27 rfl rfl rfl (by kernel_rfl) Try.func27 rfl (by kernel_rfl) (impl_isName_ok n ((x1.getD i165.toNat dnod).name) b238 hc239) (trivial) rfl ?_
                refine WO_step 2 [0, 1, 2] [0, 3, 4, 5, 29, 30, 31, 53] True ⟨[(0, .one (.e (.sl 0 0 x1.length))), (3, .one (.e (.sl 1 0 x164.length))), (4, I i165), (5, .one (.e (.p 2 0))), (29, .one (.e (.sl 0 0 x1.length))), (30, I ((x1.length : Nat) : Int)), (31, I i165), (53, B (!b238))], [.row .nod x1 false, .row .int x164 true, .cells [cI ((x1.getD i165.toNat dnod).parent), cS ((x1.getD i165.toNat dnod).name), cI ((x1.getD i165.toNat dnod).value)]]⟩ (by kernel_rfl) trivial ?_
                cases hv236
                exact WO_nil rfl ⟨rfl, rfl⟩
            · refine thenS_n ?_
              refine iteO_e hv226 (fun hb241 hv226 => W_true rfl hb241 ?_) (fun hb241 hv226 => W_false rfl hb241 ?_)
              · refine W_seq ?_
                refine W_region ?_
                refine WO_step 1 [0] [2] True ⟨[(2, B false)], [.row .nod x1 false]⟩ (by kernel_rfl) trivial ?_
                refine WO_nil rfl ?_
                refine thenS_n ?_
                refine W_ret ?_
                refine thenS_r ?_
                refine blockS_r ?_
                cases hv226
                exact And.intro rfl rfl
              · refine W_sub [0, 1, 2] [0, 3, 4, 5, 29, 30, 31] (st' := ⟨[(0, .one (.e (.sl 0 0 x1.length))), (3, .one (.e (.sl 1 0 x164.length))), (4, I i165), (5, .one (.e (.p 2 0))), (29, .one (.e (.sl 0 0 x1.length))), (30, I ((x1.length : Nat) : Int)), (31, I i165)], [.row .nod x1 false, .row .int x164 true, .cells [cI ((x1.getD i165.toNat dnod).parent), cS ((x1.getD i165.toNat dnod).name), cI ((x1.getD i165.toNat dnod).value)]]⟩) (by kernel_rfl) ?_
                refine W_skip ?_
                refine thenS_n ?_
                refine W_seq ?_
                refine W_seq ?_
                refine guardO_e hv226 (fun hg242 hv226 => ?_)
                refine bindO_e hv226 (fun i243 hc244 hv226 => ?_)
                refine W_cut (Q' := fun (e : Exit) (s : St) => e = .normal ∧ s = ⟨[(0, .one (.e (.sl 0 0 x1.length))), (3, .one (.e (.sl 1 0 x164.length))), (4, I i165), (5, .one (.e (.p 2 0))), (29, .one (.e (.sl 0 0 x1.length))), (30, I ((x1.length : Nat) : Int)), (31, I i165), (62, B (decide (0 ≤ i243)))], [.row .nod x1 false, .row .int x164 true, .cells [cI ((x1.getD i165.toNat dnod).parent), cS ((x1.getD i165.toNat dnod).name), cI ((x1.getD i165.toNat dnod).value)]]⟩) ?_ ?_
                · refine W_draw [] false (by kernel_rfl) (by kernel_rfl) ?_
                  refine WD_takeK [0, 1, 3, 4, 5, 6] [0, 3, 4, 5, 29, 30, 31, 54, 55, 58, 60] [0, 3, 4, 5, 29, 30, 31, 54, 55, 58, 60] (φ := (True ∧ True ∧ (True ∧ True ∧ True))) (ls' := #[true, true, false, true, true, true, true, false, false]) (Ts' := [(0, .one (.e (.sl 0 0 x1.length))), (3, .one (.e (.sl 1 0 x164.length))), (4, I i165), (5, .one (.e (.p 2 0))), (29, .one (.e (.sl 0 0 x1.length))), (30, I ((x1.length : Nat) : Int)), (31, I i165), (54, .one (.e (.sl 0 0 x1.length))), (55, I i165), (58, I ((x1.getD i165.toNat dnod).parent)), (60, S ((x1.getD i165.toNat dnod).name))]) (st' := ⟨[(0, .one (.e (.sl 0 0 x1.length))), (3, .one (.e (.sl 1 0 x164.length))), (4, I i165), (5, .one (.e (.p 2 0))), (29, .one (.e (.sl 0 0 x1.length))), (30, I ((x1.length : Nat) : Int)), (31, I i165), (54, .one (.e (.sl 0 0 x1.length))), (55, I i165), (58, I ((x1.getD i165.toNat dnod).parent)), (60, S ((x1.getD i165.toNat dnod).name))], [.row .nod x1 false, .row .int x164 true, .cells [cI ((x1.getD i165.toNat dnod).parent), cS ((x1.getD i165.toNat dnod).name), cI ((x1.getD i165.toNat dnod).value)]]⟩) (n2 := 3) (by kernel_rfl) ⟨trivial, trivial, trivial, trivial, trivial⟩ rfl ?_
                  refine WD_all [2] (n := 2) (by kernel_rfl) rfl ?_
                  refine WM_op (φ := 0 ≤ i165 ∧ i165 ≤ ((x1.length : Nat) : Int)) (v := .one (.e (.sl 0 0 i165.toNat))) (H' := [.row .nod x1 false, .row .int x164 true, .cells [cI ((x1.getD i165.toNat dnod).parent), cS ((x1.getD i165.toNat dnod).name), cI ((x1.getD i165.toNat dnod).value)]]) rfl rfl (by kernel_rfl) hg242 rfl (And.intro rfl (And.intro rfl (And.intro (And.intro rfl rfl) (trivial)))) ?_
                  refine WD_all [7] (n := 1) (by kernel_rfl) rfl ?_
                  refine WM_call [.view 0] Try.f28 rfl rfl (by kernel_rfl) Try.func28 rfl (by kernel_rfl) (impl_kidIn_ok n ((x1.drop 0).take i165.toNat) ((x1.getD i165.toNat dnod).parent) ((x1.getD i165.toNat dnod).name) i243 hc244) (trivial) rfl (And.intro rfl (And.intro rfl (And.intro (And.intro rfl rfl) (trivial)))) ?_
                  refine WD_takeK [8] [0, 3, 4, 5, 29, 30, 31, 62] [0, 3, 4, 5, 29, 30, 31, 62] (φ := (True ∧ True ∧ True)) (ls' := #[true, true, true, true, true, true, true, true, true]) (Ts' := [(0, .one (.e (.sl 0 0 x1.length))), (3, .one (.e (.sl 1 0 x164.length))), (4, I i165), (5, .one (.e (.p 2 0))), (29, .one (.e (.sl 0 0 x1.length))), (30, I ((x1.length : Nat) : Int)), (31, I i165), (62, B (decide (0 ≤ i243)))]) (st' := ⟨[(0, .one (.e (.sl 0 0 x1.length))), (3, .one (.e (.sl 1 0 x164.length))), (4, I i165), (5, .one (.e (.p 2 0))), (29, .one (.e (.sl 0 0 x1.length))), (30, I ((x1.length : Nat) : Int)), (31, I i165), (62, B (decide (0 ≤ i243)))], [.row .nod x1 false, .row .int x164 true, .cells [cI ((x1.getD i165.toNat dnod).parent), cS ((x1.getD i165.toNat dnod).name), cI ((x1.getD i165.toNat dnod).value)]]⟩) (n2 := 0) (by kernel_rfl) ⟨trivial, trivial, trivial⟩ rfl ?_
                  exact WD_done [0, 1, 2] [0, 3, 4, 5, 29, 30, 31, 62] (st' := ⟨[(0, .one (.e (.sl 0 0 x1.length))), (3, .one (.e (.sl 1 0 x164.length))), (4, I i165), (5, .one (.e (.p 2 0))), (29, .one (.e (.sl 0 0 x1.length))), (30, I ((x1.length : Nat) : Int)), (31, I i165), (62, B (decide (0 ≤ i243)))], [.row .nod x1 false, .row .int x164 true, .cells [cI ((x1.getD i165.toNat dnod).parent), cS ((x1.getD i165.toNat dnod).name), cI ((x1.getD i165.toNat dnod).value)]]⟩) (by kernel_rfl) (by kernel_rfl) (And.intro rfl rfl)
                · rintro _ _ ⟨rfl, rfl⟩
                  refine thenS_n ?_
                  refine iteO_e hv226 (fun hb246 hv226 => W_true rfl hb246 ?_) (fun hb246 hv226 => W_false rfl hb246 ?_)
                  · refine W_seq ?_
                    refine W_region ?_
                    refine WO_step 1 [0] [2] True ⟨[(2, B false)], [.row .nod x1 false]⟩ (by kernel_rfl) trivial ?_
                    refine WO_nil rfl ?_
                    refine thenS_n ?_
                    refine W_ret ?_
                    refine thenS_r ?_
                    refine blockS_r ?_
                    cases hv226
                    exact And.intro rfl rfl
                  · refine W_sub [0, 1, 2] [0, 3, 4, 5, 29, 30, 31] (st' := ⟨[(0, .one (.e (.sl 0 0 x1.length))), (3, .one (.e (.sl 1 0 x164.length))), (4, I i165), (5, .one (.e (.p 2 0))), (29, .one (.e (.sl 0 0 x1.length))), (30, I ((x1.length : Nat) : Int)), (31, I i165)], [.row .nod x1 false, .row .int x164 true, .cells [cI ((x1.getD i165.toNat dnod).parent), cS ((x1.getD i165.toNat dnod).name), cI ((x1.getD i165.toNat dnod).value)]]⟩) (by kernel_rfl) ?_
                    refine W_skip ?_
                    refine thenS_n ?_
                    refine W_seq ?_
                    refine W_region ?_
                    refine guardO_e hv226 (fun hg247 hv226 => ?_)
                    refine guardO_e hv226 (fun hg248 hv226 => ?_)
                    refine WO_step 10 [0, 1] [0, 3, 4, 29, 30, 31] (True ∧ ((0 ≤ (x1.getD i165.toNat dnod).parent ∧ (x1.getD i165.toNat dnod).parent < ((x164.length : Nat) : Int)) ∧ (True ∧ (True ∧ ((0 ≤ i165 ∧ i165 < ((x164.length : Nat) : Int)) ∧ (True ∧ True)))))) ⟨[(0, .one (.e (.sl 0 0 x1.length))), (3, .one (.e (.sl 1 0 x164.length))), (4, I i165), (29, .one (.e (.sl 0 0 x1.length))), (30, I ((x1.length : Nat) : Int)), (31, I i165)], [.row .nod x1 false, .row .int (x164.set i165.toNat (w64 ((x164.getD (((x1.getD i165.toNat dnod).parent).toNat) 0) + 1))) true]⟩ (by kernel_rfl) ⟨trivial, hg247, trivial, trivial, hg248, trivial, trivial⟩ ?_
                    refine WO_eq (st' := ⟨[(0, .one (.e (.sl 0 0 x1.length))), (3, .one (.e (.sl 1 0 ((x164.set i165.toNat (w64 ((x164.getD (((x1.getD i165.toNat dnod).parent).toNat) 0) + 1))).length)))), (4, I i165), (29, .one (.e (.sl 0 0 x1.length))), (30, I ((x1.length : Nat) : Int)), (31, I i165)], [.row .nod x1 false, .row .int (x164.set i165.toNat (w64 ((x164.getD (((x1.getD i165.toNat dnod).parent).toNat) 0) + 1))) true]⟩) (by simp only [List.length_set]) ?_
                    refine WO_nil rfl ?_
                    refine thenS_n ?_
                    refine W_seq ?_
                    refine W_region ?_
                    refine guardO_e hv226 (fun hg249 hv226 => ?_)
                    refine WO_step 5 [0, 1] [0, 3, 29, 30, 31, 76] ((0 ≤ i165 ∧ i165 < (((x164.set i165.toNat (w64 ((x164.getD (((x1.getD i165.toNat dnod).parent).toNat) 0) + 1))).length : Nat) : Int)) ∧ (True ∧ (True ∧ True))) ⟨[(0, .one (.e (.sl 0 0 x1.length))), (3, .one (.e (.sl 1 0 ((x164.set i165.toNat (w64 ((x164.getD (((x1.getD i165.toNat dnod).parent).toNat) 0) + 1))).length)))), (29, .one (.e (.sl 0 0 x1.length))), (30, I ((x1.length : Nat) : Int)), (31, I i165), (76, B (decide (4 < ((x164.set i165.toNat (w64 ((x164.getD (((x1.getD i165.toNat dnod).parent).toNat) 0) + 1))).getD i165.toNat 0))))], [.row .nod x1 false, .row .int (x164.set i165.toNat (w64 ((x164.getD (((x1.getD i165.toNat dnod).parent).toNat) 0) + 1))) true]⟩ (by kernel_rfl) ⟨hg249, trivial, trivial, trivial⟩ ?_
                    refine WO_nil rfl ?_
                    refine thenS_n ?_
                    refine iteO_e hv226 (fun hb251 hv226 => W_true rfl hb251 ?_) (fun hb251 hv226 => W_false rfl hb251 ?_)
                    · refine W_seq ?_
                      refine W_region ?_
                      refine WO_step 1 [0] [2] True ⟨[(2, B false)], [.row .nod x1 false]⟩ (by kernel_rfl) trivial ?_
                      refine WO_nil rfl ?_
                      refine thenS_n ?_
                      refine W_ret ?_
                      refine blockS_r ?_
                      cases hv226
                      exact And.intro rfl rfl
                    · refine W_sub [0, 1] [0, 3, 29, 30, 31] (st' := ⟨[(0, .one (.e (.sl 0 0 x1.length))), (3, .one (.e (.sl 1 0 ((x164.set i165.toNat (w64 ((x164.getD (((x1.getD i165.toNat dnod).parent).toNat) 0) + 1))).length)))), (29, .one (.e (.sl 0 0 x1.length))), (30, I ((x1.length : Nat) : Int)), (31, I i165)], [.row .nod x1 false, .row .int (x164.set i165.toNat (w64 ((x164.getD (((x1.getD i165.toNat dnod).parent).toNat) 0) + 1))) true]⟩) (by kernel_rfl) ?_
                      refine W_skip ?_
                      refine blockS_n ?_
                      cases hv226
                      exact And.intro rfl rfl
      · rcases v226 with _ | x225
        · rintro _ _ ⟨rfl, rfl⟩
          refine thenS_r ?_
          refine thenS_r ?_
          cases h
          exact And.intro rfl rfl
        · rintro _ _ ⟨rfl, rfl⟩
          refine thenS_n ?_
          refine W_region ?_
          refine WO_step 2 [0, 1] [0, 3, 29, 30, 31] (True ∧ True) ⟨[(0, .one (.e (.sl 0 0 x1.length))), (3, .one (.e (.sl 1 0 x225.length))), (29, .one (.e (.sl 0 0 x1.length))), (30, I ((x1.length : Nat) : Int)), (31, I (w64 (i165 + 1)))], [.row .nod x1 false, .row .int x225 true]⟩ (by kernel_rfl) ⟨trivial, trivial⟩ ?_
          refine WO_nil rfl ?_
          refine thenS_n ?_
          exact ih _ _ h
    · refine W_sub [0] [] (st' := ⟨[], [.row .nod x1 false]⟩) (by kernel_rfl) ?_
      refine W_exit ?_
      refine thenS_e ?_
      refine thenS_e ?_
      cases h
      exact And.intro rfl rfl

def impl_ValidTree (n : Nat) (x1 : List Nod) : Option (Bool) :=
 iteO ((decide (((x1.length : Nat) : Int) < 1)) || (decide (12 < ((x1.length : Nat) : Int))))
 (some false)
 (guardO (0 ≤ (0 : Int) ∧ (0 : Int) < ((x1.length : Nat) : Int)) <|
 bindO (iteO (!decide (((x1.getD 0 dnod).parent) = (-1)))
 (some true)
 (guardO (0 ≤ (0 : Int) ∧ (0 : Int) < ((x1.length : Nat) : Int)) <|
 some (!decide (((x1.getD 0 dnod).name) = [])))) fun b123 =>
 iteO b123
 (some false)
 (guardO ((((x1.length : Nat) : Int) : Int) = ((x1.length : Nat) : Int) ∧ 0 ≤ ((x1.length : Nat) : Int) ∧ ((x1.length : Nat) : Int) ≤ 1099511627776) <|
 bindO (impl_ValidTree_L1 x1 n (List.replicate (((x1.length : Nat) : Int).toNat) (0 : Int)) 0) fun v252 =>
 match v252 with
 | (.inl _) => (some false)
 | (.inr _) => (some true)
))

theorem impl_ValidTree_ok (n : Nat) (x1 : List Nod) (b114 : Bool) (h : impl_ValidTree n x1 = some b114) : FOk EE 13 [.one (.e (.sl 0 0 x1.length))] [.row .nod x1 false] (B b114) [.row .nod x1 false] := by
  unfold impl_ValidTree at h
  refine FOk_of_W 78 1 Try.func13 rfl rfl (Nat.le_of_ble_eq_true rfl) rfl (fun w X θ => ?_)
  refine W_seq ?_
  refine W_region ?_
  refine WO_step 1 [0] [0] True ⟨[(0, .one (.e (.sl 0 0 x1.length)))], [.row .nod x1 false]⟩ (by kernel_rfl) trivial ?_
  refine WO_nil rfl ?_
  refine thenS_n ?_
  refine W_seq ?_
  refine W_seq ?_
  refine W_region ?_
  refine WO_step 4 [0] [0, 9] (True ∧ (True ∧ True)) ⟨[(0, .one (.e (.sl 0 0 x1.length))), (9, B (decide (((x1.length : Nat) : Int) < 1)))], [.row .nod x1 false]⟩ (by kernel_rfl) ⟨trivial, trivial, trivial⟩ ?_
  refine WO_thru ⟨[(0, .one (.e (.sl 0 0 x1.length))), (13, B ((decide (((x1.length : Nat) : Int) < 1)) || (decide (12 < ((x1.length : Nat) : Int)))))], [.row .nod x1 false]⟩ ?_ ?_
  · refine WO_if 9 rfl (fun hb117 => ?_) (fun hb117 => ?_)
    · refine WO_step 4 [0] [0, 13] True ⟨[(0, .one (.e (.sl 0 0 x1.length))), (13, B true)], [.row .nod x1 false]⟩ (by kernel_rfl) trivial ?_
      exact WO_nil rfl ⟨rfl, by first | rfl | (rw [hb117]; first | done | rfl)⟩
    · refine WO_step 4 [0] [0, 13] (True ∧ (True ∧ True)) ⟨[(0, .one (.e (.sl 0 0 x1.length))), (13, B (decide (12 < ((x1.length : Nat) : Int))))], [.row .nod x1 false]⟩ (by kernel_rfl) ⟨trivial, trivial, trivial⟩ ?_
      exact WO_nil rfl ⟨rfl, by first | rfl | (rw [hb117]; first | done | rfl)⟩
  · refine thenS_n ?_
    refine iteO_e h (fun hb119 h => W_true rfl hb119 ?_) (fun hb119 h => W_false rfl hb119 ?_)
    · refine W_seq ?_
      refine W_region ?_
      refine WO_step 1 [0] [2] True ⟨[(2, B false)], [.row .nod x1 false]⟩ (by kernel_rfl) trivial ?_
      refine WO_nil rfl ?_
      refine thenS_n ?_
      refine W_ret ?_
      refine thenS_r ?_
      cases h
      exact ⟨[0], True, by kernel_rfl, trivial⟩
    · refine W_sub [0] [0] (st' := ⟨[(0, .one (.e (.sl 0 0 x1.length)))], [.row .nod x1 false]⟩) (by kernel_rfl) ?_
      refine W_skip ?_
      refine thenS_n ?_
      refine W_seq ?_
      refine W_seq ?_
      refine W_region ?_
      refine guardO_e h (fun hg120 h => ?_)
      refine WO_step 6 [0] [0, 19] ((0 ≤ (0 : Int) ∧ (0 : Int) < ((x1.length : Nat) : Int)) ∧ (True ∧ (True ∧ True))) ⟨[(0, .one (.e (.sl 0 0 x1.length))), (19, B (!decide (((x1.getD 0 dnod).parent) = (-1))))], [.row .nod x1 false]⟩ (by kernel_rfl) ⟨hg120, trivial, trivial, trivial⟩ ?_
      refine bindO_e h (fun b123 hv124 h => ?_)
      refine WO_thru ⟨[(0, .one (.e (.sl 0 0 x1.length))), (25, B b123)], [.row .nod x1 false]⟩ ?_ ?_
      · refine iteO_e hv124 (fun hb125 hv124 => WO_known 19 true rfl hb125 ?_) (fun hb125 hv124 => WO_known 19 false rfl hb125 ?_)
        · refine WO_step 6 [0] [0, 25] True ⟨[(0, .one (.e (.sl 0 0 x1.length))), (25, B true)], [.row .nod x1 false]⟩ (by kernel_rfl) trivial ?_
          cases hv124
          exact WO_nil rfl ⟨rfl, rfl⟩
        · refine guardO_e hv124 (fun hg126 hv124 => ?_)
          refine WO_step 6 [0] [0, 25] ((0 ≤ (0 : Int) ∧ (0 : Int) < ((x1.length : Nat) : Int)) ∧ (True ∧ (True ∧ True))) ⟨[(0, .one (.e (.sl 0 0 x1.length))), (25, B (!decide (((x1.getD 0 dnod).name) = [])))], [.row .nod x1 false]⟩ (by kernel_rfl) ⟨hg126, trivial, trivial, trivial⟩ ?_
          cases hv124
          exact WO_nil rfl ⟨rfl, rfl⟩
      · refine thenS_n ?_
        refine iteO_e h (fun hb128 h => W_true rfl hb128 ?_) (fun hb128 h => W_false rfl hb128 ?_)
        · refine W_seq ?_
          refine W_region ?_
          refine WO_step 1 [0] [2] True ⟨[(2, B false)], [.row .nod x1 false]⟩ (by kernel_rfl) trivial ?_
          refine WO_nil rfl ?_
          refine thenS_n ?_
          refine W_ret ?_
          refine thenS_r ?_
          cases h
          exact ⟨[0], True, by kernel_rfl, trivial⟩
        · refine W_sub [0] [0] (st' := ⟨[(0, .one (.e (.sl 0 0 x1.length)))], [.row .nod x1 false]⟩) (by kernel_rfl) ?_
          refine W_skip ?_
          refine thenS_n ?_
          refine W_seq ?_
          refine W_region ?_
          refine guardO_e h (fun hg129 h => ?_)
          refine WO_step 4 [0, 1] [0, 3] (True ∧ (((((x1.length : Nat) : Int) : Int) = ((x1.length : Nat) : Int) ∧ 0 ≤ ((x1.length : Nat) : Int) ∧ ((x1.length : Nat) : Int) ≤ 1099511627776) ∧ True)) ⟨[(0, .one (.e (.sl 0 0 x1.length))), (3, .one (.e (.sl 1 0 ((List.replicate (((x1.length : Nat) : Int).toNat) (0 : Int)).length))))], [.row .nod x1 false, .row .int (List.replicate (((x1.length : Nat) : Int).toNat) (0 : Int)) true]⟩ (by kernel_rfl) ⟨trivial, hg129, trivial⟩ ?_
          refine WO_nil rfl ?_
          refine thenS_n ?_
          refine W_seq ?_
          refine W_seq ?_
          refine W_region ?_
          refine WO_step 3 [0, 1] [0, 3, 29, 30, 31] (True ∧ True) ⟨[(0, .one (.e (.sl 0 0 x1.length))), (3, .one (.e (.sl 1 0 ((List.replicate (((x1.length : Nat) : Int).toNat) (0 : Int)).length)))), (29, .one (.e (.sl 0 0 x1.length))), (30, I ((x1.length : Nat) : Int)), (31, I 0)], [.row .nod x1 false, .row .int (List.replicate (((x1.length : Nat) : Int).toNat) (0 : Int)) true]⟩ (by kernel_rfl) ⟨trivial, trivial⟩ ?_
          refine WO_nil rfl ?_
          refine thenS_n ?_
          refine W_block ?_
          refine W_loop ?_
          refine bindO_e h (fun v252 hv252 h => ?_)
          refine WL_cut (impl_ValidTree_L1_ok w X θ x1 v252 n (List.replicate (((x1.length : Nat) : Int).toNat) (0 : Int)) 0 hv252) ?_
          rcases v252 with _ | _
          · rintro _ _ ⟨rfl, rfl⟩
            refine blockS_r ?_
            refine thenS_r ?_
            cases h
            exact ⟨[0], True, by kernel_rfl, trivial⟩
          · rintro _ _ ⟨rfl, rfl⟩
            refine blockS_y ?_
            refine thenS_n ?_
            refine W_seq ?_
            refine W_region ?_
            refine WO_step 1 [0] [2] True ⟨[(2, B true)], [.row .nod x1 false]⟩ (by kernel_rfl) trivial ?_
            refine WO_nil rfl ?_
            refine thenS_n ?_
            refine W_ret ?_
            cases h
            exact ⟨[0], True, by kernel_rfl, trivial⟩

/- impl.isNode -/
def impl_isNode (n : Nat) (x1 : List Nod) (i2 : Int) : Option (Bool) :=
 bindO (iteO (impl_within i2 0 (w64 (((x1.length : Nat) : Int) - 1)))
 (bindO (impl_ValidTree n x1) fun b18 =>
 some b18)
 (some false)) fun b15 =>
 some b15

theorem impl_isNode_ok (n : Nat) (x1 : List Nod) (i2 : Int) (b11 : Bool) (h : impl_isNode n x1 i2 = some b11) : FOk EE 46 [.one (.e (.sl 0 0 x1.length)), I i2] [.row .nod x1 false] (B b11) [.row .nod x1 false] := by
  unfold impl_isNode at h
  refine FOk_of_W 14 1 Try.func46 rfl rfl (Nat.le_of_ble_eq_true rfl) rfl (fun w X θ => ?_)
  refine W_seq ?_
  refine W_region ?_
  refine WO_step 1 [0] [0, 1] True ⟨[(0, .one (.e (.sl 0 0 x1.length))), (1, I i2)], [.row .nod x1 false]⟩ (by kernel_rfl) trivial ?_
  refine WO_nil rfl ?_
  refine thenS_n ?_
  refine W_seq ?_
  refine W_region ?_
  refine WO_step 4 [0] [0, 5, 8] (True ∧ (True ∧ True)) ⟨[(0, .one (.e (.sl 0 0 x1.length))), (5, I i2), (8, I (w64 (((x1.length : Nat) : Int) - 1)))], [.row .nod x1 false]⟩ (by kernel_rfl) ⟨trivial, trivial, trivial⟩ ?_
  refine WO_call [] Try.f26 rfl rfl rfl (by kernel_rfl) Try.func26 rfl (by kernel_rfl) (impl_within_ok i2 0 (w64 (((x1.length : Nat) : Int) - 1))) (trivial) rfl ?_
  refine WO_step 1 [0] [0, 10] True ⟨[(0, .one (.e (.sl 0 0 x1.length))), (10, B (impl_within i2 0 (w64 (((x1.length : Nat) : Int) - 1))))], [.row .nod x1 false]⟩ (by kernel_rfl) trivial ?_
  refine bindO_e h (fun b15 hv16 h => ?_)
  refine WO_thru ⟨[(4, B b15)], [.row .nod x1 false]⟩ ?_ ?_
  · refine iteO_e hv16 (fun hb17 hv16 => WO_known 10 true rfl hb17 ?_) (fun hb17 hv16 => WO_known 10 false rfl hb17 ?_)
    · refine WO_step 1 [0] [10, 11] True ⟨[(10, B true), (11, .one (.e (.sl 0 0 x1.length)))], [.row .nod x1 false]⟩ (by kernel_rfl) trivial ?_
      refine bindO_e hv16 (fun b18 hc19 hv16 => ?_)
      refine WO_call [.ro 0] Try.f13 rfl rfl rfl (by kernel_rfl) Try.func13 rfl (by kernel_rfl) (impl_ValidTree_ok n x1 b18 hc19) (And.intro (And.intro rfl rfl) (trivial)) rfl ?_
      refine WO_step 2 [0] [4] True ⟨[(4, B b18)], [.row .nod x1 false]⟩ (by kernel_rfl) trivial ?_
      cases hv16
      exact WO_nil rfl ⟨rfl, rfl⟩
    · refine WO_step 4 [0] [4] True ⟨[(4, B false)], [.row .nod x1 false]⟩ (by kernel_rfl) trivial ?_
      cases hv16
      exact WO_nil rfl ⟨rfl, rfl⟩
  · refine thenS_n ?_
    refine W_ret ?_
    cases h
    exact ⟨[0], True, by kernel_rfl, trivial⟩

/- slices.Reverse[[]int,int] -/
def slices_Reverse_int_int_L1 (k2 : Nat) : Nat → (List Int) → Int → Int → Option ((List Int))
| 0, _, _, _ => none
| n + 1, x68, i69, i70 =>
 iteO (decide (i69 < i70))
 (guardO (0 ≤ i70 ∧ i70 < ((k2 : Nat) : Int)) <|
 guardO (0 ≤ i69 ∧ i69 < ((k2 : Nat) : Int)) <|
 guardO (0 ≤ i69 ∧ i69 < ((k2 : Nat) : Int)) <|
 guardO (0 ≤ i70 ∧ i70 < ((k2 : Nat) : Int)) <|
 slices_Reverse_int_int_L1 k2 n ((x68.set i69.toNat (x68.getD i70.toNat 0)).set i70.toNat (x68.getD i69.toNat 0)) (w64 (i69 + 1)) (w64 (i70 - 1)))
 (some x68)

theorem slices_Reverse_int_int_L1_ok (w : World) (X : Nat → Prop) (θ : List Loc) (k2 : Nat) (x84 : (List Int)) : ∀ (n : Nat) (x68 : List Int) (i69 : Int) (i70 : Int), slices_Reverse_int_int_L1 k2 n x68 i69 i70 = some x84 → WL EE ⟨w, X, θ, 28, 1⟩ (subC [1, 4, 4] (bodyC Try.f47)) (fun (e : Exit) (s : St) => e = .exit 0 ∧ s = ⟨[], [.row .int x84 true]⟩) ⟨[(0, .one (.e (.sl 0 0 k2))), (2, I i69), (3, I i70)], [.row .int x68 true]⟩ := by
  intro n
  induction n with
  | zero => intro _ _ _ h; exact none_e h
  | succ n ih =>
    intro x68 i69 i70 h
    rw [slices_Reverse_int_int_L1] at h
    refine WL_round ?_
    refine W_seq ?_
    refine W_seq ?_
    refine W_region ?_
    refine WO_step 3 [0] [0, 2, 3, 9] (True ∧ True) ⟨[(0, .one (.e (.sl 0 0 k2))), (2, I i69), (3, I i70), (9, B (decide (i69 < i70)))], [.row .int x68 true]⟩ (by kernel_rfl) ⟨trivial, trivial⟩ ?_
    refine WO_nil rfl ?_
    refine thenS_n ?_
    refine iteO_e h (fun hb87 h => W_true rfl hb87 ?_) (fun hb87 h => W_false rfl hb87 ?_)
    · refine W_sub [0] [0, 2, 3] (st' := ⟨[(0, .one (.e (.sl 0 0 k2))), (2, I i69), (3, I i70)], [.row .int x68 true]⟩) (by kernel_rfl) ?_
      refine W_skip ?_
      refine thenS_n ?_
      refine W_seq ?_
      refine W_block ?_
      refine guardO_e h (fun hg92 h => ?_)
      refine guardO_e h (fun hg93 h => ?_)
      refine guardO_e h (fun hg94 h => ?_)
      refine guardO_e h (fun hg95 h => ?_)
      refine W_cut (Q' := fun (e : Exit) (s : St) => e = .normal ∧ s = ⟨[(0, .one (.e (.sl 0 0 k2))), (2, I i69), (3, I i70)], [.row .int ((x68.set i69.toNat (x68.getD i70.toNat 0)).set i70.toNat (x68.getD i69.toNat 0)) true]⟩) ?_ ?_
      · refine W_draw [0] false (by kernel_rfl) (by kernel_rfl) ?_
        refine WD_takeK [0, 1, 2, 3, 4, 5, 8, 9] [0, 2, 3, 14, 15, 16, 17, 18, 19, 22, 23] [0, 2, 3, 14, 15, 16, 17, 18, 19, 22, 23] (φ := True) (ls' := #[true, true, true, true, true, true, false, false, true, true, false, false, false, false, false, false]) (Ts' := [(0, .one (.e (.sl 0 0 k2))), (2, I i69), (3, I i70), (14, .one (.e (.sl 0 0 k2))), (15, I i69), (16, .one (.e (.sl 0 0 k2))), (17, I i70), (18, .one (.e (.sl 0 0 k2))), (19, I i70), (22, .one (.e (.sl 0 0 k2))), (23, I i69)]) (st' := ⟨[(0, .one (.e (.sl 0 0 k2))), (2, I i69), (3, I i70), (14, .one (.e (.sl 0 0 k2))), (15, I i69), (16, .one (.e (.sl 0 0 k2))), (17, I i70), (18, .one (.e (.sl 0 0 k2))), (19, I i70), (22, .one (.e (.sl 0 0 k2))), (23, I i69)], [.row .int x68 true]⟩) (n2 := 8) (by kernel_rfl) trivial rfl ?_
        refine WD_all [6, 10] (n := 7) (by kernel_rfl) rfl (And.intro ?_ (?_))
        · refine WM_op (φ := 0 ≤ i70 ∧ i70 < ((k2 : Nat) : Int)) (v := .one (.e (.rp 0 i70.toNat 0))) (H' := [.row .int x68 true]) rfl rfl (by kernel_rfl) hg92 rfl (trivial) ?_
          refine WD_all [7, 10] (n := 6) (by kernel_rfl) rfl (And.intro ?_ (?_))
          · refine WM_op (φ := True) (v := I (x68.getD i70.toNat 0)) (H' := [.row .int x68 true]) rfl rfl (by kernel_rfl) trivial rfl (trivial) ?_
            refine WD_all [10] (n := 5) (by kernel_rfl) rfl ?_
            refine WM_op (φ := 0 ≤ i69 ∧ i69 < ((k2 : Nat) : Int)) (v := .one (.e (.rp 0 i69.toNat 0))) (H' := [.row .int x68 true]) rfl rfl (by kernel_rfl) hg93 rfl (trivial) ?_
            refine WD_all [11] (n := 4) (by kernel_rfl) rfl ?_
            refine WM_op (φ := True) (v := I (x68.getD i69.toNat 0)) (H' := [.row .int x68 true]) rfl rfl (by kernel_rfl) trivial rfl (trivial) ?_
            refine WD_all [12] (n := 3) (by kernel_rfl) rfl ?_
            refine WM_op (φ := 0 ≤ i69 ∧ i69 < ((k2 : Nat) : Int)) (v := .one (.e (.rp 0 i69.toNat 0))) (H' := [.row .int x68 true]) rfl rfl (by kernel_rfl) hg94 rfl (trivial) ?_
            refine WD_all [13] (n := 2) (by kernel_rfl) rfl ?_
            refine WM_store (u := .one (.e (.rp 0 i69.toNat 0))) (v := I (x68.getD i70.toNat 0)) (φ := True) (H' := [.row .int (x68.set i69.toNat (x68.getD i70.toNat 0)) true]) rfl rfl rfl rfl rfl (by kernel_rfl) trivial rfl (trivial) ?_
            refine WD_all [14] (n := 1) (by kernel_rfl) rfl ?_
            refine WM_op (φ := 0 ≤ i70 ∧ i70 < ((k2 : Nat) : Int)) (v := .one (.e (.rp 0 i70.toNat 0))) (H' := [.row .int (x68.set i69.toNat (x68.getD i70.toNat 0)) true]) rfl rfl (by kernel_rfl) hg95 rfl (trivial) ?_
            refine WD_all [15] (n := 0) (by kernel_rfl) rfl ?_
            refine WM_store (u := .one (.e (.rp 0 i70.toNat 0))) (v := I (x68.getD i69.toNat 0)) (φ := True) (H' := [.row .int ((x68.set i69.toNat (x68.getD i70.toNat 0)).set i70.toNat (x68.getD i69.toNat 0)) true]) rfl rfl rfl rfl rfl (by kernel_rfl) trivial rfl (trivial) ?_
            exact WD_done [0] [0, 2, 3] (st' := ⟨[(0, .one (.e (.sl 0 0 k2))), (2, I i69), (3, I i70)], [.row .int ((x68.set i69.toNat (x68.getD i70.toNat 0)).set i70.toNat (x68.getD i69.toNat 0)) true]⟩) (by kernel_rfl) (by kernel_rfl) (And.intro rfl rfl)
          · refine WM_op (φ := 0 ≤ i69 ∧ i69 < ((k2 : Nat) : Int)) (v := .one (.e (.rp 0 i69.toNat 0))) (H' := [.row .int x68 true]) rfl rfl (by kernel_rfl) hg93 rfl (trivial) ?_
            refine WD_all [7, 11] (n := 5) (by kernel_rfl) rfl (And.intro ?_ (?_))
            · refine WM_op (φ := True) (v := I (x68.getD i70.toNat 0)) (H' := [.row .int x68 true]) rfl rfl (by kernel_rfl) trivial rfl (trivial) ?_
              refine WD_all [11] (n := 4) (by kernel_rfl) rfl ?_
              refine WM_op (φ := True) (v := I (x68.getD i69.toNat 0)) (H' := [.row .int x68 true]) rfl rfl (by kernel_rfl) trivial rfl (trivial) ?_
              refine WD_all [12] (n := 3) (by kernel_rfl) rfl ?_
              refine WM_op (φ := 0 ≤ i69 ∧ i69 < ((k2 : Nat) : Int)) (v := .one (.e (.rp 0 i69.toNat 0))) (H' := [.row .int x68 true]) rfl rfl (by kernel_rfl) hg94 rfl (trivial) ?_
              refine WD_all [13] (n := 2) (by kernel_rfl) rfl ?_
              refine WM_store (u := .one (.e (.rp 0 i69.toNat 0))) (v := I (x68.getD i70.toNat 0)) (φ := True) (H' := [.row .int (x68.set i69.toNat (x68.getD i70.toNat 0)) true]) rfl rfl rfl rfl rfl (by kernel_rfl) trivial rfl (trivial) ?_
              refine WD_all [14] (n := 1) (by kernel_rfl) rfl ?_
              refine WM_op (φ := 0 ≤ i70 ∧ i70 < ((k2 : Nat) : Int)) (v := .one (.e (.rp 0 i70.toNat 0))) (H' := [.row .int (x68.set i69.toNat (x68.getD i70.toNat 0)) true]) rfl rfl (by kernel_rfl) hg95 rfl (trivial) ?_
              refine WD_all [15] (n := 0) (by kernel_rfl) rfl ?_
              refine WM_store (u := .one (.e (.rp 0 i70.toNat 0))) (v := I (x68.getD i69.toNat 0)) (φ := True) (H' := [.row .int ((x68.set i69.toNat (x68.getD i70.toNat 0)).set i70.toNat (x68.getD i69.toNat 0)) true]) rfl rfl rfl rfl rfl (by kernel_rfl) trivial rfl (trivial) ?_
              exact WD_done [0] [0, 2, 3] (st' := ⟨[(0, .one (.e (.sl 0 0 k2))), (2, I i69), (3, I i70)], [.row .int ((x68.set i69.toNat (x68.getD i70.toNat 0)).set i70.toNat (x68.getD i69.toNat 0)) true]⟩) (by kernel_rfl) (by kernel_rfl) (And.intro rfl rfl)
            · refine WM_op (φ := True) (v := I (x68.getD i69.toNat 0)) (H' := [.row .int x68 true]) rfl rfl (by kernel_rfl) trivial rfl (trivial) ?_
              refine WD_all [7] (n := 4) (by kernel_rfl) rfl ?_
              refine WM_op (φ := True) (v := I (x68.getD i70.toNat 0)) (H' := [.row .int x68 true]) rfl rfl (by kernel_rfl) trivial rfl (trivial) ?_
              refine WD_all [12] (n := 3) (by kernel_rfl) rfl ?_
              refine WM_op (φ := 0 ≤ i69 ∧ i69 < ((k2 : Nat) : Int)) (v := .one (.e (.rp 0 i69.toNat 0))) (H' := [.row .int x68 true]) rfl rfl (by kernel_rfl) hg94 rfl (trivial) ?_
              refine WD_all [13] (n := 2) (by kernel_rfl) rfl ?_
              refine WM_store (u := .one (.e (.rp 0 i69.toNat 0))) (v := I (x68.getD i70.toNat 0)) (φ := True) (H' := [.row .int (x68.set i69.toNat (x68.getD i70.toNat 0)) true]) rfl rfl rfl rfl rfl (by kernel_rfl) trivial rfl (trivial) ?_
              refine WD_all [14] (n := 1) (by kernel_rfl) rfl ?_
              refine WM_op (φ := 0 ≤ i70 ∧ i70 < ((k2 : Nat) : Int)) (v := .one (.e (.rp 0 i70.toNat 0))) (H' := [.row .int (x68.set i69.toNat (x68.getD i70.toNat 0)) true]) rfl rfl (by kernel_rfl) hg95 rfl (trivial) ?_
              refine WD_all [15] (n := 0) (by kernel_rfl) rfl ?_
              refine WM_store (u := .one (.e (.rp 0 i70.toNat 0))) (v := I (x68.getD i69.toNat 0)) (φ := True) (H' := [.row .int ((x68.set i69.toNat (x68.getD i70.toNat 0)).set i70.toNat (x68.getD i69.toNat 0)) true]) rfl rfl rfl rfl rfl (by kernel_rfl) trivial rfl (trivial) ?_
              exact WD_done [0] [0, 2, 3] (st' := ⟨[(0, .one (.e (.sl 0 0 k2))), (2, I i69), (3, I i70)], [.row .int ((x68.set i69.toNat (x68.getD i70.toNat 0)).set i70.toNat (x68.getD i69.toNat 0)) true]⟩) (by kernel_rfl) (by kernel_rfl) (And.intro rfl rfl)
        · refine WM_op (φ := 0 ≤ i69 ∧ i69 < ((k2 : Nat) : Int)) (v := .one (.e (.rp 0 i69.toNat 0))) (H' := [.row .int x68 true]) rfl rfl (by kernel_rfl) hg93 rfl (trivial) ?_
          refine WD_all [6, 11] (n := 6) (by kernel_rfl) rfl (And.intro ?_ (?_))
          · refine WM_op (φ := 0 ≤ i70 ∧ i70 < ((k2 : Nat) : Int)) (v := .one (.e (.rp 0 i70.toNat 0))) (H' := [.row .int x68 true]) rfl rfl (by kernel_rfl) hg92 rfl (trivial) ?_
            refine WD_all [7, 11] (n := 5) (by kernel_rfl) rfl (And.intro ?_ (?_))
            · refine WM_op (φ := True) (v := I (x68.getD i70.toNat 0)) (H' := [.row .int x68 true]) rfl rfl (by kernel_rfl) trivial rfl (trivial) ?_
              refine WD_all [11] (n := 4) (by kernel_rfl) rfl ?_
              refine WM_op (φ := True) (v := I (x68.getD i69.toNat 0)) (H' := [.row .int x68 true]) rfl rfl (by kernel_rfl) trivial rfl (trivial) ?_
              refine WD_all [12] (n := 3) (by kernel_rfl) rfl ?_
              refine WM_op (φ := 0 ≤ i69 ∧ i69 < ((k2 : Nat) : Int)) (v := .one (.e (.rp 0 i69.toNat 0))) (H' := [.row .int x68 true]) rfl rfl (by kernel_rfl) hg94 rfl (trivial) ?_
              refine WD_all [13] (n := 2) (by kernel_rfl) rfl ?_
              refine WM_store (u := .one (.e (.rp 0 i69.toNat 0))) (v := I (x68.getD i70.toNat 0)) (φ := True) (H' := [.row .int (x68.set i69.toNat (x68.getD i70.toNat 0)) true]) rfl rfl rfl rfl rfl (by kernel_rfl) trivial rfl (trivial) ?_
              refine WD_all [14] (n := 1) (by kernel_rfl) rfl ?_
              refine WM_op (φ := 0 ≤ i70 ∧ i70 < ((k2 : Nat) : Int)) (v := .one (.e (.rp 0 i70.toNat 0))) (H' := [.row .int (x68.set i69.toNat (x68.getD i70.toNat 0)) true]) rfl rfl (by kernel_rfl) hg95 rfl (trivial) ?_
              refine WD_all [15] (n := 0) (by kernel_rfl) rfl ?_
              refine WM_store (u := .one (.e (.rp 0 i70.toNat 0))) (v := I (x68.getD i69.toNat 0)) (φ := True) (H' := [.row .int ((x68.set i69.toNat (x68.getD i70.toNat 0)).set i70.toNat (x68.getD i69.toNat 0)) true]) rfl rfl rfl rfl rfl (by kernel_rfl) trivial rfl (trivial) ?_
              exact WD_done [0] [0, 2, 3] (st' := ⟨[(0, .one (.e (.sl 0 0 k2))), (2, I i69), (3, I i70)], [.row .int ((x68.set i69.toNat (x68.getD i70.toNat 0)).set i70.toNat (x68.getD i69.toNat 0)) true]⟩) (by kernel_rfl) (by kernel_rfl) (And.intro rfl rfl)
            · refine WM_op (φ := True) (v := I (x68.getD i69.toNat 0)) (H' := [.row .int x68 true]) rfl rfl (by kernel_rfl) trivial rfl (trivial) ?_
              refine WD_all [7] (n := 4) (by kernel_rfl) rfl ?_
              refine WM_op (φ := True) (v := I (x68.getD i70.toNat 0)) (H' := [.row .int x68 true]) rfl rfl (by kernel_rfl) trivial rfl (trivial) ?_
              refine WD_all [12] (n := 3) (by kernel_rfl) rfl ?_
              refine WM_op (φ := 0 ≤ i69 ∧ i69 < ((k2 : Nat) : Int)) (v := .one (.e (.rp 0 i69.toNat 0))) (H' := [.row .int x68 true]) rfl rfl (by kernel_rfl) hg94 rfl (trivial) ?_
              refine WD_all [13] (n := 2) (by kernel_rfl) rfl ?_
              refine WM_store (u := .one (.e (.rp 0 i69.toNat 0))) (v := I (x68.getD i70.toNat 0)) (φ := True) (H' := [.row .int (x68.set i69.toNat (x68.getD i70.toNat 0)) true]) rfl rfl rfl rfl rfl (by kernel_rfl) trivial rfl (trivial) ?_
              refine WD_all [14] (n := 1) (by kernel_rfl) rfl ?_
              refine WM_op (φ := 0 ≤ i70 ∧ i70 < ((k2 : Nat) : Int)) (v := .one (.e (.rp 0 i70.toNat 0))) (H' := [.row .int (x68.set i69.toNat (x68.getD i70.toNat 0)) true]) rfl rfl (by kernel_rfl) hg95 rfl (trivial) ?_
              refine WD_all [15] (n := 0) (by kernel_rfl) rfl ?_
              refine WM_store (u := .one (.e (.rp 0 i70.toNat 0))) (v := I (x68.getD i69.toNat 0)) (φ := True) (H' := [.row .int ((x68.set i69.toNat (x68.getD i70.toNat 0)).set i70.toNat (x68.getD i69.toNat 0)) true]) rfl rfl rfl rfl rfl (by kernel_rfl) trivial rfl (trivial) ?_
              exact WD_done [0] [0, 2, 3] (st' := ⟨[(0, .one (.e (.sl 0 0 k2))), (2, I i69), (3, I i70)], [.row .int ((x68.set i69.toNat (x68.getD i70.toNat 0)).set i70.toNat (x68.getD i69.toNat 0)) true]⟩) (by kernel_rfl) (by kernel_rfl) (And.intro rfl rfl)
          · refine WM_op (φ := True) (v := I (x68.getD i69.toNat 0)) (H' := [.row .int x68 true]) rfl rfl (by kernel_rfl) trivial rfl (trivial) ?_
            refine WD_all [6] (n := 5) (by kernel_rfl) rfl ?_
            refine WM_op (φ := 0 ≤ i70 ∧ i70 < ((k2 : Nat) : Int)) (v := .one (.e (.rp 0 i70.toNat 0))) (H' := [.row .int x68 true]) rfl rfl (by kernel_rfl) hg92 rfl (trivial) ?_
            refine WD_all [7] (n := 4) (by kernel_rfl) rfl ?_
            refine WM_op (φ := True) (v := I (x68.getD i70.toNat 0)) (H' := [.row .int x68 true]) rfl rfl (by kernel_rfl) trivial rfl (trivial) ?_
            refine WD_all [12] (n := 3) (by kernel_rfl) rfl ?_
            refine WM_op (φ := 0 ≤ i69 ∧ i69 < ((k2 : Nat) : Int)) (v := .one (.e (.rp 0 i69.toNat 0))) (H' := [.row .int x68 true]) rfl rfl (by kernel_rfl) hg94 rfl (trivial) ?_
            refine WD_all [13] (n := 2) (by kernel_rfl) rfl ?_
            refine WM_store (u := .one (.e (.rp 0 i69.toNat 0))) (v := I (x68.getD i70.toNat 0)) (φ := True) (H' := [.row .int (x68.set i69.toNat (x68.getD i70.toNat 0)) true]) rfl rfl rfl rfl rfl (by kernel_rfl) trivial rfl (trivial) ?_
            refine WD_all [14] (n := 1) (by kernel_rfl) rfl ?_
            refine WM_op (φ := 0 ≤ i70 ∧ i70 < ((k2 : Nat) : Int)) (v := .one (.e (.rp 0 i70.toNat 0))) (H' := [.row .int (x68.set i69.toNat (x68.getD i70.toNat 0)) true]) rfl rfl (by kernel_rfl) hg95 rfl (trivial) ?_
            refine WD_all [15] (n := 0) (by kernel_rfl) rfl ?_
            refine WM_store (u := .one (.e (.rp 0 i70.toNat 0))) (v := I (x68.getD i69.toNat 0)) (φ := True) (H' := [.row .int ((x68.set i69.toNat (x68.getD i70.toNat 0)).set i70.toNat (x68.getD i69.toNat 0)) true]) rfl rfl rfl rfl rfl (by kernel_rfl) trivial rfl (trivial) ?_
            exact WD_done [0] [0, 2, 3] (st' := ⟨[(0, .one (.e (.sl 0 0 k2))), (2, I i69), (3, I i70)], [.row .int ((x68.set i69.toNat (x68.getD i70.toNat 0)).set i70.toNat (x68.getD i69.toNat 0)) true]⟩) (by kernel_rfl) (by kernel_rfl) (And.intro rfl rfl)
      · rintro _ _ ⟨rfl, rfl⟩
        refine blockS_n ?_
        refine thenS_n ?_
        refine W_region ?_
        refine WO_step 6 [0] [0, 2, 3] (True ∧ (True ∧ True)) ⟨[(0, .one (.e (.sl 0 0 k2))), (2, I (w64 (i69 + 1))), (3, I (w64 (i70 - 1)))], [.row .int ((x68.set i69.toNat (x68.getD i70.toNat 0)).set i70.toNat (x68.getD i69.toNat 0)) true]⟩ (by kernel_rfl) ⟨trivial, trivial, trivial⟩ ?_
        refine WO_nil rfl ?_
        refine thenS_n ?_
        exact ih _ _ _ h
    · refine W_sub [0] [] (st' := ⟨[], [.row .int x68 true]⟩) (by kernel_rfl) ?_
      refine W_exit ?_
      refine thenS_e ?_
      refine thenS_e ?_
      cases h
      exact And.intro rfl rfl

def slices_Reverse_int_int (n : Nat) (x1 : List Int) (k2 : Nat) : Option ((List Int)) :=
 bindO (slices_Reverse_int_int_L1 k2 n x1 0 (w64 (((k2 : Nat) : Int) - 1))) fun x84 =>
 some x84

theorem slices_Reverse_int_int_ok (n : Nat) (x1 : List Int) (k2 : Nat) (x49 : List Int) (h : slices_Reverse_int_int n x1 k2 = some x49) : FOk EE 47 [.one (.e (.sl 0 0 k2))] [.row .int x1 true] (.tup []) [.row .int x49 true] := by
  unfold slices_Reverse_int_int at h
  refine FOk_of_W 28 1 Try.func47 rfl rfl (Nat.le_of_ble_eq_true rfl) rfl (fun w X θ => ?_)
  refine W_seq ?_
  refine W_region ?_
  refine WO_step 5 [0] [0, 2, 3] (True ∧ (True ∧ True)) ⟨[(0, .one (.e (.sl 0 0 k2))), (2, I 0), (3, I (w64 (((k2 : Nat) : Int) - 1)))], [.row .int x1 true]⟩ (by kernel_rfl) ⟨trivial, trivial, trivial⟩ ?_
  refine WO_nil rfl ?_
  refine thenS_n ?_
  refine W_block ?_
  refine W_loop ?_
  refine bindO_e h (fun x84 hx84 h => ?_)
  refine WL_cut (slices_Reverse_int_int_L1_ok w X θ k2 x84 n x1 0 (w64 (((k2 : Nat) : Int) - 1)) hx84) ?_
  rintro _ _ ⟨rfl, rfl⟩
  refine blockS_y ?_
  cases h
  exact ⟨[0], True, by kernel_rfl, trivial⟩

/- impl.PathTo -/
def impl_PathTo_L1 (x1 : List Nod) : Nat → (List Int) → Int → Option ((List Int))
| 0, _, _ => none
| n + 1, x53, i54 =>
 iteO (decide (0 ≤ i54))
 (guardO (0 = 0 ∧ x53.length = x53.length ∧ x53.length + (([i54].drop 0).take ([i54].length)).length ≤ 1099511627776) <|
 guardO (0 ≤ i54 ∧ i54 < ((x1.length : Nat) : Int)) <|
 impl_PathTo_L1 x1 n (x53 ++ (([i54].drop 0).take ([i54].length))) ((x1.getD i54.toNat dnod).parent))
 (some x53)

theorem impl_PathTo_L1_ok (w : World) (X : Nat → Prop) (θ : List Loc) (x1 : List Nod) (x62 : (List Int)) : ∀ (n : Nat) (x53 : List Int) (i54 : Int), impl_PathTo_L1 x1 n x53 i54 = some x62 → WL EE ⟨w, X, θ, 26, 1⟩ (subC [1, 1, 1, 0, 1, 4, 4] (bodyC Try.f31)) (fun (e : Exit) (s : St) => e = .exit 0 ∧ s = ⟨[(5, .one (.e (.sl 1 0 x62.length)))], [.row .nod x1 false, .row .int x62 true]⟩) ⟨[(0, .one (.e (.sl 0 0 x1.length))), (5, .one (.e (.sl 1 0 x53.length))), (6, I i54)], [.row .nod x1 false, .row .int x53 true]⟩ := by
  intro n
  induction n with
  | zero => intro _ _ h; exact none_e h
  | succ n ih =>
    intro x53 i54 h
    rw [impl_PathTo_L1] at h
    refine WL_round ?_
    refine W_seq ?_
    refine W_seq ?_
    refine W_region ?_
    refine WO_step 2 [0, 1] [0, 5, 6, 13] (True ∧ True) ⟨[(0, .one (.e (.sl 0 0 x1.length))), (5, .one (.e (.sl 1 0 x53.length))), (6, I i54), (13, B (decide (0 ≤ i54)))], [.row .nod x1 false, .row .int x53 true]⟩ (by kernel_rfl) ⟨trivial, trivial⟩ ?_
    refine WO_nil rfl ?_
    refine thenS_n ?_
    refine iteO_e h (fun hb65 h => W_true rfl hb65 ?_) (fun hb65 h => W_false rfl hb65 ?_)
    · refine W_sub [0, 1] [0, 5, 6] (st' := ⟨[(0, .one (.e (.sl 0 0 x1.length))), (5, .one (.e (.sl 1 0 x53.length))), (6, I i54)], [.row .nod x1 false, .row .int x53 true]⟩) (by kernel_rfl) ?_
      refine W_skip ?_
      refine thenS_n ?_
      refine W_seq ?_
      refine W_block ?_
      refine W_region ?_
      refine guardO_e h (fun hg67 h => ?_)
      refine WO_step 5 [0, 3] [0, 5, 6] ((0 = 0 ∧ x53.length = x53.length ∧ x53.length + (([i54].drop 0).take ([i54].length)).length ≤ 1099511627776) ∧ True) ⟨[(0, .one (.e (.sl 0 0 x1.length))), (5, .one (.e (.sl 1 0 ((x53 ++ (([i54].drop 0).take ([i54].length))).length)))), (6, I i54)], [.row .nod x1 false, .row .int (x53 ++ (([i54].drop 0).take ([i54].length))) true]⟩ (by kernel_rfl) ⟨hg67, trivial⟩ ?_
      refine WO_nil rfl ?_
      refine blockS_n ?_
      refine thenS_n ?_
      refine W_region ?_
      refine guardO_e h (fun hg68 h => ?_)
      refine WO_step 6 [0, 1] [0, 5, 6] ((0 ≤ i54 ∧ i54 < ((x1.length : Nat) : Int)) ∧ (True ∧ True)) ⟨[(0, .one (.e (.sl 0 0 x1.length))), (5, .one (.e (.sl 1 0 ((x53 ++ (([i54].drop 0).take ([i54].length))).length)))), (6, I ((x1.getD i54.toNat dnod).parent))], [.row .nod x1 false, .row .int (x53 ++ (([i54].drop 0).take ([i54].length))) true]⟩ (by kernel_rfl) ⟨hg68, trivial, trivial⟩ ?_
      refine WO_nil rfl ?_
      refine thenS_n ?_
      exact ih _ _ h
    · refine W_sub [0, 1] [5] (st' := ⟨[(5, .one (.e (.sl 1 0 x53.length)))], [.row .nod x1 false, .row .int x53 true]⟩) (by kernel_rfl) ?_
      refine W_exit ?_
      refine thenS_e ?_
      refine thenS_e ?_
      cases h
      exact And.intro rfl rfl

def impl_PathTo (n : Nat) (x1 : List Nod) (i2 : Int) : Option ((List Int)) :=
 bindO (impl_isNode n x1 i2) fun b38 =>
 iteO (!b38)
 (some ([] : List Int))
 (bindO (impl_PathTo_L1 x1 n ([] : List Int) i2) fun x62 =>
 bindO (slices_Reverse_int_int n x62 x62.length) fun x70 =>
 guardO (x62.length = x70.length) <|
 some x70)

theorem impl_PathTo_ok (n : Nat) (x1 : List Nod) (i2 : Int) (x37 : List Int) (h : impl_PathTo n x1 i2 = some x37) : FOk EE 31 [.one (.e (.sl 0 0 x1.length)), I i2] [.row .nod x1 false] (.one (.e (.sl 1 0 x37.length))) [.row .nod x1 false, .row .int x37 true] := by
  unfold impl_PathTo at h
  refine FOk_of_W 26 1 Try.func31 rfl rfl (Nat.le_of_ble_eq_true rfl) rfl (fun w X θ => ?_)
  refine W_seq ?_
  refine W_region ?_
  refine WO_step 1 [0] [0, 1] True ⟨[(0, .one (.e (.sl 0 0 x1.length))), (1, I i2)], [.row .nod x1 false]⟩ (by kernel_rfl) trivial ?_
  refine WO_nil rfl ?_
  refine thenS_n ?_
  refine W_seq ?_
  refine W_seq ?_
  refine W_region ?_
  refine WO_step 2 [0] [0, 1, 7, 8] True ⟨[(0, .one (.e (.sl 0 0 x1.length))), (1, I i2), (7, .one (.e (.sl 0 0 x1.length))), (8, I i2)], [.row .nod x1 false]⟩ (by kernel_rfl) trivial ?_
  refine bindO_e h (fun b38 hc39 h => ?_)
  refine WO_call [.ro 0] Try.f46 rfl rfl rfl (by kernel_rfl) Try.func46 rfl (by kernel_rfl) (impl_isNode_ok n x1 i2 b38 hc39) (And.intro (And.intro rfl rfl) (trivial)) rfl ?_
  refine WO_step 1 [0] [0, 1, 10] True ⟨[(0, .one (.e (.sl 0 0 x1.length))), (1, I i2), (10, B (!b38))], [.row .nod x1 false]⟩ (by kernel_rfl) trivial ?_
  refine WO_nil rfl ?_
  refine thenS_n ?_
  refine iteO_e h (fun hb41 h => W_true rfl hb41 ?_) (fun hb41 h => W_false rfl hb41 ?_)
  · refine W_seq ?_
    refine W_region ?_
    refine WO_step 1 [0] [4] True ⟨[(4, .one (.e (.nsl)))], [.row .nod x1 false]⟩ (by kernel_rfl) trivial ?_
    refine WO_nilrow 4 .int rfl ?_
    refine WO_sub [0, 1] [4] (st' := ⟨[(4, .one (.e (.sl 1 0 (([] : List Int).length))))], [.row .nod x1 false, .row .int ([] : List Int) true]⟩) (by kernel_rfl) ?_
    refine WO_nil rfl ?_
    refine thenS_n ?_
    refine W_ret ?_
    refine thenS_r ?_
    cases h
    exact ⟨[0, 1], True, by kernel_rfl, trivial⟩
  · refine W_sub [0] [0, 1] (st' := ⟨[(0, .one (.e (.sl 0 0 x1.length))), (1, I i2)], [.row .nod x1 false]⟩) (by kernel_rfl) ?_
    refine W_skip ?_
    refine thenS_n ?_
    refine W_seq ?_
    refine W_region ?_
    refine WO_step 1 [0] [0, 1, 5] True ⟨[(0, .one (.e (.sl 0 0 x1.length))), (1, I i2), (5, .one (.e (.nsl)))], [.row .nod x1 false]⟩ (by kernel_rfl) trivial ?_
    refine WO_nilrow 5 .int rfl ?_
    refine WO_sub [0, 1] [0, 1, 5] (st' := ⟨[(0, .one (.e (.sl 0 0 x1.length))), (1, I i2), (5, .one (.e (.sl 1 0 (([] : List Int).length))))], [.row .nod x1 false, .row .int ([] : List Int) true]⟩) (by kernel_rfl) ?_
    refine WO_nil rfl ?_
    refine thenS_n ?_
    refine W_seq ?_
    refine W_seq ?_
    refine W_region ?_
    refine WO_step 2 [0, 1] [0, 5, 6] True ⟨[(0, .one (.e (.sl 0 0 x1.length))), (5, .one (.e (.sl 1 0 (([] : List Int).length)))), (6, I i2)], [.row .nod x1 false, .row .int ([] : List Int) true]⟩ (by kernel_rfl) trivial ?_
    refine WO_nil rfl ?_
    refine thenS_n ?_
    refine W_block ?_
    refine W_loop ?_
    refine bindO_e h (fun x62 hx62 h => ?_)
    refine WL_cut (impl_PathTo_L1_ok w X θ x1 x62 n ([] : List Int) i2 hx62) ?_
    rintro _ _ ⟨rfl, rfl⟩
    refine blockS_y ?_
    refine thenS_n ?_
    refine W_seq ?_
    refine W_region ?_
    refine WO_step 1 [0, 1] [5, 23] True ⟨[(5, .one (.e (.sl 1 0 x62.length))), (23, .one (.e (.sl 1 0 x62.length)))], [.row .nod x1 false, .row .int x62 true]⟩ (by kernel_rfl) trivial ?_
    refine bindO_e h (fun x70 hc71 h => ?_)
    refine guardO_e h (fun hl72 h => ?_)
    refine WO_call [.own 1] Try.f47 rfl rfl rfl (by kernel_rfl) Try.func47 rfl (by kernel_rfl) (slices_Reverse_int_int_ok n x62 x62.length x70 hc71) (And.intro (And.intro rfl (And.intro rfl hl72)) (trivial)) rfl ?_
    refine WO_sub [0, 1] [5, 23] (st' := ⟨[(5, .one (.e (.sl 1 0 x62.length))), (23, .one (.e (.sl 1 0 x62.length)))], [.row .nod x1 false, .row .int x70 true]⟩) (by kernel_rfl) ?_
    refine WO_eq (st' := ⟨[(5, .one (.e (.sl 1 0 x70.length))), (23, .one (.e (.sl 1 0 x70.length)))], [.row .nod x1 false, .row .int x70 true]⟩) (by simp only [hl72]) ?_
    refine WO_sub [0, 1] [5] (st' := ⟨[(5, .one (.e (.sl 1 0 x70.length)))], [.row .nod x1 false, .row .int x70 true]⟩) (by kernel_rfl) ?_
    refine WO_nil rfl ?_
    refine thenS_n ?_
    refine W_seq ?_
    refine W_region ?_
    refine WO_step 2 [0, 1] [4] True ⟨[(4, .one (.e (.sl 1 0 x70.length)))], [.row .nod x1 false, .row .int x70 true]⟩ (by kernel_rfl) trivial ?_
    refine WO_nil rfl ?_
    refine thenS_n ?_
    refine W_ret ?_
    cases h
    exact ⟨[0, 1], True, by kernel_rfl, trivial⟩

/- (*strings.Builder).copyCheck -/
def lays240R : Shelf.Ren := ⟨fun n => match n with | 240 => 48 | 276 => 62 | _ => 0, fun n => match n with | 0 => 0 | 4 => 4 | 9 => 9 | 20 => 20 | 70 => 61 | 72 => 63 | 164 => 90 | 37 => 28 | 5 => 5 | _ => 0, fun n => n⟩
set_option maxRecDepth 100000 in
theorem lays240 : Lays.n240 Try.prog lays240R := {
  mixed := by kernel_rfl
  f240 := by kernel_rfl
  f276 := by kernel_rfl
  t0 := Try.underlying0
  a0 := Try.isAgg0
  z0 := Try.sizeOf0
  v0 := Try.zeroValue0
  t4 := Try.underlying4
  a4 := Try.isAgg4
  z4 := Try.sizeOf4
  v4 := Try.zeroValue4
  t9 := Try.underlying9
  a9 := Try.isAgg9
  z9 := Try.sizeOf9
  v9 := Try.zeroValue9
  t20 := Try.underlying20
  a20 := Try.isAgg20
  z20 := Try.sizeOf20
  v20 := Try.zeroValue20
  t70 := Try.underlying61
  a70 := Try.isAgg61
  z70 := Try.sizeOf61
  v70 := Try.zeroValue61
  t72 := Try.underlying63
  a72 := Try.isAgg63
  z72 := Try.sizeOf63
  v72 := Try.zeroValue63
  t164 := Try.underlying90
  a164 := Try.isAgg90
  z164 := Try.sizeOf90
  v164 := Try.zeroValue90 }
theorem x72 : Builder.X72 Try.prog lays240R := {
  sizeBuilder := by kernel_rfl
  liesBuilder := by kernel_rfl }
theorem copyCheck_ok (x1 : List Int) : FOk EE 48 [.one (.e (.p 0 0))] [.cells [.sp 0 63, .bsl 1 x1.length], .row .u8 x1 true] (.tup []) [.cells [.sp 0 63, .bsl 1 x1.length], .row .u8 x1 true] := by
  refine FOk_copy (fun b w h0 h1 h2 => ?_) (fun b w h0 => ?_) x1.length x1
  · exact Any.Builder_copyCheck_fresh lays240 x72 b w h0 h1 h2
  · exact Any.Builder_copyCheck_used lays240 x72 b w h0

/- (*strings.Builder).WriteByte -/
def strings_Builder_WriteByte (x1 : List Int) (i2 : Int) : Option ((List Int)) :=
 guardO (0 = 0 ∧ x1.length = x1.length ∧ x1.length + (([i2].drop 0).take ([i2].length)).length ≤ 1099511627776) <|
 some (x1 ++ (([i2].drop 0).take ([i2].length)))

theorem strings_Builder_WriteByte_ok (x1 : List Int) (i2 : Int) (x4 : List Int) (h : strings_Builder_WriteByte x1 i2 = some x4) : FOk EE 32 [.one (.e (.p 0 0)), U i2] [.cells [.sp 0 63, .bsl 1 x1.length], .row .u8 x1 true] (.one (.e (.nif))) [.cells [.sp 0 63, .bsl 2 x4.length], .dead, .row .u8 x4 true] := by
  unfold strings_Builder_WriteByte at h
  refine FOk_of_W 17 2 Try.func32 rfl rfl (Nat.le_of_ble_eq_true rfl) rfl (fun w X θ => ?_)
  refine W_seq ?_
  refine W_region ?_
  refine WO_step 1 [0, 1] [0, 1] True ⟨[(0, .one (.e (.p 0 0))), (1, U i2)], [.cells [.sp 0 63, .bsl 1 x1.length], .row .u8 x1 true]⟩ (by kernel_rfl) trivial ?_
  refine WO_nil rfl ?_
  refine thenS_n ?_
  refine W_seq ?_
  refine W_region ?_
  refine WO_step 1 [0, 1] [0, 1, 5] True ⟨[(0, .one (.e (.p 0 0))), (1, U i2), (5, .one (.e (.p 0 0)))], [.cells [.sp 0 63, .bsl 1 x1.length], .row .u8 x1 true]⟩ (by kernel_rfl) trivial ?_
  refine WO_call [.own 0, .own 1] Try.f48 rfl rfl rfl (by kernel_rfl) Try.func48 rfl (by kernel_rfl) (copyCheck_ok x1) (And.intro (trivial) (And.intro (And.intro rfl (And.intro rfl rfl)) (trivial))) rfl ?_
  refine WO_sub [0, 1] [0, 1] (st' := ⟨[(0, .one (.e (.p 0 0))), (1, U i2)], [.cells [.sp 0 63, .bsl 1 x1.length], .row .u8 x1 true]⟩) (by kernel_rfl) ?_
  refine WO_nil rfl ?_
  refine thenS_n ?_
  refine W_seq ?_
  refine W_region ?_
  refine guardO_e h (fun hg5 h => ?_)
  refine WO_step 11 [0, 1, 3] [] (True ∧ ((0 = 0 ∧ x1.length = x1.length ∧ x1.length + (([i2].drop 0).take ([i2].length)).length ≤ 1099511627776) ∧ (True ∧ True))) ⟨[], [.cells [.sp 0 63, .bsl 2 ((x1 ++ (([i2].drop 0).take ([i2].length))).length)], .dead, .row .u8 (x1 ++ (([i2].drop 0).take ([i2].length))) true]⟩ (by kernel_rfl) ⟨trivial, hg5, trivial, trivial⟩ ?_
  refine WO_nil rfl ?_
  refine thenS_n ?_
  refine W_seq ?_
  refine W_region ?_
  refine WO_step 1 [0, 1, 2] [4] True ⟨[(4, .one (.e (.nif)))], [.cells [.sp 0 63, .bsl 2 ((x1 ++ (([i2].drop 0).take ([i2].length))).length)], .dead, .row .u8 (x1 ++ (([i2].drop 0).take ([i2].length))) true]⟩ (by kernel_rfl) trivial ?_
  refine WO_nil rfl ?_
  refine thenS_n ?_
  refine W_ret ?_
  cases h
  exact ⟨[0, 1, 2], True, by kernel_rfl, trivial⟩

/- (*strings.Builder).WriteString -/
def strings_Builder_WriteString (x1 : List Int) (s2 : Str) : Option ((List Int) × Int) :=
 guardO (0 = 0 ∧ x1.length = x1.length ∧ x1.length + ((s2 : Str).map fun b => ((b.toNat : Nat) : Int)).length ≤ 1099511627776) <|
 some ((x1 ++ ((s2 : Str).map fun b => ((b.toNat : Nat) : Int))), ((s2.length : Nat) : Int))

theorem strings_Builder_WriteString_ok (x1 : List Int) (s2 : Str) (x4 : List Int) (i5 : Int) (h : strings_Builder_WriteString x1 s2 = some (x4, i5)) : FOk EE 33 [.one (.e (.p 0 0)), S s2] [.cells [.sp 0 63, .bsl 1 x1.length], .row .u8 x1 true] (.tup [.e (cI i5), .e (.nif)]) [.cells [.sp 0 63, .bsl 2 x4.length], .dead, .row .u8 x4 true] := by
  unfold strings_Builder_WriteString at h
  refine FOk_of_W 19 2 Try.func33 rfl rfl (Nat.le_of_ble_eq_true rfl) rfl (fun w X θ => ?_)
  refine W_seq ?_
  refine W_region ?_
  refine WO_step 2 [0, 1] [0, 1] True ⟨[(0, .one (.e (.p 0 0))), (1, S s2)], [.cells [.sp 0 63, .bsl 1 x1.length], .row .u8 x1 true]⟩ (by kernel_rfl) trivial ?_
  refine WO_nil rfl ?_
  refine thenS_n ?_
  refine W_seq ?_
  refine W_region ?_
  refine WO_step 1 [0, 1] [0, 1, 6] True ⟨[(0, .one (.e (.p 0 0))), (1, S s2), (6, .one (.e (.p 0 0)))], [.cells [.sp 0 63, .bsl 1 x1.length], .row .u8 x1 true]⟩ (by kernel_rfl) trivial ?_
  refine WO_call [.own 0, .own 1] Try.f48 rfl rfl rfl (by kernel_rfl) Try.func48 rfl (by kernel_rfl) (copyCheck_ok x1) (And.intro (trivial) (And.intro (And.intro rfl (And.intro rfl rfl)) (trivial))) rfl ?_
  refine WO_sub [0, 1] [0, 1] (st' := ⟨[(0, .one (.e (.p 0 0))), (1, S s2)], [.cells [.sp 0 63, .bsl 1 x1.length], .row .u8 x1 true]⟩) (by kernel_rfl) ?_
  refine WO_nil rfl ?_
  refine thenS_n ?_
  refine W_seq ?_
  refine W_region ?_
  refine guardO_e h (fun hg6 h => ?_)
  refine WO_step 10 [0, 1, 2] [1] (True ∧ ((0 = 0 ∧ x1.length = x1.length ∧ x1.length + ((s2 : Str).map fun b => ((b.toNat : Nat) : Int)).length ≤ 1099511627776) ∧ (True ∧ True))) ⟨[(1, S s2)], [.cells [.sp 0 63, .bsl 2 ((x1 ++ ((s2 : Str).map fun b => ((b.toNat : Nat) : Int))).length)], .dead, .row .u8 (x1 ++ ((s2 : Str).map fun b => ((b.toNat : Nat) : Int))) true]⟩ (by kernel_rfl) ⟨trivial, hg6, trivial, trivial⟩ ?_
  refine WO_nil rfl ?_
  refine thenS_n ?_
  refine W_seq ?_
  refine W_region ?_
  refine WO_step 4 [0, 1, 2] [4, 5] (True ∧ True) ⟨[(4, I ((s2.length : Nat) : Int)), (5, .one (.e (.nif)))], [.cells [.sp 0 63, .bsl 2 ((x1 ++ ((s2 : Str).map fun b => ((b.toNat : Nat) : Int))).length)], .dead, .row .u8 (x1 ++ ((s2 : Str).map fun b => ((b.toNat : Nat) : Int))) true]⟩ (by kernel_rfl) ⟨trivial, trivial⟩ ?_
  refine WO_nil rfl ?_
  refine thenS_n ?_
  refine W_ret ?_
  cases h
  exact ⟨[0, 1, 2], True, by kernel_rfl, trivial⟩

/- (*strings.Builder).String -/
def strings_Builder_String (x1 : List Int) : Option (Nat × Str) :=
 guardO (((x1.length : Nat) : Int) = (x1.length : Int) ∧ ∀ x ∈ x1, 0 ≤ x ∧ x ≤ 255) <|
 some (x1.length, (bytesOf x1))

theorem strings_Builder_String_ok (x1 : List Int) (k3 : Nat) (s4 : Str) (h : strings_Builder_String x1 = some (k3, s4)) : FOk EE 34 [.one (.e (.p 0 0))] [.cells [.sp 0 63, .bsl 1 x1.length], .row .u8 x1 true] (S s4) [.cells [.sp 0 63, .bsl 1 k3], .dead] := by
  unfold strings_Builder_String at h
  refine FOk_of_W 14 2 Try.func34 rfl rfl (Nat.le_of_ble_eq_true rfl) rfl (fun w X θ => ?_)
  refine W_seq ?_
  refine W_region ?_
  refine WO_step 1 [0, 1] [0] True ⟨[(0, .one (.e (.p 0 0)))], [.cells [.sp 0 63, .bsl 1 x1.length], .row .u8 x1 true]⟩ (by kernel_rfl) trivial ?_
  refine WO_nil rfl ?_
  refine thenS_n ?_
  refine W_seq ?_
  refine guardO_e h (fun hg5 h => ?_)
  refine W_cut (Q' := fun (e : Exit) (s : St) => e = .normal ∧ s = ⟨[(2, S (bytesOf x1))], [.cells [.sp 0 63, .bsl 1 x1.length], .dead]⟩) ?_ ?_
  · refine W_draw [1] false (by kernel_rfl) (by kernel_rfl) ?_
    refine WD_takeK [0, 1, 2, 5, 6, 7] [5, 10] [5, 10] (φ := True) (ls' := #[true, true, true, false, false, true, true, true, false, false, false, false]) (Ts' := [(5, .one (.e (.p 0 1))), (10, .one (.e (.p 0 1)))]) (st' := ⟨[(5, .one (.e (.p 0 1))), (10, .one (.e (.p 0 1)))], [.cells [.sp 0 63, .bsl 1 x1.length], .row .u8 x1 true]⟩) (n2 := 6) (by kernel_rfl) trivial rfl ?_
    refine WD_all [3, 8] (n := 5) (by kernel_rfl) rfl (And.intro ?_ (?_))
    · refine WM_op (φ := True) (v := .one (.e (.bsl 1 x1.length))) (H' := [.cells [.sp 0 63, .bsl 1 x1.length], .row .u8 x1 true]) rfl rfl (by kernel_rfl) trivial rfl (And.intro (And.intro rfl rfl) (trivial)) ?_
      refine WD_all [4, 8] (n := 4) (by kernel_rfl) rfl (And.intro ?_ (?_))
      · refine WM_op (φ := True) (v := .one (.e (.sd 1))) (H' := [.cells [.sp 0 63, .bsl 1 x1.length], .row .u8 x1 true]) rfl rfl (by kernel_rfl) trivial rfl (And.intro (And.intro rfl rfl) (trivial)) ?_
        refine WD_all [8] (n := 3) (by kernel_rfl) rfl ?_
        refine WM_op (φ := True) (v := .one (.e (.bsl 1 x1.length))) (H' := [.cells [.sp 0 63, .bsl 1 x1.length], .row .u8 x1 true]) rfl rfl (by kernel_rfl) trivial rfl (And.intro (And.intro rfl rfl) (trivial)) ?_
        refine WD_all [9] (n := 2) (by kernel_rfl) rfl ?_
        refine WM_op (φ := True) (v := I ((x1.length : Nat) : Int)) (H' := [.cells [.sp 0 63, .bsl 1 x1.length], .row .u8 x1 true]) rfl rfl (by kernel_rfl) trivial rfl (And.intro (And.intro rfl rfl) (trivial)) ?_
        refine WD_all [10] (n := 1) (by kernel_rfl) rfl ?_
        refine WM_op (φ := ((x1.length : Nat) : Int) = (x1.length : Int) ∧ ∀ x ∈ x1, 0 ≤ x ∧ x ≤ 255) (v := S (bytesOf x1)) (H' := [.cells [.sp 0 63, .bsl 1 x1.length], .dead]) rfl rfl (by kernel_rfl) hg5 rfl (And.intro (And.intro rfl rfl) (trivial)) ?_
        refine WD_takeK [11] [2] [2] (φ := True) (ls' := #[true, true, true, true, true, true, true, true, true, true, true, true]) (Ts' := [(2, S (bytesOf x1))]) (st' := ⟨[(2, S (bytesOf x1))], [.cells [.sp 0 63, .bsl 1 x1.length], .dead]⟩) (n2 := 0) (by kernel_rfl) trivial rfl ?_
        exact WD_done [0, 1] [2] (st' := ⟨[(2, S (bytesOf x1))], [.cells [.sp 0 63, .bsl 1 x1.length], .dead]⟩) (by kernel_rfl) (by kernel_rfl) (And.intro rfl rfl)
      · refine WM_op (φ := True) (v := .one (.e (.bsl 1 x1.length))) (H' := [.cells [.sp 0 63, .bsl 1 x1.length], .row .u8 x1 true]) rfl rfl (by kernel_rfl) trivial rfl (And.intro (And.intro rfl rfl) (trivial)) ?_
        refine WD_all [4, 9] (n := 3) (by kernel_rfl) rfl (And.intro ?_ (?_))
        · refine WM_op (φ := True) (v := .one (.e (.sd 1))) (H' := [.cells [.sp 0 63, .bsl 1 x1.length], .row .u8 x1 true]) rfl rfl (by kernel_rfl) trivial rfl (And.intro (And.intro rfl rfl) (trivial)) ?_
          refine WD_all [9] (n := 2) (by kernel_rfl) rfl ?_
          refine WM_op (φ := True) (v := I ((x1.length : Nat) : Int)) (H' := [.cells [.sp 0 63, .bsl 1 x1.length], .row .u8 x1 true]) rfl rfl (by kernel_rfl) trivial rfl (And.intro (And.intro rfl rfl) (trivial)) ?_
          refine WD_all [10] (n := 1) (by kernel_rfl) rfl ?_
          refine WM_op (φ := ((x1.length : Nat) : Int) = (x1.length : Int) ∧ ∀ x ∈ x1, 0 ≤ x ∧ x ≤ 255) (v := S (bytesOf x1)) (H' := [.cells [.sp 0 63, .bsl 1 x1.length], .dead]) rfl rfl (by kernel_rfl) hg5 rfl (And.intro (And.intro rfl rfl) (trivial)) ?_
          refine WD_takeK [11] [2] [2] (φ := True) (ls' := #[true, true, true, true, true, true, true, true, true, true, true, true]) (Ts' := [(2, S (bytesOf x1))]) (st' := ⟨[(2, S (bytesOf x1))], [.cells [.sp 0 63, .bsl 1 x1.length], .dead]⟩) (n2 := 0) (by kernel_rfl) trivial rfl ?_
          exact WD_done [0, 1] [2] (st' := ⟨[(2, S (bytesOf x1))], [.cells [.sp 0 63, .bsl 1 x1.length], .dead]⟩) (by kernel_rfl) (by kernel_rfl) (And.intro rfl rfl)
        · refine WM_op (φ := True) (v := I ((x1.length : Nat) : Int)) (H' := [.cells [.sp 0 63, .bsl 1 x1.length], .row .u8 x1 true]) rfl rfl (by kernel_rfl) trivial rfl (And.intro (And.intro rfl rfl) (trivial)) ?_
          refine WD_all [4] (n := 2) (by kernel_rfl) rfl ?_
          refine WM_op (φ := True) (v := .one (.e (.sd 1))) (H' := [.cells [.sp 0 63, .bsl 1 x1.length], .row .u8 x1 true]) rfl rfl (by kernel_rfl) trivial rfl (And.intro (And.intro rfl rfl) (trivial)) ?_
          refine WD_all [10] (n := 1) (by kernel_rfl) rfl ?_
          refine WM_op (φ := ((x1.length : Nat) : Int) = (x1.length : Int) ∧ ∀ x ∈ x1, 0 ≤ x ∧ x ≤ 255) (v := S (bytesOf x1)) (H' := [.cells [.sp 0 63, .bsl 1 x1.length], .dead]) rfl rfl (by kernel_rfl) hg5 rfl (And.intro (And.intro rfl rfl) (trivial)) ?_
          refine WD_takeK [11] [2] [2] (φ := True) (ls' := #[true, true, true, true, true, true, true, true, true, true, true, true]) (Ts' := [(2, S (bytesOf x1))]) (st' := ⟨[(2, S (bytesOf x1))], [.cells [.sp 0 63, .bsl 1 x1.length], .dead]⟩) (n2 := 0) (by kernel_rfl) trivial rfl ?_
          exact WD_done [0, 1] [2] (st' := ⟨[(2, S (bytesOf x1))], [.cells [.sp 0 63, .bsl 1 x1.length], .dead]⟩) (by kernel_rfl) (by kernel_rfl) (And.intro rfl rfl)
    · refine WM_op (φ := True) (v := .one (.e (.bsl 1 x1.length))) (H' := [.cells [.sp 0 63, .bsl 1 x1.length], .row .u8 x1 true]) rfl rfl (by kernel_rfl) trivial rfl (And.intro (And.intro rfl rfl) (trivial)) ?_
      refine WD_all [3, 9] (n := 4) (by kernel_rfl) rfl (And.intro ?_ (?_))
      · refine WM_op (φ := True) (v := .one (.e (.bsl 1 x1.length))) (H' := [.cells [.sp 0 63, .bsl 1 x1.length], .row .u8 x1 true]) rfl rfl (by kernel_rfl) trivial rfl (And.intro (And.intro rfl rfl) (trivial)) ?_
        refine WD_all [4, 9] (n := 3) (by kernel_rfl) rfl (And.intro ?_ (?_))
        · refine WM_op (φ := True) (v := .one (.e (.sd 1))) (H' := [.cells [.sp 0 63, .bsl 1 x1.length], .row .u8 x1 true]) rfl rfl (by kernel_rfl) trivial rfl (And.intro (And.intro rfl rfl) (trivial)) ?_
          refine WD_all [9] (n := 2) (by kernel_rfl) rfl ?_
          refine WM_op (φ := True) (v := I ((x1.length : Nat) : Int)) (H' := [.cells [.sp 0 63, .bsl 1 x1.length], .row .u8 x1 true]) rfl rfl (by kernel_rfl) trivial rfl (And.intro (And.intro rfl rfl) (trivial)) ?_
          refine WD_all [10] (n := 1) (by kernel_rfl) rfl ?_
          refine WM_op (φ := ((x1.length : Nat) : Int) = (x1.length : Int) ∧ ∀ x ∈ x1, 0 ≤ x ∧ x ≤ 255) (v := S (bytesOf x1)) (H' := [.cells [.sp 0 63, .bsl 1 x1.length], .dead]) rfl rfl (by kernel_rfl) hg5 rfl (And.intro (And.intro rfl rfl) (trivial)) ?_
          refine WD_takeK [11] [2] [2] (φ := True) (ls' := #[true, true, true, true, true, true, true, true, true, true, true, true]) (Ts' := [(2, S (bytesOf x1))]) (st' := ⟨[(2, S (bytesOf x1))], [.cells [.sp 0 63, .bsl 1 x1.length], .dead]⟩) (n2 := 0) (by kernel_rfl) trivial rfl ?_
          exact WD_done [0, 1] [2] (st' := ⟨[(2, S (bytesOf x1))], [.cells [.sp 0 63, .bsl 1 x1.length], .dead]⟩) (by kernel_rfl) (by kernel_rfl) (And.intro rfl rfl)
        · refine WM_op (φ := True) (v := I ((x1.length : Nat) : Int)) (H' := [.cells [.sp 0 63, .bsl 1 x1.length], .row .u8 x1 true]) rfl rfl (by kernel_rfl) trivial rfl (And.intro (And.intro rfl rfl) (trivial)) ?_
          refine WD_all [4] (n := 2) (by kernel_rfl) rfl ?_
          refine WM_op (φ := True) (v := .one (.e (.sd 1))) (H' := [.cells [.sp 0 63, .bsl 1 x1.length], .row .u8 x1 true]) rfl rfl (by kernel_rfl) trivial rfl (And.intro (And.intro rfl rfl) (trivial)) ?_
          refine WD_all [10] (n := 1) (by kernel_rfl) rfl ?_
          refine WM_op (φ := ((x1.length : Nat) : Int) = (x1.length : Int) ∧ ∀ x ∈ x1, 0 ≤ x ∧ x ≤ 255) (v := S (bytesOf x1)) (H' := [.cells [.sp 0 63, .bsl 1 x1.length], .dead]) rfl rfl (by kernel_rfl) hg5 rfl (And.intro (And.intro rfl rfl) (trivial)) ?_
          refine WD_takeK [11] [2] [2] (φ := True) (ls' := #[true, true, true, true, true, true, true, true, true, true, true, true]) (Ts' := [(2, S (bytesOf x1))]) (st' := ⟨[(2, S (bytesOf x1))], [.cells [.sp 0 63, .bsl 1 x1.length], .dead]⟩) (n2 := 0) (by kernel_rfl) trivial rfl ?_
          exact WD_done [0, 1] [2] (st' := ⟨[(2, S (bytesOf x1))], [.cells [.sp 0 63, .bsl 1 x1.length], .dead]⟩) (by kernel_rfl) (by kernel_rfl) (And.intro rfl rfl)
      · refine WM_op (φ := True) (v := I ((x1.length : Nat) : Int)) (H' := [.cells [.sp 0 63, .bsl 1 x1.length], .row .u8 x1 true]) rfl rfl (by kernel_rfl) trivial rfl (And.intro (And.intro rfl rfl) (trivial)) ?_
        refine WD_all [3] (n := 3) (by kernel_rfl) rfl ?_
        refine WM_op (φ := True) (v := .one (.e (.bsl 1 x1.length))) (H' := [.cells [.sp 0 63, .bsl 1 x1.length], .row .u8 x1 true]) rfl rfl (by kernel_rfl) trivial rfl (And.intro (And.intro rfl rfl) (trivial)) ?_
        refine WD_all [4] (n := 2) (by kernel_rfl) rfl ?_
        refine WM_op (φ := True) (v := .one (.e (.sd 1))) (H' := [.cells [.sp 0 63, .bsl 1 x1.length], .row .u8 x1 true]) rfl rfl (by kernel_rfl) trivial rfl (And.intro (And.intro rfl rfl) (trivial)) ?_
        refine WD_all [10] (n := 1) (by kernel_rfl) rfl ?_
        refine WM_op (φ := ((x1.length : Nat) : Int) = (x1.length : Int) ∧ ∀ x ∈ x1, 0 ≤ x ∧ x ≤ 255) (v := S (bytesOf x1)) (H' := [.cells [.sp 0 63, .bsl 1 x1.length], .dead]) rfl rfl (by kernel_rfl) hg5 rfl (And.intro (And.intro rfl rfl) (trivial)) ?_
        refine WD_takeK [11] [2] [2] (φ := True) (ls' := #[true, true, true, true, true, true, true, true, true, true, true, true]) (Ts' := [(2, S (bytesOf x1))]) (st' := ⟨[(2, S (bytesOf x1))], [.cells [.sp 0 63, .bsl 1 x1.length], .dead]⟩) (n2 := 0) (by kernel_rfl) trivial rfl ?_
        exact WD_done [0, 1] [2] (st' := ⟨[(2, S (bytesOf x1))], [.cells [.sp 0 63, .bsl 1 x1.length], .dead]⟩) (by kernel_rfl) (by kernel_rfl) (And.intro rfl rfl)
  · rintro _ _ ⟨rfl, rfl⟩
    refine thenS_n ?_
    refine W_ret ?_
    cases h
    exact ⟨[0, 1], True, by kernel_rfl, trivial⟩

/- impl.PathText -/
def impl_PathText_L1 (x1 : List Nod) (x81 : List Int) : Nat → (List Int) → Int → Option ((List Int))
| 0, _, _ => none
| n + 1, x112, i113 =>
 iteO (decide (i113 < (((x81.length - 1) : Nat) : Int)))
 (guardO (0 ≤ i113 ∧ i113 < (((x81.length - 1) : Nat) : Int)) <|
 bindO (strings_Builder_WriteByte x112 47) fun x147 =>
 guardO (0 ≤ (x81.getD (1 + i113.toNat) 0) ∧ (x81.getD (1 + i113.toNat) 0) < ((x1.length : Nat) : Int)) <|
 bindO (strings_Builder_WriteString x147 ((x1.getD ((x81.getD (1 + i113.toNat) 0).toNat) dnod).name)) fun (x150, i151) =>
 impl_PathText_L1 x1 x81 n x150 (w64 (i113 + 1)))
 (some x112)

theorem impl_PathText_L1_ok (w : World) (X : Nat → Prop) (θ : List Loc) (x1 : List Nod) (x81 : List Int) (x134 : (List Int)) : ∀ (n : Nat) (x112 : List Int) (i113 : Int), impl_PathText_L1 x1 x81 n x112 i113 = some x134 → WL EE ⟨w, X, θ, 34, 1⟩ (subC [1, 1, 1, 1, 1, 0, 1, 4, 4] (bodyC Try.f15)) (fun (e : Exit) (s : St) => e = .exit 0 ∧ s = ⟨[(6, .one (.e (.p 1 0)))], [.row .nod x1 false, .cells [.sp 1 63, .bsl 2 x134.length], .row .u8 x134 true]⟩) ⟨[(0, .one (.e (.sl 0 0 x1.length))), (6, .one (.e (.p 1 0))), (19, .one (.e (.sl 2 1 (x81.length - 1)))), (20, I (((x81.length - 1) : Nat) : Int)), (21, I i113)], [.row .nod x1 false, .cells [.sp 1 63, .bsl 3 x112.length], .row .int x81 true, .row .u8 x112 true]⟩ := by
  intro n
  induction n with
  | zero => intro _ _ h; exact none_e h
  | succ n ih =>
    intro x112 i113 h
    rw [impl_PathText_L1] at h
    refine WL_round ?_
    refine W_seq ?_
    refine W_region ?_
    refine WO_step 1 [0, 1, 2, 3] [0, 6, 19, 20, 21, 22] (True ∧ True) ⟨[(0, .one (.e (.sl 0 0 x1.length))), (6, .one (.e (.p 1 0))), (19, .one (.e (.sl 2 1 (x81.length - 1)))), (20, I (((x81.length - 1) : Nat) : Int)), (21, I i113), (22, B (decide (i113 < (((x81.length - 1) : Nat) : Int))))], [.row .nod x1 false, .cells [.sp 1 63, .bsl 3 x112.length], .row .int x81 true, .row .u8 x112 true]⟩ (by kernel_rfl) ⟨trivial, trivial⟩ ?_
    refine WO_nil rfl ?_
    refine thenS_n ?_
    refine W_seq ?_
    refine iteO_e h (fun hb137 h => W_true rfl hb137 ?_) (fun hb137 h => W_false rfl hb137 ?_)
    · refine W_sub [0, 1, 2, 3] [0, 6, 19, 20, 21] (st' := ⟨[(0, .one (.e (.sl 0 0 x1.length))), (6, .one (.e (.p 1 0))), (19, .one (.e (.sl 2 1 (x81.length - 1)))), (20, I (((x81.length - 1) : Nat) : Int)), (21, I i113)], [.row .nod x1 false, .cells [.sp 1 63, .bsl 3 x112.length], .row .int x81 true, .row .u8 x112 true]⟩) (by kernel_rfl) ?_
      refine W_skip ?_
      refine thenS_n ?_
      refine W_seq ?_
      refine W_block ?_
      refine W_seq ?_
      refine W_region ?_
      refine guardO_e h (fun hg146 h => ?_)
      refine WO_step 3 [0, 1, 2, 3] [0, 6, 8, 19, 20, 21] ((0 ≤ i113 ∧ i113 < (((x81.length - 1) : Nat) : Int)) ∧ (True ∧ True)) ⟨[(0, .one (.e (.sl 0 0 x1.length))), (6, .one (.e (.p 1 0))), (8, I (x81.getD (1 + i113.toNat) 0)), (19, .one (.e (.sl 2 1 (x81.length - 1)))), (20, I (((x81.length - 1) : Nat) : Int)), (21, I i113)], [.row .nod x1 false, .cells [.sp 1 63, .bsl 3 x112.length], .row .int x81 true, .row .u8 x112 true]⟩ (by kernel_rfl) ⟨hg146, trivial, trivial⟩ ?_
      refine WO_nil rfl ?_
      refine thenS_n ?_
      refine W_seq ?_
      refine W_region ?_
      refine bindO_e h (fun x147 hc148 h => ?_)
      refine WO_call [.own 1, .own 3] Try.f32 rfl rfl rfl (by kernel_rfl) Try.func32 rfl (by kernel_rfl) (strings_Builder_WriteByte_ok x112 47 x147 hc148) (And.intro (trivial) (And.intro (trivial) (trivial))) rfl ?_
      refine WO_sub [0, 1, 2, 4] [0, 6, 8, 19, 20, 21] (st' := ⟨[(0, .one (.e (.sl 0 0 x1.length))), (6, .one (.e (.p 1 0))), (8, I (x81.getD (1 + i113.toNat) 0)), (19, .one (.e (.sl 2 1 (x81.length - 1)))), (20, I (((x81.length - 1) : Nat) : Int)), (21, I i113)], [.row .nod x1 false, .cells [.sp 1 63, .bsl 3 x147.length], .row .int x81 true, .row .u8 x147 true]⟩) (by kernel_rfl) ?_
      refine WO_nil rfl ?_
      refine thenS_n ?_
      refine W_region ?_
      refine guardO_e h (fun hg149 h => ?_)
      refine WO_step 5 [0, 1, 2, 3] [0, 6, 19, 20, 21, 30] ((0 ≤ (x81.getD (1 + i113.toNat) 0) ∧ (x81.getD (1 + i113.toNat) 0) < ((x1.length : Nat) : Int)) ∧ (True ∧ True)) ⟨[(0, .one (.e (.sl 0 0 x1.length))), (6, .one (.e (.p 1 0))), (19, .one (.e (.sl 2 1 (x81.length - 1)))), (20, I (((x81.length - 1) : Nat) : Int)), (21, I i113), (30, S ((x1.getD ((x81.getD (1 + i113.toNat) 0).toNat) dnod).name))], [.row .nod x1 false, .cells [.sp 1 63, .bsl 3 x147.length], .row .int x81 true, .row .u8 x147 true]⟩ (by kernel_rfl) ⟨hg149, trivial, trivial⟩ ?_
      refine bindO_e h (fun v153 hc152 h => ?_)
      obtain ⟨x150, i151⟩ := v153
      refine WO_call [.own 1, .own 3] Try.f33 rfl rfl rfl (by kernel_rfl) Try.func33 rfl (by kernel_rfl) (strings_Builder_WriteString_ok x147 ((x1.getD ((x81.getD (1 + i113.toNat) 0).toNat) dnod).name) x150 i151 hc152) (And.intro (trivial) (And.intro (trivial) (trivial))) rfl ?_
      refine WO_sub [0, 1, 2, 4] [0, 6, 19, 20, 21] (st' := ⟨[(0, .one (.e (.sl 0 0 x1.length))), (6, .one (.e (.p 1 0))), (19, .one (.e (.sl 2 1 (x81.length - 1)))), (20, I (((x81.length - 1) : Nat) : Int)), (21, I i113)], [.row .nod x1 false, .cells [.sp 1 63, .bsl 3 x150.length], .row .int x81 true, .row .u8 x150 true]⟩) (by kernel_rfl) ?_
      refine WO_nil rfl ?_
      refine blockS_n ?_
      refine thenS_n ?_
      refine W_region ?_
      refine WO_step 2 [0, 1, 2, 3] [0, 6, 19, 20, 21] (True ∧ True) ⟨[(0, .one (.e (.sl 0 0 x1.length))), (6, .one (.e (.p 1 0))), (19, .one (.e (.sl 2 1 (x81.length - 1)))), (20, I (((x81.length - 1) : Nat) : Int)), (21, I (w64 (i113 + 1)))], [.row .nod x1 false, .cells [.sp 1 63, .bsl 3 x150.length], .row .int x81 true, .row .u8 x150 true]⟩ (by kernel_rfl) ⟨trivial, trivial⟩ ?_
      refine WO_nil rfl ?_
      refine thenS_n ?_
      exact ih _ _ h
    · refine W_sub [0, 1, 3] [6] (st' := ⟨[(6, .one (.e (.p 1 0)))], [.row .nod x1 false, .cells [.sp 1 63, .bsl 2 x112.length], .row .u8 x112 true]⟩) (by kernel_rfl) ?_
      refine W_exit ?_
      refine thenS_e ?_
      refine thenS_e ?_
      cases h
      exact And.intro rfl rfl

def impl_PathText (n : Nat) (x1 : List Nod) (i2 : Int) : Option (Str) :=
 bindO (impl_PathTo n x1 i2) fun x81 =>
 iteO (decide (((x81.length : Nat) : Int) = 0))
 (some [])
 (iteO (decide (((x81.length : Nat) : Int) = 1))
 (some [47])
 (guardO (0 ≤ (1 : Int) ∧ (1 : Int) ≤ ((x81.length : Nat) : Int)) <|
 bindO (impl_PathText_L1 x1 x81 n ([] : List Int) 0) fun x134 =>
 bindO (strings_Builder_String x134) fun (k155, s156) =>
 some s156))

theorem impl_PathText_ok (n : Nat) (x1 : List Nod) (i2 : Int) (s80 : Str) (h : impl_PathText n x1 i2 = some s80) : FOk EE 15 [.one (.e (.sl 0 0 x1.length)), I i2] [.row .nod x1 false] (S s80) [.row .nod x1 false] := by
  unfold impl_PathText at h
  refine FOk_of_W 34 1 Try.func15 rfl rfl (Nat.le_of_ble_eq_true rfl) rfl (fun w X θ => ?_)
  refine W_seq ?_
  refine W_region ?_
  refine WO_step 1 [0] [0, 1] True ⟨[(0, .one (.e (.sl 0 0 x1.length))), (1, I i2)], [.row .nod x1 false]⟩ (by kernel_rfl) trivial ?_
  refine WO_nil rfl ?_
  refine thenS_n ?_
  refine W_seq ?_
  refine W_region ?_
  refine WO_step 2 [0] [0, 9, 10] True ⟨[(0, .one (.e (.sl 0 0 x1.length))), (9, .one (.e (.sl 0 0 x1.length))), (10, I i2)], [.row .nod x1 false]⟩ (by kernel_rfl) trivial ?_
  refine bindO_e h (fun x81 hc82 h => ?_)
  refine WO_call [.ro 0] Try.f31 rfl rfl rfl (by kernel_rfl) Try.func31 rfl (by kernel_rfl) (impl_PathTo_ok n x1 i2 x81 hc82) (And.intro (And.intro rfl rfl) (trivial)) rfl ?_
  refine WO_step 1 [0, 1] [0, 5] True ⟨[(0, .one (.e (.sl 0 0 x1.length))), (5, .one (.e (.sl 1 0 x81.length)))], [.row .nod x1 false, .row .int x81 true]⟩ (by kernel_rfl) trivial ?_
  refine WO_nil rfl ?_
  refine thenS_n ?_
  refine W_seq ?_
  refine W_seq ?_
  refine W_region ?_
  refine WO_step 3 [0, 1] [0, 5, 14] (True ∧ (True ∧ True)) ⟨[(0, .one (.e (.sl 0 0 x1.length))), (5, .one (.e (.sl 1 0 x81.length))), (14, B (decide (((x81.length : Nat) : Int) = 0)))], [.row .nod x1 false, .row .int x81 true]⟩ (by kernel_rfl) ⟨trivial, trivial, trivial⟩ ?_
  refine WO_nil rfl ?_
  refine thenS_n ?_
  refine iteO_e h (fun hb84 h => W_true rfl hb84 ?_) (fun hb84 h => W_false rfl hb84 ?_)
  · refine W_seq ?_
    refine W_region ?_
    refine WO_step 1 [0] [4] True ⟨[(4, S [])], [.row .nod x1 false]⟩ (by kernel_rfl) trivial ?_
    refine WO_nil rfl ?_
    refine thenS_n ?_
    refine W_ret ?_
    refine thenS_r ?_
    cases h
    exact ⟨[0], True, by kernel_rfl, trivial⟩
  · refine W_sub [0, 1] [0, 5] (st' := ⟨[(0, .one (.e (.sl 0 0 x1.length))), (5, .one (.e (.sl 1 0 x81.length)))], [.row .nod x1 false, .row .int x81 true]⟩) (by kernel_rfl) ?_
    refine W_skip ?_
    refine thenS_n ?_
    refine W_seq ?_
    refine W_seq ?_
    refine W_region ?_
    refine WO_step 3 [0, 1] [0, 5, 17] (True ∧ (True ∧ True)) ⟨[(0, .one (.e (.sl 0 0 x1.length))), (5, .one (.e (.sl 1 0 x81.length))), (17, B (decide (((x81.length : Nat) : Int) = 1)))], [.row .nod x1 false, .row .int x81 true]⟩ (by kernel_rfl) ⟨trivial, trivial, trivial⟩ ?_
    refine WO_nil rfl ?_
    refine thenS_n ?_
    refine iteO_e h (fun hb86 h => W_true rfl hb86 ?_) (fun hb86 h => W_false rfl hb86 ?_)
    · refine W_seq ?_
      refine W_region ?_
      refine WO_step 1 [0] [4] True ⟨[(4, S [47])], [.row .nod x1 false]⟩ (by kernel_rfl) trivial ?_
      refine WO_nil rfl ?_
      refine thenS_n ?_
      refine W_ret ?_
      refine thenS_r ?_
      cases h
      exact ⟨[0], True, by kernel_rfl, trivial⟩
    · refine W_sub [0, 1] [0, 5] (st' := ⟨[(0, .one (.e (.sl 0 0 x1.length))), (5, .one (.e (.sl 1 0 x81.length)))], [.row .nod x1 false, .row .int x81 true]⟩) (by kernel_rfl) ?_
      refine W_skip ?_
      refine thenS_n ?_
      refine W_seq ?_
      refine W_region ?_
      refine WO_step 1 [0, 1, 2] [0, 5, 6] (True ∧ True) ⟨[(0, .one (.e (.sl 0 0 x1.length))), (5, .one (.e (.sl 1 0 x81.length))), (6, .one (.e (.p 2 0)))], [.row .nod x1 false, .row .int x81 true, .cells [.sp 2 63, .nsl]]⟩ (by kernel_rfl) ⟨trivial, trivial⟩ ?_
      refine WO_bld 2 rfl ?_
      refine WO_nil rfl ?_
      refine thenS_n ?_
      refine W_seq ?_
      refine W_seq ?_
      refine W_region ?_
      refine guardO_e h (fun hg87 h => ?_)
      refine WO_step 4 [0, 2, 1, 3] [0, 6, 19, 20, 21] ((0 ≤ (1 : Int) ∧ (1 : Int) ≤ ((x81.length : Nat) : Int)) ∧ (True ∧ True)) ⟨[(0, .one (.e (.sl 0 0 x1.length))), (6, .one (.e (.p 1 0))), (19, .one (.e (.sl 2 1 (x81.length - 1)))), (20, I (((x81.length - 1) : Nat) : Int)), (21, I 0)], [.row .nod x1 false, .cells [.sp 1 63, .bsl 3 (([] : List Int).length)], .row .int x81 true, .row .u8 ([] : List Int) true]⟩ (by kernel_rfl) ⟨hg87, trivial, trivial⟩ ?_
      refine WO_nil rfl ?_
      refine thenS_n ?_
      refine W_block ?_
      refine W_loop ?_
      refine bindO_e h (fun x134 hx134 h => ?_)
      refine WL_cut (impl_PathText_L1_ok w X θ x1 x81 x134 n ([] : List Int) 0 hx134) ?_
      rintro _ _ ⟨rfl, rfl⟩
      refine blockS_y ?_
      refine thenS_n ?_
      refine W_seq ?_
      refine W_region ?_
      refine bindO_e h (fun v158 hc157 h => ?_)
      obtain ⟨k155, s156⟩ := v158
      refine WO_call [.own 1, .own 2] Try.f34 rfl rfl rfl (by kernel_rfl) Try.func34 rfl (by kernel_rfl) (strings_Builder_String_ok x134 k155 s156 hc157) (And.intro (trivial) (And.intro (trivial) (trivial))) rfl ?_
      refine WO_step 1 [0] [4] True ⟨[(4, S s156)], [.row .nod x1 false]⟩ (by kernel_rfl) trivial ?_
      refine WO_nil rfl ?_
      refine thenS_n ?_
      refine W_ret ?_
      cases h
      exact ⟨[0], True, by kernel_rfl, trivial⟩

/- stringslite.HasPrefix -/
def stringslite_HasPrefix (s1 : Str) (s2 : Str) : Option (Bool) :=
 bindO (iteO (decide (((s2.length : Nat) : Int) ≤ ((s1.length : Nat) : Int)))
 (guardO (0 ≤ ((s2.length : Nat) : Int) ∧ ((s2.length : Nat) : Int) ≤ ((s1.length : Nat) : Int)) <|
 some (decide ((s1.take (((s2.length : Nat) : Int).toNat)) = s2)))
 (some false)) fun b12 =>
 some b12

theorem stringslite_HasPrefix_ok (s1 : Str) (s2 : Str) (b9 : Bool) (h : stringslite_HasPrefix s1 s2 = some b9) : FOk EE 60 [S s1, S s2] [] (B b9) [] := by
  unfold stringslite_HasPrefix at h
  refine FOk_of_W 18 0 Try.func60 rfl rfl (Nat.le_of_ble_eq_true rfl) rfl (fun w X θ => ?_)
  refine W_seq ?_
  refine W_region ?_
  refine WO_step 1 [] [0, 1] True ⟨[(0, S s1), (1, S s2)], []⟩ (by kernel_rfl) trivial ?_
  refine WO_nil rfl ?_
  refine thenS_n ?_
  refine W_seq ?_
  refine W_region ?_
  refine WO_step 6 [] [0, 1, 10] (True ∧ (True ∧ (True ∧ True))) ⟨[(0, S s1), (1, S s2), (10, B (decide (((s2.length : Nat) : Int) ≤ ((s1.length : Nat) : Int))))], []⟩ (by kernel_rfl) ⟨trivial, trivial, trivial, trivial⟩ ?_
  refine bindO_e h (fun b12 hv13 h => ?_)
  refine WO_thru ⟨[(4, B b12)], []⟩ ?_ ?_
  · refine iteO_e hv13 (fun hb14 hv13 => WO_known 10 true rfl hb14 ?_) (fun hb14 hv13 => WO_known 10 false rfl hb14 ?_)
    · refine guardO_e hv13 (fun hg15 hv13 => ?_)
      refine WO_step 8 [] [4] (True ∧ ((0 ≤ ((s2.length : Nat) : Int) ∧ ((s2.length : Nat) : Int) ≤ ((s1.length : Nat) : Int)) ∧ (True ∧ True))) ⟨[(4, B (decide ((s1.take (((s2.length : Nat) : Int).toNat)) = s2)))], []⟩ (by kernel_rfl) ⟨trivial, hg15, trivial, trivial⟩ ?_
      cases hv13
      exact WO_nil rfl ⟨rfl, rfl⟩
    · refine WO_step 8 [] [4] True ⟨[(4, B false)], []⟩ (by kernel_rfl) trivial ?_
      cases hv13
      exact WO_nil rfl ⟨rfl, rfl⟩
  · refine thenS_n ?_
    refine W_ret ?_
    cases h
    exact ⟨[], True, by kernel_rfl, trivial⟩

/- stringslite.CutPrefix -/
def stringslite_CutPrefix (s1 : Str) (s2 : Str) : Option (Str × Bool) :=
 bindO (stringslite_HasPrefix s1 s2) fun b10 =>
 iteO (!b10)
 (some (s1, false))
 (guardO (0 ≤ ((s2.length : Nat) : Int) ∧ ((s2.length : Nat) : Int) ≤ ((s1.length : Nat) : Int)) <|
 some ((s1.drop (((s2.length : Nat) : Int).toNat)), true))

theorem stringslite_CutPrefix_ok (s1 : Str) (s2 : Str) (s8 : Str) (b9 : Bool) (h : stringslite_CutPrefix s1 s2 = some (s8, b9)) : FOk EE 44 [S s1, S s2] [] (.tup [.e (cS s8), .e (cB b9)]) [] := by
  unfold stringslite_CutPrefix at h
  refine FOk_of_W 15 0 Try.func44 rfl rfl (Nat.le_of_ble_eq_true rfl) rfl (fun w X θ => ?_)
  refine W_seq ?_
  refine W_region ?_
  refine WO_step 2 [] [0, 1] True ⟨[(0, S s1), (1, S s2)], []⟩ (by kernel_rfl) trivial ?_
  refine WO_nil rfl ?_
  refine thenS_n ?_
  refine W_seq ?_
  refine W_seq ?_
  refine W_region ?_
  refine WO_step 2 [] [0, 1, 6, 7] True ⟨[(0, S s1), (1, S s2), (6, S s1), (7, S s2)], []⟩ (by kernel_rfl) trivial ?_
  refine bindO_e h (fun b10 hc11 h => ?_)
  refine WO_call [] Try.f60 rfl rfl rfl (by kernel_rfl) Try.func60 rfl (by kernel_rfl) (stringslite_HasPrefix_ok s1 s2 b10 hc11) (trivial) rfl ?_
  refine WO_step 1 [] [0, 1, 9] True ⟨[(0, S s1), (1, S s2), (9, B (!b10))], []⟩ (by kernel_rfl) trivial ?_
  refine WO_nil rfl ?_
  refine thenS_n ?_
  refine iteO_e h (fun hb13 h => W_true rfl hb13 ?_) (fun hb13 h => W_false rfl hb13 ?_)
  · refine W_seq ?_
    refine W_region ?_
    refine WO_step 3 [] [4, 5] True ⟨[(4, S s1), (5, B false)], []⟩ (by kernel_rfl) trivial ?_
    refine WO_nil rfl ?_
    refine thenS_n ?_
    refine W_ret ?_
    refine thenS_r ?_
    cases h
    exact ⟨[], True, by kernel_rfl, trivial⟩
  · refine W_sub [] [0, 1] (st' := ⟨[(0, S s1), (1, S s2)], []⟩) (by kernel_rfl) ?_
    refine W_skip ?_
    refine thenS_n ?_
    refine W_seq ?_
    refine W_region ?_
    refine guardO_e h (fun hg14 h => ?_)
    refine WO_step 6 [] [4, 5] (True ∧ ((0 ≤ ((s2.length : Nat) : Int) ∧ ((s2.length : Nat) : Int) ≤ ((s1.length : Nat) : Int)) ∧ True)) ⟨[(4, S (s1.drop (((s2.length : Nat) : Int).toNat))), (5, B true)], []⟩ (by kernel_rfl) ⟨trivial, hg14, trivial⟩ ?_
    refine WO_nil rfl ?_
    refine thenS_n ?_
    refine W_ret ?_
    cases h
    exact ⟨[], True, by kernel_rfl, trivial⟩

/- strings.CutPrefix -/
def strings_CutPrefix (s1 : Str) (s2 : Str) : Option (Str × Bool) :=
 bindO (stringslite_CutPrefix s1 s2) fun (s9, b10) =>
 some (s9, b10)

theorem strings_CutPrefix_ok (s1 : Str) (s2 : Str) (s7 : Str) (b8 : Bool) (h : strings_CutPrefix s1 s2 = some (s7, b8)) : FOk EE 29 [S s1, S s2] [] (.tup [.e (cS s7), .e (cB b8)]) [] := by
  unfold strings_CutPrefix at h
  refine FOk_of_W 11 0 Try.func29 rfl rfl (Nat.le_of_ble_eq_true rfl) rfl (fun w X θ => ?_)
  refine W_seq ?_
  refine W_region ?_
  refine WO_step 2 [] [0, 1] True ⟨[(0, S s1), (1, S s2)], []⟩ (by kernel_rfl) trivial ?_
  refine WO_nil rfl ?_
  refine thenS_n ?_
  refine W_seq ?_
  refine W_region ?_
  refine WO_step 2 [] [6, 7] True ⟨[(6, S s1), (7, S s2)], []⟩ (by kernel_rfl) trivial ?_
  refine bindO_e h (fun v12 hc11 h => ?_)
  obtain ⟨s9, b10⟩ := v12
  refine WO_call [] Try.f44 rfl rfl rfl (by kernel_rfl) Try.func44 rfl (by kernel_rfl) (stringslite_CutPrefix_ok s1 s2 s9 b10 hc11) (trivial) rfl ?_
  refine WO_step 4 [] [4, 5] True ⟨[(4, S s9), (5, B b10)], []⟩ (by kernel_rfl) trivial ?_
  refine WO_nil rfl ?_
  refine thenS_n ?_
  refine W_ret ?_
  cases h
  exact ⟨[], True, by kernel_rfl, trivial⟩

/- stringslite.IndexByte -/
def lays217R : Shelf.Ren := ⟨fun n => match n with | 217 => 64 | 266 => 69 | _ => 0, fun n => match n with | 3 => 3 | 5 => 5 | 9 => 9 | _ => 0, fun n => n⟩
set_option maxRecDepth 100000 in
theorem lays217 : Lays.n217 Try.prog lays217R := {
  mixed := by kernel_rfl
  f217 := by kernel_rfl
  f266 := by kernel_rfl
  t3 := Try.underlying3
  a3 := Try.isAgg3
  z3 := Try.sizeOf3
  v3 := Try.zeroValue3
  t5 := Try.underlying5
  a5 := Try.isAgg5
  z5 := Try.sizeOf5
  v5 := Try.zeroValue5
  t9 := Try.underlying9
  a9 := Try.isAgg9
  z9 := Try.sizeOf9
  v9 := Try.zeroValue9 }
def stringslite_IndexByte (s1 : Str) (i2 : Int) : Int := Lib.indexByte s1 (UInt8.ofNat i2.toNat)
theorem stringslite_IndexByte_ok (s1 : Str) (i2 : Int) : FOk EE 64 [S s1, U i2] [] (I (stringslite_IndexByte s1 i2)) [] :=
  FOk_pure (args := [.str s1, .int .u8 i2]) (r := .int .i64 (Lib.indexByte s1 (UInt8.ofNat i2.toNat))) (fun w => Any.stringslite_IndexByte lays217 ⟨⟨s1⟩⟩ i2 w)

/- stringslite.Index -/
def stringslite_Index (s1 : Str) (s2 : Str) : Option (Int) :=
 iteO ((decide (((s2.length : Nat) : Int) = 0)) || (decide (s2 = s1)))
 (some 0)
 (iteO (decide (((s2.length : Nat) : Int) = 1))
 (guardO (0 ≤ (0 : Int) ∧ (0 : Int) < ((s2.length : Nat) : Int)) <|
 some (stringslite_IndexByte s1 ((s2.getD ((0 : Int).toNat) 0).toNat : Int)))
 (iteO (decide (((s1.length : Nat) : Int) ≤ ((s2.length : Nat) : Int)))
 (some (-1))
 (none)))

theorem stringslite_Index_ok (s1 : Str) (s2 : Str) (i45 : Int) (h : stringslite_Index s1 s2 = some i45) : FOk EE 61 [S s1, S s2] [] (I i45) [] := by
  unfold stringslite_Index at h
  refine FOk_of_W 143 0 Try.func61 rfl rfl (Nat.le_of_ble_eq_true rfl) rfl (fun w X θ => ?_)
  refine W_seq ?_
  refine W_region ?_
  refine WO_step 1 [] [0, 1] True ⟨[(0, S s1), (1, S s2)], []⟩ (by kernel_rfl) trivial ?_
  refine WO_nil rfl ?_
  refine thenS_n ?_
  refine W_seq ?_
  refine W_region ?_
  refine WO_step 3 [] [0, 1, 5] (True ∧ True) ⟨[(0, S s1), (1, S s2), (5, I ((s2.length : Nat) : Int))], []⟩ (by kernel_rfl) ⟨trivial, trivial⟩ ?_
  refine WO_nil rfl ?_
  refine thenS_n ?_
  refine W_seq ?_
  refine W_block ?_
  refine W_seq ?_
  refine W_region ?_
  refine WO_step 3 [] [0, 1, 5, 19] (True ∧ True) ⟨[(0, S s1), (1, S s2), (5, I ((s2.length : Nat) : Int)), (19, B (decide (((s2.length : Nat) : Int) = 0)))], []⟩ (by kernel_rfl) ⟨trivial, trivial⟩ ?_
  refine WO_thru ⟨[(0, S s1), (1, S s2), (5, I ((s2.length : Nat) : Int)), (16, B ((decide (((s2.length : Nat) : Int) = 0)) || (decide (s2 = s1))))], []⟩ ?_ ?_
  · refine WO_if 19 rfl (fun hb69 => ?_) (fun hb69 => ?_)
    · refine WO_step 5 [] [0, 1, 5, 16] True ⟨[(0, S s1), (1, S s2), (5, I ((s2.length : Nat) : Int)), (16, B true)], []⟩ (by kernel_rfl) trivial ?_
      exact WO_nil rfl ⟨rfl, by first | rfl | (rw [hb69]; first | done | rfl)⟩
    · refine WO_step 5 [] [0, 1, 5, 16] (True ∧ True) ⟨[(0, S s1), (1, S s2), (5, I ((s2.length : Nat) : Int)), (16, B (decide (s2 = s1)))], []⟩ (by kernel_rfl) ⟨trivial, trivial⟩ ?_
      exact WO_nil rfl ⟨rfl, by first | rfl | (rw [hb69]; first | done | rfl)⟩
  · refine thenS_n ?_
    refine iteO_e h (fun hb79 h => W_true rfl hb79 ?_) (fun hb79 h => W_false rfl hb79 ?_)
    · refine W_seq ?_
      refine W_region ?_
      refine WO_step 1 [] [4] True ⟨[(4, I 0)], []⟩ (by kernel_rfl) trivial ?_
      refine WO_nil rfl ?_
      refine thenS_n ?_
      refine W_ret ?_
      refine blockS_r ?_
      refine thenS_r ?_
      cases h
      exact ⟨[], True, by kernel_rfl, trivial⟩
    · refine W_seq ?_
      refine W_region ?_
      refine WO_step 3 [] [0, 1, 5, 24] (True ∧ True) ⟨[(0, S s1), (1, S s2), (5, I ((s2.length : Nat) : Int)), (24, B (decide (((s2.length : Nat) : Int) = 1)))], []⟩ (by kernel_rfl) ⟨trivial, trivial⟩ ?_
      refine WO_nil rfl ?_
      refine thenS_n ?_
      refine iteO_e h (fun hb84 h => W_true rfl hb84 ?_) (fun hb84 h => W_false rfl hb84 ?_)
      · refine W_seq ?_
        refine W_region ?_
        refine guardO_e h (fun hg85 h => ?_)
        refine WO_step 3 [] [27, 29] ((0 ≤ (0 : Int) ∧ (0 : Int) < ((s2.length : Nat) : Int)) ∧ True) ⟨[(27, S s1), (29, U ((s2.getD ((0 : Int).toNat) 0).toNat : Int))], []⟩ (by kernel_rfl) ⟨hg85, trivial⟩ ?_
        refine WO_call [] Try.f64 rfl rfl rfl (by kernel_rfl) Try.func64 rfl (by kernel_rfl) (stringslite_IndexByte_ok s1 ((s2.getD ((0 : Int).toNat) 0).toNat : Int)) (trivial) rfl ?_
        refine WO_step 1 [] [4] True ⟨[(4, I (stringslite_IndexByte s1 ((s2.getD ((0 : Int).toNat) 0).toNat : Int)))], []⟩ (by kernel_rfl) trivial ?_
        refine WO_nil rfl ?_
        refine thenS_n ?_
        refine W_ret ?_
        refine blockS_r ?_
        refine thenS_r ?_
        cases h
        exact ⟨[], True, by kernel_rfl, trivial⟩
      · refine W_seq ?_
        refine W_region ?_
        refine WO_step 5 [] [0, 1, 5, 31] (True ∧ (True ∧ True)) ⟨[(0, S s1), (1, S s2), (5, I ((s2.length : Nat) : Int)), (31, B (decide (((s1.length : Nat) : Int) ≤ ((s2.length : Nat) : Int))))], []⟩ (by kernel_rfl) ⟨trivial, trivial, trivial⟩ ?_
        refine WO_nil rfl ?_
        refine thenS_n ?_
        refine iteO_e h (fun hb87 h => W_true rfl hb87 ?_) (fun hb87 h => W_false rfl hb87 ?_)
        · refine W_seq ?_
          refine W_region ?_
          refine WO_step 1 [] [4] True ⟨[(4, I (-1))], []⟩ (by kernel_rfl) trivial ?_
          refine WO_nil rfl ?_
          refine thenS_n ?_
          refine W_ret ?_
          refine blockS_r ?_
          refine thenS_r ?_
          cases h
          exact ⟨[], True, by kernel_rfl, trivial⟩
        · exact none_e h

/- stringslite.Cut -/
def stringslite_Cut (s1 : Str) (s2 : Str) : Option (Str × Str × Bool) :=
 bindO (stringslite_Index s1 s2) fun i14 =>
 iteO (decide (0 ≤ i14))
 (guardO (0 ≤ i14 ∧ i14 ≤ ((s1.length : Nat) : Int)) <|
 guardO (0 ≤ (w64 (i14 + ((s2.length : Nat) : Int))) ∧ (w64 (i14 + ((s2.length : Nat) : Int))) ≤ ((s1.length : Nat) : Int)) <|
 some ((s1.take i14.toNat), (s1.drop ((w64 (i14 + ((s2.length : Nat) : Int))).toNat)), true))
 (some (s1, [], false))

theorem stringslite_Cut_ok (s1 : Str) (s2 : Str) (s11 : Str) (s12 : Str) (b13 : Bool) (h : stringslite_Cut s1 s2 = some (s11, s12, b13)) : FOk EE 45 [S s1, S s2] [] (.tup [.e (cS s11), .e (cS s12), .e (cB b13)]) [] := by
  unfold stringslite_Cut at h
  refine FOk_of_W 23 0 Try.func45 rfl rfl (Nat.le_of_ble_eq_true rfl) rfl (fun w X θ => ?_)
  refine W_seq ?_
  refine W_region ?_
  refine WO_step 3 [] [0, 1] True ⟨[(0, S s1), (1, S s2)], []⟩ (by kernel_rfl) trivial ?_
  refine WO_nil rfl ?_
  refine thenS_n ?_
  refine W_seq ?_
  refine W_seq ?_
  refine W_region ?_
  refine WO_step 2 [] [0, 1, 8, 9] True ⟨[(0, S s1), (1, S s2), (8, S s1), (9, S s2)], []⟩ (by kernel_rfl) trivial ?_
  refine bindO_e h (fun i14 hc15 h => ?_)
  refine WO_call [] Try.f61 rfl rfl rfl (by kernel_rfl) Try.func61 rfl (by kernel_rfl) (stringslite_Index_ok s1 s2 i14 hc15) (trivial) rfl ?_
  refine WO_step 1 [] [0, 1, 7] True ⟨[(0, S s1), (1, S s2), (7, I i14)], []⟩ (by kernel_rfl) trivial ?_
  refine WO_nil rfl ?_
  refine thenS_n ?_
  refine W_seq ?_
  refine W_region ?_
  refine WO_step 2 [] [0, 1, 7, 12] (True ∧ True) ⟨[(0, S s1), (1, S s2), (7, I i14), (12, B (decide (0 ≤ i14)))], []⟩ (by kernel_rfl) ⟨trivial, trivial⟩ ?_
  refine WO_nil rfl ?_
  refine thenS_n ?_
  refine iteO_e h (fun hb19 h => W_true rfl hb19 ?_) (fun hb19 h => W_false rfl hb19 ?_)
  · refine W_seq ?_
    refine guardO_e h (fun hg20 h => ?_)
    refine guardO_e h (fun hg21 h => ?_)
    refine W_cut (Q' := fun (e : Exit) (s : St) => e = .normal ∧ s = ⟨[(4, S (s1.take i14.toNat)), (5, S (s1.drop ((w64 (i14 + ((s2.length : Nat) : Int))).toNat))), (6, B true)], []⟩) ?_ ?_
    · refine W_draw [] true (by kernel_rfl) (by kernel_rfl) ?_
      refine WD_takeK [0, 1, 2, 3, 4, 5, 6, 7, 8, 9, 10, 11] [4, 5, 6] [4, 5, 6] (φ := ((0 ≤ i14 ∧ i14 ≤ ((s1.length : Nat) : Int)) ∧ (0 ≤ i14 ∧ i14 ≤ ((s1.length : Nat) : Int)) ∧ (True ∧ True ∧ (True ∧ True ∧ ((0 ≤ (w64 (i14 + ((s2.length : Nat) : Int))) ∧ (w64 (i14 + ((s2.length : Nat) : Int))) ≤ ((s1.length : Nat) : Int)) ∧ (0 ≤ (w64 (i14 + ((s2.length : Nat) : Int))) ∧ (w64 (i14 + ((s2.length : Nat) : Int))) ≤ ((s1.length : Nat) : Int)) ∧ True))))) (ls' := #[true, true, true, true, true, true, true, true, true, true, true, true]) (Ts' := [(4, S (s1.take i14.toNat)), (5, S (s1.drop ((w64 (i14 + ((s2.length : Nat) : Int))).toNat))), (6, B true)]) (st' := ⟨[(4, S (s1.take i14.toNat)), (5, S (s1.drop ((w64 (i14 + ((s2.length : Nat) : Int))).toNat))), (6, B true)], []⟩) (n2 := 0) (by kernel_rfl) ⟨hg20, hg20, trivial, trivial, trivial, trivial, hg21, hg21, trivial⟩ rfl ?_
      exact WD_done [] [4, 5, 6] (st' := ⟨[(4, S (s1.take i14.toNat)), (5, S (s1.drop ((w64 (i14 + ((s2.length : Nat) : Int))).toNat))), (6, B true)], []⟩) (by kernel_rfl) (by kernel_rfl) (And.intro rfl rfl)
    · rintro _ _ ⟨rfl, rfl⟩
      refine thenS_n ?_
      refine W_ret ?_
      refine thenS_r ?_
      cases h
      exact ⟨[], True, by kernel_rfl, trivial⟩
  · refine W_sub [] [0] (st' := ⟨[(0, S s1)], []⟩) (by kernel_rfl) ?_
    refine W_skip ?_
    refine thenS_n ?_
    refine W_seq ?_
    refine W_region ?_
    refine WO_step 4 [] [4, 5, 6] True ⟨[(4, S s1), (5, S []), (6, B false)], []⟩ (by kernel_rfl) trivial ?_
    refine WO_nil rfl ?_
    refine thenS_n ?_
    refine W_ret ?_
    cases h
    exact ⟨[], True, by kernel_rfl, trivial⟩

/- strings.Cut -/
def strings_Cut (s1 : Str) (s2 : Str) : Option (Str × Str × Bool) :=
 bindO (stringslite_Cut s1 s2) fun (s11, s12, b13) =>
 some (s11, s12, b13)

theorem strings_Cut_ok (s1 : Str) (s2 : Str) (s8 : Str) (s9 : Str) (b10 : Bool) (h : strings_Cut s1 s2 = some (s8, s9, b10)) : FOk EE 30 [S s1, S s2] [] (.tup [.e (cS s8), .e (cS s9), .e (cB b10)]) [] := by
  unfold strings_Cut at h
  refine FOk_of_W 13 0 Try.func30 rfl rfl (Nat.le_of_ble_eq_true rfl) rfl (fun w X θ => ?_)
  refine W_seq ?_
  refine W_region ?_
  refine WO_step 3 [] [0, 1] True ⟨[(0, S s1), (1, S s2)], []⟩ (by kernel_rfl) trivial ?_
  refine WO_nil rfl ?_
  refine thenS_n ?_
  refine W_seq ?_
  refine W_region ?_
  refine WO_step 2 [] [7, 8] True ⟨[(7, S s1), (8, S s2)], []⟩ (by kernel_rfl) trivial ?_
  refine bindO_e h (fun v15 hc14 h => ?_)
  obtain ⟨s11, s12, b13⟩ := v15
  refine WO_call [] Try.f45 rfl rfl rfl (by kernel_rfl) Try.func45 rfl (by kernel_rfl) (stringslite_Cut_ok s1 s2 s11 s12 b13 hc14) (trivial) rfl ?_
  refine WO_step 6 [] [4, 5, 6] True ⟨[(4, S s11), (5, S s12), (6, B b13)], []⟩ (by kernel_rfl) trivial ?_
  refine WO_nil rfl ?_
  refine thenS_n ?_
  refine W_ret ?_
  cases h
  exact ⟨[], True, by kernel_rfl, trivial⟩

/- impl.ResolvePath -/
def impl_ResolvePath_L1 (x1 : List Nod) : Nat → Str → Int → Bool → Option ((Unit) ⊕ (Int))
| 0, _, _, _ => none
| n + 1, s129, i130, b131 =>
 iteO b131
 (bindO (strings_Cut s129 [47]) fun (s168, s169, b170) =>
 bindO (impl_kidIn n x1 i130 s168) fun i172 =>
 iteO (decide (i172 < 0))
 (some (.inl ()))
 (impl_ResolvePath_L1 x1 n s169 i172 b170))
 (some (.inr i130))

theorem impl_ResolvePath_L1_ok (w : World) (X : Nat → Prop) (θ : List Loc) (x1 : List Nod) (v : (Unit) ⊕ (Int)) : ∀ (n : Nat) (s129 : Str) (i130 : Int) (b131 : Bool), impl_ResolvePath_L1 x1 n s129 i130 b131 = some v → WL EE ⟨w, X, θ, 36, 1⟩ (subC [1, 1, 1, 1, 1, 1, 0, 1, 4, 4] (bodyC Try.f14)) (fun (e : Exit) (s : St) => (match v with | (.inl _) => e = .ret ∧ s = ⟨[(4, I (-1))], [.row .nod x1 false]⟩ | (.inr i155) => e = .exit 0 ∧ s = ⟨[(7, I i155)], [.row .nod x1 false]⟩ : Prop)) ⟨[(0, .one (.e (.sl 0 0 x1.length))), (5, S s129), (7, I i130), (8, B b131)], [.row .nod x1 false]⟩ := by
  intro n
  induction n with
  | zero => intro _ _ _ h; exact none_e h
  | succ n ih =>
    intro s129 i130 b131 h
    rw [impl_ResolvePath_L1] at h
    refine WL_round ?_
    refine W_seq ?_
    refine W_seq ?_
    refine W_region ?_
    refine WO_step 1 [0] [0, 5, 7, 22] True ⟨[(0, .one (.e (.sl 0 0 x1.length))), (5, S s129), (7, I i130), (22, B b131)], [.row .nod x1 false]⟩ (by kernel_rfl) trivial ?_
    refine WO_nil rfl ?_
    refine thenS_n ?_
    refine iteO_e h (fun hb158 h => W_true rfl hb158 ?_) (fun hb158 h => W_false rfl hb158 ?_)
    · refine W_sub [0] [0, 5, 7] (st' := ⟨[(0, .one (.e (.sl 0 0 x1.length))), (5, S s129), (7, I i130)], [.row .nod x1 false]⟩) (by kernel_rfl) ?_
      refine W_skip ?_
      refine thenS_n ?_
      refine W_block ?_
      refine W_seq ?_
      refine W_region ?_
      refine WO_step 1 [0] [0, 5, 7] True ⟨[(0, .one (.e (.sl 0 0 x1.length))), (5, S s129), (7, I i130)], [.row .nod x1 false]⟩ (by kernel_rfl) trivial ?_
      refine WO_nil rfl ?_
      refine thenS_n ?_
      refine W_seq ?_
      refine W_region ?_
      refine WO_step 1 [0] [0, 7, 24] True ⟨[(0, .one (.e (.sl 0 0 x1.length))), (7, I i130), (24, S s129)], [.row .nod x1 false]⟩ (by kernel_rfl) trivial ?_
      refine bindO_e h (fun v176 hc171 h => ?_)
      obtain ⟨s168, s169, b170⟩ := v176
      refine WO_call [] Try.f30 rfl rfl rfl (by kernel_rfl) Try.func30 rfl (by kernel_rfl) (strings_Cut_ok s129 [47] s168 s169 b170 hc171) (trivial) rfl ?_
      refine WO_step 7 [0] [0, 5, 7, 8, 9] True ⟨[(0, .one (.e (.sl 0 0 x1.length))), (5, S s169), (7, I i130), (8, B b170), (9, S s168)], [.row .nod x1 false]⟩ (by kernel_rfl) trivial ?_
      refine WO_nil rfl ?_
      refine thenS_n ?_
      refine W_seq ?_
      refine W_region ?_
      refine WO_step 3 [0] [0, 5, 8, 29, 30, 31] True ⟨[(0, .one (.e (.sl 0 0 x1.length))), (5, S s169), (8, B b170), (29, .one (.e (.sl 0 0 x1.length))), (30, I i130), (31, S s168)], [.row .nod x1 false]⟩ (by kernel_rfl) trivial ?_
      refine bindO_e h (fun i172 hc173 h => ?_)
      refine WO_call [.ro 0] Try.f28 rfl rfl rfl (by kernel_rfl) Try.func28 rfl (by kernel_rfl) (impl_kidIn_ok n x1 i130 s168 i172 hc173) (And.intro (And.intro rfl rfl) (trivial)) rfl ?_
      refine WO_step 1 [0] [0, 5, 7, 8] True ⟨[(0, .one (.e (.sl 0 0 x1.length))), (5, S s169), (7, I i172), (8, B b170)], [.row .nod x1 false]⟩ (by kernel_rfl) trivial ?_
      refine WO_nil rfl ?_
      refine thenS_n ?_
      refine W_seq ?_
      refine W_region ?_
      refine WO_step 2 [0] [0, 5, 7, 8, 34] (True ∧ True) ⟨[(0, .one (.e (.sl 0 0 x1.length))), (5, S s169), (7, I i172), (8, B b170), (34, B (decide (i172 < 0)))], [.row .nod x1 false]⟩ (by kernel_rfl) ⟨trivial, trivial⟩ ?_
      refine WO_nil rfl ?_
      refine thenS_n ?_
      refine iteO_e h (fun hb175 h => W_true rfl hb175 ?_) (fun hb175 h => W_false rfl hb175 ?_)
      · refine W_seq ?_
        refine W_region ?_
        refine WO_step 1 [0] [4] True ⟨[(4, I (-1))], [.row .nod x1 false]⟩ (by kernel_rfl) trivial ?_
        refine WO_nil rfl ?_
        refine thenS_n ?_
        refine W_ret ?_
        refine blockS_r ?_
        refine thenS_r ?_
        cases h
        exact And.intro rfl rfl
      · refine W_sub [0] [0, 5, 7, 8] (st' := ⟨[(0, .one (.e (.sl 0 0 x1.length))), (5, S s169), (7, I i172), (8, B b170)], [.row .nod x1 false]⟩) (by kernel_rfl) ?_
        refine W_skip ?_
        refine blockS_n ?_
        refine thenS_n ?_
        exact ih _ _ _ h
    · refine W_sub [0] [7] (st' := ⟨[(7, I i130)], [.row .nod x1 false]⟩) (by kernel_rfl) ?_
      refine W_exit ?_
      refine thenS_e ?_
      refine thenS_e ?_
      cases h
      exact And.intro rfl rfl

def impl_ResolvePath (n : Nat) (x1 : List Nod) (s2 : Str) : Option (Int) :=
 bindO (impl_ValidTree n x1) fun b90 =>
 iteO (!b90)
 (some (-1))
 (bindO (strings_CutPrefix s2 [47]) fun (s94, b95) =>
 iteO (!b95)
 (some (-1))
 (iteO (decide (s94 = []))
 (some 0)
 (bindO (impl_ResolvePath_L1 x1 n s94 0 true) fun v177 =>
 match v177 with
 | (.inl _) => (some (-1))
 | (.inr i155) => (some i155)
)))

theorem impl_ResolvePath_ok (n : Nat) (x1 : List Nod) (s2 : Str) (i89 : Int) (h : impl_ResolvePath n x1 s2 = some i89) : FOk EE 14 [.one (.e (.sl 0 0 x1.length)), S s2] [.row .nod x1 false] (I i89) [.row .nod x1 false] := by
  unfold impl_ResolvePath at h
  refine FOk_of_W 36 1 Try.func14 rfl rfl (Nat.le_of_ble_eq_true rfl) rfl (fun w X θ => ?_)
  refine W_seq ?_
  refine W_region ?_
  refine WO_step 1 [0] [0, 1] True ⟨[(0, .one (.e (.sl 0 0 x1.length))), (1, S s2)], [.row .nod x1 false]⟩ (by kernel_rfl) trivial ?_
  refine WO_nil rfl ?_
  refine thenS_n ?_
  refine W_seq ?_
  refine W_seq ?_
  refine W_region ?_
  refine WO_step 1 [0] [0, 1, 10] True ⟨[(0, .one (.e (.sl 0 0 x1.length))), (1, S s2), (10, .one (.e (.sl 0 0 x1.length)))], [.row .nod x1 false]⟩ (by kernel_rfl) trivial ?_
  refine bindO_e h (fun b90 hc91 h => ?_)
  refine WO_call [.ro 0] Try.f13 rfl rfl rfl (by kernel_rfl) Try.func13 rfl (by kernel_rfl) (impl_ValidTree_ok n x1 b90 hc91) (And.intro (And.intro rfl rfl) (trivial)) rfl ?_
  refine WO_step 1 [0] [0, 1, 12] True ⟨[(0, .one (.e (.sl 0 0 x1.length))), (1, S s2), (12, B (!b90))], [.row .nod x1 false]⟩ (by kernel_rfl) trivial ?_
  refine WO_nil rfl ?_
  refine thenS_n ?_
  refine iteO_e h (fun hb93 h => W_true rfl hb93 ?_) (fun hb93 h => W_false rfl hb93 ?_)
  · refine W_seq ?_
    refine W_region ?_
    refine WO_step 1 [0] [4] True ⟨[(4, I (-1))], [.row .nod x1 false]⟩ (by kernel_rfl) trivial ?_
    refine WO_nil rfl ?_
    refine thenS_n ?_
    refine W_ret ?_
    refine thenS_r ?_
    cases h
    exact ⟨[0], True, by kernel_rfl, trivial⟩
  · refine W_sub [0] [0, 1] (st' := ⟨[(0, .one (.e (.sl 0 0 x1.length))), (1, S s2)], [.row .nod x1 false]⟩) (by kernel_rfl) ?_
    refine W_skip ?_
    refine thenS_n ?_
    refine W_seq ?_
    refine W_region ?_
    refine WO_step 1 [0] [0, 14] True ⟨[(0, .one (.e (.sl 0 0 x1.length))), (14, S s2)], [.row .nod x1 false]⟩ (by kernel_rfl) trivial ?_
    refine bindO_e h (fun v178 hc96 h => ?_)
    obtain ⟨s94, b95⟩ := v178
    refine WO_call [] Try.f29 rfl rfl rfl (by kernel_rfl) Try.func29 rfl (by kernel_rfl) (strings_CutPrefix_ok s2 [47] s94 b95 hc96) (trivial) rfl ?_
    refine WO_step 5 [0] [0, 5, 6] True ⟨[(0, .one (.e (.sl 0 0 x1.length))), (5, S s94), (6, B b95)], [.row .nod x1 false]⟩ (by kernel_rfl) trivial ?_
    refine WO_nil rfl ?_
    refine thenS_n ?_
    refine W_seq ?_
    refine W_seq ?_
    refine W_region ?_
    refine WO_step 2 [0] [0, 5, 19] True ⟨[(0, .one (.e (.sl 0 0 x1.length))), (5, S s94), (19, B (!b95))], [.row .nod x1 false]⟩ (by kernel_rfl) trivial ?_
    refine WO_nil rfl ?_
    refine thenS_n ?_
    refine iteO_e h (fun hb98 h => W_true rfl hb98 ?_) (fun hb98 h => W_false rfl hb98 ?_)
    · refine W_seq ?_
      refine W_region ?_
      refine WO_step 1 [0] [4] True ⟨[(4, I (-1))], [.row .nod x1 false]⟩ (by kernel_rfl) trivial ?_
      refine WO_nil rfl ?_
      refine thenS_n ?_
      refine W_ret ?_
      refine thenS_r ?_
      cases h
      exact ⟨[0], True, by kernel_rfl, trivial⟩
    · refine W_sub [0] [0, 5] (st' := ⟨[(0, .one (.e (.sl 0 0 x1.length))), (5, S s94)], [.row .nod x1 false]⟩) (by kernel_rfl) ?_
      refine W_skip ?_
      refine thenS_n ?_
      refine W_seq ?_
      refine W_seq ?_
      refine W_region ?_
      refine WO_step 2 [0] [0, 5, 21] (True ∧ True) ⟨[(0, .one (.e (.sl 0 0 x1.length))), (5, S s94), (21, B (decide (s94 = [])))], [.row .nod x1 false]⟩ (by kernel_rfl) ⟨trivial, trivial⟩ ?_
      refine WO_nil rfl ?_
      refine thenS_n ?_
      refine iteO_e h (fun hb100 h => W_true rfl hb100 ?_) (fun hb100 h => W_false rfl hb100 ?_)
      · refine W_seq ?_
        refine W_region ?_
        refine WO_step 1 [0] [4] True ⟨[(4, I 0)], [.row .nod x1 false]⟩ (by kernel_rfl) trivial ?_
        refine WO_nil rfl ?_
        refine thenS_n ?_
        refine W_ret ?_
        refine thenS_r ?_
        cases h
        exact ⟨[0], True, by kernel_rfl, trivial⟩
      · refine W_sub [0] [0, 5] (st' := ⟨[(0, .one (.e (.sl 0 0 x1.length))), (5, S s94)], [.row .nod x1 false]⟩) (by kernel_rfl) ?_
        refine W_skip ?_
        refine thenS_n ?_
        refine W_seq ?_
        refine W_region ?_
        refine WO_step 1 [0] [0, 5, 7] True ⟨[(0, .one (.e (.sl 0 0 x1.length))), (5, S s94), (7, I 0)], [.row .nod x1 false]⟩ (by kernel_rfl) trivial ?_
        refine WO_nil rfl ?_
        refine thenS_n ?_
        refine W_seq ?_
        refine W_seq ?_
        refine W_region ?_
        refine WO_step 1 [0] [0, 5, 7, 8] True ⟨[(0, .one (.e (.sl 0 0 x1.length))), (5, S s94), (7, I 0), (8, B true)], [.row .nod x1 false]⟩ (by kernel_rfl) trivial ?_
        refine WO_nil rfl ?_
        refine thenS_n ?_
        refine W_block ?_
        refine W_loop ?_
        refine bindO_e h (fun v177 hv177 h => ?_)
        refine WL_cut (impl_ResolvePath_L1_ok w X θ x1 v177 n s94 0 true hv177) ?_
        rcases v177 with _ | i155
        · rintro _ _ ⟨rfl, rfl⟩
          refine blockS_r ?_
          refine thenS_r ?_
          cases h
          exact ⟨[0], True, by kernel_rfl, trivial⟩
        · rintro _ _ ⟨rfl, rfl⟩
          refine blockS_y ?_
          refine thenS_n ?_
          refine W_seq ?_
          refine W_region ?_
          refine WO_step 2 [0] [4] True ⟨[(4, I i155)], [.row .nod x1 false]⟩ (by kernel_rfl) trivial ?_
          refine WO_nil rfl ?_
          refine thenS_n ?_
          refine W_ret ?_
          cases h
          exact ⟨[0], True, by kernel_rfl, trivial⟩

/- impl.SameTree -/
def impl_SameTree_L1 (x1 : List Nod) (x2 : List Nod) : Nat → Int → Option ((Unit) ⊕ (Unit))
| 0, _ => none
| n + 1, i137 =>
 iteO (decide (i137 < ((x1.length : Nat) : Int)))
 (bindO (impl_PathText n x1 i137) fun s177 =>
 bindO (impl_ResolvePath n x2 s177) fun i179 =>
 bindO (iteO (decide (i179 < 0))
 (some true)
 (guardO (0 ≤ i137 ∧ i137 < ((x1.length : Nat) : Int)) <|
 guardO (0 ≤ i179 ∧ i179 < ((x2.length : Nat) : Int)) <|
 some (!decide (((x1.getD i137.toNat dnod).value) = ((x2.getD i179.toNat dnod).value))))) fun b184 =>
 iteO b184
 (some (.inl ()))
 (impl_SameTree_L1 x1 x2 n (w64 (i137 + 1))))
 (some (.inr ()))

theorem impl_SameTree_L1_ok (w : World) (X : Nat → Prop) (θ : List Loc) (x1 : List Nod) (x2 : List Nod) (v : (Unit) ⊕ (Unit)) : ∀ (n : Nat) (i137 : Int), impl_SameTree_L1 x1 x2 n i137 = some v → WL EE ⟨w, X, θ, 48, 2⟩ (subC [1, 1, 0, 1, 4, 4] (bodyC Try.f10)) (fun (e : Exit) (s : St) => (match v with | (.inl _) => e = .ret ∧ s = ⟨[(4, B false)], [.row .nod x1 false, .row .nod x2 false]⟩ | (.inr _) => e = .exit 0 ∧ s = ⟨[], [.row .nod x1 false, .row .nod x2 false]⟩ : Prop)) ⟨[(0, .one (.e (.sl 0 0 x1.length))), (1, .one (.e (.sl 1 0 x2.length))), (23, I ((x1.length : Nat) : Int)), (24, I i137)], [.row .nod x1 false, .row .nod x2 false]⟩ := by
  intro n
  induction n with
  | zero => intro _ h; exact none_e h
  | succ n ih =>
    intro i137 h
    rw [impl_SameTree_L1] at h
    refine WL_round ?_
    refine W_seq ?_
    refine W_region ?_
    refine WO_step 1 [0, 1] [0, 1, 23, 24, 25] (True ∧ True) ⟨[(0, .one (.e (.sl 0 0 x1.length))), (1, .one (.e (.sl 1 0 x2.length))), (23, I ((x1.length : Nat) : Int)), (24, I i137), (25, B (decide (i137 < ((x1.length : Nat) : Int))))], [.row .nod x1 false, .row .nod x2 false]⟩ (by kernel_rfl) ⟨trivial, trivial⟩ ?_
    refine WO_nil rfl ?_
    refine thenS_n ?_
    refine W_seq ?_
    refine iteO_e h (fun hb165 h => W_true rfl hb165 ?_) (fun hb165 h => W_false rfl hb165 ?_)
    · refine W_sub [0, 1] [0, 1, 23, 24] (st' := ⟨[(0, .one (.e (.sl 0 0 x1.length))), (1, .one (.e (.sl 1 0 x2.length))), (23, I ((x1.length : Nat) : Int)), (24, I i137)], [.row .nod x1 false, .row .nod x2 false]⟩) (by kernel_rfl) ?_
      refine W_skip ?_
      refine thenS_n ?_
      refine W_seq ?_
      refine W_block ?_
      refine W_seq ?_
      refine W_region ?_
      refine WO_step 2 [0, 1] [0, 1, 5, 23, 24] True ⟨[(0, .one (.e (.sl 0 0 x1.length))), (1, .one (.e (.sl 1 0 x2.length))), (5, I i137), (23, I ((x1.length : Nat) : Int)), (24, I i137)], [.row .nod x1 false, .row .nod x2 false]⟩ (by kernel_rfl) trivial ?_
      refine WO_nil rfl ?_
      refine thenS_n ?_
      refine W_seq ?_
      refine W_region ?_
      refine WO_step 3 [0, 1] [0, 1, 5, 23, 24, 27, 28, 29] True ⟨[(0, .one (.e (.sl 0 0 x1.length))), (1, .one (.e (.sl 1 0 x2.length))), (5, I i137), (23, I ((x1.length : Nat) : Int)), (24, I i137), (27, .one (.e (.sl 1 0 x2.length))), (28, .one (.e (.sl 0 0 x1.length))), (29, I i137)], [.row .nod x1 false, .row .nod x2 false]⟩ (by kernel_rfl) trivial ?_
      refine bindO_e h (fun s177 hc178 h => ?_)
      refine WO_call [.ro 0] Try.f15 rfl rfl rfl (by kernel_rfl) Try.func15 rfl (by kernel_rfl) (impl_PathText_ok n x1 i137 s177 hc178) (And.intro (And.intro rfl rfl) (trivial)) rfl ?_
      refine WO_sub [0, 1] [0, 1, 5, 23, 24, 27, 30] (st' := ⟨[(0, .one (.e (.sl 0 0 x1.length))), (1, .one (.e (.sl 1 0 x2.length))), (5, I i137), (23, I ((x1.length : Nat) : Int)), (24, I i137), (27, .one (.e (.sl 1 0 x2.length))), (30, S s177)], [.row .nod x1 false, .row .nod x2 false]⟩) (by kernel_rfl) ?_
      refine bindO_e h (fun i179 hc180 h => ?_)
      refine WO_call [.ro 1] Try.f14 rfl rfl rfl (by kernel_rfl) Try.func14 rfl (by kernel_rfl) (impl_ResolvePath_ok n x2 s177 i179 hc180) (And.intro (And.intro rfl rfl) (trivial)) rfl ?_
      refine WO_step 1 [0, 1] [0, 1, 5, 6, 23, 24] True ⟨[(0, .one (.e (.sl 0 0 x1.length))), (1, .one (.e (.sl 1 0 x2.length))), (5, I i137), (6, I i179), (23, I ((x1.length : Nat) : Int)), (24, I i137)], [.row .nod x1 false, .row .nod x2 false]⟩ (by kernel_rfl) trivial ?_
      refine WO_nil rfl ?_
      refine thenS_n ?_
      refine W_seq ?_
      refine bindO_e h (fun b184 hv185 h => ?_)
      refine W_cut (Q' := fun (e : Exit) (s : St) => e = .normal ∧ s = ⟨[(0, .one (.e (.sl 0 0 x1.length))), (1, .one (.e (.sl 1 0 x2.length))), (23, I ((x1.length : Nat) : Int)), (24, I i137), (46, B b184)], [.row .nod x1 false, .row .nod x2 false]⟩) ?_ ?_
      · refine iteO_e hv185 (fun hb181 hv185 => ?_) (fun hb181 hv185 => ?_)
        · refine W_draw [] true (by kernel_rfl) (by kernel_rfl) ?_
          refine WD_takeK [0, 1, 2] [0, 1, 5, 6, 23, 24, 34] [0, 1, 5, 6, 23, 24, 34] (φ := (True ∧ True ∧ True)) (ls' := #[true, true, true, false, false, false, false, false, false, false, false, false, false, false, false]) (Ts' := [(0, .one (.e (.sl 0 0 x1.length))), (1, .one (.e (.sl 1 0 x2.length))), (5, I i137), (6, I i179), (23, I ((x1.length : Nat) : Int)), (24, I i137), (34, B (decide (i179 < 0)))]) (st' := ⟨[(0, .one (.e (.sl 0 0 x1.length))), (1, .one (.e (.sl 1 0 x2.length))), (5, I i137), (6, I i179), (23, I ((x1.length : Nat) : Int)), (24, I i137), (34, B (decide (i179 < 0)))], [.row .nod x1 false, .row .nod x2 false]⟩) (n2 := 12) (by kernel_rfl) ⟨trivial, trivial, trivial⟩ rfl ?_
          refine WD_known 34 true rfl rfl hb181 ?_
          refine WD_takeK [3, 4, 5, 6, 7, 8, 9, 10, 11, 12, 13, 14] [0, 1, 23, 24, 46] [0, 1, 23, 24, 46] (φ := True) (ls' := #[true, true, true, true, true, true, true, true, true, true, true, true, true, true, true]) (Ts' := [(0, .one (.e (.sl 0 0 x1.length))), (1, .one (.e (.sl 1 0 x2.length))), (23, I ((x1.length : Nat) : Int)), (24, I i137), (46, B true)]) (st' := ⟨[(0, .one (.e (.sl 0 0 x1.length))), (1, .one (.e (.sl 1 0 x2.length))), (23, I ((x1.length : Nat) : Int)), (24, I i137), (46, B true)], [.row .nod x1 false, .row .nod x2 false]⟩) (n2 := 0) (by kernel_rfl) trivial rfl ?_
          exact WD_done [0, 1] [0, 1, 23, 24, 46] (st' := ⟨[(0, .one (.e (.sl 0 0 x1.length))), (1, .one (.e (.sl 1 0 x2.length))), (23, I ((x1.length : Nat) : Int)), (24, I i137), (46, B true)], [.row .nod x1 false, .row .nod x2 false]⟩) (by kernel_rfl) (by kernel_rfl) (And.intro rfl (by cases hv185; rfl))
        · refine guardO_e hv185 (fun hg182 hv185 => ?_)
          refine guardO_e hv185 (fun hg183 hv185 => ?_)
          refine W_draw [] true (by kernel_rfl) (by kernel_rfl) ?_
          refine WD_takeK [0, 1, 2] [0, 1, 5, 6, 23, 24, 34] [0, 1, 5, 6, 23, 24, 34] (φ := (True ∧ True ∧ True)) (ls' := #[true, true, true, false, false, false, false, false, false, false, false, false, false, false, false]) (Ts' := [(0, .one (.e (.sl 0 0 x1.length))), (1, .one (.e (.sl 1 0 x2.length))), (5, I i137), (6, I i179), (23, I ((x1.length : Nat) : Int)), (24, I i137), (34, B (decide (i179 < 0)))]) (st' := ⟨[(0, .one (.e (.sl 0 0 x1.length))), (1, .one (.e (.sl 1 0 x2.length))), (5, I i137), (6, I i179), (23, I ((x1.length : Nat) : Int)), (24, I i137), (34, B (decide (i179 < 0)))], [.row .nod x1 false, .row .nod x2 false]⟩) (n2 := 12) (by kernel_rfl) ⟨trivial, trivial, trivial⟩ rfl ?_
          refine WD_known 34 false rfl rfl hb181 ?_
          refine WD_takeK [3, 4, 5, 6, 7, 8, 9, 10, 11, 12, 13, 14] [0, 1, 23, 24, 46] [0, 1, 23, 24, 46] (φ := ((0 ≤ i137 ∧ i137 < ((x1.length : Nat) : Int)) ∧ (0 ≤ i137 ∧ i137 < ((x1.length : Nat) : Int)) ∧ (True ∧ True ∧ ((0 ≤ i179 ∧ i179 < ((x2.length : Nat) : Int)) ∧ (0 ≤ i179 ∧ i179 < ((x2.length : Nat) : Int)) ∧ (True ∧ True ∧ (True ∧ True ∧ True)))))) (ls' := #[true, true, true, true, true, true, true, true, true, true, true, true, true, true, true]) (Ts' := [(0, .one (.e (.sl 0 0 x1.length))), (1, .one (.e (.sl 1 0 x2.length))), (23, I ((x1.length : Nat) : Int)), (24, I i137), (46, B (!decide (((x1.getD i137.toNat dnod).value) = ((x2.getD i179.toNat dnod).value))))]) (st' := ⟨[(0, .one (.e (.sl 0 0 x1.length))), (1, .one (.e (.sl 1 0 x2.length))), (23, I ((x1.length : Nat) : Int)), (24, I i137), (46, B (!decide (((x1.getD i137.toNat dnod).value) = ((x2.getD i179.toNat dnod).value))))], [.row .nod x1 false, .row .nod x2 false]⟩) (n2 := 0) (by kernel_rfl) ⟨hg182, hg182, trivial, trivial, hg183, hg183, trivial, trivial, trivial, trivial, trivial⟩ rfl ?_
          exact WD_done [0, 1] [0, 1, 23, 24, 46] (st' := ⟨[(0, .one (.e (.sl 0 0 x1.length))), (1, .one (.e (.sl 1 0 x2.length))), (23, I ((x1.length : Nat) : Int)), (24, I i137), (46, B (!decide (((x1.getD i137.toNat dnod).value) = ((x2.getD i179.toNat dnod).value))))], [.row .nod x1 false, .row .nod x2 false]⟩) (by kernel_rfl) (by kernel_rfl) (And.intro rfl (by cases hv185; rfl))
      · rintro _ _ ⟨rfl, rfl⟩
        refine thenS_n ?_
        refine iteO_e h (fun hb187 h => W_true rfl hb187 ?_) (fun hb187 h => W_false rfl hb187 ?_)
        · refine W_seq ?_
          refine W_region ?_
          refine WO_step 1 [0, 1] [4] True ⟨[(4, B false)], [.row .nod x1 false, .row .nod x2 false]⟩ (by kernel_rfl) trivial ?_
          refine WO_nil rfl ?_
          refine thenS_n ?_
          refine W_ret ?_
          refine blockS_r ?_
          refine thenS_r ?_
          refine thenS_r ?_
          cases h
          exact And.intro rfl rfl
        · refine W_sub [0, 1] [0, 1, 23, 24] (st' := ⟨[(0, .one (.e (.sl 0 0 x1.length))), (1, .one (.e (.sl 1 0 x2.length))), (23, I ((x1.length : Nat) : Int)), (24, I i137)], [.row .nod x1 false, .row .nod x2 false]⟩) (by kernel_rfl) ?_
          refine W_skip ?_
          refine blockS_n ?_
          refine thenS_n ?_
          refine W_region ?_
          refine WO_step 2 [0, 1] [0, 1, 23, 24] (True ∧ True) ⟨[(0, .one (.e (.sl 0 0 x1.length))), (1, .one (.e (.sl 1 0 x2.length))), (23, I ((x1.length : Nat) : Int)), (24, I (w64 (i137 + 1)))], [.row .nod x1 false, .row .nod x2 false]⟩ (by kernel_rfl) ⟨trivial, trivial⟩ ?_
          refine WO_nil rfl ?_
          refine thenS_n ?_
          exact ih _ h
    · refine W_sub [0, 1] [] (st' := ⟨[], [.row .nod x1 false, .row .nod x2 false]⟩) (by kernel_rfl) ?_
      refine W_exit ?_
      refine thenS_e ?_
      refine thenS_e ?_
      cases h
      exact And.intro rfl rfl

def impl_SameTree (n : Nat) (x1 : List Nod) (x2 : List Nod) : Option (Bool) :=
 bindO (impl_ValidTree n x1) fun b96 =>
 bindO (iteO (!b96)
 (some true)
 (bindO (impl_ValidTree n x2) fun b105 =>
 iteO (!b105)
 (some true)
 (some (!decide (((x1.length : Nat) : Int) = ((x2.length : Nat) : Int)))))) fun b102 =>
 iteO b102
 (some false)
 (bindO (impl_SameTree_L1 x1 x2 n 0) fun v188 =>
 match v188 with
 | (.inl _) => (some false)
 | (.inr _) => (some true)
)

theorem impl_SameTree_ok (n : Nat) (x1 : List Nod) (x2 : List Nod) (b95 : Bool) (h : impl_SameTree n x1 x2 = some b95) : FOk EE 10 [.one (.e (.sl 0 0 x1.length)), .one (.e (.sl 1 0 x2.length))] [.row .nod x1 false, .row .nod x2 false] (B b95) [.row .nod x1 false, .row .nod x2 false] := by
  unfold impl_SameTree at h
  refine FOk_of_W 48 2 Try.func10 rfl rfl (Nat.le_of_ble_eq_true rfl) rfl (fun w X θ => ?_)
  refine W_seq ?_
  refine W_region ?_
  refine WO_step 1 [0, 1] [0, 1] True ⟨[(0, .one (.e (.sl 0 0 x1.length))), (1, .one (.e (.sl 1 0 x2.length)))], [.row .nod x1 false, .row .nod x2 false]⟩ (by kernel_rfl) trivial ?_
  refine WO_nil rfl ?_
  refine thenS_n ?_
  refine W_seq ?_
  refine W_seq ?_
  refine W_region ?_
  refine WO_step 1 [0, 1] [0, 1, 7] True ⟨[(0, .one (.e (.sl 0 0 x1.length))), (1, .one (.e (.sl 1 0 x2.length))), (7, .one (.e (.sl 0 0 x1.length)))], [.row .nod x1 false, .row .nod x2 false]⟩ (by kernel_rfl) trivial ?_
  refine bindO_e h (fun b96 hc97 h => ?_)
  refine WO_call [.ro 0] Try.f13 rfl rfl rfl (by kernel_rfl) Try.func13 rfl (by kernel_rfl) (impl_ValidTree_ok n x1 b96 hc97) (And.intro (And.intro rfl rfl) (trivial)) rfl ?_
  refine WO_step 2 [0, 1] [0, 1, 10] True ⟨[(0, .one (.e (.sl 0 0 x1.length))), (1, .one (.e (.sl 1 0 x2.length))), (10, B (!b96))], [.row .nod x1 false, .row .nod x2 false]⟩ (by kernel_rfl) trivial ?_
  refine bindO_e h (fun b102 hv103 h => ?_)
  refine WO_thru ⟨[(0, .one (.e (.sl 0 0 x1.length))), (1, .one (.e (.sl 1 0 x2.length))), (21, B b102)], [.row .nod x1 false, .row .nod x2 false]⟩ ?_ ?_
  · refine iteO_e hv103 (fun hb104 hv103 => WO_known 10 true rfl hb104 ?_) (fun hb104 hv103 => WO_known 10 false rfl hb104 ?_)
    · refine WO_step 11 [0, 1] [0, 1, 21] True ⟨[(0, .one (.e (.sl 0 0 x1.length))), (1, .one (.e (.sl 1 0 x2.length))), (21, B true)], [.row .nod x1 false, .row .nod x2 false]⟩ (by kernel_rfl) trivial ?_
      cases hv103
      exact WO_nil rfl ⟨rfl, rfl⟩
    · refine WO_step 1 [0, 1] [0, 1, 10, 11] True ⟨[(0, .one (.e (.sl 0 0 x1.length))), (1, .one (.e (.sl 1 0 x2.length))), (10, B false), (11, .one (.e (.sl 1 0 x2.length)))], [.row .nod x1 false, .row .nod x2 false]⟩ (by kernel_rfl) trivial ?_
      refine bindO_e hv103 (fun b105 hc106 hv103 => ?_)
      refine WO_call [.ro 1] Try.f13 rfl rfl rfl (by kernel_rfl) Try.func13 rfl (by kernel_rfl) (impl_ValidTree_ok n x2 b105 hc106) (And.intro (And.intro rfl rfl) (trivial)) rfl ?_
      refine WO_step 3 [0, 1] [0, 1, 15] True ⟨[(0, .one (.e (.sl 0 0 x1.length))), (1, .one (.e (.sl 1 0 x2.length))), (15, B (!b105))], [.row .nod x1 false, .row .nod x2 false]⟩ (by kernel_rfl) trivial ?_
      refine iteO_e hv103 (fun hb107 hv103 => WO_known 15 true rfl hb107 ?_) (fun hb107 hv103 => WO_known 15 false rfl hb107 ?_)
      · refine WO_step 6 [0, 1] [0, 1, 21] True ⟨[(0, .one (.e (.sl 0 0 x1.length))), (1, .one (.e (.sl 1 0 x2.length))), (21, B true)], [.row .nod x1 false, .row .nod x2 false]⟩ (by kernel_rfl) trivial ?_
        cases hv103
        exact WO_nil rfl ⟨rfl, rfl⟩
      · refine WO_step 6 [0, 1] [0, 1, 21] (True ∧ (True ∧ (True ∧ True))) ⟨[(0, .one (.e (.sl 0 0 x1.length))), (1, .one (.e (.sl 1 0 x2.length))), (21, B (!decide (((x1.length : Nat) : Int) = ((x2.length : Nat) : Int))))], [.row .nod x1 false, .row .nod x2 false]⟩ (by kernel_rfl) ⟨trivial, trivial, trivial, trivial⟩ ?_
        cases hv103
        exact WO_nil rfl ⟨rfl, rfl⟩
  · refine thenS_n ?_
    refine iteO_e h (fun hb109 h => W_true rfl hb109 ?_) (fun hb109 h => W_false rfl hb109 ?_)
    · refine W_seq ?_
      refine W_region ?_
      refine WO_step 1 [0, 1] [4] True ⟨[(4, B false)], [.row .nod x1 false, .row .nod x2 false]⟩ (by kernel_rfl) trivial ?_
      refine WO_nil rfl ?_
      refine thenS_n ?_
      refine W_ret ?_
      refine thenS_r ?_
      cases h
      exact ⟨[0, 1], True, by kernel_rfl, trivial⟩
    · refine W_sub [0, 1] [0, 1] (st' := ⟨[(0, .one (.e (.sl 0 0 x1.length))), (1, .one (.e (.sl 1 0 x2.length)))], [.row .nod x1 false, .row .nod x2 false]⟩) (by kernel_rfl) ?_
      refine W_skip ?_
      refine thenS_n ?_
      refine W_seq ?_
      refine W_seq ?_
      refine W_region ?_
      refine WO_step 3 [0, 1] [0, 1, 23, 24] (True ∧ True) ⟨[(0, .one (.e (.sl 0 0 x1.length))), (1, .one (.e (.sl 1 0 x2.length))), (23, I ((x1.length : Nat) : Int)), (24, I 0)], [.row .nod x1 false, .row .nod x2 false]⟩ (by kernel_rfl) ⟨trivial, trivial⟩ ?_
      refine WO_nil rfl ?_
      refine thenS_n ?_
      refine W_block ?_
      refine W_loop ?_
      refine bindO_e h (fun v188 hv188 h => ?_)
      refine WL_cut (impl_SameTree_L1_ok w X θ x1 x2 v188 n 0 hv188) ?_
      rcases v188 with _ | _
      · rintro _ _ ⟨rfl, rfl⟩
        refine blockS_r ?_
        refine thenS_r ?_
        cases h
        exact ⟨[0, 1], True, by kernel_rfl, trivial⟩
      · rintro _ _ ⟨rfl, rfl⟩
        refine blockS_y ?_
        refine thenS_n ?_
        refine W_seq ?_
        refine W_region ?_
        refine WO_step 1 [0, 1] [4] True ⟨[(4, B true)], [.row .nod x1 false, .row .nod x2 false]⟩ (by kernel_rfl) trivial ?_
        refine WO_nil rfl ?_
        refine thenS_n ?_
        refine W_ret ?_
        cases h
        exact ⟨[0, 1], True, by kernel_rfl, trivial⟩

/- spec.SameTree -/
def spec_SameTree_L1 (x72 : List Edt) (x74 : List Edt) (x1 : List Nod) (x2 : List Nod) : Nat → Int → Option ((Unit) ⊕ (Unit))
| 0, _ => none
| n + 1, i89 =>
 iteO (decide (i89 < ((x72.length : Nat) : Int)))
 (guardO (0 ≤ i89 ∧ i89 < ((x72.length : Nat) : Int)) <|
 guardO (0 ≤ i89 ∧ i89 < ((x74.length : Nat) : Int)) <|
 iteO (!((decide (((x72.getD i89.toNat dedt).kind) = ((x74.getD i89.toNat dedt).kind))) && ((decide (((x72.getD i89.toNat dedt).path) = ((x74.getD i89.toNat dedt).path))) && ((decide (((x72.getD i89.toNat dedt).value) = ((x74.getD i89.toNat dedt).value))) && true))))
 (some (.inl ()))
 (spec_SameTree_L1 x72 x74 x1 x2 n (w64 (i89 + 1))))
 (some (.inr ()))

theorem spec_SameTree_L1_ok (w : World) (X : Nat → Prop) (θ : List Loc) (x72 : List Edt) (x74 : List Edt) (x1 : List Nod) (x2 : List Nod) (v : (Unit) ⊕ (Unit)) : ∀ (n : Nat) (i89 : Int), spec_SameTree_L1 x72 x74 x1 x2 n i89 = some v → WL EE ⟨w, X, θ, 42, 2⟩ (subC [1, 1, 1, 1, 0, 1, 4, 4] (bodyC Try.f8)) (fun (e : Exit) (s : St) => (match v with | (.inl _) => e = .ret ∧ s = ⟨[(4, B false)], [.row .nod x1 false, .row .nod x2 false]⟩ | (.inr _) => e = .exit 0 ∧ s = ⟨[], [.row .nod x1 false, .row .nod x2 false]⟩ : Prop)) ⟨[(5, .one (.e (.sl 2 0 x72.length))), (6, .one (.e (.sl 3 0 x74.length))), (7, I i89)], [.row .nod x1 false, .row .nod x2 false, .row .edt x72 true, .row .edt x74 true]⟩ := by
  intro n
  induction n with
  | zero => intro _ h; exact none_e h
  | succ n ih =>
    intro i89 h
    rw [spec_SameTree_L1] at h
    refine WL_round ?_
    refine W_seq ?_
    refine W_seq ?_
    refine W_region ?_
    refine WO_step 4 [0, 1, 2, 3] [5, 6, 7, 30] (True ∧ (True ∧ True)) ⟨[(5, .one (.e (.sl 2 0 x72.length))), (6, .one (.e (.sl 3 0 x74.length))), (7, I i89), (30, B (decide (i89 < ((x72.length : Nat) : Int))))], [.row .nod x1 false, .row .nod x2 false, .row .edt x72 true, .row .edt x74 true]⟩ (by kernel_rfl) ⟨trivial, trivial, trivial⟩ ?_
    refine WO_nil rfl ?_
    refine thenS_n ?_
    refine iteO_e h (fun hb103 h => W_true rfl hb103 ?_) (fun hb103 h => W_false rfl hb103 ?_)
    · refine W_sub [0, 1, 2, 3] [5, 6, 7] (st' := ⟨[(5, .one (.e (.sl 2 0 x72.length))), (6, .one (.e (.sl 3 0 x74.length))), (7, I i89)], [.row .nod x1 false, .row .nod x2 false, .row .edt x72 true, .row .edt x74 true]⟩) (by kernel_rfl) ?_
      refine W_skip ?_
      refine thenS_n ?_
      refine W_seq ?_
      refine W_block ?_
      refine W_seq ?_
      refine guardO_e h (fun hg108 h => ?_)
      refine guardO_e h (fun hg109 h => ?_)
      refine W_cut (Q' := fun (e : Exit) (s : St) => e = .normal ∧ s = ⟨[(5, .one (.e (.sl 2 0 x72.length))), (6, .one (.e (.sl 3 0 x74.length))), (7, I i89), (41, B (!((decide (((x72.getD i89.toNat dedt).kind) = ((x74.getD i89.toNat dedt).kind))) && ((decide (((x72.getD i89.toNat dedt).path) = ((x74.getD i89.toNat dedt).path))) && ((decide (((x72.getD i89.toNat dedt).value) = ((x74.getD i89.toNat dedt).value))) && true)))))], [.row .nod x1 false, .row .nod x2 false, .row .edt x72 true, .row .edt x74 true]⟩) ?_ ?_
      · refine W_draw [] true (by kernel_rfl) (by kernel_rfl) ?_
        refine WD_takeK [0, 1, 2, 3, 4, 5, 6, 7, 8] [5, 6, 7, 41] [5, 6, 7, 41] (φ := ((0 ≤ i89 ∧ i89 < ((x72.length : Nat) : Int)) ∧ (0 ≤ i89 ∧ i89 < ((x72.length : Nat) : Int)) ∧ (True ∧ True ∧ ((0 ≤ i89 ∧ i89 < ((x74.length : Nat) : Int)) ∧ (0 ≤ i89 ∧ i89 < ((x74.length : Nat) : Int)) ∧ (True ∧ True ∧ (True ∧ True ∧ True)))))) (ls' := #[true, true, true, true, true, true, true, true, true]) (Ts' := [(5, .one (.e (.sl 2 0 x72.length))), (6, .one (.e (.sl 3 0 x74.length))), (7, I i89), (41, B (!((decide (((x72.getD i89.toNat dedt).kind) = ((x74.getD i89.toNat dedt).kind))) && ((decide (((x72.getD i89.toNat dedt).path) = ((x74.getD i89.toNat dedt).path))) && ((decide (((x72.getD i89.toNat dedt).value) = ((x74.getD i89.toNat dedt).value))) && true)))))]) (st' := ⟨[(5, .one (.e (.sl 2 0 x72.length))), (6, .one (.e (.sl 3 0 x74.length))), (7, I i89), (41, B (!((decide (((x72.getD i89.toNat dedt).kind) = ((x74.getD i89.toNat dedt).kind))) && ((decide (((x72.getD i89.toNat dedt).path) = ((x74.getD i89.toNat dedt).path))) && ((decide (((x72.getD i89.toNat dedt).value) = ((x74.getD i89.toNat dedt).value))) && true)))))], [.row .nod x1 false, .row .nod x2 false, .row .edt x72 true, .row .edt x74 true]⟩) (n2 := 0) (by kernel_rfl) ⟨hg108, hg108, trivial, trivial, hg109, hg109, trivial, trivial, trivial, trivial, trivial⟩ rfl ?_
        exact WD_done [0, 1, 2, 3] [5, 6, 7, 41] (st' := ⟨[(5, .one (.e (.sl 2 0 x72.length))), (6, .one (.e (.sl 3 0 x74.length))), (7, I i89), (41, B (!((decide (((x72.getD i89.toNat dedt).kind) = ((x74.getD i89.toNat dedt).kind))) && ((decide (((x72.getD i89.toNat dedt).path) = ((x74.getD i89.toNat dedt).path))) && ((decide (((x72.getD i89.toNat dedt).value) = ((x74.getD i89.toNat dedt).value))) && true)))))], [.row .nod x1 false, .row .nod x2 false, .row .edt x72 true, .row .edt x74 true]⟩) (by kernel_rfl) (by kernel_rfl) (And.intro rfl rfl)
      · rintro _ _ ⟨rfl, rfl⟩
        refine thenS_n ?_
        refine iteO_e h (fun hb111 h => W_true rfl hb111 ?_) (fun hb111 h => W_false rfl hb111 ?_)
        · refine W_seq ?_
          refine W_region ?_
          refine WO_step 1 [0, 1] [4] True ⟨[(4, B false)], [.row .nod x1 false, .row .nod x2 false]⟩ (by kernel_rfl) trivial ?_
          refine WO_nil rfl ?_
          refine thenS_n ?_
          refine W_ret ?_
          refine blockS_r ?_
          refine thenS_r ?_
          refine thenS_r ?_
          cases h
          exact And.intro rfl rfl
        · refine W_sub [0, 1, 2, 3] [5, 6, 7] (st' := ⟨[(5, .one (.e (.sl 2 0 x72.length))), (6, .one (.e (.sl 3 0 x74.length))), (7, I i89)], [.row .nod x1 false, .row .nod x2 false, .row .edt x72 true, .row .edt x74 true]⟩) (by kernel_rfl) ?_
          refine W_skip ?_
          refine blockS_n ?_
          refine thenS_n ?_
          refine W_region ?_
          refine WO_step 3 [0, 1, 2, 3] [5, 6, 7] (True ∧ True) ⟨[(5, .one (.e (.sl 2 0 x72.length))), (6, .one (.e (.sl 3 0 x74.length))), (7, I (w64 (i89 + 1)))], [.row .nod x1 false, .row .nod x2 false, .row .edt x72 true, .row .edt x74 true]⟩ (by kernel_rfl) ⟨trivial, trivial⟩ ?_
          refine WO_nil rfl ?_
          refine thenS_n ?_
          exact ih _ h
    · refine W_sub [0, 1] [] (st' := ⟨[], [.row .nod x1 false, .row .nod x2 false]⟩) (by kernel_rfl) ?_
      refine W_exit ?_
      refine thenS_e ?_
      refine thenS_e ?_
      cases h
      exact And.intro rfl rfl

def spec_SameTree (n : Nat) (x1 : List Nod) (x2 : List Nod) : Option (Bool) :=
 bindO (spec_validTree n x1) fun b58 =>
 bindO (iteO (!b58)
 (some true)
 (bindO (spec_validTree n x2) fun b67 =>
 iteO (!b67)
 (some true)
 (some (!decide (((x1.length : Nat) : Int) = ((x2.length : Nat) : Int)))))) fun b64 =>
 iteO b64
 (some false)
 (bindO (spec_entries n x1) fun x72 =>
 bindO (spec_entries n x2) fun x74 =>
 bindO (spec_SameTree_L1 x72 x74 x1 x2 n 0) fun v112 =>
 match v112 with
 | (.inl _) => (some false)
 | (.inr _) => (some true)
)

theorem spec_SameTree_ok (n : Nat) (x1 : List Nod) (x2 : List Nod) (b57 : Bool) (h : spec_SameTree n x1 x2 = some b57) : FOk EE 8 [.one (.e (.sl 0 0 x1.length)), .one (.e (.sl 1 0 x2.length))] [.row .nod x1 false, .row .nod x2 false] (B b57) [.row .nod x1 false, .row .nod x2 false] := by
  unfold spec_SameTree at h
  refine FOk_of_W 42 2 Try.func8 rfl rfl (Nat.le_of_ble_eq_true rfl) rfl (fun w X θ => ?_)
  refine W_seq ?_
  refine W_region ?_
  refine WO_step 1 [0, 1] [0, 1] True ⟨[(0, .one (.e (.sl 0 0 x1.length))), (1, .one (.e (.sl 1 0 x2.length)))], [.row .nod x1 false, .row .nod x2 false]⟩ (by kernel_rfl) trivial ?_
  refine WO_nil rfl ?_
  refine thenS_n ?_
  refine W_seq ?_
  refine W_seq ?_
  refine W_region ?_
  refine WO_step 1 [0, 1] [0, 1, 8] True ⟨[(0, .one (.e (.sl 0 0 x1.length))), (1, .one (.e (.sl 1 0 x2.length))), (8, .one (.e (.sl 0 0 x1.length)))], [.row .nod x1 false, .row .nod x2 false]⟩ (by kernel_rfl) trivial ?_
  refine bindO_e h (fun b58 hc59 h => ?_)
  refine WO_call [.ro 0] Try.f17 rfl rfl rfl (by kernel_rfl) Try.func17 rfl (by kernel_rfl) (spec_validTree_ok n x1 b58 hc59) (And.intro (And.intro rfl rfl) (trivial)) rfl ?_
  refine WO_step 2 [0, 1] [0, 1, 11] True ⟨[(0, .one (.e (.sl 0 0 x1.length))), (1, .one (.e (.sl 1 0 x2.length))), (11, B (!b58))], [.row .nod x1 false, .row .nod x2 false]⟩ (by kernel_rfl) trivial ?_
  refine bindO_e h (fun b64 hv65 h => ?_)
  refine WO_thru ⟨[(0, .one (.e (.sl 0 0 x1.length))), (1, .one (.e (.sl 1 0 x2.length))), (22, B b64)], [.row .nod x1 false, .row .nod x2 false]⟩ ?_ ?_
  · refine iteO_e hv65 (fun hb66 hv65 => WO_known 11 true rfl hb66 ?_) (fun hb66 hv65 => WO_known 11 false rfl hb66 ?_)
    · refine WO_step 11 [0, 1] [0, 1, 22] True ⟨[(0, .one (.e (.sl 0 0 x1.length))), (1, .one (.e (.sl 1 0 x2.length))), (22, B true)], [.row .nod x1 false, .row .nod x2 false]⟩ (by kernel_rfl) trivial ?_
      cases hv65
      exact WO_nil rfl ⟨rfl, rfl⟩
    · refine WO_step 1 [0, 1] [0, 1, 11, 12] True ⟨[(0, .one (.e (.sl 0 0 x1.length))), (1, .one (.e (.sl 1 0 x2.length))), (11, B false), (12, .one (.e (.sl 1 0 x2.length)))], [.row .nod x1 false, .row .nod x2 false]⟩ (by kernel_rfl) trivial ?_
      refine bindO_e hv65 (fun b67 hc68 hv65 => ?_)
      refine WO_call [.ro 1] Try.f17 rfl rfl rfl (by kernel_rfl) Try.func17 rfl (by kernel_rfl) (spec_validTree_ok n x2 b67 hc68) (And.intro (And.intro rfl rfl) (trivial)) rfl ?_
      refine WO_step 3 [0, 1] [0, 1, 16] True ⟨[(0, .one (.e (.sl 0 0 x1.length))), (1, .one (.e (.sl 1 0 x2.length))), (16, B (!b67))], [.row .nod x1 false, .row .nod x2 false]⟩ (by kernel_rfl) trivial ?_
      refine iteO_e hv65 (fun hb69 hv65 => WO_known 16 true rfl hb69 ?_) (fun hb69 hv65 => WO_known 16 false rfl hb69 ?_)
      · refine WO_step 6 [0, 1] [0, 1, 22] True ⟨[(0, .one (.e (.sl 0 0 x1.length))), (1, .one (.e (.sl 1 0 x2.length))), (22, B true)], [.row .nod x1 false, .row .nod x2 false]⟩ (by kernel_rfl) trivial ?_
        cases hv65
        exact WO_nil rfl ⟨rfl, rfl⟩
      · refine WO_step 6 [0, 1] [0, 1, 22] (True ∧ (True ∧ (True ∧ True))) ⟨[(0, .one (.e (.sl 0 0 x1.length))), (1, .one (.e (.sl 1 0 x2.length))), (22, B (!decide (((x1.length : Nat) : Int) = ((x2.length : Nat) : Int))))], [.row .nod x1 false, .row .nod x2 false]⟩ (by kernel_rfl) ⟨trivial, trivial, trivial, trivial⟩ ?_
        cases hv65
        exact WO_nil rfl ⟨rfl, rfl⟩
  · refine thenS_n ?_
    refine iteO_e h (fun hb71 h => W_true rfl hb71 ?_) (fun hb71 h => W_false rfl hb71 ?_)
    · refine W_seq ?_
      refine W_region ?_
      refine WO_step 1 [0, 1] [4] True ⟨[(4, B false)], [.row .nod x1 false, .row .nod x2 false]⟩ (by kernel_rfl) trivial ?_
      refine WO_nil rfl ?_
      refine thenS_n ?_
      refine W_ret ?_
      refine thenS_r ?_
      cases h
      exact ⟨[0, 1], True, by kernel_rfl, trivial⟩
    · refine W_sub [0, 1] [0, 1] (st' := ⟨[(0, .one (.e (.sl 0 0 x1.length))), (1, .one (.e (.sl 1 0 x2.length)))], [.row .nod x1 false, .row .nod x2 false]⟩) (by kernel_rfl) ?_
      refine W_skip ?_
      refine thenS_n ?_
      refine W_seq ?_
      refine W_region ?_
      refine WO_step 1 [0, 1] [1, 23] True ⟨[(1, .one (.e (.sl 1 0 x2.length))), (23, .one (.e (.sl 0 0 x1.length)))], [.row .nod x1 false, .row .nod x2 false]⟩ (by kernel_rfl) trivial ?_
      refine bindO_e h (fun x72 hc73 h => ?_)
      refine WO_call [.ro 0] Try.f18 rfl rfl rfl (by kernel_rfl) Try.func18 rfl (by kernel_rfl) (spec_entries_ok n x1 x72 hc73) (And.intro (And.intro rfl rfl) (trivial)) rfl ?_
      refine WO_step 1 [0, 1, 2] [1, 5] True ⟨[(1, .one (.e (.sl 1 0 x2.length))), (5, .one (.e (.sl 2 0 x72.length)))], [.row .nod x1 false, .row .nod x2 false, .row .edt x72 true]⟩ (by kernel_rfl) trivial ?_
      refine WO_nil rfl ?_
      refine thenS_n ?_
      refine W_seq ?_
      refine W_region ?_
      refine WO_step 1 [0, 1, 2] [5, 25] True ⟨[(5, .one (.e (.sl 2 0 x72.length))), (25, .one (.e (.sl 1 0 x2.length)))], [.row .nod x1 false, .row .nod x2 false, .row .edt x72 true]⟩ (by kernel_rfl) trivial ?_
      refine bindO_e h (fun x74 hc75 h => ?_)
      refine WO_call [.ro 1] Try.f18 rfl rfl rfl (by kernel_rfl) Try.func18 rfl (by kernel_rfl) (spec_entries_ok n x2 x74 hc75) (And.intro (And.intro rfl rfl) (trivial)) rfl ?_
      refine WO_step 1 [0, 1, 2, 3] [5, 6] True ⟨[(5, .one (.e (.sl 2 0 x72.length))), (6, .one (.e (.sl 3 0 x74.length)))], [.row .nod x1 false, .row .nod x2 false, .row .edt x72 true, .row .edt x74 true]⟩ (by kernel_rfl) trivial ?_
      refine WO_nil rfl ?_
      refine thenS_n ?_
      refine W_seq ?_
      refine W_seq ?_
      refine W_region ?_
      refine WO_step 1 [0, 1, 2, 3] [5, 6, 7] True ⟨[(5, .one (.e (.sl 2 0 x72.length))), (6, .one (.e (.sl 3 0 x74.length))), (7, I 0)], [.row .nod x1 false, .row .nod x2 false, .row .edt x72 true, .row .edt x74 true]⟩ (by kernel_rfl) trivial ?_
      refine WO_nil rfl ?_
      refine thenS_n ?_
      refine W_block ?_
      refine W_loop ?_
      refine bindO_e h (fun v112 hv112 h => ?_)
      refine WL_cut (spec_SameTree_L1_ok w X θ x72 x74 x1 x2 v112 n 0 hv112) ?_
      rcases v112 with _ | _
      · rintro _ _ ⟨rfl, rfl⟩
        refine blockS_r ?_
        refine thenS_r ?_
        cases h
        exact ⟨[0, 1], True, by kernel_rfl, trivial⟩
      · rintro _ _ ⟨rfl, rfl⟩
        refine blockS_y ?_
        refine thenS_n ?_
        refine W_seq ?_
        refine W_region ?_
        refine WO_step 1 [0, 1] [4] True ⟨[(4, B true)], [.row .nod x1 false, .row .nod x2 false]⟩ (by kernel_rfl) trivial ?_
        refine WO_nil rfl ?_
        refine thenS_n ?_
        refine W_ret ?_
        cases h
        exact ⟨[0, 1], True, by kernel_rfl, trivial⟩

/- laws.FnSameTree -/
def laws_FnSameTree (n : Nat) (x1 : List Int) : Option (Bool) :=
 iteO (decide (1048576 < ((x1.length : Nat) : Int)))
 (some true)
 (bindO (spec_DrawSameTree n x1) fun (x47, x48, k49, k50, k51, k52) =>
 bindO (impl_SameTree n ((x47.drop k49).take k50) ((x48.drop k51).take k52)) fun b54 =>
 bindO (spec_SameTree n ((x47.drop k49).take k50) ((x48.drop k51).take k52)) fun b56 =>
 bindO (iteO (!(b54 == b56))
 (some true)
 (bindO (impl_ValidTree n ((x47.drop k49).take k50)) fun b64 =>
 some (!b64))) fun b61 =>
 iteO b61
 (bindO (spec_SameTree n ((x47.drop k49).take k50) ((x48.drop k51).take k52)) fun b70 =>
 some (b54 == b70))
 (bindO (impl_SameTree n ((x47.drop k49).take k50) ((x47.drop k49).take k50)) fun b72 =>
 bindO (iteO b72
 (bindO (impl_SameTree n ((x48.drop k51).take k52) ((x47.drop k49).take k50)) fun b82 =>
 iteO (b82 == b54)
 (iteO (!b54)
 (some true)
 (some (decide (((k50 : Nat) : Int) = ((k52 : Nat) : Int)))))
 (some false))
 (some false)) fun b79 =>
 some b79))

theorem laws_FnSameTree_ok (n : Nat) (x1 : List Int) (b44 : Bool) (h : laws_FnSameTree n x1 = some b44) : FOk EE 4 [.one (.e (.sl 0 0 x1.length))] [.row .u8 x1 false] (B b44) [.row .u8 x1 false] := by
  unfold laws_FnSameTree at h
  refine FOk_of_W 53 1 Try.func4 rfl rfl (Nat.le_of_ble_eq_true rfl) rfl (fun w X θ => ?_)
  refine W_seq ?_
  refine W_region ?_
  refine WO_step 1 [0] [0] True ⟨[(0, .one (.e (.sl 0 0 x1.length)))], [.row .u8 x1 false]⟩ (by kernel_rfl) trivial ?_
  refine WO_nil rfl ?_
  refine thenS_n ?_
  refine W_seq ?_
  refine W_seq ?_
  refine W_region ?_
  refine WO_step 3 [0] [0, 8] (True ∧ (True ∧ True)) ⟨[(0, .one (.e (.sl 0 0 x1.length))), (8, B (decide (1048576 < ((x1.length : Nat) : Int))))], [.row .u8 x1 false]⟩ (by kernel_rfl) ⟨trivial, trivial, trivial⟩ ?_
  refine WO_nil rfl ?_
  refine thenS_n ?_
  refine iteO_e h (fun hb46 h => W_true rfl hb46 ?_) (fun hb46 h => W_false rfl hb46 ?_)
  · refine W_seq ?_
    refine W_region ?_
    refine WO_step 1 [0] [2] True ⟨[(2, B true)], [.row .u8 x1 false]⟩ (by kernel_rfl) trivial ?_
    refine WO_nil rfl ?_
    refine thenS_n ?_
    refine W_ret ?_
    refine thenS_r ?_
    cases h
    exact ⟨[0], True, by kernel_rfl, trivial⟩
  · refine W_sub [0] [0] (st' := ⟨[(0, .one (.e (.sl 0 0 x1.length)))], [.row .u8 x1 false]⟩) (by kernel_rfl) ?_
    refine W_skip ?_
    refine thenS_n ?_
    refine W_seq ?_
    refine W_region ?_
    refine WO_step 1 [0] [10] True ⟨[(10, .one (.e (.sl 0 0 x1.length)))], [.row .u8 x1 false]⟩ (by kernel_rfl) trivial ?_
    refine bindO_e h (fun v86 hc53 h => ?_)
    obtain ⟨x47, x48, k49, k50, k51, k52⟩ := v86
    refine WO_call [.ro 0] Try.f12 rfl rfl rfl (by kernel_rfl) Try.func12 rfl (by kernel_rfl) (spec_DrawSameTree_ok n x1 x47 x48 k49 k50 k51 k52 hc53) (And.intro (And.intro rfl rfl) (trivial)) rfl ?_
    refine WO_step 5 [0, 1, 2] [3, 4] True ⟨[(3, .one (.e (.sl 1 k49 k50))), (4, .one (.e (.sl 2 k51 k52)))], [.row .u8 x1 false, .row .nod x47 true, .row .nod x48 true]⟩ (by kernel_rfl) trivial ?_
    refine WO_nil rfl ?_
    refine thenS_n ?_
    refine W_seq ?_
    refine W_region ?_
    refine WO_step 2 [0, 1, 2] [3, 4, 14, 15] True ⟨[(3, .one (.e (.sl 1 k49 k50))), (4, .one (.e (.sl 2 k51 k52))), (14, .one (.e (.sl 1 k49 k50))), (15, .one (.e (.sl 2 k51 k52)))], [.row .u8 x1 false, .row .nod x47 true, .row .nod x48 true]⟩ (by kernel_rfl) trivial ?_
    refine bindO_e h (fun b54 hc55 h => ?_)
    refine WO_call [.view 0, .view 1] Try.f10 rfl rfl rfl (by kernel_rfl) Try.func10 rfl (by kernel_rfl) (impl_SameTree_ok n ((x47.drop k49).take k50) ((x48.drop k51).take k52) b54 hc55) (trivial) rfl ?_
    refine WO_step 1 [0, 1, 2] [3, 4, 5] True ⟨[(3, .one (.e (.sl 1 k49 k50))), (4, .one (.e (.sl 2 k51 k52))), (5, B b54)], [.row .u8 x1 false, .row .nod x47 true, .row .nod x48 true]⟩ (by kernel_rfl) trivial ?_
    refine WO_nil rfl ?_
    refine thenS_n ?_
    refine W_seq ?_
    refine W_seq ?_
    refine W_region ?_
    refine WO_step 3 [0, 1, 2] [3, 4, 5, 17, 18, 19] True ⟨[(3, .one (.e (.sl 1 k49 k50))), (4, .one (.e (.sl 2 k51 k52))), (5, B b54), (17, B b54), (18, .one (.e (.sl 1 k49 k50))), (19, .one (.e (.sl 2 k51 k52)))], [.row .u8 x1 false, .row .nod x47 true, .row .nod x48 true]⟩ (by kernel_rfl) trivial ?_
    refine bindO_e h (fun b56 hc57 h => ?_)
    refine WO_call [.view 0, .view 1] Try.f8 rfl rfl rfl (by kernel_rfl) Try.func8 rfl (by kernel_rfl) (spec_SameTree_ok n ((x47.drop k49).take k50) ((x48.drop k51).take k52) b56 hc57) (trivial) rfl ?_
    refine WO_step 2 [0, 1, 2] [3, 4, 5, 22] (True ∧ True) ⟨[(3, .one (.e (.sl 1 k49 k50))), (4, .one (.e (.sl 2 k51 k52))), (5, B b54), (22, B (!(b54 == b56)))], [.row .u8 x1 false, .row .nod x47 true, .row .nod x48 true]⟩ (by kernel_rfl) ⟨trivial, trivial⟩ ?_
    refine bindO_e h (fun b61 hv62 h => ?_)
    refine WO_thru ⟨[(3, .one (.e (.sl 1 k49 k50))), (4, .one (.e (.sl 2 k51 k52))), (5, B b54), (26, B b61)], [.row .u8 x1 false, .row .nod x47 true, .row .nod x48 true]⟩ ?_ ?_
    · refine iteO_e hv62 (fun hb63 hv62 => WO_known 22 true rfl hb63 ?_) (fun hb63 hv62 => WO_known 22 false rfl hb63 ?_)
      · refine WO_step 4 [0, 1, 2] [3, 4, 5, 26] True ⟨[(3, .one (.e (.sl 1 k49 k50))), (4, .one (.e (.sl 2 k51 k52))), (5, B b54), (26, B true)], [.row .u8 x1 false, .row .nod x47 true, .row .nod x48 true]⟩ (by kernel_rfl) trivial ?_
        cases hv62
        exact WO_nil rfl ⟨rfl, rfl⟩
      · refine WO_step 1 [0, 1, 2] [3, 4, 5, 22, 23] True ⟨[(3, .one (.e (.sl 1 k49 k50))), (4, .one (.e (.sl 2 k51 k52))), (5, B b54), (22, B false), (23, .one (.e (.sl 1 k49 k50)))], [.row .u8 x1 false, .row .nod x47 true, .row .nod x48 true]⟩ (by kernel_rfl) trivial ?_
        refine bindO_e hv62 (fun b64 hc65 hv62 => ?_)
        refine WO_call [.view 0] Try.f13 rfl rfl rfl (by kernel_rfl) Try.func13 rfl (by kernel_rfl) (impl_ValidTree_ok n ((x47.drop k49).take k50) b64 hc65) (trivial) rfl ?_
        refine WO_step 2 [0, 1, 2] [3, 4, 5, 26] True ⟨[(3, .one (.e (.sl 1 k49 k50))), (4, .one (.e (.sl 2 k51 k52))), (5, B b54), (26, B (!b64))], [.row .u8 x1 false, .row .nod x47 true, .row .nod x48 true]⟩ (by kernel_rfl) trivial ?_
        cases hv62
        exact WO_nil rfl ⟨rfl, rfl⟩
    · refine thenS_n ?_
      refine iteO_e h (fun hb69 h => W_true rfl hb69 ?_) (fun hb69 h => W_false rfl hb69 ?_)
      · refine W_seq ?_
        refine W_region ?_
        refine WO_step 3 [0, 1, 2] [27, 28, 29] True ⟨[(27, B b54), (28, .one (.e (.sl 1 k49 k50))), (29, .one (.e (.sl 2 k51 k52)))], [.row .u8 x1 false, .row .nod x47 true, .row .nod x48 true]⟩ (by kernel_rfl) trivial ?_
        refine bindO_e h (fun b70 hc71 h => ?_)
        refine WO_call [.view 0, .view 1] Try.f8 rfl rfl rfl (by kernel_rfl) Try.func8 rfl (by kernel_rfl) (spec_SameTree_ok n ((x47.drop k49).take k50) ((x48.drop k51).take k52) b70 hc71) (trivial) rfl ?_
        refine WO_step 2 [0] [2] (True ∧ True) ⟨[(2, B (b54 == b70))], [.row .u8 x1 false]⟩ (by kernel_rfl) ⟨trivial, trivial⟩ ?_
        refine WO_nil rfl ?_
        refine thenS_n ?_
        refine W_ret ?_
        refine thenS_r ?_
        cases h
        exact ⟨[0], True, by kernel_rfl, trivial⟩
      · refine W_sub [0, 1, 2] [3, 4, 5] (st' := ⟨[(3, .one (.e (.sl 1 k49 k50))), (4, .one (.e (.sl 2 k51 k52))), (5, B b54)], [.row .u8 x1 false, .row .nod x47 true, .row .nod x48 true]⟩) (by kernel_rfl) ?_
        refine W_skip ?_
        refine thenS_n ?_
        refine W_seq ?_
        refine W_region ?_
        refine WO_step 2 [0, 1, 2] [3, 4, 5, 32, 33] True ⟨[(3, .one (.e (.sl 1 k49 k50))), (4, .one (.e (.sl 2 k51 k52))), (5, B b54), (32, .one (.e (.sl 1 k49 k50))), (33, .one (.e (.sl 1 k49 k50)))], [.row .u8 x1 false, .row .nod x47 true, .row .nod x48 true]⟩ (by kernel_rfl) trivial ?_
        refine bindO_e h (fun b72 hc73 h => ?_)
        refine WO_call [.view 0, .view 1] Try.f10 rfl rfl rfl (by kernel_rfl) Try.func10 rfl (by kernel_rfl) (impl_SameTree_ok n ((x47.drop k49).take k50) ((x47.drop k49).take k50) b72 hc73) (trivial) rfl ?_
        refine WO_step 1 [0, 1, 2] [3, 4, 5, 35] True ⟨[(3, .one (.e (.sl 1 k49 k50))), (4, .one (.e (.sl 2 k51 k52))), (5, B b54), (35, B b72)], [.row .u8 x1 false, .row .nod x47 true, .row .nod x48 true]⟩ (by kernel_rfl) trivial ?_
        refine bindO_e h (fun b79 hv80 h => ?_)
        refine WO_thru ⟨[(2, B b79)], [.row .u8 x1 false]⟩ ?_ ?_
        · refine iteO_e hv80 (fun hb81 hv80 => WO_known 35 true rfl hb81 ?_) (fun hb81 hv80 => WO_known 35 false rfl hb81 ?_)
          · refine WO_step 2 [0, 1, 2] [3, 4, 5, 35, 36, 37] True ⟨[(3, .one (.e (.sl 1 k49 k50))), (4, .one (.e (.sl 2 k51 k52))), (5, B b54), (35, B true), (36, .one (.e (.sl 2 k51 k52))), (37, .one (.e (.sl 1 k49 k50)))], [.row .u8 x1 false, .row .nod x47 true, .row .nod x48 true]⟩ (by kernel_rfl) trivial ?_
            refine bindO_e hv80 (fun b82 hc83 hv80 => ?_)
            refine WO_call [.view 0, .view 1] Try.f10 rfl rfl rfl (by kernel_rfl) Try.func10 rfl (by kernel_rfl) (impl_SameTree_ok n ((x48.drop k51).take k52) ((x47.drop k49).take k50) b82 hc83) (trivial) rfl ?_
            refine WO_step 4 [0, 1, 2] [3, 4, 5, 42] (True ∧ True) ⟨[(3, .one (.e (.sl 1 k49 k50))), (4, .one (.e (.sl 2 k51 k52))), (5, B b54), (42, B (b82 == b54))], [.row .u8 x1 false, .row .nod x47 true, .row .nod x48 true]⟩ (by kernel_rfl) ⟨trivial, trivial⟩ ?_
            refine iteO_e hv80 (fun hb84 hv80 => WO_known 42 true rfl hb84 ?_) (fun hb84 hv80 => WO_known 42 false rfl hb84 ?_)
            · refine WO_step 3 [0, 1, 2] [3, 4, 42, 45] True ⟨[(3, .one (.e (.sl 1 k49 k50))), (4, .one (.e (.sl 2 k51 k52))), (42, B true), (45, B (!b54))], [.row .u8 x1 false, .row .nod x47 true, .row .nod x48 true]⟩ (by kernel_rfl) trivial ?_
              refine iteO_e hv80 (fun hb85 hv80 => WO_known 45 true rfl hb85 ?_) (fun hb85 hv80 => WO_known 45 false rfl hb85 ?_)
              · refine WO_step 8 [0] [2] True ⟨[(2, B true)], [.row .u8 x1 false]⟩ (by kernel_rfl) trivial ?_
                cases hv80
                exact WO_nil rfl ⟨rfl, rfl⟩
              · refine WO_step 8 [0] [2] (True ∧ (True ∧ (True ∧ True))) ⟨[(2, B (decide (((k50 : Nat) : Int) = ((k52 : Nat) : Int))))], [.row .u8 x1 false]⟩ (by kernel_rfl) ⟨trivial, trivial, trivial, trivial⟩ ?_
                cases hv80
                exact WO_nil rfl ⟨rfl, rfl⟩
            · refine WO_step 11 [0] [2] True ⟨[(2, B false)], [.row .u8 x1 false]⟩ (by kernel_rfl) trivial ?_
              cases hv80
              exact WO_nil rfl ⟨rfl, rfl⟩
          · refine WO_step 18 [0] [2] True ⟨[(2, B false)], [.row .u8 x1 false]⟩ (by kernel_rfl) trivial ?_
            cases hv80
            exact WO_nil rfl ⟨rfl, rfl⟩
        · refine thenS_n ?_
          refine W_ret ?_
          cases h
          exact ⟨[0], True, by kernel_rfl, trivial⟩

/- laws.FnSameTreePaths -/
def laws_FnSameTreePaths_L1 (k114 : Nat) (k115 : Nat) (k116 : Nat) (k117 : Nat) (x1 : List Int) (x112 : List Nod) (x113 : List Nod) : Nat → Int → Option ((Unit) ⊕ (Unit))
| 0, _ => none
| n + 1, i161 =>
 iteO (decide (i161 < ((k115 : Nat) : Int)))
 (bindO (impl_PathText n ((x112.drop k114).take k115) i161) fun s204 =>
 bindO (impl_ResolvePath n ((x113.drop k116).take k117) s204) fun i206 =>
 bindO (iteO (decide (i206 < 0))
 (some true)
 (iteO (decide (((k117 : Nat) : Int) ≤ i206))
 (some true)
 (guardO (0 ≤ i206 ∧ i206 < ((k117 : Nat) : Int)) <|
 guardO (0 ≤ i161 ∧ i161 < ((k115 : Nat) : Int)) <|
 some (!decide (((x113.getD (addN k116 i206.toNat) dnod).value) = ((x112.getD (addN k114 i161.toNat) dnod).value)))))) fun b212 =>
 iteO b212
 (some (.inl ()))
 (laws_FnSameTreePaths_L1 k114 k115 k116 k117 x1 x112 x113 n (w64 (i161 + 1))))
 (some (.inr ()))

theorem laws_FnSameTreePaths_L1_ok (w : World) (X : Nat → Prop) (θ : List Loc) (k114 : Nat) (k115 : Nat) (k116 : Nat) (k117 : Nat) (x1 : List Int) (x112 : List Nod) (x113 : List Nod) (v : (Unit) ⊕ (Unit)) : ∀ (n : Nat) (i161 : Int), laws_FnSameTreePaths_L1 k114 k115 k116 k117 x1 x112 x113 n i161 = some v → WL EE ⟨w, X, θ, 65, 1⟩ (subC [1, 1, 1, 1, 1, 0, 1, 4, 4] (bodyC Try.f5)) (fun (e : Exit) (s : St) => (match v with | (.inl _) => e = .ret ∧ s = ⟨[(2, B false)], [.row .u8 x1 false]⟩ | (.inr _) => e = .exit 0 ∧ s = ⟨[], [.row .u8 x1 false]⟩ : Prop)) ⟨[(3, .one (.e (.sl 1 k114 k115))), (4, .one (.e (.sl 2 k116 k117))), (6, I i161)], [.row .u8 x1 false, .row .nod x112 true, .row .nod x113 true]⟩ := by
  intro n
  induction n with
  | zero => intro _ h; exact none_e h
  | succ n ih =>
    intro i161 h
    rw [laws_FnSameTreePaths_L1] at h
    refine WL_round ?_
    refine W_seq ?_
    refine W_seq ?_
    refine W_region ?_
    refine WO_step 4 [0, 1, 2] [3, 4, 6, 36] (True ∧ (True ∧ True)) ⟨[(3, .one (.e (.sl 1 k114 k115))), (4, .one (.e (.sl 2 k116 k117))), (6, I i161), (36, B (decide (i161 < ((k115 : Nat) : Int))))], [.row .u8 x1 false, .row .nod x112 true, .row .nod x113 true]⟩ (by kernel_rfl) ⟨trivial, trivial, trivial⟩ ?_
    refine WO_nil rfl ?_
    refine thenS_n ?_
    refine iteO_e h (fun hb191 h => W_true rfl hb191 ?_) (fun hb191 h => W_false rfl hb191 ?_)
    · refine W_sub [0, 1, 2] [3, 4, 6] (st' := ⟨[(3, .one (.e (.sl 1 k114 k115))), (4, .one (.e (.sl 2 k116 k117))), (6, I i161)], [.row .u8 x1 false, .row .nod x112 true, .row .nod x113 true]⟩) (by kernel_rfl) ?_
      refine W_skip ?_
      refine thenS_n ?_
      refine W_seq ?_
      refine W_block ?_
      refine W_seq ?_
      refine W_region ?_
      refine WO_step 3 [0, 1, 2] [3, 4, 6, 39, 40, 41] True ⟨[(3, .one (.e (.sl 1 k114 k115))), (4, .one (.e (.sl 2 k116 k117))), (6, I i161), (39, .one (.e (.sl 2 k116 k117))), (40, .one (.e (.sl 1 k114 k115))), (41, I i161)], [.row .u8 x1 false, .row .nod x112 true, .row .nod x113 true]⟩ (by kernel_rfl) trivial ?_
      refine bindO_e h (fun s204 hc205 h => ?_)
      refine WO_call [.view 0] Try.f15 rfl rfl rfl (by kernel_rfl) Try.func15 rfl (by kernel_rfl) (impl_PathText_ok n ((x112.drop k114).take k115) i161 s204 hc205) (trivial) rfl ?_
      refine WO_sub [0, 1, 2] [3, 4, 6, 39, 42] (st' := ⟨[(3, .one (.e (.sl 1 k114 k115))), (4, .one (.e (.sl 2 k116 k117))), (6, I i161), (39, .one (.e (.sl 2 k116 k117))), (42, S s204)], [.row .u8 x1 false, .row .nod x112 true, .row .nod x113 true]⟩) (by kernel_rfl) ?_
      refine bindO_e h (fun i206 hc207 h => ?_)
      refine WO_call [.view 0] Try.f14 rfl rfl rfl (by kernel_rfl) Try.func14 rfl (by kernel_rfl) (impl_ResolvePath_ok n ((x113.drop k116).take k117) s204 i206 hc207) (trivial) rfl ?_
      refine WO_step 1 [0, 1, 2] [3, 4, 6, 7] True ⟨[(3, .one (.e (.sl 1 k114 k115))), (4, .one (.e (.sl 2 k116 k117))), (6, I i161), (7, I i206)], [.row .u8 x1 false, .row .nod x112 true, .row .nod x113 true]⟩ (by kernel_rfl) trivial ?_
      refine WO_nil rfl ?_
      refine thenS_n ?_
      refine W_seq ?_
      refine bindO_e h (fun b212 hv213 h => ?_)
      refine W_cut (Q' := fun (e : Exit) (s : St) => e = .normal ∧ s = ⟨[(3, .one (.e (.sl 1 k114 k115))), (4, .one (.e (.sl 2 k116 k117))), (6, I i161), (64, B b212)], [.row .u8 x1 false, .row .nod x112 true, .row .nod x113 true]⟩) ?_ ?_
      · refine iteO_e hv213 (fun hb208 hv213 => ?_) (fun hb208 hv213 => ?_)
        · refine W_draw [] true (by kernel_rfl) (by kernel_rfl) ?_
          refine WD_takeK [0, 1, 2] [3, 4, 6, 7, 46] [3, 4, 6, 7, 46] (φ := (True ∧ True ∧ True)) (ls' := #[true, true, true, false, false, false, false, false, false, false, false, false, false, false, false, false, false, false, false, false, false]) (Ts' := [(3, .one (.e (.sl 1 k114 k115))), (4, .one (.e (.sl 2 k116 k117))), (6, I i161), (7, I i206), (46, B (decide (i206 < 0)))]) (st' := ⟨[(3, .one (.e (.sl 1 k114 k115))), (4, .one (.e (.sl 2 k116 k117))), (6, I i161), (7, I i206), (46, B (decide (i206 < 0)))], [.row .u8 x1 false, .row .nod x112 true, .row .nod x113 true]⟩) (n2 := 18) (by kernel_rfl) ⟨trivial, trivial, trivial⟩ rfl ?_
          refine WD_known 46 true rfl rfl hb208 ?_
          refine WD_takeK [3, 4, 5, 6, 7, 8, 9, 10, 11, 12, 13, 14, 15, 16, 17, 18, 19, 20] [3, 4, 6, 64] [3, 4, 6, 64] (φ := True) (ls' := #[true, true, true, true, true, true, true, true, true, true, true, true, true, true, true, true, true, true, true, true, true]) (Ts' := [(3, .one (.e (.sl 1 k114 k115))), (4, .one (.e (.sl 2 k116 k117))), (6, I i161), (64, B true)]) (st' := ⟨[(3, .one (.e (.sl 1 k114 k115))), (4, .one (.e (.sl 2 k116 k117))), (6, I i161), (64, B true)], [.row .u8 x1 false, .row .nod x112 true, .row .nod x113 true]⟩) (n2 := 0) (by kernel_rfl) trivial rfl ?_
          exact WD_done [0, 1, 2] [3, 4, 6, 64] (st' := ⟨[(3, .one (.e (.sl 1 k114 k115))), (4, .one (.e (.sl 2 k116 k117))), (6, I i161), (64, B true)], [.row .u8 x1 false, .row .nod x112 true, .row .nod x113 true]⟩) (by kernel_rfl) (by kernel_rfl) (And.intro rfl (by cases hv213; rfl))
        · refine iteO_e hv213 (fun hb209 hv213 => ?_) (fun hb209 hv213 => ?_)
          · refine W_draw [] true (by kernel_rfl) (by kernel_rfl) ?_
            refine WD_takeK [0, 1, 2] [3, 4, 6, 7, 46] [3, 4, 6, 7, 46] (φ := (True ∧ True ∧ True)) (ls' := #[true, true, true, false, false, false, false, false, false, false, false, false, false, false, false, false, false, false, false, false, false]) (Ts' := [(3, .one (.e (.sl 1 k114 k115))), (4, .one (.e (.sl 2 k116 k117))), (6, I i161), (7, I i206), (46, B (decide (i206 < 0)))]) (st' := ⟨[(3, .one (.e (.sl 1 k114 k115))), (4, .one (.e (.sl 2 k116 k117))), (6, I i161), (7, I i206), (46, B (decide (i206 < 0)))], [.row .u8 x1 false, .row .nod x112 true, .row .nod x113 true]⟩) (n2 := 18) (by kernel_rfl) ⟨trivial, trivial, trivial⟩ rfl ?_
            refine WD_known 46 false rfl rfl hb208 ?_
            refine WD_takeK [3, 4, 5, 6, 7, 8] [3, 4, 6, 7, 52] [3, 4, 6, 7, 52] (φ := (True ∧ True ∧ (True ∧ True ∧ True))) (ls' := #[true, true, true, true, true, true, true, true, true, false, false, false, false, false, false, false, false, false, false, false, false]) (Ts' := [(3, .one (.e (.sl 1 k114 k115))), (4, .one (.e (.sl 2 k116 k117))), (6, I i161), (7, I i206), (52, B (decide (((k117 : Nat) : Int) ≤ i206)))]) (st' := ⟨[(3, .one (.e (.sl 1 k114 k115))), (4, .one (.e (.sl 2 k116 k117))), (6, I i161), (7, I i206), (52, B (decide (((k117 : Nat) : Int) ≤ i206)))], [.row .u8 x1 false, .row .nod x112 true, .row .nod x113 true]⟩) (n2 := 12) (by kernel_rfl) ⟨trivial, trivial, trivial, trivial, trivial⟩ rfl ?_
            refine WD_known 52 true rfl rfl hb209 ?_
            refine WD_takeK [9, 10, 11, 12, 13, 14, 15, 16, 17, 18, 19, 20] [3, 4, 6, 64] [3, 4, 6, 64] (φ := True) (ls' := #[true, true, true, true, true, true, true, true, true, true, true, true, true, true, true, true, true, true, true, true, true]) (Ts' := [(3, .one (.e (.sl 1 k114 k115))), (4, .one (.e (.sl 2 k116 k117))), (6, I i161), (64, B true)]) (st' := ⟨[(3, .one (.e (.sl 1 k114 k115))), (4, .one (.e (.sl 2 k116 k117))), (6, I i161), (64, B true)], [.row .u8 x1 false, .row .nod x112 true, .row .nod x113 true]⟩) (n2 := 0) (by kernel_rfl) trivial rfl ?_
            exact WD_done [0, 1, 2] [3, 4, 6, 64] (st' := ⟨[(3, .one (.e (.sl 1 k114 k115))), (4, .one (.e (.sl 2 k116 k117))), (6, I i161), (64, B true)], [.row .u8 x1 false, .row .nod x112 true, .row .nod x113 true]⟩) (by kernel_rfl) (by kernel_rfl) (And.intro rfl (by cases hv213; rfl))
          · refine guardO_e hv213 (fun hg210 hv213 => ?_)
            refine guardO_e hv213 (fun hg211 hv213 => ?_)
            refine W_draw [] true (by kernel_rfl) (by kernel_rfl) ?_
            refine WD_takeK [0, 1, 2] [3, 4, 6, 7, 46] [3, 4, 6, 7, 46] (φ := (True ∧ True ∧ True)) (ls' := #[true, true, true, false, false, false, false, false, false, false, false, false, false, false, false, false, false, false, false, false, false]) (Ts' := [(3, .one (.e (.sl 1 k114 k115))), (4, .one (.e (.sl 2 k116 k117))), (6, I i161), (7, I i206), (46, B (decide (i206 < 0)))]) (st' := ⟨[(3, .one (.e (.sl 1 k114 k115))), (4, .one (.e (.sl 2 k116 k117))), (6, I i161), (7, I i206), (46, B (decide (i206 < 0)))], [.row .u8 x1 false, .row .nod x112 true, .row .nod x113 true]⟩) (n2 := 18) (by kernel_rfl) ⟨trivial, trivial, trivial⟩ rfl ?_
            refine WD_known 46 false rfl rfl hb208 ?_
            refine WD_takeK [3, 4, 5, 6, 7, 8] [3, 4, 6, 7, 52] [3, 4, 6, 7, 52] (φ := (True ∧ True ∧ (True ∧ True ∧ True))) (ls' := #[true, true, true, true, true, true, true, true, true, false, false, false, false, false, false, false, false, false, false, false, false]) (Ts' := [(3, .one (.e (.sl 1 k114 k115))), (4, .one (.e (.sl 2 k116 k117))), (6, I i161), (7, I i206), (52, B (decide (((k117 : Nat) : Int) ≤ i206)))]) (st' := ⟨[(3, .one (.e (.sl 1 k114 k115))), (4, .one (.e (.sl 2 k116 k117))), (6, I i161), (7, I i206), (52, B (decide (((k117 : Nat) : Int) ≤ i206)))], [.row .u8 x1 false, .row .nod x112 true, .row .nod x113 true]⟩) (n2 := 12) (by kernel_rfl) ⟨trivial, trivial, trivial, trivial, trivial⟩ rfl ?_
            refine WD_known 52 false rfl rfl hb209 ?_
            refine WD_takeK [9, 10, 11, 12, 13, 14, 15, 16, 17, 18, 19, 20] [3, 4, 6, 64] [3, 4, 6, 64] (φ := ((0 ≤ i206 ∧ i206 < ((k117 : Nat) : Int)) ∧ (0 ≤ i206 ∧ i206 < ((k117 : Nat) : Int)) ∧ (True ∧ True ∧ ((0 ≤ i161 ∧ i161 < ((k115 : Nat) : Int)) ∧ (0 ≤ i161 ∧ i161 < ((k115 : Nat) : Int)) ∧ (True ∧ True ∧ (True ∧ True ∧ True)))))) (ls' := #[true, true, true, true, true, true, true, true, true, true, true, true, true, true, true, true, true, true, true, true, true]) (Ts' := [(3, .one (.e (.sl 1 k114 k115))), (4, .one (.e (.sl 2 k116 k117))), (6, I i161), (64, B (!decide (((x113.getD (addN k116 i206.toNat) dnod).value) = ((x112.getD (addN k114 i161.toNat) dnod).value))))]) (st' := ⟨[(3, .one (.e (.sl 1 k114 k115))), (4, .one (.e (.sl 2 k116 k117))), (6, I i161), (64, B (!decide (((x113.getD (addN k116 i206.toNat) dnod).value) = ((x112.getD (addN k114 i161.toNat) dnod).value))))], [.row .u8 x1 false, .row .nod x112 true, .row .nod x113 true]⟩) (n2 := 0) (by kernel_rfl) ⟨hg210, hg210, trivial, trivial, hg211, hg211, trivial, trivial, trivial, trivial, trivial⟩ rfl ?_
            exact WD_done [0, 1, 2] [3, 4, 6, 64] (st' := ⟨[(3, .one (.e (.sl 1 k114 k115))), (4, .one (.e (.sl 2 k116 k117))), (6, I i161), (64, B (!decide (((x113.getD (addN k116 i206.toNat) dnod).value) = ((x112.getD (addN k114 i161.toNat) dnod).value))))], [.row .u8 x1 false, .row .nod x112 true, .row .nod x113 true]⟩) (by kernel_rfl) (by kernel_rfl) (And.intro rfl (by cases hv213; rfl))
      · rintro _ _ ⟨rfl, rfl⟩
        refine thenS_n ?_
        refine iteO_e h (fun hb215 h => W_true rfl hb215 ?_) (fun hb215 h => W_false rfl hb215 ?_)
        · refine W_seq ?_
          refine W_region ?_
          refine WO_step 1 [0] [2] True ⟨[(2, B false)], [.row .u8 x1 false]⟩ (by kernel_rfl) trivial ?_
          refine WO_nil rfl ?_
          refine thenS_n ?_
          refine W_ret ?_
          refine blockS_r ?_
          refine thenS_r ?_
          refine thenS_r ?_
          cases h
          exact And.intro rfl rfl
        · refine W_sub [0, 1, 2] [3, 4, 6] (st' := ⟨[(3, .one (.e (.sl 1 k114 k115))), (4, .one (.e (.sl 2 k116 k117))), (6, I i161)], [.row .u8 x1 false, .row .nod x112 true, .row .nod x113 true]⟩) (by kernel_rfl) ?_
          refine W_skip ?_
          refine blockS_n ?_
          refine thenS_n ?_
          refine W_region ?_
          refine WO_step 3 [0, 1, 2] [3, 4, 6] (True ∧ True) ⟨[(3, .one (.e (.sl 1 k114 k115))), (4, .one (.e (.sl 2 k116 k117))), (6, I (w64 (i161 + 1)))], [.row .u8 x1 false, .row .nod x112 true, .row .nod x113 true]⟩ (by kernel_rfl) ⟨trivial, trivial⟩ ?_
          refine WO_nil rfl ?_
          refine thenS_n ?_
          exact ih _ h
    · refine W_sub [0] [] (st' := ⟨[], [.row .u8 x1 false]⟩) (by kernel_rfl) ?_
      refine W_exit ?_
      refine thenS_e ?_
      refine thenS_e ?_
      cases h
      exact And.intro rfl rfl

def laws_FnSameTreePaths (n : Nat) (x1 : List Int) : Option (Bool) :=
 iteO (decide (1048576 < ((x1.length : Nat) : Int)))
 (some true)
 (bindO (spec_DrawSameTree n x1) fun (x112, x113, k114, k115, k116, k117) =>
 bindO (impl_SameTree n ((x112.drop k114).take k115) ((x113.drop k116).take k117)) fun b119 =>
 bindO (spec_SameTree n ((x112.drop k114).take k115) ((x113.drop k116).take k117)) fun b121 =>
 iteO ((!(b119 == b121)) || (!b119))
 (bindO (spec_SameTree n ((x112.drop k114).take k115) ((x113.drop k116).take k117)) fun b130 =>
 some (b119 == b130))
 (bindO (laws_FnSameTreePaths_L1 k114 k115 k116 k117 x1 x112 x113 n 0) fun v216 =>
 match v216 with
 | (.inl _) => (some false)
 | (.inr _) => (some true)
))

theorem laws_FnSameTreePaths_ok (n : Nat) (x1 : List Int) (b109 : Bool) (h : laws_FnSameTreePaths n x1 = some b109) : FOk EE 5 [.one (.e (.sl 0 0 x1.length))] [.row .u8 x1 false] (B b109) [.row .u8 x1 false] := by
  unfold laws_FnSameTreePaths at h
  refine FOk_of_W 65 1 Try.func5 rfl rfl (Nat.le_of_ble_eq_true rfl) rfl (fun w X θ => ?_)
  refine W_seq ?_
  refine W_region ?_
  refine WO_step 1 [0] [0] True ⟨[(0, .one (.e (.sl 0 0 x1.length)))], [.row .u8 x1 false]⟩ (by kernel_rfl) trivial ?_
  refine WO_nil rfl ?_
  refine thenS_n ?_
  refine W_seq ?_
  refine W_seq ?_
  refine W_region ?_
  refine WO_step 3 [0] [0, 10] (True ∧ (True ∧ True)) ⟨[(0, .one (.e (.sl 0 0 x1.length))), (10, B (decide (1048576 < ((x1.length : Nat) : Int))))], [.row .u8 x1 false]⟩ (by kernel_rfl) ⟨trivial, trivial, trivial⟩ ?_
  refine WO_nil rfl ?_
  refine thenS_n ?_
  refine iteO_e h (fun hb111 h => W_true rfl hb111 ?_) (fun hb111 h => W_false rfl hb111 ?_)
  · refine W_seq ?_
    refine W_region ?_
    refine WO_step 1 [0] [2] True ⟨[(2, B true)], [.row .u8 x1 false]⟩ (by kernel_rfl) trivial ?_
    refine WO_nil rfl ?_
    refine thenS_n ?_
    refine W_ret ?_
    refine thenS_r ?_
    cases h
    exact ⟨[0], True, by kernel_rfl, trivial⟩
  · refine W_sub [0] [0] (st' := ⟨[(0, .one (.e (.sl 0 0 x1.length)))], [.row .u8 x1 false]⟩) (by kernel_rfl) ?_
    refine W_skip ?_
    refine thenS_n ?_
    refine W_seq ?_
    refine W_region ?_
    refine WO_step 1 [0] [12] True ⟨[(12, .one (.e (.sl 0 0 x1.length)))], [.row .u8 x1 false]⟩ (by kernel_rfl) trivial ?_
    refine bindO_e h (fun v217 hc118 h => ?_)
    obtain ⟨x112, x113, k114, k115, k116, k117⟩ := v217
    refine WO_call [.ro 0] Try.f12 rfl rfl rfl (by kernel_rfl) Try.func12 rfl (by kernel_rfl) (spec_DrawSameTree_ok n x1 x112 x113 k114 k115 k116 k117 hc118) (And.intro (And.intro rfl rfl) (trivial)) rfl ?_
    refine WO_step 5 [0, 1, 2] [3, 4] True ⟨[(3, .one (.e (.sl 1 k114 k115))), (4, .one (.e (.sl 2 k116 k117)))], [.row .u8 x1 false, .row .nod x112 true, .row .nod x113 true]⟩ (by kernel_rfl) trivial ?_
    refine WO_nil rfl ?_
    refine thenS_n ?_
    refine W_seq ?_
    refine W_region ?_
    refine WO_step 2 [0, 1, 2] [3, 4, 16, 17] True ⟨[(3, .one (.e (.sl 1 k114 k115))), (4, .one (.e (.sl 2 k116 k117))), (16, .one (.e (.sl 1 k114 k115))), (17, .one (.e (.sl 2 k116 k117)))], [.row .u8 x1 false, .row .nod x112 true, .row .nod x113 true]⟩ (by kernel_rfl) trivial ?_
    refine bindO_e h (fun b119 hc120 h => ?_)
    refine WO_call [.view 0, .view 1] Try.f10 rfl rfl rfl (by kernel_rfl) Try.func10 rfl (by kernel_rfl) (impl_SameTree_ok n ((x112.drop k114).take k115) ((x113.drop k116).take k117) b119 hc120) (trivial) rfl ?_
    refine WO_step 1 [0, 1, 2] [3, 4, 5] True ⟨[(3, .one (.e (.sl 1 k114 k115))), (4, .one (.e (.sl 2 k116 k117))), (5, B b119)], [.row .u8 x1 false, .row .nod x112 true, .row .nod x113 true]⟩ (by kernel_rfl) trivial ?_
    refine WO_nil rfl ?_
    refine thenS_n ?_
    refine W_seq ?_
    refine W_seq ?_
    refine W_region ?_
    refine WO_step 3 [0, 1, 2] [3, 4, 5, 19, 20, 21] True ⟨[(3, .one (.e (.sl 1 k114 k115))), (4, .one (.e (.sl 2 k116 k117))), (5, B b119), (19, B b119), (20, .one (.e (.sl 1 k114 k115))), (21, .one (.e (.sl 2 k116 k117)))], [.row .u8 x1 false, .row .nod x112 true, .row .nod x113 true]⟩ (by kernel_rfl) trivial ?_
    refine bindO_e h (fun b121 hc122 h => ?_)
    refine WO_call [.view 0, .view 1] Try.f8 rfl rfl rfl (by kernel_rfl) Try.func8 rfl (by kernel_rfl) (spec_SameTree_ok n ((x112.drop k114).take k115) ((x113.drop k116).take k117) b121 hc122) (trivial) rfl ?_
    refine WO_step 2 [0, 1, 2] [3, 4, 5, 24] (True ∧ True) ⟨[(3, .one (.e (.sl 1 k114 k115))), (4, .one (.e (.sl 2 k116 k117))), (5, B b119), (24, B (!(b119 == b121)))], [.row .u8 x1 false, .row .nod x112 true, .row .nod x113 true]⟩ (by kernel_rfl) ⟨trivial, trivial⟩ ?_
    refine WO_thru ⟨[(3, .one (.e (.sl 1 k114 k115))), (4, .one (.e (.sl 2 k116 k117))), (5, B b119), (27, B ((!(b119 == b121)) || (!b119)))], [.row .u8 x1 false, .row .nod x112 true, .row .nod x113 true]⟩ ?_ ?_
    · refine WO_if 24 rfl (fun hb125 => ?_) (fun hb125 => ?_)
      · refine WO_step 3 [0, 1, 2] [3, 4, 5, 27] True ⟨[(3, .one (.e (.sl 1 k114 k115))), (4, .one (.e (.sl 2 k116 k117))), (5, B b119), (27, B true)], [.row .u8 x1 false, .row .nod x112 true, .row .nod x113 true]⟩ (by kernel_rfl) trivial ?_
        exact WO_nil rfl ⟨rfl, by first | rfl | (rw [hb125]; first | done | rfl)⟩
      · refine WO_step 3 [0, 1, 2] [3, 4, 5, 27] True ⟨[(3, .one (.e (.sl 1 k114 k115))), (4, .one (.e (.sl 2 k116 k117))), (5, B b119), (27, B (!b119))], [.row .u8 x1 false, .row .nod x112 true, .row .nod x113 true]⟩ (by kernel_rfl) trivial ?_
        exact WO_nil rfl ⟨rfl, by first | rfl | (rw [hb125]; first | done | rfl)⟩
    · refine thenS_n ?_
      refine iteO_e h (fun hb129 h => W_true rfl hb129 ?_) (fun hb129 h => W_false rfl hb129 ?_)
      · refine W_seq ?_
        refine W_region ?_
        refine WO_step 3 [0, 1, 2] [28, 29, 30] True ⟨[(28, B b119), (29, .one (.e (.sl 1 k114 k115))), (30, .one (.e (.sl 2 k116 k117)))], [.row .u8 x1 false, .row .nod x112 true, .row .nod x113 true]⟩ (by kernel_rfl) trivial ?_
        refine bindO_e h (fun b130 hc131 h => ?_)
        refine WO_call [.view 0, .view 1] Try.f8 rfl rfl rfl (by kernel_rfl) Try.func8 rfl (by kernel_rfl) (spec_SameTree_ok n ((x112.drop k114).take k115) ((x113.drop k116).take k117) b130 hc131) (trivial) rfl ?_
        refine WO_step 2 [0] [2] (True ∧ True) ⟨[(2, B (b119 == b130))], [.row .u8 x1 false]⟩ (by kernel_rfl) ⟨trivial, trivial⟩ ?_
        refine WO_nil rfl ?_
        refine thenS_n ?_
        refine W_ret ?_
        refine thenS_r ?_
        cases h
        exact ⟨[0], True, by kernel_rfl, trivial⟩
      · refine W_sub [0, 1, 2] [3, 4] (st' := ⟨[(3, .one (.e (.sl 1 k114 k115))), (4, .one (.e (.sl 2 k116 k117)))], [.row .u8 x1 false, .row .nod x112 true, .row .nod x113 true]⟩) (by kernel_rfl) ?_
        refine W_skip ?_
        refine thenS_n ?_
        refine W_seq ?_
        refine W_seq ?_
        refine W_region ?_
        refine WO_step 1 [0, 1, 2] [3, 4, 6] True ⟨[(3, .one (.e (.sl 1 k114 k115))), (4, .one (.e (.sl 2 k116 k117))), (6, I 0)], [.row .u8 x1 false, .row .nod x112 true, .row .nod x113 true]⟩ (by kernel_rfl) trivial ?_
        refine WO_nil rfl ?_
        refine thenS_n ?_
        refine W_block ?_
        refine W_loop ?_
        refine bindO_e h (fun v216 hv216 h => ?_)
        refine WL_cut (laws_FnSameTreePaths_L1_ok w X θ k114 k115 k116 k117 x1 x112 x113 v216 n 0 hv216) ?_
        rcases v216 with _ | _
        · rintro _ _ ⟨rfl, rfl⟩
          refine blockS_r ?_
          refine thenS_r ?_
          cases h
          exact ⟨[0], True, by kernel_rfl, trivial⟩
        · rintro _ _ ⟨rfl, rfl⟩
          refine blockS_y ?_
          refine thenS_n ?_
          refine W_seq ?_
          refine W_region ?_
          refine WO_step 1 [0] [2] True ⟨[(2, B true)], [.row .u8 x1 false]⟩ (by kernel_rfl) trivial ?_
          refine WO_nil rfl ?_
          refine thenS_n ?_
          refine W_ret ?_
          cases h
          exact ⟨[0], True, by kernel_rfl, trivial⟩

/- laws.FnSameTreeValue -/
def laws_FnSameTreeValue (n : Nat) (x1 : List Int) : Option (Bool) :=
 iteO (decide (1048576 < ((x1.length : Nat) : Int)))
 (some true)
 (bindO (spec_DrawSameTree n x1) fun (x45, x46, k47, k48, k49, k50) =>
 bindO (impl_SameTree n ((x45.drop k47).take k48) ((x46.drop k49).take k50)) fun b52 =>
 bindO (spec_SameTree n ((x45.drop k47).take k48) ((x46.drop k49).take k50)) fun b54 =>
 bindO (iteO (!(b52 == b54))
 (some true)
 (bindO (impl_ValidTree n ((x45.drop k47).take k48)) fun b62 =>
 some (!b62))) fun b59 =>
 iteO b59
 (bindO (spec_SameTree n ((x45.drop k47).take k48) ((x46.drop k49).take k50)) fun b68 =>
 some (b52 == b68))
 (guardO (0 = 0 ∧ ([] : List Nod).length = ([] : List Nod).length ∧ ([] : List Nod).length + ((x45.drop k47).take k48).length ≤ 1099511627776) <|
 guardO (((((([] : List Nod) ++ ((x45.drop k47).take k48)).length : Nat) : Int) : Int) ≠ 0) <|
 guardO (0 ≤ (((x1.length : Nat) : Int).tmod (((([] : List Nod) ++ ((x45.drop k47).take k48)).length : Nat) : Int)) ∧ (((x1.length : Nat) : Int).tmod (((([] : List Nod) ++ ((x45.drop k47).take k48)).length : Nat) : Int)) < (((([] : List Nod) ++ ((x45.drop k47).take k48)).length : Nat) : Int)) <|
 bindO (iteO (decide (0 < (((([] : List Nod) ++ ((x45.drop k47).take k48)).getD ((((x1.length : Nat) : Int).tmod (((([] : List Nod) ++ ((x45.drop k47).take k48)).length : Nat) : Int)).toNat) dnod).value)))
 (guardO (0 ≤ (((x1.length : Nat) : Int).tmod (((([] : List Nod) ++ ((x45.drop k47).take k48)).length : Nat) : Int)) ∧ (((x1.length : Nat) : Int).tmod (((([] : List Nod) ++ ((x45.drop k47).take k48)).length : Nat) : Int)) < (((([] : List Nod) ++ ((x45.drop k47).take k48)).length : Nat) : Int)) <|
 guardO (0 ≤ (((x1.length : Nat) : Int).tmod (((([] : List Nod) ++ ((x45.drop k47).take k48)).length : Nat) : Int)) ∧ (((x1.length : Nat) : Int).tmod (((([] : List Nod) ++ ((x45.drop k47).take k48)).length : Nat) : Int)) < (((([] : List Nod) ++ ((x45.drop k47).take k48)).length : Nat) : Int)) <|
 some ((([] : List Nod) ++ ((x45.drop k47).take k48)).set ((((x1.length : Nat) : Int).tmod (((([] : List Nod) ++ ((x45.drop k47).take k48)).length : Nat) : Int)).toNat) (⟨((([] : List Nod) ++ ((x45.drop k47).take k48)).getD ((((x1.length : Nat) : Int).tmod (((([] : List Nod) ++ ((x45.drop k47).take k48)).length : Nat) : Int)).toNat) dnod).parent, ((([] : List Nod) ++ ((x45.drop k47).take k48)).getD ((((x1.length : Nat) : Int).tmod (((([] : List Nod) ++ ((x45.drop k47).take k48)).length : Nat) : Int)).toNat) dnod).name, (w64 ((((([] : List Nod) ++ ((x45.drop k47).take k48)).getD ((((x1.length : Nat) : Int).tmod (((([] : List Nod) ++ ((x45.drop k47).take k48)).length : Nat) : Int)).toNat) dnod).value) - 1))⟩ : Nod)))
 (guardO (0 ≤ (((x1.length : Nat) : Int).tmod (((([] : List Nod) ++ ((x45.drop k47).take k48)).length : Nat) : Int)) ∧ (((x1.length : Nat) : Int).tmod (((([] : List Nod) ++ ((x45.drop k47).take k48)).length : Nat) : Int)) < (((([] : List Nod) ++ ((x45.drop k47).take k48)).length : Nat) : Int)) <|
 guardO (0 ≤ (((x1.length : Nat) : Int).tmod (((([] : List Nod) ++ ((x45.drop k47).take k48)).length : Nat) : Int)) ∧ (((x1.length : Nat) : Int).tmod (((([] : List Nod) ++ ((x45.drop k47).take k48)).length : Nat) : Int)) < (((([] : List Nod) ++ ((x45.drop k47).take k48)).length : Nat) : Int)) <|
 some ((([] : List Nod) ++ ((x45.drop k47).take k48)).set ((((x1.length : Nat) : Int).tmod (((([] : List Nod) ++ ((x45.drop k47).take k48)).length : Nat) : Int)).toNat) (⟨((([] : List Nod) ++ ((x45.drop k47).take k48)).getD ((((x1.length : Nat) : Int).tmod (((([] : List Nod) ++ ((x45.drop k47).take k48)).length : Nat) : Int)).toNat) dnod).parent, ((([] : List Nod) ++ ((x45.drop k47).take k48)).getD ((((x1.length : Nat) : Int).tmod (((([] : List Nod) ++ ((x45.drop k47).take k48)).length : Nat) : Int)).toNat) dnod).name, (w64 ((((([] : List Nod) ++ ((x45.drop k47).take k48)).getD ((((x1.length : Nat) : Int).tmod (((([] : List Nod) ++ ((x45.drop k47).take k48)).length : Nat) : Int)).toNat) dnod).value) + 1))⟩ : Nod)))) fun x78 =>
 bindO (impl_SameTree n ((x45.drop k47).take k48) x78) fun b85 =>
 some (!b85)))

theorem laws_FnSameTreeValue_ok (n : Nat) (x1 : List Int) (b42 : Bool) (h : laws_FnSameTreeValue n x1 = some b42) : FOk EE 6 [.one (.e (.sl 0 0 x1.length))] [.row .u8 x1 false] (B b42) [.row .u8 x1 false] := by
  unfold laws_FnSameTreeValue at h
  refine FOk_of_W 72 1 Try.func6 rfl rfl (Nat.le_of_ble_eq_true rfl) rfl (fun w X θ => ?_)
  refine W_seq ?_
  refine W_region ?_
  refine WO_step 1 [0] [0] True ⟨[(0, .one (.e (.sl 0 0 x1.length)))], [.row .u8 x1 false]⟩ (by kernel_rfl) trivial ?_
  refine WO_nil rfl ?_
  refine thenS_n ?_
  refine W_seq ?_
  refine W_seq ?_
  refine W_region ?_
  refine WO_step 3 [0] [0, 10] (True ∧ (True ∧ True)) ⟨[(0, .one (.e (.sl 0 0 x1.length))), (10, B (decide (1048576 < ((x1.length : Nat) : Int))))], [.row .u8 x1 false]⟩ (by kernel_rfl) ⟨trivial, trivial, trivial⟩ ?_
  refine WO_nil rfl ?_
  refine thenS_n ?_
  refine iteO_e h (fun hb44 h => W_true rfl hb44 ?_) (fun hb44 h => W_false rfl hb44 ?_)
  · refine W_seq ?_
    refine W_region ?_
    refine WO_step 1 [0] [2] True ⟨[(2, B true)], [.row .u8 x1 false]⟩ (by kernel_rfl) trivial ?_
    refine WO_nil rfl ?_
    refine thenS_n ?_
    refine W_ret ?_
    refine thenS_r ?_
    cases h
    exact ⟨[0], True, by kernel_rfl, trivial⟩
  · refine W_sub [0] [0] (st' := ⟨[(0, .one (.e (.sl 0 0 x1.length)))], [.row .u8 x1 false]⟩) (by kernel_rfl) ?_
    refine W_skip ?_
    refine thenS_n ?_
    refine W_seq ?_
    refine W_region ?_
    refine WO_step 1 [0] [0, 12] True ⟨[(0, .one (.e (.sl 0 0 x1.length))), (12, .one (.e (.sl 0 0 x1.length)))], [.row .u8 x1 false]⟩ (by kernel_rfl) trivial ?_
    refine bindO_e h (fun v87 hc51 h => ?_)
    obtain ⟨x45, x46, k47, k48, k49, k50⟩ := v87
    refine WO_call [.ro 0] Try.f12 rfl rfl rfl (by kernel_rfl) Try.func12 rfl (by kernel_rfl) (spec_DrawSameTree_ok n x1 x45 x46 k47 k48 k49 k50 hc51) (And.intro (And.intro rfl rfl) (trivial)) rfl ?_
    refine WO_step 5 [0, 1, 2] [0, 3, 4] True ⟨[(0, .one (.e (.sl 0 0 x1.length))), (3, .one (.e (.sl 1 k47 k48))), (4, .one (.e (.sl 2 k49 k50)))], [.row .u8 x1 false, .row .nod x45 true, .row .nod x46 true]⟩ (by kernel_rfl) trivial ?_
    refine WO_nil rfl ?_
    refine thenS_n ?_
    refine W_seq ?_
    refine W_region ?_
    refine WO_step 2 [0, 1, 2] [0, 3, 4, 16, 17] True ⟨[(0, .one (.e (.sl 0 0 x1.length))), (3, .one (.e (.sl 1 k47 k48))), (4, .one (.e (.sl 2 k49 k50))), (16, .one (.e (.sl 1 k47 k48))), (17, .one (.e (.sl 2 k49 k50)))], [.row .u8 x1 false, .row .nod x45 true, .row .nod x46 true]⟩ (by kernel_rfl) trivial ?_
    refine bindO_e h (fun b52 hc53 h => ?_)
    refine WO_call [.view 0, .view 1] Try.f10 rfl rfl rfl (by kernel_rfl) Try.func10 rfl (by kernel_rfl) (impl_SameTree_ok n ((x45.drop k47).take k48) ((x46.drop k49).take k50) b52 hc53) (trivial) rfl ?_
    refine WO_step 1 [0, 1, 2] [0, 3, 4, 5] True ⟨[(0, .one (.e (.sl 0 0 x1.length))), (3, .one (.e (.sl 1 k47 k48))), (4, .one (.e (.sl 2 k49 k50))), (5, B b52)], [.row .u8 x1 false, .row .nod x45 true, .row .nod x46 true]⟩ (by kernel_rfl) trivial ?_
    refine WO_nil rfl ?_
    refine thenS_n ?_
    refine W_seq ?_
    refine W_seq ?_
    refine W_region ?_
    refine WO_step 3 [0, 1, 2] [0, 3, 4, 5, 19, 20, 21] True ⟨[(0, .one (.e (.sl 0 0 x1.length))), (3, .one (.e (.sl 1 k47 k48))), (4, .one (.e (.sl 2 k49 k50))), (5, B b52), (19, B b52), (20, .one (.e (.sl 1 k47 k48))), (21, .one (.e (.sl 2 k49 k50)))], [.row .u8 x1 false, .row .nod x45 true, .row .nod x46 true]⟩ (by kernel_rfl) trivial ?_
    refine bindO_e h (fun b54 hc55 h => ?_)
    refine WO_call [.view 0, .view 1] Try.f8 rfl rfl rfl (by kernel_rfl) Try.func8 rfl (by kernel_rfl) (spec_SameTree_ok n ((x45.drop k47).take k48) ((x46.drop k49).take k50) b54 hc55) (trivial) rfl ?_
    refine WO_step 2 [0, 1, 2] [0, 3, 4, 5, 24] (True ∧ True) ⟨[(0, .one (.e (.sl 0 0 x1.length))), (3, .one (.e (.sl 1 k47 k48))), (4, .one (.e (.sl 2 k49 k50))), (5, B b52), (24, B (!(b52 == b54)))], [.row .u8 x1 false, .row .nod x45 true, .row .nod x46 true]⟩ (by kernel_rfl) ⟨trivial, trivial⟩ ?_
    refine bindO_e h (fun b59 hv60 h => ?_)
    refine WO_thru ⟨[(0, .one (.e (.sl 0 0 x1.length))), (3, .one (.e (.sl 1 k47 k48))), (4, .one (.e (.sl 2 k49 k50))), (5, B b52), (28, B b59)], [.row .u8 x1 false, .row .nod x45 true, .row .nod x46 true]⟩ ?_ ?_
    · refine iteO_e hv60 (fun hb61 hv60 => WO_known 24 true rfl hb61 ?_) (fun hb61 hv60 => WO_known 24 false rfl hb61 ?_)
      · refine WO_step 4 [0, 1, 2] [0, 3, 4, 5, 28] True ⟨[(0, .one (.e (.sl 0 0 x1.length))), (3, .one (.e (.sl 1 k47 k48))), (4, .one (.e (.sl 2 k49 k50))), (5, B b52), (28, B true)], [.row .u8 x1 false, .row .nod x45 true, .row .nod x46 true]⟩ (by kernel_rfl) trivial ?_
        cases hv60
        exact WO_nil rfl ⟨rfl, rfl⟩
      · refine WO_step 1 [0, 1, 2] [0, 3, 4, 5, 24, 25] True ⟨[(0, .one (.e (.sl 0 0 x1.length))), (3, .one (.e (.sl 1 k47 k48))), (4, .one (.e (.sl 2 k49 k50))), (5, B b52), (24, B false), (25, .one (.e (.sl 1 k47 k48)))], [.row .u8 x1 false, .row .nod x45 true, .row .nod x46 true]⟩ (by kernel_rfl) trivial ?_
        refine bindO_e hv60 (fun b62 hc63 hv60 => ?_)
        refine WO_call [.view 0] Try.f13 rfl rfl rfl (by kernel_rfl) Try.func13 rfl (by kernel_rfl) (impl_ValidTree_ok n ((x45.drop k47).take k48) b62 hc63) (trivial) rfl ?_
        refine WO_step 2 [0, 1, 2] [0, 3, 4, 5, 28] True ⟨[(0, .one (.e (.sl 0 0 x1.length))), (3, .one (.e (.sl 1 k47 k48))), (4, .one (.e (.sl 2 k49 k50))), (5, B b52), (28, B (!b62))], [.row .u8 x1 false, .row .nod x45 true, .row .nod x46 true]⟩ (by kernel_rfl) trivial ?_
        cases hv60
        exact WO_nil rfl ⟨rfl, rfl⟩
    · refine thenS_n ?_
      refine iteO_e h (fun hb67 h => W_true rfl hb67 ?_) (fun hb67 h => W_false rfl hb67 ?_)
      · refine W_seq ?_
        refine W_region ?_
        refine WO_step 3 [0, 1, 2] [29, 30, 31] True ⟨[(29, B b52), (30, .one (.e (.sl 1 k47 k48))), (31, .one (.e (.sl 2 k49 k50)))], [.row .u8 x1 false, .row .nod x45 true, .row .nod x46 true]⟩ (by kernel_rfl) trivial ?_
        refine bindO_e h (fun b68 hc69 h => ?_)
        refine WO_call [.view 0, .view 1] Try.f8 rfl rfl rfl (by kernel_rfl) Try.func8 rfl (by kernel_rfl) (spec_SameTree_ok n ((x45.drop k47).take k48) ((x46.drop k49).take k50) b68 hc69) (trivial) rfl ?_
        refine WO_step 2 [0] [2] (True ∧ True) ⟨[(2, B (b52 == b68))], [.row .u8 x1 false]⟩ (by kernel_rfl) ⟨trivial, trivial⟩ ?_
        refine WO_nil rfl ?_
        refine thenS_n ?_
        refine W_ret ?_
        refine thenS_r ?_
        cases h
        exact ⟨[0], True, by kernel_rfl, trivial⟩
      · refine W_sub [0, 1] [0, 3] (st' := ⟨[(0, .one (.e (.sl 0 0 x1.length))), (3, .one (.e (.sl 1 k47 k48)))], [.row .u8 x1 false, .row .nod x45 true]⟩) (by kernel_rfl) ?_
        refine W_skip ?_
        refine thenS_n ?_
        refine W_seq ?_
        refine W_region ?_
        refine guardO_e h (fun hg70 h => ?_)
        refine WO_step 4 [0, 1, 3] [0, 3, 6] ((0 = 0 ∧ ([] : List Nod).length = ([] : List Nod).length ∧ ([] : List Nod).length + ((x45.drop k47).take k48).length ≤ 1099511627776) ∧ True) ⟨[(0, .one (.e (.sl 0 0 x1.length))), (3, .one (.e (.sl 1 k47 k48))), (6, .one (.e (.sl 2 0 ((([] : List Nod) ++ ((x45.drop k47).take k48)).length))))], [.row .u8 x1 false, .row .nod x45 true, .row .nod (([] : List Nod) ++ ((x45.drop k47).take k48)) true]⟩ (by kernel_rfl) ⟨hg70, trivial⟩ ?_
        refine WO_nil rfl ?_
        refine thenS_n ?_
        refine W_seq ?_
        refine W_region ?_
        refine guardO_e h (fun hg71 h => ?_)
        refine WO_step 6 [0, 1, 2] [3, 6, 7] (True ∧ (True ∧ ((((((([] : List Nod) ++ ((x45.drop k47).take k48)).length : Nat) : Int) : Int) ≠ 0) ∧ True))) ⟨[(3, .one (.e (.sl 1 k47 k48))), (6, .one (.e (.sl 2 0 ((([] : List Nod) ++ ((x45.drop k47).take k48)).length)))), (7, I (((x1.length : Nat) : Int).tmod (((([] : List Nod) ++ ((x45.drop k47).take k48)).length : Nat) : Int)))], [.row .u8 x1 false, .row .nod x45 true, .row .nod (([] : List Nod) ++ ((x45.drop k47).take k48)) true]⟩ (by kernel_rfl) ⟨trivial, trivial, hg71, trivial⟩ ?_
        refine WO_nil rfl ?_
        refine thenS_n ?_
        refine W_seq ?_
        refine W_seq ?_
        refine W_region ?_
        refine guardO_e h (fun hg72 h => ?_)
        refine WO_step 6 [0, 1, 2] [3, 6, 7, 47] ((0 ≤ (((x1.length : Nat) : Int).tmod (((([] : List Nod) ++ ((x45.drop k47).take k48)).length : Nat) : Int)) ∧ (((x1.length : Nat) : Int).tmod (((([] : List Nod) ++ ((x45.drop k47).take k48)).length : Nat) : Int)) < (((([] : List Nod) ++ ((x45.drop k47).take k48)).length : Nat) : Int)) ∧ (True ∧ (True ∧ True))) ⟨[(3, .one (.e (.sl 1 k47 k48))), (6, .one (.e (.sl 2 0 ((([] : List Nod) ++ ((x45.drop k47).take k48)).length)))), (7, I (((x1.length : Nat) : Int).tmod (((([] : List Nod) ++ ((x45.drop k47).take k48)).length : Nat) : Int))), (47, B (decide (0 < (((([] : List Nod) ++ ((x45.drop k47).take k48)).getD ((((x1.length : Nat) : Int).tmod (((([] : List Nod) ++ ((x45.drop k47).take k48)).length : Nat) : Int)).toNat) dnod).value))))], [.row .u8 x1 false, .row .nod x45 true, .row .nod (([] : List Nod) ++ ((x45.drop k47).take k48)) true]⟩ (by kernel_rfl) ⟨hg72, trivial, trivial, trivial⟩ ?_
        refine WO_nil rfl ?_
        refine thenS_n ?_
        refine bindO_e h (fun x78 hx78 h => ?_)
        refine W_cut (Q' := fun (e : Exit) (s : St) => e = .normal ∧ s = ⟨[(3, .one (.e (.sl 1 k47 k48))), (6, .one (.e (.sl 2 0 x78.length)))], [.row .u8 x1 false, .row .nod x45 true, .row .nod x78 true]⟩) ?_ ?_
        · refine iteO_e hx78 (fun hb80 hx78 => W_true rfl hb80 ?_) (fun hb80 hx78 => W_false rfl hb80 ?_)
          · refine W_region ?_
            refine guardO_e hx78 (fun hg81 hx78 => ?_)
            refine guardO_e hx78 (fun hg82 hx78 => ?_)
            refine WO_step 11 [0, 1, 2] [3, 6] ((0 ≤ (((x1.length : Nat) : Int).tmod (((([] : List Nod) ++ ((x45.drop k47).take k48)).length : Nat) : Int)) ∧ (((x1.length : Nat) : Int).tmod (((([] : List Nod) ++ ((x45.drop k47).take k48)).length : Nat) : Int)) < (((([] : List Nod) ++ ((x45.drop k47).take k48)).length : Nat) : Int)) ∧ (True ∧ (True ∧ ((0 ≤ (((x1.length : Nat) : Int).tmod (((([] : List Nod) ++ ((x45.drop k47).take k48)).length : Nat) : Int)) ∧ (((x1.length : Nat) : Int).tmod (((([] : List Nod) ++ ((x45.drop k47).take k48)).length : Nat) : Int)) < (((([] : List Nod) ++ ((x45.drop k47).take k48)).length : Nat) : Int)) ∧ (True ∧ True))))) ⟨[(3, .one (.e (.sl 1 k47 k48))), (6, .one (.e (.sl 2 0 ((([] : List Nod) ++ ((x45.drop k47).take k48)).length))))], [.row .u8 x1 false, .row .nod x45 true, .row .nod ((([] : List Nod) ++ ((x45.drop k47).take k48)).set ((((x1.length : Nat) : Int).tmod (((([] : List Nod) ++ ((x45.drop k47).take k48)).length : Nat) : Int)).toNat) (⟨((([] : List Nod) ++ ((x45.drop k47).take k48)).getD ((((x1.length : Nat) : Int).tmod (((([] : List Nod) ++ ((x45.drop k47).take k48)).length : Nat) : Int)).toNat) dnod).parent, ((([] : List Nod) ++ ((x45.drop k47).take k48)).getD ((((x1.length : Nat) : Int).tmod (((([] : List Nod) ++ ((x45.drop k47).take k48)).length : Nat) : Int)).toNat) dnod).name, (w64 ((((([] : List Nod) ++ ((x45.drop k47).take k48)).getD ((((x1.length : Nat) : Int).tmod (((([] : List Nod) ++ ((x45.drop k47).take k48)).length : Nat) : Int)).toNat) dnod).value) - 1))⟩ : Nod)) true]⟩ (by kernel_rfl) ⟨hg81, trivial, trivial, hg82, trivial, trivial⟩ ?_
            refine WO_eq (st' := ⟨[(3, .one (.e (.sl 1 k47 k48))), (6, .one (.e (.sl 2 0 (((([] : List Nod) ++ ((x45.drop k47).take k48)).set ((((x1.length : Nat) : Int).tmod (((([] : List Nod) ++ ((x45.drop k47).take k48)).length : Nat) : Int)).toNat) (⟨((([] : List Nod) ++ ((x45.drop k47).take k48)).getD ((((x1.length : Nat) : Int).tmod (((([] : List Nod) ++ ((x45.drop k47).take k48)).length : Nat) : Int)).toNat) dnod).parent, ((([] : List Nod) ++ ((x45.drop k47).take k48)).getD ((((x1.length : Nat) : Int).tmod (((([] : List Nod) ++ ((x45.drop k47).take k48)).length : Nat) : Int)).toNat) dnod).name, (w64 ((((([] : List Nod) ++ ((x45.drop k47).take k48)).getD ((((x1.length : Nat) : Int).tmod (((([] : List Nod) ++ ((x45.drop k47).take k48)).length : Nat) : Int)).toNat) dnod).value) - 1))⟩ : Nod)).length))))], [.row .u8 x1 false, .row .nod x45 true, .row .nod ((([] : List Nod) ++ ((x45.drop k47).take k48)).set ((((x1.length : Nat) : Int).tmod (((([] : List Nod) ++ ((x45.drop k47).take k48)).length : Nat) : Int)).toNat) (⟨((([] : List Nod) ++ ((x45.drop k47).take k48)).getD ((((x1.length : Nat) : Int).tmod (((([] : List Nod) ++ ((x45.drop k47).take k48)).length : Nat) : Int)).toNat) dnod).parent, ((([] : List Nod) ++ ((x45.drop k47).take k48)).getD ((((x1.length : Nat) : Int).tmod (((([] : List Nod) ++ ((x45.drop k47).take k48)).length : Nat) : Int)).toNat) dnod).name, (w64 ((((([] : List Nod) ++ ((x45.drop k47).take k48)).getD ((((x1.length : Nat) : Int).tmod (((([] : List Nod) ++ ((x45.drop k47).take k48)).length : Nat) : Int)).toNat) dnod).value) - 1))⟩ : Nod)) true]⟩) (by simp only [List.length_set]) ?_
            refine WO_nil rfl ?_
            cases hx78
            exact And.intro rfl rfl
          · refine W_region ?_
            refine guardO_e hx78 (fun hg83 hx78 => ?_)
            refine guardO_e hx78 (fun hg84 hx78 => ?_)
            refine WO_step 11 [0, 1, 2] [3, 6] ((0 ≤ (((x1.length : Nat) : Int).tmod (((([] : List Nod) ++ ((x45.drop k47).take k48)).length : Nat) : Int)) ∧ (((x1.length : Nat) : Int).tmod (((([] : List Nod) ++ ((x45.drop k47).take k48)).length : Nat) : Int)) < (((([] : List Nod) ++ ((x45.drop k47).take k48)).length : Nat) : Int)) ∧ (True ∧ (True ∧ ((0 ≤ (((x1.length : Nat) : Int).tmod (((([] : List Nod) ++ ((x45.drop k47).take k48)).length : Nat) : Int)) ∧ (((x1.length : Nat) : Int).tmod (((([] : List Nod) ++ ((x45.drop k47).take k48)).length : Nat) : Int)) < (((([] : List Nod) ++ ((x45.drop k47).take k48)).length : Nat) : Int)) ∧ (True ∧ True))))) ⟨[(3, .one (.e (.sl 1 k47 k48))), (6, .one (.e (.sl 2 0 ((([] : List Nod) ++ ((x45.drop k47).take k48)).length))))], [.row .u8 x1 false, .row .nod x45 true, .row .nod ((([] : List Nod) ++ ((x45.drop k47).take k48)).set ((((x1.length : Nat) : Int).tmod (((([] : List Nod) ++ ((x45.drop k47).take k48)).length : Nat) : Int)).toNat) (⟨((([] : List Nod) ++ ((x45.drop k47).take k48)).getD ((((x1.length : Nat) : Int).tmod (((([] : List Nod) ++ ((x45.drop k47).take k48)).length : Nat) : Int)).toNat) dnod).parent, ((([] : List Nod) ++ ((x45.drop k47).take k48)).getD ((((x1.length : Nat) : Int).tmod (((([] : List Nod) ++ ((x45.drop k47).take k48)).length : Nat) : Int)).toNat) dnod).name, (w64 ((((([] : List Nod) ++ ((x45.drop k47).take k48)).getD ((((x1.length : Nat) : Int).tmod (((([] : List Nod) ++ ((x45.drop k47).take k48)).length : Nat) : Int)).toNat) dnod).value) + 1))⟩ : Nod)) true]⟩ (by kernel_rfl) ⟨hg83, trivial, trivial, hg84, trivial, trivial⟩ ?_
            refine WO_eq (st' := ⟨[(3, .one (.e (.sl 1 k47 k48))), (6, .one (.e (.sl 2 0 (((([] : List Nod) ++ ((x45.drop k47).take k48)).set ((((x1.length : Nat) : Int).tmod (((([] : List Nod) ++ ((x45.drop k47).take k48)).length : Nat) : Int)).toNat) (⟨((([] : List Nod) ++ ((x45.drop k47).take k48)).getD ((((x1.length : Nat) : Int).tmod (((([] : List Nod) ++ ((x45.drop k47).take k48)).length : Nat) : Int)).toNat) dnod).parent, ((([] : List Nod) ++ ((x45.drop k47).take k48)).getD ((((x1.length : Nat) : Int).tmod (((([] : List Nod) ++ ((x45.drop k47).take k48)).length : Nat) : Int)).toNat) dnod).name, (w64 ((((([] : List Nod) ++ ((x45.drop k47).take k48)).getD ((((x1.length : Nat) : Int).tmod (((([] : List Nod) ++ ((x45.drop k47).take k48)).length : Nat) : Int)).toNat) dnod).value) + 1))⟩ : Nod)).length))))], [.row .u8 x1 false, .row .nod x45 true, .row .nod ((([] : List Nod) ++ ((x45.drop k47).take k48)).set ((((x1.length : Nat) : Int).tmod (((([] : List Nod) ++ ((x45.drop k47).take k48)).length : Nat) : Int)).toNat) (⟨((([] : List Nod) ++ ((x45.drop k47).take k48)).getD ((((x1.length : Nat) : Int).tmod (((([] : List Nod) ++ ((x45.drop k47).take k48)).length : Nat) : Int)).toNat) dnod).parent, ((([] : List Nod) ++ ((x45.drop k47).take k48)).getD ((((x1.length : Nat) : Int).tmod (((([] : List Nod) ++ ((x45.drop k47).take k48)).length : Nat) : Int)).toNat) dnod).name, (w64 ((((([] : List Nod) ++ ((x45.drop k47).take k48)).getD ((((x1.length : Nat) : Int).tmod (((([] : List Nod) ++ ((x45.drop k47).take k48)).length : Nat) : Int)).toNat) dnod).value) + 1))⟩ : Nod)) true]⟩) (by simp only [List.length_set]) ?_
            refine WO_nil rfl ?_
            cases hx78
            exact And.intro rfl rfl
        · rintro _ _ ⟨rfl, rfl⟩
          refine thenS_n ?_
          refine W_seq ?_
          refine W_region ?_
          refine WO_step 2 [0, 1, 2] [68, 69] True ⟨[(68, .one (.e (.sl 1 k47 k48))), (69, .one (.e (.sl 2 0 x78.length)))], [.row .u8 x1 false, .row .nod x45 true, .row .nod x78 true]⟩ (by kernel_rfl) trivial ?_
          refine bindO_e h (fun b85 hc86 h => ?_)
          refine WO_call [.view 0, .ro 2] Try.f10 rfl rfl rfl (by kernel_rfl) Try.func10 rfl (by kernel_rfl) (impl_SameTree_ok n ((x45.drop k47).take k48) x78 b85 hc86) (And.intro (And.intro rfl rfl) (trivial)) rfl ?_
          refine WO_step 2 [0] [2] True ⟨[(2, B (!b85))], [.row .u8 x1 false]⟩ (by kernel_rfl) trivial ?_
          refine WO_nil rfl ?_
          refine thenS_n ?_
          refine W_ret ?_
          cases h
          exact ⟨[0], True, by kernel_rfl, trivial⟩

end Go.Proofs.Ytiboohplkihhnaa

import Derived.Test.YtnaogmahijgibaaTT2
namespace Go.Proofs.Ytnaogmahijgibaa
open Go
set_option linter.unusedVariables false
/- impl.PruneVersions -/
def impl_PruneVersions_L1 (x1 : List Ver) (i2 : Int) : Nat → (List Ver) → Int → Option ((List Ver))
| 0, _, _ => none
| n + 1, x108, i109 =>
 iteO (decide (i109 < ((x1.length : Nat) : Int)))
 (guardO (0 ≤ i109 ∧ i109 < ((x1.length : Nat) : Int)) <|
 guardO (0 ≤ (w64 (i109 + 1)) ∧ (w64 (i109 + 1)) ≤ ((x1.length : Nat) : Int)) <|
 bindO (impl_isOutdated n ((x1.drop ((w64 (i109 + 1)).toNat)).take (x1.length - (w64 (i109 + 1)).toNat)) ((x1.getD i109.toNat dver).node) i2) fun b144 =>
 bindO (iteO (!b144)
 (guardO (0 = 0 ∧ x108.length = x108.length ∧ x108.length + (([(⟨(x1.getD i109.toNat dver).node, (x1.getD i109.toNat dver).value, (x1.getD i109.toNat dver).tm⟩ : Ver)].drop 0).take ([(⟨(x1.getD i109.toNat dver).node, (x1.getD i109.toNat dver).value, (x1.getD i109.toNat dver).tm⟩ : Ver)].length)).length ≤ 1099511627776) <|
 some (x108 ++ (([(⟨(x1.getD i109.toNat dver).node, (x1.getD i109.toNat dver).value, (x1.getD i109.toNat dver).tm⟩ : Ver)].drop 0).take ([(⟨(x1.getD i109.toNat dver).node, (x1.getD i109.toNat dver).value, (x1.getD i109.toNat dver).tm⟩ : Ver)].length))))
 (some x108)) fun x148 =>
 impl_PruneVersions_L1 x1 i2 n x148 (w64 (i109 + 1)))
 (some x108)

theorem impl_PruneVersions_L1_ok (w : World) (X : Nat → Prop) (θ : List Loc) (x1 : List Ver) (i2 : Int) (x130 : (List Ver)) : ∀ (n : Nat) (x108 : List Ver) (i109 : Int), impl_PruneVersions_L1 x1 i2 n x108 i109 = some x130 → WL EE ⟨w, X, θ, 38, 1⟩ (subC [1, 1, 1, 0, 1, 4, 4] (bodyC Try.f34)) (fun (e : Exit) (s : St) => e = .exit 0 ∧ s = ⟨[(5, .one (.e (.sl 1 0 x130.length)))], [.row .ver x1 false, .row .ver x130 true]⟩) ⟨[(0, .one (.e (.sl 0 0 x1.length))), (1, I i2), (5, .one (.e (.sl 1 0 x108.length))), (16, .one (.e (.sl 0 0 x1.length))), (17, I ((x1.length : Nat) : Int)), (18, I i109)], [.row .ver x1 false, .row .ver x108 true]⟩ := by
  intro n
  induction n with
  | zero => intro _ _ h; exact none_e h
  | succ n ih =>
    intro x108 i109 h
    rw [impl_PruneVersions_L1] at h
    refine WL_round ?_
    refine W_seq ?_
    refine W_region ?_
    refine WO_step 1 [0, 1] [0, 1, 5, 16, 17, 18, 19] (True ∧ True) ⟨[(0, .one (.e (.sl 0 0 x1.length))), (1, I i2), (5, .one (.e (.sl 1 0 x108.length))), (16, .one (.e (.sl 0 0 x1.length))), (17, I ((x1.length : Nat) : Int)), (18, I i109), (19, B (decide (i109 < ((x1.length : Nat) : Int))))], [.row .ver x1 false, .row .ver x108 true]⟩ (by kernel_rfl) ⟨trivial, trivial⟩ ?_
    refine WO_nil rfl ?_
    refine thenS_n ?_
    refine W_seq ?_
    refine iteO_e h (fun hb133 h => W_true rfl hb133 ?_) (fun hb133 h => W_false rfl hb133 ?_)
    · refine W_sub [0, 1] [0, 1, 5, 16, 17, 18] (st' := ⟨[(0, .one (.e (.sl 0 0 x1.length))), (1, I i2), (5, .one (.e (.sl 1 0 x108.length))), (16, .one (.e (.sl 0 0 x1.length))), (17, I ((x1.length : Nat) : Int)), (18, I i109)], [.row .ver x1 false, .row .ver x108 true]⟩) (by kernel_rfl) ?_
      refine W_skip ?_
      refine thenS_n ?_
      refine W_seq ?_
      refine W_block ?_
      refine W_seq ?_
      refine W_region ?_
      refine guardO_e h (fun hg142 h => ?_)
      refine WO_step 6 [0, 1, 2] [0, 1, 5, 6, 7, 16, 17, 18] ((0 ≤ i109 ∧ i109 < ((x1.length : Nat) : Int)) ∧ (True ∧ (True ∧ (True ∧ True)))) ⟨[(0, .one (.e (.sl 0 0 x1.length))), (1, I i2), (5, .one (.e (.sl 1 0 x108.length))), (6, I i109), (7, .one (.e (.p 2 0))), (16, .one (.e (.sl 0 0 x1.length))), (17, I ((x1.length : Nat) : Int)), (18, I i109)], [.row .ver x1 false, .row .ver x108 true, .cells [cI ((x1.getD i109.toNat dver).node), cI ((x1.getD i109.toNat dver).value), cI ((x1.getD i109.toNat dver).tm)]]⟩ (by kernel_rfl) ⟨hg142, trivial, trivial, trivial, trivial⟩ ?_
      refine WO_nil rfl ?_
      refine thenS_n ?_
      refine W_seq ?_
      refine guardO_e h (fun hg143 h => ?_)
      refine bindO_e h (fun b144 hc145 h => ?_)
      refine W_cut (Q' := fun (e : Exit) (s : St) => e = .normal ∧ s = ⟨[(0, .one (.e (.sl 0 0 x1.length))), (1, I i2), (5, .one (.e (.sl 1 0 x108.length))), (7, .one (.e (.p 2 0))), (16, .one (.e (.sl 0 0 x1.length))), (17, I ((x1.length : Nat) : Int)), (18, I i109), (31, B (!b144))], [.row .ver x1 false, .row .ver x108 true, .cells [cI ((x1.getD i109.toNat dver).node), cI ((x1.getD i109.toNat dver).value), cI ((x1.getD i109.toNat dver).tm)]]⟩) ?_ ?_
      · refine W_draw [] false (by kernel_rfl) (by kernel_rfl) ?_
        refine WD_takeK [0, 1, 2, 4, 5, 6] [0, 1, 5, 7, 16, 17, 18, 23, 25, 28, 29] [0, 1, 5, 7, 16, 17, 18, 23, 25, 28, 29] (φ := (True ∧ True ∧ (True ∧ True ∧ True))) (ls' := #[true, true, true, false, true, true, true, false, false]) (Ts' := [(0, .one (.e (.sl 0 0 x1.length))), (1, I i2), (5, .one (.e (.sl 1 0 x108.length))), (7, .one (.e (.p 2 0))), (16, .one (.e (.sl 0 0 x1.length))), (17, I ((x1.length : Nat) : Int)), (18, I i109), (23, .one (.e (.sl 0 0 x1.length))), (25, I (w64 (i109 + 1))), (28, I ((x1.getD i109.toNat dver).node)), (29, I i2)]) (st' := ⟨[(0, .one (.e (.sl 0 0 x1.length))), (1, I i2), (5, .one (.e (.sl 1 0 x108.length))), (7, .one (.e (.p 2 0))), (16, .one (.e (.sl 0 0 x1.length))), (17, I ((x1.length : Nat) : Int)), (18, I i109), (23, .one (.e (.sl 0 0 x1.length))), (25, I (w64 (i109 + 1))), (28, I ((x1.getD i109.toNat dver).node)), (29, I i2)], [.row .ver x1 false, .row .ver x108 true, .cells [cI ((x1.getD i109.toNat dver).node), cI ((x1.getD i109.toNat dver).value), cI ((x1.getD i109.toNat dver).tm)]]⟩) (n2 := 3) (by kernel_rfl) ⟨trivial, trivial, trivial, trivial, trivial⟩ rfl ?_
        refine WD_all [3] (n := 2) (by kernel_rfl) rfl ?_
        refine WM_op (φ := 0 ≤ (w64 (i109 + 1)) ∧ (w64 (i109 + 1)) ≤ ((x1.length : Nat) : Int)) (v := .one (.e (.sl 0 ((w64 (i109 + 1)).toNat) (x1.length - (w64 (i109 + 1)).toNat)))) (H' := [.row .ver x1 false, .row .ver x108 true, .cells [cI ((x1.getD i109.toNat dver).node), cI ((x1.getD i109.toNat dver).value), cI ((x1.getD i109.toNat dver).tm)]]) rfl rfl (by kernel_rfl) hg143 rfl (And.intro rfl (And.intro rfl (And.intro (And.intro rfl rfl) (trivial)))) ?_
        refine WD_all [7] (n := 1) (by kernel_rfl) rfl ?_
        refine WM_call [.view 0] Try.f46 rfl rfl (by kernel_rfl) rfl rfl (by kernel_rfl) (impl_isOutdated_ok n ((x1.drop ((w64 (i109 + 1)).toNat)).take (x1.length - (w64 (i109 + 1)).toNat)) ((x1.getD i109.toNat dver).node) i2 b144 hc145) (trivial) rfl (And.intro rfl (And.intro rfl (And.intro (And.intro rfl rfl) (trivial)))) ?_
        refine WD_takeK [8] [0, 1, 5, 7, 16, 17, 18, 31] [0, 1, 5, 7, 16, 17, 18, 31] (φ := True) (ls' := #[true, true, true, true, true, true, true, true, true]) (Ts' := [(0, .one (.e (.sl 0 0 x1.length))), (1, I i2), (5, .one (.e (.sl 1 0 x108.length))), (7, .one (.e (.p 2 0))), (16, .one (.e (.sl 0 0 x1.length))), (17, I ((x1.length : Nat) : Int)), (18, I i109), (31, B (!b144))]) (st' := ⟨[(0, .one (.e (.sl 0 0 x1.length))), (1, I i2), (5, .one (.e (.sl 1 0 x108.length))), (7, .one (.e (.p 2 0))), (16, .one (.e (.sl 0 0 x1.length))), (17, I ((x1.length : Nat) : Int)), (18, I i109), (31, B (!b144))], [.row .ver x1 false, .row .ver x108 true, .cells [cI ((x1.getD i109.toNat dver).node), cI ((x1.getD i109.toNat dver).value), cI ((x1.getD i109.toNat dver).tm)]]⟩) (n2 := 0) (by kernel_rfl) trivial rfl ?_
        exact WD_done [0, 1, 2] [0, 1, 5, 7, 16, 17, 18, 31] (st' := ⟨[(0, .one (.e (.sl 0 0 x1.length))), (1, I i2), (5, .one (.e (.sl 1 0 x108.length))), (7, .one (.e (.p 2 0))), (16, .one (.e (.sl 0 0 x1.length))), (17, I ((x1.length : Nat) : Int)), (18, I i109), (31, B (!b144))], [.row .ver x1 false, .row .ver x108 true, .cells [cI ((x1.getD i109.toNat dver).node), cI ((x1.getD i109.toNat dver).value), cI ((x1.getD i109.toNat dver).tm)]]⟩) (by kernel_rfl) (by kernel_rfl) (And.intro rfl rfl)
      · rintro _ _ ⟨rfl, rfl⟩
        refine thenS_n ?_
        refine bindO_e h (fun x148 hx148 h => ?_)
        refine W_cut (Q' := fun (e : Exit) (s : St) => e = .normal ∧ s = ⟨[(0, .one (.e (.sl 0 0 x1.length))), (1, I i2), (5, .one (.e (.sl 1 0 x148.length))), (16, .one (.e (.sl 0 0 x1.length))), (17, I ((x1.length : Nat) : Int)), (18, I i109)], [.row .ver x1 false, .row .ver x148 true]⟩) ?_ ?_
        · refine iteO_e hx148 (fun hb150 hx148 => W_true rfl hb150 ?_) (fun hb150 hx148 => W_false rfl hb150 ?_)
          · refine W_region ?_
            refine guardO_e hx148 (fun hg151 hx148 => ?_)
            refine WO_step 5 [0, 4] [0, 1, 5, 16, 17, 18] (True ∧ ((0 = 0 ∧ x108.length = x108.length ∧ x108.length + (([(⟨(x1.getD i109.toNat dver).node, (x1.getD i109.toNat dver).value, (x1.getD i109.toNat dver).tm⟩ : Ver)].drop 0).take ([(⟨(x1.getD i109.toNat dver).node, (x1.getD i109.toNat dver).value, (x1.getD i109.toNat dver).tm⟩ : Ver)].length)).length ≤ 1099511627776) ∧ True)) ⟨[(0, .one (.e (.sl 0 0 x1.length))), (1, I i2), (5, .one (.e (.sl 1 0 ((x108 ++ (([(⟨(x1.getD i109.toNat dver).node, (x1.getD i109.toNat dver).value, (x1.getD i109.toNat dver).tm⟩ : Ver)].drop 0).take ([(⟨(x1.getD i109.toNat dver).node, (x1.getD i109.toNat dver).value, (x1.getD i109.toNat dver).tm⟩ : Ver)].length))).length)))), (16, .one (.e (.sl 0 0 x1.length))), (17, I ((x1.length : Nat) : Int)), (18, I i109)], [.row .ver x1 false, .row .ver (x108 ++ (([(⟨(x1.getD i109.toNat dver).node, (x1.getD i109.toNat dver).value, (x1.getD i109.toNat dver).tm⟩ : Ver)].drop 0).take ([(⟨(x1.getD i109.toNat dver).node, (x1.getD i109.toNat dver).value, (x1.getD i109.toNat dver).tm⟩ : Ver)].length))) true]⟩ (by kernel_rfl) ⟨trivial, hg151, trivial⟩ ?_
            refine WO_nil rfl ?_
            cases hx148
            exact And.intro rfl rfl
          · refine W_sub [0, 1] [0, 1, 5, 16, 17, 18] (st' := ⟨[(0, .one (.e (.sl 0 0 x1.length))), (1, I i2), (5, .one (.e (.sl 1 0 x108.length))), (16, .one (.e (.sl 0 0 x1.length))), (17, I ((x1.length : Nat) : Int)), (18, I i109)], [.row .ver x1 false, .row .ver x108 true]⟩) (by kernel_rfl) ?_
            refine W_skip ?_
            cases hx148
            exact And.intro rfl rfl
        · rintro _ _ ⟨rfl, rfl⟩
          refine blockS_n ?_
          refine thenS_n ?_
          refine W_region ?_
          refine WO_step 2 [0, 1] [0, 1, 5, 16, 17, 18] (True ∧ True) ⟨[(0, .one (.e (.sl 0 0 x1.length))), (1, I i2), (5, .one (.e (.sl 1 0 x148.length))), (16, .one (.e (.sl 0 0 x1.length))), (17, I ((x1.length : Nat) : Int)), (18, I (w64 (i109 + 1)))], [.row .ver x1 false, .row .ver x148 true]⟩ (by kernel_rfl) ⟨trivial, trivial⟩ ?_
          refine WO_nil rfl ?_
          refine thenS_n ?_
          exact ih _ _ h
    · refine W_sub [0, 1] [5] (st' := ⟨[(5, .one (.e (.sl 1 0 x108.length)))], [.row .ver x1 false, .row .ver x108 true]⟩) (by kernel_rfl) ?_
      refine W_exit ?_
      refine thenS_e ?_
      refine thenS_e ?_
      cases h
      exact And.intro rfl rfl

def impl_PruneVersions (n : Nat) (x1 : List Ver) (i2 : Int) : Option ((List Ver)) :=
 bindO (impl_ValidVersions n x1) fun b77 =>
 iteO ((!b77) || (!(impl_within i2 0 100)))
 (some ([] : List Ver))
 (bindO (impl_PruneVersions_L1 x1 i2 n ([] : List Ver) 0) fun x130 =>
 some x130)

theorem impl_PruneVersions_ok (n : Nat) (x1 : List Ver) (i2 : Int) (x76 : List Ver) (h : impl_PruneVersions n x1 i2 = some x76) : FOk EE 34 [.one (.e (.sl 0 0 x1.length)), I i2] [.row .ver x1 false] (.one (.e (.sl 1 0 x76.length))) [.row .ver x1 false, .row .ver x76 true] := by
  unfold impl_PruneVersions at h
  refine FOk_of_W 38 1 Try.func34 rfl rfl (Nat.le_of_ble_eq_true rfl) rfl (fun w X θ => ?_)
  refine W_seq ?_
  refine W_region ?_
  refine WO_step 1 [0] [0, 1] True ⟨[(0, .one (.e (.sl 0 0 x1.length))), (1, I i2)], [.row .ver x1 false]⟩ (by kernel_rfl) trivial ?_
  refine WO_nil rfl ?_
  refine thenS_n ?_
  refine W_seq ?_
  refine W_seq ?_
  refine W_region ?_
  refine WO_step 1 [0] [0, 1, 8] True ⟨[(0, .one (.e (.sl 0 0 x1.length))), (1, I i2), (8, .one (.e (.sl 0 0 x1.length)))], [.row .ver x1 false]⟩ (by kernel_rfl) trivial ?_
  refine bindO_e h (fun b77 hc78 h => ?_)
  refine WO_call [.ro 0] Try.f20 rfl rfl rfl (by kernel_rfl) rfl rfl (by kernel_rfl) (impl_ValidVersions_ok n x1 b77 hc78) (And.intro (And.intro rfl rfl) (trivial)) rfl ?_
  refine WO_step 2 [0] [0, 1, 11] True ⟨[(0, .one (.e (.sl 0 0 x1.length))), (1, I i2), (11, B (!b77))], [.row .ver x1 false]⟩ (by kernel_rfl) trivial ?_
  refine WO_thru ⟨[(0, .one (.e (.sl 0 0 x1.length))), (1, I i2), (15, B ((!b77) || (!(impl_within i2 0 100))))], [.row .ver x1 false]⟩ ?_ ?_
  · refine WO_if 11 rfl (fun hb81 => ?_) (fun hb81 => ?_)
    · refine WO_step 4 [0] [0, 1, 15] True ⟨[(0, .one (.e (.sl 0 0 x1.length))), (1, I i2), (15, B true)], [.row .ver x1 false]⟩ (by kernel_rfl) trivial ?_
      exact WO_nil rfl ⟨rfl, by first | rfl | (rw [hb81]; first | done | rfl)⟩
    · refine WO_step 1 [0] [0, 1, 11, 12] True ⟨[(0, .one (.e (.sl 0 0 x1.length))), (1, I i2), (11, B false), (12, I i2)], [.row .ver x1 false]⟩ (by kernel_rfl) trivial ?_
      refine WO_call [] Try.f37 rfl rfl rfl (by kernel_rfl) rfl rfl (by kernel_rfl) (impl_within_ok i2 0 100) (trivial) rfl ?_
      refine WO_step 2 [0] [0, 1, 15] True ⟨[(0, .one (.e (.sl 0 0 x1.length))), (1, I i2), (15, B (!(impl_within i2 0 100)))], [.row .ver x1 false]⟩ (by kernel_rfl) trivial ?_
      exact WO_nil rfl ⟨rfl, by first | rfl | (rw [hb81]; first | done | rfl)⟩
  · refine thenS_n ?_
    refine iteO_e h (fun hb83 h => W_true rfl hb83 ?_) (fun hb83 h => W_false rfl hb83 ?_)
    · refine W_seq ?_
      refine W_region ?_
      refine WO_step 1 [0] [4] True ⟨[(4, .one (.e (.nsl)))], [.row .ver x1 false]⟩ (by kernel_rfl) trivial ?_
      refine WO_nilrow 4 .ver rfl ?_
      refine WO_sub [0, 1] [4] (st' := ⟨[(4, .one (.e (.sl 1 0 (([] : List Ver).length))))], [.row .ver x1 false, .row .ver ([] : List Ver) true]⟩) (by kernel_rfl) ?_
      refine WO_nil rfl ?_
      refine thenS_n ?_
      refine W_ret ?_
      refine thenS_r ?_
      cases h
      exact ⟨[0, 1], True, by kernel_rfl, trivial⟩
    · refine W_sub [0] [0, 1] (st' := ⟨[(0, .one (.e (.sl 0 0 x1.length))), (1, I i2)], [.row .ver x1 false]⟩) (by kernel_rfl) ?_
      refine W_skip ?_
      refine thenS_n ?_
      refine W_seq ?_
      refine W_region ?_
      refine WO_step 1 [0] [0, 1, 5] True ⟨[(0, .one (.e (.sl 0 0 x1.length))), (1, I i2), (5, .one (.e (.nsl)))], [.row .ver x1 false]⟩ (by kernel_rfl) trivial ?_
      refine WO_nilrow 5 .ver rfl ?_
      refine WO_sub [0, 1] [0, 1, 5] (st' := ⟨[(0, .one (.e (.sl 0 0 x1.length))), (1, I i2), (5, .one (.e (.sl 1 0 (([] : List Ver).length))))], [.row .ver x1 false, .row .ver ([] : List Ver) true]⟩) (by kernel_rfl) ?_
      refine WO_nil rfl ?_
      refine thenS_n ?_
      refine W_seq ?_
      refine W_seq ?_
      refine W_region ?_
      refine WO_step 3 [0, 1] [0, 1, 5, 16, 17, 18] (True ∧ True) ⟨[(0, .one (.e (.sl 0 0 x1.length))), (1, I i2), (5, .one (.e (.sl 1 0 (([] : List Ver).length)))), (16, .one (.e (.sl 0 0 x1.length))), (17, I ((x1.length : Nat) : Int)), (18, I 0)], [.row .ver x1 false, .row .ver ([] : List Ver) true]⟩ (by kernel_rfl) ⟨trivial, trivial⟩ ?_
      refine WO_nil rfl ?_
      refine thenS_n ?_
      refine W_block ?_
      refine W_loop ?_
      refine bindO_e h (fun x130 hx130 h => ?_)
      refine WL_cut (impl_PruneVersions_L1_ok w X θ x1 i2 x130 n ([] : List Ver) 0 hx130) ?_
      rintro _ _ ⟨rfl, rfl⟩
      refine blockS_y ?_
      refine thenS_n ?_
      refine W_seq ?_
      refine W_region ?_
      refine WO_step 2 [0, 1] [4] True ⟨[(4, .one (.e (.sl 1 0 x130.length)))], [.row .ver x1 false, .row .ver x130 true]⟩ (by kernel_rfl) trivial ?_
      refine WO_nil rfl ?_
      refine thenS_n ?_
      refine W_ret ?_
      cases h
      exact ⟨[0, 1], True, by kernel_rfl, trivial⟩

/- spec.PruneVersions -/
def spec_PruneVersions_L1 (x1 : List Ver) (i2 : Int) : Nat → (List Ver) → Int → Option ((List Ver))
| 0, _, _ => none
| n + 1, x108, i109 =>
 iteO (decide (i109 < ((x1.length : Nat) : Int)))
 (guardO (0 ≤ i109 ∧ i109 < ((x1.length : Nat) : Int)) <|
 bindO (spec_asOf n x1 ((x1.getD i109.toNat dver).node) i2) fun i143 =>
 bindO (iteO (decide (i143 ≤ i109))
 (guardO (0 ≤ i109 ∧ i109 < ((x1.length : Nat) : Int)) <|
 guardO (0 = 0 ∧ x108.length = x108.length ∧ x108.length + (([(⟨(x1.getD i109.toNat dver).node, (x1.getD i109.toNat dver).value, (x1.getD i109.toNat dver).tm⟩ : Ver)].drop 0).take ([(⟨(x1.getD i109.toNat dver).node, (x1.getD i109.toNat dver).value, (x1.getD i109.toNat dver).tm⟩ : Ver)].length)).length ≤ 1099511627776) <|
 some (x108 ++ (([(⟨(x1.getD i109.toNat dver).node, (x1.getD i109.toNat dver).value, (x1.getD i109.toNat dver).tm⟩ : Ver)].drop 0).take ([(⟨(x1.getD i109.toNat dver).node, (x1.getD i109.toNat dver).value, (x1.getD i109.toNat dver).tm⟩ : Ver)].length))))
 (some x108)) fun x148 =>
 spec_PruneVersions_L1 x1 i2 n x148 (w64 (i109 + 1)))
 (some x108)

theorem spec_PruneVersions_L1_ok (w : World) (X : Nat → Prop) (θ : List Loc) (x1 : List Ver) (i2 : Int) (x130 : (List Ver)) : ∀ (n : Nat) (x108 : List Ver) (i109 : Int), spec_PruneVersions_L1 x1 i2 n x108 i109 = some x130 → WL EE ⟨w, X, θ, 40, 1⟩ (subC [1, 1, 1, 0, 1, 4, 4] (bodyC Try.f35)) (fun (e : Exit) (s : St) => e = .exit 0 ∧ s = ⟨[(5, .one (.e (.sl 1 0 x130.length)))], [.row .ver x1 false, .row .ver x130 true]⟩) ⟨[(0, .one (.e (.sl 0 0 x1.length))), (1, I i2), (5, .one (.e (.sl 1 0 x108.length))), (6, I i109)], [.row .ver x1 false, .row .ver x108 true]⟩ := by
  intro n
  induction n with
  | zero => intro _ _ h; exact none_e h
  | succ n ih =>
    intro x108 i109 h
    rw [spec_PruneVersions_L1] at h
    refine WL_round ?_
    refine W_seq ?_
    refine W_seq ?_
    refine W_region ?_
    refine WO_step 4 [0, 1] [0, 1, 5, 6, 19] (True ∧ (True ∧ True)) ⟨[(0, .one (.e (.sl 0 0 x1.length))), (1, I i2), (5, .one (.e (.sl 1 0 x108.length))), (6, I i109), (19, B (decide (i109 < ((x1.length : Nat) : Int))))], [.row .ver x1 false, .row .ver x108 true]⟩ (by kernel_rfl) ⟨trivial, trivial, trivial⟩ ?_
    refine WO_nil rfl ?_
    refine thenS_n ?_
    refine iteO_e h (fun hb133 h => W_true rfl hb133 ?_) (fun hb133 h => W_false rfl hb133 ?_)
    · refine W_sub [0, 1] [0, 1, 5, 6] (st' := ⟨[(0, .one (.e (.sl 0 0 x1.length))), (1, I i2), (5, .one (.e (.sl 1 0 x108.length))), (6, I i109)], [.row .ver x1 false, .row .ver x108 true]⟩) (by kernel_rfl) ?_
      refine W_skip ?_
      refine thenS_n ?_
      refine W_seq ?_
      refine W_block ?_
      refine W_seq ?_
      refine W_region ?_
      refine guardO_e h (fun hg142 h => ?_)
      refine WO_step 7 [0, 1] [0, 1, 5, 6, 22, 27, 28] ((0 ≤ i109 ∧ i109 < ((x1.length : Nat) : Int)) ∧ (True ∧ True)) ⟨[(0, .one (.e (.sl 0 0 x1.length))), (1, I i2), (5, .one (.e (.sl 1 0 x108.length))), (6, I i109), (22, .one (.e (.sl 0 0 x1.length))), (27, I ((x1.getD i109.toNat dver).node)), (28, I i2)], [.row .ver x1 false, .row .ver x108 true]⟩ (by kernel_rfl) ⟨hg142, trivial, trivial⟩ ?_
      refine bindO_e h (fun i143 hc144 h => ?_)
      refine WO_call [.ro 0] Try.f41 rfl rfl rfl (by kernel_rfl) rfl rfl (by kernel_rfl) (spec_asOf_ok n x1 ((x1.getD i109.toNat dver).node) i2 i143 hc144) (And.intro (And.intro rfl rfl) (trivial)) rfl ?_
      refine WO_step 2 [0, 1] [0, 1, 5, 6, 31] (True ∧ True) ⟨[(0, .one (.e (.sl 0 0 x1.length))), (1, I i2), (5, .one (.e (.sl 1 0 x108.length))), (6, I i109), (31, B (decide (i143 ≤ i109)))], [.row .ver x1 false, .row .ver x108 true]⟩ (by kernel_rfl) ⟨trivial, trivial⟩ ?_
      refine WO_nil rfl ?_
      refine thenS_n ?_
      refine bindO_e h (fun x148 hx148 h => ?_)
      refine W_cut (Q' := fun (e : Exit) (s : St) => e = .normal ∧ s = ⟨[(0, .one (.e (.sl 0 0 x1.length))), (1, I i2), (5, .one (.e (.sl 1 0 x148.length))), (6, I i109)], [.row .ver x1 false, .row .ver x148 true]⟩) ?_ ?_
      · refine iteO_e hx148 (fun hb150 hx148 => W_true rfl hb150 ?_) (fun hb150 hx148 => W_false rfl hb150 ?_)
        · refine W_region ?_
          refine guardO_e hx148 (fun hg151 hx148 => ?_)
          refine guardO_e hx148 (fun hg152 hx148 => ?_)
          refine WO_step 8 [0, 3] [0, 1, 5, 6] ((0 ≤ i109 ∧ i109 < ((x1.length : Nat) : Int)) ∧ (True ∧ ((0 = 0 ∧ x108.length = x108.length ∧ x108.length + (([(⟨(x1.getD i109.toNat dver).node, (x1.getD i109.toNat dver).value, (x1.getD i109.toNat dver).tm⟩ : Ver)].drop 0).take ([(⟨(x1.getD i109.toNat dver).node, (x1.getD i109.toNat dver).value, (x1.getD i109.toNat dver).tm⟩ : Ver)].length)).length ≤ 1099511627776) ∧ True))) ⟨[(0, .one (.e (.sl 0 0 x1.length))), (1, I i2), (5, .one (.e (.sl 1 0 ((x108 ++ (([(⟨(x1.getD i109.toNat dver).node, (x1.getD i109.toNat dver).value, (x1.getD i109.toNat dver).tm⟩ : Ver)].drop 0).take ([(⟨(x1.getD i109.toNat dver).node, (x1.getD i109.toNat dver).value, (x1.getD i109.toNat dver).tm⟩ : Ver)].length))).length)))), (6, I i109)], [.row .ver x1 false, .row .ver (x108 ++ (([(⟨(x1.getD i109.toNat dver).node, (x1.getD i109.toNat dver).value, (x1.getD i109.toNat dver).tm⟩ : Ver)].drop 0).take ([(⟨(x1.getD i109.toNat dver).node, (x1.getD i109.toNat dver).value, (x1.getD i109.toNat dver).tm⟩ : Ver)].length))) true]⟩ (by kernel_rfl) ⟨hg151, trivial, hg152, trivial⟩ ?_
          refine WO_nil rfl ?_
          cases hx148
          exact And.intro rfl rfl
        · refine W_sub [0, 1] [0, 1, 5, 6] (st' := ⟨[(0, .one (.e (.sl 0 0 x1.length))), (1, I i2), (5, .one (.e (.sl 1 0 x108.length))), (6, I i109)], [.row .ver x1 false, .row .ver x108 true]⟩) (by kernel_rfl) ?_
          refine W_skip ?_
          cases hx148
          exact And.intro rfl rfl
      · rintro _ _ ⟨rfl, rfl⟩
        refine blockS_n ?_
        refine thenS_n ?_
        refine W_region ?_
        refine WO_step 3 [0, 1] [0, 1, 5, 6] (True ∧ True) ⟨[(0, .one (.e (.sl 0 0 x1.length))), (1, I i2), (5, .one (.e (.sl 1 0 x148.length))), (6, I (w64 (i109 + 1)))], [.row .ver x1 false, .row .ver x148 true]⟩ (by kernel_rfl) ⟨trivial, trivial⟩ ?_
        refine WO_nil rfl ?_
        refine thenS_n ?_
        exact ih _ _ h
    · refine W_sub [0, 1] [5] (st' := ⟨[(5, .one (.e (.sl 1 0 x108.length)))], [.row .ver x1 false, .row .ver x108 true]⟩) (by kernel_rfl) ?_
      refine W_exit ?_
      refine thenS_e ?_
      refine thenS_e ?_
      cases h
      exact And.intro rfl rfl

def spec_PruneVersions (n : Nat) (x1 : List Ver) (i2 : Int) : Option ((List Ver)) :=
 bindO (spec_validVersions n x1) fun b77 =>
 iteO ((!b77) || (!(spec_inRange i2 0 100)))
 (some ([] : List Ver))
 (bindO (spec_PruneVersions_L1 x1 i2 n ([] : List Ver) 0) fun x130 =>
 some x130)

theorem spec_PruneVersions_ok (n : Nat) (x1 : List Ver) (i2 : Int) (x76 : List Ver) (h : spec_PruneVersions n x1 i2 = some x76) : FOk EE 35 [.one (.e (.sl 0 0 x1.length)), I i2] [.row .ver x1 false] (.one (.e (.sl 1 0 x76.length))) [.row .ver x1 false, .row .ver x76 true] := by
  unfold spec_PruneVersions at h
  refine FOk_of_W 40 1 Try.func35 rfl rfl (Nat.le_of_ble_eq_true rfl) rfl (fun w X θ => ?_)
  refine W_seq ?_
  refine W_region ?_
  refine WO_step 1 [0] [0, 1] True ⟨[(0, .one (.e (.sl 0 0 x1.length))), (1, I i2)], [.row .ver x1 false]⟩ (by kernel_rfl) trivial ?_
  refine WO_nil rfl ?_
  refine thenS_n ?_
  refine W_seq ?_
  refine W_region ?_
  refine WO_step 2 [0, 1] [0, 1, 5] True ⟨[(0, .one (.e (.sl 0 0 x1.length))), (1, I i2), (5, .one (.e (.sl 1 0 (([] : List Ver).length))))], [.row .ver x1 false, .row .ver ([] : List Ver) true]⟩ (by kernel_rfl) trivial ?_
  refine WO_nil rfl ?_
  refine thenS_n ?_
  refine W_seq ?_
  refine W_seq ?_
  refine W_region ?_
  refine WO_step 1 [0, 1] [0, 1, 5, 8] True ⟨[(0, .one (.e (.sl 0 0 x1.length))), (1, I i2), (5, .one (.e (.sl 1 0 (([] : List Ver).length)))), (8, .one (.e (.sl 0 0 x1.length)))], [.row .ver x1 false, .row .ver ([] : List Ver) true]⟩ (by kernel_rfl) trivial ?_
  refine bindO_e h (fun b77 hc78 h => ?_)
  refine WO_call [.ro 0] Try.f36 rfl rfl rfl (by kernel_rfl) rfl rfl (by kernel_rfl) (spec_validVersions_ok n x1 b77 hc78) (And.intro (And.intro rfl rfl) (trivial)) rfl ?_
  refine WO_step 2 [0, 1] [0, 1, 5, 11] True ⟨[(0, .one (.e (.sl 0 0 x1.length))), (1, I i2), (5, .one (.e (.sl 1 0 (([] : List Ver).length)))), (11, B (!b77))], [.row .ver x1 false, .row .ver ([] : List Ver) true]⟩ (by kernel_rfl) trivial ?_
  refine WO_thru ⟨[(0, .one (.e (.sl 0 0 x1.length))), (1, I i2), (5, .one (.e (.sl 1 0 (([] : List Ver).length)))), (15, B ((!b77) || (!(spec_inRange i2 0 100))))], [.row .ver x1 false, .row .ver ([] : List Ver) true]⟩ ?_ ?_
  · refine WO_if 11 rfl (fun hb81 => ?_) (fun hb81 => ?_)
    · refine WO_step 4 [0, 1] [0, 1, 5, 15] True ⟨[(0, .one (.e (.sl 0 0 x1.length))), (1, I i2), (5, .one (.e (.sl 1 0 (([] : List Ver).length)))), (15, B true)], [.row .ver x1 false, .row .ver ([] : List Ver) true]⟩ (by kernel_rfl) trivial ?_
      exact WO_nil rfl ⟨rfl, by first | rfl | (rw [hb81]; first | done | rfl)⟩
    · refine WO_step 1 [0, 1] [0, 1, 5, 11, 12] True ⟨[(0, .one (.e (.sl 0 0 x1.length))), (1, I i2), (5, .one (.e (.sl 1 0 (([] : List Ver).length)))), (11, B false), (12, I i2)], [.row .ver x1 false, .row .ver ([] : List Ver) true]⟩ (by kernel_rfl) trivial ?_
      refine WO_call [] Try.f47 rfl rfl rfl (by kernel_rfl) rfl rfl (by kernel_rfl) (spec_inRange_ok i2 0 100) (trivial) rfl ?_
      refine WO_step 2 [0, 1] [0, 1, 5, 15] True ⟨[(0, .one (.e (.sl 0 0 x1.length))), (1, I i2), (5, .one (.e (.sl 1 0 (([] : List Ver).length)))), (15, B (!(spec_inRange i2 0 100)))], [.row .ver x1 false, .row .ver ([] : List Ver) true]⟩ (by kernel_rfl) trivial ?_
      exact WO_nil rfl ⟨rfl, by first | rfl | (rw [hb81]; first | done | rfl)⟩
  · refine thenS_n ?_
    refine iteO_e h (fun hb83 h => W_true rfl hb83 ?_) (fun hb83 h => W_false rfl hb83 ?_)
    · refine W_seq ?_
      refine W_region ?_
      refine WO_step 1 [0] [4] True ⟨[(4, .one (.e (.nsl)))], [.row .ver x1 false]⟩ (by kernel_rfl) trivial ?_
      refine WO_nilrow 4 .ver rfl ?_
      refine WO_sub [0, 1] [4] (st' := ⟨[(4, .one (.e (.sl 1 0 (([] : List Ver).length))))], [.row .ver x1 false, .row .ver ([] : List Ver) true]⟩) (by kernel_rfl) ?_
      refine WO_nil rfl ?_
      refine thenS_n ?_
      refine W_ret ?_
      refine thenS_r ?_
      cases h
      exact ⟨[0, 1], True, by kernel_rfl, trivial⟩
    · refine W_sub [0, 1] [0, 1, 5] (st' := ⟨[(0, .one (.e (.sl 0 0 x1.length))), (1, I i2), (5, .one (.e (.sl 1 0 (([] : List Ver).length))))], [.row .ver x1 false, .row .ver ([] : List Ver) true]⟩) (by kernel_rfl) ?_
      refine W_skip ?_
      refine thenS_n ?_
      refine W_seq ?_
      refine W_seq ?_
      refine W_region ?_
      refine WO_step 1 [0, 1] [0, 1, 5, 6] True ⟨[(0, .one (.e (.sl 0 0 x1.length))), (1, I i2), (5, .one (.e (.sl 1 0 (([] : List Ver).length)))), (6, I 0)], [.row .ver x1 false, .row .ver ([] : List Ver) true]⟩ (by kernel_rfl) trivial ?_
      refine WO_nil rfl ?_
      refine thenS_n ?_
      refine W_block ?_
      refine W_loop ?_
      refine bindO_e h (fun x130 hx130 h => ?_)
      refine WL_cut (spec_PruneVersions_L1_ok w X θ x1 i2 x130 n ([] : List Ver) 0 hx130) ?_
      rintro _ _ ⟨rfl, rfl⟩
      refine blockS_y ?_
      refine thenS_n ?_
      refine W_seq ?_
      refine W_region ?_
      refine WO_step 2 [0, 1] [4] True ⟨[(4, .one (.e (.sl 1 0 x130.length)))], [.row .ver x1 false, .row .ver x130 true]⟩ (by kernel_rfl) trivial ?_
      refine WO_nil rfl ?_
      refine thenS_n ?_
      refine W_ret ?_
      cases h
      exact ⟨[0, 1], True, by kernel_rfl, trivial⟩

/- laws.FnPruneVersionsLater -/
def laws_FnPruneVersionsLater (n : Nat) (x1 : List Int) : Option (Bool) :=
 iteO (decide (1048576 < ((x1.length : Nat) : Int)))
 (some true)
 (bindO (spec_DrawPruneVersions n x1) fun (x46, i47) =>
 bindO (impl_PruneVersions n x46 i47) fun x49 =>
 bindO (spec_PruneVersions n x46 i47) fun x51 =>
 bindO (laws_equalVersions n x49 x51) fun b53 =>
 iteO ((!b53) || ((decide (((x49.length : Nat) : Int) = 0)) || (decide (100 < (w64 (i47 + 5))))))
 (bindO (spec_PruneVersions n x46 i47) fun x66 =>
 bindO (laws_equalVersions n x49 x66) fun b68 =>
 some b68)
 (bindO (impl_PruneVersions n x46 (w64 (i47 + 5))) fun x70 =>
 bindO (iteO (decide (((x70.length : Nat) : Int) ≤ ((x49.length : Nat) : Int)))
 (bindO (impl_PruneVersions n x49 (w64 (i47 + 5))) fun x80 =>
 bindO (laws_equalVersions n x80 x70) fun b82 =>
 some b82)
 (some false)) fun b77 =>
 some b77))

theorem laws_FnPruneVersionsLater_ok (n : Nat) (x1 : List Int) (b43 : Bool) (h : laws_FnPruneVersionsLater n x1 = some b43) : FOk EE 13 [.one (.e (.sl 0 0 x1.length))] [.row .u8 x1 false] (B b43) [.row .u8 x1 false] := by
  unfold laws_FnPruneVersionsLater at h
  refine FOk_of_W 56 1 Try.func13 rfl rfl (Nat.le_of_ble_eq_true rfl) rfl (fun w X θ => ?_)
  refine W_seq ?_
  refine W_region ?_
  refine WO_step 1 [0] [0] True ⟨[(0, .one (.e (.sl 0 0 x1.length)))], [.row .u8 x1 false]⟩ (by kernel_rfl) trivial ?_
  refine WO_nil rfl ?_
  refine thenS_n ?_
  refine W_seq ?_
  refine W_seq ?_
  refine W_region ?_
  refine WO_step 3 [0] [0, 9] (True ∧ (True ∧ True)) ⟨[(0, .one (.e (.sl 0 0 x1.length))), (9, B (decide (1048576 < ((x1.length : Nat) : Int))))], [.row .u8 x1 false]⟩ (by kernel_rfl) ⟨trivial, trivial, trivial⟩ ?_
  refine WO_nil rfl ?_
  refine thenS_n ?_
  refine iteO_e h (fun hb45 h => W_true rfl hb45 ?_) (fun hb45 h => W_false rfl hb45 ?_)
  · refine W_seq ?_
    refine W_region ?_
    refine WO_step 1 [0] [2] True ⟨[(2, B true)], [.row .u8 x1 false]⟩ (by kernel_rfl) trivial ?_
    refine WO_nil rfl ?_
    refine thenS_n ?_
    refine W_ret ?_
    refine thenS_r ?_
    cases h
    exact ⟨[0], True, by kernel_rfl, trivial⟩
  · refine W_sub [0] [0] (st' := ⟨[(0, .one (.e (.sl 0 0 x1.length)))], [.row .u8 x1 false]⟩) (by kernel_rfl) ?_
    refine W_skip ?_
    refine thenS_n ?_
    refine W_seq ?_
    refine W_region ?_
    refine WO_step 1 [0] [11] True ⟨[(11, .one (.e (.sl 0 0 x1.length)))], [.row .u8 x1 false]⟩ (by kernel_rfl) trivial ?_
    refine bindO_e h (fun v84 hc48 h => ?_)
    obtain ⟨x46, i47⟩ := v84
    refine WO_call [.ro 0] Try.f33 rfl rfl rfl (by kernel_rfl) rfl rfl (by kernel_rfl) (spec_DrawPruneVersions_ok n x1 x46 i47 hc48) (And.intro (And.intro rfl rfl) (trivial)) rfl ?_
    refine WO_step 5 [0, 1] [3, 4] True ⟨[(3, .one (.e (.sl 1 0 x46.length))), (4, I i47)], [.row .u8 x1 false, .row .ver x46 true]⟩ (by kernel_rfl) trivial ?_
    refine WO_nil rfl ?_
    refine thenS_n ?_
    refine W_seq ?_
    refine W_region ?_
    refine WO_step 2 [0, 1] [3, 4, 15, 16] True ⟨[(3, .one (.e (.sl 1 0 x46.length))), (4, I i47), (15, .one (.e (.sl 1 0 x46.length))), (16, I i47)], [.row .u8 x1 false, .row .ver x46 true]⟩ (by kernel_rfl) trivial ?_
    refine bindO_e h (fun x49 hc50 h => ?_)
    refine WO_call [.ro 1] Try.f34 rfl rfl rfl (by kernel_rfl) rfl rfl (by kernel_rfl) (impl_PruneVersions_ok n x46 i47 x49 hc50) (And.intro (And.intro rfl rfl) (trivial)) rfl ?_
    refine WO_step 1 [0, 1, 2] [3, 4, 5] True ⟨[(3, .one (.e (.sl 1 0 x46.length))), (4, I i47), (5, .one (.e (.sl 2 0 x49.length)))], [.row .u8 x1 false, .row .ver x46 true, .row .ver x49 true]⟩ (by kernel_rfl) trivial ?_
    refine WO_nil rfl ?_
    refine thenS_n ?_
    refine W_seq ?_
    refine W_seq ?_
    refine W_region ?_
    refine WO_step 3 [0, 1, 2] [3, 4, 5, 18, 19, 20] True ⟨[(3, .one (.e (.sl 1 0 x46.length))), (4, I i47), (5, .one (.e (.sl 2 0 x49.length))), (18, .one (.e (.sl 2 0 x49.length))), (19, .one (.e (.sl 1 0 x46.length))), (20, I i47)], [.row .u8 x1 false, .row .ver x46 true, .row .ver x49 true]⟩ (by kernel_rfl) trivial ?_
    refine bindO_e h (fun x51 hc52 h => ?_)
    refine WO_call [.ro 1] Try.f35 rfl rfl rfl (by kernel_rfl) rfl rfl (by kernel_rfl) (spec_PruneVersions_ok n x46 i47 x51 hc52) (And.intro (And.intro rfl rfl) (trivial)) rfl ?_
    refine WO_sub [0, 1, 2, 3] [3, 4, 5, 18, 21] (st' := ⟨[(3, .one (.e (.sl 1 0 x46.length))), (4, I i47), (5, .one (.e (.sl 2 0 x49.length))), (18, .one (.e (.sl 2 0 x49.length))), (21, .one (.e (.sl 3 0 x51.length)))], [.row .u8 x1 false, .row .ver x46 true, .row .ver x49 true, .row .ver x51 true]⟩) (by kernel_rfl) ?_
    refine bindO_e h (fun b53 hc54 h => ?_)
    refine WO_call [.ro 2, .ro 3] Try.f29 rfl rfl rfl (by kernel_rfl) rfl rfl (by kernel_rfl) (laws_equalVersions_ok n x49 x51 b53 hc54) (And.intro (And.intro rfl rfl) (And.intro (And.intro rfl rfl) (trivial))) rfl ?_
    refine WO_step 2 [0, 1, 2] [3, 4, 5, 24] True ⟨[(3, .one (.e (.sl 1 0 x46.length))), (4, I i47), (5, .one (.e (.sl 2 0 x49.length))), (24, B (!b53))], [.row .u8 x1 false, .row .ver x46 true, .row .ver x49 true]⟩ (by kernel_rfl) trivial ?_
    refine WO_thru ⟨[(3, .one (.e (.sl 1 0 x46.length))), (4, I i47), (5, .one (.e (.sl 2 0 x49.length))), (33, B ((!b53) || ((decide (((x49.length : Nat) : Int) = 0)) || (decide (100 < (w64 (i47 + 5)))))))], [.row .u8 x1 false, .row .ver x46 true, .row .ver x49 true]⟩ ?_ ?_
    · refine WO_if 24 rfl (fun hb58 => ?_) (fun hb58 => ?_)
      · refine WO_step 9 [0, 1, 2] [3, 4, 5, 33] True ⟨[(3, .one (.e (.sl 1 0 x46.length))), (4, I i47), (5, .one (.e (.sl 2 0 x49.length))), (33, B true)], [.row .u8 x1 false, .row .ver x46 true, .row .ver x49 true]⟩ (by kernel_rfl) trivial ?_
        exact WO_nil rfl ⟨rfl, by first | rfl | (rw [hb58]; first | done | rfl)⟩
      · refine WO_step 5 [0, 1, 2] [3, 4, 5, 29] (True ∧ (True ∧ True)) ⟨[(3, .one (.e (.sl 1 0 x46.length))), (4, I i47), (5, .one (.e (.sl 2 0 x49.length))), (29, B (decide (((x49.length : Nat) : Int) = 0)))], [.row .u8 x1 false, .row .ver x46 true, .row .ver x49 true]⟩ (by kernel_rfl) ⟨trivial, trivial, trivial⟩ ?_
        refine WO_if 29 rfl (fun hb59 => ?_) (fun hb59 => ?_)
        · refine WO_step 4 [0, 1, 2] [3, 4, 5, 33] True ⟨[(3, .one (.e (.sl 1 0 x46.length))), (4, I i47), (5, .one (.e (.sl 2 0 x49.length))), (33, B true)], [.row .u8 x1 false, .row .ver x46 true, .row .ver x49 true]⟩ (by kernel_rfl) trivial ?_
          exact WO_nil rfl ⟨rfl, by first | rfl | (simp only [hb58, hb59]; first | done | rfl)⟩
        · refine WO_step 4 [0, 1, 2] [3, 4, 5, 33] (True ∧ (True ∧ True)) ⟨[(3, .one (.e (.sl 1 0 x46.length))), (4, I i47), (5, .one (.e (.sl 2 0 x49.length))), (33, B (decide (100 < (w64 (i47 + 5)))))], [.row .u8 x1 false, .row .ver x46 true, .row .ver x49 true]⟩ (by kernel_rfl) ⟨trivial, trivial, trivial⟩ ?_
          exact WO_nil rfl ⟨rfl, by first | rfl | (simp only [hb58, hb59]; first | done | rfl)⟩
    · refine thenS_n ?_
      refine iteO_e h (fun hb65 h => W_true rfl hb65 ?_) (fun hb65 h => W_false rfl hb65 ?_)
      · refine W_seq ?_
        refine W_region ?_
        refine WO_step 3 [0, 2, 1] [34, 35, 36] True ⟨[(34, .one (.e (.sl 1 0 x49.length))), (35, .one (.e (.sl 2 0 x46.length))), (36, I i47)], [.row .u8 x1 false, .row .ver x49 true, .row .ver x46 true]⟩ (by kernel_rfl) trivial ?_
        refine bindO_e h (fun x66 hc67 h => ?_)
        refine WO_call [.ro 2] Try.f35 rfl rfl rfl (by kernel_rfl) rfl rfl (by kernel_rfl) (spec_PruneVersions_ok n x46 i47 x66 hc67) (And.intro (And.intro rfl rfl) (trivial)) rfl ?_
        refine WO_sub [0, 1, 3] [34, 37] (st' := ⟨[(34, .one (.e (.sl 1 0 x49.length))), (37, .one (.e (.sl 2 0 x66.length)))], [.row .u8 x1 false, .row .ver x49 true, .row .ver x66 true]⟩) (by kernel_rfl) ?_
        refine bindO_e h (fun b68 hc69 h => ?_)
        refine WO_call [.ro 1, .ro 2] Try.f29 rfl rfl rfl (by kernel_rfl) rfl rfl (by kernel_rfl) (laws_equalVersions_ok n x49 x66 b68 hc69) (And.intro (And.intro rfl rfl) (And.intro (And.intro rfl rfl) (trivial))) rfl ?_
        refine WO_step 1 [0] [2] True ⟨[(2, B b68)], [.row .u8 x1 false]⟩ (by kernel_rfl) trivial ?_
        refine WO_nil rfl ?_
        refine thenS_n ?_
        refine W_ret ?_
        refine thenS_r ?_
        cases h
        exact ⟨[0], True, by kernel_rfl, trivial⟩
      · refine W_sub [0, 1, 2] [3, 4, 5] (st' := ⟨[(3, .one (.e (.sl 1 0 x46.length))), (4, I i47), (5, .one (.e (.sl 2 0 x49.length)))], [.row .u8 x1 false, .row .ver x46 true, .row .ver x49 true]⟩) (by kernel_rfl) ?_
        refine W_skip ?_
        refine thenS_n ?_
        refine W_seq ?_
        refine W_region ?_
        refine WO_step 3 [0, 2, 1] [4, 5, 39, 41] (True ∧ True) ⟨[(4, I i47), (5, .one (.e (.sl 1 0 x49.length))), (39, .one (.e (.sl 2 0 x46.length))), (41, I (w64 (i47 + 5)))], [.row .u8 x1 false, .row .ver x49 true, .row .ver x46 true]⟩ (by kernel_rfl) ⟨trivial, trivial⟩ ?_
        refine bindO_e h (fun x70 hc71 h => ?_)
        refine WO_call [.ro 2] Try.f34 rfl rfl rfl (by kernel_rfl) rfl rfl (by kernel_rfl) (impl_PruneVersions_ok n x46 (w64 (i47 + 5)) x70 hc71) (And.intro (And.intro rfl rfl) (trivial)) rfl ?_
        refine WO_step 1 [0, 1, 3] [4, 5, 6] True ⟨[(4, I i47), (5, .one (.e (.sl 1 0 x49.length))), (6, .one (.e (.sl 2 0 x70.length)))], [.row .u8 x1 false, .row .ver x49 true, .row .ver x70 true]⟩ (by kernel_rfl) trivial ?_
        refine WO_nil rfl ?_
        refine thenS_n ?_
        refine W_seq ?_
        refine W_region ?_
        refine WO_step 6 [0, 1, 2] [4, 5, 6, 48] (True ∧ (True ∧ (True ∧ True))) ⟨[(4, I i47), (5, .one (.e (.sl 1 0 x49.length))), (6, .one (.e (.sl 2 0 x70.length))), (48, B (decide (((x70.length : Nat) : Int) ≤ ((x49.length : Nat) : Int))))], [.row .u8 x1 false, .row .ver x49 true, .row .ver x70 true]⟩ (by kernel_rfl) ⟨trivial, trivial, trivial, trivial⟩ ?_
        refine bindO_e h (fun b77 hv78 h => ?_)
        refine WO_thru ⟨[(2, B b77)], [.row .u8 x1 false]⟩ ?_ ?_
        · refine iteO_e hv78 (fun hb79 hv78 => WO_known 48 true rfl hb79 ?_) (fun hb79 hv78 => WO_known 48 false rfl hb79 ?_)
          · refine WO_step 3 [0, 2, 1] [6, 48, 49, 51] (True ∧ True) ⟨[(6, .one (.e (.sl 1 0 x70.length))), (48, B true), (49, .one (.e (.sl 2 0 x49.length))), (51, I (w64 (i47 + 5)))], [.row .u8 x1 false, .row .ver x70 true, .row .ver x49 true]⟩ (by kernel_rfl) ⟨trivial, trivial⟩ ?_
            refine bindO_e hv78 (fun x80 hc81 hv78 => ?_)
            refine WO_call [.ro 2] Try.f34 rfl rfl rfl (by kernel_rfl) rfl rfl (by kernel_rfl) (impl_PruneVersions_ok n x49 (w64 (i47 + 5)) x80 hc81) (And.intro (And.intro rfl rfl) (trivial)) rfl ?_
            refine WO_step 1 [0, 3, 1] [48, 52, 53] True ⟨[(48, B true), (52, .one (.e (.sl 1 0 x80.length))), (53, .one (.e (.sl 2 0 x70.length)))], [.row .u8 x1 false, .row .ver x80 true, .row .ver x70 true]⟩ (by kernel_rfl) trivial ?_
            refine bindO_e hv78 (fun b82 hc83 hv78 => ?_)
            refine WO_call [.ro 1, .ro 2] Try.f29 rfl rfl rfl (by kernel_rfl) rfl rfl (by kernel_rfl) (laws_equalVersions_ok n x80 x70 b82 hc83) (And.intro (And.intro rfl rfl) (And.intro (And.intro rfl rfl) (trivial))) rfl ?_
            refine WO_step 2 [0] [2] True ⟨[(2, B b82)], [.row .u8 x1 false]⟩ (by kernel_rfl) trivial ?_
            cases hv78
            exact WO_nil rfl ⟨rfl, rfl⟩
          · refine WO_step 8 [0] [2] True ⟨[(2, B false)], [.row .u8 x1 false]⟩ (by kernel_rfl) trivial ?_
            cases hv78
            exact WO_nil rfl ⟨rfl, rfl⟩
        · refine thenS_n ?_
          refine W_ret ?_
          cases h
          exact ⟨[0], True, by kernel_rfl, trivial⟩

/- laws.FnPruneVersionsTwice -/
def laws_FnPruneVersionsTwice_L2 (i317 : Int) (x319 : List Ver) (i427 : Int) (x1 : List Int) : Nat → Int → Option ((Unit) ⊕ (Unit))
| 0, _ => none
| n + 1, i581 =>
 iteO (decide (i581 < i427))
 (guardO (0 ≤ i427 ∧ i427 < ((x319.length : Nat) : Int)) <|
 guardO (0 ≤ i581 ∧ i581 < ((x319.length : Nat) : Int)) <|
 bindO (iteO (decide (((x319.getD i427.toNat dver).node) = ((x319.getD i581.toNat dver).node)))
 (guardO (0 ≤ i427 ∧ i427 < ((x319.length : Nat) : Int)) <|
 some (decide (((x319.getD i427.toNat dver).tm) ≤ i317)))
 (some false)) fun b616 =>
 iteO b616
 (some (.inl ()))
 (laws_FnPruneVersionsTwice_L2 i317 x319 i427 x1 n (w64 (i581 + 1))))
 (some (.inr ()))

theorem laws_FnPruneVersionsTwice_L2_ok (w : World) (X : Nat → Prop) (θ : List Loc) (i317 : Int) (x319 : List Ver) (i427 : Int) (x1 : List Int) (v : (Unit) ⊕ (Unit)) : ∀ (n : Nat) (i581 : Int), laws_FnPruneVersionsTwice_L2 i317 x319 i427 x1 n i581 = some v → WL EE ⟨w, X, θ, 71, 1⟩ (subC [1, 1, 1, 1, 1, 0, 1, 4, 4, 1, 0, 4, 1, 4, 4] (bodyC Try.f14)) (fun (e : Exit) (s : St) => (match v with | (.inl _) => e = .ret ∧ s = ⟨[(2, B false)], [.row .u8 x1 false]⟩ | (.inr _) => e = .exit 2 ∧ s = ⟨[(4, I i317), (5, .one (.e (.sl 1 0 x319.length))), (6, I i427)], [.row .u8 x1 false, .row .ver x319 true]⟩ : Prop)) ⟨[(4, I i317), (5, .one (.e (.sl 1 0 x319.length))), (6, I i427), (7, I i581)], [.row .u8 x1 false, .row .ver x319 true]⟩ := by
  intro n
  induction n with
  | zero => intro _ h; exact none_e h
  | succ n ih =>
    intro i581 h
    rw [laws_FnPruneVersionsTwice_L2] at h
    refine WL_round ?_
    refine W_seq ?_
    refine W_seq ?_
    refine W_region ?_
    refine WO_step 3 [0, 1] [4, 5, 6, 7, 43] (True ∧ True) ⟨[(4, I i317), (5, .one (.e (.sl 1 0 x319.length))), (6, I i427), (7, I i581), (43, B (decide (i581 < i427)))], [.row .u8 x1 false, .row .ver x319 true]⟩ (by kernel_rfl) ⟨trivial, trivial⟩ ?_
    refine WO_nil rfl ?_
    refine thenS_n ?_
    refine iteO_e h (fun hb603 h => W_true rfl hb603 ?_) (fun hb603 h => W_false rfl hb603 ?_)
    · refine W_sub [0, 1] [4, 5, 6, 7] (st' := ⟨[(4, I i317), (5, .one (.e (.sl 1 0 x319.length))), (6, I i427), (7, I i581)], [.row .u8 x1 false, .row .ver x319 true]⟩) (by kernel_rfl) ?_
      refine W_skip ?_
      refine thenS_n ?_
      refine W_seq ?_
      refine W_block ?_
      refine W_seq ?_
      refine guardO_e h (fun hg612 h => ?_)
      refine guardO_e h (fun hg613 h => ?_)
      refine bindO_e h (fun b616 hv617 h => ?_)
      refine W_cut (Q' := fun (e : Exit) (s : St) => e = .normal ∧ s = ⟨[(4, I i317), (5, .one (.e (.sl 1 0 x319.length))), (6, I i427), (7, I i581), (65, B b616)], [.row .u8 x1 false, .row .ver x319 true]⟩) ?_ ?_
      · refine iteO_e hv617 (fun hb614 hv617 => ?_) (fun hb614 hv617 => ?_)
        · refine guardO_e hv617 (fun hg615 hv617 => ?_)
          refine W_draw [] true (by kernel_rfl) (by kernel_rfl) ?_
          refine WD_takeK [0, 1, 2, 3, 4, 5, 6, 7, 8, 9, 10, 11] [4, 5, 6, 7, 57] [4, 5, 6, 7, 57] (φ := ((0 ≤ i427 ∧ i427 < ((x319.length : Nat) : Int)) ∧ (0 ≤ i427 ∧ i427 < ((x319.length : Nat) : Int)) ∧ (True ∧ True ∧ ((0 ≤ i581 ∧ i581 < ((x319.length : Nat) : Int)) ∧ (0 ≤ i581 ∧ i581 < ((x319.length : Nat) : Int)) ∧ (True ∧ True ∧ (True ∧ True ∧ True)))))) (ls' := #[true, true, true, true, true, true, true, true, true, true, true, true, false, false, false, false, false, false, false, false]) (Ts' := [(4, I i317), (5, .one (.e (.sl 1 0 x319.length))), (6, I i427), (7, I i581), (57, B (decide (((x319.getD i427.toNat dver).node) = ((x319.getD i581.toNat dver).node))))]) (st' := ⟨[(4, I i317), (5, .one (.e (.sl 1 0 x319.length))), (6, I i427), (7, I i581), (57, B (decide (((x319.getD i427.toNat dver).node) = ((x319.getD i581.toNat dver).node))))], [.row .u8 x1 false, .row .ver x319 true]⟩) (n2 := 8) (by kernel_rfl) ⟨hg612, hg612, trivial, trivial, hg613, hg613, trivial, trivial, trivial, trivial, trivial⟩ rfl ?_
          refine WD_known 57 true rfl rfl hb614 ?_
          refine WD_takeK [12, 13, 14, 15, 16, 17, 18, 19] [4, 5, 6, 7, 65] [4, 5, 6, 7, 65] (φ := ((0 ≤ i427 ∧ i427 < ((x319.length : Nat) : Int)) ∧ (0 ≤ i427 ∧ i427 < ((x319.length : Nat) : Int)) ∧ (True ∧ True ∧ (True ∧ True ∧ True)))) (ls' := #[true, true, true, true, true, true, true, true, true, true, true, true, true, true, true, true, true, true, true, true]) (Ts' := [(4, I i317), (5, .one (.e (.sl 1 0 x319.length))), (6, I i427), (7, I i581), (65, B (decide (((x319.getD i427.toNat dver).tm) ≤ i317)))]) (st' := ⟨[(4, I i317), (5, .one (.e (.sl 1 0 x319.length))), (6, I i427), (7, I i581), (65, B (decide (((x319.getD i427.toNat dver).tm) ≤ i317)))], [.row .u8 x1 false, .row .ver x319 true]⟩) (n2 := 0) (by kernel_rfl) ⟨hg615, hg615, trivial, trivial, trivial, trivial, trivial⟩ rfl ?_
          exact WD_done [0, 1] [4, 5, 6, 7, 65] (st' := ⟨[(4, I i317), (5, .one (.e (.sl 1 0 x319.length))), (6, I i427), (7, I i581), (65, B (decide (((x319.getD i427.toNat dver).tm) ≤ i317)))], [.row .u8 x1 false, .row .ver x319 true]⟩) (by kernel_rfl) (by kernel_rfl) (And.intro rfl (by cases hv617; rfl))
        · refine W_draw [] true (by kernel_rfl) (by kernel_rfl) ?_
          refine WD_takeK [0, 1, 2, 3, 4, 5, 6, 7, 8, 9, 10, 11] [4, 5, 6, 7, 57] [4, 5, 6, 7, 57] (φ := ((0 ≤ i427 ∧ i427 < ((x319.length : Nat) : Int)) ∧ (0 ≤ i427 ∧ i427 < ((x319.length : Nat) : Int)) ∧ (True ∧ True ∧ ((0 ≤ i581 ∧ i581 < ((x319.length : Nat) : Int)) ∧ (0 ≤ i581 ∧ i581 < ((x319.length : Nat) : Int)) ∧ (True ∧ True ∧ (True ∧ True ∧ True)))))) (ls' := #[true, true, true, true, true, true, true, true, true, true, true, true, false, false, false, false, false, false, false, false]) (Ts' := [(4, I i317), (5, .one (.e (.sl 1 0 x319.length))), (6, I i427), (7, I i581), (57, B (decide (((x319.getD i427.toNat dver).node) = ((x319.getD i581.toNat dver).node))))]) (st' := ⟨[(4, I i317), (5, .one (.e (.sl 1 0 x319.length))), (6, I i427), (7, I i581), (57, B (decide (((x319.getD i427.toNat dver).node) = ((x319.getD i581.toNat dver).node))))], [.row .u8 x1 false, .row .ver x319 true]⟩) (n2 := 8) (by kernel_rfl) ⟨hg612, hg612, trivial, trivial, hg613, hg613, trivial, trivial, trivial, trivial, trivial⟩ rfl ?_
          refine WD_known 57 false rfl rfl hb614 ?_
          refine WD_takeK [12, 13, 14, 15, 16, 17, 18, 19] [4, 5, 6, 7, 65] [4, 5, 6, 7, 65] (φ := True) (ls' := #[true, true, true, true, true, true, true, true, true, true, true, true, true, true, true, true, true, true, true, true]) (Ts' := [(4, I i317), (5, .one (.e (.sl 1 0 x319.length))), (6, I i427), (7, I i581), (65, B false)]) (st' := ⟨[(4, I i317), (5, .one (.e (.sl 1 0 x319.length))), (6, I i427), (7, I i581), (65, B false)], [.row .u8 x1 false, .row .ver x319 true]⟩) (n2 := 0) (by kernel_rfl) trivial rfl ?_
          exact WD_done [0, 1] [4, 5, 6, 7, 65] (st' := ⟨[(4, I i317), (5, .one (.e (.sl 1 0 x319.length))), (6, I i427), (7, I i581), (65, B false)], [.row .u8 x1 false, .row .ver x319 true]⟩) (by kernel_rfl) (by kernel_rfl) (And.intro rfl (by cases hv617; rfl))
      · rintro _ _ ⟨rfl, rfl⟩
        refine thenS_n ?_
        refine iteO_e h (fun hb619 h => W_true rfl hb619 ?_) (fun hb619 h => W_false rfl hb619 ?_)
        · refine W_seq ?_
          refine W_region ?_
          refine WO_step 1 [0] [2] True ⟨[(2, B false)], [.row .u8 x1 false]⟩ (by kernel_rfl) trivial ?_
          refine WO_nil rfl ?_
          refine thenS_n ?_
          refine W_ret ?_
          refine blockS_r ?_
          refine thenS_r ?_
          refine thenS_r ?_
          cases h
          exact And.intro rfl rfl
        · refine W_sub [0, 1] [4, 5, 6, 7] (st' := ⟨[(4, I i317), (5, .one (.e (.sl 1 0 x319.length))), (6, I i427), (7, I i581)], [.row .u8 x1 false, .row .ver x319 true]⟩) (by kernel_rfl) ?_
          refine W_skip ?_
          refine blockS_n ?_
          refine thenS_n ?_
          refine W_region ?_
          refine WO_step 3 [0, 1] [4, 5, 6, 7] (True ∧ True) ⟨[(4, I i317), (5, .one (.e (.sl 1 0 x319.length))), (6, I i427), (7, I (w64 (i581 + 1)))], [.row .u8 x1 false, .row .ver x319 true]⟩ (by kernel_rfl) ⟨trivial, trivial⟩ ?_
          refine WO_nil rfl ?_
          refine thenS_n ?_
          exact ih _ h
    · refine W_sub [0, 1] [4, 5, 6] (st' := ⟨[(4, I i317), (5, .one (.e (.sl 1 0 x319.length))), (6, I i427)], [.row .u8 x1 false, .row .ver x319 true]⟩) (by kernel_rfl) ?_
      refine W_exit ?_
      refine thenS_e ?_
      refine thenS_e ?_
      cases h
      exact And.intro rfl rfl

def laws_FnPruneVersionsTwice_L1 (i317 : Int) (x319 : List Ver) (x1 : List Int) : Nat → Int → Option ((Unit) ⊕ (Unit))
| 0, _ => none
| n + 1, i427 =>
 iteO (decide (i427 < ((x319.length : Nat) : Int)))
 (bindO (laws_FnPruneVersionsTwice_L2 i317 x319 i427 x1 n 0) fun v620 =>
 match v620 with
 | (.inl _) => (some (.inl ()))
 | (.inr _) => (laws_FnPruneVersionsTwice_L1 i317 x319 x1 n (w64 (i427 + 1)))
)
 (some (.inr ()))

theorem laws_FnPruneVersionsTwice_L1_ok (w : World) (X : Nat → Prop) (θ : List Loc) (i317 : Int) (x319 : List Ver) (x1 : List Int) (v : (Unit) ⊕ (Unit)) : ∀ (n : Nat) (i427 : Int), laws_FnPruneVersionsTwice_L1 i317 x319 x1 n i427 = some v → WL EE ⟨w, X, θ, 71, 1⟩ (subC [1, 1, 1, 1, 1, 0, 1, 4, 4] (bodyC Try.f14)) (fun (e : Exit) (s : St) => (match v with | (.inl _) => e = .ret ∧ s = ⟨[(2, B false)], [.row .u8 x1 false]⟩ | (.inr _) => e = .exit 0 ∧ s = ⟨[(4, I i317), (5, .one (.e (.sl 1 0 x319.length)))], [.row .u8 x1 false, .row .ver x319 true]⟩ : Prop)) ⟨[(4, I i317), (5, .one (.e (.sl 1 0 x319.length))), (6, I i427)], [.row .u8 x1 false, .row .ver x319 true]⟩ := by
  intro n
  induction n with
  | zero => intro _ h; exact none_e h
  | succ n ih =>
    intro i427 h
    rw [laws_FnPruneVersionsTwice_L1] at h
    refine WL_round ?_
    refine W_seq ?_
    refine W_seq ?_
    refine W_region ?_
    refine WO_step 4 [0, 1] [4, 5, 6, 38] (True ∧ (True ∧ True)) ⟨[(4, I i317), (5, .one (.e (.sl 1 0 x319.length))), (6, I i427), (38, B (decide (i427 < ((x319.length : Nat) : Int))))], [.row .u8 x1 false, .row .ver x319 true]⟩ (by kernel_rfl) ⟨trivial, trivial, trivial⟩ ?_
    refine WO_nil rfl ?_
    refine thenS_n ?_
    refine iteO_e h (fun hb517 h => W_true rfl hb517 ?_) (fun hb517 h => W_false rfl hb517 ?_)
    · refine W_sub [0, 1] [4, 5, 6] (st' := ⟨[(4, I i317), (5, .one (.e (.sl 1 0 x319.length))), (6, I i427)], [.row .u8 x1 false, .row .ver x319 true]⟩) (by kernel_rfl) ?_
      refine W_skip ?_
      refine thenS_n ?_
      refine W_seq ?_
      refine W_block ?_
      refine W_seq ?_
      refine W_region ?_
      refine WO_step 1 [0, 1] [4, 5, 6, 7] True ⟨[(4, I i317), (5, .one (.e (.sl 1 0 x319.length))), (6, I i427), (7, I 0)], [.row .u8 x1 false, .row .ver x319 true]⟩ (by kernel_rfl) trivial ?_
      refine WO_nil rfl ?_
      refine thenS_n ?_
      refine W_block ?_
      refine W_loop ?_
      refine bindO_e h (fun v620 hv620 h => ?_)
      refine WL_cut (laws_FnPruneVersionsTwice_L2_ok w X θ i317 x319 i427 x1 v620 n 0 hv620) ?_
      rcases v620 with _ | _
      · rintro _ _ ⟨rfl, rfl⟩
        refine blockS_r ?_
        refine blockS_r ?_
        refine thenS_r ?_
        refine thenS_r ?_
        cases h
        exact And.intro rfl rfl
      · rintro _ _ ⟨rfl, rfl⟩
        refine blockS_y ?_
        refine blockS_n ?_
        refine thenS_n ?_
        refine W_region ?_
        refine WO_step 3 [0, 1] [4, 5, 6] (True ∧ True) ⟨[(4, I i317), (5, .one (.e (.sl 1 0 x319.length))), (6, I (w64 (i427 + 1)))], [.row .u8 x1 false, .row .ver x319 true]⟩ (by kernel_rfl) ⟨trivial, trivial⟩ ?_
        refine WO_nil rfl ?_
        refine thenS_n ?_
        exact ih _ h
    · refine W_sub [0, 1] [4, 5] (st' := ⟨[(4, I i317), (5, .one (.e (.sl 1 0 x319.length)))], [.row .u8 x1 false, .row .ver x319 true]⟩) (by kernel_rfl) ?_
      refine W_exit ?_
      refine thenS_e ?_
      refine thenS_e ?_
      cases h
      exact And.intro rfl rfl

def laws_FnPruneVersionsTwice (n : Nat) (x1 : List Int) : Option (Bool) :=
 iteO (decide (1048576 < ((x1.length : Nat) : Int)))
 (some true)
 (bindO (spec_DrawPruneVersions n x1) fun (x316, i317) =>
 bindO (impl_PruneVersions n x316 i317) fun x319 =>
 bindO (spec_PruneVersions n x316 i317) fun x321 =>
 bindO (laws_equalVersions n x319 x321) fun b323 =>
 iteO ((!b323) || (decide (((x319.length : Nat) : Int) = 0)))
 (bindO (spec_PruneVersions n x316 i317) fun x334 =>
 bindO (laws_equalVersions n x319 x334) fun b336 =>
 some b336)
 (bindO (laws_FnPruneVersionsTwice_L1 i317 x319 x1 n 0) fun v621 =>
 match v621 with
 | (.inl _) => (some false)
 | (.inr _) => (bindO (impl_PruneVersions n x319 i317) fun x622 =>
 bindO (laws_equalVersions n x622 x319) fun b624 =>
 some b624)
))

theorem laws_FnPruneVersionsTwice_ok (n : Nat) (x1 : List Int) (b313 : Bool) (h : laws_FnPruneVersionsTwice n x1 = some b313) : FOk EE 14 [.one (.e (.sl 0 0 x1.length))] [.row .u8 x1 false] (B b313) [.row .u8 x1 false] := by
  unfold laws_FnPruneVersionsTwice at h
  refine FOk_of_W 71 1 Try.func14 rfl rfl (Nat.le_of_ble_eq_true rfl) rfl (fun w X θ => ?_)
  refine W_seq ?_
  refine W_region ?_
  refine WO_step 1 [0] [0] True ⟨[(0, .one (.e (.sl 0 0 x1.length)))], [.row .u8 x1 false]⟩ (by kernel_rfl) trivial ?_
  refine WO_nil rfl ?_
  refine thenS_n ?_
  refine W_seq ?_
  refine W_seq ?_
  refine W_region ?_
  refine WO_step 3 [0] [0, 10] (True ∧ (True ∧ True)) ⟨[(0, .one (.e (.sl 0 0 x1.length))), (10, B (decide (1048576 < ((x1.length : Nat) : Int))))], [.row .u8 x1 false]⟩ (by kernel_rfl) ⟨trivial, trivial, trivial⟩ ?_
  refine WO_nil rfl ?_
  refine thenS_n ?_
  refine iteO_e h (fun hb315 h => W_true rfl hb315 ?_) (fun hb315 h => W_false rfl hb315 ?_)
  · refine W_seq ?_
    refine W_region ?_
    refine WO_step 1 [0] [2] True ⟨[(2, B true)], [.row .u8 x1 false]⟩ (by kernel_rfl) trivial ?_
    refine WO_nil rfl ?_
    refine thenS_n ?_
    refine W_ret ?_
    refine thenS_r ?_
    cases h
    exact ⟨[0], True, by kernel_rfl, trivial⟩
  · refine W_sub [0] [0] (st' := ⟨[(0, .one (.e (.sl 0 0 x1.length)))], [.row .u8 x1 false]⟩) (by kernel_rfl) ?_
    refine W_skip ?_
    refine thenS_n ?_
    refine W_seq ?_
    refine W_region ?_
    refine WO_step 1 [0] [12] True ⟨[(12, .one (.e (.sl 0 0 x1.length)))], [.row .u8 x1 false]⟩ (by kernel_rfl) trivial ?_
    refine bindO_e h (fun v626 hc318 h => ?_)
    obtain ⟨x316, i317⟩ := v626
    refine WO_call [.ro 0] Try.f33 rfl rfl rfl (by kernel_rfl) rfl rfl (by kernel_rfl) (spec_DrawPruneVersions_ok n x1 x316 i317 hc318) (And.intro (And.intro rfl rfl) (trivial)) rfl ?_
    refine WO_step 5 [0, 1] [3, 4] True ⟨[(3, .one (.e (.sl 1 0 x316.length))), (4, I i317)], [.row .u8 x1 false, .row .ver x316 true]⟩ (by kernel_rfl) trivial ?_
    refine WO_nil rfl ?_
    refine thenS_n ?_
    refine W_seq ?_
    refine W_region ?_
    refine WO_step 2 [0, 1] [3, 4, 16, 17] True ⟨[(3, .one (.e (.sl 1 0 x316.length))), (4, I i317), (16, .one (.e (.sl 1 0 x316.length))), (17, I i317)], [.row .u8 x1 false, .row .ver x316 true]⟩ (by kernel_rfl) trivial ?_
    refine bindO_e h (fun x319 hc320 h => ?_)
    refine WO_call [.ro 1] Try.f34 rfl rfl rfl (by kernel_rfl) rfl rfl (by kernel_rfl) (impl_PruneVersions_ok n x316 i317 x319 hc320) (And.intro (And.intro rfl rfl) (trivial)) rfl ?_
    refine WO_step 1 [0, 1, 2] [3, 4, 5] True ⟨[(3, .one (.e (.sl 1 0 x316.length))), (4, I i317), (5, .one (.e (.sl 2 0 x319.length)))], [.row .u8 x1 false, .row .ver x316 true, .row .ver x319 true]⟩ (by kernel_rfl) trivial ?_
    refine WO_nil rfl ?_
    refine thenS_n ?_
    refine W_seq ?_
    refine W_seq ?_
    refine W_region ?_
    refine WO_step 3 [0, 1, 2] [3, 4, 5, 19, 20, 21] True ⟨[(3, .one (.e (.sl 1 0 x316.length))), (4, I i317), (5, .one (.e (.sl 2 0 x319.length))), (19, .one (.e (.sl 2 0 x319.length))), (20, .one (.e (.sl 1 0 x316.length))), (21, I i317)], [.row .u8 x1 false, .row .ver x316 true, .row .ver x319 true]⟩ (by kernel_rfl) trivial ?_
    refine bindO_e h (fun x321 hc322 h => ?_)
    refine WO_call [.ro 1] Try.f35 rfl rfl rfl (by kernel_rfl) rfl rfl (by kernel_rfl) (spec_PruneVersions_ok n x316 i317 x321 hc322) (And.intro (And.intro rfl rfl) (trivial)) rfl ?_
    refine WO_sub [0, 1, 2, 3] [3, 4, 5, 19, 22] (st' := ⟨[(3, .one (.e (.sl 1 0 x316.length))), (4, I i317), (5, .one (.e (.sl 2 0 x319.length))), (19, .one (.e (.sl 2 0 x319.length))), (22, .one (.e (.sl 3 0 x321.length)))], [.row .u8 x1 false, .row .ver x316 true, .row .ver x319 true, .row .ver x321 true]⟩) (by kernel_rfl) ?_
    refine bindO_e h (fun b323 hc324 h => ?_)
    refine WO_call [.ro 2, .ro 3] Try.f29 rfl rfl rfl (by kernel_rfl) rfl rfl (by kernel_rfl) (laws_equalVersions_ok n x319 x321 b323 hc324) (And.intro (And.intro rfl rfl) (And.intro (And.intro rfl rfl) (trivial))) rfl ?_
    refine WO_step 2 [0, 1, 2] [3, 4, 5, 25] True ⟨[(3, .one (.e (.sl 1 0 x316.length))), (4, I i317), (5, .one (.e (.sl 2 0 x319.length))), (25, B (!b323))], [.row .u8 x1 false, .row .ver x316 true, .row .ver x319 true]⟩ (by kernel_rfl) trivial ?_
    refine WO_thru ⟨[(3, .one (.e (.sl 1 0 x316.length))), (4, I i317), (5, .one (.e (.sl 2 0 x319.length))), (29, B ((!b323) || (decide (((x319.length : Nat) : Int) = 0))))], [.row .u8 x1 false, .row .ver x316 true, .row .ver x319 true]⟩ ?_ ?_
    · refine WO_if 25 rfl (fun hb327 => ?_) (fun hb327 => ?_)
      · refine WO_step 4 [0, 1, 2] [3, 4, 5, 29] True ⟨[(3, .one (.e (.sl 1 0 x316.length))), (4, I i317), (5, .one (.e (.sl 2 0 x319.length))), (29, B true)], [.row .u8 x1 false, .row .ver x316 true, .row .ver x319 true]⟩ (by kernel_rfl) trivial ?_
        exact WO_nil rfl ⟨rfl, by first | rfl | (rw [hb327]; first | done | rfl)⟩
      · refine WO_step 4 [0, 1, 2] [3, 4, 5, 29] (True ∧ (True ∧ True)) ⟨[(3, .one (.e (.sl 1 0 x316.length))), (4, I i317), (5, .one (.e (.sl 2 0 x319.length))), (29, B (decide (((x319.length : Nat) : Int) = 0)))], [.row .u8 x1 false, .row .ver x316 true, .row .ver x319 true]⟩ (by kernel_rfl) ⟨trivial, trivial, trivial⟩ ?_
        exact WO_nil rfl ⟨rfl, by first | rfl | (rw [hb327]; first | done | rfl)⟩
    · refine thenS_n ?_
      refine iteO_e h (fun hb333 h => W_true rfl hb333 ?_) (fun hb333 h => W_false rfl hb333 ?_)
      · refine W_seq ?_
        refine W_region ?_
        refine WO_step 3 [0, 2, 1] [30, 31, 32] True ⟨[(30, .one (.e (.sl 1 0 x319.length))), (31, .one (.e (.sl 2 0 x316.length))), (32, I i317)], [.row .u8 x1 false, .row .ver x319 true, .row .ver x316 true]⟩ (by kernel_rfl) trivial ?_
        refine bindO_e h (fun x334 hc335 h => ?_)
        refine WO_call [.ro 2] Try.f35 rfl rfl rfl (by kernel_rfl) rfl rfl (by kernel_rfl) (spec_PruneVersions_ok n x316 i317 x334 hc335) (And.intro (And.intro rfl rfl) (trivial)) rfl ?_
        refine WO_sub [0, 1, 3] [30, 33] (st' := ⟨[(30, .one (.e (.sl 1 0 x319.length))), (33, .one (.e (.sl 2 0 x334.length)))], [.row .u8 x1 false, .row .ver x319 true, .row .ver x334 true]⟩) (by kernel_rfl) ?_
        refine bindO_e h (fun b336 hc337 h => ?_)
        refine WO_call [.ro 1, .ro 2] Try.f29 rfl rfl rfl (by kernel_rfl) rfl rfl (by kernel_rfl) (laws_equalVersions_ok n x319 x334 b336 hc337) (And.intro (And.intro rfl rfl) (And.intro (And.intro rfl rfl) (trivial))) rfl ?_
        refine WO_step 1 [0] [2] True ⟨[(2, B b336)], [.row .u8 x1 false]⟩ (by kernel_rfl) trivial ?_
        refine WO_nil rfl ?_
        refine thenS_n ?_
        refine W_ret ?_
        refine thenS_r ?_
        cases h
        exact ⟨[0], True, by kernel_rfl, trivial⟩
      · refine W_sub [0, 2] [4, 5] (st' := ⟨[(4, I i317), (5, .one (.e (.sl 1 0 x319.length)))], [.row .u8 x1 false, .row .ver x319 true]⟩) (by kernel_rfl) ?_
        refine W_skip ?_
        refine thenS_n ?_
        refine W_seq ?_
        refine W_seq ?_
        refine W_region ?_
        refine WO_step 1 [0, 1] [4, 5, 6] True ⟨[(4, I i317), (5, .one (.e (.sl 1 0 x319.length))), (6, I 0)], [.row .u8 x1 false, .row .ver x319 true]⟩ (by kernel_rfl) trivial ?_
        refine WO_nil rfl ?_
        refine thenS_n ?_
        refine W_block ?_
        refine W_loop ?_
        refine bindO_e h (fun v621 hv621 h => ?_)
        refine WL_cut (laws_FnPruneVersionsTwice_L1_ok w X θ i317 x319 x1 v621 n 0 hv621) ?_
        rcases v621 with _ | _
        · rintro _ _ ⟨rfl, rfl⟩
          refine blockS_r ?_
          refine thenS_r ?_
          cases h
          exact ⟨[0], True, by kernel_rfl, trivial⟩
        · rintro _ _ ⟨rfl, rfl⟩
          refine blockS_y ?_
          refine thenS_n ?_
          refine W_seq ?_
          refine W_region ?_
          refine WO_step 2 [0, 1] [5, 66, 67] True ⟨[(5, .one (.e (.sl 1 0 x319.length))), (66, .one (.e (.sl 1 0 x319.length))), (67, I i317)], [.row .u8 x1 false, .row .ver x319 true]⟩ (by kernel_rfl) trivial ?_
          refine bindO_e h (fun x622 hc623 h => ?_)
          refine WO_call [.ro 1] Try.f34 rfl rfl rfl (by kernel_rfl) rfl rfl (by kernel_rfl) (impl_PruneVersions_ok n x319 i317 x622 hc623) (And.intro (And.intro rfl rfl) (trivial)) rfl ?_
          refine WO_step 1 [0, 2, 1] [68, 69] True ⟨[(68, .one (.e (.sl 1 0 x622.length))), (69, .one (.e (.sl 2 0 x319.length)))], [.row .u8 x1 false, .row .ver x622 true, .row .ver x319 true]⟩ (by kernel_rfl) trivial ?_
          refine bindO_e h (fun b624 hc625 h => ?_)
          refine WO_call [.ro 1, .ro 2] Try.f29 rfl rfl rfl (by kernel_rfl) rfl rfl (by kernel_rfl) (laws_equalVersions_ok n x622 x319 b624 hc625) (And.intro (And.intro rfl rfl) (And.intro (And.intro rfl rfl) (trivial))) rfl ?_
          refine WO_step 1 [0] [2] True ⟨[(2, B b624)], [.row .u8 x1 false]⟩ (by kernel_rfl) trivial ?_
          refine WO_nil rfl ?_
          refine thenS_n ?_
          refine W_ret ?_
          cases h
          exact ⟨[0], True, by kernel_rfl, trivial⟩

/- laws.FnExactPruneVersions -/
def laws_FnExactPruneVersions (n : Nat) (x1 : List Ver) (i2 : Int) : Option (Bool) :=
 bindO (laws_szVersionS x1 1048576) fun i66 =>
 iteO (decide (i66 < 0))
 (some true)
 (bindO (laws_toVersionS n x1) fun x70 =>
 bindO (spec_PruneVersions n x70 i2) fun x72 =>
 bindO (laws_toVersionS n x1) fun x74 =>
 bindO (impl_PruneVersions n x74 i2) fun x76 =>
 bindO (laws_eqVersionS n x76 x72) fun b78 =>
 iteO (!b78)
 (some false)
 (bindO (laws_toVersionS n x1) fun x82 =>
 bindO (laws_eqVersionS n x74 x82) fun b84 =>
 iteO (!b84)
 (some false)
 (bindO (laws_markVersionS n x74 x74.length 1) fun (x88, i89) =>
 guardO (x74.length = x88.length) <|
 bindO (iteO (decide (i89 < 0))
 (some true)
 (bindO (laws_eqVersionS n x76 x72) fun b98 =>
 some (!b98))) fun b95 =>
 iteO b95
 (some false)
 (bindO (laws_markVersionS n x76 x76.length 1) fun (x102, i103) =>
 guardO (x76.length = x102.length) <|
 bindO (laws_heldVersionS n x102 1) fun i106 =>
 iteO (decide (i106 < 0))
 (some false)
 (iteO (!decide (i106 = i103))
 (some false)
 (bindO (laws_toVersionS n x1) fun x112 =>
 bindO (impl_PruneVersions n x112 i2) fun x114 =>
 bindO (laws_eqVersionS n x114 x72) fun b116 =>
 iteO (!b116)
 (some false)
 (bindO (laws_heldVersionS n x102 1) fun i120 =>
 iteO (decide (i120 < 0))
 (some false)
 (iteO (!decide (i120 = i103))
 (some false)
 (some true)))))))))

theorem laws_FnExactPruneVersions_ok (n : Nat) (x1 : List Ver) (i2 : Int) (b65 : Bool) (h : laws_FnExactPruneVersions n x1 i2 = some b65) : FOk EE 15 [.one (.e (.sl 0 0 x1.length)), I i2] [.row .ver x1 false] (B b65) [.row .ver x1 false] := by
  unfold laws_FnExactPruneVersions at h
  refine FOk_of_W 74 1 Try.func15 rfl rfl (Nat.le_of_ble_eq_true rfl) rfl (fun w X θ => ?_)
  refine W_seq ?_
  refine W_region ?_
  refine WO_step 1 [0] [0, 1] True ⟨[(0, .one (.e (.sl 0 0 x1.length))), (1, I i2)], [.row .ver x1 false]⟩ (by kernel_rfl) trivial ?_
  refine WO_nil rfl ?_
  refine thenS_n ?_
  refine W_seq ?_
  refine W_region ?_
  refine WO_step 1 [0] [0, 1, 5] True ⟨[(0, .one (.e (.sl 0 0 x1.length))), (1, I i2), (5, I 1048576)], [.row .ver x1 false]⟩ (by kernel_rfl) trivial ?_
  refine WO_nil rfl ?_
  refine thenS_n ?_
  refine W_seq ?_
  refine W_region ?_
  refine WO_step 2 [0] [0, 1, 13, 14] True ⟨[(0, .one (.e (.sl 0 0 x1.length))), (1, I i2), (13, .one (.e (.sl 0 0 x1.length))), (14, I 1048576)], [.row .ver x1 false]⟩ (by kernel_rfl) trivial ?_
  refine bindO_e h (fun i66 hc67 h => ?_)
  refine WO_call [.ro 0] Try.f17 rfl rfl rfl (by kernel_rfl) rfl rfl (by kernel_rfl) (laws_szVersionS_ok x1 1048576 i66 hc67) (And.intro (And.intro rfl rfl) (trivial)) rfl ?_
  refine WO_step 1 [0] [0, 1, 5] True ⟨[(0, .one (.e (.sl 0 0 x1.length))), (1, I i2), (5, I i66)], [.row .ver x1 false]⟩ (by kernel_rfl) trivial ?_
  refine WO_nil rfl ?_
  refine thenS_n ?_
  refine W_seq ?_
  refine W_seq ?_
  refine W_region ?_
  refine WO_step 2 [0] [0, 1, 17] (True ∧ True) ⟨[(0, .one (.e (.sl 0 0 x1.length))), (1, I i2), (17, B (decide (i66 < 0)))], [.row .ver x1 false]⟩ (by kernel_rfl) ⟨trivial, trivial⟩ ?_
  refine WO_nil rfl ?_
  refine thenS_n ?_
  refine iteO_e h (fun hb69 h => W_true rfl hb69 ?_) (fun hb69 h => W_false rfl hb69 ?_)
  · refine W_seq ?_
    refine W_region ?_
    refine WO_step 1 [0] [4] True ⟨[(4, B true)], [.row .ver x1 false]⟩ (by kernel_rfl) trivial ?_
    refine WO_nil rfl ?_
    refine thenS_n ?_
    refine W_ret ?_
    refine thenS_r ?_
    cases h
    exact ⟨[0], True, by kernel_rfl, trivial⟩
  · refine W_sub [0] [0, 1] (st' := ⟨[(0, .one (.e (.sl 0 0 x1.length))), (1, I i2)], [.row .ver x1 false]⟩) (by kernel_rfl) ?_
    refine W_skip ?_
    refine thenS_n ?_
    refine W_seq ?_
    refine W_region ?_
    refine WO_step 1 [0] [0, 1, 18] True ⟨[(0, .one (.e (.sl 0 0 x1.length))), (1, I i2), (18, .one (.e (.sl 0 0 x1.length)))], [.row .ver x1 false]⟩ (by kernel_rfl) trivial ?_
    refine bindO_e h (fun x70 hc71 h => ?_)
    refine WO_call [.ro 0] Try.f19 rfl rfl rfl (by kernel_rfl) rfl rfl (by kernel_rfl) (laws_toVersionS_ok n x1 x70 hc71) (And.intro (And.intro rfl rfl) (trivial)) rfl ?_
    refine WO_step 1 [0, 1] [0, 1, 19, 20] True ⟨[(0, .one (.e (.sl 0 0 x1.length))), (1, I i2), (19, .one (.e (.sl 1 0 x70.length))), (20, I i2)], [.row .ver x1 false, .row .ver x70 true]⟩ (by kernel_rfl) trivial ?_
    refine bindO_e h (fun x72 hc73 h => ?_)
    refine WO_call [.ro 1] Try.f35 rfl rfl rfl (by kernel_rfl) rfl rfl (by kernel_rfl) (spec_PruneVersions_ok n x70 i2 x72 hc73) (And.intro (And.intro rfl rfl) (trivial)) rfl ?_
    refine WO_step 1 [0, 2] [0, 1, 6] True ⟨[(0, .one (.e (.sl 0 0 x1.length))), (1, I i2), (6, .one (.e (.sl 1 0 x72.length)))], [.row .ver x1 false, .row .ver x72 true]⟩ (by kernel_rfl) trivial ?_
    refine WO_nil rfl ?_
    refine thenS_n ?_
    refine W_seq ?_
    refine W_region ?_
    refine WO_step 1 [0, 1] [0, 1, 6, 22] True ⟨[(0, .one (.e (.sl 0 0 x1.length))), (1, I i2), (6, .one (.e (.sl 1 0 x72.length))), (22, .one (.e (.sl 0 0 x1.length)))], [.row .ver x1 false, .row .ver x72 true]⟩ (by kernel_rfl) trivial ?_
    refine bindO_e h (fun x74 hc75 h => ?_)
    refine WO_call [.ro 0] Try.f19 rfl rfl rfl (by kernel_rfl) rfl rfl (by kernel_rfl) (laws_toVersionS_ok n x1 x74 hc75) (And.intro (And.intro rfl rfl) (trivial)) rfl ?_
    refine WO_step 1 [0, 1, 2] [0, 1, 6, 7] True ⟨[(0, .one (.e (.sl 0 0 x1.length))), (1, I i2), (6, .one (.e (.sl 1 0 x72.length))), (7, .one (.e (.sl 2 0 x74.length)))], [.row .ver x1 false, .row .ver x72 true, .row .ver x74 true]⟩ (by kernel_rfl) trivial ?_
    refine WO_nil rfl ?_
    refine thenS_n ?_
    refine W_seq ?_
    refine W_region ?_
    refine WO_step 2 [0, 1, 2] [0, 1, 6, 7, 24, 25] True ⟨[(0, .one (.e (.sl 0 0 x1.length))), (1, I i2), (6, .one (.e (.sl 1 0 x72.length))), (7, .one (.e (.sl 2 0 x74.length))), (24, .one (.e (.sl 2 0 x74.length))), (25, I i2)], [.row .ver x1 false, .row .ver x72 true, .row .ver x74 true]⟩ (by kernel_rfl) trivial ?_
    refine bindO_e h (fun x76 hc77 h => ?_)
    refine WO_call [.ro 2] Try.f34 rfl rfl rfl (by kernel_rfl) rfl rfl (by kernel_rfl) (impl_PruneVersions_ok n x74 i2 x76 hc77) (And.intro (And.intro rfl rfl) (trivial)) rfl ?_
    refine WO_step 1 [0, 1, 2, 3] [0, 1, 6, 7, 8] True ⟨[(0, .one (.e (.sl 0 0 x1.length))), (1, I i2), (6, .one (.e (.sl 1 0 x72.length))), (7, .one (.e (.sl 2 0 x74.length))), (8, .one (.e (.sl 3 0 x76.length)))], [.row .ver x1 false, .row .ver x72 true, .row .ver x74 true, .row .ver x76 true]⟩ (by kernel_rfl) trivial ?_
    refine WO_nil rfl ?_
    refine thenS_n ?_
    refine W_seq ?_
    refine W_seq ?_
    refine W_region ?_
    refine WO_step 2 [0, 1, 2, 3] [0, 1, 6, 7, 8, 27, 28] True ⟨[(0, .one (.e (.sl 0 0 x1.length))), (1, I i2), (6, .one (.e (.sl 1 0 x72.length))), (7, .one (.e (.sl 2 0 x74.length))), (8, .one (.e (.sl 3 0 x76.length))), (27, .one (.e (.sl 3 0 x76.length))), (28, .one (.e (.sl 1 0 x72.length)))], [.row .ver x1 false, .row .ver x72 true, .row .ver x74 true, .row .ver x76 true]⟩ (by kernel_rfl) trivial ?_
    refine bindO_e h (fun b78 hc79 h => ?_)
    refine WO_call [.ro 3, .ro 1] Try.f21 rfl rfl rfl (by kernel_rfl) rfl rfl (by kernel_rfl) (laws_eqVersionS_ok n x76 x72 b78 hc79) (And.intro (And.intro rfl rfl) (And.intro (And.intro rfl rfl) (trivial))) rfl ?_
    refine WO_step 1 [0, 1, 2, 3] [0, 1, 6, 7, 8, 30] True ⟨[(0, .one (.e (.sl 0 0 x1.length))), (1, I i2), (6, .one (.e (.sl 1 0 x72.length))), (7, .one (.e (.sl 2 0 x74.length))), (8, .one (.e (.sl 3 0 x76.length))), (30, B (!b78))], [.row .ver x1 false, .row .ver x72 true, .row .ver x74 true, .row .ver x76 true]⟩ (by kernel_rfl) trivial ?_
    refine WO_nil rfl ?_
    refine thenS_n ?_
    refine iteO_e h (fun hb81 h => W_true rfl hb81 ?_) (fun hb81 h => W_false rfl hb81 ?_)
    · refine W_seq ?_
      refine W_region ?_
      refine WO_step 1 [0] [4] True ⟨[(4, B false)], [.row .ver x1 false]⟩ (by kernel_rfl) trivial ?_
      refine WO_nil rfl ?_
      refine thenS_n ?_
      refine W_ret ?_
      refine thenS_r ?_
      cases h
      exact ⟨[0], True, by kernel_rfl, trivial⟩
    · refine W_sub [0, 1, 2, 3] [0, 1, 6, 7, 8] (st' := ⟨[(0, .one (.e (.sl 0 0 x1.length))), (1, I i2), (6, .one (.e (.sl 1 0 x72.length))), (7, .one (.e (.sl 2 0 x74.length))), (8, .one (.e (.sl 3 0 x76.length)))], [.row .ver x1 false, .row .ver x72 true, .row .ver x74 true, .row .ver x76 true]⟩) (by kernel_rfl) ?_
      refine W_skip ?_
      refine thenS_n ?_
      refine W_seq ?_
      refine W_seq ?_
      refine W_region ?_
      refine WO_step 2 [0, 1, 2, 3] [0, 1, 6, 7, 8, 31, 32] True ⟨[(0, .one (.e (.sl 0 0 x1.length))), (1, I i2), (6, .one (.e (.sl 1 0 x72.length))), (7, .one (.e (.sl 2 0 x74.length))), (8, .one (.e (.sl 3 0 x76.length))), (31, .one (.e (.sl 2 0 x74.length))), (32, .one (.e (.sl 0 0 x1.length)))], [.row .ver x1 false, .row .ver x72 true, .row .ver x74 true, .row .ver x76 true]⟩ (by kernel_rfl) trivial ?_
      refine bindO_e h (fun x82 hc83 h => ?_)
      refine WO_call [.ro 0] Try.f19 rfl rfl rfl (by kernel_rfl) rfl rfl (by kernel_rfl) (laws_toVersionS_ok n x1 x82 hc83) (And.intro (And.intro rfl rfl) (trivial)) rfl ?_
      refine WO_sub [0, 1, 2, 3, 4] [0, 1, 6, 7, 8, 31, 33] (st' := ⟨[(0, .one (.e (.sl 0 0 x1.length))), (1, I i2), (6, .one (.e (.sl 1 0 x72.length))), (7, .one (.e (.sl 2 0 x74.length))), (8, .one (.e (.sl 3 0 x76.length))), (31, .one (.e (.sl 2 0 x74.length))), (33, .one (.e (.sl 4 0 x82.length)))], [.row .ver x1 false, .row .ver x72 true, .row .ver x74 true, .row .ver x76 true, .row .ver x82 true]⟩) (by kernel_rfl) ?_
      refine bindO_e h (fun b84 hc85 h => ?_)
      refine WO_call [.ro 2, .ro 4] Try.f21 rfl rfl rfl (by kernel_rfl) rfl rfl (by kernel_rfl) (laws_eqVersionS_ok n x74 x82 b84 hc85) (And.intro (And.intro rfl rfl) (And.intro (And.intro rfl rfl) (trivial))) rfl ?_
      refine WO_step 1 [0, 1, 2, 3] [0, 1, 6, 7, 8, 35] True ⟨[(0, .one (.e (.sl 0 0 x1.length))), (1, I i2), (6, .one (.e (.sl 1 0 x72.length))), (7, .one (.e (.sl 2 0 x74.length))), (8, .one (.e (.sl 3 0 x76.length))), (35, B (!b84))], [.row .ver x1 false, .row .ver x72 true, .row .ver x74 true, .row .ver x76 true]⟩ (by kernel_rfl) trivial ?_
      refine WO_nil rfl ?_
      refine thenS_n ?_
      refine iteO_e h (fun hb87 h => W_true rfl hb87 ?_) (fun hb87 h => W_false rfl hb87 ?_)
      · refine W_seq ?_
        refine W_region ?_
        refine WO_step 1 [0] [4] True ⟨[(4, B false)], [.row .ver x1 false]⟩ (by kernel_rfl) trivial ?_
        refine WO_nil rfl ?_
        refine thenS_n ?_
        refine W_ret ?_
        refine thenS_r ?_
        cases h
        exact ⟨[0], True, by kernel_rfl, trivial⟩
      · refine W_sub [0, 1, 2, 3] [0, 1, 6, 7, 8] (st' := ⟨[(0, .one (.e (.sl 0 0 x1.length))), (1, I i2), (6, .one (.e (.sl 1 0 x72.length))), (7, .one (.e (.sl 2 0 x74.length))), (8, .one (.e (.sl 3 0 x76.length)))], [.row .ver x1 false, .row .ver x72 true, .row .ver x74 true, .row .ver x76 true]⟩) (by kernel_rfl) ?_
        refine W_skip ?_
        refine thenS_n ?_
        refine W_seq ?_
        refine W_region ?_
        refine WO_step 1 [0, 1, 2, 3] [0, 1, 6, 7, 8, 9] True ⟨[(0, .one (.e (.sl 0 0 x1.length))), (1, I i2), (6, .one (.e (.sl 1 0 x72.length))), (7, .one (.e (.sl 2 0 x74.length))), (8, .one (.e (.sl 3 0 x76.length))), (9, I 1)], [.row .ver x1 false, .row .ver x72 true, .row .ver x74 true, .row .ver x76 true]⟩ (by kernel_rfl) trivial ?_
        refine WO_nil rfl ?_
        refine thenS_n ?_
        refine W_seq ?_
        refine W_region ?_
        refine WO_step 2 [0, 1, 3, 2] [0, 1, 6, 8, 36, 37] True ⟨[(0, .one (.e (.sl 0 0 x1.length))), (1, I i2), (6, .one (.e (.sl 1 0 x72.length))), (8, .one (.e (.sl 2 0 x76.length))), (36, .one (.e (.sl 3 0 x74.length))), (37, I 1)], [.row .ver x1 false, .row .ver x72 true, .row .ver x76 true, .row .ver x74 true]⟩ (by kernel_rfl) trivial ?_
        refine bindO_e h (fun v127 hc90 h => ?_)
        obtain ⟨x88, i89⟩ := v127
        refine guardO_e h (fun hl91 h => ?_)
        refine WO_call [.own 3] Try.f31 rfl rfl rfl (by kernel_rfl) rfl rfl (by kernel_rfl) (laws_markVersionS_ok n x74 x74.length 1 x88 i89 hc90) (And.intro (And.intro rfl (And.intro rfl hl91)) (trivial)) rfl ?_
        refine WO_sub [0, 1, 2, 3] [0, 1, 6, 8, 36, 37, 38] (st' := ⟨[(0, .one (.e (.sl 0 0 x1.length))), (1, I i2), (6, .one (.e (.sl 1 0 x72.length))), (8, .one (.e (.sl 2 0 x76.length))), (36, .one (.e (.sl 3 0 x74.length))), (37, I 1), (38, I i89)], [.row .ver x1 false, .row .ver x72 true, .row .ver x76 true, .row .ver x88 true]⟩) (by kernel_rfl) ?_
        refine WO_eq (st' := ⟨[(0, .one (.e (.sl 0 0 x1.length))), (1, I i2), (6, .one (.e (.sl 1 0 x72.length))), (8, .one (.e (.sl 2 0 x76.length))), (36, .one (.e (.sl 3 0 x88.length))), (37, I 1), (38, I i89)], [.row .ver x1 false, .row .ver x72 true, .row .ver x76 true, .row .ver x88 true]⟩) (by simp only [hl91]) ?_
        refine WO_step 1 [0, 1, 2] [0, 1, 6, 8, 9] True ⟨[(0, .one (.e (.sl 0 0 x1.length))), (1, I i2), (6, .one (.e (.sl 1 0 x72.length))), (8, .one (.e (.sl 2 0 x76.length))), (9, I i89)], [.row .ver x1 false, .row .ver x72 true, .row .ver x76 true]⟩ (by kernel_rfl) trivial ?_
        refine WO_nil rfl ?_
        refine thenS_n ?_
        refine W_seq ?_
        refine W_seq ?_
        refine W_region ?_
        refine WO_step 3 [0, 1, 2] [0, 1, 6, 8, 41] (True ∧ True) ⟨[(0, .one (.e (.sl 0 0 x1.length))), (1, I i2), (6, .one (.e (.sl 1 0 x72.length))), (8, .one (.e (.sl 2 0 x76.length))), (41, B (decide (i89 < 0)))], [.row .ver x1 false, .row .ver x72 true, .row .ver x76 true]⟩ (by kernel_rfl) ⟨trivial, trivial⟩ ?_
        refine bindO_e h (fun b95 hv96 h => ?_)
        refine WO_thru ⟨[(0, .one (.e (.sl 0 0 x1.length))), (1, I i2), (6, .one (.e (.sl 1 0 x72.length))), (8, .one (.e (.sl 2 0 x76.length))), (46, B b95)], [.row .ver x1 false, .row .ver x72 true, .row .ver x76 true]⟩ ?_ ?_
        · refine iteO_e hv96 (fun hb97 hv96 => WO_known 41 true rfl hb97 ?_) (fun hb97 hv96 => WO_known 41 false rfl hb97 ?_)
          · refine WO_step 5 [0, 1, 2] [0, 1, 6, 8, 46] True ⟨[(0, .one (.e (.sl 0 0 x1.length))), (1, I i2), (6, .one (.e (.sl 1 0 x72.length))), (8, .one (.e (.sl 2 0 x76.length))), (46, B true)], [.row .ver x1 false, .row .ver x72 true, .row .ver x76 true]⟩ (by kernel_rfl) trivial ?_
            cases hv96
            exact WO_nil rfl ⟨rfl, rfl⟩
          · refine WO_step 2 [0, 1, 2] [0, 1, 6, 8, 41, 42, 43] True ⟨[(0, .one (.e (.sl 0 0 x1.length))), (1, I i2), (6, .one (.e (.sl 1 0 x72.length))), (8, .one (.e (.sl 2 0 x76.length))), (41, B false), (42, .one (.e (.sl 2 0 x76.length))), (43, .one (.e (.sl 1 0 x72.length)))], [.row .ver x1 false, .row .ver x72 true, .row .ver x76 true]⟩ (by kernel_rfl) trivial ?_
            refine bindO_e hv96 (fun b98 hc99 hv96 => ?_)
            refine WO_call [.ro 2, .ro 1] Try.f21 rfl rfl rfl (by kernel_rfl) rfl rfl (by kernel_rfl) (laws_eqVersionS_ok n x76 x72 b98 hc99) (And.intro (And.intro rfl rfl) (And.intro (And.intro rfl rfl) (trivial))) rfl ?_
            refine WO_step 2 [0, 1, 2] [0, 1, 6, 8, 46] True ⟨[(0, .one (.e (.sl 0 0 x1.length))), (1, I i2), (6, .one (.e (.sl 1 0 x72.length))), (8, .one (.e (.sl 2 0 x76.length))), (46, B (!b98))], [.row .ver x1 false, .row .ver x72 true, .row .ver x76 true]⟩ (by kernel_rfl) trivial ?_
            cases hv96
            exact WO_nil rfl ⟨rfl, rfl⟩
        · refine thenS_n ?_
          refine iteO_e h (fun hb101 h => W_true rfl hb101 ?_) (fun hb101 h => W_false rfl hb101 ?_)
          · refine W_seq ?_
            refine W_region ?_
            refine WO_step 1 [0] [4] True ⟨[(4, B false)], [.row .ver x1 false]⟩ (by kernel_rfl) trivial ?_
            refine WO_nil rfl ?_
            refine thenS_n ?_
            refine W_ret ?_
            refine thenS_r ?_
            cases h
            exact ⟨[0], True, by kernel_rfl, trivial⟩
          · refine W_sub [0, 1, 2] [0, 1, 6, 8] (st' := ⟨[(0, .one (.e (.sl 0 0 x1.length))), (1, I i2), (6, .one (.e (.sl 1 0 x72.length))), (8, .one (.e (.sl 2 0 x76.length)))], [.row .ver x1 false, .row .ver x72 true, .row .ver x76 true]⟩) (by kernel_rfl) ?_
            refine W_skip ?_
            refine thenS_n ?_
            refine W_seq ?_
            refine W_region ?_
            refine WO_step 1 [0, 1, 2] [0, 1, 6, 8, 10] True ⟨[(0, .one (.e (.sl 0 0 x1.length))), (1, I i2), (6, .one (.e (.sl 1 0 x72.length))), (8, .one (.e (.sl 2 0 x76.length))), (10, I 1)], [.row .ver x1 false, .row .ver x72 true, .row .ver x76 true]⟩ (by kernel_rfl) trivial ?_
            refine WO_nil rfl ?_
            refine thenS_n ?_
            refine W_seq ?_
            refine W_region ?_
            refine WO_step 2 [0, 1, 2] [0, 1, 6, 8, 47, 48] True ⟨[(0, .one (.e (.sl 0 0 x1.length))), (1, I i2), (6, .one (.e (.sl 1 0 x72.length))), (8, .one (.e (.sl 2 0 x76.length))), (47, .one (.e (.sl 2 0 x76.length))), (48, I 1)], [.row .ver x1 false, .row .ver x72 true, .row .ver x76 true]⟩ (by kernel_rfl) trivial ?_
            refine bindO_e h (fun v126 hc104 h => ?_)
            obtain ⟨x102, i103⟩ := v126
            refine guardO_e h (fun hl105 h => ?_)
            refine WO_call [.own 2] Try.f31 rfl rfl rfl (by kernel_rfl) rfl rfl (by kernel_rfl) (laws_markVersionS_ok n x76 x76.length 1 x102 i103 hc104) (And.intro (And.intro rfl (And.intro rfl hl105)) (trivial)) rfl ?_
            refine WO_sub [0, 1, 2] [0, 1, 6, 8, 47, 48, 49] (st' := ⟨[(0, .one (.e (.sl 0 0 x1.length))), (1, I i2), (6, .one (.e (.sl 1 0 x72.length))), (8, .one (.e (.sl 2 0 x76.length))), (47, .one (.e (.sl 2 0 x76.length))), (48, I 1), (49, I i103)], [.row .ver x1 false, .row .ver x72 true, .row .ver x102 true]⟩) (by kernel_rfl) ?_
            refine WO_eq (st' := ⟨[(0, .one (.e (.sl 0 0 x1.length))), (1, I i2), (6, .one (.e (.sl 1 0 x72.length))), (8, .one (.e (.sl 2 0 x102.length))), (47, .one (.e (.sl 2 0 x102.length))), (48, I 1), (49, I i103)], [.row .ver x1 false, .row .ver x72 true, .row .ver x102 true]⟩) (by simp only [hl105]) ?_
            refine WO_step 1 [0, 1, 2] [0, 1, 6, 8, 10] True ⟨[(0, .one (.e (.sl 0 0 x1.length))), (1, I i2), (6, .one (.e (.sl 1 0 x72.length))), (8, .one (.e (.sl 2 0 x102.length))), (10, I i103)], [.row .ver x1 false, .row .ver x72 true, .row .ver x102 true]⟩ (by kernel_rfl) trivial ?_
            refine WO_nil rfl ?_
            refine thenS_n ?_
            refine W_seq ?_
            refine W_region ?_
            refine WO_step 1 [0, 1, 2] [0, 1, 6, 8, 10, 11] True ⟨[(0, .one (.e (.sl 0 0 x1.length))), (1, I i2), (6, .one (.e (.sl 1 0 x72.length))), (8, .one (.e (.sl 2 0 x102.length))), (10, I i103), (11, I 1)], [.row .ver x1 false, .row .ver x72 true, .row .ver x102 true]⟩ (by kernel_rfl) trivial ?_
            refine WO_nil rfl ?_
            refine thenS_n ?_
            refine W_seq ?_
            refine W_region ?_
            refine WO_step 2 [0, 1, 2] [0, 1, 6, 8, 10, 50, 51] True ⟨[(0, .one (.e (.sl 0 0 x1.length))), (1, I i2), (6, .one (.e (.sl 1 0 x72.length))), (8, .one (.e (.sl 2 0 x102.length))), (10, I i103), (50, .one (.e (.sl 2 0 x102.length))), (51, I 1)], [.row .ver x1 false, .row .ver x72 true, .row .ver x102 true]⟩ (by kernel_rfl) trivial ?_
            refine bindO_e h (fun i106 hc107 h => ?_)
            refine WO_call [.ro 2] Try.f32 rfl rfl rfl (by kernel_rfl) rfl rfl (by kernel_rfl) (laws_heldVersionS_ok n x102 1 i106 hc107) (And.intro (And.intro rfl rfl) (trivial)) rfl ?_
            refine WO_step 1 [0, 1, 2] [0, 1, 6, 8, 10, 11] True ⟨[(0, .one (.e (.sl 0 0 x1.length))), (1, I i2), (6, .one (.e (.sl 1 0 x72.length))), (8, .one (.e (.sl 2 0 x102.length))), (10, I i103), (11, I i106)], [.row .ver x1 false, .row .ver x72 true, .row .ver x102 true]⟩ (by kernel_rfl) trivial ?_
            refine WO_nil rfl ?_
            refine thenS_n ?_
            refine W_seq ?_
            refine W_seq ?_
            refine W_region ?_
            refine WO_step 2 [0, 1, 2] [0, 1, 6, 8, 10, 11, 54] (True ∧ True) ⟨[(0, .one (.e (.sl 0 0 x1.length))), (1, I i2), (6, .one (.e (.sl 1 0 x72.length))), (8, .one (.e (.sl 2 0 x102.length))), (10, I i103), (11, I i106), (54, B (decide (i106 < 0)))], [.row .ver x1 false, .row .ver x72 true, .row .ver x102 true]⟩ (by kernel_rfl) ⟨trivial, trivial⟩ ?_
            refine WO_nil rfl ?_
            refine thenS_n ?_
            refine iteO_e h (fun hb109 h => W_true rfl hb109 ?_) (fun hb109 h => W_false rfl hb109 ?_)
            · refine W_seq ?_
              refine W_region ?_
              refine WO_step 1 [0] [4] True ⟨[(4, B false)], [.row .ver x1 false]⟩ (by kernel_rfl) trivial ?_
              refine WO_nil rfl ?_
              refine thenS_n ?_
              refine W_ret ?_
              refine thenS_r ?_
              cases h
              exact ⟨[0], True, by kernel_rfl, trivial⟩
            · refine W_sub [0, 1, 2] [0, 1, 6, 8, 10, 11] (st' := ⟨[(0, .one (.e (.sl 0 0 x1.length))), (1, I i2), (6, .one (.e (.sl 1 0 x72.length))), (8, .one (.e (.sl 2 0 x102.length))), (10, I i103), (11, I i106)], [.row .ver x1 false, .row .ver x72 true, .row .ver x102 true]⟩) (by kernel_rfl) ?_
              refine W_skip ?_
              refine thenS_n ?_
              refine W_seq ?_
              refine W_seq ?_
              refine W_region ?_
              refine WO_step 3 [0, 1, 2] [0, 1, 6, 8, 10, 57] (True ∧ True) ⟨[(0, .one (.e (.sl 0 0 x1.length))), (1, I i2), (6, .one (.e (.sl 1 0 x72.length))), (8, .one (.e (.sl 2 0 x102.length))), (10, I i103), (57, B (!decide (i106 = i103)))], [.row .ver x1 false, .row .ver x72 true, .row .ver x102 true]⟩ (by kernel_rfl) ⟨trivial, trivial⟩ ?_
              refine WO_nil rfl ?_
              refine thenS_n ?_
              refine iteO_e h (fun hb111 h => W_true rfl hb111 ?_) (fun hb111 h => W_false rfl hb111 ?_)
              · refine W_seq ?_
                refine W_region ?_
                refine WO_step 1 [0] [4] True ⟨[(4, B false)], [.row .ver x1 false]⟩ (by kernel_rfl) trivial ?_
                refine WO_nil rfl ?_
                refine thenS_n ?_
                refine W_ret ?_
                refine thenS_r ?_
                cases h
                exact ⟨[0], True, by kernel_rfl, trivial⟩
              · refine W_sub [0, 1, 2] [0, 1, 6, 8, 10] (st' := ⟨[(0, .one (.e (.sl 0 0 x1.length))), (1, I i2), (6, .one (.e (.sl 1 0 x72.length))), (8, .one (.e (.sl 2 0 x102.length))), (10, I i103)], [.row .ver x1 false, .row .ver x72 true, .row .ver x102 true]⟩) (by kernel_rfl) ?_
                refine W_skip ?_
                refine thenS_n ?_
                refine W_seq ?_
                refine W_region ?_
                refine WO_step 1 [0, 1, 2] [1, 6, 8, 10, 58] True ⟨[(1, I i2), (6, .one (.e (.sl 1 0 x72.length))), (8, .one (.e (.sl 2 0 x102.length))), (10, I i103), (58, .one (.e (.sl 0 0 x1.length)))], [.row .ver x1 false, .row .ver x72 true, .row .ver x102 true]⟩ (by kernel_rfl) trivial ?_
                refine bindO_e h (fun x112 hc113 h => ?_)
                refine WO_call [.ro 0] Try.f19 rfl rfl rfl (by kernel_rfl) rfl rfl (by kernel_rfl) (laws_toVersionS_ok n x1 x112 hc113) (And.intro (And.intro rfl rfl) (trivial)) rfl ?_
                refine WO_step 1 [0, 1, 2, 3] [6, 8, 10, 59, 60] True ⟨[(6, .one (.e (.sl 1 0 x72.length))), (8, .one (.e (.sl 2 0 x102.length))), (10, I i103), (59, .one (.e (.sl 3 0 x112.length))), (60, I i2)], [.row .ver x1 false, .row .ver x72 true, .row .ver x102 true, .row .ver x112 true]⟩ (by kernel_rfl) trivial ?_
                refine bindO_e h (fun x114 hc115 h => ?_)
                refine WO_call [.ro 3] Try.f34 rfl rfl rfl (by kernel_rfl) rfl rfl (by kernel_rfl) (impl_PruneVersions_ok n x112 i2 x114 hc115) (And.intro (And.intro rfl rfl) (trivial)) rfl ?_
                refine WO_step 1 [0, 1, 2, 4] [6, 8, 10, 12] True ⟨[(6, .one (.e (.sl 1 0 x72.length))), (8, .one (.e (.sl 2 0 x102.length))), (10, I i103), (12, .one (.e (.sl 3 0 x114.length)))], [.row .ver x1 false, .row .ver x72 true, .row .ver x102 true, .row .ver x114 true]⟩ (by kernel_rfl) trivial ?_
                refine WO_nil rfl ?_
                refine thenS_n ?_
                refine W_seq ?_
                refine W_seq ?_
                refine W_region ?_
                refine WO_step 2 [0, 2, 3, 1] [8, 10, 62, 63] True ⟨[(8, .one (.e (.sl 1 0 x102.length))), (10, I i103), (62, .one (.e (.sl 2 0 x114.length))), (63, .one (.e (.sl 3 0 x72.length)))], [.row .ver x1 false, .row .ver x102 true, .row .ver x114 true, .row .ver x72 true]⟩ (by kernel_rfl) trivial ?_
                refine bindO_e h (fun b116 hc117 h => ?_)
                refine WO_call [.ro 2, .ro 3] Try.f21 rfl rfl rfl (by kernel_rfl) rfl rfl (by kernel_rfl) (laws_eqVersionS_ok n x114 x72 b116 hc117) (And.intro (And.intro rfl rfl) (And.intro (And.intro rfl rfl) (trivial))) rfl ?_
                refine WO_step 1 [0, 1] [8, 10, 65] True ⟨[(8, .one (.e (.sl 1 0 x102.length))), (10, I i103), (65, B (!b116))], [.row .ver x1 false, .row .ver x102 true]⟩ (by kernel_rfl) trivial ?_
                refine WO_nil rfl ?_
                refine thenS_n ?_
                refine iteO_e h (fun hb119 h => W_true rfl hb119 ?_) (fun hb119 h => W_false rfl hb119 ?_)
                · refine W_seq ?_
                  refine W_region ?_
                  refine WO_step 1 [0] [4] True ⟨[(4, B false)], [.row .ver x1 false]⟩ (by kernel_rfl) trivial ?_
                  refine WO_nil rfl ?_
                  refine thenS_n ?_
                  refine W_ret ?_
                  refine thenS_r ?_
                  cases h
                  exact ⟨[0], True, by kernel_rfl, trivial⟩
                · refine W_sub [0, 1] [8, 10] (st' := ⟨[(8, .one (.e (.sl 1 0 x102.length))), (10, I i103)], [.row .ver x1 false, .row .ver x102 true]⟩) (by kernel_rfl) ?_
                  refine W_skip ?_
                  refine thenS_n ?_
                  refine W_seq ?_
                  refine W_region ?_
                  refine WO_step 1 [0, 1] [8, 10, 11] True ⟨[(8, .one (.e (.sl 1 0 x102.length))), (10, I i103), (11, I 1)], [.row .ver x1 false, .row .ver x102 true]⟩ (by kernel_rfl) trivial ?_
                  refine WO_nil rfl ?_
                  refine thenS_n ?_
                  refine W_seq ?_
                  refine W_region ?_
                  refine WO_step 2 [0, 1] [10, 66, 67] True ⟨[(10, I i103), (66, .one (.e (.sl 1 0 x102.length))), (67, I 1)], [.row .ver x1 false, .row .ver x102 true]⟩ (by kernel_rfl) trivial ?_
                  refine bindO_e h (fun i120 hc121 h => ?_)
                  refine WO_call [.ro 1] Try.f32 rfl rfl rfl (by kernel_rfl) rfl rfl (by kernel_rfl) (laws_heldVersionS_ok n x102 1 i120 hc121) (And.intro (And.intro rfl rfl) (trivial)) rfl ?_
                  refine WO_step 1 [0] [10, 11] True ⟨[(10, I i103), (11, I i120)], [.row .ver x1 false]⟩ (by kernel_rfl) trivial ?_
                  refine WO_nil rfl ?_
                  refine thenS_n ?_
                  refine W_seq ?_
                  refine W_seq ?_
                  refine W_region ?_
                  refine WO_step 2 [0] [10, 11, 70] (True ∧ True) ⟨[(10, I i103), (11, I i120), (70, B (decide (i120 < 0)))], [.row .ver x1 false]⟩ (by kernel_rfl) ⟨trivial, trivial⟩ ?_
                  refine WO_nil rfl ?_
                  refine thenS_n ?_
                  refine iteO_e h (fun hb123 h => W_true rfl hb123 ?_) (fun hb123 h => W_false rfl hb123 ?_)
                  · refine W_seq ?_
                    refine W_region ?_
                    refine WO_step 1 [0] [4] True ⟨[(4, B false)], [.row .ver x1 false]⟩ (by kernel_rfl) trivial ?_
                    refine WO_nil rfl ?_
                    refine thenS_n ?_
                    refine W_ret ?_
                    refine thenS_r ?_
                    cases h
                    exact ⟨[0], True, by kernel_rfl, trivial⟩
                  · refine W_sub [0] [10, 11] (st' := ⟨[(10, I i103), (11, I i120)], [.row .ver x1 false]⟩) (by kernel_rfl) ?_
                    refine W_skip ?_
                    refine thenS_n ?_
                    refine W_seq ?_
                    refine W_seq ?_
                    refine W_region ?_
                    refine WO_step 3 [0] [73] (True ∧ True) ⟨[(73, B (!decide (i120 = i103)))], [.row .ver x1 false]⟩ (by kernel_rfl) ⟨trivial, trivial⟩ ?_
                    refine WO_nil rfl ?_
                    refine thenS_n ?_
                    refine iteO_e h (fun hb125 h => W_true rfl hb125 ?_) (fun hb125 h => W_false rfl hb125 ?_)
                    · refine W_seq ?_
                      refine W_region ?_
                      refine WO_step 1 [0] [4] True ⟨[(4, B false)], [.row .ver x1 false]⟩ (by kernel_rfl) trivial ?_
                      refine WO_nil rfl ?_
                      refine thenS_n ?_
                      refine W_ret ?_
                      refine thenS_r ?_
                      cases h
                      exact ⟨[0], True, by kernel_rfl, trivial⟩
                    · refine W_sub [0] [] (st' := ⟨[], [.row .ver x1 false]⟩) (by kernel_rfl) ?_
                      refine W_skip ?_
                      refine thenS_n ?_
                      refine W_seq ?_
                      refine W_region ?_
                      refine WO_step 1 [0] [4] True ⟨[(4, B true)], [.row .ver x1 false]⟩ (by kernel_rfl) trivial ?_
                      refine WO_nil rfl ?_
                      refine thenS_n ?_
                      refine W_ret ?_
                      cases h
                      exact ⟨[0], True, by kernel_rfl, trivial⟩

/- laws.FnPruneVersions -/
def laws_FnPruneVersions_L2 (x447 : List Ver) (i448 : Int) (x450 : List Ver) (i598 : Int) (x1 : List Int) : Nat → Int → Option ((Unit) ⊕ (Unit))
| 0, _ => none
| n + 1, i822 =>
 iteO (decide (i822 ≤ (w64 (i448 + 8))))
 (bindO (impl_ReadAsOf n x447 i598 i822) fun (i868, b869) =>
 bindO (impl_ReadAsOf n x450 i598 i822) fun (i871, b872) =>
 iteO ((!(b869 == b872)) || (!decide (i868 = i871)))
 (some (.inl ()))
 (laws_FnPruneVersions_L2 x447 i448 x450 i598 x1 n (w64 (i822 + 1))))
 (some (.inr ()))

theorem laws_FnPruneVersions_L2_ok (w : World) (X : Nat → Prop) (θ : List Loc) (x447 : List Ver) (i448 : Int) (x450 : List Ver) (i598 : Int) (x1 : List Int) (v : (Unit) ⊕ (Unit)) : ∀ (n : Nat) (i822 : Int), laws_FnPruneVersions_L2 x447 i448 x450 i598 x1 n i822 = some v → WL EE ⟨w, X, θ, 81, 1⟩ (subC [1, 1, 1, 1, 1, 0, 1, 4, 4, 1, 0, 4, 1, 4, 4] (bodyC Try.f16)) (fun (e : Exit) (s : St) => (match v with | (.inl _) => e = .ret ∧ s = ⟨[(2, B false)], [.row .u8 x1 false]⟩ | (.inr _) => e = .exit 2 ∧ s = ⟨[(3, .one (.e (.sl 1 0 x447.length))), (4, I i448), (5, .one (.e (.sl 2 0 x450.length))), (6, I i598)], [.row .u8 x1 false, .row .ver x447 true, .row .ver x450 true]⟩ : Prop)) ⟨[(3, .one (.e (.sl 1 0 x447.length))), (4, I i448), (5, .one (.e (.sl 2 0 x450.length))), (6, I i598), (7, I i822)], [.row .u8 x1 false, .row .ver x447 true, .row .ver x450 true]⟩ := by
  intro n
  induction n with
  | zero => intro _ h; exact none_e h
  | succ n ih =>
    intro i822 h
    rw [laws_FnPruneVersions_L2] at h
    refine WL_round ?_
    refine W_seq ?_
    refine W_seq ?_
    refine W_region ?_
    refine WO_step 4 [0, 1, 2] [3, 4, 5, 6, 7, 47] (True ∧ (True ∧ True)) ⟨[(3, .one (.e (.sl 1 0 x447.length))), (4, I i448), (5, .one (.e (.sl 2 0 x450.length))), (6, I i598), (7, I i822), (47, B (decide (i822 ≤ (w64 (i448 + 8)))))], [.row .u8 x1 false, .row .ver x447 true, .row .ver x450 true]⟩ (by kernel_rfl) ⟨trivial, trivial, trivial⟩ ?_
    refine WO_nil rfl ?_
    refine thenS_n ?_
    refine iteO_e h (fun hb854 h => W_true rfl hb854 ?_) (fun hb854 h => W_false rfl hb854 ?_)
    · refine W_sub [0, 1, 2] [3, 4, 5, 6, 7] (st' := ⟨[(3, .one (.e (.sl 1 0 x447.length))), (4, I i448), (5, .one (.e (.sl 2 0 x450.length))), (6, I i598), (7, I i822)], [.row .u8 x1 false, .row .ver x447 true, .row .ver x450 true]⟩) (by kernel_rfl) ?_
      refine W_skip ?_
      refine thenS_n ?_
      refine W_seq ?_
      refine W_block ?_
      refine W_seq ?_
      refine W_region ?_
      refine WO_step 3 [0, 1, 2] [3, 4, 5, 6, 7, 51, 52, 53] True ⟨[(3, .one (.e (.sl 1 0 x447.length))), (4, I i448), (5, .one (.e (.sl 2 0 x450.length))), (6, I i598), (7, I i822), (51, .one (.e (.sl 1 0 x447.length))), (52, I i598), (53, I i822)], [.row .u8 x1 false, .row .ver x447 true, .row .ver x450 true]⟩ (by kernel_rfl) trivial ?_
      refine bindO_e h (fun v880 hc870 h => ?_)
      obtain ⟨i868, b869⟩ := v880
      refine WO_call [.ro 1] Try.f24 rfl rfl rfl (by kernel_rfl) rfl rfl (by kernel_rfl) (impl_ReadAsOf_ok n x447 i598 i822 i868 b869 hc870) (And.intro (And.intro rfl rfl) (trivial)) rfl ?_
      refine WO_step 5 [0, 1, 2] [3, 4, 5, 6, 7, 8, 9] True ⟨[(3, .one (.e (.sl 1 0 x447.length))), (4, I i448), (5, .one (.e (.sl 2 0 x450.length))), (6, I i598), (7, I i822), (8, I i868), (9, B b869)], [.row .u8 x1 false, .row .ver x447 true, .row .ver x450 true]⟩ (by kernel_rfl) trivial ?_
      refine WO_nil rfl ?_
      refine thenS_n ?_
      refine W_seq ?_
      refine W_region ?_
      refine WO_step 3 [0, 1, 2] [3, 4, 5, 6, 7, 8, 9, 58, 59, 60] True ⟨[(3, .one (.e (.sl 1 0 x447.length))), (4, I i448), (5, .one (.e (.sl 2 0 x450.length))), (6, I i598), (7, I i822), (8, I i868), (9, B b869), (58, .one (.e (.sl 2 0 x450.length))), (59, I i598), (60, I i822)], [.row .u8 x1 false, .row .ver x447 true, .row .ver x450 true]⟩ (by kernel_rfl) trivial ?_
      refine bindO_e h (fun v879 hc873 h => ?_)
      obtain ⟨i871, b872⟩ := v879
      refine WO_call [.ro 2] Try.f24 rfl rfl rfl (by kernel_rfl) rfl rfl (by kernel_rfl) (impl_ReadAsOf_ok n x450 i598 i822 i871 b872 hc873) (And.intro (And.intro rfl rfl) (trivial)) rfl ?_
      refine WO_step 5 [0, 1, 2] [3, 4, 5, 6, 7, 8, 9, 10, 11] True ⟨[(3, .one (.e (.sl 1 0 x447.length))), (4, I i448), (5, .one (.e (.sl 2 0 x450.length))), (6, I i598), (7, I i822), (8, I i868), (9, B b869), (10, I i871), (11, B b872)], [.row .u8 x1 false, .row .ver x447 true, .row .ver x450 true]⟩ (by kernel_rfl) trivial ?_
      refine WO_nil rfl ?_
      refine thenS_n ?_
      refine W_seq ?_
      refine W_region ?_
      refine WO_step 4 [0, 1, 2] [3, 4, 5, 6, 7, 8, 10, 67] (True ∧ True) ⟨[(3, .one (.e (.sl 1 0 x447.length))), (4, I i448), (5, .one (.e (.sl 2 0 x450.length))), (6, I i598), (7, I i822), (8, I i868), (10, I i871), (67, B (!(b869 == b872)))], [.row .u8 x1 false, .row .ver x447 true, .row .ver x450 true]⟩ (by kernel_rfl) ⟨trivial, trivial⟩ ?_
      refine WO_thru ⟨[(3, .one (.e (.sl 1 0 x447.length))), (4, I i448), (5, .one (.e (.sl 2 0 x450.length))), (6, I i598), (7, I i822), (71, B ((!(b869 == b872)) || (!decide (i868 = i871))))], [.row .u8 x1 false, .row .ver x447 true, .row .ver x450 true]⟩ ?_ ?_
      · refine WO_if 67 rfl (fun hb876 => ?_) (fun hb876 => ?_)
        · refine WO_step 4 [0, 1, 2] [3, 4, 5, 6, 7, 71] True ⟨[(3, .one (.e (.sl 1 0 x447.length))), (4, I i448), (5, .one (.e (.sl 2 0 x450.length))), (6, I i598), (7, I i822), (71, B true)], [.row .u8 x1 false, .row .ver x447 true, .row .ver x450 true]⟩ (by kernel_rfl) trivial ?_
          exact WO_nil rfl ⟨rfl, by first | rfl | (rw [hb876]; first | done | rfl)⟩
        · refine WO_step 4 [0, 1, 2] [3, 4, 5, 6, 7, 71] (True ∧ True) ⟨[(3, .one (.e (.sl 1 0 x447.length))), (4, I i448), (5, .one (.e (.sl 2 0 x450.length))), (6, I i598), (7, I i822), (71, B (!decide (i868 = i871)))], [.row .u8 x1 false, .row .ver x447 true, .row .ver x450 true]⟩ (by kernel_rfl) ⟨trivial, trivial⟩ ?_
          exact WO_nil rfl ⟨rfl, by first | rfl | (rw [hb876]; first | done | rfl)⟩
      · refine thenS_n ?_
        refine iteO_e h (fun hb878 h => W_true rfl hb878 ?_) (fun hb878 h => W_false rfl hb878 ?_)
        · refine W_seq ?_
          refine W_region ?_
          refine WO_step 1 [0] [2] True ⟨[(2, B false)], [.row .u8 x1 false]⟩ (by kernel_rfl) trivial ?_
          refine WO_nil rfl ?_
          refine thenS_n ?_
          refine W_ret ?_
          refine blockS_r ?_
          refine thenS_r ?_
          refine thenS_r ?_
          cases h
          exact And.intro rfl rfl
        · refine W_sub [0, 1, 2] [3, 4, 5, 6, 7] (st' := ⟨[(3, .one (.e (.sl 1 0 x447.length))), (4, I i448), (5, .one (.e (.sl 2 0 x450.length))), (6, I i598), (7, I i822)], [.row .u8 x1 false, .row .ver x447 true, .row .ver x450 true]⟩) (by kernel_rfl) ?_
          refine W_skip ?_
          refine blockS_n ?_
          refine thenS_n ?_
          refine W_region ?_
          refine WO_step 3 [0, 1, 2] [3, 4, 5, 6, 7] (True ∧ True) ⟨[(3, .one (.e (.sl 1 0 x447.length))), (4, I i448), (5, .one (.e (.sl 2 0 x450.length))), (6, I i598), (7, I (w64 (i822 + 1)))], [.row .u8 x1 false, .row .ver x447 true, .row .ver x450 true]⟩ (by kernel_rfl) ⟨trivial, trivial⟩ ?_
          refine WO_nil rfl ?_
          refine thenS_n ?_
          exact ih _ h
    · refine W_sub [0, 1, 2] [3, 4, 5, 6] (st' := ⟨[(3, .one (.e (.sl 1 0 x447.length))), (4, I i448), (5, .one (.e (.sl 2 0 x450.length))), (6, I i598)], [.row .u8 x1 false, .row .ver x447 true, .row .ver x450 true]⟩) (by kernel_rfl) ?_
      refine W_exit ?_
      refine thenS_e ?_
      refine thenS_e ?_
      cases h
      exact And.intro rfl rfl

def laws_FnPruneVersions_L1 (x447 : List Ver) (i448 : Int) (x450 : List Ver) (x1 : List Int) : Nat → Int → Option ((Unit) ⊕ (Unit))
| 0, _ => none
| n + 1, i598 =>
 iteO (decide (i598 < 12))
 (bindO (laws_FnPruneVersions_L2 x447 i448 x450 i598 x1 n i448) fun v881 =>
 match v881 with
 | (.inl _) => (some (.inl ()))
 | (.inr _) => (laws_FnPruneVersions_L1 x447 i448 x450 x1 n (w64 (i598 + 1)))
)
 (some (.inr ()))

theorem laws_FnPruneVersions_L1_ok (w : World) (X : Nat → Prop) (θ : List Loc) (x447 : List Ver) (i448 : Int) (x450 : List Ver) (x1 : List Int) (v : (Unit) ⊕ (Unit)) : ∀ (n : Nat) (i598 : Int), laws_FnPruneVersions_L1 x447 i448 x450 x1 n i598 = some v → WL EE ⟨w, X, θ, 81, 1⟩ (subC [1, 1, 1, 1, 1, 0, 1, 4, 4] (bodyC Try.f16)) (fun (e : Exit) (s : St) => (match v with | (.inl _) => e = .ret ∧ s = ⟨[(2, B false)], [.row .u8 x1 false]⟩ | (.inr _) => e = .exit 0 ∧ s = ⟨[(3, .one (.e (.sl 1 0 x447.length))), (5, .one (.e (.sl 2 0 x450.length)))], [.row .u8 x1 false, .row .ver x447 true, .row .ver x450 true]⟩ : Prop)) ⟨[(3, .one (.e (.sl 1 0 x447.length))), (4, I i448), (5, .one (.e (.sl 2 0 x450.length))), (6, I i598)], [.row .u8 x1 false, .row .ver x447 true, .row .ver x450 true]⟩ := by
  intro n
  induction n with
  | zero => intro _ h; exact none_e h
  | succ n ih =>
    intro i598 h
    rw [laws_FnPruneVersions_L1] at h
    refine WL_round ?_
    refine W_seq ?_
    refine W_seq ?_
    refine W_region ?_
    refine WO_step 2 [0, 1, 2] [3, 4, 5, 6, 40] (True ∧ True) ⟨[(3, .one (.e (.sl 1 0 x447.length))), (4, I i448), (5, .one (.e (.sl 2 0 x450.length))), (6, I i598), (40, B (decide (i598 < 12)))], [.row .u8 x1 false, .row .ver x447 true, .row .ver x450 true]⟩ (by kernel_rfl) ⟨trivial, trivial⟩ ?_
    refine WO_nil rfl ?_
    refine thenS_n ?_
    refine iteO_e h (fun hb728 h => W_true rfl hb728 ?_) (fun hb728 h => W_false rfl hb728 ?_)
    · refine W_sub [0, 1, 2] [3, 4, 5, 6] (st' := ⟨[(3, .one (.e (.sl 1 0 x447.length))), (4, I i448), (5, .one (.e (.sl 2 0 x450.length))), (6, I i598)], [.row .u8 x1 false, .row .ver x447 true, .row .ver x450 true]⟩) (by kernel_rfl) ?_
      refine W_skip ?_
      refine thenS_n ?_
      refine W_seq ?_
      refine W_block ?_
      refine W_seq ?_
      refine W_region ?_
      refine WO_step 2 [0, 1, 2] [3, 4, 5, 6, 7] True ⟨[(3, .one (.e (.sl 1 0 x447.length))), (4, I i448), (5, .one (.e (.sl 2 0 x450.length))), (6, I i598), (7, I i448)], [.row .u8 x1 false, .row .ver x447 true, .row .ver x450 true]⟩ (by kernel_rfl) trivial ?_
      refine WO_nil rfl ?_
      refine thenS_n ?_
      refine W_block ?_
      refine W_loop ?_
      refine bindO_e h (fun v881 hv881 h => ?_)
      refine WL_cut (laws_FnPruneVersions_L2_ok w X θ x447 i448 x450 i598 x1 v881 n i448 hv881) ?_
      rcases v881 with _ | _
      · rintro _ _ ⟨rfl, rfl⟩
        refine blockS_r ?_
        refine blockS_r ?_
        refine thenS_r ?_
        refine thenS_r ?_
        cases h
        exact And.intro rfl rfl
      · rintro _ _ ⟨rfl, rfl⟩
        refine blockS_y ?_
        refine blockS_n ?_
        refine thenS_n ?_
        refine W_region ?_
        refine WO_step 3 [0, 1, 2] [3, 4, 5, 6] (True ∧ True) ⟨[(3, .one (.e (.sl 1 0 x447.length))), (4, I i448), (5, .one (.e (.sl 2 0 x450.length))), (6, I (w64 (i598 + 1)))], [.row .u8 x1 false, .row .ver x447 true, .row .ver x450 true]⟩ (by kernel_rfl) ⟨trivial, trivial⟩ ?_
        refine WO_nil rfl ?_
        refine thenS_n ?_
        exact ih _ h
    · refine W_sub [0, 1, 2] [3, 5] (st' := ⟨[(3, .one (.e (.sl 1 0 x447.length))), (5, .one (.e (.sl 2 0 x450.length)))], [.row .u8 x1 false, .row .ver x447 true, .row .ver x450 true]⟩) (by kernel_rfl) ?_
      refine W_exit ?_
      refine thenS_e ?_
      refine thenS_e ?_
      cases h
      exact And.intro rfl rfl

def laws_FnPruneVersions (n : Nat) (x1 : List Int) : Option (Bool) :=
 iteO (decide (1048576 < ((x1.length : Nat) : Int)))
 (some true)
 (bindO (spec_DrawPruneVersions n x1) fun (x447, i448) =>
 bindO (impl_PruneVersions n x447 i448) fun x450 =>
 bindO (spec_PruneVersions n x447 i448) fun x452 =>
 bindO (laws_equalVersions n x450 x452) fun b454 =>
 iteO ((!b454) || (decide (((x450.length : Nat) : Int) = 0)))
 (bindO (spec_PruneVersions n x447 i448) fun x465 =>
 bindO (laws_equalVersions n x450 x465) fun b467 =>
 some b467)
 (bindO (laws_FnPruneVersions_L1 x447 i448 x450 x1 n 0) fun v882 =>
 match v882 with
 | (.inl _) => (some false)
 | (.inr _) => (bindO (impl_ValidVersions n x450) fun b883 =>
 some (b883 && (decide (((x450.length : Nat) : Int) ≤ ((x447.length : Nat) : Int)))))
))

theorem laws_FnPruneVersions_ok (n : Nat) (x1 : List Int) (b444 : Bool) (h : laws_FnPruneVersions n x1 = some b444) : FOk EE 16 [.one (.e (.sl 0 0 x1.length))] [.row .u8 x1 false] (B b444) [.row .u8 x1 false] := by
  unfold laws_FnPruneVersions at h
  refine FOk_of_W 81 1 Try.func16 rfl rfl (Nat.le_of_ble_eq_true rfl) rfl (fun w X θ => ?_)
  refine W_seq ?_
  refine W_region ?_
  refine WO_step 1 [0] [0] True ⟨[(0, .one (.e (.sl 0 0 x1.length)))], [.row .u8 x1 false]⟩ (by kernel_rfl) trivial ?_
  refine WO_nil rfl ?_
  refine thenS_n ?_
  refine W_seq ?_
  refine W_seq ?_
  refine W_region ?_
  refine WO_step 3 [0] [0, 14] (True ∧ (True ∧ True)) ⟨[(0, .one (.e (.sl 0 0 x1.length))), (14, B (decide (1048576 < ((x1.length : Nat) : Int))))], [.row .u8 x1 false]⟩ (by kernel_rfl) ⟨trivial, trivial, trivial⟩ ?_
  refine WO_nil rfl ?_
  refine thenS_n ?_
  refine iteO_e h (fun hb446 h => W_true rfl hb446 ?_) (fun hb446 h => W_false rfl hb446 ?_)
  · refine W_seq ?_
    refine W_region ?_
    refine WO_step 1 [0] [2] True ⟨[(2, B true)], [.row .u8 x1 false]⟩ (by kernel_rfl) trivial ?_
    refine WO_nil rfl ?_
    refine thenS_n ?_
    refine W_ret ?_
    refine thenS_r ?_
    cases h
    exact ⟨[0], True, by kernel_rfl, trivial⟩
  · refine W_sub [0] [0] (st' := ⟨[(0, .one (.e (.sl 0 0 x1.length)))], [.row .u8 x1 false]⟩) (by kernel_rfl) ?_
    refine W_skip ?_
    refine thenS_n ?_
    refine W_seq ?_
    refine W_region ?_
    refine WO_step 1 [0] [16] True ⟨[(16, .one (.e (.sl 0 0 x1.length)))], [.row .u8 x1 false]⟩ (by kernel_rfl) trivial ?_
    refine bindO_e h (fun v888 hc449 h => ?_)
    obtain ⟨x447, i448⟩ := v888
    refine WO_call [.ro 0] Try.f33 rfl rfl rfl (by kernel_rfl) rfl rfl (by kernel_rfl) (spec_DrawPruneVersions_ok n x1 x447 i448 hc449) (And.intro (And.intro rfl rfl) (trivial)) rfl ?_
    refine WO_step 5 [0, 1] [3, 4] True ⟨[(3, .one (.e (.sl 1 0 x447.length))), (4, I i448)], [.row .u8 x1 false, .row .ver x447 true]⟩ (by kernel_rfl) trivial ?_
    refine WO_nil rfl ?_
    refine thenS_n ?_
    refine W_seq ?_
    refine W_region ?_
    refine WO_step 2 [0, 1] [3, 4, 20, 21] True ⟨[(3, .one (.e (.sl 1 0 x447.length))), (4, I i448), (20, .one (.e (.sl 1 0 x447.length))), (21, I i448)], [.row .u8 x1 false, .row .ver x447 true]⟩ (by kernel_rfl) trivial ?_
    refine bindO_e h (fun x450 hc451 h => ?_)
    refine WO_call [.ro 1] Try.f34 rfl rfl rfl (by kernel_rfl) rfl rfl (by kernel_rfl) (impl_PruneVersions_ok n x447 i448 x450 hc451) (And.intro (And.intro rfl rfl) (trivial)) rfl ?_
    refine WO_step 1 [0, 1, 2] [3, 4, 5] True ⟨[(3, .one (.e (.sl 1 0 x447.length))), (4, I i448), (5, .one (.e (.sl 2 0 x450.length)))], [.row .u8 x1 false, .row .ver x447 true, .row .ver x450 true]⟩ (by kernel_rfl) trivial ?_
    refine WO_nil rfl ?_
    refine thenS_n ?_
    refine W_seq ?_
    refine W_seq ?_
    refine W_region ?_
    refine WO_step 3 [0, 1, 2] [3, 4, 5, 23, 24, 25] True ⟨[(3, .one (.e (.sl 1 0 x447.length))), (4, I i448), (5, .one (.e (.sl 2 0 x450.length))), (23, .one (.e (.sl 2 0 x450.length))), (24, .one (.e (.sl 1 0 x447.length))), (25, I i448)], [.row .u8 x1 false, .row .ver x447 true, .row .ver x450 true]⟩ (by kernel_rfl) trivial ?_
    refine bindO_e h (fun x452 hc453 h => ?_)
    refine WO_call [.ro 1] Try.f35 rfl rfl rfl (by kernel_rfl) rfl rfl (by kernel_rfl) (spec_PruneVersions_ok n x447 i448 x452 hc453) (And.intro (And.intro rfl rfl) (trivial)) rfl ?_
    refine WO_sub [0, 1, 2, 3] [3, 4, 5, 23, 26] (st' := ⟨[(3, .one (.e (.sl 1 0 x447.length))), (4, I i448), (5, .one (.e (.sl 2 0 x450.length))), (23, .one (.e (.sl 2 0 x450.length))), (26, .one (.e (.sl 3 0 x452.length)))], [.row .u8 x1 false, .row .ver x447 true, .row .ver x450 true, .row .ver x452 true]⟩) (by kernel_rfl) ?_
    refine bindO_e h (fun b454 hc455 h => ?_)
    refine WO_call [.ro 2, .ro 3] Try.f29 rfl rfl rfl (by kernel_rfl) rfl rfl (by kernel_rfl) (laws_equalVersions_ok n x450 x452 b454 hc455) (And.intro (And.intro rfl rfl) (And.intro (And.intro rfl rfl) (trivial))) rfl ?_
    refine WO_step 2 [0, 1, 2] [3, 4, 5, 29] True ⟨[(3, .one (.e (.sl 1 0 x447.length))), (4, I i448), (5, .one (.e (.sl 2 0 x450.length))), (29, B (!b454))], [.row .u8 x1 false, .row .ver x447 true, .row .ver x450 true]⟩ (by kernel_rfl) trivial ?_
    refine WO_thru ⟨[(3, .one (.e (.sl 1 0 x447.length))), (4, I i448), (5, .one (.e (.sl 2 0 x450.length))), (33, B ((!b454) || (decide (((x450.length : Nat) : Int) = 0))))], [.row .u8 x1 false, .row .ver x447 true, .row .ver x450 true]⟩ ?_ ?_
    · refine WO_if 29 rfl (fun hb458 => ?_) (fun hb458 => ?_)
      · refine WO_step 4 [0, 1, 2] [3, 4, 5, 33] True ⟨[(3, .one (.e (.sl 1 0 x447.length))), (4, I i448), (5, .one (.e (.sl 2 0 x450.length))), (33, B true)], [.row .u8 x1 false, .row .ver x447 true, .row .ver x450 true]⟩ (by kernel_rfl) trivial ?_
        exact WO_nil rfl ⟨rfl, by first | rfl | (rw [hb458]; first | done | rfl)⟩
      · refine WO_step 4 [0, 1, 2] [3, 4, 5, 33] (True ∧ (True ∧ True)) ⟨[(3, .one (.e (.sl 1 0 x447.length))), (4, I i448), (5, .one (.e (.sl 2 0 x450.length))), (33, B (decide (((x450.length : Nat) : Int) = 0)))], [.row .u8 x1 false, .row .ver x447 true, .row .ver x450 true]⟩ (by kernel_rfl) ⟨trivial, trivial, trivial⟩ ?_
        exact WO_nil rfl ⟨rfl, by first | rfl | (rw [hb458]; first | done | rfl)⟩
    · refine thenS_n ?_
      refine iteO_e h (fun hb464 h => W_true rfl hb464 ?_) (fun hb464 h => W_false rfl hb464 ?_)
      · refine W_seq ?_
        refine W_region ?_
        refine WO_step 3 [0, 2, 1] [34, 35, 36] True ⟨[(34, .one (.e (.sl 1 0 x450.length))), (35, .one (.e (.sl 2 0 x447.length))), (36, I i448)], [.row .u8 x1 false, .row .ver x450 true, .row .ver x447 true]⟩ (by kernel_rfl) trivial ?_
        refine bindO_e h (fun x465 hc466 h => ?_)
        refine WO_call [.ro 2] Try.f35 rfl rfl rfl (by kernel_rfl) rfl rfl (by kernel_rfl) (spec_PruneVersions_ok n x447 i448 x465 hc466) (And.intro (And.intro rfl rfl) (trivial)) rfl ?_
        refine WO_sub [0, 1, 3] [34, 37] (st' := ⟨[(34, .one (.e (.sl 1 0 x450.length))), (37, .one (.e (.sl 2 0 x465.length)))], [.row .u8 x1 false, .row .ver x450 true, .row .ver x465 true]⟩) (by kernel_rfl) ?_
        refine bindO_e h (fun b467 hc468 h => ?_)
        refine WO_call [.ro 1, .ro 2] Try.f29 rfl rfl rfl (by kernel_rfl) rfl rfl (by kernel_rfl) (laws_equalVersions_ok n x450 x465 b467 hc468) (And.intro (And.intro rfl rfl) (And.intro (And.intro rfl rfl) (trivial))) rfl ?_
        refine WO_step 1 [0] [2] True ⟨[(2, B b467)], [.row .u8 x1 false]⟩ (by kernel_rfl) trivial ?_
        refine WO_nil rfl ?_
        refine thenS_n ?_
        refine W_ret ?_
        refine thenS_r ?_
        cases h
        exact ⟨[0], True, by kernel_rfl, trivial⟩
      · refine W_sub [0, 1, 2] [3, 4, 5] (st' := ⟨[(3, .one (.e (.sl 1 0 x447.length))), (4, I i448), (5, .one (.e (.sl 2 0 x450.length)))], [.row .u8 x1 false, .row .ver x447 true, .row .ver x450 true]⟩) (by kernel_rfl) ?_
        refine W_skip ?_
        refine thenS_n ?_
        refine W_seq ?_
        refine W_seq ?_
        refine W_region ?_
        refine WO_step 1 [0, 1, 2] [3, 4, 5, 6] True ⟨[(3, .one (.e (.sl 1 0 x447.length))), (4, I i448), (5, .one (.e (.sl 2 0 x450.length))), (6, I 0)], [.row .u8 x1 false, .row .ver x447 true, .row .ver x450 true]⟩ (by kernel_rfl) trivial ?_
        refine WO_nil rfl ?_
        refine thenS_n ?_
        refine W_block ?_
        refine W_loop ?_
        refine bindO_e h (fun v882 hv882 h => ?_)
        refine WL_cut (laws_FnPruneVersions_L1_ok w X θ x447 i448 x450 x1 v882 n 0 hv882) ?_
        rcases v882 with _ | _
        · rintro _ _ ⟨rfl, rfl⟩
          refine blockS_r ?_
          refine thenS_r ?_
          cases h
          exact ⟨[0], True, by kernel_rfl, trivial⟩
        · rintro _ _ ⟨rfl, rfl⟩
          refine blockS_y ?_
          refine thenS_n ?_
          refine W_seq ?_
          refine W_region ?_
          refine WO_step 1 [0, 1, 2] [3, 5, 72] True ⟨[(3, .one (.e (.sl 1 0 x447.length))), (5, .one (.e (.sl 2 0 x450.length))), (72, .one (.e (.sl 2 0 x450.length)))], [.row .u8 x1 false, .row .ver x447 true, .row .ver x450 true]⟩ (by kernel_rfl) trivial ?_
          refine bindO_e h (fun b883 hc884 h => ?_)
          refine WO_call [.ro 2] Try.f20 rfl rfl rfl (by kernel_rfl) rfl rfl (by kernel_rfl) (impl_ValidVersions_ok n x450 b883 hc884) (And.intro (And.intro rfl rfl) (trivial)) rfl ?_
          refine WO_step 1 [0, 1, 2] [3, 5, 74] True ⟨[(3, .one (.e (.sl 1 0 x447.length))), (5, .one (.e (.sl 2 0 x450.length))), (74, B b883)], [.row .u8 x1 false, .row .ver x447 true, .row .ver x450 true]⟩ (by kernel_rfl) trivial ?_
          refine WO_thru ⟨[(2, B (b883 && (decide (((x450.length : Nat) : Int) ≤ ((x447.length : Nat) : Int)))))], [.row .u8 x1 false]⟩ ?_ ?_
          · refine WO_if 74 rfl (fun hb887 => ?_) (fun hb887 => ?_)
            · refine WO_step 7 [0] [2] (True ∧ (True ∧ (True ∧ True))) ⟨[(2, B (decide (((x450.length : Nat) : Int) ≤ ((x447.length : Nat) : Int))))], [.row .u8 x1 false]⟩ (by kernel_rfl) ⟨trivial, trivial, trivial, trivial⟩ ?_
              exact WO_nil rfl ⟨rfl, by first | rfl | (rw [hb887]; first | done | rfl)⟩
            · refine WO_step 7 [0] [2] True ⟨[(2, B false)], [.row .u8 x1 false]⟩ (by kernel_rfl) trivial ?_
              exact WO_nil rfl ⟨rfl, by first | rfl | (rw [hb887]; first | done | rfl)⟩
          · refine thenS_n ?_
            refine W_ret ?_
            cases h
            exact ⟨[0], True, by kernel_rfl, trivial⟩

end Go.Proofs.Ytnaogmahijgibaa
